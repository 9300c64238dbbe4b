/- Groves, the reference: histories; the first days are one. No condition but bounds. -/
import Derived.Test.YtpknbojgkkmonaaWChm
set_option linter.unusedSimpArgs false
set_option linter.unusedVariables false
namespace Go.Proofs.Ytpknbojgkkmonaa
open Go Go.RowKit
variable {G : Nat → Option (Nat × (Nat → Val))}
section
variable {g : Gv} {N D : Nat → Int} {i : Nat}
theorem First.geN (h : First g N D) (hN : ∀ i,i < g.palms.1 → N i ≤ 100001) (hi : i < g.palms.1) : N i ≤ D i := by
  have hM : Sat g N (fun z => max (D z) (N z)) := by
    refine ⟨fun z hz => ?_,fun z hz hs hn => ?_,fun z k hz hk hzk hd hn => ?_,fun z k hz hk hd hgi => ?_⟩
    · have := h.1.top z hz; have := hN z hz; show max (D z) (N z) ≤ 100001; omega
    · have := h.1.sus z hz hs hn; show max (D z) (N z) ≤ g.start; omega
    · have hd : max (D k) (N k) < 100001 := hd
      have := h.1.fly z k hz hk hzk (by omega) hn
      show max (D z) (N z) ≤ flyF g N z (max (D k) (N k))
      unfold flyF at this ⊢; omega
    · have hd : max (D k) (N k) < 100001 := hd
      have h3 : max (D k) (N k) ≤ (g.palms.2 z).planted := hgi.2.2.1
      have h4 := hgi.2.2.2
      have := h.1.gift z k hz hk (by omega) ⟨hgi.1,hgi.2.1,by omega,h4⟩
      show max (D z) (N z) ≤ _; omega
  have := h.2 _ hM i hi
  try simp only at this
  omega
theorem First.late (hg : GvOk g) (h : First g N D) (hi : i < g.palms.1) (hs : ¬ susP g (g.palms.2 i).id) : g.start + 1 ≤ D i ∧ (g.palms.2 i).planted ≤ D i := by
  have hst := hg.start
  have hha := hg.hatch
  have hlo := h.low hg
  have hM : Sat g N (fun z => @ite _ (susP g (g.palms.2 z).id) (Classical.propDecidable _) (D z) (max (max (D z) (g.start + 1)) (g.palms.2 z).planted)) := by
    have up : ∀ z,D z ≤ @ite _ (susP g (g.palms.2 z).id) (Classical.propDecidable _) (D z) (max (max (D z) (g.start + 1)) (g.palms.2 z).planted) := fun z => by
      by_cases e : susP g (g.palms.2 z).id
      · rw [@if_pos _ (Classical.propDecidable _) e]; omega
      · rw [@if_neg _ (Classical.propDecidable _) e]; omega
    refine ⟨fun z hz => ?_,fun z hz hs' hn => ?_,fun z k hz hk hzk hd hn => ?_,fun z k hz hk hd hgi => ?_⟩
    · have h1 := h.1.top z hz
      have h2 := (hg.pms.pl z hz).2
      show @ite _ (susP g (g.palms.2 z).id) (Classical.propDecidable _) (D z) _ ≤ 100001
      by_cases e : susP g (g.palms.2 z).id
      · rw [@if_pos _ (Classical.propDecidable _) e]; omega
      · rw [@if_neg _ (Classical.propDecidable _) e]; omega
    · show @ite _ (susP g (g.palms.2 z).id) (Classical.propDecidable _) (D z) _ ≤ g.start
      rw [@if_pos _ (Classical.propDecidable _) hs']
      exact h.1.sus z hz hs' hn
    · have hk2 := up k
      have hd : @ite _ (susP g (g.palms.2 k).id) (Classical.propDecidable _) (D k) (max (max (D k) (g.start + 1)) (g.palms.2 k).planted) < 100001 := hd
      have h1 := h.1.fly z k hz hk hzk (by omega) hn
      have h2 := (hlo k hk).1
      show @ite _ (susP g (g.palms.2 z).id) (Classical.propDecidable _) (D z) _ ≤ flyF g N z _
      unfold flyF at h1 ⊢
      by_cases e : susP g (g.palms.2 z).id
      · rw [@if_pos _ (Classical.propDecidable _) e]; omega
      · rw [@if_neg _ (Classical.propDecidable _) e]; omega
    · have hk2 := up k
      have hd : @ite _ (susP g (g.palms.2 k).id) (Classical.propDecidable _) (D k) (max (max (D k) (g.start + 1)) (g.palms.2 k).planted) < 100001 := hd
      have h3 : @ite _ (susP g (g.palms.2 k).id) (Classical.propDecidable _) (D k) (max (max (D k) (g.start + 1)) (g.palms.2 k).planted) ≤ (g.palms.2 z).planted := hgi.2.2.1
      have h1 := h.1.gift z k hz hk (by omega) ⟨hgi.1,hgi.2.1,by omega,hgi.2.2.2⟩
      have h4 := hgi.2.1
      show @ite _ (susP g (g.palms.2 z).id) (Classical.propDecidable _) (D z) _ ≤ (g.palms.2 z).planted
      by_cases e : susP g (g.palms.2 z).id
      · rw [@if_pos _ (Classical.propDecidable _) e]; omega
      · rw [@if_neg _ (Classical.propDecidable _) e]; omega
  have := h.2 _ hM i hi
  try simp only at this
  rw [@if_neg _ (Classical.propDecidable _) hs] at this
  omega
theorem GvOk.susPl (hg : GvOk g) (hi : i < g.palms.1) (hs : susP g (g.palms.2 i).id) : (g.palms.2 i).planted ≤ g.start := by
  obtain ⟨z,h1,h2⟩ := hs
  have h3 := (hg.sus z h1).2.1
  rw [h2,hg.pms.hit hi] at h3
  exact h3
end
def HisAt (g : Gv) (d : Nat → Int) (i : Nat) : Prop := (lateP g i → d (moF g i) ≤ (g.palms.2 i).planted → d i = (g.palms.2 i).planted) ∧
  (d i < 100001 → (g.start ≤ d i ∧ (d i = g.start → susP g (g.palms.2 i).id)) ∧ (d i ≠ g.start → (∃ k,k < g.palms.1 ∧ fromP g i (d i) k (d k)) ∧ (g.palms.2 i).planted ≤ d i))
def HistP (g : Gv) (d : Nat → Int) : Prop := ∀ i,i < g.palms.1 → HisAt g d i
theorem DaysP.hist {g : Gv} {n0 D : Nat → Int} (hg : GvOk g) (hn : ∀ i,i < g.palms.1 → n0 i ≤ 100001) (h : DaysP g n0 D) : HistP g D := by
  obtain ⟨N,hR,h⟩ := h
  have hN : ∀ i,i < g.palms.1 → N i ≤ 100001 := fun i hi => by
    have hM : Upw g n0 fun _ => 100001 := ⟨fun i hi => hn i hi,fun i hi _ _ => by
      have := (hg.pms.pl i hi).2
      show (100001 : Int) > _; omega⟩
    exact hR.2 _ hM i hi
  intro i hi
  have hlo := h.low hg i hi
  refine ⟨fun hl hm => ?_,fun hD => ⟨⟨hlo.1,fun he => ?_⟩,fun hne => ⟨h.tight hg hi (by omega) hD,?_⟩⟩⟩
  · obtain ⟨hm1,hm2,_⟩ := hg.mo hi hl.1
    have h1 := h.geN hN hm1
    have h2 : N i ≤ (g.palms.2 i).planted := by
      apply Classical.byContradiction
      intro h3
      have := hR.1.2 i hi hl (by omega)
      omega
    have hpl := (hg.pms.pl i hi).2
    have h3 := h.1.gift i _ hi hm1 (by omega) ⟨hm2.symm,hl.2,hm,h2⟩
    have h4 : ¬ susP g (g.palms.2 i).id := fun hs => by
      have := hg.susPl hi hs
      have := hl.2
      omega
    have := (h.late hg hi h4).2
    omega
  · apply Classical.byContradiction
    intro hs
    have := (h.late hg hi hs).1
    omega
  · by_cases hs : susP g (g.palms.2 i).id
    · have := hg.susPl hi hs; omega
    · exact (h.late hg hi hs).2
end Go.Proofs.Ytpknbojgkkmonaa
