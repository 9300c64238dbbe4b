/- Groves, the reference: soonest gives the first days (it eats its second argument). No condition but bounds. -/
import Derived.Test.YtpknbojgkkmonaaWMath3
import Derived.Test.YtpknbojgkkmonaaWRef6
set_option linter.unusedSimpArgs false
set_option linter.unusedVariables false
namespace Go.Proofs.Ytpknbojgkkmonaa
open Go Go.RowKit
variable {G : Nat → Option (Nat × (Nat → Val))}
def muF (D : Nat → Int) : Nat → Nat
  | 0 => 0
  | n + 1 => muF D n + (D n).toNat
theorem muF_le {D D' : Nat → Int} {n : Nat} (h : ∀ j,j < n → D' j ≤ D j) : muF D' n ≤ muF D n := by
  induction n with
  | zero => exact Nat.le_refl _
  | succ n ih =>
    have h1 := ih fun j hj => h j (by omega)
    have h2 := h n (by omega)
    unfold muF; omega
theorem muF_lt {D D' : Nat → Int} {n i : Nat} (h : ∀ j,j < n → D' j ≤ D j) (hi : i < n) (h0 : 0 ≤ D' i) (hl : D' i < D i) : muF D' n < muF D n := by
  induction n with
  | zero => omega
  | succ n ih =>
    rcases Nat.lt_or_ge i n with h1 | h1
    · have h2 := ih (fun j hj => h j (by omega)) h1
      have h3 := h n (by omega)
      unfold muF; omega
    · obtain rfl : i = n := by omega
      have h2 := muF_le (n := i) fun j hj => h j (by omega)
      unfold muF; omega
structure Dn (g : Gv) (N D : Nat → Int) : Prop where
  up : ∀ M,Sat g N M → ∀ i,i < g.palms.1 → M i ≤ D i
  lo : ∀ i,i < g.palms.1 → g.start ≤ D i
  top : ∀ i,i < g.palms.1 → D i ≤ 100001
  sus : ∀ i,i < g.palms.1 → susP g (g.palms.2 i).id → N i ≤ g.start → D i ≤ g.start
def Pok (g : Gv) (N D : Nat → Int) (i k : Nat) : Prop := D k < 100001 → (giftP g N i k (D k) → D i ≤ (g.palms.2 i).planted) ∧ (i ≠ k → nearP (g.places.2 i) (g.places.2 k) g.reach → D i ≤ flyF g N i (D k))
section
variable {g : Gv} {N D : Nat → Int}
theorem Dn.first (h : Dn g N D) (hp : ∀ i k,i < g.palms.1 → k < g.palms.1 → Pok g N D i k) : First g N D :=
  ⟨⟨h.top,h.sus,fun i k hi hk hik hD hn => (hp i k hi hk hD).2 hik hn,fun i k hi hk hD hg => (hp i k hi hk hD).1 hg⟩,h.up⟩
noncomputable def dy0 (g : Gv) (N : Nat → Int) (i : Nat) : Int := @ite _ (susP g (g.palms.2 i).id ∧ N i ≤ g.start) (Classical.propDecidable _) g.start 100001
theorem dy0_ok (hg : GvOk g) : Dn g N (dy0 g N) := by
  have hst := hg.start
  refine ⟨fun M hM i hi => ?_,fun i hi => ?_,fun i hi => ?_,fun i hi h1 h2 => ?_⟩
  · unfold dy0
    by_cases h : susP g (g.palms.2 i).id ∧ N i ≤ g.start
    · rw [@if_pos _ (Classical.propDecidable _) h]; exact hM.sus i hi h.1 h.2
    · rw [@if_neg _ (Classical.propDecidable _) h]; exact hM.top i hi
  · unfold dy0
    by_cases h : susP g (g.palms.2 i).id ∧ N i ≤ g.start
    · rw [@if_pos _ (Classical.propDecidable _) h]; omega
    · rw [@if_neg _ (Classical.propDecidable _) h]; omega
  · unfold dy0
    by_cases h : susP g (g.palms.2 i).id ∧ N i ≤ g.start
    · rw [@if_pos _ (Classical.propDecidable _) h]; omega
    · rw [@if_neg _ (Classical.propDecidable _) h]; omega
  · unfold dy0
    rw [@if_pos _ (Classical.propDecidable _) ⟨h1,h2⟩]; omega
noncomputable def tryF (g : Gv) (N : Nat → Int) (i k : Nat) (t : Int) : Int := @ite _ (giftP g N i k t) (Classical.propDecidable _) (g.palms.2 i).planted (flyF g N i t)
theorem GvOk.noself (hg : GvOk g) {i k : Nat} (hi : i < g.palms.1) (hk : k < g.palms.1) (h : (g.palms.2 i).mother = (g.palms.2 k).id) : i ≠ k := by
  rintro rfl
  have hid := hg.pms.id i hi
  obtain ⟨h1,h2,h3⟩ := hg.mo hi (by omega)
  have : moF g i = i := by unfold moF; rw [h]; exact hg.pms.hit hi
  rw [this] at h3; omega
theorem Dn.step (hg : GvOk g) (h : Dn g N D) {i k : Nat} (hi : i < g.palms.1) (hk : k < g.palms.1) (hD : D k < 100001) (hlt : tryF g N i k (D k) < D i) (hf : fromP g i (tryF g N i k (D k)) k (D k)) : Dn g N (fun j => if j = i then tryF g N i k (D k) else D j) := by
  have hlk := h.lo k hk
  have hha := hg.hatch
  have hst := hg.start
  have hpl := hg.pms.pl i hi
  obtain ⟨f1,f2,f3⟩ := hf
  have hlow : g.start ≤ tryF g N i k (D k) := by
    unfold tryF
    by_cases hgi : giftP g N i k (D k)
    · rw [@if_pos _ (Classical.propDecidable _) hgi]; have := hgi.2.1; omega
    · rw [@if_neg _ (Classical.propDecidable _) hgi]; unfold flyF; omega
  refine ⟨fun M hM j hj => ?_,fun j hj => ?_,fun j hj => ?_,fun j hj h1 h2 => ?_⟩
  · by_cases e : j = i
    · subst e
      simp only [if_true]
      by_cases hgi : giftP g N j k (D k)
      · have := gift_step h.up hj hk hD hgi M hM
        unfold tryF; rw [@if_pos _ (Classical.propDecidable _) hgi]; exact this
      · have et : tryF g N j k (D k) = flyF g N j (D k) := @if_neg _ (Classical.propDecidable _) hgi _ _ _
        rw [et] at f3 ⊢
        rcases f3 with f3 | f3
        · exact fly_step h.up hj hk f1 hD f3.2 M hM
        · exfalso
          refine hgi ⟨f3.1,f3.2.2.1,?_,?_⟩
          · have := f3.2.1; have := f3.2.2.2; omega
          · have := f3.2.1; unfold flyF at this; omega
    · simp only [if_neg e]; exact h.up M hM j hj
  · by_cases e : j = i
    · subst e; simp only [if_true]; exact hlow
    · simp only [if_neg e]; exact h.lo j hj
  · have := h.top j hj
    by_cases e : j = i
    · subst e; simp only [if_true]; omega
    · simp only [if_neg e]; exact this
  · have := h.sus j hj h1 h2
    by_cases e : j = i
    · subst e; simp only [if_true]; omega
    · simp only [if_neg e]; exact this
theorem Pok.of (hg : GvOk g) {i k : Nat} (hi : i < g.palms.1) (hk : k < g.palms.1) (h : ¬ (tryF g N i k (D k) < D i ∧ fromP g i (tryF g N i k (D k)) k (D k))) : Pok g N D i k := by
  intro hD
  by_cases hgi : giftP g N i k (D k)
  · have et : tryF g N i k (D k) = (g.palms.2 i).planted := @if_pos _ (Classical.propDecidable _) hgi _ _ _
    rw [et] at h
    have hd : D i ≤ (g.palms.2 i).planted := by
      rcases Int.lt_or_le (g.palms.2 i).planted (D i) with h1 | h1
      · exact absurd ⟨h1,hg.noself hi hk hgi.1,hD,.inr ⟨hgi.1,rfl,hgi.2.1,hgi.2.2.1⟩⟩ h
      · exact h1
    refine ⟨fun _ => hd,fun _ _ => ?_⟩
    unfold flyF; omega
  · have et : tryF g N i k (D k) = flyF g N i (D k) := @if_neg _ (Classical.propDecidable _) hgi _ _ _
    rw [et] at h
    refine ⟨fun h1 => absurd h1 hgi,fun hik hn => ?_⟩
    rcases Int.lt_or_le (flyF g N i (D k)) (D i) with h1 | h1
    · exact absurd ⟨h1,hik,hD,.inl ⟨by unfold flyF; omega,hn⟩⟩ h
    · exact h1
theorem Pok.no {i k : Nat} (h : ¬ D k < 100001) : Pok g N D i k := fun h1 => absurd h1 h
end
end Go.Proofs.Ytpknbojgkkmonaa
