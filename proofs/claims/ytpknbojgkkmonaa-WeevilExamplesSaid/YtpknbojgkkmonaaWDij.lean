/- Groves: the first days, one palm after the other, the soonest first. No condition but bounds. -/
import Derived.Test.YtpknbojgkkmonaaWRep
set_option linter.unusedSimpArgs false
set_option linter.unusedVariables false
namespace Go.Proofs.Ytpknbojgkkmonaa
open Go Go.RowKit
noncomputable def susF (g : Gv) (N : Nat → Int) : Nat → Nat → Int
  | 0,_ => 100001
  | j + 1,i => if hitN g.palms (g.sus.2 j) = i ∧ N i ≤ g.start then g.start else susF g N j i
theorem susF_cases {g : Gv} {N : Nat → Int} {i : Nat} : ∀ j,(susF g N j i = g.start ∧ N i ≤ g.start ∧ ∃ z,z < j ∧ hitN g.palms (g.sus.2 z) = i) ∨ (susF g N j i = 100001 ∧ ∀ z,z < j → hitN g.palms (g.sus.2 z) = i → ¬ N i ≤ g.start) := by
  intro j; induction j with
  | zero => exact .inr ⟨rfl,fun z h => absurd h (Nat.not_lt_zero _)⟩
  | succ j ih =>
    unfold susF
    split
    · next h => exact .inl ⟨rfl,h.2,j,by omega,h.1⟩
    · next h =>
      rcases ih with ⟨h1,h2,z,h3,h4⟩ | ⟨h1,h2⟩
      · exact .inl ⟨h1,h2,z,by omega,h4⟩
      · refine .inr ⟨h1,fun z hz he hN => ?_⟩
        rcases Nat.lt_or_ge z j with h5 | h5
        · exact h2 z h5 he hN
        · obtain rfl : z = j := by omega
          exact h ⟨he,hN⟩
noncomputable def thenF (g : Gv) (N : Nat → Int) (k : Nat) (t : Int) (i : Nat) : Int :=
  @ite _ (lateP g i ∧ moF g i = k ∧ t ≤ (g.palms.2 i).planted ∧ N i ≤ (g.palms.2 i).planted) (Classical.propDecidable _) (g.palms.2 i).planted
    (@ite _ (i ≠ k ∧ nearP (g.places.2 i) (g.places.2 k) g.reach) (Classical.propDecidable _) (flyF g N i t) 100001)
section
variable {g : Gv} {N D : Nat → Int} {k i : Nat} {t : Int}
theorem then_gift (h : lateP g i ∧ moF g i = k ∧ t ≤ (g.palms.2 i).planted ∧ N i ≤ (g.palms.2 i).planted) : thenF g N k t i = (g.palms.2 i).planted := @if_pos _ (Classical.propDecidable _) h _ _ _
theorem then_fly (h : ¬ (lateP g i ∧ moF g i = k ∧ t ≤ (g.palms.2 i).planted ∧ N i ≤ (g.palms.2 i).planted)) (h2 : i ≠ k ∧ nearP (g.places.2 i) (g.places.2 k) g.reach) : thenF g N k t i = flyF g N i t := by
  unfold thenF; rw [@if_neg _ (Classical.propDecidable _) h,@if_pos _ (Classical.propDecidable _) h2]
theorem then_no (h : ¬ (lateP g i ∧ moF g i = k ∧ t ≤ (g.palms.2 i).planted ∧ N i ≤ (g.palms.2 i).planted)) (h2 : ¬ (i ≠ k ∧ nearP (g.places.2 i) (g.places.2 k) g.reach)) : thenF g N k t i = 100001 := by
  unfold thenF; rw [@if_neg _ (Classical.propDecidable _) h,@if_neg _ (Classical.propDecidable _) h2]
theorem then_ge (hg : GvOk g) (ht : t < 100001) : t ≤ thenF g N k t i := by
  have := hg.hatch
  by_cases h : lateP g i ∧ moF g i = k ∧ t ≤ (g.palms.2 i).planted ∧ N i ≤ (g.palms.2 i).planted
  · rw [then_gift h]; exact h.2.2.1
  · by_cases h2 : i ≠ k ∧ nearP (g.places.2 i) (g.places.2 k) g.reach
    · rw [then_fly h h2]; unfold flyF; omega
    · rw [then_no h h2]; omega
noncomputable def relF (g : Gv) (N : Nat → Int) (k : Nat) (t : Int) (D : Nat → Int) (i : Nat) : Int := min (D i) (thenF g N k t i)
structure Dj (g : Gv) (N D : Nat → Int) (has : Nat → Prop) : Prop where
  top : ∀ i,i < g.palms.1 → D i ≤ 100001
  low : ∀ i,i < g.palms.1 → g.start ≤ D i
  up : ∀ M,Sat g N M → ∀ i,i < g.palms.1 → M i ≤ D i
  sus : ∀ i,i < g.palms.1 → susP g (g.palms.2 i).id → N i ≤ g.start → D i ≤ g.start
  done : ∀ k,k < g.palms.1 → ¬ has k → D k < 100001 → ∀ i,i < g.palms.1 → D i ≤ thenF g N k (D k) i
  mono : ∀ k i,k < g.palms.1 → i < g.palms.1 → ¬ has k → has i → D k ≤ D i
theorem Dj.next {has : Nat → Prop} (hg : GvOk g) (h : Dj g N D has) {x : Nat} (hx : x < g.palms.1) (hh : has x) (hm : ∀ k,k < g.palms.1 → has k → D x ≤ D k) (hD : D x < 100001) : Dj g N (relF g N x (D x) D) (fun k => has k ∧ k ≠ x) := by
  have same : ∀ k,k < g.palms.1 → ¬ (has k ∧ k ≠ x) → relF g N x (D x) D k = D k ∧ D k ≤ D x := by
    intro k hk hn
    have h1 : D k ≤ D x := by
      by_cases e : k = x
      · subst e; exact Int.le_refl _
      · exact h.mono k x hk hx (fun h' => hn ⟨h',e⟩) hh
    have h2 := then_ge (g := g) (N := N) (k := x) (i := k) hg hD
    unfold relF
    exact ⟨by omega,h1⟩
  refine ⟨fun i hi => ?_,fun i hi => ?_,fun M hM i hi => ?_,fun i hi h1 h2 => ?_,fun k hk hn hD' i hi => ?_,fun k i hk hi hn hi' => ?_⟩
  · have := h.top i hi; unfold relF; omega
  · have h1 := h.low i hi; have h2 := h.low x hx; have h3 := then_ge (g := g) (N := N) (k := x) (i := i) hg hD; unfold relF; omega
  · have h1 := h.up M hM i hi
    have h2 : M i ≤ thenF g N x (D x) i := by
      by_cases hgi : lateP g i ∧ moF g i = x ∧ D x ≤ (g.palms.2 i).planted ∧ N i ≤ (g.palms.2 i).planted
      · rw [then_gift hgi]
        exact gift_step h.up hi hx hD ⟨(hg.mo_eq hi hx hgi.1.1).1 hgi.2.1,hgi.1.2,hgi.2.2.1,hgi.2.2.2⟩ M hM
      · by_cases h2 : i ≠ x ∧ nearP (g.places.2 i) (g.places.2 x) g.reach
        · rw [then_fly hgi h2]
          exact fly_step h.up hi hx h2.1 hD h2.2 M hM
        · rw [then_no hgi h2]; exact hM.top i hi
    unfold relF; omega
  · have := h.sus i hi h1 h2; unfold relF; omega
  · obtain ⟨e1,e2⟩ := same k hk hn
    rw [e1] at hD' ⊢
    by_cases e : k = x
    · subst e; unfold relF; omega
    · have := h.done k hk (fun h' => hn ⟨h',e⟩) hD' i hi
      unfold relF; omega
  · obtain ⟨e1,e2⟩ := same k hk hn
    have h1 := hm i hi hi'.1
    have h2 := then_ge (g := g) (N := N) (k := x) (i := i) hg hD
    rw [e1]; unfold relF; omega
theorem Dj.last {has : Nat → Prop} (hg : GvOk g) (h : Dj g N D has) (hn : ∀ k,k < g.palms.1 → D k < 100001 → ¬ has k) : First g N D := by
  refine ⟨⟨h.top,h.sus,fun i k hi hk hik hD hnr => ?_,fun i k hi hk hD hgi => ?_⟩,h.up⟩
  · have h1 := h.done k hk (hn k hk hD) hD i hi
    by_cases hgi : lateP g i ∧ moF g i = k ∧ D k ≤ (g.palms.2 i).planted ∧ N i ≤ (g.palms.2 i).planted
    · rw [then_gift hgi] at h1
      unfold flyF; omega
    · rw [then_fly hgi ⟨hik,hnr⟩] at h1; exact h1
  · have h1 := h.done k hk (hn k hk hD) hD i hi
    have hid := (hg.pms.id k hk).1
    have hl : lateP g i := ⟨by rw [hgi.1]; omega,hgi.2.1⟩
    rw [then_gift ⟨hl,(hg.mo_eq hi hk hl.1).2 hgi.1,hgi.2.2.1,hgi.2.2.2⟩] at h1
    exact h1
theorem Dj.congr {has has' : Nat → Prop} (h : Dj g N D has) (e : ∀ k,k < g.palms.1 → (has k ↔ has' k)) : Dj g N D has' :=
  ⟨h.top,h.low,h.up,h.sus,fun k hk hn => h.done k hk fun h' => hn ((e k hk).1 h'),fun k i hk hi hn hi' => h.mono k i hk hi (fun h' => hn ((e k hk).1 h')) ((e i hi).2 hi')⟩
theorem Dj.start (hg : GvOk g) : Dj g N (susF g N g.sus.1) (fun _ => True) := by
  have hst := hg.start
  have key : ∀ i,i < g.palms.1 → (susP g (g.palms.2 i).id ↔ ∃ z,z < g.sus.1 ∧ hitN g.palms (g.sus.2 z) = i) := by
    intro i hi
    constructor
    · rintro ⟨z,h1,h2⟩; exact ⟨z,h1,by rw [h2]; exact hg.pms.hit hi⟩
    · rintro ⟨z,h1,h2⟩
      refine ⟨z,h1,?_⟩
      rcases hit_spec g.palms (g.sus.2 z) with h3 | h3
      · rw [← h2]; exact h3.2.symm
      · omega
  refine ⟨fun i hi => ?_,fun i hi => ?_,fun M hM i hi => ?_,fun i hi h1 h2 => ?_,fun k _ h => absurd trivial h,fun k i _ _ h => absurd trivial h⟩
  · rcases susF_cases (g := g) (N := N) (i := i) g.sus.1 with ⟨h,_⟩ | ⟨h,_⟩ <;> omega
  · rcases susF_cases (g := g) (N := N) (i := i) g.sus.1 with ⟨h,_⟩ | ⟨h,_⟩ <;> omega
  · rcases susF_cases (g := g) (N := N) (i := i) g.sus.1 with ⟨h,hN,z,h1,h2⟩ | ⟨h,_⟩
    · rw [h]; exact hM.sus i hi ((key i hi).2 ⟨z,h1,h2⟩) hN
    · rw [h]; exact hM.top i hi
  · obtain ⟨z,hz1,hz2⟩ := (key i hi).1 h1
    rcases susF_cases (g := g) (N := N) (i := i) g.sus.1 with ⟨h,_⟩ | ⟨h,h'⟩
    · omega
    · exact absurd h2 (h' z hz1 hz2)
theorem raiF_le1 (hg : GvOk g) {n0 : Nat → Int} (hn : ∀ i,i < g.palms.1 → n0 i ≤ 100001) : ∀ i,i < g.palms.1 → raiF g n0 i ≤ 100001 := by
  have hM : Upw g n0 fun _ => 100001 := ⟨fun i hi => hn i hi,fun i hi _ _ => by
    have := (hg.pms.pl i hi).2
    show (100001 : Int) > _; omega⟩
  exact fun i hi => (raiF_ok hg fun i hi => by have := hn i hi; omega).2 _ hM i hi
theorem raiF_ge (hg : GvOk g) {n0 : Nat → Int} (hn : ∀ i,i < g.palms.1 → n0 i ≤ 100001) : ∀ i,i < g.palms.1 → n0 i ≤ raiF g n0 i :=
  (raiF_ok hg fun i hi => by have := hn i hi; omega).1.1
noncomputable def rlJ (g : Gv) (N : Nat → Int) (x : Nat) (t : Int) (D : Nat → Int) (j i : Nat) : Int := if i < j then relF g N x t D i else D i
theorem rlJ_at {x j : Nat} : rlJ g N x t D j j = D j := by unfold rlJ; rw [if_neg (Nat.lt_irrefl _)]
theorem rlJ_0 {x i : Nat} : rlJ g N x t D 0 i = D i := by unfold rlJ; rw [if_neg (Nat.not_lt_zero _)]
theorem rlJ_ne {x j i : Nat} (h : i ≠ j) : rlJ g N x t D (j + 1) i = rlJ g N x t D j i := by
  unfold rlJ
  by_cases h1 : i < j
  · rw [if_pos (by omega),if_pos h1]
  · rw [if_neg (by omega),if_neg h1]
theorem rlJ_eq {x j : Nat} : rlJ g N x t D (j + 1) j = min (D j) (thenF g N x t j) := by
  unfold rlJ; rw [if_pos (by omega)]; rfl
theorem rlJ_n {x n i : Nat} (h : i < n) : rlJ g N x t D n i = relF g N x t D i := by unfold rlJ; rw [if_pos h]
end
end Go.Proofs.Ytpknbojgkkmonaa
