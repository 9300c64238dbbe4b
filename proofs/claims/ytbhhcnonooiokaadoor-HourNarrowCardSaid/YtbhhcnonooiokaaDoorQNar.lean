/- HourNarrow, in plain Lean: the clock that is known better by choices. No condition. -/
import Derived.Test.YtbhhcnonooiokaaDoorQBet
import Derived.Test.YtbhhcnonooiokaaDoorQRch
set_option linter.unusedSimpArgs false
set_option linter.unusedVariables false
namespace Go.Proofs.YtbhhcnonooiokaaDoor
open Go Go.RowKit
/-- marks and stars, of which the first j are known better -/
def rowF (k : Ck) (b : Us) (j i : Nat) : Sp := if i < j then partF (k.mrk.2 i) b (2 * i) else k.mrk.2 i
def srF (k : Ck) (b : Us) (j i : Nat) : Sr := if i < j then ⟨partF (k.str.2 i).rise b (50 + 4 * i), partF (k.str.2 i).shift b (52 + 4 * i)⟩ else k.str.2 i
section
variable {k c' : Ck} {day : Int} {b : Us}
theorem rowF_at (j : Nat) : rowF k b j j = k.mrk.2 j := by unfold rowF; rw [if_neg (Nat.lt_irrefl _)]
theorem srF_at (j : Nat) : srF k b j j = k.str.2 j := by unfold srF; rw [if_neg (Nat.lt_irrefl _)]
theorem part_sub {s : Sp} {i : Int} (h : s.lo ≤ s.hi) : Sub (partF s b i) s ∧ (partF s b i).lo ≤ (partF s b i).hi := by
  have := partF_in (b := b) (i := i) h
  exact ⟨⟨this.1, this.2.2⟩, this.2.1⟩
theorem part_in {s : Sp} {i lo hi : Int} (h : SpIn s lo hi) : SpIn (partF s b i) lo hi := by
  have := partF_in (b := b) (i := i) h.2.1
  exact ⟨by have := h.1; omega, this.2.1, by have := h.2.2; omega⟩
theorem nar_better (hk : CkOk k) {m : Nat × (Nat → Sp)} (hm : m = (k.mrk.1, rowF k b k.mrk.1) ∨ m = k.mrk) (hc : c' = ⟨m, (k.str.1, srF k b k.str.1), partF k.hand b 98, partF k.sinks b 100⟩) : Better c' k := by
  subst hc
  refine ⟨by rcases hm with rfl | rfl <;> rfl, rfl, fun i hi => ?_, fun i hi => ?_, (part_sub hk.hand.2.1).1, (part_sub hk.sinks.2.1).1⟩
  · rcases hm with rfl | rfl
    · simp only [rowF, hi, if_true]; exact (part_sub (hk.mrk i hi).2.1).1
    · exact ⟨Int.le_refl _, Int.le_refl _⟩
  · simp only [srF, hi, if_true]
    exact ⟨(part_sub (hk.sr i hi).1.2.1).1, (part_sub (hk.sr i hi).2.2.1).1⟩
theorem nar_ok (hk : CkOk k) {m : Nat × (Nat → Sp)} (hm : CkOk ⟨m, k.str, k.hand, k.sinks⟩) (hc : c' = ⟨m, (k.str.1, srF k b k.str.1), partF k.hand b 98, partF k.sinks b 100⟩) : CkOk c' := by
  subst hc
  refine ⟨hm.nm, hk.ns, hm.mrk, hm.up, fun i hi => ?_, part_in hk.hand, part_in hk.sinks⟩
  simp only at hi
  simp only [srF, hi, if_true]
  exact ⟨part_in (hk.sr i hi).1, part_in (hk.sr i hi).2⟩
/-- the nights by the better clock -/
theorem Better.night (h : Better c' k) (h0 : askE k day = 0) (h0' : askE c' day = 0) (l : Chs) :
    ((nightF c' day l).2.2 = 0 ∧ (nightF k day l).2.2 = 0 ∧ (nightF c' day l).1.1 = l.1 ∧ (nightF k day l).1.1 = l.1 ∧ ∀ z, z < l.1 → witB ((nightF c' day l).1.2 z) ((nightF k day l).1.2 z) = true)
    ∨ ((nightF k day l).2.2 = (nightF c' day l).2.2 ∧ ((nightF c' day l).2.2 = 0) = False) ∨ ((nightF c' day l).2.2 = 32 ∧ (nightF k day l).2.2 = 0) := by
  obtain ⟨hk, hd⟩ := askE_0 h0
  by_cases h2 : 20 < l.1
  · rw [nightF_many h0 h2, nightF_many h0' h2]; exact .inr (.inl ⟨rfl, eq_false (by decide)⟩)
  have hch : ∀ j, ChOk c' (l.2 j) (decide (j = 0)) ↔ ChOk k (l.2 j) (decide (j = 0)) := fun j => h.ch _ _
  by_cases h3 : badI k l < l.1
  · have e : badI c' l = badI k l := by unfold badI; simp only [hch]
    rw [nightF_badI h0 (by omega) h3, nightF_badI h0' (by omega) (by rw [e]; exact h3)]
    exact .inr (.inl ⟨rfl, eq_false (by simp)⟩)
  have hg := badI_ge h3
  have hg' : ∀ j, j < l.1 → ChOk c' (l.2 j) (decide (j = 0)) := fun j hj => (hch j).2 (hg j hj)
  rcases nightF_cases c' day l with k1 | ⟨_, k2, k3⟩ | ⟨i, k1, k2, k3, k4, k5, k6, k7⟩
  · obtain ⟨m1, m2⟩ := night_mono (l' := l) k1 h0 (Nat.le_refl _) hg fun x hx => h.feas hd hg x hx
    obtain ⟨_, _, _, _, k5⟩ := nightF_0 k1
    exact .inl ⟨k1, by rw [m1], by rw [k5], by rw [m1], fun z hz => by rw [m1]; exact m2 z hz⟩
  · exfalso
    by_cases h4 : ∃ i, i < l.1 ∧ (fwdF c' day l.2 i).lo > (fwdF c' day l.2 i).hi
    · obtain ⟨i, hi, hb⟩ := h4
      have h5 := fstI_ex (p := fun i => (fwdF c' day l.2 i).lo > (fwdF c' day l.2 i).hi) hi hb
      rw [nightF_clash h0' (by omega) hg' h5 (fstI_some h5) fun j hj => by have := fstI_min j hj; omega] at k3
      exact k3 rfl
    · have hn : ∀ j, j < l.1 → (fwdF c' day l.2 j).lo ≤ (fwdF c' day l.2 j).hi := fun j hj => by
        false_or_by_contra
        exact h4 ⟨j, hj, by omega⟩
      rw [nightF_ok h0' (by omega) hg' hn] at k2
      exact k2 rfl
  · rcases nightF_cases k day l with q1 | ⟨_, q2, q3⟩ | ⟨j, q1, q2, q3⟩
    · rw [k2]; exact .inr (.inr ⟨rfl, q1⟩)
    · exfalso
      by_cases h4 : ∃ i, i < l.1 ∧ (fwdF k day l.2 i).lo > (fwdF k day l.2 i).hi
      · obtain ⟨i, hi, hb⟩ := h4
        have h5 := fstI_ex (p := fun i => (fwdF k day l.2 i).lo > (fwdF k day l.2 i).hi) hi hb
        rw [nightF_clash h0 (by omega) hg h5 (fstI_some h5) fun j hj => by have := fstI_min j hj; omega] at q3
        exact q3 rfl
      · have hn : ∀ j, j < l.1 → (fwdF k day l.2 j).lo ≤ (fwdF k day l.2 j).hi := fun j hj => by
          false_or_by_contra
          exact h4 ⟨j, hj, by omega⟩
        rw [nightF_ok h0 (by omega) hg hn] at q2
        exact q2 rfl
    · rw [k2, q2]; exact .inr (.inl ⟨rfl, eq_false (by simp)⟩)
theorem Better.all3 (h : Better c' k) (h0 : askE k day = 0) (h0' : askE c' day = 0) (l : Tls) :
    ((thF c' day l).2 = 0 ∧ (thF k day l).2 = 0 ∧ witB (minsF (thF c' day l).1) (minsF (thF k day l).1) = true) ∨ ((thF c' day l).2 = 32 ∧ (thF k day l).2 = 0 ∧ ((0 : Nat) = 0) = True) ∨ ((thF c' day l).2 = (thF k day l).2 ∧ ((thF k day l).2 = 0) = False) := by
  obtain ⟨t1, t2, t3⟩ := h.th h0 h0' l
  by_cases e0 : (thF k day l).2 = 0
  · rcases t3 e0 with e1 | e1
    · have := (t1 e1).2
      exact .inl ⟨e1, e0, witB_iff.2 (minsF_mono this.1 this.2)⟩
    · exact .inr (.inl ⟨e1, e0, eq_true rfl⟩)
  · exact .inr (.inr ⟨t2 e0, eq_false e0⟩)
theorem Better.bef3 (h : Better c' k) (h0 : askE k day = 0) (h0' : askE c' day = 0) (a b : Tls) :
    ((befF c' day a b).2 = 0) = False ∨ ((befF c' day a b).2 = 0 ∧ (befF k day a b).2 = 0 ∧ (befF k day a b).1 = 1 ∧ ((0 : Nat) = 0) = True) ∨ ((befF c' day a b).2 = 0 ∧ (befF k day a b).2 = 0 ∧ (befF c' day a b).1 = (befF k day a b).1 ∧ ((befF k day a b).1 = 1) = False) := by
  by_cases e0 : (befF c' day a b).2 = 0
  · obtain ⟨e1, e2⟩ := h.bef h0 h0' a b e0
    by_cases e3 : (befF k day a b).1 = 1
    · exact .inr (.inl ⟨e0, e1, e3, eq_true rfl⟩)
    · exact .inr (.inr ⟨e0, e1, (e2.resolve_left e3).symm, eq_false e3⟩)
  · exact .inl (eq_false e0)
end
end Go.Proofs.YtbhhcnonooiokaaDoor
