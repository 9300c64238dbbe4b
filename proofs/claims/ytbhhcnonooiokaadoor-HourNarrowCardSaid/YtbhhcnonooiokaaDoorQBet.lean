/- Clocks that are known better, in plain Lean: they tell no more. No condition. -/
import Derived.Test.YtbhhcnonooiokaaDoorQNt
set_option linter.unusedSimpArgs false
set_option linter.unusedVariables false
namespace Go.Proofs.YtbhhcnonooiokaaDoor
open Go Go.RowKit
def Sub (a b : Sp) : Prop := b.lo ≤ a.lo ∧ a.hi ≤ b.hi
structure Better (c' c : Ck) : Prop where
  n1 : c'.mrk.1 = c.mrk.1
  n2 : c'.str.1 = c.str.1
  mks : ∀ i, i < c.mrk.1 → Sub (c'.mrk.2 i) (c.mrk.2 i)
  st : ∀ i, i < c.str.1 → Sub (c'.str.2 i).rise (c.str.2 i).rise ∧ Sub (c'.str.2 i).shift (c.str.2 i).shift
  hand : Sub c'.hand c.hand
  sinks : Sub c'.sinks c.sinks
section
variable {c c' : Ck} {day : Int}
theorem Better.ok (h : Better c' c) (t : Tl) : TlOk c' t ↔ TlOk c t := by unfold TlOk; rw [h.n1, h.n2]
theorem Better.oks (h : Better c' c) (l : Tls) : AllOk c' l ↔ AllOk c l := ⟨fun k i hi => (h.ok _).1 (k i hi), fun k i hi => (h.ok _).2 (k i hi)⟩
theorem Better.tell (h : Better c' c) (hd : DayOk day) {t : Tl} (ht : TlOk c t) : Sub (tellF c' day t) (tellF c day t) := by
  unfold DayOk at hd
  have hok := ht
  unfold TlOk at ht
  unfold Sub
  rcases ht with ⟨k, h2, h3⟩ | ⟨k, h2, h3⟩ | ⟨k, ⟨h2, h3⟩, h6, h7⟩ | ⟨k, h2⟩
  · have := h.mks t.which.toNat (by omega)
    unfold Sub at this
    simp only [tellF, k, if_true]; omega
  · have a1 := h.mks t.which.toNat (by omega)
    have a2 := h.mks (t.which.toNat + 1) (by omega)
    unfold Sub at a1 a2
    simp [tellF, k]; omega
  · have a1 := h.st t.which.toNat (by omega)
    have a2 := h.hand
    unfold Sub at a1 a2
    have m1 : day * (c.str.2 t.which.toNat).shift.lo ≤ day * (c'.str.2 t.which.toNat).shift.lo := Int.mul_le_mul_of_nonneg_left (by omega) (by omega)
    have m2 : day * (c'.str.2 t.which.toNat).shift.hi ≤ day * (c.str.2 t.which.toNat).shift.hi := Int.mul_le_mul_of_nonneg_left (by omega) (by omega)
    have m3 : t.hands * c.hand.lo ≤ t.hands * c'.hand.lo := Int.mul_le_mul_of_nonneg_left (by omega) (by omega)
    have m4 : t.hands * c'.hand.hi ≤ t.hands * c.hand.hi := Int.mul_le_mul_of_nonneg_left (by omega) (by omega)
    simp [tellF, k]; omega
  · simp [tellF, k]
theorem Better.all (h : Better c' c) (hd : DayOk day) {l : Nat → Tl} : ∀ n, (∀ i, i < n → TlOk c (l i)) → Sub (allF c' day l n) (allF c day l n) := by
  intro n; induction n with
  | zero => intro _; exact ⟨Int.le_refl _, Int.le_refl _⟩
  | succ n ih =>
    intro ha
    have h1 := ih fun i hi => ha i (by omega)
    have h2 := h.tell hd (ha n (by omega))
    unfold Sub at *
    simp only [allF, cutF]; omega
theorem Better.tls (h : Better c' c) (l : Tls) : tlsE c' l = tlsE c l := by
  unfold tlsE
  have : (@decide (AllOk c' l) (Classical.propDecidable _)) = @decide (AllOk c l) (Classical.propDecidable _) := by
    rw [Bool.eq_iff_iff]; simp [h.oks l]
  rw [this]
/-- what all tell by the better clock -/
theorem Better.th (h : Better c' c) (h0 : askE c day = 0) (h0' : askE c' day = 0) (l : Tls) :
    ((thF c' day l).2 = 0 → (thF c day l).2 = 0 ∧ Sub (thF c' day l).1 (thF c day l).1) ∧ ((thF c day l).2 ≠ 0 → (thF c' day l).2 = (thF c day l).2) ∧ ((thF c day l).2 = 0 → (thF c' day l).2 = 0 ∨ (thF c' day l).2 = 32) := by
  obtain ⟨hc, hd⟩ := askE_0 h0
  by_cases ht : tlsE c l = 0
  · obtain ⟨z0, z1, ha⟩ := tlsE_0 ht
    have ht' : tlsE c' l = 0 := by rw [h.tls]; exact ht
    have hs := h.all hd (l := l.2) l.1 ha
    unfold Sub at hs
    by_cases hle : (allF c' day l.2 l.1).lo ≤ (allF c' day l.2 l.1).hi
    · have e1 := thF_ok h0' ht' hle
      have e2 := thF_ok (c := c) h0 ht (by omega)
      rw [e1, e2]
      exact ⟨fun _ => ⟨rfl, hs⟩, fun k => absurd rfl k, fun _ => .inl rfl⟩
    · have e1 := thF_clash h0' ht' (by omega)
      rw [e1]
      refine ⟨fun k => by simp at k, fun k => ?_, fun _ => .inr rfl⟩
      by_cases hle2 : (allF c day l.2 l.1).lo ≤ (allF c day l.2 l.1).hi
      · rw [thF_ok h0 ht hle2] at k; exact absurd rfl k
      · rw [thF_clash h0 ht (by omega)]
  · have ht' : tlsE c' l ≠ 0 := by rw [h.tls]; exact ht
    rw [thF_bad h0' ht', thF_bad h0 ht, h.tls]
    exact ⟨fun k => absurd k ht, fun _ => rfl, fun k => absurd k ht⟩
theorem Better.bef (h : Better c' c) (h0 : askE c day = 0) (h0' : askE c' day = 0) (a b : Tls) (hb : (befF c' day a b).2 = 0) : (befF c day a b).2 = 0 ∧ ((befF c day a b).1 = 1 ∨ (befF c day a b).1 = (befF c' day a b).1) := by
  obtain ⟨ta, _, _⟩ := h.th h0 h0' a
  obtain ⟨tb, _, _⟩ := h.th h0 h0' b
  by_cases ha0 : (thF c' day a).2 = 0
  · by_cases hb0 : (thF c' day b).2 = 0
    · obtain ⟨a1, a2⟩ := ta ha0
      obtain ⟨b1, b2⟩ := tb hb0
      have ha3 := (thF_0 ha0).2.2.2.2.2
      have hb3 := (thF_0 hb0).2.2.2.2.2
      rw [← ha3.1] at ha3
      rw [← hb3.1] at hb3
      unfold Sub at a2 b2
      have hA := ha3.2
      have hB := hb3.2
      unfold befF
      simp only [a1, b1, ha0, hb0, ne_eq, not_true_eq_false, if_false]
      by_cases q1 : (thF c day a).1.hi < (thF c day b).1.lo
      · rw [if_pos q1, if_pos (by omega)]; exact ⟨rfl, .inr rfl⟩
      · rw [if_neg q1]
        by_cases q2 : (thF c day a).1.lo ≥ (thF c day b).1.hi
        · rw [if_pos q2, if_neg (by omega), if_pos (by omega)]; exact ⟨rfl, .inr rfl⟩
        · rw [if_neg q2]; exact ⟨rfl, .inl rfl⟩
    · unfold befF at hb; simp [ha0, hb0] at hb
  · unfold befF at hb; simp [ha0] at hb
theorem Better.ch (h : Better c' c) (x : Ch) (f : Bool) : ChOk c' x f ↔ ChOk c x f := by unfold ChOk; rw [h.oks]
theorem Better.later (h : Better c' c) {x : Ch} (hx : 0 ≤ x.bowls) : Sub (laterF c' x) (laterF c x) := by
  have a := h.sinks
  unfold Sub at a
  have m1 : x.bowls * c.sinks.lo ≤ x.bowls * c'.sinks.lo := Int.mul_le_mul_of_nonneg_left (by omega) hx
  have m2 : x.bowls * c'.sinks.hi ≤ x.bowls * c.sinks.hi := Int.mul_le_mul_of_nonneg_left (by omega) hx
  unfold Sub laterF
  simp only
  split <;> omega
theorem Better.feas (h : Better c' c) (hd : DayOk day) {l : Nat → Ch} {n : Nat} (hg : ∀ j, j < n → ChOk c (l j) (decide (j = 0))) (x : Nat → Int) (hx : Feas c' day l n x) : Feas c day l n x := by
  refine ⟨fun i hi => ?_, fun i hi => ?_⟩
  · have h1 := hx.at' i hi
    have h2 := h.all hd (l := (l i).told.2) (l i).told.1 (hg i hi).2.1
    unfold baseF at h1 ⊢
    unfold In Sub at *; omega
  · have h1 := hx.st i hi
    have h2 := h.later (hg (i + 1) hi).2.2.1.1
    unfold In Sub at *; omega
end
end Go.Proofs.YtbhhcnonooiokaaDoor
