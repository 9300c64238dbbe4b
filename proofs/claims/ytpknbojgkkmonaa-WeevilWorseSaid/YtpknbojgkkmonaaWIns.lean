/- Groves: a suspect more, in its place; a grove in new memory. No condition. -/
import Derived.Test.YtpknbojgkkmonaaWApg
import Derived.Test.YtpknbojgkkmonaaACodeT
set_option linter.unusedSimpArgs false
set_option linter.unusedVariables false
namespace Go.Proofs.Ytpknbojgkkmonaa
open Go Go.RowKit
def snI (a : Nat × (Nat → Int)) (x : Int) : Nat × (Nat → Int) := (a.1 + 1, fun k => if k < a.1 then a.2 k else x)
theorem snI_l {a : Nat × (Nat → Int)} {x : Int} {k : Nat} (h : k < a.1) : (snI a x).2 k = a.2 k := if_pos h
theorem snI_r {a : Nat × (Nat → Int)} {x : Int} : (snI a x).2 a.1 = x := if_neg (Nat.lt_irrefl _)
/-- with p ahead of x, if it is its turn -/
def ins1 (a : (Nat × (Nat → Int)) × Bool) (p x : Int) : (Nat × (Nat → Int)) × Bool := if a.2 = false ∧ x ≥ p then (snI a.1 p, true) else a
def ins2 (b : (Nat × (Nat → Int)) × Bool) (p x : Int) : (Nat × (Nat → Int)) × Bool := if x = p then b else (snI b.1 x, b.2)
def insF (s : Nat → Int) (p : Int) : Nat → (Nat × (Nat → Int)) × Bool
  | 0 => ((0, fun _ => 0), false)
  | j + 1 => ins2 (ins1 (insF s p j) p (s j)) p (s j)
def insE (s : Nat → Int) (p : Int) (n : Nat) : Nat × (Nat → Int) := if (insF s p n).2 = true then (insF s p n).1 else snI (insF s p n).1 p
structure InsOk (s : Nat → Int) (p : Int) (j : Nat) (a : (Nat × (Nat → Int)) × Bool) : Prop where
  len : a.1.1 ≤ j + 1
  up : ∀ k, k + 1 < a.1.1 → a.1.2 k < a.1.2 (k + 1)
  mem : ∀ k, k < a.1.1 → (∃ z, z < j ∧ a.1.2 k = s z) ∨ (a.1.2 k = p ∧ a.2 = true)
  all : ∀ z, z < j → s z ≠ p → ∃ k, k < a.1.1 ∧ a.1.2 k = s z
  put : a.2 = true → ∃ k, k < a.1.1 ∧ a.1.2 k = p
  low : a.2 = false → ∀ z, z < j → s z < p
  lenF : a.2 = false → a.1.1 ≤ j
  some : a.2 = true → ∃ z, z < j ∧ p ≤ s z
theorem sn_up {a : Nat × (Nat → Int)} {x : Int} (h : ∀ k, k + 1 < a.1 → a.2 k < a.2 (k + 1)) (hx : ∀ k, k < a.1 → a.2 k < x) : ∀ k, k + 1 < (snI a x).1 → (snI a x).2 k < (snI a x).2 (k + 1) := by
  intro k hk
  have hk : k + 1 < a.1 + 1 := hk
  rw [snI_l (show k < a.1 by omega)]
  rcases Nat.lt_or_ge (k + 1) a.1 with h1 | h1
  · rw [snI_l h1]; exact h k h1
  · obtain h2 : k + 1 = a.1 := by omega
    rw [h2, snI_r]; exact hx k (by omega)
theorem ins_ok {s : Nat → Int} {p : Int} {n : Nat} (hs : ∀ i k, i < k → k < n → s i < s k) : ∀ j, j ≤ n → InsOk s p j (insF s p j) := by
  intro j
  induction j with
  | zero => exact fun _ => ⟨Nat.zero_le _, fun k h => absurd h (Nat.not_lt_zero _), fun k h => absurd h (Nat.not_lt_zero _), fun z h => absurd h (Nat.not_lt_zero _), fun h => (by cases h), fun _ z h => absurd h (Nat.not_lt_zero _), fun _ => Nat.le_refl _, fun h => (by cases h)⟩
  | succ j ih =>
    intro hj
    obtain ⟨a1, a2, a3, a4, a5, a6, a7, a8⟩ := ih (by omega)
    show InsOk s p (j + 1) (ins2 (ins1 (insF s p j) p (s j)) p (s j))
    generalize insF s p j = a at *
    obtain ⟨⟨m, f⟩, put⟩ := a
    simp only at a1 a2 a3 a4 a5 a6 a7 a8
    have hlt : ∀ z, z < j → s z < s j := fun z hz => hs z j hz (by omega)
    cases put with
    | true =>
      obtain ⟨z0, hz0, hp0⟩ := a8 rfl
      have hx : s j > p := by have := hlt z0 hz0; omega
      have e : ins2 (ins1 ((m, f), true) p (s j)) p (s j) = (snI (m, f) (s j), true) := by
        unfold ins1; rw [if_neg (by simp)]; unfold ins2; rw [if_neg (by omega)]
      rw [e]
      refine ⟨by show m + 1 ≤ _; obtain ⟨k0, h1, h2⟩ := a5 rfl; omega, sn_up a2 fun k hk => ?_, fun k hk => ?_, fun z hz hne => ?_, fun _ => ?_, fun h => (by cases h), fun h => by (cases h), fun _ => ⟨z0, by omega, hp0⟩⟩
      · rcases a3 k hk with ⟨z, h1, h2⟩ | ⟨h1, _⟩
        · show f k < _; rw [h2]; exact hlt z h1
        · show f k < _; omega
      · have hk : k < m + 1 := hk
        rcases Nat.lt_or_ge k m with h1 | h1
        · rcases a3 k h1 with ⟨z, h2, h3⟩ | h2
          · exact .inl ⟨z, by omega, by rw [show (snI (m, f) (s j), true).1.2 k = f k from snI_l h1]; exact h3⟩
          · exact .inr ⟨by rw [show (snI (m, f) (s j), true).1.2 k = f k from snI_l h1]; exact h2.1, rfl⟩
        · obtain rfl : k = m := by omega
          exact .inl ⟨j, by omega, snI_r (a := (k, f))⟩
      · rcases Nat.lt_or_ge z j with h1 | h1
        · obtain ⟨k, h2, h3⟩ := a4 z h1 hne
          exact ⟨k, by show k < m + 1; omega, by rw [show (snI (m, f) (s j), true).1.2 k = f k from snI_l h2]; exact h3⟩
        · obtain rfl : z = j := by omega
          exact ⟨m, Nat.lt_succ_self m, snI_r (a := (m, f))⟩
      · obtain ⟨k, h2, h3⟩ := a5 rfl
        exact ⟨k, by show k < m + 1; omega, by rw [show (snI (m, f) (s j), true).1.2 k = f k from snI_l h2]; exact h3⟩
    | false =>
      have hlow := a6 rfl
      have hfp : ∀ k, k < m → f k < p := fun k hk => by
        rcases a3 k hk with ⟨z, h1, h2⟩ | ⟨_, h⟩
        · rw [h2]; exact hlow z h1
        · cases h
      by_cases hge : s j ≥ p
      · have e1 : ins1 ((m, f), false) p (s j) = (snI (m, f) p, true) := by unfold ins1; rw [if_pos ⟨rfl, hge⟩]
        by_cases heq : s j = p
        · have e : ins2 (ins1 ((m, f), false) p (s j)) p (s j) = (snI (m, f) p, true) := by rw [e1]; unfold ins2; rw [if_pos heq]
          rw [e]
          refine ⟨by show m + 1 ≤ _; have := a7 rfl; omega, sn_up a2 hfp, fun k hk => ?_, fun z hz hne => ?_, fun _ => ⟨m, Nat.lt_succ_self m, snI_r (a := (m, f))⟩, fun h => (by cases h), fun h => by (cases h), fun _ => ⟨j, by omega, hge⟩⟩
          · have hk : k < m + 1 := hk
            rcases Nat.lt_or_ge k m with h1 | h1
            · rcases a3 k h1 with ⟨z, h2, h3⟩ | h2
              · exact .inl ⟨z, by omega, by rw [show (snI (m, f) p, true).1.2 k = f k from snI_l h1]; exact h3⟩
              · cases h2.2
            · obtain rfl : k = m := by omega
              exact .inr ⟨snI_r (a := (k, f)), rfl⟩
          · rcases Nat.lt_or_ge z j with h1 | h1
            · obtain ⟨k, h2, h3⟩ := a4 z h1 hne
              exact ⟨k, by show k < m + 1; omega, by rw [show (snI (m, f) p, true).1.2 k = f k from snI_l h2]; exact h3⟩
            · obtain rfl : z = j := by omega
              exact absurd heq hne
        · have e : ins2 (ins1 ((m, f), false) p (s j)) p (s j) = (snI (snI (m, f) p) (s j), true) := by rw [e1]; unfold ins2; rw [if_neg heq]
          rw [e]
          have l1 : ∀ k, k < m → (snI (snI (m, f) p) (s j)).2 k = f k := fun k hk => by
            rw [snI_l (show k < m + 1 by omega)]; exact snI_l hk
          have l2 : (snI (snI (m, f) p) (s j)).2 m = p := by
            rw [snI_l (show m < m + 1 by omega)]; exact snI_r (a := (m, f))
          have l3 : (snI (snI (m, f) p) (s j)).2 (m + 1) = s j := snI_r (a := snI (m, f) p)
          refine ⟨by show m + 1 + 1 ≤ _; have := a7 rfl; omega, sn_up (sn_up a2 hfp) fun k hk => ?_, fun k hk => ?_, fun z hz hne => ?_, fun _ => ⟨m, by show m < m + 1 + 1; omega, l2⟩, fun h => (by cases h), fun h => by (cases h), fun _ => ⟨j, by omega, hge⟩⟩
          · have hk : k < m + 1 := hk
            rcases Nat.lt_or_ge k m with h1 | h1
            · rw [show (snI (m, f) p).2 k = f k from snI_l h1]; have := hfp k h1; omega
            · obtain rfl : k = m := by omega
              rw [show (snI (k, f) p).2 k = p from snI_r (a := (k, f))]; omega
          · have hk : k < m + 1 + 1 := hk
            rcases Nat.lt_or_ge k m with h1 | h1
            · rcases a3 k h1 with ⟨z, h2, h3⟩ | h2
              · exact .inl ⟨z, by omega, (l1 k h1).trans h3⟩
              · cases h2.2
            · rcases Nat.lt_or_ge k (m + 1) with h2 | h2
              · obtain rfl : k = m := by omega
                exact .inr ⟨l2, rfl⟩
              · obtain rfl : k = m + 1 := by omega
                exact .inl ⟨j, by omega, l3⟩
          · rcases Nat.lt_or_ge z j with h1 | h1
            · obtain ⟨k, h2, h3⟩ := a4 z h1 hne
              exact ⟨k, by show k < m + 1 + 1; omega, (l1 k h2).trans h3⟩
            · obtain rfl : z = j := by omega
              exact ⟨m + 1, by show m + 1 < m + 1 + 1; omega, l3⟩
      · have e : ins2 (ins1 ((m, f), false) p (s j)) p (s j) = (snI (m, f) (s j), false) := by
          unfold ins1; rw [if_neg (fun h => hge h.2)]; unfold ins2; rw [if_neg (by omega)]
        rw [e]
        refine ⟨by show m + 1 ≤ _; have := a7 rfl; omega, sn_up a2 fun k hk => ?_, fun k hk => ?_, fun z hz hne => ?_, fun h => (by cases h), fun _ z hz => ?_, fun _ => by show m + 1 ≤ _; have := a7 rfl; omega, fun h => (by cases h)⟩
        · rcases a3 k hk with ⟨z, h1, h2⟩ | ⟨_, h⟩
          · show f k < _; rw [h2]; exact hlt z h1
          · cases h
        · have hk : k < m + 1 := hk
          rcases Nat.lt_or_ge k m with h1 | h1
          · rcases a3 k h1 with ⟨z, h2, h3⟩ | h2
            · exact .inl ⟨z, by omega, by rw [show (snI (m, f) (s j), false).1.2 k = f k from snI_l h1]; exact h3⟩
            · cases h2.2
          · obtain rfl : k = m := by omega
            exact .inl ⟨j, by omega, snI_r (a := (k, f))⟩
        · rcases Nat.lt_or_ge z j with h1 | h1
          · obtain ⟨k, h2, h3⟩ := a4 z h1 hne
            exact ⟨k, by show k < m + 1; omega, by rw [show (snI (m, f) (s j), false).1.2 k = f k from snI_l h2]; exact h3⟩
          · obtain rfl : z = j := by omega
            exact ⟨m, Nat.lt_succ_self m, snI_r (a := (m, f))⟩
        · rcases Nat.lt_or_ge z j with h1 | h1
          · exact hlow z h1
          · obtain rfl : z = j := by omega
            omega
/-- the suspects and one more -/
structure InsAll (s : Nat → Int) (p : Int) (n : Nat) (e : Nat × (Nat → Int)) : Prop where
  up : ∀ k, k + 1 < e.1 → e.2 k < e.2 (k + 1)
  mem : ∀ k, k < e.1 → (∃ z, z < n ∧ e.2 k = s z) ∨ e.2 k = p
  all : ∀ z, z < n → ∃ k, k < e.1 ∧ e.2 k = s z
theorem insE_ok {s : Nat → Int} {p : Int} {n : Nat} (hs : ∀ i k, i < k → k < n → s i < s k) : InsAll s p n (insE s p n) := by
  obtain ⟨a1, a2, a3, a4, a5, a6, a7, a8⟩ := ins_ok (p := p) hs n (Nat.le_refl _)
  unfold insE
  generalize insF s p n = a at *
  obtain ⟨⟨m, f⟩, put⟩ := a
  simp only at a1 a2 a3 a4 a5 a6 a7 a8
  cases put with
  | true =>
    rw [if_pos rfl]
    refine ⟨a2, fun k hk => ?_, fun z hz => ?_⟩
    · rcases a3 k hk with h | h
      · exact .inl h
      · exact .inr h.1
    · by_cases h : s z = p
      · obtain ⟨k, h1, h2⟩ := a5 rfl
        exact ⟨k, h1, by show f k = _; omega⟩
      · exact a4 z hz h
  | false =>
    rw [if_neg (by simp)]
    have hfp : ∀ k, k < m → f k < p := fun k hk => by
      rcases a3 k hk with ⟨z, h1, h2⟩ | ⟨_, h⟩
      · rw [h2]; exact a6 rfl z h1
      · cases h
    refine ⟨sn_up a2 hfp, fun k hk => ?_, fun z hz => ?_⟩
    · have hk : k < m + 1 := hk
      rcases Nat.lt_or_ge k m with h1 | h1
      · rcases a3 k h1 with ⟨z, h2, h3⟩ | h2
        · exact .inl ⟨z, h2, (show (snI (m, f) p).2 k = f k from snI_l h1).trans h3⟩
        · cases h2.2
      · obtain rfl : k = m := by omega
        exact .inr (snI_r (a := (k, f)))
    · have := a6 rfl z hz
      obtain ⟨k, h1, h2⟩ := a4 z hz (by omega)
      exact ⟨k, by show k < m + 1; omega, (show (snI (m, f) p).2 k = f k from snI_l h1).trans h2⟩
variable {G : Nat → Option (Nat × (Nat → Val))}
def sTwinW : Spec := spec1 TGv (fun g => g.palms.1 ≤ 1000 ∧ g.places.1 ≤ 1000 ∧ g.sus.1 ≤ 1000) fun g => .agg (Gv.L g)
set_option maxRecDepth 100000 in
theorem pTwinW : PureOk Try.prog G 14 sTwinW := by
  refine fn1 (S := []) (I := []) mixed .nil .nil Try.func14 c14 fun g hp hw => ?_
  obtain ⟨p1, p2, p3⟩ := hp
  simp only [vl, WfT, Val.toInt, Nat.reduceSub, and_true, true_and, maxLen, Nat.reducePow, RInt, RPm, Pm.d, RPl, Pl.d, Gv.L, TGv] at hw
  simp only [RunTo, a14, hw, Nat.not_lt_zero, runO_3, runO_5, runO_17, runO_18, runO_19, aop, ends, reOk, Nat.zero_sub, ev, fget, fput, params, cellsOf, cellsN, isLB, vget, vset, vsets, vlen, bget, bset, addB, addN, mkv, sliceV, vtab, rowsV, rowsOk, vrep, frz, opOwns, preFz, skipOp, WfT, resV, res1, pureB, onesB, snapV, snapOk, mkE_G, subFr, subV, subBx, subStk, elemsV, Fin, vsubP_self, Val.toInt, ↓reduceIte, reduceCtorEq, Nat.reduceEqDiff, Nat.reduceAdd, Nat.reduceSub, Nat.reduceLeDiff, Nat.reduceLT, Nat.zero_add, Nat.add_zero, Nat.sub_zero, List.length_cons, List.length_nil, List.flatMap_nil, Bool.and_self, and_true, true_and, and_self, forall_const, Nat.le_refl, or_false, maxLen, Nat.reducePow, RInt, RPm, Pm.d, RPl, Pl.d, Gv.L, TGv]
  repeat' (first | omega | (with_reducible apply And.intro) | intro _)
  all_goals trace_state
end Go.Proofs.Ytpknbojgkkmonaa
