/- Auctions: which list comes before, the reference's; which turns lie apart, the program's. No condition. -/
import Derived.Test.YtlieoghhkioflaaDBas
set_option linter.unusedSimpArgs false
set_option linter.unusedVariables false
namespace Go.Proofs.Ytlieoghhkioflaa
open Go Go.RowKit
variable {G : Nat → Option (Nat × (Nat → Val))}
def Erl (a b : Nat × (Nat → Int)) : Prop := ∃ i,(∀ k,k < i → a.2 k = b.2 k) ∧ (i < a.1 ∧ i < b.1 ∧ a.2 i < b.2 i ∨ i = a.1 ∧ a.1 < b.1)
theorem erl_at {a b : Nat × (Nat → Int)} {j : Nat} (h : ∀ i,i < j → a.2 i = b.2 i) (ha : j < a.1) (hb : j < b.1) (hn : ¬ a.2 j = b.2 j) :
  decide (a.2 j < b.2 j) = decP (Erl a b) := by
 by_cases c : a.2 j < b.2 j
 ·rw [decP_t ⟨j,h,.inl ⟨ha,hb,c⟩⟩,decide_eq_true c]
 ·rw [decide_eq_false c,decP_f]
  rintro ⟨i,h1,h2⟩
  rcases Nat.lt_trichotomy i j with q | q | q
  ·have := h i q; omega
  ·subst q; omega
  ·exact hn (h1 j q)
theorem erl_end {a b : Nat × (Nat → Int)} {j : Nat} (h : ∀ i,i < j → a.2 i = b.2 i) (ha : j ≤ a.1) (hb : j ≤ b.1) (hn : j = a.1 ∨ j = b.1) :
  decide ((a.1 : Int) < b.1) = decP (Erl a b) := by
 by_cases c : a.1 < b.1
 ·obtain rfl : j = a.1 := by omega
  rw [decP_t ⟨_,h,.inr ⟨rfl,c⟩⟩,decide_eq_true (by omega)]
 ·rw [decide_eq_false (by omega),decP_f]
  rintro ⟨i,h1,h2⟩
  rcases h2 with h2 | h2
  ·have := h i (by omega); omega
  ·omega
noncomputable def sErl : Spec := spec2 (TSl (RInt .i64)) (TSl (RInt .i64)) (fun _ _ => True) fun a b => .bool (decP (Erl a b))
set_option maxRecDepth 100000 in
theorem pErl : PureOk Try.prog G 51 sErl := by
 refine fn2 (S := []) (I := []) mixed .nil .nil Try.func51 c51 fun a b _ hw => ?_
 simp only [↓reduceIte,reduceCtorEq,Nat.reduceEqDiff,Nat.reduceAdd,Nat.reduceSub,Nat.reduceLeDiff,Nat.reduceMul,Nat.reduceLT,Int.reduceToNat,Int.reduceLT,Int.reduceLE,Int.reduceEq,Int.reduceNeg,Int.reduceMul,Int.reduceAdd,Int.reduceSub,Int.reduceNe,Int.reduceBEq,Int.reduceBNe,Nat.reducePow,go_sem] at hw
 obtain ⟨w1,w2⟩ := hw
 simp only [RunTo,a51,w1,w2,↓reduceIte,reduceCtorEq,Nat.reduceEqDiff,Nat.reduceAdd,Nat.reduceSub,Nat.reduceLeDiff,Nat.reduceMul,Nat.reduceLT,Int.reduceToNat,Int.reduceLT,Int.reduceLE,Int.reduceEq,Int.reduceNeg,Int.reduceMul,Int.reduceAdd,Int.reduceSub,Int.reduceNe,Int.reduceBEq,Int.reduceBNe,Nat.reducePow,go_sem]
 refine loopI (ι := Nat) (fun j => j ≤ a.1 ∧ j ≤ b.1 ∧ ∀ i,i < j → a.2 i = b.2 i) (fun j => a.1 - j) [0,1] (fun j => [(5,.int .i64 j)]) (fun _ => []) 0 ⟨by omega,by omega,fun i h => by omega⟩ (by simp only [↓reduceIte,reduceCtorEq,Nat.reduceEqDiff,Nat.reduceAdd,Nat.reduceSub,Nat.reduceLeDiff,Nat.reduceMul,Nat.reduceLT,Int.reduceToNat,Int.reduceLT,Int.reduceLE,Int.reduceEq,Int.reduceNeg,Int.reduceMul,Int.reduceAdd,Int.reduceSub,Int.reduceNe,Int.reduceBEq,Int.reduceBNe,Nat.reducePow,go_sem]; try rfl) fun j hj => ?_
 obtain ⟨hj1,hj2,hj3⟩ := hj
 simp only [w1,w2,↓reduceIte,reduceCtorEq,Nat.reduceEqDiff,Nat.reduceAdd,Nat.reduceSub,Nat.reduceLeDiff,Nat.reduceMul,Nat.reduceLT,Int.reduceToNat,Int.reduceLT,Int.reduceLE,Int.reduceEq,Int.reduceNeg,Int.reduceMul,Int.reduceAdd,Int.reduceSub,Int.reduceNe,Int.reduceBEq,Int.reduceBNe,Nat.reducePow,go_sem]
 repeat' (first | omega | (with_reducible apply And.intro) | intro _)
 all_goals first
  | (refine erl_at hj3 ?_ ?_ ?_ <;> first | assumption | omega)
  | (refine erl_end hj3 hj1 hj2 ?_; omega)
  | skip
 refine inv_intro (j + 1) ⟨by omega,by omega,fun i hi => ?_⟩ (by omega) ?_
 ·rcases Nat.lt_or_ge i j with h5 | h5
  ·exact hj3 i h5
  ·obtain rfl : i = j := by omega
   assumption
 ·simp only [↓reduceIte,reduceCtorEq,Nat.reduceEqDiff,Nat.reduceAdd,Nat.reduceSub,Nat.reduceLeDiff,Nat.reduceMul,Nat.reduceLT,Int.reduceToNat,Int.reduceLT,Int.reduceLE,Int.reduceEq,Int.reduceNeg,Int.reduceMul,Int.reduceAdd,Int.reduceSub,Int.reduceNe,Int.reduceBEq,Int.reduceBNe,Nat.reducePow,go_sem]
  rw [wrS (by omega)]
noncomputable def sApart : Spec := spec2 TTu TTu (fun _ _ => True) fun a b => .bool (decide (a.til ≤ b.fro) || decide (b.til ≤ a.fro))
set_option maxRecDepth 100000 in
theorem pApart : PureOk Try.prog G 25 sApart := by
 refine fn2 (S := []) (I := []) mixed .nil .nil Try.func25 c25 fun a b _ hw => ?_
 simp only [↓reduceIte,reduceCtorEq,Nat.reduceEqDiff,Nat.reduceAdd,Nat.reduceSub,Nat.reduceLeDiff,Nat.reduceMul,Nat.reduceLT,Int.reduceToNat,Int.reduceLT,Int.reduceLE,Int.reduceEq,Int.reduceNeg,Int.reduceMul,Int.reduceAdd,Int.reduceSub,Int.reduceNe,Int.reduceBEq,Int.reduceBNe,Nat.reducePow,go_sem] at hw
 simp only [RunTo,a25,↓reduceIte,reduceCtorEq,Nat.reduceEqDiff,Nat.reduceAdd,Nat.reduceSub,Nat.reduceLeDiff,Nat.reduceMul,Nat.reduceLT,Int.reduceToNat,Int.reduceLT,Int.reduceLE,Int.reduceEq,Int.reduceNeg,Int.reduceMul,Int.reduceAdd,Int.reduceSub,Int.reduceNe,Int.reduceBEq,Int.reduceBNe,Nat.reducePow,go_sem]
 refine ⟨fun h => by simp [h],fun h => by simp [h]⟩
end Go.Proofs.Ytlieoghhkioflaa
