/- Hours, the reference: a clock in new memory. No condition but lengths. -/
import Derived.Test.YtbhhcnonooiokaaDoorHRef4
set_option linter.unusedSimpArgs false
set_option linter.unusedVariables false
namespace Go.Proofs.YtbhhcnonooiokaaDoor
open Go Go.RowKit
variable {G : Nat → Option (Nat × (Nat → Val))}
def sTwin : Spec := spec1 TCk (fun c => c.mrk.1 ≤ 30 ∧ c.str.1 ≤ 20) fun c => .agg c.L
set_option maxRecDepth 100000 in
theorem pTwin : PureOk Tryd.prog G 16 sTwin := by
  refine fn1 (S := []) (I := []) mixed .nil .nil Tryd.func16 c16 fun c hp hw => ?_
  obtain ⟨p1, p2⟩ := hp
  simp only [vl, WfT, Val.toInt, Nat.reduceSub, and_true, and_self, maxLen, Nat.reducePow, RSp, Sp.d, RSr, Sr.d, Ck.L, TCk] at hw
  obtain ⟨w1, w2⟩ := hw
  simp only [RunTo, a16, w1, w2, runO_3, runO_5, runO_17, runO_18, runO_19, aop, ends, reOk, Nat.zero_sub, ev, fget, fput, params, cellsOf, cellsN, isLB, vget, vset, vsets, vlen, bget, bset, addB, addN, mkv, sliceV, vtab, rowsV, rowsOk, vrep, frz, opOwns, preFz, skipOp, WfT, resV, res1, pureB, onesB, snapV, snapOk, mkE_G, subFr, subV, subBx, subStk, elemsV, Fin, vp_cons, vp_agg, vp_view, vsubP_self, Val.toInt, ↓reduceIte, reduceCtorEq, Nat.reduceEqDiff, Nat.reduceAdd, Nat.reduceSub, Nat.reduceLeDiff, Nat.reduceLT, Nat.zero_add, Nat.add_zero, Nat.sub_zero, List.length_cons, List.length_nil, List.flatMap_nil, Bool.and_self, and_true, true_and, and_self, forall_const, Nat.le_refl, or_false, maxLen, Nat.reducePow, RSp, Sp.d, RSr, Sr.d, Ck.L, TCk]
  refine ⟨by omega, by omega, fun i _ j _ => ?_, fun i _ j _ => ?_⟩ <;> rw [if_neg (Nat.not_lt_zero i)] <;> exact (vsubP_self _).mpr trivial
end Go.Proofs.YtbhhcnonooiokaaDoor
