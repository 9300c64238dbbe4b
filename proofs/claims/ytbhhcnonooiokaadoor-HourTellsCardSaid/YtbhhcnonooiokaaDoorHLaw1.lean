/- Hours, law: clocks, and what tellings tell. No condition. -/
import Derived.Test.YtbhhcnonooiokaaDoorHRef5
import Derived.Test.YtbhhcnonooiokaaDoorACode2
namespace Go.Proofs.YtbhhcnonooiokaaDoor
open Go Go.RowKit
noncomputable def sLawTells : Spec := spec4 TCk TI TTl (TSl RTl) (fun _ _ _ _ => True) fun _ _ _ _ => .bool true
set_option maxRecDepth 100000 in
theorem pLawTells : PureOk Tryd.prog NG 3 sLawTells := by
  refine fn4 (S := [(15, sGreat), (16, sTwin), (17, sTellA), (18, sTellA), (19, sAllA), (20, sAllA), (21, sCheckP), (22, sCheckR), (23, sSame)]) (I := []) mixed
    (.cons pGreat (.cons pTwin (.cons (pTellAP pTellP) (.cons pTellA (.cons (pAllAP pTellP) (.cons pAllA (.cons pCheckP (.cons pCheckR (.cons pSame .nil))))))))) .nil Tryd.func3 c3 fun k day t l _ hw => ?_
  simp only [vl, WfT, Val.toInt, Val.slen, Val.scell, Nat.reduceSub, and_true, true_and, and_self, and_assoc, maxLen, Nat.reducePow, TSl, TInt, RSp, Sp.d, RSr, Sr.d, Tl.L, TTl, RTl, Tl.d, Ck.L, TCk] at hw
  simp only [RunTo, a3, sGreat, sTwin, sTellA, sAllA, sCheckP, sCheckR, sSame, run, aop, binV, ev, fget, fput, params, cellsOf, cellsN, isLB, vget, vset, vsets, vlen, bget, bset, addB, addN, mkv, sliceV, vtab, frz, opOwns, skipOp, WfT, resV, res1, castOk, norm, norms, norm1, normL, pureB, pureL, onesB, snapV, snapOk, specV, argsL, capsL, mkE_S, lkp, eqCells, eqOk, pickV, lenV, Fin, vp_bool, Val.toInt, Val.slen, Val.scell, ↓reduceIte, reduceCtorEq, Nat.reduceEqDiff, Nat.reduceAdd, Nat.reduceSub, Nat.reduceLT, Nat.zero_add, List.length_cons, List.length_nil, List.append_nil, Bool.and_self, Bool.bne_true, Bool.bne_false, bne_self_eq_false, Bool.not_false, Bool.true_eq_false, Bool.false_eq_true, beq_self_eq_true, and_true, true_and, and_self, and_assoc, forall_const, imp_self, implies_true, Nat.le_refl, decide_eq_true_eq, decide_eq_false_iff_not, Val.bool.injEq, false_implies, maxLen, Nat.reducePow, spec1, spec2, spec3, TSl, IsSl, TInt, IsInt, Prod.eta, Sp.L, Sp.c0, Sp.c1, RSp, Sp.w_c, Sp.d, Sp.eta, Sr.c0, Sr.c1, Sr.c2, Sr.c3, RSr, Sr.w_c, Sr.d, Sr.eta, Tl.L, Tl.c0, Tl.c1, Tl.c2, Tl.c3, Tl.c4, Tl.Is, Tl.of, TTl, RTl, Tl.w_c, Tl.d, Tl.eta, Ck.L, Ck.Is, Ck.of, TCk, Ck.d, Ck.eta]
  intro _ hg _ _ _
  have hg := of_decide_eq_false hg
  exact ⟨by omega, by omega, fun _ _ _ _ _ _ _ => @decide_eq_true _ (Classical.propDecidable _) ⟨⟨rfl, fun _ _ => rfl⟩, ⟨rfl, fun _ _ => rfl⟩, rfl, rfl⟩⟩
end Go.Proofs.YtbhhcnonooiokaaDoor
