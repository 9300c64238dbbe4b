/- Hours, outright: alive. No condition. -/
import Derived.Test.YtbhhcnonooiokaaDoorQLive
set_option linter.unusedSimpArgs false
set_option linter.unusedVariables false
namespace Go.Proofs.YtbhhcnonooiokaaDoor
open Go Go.RowKit
theorem lt1' {p : Nat → Prop} (h0 : p 0) : ∀ i, i < 1 → p i := fun i hi => by
  obtain rfl : i = 0 := by omega
  exact h0
theorem ltw {p : Nat → Prop} (h0 : p 0) (h1 : p 1) : ∀ i, i < 2 → p i := fun i hi => by
  obtain rfl | rfl : i = 0 ∨ i = 1 := by omega
  · exact h0
  · exact h1
theorem lt4 {p : Nat → Prop} (h0 : p 0) (h1 : p 1) (h2 : p 2) (h3 : p 3) : ∀ i, i < 4 → p i := fun i hi => by
  obtain rfl | rfl | rfl | rfl : i = 0 ∨ i = 1 ∨ i = 2 ∨ i = 3 := by omega
  · exact h0
  · exact h1
  · exact h2
  · exact h3
theorem lt5 {p : Nat → Prop} (h0 : p 0) (h1 : p 1) (h2 : p 2) (h3 : p 3) (h4 : p 4) : ∀ i, i < 5 → p i := fun i hi => by
  obtain rfl | rfl | rfl | rfl | rfl : i = 0 ∨ i = 1 ∨ i = 2 ∨ i = 3 ∨ i = 4 := by omega
  · exact h0
  · exact h1
  · exact h2
  · exact h3
  · exact h4
def sClockL : Spec := spec0 (.agg clkC.L)
variable {G : Nat → Option (Nat × (Nat → Val))}
set_option maxRecDepth 100000 in
theorem pClockL : PureOk Tryd.prog G 36 sClockL := by
  refine fn0 (S := [(41, sSpanL)]) (I := []) mixed (.cons pSpanL .nil) .nil Tryd.func36 c36 ?_
  simp only [RunTo, a36, sSpanL, clkC, runO_3, runO_5, runO_17, runO_18, runO_19, aop, ends, reOk, Nat.zero_sub, ev, fget, fput, params, cellsOf, cellsN, isLB, vget, vset, vsets, vlen, bget, bset, addB, addN, mkv, sliceV, vtab, fillV, fillOk, rowsV, rowsOk, vrep, frz, opOwns, preFz, callFz, owns, skipOp, WfT, resV, res1, norm, norm1, normL, pureB, pureL, onesB, snapV, snapOk, specV, argsL, capsL, mkE_S, mkE_G, lkp, Fin, vp_cons, vp_agg, vp_view, vsubP_self, Val.toInt, ↓reduceIte, reduceCtorEq, Nat.reduceEqDiff, Nat.reduceAdd, Nat.reduceLeDiff, Nat.reduceLT, Nat.zero_add, List.length_cons, List.length_nil, List.append_nil, List.flatMap_cons, List.flatMap_nil, Bool.and_self, and_true, true_and, and_self, forall_const, Nat.le_refl, spec2, TInt, IsInt, Sp.L, RSp, Sp.d, RSr, Sr.d, Ck.L]
  exact ⟨lt3 (ltw rfl rfl) (ltw rfl rfl) (ltw rfl rfl), fun i hi => by
    obtain rfl : i = 0 := by omega
    exact lt4 rfl rfl rfl rfl⟩
def sNightL : Spec := spec0 (.view 3 nightC.1 fun i j => (nightC.2 i).c j)
set_option maxRecDepth 100000 in
theorem pNightL : PureOk Tryd.prog G 42 sNightL := by
  refine fn0 (S := [(39, sWordL)]) (I := []) mixed (.cons pWordL .nil) .nil Tryd.func42 c42 ?_
  simp only [RunTo, a42, sWordL, nightC, runO_3, runO_5, runO_17, runO_18, runO_19, aop, ends, ev, fget, fput, params, cellsOf, cellsN, isLB, vset, vsets, vlen, bget, bdel, addB, addN, fillV, fillOk, rowsV, rowsOk, vrep, frz, opOwns, preFz, callFz, owns, skipOp, WfT, resV, res1, norm, norm1, normL, pureB, pureL, onesB, snapV, snapOk, specV, argsL, capsL, mkE_S, mkE_G, lkp, subFr, subV, subBx, subStk, Fin, vp_view, Val.toInt, ↓reduceIte, reduceCtorEq, Nat.reduceEqDiff, Nat.reduceAdd, Nat.reduceLeDiff, Nat.reduceLT, Nat.zero_add, List.nil_append, List.cons_append, List.append_nil, List.flatMap_cons, List.flatMap_nil, Bool.and_self, and_true, true_and, and_self, forall_const, Nat.le_refl, spec2, TInt, IsInt, Tl.L]
  refine lt3 (lt3 (.inr ⟨_, rfl, fun i hi => ?_⟩) rfl rfl) (lt3 (.inr ⟨_, rfl, fun i hi => ?_⟩) rfl rfl) (lt3 (.inr ⟨_, rfl, fun i hi => ?_⟩) rfl rfl)
  all_goals
    have hi : i < 1 := hi
    obtain rfl : i = 0 := by omega
    exact lt5 rfl rfl rfl rfl rfl
def sTurnsL : Spec := spec0 (.view 2 turnsC.1 fun i j => (turnsC.2 i).c j)
set_option maxRecDepth 100000 in
theorem pTurnsL : PureOk Tryd.prog G 40 sTurnsL := by
  refine fn0 (S := []) (I := []) mixed .nil .nil Tryd.func40 c40 ?_
  simp only [RunTo, a40, turnsC, runO_3, runO_5, runO_17, runO_18, runO_19, aop, ends, ev, fget, fput, params, cellsOf, cellsN, isLB, vset, vsets, vlen, bget, addB, addN, fillV, fillOk, rowsV, rowsOk, vrep, frz, opOwns, preFz, owns, skipOp, WfT, resV, res1, pureB, onesB, snapV, snapOk, mkE_G, Fin, vp_view, ↓reduceIte, Nat.reduceEqDiff, Nat.reduceAdd, Nat.reduceLeDiff, Nat.reduceLT, Nat.zero_add, List.append_nil, List.flatMap_cons, List.flatMap_nil, Bool.and_self, true_and, and_self, forall_const, Nat.le_refl]
  exact lt3 (ltw rfl rfl) (ltw rfl rfl) (ltw rfl rfl)
def sAlive : Spec := spec0 (.bool true)
set_option maxHeartbeats 8000000 in
set_option maxRecDepth 100000 in
theorem pAlive : PureOk Tryd.prog NG 35 sAlive := by
  refine fn0 (S := [(36, sClockL), (42, sNightL), (40, sTurnsL), (83, sStarL), (37, sMarkL), (39, sWordL), (41, sSpanL), (17, sTellA), (19, sAllA), (24, sClR), (26, sBefR), (29, sNightP), (31, sOn), (33, sSameSp), (34, sSameI)]) (I := []) mixed
    (.cons pClockL (.cons pNightL (.cons pTurnsL (.cons pStarL (.cons pMarkL (.cons pWordL (.cons pSpanL (.cons (pTellAP pTellP) (.cons (pAllAP pTellP) (.cons (pClP pTellP) (.cons (pBefP pTellP) (.cons pNightP (.cons pOnP (.cons pSameSp (.cons pSameI .nil))))))))))))))) .nil Tryd.func35 c35 ?_
  simp (config := { maxSteps := 4000000 }) only [RunTo, a35, sClockL, sNightL, sTurnsL, sStarL, sMarkL, sWordL, sSpanL, sTellA, sAllA, sClR, sBefR, sNightP, sOn, sSameSp, sSameI, fact_tell, fact_all, fact_mins, fact_clash, fact_bef, fact_night, fact_same, fact_on, fact_sameI, flatO, ↓imp_tt, ↓imp_tf, runO_3, runO_5, runO_17, runO_18, runO_19, aop, binV, ends, reOk, Nat.zero_sub, ev, fget, fput, params, cellsOf, cellsN, isLB, vget, vset, vsets, vlen, bget, bset, addB, addN, mkv, sliceV, vtab, rowsV, rowsOk, vrep, frz, opOwns, preFz, callFz, owns, skipOp, WfT, resV, res1, castOk, norm, norms, norm1, normL, pureB, pureL, flatB, onesB, snapV, snapOk, snapL, snapOks, specV, argsL, capsL, mkE_S, mkE_G, lkp, eqCells, eqOk, pickV, Fin, vp_bool, Val.toInt, Val.toBool, Val.slen, Val.scell, ↓reduceIte, reduceCtorEq, Nat.reduceEqDiff, Nat.reduceAdd, Nat.reduceSub, Nat.reduceLeDiff, Nat.reduceLT, Nat.zero_add, List.length_cons, List.length_nil, List.append_nil, List.flatMap_cons, List.flatMap_nil, Bool.and_true, Bool.and_false, Bool.and_self, bne_self_eq_false, Bool.not_true, beq_self_eq_true, and_true, true_and, and_self, and_assoc, forall_const, imp_self, implies_true, Nat.le_refl, maxLen, Nat.reducePow, spec0, spec1, spec2, spec3, spec4, TSl, IsSl, TInt, IsInt, RInt, Prod.eta, Sp.L, Sp.c0, Sp.c1, Sp.Is, Sp.of, TSp, RSp, Sp.w_c, Sp.d, Sp.eta, Sr.c0, Sr.c1, Sr.c2, Sr.c3, RSr, Sr.w_c, Sr.d, Sr.eta, Tn.c0, Tn.c1, RTn, Tn.w_c, Tn.d, Tn.eta, Tl.L, Tl.c0, Tl.c1, Tl.c2, Tl.c3, Tl.c4, Tl.Is, Tl.of, TTl, RTl, Tl.d, Tl.eta, Ch.c0, Ch.c1, Ch.c2, RCh, Ch.w_c, Ch.d, Ch.eta, Ck.L, Ck.Is, Ck.of, TCk, Ck.d, Ck.eta]
  refine fun _ _ => ⟨ltw ⟨rfl, rfl, rfl, rfl, rfl⟩ ⟨rfl, rfl, rfl, rfl, rfl⟩, fun _ => ⟨lt3 ⟨rfl, rfl, rfl, rfl, rfl⟩ ⟨rfl, rfl, rfl, rfl, rfl⟩ ⟨rfl, rfl, rfl, rfl, rfl⟩, fun _ => ⟨lt1' ⟨rfl, rfl, rfl, rfl, rfl⟩, lt1' ⟨rfl, rfl, rfl, rfl, rfl⟩, fun _ _ => ⟨lt3 (by decide) (by decide) (by decide), fun _ => ⟨lt3 ⟨rfl, rfl⟩ ⟨rfl, rfl⟩ ⟨rfl, rfl⟩, lt1' rfl⟩⟩⟩⟩⟩
end Go.Proofs.YtbhhcnonooiokaaDoor
