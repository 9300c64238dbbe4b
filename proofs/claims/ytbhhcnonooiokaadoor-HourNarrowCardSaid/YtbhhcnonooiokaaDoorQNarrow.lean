/- HourNarrow: what is known better is told no wider. No condition. -/
import Derived.Test.YtbhhcnonooiokaaDoorQNarT0
import Derived.Test.YtbhhcnonooiokaaDoorQNarT1
import Derived.Test.YtbhhcnonooiokaaDoorQNarT2
import Derived.Test.YtbhhcnonooiokaaDoorQNarF0
import Derived.Test.YtbhhcnonooiokaaDoorQNarF1
import Derived.Test.YtbhhcnonooiokaaDoorQNarF2
set_option linter.unusedSimpArgs false
set_option linter.unusedVariables false
namespace Go.Proofs.YtbhhcnonooiokaaDoor
open Go Go.RowKit
set_option maxRecDepth 100000 in
theorem pLawNarrow : PureOk Tryd.prog NG 9 sLawNarrow := by
  refine fn6 (S := narS) (I := narI) mixed
    (.cons pAlive (.cons pReady (.cons pGreatN (.cons pPart (.cons pCheckR (.cons (pAllAP pTellP) (.cons (pBefP pTellP) (.cons pNightP (.cons pWithinL .nil))))))))) (.cons Tryd.func16 c16 .nil) Tryd.func9 c9 fun k day a b night by' _ hw => ?_
  have hW : NarW k day a b night by' := hw
  show NarGoal k day a b night by'
  simp only [vl, WfT, Val.toInt, Val.toBool, Val.slen, Val.scell, Nat.reduceSub, and_true, true_and, and_self, and_assoc, maxLen, Nat.reducePow, RU_k, RU_C, TSl, TInt, RSp, Sp.d, RSr, Sr.d, RTl, Tl.d, RCh, Ch.d, Ck.L, TCk] at hw
  by_cases h0 : ¬ askE k day = 0
  · simp only [NarGoal, narS, narI, RunTo, a9, sAlive, sReady, show rdyB k day = false from decide_eq_false h0, hw, ↓imp_tt, ↓imp_tf, runO_3, runO_5, runO_14, runO_17, runO_18, runO_19, aop, ends, Nat.zero_sub, ev, fget, fput, params, cellsOf, cellsN, isLB, vget, vlen, bget, addB, addN, mkv, sliceV, vtab, frz, opOwns, preFz, callFz, skipOp, WfT, resV, res1, norm, norms, norm1, normL, pureB, pureL, snapV, snapOk, specV, argsL, capsL, mkE_S, lkp, pickV, Fin, vp_bool, Val.toInt, Val.toBool, Val.slen, Val.scell, ↓reduceIte, reduceCtorEq, Nat.reduceEqDiff, Nat.reduceAdd, Nat.reduceSub, Nat.zero_add, List.length_cons, List.length_nil, List.append_nil, Bool.and_self, Bool.bne_false, Bool.not_false, and_true, and_self, and_assoc, forall_const, imp_self, implies_true, Nat.le_refl, maxLen, Nat.reducePow, RU_k, RU_C, spec0, spec2, TSl, TInt, IsInt, Prod.eta, Sp.c0, Sp.c1, RSp, Sp.w_c, Sp.d, Sp.eta, Sr.c0, Sr.c1, Sr.c2, Sr.c3, RSr, Sr.w_c, Sr.d, Sr.eta, RTl, Tl.d, RCh, Ch.d, Ck.L, Ck.Is, Ck.of, TCk, Ck.d, Ck.eta]
  replace h0 := Classical.not_not.1 h0
  have hd0 : rdyB k day = true := decide_eq_true h0
  obtain ⟨hc, hd⟩ := askE_0 h0
  by_cases ha : ¬ a.1 ≤ 16
  · have fa : ((a.1 : Int) > 16) = True := eq_true (by omega)
    simp only [NarGoal, narS, narI, RunTo, a9, sAlive, sReady, hd0, fa, hw, ↓imp_tt, ↓imp_tf, ↓imp_ft, ↓imp_ff, runO_3, runO_5, runO_14, runO_17, runO_18, runO_19, aop, binV, ends, Nat.zero_sub, ev, fget, fput, params, cellsOf, cellsN, isLB, vget, vlen, bget, addB, addN, mkv, sliceV, vtab, frz, opOwns, preFz, callFz, skipOp, WfT, resV, res1, norm, norms, norm1, normL, pureB, pureL, snapV, snapOk, specV, argsL, capsL, mkE_S, lkp, pickV, lenV, Fin, vp_bool, Val.toInt, Val.toBool, Val.slen, Val.scell, ↓reduceIte, reduceCtorEq, Nat.reduceEqDiff, Nat.reduceAdd, Nat.reduceSub, Nat.zero_add, decide_true, List.length_cons, List.length_nil, List.append_nil, Bool.and_self, Bool.bne_false, bne_self_eq_false, Bool.not_true, and_true, and_self, and_assoc, forall_const, imp_self, implies_true, Nat.le_refl, maxLen, Nat.reducePow, RU_k, RU_C, spec0, spec2, TSl, TInt, IsInt, Prod.eta, Sp.c0, Sp.c1, RSp, Sp.w_c, Sp.d, Sp.eta, Sr.c0, Sr.c1, Sr.c2, Sr.c3, RSr, Sr.w_c, Sr.d, Sr.eta, RTl, Tl.d, RCh, Ch.d, Ck.L, Ck.Is, Ck.of, TCk, Ck.d, Ck.eta]
  replace ha := Classical.not_not.1 ha
  have fa : ((a.1 : Int) > 16) = False := eq_false (by omega)
  by_cases hb : ¬ b.1 ≤ 16
  · have fb : ((b.1 : Int) > 16) = True := eq_true (by omega)
    simp only [NarGoal, narS, narI, RunTo, a9, sAlive, sReady, hd0, fa, fb, hw, ↓imp_tt, ↓imp_tf, ↓imp_ft, ↓imp_ff, runO_3, runO_5, runO_14, runO_17, runO_18, runO_19, aop, binV, ends, Nat.zero_sub, ev, fget, fput, params, cellsOf, cellsN, isLB, vget, vlen, bget, addB, addN, mkv, sliceV, vtab, frz, opOwns, preFz, callFz, skipOp, WfT, resV, res1, norm, norms, norm1, normL, pureB, pureL, snapV, snapOk, specV, argsL, capsL, mkE_S, lkp, pickV, lenV, Fin, vp_bool, Val.toInt, Val.toBool, Val.slen, Val.scell, ↓reduceIte, reduceCtorEq, Nat.reduceEqDiff, Nat.reduceAdd, Nat.reduceSub, Nat.zero_add, decide_true, decide_false, List.length_cons, List.length_nil, List.append_nil, Bool.and_self, Bool.bne_false, bne_self_eq_false, Bool.not_true, and_true, and_self, and_assoc, forall_const, imp_self, implies_true, Nat.le_refl, maxLen, Nat.reducePow, RU_k, RU_C, spec0, spec2, TSl, TInt, IsInt, Prod.eta, Sp.c0, Sp.c1, RSp, Sp.w_c, Sp.d, Sp.eta, Sr.c0, Sr.c1, Sr.c2, Sr.c3, RSr, Sr.w_c, Sr.d, Sr.eta, RTl, Tl.d, RCh, Ch.d, Ck.L, Ck.Is, Ck.of, TCk, Ck.d, Ck.eta]
  replace hb := Classical.not_not.1 hb
  cases hbr : ckB (narQ k by') with
  | true =>
    have hB : Better (narC k by' (narM k by')) k := nar_better hc (.inl rfl) rfl
    have h0' : askE (narC k by' (narM k by')) day = 0 := ask_ok (nar_ok hc (ckB_true.1 hbr) rfl) hd
    rcases hB.all3 h0 h0' a with h | h | h
    · exact nar_t0 k day a b night by' hW h0 ha hb hbr h
    · exact nar_t1 k day a b night by' hW h0 ha hb hbr h
    · exact nar_t2 k day a b night by' hW h0 ha hb hbr h
  | false =>
    have hB : Better (narC k by' k.mrk) k := nar_better hc (.inr rfl) rfl
    have h0' : askE (narC k by' k.mrk) day = 0 := ask_ok (nar_ok hc hc rfl) hd
    rcases hB.all3 h0 h0' a with h | h | h
    · exact nar_f0 k day a b night by' hW h0 ha hb hbr h
    · exact nar_f1 k day a b night by' hW h0 ha hb hbr h
    · exact nar_f2 k day a b night by' hW h0 ha hb hbr h
end Go.Proofs.YtbhhcnonooiokaaDoor
