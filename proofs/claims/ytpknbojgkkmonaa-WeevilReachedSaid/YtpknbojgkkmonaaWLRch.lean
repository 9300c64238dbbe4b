/- WeevilReached: each first day is reached. No condition. -/
import Derived.Test.YtpknbojgkkmonaaWRdy
import Derived.Test.YtpknbojgkkmonaaWHsr
import Derived.Test.YtpknbojgkkmonaaACodeL6
set_option linter.unusedSimpArgs false
set_option linter.unusedVariables false
namespace Go.Proofs.Ytpknbojgkkmonaa
open Go Go.RowKit
variable {G : Nat → Option (Nat × (Nat → Val))}
noncomputable def sLawReached : Spec := spec3 TGv (TSl RSg) TI (fun _ _ _ => True) fun _ _ _ => .bool true
set_option maxHeartbeats 8000000 in
set_option maxRecDepth 100000 in
theorem pLawReached : PureOk Try.prog G 6 sLawReached := by
  refine fn3 (S := [(28, sAlive), (29, sReadyW), (22, sSoonest), (15, sIll), (31, sHist), (32, sFits)]) (I := []) mixed
    (.cons pAlive (.cons pReadyW (.cons pSoonest (.cons pIll (.cons pHist (.cons pFits .nil)))))) .nil Try.func6 c6 fun g l day _ hw => ?_
  simp only [vl, WfT, Val.toInt, Val.slen, Val.scell, Nat.reduceSub, and_true, true_and, and_self, and_assoc, maxLen, Nat.reducePow, TSl, TInt, RInt, RPm, Pm.d, RPl, Pl.d, Gv.L, TGv, RSg, Sg.d] at hw
  obtain ⟨w1, w2, w3, w4⟩ := hw
  by_cases hr : rdyP g l
  case neg =>
    have fr := decP_f hr
    simp only [RunTo, a6, sAlive, sReadyW, fr, w1, w2, w3, w4, ↓imp_tt, ↓imp_tf, runO_3, runO_5, runO_14, runO_17, runO_18, runO_19, aop, ends, Nat.zero_sub, ev, fget, fput, params, cellsOf, cellsN, isLB, vget, vlen, bget, addB, addN, mkv, sliceV, vtab, frz, opOwns, preFz, callFz, skipOp, WfT, resV, res1, norm, norms, norm1, normL, pureB, pureL, snapV, snapOk, specV, argsL, capsL, mkE_S, lkp, pickV, Fin, vp_bool, Val.toInt, Val.slen, Val.scell, ↓reduceIte, reduceCtorEq, Nat.reduceEqDiff, Nat.reduceAdd, Nat.reduceSub, Nat.zero_add, List.length_cons, List.length_nil, List.append_nil, Bool.and_self, Bool.bne_false, Bool.not_false, and_true, and_self, and_assoc, forall_const, imp_self, implies_true, Nat.le_refl, maxLen, Nat.reducePow, spec0, spec2, TSl, IsSl, TInt, RInt, Prod.eta, Pm.c0, Pm.c1, Pm.c2, Pm.c3, Pm.c4, RPm, Pm.w_c, Pm.d, Pm.eta, Pl.c0, Pl.c1, RPl, Pl.w_c, Pl.d, Pl.eta, Gv.L, Gv.Is, Gv.of, TGv, Gv.d, Gv.eta, Sg.c0, Sg.c1, Sg.c2, Sg.c3, Sg.c4, Sg.c5, RSg, Sg.w_c, Sg.d, Sg.eta, toUI_val]
  have fr := decP_t hr
  obtain ⟨hg, hl⟩ := rdy_ok hr
  have hn24 := hg.pms.n
  by_cases hd1 : day < g.start
  · have f1 := eq_true hd1
    simp only [RunTo, a6, sAlive, sReadyW, fr, f1, w1, w2, w3, w4, ↓imp_tt, ↓imp_tf, ↓imp_ft, ↓imp_ff, runO_3, runO_5, runO_14, runO_17, runO_18, runO_19, aop, binV, ends, Nat.zero_sub, ev, fget, fput, params, cellsOf, cellsN, isLB, vget, vlen, bget, addB, addN, mkv, sliceV, vtab, frz, opOwns, preFz, callFz, skipOp, WfT, resV, res1, norm, norms, norm1, normL, pureB, pureL, snapV, snapOk, specV, argsL, capsL, mkE_S, lkp, pickV, Fin, vp_bool, Val.toInt, Val.slen, Val.scell, ↓reduceIte, reduceCtorEq, Nat.reduceEqDiff, Nat.reduceAdd, Nat.reduceSub, Nat.reduceLeDiff, Nat.zero_add, decide_true, List.length_cons, List.length_nil, List.append_nil, Bool.and_self, Bool.bne_false, bne_self_eq_false, Bool.not_true, and_true, and_self, and_assoc, forall_const, imp_self, implies_true, Nat.le_refl, maxLen, Nat.reducePow, spec0, spec2, TSl, IsSl, TInt, RInt, Prod.eta, Pm.c0, Pm.c1, Pm.c2, Pm.c3, Pm.c4, RPm, Pm.w_c, Pm.d, Pm.eta, Pl.c0, Pl.c1, RPl, Pl.w_c, Pl.d, Pl.eta, Gv.L, Gv.Is, Gv.of, TGv, Gv.d, Gv.eta, Sg.c0, Sg.c1, Sg.c2, Sg.c3, Sg.c4, Sg.c5, RSg, Sg.w_c, Sg.d, Sg.eta, toUI_val]
  have f1 := eq_false hd1
  by_cases hd2 : day > 100000
  · have f2 := eq_true hd2
    simp only [RunTo, a6, sAlive, sReadyW, fr, f1, f2, w1, w2, w3, w4, ↓imp_tt, ↓imp_tf, ↓imp_ft, ↓imp_ff, runO_3, runO_5, runO_14, runO_17, runO_18, runO_19, aop, binV, ends, Nat.zero_sub, ev, fget, fput, params, cellsOf, cellsN, isLB, vget, vlen, bget, addB, addN, mkv, sliceV, vtab, frz, opOwns, preFz, callFz, skipOp, WfT, resV, res1, norm, norms, norm1, normL, pureB, pureL, snapV, snapOk, specV, argsL, capsL, mkE_S, lkp, pickV, Fin, vp_bool, Val.toInt, Val.slen, Val.scell, ↓reduceIte, reduceCtorEq, Nat.reduceEqDiff, Nat.reduceAdd, Nat.reduceSub, Nat.reduceLeDiff, Nat.zero_add, decide_true, decide_false, List.length_cons, List.length_nil, List.append_nil, Bool.and_self, Bool.bne_false, bne_self_eq_false, Bool.not_true, and_true, and_self, and_assoc, forall_const, imp_self, implies_true, Nat.le_refl, maxLen, Nat.reducePow, spec0, spec2, TSl, IsSl, TInt, RInt, Prod.eta, Pm.c0, Pm.c1, Pm.c2, Pm.c3, Pm.c4, RPm, Pm.w_c, Pm.d, Pm.eta, Pl.c0, Pl.c1, RPl, Pl.w_c, Pl.d, Pl.eta, Gv.L, Gv.Is, Gv.of, TGv, Gv.d, Gv.eta, Sg.c0, Sg.c1, Sg.c2, Sg.c3, Sg.c4, Sg.c5, RSg, Sg.w_c, Sg.d, Sg.eta, toUI_val]
  have f2 := eq_false hd2
  have hd : g.start ≤ day ∧ day ≤ 100000 := by omega
  by_cases hok : okP g l l.1
  case neg =>
    obtain ⟨q1, q2, q3⟩ := st_no hg hl hok
    have q4 := as_no hg hl hd hok
    have q5 := il_no hg hl hd hok
    simp only [RunTo, a6, sAlive, sReadyW, sSoonest, sIll, fr, f1, f2, q1, q2, q3, q4, q5, w1, w2, w3, w4, ↓imp_tt, ↓imp_tf, ↓imp_ft, ↓imp_ff, runO_3, runO_4, runO_5, runO_14, runO_17, runO_18, runO_19, aop, binV, ends, ev, fget, fput, params, cellsOf, cellsN, isLB, vget, vlen, bget, addB, addN, mkv, sliceV, vtab, frz, opOwns, preFz, callFz, skipOp, WfT, resV, res1, norm, norms, norm1, normL, pureB, pureL, snapV, snapOk, specV, argsL, capsL, mkE_S, lkp, pickV, lenV, Fin, vp_bool, Val.toInt, Val.slen, Val.scell, ↓reduceIte, reduceCtorEq, Nat.reduceEqDiff, Nat.reduceAdd, Nat.reduceSub, Nat.reduceLeDiff, Nat.reduceLT, Nat.zero_add, Int.reduceBNe, decide_false, List.length_cons, List.length_nil, List.append_nil, Bool.and_self, bne_self_eq_false, Bool.not_true, beq_self_eq_true, and_true, and_self, and_assoc, forall_const, imp_self, implies_true, Nat.le_refl, maxLen, Nat.reducePow, spec0, spec2, spec3, TSl, IsSl, TInt, IsInt, RInt, Prod.eta, Pm.c0, Pm.c1, Pm.c2, Pm.c3, Pm.c4, RPm, Pm.w_c, Pm.d, Pm.eta, Pl.c0, Pl.c1, RPl, Pl.w_c, Pl.d, Pl.eta, Gv.L, Gv.Is, Gv.of, TGv, Gv.d, Gv.eta, Sg.c0, Sg.c1, Sg.c2, Sg.c3, Sg.c4, Sg.c5, RSg, Sg.w_c, Sg.d, Sg.eta, toUI_val]
  obtain ⟨q1, q2, q3⟩ := st_ok hg hl hok
  have q4 := asE_ok hg hl hd hok
  have q5 := il_ok hg hl hd hok
  have hH := dy_hist hg hl.2
  have hfit := hok
  have hbd := dy_bd hg hl.2
  have hk0 := fun i => ill_0 (g := g) (l := l) (day := day) (i := i)
  have hst := hg.start
  unfold okP at hfit
  obtain ⟨D, hD⟩ : ∃ D, dyF g l l.1 = D := ⟨_, rfl⟩
  obtain ⟨K, hK⟩ : ∃ K, illF g l day = K := ⟨_, rfl⟩
  rw [hD] at q3 hH hfit hbd
  rw [hK] at q5
  simp only [hD, hK] at hk0
  have fH := decP_t hH
  simp only [RunTo, a6, sAlive, sReadyW, sSoonest, sIll, sHist, fr, f1, f2, fH, q1, q2, q3, q4, q5, hg, w1, w2, w3, w4, ↓imp_ft, ↓imp_ff, runO_4, runO_5, runO_6, runO_14, runO_15, runO_17, runO_18, runO_19, aop, binV, ev, fget, fput, params, cellsOf, cellsN, isLB, vget, vlen, bget, addB, addN, mkv, sliceV, vtab, frz, opOwns, preFz, callFz, skipOp, WfT, norm, norms, norm1, normL, pureB, pureL, specV, argsL, capsL, mkE_S, lkp, pickV, lenV, Fin, vp_bool, Val.toInt, Val.slen, Val.scell, ↓reduceIte, reduceCtorEq, Nat.reduceEqDiff, Nat.reduceAdd, Nat.reduceSub, Nat.reduceLeDiff, Nat.reduceLT, Nat.zero_add, Nat.add_zero, decide_false, List.length_cons, List.length_nil, List.append_nil, Bool.and_self, bne_self_eq_false, Bool.not_true, and_true, true_and, and_self, and_assoc, forall_const, imp_self, implies_true, Nat.le_refl, maxLen, Nat.reducePow, spec0, spec2, spec3, TSl, IsSl, TInt, IsInt, RInt, Prod.eta, Pm.c0, Pm.c1, Pm.c2, Pm.c3, Pm.c4, RPm, Pm.w_c, Pm.d, Pm.eta, Pl.c0, Pl.c1, RPl, Pl.w_c, Pl.d, Pl.eta, Gv.L, Gv.Is, Gv.of, TGv, Gv.d, Gv.eta, Sg.c0, Sg.c1, Sg.c2, Sg.c3, Sg.c4, Sg.c5, RSg, Sg.w_c, Sg.d, Sg.eta, toUI_val]
  refine ⟨fun i hi => by have := hbd i hi; omega, ?_⟩
  refine loopI (ι := Nat) (fun j => j ≤ l.1) (fun j => l.1 - j) [2, 3, 7, 8, 11, 90, 91] (fun j => [(92, .int .i64 j)]) (fun _ => []) 0 (by omega) (by simp only [Chk, chkFr, chkBx, chkBx1, hasB, idsLt, kept, vs_int, vs_bool, vs_nil, vs_ptr, vs_cons, vs_view, fget, isLB, bget, vsubP_self, ↓reduceIte, reduceCtorEq, Nat.reduceEqDiff, Nat.reduceLT, Int.cast_ofNat_Int, and_self, forall_const, implies_true, Option.some.injEq, exists_eq', keepF, appF, updB]; try rfl) fun j hj => ?_
  by_cases hjl : j < l.1
  · have fj : ((j : Int) < (l.1 : Int)) = True := eq_true (by omega)
    have ff := decP_t (hfit j hjl)
    have hs := hl.2 j hjl
    simp only [sFits, ff, fj, hg, hs, w1, w2, w3, ↓imp_tt, ↓imp_tf, ↓imp_ft, ↓imp_ff, runO_4, runO_5, runO_6, runO_8, runO_14, runO_16, runO_17, runO_18, runO_19, aop, binV, reOk, Nat.zero_sub, ev, fget, fput, cellsOf, cellsN, isLB, vget, vset, vsets, vlen, bget, bset, addB, addN, mkv, sliceV, vtab, frz, opOwns, preFz, callFz, skipOp, WfT, casts, castOks, cast1, castOk, norm, norms, norm1, normL, pureB, pureL, onesB, specV, argsL, capsL, mkE_S, lkp, stkFr, Val.toInt, Val.slen, Val.scell, ↓reduceIte, reduceCtorEq, Nat.reduceEqDiff, Nat.reduceAdd, Nat.reduceSub, Nat.zero_add, decide_true, List.length_cons, List.length_nil, List.append_nil, Bool.and_self, Bool.not_true, and_true, true_and, and_self, and_assoc, forall_const, imp_self, implies_true, Nat.le_refl, maxLen, Nat.reducePow, keepF, appF, updB, inat, spec3, TSl, IsSl, RInt, Prod.eta, Pm.c0, Pm.c1, Pm.c2, Pm.c3, Pm.c4, RPm, Pm.w_c, Pm.d, Pm.eta, Pl.c0, Pl.c1, RPl, Pl.w_c, Pl.d, Pl.eta, Gv.L, Gv.Is, Gv.of, TGv, Gv.d, Gv.eta, Sg.L, Sg.c0, Sg.c1, Sg.c2, Sg.c3, Sg.c4, Sg.c5, Sg.Is, Sg.of, TSg, Sg.d, Sg.eta, toUI_val]
    repeat' (first | omega | (with_reducible apply And.intro) | intro _)
    refine inv_intro (j + 1) (by omega) (by omega) ?_
    simp only [Chk, chkFr, chkBx, chkBx1, hasB, idsLt, kept, vs_int, vs_bool, vs_nil, vs_ptr, vs_cons, vs_view, Nat.lt_irrefl, fget, isLB, bget, vsubP_self, ↓reduceIte, reduceCtorEq, Nat.reduceEqDiff, Nat.reduceLT, and_true, true_and, and_self, forall_const, implies_true, Option.some.injEq, Val.int.injEq, exists_eq', false_implies]
    rw [wrS (by omega)]
  have fj : ((j : Int) < (l.1 : Int)) = False := eq_false (by omega)
  simp only [fj, w1, ↓imp_ft, ↓imp_ff, runO_5, runO_6, runO_9, runO_14, runO_15, runO_17, runO_18, runO_19, aop, binV, ev, fget, fput, addB, addN, frz, opOwns, preFz, skipOp, WfT, lenV, popTo, stkFr, ↓reduceIte, reduceCtorEq, Nat.reduceEqDiff, Nat.reduceSub, decide_false, true_and, and_self, forall_const, imp_self, implies_true, maxLen, Nat.reducePow, keepF, appF, updB]
  clear hjl fj hj
  refine loopI (ι := Nat) (fun j => j ≤ g.palms.1) (fun j => g.palms.1 - j) [2, 3, 7, 11, 102, 103] (fun j => [(104, .int .i64 j)]) (fun _ => []) 0 (by omega) (by simp only [Chk, chkFr, chkBx, chkBx1, hasB, idsLt, kept, vs_int, vs_bool, vs_nil, vs_ptr, vs_cons, vs_view, fget, isLB, bget, vsubP_self, ↓reduceIte, Nat.reduceEqDiff, Nat.reduceLT, Int.cast_ofNat_Int, and_self, forall_const, implies_true, Option.some.injEq, exists_eq', keepF, appF, updB]; try rfl) fun j hj => ?_
  by_cases hjl : j < g.palms.1
  · have fj : ((j : Int) < (g.palms.1 : Int)) = True := eq_true (by omega)
    have hb := hbd j hjl
    have g1 : (D j < g.start) = False := eq_false (by omega)
    have g2 : (D j > 100001) = False := eq_false (by omega)
    by_cases hgt : D j > day
    · have g3 := eq_true hgt
      have g4 : (K j = 0) = True := eq_true ((hk0 j).2 hgt)
      simp only [fj, g1, g2, g3, (hk0 j).2 hgt, w1, ↓imp_tt, ↓imp_tf, ↓imp_ft, ↓imp_ff, runO_4, runO_5, runO_6, runO_8, runO_14, runO_16, runO_17, runO_18, runO_19, aop, binV, ev, fget, fput, vget, vlen, bget, addB, addN, mkv, sliceV, vtab, frz, opOwns, preFz, skipOp, WfT, casts, castOks, cast1, castOk, pickV, stkFr, Val.toInt, ↓reduceIte, reduceCtorEq, Nat.reduceEqDiff, Nat.reduceAdd, Nat.reduceSub, Nat.reduceLeDiff, Nat.zero_add, decide_true, decide_false, List.length_cons, List.length_nil, bne_self_eq_false, beq_self_eq_true, and_true, true_and, and_self, forall_const, imp_self, implies_true, Nat.le_refl, maxLen, Nat.reducePow, keepF, appF, updB, inat]
      repeat' (first | omega | (with_reducible apply And.intro) | intro _)
      refine inv_intro (j + 1) (by omega) (by omega) ?_
      simp only [Chk, chkFr, chkBx, chkBx1, hasB, idsLt, kept, vs_int, vs_bool, vs_nil, vs_ptr, vs_cons, vs_view, fget, isLB, bget, vsubP_self, ↓reduceIte, Nat.reduceEqDiff, Nat.reduceLT, and_true, true_and, and_self, forall_const, implies_true, Option.some.injEq, Val.int.injEq, exists_eq']
      rw [wrS (by omega)]
    · have g3 := eq_false hgt
      have g4 : (K j == 0) = false := beq_eq_false_iff_ne.2 fun h => hgt ((hk0 j).1 h)
      simp only [fj, g1, g2, g3, g4, w1, ↓imp_tt, ↓imp_tf, ↓imp_ft, ↓imp_ff, runO_4, runO_5, runO_6, runO_8, runO_14, runO_16, runO_17, runO_18, runO_19, aop, binV, ev, fget, fput, vget, vlen, bget, addB, addN, mkv, sliceV, vtab, frz, opOwns, preFz, skipOp, WfT, casts, castOks, cast1, castOk, pickV, stkFr, Val.toInt, ↓reduceIte, reduceCtorEq, Nat.reduceEqDiff, Nat.reduceAdd, Nat.reduceSub, Nat.reduceLeDiff, Nat.zero_add, decide_true, decide_false, List.length_cons, List.length_nil, bne_self_eq_false, and_true, true_and, and_self, forall_const, imp_self, implies_true, Nat.le_refl, maxLen, Nat.reducePow, keepF, appF, updB, inat]
      repeat' (first | omega | (with_reducible apply And.intro) | intro _)
      refine inv_intro (j + 1) (by omega) (by omega) ?_
      simp only [Chk, chkFr, chkBx, chkBx1, hasB, idsLt, kept, vs_int, vs_bool, vs_nil, vs_ptr, vs_cons, vs_view, fget, isLB, bget, vsubP_self, ↓reduceIte, Nat.reduceEqDiff, Nat.reduceLT, and_true, true_and, and_self, forall_const, implies_true, Option.some.injEq, Val.int.injEq, exists_eq']
      rw [wrS (by omega)]
  · have fj : ((j : Int) < (g.palms.1 : Int)) = False := eq_false (by omega)
    simp only [fj, ↓imp_ft, ↓imp_ff, runO_3, runO_5, runO_9, runO_14, runO_17, runO_18, runO_19, aop, binV, ends, ev, fget, fput, addB, addN, frz, opOwns, preFz, skipOp, WfT, resV, res1, snapV, snapOk, popTo, stkFr, ↓reduceIte, reduceCtorEq, Nat.reduceEqDiff, decide_false, and_self, forall_const, imp_self, implies_true, keepF, appF, updB]
end Go.Proofs.Ytpknbojgkkmonaa
