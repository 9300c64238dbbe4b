/- WeevilClash: signs that are named contradict each other. No condition. -/
import Derived.Test.YtpknbojgkkmonaaWRdy
import Derived.Test.YtpknbojgkkmonaaACodeL8
set_option linter.unusedSimpArgs false
set_option linter.unusedVariables false
namespace Go.Proofs.Ytpknbojgkkmonaa
open Go Go.RowKit
variable {G : Nat → Option (Nat × (Nat → Val))}
noncomputable def sLawClash : Spec := spec3 TGv (TSl RSg) TI (fun _ _ _ => True) fun _ _ _ => .bool true
set_option maxHeartbeats 8000000 in
set_option maxRecDepth 100000 in
theorem pLawClash : PureOk Try.prog G 8 sLawClash := by
  refine fn3 (S := [(28, sAlive), (29, sReadyW), (22, sSoonest), (15, sIll)]) (I := []) mixed (.cons pAlive (.cons pReadyW (.cons pSoonest (.cons pIll .nil)))) .nil Try.func8 c8 fun g l day _ hw => ?_
  simp only [vl, WfT, Val.toInt, Val.slen, Val.scell, Nat.reduceSub, and_true, true_and, and_self, and_assoc, maxLen, Nat.reducePow, TSl, TInt, RInt, RPm, Pm.d, RPl, Pl.d, Gv.L, TGv, RSg, Sg.d] at hw
  obtain ⟨w1, w2, w3, w4⟩ := hw
  by_cases hr : rdyP g l
  case neg =>
    have fr := decP_f hr
    simp only [RunTo, a8, sAlive, sReadyW, fr, w1, w2, w3, w4, ↓imp_tt, ↓imp_tf, runO_3, runO_5, runO_14, runO_17, runO_18, runO_19, aop, ends, Nat.zero_sub, ev, fget, fput, params, cellsOf, cellsN, isLB, vget, vlen, bget, addB, addN, mkv, sliceV, vtab, frz, opOwns, preFz, callFz, skipOp, WfT, resV, res1, norm, norms, norm1, normL, pureB, pureL, snapV, snapOk, specV, argsL, capsL, mkE_S, lkp, pickV, Fin, vp_bool, Val.toInt, Val.slen, Val.scell, ↓reduceIte, reduceCtorEq, Nat.reduceEqDiff, Nat.reduceAdd, Nat.reduceSub, Nat.zero_add, List.length_cons, List.length_nil, List.append_nil, Bool.and_self, Bool.bne_false, Bool.not_false, and_true, and_self, and_assoc, forall_const, imp_self, implies_true, Nat.le_refl, maxLen, Nat.reducePow, spec0, spec2, TSl, IsSl, TInt, RInt, Prod.eta, Pm.c0, Pm.c1, Pm.c2, Pm.c3, Pm.c4, RPm, Pm.w_c, Pm.d, Pm.eta, Pl.c0, Pl.c1, RPl, Pl.w_c, Pl.d, Pl.eta, Gv.L, Gv.Is, Gv.of, TGv, Gv.d, Gv.eta, Sg.c0, Sg.c1, Sg.c2, Sg.c3, Sg.c4, Sg.c5, RSg, Sg.w_c, Sg.d, Sg.eta, toUI_val]
  have fr := decP_t hr
  obtain ⟨hg, hl⟩ := rdy_ok hr
  have hn24 := hg.pms.n
  by_cases hd1 : day < g.start
  · have f1 := eq_true hd1
    simp only [RunTo, a8, sAlive, sReadyW, fr, f1, w1, w2, w3, w4, ↓imp_tt, ↓imp_tf, ↓imp_ft, ↓imp_ff, runO_3, runO_5, runO_14, runO_17, runO_18, runO_19, aop, binV, ends, Nat.zero_sub, ev, fget, fput, params, cellsOf, cellsN, isLB, vget, vlen, bget, addB, addN, mkv, sliceV, vtab, frz, opOwns, preFz, callFz, skipOp, WfT, resV, res1, norm, norms, norm1, normL, pureB, pureL, snapV, snapOk, specV, argsL, capsL, mkE_S, lkp, pickV, Fin, vp_bool, Val.toInt, Val.slen, Val.scell, ↓reduceIte, reduceCtorEq, Nat.reduceEqDiff, Nat.reduceAdd, Nat.reduceSub, Nat.reduceLeDiff, Nat.zero_add, decide_true, List.length_cons, List.length_nil, List.append_nil, Bool.and_self, Bool.bne_false, bne_self_eq_false, Bool.not_true, and_true, and_self, and_assoc, forall_const, imp_self, implies_true, Nat.le_refl, maxLen, Nat.reducePow, spec0, spec2, TSl, IsSl, TInt, RInt, Prod.eta, Pm.c0, Pm.c1, Pm.c2, Pm.c3, Pm.c4, RPm, Pm.w_c, Pm.d, Pm.eta, Pl.c0, Pl.c1, RPl, Pl.w_c, Pl.d, Pl.eta, Gv.L, Gv.Is, Gv.of, TGv, Gv.d, Gv.eta, Sg.c0, Sg.c1, Sg.c2, Sg.c3, Sg.c4, Sg.c5, RSg, Sg.w_c, Sg.d, Sg.eta, toUI_val]
  have f1 := eq_false hd1
  by_cases hd2 : day > 100000
  · have f2 := eq_true hd2
    simp only [RunTo, a8, sAlive, sReadyW, fr, f1, f2, w1, w2, w3, w4, ↓imp_tt, ↓imp_tf, ↓imp_ft, ↓imp_ff, runO_3, runO_5, runO_14, runO_17, runO_18, runO_19, aop, binV, ends, Nat.zero_sub, ev, fget, fput, params, cellsOf, cellsN, isLB, vget, vlen, bget, addB, addN, mkv, sliceV, vtab, frz, opOwns, preFz, callFz, skipOp, WfT, resV, res1, norm, norms, norm1, normL, pureB, pureL, snapV, snapOk, specV, argsL, capsL, mkE_S, lkp, pickV, Fin, vp_bool, Val.toInt, Val.slen, Val.scell, ↓reduceIte, reduceCtorEq, Nat.reduceEqDiff, Nat.reduceAdd, Nat.reduceSub, Nat.reduceLeDiff, Nat.zero_add, decide_true, decide_false, List.length_cons, List.length_nil, List.append_nil, Bool.and_self, Bool.bne_false, bne_self_eq_false, Bool.not_true, and_true, and_self, and_assoc, forall_const, imp_self, implies_true, Nat.le_refl, maxLen, Nat.reducePow, spec0, spec2, TSl, IsSl, TInt, RInt, Prod.eta, Pm.c0, Pm.c1, Pm.c2, Pm.c3, Pm.c4, RPm, Pm.w_c, Pm.d, Pm.eta, Pl.c0, Pl.c1, RPl, Pl.w_c, Pl.d, Pl.eta, Gv.L, Gv.Is, Gv.of, TGv, Gv.d, Gv.eta, Sg.c0, Sg.c1, Sg.c2, Sg.c3, Sg.c4, Sg.c5, RSg, Sg.w_c, Sg.d, Sg.eta, toUI_val]
  have f2 := eq_false hd2
  have hd : g.start ≤ day ∧ day ≤ 100000 := by omega
  by_cases hok : okP g l l.1
  case neg =>
    obtain ⟨q1, q2, q3⟩ := st_no hg hl hok
    obtain ⟨b1, b2, b3⟩ := bad_spec hok
    obtain ⟨b, hb⟩ : ∃ b, badI g l = b := ⟨_, rfl⟩
    rw [hb] at q2 b1 b2 b3
    have hl1 : SgsOk g (b, l.2) := ⟨by have := hl.1; show b ≤ 30; omega, fun j hj => hl.2 j (by have : j < b := hj; omega)⟩
    have hl2 : SgsOk g (b + 1, l.2) := ⟨by have := hl.1; show b + 1 ≤ 30; omega, fun j hj => hl.2 j (by have : j < b + 1 := hj; omega)⟩
    obtain ⟨r1, r2, r3⟩ := st_ok hg hl1 b3
    obtain ⟨t1, t2, t3⟩ := st_no hg hl2 b2
    have t4 : badI g (b + 1, l.2) = b := badI_at (l := (b + 1, l.2)) (Nat.lt_succ_self b) b2 fun i hi => ok_less hg hl1.2 b3 hi
    rw [t4] at t2
    have e1 : IntKind.i64.wrap ((b : Int) + 1) = ((b + 1 : Nat) : Int) := by rw [wr64 (by omega) (by omega)]; omega
    have g1 : ((b : Int) < 0) = False := eq_false (by omega)
    have g2 : ((b : Int) ≥ (l.1 : Int)) = False := eq_false (by omega)
    simp only [RunTo, a8, sAlive, sReadyW, sSoonest, fr, f1, f2, q1, q2, q3, r1, r2, r3, t1, t2, t3, e1, g1, g2, Int.sub_zero, Int.toNat_natCast, w1, w2, w3, w4, ↓imp_tt, ↓imp_tf, ↓imp_ft, ↓imp_ff, runO_3, runO_4, runO_5, runO_14, runO_17, runO_18, runO_19, aop, binV, ends, ev, fget, fput, params, cellsOf, cellsN, isLB, vget, vlen, bget, addB, addN, mkv, sliceV, vtab, frz, opOwns, preFz, callFz, skipOp, WfT, resV, res1, norm, norms, norm1, normL, pureB, pureL, snapV, snapOk, specV, argsL, capsL, mkE_S, lkp, pickV, optInt, lenV, Fin, vp_bool, Val.toInt, Val.slen, Val.scell, ↓reduceIte, reduceCtorEq, Nat.reduceEqDiff, Nat.reduceAdd, Nat.reduceSub, Nat.reduceLeDiff, Nat.reduceLT, Nat.zero_add, Int.reduceToNat, Int.reduceLE, Int.reduceBNe, decide_false, List.length_cons, List.length_nil, List.append_nil, Bool.and_self, bne_self_eq_false, Bool.not_true, beq_self_eq_true, and_true, true_and, and_self, and_assoc, forall_const, imp_self, implies_true, Nat.le_refl, maxLen, Nat.reducePow, spec0, spec2, TSl, IsSl, TInt, RInt, Prod.eta, Pm.c0, Pm.c1, Pm.c2, Pm.c3, Pm.c4, RPm, Pm.w_c, Pm.d, Pm.eta, Pl.c0, Pl.c1, RPl, Pl.w_c, Pl.d, Pl.eta, Gv.L, Gv.Is, Gv.of, TGv, Gv.d, Gv.eta, Sg.c0, Sg.c1, Sg.c2, Sg.c3, Sg.c4, Sg.c5, RSg, Sg.w_c, Sg.d, Sg.eta, toUI_val]
    exact ⟨by omega, by omega, by omega, by omega⟩
  obtain ⟨q1, q2, q3⟩ := st_ok hg hl hok
  by_cases h0 : l.1 = 0
  · have g1 : ((l.1 : Int) = 0) = True := eq_true (by omega)
    simp only [RunTo, a8, sAlive, sReadyW, sSoonest, fr, f1, f2, q1, q2, q3, g1, w1, w2, w3, w4, flatO, ↓imp_tt, ↓imp_tf, ↓imp_ft, ↓imp_ff, runO_3, runO_4, runO_5, runO_6, runO_14, runO_15, runO_17, runO_18, runO_19, aop, binV, ends, Nat.zero_sub, ev, fget, fput, params, cellsOf, cellsN, isLB, vget, vlen, bget, addB, addN, mkv, sliceV, vtab, frz, opOwns, preFz, callFz, skipOp, WfT, resV, res1, norm, norms, norm1, normL, pureB, pureL, snapV, snapOk, snapL, snapOks, specV, argsL, capsL, mkE_S, lkp, pickV, optInt, lenV, Fin, vp_bool, Val.toInt, Val.slen, Val.scell, ↓reduceIte, reduceCtorEq, Nat.reduceEqDiff, Nat.reduceAdd, Nat.reduceSub, Nat.reduceLeDiff, Nat.reduceLT, Nat.zero_add, Int.reduceToNat, Int.reduceLE, decide_false, beq_iff_eq, beq_eq_false_iff_ne, bne_iff_ne, bne_eq_false_iff_eq, List.length_cons, List.length_nil, List.append_nil, Bool.and_true, Bool.and_self, Bool.bne_false, bne_self_eq_false, Bool.not_true, Bool.false_eq_true, beq_self_eq_true, and_true, true_and, and_self, and_assoc, forall_const, imp_self, implies_true, Nat.le_refl, Val.bool.injEq, ne_eq, false_implies, not_true_eq_false, maxLen, Nat.reducePow, spec0, spec2, TSl, IsSl, TInt, RInt, Prod.eta, Pm.c0, Pm.c1, Pm.c2, Pm.c3, Pm.c4, RPm, Pm.w_c, Pm.d, Pm.eta, Pl.c0, Pl.c1, RPl, Pl.w_c, Pl.d, Pl.eta, Gv.L, Gv.Is, Gv.of, TGv, Gv.d, Gv.eta, Sg.c0, Sg.c1, Sg.c2, Sg.c3, Sg.c4, Sg.c5, RSg, Sg.w_c, Sg.d, Sg.eta, toUI_val]
  have g1 : ((l.1 : Int) = 0) = False := eq_false (by omega)
  have q4 := asE_ok hg hl hd hok
  have q5 := il_ok hg hl hd hok
  obtain ⟨m, hm⟩ : ∃ m, l.1 = m + 1 := ⟨l.1 - 1, by omega⟩
  have em : ((l.1 : Int) - 1).toNat = m := by omega
  have hl' : SgsOk g (m, fun i => l.2 (1 + i)) := ⟨by have := hl.1; show m ≤ 30; omega, fun j hj => hl.2 (1 + j) (by have : j < m := hj; omega)⟩
  obtain ⟨k1, k2, k3⟩ := few (day := day) hg hl.2 hl'.2 (fun j hj => ⟨1 + j, by have : j < m := hj; omega, rfl⟩) hok (by have := hg.start; omega)
  obtain ⟨r1, r2, r3⟩ := st_ok hg hl' k1
  have r4 := asE_ok hg hl' hd k1
  have r5 := il_ok hg hl' hd k1
  obtain ⟨D, hD⟩ : ∃ D, dyF g l l.1 = D := ⟨_, rfl⟩
  obtain ⟨E, hE⟩ : ∃ E, dyF g (m, fun i => l.2 (1 + i)) (m, fun i => l.2 (1 + i)).1 = E := ⟨_, rfl⟩
  obtain ⟨A, hA⟩ : ∃ A, illF g l day = A := ⟨_, rfl⟩
  obtain ⟨B, hB⟩ : ∃ B, illF g (m, fun i => l.2 (1 + i)) day = B := ⟨_, rfl⟩
  rw [hD] at q3
  rw [hE] at r3
  rw [hA] at q5
  rw [hB] at r5
  simp only [hD, hE] at k2
  simp only [hA, hB] at k3
  clear hD hE hA hB
  simp only [RunTo, a8, sAlive, sReadyW, sSoonest, sIll, fr, f1, f2, q1, q2, q3, q4, q5, g1, em, r1, r2, r3, r4, r5, w1, w2, w3, w4, ↓imp_tt, ↓imp_tf, ↓imp_ft, ↓imp_ff, runO_3, runO_4, runO_5, runO_6, runO_14, runO_15, runO_17, runO_18, runO_19, aop, binV, ends, ev, fget, fput, params, cellsOf, cellsN, isLB, vget, vlen, bget, addB, addN, mkv, sliceV, vtab, frz, opOwns, preFz, callFz, skipOp, WfT, resV, res1, norm, norms, norm1, normL, pureB, pureL, snapV, snapOk, specV, argsL, capsL, mkE_S, lkp, pickV, optInt, lenV, Fin, vp_bool, Val.toInt, Val.slen, Val.scell, ↓reduceIte, reduceCtorEq, Nat.reduceEqDiff, Nat.reduceAdd, Nat.reduceSub, Nat.reduceLeDiff, Nat.reduceLT, Nat.zero_add, Int.reduceToNat, Int.reduceLE, decide_false, beq_iff_eq, beq_eq_false_iff_ne, List.length_cons, List.length_nil, List.append_nil, Bool.and_self, bne_self_eq_false, Bool.not_true, beq_self_eq_true, and_true, true_and, and_self, and_assoc, forall_const, imp_self, implies_true, Nat.le_refl, ne_eq, not_false_eq_true, not_false_eq_true, maxLen, Nat.reducePow, spec0, spec2, spec3, TSl, IsSl, TInt, IsInt, RInt, Prod.eta, Pm.c0, Pm.c1, Pm.c2, Pm.c3, Pm.c4, RPm, Pm.w_c, Pm.d, Pm.eta, Pl.c0, Pl.c1, RPl, Pl.w_c, Pl.d, Pl.eta, Gv.L, Gv.Is, Gv.of, TGv, Gv.d, Gv.eta, Sg.c0, Sg.c1, Sg.c2, Sg.c3, Sg.c4, Sg.c5, RSg, Sg.w_c, Sg.d, Sg.eta, toUI_val]
  refine ⟨by omega, by omega, by omega, by omega, ?_⟩
  refine loopI (ι := Nat) (fun j => j ≤ g.palms.1) (fun j => g.palms.1 - j) [7, 8, 17, 20, 22, 166] (fun j => [(167, .int .i64 j)]) (fun _ => []) 0 (by omega) (by simp only [Chk, chkFr, chkBx, chkBx1, idsLt, kept, vs_int, vs_bool, vs_nil, vs_cons, vs_view, fget, isLB, bget, vsubP_self, ↓reduceIte, Nat.reduceEqDiff, Nat.reduceLT, Int.cast_ofNat_Int, and_self, forall_const, implies_true, Option.some.injEq, exists_eq', keepF, appF, updB]; try rfl) fun j hj => ?_
  by_cases hjl : j < g.palms.1
  · have fj : ((j : Int) < (g.palms.1 : Int)) = True := eq_true (by omega)
    have g2 : (E j > D j) = False := eq_false (by have := k2 j hjl; omega)
    rcases k3 j hjl with h1 | h1
    · simp only [fj, g2, h1, ↓imp_tt, ↓imp_tf, ↓imp_ft, ↓imp_ff, runO_4, runO_5, runO_6, runO_8, runO_14, runO_16, runO_17, runO_18, runO_19, aop, binV, Nat.zero_sub, ev, fget, fput, vget, addB, addN, mkv, frz, opOwns, preFz, skipOp, WfT, casts, castOks, cast1, castOk, pickV, stkFr, Val.toInt, ↓reduceIte, reduceCtorEq, Nat.reduceEqDiff, Nat.reduceSub, Nat.zero_add, decide_true, decide_false, List.length_cons, List.length_nil, Bool.bne_true, bne_self_eq_false, Bool.not_false, and_true, true_and, and_self, forall_const, imp_self, implies_true, Nat.le_refl, keepF, appF, updB, inat]
      repeat' (first | omega | (with_reducible apply And.intro) | intro _)
      refine inv_intro (j + 1) (by omega) (by omega) ?_
      simp only [Chk, chkFr, chkBx, chkBx1, idsLt, kept, vs_int, vs_bool, vs_nil, vs_cons, vs_view, fget, isLB, bget, vsubP_self, ↓reduceIte, Nat.reduceEqDiff, Nat.reduceLT, and_true, true_and, and_self, forall_const, implies_true, Option.some.injEq, Val.int.injEq, exists_eq']
      rw [wrS (by omega)]
    · by_cases h2 : B j = 1
      · simp only [fj, g2, h2, ↓imp_tt, ↓imp_tf, ↓imp_ft, ↓imp_ff, runO_4, runO_5, runO_6, runO_8, runO_14, runO_16, runO_17, runO_18, runO_19, aop, binV, Nat.zero_sub, ev, fget, fput, vget, addB, addN, mkv, frz, opOwns, preFz, skipOp, WfT, casts, castOks, cast1, castOk, pickV, stkFr, Val.toInt, ↓reduceIte, reduceCtorEq, Nat.reduceEqDiff, Nat.reduceSub, Nat.zero_add, decide_true, decide_false, List.length_cons, List.length_nil, Bool.bne_true, bne_self_eq_false, Bool.not_false, and_true, true_and, and_self, forall_const, imp_self, implies_true, Nat.le_refl, keepF, appF, updB, inat]
        repeat' (first | omega | (with_reducible apply And.intro) | intro _)
        refine inv_intro (j + 1) (by omega) (by omega) ?_
        simp only [Chk, chkFr, chkBx, chkBx1, idsLt, kept, vs_int, vs_bool, vs_nil, vs_cons, vs_view, fget, isLB, bget, vsubP_self, ↓reduceIte, Nat.reduceEqDiff, Nat.reduceLT, and_true, true_and, and_self, forall_const, implies_true, Option.some.injEq, Val.int.injEq, exists_eq']
        rw [wrS (by omega)]
      · simp only [fj, g2, h1, h2, ↓imp_tt, ↓imp_tf, ↓imp_ft, ↓imp_ff, runO_4, runO_5, runO_6, runO_8, runO_14, runO_16, runO_17, runO_18, runO_19, aop, binV, Nat.zero_sub, ev, fget, fput, vget, addB, addN, mkv, frz, opOwns, preFz, skipOp, WfT, casts, castOks, cast1, castOk, pickV, stkFr, Val.toInt, ↓reduceIte, reduceCtorEq, Nat.reduceEqDiff, Nat.reduceSub, Nat.zero_add, decide_true, decide_false, bne_iff_ne, bne_eq_false_iff_eq, List.length_cons, List.length_nil, Bool.bne_true, bne_self_eq_false, Bool.not_false, and_true, true_and, and_self, forall_const, imp_self, implies_true, Nat.le_refl, ne_eq, not_false_eq_true, false_implies, not_false_eq_true, keepF, appF, updB, inat]
        repeat' (first | omega | (with_reducible apply And.intro) | intro _)
        all_goals first
          | (refine inv_intro (j + 1) (by omega) (by omega) ?_
             simp only [Chk, chkFr, chkBx, chkBx1, idsLt, kept, vs_int, vs_bool, vs_nil, vs_cons, vs_view, fget, isLB, bget, vsubP_self, ↓reduceIte, Nat.reduceEqDiff, Nat.reduceLT, and_true, true_and, and_self, forall_const, implies_true, Option.some.injEq, Val.int.injEq, exists_eq']
             rw [wrS (by omega)])
          | skip
  · have fj : ((j : Int) < (g.palms.1 : Int)) = False := eq_false (by omega)
    simp only [fj, ↓imp_ft, ↓imp_ff, runO_3, runO_5, runO_9, runO_14, runO_17, runO_18, runO_19, aop, binV, ends, ev, fget, fput, addB, addN, frz, opOwns, preFz, skipOp, WfT, resV, res1, snapV, snapOk, popTo, stkFr, ↓reduceIte, reduceCtorEq, Nat.reduceEqDiff, decide_false, and_self, forall_const, imp_self, implies_true, keepF, appF, updB]
end Go.Proofs.Ytpknbojgkkmonaa
