/- HourNight: the moments of a night are as is told. No condition. -/
import Derived.Test.YtbhhcnonooiokaaDoorACodeL8
import Derived.Test.YtbhhcnonooiokaaDoorQNgt
set_option linter.unusedSimpArgs false
set_option linter.unusedVariables false
namespace Go.Proofs.YtbhhcnonooiokaaDoor
open Go Go.RowKit
noncomputable def sLawNight : Spec := spec5 TCk TI TI (TU .u8) (TSl (RU .u32)) (fun _ _ _ _ _ => True) fun _ _ _ _ _ => .bool true
set_option maxHeartbeats 8000000 in
set_option maxRecDepth 100000 in
theorem pLawNight : PureOk Tryd.prog NG 8 sLawNight := by
  refine fn5 (S := [(35, sAlive), (43, sReady), (45, sChoose), (46, sInside), (44, sTruly), (29, sNightP)]) (I := []) mixed
    (.cons pAlive (.cons pReady (.cons pChoose (.cons pInside (.cons pTruly (.cons pNightP .nil)))))) .nil Tryd.func8 c8 fun k day at' n b _ hw => ?_
  simp only [vl, WfT, Val.toInt, Val.slen, Val.scell, Nat.reduceSub, and_true, true_and, and_self, and_assoc, maxLen, Nat.reducePow, TU_enc, RU_k, RU_C, TSl, TInt, RSp, Sp.d, RSr, Sr.d, Ck.L, TCk] at hw
  obtain ⟨w1, w2, w3⟩ := hw
  by_cases h0 : ¬ askE k day = 0
  · simp only [RunTo, a8, sAlive, sReady, show rdyB k day = false from decide_eq_false h0, w1, w2, ↓imp_tt, ↓imp_tf, runO_3, runO_5, runO_14, runO_17, runO_18, runO_19, aop, ends, Nat.zero_sub, ev, fget, fput, params, cellsOf, cellsN, isLB, vget, vlen, bget, addB, addN, mkv, sliceV, vtab, frz, opOwns, preFz, callFz, skipOp, WfT, resV, res1, norm, norms, norm1, normL, pureB, pureL, snapV, snapOk, specV, argsL, capsL, mkE_S, lkp, pickV, Fin, vp_bool, Val.toInt, Val.slen, Val.scell, ↓reduceIte, reduceCtorEq, Nat.reduceEqDiff, Nat.reduceAdd, Nat.reduceSub, Nat.zero_add, Int.reduceNeg, List.length_cons, List.length_nil, List.append_nil, Bool.and_self, Bool.bne_false, Bool.not_false, and_true, and_self, and_assoc, forall_const, imp_self, implies_true, Nat.le_refl, maxLen, Nat.reducePow, TU_enc, RU_k, RU_C, spec0, spec2, TSl, TInt, IsInt, Prod.eta, Sp.c0, Sp.c1, RSp, Sp.w_c, Sp.d, Sp.eta, Sr.c0, Sr.c1, Sr.c2, Sr.c3, RSr, Sr.w_c, Sr.d, Sr.eta, Ck.L, Ck.Is, Ck.of, TCk, Ck.d, Ck.eta]
  replace h0 := Classical.not_not.1 h0
  have hd0 : rdyB k day = true := decide_eq_true h0
  obtain ⟨hc, hd⟩ := askE_0 h0
  have hs := spin_of hc.sinks
  by_cases g1 : at' < -100000000
  · simp only [RunTo, a8, sAlive, sReady, hd0, g1, w1, w2, ↓imp_tt, ↓imp_tf, ↓imp_ft, ↓imp_ff, runO_3, runO_5, runO_14, runO_17, runO_18, runO_19, aop, binV, ends, Nat.zero_sub, ev, fget, fput, params, cellsOf, cellsN, isLB, vget, vlen, bget, addB, addN, mkv, sliceV, vtab, frz, opOwns, preFz, callFz, skipOp, WfT, resV, res1, norm, norms, norm1, normL, pureB, pureL, snapV, snapOk, specV, argsL, capsL, mkE_S, lkp, pickV, Fin, vp_bool, Val.toInt, Val.slen, Val.scell, ↓reduceIte, reduceCtorEq, Nat.reduceEqDiff, Nat.reduceAdd, Nat.reduceSub, Nat.zero_add, Int.reduceNeg, decide_true, List.length_cons, List.length_nil, List.append_nil, Bool.and_self, Bool.bne_false, bne_self_eq_false, Bool.not_true, and_true, and_self, and_assoc, forall_const, imp_self, implies_true, Nat.le_refl, maxLen, Nat.reducePow, TU_enc, RU_k, RU_C, spec0, spec2, TSl, TInt, IsInt, Prod.eta, Sp.c0, Sp.c1, RSp, Sp.w_c, Sp.d, Sp.eta, Sr.c0, Sr.c1, Sr.c2, Sr.c3, RSr, Sr.w_c, Sr.d, Sr.eta, Ck.L, Ck.Is, Ck.of, TCk, Ck.d, Ck.eta]
  by_cases g2 : at' > 100000000
  · simp only [RunTo, a8, sAlive, sReady, hd0, g1, g2, w1, w2, ↓imp_tt, ↓imp_tf, ↓imp_ft, ↓imp_ff, runO_3, runO_5, runO_14, runO_17, runO_18, runO_19, aop, binV, ends, Nat.zero_sub, ev, fget, fput, params, cellsOf, cellsN, isLB, vget, vlen, bget, addB, addN, mkv, sliceV, vtab, frz, opOwns, preFz, callFz, skipOp, WfT, resV, res1, norm, norms, norm1, normL, pureB, pureL, snapV, snapOk, specV, argsL, capsL, mkE_S, lkp, pickV, Fin, vp_bool, Val.toInt, Val.slen, Val.scell, ↓reduceIte, reduceCtorEq, Nat.reduceEqDiff, Nat.reduceAdd, Nat.reduceSub, Nat.zero_add, Int.reduceNeg, decide_true, decide_false, List.length_cons, List.length_nil, List.append_nil, Bool.and_self, Bool.bne_false, bne_self_eq_false, Bool.not_true, and_true, and_self, and_assoc, forall_const, imp_self, implies_true, Nat.le_refl, maxLen, Nat.reducePow, TU_enc, RU_k, RU_C, spec0, spec2, TSl, TInt, IsInt, Prod.eta, Sp.c0, Sp.c1, RSp, Sp.w_c, Sp.d, Sp.eta, Sr.c0, Sr.c1, Sr.c2, Sr.c3, RSr, Sr.w_c, Sr.d, Sr.eta, Ck.L, Ck.Is, Ck.of, TCk, Ck.d, Ck.eta]
  have hu := u8_bd n
  have en : (IntKind.i64.wrap n.1).tmod 21 = ((n.1 % 21).toNat : Int) := by
    rw [wr64 (e := n.1) (by omega) (by omega), Int.tmod_eq_emod_of_nonneg hu.1]; omega
  obtain ⟨m, hm⟩ : ∃ m, (n.1 % 21).toNat = m := ⟨_, rfl⟩
  have hm20 : m ≤ 20 := by omega
  rw [hm] at en
  simp (config := { maxSteps := 4000000 }) only [RunTo, a8, sAlive, sReady, hd0, g1, g2, en, w1, w2, ↓imp_ft, ↓imp_ff, runO_4, runO_5, runO_6, runO_14, runO_15, runO_17, runO_18, runO_19, aop, binV, ev, fget, fput, params, cellsOf, cellsN, isLB, vget, vlen, bget, addB, addN, mkv, sliceV, vtab, frz, opOwns, preFz, callFz, skipOp, WfT, norm, norms, norm1, normL, pureB, pureL, specV, argsL, capsL, mkE_S, lkp, pickV, Fin, vp_bool, Val.toInt, Val.slen, Val.scell, ↓reduceIte, reduceCtorEq, Nat.reduceEqDiff, Nat.reduceAdd, Nat.reduceSub, Nat.zero_add, Int.reduceEq, Int.reduceNeg, decide_false, List.length_cons, List.length_nil, List.append_nil, Bool.and_self, bne_self_eq_false, Bool.not_true, and_true, true_and, and_self, and_assoc, forall_const, imp_self, implies_true, Nat.le_refl, ne_eq, not_false_eq_true, not_false_eq_true, maxLen, Nat.reducePow, TU_enc, RU_k, RU_C, spec0, spec2, TSl, TInt, IsInt, Prod.eta, Sp.c0, Sp.c1, RSp, Sp.w_c, Sp.d, Sp.eta, Sr.c0, Sr.c1, Sr.c2, Sr.c3, RSr, Sr.w_c, Sr.d, Sr.eta, Ck.L, Ck.Is, Ck.of, TCk, Ck.d, Ck.eta]
  refine loopJ (ι := Nat) (fun i => i ≤ m ∧ ∀ j, j < i → nwF k at' b j ≤ 100000000) (fun i => m - i) [1, 4, 5, 11, 47] (fun i => [(48, .int .i64 i), (12, .own 1), (13, .own 2), (14, .int .i64 (pvF k at' b i))]) (fun i => [(1, .row 78 3 i fun x y => (chF k day at' b x).c y), (2, .row 3 1 i fun x _ => .int .i64 (nwF k at' b x))]) 2 0 ⟨by omega, fun j hj => by omega⟩ (by simp only [pvF, Chk, chkFr, chkBx, chkBx1, newIn, hasB, idsLt, kept, vs_int, vs_bool, vs_nil, vs_own, vs_ptr, vs_cons, vs_view, fget, isLB, bget, bset, vsubP_self, ↓reduceIte, reduceCtorEq, Nat.reduceEqDiff, Nat.reduceAdd, Nat.reduceLT, Int.cast_ofNat_Int, and_true, and_self, forall_const, implies_true, Option.some.injEq, exists_eq', or_true, keepF, appF, updB]) fun i hi => ?_
  obtain ⟨hi1, hi2⟩ := hi
  by_cases h5 : i < m
  · have f4 : ((i : Int) < (m : Int)) = True := eq_true (by omega)
    have e9 : IntKind.i64.wrap (9 * (i : Int)) = 9 * (i : Int) := wr64 (by omega) (by omega)
    have e91 : IntKind.i64.wrap (9 * (i : Int) + 1) = 9 * (i : Int) + 1 := wr64 (by omega) (by omega)
    have e92 : IntKind.i64.wrap (9 * (i : Int) + 2) = 9 * (i : Int) + 2 := wr64 (by omega) (by omega)
    have e93 : IntKind.i64.wrap (9 * (i : Int) + 3) = 9 * (i : Int) + 3 := wr64 (by omega) (by omega)
    have e94 : IntKind.i64.wrap (9 * (i : Int) + 4) = 9 * (i : Int) + 4 := wr64 (by omega) (by omega)
    have bd := fun j => choF_bd b j
    have hct := ct_le (b := b) i
    have ect : IntKind.i64.wrap ((choF b (9 * (i : Int) + 3)).tmod 3) = (ctF b i : Int) := by
      have := bd (9 * (i : Int) + 3)
      rw [Int.tmod_eq_emod_of_nonneg this.1, wr64 (by omega) (by omega)]; unfold ctF; omega
    rcases Nat.eq_zero_or_pos i with hz | hz
    · have fz : ((i : Int) > 0) = False := eq_false (by omega)
      have ep : pvF k at' b i = nwF k at' b i := by subst hz; rfl
      have hbw0 : bwF b i = 0 := by subst hz; rfl
      have hfl0 : flF b i = true := by subst hz; rfl
      by_cases hnow : ¬ nwF k at' b i ≤ 100000000
      · have fg : (nwF k at' b i > 100000000) = True := eq_true (by omega)
        have hend : i ≤ m ∧ True := ⟨by omega, trivial⟩
        simp (config := { maxSteps := 4000000 }) only [sChoose, sInside, sTruly, sNightP, f4, fz, ep, fg, RU_k, RU_C, w1, w2, eq_self, ↓imp_tt, ↓imp_tf, ↓imp_ft, ↓imp_ff, runO_3, runO_4, runO_5, runO_6, runO_9, runO_14, runO_15, runO_17, runO_18, runO_19, aop, binV, ends, reOk, Nat.zero_sub, ev, fget, fput, cellsOf, cellsN, isLB, vget, vset, vsets, vlen, bget, bset, bdel, addB, addN, mkv, sliceV, vtab, fillV, fillOk, frz, opOwns, preFz, callFz, ownsL, owns, skipOp, WfT, resV, res1, norm, norms, norm1, normL, pureB, pureL, flatB, onesB, snapV, snapOk, snapL, specV, argsL, capsL, mkE_S, lkp, pickV, lenV, subFr, subV, subBx, subStk, popTo, stkFr, Val.toInt, Val.toBool, Val.slen, Val.scell, ↓reduceIte, reduceCtorEq, Nat.reduceEqDiff, Nat.reduceAdd, Nat.reduceSub, Nat.reduceLT, Nat.zero_add, Int.reduceNeg, decide_true, decide_false, bne_iff_ne, bne_eq_false_iff_eq, List.length_cons, List.length_nil, List.nil_append, List.append_nil, Bool.and_true, Bool.and_false, Bool.and_self, Bool.bne_false, bne_self_eq_false, Bool.not_false, Bool.false_eq_true, and_true, true_and, and_self, and_assoc, forall_const, imp_self, implies_true, Nat.le_refl, Val.bool.injEq, ne_eq, maxLen, Nat.reducePow, keepF, appF, updB, RU_k, RU_C, spec2, spec3, spec5, TSl, IsSl, TInt, IsInt, Prod.eta, Sp.L, Sp.c0, Sp.c1, Sp.Is, Sp.of, TSp, RSp, Sp.w_c, Sp.d, Sp.eta, Sr.c0, Sr.c1, Sr.c2, Sr.c3, RSr, Sr.w_c, Sr.d, Sr.eta, Tl.L, Tl.c0, Tl.c1, Tl.c2, Tl.c3, Tl.c4, RTl, Tl.d, Tl.eta, Ch.c0, Ch.c1, Ch.c2, RCh, Ch.w_c, Ch.d, Ch.eta, Ck.L, Ck.Is, Ck.of, TCk, Ck.d, Ck.eta]
        rcases hend with ⟨hi1', hnow⟩
        have h20 : i ≤ 20 := by omega
        obtain ⟨f, e1, e2⟩ := ngt_told (day := day) (b := b) hc hd (by omega) h20 hi2
        have hbw := fun x => bwF_bd (b := b) x
        have fn : ((i : Int) = (i : Int)) = True := eq_true rfl
        simp (config := { maxSteps := 4000000 }) only [e1, eq_self, reduceCtorEq, Int.reduceNeg, bne_self_eq_false, true_and, forall_const, imp_self, implies_true, not_true_eq_false]
        refine ⟨fun x hx => ?_, ?_⟩
        · have h1 := td_le (c := k) (day := day) (at' := at') (b := b) x (ctF b x)
          have h2 := ct_le (b := b) x
          simp only [chF]; omega
        intros
        refine loopI (ι := Nat) (fun z => z ≤ i) (fun z => i - z) [11, 21, 165, 166] (fun z => [(167, .int .i64 z)]) (fun _ => []) 0 (by omega) (by simp only [Chk, chkFr, chkBx, chkBx1, newIn, hasB, idsLt, kept, vs_int, vs_bool, vs_nil, vs_nils, vs_own, vs_cons, vs_view, fget, isLB, bget, vsubP_self, ↓reduceIte, reduceCtorEq, Nat.reduceEqDiff, Nat.reduceLT, Int.cast_ofNat_Int, and_true, and_self, forall_const, implies_true, Option.some.injEq, exists_eq', or_false, keepF, appF, updB]; try rfl) fun z hz => ?_
        by_cases hzl : z < i
        · have e3 := e2 z hzl
          have f5 : ((z : Int) < (i : Int)) = True := eq_true (by omega)
          have e6 : IntKind.i64.wrap (1000 * (f z).lo) = 1000 * (f z).lo := wr64 (by omega) (by omega)
          have e7 : IntKind.i64.wrap (1000 * (f z).hi) = 1000 * (f z).hi := wr64 (by omega) (by omega)
          have f6 : (nwF k at' b z < 1000 * (f z).lo) = False := eq_false (by omega)
          have f7 : (nwF k at' b z > 1000 * (f z).hi) = False := eq_false (by omega)
          simp (config := { maxSteps := 4000000 }) only [e6, e7, f5, f6, f7, eq_self, ↓imp_tt, ↓imp_tf, ↓imp_ft, ↓imp_ff, runO_4, runO_5, runO_6, runO_8, runO_14, runO_16, runO_17, runO_18, runO_19, aop, binV, ev, fget, fput, vget, bget, addB, addN, mkv, frz, opOwns, preFz, skipOp, WfT, casts, castOks, cast1, castOk, pickV, stkFr, Val.toInt, ↓reduceIte, reduceCtorEq, Nat.reduceEqDiff, Nat.reduceSub, Nat.reduceLeDiff, Nat.zero_add, Nat.add_zero, Nat.sub_zero, Int.reduceNeg, decide_true, decide_false, List.length_cons, List.length_nil, bne_self_eq_false, and_true, true_and, and_self, forall_const, imp_self, implies_true, Nat.le_refl, maxLen, Nat.reducePow, keepF, appF, updB, inat, Sp.c0, Sp.c1]
          refine ⟨by omega, fun _ => ⟨by omega, fun _ => ⟨by omega, inv_intro (z + 1) (by omega) (by omega) ?_⟩⟩⟩
          simp only [Chk, chkFr, chkBx, chkBx1, newIn, hasB, idsLt, kept, vs_int, vs_bool, vs_nil, vs_nils, vs_own, vs_cons, vs_view, fget, isLB, bget, vsubP_self, ↓reduceIte, reduceCtorEq, Nat.reduceEqDiff, Nat.reduceLT, and_true, true_and, and_self, forall_const, implies_true, Option.some.injEq, Val.int.injEq, exists_eq', or_false]
          rw [wrS (by omega)]
        · have f5 : ((z : Int) < (i : Int)) = False := eq_false (by omega)
          simp (config := { maxSteps := 4000000 }) only [f5, eq_self, ↓imp_ft, ↓imp_ff, runO_3, runO_5, runO_9, runO_14, runO_17, runO_18, runO_19, aop, binV, ends, ev, fget, fput, addB, addN, frz, opOwns, preFz, skipOp, WfT, resV, res1, snapV, snapOk, popTo, stkFr, ↓reduceIte, reduceCtorEq, Nat.reduceEqDiff, Int.reduceNeg, decide_false, and_self, forall_const, imp_self, implies_true, keepF, appF, updB]

      replace hnow := Classical.not_not.1 hnow
      have fg : (nwF k at' b i > 100000000) = False := eq_false (by omega)
      have hmo := nw_mono (at' := at') (b := b) hc i
      simp (config := { maxSteps := 4000000 }) only [sChoose, sInside, sTruly, sNightP, f4, fz, ep, e9, fg, ect, e93, RU_k, RU_C, RU_W, RU_D, w3, eq_self, ↓imp_tt, ↓imp_tf, ↓imp_ft, ↓imp_ff, runO_4, runO_5, runO_6, runO_14, runO_15, runO_17, runO_18, runO_19, aop, binV, reOk, Nat.zero_sub, ev, fget, fput, cellsOf, cellsN, isLB, vset, vsets, vlen, bget, bset, addB, addN, fillV, fillOk, frz, opOwns, preFz, callFz, skipOp, WfT, norm, norm1, normL, pureB, pureL, onesB, specV, argsL, capsL, mkE_S, lkp, stkFr, Val.toInt, Val.toBool, Val.slen, Val.scell, ↓reduceIte, reduceCtorEq, Nat.reduceEqDiff, Nat.reduceAdd, Nat.reduceSub, Nat.zero_add, Int.reduceEq, Int.reduceNeg, decide_true, decide_false, List.append_nil, Bool.and_self, and_true, true_and, and_self, and_assoc, forall_const, imp_self, implies_true, Nat.le_refl, ne_eq, not_false_eq_true, not_false_eq_true, maxLen, Nat.reducePow, keepF, appF, updB, RU_k, RU_C, RU_W, RU_D, spec2, spec3, spec5, TSl, IsSl, TInt, IsInt, Prod.eta, Sp.L, Sp.Is, Sp.of, TSp, RSp, Sp.d, RSr, Sr.d, Tl.L, RTl, Tl.d, RCh, Ch.d, Ck.L, Ck.Is, Ck.of, TCk, Ck.d]
      refine ⟨by omega, ?_⟩
      refine loopJ (ι := Nat) (fun j => j ≤ ctF b i) (fun j => ctF b i - j) [1, 4, 5, 11, 12, 13, 14, 15, 16, 47, 48, 110] (fun j => [(111, .int .i64 j)]) (fun j => [(3, .cells (.cons (.own 4) (.cons (.int .i64 (bwF b i)) (.cons (.bool (flF b i)) .nil)))), (4, .row 29 5 (tdF k day at' b i j).1 fun x y => ((tdF k day at' b i j).2 x).c y)]) 1 0 (by omega) (by simp only [hbw0, hfl0, tdF, Chk, chkFr, chkBx, chkBx1, newIn, hasB, idsLt, kept, vs_int, vs_bool, vs_nil, vs_own, vs_ptr, vs_cons, vs_view, fget, isLB, bget, bset, vsubP_self, ↓reduceIte, reduceCtorEq, Nat.reduceEqDiff, Nat.reduceAdd, Nat.reduceLT, Int.cast_ofNat_Int, and_true, and_self, forall_const, implies_true, Option.some.injEq, exists_eq', or_true, or_false, keepF, appF, updB]; try rfl) fun j hj => ?_
      by_cases hjl : j < ctF b i
      · have f8 : ((j : Int) < (ctF b i : Int)) = True := eq_true (by omega)
        have ej : IntKind.i64.wrap (9 * (i : Int) + 4 + (j : Int)) = 9 * (i : Int) + 4 + (j : Int) := wr64 (by omega) (by omega)
        obtain ⟨⟨t, is⟩, hT⟩ : ∃ T, truF k day (nwF k at' b i) b (9 * (i : Int) + 4 + (j : Int)) = T := ⟨_, rfl⟩
        have hle := td_le (c := k) (day := day) (at' := at') (b := b) i j
        cases is
        · have htd : tdF k day at' b i (j + 1) = tdF k day at' b i j := by simp only [tdF, hT]; rfl
          simp (config := { maxSteps := 4000000 }) only [e9, f8, e94, ej, hT, RU_W, RU_D, w1, w2, w3, eq_self, ↓imp_tt, ↓imp_tf, ↓imp_ft, ↓imp_ff, runO_4, runO_5, runO_6, runO_8, runO_14, runO_16, runO_17, runO_18, runO_19, aop, binV, reOk, Nat.zero_sub, ev, fget, fput, cellsOf, cellsN, isLB, vget, vset, vsets, vlen, bget, bset, addB, addN, mkv, sliceV, vtab, frz, opOwns, preFz, callFz, skipOp, WfT, norm, norms, norm1, normL, pureB, pureL, onesB, specV, argsL, capsL, mkE_S, lkp, stkFr, ↓reduceIte, reduceCtorEq, Nat.reduceEqDiff, Nat.reduceAdd, Nat.reduceSub, Nat.reduceLT, Nat.zero_add, Int.reduceNeg, decide_true, List.length_cons, List.length_nil, List.append_nil, Bool.and_self, and_true, true_and, and_self, and_assoc, forall_const, imp_self, implies_true, Nat.le_refl, maxLen, Nat.reducePow, keepF, appF, updB, RU_W, RU_D, Prod.eta, Sp.c0, Sp.c1, Sp.w_c, Sp.eta, Sr.c0, Sr.c1, Sr.c2, Sr.c3, Sr.w_c, Sr.eta, Ck.eta]
          refine ⟨hc, hd, by omega, by omega, by omega, by omega, inv_intro (j + 1) (by omega) (by omega) ?_⟩
          simp only [htd, Chk, chkFr, chkBx, chkBx1, newIn, hasB, idsLt, kept, vs_int, vs_bool, vs_nil, vs_own, vs_ptr, vs_cons, vs_view, Nat.lt_irrefl, fget, isLB, bget, vsubP_self, ↓reduceIte, reduceCtorEq, Nat.reduceEqDiff, Nat.reduceLT, and_true, true_and, and_self, forall_const, implies_true, Option.some.injEq, Val.int.injEq, exists_eq', false_implies, or_false]
          rw [wrS (by omega)]
        · have htd : tdF k day at' b i (j + 1) = ((tdF k day at' b i j).1 + 1, fun m => if m < (tdF k day at' b i j).1 then (tdF k day at' b i j).2 m else t) := by simp only [tdF, hT]; rfl
          simp (config := { maxSteps := 4000000 }) only [e9, f8, e94, ej, hT, RU_W, RU_D, w1, w2, w3, eq_self, ↓imp_tt, ↓imp_tf, runO_4, runO_5, runO_6, runO_8, runO_14, runO_16, runO_17, runO_18, runO_19, aop, binV, reOk, Nat.zero_sub, ev, fget, fput, cellsOf, cellsN, isLB, vget, vset, vsets, vlen, bget, bset, addB, addN, mkv, sliceV, vtab, rowsV, rowsOk, vrep, frz, opOwns, preFz, callFz, owns, skipOp, WfT, norm, norms, norm1, normL, pureB, pureL, onesB, specV, argsL, capsL, mkE_S, mkE_G, lkp, subFr, subV, subBx, subStk, elemsV, stkFr, ↓reduceIte, reduceCtorEq, Nat.reduceEqDiff, Nat.reduceAdd, Nat.reduceSub, Nat.reduceLeDiff, Nat.reduceLT, Nat.zero_add, Nat.add_zero, Int.reduceNeg, decide_true, List.length_cons, List.length_nil, List.append_nil, List.flatMap_cons, List.flatMap_nil, Bool.and_self, and_true, true_and, and_self, and_assoc, forall_const, imp_self, implies_true, Nat.le_refl, or_false, maxLen, Nat.reducePow, keepF, appF, updB, RU_W, RU_D, Prod.eta, Sp.c0, Sp.c1, Sp.w_c, Sp.eta, Sr.c0, Sr.c1, Sr.c2, Sr.c3, Sr.w_c, Sr.eta, Ck.eta]
          refine ⟨hc, hd, by omega, by omega, by omega, by omega, by omega, by omega, inv_intro (j + 1) (by omega) (by omega) ?_⟩
          simp only [htd, Chk, chkFr, chkBx, chkBx1, newIn, hasB, idsLt, kept, vs_int, vs_bool, vs_nil, vs_own, vs_ptr, vs_cons, vs_view, Nat.lt_irrefl, fget, isLB, bget, vsubP_self, ↓reduceIte, reduceCtorEq, Nat.reduceEqDiff, Nat.reduceLT, and_true, true_and, and_self, forall_const, implies_true, Option.some.injEq, Val.int.injEq, exists_eq', false_implies, or_false]
          rw [wrS (by omega)]
          refine ⟨rfl, fun x hx y hy => ?_⟩
          split
          · exact (vsubP_self _).mpr trivial
          · obtain rfl : x = (tdF k day at' b i j).1 := by omega
            rw [Nat.sub_self]
            rcases (by omega : y = 0 ∨ y = 1 ∨ y = 2 ∨ y = 3 ∨ y = 4) with rfl | rfl | rfl | rfl | rfl <;> rfl
      · have f8 : ((j : Int) < (ctF b i : Int)) = False := eq_false (by omega)
        obtain rfl : j = ctF b i := by omega
        simp (config := { maxSteps := 4000000 }) only [f8, eq_self, ↓imp_ft, ↓imp_ff, runO_5, runO_8, runO_9, runO_14, runO_16, runO_17, runO_18, runO_19, aop, binV, reOk, Nat.zero_sub, ev, fget, fput, cellsOf, cellsN, isLB, vget, vset, vlen, bget, bset, bdel, addB, addN, mkv, sliceV, vtab, rowsV, rowsOk, vrep, frz, opOwns, preFz, owns, skipOp, WfT, pureB, onesB, mkE_G, subFr, subV, subBx, subStk, elemsV, popTo, stkFr, ↓reduceIte, reduceCtorEq, Nat.reduceEqDiff, Nat.reduceAdd, Nat.reduceSub, Nat.reduceLeDiff, Nat.reduceLT, Nat.zero_add, Int.reduceNeg, decide_false, List.length_cons, List.length_nil, List.append_nil, List.flatMap_cons, List.flatMap_nil, Bool.and_self, true_and, and_self, forall_const, imp_self, implies_true, Nat.le_refl, or_false, maxLen, Nat.reducePow, keepF, appF, updB]
        have hle := td_le (c := k) (day := day) (at' := at') (b := b) i (ctF b i)
        refine ⟨by omega, by omega, by omega, by omega, inv_intro (i + 1) ⟨by omega, fun x hx => ?_⟩ (by omega) ?_⟩
        · rcases Nat.lt_or_ge x i with h6 | h6
          · exact hi2 x h6
          · obtain rfl : x = i := by omega
            exact hnow
        · simp only [pvF, Chk, chkFr, chkBx, chkBx1, newIn, hasB, idsLt, kept, vs_int, vs_bool, vs_nil, vs_own, vs_ptr, vs_cons, vs_view, Nat.lt_irrefl, fget, isLB, bget, vp_int, vsubP_self, ↓reduceIte, reduceCtorEq, Nat.reduceEqDiff, Nat.reduceLT, and_true, true_and, and_self, forall_const, implies_true, Option.some.injEq, Val.int.injEq, exists_eq', false_implies, or_false]
          rw [wrS (by omega)]
          refine ⟨rfl, fun x hx y hy => ?_, fun x hx y hy => ?_⟩
          · split
            · rfl
            · obtain rfl : x = i := by omega
              rw [Nat.sub_self]
              obtain rfl : y = 0 := by omega
              rfl
          · split
            · exact (vsubP_self _).mpr trivial
            · obtain rfl : x = i := by omega
              rw [Nat.sub_self]
              rcases (by omega : y = 0 ∨ y = 1 ∨ y = 2) with rfl | rfl | rfl <;> exact (vsubP_self _).mpr trivial

    · have fz : ((i : Int) > 0) = True := eq_true (by omega)
      have ebw : IntKind.i64.wrap ((choF b (9 * (i : Int))).tmod 5) = bwF b i := by
        have := bd (9 * (i : Int))
        rw [Int.tmod_eq_emod_of_nonneg this.1, wr64 (by omega) (by omega)]; unfold bwF; rw [if_neg (by omega)]
      have efl : ((choF b (9 * (i : Int) + 1)).tmod 2 == 0) = flF b i := by
        have := bd (9 * (i : Int) + 1)
        rw [Int.tmod_eq_emod_of_nonneg this.1]; unfold flF; rw [if_neg (by omega)]; rfl
      have hbw := bwF_bd (b := b) i
      have hpv : at' ≤ pvF k at' b i ∧ pvF k at' b i ≤ 100000000 := by
        obtain ⟨i', rfl⟩ : ∃ i', i = i' + 1 := ⟨i - 1, by omega⟩
        exact ⟨nw_mono hc i', hi2 i' (by omega)⟩
      have ew : nwF k at' b i = pvF k at' b i + smF k b i (bwF b i).toNat + lgF k b i := by
        obtain ⟨i', rfl⟩ : ∃ i', i = i' + 1 := ⟨i - 1, by omega⟩
        rfl
      simp (config := { maxSteps := 4000000 }) only [sChoose, sInside, sTruly, sNightP, f4, fz, e9, e91, ebw, efl, RU_k, RU_C, RU_W, RU_D, w3, eq_self, ↓imp_tt, ↓imp_tf, runO_4, runO_5, runO_6, runO_14, runO_15, runO_17, runO_18, runO_19, aop, binV, reOk, Nat.zero_sub, ev, fget, fput, cellsOf, cellsN, isLB, vget, vset, vsets, vlen, bget, bset, addB, addN, mkv, sliceV, vtab, fillV, fillOk, frz, opOwns, preFz, callFz, skipOp, WfT, norm, norm1, normL, pureB, pureL, onesB, specV, argsL, capsL, mkE_S, lkp, stkFr, Val.toInt, Val.toBool, Val.slen, Val.scell, ↓reduceIte, reduceCtorEq, Nat.reduceEqDiff, Nat.reduceAdd, Nat.reduceSub, Nat.reduceLeDiff, Nat.zero_add, Int.reduceEq, Int.reduceNeg, decide_true, List.length_cons, List.length_nil, List.append_nil, Bool.and_self, and_true, true_and, and_self, and_assoc, forall_const, imp_self, implies_true, Nat.le_refl, ne_eq, not_false_eq_true, not_false_eq_true, maxLen, Nat.reducePow, keepF, appF, updB, RU_k, RU_C, RU_W, RU_D, spec2, spec3, spec5, TSl, IsSl, TInt, IsInt, Prod.eta, Sp.L, Sp.Is, Sp.of, TSp, RSp, Sp.d, RSr, Sr.d, Tl.L, RTl, Tl.d, RCh, Ch.d, Ck.L, Ck.Is, Ck.of, TCk, Ck.d]
      refine ⟨by omega, by omega, ?_⟩
      refine loopI (ι := Nat) (fun z => z ≤ (bwF b i).toNat) (fun z => (bwF b i).toNat - z) [1, 4, 5, 11, 12, 13, 15, 16, 47, 48, 70] (fun z => [(71, .int .i64 z), (14, .int .i64 (pvF k at' b i + smF k b i z))]) (fun _ => []) 0 (by omega) (by simp only [smF, Int.add_zero, Chk, chkFr, chkBx, chkBx1, newIn, hasB, idsLt, kept, vs_int, vs_bool, vs_nil, vs_nils, vs_own, vs_ptr, vs_cons, vs_view, fget, isLB, bget, vsubP_self, ↓reduceIte, reduceCtorEq, Nat.reduceEqDiff, Nat.reduceLT, Int.cast_ofNat_Int, and_true, and_self, forall_const, implies_true, Option.some.injEq, exists_eq', or_false, keepF, appF, updB]; try rfl) fun z hz => ?_
      have hsm := smF_bd (b := b) hc i z
      have hz5 : (0 : Int) ≤ z * k.sinks.lo ∧ (z : Int) * k.sinks.hi ≤ 400000 := ⟨Int.mul_nonneg (by omega) (by omega), (mul_le z k.sinks.hi 4 100000 (by omega) (by omega) (by omega) (by omega)).2⟩
      by_cases hzl : z < (bwF b i).toNat
      · have f8 : ((z : Int) < bwF b i) = True := eq_true (by omega)
        have ez : IntKind.i64.wrap (9 * (i : Int) + (z : Int)) = 9 * (i : Int) + (z : Int) := wr64 (by omega) (by omega)
        have hin := insF_in (s := k.sinks) (n := choF b (9 * (i : Int) + (z : Int))) hs.2.1
        have es : IntKind.i64.wrap (pvF k at' b i + smF k b i z + insF k.sinks (choF b (9 * (i : Int) + (z : Int)))) = pvF k at' b i + smF k b i (z + 1) := by
          rw [wr64 (by omega) (by omega)]; simp only [smF]; omega
        have hb3 := bd (9 * (i : Int) + (z : Int))
        simp (config := { maxSteps := 4000000 }) only [f8, e9, ez, es, RU_W, RU_D, eq_self, ↓imp_tt, ↓imp_tf, runO_4, runO_5, runO_6, runO_8, runO_14, runO_16, runO_17, runO_18, runO_19, aop, binV, ev, fget, fput, isLB, vget, vlen, bget, addB, addN, mkv, sliceV, vtab, frz, opOwns, preFz, skipOp, WfT, norm, norms, norm1, normL, pureB, pureL, specV, argsL, capsL, mkE_S, lkp, stkFr, ↓reduceIte, reduceCtorEq, Nat.reduceEqDiff, Nat.reduceAdd, Nat.zero_add, Int.reduceNeg, decide_true, List.length_cons, List.length_nil, List.append_nil, Bool.and_self, and_true, true_and, and_self, and_assoc, forall_const, imp_self, implies_true, Nat.le_refl, keepF, appF, updB, RU_W, RU_D, Prod.eta, Sp.eta]
        refine ⟨by omega, ⟨by omega, by omega, by omega⟩, by omega, by omega, inv_intro (z + 1) (by omega) (by omega) ?_⟩
        simp only [Chk, chkFr, chkBx, chkBx1, newIn, hasB, idsLt, kept, vs_int, vs_bool, vs_nil, vs_nils, vs_own, vs_ptr, vs_cons, vs_view, fget, isLB, bget, vsubP_self, ↓reduceIte, reduceCtorEq, Nat.reduceEqDiff, Nat.reduceLT, and_true, true_and, and_self, forall_const, implies_true, Option.some.injEq, Val.int.injEq, exists_eq', or_false]
        rw [wrS (by omega)]
      · have f8 : ((z : Int) < bwF b i) = False := eq_false (by omega)
        obtain rfl : z = (bwF b i).toNat := by omega
        by_cases hfl : flF b i = true
        · have hlg : pvF k at' b i + smF k b i (bwF b i).toNat = nwF k at' b i := by rw [ew]; unfold lgF; rw [if_pos hfl]; omega
          by_cases hnow : ¬ nwF k at' b i ≤ 100000000
          · have fg : (nwF k at' b i > 100000000) = True := eq_true (by omega)
            have hend : i ≤ m ∧ True := ⟨by omega, trivial⟩
            simp (config := { maxSteps := 4000000 }) only [f8, hfl, hlg, fg, w1, w2, eq_self, ↓imp_tt, ↓imp_tf, ↓imp_ft, ↓imp_ff, runO_3, runO_4, runO_5, runO_6, runO_9, runO_14, runO_15, runO_17, runO_18, runO_19, aop, binV, ends, Nat.zero_sub, ev, fget, fput, isLB, vget, vlen, bget, bdel, addB, addN, mkv, sliceV, vtab, frz, opOwns, preFz, callFz, ownsL, owns, skipOp, WfT, resV, res1, norm, norms, norm1, normL, pureB, pureL, flatB, snapV, snapOk, snapL, specV, argsL, capsL, mkE_S, lkp, pickV, lenV, subFr, subV, subBx, subStk, popTo, stkFr, Val.toInt, ↓reduceIte, reduceCtorEq, Nat.reduceEqDiff, Nat.reduceAdd, Nat.reduceSub, Nat.reduceLT, Nat.zero_add, Int.reduceNeg, decide_true, decide_false, bne_iff_ne, bne_eq_false_iff_eq, List.length_cons, List.length_nil, List.nil_append, List.append_nil, Bool.and_true, Bool.and_false, Bool.and_self, Bool.bne_false, bne_self_eq_false, Bool.not_true, Bool.not_false, Bool.false_eq_true, and_true, true_and, and_self, forall_const, imp_self, implies_true, Nat.le_refl, Val.bool.injEq, ne_eq, maxLen, Nat.reducePow, keepF, appF, updB, Prod.eta, Sp.c0, Sp.c1, Sp.w_c, Sp.eta, Sr.c0, Sr.c1, Sr.c2, Sr.c3, Sr.w_c, Sr.eta, Tl.c0, Tl.c1, Tl.c2, Tl.c3, Tl.c4, RTl, Tl.d, Tl.eta, Ch.c0, Ch.c1, Ch.c2, Ch.w_c, Ch.eta, Ck.eta]
            rcases hend with ⟨hi1', hnow⟩
            have h20 : i ≤ 20 := by omega
            obtain ⟨f, e1, e2⟩ := ngt_told (day := day) (b := b) hc hd (by omega) h20 hi2
            have hbw := fun x => bwF_bd (b := b) x
            have fn : ((i : Int) = (i : Int)) = True := eq_true rfl
            simp (config := { maxSteps := 4000000 }) only [e1, eq_self, reduceCtorEq, Int.reduceNeg, bne_self_eq_false, true_and, forall_const, imp_self, implies_true, not_true_eq_false]
            refine ⟨fun x hx => ?_, ?_⟩
            · have h1 := td_le (c := k) (day := day) (at' := at') (b := b) x (ctF b x)
              have h2 := ct_le (b := b) x
              simp only [chF]; omega
            intros
            refine loopI (ι := Nat) (fun z => z ≤ i) (fun z => i - z) [11, 21, 165, 166] (fun z => [(167, .int .i64 z)]) (fun _ => []) 0 (by omega) (by simp only [Chk, chkFr, chkBx, chkBx1, newIn, hasB, idsLt, kept, vs_int, vs_bool, vs_nil, vs_nils, vs_own, vs_cons, vs_view, fget, isLB, bget, vsubP_self, ↓reduceIte, reduceCtorEq, Nat.reduceEqDiff, Nat.reduceLT, Int.cast_ofNat_Int, and_true, and_self, forall_const, implies_true, Option.some.injEq, exists_eq', or_false, keepF, appF, updB]; try rfl) fun z hz => ?_
            by_cases hzl : z < i
            · have e3 := e2 z hzl
              have f5 : ((z : Int) < (i : Int)) = True := eq_true (by omega)
              have e6 : IntKind.i64.wrap (1000 * (f z).lo) = 1000 * (f z).lo := wr64 (by omega) (by omega)
              have e7 : IntKind.i64.wrap (1000 * (f z).hi) = 1000 * (f z).hi := wr64 (by omega) (by omega)
              have f6 : (nwF k at' b z < 1000 * (f z).lo) = False := eq_false (by omega)
              have f7 : (nwF k at' b z > 1000 * (f z).hi) = False := eq_false (by omega)
              simp (config := { maxSteps := 4000000 }) only [e6, e7, f5, f6, f7, eq_self, ↓imp_tt, ↓imp_tf, ↓imp_ft, ↓imp_ff, runO_4, runO_5, runO_6, runO_8, runO_14, runO_16, runO_17, runO_18, runO_19, aop, binV, ev, fget, fput, vget, bget, addB, addN, mkv, frz, opOwns, preFz, skipOp, WfT, casts, castOks, cast1, castOk, pickV, stkFr, Val.toInt, ↓reduceIte, reduceCtorEq, Nat.reduceEqDiff, Nat.reduceSub, Nat.reduceLeDiff, Nat.zero_add, Nat.add_zero, Nat.sub_zero, Int.reduceNeg, decide_true, decide_false, List.length_cons, List.length_nil, bne_self_eq_false, and_true, true_and, and_self, forall_const, imp_self, implies_true, Nat.le_refl, maxLen, Nat.reducePow, keepF, appF, updB, inat, Sp.c0, Sp.c1]
              refine ⟨by omega, fun _ => ⟨by omega, fun _ => ⟨by omega, inv_intro (z + 1) (by omega) (by omega) ?_⟩⟩⟩
              simp only [Chk, chkFr, chkBx, chkBx1, newIn, hasB, idsLt, kept, vs_int, vs_bool, vs_nil, vs_nils, vs_own, vs_cons, vs_view, fget, isLB, bget, vsubP_self, ↓reduceIte, reduceCtorEq, Nat.reduceEqDiff, Nat.reduceLT, and_true, true_and, and_self, forall_const, implies_true, Option.some.injEq, Val.int.injEq, exists_eq', or_false]
              rw [wrS (by omega)]
            · have f5 : ((z : Int) < (i : Int)) = False := eq_false (by omega)
              simp (config := { maxSteps := 4000000 }) only [f5, eq_self, ↓imp_ft, ↓imp_ff, runO_3, runO_5, runO_9, runO_14, runO_17, runO_18, runO_19, aop, binV, ends, ev, fget, fput, addB, addN, frz, opOwns, preFz, skipOp, WfT, resV, res1, snapV, snapOk, popTo, stkFr, ↓reduceIte, reduceCtorEq, Nat.reduceEqDiff, Int.reduceNeg, decide_false, and_self, forall_const, imp_self, implies_true, keepF, appF, updB]

          replace hnow := Classical.not_not.1 hnow
          have fg : (nwF k at' b i > 100000000) = False := eq_false (by omega)
          have hmo := nw_mono (at' := at') (b := b) hc i
          simp (config := { maxSteps := 4000000 }) only [f8, hfl, hlg, e9, fg, ect, e93, RU_W, RU_D, w3, eq_self, ↓imp_ft, ↓imp_ff, runO_4, runO_5, runO_6, runO_9, runO_14, runO_15, runO_17, runO_18, runO_19, aop, binV, ev, fget, fput, isLB, vget, vlen, bget, addB, addN, mkv, sliceV, vtab, frz, opOwns, preFz, callFz, skipOp, WfT, norm, norm1, normL, pureB, pureL, specV, argsL, capsL, mkE_S, lkp, popTo, stkFr, ↓reduceIte, reduceCtorEq, Nat.reduceEqDiff, Nat.reduceAdd, Nat.reduceSub, Nat.zero_add, Int.reduceEq, Int.reduceNeg, decide_false, List.length_cons, List.length_nil, List.append_nil, Bool.and_self, Bool.not_true, true_and, and_self, forall_const, imp_self, implies_true, Nat.le_refl, ne_eq, not_false_eq_true, not_false_eq_true, maxLen, Nat.reducePow, keepF, appF, updB, RU_W, RU_D, Prod.eta]
          refine ⟨by omega, ?_⟩
          refine loopJ (ι := Nat) (fun j => j ≤ ctF b i) (fun j => ctF b i - j) [1, 4, 5, 11, 12, 13, 14, 15, 16, 47, 48, 110] (fun j => [(111, .int .i64 j)]) (fun j => [(3, .cells (.cons (.own 4) (.cons (.int .i64 (bwF b i)) (.cons (.bool (flF b i)) .nil)))), (4, .row 29 5 (tdF k day at' b i j).1 fun x y => ((tdF k day at' b i j).2 x).c y)]) 1 0 (by omega) (by simp only [hfl, tdF, Chk, chkFr, chkBx, chkBx1, newIn, hasB, idsLt, kept, vs_int, vs_bool, vs_nil, vs_own, vs_ptr, vs_cons, vs_view, fget, isLB, bget, bset, vsubP_self, ↓reduceIte, reduceCtorEq, Nat.reduceEqDiff, Nat.reduceAdd, Nat.reduceLT, Int.cast_ofNat_Int, and_true, and_self, forall_const, implies_true, Option.some.injEq, exists_eq', or_true, or_false, keepF, appF, updB]; try rfl) fun j hj => ?_
          by_cases hjl : j < ctF b i
          · have f8 : ((j : Int) < (ctF b i : Int)) = True := eq_true (by omega)
            have ej : IntKind.i64.wrap (9 * (i : Int) + 4 + (j : Int)) = 9 * (i : Int) + 4 + (j : Int) := wr64 (by omega) (by omega)
            obtain ⟨⟨t, is⟩, hT⟩ : ∃ T, truF k day (nwF k at' b i) b (9 * (i : Int) + 4 + (j : Int)) = T := ⟨_, rfl⟩
            have hle := td_le (c := k) (day := day) (at' := at') (b := b) i j
            cases is
            · have htd : tdF k day at' b i (j + 1) = tdF k day at' b i j := by simp only [tdF, hT]; rfl
              simp (config := { maxSteps := 4000000 }) only [e9, f8, e94, ej, hT, RU_W, RU_D, w1, w2, w3, eq_self, ↓imp_tt, ↓imp_tf, ↓imp_ft, ↓imp_ff, runO_4, runO_5, runO_6, runO_8, runO_14, runO_16, runO_17, runO_18, runO_19, aop, binV, reOk, Nat.zero_sub, ev, fget, fput, cellsOf, cellsN, isLB, vget, vset, vsets, vlen, bget, bset, addB, addN, mkv, sliceV, vtab, frz, opOwns, preFz, callFz, skipOp, WfT, norm, norms, norm1, normL, pureB, pureL, onesB, specV, argsL, capsL, mkE_S, lkp, stkFr, ↓reduceIte, reduceCtorEq, Nat.reduceEqDiff, Nat.reduceAdd, Nat.reduceSub, Nat.reduceLT, Nat.zero_add, Int.reduceNeg, decide_true, List.length_cons, List.length_nil, List.append_nil, Bool.and_self, and_true, true_and, and_self, and_assoc, forall_const, imp_self, implies_true, Nat.le_refl, maxLen, Nat.reducePow, keepF, appF, updB, RU_W, RU_D, Prod.eta, Sp.c0, Sp.c1, Sp.w_c, Sp.eta, Sr.c0, Sr.c1, Sr.c2, Sr.c3, Sr.w_c, Sr.eta, Ck.eta]
              refine ⟨hc, hd, by omega, by omega, by omega, by omega, inv_intro (j + 1) (by omega) (by omega) ?_⟩
              simp only [htd, Chk, chkFr, chkBx, chkBx1, newIn, hasB, idsLt, kept, vs_int, vs_bool, vs_nil, vs_own, vs_ptr, vs_cons, vs_view, Nat.lt_irrefl, fget, isLB, bget, vsubP_self, ↓reduceIte, reduceCtorEq, Nat.reduceEqDiff, Nat.reduceLT, and_true, true_and, and_self, forall_const, implies_true, Option.some.injEq, Val.int.injEq, exists_eq', false_implies, or_false]
              rw [wrS (by omega)]
            · have htd : tdF k day at' b i (j + 1) = ((tdF k day at' b i j).1 + 1, fun m => if m < (tdF k day at' b i j).1 then (tdF k day at' b i j).2 m else t) := by simp only [tdF, hT]; rfl
              simp (config := { maxSteps := 4000000 }) only [e9, f8, e94, ej, hT, RU_W, RU_D, w1, w2, w3, eq_self, ↓imp_tt, ↓imp_tf, runO_4, runO_5, runO_6, runO_8, runO_14, runO_16, runO_17, runO_18, runO_19, aop, binV, reOk, Nat.zero_sub, ev, fget, fput, cellsOf, cellsN, isLB, vget, vset, vsets, vlen, bget, bset, addB, addN, mkv, sliceV, vtab, rowsV, rowsOk, vrep, frz, opOwns, preFz, callFz, owns, skipOp, WfT, norm, norms, norm1, normL, pureB, pureL, onesB, specV, argsL, capsL, mkE_S, mkE_G, lkp, subFr, subV, subBx, subStk, elemsV, stkFr, ↓reduceIte, reduceCtorEq, Nat.reduceEqDiff, Nat.reduceAdd, Nat.reduceSub, Nat.reduceLeDiff, Nat.reduceLT, Nat.zero_add, Nat.add_zero, Int.reduceNeg, decide_true, List.length_cons, List.length_nil, List.append_nil, List.flatMap_cons, List.flatMap_nil, Bool.and_self, and_true, true_and, and_self, and_assoc, forall_const, imp_self, implies_true, Nat.le_refl, or_false, maxLen, Nat.reducePow, keepF, appF, updB, RU_W, RU_D, Prod.eta, Sp.c0, Sp.c1, Sp.w_c, Sp.eta, Sr.c0, Sr.c1, Sr.c2, Sr.c3, Sr.w_c, Sr.eta, Ck.eta]
              refine ⟨hc, hd, by omega, by omega, by omega, by omega, by omega, by omega, inv_intro (j + 1) (by omega) (by omega) ?_⟩
              simp only [htd, Chk, chkFr, chkBx, chkBx1, newIn, hasB, idsLt, kept, vs_int, vs_bool, vs_nil, vs_own, vs_ptr, vs_cons, vs_view, Nat.lt_irrefl, fget, isLB, bget, vsubP_self, ↓reduceIte, reduceCtorEq, Nat.reduceEqDiff, Nat.reduceLT, and_true, true_and, and_self, forall_const, implies_true, Option.some.injEq, Val.int.injEq, exists_eq', false_implies, or_false]
              rw [wrS (by omega)]
              refine ⟨rfl, fun x hx y hy => ?_⟩
              split
              · exact (vsubP_self _).mpr trivial
              · obtain rfl : x = (tdF k day at' b i j).1 := by omega
                rw [Nat.sub_self]
                rcases (by omega : y = 0 ∨ y = 1 ∨ y = 2 ∨ y = 3 ∨ y = 4) with rfl | rfl | rfl | rfl | rfl <;> rfl
          · have f8 : ((j : Int) < (ctF b i : Int)) = False := eq_false (by omega)
            obtain rfl : j = ctF b i := by omega
            simp (config := { maxSteps := 4000000 }) only [f8, eq_self, ↓imp_ft, ↓imp_ff, runO_5, runO_8, runO_9, runO_14, runO_16, runO_17, runO_18, runO_19, aop, binV, reOk, Nat.zero_sub, ev, fget, fput, cellsOf, cellsN, isLB, vget, vset, vlen, bget, bset, bdel, addB, addN, mkv, sliceV, vtab, rowsV, rowsOk, vrep, frz, opOwns, preFz, owns, skipOp, WfT, pureB, onesB, mkE_G, subFr, subV, subBx, subStk, elemsV, popTo, stkFr, ↓reduceIte, reduceCtorEq, Nat.reduceEqDiff, Nat.reduceAdd, Nat.reduceSub, Nat.reduceLeDiff, Nat.reduceLT, Nat.zero_add, Int.reduceNeg, decide_false, List.length_cons, List.length_nil, List.append_nil, List.flatMap_cons, List.flatMap_nil, Bool.and_self, true_and, and_self, forall_const, imp_self, implies_true, Nat.le_refl, or_false, maxLen, Nat.reducePow, keepF, appF, updB]
            have hle := td_le (c := k) (day := day) (at' := at') (b := b) i (ctF b i)
            refine ⟨by omega, by omega, by omega, by omega, inv_intro (i + 1) ⟨by omega, fun x hx => ?_⟩ (by omega) ?_⟩
            · rcases Nat.lt_or_ge x i with h6 | h6
              · exact hi2 x h6
              · obtain rfl : x = i := by omega
                exact hnow
            · simp only [pvF, Chk, chkFr, chkBx, chkBx1, newIn, hasB, idsLt, kept, vs_int, vs_bool, vs_nil, vs_own, vs_ptr, vs_cons, vs_view, Nat.lt_irrefl, fget, isLB, bget, vp_int, vsubP_self, ↓reduceIte, reduceCtorEq, Nat.reduceEqDiff, Nat.reduceLT, and_true, true_and, and_self, forall_const, implies_true, Option.some.injEq, Val.int.injEq, exists_eq', false_implies, or_false]
              rw [wrS (by omega)]
              refine ⟨rfl, fun x hx y hy => ?_, fun x hx y hy => ?_⟩
              · split
                · rfl
                · obtain rfl : x = i := by omega
                  rw [Nat.sub_self]
                  obtain rfl : y = 0 := by omega
                  rfl
              · split
                · exact (vsubP_self _).mpr trivial
                · obtain rfl : x = i := by omega
                  rw [Nat.sub_self]
                  rcases (by omega : y = 0 ∨ y = 1 ∨ y = 2) with rfl | rfl | rfl <;> exact (vsubP_self _).mpr trivial

        · have hlg : (IntKind.i64.wrap (choF b (9 * (i : Int) + 2))).tmod (IntKind.i64.wrap (k.sinks.hi + 1)) = lgF k b i := by
            have := bd (9 * (i : Int) + 2)
            rw [wr64 (e := choF b (9 * (i : Int) + 2)) (by omega) (by omega), wr64 (e := k.sinks.hi + 1) (by omega) (by omega), Int.tmod_eq_emod_of_nonneg this.1]; unfold lgF; rw [if_neg hfl]
          have hlb := lgF_bd (b := b) hc i
          have hnw : IntKind.i64.wrap (pvF k at' b i + smF k b i (bwF b i).toNat + lgF k b i) = nwF k at' b i := by rw [wr64 (by omega) (by omega), ew]
          have hfl' : flF b i = false := by simpa using hfl
          have h81 : IntKind.i64.wrap (k.sinks.hi + 1) ≠ 0 := by rw [wr64 (by omega) (by omega)]; omega
          by_cases hnow : ¬ nwF k at' b i ≤ 100000000
          · have fg : (nwF k at' b i > 100000000) = True := eq_true (by omega)
            have hend : i ≤ m ∧ True := ⟨by omega, trivial⟩
            simp (config := { maxSteps := 4000000 }) only [f8, hfl', hlg, hnw, e9, e92, fg, RU_W, RU_D, w1, w2, eq_self, ↓imp_tt, ↓imp_tf, ↓imp_ft, ↓imp_ff, runO_3, runO_4, runO_5, runO_6, runO_9, runO_14, runO_15, runO_17, runO_18, runO_19, aop, binV, ends, Nat.zero_sub, ev, fget, fput, isLB, vget, vlen, bget, bdel, addB, addN, mkv, sliceV, vtab, frz, opOwns, preFz, callFz, ownsL, owns, skipOp, WfT, resV, res1, norm, norms, norm1, normL, pureB, pureL, flatB, snapV, snapOk, snapL, specV, argsL, capsL, mkE_S, lkp, pickV, lenV, subFr, subV, subBx, subStk, popTo, stkFr, Val.toInt, ↓reduceIte, reduceCtorEq, Nat.reduceEqDiff, Nat.reduceAdd, Nat.reduceSub, Nat.reduceLT, Nat.zero_add, Int.reduceNeg, decide_true, decide_false, bne_iff_ne, bne_eq_false_iff_eq, List.length_cons, List.length_nil, List.nil_append, List.append_nil, Bool.and_true, Bool.and_false, Bool.and_self, Bool.bne_false, bne_self_eq_false, Bool.not_false, Bool.false_eq_true, and_true, true_and, and_self, forall_const, imp_self, implies_true, Nat.le_refl, Val.bool.injEq, ne_eq, maxLen, Nat.reducePow, keepF, appF, updB, RU_W, RU_D, Prod.eta, Sp.c0, Sp.c1, Sp.w_c, Sp.eta, Sr.c0, Sr.c1, Sr.c2, Sr.c3, Sr.w_c, Sr.eta, Tl.c0, Tl.c1, Tl.c2, Tl.c3, Tl.c4, RTl, Tl.d, Tl.eta, Ch.c0, Ch.c1, Ch.c2, Ch.w_c, Ch.eta, Ck.eta]
            refine ⟨by omega, h81, ?_⟩
            rcases hend with ⟨hi1', hnow⟩
            have h20 : i ≤ 20 := by omega
            obtain ⟨f, e1, e2⟩ := ngt_told (day := day) (b := b) hc hd (by omega) h20 hi2
            have hbw := fun x => bwF_bd (b := b) x
            have fn : ((i : Int) = (i : Int)) = True := eq_true rfl
            simp (config := { maxSteps := 4000000 }) only [e1, eq_self, reduceCtorEq, Int.reduceNeg, bne_self_eq_false, true_and, forall_const, imp_self, implies_true, not_true_eq_false]
            refine ⟨fun x hx => ?_, ?_⟩
            · have h1 := td_le (c := k) (day := day) (at' := at') (b := b) x (ctF b x)
              have h2 := ct_le (b := b) x
              simp only [chF]; omega
            intros
            refine loopI (ι := Nat) (fun z => z ≤ i) (fun z => i - z) [11, 21, 165, 166] (fun z => [(167, .int .i64 z)]) (fun _ => []) 0 (by omega) (by simp only [Chk, chkFr, chkBx, chkBx1, newIn, hasB, idsLt, kept, vs_int, vs_bool, vs_nil, vs_nils, vs_own, vs_cons, vs_view, fget, isLB, bget, vsubP_self, ↓reduceIte, reduceCtorEq, Nat.reduceEqDiff, Nat.reduceLT, Int.cast_ofNat_Int, and_true, and_self, forall_const, implies_true, Option.some.injEq, exists_eq', or_false, keepF, appF, updB]; try rfl) fun z hz => ?_
            by_cases hzl : z < i
            · have e3 := e2 z hzl
              have f5 : ((z : Int) < (i : Int)) = True := eq_true (by omega)
              have e6 : IntKind.i64.wrap (1000 * (f z).lo) = 1000 * (f z).lo := wr64 (by omega) (by omega)
              have e7 : IntKind.i64.wrap (1000 * (f z).hi) = 1000 * (f z).hi := wr64 (by omega) (by omega)
              have f6 : (nwF k at' b z < 1000 * (f z).lo) = False := eq_false (by omega)
              have f7 : (nwF k at' b z > 1000 * (f z).hi) = False := eq_false (by omega)
              simp (config := { maxSteps := 4000000 }) only [e6, e7, f5, f6, f7, eq_self, ↓imp_tt, ↓imp_tf, ↓imp_ft, ↓imp_ff, runO_4, runO_5, runO_6, runO_8, runO_14, runO_16, runO_17, runO_18, runO_19, aop, binV, ev, fget, fput, vget, bget, addB, addN, mkv, frz, opOwns, preFz, skipOp, WfT, casts, castOks, cast1, castOk, pickV, stkFr, Val.toInt, ↓reduceIte, reduceCtorEq, Nat.reduceEqDiff, Nat.reduceSub, Nat.reduceLeDiff, Nat.zero_add, Nat.add_zero, Nat.sub_zero, Int.reduceNeg, decide_true, decide_false, List.length_cons, List.length_nil, bne_self_eq_false, and_true, true_and, and_self, forall_const, imp_self, implies_true, Nat.le_refl, maxLen, Nat.reducePow, keepF, appF, updB, inat, Sp.c0, Sp.c1]
              refine ⟨by omega, fun _ => ⟨by omega, fun _ => ⟨by omega, inv_intro (z + 1) (by omega) (by omega) ?_⟩⟩⟩
              simp only [Chk, chkFr, chkBx, chkBx1, newIn, hasB, idsLt, kept, vs_int, vs_bool, vs_nil, vs_nils, vs_own, vs_cons, vs_view, fget, isLB, bget, vsubP_self, ↓reduceIte, reduceCtorEq, Nat.reduceEqDiff, Nat.reduceLT, and_true, true_and, and_self, forall_const, implies_true, Option.some.injEq, Val.int.injEq, exists_eq', or_false]
              rw [wrS (by omega)]
            · have f5 : ((z : Int) < (i : Int)) = False := eq_false (by omega)
              simp (config := { maxSteps := 4000000 }) only [f5, eq_self, ↓imp_ft, ↓imp_ff, runO_3, runO_5, runO_9, runO_14, runO_17, runO_18, runO_19, aop, binV, ends, ev, fget, fput, addB, addN, frz, opOwns, preFz, skipOp, WfT, resV, res1, snapV, snapOk, popTo, stkFr, ↓reduceIte, reduceCtorEq, Nat.reduceEqDiff, Int.reduceNeg, decide_false, and_self, forall_const, imp_self, implies_true, keepF, appF, updB]

          replace hnow := Classical.not_not.1 hnow
          have fg : (nwF k at' b i > 100000000) = False := eq_false (by omega)
          have hmo := nw_mono (at' := at') (b := b) hc i
          simp (config := { maxSteps := 4000000 }) only [f8, hfl', hlg, hnw, e9, e92, fg, ect, e93, RU_W, RU_D, w3, eq_self, ↓imp_tt, ↓imp_tf, ↓imp_ft, ↓imp_ff, runO_4, runO_5, runO_6, runO_9, runO_14, runO_15, runO_17, runO_18, runO_19, aop, binV, ev, fget, fput, isLB, vget, vlen, bget, addB, addN, mkv, sliceV, vtab, frz, opOwns, preFz, callFz, skipOp, WfT, norm, norm1, normL, pureB, pureL, specV, argsL, capsL, mkE_S, lkp, popTo, stkFr, ↓reduceIte, reduceCtorEq, Nat.reduceEqDiff, Nat.reduceAdd, Nat.reduceSub, Nat.zero_add, Int.reduceEq, Int.reduceNeg, decide_false, List.length_cons, List.length_nil, List.append_nil, Bool.and_self, Bool.not_false, and_true, true_and, and_self, forall_const, imp_self, implies_true, Nat.le_refl, ne_eq, not_false_eq_true, not_false_eq_true, maxLen, Nat.reducePow, keepF, appF, updB, RU_W, RU_D, Prod.eta]
          refine ⟨by omega, h81, by omega, ?_⟩
          refine loopJ (ι := Nat) (fun j => j ≤ ctF b i) (fun j => ctF b i - j) [1, 4, 5, 11, 12, 13, 14, 15, 16, 47, 48, 110] (fun j => [(111, .int .i64 j)]) (fun j => [(3, .cells (.cons (.own 4) (.cons (.int .i64 (bwF b i)) (.cons (.bool (flF b i)) .nil)))), (4, .row 29 5 (tdF k day at' b i j).1 fun x y => ((tdF k day at' b i j).2 x).c y)]) 1 0 (by omega) (by simp only [hfl', tdF, Chk, chkFr, chkBx, chkBx1, newIn, hasB, idsLt, kept, vs_int, vs_bool, vs_nil, vs_own, vs_ptr, vs_cons, vs_view, fget, isLB, bget, bset, vsubP_self, ↓reduceIte, reduceCtorEq, Nat.reduceEqDiff, Nat.reduceAdd, Nat.reduceLT, Int.cast_ofNat_Int, and_true, and_self, forall_const, implies_true, Option.some.injEq, exists_eq', or_true, or_false, keepF, appF, updB]; try rfl) fun j hj => ?_
          by_cases hjl : j < ctF b i
          · have f8 : ((j : Int) < (ctF b i : Int)) = True := eq_true (by omega)
            have ej : IntKind.i64.wrap (9 * (i : Int) + 4 + (j : Int)) = 9 * (i : Int) + 4 + (j : Int) := wr64 (by omega) (by omega)
            obtain ⟨⟨t, is⟩, hT⟩ : ∃ T, truF k day (nwF k at' b i) b (9 * (i : Int) + 4 + (j : Int)) = T := ⟨_, rfl⟩
            have hle := td_le (c := k) (day := day) (at' := at') (b := b) i j
            cases is
            · have htd : tdF k day at' b i (j + 1) = tdF k day at' b i j := by simp only [tdF, hT]; rfl
              simp (config := { maxSteps := 4000000 }) only [e9, f8, e94, ej, hT, RU_W, RU_D, w1, w2, w3, eq_self, ↓imp_tt, ↓imp_tf, ↓imp_ft, ↓imp_ff, runO_4, runO_5, runO_6, runO_8, runO_14, runO_16, runO_17, runO_18, runO_19, aop, binV, reOk, Nat.zero_sub, ev, fget, fput, cellsOf, cellsN, isLB, vget, vset, vsets, vlen, bget, bset, addB, addN, mkv, sliceV, vtab, frz, opOwns, preFz, callFz, skipOp, WfT, norm, norms, norm1, normL, pureB, pureL, onesB, specV, argsL, capsL, mkE_S, lkp, stkFr, ↓reduceIte, reduceCtorEq, Nat.reduceEqDiff, Nat.reduceAdd, Nat.reduceSub, Nat.reduceLT, Nat.zero_add, Int.reduceNeg, decide_true, List.length_cons, List.length_nil, List.append_nil, Bool.and_self, and_true, true_and, and_self, and_assoc, forall_const, imp_self, implies_true, Nat.le_refl, maxLen, Nat.reducePow, keepF, appF, updB, RU_W, RU_D, Prod.eta, Sp.c0, Sp.c1, Sp.w_c, Sp.eta, Sr.c0, Sr.c1, Sr.c2, Sr.c3, Sr.w_c, Sr.eta, Ck.eta]
              refine ⟨hc, hd, by omega, by omega, by omega, by omega, inv_intro (j + 1) (by omega) (by omega) ?_⟩
              simp only [htd, Chk, chkFr, chkBx, chkBx1, newIn, hasB, idsLt, kept, vs_int, vs_bool, vs_nil, vs_own, vs_ptr, vs_cons, vs_view, Nat.lt_irrefl, fget, isLB, bget, vsubP_self, ↓reduceIte, reduceCtorEq, Nat.reduceEqDiff, Nat.reduceLT, and_true, true_and, and_self, forall_const, implies_true, Option.some.injEq, Val.int.injEq, exists_eq', false_implies, or_false]
              rw [wrS (by omega)]
            · have htd : tdF k day at' b i (j + 1) = ((tdF k day at' b i j).1 + 1, fun m => if m < (tdF k day at' b i j).1 then (tdF k day at' b i j).2 m else t) := by simp only [tdF, hT]; rfl
              simp (config := { maxSteps := 4000000 }) only [e9, f8, e94, ej, hT, RU_W, RU_D, w1, w2, w3, eq_self, ↓imp_tt, ↓imp_tf, runO_4, runO_5, runO_6, runO_8, runO_14, runO_16, runO_17, runO_18, runO_19, aop, binV, reOk, Nat.zero_sub, ev, fget, fput, cellsOf, cellsN, isLB, vget, vset, vsets, vlen, bget, bset, addB, addN, mkv, sliceV, vtab, rowsV, rowsOk, vrep, frz, opOwns, preFz, callFz, owns, skipOp, WfT, norm, norms, norm1, normL, pureB, pureL, onesB, specV, argsL, capsL, mkE_S, mkE_G, lkp, subFr, subV, subBx, subStk, elemsV, stkFr, ↓reduceIte, reduceCtorEq, Nat.reduceEqDiff, Nat.reduceAdd, Nat.reduceSub, Nat.reduceLeDiff, Nat.reduceLT, Nat.zero_add, Nat.add_zero, Int.reduceNeg, decide_true, List.length_cons, List.length_nil, List.append_nil, List.flatMap_cons, List.flatMap_nil, Bool.and_self, and_true, true_and, and_self, and_assoc, forall_const, imp_self, implies_true, Nat.le_refl, or_false, maxLen, Nat.reducePow, keepF, appF, updB, RU_W, RU_D, Prod.eta, Sp.c0, Sp.c1, Sp.w_c, Sp.eta, Sr.c0, Sr.c1, Sr.c2, Sr.c3, Sr.w_c, Sr.eta, Ck.eta]
              refine ⟨hc, hd, by omega, by omega, by omega, by omega, by omega, by omega, inv_intro (j + 1) (by omega) (by omega) ?_⟩
              simp only [htd, Chk, chkFr, chkBx, chkBx1, newIn, hasB, idsLt, kept, vs_int, vs_bool, vs_nil, vs_own, vs_ptr, vs_cons, vs_view, Nat.lt_irrefl, fget, isLB, bget, vsubP_self, ↓reduceIte, reduceCtorEq, Nat.reduceEqDiff, Nat.reduceLT, and_true, true_and, and_self, forall_const, implies_true, Option.some.injEq, Val.int.injEq, exists_eq', false_implies, or_false]
              rw [wrS (by omega)]
              refine ⟨rfl, fun x hx y hy => ?_⟩
              split
              · exact (vsubP_self _).mpr trivial
              · obtain rfl : x = (tdF k day at' b i j).1 := by omega
                rw [Nat.sub_self]
                rcases (by omega : y = 0 ∨ y = 1 ∨ y = 2 ∨ y = 3 ∨ y = 4) with rfl | rfl | rfl | rfl | rfl <;> rfl
          · have f8 : ((j : Int) < (ctF b i : Int)) = False := eq_false (by omega)
            obtain rfl : j = ctF b i := by omega
            simp (config := { maxSteps := 4000000 }) only [f8, eq_self, ↓imp_ft, ↓imp_ff, runO_5, runO_8, runO_9, runO_14, runO_16, runO_17, runO_18, runO_19, aop, binV, reOk, Nat.zero_sub, ev, fget, fput, cellsOf, cellsN, isLB, vget, vset, vlen, bget, bset, bdel, addB, addN, mkv, sliceV, vtab, rowsV, rowsOk, vrep, frz, opOwns, preFz, owns, skipOp, WfT, pureB, onesB, mkE_G, subFr, subV, subBx, subStk, elemsV, popTo, stkFr, ↓reduceIte, reduceCtorEq, Nat.reduceEqDiff, Nat.reduceAdd, Nat.reduceSub, Nat.reduceLeDiff, Nat.reduceLT, Nat.zero_add, Int.reduceNeg, decide_false, List.length_cons, List.length_nil, List.append_nil, List.flatMap_cons, List.flatMap_nil, Bool.and_self, true_and, and_self, forall_const, imp_self, implies_true, Nat.le_refl, or_false, maxLen, Nat.reducePow, keepF, appF, updB]
            have hle := td_le (c := k) (day := day) (at' := at') (b := b) i (ctF b i)
            refine ⟨by omega, by omega, by omega, by omega, inv_intro (i + 1) ⟨by omega, fun x hx => ?_⟩ (by omega) ?_⟩
            · rcases Nat.lt_or_ge x i with h6 | h6
              · exact hi2 x h6
              · obtain rfl : x = i := by omega
                exact hnow
            · simp only [pvF, Chk, chkFr, chkBx, chkBx1, newIn, hasB, idsLt, kept, vs_int, vs_bool, vs_nil, vs_own, vs_ptr, vs_cons, vs_view, Nat.lt_irrefl, fget, isLB, bget, vp_int, vsubP_self, ↓reduceIte, reduceCtorEq, Nat.reduceEqDiff, Nat.reduceLT, and_true, true_and, and_self, forall_const, implies_true, Option.some.injEq, Val.int.injEq, exists_eq', false_implies, or_false]
              rw [wrS (by omega)]
              refine ⟨rfl, fun x hx y hy => ?_, fun x hx y hy => ?_⟩
              · split
                · rfl
                · obtain rfl : x = i := by omega
                  rw [Nat.sub_self]
                  obtain rfl : y = 0 := by omega
                  rfl
              · split
                · exact (vsubP_self _).mpr trivial
                · obtain rfl : x = i := by omega
                  rw [Nat.sub_self]
                  rcases (by omega : y = 0 ∨ y = 1 ∨ y = 2) with rfl | rfl | rfl <;> exact (vsubP_self _).mpr trivial

  · have f4 : ((i : Int) < (m : Int)) = False := eq_false (by omega)
    have hend : i ≤ m ∧ True := ⟨hi1, trivial⟩
    rcases hend with ⟨hi1', hnow⟩
    have h20 : i ≤ 20 := by omega
    obtain ⟨f, e1, e2⟩ := ngt_told (day := day) (b := b) hc hd (by omega) h20 hi2
    have hbw := fun x => bwF_bd (b := b) x
    have fn : ((i : Int) = (i : Int)) = True := eq_true rfl
    simp (config := { maxSteps := 4000000 }) only [sChoose, sInside, sTruly, sNightP, f4, RU_k, RU_C, e1, w1, w2, eq_self, Ch.w_c, ↓imp_ft, ↓imp_ff, runO_4, runO_5, runO_6, runO_9, runO_14, runO_15, runO_17, runO_18, runO_19, aop, binV, ev, fget, fput, cellsOf, isLB, vget, vlen, bget, bset, bdel, addB, addN, mkv, sliceV, vtab, frz, opOwns, preFz, callFz, ownsL, owns, skipOp, WfT, norm, norms, norm1, normL, pureB, pureL, flatB, snapV, snapL, specV, argsL, capsL, mkE_S, lkp, pickV, lenV, subFr, subV, subBx, subStk, popTo, stkFr, Val.toInt, Val.toBool, Val.slen, Val.scell, ↓reduceIte, reduceCtorEq, Nat.reduceEqDiff, Nat.reduceAdd, Nat.reduceSub, Nat.reduceLT, Nat.zero_add, Int.reduceNeg, decide_false, List.length_cons, List.length_nil, List.nil_append, List.append_nil, Bool.and_true, Bool.and_false, Bool.and_self, bne_self_eq_false, Bool.not_false, and_true, true_and, and_self, and_assoc, forall_const, imp_self, implies_true, Nat.le_refl, maxLen, Nat.reducePow, keepF, appF, updB, RU_k, RU_C, spec2, spec3, spec5, TSl, IsSl, TInt, IsInt, Prod.eta, Sp.L, Sp.c0, Sp.c1, Sp.Is, Sp.of, TSp, RSp, Sp.w_c, Sp.d, Sp.eta, Sr.c0, Sr.c1, Sr.c2, Sr.c3, RSr, Sr.w_c, Sr.d, Sr.eta, Tl.L, Tl.c0, Tl.c1, Tl.c2, Tl.c3, Tl.c4, RTl, Tl.d, Tl.eta, Ch.c0, Ch.c1, Ch.c2, RCh, Ch.w_c, Ch.d, Ch.eta, Ck.L, Ck.Is, Ck.of, TCk, Ck.d, Ck.eta]
    refine ⟨fun x hx => ?_, ?_⟩
    · have h1 := td_le (c := k) (day := day) (at' := at') (b := b) x (ctF b x)
      have h2 := ct_le (b := b) x
      simp only [chF]; omega
    intros
    refine loopI (ι := Nat) (fun z => z ≤ i) (fun z => i - z) [11, 21, 165, 166] (fun z => [(167, .int .i64 z)]) (fun _ => []) 0 (by omega) (by simp only [Chk, chkFr, chkBx, chkBx1, newIn, hasB, idsLt, kept, vs_int, vs_bool, vs_nil, vs_own, vs_cons, vs_view, fget, isLB, bget, vsubP_self, ↓reduceIte, reduceCtorEq, Nat.reduceEqDiff, Nat.reduceLT, Int.cast_ofNat_Int, and_true, and_self, forall_const, implies_true, Option.some.injEq, exists_eq', or_false, keepF, appF, updB]; try rfl) fun z hz => ?_
    by_cases hzl : z < i
    · have e3 := e2 z hzl
      have f5 : ((z : Int) < (i : Int)) = True := eq_true (by omega)
      have e6 : IntKind.i64.wrap (1000 * (f z).lo) = 1000 * (f z).lo := wr64 (by omega) (by omega)
      have e7 : IntKind.i64.wrap (1000 * (f z).hi) = 1000 * (f z).hi := wr64 (by omega) (by omega)
      have f6 : (nwF k at' b z < 1000 * (f z).lo) = False := eq_false (by omega)
      have f7 : (nwF k at' b z > 1000 * (f z).hi) = False := eq_false (by omega)
      simp (config := { maxSteps := 4000000 }) only [e6, e7, f5, f6, f7, eq_self, ↓imp_tt, ↓imp_tf, ↓imp_ft, ↓imp_ff, runO_4, runO_5, runO_6, runO_8, runO_14, runO_16, runO_17, runO_18, runO_19, aop, binV, ev, fget, fput, vget, bget, addB, addN, mkv, frz, opOwns, preFz, skipOp, WfT, casts, castOks, cast1, castOk, pickV, stkFr, Val.toInt, ↓reduceIte, reduceCtorEq, Nat.reduceEqDiff, Nat.reduceSub, Nat.reduceLeDiff, Nat.zero_add, Nat.add_zero, Nat.sub_zero, Int.reduceNeg, decide_true, decide_false, List.length_cons, List.length_nil, bne_self_eq_false, and_true, true_and, and_self, forall_const, imp_self, implies_true, Nat.le_refl, maxLen, Nat.reducePow, keepF, appF, updB, inat, Sp.c0, Sp.c1]
      refine ⟨by omega, fun _ => ⟨by omega, fun _ => ⟨by omega, inv_intro (z + 1) (by omega) (by omega) ?_⟩⟩⟩
      simp only [Chk, chkFr, chkBx, chkBx1, newIn, hasB, idsLt, kept, vs_int, vs_bool, vs_nil, vs_own, vs_cons, vs_view, fget, isLB, bget, vsubP_self, ↓reduceIte, reduceCtorEq, Nat.reduceEqDiff, Nat.reduceLT, and_true, true_and, and_self, forall_const, implies_true, Option.some.injEq, Val.int.injEq, exists_eq', or_false]
      rw [wrS (by omega)]
    · have f5 : ((z : Int) < (i : Int)) = False := eq_false (by omega)
      simp (config := { maxSteps := 4000000 }) only [f5, eq_self, ↓imp_ft, ↓imp_ff, runO_3, runO_5, runO_9, runO_14, runO_17, runO_18, runO_19, aop, binV, ends, ev, fget, fput, addB, addN, frz, opOwns, preFz, skipOp, WfT, resV, res1, snapV, snapOk, popTo, stkFr, ↓reduceIte, reduceCtorEq, Nat.reduceEqDiff, Int.reduceNeg, decide_false, and_self, forall_const, imp_self, implies_true, keepF, appF, updB]

end Go.Proofs.YtbhhcnonooiokaaDoor
