/- HourTrue: turns told by sun, stars and bowl are the same minute. No condition. -/
import Derived.Test.YtbhhcnonooiokaaDoorQPair
set_option linter.unusedSimpArgs false
set_option linter.unusedVariables false
namespace Go.Proofs.YtbhhcnonooiokaaDoor
open Go Go.RowKit
theorem mins_in {v : Int} {s : Sp} (h : In v s) : 1000 * (minsF s).lo ≤ v ∧ v ≤ 1000 * (minsF s).hi := by unfold In at h; unfold minsF downF; simp only; omega
noncomputable def sLawTrue : Spec := spec5 TCk TI TI (TU .u8) (TSl (RU .u32)) (fun _ _ _ _ _ => True) fun _ _ _ _ _ => .bool true
set_option maxHeartbeats 8000000 in
set_option maxRecDepth 100000 in
theorem pLawTrue : PureOk Tryd.prog NG 7 sLawTrue := by
  refine fn5 (S := [(35, sAlive), (43, sReady), (44, sTruly), (17, sTellA), (24, sClR), (19, sAllA)]) (I := []) mixed
    (.cons pAlive (.cons pReady (.cons pTruly (.cons (pTellAP pTellP) (.cons (pClP pTellP) (.cons (pAllAP pTellP) .nil)))))) .nil Tryd.func7 c7 fun k day at' n b _ hw => ?_
  simp only [vl, WfT, Val.toInt, Val.slen, Val.scell, Nat.reduceSub, and_true, true_and, and_self, and_assoc, maxLen, Nat.reducePow, TU_enc, RU_k, RU_C, TSl, TInt, RSp, Sp.d, RSr, Sr.d, Ck.L, TCk] at hw
  obtain ⟨w1, w2, w3⟩ := hw
  by_cases h0 : ¬ askE k day = 0
  · simp only [RunTo, a7, sAlive, sReady, show rdyB k day = false from decide_eq_false h0, w1, w2, ↓imp_tt, ↓imp_tf, runO_3, runO_5, runO_14, runO_17, runO_18, runO_19, aop, ends, Nat.zero_sub, ev, fget, fput, params, cellsOf, cellsN, isLB, vget, vlen, bget, addB, addN, mkv, sliceV, vtab, frz, opOwns, skipOp, WfT, resV, res1, norm, norms, norm1, normL, pureB, pureL, snapV, snapOk, specV, argsL, capsL, mkE_S, lkp, pickV, Fin, vp_bool, Val.toInt, Val.slen, Val.scell, ↓reduceIte, reduceCtorEq, Nat.reduceEqDiff, Nat.reduceAdd, Nat.reduceSub, Nat.zero_add, Int.reduceNeg, List.length_cons, List.length_nil, List.append_nil, Bool.and_self, Bool.bne_false, Bool.not_false, and_true, and_self, and_assoc, forall_const, imp_self, implies_true, Nat.le_refl, maxLen, Nat.reducePow, TU_enc, RU_k, RU_C, spec0, spec2, TSl, TInt, IsInt, Prod.eta, Sp.c0, Sp.c1, RSp, Sp.w_c, Sp.d, Sp.eta, Sr.c0, Sr.c1, Sr.c2, Sr.c3, RSr, Sr.w_c, Sr.d, Sr.eta, Ck.L, Ck.Is, Ck.of, TCk, Ck.d, Ck.eta]
  replace h0 := Classical.not_not.1 h0
  have hd0 : rdyB k day = true := decide_eq_true h0
  obtain ⟨hc, hd⟩ := askE_0 h0
  by_cases g1 : at' < -100000000
  · simp only [RunTo, a7, sAlive, sReady, hd0, g1, w1, w2, ↓imp_tt, ↓imp_tf, ↓imp_ft, ↓imp_ff, runO_3, runO_5, runO_14, runO_17, runO_18, runO_19, aop, binV, ends, Nat.zero_sub, ev, fget, fput, params, cellsOf, cellsN, isLB, vget, vlen, bget, addB, addN, mkv, sliceV, vtab, frz, opOwns, skipOp, WfT, resV, res1, norm, norms, norm1, normL, pureB, pureL, snapV, snapOk, specV, argsL, capsL, mkE_S, lkp, pickV, Fin, vp_bool, Val.toInt, Val.slen, Val.scell, ↓reduceIte, reduceCtorEq, Nat.reduceEqDiff, Nat.reduceAdd, Nat.reduceSub, Nat.zero_add, Int.reduceNeg, decide_true, List.length_cons, List.length_nil, List.append_nil, Bool.and_self, Bool.bne_false, bne_self_eq_false, Bool.not_true, and_true, and_self, and_assoc, forall_const, imp_self, implies_true, Nat.le_refl, maxLen, Nat.reducePow, TU_enc, RU_k, RU_C, spec0, spec2, TSl, TInt, IsInt, Prod.eta, Sp.c0, Sp.c1, RSp, Sp.w_c, Sp.d, Sp.eta, Sr.c0, Sr.c1, Sr.c2, Sr.c3, RSr, Sr.w_c, Sr.d, Sr.eta, Ck.L, Ck.Is, Ck.of, TCk, Ck.d, Ck.eta]
  by_cases g2 : at' > 100000000
  · simp only [RunTo, a7, sAlive, sReady, hd0, g1, g2, w1, w2, ↓imp_tt, ↓imp_tf, ↓imp_ft, ↓imp_ff, runO_3, runO_5, runO_14, runO_17, runO_18, runO_19, aop, binV, ends, Nat.zero_sub, ev, fget, fput, params, cellsOf, cellsN, isLB, vget, vlen, bget, addB, addN, mkv, sliceV, vtab, frz, opOwns, skipOp, WfT, resV, res1, norm, norms, norm1, normL, pureB, pureL, snapV, snapOk, specV, argsL, capsL, mkE_S, lkp, pickV, Fin, vp_bool, Val.toInt, Val.slen, Val.scell, ↓reduceIte, reduceCtorEq, Nat.reduceEqDiff, Nat.reduceAdd, Nat.reduceSub, Nat.zero_add, Int.reduceNeg, decide_true, decide_false, List.length_cons, List.length_nil, List.append_nil, Bool.and_self, Bool.bne_false, bne_self_eq_false, Bool.not_true, and_true, and_self, and_assoc, forall_const, imp_self, implies_true, Nat.le_refl, maxLen, Nat.reducePow, TU_enc, RU_k, RU_C, spec0, spec2, TSl, TInt, IsInt, Prod.eta, Sp.c0, Sp.c1, RSp, Sp.w_c, Sp.d, Sp.eta, Sr.c0, Sr.c1, Sr.c2, Sr.c3, RSr, Sr.w_c, Sr.d, Sr.eta, Ck.L, Ck.Is, Ck.of, TCk, Ck.d, Ck.eta]
  have hu := u8_bd n
  have en : (IntKind.i64.wrap n.1).tmod 11 = ((n.1 % 11).toNat : Int) := by
    rw [wr64 (e := n.1) (by omega) (by omega), Int.tmod_eq_emod_of_nonneg hu.1]; omega
  obtain ⟨m, hm⟩ : ∃ m, (n.1 % 11).toNat = m := ⟨_, rfl⟩
  have hm10 : m ≤ 10 := by omega
  rw [hm] at en
  simp (config := { maxSteps := 4000000 }) only [RunTo, a7, sAlive, sReady, hd0, g1, g2, en, w1, w2, ↓imp_ft, ↓imp_ff, runO_4, runO_5, runO_6, runO_14, runO_15, runO_17, runO_18, runO_19, aop, binV, ev, fget, fput, params, cellsOf, cellsN, isLB, vget, vlen, bget, addB, addN, mkv, sliceV, vtab, frz, opOwns, skipOp, WfT, norm, norms, norm1, normL, pureB, pureL, specV, argsL, capsL, mkE_S, lkp, pickV, Fin, vp_bool, Val.toInt, Val.slen, Val.scell, ↓reduceIte, reduceCtorEq, Nat.reduceEqDiff, Nat.reduceAdd, Nat.reduceSub, Nat.zero_add, Int.reduceEq, Int.reduceNeg, decide_false, List.length_cons, List.length_nil, List.append_nil, Bool.and_self, bne_self_eq_false, Bool.not_true, and_true, true_and, and_self, and_assoc, forall_const, imp_self, implies_true, Nat.le_refl, ne_eq, not_false_eq_true, not_false_eq_true, maxLen, Nat.reducePow, TU_enc, RU_k, RU_C, spec0, spec2, TSl, TInt, IsInt, Prod.eta, Sp.c0, Sp.c1, RSp, Sp.w_c, Sp.d, Sp.eta, Sr.c0, Sr.c1, Sr.c2, Sr.c3, RSr, Sr.w_c, Sr.d, Sr.eta, Ck.L, Ck.Is, Ck.of, TCk, Ck.d, Ck.eta]
  refine loopJ (ι := Nat × Nat × (Nat → Tl)) (fun s => s.1 ≤ m ∧ s.2.1 ≤ s.1 ∧ ∀ i < s.2.1, TlOk k (s.2.2 i) ∧ In at' (tellF k day (s.2.2 i))) (fun s => m - s.1) [1, 2, 4, 5, 11, 43] (fun s => [(44, .int .i64 s.1), (12, .own 1)]) (fun s => [(1, .row 29 5 s.2.1 fun i b => (s.2.2 i).c b)]) 1 (0, 0, fun _ => ⟨0, 0, 0, ⟨0, 0⟩⟩) ⟨by simp, by simp, fun i hi => by simp at hi⟩ (by simp only [Chk, chkFr, chkBx, chkBx1, newIn, hasB, idsLt, kept, vs_int, vs_bool, vs_nil, vs_own, vs_ptr, vs_cons, vs_view, fget, isLB, bget, bset, vsubP_self, ↓reduceIte, reduceCtorEq, Nat.reduceEqDiff, Nat.reduceAdd, Nat.reduceLT, Int.cast_ofNat_Int, and_true, and_self, forall_const, implies_true, Option.some.injEq, exists_eq', or_true, keepF, appF, updB]) fun s hs => ?_
  obtain ⟨j, z, f⟩ := s
  obtain ⟨hj1, hj2, hj3⟩ := hs
  simp only at hj1 hj2 hj3
  have e3 : IntKind.i64.wrap (3 * (j : Int)) = 3 * (j : Int) := wr64 (by omega) (by omega)
  by_cases h5 : j < m
  · have f4 : ((j : Int) < (m : Int)) = True := eq_true (by omega)
    have hT0 := fun h => truF_ok (c := k) (day := day) (b := b) (i := 3 * (j : Int)) (at' := at') (by omega) h
    obtain ⟨⟨t, is⟩, hT⟩ : ∃ T, truF k day at' b (3 * (j : Int)) = T := ⟨_, rfl⟩
    rw [hT] at hT0
    cases is
    · simp (config := { maxSteps := 4000000 }) only [sTruly, sTellA, sAllA, sClR, e3, f4, hT, w1, w2, w3, eq_self, ↓imp_tt, ↓imp_tf, runO_4, runO_5, runO_6, runO_9, runO_14, runO_16, runO_17, runO_18, runO_19, aop, binV, reOk, Nat.zero_sub, ev, fget, fput, cellsOf, cellsN, isLB, vget, vset, vsets, vlen, bget, bset, addB, addN, mkv, sliceV, vtab, frz, opOwns, skipOp, WfT, norm, norms, norm1, normL, pureB, pureL, onesB, specV, argsL, capsL, mkE_S, lkp, popTo, stkFr, Val.toInt, Val.slen, Val.scell, ↓reduceIte, reduceCtorEq, Nat.reduceEqDiff, Nat.reduceAdd, Nat.reduceSub, Nat.reduceLT, Nat.zero_add, Int.reduceNeg, decide_true, List.length_cons, List.length_nil, List.append_nil, Bool.and_self, Bool.not_false, and_true, true_and, and_self, and_assoc, forall_const, imp_self, implies_true, Nat.le_refl, maxLen, Nat.reducePow, keepF, appF, updB, RU_k, RU_C, RU_W, RU_D, spec3, spec5, TSl, IsSl, TInt, IsInt, Prod.eta, Sp.L, Sp.c0, Sp.c1, RSp, Sp.w_c, Sp.d, Sp.eta, Sr.c0, Sr.c1, Sr.c2, Sr.c3, RSr, Sr.w_c, Sr.d, Sr.eta, Tl.L, Tl.Is, Tl.of, TTl, RTl, Tl.d, Ck.L, Ck.Is, Ck.of, TCk, Ck.d, Ck.eta]
      refine ⟨hc, hd, by omega, by omega, by omega, by omega, inv_intro (j + 1, z, f) ⟨by simp only; omega, by simp only; omega, hj3⟩ (by simp only; omega) ?_⟩
      simp only [Chk, chkFr, chkBx, chkBx1, newIn, hasB, idsLt, kept, vs_int, vs_bool, vs_nil, vs_own, vs_ptr, vs_cons, vs_view, Nat.lt_irrefl, fget, isLB, bget, vsubP_self, ↓reduceIte, reduceCtorEq, Nat.reduceEqDiff, Nat.reduceLT, and_true, true_and, and_self, forall_const, implies_true, Option.some.injEq, Val.int.injEq, exists_eq', false_implies, or_false]
      rw [wrS (by omega)]
    · obtain ⟨ht, hin⟩ := hT0 rfl
      simp only at ht hin
      have e4 := tellA_ok h0 ht
      obtain ⟨s, hs⟩ : ∃ s, tellF k day t = s := ⟨_, rfl⟩
      have hb := (spfit_tell hc hd ht).2
      rw [hs] at e4 hin hb
      have hm2 := mins_in hin
      have hb2 : -20000000000 ≤ 1000 * (minsF s).lo ∧ 1000 * (minsF s).hi ≤ 20000000000 := by unfold minsF downF; simp only; omega
      have e5 : IntKind.i64.wrap (1000 * (minsF s).lo) = 1000 * (minsF s).lo := wr64 (by omega) (by omega)
      have e6 : IntKind.i64.wrap (1000 * (minsF s).hi) = 1000 * (minsF s).hi := wr64 (by omega) (by omega)
      have f5 : (at' < 1000 * (minsF s).lo) = False := eq_false (by omega)
      have f6 : (at' > 1000 * (minsF s).hi) = False := eq_false (by omega)
      simp (config := { maxSteps := 4000000 }) only [sTruly, sTellA, sAllA, sClR, e3, f4, hT, e4, e5, e6, f5, f6, w1, w2, w3, eq_self, ↓imp_tt, ↓imp_tf, ↓imp_ft, ↓imp_ff, runO_4, runO_5, runO_6, runO_8, runO_14, runO_16, runO_17, runO_18, runO_19, aop, binV, reOk, Nat.zero_sub, ev, fget, fput, cellsOf, cellsN, isLB, vget, vset, vsets, vlen, bget, bset, addB, addN, mkv, sliceV, vtab, rowsV, rowsOk, vrep, frz, opOwns, owns, skipOp, WfT, norm, norms, norm1, normL, pureB, pureL, onesB, specV, argsL, capsL, mkE_S, mkE_G, lkp, pickV, subFr, subV, subBx, subStk, elemsV, stkFr, Val.toInt, Val.slen, Val.scell, ↓reduceIte, reduceCtorEq, Nat.reduceEqDiff, Nat.reduceAdd, Nat.reduceSub, Nat.reduceLeDiff, Nat.reduceLT, Nat.zero_add, Nat.add_zero, Int.reduceNeg, decide_true, decide_false, List.length_cons, List.length_nil, List.append_nil, List.flatMap_cons, List.flatMap_nil, Bool.and_self, bne_self_eq_false, Bool.not_true, and_true, true_and, and_self, and_assoc, forall_const, imp_self, implies_true, Nat.le_refl, or_false, maxLen, Nat.reducePow, keepF, appF, updB, RU_k, RU_C, RU_W, RU_D, spec3, spec5, TSl, IsSl, TInt, IsInt, Prod.eta, Sp.L, Sp.c0, Sp.c1, RSp, Sp.w_c, Sp.d, Sp.eta, Sr.c0, Sr.c1, Sr.c2, Sr.c3, RSr, Sr.w_c, Sr.d, Sr.eta, Tl.L, Tl.Is, Tl.of, TTl, RTl, Tl.d, Tl.eta, Ck.L, Ck.Is, Ck.of, TCk, Ck.d, Ck.eta]
      refine ⟨hc, hd, by omega, by omega, by omega, by omega, by omega, by omega, inv_intro (j + 1, z + 1, fun i => if i < z then f i else t) ⟨by simp only; omega, by simp only; omega, fun i hi => ?_⟩ (by simp only; omega) ?_⟩
      · simp only
        split
        · exact hj3 i (by omega)
        · exact ⟨ht, by rw [hs]; exact hin⟩
      · simp only [Chk, chkFr, chkBx, chkBx1, newIn, hasB, idsLt, kept, vs_int, vs_bool, vs_nil, vs_own, vs_ptr, vs_cons, vs_view, Nat.lt_irrefl, fget, isLB, bget, vsubP_self, ↓reduceIte, reduceCtorEq, Nat.reduceEqDiff, Nat.reduceLT, and_true, true_and, and_self, forall_const, implies_true, Option.some.injEq, Val.int.injEq, exists_eq', false_implies, or_false]
        rw [wrS (by omega)]
        refine ⟨rfl, fun i hi k hk => ?_⟩
        split
        · exact (vsubP_self _).mpr trivial
        · obtain rfl : i = z := by omega
          rw [Nat.sub_self]
          rcases (by omega : k = 0 ∨ k = 1 ∨ k = 2 ∨ k = 3 ∨ k = 4) with rfl | rfl | rfl | rfl | rfl <;> rfl
  · have f4 : ((j : Int) < (m : Int)) = False := eq_false (by omega)
    rcases Nat.eq_zero_or_pos z with hz | hz
    · subst hz
      have e4 : ∀ f : Nat → Tl, thF k day (0, f) = (⟨0, 0⟩, 6) := fun f => by rw [thF_bad h0 (by rw [tlsE_none rfl]; decide), tlsE_none rfl]
      have e5 : ∀ f : Nat → Tl, clF k day (0, f) = (0, 0, 6) := fun f => by rw [clF_bad h0 (by rw [tlsE_none rfl]; decide), tlsE_none rfl]
      simp (config := { maxSteps := 4000000 }) only [sTruly, sTellA, sAllA, sClR, f4, e4, e5, w1, w2, eq_self, ↓imp_tt, ↓imp_tf, ↓imp_ft, ↓imp_ff, runO_3, runO_5, runO_9, runO_14, runO_17, runO_18, runO_19, aop, binV, ends, reOk, Nat.zero_sub, ev, fget, fput, cellsOf, cellsN, isLB, vget, vset, vsets, vlen, bget, bset, addB, addN, mkv, sliceV, vtab, frz, opOwns, skipOp, WfT, resV, res1, norm, norms, norm1, normL, pureB, pureL, flatB, onesB, snapV, snapOk, snapL, snapOks, specV, argsL, capsL, mkE_S, lkp, pickV, lenV, popTo, stkFr, Val.toInt, Val.slen, Val.scell, ↓reduceIte, reduceCtorEq, Nat.reduceEqDiff, Nat.reduceAdd, Nat.reduceSub, Nat.reduceLT, Nat.zero_add, Int.cast_ofNat_Int, Int.reduceEq, Int.reduceNeg, decide_false, List.length_cons, List.length_nil, List.append_nil, Bool.and_true, Bool.and_false, Bool.and_self, bne_self_eq_false, beq_self_eq_true, and_true, and_self, and_assoc, forall_const, imp_self, implies_true, Nat.le_refl, maxLen, Nat.reducePow, keepF, appF, updB, RU_k, RU_C, spec3, spec5, TSl, IsSl, TInt, IsInt, Prod.eta, Sp.L, Sp.c0, Sp.c1, RSp, Sp.w_c, Sp.d, Sp.eta, Sr.c0, Sr.c1, Sr.c2, Sr.c3, RSr, Sr.w_c, Sr.d, Sr.eta, Tl.L, Tl.c0, Tl.c1, Tl.c2, Tl.c3, Tl.c4, Tl.Is, Tl.of, TTl, RTl, Tl.w_c, Tl.d, Tl.eta, Ck.L, Ck.Is, Ck.of, TCk, Ck.d, Ck.eta]
    · have ha : AllOk k (z, f) := fun i hi => (hj3 i hi).1
      have hte : tlsE k (z, f) = 0 := tlsE_ok hz (by simp only; omega) ha
      have hIn : In at' (allF k day f z) := (allF_in at' z).2 ⟨by omega, fun i hi => (hj3 i hi).2⟩
      have hle : (allF k day f z).lo ≤ (allF k day f z).hi := by unfold In at hIn; omega
      have e4 := thF_ok h0 hte hle
      have e5 : clF k day (z, f) = (0, 0, 6) := clF_eq h0 hte (.inr ⟨rfl, (helly hc hd ha).1 hle⟩)
      obtain ⟨s, hs⟩ : ∃ s, allF k day f z = s := ⟨_, rfl⟩
      have hb := allF_bd hc hd ha z (Nat.le_refl _)
      simp only at e4 hb
      rw [hs] at e4 hIn hb
      have hm2 := mins_in hIn
      have hb2 : -20000000000 ≤ 1000 * (minsF s).lo ∧ 1000 * (minsF s).hi ≤ 20000000000 := by unfold minsF downF; simp only; omega
      have e6 : IntKind.i64.wrap (1000 * (minsF s).lo) = 1000 * (minsF s).lo := wr64 (by omega) (by omega)
      have e7 : IntKind.i64.wrap (1000 * (minsF s).hi) = 1000 * (minsF s).hi := wr64 (by omega) (by omega)
      have f5 : (at' ≥ 1000 * (minsF s).lo) = True := eq_true (by omega)
      have f6 : (at' ≤ 1000 * (minsF s).hi) = True := eq_true (by omega)
      have f7 : ((z : Int) = 0) = False := eq_false (by omega)
      simp (config := { maxSteps := 4000000 }) only [sTruly, sTellA, sAllA, sClR, f4, e4, e5, e6, e7, f5, f6, f7, w1, w2, eq_self, ↓imp_tt, ↓imp_tf, ↓imp_ft, ↓imp_ff, runO_3, runO_4, runO_5, runO_9, runO_14, runO_17, runO_18, runO_19, aop, binV, ends, reOk, Nat.zero_sub, ev, fget, fput, cellsOf, cellsN, isLB, vget, vset, vsets, vlen, bget, bset, addB, addN, mkv, sliceV, vtab, frz, opOwns, skipOp, WfT, resV, res1, norm, norms, norm1, normL, pureB, pureL, flatB, onesB, snapV, snapOk, snapL, snapOks, specV, argsL, capsL, mkE_S, lkp, pickV, lenV, popTo, stkFr, Val.toInt, Val.slen, Val.scell, ↓reduceIte, reduceCtorEq, Nat.reduceEqDiff, Nat.reduceAdd, Nat.reduceSub, Nat.reduceLeDiff, Nat.reduceLT, Nat.zero_add, Nat.add_zero, Int.reduceNeg, Int.reduceBEq, decide_true, decide_false, beq_iff_eq, beq_eq_false_iff_ne, List.length_cons, List.length_nil, List.append_nil, Bool.and_true, Bool.and_false, Bool.and_self, Bool.bne_true, bne_self_eq_false, Bool.not_false, Bool.false_eq_true, beq_self_eq_true, and_true, true_and, and_self, and_assoc, forall_const, imp_self, implies_true, Nat.le_refl, Val.bool.injEq, ne_eq, not_false_eq_true, not_false_eq_true, maxLen, Nat.reducePow, keepF, appF, updB, RU_k, RU_C, spec3, spec5, TSl, IsSl, TInt, IsInt, Prod.eta, Sp.L, Sp.c0, Sp.c1, RSp, Sp.w_c, Sp.d, Sp.eta, Sr.c0, Sr.c1, Sr.c2, Sr.c3, RSr, Sr.w_c, Sr.d, Sr.eta, Tl.L, Tl.c0, Tl.c1, Tl.c2, Tl.c3, Tl.c4, Tl.Is, Tl.of, TTl, RTl, Tl.w_c, Tl.d, Tl.eta, Ck.L, Ck.Is, Ck.of, TCk, Ck.d, Ck.eta]
end Go.Proofs.YtbhhcnonooiokaaDoor
