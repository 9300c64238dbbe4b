/- HourBefore: what is before for sure is before. No condition. -/
import Derived.Test.YtbhhcnonooiokaaDoorQAlive
set_option linter.unusedSimpArgs false
set_option linter.unusedVariables false
namespace Go.Proofs.YtbhhcnonooiokaaDoor
open Go Go.RowKit
noncomputable def sLawBefore : Spec := spec6 TCk TI (TSl RTl) (TSl RTl) TI TI (fun _ _ _ _ _ _ => True) fun _ _ _ _ _ _ => .bool true
theorem Tl.ite_c {p : Prop} [Decidable p] (x y : Tl) (j : Nat) : (if p then x.c j else y.c j) = (if p then x else y).c j := by split <;> rfl
def appL (a b : Tls) (i : Nat) : Tl := if i < a.1 then a.2 i else b.2 (i - a.1)
set_option maxHeartbeats 8000000 in
set_option maxRecDepth 100000 in
theorem pLawBefore : PureOk Tryd.prog NG 13 sLawBefore := by
  refine fn6 (S := [(35, sAlive), (43, sReady), (26, sBefR), (19, sAllA), (51, sTelling), (41, sSpanL)]) (I := [(50, a50)]) mixed
    (.cons pAlive (.cons pReady (.cons (pBefP pTellP) (.cons (pAllAP pTellP) (.cons pTelling (.cons pSpanL .nil)))))) (.cons Tryd.func50 c50 .nil) Tryd.func13 c13 fun k day a b x y _ hw => ?_
  simp only [vl, WfT, Val.toInt, Val.slen, Val.scell, Nat.reduceSub, and_true, true_and, and_self, and_assoc, maxLen, Nat.reducePow, TSl, TInt, RSp, Sp.d, RSr, Sr.d, RTl, Tl.d, Ck.L, TCk] at hw
  obtain ⟨w1, w2, w3, w4⟩ := hw
  by_cases h0 : ¬ (askE k day = 0)
  · simp only [RunTo, a13, sAlive, sReady, show rdyB k day = false from decide_eq_false h0, w1, w2, ↓imp_tt, ↓imp_tf, runO_3, runO_5, runO_14, runO_17, runO_18, runO_19, aop, ends, Nat.zero_sub, ev, fget, fput, params, cellsOf, cellsN, isLB, vget, vlen, bget, addB, addN, mkv, sliceV, vtab, frz, opOwns, skipOp, WfT, resV, res1, norm, norms, norm1, normL, pureB, pureL, snapV, snapOk, specV, argsL, capsL, mkE_S, lkp, pickV, Fin, vp_bool, Val.toInt, Val.slen, Val.scell, ↓reduceIte, reduceCtorEq, Nat.reduceEqDiff, Nat.reduceAdd, Nat.reduceSub, Nat.zero_add, List.length_cons, List.length_nil, List.append_nil, Bool.and_self, Bool.bne_false, Bool.not_false, and_true, and_self, and_assoc, forall_const, imp_self, implies_true, Nat.le_refl, maxLen, Nat.reducePow, spec0, spec2, TSl, TInt, IsInt, Prod.eta, Sp.c0, Sp.c1, RSp, Sp.w_c, Sp.d, Sp.eta, Sr.c0, Sr.c1, Sr.c2, Sr.c3, RSr, Sr.w_c, Sr.d, Sr.eta, RTl, Tl.d, Ck.L, Ck.Is, Ck.of, TCk, Ck.d, Ck.eta]
  replace h0 := Classical.not_not.1 h0
  have hd0 : rdyB k day = true := decide_eq_true h0
  by_cases ha : ¬ (a.1 ≤ 16)
  · have fa : ((a.1 : Int) > 16) = True := eq_true (by omega)
    simp only [RunTo, a13, sAlive, sReady, hd0, fa, w1, w2, w3, ↓imp_tt, ↓imp_tf, ↓imp_ft, ↓imp_ff, runO_3, runO_5, runO_14, runO_17, runO_18, runO_19, aop, binV, ends, Nat.zero_sub, ev, fget, fput, params, cellsOf, cellsN, isLB, vget, vlen, bget, addB, addN, mkv, sliceV, vtab, frz, opOwns, skipOp, WfT, resV, res1, norm, norms, norm1, normL, pureB, pureL, snapV, snapOk, specV, argsL, capsL, mkE_S, lkp, pickV, lenV, Fin, vp_bool, Val.toInt, Val.slen, Val.scell, ↓reduceIte, reduceCtorEq, Nat.reduceEqDiff, Nat.reduceAdd, Nat.reduceSub, Nat.zero_add, decide_true, List.length_cons, List.length_nil, List.append_nil, Bool.and_self, Bool.bne_false, bne_self_eq_false, Bool.not_true, and_true, and_self, and_assoc, forall_const, imp_self, implies_true, Nat.le_refl, maxLen, Nat.reducePow, spec0, spec2, TSl, TInt, IsInt, Prod.eta, Sp.c0, Sp.c1, RSp, Sp.w_c, Sp.d, Sp.eta, Sr.c0, Sr.c1, Sr.c2, Sr.c3, RSr, Sr.w_c, Sr.d, Sr.eta, RTl, Tl.d, Ck.L, Ck.Is, Ck.of, TCk, Ck.d, Ck.eta]
  replace ha := Classical.not_not.1 ha
  have fa : ((a.1 : Int) > 16) = False := eq_false (by omega)
  by_cases hb : ¬ (b.1 ≤ 16)
  · have fb : ((b.1 : Int) > 16) = True := eq_true (by omega)
    simp only [RunTo, a13, sAlive, sReady, hd0, fa, fb, w1, w2, w3, w4, ↓imp_tt, ↓imp_tf, ↓imp_ft, ↓imp_ff, runO_3, runO_5, runO_14, runO_17, runO_18, runO_19, aop, binV, ends, Nat.zero_sub, ev, fget, fput, params, cellsOf, cellsN, isLB, vget, vlen, bget, addB, addN, mkv, sliceV, vtab, frz, opOwns, skipOp, WfT, resV, res1, norm, norms, norm1, normL, pureB, pureL, snapV, snapOk, specV, argsL, capsL, mkE_S, lkp, pickV, lenV, Fin, vp_bool, Val.toInt, Val.slen, Val.scell, ↓reduceIte, reduceCtorEq, Nat.reduceEqDiff, Nat.reduceAdd, Nat.reduceSub, Nat.zero_add, decide_true, decide_false, List.length_cons, List.length_nil, List.append_nil, Bool.and_self, Bool.bne_false, bne_self_eq_false, Bool.not_true, and_true, and_self, and_assoc, forall_const, imp_self, implies_true, Nat.le_refl, maxLen, Nat.reducePow, spec0, spec2, TSl, TInt, IsInt, Prod.eta, Sp.c0, Sp.c1, RSp, Sp.w_c, Sp.d, Sp.eta, Sr.c0, Sr.c1, Sr.c2, Sr.c3, RSr, Sr.w_c, Sr.d, Sr.eta, RTl, Tl.d, Ck.L, Ck.Is, Ck.of, TCk, Ck.d, Ck.eta]
  replace hb := Classical.not_not.1 hb
  have fb : ((b.1 : Int) > 16) = False := eq_false (by omega)
  by_cases he : ¬ ((befF k day a b).2 = 0)
  · have h1 : (befF k day a b).1 = 0 ∧ ((thF k day a).2 = (befF k day a b).2 ∨ (thF k day b).2 = (befF k day a b).2) := by
      unfold befF at he ⊢
      by_cases h1 : (thF k day a).2 = 0
      · by_cases h2 : (thF k day b).2 = 0
        · simp only [h1, h2, ne_eq, not_true_eq_false, if_false] at he
          split at he
          · exact absurd rfl he
          · split at he <;> exact absurd rfl he
        · simp [h1, h2]
      · simp [h1]
    have fe : ((befF k day a b).2 = 0) = False := eq_false he
    obtain ⟨h1, h2⟩ := h1
    simp (config := { maxSteps := 4000000 }) only [RunTo, a13, sAlive, sReady, sBefR, sAllA, hd0, fa, fb, fe, h1, w1, w2, w3, w4, eq_self, ↓imp_tt, ↓imp_tf, ↓imp_ft, ↓imp_ff, runO_3, runO_4, runO_5, runO_6, runO_14, runO_15, runO_17, runO_18, runO_19, aop, binV, ends, reOk, Nat.zero_sub, ev, evs, fget, fput, params, cellsOf, cellsN, isLB, vget, vset, vsets, vlen, bget, bset, addB, addN, mkv, sliceV, vtab, rowsV, rowsOk, vrep, frz, opOwns, skipOp, WfT, resV, res1, norm, norms, norm1, normL, pureB, pureL, onesB, snapV, snapOk, specV, argsL, capsL, mkE_S, mkE_G, lkp, pickV, lenV, subFr, subV, subBx, subStk, elemsV, Fin, vp_bool, Val.toInt, Val.slen, Val.scell, ↓reduceIte, reduceCtorEq, Nat.reduceEqDiff, Nat.reduceAdd, Nat.reduceSub, Nat.reduceLeDiff, Nat.reduceLT, Nat.zero_add, Nat.add_zero, Nat.sub_zero, Int.reduceBEq, Int.reduceBNe, decide_false, beq_iff_eq, beq_eq_false_iff_ne, bne_iff_ne, bne_eq_false_iff_eq, List.length_cons, List.length_nil, List.append_nil, List.flatMap_nil, Bool.and_self, Bool.bne_true, Bool.bne_false, bne_self_eq_false, Bool.not_true, Bool.not_false, Bool.false_eq_true, beq_self_eq_true, and_true, true_and, and_self, and_assoc, forall_const, imp_self, implies_true, Nat.le_refl, decide_eq_true_eq, decide_eq_false_iff_not, Val.bool.injEq, ne_eq, not_false_eq_true, false_implies, or_false, not_false_eq_true, maxLen, Nat.reducePow, spec0, spec2, spec3, spec4, TSl, IsSl, TInt, IsInt, Prod.eta, Sp.L, Sp.c0, Sp.c1, RSp, Sp.w_c, Sp.d, Sp.eta, Sr.c0, Sr.c1, Sr.c2, Sr.c3, RSr, Sr.w_c, Sr.d, Sr.eta, Tl.c0, Tl.c1, Tl.c2, Tl.c3, Tl.c4, RTl, Tl.w_c, Tl.d, Tl.eta, Ck.L, Ck.Is, Ck.of, TCk, Ck.d, Ck.eta]
    intro h3; exact h2.resolve_left h3
  have h3 : (thF k day a).2 = 0 ∧ (thF k day b).2 = 0 := by
    unfold befF at he
    by_cases h1 : (thF k day a).2 = 0
    · by_cases h2 : (thF k day b).2 = 0
      · exact ⟨h1, h2⟩
      · simp [h1, h2] at he
    · simp [h1] at he
  obtain ⟨h1, h2⟩ := h3
  obtain ⟨hc, hd, hA1, hA2, hA3, hA4, hA5⟩ := thF_0 h1
  obtain ⟨_, _, hB1, hB2, hB3, hB4, hB5⟩ := thF_0 h2
  obtain ⟨A, hA⟩ : ∃ A, allF k day a.2 a.1 = A := ⟨_, rfl⟩
  obtain ⟨B, hB⟩ : ∃ B, allF k day b.2 b.1 = B := ⟨_, rfl⟩
  rw [hA] at hA4 hA5
  rw [hB] at hB4 hB5
  have tA : thF k day a = (A, 0) := Prod.ext hA4 h1
  have tB : thF k day b = (B, 0) := Prod.ext hB4 h2
  have bA := allF_bd hc hd hA1 a.1 (Nat.le_refl _)
  have bB := allF_bd hc hd hB1 b.1 (Nat.le_refl _)
  rw [hA] at bA
  rw [hB] at bB
  have mA : 1000 * (minsF A).lo ≤ A.lo ∧ A.lo < 1000 * (minsF A).lo + 1000 ∧ A.hi ≤ 1000 * (minsF A).hi ∧ 1000 * (minsF A).hi < A.hi + 1000 := by unfold minsF downF; simp only; omega
  have mB : 1000 * (minsF B).lo ≤ B.lo ∧ B.lo < 1000 * (minsF B).lo + 1000 ∧ B.hi ≤ 1000 * (minsF B).hi ∧ 1000 * (minsF B).hi < B.hi + 1000 := by unfold minsF downF; simp only; omega
  have ew : IntKind.i64.wrap ((minsF B).hi + 1) = (minsF B).hi + 1 := wr64 (by omega) (by omega)
  have e1 : befF k day a b = (if A.hi < B.lo then 2 else if A.lo ≥ B.hi then 0 else 1, 0) := by
    unfold befF; rw [tA, tB]; simp only [ne_eq, not_true_eq_false, if_false]; split
    · rfl
    · split <;> rfl
  have e2 : befF k day b a = (if B.hi < A.lo then 2 else if B.lo ≥ A.hi then 0 else 1, 0) := by
    unfold befF; rw [tA, tB]; simp only [ne_eq, not_true_eq_false, if_false]; split
    · rfl
    · split <;> rfl
  have hmb := fun j (h : j < k.mrk.1) => spin_of (hc.mrk j h)
  have hok : ∀ j, j < a.1 + b.1 → TlOk k (appL a b j) := fun j hj => by
    unfold appL
    split
    · exact hA1 j (by omega)
    · exact hB1 (j - a.1) (by omega)
  by_cases q1 : A.hi < B.lo
  · rw [if_pos q1] at e1
    rw [if_neg (by omega), if_pos (by omega)] at e2
    by_cases q2 : (minsF A).hi < (minsF B).lo
    · skip
      have c1 : ((minsF A).lo ≥ (minsF B).hi + 1) = False := eq_false (by omega)
      have c2 : ((minsF A).hi < (minsF B).lo) = True := eq_true q2
      have c3 : ((minsF A).lo > (minsF B).hi) = False := eq_false (by omega)
      simp (config := { maxSteps := 4000000 }) only [RunTo, a13, sAlive, sReady, sBefR, sAllA, hd0, fa, fb, e1, e2, tA, tB, ew, c1, c2, c3, w1, w2, w3, w4, eq_self, Nat.not_lt_zero, Tl.w_c, Tl.ite_c, Int.reduceGT, ↓imp_tt, ↓imp_tf, ↓imp_ft, ↓imp_ff, runO_4, runO_5, runO_6, runO_14, runO_15, runO_17, runO_18, runO_19, aop, binV, reOk, Nat.zero_sub, ev, evs, fget, fput, params, cellsOf, cellsN, isLB, vget, vset, vsets, vlen, bget, bset, addB, addN, mkv, sliceV, vtab, rowsV, rowsOk, vrep, frz, opOwns, skipOp, WfT, norm, norms, norm1, normL, pureB, pureL, onesB, specV, argsL, capsL, mkE_S, mkE_G, lkp, pickV, lenV, subFr, subV, subBx, subStk, elemsV, Fin, vp_bool, Val.toInt, Val.slen, Val.scell, ↓reduceIte, reduceCtorEq, Nat.reduceEqDiff, Nat.reduceAdd, Nat.reduceSub, Nat.reduceLeDiff, Nat.reduceLT, Nat.zero_add, Nat.add_zero, Nat.sub_zero, Int.reduceBEq, decide_true, decide_false, List.length_cons, List.length_nil, List.append_nil, List.flatMap_nil, Bool.and_self, Bool.bne_true, bne_self_eq_false, Bool.not_true, Bool.not_false, beq_self_eq_true, and_true, true_and, and_self, and_assoc, forall_const, imp_self, implies_true, Nat.le_refl, or_false, maxLen, Nat.reducePow, spec0, spec2, spec3, spec4, TSl, IsSl, TInt, IsInt, Prod.eta, Sp.L, Sp.c0, Sp.c1, RSp, Sp.w_c, Sp.d, Sp.eta, Sr.c0, Sr.c1, Sr.c2, Sr.c3, RSr, Sr.w_c, Sr.d, Sr.eta, Tl.c0, Tl.c1, Tl.c2, Tl.c3, Tl.c4, RTl, Tl.w_c, Tl.d, Tl.eta, Ck.L, Ck.Is, Ck.of, TCk, Ck.d, Ck.eta]
      refine ⟨by omega, by omega, by omega, ?_⟩
      refine loopI (ι := Nat) (fun j => j ≤ a.1 + b.1) (fun j => a.1 + b.1 - j) [2, 3, 4, 5, 6, 13, 14, 22, 162, 163] (fun j => [(164, .int .i64 j)]) (fun _ => [(3, .row 29 5 (a.1 + b.1) fun i j => (appL a b i).c j)]) 0 (by omega) (by simp only [Chk, chkFr, chkBx, chkBx1, newIn, hasB, idsLt, kept, vs_int, vs_bool, vs_nil, vs_own, vs_ptr, vs_cons, vs_func, vs_view, fget, isLB, bget, bset, vsubP_self, ↓reduceIte, reduceCtorEq, Nat.reduceEqDiff, Nat.reduceLT, Int.cast_ofNat_Int, and_true, true_and, and_self, forall_const, implies_true, Option.some.injEq, exists_eq', or_false, keepF, appF, updB]; exact fun i _ j _ => (vsubP_self _).mpr trivial) fun j hj => ?_
      simp only [a50, sTelling, sSpanL, w1, w2, w3, runO_3, runO_4, runO_5, runO_6, runO_8, runO_9, runO_14, runO_15, runO_16, runO_17, runO_18, runO_19, aop, binV, ends, reOk, Nat.zero_sub, ev, fget, fput, params, cellsOf, cellsN, isLB, vget, vset, vsets, vlen, bget, bset, addB, addN, mkv, sliceV, vtab, frz, opOwns, skipOp, WfT, resV, res1, casts, castOks, cast1, castOk, norm, norms, norm1, normL, pureB, pureL, onesB, snapV, snapOk, specV, argsL, capsL, mkE_S, mkE_I, lkp, lenV, popTo, stkFr, Val.toInt, Val.slen, Val.scell, ↓reduceIte, reduceCtorEq, Nat.reduceEqDiff, Nat.reduceAdd, Nat.reduceSub, Nat.zero_add, Nat.add_zero, List.length_cons, List.length_nil, List.nil_append, List.cons_append, List.append_nil, Bool.not_eq_true', Bool.not_eq_false', Bool.and_self, Bool.false_eq_true, and_true, true_and, and_self, and_assoc, forall_const, imp_self, implies_true, Nat.le_refl, decide_eq_true_eq, decide_eq_false_iff_not, Val.bool.injEq, maxLen, Nat.reducePow, keepF, appF, updB, inat, spec2, TInt, IsInt, Prod.eta, Sp.L, Sp.c0, Sp.c1, RSp, Sp.w_c, Sp.d, Sp.eta, Sr.c0, Sr.c1, Sr.c2, Sr.c3, RSr, Sr.w_c, Sr.d, Sr.eta, Tl.L, Tl.c0, Tl.c1, Tl.c2, Tl.c3, Tl.c4, Tl.Is, Tl.of, TTl, Tl.d, Tl.eta, Ck.L, Ck.Is, Ck.of, TCk, Ck.d, Ck.eta]
      refine ⟨fun hlt => ⟨by omega, by omega, fun h => of_decide_eq_false h (hok j (by omega)), fun h => inv_intro (j + 1) (by omega) (by omega) ?_⟩, fun hge => ?_⟩
      · simp only [Chk, chkFr, chkBx, chkBx1, newIn, hasB, idsLt, kept, vs_int, vs_bool, vs_nil, vs_own, vs_ptr, vs_cons, vs_func, vs_view, Nat.lt_irrefl, fget, isLB, bget, vsubP_self, ↓reduceIte, reduceCtorEq, Nat.reduceEqDiff, Nat.reduceLT, and_true, true_and, and_self, forall_const, implies_true, Option.some.injEq, Val.int.injEq, exists_eq', false_implies, or_false]
        rw [wrS (by omega)]
      clear hj hge
      refine loopI (ι := Nat) (fun j => j ≤ a.1 ∧ ∀ i < j, In x (tellF k day (a.2 i))) (fun j => a.1 - j) [1, 2, 9, 10] (fun j => [(11, .int .i64 j)]) (fun _ => []) 0 ⟨by omega, fun _ h => by omega⟩ (by simp only [Chk, chkFr, chkBx, chkBx1, hasB, idsLt, kept, vs_int, vs_nil, vs_ptr, vs_cons, vs_view, fget, isLB, bget, vsubP_self, ↓reduceIte, reduceCtorEq, Nat.reduceEqDiff, Nat.reduceLT, Int.cast_ofNat_Int, and_self, forall_const, implies_true, Option.some.injEq, exists_eq', keepF, appF, updB]; try rfl) fun j hj => ?_
      obtain ⟨hj1, hj2⟩ := hj
      simp (config := { maxSteps := 4000000 }) only [w1, w4, ↓imp_tt, ↓imp_tf, ↓imp_ft, ↓imp_ff, runO_3, runO_4, runO_5, runO_6, runO_8, runO_9, runO_14, runO_15, runO_16, runO_17, runO_18, runO_19, aop, binV, ends, reOk, Nat.zero_sub, ev, fget, fput, params, cellsOf, cellsN, isLB, vget, vset, vsets, vlen, bget, bset, addB, addN, mkv, sliceV, vtab, frz, opOwns, skipOp, WfT, resV, res1, casts, castOks, cast1, castOk, norm, norm1, normL, pureB, pureL, onesB, snapV, snapOk, specV, argsL, capsL, mkE_S, mkE_I, lkp, pickV, lenV, popTo, stkFr, Val.toInt, ↓reduceIte, reduceCtorEq, Nat.reduceEqDiff, Nat.reduceAdd, Nat.reduceSub, Nat.reduceLeDiff, Nat.zero_add, Nat.add_zero, Nat.sub_zero, beq_iff_eq, beq_eq_false_iff_ne, List.length_cons, List.length_nil, List.nil_append, List.cons_append, List.append_nil, Bool.and_self, Bool.bne_false, bne_self_eq_false, Bool.not_true, Bool.not_false, true_and, and_self, and_assoc, forall_const, imp_self, implies_true, Nat.le_refl, decide_eq_true_eq, decide_eq_false_iff_not, ne_eq, maxLen, Nat.reducePow, keepF, appF, updB, inat, Sp.c0, Sp.c1, Tl.c0, Tl.c1, Tl.c2, Tl.c3, Tl.c4]
      have ht := hA1 j
      have hnm := hc.nm
      have hstep : j < a.1 → In x (tellF k day (a.2 j)) → j + 1 ≤ a.1 ∧ ∀ i < j + 1, In x (tellF k day (a.2 i)) := fun h h2 => ⟨h, fun i hi => by
        rcases Nat.lt_or_ge i j with h5 | h5
        · exact hj2 i h5
        · obtain rfl : i = j := by omega
          exact h2⟩
      refine ⟨fun hlt => ?_, fun hge => ?_⟩
      · replace ht := ht (by omega)
        refine ⟨by omega, by omega, fun h1 => ?_, fun h1 => ⟨fun h2 => ?_, fun h2 h3 => ?_⟩⟩
        · obtain ⟨_, g4, g5⟩ : (a.2 j).kind = 1 ∧ 0 ≤ (a.2 j).which ∧ (a.2 j).which < k.mrk.1 := by unfold TlOk at ht; omega
          have hm := hmb (a.2 j).which.toNat (by omega)
          have e1 : IntKind.i64.wrap (1000 * (k.mrk.2 (a.2 j).which.toNat).lo) = 1000 * (k.mrk.2 (a.2 j).which.toNat).lo := wr64 (by omega) (by omega)
          have e2 : IntKind.i64.wrap (1000 * (k.mrk.2 (a.2 j).which.toNat).hi) = 1000 * (k.mrk.2 (a.2 j).which.toNat).hi := wr64 (by omega) (by omega)
          rw [e1, e2]
          refine ⟨by omega, by omega, fun h4 h5 => inv_intro (j + 1) (hstep (by omega) ?_) (by omega) ?_⟩
          · simp only [In, tellF, h1, if_true]; omega
          · simp only [Chk, chkFr, chkBx, chkBx1, hasB, idsLt, kept, vs_int, vs_nil, vs_ptr, vs_cons, vs_view, Nat.lt_irrefl, fget, isLB, bget, vsubP_self, ↓reduceIte, reduceCtorEq, Nat.reduceEqDiff, Nat.reduceLT, and_true, true_and, and_self, forall_const, implies_true, Option.some.injEq, Val.int.injEq, exists_eq', false_implies]
            rw [wrS (by omega)]
        · obtain ⟨_, g4, g5⟩ : (a.2 j).kind = 2 ∧ 0 ≤ (a.2 j).which ∧ (a.2 j).which + 1 < k.mrk.1 := by unfold TlOk at ht; omega
          have hm := hmb (a.2 j).which.toNat (by omega)
          have hm2 := hmb ((a.2 j).which.toNat + 1) (by omega)
          have e1 : IntKind.i64.wrap (1000 * (k.mrk.2 (a.2 j).which.toNat).lo) = 1000 * (k.mrk.2 (a.2 j).which.toNat).lo := wr64 (by omega) (by omega)
          have e3 : IntKind.i64.wrap ((a.2 j).which + 1) = (a.2 j).which + 1 := wr64 (by omega) (by omega)
          have e4 : ((a.2 j).which + 1).toNat = (a.2 j).which.toNat + 1 := by omega
          have e2 : IntKind.i64.wrap (1000 * (k.mrk.2 ((a.2 j).which.toNat + 1)).hi) = 1000 * (k.mrk.2 ((a.2 j).which.toNat + 1)).hi := wr64 (by omega) (by omega)
          rw [e3, e4, e1, e2]
          refine ⟨by omega, by omega, by omega, by omega, fun h4 h5 => inv_intro (j + 1) (hstep (by omega) ?_) (by omega) ?_⟩
          · simp only [In, tellF]; rw [if_neg h1, if_pos h2]; simp only; omega
          · simp only [Chk, chkFr, chkBx, chkBx1, hasB, idsLt, kept, vs_int, vs_nil, vs_ptr, vs_cons, vs_view, Nat.lt_irrefl, fget, isLB, bget, vsubP_self, ↓reduceIte, reduceCtorEq, Nat.reduceEqDiff, Nat.reduceLT, and_true, true_and, and_self, forall_const, implies_true, Option.some.injEq, Val.int.injEq, exists_eq', false_implies]
            rw [wrS (by omega)]
        · have h4 : SpIn (a.2 j).word (-100000) 100000 := by
            unfold TlOk at ht
            rcases ht with h0 | h0 | h0 | h0
            · exact absurd h0.1 h1
            · exact absurd h0.1 h2
            · exact absurd h0.1 h3
            · exact h0.2
          have hs := spin_of h4
          have e1 : IntKind.i64.wrap (1000 * (a.2 j).word.lo) = 1000 * (a.2 j).word.lo := wr64 (by omega) (by omega)
          have e2 : IntKind.i64.wrap (1000 * (a.2 j).word.hi) = 1000 * (a.2 j).word.hi := wr64 (by omega) (by omega)
          rw [e1, e2]
          refine fun h4 h5 => inv_intro (j + 1) (hstep (by omega) ?_) (by omega) ?_
          · simp only [In, tellF]; rw [if_neg h1, if_neg h2, if_neg h3]; simp only; omega
          · simp only [Chk, chkFr, chkBx, chkBx1, hasB, idsLt, kept, vs_int, vs_nil, vs_ptr, vs_cons, vs_view, Nat.lt_irrefl, fget, isLB, bget, vsubP_self, ↓reduceIte, reduceCtorEq, Nat.reduceEqDiff, Nat.reduceLT, and_true, true_and, and_self, forall_const, implies_true, Option.some.injEq, Val.int.injEq, exists_eq', false_implies]
            rw [wrS (by omega)]
      have hx : In x A := by
        rw [← hA, allF_in]
        have h5 := hj2 0 (by omega)
        have h6 := (spfit_tell hc hd (hA1 0 hA2)).2
        exact ⟨by unfold In at h5; omega, fun i hi => hj2 i (by omega)⟩
      clear hj1 hj2 hge hstep ht
      refine loopI (ι := Nat) (fun j => j ≤ b.1 ∧ ∀ i < j, In y (tellF k day (b.2 i))) (fun j => b.1 - j) [1, 2, 9, 10] (fun j => [(11, .int .i64 j)]) (fun _ => []) 0 ⟨by omega, fun _ h => by omega⟩ (by simp only [Chk, chkFr, chkBx, chkBx1, hasB, idsLt, kept, vs_int, vs_nil, vs_ptr, vs_cons, vs_view, fget, isLB, bget, vsubP_self, ↓reduceIte, reduceCtorEq, Nat.reduceEqDiff, Nat.reduceLT, Int.cast_ofNat_Int, and_self, forall_const, implies_true, Option.some.injEq, exists_eq', keepF, appF, updB]; try rfl) fun j hj => ?_
      obtain ⟨hj1, hj2⟩ := hj
      simp (config := { maxSteps := 4000000 }) only [w1, ↓imp_tt, ↓imp_tf, ↓imp_ft, ↓imp_ff, runO_3, runO_4, runO_5, runO_6, runO_8, runO_9, runO_14, runO_16, runO_17, runO_18, runO_19, aop, binV, ends, reOk, Nat.zero_sub, ev, fget, fput, cellsOf, cellsN, isLB, vget, vset, vsets, vlen, bget, bset, addB, addN, mkv, sliceV, vtab, frz, opOwns, skipOp, WfT, resV, res1, casts, castOks, cast1, castOk, norm, norm1, normL, pureB, pureL, onesB, snapV, snapOk, specV, argsL, capsL, mkE_S, lkp, pickV, popTo, stkFr, Val.toInt, ↓reduceIte, reduceCtorEq, Nat.reduceEqDiff, Nat.reduceAdd, Nat.reduceSub, Nat.reduceLeDiff, Nat.zero_add, Nat.add_zero, Nat.sub_zero, Int.reduceBNe, beq_iff_eq, beq_eq_false_iff_ne, List.length_cons, List.length_nil, List.append_nil, Bool.and_self, Bool.bne_true, Bool.bne_false, bne_self_eq_false, Bool.not_true, Bool.not_false, Bool.false_eq_true, and_true, true_and, and_self, and_assoc, forall_const, imp_self, implies_true, Nat.le_refl, decide_eq_true_eq, decide_eq_false_iff_not, Val.bool.injEq, ne_eq, maxLen, Nat.reducePow, keepF, appF, updB, inat, Sp.c0, Sp.c1, Tl.c0, Tl.c1, Tl.c2, Tl.c3, Tl.c4]
      have ht := hB1 j
      have hnm := hc.nm
      have hstep : j < b.1 → In y (tellF k day (b.2 j)) → j + 1 ≤ b.1 ∧ ∀ i < j + 1, In y (tellF k day (b.2 i)) := fun h h2 => ⟨h, fun i hi => by
        rcases Nat.lt_or_ge i j with h5 | h5
        · exact hj2 i h5
        · obtain rfl : i = j := by omega
          exact h2⟩
      refine ⟨fun hlt => ?_, fun hge => ?_⟩
      · replace ht := ht (by omega)
        refine ⟨by omega, by omega, fun h1 => ?_, fun h1 => ⟨fun h2 => ?_, fun h2 h3 => ?_⟩⟩
        · obtain ⟨_, g4, g5⟩ : (b.2 j).kind = 1 ∧ 0 ≤ (b.2 j).which ∧ (b.2 j).which < k.mrk.1 := by unfold TlOk at ht; omega
          have hm := hmb (b.2 j).which.toNat (by omega)
          have e1 : IntKind.i64.wrap (1000 * (k.mrk.2 (b.2 j).which.toNat).lo) = 1000 * (k.mrk.2 (b.2 j).which.toNat).lo := wr64 (by omega) (by omega)
          have e2 : IntKind.i64.wrap (1000 * (k.mrk.2 (b.2 j).which.toNat).hi) = 1000 * (k.mrk.2 (b.2 j).which.toNat).hi := wr64 (by omega) (by omega)
          rw [e1, e2]
          refine ⟨by omega, by omega, fun h4 h5 => inv_intro (j + 1) (hstep (by omega) ?_) (by omega) ?_⟩
          · simp only [In, tellF, h1, if_true]; omega
          · simp only [Chk, chkFr, chkBx, chkBx1, hasB, idsLt, kept, vs_int, vs_nil, vs_ptr, vs_cons, vs_view, Nat.lt_irrefl, fget, isLB, bget, vsubP_self, ↓reduceIte, reduceCtorEq, Nat.reduceEqDiff, Nat.reduceLT, and_true, true_and, and_self, forall_const, implies_true, Option.some.injEq, Val.int.injEq, exists_eq', false_implies]
            rw [wrS (by omega)]
        · obtain ⟨_, g4, g5⟩ : (b.2 j).kind = 2 ∧ 0 ≤ (b.2 j).which ∧ (b.2 j).which + 1 < k.mrk.1 := by unfold TlOk at ht; omega
          have hm := hmb (b.2 j).which.toNat (by omega)
          have hm2 := hmb ((b.2 j).which.toNat + 1) (by omega)
          have e1 : IntKind.i64.wrap (1000 * (k.mrk.2 (b.2 j).which.toNat).lo) = 1000 * (k.mrk.2 (b.2 j).which.toNat).lo := wr64 (by omega) (by omega)
          have e3 : IntKind.i64.wrap ((b.2 j).which + 1) = (b.2 j).which + 1 := wr64 (by omega) (by omega)
          have e4 : ((b.2 j).which + 1).toNat = (b.2 j).which.toNat + 1 := by omega
          have e2 : IntKind.i64.wrap (1000 * (k.mrk.2 ((b.2 j).which.toNat + 1)).hi) = 1000 * (k.mrk.2 ((b.2 j).which.toNat + 1)).hi := wr64 (by omega) (by omega)
          rw [e3, e4, e1, e2]
          refine ⟨by omega, by omega, by omega, by omega, fun h4 h5 => inv_intro (j + 1) (hstep (by omega) ?_) (by omega) ?_⟩
          · simp only [In, tellF]; rw [if_neg h1, if_pos h2]; simp only; omega
          · simp only [Chk, chkFr, chkBx, chkBx1, hasB, idsLt, kept, vs_int, vs_nil, vs_ptr, vs_cons, vs_view, Nat.lt_irrefl, fget, isLB, bget, vsubP_self, ↓reduceIte, reduceCtorEq, Nat.reduceEqDiff, Nat.reduceLT, and_true, true_and, and_self, forall_const, implies_true, Option.some.injEq, Val.int.injEq, exists_eq', false_implies]
            rw [wrS (by omega)]
        · have h4 : SpIn (b.2 j).word (-100000) 100000 := by
            unfold TlOk at ht
            rcases ht with h0 | h0 | h0 | h0
            · exact absurd h0.1 h1
            · exact absurd h0.1 h2
            · exact absurd h0.1 h3
            · exact h0.2
          have hs := spin_of h4
          have e1 : IntKind.i64.wrap (1000 * (b.2 j).word.lo) = 1000 * (b.2 j).word.lo := wr64 (by omega) (by omega)
          have e2 : IntKind.i64.wrap (1000 * (b.2 j).word.hi) = 1000 * (b.2 j).word.hi := wr64 (by omega) (by omega)
          rw [e1, e2]
          refine fun h4 h5 => inv_intro (j + 1) (hstep (by omega) ?_) (by omega) ?_
          · simp only [In, tellF]; rw [if_neg h1, if_neg h2, if_neg h3]; simp only; omega
          · simp only [Chk, chkFr, chkBx, chkBx1, hasB, idsLt, kept, vs_int, vs_nil, vs_ptr, vs_cons, vs_view, Nat.lt_irrefl, fget, isLB, bget, vsubP_self, ↓reduceIte, reduceCtorEq, Nat.reduceEqDiff, Nat.reduceLT, and_true, true_and, and_self, forall_const, implies_true, Option.some.injEq, Val.int.injEq, exists_eq', false_implies]
            rw [wrS (by omega)]
      have hy : In y B := by
        rw [← hB, allF_in]
        have h5 := hj2 0 (by omega)
        have h6 := (spfit_tell hc hd (hB1 0 hB2)).2
        exact ⟨by unfold In at h5; omega, fun i hi => hj2 i (by omega)⟩
      clear hj1 hj2 hge hstep ht
      unfold In at hx hy
      exact fun h => h (by omega)
    · skip
      have c1 : ((minsF A).lo ≥ (minsF B).hi + 1) = False := eq_false (by omega)
      have c2 : ((minsF A).hi < (minsF B).lo) = False := eq_false q2
      have c3 : ((minsF A).lo > (minsF B).hi) = False := eq_false (by omega)
      simp (config := { maxSteps := 4000000 }) only [RunTo, a13, sAlive, sReady, sBefR, sAllA, hd0, fa, fb, e1, e2, tA, tB, ew, c1, c2, c3, w1, w2, w3, w4, eq_self, Nat.not_lt_zero, Tl.w_c, Tl.ite_c, Int.reduceGT, ↓imp_tt, ↓imp_tf, ↓imp_ft, ↓imp_ff, runO_4, runO_5, runO_6, runO_14, runO_15, runO_17, runO_18, runO_19, aop, binV, reOk, Nat.zero_sub, ev, evs, fget, fput, params, cellsOf, cellsN, isLB, vget, vset, vsets, vlen, bget, bset, addB, addN, mkv, sliceV, vtab, rowsV, rowsOk, vrep, frz, opOwns, skipOp, WfT, norm, norms, norm1, normL, pureB, pureL, onesB, specV, argsL, capsL, mkE_S, mkE_G, lkp, pickV, lenV, subFr, subV, subBx, subStk, elemsV, Fin, vp_bool, Val.toInt, Val.slen, Val.scell, ↓reduceIte, reduceCtorEq, Nat.reduceEqDiff, Nat.reduceAdd, Nat.reduceSub, Nat.reduceLeDiff, Nat.reduceLT, Nat.zero_add, Nat.add_zero, Nat.sub_zero, Int.reduceBEq, decide_false, List.length_cons, List.length_nil, List.append_nil, List.flatMap_nil, Bool.and_self, Bool.bne_true, bne_self_eq_false, Bool.not_true, Bool.not_false, beq_self_eq_true, and_true, true_and, and_self, and_assoc, forall_const, imp_self, implies_true, Nat.le_refl, or_false, maxLen, Nat.reducePow, spec0, spec2, spec3, spec4, TSl, IsSl, TInt, IsInt, Prod.eta, Sp.L, Sp.c0, Sp.c1, RSp, Sp.w_c, Sp.d, Sp.eta, Sr.c0, Sr.c1, Sr.c2, Sr.c3, RSr, Sr.w_c, Sr.d, Sr.eta, Tl.c0, Tl.c1, Tl.c2, Tl.c3, Tl.c4, RTl, Tl.w_c, Tl.d, Tl.eta, Ck.L, Ck.Is, Ck.of, TCk, Ck.d, Ck.eta]
      refine ⟨by omega, by omega, by omega, ?_⟩
      refine loopI (ι := Nat) (fun j => j ≤ a.1 + b.1) (fun j => a.1 + b.1 - j) [2, 3, 4, 5, 6, 13, 14, 22, 162, 163] (fun j => [(164, .int .i64 j)]) (fun _ => [(3, .row 29 5 (a.1 + b.1) fun i j => (appL a b i).c j)]) 0 (by omega) (by simp only [Chk, chkFr, chkBx, chkBx1, newIn, hasB, idsLt, kept, vs_int, vs_bool, vs_nil, vs_own, vs_ptr, vs_cons, vs_func, vs_view, fget, isLB, bget, bset, vsubP_self, ↓reduceIte, reduceCtorEq, Nat.reduceEqDiff, Nat.reduceLT, Int.cast_ofNat_Int, and_true, true_and, and_self, forall_const, implies_true, Option.some.injEq, exists_eq', or_false, keepF, appF, updB]; exact fun i _ j _ => (vsubP_self _).mpr trivial) fun j hj => ?_
      simp only [a50, sTelling, sSpanL, w1, w2, w3, runO_3, runO_4, runO_5, runO_6, runO_8, runO_9, runO_14, runO_15, runO_16, runO_17, runO_18, runO_19, aop, binV, ends, reOk, Nat.zero_sub, ev, fget, fput, params, cellsOf, cellsN, isLB, vget, vset, vsets, vlen, bget, bset, addB, addN, mkv, sliceV, vtab, frz, opOwns, skipOp, WfT, resV, res1, casts, castOks, cast1, castOk, norm, norms, norm1, normL, pureB, pureL, onesB, snapV, snapOk, specV, argsL, capsL, mkE_S, mkE_I, lkp, lenV, popTo, stkFr, Val.toInt, Val.slen, Val.scell, ↓reduceIte, reduceCtorEq, Nat.reduceEqDiff, Nat.reduceAdd, Nat.reduceSub, Nat.zero_add, Nat.add_zero, List.length_cons, List.length_nil, List.nil_append, List.cons_append, List.append_nil, Bool.not_eq_true', Bool.not_eq_false', Bool.and_self, Bool.false_eq_true, and_true, true_and, and_self, and_assoc, forall_const, imp_self, implies_true, Nat.le_refl, decide_eq_true_eq, decide_eq_false_iff_not, Val.bool.injEq, maxLen, Nat.reducePow, keepF, appF, updB, inat, spec2, TInt, IsInt, Prod.eta, Sp.L, Sp.c0, Sp.c1, RSp, Sp.w_c, Sp.d, Sp.eta, Sr.c0, Sr.c1, Sr.c2, Sr.c3, RSr, Sr.w_c, Sr.d, Sr.eta, Tl.L, Tl.c0, Tl.c1, Tl.c2, Tl.c3, Tl.c4, Tl.Is, Tl.of, TTl, Tl.d, Tl.eta, Ck.L, Ck.Is, Ck.of, TCk, Ck.d, Ck.eta]
      refine ⟨fun hlt => ⟨by omega, by omega, fun h => of_decide_eq_false h (hok j (by omega)), fun h => inv_intro (j + 1) (by omega) (by omega) ?_⟩, fun hge => ?_⟩
      · simp only [Chk, chkFr, chkBx, chkBx1, newIn, hasB, idsLt, kept, vs_int, vs_bool, vs_nil, vs_own, vs_ptr, vs_cons, vs_func, vs_view, Nat.lt_irrefl, fget, isLB, bget, vsubP_self, ↓reduceIte, reduceCtorEq, Nat.reduceEqDiff, Nat.reduceLT, and_true, true_and, and_self, forall_const, implies_true, Option.some.injEq, Val.int.injEq, exists_eq', false_implies, or_false]
        rw [wrS (by omega)]
      clear hj hge
      refine loopI (ι := Nat) (fun j => j ≤ a.1 ∧ ∀ i < j, In x (tellF k day (a.2 i))) (fun j => a.1 - j) [1, 2, 9, 10] (fun j => [(11, .int .i64 j)]) (fun _ => []) 0 ⟨by omega, fun _ h => by omega⟩ (by simp only [Chk, chkFr, chkBx, chkBx1, hasB, idsLt, kept, vs_int, vs_nil, vs_ptr, vs_cons, vs_view, fget, isLB, bget, vsubP_self, ↓reduceIte, reduceCtorEq, Nat.reduceEqDiff, Nat.reduceLT, Int.cast_ofNat_Int, and_self, forall_const, implies_true, Option.some.injEq, exists_eq', keepF, appF, updB]; try rfl) fun j hj => ?_
      obtain ⟨hj1, hj2⟩ := hj
      simp (config := { maxSteps := 4000000 }) only [w1, w4, ↓imp_tt, ↓imp_tf, ↓imp_ft, ↓imp_ff, runO_3, runO_4, runO_5, runO_6, runO_8, runO_9, runO_14, runO_15, runO_16, runO_17, runO_18, runO_19, aop, binV, ends, reOk, Nat.zero_sub, ev, fget, fput, params, cellsOf, cellsN, isLB, vget, vset, vsets, vlen, bget, bset, addB, addN, mkv, sliceV, vtab, frz, opOwns, skipOp, WfT, resV, res1, casts, castOks, cast1, castOk, norm, norm1, normL, pureB, pureL, onesB, snapV, snapOk, specV, argsL, capsL, mkE_S, mkE_I, lkp, pickV, lenV, popTo, stkFr, Val.toInt, ↓reduceIte, reduceCtorEq, Nat.reduceEqDiff, Nat.reduceAdd, Nat.reduceSub, Nat.reduceLeDiff, Nat.zero_add, Nat.add_zero, Nat.sub_zero, beq_iff_eq, beq_eq_false_iff_ne, List.length_cons, List.length_nil, List.nil_append, List.cons_append, List.append_nil, Bool.and_self, Bool.bne_false, bne_self_eq_false, Bool.not_true, Bool.not_false, true_and, and_self, and_assoc, forall_const, imp_self, implies_true, Nat.le_refl, decide_eq_true_eq, decide_eq_false_iff_not, ne_eq, maxLen, Nat.reducePow, keepF, appF, updB, inat, Sp.c0, Sp.c1, Tl.c0, Tl.c1, Tl.c2, Tl.c3, Tl.c4]
      have ht := hA1 j
      have hnm := hc.nm
      have hstep : j < a.1 → In x (tellF k day (a.2 j)) → j + 1 ≤ a.1 ∧ ∀ i < j + 1, In x (tellF k day (a.2 i)) := fun h h2 => ⟨h, fun i hi => by
        rcases Nat.lt_or_ge i j with h5 | h5
        · exact hj2 i h5
        · obtain rfl : i = j := by omega
          exact h2⟩
      refine ⟨fun hlt => ?_, fun hge => ?_⟩
      · replace ht := ht (by omega)
        refine ⟨by omega, by omega, fun h1 => ?_, fun h1 => ⟨fun h2 => ?_, fun h2 h3 => ?_⟩⟩
        · obtain ⟨_, g4, g5⟩ : (a.2 j).kind = 1 ∧ 0 ≤ (a.2 j).which ∧ (a.2 j).which < k.mrk.1 := by unfold TlOk at ht; omega
          have hm := hmb (a.2 j).which.toNat (by omega)
          have e1 : IntKind.i64.wrap (1000 * (k.mrk.2 (a.2 j).which.toNat).lo) = 1000 * (k.mrk.2 (a.2 j).which.toNat).lo := wr64 (by omega) (by omega)
          have e2 : IntKind.i64.wrap (1000 * (k.mrk.2 (a.2 j).which.toNat).hi) = 1000 * (k.mrk.2 (a.2 j).which.toNat).hi := wr64 (by omega) (by omega)
          rw [e1, e2]
          refine ⟨by omega, by omega, fun h4 h5 => inv_intro (j + 1) (hstep (by omega) ?_) (by omega) ?_⟩
          · simp only [In, tellF, h1, if_true]; omega
          · simp only [Chk, chkFr, chkBx, chkBx1, hasB, idsLt, kept, vs_int, vs_nil, vs_ptr, vs_cons, vs_view, Nat.lt_irrefl, fget, isLB, bget, vsubP_self, ↓reduceIte, reduceCtorEq, Nat.reduceEqDiff, Nat.reduceLT, and_true, true_and, and_self, forall_const, implies_true, Option.some.injEq, Val.int.injEq, exists_eq', false_implies]
            rw [wrS (by omega)]
        · obtain ⟨_, g4, g5⟩ : (a.2 j).kind = 2 ∧ 0 ≤ (a.2 j).which ∧ (a.2 j).which + 1 < k.mrk.1 := by unfold TlOk at ht; omega
          have hm := hmb (a.2 j).which.toNat (by omega)
          have hm2 := hmb ((a.2 j).which.toNat + 1) (by omega)
          have e1 : IntKind.i64.wrap (1000 * (k.mrk.2 (a.2 j).which.toNat).lo) = 1000 * (k.mrk.2 (a.2 j).which.toNat).lo := wr64 (by omega) (by omega)
          have e3 : IntKind.i64.wrap ((a.2 j).which + 1) = (a.2 j).which + 1 := wr64 (by omega) (by omega)
          have e4 : ((a.2 j).which + 1).toNat = (a.2 j).which.toNat + 1 := by omega
          have e2 : IntKind.i64.wrap (1000 * (k.mrk.2 ((a.2 j).which.toNat + 1)).hi) = 1000 * (k.mrk.2 ((a.2 j).which.toNat + 1)).hi := wr64 (by omega) (by omega)
          rw [e3, e4, e1, e2]
          refine ⟨by omega, by omega, by omega, by omega, fun h4 h5 => inv_intro (j + 1) (hstep (by omega) ?_) (by omega) ?_⟩
          · simp only [In, tellF]; rw [if_neg h1, if_pos h2]; simp only; omega
          · simp only [Chk, chkFr, chkBx, chkBx1, hasB, idsLt, kept, vs_int, vs_nil, vs_ptr, vs_cons, vs_view, Nat.lt_irrefl, fget, isLB, bget, vsubP_self, ↓reduceIte, reduceCtorEq, Nat.reduceEqDiff, Nat.reduceLT, and_true, true_and, and_self, forall_const, implies_true, Option.some.injEq, Val.int.injEq, exists_eq', false_implies]
            rw [wrS (by omega)]
        · have h4 : SpIn (a.2 j).word (-100000) 100000 := by
            unfold TlOk at ht
            rcases ht with h0 | h0 | h0 | h0
            · exact absurd h0.1 h1
            · exact absurd h0.1 h2
            · exact absurd h0.1 h3
            · exact h0.2
          have hs := spin_of h4
          have e1 : IntKind.i64.wrap (1000 * (a.2 j).word.lo) = 1000 * (a.2 j).word.lo := wr64 (by omega) (by omega)
          have e2 : IntKind.i64.wrap (1000 * (a.2 j).word.hi) = 1000 * (a.2 j).word.hi := wr64 (by omega) (by omega)
          rw [e1, e2]
          refine fun h4 h5 => inv_intro (j + 1) (hstep (by omega) ?_) (by omega) ?_
          · simp only [In, tellF]; rw [if_neg h1, if_neg h2, if_neg h3]; simp only; omega
          · simp only [Chk, chkFr, chkBx, chkBx1, hasB, idsLt, kept, vs_int, vs_nil, vs_ptr, vs_cons, vs_view, Nat.lt_irrefl, fget, isLB, bget, vsubP_self, ↓reduceIte, reduceCtorEq, Nat.reduceEqDiff, Nat.reduceLT, and_true, true_and, and_self, forall_const, implies_true, Option.some.injEq, Val.int.injEq, exists_eq', false_implies]
            rw [wrS (by omega)]
      have hx : In x A := by
        rw [← hA, allF_in]
        have h5 := hj2 0 (by omega)
        have h6 := (spfit_tell hc hd (hA1 0 hA2)).2
        exact ⟨by unfold In at h5; omega, fun i hi => hj2 i (by omega)⟩
      clear hj1 hj2 hge hstep ht
      refine loopI (ι := Nat) (fun j => j ≤ b.1 ∧ ∀ i < j, In y (tellF k day (b.2 i))) (fun j => b.1 - j) [1, 2, 9, 10] (fun j => [(11, .int .i64 j)]) (fun _ => []) 0 ⟨by omega, fun _ h => by omega⟩ (by simp only [Chk, chkFr, chkBx, chkBx1, hasB, idsLt, kept, vs_int, vs_nil, vs_ptr, vs_cons, vs_view, fget, isLB, bget, vsubP_self, ↓reduceIte, reduceCtorEq, Nat.reduceEqDiff, Nat.reduceLT, Int.cast_ofNat_Int, and_self, forall_const, implies_true, Option.some.injEq, exists_eq', keepF, appF, updB]; try rfl) fun j hj => ?_
      obtain ⟨hj1, hj2⟩ := hj
      simp (config := { maxSteps := 4000000 }) only [w1, ↓imp_tt, ↓imp_tf, ↓imp_ft, ↓imp_ff, runO_3, runO_4, runO_5, runO_6, runO_8, runO_9, runO_14, runO_16, runO_17, runO_18, runO_19, aop, binV, ends, reOk, Nat.zero_sub, ev, fget, fput, cellsOf, cellsN, isLB, vget, vset, vsets, vlen, bget, bset, addB, addN, mkv, sliceV, vtab, frz, opOwns, skipOp, WfT, resV, res1, casts, castOks, cast1, castOk, norm, norm1, normL, pureB, pureL, onesB, snapV, snapOk, specV, argsL, capsL, mkE_S, lkp, pickV, popTo, stkFr, Val.toInt, ↓reduceIte, reduceCtorEq, Nat.reduceEqDiff, Nat.reduceAdd, Nat.reduceSub, Nat.reduceLeDiff, Nat.zero_add, Nat.add_zero, Nat.sub_zero, Int.reduceBNe, beq_iff_eq, beq_eq_false_iff_ne, List.length_cons, List.length_nil, List.append_nil, Bool.and_self, Bool.bne_true, Bool.bne_false, bne_self_eq_false, Bool.not_true, Bool.not_false, Bool.false_eq_true, and_true, true_and, and_self, and_assoc, forall_const, imp_self, implies_true, Nat.le_refl, decide_eq_true_eq, decide_eq_false_iff_not, Val.bool.injEq, ne_eq, maxLen, Nat.reducePow, keepF, appF, updB, inat, Sp.c0, Sp.c1, Tl.c0, Tl.c1, Tl.c2, Tl.c3, Tl.c4]
      have ht := hB1 j
      have hnm := hc.nm
      have hstep : j < b.1 → In y (tellF k day (b.2 j)) → j + 1 ≤ b.1 ∧ ∀ i < j + 1, In y (tellF k day (b.2 i)) := fun h h2 => ⟨h, fun i hi => by
        rcases Nat.lt_or_ge i j with h5 | h5
        · exact hj2 i h5
        · obtain rfl : i = j := by omega
          exact h2⟩
      refine ⟨fun hlt => ?_, fun hge => ?_⟩
      · replace ht := ht (by omega)
        refine ⟨by omega, by omega, fun h1 => ?_, fun h1 => ⟨fun h2 => ?_, fun h2 h3 => ?_⟩⟩
        · obtain ⟨_, g4, g5⟩ : (b.2 j).kind = 1 ∧ 0 ≤ (b.2 j).which ∧ (b.2 j).which < k.mrk.1 := by unfold TlOk at ht; omega
          have hm := hmb (b.2 j).which.toNat (by omega)
          have e1 : IntKind.i64.wrap (1000 * (k.mrk.2 (b.2 j).which.toNat).lo) = 1000 * (k.mrk.2 (b.2 j).which.toNat).lo := wr64 (by omega) (by omega)
          have e2 : IntKind.i64.wrap (1000 * (k.mrk.2 (b.2 j).which.toNat).hi) = 1000 * (k.mrk.2 (b.2 j).which.toNat).hi := wr64 (by omega) (by omega)
          rw [e1, e2]
          refine ⟨by omega, by omega, fun h4 h5 => inv_intro (j + 1) (hstep (by omega) ?_) (by omega) ?_⟩
          · simp only [In, tellF, h1, if_true]; omega
          · simp only [Chk, chkFr, chkBx, chkBx1, hasB, idsLt, kept, vs_int, vs_nil, vs_ptr, vs_cons, vs_view, Nat.lt_irrefl, fget, isLB, bget, vsubP_self, ↓reduceIte, reduceCtorEq, Nat.reduceEqDiff, Nat.reduceLT, and_true, true_and, and_self, forall_const, implies_true, Option.some.injEq, Val.int.injEq, exists_eq', false_implies]
            rw [wrS (by omega)]
        · obtain ⟨_, g4, g5⟩ : (b.2 j).kind = 2 ∧ 0 ≤ (b.2 j).which ∧ (b.2 j).which + 1 < k.mrk.1 := by unfold TlOk at ht; omega
          have hm := hmb (b.2 j).which.toNat (by omega)
          have hm2 := hmb ((b.2 j).which.toNat + 1) (by omega)
          have e1 : IntKind.i64.wrap (1000 * (k.mrk.2 (b.2 j).which.toNat).lo) = 1000 * (k.mrk.2 (b.2 j).which.toNat).lo := wr64 (by omega) (by omega)
          have e3 : IntKind.i64.wrap ((b.2 j).which + 1) = (b.2 j).which + 1 := wr64 (by omega) (by omega)
          have e4 : ((b.2 j).which + 1).toNat = (b.2 j).which.toNat + 1 := by omega
          have e2 : IntKind.i64.wrap (1000 * (k.mrk.2 ((b.2 j).which.toNat + 1)).hi) = 1000 * (k.mrk.2 ((b.2 j).which.toNat + 1)).hi := wr64 (by omega) (by omega)
          rw [e3, e4, e1, e2]
          refine ⟨by omega, by omega, by omega, by omega, fun h4 h5 => inv_intro (j + 1) (hstep (by omega) ?_) (by omega) ?_⟩
          · simp only [In, tellF]; rw [if_neg h1, if_pos h2]; simp only; omega
          · simp only [Chk, chkFr, chkBx, chkBx1, hasB, idsLt, kept, vs_int, vs_nil, vs_ptr, vs_cons, vs_view, Nat.lt_irrefl, fget, isLB, bget, vsubP_self, ↓reduceIte, reduceCtorEq, Nat.reduceEqDiff, Nat.reduceLT, and_true, true_and, and_self, forall_const, implies_true, Option.some.injEq, Val.int.injEq, exists_eq', false_implies]
            rw [wrS (by omega)]
        · have h4 : SpIn (b.2 j).word (-100000) 100000 := by
            unfold TlOk at ht
            rcases ht with h0 | h0 | h0 | h0
            · exact absurd h0.1 h1
            · exact absurd h0.1 h2
            · exact absurd h0.1 h3
            · exact h0.2
          have hs := spin_of h4
          have e1 : IntKind.i64.wrap (1000 * (b.2 j).word.lo) = 1000 * (b.2 j).word.lo := wr64 (by omega) (by omega)
          have e2 : IntKind.i64.wrap (1000 * (b.2 j).word.hi) = 1000 * (b.2 j).word.hi := wr64 (by omega) (by omega)
          rw [e1, e2]
          refine fun h4 h5 => inv_intro (j + 1) (hstep (by omega) ?_) (by omega) ?_
          · simp only [In, tellF]; rw [if_neg h1, if_neg h2, if_neg h3]; simp only; omega
          · simp only [Chk, chkFr, chkBx, chkBx1, hasB, idsLt, kept, vs_int, vs_nil, vs_ptr, vs_cons, vs_view, Nat.lt_irrefl, fget, isLB, bget, vsubP_self, ↓reduceIte, reduceCtorEq, Nat.reduceEqDiff, Nat.reduceLT, and_true, true_and, and_self, forall_const, implies_true, Option.some.injEq, Val.int.injEq, exists_eq', false_implies]
            rw [wrS (by omega)]
      have hy : In y B := by
        rw [← hB, allF_in]
        have h5 := hj2 0 (by omega)
        have h6 := (spfit_tell hc hd (hB1 0 hB2)).2
        exact ⟨by unfold In at h5; omega, fun i hi => hj2 i (by omega)⟩
      clear hj1 hj2 hge hstep ht
      unfold In at hx hy
      exact fun h => h (by omega)
  · rw [if_neg q1] at e1
    by_cases q3 : A.lo ≥ B.hi
    · rw [if_pos q3] at e1
      obtain ⟨v2, e2'⟩ : ∃ v2 : Int, (if B.hi < A.lo then 2 else if B.lo ≥ A.hi then 0 else 1 : Int) = v2 := ⟨_, rfl⟩
      rw [e2'] at e2
      by_cases q4 : (minsF A).lo > (minsF B).hi
      · have c9 := trivial
        have c1 : ((minsF A).lo ≥ (minsF B).hi + 1) = True := eq_true (by omega)
        have c2 : ((minsF A).hi < (minsF B).lo) = False := eq_false (by omega)
        have c3 : ((minsF A).lo > (minsF B).hi) = True := eq_true q4
        simp (config := { maxSteps := 4000000 }) only [RunTo, a13, sAlive, sReady, sBefR, sAllA, hd0, fa, fb, e1, e2, tA, tB, c2, c3, w1, w2, w3, w4, eq_self, Nat.not_lt_zero, Tl.w_c, Tl.ite_c, Int.reduceGT, ↓imp_tt, ↓imp_tf, ↓imp_ft, ↓imp_ff, runO_4, runO_5, runO_6, runO_14, runO_15, runO_17, runO_18, runO_19, aop, binV, reOk, Nat.zero_sub, ev, evs, fget, fput, params, cellsOf, cellsN, isLB, vget, vset, vsets, vlen, bget, bset, addB, addN, mkv, sliceV, vtab, rowsV, rowsOk, vrep, frz, opOwns, skipOp, WfT, norm, norms, norm1, normL, pureB, pureL, onesB, specV, argsL, capsL, mkE_S, mkE_G, lkp, pickV, lenV, subFr, subV, subBx, subStk, elemsV, Fin, vp_bool, Val.toInt, Val.slen, Val.scell, ↓reduceIte, reduceCtorEq, Nat.reduceEqDiff, Nat.reduceAdd, Nat.reduceSub, Nat.reduceLeDiff, Nat.reduceLT, Nat.zero_add, Nat.add_zero, Nat.sub_zero, Int.reduceBEq, decide_true, decide_false, List.length_cons, List.length_nil, List.append_nil, List.flatMap_nil, Bool.and_self, Bool.bne_true, bne_self_eq_false, Bool.not_true, Bool.not_false, beq_self_eq_true, and_true, true_and, and_self, and_assoc, forall_const, imp_self, implies_true, Nat.le_refl, or_false, maxLen, Nat.reducePow, spec0, spec2, spec3, spec4, TSl, IsSl, TInt, IsInt, Prod.eta, Sp.L, Sp.c0, Sp.c1, RSp, Sp.w_c, Sp.d, Sp.eta, Sr.c0, Sr.c1, Sr.c2, Sr.c3, RSr, Sr.w_c, Sr.d, Sr.eta, Tl.c0, Tl.c1, Tl.c2, Tl.c3, Tl.c4, RTl, Tl.w_c, Tl.d, Tl.eta, Ck.L, Ck.Is, Ck.of, TCk, Ck.d, Ck.eta]
        refine ⟨by omega, by omega, by omega, ?_⟩
        refine loopI (ι := Nat) (fun j => j ≤ a.1 + b.1) (fun j => a.1 + b.1 - j) [2, 3, 4, 5, 6, 13, 14, 22, 162, 163] (fun j => [(164, .int .i64 j)]) (fun _ => [(3, .row 29 5 (a.1 + b.1) fun i j => (appL a b i).c j)]) 0 (by omega) (by simp only [Chk, chkFr, chkBx, chkBx1, newIn, hasB, idsLt, kept, vs_int, vs_bool, vs_nil, vs_own, vs_ptr, vs_cons, vs_func, vs_view, fget, isLB, bget, bset, vsubP_self, ↓reduceIte, reduceCtorEq, Nat.reduceEqDiff, Nat.reduceLT, Int.cast_ofNat_Int, and_true, true_and, and_self, forall_const, implies_true, Option.some.injEq, exists_eq', or_false, keepF, appF, updB]; exact fun i _ j _ => (vsubP_self _).mpr trivial) fun j hj => ?_
        simp only [a50, sTelling, sSpanL, w1, w2, w3, runO_3, runO_4, runO_5, runO_6, runO_8, runO_9, runO_14, runO_15, runO_16, runO_17, runO_18, runO_19, aop, binV, ends, reOk, Nat.zero_sub, ev, fget, fput, params, cellsOf, cellsN, isLB, vget, vset, vsets, vlen, bget, bset, addB, addN, mkv, sliceV, vtab, frz, opOwns, skipOp, WfT, resV, res1, casts, castOks, cast1, castOk, norm, norms, norm1, normL, pureB, pureL, onesB, snapV, snapOk, specV, argsL, capsL, mkE_S, mkE_I, lkp, lenV, popTo, stkFr, Val.toInt, Val.slen, Val.scell, ↓reduceIte, reduceCtorEq, Nat.reduceEqDiff, Nat.reduceAdd, Nat.reduceSub, Nat.zero_add, Nat.add_zero, List.length_cons, List.length_nil, List.nil_append, List.cons_append, List.append_nil, Bool.not_eq_true', Bool.not_eq_false', Bool.and_self, Bool.false_eq_true, and_true, true_and, and_self, and_assoc, forall_const, imp_self, implies_true, Nat.le_refl, decide_eq_true_eq, decide_eq_false_iff_not, Val.bool.injEq, maxLen, Nat.reducePow, keepF, appF, updB, inat, spec2, TInt, IsInt, Prod.eta, Sp.L, Sp.c0, Sp.c1, RSp, Sp.w_c, Sp.d, Sp.eta, Sr.c0, Sr.c1, Sr.c2, Sr.c3, RSr, Sr.w_c, Sr.d, Sr.eta, Tl.L, Tl.c0, Tl.c1, Tl.c2, Tl.c3, Tl.c4, Tl.Is, Tl.of, TTl, Tl.d, Tl.eta, Ck.L, Ck.Is, Ck.of, TCk, Ck.d, Ck.eta]
        refine ⟨fun hlt => ⟨by omega, by omega, fun h => of_decide_eq_false h (hok j (by omega)), fun h => inv_intro (j + 1) (by omega) (by omega) ?_⟩, fun hge => ?_⟩
        · simp only [Chk, chkFr, chkBx, chkBx1, newIn, hasB, idsLt, kept, vs_int, vs_bool, vs_nil, vs_own, vs_ptr, vs_cons, vs_func, vs_view, Nat.lt_irrefl, fget, isLB, bget, vsubP_self, ↓reduceIte, reduceCtorEq, Nat.reduceEqDiff, Nat.reduceLT, and_true, true_and, and_self, forall_const, implies_true, Option.some.injEq, Val.int.injEq, exists_eq', false_implies, or_false]
          rw [wrS (by omega)]
        clear hj hge
        refine loopI (ι := Nat) (fun j => j ≤ a.1 ∧ ∀ i < j, In x (tellF k day (a.2 i))) (fun j => a.1 - j) [1, 2, 9, 10] (fun j => [(11, .int .i64 j)]) (fun _ => []) 0 ⟨by omega, fun _ h => by omega⟩ (by simp only [Chk, chkFr, chkBx, chkBx1, hasB, idsLt, kept, vs_int, vs_nil, vs_ptr, vs_cons, vs_view, fget, isLB, bget, vsubP_self, ↓reduceIte, reduceCtorEq, Nat.reduceEqDiff, Nat.reduceLT, Int.cast_ofNat_Int, and_self, forall_const, implies_true, Option.some.injEq, exists_eq', keepF, appF, updB]; try rfl) fun j hj => ?_
        obtain ⟨hj1, hj2⟩ := hj
        simp (config := { maxSteps := 4000000 }) only [w1, w4, ↓imp_tt, ↓imp_tf, ↓imp_ft, ↓imp_ff, runO_3, runO_4, runO_5, runO_6, runO_8, runO_9, runO_14, runO_15, runO_16, runO_17, runO_18, runO_19, aop, binV, ends, reOk, Nat.zero_sub, ev, fget, fput, params, cellsOf, cellsN, isLB, vget, vset, vsets, vlen, bget, bset, addB, addN, mkv, sliceV, vtab, frz, opOwns, skipOp, WfT, resV, res1, casts, castOks, cast1, castOk, norm, norm1, normL, pureB, pureL, onesB, snapV, snapOk, specV, argsL, capsL, mkE_S, mkE_I, lkp, pickV, lenV, popTo, stkFr, Val.toInt, ↓reduceIte, reduceCtorEq, Nat.reduceEqDiff, Nat.reduceAdd, Nat.reduceSub, Nat.reduceLeDiff, Nat.zero_add, Nat.add_zero, Nat.sub_zero, beq_iff_eq, beq_eq_false_iff_ne, List.length_cons, List.length_nil, List.nil_append, List.cons_append, List.append_nil, Bool.and_self, Bool.bne_false, bne_self_eq_false, Bool.not_true, Bool.not_false, true_and, and_self, and_assoc, forall_const, imp_self, implies_true, Nat.le_refl, decide_eq_true_eq, decide_eq_false_iff_not, ne_eq, maxLen, Nat.reducePow, keepF, appF, updB, inat, Sp.c0, Sp.c1, Tl.c0, Tl.c1, Tl.c2, Tl.c3, Tl.c4]
        have ht := hA1 j
        have hnm := hc.nm
        have hstep : j < a.1 → In x (tellF k day (a.2 j)) → j + 1 ≤ a.1 ∧ ∀ i < j + 1, In x (tellF k day (a.2 i)) := fun h h2 => ⟨h, fun i hi => by
          rcases Nat.lt_or_ge i j with h5 | h5
          · exact hj2 i h5
          · obtain rfl : i = j := by omega
            exact h2⟩
        refine ⟨fun hlt => ?_, fun hge => ?_⟩
        · replace ht := ht (by omega)
          refine ⟨by omega, by omega, fun h1 => ?_, fun h1 => ⟨fun h2 => ?_, fun h2 h3 => ?_⟩⟩
          · obtain ⟨_, g4, g5⟩ : (a.2 j).kind = 1 ∧ 0 ≤ (a.2 j).which ∧ (a.2 j).which < k.mrk.1 := by unfold TlOk at ht; omega
            have hm := hmb (a.2 j).which.toNat (by omega)
            have e1 : IntKind.i64.wrap (1000 * (k.mrk.2 (a.2 j).which.toNat).lo) = 1000 * (k.mrk.2 (a.2 j).which.toNat).lo := wr64 (by omega) (by omega)
            have e2 : IntKind.i64.wrap (1000 * (k.mrk.2 (a.2 j).which.toNat).hi) = 1000 * (k.mrk.2 (a.2 j).which.toNat).hi := wr64 (by omega) (by omega)
            rw [e1, e2]
            refine ⟨by omega, by omega, fun h4 h5 => inv_intro (j + 1) (hstep (by omega) ?_) (by omega) ?_⟩
            · simp only [In, tellF, h1, if_true]; omega
            · simp only [Chk, chkFr, chkBx, chkBx1, hasB, idsLt, kept, vs_int, vs_nil, vs_ptr, vs_cons, vs_view, Nat.lt_irrefl, fget, isLB, bget, vsubP_self, ↓reduceIte, reduceCtorEq, Nat.reduceEqDiff, Nat.reduceLT, and_true, true_and, and_self, forall_const, implies_true, Option.some.injEq, Val.int.injEq, exists_eq', false_implies]
              rw [wrS (by omega)]
          · obtain ⟨_, g4, g5⟩ : (a.2 j).kind = 2 ∧ 0 ≤ (a.2 j).which ∧ (a.2 j).which + 1 < k.mrk.1 := by unfold TlOk at ht; omega
            have hm := hmb (a.2 j).which.toNat (by omega)
            have hm2 := hmb ((a.2 j).which.toNat + 1) (by omega)
            have e1 : IntKind.i64.wrap (1000 * (k.mrk.2 (a.2 j).which.toNat).lo) = 1000 * (k.mrk.2 (a.2 j).which.toNat).lo := wr64 (by omega) (by omega)
            have e3 : IntKind.i64.wrap ((a.2 j).which + 1) = (a.2 j).which + 1 := wr64 (by omega) (by omega)
            have e4 : ((a.2 j).which + 1).toNat = (a.2 j).which.toNat + 1 := by omega
            have e2 : IntKind.i64.wrap (1000 * (k.mrk.2 ((a.2 j).which.toNat + 1)).hi) = 1000 * (k.mrk.2 ((a.2 j).which.toNat + 1)).hi := wr64 (by omega) (by omega)
            rw [e3, e4, e1, e2]
            refine ⟨by omega, by omega, by omega, by omega, fun h4 h5 => inv_intro (j + 1) (hstep (by omega) ?_) (by omega) ?_⟩
            · simp only [In, tellF]; rw [if_neg h1, if_pos h2]; simp only; omega
            · simp only [Chk, chkFr, chkBx, chkBx1, hasB, idsLt, kept, vs_int, vs_nil, vs_ptr, vs_cons, vs_view, Nat.lt_irrefl, fget, isLB, bget, vsubP_self, ↓reduceIte, reduceCtorEq, Nat.reduceEqDiff, Nat.reduceLT, and_true, true_and, and_self, forall_const, implies_true, Option.some.injEq, Val.int.injEq, exists_eq', false_implies]
              rw [wrS (by omega)]
          · have h4 : SpIn (a.2 j).word (-100000) 100000 := by
              unfold TlOk at ht
              rcases ht with h0 | h0 | h0 | h0
              · exact absurd h0.1 h1
              · exact absurd h0.1 h2
              · exact absurd h0.1 h3
              · exact h0.2
            have hs := spin_of h4
            have e1 : IntKind.i64.wrap (1000 * (a.2 j).word.lo) = 1000 * (a.2 j).word.lo := wr64 (by omega) (by omega)
            have e2 : IntKind.i64.wrap (1000 * (a.2 j).word.hi) = 1000 * (a.2 j).word.hi := wr64 (by omega) (by omega)
            rw [e1, e2]
            refine fun h4 h5 => inv_intro (j + 1) (hstep (by omega) ?_) (by omega) ?_
            · simp only [In, tellF]; rw [if_neg h1, if_neg h2, if_neg h3]; simp only; omega
            · simp only [Chk, chkFr, chkBx, chkBx1, hasB, idsLt, kept, vs_int, vs_nil, vs_ptr, vs_cons, vs_view, Nat.lt_irrefl, fget, isLB, bget, vsubP_self, ↓reduceIte, reduceCtorEq, Nat.reduceEqDiff, Nat.reduceLT, and_true, true_and, and_self, forall_const, implies_true, Option.some.injEq, Val.int.injEq, exists_eq', false_implies]
              rw [wrS (by omega)]
        have hx : In x A := by
          rw [← hA, allF_in]
          have h5 := hj2 0 (by omega)
          have h6 := (spfit_tell hc hd (hA1 0 hA2)).2
          exact ⟨by unfold In at h5; omega, fun i hi => hj2 i (by omega)⟩
        clear hj1 hj2 hge hstep ht
        refine loopI (ι := Nat) (fun j => j ≤ b.1 ∧ ∀ i < j, In y (tellF k day (b.2 i))) (fun j => b.1 - j) [1, 2, 9, 10] (fun j => [(11, .int .i64 j)]) (fun _ => []) 0 ⟨by omega, fun _ h => by omega⟩ (by simp only [Chk, chkFr, chkBx, chkBx1, hasB, idsLt, kept, vs_int, vs_nil, vs_ptr, vs_cons, vs_view, fget, isLB, bget, vsubP_self, ↓reduceIte, reduceCtorEq, Nat.reduceEqDiff, Nat.reduceLT, Int.cast_ofNat_Int, and_self, forall_const, implies_true, Option.some.injEq, exists_eq', keepF, appF, updB]; try rfl) fun j hj => ?_
        obtain ⟨hj1, hj2⟩ := hj
        simp (config := { maxSteps := 4000000 }) only [w1, ↓imp_tt, ↓imp_tf, ↓imp_ft, ↓imp_ff, runO_3, runO_4, runO_5, runO_6, runO_8, runO_9, runO_14, runO_16, runO_17, runO_18, runO_19, aop, binV, ends, reOk, Nat.zero_sub, ev, fget, fput, cellsOf, cellsN, isLB, vget, vset, vsets, vlen, bget, bset, addB, addN, mkv, sliceV, vtab, frz, opOwns, skipOp, WfT, resV, res1, casts, castOks, cast1, castOk, norm, norm1, normL, pureB, pureL, onesB, snapV, snapOk, specV, argsL, capsL, mkE_S, lkp, pickV, popTo, stkFr, Val.toInt, ↓reduceIte, reduceCtorEq, Nat.reduceEqDiff, Nat.reduceAdd, Nat.reduceSub, Nat.reduceLeDiff, Nat.zero_add, Nat.add_zero, Nat.sub_zero, Int.reduceBNe, beq_iff_eq, beq_eq_false_iff_ne, List.length_cons, List.length_nil, List.append_nil, Bool.and_self, Bool.bne_false, bne_self_eq_false, Bool.not_true, Bool.not_false, and_true, true_and, and_self, and_assoc, forall_const, imp_self, implies_true, Nat.le_refl, decide_eq_true_eq, decide_eq_false_iff_not, Val.bool.injEq, ne_eq, maxLen, Nat.reducePow, keepF, appF, updB, inat, Sp.c0, Sp.c1, Tl.c0, Tl.c1, Tl.c2, Tl.c3, Tl.c4]
        have ht := hB1 j
        have hnm := hc.nm
        have hstep : j < b.1 → In y (tellF k day (b.2 j)) → j + 1 ≤ b.1 ∧ ∀ i < j + 1, In y (tellF k day (b.2 i)) := fun h h2 => ⟨h, fun i hi => by
          rcases Nat.lt_or_ge i j with h5 | h5
          · exact hj2 i h5
          · obtain rfl : i = j := by omega
            exact h2⟩
        refine ⟨fun hlt => ?_, fun hge => ?_⟩
        · replace ht := ht (by omega)
          refine ⟨by omega, by omega, fun h1 => ?_, fun h1 => ⟨fun h2 => ?_, fun h2 h3 => ?_⟩⟩
          · obtain ⟨_, g4, g5⟩ : (b.2 j).kind = 1 ∧ 0 ≤ (b.2 j).which ∧ (b.2 j).which < k.mrk.1 := by unfold TlOk at ht; omega
            have hm := hmb (b.2 j).which.toNat (by omega)
            have e1 : IntKind.i64.wrap (1000 * (k.mrk.2 (b.2 j).which.toNat).lo) = 1000 * (k.mrk.2 (b.2 j).which.toNat).lo := wr64 (by omega) (by omega)
            have e2 : IntKind.i64.wrap (1000 * (k.mrk.2 (b.2 j).which.toNat).hi) = 1000 * (k.mrk.2 (b.2 j).which.toNat).hi := wr64 (by omega) (by omega)
            rw [e1, e2]
            refine ⟨by omega, by omega, fun h4 h5 => inv_intro (j + 1) (hstep (by omega) ?_) (by omega) ?_⟩
            · simp only [In, tellF, h1, if_true]; omega
            · simp only [Chk, chkFr, chkBx, chkBx1, hasB, idsLt, kept, vs_int, vs_nil, vs_ptr, vs_cons, vs_view, Nat.lt_irrefl, fget, isLB, bget, vsubP_self, ↓reduceIte, reduceCtorEq, Nat.reduceEqDiff, Nat.reduceLT, and_true, true_and, and_self, forall_const, implies_true, Option.some.injEq, Val.int.injEq, exists_eq', false_implies]
              rw [wrS (by omega)]
          · obtain ⟨_, g4, g5⟩ : (b.2 j).kind = 2 ∧ 0 ≤ (b.2 j).which ∧ (b.2 j).which + 1 < k.mrk.1 := by unfold TlOk at ht; omega
            have hm := hmb (b.2 j).which.toNat (by omega)
            have hm2 := hmb ((b.2 j).which.toNat + 1) (by omega)
            have e1 : IntKind.i64.wrap (1000 * (k.mrk.2 (b.2 j).which.toNat).lo) = 1000 * (k.mrk.2 (b.2 j).which.toNat).lo := wr64 (by omega) (by omega)
            have e3 : IntKind.i64.wrap ((b.2 j).which + 1) = (b.2 j).which + 1 := wr64 (by omega) (by omega)
            have e4 : ((b.2 j).which + 1).toNat = (b.2 j).which.toNat + 1 := by omega
            have e2 : IntKind.i64.wrap (1000 * (k.mrk.2 ((b.2 j).which.toNat + 1)).hi) = 1000 * (k.mrk.2 ((b.2 j).which.toNat + 1)).hi := wr64 (by omega) (by omega)
            rw [e3, e4, e1, e2]
            refine ⟨by omega, by omega, by omega, by omega, fun h4 h5 => inv_intro (j + 1) (hstep (by omega) ?_) (by omega) ?_⟩
            · simp only [In, tellF]; rw [if_neg h1, if_pos h2]; simp only; omega
            · simp only [Chk, chkFr, chkBx, chkBx1, hasB, idsLt, kept, vs_int, vs_nil, vs_ptr, vs_cons, vs_view, Nat.lt_irrefl, fget, isLB, bget, vsubP_self, ↓reduceIte, reduceCtorEq, Nat.reduceEqDiff, Nat.reduceLT, and_true, true_and, and_self, forall_const, implies_true, Option.some.injEq, Val.int.injEq, exists_eq', false_implies]
              rw [wrS (by omega)]
          · have h4 : SpIn (b.2 j).word (-100000) 100000 := by
              unfold TlOk at ht
              rcases ht with h0 | h0 | h0 | h0
              · exact absurd h0.1 h1
              · exact absurd h0.1 h2
              · exact absurd h0.1 h3
              · exact h0.2
            have hs := spin_of h4
            have e1 : IntKind.i64.wrap (1000 * (b.2 j).word.lo) = 1000 * (b.2 j).word.lo := wr64 (by omega) (by omega)
            have e2 : IntKind.i64.wrap (1000 * (b.2 j).word.hi) = 1000 * (b.2 j).word.hi := wr64 (by omega) (by omega)
            rw [e1, e2]
            refine fun h4 h5 => inv_intro (j + 1) (hstep (by omega) ?_) (by omega) ?_
            · simp only [In, tellF]; rw [if_neg h1, if_neg h2, if_neg h3]; simp only; omega
            · simp only [Chk, chkFr, chkBx, chkBx1, hasB, idsLt, kept, vs_int, vs_nil, vs_ptr, vs_cons, vs_view, Nat.lt_irrefl, fget, isLB, bget, vsubP_self, ↓reduceIte, reduceCtorEq, Nat.reduceEqDiff, Nat.reduceLT, and_true, true_and, and_self, forall_const, implies_true, Option.some.injEq, Val.int.injEq, exists_eq', false_implies]
              rw [wrS (by omega)]
        have hy : In y B := by
          rw [← hB, allF_in]
          have h5 := hj2 0 (by omega)
          have h6 := (spfit_tell hc hd (hB1 0 hB2)).2
          exact ⟨by unfold In at h5; omega, fun i hi => hj2 i (by omega)⟩
        clear hj1 hj2 hge hstep ht
        unfold In at hx hy
        omega
      · skip
        have c1 : ((minsF A).lo ≥ (minsF B).hi + 1) = False := eq_false (by omega)
        have c2 : ((minsF A).hi < (minsF B).lo) = False := eq_false (by omega)
        have c3 : ((minsF A).lo > (minsF B).hi) = False := eq_false q4
        simp (config := { maxSteps := 4000000 }) only [RunTo, a13, sAlive, sReady, sBefR, sAllA, hd0, fa, fb, e1, e2, tA, tB, c2, c3, w1, w2, w3, w4, eq_self, Nat.not_lt_zero, Tl.w_c, Tl.ite_c, Int.reduceGT, ↓imp_tt, ↓imp_tf, ↓imp_ft, ↓imp_ff, runO_4, runO_5, runO_6, runO_14, runO_15, runO_17, runO_18, runO_19, aop, binV, reOk, Nat.zero_sub, ev, evs, fget, fput, params, cellsOf, cellsN, isLB, vget, vset, vsets, vlen, bget, bset, addB, addN, mkv, sliceV, vtab, rowsV, rowsOk, vrep, frz, opOwns, skipOp, WfT, norm, norms, norm1, normL, pureB, pureL, onesB, specV, argsL, capsL, mkE_S, mkE_G, lkp, pickV, lenV, subFr, subV, subBx, subStk, elemsV, Fin, vp_bool, Val.toInt, Val.slen, Val.scell, ↓reduceIte, reduceCtorEq, Nat.reduceEqDiff, Nat.reduceAdd, Nat.reduceSub, Nat.reduceLeDiff, Nat.reduceLT, Nat.zero_add, Nat.add_zero, Nat.sub_zero, Int.reduceBEq, decide_false, List.length_cons, List.length_nil, List.append_nil, List.flatMap_nil, Bool.and_self, Bool.bne_true, bne_self_eq_false, Bool.not_true, Bool.not_false, beq_self_eq_true, and_true, true_and, and_self, and_assoc, forall_const, imp_self, implies_true, Nat.le_refl, or_false, maxLen, Nat.reducePow, spec0, spec2, spec3, spec4, TSl, IsSl, TInt, IsInt, Prod.eta, Sp.L, Sp.c0, Sp.c1, RSp, Sp.w_c, Sp.d, Sp.eta, Sr.c0, Sr.c1, Sr.c2, Sr.c3, RSr, Sr.w_c, Sr.d, Sr.eta, Tl.c0, Tl.c1, Tl.c2, Tl.c3, Tl.c4, RTl, Tl.w_c, Tl.d, Tl.eta, Ck.L, Ck.Is, Ck.of, TCk, Ck.d, Ck.eta]
        refine ⟨by omega, by omega, by omega, ?_⟩
        refine loopI (ι := Nat) (fun j => j ≤ a.1 + b.1) (fun j => a.1 + b.1 - j) [2, 3, 4, 5, 6, 13, 14, 22, 162, 163] (fun j => [(164, .int .i64 j)]) (fun _ => [(3, .row 29 5 (a.1 + b.1) fun i j => (appL a b i).c j)]) 0 (by omega) (by simp only [Chk, chkFr, chkBx, chkBx1, newIn, hasB, idsLt, kept, vs_int, vs_bool, vs_nil, vs_own, vs_ptr, vs_cons, vs_func, vs_view, fget, isLB, bget, bset, vsubP_self, ↓reduceIte, reduceCtorEq, Nat.reduceEqDiff, Nat.reduceLT, Int.cast_ofNat_Int, and_true, true_and, and_self, forall_const, implies_true, Option.some.injEq, exists_eq', or_false, keepF, appF, updB]; exact fun i _ j _ => (vsubP_self _).mpr trivial) fun j hj => ?_
        simp only [a50, sTelling, sSpanL, w1, w2, w3, runO_3, runO_4, runO_5, runO_6, runO_8, runO_9, runO_14, runO_15, runO_16, runO_17, runO_18, runO_19, aop, binV, ends, reOk, Nat.zero_sub, ev, fget, fput, params, cellsOf, cellsN, isLB, vget, vset, vsets, vlen, bget, bset, addB, addN, mkv, sliceV, vtab, frz, opOwns, skipOp, WfT, resV, res1, casts, castOks, cast1, castOk, norm, norms, norm1, normL, pureB, pureL, onesB, snapV, snapOk, specV, argsL, capsL, mkE_S, mkE_I, lkp, lenV, popTo, stkFr, Val.toInt, Val.slen, Val.scell, ↓reduceIte, reduceCtorEq, Nat.reduceEqDiff, Nat.reduceAdd, Nat.reduceSub, Nat.zero_add, Nat.add_zero, List.length_cons, List.length_nil, List.nil_append, List.cons_append, List.append_nil, Bool.not_eq_true', Bool.not_eq_false', Bool.and_self, Bool.false_eq_true, and_true, true_and, and_self, and_assoc, forall_const, imp_self, implies_true, Nat.le_refl, decide_eq_true_eq, decide_eq_false_iff_not, Val.bool.injEq, maxLen, Nat.reducePow, keepF, appF, updB, inat, spec2, TInt, IsInt, Prod.eta, Sp.L, Sp.c0, Sp.c1, RSp, Sp.w_c, Sp.d, Sp.eta, Sr.c0, Sr.c1, Sr.c2, Sr.c3, RSr, Sr.w_c, Sr.d, Sr.eta, Tl.L, Tl.c0, Tl.c1, Tl.c2, Tl.c3, Tl.c4, Tl.Is, Tl.of, TTl, Tl.d, Tl.eta, Ck.L, Ck.Is, Ck.of, TCk, Ck.d, Ck.eta]
        refine ⟨fun hlt => ⟨by omega, by omega, fun h => of_decide_eq_false h (hok j (by omega)), fun h => inv_intro (j + 1) (by omega) (by omega) ?_⟩, fun hge => ?_⟩
        · simp only [Chk, chkFr, chkBx, chkBx1, newIn, hasB, idsLt, kept, vs_int, vs_bool, vs_nil, vs_own, vs_ptr, vs_cons, vs_func, vs_view, Nat.lt_irrefl, fget, isLB, bget, vsubP_self, ↓reduceIte, reduceCtorEq, Nat.reduceEqDiff, Nat.reduceLT, and_true, true_and, and_self, forall_const, implies_true, Option.some.injEq, Val.int.injEq, exists_eq', false_implies, or_false]
          rw [wrS (by omega)]
        clear hj hge
        refine loopI (ι := Nat) (fun j => j ≤ a.1 ∧ ∀ i < j, In x (tellF k day (a.2 i))) (fun j => a.1 - j) [1, 2, 9, 10] (fun j => [(11, .int .i64 j)]) (fun _ => []) 0 ⟨by omega, fun _ h => by omega⟩ (by simp only [Chk, chkFr, chkBx, chkBx1, hasB, idsLt, kept, vs_int, vs_nil, vs_ptr, vs_cons, vs_view, fget, isLB, bget, vsubP_self, ↓reduceIte, reduceCtorEq, Nat.reduceEqDiff, Nat.reduceLT, Int.cast_ofNat_Int, and_self, forall_const, implies_true, Option.some.injEq, exists_eq', keepF, appF, updB]; try rfl) fun j hj => ?_
        obtain ⟨hj1, hj2⟩ := hj
        simp (config := { maxSteps := 4000000 }) only [w1, w4, ↓imp_tt, ↓imp_tf, ↓imp_ft, ↓imp_ff, runO_3, runO_4, runO_5, runO_6, runO_8, runO_9, runO_14, runO_15, runO_16, runO_17, runO_18, runO_19, aop, binV, ends, reOk, Nat.zero_sub, ev, fget, fput, params, cellsOf, cellsN, isLB, vget, vset, vsets, vlen, bget, bset, addB, addN, mkv, sliceV, vtab, frz, opOwns, skipOp, WfT, resV, res1, casts, castOks, cast1, castOk, norm, norm1, normL, pureB, pureL, onesB, snapV, snapOk, specV, argsL, capsL, mkE_S, mkE_I, lkp, pickV, lenV, popTo, stkFr, Val.toInt, ↓reduceIte, reduceCtorEq, Nat.reduceEqDiff, Nat.reduceAdd, Nat.reduceSub, Nat.reduceLeDiff, Nat.zero_add, Nat.add_zero, Nat.sub_zero, beq_iff_eq, beq_eq_false_iff_ne, List.length_cons, List.length_nil, List.nil_append, List.cons_append, List.append_nil, Bool.and_self, Bool.bne_false, bne_self_eq_false, Bool.not_true, Bool.not_false, true_and, and_self, and_assoc, forall_const, imp_self, implies_true, Nat.le_refl, decide_eq_true_eq, decide_eq_false_iff_not, ne_eq, maxLen, Nat.reducePow, keepF, appF, updB, inat, Sp.c0, Sp.c1, Tl.c0, Tl.c1, Tl.c2, Tl.c3, Tl.c4]
        have ht := hA1 j
        have hnm := hc.nm
        have hstep : j < a.1 → In x (tellF k day (a.2 j)) → j + 1 ≤ a.1 ∧ ∀ i < j + 1, In x (tellF k day (a.2 i)) := fun h h2 => ⟨h, fun i hi => by
          rcases Nat.lt_or_ge i j with h5 | h5
          · exact hj2 i h5
          · obtain rfl : i = j := by omega
            exact h2⟩
        refine ⟨fun hlt => ?_, fun hge => ?_⟩
        · replace ht := ht (by omega)
          refine ⟨by omega, by omega, fun h1 => ?_, fun h1 => ⟨fun h2 => ?_, fun h2 h3 => ?_⟩⟩
          · obtain ⟨_, g4, g5⟩ : (a.2 j).kind = 1 ∧ 0 ≤ (a.2 j).which ∧ (a.2 j).which < k.mrk.1 := by unfold TlOk at ht; omega
            have hm := hmb (a.2 j).which.toNat (by omega)
            have e1 : IntKind.i64.wrap (1000 * (k.mrk.2 (a.2 j).which.toNat).lo) = 1000 * (k.mrk.2 (a.2 j).which.toNat).lo := wr64 (by omega) (by omega)
            have e2 : IntKind.i64.wrap (1000 * (k.mrk.2 (a.2 j).which.toNat).hi) = 1000 * (k.mrk.2 (a.2 j).which.toNat).hi := wr64 (by omega) (by omega)
            rw [e1, e2]
            refine ⟨by omega, by omega, fun h4 h5 => inv_intro (j + 1) (hstep (by omega) ?_) (by omega) ?_⟩
            · simp only [In, tellF, h1, if_true]; omega
            · simp only [Chk, chkFr, chkBx, chkBx1, hasB, idsLt, kept, vs_int, vs_nil, vs_ptr, vs_cons, vs_view, Nat.lt_irrefl, fget, isLB, bget, vsubP_self, ↓reduceIte, reduceCtorEq, Nat.reduceEqDiff, Nat.reduceLT, and_true, true_and, and_self, forall_const, implies_true, Option.some.injEq, Val.int.injEq, exists_eq', false_implies]
              rw [wrS (by omega)]
          · obtain ⟨_, g4, g5⟩ : (a.2 j).kind = 2 ∧ 0 ≤ (a.2 j).which ∧ (a.2 j).which + 1 < k.mrk.1 := by unfold TlOk at ht; omega
            have hm := hmb (a.2 j).which.toNat (by omega)
            have hm2 := hmb ((a.2 j).which.toNat + 1) (by omega)
            have e1 : IntKind.i64.wrap (1000 * (k.mrk.2 (a.2 j).which.toNat).lo) = 1000 * (k.mrk.2 (a.2 j).which.toNat).lo := wr64 (by omega) (by omega)
            have e3 : IntKind.i64.wrap ((a.2 j).which + 1) = (a.2 j).which + 1 := wr64 (by omega) (by omega)
            have e4 : ((a.2 j).which + 1).toNat = (a.2 j).which.toNat + 1 := by omega
            have e2 : IntKind.i64.wrap (1000 * (k.mrk.2 ((a.2 j).which.toNat + 1)).hi) = 1000 * (k.mrk.2 ((a.2 j).which.toNat + 1)).hi := wr64 (by omega) (by omega)
            rw [e3, e4, e1, e2]
            refine ⟨by omega, by omega, by omega, by omega, fun h4 h5 => inv_intro (j + 1) (hstep (by omega) ?_) (by omega) ?_⟩
            · simp only [In, tellF]; rw [if_neg h1, if_pos h2]; simp only; omega
            · simp only [Chk, chkFr, chkBx, chkBx1, hasB, idsLt, kept, vs_int, vs_nil, vs_ptr, vs_cons, vs_view, Nat.lt_irrefl, fget, isLB, bget, vsubP_self, ↓reduceIte, reduceCtorEq, Nat.reduceEqDiff, Nat.reduceLT, and_true, true_and, and_self, forall_const, implies_true, Option.some.injEq, Val.int.injEq, exists_eq', false_implies]
              rw [wrS (by omega)]
          · have h4 : SpIn (a.2 j).word (-100000) 100000 := by
              unfold TlOk at ht
              rcases ht with h0 | h0 | h0 | h0
              · exact absurd h0.1 h1
              · exact absurd h0.1 h2
              · exact absurd h0.1 h3
              · exact h0.2
            have hs := spin_of h4
            have e1 : IntKind.i64.wrap (1000 * (a.2 j).word.lo) = 1000 * (a.2 j).word.lo := wr64 (by omega) (by omega)
            have e2 : IntKind.i64.wrap (1000 * (a.2 j).word.hi) = 1000 * (a.2 j).word.hi := wr64 (by omega) (by omega)
            rw [e1, e2]
            refine fun h4 h5 => inv_intro (j + 1) (hstep (by omega) ?_) (by omega) ?_
            · simp only [In, tellF]; rw [if_neg h1, if_neg h2, if_neg h3]; simp only; omega
            · simp only [Chk, chkFr, chkBx, chkBx1, hasB, idsLt, kept, vs_int, vs_nil, vs_ptr, vs_cons, vs_view, Nat.lt_irrefl, fget, isLB, bget, vsubP_self, ↓reduceIte, reduceCtorEq, Nat.reduceEqDiff, Nat.reduceLT, and_true, true_and, and_self, forall_const, implies_true, Option.some.injEq, Val.int.injEq, exists_eq', false_implies]
              rw [wrS (by omega)]
        have hx : In x A := by
          rw [← hA, allF_in]
          have h5 := hj2 0 (by omega)
          have h6 := (spfit_tell hc hd (hA1 0 hA2)).2
          exact ⟨by unfold In at h5; omega, fun i hi => hj2 i (by omega)⟩
        clear hj1 hj2 hge hstep ht
        refine loopI (ι := Nat) (fun j => j ≤ b.1 ∧ ∀ i < j, In y (tellF k day (b.2 i))) (fun j => b.1 - j) [1, 2, 9, 10] (fun j => [(11, .int .i64 j)]) (fun _ => []) 0 ⟨by omega, fun _ h => by omega⟩ (by simp only [Chk, chkFr, chkBx, chkBx1, hasB, idsLt, kept, vs_int, vs_nil, vs_ptr, vs_cons, vs_view, fget, isLB, bget, vsubP_self, ↓reduceIte, reduceCtorEq, Nat.reduceEqDiff, Nat.reduceLT, Int.cast_ofNat_Int, and_self, forall_const, implies_true, Option.some.injEq, exists_eq', keepF, appF, updB]; try rfl) fun j hj => ?_
        obtain ⟨hj1, hj2⟩ := hj
        simp (config := { maxSteps := 4000000 }) only [w1, ↓imp_tt, ↓imp_tf, ↓imp_ft, ↓imp_ff, runO_3, runO_4, runO_5, runO_6, runO_8, runO_9, runO_14, runO_16, runO_17, runO_18, runO_19, aop, binV, ends, reOk, Nat.zero_sub, ev, fget, fput, cellsOf, cellsN, isLB, vget, vset, vsets, vlen, bget, bset, addB, addN, mkv, sliceV, vtab, frz, opOwns, skipOp, WfT, resV, res1, casts, castOks, cast1, castOk, norm, norm1, normL, pureB, pureL, onesB, snapV, snapOk, specV, argsL, capsL, mkE_S, lkp, pickV, popTo, stkFr, Val.toInt, ↓reduceIte, reduceCtorEq, Nat.reduceEqDiff, Nat.reduceAdd, Nat.reduceSub, Nat.reduceLeDiff, Nat.zero_add, Nat.add_zero, Nat.sub_zero, Int.reduceBNe, beq_iff_eq, beq_eq_false_iff_ne, List.length_cons, List.length_nil, List.append_nil, Bool.and_self, Bool.bne_false, bne_self_eq_false, Bool.not_true, Bool.not_false, and_true, true_and, and_self, and_assoc, forall_const, imp_self, implies_true, Nat.le_refl, decide_eq_true_eq, decide_eq_false_iff_not, Val.bool.injEq, ne_eq, maxLen, Nat.reducePow, keepF, appF, updB, inat, Sp.c0, Sp.c1, Tl.c0, Tl.c1, Tl.c2, Tl.c3, Tl.c4]
        have ht := hB1 j
        have hnm := hc.nm
        have hstep : j < b.1 → In y (tellF k day (b.2 j)) → j + 1 ≤ b.1 ∧ ∀ i < j + 1, In y (tellF k day (b.2 i)) := fun h h2 => ⟨h, fun i hi => by
          rcases Nat.lt_or_ge i j with h5 | h5
          · exact hj2 i h5
          · obtain rfl : i = j := by omega
            exact h2⟩
        refine ⟨fun hlt => ?_, fun hge => ?_⟩
        · replace ht := ht (by omega)
          refine ⟨by omega, by omega, fun h1 => ?_, fun h1 => ⟨fun h2 => ?_, fun h2 h3 => ?_⟩⟩
          · obtain ⟨_, g4, g5⟩ : (b.2 j).kind = 1 ∧ 0 ≤ (b.2 j).which ∧ (b.2 j).which < k.mrk.1 := by unfold TlOk at ht; omega
            have hm := hmb (b.2 j).which.toNat (by omega)
            have e1 : IntKind.i64.wrap (1000 * (k.mrk.2 (b.2 j).which.toNat).lo) = 1000 * (k.mrk.2 (b.2 j).which.toNat).lo := wr64 (by omega) (by omega)
            have e2 : IntKind.i64.wrap (1000 * (k.mrk.2 (b.2 j).which.toNat).hi) = 1000 * (k.mrk.2 (b.2 j).which.toNat).hi := wr64 (by omega) (by omega)
            rw [e1, e2]
            refine ⟨by omega, by omega, fun h4 h5 => inv_intro (j + 1) (hstep (by omega) ?_) (by omega) ?_⟩
            · simp only [In, tellF, h1, if_true]; omega
            · simp only [Chk, chkFr, chkBx, chkBx1, hasB, idsLt, kept, vs_int, vs_nil, vs_ptr, vs_cons, vs_view, Nat.lt_irrefl, fget, isLB, bget, vsubP_self, ↓reduceIte, reduceCtorEq, Nat.reduceEqDiff, Nat.reduceLT, and_true, true_and, and_self, forall_const, implies_true, Option.some.injEq, Val.int.injEq, exists_eq', false_implies]
              rw [wrS (by omega)]
          · obtain ⟨_, g4, g5⟩ : (b.2 j).kind = 2 ∧ 0 ≤ (b.2 j).which ∧ (b.2 j).which + 1 < k.mrk.1 := by unfold TlOk at ht; omega
            have hm := hmb (b.2 j).which.toNat (by omega)
            have hm2 := hmb ((b.2 j).which.toNat + 1) (by omega)
            have e1 : IntKind.i64.wrap (1000 * (k.mrk.2 (b.2 j).which.toNat).lo) = 1000 * (k.mrk.2 (b.2 j).which.toNat).lo := wr64 (by omega) (by omega)
            have e3 : IntKind.i64.wrap ((b.2 j).which + 1) = (b.2 j).which + 1 := wr64 (by omega) (by omega)
            have e4 : ((b.2 j).which + 1).toNat = (b.2 j).which.toNat + 1 := by omega
            have e2 : IntKind.i64.wrap (1000 * (k.mrk.2 ((b.2 j).which.toNat + 1)).hi) = 1000 * (k.mrk.2 ((b.2 j).which.toNat + 1)).hi := wr64 (by omega) (by omega)
            rw [e3, e4, e1, e2]
            refine ⟨by omega, by omega, by omega, by omega, fun h4 h5 => inv_intro (j + 1) (hstep (by omega) ?_) (by omega) ?_⟩
            · simp only [In, tellF]; rw [if_neg h1, if_pos h2]; simp only; omega
            · simp only [Chk, chkFr, chkBx, chkBx1, hasB, idsLt, kept, vs_int, vs_nil, vs_ptr, vs_cons, vs_view, Nat.lt_irrefl, fget, isLB, bget, vsubP_self, ↓reduceIte, reduceCtorEq, Nat.reduceEqDiff, Nat.reduceLT, and_true, true_and, and_self, forall_const, implies_true, Option.some.injEq, Val.int.injEq, exists_eq', false_implies]
              rw [wrS (by omega)]
          · have h4 : SpIn (b.2 j).word (-100000) 100000 := by
              unfold TlOk at ht
              rcases ht with h0 | h0 | h0 | h0
              · exact absurd h0.1 h1
              · exact absurd h0.1 h2
              · exact absurd h0.1 h3
              · exact h0.2
            have hs := spin_of h4
            have e1 : IntKind.i64.wrap (1000 * (b.2 j).word.lo) = 1000 * (b.2 j).word.lo := wr64 (by omega) (by omega)
            have e2 : IntKind.i64.wrap (1000 * (b.2 j).word.hi) = 1000 * (b.2 j).word.hi := wr64 (by omega) (by omega)
            rw [e1, e2]
            refine fun h4 h5 => inv_intro (j + 1) (hstep (by omega) ?_) (by omega) ?_
            · simp only [In, tellF]; rw [if_neg h1, if_neg h2, if_neg h3]; simp only; omega
            · simp only [Chk, chkFr, chkBx, chkBx1, hasB, idsLt, kept, vs_int, vs_nil, vs_ptr, vs_cons, vs_view, Nat.lt_irrefl, fget, isLB, bget, vsubP_self, ↓reduceIte, reduceCtorEq, Nat.reduceEqDiff, Nat.reduceLT, and_true, true_and, and_self, forall_const, implies_true, Option.some.injEq, Val.int.injEq, exists_eq', false_implies]
              rw [wrS (by omega)]
        have hy : In y B := by
          rw [← hB, allF_in]
          have h5 := hj2 0 (by omega)
          have h6 := (spfit_tell hc hd (hB1 0 hB2)).2
          exact ⟨by unfold In at h5; omega, fun i hi => hj2 i (by omega)⟩
        clear hj1 hj2 hge hstep ht
        unfold In at hx hy
        omega
    · rw [if_neg q3] at e1
      obtain ⟨v2, e2'⟩ : ∃ v2 : Int, (if B.hi < A.lo then 2 else if B.lo ≥ A.hi then 0 else 1 : Int) = v2 := ⟨_, rfl⟩
      rw [e2'] at e2
      have c1 : ((minsF A).lo ≥ (minsF B).hi + 1) = False := eq_false (by omega)
      have c2 : ((minsF A).hi < (minsF B).lo) = False := eq_false (by omega)
      have c3 : ((minsF A).lo > (minsF B).hi) = False := eq_false (by omega)
      simp (config := { maxSteps := 4000000 }) only [RunTo, a13, sAlive, sReady, sBefR, sAllA, hd0, fa, fb, e1, e2, tA, tB, c2, c3, w1, w2, w3, w4, eq_self, Nat.not_lt_zero, Tl.w_c, Tl.ite_c, Int.reduceGT, ↓imp_ft, ↓imp_ff, runO_4, runO_5, runO_6, runO_14, runO_15, runO_17, runO_18, runO_19, aop, binV, reOk, Nat.zero_sub, ev, evs, fget, fput, params, cellsOf, cellsN, isLB, vget, vset, vsets, vlen, bget, bset, addB, addN, mkv, sliceV, vtab, rowsV, rowsOk, vrep, frz, opOwns, skipOp, WfT, norm, norms, norm1, normL, pureB, pureL, onesB, specV, argsL, capsL, mkE_S, mkE_G, lkp, pickV, lenV, subFr, subV, subBx, subStk, elemsV, Fin, vp_bool, Val.toInt, Val.slen, Val.scell, ↓reduceIte, reduceCtorEq, Nat.reduceEqDiff, Nat.reduceAdd, Nat.reduceSub, Nat.reduceLeDiff, Nat.reduceLT, Nat.zero_add, Nat.add_zero, Nat.sub_zero, Int.reduceBEq, decide_false, List.length_cons, List.length_nil, List.append_nil, List.flatMap_nil, Bool.and_self, Bool.bne_true, bne_self_eq_false, Bool.not_true, Bool.not_false, and_true, true_and, and_self, and_assoc, forall_const, imp_self, implies_true, Nat.le_refl, or_false, maxLen, Nat.reducePow, spec0, spec2, spec3, spec4, TSl, IsSl, TInt, IsInt, Prod.eta, Sp.L, Sp.c0, Sp.c1, RSp, Sp.w_c, Sp.d, Sp.eta, Sr.c0, Sr.c1, Sr.c2, Sr.c3, RSr, Sr.w_c, Sr.d, Sr.eta, Tl.c0, Tl.c1, Tl.c2, Tl.c3, Tl.c4, RTl, Tl.w_c, Tl.d, Tl.eta, Ck.L, Ck.Is, Ck.of, TCk, Ck.d, Ck.eta]
      refine ⟨by omega, by omega, by omega, ?_⟩
      refine loopI (ι := Nat) (fun j => j ≤ a.1 + b.1) (fun j => a.1 + b.1 - j) [2, 3, 4, 5, 6, 13, 14, 22, 162, 163] (fun j => [(164, .int .i64 j)]) (fun _ => [(3, .row 29 5 (a.1 + b.1) fun i j => (appL a b i).c j)]) 0 (by omega) (by simp only [Chk, chkFr, chkBx, chkBx1, newIn, hasB, idsLt, kept, vs_int, vs_bool, vs_nil, vs_own, vs_ptr, vs_cons, vs_func, vs_view, fget, isLB, bget, bset, vsubP_self, ↓reduceIte, reduceCtorEq, Nat.reduceEqDiff, Nat.reduceLT, Int.cast_ofNat_Int, and_true, true_and, and_self, forall_const, implies_true, Option.some.injEq, exists_eq', or_false, keepF, appF, updB]; exact fun i _ j _ => (vsubP_self _).mpr trivial) fun j hj => ?_
      simp only [a50, sTelling, sSpanL, w1, w2, w3, runO_3, runO_4, runO_5, runO_6, runO_8, runO_9, runO_14, runO_15, runO_16, runO_17, runO_18, runO_19, aop, binV, ends, reOk, Nat.zero_sub, ev, fget, fput, params, cellsOf, cellsN, isLB, vget, vset, vsets, vlen, bget, bset, addB, addN, mkv, sliceV, vtab, frz, opOwns, skipOp, WfT, resV, res1, casts, castOks, cast1, castOk, norm, norms, norm1, normL, pureB, pureL, onesB, snapV, snapOk, specV, argsL, capsL, mkE_S, mkE_I, lkp, lenV, popTo, stkFr, Val.toInt, Val.slen, Val.scell, ↓reduceIte, reduceCtorEq, Nat.reduceEqDiff, Nat.reduceAdd, Nat.reduceSub, Nat.zero_add, Nat.add_zero, List.length_cons, List.length_nil, List.nil_append, List.cons_append, List.append_nil, Bool.not_eq_true', Bool.not_eq_false', Bool.and_self, Bool.false_eq_true, and_true, true_and, and_self, and_assoc, forall_const, imp_self, implies_true, Nat.le_refl, decide_eq_true_eq, decide_eq_false_iff_not, Val.bool.injEq, maxLen, Nat.reducePow, keepF, appF, updB, inat, spec2, TInt, IsInt, Prod.eta, Sp.L, Sp.c0, Sp.c1, RSp, Sp.w_c, Sp.d, Sp.eta, Sr.c0, Sr.c1, Sr.c2, Sr.c3, RSr, Sr.w_c, Sr.d, Sr.eta, Tl.L, Tl.c0, Tl.c1, Tl.c2, Tl.c3, Tl.c4, Tl.Is, Tl.of, TTl, Tl.d, Tl.eta, Ck.L, Ck.Is, Ck.of, TCk, Ck.d, Ck.eta]
      refine ⟨fun hlt => ⟨by omega, by omega, fun h => of_decide_eq_false h (hok j (by omega)), fun h => inv_intro (j + 1) (by omega) (by omega) ?_⟩, fun hge => ?_⟩
      · simp only [Chk, chkFr, chkBx, chkBx1, newIn, hasB, idsLt, kept, vs_int, vs_bool, vs_nil, vs_own, vs_ptr, vs_cons, vs_func, vs_view, Nat.lt_irrefl, fget, isLB, bget, vsubP_self, ↓reduceIte, reduceCtorEq, Nat.reduceEqDiff, Nat.reduceLT, and_true, true_and, and_self, forall_const, implies_true, Option.some.injEq, Val.int.injEq, exists_eq', false_implies, or_false]
        rw [wrS (by omega)]
      clear hj hge
      refine loopI (ι := Nat) (fun j => j ≤ a.1 ∧ ∀ i < j, In x (tellF k day (a.2 i))) (fun j => a.1 - j) [1, 2, 9, 10] (fun j => [(11, .int .i64 j)]) (fun _ => []) 0 ⟨by omega, fun _ h => by omega⟩ (by simp only [Chk, chkFr, chkBx, chkBx1, hasB, idsLt, kept, vs_int, vs_nil, vs_ptr, vs_cons, vs_view, fget, isLB, bget, vsubP_self, ↓reduceIte, reduceCtorEq, Nat.reduceEqDiff, Nat.reduceLT, Int.cast_ofNat_Int, and_self, forall_const, implies_true, Option.some.injEq, exists_eq', keepF, appF, updB]; try rfl) fun j hj => ?_
      obtain ⟨hj1, hj2⟩ := hj
      simp (config := { maxSteps := 4000000 }) only [w1, w4, ↓imp_tt, ↓imp_tf, ↓imp_ft, ↓imp_ff, runO_3, runO_4, runO_5, runO_6, runO_8, runO_9, runO_14, runO_15, runO_16, runO_17, runO_18, runO_19, aop, binV, ends, reOk, Nat.zero_sub, ev, fget, fput, params, cellsOf, cellsN, isLB, vget, vset, vsets, vlen, bget, bset, addB, addN, mkv, sliceV, vtab, frz, opOwns, skipOp, WfT, resV, res1, casts, castOks, cast1, castOk, norm, norm1, normL, pureB, pureL, onesB, snapV, snapOk, specV, argsL, capsL, mkE_S, mkE_I, lkp, pickV, lenV, popTo, stkFr, Val.toInt, ↓reduceIte, reduceCtorEq, Nat.reduceEqDiff, Nat.reduceAdd, Nat.reduceSub, Nat.reduceLeDiff, Nat.zero_add, Nat.add_zero, Nat.sub_zero, beq_iff_eq, beq_eq_false_iff_ne, List.length_cons, List.length_nil, List.nil_append, List.cons_append, List.append_nil, Bool.and_self, Bool.bne_false, bne_self_eq_false, Bool.not_true, Bool.not_false, true_and, and_self, and_assoc, forall_const, imp_self, implies_true, Nat.le_refl, decide_eq_true_eq, decide_eq_false_iff_not, ne_eq, maxLen, Nat.reducePow, keepF, appF, updB, inat, Sp.c0, Sp.c1, Tl.c0, Tl.c1, Tl.c2, Tl.c3, Tl.c4]
      have ht := hA1 j
      have hnm := hc.nm
      have hstep : j < a.1 → In x (tellF k day (a.2 j)) → j + 1 ≤ a.1 ∧ ∀ i < j + 1, In x (tellF k day (a.2 i)) := fun h h2 => ⟨h, fun i hi => by
        rcases Nat.lt_or_ge i j with h5 | h5
        · exact hj2 i h5
        · obtain rfl : i = j := by omega
          exact h2⟩
      refine ⟨fun hlt => ?_, fun hge => ?_⟩
      · replace ht := ht (by omega)
        refine ⟨by omega, by omega, fun h1 => ?_, fun h1 => ⟨fun h2 => ?_, fun h2 h3 => ?_⟩⟩
        · obtain ⟨_, g4, g5⟩ : (a.2 j).kind = 1 ∧ 0 ≤ (a.2 j).which ∧ (a.2 j).which < k.mrk.1 := by unfold TlOk at ht; omega
          have hm := hmb (a.2 j).which.toNat (by omega)
          have e1 : IntKind.i64.wrap (1000 * (k.mrk.2 (a.2 j).which.toNat).lo) = 1000 * (k.mrk.2 (a.2 j).which.toNat).lo := wr64 (by omega) (by omega)
          have e2 : IntKind.i64.wrap (1000 * (k.mrk.2 (a.2 j).which.toNat).hi) = 1000 * (k.mrk.2 (a.2 j).which.toNat).hi := wr64 (by omega) (by omega)
          rw [e1, e2]
          refine ⟨by omega, by omega, fun h4 h5 => inv_intro (j + 1) (hstep (by omega) ?_) (by omega) ?_⟩
          · simp only [In, tellF, h1, if_true]; omega
          · simp only [Chk, chkFr, chkBx, chkBx1, hasB, idsLt, kept, vs_int, vs_nil, vs_ptr, vs_cons, vs_view, Nat.lt_irrefl, fget, isLB, bget, vsubP_self, ↓reduceIte, reduceCtorEq, Nat.reduceEqDiff, Nat.reduceLT, and_true, true_and, and_self, forall_const, implies_true, Option.some.injEq, Val.int.injEq, exists_eq', false_implies]
            rw [wrS (by omega)]
        · obtain ⟨_, g4, g5⟩ : (a.2 j).kind = 2 ∧ 0 ≤ (a.2 j).which ∧ (a.2 j).which + 1 < k.mrk.1 := by unfold TlOk at ht; omega
          have hm := hmb (a.2 j).which.toNat (by omega)
          have hm2 := hmb ((a.2 j).which.toNat + 1) (by omega)
          have e1 : IntKind.i64.wrap (1000 * (k.mrk.2 (a.2 j).which.toNat).lo) = 1000 * (k.mrk.2 (a.2 j).which.toNat).lo := wr64 (by omega) (by omega)
          have e3 : IntKind.i64.wrap ((a.2 j).which + 1) = (a.2 j).which + 1 := wr64 (by omega) (by omega)
          have e4 : ((a.2 j).which + 1).toNat = (a.2 j).which.toNat + 1 := by omega
          have e2 : IntKind.i64.wrap (1000 * (k.mrk.2 ((a.2 j).which.toNat + 1)).hi) = 1000 * (k.mrk.2 ((a.2 j).which.toNat + 1)).hi := wr64 (by omega) (by omega)
          rw [e3, e4, e1, e2]
          refine ⟨by omega, by omega, by omega, by omega, fun h4 h5 => inv_intro (j + 1) (hstep (by omega) ?_) (by omega) ?_⟩
          · simp only [In, tellF]; rw [if_neg h1, if_pos h2]; simp only; omega
          · simp only [Chk, chkFr, chkBx, chkBx1, hasB, idsLt, kept, vs_int, vs_nil, vs_ptr, vs_cons, vs_view, Nat.lt_irrefl, fget, isLB, bget, vsubP_self, ↓reduceIte, reduceCtorEq, Nat.reduceEqDiff, Nat.reduceLT, and_true, true_and, and_self, forall_const, implies_true, Option.some.injEq, Val.int.injEq, exists_eq', false_implies]
            rw [wrS (by omega)]
        · have h4 : SpIn (a.2 j).word (-100000) 100000 := by
            unfold TlOk at ht
            rcases ht with h0 | h0 | h0 | h0
            · exact absurd h0.1 h1
            · exact absurd h0.1 h2
            · exact absurd h0.1 h3
            · exact h0.2
          have hs := spin_of h4
          have e1 : IntKind.i64.wrap (1000 * (a.2 j).word.lo) = 1000 * (a.2 j).word.lo := wr64 (by omega) (by omega)
          have e2 : IntKind.i64.wrap (1000 * (a.2 j).word.hi) = 1000 * (a.2 j).word.hi := wr64 (by omega) (by omega)
          rw [e1, e2]
          refine fun h4 h5 => inv_intro (j + 1) (hstep (by omega) ?_) (by omega) ?_
          · simp only [In, tellF]; rw [if_neg h1, if_neg h2, if_neg h3]; simp only; omega
          · simp only [Chk, chkFr, chkBx, chkBx1, hasB, idsLt, kept, vs_int, vs_nil, vs_ptr, vs_cons, vs_view, Nat.lt_irrefl, fget, isLB, bget, vsubP_self, ↓reduceIte, reduceCtorEq, Nat.reduceEqDiff, Nat.reduceLT, and_true, true_and, and_self, forall_const, implies_true, Option.some.injEq, Val.int.injEq, exists_eq', false_implies]
            rw [wrS (by omega)]
      have hx : In x A := by
        rw [← hA, allF_in]
        have h5 := hj2 0 (by omega)
        have h6 := (spfit_tell hc hd (hA1 0 hA2)).2
        exact ⟨by unfold In at h5; omega, fun i hi => hj2 i (by omega)⟩
      clear hj1 hj2 hge hstep ht
      refine loopI (ι := Nat) (fun j => j ≤ b.1 ∧ ∀ i < j, In y (tellF k day (b.2 i))) (fun j => b.1 - j) [1, 2, 9, 10] (fun j => [(11, .int .i64 j)]) (fun _ => []) 0 ⟨by omega, fun _ h => by omega⟩ (by simp only [Chk, chkFr, chkBx, chkBx1, hasB, idsLt, kept, vs_int, vs_nil, vs_ptr, vs_cons, vs_view, fget, isLB, bget, vsubP_self, ↓reduceIte, reduceCtorEq, Nat.reduceEqDiff, Nat.reduceLT, Int.cast_ofNat_Int, and_self, forall_const, implies_true, Option.some.injEq, exists_eq', keepF, appF, updB]; try rfl) fun j hj => ?_
      obtain ⟨hj1, hj2⟩ := hj
      simp (config := { maxSteps := 4000000 }) only [w1, ↓imp_tt, ↓imp_tf, ↓imp_ft, ↓imp_ff, runO_3, runO_4, runO_5, runO_6, runO_8, runO_9, runO_14, runO_16, runO_17, runO_18, runO_19, aop, binV, ends, reOk, Nat.zero_sub, ev, fget, fput, cellsOf, cellsN, isLB, vget, vset, vsets, vlen, bget, bset, addB, addN, mkv, sliceV, vtab, frz, opOwns, skipOp, WfT, resV, res1, casts, castOks, cast1, castOk, norm, norm1, normL, pureB, pureL, onesB, snapV, snapOk, specV, argsL, capsL, mkE_S, lkp, pickV, popTo, stkFr, Val.toInt, ↓reduceIte, reduceCtorEq, Nat.reduceEqDiff, Nat.reduceAdd, Nat.reduceSub, Nat.reduceLeDiff, Nat.zero_add, Nat.add_zero, Nat.sub_zero, Int.reduceBNe, beq_iff_eq, beq_eq_false_iff_ne, List.length_cons, List.length_nil, List.append_nil, Bool.and_self, Bool.bne_false, bne_self_eq_false, Bool.not_true, Bool.not_false, and_true, true_and, and_self, and_assoc, forall_const, imp_self, implies_true, Nat.le_refl, decide_eq_true_eq, decide_eq_false_iff_not, ne_eq, maxLen, Nat.reducePow, keepF, appF, updB, inat, Sp.c0, Sp.c1, Tl.c0, Tl.c1, Tl.c2, Tl.c3, Tl.c4]
      have ht := hB1 j
      have hnm := hc.nm
      have hstep : j < b.1 → In y (tellF k day (b.2 j)) → j + 1 ≤ b.1 ∧ ∀ i < j + 1, In y (tellF k day (b.2 i)) := fun h h2 => ⟨h, fun i hi => by
        rcases Nat.lt_or_ge i j with h5 | h5
        · exact hj2 i h5
        · obtain rfl : i = j := by omega
          exact h2⟩
      refine fun hlt => ?_
      · replace ht := ht (by omega)
        refine ⟨by omega, by omega, fun h1 => ?_, fun h1 => ⟨fun h2 => ?_, fun h2 h3 => ?_⟩⟩
        · obtain ⟨_, g4, g5⟩ : (b.2 j).kind = 1 ∧ 0 ≤ (b.2 j).which ∧ (b.2 j).which < k.mrk.1 := by unfold TlOk at ht; omega
          have hm := hmb (b.2 j).which.toNat (by omega)
          have e1 : IntKind.i64.wrap (1000 * (k.mrk.2 (b.2 j).which.toNat).lo) = 1000 * (k.mrk.2 (b.2 j).which.toNat).lo := wr64 (by omega) (by omega)
          have e2 : IntKind.i64.wrap (1000 * (k.mrk.2 (b.2 j).which.toNat).hi) = 1000 * (k.mrk.2 (b.2 j).which.toNat).hi := wr64 (by omega) (by omega)
          rw [e1, e2]
          refine ⟨by omega, by omega, fun h4 h5 => inv_intro (j + 1) (hstep (by omega) ?_) (by omega) ?_⟩
          · simp only [In, tellF, h1, if_true]; omega
          · simp only [Chk, chkFr, chkBx, chkBx1, hasB, idsLt, kept, vs_int, vs_nil, vs_ptr, vs_cons, vs_view, Nat.lt_irrefl, fget, isLB, bget, vsubP_self, ↓reduceIte, reduceCtorEq, Nat.reduceEqDiff, Nat.reduceLT, and_true, true_and, and_self, forall_const, implies_true, Option.some.injEq, Val.int.injEq, exists_eq', false_implies]
            rw [wrS (by omega)]
        · obtain ⟨_, g4, g5⟩ : (b.2 j).kind = 2 ∧ 0 ≤ (b.2 j).which ∧ (b.2 j).which + 1 < k.mrk.1 := by unfold TlOk at ht; omega
          have hm := hmb (b.2 j).which.toNat (by omega)
          have hm2 := hmb ((b.2 j).which.toNat + 1) (by omega)
          have e1 : IntKind.i64.wrap (1000 * (k.mrk.2 (b.2 j).which.toNat).lo) = 1000 * (k.mrk.2 (b.2 j).which.toNat).lo := wr64 (by omega) (by omega)
          have e3 : IntKind.i64.wrap ((b.2 j).which + 1) = (b.2 j).which + 1 := wr64 (by omega) (by omega)
          have e4 : ((b.2 j).which + 1).toNat = (b.2 j).which.toNat + 1 := by omega
          have e2 : IntKind.i64.wrap (1000 * (k.mrk.2 ((b.2 j).which.toNat + 1)).hi) = 1000 * (k.mrk.2 ((b.2 j).which.toNat + 1)).hi := wr64 (by omega) (by omega)
          rw [e3, e4, e1, e2]
          refine ⟨by omega, by omega, by omega, by omega, fun h4 h5 => inv_intro (j + 1) (hstep (by omega) ?_) (by omega) ?_⟩
          · simp only [In, tellF]; rw [if_neg h1, if_pos h2]; simp only; omega
          · simp only [Chk, chkFr, chkBx, chkBx1, hasB, idsLt, kept, vs_int, vs_nil, vs_ptr, vs_cons, vs_view, Nat.lt_irrefl, fget, isLB, bget, vsubP_self, ↓reduceIte, reduceCtorEq, Nat.reduceEqDiff, Nat.reduceLT, and_true, true_and, and_self, forall_const, implies_true, Option.some.injEq, Val.int.injEq, exists_eq', false_implies]
            rw [wrS (by omega)]
        · have h4 : SpIn (b.2 j).word (-100000) 100000 := by
            unfold TlOk at ht
            rcases ht with h0 | h0 | h0 | h0
            · exact absurd h0.1 h1
            · exact absurd h0.1 h2
            · exact absurd h0.1 h3
            · exact h0.2
          have hs := spin_of h4
          have e1 : IntKind.i64.wrap (1000 * (b.2 j).word.lo) = 1000 * (b.2 j).word.lo := wr64 (by omega) (by omega)
          have e2 : IntKind.i64.wrap (1000 * (b.2 j).word.hi) = 1000 * (b.2 j).word.hi := wr64 (by omega) (by omega)
          rw [e1, e2]
          refine fun h4 h5 => inv_intro (j + 1) (hstep (by omega) ?_) (by omega) ?_
          · simp only [In, tellF]; rw [if_neg h1, if_neg h2, if_neg h3]; simp only; omega
          · simp only [Chk, chkFr, chkBx, chkBx1, hasB, idsLt, kept, vs_int, vs_nil, vs_ptr, vs_cons, vs_view, Nat.lt_irrefl, fget, isLB, bget, vsubP_self, ↓reduceIte, reduceCtorEq, Nat.reduceEqDiff, Nat.reduceLT, and_true, true_and, and_self, forall_const, implies_true, Option.some.injEq, Val.int.injEq, exists_eq', false_implies]
            rw [wrS (by omega)]
end Go.Proofs.YtbhhcnonooiokaaDoor
