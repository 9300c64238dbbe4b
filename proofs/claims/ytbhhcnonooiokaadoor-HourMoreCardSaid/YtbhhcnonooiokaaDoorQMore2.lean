/- HourMore: one telling more tells nothing wider. No condition. -/
import Derived.Test.YtbhhcnonooiokaaDoorQNt
set_option linter.unusedSimpArgs false
set_option linter.unusedVariables false
namespace Go.Proofs.YtbhhcnonooiokaaDoor
open Go Go.RowKit
def revL (l : Tls) (i : Nat) : Tl := l.2 (l.1 - 1 - i)
noncomputable def sLawMore : Spec := spec6 TCk TI (TSl RTl) TTl (TSl RCh) (TU .u8) (fun _ _ _ _ _ _ => True) fun _ _ _ _ _ _ => .bool true
set_option maxHeartbeats 8000000 in
set_option maxRecDepth 100000 in
theorem pLawMore : PureOk Tryd.prog NG 10 sLawMore := by
  refine fn6 (S := [(35, sAlive), (43, sReady), (28, sGreatN), (19, sAllA), (29, sNightP), (48, sWithinL)]) (I := []) mixed
    (.cons pAlive (.cons pReady (.cons pGreatN (.cons (pAllAP pTellP) (.cons pNightP (.cons pWithinL .nil)))))) .nil Tryd.func10 c10 fun k day l more night which _ hw => ?_
  simp only [vl, WfT, Val.toInt, Val.toBool, Val.slen, Val.scell, Nat.reduceSub, and_true, true_and, and_self, and_assoc, maxLen, Nat.reducePow, TU_enc, TSl, TInt, RSp, Sp.d, RSr, Sr.d, Tl.L, TTl, RTl, Tl.d, RCh, Ch.d, Ck.L, TCk] at hw
  by_cases h0 : ¬ askE k day = 0
  · simp only [RunTo, a10, sAlive, sReady, show rdyB k day = false from decide_eq_false h0, hw, ↓imp_tt, ↓imp_tf, runO_3, runO_5, runO_14, runO_17, runO_18, runO_19, aop, ends, Nat.zero_sub, ev, fget, fput, params, cellsOf, cellsN, isLB, vget, vlen, bget, addB, addN, mkv, sliceV, vtab, frz, opOwns, preFz, callFz, skipOp, WfT, resV, res1, norm, norms, norm1, normL, pureB, pureL, snapV, snapOk, specV, argsL, capsL, mkE_S, lkp, pickV, Fin, vp_bool, Val.toInt, Val.toBool, Val.slen, Val.scell, ↓reduceIte, reduceCtorEq, Nat.reduceEqDiff, Nat.reduceAdd, Nat.reduceSub, Nat.zero_add, List.length_cons, List.length_nil, List.append_nil, Bool.and_self, Bool.bne_false, Bool.not_false, and_true, and_self, and_assoc, forall_const, imp_self, implies_true, Nat.le_refl, maxLen, Nat.reducePow, TU_enc, spec0, spec2, TSl, TInt, IsInt, Prod.eta, Sp.c0, Sp.c1, RSp, Sp.w_c, Sp.d, Sp.eta, Sr.c0, Sr.c1, Sr.c2, Sr.c3, RSr, Sr.w_c, Sr.d, Sr.eta, Tl.L, TTl, RTl, Tl.d, RCh, Ch.d, Ck.L, Ck.Is, Ck.of, TCk, Ck.d, Ck.eta]
  replace h0 := Classical.not_not.1 h0
  have hd0 : rdyB k day = true := decide_eq_true h0
  obtain ⟨hc, hd⟩ := askE_0 h0
  by_cases hl : ¬ l.1 < 10
  · have fl : ((l.1 : Int) ≥ 10) = True := eq_true (by omega)
    simp only [RunTo, a10, sAlive, sReady, hd0, fl, hw, ↓imp_tt, ↓imp_tf, ↓imp_ft, ↓imp_ff, runO_3, runO_5, runO_14, runO_17, runO_18, runO_19, aop, binV, ends, Nat.zero_sub, ev, fget, fput, params, cellsOf, cellsN, isLB, vget, vlen, bget, addB, addN, mkv, sliceV, vtab, frz, opOwns, preFz, callFz, skipOp, WfT, resV, res1, norm, norms, norm1, normL, pureB, pureL, snapV, snapOk, specV, argsL, capsL, mkE_S, lkp, pickV, lenV, Fin, vp_bool, Val.toInt, Val.toBool, Val.slen, Val.scell, ↓reduceIte, reduceCtorEq, Nat.reduceEqDiff, Nat.reduceAdd, Nat.reduceSub, Nat.zero_add, decide_true, List.length_cons, List.length_nil, List.append_nil, Bool.and_self, Bool.bne_false, bne_self_eq_false, Bool.not_true, and_true, and_self, and_assoc, forall_const, imp_self, implies_true, Nat.le_refl, maxLen, Nat.reducePow, TU_enc, spec0, spec2, TSl, TInt, IsInt, Prod.eta, Sp.c0, Sp.c1, RSp, Sp.w_c, Sp.d, Sp.eta, Sr.c0, Sr.c1, Sr.c2, Sr.c3, RSr, Sr.w_c, Sr.d, Sr.eta, Tl.L, TTl, RTl, Tl.d, RCh, Ch.d, Ck.L, Ck.Is, Ck.of, TCk, Ck.d, Ck.eta]
  replace hl := Classical.not_not.1 hl
  have fl : ((l.1 : Int) ≥ 10) = False := eq_false (by omega)
  obtain ⟨f, hf⟩ : ∃ f : Nat → Tl, f = fun i => Tl.d fun j => if i < l.1 then (l.2 i).c j else vget (vget (.cons more.L .nil) (i - l.1)) j := ⟨_, rfl⟩
  have hfi : ∀ i, i < l.1 + 1 → f i = (moreL l more).2 i := fun i hi => by
    rw [hf]; simp only [moreL]; split
    · rfl
    · rw [show i - l.1 = 0 from by omega]; rfl
  have hcg : thF k day (l.1 + 1, f) = thF k day (moreL l more) := thF_congr hfi
  simp only [Val.toInt, reduceCtorEq, forall_const, imp_self, implies_true, Tl.L, Tl.c0, Tl.c1, Tl.c2, Tl.c3, Tl.c4, Tl.d] at hf
  have hfs := hf.symm
  have hmo := more_th (c := k) (day := day) (l := l) (m := more)
  obtain ⟨⟨A, ea⟩, hA⟩ : ∃ p, thF k day l = p := ⟨_, rfl⟩
  obtain ⟨⟨B, eb⟩, hB⟩ : ∃ p, thF k day (moreL l more) = p := ⟨_, rfl⟩
  rw [hB] at hcg hmo
  rw [hA] at hmo
  simp only at hmo
  have hz6 : l.1 = 0 → ea = 6 := fun h => by have := th_none (c := k) (day := day) (l := l) h h0; rw [hA] at this; exact this
  have hrev : thF k day (l.1, revL l) = (A, ea) := thF_rev.trans hA
  by_cases ha0 : ea = 0
  · by_cases hb0 : eb = 0
    · have hwb : witB (minsF B) (minsF A) = true := by
        rcases hmo hb0 with h | h
        · exact h.2
        · have := hz6 h; omega
      simp (config := { maxSteps := 4000000 }) only [RunTo, a10, sAlive, sReady, sGreatN, sAllA, sWithinL, hd0, fl, hfs, hA, hcg, ha0, hb0, hwb, hw, eq_self, Nat.not_lt_zero, Tl.w_c, Ch.w_c, ↓imp_tt, ↓imp_tf, ↓imp_ft, ↓imp_ff, runO_3, runO_4, runO_5, runO_6, runO_14, runO_15, runO_17, runO_18, runO_19, aop, binV, ends, reOk, dstV, Nat.zero_sub, ev, fget, fput, params, cellsOf, cellsN, isLB, vget, vset, vsets, vlen, bget, bset, addB, addN, mkv, sliceV, vtab, rowsV, rowsOk, vrep, frz, opOwns, preFz, callFz, skipOp, WfT, resV, res1, norm, norms, norm1, normL, pureB, pureL, flatB, onesB, snapV, snapOk, snapL, snapOks, specV, argsL, capsL, mkE_S, lkp, pickV, lenV, subFr, subV, subBx, subStk, elemsV, Fin, vp_bool, Val.toInt, Val.toBool, Val.slen, Val.scell, ↓reduceIte, reduceCtorEq, Nat.reduceEqDiff, Nat.reduceAdd, Nat.reduceSub, Nat.reduceLeDiff, Nat.reduceLT, Nat.zero_add, Nat.sub_zero, Int.reduceBEq, decide_false, List.length_cons, List.length_nil, List.append_nil, Bool.and_true, Bool.and_false, Bool.and_self, Bool.bne_true, Bool.bne_false, bne_self_eq_false, Bool.not_true, Bool.not_false, beq_self_eq_true, and_true, true_and, and_self, and_assoc, forall_const, imp_self, implies_true, Nat.le_refl, or_false, maxLen, Nat.reducePow, TU_enc, spec0, spec1, spec2, spec3, TSl, IsSl, TInt, IsInt, Prod.eta, Sp.L, Sp.c0, Sp.c1, Sp.Is, Sp.of, TSp, RSp, Sp.w_c, Sp.d, Sp.eta, Sr.c0, Sr.c1, Sr.c2, Sr.c3, RSr, Sr.w_c, Sr.d, Sr.eta, Tl.L, Tl.c0, Tl.c1, Tl.c2, Tl.c3, Tl.c4, TTl, RTl, Tl.w_c, Tl.d, Tl.eta, Ch.c0, RCh, Ch.w_c, Ch.d, Ck.L, Ck.Is, Ck.of, TCk, Ck.d, Ck.eta]
      intro hg
      replace hg := @of_decide_eq_false _ (Classical.propDecidable _) hg
      have hn16 : ∀ i, i < night.1 → (night.2 i).told.1 ≤ 16 := fun i hi => by
        false_or_by_contra
        exact hg (.inr ⟨i, hi, by omega⟩)
      refine ⟨by omega, by omega, by omega, fun i hi => ?_, ?_⟩
      · by_cases h : i < l.1
        · simp only [h, if_true]; exact of_eq_true (Tl.w_c _)
        · rw [show i - l.1 = 0 from by omega]; simp only [h, if_false]; exact ⟨rfl, rfl, rfl, rfl, rfl⟩
      refine loopJ (ι := Nat) (fun j => j ≤ l.1) (fun j => l.1 - j) [1, 2, 4, 5, 6, 13, 14, 15, 94] (fun j => [(18, .own 6), (95, .int .i64 j)]) (fun j => [(6, .row 29 5 j fun i b => (revL l i).c b)]) 1 0 (by omega) (by simp only [Chk, chkFr, chkBx, chkBx1, newIn, hasB, idsLt, kept, vs_int, vs_bool, vs_nil, vs_own, vs_ptr, vs_cons, vs_view, fget, isLB, bget, bset, vsubP_self, ↓reduceIte, reduceCtorEq, Nat.reduceEqDiff, Nat.reduceAdd, Nat.reduceLT, Int.cast_ofNat_Int, and_true, and_self, forall_const, implies_true, Option.some.injEq, exists_eq', or_true, keepF, appF, updB]) fun j hj => ?_
      by_cases hlt : j < l.1
      · have f4 : ((j : Int) < (l.1 : Int)) = True := eq_true (by omega)
        have e1 : IntKind.i64.wrap (IntKind.i64.wrap ((l.1 : Int) - 1) - (j : Int)) = ((l.1 - 1 - j : Nat) : Int) := by rw [wr64 (e := (l.1 : Int) - 1) (by omega) (by omega), wr64 (by omega) (by omega)]; omega
        simp (config := { maxSteps := 4000000 }) only [hw, f4, e1, eq_self, ↓imp_tt, ↓imp_tf, runO_4, runO_5, runO_6, runO_8, runO_14, runO_16, runO_17, runO_18, runO_19, aop, binV, reOk, Nat.zero_sub, ev, fget, fput, cellsOf, cellsN, isLB, vset, vlen, bget, bset, addB, addN, mkv, rowsV, rowsOk, vrep, frz, opOwns, preFz, owns, skipOp, WfT, casts, castOks, cast1, castOk, pureB, onesB, mkE_G, lenV, subFr, subV, subBx, subStk, elemsV, stkFr, Val.toInt, ↓reduceIte, reduceCtorEq, Nat.reduceEqDiff, Nat.reduceAdd, Nat.reduceSub, Nat.reduceLeDiff, Nat.reduceLT, Nat.zero_add, decide_true, List.length_cons, List.length_nil, List.append_nil, List.flatMap_cons, List.flatMap_nil, Bool.and_self, and_true, true_and, and_self, and_assoc, forall_const, imp_self, implies_true, Nat.le_refl, or_false, maxLen, Nat.reducePow, keepF, appF, updB, inat, Tl.c0, Tl.c1, Tl.c2, Tl.c3, Tl.c4]
        refine ⟨by omega, by omega, by omega, by omega, inv_intro (j + 1) (by omega) (by omega) ?_⟩
        simp only [Chk, chkFr, chkBx, chkBx1, newIn, hasB, idsLt, kept, vs_int, vs_bool, vs_nil, vs_own, vs_ptr, vs_cons, vs_view, Nat.lt_irrefl, fget, isLB, bget, vsubP_self, ↓reduceIte, reduceCtorEq, Nat.reduceEqDiff, Nat.reduceLT, and_true, true_and, and_self, forall_const, implies_true, Option.some.injEq, Val.int.injEq, exists_eq', false_implies, or_false]
        rw [wrS (by omega)]
        refine ⟨rfl, fun i hi b hb => ?_⟩
        split
        · exact (vsubP_self _).mpr trivial
        · obtain rfl : i = j := by omega
          rw [Nat.sub_self]
          rcases (by omega : b = 0 ∨ b = 1 ∨ b = 2 ∨ b = 3 ∨ b = 4) with rfl | rfl | rfl | rfl | rfl <;> rfl
      · have f4 : ((j : Int) < (l.1 : Int)) = False := eq_false (by omega)
        obtain rfl : j = l.1 := by omega
        by_cases hg0 : ¬ (nightF k day night).2.2 = 0
        · have fg : ((nightF k day night).2.2 = 0) = False := eq_false hg0
          simp (config := { maxSteps := 4000000 }) only [sNightP, hw, f4, hrev, ha0, fg, eq_self, Nat.not_lt_zero, Tl.w_c, Ch.w_c, ↓imp_tt, ↓imp_tf, ↓imp_ft, ↓imp_ff, runO_3, runO_4, runO_5, runO_6, runO_9, runO_14, runO_15, runO_17, runO_18, runO_19, aop, binV, ends, reOk, Nat.zero_sub, ev, fget, fput, cellsOf, cellsN, isLB, vget, vset, vsets, vlen, bget, bset, bdel, addB, addN, mkv, sliceV, vtab, rowsV, rowsOk, vrep, frz, opOwns, preFz, callFz, ownsL, owns, skipOp, WfT, resV, res1, casts, castOks, cast1, castOk, norm, norms, norm1, normL, pureB, pureL, flatB, onesB, snapV, snapOk, snapL, snapOks, specV, argsL, capsL, mkE_S, mkE_G, lkp, eqCells, eqOk, pickV, optInt, lenV, subFr, subV, subBx, subStk, elemsV, popTo, stkFr, Val.toInt, Val.toBool, Val.slen, Val.scell, ↓reduceIte, reduceCtorEq, Nat.reduceEqDiff, Nat.reduceAdd, Nat.reduceSub, Nat.reduceLeDiff, Nat.reduceLT, Nat.zero_add, Nat.add_zero, Nat.sub_zero, Int.reduceToNat, Int.reduceLE, Int.reduceEq, decide_false, beq_iff_eq, beq_eq_false_iff_ne, bne_iff_ne, bne_eq_false_iff_eq, List.length_cons, List.length_nil, List.nil_append, List.append_nil, List.flatMap_nil, Bool.and_true, Bool.and_false, Bool.and_self, Bool.bne_false, bne_self_eq_false, Bool.not_true, Bool.not_false, Bool.false_eq_true, beq_self_eq_true, and_true, true_and, and_self, and_assoc, forall_const, imp_self, implies_true, Nat.le_refl, Val.bool.injEq, ne_eq, not_false_eq_true, false_implies, or_true, or_false, not_false_eq_true, maxLen, Nat.reducePow, keepF, appF, updB, spec3, TSl, IsSl, TInt, IsInt, Prod.eta, Sp.c0, Sp.c1, RSp, Sp.w_c, Sp.d, Sp.eta, Sr.c0, Sr.c1, Sr.c2, Sr.c3, RSr, Sr.w_c, Sr.d, Sr.eta, Tl.c0, Tl.c1, Tl.c2, Tl.c3, Tl.c4, RTl, Tl.w_c, Tl.d, Tl.eta, Ch.c0, Ch.c1, Ch.c2, RCh, Ch.w_c, Ch.d, Ch.eta, Ck.L, Ck.Is, Ck.of, TCk, Ck.d, Ck.eta]
          exact fun i hi => by have := hn16 i hi; omega
        · replace hg0 := Classical.not_not.1 hg0
          obtain ⟨_, n1, n2, n3, n4⟩ := nightF_0 hg0
          by_cases hz : night.1 = 0
          · have fz : ((night.1 : Int) = 0) = True := eq_true (by omega)
            simp (config := { maxSteps := 4000000 }) only [sNightP, hw, f4, hrev, ha0, hg0, fz, eq_self, Nat.not_lt_zero, Tl.w_c, Ch.w_c, ↓imp_tt, ↓imp_tf, ↓imp_ft, ↓imp_ff, runO_3, runO_4, runO_5, runO_6, runO_9, runO_14, runO_15, runO_17, runO_18, runO_19, aop, binV, ends, reOk, Nat.zero_sub, ev, fget, fput, cellsOf, cellsN, isLB, vget, vset, vsets, vlen, bget, bset, bdel, addB, addN, mkv, sliceV, vtab, rowsV, rowsOk, vrep, frz, opOwns, preFz, callFz, ownsL, owns, skipOp, WfT, resV, res1, casts, castOks, cast1, castOk, norm, norms, norm1, normL, pureB, pureL, flatB, onesB, snapV, snapOk, snapL, snapOks, specV, argsL, capsL, mkE_S, mkE_G, lkp, eqCells, eqOk, pickV, optInt, lenV, subFr, subV, subBx, subStk, elemsV, popTo, stkFr, Val.toInt, Val.toBool, Val.slen, Val.scell, ↓reduceIte, reduceCtorEq, Nat.reduceEqDiff, Nat.reduceAdd, Nat.reduceSub, Nat.reduceLeDiff, Nat.reduceLT, Nat.zero_add, Nat.add_zero, Nat.sub_zero, Int.reduceToNat, Int.reduceLE, Int.reduceEq, decide_false, beq_iff_eq, beq_eq_false_iff_ne, bne_iff_ne, bne_eq_false_iff_eq, List.length_cons, List.length_nil, List.nil_append, List.append_nil, List.flatMap_nil, Bool.and_true, Bool.and_false, Bool.and_self, Bool.bne_false, bne_self_eq_false, Bool.not_true, Bool.not_false, Bool.false_eq_true, beq_self_eq_true, and_true, true_and, and_self, and_assoc, forall_const, imp_self, implies_true, Nat.le_refl, Val.bool.injEq, ne_eq, not_false_eq_true, false_implies, or_true, or_false, not_true_eq_false, not_false_eq_true, maxLen, Nat.reducePow, keepF, appF, updB, spec3, TSl, IsSl, TInt, IsInt, Prod.eta, Sp.c0, Sp.c1, RSp, Sp.w_c, Sp.d, Sp.eta, Sr.c0, Sr.c1, Sr.c2, Sr.c3, RSr, Sr.w_c, Sr.d, Sr.eta, Tl.c0, Tl.c1, Tl.c2, Tl.c3, Tl.c4, RTl, Tl.w_c, Tl.d, Tl.eta, Ch.c0, Ch.c1, Ch.c2, RCh, Ch.w_c, Ch.d, Ch.eta, Ck.L, Ck.Is, Ck.of, TCk, Ck.d, Ck.eta]
            exact fun i hi => by have := hn16 i hi; omega
          have fz : ((night.1 : Int) = 0) = False := eq_false (by omega)
          have hu := u8_bd which
          have hw1 := Int.emod_nonneg which.1 (b := (night.1 : Int)) (by omega)
          have hw2 := Int.emod_lt_of_pos which.1 (b := (night.1 : Int)) (by omega)
          obtain ⟨w, hwd⟩ : ∃ w : Nat, which.1 % (night.1 : Int) = (w : Int) := ⟨(which.1 % (night.1 : Int)).toNat, by omega⟩
          have en : (IntKind.i64.wrap which.1).tmod (night.1 : Int) = (w : Int) := by
            rw [wr64 (e := which.1) (by omega) (by omega), Int.tmod_eq_emod_of_nonneg hu.1, hwd]
          have et : IntKind.i64.wrap (((night.2 w).told.1 : Int).tdiv 2) = (((night.2 w).told.1 / 2 : Nat) : Int) := by
            have := hn16 w (by omega)
            rw [Int.tdiv_eq_ediv_of_nonneg (by omega), wr64 (by omega) (by omega)]; omega
          obtain ⟨h, hh⟩ : ∃ h : Nat, (night.2 w).told.1 / 2 = h := ⟨_, rfl⟩
          rw [hh] at et
          obtain ⟨ff, hffd⟩ : ∃ ff : Nat → Ch, ff = fun i => Ch.d fun j' => if i = w ∧ 0 ≤ j' ∧ j' < 1 then vget (.cons (.view 5 ((h : Int) - 0).toNat fun a b => ((night.2 w).told.2 a).c b) .nil) j' else (night.2 i).c j' := ⟨_, rfl⟩
          have hff : ff = (fewL night w).2 := by
            funext i; rw [hffd]; simp only [fewL]
            by_cases h5 : i = w
            · subst h5
              have e9 : ((h : Int) - 0).toNat = h := by omega
              simp [Ch.d, Ch.c, halfC, vget, Val.slen, Val.scell, Val.toInt, Val.toBool, RTl, Tl.d_c, hh]
            · simp [h5]; exact Ch.d_c _
          simp only [vget, Val.toInt, Val.toBool, Val.slen, Val.scell, Nat.reduceLeDiff, Nat.reduceLT, and_true, true_and, and_self, Nat.le_refl, RTl, Tl.d, Ch.c0, Ch.c1, Ch.c2, Ch.d] at hffd
          have hffs := hffd.symm
          obtain ⟨k1, k2⟩ := few_ok (c := k) (day := day) (w := w) n2
          obtain ⟨m1, m2⟩ := night_mono (l' := fewL night w) hg0 h0 (Nat.le_refl _) k1 k2
          obtain ⟨m3, m4⟩ := night_mono (l' := (w + 1, night.2)) hg0 h0 (show w + 1 ≤ night.1 by omega) (fun j hj => n2 j (by have : j < w + 1 := hj; omega)) fun x hx => hx.less (show w + 1 ≤ night.1 by omega)
          obtain ⟨sf, hsf⟩ : ∃ sf : Nat → Sp, (fun i => minsF (bwdF k day night.2 night.1 (night.1 - 1 - i))) = sf := ⟨_, rfl⟩
          obtain ⟨tf, htf⟩ : ∃ tf : Nat → Sp, (fun i => minsF (bwdF k day (fewL night w).2 (fewL night w).1 ((fewL night w).1 - 1 - i))) = tf := ⟨_, rfl⟩
          obtain ⟨uf, huf⟩ : ∃ uf : Nat → Sp, (fun i => minsF (bwdF k day night.2 (w + 1) (w + 1 - 1 - i))) = uf := ⟨_, rfl⟩
          rw [hsf] at n4
          rw [htf] at m1
          simp only at m3 m4
          rw [huf] at m3
          have e5 : nightF k day (night.1, ff) = ((night.1, tf), 0, 0) := by rw [hff]; exact m1
          have q2 : ∀ z, z < night.1 → witB (sf z) (tf z) = true := fun z hz => by have := m2 z hz; rw [n4] at this; rw [← htf]; exact this
          have q4 : ∀ z, z < w + 1 → witB (sf z) (uf z) = true := fun z hz => by have := m4 z hz; rw [n4] at this; rw [← huf]; exact this
          simp (config := { maxSteps := 4000000 }) only [sNightP, hw, f4, hrev, ha0, n4, fz, en, et, hffs, e5, eq_self, Nat.not_lt_zero, Tl.w_c, Ch.w_c, ↓imp_ft, ↓imp_ff, runO_3, runO_4, runO_5, runO_6, runO_9, runO_14, runO_15, runO_17, runO_18, runO_19, aop, binV, ends, reOk, Nat.zero_sub, ev, fget, fput, cellsOf, cellsN, isLB, vget, vset, vsets, vlen, bget, bset, bdel, addB, addN, mkv, sliceV, vtab, rowsV, rowsOk, vrep, frz, opOwns, preFz, callFz, ownsL, owns, skipOp, WfT, resV, res1, casts, castOks, cast1, castOk, norm, norms, norm1, normL, pureB, pureL, flatB, onesB, snapV, snapOk, snapL, snapOks, specV, argsL, capsL, mkE_S, mkE_G, lkp, eqCells, eqOk, pickV, optInt, lenV, subFr, subV, subBx, subStk, elemsV, popTo, stkFr, Val.toInt, Val.toBool, Val.slen, Val.scell, ↓reduceIte, reduceCtorEq, Nat.reduceEqDiff, Nat.reduceAdd, Nat.reduceSub, Nat.reduceLeDiff, Nat.reduceLT, Nat.zero_add, Nat.add_zero, Nat.sub_zero, Int.reduceToNat, Int.reduceLE, Int.reduceEq, decide_false, beq_iff_eq, beq_eq_false_iff_ne, List.length_cons, List.length_nil, List.nil_append, List.append_nil, List.flatMap_nil, Bool.and_true, Bool.and_false, Bool.and_self, bne_self_eq_false, Bool.not_true, Bool.not_false, beq_self_eq_true, and_true, true_and, and_self, and_assoc, forall_const, imp_self, implies_true, Nat.le_refl, ne_eq, not_false_eq_true, or_true, or_false, not_false_eq_true, maxLen, Nat.reducePow, keepF, appF, updB, inat, spec3, TSl, IsSl, TInt, IsInt, Prod.eta, Sp.c0, Sp.c1, RSp, Sp.w_c, Sp.d, Sp.eta, Sr.c0, Sr.c1, Sr.c2, Sr.c3, RSr, Sr.w_c, Sr.d, Sr.eta, Tl.c0, Tl.c1, Tl.c2, Tl.c3, Tl.c4, RTl, Tl.w_c, Tl.d, Tl.eta, Ch.c0, Ch.c1, Ch.c2, RCh, Ch.w_c, Ch.d, Ch.eta, Ck.L, Ck.Is, Ck.of, TCk, Ck.d, Ck.eta]
          have hhw := hn16 w (by omega)
          refine ⟨fun i hi => by have := hn16 i hi; omega, by omega, by omega, by omega, by omega, by omega, by omega, by omega, by omega, by omega, fun i hi => ?_, fun i hi => ?_, ?_⟩
          · by_cases h5 : i = w
            · subst h5
              have e9 : (fun j' => if i = i ∧ 0 ≤ j' ∧ j' < 1 then vget (.cons (.view 5 ((h : Int) - 0).toNat fun a b => ((night.2 i).told.2 a).c b) .nil) j' else (night.2 i).c j') = Ch.c ⟨(((h : Int) - 0).toNat, (night.2 i).told.2), (night.2 i).bowls, (night.2 i).full⟩ := by
                funext j'
                match j' with
                | 0 => simp [vget, Ch.c, RTl]
                | 1 => simp [Ch.c]
                | 2 => simp [Ch.c]
                | k + 3 => simp [Ch.c]
              rw [e9]; exact of_eq_true (Ch.w_c _)
            · simp only [h5, false_and, if_false]; exact of_eq_true (Ch.w_c _)
          · have := hn16 i hi
            by_cases h5 : i = w
            · simp only [h5, if_true]; omega
            · simp only [h5, if_false]; omega
          intros
          refine loopI (ι := Nat) (fun z => z ≤ night.1) (fun z => night.1 - z) [1, 4, 6, 13, 22, 25, 27, 191] (fun z => [(192, .int .i64 z)]) (fun _ => []) 0 (by omega) (by simp only [Chk, chkFr, chkBx, chkBx1, hasB, idsLt, kept, vs_int, vs_bool, vs_nil, vs_ptr, vs_cons, vs_view, fget, isLB, bget, vsubP_self, ↓reduceIte, reduceCtorEq, Nat.reduceEqDiff, Nat.reduceLT, Int.cast_ofNat_Int, and_self, forall_const, implies_true, Option.some.injEq, exists_eq', keepF, appF, updB]; try rfl) fun z hz => ?_
          by_cases hzl : z < night.1
          · have f5 : ((z : Int) < (night.1 : Int)) = True := eq_true (by omega)
            have q2z := q2 z hzl
            simp (config := { maxSteps := 4000000 }) only [f5, q2z, eq_self, ↓imp_tt, ↓imp_tf, ↓imp_ft, ↓imp_ff, runO_4, runO_5, runO_6, runO_8, runO_14, runO_16, runO_17, runO_18, runO_19, aop, binV, ev, fget, fput, isLB, vget, addB, addN, mkv, frz, opOwns, preFz, callFz, skipOp, WfT, casts, castOks, cast1, castOk, norm, norms, norm1, normL, pureB, pureL, specV, argsL, capsL, mkE_S, lkp, stkFr, Val.toInt, ↓reduceIte, reduceCtorEq, Nat.reduceEqDiff, Nat.reduceAdd, Nat.zero_add, decide_true, List.length_cons, List.length_nil, List.append_nil, Bool.and_self, Bool.not_true, and_true, true_and, and_self, forall_const, imp_self, implies_true, Nat.le_refl, keepF, appF, updB, inat, Sp.c0, Sp.c1, Sp.eta]
            refine ⟨by omega, by omega, inv_intro (z + 1) (by omega) (by omega) ?_⟩
            simp only [Chk, chkFr, chkBx, chkBx1, hasB, idsLt, kept, vs_int, vs_bool, vs_nil, vs_ptr, vs_cons, vs_view, fget, isLB, bget, vsubP_self, ↓reduceIte, reduceCtorEq, Nat.reduceEqDiff, Nat.reduceLT, and_true, true_and, and_self, forall_const, implies_true, Option.some.injEq, Val.int.injEq, exists_eq']
            rw [wrS (by omega)]
          have f5 : ((z : Int) < (night.1 : Int)) = False := eq_false (by omega)
          have ew : IntKind.i64.wrap ((w : Int) + 1) = ((w + 1 : Nat) : Int) := by rw [wr64 (by omega) (by omega)]; omega
          have ew2 : (((w + 1 : Nat) : Int) - 0).toNat = w + 1 := by omega
          simp (config := { maxSteps := 4000000 }) only [f5, ew, ew2, m3, eq_self, ↓imp_ft, ↓imp_ff, runO_4, runO_5, runO_6, runO_9, runO_14, runO_15, runO_17, runO_18, runO_19, aop, binV, ev, fget, fput, isLB, vget, vlen, bget, addB, addN, mkv, sliceV, vtab, frz, opOwns, preFz, skipOp, WfT, norm, norms, norm1, normL, pureB, pureL, specV, argsL, capsL, mkE_S, lkp, pickV, optInt, lenV, popTo, stkFr, Val.toInt, ↓reduceIte, reduceCtorEq, Nat.reduceEqDiff, Nat.reduceAdd, Nat.reduceSub, Nat.reduceLeDiff, Nat.reduceLT, Nat.zero_add, Int.reduceToNat, Int.reduceLE, decide_false, List.length_cons, List.length_nil, List.append_nil, Bool.and_self, bne_self_eq_false, true_and, and_self, and_assoc, forall_const, imp_self, implies_true, Nat.le_refl, maxLen, Nat.reducePow, keepF, appF, updB, Prod.eta, Sp.c0, Sp.c1, Sp.w_c, Sp.eta, Sr.c0, Sr.c1, Sr.c2, Sr.c3, Sr.w_c, Sr.eta, Tl.c0, Tl.c1, Tl.c2, Tl.c3, Tl.c4, RTl, Tl.d, Tl.eta, Ch.c0, Ch.c1, Ch.c2, Ch.w_c, Ch.eta, Ck.eta]
          refine ⟨by omega, by omega, fun i hi => by have := hn16 i (by omega); omega, ?_⟩
          intros
          refine loopI (ι := Nat) (fun z => z ≤ w + 1) (fun z => w + 1 - z) [13, 22, 31, 227] (fun z => [(228, .int .i64 z)]) (fun _ => []) 0 (by omega) (by simp only [Chk, chkFr, chkBx, chkBx1, idsLt, kept, vs_int, vs_bool, vs_nil, vs_cons, vs_view, fget, isLB, bget, vsubP_self, ↓reduceIte, reduceCtorEq, Nat.reduceEqDiff, Nat.reduceLT, Int.cast_ofNat_Int, and_self, forall_const, implies_true, Option.some.injEq, exists_eq', keepF, appF, updB]; try rfl) fun y hy => ?_
          by_cases hyl : y < w + 1
          · have f6 : ((y : Int) < ((w + 1 : Nat) : Int)) = True := eq_true (by omega)
            have q4y := q4 y hyl
            simp (config := { maxSteps := 4000000 }) only [f6, q4y, eq_self, ↓imp_tt, ↓imp_tf, ↓imp_ft, ↓imp_ff, runO_4, runO_5, runO_6, runO_8, runO_14, runO_16, runO_17, runO_18, runO_19, aop, binV, ev, fget, fput, isLB, vget, addB, addN, mkv, frz, opOwns, preFz, callFz, skipOp, WfT, casts, castOks, cast1, castOk, norm, norms, norm1, normL, pureB, pureL, specV, argsL, capsL, mkE_S, lkp, stkFr, Val.toInt, ↓reduceIte, reduceCtorEq, Nat.reduceEqDiff, Nat.reduceAdd, Nat.zero_add, decide_true, List.length_cons, List.length_nil, List.append_nil, Bool.and_self, Bool.not_true, and_true, true_and, and_self, and_assoc, forall_const, imp_self, implies_true, Nat.le_refl, keepF, appF, updB, inat, Sp.c0, Sp.c1, Sp.eta]
            refine ⟨by omega, by omega, by omega, inv_intro (y + 1) (by omega) (by omega) ?_⟩
            simp only [Chk, chkFr, chkBx, chkBx1, idsLt, kept, vs_int, vs_bool, vs_nil, vs_cons, vs_view, fget, isLB, bget, vsubP_self, ↓reduceIte, reduceCtorEq, Nat.reduceEqDiff, Nat.reduceLT, and_true, true_and, and_self, forall_const, implies_true, Option.some.injEq, Val.int.injEq, exists_eq']
            rw [wrS (by omega)]
          · have f6 : ((y : Int) < ((w + 1 : Nat) : Int)) = False := eq_false (by omega)
            simp (config := { maxSteps := 4000000 }) only [f6, eq_self, ↓imp_ft, ↓imp_ff, runO_3, runO_5, runO_9, runO_14, runO_17, runO_18, runO_19, aop, binV, ends, ev, fget, fput, addB, addN, frz, opOwns, preFz, skipOp, WfT, resV, res1, snapV, snapOk, popTo, stkFr, ↓reduceIte, reduceCtorEq, Nat.reduceEqDiff, decide_false, and_self, forall_const, imp_self, implies_true, keepF, appF, updB]
    · have fb0 : (eb = 0) = False := eq_false hb0
      simp (config := { maxSteps := 4000000 }) only [RunTo, a10, sAlive, sReady, sGreatN, sAllA, sWithinL, hd0, fl, hfs, hA, hcg, ha0, fb0, hw, eq_self, Nat.not_lt_zero, Tl.w_c, Ch.w_c, ↓imp_tt, ↓imp_tf, ↓imp_ft, ↓imp_ff, runO_3, runO_4, runO_5, runO_6, runO_14, runO_15, runO_17, runO_18, runO_19, aop, binV, ends, reOk, dstV, Nat.zero_sub, ev, fget, fput, params, cellsOf, cellsN, isLB, vget, vset, vsets, vlen, bget, bset, addB, addN, mkv, sliceV, vtab, rowsV, rowsOk, vrep, frz, opOwns, preFz, callFz, skipOp, WfT, resV, res1, norm, norms, norm1, normL, pureB, pureL, flatB, onesB, snapV, snapOk, snapL, snapOks, specV, argsL, capsL, mkE_S, lkp, pickV, lenV, subFr, subV, subBx, subStk, elemsV, Fin, vp_bool, Val.toInt, Val.toBool, Val.slen, Val.scell, ↓reduceIte, reduceCtorEq, Nat.reduceEqDiff, Nat.reduceAdd, Nat.reduceSub, Nat.reduceLeDiff, Nat.reduceLT, Nat.zero_add, Nat.sub_zero, Int.reduceBEq, decide_false, beq_iff_eq, beq_eq_false_iff_ne, List.length_cons, List.length_nil, List.append_nil, Bool.not_eq_true', Bool.not_eq_false', Bool.and_true, Bool.and_false, Bool.and_self, Bool.bne_true, Bool.bne_false, bne_self_eq_false, Bool.not_true, Bool.not_false, Bool.false_eq_true, beq_self_eq_true, and_true, true_and, and_self, and_assoc, forall_const, imp_self, implies_true, Nat.le_refl, Val.bool.injEq, ne_eq, not_false_eq_true, false_implies, or_false, not_false_eq_true, maxLen, Nat.reducePow, TU_enc, spec0, spec1, spec2, spec3, TSl, IsSl, TInt, IsInt, Prod.eta, Sp.L, Sp.c0, Sp.c1, Sp.Is, Sp.of, TSp, RSp, Sp.w_c, Sp.d, Sp.eta, Sr.c0, Sr.c1, Sr.c2, Sr.c3, RSr, Sr.w_c, Sr.d, Sr.eta, Tl.L, Tl.c0, Tl.c1, Tl.c2, Tl.c3, Tl.c4, TTl, RTl, Tl.w_c, Tl.d, Tl.eta, Ch.c0, RCh, Ch.w_c, Ch.d, Ck.L, Ck.Is, Ck.of, TCk, Ck.d, Ck.eta]
      intro hg
      replace hg := @of_decide_eq_false _ (Classical.propDecidable _) hg
      have hn16 : ∀ i, i < night.1 → (night.2 i).told.1 ≤ 16 := fun i hi => by
        false_or_by_contra
        exact hg (.inr ⟨i, hi, by omega⟩)
      refine ⟨by omega, by omega, by omega, fun i hi => ?_, ?_⟩
      · by_cases h : i < l.1
        · simp only [h, if_true]; exact of_eq_true (Tl.w_c _)
        · rw [show i - l.1 = 0 from by omega]; simp only [h, if_false]; exact ⟨rfl, rfl, rfl, rfl, rfl⟩
      refine loopJ (ι := Nat) (fun j => j ≤ l.1) (fun j => l.1 - j) [1, 2, 4, 5, 6, 13, 14, 15, 94] (fun j => [(18, .own 6), (95, .int .i64 j)]) (fun j => [(6, .row 29 5 j fun i b => (revL l i).c b)]) 1 0 (by omega) (by simp only [Chk, chkFr, chkBx, chkBx1, newIn, hasB, idsLt, kept, vs_int, vs_bool, vs_nil, vs_own, vs_ptr, vs_cons, vs_view, fget, isLB, bget, bset, vsubP_self, ↓reduceIte, reduceCtorEq, Nat.reduceEqDiff, Nat.reduceAdd, Nat.reduceLT, Int.cast_ofNat_Int, and_true, and_self, forall_const, implies_true, Option.some.injEq, exists_eq', or_true, keepF, appF, updB]) fun j hj => ?_
      by_cases hlt : j < l.1
      · have f4 : ((j : Int) < (l.1 : Int)) = True := eq_true (by omega)
        have e1 : IntKind.i64.wrap (IntKind.i64.wrap ((l.1 : Int) - 1) - (j : Int)) = ((l.1 - 1 - j : Nat) : Int) := by rw [wr64 (e := (l.1 : Int) - 1) (by omega) (by omega), wr64 (by omega) (by omega)]; omega
        simp (config := { maxSteps := 4000000 }) only [hw, f4, e1, eq_self, ↓imp_tt, ↓imp_tf, runO_4, runO_5, runO_6, runO_8, runO_14, runO_16, runO_17, runO_18, runO_19, aop, binV, reOk, Nat.zero_sub, ev, fget, fput, cellsOf, cellsN, isLB, vset, vlen, bget, bset, addB, addN, mkv, rowsV, rowsOk, vrep, frz, opOwns, preFz, owns, skipOp, WfT, casts, castOks, cast1, castOk, pureB, onesB, mkE_G, lenV, subFr, subV, subBx, subStk, elemsV, stkFr, Val.toInt, ↓reduceIte, reduceCtorEq, Nat.reduceEqDiff, Nat.reduceAdd, Nat.reduceSub, Nat.reduceLeDiff, Nat.reduceLT, Nat.zero_add, decide_true, List.length_cons, List.length_nil, List.append_nil, List.flatMap_cons, List.flatMap_nil, Bool.and_self, and_true, true_and, and_self, and_assoc, forall_const, imp_self, implies_true, Nat.le_refl, or_false, maxLen, Nat.reducePow, keepF, appF, updB, inat, Tl.c0, Tl.c1, Tl.c2, Tl.c3, Tl.c4]
        refine ⟨by omega, by omega, by omega, by omega, inv_intro (j + 1) (by omega) (by omega) ?_⟩
        simp only [Chk, chkFr, chkBx, chkBx1, newIn, hasB, idsLt, kept, vs_int, vs_bool, vs_nil, vs_own, vs_ptr, vs_cons, vs_view, Nat.lt_irrefl, fget, isLB, bget, vsubP_self, ↓reduceIte, reduceCtorEq, Nat.reduceEqDiff, Nat.reduceLT, and_true, true_and, and_self, forall_const, implies_true, Option.some.injEq, Val.int.injEq, exists_eq', false_implies, or_false]
        rw [wrS (by omega)]
        refine ⟨rfl, fun i hi b hb => ?_⟩
        split
        · exact (vsubP_self _).mpr trivial
        · obtain rfl : i = j := by omega
          rw [Nat.sub_self]
          rcases (by omega : b = 0 ∨ b = 1 ∨ b = 2 ∨ b = 3 ∨ b = 4) with rfl | rfl | rfl | rfl | rfl <;> rfl
      · have f4 : ((j : Int) < (l.1 : Int)) = False := eq_false (by omega)
        obtain rfl : j = l.1 := by omega
        by_cases hg0 : ¬ (nightF k day night).2.2 = 0
        · have fg : ((nightF k day night).2.2 = 0) = False := eq_false hg0
          simp (config := { maxSteps := 4000000 }) only [sNightP, hw, f4, hrev, ha0, fg, eq_self, Nat.not_lt_zero, Tl.w_c, Ch.w_c, ↓imp_tt, ↓imp_tf, ↓imp_ft, ↓imp_ff, runO_3, runO_4, runO_5, runO_6, runO_9, runO_14, runO_15, runO_17, runO_18, runO_19, aop, binV, ends, reOk, Nat.zero_sub, ev, fget, fput, cellsOf, cellsN, isLB, vget, vset, vsets, vlen, bget, bset, bdel, addB, addN, mkv, sliceV, vtab, rowsV, rowsOk, vrep, frz, opOwns, preFz, callFz, ownsL, owns, skipOp, WfT, resV, res1, casts, castOks, cast1, castOk, norm, norms, norm1, normL, pureB, pureL, flatB, onesB, snapV, snapOk, snapL, snapOks, specV, argsL, capsL, mkE_S, mkE_G, lkp, eqCells, eqOk, pickV, optInt, lenV, subFr, subV, subBx, subStk, elemsV, popTo, stkFr, Val.toInt, Val.toBool, Val.slen, Val.scell, ↓reduceIte, reduceCtorEq, Nat.reduceEqDiff, Nat.reduceAdd, Nat.reduceSub, Nat.reduceLeDiff, Nat.reduceLT, Nat.zero_add, Nat.add_zero, Nat.sub_zero, Int.reduceToNat, Int.reduceLE, Int.reduceEq, decide_false, beq_iff_eq, beq_eq_false_iff_ne, bne_iff_ne, bne_eq_false_iff_eq, List.length_cons, List.length_nil, List.nil_append, List.append_nil, List.flatMap_nil, Bool.and_true, Bool.and_false, Bool.and_self, Bool.bne_false, bne_self_eq_false, Bool.not_true, Bool.not_false, Bool.false_eq_true, beq_self_eq_true, and_true, true_and, and_self, and_assoc, forall_const, imp_self, implies_true, Nat.le_refl, Val.bool.injEq, ne_eq, not_false_eq_true, false_implies, or_true, or_false, not_false_eq_true, maxLen, Nat.reducePow, keepF, appF, updB, spec3, TSl, IsSl, TInt, IsInt, Prod.eta, Sp.c0, Sp.c1, RSp, Sp.w_c, Sp.d, Sp.eta, Sr.c0, Sr.c1, Sr.c2, Sr.c3, RSr, Sr.w_c, Sr.d, Sr.eta, Tl.c0, Tl.c1, Tl.c2, Tl.c3, Tl.c4, RTl, Tl.w_c, Tl.d, Tl.eta, Ch.c0, Ch.c1, Ch.c2, RCh, Ch.w_c, Ch.d, Ch.eta, Ck.L, Ck.Is, Ck.of, TCk, Ck.d, Ck.eta]
          exact fun i hi => by have := hn16 i hi; omega
        · replace hg0 := Classical.not_not.1 hg0
          obtain ⟨_, n1, n2, n3, n4⟩ := nightF_0 hg0
          by_cases hz : night.1 = 0
          · have fz : ((night.1 : Int) = 0) = True := eq_true (by omega)
            simp (config := { maxSteps := 4000000 }) only [sNightP, hw, f4, hrev, ha0, hg0, fz, eq_self, Nat.not_lt_zero, Tl.w_c, Ch.w_c, ↓imp_tt, ↓imp_tf, ↓imp_ft, ↓imp_ff, runO_3, runO_4, runO_5, runO_6, runO_9, runO_14, runO_15, runO_17, runO_18, runO_19, aop, binV, ends, reOk, Nat.zero_sub, ev, fget, fput, cellsOf, cellsN, isLB, vget, vset, vsets, vlen, bget, bset, bdel, addB, addN, mkv, sliceV, vtab, rowsV, rowsOk, vrep, frz, opOwns, preFz, callFz, ownsL, owns, skipOp, WfT, resV, res1, casts, castOks, cast1, castOk, norm, norms, norm1, normL, pureB, pureL, flatB, onesB, snapV, snapOk, snapL, snapOks, specV, argsL, capsL, mkE_S, mkE_G, lkp, eqCells, eqOk, pickV, optInt, lenV, subFr, subV, subBx, subStk, elemsV, popTo, stkFr, Val.toInt, Val.toBool, Val.slen, Val.scell, ↓reduceIte, reduceCtorEq, Nat.reduceEqDiff, Nat.reduceAdd, Nat.reduceSub, Nat.reduceLeDiff, Nat.reduceLT, Nat.zero_add, Nat.add_zero, Nat.sub_zero, Int.reduceToNat, Int.reduceLE, Int.reduceEq, decide_false, beq_iff_eq, beq_eq_false_iff_ne, bne_iff_ne, bne_eq_false_iff_eq, List.length_cons, List.length_nil, List.nil_append, List.append_nil, List.flatMap_nil, Bool.and_true, Bool.and_false, Bool.and_self, Bool.bne_false, bne_self_eq_false, Bool.not_true, Bool.not_false, Bool.false_eq_true, beq_self_eq_true, and_true, true_and, and_self, and_assoc, forall_const, imp_self, implies_true, Nat.le_refl, Val.bool.injEq, ne_eq, not_false_eq_true, false_implies, or_true, or_false, not_true_eq_false, not_false_eq_true, maxLen, Nat.reducePow, keepF, appF, updB, spec3, TSl, IsSl, TInt, IsInt, Prod.eta, Sp.c0, Sp.c1, RSp, Sp.w_c, Sp.d, Sp.eta, Sr.c0, Sr.c1, Sr.c2, Sr.c3, RSr, Sr.w_c, Sr.d, Sr.eta, Tl.c0, Tl.c1, Tl.c2, Tl.c3, Tl.c4, RTl, Tl.w_c, Tl.d, Tl.eta, Ch.c0, Ch.c1, Ch.c2, RCh, Ch.w_c, Ch.d, Ch.eta, Ck.L, Ck.Is, Ck.of, TCk, Ck.d, Ck.eta]
            exact fun i hi => by have := hn16 i hi; omega
          have fz : ((night.1 : Int) = 0) = False := eq_false (by omega)
          have hu := u8_bd which
          have hw1 := Int.emod_nonneg which.1 (b := (night.1 : Int)) (by omega)
          have hw2 := Int.emod_lt_of_pos which.1 (b := (night.1 : Int)) (by omega)
          obtain ⟨w, hwd⟩ : ∃ w : Nat, which.1 % (night.1 : Int) = (w : Int) := ⟨(which.1 % (night.1 : Int)).toNat, by omega⟩
          have en : (IntKind.i64.wrap which.1).tmod (night.1 : Int) = (w : Int) := by
            rw [wr64 (e := which.1) (by omega) (by omega), Int.tmod_eq_emod_of_nonneg hu.1, hwd]
          have et : IntKind.i64.wrap (((night.2 w).told.1 : Int).tdiv 2) = (((night.2 w).told.1 / 2 : Nat) : Int) := by
            have := hn16 w (by omega)
            rw [Int.tdiv_eq_ediv_of_nonneg (by omega), wr64 (by omega) (by omega)]; omega
          obtain ⟨h, hh⟩ : ∃ h : Nat, (night.2 w).told.1 / 2 = h := ⟨_, rfl⟩
          rw [hh] at et
          obtain ⟨ff, hffd⟩ : ∃ ff : Nat → Ch, ff = fun i => Ch.d fun j' => if i = w ∧ 0 ≤ j' ∧ j' < 1 then vget (.cons (.view 5 ((h : Int) - 0).toNat fun a b => ((night.2 w).told.2 a).c b) .nil) j' else (night.2 i).c j' := ⟨_, rfl⟩
          have hff : ff = (fewL night w).2 := by
            funext i; rw [hffd]; simp only [fewL]
            by_cases h5 : i = w
            · subst h5
              have e9 : ((h : Int) - 0).toNat = h := by omega
              simp [Ch.d, Ch.c, halfC, vget, Val.slen, Val.scell, Val.toInt, Val.toBool, RTl, Tl.d_c, hh]
            · simp [h5]; exact Ch.d_c _
          simp only [vget, Val.toInt, Val.toBool, Val.slen, Val.scell, Nat.reduceLeDiff, Nat.reduceLT, and_true, true_and, and_self, Nat.le_refl, RTl, Tl.d, Ch.c0, Ch.c1, Ch.c2, Ch.d] at hffd
          have hffs := hffd.symm
          obtain ⟨k1, k2⟩ := few_ok (c := k) (day := day) (w := w) n2
          obtain ⟨m1, m2⟩ := night_mono (l' := fewL night w) hg0 h0 (Nat.le_refl _) k1 k2
          obtain ⟨m3, m4⟩ := night_mono (l' := (w + 1, night.2)) hg0 h0 (show w + 1 ≤ night.1 by omega) (fun j hj => n2 j (by have : j < w + 1 := hj; omega)) fun x hx => hx.less (show w + 1 ≤ night.1 by omega)
          obtain ⟨sf, hsf⟩ : ∃ sf : Nat → Sp, (fun i => minsF (bwdF k day night.2 night.1 (night.1 - 1 - i))) = sf := ⟨_, rfl⟩
          obtain ⟨tf, htf⟩ : ∃ tf : Nat → Sp, (fun i => minsF (bwdF k day (fewL night w).2 (fewL night w).1 ((fewL night w).1 - 1 - i))) = tf := ⟨_, rfl⟩
          obtain ⟨uf, huf⟩ : ∃ uf : Nat → Sp, (fun i => minsF (bwdF k day night.2 (w + 1) (w + 1 - 1 - i))) = uf := ⟨_, rfl⟩
          rw [hsf] at n4
          rw [htf] at m1
          simp only at m3 m4
          rw [huf] at m3
          have e5 : nightF k day (night.1, ff) = ((night.1, tf), 0, 0) := by rw [hff]; exact m1
          have q2 : ∀ z, z < night.1 → witB (sf z) (tf z) = true := fun z hz => by have := m2 z hz; rw [n4] at this; rw [← htf]; exact this
          have q4 : ∀ z, z < w + 1 → witB (sf z) (uf z) = true := fun z hz => by have := m4 z hz; rw [n4] at this; rw [← huf]; exact this
          simp (config := { maxSteps := 4000000 }) only [sNightP, hw, f4, hrev, ha0, n4, fz, en, et, hffs, e5, eq_self, Nat.not_lt_zero, Tl.w_c, Ch.w_c, ↓imp_ft, ↓imp_ff, runO_3, runO_4, runO_5, runO_6, runO_9, runO_14, runO_15, runO_17, runO_18, runO_19, aop, binV, ends, reOk, Nat.zero_sub, ev, fget, fput, cellsOf, cellsN, isLB, vget, vset, vsets, vlen, bget, bset, bdel, addB, addN, mkv, sliceV, vtab, rowsV, rowsOk, vrep, frz, opOwns, preFz, callFz, ownsL, owns, skipOp, WfT, resV, res1, casts, castOks, cast1, castOk, norm, norms, norm1, normL, pureB, pureL, flatB, onesB, snapV, snapOk, snapL, snapOks, specV, argsL, capsL, mkE_S, mkE_G, lkp, eqCells, eqOk, pickV, optInt, lenV, subFr, subV, subBx, subStk, elemsV, popTo, stkFr, Val.toInt, Val.toBool, Val.slen, Val.scell, ↓reduceIte, reduceCtorEq, Nat.reduceEqDiff, Nat.reduceAdd, Nat.reduceSub, Nat.reduceLeDiff, Nat.reduceLT, Nat.zero_add, Nat.add_zero, Nat.sub_zero, Int.reduceToNat, Int.reduceLE, Int.reduceEq, decide_false, beq_iff_eq, beq_eq_false_iff_ne, List.length_cons, List.length_nil, List.nil_append, List.append_nil, List.flatMap_nil, Bool.and_true, Bool.and_false, Bool.and_self, bne_self_eq_false, Bool.not_true, Bool.not_false, beq_self_eq_true, and_true, true_and, and_self, and_assoc, forall_const, imp_self, implies_true, Nat.le_refl, ne_eq, not_false_eq_true, or_true, or_false, not_false_eq_true, maxLen, Nat.reducePow, keepF, appF, updB, inat, spec3, TSl, IsSl, TInt, IsInt, Prod.eta, Sp.c0, Sp.c1, RSp, Sp.w_c, Sp.d, Sp.eta, Sr.c0, Sr.c1, Sr.c2, Sr.c3, RSr, Sr.w_c, Sr.d, Sr.eta, Tl.c0, Tl.c1, Tl.c2, Tl.c3, Tl.c4, RTl, Tl.w_c, Tl.d, Tl.eta, Ch.c0, Ch.c1, Ch.c2, RCh, Ch.w_c, Ch.d, Ch.eta, Ck.L, Ck.Is, Ck.of, TCk, Ck.d, Ck.eta]
          have hhw := hn16 w (by omega)
          refine ⟨fun i hi => by have := hn16 i hi; omega, by omega, by omega, by omega, by omega, by omega, by omega, by omega, by omega, by omega, fun i hi => ?_, fun i hi => ?_, ?_⟩
          · by_cases h5 : i = w
            · subst h5
              have e9 : (fun j' => if i = i ∧ 0 ≤ j' ∧ j' < 1 then vget (.cons (.view 5 ((h : Int) - 0).toNat fun a b => ((night.2 i).told.2 a).c b) .nil) j' else (night.2 i).c j') = Ch.c ⟨(((h : Int) - 0).toNat, (night.2 i).told.2), (night.2 i).bowls, (night.2 i).full⟩ := by
                funext j'
                match j' with
                | 0 => simp [vget, Ch.c, RTl]
                | 1 => simp [Ch.c]
                | 2 => simp [Ch.c]
                | k + 3 => simp [Ch.c]
              rw [e9]; exact of_eq_true (Ch.w_c _)
            · simp only [h5, false_and, if_false]; exact of_eq_true (Ch.w_c _)
          · have := hn16 i hi
            by_cases h5 : i = w
            · simp only [h5, if_true]; omega
            · simp only [h5, if_false]; omega
          intros
          refine loopI (ι := Nat) (fun z => z ≤ night.1) (fun z => night.1 - z) [1, 4, 6, 13, 22, 25, 27, 191] (fun z => [(192, .int .i64 z)]) (fun _ => []) 0 (by omega) (by simp only [Chk, chkFr, chkBx, chkBx1, hasB, idsLt, kept, vs_int, vs_bool, vs_nil, vs_ptr, vs_cons, vs_view, fget, isLB, bget, vsubP_self, ↓reduceIte, reduceCtorEq, Nat.reduceEqDiff, Nat.reduceLT, Int.cast_ofNat_Int, and_self, forall_const, implies_true, Option.some.injEq, exists_eq', keepF, appF, updB]; try rfl) fun z hz => ?_
          by_cases hzl : z < night.1
          · have f5 : ((z : Int) < (night.1 : Int)) = True := eq_true (by omega)
            have q2z := q2 z hzl
            simp (config := { maxSteps := 4000000 }) only [f5, q2z, eq_self, ↓imp_tt, ↓imp_tf, ↓imp_ft, ↓imp_ff, runO_4, runO_5, runO_6, runO_8, runO_14, runO_16, runO_17, runO_18, runO_19, aop, binV, ev, fget, fput, isLB, vget, addB, addN, mkv, frz, opOwns, preFz, callFz, skipOp, WfT, casts, castOks, cast1, castOk, norm, norms, norm1, normL, pureB, pureL, specV, argsL, capsL, mkE_S, lkp, stkFr, Val.toInt, ↓reduceIte, reduceCtorEq, Nat.reduceEqDiff, Nat.reduceAdd, Nat.zero_add, decide_true, List.length_cons, List.length_nil, List.append_nil, Bool.and_self, Bool.not_true, and_true, true_and, and_self, forall_const, imp_self, implies_true, Nat.le_refl, keepF, appF, updB, inat, Sp.c0, Sp.c1, Sp.eta]
            refine ⟨by omega, by omega, inv_intro (z + 1) (by omega) (by omega) ?_⟩
            simp only [Chk, chkFr, chkBx, chkBx1, hasB, idsLt, kept, vs_int, vs_bool, vs_nil, vs_ptr, vs_cons, vs_view, fget, isLB, bget, vsubP_self, ↓reduceIte, reduceCtorEq, Nat.reduceEqDiff, Nat.reduceLT, and_true, true_and, and_self, forall_const, implies_true, Option.some.injEq, Val.int.injEq, exists_eq']
            rw [wrS (by omega)]
          have f5 : ((z : Int) < (night.1 : Int)) = False := eq_false (by omega)
          have ew : IntKind.i64.wrap ((w : Int) + 1) = ((w + 1 : Nat) : Int) := by rw [wr64 (by omega) (by omega)]; omega
          have ew2 : (((w + 1 : Nat) : Int) - 0).toNat = w + 1 := by omega
          simp (config := { maxSteps := 4000000 }) only [f5, ew, ew2, m3, eq_self, ↓imp_ft, ↓imp_ff, runO_4, runO_5, runO_6, runO_9, runO_14, runO_15, runO_17, runO_18, runO_19, aop, binV, ev, fget, fput, isLB, vget, vlen, bget, addB, addN, mkv, sliceV, vtab, frz, opOwns, preFz, skipOp, WfT, norm, norms, norm1, normL, pureB, pureL, specV, argsL, capsL, mkE_S, lkp, pickV, optInt, lenV, popTo, stkFr, Val.toInt, ↓reduceIte, reduceCtorEq, Nat.reduceEqDiff, Nat.reduceAdd, Nat.reduceSub, Nat.reduceLeDiff, Nat.reduceLT, Nat.zero_add, Int.reduceToNat, Int.reduceLE, decide_false, List.length_cons, List.length_nil, List.append_nil, Bool.and_self, bne_self_eq_false, true_and, and_self, and_assoc, forall_const, imp_self, implies_true, Nat.le_refl, maxLen, Nat.reducePow, keepF, appF, updB, Prod.eta, Sp.c0, Sp.c1, Sp.w_c, Sp.eta, Sr.c0, Sr.c1, Sr.c2, Sr.c3, Sr.w_c, Sr.eta, Tl.c0, Tl.c1, Tl.c2, Tl.c3, Tl.c4, RTl, Tl.d, Tl.eta, Ch.c0, Ch.c1, Ch.c2, Ch.w_c, Ch.eta, Ck.eta]
          refine ⟨by omega, by omega, fun i hi => by have := hn16 i (by omega); omega, ?_⟩
          intros
          refine loopI (ι := Nat) (fun z => z ≤ w + 1) (fun z => w + 1 - z) [13, 22, 31, 227] (fun z => [(228, .int .i64 z)]) (fun _ => []) 0 (by omega) (by simp only [Chk, chkFr, chkBx, chkBx1, idsLt, kept, vs_int, vs_bool, vs_nil, vs_cons, vs_view, fget, isLB, bget, vsubP_self, ↓reduceIte, reduceCtorEq, Nat.reduceEqDiff, Nat.reduceLT, Int.cast_ofNat_Int, and_self, forall_const, implies_true, Option.some.injEq, exists_eq', keepF, appF, updB]; try rfl) fun y hy => ?_
          by_cases hyl : y < w + 1
          · have f6 : ((y : Int) < ((w + 1 : Nat) : Int)) = True := eq_true (by omega)
            have q4y := q4 y hyl
            simp (config := { maxSteps := 4000000 }) only [f6, q4y, eq_self, ↓imp_tt, ↓imp_tf, ↓imp_ft, ↓imp_ff, runO_4, runO_5, runO_6, runO_8, runO_14, runO_16, runO_17, runO_18, runO_19, aop, binV, ev, fget, fput, isLB, vget, addB, addN, mkv, frz, opOwns, preFz, callFz, skipOp, WfT, casts, castOks, cast1, castOk, norm, norms, norm1, normL, pureB, pureL, specV, argsL, capsL, mkE_S, lkp, stkFr, Val.toInt, ↓reduceIte, reduceCtorEq, Nat.reduceEqDiff, Nat.reduceAdd, Nat.zero_add, decide_true, List.length_cons, List.length_nil, List.append_nil, Bool.and_self, Bool.not_true, and_true, true_and, and_self, and_assoc, forall_const, imp_self, implies_true, Nat.le_refl, keepF, appF, updB, inat, Sp.c0, Sp.c1, Sp.eta]
            refine ⟨by omega, by omega, by omega, inv_intro (y + 1) (by omega) (by omega) ?_⟩
            simp only [Chk, chkFr, chkBx, chkBx1, idsLt, kept, vs_int, vs_bool, vs_nil, vs_cons, vs_view, fget, isLB, bget, vsubP_self, ↓reduceIte, reduceCtorEq, Nat.reduceEqDiff, Nat.reduceLT, and_true, true_and, and_self, forall_const, implies_true, Option.some.injEq, Val.int.injEq, exists_eq']
            rw [wrS (by omega)]
          · have f6 : ((y : Int) < ((w + 1 : Nat) : Int)) = False := eq_false (by omega)
            simp (config := { maxSteps := 4000000 }) only [f6, eq_self, ↓imp_ft, ↓imp_ff, runO_3, runO_5, runO_9, runO_14, runO_17, runO_18, runO_19, aop, binV, ends, ev, fget, fput, addB, addN, frz, opOwns, preFz, skipOp, WfT, resV, res1, snapV, snapOk, popTo, stkFr, ↓reduceIte, reduceCtorEq, Nat.reduceEqDiff, decide_false, and_self, forall_const, imp_self, implies_true, keepF, appF, updB]
  · have fa0 : (ea = 0) = False := eq_false ha0
    by_cases hb0 : eb = 0
    · have f32 : (ea = 32) = False := eq_false fun h => by
        rcases hmo hb0 with h2 | h2
        · exact ha0 h2.1
        · have := hz6 h2; omega
      simp (config := { maxSteps := 4000000 }) only [RunTo, a10, sAlive, sReady, sGreatN, sAllA, sWithinL, hd0, fl, hfs, hA, hcg, fa0, hb0, f32, hw, eq_self, Nat.not_lt_zero, Tl.w_c, Ch.w_c, ↓imp_tt, ↓imp_tf, ↓imp_ft, ↓imp_ff, runO_3, runO_4, runO_5, runO_6, runO_14, runO_15, runO_17, runO_18, runO_19, aop, binV, ends, reOk, dstV, Nat.zero_sub, ev, fget, fput, params, cellsOf, cellsN, isLB, vget, vset, vsets, vlen, bget, bset, addB, addN, mkv, sliceV, vtab, rowsV, rowsOk, vrep, frz, opOwns, preFz, callFz, skipOp, WfT, resV, res1, norm, norms, norm1, normL, pureB, pureL, flatB, onesB, snapV, snapOk, snapL, snapOks, specV, argsL, capsL, mkE_S, lkp, pickV, lenV, subFr, subV, subBx, subStk, elemsV, Fin, vp_bool, Val.toInt, Val.toBool, Val.slen, Val.scell, ↓reduceIte, reduceCtorEq, Nat.reduceEqDiff, Nat.reduceAdd, Nat.reduceSub, Nat.reduceLeDiff, Nat.reduceLT, Nat.zero_add, Nat.sub_zero, decide_false, beq_iff_eq, beq_eq_false_iff_ne, List.length_cons, List.length_nil, List.append_nil, Bool.not_eq_true', Bool.not_eq_false', Bool.and_true, Bool.and_false, Bool.and_self, Bool.bne_true, Bool.bne_false, bne_self_eq_false, Bool.not_true, Bool.not_false, Bool.false_eq_true, beq_self_eq_true, and_true, true_and, and_self, and_assoc, forall_const, imp_self, implies_true, Nat.le_refl, Val.bool.injEq, ne_eq, not_false_eq_true, false_implies, or_false, not_false_eq_true, maxLen, Nat.reducePow, TU_enc, spec0, spec1, spec2, spec3, TSl, IsSl, TInt, IsInt, Prod.eta, Sp.L, Sp.c0, Sp.c1, Sp.Is, Sp.of, TSp, RSp, Sp.w_c, Sp.d, Sp.eta, Sr.c0, Sr.c1, Sr.c2, Sr.c3, RSr, Sr.w_c, Sr.d, Sr.eta, Tl.L, Tl.c0, Tl.c1, Tl.c2, Tl.c3, Tl.c4, TTl, RTl, Tl.w_c, Tl.d, Tl.eta, Ch.c0, RCh, Ch.w_c, Ch.d, Ck.L, Ck.Is, Ck.of, TCk, Ck.d, Ck.eta]
      intro hg
      replace hg := @of_decide_eq_false _ (Classical.propDecidable _) hg
      have hn16 : ∀ i, i < night.1 → (night.2 i).told.1 ≤ 16 := fun i hi => by
        false_or_by_contra
        exact hg (.inr ⟨i, hi, by omega⟩)
      refine ⟨by omega, by omega, by omega, fun i hi => ?_, ?_⟩
      · by_cases h : i < l.1
        · simp only [h, if_true]; exact of_eq_true (Tl.w_c _)
        · rw [show i - l.1 = 0 from by omega]; simp only [h, if_false]; exact ⟨rfl, rfl, rfl, rfl, rfl⟩
      refine loopJ (ι := Nat) (fun j => j ≤ l.1) (fun j => l.1 - j) [1, 2, 4, 5, 6, 13, 14, 15, 94] (fun j => [(18, .own 6), (95, .int .i64 j)]) (fun j => [(6, .row 29 5 j fun i b => (revL l i).c b)]) 1 0 (by omega) (by simp only [Chk, chkFr, chkBx, chkBx1, newIn, hasB, idsLt, kept, vs_int, vs_bool, vs_nil, vs_own, vs_ptr, vs_cons, vs_view, fget, isLB, bget, bset, vsubP_self, ↓reduceIte, reduceCtorEq, Nat.reduceEqDiff, Nat.reduceAdd, Nat.reduceLT, Int.cast_ofNat_Int, and_true, and_self, forall_const, implies_true, Option.some.injEq, exists_eq', or_true, keepF, appF, updB]) fun j hj => ?_
      by_cases hlt : j < l.1
      · have f4 : ((j : Int) < (l.1 : Int)) = True := eq_true (by omega)
        have e1 : IntKind.i64.wrap (IntKind.i64.wrap ((l.1 : Int) - 1) - (j : Int)) = ((l.1 - 1 - j : Nat) : Int) := by rw [wr64 (e := (l.1 : Int) - 1) (by omega) (by omega), wr64 (by omega) (by omega)]; omega
        simp (config := { maxSteps := 4000000 }) only [hw, f4, e1, eq_self, ↓imp_tt, ↓imp_tf, runO_4, runO_5, runO_6, runO_8, runO_14, runO_16, runO_17, runO_18, runO_19, aop, binV, reOk, Nat.zero_sub, ev, fget, fput, cellsOf, cellsN, isLB, vset, vlen, bget, bset, addB, addN, mkv, rowsV, rowsOk, vrep, frz, opOwns, preFz, owns, skipOp, WfT, casts, castOks, cast1, castOk, pureB, onesB, mkE_G, lenV, subFr, subV, subBx, subStk, elemsV, stkFr, Val.toInt, ↓reduceIte, reduceCtorEq, Nat.reduceEqDiff, Nat.reduceAdd, Nat.reduceSub, Nat.reduceLeDiff, Nat.reduceLT, Nat.zero_add, decide_true, List.length_cons, List.length_nil, List.append_nil, List.flatMap_cons, List.flatMap_nil, Bool.and_self, and_true, true_and, and_self, and_assoc, forall_const, imp_self, implies_true, Nat.le_refl, or_false, maxLen, Nat.reducePow, keepF, appF, updB, inat, Tl.c0, Tl.c1, Tl.c2, Tl.c3, Tl.c4]
        refine ⟨by omega, by omega, by omega, by omega, inv_intro (j + 1) (by omega) (by omega) ?_⟩
        simp only [Chk, chkFr, chkBx, chkBx1, newIn, hasB, idsLt, kept, vs_int, vs_bool, vs_nil, vs_own, vs_ptr, vs_cons, vs_view, Nat.lt_irrefl, fget, isLB, bget, vsubP_self, ↓reduceIte, reduceCtorEq, Nat.reduceEqDiff, Nat.reduceLT, and_true, true_and, and_self, forall_const, implies_true, Option.some.injEq, Val.int.injEq, exists_eq', false_implies, or_false]
        rw [wrS (by omega)]
        refine ⟨rfl, fun i hi b hb => ?_⟩
        split
        · exact (vsubP_self _).mpr trivial
        · obtain rfl : i = j := by omega
          rw [Nat.sub_self]
          rcases (by omega : b = 0 ∨ b = 1 ∨ b = 2 ∨ b = 3 ∨ b = 4) with rfl | rfl | rfl | rfl | rfl <;> rfl
      · have f4 : ((j : Int) < (l.1 : Int)) = False := eq_false (by omega)
        obtain rfl : j = l.1 := by omega
        by_cases hg0 : ¬ (nightF k day night).2.2 = 0
        · have fg : ((nightF k day night).2.2 = 0) = False := eq_false hg0
          simp (config := { maxSteps := 4000000 }) only [sNightP, hw, f4, hrev, fa0, fg, eq_self, Nat.not_lt_zero, Tl.w_c, Ch.w_c, ↓imp_tt, ↓imp_tf, ↓imp_ft, ↓imp_ff, runO_3, runO_4, runO_5, runO_6, runO_9, runO_14, runO_15, runO_17, runO_18, runO_19, aop, binV, ends, reOk, Nat.zero_sub, ev, fget, fput, cellsOf, cellsN, isLB, vget, vset, vsets, vlen, bget, bset, bdel, addB, addN, mkv, sliceV, vtab, rowsV, rowsOk, vrep, frz, opOwns, preFz, callFz, ownsL, owns, skipOp, WfT, resV, res1, casts, castOks, cast1, castOk, norm, norms, norm1, normL, pureB, pureL, flatB, onesB, snapV, snapOk, snapL, snapOks, specV, argsL, capsL, mkE_S, mkE_G, lkp, eqCells, eqOk, pickV, optInt, lenV, subFr, subV, subBx, subStk, elemsV, popTo, stkFr, Val.toInt, Val.toBool, Val.slen, Val.scell, ↓reduceIte, reduceCtorEq, Nat.reduceEqDiff, Nat.reduceAdd, Nat.reduceSub, Nat.reduceLeDiff, Nat.reduceLT, Nat.zero_add, Nat.add_zero, Nat.sub_zero, Int.reduceToNat, Int.reduceLE, Int.reduceEq, decide_false, beq_iff_eq, beq_eq_false_iff_ne, bne_iff_ne, bne_eq_false_iff_eq, List.length_cons, List.length_nil, List.nil_append, List.append_nil, List.flatMap_nil, Bool.and_true, Bool.and_false, Bool.and_self, Bool.bne_false, bne_self_eq_false, Bool.not_true, Bool.not_false, Bool.false_eq_true, beq_self_eq_true, and_true, true_and, and_self, and_assoc, forall_const, imp_self, implies_true, Nat.le_refl, Val.bool.injEq, ne_eq, not_false_eq_true, false_implies, or_true, or_false, not_false_eq_true, maxLen, Nat.reducePow, keepF, appF, updB, spec3, TSl, IsSl, TInt, IsInt, Prod.eta, Sp.c0, Sp.c1, RSp, Sp.w_c, Sp.d, Sp.eta, Sr.c0, Sr.c1, Sr.c2, Sr.c3, RSr, Sr.w_c, Sr.d, Sr.eta, Tl.c0, Tl.c1, Tl.c2, Tl.c3, Tl.c4, RTl, Tl.w_c, Tl.d, Tl.eta, Ch.c0, Ch.c1, Ch.c2, RCh, Ch.w_c, Ch.d, Ch.eta, Ck.L, Ck.Is, Ck.of, TCk, Ck.d, Ck.eta]
          exact fun i hi => by have := hn16 i hi; omega
        · replace hg0 := Classical.not_not.1 hg0
          obtain ⟨_, n1, n2, n3, n4⟩ := nightF_0 hg0
          by_cases hz : night.1 = 0
          · have fz : ((night.1 : Int) = 0) = True := eq_true (by omega)
            simp (config := { maxSteps := 4000000 }) only [sNightP, hw, f4, hrev, fa0, hg0, fz, eq_self, Nat.not_lt_zero, Tl.w_c, Ch.w_c, ↓imp_tt, ↓imp_tf, ↓imp_ft, ↓imp_ff, runO_3, runO_4, runO_5, runO_6, runO_9, runO_14, runO_15, runO_17, runO_18, runO_19, aop, binV, ends, reOk, Nat.zero_sub, ev, fget, fput, cellsOf, cellsN, isLB, vget, vset, vsets, vlen, bget, bset, bdel, addB, addN, mkv, sliceV, vtab, rowsV, rowsOk, vrep, frz, opOwns, preFz, callFz, ownsL, owns, skipOp, WfT, resV, res1, casts, castOks, cast1, castOk, norm, norms, norm1, normL, pureB, pureL, flatB, onesB, snapV, snapOk, snapL, snapOks, specV, argsL, capsL, mkE_S, mkE_G, lkp, eqCells, eqOk, pickV, optInt, lenV, subFr, subV, subBx, subStk, elemsV, popTo, stkFr, Val.toInt, Val.toBool, Val.slen, Val.scell, ↓reduceIte, reduceCtorEq, Nat.reduceEqDiff, Nat.reduceAdd, Nat.reduceSub, Nat.reduceLeDiff, Nat.reduceLT, Nat.zero_add, Nat.add_zero, Nat.sub_zero, Int.reduceToNat, Int.reduceLE, Int.reduceEq, decide_false, beq_iff_eq, beq_eq_false_iff_ne, bne_iff_ne, bne_eq_false_iff_eq, List.length_cons, List.length_nil, List.nil_append, List.append_nil, List.flatMap_nil, Bool.and_true, Bool.and_false, Bool.and_self, Bool.bne_false, bne_self_eq_false, Bool.not_true, Bool.not_false, Bool.false_eq_true, beq_self_eq_true, and_true, true_and, and_self, and_assoc, forall_const, imp_self, implies_true, Nat.le_refl, Val.bool.injEq, ne_eq, not_false_eq_true, false_implies, or_true, or_false, not_true_eq_false, not_false_eq_true, maxLen, Nat.reducePow, keepF, appF, updB, spec3, TSl, IsSl, TInt, IsInt, Prod.eta, Sp.c0, Sp.c1, RSp, Sp.w_c, Sp.d, Sp.eta, Sr.c0, Sr.c1, Sr.c2, Sr.c3, RSr, Sr.w_c, Sr.d, Sr.eta, Tl.c0, Tl.c1, Tl.c2, Tl.c3, Tl.c4, RTl, Tl.w_c, Tl.d, Tl.eta, Ch.c0, Ch.c1, Ch.c2, RCh, Ch.w_c, Ch.d, Ch.eta, Ck.L, Ck.Is, Ck.of, TCk, Ck.d, Ck.eta]
            exact fun i hi => by have := hn16 i hi; omega
          have fz : ((night.1 : Int) = 0) = False := eq_false (by omega)
          have hu := u8_bd which
          have hw1 := Int.emod_nonneg which.1 (b := (night.1 : Int)) (by omega)
          have hw2 := Int.emod_lt_of_pos which.1 (b := (night.1 : Int)) (by omega)
          obtain ⟨w, hwd⟩ : ∃ w : Nat, which.1 % (night.1 : Int) = (w : Int) := ⟨(which.1 % (night.1 : Int)).toNat, by omega⟩
          have en : (IntKind.i64.wrap which.1).tmod (night.1 : Int) = (w : Int) := by
            rw [wr64 (e := which.1) (by omega) (by omega), Int.tmod_eq_emod_of_nonneg hu.1, hwd]
          have et : IntKind.i64.wrap (((night.2 w).told.1 : Int).tdiv 2) = (((night.2 w).told.1 / 2 : Nat) : Int) := by
            have := hn16 w (by omega)
            rw [Int.tdiv_eq_ediv_of_nonneg (by omega), wr64 (by omega) (by omega)]; omega
          obtain ⟨h, hh⟩ : ∃ h : Nat, (night.2 w).told.1 / 2 = h := ⟨_, rfl⟩
          rw [hh] at et
          obtain ⟨ff, hffd⟩ : ∃ ff : Nat → Ch, ff = fun i => Ch.d fun j' => if i = w ∧ 0 ≤ j' ∧ j' < 1 then vget (.cons (.view 5 ((h : Int) - 0).toNat fun a b => ((night.2 w).told.2 a).c b) .nil) j' else (night.2 i).c j' := ⟨_, rfl⟩
          have hff : ff = (fewL night w).2 := by
            funext i; rw [hffd]; simp only [fewL]
            by_cases h5 : i = w
            · subst h5
              have e9 : ((h : Int) - 0).toNat = h := by omega
              simp [Ch.d, Ch.c, halfC, vget, Val.slen, Val.scell, Val.toInt, Val.toBool, RTl, Tl.d_c, hh]
            · simp [h5]; exact Ch.d_c _
          simp only [vget, Val.toInt, Val.toBool, Val.slen, Val.scell, Nat.reduceLeDiff, Nat.reduceLT, and_true, true_and, and_self, Nat.le_refl, RTl, Tl.d, Ch.c0, Ch.c1, Ch.c2, Ch.d] at hffd
          have hffs := hffd.symm
          obtain ⟨k1, k2⟩ := few_ok (c := k) (day := day) (w := w) n2
          obtain ⟨m1, m2⟩ := night_mono (l' := fewL night w) hg0 h0 (Nat.le_refl _) k1 k2
          obtain ⟨m3, m4⟩ := night_mono (l' := (w + 1, night.2)) hg0 h0 (show w + 1 ≤ night.1 by omega) (fun j hj => n2 j (by have : j < w + 1 := hj; omega)) fun x hx => hx.less (show w + 1 ≤ night.1 by omega)
          obtain ⟨sf, hsf⟩ : ∃ sf : Nat → Sp, (fun i => minsF (bwdF k day night.2 night.1 (night.1 - 1 - i))) = sf := ⟨_, rfl⟩
          obtain ⟨tf, htf⟩ : ∃ tf : Nat → Sp, (fun i => minsF (bwdF k day (fewL night w).2 (fewL night w).1 ((fewL night w).1 - 1 - i))) = tf := ⟨_, rfl⟩
          obtain ⟨uf, huf⟩ : ∃ uf : Nat → Sp, (fun i => minsF (bwdF k day night.2 (w + 1) (w + 1 - 1 - i))) = uf := ⟨_, rfl⟩
          rw [hsf] at n4
          rw [htf] at m1
          simp only at m3 m4
          rw [huf] at m3
          have e5 : nightF k day (night.1, ff) = ((night.1, tf), 0, 0) := by rw [hff]; exact m1
          have q2 : ∀ z, z < night.1 → witB (sf z) (tf z) = true := fun z hz => by have := m2 z hz; rw [n4] at this; rw [← htf]; exact this
          have q4 : ∀ z, z < w + 1 → witB (sf z) (uf z) = true := fun z hz => by have := m4 z hz; rw [n4] at this; rw [← huf]; exact this
          simp (config := { maxSteps := 4000000 }) only [sNightP, hw, f4, hrev, fa0, n4, fz, en, et, hffs, e5, eq_self, Nat.not_lt_zero, Tl.w_c, Ch.w_c, ↓imp_ft, ↓imp_ff, runO_3, runO_4, runO_5, runO_6, runO_9, runO_14, runO_15, runO_17, runO_18, runO_19, aop, binV, ends, reOk, Nat.zero_sub, ev, fget, fput, cellsOf, cellsN, isLB, vget, vset, vsets, vlen, bget, bset, bdel, addB, addN, mkv, sliceV, vtab, rowsV, rowsOk, vrep, frz, opOwns, preFz, callFz, ownsL, owns, skipOp, WfT, resV, res1, casts, castOks, cast1, castOk, norm, norms, norm1, normL, pureB, pureL, flatB, onesB, snapV, snapOk, snapL, snapOks, specV, argsL, capsL, mkE_S, mkE_G, lkp, eqCells, eqOk, pickV, optInt, lenV, subFr, subV, subBx, subStk, elemsV, popTo, stkFr, Val.toInt, Val.toBool, Val.slen, Val.scell, ↓reduceIte, reduceCtorEq, Nat.reduceEqDiff, Nat.reduceAdd, Nat.reduceSub, Nat.reduceLeDiff, Nat.reduceLT, Nat.zero_add, Nat.add_zero, Nat.sub_zero, Int.reduceToNat, Int.reduceLE, Int.reduceEq, decide_false, beq_iff_eq, beq_eq_false_iff_ne, List.length_cons, List.length_nil, List.nil_append, List.append_nil, List.flatMap_nil, Bool.and_true, Bool.and_false, Bool.and_self, bne_self_eq_false, Bool.not_true, Bool.not_false, beq_self_eq_true, and_true, true_and, and_self, and_assoc, forall_const, imp_self, implies_true, Nat.le_refl, ne_eq, not_false_eq_true, or_true, or_false, not_false_eq_true, maxLen, Nat.reducePow, keepF, appF, updB, inat, spec3, TSl, IsSl, TInt, IsInt, Prod.eta, Sp.c0, Sp.c1, RSp, Sp.w_c, Sp.d, Sp.eta, Sr.c0, Sr.c1, Sr.c2, Sr.c3, RSr, Sr.w_c, Sr.d, Sr.eta, Tl.c0, Tl.c1, Tl.c2, Tl.c3, Tl.c4, RTl, Tl.w_c, Tl.d, Tl.eta, Ch.c0, Ch.c1, Ch.c2, RCh, Ch.w_c, Ch.d, Ch.eta, Ck.L, Ck.Is, Ck.of, TCk, Ck.d, Ck.eta]
          have hhw := hn16 w (by omega)
          refine ⟨fun i hi => by have := hn16 i hi; omega, by omega, by omega, by omega, by omega, by omega, by omega, by omega, by omega, by omega, fun i hi => ?_, fun i hi => ?_, ?_⟩
          · by_cases h5 : i = w
            · subst h5
              have e9 : (fun j' => if i = i ∧ 0 ≤ j' ∧ j' < 1 then vget (.cons (.view 5 ((h : Int) - 0).toNat fun a b => ((night.2 i).told.2 a).c b) .nil) j' else (night.2 i).c j') = Ch.c ⟨(((h : Int) - 0).toNat, (night.2 i).told.2), (night.2 i).bowls, (night.2 i).full⟩ := by
                funext j'
                match j' with
                | 0 => simp [vget, Ch.c, RTl]
                | 1 => simp [Ch.c]
                | 2 => simp [Ch.c]
                | k + 3 => simp [Ch.c]
              rw [e9]; exact of_eq_true (Ch.w_c _)
            · simp only [h5, false_and, if_false]; exact of_eq_true (Ch.w_c _)
          · have := hn16 i hi
            by_cases h5 : i = w
            · simp only [h5, if_true]; omega
            · simp only [h5, if_false]; omega
          intros
          refine loopI (ι := Nat) (fun z => z ≤ night.1) (fun z => night.1 - z) [1, 4, 6, 13, 22, 25, 27, 191] (fun z => [(192, .int .i64 z)]) (fun _ => []) 0 (by omega) (by simp only [Chk, chkFr, chkBx, chkBx1, hasB, idsLt, kept, vs_int, vs_bool, vs_nil, vs_ptr, vs_cons, vs_view, fget, isLB, bget, vsubP_self, ↓reduceIte, reduceCtorEq, Nat.reduceEqDiff, Nat.reduceLT, Int.cast_ofNat_Int, and_self, forall_const, implies_true, Option.some.injEq, exists_eq', keepF, appF, updB]; try rfl) fun z hz => ?_
          by_cases hzl : z < night.1
          · have f5 : ((z : Int) < (night.1 : Int)) = True := eq_true (by omega)
            have q2z := q2 z hzl
            simp (config := { maxSteps := 4000000 }) only [f5, q2z, eq_self, ↓imp_tt, ↓imp_tf, ↓imp_ft, ↓imp_ff, runO_4, runO_5, runO_6, runO_8, runO_14, runO_16, runO_17, runO_18, runO_19, aop, binV, ev, fget, fput, isLB, vget, addB, addN, mkv, frz, opOwns, preFz, callFz, skipOp, WfT, casts, castOks, cast1, castOk, norm, norms, norm1, normL, pureB, pureL, specV, argsL, capsL, mkE_S, lkp, stkFr, Val.toInt, ↓reduceIte, reduceCtorEq, Nat.reduceEqDiff, Nat.reduceAdd, Nat.zero_add, decide_true, List.length_cons, List.length_nil, List.append_nil, Bool.and_self, Bool.not_true, and_true, true_and, and_self, forall_const, imp_self, implies_true, Nat.le_refl, keepF, appF, updB, inat, Sp.c0, Sp.c1, Sp.eta]
            refine ⟨by omega, by omega, inv_intro (z + 1) (by omega) (by omega) ?_⟩
            simp only [Chk, chkFr, chkBx, chkBx1, hasB, idsLt, kept, vs_int, vs_bool, vs_nil, vs_ptr, vs_cons, vs_view, fget, isLB, bget, vsubP_self, ↓reduceIte, reduceCtorEq, Nat.reduceEqDiff, Nat.reduceLT, and_true, true_and, and_self, forall_const, implies_true, Option.some.injEq, Val.int.injEq, exists_eq']
            rw [wrS (by omega)]
          have f5 : ((z : Int) < (night.1 : Int)) = False := eq_false (by omega)
          have ew : IntKind.i64.wrap ((w : Int) + 1) = ((w + 1 : Nat) : Int) := by rw [wr64 (by omega) (by omega)]; omega
          have ew2 : (((w + 1 : Nat) : Int) - 0).toNat = w + 1 := by omega
          simp (config := { maxSteps := 4000000 }) only [f5, ew, ew2, m3, eq_self, ↓imp_ft, ↓imp_ff, runO_4, runO_5, runO_6, runO_9, runO_14, runO_15, runO_17, runO_18, runO_19, aop, binV, ev, fget, fput, isLB, vget, vlen, bget, addB, addN, mkv, sliceV, vtab, frz, opOwns, preFz, skipOp, WfT, norm, norms, norm1, normL, pureB, pureL, specV, argsL, capsL, mkE_S, lkp, pickV, optInt, lenV, popTo, stkFr, Val.toInt, ↓reduceIte, reduceCtorEq, Nat.reduceEqDiff, Nat.reduceAdd, Nat.reduceSub, Nat.reduceLeDiff, Nat.reduceLT, Nat.zero_add, Int.reduceToNat, Int.reduceLE, decide_false, List.length_cons, List.length_nil, List.append_nil, Bool.and_self, bne_self_eq_false, true_and, and_self, and_assoc, forall_const, imp_self, implies_true, Nat.le_refl, maxLen, Nat.reducePow, keepF, appF, updB, Prod.eta, Sp.c0, Sp.c1, Sp.w_c, Sp.eta, Sr.c0, Sr.c1, Sr.c2, Sr.c3, Sr.w_c, Sr.eta, Tl.c0, Tl.c1, Tl.c2, Tl.c3, Tl.c4, RTl, Tl.d, Tl.eta, Ch.c0, Ch.c1, Ch.c2, Ch.w_c, Ch.eta, Ck.eta]
          refine ⟨by omega, by omega, fun i hi => by have := hn16 i (by omega); omega, ?_⟩
          intros
          refine loopI (ι := Nat) (fun z => z ≤ w + 1) (fun z => w + 1 - z) [13, 22, 31, 227] (fun z => [(228, .int .i64 z)]) (fun _ => []) 0 (by omega) (by simp only [Chk, chkFr, chkBx, chkBx1, idsLt, kept, vs_int, vs_bool, vs_nil, vs_cons, vs_view, fget, isLB, bget, vsubP_self, ↓reduceIte, reduceCtorEq, Nat.reduceEqDiff, Nat.reduceLT, Int.cast_ofNat_Int, and_self, forall_const, implies_true, Option.some.injEq, exists_eq', keepF, appF, updB]; try rfl) fun y hy => ?_
          by_cases hyl : y < w + 1
          · have f6 : ((y : Int) < ((w + 1 : Nat) : Int)) = True := eq_true (by omega)
            have q4y := q4 y hyl
            simp (config := { maxSteps := 4000000 }) only [f6, q4y, eq_self, ↓imp_tt, ↓imp_tf, ↓imp_ft, ↓imp_ff, runO_4, runO_5, runO_6, runO_8, runO_14, runO_16, runO_17, runO_18, runO_19, aop, binV, ev, fget, fput, isLB, vget, addB, addN, mkv, frz, opOwns, preFz, callFz, skipOp, WfT, casts, castOks, cast1, castOk, norm, norms, norm1, normL, pureB, pureL, specV, argsL, capsL, mkE_S, lkp, stkFr, Val.toInt, ↓reduceIte, reduceCtorEq, Nat.reduceEqDiff, Nat.reduceAdd, Nat.zero_add, decide_true, List.length_cons, List.length_nil, List.append_nil, Bool.and_self, Bool.not_true, and_true, true_and, and_self, and_assoc, forall_const, imp_self, implies_true, Nat.le_refl, keepF, appF, updB, inat, Sp.c0, Sp.c1, Sp.eta]
            refine ⟨by omega, by omega, by omega, inv_intro (y + 1) (by omega) (by omega) ?_⟩
            simp only [Chk, chkFr, chkBx, chkBx1, idsLt, kept, vs_int, vs_bool, vs_nil, vs_cons, vs_view, fget, isLB, bget, vsubP_self, ↓reduceIte, reduceCtorEq, Nat.reduceEqDiff, Nat.reduceLT, and_true, true_and, and_self, forall_const, implies_true, Option.some.injEq, Val.int.injEq, exists_eq']
            rw [wrS (by omega)]
          · have f6 : ((y : Int) < ((w + 1 : Nat) : Int)) = False := eq_false (by omega)
            simp (config := { maxSteps := 4000000 }) only [f6, eq_self, ↓imp_ft, ↓imp_ff, runO_3, runO_5, runO_9, runO_14, runO_17, runO_18, runO_19, aop, binV, ends, ev, fget, fput, addB, addN, frz, opOwns, preFz, skipOp, WfT, resV, res1, snapV, snapOk, popTo, stkFr, ↓reduceIte, reduceCtorEq, Nat.reduceEqDiff, decide_false, and_self, forall_const, imp_self, implies_true, keepF, appF, updB]
    · have fb0 : (eb = 0) = False := eq_false hb0
      by_cases h32 : ea = 32
      · have f32 : (ea = 32) = True := eq_true h32
        simp (config := { maxSteps := 4000000 }) only [RunTo, a10, sAlive, sReady, sGreatN, sAllA, sWithinL, hd0, fl, hfs, hA, hcg, fa0, fb0, f32, hw, eq_self, Nat.not_lt_zero, Tl.w_c, Ch.w_c, ↓imp_tt, ↓imp_tf, ↓imp_ft, ↓imp_ff, runO_3, runO_4, runO_5, runO_6, runO_14, runO_15, runO_17, runO_18, runO_19, aop, binV, ends, reOk, dstV, Nat.zero_sub, ev, fget, fput, params, cellsOf, cellsN, isLB, vget, vset, vsets, vlen, bget, bset, addB, addN, mkv, sliceV, vtab, rowsV, rowsOk, vrep, frz, opOwns, preFz, callFz, skipOp, WfT, resV, res1, norm, norms, norm1, normL, pureB, pureL, flatB, onesB, snapV, snapOk, snapL, snapOks, specV, argsL, capsL, mkE_S, lkp, pickV, lenV, subFr, subV, subBx, subStk, elemsV, Fin, vp_bool, Val.toInt, Val.toBool, Val.slen, Val.scell, ↓reduceIte, reduceCtorEq, Nat.reduceEqDiff, Nat.reduceAdd, Nat.reduceSub, Nat.reduceLeDiff, Nat.reduceLT, Nat.zero_add, Nat.sub_zero, decide_false, beq_iff_eq, beq_eq_false_iff_ne, List.length_cons, List.length_nil, List.append_nil, Bool.not_eq_true', Bool.not_eq_false', Bool.and_true, Bool.and_false, Bool.and_self, Bool.bne_true, Bool.bne_false, bne_self_eq_false, Bool.not_true, Bool.not_false, Bool.false_eq_true, and_true, true_and, and_self, and_assoc, forall_const, imp_self, implies_true, Nat.le_refl, Val.bool.injEq, ne_eq, not_false_eq_true, false_implies, or_false, not_true_eq_false, not_false_eq_true, maxLen, Nat.reducePow, TU_enc, spec0, spec1, spec2, spec3, TSl, IsSl, TInt, IsInt, Prod.eta, Sp.L, Sp.c0, Sp.c1, Sp.Is, Sp.of, TSp, RSp, Sp.w_c, Sp.d, Sp.eta, Sr.c0, Sr.c1, Sr.c2, Sr.c3, RSr, Sr.w_c, Sr.d, Sr.eta, Tl.L, Tl.c0, Tl.c1, Tl.c2, Tl.c3, Tl.c4, TTl, RTl, Tl.w_c, Tl.d, Tl.eta, Ch.c0, RCh, Ch.w_c, Ch.d, Ck.L, Ck.Is, Ck.of, TCk, Ck.d, Ck.eta]
        intro hg
        replace hg := @of_decide_eq_false _ (Classical.propDecidable _) hg
        have hn16 : ∀ i, i < night.1 → (night.2 i).told.1 ≤ 16 := fun i hi => by
          false_or_by_contra
          exact hg (.inr ⟨i, hi, by omega⟩)
        refine ⟨by omega, by omega, by omega, fun i hi => ?_, ?_⟩
        · by_cases h : i < l.1
          · simp only [h, if_true]; exact of_eq_true (Tl.w_c _)
          · rw [show i - l.1 = 0 from by omega]; simp only [h, if_false]; exact ⟨rfl, rfl, rfl, rfl, rfl⟩
        refine loopJ (ι := Nat) (fun j => j ≤ l.1) (fun j => l.1 - j) [1, 2, 4, 5, 6, 13, 14, 15, 94] (fun j => [(18, .own 6), (95, .int .i64 j)]) (fun j => [(6, .row 29 5 j fun i b => (revL l i).c b)]) 1 0 (by omega) (by simp only [Chk, chkFr, chkBx, chkBx1, newIn, hasB, idsLt, kept, vs_int, vs_bool, vs_nil, vs_own, vs_ptr, vs_cons, vs_view, fget, isLB, bget, bset, vsubP_self, ↓reduceIte, reduceCtorEq, Nat.reduceEqDiff, Nat.reduceAdd, Nat.reduceLT, Int.cast_ofNat_Int, and_true, and_self, forall_const, implies_true, Option.some.injEq, exists_eq', or_true, keepF, appF, updB]) fun j hj => ?_
        by_cases hlt : j < l.1
        · have f4 : ((j : Int) < (l.1 : Int)) = True := eq_true (by omega)
          have e1 : IntKind.i64.wrap (IntKind.i64.wrap ((l.1 : Int) - 1) - (j : Int)) = ((l.1 - 1 - j : Nat) : Int) := by rw [wr64 (e := (l.1 : Int) - 1) (by omega) (by omega), wr64 (by omega) (by omega)]; omega
          simp (config := { maxSteps := 4000000 }) only [hw, f4, e1, eq_self, ↓imp_tt, ↓imp_tf, runO_4, runO_5, runO_6, runO_8, runO_14, runO_16, runO_17, runO_18, runO_19, aop, binV, reOk, Nat.zero_sub, ev, fget, fput, cellsOf, cellsN, isLB, vset, vlen, bget, bset, addB, addN, mkv, rowsV, rowsOk, vrep, frz, opOwns, preFz, owns, skipOp, WfT, casts, castOks, cast1, castOk, pureB, onesB, mkE_G, lenV, subFr, subV, subBx, subStk, elemsV, stkFr, Val.toInt, ↓reduceIte, reduceCtorEq, Nat.reduceEqDiff, Nat.reduceAdd, Nat.reduceSub, Nat.reduceLeDiff, Nat.reduceLT, Nat.zero_add, decide_true, List.length_cons, List.length_nil, List.append_nil, List.flatMap_cons, List.flatMap_nil, Bool.and_self, and_true, true_and, and_self, and_assoc, forall_const, imp_self, implies_true, Nat.le_refl, or_false, maxLen, Nat.reducePow, keepF, appF, updB, inat, Tl.c0, Tl.c1, Tl.c2, Tl.c3, Tl.c4]
          refine ⟨by omega, by omega, by omega, by omega, inv_intro (j + 1) (by omega) (by omega) ?_⟩
          simp only [Chk, chkFr, chkBx, chkBx1, newIn, hasB, idsLt, kept, vs_int, vs_bool, vs_nil, vs_own, vs_ptr, vs_cons, vs_view, Nat.lt_irrefl, fget, isLB, bget, vsubP_self, ↓reduceIte, reduceCtorEq, Nat.reduceEqDiff, Nat.reduceLT, and_true, true_and, and_self, forall_const, implies_true, Option.some.injEq, Val.int.injEq, exists_eq', false_implies, or_false]
          rw [wrS (by omega)]
          refine ⟨rfl, fun i hi b hb => ?_⟩
          split
          · exact (vsubP_self _).mpr trivial
          · obtain rfl : i = j := by omega
            rw [Nat.sub_self]
            rcases (by omega : b = 0 ∨ b = 1 ∨ b = 2 ∨ b = 3 ∨ b = 4) with rfl | rfl | rfl | rfl | rfl <;> rfl
        · have f4 : ((j : Int) < (l.1 : Int)) = False := eq_false (by omega)
          obtain rfl : j = l.1 := by omega
          by_cases hg0 : ¬ (nightF k day night).2.2 = 0
          · have fg : ((nightF k day night).2.2 = 0) = False := eq_false hg0
            simp (config := { maxSteps := 4000000 }) only [sNightP, hw, f4, hrev, fa0, fg, eq_self, Nat.not_lt_zero, Tl.w_c, Ch.w_c, ↓imp_tt, ↓imp_tf, ↓imp_ft, ↓imp_ff, runO_3, runO_4, runO_5, runO_6, runO_9, runO_14, runO_15, runO_17, runO_18, runO_19, aop, binV, ends, reOk, Nat.zero_sub, ev, fget, fput, cellsOf, cellsN, isLB, vget, vset, vsets, vlen, bget, bset, bdel, addB, addN, mkv, sliceV, vtab, rowsV, rowsOk, vrep, frz, opOwns, preFz, callFz, ownsL, owns, skipOp, WfT, resV, res1, casts, castOks, cast1, castOk, norm, norms, norm1, normL, pureB, pureL, flatB, onesB, snapV, snapOk, snapL, snapOks, specV, argsL, capsL, mkE_S, mkE_G, lkp, eqCells, eqOk, pickV, optInt, lenV, subFr, subV, subBx, subStk, elemsV, popTo, stkFr, Val.toInt, Val.toBool, Val.slen, Val.scell, ↓reduceIte, reduceCtorEq, Nat.reduceEqDiff, Nat.reduceAdd, Nat.reduceSub, Nat.reduceLeDiff, Nat.reduceLT, Nat.zero_add, Nat.add_zero, Nat.sub_zero, Int.reduceToNat, Int.reduceLE, Int.reduceEq, decide_false, beq_iff_eq, beq_eq_false_iff_ne, bne_iff_ne, bne_eq_false_iff_eq, List.length_cons, List.length_nil, List.nil_append, List.append_nil, List.flatMap_nil, Bool.and_true, Bool.and_false, Bool.and_self, Bool.bne_false, bne_self_eq_false, Bool.not_true, Bool.not_false, Bool.false_eq_true, beq_self_eq_true, and_true, true_and, and_self, and_assoc, forall_const, imp_self, implies_true, Nat.le_refl, Val.bool.injEq, ne_eq, not_false_eq_true, false_implies, or_true, or_false, not_false_eq_true, maxLen, Nat.reducePow, keepF, appF, updB, spec3, TSl, IsSl, TInt, IsInt, Prod.eta, Sp.c0, Sp.c1, RSp, Sp.w_c, Sp.d, Sp.eta, Sr.c0, Sr.c1, Sr.c2, Sr.c3, RSr, Sr.w_c, Sr.d, Sr.eta, Tl.c0, Tl.c1, Tl.c2, Tl.c3, Tl.c4, RTl, Tl.w_c, Tl.d, Tl.eta, Ch.c0, Ch.c1, Ch.c2, RCh, Ch.w_c, Ch.d, Ch.eta, Ck.L, Ck.Is, Ck.of, TCk, Ck.d, Ck.eta]
            exact fun i hi => by have := hn16 i hi; omega
          · replace hg0 := Classical.not_not.1 hg0
            obtain ⟨_, n1, n2, n3, n4⟩ := nightF_0 hg0
            by_cases hz : night.1 = 0
            · have fz : ((night.1 : Int) = 0) = True := eq_true (by omega)
              simp (config := { maxSteps := 4000000 }) only [sNightP, hw, f4, hrev, fa0, hg0, fz, eq_self, Nat.not_lt_zero, Tl.w_c, Ch.w_c, ↓imp_tt, ↓imp_tf, ↓imp_ft, ↓imp_ff, runO_3, runO_4, runO_5, runO_6, runO_9, runO_14, runO_15, runO_17, runO_18, runO_19, aop, binV, ends, reOk, Nat.zero_sub, ev, fget, fput, cellsOf, cellsN, isLB, vget, vset, vsets, vlen, bget, bset, bdel, addB, addN, mkv, sliceV, vtab, rowsV, rowsOk, vrep, frz, opOwns, preFz, callFz, ownsL, owns, skipOp, WfT, resV, res1, casts, castOks, cast1, castOk, norm, norms, norm1, normL, pureB, pureL, flatB, onesB, snapV, snapOk, snapL, snapOks, specV, argsL, capsL, mkE_S, mkE_G, lkp, eqCells, eqOk, pickV, optInt, lenV, subFr, subV, subBx, subStk, elemsV, popTo, stkFr, Val.toInt, Val.toBool, Val.slen, Val.scell, ↓reduceIte, reduceCtorEq, Nat.reduceEqDiff, Nat.reduceAdd, Nat.reduceSub, Nat.reduceLeDiff, Nat.reduceLT, Nat.zero_add, Nat.add_zero, Nat.sub_zero, Int.reduceToNat, Int.reduceLE, Int.reduceEq, decide_false, beq_iff_eq, beq_eq_false_iff_ne, bne_iff_ne, bne_eq_false_iff_eq, List.length_cons, List.length_nil, List.nil_append, List.append_nil, List.flatMap_nil, Bool.and_true, Bool.and_false, Bool.and_self, Bool.bne_false, bne_self_eq_false, Bool.not_true, Bool.not_false, Bool.false_eq_true, beq_self_eq_true, and_true, true_and, and_self, and_assoc, forall_const, imp_self, implies_true, Nat.le_refl, Val.bool.injEq, ne_eq, not_false_eq_true, false_implies, or_true, or_false, not_true_eq_false, not_false_eq_true, maxLen, Nat.reducePow, keepF, appF, updB, spec3, TSl, IsSl, TInt, IsInt, Prod.eta, Sp.c0, Sp.c1, RSp, Sp.w_c, Sp.d, Sp.eta, Sr.c0, Sr.c1, Sr.c2, Sr.c3, RSr, Sr.w_c, Sr.d, Sr.eta, Tl.c0, Tl.c1, Tl.c2, Tl.c3, Tl.c4, RTl, Tl.w_c, Tl.d, Tl.eta, Ch.c0, Ch.c1, Ch.c2, RCh, Ch.w_c, Ch.d, Ch.eta, Ck.L, Ck.Is, Ck.of, TCk, Ck.d, Ck.eta]
              exact fun i hi => by have := hn16 i hi; omega
            have fz : ((night.1 : Int) = 0) = False := eq_false (by omega)
            have hu := u8_bd which
            have hw1 := Int.emod_nonneg which.1 (b := (night.1 : Int)) (by omega)
            have hw2 := Int.emod_lt_of_pos which.1 (b := (night.1 : Int)) (by omega)
            obtain ⟨w, hwd⟩ : ∃ w : Nat, which.1 % (night.1 : Int) = (w : Int) := ⟨(which.1 % (night.1 : Int)).toNat, by omega⟩
            have en : (IntKind.i64.wrap which.1).tmod (night.1 : Int) = (w : Int) := by
              rw [wr64 (e := which.1) (by omega) (by omega), Int.tmod_eq_emod_of_nonneg hu.1, hwd]
            have et : IntKind.i64.wrap (((night.2 w).told.1 : Int).tdiv 2) = (((night.2 w).told.1 / 2 : Nat) : Int) := by
              have := hn16 w (by omega)
              rw [Int.tdiv_eq_ediv_of_nonneg (by omega), wr64 (by omega) (by omega)]; omega
            obtain ⟨h, hh⟩ : ∃ h : Nat, (night.2 w).told.1 / 2 = h := ⟨_, rfl⟩
            rw [hh] at et
            obtain ⟨ff, hffd⟩ : ∃ ff : Nat → Ch, ff = fun i => Ch.d fun j' => if i = w ∧ 0 ≤ j' ∧ j' < 1 then vget (.cons (.view 5 ((h : Int) - 0).toNat fun a b => ((night.2 w).told.2 a).c b) .nil) j' else (night.2 i).c j' := ⟨_, rfl⟩
            have hff : ff = (fewL night w).2 := by
              funext i; rw [hffd]; simp only [fewL]
              by_cases h5 : i = w
              · subst h5
                have e9 : ((h : Int) - 0).toNat = h := by omega
                simp [Ch.d, Ch.c, halfC, vget, Val.slen, Val.scell, Val.toInt, Val.toBool, RTl, Tl.d_c, hh]
              · simp [h5]; exact Ch.d_c _
            simp only [vget, Val.toInt, Val.toBool, Val.slen, Val.scell, Nat.reduceLeDiff, Nat.reduceLT, and_true, true_and, and_self, Nat.le_refl, RTl, Tl.d, Ch.c0, Ch.c1, Ch.c2, Ch.d] at hffd
            have hffs := hffd.symm
            obtain ⟨k1, k2⟩ := few_ok (c := k) (day := day) (w := w) n2
            obtain ⟨m1, m2⟩ := night_mono (l' := fewL night w) hg0 h0 (Nat.le_refl _) k1 k2
            obtain ⟨m3, m4⟩ := night_mono (l' := (w + 1, night.2)) hg0 h0 (show w + 1 ≤ night.1 by omega) (fun j hj => n2 j (by have : j < w + 1 := hj; omega)) fun x hx => hx.less (show w + 1 ≤ night.1 by omega)
            obtain ⟨sf, hsf⟩ : ∃ sf : Nat → Sp, (fun i => minsF (bwdF k day night.2 night.1 (night.1 - 1 - i))) = sf := ⟨_, rfl⟩
            obtain ⟨tf, htf⟩ : ∃ tf : Nat → Sp, (fun i => minsF (bwdF k day (fewL night w).2 (fewL night w).1 ((fewL night w).1 - 1 - i))) = tf := ⟨_, rfl⟩
            obtain ⟨uf, huf⟩ : ∃ uf : Nat → Sp, (fun i => minsF (bwdF k day night.2 (w + 1) (w + 1 - 1 - i))) = uf := ⟨_, rfl⟩
            rw [hsf] at n4
            rw [htf] at m1
            simp only at m3 m4
            rw [huf] at m3
            have e5 : nightF k day (night.1, ff) = ((night.1, tf), 0, 0) := by rw [hff]; exact m1
            have q2 : ∀ z, z < night.1 → witB (sf z) (tf z) = true := fun z hz => by have := m2 z hz; rw [n4] at this; rw [← htf]; exact this
            have q4 : ∀ z, z < w + 1 → witB (sf z) (uf z) = true := fun z hz => by have := m4 z hz; rw [n4] at this; rw [← huf]; exact this
            simp (config := { maxSteps := 4000000 }) only [sNightP, hw, f4, hrev, fa0, n4, fz, en, et, hffs, e5, eq_self, Nat.not_lt_zero, Tl.w_c, Ch.w_c, ↓imp_ft, ↓imp_ff, runO_3, runO_4, runO_5, runO_6, runO_9, runO_14, runO_15, runO_17, runO_18, runO_19, aop, binV, ends, reOk, Nat.zero_sub, ev, fget, fput, cellsOf, cellsN, isLB, vget, vset, vsets, vlen, bget, bset, bdel, addB, addN, mkv, sliceV, vtab, rowsV, rowsOk, vrep, frz, opOwns, preFz, callFz, ownsL, owns, skipOp, WfT, resV, res1, casts, castOks, cast1, castOk, norm, norms, norm1, normL, pureB, pureL, flatB, onesB, snapV, snapOk, snapL, snapOks, specV, argsL, capsL, mkE_S, mkE_G, lkp, eqCells, eqOk, pickV, optInt, lenV, subFr, subV, subBx, subStk, elemsV, popTo, stkFr, Val.toInt, Val.toBool, Val.slen, Val.scell, ↓reduceIte, reduceCtorEq, Nat.reduceEqDiff, Nat.reduceAdd, Nat.reduceSub, Nat.reduceLeDiff, Nat.reduceLT, Nat.zero_add, Nat.add_zero, Nat.sub_zero, Int.reduceToNat, Int.reduceLE, Int.reduceEq, decide_false, beq_iff_eq, beq_eq_false_iff_ne, List.length_cons, List.length_nil, List.nil_append, List.append_nil, List.flatMap_nil, Bool.and_true, Bool.and_false, Bool.and_self, bne_self_eq_false, Bool.not_true, Bool.not_false, beq_self_eq_true, and_true, true_and, and_self, and_assoc, forall_const, imp_self, implies_true, Nat.le_refl, ne_eq, not_false_eq_true, or_true, or_false, not_false_eq_true, maxLen, Nat.reducePow, keepF, appF, updB, inat, spec3, TSl, IsSl, TInt, IsInt, Prod.eta, Sp.c0, Sp.c1, RSp, Sp.w_c, Sp.d, Sp.eta, Sr.c0, Sr.c1, Sr.c2, Sr.c3, RSr, Sr.w_c, Sr.d, Sr.eta, Tl.c0, Tl.c1, Tl.c2, Tl.c3, Tl.c4, RTl, Tl.w_c, Tl.d, Tl.eta, Ch.c0, Ch.c1, Ch.c2, RCh, Ch.w_c, Ch.d, Ch.eta, Ck.L, Ck.Is, Ck.of, TCk, Ck.d, Ck.eta]
            have hhw := hn16 w (by omega)
            refine ⟨fun i hi => by have := hn16 i hi; omega, by omega, by omega, by omega, by omega, by omega, by omega, by omega, by omega, by omega, fun i hi => ?_, fun i hi => ?_, ?_⟩
            · by_cases h5 : i = w
              · subst h5
                have e9 : (fun j' => if i = i ∧ 0 ≤ j' ∧ j' < 1 then vget (.cons (.view 5 ((h : Int) - 0).toNat fun a b => ((night.2 i).told.2 a).c b) .nil) j' else (night.2 i).c j') = Ch.c ⟨(((h : Int) - 0).toNat, (night.2 i).told.2), (night.2 i).bowls, (night.2 i).full⟩ := by
                  funext j'
                  match j' with
                  | 0 => simp [vget, Ch.c, RTl]
                  | 1 => simp [Ch.c]
                  | 2 => simp [Ch.c]
                  | k + 3 => simp [Ch.c]
                rw [e9]; exact of_eq_true (Ch.w_c _)
              · simp only [h5, false_and, if_false]; exact of_eq_true (Ch.w_c _)
            · have := hn16 i hi
              by_cases h5 : i = w
              · simp only [h5, if_true]; omega
              · simp only [h5, if_false]; omega
            intros
            refine loopI (ι := Nat) (fun z => z ≤ night.1) (fun z => night.1 - z) [1, 4, 6, 13, 22, 25, 27, 191] (fun z => [(192, .int .i64 z)]) (fun _ => []) 0 (by omega) (by simp only [Chk, chkFr, chkBx, chkBx1, hasB, idsLt, kept, vs_int, vs_bool, vs_nil, vs_ptr, vs_cons, vs_view, fget, isLB, bget, vsubP_self, ↓reduceIte, reduceCtorEq, Nat.reduceEqDiff, Nat.reduceLT, Int.cast_ofNat_Int, and_self, forall_const, implies_true, Option.some.injEq, exists_eq', keepF, appF, updB]; try rfl) fun z hz => ?_
            by_cases hzl : z < night.1
            · have f5 : ((z : Int) < (night.1 : Int)) = True := eq_true (by omega)
              have q2z := q2 z hzl
              simp (config := { maxSteps := 4000000 }) only [f5, q2z, eq_self, ↓imp_tt, ↓imp_tf, ↓imp_ft, ↓imp_ff, runO_4, runO_5, runO_6, runO_8, runO_14, runO_16, runO_17, runO_18, runO_19, aop, binV, ev, fget, fput, isLB, vget, addB, addN, mkv, frz, opOwns, preFz, callFz, skipOp, WfT, casts, castOks, cast1, castOk, norm, norms, norm1, normL, pureB, pureL, specV, argsL, capsL, mkE_S, lkp, stkFr, Val.toInt, ↓reduceIte, reduceCtorEq, Nat.reduceEqDiff, Nat.reduceAdd, Nat.zero_add, decide_true, List.length_cons, List.length_nil, List.append_nil, Bool.and_self, Bool.not_true, and_true, true_and, and_self, forall_const, imp_self, implies_true, Nat.le_refl, keepF, appF, updB, inat, Sp.c0, Sp.c1, Sp.eta]
              refine ⟨by omega, by omega, inv_intro (z + 1) (by omega) (by omega) ?_⟩
              simp only [Chk, chkFr, chkBx, chkBx1, hasB, idsLt, kept, vs_int, vs_bool, vs_nil, vs_ptr, vs_cons, vs_view, fget, isLB, bget, vsubP_self, ↓reduceIte, reduceCtorEq, Nat.reduceEqDiff, Nat.reduceLT, and_true, true_and, and_self, forall_const, implies_true, Option.some.injEq, Val.int.injEq, exists_eq']
              rw [wrS (by omega)]
            have f5 : ((z : Int) < (night.1 : Int)) = False := eq_false (by omega)
            have ew : IntKind.i64.wrap ((w : Int) + 1) = ((w + 1 : Nat) : Int) := by rw [wr64 (by omega) (by omega)]; omega
            have ew2 : (((w + 1 : Nat) : Int) - 0).toNat = w + 1 := by omega
            simp (config := { maxSteps := 4000000 }) only [f5, ew, ew2, m3, eq_self, ↓imp_ft, ↓imp_ff, runO_4, runO_5, runO_6, runO_9, runO_14, runO_15, runO_17, runO_18, runO_19, aop, binV, ev, fget, fput, isLB, vget, vlen, bget, addB, addN, mkv, sliceV, vtab, frz, opOwns, preFz, skipOp, WfT, norm, norms, norm1, normL, pureB, pureL, specV, argsL, capsL, mkE_S, lkp, pickV, optInt, lenV, popTo, stkFr, Val.toInt, ↓reduceIte, reduceCtorEq, Nat.reduceEqDiff, Nat.reduceAdd, Nat.reduceSub, Nat.reduceLeDiff, Nat.reduceLT, Nat.zero_add, Int.reduceToNat, Int.reduceLE, decide_false, List.length_cons, List.length_nil, List.append_nil, Bool.and_self, bne_self_eq_false, true_and, and_self, and_assoc, forall_const, imp_self, implies_true, Nat.le_refl, maxLen, Nat.reducePow, keepF, appF, updB, Prod.eta, Sp.c0, Sp.c1, Sp.w_c, Sp.eta, Sr.c0, Sr.c1, Sr.c2, Sr.c3, Sr.w_c, Sr.eta, Tl.c0, Tl.c1, Tl.c2, Tl.c3, Tl.c4, RTl, Tl.d, Tl.eta, Ch.c0, Ch.c1, Ch.c2, Ch.w_c, Ch.eta, Ck.eta]
            refine ⟨by omega, by omega, fun i hi => by have := hn16 i (by omega); omega, ?_⟩
            intros
            refine loopI (ι := Nat) (fun z => z ≤ w + 1) (fun z => w + 1 - z) [13, 22, 31, 227] (fun z => [(228, .int .i64 z)]) (fun _ => []) 0 (by omega) (by simp only [Chk, chkFr, chkBx, chkBx1, idsLt, kept, vs_int, vs_bool, vs_nil, vs_cons, vs_view, fget, isLB, bget, vsubP_self, ↓reduceIte, reduceCtorEq, Nat.reduceEqDiff, Nat.reduceLT, Int.cast_ofNat_Int, and_self, forall_const, implies_true, Option.some.injEq, exists_eq', keepF, appF, updB]; try rfl) fun y hy => ?_
            by_cases hyl : y < w + 1
            · have f6 : ((y : Int) < ((w + 1 : Nat) : Int)) = True := eq_true (by omega)
              have q4y := q4 y hyl
              simp (config := { maxSteps := 4000000 }) only [f6, q4y, eq_self, ↓imp_tt, ↓imp_tf, ↓imp_ft, ↓imp_ff, runO_4, runO_5, runO_6, runO_8, runO_14, runO_16, runO_17, runO_18, runO_19, aop, binV, ev, fget, fput, isLB, vget, addB, addN, mkv, frz, opOwns, preFz, callFz, skipOp, WfT, casts, castOks, cast1, castOk, norm, norms, norm1, normL, pureB, pureL, specV, argsL, capsL, mkE_S, lkp, stkFr, Val.toInt, ↓reduceIte, reduceCtorEq, Nat.reduceEqDiff, Nat.reduceAdd, Nat.zero_add, decide_true, List.length_cons, List.length_nil, List.append_nil, Bool.and_self, Bool.not_true, and_true, true_and, and_self, and_assoc, forall_const, imp_self, implies_true, Nat.le_refl, keepF, appF, updB, inat, Sp.c0, Sp.c1, Sp.eta]
              refine ⟨by omega, by omega, by omega, inv_intro (y + 1) (by omega) (by omega) ?_⟩
              simp only [Chk, chkFr, chkBx, chkBx1, idsLt, kept, vs_int, vs_bool, vs_nil, vs_cons, vs_view, fget, isLB, bget, vsubP_self, ↓reduceIte, reduceCtorEq, Nat.reduceEqDiff, Nat.reduceLT, and_true, true_and, and_self, forall_const, implies_true, Option.some.injEq, Val.int.injEq, exists_eq']
              rw [wrS (by omega)]
            · have f6 : ((y : Int) < ((w + 1 : Nat) : Int)) = False := eq_false (by omega)
              simp (config := { maxSteps := 4000000 }) only [f6, eq_self, ↓imp_ft, ↓imp_ff, runO_3, runO_5, runO_9, runO_14, runO_17, runO_18, runO_19, aop, binV, ends, ev, fget, fput, addB, addN, frz, opOwns, preFz, skipOp, WfT, resV, res1, snapV, snapOk, popTo, stkFr, ↓reduceIte, reduceCtorEq, Nat.reduceEqDiff, decide_false, and_self, forall_const, imp_self, implies_true, keepF, appF, updB]
      · have f32 : (ea = 32) = False := eq_false h32
        simp (config := { maxSteps := 4000000 }) only [RunTo, a10, sAlive, sReady, sGreatN, sAllA, sWithinL, hd0, fl, hfs, hA, hcg, fa0, fb0, f32, hw, eq_self, Nat.not_lt_zero, Tl.w_c, Ch.w_c, ↓imp_tt, ↓imp_tf, ↓imp_ft, ↓imp_ff, runO_3, runO_4, runO_5, runO_6, runO_14, runO_15, runO_17, runO_18, runO_19, aop, binV, ends, reOk, dstV, Nat.zero_sub, ev, fget, fput, params, cellsOf, cellsN, isLB, vget, vset, vsets, vlen, bget, bset, addB, addN, mkv, sliceV, vtab, rowsV, rowsOk, vrep, frz, opOwns, preFz, callFz, skipOp, WfT, resV, res1, norm, norms, norm1, normL, pureB, pureL, flatB, onesB, snapV, snapOk, snapL, snapOks, specV, argsL, capsL, mkE_S, lkp, pickV, lenV, subFr, subV, subBx, subStk, elemsV, Fin, vp_bool, Val.toInt, Val.toBool, Val.slen, Val.scell, ↓reduceIte, reduceCtorEq, Nat.reduceEqDiff, Nat.reduceAdd, Nat.reduceSub, Nat.reduceLeDiff, Nat.reduceLT, Nat.zero_add, Nat.sub_zero, decide_false, beq_iff_eq, beq_eq_false_iff_ne, List.length_cons, List.length_nil, List.append_nil, Bool.not_eq_true', Bool.not_eq_false', Bool.and_true, Bool.and_false, Bool.and_self, Bool.bne_true, Bool.bne_false, bne_self_eq_false, Bool.not_true, Bool.not_false, Bool.false_eq_true, and_true, true_and, and_self, and_assoc, forall_const, imp_self, implies_true, Nat.le_refl, Val.bool.injEq, ne_eq, not_false_eq_true, false_implies, or_false, not_false_eq_true, maxLen, Nat.reducePow, TU_enc, spec0, spec1, spec2, spec3, TSl, IsSl, TInt, IsInt, Prod.eta, Sp.L, Sp.c0, Sp.c1, Sp.Is, Sp.of, TSp, RSp, Sp.w_c, Sp.d, Sp.eta, Sr.c0, Sr.c1, Sr.c2, Sr.c3, RSr, Sr.w_c, Sr.d, Sr.eta, Tl.L, Tl.c0, Tl.c1, Tl.c2, Tl.c3, Tl.c4, TTl, RTl, Tl.w_c, Tl.d, Tl.eta, Ch.c0, RCh, Ch.w_c, Ch.d, Ck.L, Ck.Is, Ck.of, TCk, Ck.d, Ck.eta]
        intro hg
        replace hg := @of_decide_eq_false _ (Classical.propDecidable _) hg
        have hn16 : ∀ i, i < night.1 → (night.2 i).told.1 ≤ 16 := fun i hi => by
          false_or_by_contra
          exact hg (.inr ⟨i, hi, by omega⟩)
        refine ⟨by omega, by omega, by omega, fun i hi => ?_, ?_⟩
        · by_cases h : i < l.1
          · simp only [h, if_true]; exact of_eq_true (Tl.w_c _)
          · rw [show i - l.1 = 0 from by omega]; simp only [h, if_false]; exact ⟨rfl, rfl, rfl, rfl, rfl⟩
        refine loopJ (ι := Nat) (fun j => j ≤ l.1) (fun j => l.1 - j) [1, 2, 4, 5, 6, 13, 14, 15, 94] (fun j => [(18, .own 6), (95, .int .i64 j)]) (fun j => [(6, .row 29 5 j fun i b => (revL l i).c b)]) 1 0 (by omega) (by simp only [Chk, chkFr, chkBx, chkBx1, newIn, hasB, idsLt, kept, vs_int, vs_bool, vs_nil, vs_own, vs_ptr, vs_cons, vs_view, fget, isLB, bget, bset, vsubP_self, ↓reduceIte, reduceCtorEq, Nat.reduceEqDiff, Nat.reduceAdd, Nat.reduceLT, Int.cast_ofNat_Int, and_true, and_self, forall_const, implies_true, Option.some.injEq, exists_eq', or_true, keepF, appF, updB]) fun j hj => ?_
        by_cases hlt : j < l.1
        · have f4 : ((j : Int) < (l.1 : Int)) = True := eq_true (by omega)
          have e1 : IntKind.i64.wrap (IntKind.i64.wrap ((l.1 : Int) - 1) - (j : Int)) = ((l.1 - 1 - j : Nat) : Int) := by rw [wr64 (e := (l.1 : Int) - 1) (by omega) (by omega), wr64 (by omega) (by omega)]; omega
          simp (config := { maxSteps := 4000000 }) only [hw, f4, e1, eq_self, ↓imp_tt, ↓imp_tf, runO_4, runO_5, runO_6, runO_8, runO_14, runO_16, runO_17, runO_18, runO_19, aop, binV, reOk, Nat.zero_sub, ev, fget, fput, cellsOf, cellsN, isLB, vset, vlen, bget, bset, addB, addN, mkv, rowsV, rowsOk, vrep, frz, opOwns, preFz, owns, skipOp, WfT, casts, castOks, cast1, castOk, pureB, onesB, mkE_G, lenV, subFr, subV, subBx, subStk, elemsV, stkFr, Val.toInt, ↓reduceIte, reduceCtorEq, Nat.reduceEqDiff, Nat.reduceAdd, Nat.reduceSub, Nat.reduceLeDiff, Nat.reduceLT, Nat.zero_add, decide_true, List.length_cons, List.length_nil, List.append_nil, List.flatMap_cons, List.flatMap_nil, Bool.and_self, and_true, true_and, and_self, and_assoc, forall_const, imp_self, implies_true, Nat.le_refl, or_false, maxLen, Nat.reducePow, keepF, appF, updB, inat, Tl.c0, Tl.c1, Tl.c2, Tl.c3, Tl.c4]
          refine ⟨by omega, by omega, by omega, by omega, inv_intro (j + 1) (by omega) (by omega) ?_⟩
          simp only [Chk, chkFr, chkBx, chkBx1, newIn, hasB, idsLt, kept, vs_int, vs_bool, vs_nil, vs_own, vs_ptr, vs_cons, vs_view, Nat.lt_irrefl, fget, isLB, bget, vsubP_self, ↓reduceIte, reduceCtorEq, Nat.reduceEqDiff, Nat.reduceLT, and_true, true_and, and_self, forall_const, implies_true, Option.some.injEq, Val.int.injEq, exists_eq', false_implies, or_false]
          rw [wrS (by omega)]
          refine ⟨rfl, fun i hi b hb => ?_⟩
          split
          · exact (vsubP_self _).mpr trivial
          · obtain rfl : i = j := by omega
            rw [Nat.sub_self]
            rcases (by omega : b = 0 ∨ b = 1 ∨ b = 2 ∨ b = 3 ∨ b = 4) with rfl | rfl | rfl | rfl | rfl <;> rfl
        · have f4 : ((j : Int) < (l.1 : Int)) = False := eq_false (by omega)
          obtain rfl : j = l.1 := by omega
          by_cases hg0 : ¬ (nightF k day night).2.2 = 0
          · have fg : ((nightF k day night).2.2 = 0) = False := eq_false hg0
            simp (config := { maxSteps := 4000000 }) only [sNightP, hw, f4, hrev, fa0, fg, eq_self, Nat.not_lt_zero, Tl.w_c, Ch.w_c, ↓imp_tt, ↓imp_tf, ↓imp_ft, ↓imp_ff, runO_3, runO_4, runO_5, runO_6, runO_9, runO_14, runO_15, runO_17, runO_18, runO_19, aop, binV, ends, reOk, Nat.zero_sub, ev, fget, fput, cellsOf, cellsN, isLB, vget, vset, vsets, vlen, bget, bset, bdel, addB, addN, mkv, sliceV, vtab, rowsV, rowsOk, vrep, frz, opOwns, preFz, callFz, ownsL, owns, skipOp, WfT, resV, res1, casts, castOks, cast1, castOk, norm, norms, norm1, normL, pureB, pureL, flatB, onesB, snapV, snapOk, snapL, snapOks, specV, argsL, capsL, mkE_S, mkE_G, lkp, eqCells, eqOk, pickV, optInt, lenV, subFr, subV, subBx, subStk, elemsV, popTo, stkFr, Val.toInt, Val.toBool, Val.slen, Val.scell, ↓reduceIte, reduceCtorEq, Nat.reduceEqDiff, Nat.reduceAdd, Nat.reduceSub, Nat.reduceLeDiff, Nat.reduceLT, Nat.zero_add, Nat.add_zero, Nat.sub_zero, Int.reduceToNat, Int.reduceLE, Int.reduceEq, decide_false, beq_iff_eq, beq_eq_false_iff_ne, bne_iff_ne, bne_eq_false_iff_eq, List.length_cons, List.length_nil, List.nil_append, List.append_nil, List.flatMap_nil, Bool.and_true, Bool.and_false, Bool.and_self, Bool.bne_false, bne_self_eq_false, Bool.not_true, Bool.not_false, Bool.false_eq_true, beq_self_eq_true, and_true, true_and, and_self, and_assoc, forall_const, imp_self, implies_true, Nat.le_refl, Val.bool.injEq, ne_eq, not_false_eq_true, false_implies, or_true, or_false, not_false_eq_true, maxLen, Nat.reducePow, keepF, appF, updB, spec3, TSl, IsSl, TInt, IsInt, Prod.eta, Sp.c0, Sp.c1, RSp, Sp.w_c, Sp.d, Sp.eta, Sr.c0, Sr.c1, Sr.c2, Sr.c3, RSr, Sr.w_c, Sr.d, Sr.eta, Tl.c0, Tl.c1, Tl.c2, Tl.c3, Tl.c4, RTl, Tl.w_c, Tl.d, Tl.eta, Ch.c0, Ch.c1, Ch.c2, RCh, Ch.w_c, Ch.d, Ch.eta, Ck.L, Ck.Is, Ck.of, TCk, Ck.d, Ck.eta]
            exact fun i hi => by have := hn16 i hi; omega
          · replace hg0 := Classical.not_not.1 hg0
            obtain ⟨_, n1, n2, n3, n4⟩ := nightF_0 hg0
            by_cases hz : night.1 = 0
            · have fz : ((night.1 : Int) = 0) = True := eq_true (by omega)
              simp (config := { maxSteps := 4000000 }) only [sNightP, hw, f4, hrev, fa0, hg0, fz, eq_self, Nat.not_lt_zero, Tl.w_c, Ch.w_c, ↓imp_tt, ↓imp_tf, ↓imp_ft, ↓imp_ff, runO_3, runO_4, runO_5, runO_6, runO_9, runO_14, runO_15, runO_17, runO_18, runO_19, aop, binV, ends, reOk, Nat.zero_sub, ev, fget, fput, cellsOf, cellsN, isLB, vget, vset, vsets, vlen, bget, bset, bdel, addB, addN, mkv, sliceV, vtab, rowsV, rowsOk, vrep, frz, opOwns, preFz, callFz, ownsL, owns, skipOp, WfT, resV, res1, casts, castOks, cast1, castOk, norm, norms, norm1, normL, pureB, pureL, flatB, onesB, snapV, snapOk, snapL, snapOks, specV, argsL, capsL, mkE_S, mkE_G, lkp, eqCells, eqOk, pickV, optInt, lenV, subFr, subV, subBx, subStk, elemsV, popTo, stkFr, Val.toInt, Val.toBool, Val.slen, Val.scell, ↓reduceIte, reduceCtorEq, Nat.reduceEqDiff, Nat.reduceAdd, Nat.reduceSub, Nat.reduceLeDiff, Nat.reduceLT, Nat.zero_add, Nat.add_zero, Nat.sub_zero, Int.reduceToNat, Int.reduceLE, Int.reduceEq, decide_false, beq_iff_eq, beq_eq_false_iff_ne, bne_iff_ne, bne_eq_false_iff_eq, List.length_cons, List.length_nil, List.nil_append, List.append_nil, List.flatMap_nil, Bool.and_true, Bool.and_false, Bool.and_self, Bool.bne_false, bne_self_eq_false, Bool.not_true, Bool.not_false, Bool.false_eq_true, beq_self_eq_true, and_true, true_and, and_self, and_assoc, forall_const, imp_self, implies_true, Nat.le_refl, Val.bool.injEq, ne_eq, not_false_eq_true, false_implies, or_true, or_false, not_true_eq_false, not_false_eq_true, maxLen, Nat.reducePow, keepF, appF, updB, spec3, TSl, IsSl, TInt, IsInt, Prod.eta, Sp.c0, Sp.c1, RSp, Sp.w_c, Sp.d, Sp.eta, Sr.c0, Sr.c1, Sr.c2, Sr.c3, RSr, Sr.w_c, Sr.d, Sr.eta, Tl.c0, Tl.c1, Tl.c2, Tl.c3, Tl.c4, RTl, Tl.w_c, Tl.d, Tl.eta, Ch.c0, Ch.c1, Ch.c2, RCh, Ch.w_c, Ch.d, Ch.eta, Ck.L, Ck.Is, Ck.of, TCk, Ck.d, Ck.eta]
              exact fun i hi => by have := hn16 i hi; omega
            have fz : ((night.1 : Int) = 0) = False := eq_false (by omega)
            have hu := u8_bd which
            have hw1 := Int.emod_nonneg which.1 (b := (night.1 : Int)) (by omega)
            have hw2 := Int.emod_lt_of_pos which.1 (b := (night.1 : Int)) (by omega)
            obtain ⟨w, hwd⟩ : ∃ w : Nat, which.1 % (night.1 : Int) = (w : Int) := ⟨(which.1 % (night.1 : Int)).toNat, by omega⟩
            have en : (IntKind.i64.wrap which.1).tmod (night.1 : Int) = (w : Int) := by
              rw [wr64 (e := which.1) (by omega) (by omega), Int.tmod_eq_emod_of_nonneg hu.1, hwd]
            have et : IntKind.i64.wrap (((night.2 w).told.1 : Int).tdiv 2) = (((night.2 w).told.1 / 2 : Nat) : Int) := by
              have := hn16 w (by omega)
              rw [Int.tdiv_eq_ediv_of_nonneg (by omega), wr64 (by omega) (by omega)]; omega
            obtain ⟨h, hh⟩ : ∃ h : Nat, (night.2 w).told.1 / 2 = h := ⟨_, rfl⟩
            rw [hh] at et
            obtain ⟨ff, hffd⟩ : ∃ ff : Nat → Ch, ff = fun i => Ch.d fun j' => if i = w ∧ 0 ≤ j' ∧ j' < 1 then vget (.cons (.view 5 ((h : Int) - 0).toNat fun a b => ((night.2 w).told.2 a).c b) .nil) j' else (night.2 i).c j' := ⟨_, rfl⟩
            have hff : ff = (fewL night w).2 := by
              funext i; rw [hffd]; simp only [fewL]
              by_cases h5 : i = w
              · subst h5
                have e9 : ((h : Int) - 0).toNat = h := by omega
                simp [Ch.d, Ch.c, halfC, vget, Val.slen, Val.scell, Val.toInt, Val.toBool, RTl, Tl.d_c, hh]
              · simp [h5]; exact Ch.d_c _
            simp only [vget, Val.toInt, Val.toBool, Val.slen, Val.scell, Nat.reduceLeDiff, Nat.reduceLT, and_true, true_and, and_self, Nat.le_refl, RTl, Tl.d, Ch.c0, Ch.c1, Ch.c2, Ch.d] at hffd
            have hffs := hffd.symm
            obtain ⟨k1, k2⟩ := few_ok (c := k) (day := day) (w := w) n2
            obtain ⟨m1, m2⟩ := night_mono (l' := fewL night w) hg0 h0 (Nat.le_refl _) k1 k2
            obtain ⟨m3, m4⟩ := night_mono (l' := (w + 1, night.2)) hg0 h0 (show w + 1 ≤ night.1 by omega) (fun j hj => n2 j (by have : j < w + 1 := hj; omega)) fun x hx => hx.less (show w + 1 ≤ night.1 by omega)
            obtain ⟨sf, hsf⟩ : ∃ sf : Nat → Sp, (fun i => minsF (bwdF k day night.2 night.1 (night.1 - 1 - i))) = sf := ⟨_, rfl⟩
            obtain ⟨tf, htf⟩ : ∃ tf : Nat → Sp, (fun i => minsF (bwdF k day (fewL night w).2 (fewL night w).1 ((fewL night w).1 - 1 - i))) = tf := ⟨_, rfl⟩
            obtain ⟨uf, huf⟩ : ∃ uf : Nat → Sp, (fun i => minsF (bwdF k day night.2 (w + 1) (w + 1 - 1 - i))) = uf := ⟨_, rfl⟩
            rw [hsf] at n4
            rw [htf] at m1
            simp only at m3 m4
            rw [huf] at m3
            have e5 : nightF k day (night.1, ff) = ((night.1, tf), 0, 0) := by rw [hff]; exact m1
            have q2 : ∀ z, z < night.1 → witB (sf z) (tf z) = true := fun z hz => by have := m2 z hz; rw [n4] at this; rw [← htf]; exact this
            have q4 : ∀ z, z < w + 1 → witB (sf z) (uf z) = true := fun z hz => by have := m4 z hz; rw [n4] at this; rw [← huf]; exact this
            simp (config := { maxSteps := 4000000 }) only [sNightP, hw, f4, hrev, fa0, n4, fz, en, et, hffs, e5, eq_self, Nat.not_lt_zero, Tl.w_c, Ch.w_c, ↓imp_ft, ↓imp_ff, runO_3, runO_4, runO_5, runO_6, runO_9, runO_14, runO_15, runO_17, runO_18, runO_19, aop, binV, ends, reOk, Nat.zero_sub, ev, fget, fput, cellsOf, cellsN, isLB, vget, vset, vsets, vlen, bget, bset, bdel, addB, addN, mkv, sliceV, vtab, rowsV, rowsOk, vrep, frz, opOwns, preFz, callFz, ownsL, owns, skipOp, WfT, resV, res1, casts, castOks, cast1, castOk, norm, norms, norm1, normL, pureB, pureL, flatB, onesB, snapV, snapOk, snapL, snapOks, specV, argsL, capsL, mkE_S, mkE_G, lkp, eqCells, eqOk, pickV, optInt, lenV, subFr, subV, subBx, subStk, elemsV, popTo, stkFr, Val.toInt, Val.toBool, Val.slen, Val.scell, ↓reduceIte, reduceCtorEq, Nat.reduceEqDiff, Nat.reduceAdd, Nat.reduceSub, Nat.reduceLeDiff, Nat.reduceLT, Nat.zero_add, Nat.add_zero, Nat.sub_zero, Int.reduceToNat, Int.reduceLE, Int.reduceEq, decide_false, beq_iff_eq, beq_eq_false_iff_ne, List.length_cons, List.length_nil, List.nil_append, List.append_nil, List.flatMap_nil, Bool.and_true, Bool.and_false, Bool.and_self, bne_self_eq_false, Bool.not_true, Bool.not_false, beq_self_eq_true, and_true, true_and, and_self, and_assoc, forall_const, imp_self, implies_true, Nat.le_refl, ne_eq, not_false_eq_true, or_true, or_false, not_false_eq_true, maxLen, Nat.reducePow, keepF, appF, updB, inat, spec3, TSl, IsSl, TInt, IsInt, Prod.eta, Sp.c0, Sp.c1, RSp, Sp.w_c, Sp.d, Sp.eta, Sr.c0, Sr.c1, Sr.c2, Sr.c3, RSr, Sr.w_c, Sr.d, Sr.eta, Tl.c0, Tl.c1, Tl.c2, Tl.c3, Tl.c4, RTl, Tl.w_c, Tl.d, Tl.eta, Ch.c0, Ch.c1, Ch.c2, RCh, Ch.w_c, Ch.d, Ch.eta, Ck.L, Ck.Is, Ck.of, TCk, Ck.d, Ck.eta]
            have hhw := hn16 w (by omega)
            refine ⟨fun i hi => by have := hn16 i hi; omega, by omega, by omega, by omega, by omega, by omega, by omega, by omega, by omega, by omega, fun i hi => ?_, fun i hi => ?_, ?_⟩
            · by_cases h5 : i = w
              · subst h5
                have e9 : (fun j' => if i = i ∧ 0 ≤ j' ∧ j' < 1 then vget (.cons (.view 5 ((h : Int) - 0).toNat fun a b => ((night.2 i).told.2 a).c b) .nil) j' else (night.2 i).c j') = Ch.c ⟨(((h : Int) - 0).toNat, (night.2 i).told.2), (night.2 i).bowls, (night.2 i).full⟩ := by
                  funext j'
                  match j' with
                  | 0 => simp [vget, Ch.c, RTl]
                  | 1 => simp [Ch.c]
                  | 2 => simp [Ch.c]
                  | k + 3 => simp [Ch.c]
                rw [e9]; exact of_eq_true (Ch.w_c _)
              · simp only [h5, false_and, if_false]; exact of_eq_true (Ch.w_c _)
            · have := hn16 i hi
              by_cases h5 : i = w
              · simp only [h5, if_true]; omega
              · simp only [h5, if_false]; omega
            intros
            refine loopI (ι := Nat) (fun z => z ≤ night.1) (fun z => night.1 - z) [1, 4, 6, 13, 22, 25, 27, 191] (fun z => [(192, .int .i64 z)]) (fun _ => []) 0 (by omega) (by simp only [Chk, chkFr, chkBx, chkBx1, hasB, idsLt, kept, vs_int, vs_bool, vs_nil, vs_ptr, vs_cons, vs_view, fget, isLB, bget, vsubP_self, ↓reduceIte, reduceCtorEq, Nat.reduceEqDiff, Nat.reduceLT, Int.cast_ofNat_Int, and_self, forall_const, implies_true, Option.some.injEq, exists_eq', keepF, appF, updB]; try rfl) fun z hz => ?_
            by_cases hzl : z < night.1
            · have f5 : ((z : Int) < (night.1 : Int)) = True := eq_true (by omega)
              have q2z := q2 z hzl
              simp (config := { maxSteps := 4000000 }) only [f5, q2z, eq_self, ↓imp_tt, ↓imp_tf, ↓imp_ft, ↓imp_ff, runO_4, runO_5, runO_6, runO_8, runO_14, runO_16, runO_17, runO_18, runO_19, aop, binV, ev, fget, fput, isLB, vget, addB, addN, mkv, frz, opOwns, preFz, callFz, skipOp, WfT, casts, castOks, cast1, castOk, norm, norms, norm1, normL, pureB, pureL, specV, argsL, capsL, mkE_S, lkp, stkFr, Val.toInt, ↓reduceIte, reduceCtorEq, Nat.reduceEqDiff, Nat.reduceAdd, Nat.zero_add, decide_true, List.length_cons, List.length_nil, List.append_nil, Bool.and_self, Bool.not_true, and_true, true_and, and_self, forall_const, imp_self, implies_true, Nat.le_refl, keepF, appF, updB, inat, Sp.c0, Sp.c1, Sp.eta]
              refine ⟨by omega, by omega, inv_intro (z + 1) (by omega) (by omega) ?_⟩
              simp only [Chk, chkFr, chkBx, chkBx1, hasB, idsLt, kept, vs_int, vs_bool, vs_nil, vs_ptr, vs_cons, vs_view, fget, isLB, bget, vsubP_self, ↓reduceIte, reduceCtorEq, Nat.reduceEqDiff, Nat.reduceLT, and_true, true_and, and_self, forall_const, implies_true, Option.some.injEq, Val.int.injEq, exists_eq']
              rw [wrS (by omega)]
            have f5 : ((z : Int) < (night.1 : Int)) = False := eq_false (by omega)
            have ew : IntKind.i64.wrap ((w : Int) + 1) = ((w + 1 : Nat) : Int) := by rw [wr64 (by omega) (by omega)]; omega
            have ew2 : (((w + 1 : Nat) : Int) - 0).toNat = w + 1 := by omega
            simp (config := { maxSteps := 4000000 }) only [f5, ew, ew2, m3, eq_self, ↓imp_ft, ↓imp_ff, runO_4, runO_5, runO_6, runO_9, runO_14, runO_15, runO_17, runO_18, runO_19, aop, binV, ev, fget, fput, isLB, vget, vlen, bget, addB, addN, mkv, sliceV, vtab, frz, opOwns, preFz, skipOp, WfT, norm, norms, norm1, normL, pureB, pureL, specV, argsL, capsL, mkE_S, lkp, pickV, optInt, lenV, popTo, stkFr, Val.toInt, ↓reduceIte, reduceCtorEq, Nat.reduceEqDiff, Nat.reduceAdd, Nat.reduceSub, Nat.reduceLeDiff, Nat.reduceLT, Nat.zero_add, Int.reduceToNat, Int.reduceLE, decide_false, List.length_cons, List.length_nil, List.append_nil, Bool.and_self, bne_self_eq_false, true_and, and_self, and_assoc, forall_const, imp_self, implies_true, Nat.le_refl, maxLen, Nat.reducePow, keepF, appF, updB, Prod.eta, Sp.c0, Sp.c1, Sp.w_c, Sp.eta, Sr.c0, Sr.c1, Sr.c2, Sr.c3, Sr.w_c, Sr.eta, Tl.c0, Tl.c1, Tl.c2, Tl.c3, Tl.c4, RTl, Tl.d, Tl.eta, Ch.c0, Ch.c1, Ch.c2, Ch.w_c, Ch.eta, Ck.eta]
            refine ⟨by omega, by omega, fun i hi => by have := hn16 i (by omega); omega, ?_⟩
            intros
            refine loopI (ι := Nat) (fun z => z ≤ w + 1) (fun z => w + 1 - z) [13, 22, 31, 227] (fun z => [(228, .int .i64 z)]) (fun _ => []) 0 (by omega) (by simp only [Chk, chkFr, chkBx, chkBx1, idsLt, kept, vs_int, vs_bool, vs_nil, vs_cons, vs_view, fget, isLB, bget, vsubP_self, ↓reduceIte, reduceCtorEq, Nat.reduceEqDiff, Nat.reduceLT, Int.cast_ofNat_Int, and_self, forall_const, implies_true, Option.some.injEq, exists_eq', keepF, appF, updB]; try rfl) fun y hy => ?_
            by_cases hyl : y < w + 1
            · have f6 : ((y : Int) < ((w + 1 : Nat) : Int)) = True := eq_true (by omega)
              have q4y := q4 y hyl
              simp (config := { maxSteps := 4000000 }) only [f6, q4y, eq_self, ↓imp_tt, ↓imp_tf, ↓imp_ft, ↓imp_ff, runO_4, runO_5, runO_6, runO_8, runO_14, runO_16, runO_17, runO_18, runO_19, aop, binV, ev, fget, fput, isLB, vget, addB, addN, mkv, frz, opOwns, preFz, callFz, skipOp, WfT, casts, castOks, cast1, castOk, norm, norms, norm1, normL, pureB, pureL, specV, argsL, capsL, mkE_S, lkp, stkFr, Val.toInt, ↓reduceIte, reduceCtorEq, Nat.reduceEqDiff, Nat.reduceAdd, Nat.zero_add, decide_true, List.length_cons, List.length_nil, List.append_nil, Bool.and_self, Bool.not_true, and_true, true_and, and_self, and_assoc, forall_const, imp_self, implies_true, Nat.le_refl, keepF, appF, updB, inat, Sp.c0, Sp.c1, Sp.eta]
              refine ⟨by omega, by omega, by omega, inv_intro (y + 1) (by omega) (by omega) ?_⟩
              simp only [Chk, chkFr, chkBx, chkBx1, idsLt, kept, vs_int, vs_bool, vs_nil, vs_cons, vs_view, fget, isLB, bget, vsubP_self, ↓reduceIte, reduceCtorEq, Nat.reduceEqDiff, Nat.reduceLT, and_true, true_and, and_self, forall_const, implies_true, Option.some.injEq, Val.int.injEq, exists_eq']
              rw [wrS (by omega)]
            · have f6 : ((y : Int) < ((w + 1 : Nat) : Int)) = False := eq_false (by omega)
              simp (config := { maxSteps := 4000000 }) only [f6, eq_self, ↓imp_ft, ↓imp_ff, runO_3, runO_5, runO_9, runO_14, runO_17, runO_18, runO_19, aop, binV, ends, ev, fget, fput, addB, addN, frz, opOwns, preFz, skipOp, WfT, resV, res1, snapV, snapOk, popTo, stkFr, ↓reduceIte, reduceCtorEq, Nat.reduceEqDiff, decide_false, and_self, forall_const, imp_self, implies_true, keepF, appF, updB]
end Go.Proofs.YtbhhcnonooiokaaDoor
