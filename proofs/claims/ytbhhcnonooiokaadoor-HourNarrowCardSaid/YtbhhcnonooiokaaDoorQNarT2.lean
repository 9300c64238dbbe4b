/- HourNarrow, a part: nar_t2. No condition. -/
import Derived.Test.YtbhhcnonooiokaaDoorQNarD
set_option linter.unusedSimpArgs false
set_option linter.unusedVariables false
namespace Go.Proofs.YtbhhcnonooiokaaDoor
open Go Go.RowKit
set_option maxHeartbeats 0 in
set_option maxRecDepth 100000 in
theorem nar_t2 (k : Ck) (day : Int) (a b : Tls) (night : Chs) (by' : Us) (hw : NarW k day a b night by') (h0 : askE k day = 0) (ha : a.1 ≤ 16) (hb : b.1 ≤ 16) (hbr : ckB (narQ k by') = true) (hA3 : NarA2 k (narC k by' (narM k by')) day a) : NarGoal k day a b night by' := by
  unfold NarW at hw
  simp only [vl, WfT, Val.toInt, Val.toBool, Val.slen, Val.scell, Nat.reduceSub, and_true, true_and, and_self, and_assoc, maxLen, Nat.reducePow, RU_k, RU_C, TSl, TInt, RSp, Sp.d, RSr, Sr.d, RTl, Tl.d, RCh, Ch.d, Ck.L, TCk] at hw
  have hd0 : rdyB k day = true := decide_eq_true h0
  obtain ⟨hc, hd⟩ := askE_0 h0
  have hnm := hc.nm
  have hns := hc.ns
  have fa : ((a.1 : Int) > 16) = False := eq_false (by omega)
  have fb : ((b.1 : Int) > 16) = False := eq_false (by omega)
  have hgr : ∀ {p : Prop} (i1 : Decidable (night.1 > 30 ∨ ∃ i, i < night.1 ∧ (night.2 i).told.1 > 16)), ((∀ i, i < night.1 → (night.2 i).told.1 ≤ 1000) → p) → @decide (night.1 > 30 ∨ ∃ i, i < night.1 ∧ (night.2 i).told.1 > 16) i1 = false → p := fun i1 h hg => h fun i hi => by
    have hg' := @of_decide_eq_false _ i1 hg
    false_or_by_contra
    exact hg' (.inr ⟨i, hi, by omega⟩)
  simp (config := { maxSteps := 4000000 }) only [NarGoal, narS, narI, RunTo, a9, a16, sAlive, sReady, sGreatN, hd0, fa, fb, hw, eq_self, Nat.not_lt_zero, Sp.w_c, Sr.w_c, ↓imp_tt, ↓imp_tf, ↓imp_ft, ↓imp_ff, runO_3, runO_4, runO_5, runO_6, runO_14, runO_15, runO_17, runO_18, runO_19, aop, binV, ends, reOk, Nat.zero_sub, ev, fget, fput, params, cellsOf, cellsN, isLB, vget, vset, vsets, vlen, bget, bset, addB, addN, mkv, sliceV, vtab, rowsV, rowsOk, vrep, frz, opOwns, preFz, callFz, skipOp, WfT, resV, res1, norm, norms, norm1, normL, pureB, pureL, onesB, snapV, snapOk, specV, argsL, capsL, mkE_S, mkE_I, mkE_G, lkp, pickV, lenV, subFr, subV, subBx, subStk, elemsV, Fin, vp_bool, Val.toInt, Val.toBool, Val.slen, Val.scell, ↓reduceIte, reduceCtorEq, Nat.reduceEqDiff, Nat.reduceAdd, Nat.reduceSub, Nat.reduceLeDiff, Nat.reduceLT, Nat.zero_add, Nat.add_zero, Nat.sub_zero, decide_false, List.length_cons, List.length_nil, List.append_nil, List.flatMap_nil, Bool.and_self, Bool.bne_false, bne_self_eq_false, Bool.not_true, and_true, true_and, and_self, and_assoc, forall_const, imp_self, implies_true, Nat.le_refl, or_false, maxLen, Nat.reducePow, RU_k, RU_C, spec0, spec1, spec2, TSl, IsSl, TInt, IsInt, Prod.eta, Sp.c0, Sp.c1, RSp, Sp.w_c, Sp.d, Sp.eta, Sr.c0, Sr.c1, Sr.c2, Sr.c3, RSr, Sr.w_c, Sr.d, Sr.eta, RTl, Tl.d, Ch.c0, RCh, Ch.w_c, Ch.d, Ck.L, Ck.Is, Ck.of, TCk, Ck.d, Ck.eta]
  refine hgr _ fun hn => ⟨by omega, by omega, ?_⟩
  clear hgr
  refine loopI (ι := Nat) (fun j => j ≤ k.mrk.1) (fun j => k.mrk.1 - j) [1, 2, 3, 4, 5, 6, 13, 14, 61] (fun j => [(62, .int .i64 j)]) (fun j => [(3, .row 25 2 k.mrk.1 fun x y => (rowF k by' j x).c y)]) 0 (by omega) (by simp only [rowF, Nat.not_lt_zero, Chk, chkFr, chkBx, chkBx1, newIn, hasB, idsLt, kept, vs_int, vs_bool, vs_nil, vs_own, vs_ptr, vs_cons, vs_view, fget, isLB, bget, bset, vsubP_self, ↓reduceIte, reduceCtorEq, Nat.reduceEqDiff, Nat.reduceLT, Int.cast_ofNat_Int, and_true, and_self, forall_const, implies_true, Option.some.injEq, exists_eq', or_false, keepF, appF, updB]; try rfl) fun j hj => ?_
  by_cases hjl : j < k.mrk.1
  · have f4 : ((j : Int) < (k.mrk.1 : Int)) = True := eq_true (by omega)
    have e2 : IntKind.i64.wrap (2 * (j : Int)) = 2 * (j : Int) := wr64 (by omega) (by omega)
    have er := rowF_at (k := k) (b := by') j
    have s1 := spin_of (hc.mrk j hjl)
    simp (config := { maxSteps := 4000000 }) only [sPart, sCheckR, sAllA, sBefR, sNightP, sWithinL, f4, e2, er, RU_k, RU_C, RU_W, RU_D, eq_self, ↓imp_tt, ↓imp_tf, runO_4, runO_5, runO_6, runO_8, runO_14, runO_16, runO_17, runO_18, runO_19, aop, binV, reOk, Nat.zero_sub, ev, fget, fput, cellsOf, cellsN, isLB, vget, vlen, bget, bset, addB, addN, mkv, sliceV, vtab, frz, opOwns, preFz, owns, skipOp, WfT, casts, castOks, cast1, castOk, norm, norms, norm1, normL, pureB, pureL, onesB, specV, argsL, capsL, mkE_S, lkp, stkFr, Val.toInt, Val.toBool, Val.slen, Val.scell, ↓reduceIte, reduceCtorEq, Nat.reduceEqDiff, Nat.reduceAdd, Nat.reduceLeDiff, Nat.zero_add, Nat.add_zero, Nat.sub_zero, Int.reduceNeg, decide_true, List.length_cons, List.length_nil, List.append_nil, Bool.and_self, and_true, true_and, and_self, and_assoc, forall_const, imp_self, implies_true, Nat.le_refl, keepF, appF, updB, inat, RU_k, RU_C, RU_W, RU_D, spec1, spec2, spec3, spec4, TSl, IsSl, TInt, IsInt, Prod.eta, Sp.L, Sp.c0, Sp.c1, Sp.Is, Sp.of, TSp, RSp, Sp.d, Sp.eta, RSr, Sr.d, RTl, Tl.d, RCh, Ch.d, Ck.L, Ck.Is, Ck.of, TCk, Ck.d]

    refine ⟨by omega, ⟨by omega, by omega, by omega⟩, by omega, by omega, by omega, inv_intro (j + 1) (by omega) (by omega) ?_⟩
    simp only [Chk, chkFr, chkBx, chkBx1, newIn, hasB, idsLt, kept, vs_int, vs_bool, vs_nil, vs_own, vs_ptr, vs_cons, vs_view, fget, isLB, bget, vsubP_self, ↓reduceIte, reduceCtorEq, Nat.reduceEqDiff, Nat.reduceLT, and_true, true_and, and_self, forall_const, implies_true, Option.some.injEq, Val.int.injEq, exists_eq', or_false]
    rw [wrS (by omega)]
    refine ⟨rfl, fun x hx y hy => ?_⟩
    by_cases h7 : x = j
    · subst h7
      rw [if_pos ⟨rfl, by omega, by omega⟩]
      have e7 : rowF k by' (x + 1) x = partF (k.mrk.2 x) by' (2 * x) := by unfold rowF; rw [if_pos (by omega)]
      rw [e7]
      rcases (by omega : y = 0 ∨ y = 1) with rfl | rfl <;> rfl
    · rw [if_neg (fun h => h7 h.1)]
      have e7 : rowF k by' (j + 1) x = rowF k by' j x := by
        unfold rowF
        by_cases h8 : x < j
        · rw [if_pos (by omega), if_pos h8]
        · rw [if_neg (by omega), if_neg h8]
      rw [e7]; exact (vsubP_self _).mpr trivial
  · have f4 : ((j : Int) < (k.mrk.1 : Int)) = False := eq_false (by omega)
    obtain rfl : j = k.mrk.1 := by omega
    obtain ⟨q, hq⟩ : ∃ q : Ck, q = ⟨(k.mrk.1, fun i => Sp.d fun y => (rowF k by' k.mrk.1 i).c y), (k.str.1, fun i => Sr.d fun y => (k.str.2 i).c y), ⟨k.hand.lo, k.hand.hi⟩, ⟨k.sinks.lo, k.sinks.hi⟩⟩ := ⟨_, rfl⟩
    have hq' : q = ⟨(k.mrk.1, rowF k by' k.mrk.1), k.str, k.hand, k.sinks⟩ := hq
    simp only [Val.toInt, Prod.eta, Sp.c0, Sp.c1, Sp.d, Sp.eta, Sr.c0, Sr.c1, Sr.c2, Sr.c3, Sr.d, Sr.eta] at hq
    have hqs := hq.symm
    have hb : ckB q = true := hq' ▸ hbr
    simp (config := { maxSteps := 4000000 }) only [sPart, sCheckR, sAllA, sBefR, sNightP, sWithinL, hb, hqs, f4, RU_k, RU_C, eq_self, Sp.w_c, Sr.w_c, flatO, ↓imp_ft, ↓imp_ff, runO_4, runO_5, runO_6, runO_9, runO_14, runO_15, runO_17, runO_18, runO_19, aop, binV, ev, fget, fput, cellsOf, isLB, vget, vlen, bget, bset, addB, addN, mkv, sliceV, vtab, frz, opOwns, preFz, callFz, skipOp, WfT, norm, norms, norm1, normL, pureB, pureL, flatB, snapV, snapOk, snapL, snapOks, specV, argsL, capsL, mkE_S, lkp, lenV, popTo, stkFr, Val.toInt, Val.toBool, Val.slen, Val.scell, ↓reduceIte, reduceCtorEq, Nat.reduceEqDiff, Nat.reduceAdd, Nat.reduceLeDiff, Nat.zero_add, Int.reduceNeg, decide_false, List.length_cons, List.length_nil, List.append_nil, Bool.and_true, Bool.and_self, bne_self_eq_false, Bool.not_true, and_true, true_and, and_self, and_assoc, forall_const, imp_self, implies_true, Nat.le_refl, keepF, appF, updB, RU_k, RU_C, spec1, spec2, spec3, spec4, TSl, IsSl, TInt, IsInt, Prod.eta, Sp.L, Sp.c0, Sp.c1, Sp.Is, Sp.of, TSp, RSp, Sp.w_c, Sp.d, Sp.eta, Sr.c0, Sr.c1, Sr.c2, Sr.c3, RSr, Sr.w_c, Sr.d, Sr.eta, RTl, Tl.d, RCh, Ch.d, Ck.L, Ck.Is, Ck.of, TCk, Ck.d]

    refine loopI (ι := Nat) (fun j => j ≤ k.str.1) (fun j => k.str.1 - j) [1, 2, 3, 4, 5, 6, 13, 14, 89] (fun j => [(90, .int .i64 j)]) (fun j => [(4, .row 90 4 k.str.1 fun x y => (srF k by' j x).c y)]) 0 (by omega) (by simp only [srF, Nat.not_lt_zero, Chk, chkFr, chkBx, chkBx1, newIn, hasB, idsLt, kept, vs_int, vs_bool, vs_nil, vs_own, vs_ptr, vs_cons, vs_view, fget, isLB, bget, bset, vsubP_self, ↓reduceIte, reduceCtorEq, Nat.reduceEqDiff, Nat.reduceLT, Int.cast_ofNat_Int, and_true, and_self, forall_const, implies_true, Option.some.injEq, exists_eq', or_false, keepF, appF, updB]; try rfl) fun j hj => ?_
    by_cases hjl : j < k.str.1
    · have f5 : ((j : Int) < (k.str.1 : Int)) = True := eq_true (by omega)
      have e1 : IntKind.i64.wrap (50 + IntKind.i64.wrap (4 * (j : Int))) = 50 + 4 * (j : Int) := by rw [wr64 (e := 4 * (j : Int)) (by omega) (by omega), wr64 (by omega) (by omega)]
      have e2 : IntKind.i64.wrap (52 + IntKind.i64.wrap (4 * (j : Int))) = 52 + 4 * (j : Int) := by rw [wr64 (e := 4 * (j : Int)) (by omega) (by omega), wr64 (by omega) (by omega)]
      have er := srF_at (k := k) (b := by') j
      have hsr := hc.sr j hjl
      have s1 := spin_of hsr.1
      have s2 := spin_of hsr.2
      simp (config := { maxSteps := 4000000 }) only [f5, e1, e2, er, RU_W, RU_D, eq_self, ↓imp_tt, ↓imp_tf, runO_4, runO_5, runO_6, runO_8, runO_14, runO_16, runO_17, runO_18, runO_19, aop, binV, reOk, dstV, Nat.zero_sub, ev, fget, fput, cellsOf, cellsN, isLB, vget, vlen, bget, bset, addB, addN, mkv, sliceV, vtab, frz, opOwns, preFz, owns, skipOp, WfT, casts, castOks, cast1, castOk, norm, norms, norm1, normL, pureB, pureL, onesB, specV, argsL, capsL, mkE_S, lkp, stkFr, Val.toInt, ↓reduceIte, reduceCtorEq, Nat.reduceEqDiff, Nat.reduceAdd, Nat.reduceSub, Nat.reduceLeDiff, Nat.zero_add, Nat.add_zero, Nat.sub_zero, Int.reduceNeg, decide_true, List.length_cons, List.length_nil, List.append_nil, Bool.and_self, and_true, true_and, and_self, and_assoc, forall_const, imp_self, implies_true, Nat.le_refl, keepF, appF, updB, inat, RU_W, RU_D, Prod.eta, Sp.eta, Sr.c0, Sr.c1, Sr.c2, Sr.c3]

      refine ⟨by omega, ⟨by omega, by omega, by omega⟩, by omega, by omega, ⟨by omega, by omega, by omega⟩, by omega, by omega, inv_intro (j + 1) (by omega) (by omega) ?_⟩
      simp only [Chk, chkFr, chkBx, chkBx1, newIn, hasB, idsLt, kept, vs_int, vs_bool, vs_nil, vs_own, vs_ptr, vs_cons, vs_view, fget, isLB, bget, vsubP_self, ↓reduceIte, reduceCtorEq, Nat.reduceEqDiff, Nat.reduceLT, and_true, true_and, and_self, forall_const, implies_true, Option.some.injEq, Val.int.injEq, exists_eq', or_false]
      rw [wrS (by omega)]
      refine ⟨rfl, fun x hx y hy => ?_⟩
      by_cases h7 : x = j
      · subst h7
        have e7 : srF k by' (x + 1) x = ⟨partF (k.str.2 x).rise by' (50 + 4 * x), partF (k.str.2 x).shift by' (52 + 4 * x)⟩ := by unfold srF; rw [if_pos (by omega)]
        rw [e7]
        rcases (by omega : y = 0 ∨ y = 1 ∨ y = 2 ∨ y = 3) with rfl | rfl | rfl | rfl <;> simp [vget, Sr.c, vsubP]
      · have e7 : srF k by' (j + 1) x = srF k by' j x := by
          unfold srF
          by_cases h8 : x < j
          · rw [if_pos (by omega), if_pos h8]
          · rw [if_neg (by omega), if_neg h8]
        rw [e7, if_neg (fun h => h7 h.1), if_neg (fun h => h7 h.1)]; exact (vsubP_self _).mpr trivial
    · have f5 : ((j : Int) < (k.str.1 : Int)) = False := eq_false (by omega)
      obtain rfl : j = k.str.1 := by omega
      obtain ⟨c', hc'⟩ : ∃ c' : Ck, c' = ⟨(k.mrk.1, fun i => rowF k by' k.mrk.1 i), (k.str.1, fun i => srF k by' k.str.1 i), partF k.hand by' 98, partF k.sinks by' 100⟩ := ⟨_, rfl⟩
      have hB : Better c' k := nar_better hc (.inl rfl) hc'
      have h0' : askE c' day = 0 := ask_ok (nar_ok hc (hq' ▸ ckB_true.1 hb) hc') hd
      have hcs := hc'.symm
      obtain ⟨⟨A, ea⟩, hA⟩ : ∃ p, thF k day a = p := ⟨_, rfl⟩
      obtain ⟨⟨A', ea'⟩, hA'⟩ : ∃ p, thF c' day a = p := ⟨_, rfl⟩
      obtain ⟨⟨bm, be⟩, hF⟩ : ∃ p, befF k day a b = p := ⟨_, rfl⟩
      obtain ⟨⟨bm', be'⟩, hF'⟩ : ∃ p, befF c' day a b = p := ⟨_, rfl⟩
      obtain ⟨⟨⟨sn, sf⟩, sp, se⟩, hN⟩ : ∃ p, nightF k day night = p := ⟨_, rfl⟩
      obtain ⟨⟨⟨tn, tf⟩, tp, te⟩, hN'⟩ : ∃ p, nightF c' day night = p := ⟨_, rfl⟩
      have a3 := hA3
      unfold narC at a3
      try unfold narM at a3
      rw [hcs, NarA2] at a3
      have b3 := hB.bef3 h0 h0' a b
      have n3 := hB.night h0 h0' night
      rw [hA, hA'] at a3
      rw [hF, hF'] at b3
      rw [hN, hN'] at n3
      simp only at a3 b3 n3
      have s98 := spin_of hc.hand
      have s99 := spin_of hc.sinks
      have hp1 : SpIn k.hand (-100000000) 100000000 := ⟨by omega, by omega, by omega⟩
      have hp2 : SpIn k.sinks (-100000000) 100000000 := ⟨by omega, by omega, by omega⟩
      obtain ⟨rfl, u1⟩ := a3
      rcases b3 with v1 | ⟨rfl, rfl, rfl, v1⟩ | ⟨rfl, rfl, rfl, v1⟩ <;>
      (rcases n3 with ⟨rfl, rfl, rfl, rfl, w1⟩ | ⟨rfl, w1⟩ | ⟨rfl, rfl⟩
       · as_aux_lemma =>
         simp (config := { maxSteps := 4000000 }) only [f5, hcs, hA, hA', hF, hF', hN, hN', u1, v1, RU_W, RU_D, hw, eq_self, Sp.w_c, Sr.w_c, flatO, ↓imp_tt, ↓imp_tf, ↓imp_ft, ↓imp_ff, runO_3, runO_4, runO_5, runO_6, runO_9, runO_14, runO_15, runO_17, runO_18, runO_19, aop, binV, ends, reOk, Nat.zero_sub, ev, fget, fput, cellsOf, cellsN, isLB, vget, vset, vsets, vlen, bget, bset, bdel, addB, addN, mkv, sliceV, vtab, frz, opOwns, preFz, callFz, ownsL, owns, skipOp, WfT, resV, res1, norm, norms, norm1, normL, pureB, pureL, flatB, onesB, snapV, snapOk, snapL, snapOks, specV, argsL, capsL, mkE_S, lkp, pickV, lenV, subFr, subV, subBx, subStk, popTo, stkFr, Val.toInt, ↓reduceIte, reduceCtorEq, Nat.reduceEqDiff, Nat.reduceAdd, Nat.reduceSub, Nat.reduceLeDiff, Nat.reduceLT, Nat.zero_add, Int.reduceLE, Int.reduceNeg, decide_false, beq_iff_eq, beq_eq_false_iff_ne, bne_iff_ne, bne_eq_false_iff_eq, List.length_cons, List.length_nil, List.nil_append, List.cons_append, List.append_nil, Bool.not_eq_true', Bool.not_eq_false', Bool.and_true, Bool.and_self, Bool.bne_true, Bool.bne_false, bne_self_eq_false, Bool.not_true, Bool.not_false, Bool.false_eq_true, beq_self_eq_true, and_true, true_and, and_self, forall_const, imp_self, implies_true, Nat.le_refl, Val.bool.injEq, ne_eq, not_false_eq_true, false_implies, not_false_eq_true, maxLen, Nat.reducePow, keepF, appF, updB, RU_W, RU_D, Prod.eta, Sp.c0, Sp.c1, Sp.w_c, Sp.eta, Sr.c0, Sr.c1, Sr.c2, Sr.c3, Sr.w_c, Sr.eta, Tl.c0, Tl.c1, Tl.c2, Tl.c3, Tl.c4, RTl, Tl.w_c, Tl.d, Tl.eta, Ch.c0, Ch.c1, Ch.c2, Ch.w_c, Ch.eta, Ck.eta]

         refine ⟨hp1, hp2, hn, hn, ?_⟩
         refine loopI (ι := Nat) (fun z => z ≤ night.1) (fun z => night.1 - z) [13, 26, 29, 259] (fun z => [(260, .int .i64 z)]) (fun _ => []) 0 (by omega) (by simp only [Chk, chkFr, chkBx, chkBx1, idsLt, kept, vs_int, vs_bool, vs_nil, vs_cons, vs_view, fget, isLB, bget, vsubP_self, ↓reduceIte, reduceCtorEq, Nat.reduceEqDiff, Nat.reduceLT, Int.cast_ofNat_Int, and_self, forall_const, implies_true, Option.some.injEq, exists_eq', keepF, appF, updB]; try rfl) fun z hz => ?_
         by_cases hzl : z < night.1
         · have f6 : ((z : Int) < (night.1 : Int)) = True := eq_true (by omega)
           have w2 := w1 z hzl
           simp (config := { maxSteps := 4000000 }) only [f6, w2, eq_self, ↓imp_tt, ↓imp_tf, ↓imp_ft, ↓imp_ff, runO_4, runO_5, runO_6, runO_8, runO_14, runO_16, runO_17, runO_18, runO_19, aop, binV, ev, fget, fput, isLB, vget, addB, addN, mkv, frz, opOwns, preFz, callFz, skipOp, WfT, casts, castOks, cast1, castOk, norm, norms, norm1, normL, pureB, pureL, specV, argsL, capsL, mkE_S, lkp, stkFr, Val.toInt, ↓reduceIte, reduceCtorEq, Nat.reduceEqDiff, Nat.reduceAdd, Nat.zero_add, Int.reduceNeg, decide_true, List.length_cons, List.length_nil, List.append_nil, Bool.and_self, Bool.not_true, and_true, true_and, and_self, forall_const, imp_self, implies_true, Nat.le_refl, keepF, appF, updB, inat, Sp.c0, Sp.c1, Sp.eta]
           refine ⟨by omega, by omega, inv_intro (z + 1) (by omega) (by omega) ?_⟩
           simp only [Chk, chkFr, chkBx, chkBx1, idsLt, kept, vs_int, vs_bool, vs_nil, vs_cons, vs_view, fget, isLB, bget, vsubP_self, ↓reduceIte, reduceCtorEq, Nat.reduceEqDiff, Nat.reduceLT, and_true, true_and, and_self, forall_const, implies_true, Option.some.injEq, Val.int.injEq, exists_eq']
           rw [wrS (by omega)]
         · have f6 : ((z : Int) < (night.1 : Int)) = False := eq_false (by omega)
           simp (config := { maxSteps := 4000000 }) only [f6, eq_self, ↓imp_ft, ↓imp_ff, runO_3, runO_5, runO_9, runO_14, runO_17, runO_18, runO_19, aop, binV, ends, ev, fget, fput, addB, addN, frz, opOwns, preFz, skipOp, WfT, resV, res1, snapV, snapOk, popTo, stkFr, ↓reduceIte, reduceCtorEq, Nat.reduceEqDiff, Int.reduceNeg, decide_false, and_self, forall_const, imp_self, implies_true, keepF, appF, updB]
       · as_aux_lemma =>
         simp (config := { maxSteps := 4000000 }) only [f5, hcs, hA, hA', hF, hF', hN, hN', u1, v1, w1, RU_W, RU_D, hw, eq_self, Sp.w_c, Sr.w_c, flatO, ↓imp_tt, ↓imp_tf, ↓imp_ft, ↓imp_ff, runO_3, runO_4, runO_5, runO_6, runO_9, runO_14, runO_15, runO_17, runO_18, runO_19, aop, binV, ends, reOk, Nat.zero_sub, ev, fget, fput, cellsOf, cellsN, isLB, vget, vset, vsets, vlen, bget, bset, bdel, addB, addN, mkv, sliceV, vtab, frz, opOwns, preFz, callFz, ownsL, owns, skipOp, WfT, resV, res1, norm, norms, norm1, normL, pureB, pureL, flatB, onesB, snapV, snapOk, snapL, snapOks, specV, argsL, capsL, mkE_S, lkp, pickV, lenV, subFr, subV, subBx, subStk, popTo, stkFr, Val.toInt, ↓reduceIte, reduceCtorEq, Nat.reduceEqDiff, Nat.reduceAdd, Nat.reduceSub, Nat.reduceLeDiff, Nat.reduceLT, Nat.zero_add, Int.reduceLE, Int.reduceNeg, decide_false, beq_iff_eq, beq_eq_false_iff_ne, bne_iff_ne, bne_eq_false_iff_eq, List.length_cons, List.length_nil, List.nil_append, List.cons_append, List.append_nil, Bool.not_eq_true', Bool.not_eq_false', Bool.and_true, Bool.and_self, Bool.bne_true, Bool.bne_false, bne_self_eq_false, Bool.not_true, Bool.not_false, Bool.false_eq_true, beq_self_eq_true, and_true, true_and, and_self, forall_const, imp_self, implies_true, Nat.le_refl, Val.bool.injEq, ne_eq, not_false_eq_true, false_implies, not_false_eq_true, maxLen, Nat.reducePow, keepF, appF, updB, RU_W, RU_D, Prod.eta, Sp.c0, Sp.c1, Sp.w_c, Sp.eta, Sr.c0, Sr.c1, Sr.c2, Sr.c3, Sr.w_c, Sr.eta, Tl.c0, Tl.c1, Tl.c2, Tl.c3, Tl.c4, RTl, Tl.w_c, Tl.d, Tl.eta, Ch.c0, Ch.c1, Ch.c2, Ch.w_c, Ch.eta, Ck.eta]

         exact ⟨hp1, hp2, hn, fun _ _ _ _ => hn⟩
       · as_aux_lemma =>
         simp (config := { maxSteps := 4000000 }) only [f5, hcs, hA, hA', hF, hF', hN, hN', u1, v1, RU_W, RU_D, hw, eq_self, Sp.w_c, Sr.w_c, flatO, ↓imp_tt, ↓imp_tf, ↓imp_ft, ↓imp_ff, runO_3, runO_4, runO_5, runO_9, runO_14, runO_17, runO_18, runO_19, aop, binV, ends, reOk, Nat.zero_sub, ev, fget, fput, cellsOf, cellsN, isLB, vget, vset, vsets, vlen, bget, bset, bdel, addB, addN, mkv, sliceV, vtab, frz, opOwns, preFz, callFz, ownsL, owns, skipOp, WfT, resV, res1, norm, norms, norm1, normL, pureB, pureL, flatB, onesB, snapV, snapOk, snapL, snapOks, specV, argsL, capsL, mkE_S, lkp, pickV, subFr, subV, subBx, subStk, popTo, stkFr, Val.toInt, ↓reduceIte, reduceCtorEq, Nat.reduceEqDiff, Nat.reduceAdd, Nat.reduceSub, Nat.reduceLeDiff, Nat.reduceLT, Nat.zero_add, Int.reduceLE, Int.reduceNeg, Int.reduceBEq, Int.reduceBNe, decide_false, beq_iff_eq, beq_eq_false_iff_ne, bne_iff_ne, bne_eq_false_iff_eq, List.length_cons, List.length_nil, List.nil_append, List.cons_append, List.append_nil, Bool.not_eq_true', Bool.not_eq_false', Bool.and_true, Bool.and_self, Bool.bne_true, Bool.bne_false, bne_self_eq_false, Bool.not_true, Bool.not_false, Bool.false_eq_true, beq_self_eq_true, and_true, true_and, and_self, forall_const, imp_self, implies_true, Nat.le_refl, Val.bool.injEq, ne_eq, not_false_eq_true, false_implies, not_false_eq_true, maxLen, Nat.reducePow, keepF, appF, updB, RU_W, RU_D, Prod.eta, Sp.c0, Sp.c1, Sp.w_c, Sp.eta, Sr.c0, Sr.c1, Sr.c2, Sr.c3, Sr.w_c, Sr.eta, Tl.c0, Tl.c1, Tl.c2, Tl.c3, Tl.c4, RTl, Tl.w_c, Tl.d, Tl.eta, Ch.c0, Ch.c1, Ch.c2, Ch.w_c, Ch.eta, Ck.eta]

         exact ⟨hp1, hp2, hn, fun _ _ _ _ => hn⟩)

end Go.Proofs.YtbhhcnonooiokaaDoor
