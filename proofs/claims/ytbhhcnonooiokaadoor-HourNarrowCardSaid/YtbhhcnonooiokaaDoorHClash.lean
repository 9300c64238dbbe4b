/- Hours, the program: who contradict each other. No condition. -/
import Derived.Test.YtbhhcnonooiokaaDoorHRef5
import Derived.Test.YtbhhcnonooiokaaDoorACode2
set_option linter.unusedSimpArgs false
set_option linter.unusedVariables false
namespace Go.Proofs.YtbhhcnonooiokaaDoor
open Go Go.RowKit
theorem com1 (a b : Sp) (l : Nat → Sp) (h : l 0 = b) : ((comF a (1, l)).lo == 1 && (comF a (1, l)).hi == 0) = decide ((cutF a b).lo > (cutF a b).hi) := by
  have e : cutsF a l 1 = cutF a b := by simp [cutsF, h]
  rw [Bool.eq_iff_iff]
  simp only [comF, e, Bool.and_eq_true, beq_iff_eq, decide_eq_true_eq]
  by_cases h1 : (cutF a b).lo ≤ (cutF a b).hi
  · rw [if_pos h1]; omega
  · rw [if_neg h1]; simp; omega
set_option maxRecDepth 100000 in
theorem pClP (pTellP : PureOk Tryd.prog NG 54 sTellP) : PureOk Tryd.prog NG 24 sClR := by
  refine fn3 (S := [(67, sHeard), (68, sCommon)]) (I := []) mixed (.cons (pHeard pTellP) (.cons pCommon .nil)) .nil Tryd.func24 c24 fun c day l _ hw => ?_
  simp only [vl, WfT, Val.toInt, Val.slen, Val.scell, Nat.reduceSub, and_true, true_and, and_self, and_assoc, maxLen, Nat.reducePow, TSl, TInt, RSp, Sp.d, RSr, Sr.d, RTl, Tl.d, Ck.L, TCk] at hw
  obtain ⟨w1, w2, w3⟩ := hw
  simp only [RunTo, a24, sHeard, sCommon, w1, w2, w3, runO_3, runO_4, runO_5, runO_6, runO_7, runO_14, runO_15, runO_17, runO_18, runO_19, aop, binV, ends, ev, fget, fput, params, cellsOf, cellsN, isLB, vget, vlen, bget, addB, addN, mkv, sliceV, vtab, frz, opOwns, preFz, callFz, skipOp, WfT, resV, resL, res1, norm, norms, norm1, normL, pureB, pureL, snapV, snapOk, specV, argsL, capsL, mkE_S, lkp, lenV, Fin, vp_int, vp_cons, vp_tup, vsubP_self, Val.toInt, Val.slen, Val.scell, ↓reduceIte, reduceCtorEq, Nat.reduceEqDiff, Nat.reduceAdd, Nat.reduceSub, Nat.reduceLT, Nat.zero_add, bne_iff_ne, bne_eq_false_iff_eq, List.length_cons, List.length_nil, List.append_nil, Bool.and_self, and_true, true_and, and_self, and_assoc, forall_const, imp_self, implies_true, Nat.le_refl, Val.int.injEq, ne_eq, maxLen, Nat.reducePow, spec2, spec3, TSl, IsSl, TInt, IsInt, Prod.eta, Sp.L, Sp.c0, Sp.c1, Sp.Is, Sp.of, TSp, RSp, Sp.w_c, Sp.d, Sp.eta, Sr.c0, Sr.c1, Sr.c2, Sr.c3, RSr, Sr.w_c, Sr.d, Sr.eta, Tl.c0, Tl.c1, Tl.c2, Tl.c3, Tl.c4, RTl, Tl.w_c, Tl.d, Tl.eta, Ck.L, Ck.Is, Ck.of, TCk, Ck.d, Ck.eta]
  intro _ _ _ _
  refine ⟨fun h => ?_, fun h => ?_⟩
  · have : clF c day l = (0, 0, heardE c day l) := by
      unfold clF heardE
      by_cases h1 : askE c day = 0
      · have h2 : ¬ tlsE c l = 0 := fun h2 => h (by simp [heardE, h1, h2])
        simp [h1, h2]
      · simp [h1]
    rw [this]; exact ⟨rfl, rfl, rfl⟩
  obtain ⟨h1, h2⟩ := heardE_0 h
  obtain ⟨hc, hd⟩ := askE_0 h1
  obtain ⟨h0, h10, ha⟩ := tlsE_0 h2
  have hL : heardL c day l = (l.1, fun i => tellF c day (l.2 i)) := by unfold heardL; rw [if_pos h]
  have hcl : ∀ r, ClP (fun i => tellF c day (l.2 i)) l.1 r → clF c day l = r := fun r hr => by
    unfold clF; rw [if_neg (by simp [h1]), if_neg (by simp [h2])]; exact theV_eq hr fun s hs => ClP_uniq hr hs
  rw [hL]
  simp only
  intro hl
  refine loopI (ι := Nat) (fun i => i ≤ l.1 ∧ ∀ i' j', i' < i → i' < j' → j' < l.1 → ¬ Con (fun i => tellF c day (l.2 i)) i' j') (fun i => l.1 - i) [9, 10, 25, 26] (fun j => [(27, .int .i64 j)]) (fun _ => []) 0 ⟨by omega, fun _ _ h => by omega⟩ (by simp only [Chk, chkFr, chkBx, chkBx1, idsLt, kept, vs_int, vs_bool, vs_nil, vs_cons, vs_view, fget, isLB, bget, vsubP_self, ↓reduceIte, Nat.reduceEqDiff, Nat.reduceLT, Int.cast_ofNat_Int, and_self, forall_const, implies_true, Option.some.injEq, exists_eq', keepF, appF, updB]; try rfl) fun i hi => ?_
  obtain ⟨hi1, hi2⟩ := hi
  simp only [w3, ↓imp_tt, ↓imp_tf, runO_3, runO_4, runO_5, runO_6, runO_9, runO_14, runO_15, runO_17, runO_18, runO_19, aop, binV, ends, reOk, Nat.zero_sub, ev, fget, fput, cellsOf, cellsN, isLB, vset, vsets, vlen, bget, bset, addB, addN, mkv, frz, opOwns, preFz, skipOp, WfT, resV, resL, res1, casts, castOks, cast1, castOk, onesB, snapV, snapOk, optInt, lenV, popTo, stkFr, vp_int, vp_cons, vp_tup, vsubP_self, Val.toInt, ↓reduceIte, reduceCtorEq, Nat.reduceEqDiff, Nat.reduceAdd, Nat.reduceSub, Nat.zero_add, List.length_cons, List.length_nil, Bool.and_self, Bool.not_false, and_true, true_and, and_self, and_assoc, forall_const, imp_self, implies_true, Nat.le_refl, decide_eq_true_eq, decide_eq_false_iff_not, Val.int.injEq, maxLen, Nat.reducePow, keepF, appF, updB, inat, Sp.c0, Sp.c1]
  refine ⟨fun hlt => ⟨by omega, by omega, ?_⟩, fun hge => ?_⟩
  · have ei : IntKind.i64.wrap ((i : Int) + 1) = (i : Int) + 1 := wr64 (by omega) (by omega)
    rw [ei, show ((l.1 : Int) - ((i : Int) + 1)).toNat = l.1 - (i + 1) from by omega]
    refine ⟨by omega, by omega, by omega, fun _ => ?_⟩
    refine loopI (ι := Nat) (fun j => j ≤ l.1 - (i + 1) ∧ ∀ j', j' < j → ¬ Con (fun i => tellF c day (l.2 i)) i (i + 1 + j')) (fun j => l.1 - j) [9, 10, 11, 12, 25, 26, 35, 36] (fun j => [(27, .int .i64 i), (37, .int .i64 j)]) (fun _ => []) 0 ⟨by omega, fun _ h1 => by omega⟩ (by simp only [Chk, chkFr, chkBx, chkBx1, hasB, idsLt, kept, vs_int, vs_bool, vs_nil, vs_ptr, vs_cons, vs_view, fget, isLB, bget, vsubP_self, ↓reduceIte, reduceCtorEq, Nat.reduceEqDiff, Nat.reduceLT, Int.cast_ofNat_Int, and_self, forall_const, implies_true, Option.some.injEq, exists_eq', keepF, appF, updB, inat1]; try rfl) fun j hj => ?_
    obtain ⟨hj1, hj2⟩ := hj
    simp only [NG_0, flatO, ↓imp_ft, ↓imp_ff, runO_3, runO_4, runO_5, runO_6, runO_8, runO_9, runO_14, runO_16, runO_17, runO_18, runO_19, aop, binV, ends, reOk, Nat.zero_sub, ev, fget, fput, cellsOf, cellsN, isLB, vget, vset, vsets, vlen, bget, bset, addB, addN, mkv, sliceV, vtab, rowsV, rowsOk, vrep, frz, opOwns, preFz, skipOp, WfT, resV, resL, res1, casts, castOks, cast1, castOk, norm, norms, norm1, normL, pureB, pureL, flatB, onesB, snapV, snapOk, snapL, snapOks, specV, argsL, capsL, mkE_S, mkE_G, lkp, eqCells, eqOk, popTo, stkFr, vp_int, vp_cons, vp_tup, vsubP_self, Val.toInt, ↓reduceIte, reduceCtorEq, Nat.reduceEqDiff, Nat.reduceAdd, Nat.reduceLT, Nat.zero_add, List.length_cons, List.length_nil, List.append_nil, Bool.and_true, Bool.and_false, Bool.and_self, Bool.not_true, and_true, true_and, and_self, and_assoc, forall_const, imp_self, implies_true, Nat.le_refl, decide_eq_true_eq, decide_eq_false_iff_not, Val.int.injEq, keepF, appF, updB, inat, inat1, Sp.c0, Sp.c1, Sp.eta]
    refine ⟨fun hlt2 => ⟨by omega, by omega, fun k hk => ?_, ?_⟩, fun hge2 => inv_intro (i + 1) ⟨by omega, fun i' j' h1 h2 h4 => ?_⟩ (by omega) ?_⟩
    · obtain rfl : k = 0 := by omega
      simp only [Sp.w, vget, Val.toInt, and_self]
    · rw [com1 _ (tellF c day (l.2 (i + 1 + j))) _ rfl]
      refine ⟨fun h3 => ?_, fun h3 => inv_intro (j + 1) ⟨by omega, fun j' h1 => ?_⟩ (by omega) ?_⟩
      · have h3 := of_decide_eq_true h3
        rw [hcl ((i : Int), ((i + 1 + j : Nat) : Int), 0) (.inl ⟨i, i + 1 + j, rfl, by omega, by omega, h3, hi2, fun j' h1 h2 => by
          have := hj2 (j' - (i + 1)) (by omega)
          rwa [show i + 1 + (j' - (i + 1)) = j' from by omega] at this⟩)]
        simp (disch := omega) only [wr64]
        exact ⟨trivial, by omega, trivial⟩
      · have h3 := of_decide_eq_false h3
        rcases Nat.lt_or_ge j' j with h5 | h5
        · exact hj2 j' h5
        · obtain rfl : j' = j := by omega
          exact h3
      · simp only [Chk, chkFr, chkBx, chkBx1, hasB, idsLt, kept, vs_int, vs_bool, vs_nil, vs_ptr, vs_cons, vs_view, Nat.lt_irrefl, fget, isLB, bget, vsubP_self, ↓reduceIte, reduceCtorEq, Nat.reduceEqDiff, Nat.reduceLT, and_true, true_and, and_self, forall_const, implies_true, Option.some.injEq, Val.int.injEq, exists_eq', false_implies]
        rw [wrS (by omega)]
    · rcases Nat.lt_or_ge i' i with h5 | h5
      · exact hi2 i' j' h5 h2 h4
      · obtain rfl : i' = i := by omega
        have := hj2 (j' - (i' + 1)) (by omega)
        rwa [show i' + 1 + (j' - (i' + 1)) = j' from by omega] at this
    · simp only [Chk, chkFr, chkBx, chkBx1, idsLt, kept, vs_int, vs_bool, vs_nil, vs_cons, vs_view, Nat.lt_irrefl, fget, isLB, bget, vsubP_self, ↓reduceIte, reduceCtorEq, Nat.reduceEqDiff, Nat.reduceLT, and_true, true_and, and_self, forall_const, implies_true, Option.some.injEq, Val.int.injEq, exists_eq', false_implies]
      rw [wrS (by omega)]
  · rw [hcl (0, 0, 6) (.inr ⟨rfl, fun i' j' h1 h2 => hi2 i' j' (by omega) h1 h2⟩)]
    exact ⟨rfl, rfl, rfl⟩
noncomputable def sLawClash : Spec := spec4 TCk TI (TSl RTl) (TSl RTl) (fun _ _ _ _ => True) fun _ _ _ _ => .bool true
set_option maxRecDepth 100000 in
theorem pLawClash : PureOk Tryd.prog NG 4 sLawClash := by
  refine fn4 (S := [(15, sGreat), (24, sClR), (25, sClR), (26, sBefR), (27, sBefR)]) (I := []) mixed
    (.cons pGreat (.cons (pClP pTellP) (.cons pClR (.cons (pBefP pTellP) (.cons pBefR .nil))))) .nil Tryd.func4 c4 fun k day a b _ hw => ?_
  simp only [vl, WfT, Val.toInt, Val.slen, Val.scell, Nat.reduceSub, and_true, true_and, and_self, and_assoc, maxLen, Nat.reducePow, TSl, TInt, RSp, Sp.d, RSr, Sr.d, RTl, Tl.d, Ck.L, TCk] at hw
  obtain ⟨w1, w2, w3, w4⟩ := hw
  simp only [RunTo, a4, sGreat, sClR, sBefR, w1, w2, w3, w4, eq_self, Nat.not_lt_zero, Tl.w_c, flatO, ↓imp_tt, ↓imp_tf, runO_3, runO_4, runO_5, runO_6, runO_14, runO_15, runO_17, runO_18, runO_19, aop, binV, ends, reOk, Nat.zero_sub, ev, fget, fput, params, cellsOf, cellsN, isLB, vget, vlen, bget, bset, addB, addN, mkv, sliceV, vtab, rowsV, rowsOk, vrep, frz, opOwns, preFz, callFz, skipOp, WfT, resV, res1, norm, norms, norm1, normL, pureB, pureL, flatB, onesB, snapV, snapOk, snapL, snapOks, specV, argsL, capsL, mkE_S, mkE_G, lkp, pickV, lenV, subFr, subV, subBx, subStk, elemsV, Fin, vp_bool, Val.toInt, Val.slen, Val.scell, ↓reduceIte, reduceCtorEq, Nat.reduceEqDiff, Nat.reduceAdd, Nat.reduceSub, Nat.reduceLT, Nat.zero_add, Nat.sub_zero, List.length_cons, List.length_nil, List.append_nil, List.flatMap_nil, Bool.and_true, Bool.and_false, Bool.and_self, Bool.bne_false, bne_self_eq_false, Bool.not_true, beq_self_eq_true, and_true, true_and, and_self, and_assoc, forall_const, imp_self, implies_true, Nat.le_refl, decide_eq_true_eq, decide_eq_false_iff_not, or_false, maxLen, Nat.reducePow, spec1, spec3, spec4, TSl, IsSl, TInt, IsInt, Prod.eta, Sp.c0, Sp.c1, RSp, Sp.w_c, Sp.d, Sp.eta, Sr.c0, Sr.c1, Sr.c2, Sr.c3, RSr, Sr.w_c, Sr.d, Sr.eta, Tl.c0, Tl.c1, Tl.c2, Tl.c3, Tl.c4, RTl, Tl.w_c, Tl.d, Tl.eta, Ck.L, Ck.Is, Ck.of, TCk, Ck.d, Ck.eta]
  intro h1 h2 h3
  refine ⟨by omega, ?_⟩

  refine loopI (ι := Nat) (fun j => j ≤ a.1) (fun j => a.1 - j) [2, 9, 92, 93] (fun j => [(94, .int .i64 j), (20, .bool true)]) (fun _ => []) 0 (by omega) (by simp only [Chk, chkFr, chkBx, chkBx1, newIn, hasB, idsLt, kept, vs_int, vs_bool, vs_nil, vs_own, vs_cons, vs_view, fget, isLB, bget, vsubP_self, ↓reduceIte, reduceCtorEq, Nat.reduceEqDiff, Nat.reduceLT, Int.cast_ofNat_Int, and_true, and_self, forall_const, implies_true, Option.some.injEq, exists_eq', or_false, keepF, appF, updB]; try rfl) fun j hj => ?_
  simp only [eq_self, ↓imp_tt, ↓imp_tf, runO_3, runO_4, runO_5, runO_6, runO_8, runO_9, runO_14, runO_16, runO_17, runO_18, runO_19, aop, binV, ends, ev, fget, fput, bget, addB, addN, mkv, frz, opOwns, preFz, skipOp, WfT, resV, res1, casts, castOks, cast1, castOk, snapV, snapOk, eqCells, eqOk, pickV, popTo, stkFr, Val.toInt, ↓reduceIte, reduceCtorEq, Nat.reduceEqDiff, Nat.reduceAdd, Nat.zero_add, Nat.add_zero, List.length_cons, List.length_nil, Bool.and_self, bne_self_eq_false, beq_self_eq_true, and_true, true_and, and_self, and_assoc, forall_const, imp_self, implies_true, Nat.le_refl, decide_eq_true_eq, decide_eq_false_iff_not, keepF, appF, updB, inat, Tl.c0, Tl.c1, Tl.c2, Tl.c3, Tl.c4]
  refine fun hlt => ⟨by omega, by omega, by omega, by omega, inv_intro (j + 1) (by omega) (by omega) ?_⟩
  simp only [Chk, chkFr, chkBx, chkBx1, newIn, hasB, idsLt, kept, vs_int, vs_bool, vs_nil, vs_own, vs_cons, vs_view, fget, isLB, bget, vsubP_self, ↓reduceIte, reduceCtorEq, Nat.reduceEqDiff, Nat.reduceLT, and_true, true_and, and_self, forall_const, implies_true, Option.some.injEq, Val.int.injEq, exists_eq', or_false]
  rw [wrS (by omega)]
end Go.Proofs.YtbhhcnonooiokaaDoor
