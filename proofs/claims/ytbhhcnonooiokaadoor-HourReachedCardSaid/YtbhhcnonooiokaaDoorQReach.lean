/- HourReached: each end that is told is reached. No condition. -/
import Derived.Test.YtbhhcnonooiokaaDoorACodeL11
import Derived.Test.YtbhhcnonooiokaaDoorQRch
set_option linter.unusedSimpArgs false
set_option linter.unusedVariables false
namespace Go.Proofs.YtbhhcnonooiokaaDoor
open Go Go.RowKit
noncomputable def sLawReach : Spec := spec4 TCk TI (TSl RCh) (TU .u8) (fun _ _ _ _ => True) fun _ _ _ _ => .bool true
set_option maxHeartbeats 8000000 in
set_option maxRecDepth 100000 in
theorem pLawReach : PureOk Tryd.prog NG 11 sLawReach := by
  refine fn4 (S := [(35, sAlive), (43, sReady), (28, sGreatN), (29, sNightP), (39, sWordL)]) (I := [(49, a49)]) mixed
    (.cons pAlive (.cons pReady (.cons pGreatN (.cons pNightP (.cons pWordL .nil))))) (.cons Tryd.func49 c49 .nil) Tryd.func11 c11 fun k day l which _ hw => ?_
  simp only [vl, WfT, Val.toInt, Val.toBool, Val.slen, Val.scell, Nat.reduceSub, and_true, true_and, and_self, and_assoc, maxLen, Nat.reducePow, TU_enc, TSl, TInt, RSp, Sp.d, RSr, Sr.d, RTl, Tl.d, RCh, Ch.d, Ck.L, TCk] at hw
  by_cases h0 : ¬ askE k day = 0
  · simp only [RunTo, a11, sAlive, sReady, show rdyB k day = false from decide_eq_false h0, hw, ↓imp_tt, ↓imp_tf, runO_3, runO_5, runO_14, runO_17, runO_18, runO_19, aop, ends, Nat.zero_sub, ev, fget, fput, params, cellsOf, cellsN, isLB, vget, vlen, bget, addB, addN, mkv, sliceV, vtab, frz, opOwns, preFz, callFz, skipOp, WfT, resV, res1, norm, norms, norm1, normL, pureB, pureL, snapV, snapOk, specV, argsL, capsL, mkE_S, lkp, pickV, Fin, vp_bool, Val.toInt, Val.toBool, Val.slen, Val.scell, ↓reduceIte, reduceCtorEq, Nat.reduceEqDiff, Nat.reduceAdd, Nat.reduceSub, Nat.zero_add, Int.reduceNeg, List.length_cons, List.length_nil, List.append_nil, Bool.and_self, Bool.bne_false, Bool.not_false, and_true, and_self, and_assoc, forall_const, imp_self, implies_true, Nat.le_refl, maxLen, Nat.reducePow, TU_enc, spec0, spec2, TSl, TInt, IsInt, Prod.eta, Sp.c0, Sp.c1, RSp, Sp.w_c, Sp.d, Sp.eta, Sr.c0, Sr.c1, Sr.c2, Sr.c3, RSr, Sr.w_c, Sr.d, Sr.eta, RTl, Tl.d, RCh, Ch.d, Ck.L, Ck.Is, Ck.of, TCk, Ck.d, Ck.eta]
  replace h0 := Classical.not_not.1 h0
  have hd0 : rdyB k day = true := decide_eq_true h0
  obtain ⟨hc, hd⟩ := askE_0 h0
  have hgr : ∀ {p : Prop} (i1 : Decidable (l.1 > 30 ∨ ∃ i, i < l.1 ∧ (l.2 i).told.1 > 16)), ((∀ i, i < l.1 → (l.2 i).told.1 ≤ 1000) → p) → @decide (l.1 > 30 ∨ ∃ i, i < l.1 ∧ (l.2 i).told.1 > 16) i1 = false → p := fun i1 h hg => h fun i hi => by
    have hg' := @of_decide_eq_false _ i1 hg
    false_or_by_contra
    exact hg' (.inr ⟨i, hi, by omega⟩)
  rcases nightF_cases k day l with h1 | ⟨h1, h2, h3⟩ | ⟨i, h1, h2, h3, h4, h5, h6, h7⟩
  · obtain ⟨_, n1, n2, n3, n4⟩ := nightF_0 h1
    obtain ⟨sf, hsf⟩ : ∃ sf : Nat → Sp, (fun i => minsF (bwdF k day l.2 l.1 (l.1 - 1 - i))) = sf := ⟨_, rfl⟩
    rw [hsf] at n4
    by_cases hz : l.1 = 0
    · have fz : ((l.1 : Int) = 0) = True := eq_true (by omega)
      simp (config := { maxSteps := 4000000 }) only [RunTo, a11, sAlive, sReady, sGreatN, sNightP, hd0, n4, fz, hw, eq_self, Ch.w_c, ↓imp_tt, ↓imp_tf, ↓imp_ft, ↓imp_ff, runO_3, runO_4, runO_5, runO_14, runO_17, runO_18, runO_19, aop, binV, ends, reOk, Nat.zero_sub, ev, evs, fget, fput, params, cellsOf, cellsN, isLB, vget, vset, vsets, vlen, bget, bset, addB, addN, mkv, sliceV, vtab, frz, opOwns, preFz, callFz, skipOp, WfT, resV, res1, casts, castOks, cast1, castOk, norm, norms, norm1, normL, pureB, pureL, onesB, snapV, snapOk, specV, argsL, capsL, mkE_S, mkE_I, lkp, pickV, lenV, Fin, vp_bool, Val.toInt, Val.toBool, Val.slen, Val.scell, ↓reduceIte, reduceCtorEq, Nat.reduceEqDiff, Nat.reduceAdd, Nat.reduceSub, Nat.reduceLeDiff, Nat.reduceLT, Nat.zero_add, Nat.add_zero, Nat.sub_zero, Int.reduceNeg, Int.reduceBEq, beq_iff_eq, beq_eq_false_iff_ne, List.length_cons, List.length_nil, List.nil_append, List.cons_append, List.append_nil, Bool.and_self, Bool.bne_true, Bool.bne_false, bne_self_eq_false, Bool.not_true, Bool.not_false, Bool.false_eq_true, and_true, true_and, and_self, and_assoc, forall_const, imp_self, implies_true, Nat.le_refl, decide_eq_true_eq, decide_eq_false_iff_not, Val.bool.injEq, ne_eq, false_implies, or_true, not_true_eq_false, maxLen, Nat.reducePow, TU_enc, spec0, spec1, spec2, spec3, TSl, IsSl, TInt, IsInt, Prod.eta, Sp.c0, Sp.c1, RSp, Sp.w_c, Sp.d, Sp.eta, Sr.c0, Sr.c1, Sr.c2, Sr.c3, RSr, Sr.w_c, Sr.d, Sr.eta, Tl.c0, Tl.c1, Tl.c2, Tl.c3, Tl.c4, RTl, Tl.d, Tl.eta, Ch.c0, Ch.c1, Ch.c2, RCh, Ch.w_c, Ch.d, Ch.eta, Ck.L, Ck.Is, Ck.of, TCk, Ck.d, Ck.eta]
      exact hgr _ fun h => h
    have fz : ((l.1 : Int) = 0) = False := eq_false (by omega)
    have hu := u8_bd which
    have hw1 := Int.emod_nonneg which.1 (b := (l.1 : Int)) (by omega)
    have hw2 := Int.emod_lt_of_pos which.1 (b := (l.1 : Int)) (by omega)
    obtain ⟨w, hwd⟩ : ∃ w : Nat, which.1 % (l.1 : Int) = (w : Int) := ⟨(which.1 % (l.1 : Int)).toNat, by omega⟩
    have en : (IntKind.i64.wrap which.1).tmod (l.1 : Int) = (w : Int) := by
      rw [wr64 (e := which.1) (by omega) (by omega), Int.tmod_eq_emod_of_nonneg hu.1, hwd]
    by_cases ht : (l.2 w).told.1 ≥ 10
    · have ft : (((l.2 w).told.1 : Int) ≥ 10) = True := eq_true (by omega)
      simp (config := { maxSteps := 4000000 }) only [RunTo, a11, sAlive, sReady, sGreatN, sNightP, hd0, n4, fz, en, ft, hw, eq_self, Ch.w_c, ↓imp_tt, ↓imp_tf, ↓imp_ft, ↓imp_ff, runO_3, runO_4, runO_5, runO_14, runO_17, runO_18, runO_19, aop, binV, ends, reOk, Nat.zero_sub, ev, fget, fput, params, cellsOf, cellsN, isLB, vget, vset, vsets, vlen, bget, bset, addB, addN, mkv, sliceV, vtab, frz, opOwns, preFz, callFz, skipOp, WfT, resV, res1, casts, castOks, cast1, castOk, norm, norms, norm1, normL, pureB, pureL, onesB, snapV, snapOk, specV, argsL, capsL, mkE_S, lkp, pickV, lenV, Fin, vp_bool, Val.toInt, Val.toBool, Val.slen, Val.scell, ↓reduceIte, reduceCtorEq, Nat.reduceEqDiff, Nat.reduceAdd, Nat.reduceSub, Nat.reduceLeDiff, Nat.reduceLT, Nat.zero_add, Nat.sub_zero, Int.reduceNeg, Int.reduceBEq, decide_true, beq_iff_eq, beq_eq_false_iff_ne, List.length_cons, List.length_nil, List.append_nil, Bool.and_self, Bool.bne_false, bne_self_eq_false, Bool.not_true, and_true, true_and, and_self, and_assoc, forall_const, imp_self, implies_true, Nat.le_refl, Val.bool.injEq, ne_eq, not_false_eq_true, or_true, not_false_eq_true, maxLen, Nat.reducePow, inat, TU_enc, spec0, spec1, spec2, spec3, TSl, IsSl, TInt, IsInt, Prod.eta, Sp.c0, Sp.c1, RSp, Sp.w_c, Sp.d, Sp.eta, Sr.c0, Sr.c1, Sr.c2, Sr.c3, RSr, Sr.w_c, Sr.d, Sr.eta, Tl.c0, Tl.c1, Tl.c2, Tl.c3, Tl.c4, RTl, Tl.d, Tl.eta, Ch.c0, Ch.c1, Ch.c2, RCh, Ch.w_c, Ch.d, Ch.eta, Ck.L, Ck.Is, Ck.of, TCk, Ck.d, Ck.eta]
      exact hgr _ fun h => ⟨h, by omega, by omega⟩
    have ft : (((l.2 w).told.1 : Int) ≥ 10) = False := eq_false (by omega)
    by_cases s1 : (sf w).lo ≤ -100000
    · have f1 : ((sf w).lo ≤ -100000) = True := eq_true s1
      simp (config := { maxSteps := 4000000 }) only [RunTo, a11, sAlive, sReady, sGreatN, sNightP, hd0, n4, fz, en, ft, f1, hw, eq_self, Ch.w_c, ↓imp_tt, ↓imp_tf, ↓imp_ft, ↓imp_ff, runO_3, runO_4, runO_5, runO_14, runO_17, runO_18, runO_19, aop, binV, ends, reOk, Nat.zero_sub, ev, evs, fget, fput, params, cellsOf, cellsN, isLB, vget, vset, vsets, vlen, bget, bset, addB, addN, mkv, sliceV, vtab, frz, opOwns, preFz, callFz, skipOp, WfT, resV, res1, casts, castOks, cast1, castOk, norm, norms, norm1, normL, pureB, pureL, onesB, snapV, snapOk, specV, argsL, capsL, mkE_S, lkp, pickV, lenV, Fin, vp_bool, Val.toInt, Val.toBool, Val.slen, Val.scell, ↓reduceIte, reduceCtorEq, Nat.reduceEqDiff, Nat.reduceAdd, Nat.reduceSub, Nat.reduceLeDiff, Nat.reduceLT, Nat.zero_add, Nat.add_zero, Nat.sub_zero, Int.reduceNeg, Int.reduceBEq, decide_true, decide_false, beq_iff_eq, beq_eq_false_iff_ne, List.length_cons, List.length_nil, List.append_nil, Bool.and_self, Bool.bne_false, bne_self_eq_false, Bool.not_true, and_true, true_and, and_self, and_assoc, forall_const, imp_self, implies_true, Nat.le_refl, Val.bool.injEq, ne_eq, not_false_eq_true, or_true, not_false_eq_true, maxLen, Nat.reducePow, inat, TU_enc, spec0, spec1, spec2, spec3, TSl, IsSl, TInt, IsInt, Prod.eta, Sp.c0, Sp.c1, RSp, Sp.w_c, Sp.d, Sp.eta, Sr.c0, Sr.c1, Sr.c2, Sr.c3, RSr, Sr.w_c, Sr.d, Sr.eta, Tl.c0, Tl.c1, Tl.c2, Tl.c3, Tl.c4, RTl, Tl.d, Tl.eta, Ch.c0, Ch.c1, Ch.c2, RCh, Ch.w_c, Ch.d, Ch.eta, Ck.L, Ck.Is, Ck.of, TCk, Ck.d, Ck.eta]
      exact hgr _ fun h => ⟨h, by omega, by omega, fun _ => ⟨by omega, by omega⟩⟩
    have f1 : ((sf w).lo ≤ -100000) = False := eq_false s1
    by_cases s2 : (sf w).hi ≥ 100000
    · have f2 : ((sf w).hi ≥ 100000) = True := eq_true s2
      simp (config := { maxSteps := 4000000 }) only [RunTo, a11, sAlive, sReady, sGreatN, sNightP, hd0, n4, fz, en, ft, f1, f2, hw, eq_self, Ch.w_c, ↓imp_tt, ↓imp_tf, ↓imp_ft, ↓imp_ff, runO_3, runO_4, runO_5, runO_14, runO_17, runO_18, runO_19, aop, binV, ends, reOk, Nat.zero_sub, ev, evs, fget, fput, params, cellsOf, cellsN, isLB, vget, vset, vsets, vlen, bget, bset, addB, addN, mkv, sliceV, vtab, frz, opOwns, preFz, callFz, skipOp, WfT, resV, res1, casts, castOks, cast1, castOk, norm, norms, norm1, normL, pureB, pureL, onesB, snapV, snapOk, specV, argsL, capsL, mkE_S, lkp, pickV, lenV, Fin, vp_bool, Val.toInt, Val.toBool, Val.slen, Val.scell, ↓reduceIte, reduceCtorEq, Nat.reduceEqDiff, Nat.reduceAdd, Nat.reduceSub, Nat.reduceLeDiff, Nat.reduceLT, Nat.zero_add, Nat.add_zero, Nat.sub_zero, Int.reduceNeg, Int.reduceBEq, decide_true, decide_false, beq_iff_eq, beq_eq_false_iff_ne, List.length_cons, List.length_nil, List.append_nil, Bool.and_self, Bool.bne_false, bne_self_eq_false, Bool.not_true, and_true, true_and, and_self, and_assoc, forall_const, imp_self, implies_true, Nat.le_refl, Val.bool.injEq, ne_eq, not_false_eq_true, or_true, not_false_eq_true, maxLen, Nat.reducePow, inat, TU_enc, spec0, spec1, spec2, spec3, TSl, IsSl, TInt, IsInt, Prod.eta, Sp.c0, Sp.c1, RSp, Sp.w_c, Sp.d, Sp.eta, Sr.c0, Sr.c1, Sr.c2, Sr.c3, RSr, Sr.w_c, Sr.d, Sr.eta, Tl.c0, Tl.c1, Tl.c2, Tl.c3, Tl.c4, RTl, Tl.d, Tl.eta, Ch.c0, Ch.c1, Ch.c2, RCh, Ch.w_c, Ch.d, Ch.eta, Ck.L, Ck.Is, Ck.of, TCk, Ck.d, Ck.eta]
      exact hgr _ fun h => ⟨h, by omega, by omega, fun _ => ⟨by omega, by omega⟩⟩
    have f2 : ((sf w).hi ≥ 100000) = False := eq_false s2
    obtain ⟨r1, r2, r3, r4, r5⟩ := reached (w := w) (s := sf w) h1 (by omega) (by omega) (by rw [n4]) ⟨by omega, by omega⟩
    obtain ⟨ff, hffd⟩ : ∃ ff : Int → Int → Nat → Ch, ∀ lo hi, ff lo hi = fun i => Ch.d fun j' => if i = w ∧ 0 ≤ j' ∧ j' < 1 then vget (.cons (.view 5 ((l.2 w).told.1 + 1) fun a b => if a < (l.2 w).told.1 then ((l.2 w).told.2 a).c b else vget (vget (.cons (wordT lo hi).L .nil) (a - (l.2 w).told.1)) b) .nil) j' else (l.2 i).c j' := ⟨_, fun _ _ => rfl⟩
    have hff : ∀ lo hi, ff lo hi = (withL l w (wordT lo hi)).2 := fun lo hi => by
      funext i; rw [hffd]; simp only [withL]
      by_cases h5 : i = w
      · subst h5
        simp [Ch.d, Ch.c, vget, Val.slen, Val.scell, Val.toInt, Val.toBool, moreZ]
        funext a
        simp only [RTl]
        rcases Nat.lt_trichotomy a (l.2 i).told.1 with h | h | h
        · simp only [h, if_true]; exact Tl.d_c _
        · subst h; simp only [Nat.lt_irrefl, if_false, if_true, Nat.sub_self]; rfl
        · obtain ⟨z, hz⟩ : ∃ z, a - (l.2 i).told.1 = z + 1 := ⟨a - (l.2 i).told.1 - 1, by omega⟩
          rw [hz]; simp only [show ¬ a < (l.2 i).told.1 from by omega, show ¬ a = (l.2 i).told.1 from by omega, if_false]; rfl
      · simp [h5]; exact Ch.d_c _
    simp only [vget, Val.toInt, Val.toBool, Val.slen, Val.scell, Nat.reduceLeDiff, Nat.reduceLT, and_true, true_and, and_self, Nat.le_refl, Tl.L, RTl, Tl.d, Ch.c0, Ch.c1, Ch.c2, Ch.d] at hffd
    have hffs := fun lo hi => (hffd lo hi).symm
    have q := fun lo hi => show nightF k day (l.1, ff lo hi) = nightF k day (withL l w (wordT lo hi)) from by rw [hff]; rfl
    have q2 : ((nightF k day (withL l w (wordT ((sf w).lo - 1) ((sf w).lo - 1)))).2.2 = 0) = False := eq_false r4
    have q3 : ((nightF k day (withL l w (wordT ((sf w).hi + 1) ((sf w).hi + 1)))).2.2 = 0) = False := eq_false r5
    have f3 : ((sf w).lo ≤ (sf w).hi) = True := eq_true r1
    have e1 : IntKind.i64.wrap ((sf w).lo + 1) = (sf w).lo + 1 := wr64 (by omega) (by omega)
    have e2 : IntKind.i64.wrap ((sf w).lo - 1) = (sf w).lo - 1 := wr64 (by omega) (by omega)
    have e3 : IntKind.i64.wrap ((sf w).hi + 1) = (sf w).hi + 1 := wr64 (by omega) (by omega)
    have e4 : IntKind.i64.wrap ((sf w).hi - 1) = (sf w).hi - 1 := wr64 (by omega) (by omega)
    simp (config := { maxSteps := 4000000 }) only [RunTo, a11, a49, sAlive, sReady, sGreatN, sNightP, sWordL, hd0, n4, fz, en, ft, f1, f2, f3, e1, e2, e3, e4, hffs, q, r2, r3, q2, q3, hw, eq_self, Nat.not_lt_zero, Ch.w_c, ↓imp_tt, ↓imp_tf, ↓imp_ft, ↓imp_ff, runO_3, runO_4, runO_5, runO_14, runO_17, runO_18, runO_19, aop, binV, ends, reOk, dstV, Nat.zero_sub, ev, evs, fget, fput, params, cellsOf, cellsN, isLB, vget, vset, vsets, vlen, bget, bset, bdel, addB, addN, mkv, sliceV, vtab, rowsV, rowsOk, vrep, frz, opOwns, preFz, callFz, ownsL, owns, skipOp, WfT, resV, res1, casts, castOks, cast1, castOk, norm, norms, norm1, normL, pureB, pureL, flatB, onesB, snapV, snapOk, snapL, specV, argsL, capsL, mkE_S, mkE_I, mkE_G, lkp, pickV, lenV, subFr, subV, subBx, subStk, elemsV, Fin, vp_bool, Val.toInt, Val.toBool, Val.slen, Val.scell, ↓reduceIte, reduceCtorEq, Nat.reduceEqDiff, Nat.reduceAdd, Nat.reduceSub, Nat.reduceLeDiff, Nat.reduceLT, Nat.zero_add, Nat.add_zero, Nat.sub_zero, Int.reduceNeg, Int.reduceBEq, decide_true, decide_false, beq_iff_eq, beq_eq_false_iff_ne, List.length_cons, List.length_nil, List.nil_append, List.cons_append, List.append_nil, List.flatMap_nil, Bool.not_eq_true', Bool.not_eq_false', Bool.and_true, Bool.and_false, Bool.and_self, Bool.bne_true, Bool.bne_false, bne_self_eq_false, Bool.not_true, Bool.not_false, Bool.false_eq_true, beq_self_eq_true, and_true, true_and, and_self, and_assoc, forall_const, imp_self, implies_true, Nat.le_refl, Val.bool.injEq, ne_eq, not_false_eq_true, or_true, or_false, not_false_eq_true, maxLen, Nat.reducePow, inat, TU_enc, spec0, spec1, spec2, spec3, TSl, IsSl, TInt, IsInt, Prod.eta, Sp.c0, Sp.c1, RSp, Sp.w_c, Sp.d, Sp.eta, Sr.c0, Sr.c1, Sr.c2, Sr.c3, RSr, Sr.w_c, Sr.d, Sr.eta, Tl.L, Tl.c0, Tl.c1, Tl.c2, Tl.c3, Tl.c4, RTl, Tl.d, Tl.eta, Ch.c0, Ch.c1, Ch.c2, RCh, Ch.w_c, Ch.d, Ch.eta, Ck.L, Ck.Is, Ck.of, TCk, Ck.d, Ck.eta]
    refine hgr _ fun h => ?_
    have hw2 := h w (by omega)
    repeat' (first | omega | exact h | (with_reducible apply And.intro) | intro _)
    all_goals
      rename_i i hi
      by_cases h5 : i = w
      · subst h5
        first
        | (simp [Ch.w, vget, Val.slen, Val.scell, Val.toInt, Val.toBool, Ch.c, RTl]
           intro a ha
           by_cases h6 : a < (l.2 i).told.1
           · simp only [h6, if_true]; exact of_eq_true (Tl.w_c _)
           · obtain rfl : a = (l.2 i).told.1 := by omega
             simp only [Nat.lt_irrefl, if_false, Nat.sub_self]; exact ⟨rfl, rfl, rfl, rfl, rfl⟩)
        | (simp only [if_true]; omega)
      · have := h i hi
        first
        | (simp only [h5, false_and, if_false]; exact of_eq_true (Ch.w_c _))
        | (simp only [h5, if_false]; omega)
  · have f1 : ((nightF k day l).2.2 = 32) = False := eq_false h3
    have f2 : ((nightF k day l).2.2 = 0) = False := eq_false h2
    simp (config := { maxSteps := 4000000 }) only [RunTo, a11, sAlive, sReady, sGreatN, sNightP, hd0, f1, f2, h1, hw, eq_self, Ch.w_c, ↓imp_tt, ↓imp_tf, ↓imp_ft, ↓imp_ff, runO_3, runO_4, runO_5, runO_14, runO_17, runO_18, runO_19, aop, binV, ends, reOk, Nat.zero_sub, ev, evs, fget, fput, params, cellsOf, cellsN, isLB, vget, vset, vsets, vlen, bget, bset, addB, addN, mkv, sliceV, vtab, frz, opOwns, preFz, callFz, skipOp, WfT, resV, res1, casts, castOks, cast1, castOk, norm, norms, norm1, normL, pureB, pureL, onesB, snapV, snapOk, specV, argsL, capsL, mkE_S, mkE_I, lkp, pickV, optInt, lenV, Fin, vp_bool, Val.toInt, Val.toBool, Val.slen, Val.scell, ↓reduceIte, reduceCtorEq, Nat.reduceEqDiff, Nat.reduceAdd, Nat.reduceSub, Nat.reduceLeDiff, Nat.reduceLT, Nat.zero_add, Nat.add_zero, Nat.sub_zero, Int.reduceToNat, Int.cast_ofNat_Int, Int.reduceLE, Int.reduceNeg, beq_iff_eq, beq_eq_false_iff_ne, bne_iff_ne, bne_eq_false_iff_eq, List.length_cons, List.length_nil, List.nil_append, List.cons_append, List.append_nil, Bool.and_self, Bool.bne_true, Bool.bne_false, bne_self_eq_false, Bool.not_true, Bool.not_false, Bool.false_eq_true, beq_self_eq_true, and_true, true_and, and_self, and_assoc, forall_const, imp_self, implies_true, Nat.le_refl, decide_eq_true_eq, decide_eq_false_iff_not, Val.bool.injEq, ne_eq, not_false_eq_true, false_implies, or_true, not_false_eq_true, maxLen, Nat.reducePow, TU_enc, spec0, spec1, spec2, spec3, TSl, IsSl, TInt, IsInt, Prod.eta, Sp.c0, Sp.c1, RSp, Sp.w_c, Sp.d, Sp.eta, Sr.c0, Sr.c1, Sr.c2, Sr.c3, RSr, Sr.w_c, Sr.d, Sr.eta, Tl.c0, Tl.c1, Tl.c2, Tl.c3, Tl.c4, RTl, Tl.d, Tl.eta, Ch.c0, Ch.c1, Ch.c2, RCh, Ch.w_c, Ch.d, Ch.eta, Ck.L, Ck.Is, Ck.of, TCk, Ck.d, Ck.eta]
    exact hgr _ fun h => h
  · have e1 : nightF k day (i, l.2) = ((i, fun j => minsF (bwdF k day l.2 i (i - 1 - j))), 0, 0) := nightF_ok (l := (i, l.2)) h3 (by simp only; omega) (fun j hj => h5 j (by simp only at hj; omega)) h7
    have e2 : nightF k day (i + 1, l.2) = (noSp, (i : Int), 32) := nightF_clash (l := (i + 1, l.2)) h3 (by simp only; omega) (fun j hj => h5 j (by simp only at hj; omega)) (by simp only; omega) h6 h7
    have f1 : ((i : Int) < 0) = False := eq_false (by omega)
    have f2 : ((i : Int) ≥ (l.1 : Int)) = False := eq_false (by omega)
    have e3 : ((i : Int) - 0).toNat = i := by omega
    have e4 : (IntKind.i64.wrap ((i : Int) + 1) - 0).toNat = i + 1 := by rw [wr64 (by omega) (by omega)]; omega
    simp (config := { maxSteps := 4000000 }) only [RunTo, a11, sAlive, sReady, sGreatN, sNightP, noSp, hd0, f1, f2, e1, e2, e3, e4, h2, hw, eq_self, Ch.w_c, ↓imp_tt, ↓imp_tf, ↓imp_ft, ↓imp_ff, runO_3, runO_4, runO_5, runO_14, runO_17, runO_18, runO_19, aop, binV, ends, Nat.zero_sub, ev, fget, fput, params, cellsOf, cellsN, isLB, vget, vlen, bget, addB, addN, mkv, sliceV, vtab, frz, opOwns, preFz, callFz, skipOp, WfT, resV, res1, norm, norms, norm1, normL, pureB, pureL, snapV, snapOk, specV, argsL, capsL, mkE_S, lkp, pickV, optInt, lenV, Fin, vp_bool, Val.toInt, Val.toBool, Val.slen, Val.scell, ↓reduceIte, reduceCtorEq, Nat.reduceEqDiff, Nat.reduceAdd, Nat.reduceSub, Nat.reduceLeDiff, Nat.reduceLT, Nat.zero_add, Int.reduceToNat, Int.cast_ofNat_Int, Int.reduceLE, Int.reduceNeg, decide_false, List.length_cons, List.length_nil, List.append_nil, Bool.and_self, Bool.bne_false, bne_self_eq_false, Bool.not_true, beq_self_eq_true, and_true, true_and, and_self, and_assoc, forall_const, imp_self, implies_true, Nat.le_refl, maxLen, Nat.reducePow, TU_enc, spec0, spec1, spec2, spec3, TSl, IsSl, TInt, IsInt, Prod.eta, Sp.c0, Sp.c1, RSp, Sp.w_c, Sp.d, Sp.eta, Sr.c0, Sr.c1, Sr.c2, Sr.c3, RSr, Sr.w_c, Sr.d, Sr.eta, Tl.c0, Tl.c1, Tl.c2, Tl.c3, Tl.c4, RTl, Tl.d, Tl.eta, Ch.c0, Ch.c1, Ch.c2, RCh, Ch.w_c, Ch.d, Ch.eta, Ck.L, Ck.Is, Ck.of, TCk, Ck.d, Ck.eta]
    refine hgr _ fun h => ⟨h, by omega, by omega, fun j hj => h j (by omega), ?_, ?_, fun j hj => h j (by omega)⟩
    · rw [wr64 (by omega) (by omega)]; omega
    · rw [wr64 (by omega) (by omega)]; omega
end Go.Proofs.YtbhhcnonooiokaaDoor
