/- WeevilGifts: who may give offshoots away; an offshoot that was given away is not ill. No condition. -/
import Derived.Test.YtpknbojgkkmonaaWRdy
import Derived.Test.YtpknbojgkkmonaaACodeL10
import Derived.Test.YtpknbojgkkmonaaWApg
set_option linter.unusedSimpArgs false
set_option linter.unusedVariables false
namespace Go.Proofs.Ytpknbojgkkmonaa
open Go Go.RowKit
variable {G : Nat → Option (Nat × (Nat → Val))}
noncomputable def sLawGifts : Spec := spec5 TGv (TSl RSg) TI TPl (TU .u8) (fun _ _ _ _ _ => True) fun _ _ _ _ _ => .bool true
set_option maxHeartbeats 8000000 in
set_option maxRecDepth 100000 in
theorem pLawGifts : PureOk Try.prog G 10 sLawGifts := by
  refine fn5 (S := [(28, sAlive), (29, sReadyW), (22, sSoonest), (15, sIll), (17, sGifts), (38, sSigns), (39, sNear)]) (I := [(14, a14)]) mixed (.cons pAlive (.cons pReadyW (.cons pSoonest (.cons pIll (.cons pGifts (.cons pSigns (.cons pNear .nil))))))) (.cons Try.func14 c14 .nil) Try.func10 c10 fun g l day at' which _ hw => ?_
  simp only [vl, WfT, Val.toInt, Val.slen, Val.scell, Nat.reduceSub, and_true, true_and, and_self, and_assoc, maxLen, Nat.reducePow, TU_enc, TSl, TInt, RInt, RPm, Pm.d, Pl.L, TPl, RPl, Pl.d, Gv.L, TGv, RSg, Sg.d] at hw
  obtain ⟨w1, w2, w3, w4⟩ := hw
  by_cases hr : rdyP g l
  case neg =>
    have fr := decP_f hr
    simp (config := { maxSteps := 4000000 }) only [RunTo, a10, sAlive, sReadyW, fr, w1, w2, w3, w4, ↓imp_tt, ↓imp_tf, runO_3, runO_5, runO_14, runO_17, runO_18, runO_19, aop, ends, Nat.zero_sub, ev, fget, fput, params, cellsOf, cellsN, isLB, vget, vlen, bget, addB, addN, mkv, sliceV, vtab, frz, opOwns, preFz, callFz, skipOp, WfT, resV, res1, norm, norms, norm1, normL, pureB, pureL, snapV, snapOk, specV, argsL, capsL, mkE_S, lkp, pickV, Fin, vp_bool, Val.toInt, Val.slen, Val.scell, ↓reduceIte, reduceCtorEq, Nat.reduceEqDiff, Nat.reduceAdd, Nat.reduceSub, Nat.zero_add, List.length_cons, List.length_nil, List.append_nil, Bool.and_self, Bool.bne_false, Bool.not_false, and_true, and_self, and_assoc, forall_const, imp_self, implies_true, Nat.le_refl, maxLen, Nat.reducePow, TU_enc, spec0, spec2, TSl, IsSl, TInt, RInt, Prod.eta, Pm.c0, Pm.c1, Pm.c2, Pm.c3, Pm.c4, RPm, Pm.w_c, Pm.d, Pm.eta, Pl.L, Pl.c0, Pl.c1, TPl, RPl, Pl.w_c, Pl.d, Pl.eta, Gv.L, Gv.Is, Gv.of, TGv, Gv.d, Gv.eta, Sg.c0, Sg.c1, Sg.c2, Sg.c3, Sg.c4, Sg.c5, RSg, Sg.w_c, Sg.d, Sg.eta, toUI_val]
  have fr := decP_t hr
  obtain ⟨hg, hl⟩ := rdy_ok hr
  have hn24 := hg.pms.n
  by_cases hd1 : day ≤ g.start
  · have f1 := eq_true hd1
    simp (config := { maxSteps := 4000000 }) only [RunTo, a10, sAlive, sReadyW, fr, f1, w1, w2, w3, w4, ↓imp_tt, ↓imp_tf, ↓imp_ft, ↓imp_ff, runO_3, runO_5, runO_14, runO_17, runO_18, runO_19, aop, binV, ends, Nat.zero_sub, ev, fget, fput, params, cellsOf, cellsN, isLB, vget, vlen, bget, addB, addN, mkv, sliceV, vtab, frz, opOwns, preFz, callFz, skipOp, WfT, resV, res1, norm, norms, norm1, normL, pureB, pureL, snapV, snapOk, specV, argsL, capsL, mkE_S, lkp, pickV, Fin, vp_bool, Val.toInt, Val.slen, Val.scell, ↓reduceIte, reduceCtorEq, Nat.reduceEqDiff, Nat.reduceAdd, Nat.reduceSub, Nat.reduceLeDiff, Nat.zero_add, decide_true, List.length_cons, List.length_nil, List.append_nil, Bool.and_self, Bool.bne_false, bne_self_eq_false, Bool.not_true, and_true, and_self, and_assoc, forall_const, imp_self, implies_true, Nat.le_refl, maxLen, Nat.reducePow, TU_enc, spec0, spec2, TSl, IsSl, TInt, RInt, Prod.eta, Pm.c0, Pm.c1, Pm.c2, Pm.c3, Pm.c4, RPm, Pm.w_c, Pm.d, Pm.eta, Pl.L, Pl.c0, Pl.c1, TPl, RPl, Pl.w_c, Pl.d, Pl.eta, Gv.L, Gv.Is, Gv.of, TGv, Gv.d, Gv.eta, Sg.c0, Sg.c1, Sg.c2, Sg.c3, Sg.c4, Sg.c5, RSg, Sg.w_c, Sg.d, Sg.eta, toUI_val]
  have f1 := eq_false hd1
  by_cases hd2 : day > 100000
  · have f2 := eq_true hd2
    simp (config := { maxSteps := 4000000 }) only [RunTo, a10, sAlive, sReadyW, fr, f1, f2, w1, w2, w3, w4, ↓imp_tt, ↓imp_tf, ↓imp_ft, ↓imp_ff, runO_3, runO_5, runO_14, runO_17, runO_18, runO_19, aop, binV, ends, Nat.zero_sub, ev, fget, fput, params, cellsOf, cellsN, isLB, vget, vlen, bget, addB, addN, mkv, sliceV, vtab, frz, opOwns, preFz, callFz, skipOp, WfT, resV, res1, norm, norms, norm1, normL, pureB, pureL, snapV, snapOk, specV, argsL, capsL, mkE_S, lkp, pickV, Fin, vp_bool, Val.toInt, Val.slen, Val.scell, ↓reduceIte, reduceCtorEq, Nat.reduceEqDiff, Nat.reduceAdd, Nat.reduceSub, Nat.reduceLeDiff, Nat.zero_add, decide_true, decide_false, List.length_cons, List.length_nil, List.append_nil, Bool.and_self, Bool.bne_false, bne_self_eq_false, Bool.not_true, and_true, and_self, and_assoc, forall_const, imp_self, implies_true, Nat.le_refl, maxLen, Nat.reducePow, TU_enc, spec0, spec2, TSl, IsSl, TInt, RInt, Prod.eta, Pm.c0, Pm.c1, Pm.c2, Pm.c3, Pm.c4, RPm, Pm.w_c, Pm.d, Pm.eta, Pl.L, Pl.c0, Pl.c1, TPl, RPl, Pl.w_c, Pl.d, Pl.eta, Gv.L, Gv.Is, Gv.of, TGv, Gv.d, Gv.eta, Sg.c0, Sg.c1, Sg.c2, Sg.c3, Sg.c4, Sg.c5, RSg, Sg.w_c, Sg.d, Sg.eta, toUI_val]
  have f2 := eq_false hd2
  have hd : g.start ≤ day ∧ day ≤ 100000 := by omega
  by_cases hok : okP g l l.1
  case neg =>
    have q4 := as_no hg hl hd hok
    have q5 := il_no hg hl hd hok
    have q6 := gf_no hg hl hd hok
    simp (config := { maxSteps := 4000000 }) only [RunTo, a10, sAlive, sReadyW, sSoonest, sIll, sGifts,  fr, f1, f2, q4, q5, q6, w1, w2, w3, w4, ↓imp_tt, ↓imp_tf, ↓imp_ft, ↓imp_ff, runO_3, runO_4, runO_5, runO_14, runO_17, runO_18, runO_19, aop, binV, ends, Nat.zero_sub, ev, fget, fput, params, cellsOf, cellsN, isLB, vget, vlen, bget, addB, addN, mkv, sliceV, vtab, frz, opOwns, preFz, callFz, skipOp, WfT, resV, res1, norm, norms, norm1, normL, pureB, pureL, snapV, snapOk, specV, argsL, capsL, mkE_S, lkp, pickV, lenV, Fin, vp_bool, Val.toInt, Val.slen, Val.scell, ↓reduceIte, reduceCtorEq, Nat.reduceEqDiff, Nat.reduceAdd, Nat.reduceSub, Nat.reduceLeDiff, Nat.reduceLT, Nat.zero_add, Int.reduceBNe, decide_false, List.length_cons, List.length_nil, List.append_nil, Bool.and_self, Bool.bne_false, bne_self_eq_false, Bool.not_true, beq_self_eq_true, and_true, and_self, and_assoc, forall_const, imp_self, implies_true, Nat.le_refl, maxLen, Nat.reducePow, TU_enc, spec0, spec2, spec3, TSl, IsSl, TInt, IsInt, RInt, Prod.eta, Pm.c0, Pm.c1, Pm.c2, Pm.c3, Pm.c4, RPm, Pm.w_c, Pm.d, Pm.eta, Pl.L, Pl.c0, Pl.c1, TPl, RPl, Pl.w_c, Pl.d, Pl.eta, Gv.L, Gv.Is, Gv.of, TGv, Gv.d, Gv.eta, Sg.c0, Sg.c1, Sg.c2, Sg.c3, Sg.c4, Sg.c5, RSg, Sg.w_c, Sg.d, Sg.eta, toUI_val]
  have q4 := asE_ok hg hl hd hok
  have q5 := il_ok hg hl hd hok
  have q6 := gf_ok hg hl hd hok
  have hst := hg.start
  have hn := hg.n
  have hgr : ¬ (g.palms.1 > 30 ∨ g.places.1 > 40 ∨ g.sus.1 > 40 ∨ l.1 > 40) := hr.1
  have hk0 := fun i => ill_0 (g := g) (l := l) (day := day) (i := i)
  obtain ⟨K, hK⟩ : ∃ K, illF g l day = K := ⟨_, rfl⟩
  rw [hK] at q5
  simp only [hK] at hk0
  have hmono : ∀ j, j < g.palms.1 → giftOk g l day j → (gfF g l day j).1 < (gfF g l day g.palms.1).1 ∧ (gfF g l day g.palms.1).2 (gfF g l day j).1 = (g.palms.2 j).id := fun j hj h => sel_at hj h
  have hstep : ∀ j, giftOk g l day j → (gfF g l day (j + 1)).1 = (gfF g l day j).1 + 1 := fun j h => by unfold gfF; rw [sel_t h]
  have hstay : ∀ j, ¬ giftOk g l day j → (gfF g l day (j + 1)).1 = (gfF g l day j).1 := fun j h => by unfold gfF; rw [sel_f h]
  have hmem : ∀ k, k < (gfF g l day g.palms.1).1 → ∃ i, i < g.palms.1 ∧ giftOk g l day i ∧ (gfF g l day g.palms.1).2 k = (g.palms.2 i).id := fun k hk => sel_mem g.palms.1 k hk
  have hle : ∀ j, (gfF g l day j).1 ≤ j := fun j => sel_le j
  have hzero : (gfF g l day 0).1 = 0 := rfl
  obtain ⟨F, hF⟩ : ∃ F, gfF g l day = F := ⟨_, rfl⟩
  simp only [hF] at q6 hmono hstep hstay hmem hle hzero
  simp (config := { maxSteps := 4000000 }) only [RunTo, a10, sAlive, sReadyW, sSoonest, sIll, sGifts,  fr, f1, f2, q4, q5, q6, w1, w2, w3, w4, ↓imp_ft, ↓imp_ff, runO_4, runO_5, runO_6, runO_14, runO_15, runO_17, runO_18, runO_19, aop, binV, ev, fget, fput, params, cellsOf, cellsN, isLB, vget, vlen, bget, addB, addN, mkv, sliceV, vtab, frz, opOwns, preFz, callFz, skipOp, WfT, norm, norms, norm1, normL, pureB, pureL, specV, argsL, capsL, mkE_S, lkp, pickV, lenV, Fin, vp_bool, Val.toInt, Val.slen, Val.scell, ↓reduceIte, reduceCtorEq, Nat.reduceEqDiff, Nat.reduceAdd, Nat.reduceSub, Nat.reduceLeDiff, Nat.reduceLT, Nat.zero_add, Nat.add_zero, decide_false, List.length_cons, List.length_nil, List.append_nil, Bool.and_self, bne_self_eq_false, Bool.not_true, and_true, true_and, and_self, and_assoc, forall_const, imp_self, implies_true, Nat.le_refl, maxLen, Nat.reducePow, TU_enc, spec0, spec2, spec3, TSl, IsSl, TInt, IsInt, RInt, Prod.eta, Pm.c0, Pm.c1, Pm.c2, Pm.c3, Pm.c4, RPm, Pm.w_c, Pm.d, Pm.eta, Pl.L, Pl.c0, Pl.c1, TPl, RPl, Pl.w_c, Pl.d, Pl.eta, Gv.L, Gv.Is, Gv.of, TGv, Gv.d, Gv.eta, Sg.c0, Sg.c1, Sg.c2, Sg.c3, Sg.c4, Sg.c5, RSg, Sg.w_c, Sg.d, Sg.eta, toUI_val]
  repeat' (first | omega | (with_reducible apply And.intro) | intro _)
  refine loopI (ι := Nat) (fun j => j ≤ g.palms.1) (fun j => g.palms.1 - j) [1, 2, 4, 5, 8, 11, 12, 14, 89, 90] (fun j => [(16, .int .i64 (F j).1), (91, .int .i64 j)]) (fun _ => []) 0 (by omega) (by simp only [hzero, Chk, chkFr, chkBx, chkBx1, hasB, idsLt, kept, vs_int, vs_bool, vs_nil, vs_ptr, vs_cons, vs_view, fget, isLB, bget, vsubP_self, ↓reduceIte, reduceCtorEq, Nat.reduceEqDiff, Nat.reduceLT, Int.cast_ofNat_Int, and_self, forall_const, implies_true, Option.some.injEq, exists_eq', keepF, appF, updB]; try rfl) fun j hj => ?_
  by_cases hjl : j < g.palms.1
  · have fj : ((j : Int) < (g.palms.1 : Int)) = True := eq_true (by omega)
    have hpl := hg.pms.pl j hjl
    have hFj := hle j
    have e1 : IntKind.i64.wrap (day - (g.palms.2 j).planted) = day - (g.palms.2 j).planted := wr64 (by omega) (by omega)
    by_cases h2 : day - (g.palms.2 j).planted ≥ 1000
    · have g2 := eq_true h2
      by_cases h3 : K j = 0
      · have hgo : giftOk g l day j := ⟨(hk0 j).1 h3, h2⟩
        obtain ⟨m1, m2⟩ := hmono j hjl hgo
        have en := hstep j hgo
        have g3 : (((F j).1 : Int) ≥ ((F g.palms.1).1 : Int)) = False := eq_false (by omega)
        simp (config := { maxSteps := 4000000 }) only [fj, e1, g2, g3, h3, m2, w1, ↓imp_tt, ↓imp_tf, ↓imp_ft, ↓imp_ff, runO_4, runO_5, runO_6, runO_8, runO_14, runO_16, runO_17, runO_18, runO_19, aop, binV, reOk, Nat.zero_sub, ev, fget, fput, cellsOf, cellsN, isLB, vget, vset, vsets, vlen, bget, bset, addB, addN, mkv, sliceV, vtab, frz, opOwns, preFz, skipOp, WfT, casts, castOks, cast1, castOk, onesB, pickV, lenV, stkFr, Val.toInt, ↓reduceIte, reduceCtorEq, Nat.reduceEqDiff, Nat.reduceAdd, Nat.reduceSub, Nat.reduceLeDiff, Nat.zero_add, Nat.add_zero, decide_true, decide_false, List.length_cons, List.length_nil, Bool.and_self, bne_self_eq_false, beq_self_eq_true, and_true, true_and, and_self, and_assoc, forall_const, imp_self, implies_true, Nat.le_refl, maxLen, Nat.reducePow, keepF, appF, updB, inat, Pm.c0, Pm.c1, Pm.c2, Pm.c3, Pm.c4]
        repeat' (first | omega | (with_reducible apply And.intro) | intro _)
        refine inv_intro (j + 1) (by omega) (by omega) ?_
        simp only [en, Chk, chkFr, chkBx, chkBx1, hasB, idsLt, kept, vs_int, vs_bool, vs_nil, vs_ptr, vs_cons, vs_view, Nat.lt_irrefl, fget, isLB, bget, vsubP_self, ↓reduceIte, reduceCtorEq, Nat.reduceEqDiff, Nat.reduceLT, and_true, true_and, and_self, forall_const, implies_true, Option.some.injEq, Val.int.injEq, exists_eq', false_implies]
        rw [wrS (by omega), wrS (by omega)]
        exact ⟨rfl, rfl⟩
      · have hno : ¬ giftOk g l day j := fun h => h3 ((hk0 j).2 h.1)
        have en := hstay j hno
        have g3 : (K j == 0) = false := beq_eq_false_iff_ne.2 h3
        simp (config := { maxSteps := 4000000 }) only [fj, e1, g2, g3, w1, ↓imp_tt, ↓imp_tf, ↓imp_ft, ↓imp_ff, runO_4, runO_5, runO_6, runO_8, runO_14, runO_16, runO_17, runO_18, runO_19, aop, binV, reOk, Nat.zero_sub, ev, fget, fput, cellsOf, cellsN, isLB, vget, vset, vsets, vlen, bget, bset, addB, addN, mkv, sliceV, vtab, frz, opOwns, preFz, skipOp, WfT, casts, castOks, cast1, castOk, onesB, pickV, stkFr, Val.toInt, ↓reduceIte, reduceCtorEq, Nat.reduceEqDiff, Nat.reduceAdd, Nat.reduceSub, Nat.reduceLeDiff, Nat.zero_add, decide_true, List.length_cons, List.length_nil, Bool.and_self, bne_self_eq_false, and_true, true_and, and_self, forall_const, imp_self, implies_true, Nat.le_refl, maxLen, Nat.reducePow, keepF, appF, updB, inat, Pm.c0, Pm.c1, Pm.c2, Pm.c3, Pm.c4]
        repeat' (first | omega | (with_reducible apply And.intro) | intro _)
        refine inv_intro (j + 1) (by omega) (by omega) ?_
        simp only [en, Chk, chkFr, chkBx, chkBx1, hasB, idsLt, kept, vs_int, vs_bool, vs_nil, vs_ptr, vs_cons, vs_view, Nat.lt_irrefl, fget, isLB, bget, vsubP_self, ↓reduceIte, reduceCtorEq, Nat.reduceEqDiff, Nat.reduceLT, and_true, true_and, and_self, forall_const, implies_true, Option.some.injEq, Val.int.injEq, exists_eq', false_implies]
        rw [wrS (by omega)]
    · have g2 := eq_false h2
      have en := hstay j fun h => h2 h.2
      simp (config := { maxSteps := 4000000 }) only [fj, e1, g2, ↓imp_tt, ↓imp_tf, ↓imp_ft, ↓imp_ff, runO_4, runO_5, runO_6, runO_8, runO_14, runO_16, runO_17, runO_18, runO_19, aop, binV, reOk, Nat.zero_sub, ev, fget, fput, cellsOf, cellsN, isLB, vget, vset, vsets, vlen, bget, bset, addB, addN, mkv, sliceV, vtab, frz, opOwns, preFz, skipOp, WfT, casts, castOks, cast1, castOk, onesB, pickV, stkFr, Val.toInt, ↓reduceIte, reduceCtorEq, Nat.reduceEqDiff, Nat.reduceAdd, Nat.reduceLeDiff, Nat.zero_add, decide_true, decide_false, List.length_cons, List.length_nil, Bool.and_self, Bool.bne_true, Bool.not_false, and_true, true_and, and_self, forall_const, imp_self, implies_true, Nat.le_refl, keepF, appF, updB, inat, Pm.c0, Pm.c1, Pm.c2, Pm.c3, Pm.c4]
      repeat' (first | omega | (with_reducible apply And.intro) | intro _)
      refine inv_intro (j + 1) (by omega) (by omega) ?_
      simp only [en, Chk, chkFr, chkBx, chkBx1, hasB, idsLt, kept, vs_int, vs_bool, vs_nil, vs_ptr, vs_cons, vs_view, Nat.lt_irrefl, fget, isLB, bget, vsubP_self, ↓reduceIte, reduceCtorEq, Nat.reduceEqDiff, Nat.reduceLT, and_true, true_and, and_self, forall_const, implies_true, Option.some.injEq, Val.int.injEq, exists_eq', false_implies]
      rw [wrS (by omega)]
  have fj : ((j : Int) < (g.palms.1 : Int)) = False := eq_false (by omega)
  obtain rfl : j = g.palms.1 := by omega
  obtain ⟨m, hm⟩ : ∃ m, (F g.palms.1).1 = m := ⟨_, rfl⟩
  obtain ⟨X, hX⟩ : ∃ X, (F g.palms.1).2 = X := ⟨_, rfl⟩
  have hmn := hle g.palms.1
  rw [hm] at hmn hmem
  rw [hX] at hmem
  by_cases hm0 : m = 0
  · have g2 : ((m : Int) == 0) = true := beq_iff_eq.2 (by omega)
    simp (config := { maxSteps := 4000000 }) only [fj, hm, hX, g2, ↓imp_tt, ↓imp_tf, ↓imp_ft, ↓imp_ff, runO_3, runO_4, runO_5, runO_9, runO_14, runO_17, runO_18, runO_19, aop, binV, ends, Nat.zero_sub, ev, fget, fput, addB, addN, frz, opOwns, preFz, skipOp, WfT, resV, res1, snapV, snapOk, pickV, lenV, popTo, stkFr, ↓reduceIte, reduceCtorEq, Nat.reduceEqDiff, Nat.reduceSub, decide_false, Bool.bne_false, bne_self_eq_false, and_self, forall_const, imp_self, implies_true, maxLen, Nat.reducePow, keepF, appF, updB]
  have g2 : ((m : Int) == 0) = false := beq_eq_false_iff_ne.2 (by omega)
  have g2' : ((g.palms.1 : Int) == 0) = false := beq_eq_false_iff_ne.2 (by omega)
  have w8 : 0 ≤ which.1 ∧ which.1 ≤ 255 := by
    have h1 := which.2
    have e1 : IntKind.min .u8 = 0 := by decide
    have e2 : IntKind.max .u8 = 255 := by decide
    omega
  have e0 : IntKind.i64.wrap which.1 = which.1 := wr64 (by omega) (by omega)
  obtain ⟨t, et, ht⟩ : ∃ t : Nat, which.1.tmod (m : Int) = t ∧ t < m := by
    have h3 := Int.tmod_nonneg (m : Int) w8.1
    have h4 := Int.tmod_lt_of_pos which.1 (show (0 : Int) < m by omega)
    exact ⟨(which.1.tmod m).toNat, by omega, by omega⟩
  obtain ⟨mi, hmi, hmg, hmX⟩ := hmem t ht
  have e1 : IntKind.i64.wrap ((g.palms.1 : Int) - 1) = ((g.palms.1 - 1 : Nat) : Int) := by rw [wr64 (by omega) (by omega)]; omega
  have hidb := hg.pms.id (g.palms.1 - 1) (by omega)
  have e2 : IntKind.i64.wrap ((g.palms.2 (g.palms.1 - 1)).id + 1) = (g.palms.2 (g.palms.1 - 1)).id + 1 := wr64 (by omega) (by omega)
  obtain ⟨nid, hnid⟩ : ∃ nid, (g.palms.2 (g.palms.1 - 1)).id + 1 = nid := ⟨_, rfl⟩
  rw [hnid] at e2
  obtain ⟨a0, a1, a2, a3, a4⟩ := ap_pm g.palms nid (g.palms.2 mi).id day
  obtain ⟨b0, b1⟩ := ap_pl g.places at'.x at'.y
  have aw := ap_pmw g.palms nid (g.palms.2 mi).id day
  have bw := ap_plw g.places at'.x at'.y
  simp only [Val.toInt, pmV, plV] at a0 a1 a2 a3 a4 b0 b1 aw bw
  obtain ⟨px, hpx⟩ : ∃ px, snocG g.palms (pmN nid (g.palms.2 mi).id day) pm0 = px := ⟨_, rfl⟩
  obtain ⟨qx, hqx⟩ : ∃ qx, snocG g.places ⟨at'.x, at'.y⟩ pl0 = qx := ⟨_, rfl⟩
  rw [hpx] at a0 a1 a2 a3 a4
  rw [hqx] at b0 b1
  obtain ⟨x, hx⟩ : ∃ x : Gv, x = ⟨(g.palms.1 + 1, px), (g.places.1 + 1, qx), g.reach, g.hatch, g.shows, g.start, g.sus⟩ := ⟨_, rfl⟩
  have hxr := hx.symm
  by_cases hsx : sgsE x l = 0
  case neg =>
    have g4 := eq_false hsx
    simp (config := { maxSteps := 4000000 }) only [a14, sSigns, fj, hm, hX, g2, g2', e0, et, e1, e2, hmX, a0, a1, a2, a3, a4, b0, b1, hxr, g4, hnid, Nat.not_lt_zero, w1, w2, w3, w4, flatO, ↓imp_ft, ↓imp_ff, runO_3, runO_4, runO_5, runO_6, runO_9, runO_14, runO_15, runO_17, runO_18, runO_19, aop, binV, ends, reOk, Nat.zero_sub, ev, fget, fput, params, cellsOf, cellsN, isLB, vget, vset, vsets, vlen, bget, bset, addB, addN, mkv, sliceV, vtab, fillV, fillOk, rowsV, rowsOk, vrep, frz, opOwns, preFz, callFz, owns, skipOp, WfT, resV, res1, casts, castOks, cast1, castOk, norm, norms, norm1, normL, pureB, pureL, flatB, onesB, snapV, snapOk, snapL, snapOks, specV, argsL, capsL, mkE_S, mkE_I, mkE_G, lkp, pickV, lenV, subFr, subV, subBx, subStk, elemsV, popTo, stkFr, Val.toInt, Val.slen, Val.scell, ↓reduceIte, reduceCtorEq, Nat.reduceEqDiff, Nat.reduceAdd, Nat.reduceSub, Nat.reduceLeDiff, Nat.reduceLT, Nat.zero_add, Nat.add_zero, Nat.sub_zero, decide_false, bne_iff_ne, bne_eq_false_iff_eq, List.length_cons, List.length_nil, List.append_nil, List.flatMap_cons, List.flatMap_nil, Bool.and_true, Bool.and_false, Bool.and_self, bne_self_eq_false, Bool.not_true, and_true, true_and, and_self, and_assoc, forall_const, imp_self, implies_true, Nat.le_refl, ne_eq, not_false_eq_true, false_implies, or_false, not_false_eq_true, maxLen, Nat.reducePow, keepF, appF, updB, inat, spec2, TSl, IsSl, RInt, Prod.eta, Pm.c0, Pm.c1, Pm.c2, Pm.c3, Pm.c4, RPm, Pm.d, Pm.eta, Pl.c0, Pl.c1, RPl, Pl.d, Pl.eta, Gv.L, Gv.Is, Gv.of, TGv, Gv.d, Sg.c0, Sg.c1, Sg.c2, Sg.c3, Sg.c4, Sg.c5, RSg, Sg.w_c, Sg.d, Sg.eta, toUI_val]
    refine fun _ => ?_
    repeat' (first | omega | (with_reducible apply And.intro) | intro _)
    all_goals first
      | exact aw _ (by assumption)
      | exact bw _ (by assumption)
  obtain ⟨hgx, hlx⟩ := sgsE_0 hsx
  have hxp : x.palms = (g.palms.1 + 1, px) := by rw [hx]
  have hxq : x.places = (g.places.1 + 1, qx) := by rw [hx]
  have hqn : qx g.places.1 = at' := by rw [← hqx]; exact sng_r
  have hpn : px g.palms.1 = pmN nid (g.palms.2 mi).id day := by rw [← hpx]; exact sng_r
  have pat : PlOk at' := by
    have := hgx.pl g.places.1 (by rw [hxq]; exact Nat.lt_succ_self _)
    rw [hxq] at this
    show PlOk at'
    rw [← hqn]; exact this
  simp (config := { maxSteps := 4000000 }) only [a14, sSigns, fj, hm, hX, g2, g2', e0, et, e1, e2, hmX, a0, a1, a2, a3, a4, b0, b1, hxr, hsx, hnid, Nat.not_lt_zero, w1, w2, w3, w4, flatO, ↓imp_ft, ↓imp_ff, runO_3, runO_4, runO_5, runO_6, runO_9, runO_14, runO_15, runO_17, runO_18, runO_19, aop, binV, ends, reOk, Nat.zero_sub, ev, fget, fput, params, cellsOf, cellsN, isLB, vget, vset, vsets, vlen, bget, bset, addB, addN, mkv, sliceV, vtab, fillV, fillOk, rowsV, rowsOk, vrep, frz, opOwns, preFz, callFz, owns, skipOp, WfT, resV, res1, casts, castOks, cast1, castOk, norm, norms, norm1, normL, pureB, pureL, flatB, onesB, snapV, snapOk, snapL, snapOks, specV, argsL, capsL, mkE_S, mkE_I, mkE_G, lkp, pickV, lenV, subFr, subV, subBx, subStk, elemsV, popTo, stkFr, Val.toInt, Val.slen, Val.scell, ↓reduceIte, reduceCtorEq, Nat.reduceEqDiff, Nat.reduceAdd, Nat.reduceSub, Nat.reduceLeDiff, Nat.reduceLT, Nat.zero_add, Nat.add_zero, Nat.sub_zero, decide_false, List.length_cons, List.length_nil, List.append_nil, List.flatMap_cons, List.flatMap_nil, Bool.and_true, Bool.and_false, Bool.and_self, bne_self_eq_false, Bool.not_true, and_true, true_and, and_self, and_assoc, forall_const, imp_self, implies_true, Nat.le_refl, ne_eq, or_false, maxLen, Nat.reducePow, keepF, appF, updB, inat, spec2, TSl, IsSl, RInt, Prod.eta, Pm.c0, Pm.c1, Pm.c2, Pm.c3, Pm.c4, RPm, Pm.d, Pm.eta, Pl.c0, Pl.c1, RPl, Pl.d, Pl.eta, Gv.L, Gv.Is, Gv.of, TGv, Gv.d, Sg.c0, Sg.c1, Sg.c2, Sg.c3, Sg.c4, Sg.c5, RSg, Sg.w_c, Sg.d, Sg.eta, toUI_val]
  refine fun _ => ?_
  have hre := hg.reach
  repeat' (first | omega | (with_reducible apply And.intro) | intro _)
  all_goals first
    | exact aw _ (by assumption)
    | exact bw _ (by assumption)
    | skip
  refine loopI (ι := Nat) (fun j => j ≤ g.places.1 ∧ ∀ i, i < j → ¬ nearP (g.places.2 i) at' g.reach) (fun j => g.places.1 - j) [1, 5, 8, 11, 19, 176, 177] (fun j => [(178, .int .i64 j)]) (fun _ => []) 0 ⟨by omega, fun i h => by omega⟩ (by simp only [Chk, chkFr, chkBx, chkBx1, newIn, hasB, idsLt, kept, vs_und, vs_int, vs_bool, vs_nil, vs_own, vs_ptr, vs_cons, vs_view, fget, isLB, bget, vsubP_self, ↓reduceIte, reduceCtorEq, Nat.reduceEqDiff, Nat.reduceLT, Int.cast_ofNat_Int, and_true, and_self, forall_const, implies_true, Option.some.injEq, exists_eq', or_false, keepF, appF, updB]; try rfl) fun j hj => ?_
  obtain ⟨hj1, hj2⟩ := hj
  by_cases hjl : j < g.places.1
  · have fj : ((j : Int) < (g.places.1 : Int)) = True := eq_true (by omega)
    have p1 : PlOk (g.places.2 j) := hg.pl j hjl
    by_cases hN : nearP (g.places.2 j) at' g.reach
    · have e3 := decP_t hN
      simp (config := { maxSteps := 4000000 }) only [sNear, fj, e3, p1, pat, ↓imp_tt, ↓imp_tf, runO_3, runO_4, runO_5, runO_6, runO_14, runO_17, runO_18, runO_19, aop, binV, ends, reOk, Nat.zero_sub, ev, fget, fput, cellsOf, cellsN, isLB, vget, vset, vsets, vlen, bget, bset, addB, addN, mkv, sliceV, vtab, frz, opOwns, preFz, callFz, skipOp, WfT, resV, res1, casts, castOks, cast1, castOk, norm, norms, norm1, normL, pureB, pureL, onesB, snapV, snapOk, specV, argsL, capsL, mkE_S, lkp, stkFr, Val.toInt, ↓reduceIte, reduceCtorEq, Nat.reduceEqDiff, Nat.reduceAdd, Nat.reduceLeDiff, Nat.zero_add, decide_true, List.length_cons, List.length_nil, List.append_nil, Bool.and_self, and_true, true_and, and_self, forall_const, imp_self, implies_true, Nat.le_refl, keepF, appF, updB, inat, spec3, TInt, IsInt, Pl.L, Pl.c0, Pl.c1, Pl.Is, Pl.of, TPl, Pl.d, Pl.eta]
      repeat' (first | omega | (with_reducible apply And.intro) | intro _)
    · have e3 := decP_f hN
      simp (config := { maxSteps := 4000000 }) only [sNear, fj, e3, p1, pat, ↓imp_tt, ↓imp_tf, ↓imp_ft, ↓imp_ff, runO_4, runO_5, runO_6, runO_8, runO_14, runO_16, runO_17, runO_18, runO_19, aop, binV, reOk, Nat.zero_sub, ev, fget, fput, cellsOf, cellsN, isLB, vget, vset, vsets, vlen, bget, bset, addB, addN, mkv, sliceV, vtab, frz, opOwns, preFz, callFz, skipOp, WfT, casts, castOks, cast1, castOk, norm, norms, norm1, normL, pureB, pureL, onesB, specV, argsL, capsL, mkE_S, lkp, stkFr, Val.toInt, ↓reduceIte, reduceCtorEq, Nat.reduceEqDiff, Nat.reduceAdd, Nat.reduceLeDiff, Nat.zero_add, decide_true, List.length_cons, List.length_nil, List.append_nil, Bool.and_self, and_true, true_and, and_self, and_assoc, forall_const, imp_self, implies_true, Nat.le_refl, keepF, appF, updB, inat, spec3, TInt, IsInt, Pl.L, Pl.c0, Pl.c1, Pl.Is, Pl.of, TPl, Pl.d, Pl.eta]
      repeat' (first | omega | (with_reducible apply And.intro) | intro _)
      refine inv_intro (j + 1) ⟨by omega, fun i hi => ?_⟩ (by omega) ?_
      · rcases Nat.lt_or_ge i j with h5 | h5
        · exact hj2 i h5
        · obtain rfl : i = j := by omega
          exact hN
      · simp only [Chk, chkFr, chkBx, chkBx1, newIn, hasB, idsLt, kept, vs_und, vs_int, vs_bool, vs_nil, vs_own, vs_ptr, vs_cons, vs_view, Nat.lt_irrefl, fget, isLB, bget, vsubP_self, ↓reduceIte, reduceCtorEq, Nat.reduceEqDiff, Nat.reduceLT, and_true, true_and, and_self, forall_const, implies_true, Option.some.injEq, Val.int.injEq, exists_eq', false_implies, or_false]
        rw [wrS (by omega)]
  have fj : ((j : Int) < (g.places.1 : Int)) = False := eq_false (by omega)
  obtain rfl : j = g.places.1 := by omega
  simp (config := { maxSteps := 4000000 }) only [fj, w4, ↓imp_ft, ↓imp_ff, runO_5, runO_6, runO_9, runO_14, runO_15, runO_17, runO_18, runO_19, aop, binV, ev, fget, fput, addB, addN, frz, opOwns, preFz, skipOp, WfT, lenV, popTo, stkFr, ↓reduceIte, reduceCtorEq, Nat.reduceEqDiff, Nat.reduceSub, decide_false, true_and, and_self, forall_const, imp_self, implies_true, maxLen, Nat.reducePow, keepF, appF, updB]
  refine loopI (ι := Nat) (fun j => j ≤ l.1 ∧ ∀ i, i < j → (l.2 i).kind = 3 → ¬ nearP (l.2 i).trap at' (l.2 i).near) (fun j => l.1 - j) [1, 8, 11, 19, 189, 190] (fun j => [(191, .int .i64 j)]) (fun _ => []) 0 ⟨by omega, fun i h => by omega⟩ (by simp only [Chk, chkFr, chkBx, chkBx1, newIn, hasB, idsLt, kept, vs_und, vs_int, vs_bool, vs_nil, vs_own, vs_ptr, vs_cons, vs_view, fget, isLB, bget, vsubP_self, ↓reduceIte, reduceCtorEq, Nat.reduceEqDiff, Nat.reduceLT, Int.cast_ofNat_Int, and_true, and_self, forall_const, implies_true, Option.some.injEq, exists_eq', or_false, keepF, appF, updB]; try rfl) fun j hk => ?_
  obtain ⟨hk1, hk2⟩ := hk
  by_cases hjl : j < l.1
  · have fj : ((j : Int) < (l.1 : Int)) = True := eq_true (by omega)
    have hs := hl.2 j hjl
    by_cases h3 : (l.2 j).kind = 3
    · have hs3 : PlOk (l.2 j).trap ∧ 0 ≤ (l.2 j).near ∧ (l.2 j).near ≤ 10000 := by
        rcases hs.2 with h | h
        · have := h.1; omega
        · exact h.2
      obtain ⟨p1, p2, p3⟩ := hs3
      by_cases hN : nearP (l.2 j).trap at' (l.2 j).near
      · have e3 := decP_t hN
        simp (config := { maxSteps := 4000000 }) only [sNear, fj, h3, e3, p1, pat, ↓imp_tt, ↓imp_tf, runO_3, runO_4, runO_5, runO_6, runO_14, runO_17, runO_18, runO_19, aop, binV, ends, reOk, Nat.zero_sub, ev, fget, fput, cellsOf, cellsN, isLB, vget, vset, vsets, vlen, bget, bset, addB, addN, mkv, sliceV, vtab, frz, opOwns, preFz, callFz, skipOp, WfT, resV, res1, casts, castOks, cast1, castOk, norm, norms, norm1, normL, pureB, pureL, onesB, snapV, snapOk, specV, argsL, capsL, mkE_S, lkp, pickV, stkFr, Val.toInt, ↓reduceIte, reduceCtorEq, Nat.reduceEqDiff, Nat.reduceAdd, Nat.reduceLeDiff, Nat.zero_add, Nat.add_zero, decide_true, List.length_cons, List.length_nil, List.append_nil, Bool.and_self, bne_self_eq_false, beq_self_eq_true, and_true, true_and, and_self, forall_const, imp_self, implies_true, Nat.le_refl, keepF, appF, updB, inat, spec3, TInt, IsInt, Pl.L, Pl.Is, Pl.of, TPl, Pl.d, Pl.eta, Sg.c0, Sg.c1, Sg.c2, Sg.c3, Sg.c4, Sg.c5]
        repeat' (first | omega | (with_reducible apply And.intro) | intro _)
      · have e3 := decP_f hN
        simp (config := { maxSteps := 4000000 }) only [sNear, fj, h3, e3, p1, pat, ↓imp_tt, ↓imp_tf, ↓imp_ft, ↓imp_ff, runO_4, runO_5, runO_6, runO_8, runO_14, runO_16, runO_17, runO_18, runO_19, aop, binV, reOk, Nat.zero_sub, ev, fget, fput, cellsOf, cellsN, isLB, vget, vset, vsets, vlen, bget, bset, addB, addN, mkv, sliceV, vtab, frz, opOwns, preFz, callFz, skipOp, WfT, casts, castOks, cast1, castOk, norm, norms, norm1, normL, pureB, pureL, onesB, specV, argsL, capsL, mkE_S, lkp, pickV, stkFr, Val.toInt, ↓reduceIte, reduceCtorEq, Nat.reduceEqDiff, Nat.reduceAdd, Nat.reduceLeDiff, Nat.zero_add, Nat.add_zero, decide_true, List.length_cons, List.length_nil, List.append_nil, Bool.and_self, bne_self_eq_false, beq_self_eq_true, and_true, true_and, and_self, and_assoc, forall_const, imp_self, implies_true, Nat.le_refl, keepF, appF, updB, inat, spec3, TInt, IsInt, Pl.L, Pl.Is, Pl.of, TPl, Pl.d, Pl.eta, Sg.c0, Sg.c1, Sg.c2, Sg.c3, Sg.c4, Sg.c5]
        repeat' (first | omega | (with_reducible apply And.intro) | intro _)
        refine inv_intro (j + 1) ⟨by omega, fun i hi h => ?_⟩ (by omega) ?_
        · rcases Nat.lt_or_ge i j with h5 | h5
          · exact hk2 i h5 h
          · obtain rfl : i = j := by omega
            exact hN
        · simp only [Chk, chkFr, chkBx, chkBx1, newIn, hasB, idsLt, kept, vs_und, vs_int, vs_bool, vs_nil, vs_own, vs_ptr, vs_cons, vs_view, Nat.lt_irrefl, fget, isLB, bget, vsubP_self, ↓reduceIte, reduceCtorEq, Nat.reduceEqDiff, Nat.reduceLT, and_true, true_and, and_self, forall_const, implies_true, Option.some.injEq, Val.int.injEq, exists_eq', false_implies, or_false]
          rw [wrS (by omega)]
    · have h3' : ((l.2 j).kind == 3) = false := beq_eq_false_iff_ne.2 h3
      simp (config := { maxSteps := 4000000 }) only [fj, h3', ↓imp_tt, ↓imp_tf, ↓imp_ft, ↓imp_ff, runO_4, runO_5, runO_6, runO_8, runO_14, runO_16, runO_17, runO_18, runO_19, aop, binV, reOk, Nat.zero_sub, ev, fget, fput, cellsOf, cellsN, isLB, vget, vset, vsets, vlen, bget, bset, addB, addN, mkv, sliceV, vtab, frz, opOwns, preFz, skipOp, WfT, casts, castOks, cast1, castOk, onesB, pickV, stkFr, Val.toInt, ↓reduceIte, reduceCtorEq, Nat.reduceEqDiff, Nat.reduceAdd, Nat.reduceLeDiff, Nat.zero_add, Nat.add_zero, decide_true, List.length_cons, List.length_nil, Bool.and_self, Bool.bne_true, Bool.not_false, and_true, true_and, and_self, forall_const, imp_self, implies_true, Nat.le_refl, keepF, appF, updB, inat, Sg.c0, Sg.c1, Sg.c2, Sg.c3, Sg.c4, Sg.c5]
      repeat' (first | omega | (with_reducible apply And.intro) | intro _)
      refine inv_intro (j + 1) ⟨by omega, fun i hi h => ?_⟩ (by omega) ?_
      · rcases Nat.lt_or_ge i j with h5 | h5
        · exact hk2 i h5 h
        · obtain rfl : i = j := by omega
          exact absurd h h3
      · simp only [Chk, chkFr, chkBx, chkBx1, newIn, hasB, idsLt, kept, vs_und, vs_int, vs_bool, vs_nil, vs_own, vs_ptr, vs_cons, vs_view, Nat.lt_irrefl, fget, isLB, bget, vsubP_self, ↓reduceIte, reduceCtorEq, Nat.reduceEqDiff, Nat.reduceLT, and_true, true_and, and_self, forall_const, implies_true, Option.some.injEq, Val.int.injEq, exists_eq', false_implies, or_false]
        rw [wrS (by omega)]
  have fj : ((j : Int) < (l.1 : Int)) = False := eq_false (by omega)
  obtain rfl : j = l.1 := by omega
  have shoot : Shoot g x mi day := by
    refine ⟨by rw [hxp], fun i hi => by rw [hxp]; show px i = _; rw [← hpx]; exact sng_l hi, by rw [hxp]; show (px g.palms.1).mother = _; rw [hpn]; rfl, by rw [hxp]; show (px g.palms.1).planted = _; rw [hpn]; rfl, hmi, by omega, hd.2, fun i hi => by rw [hxq]; show qx i = _; rw [← hqx]; exact sng_l (by omega), by rw [hx], by rw [hx], by rw [hx], by rw [hx], by rw [hx], fun i hi => ?_⟩
    rw [hxq]; show ¬ nearP _ (qx g.palms.1) _
    rw [← hn, hqn]; exact hj2 i (by omega)
  obtain ⟨n1, n2⟩ := shoot.never hg hgx hl.2 hlx.2 hok hmg.1 fun j hj h3 => by
    rw [hxq]; show ¬ nearP (qx g.palms.1) _ _
    rw [← hn, hqn]; exact fun h => hk2 j hj h3 (near_comm.1 h)
  obtain ⟨r1, r2, r3⟩ := st_ok hgx hlx n1
  rw [hxp] at r3
  obtain ⟨D, hD⟩ : ∃ D, dyF x l l.1 = D := ⟨_, rfl⟩
  rw [hD] at r3 n2
  have e5 : IntKind.i64.wrap (((g.palms.1 + 1 : Nat) : Int) - 1) = (g.palms.1 : Int) := by rw [wr64 (by omega) (by omega)]; omega
  simp (config := { maxSteps := 4000000 }) only [fj, a0, a1, a2, a3, a4, b0, b1, hxr, r1, r2, r3, n2, e5, w4, flatO, ↓imp_tt, ↓imp_tf, ↓imp_ft, ↓imp_ff, runO_3, runO_5, runO_9, runO_14, runO_17, runO_18, runO_19, aop, binV, ends, ev, fget, fput, isLB, vget, vlen, bget, bdel, addB, addN, mkv, sliceV, vtab, frz, opOwns, preFz, callFz, ownsL, owns, skipOp, WfT, resV, res1, casts, castOks, cast1, castOk, norm, norms, norm1, normL, pureB, pureL, flatB, snapV, snapOk, snapL, specV, argsL, capsL, mkE_S, lkp, pickV, lenV, subFr, subV, subBx, subStk, popTo, stkFr, Val.toInt, ↓reduceIte, reduceCtorEq, Nat.reduceEqDiff, Nat.reduceAdd, Nat.reduceSub, Nat.reduceLeDiff, Nat.reduceLT, Nat.zero_add, Nat.add_zero, decide_false, List.length_cons, List.length_nil, List.nil_append, List.cons_append, List.append_nil, Bool.and_true, Bool.and_false, Bool.and_self, bne_self_eq_false, Bool.not_false, beq_self_eq_true, and_true, true_and, and_self, and_assoc, forall_const, imp_self, implies_true, Nat.le_refl, maxLen, Nat.reducePow, keepF, appF, updB, inat, Prod.eta, Pm.c0, Pm.c1, Pm.c2, Pm.c3, Pm.c4, Pm.eta, Pl.c0, Pl.c1, Pl.eta, Sg.c0, Sg.c1, Sg.c2, Sg.c3, Sg.c4, Sg.c5, Sg.w_c, Sg.eta, toUI_val]
  refine ⟨aw, bw, ?_⟩
  repeat' (first | omega | (with_reducible apply And.intro) | intro _)
end Go.Proofs.Ytpknbojgkkmonaa
