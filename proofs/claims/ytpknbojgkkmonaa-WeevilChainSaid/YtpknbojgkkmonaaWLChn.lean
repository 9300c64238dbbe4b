/- WeevilChain: a chain leads from a suspect to the palm. No condition. -/
import Derived.Test.YtpknbojgkkmonaaWRdy
import Derived.Test.YtpknbojgkkmonaaACodeL9
import Derived.Test.YtpknbojgkkmonaaWChs
set_option linter.unusedSimpArgs false
set_option linter.unusedVariables false
namespace Go.Proofs.Ytpknbojgkkmonaa
open Go Go.RowKit
variable {G : Nat → Option (Nat × (Nat → Val))}
noncomputable def sLawChain : Spec := spec3 TGv (TSl RSg) TI (fun _ _ _ => True) fun _ _ _ => .bool true
set_option maxHeartbeats 8000000 in
set_option maxRecDepth 100000 in
theorem pLawChain : PureOk Try.prog G 9 sLawChain := by
  refine fn3 (S := [(28, sAlive), (29, sReadyW), (22, sSoonest), (24, sChain), (36, sAt), (37, sFrom)]) (I := []) mixed (.cons pAlive (.cons pReadyW (.cons pSoonest (.cons pChain (.cons pAt (.cons pFrom .nil)))))) .nil Try.func9 c9 fun g l id _ hw => ?_
  simp only [vl, WfT, Val.toInt, Val.slen, Val.scell, Nat.reduceSub, and_true, true_and, and_self, and_assoc, maxLen, Nat.reducePow, TSl, TInt, RInt, RPm, Pm.d, RPl, Pl.d, Gv.L, TGv, RSg, Sg.d] at hw
  obtain ⟨w1, w2, w3, w4⟩ := hw
  by_cases hr : rdyP g l
  case neg =>
    have fr := decP_f hr
    simp (config := { maxSteps := 4000000 }) only [RunTo, a9, sAlive, sReadyW, fr, w1, w2, w3, w4, ↓imp_tt, ↓imp_tf, runO_3, runO_5, runO_14, runO_17, runO_18, runO_19, aop, ends, Nat.zero_sub, ev, fget, fput, params, cellsOf, cellsN, isLB, vget, vlen, bget, addB, addN, mkv, sliceV, vtab, frz, opOwns, preFz, callFz, skipOp, WfT, resV, res1, norm, norms, norm1, normL, pureB, pureL, snapV, snapOk, specV, argsL, capsL, mkE_S, lkp, pickV, Fin, vp_bool, Val.toInt, Val.slen, Val.scell, ↓reduceIte, reduceCtorEq, Nat.reduceEqDiff, Nat.reduceAdd, Nat.reduceSub, Nat.zero_add, Int.reduceNeg, List.length_cons, List.length_nil, List.append_nil, Bool.and_self, Bool.bne_false, Bool.not_false, and_true, and_self, and_assoc, forall_const, imp_self, implies_true, Nat.le_refl, maxLen, Nat.reducePow, spec0, spec2, TSl, IsSl, TInt, RInt, Prod.eta, Pm.c0, Pm.c1, Pm.c2, Pm.c3, Pm.c4, RPm, Pm.w_c, Pm.d, Pm.eta, Pl.c0, Pl.c1, RPl, Pl.w_c, Pl.d, Pl.eta, Gv.L, Gv.Is, Gv.of, TGv, Gv.d, Gv.eta, Sg.c0, Sg.c1, Sg.c2, Sg.c3, Sg.c4, Sg.c5, RSg, Sg.w_c, Sg.d, Sg.eta, toUI_val]
  have fr := decP_t hr
  obtain ⟨hg, hl⟩ := rdy_ok hr
  have hn24 := hg.pms.n
  have h0 := sgsE_00 hg hl
  by_cases hi : hitN g.palms id < g.palms.1
  case neg =>
    have ea : atF g.palms id = -1 := if_neg hi
    have r1 : chE g l id = 6 := by unfold chE; rw [if_pos h0, if_neg hi]
    have r2 : chW g l id = .nils := if_neg (by omega)
    by_cases hok : okP g l l.1
    · obtain ⟨q1, q2, q3⟩ := st_ok hg hl hok
      simp (config := { maxSteps := 4000000 }) only [RunTo, a9, sAlive, sReadyW, sSoonest, sChain, sAt,  fr, q1, q2, q3, ea, r1, r2, w1, w2, w3, w4, ↓imp_tt, ↓imp_tf, ↓imp_ft, ↓imp_ff, runO_3, runO_4, runO_5, runO_14, runO_17, runO_18, runO_19, aop, binV, ends, ev, fget, fput, params, cellsOf, cellsN, isLB, vget, vlen, bget, addB, addN, mkv, sliceV, vtab, frz, opOwns, preFz, callFz, skipOp, WfT, resV, res1, norm, norms, norm1, normL, pureB, pureL, snapV, snapOk, specV, argsL, capsL, mkE_S, lkp, pickV, lenV, Fin, vp_bool, Val.toInt, Val.slen, Val.scell, ↓reduceIte, reduceCtorEq, Nat.reduceEqDiff, Nat.reduceAdd, Nat.reduceSub, Nat.reduceLeDiff, Nat.reduceLT, Nat.zero_add, Nat.add_zero, Int.reduceLT, Int.reduceNeg, decide_true, List.length_cons, List.length_nil, List.append_nil, Bool.and_self, bne_self_eq_false, Bool.not_true, beq_self_eq_true, and_true, and_self, and_assoc, forall_const, imp_self, implies_true, Nat.le_refl, maxLen, Nat.reducePow, spec0, spec2, spec3, TSl, IsSl, TInt, IsInt, RInt, Prod.eta, Pm.c0, Pm.c1, Pm.c2, Pm.c3, Pm.c4, RPm, Pm.w_c, Pm.d, Pm.eta, Pl.c0, Pl.c1, RPl, Pl.w_c, Pl.d, Pl.eta, Gv.L, Gv.Is, Gv.of, TGv, Gv.d, Gv.eta, Sg.c0, Sg.c1, Sg.c2, Sg.c3, Sg.c4, Sg.c5, RSg, Sg.w_c, Sg.d, Sg.eta, toUI_val]
    · obtain ⟨q1, q2, q3⟩ := st_no hg hl hok
      simp (config := { maxSteps := 4000000 }) only [RunTo, a9, sAlive, sReadyW, sSoonest, sChain, sAt,  fr, q1, q2, q3, ea, r1, r2, w1, w2, w3, w4, ↓imp_tt, ↓imp_tf, ↓imp_ft, ↓imp_ff, runO_3, runO_4, runO_5, runO_14, runO_17, runO_18, runO_19, aop, binV, ends, ev, fget, fput, params, cellsOf, cellsN, isLB, vget, vlen, bget, addB, addN, mkv, sliceV, vtab, frz, opOwns, preFz, callFz, skipOp, WfT, resV, res1, norm, norms, norm1, normL, pureB, pureL, snapV, snapOk, specV, argsL, capsL, mkE_S, lkp, pickV, lenV, Fin, vp_bool, Val.toInt, Val.slen, Val.scell, ↓reduceIte, reduceCtorEq, Nat.reduceEqDiff, Nat.reduceAdd, Nat.reduceSub, Nat.reduceLeDiff, Nat.reduceLT, Nat.zero_add, Nat.add_zero, Int.reduceLT, Int.reduceNeg, decide_true, List.length_cons, List.length_nil, List.append_nil, Bool.and_self, bne_self_eq_false, Bool.not_true, beq_self_eq_true, and_true, and_self, and_assoc, forall_const, imp_self, implies_true, Nat.le_refl, maxLen, Nat.reducePow, spec0, spec2, spec3, TSl, IsSl, TInt, IsInt, RInt, Prod.eta, Pm.c0, Pm.c1, Pm.c2, Pm.c3, Pm.c4, RPm, Pm.w_c, Pm.d, Pm.eta, Pl.c0, Pl.c1, RPl, Pl.w_c, Pl.d, Pl.eta, Gv.L, Gv.Is, Gv.of, TGv, Gv.d, Gv.eta, Sg.c0, Sg.c1, Sg.c2, Sg.c3, Sg.c4, Sg.c5, RSg, Sg.w_c, Sg.d, Sg.eta, toUI_val]
  have ea : atF g.palms id = (hitN g.palms id : Int) := if_pos hi
  by_cases hok : okP g l l.1
  case neg =>
    obtain ⟨q1, q2, q3⟩ := st_no hg hl hok
    have r1 : chE g l id = 92 := by unfold chE; rw [if_pos h0, if_pos hi, if_neg (by rw [sooE_92 hok]; decide), sooE_92 hok]
    have r2 : chW g l id = .nils := if_neg (by omega)
    simp (config := { maxSteps := 4000000 }) only [RunTo, a9, sAlive, sReadyW, sSoonest, sChain, sAt,  fr, q1, q2, q3, ea, r1, r2, w1, w2, w3, w4, ↓imp_tt, ↓imp_tf, ↓imp_ft, ↓imp_ff, runO_3, runO_4, runO_5, runO_14, runO_17, runO_18, runO_19, aop, binV, ends, Nat.zero_sub, ev, fget, fput, params, cellsOf, cellsN, isLB, vget, vlen, bget, addB, addN, mkv, sliceV, vtab, frz, opOwns, preFz, callFz, skipOp, WfT, resV, res1, norm, norms, norm1, normL, pureB, pureL, snapV, snapOk, specV, argsL, capsL, mkE_S, lkp, pickV, Fin, vp_bool, Val.toInt, Val.slen, Val.scell, ↓reduceIte, reduceCtorEq, Nat.reduceEqDiff, Nat.reduceAdd, Nat.reduceSub, Nat.reduceLeDiff, Nat.reduceLT, Nat.zero_add, Nat.add_zero, Int.reduceNeg, Int.reduceBEq, Int.reduceBNe, List.length_cons, List.length_nil, List.append_nil, Bool.and_self, Bool.bne_true, bne_self_eq_false, Bool.not_true, Bool.not_false, Bool.false_eq_true, beq_self_eq_true, and_true, true_and, and_self, and_assoc, forall_const, imp_self, implies_true, Nat.le_refl, decide_eq_true_eq, decide_eq_false_iff_not, Val.bool.injEq, maxLen, Nat.reducePow, spec0, spec2, spec3, TSl, IsSl, TInt, IsInt, RInt, Prod.eta, Pm.c0, Pm.c1, Pm.c2, Pm.c3, Pm.c4, RPm, Pm.w_c, Pm.d, Pm.eta, Pl.c0, Pl.c1, RPl, Pl.w_c, Pl.d, Pl.eta, Gv.L, Gv.Is, Gv.of, TGv, Gv.d, Gv.eta, Sg.c0, Sg.c1, Sg.c2, Sg.c3, Sg.c4, Sg.c5, RSg, Sg.w_c, Sg.d, Sg.eta, toUI_val]
    repeat' (first | omega | (with_reducible apply And.intro) | intro _)
  obtain ⟨q1, q2, q3⟩ := st_ok hg hl hok
  have hH := dy_hist hg hl.2
  have hbd := dy_bd hg hl.2
  have hD : DayOk g (dyF g l l.1) := by
    obtain ⟨N, _, hF⟩ := days_ok hg (n0 := lowF g l.2 l.1) fun i _ => (lowF_bd hg hl.2 l.1 (Nat.le_refl _) i).2
    exact hF.dayOk hg
  have hst := hg.start
  by_cases hn : dyF g l l.1 (hitN g.palms id) = 100001
  · have r1 : chE g l id = 6 := by unfold chE; rw [if_pos h0, if_pos hi, if_pos (sooE_0 hok), if_pos hn]
    have r2 : chW g l id = .nils := if_neg (by omega)
    simp (config := { maxSteps := 4000000 }) only [RunTo, a9, sAlive, sReadyW, sSoonest, sChain, sAt,  fr, q1, q2, q3, ea, r1, r2, hn, w1, w2, w3, w4, ↓imp_tt, ↓imp_tf, ↓imp_ft, ↓imp_ff, runO_3, runO_4, runO_5, runO_14, runO_17, runO_18, runO_19, aop, binV, ends, Nat.zero_sub, ev, fget, fput, params, cellsOf, cellsN, isLB, vget, vlen, bget, addB, addN, mkv, sliceV, vtab, frz, opOwns, preFz, callFz, skipOp, WfT, resV, res1, casts, castOks, cast1, castOk, norm, norms, norm1, normL, pureB, pureL, snapV, snapOk, specV, argsL, capsL, mkE_S, lkp, pickV, lenV, Fin, vp_bool, Val.toInt, Val.slen, Val.scell, ↓reduceIte, reduceCtorEq, Nat.reduceEqDiff, Nat.reduceAdd, Nat.reduceSub, Nat.reduceLeDiff, Nat.reduceLT, Nat.zero_add, Nat.add_zero, Int.reduceNeg, Int.reduceBNe, List.length_cons, List.length_nil, List.append_nil, Bool.and_self, Bool.bne_false, bne_self_eq_false, Bool.not_true, Bool.false_eq_true, beq_self_eq_true, and_true, true_and, and_self, and_assoc, forall_const, imp_self, implies_true, Nat.le_refl, decide_eq_true_eq, decide_eq_false_iff_not, Val.bool.injEq, maxLen, Nat.reducePow, inat, spec0, spec2, spec3, TSl, IsSl, TInt, IsInt, RInt, Prod.eta, Pm.c0, Pm.c1, Pm.c2, Pm.c3, Pm.c4, RPm, Pm.w_c, Pm.d, Pm.eta, Pl.c0, Pl.c1, RPl, Pl.w_c, Pl.d, Pl.eta, Gv.L, Gv.Is, Gv.of, TGv, Gv.d, Gv.eta, Sg.c0, Sg.c1, Sg.c2, Sg.c3, Sg.c4, Sg.c5, RSg, Sg.w_c, Sg.d, Sg.eta, toUI_val]
    repeat' (first | omega | (with_reducible apply And.intro) | intro _)
  have r1 : chE g l id = 0 := by unfold chE; rw [if_pos h0, if_pos hi, if_pos (sooE_0 hok), if_neg hn]
  have r2 : chW g l id = chV g (dyF g l l.1) (hitN g.palms id) := if_pos r1
  have hid : (g.palms.2 (hitN g.palms id)).id = id := by
    rcases hit_spec g.palms id with h | h
    · exact h.2
    · omega
  obtain ⟨k, hk⟩ : ∃ k, hitN g.palms id = k := ⟨_, rfl⟩
  obtain ⟨D, hDD⟩ : ∃ D, dyF g l l.1 = D := ⟨_, rfl⟩
  rw [hDD] at q3 hH hbd hD hn r2
  rw [hk] at ea hi hn r2 hid
  have hb1 := hbd k hi
  have hlt : D k < 100001 := by omega
  have hC := chI_spec hg hD (depF g D k + 1) k hi hlt (Nat.lt_succ_self _)
  unfold chV at r2
  have hdn := dep_n (D := D) hi
  generalize (chI g D k).length = L at *
  obtain ⟨c, hc⟩ : ∃ c : Nat → Nat, (fun t => (chI g D k).getD t 0) = c := ⟨_, rfl⟩
  rw [hc] at hC
  have hcc : ∀ t, (chI g D k).getD t 0 = c t := fun t => congrFun hc t
  simp only [hcc] at r2
  obtain ⟨cpos, clen, clast, clt, cfirst, cpre⟩ := hC
  obtain ⟨X, hX⟩ : ∃ X : Nat → Int, (fun t => (g.palms.2 (c t)).id) = X := ⟨_, rfl⟩
  have hXX : ∀ t, (g.palms.2 (c t)).id = X t := fun t => congrFun hX t
  simp only [hXX] at r2
  have hXa : ∀ t, t < L → atF g.palms (X t) = (c t : Int) := fun t ht => by
    rw [← hXX, atF_pos (by rw [hg.pms.hit (clt t ht).1]; exact (clt t ht).1), hg.pms.hit (clt t ht).1]
  have hXl : X (L - 1) = id := by rw [← hXX, clast]; exact hid
  have hsus : susP g (X 0) := by
    rw [← hXX]
    exact ((hH (c 0) (clt 0 cpos).1).2 (clt 0 cpos).2).1.2 cfirst
  have e1 : IntKind.i64.wrap ((L : Int) - 1) = ((L - 1 : Nat) : Int) := by rw [wr64 (by omega) (by omega)]; omega
  have g1 : (D k ≥ 100001) = False := eq_false (by omega)
  have g2 : ((L : Int) == 0) = false := beq_eq_false_iff_ne.2 (by omega)
  have g3 : ((L : Int) > (g.palms.1 : Int)) = False := eq_false (by omega)
  have g4 : ((k : Int) < 0) = False := eq_false (by omega)
  simp (config := { maxSteps := 4000000 }) only [RunTo, a9, sAlive, sReadyW, sSoonest, sChain, sAt,  fr, q1, q2, q3, ea, r1, r2, e1, g1, g2, g3, g4, hXl, w1, w2, w3, w4, ↓imp_ft, ↓imp_ff, runO_4, runO_5, runO_6, runO_14, runO_15, runO_17, runO_18, runO_19, aop, binV, ev, fget, fput, params, cellsOf, cellsN, isLB, vget, vlen, bget, addB, addN, mkv, sliceV, vtab, frz, opOwns, preFz, callFz, skipOp, WfT, casts, castOks, cast1, castOk, norm, norms, norm1, normL, pureB, pureL, specV, argsL, capsL, mkE_S, lkp, pickV, lenV, Fin, vp_bool, Val.toInt, Val.slen, Val.scell, ↓reduceIte, reduceCtorEq, Nat.reduceEqDiff, Nat.reduceAdd, Nat.reduceSub, Nat.reduceLeDiff, Nat.reduceLT, Nat.zero_add, Nat.add_zero, Int.reduceNeg, decide_false, List.length_cons, List.length_nil, List.append_nil, Bool.and_self, bne_self_eq_false, Bool.not_true, and_true, true_and, and_self, and_assoc, forall_const, imp_self, implies_true, Nat.le_refl, maxLen, Nat.reducePow, inat, spec0, spec2, spec3, TSl, IsSl, TInt, IsInt, RInt, Prod.eta, Pm.c0, Pm.c1, Pm.c2, Pm.c3, Pm.c4, RPm, Pm.w_c, Pm.d, Pm.eta, Pl.c0, Pl.c1, RPl, Pl.w_c, Pl.d, Pl.eta, Gv.L, Gv.Is, Gv.of, TGv, Gv.d, Gv.eta, Sg.c0, Sg.c1, Sg.c2, Sg.c3, Sg.c4, Sg.c5, RSg, Sg.w_c, Sg.d, Sg.eta, toUI_val]
  repeat' (first | omega | (with_reducible apply And.intro) | intro _)
  refine loopI (ι := Nat) (fun j => j ≤ g.sus.1) (fun j => g.sus.1 - j) [3, 7, 8, 11, 117, 118] (fun j => [(14, .bool (decP (∃ z, z < j ∧ g.sus.2 z = X 0))), (119, .int .i64 j)]) (fun _ => []) 0 (by omega) (by simp only [Chk, chkFr, chkBx, chkBx1, hasB, idsLt, kept, vs_int, vs_bool, vs_nil, vs_ptr, vs_cons, vs_view, fget, isLB, bget, vsubP_self, ↓reduceIte, Nat.reduceEqDiff, Nat.reduceLT, Int.cast_ofNat_Int, and_true, and_self, forall_const, implies_true, Option.some.injEq, Val.bool.injEq, exists_eq', keepF, appF, updB]; exact (decP_f fun ⟨z, h, _⟩ => absurd h (Nat.not_lt_zero _)).symm) fun j hj => ?_
  by_cases hjl : j < g.sus.1
  · have fj : ((j : Int) < (g.sus.1 : Int)) = True := eq_true (by omega)
    by_cases hh : ∃ z, z < j ∧ g.sus.2 z = X 0
    · have fh := decP_t hh
      have en : decP (∃ z, z < j + 1 ∧ g.sus.2 z = X 0) = true := decP_t (by obtain ⟨z, h1, h2⟩ := hh; exact ⟨z, by omega, h2⟩)
      simp (config := { maxSteps := 4000000 }) only [fj, fh, ↓imp_tt, ↓imp_tf, runO_4, runO_5, runO_6, runO_8, runO_14, runO_16, runO_17, runO_18, runO_19, aop, binV, Nat.zero_sub, ev, fget, fput, vget, addB, addN, mkv, frz, opOwns, preFz, skipOp, WfT, casts, castOks, cast1, castOk, pickV, stkFr, Val.toInt, ↓reduceIte, reduceCtorEq, Nat.reduceEqDiff, Nat.zero_add, Int.reduceNeg, decide_true, List.length_cons, List.length_nil, Bool.bne_false, and_true, true_and, and_self, forall_const, imp_self, implies_true, Nat.le_refl, keepF, appF, updB, inat]
      repeat' (first | omega | (with_reducible apply And.intro) | intro _)
      refine inv_intro (j + 1) (by omega) (by omega) ?_
      simp only [en, Chk, chkFr, chkBx, chkBx1, hasB, idsLt, kept, vs_int, vs_bool, vs_nil, vs_ptr, vs_cons, vs_view, fget, isLB, bget, vsubP_self, ↓reduceIte, Nat.reduceEqDiff, Nat.reduceLT, and_true, true_and, and_self, forall_const, implies_true, Option.some.injEq, Val.int.injEq, exists_eq']
      rw [wrS (by omega)]
    · have fh := decP_f hh
      have en : decP (∃ z, z < j + 1 ∧ g.sus.2 z = X 0) = (g.sus.2 j == X 0) := by
        rw [Bool.eq_iff_iff, decP_true, beq_iff_eq]
        constructor
        · rintro ⟨z, h1, h2⟩
          rcases Nat.lt_or_ge z j with h3 | h3
          · exact absurd ⟨z, h3, h2⟩ hh
          · obtain rfl : z = j := by omega
            exact h2
        · intro h; exact ⟨j, by omega, h⟩
      simp (config := { maxSteps := 4000000 }) only [fj, fh, ↓imp_tt, ↓imp_tf, ↓imp_ft, ↓imp_ff, runO_4, runO_5, runO_6, runO_8, runO_14, runO_16, runO_17, runO_18, runO_19, aop, binV, ev, fget, fput, vget, addB, addN, mkv, frz, opOwns, preFz, skipOp, WfT, casts, castOks, cast1, castOk, pickV, stkFr, Val.toInt, ↓reduceIte, reduceCtorEq, Nat.reduceEqDiff, Nat.reduceSub, Nat.zero_add, Int.reduceToNat, Int.reduceLE, Int.reduceNeg, decide_true, List.length_cons, List.length_nil, bne_self_eq_false, and_true, true_and, and_self, forall_const, imp_self, implies_true, Nat.le_refl, maxLen, Nat.reducePow, keepF, appF, updB, inat]
      repeat' (first | omega | (with_reducible apply And.intro) | intro _)
      refine inv_intro (j + 1) (by omega) (by omega) ?_
      simp only [en, Chk, chkFr, chkBx, chkBx1, hasB, idsLt, kept, vs_int, vs_bool, vs_nil, vs_ptr, vs_cons, vs_view, fget, isLB, bget, vsubP_self, ↓reduceIte, Nat.reduceEqDiff, Nat.reduceLT, and_true, true_and, and_self, forall_const, implies_true, Option.some.injEq, Val.int.injEq, exists_eq']
      rw [wrS (by omega)]
  have fj : ((j : Int) < (g.sus.1 : Int)) = False := eq_false (by omega)
  have fh : decP (∃ z, z < j ∧ g.sus.2 z = X 0) = true := decP_t (by
    obtain ⟨z, h1, h2⟩ := hsus
    exact ⟨z, by omega, h2⟩)
  simp (config := { maxSteps := 4000000 }) only [fj, fh, ↓imp_ft, ↓imp_ff, runO_5, runO_6, runO_9, runO_14, runO_15, runO_17, runO_18, runO_19, aop, binV, ev, fget, fput, addB, addN, frz, opOwns, preFz, skipOp, WfT, lenV, popTo, stkFr, ↓reduceIte, reduceCtorEq, Nat.reduceEqDiff, Nat.reduceSub, Int.reduceNeg, decide_false, true_and, and_self, forall_const, imp_self, implies_true, maxLen, Nat.reducePow, keepF, appF, updB]
  clear fj fh hjl hj
  refine fun _ => ?_
  refine loopI (ι := Nat) (fun j => j ≤ L) (fun j => L - j) [3, 7, 8, 14, 132, 133] (fun j => [(17, .int .i64 (if j = 0 then -1 else (c (j - 1) : Int))), (134, .int .i64 j)]) (fun _ => []) 0 (by omega) (by simp only [Chk, chkFr, chkBx, chkBx1, hasB, idsLt, kept, vs_int, vs_bool, vs_nil, vs_ptr, vs_cons, vs_view, fget, isLB, bget, vsubP_self, ↓reduceIte, Nat.reduceEqDiff, Nat.reduceLT, Int.cast_ofNat_Int, Int.reduceNeg, and_self, forall_const, implies_true, Option.some.injEq, exists_eq', keepF, appF, updB]; try rfl) fun j hj => ?_
  by_cases hjl : j < L
  case neg =>
    have fj : ((j : Int) < (L : Int)) = False := eq_false (by omega)
    simp (config := { maxSteps := 4000000 }) only [fj, ↓imp_ft, ↓imp_ff, runO_3, runO_5, runO_9, runO_14, runO_17, runO_18, runO_19, aop, binV, ends, ev, fget, fput, addB, addN, frz, opOwns, preFz, skipOp, WfT, resV, res1, snapV, snapOk, popTo, stkFr, ↓reduceIte, reduceCtorEq, Nat.reduceEqDiff, Int.reduceNeg, decide_false, and_self, forall_const, imp_self, implies_true, keepF, appF, updB]
  have fj : ((j : Int) < (L : Int)) = True := eq_true (by omega)
  have eX := hXa j hjl
  obtain ⟨cj1, cj2⟩ := clt j hjl
  have hcb := hbd (c j) cj1
  have g5 : ((c j : Int) < 0) = False := eq_false (by omega)
  have fin : ∀ {p : Prop}, p → p := fun h => h
  rcases Nat.eq_zero_or_pos j with hj0 | hj0
  · have g6 : ((j : Int) == 0) = true := beq_iff_eq.2 (by omega)
    have g7 : ((j : Int) > 0) = False := eq_false (by omega)
    have g8 : (D (c j) = g.start) = True := eq_true (by rw [hj0]; exact cfirst)
    have g9 : (if j = 0 then (-1 : Int) else (c (j - 1) : Int)) = -1 := if_pos hj0
    have en : (if j + 1 = 0 then (-1 : Int) else (c (j + 1 - 1) : Int)) = c j := by rw [if_neg (by omega)]; rfl
    simp (config := { maxSteps := 4000000 }) only [sFrom, fj, eX, g5, g6, g7, g8, g9, w1, ↓imp_tt, ↓imp_tf, ↓imp_ft, ↓imp_ff, runO_3, runO_4, runO_5, runO_6, runO_14, runO_15, runO_17, runO_18, runO_19, aop, binV, ends, Nat.zero_sub, ev, fget, fput, cellsOf, isLB, vget, vlen, bget, addB, addN, mkv, sliceV, vtab, frz, opOwns, preFz, callFz, skipOp, WfT, resV, res1, casts, castOks, cast1, castOk, norm, norm1, normL, pureB, pureL, snapV, snapOk, specV, argsL, capsL, mkE_S, lkp, pickV, lenV, stkFr, Val.toInt, Val.slen, Val.scell, ↓reduceIte, reduceCtorEq, Nat.reduceEqDiff, Nat.reduceAdd, Nat.reduceSub, Nat.reduceLeDiff, Nat.zero_add, Nat.add_zero, Int.reduceNeg, decide_true, decide_false, bne_iff_ne, bne_eq_false_iff_eq, List.length_cons, List.length_nil, List.append_nil, Bool.and_self, Bool.bne_true, Bool.bne_false, bne_self_eq_false, Bool.not_true, Bool.not_false, Bool.false_eq_true, and_true, true_and, and_self, and_assoc, forall_const, imp_self, implies_true, Nat.le_refl, Val.bool.injEq, ne_eq, not_true_eq_false, maxLen, Nat.reducePow, keepF, appF, updB, inat, spec5, TInt, IsInt, RInt, Prod.eta, Pm.c0, Pm.c1, Pm.c2, Pm.c3, Pm.c4, RPm, Pm.w_c, Pm.d, Pm.eta, RPl, Pl.d, Gv.L, Gv.Is, Gv.of, TGv, Gv.d, toUI_val]
    repeat' (first | omega | (with_reducible apply And.intro) | intro _)
    refine loopI (ι := Nat) (fun z => z ≤ g.palms.1) (fun z => g.palms.1 - z) [3, 7, 8, 14, 17, 18, 20, 132, 133, 134, 192] (fun z => [(193, .int .i64 z)]) (fun _ => []) 0 (by omega) (by simp only [Chk, chkFr, chkBx, chkBx1, hasB, idsLt, kept, vs_int, vs_bool, vs_nil, vs_ptr, vs_cons, vs_view, fget, isLB, bget, vsubP_self, ↓reduceIte, Nat.reduceEqDiff, Nat.reduceLT, Int.cast_ofNat_Int, Int.reduceNeg, and_self, forall_const, implies_true, Option.some.injEq, exists_eq', keepF, appF, updB]; try rfl) fun z hz => ?_
    by_cases hzl : z < g.palms.1
    · have fz : ((z : Int) < (g.palms.1 : Int)) = True := eq_true (by omega)
      simp (config := { maxSteps := 4000000 }) only [fz, g7, ↓imp_tt, ↓imp_tf, ↓imp_ft, ↓imp_ff, runO_4, runO_5, runO_6, runO_8, runO_14, runO_16, runO_17, runO_18, runO_19, aop, binV, Nat.zero_sub, ev, fget, fput, addB, addN, frz, opOwns, preFz, skipOp, WfT, pickV, stkFr, ↓reduceIte, reduceCtorEq, Nat.reduceEqDiff, Nat.reduceSub, Int.reduceNeg, decide_true, decide_false, Bool.bne_true, Bool.not_false, and_true, true_and, and_self, forall_const, imp_self, implies_true, keepF, appF, updB]
      repeat' (first | omega | (with_reducible apply And.intro) | intro _)
      refine inv_intro (z + 1) (by omega) (by omega) ?_
      simp only [Chk, chkFr, chkBx, chkBx1, hasB, idsLt, kept, vs_int, vs_bool, vs_nil, vs_ptr, vs_cons, vs_view, fget, isLB, bget, vsubP_self, ↓reduceIte, Nat.reduceEqDiff, Nat.reduceLT, Int.reduceNeg, and_true, true_and, and_self, forall_const, implies_true, Option.some.injEq, Val.int.injEq, exists_eq']
      rw [wrS (by omega)]
    · have fz : ((z : Int) < (g.palms.1 : Int)) = False := eq_false (by omega)
      simp (config := { maxSteps := 4000000 }) only [fz, ↓imp_ft, ↓imp_ff, runO_5, runO_8, runO_9, runO_14, runO_16, runO_17, runO_18, runO_19, aop, binV, ev, fget, fput, addB, addN, frz, opOwns, preFz, skipOp, WfT, popTo, stkFr, ↓reduceIte, reduceCtorEq, Nat.reduceEqDiff, Int.reduceNeg, decide_false, true_and, and_self, forall_const, imp_self, implies_true, keepF, appF, updB]
      repeat' (first | omega | (with_reducible apply And.intro) | intro _)
      refine inv_intro (j + 1) (by omega) (by omega) ?_
      simp only [Chk, chkFr, chkBx, chkBx1, hasB, idsLt, kept, vs_int, vs_bool, vs_nil, vs_ptr, vs_cons, vs_view, fget, isLB, bget, vsubP_self, ↓reduceIte, reduceCtorEq, Nat.reduceEqDiff, Nat.reduceLT, and_true, true_and, and_self, forall_const, implies_true, Option.some.injEq, Val.int.injEq, exists_eq']
      rw [wrS (by omega)]
      exact ⟨rfl, rfl⟩
  · have hpj := cpre (j - 1) (by omega)
    rw [Nat.sub_add_cancel hj0] at hpj
    obtain ⟨hne, hpr⟩ := hpj
    obtain ⟨_, hb, hf, hbest⟩ := hD.best cj1 hne cj2
    rw [← hpr] at hb hf hbest
    have hpb := hbd _ hb
    have g6 : ((j : Int) == 0) = false := beq_eq_false_iff_ne.2 (by omega)
    have g7 : ((j : Int) > 0) = True := eq_true (by omega)
    have g8 : (D (c j) ≤ g.start) = False := eq_false (by omega)
    have g9 : (if j = 0 then (-1 : Int) else (c (j - 1) : Int)) = c (j - 1) := if_neg (by omega)
    have ff := decP_t hf
    have en : (if j + 1 = 0 then (-1 : Int) else (c (j + 1 - 1) : Int)) = c j := by rw [if_neg (by omega)]; rfl
    simp (config := { maxSteps := 4000000 }) only [sFrom, fj, eX, g5, g6, g7, g8, g9, ff, hg, w1, ↓imp_tt, ↓imp_tf, ↓imp_ft, ↓imp_ff, runO_4, runO_5, runO_6, runO_14, runO_15, runO_17, runO_18, runO_19, aop, binV, ev, fget, fput, cellsOf, isLB, vget, vlen, bget, addB, addN, mkv, sliceV, vtab, frz, opOwns, preFz, callFz, skipOp, WfT, casts, castOks, cast1, castOk, norm, norms, norm1, normL, pureB, pureL, specV, argsL, capsL, mkE_S, lkp, pickV, lenV, stkFr, Val.toInt, Val.slen, Val.scell, ↓reduceIte, reduceCtorEq, Nat.reduceEqDiff, Nat.reduceAdd, Nat.reduceSub, Nat.reduceLeDiff, Nat.zero_add, Nat.add_zero, Int.reduceNeg, decide_true, decide_false, List.length_cons, List.length_nil, List.append_nil, Bool.and_self, Bool.bne_true, bne_self_eq_false, Bool.not_true, Bool.not_false, and_true, true_and, and_self, and_assoc, forall_const, imp_self, implies_true, Nat.le_refl, maxLen, Nat.reducePow, keepF, appF, updB, inat, spec5, TInt, IsInt, RInt, Prod.eta, Pm.c0, Pm.c1, Pm.c2, Pm.c3, Pm.c4, RPm, Pm.w_c, Pm.d, Pm.eta, Pl.c0, Pl.c1, RPl, Pl.w_c, Pl.d, Pl.eta, Gv.L, Gv.Is, Gv.of, TGv, Gv.d, Gv.eta, toUI_val]
    repeat' (first | omega | (with_reducible apply And.intro) | intro _)
    refine loopI (ι := Nat) (fun z => z ≤ g.palms.1) (fun z => g.palms.1 - z) [3, 7, 8, 14, 17, 18, 20, 132, 133, 134, 192] (fun z => [(193, .int .i64 z)]) (fun _ => []) 0 (by omega) (by simp only [Chk, chkFr, chkBx, chkBx1, hasB, idsLt, kept, vs_int, vs_bool, vs_nil, vs_ptr, vs_cons, vs_view, fget, isLB, bget, vsubP_self, ↓reduceIte, Nat.reduceEqDiff, Nat.reduceLT, Int.cast_ofNat_Int, and_self, forall_const, implies_true, Option.some.injEq, exists_eq', keepF, appF, updB]; try rfl) fun z hz => ?_
    by_cases hzl : z < g.palms.1
    · have fz : ((z : Int) < (g.palms.1 : Int)) = True := eq_true (by omega)
      have hzb := hbd z hzl
      by_cases hfz : fromP g (c j) (D (c j)) z (D z)
      · have fq := decP_t hfz
        have h5 := hbest z hzl hfz
        have g10 : (D z < D (c (j - 1))) = False := eq_false (by omega)
        by_cases h6 : D z = D (c (j - 1))
        · have g11 : (D z == D (c (j - 1))) = true := beq_iff_eq.2 h6
          have g12 : ((z : Int) < (c (j - 1) : Int)) = False := eq_false (by omega)
          simp (config := { maxSteps := 4000000 }) only [fz, fq, g7, g10, g11, g12, hg, ↓imp_tt, ↓imp_tf, ↓imp_ft, ↓imp_ff, runO_4, runO_5, runO_6, runO_8, runO_14, runO_16, runO_17, runO_18, runO_19, aop, binV, ev, fget, fput, isLB, vget, vlen, bget, addB, addN, mkv, sliceV, vtab, frz, opOwns, preFz, skipOp, WfT, casts, castOks, cast1, castOk, norm, norms, norm1, normL, pureB, pureL, specV, argsL, capsL, mkE_S, lkp, pickV, stkFr, Val.toInt, ↓reduceIte, reduceCtorEq, Nat.reduceEqDiff, Nat.reduceAdd, Nat.zero_add, Int.reduceNeg, decide_true, decide_false, List.length_cons, List.length_nil, List.append_nil, Bool.and_self, bne_self_eq_false, and_true, true_and, and_self, and_assoc, forall_const, imp_self, implies_true, Nat.le_refl, keepF, appF, updB, inat, Prod.eta, Pm.c0, Pm.c1, Pm.c2, Pm.c3, Pm.c4, Pm.w_c, Pm.eta, Pl.c0, Pl.c1, Pl.w_c, Pl.eta, Gv.eta, toUI_val]
          repeat' (first | omega | (with_reducible apply And.intro) | intro _)
          refine inv_intro (z + 1) (by omega) (by omega) ?_
          simp only [Chk, chkFr, chkBx, chkBx1, hasB, idsLt, kept, vs_int, vs_bool, vs_nil, vs_ptr, vs_cons, vs_view, fget, isLB, bget, vsubP_self, ↓reduceIte, Nat.reduceEqDiff, Nat.reduceLT, and_true, true_and, and_self, forall_const, implies_true, Option.some.injEq, Val.int.injEq, exists_eq']
          rw [wrS (by omega)]
        · have g11 : (D z == D (c (j - 1))) = false := beq_eq_false_iff_ne.2 h6
          simp (config := { maxSteps := 4000000 }) only [fz, fq, g7, g10, g11, hg, ↓imp_tt, ↓imp_tf, ↓imp_ft, ↓imp_ff, runO_4, runO_5, runO_6, runO_8, runO_14, runO_16, runO_17, runO_18, runO_19, aop, binV, Nat.zero_sub, ev, fget, fput, isLB, vget, vlen, bget, addB, addN, mkv, sliceV, vtab, frz, opOwns, preFz, skipOp, WfT, casts, castOks, cast1, castOk, norm, norms, norm1, normL, pureB, pureL, specV, argsL, capsL, mkE_S, lkp, pickV, stkFr, Val.toInt, ↓reduceIte, reduceCtorEq, Nat.reduceEqDiff, Nat.reduceAdd, Nat.reduceSub, Nat.zero_add, Int.reduceNeg, decide_true, decide_false, List.length_cons, List.length_nil, List.append_nil, Bool.and_self, Bool.bne_true, bne_self_eq_false, Bool.not_false, and_true, true_and, and_self, and_assoc, forall_const, imp_self, implies_true, Nat.le_refl, keepF, appF, updB, inat, Prod.eta, Pm.c0, Pm.c1, Pm.c2, Pm.c3, Pm.c4, Pm.w_c, Pm.eta, Pl.c0, Pl.c1, Pl.w_c, Pl.eta, Gv.eta, toUI_val]
          repeat' (first | omega | (with_reducible apply And.intro) | intro _)
          refine inv_intro (z + 1) (by omega) (by omega) ?_
          simp only [Chk, chkFr, chkBx, chkBx1, hasB, idsLt, kept, vs_int, vs_bool, vs_nil, vs_ptr, vs_cons, vs_view, fget, isLB, bget, vsubP_self, ↓reduceIte, Nat.reduceEqDiff, Nat.reduceLT, and_true, true_and, and_self, forall_const, implies_true, Option.some.injEq, Val.int.injEq, exists_eq']
          rw [wrS (by omega)]
      · have fq := decP_f hfz
        simp (config := { maxSteps := 4000000 }) only [fz, fq, g7, hg, ↓imp_tt, ↓imp_tf, ↓imp_ft, ↓imp_ff, runO_4, runO_5, runO_6, runO_8, runO_14, runO_16, runO_17, runO_18, runO_19, aop, binV, Nat.zero_sub, ev, fget, fput, isLB, vget, vlen, bget, addB, addN, mkv, sliceV, vtab, frz, opOwns, preFz, skipOp, WfT, casts, castOks, cast1, castOk, norm, norms, norm1, normL, pureB, pureL, specV, argsL, capsL, mkE_S, lkp, pickV, stkFr, Val.toInt, ↓reduceIte, reduceCtorEq, Nat.reduceEqDiff, Nat.reduceAdd, Nat.reduceSub, Nat.zero_add, Int.reduceNeg, decide_true, List.length_cons, List.length_nil, List.append_nil, Bool.and_self, Bool.bne_true, bne_self_eq_false, Bool.not_false, and_true, true_and, and_self, and_assoc, forall_const, imp_self, implies_true, Nat.le_refl, keepF, appF, updB, inat, Prod.eta, Pm.c0, Pm.c1, Pm.c2, Pm.c3, Pm.c4, Pm.w_c, Pm.eta, Pl.c0, Pl.c1, Pl.w_c, Pl.eta, Gv.eta, toUI_val]
        repeat' (first | omega | (with_reducible apply And.intro) | intro _)
        refine inv_intro (z + 1) (by omega) (by omega) ?_
        simp only [Chk, chkFr, chkBx, chkBx1, hasB, idsLt, kept, vs_int, vs_bool, vs_nil, vs_ptr, vs_cons, vs_view, fget, isLB, bget, vsubP_self, ↓reduceIte, Nat.reduceEqDiff, Nat.reduceLT, and_true, true_and, and_self, forall_const, implies_true, Option.some.injEq, Val.int.injEq, exists_eq']
        rw [wrS (by omega)]
    · have fz : ((z : Int) < (g.palms.1 : Int)) = False := eq_false (by omega)
      simp (config := { maxSteps := 4000000 }) only [fz, ↓imp_ft, ↓imp_ff, runO_5, runO_8, runO_9, runO_14, runO_16, runO_17, runO_18, runO_19, aop, binV, ev, fget, fput, addB, addN, frz, opOwns, preFz, skipOp, WfT, popTo, stkFr, ↓reduceIte, reduceCtorEq, Nat.reduceEqDiff, Int.reduceNeg, decide_false, true_and, and_self, forall_const, imp_self, implies_true, keepF, appF, updB]
      repeat' (first | omega | (with_reducible apply And.intro) | intro _)
      refine inv_intro (j + 1) (by omega) (by omega) ?_
      simp only [Chk, chkFr, chkBx, chkBx1, hasB, idsLt, kept, vs_int, vs_bool, vs_nil, vs_ptr, vs_cons, vs_view, fget, isLB, bget, vsubP_self, ↓reduceIte, reduceCtorEq, Nat.reduceEqDiff, Nat.reduceLT, and_true, true_and, and_self, forall_const, implies_true, Option.some.injEq, Val.int.injEq, exists_eq']
      rw [wrS (by omega)]
      exact ⟨rfl, rfl⟩
end Go.Proofs.Ytpknbojgkkmonaa
