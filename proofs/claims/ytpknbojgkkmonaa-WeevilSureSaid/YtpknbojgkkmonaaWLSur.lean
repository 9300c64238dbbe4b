/- WeevilSure: what is known of a palm on a day is told by one sign more. No condition. -/
import Derived.Test.YtpknbojgkkmonaaWRdy
import Derived.Test.YtpknbojgkkmonaaACodeL7
import Derived.Test.YtpknbojgkkmonaaACodeS
import Derived.Test.YtpknbojgkkmonaaWApp
set_option linter.unusedSimpArgs false
set_option linter.unusedVariables false
namespace Go.Proofs.Ytpknbojgkkmonaa
open Go Go.RowKit
variable {G : Nat → Option (Nat × (Nat → Val))}
noncomputable def sLawSure : Spec := spec4 TGv (TSl RSg) TI (TU .u8) (fun _ _ _ _ => True) fun _ _ _ _ => .bool true
set_option maxHeartbeats 8000000 in
set_option maxRecDepth 100000 in
theorem pLawSure : PureOk Try.prog G 7 sLawSure := by
  refine fn4 (S := [(28, sAlive), (29, sReadyW), (22, sSoonEr), (15, sIll), (34, sIllL), (35, sCleanL)]) (I := [(33, a33)]) mixed (.cons pAlive (.cons pReadyW (.cons pSoonEr (.cons pIll (.cons pIllL (.cons pCleanL .nil)))))) (.cons Try.func33 c33 .nil) Try.func7 c7 fun g l day which _ hw => ?_
  simp only [vl, WfT, Val.toInt, Val.slen, Val.scell, Nat.reduceSub, and_true, true_and, and_self, and_assoc, maxLen, Nat.reducePow, TU_enc, TSl, TInt, RInt, RPm, Pm.d, RPl, Pl.d, Gv.L, TGv, RSg, Sg.d] at hw
  obtain ⟨w1, w2, w3, w4⟩ := hw
  by_cases hr : rdyP g l
  case neg =>
    have fr := decP_f hr
    simp (config := { maxSteps := 4000000 }) only [RunTo, a7, sAlive, sReadyW, fr, w1, w2, w3, w4, ↓imp_tt, ↓imp_tf, runO_3, runO_5, runO_14, runO_17, runO_18, runO_19, aop, ends, Nat.zero_sub, ev, fget, fput, params, cellsOf, cellsN, isLB, vget, vlen, bget, addB, addN, mkv, sliceV, vtab, frz, opOwns, preFz, callFz, skipOp, WfT, resV, res1, norm, norms, norm1, normL, pureB, pureL, snapV, snapOk, specV, argsL, capsL, mkE_S, lkp, pickV, Fin, vp_bool, Val.toInt, Val.slen, Val.scell, ↓reduceIte, reduceCtorEq, Nat.reduceEqDiff, Nat.reduceAdd, Nat.reduceSub, Nat.zero_add, List.length_cons, List.length_nil, List.append_nil, Bool.and_self, Bool.bne_false, Bool.not_false, and_true, and_self, and_assoc, forall_const, imp_self, implies_true, Nat.le_refl, maxLen, Nat.reducePow, TU_enc, spec0, spec2, TSl, IsSl, TInt, RInt, Prod.eta, Pm.c0, Pm.c1, Pm.c2, Pm.c3, Pm.c4, RPm, Pm.w_c, Pm.d, Pm.eta, Pl.c0, Pl.c1, RPl, Pl.w_c, Pl.d, Pl.eta, Gv.L, Gv.Is, Gv.of, TGv, Gv.d, Gv.eta, Sg.c0, Sg.c1, Sg.c2, Sg.c3, Sg.c4, Sg.c5, RSg, Sg.w_c, Sg.d, Sg.eta, toUI_val]
  have fr := decP_t hr
  obtain ⟨hg, hl⟩ := rdy_ok hr
  have hn24 := hg.pms.n
  by_cases hl30 : (l.1 : Int) ≥ 30
  · have fl := eq_true hl30
    simp only [RunTo, a7, sAlive, sReadyW, fr, fl, w1, w2, w3, w4, ↓imp_tt, ↓imp_tf, ↓imp_ft, ↓imp_ff, runO_3, runO_5, runO_14, runO_17, runO_18, runO_19, aop, binV, ends, Nat.zero_sub, ev, fget, fput, params, cellsOf, cellsN, isLB, vget, vlen, bget, addB, addN, mkv, sliceV, vtab, frz, opOwns, preFz, callFz, skipOp, WfT, resV, res1, norm, norms, norm1, normL, pureB, pureL, snapV, snapOk, specV, argsL, capsL, mkE_S, lkp, pickV, lenV, Fin, vp_bool, Val.toInt, Val.slen, Val.scell, ↓reduceIte, reduceCtorEq, Nat.reduceEqDiff, Nat.reduceAdd, Nat.reduceSub, Nat.zero_add, decide_true, List.length_cons, List.length_nil, List.append_nil, Bool.and_self, Bool.bne_false, bne_self_eq_false, Bool.not_true, and_true, and_self, and_assoc, forall_const, imp_self, implies_true, Nat.le_refl, maxLen, Nat.reducePow, TU_enc, spec0, spec2, TSl, IsSl, TInt, RInt, Prod.eta, Pm.c0, Pm.c1, Pm.c2, Pm.c3, Pm.c4, RPm, Pm.w_c, Pm.d, Pm.eta, Pl.c0, Pl.c1, RPl, Pl.w_c, Pl.d, Pl.eta, Gv.L, Gv.Is, Gv.of, TGv, Gv.d, Gv.eta, Sg.c0, Sg.c1, Sg.c2, Sg.c3, Sg.c4, Sg.c5, RSg, Sg.w_c, Sg.d, Sg.eta, toUI_val]
  have fl := eq_false hl30
  by_cases hp0 : (g.palms.1 : Int) = 0
  · have fp : ((g.palms.1 : Int) == 0) = true := beq_iff_eq.2 hp0
    simp only [RunTo, a7, sAlive, sReadyW, fr, fl, fp, w1, w2, w3, w4, ↓imp_tt, ↓imp_tf, ↓imp_ft, ↓imp_ff, runO_3, runO_5, runO_14, runO_17, runO_18, runO_19, aop, binV, ends, Nat.zero_sub, ev, fget, fput, params, cellsOf, cellsN, isLB, vget, vlen, bget, addB, addN, mkv, sliceV, vtab, frz, opOwns, preFz, callFz, skipOp, WfT, resV, res1, norm, norms, norm1, normL, pureB, pureL, snapV, snapOk, specV, argsL, capsL, mkE_S, lkp, pickV, lenV, Fin, vp_bool, Val.toInt, Val.slen, Val.scell, ↓reduceIte, reduceCtorEq, Nat.reduceEqDiff, Nat.reduceAdd, Nat.reduceSub, Nat.reduceLeDiff, Nat.zero_add, Nat.add_zero, decide_false, List.length_cons, List.length_nil, List.append_nil, Bool.and_self, Bool.bne_false, bne_self_eq_false, Bool.not_true, and_true, and_self, and_assoc, forall_const, imp_self, implies_true, Nat.le_refl, maxLen, Nat.reducePow, TU_enc, spec0, spec2, TSl, IsSl, TInt, RInt, Prod.eta, Pm.c0, Pm.c1, Pm.c2, Pm.c3, Pm.c4, RPm, Pm.w_c, Pm.d, Pm.eta, Pl.c0, Pl.c1, RPl, Pl.w_c, Pl.d, Pl.eta, Gv.L, Gv.Is, Gv.of, TGv, Gv.d, Gv.eta, Sg.c0, Sg.c1, Sg.c2, Sg.c3, Sg.c4, Sg.c5, RSg, Sg.w_c, Sg.d, Sg.eta, toUI_val]
  have fp : ((g.palms.1 : Int) == 0) = false := beq_eq_false_iff_ne.2 hp0
  by_cases hd1 : day < g.start
  · have f1 := eq_true hd1
    simp (config := { maxSteps := 4000000 }) only [RunTo, a7, sAlive, sReadyW, fr, fl, fp, f1, w1, w2, w3, w4, ↓imp_tt, ↓imp_tf, ↓imp_ft, ↓imp_ff, runO_3, runO_5, runO_14, runO_17, runO_18, runO_19, aop, binV, ends, Nat.zero_sub, ev, fget, fput, params, cellsOf, cellsN, isLB, vget, vlen, bget, addB, addN, mkv, sliceV, vtab, frz, opOwns, preFz, callFz, skipOp, WfT, resV, res1, norm, norms, norm1, normL, pureB, pureL, snapV, snapOk, specV, argsL, capsL, mkE_S, lkp, pickV, lenV, Fin, vp_bool, Val.toInt, Val.slen, Val.scell, ↓reduceIte, reduceCtorEq, Nat.reduceEqDiff, Nat.reduceAdd, Nat.reduceSub, Nat.reduceLeDiff, Nat.zero_add, Nat.add_zero, decide_true, decide_false, List.length_cons, List.length_nil, List.append_nil, Bool.and_self, Bool.bne_false, bne_self_eq_false, Bool.not_true, and_true, and_self, and_assoc, forall_const, imp_self, implies_true, Nat.le_refl, maxLen, Nat.reducePow, TU_enc, spec0, spec2, TSl, IsSl, TInt, RInt, Prod.eta, Pm.c0, Pm.c1, Pm.c2, Pm.c3, Pm.c4, RPm, Pm.w_c, Pm.d, Pm.eta, Pl.c0, Pl.c1, RPl, Pl.w_c, Pl.d, Pl.eta, Gv.L, Gv.Is, Gv.of, TGv, Gv.d, Gv.eta, Sg.c0, Sg.c1, Sg.c2, Sg.c3, Sg.c4, Sg.c5, RSg, Sg.w_c, Sg.d, Sg.eta, toUI_val]
  have f1 := eq_false hd1
  by_cases hd2 : day > 100000
  · have f2 := eq_true hd2
    simp (config := { maxSteps := 4000000 }) only [RunTo, a7, sAlive, sReadyW, fr, fl, fp, f1, f2, w1, w2, w3, w4, ↓imp_tt, ↓imp_tf, ↓imp_ft, ↓imp_ff, runO_3, runO_5, runO_14, runO_17, runO_18, runO_19, aop, binV, ends, Nat.zero_sub, ev, fget, fput, params, cellsOf, cellsN, isLB, vget, vlen, bget, addB, addN, mkv, sliceV, vtab, frz, opOwns, preFz, callFz, skipOp, WfT, resV, res1, norm, norms, norm1, normL, pureB, pureL, snapV, snapOk, specV, argsL, capsL, mkE_S, lkp, pickV, lenV, Fin, vp_bool, Val.toInt, Val.slen, Val.scell, ↓reduceIte, reduceCtorEq, Nat.reduceEqDiff, Nat.reduceAdd, Nat.reduceSub, Nat.reduceLeDiff, Nat.zero_add, Nat.add_zero, decide_true, decide_false, List.length_cons, List.length_nil, List.append_nil, Bool.and_self, Bool.bne_false, bne_self_eq_false, Bool.not_true, and_true, and_self, and_assoc, forall_const, imp_self, implies_true, Nat.le_refl, maxLen, Nat.reducePow, TU_enc, spec0, spec2, TSl, IsSl, TInt, RInt, Prod.eta, Pm.c0, Pm.c1, Pm.c2, Pm.c3, Pm.c4, RPm, Pm.w_c, Pm.d, Pm.eta, Pl.c0, Pl.c1, RPl, Pl.w_c, Pl.d, Pl.eta, Gv.L, Gv.Is, Gv.of, TGv, Gv.d, Gv.eta, Sg.c0, Sg.c1, Sg.c2, Sg.c3, Sg.c4, Sg.c5, RSg, Sg.w_c, Sg.d, Sg.eta, toUI_val]
  have f2 := eq_false hd2
  have hd : g.start ≤ day ∧ day ≤ 100000 := by omega
  by_cases hok : okP g l l.1
  case neg =>
    have q4 := as_no hg hl hd hok
    have q5 := il_no hg hl hd hok
    simp only [RunTo, a7, sAlive, sReadyW, sIll, fr, fl, fp, f1, f2, q4, q5, w1, w2, w3, w4, ↓imp_tt, ↓imp_tf, ↓imp_ft, ↓imp_ff, runO_3, runO_4, runO_5, runO_14, runO_17, runO_18, runO_19, aop, binV, ends, ev, fget, fput, params, cellsOf, cellsN, isLB, vget, vlen, bget, addB, addN, mkv, sliceV, vtab, frz, opOwns, preFz, callFz, skipOp, WfT, resV, res1, norm, norms, norm1, normL, pureB, pureL, snapV, snapOk, specV, argsL, capsL, mkE_S, lkp, pickV, lenV, Fin, vp_bool, Val.toInt, Val.slen, Val.scell, ↓reduceIte, reduceCtorEq, Nat.reduceEqDiff, Nat.reduceAdd, Nat.reduceSub, Nat.reduceLeDiff, Nat.reduceLT, Nat.zero_add, Nat.add_zero, Int.reduceBNe, decide_false, List.length_cons, List.length_nil, List.append_nil, Bool.and_self, bne_self_eq_false, Bool.not_true, beq_self_eq_true, and_true, and_self, and_assoc, forall_const, imp_self, implies_true, Nat.le_refl, maxLen, Nat.reducePow, TU_enc, spec0, spec2, spec3, TSl, IsSl, TInt, IsInt, RInt, Prod.eta, Pm.c0, Pm.c1, Pm.c2, Pm.c3, Pm.c4, RPm, Pm.w_c, Pm.d, Pm.eta, Pl.c0, Pl.c1, RPl, Pl.w_c, Pl.d, Pl.eta, Gv.L, Gv.Is, Gv.of, TGv, Gv.d, Gv.eta, Sg.c0, Sg.c1, Sg.c2, Sg.c3, Sg.c4, Sg.c5, RSg, Sg.w_c, Sg.d, Sg.eta, toUI_val]
  have q4 := asE_ok hg hl hd hok
  have q5 := il_ok hg hl hd hok
  have hst := hg.start
  have hsh := hg.shows
  obtain ⟨i, ei, hi⟩ : ∃ i : Nat, which.1.tmod (g.palms.1 : Int) = i ∧ i < g.palms.1 := by
    have h1 := which.2
    have e1 : IntKind.min .u8 = 0 := by decide
    have h2 : 0 ≤ which.1 := by omega
    have h3 := Int.tmod_nonneg (g.palms.1 : Int) h2
    have h4 := Int.tmod_lt_of_pos which.1 (show (0 : Int) < g.palms.1 by omega)
    exact ⟨(which.1.tmod g.palms.1).toNat, by omega, by omega⟩
  have e0 : IntKind.i64.wrap which.1 = which.1 := by
    have h1 := which.2
    have e1 : IntKind.min .u8 = 0 := by decide
    have e2 : IntKind.max .u8 = 255 := by decide
    exact wr64 (by omega) (by omega)
  have hk0 := ill_0 (g := g) (l := l) (day := day) (i := i)
  have hk2 := ill_2 (g := g) (l := l) (day := day) (i := i)
  obtain ⟨K, hK⟩ : ∃ K, illF g l day = K := ⟨_, rfl⟩
  rw [hK] at q5 hk0 hk2
  have hpb := hg.pms.pl i hi
  by_cases hpl : (g.palms.2 i).planted > day
  · have f3 := eq_true hpl
    have hk : K i = 0 := hk0.2 (by have := dy_planted hg hl.2 hi (by omega : (g.palms.2 i).planted > g.start); omega)
    simp only [RunTo, a7, sAlive, sReadyW, sIll, fr, fl, fp, f1, f2, f3, q4, q5, e0, ei, hk, w1, w2, w3, w4, ↓imp_tt, ↓imp_tf, ↓imp_ft, ↓imp_ff, runO_3, runO_4, runO_5, runO_14, runO_17, runO_18, runO_19, aop, binV, ends, reOk, Nat.zero_sub, ev, fget, fput, params, cellsOf, cellsN, isLB, vget, vset, vsets, vlen, bget, bset, addB, addN, mkv, sliceV, vtab, frz, opOwns, preFz, callFz, skipOp, WfT, resV, res1, casts, castOks, cast1, castOk, norm, norms, norm1, normL, pureB, pureL, onesB, snapV, snapOk, specV, argsL, capsL, mkE_S, lkp, pickV, lenV, Fin, vp_bool, Val.toInt, Val.slen, Val.scell, ↓reduceIte, reduceCtorEq, Nat.reduceEqDiff, Nat.reduceAdd, Nat.reduceSub, Nat.reduceLeDiff, Nat.reduceLT, Nat.zero_add, Nat.add_zero, decide_true, decide_false, List.length_cons, List.length_nil, List.append_nil, Bool.and_self, bne_self_eq_false, Bool.not_true, beq_self_eq_true, and_true, true_and, and_self, and_assoc, forall_const, imp_self, implies_true, Nat.le_refl, ne_eq, maxLen, Nat.reducePow, inat, TU_enc, spec0, spec2, spec3, TSl, IsSl, TInt, IsInt, RInt, Prod.eta, Pm.c0, Pm.c1, Pm.c2, Pm.c3, Pm.c4, RPm, Pm.w_c, Pm.d, Pm.eta, Pl.c0, Pl.c1, RPl, Pl.w_c, Pl.d, Pl.eta, Gv.L, Gv.Is, Gv.of, TGv, Gv.d, Gv.eta, Sg.c0, Sg.c1, Sg.c2, Sg.c3, Sg.c4, Sg.c5, RSg, Sg.w_c, Sg.d, Sg.eta, toUI_val]
    exact ⟨by omega, by omega⟩
  have f3 := eq_false hpl
  have hhit := hg.pms.hit hi
  have es : IntKind.i64.wrap (day + g.shows) = day + g.shows := wr64 (by omega) (by omega)
  obtain ⟨s1, hs1⟩ : ∃ s : Sg, s = ⟨2, (g.palms.2 i).id, day, ⟨0, 0⟩, 0⟩ := ⟨_, rfl⟩
  have ok1 : SgOk g s1 := by rw [hs1]; exact ⟨hd, .inl ⟨.inr rfl, by rw [hhit]; exact hi, by rw [hhit]; show _ ≤ day; omega⟩⟩
  obtain ⟨a0, a1, a2, a3, a4, a5⟩ := ap_all l 2 (g.palms.2 i).id day 0 0 0
  have aw := ap_w l 2 (g.palms.2 i).id day 0 0 0
  simp only [Val.toInt, sgV, ← hs1] at a0 a1 a2 a3 a4 a5 aw
  have hl1 : SgsOk g (l.1 + 1, snocF l s1) := ⟨by have : ¬ (l.1 : Int) ≥ 30 := hl30; show l.1 + 1 ≤ 30; omega, fun j hj => by
    have hj : j < l.1 + 1 := hj
    show SgOk g (snocF l s1 j)
    rcases Nat.lt_or_ge j l.1 with h | h
    · rw [snoc_l h]; exact hl.2 j h
    · obtain rfl : j = l.1 := by omega
      rw [snoc_r]; exact ok1⟩
  have hsn : ∀ (s : Sg) j, j < l.1 → (l.1 + 1, snocF l s).2 j = l.2 j := fun s j hj => snoc_l hj
  have hlast : ∀ s : Sg, (l.1 + 1, snocF l s).2 l.1 = s := fun s => snoc_r
  have k1 := sure_ill (l' := (l.1 + 1, snocF l s1)) (i := i) (day := day) hg hl.2 hl1.2 (hsn s1) (by rw [hlast, hs1]) (by rw [hlast, hs1]; exact hhit) hi (by rw [hlast, hs1]) hok
  have key1 : (∃ D : Nat → Int, stE g (l.1 + 1, snocF l s1) = 0 ∧ stA g (l.1 + 1, snocF l s1) = 0 ∧ stD g (l.1 + 1, snocF l s1) = (.view 1 g.palms.1 fun i _ => .int .i64 (D i)) ∧ (K i == 0) = false) ∨ (∃ D : Nat → Int, stE g (l.1 + 1, snocF l s1) = 92 ∧ stA g (l.1 + 1, snocF l s1) = l.1 ∧ stD g (l.1 + 1, snocF l s1) = .nils ∧ (K i == 0) = true) := by
    by_cases h : okP g (l.1 + 1, snocF l s1) (l.1 + 1)
    · obtain ⟨q1, q2, q3⟩ := st_ok hg hl1 h
      exact .inl ⟨_, q1, q2, q3, beq_eq_false_iff_ne.2 fun h2 => (k1.1 h) (hk0.1 h2)⟩
    · obtain ⟨q1, q2, q3⟩ := st_no hg hl1 h
      refine .inr ⟨fun _ => 0, q1, by rw [q2, bad_last hg hl.2 (hsn s1) rfl hok h], q3, beq_iff_eq.2 (hk0.2 ?_)⟩
      apply Classical.byContradiction
      intro h2
      exact h (k1.2 h2)
  by_cases hlate : day + g.shows > 100000
  · have f4 := eq_true hlate
    rcases key1 with ⟨D1, e1, y1, v1, hk⟩ | ⟨D1, e1, y1, v1, hk⟩
    all_goals
      simp (config := { maxSteps := 4000000 }) only [RunTo, a7, a33, sAlive, sReadyW, sSoonEr, sIll, sIllL, sCleanL,  fr, fl, fp, f1, f2, f3, f4, q4, q5, e0, ei, hk, es, a0, a1, a2, a3, a4, a5, e1, y1, w1, w2, w3, w4, flatO, ↓imp_tt, ↓imp_tf, ↓imp_ft, ↓imp_ff, runO_3, runO_4, runO_5, runO_14, runO_17, runO_18, runO_19, aop, binV, ends, reOk, dstV, Nat.zero_sub, ev, evs, fget, fput, params, cellsOf, cellsN, isLB, vget, vset, vsets, vlen, bget, bset, addB, addN, mkv, sliceV, vtab, rowsV, rowsOk, vrep, frz, opOwns, preFz, callFz, skipOp, WfT, resV, res1, casts, castOks, cast1, castOk, norm, norms, norm1, normL, pureB, pureL, flatB, onesB, snapV, snapOk, snapL, snapOks, specV, argsL, capsL, mkE_S, mkE_I, lkp, pickV, lenV, subFr, subV, subBx, subStk, elemsV, Fin, vp_bool, Val.toInt, Val.slen, Val.scell, ↓reduceIte, reduceCtorEq, Nat.reduceEqDiff, Nat.reduceAdd, Nat.reduceSub, Nat.reduceLeDiff, Nat.reduceLT, Nat.zero_add, Nat.add_zero, Nat.sub_zero, Int.reduceBEq, Int.reduceBNe, decide_true, decide_false, List.length_cons, List.length_nil, List.nil_append, List.cons_append, List.append_nil, Bool.and_true, Bool.and_false, Bool.and_self, Bool.bne_true, bne_self_eq_false, Bool.not_true, Bool.not_false, beq_self_eq_true, and_true, true_and, and_self, and_assoc, forall_const, imp_self, implies_true, Nat.le_refl, ne_eq, or_false, maxLen, Nat.reducePow, inat, TU_enc, spec0, spec2, spec3, TSl, IsSl, TInt, IsInt, RInt, Prod.eta, Pm.c0, Pm.c1, Pm.c2, Pm.c3, Pm.c4, RPm, Pm.w_c, Pm.d, Pm.eta, Pl.c0, Pl.c1, RPl, Pl.w_c, Pl.d, Pl.eta, Gv.L, Gv.Is, Gv.of, TGv, Gv.d, Gv.eta, Sg.L, Sg.c0, Sg.c1, Sg.c2, Sg.c3, Sg.c4, Sg.c5, RSg, Sg.w_c, Sg.d, Sg.eta, toUI_val]
      repeat' (first | omega | (with_reducible apply And.intro) | intro _)
      all_goals first
        | exact aw _ (by assumption)
        | (trace_state; sorry)
  have f4 := eq_false hlate
  obtain ⟨s2, hs2⟩ : ∃ s : Sg, s = ⟨1, (g.palms.2 i).id, day + g.shows, ⟨0, 0⟩, 0⟩ := ⟨_, rfl⟩
  have ok2 : SgOk g s2 := by rw [hs2]; exact ⟨by show g.start ≤ day + g.shows ∧ day + g.shows ≤ 100000; omega, .inl ⟨.inl rfl, by rw [hhit]; exact hi, by rw [hhit]; show _ ≤ day + g.shows; omega⟩⟩
  obtain ⟨b0, b1, b2, b3, b4, b5⟩ := ap_all l 1 (g.palms.2 i).id (day + g.shows) 0 0 0
  have bw := ap_w l 1 (g.palms.2 i).id (day + g.shows) 0 0 0
  simp only [Val.toInt, sgV, ← hs2] at b0 b1 b2 b3 b4 b5 bw
  have hl2 : SgsOk g (l.1 + 1, snocF l s2) := ⟨by have : ¬ (l.1 : Int) ≥ 30 := hl30; show l.1 + 1 ≤ 30; omega, fun j hj => by
    have hj : j < l.1 + 1 := hj
    show SgOk g (snocF l s2 j)
    rcases Nat.lt_or_ge j l.1 with h | h
    · rw [snoc_l h]; exact hl.2 j h
    · obtain rfl : j = l.1 := by omega
      rw [snoc_r]; exact ok2⟩
  have k2 := sure_clean (l' := (l.1 + 1, snocF l s2)) (i := i) (day := day) hg hl.2 hl2.2 (hsn s2) (by rw [hlast, hs2]) (by rw [hlast, hs2]; exact hhit) hi (by rw [hlast, hs2]; show day + g.shows - g.shows = day; omega) (by omega)
  have key2 : (∃ D : Nat → Int, stE g (l.1 + 1, snocF l s2) = 0 ∧ stA g (l.1 + 1, snocF l s2) = 0 ∧ stD g (l.1 + 1, snocF l s2) = (.view 1 g.palms.1 fun i _ => .int .i64 (D i)) ∧ (K i == 2) = false) ∨ (∃ D : Nat → Int, stE g (l.1 + 1, snocF l s2) = 92 ∧ stA g (l.1 + 1, snocF l s2) = l.1 ∧ stD g (l.1 + 1, snocF l s2) = .nils ∧ (K i == 2) = true) := by
    by_cases h : okP g (l.1 + 1, snocF l s2) (l.1 + 1)
    · obtain ⟨q1, q2, q3⟩ := st_ok hg hl2 h
      refine .inl ⟨_, q1, q2, q3, beq_eq_false_iff_ne.2 fun h2 => ?_⟩
      by_cases hgt : dyF g l l.1 i > day
      · have := hk0.2 hgt; omega
      · exact (hk2 hgt).1 h2 (k2.1 h)
    · obtain ⟨q1, q2, q3⟩ := st_no hg hl2 h
      refine .inr ⟨fun _ => 0, q1, by rw [q2, bad_last hg hl.2 (hsn s2) rfl hok h], q3, beq_iff_eq.2 ?_⟩
      have hno : ¬ okI g l day i := fun h2 => h (k2.2 h2)
      have hgt : ¬ dyF g l l.1 i > day := fun hgt => hno ((okI_iff hg hl.2 (by omega) hi).2 ⟨_, dy_hist hg hl.2, hok, hgt⟩)
      exact (hk2 hgt).2 hno
  rcases key1 with ⟨D1, e1, y1, v1, hk⟩ | ⟨D1, e1, y1, v1, hk⟩ <;> rcases key2 with ⟨D2, e2, y2, v2, hk'⟩ | ⟨D2, e2, y2, v2, hk'⟩
  all_goals
    simp (config := { maxSteps := 4000000 }) only [RunTo, a7, a33, sAlive, sReadyW, sSoonEr, sIll, sIllL, sCleanL,  fr, fl, fp, f1, f2, f3, f4, q4, q5, e0, ei, hk, hk', es, a0, a1, a2, a3, a4, a5, e1, y1, b0, b1, b2, b3, b4, b5, e2, y2, w1, w2, w3, w4, flatO, ↓imp_tt, ↓imp_tf, ↓imp_ft, ↓imp_ff, runO_3, runO_4, runO_5, runO_14, runO_17, runO_18, runO_19, aop, binV, ends, reOk, dstV, Nat.zero_sub, ev, evs, fget, fput, params, cellsOf, cellsN, isLB, vget, vset, vsets, vlen, bget, bset, addB, addN, mkv, sliceV, vtab, rowsV, rowsOk, vrep, frz, opOwns, preFz, callFz, skipOp, WfT, resV, res1, casts, castOks, cast1, castOk, norm, norms, norm1, normL, pureB, pureL, flatB, onesB, snapV, snapOk, snapL, snapOks, specV, argsL, capsL, mkE_S, mkE_I, lkp, pickV, lenV, subFr, subV, subBx, subStk, elemsV, Fin, vp_bool, Val.toInt, Val.slen, Val.scell, ↓reduceIte, reduceCtorEq, Nat.reduceEqDiff, Nat.reduceAdd, Nat.reduceSub, Nat.reduceLeDiff, Nat.reduceLT, Nat.zero_add, Nat.add_zero, Nat.sub_zero, Int.reduceBEq, Int.reduceBNe, decide_false, List.length_cons, List.length_nil, List.nil_append, List.cons_append, List.append_nil, Bool.and_true, Bool.and_false, Bool.and_self, Bool.bne_true, Bool.bne_false, bne_self_eq_false, Bool.not_true, Bool.not_false, beq_self_eq_true, and_true, true_and, and_self, and_assoc, forall_const, imp_self, implies_true, Nat.le_refl, ne_eq, or_false, maxLen, Nat.reducePow, inat, TU_enc, spec0, spec2, spec3, TSl, IsSl, TInt, IsInt, RInt, Prod.eta, Pm.c0, Pm.c1, Pm.c2, Pm.c3, Pm.c4, RPm, Pm.w_c, Pm.d, Pm.eta, Pl.c0, Pl.c1, RPl, Pl.w_c, Pl.d, Pl.eta, Gv.L, Gv.Is, Gv.of, TGv, Gv.d, Gv.eta, Sg.L, Sg.c0, Sg.c1, Sg.c2, Sg.c3, Sg.c4, Sg.c5, RSg, Sg.w_c, Sg.d, Sg.eta, toUI_val]
    repeat' (first | omega | (with_reducible apply And.intro) | intro _)
    all_goals first
      | exact aw _ (by assumption)
      | exact bw _ (by assumption)
      | (trace_state; sorry)
end Go.Proofs.Ytpknbojgkkmonaa
