/- Hours, the program: told, heard, moment, Tell, All, Before, out of what tell does. No condition but lengths. -/
import Derived.Test.YtbhhcnonooiokaaDoorHProg2
set_option linter.unusedSimpArgs false
set_option linter.unusedVariables false
namespace Go.Proofs.YtbhhcnonooiokaaDoor
open Go Go.RowKit
/-- what the program tells, valid or not -/
def tellG (c : Ck) (day : Int) (t : Tl) : Sp := if t.kind = 4 then ofF t.word else if TlOk c t then tellF c day t else ⟨1, 0⟩
theorem tellG_ok {c : Ck} {day : Int} {t : Tl} (h : TlOk c t) : tellG c day t = tellF c day t := by
  unfold tellG
  split
  · rename_i h4
    unfold TlOk SpIn at h
    have : SpIn t.word (-100000) 100000 := by unfold SpIn; omega
    unfold SpIn at this
    unfold ofF tellF
    rw [wr64 (by omega) (by omega), wr64 (by omega) (by omega), if_neg (by omega), if_neg (by omega), if_neg (by omega)]
  · first | rfl | rw [if_pos h]
def sTellP : Spec := spec2 TKp TTl (fun k _ => CkOk k.ck ∧ DayOk k.day) fun k t => .tup (.cons (.agg (tellG k.ck k.day t).L) (.cons (.bool (decide (TlOk k.ck t))) .nil))
noncomputable def toldB (c : Ck) (l : Tls) : Bool := @decide (AllOk c l) (Classical.propDecidable _)
noncomputable def toldL (c : Ck) (day : Int) (l : Tls) : Nat × (Nat → Sp) := if toldB c l = true then (l.1, fun i => tellF c day (l.2 i)) else (0, fun _ => ⟨0, 0⟩)
noncomputable def sTold : Spec := spec2 TKp (TSl RTl) (fun k l => (CkOk k.ck ∧ DayOk k.day) ∧ l.1 ≤ 1000) fun k l => .tup (.cons (.view 2 (toldL k.ck k.day l).1 fun i j => ((toldL k.ck k.day l).2 i).c j) (.cons (.bool (toldB k.ck l)) .nil))
set_option maxRecDepth 100000 in
theorem pTold (pTellP : PureOk Tryd.prog NG 54 sTellP) : PureOk Tryd.prog NG 92 sTold := by
  refine fn2 (S := [(54, sTellP)]) (I := []) mixed (.cons pTellP .nil) .nil Tryd.func92 c92 fun k l hp hw => ?_
  obtain ⟨⟨hc, hd⟩, h10⟩ := hp
  simp only [vl, WfT, Val.toInt, Val.slen, Val.scell, Nat.reduceSub, and_true, and_self, and_assoc, maxLen, Nat.reducePow, TSl, RSp, Sp.d, RSr, Sr.d, RTl, Tl.d, Kp.L, TKp] at hw
  obtain ⟨w1, w2, w3⟩ := hw
  simp only [RunTo, a92, sTellP, w3, runO_5, runO_6, runO_15, runO_17, runO_18, runO_19, aop, ev, fget, fput, params, cellsOf, cellsN, isLB, vlen, addB, addN, frz, opOwns, preFz, skipOp, WfT, lenV, Fin, Val.toInt, Val.slen, Val.scell, ↓reduceIte, reduceCtorEq, Nat.reduceEqDiff, Nat.reduceAdd, Nat.reduceSub, Nat.zero_add, true_and, and_self, and_assoc, forall_const, imp_self, implies_true, maxLen, Nat.reducePow, spec2, TSl, Sp.L, RSp, Sp.d, RSr, Sr.d, Tl.L, Tl.Is, Tl.of, TTl, RTl, Tl.d, Kp.L, Kp.Is, Kp.of, TKp, Kp.d]
  refine loopJ (ι := Nat) (fun j => j ≤ l.1 ∧ ∀ i < j, TlOk k.ck (l.2 i)) (fun j => l.1 - j) [2, 11, 12] (fun j => [(6, .own 1), (13, .int .i64 j)]) (fun j => [(1, .row 107 2 j fun i b => (tellF k.ck k.day (l.2 i)).c b)]) 1 0 ⟨by omega, fun i h => by omega⟩ (by simp only [Chk, chkFr, chkBx, chkBx1, newIn, hasB, idsLt, kept, vs_int, vs_nil, vs_own, vs_ptr, vs_cons, vs_view, fget, isLB, bget, bset, vsubP_self, ↓reduceIte, reduceCtorEq, Nat.reduceEqDiff, Nat.reduceAdd, Nat.reduceLT, Int.cast_ofNat_Int, and_true, and_self, forall_const, implies_true, Option.some.injEq, exists_eq', or_true, keepF, appF, updB]) fun j hj => ?_
  obtain ⟨hj1, hj2⟩ := hj
  simp only [w1, w2, runO_3, runO_4, runO_5, runO_6, runO_8, runO_9, runO_14, runO_16, runO_17, runO_18, runO_19, aop, binV, ends, reOk, Nat.zero_sub, ev, fget, fput, cellsOf, cellsN, isLB, vget, vset, vsets, vlen, bget, bset, addB, addN, mkv, sliceV, vtab, rowsV, rowsOk, vrep, frz, opOwns, preFz, callFz, owns, skipOp, WfT, resV, resL, res1, casts, castOks, cast1, castOk, norm, norms, norm1, normL, pureB, pureL, onesB, snapV, snapOk, specV, argsL, capsL, mkE_S, mkE_G, lkp, subFr, subV, subBx, subStk, elemsV, popTo, stkFr, vp_bool, vp_cons, vp_tup, vp_view, vp_viewn, vsubP_self, Val.toInt, ↓reduceIte, reduceCtorEq, Nat.reduceEqDiff, Nat.reduceAdd, Nat.reduceSub, Nat.reduceLeDiff, Nat.reduceLT, Nat.zero_add, List.length_cons, List.length_nil, List.append_nil, List.flatMap_cons, List.flatMap_nil, Bool.not_eq_true', Bool.not_eq_false', Bool.and_self, and_true, true_and, and_self, and_assoc, forall_const, imp_self, implies_true, Nat.le_refl, decide_eq_true_eq, decide_eq_false_iff_not, Val.bool.injEq, or_false, maxLen, Nat.reducePow, keepF, appF, updB, inat, Prod.eta, Sp.c0, Sp.c1, Sp.w_c, Sp.eta, Sr.c0, Sr.c1, Sr.c2, Sr.c3, Sr.w_c, Sr.eta, Tl.c0, Tl.c1, Tl.c2, Tl.c3, Tl.c4, Tl.eta, Ck.eta]
  refine ⟨fun hlt => ⟨by omega, by omega, hc, hd, fun h1 => ?_, fun h1 => ⟨by omega, by omega, inv_intro (j + 1) ⟨by omega, fun i hi => ?_⟩ (by omega) ?_⟩⟩, fun hge => ?_⟩
  · have h2 : toldB k.ck l = false := @decide_eq_false _ (Classical.propDecidable _) fun h => of_decide_eq_false h1 (h j (by omega))
    unfold toldL; rw [h2]; exact ⟨rfl, rfl⟩
  · rcases Nat.lt_or_ge i j with h5 | h5
    · exact hj2 i h5
    · obtain rfl : i = j := by omega
      exact of_decide_eq_true h1
  · rw [tellG_ok (of_decide_eq_true h1)]
    simp only [Chk, chkFr, chkBx, chkBx1, newIn, hasB, idsLt, kept, vs_int, vs_nil, vs_own, vs_ptr, vs_cons, vs_view, Nat.lt_irrefl, fget, isLB, bget, vsubP_self, ↓reduceIte, reduceCtorEq, Nat.reduceEqDiff, Nat.reduceLT, and_true, true_and, and_self, forall_const, implies_true, Option.some.injEq, Val.int.injEq, exists_eq', false_implies, or_false]
    rw [wrS (by omega)]
    refine ⟨rfl, fun i hi j' hj' => ?_⟩
    split
    · exact (vsubP_self _).mpr trivial
    · obtain rfl : i = j := by omega
      rw [Nat.sub_self]
      obtain rfl | rfl : j' = 0 ∨ j' = 1 := by omega
      · rfl
      · rfl
  · obtain rfl : j = l.1 := by omega
    have h2 : toldB k.ck l = true := @decide_eq_true _ (Classical.propDecidable _) hj2
    unfold toldL; rw [h2]
    refine ⟨rfl, ?_, rfl⟩
    intro i _ j' _; exact (vsubP_self _).mpr trivial
noncomputable def heardE (c : Ck) (day : Int) (l : Tls) : Int := if askE c day ≠ 0 then askE c day else tlsE c l
noncomputable def heardL (c : Ck) (day : Int) (l : Tls) : Nat × (Nat → Sp) := if heardE c day l = 0 then (l.1, fun i => tellF c day (l.2 i)) else (0, fun _ => ⟨0, 0⟩)
noncomputable def sHeard : Spec := spec3 TCk TI (TSl RTl) (fun _ _ _ => True) fun c day l => .tup (.cons (.view 2 (heardL c day l).1 fun i j => ((heardL c day l).2 i).c j) (.cons (.int .i64 (heardE c day l)) .nil))
set_option maxRecDepth 100000 in
theorem pHeard (pTellP : PureOk Tryd.prog NG 54 sTellP) : PureOk Tryd.prog NG 67 sHeard := by
  refine fn3 (S := [(53, sOpen), (92, sTold)]) (I := []) mixed (.cons pOpen (.cons (pTold pTellP) .nil)) .nil Tryd.func67 c67 fun c day l _ hw => ?_
  simp only [vl, WfT, Val.toInt, Val.slen, Val.scell, Nat.reduceSub, and_true, true_and, and_self, and_assoc, maxLen, Nat.reducePow, TSl, TInt, RSp, Sp.d, RSr, Sr.d, RTl, Tl.d, Ck.L, TCk] at hw
  obtain ⟨w1, w2, w3⟩ := hw
  simp only [RunTo, a67, sOpen, sTold, w1, w2, w3, runO_3, runO_4, runO_5, runO_6, runO_8, runO_14, runO_17, runO_18, runO_19, aop, binV, ends, reOk, Nat.zero_sub, ev, fget, fput, params, cellsOf, cellsN, isLB, vget, vset, vsets, vlen, bget, bset, addB, addN, mkv, sliceV, vtab, frz, opOwns, preFz, callFz, skipOp, WfT, resV, resL, res1, norm, norms, norm1, normL, pureB, pureL, onesB, snapV, snapOk, specV, argsL, capsL, mkE_S, lkp, lenV, Fin, vp_int, vp_cons, vp_tup, vp_view, vp_viewn, vsubP_self, Val.toInt, Val.slen, Val.scell, ↓reduceIte, reduceCtorEq, Nat.reduceEqDiff, Nat.reduceAdd, Nat.reduceSub, Nat.reduceLT, Nat.zero_add, beq_iff_eq, beq_eq_false_iff_ne, bne_iff_ne, bne_eq_false_iff_eq, List.length_cons, List.length_nil, List.append_nil, Bool.not_eq_true', Bool.not_eq_false', Bool.and_self, and_true, true_and, and_self, and_assoc, forall_const, imp_self, implies_true, Nat.le_refl, decide_eq_true_eq, decide_eq_false_iff_not, Val.int.injEq, ne_eq, maxLen, Nat.reducePow, spec2, TSl, IsSl, TInt, IsInt, Prod.eta, Sp.c0, Sp.c1, RSp, Sp.w_c, Sp.d, Sp.eta, Sr.c0, Sr.c1, Sr.c2, Sr.c3, RSr, Sr.w_c, Sr.d, Sr.eta, Tl.c0, Tl.c1, Tl.c2, Tl.c3, Tl.c4, RTl, Tl.w_c, Tl.d, Tl.eta, Ck.L, Ck.Is, Ck.of, TCk, Ck.d, Ck.eta, Kp.L, Kp.Is, Kp.of, TKp, Kp.d]
  rintro ⟨v1, v2⟩ _ _
  have e0 : toldB (if askE c day = 0 then c else ck0) l = true ∨ toldB (if askE c day = 0 then c else ck0) l = false := by cases toldB (if askE c day = 0 then c else ck0) l <;> simp
  refine ⟨fun h => by simp [heardL, heardE, h], fun h => ?_⟩
  obtain ⟨hc, hd⟩ := askE_0 h
  have hE : heardE c day l = tlsE c l := by simp [heardE, h]
  unfold heardL
  rw [hE]
  simp only [h, if_true] at e0 ⊢
  refine ⟨fun h2 => ?_, fun h2 _ => ⟨hc, hd, by omega, ?_⟩⟩
  · have : tlsE c l = 4 := by unfold tlsE; rw [if_pos (by omega)]
    simp [this]
  have h10 : ¬ 10 < l.1 := by omega
  intro _ _ _ _
  have hB : toldB c l = @decide (AllOk c l) (Classical.propDecidable _) := rfl
  refine ⟨fun h3 => ?_, fun h3 _ => ⟨fun h4 => ?_, fun h4 _ _ => ?_⟩⟩
  · have : tlsE c l = 31 := by unfold tlsE; rw [if_neg h10, ← hB, if_pos h3]
    simp [this]
  · unfold toldL at h4
    rw [h3] at h4
    simp at h4
    have : tlsE c l = 6 := by unfold tlsE; rw [if_neg h10, ← hB, if_neg (by simp [h3]), if_pos h4]
    simp [this]
  · unfold toldL at h4
    rw [h3] at h4
    simp at h4
    have : tlsE c l = 0 := by unfold tlsE; rw [if_neg h10, ← hB, if_neg (by simp [h3]), if_neg h4]
    unfold toldL
    simp only [this, h3, if_true, true_and, and_true]
    intro i _ j _; exact (vsubP_self _).mpr trivial
theorem heardE_0 {c : Ck} {day : Int} {l : Tls} (h : heardE c day l = 0) : askE c day = 0 ∧ tlsE c l = 0 := by
  unfold heardE at h
  by_cases h1 : askE c day = 0
  · simp [h1] at h; exact ⟨h1, h⟩
  · simp [h1] at h
theorem allF_cuts {c : Ck} {day : Int} {l : Nat → Tl} {n : Nat} (hc : CkOk c) (hd : DayOk day) (ha : ∀ i, i < n → TlOk c (l i)) (hn : 0 < n) : ∀ k, k < n → allF c day l (k + 1) = cutsF (tellF c day (l 0)) (fun i => tellF c day (l i)) (k + 1) := by
  intro k; induction k with
  | zero =>
    intro _
    have h2 := (spfit_tell hc hd (ha 0 hn)).2
    simp only [allF, cutsF, cutF, wideF]
    rw [Sp.mk.injEq]
    omega
  | succ k ih =>
    intro hk
    show cutF (allF c day l (k + 1)) _ = cutF (cutsF _ _ (k + 1)) _
    rw [ih (by omega)]
noncomputable def sMoment : Spec := spec3 TCk TI (TSl RTl) (fun _ _ _ => True) fun c day l => .tup (.cons (.agg (if (thF c day l).2 = 0 then (thF c day l).1 else ⟨1, 0⟩).L) (.cons (.int .i64 (thF c day l).2) .nil))
set_option maxRecDepth 100000 in
theorem pMoment (pTellP : PureOk Tryd.prog NG 54 sTellP) : PureOk Tryd.prog NG 59 sMoment := by
  refine fn3 (S := [(67, sHeard), (68, sCommon)]) (I := []) mixed (.cons (pHeard pTellP) (.cons pCommon .nil)) .nil Tryd.func59 c59 fun c day l _ hw => ?_
  simp only [vl, WfT, Val.toInt, Val.slen, Val.scell, Nat.reduceSub, and_true, true_and, and_self, and_assoc, maxLen, Nat.reducePow, TSl, TInt, RSp, Sp.d, RSr, Sr.d, RTl, Tl.d, Ck.L, TCk] at hw
  obtain ⟨w1, w2, w3⟩ := hw
  simp only [RunTo, a59, sHeard, sCommon, NG_0, w1, w2, w3, runO_3, runO_4, runO_5, runO_14, runO_17, runO_18, runO_19, aop, binV, ends, reOk, Nat.zero_sub, ev, fget, fput, params, cellsOf, cellsN, isLB, vget, vset, vsets, vlen, bget, bset, addB, addN, mkv, sliceV, vtab, frz, opOwns, preFz, callFz, skipOp, WfT, resV, resL, res1, casts, castOks, cast1, castOk, norm, norms, norm1, normL, pureB, pureL, onesB, snapV, snapOk, specV, argsL, capsL, mkE_S, mkE_G, lkp, eqCells, eqOk, Fin, vp_int, vp_cons, vp_agg, vp_tup, vsubP_self, Val.toInt, Val.slen, Val.scell, ↓reduceIte, reduceCtorEq, Nat.reduceEqDiff, Nat.reduceAdd, Nat.reduceSub, Nat.reduceLT, Nat.zero_add, Int.reduceToNat, Int.reduceLE, bne_iff_ne, bne_eq_false_iff_eq, List.length_cons, List.length_nil, List.append_nil, Bool.and_true, Bool.and_self, and_true, true_and, and_self, and_assoc, forall_const, imp_self, implies_true, Nat.le_refl, Val.int.injEq, ne_eq, maxLen, Nat.reducePow, spec2, spec3, TSl, IsSl, TInt, IsInt, Prod.eta, Sp.L, Sp.c0, Sp.c1, Sp.Is, Sp.of, TSp, RSp, Sp.w_c, Sp.d, Sp.eta, Sr.c0, Sr.c1, Sr.c2, Sr.c3, RSr, Sr.w_c, Sr.d, Sr.eta, Tl.c0, Tl.c1, Tl.c2, Tl.c3, Tl.c4, RTl, Tl.w_c, Tl.d, Tl.eta, Ck.L, Ck.Is, Ck.of, TCk, Ck.d, Ck.eta]
  intro _ _ _ _
  refine ⟨fun h => ?_, fun h _ => ?_⟩
  · have : thF c day l = (⟨0, 0⟩, heardE c day l) := by
      unfold thF heardE
      by_cases h1 : askE c day = 0
      · have h2 : ¬ tlsE c l = 0 := fun h2 => h (by simp [heardE, h1, h2])
        simp [h1, h2]
      · simp [h1]
    simp [this, h]
  obtain ⟨h1, h2⟩ := heardE_0 h
  obtain ⟨hc, hd⟩ := askE_0 h1
  obtain ⟨h0, h10, ha⟩ := tlsE_0 h2
  have hL : heardL c day l = (l.1, fun i => tellF c day (l.2 i)) := by unfold heardL; rw [if_pos h]
  have hcut := allF_cuts hc hd ha h0 (l.1 - 1) (by omega)
  rw [show l.1 - 1 + 1 = l.1 from by omega] at hcut
  have hcom : comF (tellF c day (l.2 0)) (l.1, fun i => tellF c day (l.2 i)) = if (allF c day l.2 l.1).lo ≤ (allF c day l.2 l.1).hi then allF c day l.2 l.1 else ⟨1, 0⟩ := by
    unfold comF; rw [hcut]
  have hth : thF c day l = if (allF c day l.2 l.1).lo > (allF c day l.2 l.1).hi then (⟨0, 0⟩, 32) else (allF c day l.2 l.1, 0) := by unfold thF; simp [h1, h2]
  rw [hL]
  simp only [hcom]
  by_cases h4 : (allF c day l.2 l.1).lo ≤ (allF c day l.2 l.1).hi
  · rw [if_neg (by omega)] at hth
    simp only [hth, if_pos h4, if_true, and_true]
    refine ⟨by omega, fun _ => ⟨fun h3 => ?_, fun _ => trivial⟩⟩
    simp at h3; omega
  · rw [if_pos (by omega)] at hth
    simp only [hth, if_neg h4]
    refine ⟨by omega, fun _ => ⟨fun _ => by simp, fun h3 => ?_⟩⟩
    simp at h3
set_option maxRecDepth 100000 in
theorem pTellAP (pTellP : PureOk Tryd.prog NG 54 sTellP) : PureOk Tryd.prog NG 17 sTellA := by
  refine fn3 (S := [(53, sOpen), (54, sTellP), (55, sMinsP)]) (I := []) mixed (.cons pOpen (.cons pTellP (.cons pMinsP .nil))) .nil Tryd.func17 c17 fun c day t _ hw => ?_
  simp only [vl, WfT, Val.toInt, Nat.reduceSub, and_true, and_self, maxLen, Nat.reducePow, TInt, RSp, Sp.d, RSr, Sr.d, Tl.L, TTl, Ck.L, TCk] at hw
  obtain ⟨w1, w2⟩ := hw
  simp only [RunTo, a17, sOpen, sTellP, sMinsP, w1, w2, runO_3, runO_4, runO_5, runO_14, runO_17, runO_18, runO_19, aop, binV, ends, reOk, Nat.zero_sub, ev, fget, fput, params, cellsOf, cellsN, isLB, vget, vset, vsets, vlen, bget, bset, addB, addN, mkv, sliceV, vtab, fillV, fillOk, frz, opOwns, preFz, callFz, skipOp, WfT, resV, resL, res1, norm, norms, norm1, normL, pureB, pureL, onesB, snapV, snapOk, specV, argsL, capsL, mkE_S, lkp, Fin, vp_int, vp_cons, vp_agg, vp_tup, vsubP_self, Val.toInt, Val.slen, Val.scell, ↓reduceIte, reduceCtorEq, Nat.reduceEqDiff, Nat.reduceAdd, Nat.reduceSub, Nat.reduceLT, Nat.zero_add, bne_iff_ne, bne_eq_false_iff_eq, List.length_cons, List.length_nil, List.append_nil, Bool.not_eq_true', Bool.not_eq_false', Bool.and_self, and_true, true_and, and_self, and_assoc, forall_const, imp_self, implies_true, Nat.le_refl, Val.int.injEq, ne_eq, maxLen, Nat.reducePow, spec1, spec2, TInt, IsInt, Prod.eta, Sp.L, Sp.c0, Sp.c1, Sp.Is, Sp.of, TSp, RSp, Sp.w_c, Sp.d, Sp.eta, Sr.c0, Sr.c1, Sr.c2, Sr.c3, RSr, Sr.w_c, Sr.d, Sr.eta, Tl.L, Tl.Is, Tl.of, TTl, Tl.d, Tl.eta, Ck.L, Ck.Is, Ck.of, TCk, Ck.d, Ck.eta, Kp.L, Kp.Is, Kp.of, TKp, Kp.d]
  rintro ⟨v1, v2⟩ _ _
  refine ⟨fun h => by simp [tellA, h], fun h => ?_⟩
  obtain ⟨h3, h4⟩ := askE_0 h
  simp only [h, if_true]
  refine fun _ => ⟨h3, h4, fun h2 => by simp [tellA, h, of_decide_eq_false h2], fun h2 => ?_⟩
  have h2 := of_decide_eq_true h2
  rw [tellG_ok h2]
  exact ⟨(spfit_tell h3 h4 h2).1, by simp [tellA, h, h2]⟩
set_option maxRecDepth 100000 in
theorem pAllAP (pTellP : PureOk Tryd.prog NG 54 sTellP) : PureOk Tryd.prog NG 19 sAllA := by
  refine fn3 (S := [(59, sMoment), (55, sMinsP)]) (I := []) mixed (.cons (pMoment pTellP) (.cons pMinsP .nil)) .nil Tryd.func19 c19 fun c day l _ hw => ?_
  simp only [vl, WfT, Val.toInt, Val.slen, Val.scell, Nat.reduceSub, and_true, true_and, and_self, and_assoc, maxLen, Nat.reducePow, TSl, TInt, RSp, Sp.d, RSr, Sr.d, RTl, Tl.d, Ck.L, TCk] at hw
  obtain ⟨w1, w2, w3⟩ := hw
  simp only [RunTo, a19, sMoment, sMinsP, w1, w2, w3, runO_3, runO_4, runO_5, runO_14, runO_17, runO_18, runO_19, aop, binV, ends, reOk, Nat.zero_sub, ev, fget, fput, params, cellsOf, cellsN, isLB, vget, vset, vsets, vlen, bget, bset, addB, addN, mkv, sliceV, vtab, fillV, fillOk, frz, opOwns, preFz, callFz, skipOp, WfT, resV, resL, res1, norm, norms, norm1, normL, pureB, pureL, onesB, snapV, snapOk, specV, argsL, capsL, mkE_S, lkp, Fin, vp_int, vp_cons, vp_agg, vp_tup, vsubP_self, Val.toInt, Val.slen, Val.scell, ↓reduceIte, reduceCtorEq, Nat.reduceEqDiff, Nat.reduceAdd, Nat.reduceSub, Nat.reduceLT, Nat.zero_add, bne_iff_ne, bne_eq_false_iff_eq, List.length_cons, List.length_nil, List.append_nil, Bool.and_self, and_true, true_and, and_self, and_assoc, forall_const, imp_self, implies_true, Nat.le_refl, Val.int.injEq, ne_eq, maxLen, Nat.reducePow, spec1, spec3, TSl, IsSl, TInt, IsInt, Prod.eta, Sp.L, Sp.c0, Sp.c1, Sp.Is, Sp.of, TSp, RSp, Sp.w_c, Sp.d, Sp.eta, Sr.c0, Sr.c1, Sr.c2, Sr.c3, RSr, Sr.w_c, Sr.d, Sr.eta, Tl.c0, Tl.c1, Tl.c2, Tl.c3, Tl.c4, RTl, Tl.w_c, Tl.d, Tl.eta, Ck.L, Ck.Is, Ck.of, TCk, Ck.d, Ck.eta]
  refine ⟨fun h => by simp [h], fun h => ?_⟩
  obtain ⟨p1, p2, p3, p4, p5, p6, p7⟩ := thF_0 h
  have := allF_bd p1 p2 p3 l.1 (Nat.le_refl _)
  simp only [h, if_true, and_true]
  rw [p6]; unfold SpFit Fit; omega
set_option maxRecDepth 100000 in
theorem pBefP (pTellP : PureOk Tryd.prog NG 54 sTellP) : PureOk Tryd.prog NG 26 sBefR := by
  refine fn4 (S := [(59, sMoment)]) (I := []) mixed (.cons (pMoment pTellP) .nil) .nil Tryd.func26 c26 fun c day a b _ hw => ?_
  simp only [vl, WfT, Val.toInt, Val.slen, Val.scell, Nat.reduceSub, and_true, true_and, and_self, and_assoc, maxLen, Nat.reducePow, TSl, TInt, RSp, Sp.d, RSr, Sr.d, RTl, Tl.d, Ck.L, TCk] at hw
  obtain ⟨w1, w2, w3, w4⟩ := hw
  simp only [RunTo, a26, sMoment, w1, w2, w3, w4, runO_3, runO_4, runO_5, runO_6, runO_8, runO_14, runO_17, runO_18, runO_19, aop, binV, ends, reOk, Nat.zero_sub, ev, fget, fput, params, cellsOf, cellsN, isLB, vget, vset, vsets, vlen, bget, bset, addB, addN, mkv, sliceV, vtab, frz, opOwns, preFz, callFz, skipOp, WfT, resV, resL, res1, norm, norms, norm1, normL, pureB, pureL, onesB, snapV, snapOk, specV, argsL, capsL, mkE_S, lkp, Fin, vp_int, vp_cons, vp_tup, vsubP_self, Val.toInt, Val.slen, Val.scell, ↓reduceIte, reduceCtorEq, Nat.reduceEqDiff, Nat.reduceAdd, Nat.reduceSub, Nat.reduceLeDiff, Nat.reduceLT, Nat.zero_add, Nat.add_zero, Nat.mul_one, Int.reduceToNat, Int.cast_ofNat_Int, Int.reduceLT, Int.reduceLE, bne_iff_ne, bne_eq_false_iff_eq, List.length_cons, List.length_nil, List.append_nil, Bool.and_self, and_true, true_and, and_self, and_assoc, forall_const, imp_self, implies_true, Nat.le_refl, decide_eq_true_eq, decide_eq_false_iff_not, Val.int.injEq, ne_eq, maxLen, Nat.reducePow, spec3, TSl, IsSl, TInt, IsInt, Prod.eta, Sp.L, Sp.c0, Sp.c1, RSp, Sp.w_c, Sp.d, Sp.eta, Sr.c0, Sr.c1, Sr.c2, Sr.c3, RSr, Sr.w_c, Sr.d, Sr.eta, Tl.c0, Tl.c1, Tl.c2, Tl.c3, Tl.c4, RTl, Tl.w_c, Tl.d, Tl.eta, Ck.L, Ck.Is, Ck.of, TCk, Ck.d, Ck.eta]
  refine ⟨fun h => by simp [befF, h], fun h => ⟨fun h2 => by simp [befF, h, h2], fun h2 => ?_⟩⟩
  simp only [h, h2, if_true]
  unfold befF
  refine ⟨fun h3 => by simp [h, h2, h3], fun h3 => ⟨fun h4 => ?_, fun h4 => ?_⟩⟩
  · simp only [h, h2, ne_eq, not_true_eq_false, if_false, if_neg h3, if_pos h4, and_self]
  · simp only [h, h2, ne_eq, not_true_eq_false, if_false, if_neg h3, if_neg h4, and_self]
end Go.Proofs.YtbhhcnonooiokaaDoor
