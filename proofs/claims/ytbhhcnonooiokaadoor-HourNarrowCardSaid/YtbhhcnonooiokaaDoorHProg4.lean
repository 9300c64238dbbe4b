/- Hours, the program: tells, and tell. No condition but lengths. -/
import Derived.Test.YtbhhcnonooiokaaDoorHProg3
set_option linter.unusedSimpArgs false
set_option linter.unusedVariables false
namespace Go.Proofs.YtbhhcnonooiokaaDoor
open Go Go.RowKit
variable {G : Nat → Option (Nat × (Nat → Val))}
def kpV (k : Kp) : Val := .vptr 7 fun j => vget k.L j
def mkV (k : Kp) : Val := .vptr 1 fun j => vget (.cons (.func (.func 101) (.cons (kpV k) .nil)) .nil) j
def tellsH (j : Int) : Bool := if j = 4 then true else if j = 3 then true else if j = 2 then true else if j = 1 then true else false
def tellsV (k : Kp) (j : Int) : Val := if j = 4 then .func (.func 105) .nil else if j = 3 then .func (.func 104) (.cons (kpV k) .nil) else if j = 2 then .func (.func 103) (.cons (kpV k) (.cons (mkV k) .nil)) else if j = 1 then .func (.func 102) (.cons (mkV k) .nil) else .und
def sTells : Spec := spec1 TKp (fun _ => True) fun k => .mview .u8 tellsH (tellsV k)
set_option maxRecDepth 100000 in
theorem pTells : PureOk Tryd.prog G 85 sTells := by
  refine fn1 (S := []) (I := []) mixed .nil .nil Tryd.func85 c85 fun k _ hw => ?_
  simp only [vl, WfT, Val.toInt, Nat.reduceSub, and_true, and_self, maxLen, Nat.reducePow, RSp, Sp.d, RSr, Sr.d, Kp.L, TKp] at hw
  simp only [RunTo, a85, noIt, runO_3, runO_5, runO_17, runO_18, runO_19, aop, ends, reOk, Nat.zero_sub, ev, evs, fget, fput, params, cellsOf, cellsN, isLB, vset, vsets, vlen, bget, bset, addB, addN, frz, opOwns, preFz, skipOp, WfT, resV, res1, onesB, snapV, snapOk, pickV, Fin, vp_mview, Val.toInt, ↓reduceIte, Nat.reduceEqDiff, Nat.reduceAdd, Nat.zero_add, Bool.and_self, true_and, and_self, forall_const, Nat.le_refl, decide_eq_true_eq, RSp, Sp.d, RSr, Sr.d, Kp.L, TKp]
  have cs : ∀ j : Int, j = 4 ∨ j = 3 ∨ j = 2 ∨ j = 1 ∨ (¬ j = 4 ∧ ¬ j = 3 ∧ ¬ j = 2 ∧ ¬ j = 1) := fun j => by omega
  refine ⟨fun j => ?_, fun j => ⟨rfl, ?_⟩⟩
  · rcases cs j with rfl | rfl | rfl | rfl | ⟨h4, h3, h2, h1⟩
    iterate 4 simp only [bget, snapOk, ↓reduceIte, reduceCtorEq, Nat.reduceEqDiff, Nat.reduceAdd, Int.reduceEq, Bool.and_self, forall_const]
    simp only [h4, h3, h2, h1, snapOk, ↓reduceIte, Bool.false_eq_true, implies_true]
  · rcases cs j with rfl | rfl | rfl | rfl | ⟨h4, h3, h2, h1⟩
    iterate 4 simp only [tellsV, tellsH, kpV, mkV, vlen, bget, snapV, vsubP_self, Val.toInt, ↓reduceIte, reduceCtorEq, Nat.reduceEqDiff, Nat.reduceAdd, Nat.zero_add, Nat.sub_zero, Int.reduceEq, forall_const, RSp, Sp.d, RSr, Sr.d, Kp.L]
    simp only [tellsH, h4, h3, h2, h1, snapV, ↓reduceIte, Bool.false_eq_true, false_implies]
set_option maxRecDepth 100000 in
theorem pTellP : PureOk Tryd.prog NG 54 sTellP := by
  refine fn2 (S := [(85, sTells), (78, sIn), (94, sOf), (62, sMinute)]) (I := [(101, a101), (102, a102), (103, a103), (104, a104), (105, a105)]) mixed (.cons pTells (.cons pIn (.cons pOf (.cons pMinute .nil)))) (.cons Tryd.func101 c101 (.cons Tryd.func102 c102 (.cons Tryd.func103 c103 (.cons Tryd.func104 c104 (.cons Tryd.func105 c105 .nil))))) Tryd.func54 c54 fun k t hp hw => ?_
  obtain ⟨hc, hd⟩ := hp
  simp only [vl, WfT, Val.toInt, Nat.reduceSub, and_true, and_self, maxLen, Nat.reducePow, RSp, Sp.d, RSr, Sr.d, Tl.L, TTl, Kp.L, TKp] at hw
  obtain ⟨w1, w2⟩ := hw
  have cs : t.kind = 4 ∨ t.kind = 3 ∨ t.kind = 2 ∨ t.kind = 1 ∨ (¬ t.kind = 4 ∧ ¬ t.kind = 3 ∧ ¬ t.kind = 2 ∧ ¬ t.kind = 1) := by omega
  have hG4 : t.kind = 4 → tellG k.ck k.day t = ofF t.word := fun h => by unfold tellG; rw [if_pos h]
  have hno : ¬ t.kind = 4 → ¬ TlOk k.ck t → 1 = (tellG k.ck k.day t).lo ∧ 0 = (tellG k.ck k.day t).hi ∧ false = decide (TlOk k.ck t) := fun h h2 => by
    unfold tellG; rw [if_neg h, if_neg h2]; exact ⟨rfl, rfl, (decide_eq_false h2).symm⟩
  have hn := hc.nm
  have hs := hc.ns
  have em : IntKind.i64.wrap ((k.ck.mrk.1 : Int) - 1) = (k.ck.mrk.1 : Int) - 1 := wr64 (by omega) (by omega)
  have es : IntKind.i64.wrap ((k.ck.str.1 : Int) - 1) = (k.ck.str.1 : Int) - 1 := wr64 (by omega) (by omega)
  rcases cs with h | h | h | h | ⟨h4, h3, h2, h1⟩
  · simp only [RunTo, a54, a105, sTells, sOf, sMinute, tellsV, tellsH, h, ↓imp_ft, ↓imp_ff, runO_3, runO_4, runO_5, runO_14, runO_17, runO_18, runO_19, aop, ends, reOk, Nat.zero_sub, ev, fget, fput, params, cellsOf, cellsN, isLB, vget, vset, vsets, vlen, bget, bset, addB, addN, mkv, sliceV, vtab, frz, opOwns, preFz, callFz, skipOp, WfT, resV, resL, res1, norm, norms, norm1, normL, pureB, pureL, onesB, snapV, snapOk, specV, argsL, capsL, mkE_S, mkE_I, lkp, pickV, mgetV, Fin, vp_int, vp_bool, vp_cons, vp_agg, vp_tup, vsubP_self, Val.toInt, Val.slen, Val.scell, ↓reduceIte, reduceCtorEq, Nat.reduceEqDiff, Nat.reduceAdd, Nat.reduceLeDiff, Nat.reduceLT, Nat.zero_add, Nat.add_zero, Int.reduceNeg, List.length_cons, List.length_nil, List.append_nil, Bool.and_self, Bool.not_true, and_true, true_and, and_self, and_assoc, forall_const, imp_self, implies_true, Nat.le_refl, Val.int.injEq, Val.bool.injEq, spec1, Prod.eta, Sp.L, Sp.c0, Sp.c1, Sp.Is, Sp.of, TSp, RSp, Sp.w_c, Sp.d, Sp.eta, Sr.c0, Sr.c1, Sr.c2, Sr.c3, RSr, Sr.w_c, Sr.d, Sr.eta, Tl.L, TTl, Ck.eta, Kp.L, Kp.Is, Kp.of, TKp, Kp.d, Kp.eta]
    rw [hG4 h]
    refine ⟨rfl, rfl, decide_eq_decide.2 ?_⟩
    unfold TlOk SpIn; omega
  · simp only [RunTo, a54, a104, sTells, sOf, sIn, tellsV, tellsH, kpV, h, w2, NG_0, es, flatO, ↓imp_tt, ↓imp_tf, ↓imp_ft, ↓imp_ff, runO_3, runO_4, runO_5, runO_14, runO_17, runO_18, runO_19, aop, binV, ends, reOk, Nat.zero_sub, ev, fget, fput, params, cellsOf, cellsN, isLB, vget, vset, vsets, vlen, bget, bset, addB, addN, mkv, sliceV, vtab, fillV, fillOk, rowsV, rowsOk, vrep, frz, opOwns, preFz, callFz, owns, skipOp, WfT, resV, resL, res1, casts, castOks, cast1, castOk, norm, norms, norm1, normL, pureB, pureL, flatB, onesB, snapV, snapOk, snapL, snapOks, specV, argsL, capsL, mkE_S, mkE_I, mkE_G, lkp, pickV, mgetV, lenV, Fin, vp_int, vp_bool, vp_cons, vp_agg, vp_tup, vsubP_self, Val.toInt, Val.slen, Val.scell, ↓reduceIte, reduceCtorEq, Nat.reduceEqDiff, Nat.reduceAdd, Nat.reduceSub, Nat.reduceLeDiff, Nat.reduceLT, Nat.zero_add, Nat.add_zero, Nat.mul_one, Nat.sub_zero, Int.reduceToNat, Int.cast_ofNat_Int, Int.reduceLT, Int.reduceLE, Int.reduceEq, List.length_cons, List.length_nil, List.nil_append, List.cons_append, List.append_nil, List.flatMap_cons, List.flatMap_nil, Bool.not_eq_true', Bool.not_eq_false', Bool.and_true, Bool.and_false, Bool.and_self, Bool.bne_false, bne_self_eq_false, Bool.not_true, and_true, true_and, and_self, and_assoc, forall_const, imp_self, implies_true, Nat.le_refl, Val.int.injEq, Val.bool.injEq, or_true, maxLen, Nat.reducePow, spec1, spec3, TSl, IsSl, TInt, IsInt, RInt, Prod.eta, Sp.L, Sp.c0, Sp.c1, Sp.Is, Sp.of, TSp, RSp, Sp.w_c, Sp.d, Sp.eta, Sr.c0, Sr.c1, Sr.c2, Sr.c3, RSr, Sr.w_c, Sr.d, Sr.eta, Tl.L, TTl, Ck.eta, Kp.L, Kp.Is, Kp.of, TKp, Kp.d, Kp.eta]
    simp only [lt1, allB_1, vget, true_and, decide_eq_true_eq, decide_eq_false_iff_not]
    refine ⟨fun h1 => hno (by omega) (by unfold TlOk; omega), fun h1 => ⟨fun h2 => hno (by omega) (by unfold TlOk; omega), fun h2 => ?_⟩⟩
    have ht : TlOk k.ck t := by unfold TlOk; omega
    have h8 := spin_of (hc.sr t.which.toNat (by omega)).1
    have h9 := spin_of (hc.sr t.which.toNat (by omega)).2
    have hh2 := spin_of hc.hand
    unfold DayOk at hd
    have m1 := mul_le k.day (k.ck.str.2 t.which.toNat).shift.hi 100000 10000 (by omega) (by omega) (by omega) (by omega)
    have m2 := mul_le k.day (k.ck.str.2 t.which.toNat).shift.lo 100000 10000 (by omega) (by omega) (by omega) (by omega)
    have m3 := mul_le t.hands k.ck.hand.lo 20 60000 (by omega) (by omega) (by omega) (by omega)
    have m4 := mul_le t.hands k.ck.hand.hi 20 60000 (by omega) (by omega) (by omega) (by omega)
    rw [tellG_ok ht]
    have e : tellF k.ck k.day t = ⟨1000 * (k.ck.str.2 t.which.toNat).rise.lo - k.day * (k.ck.str.2 t.which.toNat).shift.hi + t.hands * k.ck.hand.lo, 1000 * (k.ck.str.2 t.which.toNat).rise.hi - k.day * (k.ck.str.2 t.which.toNat).shift.lo + t.hands * k.ck.hand.hi⟩ := by simp [tellF, h]
    rw [e]
    simp only [ofF]
    simp (disch := omega) only [wr64]
    refine ⟨by omega, by omega, trivial, trivial, (decide_eq_true ht).symm⟩
  · simp only [RunTo, a54, a103, a101, sTells, sOf, sIn, tellsV, tellsH, kpV, mkV, h, w1, NG_0, em, flatO, ↓imp_ft, ↓imp_ff, runO_3, runO_4, runO_5, runO_14, runO_17, runO_18, runO_19, aop, binV, ends, reOk, Nat.zero_sub, ev, fget, fput, params, cellsOf, cellsN, isLB, vget, vset, vsets, vlen, bget, bset, addB, addN, mkv, sliceV, vtab, fillV, fillOk, rowsV, rowsOk, vrep, frz, opOwns, preFz, callFz, owns, skipOp, WfT, resV, resL, res1, casts, castOks, cast1, castOk, norm, norms, norm1, normL, pureB, pureL, flatB, onesB, snapV, snapOk, snapL, snapOks, specV, argsL, capsL, mkE_S, mkE_I, mkE_G, lkp, pickV, mgetV, lenV, Fin, vp_int, vp_bool, vp_cons, vp_agg, vp_tup, vsubP_self, Val.toInt, Val.slen, Val.scell, ↓reduceIte, reduceCtorEq, Nat.reduceEqDiff, Nat.reduceAdd, Nat.reduceSub, Nat.reduceLeDiff, Nat.reduceLT, Nat.zero_add, Nat.add_zero, Nat.sub_zero, Int.reduceEq, List.length_cons, List.length_nil, List.nil_append, List.cons_append, List.append_nil, List.flatMap_cons, List.flatMap_nil, Bool.not_eq_true', Bool.not_eq_false', Bool.and_true, Bool.and_false, Bool.and_self, Bool.not_true, and_true, true_and, and_self, and_assoc, forall_const, imp_self, implies_true, Nat.le_refl, decide_eq_true_eq, decide_eq_false_iff_not, Val.int.injEq, Val.bool.injEq, or_true, maxLen, Nat.reducePow, spec1, spec3, TSl, IsSl, TInt, IsInt, RInt, Prod.eta, Sp.L, Sp.c0, Sp.c1, Sp.Is, Sp.of, TSp, RSp, Sp.w_c, Sp.d, Sp.eta, Sr.c0, Sr.c1, Sr.c2, Sr.c3, RSr, Sr.w_c, Sr.d, Sr.eta, Tl.L, TTl, Ck.eta, Kp.L, Kp.Is, Kp.of, TKp, Kp.d, Kp.eta]
    simp only [lt2, allB_2, vget, true_and, and_self, and_assoc, decide_eq_true_eq, decide_eq_false_iff_not]
    refine ⟨fun h1 => hno (by omega) (by unfold TlOk; omega), fun h1 => ⟨fun h2 => ?_, fun h2 => ?_⟩⟩
    · refine hno (by omega) fun ht => h2 ?_
      have ht' : 0 ≤ t.which ∧ t.which + 1 < k.ck.mrk.1 := by unfold TlOk at ht; omega
      rw [wr64 (by omega) (by omega)]; omega
    · have e1 : IntKind.i64.wrap (t.which + 1) = t.which + 1 := wr64 (by omega) (by omega)
      rw [e1] at h2 ⊢
      have ht : TlOk k.ck t := by unfold TlOk; omega
      have h6 := spin_of (hc.mrk t.which.toNat (by omega))
      have h7 := spin_of (hc.mrk (t.which.toNat + 1) (by omega))
      rw [tellG_ok ht, show (t.which + 1).toNat = t.which.toNat + 1 from by omega]
      have e : tellF k.ck k.day t = ⟨1000 * (k.ck.mrk.2 t.which.toNat).lo, 1000 * (k.ck.mrk.2 (t.which.toNat + 1)).hi⟩ := by simp [tellF, h]
      rw [e, wr64 (by omega) (by omega), wr64 (by omega) (by omega)]
      exact ⟨by omega, by omega, by omega, by omega, rfl, rfl, (decide_eq_true ht).symm⟩
  · simp only [RunTo, a54, a102, a101, sTells, sOf, sIn, tellsV, tellsH, kpV, mkV, h, w1, NG_0, em, flatO, ↓imp_ft, ↓imp_ff, runO_3, runO_4, runO_5, runO_14, runO_17, runO_18, runO_19, aop, binV, ends, reOk, Nat.zero_sub, ev, fget, fput, params, cellsOf, cellsN, isLB, vget, vset, vsets, vlen, bget, bset, addB, addN, mkv, sliceV, vtab, fillV, fillOk, rowsV, rowsOk, vrep, frz, opOwns, preFz, callFz, owns, skipOp, WfT, resV, resL, res1, casts, castOks, cast1, castOk, norm, norms, norm1, normL, pureB, pureL, flatB, onesB, snapV, snapOk, snapL, snapOks, specV, argsL, capsL, mkE_S, mkE_I, mkE_G, lkp, pickV, mgetV, lenV, Fin, vp_int, vp_bool, vp_cons, vp_agg, vp_tup, vsubP_self, Val.toInt, Val.slen, Val.scell, ↓reduceIte, reduceCtorEq, Nat.reduceEqDiff, Nat.reduceAdd, Nat.reduceSub, Nat.reduceLeDiff, Nat.reduceLT, Nat.zero_add, Nat.add_zero, Nat.sub_zero, Int.reduceEq, List.length_cons, List.length_nil, List.nil_append, List.cons_append, List.append_nil, List.flatMap_cons, List.flatMap_nil, Bool.not_eq_true', Bool.not_eq_false', Bool.and_true, Bool.and_false, Bool.and_self, Bool.not_true, and_true, true_and, and_self, and_assoc, forall_const, imp_self, implies_true, Nat.le_refl, Val.int.injEq, Val.bool.injEq, or_true, maxLen, Nat.reducePow, spec1, spec3, TSl, IsSl, TInt, IsInt, RInt, Prod.eta, Sp.L, Sp.c0, Sp.c1, Sp.Is, Sp.of, TSp, RSp, Sp.w_c, Sp.d, Sp.eta, Sr.c0, Sr.c1, Sr.c2, Sr.c3, RSr, Sr.w_c, Sr.d, Sr.eta, Tl.L, TTl, Ck.eta, Kp.L, Kp.Is, Kp.of, TKp, Kp.d, Kp.eta]
    simp only [lt2, allB_2, vget, true_and, and_self, decide_eq_true_eq, decide_eq_false_iff_not]
    refine ⟨fun h2 => hno (by omega) (by unfold TlOk; omega), fun h2 => ?_⟩
    have ht : TlOk k.ck t := by unfold TlOk; omega
    have h6 := spin_of (hc.mrk t.which.toNat (by omega))
    rw [tellG_ok ht]
    have e : tellF k.ck k.day t = ⟨1000 * (k.ck.mrk.2 t.which.toNat).lo, 1000 * (k.ck.mrk.2 t.which.toNat).hi⟩ := by simp [tellF, h]
    rw [e, wr64 (by omega) (by omega), wr64 (by omega) (by omega)]
    exact ⟨by omega, by omega, by omega, by omega, rfl, rfl, (decide_eq_true ht).symm⟩
  · simp only [RunTo, a54, sTells, tellsV, tellsH, h4, h3, h2, h1, NG_0, ↓imp_tt, ↓imp_tf, runO_3, runO_5, runO_14, runO_17, runO_18, runO_19, aop, ends, reOk, Nat.zero_sub, ev, fget, fput, params, cellsOf, cellsN, isLB, vget, vset, vsets, vlen, bget, bset, addB, addN, mkv, sliceV, vtab, frz, opOwns, preFz, skipOp, WfT, resV, resL, res1, casts, castOks, cast1, castOk, norm, norms, norm1, normL, pureB, pureL, onesB, snapV, snapOk, specV, argsL, capsL, mkE_S, mkE_G, lkp, pickV, mgetV, Fin, vp_int, vp_bool, vp_cons, vp_agg, vp_tup, vsubP_self, Val.toInt, Val.slen, Val.scell, ↓reduceIte, reduceCtorEq, Nat.reduceEqDiff, Nat.reduceAdd, Nat.reduceLeDiff, Nat.reduceLT, Nat.zero_add, Nat.add_zero, List.length_cons, List.length_nil, List.append_nil, Bool.and_self, Bool.not_false, and_true, true_and, and_self, and_assoc, forall_const, imp_self, implies_true, Nat.le_refl, Val.int.injEq, Val.bool.injEq, spec1, Prod.eta, Sp.L, Sp.c0, Sp.c1, RSp, Sp.w_c, Sp.d, Sp.eta, Sr.c0, Sr.c1, Sr.c2, Sr.c3, RSr, Sr.w_c, Sr.d, Sr.eta, Tl.L, TTl, Ck.eta, Kp.L, Kp.Is, Kp.of, TKp, Kp.d, Kp.eta]
    exact hno h4 (by unfold TlOk; omega)
end Go.Proofs.YtbhhcnonooiokaaDoor
