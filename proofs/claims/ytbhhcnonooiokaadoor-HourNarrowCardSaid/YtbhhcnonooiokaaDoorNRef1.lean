/- Nights, the reference: changes, and how much later. No condition but sizes. -/
import Derived.Test.YtbhhcnonooiokaaDoorNMath
set_option linter.unusedSimpArgs false
set_option linter.unusedVariables false
namespace Go.Proofs.YtbhhcnonooiokaaDoor
open Go Go.RowKit
variable {G : Nat → Option (Nat × (Nat → Val))}
noncomputable def sChange : Spec := spec3 TCk TCh TBool (fun _ _ _ => True) fun c x f => .bool (chB c x f)
set_option maxRecDepth 100000 in
theorem pChange : PureOk Tryd.prog G 74 sChange := by
  refine fn3 (S := [(84, sWithin), (51, sTelling)]) (I := []) mixed (.cons pWithin (.cons pTelling .nil)) .nil Tryd.func74 c74 fun c x f _ hw => ?_
  simp only [vl, WfT, Val.toInt, Nat.reduceSub, and_true, and_self, and_assoc, maxLen, Nat.reducePow, TBool, RSp, Sp.d, RSr, Sr.d, RTl, Tl.d, Ch.L, TCh, Ck.L, TCk] at hw
  simp only [RunTo, a74, sWithin, sTelling, hw, ↓imp_tt, ↓imp_tf, ↓imp_ft, ↓imp_ff, runO_3, runO_4, runO_5, runO_6, runO_14, runO_15, runO_17, runO_18, runO_19, aop, binV, ends, Nat.zero_sub, ev, fget, fput, params, cellsOf, cellsN, isLB, vget, vlen, bget, addB, addN, mkv, sliceV, vtab, frz, opOwns, preFz, callFz, skipOp, WfT, resV, res1, norm, norm1, normL, pureB, pureL, snapV, snapOk, specV, argsL, capsL, mkE_S, lkp, pickV, lenV, Fin, vp_bool, Val.toInt, Val.slen, Val.scell, ↓reduceIte, reduceCtorEq, Nat.reduceEqDiff, Nat.reduceAdd, Nat.reduceSub, Nat.reduceLeDiff, Nat.zero_add, Nat.add_zero, bne_iff_ne, bne_eq_false_iff_eq, List.length_cons, List.length_nil, List.append_nil, Bool.not_eq_true', Bool.not_eq_false', Bool.and_self, Bool.bne_true, Bool.bne_false, bne_self_eq_false, Bool.not_false, and_true, true_and, and_self, and_assoc, forall_const, imp_self, implies_true, Nat.le_refl, decide_eq_true_eq, decide_eq_false_iff_not, Val.bool.injEq, ne_eq, maxLen, Nat.reducePow, spec2, spec3, TInt, IsInt, TBool, RSp, Sp.d, RSr, Sr.d, Tl.L, Tl.Is, Tl.of, TTl, RTl, Tl.d, Ch.L, TCh, Ck.L, Ck.Is, Ck.of, TCk, Ck.d]
  have no : ¬ ChOk c x f → false = chB c x f := fun h => (@decide_eq_false _ (Classical.propDecidable _) h).symm
  have lp : 0 ≤ x.bowls ∧ x.bowls ≤ 200 → ¬ (x.told.1 : Int) > 10 → (f = true → x.bowls = 0 ∧ x.full = true) → ∀ j : Nat, j ≤ x.told.1 → (∀ i < j, TlOk c (x.told.2 i)) → ¬ (j < x.told.1) → true = chB c x f := fun h1 h2 h3 j h4 h5 h6 => by
    obtain rfl : j = x.told.1 := by omega
    exact (chB_iff.2 ⟨by omega, h5, h1, h3⟩).symm
  obtain ⟨w1, w2, w3⟩ := hw
  refine ⟨fun h => no fun k => by have := k.1; omega, fun h1 => ⟨fun h => no fun k => h k.2.2.1, fun h2 => ⟨fun hf => ⟨fun h => no fun k => h (k.2.2.2 hf).1, fun h3 => ⟨fun h => no fun k => Bool.noConfusion ((k.2.2.2 hf).2.symm.trans h), fun h4 => ?_⟩⟩, fun hf => ?_⟩⟩⟩
  · refine loopI (ι := Nat) (fun j => j ≤ x.told.1 ∧ ∀ i < j, TlOk c (x.told.2 i)) (fun j => x.told.1 - j) [3, 4] (fun j => [(7, .int .i64 j)]) (fun _ => []) 0 ⟨by omega, fun i h => by omega⟩ (by simp only [Chk, chkFr, chkBx, chkBx1, hasB, idsLt, kept, vs_int, vs_bool, vs_nil, vs_ptr, vs_cons, vs_view, fget, isLB, bget, vsubP_self, ↓reduceIte, reduceCtorEq, Nat.reduceEqDiff, Nat.reduceLT, Int.cast_ofNat_Int, and_self, forall_const, implies_true, Option.some.injEq, exists_eq', keepF, appF, updB]; try rfl) fun j hj => ?_
    obtain ⟨hj1, hj2⟩ := hj
    simp only [w3, runO_3, runO_4, runO_5, runO_6, runO_8, runO_9, runO_14, runO_16, runO_17, runO_18, runO_19, aop, binV, ends, ev, fget, fput, isLB, vget, vlen, bget, addB, addN, mkv, sliceV, vtab, frz, opOwns, preFz, callFz, skipOp, WfT, resV, res1, casts, castOks, cast1, castOk, norm, norms, norm1, normL, pureB, pureL, snapV, snapOk, specV, argsL, capsL, mkE_S, lkp, lenV, popTo, stkFr, Val.toInt, ↓reduceIte, reduceCtorEq, Nat.reduceEqDiff, Nat.reduceAdd, Nat.reduceSub, Nat.reduceLeDiff, Nat.zero_add, Nat.add_zero, List.length_cons, List.length_nil, List.append_nil, Bool.not_eq_true', Bool.not_eq_false', Bool.and_self, true_and, and_self, and_assoc, forall_const, imp_self, implies_true, Nat.le_refl, decide_eq_true_eq, decide_eq_false_iff_not, Val.bool.injEq, maxLen, Nat.reducePow, keepF, appF, updB, inat, Prod.eta, Sp.c0, Sp.c1, Sp.w_c, Sp.eta, Sr.c0, Sr.c1, Sr.c2, Sr.c3, Sr.w_c, Sr.eta, Tl.c0, Tl.c1, Tl.c2, Tl.c3, Tl.c4, Tl.eta, Ck.eta]
    refine ⟨fun hlt => ⟨by omega, by omega, fun h => no fun k => of_decide_eq_false h (k.2.1 j (by omega)), fun h => inv_intro (j + 1) ⟨by omega, fun i hi => ?_⟩ (by omega) ?_⟩, fun hge => lp h2 h1 (fun _ => ⟨h3, h4⟩) j hj1 hj2 (by omega)⟩
    · rcases Nat.lt_or_ge i j with h5 | h5
      · exact hj2 i h5
      · obtain rfl : i = j := by omega
        exact of_decide_eq_true h
    · simp only [Chk, chkFr, chkBx, chkBx1, hasB, idsLt, kept, vs_int, vs_bool, vs_nil, vs_ptr, vs_cons, vs_view, fget, isLB, bget, vsubP_self, ↓reduceIte, reduceCtorEq, Nat.reduceEqDiff, Nat.reduceLT, and_true, true_and, and_self, forall_const, implies_true, Option.some.injEq, Val.int.injEq, exists_eq']
      rw [wrS (by omega)]
  · refine loopI (ι := Nat) (fun j => j ≤ x.told.1 ∧ ∀ i < j, TlOk c (x.told.2 i)) (fun j => x.told.1 - j) [3, 4] (fun j => [(7, .int .i64 j)]) (fun _ => []) 0 ⟨by omega, fun i h => by omega⟩ (by simp only [Chk, chkFr, chkBx, chkBx1, hasB, idsLt, kept, vs_int, vs_bool, vs_nil, vs_ptr, vs_cons, vs_view, fget, isLB, bget, vsubP_self, ↓reduceIte, reduceCtorEq, Nat.reduceEqDiff, Nat.reduceLT, Int.cast_ofNat_Int, and_self, forall_const, implies_true, Option.some.injEq, exists_eq', keepF, appF, updB]; try rfl) fun j hj => ?_
    obtain ⟨hj1, hj2⟩ := hj
    simp only [w3, runO_3, runO_4, runO_5, runO_6, runO_8, runO_9, runO_14, runO_16, runO_17, runO_18, runO_19, aop, binV, ends, ev, fget, fput, isLB, vget, vlen, bget, addB, addN, mkv, sliceV, vtab, frz, opOwns, preFz, callFz, skipOp, WfT, resV, res1, casts, castOks, cast1, castOk, norm, norms, norm1, normL, pureB, pureL, snapV, snapOk, specV, argsL, capsL, mkE_S, lkp, lenV, popTo, stkFr, Val.toInt, ↓reduceIte, reduceCtorEq, Nat.reduceEqDiff, Nat.reduceAdd, Nat.reduceSub, Nat.reduceLeDiff, Nat.zero_add, Nat.add_zero, List.length_cons, List.length_nil, List.append_nil, Bool.not_eq_true', Bool.not_eq_false', Bool.and_self, true_and, and_self, and_assoc, forall_const, imp_self, implies_true, Nat.le_refl, decide_eq_true_eq, decide_eq_false_iff_not, Val.bool.injEq, maxLen, Nat.reducePow, keepF, appF, updB, inat, Prod.eta, Sp.c0, Sp.c1, Sp.w_c, Sp.eta, Sr.c0, Sr.c1, Sr.c2, Sr.c3, Sr.w_c, Sr.eta, Tl.c0, Tl.c1, Tl.c2, Tl.c3, Tl.c4, Tl.eta, Ck.eta]
    refine ⟨fun hlt => ⟨by omega, by omega, fun h => no fun k => of_decide_eq_false h (k.2.1 j (by omega)), fun h => inv_intro (j + 1) ⟨by omega, fun i hi => ?_⟩ (by omega) ?_⟩, fun hge => lp h2 h1 (fun h => by rw [hf] at h; cases h) j hj1 hj2 (by omega)⟩
    · rcases Nat.lt_or_ge i j with h5 | h5
      · exact hj2 i h5
      · obtain rfl : i = j := by omega
        exact of_decide_eq_true h
    · simp only [Chk, chkFr, chkBx, chkBx1, hasB, idsLt, kept, vs_int, vs_bool, vs_nil, vs_ptr, vs_cons, vs_view, fget, isLB, bget, vsubP_self, ↓reduceIte, reduceCtorEq, Nat.reduceEqDiff, Nat.reduceLT, and_true, true_and, and_self, forall_const, implies_true, Option.some.injEq, Val.int.injEq, exists_eq']
      rw [wrS (by omega)]
def sLater : Spec := spec2 TCk TCh (fun c x => CkOk c ∧ 0 ≤ x.bowls ∧ x.bowls ≤ 200) fun c x => .agg (laterF c x).L
set_option maxRecDepth 100000 in
theorem pLater : PureOk Tryd.prog G 76 sLater := by
  refine fn2 (S := []) (I := []) mixed .nil .nil Tryd.func76 c76 fun c x hp hw => ?_
  obtain ⟨hc, hb⟩ := hp
  have h := later_bd hc hb
  simp only [vl, WfT, Val.toInt, Nat.reduceSub, and_true, and_self, and_assoc, maxLen, Nat.reducePow, RSp, Sp.d, RSr, Sr.d, RTl, Tl.d, Ch.L, TCh, Ck.L, TCk] at hw
  simp only [RunTo, a76, runO_3, runO_4, runO_5, runO_14, runO_17, runO_18, runO_19, aop, binV, ends, reOk, Nat.zero_sub, ev, fget, fput, params, cellsOf, cellsN, isLB, vget, vset, vsets, vlen, bget, bset, addB, addN, mkv, sliceV, vtab, fillV, fillOk, frz, opOwns, preFz, skipOp, WfT, resV, res1, onesB, snapV, snapOk, Fin, vp_int, vp_cons, vp_agg, vsubP_self, Val.toInt, ↓reduceIte, reduceCtorEq, Nat.reduceEqDiff, Nat.reduceAdd, Nat.reduceLeDiff, Nat.zero_add, Nat.add_zero, List.length_cons, List.length_nil, Bool.not_eq_true', Bool.not_eq_false', Bool.and_self, and_true, true_and, and_self, forall_const, Nat.le_refl, Val.int.injEq, Sp.L, RSp, Sp.d, RSr, Sr.d, RTl, Tl.d, Ch.L, TCh, Ck.L, TCk]
  have e1 : IntKind.i64.wrap (x.bowls * c.sinks.lo) = x.bowls * c.sinks.lo := wr64 (by omega) (by omega)
  have e2 : IntKind.i64.wrap (x.bowls * c.sinks.hi) = x.bowls * c.sinks.hi := wr64 (by omega) (by omega)
  have hs := spin_of hc.sinks
  rw [e1, e2, wr64 (by omega) (by omega)]
  refine ⟨fun h => ⟨rfl, ?_⟩, fun h => ⟨rfl, ?_⟩⟩ <;> simp [laterF, h]
noncomputable def sGreatN : Spec := spec1 (TSl RCh) (fun _ => True) fun l => .bool (@decide (l.1 > 30 ∨ ∃ i, i < l.1 ∧ (l.2 i).told.1 > 16) (Classical.propDecidable _))
set_option maxRecDepth 100000 in
theorem pGreatN : PureOk Tryd.prog G 28 sGreatN := by
  refine fn1 (S := []) (I := []) mixed .nil .nil Tryd.func28 c28 fun l _ hw => ?_
  simp only [vl, WfT, Val.toInt, Val.toBool, Val.slen, Val.scell, Nat.reduceSub, and_true, maxLen, Nat.reducePow, TSl, RTl, Tl.d, RCh, Ch.d] at hw
  simp only [RunTo, a28, hw, runO_3, runO_4, runO_5, runO_6, runO_14, runO_15, runO_17, runO_18, runO_19, aop, binV, ends, ev, fget, fput, params, addB, addN, frz, opOwns, preFz, skipOp, WfT, resV, res1, snapV, snapOk, lenV, Fin, vp_bool, Val.toInt, Val.toBool, Val.slen, Val.scell, ↓reduceIte, reduceCtorEq, Nat.reduceSub, true_and, and_self, forall_const, decide_eq_true_eq, decide_eq_false_iff_not, Val.bool.injEq, maxLen, Nat.reducePow, TSl, RTl, Tl.d, RCh, Ch.d]
  refine ⟨fun h => (@decide_eq_true _ (Classical.propDecidable _) (.inl (by omega))).symm, fun h1 => ?_⟩
  refine loopI (ι := Nat) (fun j => j ≤ l.1 ∧ ∀ i < j, (l.2 i).told.1 ≤ 16) (fun j => l.1 - j) [0] (fun j => [(3, .int .i64 j)]) (fun _ => []) 0 ⟨by omega, fun i h => by omega⟩ (by simp only [Chk, chkFr, chkBx, idsLt, kept, vs_int, vs_view, fget, vsubP_self, ↓reduceIte, reduceCtorEq, Int.cast_ofNat_Int, and_self, forall_const, implies_true, keepF, appF, updB]; try rfl) fun j hj => ?_
  obtain ⟨hj1, hj2⟩ := hj
  simp only [hw, runO_3, runO_4, runO_5, runO_6, runO_8, runO_9, runO_14, runO_16, runO_17, runO_18, runO_19, aop, binV, ends, ev, fget, fput, vget, addB, addN, mkv, frz, opOwns, preFz, skipOp, WfT, resV, res1, casts, castOks, cast1, castOk, snapV, snapOk, lenV, popTo, stkFr, Val.toInt, Val.slen, Val.scell, ↓reduceIte, reduceCtorEq, Nat.reduceEqDiff, Nat.reduceSub, Nat.reduceLeDiff, Nat.zero_add, Nat.sub_zero, List.length_cons, List.length_nil, true_and, and_self, and_assoc, forall_const, decide_eq_true_eq, decide_eq_false_iff_not, Val.bool.injEq, or_true, maxLen, Nat.reducePow, keepF, appF, updB, inat, RTl, Tl.d, Ch.c0]
  refine ⟨fun hlt => ⟨by omega, by omega, fun _ => ⟨fun h => (@decide_eq_true _ (Classical.propDecidable _) (.inr ⟨j, by omega, by omega⟩)).symm, fun h => inv_intro (j + 1) ⟨by omega, fun i hi => ?_⟩ (by omega) ?_⟩⟩, fun hge => (@decide_eq_false _ (Classical.propDecidable _) ?_).symm⟩
  · rcases Nat.lt_or_ge i j with h5 | h5
    · exact hj2 i h5
    · obtain rfl : i = j := by omega
      omega
  · simp only [Chk, chkFr, chkBx, idsLt, kept, vs_int, vs_view, fget, vsubP_self, ↓reduceIte, reduceCtorEq, and_true, true_and, and_self, forall_const, implies_true, Val.int.injEq]
    rw [wrS (by omega)]
  · rintro (h | ⟨i, hi, h⟩)
    · omega
    · have := hj2 i (by omega); omega
end Go.Proofs.YtbhhcnonooiokaaDoor
