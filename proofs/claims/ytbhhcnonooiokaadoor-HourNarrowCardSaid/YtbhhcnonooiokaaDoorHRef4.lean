/- Hours, the reference: sizes, and what is the same. No condition but lengths. -/
import Derived.Test.YtbhhcnonooiokaaDoorHProg4
set_option linter.unusedSimpArgs false
set_option linter.unusedVariables false
namespace Go.Proofs.YtbhhcnonooiokaaDoor
open Go Go.RowKit
variable {G : Nat → Option (Nat × (Nat → Val))}
def sGreat : Spec := spec1 TCk (fun _ => True) fun c => .bool (decide (c.mrk.1 > 30 ∨ c.str.1 > 20))
set_option maxRecDepth 100000 in
theorem pGreat : PureOk Tryd.prog G 15 sGreat := by
  refine fn1 (S := []) (I := []) mixed .nil .nil Tryd.func15 c15 fun c _ hw => ?_
  simp only [vl, WfT, Val.toInt, Nat.reduceSub, and_true, and_self, maxLen, Nat.reducePow, RSp, Sp.d, RSr, Sr.d, Ck.L, TCk] at hw
  obtain ⟨w1, w2⟩ := hw
  simp only [RunTo, a15, w1, w2, runO_3, runO_5, runO_17, runO_18, runO_19, aop, binV, ends, Nat.zero_sub, ev, fget, fput, params, cellsOf, cellsN, isLB, vget, vlen, bget, addB, addN, mkv, sliceV, vtab, frz, opOwns, preFz, skipOp, WfT, resV, res1, snapV, snapOk, pickV, lenV, Fin, vp_bool, Val.toInt, ↓reduceIte, Nat.reduceEqDiff, Nat.reduceAdd, Nat.reduceSub, Nat.reduceLeDiff, Nat.zero_add, Nat.add_zero, List.length_cons, List.length_nil, Bool.bne_false, bne_self_eq_false, true_and, and_self, forall_const, decide_eq_true_eq, decide_eq_false_iff_not, Val.bool.injEq, maxLen, Nat.reducePow, RSp, Sp.d, RSr, Sr.d, Ck.L, TCk]
  refine ⟨fun h => (decide_eq_true (by omega)).symm, fun h => decide_eq_decide.2 (by omega)⟩
theorem spEq {a b : Sp} : (a.lo == b.lo && a.hi == b.hi) = true ↔ a = b := by
  obtain ⟨p, q⟩ := a; obtain ⟨r, s⟩ := b; simp
noncomputable def sameB {α : Type} (a b : Nat × (Nat → α)) : Bool := @decide (a.1 = b.1 ∧ ∀ i, i < a.1 → a.2 i = b.2 i) (Classical.propDecidable _)
noncomputable def sSameSp : Spec := spec2 (TSl RSp) (TSl RSp) (fun _ _ => True) fun a b => .bool (sameB a b)
set_option maxRecDepth 100000 in
theorem pSameSp : PureOk Tryd.prog G 33 sSameSp := by
  refine fn2 (S := []) (I := []) mixed .nil .nil Tryd.func33 c33 fun a b _ hw => ?_
  simp only [vl, WfT, Val.toInt, Val.slen, Val.scell, Nat.reduceSub, and_true, maxLen, Nat.reducePow, TSl, RSp, Sp.d] at hw
  obtain ⟨w1, w2⟩ := hw
  simp only [RunTo, a33, w1, w2, runO_3, runO_4, runO_5, runO_6, runO_14, runO_15, runO_17, runO_18, runO_19, aop, binV, ends, ev, fget, fput, params, addB, addN, frz, opOwns, preFz, skipOp, WfT, resV, res1, snapV, snapOk, lenV, Fin, vp_bool, Val.toInt, Val.slen, Val.scell, ↓reduceIte, reduceCtorEq, Nat.reduceEqDiff, Nat.reduceSub, Nat.zero_add, bne_iff_ne, bne_eq_false_iff_eq, true_and, and_self, forall_const, Val.bool.injEq, ne_eq, maxLen, Nat.reducePow, TSl, RSp, Sp.d]
  have no : ¬ (a.1 = b.1 ∧ ∀ i, i < a.1 → a.2 i = b.2 i) → false = sameB a b := fun h => (@decide_eq_false _ (Classical.propDecidable _) h).symm
  refine ⟨fun h => no fun k => h (by omega), fun h => ?_⟩
  refine loopI (ι := Nat) (fun j => j ≤ a.1 ∧ ∀ i < j, a.2 i = b.2 i) (fun j => a.1 - j) [0, 1] (fun j => [(5, .int .i64 j)]) (fun _ => []) 0 ⟨by omega, fun i h => by omega⟩ (by simp only [Chk, chkFr, chkBx, idsLt, kept, vs_int, vs_view, fget, vsubP_self, ↓reduceIte, reduceCtorEq, Nat.reduceEqDiff, Int.cast_ofNat_Int, and_self, forall_const, implies_true, keepF, appF, updB]; try rfl) fun j hj => ?_
  obtain ⟨hj1, hj2⟩ := hj
  simp only [w1, runO_3, runO_4, runO_5, runO_6, runO_8, runO_9, runO_14, runO_16, runO_17, runO_18, runO_19, aop, binV, ends, ev, fget, fput, addB, addN, mkv, frz, opOwns, preFz, skipOp, WfT, resV, res1, casts, castOks, cast1, castOk, snapV, snapOk, eqCells, eqOk, lenV, popTo, stkFr, Val.toInt, ↓reduceIte, reduceCtorEq, Nat.reduceEqDiff, Nat.reduceAdd, Nat.reduceSub, Nat.zero_add, List.length_cons, List.length_nil, Bool.not_eq_true', Bool.not_eq_false', Bool.and_true, true_and, and_self, and_assoc, forall_const, Nat.le_refl, decide_eq_true_eq, decide_eq_false_iff_not, Val.bool.injEq, maxLen, Nat.reducePow, keepF, appF, updB, inat, Sp.c0, Sp.c1]
  refine ⟨fun hlt => ⟨by omega, by omega, by omega, by omega, fun h1 => no fun k => ?_, fun h1 => inv_intro (j + 1) ⟨by omega, fun i hi => ?_⟩ (by omega) ?_⟩, fun hge => ?_⟩
  · rw [k.2 j (by omega)] at h1; simp at h1
  · rcases Nat.lt_or_ge i j with h5 | h5
    · exact hj2 i h5
    · obtain rfl : i = j := by omega
      exact spEq.1 h1
  · simp only [Chk, chkFr, chkBx, idsLt, kept, vs_int, vs_view, fget, vsubP_self, ↓reduceIte, reduceCtorEq, Nat.reduceEqDiff, and_true, true_and, and_self, forall_const, implies_true, Val.int.injEq]
    rw [wrS (by omega)]
  · exact (@decide_eq_true _ (Classical.propDecidable _) ⟨by omega, fun i hi => hj2 i (by omega)⟩).symm
theorem srEq {a b : Sr} : (a.rise.lo == b.rise.lo && (a.rise.hi == b.rise.hi && (a.shift.lo == b.shift.lo && a.shift.hi == b.shift.hi))) = true ↔ a = b := by
  obtain ⟨⟨p, q⟩, ⟨r, s⟩⟩ := a; obtain ⟨⟨p', q'⟩, ⟨r', s'⟩⟩ := b; simp [and_assoc]
noncomputable def ckSame (a b : Ck) : Bool := @decide ((a.mrk.1 = b.mrk.1 ∧ ∀ i, i < a.mrk.1 → a.mrk.2 i = b.mrk.2 i) ∧ (a.str.1 = b.str.1 ∧ ∀ i, i < a.str.1 → a.str.2 i = b.str.2 i) ∧ a.hand = b.hand ∧ a.sinks = b.sinks) (Classical.propDecidable _)
noncomputable def sSame : Spec := spec2 TCk TCk (fun _ _ => True) fun a b => .bool (ckSame a b)
set_option maxRecDepth 100000 in
theorem pSame : PureOk Tryd.prog G 23 sSame := by
  refine fn2 (S := [(33, sSameSp)]) (I := []) mixed (.cons pSameSp .nil) .nil Tryd.func23 c23 fun a b _ hw => ?_
  simp only [vl, WfT, Val.toInt, Nat.reduceSub, and_true, and_self, and_assoc, maxLen, Nat.reducePow, RSp, Sp.d, RSr, Sr.d, Ck.L, TCk] at hw
  obtain ⟨w1, w2, w3, w4⟩ := hw
  simp only [RunTo, a23, sSameSp, w1, w2, w3, w4, ↓imp_tt, ↓imp_tf, runO_3, runO_4, runO_5, runO_6, runO_14, runO_15, runO_17, runO_18, runO_19, aop, binV, ends, Nat.zero_sub, ev, fget, fput, params, cellsOf, cellsN, isLB, vget, vlen, bget, addB, addN, mkv, sliceV, vtab, frz, opOwns, preFz, callFz, skipOp, WfT, resV, res1, castOk, norm, norm1, normL, pureB, pureL, snapV, snapOk, specV, argsL, capsL, mkE_S, lkp, eqCells, eqOk, pickV, lenV, Fin, vp_bool, Val.toInt, Val.slen, Val.scell, ↓reduceIte, reduceCtorEq, Nat.reduceEqDiff, Nat.reduceAdd, Nat.reduceSub, Nat.reduceLeDiff, Nat.zero_add, Nat.add_zero, bne_iff_ne, bne_eq_false_iff_eq, List.length_cons, List.length_nil, List.append_nil, Bool.not_eq_true', Bool.not_eq_false', Bool.and_true, Bool.and_self, Bool.bne_false, bne_self_eq_false, and_true, true_and, and_self, forall_const, implies_true, Nat.le_refl, Val.bool.injEq, ne_eq, maxLen, Nat.reducePow, spec2, TSl, IsSl, Prod.eta, Sp.c0, Sp.c1, RSp, Sp.w_c, Sp.d, Sp.eta, RSr, Sr.d, Ck.L, TCk]
  have no : ¬ ((a.mrk.1 = b.mrk.1 ∧ ∀ i, i < a.mrk.1 → a.mrk.2 i = b.mrk.2 i) ∧ (a.str.1 = b.str.1 ∧ ∀ i, i < a.str.1 → a.str.2 i = b.str.2 i) ∧ a.hand = b.hand ∧ a.sinks = b.sinks) → false = ckSame a b := fun h => (@decide_eq_false _ (Classical.propDecidable _) h).symm
  have bf : ∀ {p : Bool} {q : Prop}, (p = true ↔ q) → p = false → ¬ q := fun h h1 h2 => by rw [h.2 h2] at h1; cases h1
  have hsp : ∀ {a b : Nat × (Nat → Sp)}, sameB a b = true ↔ (a.1 = b.1 ∧ ∀ i, i < a.1 → a.2 i = b.2 i) := by
    intro a b; unfold sameB; exact @decide_eq_true_iff _ (Classical.propDecidable _)
  refine ⟨fun h => no fun k => bf hsp h k.1, fun h1 => ⟨fun h => no fun k => h (by have := k.2.1.1; omega), fun h2 => ⟨fun h => no fun k => bf spEq h k.2.2.1, fun h3 => ⟨fun h => no fun k => bf spEq h k.2.2.2, fun h4 => ?_⟩⟩⟩⟩
  refine loopI (ι := Nat) (fun j => j ≤ a.str.1 ∧ ∀ i < j, a.str.2 i = b.str.2 i) (fun j => a.str.1 - j) [2, 3] (fun j => [(5, .int .i64 j)]) (fun _ => []) 0 ⟨by omega, fun i h => by omega⟩ (by simp only [Chk, chkFr, chkBx, chkBx1, hasB, idsLt, kept, vs_int, vs_nil, vs_ptr, vs_cons, vs_view, fget, isLB, bget, vsubP_self, ↓reduceIte, reduceCtorEq, Nat.reduceEqDiff, Nat.reduceLT, Int.cast_ofNat_Int, and_self, forall_const, implies_true, Option.some.injEq, exists_eq', keepF, appF, updB]; try rfl) fun j hj => ?_
  obtain ⟨hj1, hj2⟩ := hj
  simp only [w2, runO_3, runO_4, runO_5, runO_6, runO_8, runO_9, runO_14, runO_16, runO_17, runO_18, runO_19, aop, binV, ends, ev, fget, fput, vget, vlen, bget, addB, addN, mkv, sliceV, vtab, frz, opOwns, preFz, skipOp, WfT, resV, res1, casts, castOks, cast1, castOk, snapV, snapOk, eqCells, eqOk, lenV, popTo, stkFr, Val.toInt, ↓reduceIte, reduceCtorEq, Nat.reduceEqDiff, Nat.reduceAdd, Nat.reduceSub, Nat.reduceLeDiff, Nat.zero_add, List.length_cons, List.length_nil, Bool.not_eq_true', Bool.not_eq_false', Bool.and_true, true_and, and_self, and_assoc, forall_const, Nat.le_refl, decide_eq_true_eq, decide_eq_false_iff_not, Val.bool.injEq, maxLen, Nat.reducePow, keepF, appF, updB, inat, Sr.c0, Sr.c1, Sr.c2, Sr.c3]
  refine ⟨fun hlt => ⟨by omega, by omega, by omega, by omega, fun h5 => no fun k => ?_, fun h5 => inv_intro (j + 1) ⟨by omega, fun i hi => ?_⟩ (by omega) ?_⟩, fun hge => ?_⟩
  · exact bf srEq h5 (k.2.1.2 j (by omega))
  · rcases Nat.lt_or_ge i j with h6 | h6
    · exact hj2 i h6
    · obtain rfl : i = j := by omega
      exact srEq.1 h5
  · simp only [Chk, chkFr, chkBx, chkBx1, hasB, idsLt, kept, vs_int, vs_nil, vs_ptr, vs_cons, vs_view, fget, isLB, bget, vsubP_self, ↓reduceIte, reduceCtorEq, Nat.reduceEqDiff, Nat.reduceLT, and_true, true_and, and_self, forall_const, implies_true, Option.some.injEq, Val.int.injEq, exists_eq']
    rw [wrS (by omega)]
  · exact (@decide_eq_true _ (Classical.propDecidable _) ⟨hsp.1 h1, ⟨by omega, fun i hi => hj2 i (by omega)⟩, spEq.1 h3, spEq.1 h4⟩).symm
end Go.Proofs.YtbhhcnonooiokaaDoor
