/- Hours, the program: in, proper, minute, every. No condition but lengths. -/
import Derived.Test.YtbhhcnonooiokaaDoorHRef3
set_option linter.unusedSimpArgs false
set_option linter.unusedVariables false
namespace Go.Proofs.YtbhhcnonooiokaaDoor
open Go Go.RowKit
variable {G : Nat → Option (Nat × (Nat → Val))}
noncomputable def allB {α : Type} (n : Nat) (f : Nat → α) (P : α → Prop) : Bool := @decide (∀ i, i < n → P (f i)) (Classical.propDecidable _)
theorem allB_no {α : Type} {n : Nat} {f : Nat → α} {P : α → Prop} {j : Nat} (hj : j < n) (h : ¬ P (f j)) : (!decide ((j : Int) ≥ 0)) = allB n f P := by
  have h1 : decide ((j : Int) ≥ 0) = true := decide_eq_true (by omega)
  have h2 : allB n f P = false := @decide_eq_false _ (Classical.propDecidable _) fun h' => h (h' j hj)
  rw [h1, h2]; rfl
theorem allB_yes {α : Type} {n : Nat} {f : Nat → α} {P : α → Prop} (h : ∀ i, i < n → P (f i)) : (!decide ((-1 : Int) ≥ 0)) = allB n f P := by
  have h2 : allB n f P = true := @decide_eq_true _ (Classical.propDecidable _) h
  rw [h2]; rfl
theorem allB_iff {α : Type} {n : Nat} {f : Nat → α} {P : α → Prop} : allB n f P = true ↔ ∀ i, i < n → P (f i) := by
  unfold allB; exact @decide_eq_true_iff _ (Classical.propDecidable _)
theorem lt1 (p : Nat → Prop) : (∀ i, i < 1 → p i) = p 0 := propext ⟨fun h => h 0 (by omega), fun h i hi => by
  obtain rfl : i = 0 := by omega
  exact h⟩
theorem lt2 (p : Nat → Prop) : (∀ i, i < 2 → p i) = (p 0 ∧ p 1) := propext ⟨fun h => ⟨h 0 (by omega), h 1 (by omega)⟩, fun h i hi => by
  rcases Nat.lt_or_ge i 1 with h1 | h1
  · obtain rfl : i = 0 := by omega
    exact h.1
  · obtain rfl : i = 1 := by omega
    exact h.2⟩
theorem allB_1 {α : Type} {f : Nat → α} {P : α → Prop} [Decidable (P (f 0))] : allB 1 f P = decide (P (f 0)) := Bool.eq_iff_iff.2 (by rw [allB_iff, lt1, decide_eq_true_iff])
theorem allB_2 {α : Type} {f : Nat → α} {P : α → Prop} [Decidable (P (f 0))] [Decidable (P (f 1))] : allB 2 f P = decide (P (f 0) ∧ P (f 1)) := Bool.eq_iff_iff.2 (by rw [allB_iff, lt2, decide_eq_true_iff])
noncomputable def sIn : Spec := spec3 TI TI (TSl (RInt .i64)) (fun _ _ _ => True) fun lo hi l => .bool (allB l.1 l.2 fun n => lo ≤ n ∧ n ≤ hi)
set_option maxRecDepth 100000 in
theorem pIn : PureOk Tryd.prog G 78 sIn := by
  refine fn3 (S := []) (I := [(97, a97), (98, a98), (108, a108)]) mixed .nil (.cons Tryd.func97 c97 (.cons Tryd.func98 c98 (.cons Tryd.func108 c108 .nil))) Tryd.func78 c78 fun lo hi l _ hw => ?_
  simp only [vl, WfT, Val.toInt, Val.slen, Val.scell, Nat.reduceSub, and_true, true_and, maxLen, Nat.reducePow, TSl, TInt, RInt] at hw
  simp only [RunTo, a78, a97, a98, a108, runO_5, runO_6, runO_15, runO_17, runO_18, runO_19, aop, ev, evs, fget, fput, params, cellsOf, cellsN, isLB, addB, addN, frz, opOwns, preFz, skipOp, WfT, argsL, capsL, mkE_S, mkE_I, lkp, lenV, Fin, vp_bool, Val.toInt, Val.slen, Val.scell, ↓reduceIte, reduceCtorEq, Nat.reduceEqDiff, Nat.reduceAdd, Nat.reduceSub, Nat.zero_add, Int.reduceNeg, List.append_nil, true_and, forall_const, maxLen, Nat.reducePow, TSl, TInt, RInt]
  intro w1 _ _
  refine loopI (ι := Nat) (fun j => j ≤ l.1 ∧ ∀ i < j, lo ≤ l.2 i ∧ l.2 i ≤ hi) (fun j => l.1 - j) [0, 1, 7] (fun j => [(8, .int .i64 j)]) (fun _ => []) 0 ⟨by omega, fun i h => by omega⟩ (by simp only [Chk, chkFr, chkBx, chkBx1, hasB, idsLt, kept, vs_int, vs_nil, vs_ptr, vs_cons, vs_func, vs_view, fget, isLB, bget, vsubP_self, ↓reduceIte, reduceCtorEq, Nat.reduceEqDiff, Nat.reduceLT, Int.cast_ofNat_Int, and_self, forall_const, implies_true, Option.some.injEq, exists_eq', keepF, appF, updB]; try rfl) fun j hj => ?_
  obtain ⟨hj1, hj2⟩ := hj
  simp only [w1, ↓imp_tt, ↓imp_tf, runO_3, runO_4, runO_5, runO_6, runO_8, runO_9, runO_14, runO_16, runO_17, runO_18, runO_19, aop, binV, ends, Nat.zero_sub, ev, fget, fput, params, isLB, vget, vlen, bget, addB, addN, mkv, sliceV, vtab, frz, opOwns, preFz, skipOp, WfT, resV, res1, casts, castOks, cast1, castOk, snapV, snapOk, argsL, capsL, mkE_S, mkE_I, lkp, pickV, popTo, stkFr, Val.toInt, ↓reduceIte, reduceCtorEq, Nat.reduceEqDiff, Nat.reduceAdd, Nat.reduceSub, Nat.zero_add, Int.reduceNeg, List.length_cons, List.length_nil, List.nil_append, List.cons_append, Bool.bne_false, bne_self_eq_false, and_true, true_and, and_self, and_assoc, forall_const, Nat.le_refl, decide_eq_true_eq, decide_eq_false_iff_not, Val.bool.injEq, maxLen, Nat.reducePow, keepF, appF, updB, inat]
  refine ⟨fun h => ⟨by omega, by omega, fun h1 => allB_no (by omega) (by omega), fun h1 => ⟨fun h2 => allB_no (by omega) (by omega), fun h2 => inv_intro (j + 1) ⟨by omega, fun i hi => ?_⟩ (by omega) ?_⟩⟩, fun h => allB_yes fun i hi => hj2 i (by omega)⟩
  · rcases Nat.lt_or_ge i j with h5 | h5
    · exact hj2 i h5
    · obtain rfl : i = j := by omega
      omega
  · simp only [Chk, chkFr, chkBx, chkBx1, hasB, idsLt, kept, vs_int, vs_nil, vs_ptr, vs_cons, vs_func, vs_view, fget, isLB, bget, vsubP_self, ↓reduceIte, reduceCtorEq, Nat.reduceEqDiff, Nat.reduceLT, and_true, true_and, and_self, forall_const, implies_true, Option.some.injEq, Val.int.injEq, exists_eq']
    rw [wrS (by omega)]
def sProper : Spec := spec3 TSp TI TI (fun _ _ _ => True) fun s lo hi => .bool (decide (SpIn s lo hi))
set_option maxRecDepth 100000 in
theorem pProper : PureOk Tryd.prog G 63 sProper := by
  refine fn3 (S := [(78, sIn)]) (I := []) mixed (.cons pIn .nil) .nil Tryd.func63 c63 fun s lo hi _ hw => ?_
  simp only [vl, WfT, and_self, TInt, Sp.L, TSp] at hw
  simp only [RunTo, a63, sIn, flatO, runO_3, runO_5, runO_17, runO_18, runO_19, aop, binV, ends, Nat.zero_sub, ev, fget, fput, params, cellsOf, cellsN, isLB, vget, vset, vlen, bget, addB, addN, mkv, sliceV, vtab, rowsV, rowsOk, vrep, frz, opOwns, preFz, callFz, owns, skipOp, WfT, resV, res1, norm, norm1, normL, pureB, pureL, flatB, onesB, snapV, snapOk, snapL, snapOks, specV, argsL, capsL, mkE_S, mkE_G, lkp, pickV, Fin, vp_bool, Val.toInt, Val.slen, Val.scell, ↓reduceIte, reduceCtorEq, Nat.reduceEqDiff, Nat.reduceAdd, Nat.reduceLeDiff, Nat.reduceLT, Nat.zero_add, Nat.add_zero, List.length_cons, List.length_nil, List.append_nil, List.flatMap_cons, List.flatMap_nil, Bool.and_true, Bool.and_false, Bool.and_self, Bool.bne_true, bne_self_eq_false, Bool.not_true, Bool.not_false, and_true, true_and, and_self, forall_const, Nat.le_refl, decide_eq_true_eq, decide_eq_false_iff_not, Val.bool.injEq, spec3, TSl, IsSl, TInt, IsInt, RInt, Sp.L, TSp]
  simp only [lt2, allB_2, vget, true_and, and_self, and_assoc]
  refine ⟨fun h => decide_eq_decide.2 ?_, fun h => (decide_eq_false ?_).symm⟩ <;> unfold SpIn <;> omega
def sMinute : Spec := spec1 TSp (fun _ => True) fun s => .bool (decide (SpIn s (-100000) 100000))
set_option maxRecDepth 100000 in
theorem pMinute : PureOk Tryd.prog G 62 sMinute := by
  refine fn1 (S := [(63, sProper)]) (I := []) mixed (.cons pProper .nil) .nil Tryd.func62 c62 fun s _ hw => ?_
  simp only [RunTo, a62, sProper, runO_3, runO_5, runO_17, runO_18, runO_19, aop, ends, ev, fget, fput, params, cellsOf, cellsN, isLB, vget, vlen, bget, addB, addN, mkv, sliceV, vtab, frz, opOwns, preFz, callFz, skipOp, WfT, resV, res1, norm, norms, norm1, normL, pureB, pureL, snapV, snapOk, specV, argsL, capsL, mkE_S, lkp, Fin, vp_bool, Val.toInt, ↓reduceIte, reduceCtorEq, Nat.reduceEqDiff, Nat.reduceAdd, Nat.zero_add, Int.reduceNeg, List.length_cons, List.length_nil, List.append_nil, Bool.and_self, and_true, true_and, and_self, forall_const, imp_self, implies_true, Nat.le_refl, Val.bool.injEq, spec3, TInt, IsInt, Sp.L, Sp.Is, Sp.of, TSp, Sp.d, Sp.eta]
  rfl
instance (s : Sr) : Decidable (SrOk s) := by unfold SrOk; exact inferInstance
def sRises : Spec := spec1 TSr (fun _ => True) fun s => .bool (decide (SrOk s))
set_option maxRecDepth 100000 in
theorem pRises : PureOk Tryd.prog G 61 sRises := by
  refine fn1 (S := [(62, sMinute), (63, sProper)]) (I := []) mixed (.cons pMinute (.cons pProper .nil)) .nil Tryd.func61 c61 fun s _ hw => ?_
  simp only [RunTo, a61, sProper, sMinute, runO_3, runO_5, runO_17, runO_18, runO_19, aop, ends, Nat.zero_sub, ev, fget, fput, params, cellsOf, cellsN, isLB, vget, vlen, bget, addB, addN, mkv, sliceV, vtab, frz, opOwns, preFz, callFz, skipOp, WfT, resV, res1, norm, norms, norm1, normL, pureB, pureL, snapV, snapOk, specV, argsL, capsL, mkE_S, lkp, pickV, Fin, vp_bool, Val.toInt, ↓reduceIte, reduceCtorEq, Nat.reduceEqDiff, Nat.reduceAdd, Nat.reduceLeDiff, Nat.zero_add, Nat.add_zero, Int.reduceNeg, List.length_cons, List.length_nil, List.append_nil, Bool.and_self, Bool.bne_true, bne_self_eq_false, Bool.not_false, and_true, true_and, and_self, forall_const, imp_self, implies_true, Nat.le_refl, Val.bool.injEq, spec1, spec3, TInt, IsInt, Sp.L, Sp.Is, Sp.of, TSp, Sp.d, Sp.eta, Sr.L, TSr]
  refine ⟨fun h => decide_eq_decide.2 ?_, fun h => (decide_eq_false ?_).symm⟩ <;> unfold SrOk
  · exact ⟨fun h1 => ⟨of_decide_eq_true h, h1⟩, fun h1 => h1.2⟩
  · exact fun h1 => of_decide_eq_false h h1.1
/-- a function that is given -/
def TFn (f : FuncId) : VT Unit where
  Is := fun v => v = .func (.func f) .nil
  of := fun _ => ()
  enc := fun _ => .func (.func f) .nil
  h1 := by rintro v rfl; exact ⟨_, rfl, rfl⟩
  h2 := fun _ => rfl
noncomputable def sEvM : Spec := spec2 (TSl RSp) (TFn 62) (fun _ _ => True) fun l _ => .bool (allB l.1 l.2 fun s => SpIn s (-100000) 100000)
set_option maxRecDepth 100000 in
theorem pEvM : PureOk Tryd.prog G 64 sEvM := by
  refine fn2 (S := [(62, sMinute)]) (I := [(88, a88), (89, a89), (106, a106)]) mixed (.cons pMinute .nil) (.cons Tryd.func88 c88 (.cons Tryd.func89 c89 (.cons Tryd.func106 c106 .nil))) Tryd.func64 c64 fun l _ _ hw => ?_
  simp only [vl, WfT, Val.toInt, Val.slen, Val.scell, Nat.reduceSub, and_true, maxLen, Nat.reducePow, TSl, RSp, Sp.d] at hw
  simp only [RunTo, a64, a88, a89, a106, sMinute, TFn, runO_5, runO_6, runO_15, runO_17, runO_18, runO_19, aop, ev, evs, fget, fput, params, cellsOf, cellsN, isLB, addB, addN, frz, opOwns, preFz, skipOp, WfT, argsL, capsL, mkE_S, mkE_I, lkp, lenV, Fin, vp_bool, Val.toInt, Val.slen, Val.scell, ↓reduceIte, reduceCtorEq, Nat.reduceEqDiff, Nat.reduceSub, Nat.zero_add, Int.reduceNeg, List.append_nil, and_true, true_and, forall_const, imp_self, implies_true, maxLen, Nat.reducePow, spec1, TSl, Sp.L, Sp.Is, Sp.of, TSp, RSp, Sp.d]
  intro w1 _ _
  refine loopI (ι := Nat) (fun j => j ≤ l.1 ∧ ∀ i < j, (fun s => SpIn s (-100000) 100000) (l.2 i)) (fun j => l.1 - j) [0, 1, 7] (fun j => [(8, .int .i64 j)]) (fun _ => []) 0 ⟨by omega, fun i h => by omega⟩ (by simp only [Chk, chkFr, chkBx, chkBx1, hasB, idsLt, kept, vs_int, vs_nil, vs_ptr, vs_cons, vs_func, vs_view, fget, isLB, bget, vsubP_self, ↓reduceIte, reduceCtorEq, Nat.reduceEqDiff, Nat.reduceLT, Int.cast_ofNat_Int, and_self, forall_const, implies_true, Option.some.injEq, exists_eq', keepF, appF, updB]; try rfl) fun j hj => ?_
  obtain ⟨hj1, hj2⟩ := hj
  simp only [w1, runO_3, runO_4, runO_5, runO_6, runO_8, runO_9, runO_14, runO_16, runO_17, runO_18, runO_19, aop, binV, ends, ev, fget, fput, params, cellsOf, cellsN, isLB, vget, vlen, bget, addB, addN, mkv, sliceV, vtab, frz, opOwns, preFz, callFz, skipOp, WfT, resV, res1, casts, castOks, cast1, castOk, norm, norms, norm1, normL, pureB, pureL, snapV, snapOk, specV, argsL, capsL, mkE_S, mkE_I, lkp, popTo, stkFr, Val.toInt, ↓reduceIte, reduceCtorEq, Nat.reduceEqDiff, Nat.reduceAdd, Nat.reduceSub, Nat.zero_add, Int.reduceNeg, List.length_cons, List.length_nil, List.nil_append, List.cons_append, List.append_nil, Bool.not_eq_true', Bool.not_eq_false', Bool.and_self, true_and, and_self, and_assoc, forall_const, imp_self, implies_true, Nat.le_refl, decide_eq_true_eq, decide_eq_false_iff_not, Val.bool.injEq, maxLen, Nat.reducePow, keepF, appF, updB, inat, Sp.c0, Sp.c1, Sp.eta]
  refine ⟨fun h => ⟨by omega, by omega, fun h1 => allB_no (by omega) (of_decide_eq_false h1), fun h1 => inv_intro (j + 1) ⟨by omega, fun i hi => ?_⟩ (by omega) ?_⟩, fun h => allB_yes fun i hi => hj2 i (by omega)⟩
  · rcases Nat.lt_or_ge i j with h5 | h5
    · exact hj2 i h5
    · obtain rfl : i = j := by omega
      exact of_decide_eq_true h1
  · simp only [Chk, chkFr, chkBx, chkBx1, hasB, idsLt, kept, vs_int, vs_nil, vs_ptr, vs_cons, vs_func, vs_view, Nat.lt_irrefl, fget, isLB, bget, vsubP_self, ↓reduceIte, reduceCtorEq, Nat.reduceEqDiff, Nat.reduceLT, and_true, true_and, and_self, forall_const, implies_true, Option.some.injEq, Val.int.injEq, exists_eq', false_implies]
    rw [wrS (by omega)]
noncomputable def sEvR : Spec := spec2 (TSl RSr) (TFn 61) (fun _ _ => True) fun l _ => .bool (allB l.1 l.2 fun s => SrOk s)
set_option maxRecDepth 100000 in
theorem pEvR : PureOk Tryd.prog G 65 sEvR := by
  refine fn2 (S := [(61, sRises)]) (I := [(90, a90), (91, a91), (107, a107)]) mixed (.cons pRises .nil) (.cons Tryd.func90 c90 (.cons Tryd.func91 c91 (.cons Tryd.func107 c107 .nil))) Tryd.func65 c65 fun l _ _ hw => ?_
  simp only [vl, WfT, Val.toInt, Val.slen, Val.scell, Nat.reduceSub, and_true, maxLen, Nat.reducePow, TSl, RSr, Sr.d] at hw
  simp only [RunTo, a65, a90, a91, a107, sRises, TFn, runO_5, runO_6, runO_15, runO_17, runO_18, runO_19, aop, ev, evs, fget, fput, params, cellsOf, cellsN, isLB, addB, addN, frz, opOwns, preFz, skipOp, WfT, argsL, capsL, mkE_S, mkE_I, lkp, lenV, Fin, vp_bool, Val.toInt, Val.slen, Val.scell, ↓reduceIte, reduceCtorEq, Nat.reduceEqDiff, Nat.reduceSub, Nat.zero_add, Int.reduceNeg, List.append_nil, and_true, true_and, forall_const, imp_self, implies_true, maxLen, Nat.reducePow, spec1, TSl, Sr.L, Sr.Is, Sr.of, TSr, RSr, Sr.d]
  intro w1 _ _
  refine loopI (ι := Nat) (fun j => j ≤ l.1 ∧ ∀ i < j, (fun s => SrOk s) (l.2 i)) (fun j => l.1 - j) [0, 1, 7] (fun j => [(8, .int .i64 j)]) (fun _ => []) 0 ⟨by omega, fun i h => by omega⟩ (by simp only [Chk, chkFr, chkBx, chkBx1, hasB, idsLt, kept, vs_int, vs_nil, vs_ptr, vs_cons, vs_func, vs_view, fget, isLB, bget, vsubP_self, ↓reduceIte, reduceCtorEq, Nat.reduceEqDiff, Nat.reduceLT, Int.cast_ofNat_Int, and_self, forall_const, implies_true, Option.some.injEq, exists_eq', keepF, appF, updB]; try rfl) fun j hj => ?_
  obtain ⟨hj1, hj2⟩ := hj
  simp only [w1, runO_3, runO_4, runO_5, runO_6, runO_8, runO_9, runO_14, runO_16, runO_17, runO_18, runO_19, aop, binV, ends, ev, fget, fput, params, cellsOf, cellsN, isLB, vget, vlen, bget, addB, addN, mkv, sliceV, vtab, frz, opOwns, preFz, callFz, skipOp, WfT, resV, res1, casts, castOks, cast1, castOk, norm, norms, norm1, normL, pureB, pureL, snapV, snapOk, specV, argsL, capsL, mkE_S, mkE_I, lkp, popTo, stkFr, Val.toInt, ↓reduceIte, reduceCtorEq, Nat.reduceEqDiff, Nat.reduceAdd, Nat.reduceSub, Nat.zero_add, Int.reduceNeg, List.length_cons, List.length_nil, List.nil_append, List.cons_append, List.append_nil, Bool.not_eq_true', Bool.not_eq_false', Bool.and_self, true_and, and_self, and_assoc, forall_const, imp_self, implies_true, Nat.le_refl, decide_eq_true_eq, decide_eq_false_iff_not, Val.bool.injEq, maxLen, Nat.reducePow, keepF, appF, updB, inat, Sp.eta, Sr.c0, Sr.c1, Sr.c2, Sr.c3, Sr.eta]
  refine ⟨fun h => ⟨by omega, by omega, fun h1 => allB_no (by omega) (of_decide_eq_false h1), fun h1 => inv_intro (j + 1) ⟨by omega, fun i hi => ?_⟩ (by omega) ?_⟩, fun h => allB_yes fun i hi => hj2 i (by omega)⟩
  · rcases Nat.lt_or_ge i j with h5 | h5
    · exact hj2 i h5
    · obtain rfl : i = j := by omega
      exact of_decide_eq_true h1
  · simp only [Chk, chkFr, chkBx, chkBx1, hasB, idsLt, kept, vs_int, vs_nil, vs_ptr, vs_cons, vs_func, vs_view, Nat.lt_irrefl, fget, isLB, bget, vsubP_self, ↓reduceIte, reduceCtorEq, Nat.reduceEqDiff, Nat.reduceLT, and_true, true_and, and_self, forall_const, implies_true, Option.some.injEq, Val.int.injEq, exists_eq', false_implies]
    rw [wrS (by omega)]
noncomputable def sCheckP : Spec := spec1 TCk (fun _ => True) fun c => .int .i64 (if ckB c = true then 0 else 30)
set_option maxRecDepth 100000 in
theorem pCheckP : PureOk Tryd.prog G 21 sCheckP := by
  refine fn1 (S := [(64, sEvM), (65, sEvR), (63, sProper)]) (I := []) mixed (.cons pEvM (.cons pEvR (.cons pProper .nil))) .nil Tryd.func21 c21 fun c _ hw => ?_
  simp only [vl, WfT, Val.toInt, Nat.reduceSub, and_true, and_self, maxLen, Nat.reducePow, RSp, Sp.d, RSr, Sr.d, Ck.L, TCk] at hw
  obtain ⟨w1, w2⟩ := hw
  simp only [RunTo, a21, sEvM, sEvR, sProper, w1, w2, TFn, ↓imp_tt, ↓imp_tf, runO_3, runO_4, runO_5, runO_6, runO_14, runO_15, runO_17, runO_18, runO_19, aop, binV, ends, Nat.zero_sub, ev, fget, fput, params, cellsOf, cellsN, isLB, vget, vlen, bget, addB, addN, mkv, sliceV, vtab, frz, opOwns, preFz, callFz, skipOp, WfT, resV, res1, norm, norms, norm1, normL, pureB, pureL, snapV, snapOk, specV, argsL, capsL, mkE_S, lkp, pickV, lenV, Fin, vp_int, Val.toInt, Val.slen, Val.scell, ↓reduceIte, reduceCtorEq, Nat.reduceEqDiff, Nat.reduceAdd, Nat.reduceSub, Nat.reduceLeDiff, Nat.zero_add, Nat.add_zero, Int.reduceNeg, List.length_cons, List.length_nil, List.append_nil, Bool.not_eq_true', Bool.not_eq_false', Bool.and_self, Bool.bne_false, bne_self_eq_false, and_true, true_and, and_self, forall_const, imp_self, implies_true, Nat.le_refl, decide_eq_true_eq, decide_eq_false_iff_not, Val.int.injEq, maxLen, Nat.reducePow, spec2, spec3, TSl, IsSl, TInt, IsInt, Sp.L, Sp.c0, Sp.c1, Sp.Is, Sp.of, TSp, RSp, Sp.w_c, Sp.d, Sp.eta, Sr.c0, Sr.c1, Sr.c2, Sr.c3, RSr, Sr.w_c, Sr.d, Sr.eta, Ck.L, TCk]
  have no : ¬ CkOk c → 30 = if ckB c = true then (0 : Int) else 30 := fun h => by rw [if_neg (by rw [ckB_true]; exact h)]
  have hal : ∀ {α : Type} {n : Nat} {f : Nat → α} {P : α → Prop}, allB n f P = false → ¬ ∀ i, i < n → P (f i) := fun h h2 => by rw [allB_iff.2 h2] at h; cases h
  refine ⟨fun h => no fun k => ?_, fun h1 => ⟨fun h => no fun k => hal h fun i hi => k.mrk i hi, fun h2 => ⟨fun h => no fun k => ?_, fun h3 => ⟨fun h => no fun k => hal h fun i hi => k.sr i hi, fun h4 => ⟨fun h => no fun k => of_decide_eq_false h k.hand, fun h5 => ⟨fun h => no fun k => of_decide_eq_false h k.sinks, fun h6 => ?_⟩⟩⟩⟩⟩⟩
  · have := k.nm; omega
  · have := k.ns; omega
  refine loopI (ι := Nat) (fun j => (1 ≤ j ∧ j ≤ c.mrk.1 + 1) ∧ ∀ i, i < j → i < c.mrk.1 → 0 < i → (c.mrk.2 (i - 1)).lo ≤ (c.mrk.2 i).lo ∧ (c.mrk.2 (i - 1)).hi ≤ (c.mrk.2 i).hi) (fun j => c.mrk.1 - j) [1] (fun j => [(4, .int .i64 j)]) (fun _ => []) 1 ⟨by omega, fun i _ _ _ => by omega⟩ (by simp only [Chk, chkFr, chkBx, chkBx1, hasB, idsLt, kept, vs_int, vs_nil, vs_ptr, vs_cons, vs_view, fget, isLB, bget, vsubP_self, ↓reduceIte, Nat.reduceEqDiff, Nat.reduceLT, Int.cast_ofNat_Int, Int.reduceNeg, and_self, forall_const, implies_true, Option.some.injEq, exists_eq', keepF, appF, updB]; try rfl) fun j hj => ?_
  obtain ⟨⟨hj1, hj0⟩, hj2⟩ := hj
  have hw : IntKind.i64.wrap ((j : Int) - 1) = ((j - 1 : Nat) : Int) := by rw [wr64 (by omega) (by omega)]; omega
  simp only [w1, hw, ↓imp_tt, ↓imp_tf, runO_3, runO_4, runO_5, runO_6, runO_8, runO_9, runO_14, runO_16, runO_17, runO_18, runO_19, aop, binV, ends, Nat.zero_sub, ev, fget, fput, vget, vlen, bget, addB, addN, mkv, sliceV, vtab, frz, opOwns, preFz, skipOp, WfT, resV, res1, casts, castOks, cast1, castOk, snapV, snapOk, pickV, lenV, popTo, stkFr, Val.toInt, ↓reduceIte, reduceCtorEq, Nat.reduceEqDiff, Nat.reduceAdd, Nat.reduceSub, Nat.reduceLeDiff, Nat.zero_add, Nat.add_zero, Nat.sub_zero, Int.reduceNeg, List.length_cons, List.length_nil, Bool.bne_false, bne_self_eq_false, and_true, true_and, and_self, and_assoc, forall_const, imp_self, implies_true, Nat.le_refl, decide_eq_true_eq, decide_eq_false_iff_not, Val.int.injEq, maxLen, Nat.reducePow, keepF, appF, updB, inat, Sp.c0, Sp.c1]
  refine ⟨fun hlt => ⟨by omega, by omega, by omega, by omega, fun h => no fun k => ?_, fun h7 => ⟨by omega, by omega, by omega, by omega, fun h => no fun k => ?_, fun h8 => inv_intro (j + 1) ⟨by omega, by omega, fun i hi1 hi2 hi3 => ?_⟩ (by omega) ?_⟩⟩, fun hge => ?_⟩
  · have := k.up j (by omega) (by omega); omega
  · have := k.up j (by omega) (by omega); omega
  · rcases Nat.lt_or_ge i j with h9 | h9
    · exact hj2 i h9 hi2 hi3
    · obtain rfl : i = j := by omega
      omega
  · simp only [Chk, chkFr, chkBx, chkBx1, hasB, idsLt, kept, vs_int, vs_nil, vs_ptr, vs_cons, vs_view, fget, isLB, bget, vsubP_self, ↓reduceIte, Nat.reduceEqDiff, Nat.reduceLT, and_true, true_and, and_self, forall_const, implies_true, Option.some.injEq, Val.int.injEq, exists_eq']
    rw [wrS (by omega)]
  · rw [if_pos (ckB_true.2 ⟨by omega, by omega, allB_iff.1 h2, fun i hi h0 => hj2 i (by omega) hi h0, allB_iff.1 h4, of_decide_eq_true h5, of_decide_eq_true h6⟩)]
end Go.Proofs.YtbhhcnonooiokaaDoor
