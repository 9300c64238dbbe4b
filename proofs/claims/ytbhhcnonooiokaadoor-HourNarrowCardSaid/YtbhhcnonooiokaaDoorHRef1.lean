/- Hours, the reference: small functions. No condition but bounds. -/
import Derived.Test.YtbhhcnonooiokaaDoorHMath
import Derived.Test.YtbhhcnonooiokaaDoorACode1
set_option linter.unusedSimpArgs false
set_option linter.unusedVariables false
namespace Go.Proofs.YtbhhcnonooiokaaDoor
open Go Go.RowKit
theorem mixed : Tryd.prog.follows .mixedOrders = true := by kernel_rfl
variable {G : Nat → Option (Nat × (Nat → Val))}
def sWithin : Spec := spec3 TI TI TI (fun _ _ _ => True) fun n lo hi => .bool (decide (lo ≤ n ∧ n ≤ hi))
set_option maxRecDepth 100000 in
theorem pWithin : PureOk Tryd.prog G 84 sWithin := by
  refine fn3 (S := []) (I := []) mixed .nil .nil Tryd.func84 c84 fun n lo hi _ _ => ?_
  simp only [RunTo, a84, runO_3, runO_5, runO_17, runO_18, runO_19, aop, binV, ends, Nat.zero_sub, ev, fget, fput, params, addB, addN, frz, opOwns, preFz, skipOp, WfT, resV, res1, snapV, snapOk, pickV, Fin, vp_bool, ↓reduceIte, reduceCtorEq, Nat.reduceEqDiff, Nat.reduceAdd, Nat.zero_add, Bool.bne_true, bne_self_eq_false, Bool.not_false, true_and, and_self, forall_const, decide_eq_true_eq, decide_eq_false_iff_not, Val.bool.injEq, TInt]
  refine ⟨fun h => ?_, fun h => ?_⟩ <;> simp <;> omega
def sOrdered : Spec := spec3 TSp TI TI (fun _ _ _ => True) fun s lo hi => .bool (decide (SpIn s lo hi))
set_option maxRecDepth 100000 in
theorem pOrdered : PureOk Tryd.prog G 82 sOrdered := by
  refine fn3 (S := []) (I := []) mixed .nil .nil Tryd.func82 c82 fun s lo hi _ _ => ?_
  simp only [RunTo, a82, ↓imp_ft, ↓imp_ff, runO_3, runO_5, runO_17, runO_18, runO_19, aop, binV, ends, Nat.zero_sub, ev, fget, fput, params, cellsOf, cellsN, isLB, vget, vlen, bget, addB, addN, mkv, sliceV, vtab, frz, opOwns, preFz, skipOp, WfT, resV, res1, snapV, snapOk, pickV, Fin, vp_bool, ↓reduceIte, reduceCtorEq, Nat.reduceEqDiff, Nat.reduceAdd, Nat.reduceLeDiff, Nat.zero_add, Nat.add_zero, List.length_cons, List.length_nil, Bool.bne_true, bne_self_eq_false, Bool.not_false, true_and, and_self, forall_const, Nat.le_refl, decide_eq_true_eq, decide_eq_false_iff_not, Val.bool.injEq, TInt, Sp.L, TSp]
  refine ⟨fun h => ⟨fun h => decide_eq_decide.2 ?_, fun h => (decide_eq_false ?_).symm⟩, fun h => (decide_eq_false ?_).symm⟩ <;> unfold SpIn <;> omega
def sFloor : Spec := spec1 TI Fit fun n => .int .i64 (downF n)
set_option maxRecDepth 100000 in
theorem pFloor : PureOk Tryd.prog G 87 sFloor := by
  refine fn1 (S := []) (I := []) mixed .nil .nil Tryd.func87 c87 fun n hp _ => ?_
  obtain ⟨h1, h2⟩ := hp
  simp only [RunTo, a87, runO_3, runO_4, runO_5, runO_14, runO_17, runO_18, runO_19, aop, binV, ends, ev, fget, fput, params, addB, addN, frz, opOwns, preFz, skipOp, WfT, resV, res1, snapV, snapOk, Fin, vp_int, ↓reduceIte, reduceCtorEq, Nat.reduceEqDiff, Int.reduceEq, true_and, and_self, forall_const, decide_eq_true_eq, decide_eq_false_iff_not, Val.int.injEq, ne_eq, not_false_eq_true, not_false_eq_true, TInt]
  obtain ⟨q, hq⟩ : ∃ q, n.tdiv 1000 = q := ⟨_, rfl⟩
  have hb : (0 ≤ n ∧ q = n / 1000) ∨ (n < 0 ∧ q = -((-n) / 1000)) := by
    rcases Int.lt_or_le n 0 with h | h
    · right
      refine ⟨h, ?_⟩
      rw [← hq]
      have := Int.neg_tdiv (-n) 1000
      rw [Int.neg_neg] at this
      rw [this, Int.tdiv_eq_ediv_of_nonneg (by omega)]
    · left
      exact ⟨h, by rw [← hq, Int.tdiv_eq_ediv_of_nonneg h]⟩
  rw [hq, wr64 (e := q) (by omega) (by omega), wr64 (e := q * 1000) (by omega) (by omega), wr64 (e := q - 1) (by omega) (by omega)]
  unfold downF
  exact ⟨fun h => by omega, fun h => by omega⟩
def sCut : Spec := spec2 TSp TSp (fun _ _ => True) fun a b => .agg (cutF a b).L
set_option maxRecDepth 100000 in
theorem pCut : PureOk Tryd.prog G 70 sCut := by
  refine fn2 (S := []) (I := []) mixed .nil .nil Tryd.func70 c70 fun a b _ _ => ?_
  simp only [RunTo, a70, cutF, runO_3, runO_5, runO_17, runO_18, runO_19, aop, ends, reOk, Nat.zero_sub, ev, fget, fput, params, cellsOf, cellsN, isLB, vget, vset, vsets, vlen, bget, bset, addB, addN, mkv, sliceV, vtab, fillV, fillOk, frz, opOwns, preFz, skipOp, WfT, resV, res1, onesB, snapV, snapOk, Fin, vsubP_self, ↓reduceIte, reduceCtorEq, Nat.reduceEqDiff, Nat.reduceAdd, Nat.reduceLeDiff, Nat.zero_add, Nat.add_zero, List.length_cons, List.length_nil, Bool.and_self, and_self, forall_const, Nat.le_refl, Sp.L, TSp]
def sWide : Spec := spec0 (.agg wideF.L)
set_option maxRecDepth 100000 in
theorem pWide : PureOk Tryd.prog G 96 sWide := by
  refine fn0 (S := []) (I := []) mixed .nil .nil Tryd.func96 c96 ?_
  simp only [RunTo, a96, wideF, runO_3, runO_5, runO_17, runO_18, runO_19, aop, ends, reOk, Nat.zero_sub, ev, fget, fput, params, cellsOf, cellsN, isLB, vget, vset, vsets, vlen, bget, bset, addB, addN, mkv, sliceV, vtab, fillV, fillOk, frz, opOwns, preFz, skipOp, WfT, resV, res1, onesB, snapV, snapOk, Fin, vsubP_self, ↓reduceIte, reduceCtorEq, Nat.reduceAdd, Nat.reduceLeDiff, Nat.zero_add, Int.reduceNeg, List.length_cons, List.length_nil, Bool.and_self, and_self, forall_const, Nat.le_refl, Sp.L]
def sMinutes : Spec := spec1 TSp SpFit fun s => .agg (minsF s).L
set_option maxRecDepth 100000 in
theorem pMinutes : PureOk Tryd.prog G 57 sMinutes := by
  refine fn1 (S := [(87, sFloor)]) (I := []) mixed (.cons pFloor .nil) .nil Tryd.func57 c57 fun s hp _ => ?_
  obtain ⟨h1, h2⟩ := hp
  simp only [RunTo, a57, sFloor, minsF, runO_3, runO_5, runO_17, runO_18, runO_19, aop, ends, reOk, Nat.zero_sub, ev, fget, fput, params, cellsOf, cellsN, isLB, vget, vset, vsets, vlen, bget, bset, addB, addN, mkv, sliceV, vtab, fillV, fillOk, frz, opOwns, preFz, callFz, skipOp, WfT, resV, res1, norm, norm1, normL, pureB, pureL, onesB, snapV, snapOk, specV, argsL, capsL, mkE_S, lkp, Fin, vp_int, vp_cons, vp_agg, vsubP_self, Val.toInt, ↓reduceIte, reduceCtorEq, Nat.reduceEqDiff, Nat.reduceAdd, Nat.reduceLeDiff, Nat.zero_add, Nat.add_zero, List.length_cons, List.length_nil, List.append_nil, Bool.and_self, and_true, true_and, and_self, forall_const, Nat.le_refl, Val.int.injEq, spec1, TInt, IsInt, Sp.L, TSp]
  have h3 : Fit (-s.hi) := by unfold Fit at *; omega
  have hd : -2000000000 ≤ downF (-s.hi) ∧ downF (-s.hi) ≤ 2000000000 := by unfold Fit downF at *; omega
  unfold Fit at h2
  rw [wr64 (e := 0 - s.hi) (by omega) (by omega), show 0 - s.hi = -s.hi from by omega, wr64 (by omega) (by omega)]
  exact ⟨h1, h3, by omega⟩
def sTelling : Spec := spec2 TCk TTl (fun _ _ => True) fun c t => .bool (decide (TlOk c t))
set_option maxRecDepth 100000 in
theorem pTelling : PureOk Tryd.prog G 51 sTelling := by
  refine fn2 (S := [(84, sWithin), (82, sOrdered)]) (I := []) mixed (.cons pWithin (.cons pOrdered .nil)) .nil Tryd.func51 c51 fun c t _ hw => ?_
  simp only [RunTo, a51, sWithin, sOrdered, runO_3, runO_4, runO_5, runO_6, runO_8, runO_14, runO_17, runO_18, runO_19, aop, binV, ends, Nat.zero_sub, ev, fget, fput, params, cellsOf, cellsN, isLB, vget, vlen, bget, addB, addN, mkv, sliceV, vtab, frz, opOwns, preFz, callFz, skipOp, WfT, resV, res1, norm, norms, norm1, normL, pureB, pureL, snapV, snapOk, specV, argsL, capsL, mkE_S, lkp, pickV, lenV, Fin, vp_bool, Val.toInt, ↓reduceIte, reduceCtorEq, Nat.reduceEqDiff, Nat.reduceAdd, Nat.reduceSub, Nat.reduceLeDiff, Nat.zero_add, Nat.add_zero, Int.reduceNeg, beq_iff_eq, beq_eq_false_iff_ne, List.length_cons, List.length_nil, List.append_nil, Bool.and_self, Bool.bne_true, bne_self_eq_false, Bool.not_false, and_true, true_and, and_self, forall_const, imp_self, implies_true, Nat.le_refl, decide_eq_true_eq, decide_eq_false_iff_not, Val.bool.injEq, ne_eq, maxLen, Nat.reducePow, spec3, TInt, IsInt, Sp.L, Sp.Is, Sp.of, TSp, RSp, Sp.d, Sp.eta, RSr, Sr.d, Tl.L, TTl, Ck.L, TCk]
  refine ⟨fun h _ => ?_, fun h => ⟨fun h2 _ => ?_, fun h2 => ⟨fun h3 _ => ⟨fun h4 => ?_, fun h4 => ?_⟩, fun h3 => ⟨fun h4 => ?_, fun h4 => ?_⟩⟩⟩⟩
  all_goals (try simp (disch := omega) only [wr64] at *)
  all_goals first | (unfold TlOk SpIn; omega) | exact decide_eq_decide.2 (by unfold TlOk SpIn; omega) | exact (decide_eq_false (by unfold TlOk SpIn; omega)).symm | exact (decide_eq_true (by unfold TlOk SpIn; omega)).symm | exact decide_eq_false (by unfold TlOk SpIn; omega) | exact decide_eq_true (by unfold TlOk SpIn; omega)
end Go.Proofs.YtbhhcnonooiokaaDoor
