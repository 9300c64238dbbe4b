/- Hours, the program: open, of, down, minutes, some, common. No condition but lengths. -/
import Derived.Test.YtbhhcnonooiokaaDoorHProg1
set_option linter.unusedSimpArgs false
set_option linter.unusedVariables false
namespace Go.Proofs.YtbhhcnonooiokaaDoor
open Go Go.RowKit
variable {G : Nat → Option (Nat × (Nat → Val))}
/-- the known globals: never -/
def NG : Nat → Option (Nat × (Nat → Val))
  | 0 => some (2, vget (.cons (.int .i64 1) (.cons (.int .i64 0) .nil)))
  | _ => none
theorem NG_0 : NG 0 = some (2, vget (.cons (.int .i64 1) (.cons (.int .i64 0) .nil))) := rfl
def sDown : Spec := spec1 TI Fit fun n => .int .i64 (downF n)
set_option maxRecDepth 100000 in
theorem pDown : PureOk Tryd.prog G 86 sDown := by
  refine fn1 (S := []) (I := []) mixed .nil .nil Tryd.func86 c86 fun n hp _ => ?_
  obtain ⟨h1, h2⟩ := hp
  simp only [RunTo, a86, runO_3, runO_4, runO_5, runO_14, runO_17, runO_18, runO_19, aop, binV, ends, ev, fget, fput, params, addB, addN, frz, opOwns, preFz, skipOp, WfT, resV, res1, snapV, snapOk, Fin, vp_int, ↓reduceIte, reduceCtorEq, Int.reduceEq, true_and, and_self, forall_const, decide_eq_true_eq, decide_eq_false_iff_not, Val.int.injEq, ne_eq, not_false_eq_true, not_false_eq_true, TInt]
  obtain ⟨q, hq⟩ : ∃ q, n.tdiv 1000 = q := ⟨_, rfl⟩
  refine ⟨fun h => ?_, fun h => ?_⟩
  · rw [wr64 (e := 0 - n) (by omega) (by omega), wr64 (e := 0 - n + 1000) (by omega) (by omega), wr64 (e := 0 - n + 1000 - 1) (by omega) (by omega), Int.tdiv_eq_ediv_of_nonneg (by omega)]
    unfold downF
    rw [wr64 (e := (0 - n + 1000 - 1) / 1000) (by omega) (by omega), wr64 (by omega) (by omega)]
    omega
  · rw [Int.tdiv_eq_ediv_of_nonneg (by omega)]
    unfold downF
    rw [wr64 (by omega) (by omega)]
def sMinsP : Spec := spec1 TSp SpFit fun s => .agg (minsF s).L
set_option maxRecDepth 100000 in
theorem pMinsP : PureOk Tryd.prog G 55 sMinsP := by
  refine fn1 (S := [(86, sDown)]) (I := []) mixed (.cons pDown .nil) .nil Tryd.func55 c55 fun s hp _ => ?_
  obtain ⟨h1, h2⟩ := hp
  simp only [RunTo, a55, sDown, minsF, runO_3, runO_5, runO_17, runO_18, runO_19, aop, ends, reOk, Nat.zero_sub, ev, fget, fput, params, cellsOf, cellsN, isLB, vget, vset, vsets, vlen, bget, bset, addB, addN, mkv, sliceV, vtab, fillV, fillOk, frz, opOwns, preFz, callFz, skipOp, WfT, resV, res1, norm, norm1, normL, pureB, pureL, onesB, snapV, snapOk, specV, argsL, capsL, mkE_S, lkp, Fin, vp_int, vp_cons, vp_agg, vsubP_self, Val.toInt, ↓reduceIte, reduceCtorEq, Nat.reduceEqDiff, Nat.reduceAdd, Nat.reduceLeDiff, Nat.zero_add, Nat.add_zero, Nat.mul_one, Int.reduceToNat, Int.cast_ofNat_Int, Int.reduceLT, Int.reduceLE, List.length_cons, List.length_nil, List.append_nil, Bool.and_self, and_true, true_and, and_self, forall_const, Nat.le_refl, Val.int.injEq, spec1, TInt, IsInt, Sp.L, TSp]
  have h3 : Fit (-s.hi) := by unfold Fit at *; omega
  have hd : -2000000000 ≤ downF (-s.hi) ∧ downF (-s.hi) ≤ 2000000000 := by unfold Fit downF at *; omega
  unfold Fit at h2
  rw [wr64 (e := 0 - s.hi) (by omega) (by omega), show 0 - s.hi = -s.hi from by omega, wr64 (by omega) (by omega)]
  exact ⟨h1, h3, by omega⟩
def ofF (s : Sp) : Sp := ⟨IntKind.i64.wrap (1000 * s.lo), IntKind.i64.wrap (1000 * s.hi)⟩
def sOf : Spec := spec1 TSp (fun _ => True) fun s => .agg (ofF s).L
set_option maxRecDepth 100000 in
theorem pOf : PureOk Tryd.prog G 94 sOf := by
  refine fn1 (S := []) (I := []) mixed .nil .nil Tryd.func94 c94 fun s hp _ => ?_
  simp only [RunTo, a94, ofF, runO_3, runO_5, runO_17, runO_18, runO_19, aop, binV, ends, reOk, Nat.zero_sub, ev, fget, fput, params, cellsOf, cellsN, isLB, vget, vset, vsets, vlen, bget, bset, addB, addN, mkv, sliceV, vtab, fillV, fillOk, frz, opOwns, preFz, skipOp, WfT, resV, res1, onesB, snapV, snapOk, Fin, vsubP_self, ↓reduceIte, reduceCtorEq, Nat.reduceEqDiff, Nat.reduceAdd, Nat.reduceLeDiff, Nat.zero_add, Nat.add_zero, List.length_cons, List.length_nil, Bool.and_self, and_self, forall_const, Nat.le_refl, Sp.L, TSp]
def sSome : Spec := spec1 TSp (fun _ => True) fun s => .bool (decide (s.lo ≤ s.hi))
set_option maxRecDepth 100000 in
theorem pSome : PureOk Tryd.prog G 93 sSome := by
  refine fn1 (S := []) (I := []) mixed .nil .nil Tryd.func93 c93 fun s _ _ => ?_
  simp only [RunTo, a93, runO_3, runO_5, runO_17, runO_18, runO_19, aop, binV, ends, ev, fget, fput, params, cellsOf, cellsN, isLB, vget, vlen, bget, addB, addN, mkv, sliceV, vtab, frz, opOwns, preFz, skipOp, WfT, resV, res1, snapV, snapOk, Fin, vp_bool, ↓reduceIte, Nat.reduceEqDiff, Nat.reduceAdd, Nat.reduceLeDiff, Nat.zero_add, Nat.add_zero, Nat.mul_one, Int.reduceToNat, Int.cast_ofNat_Int, Int.reduceLT, Int.reduceLE, List.length_cons, List.length_nil, and_self, forall_const, Nat.le_refl, Sp.L, TSp]
/-- what some have in common -/
def cutsF (a : Sp) (l : Nat → Sp) : Nat → Sp
  | 0 => a
  | n + 1 => cutF (cutsF a l n) (l n)
def comF (a : Sp) (l : Nat × (Nat → Sp)) : Sp := if (cutsF a l.2 l.1).lo ≤ (cutsF a l.2 l.1).hi then cutsF a l.2 l.1 else ⟨1, 0⟩
def sCommon : Spec := spec2 TSp (TSl RSp) (fun _ _ => True) fun a l => .agg (comF a l).L
set_option maxRecDepth 100000 in
theorem pCommon : PureOk Tryd.prog NG 68 sCommon := by
  refine fn2 (S := [(93, sSome)]) (I := []) mixed (.cons pSome .nil) .nil Tryd.func68 c68 fun a l _ hw => ?_
  simp only [vl, WfT, Val.toInt, Val.slen, Val.scell, Nat.reduceSub, and_true, true_and, and_self, maxLen, Nat.reducePow, TSl, Sp.L, TSp, RSp, Sp.d] at hw
  simp only [RunTo, a68, sSome, runO_5, runO_6, runO_15, runO_17, runO_18, runO_19, aop, ev, fget, fput, params, cellsOf, cellsN, isLB, vlen, addB, addN, frz, opOwns, preFz, skipOp, WfT, lenV, Fin, Val.toInt, Val.slen, Val.scell, ↓reduceIte, reduceCtorEq, Nat.reduceEqDiff, Nat.reduceAdd, Nat.reduceSub, Nat.zero_add, and_true, true_and, and_self, forall_const, imp_self, implies_true, maxLen, Nat.reducePow, spec1, TSl, Sp.L, Sp.Is, Sp.of, TSp, RSp, Sp.d]
  intro w1
  refine loopI (ι := Nat) (fun j => j ≤ l.1) (fun j => l.1 - j) [2, 4, 7, 8] (fun j => [(9, .int .i64 j)]) (fun j => [(0, .cells (cutsF a l.2 j).L)]) 0 (by omega) (by simp only [Chk, chkFr, chkBx, chkBx1, hasB, idsLt, kept, vs_int, vs_nil, vs_ptr, vs_cons, vs_view, fget, isLB, bget, bset, vsubP_self, ↓reduceIte, reduceCtorEq, Nat.reduceEqDiff, Nat.reduceLT, Int.cast_ofNat_Int, and_self, forall_const, implies_true, Option.some.injEq, exists_eq', keepF, appF, updB, Sp.L, cutsF]) fun j hj => ?_
  simp only [NG_0, runO_3, runO_4, runO_5, runO_6, runO_8, runO_9, runO_14, runO_16, runO_17, runO_18, runO_19, aop, binV, ends, reOk, Nat.zero_sub, ev, fget, fput, cellsOf, cellsN, isLB, vget, vset, vsets, vlen, bget, bset, addB, addN, mkv, sliceV, vtab, fillV, fillOk, frz, opOwns, preFz, callFz, skipOp, WfT, resV, res1, casts, castOks, cast1, castOk, norm, norms, norm1, normL, pureB, pureL, onesB, snapV, snapOk, specV, argsL, capsL, mkE_S, mkE_G, lkp, popTo, stkFr, vp_int, vp_cons, vp_agg, vsubP_self, Val.toInt, ↓reduceIte, reduceCtorEq, Nat.reduceEqDiff, Nat.reduceAdd, Nat.reduceLeDiff, Nat.zero_add, Nat.add_zero, Nat.mul_one, Int.reduceToNat, Int.cast_ofNat_Int, Int.reduceLT, Int.reduceLE, List.length_cons, List.length_nil, List.append_nil, Bool.not_eq_true', Bool.not_eq_false', Bool.and_self, and_true, true_and, and_self, and_assoc, forall_const, imp_self, implies_true, Nat.le_refl, decide_eq_true_eq, decide_eq_false_iff_not, Val.int.injEq, keepF, appF, updB, inat, Sp.L, Sp.c0, Sp.c1]
  refine ⟨fun hlt => ⟨by omega, by omega, inv_intro (j + 1) (by omega) (by omega) ?_⟩, fun hge => ?_⟩
  · simp only [Chk, chkFr, chkBx, chkBx1, hasB, idsLt, kept, vs_int, vs_nil, vs_ptr, vs_cons, vs_view, Nat.lt_irrefl, fget, isLB, bget, vsubP_self, ↓reduceIte, reduceCtorEq, Nat.reduceEqDiff, Nat.reduceLT, and_true, true_and, and_self, forall_const, implies_true, Option.some.injEq, Val.int.injEq, exists_eq', false_implies, cutsF, cutF]
    rw [wrS (by omega)]
  · obtain rfl : j = l.1 := by omega
    refine ⟨fun h => ?_, fun h => ?_⟩
    · unfold comF; rw [if_neg (of_decide_eq_false h)]; exact ⟨rfl, rfl⟩
    · unfold comF; rw [if_pos (of_decide_eq_true h)]; exact ⟨rfl, rfl⟩
def ck0 : Ck := ⟨(0, fun _ => ⟨0, 0⟩), (0, fun _ => ⟨⟨0, 0⟩, ⟨0, 0⟩⟩), ⟨0, 0⟩, ⟨0, 0⟩⟩
noncomputable def sOpen : Spec := spec2 TCk TI (fun _ _ => True) fun c day => .tup (.cons (.agg (Kp.mk (if askE c day = 0 then c else ck0) (if askE c day = 0 then day else 0)).L) (.cons (.int .i64 (askE c day)) .nil))
set_option maxRecDepth 100000 in
theorem pOpen : PureOk Tryd.prog G 53 sOpen := by
  refine fn2 (S := [(21, sCheckP), (78, sIn)]) (I := []) mixed (.cons pCheckP (.cons pIn .nil)) .nil Tryd.func53 c53 fun c day _ hw => ?_
  simp only [vl, WfT, Val.toInt, Nat.reduceSub, and_true, and_self, maxLen, Nat.reducePow, TInt, RSp, Sp.d, RSr, Sr.d, Ck.L, TCk] at hw
  obtain ⟨w1, w2⟩ := hw
  simp only [RunTo, a53, sCheckP, sIn, w1, w2, flatO, runO_3, runO_4, runO_5, runO_14, runO_17, runO_18, runO_19, aop, binV, ends, reOk, Nat.zero_sub, ev, fget, fput, params, cellsOf, cellsN, isLB, vget, vset, vsets, vlen, bget, bset, addB, addN, mkv, sliceV, vtab, fillV, fillOk, rowsV, rowsOk, vrep, frz, opOwns, preFz, callFz, owns, skipOp, WfT, resV, resL, res1, norm, norms, norm1, normL, pureB, pureL, flatB, onesB, snapV, snapOk, snapL, snapOks, specV, argsL, capsL, mkE_S, mkE_G, lkp, Fin, vp_int, vp_cons, vp_agg, vp_tup, vp_view, vp_viewn, vsubP_self, Val.toInt, Val.slen, Val.scell, ↓reduceIte, reduceCtorEq, Nat.reduceEqDiff, Nat.reduceAdd, Nat.reduceSub, Nat.reduceLeDiff, Nat.reduceLT, Nat.zero_add, bne_iff_ne, bne_eq_false_iff_eq, List.length_cons, List.length_nil, List.append_nil, List.flatMap_cons, List.flatMap_nil, Bool.not_eq_true', Bool.not_eq_false', Bool.and_true, Bool.and_false, Bool.and_self, Bool.not_true, and_true, true_and, and_self, and_assoc, forall_const, imp_self, implies_true, Nat.le_refl, Val.int.injEq, ne_eq, maxLen, Nat.reducePow, spec1, spec3, TSl, IsSl, TInt, IsInt, RInt, Prod.eta, Sp.c0, Sp.c1, RSp, Sp.w_c, Sp.d, Sp.eta, Sr.c0, Sr.c1, Sr.c2, Sr.c3, RSr, Sr.w_c, Sr.d, Sr.eta, Ck.L, Ck.Is, Ck.of, TCk, Ck.d, Ck.eta, Kp.L]
  simp only [lt1, allB_1, vget, true_and, decide_eq_true_eq, decide_eq_false_iff_not]
  refine ⟨fun h => ?_, fun h => ⟨fun h2 => ?_, fun h2 => ?_⟩⟩
  · have h1 : ¬ ckB c = true := fun h1 => h (by simp [h1])
    have h3 : askE c day = 30 := by unfold askE; rw [if_neg h1]
    simp [h3, ck0, h1]
  · have h1 : ckB c = true := by
      by_cases h3 : ckB c = true
      · exact h3
      · simp [h3] at h
    have h3 : askE c day = 2 := by
      unfold askE DayOk; rw [if_pos h1]; simp only [h2, if_false]
    simp [h3, ck0]
  · have h1 : ckB c = true := by
      by_cases h3 : ckB c = true
      · exact h3
      · simp [h3] at h
    have h3 : askE c day = 0 := by
      unfold askE DayOk; rw [if_pos h1]; simp only [h2, and_self, if_true]
    simp only [h3, if_true, true_and]
    simp only [vsubP_self, implies_true, true_and]
end Go.Proofs.YtbhhcnonooiokaaDoor
