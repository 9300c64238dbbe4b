/- Nights, the program: steps, and what changes tell. No condition but sizes. -/
import Derived.Test.YtbhhcnonooiokaaDoorNRef1
import Derived.Test.YtbhhcnonooiokaaDoorHProg4
set_option linter.unusedSimpArgs false
set_option linter.unusedVariables false
namespace Go.Proofs.YtbhhcnonooiokaaDoor
open Go Go.RowKit
variable {G : Nat → Option (Nat × (Nat → Val))}
def sStep : Spec := spec2 TKp TCh (fun k x => CkOk k.ck ∧ 0 ≤ x.bowls ∧ x.bowls ≤ 200) fun k x => .agg (laterF k.ck x).L
set_option maxRecDepth 100000 in
theorem pStep : PureOk Tryd.prog G 73 sStep := by
  refine fn2 (S := []) (I := []) mixed .nil .nil Tryd.func73 c73 fun k x hp hw => ?_
  obtain ⟨hc, hb⟩ := hp
  have h := later_bd hc hb
  simp only [vl, WfT, Val.toInt, Nat.reduceSub, and_true, and_self, and_assoc, maxLen, Nat.reducePow, RSp, Sp.d, RSr, Sr.d, RTl, Tl.d, Ch.L, TCh, Kp.L, TKp] at hw
  simp only [RunTo, a73, runO_3, runO_4, runO_5, runO_14, runO_17, runO_18, runO_19, aop, binV, ends, reOk, Nat.zero_sub, ev, fget, fput, params, cellsOf, cellsN, isLB, vget, vset, vsets, vlen, bget, bset, addB, addN, mkv, sliceV, vtab, fillV, fillOk, frz, opOwns, preFz, skipOp, WfT, resV, res1, onesB, snapV, snapOk, Fin, vp_int, vp_cons, vp_agg, vsubP_self, Val.toInt, ↓reduceIte, reduceCtorEq, Nat.reduceEqDiff, Nat.reduceAdd, Nat.reduceLeDiff, Nat.zero_add, Nat.add_zero, Nat.mul_one, Int.reduceToNat, Int.cast_ofNat_Int, Int.reduceLT, Int.reduceLE, List.length_cons, List.length_nil, Bool.not_eq_true', Bool.not_eq_false', Bool.and_self, and_true, true_and, and_self, forall_const, Nat.le_refl, Val.int.injEq, Sp.L, RSp, Sp.d, RSr, Sr.d, RTl, Tl.d, Ch.L, TCh, Kp.L, TKp]
  have e1 : IntKind.i64.wrap (x.bowls * k.ck.sinks.lo) = x.bowls * k.ck.sinks.lo := wr64 (by omega) (by omega)
  have e2 : IntKind.i64.wrap (x.bowls * k.ck.sinks.hi) = x.bowls * k.ck.sinks.hi := wr64 (by omega) (by omega)
  have hs := spin_of hc.sinks
  rw [e1, e2, wr64 (by omega) (by omega)]
  refine ⟨fun h => ⟨rfl, ?_⟩, fun h => ⟨rfl, ?_⟩⟩ <;> simp [laterF, h]
/-- as the program has it: never, if it is empty -/
def nvF (s : Sp) : Sp := if s.lo ≤ s.hi then s else ⟨1, 0⟩
theorem cuts_all (c : Ck) (day : Int) (l : Nat → Tl) : ∀ n, cutsF wideF (fun i => tellF c day (l i)) n = allF c day l n := by
  intro n; induction n with
  | zero => rfl
  | succ n ih => show cutF _ _ = cutF _ _; rw [ih]
noncomputable def badI (c : Ck) (l : Chs) : Nat := fstI (fun i => ¬ ChOk c (l.2 i) (decide (i = 0))) l.1
noncomputable def validL (c : Ck) (day : Int) (l : Chs) : Nat × (Nat → Sp) := if badI c l < l.1 then noSp else (l.1, fun i => nvF (baseF c day (l.2 i)))
noncomputable def sValid : Spec := spec2 TKp (TSl RCh) (fun k l => (CkOk k.ck ∧ DayOk k.day) ∧ l.1 ≤ 20 ∧ ∀ i, i < l.1 → (l.2 i).told.1 ≤ 1000) fun k l =>
  .tup (.cons (.view 2 (validL k.ck k.day l).1 fun i j => ((validL k.ck k.day l).2 i).c j) (.cons (.int .i64 (if badI k.ck l < l.1 then (badI k.ck l : Int) else 0)) (.cons (.bool (decide (¬ badI k.ck l < l.1))) .nil)))
theorem com_base {c : Ck} {day : Int} {x : Ch} (h : toldB c x.told = true) : comF (ofF ⟨-10000000, 10000000⟩) (toldL c day x.told) = nvF (baseF c day x) := by
  unfold toldL; rw [if_pos h]
  have e : ofF ⟨-10000000, 10000000⟩ = wideF := by simp only [ofF, wideF]; rw [wr64 (by omega) (by omega), wr64 (by omega) (by omega)]; rfl
  rw [e]
  unfold comF nvF baseF
  simp only [cuts_all]
theorem badI_at {c : Ck} {l : Chs} {i : Nat} (hi : i < l.1) (hb : ¬ ChOk c (l.2 i) (decide (i = 0))) (hg : ∀ j < i, ChOk c (l.2 j) (decide (j = 0))) : badI c l = i := fstI_at hi hb fun j hj h => h (hg j hj)
theorem badI_no {c : Ck} {l : Chs} (hg : ∀ j < l.1, ChOk c (l.2 j) (decide (j = 0))) : badI c l = l.1 := fstI_no fun j hj h => h (hg j hj)
set_option maxRecDepth 100000 in
theorem pValid : PureOk Tryd.prog NG 71 sValid := by
  refine fn2 (S := [(92, sTold), (78, sIn), (94, sOf), (68, sCommon)]) (I := []) mixed (.cons (pTold pTellP) (.cons pIn (.cons pOf (.cons pCommon .nil)))) .nil Tryd.func71 c71 fun k l hp hw => ?_
  obtain ⟨⟨hc, hd⟩, hn, hl⟩ := hp
  simp only [vl, WfT, Val.toInt, Val.toBool, Val.slen, Val.scell, Nat.reduceSub, and_true, and_self, and_assoc, maxLen, Nat.reducePow, TSl, RSp, Sp.d, RSr, Sr.d, RTl, Tl.d, RCh, Ch.d, Kp.L, TKp] at hw
  obtain ⟨w1, w2, w3⟩ := hw
  simp only [RunTo, a71, sTold, sIn, sOf, sCommon, w3, runO_5, runO_6, runO_15, runO_17, runO_18, runO_19, aop, ev, fget, fput, params, cellsOf, cellsN, isLB, vlen, addB, addN, frz, opOwns, preFz, skipOp, WfT, lenV, Fin, Val.toInt, Val.toBool, Val.slen, Val.scell, ↓reduceIte, reduceCtorEq, Nat.reduceEqDiff, Nat.reduceAdd, Nat.reduceSub, Nat.zero_add, Int.reduceNeg, and_true, true_and, and_self, and_assoc, forall_const, imp_self, implies_true, maxLen, Nat.reducePow, spec1, spec2, spec3, TSl, IsSl, TInt, IsInt, RInt, Sp.L, Sp.Is, Sp.of, TSp, RSp, Sp.d, RSr, Sr.d, RTl, Tl.d, RCh, Ch.d, Kp.L, Kp.Is, Kp.of, TKp, Kp.d]
  refine loopJ (ι := Nat) (fun j => j ≤ l.1 ∧ ∀ i < j, ChOk k.ck (l.2 i) (decide (i = 0))) (fun j => l.1 - j) [2, 12, 13] (fun j => [(7, .own 1), (14, .int .i64 j)]) (fun j => [(1, .row 107 2 j fun i b => (nvF (baseF k.ck k.day (l.2 i))).c b)]) 1 0 ⟨by omega, fun i h => by omega⟩ (by simp only [Chk, chkFr, chkBx, chkBx1, newIn, hasB, idsLt, kept, vs_int, vs_nil, vs_own, vs_ptr, vs_cons, vs_view, fget, isLB, bget, bset, vsubP_self, ↓reduceIte, reduceCtorEq, Nat.reduceEqDiff, Nat.reduceAdd, Nat.reduceLT, Int.cast_ofNat_Int, and_true, and_self, forall_const, implies_true, Option.some.injEq, exists_eq', or_true, keepF, appF, updB]) fun j hj => ?_
  obtain ⟨hj1, hj2⟩ := hj
  simp only [w1, w2, lt1, allB_1, flatO, ↓imp_tt, ↓imp_tf, ↓imp_ft, ↓imp_ff, runO_3, runO_4, runO_5, runO_6, runO_8, runO_9, runO_14, runO_16, runO_17, runO_18, runO_19, aop, binV, ends, reOk, Nat.zero_sub, ev, fget, fput, cellsOf, cellsN, isLB, vget, vset, vsets, vlen, bget, bset, addB, addN, mkv, sliceV, vtab, fillV, fillOk, rowsV, rowsOk, vrep, frz, opOwns, preFz, callFz, owns, skipOp, WfT, resV, resL, res1, casts, castOks, cast1, castOk, norm, norms, norm1, normL, pureB, pureL, flatB, onesB, snapV, snapOk, snapL, snapOks, specV, argsL, capsL, mkE_S, mkE_G, lkp, pickV, lenV, subFr, subV, subBx, subStk, elemsV, popTo, stkFr, vp_int, vp_bool, vp_cons, vp_tup, vp_view, vp_viewn, vsubP_self, Val.toInt, Val.toBool, Val.slen, Val.scell, ↓reduceIte, reduceCtorEq, Nat.reduceEqDiff, Nat.reduceAdd, Nat.reduceSub, Nat.reduceLeDiff, Nat.reduceLT, Nat.zero_add, Nat.add_zero, Int.reduceNeg, beq_iff_eq, beq_eq_false_iff_ne, List.length_cons, List.length_nil, List.append_nil, List.flatMap_cons, List.flatMap_nil, Bool.not_eq_true', Bool.not_eq_false', Bool.and_true, Bool.and_false, Bool.and_self, Bool.bne_true, Bool.bne_false, bne_self_eq_false, Bool.not_true, Bool.not_false, and_true, true_and, and_self, and_assoc, forall_const, imp_self, implies_true, Nat.le_refl, decide_eq_true_eq, decide_eq_false_iff_not, Val.int.injEq, Val.bool.injEq, ne_eq, or_true, or_false, maxLen, Nat.reducePow, keepF, appF, updB, inat, Prod.eta, Sp.c0, Sp.c1, Sp.w_c, Sp.eta, Sr.c0, Sr.c1, Sr.c2, Sr.c3, Sr.w_c, Sr.eta, Tl.c0, Tl.c1, Tl.c2, Tl.c3, Tl.c4, RTl, Tl.w_c, Tl.d, Tl.eta, Ch.c0, Ch.c1, Ch.c2, Ck.eta]
  have hbad : j < l.1 → ¬ ChOk k.ck (l.2 j) (decide (j = 0)) → (validL k.ck k.day l).1 = 0 ∧ ((j : Int) = if badI k.ck l < l.1 then (badI k.ck l : Int) else 0) ∧ false = decide (¬ badI k.ck l < l.1) := fun hj h => by
    have e := badI_at hj h hj2
    unfold validL; rw [e, if_pos hj, if_pos hj, decide_eq_false (by omega)]; exact ⟨rfl, rfl, rfl⟩
  have tB : toldB k.ck (l.2 j).told = true ↔ AllOk k.ck (l.2 j).told := by unfold toldB; exact @decide_eq_true_iff _ (Classical.propDecidable _)
  have tL : toldB k.ck (l.2 j).told = true → (toldL k.ck k.day (l.2 j).told).1 = (l.2 j).told.1 := fun h => by unfold toldL; rw [if_pos h]
  refine ⟨fun hlt => ⟨by omega, by omega, fun _ _ => ⟨hc, hd, hl j (by omega), fun _ _ _ _ => ⟨fun h => hbad (by omega) fun k => Bool.noConfusion (h.symm.trans (tB.2 k.2.1)), fun h _ => ⟨fun h2 => hbad (by omega) fun k => ?_, fun h2 => ⟨fun h3 => hbad (by omega) fun k => h3 k.2.2.1, fun h3 => ⟨fun h4 => ⟨fun h5 => hbad (by omega) fun k => ?_, fun h5 => ⟨fun h6 => hbad (by omega) fun k => ?_, fun h6 _ => ⟨by omega, by omega, inv_intro (j + 1) ⟨by omega, fun i hi => ?_⟩ (by omega) ?_⟩⟩⟩, fun h4 _ => ⟨by omega, by omega, inv_intro (j + 1) ⟨by omega, fun i hi => ?_⟩ (by omega) ?_⟩⟩⟩⟩⟩⟩⟩, fun hge => ?_⟩
  · have := tL h; have := k.1; omega
  · have := (k.2.2.2 (decide_eq_true (by omega))).1; omega
  · have := (k.2.2.2 (decide_eq_true (by omega))).2; rw [this] at h6; cases h6
  · rcases Nat.lt_or_ge i j with h7 | h7
    · exact hj2 i h7
    · obtain rfl : i = j := by omega
      have := tL h
      exact ⟨by omega, tB.1 h, h3, fun _ => ⟨by omega, h6⟩⟩
  · rw [com_base h]
    simp only [Chk, chkFr, chkBx, chkBx1, newIn, hasB, idsLt, kept, vs_int, vs_nil, vs_own, vs_ptr, vs_cons, vs_view, Nat.lt_irrefl, fget, isLB, bget, vsubP_self, ↓reduceIte, reduceCtorEq, Nat.reduceEqDiff, Nat.reduceLT, and_true, true_and, and_self, forall_const, implies_true, Option.some.injEq, Val.int.injEq, exists_eq', false_implies, or_false]
    rw [wrS (by omega)]
    refine ⟨rfl, fun i hi b hb => ?_⟩
    split
    · exact (vsubP_self _).mpr trivial
    · obtain rfl : i = j := by omega
      rw [Nat.sub_self]
      obtain rfl | rfl : b = 0 ∨ b = 1 := by omega
      · rfl
      · rfl
  · rcases Nat.lt_or_ge i j with h7 | h7
    · exact hj2 i h7
    · obtain rfl : i = j := by omega
      have := tL h
      exact ⟨by omega, tB.1 h, h3, fun h8 => absurd (of_decide_eq_true h8) (by omega)⟩
  · rw [com_base h]
    simp only [Chk, chkFr, chkBx, chkBx1, newIn, hasB, idsLt, kept, vs_int, vs_nil, vs_own, vs_ptr, vs_cons, vs_view, Nat.lt_irrefl, fget, isLB, bget, vsubP_self, ↓reduceIte, reduceCtorEq, Nat.reduceEqDiff, Nat.reduceLT, and_true, true_and, and_self, forall_const, implies_true, Option.some.injEq, Val.int.injEq, exists_eq', false_implies, or_false]
    rw [wrS (by omega)]
    refine ⟨rfl, fun i hi b hb => ?_⟩
    split
    · exact (vsubP_self _).mpr trivial
    · obtain rfl : i = j := by omega
      rw [Nat.sub_self]
      obtain rfl | rfl : b = 0 ∨ b = 1 := by omega
      · rfl
      · rfl
  · obtain rfl : j = l.1 := by omega
    have e := badI_no hj2
    unfold validL; rw [e, if_neg (Nat.lt_irrefl _), if_neg (Nat.lt_irrefl _), decide_eq_true (Nat.lt_irrefl _)]
    exact ⟨rfl, fun i _ b _ => (vsubP_self _).mpr trivial, rfl, rfl⟩
def sForward : Spec := spec3 TKp (TSl RCh) (TSl RSp) (fun _ _ _ => True) fun k l t => .func (.func 95) (.cons (.vptr 1 fun j => vget (.cons (.view 3 l.1 fun i j => (l.2 i).c j) .nil) j) (.cons (.vptr 1 fun j => vget (.cons (.view 2 t.1 fun i j => (t.2 i).c j) .nil) j) (.cons (.vptr 7 fun j => vget k.L j) .nil)))
set_option maxRecDepth 100000 in
theorem pForward : PureOk Tryd.prog G 72 sForward := by
  refine fn3 (S := []) (I := []) mixed .nil .nil Tryd.func72 c72 fun k l t _ hw => ?_
  simp only [vl, WfT, Val.toInt, Val.toBool, Val.slen, Val.scell, Nat.reduceSub, and_true, and_self, and_assoc, maxLen, Nat.reducePow, TSl, RSp, Sp.d, RSr, Sr.d, RTl, Tl.d, RCh, Ch.d, Kp.L, TKp] at hw
  simp only [RunTo, a72, runO_3, runO_5, runO_17, runO_18, runO_19, aop, ends, ev, evs, fget, fput, params, cellsOf, cellsN, isLB, vlen, bget, addB, addN, frz, opOwns, preFz, skipOp, WfT, resV, res1, snapV, snapOk, Fin, vsubP_self, Val.toInt, Val.toBool, Val.slen, Val.scell, ↓reduceIte, reduceCtorEq, Nat.reduceEqDiff, Nat.reduceAdd, Nat.zero_add, Nat.sub_zero, Bool.and_self, and_self, forall_const, TSl, RSp, Sp.d, RSr, Sr.d, RTl, Tl.d, RCh, Ch.d, Kp.L, TKp]
end Go.Proofs.YtbhhcnonooiokaaDoor
