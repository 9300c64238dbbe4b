/- HourPair: tellings that are named contradict each other. No condition. -/
import Derived.Test.YtbhhcnonooiokaaDoorACodeL12
import Derived.Test.YtbhhcnonooiokaaDoorQAlive
set_option linter.unusedSimpArgs false
set_option linter.unusedVariables false
namespace Go.Proofs.YtbhhcnonooiokaaDoor
open Go Go.RowKit
theorem tell_ne {c : Ck} {day : Int} {t : Tl} (hc : CkOk c) (hd : DayOk day) (ht : TlOk c t) : (tellF c day t).lo ≤ (tellF c day t).hi := by
  have hmrk := fun i (h : i < c.mrk.1) => spin_of (hc.mrk i h)
  unfold DayOk at hd
  unfold TlOk at ht
  rcases ht with ⟨h, h2, h3⟩ | ⟨h, h2, h3⟩ | ⟨h, ⟨h2, h3⟩, h6, h7⟩ | ⟨h, h2⟩
  · have := hmrk t.which.toNat (by omega)
    simp only [tellF, h, if_true]; omega
  · have := hmrk (t.which.toNat + 1) (by omega)
    have h8 := (hc.up (t.which.toNat + 1) (by omega) (by omega)).1
    rw [Nat.add_sub_cancel] at h8
    simp [tellF, h]; omega
  · have h8 := spin_of (hc.sr t.which.toNat (by omega)).1
    have h9 := spin_of (hc.sr t.which.toNat (by omega)).2
    have hh := spin_of hc.hand
    have m1 : day * (c.str.2 t.which.toNat).shift.lo ≤ day * (c.str.2 t.which.toNat).shift.hi := Int.mul_le_mul_of_nonneg_left (by omega) (by omega)
    have m2 : t.hands * c.hand.lo ≤ t.hands * c.hand.hi := Int.mul_le_mul_of_nonneg_left (by omega) (by omega)
    simp [tellF, h]; omega
  · have := spin_of h2
    simp [tellF, h]; omega
theorem allF_le {c : Ck} {day : Int} {l : Nat → Tl} (v : Int) : ∀ n, ((allF c day l n).lo ≤ v ↔ -10000000000 ≤ v ∧ ∀ i, i < n → (tellF c day (l i)).lo ≤ v) ∧ (v ≤ (allF c day l n).hi ↔ v ≤ 10000000000 ∧ ∀ i, i < n → v ≤ (tellF c day (l i)).hi) := by
  intro n; induction n with
  | zero => exact ⟨⟨fun h => ⟨h, fun i hi => by omega⟩, fun h => h.1⟩, ⟨fun h => ⟨h, fun i hi => by omega⟩, fun h => h.1⟩⟩
  | succ n ih =>
    have e1 : (allF c day l (n + 1)).lo ≤ v ↔ (allF c day l n).lo ≤ v ∧ (tellF c day (l n)).lo ≤ v := by simp only [allF, cutF]; omega
    have e2 : v ≤ (allF c day l (n + 1)).hi ↔ v ≤ (allF c day l n).hi ∧ v ≤ (tellF c day (l n)).hi := by simp only [allF, cutF]; omega
    rw [e1, e2, ih.1, ih.2]
    refine ⟨⟨fun h => ⟨h.1.1, fun i hi => ?_⟩, fun h => ⟨⟨h.1, fun i hi => h.2 i (by omega)⟩, h.2 n (by omega)⟩⟩, ⟨fun h => ⟨h.1.1, fun i hi => ?_⟩, fun h => ⟨⟨h.1, fun i hi => h.2 i (by omega)⟩, h.2 n (by omega)⟩⟩⟩
    · rcases Nat.lt_or_ge i n with h5 | h5
      · exact h.1.2 i h5
      · obtain rfl : i = n := by omega
        exact h.2
    · rcases Nat.lt_or_ge i n with h5 | h5
      · exact h.1.2 i h5
      · obtain rfl : i = n := by omega
        exact h.2
/-- some minute is told by all just if no two contradict each other -/
theorem helly {c : Ck} {day : Int} {l : Nat → Tl} {n : Nat} (hc : CkOk c) (hd : DayOk day) (ha : ∀ i, i < n → TlOk c (l i)) : (allF c day l n).lo ≤ (allF c day l n).hi ↔ ∀ i j, i < j → j < n → ¬ Con (fun i => tellF c day (l i)) i j := by
  have hb := fun i h => (spfit_tell hc hd (ha i h)).2
  have hne := fun i h => tell_ne hc hd (ha i h)
  rw [(allF_le _ n).1]
  have e : (∀ i, i < n → (tellF c day (l i)).lo ≤ (allF c day l n).hi) ↔ ∀ i, i < n → (tellF c day (l i)).lo ≤ 10000000000 ∧ ∀ j, j < n → (tellF c day (l i)).lo ≤ (tellF c day (l j)).hi :=
    ⟨fun h i hi => ((allF_le _ n).2).1 (h i hi), fun h i hi => ((allF_le _ n).2).2 (h i hi)⟩
  rw [e]
  have e0 : -10000000000 ≤ (allF c day l n).hi := by
    rw [(allF_le _ n).2]; exact ⟨by omega, fun i hi => by have := hb i hi; omega⟩
  refine ⟨fun h i j h1 h2 h3 => ?_, fun h => ⟨e0, fun i hi => ⟨by have := hb i hi; omega, fun j hj => ?_⟩⟩⟩
  · unfold Con cutF at h3
    have a1 := (h.2 i (by omega)).2 j h2
    have a2 := (h.2 j h2).2 i (by omega)
    have a3 := hne i (by omega)
    have a4 := hne j h2
    simp only at h3; omega
  · rcases Nat.lt_trichotomy i j with h5 | h5 | h5
    · have := h i j h5 hj
      unfold Con cutF at this; simp only at this; omega
    · subst h5; exact hne i hi
    · have := h j i h5 hi
      unfold Con cutF at this; simp only at this; omega
theorem th_one {c : Ck} {day : Int} {f : Nat → Tl} (hc : CkOk c) (hd : DayOk day) (h0 : TlOk c (f 0)) : (thF c day (1, f)).2 = 0 := by
  have ha : AllOk c (1, f) := fun i hi => by obtain rfl : i = 0 := (by have : i < 1 := hi; omega); exact h0
  rw [thF_ok (ask_ok hc hd) (tlsE_ok (by simp) (by simp) ha) ((helly hc hd ha).2 fun i j h1 h2 => by have : j < 1 := h2; omega)]
theorem th_two {c : Ck} {day : Int} {f : Nat → Tl} (hc : CkOk c) (hd : DayOk day) (h0 : TlOk c (f 0)) (h1 : TlOk c (f 1)) : (thF c day (2, f)).2 = if (cutF (tellF c day (f 0)) (tellF c day (f 1))).lo > (cutF (tellF c day (f 0)) (tellF c day (f 1))).hi then 32 else 0 := by
  have ha : AllOk c (2, f) := fun i hi => by
    obtain rfl | rfl : i = 0 ∨ i = 1 := (by have : i < 2 := hi; omega)
    · exact h0
    · exact h1
  have hh := helly hc hd ha
  split
  · rename_i h
    rw [thF_clash (ask_ok hc hd) (tlsE_ok (by simp) (by simp) ha)]
    have : ¬ (allF c day f 2).lo ≤ (allF c day f 2).hi := fun h5 => hh.1 h5 0 1 (by omega) (by simp) h
    simp only; omega
  · rename_i h
    rw [thF_ok (ask_ok hc hd) (tlsE_ok (by simp) (by simp) ha)]
    refine hh.2 fun i j h5 h6 => ?_
    have h6 : j < 2 := h6
    obtain rfl : i = 0 := by omega
    obtain rfl : j = 1 := by omega
    exact h
noncomputable def sLawPair : Spec := spec3 TCk TI (TSl RTl) (fun _ _ _ => True) fun _ _ _ => .bool true
set_option maxHeartbeats 8000000 in
set_option maxRecDepth 100000 in
theorem pLawPair : PureOk Tryd.prog NG 12 sLawPair := by
  refine fn3 (S := [(35, sAlive), (43, sReady), (24, sClR), (19, sAllA)]) (I := []) mixed
    (.cons pAlive (.cons pReady (.cons (pClP pTellP) (.cons (pAllAP pTellP) .nil)))) .nil Tryd.func12 c12 fun k day l _ hw => ?_
  simp only [vl, WfT, Val.toInt, Val.slen, Val.scell, Nat.reduceSub, and_true, true_and, and_self, and_assoc, maxLen, Nat.reducePow, TSl, TInt, RSp, Sp.d, RSr, Sr.d, RTl, Tl.d, Ck.L, TCk] at hw
  obtain ⟨w1, w2, w3⟩ := hw
  by_cases h0 : ¬ askE k day = 0
  · simp only [RunTo, a12, sAlive, sReady, show rdyB k day = false from decide_eq_false h0, w1, w2, ↓imp_tt, ↓imp_tf, runO_3, runO_5, runO_14, runO_17, runO_18, runO_19, aop, ends, Nat.zero_sub, ev, fget, fput, params, cellsOf, cellsN, isLB, vget, vlen, bget, addB, addN, mkv, sliceV, vtab, frz, opOwns, preFz, callFz, skipOp, WfT, resV, res1, norm, norms, norm1, normL, pureB, pureL, snapV, snapOk, specV, argsL, capsL, mkE_S, lkp, pickV, Fin, vp_bool, Val.toInt, Val.slen, Val.scell, ↓reduceIte, reduceCtorEq, Nat.reduceEqDiff, Nat.reduceAdd, Nat.reduceSub, Nat.zero_add, List.length_cons, List.length_nil, List.append_nil, Bool.and_self, Bool.bne_false, Bool.not_false, and_true, and_self, and_assoc, forall_const, imp_self, implies_true, Nat.le_refl, maxLen, Nat.reducePow, spec0, spec2, TSl, TInt, IsInt, Prod.eta, Sp.c0, Sp.c1, RSp, Sp.w_c, Sp.d, Sp.eta, Sr.c0, Sr.c1, Sr.c2, Sr.c3, RSr, Sr.w_c, Sr.d, Sr.eta, RTl, Tl.d, Ck.L, Ck.Is, Ck.of, TCk, Ck.d, Ck.eta]
  replace h0 := Classical.not_not.1 h0
  have hd0 : rdyB k day = true := decide_eq_true h0
  obtain ⟨hc, hd⟩ := askE_0 h0
  by_cases hl : ¬ l.1 ≤ 16
  · have fl : ((l.1 : Int) > 16) = True := eq_true (by omega)
    simp only [RunTo, a12, sAlive, sReady, hd0, fl, w1, w2, w3, ↓imp_tt, ↓imp_tf, ↓imp_ft, ↓imp_ff, runO_3, runO_5, runO_14, runO_17, runO_18, runO_19, aop, binV, ends, Nat.zero_sub, ev, fget, fput, params, cellsOf, cellsN, isLB, vget, vlen, bget, addB, addN, mkv, sliceV, vtab, frz, opOwns, preFz, callFz, skipOp, WfT, resV, res1, norm, norms, norm1, normL, pureB, pureL, snapV, snapOk, specV, argsL, capsL, mkE_S, lkp, pickV, lenV, Fin, vp_bool, Val.toInt, Val.slen, Val.scell, ↓reduceIte, reduceCtorEq, Nat.reduceEqDiff, Nat.reduceAdd, Nat.reduceSub, Nat.zero_add, decide_true, List.length_cons, List.length_nil, List.append_nil, Bool.and_self, Bool.bne_false, bne_self_eq_false, Bool.not_true, and_true, and_self, and_assoc, forall_const, imp_self, implies_true, Nat.le_refl, maxLen, Nat.reducePow, spec0, spec2, TSl, TInt, IsInt, Prod.eta, Sp.c0, Sp.c1, RSp, Sp.w_c, Sp.d, Sp.eta, Sr.c0, Sr.c1, Sr.c2, Sr.c3, RSr, Sr.w_c, Sr.d, Sr.eta, RTl, Tl.d, Ck.L, Ck.Is, Ck.of, TCk, Ck.d, Ck.eta]
  replace hl := Classical.not_not.1 hl
  have fl : ((l.1 : Int) > 16) = False := eq_false (by omega)
  by_cases ht : ¬ tlsE k l = 0
  · have e1 := clF_bad h0 ht
    have e2 := thF_bad h0 ht
    have ft : (tlsE k l = 0) = False := eq_false ht
    simp (config := { maxSteps := 4000000 }) only [RunTo, a12, sAlive, sReady, sClR, sAllA, hd0, fl, e1, e2, ft, w1, w2, w3, eq_self, ↓imp_tt, ↓imp_tf, ↓imp_ft, ↓imp_ff, runO_3, runO_4, runO_5, runO_6, runO_14, runO_15, runO_17, runO_18, runO_19, aop, binV, ends, reOk, Nat.zero_sub, ev, fget, fput, params, cellsOf, cellsN, isLB, vget, vset, vsets, vlen, bget, bset, addB, addN, mkv, sliceV, vtab, frz, opOwns, preFz, callFz, skipOp, WfT, resV, res1, norm, norms, norm1, normL, pureB, pureL, onesB, snapV, snapOk, specV, argsL, capsL, mkE_S, lkp, pickV, lenV, Fin, vp_bool, Val.toInt, Val.slen, Val.scell, ↓reduceIte, reduceCtorEq, Nat.reduceEqDiff, Nat.reduceAdd, Nat.reduceSub, Nat.reduceLT, Nat.zero_add, Int.reduceLT, decide_false, bne_iff_ne, bne_eq_false_iff_eq, List.length_cons, List.length_nil, List.append_nil, Bool.and_self, Bool.bne_false, bne_self_eq_false, Bool.not_true, Bool.false_eq_true, beq_self_eq_true, and_true, true_and, and_self, and_assoc, forall_const, imp_self, implies_true, Nat.le_refl, decide_eq_true_eq, decide_eq_false_iff_not, Val.bool.injEq, ne_eq, not_false_eq_true, false_implies, not_false_eq_true, maxLen, Nat.reducePow, spec0, spec2, spec3, TSl, IsSl, TInt, IsInt, Prod.eta, Sp.L, Sp.c0, Sp.c1, RSp, Sp.w_c, Sp.d, Sp.eta, Sr.c0, Sr.c1, Sr.c2, Sr.c3, RSr, Sr.w_c, Sr.d, Sr.eta, Tl.c0, Tl.c1, Tl.c2, Tl.c3, Tl.c4, RTl, Tl.w_c, Tl.d, Tl.eta, Ck.L, Ck.Is, Ck.of, TCk, Ck.d, Ck.eta]
  replace ht := Classical.not_not.1 ht
  obtain ⟨hn0, hn1, ha⟩ := tlsE_0 ht
  rcases clF_cases k day l h0 ht with ⟨i, j, e1, hij, hjn, hcon, hlt1, hlt2⟩ | ⟨e1, hno⟩
  · have e2 : thF k day l = (⟨0, 0⟩, 32) := thF_clash h0 ht (by
      have : ¬ (allF k day l.2 l.1).lo ≤ (allF k day l.2 l.1).hi := fun h5 => (helly hc hd ha).1 h5 i j hij hjn hcon
      omega)
    have f1 : ((i : Int) < 0) = False := eq_false (by omega)
    have f2 : ((i : Int) ≥ (j : Int)) = False := eq_false (by omega)
    have f3 : ((j : Int) ≥ (l.1 : Int)) = False := eq_false (by omega)
    simp (config := { maxSteps := 4000000 }) only [RunTo, a12, sAlive, sReady, sClR, sAllA, hd0, fl, e1, e2, f1, f2, f3, w1, w2, w3, eq_self, ↓imp_ft, ↓imp_ff, runO_4, runO_5, runO_6, runO_14, runO_15, runO_17, runO_18, runO_19, aop, binV, reOk, Nat.zero_sub, ev, fget, fput, params, cellsOf, cellsN, isLB, vget, vset, vsets, vlen, bget, bset, addB, addN, mkv, sliceV, vtab, frz, opOwns, preFz, callFz, skipOp, WfT, norm, norms, norm1, normL, pureB, pureL, onesB, specV, argsL, capsL, mkE_S, lkp, pickV, lenV, Fin, vp_bool, Val.toInt, Val.slen, Val.scell, ↓reduceIte, reduceCtorEq, Nat.reduceEqDiff, Nat.reduceAdd, Nat.reduceSub, Nat.reduceLT, Nat.zero_add, Int.reduceEq, decide_false, List.length_cons, List.length_nil, List.append_nil, Bool.and_self, bne_self_eq_false, Bool.not_true, and_true, true_and, and_self, and_assoc, forall_const, imp_self, implies_true, Nat.le_refl, maxLen, Nat.reducePow, spec0, spec2, spec3, TSl, IsSl, TInt, IsInt, Prod.eta, Sp.L, Sp.c0, Sp.c1, RSp, Sp.w_c, Sp.d, Sp.eta, Sr.c0, Sr.c1, Sr.c2, Sr.c3, RSr, Sr.w_c, Sr.d, Sr.eta, Tl.c0, Tl.c1, Tl.c2, Tl.c3, Tl.c4, RTl, Tl.w_c, Tl.d, Tl.eta, Ck.L, Ck.Is, Ck.of, TCk, Ck.d, Ck.eta]
    refine loopI (ι := Nat) (fun p => p ≤ i) (fun p => i - p) [1, 2, 3, 7, 8, 9, 91] (fun p => [(92, .int .i64 p)]) (fun _ => []) 0 (by omega) (by simp only [Chk, chkFr, chkBx, chkBx1, hasB, idsLt, kept, vs_int, vs_bool, vs_nil, vs_ptr, vs_cons, vs_view, fget, isLB, bget, vsubP_self, ↓reduceIte, reduceCtorEq, Nat.reduceEqDiff, Nat.reduceLT, Int.cast_ofNat_Int, and_self, forall_const, implies_true, Option.some.injEq, exists_eq', keepF, appF, updB]; try rfl) fun p hp => ?_
    simp (config := { maxSteps := 4000000 }) only [eq_self, runO_3, runO_4, runO_5, runO_6, runO_9, runO_14, runO_15, runO_17, runO_18, runO_19, aop, binV, ends, reOk, dstV, ev, fget, fput, cellsOf, cellsN, isLB, vget, vset, vsets, vlen, bget, bset, addB, addN, mkv, sliceV, vtab, frz, opOwns, preFz, skipOp, WfT, resV, res1, norm, norms, norm1, normL, pureB, pureL, onesB, snapV, snapOk, specV, argsL, capsL, mkE_S, lkp, optInt, popTo, stkFr, ↓reduceIte, reduceCtorEq, Nat.reduceEqDiff, Nat.reduceAdd, Nat.reduceSub, Nat.reduceLT, Nat.zero_add, bne_iff_ne, bne_eq_false_iff_eq, List.length_cons, List.length_nil, List.append_nil, Bool.and_self, Bool.false_eq_true, true_and, and_self, and_assoc, forall_const, imp_self, implies_true, Nat.le_refl, decide_eq_true_eq, decide_eq_false_iff_not, Val.bool.injEq, ne_eq, keepF, appF, updB, inat, Prod.eta, Sp.c0, Sp.c1, Sp.w_c, Sp.eta, Sr.c0, Sr.c1, Sr.c2, Sr.c3, Sr.w_c, Sr.eta, Tl.c0, Tl.c1, Tl.c2, Tl.c3, Tl.c4, Tl.w_c, Tl.eta, Ck.eta]
    have ep : IntKind.i64.wrap ((p : Int) + 1) = (p : Int) + 1 := wr64 (by omega) (by omega)
    rw [ep, show ((p : Int) + 1 - p).toNat = 1 from by omega]
    have s1 := th_one (day := day) (f := fun i => l.2 (p + i)) hc hd (ha (p + 0) (by omega))
    refine ⟨fun hlt => ⟨by omega, by omega, by omega, fun h => absurd s1 h, fun _ => ?_⟩, fun h => absurd (show (p : Int) < l.1 by omega) h⟩
    refine loopI (ι := Nat) (fun q => p < q ∧ q ≤ l.1 ∧ (p = i → q ≤ j)) (fun q => l.1 - q) [1, 2, 3, 7, 8, 9, 13, 91, 92] (fun q => [(16, .int .i64 q)]) (fun _ => []) (p + 1) ⟨by omega, by omega, by omega⟩ (by simp only [Chk, chkFr, chkBx, chkBx1, hasB, idsLt, kept, vs_int, vs_bool, vs_nil, vs_ptr, vs_cons, vs_view, fget, isLB, bget, vsubP_self, ↓reduceIte, reduceCtorEq, Nat.reduceEqDiff, Nat.reduceLT, and_true, true_and, and_self, forall_const, implies_true, Option.some.injEq, Val.int.injEq, exists_eq', keepF, appF, updB]; try rfl) fun q hq => ?_
    obtain ⟨q1, q2, q3⟩ := hq
    have f4 : ((q : Int) < (l.1 : Int)) = (q < l.1) := propext (by omega)
    by_cases hcq : Con (fun i => tellF k day (l.2 i)) p q
    · have s2 : ∀ f : Nat → Tl, f 0 = l.2 p → f 1 = l.2 q → q < l.1 → (thF k day (2, f)).2 = 32 := fun f e3 e4 h5 => by
        rw [th_two hc hd (by rw [e3]; exact ha p (by omega)) (by rw [e4]; exact ha q h5), e3, e4]; exact if_pos hcq
      have hpq : q < l.1 → p = i ∧ q = j := fun h5 => by
        rcases Nat.lt_or_ge p i with h6 | h6
        · exact absurd hcq (hlt1 p q h6 q1 h5)
        · have h7 : p = i := by omega
          refine ⟨h7, ?_⟩
          rcases Nat.lt_or_ge q j with h8 | h8
          · subst h7; exact absurd hcq (hlt2 q q1 h8)
          · have := q3 h7; omega
      by_cases h5 : q < l.1
      · obtain ⟨h6, h7⟩ := hpq h5
        have f5 : ((p : Int) = (i : Int)) = True := eq_true (by omega)
        have f6 : ((q : Int) = (j : Int)) = True := eq_true (by omega)
        simp (config := { maxSteps := 4000000 }) only [s2, h5, f4, f5, f6, w3, eq_self, flatO, ↓imp_tt, ↓imp_tf, ↓imp_ft, ↓imp_ff, runO_3, runO_4, runO_5, runO_6, runO_14, runO_17, runO_18, runO_19, aop, binV, ends, reOk, dstV, Nat.zero_sub, ev, fget, fput, cellsOf, cellsN, isLB, vget, vset, vsets, vlen, bget, bset, addB, addN, mkv, sliceV, vtab, rowsV, rowsOk, vrep, frz, opOwns, preFz, skipOp, WfT, resV, res1, casts, castOks, cast1, castOk, norm, norms, norm1, normL, pureB, pureL, flatB, onesB, snapV, snapOk, snapL, snapOks, specV, argsL, capsL, mkE_S, lkp, pickV, lenV, stkFr, Val.toInt, ↓reduceIte, reduceCtorEq, Nat.reduceEqDiff, Nat.reduceAdd, Nat.reduceSub, Nat.reduceLT, Nat.zero_add, Int.reduceEq, Int.reduceBNe, decide_true, beq_iff_eq, beq_eq_false_iff_ne, List.length_cons, List.length_nil, List.append_nil, Bool.and_true, Bool.and_false, Bool.and_self, Bool.bne_true, bne_self_eq_false, Bool.not_false, Bool.false_eq_true, beq_self_eq_true, and_true, true_and, and_self, and_assoc, forall_const, imp_self, implies_true, Nat.le_refl, Val.bool.injEq, ne_eq, not_true_eq_false, maxLen, Nat.reducePow, keepF, appF, updB, inat, Prod.eta, Sp.c0, Sp.c1, Sp.w_c, Sp.eta, Sr.c0, Sr.c1, Sr.c2, Sr.c3, Sr.w_c, Sr.eta, Tl.c0, Tl.c1, Tl.c2, Tl.c3, Tl.c4, Tl.eta, Ck.eta]
        exact ⟨by omega, by omega, by omega, ltw ⟨rfl, rfl, rfl, rfl, rfl⟩ ⟨rfl, rfl, rfl, rfl, rfl⟩⟩
      · simp (config := { maxSteps := 4000000 }) only [h5, f4, w3, eq_self, ↓imp_ft, ↓imp_ff, runO_5, runO_8, runO_9, runO_14, runO_16, runO_17, runO_18, runO_19, aop, binV, ev, fget, fput, addB, addN, frz, opOwns, preFz, skipOp, WfT, lenV, popTo, stkFr, ↓reduceIte, reduceCtorEq, Nat.reduceEqDiff, Nat.reduceSub, decide_false, true_and, and_self, forall_const, imp_self, implies_true, maxLen, Nat.reducePow, keepF, appF, updB]
        refine inv_intro (p + 1) (by omega) (by omega) ?_
        simp only [Chk, chkFr, chkBx, chkBx1, hasB, idsLt, kept, vs_int, vs_bool, vs_nil, vs_ptr, vs_cons, vs_view, Nat.lt_irrefl, fget, isLB, bget, vsubP_self, ↓reduceIte, reduceCtorEq, Nat.reduceEqDiff, Nat.reduceLT, and_true, true_and, and_self, forall_const, implies_true, Option.some.injEq, Val.int.injEq, exists_eq', false_implies]
        rw [wrS (by omega)]
    · have s2 : ∀ f : Nat → Tl, f 0 = l.2 p → f 1 = l.2 q → q < l.1 → (thF k day (2, f)).2 = 0 := fun f e3 e4 h5 => by
        rw [th_two hc hd (by rw [e3]; exact ha p (by omega)) (by rw [e4]; exact ha q h5), e3, e4]; exact if_neg hcq
      by_cases h5 : q < l.1
      · have h6 : ¬ (p = i ∧ q = j) := fun h => by rw [h.1, h.2] at hcq; exact hcq hcon
        simp (config := { maxSteps := 4000000 }) only [s2, h5, f4, w3, eq_self, flatO, ↓imp_tt, ↓imp_tf, ↓imp_ft, ↓imp_ff, runO_3, runO_4, runO_5, runO_6, runO_8, runO_14, runO_16, runO_17, runO_18, runO_19, aop, binV, ends, reOk, dstV, Nat.zero_sub, ev, fget, fput, cellsOf, cellsN, isLB, vget, vset, vsets, vlen, bget, bset, addB, addN, mkv, sliceV, vtab, rowsV, rowsOk, vrep, frz, opOwns, preFz, skipOp, WfT, resV, res1, casts, castOks, cast1, castOk, norm, norms, norm1, normL, pureB, pureL, flatB, onesB, snapV, snapOk, snapL, snapOks, specV, argsL, capsL, mkE_S, lkp, pickV, lenV, stkFr, Val.toInt, ↓reduceIte, reduceCtorEq, Nat.reduceEqDiff, Nat.reduceAdd, Nat.reduceSub, Nat.reduceLT, Nat.zero_add, Int.reduceBEq, decide_true, beq_iff_eq, beq_eq_false_iff_ne, List.length_cons, List.length_nil, List.append_nil, Bool.and_true, Bool.and_false, Bool.and_self, Bool.bne_true, bne_self_eq_false, Bool.not_false, Bool.false_eq_true, and_true, true_and, and_self, and_assoc, forall_const, imp_self, implies_true, Nat.le_refl, Val.bool.injEq, ne_eq, maxLen, Nat.reducePow, keepF, appF, updB, inat, Prod.eta, Sp.c0, Sp.c1, Sp.w_c, Sp.eta, Sr.c0, Sr.c1, Sr.c2, Sr.c3, Sr.w_c, Sr.eta, Tl.c0, Tl.c1, Tl.c2, Tl.c3, Tl.c4, Tl.eta, Ck.eta]
        refine ⟨by omega, by omega, by omega, ltw ⟨rfl, rfl, rfl, rfl, rfl⟩ ⟨rfl, rfl, rfl, rfl, rfl⟩, fun h7 => ⟨fun h8 => h6 ⟨by omega, by omega⟩, fun h8 => inv_intro (q + 1) ⟨by omega, by omega, fun h9 => by omega⟩ (by omega) ?_⟩, fun h7 => inv_intro (q + 1) ⟨by omega, by omega, fun h9 => by omega⟩ (by omega) ?_⟩
        · simp only [Chk, chkFr, chkBx, chkBx1, hasB, idsLt, kept, vs_int, vs_bool, vs_nil, vs_ptr, vs_cons, vs_view, Nat.lt_irrefl, fget, isLB, bget, vsubP_self, ↓reduceIte, reduceCtorEq, Nat.reduceEqDiff, Nat.reduceLT, and_true, true_and, and_self, forall_const, imp_self, implies_true, Option.some.injEq, Val.int.injEq, exists_eq', false_implies]
          rw [wrS (by omega)]
        · simp only [Chk, chkFr, chkBx, chkBx1, hasB, idsLt, kept, vs_int, vs_bool, vs_nil, vs_ptr, vs_cons, vs_view, Nat.lt_irrefl, fget, isLB, bget, vsubP_self, ↓reduceIte, reduceCtorEq, Nat.reduceEqDiff, Nat.reduceLT, and_true, true_and, and_self, forall_const, imp_self, implies_true, Option.some.injEq, Val.int.injEq, exists_eq', false_implies]
          rw [wrS (by omega)]
      · simp (config := { maxSteps := 4000000 }) only [h5, f4, w3, eq_self, ↓imp_ft, ↓imp_ff, runO_5, runO_8, runO_9, runO_14, runO_16, runO_17, runO_18, runO_19, aop, binV, ev, fget, fput, addB, addN, frz, opOwns, preFz, skipOp, WfT, lenV, popTo, stkFr, ↓reduceIte, reduceCtorEq, Nat.reduceEqDiff, Nat.reduceSub, decide_false, true_and, and_self, forall_const, imp_self, implies_true, maxLen, Nat.reducePow, keepF, appF, updB]
        refine inv_intro (p + 1) (by omega) (by omega) ?_
        simp only [Chk, chkFr, chkBx, chkBx1, hasB, idsLt, kept, vs_int, vs_bool, vs_nil, vs_ptr, vs_cons, vs_view, Nat.lt_irrefl, fget, isLB, bget, vsubP_self, ↓reduceIte, reduceCtorEq, Nat.reduceEqDiff, Nat.reduceLT, and_true, true_and, and_self, forall_const, implies_true, Option.some.injEq, Val.int.injEq, exists_eq', false_implies]
        rw [wrS (by omega)]
  · have e2 : (thF k day l).2 = 0 := by rw [thF_ok h0 ht ((helly hc hd ha).2 hno)]
    simp (config := { maxSteps := 4000000 }) only [RunTo, a12, sAlive, sReady, sClR, sAllA, hd0, fl, e1, e2, w1, w2, w3, eq_self, ↓imp_tt, ↓imp_tf, ↓imp_ft, ↓imp_ff, runO_3, runO_4, runO_5, runO_14, runO_17, runO_18, runO_19, aop, binV, ends, reOk, Nat.zero_sub, ev, fget, fput, params, cellsOf, cellsN, isLB, vget, vset, vsets, vlen, bget, bset, addB, addN, mkv, sliceV, vtab, frz, opOwns, preFz, callFz, skipOp, WfT, resV, res1, norm, norms, norm1, normL, pureB, pureL, onesB, snapV, snapOk, specV, argsL, capsL, mkE_S, lkp, pickV, lenV, Fin, vp_bool, Val.toInt, Val.slen, Val.scell, ↓reduceIte, reduceCtorEq, Nat.reduceEqDiff, Nat.reduceAdd, Nat.reduceSub, Nat.reduceLT, Nat.zero_add, Int.reduceBEq, Int.reduceBNe, decide_false, List.length_cons, List.length_nil, List.append_nil, Bool.and_self, bne_self_eq_false, Bool.not_true, beq_self_eq_true, and_true, and_self, and_assoc, forall_const, imp_self, implies_true, Nat.le_refl, maxLen, Nat.reducePow, spec0, spec2, spec3, TSl, IsSl, TInt, IsInt, Prod.eta, Sp.L, Sp.c0, Sp.c1, RSp, Sp.w_c, Sp.d, Sp.eta, Sr.c0, Sr.c1, Sr.c2, Sr.c3, RSr, Sr.w_c, Sr.d, Sr.eta, Tl.c0, Tl.c1, Tl.c2, Tl.c3, Tl.c4, RTl, Tl.w_c, Tl.d, Tl.eta, Ck.L, Ck.Is, Ck.of, TCk, Ck.d, Ck.eta]
end Go.Proofs.YtbhhcnonooiokaaDoor
