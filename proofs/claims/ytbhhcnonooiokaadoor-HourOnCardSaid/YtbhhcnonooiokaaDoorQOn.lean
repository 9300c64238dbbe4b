/- HourOn: the turn that is on is among those that may be. No condition. -/
import Derived.Test.YtbhhcnonooiokaaDoorQAlive
set_option linter.unusedSimpArgs false
set_option linter.unusedVariables false
namespace Go.Proofs.YtbhhcnonooiokaaDoor
open Go Go.RowKit
theorem onS_cases (l : Nat → Tn) (a : Sp) : ∀ n, (onS l a n = -1 ∧ ∀ i, i < n → ¬ ((l i).fr ≤ a.lo ∧ a.hi < (l i).till)) ∨ ∃ j : Nat, j < n ∧ onS l a n = (j : Int) ∧ (l j).fr ≤ a.lo ∧ a.hi < (l j).till := by
  intro n; induction n with
  | zero => exact .inl ⟨rfl, fun i h => by omega⟩
  | succ n ih =>
    rw [onS_s]
    by_cases h : a.lo ≥ (l n).fr ∧ a.hi < (l n).till
    · rw [if_pos h]; exact .inr ⟨n, by omega, rfl, h.1, h.2⟩
    · rw [if_neg h]
      rcases ih with ⟨h1, h2⟩ | ⟨j, h1, h2, h3⟩
      · refine .inl ⟨h1, fun i hi => ?_⟩
        rcases Nat.lt_or_ge i n with h5 | h5
        · exact h2 i h5
        · obtain rfl : i = n := by omega
          exact fun h6 => h ⟨h6.1, h6.2⟩
      · exact .inr ⟨j, by omega, h2, h3⟩
theorem tns_apart {l : Tns} (h : TnsOk l) {i j : Nat} (hij : i < j) (hj : j < l.1) : (l.2 i).till ≤ (l.2 j).fr ∧ (l.2 i).fr < (l.2 i).till ∧ (l.2 j).fr < (l.2 j).till := by
  have h1 := (tns_till h i (j - 1) (by omega) (by omega)).1
  have h2 := h.2 j hj
  have h3 := h.2 i (by omega)
  unfold TnOk at h2 h3
  have := h2.2.2.2 (by omega)
  omega
/-- the first and the last that may be on -/
theorem on_bounds {l : Tns} {a : Sp} (h : TnsOk l) (h2 : a.lo ≤ a.hi) : onA l a ≤ onB l a ∧ onB l a ≤ l.1 := by
  refine ⟨?_, fstI_le⟩
  false_or_by_contra
  rename_i h5
  have hB : onB l a ≤ l.1 := fstI_le
  have hA : onA l a ≤ l.1 := fstI_le
  have hlt : onB l a < l.1 := by omega
  have h6 := fstI_some (p := fun i => onA l a ≤ i ∧ a.hi < (l.2 i).fr) (n := l.1) hlt
  have := h6.1
  unfold onB at h5; omega
theorem on_named {l : Tns} {a : Sp} (h : TnsOk l) {now : Int} (hn : a.lo ≤ now ∧ now ≤ a.hi) (f : Nat) (hf : f < l.1) (h1 : (l.2 f).fr ≤ now) (h2 : now < (l.2 f).till) : onA l a ≤ f ∧ f < onB l a := (on_iff h f hf).1 ⟨by omega, by omega⟩
theorem on_sure {l : Tns} {a : Sp} (h : TnsOk l) (h2 : a.lo ≤ a.hi) (s : Nat) (hs : s < l.1) (h3 : (l.2 s).fr ≤ a.lo) (h4 : a.hi < (l.2 s).till) : onB l a - onA l a = 1 ∧ onA l a = s := by
  have h5 := (on_iff (a := a) h s hs).1 ⟨by omega, by omega⟩
  have hB := (on_bounds h h2).2
  have hno : ∀ i, i < l.1 → i ≠ s → ¬ (onA l a ≤ i ∧ i < onB l a) := fun i hi hne hin => by
    have h6 := (on_iff (a := a) h i hi).2 hin
    rcases Nat.lt_or_ge i s with h7 | h7
    · have := tns_apart h h7 hs; omega
    · have := tns_apart h (show s < i by omega) hi; omega
  have h8 := hno (onA l a) (by omega)
  have h9 := hno (onB l a - 1) (by omega)
  by_cases e1 : onA l a = s
  · by_cases e2 : onB l a - 1 = s
    · omega
    · have := h9 e2; omega
  · have := h8 e1; omega
theorem on_wide {l : Tns} {a b : Sp} (h : TnsOk l) (h1 : b.lo ≤ a.lo) (h2 : a.hi ≤ b.hi) (h3 : a.lo ≤ a.hi) {j : Nat} (hj : onA l a ≤ j) (hj2 : j < onB l a) : onA l b ≤ j ∧ j < onB l b := by
  have hB := (on_bounds h h3).2
  have := (on_iff (a := a) h j (by omega)).2 ⟨hj, hj2⟩
  exact (on_iff (a := b) h j (by omega)).1 ⟨by omega, by omega⟩
def nmB (F : Int) (A j : Nat) : Bool := decide (F = -1 ∨ (A : Int) ≤ F ∧ F < (A : Int) + j)
theorem nmB_iff {F : Int} {A j : Nat} : nmB F A j = true ↔ F = -1 ∨ (A : Int) ≤ F ∧ F < (A : Int) + j := by unfold nmB; exact decide_eq_true_iff
def isB (A2 n z : Nat) : Bool := decide (A2 ≤ n ∧ n < A2 + z)
theorem isB_iff {A2 n z : Nat} : isB A2 n z = true ↔ A2 ≤ n ∧ n < A2 + z := by unfold isB; exact decide_eq_true_iff
noncomputable def sLawOn : Spec := spec4 (TSl RTn) TSp (TU .u32) (TU .u8) (fun _ _ _ _ => True) fun _ _ _ _ => .bool true
set_option maxHeartbeats 8000000 in
set_option maxRecDepth 100000 in
theorem pLawOn : PureOk Tryd.prog NG 14 sLawOn := by
  refine fn4 (S := [(35, sAlive), (52, sTurns), (31, sOn), (46, sInside), (41, sSpanL)]) (I := []) mixed
    (.cons pAlive (.cons pTurns (.cons pOnP (.cons pInside (.cons pSpanL .nil))))) .nil Tryd.func14 c14 fun l a by' wd _ hw => ?_
  simp only [vl, WfT, Val.toInt, Val.slen, Val.scell, Nat.reduceSub, and_true, and_self, maxLen, Nat.reducePow, TU_enc, TSl, Sp.L, TSp, RTn, Tn.d] at hw
  by_cases hl : ¬ l.1 ≤ 80
  · have fl : ((l.1 : Int) > 80) = True := eq_true (by omega)
    simp only [RunTo, a14, sAlive, fl, hw, ↓imp_tt, ↓imp_tf, runO_3, runO_5, runO_14, runO_17, runO_18, runO_19, aop, binV, ends, Nat.zero_sub, ev, fget, fput, params, cellsOf, cellsN, isLB, vlen, addB, addN, frz, opOwns, skipOp, WfT, resV, res1, normL, pureL, snapV, snapOk, specV, argsL, capsL, mkE_S, lkp, pickV, lenV, Fin, vp_bool, Val.toInt, Val.slen, Val.scell, ↓reduceIte, reduceCtorEq, Nat.reduceEqDiff, Nat.reduceAdd, Nat.reduceSub, Nat.zero_add, Int.reduceNeg, decide_true, List.append_nil, Bool.bne_false, and_self, forall_const, maxLen, Nat.reducePow, TU_enc, spec0, TSl, Sp.L, TSp, RTn, Tn.d]
  replace hl := Classical.not_not.1 hl
  have fl : ((l.1 : Int) > 80) = False := eq_false (by omega)
  by_cases ht : tnsB l = false
  · simp only [RunTo, a14, sAlive, sTurns, fl, ht, hw, ↓imp_tt, ↓imp_tf, ↓imp_ft, ↓imp_ff, runO_3, runO_5, runO_14, runO_17, runO_18, runO_19, aop, binV, ends, Nat.zero_sub, ev, fget, fput, params, cellsOf, cellsN, isLB, vlen, addB, addN, frz, opOwns, skipOp, WfT, resV, res1, norm, norm1, normL, pureB, pureL, snapV, snapOk, specV, argsL, capsL, mkE_S, lkp, pickV, lenV, Fin, vp_bool, Val.toInt, Val.slen, Val.scell, ↓reduceIte, reduceCtorEq, Nat.reduceEqDiff, Nat.reduceAdd, Nat.reduceSub, Nat.zero_add, Int.reduceNeg, decide_false, List.append_nil, Bool.and_self, Bool.bne_false, bne_self_eq_false, Bool.not_false, and_true, and_self, forall_const, implies_true, maxLen, Nat.reducePow, TU_enc, spec0, spec1, TSl, IsSl, Prod.eta, Sp.L, TSp, Tn.c0, Tn.c1, RTn, Tn.w_c, Tn.d, Tn.eta]
  replace ht : tnsB l = true := by revert ht; cases tnsB l <;> simp
  by_cases g1 : a.lo > a.hi
  · simp only [RunTo, a14, sAlive, sTurns, fl, ht, g1, hw, ↓imp_tt, ↓imp_tf, ↓imp_ft, ↓imp_ff, runO_3, runO_5, runO_14, runO_17, runO_18, runO_19, aop, binV, ends, Nat.zero_sub, ev, fget, fput, params, cellsOf, cellsN, isLB, vget, vlen, bget, addB, addN, mkv, sliceV, vtab, frz, opOwns, skipOp, WfT, resV, res1, norm, norm1, normL, pureB, pureL, snapV, snapOk, specV, argsL, capsL, mkE_S, lkp, pickV, lenV, Fin, vp_bool, Val.toInt, Val.slen, Val.scell, ↓reduceIte, reduceCtorEq, Nat.reduceEqDiff, Nat.reduceAdd, Nat.reduceSub, Nat.reduceLeDiff, Nat.zero_add, Nat.add_zero, Int.reduceNeg, decide_true, decide_false, List.length_cons, List.length_nil, List.append_nil, Bool.and_self, Bool.bne_false, bne_self_eq_false, Bool.not_true, and_true, and_self, forall_const, implies_true, Nat.le_refl, maxLen, Nat.reducePow, TU_enc, spec0, spec1, TSl, IsSl, Prod.eta, Sp.L, TSp, Tn.c0, Tn.c1, RTn, Tn.w_c, Tn.d, Tn.eta]
  by_cases g2 : a.lo < -100000
  · simp only [RunTo, a14, sAlive, sTurns, fl, ht, g1, g2, hw, ↓imp_tt, ↓imp_tf, ↓imp_ft, ↓imp_ff, runO_3, runO_5, runO_14, runO_17, runO_18, runO_19, aop, binV, ends, Nat.zero_sub, ev, fget, fput, params, cellsOf, cellsN, isLB, vget, vlen, bget, addB, addN, mkv, sliceV, vtab, frz, opOwns, skipOp, WfT, resV, res1, norm, norm1, normL, pureB, pureL, snapV, snapOk, specV, argsL, capsL, mkE_S, lkp, pickV, lenV, Fin, vp_bool, Val.toInt, Val.slen, Val.scell, ↓reduceIte, reduceCtorEq, Nat.reduceEqDiff, Nat.reduceAdd, Nat.reduceSub, Nat.reduceLeDiff, Nat.zero_add, Nat.add_zero, Int.reduceNeg, decide_true, decide_false, List.length_cons, List.length_nil, List.append_nil, Bool.and_self, Bool.bne_false, bne_self_eq_false, Bool.not_true, and_true, and_self, forall_const, implies_true, Nat.le_refl, maxLen, Nat.reducePow, TU_enc, spec0, spec1, TSl, IsSl, Prod.eta, Sp.L, TSp, Tn.c0, Tn.c1, RTn, Tn.w_c, Tn.d, Tn.eta]
  by_cases g3 : a.hi > 100000
  · simp only [RunTo, a14, sAlive, sTurns, fl, ht, g1, g2, g3, hw, ↓imp_tt, ↓imp_tf, ↓imp_ft, ↓imp_ff, runO_3, runO_5, runO_14, runO_17, runO_18, runO_19, aop, binV, ends, Nat.zero_sub, ev, fget, fput, params, cellsOf, cellsN, isLB, vget, vlen, bget, addB, addN, mkv, sliceV, vtab, frz, opOwns, skipOp, WfT, resV, res1, norm, norm1, normL, pureB, pureL, snapV, snapOk, specV, argsL, capsL, mkE_S, lkp, pickV, lenV, Fin, vp_bool, Val.toInt, Val.slen, Val.scell, ↓reduceIte, reduceCtorEq, Nat.reduceEqDiff, Nat.reduceAdd, Nat.reduceSub, Nat.reduceLeDiff, Nat.zero_add, Nat.add_zero, Int.reduceNeg, decide_true, decide_false, List.length_cons, List.length_nil, List.append_nil, Bool.and_self, Bool.bne_false, bne_self_eq_false, Bool.not_true, and_true, and_self, forall_const, implies_true, Nat.le_refl, maxLen, Nat.reducePow, TU_enc, spec0, spec1, TSl, IsSl, Prod.eta, Sp.L, TSp, Tn.c0, Tn.c1, RTn, Tn.w_c, Tn.d, Tn.eta]
  have hok := tnsB_iff.1 ht
  have hsp : SpIn a (-100000) 100000 := by unfold SpIn; omega
  have hu := u32_bd by'
  have e1 := onF_eq hok hsp
  have hin := insF_in (s := a) (n := by'.1) (by omega)
  obtain ⟨now, hnow⟩ : ∃ now, insF a by'.1 = now := ⟨_, rfl⟩
  rw [hnow] at hin
  have hpre : SpIn a (-100000000) 100000000 := by unfold SpIn; omega
  have hAB := on_bounds hok (show a.lo ≤ a.hi by omega)
  have hc1 := onS_cases l.2 a l.1
  have f1 : (onS l.2 a l.1 < -1) = False := eq_false (by rcases hc1 with ⟨h, _⟩ | ⟨j, _, h, _⟩ <;> omega)
  have f2 : (onS l.2 a l.1 ≥ (l.1 : Int)) = False := eq_false (by rcases hc1 with ⟨h, _⟩ | ⟨j, _, h, _⟩ <;> omega)
  obtain ⟨sr, hsr⟩ : ∃ s, onS l.2 a l.1 = s := ⟨_, rfl⟩
  rw [hsr] at f1 f2 e1 hc1
  obtain ⟨A, hA⟩ : ∃ A, onA l a = A := ⟨_, rfl⟩
  obtain ⟨B, hB⟩ : ∃ B, onB l a = B := ⟨_, rfl⟩
  rw [hA, hB] at e1 hAB
  replace hc1 := fun (_ : Unit) => hc1
  have hP : SpIn a (-100000000) 100000000 ∧ 0 ≤ by'.1 ∧ by'.1 ≤ 4294967295 := ⟨hpre, hu⟩
  simp (config := { maxSteps := 4000000 }) only [RunTo, a14, sAlive, sTurns, sOn, sInside, sSpanL, fl, ht, g1, g2, g3, e1, hnow, hu, hpre, f1, f2, hw, eq_self, ↓imp_ft, ↓imp_ff, runO_4, runO_5, runO_6, runO_14, runO_15, runO_17, runO_18, runO_19, aop, binV, ev, fget, fput, params, cellsOf, cellsN, isLB, vget, vlen, bget, addB, addN, mkv, sliceV, vtab, frz, opOwns, skipOp, WfT, norm, norms, norm1, normL, pureB, pureL, specV, argsL, capsL, mkE_S, lkp, pickV, lenV, Fin, vp_bool, Val.toInt, Val.slen, Val.scell, ↓reduceIte, reduceCtorEq, Nat.reduceEqDiff, Nat.reduceAdd, Nat.reduceSub, Nat.reduceLeDiff, Nat.reduceLT, Nat.zero_add, Nat.add_zero, Int.reduceNeg, decide_false, List.length_cons, List.length_nil, List.append_nil, Bool.and_self, bne_self_eq_false, Bool.not_true, and_true, true_and, and_self, forall_const, imp_self, implies_true, Nat.le_refl, maxLen, Nat.reducePow, TU_enc, spec0, spec1, spec2, TSl, IsSl, TInt, IsInt, Prod.eta, Sp.L, Sp.Is, Sp.of, TSp, Sp.d, Sp.eta, Tn.c0, Tn.c1, RTn, Tn.w_c, Tn.d, Tn.eta]
  intros
  refine loopI (ι := Nat) (fun j => j ≤ l.1) (fun j => l.1 - j) [0, 3, 5, 9, 10, 11, 13, 83, 84] (fun j => [(85, .int .i64 j), (14, .int .i64 (onS l.2 ⟨now, now⟩ j))]) (fun _ => []) 0 (by omega) (by simp only [Chk, chkFr, chkBx, chkBx1, hasB, idsLt, kept, vs_int, vs_bool, vs_nil, vs_ptr, vs_cons, vs_view, fget, isLB, bget, vsubP_self, ↓reduceIte, reduceCtorEq, Nat.reduceEqDiff, Nat.reduceLT, Int.cast_ofNat_Int, Int.reduceNeg, and_true, true_and, and_self, forall_const, implies_true, Option.some.injEq, Val.int.injEq, exists_eq', keepF, appF, updB]; try rfl) fun j hj => ?_
  simp (config := { maxSteps := 4000000 }) only [eq_self, ↓imp_ft, ↓imp_ff, runO_4, runO_5, runO_6, runO_8, runO_9, runO_14, runO_15, runO_16, runO_17, runO_18, runO_19, aop, binV, reOk, Nat.zero_sub, ev, fget, fput, cellsOf, cellsN, isLB, vget, vset, vsets, vlen, bget, bset, addB, addN, mkv, sliceV, vtab, frz, opOwns, skipOp, WfT, casts, castOks, cast1, castOk, onesB, pickV, lenV, popTo, stkFr, Val.toInt, ↓reduceIte, reduceCtorEq, Nat.reduceEqDiff, Nat.reduceAdd, Nat.reduceSub, Nat.reduceLeDiff, Nat.zero_add, Nat.add_zero, Int.reduceNeg, List.length_cons, List.length_nil, Bool.and_self, Bool.bne_true, bne_self_eq_false, Bool.not_false, true_and, and_self, and_assoc, forall_const, imp_self, implies_true, Nat.le_refl, decide_eq_true_eq, decide_eq_false_iff_not, maxLen, Nat.reducePow, keepF, appF, updB, inat, Tn.c0, Tn.c1]
  refine ⟨fun hlt => ⟨by omega, by omega, fun h1 => ⟨fun h2 => inv_intro (j + 1) (by omega) (by omega) ?_, fun h2 => inv_intro (j + 1) (by omega) (by omega) ?_⟩, fun h1 => inv_intro (j + 1) (by omega) (by omega) ?_⟩, fun hge => ?_⟩
  · simp only [Chk, chkFr, chkBx, chkBx1, hasB, idsLt, kept, vs_int, vs_bool, vs_nil, vs_ptr, vs_cons, vs_view, Nat.lt_irrefl, fget, isLB, bget, vsubP_self, ↓reduceIte, reduceCtorEq, Nat.reduceEqDiff, Nat.reduceLT, and_true, true_and, and_self, forall_const, implies_true, Option.some.injEq, Val.int.injEq, exists_eq', false_implies]
    rw [wrS (by omega), onS_s, if_pos ⟨h1, h2⟩]; first | exact ⟨rfl, rfl⟩ | trivial
  · simp only [Chk, chkFr, chkBx, chkBx1, hasB, idsLt, kept, vs_int, vs_bool, vs_nil, vs_ptr, vs_cons, vs_view, Nat.lt_irrefl, fget, isLB, bget, vsubP_self, ↓reduceIte, reduceCtorEq, Nat.reduceEqDiff, Nat.reduceLT, and_true, true_and, and_self, forall_const, implies_true, Option.some.injEq, Val.int.injEq, exists_eq', false_implies]
    rw [wrS (by omega), onS_s, if_neg (fun h => h2 h.2)]; first | exact ⟨rfl, rfl⟩ | trivial
  · simp only [Chk, chkFr, chkBx, chkBx1, hasB, idsLt, kept, vs_int, vs_bool, vs_nil, vs_ptr, vs_cons, vs_view, Nat.lt_irrefl, fget, isLB, bget, vsubP_self, ↓reduceIte, reduceCtorEq, Nat.reduceEqDiff, Nat.reduceLT, and_true, true_and, and_self, forall_const, implies_true, Option.some.injEq, Val.int.injEq, exists_eq', false_implies]
    rw [wrS (by omega), onS_s, if_neg (fun h => h1 h.1)]; first | exact ⟨rfl, rfl⟩ | trivial
  obtain rfl : j = l.1 := by omega
  clear hj hge
  have hF0 := onS_cases l.2 ⟨now, now⟩ l.1
  obtain ⟨F, hF⟩ : ∃ F, onS l.2 ⟨now, now⟩ l.1 = F := ⟨_, rfl⟩
  rw [hF] at hF0 ⊢
  have hFn : F = -1 ∨ (A : Int) ≤ F ∧ F < B := by
    rcases hF0 with ⟨h, _⟩ | ⟨f, h1, h2, h3, h4⟩
    · exact .inl h
    · have := on_named hok hin f h1 h3 h4; right; omega
  replace hF0 := fun (_ : Unit) => hF0
  intros
  refine loopI (ι := Nat) (fun j => j ≤ B - A) (fun j => B - A - j) [0, 3, 5, 9, 10, 11, 14, 104, 105] (fun j => [(106, .int .i64 j), (17, .bool (nmB F A j))]) (fun _ => []) 0 (by omega) (by simp only [Chk, chkFr, chkBx, chkBx1, hasB, idsLt, kept, vs_int, vs_bool, vs_nil, vs_ptr, vs_cons, vs_view, fget, isLB, bget, vsubP_self, ↓reduceIte, reduceCtorEq, Nat.reduceEqDiff, Nat.reduceLT, Int.cast_ofNat_Int, Int.reduceNeg, and_true, true_and, and_self, forall_const, implies_true, Option.some.injEq, Val.bool.injEq, exists_eq', keepF, appF, updB]; rw [Bool.eq_iff_iff, nmB_iff]; simp; omega) fun j hj => ?_
  by_cases hlt : j < B - A
  · have f4 : ((j : Int) < ((B - A : Nat) : Int)) = True := eq_true (by omega)
    have h3 := (on_iff (a := a) hok (A + j) (by omega)).2 ⟨by omega, by omega⟩
    have h4 := hok.2 (A + j) (by omega)
    unfold TnOk at h4
    have ew : IntKind.i64.wrap ((l.2 (A + j)).till - 1) = (l.2 (A + j)).till - 1 := wr64 (by omega) (by omega)
    have q1 : (((A + j : Nat) : Int) < 0) = False := eq_false (by omega)
    have q2 : (((A + j : Nat) : Int) ≥ (l.1 : Int)) = False := eq_false (by omega)
    have q3 : (max (l.2 (A + j)).fr a.lo > min ((l.2 (A + j)).till - 1) a.hi) = False := eq_false (by omega)
    have e1 : 0 < j → IntKind.i64.wrap ((j : Int) - 1) = ((j - 1 : Nat) : Int) := fun _ => by rw [wr64 (by omega) (by omega)]; omega
    have q4 : 0 < j → (((A + j : Nat) : Int) ≤ ((A + (j - 1) : Nat) : Int)) = False := fun _ => eq_false (by omega)
    have hnx : nmB F A (j + 1) = (nmB F A j || ((A + j : Nat) : Int) == F) := by
      rw [Bool.eq_iff_iff, Bool.or_eq_true, nmB_iff, nmB_iff, beq_iff_eq]; omega
    by_cases hj0 : j = 0
    · have f5 : ((j : Int) > 0) = False := eq_false (by omega)
      cases hn : nmB F A j
      · simp (config := { maxSteps := 4000000 }) only [f4, f5, ew, q1, q2, q3, eq_self, ↓imp_tt, ↓imp_tf, ↓imp_ft, ↓imp_ff, runO_4, runO_5, runO_6, runO_8, runO_14, runO_16, runO_17, runO_18, runO_19, aop, binV, ev, fget, fput, vget, vlen, bget, addB, addN, mkv, sliceV, vtab, frz, opOwns, skipOp, WfT, casts, castOks, cast1, castOk, pickV, lenV, stkFr, Val.toInt, ↓reduceIte, reduceCtorEq, Nat.reduceEqDiff, Nat.reduceAdd, Nat.reduceSub, Nat.reduceLeDiff, Nat.zero_add, Nat.add_zero, Nat.sub_zero, Int.reduceNeg, decide_true, decide_false, List.length_cons, List.length_nil, Bool.bne_true, bne_self_eq_false, Bool.not_false, and_true, true_and, and_self, and_assoc, forall_const, imp_self, implies_true, Nat.le_refl, keepF, appF, updB, inat, Tn.c0, Tn.c1]
        refine ⟨by omega, by omega, by omega, by omega, by omega, inv_intro (j + 1) (by omega) (by omega) ?_⟩
        simp only [Chk, chkFr, chkBx, chkBx1, hasB, idsLt, kept, vs_int, vs_bool, vs_nil, vs_ptr, vs_cons, vs_view, fget, isLB, bget, vsubP_self, ↓reduceIte, reduceCtorEq, Nat.reduceEqDiff, Nat.reduceLT, and_true, true_and, and_self, forall_const, implies_true, Option.some.injEq, Val.int.injEq, Val.bool.injEq, exists_eq']
        rw [wrS (by omega), hnx, hn]; first | exact ⟨rfl, rfl⟩ | rfl | trivial
      · simp (config := { maxSteps := 4000000 }) only [f4, f5, ew, q1, q2, q3, eq_self, ↓imp_tt, ↓imp_tf, ↓imp_ft, ↓imp_ff, runO_4, runO_5, runO_6, runO_8, runO_14, runO_16, runO_17, runO_18, runO_19, aop, binV, Nat.zero_sub, ev, fget, fput, vget, vlen, bget, addB, addN, mkv, sliceV, vtab, frz, opOwns, skipOp, WfT, casts, castOks, cast1, castOk, pickV, lenV, stkFr, Val.toInt, ↓reduceIte, reduceCtorEq, Nat.reduceEqDiff, Nat.reduceAdd, Nat.reduceSub, Nat.reduceLeDiff, Nat.zero_add, Nat.add_zero, Nat.sub_zero, Int.reduceNeg, decide_true, decide_false, List.length_cons, List.length_nil, Bool.bne_true, Bool.bne_false, bne_self_eq_false, Bool.not_false, and_true, true_and, and_self, and_assoc, forall_const, imp_self, implies_true, Nat.le_refl, keepF, appF, updB, inat, Tn.c0, Tn.c1]
        refine ⟨by omega, by omega, by omega, by omega, by omega, inv_intro (j + 1) (by omega) (by omega) ?_⟩
        simp only [Chk, chkFr, chkBx, chkBx1, hasB, idsLt, kept, vs_int, vs_bool, vs_nil, vs_ptr, vs_cons, vs_view, fget, isLB, bget, vsubP_self, ↓reduceIte, reduceCtorEq, Nat.reduceEqDiff, Nat.reduceLT, and_true, true_and, and_self, forall_const, implies_true, Option.some.injEq, Val.int.injEq, Val.bool.injEq, exists_eq']
        rw [wrS (by omega), hnx, hn]; first | exact ⟨rfl, rfl⟩ | rfl | trivial
    · have f5 : ((j : Int) > 0) = True := eq_true (by omega)
      have e1 := e1 (by omega)
      have q4 := q4 (by omega)
      cases hn : nmB F A j
      · simp (config := { maxSteps := 4000000 }) only [f4, f5, ew, e1, q1, q2, q3, q4, eq_self, ↓imp_tt, ↓imp_tf, ↓imp_ft, ↓imp_ff, runO_4, runO_5, runO_6, runO_8, runO_14, runO_16, runO_17, runO_18, runO_19, aop, binV, ev, fget, fput, vget, vlen, bget, addB, addN, mkv, sliceV, vtab, frz, opOwns, skipOp, WfT, casts, castOks, cast1, castOk, pickV, lenV, stkFr, Val.toInt, ↓reduceIte, reduceCtorEq, Nat.reduceEqDiff, Nat.reduceAdd, Nat.reduceSub, Nat.reduceLeDiff, Nat.zero_add, Nat.add_zero, Nat.sub_zero, Int.reduceNeg, decide_true, decide_false, List.length_cons, List.length_nil, bne_self_eq_false, and_true, true_and, and_self, and_assoc, forall_const, imp_self, implies_true, Nat.le_refl, keepF, appF, updB, inat, Tn.c0, Tn.c1]
        refine ⟨by omega, by omega, by omega, by omega, by omega, by omega, by omega, inv_intro (j + 1) (by omega) (by omega) ?_⟩
        simp only [Chk, chkFr, chkBx, chkBx1, hasB, idsLt, kept, vs_int, vs_bool, vs_nil, vs_ptr, vs_cons, vs_view, fget, isLB, bget, vsubP_self, ↓reduceIte, reduceCtorEq, Nat.reduceEqDiff, Nat.reduceLT, and_true, true_and, and_self, forall_const, implies_true, Option.some.injEq, Val.int.injEq, Val.bool.injEq, exists_eq']
        rw [wrS (by omega), hnx, hn]; first | exact ⟨rfl, rfl⟩ | rfl | trivial
      · simp (config := { maxSteps := 4000000 }) only [f4, f5, ew, e1, q1, q2, q3, q4, eq_self, ↓imp_tt, ↓imp_tf, ↓imp_ft, ↓imp_ff, runO_4, runO_5, runO_6, runO_8, runO_14, runO_16, runO_17, runO_18, runO_19, aop, binV, Nat.zero_sub, ev, fget, fput, vget, vlen, bget, addB, addN, mkv, sliceV, vtab, frz, opOwns, skipOp, WfT, casts, castOks, cast1, castOk, pickV, lenV, stkFr, Val.toInt, ↓reduceIte, reduceCtorEq, Nat.reduceEqDiff, Nat.reduceAdd, Nat.reduceSub, Nat.reduceLeDiff, Nat.zero_add, Nat.add_zero, Nat.sub_zero, Int.reduceNeg, decide_true, decide_false, List.length_cons, List.length_nil, Bool.bne_false, bne_self_eq_false, and_true, true_and, and_self, and_assoc, forall_const, imp_self, implies_true, Nat.le_refl, keepF, appF, updB, inat, Tn.c0, Tn.c1]
        refine ⟨by omega, by omega, by omega, by omega, by omega, by omega, by omega, inv_intro (j + 1) (by omega) (by omega) ?_⟩
        simp only [Chk, chkFr, chkBx, chkBx1, hasB, idsLt, kept, vs_int, vs_bool, vs_nil, vs_ptr, vs_cons, vs_view, fget, isLB, bget, vsubP_self, ↓reduceIte, reduceCtorEq, Nat.reduceEqDiff, Nat.reduceLT, and_true, true_and, and_self, forall_const, implies_true, Option.some.injEq, Val.int.injEq, Val.bool.injEq, exists_eq']
        rw [wrS (by omega), hnx, hn]; first | exact ⟨rfl, rfl⟩ | rfl | trivial
  obtain rfl : j = B - A := by omega
  have f4 : (((B - A : Nat) : Int) < ((B - A : Nat) : Int)) = False := eq_false (by omega)
  have hnm : nmB F A (B - A) = true := nmB_iff.2 (by omega)
  have hwd := u8_bd wd
  have eW : IntKind.i64.wrap wd.1 = wd.1 := wr64 (by omega) (by omega)
  have eL : IntKind.i64.wrap (a.lo - wd.1) = a.lo - wd.1 := wr64 (by omega) (by omega)
  have eH : IntKind.i64.wrap (a.hi + wd.1) = a.hi + wd.1 := wr64 (by omega) (by omega)
  obtain ⟨b, hb⟩ : ∃ b : Sp, b = ⟨max (a.lo - wd.1) (-100000), min (a.hi + wd.1) 100000⟩ := ⟨_, rfl⟩
  have hb1 : b.lo = max (a.lo - wd.1) (-100000) ∧ b.hi = min (a.hi + wd.1) 100000 := by rw [hb]; exact ⟨rfl, rfl⟩
  have e2 := onF_eq hok (a := b) (by unfold SpIn; omega)
  have hw2 := fun (j : Nat) (h1 : onA l a ≤ j) (h2 : j < onB l a) => on_wide (b := b) hok (by omega) (by omega) (show a.lo ≤ a.hi by omega) h1 h2
  have hAB2 := on_bounds (a := b) hok (by omega)
  obtain ⟨sr2, hsr2⟩ : ∃ s, onS l.2 b l.1 = s := ⟨_, rfl⟩
  obtain ⟨A2, hA2⟩ : ∃ A, onA l b = A := ⟨_, rfl⟩
  obtain ⟨B2, hB2⟩ : ∃ B, onB l b = B := ⟨_, rfl⟩
  rw [hsr2] at e2
  rw [hA2, hB2] at e2 hAB2
  simp only [hA, hB, hA2, hB2] at hw2
  have hfew : ¬ (((B2 - A2 : Nat) : Int) < ((B - A : Nat) : Int)) := by
    rcases Nat.lt_or_ge A B with h | h
    · have h5 := hw2 A (by omega) h
      have h6 := hw2 (B - 1) (by omega) (by omega)
      omega
    · omega
  have f7 : (((B2 - A2 : Nat) : Int) < ((B - A : Nat) : Int)) = False := eq_false hfew
  rcases hc1 () with ⟨hs1, hs2⟩ | ⟨s, hs1, hs2, hs3, hs4⟩
  · have f6 : (sr ≥ 0) = False := eq_false (by omega)
    have f8 : (sr < 0) = True := eq_true (by omega)
    by_cases hone : B - A = 1
    · have f9 : (((B - A : Nat) : Int) = 1) = True := eq_true (by omega)
      by_cases hfr : (l.2 A).fr ≤ a.lo
      · have f10 : ((l.2 A).till > a.hi) = False := eq_false fun h => hs2 A (by omega) ⟨hfr, by omega⟩
        simp (config := { maxSteps := 4000000 }) only [hw, hnm, f4, f6, f7, f8, f9, hfr, f10, eW, eL, eH, ← hb, e2, eq_self, ↓imp_tt, ↓imp_tf, ↓imp_ft, ↓imp_ff, runO_4, runO_5, runO_6, runO_9, runO_14, runO_15, runO_17, runO_18, runO_19, aop, binV, Nat.zero_sub, ev, fget, fput, isLB, vget, vlen, bget, addB, addN, mkv, sliceV, vtab, frz, opOwns, skipOp, WfT, casts, castOks, cast1, castOk, norm, norms, norm1, normL, pureB, pureL, specV, argsL, capsL, mkE_S, lkp, pickV, lenV, popTo, stkFr, Val.toInt, ↓reduceIte, reduceCtorEq, Nat.reduceEqDiff, Nat.reduceAdd, Nat.reduceSub, Nat.reduceLeDiff, Nat.reduceLT, Nat.zero_add, Nat.add_zero, Nat.sub_zero, Int.reduceToNat, Int.reduceLE, Int.reduceNeg, decide_true, decide_false, beq_iff_eq, beq_eq_false_iff_ne, List.length_cons, List.length_nil, List.append_nil, Bool.and_self, Bool.bne_true, bne_self_eq_false, Bool.not_true, Bool.not_false, and_true, true_and, and_self, and_assoc, forall_const, imp_self, implies_true, Nat.le_refl, ne_eq, false_implies, not_true_eq_false, maxLen, Nat.reducePow, keepF, appF, updB, inat, Prod.eta, Tn.c0, Tn.c1, Tn.w_c, Tn.eta]
        refine ⟨by omega, by omega, by omega, by omega, by omega, by omega, ?_⟩
        intros
        refine loopI (ι := Nat) (fun j => j ≤ B - A) (fun j => B - A - j) [9, 22, 236, 237] (fun j => [(238, .int .i64 j)]) (fun _ => []) 0 (by omega) (by simp only [Chk, chkFr, chkBx, chkBx1, idsLt, kept, vs_int, vs_bool, vs_nil, vs_cons, vs_view, fget, isLB, bget, vsubP_self, ↓reduceIte, reduceCtorEq, Nat.reduceEqDiff, Nat.reduceLT, Int.cast_ofNat_Int, Int.reduceNeg, and_self, forall_const, implies_true, Option.some.injEq, exists_eq', keepF, appF, updB]; try rfl) fun j hj => ?_
        simp (config := { maxSteps := 4000000 }) only [eq_self, runO_3, runO_4, runO_5, runO_6, runO_9, runO_14, runO_15, runO_17, runO_18, runO_19, aop, binV, ends, ev, fget, fput, vget, addB, addN, mkv, frz, opOwns, skipOp, WfT, resV, res1, casts, castOks, cast1, castOk, snapV, snapOk, lenV, popTo, stkFr, Val.toInt, ↓reduceIte, reduceCtorEq, Nat.reduceEqDiff, Nat.reduceSub, Nat.zero_add, Int.reduceNeg, List.length_cons, List.length_nil, and_true, true_and, and_self, and_assoc, forall_const, imp_self, implies_true, Nat.le_refl, decide_eq_true_eq, decide_eq_false_iff_not, maxLen, Nat.reducePow, keepF, appF, updB, inat]
        refine fun hlt => ⟨by omega, by omega, ?_⟩
        have hjj := hw2 (A + j) (by omega) (by omega)
        intros
        refine loopI (ι := Nat) (fun z => z ≤ B2 - A2) (fun z => B2 - A2 - z) [9, 22, 26, 236, 237, 238, 242, 243] (fun z => [(244, .int .i64 z), (27, .bool (isB A2 (A + j) z))]) (fun _ => []) 0 (by omega) (by simp only [Chk, chkFr, chkBx, chkBx1, idsLt, kept, vs_int, vs_bool, vs_nil, vs_cons, vs_view, fget, isLB, bget, vsubP_self, ↓reduceIte, Nat.reduceEqDiff, Nat.reduceLT, Int.cast_ofNat_Int, and_true, true_and, and_self, forall_const, implies_true, Option.some.injEq, Val.bool.injEq, exists_eq', keepF, appF, updB]; unfold isB; exact (decide_eq_false (by omega)).symm) fun z hz => ?_
        simp (config := { maxSteps := 4000000 }) only [eq_self, runO_3, runO_4, runO_5, runO_6, runO_8, runO_9, runO_14, runO_16, runO_17, runO_18, runO_19, aop, binV, ends, Nat.zero_sub, ev, fget, fput, vget, addB, addN, mkv, frz, opOwns, skipOp, WfT, resV, res1, casts, castOks, cast1, castOk, snapV, snapOk, pickV, popTo, stkFr, Val.toInt, ↓reduceIte, reduceCtorEq, Nat.reduceEqDiff, Nat.zero_add, Int.reduceNeg, List.length_cons, List.length_nil, Bool.not_eq_true', Bool.not_eq_false', Bool.bne_false, bne_self_eq_false, Bool.false_eq_true, true_and, and_self, and_assoc, forall_const, imp_self, implies_true, Nat.le_refl, decide_eq_true_eq, decide_eq_false_iff_not, Val.bool.injEq, keepF, appF, updB, inat]
        have hnx : isB A2 (A + j) (z + 1) = (isB A2 (A + j) z || ((A2 + z : Nat) : Int) == ((A + j : Nat) : Int)) := by
          rw [Bool.eq_iff_iff, Bool.or_eq_true, isB_iff, isB_iff, beq_iff_eq]; omega
        refine ⟨fun hlt2 => ⟨by omega, by omega, fun h1 => inv_intro (z + 1) (by omega) (by omega) ?_, fun h1 => inv_intro (z + 1) (by omega) (by omega) ?_⟩, fun hge => ⟨fun h1 => ?_, fun h1 => inv_intro (j + 1) (by omega) (by omega) ?_⟩⟩
        · simp only [Chk, chkFr, chkBx, chkBx1, idsLt, kept, vs_int, vs_bool, vs_nil, vs_cons, vs_view, fget, isLB, bget, vsubP_self, ↓reduceIte, Nat.reduceEqDiff, Nat.reduceLT, and_true, true_and, and_self, forall_const, implies_true, Option.some.injEq, Val.int.injEq, Val.bool.injEq, exists_eq']
          rw [wrS (by omega), hnx, h1]; first | exact ⟨rfl, rfl⟩ | rfl | trivial
        · simp only [Chk, chkFr, chkBx, chkBx1, idsLt, kept, vs_int, vs_bool, vs_nil, vs_cons, vs_view, fget, isLB, bget, vsubP_self, ↓reduceIte, Nat.reduceEqDiff, Nat.reduceLT, and_true, true_and, and_self, forall_const, implies_true, Option.some.injEq, Val.int.injEq, Val.bool.injEq, exists_eq']
          rw [wrS (by omega), hnx, h1]; first | exact ⟨rfl, rfl⟩ | rfl | trivial
        · have := isB_iff.2 (show A2 ≤ A + j ∧ A + j < A2 + z by omega)
          rw [this] at h1; cases h1
        · simp only [Chk, chkFr, chkBx, chkBx1, idsLt, kept, vs_int, vs_bool, vs_nil, vs_cons, vs_view, fget, isLB, bget, vsubP_self, ↓reduceIte, Nat.reduceEqDiff, Nat.reduceLT, and_true, true_and, and_self, forall_const, implies_true, Option.some.injEq, Val.int.injEq, exists_eq']
          rw [wrS (by omega)]
      · simp (config := { maxSteps := 4000000 }) only [hw, hnm, f4, f6, f7, f8, f9, hfr, eW, eL, eH, ← hb, e2, eq_self, ↓imp_tt, ↓imp_tf, ↓imp_ft, ↓imp_ff, runO_4, runO_5, runO_6, runO_9, runO_14, runO_15, runO_17, runO_18, runO_19, aop, binV, Nat.zero_sub, ev, fget, fput, isLB, vget, vlen, bget, addB, addN, mkv, sliceV, vtab, frz, opOwns, skipOp, WfT, casts, castOks, cast1, castOk, norm, norms, norm1, normL, pureB, pureL, specV, argsL, capsL, mkE_S, lkp, pickV, lenV, popTo, stkFr, Val.toInt, ↓reduceIte, reduceCtorEq, Nat.reduceEqDiff, Nat.reduceAdd, Nat.reduceSub, Nat.reduceLeDiff, Nat.reduceLT, Nat.zero_add, Nat.add_zero, Nat.sub_zero, Int.reduceToNat, Int.reduceLE, Int.reduceNeg, decide_true, decide_false, beq_iff_eq, beq_eq_false_iff_ne, List.length_cons, List.length_nil, List.append_nil, Bool.and_self, Bool.bne_true, bne_self_eq_false, Bool.not_true, Bool.not_false, and_true, true_and, and_self, and_assoc, forall_const, imp_self, implies_true, Nat.le_refl, ne_eq, false_implies, not_true_eq_false, maxLen, Nat.reducePow, keepF, appF, updB, inat, Prod.eta, Tn.c0, Tn.c1, Tn.w_c, Tn.eta]
        refine ⟨by omega, by omega, by omega, ?_⟩
        intros
        refine loopI (ι := Nat) (fun j => j ≤ B - A) (fun j => B - A - j) [9, 22, 236, 237] (fun j => [(238, .int .i64 j)]) (fun _ => []) 0 (by omega) (by simp only [Chk, chkFr, chkBx, chkBx1, idsLt, kept, vs_int, vs_bool, vs_nil, vs_cons, vs_view, fget, isLB, bget, vsubP_self, ↓reduceIte, reduceCtorEq, Nat.reduceEqDiff, Nat.reduceLT, Int.cast_ofNat_Int, Int.reduceNeg, and_self, forall_const, implies_true, Option.some.injEq, exists_eq', keepF, appF, updB]; try rfl) fun j hj => ?_
        simp (config := { maxSteps := 4000000 }) only [eq_self, runO_3, runO_4, runO_5, runO_6, runO_9, runO_14, runO_15, runO_17, runO_18, runO_19, aop, binV, ends, ev, fget, fput, vget, addB, addN, mkv, frz, opOwns, skipOp, WfT, resV, res1, casts, castOks, cast1, castOk, snapV, snapOk, lenV, popTo, stkFr, Val.toInt, ↓reduceIte, reduceCtorEq, Nat.reduceEqDiff, Nat.reduceSub, Nat.zero_add, Int.reduceNeg, List.length_cons, List.length_nil, and_true, true_and, and_self, and_assoc, forall_const, imp_self, implies_true, Nat.le_refl, decide_eq_true_eq, decide_eq_false_iff_not, maxLen, Nat.reducePow, keepF, appF, updB, inat]
        refine fun hlt => ⟨by omega, by omega, ?_⟩
        have hjj := hw2 (A + j) (by omega) (by omega)
        intros
        refine loopI (ι := Nat) (fun z => z ≤ B2 - A2) (fun z => B2 - A2 - z) [9, 22, 26, 236, 237, 238, 242, 243] (fun z => [(244, .int .i64 z), (27, .bool (isB A2 (A + j) z))]) (fun _ => []) 0 (by omega) (by simp only [Chk, chkFr, chkBx, chkBx1, idsLt, kept, vs_int, vs_bool, vs_nil, vs_cons, vs_view, fget, isLB, bget, vsubP_self, ↓reduceIte, Nat.reduceEqDiff, Nat.reduceLT, Int.cast_ofNat_Int, and_true, true_and, and_self, forall_const, implies_true, Option.some.injEq, Val.bool.injEq, exists_eq', keepF, appF, updB]; unfold isB; exact (decide_eq_false (by omega)).symm) fun z hz => ?_
        simp (config := { maxSteps := 4000000 }) only [eq_self, runO_3, runO_4, runO_5, runO_6, runO_8, runO_9, runO_14, runO_16, runO_17, runO_18, runO_19, aop, binV, ends, Nat.zero_sub, ev, fget, fput, vget, addB, addN, mkv, frz, opOwns, skipOp, WfT, resV, res1, casts, castOks, cast1, castOk, snapV, snapOk, pickV, popTo, stkFr, Val.toInt, ↓reduceIte, reduceCtorEq, Nat.reduceEqDiff, Nat.zero_add, Int.reduceNeg, List.length_cons, List.length_nil, Bool.not_eq_true', Bool.not_eq_false', Bool.bne_false, bne_self_eq_false, Bool.false_eq_true, true_and, and_self, and_assoc, forall_const, imp_self, implies_true, Nat.le_refl, decide_eq_true_eq, decide_eq_false_iff_not, Val.bool.injEq, keepF, appF, updB, inat]
        have hnx : isB A2 (A + j) (z + 1) = (isB A2 (A + j) z || ((A2 + z : Nat) : Int) == ((A + j : Nat) : Int)) := by
          rw [Bool.eq_iff_iff, Bool.or_eq_true, isB_iff, isB_iff, beq_iff_eq]; omega
        refine ⟨fun hlt2 => ⟨by omega, by omega, fun h1 => inv_intro (z + 1) (by omega) (by omega) ?_, fun h1 => inv_intro (z + 1) (by omega) (by omega) ?_⟩, fun hge => ⟨fun h1 => ?_, fun h1 => inv_intro (j + 1) (by omega) (by omega) ?_⟩⟩
        · simp only [Chk, chkFr, chkBx, chkBx1, idsLt, kept, vs_int, vs_bool, vs_nil, vs_cons, vs_view, fget, isLB, bget, vsubP_self, ↓reduceIte, Nat.reduceEqDiff, Nat.reduceLT, and_true, true_and, and_self, forall_const, implies_true, Option.some.injEq, Val.int.injEq, Val.bool.injEq, exists_eq']
          rw [wrS (by omega), hnx, h1]; first | exact ⟨rfl, rfl⟩ | rfl | trivial
        · simp only [Chk, chkFr, chkBx, chkBx1, idsLt, kept, vs_int, vs_bool, vs_nil, vs_cons, vs_view, fget, isLB, bget, vsubP_self, ↓reduceIte, Nat.reduceEqDiff, Nat.reduceLT, and_true, true_and, and_self, forall_const, implies_true, Option.some.injEq, Val.int.injEq, Val.bool.injEq, exists_eq']
          rw [wrS (by omega), hnx, h1]; first | exact ⟨rfl, rfl⟩ | rfl | trivial
        · have := isB_iff.2 (show A2 ≤ A + j ∧ A + j < A2 + z by omega)
          rw [this] at h1; cases h1
        · simp only [Chk, chkFr, chkBx, chkBx1, idsLt, kept, vs_int, vs_bool, vs_nil, vs_cons, vs_view, fget, isLB, bget, vsubP_self, ↓reduceIte, Nat.reduceEqDiff, Nat.reduceLT, and_true, true_and, and_self, forall_const, implies_true, Option.some.injEq, Val.int.injEq, exists_eq']
          rw [wrS (by omega)]
    · have f9 : (((B - A : Nat) : Int) = 1) = False := eq_false (by omega)
      simp (config := { maxSteps := 4000000 }) only [hw, hnm, f4, f6, f7, f8, f9, eW, eL, eH, ← hb, e2, eq_self, ↓imp_tt, ↓imp_tf, ↓imp_ft, ↓imp_ff, runO_3, runO_4, runO_5, runO_6, runO_9, runO_14, runO_15, runO_17, runO_18, runO_19, aop, binV, ends, Nat.zero_sub, ev, fget, fput, isLB, vget, vlen, bget, addB, addN, mkv, sliceV, vtab, frz, opOwns, skipOp, WfT, resV, res1, casts, castOks, cast1, castOk, norm, norms, norm1, normL, pureB, pureL, snapV, snapOk, specV, argsL, capsL, mkE_S, lkp, pickV, lenV, popTo, stkFr, Val.toInt, ↓reduceIte, reduceCtorEq, Nat.reduceEqDiff, Nat.reduceAdd, Nat.reduceSub, Nat.reduceLeDiff, Nat.reduceLT, Nat.zero_add, Nat.add_zero, Nat.sub_zero, Int.reduceToNat, Int.reduceLE, Int.reduceNeg, decide_true, decide_false, beq_iff_eq, beq_eq_false_iff_ne, List.length_cons, List.length_nil, List.append_nil, Bool.and_self, Bool.bne_true, bne_self_eq_false, Bool.not_true, Bool.not_false, Bool.false_eq_true, and_true, true_and, and_self, and_assoc, forall_const, imp_self, implies_true, Nat.le_refl, decide_eq_true_eq, decide_eq_false_iff_not, Val.bool.injEq, ne_eq, not_false_eq_true, false_implies, not_false_eq_true, maxLen, Nat.reducePow, keepF, appF, updB, inat, Prod.eta, Tn.c0, Tn.c1, Tn.w_c, Tn.eta]
      intros
      refine loopI (ι := Nat) (fun j => j ≤ B - A) (fun j => B - A - j) [9, 22, 236, 237] (fun j => [(238, .int .i64 j)]) (fun _ => []) 0 (by omega) (by simp only [Chk, chkFr, chkBx, chkBx1, idsLt, kept, vs_int, vs_bool, vs_nil, vs_cons, vs_view, fget, isLB, bget, vsubP_self, ↓reduceIte, reduceCtorEq, Nat.reduceEqDiff, Nat.reduceLT, Int.cast_ofNat_Int, Int.reduceNeg, and_self, forall_const, implies_true, Option.some.injEq, exists_eq', keepF, appF, updB]; try rfl) fun j hj => ?_
      simp (config := { maxSteps := 4000000 }) only [eq_self, runO_3, runO_4, runO_5, runO_6, runO_9, runO_14, runO_15, runO_17, runO_18, runO_19, aop, binV, ends, ev, fget, fput, vget, addB, addN, mkv, frz, opOwns, skipOp, WfT, resV, res1, casts, castOks, cast1, castOk, snapV, snapOk, lenV, popTo, stkFr, Val.toInt, ↓reduceIte, reduceCtorEq, Nat.reduceEqDiff, Nat.reduceSub, Nat.zero_add, Int.reduceNeg, List.length_cons, List.length_nil, and_true, true_and, and_self, and_assoc, forall_const, imp_self, implies_true, Nat.le_refl, decide_eq_true_eq, decide_eq_false_iff_not, maxLen, Nat.reducePow, keepF, appF, updB, inat]
      refine fun hlt => ⟨by omega, by omega, ?_⟩
      have hjj := hw2 (A + j) (by omega) (by omega)
      intros
      refine loopI (ι := Nat) (fun z => z ≤ B2 - A2) (fun z => B2 - A2 - z) [9, 22, 26, 236, 237, 238, 242, 243] (fun z => [(244, .int .i64 z), (27, .bool (isB A2 (A + j) z))]) (fun _ => []) 0 (by omega) (by simp only [Chk, chkFr, chkBx, chkBx1, idsLt, kept, vs_int, vs_bool, vs_nil, vs_cons, vs_view, fget, isLB, bget, vsubP_self, ↓reduceIte, Nat.reduceEqDiff, Nat.reduceLT, Int.cast_ofNat_Int, and_true, true_and, and_self, forall_const, implies_true, Option.some.injEq, Val.bool.injEq, exists_eq', keepF, appF, updB]; unfold isB; exact (decide_eq_false (by omega)).symm) fun z hz => ?_
      simp (config := { maxSteps := 4000000 }) only [eq_self, runO_3, runO_4, runO_5, runO_6, runO_8, runO_9, runO_14, runO_16, runO_17, runO_18, runO_19, aop, binV, ends, Nat.zero_sub, ev, fget, fput, vget, addB, addN, mkv, frz, opOwns, skipOp, WfT, resV, res1, casts, castOks, cast1, castOk, snapV, snapOk, pickV, popTo, stkFr, Val.toInt, ↓reduceIte, reduceCtorEq, Nat.reduceEqDiff, Nat.zero_add, Int.reduceNeg, List.length_cons, List.length_nil, Bool.not_eq_true', Bool.not_eq_false', Bool.bne_false, bne_self_eq_false, Bool.false_eq_true, true_and, and_self, and_assoc, forall_const, imp_self, implies_true, Nat.le_refl, decide_eq_true_eq, decide_eq_false_iff_not, Val.bool.injEq, keepF, appF, updB, inat]
      have hnx : isB A2 (A + j) (z + 1) = (isB A2 (A + j) z || ((A2 + z : Nat) : Int) == ((A + j : Nat) : Int)) := by
        rw [Bool.eq_iff_iff, Bool.or_eq_true, isB_iff, isB_iff, beq_iff_eq]; omega
      refine ⟨fun hlt2 => ⟨by omega, by omega, fun h1 => inv_intro (z + 1) (by omega) (by omega) ?_, fun h1 => inv_intro (z + 1) (by omega) (by omega) ?_⟩, fun hge => ⟨fun h1 => ?_, fun h1 => inv_intro (j + 1) (by omega) (by omega) ?_⟩⟩
      · simp only [Chk, chkFr, chkBx, chkBx1, idsLt, kept, vs_int, vs_bool, vs_nil, vs_cons, vs_view, fget, isLB, bget, vsubP_self, ↓reduceIte, Nat.reduceEqDiff, Nat.reduceLT, and_true, true_and, and_self, forall_const, implies_true, Option.some.injEq, Val.int.injEq, Val.bool.injEq, exists_eq']
        rw [wrS (by omega), hnx, h1]; first | exact ⟨rfl, rfl⟩ | rfl | trivial
      · simp only [Chk, chkFr, chkBx, chkBx1, idsLt, kept, vs_int, vs_bool, vs_nil, vs_cons, vs_view, fget, isLB, bget, vsubP_self, ↓reduceIte, Nat.reduceEqDiff, Nat.reduceLT, and_true, true_and, and_self, forall_const, implies_true, Option.some.injEq, Val.int.injEq, Val.bool.injEq, exists_eq']
        rw [wrS (by omega), hnx, h1]; first | exact ⟨rfl, rfl⟩ | rfl | trivial
      · have := isB_iff.2 (show A2 ≤ A + j ∧ A + j < A2 + z by omega)
        rw [this] at h1; cases h1
      · simp only [Chk, chkFr, chkBx, chkBx1, idsLt, kept, vs_int, vs_bool, vs_nil, vs_cons, vs_view, fget, isLB, bget, vsubP_self, ↓reduceIte, Nat.reduceEqDiff, Nat.reduceLT, and_true, true_and, and_self, forall_const, implies_true, Option.some.injEq, Val.int.injEq, exists_eq']
        rw [wrS (by omega)]
  · have h9 := on_sure hok (show a.lo ≤ a.hi by omega) s hs1 hs3 hs4
    rw [hA, hB] at h9
    have f6 : (sr ≥ 0) = True := eq_true (by omega)
    have f8 : (sr < 0) = False := eq_false (by omega)
    have hFs : F = sr := by
      rcases hF0 () with ⟨h, h2⟩ | ⟨f, h1, h2, h3, h4⟩
      · exact absurd (show (l.2 s).fr ≤ now ∧ now < (l.2 s).till from ⟨by omega, by omega⟩) (h2 s hs1)
      · have := on_named hok hin f h1 h3 h4
        rw [hA, hB] at this; omega
    have f9 : (((B - A : Nat) : Int) = 1) = True := eq_true (by omega)
    rw [hFs] at hnm
    simp (config := { maxSteps := 4000000 }) only [hw, hnm, f4, f6, f7, f8, hFs, f9, eW, eL, eH, ← hb, e2, eq_self, ↓imp_tt, ↓imp_tf, ↓imp_ft, ↓imp_ff, runO_3, runO_4, runO_5, runO_6, runO_9, runO_14, runO_15, runO_17, runO_18, runO_19, aop, binV, ends, Nat.zero_sub, ev, fget, fput, isLB, vget, vlen, bget, addB, addN, mkv, sliceV, vtab, frz, opOwns, skipOp, WfT, resV, res1, norm, norms, norm1, normL, pureB, pureL, snapV, snapOk, specV, argsL, capsL, mkE_S, lkp, pickV, lenV, popTo, stkFr, ↓reduceIte, reduceCtorEq, Nat.reduceEqDiff, Nat.reduceAdd, Nat.reduceSub, Nat.reduceLeDiff, Nat.reduceLT, Nat.zero_add, Nat.add_zero, Int.reduceNeg, decide_true, decide_false, bne_iff_ne, bne_eq_false_iff_eq, List.length_cons, List.length_nil, List.append_nil, Bool.and_self, Bool.bne_true, bne_self_eq_false, Bool.not_true, Bool.not_false, Bool.false_eq_true, and_true, true_and, and_self, forall_const, imp_self, implies_true, Nat.le_refl, Val.bool.injEq, ne_eq, not_true_eq_false, maxLen, Nat.reducePow, keepF, appF, updB, Prod.eta, Tn.c0, Tn.c1, Tn.w_c, Tn.eta]
    intros
    refine loopI (ι := Nat) (fun j => j ≤ B - A) (fun j => B - A - j) [9, 22, 236, 237] (fun j => [(238, .int .i64 j)]) (fun _ => []) 0 (by omega) (by simp only [Chk, chkFr, chkBx, chkBx1, idsLt, kept, vs_int, vs_bool, vs_nil, vs_cons, vs_view, fget, isLB, bget, vsubP_self, ↓reduceIte, reduceCtorEq, Nat.reduceEqDiff, Nat.reduceLT, Int.cast_ofNat_Int, Int.reduceNeg, and_self, forall_const, implies_true, Option.some.injEq, exists_eq', keepF, appF, updB]; try rfl) fun j hj => ?_
    simp (config := { maxSteps := 4000000 }) only [eq_self, runO_3, runO_4, runO_5, runO_6, runO_9, runO_14, runO_15, runO_17, runO_18, runO_19, aop, binV, ends, ev, fget, fput, vget, addB, addN, mkv, frz, opOwns, skipOp, WfT, resV, res1, casts, castOks, cast1, castOk, snapV, snapOk, lenV, popTo, stkFr, Val.toInt, ↓reduceIte, reduceCtorEq, Nat.reduceEqDiff, Nat.reduceSub, Nat.zero_add, Int.reduceNeg, List.length_cons, List.length_nil, and_true, true_and, and_self, and_assoc, forall_const, imp_self, implies_true, Nat.le_refl, decide_eq_true_eq, decide_eq_false_iff_not, maxLen, Nat.reducePow, keepF, appF, updB, inat]
    refine fun hlt => ⟨by omega, by omega, ?_⟩
    have hjj := hw2 (A + j) (by omega) (by omega)
    intros
    refine loopI (ι := Nat) (fun z => z ≤ B2 - A2) (fun z => B2 - A2 - z) [9, 22, 26, 236, 237, 238, 242, 243] (fun z => [(244, .int .i64 z), (27, .bool (isB A2 (A + j) z))]) (fun _ => []) 0 (by omega) (by simp only [Chk, chkFr, chkBx, chkBx1, idsLt, kept, vs_int, vs_bool, vs_nil, vs_cons, vs_view, fget, isLB, bget, vsubP_self, ↓reduceIte, Nat.reduceEqDiff, Nat.reduceLT, Int.cast_ofNat_Int, and_true, true_and, and_self, forall_const, implies_true, Option.some.injEq, Val.bool.injEq, exists_eq', keepF, appF, updB]; unfold isB; exact (decide_eq_false (by omega)).symm) fun z hz => ?_
    simp (config := { maxSteps := 4000000 }) only [eq_self, runO_3, runO_4, runO_5, runO_6, runO_8, runO_9, runO_14, runO_16, runO_17, runO_18, runO_19, aop, binV, ends, Nat.zero_sub, ev, fget, fput, vget, addB, addN, mkv, frz, opOwns, skipOp, WfT, resV, res1, casts, castOks, cast1, castOk, snapV, snapOk, pickV, popTo, stkFr, Val.toInt, ↓reduceIte, reduceCtorEq, Nat.reduceEqDiff, Nat.zero_add, Int.reduceNeg, List.length_cons, List.length_nil, Bool.not_eq_true', Bool.not_eq_false', Bool.bne_false, bne_self_eq_false, Bool.false_eq_true, true_and, and_self, and_assoc, forall_const, imp_self, implies_true, Nat.le_refl, decide_eq_true_eq, decide_eq_false_iff_not, Val.bool.injEq, keepF, appF, updB, inat]
    have hnx : isB A2 (A + j) (z + 1) = (isB A2 (A + j) z || ((A2 + z : Nat) : Int) == ((A + j : Nat) : Int)) := by
      rw [Bool.eq_iff_iff, Bool.or_eq_true, isB_iff, isB_iff, beq_iff_eq]; omega
    refine ⟨fun hlt2 => ⟨by omega, by omega, fun h1 => inv_intro (z + 1) (by omega) (by omega) ?_, fun h1 => inv_intro (z + 1) (by omega) (by omega) ?_⟩, fun hge => ⟨fun h1 => ?_, fun h1 => inv_intro (j + 1) (by omega) (by omega) ?_⟩⟩
    · simp only [Chk, chkFr, chkBx, chkBx1, idsLt, kept, vs_int, vs_bool, vs_nil, vs_cons, vs_view, fget, isLB, bget, vsubP_self, ↓reduceIte, Nat.reduceEqDiff, Nat.reduceLT, and_true, true_and, and_self, forall_const, implies_true, Option.some.injEq, Val.int.injEq, Val.bool.injEq, exists_eq']
      rw [wrS (by omega), hnx, h1]; first | exact ⟨rfl, rfl⟩ | rfl | trivial
    · simp only [Chk, chkFr, chkBx, chkBx1, idsLt, kept, vs_int, vs_bool, vs_nil, vs_cons, vs_view, fget, isLB, bget, vsubP_self, ↓reduceIte, Nat.reduceEqDiff, Nat.reduceLT, and_true, true_and, and_self, forall_const, implies_true, Option.some.injEq, Val.int.injEq, Val.bool.injEq, exists_eq']
      rw [wrS (by omega), hnx, h1]; first | exact ⟨rfl, rfl⟩ | rfl | trivial
    · have := isB_iff.2 (show A2 ≤ A + j ∧ A + j < A2 + z by omega)
      rw [this] at h1; cases h1
    · simp only [Chk, chkFr, chkBx, chkBx1, idsLt, kept, vs_int, vs_bool, vs_nil, vs_cons, vs_view, fget, isLB, bget, vsubP_self, ↓reduceIte, Nat.reduceEqDiff, Nat.reduceLT, and_true, true_and, and_self, forall_const, implies_true, Option.some.injEq, Val.int.injEq, exists_eq']
      rw [wrS (by omega)]
end Go.Proofs.YtbhhcnonooiokaaDoor
