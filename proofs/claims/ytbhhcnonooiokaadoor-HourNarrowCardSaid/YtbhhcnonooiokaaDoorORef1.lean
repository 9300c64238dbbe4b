/- Turns that may be on: the reference. No condition. -/
import Derived.Test.YtbhhcnonooiokaaDoorNMath
import Derived.Test.YtbhhcnonooiokaaDoorHRef4
set_option linter.unusedSimpArgs false
set_option linter.unusedVariables false
namespace Go.Proofs.YtbhhcnonooiokaaDoor
open Go Go.RowKit
variable {G : Nat → Option (Nat × (Nat → Val))}
abbrev Tns := Nat × (Nat → Tn)
def TnOk (l : Nat → Tn) (i : Nat) : Prop := 0 ≤ (l i).fr ∧ (l i).fr < (l i).till ∧ (l i).till ≤ 23040 ∧ (0 < i → (l (i - 1)).till ≤ (l i).fr)
def TnsOk (l : Tns) : Prop := l.1 ≤ 60 ∧ ∀ i, i < l.1 → TnOk l.2 i
noncomputable def tnsB (l : Tns) : Bool := @decide (TnsOk l) (Classical.propDecidable _)
theorem tnsB_iff {l : Tns} : tnsB l = true ↔ TnsOk l := by simp [tnsB]
theorem fstI_up {p : Nat → Prop} {n : Nat} (h : ∀ i j, i ≤ j → j < n → p i → p j) : ∀ j, j < n → (fstI p n ≤ j ↔ p j) := by
  intro j hj
  by_cases ha : ∀ i < n, ¬ p i
  · rw [fstI_no ha]; exact ⟨fun h1 => absurd hj (by omega), fun h1 => absurd h1 (ha j hj)⟩
  · have : ∃ i, i < n ∧ p i ∧ ∀ j < i, ¬ p j := by
      false_or_by_contra
      rename_i h2
      refine ha fun i => Nat.strongRecOn i fun i ih hi hp => h2 ⟨i, hi, hp, fun j hj => ih j hj (by omega)⟩
    obtain ⟨i, hi, hp, hm⟩ := this
    rw [fstI_at hi hp hm]
    exact ⟨fun h1 => h i j h1 hj hp, fun h1 => by
      false_or_by_contra
      exact hm j (by omega) h1⟩
theorem fstI_le {p : Nat → Prop} {n : Nat} : fstI p n ≤ n := by
  induction n with
  | zero => exact Nat.le_refl _
  | succ n ih => unfold fstI; split; omega; split <;> omega
theorem tns_till {l : Tns} (h : TnsOk l) : ∀ i j, i ≤ j → j < l.1 → (l.2 i).till ≤ (l.2 j).till ∧ (l.2 i).fr ≤ (l.2 j).fr := by
  intro i j hij
  induction j with
  | zero => intro hj; obtain rfl : i = 0 := by omega
            omega
  | succ j ih =>
    intro hj
    rcases Nat.lt_or_ge i (j + 1) with h1 | h1
    · have h2 := ih (by omega) (by omega)
      have h3 := h.2 (j + 1) hj
      have h4 := h.2 j (by omega)
      unfold TnOk at h3 h4
      have h5 := h3.2.2.2 (by omega)
      rw [Nat.add_sub_cancel] at h5
      omega
    · obtain rfl : i = j + 1 := by omega
      omega
noncomputable def onA (l : Tns) (a : Sp) : Nat := fstI (fun i => a.lo < (l.2 i).till) l.1
noncomputable def onB (l : Tns) (a : Sp) : Nat := fstI (fun i => onA l a ≤ i ∧ a.hi < (l.2 i).fr) l.1
def onS (l : Nat → Tn) (a : Sp) : Nat → Int
  | 0 => -1
  | n + 1 => if a.lo ≥ (l n).fr ∧ a.hi < (l n).till then (n : Int) else onS l a n
noncomputable def onF (l : Tns) (a : Sp) : (Nat × (Nat → Int)) × Int × Int :=
  if tnsB l = true then (if SpIn a (-100000) 100000 then ((onB l a - onA l a, fun k => ((onA l a + k : Nat) : Int)), onS l.2 a l.1, 0) else ((0, fun _ => 0), 0, 2)) else ((0, fun _ => 0), 0, 34)
theorem on_iff {l : Tns} {a : Sp} (h : TnsOk l) : ∀ j, j < l.1 → ((a.hi ≥ (l.2 j).fr ∧ a.lo < (l.2 j).till) ↔ onA l a ≤ j ∧ j < onB l a) := by
  intro j hj
  have hA := fstI_up (p := fun i => a.lo < (l.2 i).till) (n := l.1) (fun i j h1 h2 h3 => by have := (tns_till h i j h1 h2).1; omega) j hj
  have hB := fstI_up (p := fun i => onA l a ≤ i ∧ a.hi < (l.2 i).fr) (n := l.1) (fun i j h1 h2 h3 => by have := (tns_till h i j h1 h2).2; omega) j hj
  unfold onB
  have hA' : onA l a ≤ j ↔ a.lo < (l.2 j).till := hA
  rw [hA']
  have : j < fstI (fun i => onA l a ≤ i ∧ a.hi < (l.2 i).fr) l.1 ↔ ¬ (onA l a ≤ j ∧ a.hi < (l.2 j).fr) := by rw [← hB]; omega
  rw [this, hA']
  omega
noncomputable def sTurns : Spec := spec1 (TSl RTn) (fun _ => True) fun l => .bool (tnsB l)
set_option maxRecDepth 100000 in
theorem pTurns : PureOk Tryd.prog G 52 sTurns := by
  refine fn1 (S := []) (I := []) mixed .nil .nil Tryd.func52 c52 fun l _ hw => ?_
  simp only [vl, WfT, Val.toInt, Val.slen, Val.scell, Nat.reduceSub, and_true, maxLen, Nat.reducePow, TSl, RTn, Tn.d] at hw
  simp only [RunTo, a52, hw, runO_3, runO_4, runO_5, runO_6, runO_14, runO_15, runO_17, runO_18, runO_19, aop, binV, ends, ev, fget, fput, params, addB, addN, frz, opOwns, preFz, skipOp, WfT, resV, res1, snapV, snapOk, lenV, Fin, vp_bool, Val.toInt, Val.slen, Val.scell, ↓reduceIte, reduceCtorEq, Nat.reduceSub, true_and, and_self, forall_const, decide_eq_true_eq, decide_eq_false_iff_not, Val.bool.injEq, maxLen, Nat.reducePow, TSl, RTn, Tn.d]
  have no : ¬ TnsOk l → false = tnsB l := fun h => (@decide_eq_false _ (Classical.propDecidable _) h).symm
  refine ⟨fun h => no fun k => by have := k.1; omega, fun h1 => ?_⟩
  refine loopI (ι := Nat) (fun j => j ≤ l.1 ∧ ∀ i < j, TnOk l.2 i) (fun j => l.1 - j) [0] (fun j => [(3, .int .i64 j)]) (fun _ => []) 0 ⟨by omega, fun i h => by omega⟩ (by simp only [Chk, chkFr, chkBx, idsLt, kept, vs_int, vs_view, fget, vsubP_self, ↓reduceIte, reduceCtorEq, Int.cast_ofNat_Int, and_self, forall_const, implies_true, keepF, appF, updB]; try rfl) fun j hj => ?_
  obtain ⟨hj1, hj2⟩ := hj
  simp only [hw, ↓imp_tt, ↓imp_tf, ↓imp_ft, ↓imp_ff, runO_3, runO_4, runO_5, runO_6, runO_8, runO_9, runO_14, runO_16, runO_17, runO_18, runO_19, aop, binV, ends, Nat.zero_sub, ev, fget, fput, vget, addB, addN, mkv, frz, opOwns, preFz, skipOp, WfT, resV, res1, casts, castOks, cast1, castOk, snapV, snapOk, pickV, lenV, popTo, stkFr, Val.toInt, ↓reduceIte, reduceCtorEq, Nat.reduceEqDiff, Nat.reduceSub, Nat.reduceLeDiff, Nat.zero_add, Nat.add_zero, Nat.sub_zero, List.length_cons, List.length_nil, Bool.bne_true, Bool.bne_false, bne_self_eq_false, Bool.not_false, and_true, true_and, and_self, and_assoc, forall_const, Nat.le_refl, decide_eq_true_eq, decide_eq_false_iff_not, Val.bool.injEq, maxLen, Nat.reducePow, keepF, appF, updB, inat, Tn.c0, Tn.c1]
  have hno : ∀ p : Prop, (TnOk l.2 j → ¬ p) → j < l.1 → p → false = tnsB l := fun p h2 h3 h4 => no fun k => h2 (k.2 j h3) h4
  refine ⟨fun hlt => ⟨by omega, by omega, hno _ (fun k => by have := k.1; omega) (by omega), fun h3 => ⟨by omega, by omega, by omega, by omega, hno _ (fun k => by have := k.2.1; omega) (by omega), fun h4 => ⟨by omega, by omega, hno _ (fun k => by have := k.2.2.1; omega) (by omega), fun h5 => ⟨fun hz => ?_, fun hz => ?_⟩⟩⟩⟩, fun hge => ?_⟩
  · have e1 : IntKind.i64.wrap ((j : Int) - 1) = ((j - 1 : Nat) : Int) := by rw [wr64 (by omega) (by omega)]; omega
    simp only [e1, Int.toNat_natCast]
    refine ⟨by omega, by omega, by omega, by omega, hno _ (fun k => by have := k.2.2.2 (by omega); omega) (by omega), fun h6 => inv_intro (j + 1) ⟨by omega, fun i hi => ?_⟩ (by omega) ?_⟩
    · rcases Nat.lt_or_ge i j with h7 | h7
      · exact hj2 i h7
      · obtain rfl : i = j := by omega
        exact ⟨by omega, by omega, by omega, fun _ => by omega⟩
    · simp only [Chk, chkFr, chkBx, idsLt, kept, vs_int, vs_view, fget, vsubP_self, ↓reduceIte, reduceCtorEq, and_true, true_and, and_self, forall_const, implies_true, Val.int.injEq]
      rw [wrS (by omega)]
  · refine inv_intro (j + 1) ⟨by omega, fun i hi => ?_⟩ (by omega) ?_
    · rcases Nat.lt_or_ge i j with h7 | h7
      · exact hj2 i h7
      · obtain rfl : i = j := by omega
        exact ⟨by omega, by omega, by omega, fun h => by omega⟩
    · simp only [Chk, chkFr, chkBx, idsLt, kept, vs_int, vs_view, fget, vsubP_self, ↓reduceIte, reduceCtorEq, and_true, true_and, and_self, forall_const, implies_true, Val.int.injEq]
      rw [wrS (by omega)]
  · exact (@decide_eq_true _ (Classical.propDecidable _) ⟨by omega, fun i hi => hj2 i (by omega)⟩).symm
noncomputable def sOn : Spec := spec2 (TSl RTn) TSp (fun _ _ => True) fun l a => .tup (.cons (.view 1 (onF l a).1.1 fun i _ => .int .i64 ((onF l a).1.2 i)) (.cons (.int .i64 (onF l a).2.1) (.cons (.int .i64 (onF l a).2.2) .nil)))
set_option maxRecDepth 100000 in
theorem pOnR : PureOk Tryd.prog G 32 sOn := by
  refine fn2 (S := [(52, sTurns), (82, sOrdered)]) (I := []) mixed (.cons pTurns (.cons pOrdered .nil)) .nil Tryd.func32 c32 fun l a _ hw => ?_
  simp only [vl, WfT, Val.toInt, Val.slen, Val.scell, Nat.reduceSub, and_true, and_self, maxLen, Nat.reducePow, TSl, Sp.L, TSp, RTn, Tn.d] at hw
  simp only [RunTo, a32, sTurns, sOrdered, hw, runO_3, runO_4, runO_5, runO_6, runO_14, runO_15, runO_17, runO_18, runO_19, aop, ends, ev, fget, fput, params, cellsOf, cellsN, isLB, vget, vlen, bget, addB, addN, mkv, sliceV, vtab, frz, opOwns, preFz, callFz, skipOp, WfT, resV, resL, res1, norm, norms, norm1, normL, pureB, pureL, snapV, snapOk, specV, argsL, capsL, mkE_S, lkp, Fin, vp_int, vp_cons, vp_tup, vp_viewn, vsubP_self, Val.toInt, Val.slen, Val.scell, ↓reduceIte, reduceCtorEq, Nat.reduceEqDiff, Nat.reduceAdd, Nat.reduceSub, Nat.zero_add, Int.reduceNeg, List.length_cons, List.length_nil, List.append_nil, Bool.not_eq_true', Bool.not_eq_false', Bool.and_self, and_true, true_and, and_self, forall_const, imp_self, implies_true, Nat.le_refl, Val.int.injEq, maxLen, Nat.reducePow, spec1, spec3, TSl, IsSl, TInt, IsInt, Prod.eta, Sp.L, Sp.Is, Sp.of, TSp, Sp.d, Sp.eta, Tn.c0, Tn.c1, RTn, Tn.w_c, Tn.d, Tn.eta]
  refine ⟨fun h => ?_, fun h => ⟨fun h2 => ?_, fun h2 => ?_⟩⟩
  · unfold onF; rw [if_neg (by simp [h])]; exact ⟨rfl, rfl, rfl⟩
  · unfold onF; rw [if_pos h, if_neg (of_decide_eq_false h2)]; exact ⟨rfl, rfl, rfl⟩
  have h := tnsB_iff.1 h
  have h2 := of_decide_eq_true h2
  have hn := h.1
  have hF : onF l a = ((onB l a - onA l a, fun k => ((onA l a + k : Nat) : Int)), onS l.2 a l.1, 0) := by unfold onF; rw [if_pos (tnsB_iff.2 h), if_pos h2]
  rw [hF]
  have hB : onB l a ≤ l.1 := fstI_le
  refine loopJ (ι := Nat) (fun j => j ≤ l.1) (fun j => l.1 - j) [0, 3] (fun j => [(7, .own 1), (8, .int .i64 (onS l.2 a j)), (9, .int .i64 j)]) (fun j => [(1, .row 3 1 (min j (onB l a) - onA l a) fun k _ => .int .i64 ((onA l a + k : Nat) : Int))]) 1 0 (by omega) (by simp only [Chk, chkFr, chkBx, chkBx1, newIn, hasB, idsLt, kept, vs_int, vs_nil, vs_own, vs_ptr, vs_cons, vs_view, fget, isLB, bget, bset, vsubP_self, ↓reduceIte, reduceCtorEq, Nat.reduceEqDiff, Nat.reduceAdd, Nat.reduceLT, Int.cast_ofNat_Int, Int.reduceNeg, and_true, true_and, and_self, forall_const, implies_true, Option.some.injEq, exists_eq', or_true, keepF, appF, updB, onS]; rw [Nat.zero_min, Nat.zero_sub]) fun j hj => ?_
  have ho := fun (hlt : j < l.1) => on_iff (a := a) h j hlt
  simp only [hw, ↓imp_ft, ↓imp_ff, runO_3, runO_4, runO_5, runO_6, runO_8, runO_9, runO_14, runO_16, runO_17, runO_18, runO_19, aop, binV, ends, reOk, Nat.zero_sub, ev, fget, fput, cellsOf, cellsN, isLB, vget, vset, vsets, vlen, bget, bset, addB, addN, mkv, sliceV, vtab, rowsV, rowsOk, vrep, frz, opOwns, preFz, owns, skipOp, WfT, resV, resL, res1, casts, castOks, cast1, castOk, pureB, onesB, snapV, snapOk, mkE_G, pickV, lenV, subFr, subV, subBx, subStk, elemsV, popTo, stkFr, vp_int, vp_cons, vp_tup, vp_view, vsubP_self, Val.toInt, ↓reduceIte, reduceCtorEq, Nat.reduceEqDiff, Nat.reduceAdd, Nat.reduceSub, Nat.reduceLeDiff, Nat.reduceLT, Nat.zero_add, Nat.add_zero, List.length_cons, List.length_nil, List.append_nil, List.flatMap_cons, List.flatMap_nil, Bool.and_self, Bool.bne_true, bne_self_eq_false, Bool.not_false, and_true, true_and, and_self, and_assoc, forall_const, imp_self, implies_true, Nat.le_refl, decide_eq_true_eq, decide_eq_false_iff_not, Val.int.injEq, or_false, maxLen, Nat.reducePow, keepF, appF, updB, inat, Tn.c0, Tn.c1]
  have hin : j < l.1 → a.hi ≥ (l.2 j).fr → a.lo < (l.2 j).till → min (j + 1) (onB l a) - onA l a = min j (onB l a) - onA l a + 1 ∧ onA l a + (min j (onB l a) - onA l a) = j := fun h1 h2 h3 => by have := (ho h1).1 ⟨h2, h3⟩; omega
  have hout : j < l.1 → ¬ (a.hi ≥ (l.2 j).fr ∧ a.lo < (l.2 j).till) → min (j + 1) (onB l a) - onA l a = min j (onB l a) - onA l a := fun h1 h2 => by rw [ho h1] at h2; omega
  refine ⟨fun hlt => ⟨by omega, by omega, fun h3 => ⟨fun h4 => ⟨by omega, by omega, fun h5 => ⟨fun h6 => inv_intro (j + 1) (by omega) (by omega) ?_, fun h6 => inv_intro (j + 1) (by omega) (by omega) ?_⟩, fun h5 => inv_intro (j + 1) (by omega) (by omega) ?_⟩, fun h4 => ⟨fun h5 => ⟨fun h6 => inv_intro (j + 1) (by omega) (by omega) ?_, fun h6 => inv_intro (j + 1) (by omega) (by omega) ?_⟩, fun h5 => inv_intro (j + 1) (by omega) (by omega) ?_⟩⟩, fun h3 => ⟨fun h5 => ⟨fun h6 => inv_intro (j + 1) (by omega) (by omega) ?_, fun h6 => inv_intro (j + 1) (by omega) (by omega) ?_⟩, fun h5 => inv_intro (j + 1) (by omega) (by omega) ?_⟩⟩, fun hge => ?_⟩
  · simp only [Chk, chkFr, chkBx, chkBx1, newIn, hasB, idsLt, kept, vs_int, vs_nil, vs_own, vs_ptr, vs_cons, vs_view, Nat.lt_irrefl, fget, isLB, bget, vp_int, vsubP_self, ↓reduceIte, reduceCtorEq, Nat.reduceEqDiff, Nat.reduceLT, and_true, true_and, and_self, and_assoc, forall_const, implies_true, Option.some.injEq, Val.int.injEq, exists_eq', false_implies, or_false]
    rw [wrS (by omega)]
    have hi := hin (by omega) h3 h4
    refine ⟨by simp only [onS]; rw [if_pos ⟨h5, h6⟩], rfl, hi.1.symm, fun i hi2 k hk => ?_⟩
    split
    · rfl
    · obtain rfl : k = 0 := by omega
      rw [show i - (min j (onB l a) - onA l a) = 0 from by omega, show onA l a + i = j from by omega]; rfl
  · simp only [Chk, chkFr, chkBx, chkBx1, newIn, hasB, idsLt, kept, vs_int, vs_nil, vs_own, vs_ptr, vs_cons, vs_view, Nat.lt_irrefl, fget, isLB, bget, vp_int, vsubP_self, ↓reduceIte, reduceCtorEq, Nat.reduceEqDiff, Nat.reduceLT, and_true, true_and, and_self, and_assoc, forall_const, implies_true, Option.some.injEq, Val.int.injEq, exists_eq', false_implies, or_false]
    rw [wrS (by omega)]
    have hi := hin (by omega) h3 h4
    refine ⟨by simp only [onS]; rw [if_neg (by omega)], rfl, hi.1.symm, fun i hi2 k hk => ?_⟩
    split
    · rfl
    · obtain rfl : k = 0 := by omega
      rw [show i - (min j (onB l a) - onA l a) = 0 from by omega, show onA l a + i = j from by omega]; rfl
  · simp only [Chk, chkFr, chkBx, chkBx1, newIn, hasB, idsLt, kept, vs_int, vs_nil, vs_own, vs_ptr, vs_cons, vs_view, Nat.lt_irrefl, fget, isLB, bget, vp_int, vsubP_self, ↓reduceIte, reduceCtorEq, Nat.reduceEqDiff, Nat.reduceLT, and_true, true_and, and_self, and_assoc, forall_const, implies_true, Option.some.injEq, Val.int.injEq, exists_eq', false_implies, or_false]
    rw [wrS (by omega)]
    have hi := hin (by omega) h3 h4
    refine ⟨by simp only [onS]; rw [if_neg (by omega)], rfl, hi.1.symm, fun i hi2 k hk => ?_⟩
    split
    · rfl
    · obtain rfl : k = 0 := by omega
      rw [show i - (min j (onB l a) - onA l a) = 0 from by omega, show onA l a + i = j from by omega]; rfl
  · simp only [Chk, chkFr, chkBx, chkBx1, newIn, hasB, idsLt, kept, vs_int, vs_nil, vs_own, vs_ptr, vs_cons, vs_view, Nat.lt_irrefl, fget, isLB, bget, vsubP_self, ↓reduceIte, reduceCtorEq, Nat.reduceEqDiff, Nat.reduceLT, and_true, true_and, and_self, and_assoc, forall_const, implies_true, Option.some.injEq, Val.int.injEq, exists_eq', false_implies, or_false]
    rw [wrS (by omega)]
    have hi := hout (by omega) (by omega)
    refine ⟨by simp only [onS]; rw [if_pos ⟨h5, h6⟩], rfl, hi.symm⟩
  · simp only [Chk, chkFr, chkBx, chkBx1, newIn, hasB, idsLt, kept, vs_int, vs_nil, vs_own, vs_ptr, vs_cons, vs_view, Nat.lt_irrefl, fget, isLB, bget, vsubP_self, ↓reduceIte, reduceCtorEq, Nat.reduceEqDiff, Nat.reduceLT, and_true, true_and, and_self, and_assoc, forall_const, implies_true, Option.some.injEq, Val.int.injEq, exists_eq', false_implies, or_false]
    rw [wrS (by omega)]
    have hi := hout (by omega) (by omega)
    refine ⟨by simp only [onS]; rw [if_neg (by omega)], rfl, hi.symm⟩
  · simp only [Chk, chkFr, chkBx, chkBx1, newIn, hasB, idsLt, kept, vs_int, vs_nil, vs_own, vs_ptr, vs_cons, vs_view, Nat.lt_irrefl, fget, isLB, bget, vsubP_self, ↓reduceIte, reduceCtorEq, Nat.reduceEqDiff, Nat.reduceLT, and_true, true_and, and_self, and_assoc, forall_const, implies_true, Option.some.injEq, Val.int.injEq, exists_eq', false_implies, or_false]
    rw [wrS (by omega)]
    have hi := hout (by omega) (by omega)
    refine ⟨by simp only [onS]; rw [if_neg (by omega)], rfl, hi.symm⟩
  · simp only [Chk, chkFr, chkBx, chkBx1, newIn, hasB, idsLt, kept, vs_int, vs_nil, vs_own, vs_ptr, vs_cons, vs_view, Nat.lt_irrefl, fget, isLB, bget, vsubP_self, ↓reduceIte, reduceCtorEq, Nat.reduceEqDiff, Nat.reduceLT, and_true, true_and, and_self, and_assoc, forall_const, implies_true, Option.some.injEq, Val.int.injEq, exists_eq', false_implies, or_false]
    rw [wrS (by omega)]
    have hi := hout (by omega) (by omega)
    refine ⟨by simp only [onS]; rw [if_pos ⟨h5, h6⟩], rfl, hi.symm⟩
  · simp only [Chk, chkFr, chkBx, chkBx1, newIn, hasB, idsLt, kept, vs_int, vs_nil, vs_own, vs_ptr, vs_cons, vs_view, Nat.lt_irrefl, fget, isLB, bget, vsubP_self, ↓reduceIte, reduceCtorEq, Nat.reduceEqDiff, Nat.reduceLT, and_true, true_and, and_self, and_assoc, forall_const, implies_true, Option.some.injEq, Val.int.injEq, exists_eq', false_implies, or_false]
    rw [wrS (by omega)]
    have hi := hout (by omega) (by omega)
    refine ⟨by simp only [onS]; rw [if_neg (by omega)], rfl, hi.symm⟩
  · simp only [Chk, chkFr, chkBx, chkBx1, newIn, hasB, idsLt, kept, vs_int, vs_nil, vs_own, vs_ptr, vs_cons, vs_view, Nat.lt_irrefl, fget, isLB, bget, vsubP_self, ↓reduceIte, reduceCtorEq, Nat.reduceEqDiff, Nat.reduceLT, and_true, true_and, and_self, and_assoc, forall_const, implies_true, Option.some.injEq, Val.int.injEq, exists_eq', false_implies, or_false]
    rw [wrS (by omega)]
    have hi := hout (by omega) (by omega)
    refine ⟨by simp only [onS]; rw [if_neg (by omega)], rfl, hi.symm⟩
  · obtain rfl : j = l.1 := by omega
    have e : min l.1 (onB l a) = onB l a := by omega
    rw [e]
    exact ⟨rfl, rfl⟩
noncomputable def sSameI : Spec := spec2 (TSl (RInt .i64)) (TSl (RInt .i64)) (fun _ _ => True) fun a b => .bool (sameB a b)
set_option maxRecDepth 100000 in
theorem pSameI : PureOk Tryd.prog G 34 sSameI := by
  refine fn2 (S := []) (I := []) mixed .nil .nil Tryd.func34 c34 fun a b _ hw => ?_
  simp only [vl, WfT, Val.toInt, Val.slen, Val.scell, Nat.reduceSub, and_true, maxLen, Nat.reducePow, TSl, RInt] at hw
  obtain ⟨w1, w2⟩ := hw
  simp only [RunTo, a34, w1, w2, runO_3, runO_4, runO_5, runO_6, runO_14, runO_15, runO_17, runO_18, runO_19, aop, binV, ends, ev, fget, fput, params, addB, addN, frz, opOwns, preFz, skipOp, WfT, resV, res1, snapV, snapOk, lenV, Fin, vp_bool, Val.toInt, Val.slen, Val.scell, ↓reduceIte, reduceCtorEq, Nat.reduceEqDiff, Nat.reduceSub, Nat.zero_add, bne_iff_ne, bne_eq_false_iff_eq, true_and, and_self, forall_const, Val.bool.injEq, ne_eq, maxLen, Nat.reducePow, TSl, RInt]
  have no : ¬ (a.1 = b.1 ∧ ∀ i, i < a.1 → a.2 i = b.2 i) → false = sameB a b := fun h => (@decide_eq_false _ (Classical.propDecidable _) h).symm
  refine ⟨fun h => no fun k => h (by omega), fun h => ?_⟩
  refine loopI (ι := Nat) (fun j => j ≤ a.1 ∧ ∀ i < j, a.2 i = b.2 i) (fun j => a.1 - j) [0, 1] (fun j => [(5, .int .i64 j)]) (fun _ => []) 0 ⟨by omega, fun i h => by omega⟩ (by simp only [Chk, chkFr, chkBx, idsLt, kept, vs_int, vs_view, fget, vsubP_self, ↓reduceIte, reduceCtorEq, Nat.reduceEqDiff, Int.cast_ofNat_Int, and_self, forall_const, implies_true, keepF, appF, updB]; try rfl) fun j hj => ?_
  obtain ⟨hj1, hj2⟩ := hj
  simp only [w1, runO_3, runO_4, runO_5, runO_6, runO_8, runO_9, runO_14, runO_16, runO_17, runO_18, runO_19, aop, binV, ends, ev, fget, fput, vget, addB, addN, mkv, frz, opOwns, preFz, skipOp, WfT, resV, res1, casts, castOks, cast1, castOk, snapV, snapOk, lenV, popTo, stkFr, Val.toInt, ↓reduceIte, reduceCtorEq, Nat.reduceEqDiff, Nat.reduceSub, Nat.zero_add, bne_iff_ne, bne_eq_false_iff_eq, List.length_cons, List.length_nil, true_and, and_self, and_assoc, forall_const, Nat.le_refl, decide_eq_true_eq, decide_eq_false_iff_not, Val.bool.injEq, ne_eq, maxLen, Nat.reducePow, keepF, appF, updB, inat]
  refine ⟨fun hlt => ⟨by omega, by omega, by omega, by omega, fun h1 => no fun k => h1 (k.2 j (by omega)), fun h1 => inv_intro (j + 1) ⟨by omega, fun i hi => ?_⟩ (by omega) ?_⟩, fun hge => ?_⟩
  · rcases Nat.lt_or_ge i j with h5 | h5
    · exact hj2 i h5
    · obtain rfl : i = j := by omega
      exact h1
  · simp only [Chk, chkFr, chkBx, idsLt, kept, vs_int, vs_view, fget, vsubP_self, ↓reduceIte, reduceCtorEq, Nat.reduceEqDiff, and_true, true_and, and_self, forall_const, implies_true, Val.int.injEq]
    rw [wrS (by omega)]
  · exact (@decide_eq_true _ (Classical.propDecidable _) ⟨by omega, fun i hi => hj2 i (by omega)⟩).symm
end Go.Proofs.YtbhhcnonooiokaaDoor
