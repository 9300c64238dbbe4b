/- Turns that may be on: the program. No condition. -/
import Derived.Test.YtbhhcnonooiokaaDoorORef1
set_option linter.unusedSimpArgs false
set_option linter.unusedVariables false
namespace Go.Proofs.YtbhhcnonooiokaaDoor
open Go Go.RowKit
variable {G : Nat → Option (Nat × (Nat → Val))}
def lastF (l : Nat → Tn) : Nat → Int
  | 0 => 0
  | n + 1 => (l n).till
theorem onS_stay {l : Nat → Tn} {a : Sp} {m : Nat} : ∀ n, m ≤ n → (∀ i, m ≤ i → i < n → ¬ (a.lo ≥ (l i).fr ∧ a.hi < (l i).till)) → onS l a n = onS l a m := by
  intro n; induction n with
  | zero => intro h _; obtain rfl : m = 0 := by omega
            rfl
  | succ n ih =>
    intro h h2
    rcases Nat.lt_or_ge m (n + 1) with h3 | h3
    · show (if _ then _ else _) = _
      rw [if_neg (h2 n (by omega) (by omega))]
      exact ih (by omega) fun i h4 h5 => h2 i h4 (by omega)
    · obtain rfl : m = n + 1 := by omega
      rfl
theorem onS_s {l : Nat → Tn} {a : Sp} (n : Nat) : onS l a (n + 1) = if a.lo ≥ (l n).fr ∧ a.hi < (l n).till then (n : Int) else onS l a n := rfl
theorem ge0 (j : Nat) : ((j : Int) ≥ 0) = True := eq_true (by omega)
theorem last_ok {l : Nat → Tn} {j : Nat} (h : ∀ i < j, TnOk l i) : TnOk l j ↔ (lastF l j ≤ (l j).fr ∧ (l j).fr ≤ 23040) ∧ ((l j).fr + 1 ≤ (l j).till ∧ (l j).till ≤ 23040) := by
  cases j with
  | zero => unfold TnOk; show _ ↔ (0 ≤ _ ∧ _) ∧ _; omega
  | succ j =>
    have h1 := h j (by omega)
    unfold TnOk
    show _ ↔ ((l j).till ≤ _ ∧ _) ∧ _
    unfold TnOk at h1
    rw [Nat.add_sub_cancel]
    omega
set_option maxRecDepth 100000 in
theorem pOnP : PureOk Tryd.prog G 31 sOn := by
  refine fn2 (S := [(78, sIn), (62, sMinute)]) (I := [(79, a79), (80, a80), (99, a99), (100, a100), (77, a77), (81, a81)]) mixed (.cons pIn (.cons pMinute .nil)) (.cons Tryd.func79 c79 (.cons Tryd.func80 c80 (.cons Tryd.func99 c99 (.cons Tryd.func100 c100 (.cons Tryd.func77 c77 (.cons Tryd.func81 c81 .nil)))))) Tryd.func31 c31 fun l a _ hw => ?_
  simp only [vl, WfT, Val.toInt, Val.slen, Val.scell, Nat.reduceSub, and_true, and_self, maxLen, Nat.reducePow, TSl, Sp.L, TSp, RTn, Tn.d] at hw
  simp only [RunTo, a31, a79, a99, a80, sIn, sMinute, hw, ↓imp_tt, ↓imp_tf, runO_3, runO_5, runO_6, runO_14, runO_15, runO_17, runO_18, runO_19, aop, binV, ends, reOk, Nat.zero_sub, ev, evs, fget, fput, params, cellsOf, cellsN, isLB, vset, vsets, vlen, bget, bset, addB, addN, frz, opOwns, preFz, skipOp, WfT, resV, resL, res1, onesB, snapV, snapOk, argsL, capsL, mkE_S, mkE_I, lkp, pickV, lenV, Fin, vp_int, vp_cons, vp_tup, vp_viewn, vsubP_self, Val.toInt, Val.slen, Val.scell, ↓reduceIte, reduceCtorEq, Nat.reduceEqDiff, Nat.reduceAdd, Nat.reduceSub, Nat.zero_add, Int.reduceNeg, List.append_nil, Bool.and_self, Bool.bne_false, bne_self_eq_false, and_true, true_and, and_self, forall_const, imp_self, implies_true, Nat.le_refl, decide_eq_true_eq, decide_eq_false_iff_not, Val.int.injEq, maxLen, Nat.reducePow, spec1, spec3, TSl, IsSl, TInt, IsInt, RInt, Sp.L, Sp.Is, Sp.of, TSp, Sp.d, RTn, Tn.d]
  refine ⟨fun h => ?_, fun hn => ?_⟩
  · have : tnsB l = false := (@decide_eq_false _ (Classical.propDecidable _) fun k => by have := k.1; omega)
    unfold onF; rw [if_neg (by simp [this])]; exact ⟨rfl, rfl, rfl⟩
  refine loopI (ι := Nat) (fun j => j ≤ l.1 ∧ ∀ i < j, TnOk l.2 i) (fun j => l.1 - j) [0, 1, 6, 7] (fun j => [(8, .int .i64 j)]) (fun j => [(1, .cells (.cons (.int .i64 (lastF l.2 j)) .nil))]) 0 ⟨by omega, fun i h => by omega⟩ (by simp only [Chk, chkFr, chkBx, chkBx1, hasB, idsLt, kept, vs_int, vs_nil, vs_ptr, vs_cons, vs_func, vs_view, fget, isLB, bget, bset, vsubP_self, ↓reduceIte, reduceCtorEq, Nat.reduceEqDiff, Nat.reduceLT, Int.cast_ofNat_Int, and_self, forall_const, implies_true, Option.some.injEq, exists_eq', keepF, appF, updB, lastF]) fun j hj => ?_
  obtain ⟨hj1, hj2⟩ := hj
  simp only [hw, a100, a77, ge0, lt1, flatO, ↓imp_tt, ↓imp_tf, runO_3, runO_4, runO_5, runO_6, runO_8, runO_9, runO_14, runO_15, runO_16, runO_17, runO_18, runO_19, aop, binV, ends, reOk, Nat.zero_sub, ev, evs, fget, fput, params, cellsOf, cellsN, isLB, vget, vset, vsets, vlen, bget, bset, addB, addN, mkv, sliceV, vtab, rowsV, rowsOk, vrep, frz, opOwns, preFz, callFz, owns, skipOp, WfT, resV, resL, res1, casts, castOks, cast1, castOk, norm, norms, norm1, normL, pureB, pureL, flatB, onesB, snapV, snapOk, snapL, snapOks, specV, argsL, capsL, mkE_S, mkE_I, mkE_G, lkp, pickV, lenV, popTo, stkFr, vp_int, vp_cons, vp_tup, vp_viewn, vsubP_self, Val.toInt, ↓reduceIte, reduceCtorEq, Nat.reduceEqDiff, Nat.reduceAdd, Nat.reduceSub, Nat.reduceLeDiff, Nat.reduceLT, Nat.zero_add, Nat.add_zero, Int.reduceNeg, decide_true, List.length_cons, List.length_nil, List.nil_append, List.cons_append, List.append_nil, List.flatMap_cons, List.flatMap_nil, Bool.not_eq_true', Bool.not_eq_false', Bool.and_true, Bool.and_false, Bool.and_self, Bool.bne_true, bne_self_eq_false, Bool.not_true, Bool.not_false, and_true, true_and, and_self, forall_const, imp_self, implies_true, Nat.le_refl, decide_eq_true_eq, decide_eq_false_iff_not, Val.int.injEq, maxLen, Nat.reducePow, keepF, appF, updB, inat, Sp.eta, Tn.c0, Tn.c1]
  have hbad : ¬ TnsOk l → (onF l a).1.1 = 0 ∧ 0 = (onF l a).2.1 ∧ 34 = (onF l a).2.2 := fun h => by
    have : tnsB l = false := @decide_eq_false _ (Classical.propDecidable _) h
    unfold onF; rw [if_neg (by simp [this])]; exact ⟨rfl, rfl, rfl⟩
  have hw1 : (l.2 j).fr ≤ 23040 → lastF l.2 j ≤ (l.2 j).fr → IntKind.i64.wrap ((l.2 j).fr + 1) = (l.2 j).fr + 1 := fun h1 h2 => by
    have : 0 ≤ lastF l.2 j := by
      cases j with
      | zero => exact Int.le_refl 0
      | succ j => have := hj2 j (by omega); unfold TnOk at this; show 0 ≤ (l.2 j).till; omega
    exact wr64 (by omega) (by omega)
  have hT := last_ok hj2
  refine ⟨fun hlt => ⟨by omega, fun h1 => ?_, fun h1 => hbad fun k => ?_⟩, fun hge => ⟨fun h => absurd h (by omega), fun _ => ⟨fun h => ?_, fun h => ?_⟩⟩⟩
  · have h1 : lastF l.2 j ≤ (l.2 j).fr ∧ (l.2 j).fr ≤ 23040 := allB_iff.1 h1 0 (by omega)
    refine ⟨fun h2 => hbad fun k => ?_, fun h2 => inv_intro (j + 1) ⟨by omega, fun i hi => ?_⟩ (by omega) ?_⟩
    · have h3 := (hT.1 (k.2 j (by omega))).2
      refine Bool.noConfusion (h2.symm.trans (allB_iff.2 fun i hi => ?_))
      obtain rfl : i = 0 := by omega
      show IntKind.i64.wrap ((l.2 j).fr + 1) ≤ (l.2 j).till ∧ (l.2 j).till ≤ 23040
      rw [hw1 h1.2 h1.1]; exact h3
    · have h2 : IntKind.i64.wrap ((l.2 j).fr + 1) ≤ (l.2 j).till ∧ (l.2 j).till ≤ 23040 := allB_iff.1 h2 0 (by omega)
      rw [hw1 h1.2 h1.1] at h2
      rcases Nat.lt_or_ge i j with h5 | h5
      · exact hj2 i h5
      · obtain rfl : i = j := by omega
        exact hT.2 ⟨h1, h2⟩
    · simp only [Chk, chkFr, chkBx, chkBx1, hasB, idsLt, kept, vs_int, vs_nil, vs_ptr, vs_cons, vs_func, vs_view, Nat.lt_irrefl, fget, isLB, bget, vsubP_self, ↓reduceIte, reduceCtorEq, Nat.reduceEqDiff, Nat.reduceLT, and_true, true_and, and_self, forall_const, implies_true, Option.some.injEq, Val.int.injEq, exists_eq', false_implies, lastF]
      rw [wrS (by omega)]
  · refine Bool.noConfusion (h1.symm.trans (allB_iff.2 fun i hi => ?_))
    obtain rfl : i = 0 := by omega
    exact (hT.1 (k.2 j (by omega))).1
  · obtain rfl : j = l.1 := by omega
    have ht : tnsB l = true := tnsB_iff.2 ⟨by omega, hj2⟩
    unfold onF; rw [if_pos ht, if_neg (of_decide_eq_false h)]; exact ⟨rfl, rfl, rfl⟩
  obtain rfl : j = l.1 := by omega
  have ht : TnsOk l := ⟨by omega, hj2⟩
  have h2 := of_decide_eq_true h
  have hF : onF l a = ((onB l a - onA l a, fun k => ((onA l a + k : Nat) : Int)), onS l.2 a l.1, 0) := by unfold onF; rw [if_pos (tnsB_iff.2 ht), if_pos h2]
  rw [hF]
  refine loopI (ι := Nat) (fun j => j ≤ l.1 ∧ ∀ i < j, ¬ a.lo < (l.2 i).till) (fun j => l.1 - j) [0, 1, 6, 7] (fun j => [(8, .int .i64 j)]) (fun _ => []) 0 ⟨by omega, fun i h => by omega⟩ (by simp only [Chk, chkFr, chkBx, chkBx1, hasB, idsLt, kept, vs_int, vs_nil, vs_ptr, vs_cons, vs_func, vs_view, fget, isLB, bget, vsubP_self, ↓reduceIte, reduceCtorEq, Nat.reduceEqDiff, Nat.reduceLT, Int.cast_ofNat_Int, and_self, forall_const, implies_true, Option.some.injEq, exists_eq', keepF, appF, updB]; try rfl) fun j hj => ?_
  simp only [hw, a81, ge0, runO_3, runO_4, runO_5, runO_6, runO_8, runO_9, runO_14, runO_15, runO_16, runO_17, runO_18, runO_19, aop, binV, ends, ev, fget, fput, params, cellsOf, cellsN, isLB, vget, vlen, bget, addB, addN, mkv, sliceV, vtab, frz, opOwns, preFz, skipOp, WfT, resV, res1, casts, castOks, cast1, castOk, argsL, capsL, mkE_S, mkE_I, lkp, optInt, lenV, popTo, stkFr, Val.toInt, ↓reduceIte, reduceCtorEq, Nat.reduceEqDiff, Nat.reduceAdd, Nat.reduceSub, Nat.reduceLeDiff, Nat.zero_add, Nat.add_zero, Int.reduceNeg, List.length_cons, List.length_nil, List.nil_append, List.cons_append, true_and, and_self, and_assoc, forall_const, imp_self, implies_true, Nat.le_refl, decide_eq_true_eq, decide_eq_false_iff_not, maxLen, Nat.reducePow, keepF, appF, updB, inat, Tn.c0, Tn.c1]
  obtain ⟨hj1, hj3⟩ := hj
  have hsp := spin_of h2
  refine ⟨fun hlt => ⟨by omega, fun h3 => ?_, fun h3 => inv_intro (j + 1) ⟨by omega, fun i hi => ?_⟩ (by omega) ?_⟩, fun hge => ?_⟩
  · have hA : onA l a = j := fstI_at (by omega) h3 hj3
    have em : max (j : Int) 0 = (j : Int) := by omega
    rw [em, show ((l.1 : Int) - (j : Int)).toNat = l.1 - j from by omega]
    refine ⟨by omega, by omega, by omega, fun _ => ?_⟩
    have hB : onB l a ≤ l.1 := fstI_le
    have hAB : onA l a ≤ onB l a := by
      false_or_by_contra
      rename_i h5
      have := on_iff (a := a) ht (onB l a) (by omega)
      have h6 := fstI_up (p := fun i => onA l a ≤ i ∧ a.hi < (l.2 i).fr) (n := l.1) (fun i j h1 h2 h3 => by have := (tns_till ht i j h1 h2).2; omega) (onB l a) (by omega)
      have h7 := (h6.1 (Nat.le_refl _)).1
      omega
    refine loopJ (ι := Nat) (fun t => t ≤ onB l a - j) (fun t => l.1 - t) [0, 3, 9, 31, 32] (fun t => [(4, .own 4), (5, .int .i64 (onS l.2 a (j + t))), (33, .int .i64 t)]) (fun t => [(4, .row 3 1 t fun k _ => .int .i64 ((j + k : Nat) : Int))]) 1 0 (by omega) (by
      simp only [Chk, chkFr, chkBx, chkBx1, newIn, hasB, idsLt, kept, vs_int, vs_nil, vs_own, vs_ptr, vs_cons, vs_func, vs_view, fget, isLB, bget, bset, vsubP_self, ↓reduceIte, reduceCtorEq, Nat.reduceEqDiff, Nat.reduceAdd, Nat.reduceLT, Nat.add_zero, Int.cast_ofNat_Int, Int.reduceNeg, and_true, true_and, and_self, forall_const, implies_true, Option.some.injEq, Val.int.injEq, exists_eq', or_true, keepF, appF, updB, inat]
      rw [onS_stay (l := l.2) (a := a) (m := 0) j (by omega) fun i _ h5 h6 => hj3 i h5 (by omega)]; rfl) fun t hj4 => ?_
    simp only [lt1, ↓imp_tt, ↓imp_tf, ↓imp_ft, ↓imp_ff, runO_3, runO_4, runO_5, runO_6, runO_8, runO_9, runO_14, runO_16, runO_17, runO_18, runO_19, aop, binV, ends, reOk, Nat.zero_sub, ev, fget, fput, cellsOf, cellsN, isLB, vget, vset, vsets, vlen, bget, bset, addB, addN, mkv, sliceV, vtab, rowsV, rowsOk, vrep, frz, opOwns, preFz, owns, skipOp, WfT, resV, resL, res1, casts, castOks, cast1, castOk, pureB, onesB, snapV, snapOk, mkE_G, pickV, subFr, subV, subBx, subStk, elemsV, popTo, stkFr, vp_int, vp_cons, vp_tup, vp_view, vsubP_self, Val.toInt, ↓reduceIte, reduceCtorEq, Nat.reduceEqDiff, Nat.reduceAdd, Nat.reduceSub, Nat.reduceLeDiff, Nat.reduceLT, Nat.zero_add, Nat.add_zero, Int.reduceNeg, List.length_cons, List.length_nil, List.append_nil, List.flatMap_cons, List.flatMap_nil, Bool.and_self, Bool.bne_true, Bool.bne_false, bne_self_eq_false, Bool.not_false, and_true, true_and, and_self, and_assoc, forall_const, imp_self, implies_true, Nat.le_refl, decide_eq_true_eq, decide_eq_false_iff_not, Val.int.injEq, or_false, maxLen, Nat.reducePow, keepF, appF, updB, inat, Tn.c0, Tn.c1]
    have ho := fun (h : j + t < l.1) => on_iff (a := a) ht (j + t) h
    rw [hA] at ho hAB ⊢
    have hfin : ¬ (j + t < onB l a) → onS l.2 a (j + t) = onS l.2 a l.1 := fun h5 => (onS_stay l.1 (by omega) fun i h6 h7 h8 => by
      have := (on_iff (a := a) ht i h7).1 ⟨by omega, by omega⟩; omega).symm
    refine ⟨fun hlt => ⟨by omega, by omega, fun h4 => ?_, fun h4 => ⟨fun h5 => ?_, fun h5 => ⟨by omega, by omega, fun h6 => ⟨fun h7 => inv_intro (t + 1) ?_ (by omega) ?_, fun h7 => inv_intro (t + 1) ?_ (by omega) ?_⟩, fun h6 => inv_intro (t + 1) ?_ (by omega) ?_⟩⟩⟩, fun hge => ?_⟩
    · have h5 : ¬ (j + t < onB l a) := fun h5 => by have := (ho (by omega)).2 ⟨by omega, h5⟩; omega
      exact ⟨by omega, fun _ _ => rfl, hfin h5⟩
    · have h6 : ¬ (j + t < onB l a) := fun h6 => by have := (ho (by omega)).2 ⟨by omega, h6⟩; omega
      exact ⟨by omega, fun _ _ => rfl, hfin h6⟩
    · have := (ho (by omega)).1 ⟨by omega, by omega⟩; omega
    · simp only [Chk, chkFr, chkBx, chkBx1, newIn, hasB, idsLt, kept, vs_int, vs_nil, vs_own, vs_ptr, vs_cons, vs_func, vs_view, Nat.lt_irrefl, fget, isLB, bget, vp_int, vsubP_self, ↓reduceIte, reduceCtorEq, Nat.reduceEqDiff, Nat.reduceLT, and_true, true_and, and_self, and_assoc, forall_const, implies_true, Option.some.injEq, Val.int.injEq, exists_eq', false_implies, or_false]
      have e9 : IntKind.i64.wrap ((j : Int) + (t : Int)) = ((j + t : Nat) : Int) := by rw [wr64 (by omega) (by omega)]; omega
      rw [e9, wrS (by omega)]
      refine ⟨by rw [show j + (t + 1) = j + t + 1 from rfl, onS_s, if_pos ⟨by omega, by omega⟩], rfl, fun i hi k hk => ?_⟩
      split
      · rfl
      · obtain rfl : k = 0 := by omega
        rw [show i - t = 0 from by omega, show j + i = j + t from by omega]; rfl
    · have := (ho (by omega)).1 ⟨by omega, by omega⟩; omega
    · simp only [Chk, chkFr, chkBx, chkBx1, newIn, hasB, idsLt, kept, vs_int, vs_nil, vs_own, vs_ptr, vs_cons, vs_func, vs_view, Nat.lt_irrefl, fget, isLB, bget, vp_int, vsubP_self, ↓reduceIte, reduceCtorEq, Nat.reduceEqDiff, Nat.reduceLT, and_true, true_and, and_self, and_assoc, forall_const, implies_true, Option.some.injEq, Val.int.injEq, exists_eq', false_implies, or_false]
      have e9 : IntKind.i64.wrap ((j : Int) + (t : Int)) = ((j + t : Nat) : Int) := by rw [wr64 (by omega) (by omega)]; omega
      rw [e9, wrS (by omega)]
      refine ⟨by rw [show j + (t + 1) = j + t + 1 from rfl, onS_s, if_neg (by omega)], rfl, fun i hi k hk => ?_⟩
      split
      · rfl
      · obtain rfl : k = 0 := by omega
        rw [show i - t = 0 from by omega, show j + i = j + t from by omega]; rfl
    · have := (ho (by omega)).1 ⟨by omega, by omega⟩; omega
    · simp only [Chk, chkFr, chkBx, chkBx1, newIn, hasB, idsLt, kept, vs_int, vs_nil, vs_own, vs_ptr, vs_cons, vs_func, vs_view, Nat.lt_irrefl, fget, isLB, bget, vp_int, vsubP_self, ↓reduceIte, reduceCtorEq, Nat.reduceEqDiff, Nat.reduceLT, and_true, true_and, and_self, and_assoc, forall_const, implies_true, Option.some.injEq, Val.int.injEq, exists_eq', false_implies, or_false]
      have e9 : IntKind.i64.wrap ((j : Int) + (t : Int)) = ((j + t : Nat) : Int) := by rw [wr64 (by omega) (by omega)]; omega
      rw [e9, wrS (by omega)]
      refine ⟨by rw [show j + (t + 1) = j + t + 1 from rfl, onS_s, if_neg (by omega)], rfl, fun i hi k hk => ?_⟩
      split
      · rfl
      · obtain rfl : k = 0 := by omega
        rw [show i - t = 0 from by omega, show j + i = j + t from by omega]; rfl
    · have h6 : ¬ (j + t < onB l a) := by omega
      exact ⟨by omega, fun _ _ => rfl, hfin h6⟩
  · rcases Nat.lt_or_ge i j with h5 | h5
    · exact hj3 i h5
    · obtain rfl : i = j := by omega
      omega
  · simp only [Chk, chkFr, chkBx, chkBx1, hasB, idsLt, kept, vs_int, vs_nil, vs_ptr, vs_cons, vs_func, vs_view, Nat.lt_irrefl, fget, isLB, bget, vsubP_self, ↓reduceIte, reduceCtorEq, Nat.reduceEqDiff, Nat.reduceLT, and_true, true_and, and_self, forall_const, implies_true, Option.some.injEq, Val.int.injEq, exists_eq', false_implies]
    rw [wrS (by omega)]
  · obtain rfl : j = l.1 := by omega
    have hA : onA l a = l.1 := fstI_no hj3
    have em : max (-1 : Int) 0 = 0 := by omega
    rw [em, show ((l.1 : Int) - 0).toNat = l.1 from by omega, show (0 : Int).toNat = 0 from rfl]
    refine ⟨by omega, by omega, by omega, fun _ => ?_⟩
    have hB : onB l a ≤ l.1 := fstI_le
    have hS : onS l.2 a l.1 = -1 := onS_stay (m := 0) l.1 (by omega) fun i _ h5 h6 => hj3 i h5 (by omega)
    refine loopI (ι := Nat) (fun t => t = 0) (fun t => 1 - t) [0, 3, 4, 5, 9, 31, 32] (fun t => [(33, .int .i64 t)]) (fun _ => []) 0 rfl (by simp only [Chk, chkFr, chkBx, chkBx1, hasB, idsLt, kept, vs_int, vs_nil, vs_nils, vs_ptr, vs_cons, vs_func, vs_view, fget, isLB, bget, vsubP_self, ↓reduceIte, reduceCtorEq, Nat.reduceEqDiff, Nat.reduceLT, Nat.zero_add, Int.cast_ofNat_Int, Int.reduceNeg, and_self, forall_const, implies_true, Option.some.injEq, exists_eq', keepF, appF, updB]; try rfl) fun t ht0 => ?_
    subst ht0
    simp only [↓imp_tt, ↓imp_tf, ↓imp_ft, ↓imp_ff, runO_3, runO_4, runO_5, runO_6, runO_8, runO_9, runO_14, runO_16, runO_17, runO_18, runO_19, aop, binV, ends, reOk, Nat.zero_sub, ev, fget, fput, cellsOf, cellsN, isLB, vget, vset, vsets, vlen, bget, bset, addB, addN, mkv, sliceV, vtab, rowsV, rowsOk, vrep, frz, opOwns, preFz, owns, skipOp, WfT, resV, resL, res1, casts, castOks, cast1, castOk, pureB, onesB, snapV, snapOk, mkE_G, pickV, elemsV, popTo, stkFr, vp_int, vp_cons, vp_tup, vp_viewn, vsubP_self, Val.toInt, ↓reduceIte, reduceCtorEq, Nat.reduceEqDiff, Nat.reduceAdd, Nat.reduceSub, Nat.reduceLeDiff, Nat.reduceMul, Nat.reduceLT, Nat.zero_add, Nat.add_zero, Nat.sub_zero, Int.reduceToNat, Int.cast_ofNat_Int, Int.reduceLE, Int.reduceNeg, Int.reduceAdd, List.length_cons, List.length_nil, List.append_nil, List.flatMap_cons, List.flatMap_nil, Bool.and_self, Bool.bne_true, Bool.bne_false, bne_self_eq_false, Bool.not_false, and_true, true_and, and_self, forall_const, imp_self, implies_true, Nat.le_refl, decide_eq_true_eq, decide_eq_false_iff_not, Val.int.injEq, or_false, maxLen, Nat.reducePow, keepF, appF, updB, Tn.c0, Tn.c1]
    have hz : onB l a - onA l a = 0 ∧ -1 = onS l.2 a l.1 := ⟨by omega, hS.symm⟩
    refine ⟨fun h3 => ⟨h3, fun _ => hz, fun _ => ⟨fun _ => hz, fun h5 => absurd (hj3 0 (by omega)) (by omega)⟩⟩, fun _ => hz⟩
end Go.Proofs.YtbhhcnonooiokaaDoor
