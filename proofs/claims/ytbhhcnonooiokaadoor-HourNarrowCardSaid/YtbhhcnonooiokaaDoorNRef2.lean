/- Nights, the reference: a night. No condition. -/
import Derived.Test.YtbhhcnonooiokaaDoorNRef1
set_option linter.unusedSimpArgs false
set_option linter.unusedVariables false
namespace Go.Proofs.YtbhhcnonooiokaaDoor
open Go Go.RowKit
variable {G : Nat → Option (Nat × (Nat → Val))}
def slV (x : Nat × (Nat → Sp)) : Val := .view 2 x.1 fun i j => (x.2 i).c j
noncomputable def sNightR : Spec := spec3 TCk TI (TSl RCh) (fun _ _ _ => True) fun c day l => .tup (.cons (.view 2 (nightF c day l).1.1 fun i j => ((nightF c day l).1.2 i).c j) (.cons (.int .i64 (nightF c day l).2.1) (.cons (.int .i64 (nightF c day l).2.2) .nil)))
def rowB (c : Ck) (day : Int) (l : Nat → Ch) (n : Nat) (i : Int) (k : Nat) : Sp := if i ≤ k then bwdF c day l n (n - 1 - k) else fwdF c day l k
theorem rowB_last {c : Ck} {day : Int} {l : Nat → Ch} {n k : Nat} (hk : k < n) : rowB c day l n ((n : Int) - 1) k = fwdF c day l k := by
  unfold rowB; split
  · obtain rfl : k = n - 1 := by omega
    rw [Nat.sub_self]; rfl
  · rfl
def rowM (c : Ck) (day : Int) (l : Nat → Ch) (n : Nat) (j k : Nat) : Sp := if k < j then minsF (bwdF c day l n (n - 1 - k)) else bwdF c day l n (n - 1 - k)
theorem j0 (j : Nat) : ((j : Int) == 0) = decide (j = 0) := Bool.eq_iff_iff.2 (by simp)
set_option maxRecDepth 100000 in
theorem pNightR : PureOk Tryd.prog G 30 sNightR := by
  refine fn3 (S := [(56, sAskedR), (74, sChange), (75, sAllR), (76, sLater), (70, sCut), (57, sMinutes)]) (I := []) mixed (.cons pAskedR (.cons pChange (.cons pAllR (.cons pLater (.cons pCut (.cons pMinutes .nil)))))) .nil Tryd.func30 c30 fun c day l _ hw => ?_
  simp only [vl, WfT, Val.toInt, Val.toBool, Val.slen, Val.scell, Nat.reduceSub, and_true, true_and, and_self, and_assoc, maxLen, Nat.reducePow, TSl, TInt, RSp, Sp.d, RSr, Sr.d, RTl, Tl.d, RCh, Ch.d, Ck.L, TCk] at hw
  obtain ⟨w1, w2, w3⟩ := hw
  simp only [RunTo, a30, sAskedR, sChange, sAllR, sLater, sCut, sMinutes, w1, w2, w3, runO_3, runO_4, runO_5, runO_6, runO_14, runO_15, runO_17, runO_18, runO_19, aop, binV, ends, ev, fget, fput, params, cellsOf, cellsN, isLB, vget, vlen, bget, addB, addN, mkv, sliceV, vtab, frz, opOwns, preFz, callFz, skipOp, WfT, resV, resL, res1, norm, norms, norm1, normL, pureB, pureL, snapV, snapOk, specV, argsL, capsL, mkE_S, lkp, lenV, Fin, vp_int, vp_cons, vp_tup, vp_viewn, vsubP_self, Val.toInt, Val.toBool, Val.slen, Val.scell, ↓reduceIte, reduceCtorEq, Nat.reduceEqDiff, Nat.reduceAdd, Nat.reduceSub, Nat.zero_add, bne_iff_ne, bne_eq_false_iff_eq, List.length_cons, List.length_nil, List.append_nil, Bool.and_self, and_true, true_and, and_self, and_assoc, forall_const, imp_self, implies_true, Nat.le_refl, decide_eq_true_eq, decide_eq_false_iff_not, Val.int.injEq, ne_eq, maxLen, Nat.reducePow, spec1, spec2, spec3, TSl, IsSl, TInt, IsInt, TBool, IsBool, Prod.eta, Sp.L, Sp.c0, Sp.c1, Sp.Is, Sp.of, TSp, RSp, Sp.w_c, Sp.d, Sp.eta, Sr.c0, Sr.c1, Sr.c2, Sr.c3, RSr, Sr.w_c, Sr.d, Sr.eta, RTl, Tl.d, Ch.L, Ch.Is, Ch.of, TCh, RCh, Ch.d, Ck.L, Ck.Is, Ck.of, TCk, Ck.d, Ck.eta]
  refine ⟨fun h => ?_, fun h => ⟨fun h2 => ?_, fun h2 => ?_⟩⟩
  · rw [nightF_ask h]; exact ⟨rfl, rfl, rfl⟩
  · rw [nightF_many h (by omega)]; exact ⟨rfl, rfl, rfl⟩
  obtain ⟨hc, hd⟩ := askE_0 h
  refine loopI (ι := Nat) (fun j => j ≤ l.1 ∧ ∀ i < j, ChOk c (l.2 i) (decide (i = 0))) (fun j => l.1 - j) [1, 2, 3] (fun j => [(10, .int .i64 j)]) (fun _ => []) 0 ⟨by omega, fun i h => by omega⟩ (by simp only [Chk, chkFr, chkBx, chkBx1, hasB, idsLt, kept, vs_int, vs_nil, vs_ptr, vs_cons, vs_view, fget, isLB, bget, vsubP_self, ↓reduceIte, reduceCtorEq, Nat.reduceEqDiff, Nat.reduceLT, Int.cast_ofNat_Int, and_self, forall_const, implies_true, Option.some.injEq, exists_eq', keepF, appF, updB]; try rfl) fun j hj => ?_
  obtain ⟨hj1, hj2⟩ := hj
  simp only [w3, runO_3, runO_4, runO_5, runO_6, runO_8, runO_9, runO_14, runO_15, runO_16, runO_17, runO_18, runO_19, aop, binV, ends, ev, fget, fput, isLB, vget, vlen, bget, addB, addN, mkv, sliceV, vtab, frz, opOwns, preFz, callFz, skipOp, WfT, resV, resL, res1, casts, castOks, cast1, castOk, norm, norms, norm1, normL, pureB, pureL, snapV, snapOk, specV, argsL, capsL, mkE_S, lkp, lenV, popTo, stkFr, vp_int, vp_cons, vp_tup, vp_viewn, vsubP_self, Val.toInt, Val.toBool, Val.slen, Val.scell, ↓reduceIte, reduceCtorEq, Nat.reduceEqDiff, Nat.reduceAdd, Nat.reduceSub, Nat.zero_add, List.length_cons, List.length_nil, List.append_nil, Bool.not_eq_true', Bool.not_eq_false', Bool.and_self, and_true, true_and, and_self, and_assoc, forall_const, imp_self, implies_true, Nat.le_refl, decide_eq_true_eq, decide_eq_false_iff_not, Val.int.injEq, or_true, maxLen, Nat.reducePow, keepF, appF, updB, inat, Prod.eta, Sp.c0, Sp.c1, Sp.w_c, Sp.eta, Sr.c0, Sr.c1, Sr.c2, Sr.c3, Sr.w_c, Sr.eta, Tl.c0, Tl.c1, Tl.c2, Tl.c3, Tl.c4, RTl, Tl.w_c, Tl.d, Tl.eta, Ch.c0, Ch.c1, Ch.c2, Ch.eta, Ck.eta]
  rw [j0]
  refine ⟨fun hlt => ⟨by omega, by omega, fun h3 => ?_, fun h3 => inv_intro (j + 1) ⟨by omega, fun i hi => ?_⟩ (by omega) ?_⟩, fun hge => ?_⟩
  · rw [nightF_bad h (by omega) (by omega) (fun k => by rw [chB_iff.2 k] at h3; cases h3) hj2]; exact ⟨rfl, rfl, rfl⟩
  · rcases Nat.lt_or_ge i j with h5 | h5
    · exact hj2 i h5
    · obtain rfl : i = j := by omega
      exact chB_iff.1 h3
  · simp only [Chk, chkFr, chkBx, chkBx1, hasB, idsLt, kept, vs_int, vs_nil, vs_ptr, vs_cons, vs_view, fget, isLB, bget, vsubP_self, ↓reduceIte, Nat.reduceEqDiff, Nat.reduceLT, and_true, true_and, and_self, forall_const, implies_true, Option.some.injEq, Val.int.injEq, exists_eq']
    rw [wrS (by omega)]
  obtain rfl : j = l.1 := by omega
  clear hj1 hge
  refine loopJ (ι := Nat) (fun j => j ≤ l.1 ∧ ∀ i < j, (fwdF c day l.2 i).lo ≤ (fwdF c day l.2 i).hi) (fun j => l.1 - j) [1, 2, 3] (fun j => [(11, .own 1), (12, .int .i64 j)]) (fun j => [(1, .row 25 2 j fun i b => (fwdF c day l.2 i).c b)]) 1 0 ⟨by omega, fun i h => by omega⟩ (by simp only [Chk, chkFr, chkBx, chkBx1, newIn, hasB, idsLt, kept, vs_int, vs_nil, vs_own, vs_ptr, vs_cons, vs_view, fget, isLB, bget, bset, vsubP_self, ↓reduceIte, reduceCtorEq, Nat.reduceEqDiff, Nat.reduceAdd, Nat.reduceLT, Int.cast_ofNat_Int, and_true, and_self, forall_const, implies_true, Option.some.injEq, exists_eq', or_true, keepF, appF, updB]) fun j hj => ?_
  obtain ⟨hj1, hj3⟩ := hj
  simp only [w3, runO_3, runO_4, runO_5, runO_6, runO_8, runO_9, runO_14, runO_15, runO_16, runO_17, runO_18, runO_19, aop, binV, ends, reOk, Nat.zero_sub, ev, fget, fput, cellsOf, cellsN, isLB, vget, vset, vsets, vlen, bget, bset, addB, addN, mkv, sliceV, vtab, fillV, fillOk, rowsV, rowsOk, vrep, frz, opOwns, preFz, callFz, owns, skipOp, WfT, resV, resL, res1, casts, castOks, cast1, castOk, norm, norms, norm1, normL, pureB, pureL, onesB, snapV, snapOk, specV, argsL, capsL, mkE_S, mkE_G, lkp, lenV, subFr, subV, subBx, subStk, elemsV, popTo, stkFr, vp_int, vp_cons, vp_tup, vp_viewn, vsubP_self, Val.toInt, Val.toBool, Val.slen, Val.scell, ↓reduceIte, reduceCtorEq, Nat.reduceEqDiff, Nat.reduceAdd, Nat.reduceSub, Nat.reduceLeDiff, Nat.reduceLT, Nat.zero_add, Nat.add_zero, Nat.sub_zero, List.length_cons, List.length_nil, List.append_nil, List.flatMap_cons, List.flatMap_nil, Bool.and_self, and_true, true_and, and_self, and_assoc, forall_const, imp_self, implies_true, Nat.le_refl, decide_eq_true_eq, decide_eq_false_iff_not, Val.int.injEq, or_true, or_false, maxLen, Nat.reducePow, keepF, appF, updB, inat, Prod.eta, Sp.c0, Sp.c1, Sp.w_c, Sp.eta, Sr.c0, Sr.c1, Sr.c2, Sr.c3, Sr.w_c, Sr.eta, Tl.c0, Tl.c1, Tl.c2, Tl.c3, Tl.c4, RTl, Tl.w_c, Tl.d, Tl.eta, Ch.c0, Ch.c1, Ch.c2, Ch.eta, Ck.eta]
  have hb := fun (hlt : j < l.1) => fwd_bd hc hd hj2 j hlt
  refine ⟨fun hlt => ⟨by omega, by omega, hc, hd, (hj2 j (by omega)).2.1, fun hz => ?_, fun hz => ?_⟩, fun hge => ?_⟩
  · have hlt : j < l.1 := by omega
    have e1 : IntKind.i64.wrap ((j : Int) - 1) = ((j - 1 : Nat) : Int) := by rw [wr64 (by omega) (by omega)]; omega
    have hok := hj2 j hlt
    have hF : fwdF c day l.2 j = cutF (baseF c day (l.2 j)) (shiftF (fwdF c day l.2 (j - 1)) (laterF c (l.2 j))) := by
      obtain ⟨i, rfl⟩ : ∃ i, j = i + 1 := ⟨j - 1, by omega⟩
      rfl
    have b1 := fwd_bd hc hd hj2 (j - 1) (by omega)
    have b2 := later_bd hc hok.2.2.1
    have e2 : cutF (allF c day (fun i => (l.2 j).told.2 i) (l.2 j).told.1) ⟨IntKind.i64.wrap ((fwdF c day l.2 (j - 1)).lo + (laterF c (l.2 j)).lo), IntKind.i64.wrap ((fwdF c day l.2 (j - 1)).hi + (laterF c (l.2 j)).hi)⟩ = fwdF c day l.2 j := by
      rw [hF, wr64 (by omega) (by omega), wr64 (by omega) (by omega)]; rfl
    simp only [e1, Int.toNat_natCast, e2]
    refine ⟨by omega, by omega, hc, hok.2.2.1.1, hok.2.2.1.2, by omega, by omega, by omega, by omega, ?_⟩
    refine ⟨fun h3 => ?_, fun h3 => ⟨by omega, by omega, inv_intro (j + 1) ⟨by omega, fun i hi => ?_⟩ (by omega) ?_⟩⟩
    · rw [nightF_clash h (by omega) hj2 hlt h3 hj3]; exact ⟨rfl, rfl, rfl⟩
    · rcases Nat.lt_or_ge i j with h5 | h5
      · exact hj3 i h5
      · obtain rfl : i = j := by omega
        omega
    · simp only [Chk, chkFr, chkBx, chkBx1, newIn, hasB, idsLt, kept, vs_int, vs_nil, vs_own, vs_ptr, vs_cons, vs_view, Nat.lt_irrefl, fget, isLB, bget, vsubP_self, ↓reduceIte, reduceCtorEq, Nat.reduceEqDiff, Nat.reduceLT, and_true, true_and, and_self, forall_const, implies_true, Option.some.injEq, Val.int.injEq, exists_eq', false_implies, or_false]
      rw [wrS (by omega)]
      refine ⟨rfl, fun i hi k hk => ?_⟩
      split
      · exact (vsubP_self _).mpr trivial
      · obtain rfl : i = j := by omega
        rw [Nat.sub_self]
        obtain rfl | rfl : k = 0 ∨ k = 1 := by omega
        · rfl
        · rfl
  · have hlt : j < l.1 := by omega
    obtain rfl : j = 0 := by omega
    have e2 : allF c day (fun i => (l.2 0).told.2 i) (l.2 0).told.1 = fwdF c day l.2 0 := rfl
    simp only [e2]
    refine ⟨fun h3 => ?_, fun h3 => ⟨by omega, by omega, inv_intro 1 ⟨by omega, fun i hi => ?_⟩ (by omega) ?_⟩⟩
    · rw [nightF_clash h (by omega) hj2 hlt h3 hj3]; exact ⟨rfl, rfl, rfl⟩
    · rcases Nat.lt_or_ge i 0 with h5 | h5
      · exact hj3 i h5
      · obtain rfl : i = 0 := by omega
        omega
    · simp only [Chk, chkFr, chkBx, chkBx1, newIn, hasB, idsLt, kept, vs_int, vs_nil, vs_own, vs_ptr, vs_cons, vs_view, Nat.lt_irrefl, fget, isLB, bget, vsubP_self, ↓reduceIte, reduceCtorEq, Nat.reduceEqDiff, Nat.reduceLT, Nat.zero_add, Nat.sub_zero, Int.cast_ofNat_Int, Int.reduceAdd, and_true, true_and, and_self, forall_const, implies_true, Option.some.injEq, Val.int.injEq, exists_eq', false_implies, or_false]
      refine ⟨rfl, fun i hi k hk => ?_⟩
      split
      · exact (vsubP_self _).mpr trivial
      · obtain rfl : i = 0 := by omega
        obtain rfl | rfl : k = 0 ∨ k = 1 := by omega
        · rfl
        · rfl
  obtain rfl : j = l.1 := by omega
  clear hj1 hge hb
  refine loopI (ι := Int) (fun i => -1 ≤ i ∧ i ≤ (l.1 : Int) - 1 ∧ (0 ≤ i ∨ l.1 = 0)) (fun i => i.toNat) [1, 2, 3, 11] (fun i => [(15, .int .i64 i)]) (fun i => [(1, .row 25 2 l.1 fun k b => (rowB c day l.2 l.1 i k).c b)]) ((l.1 : Int) - 1) ⟨by omega, by omega, by omega⟩ (by simp only [Chk, chkFr, chkBx, chkBx1, newIn, hasB, idsLt, kept, vs_int, vs_nil, vs_own, vs_ptr, vs_cons, vs_view, fget, isLB, bget, bset, vsubP_self, ↓reduceIte, reduceCtorEq, Nat.reduceEqDiff, Nat.reduceLT, and_true, true_and, and_self, forall_const, implies_true, Option.some.injEq, Val.int.injEq, exists_eq', or_false, keepF, appF, updB]; rw [wr64 (by omega) (by omega)]; refine ⟨rfl, fun k hk b _ => ?_⟩; rw [rowB_last hk]; exact (vsubP_self _).mpr trivial) fun i hi => ?_
  obtain ⟨hi1, hi2, hi3⟩ := hi
  simp only [runO_4, runO_5, runO_6, runO_8, runO_9, runO_14, runO_15, runO_16, runO_17, runO_18, runO_19, aop, binV, reOk, Nat.zero_sub, ev, fget, fput, cellsOf, cellsN, isLB, vget, vset, vsets, vlen, bget, bset, addB, addN, mkv, sliceV, vtab, fillV, fillOk, frz, opOwns, preFz, owns, skipOp, WfT, casts, castOks, cast1, castOk, norm, norms, norm1, normL, pureB, pureL, onesB, specV, argsL, capsL, mkE_S, lkp, popTo, stkFr, Val.toInt, Val.toBool, Val.slen, Val.scell, ↓reduceIte, reduceCtorEq, Nat.reduceEqDiff, Nat.reduceAdd, Nat.reduceLeDiff, Nat.zero_add, Nat.add_zero, Nat.sub_zero, Int.reduceNeg, List.length_cons, List.length_nil, List.append_nil, Bool.and_self, true_and, and_self, and_assoc, forall_const, imp_self, implies_true, Nat.le_refl, decide_eq_true_eq, decide_eq_false_iff_not, or_true, keepF, appF, updB, Prod.eta, Sp.c0, Sp.c1, Sp.w_c, Sp.eta, Sr.c0, Sr.c1, Sr.c2, Sr.c3, Sr.w_c, Sr.eta, Tl.c0, Tl.c1, Tl.c2, Tl.c3, Tl.c4, RTl, Tl.w_c, Tl.d, Tl.eta, Ch.c0, Ch.c1, Ch.c2, Ch.eta, Ck.eta]
  have hB := bwd_ok (day := day) hc hj2 hj3
  have hBb : ∀ k, k < l.1 → Bd (bwdF c day l.2 l.1 k) := fun k hk => by
    have h1 := hB k hk
    have h2 := fwd_bd hc hd hj2 (l.1 - 1 - k) (by omega)
    unfold Bd; omega
  refine ⟨fun hz => ?_, fun hz => ?_⟩
  · obtain ⟨m, rfl⟩ : ∃ m : Nat, i = (m : Int) + 1 := ⟨(i - 1).toNat, by omega⟩
    have e1 : IntKind.i64.wrap ((m : Int) + 1 - 1) = (m : Int) := by rw [wr64 (by omega) (by omega)]; omega
    have e2 : ((m : Int) + 1).toNat = m + 1 := by omega
    have r1 : rowB c day l.2 l.1 ((m : Int) + 1) (m + 1) = bwdF c day l.2 l.1 (l.1 - 2 - m) := by
      unfold rowB; rw [if_pos (by omega), show l.1 - 1 - (m + 1) = l.1 - 2 - m from by omega]
    have r2 : rowB c day l.2 l.1 ((m : Int) + 1) m = fwdF c day l.2 m := by unfold rowB; rw [if_neg (by omega)]
    have hok := hj2 (m + 1) (by omega)
    have b1 := hBb (l.1 - 2 - m) (by omega)
    unfold Bd at b1
    have b2 := later_bd hc hok.2.2.1
    have e3 : bwdF c day l.2 l.1 (l.1 - 1 - m) = cutF (fwdF c day l.2 m) (backF (bwdF c day l.2 l.1 (l.1 - 2 - m)) (laterF c (l.2 (m + 1)))) := by
      rw [show l.1 - 1 - m = l.1 - 2 - m + 1 from by omega]
      simp only [bwdF]
      rw [show l.1 - 2 - (l.1 - 2 - m) = m from by omega, show l.1 - 1 - (l.1 - 2 - m) = m + 1 from by omega]
    have e4 : cutF (fwdF c day l.2 m) ⟨IntKind.i64.wrap ((bwdF c day l.2 l.1 (l.1 - 2 - m)).lo - (laterF c (l.2 (m + 1))).hi), IntKind.i64.wrap ((bwdF c day l.2 l.1 (l.1 - 2 - m)).hi - (laterF c (l.2 (m + 1))).lo)⟩ = bwdF c day l.2 l.1 (l.1 - 1 - m) := by
      rw [e3, wr64 (by omega) (by omega), wr64 (by omega) (by omega)]; rfl
    simp only [e1, e2, r1, r2, Int.toNat_natCast, e4]
    refine ⟨by omega, by omega, hc, hok.2.2.1.1, hok.2.2.1.2, by omega, by omega, by omega, by omega, by omega, by omega, by omega, by omega, inv_intro (m : Int) ⟨by omega, by omega, by omega⟩ (by omega) ?_⟩
    simp only [Chk, chkFr, chkBx, chkBx1, newIn, hasB, idsLt, kept, vs_int, vs_nil, vs_own, vs_ptr, vs_cons, vs_view, Nat.lt_irrefl, fget, isLB, bget, vsubP_self, ↓reduceIte, reduceCtorEq, Nat.reduceEqDiff, Nat.reduceLT, and_true, true_and, and_self, forall_const, implies_true, Option.some.injEq, exists_eq', false_implies, or_false]
    refine fun k hk b hb2 => ?_
    by_cases hkm : k = m
    · subst hkm
      rw [if_pos ⟨rfl, by omega, by omega⟩]
      unfold rowB; rw [if_pos (by omega)]
      obtain rfl | rfl : b = 0 ∨ b = 1 := by omega
      · rfl
      · rfl
    · rw [if_neg (fun h => hkm h.1)]
      have : rowB c day l.2 l.1 (m : Int) k = rowB c day l.2 l.1 ((m : Int) + 1) k := by
        unfold rowB
        by_cases h5 : (m : Int) ≤ k
        · rw [if_pos h5, if_pos (by omega)]
        · rw [if_neg h5, if_neg (by omega)]
      rw [this]; exact (vsubP_self _).mpr trivial
  have hrow : ∀ k, k < l.1 → rowB c day l.2 l.1 i k = rowM c day l.2 l.1 0 k := fun k h5 => by
    unfold rowB rowM; rw [if_pos (by omega), if_neg (Nat.not_lt_zero k)]
  refine loopI (ι := Nat) (fun j => j ≤ l.1) (fun j => l.1 - j) [11] (fun j => [(17, .int .i64 j)]) (fun j => [(1, .row 25 2 l.1 fun k b => (rowM c day l.2 l.1 j k).c b)]) 0 (by omega) (by simp only [Chk, chkFr, chkBx, chkBx1, newIn, hasB, idsLt, kept, vs_int, vs_nil, vs_own, vs_cons, vs_view, fget, isLB, bget, bset, vsubP_self, ↓reduceIte, reduceCtorEq, Nat.reduceEqDiff, Nat.reduceLT, Int.cast_ofNat_Int, and_true, true_and, and_self, forall_const, implies_true, Option.some.injEq, exists_eq', or_false, keepF, appF, updB]; refine fun k hk b _ => ?_; rw [hrow k hk]; exact (vsubP_self _).mpr trivial) fun j hj => ?_
  simp only [runO_3, runO_4, runO_5, runO_6, runO_8, runO_9, runO_14, runO_16, runO_17, runO_18, runO_19, aop, binV, ends, reOk, Nat.zero_sub, ev, fget, fput, cellsOf, cellsN, isLB, vget, vlen, bget, bset, addB, addN, mkv, frz, opOwns, preFz, callFz, owns, skipOp, WfT, resV, resL, res1, casts, castOks, cast1, castOk, norm, norms, norm1, normL, pureB, pureL, onesB, snapV, snapOk, specV, argsL, capsL, mkE_S, lkp, lenV, popTo, stkFr, vp_int, vp_cons, vp_tup, vp_view, vsubP_self, Val.toInt, ↓reduceIte, reduceCtorEq, Nat.reduceEqDiff, Nat.reduceAdd, Nat.zero_add, Nat.add_zero, Nat.sub_zero, List.length_cons, List.length_nil, List.append_nil, Bool.and_self, and_true, true_and, and_self, and_assoc, forall_const, imp_self, implies_true, Nat.le_refl, decide_eq_true_eq, decide_eq_false_iff_not, Val.int.injEq, keepF, appF, updB, inat, Sp.c0, Sp.c1, Sp.eta]
  refine ⟨fun hlt => ⟨by omega, by omega, ?_, by omega, by omega, inv_intro (j + 1) (by omega) (by omega) ?_⟩, fun hge => ?_⟩
  · have := hBb (l.1 - 1 - j) (by omega)
    unfold rowM; rw [if_neg (Nat.lt_irrefl j)]
    unfold Bd at this; unfold SpFit Fit; omega
  · simp only [Chk, chkFr, chkBx, chkBx1, newIn, hasB, idsLt, kept, vs_int, vs_nil, vs_own, vs_cons, vs_view, fget, isLB, bget, vsubP_self, ↓reduceIte, reduceCtorEq, Nat.reduceEqDiff, Nat.reduceLT, and_true, true_and, and_self, forall_const, implies_true, Option.some.injEq, Val.int.injEq, exists_eq', or_false]
    rw [wrS (by omega)]
    refine ⟨rfl, fun k hk b hb2 => ?_⟩
    by_cases hkm : k = j
    · subst hkm
      rw [if_pos ⟨rfl, by omega, by omega⟩]
      unfold rowM; rw [if_pos (by omega), if_neg (Nat.lt_irrefl k)]
      obtain rfl | rfl : b = 0 ∨ b = 1 := by omega
      · rfl
      · rfl
    · rw [if_neg (fun h => hkm h.1)]
      have : rowM c day l.2 l.1 (j + 1) k = rowM c day l.2 l.1 j k := by
        unfold rowM
        by_cases h5 : k < j
        · rw [if_pos h5, if_pos (by omega)]
        · rw [if_neg h5, if_neg (by omega)]
      rw [this]; exact (vsubP_self _).mpr trivial
  · obtain rfl : j = l.1 := by omega
    rw [nightF_ok h (by omega) hj2 hj3]
    refine ⟨rfl, fun k hk b hb2 => ?_, rfl, rfl⟩
    have hk : k < l.1 := hk
    unfold rowM; rw [if_pos hk]; exact (vsubP_self _).mpr trivial
end Go.Proofs.YtbhhcnonooiokaaDoor
