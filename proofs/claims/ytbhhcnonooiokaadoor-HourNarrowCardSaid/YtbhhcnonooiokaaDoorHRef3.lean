/- Hours, the reference: what all tellings tell, which contradict each other, what is before. No condition but lengths. -/
import Derived.Test.YtbhhcnonooiokaaDoorHRef2
set_option linter.unusedSimpArgs false
set_option linter.unusedVariables false
namespace Go.Proofs.YtbhhcnonooiokaaDoor
open Go Go.RowKit
variable {G : Nat → Option (Nat × (Nat → Val))}
abbrev Tls := Nat × (Nat → Tl)
def AllOk (c : Ck) (l : Tls) : Prop := ∀ i, i < l.1 → TlOk c (l.2 i)
/-- the error of tellings -/
noncomputable def tlsE (c : Ck) (l : Tls) : Int := if 10 < l.1 then 4 else if @decide (AllOk c l) (Classical.propDecidable _) = false then 31 else if l.1 = 0 then 6 else 0
noncomputable def sTlsR : Spec := spec2 TCk (TSl RTl) (fun _ _ => True) fun c l => .int .i64 (tlsE c l)
set_option maxRecDepth 100000 in
theorem pTlsR : PureOk Tryd.prog G 69 sTlsR := by
  refine fn2 (S := [(51, sTelling)]) (I := []) mixed (.cons pTelling .nil) .nil Tryd.func69 c69 fun c l _ hw => ?_
  simp only [vl, WfT, Val.toInt, Val.slen, Val.scell, Nat.reduceSub, and_true, and_self, and_assoc, maxLen, Nat.reducePow, TSl, RSp, Sp.d, RSr, Sr.d, RTl, Tl.d, Ck.L, TCk] at hw
  obtain ⟨w1, w2, w3⟩ := hw
  simp only [RunTo, a69, sTelling, w3, runO_3, runO_4, runO_5, runO_6, runO_14, runO_15, runO_17, runO_18, runO_19, aop, binV, ends, ev, fget, fput, params, cellsOf, cellsN, isLB, vlen, addB, addN, frz, opOwns, preFz, skipOp, WfT, resV, res1, snapV, snapOk, lenV, Fin, vp_int, Val.toInt, Val.slen, Val.scell, ↓reduceIte, reduceCtorEq, Nat.reduceEqDiff, Nat.reduceAdd, Nat.reduceSub, Nat.zero_add, and_true, true_and, and_self, and_assoc, forall_const, imp_self, implies_true, decide_eq_true_eq, decide_eq_false_iff_not, Val.int.injEq, maxLen, Nat.reducePow, spec2, TSl, RSp, Sp.d, RSr, Sr.d, Tl.L, Tl.Is, Tl.of, TTl, RTl, Tl.d, Ck.L, Ck.Is, Ck.of, TCk, Ck.d]
  refine ⟨fun h => by unfold tlsE; rw [if_pos (by omega)], fun h => ?_⟩
  refine loopI (ι := Nat) (fun j => j ≤ l.1 ∧ ∀ i < j, TlOk c (l.2 i)) (fun j => l.1 - j) [1, 2] (fun j => [(5, .int .i64 j)]) (fun _ => []) 0 ⟨by omega, fun i h => by omega⟩ (by simp only [Chk, chkFr, chkBx, chkBx1, hasB, idsLt, kept, vs_int, vs_nil, vs_ptr, vs_cons, vs_view, fget, isLB, bget, vsubP_self, ↓reduceIte, reduceCtorEq, Nat.reduceEqDiff, Nat.reduceLT, Int.cast_ofNat_Int, and_self, forall_const, implies_true, Option.some.injEq, exists_eq', keepF, appF, updB]; try rfl) fun j hj => ?_
  obtain ⟨hj1, hj2⟩ := hj
  simp only [w3, runO_3, runO_4, runO_5, runO_6, runO_8, runO_9, runO_14, runO_16, runO_17, runO_18, runO_19, aop, binV, ends, ev, fget, fput, isLB, vget, vlen, bget, addB, addN, mkv, sliceV, vtab, frz, opOwns, preFz, callFz, skipOp, WfT, resV, res1, casts, castOks, cast1, castOk, norm, norms, norm1, normL, pureB, pureL, snapV, snapOk, specV, argsL, capsL, mkE_S, lkp, lenV, popTo, stkFr, Val.toInt, ↓reduceIte, reduceCtorEq, Nat.reduceEqDiff, Nat.reduceAdd, Nat.reduceSub, Nat.zero_add, beq_iff_eq, beq_eq_false_iff_ne, List.length_cons, List.length_nil, List.append_nil, Bool.not_eq_true', Bool.not_eq_false', Bool.and_self, true_and, and_self, and_assoc, forall_const, imp_self, implies_true, Nat.le_refl, decide_eq_true_eq, decide_eq_false_iff_not, Val.int.injEq, ne_eq, maxLen, Nat.reducePow, keepF, appF, updB, inat, Prod.eta, Sp.c0, Sp.c1, Sp.w_c, Sp.eta, Sr.c0, Sr.c1, Sr.c2, Sr.c3, Sr.w_c, Sr.eta, Tl.c0, Tl.c1, Tl.c2, Tl.c3, Tl.c4, Tl.eta, Ck.eta]
  refine ⟨fun hlt => ⟨by omega, by omega, fun hs => ?_, fun hs => inv_intro (j + 1) ⟨by omega, fun i hi => ?_⟩ (by omega) ?_⟩, fun hge => ⟨fun h0 => ?_, fun h0 => ?_⟩⟩
  · unfold tlsE
    rw [if_neg (by omega), if_pos (@decide_eq_false _ (Classical.propDecidable _) fun ha => of_decide_eq_false hs (ha j (by omega)))]
  · rcases Nat.lt_or_ge i j with h5 | h5
    · exact hj2 i h5
    · obtain rfl : i = j := by omega
      exact of_decide_eq_true hs
  · simp only [Chk, chkFr, chkBx, chkBx1, hasB, idsLt, kept, vs_int, vs_nil, vs_ptr, vs_cons, vs_view, fget, isLB, bget, vsubP_self, ↓reduceIte, Nat.reduceEqDiff, Nat.reduceLT, and_true, true_and, and_self, forall_const, implies_true, Option.some.injEq, Val.int.injEq, exists_eq']
    rw [wrS (by omega)]
  · obtain rfl : j = l.1 := by omega
    unfold tlsE
    rw [if_neg (by omega), if_neg (by simp; exact hj2), if_pos (by omega)]
  · obtain rfl : j = l.1 := by omega
    unfold tlsE
    rw [if_neg (by omega), if_neg (by simp; exact hj2), if_neg (by omega)]
theorem tlsE_0 {c : Ck} {l : Tls} (h : tlsE c l = 0) : 0 < l.1 ∧ l.1 ≤ 10 ∧ AllOk c l := by
  unfold tlsE at h
  split at h
  · omega
  · split at h
    · omega
    · rename_i h1 h2
      split at h
      · omega
      · exact ⟨by omega, by omega, by simpa using h2⟩
/-- what the first n tellings tell, in thousandths -/
def allF (c : Ck) (day : Int) (l : Nat → Tl) : Nat → Sp
  | 0 => wideF
  | n + 1 => cutF (allF c day l n) (tellF c day (l n))
def sAllR : Spec := spec3 TCk TI (TSl RTl) (fun c day l => CkOk c ∧ DayOk day ∧ AllOk c l) fun c day l => .agg (allF c day l.2 l.1).L
set_option maxRecDepth 100000 in
theorem pAllR : PureOk Tryd.prog G 75 sAllR := by
  refine fn3 (S := [(96, sWide), (58, sTellR), (70, sCut)]) (I := []) mixed (.cons pWide (.cons pTellR (.cons pCut .nil))) .nil Tryd.func75 c75 fun c day l hp hw => ?_
  obtain ⟨hc, hd, ha⟩ := hp
  simp only [vl, WfT, Val.toInt, Val.slen, Val.scell, Nat.reduceSub, and_true, true_and, and_self, and_assoc, maxLen, Nat.reducePow, TSl, TInt, RSp, Sp.d, RSr, Sr.d, RTl, Tl.d, Ck.L, TCk] at hw
  obtain ⟨w1, w2, w3⟩ := hw
  simp only [RunTo, a75, sWide, sTellR, sCut, runO_5, runO_6, runO_15, runO_17, runO_18, runO_19, aop, reOk, Nat.zero_sub, ev, fget, fput, params, cellsOf, cellsN, isLB, vset, vsets, vlen, bget, bset, addB, addN, frz, opOwns, preFz, callFz, skipOp, WfT, normL, pureL, onesB, specV, argsL, capsL, mkE_S, lkp, Fin, Val.toInt, Val.slen, Val.scell, ↓reduceIte, reduceCtorEq, Nat.reduceEqDiff, Nat.reduceAdd, Nat.zero_add, List.append_nil, Bool.and_self, and_true, true_and, and_self, and_assoc, forall_const, imp_self, implies_true, Nat.le_refl, spec0, spec2, spec3, TSl, TInt, IsInt, Sp.L, Sp.Is, Sp.of, TSp, RSp, Sp.d, RSr, Sr.d, Tl.L, Tl.Is, Tl.of, TTl, RTl, Tl.d, Ck.L, Ck.Is, Ck.of, TCk, Ck.d]
  refine loopI (ι := Nat) (fun j => j ≤ l.1) (fun j => l.1 - j) [1, 2, 3, 6, 7] (fun j => [(8, .int .i64 j)]) (fun j => [(2, .cells (allF c day l.2 j).L)]) 0 (by omega) (by simp only [Chk, chkFr, chkBx, chkBx1, hasB, idsLt, kept, vs_int, vs_nil, vs_ptr, vs_cons, vs_view, fget, isLB, bget, bset, vsubP_self, ↓reduceIte, reduceCtorEq, Nat.reduceEqDiff, Nat.reduceLT, Int.cast_ofNat_Int, Int.reduceNeg, and_self, forall_const, implies_true, Option.some.injEq, exists_eq', keepF, appF, updB, Sp.L, allF, wideF]) fun j hj => ?_
  simp only [w3, runO_3, runO_4, runO_5, runO_6, runO_8, runO_9, runO_14, runO_16, runO_17, runO_18, runO_19, aop, binV, ends, reOk, Nat.zero_sub, ev, fget, fput, cellsOf, cellsN, isLB, vget, vset, vsets, vlen, bget, bset, addB, addN, mkv, sliceV, vtab, frz, opOwns, preFz, callFz, skipOp, WfT, resV, res1, casts, castOks, cast1, castOk, norm, norms, norm1, normL, pureB, pureL, onesB, snapV, snapOk, specV, argsL, capsL, mkE_S, lkp, lenV, popTo, stkFr, vp_int, vp_cons, vp_agg, vsubP_self, Val.toInt, ↓reduceIte, reduceCtorEq, Nat.reduceEqDiff, Nat.reduceAdd, Nat.reduceSub, Nat.zero_add, List.length_cons, List.length_nil, List.append_nil, Bool.and_self, and_true, true_and, and_self, and_assoc, forall_const, imp_self, implies_true, Nat.le_refl, decide_eq_true_eq, decide_eq_false_iff_not, Val.int.injEq, maxLen, Nat.reducePow, keepF, appF, updB, inat, Prod.eta, Sp.L, Sp.c0, Sp.c1, Sp.w_c, Sp.eta, Sr.c0, Sr.c1, Sr.c2, Sr.c3, Sr.w_c, Sr.eta, Tl.c0, Tl.c1, Tl.c2, Tl.c3, Tl.c4, Tl.eta, Ck.eta]
  refine ⟨fun hlt => ⟨by omega, by omega, hc, hd, ha j (by omega), inv_intro (j + 1) (by omega) (by omega) ?_⟩, fun hge => ?_⟩
  · simp only [Chk, chkFr, chkBx, chkBx1, hasB, idsLt, kept, vs_int, vs_nil, vs_ptr, vs_cons, vs_view, fget, isLB, bget, vsubP_self, ↓reduceIte, reduceCtorEq, Nat.reduceEqDiff, Nat.reduceLT, and_true, true_and, and_self, forall_const, implies_true, Option.some.injEq, Val.int.injEq, exists_eq', allF]
    rw [wrS (by omega)]
  · obtain rfl : j = l.1 := by omega
    exact ⟨rfl, rfl⟩
theorem allF_bd {c : Ck} {day : Int} {l : Nat → Tl} {n : Nat} (hc : CkOk c) (hd : DayOk day) (ha : ∀ i, i < n → TlOk c (l i)) : ∀ k, k ≤ n → (-10000000000 ≤ (allF c day l k).lo ∧ (allF c day l k).lo ≤ 10000000000) ∧ (-10000000000 ≤ (allF c day l k).hi ∧ (allF c day l k).hi ≤ 10000000000) := by
  intro k; induction k with
  | zero => intro _; simp [allF, wideF]
  | succ k ih =>
    intro hk
    have h1 := ih (by omega)
    have h2 := (spfit_tell hc hd (ha k (by omega))).2
    simp only [allF, cutF]
    omega
noncomputable def thF (c : Ck) (day : Int) (l : Tls) : Sp × Int :=
  if askE c day ≠ 0 then (⟨0, 0⟩, askE c day) else if tlsE c l ≠ 0 then (⟨0, 0⟩, tlsE c l) else if (allF c day l.2 l.1).lo > (allF c day l.2 l.1).hi then (⟨0, 0⟩, 32) else (allF c day l.2 l.1, 0)
theorem thF_0 {c : Ck} {day : Int} {l : Tls} (h : (thF c day l).2 = 0) : CkOk c ∧ DayOk day ∧ AllOk c l ∧ 0 < l.1 ∧ l.1 ≤ 10 ∧ (thF c day l).1 = allF c day l.2 l.1 ∧ (allF c day l.2 l.1).lo ≤ (allF c day l.2 l.1).hi := by
  unfold thF at h ⊢
  split at h
  · exact absurd h ‹_›
  · rename_i h1
    have h1 : askE c day = 0 := by omega
    split at h
    · exact absurd h ‹_›
    · rename_i h2
      have h2 : tlsE c l = 0 := by omega
      split at h
      · simp at h
      · rename_i h3
        obtain ⟨p1, p2⟩ := askE_0 h1
        obtain ⟨p3, p4, p5⟩ := tlsE_0 h2
        simp only [h1, h2, ne_eq, not_true_eq_false, if_false, h3]
        exact ⟨p1, p2, p5, p3, p4, trivial, by omega⟩
noncomputable def sThR : Spec := spec3 TCk TI (TSl RTl) (fun _ _ _ => True) fun c day l => .tup (.cons (.agg (thF c day l).1.L) (.cons (.int .i64 (thF c day l).2) .nil))
set_option maxRecDepth 100000 in
theorem pThR : PureOk Tryd.prog G 60 sThR := by
  refine fn3 (S := [(56, sAskedR), (69, sTlsR), (75, sAllR)]) (I := []) mixed (.cons pAskedR (.cons pTlsR (.cons pAllR .nil))) .nil Tryd.func60 c60 fun c day l _ hw => ?_
  simp only [vl, WfT, Val.toInt, Val.slen, Val.scell, Nat.reduceSub, and_true, true_and, and_self, and_assoc, maxLen, Nat.reducePow, TSl, TInt, RSp, Sp.d, RSr, Sr.d, RTl, Tl.d, Ck.L, TCk] at hw
  obtain ⟨w1, w2, w3⟩ := hw
  simp only [RunTo, a60, sAskedR, sTlsR, sAllR, w1, w2, w3, runO_3, runO_4, runO_5, runO_14, runO_17, runO_18, runO_19, aop, binV, ends, reOk, Nat.zero_sub, ev, fget, fput, params, cellsOf, cellsN, isLB, vget, vset, vsets, vlen, bget, bset, addB, addN, mkv, sliceV, vtab, fillV, fillOk, frz, opOwns, preFz, callFz, skipOp, WfT, resV, resL, res1, norm, norms, norm1, normL, pureB, pureL, onesB, snapV, snapOk, specV, argsL, capsL, mkE_S, lkp, Fin, vp_int, vp_cons, vp_agg, vp_tup, vsubP_self, Val.toInt, Val.slen, Val.scell, ↓reduceIte, reduceCtorEq, Nat.reduceEqDiff, Nat.reduceAdd, Nat.reduceSub, Nat.reduceLeDiff, Nat.zero_add, Nat.add_zero, bne_iff_ne, bne_eq_false_iff_eq, List.length_cons, List.length_nil, List.append_nil, Bool.and_self, and_true, true_and, and_self, and_assoc, forall_const, imp_self, implies_true, Nat.le_refl, decide_eq_true_eq, decide_eq_false_iff_not, Val.int.injEq, ne_eq, maxLen, Nat.reducePow, spec2, spec3, TSl, IsSl, TInt, IsInt, Prod.eta, Sp.L, Sp.c0, Sp.c1, RSp, Sp.w_c, Sp.d, Sp.eta, Sr.c0, Sr.c1, Sr.c2, Sr.c3, RSr, Sr.w_c, Sr.d, Sr.eta, Tl.c0, Tl.c1, Tl.c2, Tl.c3, Tl.c4, RTl, Tl.w_c, Tl.d, Tl.eta, Ck.L, Ck.Is, Ck.of, TCk, Ck.d, Ck.eta]
  refine ⟨fun h => by simp [thF, h], fun h => ⟨fun h2 => by simp [thF, h, h2], fun h2 => ?_⟩⟩
  obtain ⟨p1, p2⟩ := askE_0 h
  obtain ⟨p3, p4, p5⟩ := tlsE_0 h2
  exact ⟨p1, p2, p5, fun h3 => by simp [thF, h, h2, h3], fun h3 => by simp [thF, h, h2, h3]⟩
noncomputable def sAllA : Spec := spec3 TCk TI (TSl RTl) (fun _ _ _ => True) fun c day l => .tup (.cons (.agg (if (thF c day l).2 = 0 then minsF (thF c day l).1 else ⟨0, 0⟩).L) (.cons (.int .i64 (thF c day l).2) .nil))
set_option maxRecDepth 100000 in
theorem pAllA : PureOk Tryd.prog G 20 sAllA := by
  refine fn3 (S := [(60, sThR), (57, sMinutes)]) (I := []) mixed (.cons pThR (.cons pMinutes .nil)) .nil Tryd.func20 c20 fun c day l _ hw => ?_
  simp only [vl, WfT, Val.toInt, Val.slen, Val.scell, Nat.reduceSub, and_true, true_and, and_self, and_assoc, maxLen, Nat.reducePow, TSl, TInt, RSp, Sp.d, RSr, Sr.d, RTl, Tl.d, Ck.L, TCk] at hw
  obtain ⟨w1, w2, w3⟩ := hw
  simp only [RunTo, a20, sThR, sMinutes, w1, w2, w3, runO_3, runO_4, runO_5, runO_14, runO_17, runO_18, runO_19, aop, binV, ends, reOk, Nat.zero_sub, ev, fget, fput, params, cellsOf, cellsN, isLB, vget, vset, vsets, vlen, bget, bset, addB, addN, mkv, sliceV, vtab, fillV, fillOk, frz, opOwns, preFz, callFz, skipOp, WfT, resV, resL, res1, norm, norms, norm1, normL, pureB, pureL, onesB, snapV, snapOk, specV, argsL, capsL, mkE_S, lkp, Fin, vp_int, vp_cons, vp_agg, vp_tup, vsubP_self, Val.toInt, Val.slen, Val.scell, ↓reduceIte, reduceCtorEq, Nat.reduceEqDiff, Nat.reduceAdd, Nat.reduceSub, Nat.reduceLT, Nat.zero_add, bne_iff_ne, bne_eq_false_iff_eq, List.length_cons, List.length_nil, List.append_nil, Bool.and_self, and_true, true_and, and_self, and_assoc, forall_const, imp_self, implies_true, Nat.le_refl, Val.int.injEq, ne_eq, maxLen, Nat.reducePow, spec1, spec3, TSl, IsSl, TInt, IsInt, Prod.eta, Sp.L, Sp.c0, Sp.c1, Sp.Is, Sp.of, TSp, RSp, Sp.w_c, Sp.d, Sp.eta, Sr.c0, Sr.c1, Sr.c2, Sr.c3, RSr, Sr.w_c, Sr.d, Sr.eta, Tl.c0, Tl.c1, Tl.c2, Tl.c3, Tl.c4, RTl, Tl.w_c, Tl.d, Tl.eta, Ck.L, Ck.Is, Ck.of, TCk, Ck.d, Ck.eta]
  refine ⟨fun h => by simp [h], fun h => ?_⟩
  obtain ⟨p1, p2, p3, p4, p5, p6, p7⟩ := thF_0 h
  have := allF_bd p1 p2 p3 l.1 (Nat.le_refl _)
  refine ⟨by rw [p6]; unfold SpFit Fit; omega, by simp [h]⟩
noncomputable def befF (c : Ck) (day : Int) (a b : Tls) : Int × Int :=
  if (thF c day a).2 ≠ 0 then (0, (thF c day a).2) else if (thF c day b).2 ≠ 0 then (0, (thF c day b).2) else
    if (thF c day a).1.hi < (thF c day b).1.lo then (2, 0) else if (thF c day a).1.lo ≥ (thF c day b).1.hi then (0, 0) else (1, 0)
noncomputable def sBefR : Spec := spec4 TCk TI (TSl RTl) (TSl RTl) (fun _ _ _ _ => True) fun c day a b => .tup (.cons (.int .u8 (befF c day a b).1) (.cons (.int .i64 (befF c day a b).2) .nil))
set_option maxRecDepth 100000 in
theorem pBefR : PureOk Tryd.prog G 27 sBefR := by
  refine fn4 (S := [(60, sThR)]) (I := []) mixed (.cons pThR .nil) .nil Tryd.func27 c27 fun c day a b _ hw => ?_
  simp only [vl, WfT, Val.toInt, Val.slen, Val.scell, Nat.reduceSub, and_true, true_and, and_self, and_assoc, maxLen, Nat.reducePow, TSl, TInt, RSp, Sp.d, RSr, Sr.d, RTl, Tl.d, Ck.L, TCk] at hw
  obtain ⟨w1, w2, w3, w4⟩ := hw
  simp only [RunTo, a27, sThR, w1, w2, w3, w4, runO_3, runO_4, runO_5, runO_14, runO_17, runO_18, runO_19, aop, binV, ends, reOk, Nat.zero_sub, ev, fget, fput, params, cellsOf, cellsN, isLB, vget, vset, vsets, vlen, bget, bset, addB, addN, mkv, sliceV, vtab, frz, opOwns, preFz, callFz, skipOp, WfT, resV, resL, res1, norm, norms, norm1, normL, pureB, pureL, onesB, snapV, snapOk, specV, argsL, capsL, mkE_S, lkp, Fin, vp_int, vp_cons, vp_tup, vsubP_self, Val.toInt, Val.slen, Val.scell, ↓reduceIte, reduceCtorEq, Nat.reduceEqDiff, Nat.reduceAdd, Nat.reduceSub, Nat.reduceLeDiff, Nat.reduceLT, Nat.zero_add, Nat.add_zero, bne_iff_ne, bne_eq_false_iff_eq, List.length_cons, List.length_nil, List.append_nil, Bool.and_self, and_true, true_and, and_self, and_assoc, forall_const, imp_self, implies_true, Nat.le_refl, decide_eq_true_eq, decide_eq_false_iff_not, Val.int.injEq, ne_eq, maxLen, Nat.reducePow, spec3, TSl, IsSl, TInt, IsInt, Prod.eta, Sp.L, Sp.c0, Sp.c1, RSp, Sp.w_c, Sp.d, Sp.eta, Sr.c0, Sr.c1, Sr.c2, Sr.c3, RSr, Sr.w_c, Sr.d, Sr.eta, Tl.c0, Tl.c1, Tl.c2, Tl.c3, Tl.c4, RTl, Tl.w_c, Tl.d, Tl.eta, Ck.L, Ck.Is, Ck.of, TCk, Ck.d, Ck.eta]
  unfold befF
  refine ⟨fun h => by simp [h], fun h => ⟨fun h2 => by simp [h, h2], fun h2 => ⟨fun h3 => by simp [h, h2, h3], fun h3 => ⟨fun h4 => by simp [h, h2, h3, h4], fun h4 => by simp [h, h2, h3, h4]⟩⟩⟩⟩
theorem the_ex {α : Type} [Inhabited α] (P : α → Prop) : ∃ a, (∃ b, P b) → P a := by
  by_cases h : ∃ b, P b
  · obtain ⟨b, hb⟩ := h; exact ⟨b, fun _ => hb⟩
  · exact ⟨default, fun h' => absurd h' h⟩
/-- the one of which something is so -/
noncomputable def theV {α : Type} [Inhabited α] (P : α → Prop) : α := Classical.choose (the_ex P)
theorem theV_eq {α : Type} [Inhabited α] {P : α → Prop} {a : α} (ha : P a) (hu : ∀ b, P b → b = a) : theV P = a := hu _ (Classical.choose_spec (the_ex P) ⟨a, ha⟩)
def Con (x : Nat → Sp) (i j : Nat) : Prop := (cutF (x i) (x j)).lo > (cutF (x i) (x j)).hi
/-- the first two that contradict each other; 6 if there are none -/
def ClP (x : Nat → Sp) (n : Nat) (r : Int × Int × Int) : Prop :=
  (∃ i j : Nat, r = ((i : Int), (j : Int), 0) ∧ i < j ∧ j < n ∧ Con x i j ∧ (∀ i' j', i' < i → i' < j' → j' < n → ¬ Con x i' j') ∧ ∀ j', i < j' → j' < j → ¬ Con x i j') ∨
  (r = (0, 0, 6) ∧ ∀ i j, i < j → j < n → ¬ Con x i j)
theorem ClP_uniq {x : Nat → Sp} {n : Nat} {r s : Int × Int × Int} (hr : ClP x n r) (hs : ClP x n s) : s = r := by
  rcases hr with ⟨i, j, rfl, h1, h2, h3, h4, h5⟩ | ⟨rfl, h1⟩ <;> rcases hs with ⟨i', j', rfl, k1, k2, k3, k4, k5⟩ | ⟨rfl, k1⟩
  · have hi : i = i' := by
      rcases Nat.lt_trichotomy i i' with h | h | h
      · exact absurd h3 (k4 i j h h1 h2)
      · exact h
      · exact absurd k3 (h4 i' j' h k1 k2)
    subst hi
    have hj : j = j' := by
      rcases Nat.lt_trichotomy j j' with h | h | h
      · exact absurd h3 (k5 j h1 h)
      · exact h
      · exact absurd k3 (h5 j' k1 h)
    subst hj; rfl
  · exact absurd h3 (k1 i j h1 h2)
  · exact absurd k3 (h1 i' j' k1 k2)
  · rfl
noncomputable def clF (c : Ck) (day : Int) (l : Tls) : Int × Int × Int :=
  if askE c day ≠ 0 then (0, 0, askE c day) else if tlsE c l ≠ 0 then (0, 0, tlsE c l) else theV (ClP (fun i => tellF c day (l.2 i)) l.1)
noncomputable def sClR : Spec := spec3 TCk TI (TSl RTl) (fun _ _ _ => True) fun c day l => .tup (.cons (.int .i64 (clF c day l).1) (.cons (.int .i64 (clF c day l).2.1) (.cons (.int .i64 (clF c day l).2.2) .nil)))
set_option maxRecDepth 100000 in
theorem pClR : PureOk Tryd.prog G 25 sClR := by
  refine fn3 (S := [(56, sAskedR), (69, sTlsR), (58, sTellR), (70, sCut)]) (I := []) mixed (.cons pAskedR (.cons pTlsR (.cons pTellR (.cons pCut .nil)))) .nil Tryd.func25 c25 fun c day l _ hw => ?_
  simp only [vl, WfT, Val.toInt, Val.slen, Val.scell, Nat.reduceSub, and_true, true_and, and_self, and_assoc, maxLen, Nat.reducePow, TSl, TInt, RSp, Sp.d, RSr, Sr.d, RTl, Tl.d, Ck.L, TCk] at hw
  obtain ⟨w1, w2, w3⟩ := hw
  simp only [RunTo, a25, sAskedR, sTlsR, sTellR, sCut, w1, w2, w3, runO_3, runO_4, runO_5, runO_6, runO_14, runO_15, runO_17, runO_18, runO_19, aop, binV, ends, ev, fget, fput, params, cellsOf, cellsN, isLB, vget, vlen, bget, addB, addN, mkv, sliceV, vtab, frz, opOwns, preFz, callFz, skipOp, WfT, resV, resL, res1, norm, norms, norm1, normL, pureB, pureL, snapV, snapOk, specV, argsL, capsL, mkE_S, lkp, Fin, vp_int, vp_cons, vp_tup, vsubP_self, Val.toInt, Val.slen, Val.scell, ↓reduceIte, reduceCtorEq, Nat.reduceEqDiff, Nat.reduceAdd, Nat.reduceSub, Nat.zero_add, bne_iff_ne, bne_eq_false_iff_eq, List.length_cons, List.length_nil, List.append_nil, Bool.and_self, and_true, true_and, and_self, and_assoc, forall_const, imp_self, implies_true, Nat.le_refl, Val.int.injEq, ne_eq, maxLen, Nat.reducePow, spec2, spec3, TSl, IsSl, TInt, IsInt, Prod.eta, Sp.L, Sp.c0, Sp.c1, Sp.Is, Sp.of, TSp, RSp, Sp.w_c, Sp.d, Sp.eta, Sr.c0, Sr.c1, Sr.c2, Sr.c3, RSr, Sr.w_c, Sr.d, Sr.eta, Tl.L, Tl.c0, Tl.c1, Tl.c2, Tl.c3, Tl.c4, Tl.Is, Tl.of, TTl, RTl, Tl.w_c, Tl.d, Tl.eta, Ck.L, Ck.Is, Ck.of, TCk, Ck.d, Ck.eta]
  refine ⟨fun h => by simp [clF, h], fun h => ⟨fun h2 => by simp [clF, h, h2], fun h2 => ?_⟩⟩
  obtain ⟨hc, hd⟩ := askE_0 h
  obtain ⟨h0, h10, ha⟩ := tlsE_0 h2
  have hcl : ∀ r, ClP (fun i => tellF c day (l.2 i)) l.1 r → clF c day l = r := fun r hr => by
    unfold clF; rw [if_neg (by simp [h]), if_neg (by simp [h2])]; exact theV_eq hr fun s hs => ClP_uniq hr hs
  refine loopI (ι := Nat) (fun i => i ≤ l.1 ∧ ∀ i' j', i' < i → i' < j' → j' < l.1 → ¬ Con (fun i => tellF c day (l.2 i)) i' j') (fun i => l.1 - i) [1, 2, 3] (fun j => [(11, .int .i64 j)]) (fun _ => []) 0 ⟨by omega, fun _ _ h => by omega⟩ (by simp only [Chk, chkFr, chkBx, chkBx1, hasB, idsLt, kept, vs_int, vs_nil, vs_ptr, vs_cons, vs_view, fget, isLB, bget, vsubP_self, ↓reduceIte, reduceCtorEq, Nat.reduceEqDiff, Nat.reduceLT, Int.cast_ofNat_Int, and_self, forall_const, implies_true, Option.some.injEq, exists_eq', keepF, appF, updB]; try rfl) fun i hi => ?_
  obtain ⟨hi1, hi2⟩ := hi
  simp only [w3, runO_3, runO_4, runO_5, runO_6, runO_9, runO_14, runO_15, runO_17, runO_18, runO_19, aop, binV, ends, ev, fget, fput, addB, addN, frz, opOwns, preFz, skipOp, WfT, resV, resL, res1, snapV, snapOk, lenV, popTo, stkFr, vp_int, vp_cons, vp_tup, vsubP_self, ↓reduceIte, reduceCtorEq, Nat.reduceEqDiff, Nat.reduceAdd, Nat.reduceSub, Bool.and_self, and_true, true_and, and_self, forall_const, imp_self, implies_true, decide_eq_true_eq, decide_eq_false_iff_not, Val.int.injEq, maxLen, Nat.reducePow, keepF, appF, updB]
  refine ⟨fun hlt => ?_, fun hge => ?_⟩
  · refine loopI (ι := Nat) (fun j => i < j ∧ j ≤ l.1 ∧ ∀ j', i < j' → j' < j → ¬ Con (fun i => tellF c day (l.2 i)) i j') (fun j => l.1 - j) [1, 2, 3, 11] (fun j => [(12, .int .i64 j)]) (fun _ => []) (i + 1) ⟨by omega, by omega, fun _ h1 h2 => by omega⟩ (by simp only [Chk, chkFr, chkBx, chkBx1, hasB, idsLt, kept, vs_int, vs_nil, vs_ptr, vs_cons, vs_view, fget, isLB, bget, vsubP_self, ↓reduceIte, Nat.reduceEqDiff, Nat.reduceLT, and_true, true_and, and_self, forall_const, implies_true, Option.some.injEq, Val.int.injEq, exists_eq', keepF, appF, updB]; rw [wrS (by omega)]) fun j hj => ?_
    obtain ⟨hj1, hj2, hj3⟩ := hj
    simp only [w3, runO_3, runO_4, runO_5, runO_6, runO_8, runO_9, runO_14, runO_16, runO_17, runO_18, runO_19, aop, binV, ends, reOk, Nat.zero_sub, ev, fget, fput, cellsOf, cellsN, isLB, vget, vset, vsets, vlen, bget, bset, addB, addN, mkv, sliceV, vtab, frz, opOwns, preFz, skipOp, WfT, resV, resL, res1, casts, castOks, cast1, castOk, norm, norms, norm1, normL, pureB, pureL, onesB, snapV, snapOk, specV, argsL, capsL, mkE_S, lkp, lenV, popTo, stkFr, vp_int, vp_cons, vp_tup, vsubP_self, Val.toInt, ↓reduceIte, reduceCtorEq, Nat.reduceEqDiff, Nat.reduceAdd, Nat.reduceSub, Nat.reduceLeDiff, Nat.zero_add, Nat.add_zero, List.length_cons, List.length_nil, List.append_nil, Bool.and_self, and_true, true_and, and_self, and_assoc, forall_const, imp_self, implies_true, Nat.le_refl, decide_eq_true_eq, decide_eq_false_iff_not, Val.int.injEq, maxLen, Nat.reducePow, keepF, appF, updB, inat, Prod.eta, Sp.c0, Sp.c1, Sp.w_c, Sp.eta, Sr.c0, Sr.c1, Sr.c2, Sr.c3, Sr.w_c, Sr.eta, Tl.c0, Tl.c1, Tl.c2, Tl.c3, Tl.c4, Tl.eta, Ck.eta]
    refine ⟨fun hlt2 => ⟨by omega, by omega, hc, hd, ha i (by omega), by omega, by omega, hc, hd, ha j (by omega), fun h3 => ?_, fun h3 => inv_intro (j + 1) ⟨by omega, by omega, fun j' h1 h2 => ?_⟩ (by omega) ?_⟩, fun hge2 => inv_intro (i + 1) ⟨by omega, fun i' j' h1 h2 h4 => ?_⟩ (by omega) ?_⟩
    · rw [hcl ((i : Int), (j : Int), 0) (.inl ⟨i, j, rfl, hj1, by omega, h3, hi2, hj3⟩)]
      exact ⟨rfl, rfl, rfl⟩
    · rcases Nat.lt_or_ge j' j with h5 | h5
      · exact hj3 j' h1 h5
      · obtain rfl : j' = j := by omega
        exact h3
    · simp only [Chk, chkFr, chkBx, chkBx1, hasB, idsLt, kept, vs_int, vs_nil, vs_ptr, vs_cons, vs_view, Nat.lt_irrefl, fget, isLB, bget, vsubP_self, ↓reduceIte, reduceCtorEq, Nat.reduceEqDiff, Nat.reduceLT, and_true, true_and, and_self, forall_const, implies_true, Option.some.injEq, Val.int.injEq, exists_eq', false_implies]
      rw [wrS (by omega)]
    · rcases Nat.lt_or_ge i' i with h5 | h5
      · exact hi2 i' j' h5 h2 h4
      · obtain rfl : i' = i := by omega
        exact hj3 j' h2 (by omega)
    · simp only [Chk, chkFr, chkBx, chkBx1, hasB, idsLt, kept, vs_int, vs_nil, vs_ptr, vs_cons, vs_view, fget, isLB, bget, vsubP_self, ↓reduceIte, Nat.reduceEqDiff, Nat.reduceLT, and_true, true_and, and_self, forall_const, implies_true, Option.some.injEq, Val.int.injEq, exists_eq']
      rw [wrS (by omega)]
  · rw [hcl (0, 0, 6) (.inr ⟨rfl, fun i' j' h1 h2 => hi2 i' j' (by omega) h1 h2⟩)]
    exact ⟨rfl, rfl, rfl⟩
end Go.Proofs.YtbhhcnonooiokaaDoor
