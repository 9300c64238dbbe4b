/- Hours, outright: the laws' small functions. No condition but bounds. -/
import Derived.Test.YtbhhcnonooiokaaDoorQMath
import Derived.Test.YtbhhcnonooiokaaDoorHRef4
import Derived.Test.YtbhhcnonooiokaaDoorACodeQ
set_option linter.unusedSimpArgs false
set_option linter.unusedVariables false
namespace Go.Proofs.YtbhhcnonooiokaaDoor
open Go Go.RowKit
variable {G : Nat → Option (Nat × (Nat → Val))}
def sSpanL : Spec := spec2 TI TI (fun _ _ => True) fun lo hi => .agg (Sp.mk lo hi).L
set_option maxRecDepth 100000 in
theorem pSpanL : PureOk Tryd.prog G 41 sSpanL := by
  refine fn2 (S := []) (I := []) mixed .nil .nil Tryd.func41 c41 fun lo hi _ _ => ?_
  simp only [RunTo, a41, runO_3, runO_5, runO_17, runO_18, runO_19, aop, ends, reOk, Nat.zero_sub, ev, fget, fput, params, cellsOf, cellsN, isLB, vget, vset, vsets, vlen, bget, bset, addB, addN, mkv, sliceV, vtab, fillV, fillOk, frz, opOwns, preFz, skipOp, WfT, resV, res1, onesB, snapV, snapOk, Fin, vsubP_self, ↓reduceIte, reduceCtorEq, Nat.reduceEqDiff, Nat.reduceAdd, Nat.reduceLeDiff, Nat.zero_add, List.length_cons, List.length_nil, Bool.and_self, and_self, forall_const, Nat.le_refl, TInt, Sp.L]
def sMarkL : Spec := spec1 TI (fun _ => True) fun i => .agg (markT i).L
set_option maxRecDepth 100000 in
theorem pMarkL : PureOk Tryd.prog G 37 sMarkL := by
  refine fn1 (S := []) (I := []) mixed .nil .nil Tryd.func37 c37 fun i _ _ => ?_
  simp only [RunTo, a37, markT, runO_3, runO_5, runO_17, runO_18, runO_19, aop, ends, reOk, Nat.zero_sub, ev, fget, fput, params, cellsOf, cellsN, isLB, vget, vset, vsets, vlen, bget, bset, addB, addN, mkv, sliceV, vtab, fillV, fillOk, frz, opOwns, preFz, skipOp, WfT, resV, res1, onesB, snapV, snapOk, Fin, vsubP_self, ↓reduceIte, reduceCtorEq, Nat.reduceEqDiff, Nat.reduceAdd, Nat.reduceLeDiff, Nat.zero_add, List.length_cons, List.length_nil, Bool.and_self, and_self, forall_const, Nat.le_refl, TInt, Tl.L]
def sBetL : Spec := spec1 TI (fun _ => True) fun i => .agg (betT i).L
set_option maxRecDepth 100000 in
theorem pBetL : PureOk Tryd.prog G 38 sBetL := by
  refine fn1 (S := []) (I := []) mixed .nil .nil Tryd.func38 c38 fun i _ _ => ?_
  simp only [RunTo, a38, betT, runO_3, runO_5, runO_17, runO_18, runO_19, aop, ends, reOk, Nat.zero_sub, ev, fget, fput, params, cellsOf, cellsN, isLB, vget, vset, vsets, vlen, bget, bset, addB, addN, mkv, sliceV, vtab, fillV, fillOk, frz, opOwns, preFz, skipOp, WfT, resV, res1, onesB, snapV, snapOk, Fin, vsubP_self, ↓reduceIte, reduceCtorEq, Nat.reduceEqDiff, Nat.reduceAdd, Nat.reduceLeDiff, Nat.zero_add, List.length_cons, List.length_nil, Bool.and_self, and_self, forall_const, Nat.le_refl, TInt, Tl.L]
def sStarL : Spec := spec2 TI TI (fun _ _ => True) fun i h => .agg (starT i h).L
set_option maxRecDepth 100000 in
theorem pStarL : PureOk Tryd.prog G 83 sStarL := by
  refine fn2 (S := []) (I := []) mixed .nil .nil Tryd.func83 c83 fun i h _ _ => ?_
  simp only [RunTo, a83, starT, runO_3, runO_5, runO_17, runO_18, runO_19, aop, ends, reOk, Nat.zero_sub, ev, fget, fput, params, cellsOf, cellsN, isLB, vget, vset, vsets, vlen, bget, bset, addB, addN, mkv, sliceV, vtab, fillV, fillOk, frz, opOwns, preFz, skipOp, WfT, resV, res1, onesB, snapV, snapOk, Fin, vsubP_self, ↓reduceIte, reduceCtorEq, Nat.reduceEqDiff, Nat.reduceAdd, Nat.reduceLeDiff, Nat.zero_add, List.length_cons, List.length_nil, Bool.and_self, and_self, forall_const, Nat.le_refl, TInt, Tl.L]
def sWordL : Spec := spec2 TI TI (fun _ _ => True) fun lo hi => .agg (wordT lo hi).L
set_option maxRecDepth 100000 in
theorem pWordL : PureOk Tryd.prog G 39 sWordL := by
  refine fn2 (S := [(41, sSpanL)]) (I := []) mixed (.cons pSpanL .nil) .nil Tryd.func39 c39 fun lo hi _ _ => ?_
  simp only [RunTo, a39, sSpanL, wordT, runO_3, runO_5, runO_17, runO_18, runO_19, aop, ends, reOk, Nat.zero_sub, ev, fget, fput, params, cellsOf, cellsN, isLB, vget, vset, vsets, vlen, bget, bset, addB, addN, mkv, sliceV, vtab, fillV, fillOk, frz, opOwns, preFz, callFz, skipOp, WfT, resV, res1, norm, norm1, normL, pureB, pureL, onesB, snapV, snapOk, specV, argsL, capsL, mkE_S, lkp, Fin, vsubP_self, Val.toInt, ↓reduceIte, reduceCtorEq, Nat.reduceEqDiff, Nat.reduceAdd, Nat.reduceLeDiff, Nat.zero_add, List.length_cons, List.length_nil, List.append_nil, Bool.and_self, and_true, and_self, forall_const, Nat.le_refl, spec2, TInt, IsInt, Sp.L, Tl.L]
def witB (a b : Sp) : Bool := decide (b.lo ≤ a.lo ∧ a.hi ≤ b.hi)
theorem witB_iff {a b : Sp} : witB a b = true ↔ b.lo ≤ a.lo ∧ a.hi ≤ b.hi := by unfold witB; exact decide_eq_true_iff
def sWithinL : Spec := spec2 TSp TSp (fun _ _ => True) fun a b => .bool (witB a b)
set_option maxRecDepth 100000 in
theorem pWithinL : PureOk Tryd.prog G 48 sWithinL := by
  refine fn2 (S := []) (I := []) mixed .nil .nil Tryd.func48 c48 fun a b _ _ => ?_
  simp only [RunTo, a48, runO_3, runO_5, runO_17, runO_18, runO_19, aop, binV, ends, Nat.zero_sub, ev, fget, fput, params, cellsOf, cellsN, isLB, vget, vlen, bget, addB, addN, mkv, sliceV, vtab, frz, opOwns, preFz, skipOp, WfT, resV, res1, snapV, snapOk, pickV, Fin, vp_bool, ↓reduceIte, reduceCtorEq, Nat.reduceEqDiff, Nat.reduceAdd, Nat.reduceLeDiff, Nat.zero_add, Nat.add_zero, List.length_cons, List.length_nil, Bool.bne_true, bne_self_eq_false, Bool.not_false, true_and, and_self, forall_const, Nat.le_refl, decide_eq_true_eq, decide_eq_false_iff_not, Val.bool.injEq, Sp.L, TSp]
  unfold witB
  refine ⟨fun h => decide_eq_decide.2 ?_, fun h => (decide_eq_false ?_).symm⟩ <;> omega
noncomputable def rdyB (c : Ck) (day : Int) : Bool := decide (askE c day = 0)
noncomputable def sReady : Spec := spec2 TCk TI (fun _ _ => True) fun c day => .bool (rdyB c day)
set_option maxRecDepth 100000 in
theorem pReady : PureOk Tryd.prog G 43 sReady := by
  refine fn2 (S := [(15, sGreat), (22, sCheckR)]) (I := []) mixed (.cons pGreat (.cons pCheckR .nil)) .nil Tryd.func43 c43 fun c day _ hw => ?_
  simp only [vl, WfT, Val.toInt, Nat.reduceSub, and_true, and_self, maxLen, Nat.reducePow, TInt, RSp, Sp.d, RSr, Sr.d, Ck.L, TCk] at hw
  obtain ⟨w1, w2⟩ := hw
  simp only [RunTo, a43, sGreat, sCheckR, w1, w2, ↓imp_ft, ↓imp_ff, runO_3, runO_5, runO_17, runO_18, runO_19, aop, binV, ends, Nat.zero_sub, ev, fget, fput, params, cellsOf, cellsN, isLB, vget, vlen, bget, addB, addN, mkv, sliceV, vtab, frz, opOwns, preFz, callFz, skipOp, WfT, resV, res1, norm, norms, norm1, normL, pureB, pureL, snapV, snapOk, specV, argsL, capsL, mkE_S, lkp, pickV, Fin, vp_bool, Val.toInt, Val.slen, Val.scell, ↓reduceIte, reduceCtorEq, Nat.reduceEqDiff, Nat.reduceAdd, Nat.reduceSub, Nat.zero_add, beq_iff_eq, beq_eq_false_iff_ne, List.length_cons, List.length_nil, List.append_nil, Bool.not_eq_true', Bool.not_eq_false', Bool.and_self, Bool.bne_true, bne_self_eq_false, Bool.not_false, and_true, true_and, and_self, and_assoc, forall_const, imp_self, implies_true, Nat.le_refl, decide_eq_true_eq, decide_eq_false_iff_not, Val.bool.injEq, ne_eq, maxLen, Nat.reducePow, spec1, TInt, Prod.eta, Sp.c0, Sp.c1, RSp, Sp.w_c, Sp.d, Sp.eta, Sr.c0, Sr.c1, Sr.c2, Sr.c3, RSr, Sr.w_c, Sr.d, Sr.eta, Ck.L, Ck.Is, Ck.of, TCk, Ck.d, Ck.eta]
  unfold rdyB
  refine ⟨fun _ => ⟨fun h => ?_, fun h => ?_⟩, fun h => ?_⟩
  · have hc : ckB c = true := by
      by_cases h3 : ckB c = true
      · exact h3
      · simp [h3] at h
    refine ⟨fun h2 => decide_eq_decide.2 ⟨fun h3 => ?_, fun h3 => (askE_0 h3).2.2⟩, fun h2 => (decide_eq_false fun h3 => h2 (askE_0 h3).2.1).symm⟩
    unfold askE; rw [if_pos hc, if_pos ⟨h2, h3⟩]
  · have hc : ¬ ckB c = true := fun h3 => h (by simp [h3])
    refine (decide_eq_false ?_).symm
    unfold askE; rw [if_neg hc]; decide
  · have h := of_decide_eq_true h
    refine (decide_eq_false fun h2 => ?_).symm
    obtain ⟨hc, _⟩ := askE_0 h2
    have := hc.nm; have := hc.ns; omega
def sChoose : Spec := spec2 (TSl (RU .u32)) TI (fun _ i => 0 ≤ i) fun b i => .int .u32 (choF b i)
set_option maxRecDepth 100000 in
theorem pChoose : PureOk Tryd.prog G 45 sChoose := by
  refine fn2 (S := []) (I := []) mixed .nil .nil Tryd.func45 c45 fun b i h0 hw => ?_
  simp only [RU_k, RU_C, vl, WfT, Val.slen, Val.scell, Nat.reduceSub, and_true, and_self, maxLen, Nat.reducePow, TSl, TInt] at hw
  simp only [RunTo, a45, RU_k, RU_C, hw, runO_3, runO_4, runO_5, runO_14, runO_17, runO_18, runO_19, aop, binV, ends, ev, fget, fput, params, vget, addB, addN, mkv, frz, opOwns, preFz, skipOp, WfT, resV, res1, casts, castOks, cast1, castOk, snapV, snapOk, lenV, Fin, vp_int, Val.toInt, Val.slen, Val.scell, ↓reduceIte, reduceCtorEq, Nat.reduceEqDiff, Nat.reduceSub, Nat.zero_add, List.length_cons, List.length_nil, true_and, and_self, and_assoc, forall_const, Nat.le_refl, decide_eq_true_eq, decide_eq_false_iff_not, Val.int.injEq, maxLen, Nat.reducePow, TSl, TInt]
  unfold choF
  exact ⟨fun h => ⟨h0, h, by rw [if_pos h]⟩, fun h => by rw [if_neg h]⟩
def sInside : Spec := spec2 TSp (TInt .u32) (fun s n => SpIn s (-100000000) 100000000 ∧ 0 ≤ n ∧ n ≤ 4294967295) fun s n => .int .i64 (insF s n)
set_option maxRecDepth 100000 in
theorem pInside : PureOk Tryd.prog G 46 sInside := by
  refine fn2 (S := []) (I := []) mixed .nil .nil Tryd.func46 c46 fun s n hp hw => ?_
  simp only [RunTo, a46, runO_3, runO_5, runO_17, runO_18, runO_19, aop, binV, ends, ev, fget, fput, params, cellsOf, cellsN, isLB, vget, vlen, bget, addB, addN, mkv, sliceV, vtab, frz, opOwns, preFz, skipOp, WfT, resV, res1, snapV, snapOk, Fin, vp_int, ↓reduceIte, reduceCtorEq, Nat.reduceEqDiff, Nat.reduceAdd, Nat.reduceLeDiff, Nat.zero_add, Nat.add_zero, List.length_cons, List.length_nil, true_and, and_self, forall_const, Nat.le_refl, Val.int.injEq, ne_eq, TInt, Sp.L, TSp]
  obtain ⟨⟨h1, h2, h3⟩, h4, h5⟩ := hp
  rw [wr64 (e := s.hi - s.lo) (by omega) (by omega), wr64 (e := s.hi - s.lo + 1) (by omega) (by omega), wr64 (e := n) (by omega) (by omega), Int.tmod_eq_emod_of_nonneg h4]
  have h6 := Int.emod_nonneg n (b := s.hi - s.lo + 1) (by omega)
  have h7 := Int.emod_lt_of_pos n (b := s.hi - s.lo + 1) (by omega)
  unfold insF
  exact ⟨by omega, wr64 (by omega) (by omega)⟩
def sPart : Spec := spec3 TSp (TSl (RU .u32)) TI (fun s _ i => SpIn s (-100000000) 100000000 ∧ 0 ≤ i ∧ i ≤ 1000) fun s b i => .agg (partF s b i).L
set_option maxRecDepth 100000 in
theorem pPart : PureOk Tryd.prog G 47 sPart := by
  refine fn3 (S := [(45, sChoose), (46, sInside), (41, sSpanL)]) (I := []) mixed (.cons pChoose (.cons pInside (.cons pSpanL .nil))) .nil Tryd.func47 c47 fun s b i hp hw => ?_
  simp only [RU_k, RU_C, vl, WfT, Val.slen, Val.scell, Nat.reduceSub, and_true, true_and, and_self, maxLen, Nat.reducePow, TSl, TInt, Sp.L, TSp] at hw
  simp only [RunTo, a47, sChoose, sInside, sSpanL, RU_k, RU_C, RU_W, RU_D, hw, runO_3, runO_5, runO_17, runO_18, runO_19, aop, binV, ends, reOk, Nat.zero_sub, ev, fget, fput, params, cellsOf, cellsN, isLB, vget, vset, vsets, vlen, bget, bset, addB, addN, mkv, sliceV, vtab, frz, opOwns, preFz, callFz, skipOp, WfT, resV, res1, norm, norms, norm1, normL, pureB, pureL, onesB, snapV, snapOk, specV, argsL, capsL, mkE_S, lkp, Fin, vp_int, vp_cons, vp_agg, vsubP_self, Val.toInt, Val.slen, Val.scell, ↓reduceIte, reduceCtorEq, Nat.reduceEqDiff, Nat.reduceAdd, Nat.reduceSub, Nat.zero_add, Int.reduceNeg, List.length_cons, List.length_nil, List.append_nil, Bool.and_self, and_true, true_and, and_self, and_assoc, forall_const, imp_self, implies_true, Nat.le_refl, Val.int.injEq, maxLen, Nat.reducePow, spec2, TSl, IsSl, TInt, IsInt, Prod.eta, Sp.L, Sp.Is, Sp.of, TSp, Sp.d, Sp.eta]
  obtain ⟨hs, h4, h5⟩ := hp
  obtain ⟨h1, h2, h3⟩ := hs
  have h6 := insF_in (s := s) (n := choF b i) h2
  have b1 := choF_bd b i
  have b2 := choF_bd b (i + 1)
  rw [wr64 (e := i + 1) (by omega) (by omega)]
  exact ⟨h4, ⟨h1, h2, h3⟩, b1.1, b1.2, by omega, ⟨by simp only; omega, h6.2, h3⟩, b2.1, b2.2, rfl, rfl⟩
noncomputable def sTruly : Spec := spec5 TCk TI TI (TSl (RU .u32)) TI (fun c day at' _ i => (CkOk c ∧ DayOk day) ∧ (-100000000 ≤ at' ∧ at' ≤ 100000000) ∧ 0 ≤ i ∧ i ≤ 100000) fun c day at' b i => .tup (.cons (.agg (truF c day at' b i).1.L) (.cons (.bool (truF c day at' b i).2) .nil))
set_option maxRecDepth 100000 in
theorem pTruly : PureOk Tryd.prog G 44 sTruly := by
  refine fn5 (S := [(45, sChoose), (37, sMarkL), (38, sBetL), (83, sStarL), (39, sWordL)]) (I := []) mixed (.cons pChoose (.cons pMarkL (.cons pBetL (.cons pStarL (.cons pWordL .nil))))) .nil Tryd.func44 c44 fun c day at' b i hp hw => ?_
  obtain ⟨⟨hc, hd⟩, hat, h0, h1⟩ := hp
  simp only [RU_k, RU_C, vl, WfT, Val.toInt, Val.slen, Val.scell, Nat.reduceSub, and_true, true_and, and_self, and_assoc, maxLen, Nat.reducePow, TSl, TInt, RSp, Sp.d, RSr, Sr.d, Ck.L, TCk] at hw
  obtain ⟨w1, w2, w3⟩ := hw
  simp only [RunTo, a44, sChoose, sMarkL, sBetL, sStarL, sWordL, RU_k, RU_C, RU_W, RU_D, w1, w2, w3, ↓imp_tt, ↓imp_tf, runO_3, runO_4, runO_5, runO_6, runO_8, runO_14, runO_15, runO_17, runO_18, runO_19, aop, binV, ends, reOk, Nat.zero_sub, ev, fget, fput, params, cellsOf, cellsN, isLB, vget, vset, vsets, vlen, bget, bset, addB, addN, mkv, sliceV, vtab, fillV, fillOk, frz, opOwns, preFz, callFz, skipOp, WfT, resV, resL, res1, norm, norm1, normL, pureB, pureL, onesB, snapV, snapOk, specV, argsL, capsL, mkE_S, lkp, pickV, lenV, Fin, vp_int, vp_bool, vp_cons, vp_agg, vp_tup, vsubP_self, Val.toInt, Val.slen, Val.scell, ↓reduceIte, reduceCtorEq, Nat.reduceEqDiff, Nat.reduceAdd, Nat.reduceSub, Nat.reduceLeDiff, Nat.zero_add, Nat.add_zero, Int.reduceEq, Int.reduceNeg, beq_iff_eq, beq_eq_false_iff_ne, List.length_cons, List.length_nil, List.append_nil, Bool.and_self, Bool.bne_false, bne_self_eq_false, and_true, true_and, and_self, and_assoc, forall_const, Nat.le_refl, decide_eq_true_eq, decide_eq_false_iff_not, Val.int.injEq, Val.bool.injEq, ne_eq, not_false_eq_true, not_false_eq_true, maxLen, Nat.reducePow, spec1, spec2, TSl, IsSl, TInt, IsInt, Prod.eta, RSp, Sp.d, RSr, Sr.d, Tl.L, Ck.L, TCk]
  have hc4 := choF_bd b i
  rw [Int.tmod_eq_emod_of_nonneg hc4.1]
  have e1 : IntKind.i64.wrap (i + 1) = i + 1 := wr64 (by omega) (by omega)
  have e2 : IntKind.i64.wrap (i + 2) = i + 2 := wr64 (by omega) (by omega)
  have ht := tdiv_bd at'
  have eL : IntKind.i64.wrap (IntKind.i64.wrap (IntKind.i64.wrap (at'.tdiv 1000) - 1) - IntKind.i64.wrap ((choF b (i + 1)).tmod 20)) = wlo at' b i := by
    have := choF_bd b (i + 1)
    rw [Int.tmod_eq_emod_of_nonneg this.1, wr64 (e := at'.tdiv 1000) (by omega) (by omega), wr64 (e := at'.tdiv 1000 - 1) (by omega) (by omega), wr64 (e := choF b (i + 1) % 20) (by omega) (by omega), wr64 (by omega) (by omega)]; rfl
  have eH : IntKind.i64.wrap (IntKind.i64.wrap (IntKind.i64.wrap (at'.tdiv 1000) + 1) + IntKind.i64.wrap ((choF b (i + 2)).tmod 20)) = whi at' b i := by
    have := choF_bd b (i + 2)
    rw [Int.tmod_eq_emod_of_nonneg this.1, wr64 (e := at'.tdiv 1000) (by omega) (by omega), wr64 (e := at'.tdiv 1000 + 1) (by omega) (by omega), wr64 (e := choF b (i + 2) % 20) (by omega) (by omega), wr64 (by omega) (by omega)]; rfl
  have hmb := fun j (h : j < c.mrk.1) => spin_of (hc.mrk j h)
  have hnm := hc.nm
  have hns := hc.ns
  refine ⟨h0, fun k0 => ?_, fun k0 => ⟨fun k1 => ?_, fun k1 => ⟨fun k2 => ?_, fun k2 => ?_⟩⟩⟩
  · refine loopI (ι := Nat) (fun j => j ≤ c.mrk.1 ∧ ∀ i < j, ¬ P0 c day at' i) (fun j => c.mrk.1 - j) [1, 2, 3, 4, 5, 10, 23, 27, 28] (fun j => [(29, .int .i64 j)]) (fun _ => []) 0 ⟨by omega, fun _ h => by omega⟩ (by simp only [Chk, chkFr, chkBx, chkBx1, hasB, idsLt, kept, vs_int, vs_nil, vs_ptr, vs_cons, vs_view, fget, isLB, bget, vsubP_self, ↓reduceIte, reduceCtorEq, Nat.reduceEqDiff, Nat.reduceLT, Int.cast_ofNat_Int, and_self, forall_const, implies_true, Option.some.injEq, exists_eq', keepF, appF, updB]; try rfl) fun j hj => ?_
    obtain ⟨hj1, hj2⟩ := hj
    simp only [RU_W, RU_D, w3, ↓imp_tt, ↓imp_tf, ↓imp_ft, ↓imp_ff, runO_3, runO_4, runO_5, runO_6, runO_8, runO_9, runO_14, runO_16, runO_17, runO_18, runO_19, aop, binV, ends, reOk, Nat.zero_sub, ev, fget, fput, cellsOf, cellsN, isLB, vget, vset, vsets, vlen, bget, bset, addB, addN, mkv, sliceV, vtab, fillV, fillOk, frz, opOwns, preFz, callFz, skipOp, WfT, resV, resL, res1, casts, castOks, cast1, castOk, norm, norm1, normL, pureB, pureL, onesB, snapV, snapOk, specV, argsL, capsL, mkE_S, lkp, pickV, popTo, stkFr, vp_int, vp_bool, vp_cons, vp_agg, vp_tup, vsubP_self, Val.toInt, ↓reduceIte, reduceCtorEq, Nat.reduceEqDiff, Nat.reduceAdd, Nat.reduceSub, Nat.reduceLeDiff, Nat.zero_add, Nat.add_zero, Int.reduceEq, Int.reduceNeg, List.length_cons, List.length_nil, List.append_nil, Bool.and_self, Bool.bne_true, Bool.bne_false, bne_self_eq_false, Bool.not_false, and_true, true_and, and_self, and_assoc, forall_const, Nat.le_refl, decide_eq_true_eq, decide_eq_false_iff_not, Val.int.injEq, Val.bool.injEq, ne_eq, not_false_eq_true, not_false_eq_true, maxLen, Nat.reducePow, keepF, appF, updB, inat, Prod.eta, Sp.c0, Sp.c1]
    have hP := P0_iff c day at' j
    have hno : ¬ P0 c day at' j → j < c.mrk.1 → j + 1 ≤ c.mrk.1 ∧ ∀ i < j + 1, ¬ P0 c day at' i := fun h h2 => ⟨h2, fun i hi => by
      rcases Nat.lt_or_ge i j with h5 | h5
      · exact hj2 i h5
      · obtain rfl : i = j := by omega
        exact h⟩
    refine ⟨fun hlt => ?_, fun hge => ?_⟩
    · have hb := hmb j (by omega)
      rw [wr64 (e := 1000 * (c.mrk.2 j).lo) (by omega) (by omega), wr64 (e := 1000 * (c.mrk.2 j).hi) (by omega) (by omega)]
      refine ⟨by omega, by omega, fun h1 => ⟨fun h2 => ?_, fun h2 => inv_intro (j + 1) (hno (by rw [hP]; omega) (by omega)) (by omega) ?_⟩, fun h1 => inv_intro (j + 1) (hno (by rw [hP]; omega) (by omega)) (by omega) ?_⟩
      · have : truF c day at' b i = (markT (j : Int), true) := by unfold truF; rw [if_pos k0, fstI_at (by omega) (hP.2 ⟨h1, h2⟩) hj2, if_pos (by omega)]
        rw [this]; exact ⟨rfl, rfl, rfl, rfl, rfl, rfl⟩
      · simp only [Chk, chkFr, chkBx, chkBx1, hasB, idsLt, kept, vs_int, vs_nil, vs_ptr, vs_cons, vs_view, Nat.lt_irrefl, fget, isLB, bget, vsubP_self, ↓reduceIte, reduceCtorEq, Nat.reduceEqDiff, Nat.reduceLT, and_true, true_and, and_self, forall_const, implies_true, Option.some.injEq, Val.int.injEq, exists_eq', false_implies]
        rw [wrS (by omega)]
      · simp only [Chk, chkFr, chkBx, chkBx1, hasB, idsLt, kept, vs_int, vs_nil, vs_ptr, vs_cons, vs_view, Nat.lt_irrefl, fget, isLB, bget, vsubP_self, ↓reduceIte, reduceCtorEq, Nat.reduceEqDiff, Nat.reduceLT, and_true, true_and, and_self, forall_const, implies_true, Option.some.injEq, Val.int.injEq, exists_eq', false_implies]
        rw [wrS (by omega)]
    · have hT : truF c day at' b i = wdF at' b i := by unfold truF; rw [if_pos k0, fstI_no (fun k hk => hj2 k (by omega)), if_neg (Nat.lt_irrefl _)]
      rw [hT, e1, e2, eL, eH]
      refine ⟨by omega, by omega, fun h => ?_, fun h => ⟨fun h' => ?_, fun h' => ?_⟩⟩
      · unfold wdF; rw [if_pos (.inl h)]; exact ⟨rfl, rfl, rfl, rfl, rfl, rfl⟩
      · unfold wdF; rw [if_pos (.inr h')]; exact ⟨rfl, rfl, rfl, rfl, rfl, rfl⟩
      · unfold wdF; rw [if_neg (by omega)]; exact ⟨rfl, rfl, rfl, rfl, rfl, rfl⟩
  · refine loopI (ι := Nat) (fun j => (j ≤ c.mrk.1 - 1) ∧ ∀ i < j, ¬ P1 c day at' i) (fun j => c.mrk.1 - j) [1, 2, 3, 4, 5, 10, 23, 54] (fun j => [(55, .int .i64 j)]) (fun _ => []) 0 ⟨by omega, fun _ h => by omega⟩ (by simp only [Chk, chkFr, chkBx, chkBx1, hasB, idsLt, kept, vs_int, vs_nil, vs_ptr, vs_cons, vs_view, fget, isLB, bget, vsubP_self, ↓reduceIte, reduceCtorEq, Nat.reduceEqDiff, Nat.reduceLT, Int.cast_ofNat_Int, and_self, forall_const, implies_true, Option.some.injEq, exists_eq', keepF, appF, updB]; try rfl) fun j hj => ?_
    obtain ⟨hj1, hj2⟩ := hj
    simp only [RU_W, RU_D, w1, w3, ↓imp_tt, ↓imp_tf, ↓imp_ft, ↓imp_ff, runO_3, runO_4, runO_5, runO_6, runO_8, runO_9, runO_14, runO_16, runO_17, runO_18, runO_19, aop, binV, ends, reOk, Nat.zero_sub, ev, fget, fput, cellsOf, cellsN, isLB, vget, vset, vsets, vlen, bget, bset, addB, addN, mkv, sliceV, vtab, fillV, fillOk, frz, opOwns, preFz, callFz, skipOp, WfT, resV, resL, res1, casts, castOks, cast1, castOk, norm, norm1, normL, pureB, pureL, onesB, snapV, snapOk, specV, argsL, capsL, mkE_S, lkp, pickV, popTo, stkFr, vp_int, vp_bool, vp_cons, vp_agg, vp_tup, vsubP_self, Val.toInt, ↓reduceIte, reduceCtorEq, Nat.reduceEqDiff, Nat.reduceAdd, Nat.reduceSub, Nat.reduceLeDiff, Nat.zero_add, Nat.add_zero, Nat.sub_zero, Int.reduceEq, Int.reduceNeg, List.length_cons, List.length_nil, List.append_nil, Bool.and_self, Bool.bne_true, Bool.bne_false, bne_self_eq_false, Bool.not_false, and_true, true_and, and_self, and_assoc, forall_const, Nat.le_refl, decide_eq_true_eq, decide_eq_false_iff_not, Val.int.injEq, Val.bool.injEq, ne_eq, not_false_eq_true, not_false_eq_true, maxLen, Nat.reducePow, keepF, appF, updB, inat, Prod.eta, Sp.c0, Sp.c1]
    have hP := P1_iff c day at' j
    have hno : ¬ P1 c day at' j → j < c.mrk.1 - 1 → j + 1 ≤ c.mrk.1 - 1 ∧ ∀ i < j + 1, ¬ P1 c day at' i := fun h h2 => ⟨h2, fun i hi => by
      rcases Nat.lt_or_ge i j with h5 | h5
      · exact hj2 i h5
      · obtain rfl : i = j := by omega
        exact h⟩
    rw [wr64 (e := (c.mrk.1 : Int) - 1) (by omega) (by omega)]
    refine ⟨fun hlt => ?_, fun hge => ?_⟩
    · have hb := hmb j (by omega)
      have hb2 := hmb (j + 1) (by omega)
      rw [wr64 (e := (j : Int) + 1) (by omega) (by omega), inat1, wr64 (e := 1000 * (c.mrk.2 j).lo) (by omega) (by omega), wr64 (e := 1000 * (c.mrk.2 (j + 1)).hi) (by omega) (by omega)]
      refine ⟨by omega, by omega, fun h1 => ⟨by omega, by omega, fun h2 => ?_, fun h2 => inv_intro (j + 1) (hno (by rw [hP]; omega) (by omega)) (by omega) ?_⟩, fun h1 => inv_intro (j + 1) (hno (by rw [hP]; omega) (by omega)) (by omega) ?_⟩
      · have : truF c day at' b i = (betT (j : Int), true) := by unfold truF; rw [if_neg k0, if_pos k1, fstI_at (by omega) (hP.2 ⟨h1, h2⟩) hj2, if_pos (by omega)]
        rw [this]; exact ⟨rfl, rfl, rfl, rfl, rfl, rfl⟩
      · simp only [Chk, chkFr, chkBx, chkBx1, hasB, idsLt, kept, vs_int, vs_nil, vs_ptr, vs_cons, vs_view, fget, isLB, bget, vsubP_self, ↓reduceIte, reduceCtorEq, Nat.reduceEqDiff, Nat.reduceLT, and_true, true_and, and_self, forall_const, implies_true, Option.some.injEq, Val.int.injEq, exists_eq']
        omega
      · simp only [Chk, chkFr, chkBx, chkBx1, hasB, idsLt, kept, vs_int, vs_nil, vs_ptr, vs_cons, vs_view, fget, isLB, bget, vsubP_self, ↓reduceIte, reduceCtorEq, Nat.reduceEqDiff, Nat.reduceLT, and_true, true_and, and_self, forall_const, implies_true, Option.some.injEq, Val.int.injEq, exists_eq']
        omega
    · have hT : truF c day at' b i = wdF at' b i := by unfold truF; rw [if_neg k0, if_pos k1, fstI_no (fun k hk => hj2 k (by omega)), if_neg (Nat.lt_irrefl _)]
      rw [hT, e1, e2, eL, eH]
      refine ⟨by omega, by omega, fun h => ?_, fun h => ⟨fun h' => ?_, fun h' => ?_⟩⟩
      · unfold wdF; rw [if_pos (.inl h)]; exact ⟨rfl, rfl, rfl, rfl, rfl, rfl⟩
      · unfold wdF; rw [if_pos (.inr h')]; exact ⟨rfl, rfl, rfl, rfl, rfl, rfl⟩
      · unfold wdF; rw [if_neg (by omega)]; exact ⟨rfl, rfl, rfl, rfl, rfl, rfl⟩
  · refine loopI (ι := Nat) (fun j => j ≤ c.str.1 ∧ ∀ i < j, ∀ h, h < 21 → ¬ P2 c day at' i h) (fun j => c.str.1 - j) [1, 2, 3, 4, 5, 10, 85, 86] (fun j => [(87, .int .i64 j)]) (fun _ => []) 0 ⟨by omega, fun _ h => by omega⟩ (by simp only [Chk, chkFr, chkBx, chkBx1, hasB, idsLt, kept, vs_int, vs_nil, vs_ptr, vs_cons, vs_view, fget, isLB, bget, vsubP_self, ↓reduceIte, reduceCtorEq, Nat.reduceEqDiff, Nat.reduceLT, Int.cast_ofNat_Int, and_self, forall_const, implies_true, Option.some.injEq, exists_eq', keepF, appF, updB]; try rfl) fun j hj => ?_
    obtain ⟨hj1, hj2⟩ := hj
    simp only [RU_W, RU_D, w3, ↓imp_tt, ↓imp_tf, runO_3, runO_4, runO_5, runO_6, runO_8, runO_9, runO_14, runO_15, runO_17, runO_18, runO_19, aop, binV, ends, reOk, Nat.zero_sub, ev, fget, fput, cellsOf, cellsN, isLB, vget, vset, vsets, vlen, bget, bset, addB, addN, mkv, sliceV, vtab, fillV, fillOk, frz, opOwns, preFz, callFz, skipOp, WfT, resV, resL, res1, casts, castOks, cast1, castOk, norm, norm1, normL, pureB, pureL, onesB, snapV, snapOk, specV, argsL, capsL, mkE_S, lkp, pickV, popTo, stkFr, vp_int, vp_bool, vp_cons, vp_agg, vp_tup, vsubP_self, Val.toInt, ↓reduceIte, reduceCtorEq, Nat.reduceEqDiff, Nat.reduceAdd, Nat.reduceSub, Nat.zero_add, Int.reduceEq, Int.reduceNeg, List.length_cons, List.length_nil, List.append_nil, Bool.and_self, Bool.bne_false, bne_self_eq_false, and_true, true_and, and_self, and_assoc, forall_const, Nat.le_refl, decide_eq_true_eq, decide_eq_false_iff_not, Val.int.injEq, Val.bool.injEq, ne_eq, not_false_eq_true, not_false_eq_true, maxLen, Nat.reducePow, keepF, appF, updB, inat, Prod.eta, Sr.c0, Sr.c1, Sr.c2, Sr.c3]
    refine ⟨fun hlt => ⟨by omega, by omega, ?_⟩, fun hge => ?_⟩
    · refine loopI (ι := Nat) (fun z => z ≤ 21 ∧ ∀ h < z, ¬ P2 c day at' j h) (fun z => 21 - z) [1, 2, 3, 4, 5, 10, 15, 16, 85, 86, 87] (fun z => [(92, .int .i64 z)]) (fun _ => []) 0 ⟨by omega, fun _ h => by omega⟩ (by simp only [Chk, chkFr, chkBx, chkBx1, hasB, idsLt, kept, vs_int, vs_nil, vs_ptr, vs_cons, vs_view, fget, isLB, bget, vsubP_self, ↓reduceIte, reduceCtorEq, Nat.reduceEqDiff, Nat.reduceLT, Int.cast_ofNat_Int, and_self, forall_const, implies_true, Option.some.injEq, exists_eq', keepF, appF, updB]; try rfl) fun z hz => ?_
      obtain ⟨hz1, hz2⟩ := hz
      simp only [↓imp_ft, ↓imp_ff, runO_3, runO_4, runO_5, runO_6, runO_8, runO_9, runO_14, runO_16, runO_17, runO_18, runO_19, aop, binV, ends, reOk, Nat.zero_sub, ev, fget, fput, cellsOf, cellsN, isLB, vget, vset, vsets, vlen, bget, bset, addB, addN, mkv, sliceV, vtab, frz, opOwns, preFz, callFz, skipOp, WfT, resV, resL, res1, norm, norm1, normL, pureB, pureL, onesB, snapV, snapOk, specV, argsL, capsL, mkE_S, lkp, pickV, popTo, stkFr, vp_int, vp_bool, vp_cons, vp_agg, vp_tup, vsubP_self, ↓reduceIte, reduceCtorEq, Nat.reduceEqDiff, Nat.reduceAdd, Nat.reduceLeDiff, Nat.zero_add, Nat.add_zero, Int.reduceNeg, List.length_cons, List.length_nil, List.append_nil, Bool.and_self, Bool.bne_true, bne_self_eq_false, Bool.not_false, and_true, true_and, and_self, and_assoc, forall_const, Nat.le_refl, decide_eq_true_eq, decide_eq_false_iff_not, Val.int.injEq, Val.bool.injEq, keepF, appF, updB]
      have hP := P2_iff c day at' j z
      refine ⟨fun hzlt => ?_, fun hge => inv_intro (j + 1) ⟨by omega, fun i hi h hh => ?_⟩ (by omega) ?_⟩
      · have h8 := spin_of (hc.sr j (by omega)).1
        have h9 := spin_of (hc.sr j (by omega)).2
        have hh2 := spin_of hc.hand
        have hd' := hd
        unfold DayOk at hd'
        have m1 := mul_le day (c.str.2 j).shift.hi 100000 10000 (by omega) (by omega) (by omega) (by omega)
        have m2 := mul_le day (c.str.2 j).shift.lo 100000 10000 (by omega) (by omega) (by omega) (by omega)
        have m3 := mul_le z c.hand.lo 20 60000 (by omega) (by omega) (by omega) (by omega)
        have m4 := mul_le z c.hand.hi 20 60000 (by omega) (by omega) (by omega) (by omega)
        have eA : IntKind.i64.wrap (IntKind.i64.wrap (IntKind.i64.wrap (1000 * (c.str.2 j).rise.lo) - IntKind.i64.wrap (day * (c.str.2 j).shift.hi)) + IntKind.i64.wrap (z * c.hand.lo)) = 1000 * (c.str.2 j).rise.lo - day * (c.str.2 j).shift.hi + z * c.hand.lo := by simp (disch := omega) only [wr64]
        have eB : IntKind.i64.wrap (IntKind.i64.wrap (IntKind.i64.wrap (1000 * (c.str.2 j).rise.hi) - IntKind.i64.wrap (day * (c.str.2 j).shift.lo)) + IntKind.i64.wrap (z * c.hand.hi)) = 1000 * (c.str.2 j).rise.hi - day * (c.str.2 j).shift.lo + z * c.hand.hi := by simp (disch := omega) only [wr64]
        rw [eA, eB]
        have hno : ¬ P2 c day at' j z → z + 1 ≤ 21 ∧ ∀ h < z + 1, ¬ P2 c day at' j h := fun h => ⟨by omega, fun k hk => by
          rcases Nat.lt_or_ge k z with h5 | h5
          · exact hz2 k h5
          · obtain rfl : k = z := by omega
            exact h⟩
        refine ⟨fun h1 => ⟨fun h2 => ?_, fun h2 => inv_intro (z + 1) (hno fun h => h2 (hP.1 h).2) (by omega) ?_⟩, fun h1 => inv_intro (z + 1) (hno fun h => h1 (hP.1 h).1) (by omega) ?_⟩
        · have hp : P2 c day at' j z := hP.2 ⟨h1, h2⟩
          have hN : fstI (fun n => ∃ h, h < 21 ∧ P2 c day at' n h) c.str.1 = j := fstI_at (by omega) ⟨z, by omega, hp⟩ fun k hk h => by obtain ⟨y, hy, h⟩ := h; exact hj2 k hk y hy h
          have : truF c day at' b i = (starT (j : Int) (z : Int), true) := by unfold truF; rw [if_neg k0, if_neg k1, if_pos k2, hN, if_pos (by omega), fstI_at (by omega) hp hz2]
          rw [this]; exact ⟨rfl, rfl, rfl, rfl, rfl, rfl⟩
        · simp only [Chk, chkFr, chkBx, chkBx1, hasB, idsLt, kept, vs_int, vs_nil, vs_ptr, vs_cons, vs_view, fget, isLB, bget, vsubP_self, ↓reduceIte, reduceCtorEq, Nat.reduceEqDiff, Nat.reduceLT, and_true, true_and, and_self, forall_const, implies_true, Option.some.injEq, Val.int.injEq, exists_eq']
          rw [wrS (by omega)]
        · simp only [Chk, chkFr, chkBx, chkBx1, hasB, idsLt, kept, vs_int, vs_nil, vs_ptr, vs_cons, vs_view, fget, isLB, bget, vsubP_self, ↓reduceIte, reduceCtorEq, Nat.reduceEqDiff, Nat.reduceLT, and_true, true_and, and_self, forall_const, implies_true, Option.some.injEq, Val.int.injEq, exists_eq']
          rw [wrS (by omega)]
      · rcases Nat.lt_or_ge i j with h5 | h5
        · exact hj2 i h5 h hh
        · obtain rfl : i = j := by omega
          exact hz2 h (by omega)
      · simp only [Chk, chkFr, chkBx, chkBx1, hasB, idsLt, kept, vs_int, vs_nil, vs_ptr, vs_cons, vs_view, Nat.lt_irrefl, fget, isLB, bget, vsubP_self, ↓reduceIte, reduceCtorEq, Nat.reduceEqDiff, Nat.reduceLT, and_true, true_and, and_self, forall_const, implies_true, Option.some.injEq, Val.int.injEq, exists_eq', false_implies]
        rw [wrS (by omega)]
    · have hT : truF c day at' b i = wdF at' b i := by
        unfold truF; rw [if_neg k0, if_neg k1, if_pos k2, fstI_no (fun k hk h => ?_), if_neg (Nat.lt_irrefl _)]
        obtain ⟨z, hz, hp⟩ := h
        exact hj2 k (by omega) z hz hp
      rw [hT, e1, e2, eL, eH]
      refine ⟨by omega, by omega, fun h => ?_, fun h => ⟨fun h' => ?_, fun h' => ?_⟩⟩
      · unfold wdF; rw [if_pos (.inl h)]; exact ⟨rfl, rfl, rfl, rfl, rfl, rfl⟩
      · unfold wdF; rw [if_pos (.inr h')]; exact ⟨rfl, rfl, rfl, rfl, rfl, rfl⟩
      · unfold wdF; rw [if_neg (by omega)]; exact ⟨rfl, rfl, rfl, rfl, rfl, rfl⟩
  · have hT : truF c day at' b i = wdF at' b i := by unfold truF; rw [if_neg k0, if_neg k1, if_neg k2]
    rw [hT, e1, e2, eL, eH]
    refine ⟨by omega, by omega, fun h => ?_, fun h => ⟨fun h' => ?_, fun h' => ?_⟩⟩
    · unfold wdF; rw [if_pos (.inl h)]; exact ⟨rfl, rfl, rfl, rfl, rfl, rfl⟩
    · unfold wdF; rw [if_pos (.inr h')]; exact ⟨rfl, rfl, rfl, rfl, rfl, rfl⟩
    · unfold wdF; rw [if_neg (by omega)]; exact ⟨rfl, rfl, rfl, rfl, rfl, rfl⟩
end Go.Proofs.YtbhhcnonooiokaaDoor
