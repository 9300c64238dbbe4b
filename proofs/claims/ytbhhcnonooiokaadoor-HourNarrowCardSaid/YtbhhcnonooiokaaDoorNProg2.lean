/- Nights, the program: a night. No condition but sizes. -/
import Derived.Test.YtbhhcnonooiokaaDoorNProg1
import Derived.Test.YtbhhcnonooiokaaDoorNRef2
set_option linter.unusedSimpArgs false
set_option linter.unusedVariables false
namespace Go.Proofs.YtbhhcnonooiokaaDoor
open Go Go.RowKit
noncomputable def sNightP : Spec := spec3 TCk TI (TSl RCh) (fun _ _ l => ∀ i, i < l.1 → (l.2 i).told.1 ≤ 1000) fun c day l => .tup (.cons (.view 2 (nightF c day l).1.1 fun i j => ((nightF c day l).1.2 i).c j) (.cons (.int .i64 (nightF c day l).2.1) (.cons (.int .i64 (nightF c day l).2.2) .nil)))
theorem nv_never (s : Sp) : ((nvF s).lo == 1 && (nvF s).hi == 0) = decide (¬ s.lo ≤ s.hi) := by
  rw [Bool.eq_iff_iff]
  simp only [nvF, Bool.and_eq_true, beq_iff_eq, decide_eq_true_eq]
  by_cases h : s.lo ≤ s.hi
  · rw [if_pos h]; omega
  · rw [if_neg h]; simp [h]
theorem com_nv (a : Sp) (l : Nat → Sp) : comF (nvF a) (1, l) = nvF (cutF a (l 0)) := by
  have e : cutsF (nvF a) l 1 = cutF (nvF a) (l 0) := by simp [cutsF]
  unfold comF
  simp only [e]
  unfold nvF
  by_cases h1 : a.lo ≤ a.hi
  · rw [if_pos h1]
  · rw [if_neg h1, if_neg (by simp only [cutF]; omega), if_neg (by simp only [cutF]; omega)]
theorem com_ne (a : Sp) (l : Nat → Sp) (h : (cutF a (l 0)).lo ≤ (cutF a (l 0)).hi) : comF a (1, l) = cutF a (l 0) := by
  have e : cutsF a l 1 = cutF a (l 0) := by simp [cutsF]
  unfold comF; simp only [e]; rw [if_pos h]
def nowF (c : Ck) (day : Int) (l : Nat → Ch) : Nat → Sp
  | 0 => ⟨0, 0⟩
  | j + 1 => fwdF c day l j
theorem fstI_inv {p : Nat → Prop} {n : Nat} (h : ¬ fstI p n < n) : ∀ j < n, ¬ p j := fun i => Nat.strongRecOn i fun i ih hi hp => h (by rw [fstI_at hi hp fun j hj => ih j hj (by omega)]; exact hi)
theorem badI_ge {c : Ck} {l : Chs} (h : ¬ badI c l < l.1) : ∀ j < l.1, ChOk c (l.2 j) (decide (j = 0)) := fun j hj => Classical.byContradiction (fstI_inv h j hj)
theorem nightF_badI {c : Ck} {day : Int} {l : Chs} (h : askE c day = 0) (h2 : l.1 ≤ 20) (h3 : badI c l < l.1) : nightF c day l = (noSp, (badI c l : Int), 33) := by
  unfold nightF; rw [if_neg (by simp [h]), if_neg (by omega)]; unfold badI at h3 ⊢; rw [if_pos h3]
set_option maxHeartbeats 4000000 in
set_option maxRecDepth 100000 in
theorem pNightP : PureOk Tryd.prog NG 29 sNightP := by
  refine fn3 (S := [(53, sOpen), (71, sValid), (72, sForward), (73, sStep), (68, sCommon), (55, sMinsP)]) (I := [(95, a95)]) mixed (.cons pOpen (.cons pValid (.cons pForward (.cons pStep (.cons pCommon (.cons pMinsP .nil)))))) (.cons Tryd.func95 c95 .nil) Tryd.func29 c29 fun c day l hl hw => ?_
  simp only [vl, WfT, Val.toInt, Val.toBool, Val.slen, Val.scell, Nat.reduceSub, and_true, true_and, and_self, and_assoc, maxLen, Nat.reducePow, TSl, TInt, RSp, Sp.d, RSr, Sr.d, RTl, Tl.d, RCh, Ch.d, Ck.L, TCk] at hw
  obtain ⟨w1, w2, w3⟩ := hw
  simp only [RunTo, a29, sOpen, sValid, sForward, w1, w2, w3, runO_3, runO_4, runO_5, runO_6, runO_10, runO_14, runO_17, runO_18, runO_19, aop, binV, ends, roundIn, keepS, reOk, dstV, List.map_cons, List.map_nil, Nat.zero_sub, ev, fget, fput, params, cellsOf, cellsN, isLB, vget, vset, vsets, vlen, bget, bset, addB, addN, mkv, sliceV, vtab, frz, opOwns, preFz, callFz, skipOp, WfT, resV, resL, res1, norm, norms, norm1, normL, pureB, pureL, onesB, snapV, snapOk, specV, argsL, capsL, mkE_S, mkE_I, lkp, lenV, Fin, vp_int, vp_cons, vp_tup, vp_viewn, vsubP_self, Val.toInt, Val.toBool, Val.slen, Val.scell, ↓reduceIte, reduceCtorEq, Nat.reduceEqDiff, Nat.reduceAdd, Nat.reduceSub, Nat.reduceLT, Nat.zero_add, bne_iff_ne, bne_eq_false_iff_eq, List.length_cons, List.length_nil, List.append_nil, Bool.not_eq_true', Bool.not_eq_false', Bool.and_self, and_true, true_and, and_self, and_assoc, forall_const, imp_self, implies_true, Nat.le_refl, decide_eq_true_eq, decide_eq_false_iff_not, Val.int.injEq, ne_eq, maxLen, Nat.reducePow, spec2, spec3, TSl, IsSl, TInt, IsInt, Prod.eta, Sp.c0, Sp.c1, RSp, Sp.w_c, Sp.d, Sp.eta, Sr.c0, Sr.c1, Sr.c2, Sr.c3, RSr, Sr.w_c, Sr.d, Sr.eta, Tl.c0, Tl.c1, Tl.c2, Tl.c3, Tl.c4, RTl, Tl.d, Tl.eta, Ch.c0, Ch.c1, Ch.c2, RCh, Ch.w_c, Ch.d, Ch.eta, Ck.L, Ck.Is, Ck.of, TCk, Ck.d, Ck.eta, Kp.L, Kp.Is, Kp.of, TKp, Kp.d]
  intro _ _ _
  refine ⟨fun h => by rw [nightF_ask h]; exact ⟨rfl, rfl, rfl⟩, fun h => ?_⟩
  obtain ⟨hc, hd⟩ := askE_0 h
  simp only [h, if_true]
  refine ⟨fun h2 => by rw [nightF_many h (by omega)]; exact ⟨rfl, rfl, rfl⟩, fun h2 _ => ⟨hc, hd, by omega, hl, fun _ _ _ _ => ⟨fun h3 => ?_, fun h3 _ _ g => ?_⟩⟩⟩
  · have h3 : badI c l < l.1 := Decidable.not_not.1 (of_decide_eq_false h3)
    rw [nightF_badI h (by omega) h3, if_pos h3]; exact ⟨rfl, rfl, rfl⟩
  have h3 : ¬ badI c l < l.1 := of_decide_eq_true h3
  have hg := badI_ge h3
  have hV : validL c day l = (l.1, fun i => nvF (baseF c day (l.2 i))) := by unfold validL; rw [if_neg h3]
  rw [hV]
  simp only [a95, w3, runO_5, runO_6, runO_15, runO_17, runO_18, runO_19, aop, ev, fget, fput, isLB, vget, addB, addN, mkv, frz, opOwns, preFz, skipOp, WfT, casts, castOks, cast1, castOk, lenV, Val.slen, Val.scell, ↓reduceIte, reduceCtorEq, Nat.reduceEqDiff, Nat.reduceAdd, Nat.reduceSub, Nat.zero_add, List.length_cons, List.length_nil, bne_self_eq_false, true_and, and_self, forall_const, imp_self, implies_true, Nat.le_refl, or_true, maxLen, Nat.reducePow]
  refine loopJ (ι := Nat) (fun j => j ≤ l.1 ∧ ∀ i < j, (fwdF c day l.2 i).lo ≤ (fwdF c day l.2 i).hi) (fun j => l.1 - j) [0, 1, 2, 3, 5, 10, 11] (fun j => [(12, .int .i64 j)]) (fun j => [(7, .cells (nowF c day l.2 j).L), (5, .cells (.cons (.own 8) .nil)), (8, .row 107 2 j fun i b => (fwdF c day l.2 i).c b)]) 1 0 ⟨by omega, fun i h => by omega⟩ (by simp only [vs_yld, Chk, chkFr, chkBx, chkBx1, newIn, hasB, idsLt, kept, vs_und, vs_int, vs_nil, vs_nils, vs_own, vs_ptr, vs_cons, vs_view, vs_vptr, fget, isLB, bget, bset, vsubP_self, ↓reduceIte, reduceCtorEq, Nat.reduceEqDiff, Nat.reduceAdd, Nat.reduceLT, Int.cast_ofNat_Int, and_true, and_self, forall_const, implies_true, Option.some.injEq, exists_eq', or_true, keepF, appF, updB, Sp.L, nowF]) fun j hj => ?_
  obtain ⟨hj1, hj2⟩ := hj
  simp only [w1, w2, w3, sStep, sCommon, NG_0, lt1, nv_never, com_nv, Sp.w, flatO, ↓imp_tt, ↓imp_tf, ↓imp_ft, ↓imp_ff, runO_2, runO_3, runO_4, runO_5, runO_6, runO_8, runO_9, runO_11, runO_12, runO_13, runO_14, runO_15, runO_16, runO_17, runO_18, runO_19, aop, binV, ends, asgB, RoundP, putL, reOk, Jmp.acode, Nat.zero_sub, ev, fget, fput, cellsOf, cellsN, isLB, vget, vset, vsets, vlen, bget, bset, bdel, addB, addN, mkv, sliceV, vtab, fillV, fillOk, rowsV, rowsOk, vrep, frz, opOwns, preFz, callFz, owns, skipOp, WfT, resV, resL, res1, casts, castOks, cast1, castOk, norm, norms, norm1, normL, pureB, pureL, flatB, onesB, snapV, snapOk, snapL, snapOks, specV, argsL, capsL, mkE_S, mkE_G, lkp, eqCells, eqOk, pickV, lenV, subFr, subV, subBx, subStk, elemsV, popTo, stkFr, vp_int, vp_cons, vp_tup, vp_viewn, vsubP_self, Val.toInt, Val.toBool, Val.slen, Val.scell, ↓reduceIte, reduceCtorEq, Nat.reduceEqDiff, Nat.reduceAdd, Nat.reduceSub, Nat.reduceLeDiff, Nat.reduceLT, Nat.zero_add, Nat.add_zero, Nat.mul_one, Int.reduceToNat, Int.cast_ofNat_Int, Int.reduceLT, Int.reduceLE, List.length_cons, List.length_nil, List.append_nil, List.flatMap_cons, List.flatMap_nil, Bool.and_true, Bool.and_false, Bool.and_self, Bool.bne_false, bne_self_eq_false, Bool.not_true, Bool.not_false, and_true, true_and, and_self, and_assoc, forall_const, imp_self, implies_true, Nat.le_refl, decide_eq_true_eq, decide_eq_false_iff_not, Val.int.injEq, or_true, or_false, maxLen, Nat.reducePow, keepF, appF, updB, inat, spec2, TSl, IsSl, Prod.eta, Sp.L, Sp.c0, Sp.c1, Sp.Is, Sp.of, TSp, RSp, Sp.d, Sp.eta, Sr.c0, Sr.c1, Sr.c2, Sr.c3, RSr, Sr.w_c, Sr.d, Sr.eta, Tl.c0, Tl.c1, Tl.c2, Tl.c3, Tl.c4, RTl, Tl.w_c, Tl.d, Tl.eta, Ch.L, Ch.c0, Ch.c1, Ch.c2, Ch.Is, Ch.of, TCh, Ch.d, Ch.eta, Ck.eta, Kp.L, Kp.Is, Kp.of, TKp, Kp.d]
  refine ⟨fun hlt => ⟨by omega, by omega, fun _ => ⟨by omega, by omega, fun hz _ => ?_, fun hz => ?_⟩⟩, fun hge => ?_⟩
  · have hlt : j < l.1 := by omega
    have hok := hg j hlt
    have hF : fwdF c day l.2 j = cutF (baseF c day (l.2 j)) (shiftF (fwdF c day l.2 (j - 1)) (laterF c (l.2 j))) := by
      obtain ⟨i, rfl⟩ : ∃ i, j = i + 1 := ⟨j - 1, by omega⟩
      rfl
    have hN : nowF c day l.2 j = fwdF c day l.2 (j - 1) := by
      obtain ⟨i, rfl⟩ : ∃ i, j = i + 1 := ⟨j - 1, by omega⟩
      rfl
    have b1 := fwd_bd hc hd hg (j - 1) (by omega)
    have b2 := later_bd hc hok.2.2.1
    have e2 : cutF (baseF c day (l.2 j)) ⟨IntKind.i64.wrap ((nowF c day l.2 j).lo + (laterF c (l.2 j)).lo), IntKind.i64.wrap ((nowF c day l.2 j).hi + (laterF c (l.2 j)).hi)⟩ = fwdF c day l.2 j := by
      rw [hF, hN, wr64 (by omega) (by omega), wr64 (by omega) (by omega)]; rfl
    simp only [e2]
    refine ⟨hc, hok.2.2.1.1, hok.2.2.1.2, ?_⟩
    refine ⟨fun h5 => ?_, fun h5 => ⟨by omega, by omega, fun h6 => absurd h6 h5, fun _ => inv_intro (j + 1) ⟨by omega, fun i hi => ?_⟩ (by omega) ?_⟩⟩
    · rw [nightF_clash h (by omega) hg hlt (by omega) hj2]; exact ⟨rfl, rfl, rfl⟩
    · rcases Nat.lt_or_ge i j with h7 | h7
      · exact hj2 i h7
      · obtain rfl : i = j := by omega
        exact Decidable.not_not.1 h5
    · have eN : nvF (fwdF c day l.2 j) = fwdF c day l.2 j := by unfold nvF; rw [if_pos (Decidable.not_not.1 h5)]
      simp only [eN, nowF, vs_yld, Chk, chkFr, chkBx, chkBx1, newIn, hasB, idsLt, kept, vs_und, vs_int, vs_nil, vs_nils, vs_own, vs_ptr, vs_cons, vs_view, vs_vptr, Nat.lt_irrefl, fget, isLB, bget, vsubP_self, ↓reduceIte, reduceCtorEq, Nat.reduceEqDiff, Nat.reduceLT, and_true, true_and, and_self, forall_const, implies_true, Option.some.injEq, Val.int.injEq, exists_eq', false_implies, or_false]
      rw [wrS (by omega)]
      refine ⟨rfl, fun i hi b hb => ?_⟩
      split
      · exact (vsubP_self _).mpr trivial
      · obtain rfl : i = j := by omega
        rw [Nat.sub_self]
        obtain rfl | rfl : b = 0 ∨ b = 1 := by omega
        · rfl
        · rfl
  · have hlt : j < l.1 := by omega
    obtain rfl : j = 0 := by omega
    have e2 : baseF c day (l.2 0) = fwdF c day l.2 0 := rfl
    simp only [e2]
    refine ⟨fun h5 => ?_, fun h5 => ⟨by omega, by omega, fun h6 => absurd h6 h5, fun _ => inv_intro 1 ⟨by omega, fun i hi => ?_⟩ (by omega) ?_⟩⟩
    · rw [nightF_clash h (by omega) hg hlt (by omega) hj2]; exact ⟨rfl, rfl, rfl⟩
    · rcases Nat.lt_or_ge i 0 with h7 | h7
      · exact hj2 i h7
      · obtain rfl : i = 0 := by omega
        exact Decidable.not_not.1 h5
    · have eN : nvF (fwdF c day l.2 0) = fwdF c day l.2 0 := by unfold nvF; rw [if_pos (Decidable.not_not.1 h5)]
      simp only [eN, nowF, vs_yld, Chk, chkFr, chkBx, chkBx1, newIn, hasB, idsLt, kept, vs_und, vs_int, vs_nil, vs_nils, vs_own, vs_ptr, vs_cons, vs_view, vs_vptr, Nat.lt_irrefl, fget, isLB, bget, vsubP_self, ↓reduceIte, reduceCtorEq, Nat.reduceEqDiff, Nat.reduceLT, Nat.zero_add, Nat.sub_zero, Int.cast_ofNat_Int, Int.reduceAdd, and_true, true_and, and_self, forall_const, implies_true, Option.some.injEq, Val.int.injEq, exists_eq', false_implies, or_false]
      refine ⟨rfl, fun i hi b hb => ?_⟩
      split
      · exact (vsubP_self _).mpr trivial
      · obtain rfl : i = 0 := by omega
        obtain rfl | rfl : b = 0 ∨ b = 1 := by omega
        · rfl
        · rfl
  obtain rfl : j = l.1 := by omega
  clear hj1 hge
  have hB := bwd_ok (day := day) hc hg hj2
  have hBb : ∀ k, k < l.1 → Bd (bwdF c day l.2 l.1 k) := fun k hk => by
    have h1 := hB k hk
    have h2 := fwd_bd hc hd hg (l.1 - 1 - k) (by omega)
    unfold Bd; omega
  refine loopI (ι := Int) (fun i => -1 ≤ i ∧ i ≤ (l.1 : Int) - 1 ∧ (0 ≤ i ∨ l.1 = 0)) (fun i => i.toNat) [2, 6, 7, 8, 9, 12] (fun i => [(15, .int .i64 i)]) (fun i => [(8, .row 107 2 l.1 fun k b => (rowB c day l.2 l.1 i k).c b)]) ((l.1 : Int) - 1) ⟨by omega, by omega, by omega⟩ (by simp only [Chk, chkFr, chkBx, chkBx1, newIn, hasB, idsLt, kept, vs_int, vs_nil, vs_nils, vs_own, vs_ptr, vs_cons, vs_view, fget, isLB, bget, bset, vsubP_self, ↓reduceIte, reduceCtorEq, Nat.reduceEqDiff, Nat.reduceLT, and_true, true_and, and_self, forall_const, implies_true, Option.some.injEq, Val.int.injEq, exists_eq', or_false, keepF, appF, updB]; rw [wr64 (by omega) (by omega)]; refine ⟨rfl, fun k hk b _ => ?_⟩; rw [rowB_last hk]; exact (vsubP_self _).mpr trivial) fun i hi => ?_
  obtain ⟨hi1, hi2, hi3⟩ := hi
  simp only [lt1, flatO, runO_4, runO_5, runO_6, runO_8, runO_9, runO_14, runO_15, runO_16, runO_17, runO_18, runO_19, aop, binV, reOk, Nat.zero_sub, ev, fget, fput, cellsOf, cellsN, isLB, vget, vset, vsets, vlen, bget, bset, addB, addN, mkv, sliceV, vtab, fillV, fillOk, rowsV, rowsOk, vrep, frz, opOwns, preFz, owns, skipOp, WfT, casts, castOks, cast1, castOk, norm, norms, norm1, normL, pureB, pureL, flatB, onesB, snapV, snapOk, snapL, snapOks, specV, argsL, capsL, mkE_S, lkp, lenV, popTo, stkFr, Val.toInt, Val.toBool, Val.slen, Val.scell, ↓reduceIte, reduceCtorEq, Nat.reduceEqDiff, Nat.reduceAdd, Nat.reduceLeDiff, Nat.reduceLT, Nat.zero_add, Nat.add_zero, Nat.mul_one, Nat.sub_zero, Int.reduceToNat, Int.cast_ofNat_Int, Int.reduceLT, Int.reduceLE, Int.reduceNeg, List.length_cons, List.length_nil, List.append_nil, Bool.and_true, Bool.and_false, Bool.and_self, true_and, and_self, and_assoc, forall_const, imp_self, implies_true, Nat.le_refl, decide_eq_true_eq, decide_eq_false_iff_not, or_true, keepF, appF, updB, Prod.eta, Sp.c0, Sp.c1, Sp.eta, Sr.c0, Sr.c1, Sr.c2, Sr.c3, Sr.w_c, Sr.eta, Tl.c0, Tl.c1, Tl.c2, Tl.c3, Tl.c4, RTl, Tl.w_c, Tl.d, Tl.eta, Ch.c0, Ch.c1, Ch.c2, Ch.eta, Ck.eta]
  refine ⟨fun hz => ?_, fun hz => ?_⟩
  · obtain ⟨m, rfl⟩ : ∃ m : Nat, i = (m : Int) + 1 := ⟨(i - 1).toNat, by omega⟩
    have e1 : IntKind.i64.wrap ((m : Int) + 1 - 1) = (m : Int) := by rw [wr64 (by omega) (by omega)]; omega
    have e2 : ((m : Int) + 1).toNat = m + 1 := by omega
    have r1 : rowB c day l.2 l.1 ((m : Int) + 1) (m + 1) = bwdF c day l.2 l.1 (l.1 - 2 - m) := by
      unfold rowB; rw [if_pos (by omega), show l.1 - 1 - (m + 1) = l.1 - 2 - m from by omega]
    have r2 : rowB c day l.2 l.1 ((m : Int) + 1) m = fwdF c day l.2 m := by unfold rowB; rw [if_neg (by omega)]
    have hok := hg (m + 1) (by omega)
    have b1 := hBb (l.1 - 2 - m) (by omega)
    unfold Bd at b1
    have b2 := later_bd hc hok.2.2.1
    have e3 : bwdF c day l.2 l.1 (l.1 - 1 - m) = cutF (fwdF c day l.2 m) (backF (bwdF c day l.2 l.1 (l.1 - 2 - m)) (laterF c (l.2 (m + 1)))) := by
      rw [show l.1 - 1 - m = l.1 - 2 - m + 1 from by omega]
      simp only [bwdF]
      rw [show l.1 - 2 - (l.1 - 2 - m) = m from by omega, show l.1 - 1 - (l.1 - 2 - m) = m + 1 from by omega]
    have e4 : ∀ L : Nat → Sp, L 0 = ⟨IntKind.i64.wrap ((bwdF c day l.2 l.1 (l.1 - 2 - m)).lo - (laterF c (l.2 (m + 1))).hi), IntKind.i64.wrap ((bwdF c day l.2 l.1 (l.1 - 2 - m)).hi - (laterF c (l.2 (m + 1))).lo)⟩ → comF (fwdF c day l.2 m) (1, L) = bwdF c day l.2 l.1 (l.1 - 1 - m) := fun L hL => by
      rw [wr64 (by omega) (by omega), wr64 (by omega) (by omega)] at hL
      have e5 : cutF (fwdF c day l.2 m) (L 0) = bwdF c day l.2 l.1 (l.1 - 1 - m) := by rw [hL, e3]; rfl
      rw [com_ne _ _ (by rw [e5]; exact (hB _ (by omega)).1), e5]
    simp only [e1, e2, r1, r2, Int.toNat_natCast]
    rw [e4 _ rfl]
    refine ⟨by omega, by omega, hc, hok.2.2.1.1, hok.2.2.1.2, by omega, by omega, by omega, by omega, by omega, by omega, by omega, by omega, inv_intro (m : Int) ⟨by omega, by omega, by omega⟩ (by omega) ?_⟩
    simp only [Chk, chkFr, chkBx, chkBx1, newIn, hasB, idsLt, kept, vs_int, vs_nil, vs_nils, vs_own, vs_ptr, vs_cons, vs_view, Nat.lt_irrefl, fget, isLB, bget, vsubP_self, ↓reduceIte, reduceCtorEq, Nat.reduceEqDiff, Nat.reduceLT, and_true, true_and, and_self, forall_const, implies_true, Option.some.injEq, exists_eq', false_implies, or_false]
    refine fun k hk b hb2 => ?_
    by_cases hkm : k = m
    · subst hkm
      rw [if_pos ⟨rfl, by omega, by omega⟩]
      unfold rowB; rw [if_pos (by omega)]
      obtain rfl | rfl : b = 0 ∨ b = 1 := by omega
      · rfl
      · rfl
    · rw [if_neg (fun h => hkm h.1)]
      have : rowB c day l.2 l.1 (m : Int) k = rowB c day l.2 l.1 ((m : Int) + 1) k := by
        unfold rowB
        by_cases h5 : (m : Int) ≤ k
        · rw [if_pos h5, if_pos (by omega)]
        · rw [if_neg h5, if_neg (by omega)]
      rw [this]; exact (vsubP_self _).mpr trivial
  have hrow : ∀ k, k < l.1 → rowB c day l.2 l.1 i k = bwdF c day l.2 l.1 (l.1 - 1 - k) := fun k h5 => by
    unfold rowB; rw [if_pos (by omega)]
  refine loopJ (ι := Nat) (fun j => j ≤ l.1) (fun j => l.1 - j) [6, 7, 8, 96, 97] (fun j => [(98, .int .i64 j)]) (fun j => [(1, .cells (.cons (.own 9) .nil)), (9, .row 25 2 j fun k b => (minsF (bwdF c day l.2 l.1 (l.1 - 1 - k))).c b)]) 1 0 (by omega) (by simp only [Chk, chkFr, chkBx, chkBx1, newIn, hasB, idsLt, kept, vs_int, vs_nil, vs_own, vs_ptr, vs_cons, vs_view, fget, isLB, bget, bset, vsubP_self, ↓reduceIte, reduceCtorEq, Nat.reduceEqDiff, Nat.reduceAdd, Nat.reduceLT, Int.cast_ofNat_Int, and_true, and_self, forall_const, implies_true, Option.some.injEq, exists_eq', or_true, or_false, keepF, appF, updB]) fun j hj => ?_
  simp only [sMinsP, runO_3, runO_4, runO_5, runO_6, runO_8, runO_9, runO_14, runO_16, runO_17, runO_18, runO_19, aop, binV, ends, reOk, Nat.zero_sub, ev, fget, fput, cellsOf, cellsN, isLB, vget, vset, vsets, vlen, bget, bset, addB, addN, mkv, sliceV, vtab, rowsV, rowsOk, vrep, frz, opOwns, preFz, skipOp, WfT, resV, resL, res1, casts, castOks, cast1, castOk, norm, norms, norm1, normL, pureB, pureL, onesB, snapV, snapOk, specV, argsL, capsL, mkE_S, lkp, subFr, subV, subBx, subStk, elemsV, popTo, stkFr, vp_int, vp_cons, vp_tup, vp_view, vsubP_self, Val.toInt, ↓reduceIte, reduceCtorEq, Nat.reduceEqDiff, Nat.reduceAdd, Nat.reduceSub, Nat.reduceLeDiff, Nat.reduceLT, Nat.zero_add, Nat.add_zero, List.length_cons, List.length_nil, List.append_nil, Bool.and_self, and_true, true_and, and_self, and_assoc, forall_const, imp_self, implies_true, Nat.le_refl, decide_eq_true_eq, decide_eq_false_iff_not, Val.int.injEq, or_false, maxLen, Nat.reducePow, keepF, appF, updB, inat, spec1, Sp.L, Sp.c0, Sp.c1, Sp.Is, Sp.of, TSp, Sp.d, Sp.eta]
  refine ⟨fun hlt => ?_, fun hge => ?_⟩
  · rw [hrow j (by omega)]
    refine ⟨by omega, by omega, ?_, by omega, by omega, inv_intro (j + 1) (by omega) (by omega) ?_⟩
    · have := hBb (l.1 - 1 - j) (by omega)
      unfold Bd at this; unfold SpFit Fit; omega
    · simp only [Chk, chkFr, chkBx, chkBx1, newIn, hasB, idsLt, kept, vs_int, vs_nil, vs_own, vs_ptr, vs_cons, vs_view, Nat.lt_irrefl, fget, isLB, bget, vsubP_self, ↓reduceIte, reduceCtorEq, Nat.reduceEqDiff, Nat.reduceLT, and_true, true_and, and_self, forall_const, implies_true, Option.some.injEq, Val.int.injEq, exists_eq', false_implies, or_false]
      rw [wrS (by omega)]
      refine ⟨rfl, fun k hk b hb => ?_⟩
      split
      · exact (vsubP_self _).mpr trivial
      · obtain rfl : k = j := by omega
        rw [Nat.sub_self]
        obtain rfl | rfl : b = 0 ∨ b = 1 := by omega
        · rfl
        · rfl
  · obtain rfl : j = l.1 := by omega
    rw [nightF_ok h (by omega) hg hj2]
    exact ⟨rfl, fun k _ b _ => (vsubP_self _).mpr trivial, rfl, rfl⟩
end Go.Proofs.YtbhhcnonooiokaaDoor
