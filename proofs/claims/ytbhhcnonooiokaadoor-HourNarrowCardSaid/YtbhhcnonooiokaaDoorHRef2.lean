/- Hours, the reference: tellings, clocks. No condition but bounds. -/
import Derived.Test.YtbhhcnonooiokaaDoorHRef1
set_option linter.unusedSimpArgs false
set_option linter.unusedVariables false
namespace Go.Proofs.YtbhhcnonooiokaaDoor
open Go Go.RowKit
variable {G : Nat → Option (Nat × (Nat → Val))}
theorem spin_of {s : Sp} {lo hi : Int} (h : SpIn s lo hi) : lo ≤ s.lo ∧ s.lo ≤ s.hi ∧ s.hi ≤ hi := h
theorem mul_le (a b A B : Int) (h0 : 0 ≤ a) (h1 : a ≤ A) (h2 : 0 ≤ b) (h3 : b ≤ B) : 0 ≤ a * b ∧ a * b ≤ A * B :=
  ⟨Int.mul_nonneg h0 h2, Int.mul_le_mul h1 h3 h2 (by omega)⟩
def sTellR : Spec := spec3 TCk TI TTl (fun c day t => CkOk c ∧ DayOk day ∧ TlOk c t) fun c day t => .agg (tellF c day t).L
set_option maxRecDepth 100000 in
theorem pTellR : PureOk Tryd.prog G 58 sTellR := by
  refine fn3 (S := []) (I := []) mixed .nil .nil Tryd.func58 c58 fun c day t hp hw => ?_
  obtain ⟨hc, hd, ht⟩ := hp
  simp only [RunTo, a58, runO_3, runO_4, runO_5, runO_6, runO_8, runO_14, runO_17, runO_18, runO_19, aop, binV, ends, reOk, Nat.zero_sub, ev, fget, fput, params, cellsOf, cellsN, isLB, vget, vset, vsets, vlen, bget, bset, addB, addN, mkv, sliceV, vtab, fillV, fillOk, frz, opOwns, preFz, skipOp, WfT, resV, res1, casts, castOks, cast1, castOk, onesB, snapV, snapOk, Fin, vp_int, vp_cons, vp_agg, vsubP_self, Val.toInt, ↓reduceIte, reduceCtorEq, Nat.reduceEqDiff, Nat.reduceAdd, Nat.reduceSub, Nat.reduceLeDiff, Nat.zero_add, Nat.add_zero, Nat.sub_zero, beq_iff_eq, beq_eq_false_iff_ne, List.length_cons, List.length_nil, Bool.and_self, and_true, true_and, and_self, and_assoc, forall_const, Nat.le_refl, Val.int.injEq, ne_eq, maxLen, Nat.reducePow, TInt, Sp.L, Sp.c0, Sp.c1, RSp, Sp.d, Sr.c0, Sr.c1, Sr.c2, Sr.c3, RSr, Sr.d, Tl.L, TTl, Ck.L, TCk]
  have hmrk := fun i (h : i < c.mrk.1) => spin_of (hc.mrk i h)
  have hsr1 := fun i (h : i < c.str.1) => spin_of (hc.sr i h).1
  have hsr2 := fun i (h : i < c.str.1) => spin_of (hc.sr i h).2
  have hh := spin_of hc.hand
  unfold DayOk at hd
  refine ⟨fun h => ?_, fun h => ⟨fun h2 => ?_, fun h2 => ⟨fun h3 => ?_, fun h3 => ?_⟩⟩⟩
  · obtain ⟨_, h4, h5⟩ : t.kind = 1 ∧ 0 ≤ t.which ∧ t.which < c.mrk.1 := by unfold TlOk at ht; omega
    have := hmrk t.which.toNat (by omega)
    have e : tellF c day t = ⟨1000 * (c.mrk.2 t.which.toNat).lo, 1000 * (c.mrk.2 t.which.toNat).hi⟩ := by simp [tellF, h]
    rw [e, wr64 (by omega) (by omega), wr64 (by omega) (by omega)]
    exact ⟨h4, h5, h4, h5, rfl, rfl⟩
  · obtain ⟨_, h4, h5⟩ : t.kind = 2 ∧ 0 ≤ t.which ∧ t.which + 1 < c.mrk.1 := by unfold TlOk at ht; omega
    have h6 := hmrk t.which.toNat (by omega)
    have h7 := hmrk (t.which.toNat + 1) (by omega)
    have e : tellF c day t = ⟨1000 * (c.mrk.2 t.which.toNat).lo, 1000 * (c.mrk.2 (t.which.toNat + 1)).hi⟩ := by simp [tellF, h2]
    have hn := hc.nm
    rw [e, wr64 (e := t.which + 1) (by omega) (by omega), show (t.which + 1).toNat = t.which.toNat + 1 from by omega, wr64 (by omega) (by omega), wr64 (by omega) (by omega)]
    exact ⟨h4, by omega, by omega, by omega, rfl, rfl⟩
  · obtain ⟨_, ⟨h4, h5⟩, h6, h7⟩ : t.kind = 3 ∧ (0 ≤ t.which ∧ t.which < c.str.1) ∧ 0 ≤ t.hands ∧ t.hands ≤ 20 := by unfold TlOk at ht; omega
    have h8 := hsr1 t.which.toNat (by omega)
    have h9 := hsr2 t.which.toNat (by omega)
    intro _
    have m1 := mul_le day (c.str.2 t.which.toNat).shift.hi 100000 10000 (by omega) (by omega) (by omega) (by omega)
    have m2 := mul_le day (c.str.2 t.which.toNat).shift.lo 100000 10000 (by omega) (by omega) (by omega) (by omega)
    have hh2 := spin_of hc.hand
    have m3 := mul_le t.hands c.hand.lo 20 60000 (by omega) (by omega) (by omega) (by omega)
    have m4 := mul_le t.hands c.hand.hi 20 60000 (by omega) (by omega) (by omega) (by omega)
    have e : tellF c day t = ⟨1000 * (c.str.2 t.which.toNat).rise.lo - day * (c.str.2 t.which.toNat).shift.hi + t.hands * c.hand.lo, 1000 * (c.str.2 t.which.toNat).rise.hi - day * (c.str.2 t.which.toNat).shift.lo + t.hands * c.hand.hi⟩ := by simp [tellF, h3]
    rw [e]
    simp (disch := omega) only [wr64]
    exact ⟨h4, h5, trivial, trivial⟩
  · have h4 : SpIn t.word (-100000) 100000 := by
      rcases ht with h0 | h0 | h0 | h0
      · exact absurd h0.1 h
      · exact absurd h0.1 h2
      · exact absurd h0.1 h3
      · exact h0.2
    have := spin_of h4
    have e : tellF c day t = ⟨1000 * t.word.lo, 1000 * t.word.hi⟩ := by simp [tellF, h, h2, h3]
    rw [e, wr64 (by omega) (by omega), wr64 (by omega) (by omega)]
    exact ⟨rfl, rfl⟩
/-- a clock's validity as a Bool -/
noncomputable def ckB (c : Ck) : Bool := @decide (CkOk c) (Classical.propDecidable _)
theorem ckB_true {c : Ck} : ckB c = true ↔ CkOk c := by simp [ckB]
theorem ckB_false {c : Ck} : ckB c = false ↔ ¬ CkOk c := by simp [ckB]
noncomputable def sClockR : Spec := spec1 TCk (fun _ => True) fun c => .bool (ckB c)
set_option maxRecDepth 100000 in
theorem pClockR : PureOk Tryd.prog G 66 sClockR := by
  refine fn1 (S := [(82, sOrdered)]) (I := []) mixed (.cons pOrdered .nil) .nil Tryd.func66 c66 fun c _ hw => ?_
  simp only [RunTo, a66, sOrdered, ↓imp_tt, ↓imp_tf, runO_3, runO_4, runO_5, runO_6, runO_14, runO_15, runO_17, runO_18, runO_19, aop, binV, ends, Nat.zero_sub, ev, fget, fput, params, cellsOf, cellsN, isLB, vget, vlen, bget, addB, addN, mkv, sliceV, vtab, frz, opOwns, preFz, skipOp, WfT, resV, res1, snapV, snapOk, pickV, lenV, Fin, vp_bool, Val.toInt, ↓reduceIte, reduceCtorEq, Nat.reduceEqDiff, Nat.reduceAdd, Nat.reduceSub, Nat.reduceLeDiff, Nat.zero_add, Nat.add_zero, Int.reduceNeg, List.length_cons, List.length_nil, Bool.bne_false, bne_self_eq_false, and_true, true_and, and_self, forall_const, imp_self, implies_true, decide_eq_true_eq, decide_eq_false_iff_not, Val.bool.injEq, maxLen, Nat.reducePow, spec3, TInt, IsInt, Sp.L, Sp.Is, Sp.of, TSp, RSp, Sp.d, RSr, Sr.d, Ck.L, TCk]
  intro _
  refine ⟨fun h1 => ?_, fun h1 _ => ⟨fun h2 => ?_, fun h2 => ?_⟩⟩
  · exact (ckB_false.2 fun h => by have := h.nm; omega).symm
  · exact (ckB_false.2 fun h => by have := h.ns; omega).symm
  refine loopI (ι := Nat) (fun j => j ≤ c.mrk.1 ∧ ∀ i < j, SpIn (c.mrk.2 i) (-100000) 100000 ∧ (0 < i → (c.mrk.2 (i - 1)).lo ≤ (c.mrk.2 i).lo ∧ (c.mrk.2 (i - 1)).hi ≤ (c.mrk.2 i).hi)) (fun j => c.mrk.1 - j) [1] (fun j => [(3, .int .i64 j)]) (fun _ => []) 0 ⟨by omega, fun i h => by omega⟩ (by simp only [Chk, chkFr, chkBx, chkBx1, hasB, idsLt, kept, vs_int, vs_nil, vs_ptr, vs_cons, vs_view, fget, isLB, bget, vsubP_self, ↓reduceIte, Nat.reduceEqDiff, Nat.reduceLT, Int.cast_ofNat_Int, and_self, forall_const, implies_true, Option.some.injEq, exists_eq', keepF, appF, updB]; try rfl) fun j hj => ?_
  obtain ⟨hj1, hj2⟩ := hj
  simp only [↓imp_tt, ↓imp_tf, ↓imp_ft, ↓imp_ff, runO_3, runO_4, runO_5, runO_6, runO_8, runO_9, runO_14, runO_15, runO_16, runO_17, runO_18, runO_19, aop, binV, ends, Nat.zero_sub, ev, fget, fput, isLB, vget, vlen, bget, addB, addN, mkv, sliceV, vtab, frz, opOwns, preFz, callFz, skipOp, WfT, resV, res1, casts, castOks, cast1, castOk, norm, norms, norm1, normL, pureB, pureL, snapV, snapOk, specV, argsL, capsL, mkE_S, lkp, pickV, lenV, popTo, stkFr, Val.toInt, ↓reduceIte, reduceCtorEq, Nat.reduceEqDiff, Nat.reduceAdd, Nat.reduceSub, Nat.reduceLeDiff, Nat.zero_add, Nat.add_zero, Nat.sub_zero, Int.reduceNeg, List.length_cons, List.length_nil, List.append_nil, Bool.not_eq_true', Bool.not_eq_false', Bool.and_self, Bool.bne_true, Bool.bne_false, bne_self_eq_false, Bool.not_false, and_true, true_and, and_self, and_assoc, forall_const, imp_self, implies_true, Nat.le_refl, decide_eq_true_eq, decide_eq_false_iff_not, Val.bool.injEq, maxLen, Nat.reducePow, keepF, appF, updB, inat, Sp.c0, Sp.c1, Sp.eta]
  refine fun hm => ⟨fun hlt _ => ⟨by omega, by omega, fun hs => ?_, fun hs => ⟨fun h0 => ?_, fun h0 => ?_⟩⟩, fun hge => ?_⟩
  · exact (ckB_false.2 fun h => of_decide_eq_false hs (h.mrk j (by omega))).symm
  · have hs := of_decide_eq_true hs
    have hw1 : IntKind.i64.wrap ((j : Int) - 1) = ((j - 1 : Nat) : Int) := by rw [wr64 (by omega) (by omega)]; omega
    simp only [hw1, inat]
    refine ⟨by omega, by omega, by omega, by omega, fun h3 => (ckB_false.2 fun h => ?_).symm, fun h3 => ⟨by omega, by omega, by omega, by omega, fun h4 => (ckB_false.2 fun h => ?_).symm, fun h4 => inv_intro (j + 1) ⟨by omega, fun i hi => ?_⟩ (by omega) ?_⟩⟩
    · have := (h.up j (by omega) (by omega)).1; omega
    · have := (h.up j (by omega) (by omega)).2; omega
    · rcases Nat.lt_or_ge i j with h5 | h5
      · exact hj2 i h5
      · obtain rfl : i = j := by omega
        exact ⟨hs, fun _ => ⟨by omega, by omega⟩⟩
    · simp only [Chk, chkFr, chkBx, chkBx1, hasB, idsLt, kept, vs_int, vs_nil, vs_ptr, vs_cons, vs_view, fget, isLB, bget, vsubP_self, ↓reduceIte, Nat.reduceEqDiff, Nat.reduceLT, and_true, true_and, and_self, forall_const, implies_true, Option.some.injEq, Val.int.injEq, exists_eq']
      rw [wrS (by omega)]
  · have hs := of_decide_eq_true hs
    refine inv_intro (j + 1) ⟨by omega, fun i hi => ?_⟩ (by omega) ?_
    · rcases Nat.lt_or_ge i j with h5 | h5
      · exact hj2 i h5
      · obtain rfl : i = j := by omega
        exact ⟨hs, fun _ => by omega⟩
    · simp only [Chk, chkFr, chkBx, chkBx1, hasB, idsLt, kept, vs_int, vs_nil, vs_ptr, vs_cons, vs_view, fget, isLB, bget, vsubP_self, ↓reduceIte, Nat.reduceEqDiff, Nat.reduceLT, and_true, true_and, and_self, forall_const, implies_true, Option.some.injEq, Val.int.injEq, exists_eq']
      rw [wrS (by omega)]
  obtain rfl : j = c.mrk.1 := by omega
  refine loopI (ι := Nat) (fun j => j ≤ c.str.1 ∧ ∀ i < j, SrOk (c.str.2 i)) (fun j => c.str.1 - j) [1] (fun j => [(4, .int .i64 j)]) (fun _ => []) 0 ⟨by omega, fun i h => by omega⟩ (by simp only [Chk, chkFr, chkBx, chkBx1, hasB, idsLt, kept, vs_int, vs_nil, vs_ptr, vs_cons, vs_view, fget, isLB, bget, vsubP_self, ↓reduceIte, Nat.reduceEqDiff, Nat.reduceLT, Int.cast_ofNat_Int, and_self, forall_const, implies_true, Option.some.injEq, exists_eq', keepF, appF, updB]; try rfl) fun k hk => ?_
  obtain ⟨hk1, hk2⟩ := hk
  simp only [↓imp_tt, ↓imp_tf, runO_3, runO_4, runO_5, runO_6, runO_8, runO_9, runO_14, runO_16, runO_17, runO_18, runO_19, aop, binV, ends, Nat.zero_sub, ev, fget, fput, isLB, vget, vlen, bget, addB, addN, mkv, sliceV, vtab, frz, opOwns, preFz, callFz, skipOp, WfT, resV, res1, casts, castOks, cast1, castOk, norm, norms, norm1, normL, pureB, pureL, snapV, snapOk, specV, argsL, capsL, mkE_S, lkp, pickV, lenV, popTo, stkFr, Val.toInt, ↓reduceIte, reduceCtorEq, Nat.reduceEqDiff, Nat.reduceAdd, Nat.reduceSub, Nat.reduceLeDiff, Nat.zero_add, Nat.add_zero, Nat.sub_zero, Int.reduceNeg, List.length_cons, List.length_nil, List.append_nil, Bool.not_eq_true', Bool.not_eq_false', Bool.and_self, Bool.bne_true, Bool.bne_false, bne_self_eq_false, Bool.not_false, and_true, true_and, and_self, and_assoc, forall_const, imp_self, implies_true, Nat.le_refl, decide_eq_true_eq, decide_eq_false_iff_not, Val.bool.injEq, maxLen, Nat.reducePow, keepF, appF, updB, inat, Sp.eta, Sr.c0, Sr.c1, Sr.c2, Sr.c3]
  refine fun hm => ⟨fun hlt _ => ⟨by omega, by omega, fun hs => (ckB_false.2 fun h => of_decide_eq_false hs (h.sr k (by omega)).1).symm, fun hs _ => ⟨by omega, by omega, fun hs2 => (ckB_false.2 fun h => of_decide_eq_false hs2 (h.sr k (by omega)).2).symm, fun hs2 => inv_intro (k + 1) ⟨by omega, fun i hi => ?_⟩ (by omega) ?_⟩⟩, fun hge => ⟨fun hs => ?_, fun hs => (ckB_false.2 fun h => of_decide_eq_false hs h.hand).symm⟩⟩
  · rcases Nat.lt_or_ge i k with h5 | h5
    · exact hk2 i h5
    · obtain rfl : i = k := by omega
      exact ⟨of_decide_eq_true hs, of_decide_eq_true hs2⟩
  · simp only [Chk, chkFr, chkBx, chkBx1, hasB, idsLt, kept, vs_int, vs_nil, vs_ptr, vs_cons, vs_view, fget, isLB, bget, vsubP_self, ↓reduceIte, Nat.reduceEqDiff, Nat.reduceLT, and_true, true_and, and_self, forall_const, implies_true, Option.some.injEq, Val.int.injEq, exists_eq']
    rw [wrS (by omega)]
  · obtain rfl : k = c.str.1 := by omega
    unfold ckB
    exact decide_eq_decide.2 ⟨fun hq => ⟨by omega, by omega, fun i hi => (hj2 i hi).1, fun i hi => (hj2 i hi).2, hk2, of_decide_eq_true hs, hq⟩, fun h => h.sinks⟩
def errI (b : Bool) (n : Int) : Int := match b with | true => 0 | false => n
noncomputable def sCheckR : Spec := spec1 TCk (fun _ => True) fun c => .int .i64 (if ckB c = true then 0 else 30)
set_option maxRecDepth 100000 in
theorem pCheckR : PureOk Tryd.prog G 22 sCheckR := by
  refine fn1 (S := [(66, sClockR)]) (I := []) mixed (.cons pClockR .nil) .nil Tryd.func22 c22 fun c _ hw => ?_
  simp only [RunTo, a22, sClockR, runO_3, runO_4, runO_5, runO_14, runO_17, runO_18, runO_19, aop, ends, ev, fget, fput, params, cellsOf, cellsN, isLB, vget, vlen, bget, addB, addN, mkv, sliceV, vtab, frz, opOwns, preFz, callFz, skipOp, WfT, resV, res1, norm, norms, norm1, normL, pureB, pureL, snapV, snapOk, specV, argsL, capsL, mkE_S, lkp, Fin, vp_int, Val.toInt, Val.slen, Val.scell, ↓reduceIte, reduceCtorEq, Nat.reduceEqDiff, Nat.reduceAdd, Nat.reduceSub, Nat.zero_add, List.length_cons, List.length_nil, List.append_nil, Bool.not_eq_true', Bool.not_eq_false', Bool.and_self, and_true, true_and, and_self, and_assoc, forall_const, imp_self, implies_true, Nat.le_refl, Val.int.injEq, maxLen, Nat.reducePow, spec1, Prod.eta, Sp.c0, Sp.c1, RSp, Sp.w_c, Sp.d, Sp.eta, Sr.c0, Sr.c1, Sr.c2, Sr.c3, RSr, Sr.w_c, Sr.d, Sr.eta, Ck.L, Ck.Is, Ck.of, TCk, Ck.d, Ck.eta]
  exact fun _ => ⟨fun h => by simp [h], fun h => by simp [h]⟩
/-- the error of a clock and a day -/
noncomputable def askE (c : Ck) (day : Int) : Int := if ckB c = true then (if DayOk day then 0 else 2) else 30
noncomputable def sAskedR : Spec := spec2 TCk TI (fun _ _ => True) fun c day => .int .i64 (askE c day)
set_option maxRecDepth 100000 in
theorem pAskedR : PureOk Tryd.prog G 56 sAskedR := by
  refine fn2 (S := [(66, sClockR), (84, sWithin)]) (I := []) mixed (.cons pClockR (.cons pWithin .nil)) .nil Tryd.func56 c56 fun c day _ hw => ?_
  simp only [RunTo, a56, sClockR, sWithin, runO_3, runO_4, runO_5, runO_14, runO_17, runO_18, runO_19, aop, ends, ev, fget, fput, params, cellsOf, cellsN, isLB, vget, vlen, bget, addB, addN, mkv, sliceV, vtab, frz, opOwns, preFz, callFz, skipOp, WfT, resV, res1, norm, norms, norm1, normL, pureB, pureL, snapV, snapOk, specV, argsL, capsL, mkE_S, lkp, Fin, vp_int, Val.toInt, Val.slen, Val.scell, ↓reduceIte, reduceCtorEq, Nat.reduceEqDiff, Nat.reduceAdd, Nat.reduceSub, Nat.zero_add, List.length_cons, List.length_nil, List.append_nil, Bool.not_eq_true', Bool.not_eq_false', Bool.and_self, and_true, true_and, and_self, and_assoc, forall_const, imp_self, implies_true, Nat.le_refl, decide_eq_true_eq, decide_eq_false_iff_not, Val.int.injEq, maxLen, Nat.reducePow, spec1, spec3, TInt, IsInt, Prod.eta, Sp.c0, Sp.c1, RSp, Sp.w_c, Sp.d, Sp.eta, Sr.c0, Sr.c1, Sr.c2, Sr.c3, RSr, Sr.w_c, Sr.d, Sr.eta, Ck.L, Ck.Is, Ck.of, TCk, Ck.d, Ck.eta]
  unfold askE DayOk
  refine fun _ => ⟨fun h => ?_, fun h => ⟨fun h2 => ?_, fun h2 => ?_⟩⟩ <;> simp [h] <;> omega
theorem askE_0 {c : Ck} {day : Int} (h : askE c day = 0) : CkOk c ∧ DayOk day := by
  unfold askE at h
  split at h
  · rename_i h1
    split at h
    · exact ⟨ckB_true.1 h1, ‹_›⟩
    · omega
  · omega
theorem spfit_tell {c : Ck} {day : Int} {t : Tl} (hc : CkOk c) (hd : DayOk day) (ht : TlOk c t) : SpFit (tellF c day t) ∧ (-10000000000 ≤ (tellF c day t).lo ∧ (tellF c day t).lo ≤ 10000000000) ∧ (-10000000000 ≤ (tellF c day t).hi ∧ (tellF c day t).hi ≤ 10000000000) := by
  have hmrk := fun i (h : i < c.mrk.1) => spin_of (hc.mrk i h)
  have hsr1 := fun i (h : i < c.str.1) => spin_of (hc.sr i h).1
  have hsr2 := fun i (h : i < c.str.1) => spin_of (hc.sr i h).2
  have hh := spin_of hc.hand
  unfold DayOk at hd
  unfold SpFit Fit
  unfold TlOk at ht
  rcases ht with ⟨h, h2, h3⟩ | ⟨h, h2, h3⟩ | ⟨h, ⟨h2, h3⟩, h6, h7⟩ | ⟨h, h2⟩
  · have := hmrk t.which.toNat (by omega)
    simp only [tellF, h, if_true]; omega
  · have := hmrk t.which.toNat (by omega)
    have := hmrk (t.which.toNat + 1) (by omega)
    simp [tellF, h]; omega
  · have h8 := hsr1 t.which.toNat (by omega)
    have h9 := hsr2 t.which.toNat (by omega)
    have m1 := mul_le day (c.str.2 t.which.toNat).shift.hi 100000 10000 (by omega) (by omega) (by omega) (by omega)
    have m2 := mul_le day (c.str.2 t.which.toNat).shift.lo 100000 10000 (by omega) (by omega) (by omega) (by omega)
    have m3 := mul_le t.hands c.hand.lo 20 60000 (by omega) (by omega) (by omega) (by omega)
    have m4 := mul_le t.hands c.hand.hi 20 60000 (by omega) (by omega) (by omega) (by omega)
    simp [tellF, h]; omega
  · have := spin_of h2
    simp [tellF, h]; omega
/-- what Tell answers -/
noncomputable def tellA (c : Ck) (day : Int) (t : Tl) : Sp × Int :=
  if askE c day ≠ 0 then (⟨0, 0⟩, askE c day) else if TlOk c t then (minsF (tellF c day t), 0) else (⟨0, 0⟩, 31)
noncomputable def sTellA : Spec := spec3 TCk TI TTl (fun _ _ _ => True) fun c day t => .tup (.cons (.agg (tellA c day t).1.L) (.cons (.int .i64 (tellA c day t).2) .nil))
set_option maxRecDepth 100000 in
theorem pTellA : PureOk Tryd.prog G 18 sTellA := by
  refine fn3 (S := [(56, sAskedR), (51, sTelling), (58, sTellR), (57, sMinutes)]) (I := []) mixed (.cons pAskedR (.cons pTelling (.cons pTellR (.cons pMinutes .nil)))) .nil Tryd.func18 c18 fun c day t _ hw => ?_
  simp only [RunTo, a18, sAskedR, sTelling, sTellR, sMinutes, runO_3, runO_4, runO_5, runO_14, runO_17, runO_18, runO_19, aop, binV, ends, reOk, Nat.zero_sub, ev, fget, fput, params, cellsOf, cellsN, isLB, vget, vset, vsets, vlen, bget, bset, addB, addN, mkv, sliceV, vtab, fillV, fillOk, frz, opOwns, preFz, callFz, skipOp, WfT, resV, resL, res1, norm, norms, norm1, normL, pureB, pureL, onesB, snapV, snapOk, specV, argsL, capsL, mkE_S, lkp, Fin, vp_int, vp_cons, vp_agg, vp_tup, vsubP_self, Val.toInt, Val.slen, Val.scell, ↓reduceIte, reduceCtorEq, Nat.reduceEqDiff, Nat.reduceAdd, Nat.reduceSub, Nat.zero_add, bne_iff_ne, bne_eq_false_iff_eq, List.length_cons, List.length_nil, List.append_nil, Bool.not_eq_true', Bool.not_eq_false', Bool.and_self, and_true, true_and, and_self, and_assoc, forall_const, imp_self, implies_true, Nat.le_refl, Val.int.injEq, ne_eq, maxLen, Nat.reducePow, spec1, spec2, spec3, TInt, IsInt, Prod.eta, Sp.L, Sp.c0, Sp.c1, Sp.Is, Sp.of, TSp, RSp, Sp.w_c, Sp.d, Sp.eta, Sr.c0, Sr.c1, Sr.c2, Sr.c3, RSr, Sr.w_c, Sr.d, Sr.eta, Tl.L, Tl.Is, Tl.of, TTl, Tl.d, Tl.eta, Ck.L, Ck.Is, Ck.of, TCk, Ck.d, Ck.eta]
  refine fun _ => ⟨fun h => by simp [tellA, h], fun h _ => ⟨fun h2 => by simp [tellA, h, of_decide_eq_false h2], fun h2 _ => ?_⟩⟩
  have h2 := of_decide_eq_true h2
  obtain ⟨h3, h4⟩ := askE_0 h
  exact ⟨h3, h4, h2, (spfit_tell h3 h4 h2).1, by simp [tellA, h, h2]⟩
end Go.Proofs.YtbhhcnonooiokaaDoor
