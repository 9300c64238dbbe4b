/- WeevilWorse: with a longer Reach, a shorter Hatch, or a suspect more, no palm becomes ill later. No condition. -/
import Derived.Test.YtpknbojgkkmonaaWRdy
import Derived.Test.YtpknbojgkkmonaaACodeL11
import Derived.Test.YtpknbojgkkmonaaWIns
set_option linter.unusedSimpArgs false
set_option linter.unusedVariables false
namespace Go.Proofs.Ytpknbojgkkmonaa
open Go Go.RowKit
variable {G : Nat → Option (Nat × (Nat → Val))}
noncomputable def sLawWorse : Spec := spec5 TGv (TSl RSg) (TU .u16) (TU .u16) (TU .u8) (fun _ _ _ _ _ => True) fun _ _ _ _ _ => .bool true
set_option maxHeartbeats 8000000 in
set_option maxRecDepth 100000 in
theorem pLawWorse : PureOk Try.prog G 11 sLawWorse := by
  refine fn5 (S := [(28, sAlive), (29, sReadyW), (22, sSoonest), (14, sTwinW)]) (I := []) mixed (.cons pAlive (.cons pReadyW (.cons pSoonest (.cons pTwinW .nil)))) .nil Try.func11 c11 fun g l more less which _ hw => ?_
  simp only [vl, WfT, Val.toInt, Val.slen, Val.scell, Nat.reduceSub, and_true, true_and, and_self, and_assoc, maxLen, Nat.reducePow, TU_enc, TSl, RInt, RPm, Pm.d, RPl, Pl.d, Gv.L, TGv, RSg, Sg.d] at hw
  obtain ⟨w1, w2, w3, w4⟩ := hw
  by_cases hr : rdyP g l
  case neg =>
    have fr := decP_f hr
    simp (config := { maxSteps := 4000000 }) only [RunTo, a11, sAlive, sReadyW, fr, w1, w2, w3, w4, ↓imp_tt, ↓imp_tf, runO_3, runO_5, runO_14, runO_17, runO_18, runO_19, aop, ends, Nat.zero_sub, ev, fget, fput, params, cellsOf, cellsN, isLB, vget, vlen, bget, addB, addN, mkv, sliceV, vtab, frz, opOwns, preFz, callFz, skipOp, WfT, resV, res1, norm, norms, norm1, normL, pureB, pureL, snapV, snapOk, specV, argsL, capsL, mkE_S, lkp, pickV, Fin, vp_bool, Val.toInt, Val.slen, Val.scell, ↓reduceIte, reduceCtorEq, Nat.reduceEqDiff, Nat.reduceAdd, Nat.reduceSub, Nat.zero_add, List.length_cons, List.length_nil, List.append_nil, Bool.and_self, Bool.bne_false, Bool.not_false, and_true, and_self, and_assoc, forall_const, imp_self, implies_true, Nat.le_refl, maxLen, Nat.reducePow, TU_enc, spec0, spec2, TSl, IsSl, RInt, Prod.eta, Pm.c0, Pm.c1, Pm.c2, Pm.c3, Pm.c4, RPm, Pm.w_c, Pm.d, Pm.eta, Pl.c0, Pl.c1, RPl, Pl.w_c, Pl.d, Pl.eta, Gv.L, Gv.Is, Gv.of, TGv, Gv.d, Gv.eta, Sg.c0, Sg.c1, Sg.c2, Sg.c3, Sg.c4, Sg.c5, RSg, Sg.w_c, Sg.d, Sg.eta, toUI_val]
  have fr := decP_t hr
  obtain ⟨hg, hl⟩ := rdy_ok hr
  have hn24 := hg.pms.n
  by_cases hp0 : (g.palms.1 : Int) = 0
  · have fp : ((g.palms.1 : Int) == 0) = true := beq_iff_eq.2 hp0
    simp (config := { maxSteps := 4000000 }) only [RunTo, a11, sAlive, sReadyW, fr, fp, w1, w2, w3, w4, ↓imp_tt, ↓imp_tf, ↓imp_ft, ↓imp_ff, runO_3, runO_5, runO_14, runO_17, runO_18, runO_19, aop, binV, ends, Nat.zero_sub, ev, fget, fput, params, cellsOf, cellsN, isLB, vget, vlen, bget, addB, addN, mkv, sliceV, vtab, frz, opOwns, preFz, callFz, skipOp, WfT, resV, res1, norm, norms, norm1, normL, pureB, pureL, snapV, snapOk, specV, argsL, capsL, mkE_S, lkp, pickV, lenV, Fin, vp_bool, Val.toInt, Val.slen, Val.scell, ↓reduceIte, reduceCtorEq, Nat.reduceEqDiff, Nat.reduceAdd, Nat.reduceSub, Nat.reduceLeDiff, Nat.zero_add, Nat.add_zero, List.length_cons, List.length_nil, List.append_nil, Bool.and_self, Bool.bne_false, bne_self_eq_false, Bool.not_true, and_true, and_self, and_assoc, forall_const, imp_self, implies_true, Nat.le_refl, maxLen, Nat.reducePow, TU_enc, spec0, spec2, TSl, IsSl, RInt, Prod.eta, Pm.c0, Pm.c1, Pm.c2, Pm.c3, Pm.c4, RPm, Pm.w_c, Pm.d, Pm.eta, Pl.c0, Pl.c1, RPl, Pl.w_c, Pl.d, Pl.eta, Gv.L, Gv.Is, Gv.of, TGv, Gv.d, Gv.eta, Sg.c0, Sg.c1, Sg.c2, Sg.c3, Sg.c4, Sg.c5, RSg, Sg.w_c, Sg.d, Sg.eta, toUI_val]
  have fp : ((g.palms.1 : Int) == 0) = false := beq_eq_false_iff_ne.2 hp0
  by_cases hok : okP g l l.1
  case neg =>
    obtain ⟨q1, q2, q3⟩ := st_no hg hl hok
    simp (config := { maxSteps := 4000000 }) only [RunTo, a11, sAlive, sReadyW, sSoonest, sTwinW,  fr, fp, q1, q2, q3, w1, w2, w3, w4, ↓imp_tt, ↓imp_tf, ↓imp_ft, ↓imp_ff, runO_3, runO_4, runO_5, runO_14, runO_17, runO_18, runO_19, aop, binV, ends, ev, fget, fput, params, cellsOf, cellsN, isLB, vget, vlen, bget, addB, addN, mkv, sliceV, vtab, frz, opOwns, preFz, callFz, skipOp, WfT, resV, res1, norm, norms, norm1, normL, pureB, pureL, snapV, snapOk, specV, argsL, capsL, mkE_S, lkp, pickV, lenV, Fin, vp_bool, Val.toInt, Val.slen, Val.scell, ↓reduceIte, reduceCtorEq, Nat.reduceEqDiff, Nat.reduceAdd, Nat.reduceSub, Nat.reduceLeDiff, Nat.reduceLT, Nat.zero_add, Nat.add_zero, Int.reduceBNe, List.length_cons, List.length_nil, List.append_nil, Bool.and_self, bne_self_eq_false, Bool.not_true, beq_self_eq_true, and_true, and_self, and_assoc, forall_const, imp_self, implies_true, Nat.le_refl, maxLen, Nat.reducePow, TU_enc, spec0, spec1, spec2, TSl, IsSl, RInt, Prod.eta, Pm.c0, Pm.c1, Pm.c2, Pm.c3, Pm.c4, RPm, Pm.w_c, Pm.d, Pm.eta, Pl.c0, Pl.c1, RPl, Pl.w_c, Pl.d, Pl.eta, Gv.L, Gv.Is, Gv.of, TGv, Gv.d, Gv.eta, Sg.c0, Sg.c1, Sg.c2, Sg.c3, Sg.c4, Sg.c5, RSg, Sg.w_c, Sg.d, Sg.eta, toUI_val]
  obtain ⟨q1, q2, q3⟩ := st_ok hg hl hok
  have hgr : ¬ (g.palms.1 > 30 ∨ g.places.1 > 40 ∨ g.sus.1 > 40 ∨ l.1 > 40) := hr.1
  have hre := hg.reach
  have hha := hg.hatch
  have u16 : ∀ a : UI .u16, 0 ≤ a.1 ∧ a.1 ≤ 65535 := fun a => by
    have h1 := a.2
    have e1 : IntKind.min .u16 = 0 := by decide
    have e2 : IntKind.max .u16 = 65535 := by decide
    omega
  have w8 : 0 ≤ which.1 ∧ which.1 ≤ 255 := by
    have h1 := which.2
    have e1 : IntKind.min .u8 = 0 := by decide
    have e2 : IntKind.max .u8 = 255 := by decide
    omega
  have b1 := u16 more
  have b2 := u16 less
  have e0 : IntKind.i64.wrap which.1 = which.1 := wr64 (by omega) (by omega)
  have e1 : IntKind.i64.wrap more.1 = more.1 := wr64 (by omega) (by omega)
  have e2 : IntKind.i64.wrap less.1 = less.1 := wr64 (by omega) (by omega)
  have e3 : IntKind.i64.wrap (10000 - g.reach) = 10000 - g.reach := wr64 (by omega) (by omega)
  have e4 : IntKind.i64.wrap (10000 - g.reach + 1) = 10000 - g.reach + 1 := wr64 (by omega) (by omega)
  obtain ⟨r1, hr1⟩ : ∃ r, more.1.tmod (10000 - g.reach + 1) = r := ⟨_, rfl⟩
  obtain ⟨r2, hr2⟩ : ∃ r, less.1.tmod g.hatch = r := ⟨_, rfl⟩
  have c1 : 0 ≤ r1 ∧ r1 < 10000 - g.reach + 1 := by
    rw [← hr1]; exact ⟨Int.tmod_nonneg _ b1.1, Int.tmod_lt_of_pos _ (by omega)⟩
  have c2 : 0 ≤ r2 ∧ r2 < g.hatch := by
    rw [← hr2]; exact ⟨Int.tmod_nonneg _ b2.1, Int.tmod_lt_of_pos _ (by omega)⟩
  have e5 : IntKind.i64.wrap (g.reach + r1) = g.reach + r1 := wr64 (by omega) (by omega)
  have e6 : IntKind.i64.wrap (g.hatch - r2) = g.hatch - r2 := wr64 (by omega) (by omega)
  obtain ⟨i, ei, hi⟩ : ∃ i : Nat, which.1.tmod (g.palms.1 : Int) = i ∧ i < g.palms.1 := by
    have h3 := Int.tmod_nonneg (g.palms.1 : Int) w8.1
    have h4 := Int.tmod_lt_of_pos which.1 (show (0 : Int) < g.palms.1 by omega)
    exact ⟨(which.1.tmod g.palms.1).toNat, by omega, by omega⟩
  have key : ∀ x : Gv, GvOk x → Worse g x → stE x l = 0 ∧ (∃ D : Nat → Int, stD x l = .view 1 g.palms.1 (fun i _ => .int .i64 (D i)) ∧ ∀ i, i < g.palms.1 → D i ≤ dyF g l l.1 i) := fun x hx w => by
    obtain ⟨h1, h2⟩ := w.days hg hx hl.2 hok
    obtain ⟨t1, _, t3⟩ := st_ok hx ⟨hl.1, fun j hj => w.sg (hl.2 j hj)⟩ h1
    rw [w.palms] at t3
    exact ⟨t1, _, t3, h2⟩
  have wf : Worse g ⟨g.palms, g.places, g.reach + r1, g.hatch, g.shows, g.start, g.sus⟩ := ⟨rfl, rfl, by show g.reach ≤ g.reach + r1; omega, Int.le_refl _, rfl, rfl, fun _ h => h⟩
  have wh : Worse g ⟨g.palms, g.places, g.reach, g.hatch - r2, g.shows, g.start, g.sus⟩ := ⟨rfl, rfl, Int.le_refl _, by show g.hatch - r2 ≤ g.hatch; omega, rfl, rfl, fun _ h => h⟩
  have of : GvOk ⟨g.palms, g.places, g.reach + r1, g.hatch, g.shows, g.start, g.sus⟩ := ⟨hg.pms, hg.n, by show 0 ≤ g.reach + r1 ∧ g.reach + r1 ≤ 10000; omega, hg.hatch, hg.shows, hg.start, hg.pl, hg.sus⟩
  have oh : GvOk ⟨g.palms, g.places, g.reach, g.hatch - r2, g.shows, g.start, g.sus⟩ := ⟨hg.pms, hg.n, hg.reach, by show 1 ≤ g.hatch - r2 ∧ g.hatch - r2 ≤ 1000; omega, hg.shows, hg.start, hg.pl, hg.sus⟩
  have hsup : ∀ a b, a < b → b < g.sus.1 → g.sus.2 a < g.sus.2 b := by
    intro a b hab
    induction b with
    | zero => omega
    | succ b ih =>
      intro hb
      have h1 := (hg.sus (b + 1) hb).2.2 (by omega)
      rw [Nat.add_sub_cancel] at h1
      rcases Nat.lt_or_ge a b with h2 | h2
      · have := ih h2 (by omega); omega
      · obtain rfl : a = b := by omega
        exact h1
  obtain ⟨D, hD⟩ : ∃ D, dyF g l l.1 = D := ⟨_, rfl⟩
  rw [hD] at q3 key
  obtain ⟨kf1, F, kf2, kf3⟩ := key _ of wf
  obtain ⟨kh1, H, kh2, kh3⟩ := key _ oh wh
  by_cases hpl : (g.palms.2 i).planted ≤ g.start
  · have f1 := eq_true hpl
    simp (config := { maxSteps := 4000000 }) only [RunTo, a11, sAlive, sReadyW, sSoonest, sTwinW,  fr, fp, f1, q1, q2, q3, e0, e1, e2, e3, e4, e5, e6, hr1, hr2, ei, w1, w2, w3, w4, ↓imp_tt, ↓imp_tf, ↓imp_ft, ↓imp_ff, runO_4, runO_5, runO_6, runO_14, runO_15, runO_17, runO_18, runO_19, aop, binV, reOk, Nat.zero_sub, ev, fget, fput, params, cellsOf, cellsN, isLB, vget, vset, vsets, vlen, bget, bset, addB, addN, mkv, sliceV, vtab, frz, opOwns, preFz, callFz, skipOp, WfT, casts, castOks, cast1, castOk, norm, norms, norm1, normL, pureB, pureL, onesB, specV, argsL, capsL, mkE_S, lkp, pickV, lenV, Fin, vp_bool, Val.toInt, Val.slen, Val.scell, ↓reduceIte, reduceCtorEq, Nat.reduceEqDiff, Nat.reduceAdd, Nat.reduceSub, Nat.reduceLeDiff, Nat.reduceLT, Nat.zero_add, Nat.add_zero, decide_true, List.length_cons, List.length_nil, List.append_nil, Bool.and_self, bne_self_eq_false, Bool.not_true, and_true, true_and, and_self, and_assoc, forall_const, imp_self, implies_true, Nat.le_refl, ne_eq, maxLen, Nat.reducePow, inat, TU_enc, spec0, spec1, spec2, TSl, IsSl, RInt, Prod.eta, Pm.c0, Pm.c1, Pm.c2, Pm.c3, Pm.c4, RPm, Pm.w_c, Pm.d, Pm.eta, Pl.c0, Pl.c1, RPl, Pl.w_c, Pl.d, Pl.eta, Gv.L, Gv.Is, Gv.of, TGv, Gv.d, Gv.eta, Sg.c0, Sg.c1, Sg.c2, Sg.c3, Sg.c4, Sg.c5, RSg, Sg.w_c, Sg.d, Sg.eta, toUI_val]
    repeat' (first | omega | (with_reducible apply And.intro) | intro _)
    obtain ⟨q, hq⟩ : ∃ q, (g.palms.2 i).id = q := ⟨_, rfl⟩
    rw [hq]
    have hIO := fun j (hj : j ≤ g.sus.1) => ins_ok (p := q) hsup j hj
    have hIA := insE_ok (p := q) hsup
    have hI0 : insF g.sus.2 q 0 = ((0, fun _ => 0), false) := rfl
    have hIS : ∀ j, insF g.sus.2 q (j + 1) = ins2 (ins1 (insF g.sus.2 q j) q (g.sus.2 j)) q (g.sus.2 j) := fun j => rfl
    obtain ⟨e, he⟩ : ∃ e, insE g.sus.2 q g.sus.1 = e := ⟨_, rfl⟩
    have he' := he
    unfold insE at he'
    rw [he] at hIA
    obtain ⟨A, hA⟩ : ∃ A, insF g.sus.2 q = A := ⟨_, rfl⟩
    simp only [hA] at hIO hI0 hIS he'
    clear he hA
    have om : GvOk ⟨g.palms, g.places, g.reach, g.hatch, g.shows, g.start, e⟩ := by
      refine ⟨hg.pms, hg.n, hg.reach, hg.hatch, hg.shows, hg.start, hg.pl, fun k hk => ?_⟩
      show hitN g.palms (e.2 k) < g.palms.1 ∧ (g.palms.2 (hitN g.palms (e.2 k))).planted ≤ g.start ∧ (0 < k → e.2 (k - 1) < e.2 k)
      refine ⟨?_, ?_, fun h0 => ?_⟩
      · rcases hIA.mem k hk with ⟨z, h1, h2⟩ | h2
        · rw [h2]; exact (hg.sus z h1).1
        · rw [h2, ← hq, hg.pms.hit hi]; exact hi
      · rcases hIA.mem k hk with ⟨z, h1, h2⟩ | h2
        · rw [h2]; exact (hg.sus z h1).2.1
        · rw [h2, ← hq, hg.pms.hit hi]; exact hpl
      · have hk : k < e.1 := hk
        have := hIA.up (k - 1) (by omega)
        rw [Nat.sub_add_cancel h0] at this
        exact this
    have wm : Worse g ⟨g.palms, g.places, g.reach, g.hatch, g.shows, g.start, e⟩ := ⟨rfl, rfl, Int.le_refl _, Int.le_refl _, rfl, rfl, fun id h => by
      obtain ⟨z, h1, h2⟩ := h
      obtain ⟨k, h3, h4⟩ := hIA.all z h1
      exact ⟨k, h3, by show e.2 k = id; omega⟩⟩
    obtain ⟨km1, M, km2, km3⟩ := key _ om wm
    obtain ⟨R, hRR⟩ : ∃ R : Nat → Gv, R = fun k => if k = 0 then ⟨g.palms, g.places, g.reach + r1, g.hatch, g.shows, g.start, g.sus⟩ else if k = 1 then ⟨g.palms, g.places, g.reach, g.hatch - r2, g.shows, g.start, g.sus⟩ else ⟨g.palms, g.places, g.reach, g.hatch, g.shows, g.start, e⟩ := ⟨_, rfl⟩
    have hR : ∀ j, j < 3 → stE (R j) l = 0 ∧ ∃ E : Nat → Int, stD (R j) l = .view 1 g.palms.1 (fun i _ => .int .i64 (E i)) ∧ ∀ i, i < g.palms.1 → E i ≤ D i := fun j hj => by
      rw [hRR]
      rcases (by omega : j = 0 ∨ j = 1 ∨ j = 2) with rfl | rfl | rfl
      · exact ⟨kf1, F, kf2, kf3⟩
      · exact ⟨kh1, H, kh2, kh3⟩
      · exact ⟨km1, M, km2, km3⟩
    refine loopJ (ι := Nat) (fun j => j ≤ g.sus.1) (fun j => g.sus.1 - j) [1, 5, 11, 12, 15, 16, 17, 18, 101, 102] (fun j => [(19, .own 5), (20, .bool (A j).2), (103, .int .i64 j)]) (fun j => [(5, .row 3 1 (A j).1.1 fun a _ => .int .i64 ((A j).1.2 a))]) 1 0 (by omega) (by simp only [hI0, Chk, chkFr, chkBx, chkBx1, newIn, hasB, idsLt, kept, vs_int, vs_bool, vs_nil, vs_own, vs_ptr, vs_cons, vs_view, fget, isLB, bget, bset, vsubP_self, ↓reduceIte, reduceCtorEq, Nat.reduceEqDiff, Nat.reduceAdd, Nat.reduceLT, Int.cast_ofNat_Int, and_true, and_self, forall_const, implies_true, Option.some.injEq, exists_eq', or_true, keepF, appF, updB]) fun j hj => ?_
    have hio := hIO j hj
    by_cases hjl : j < g.sus.1
    · have fj : ((j : Int) < (g.sus.1 : Int)) = True := eq_true (by omega)
      have hst := hIS j
      obtain ⟨⟨⟨m, f⟩, put⟩, hAj⟩ : ∃ a, A j = a := ⟨_, rfl⟩
      rw [hAj] at hst hio
      have hlen := hio.len
      simp only at hlen
      cases put with
      | true =>
        by_cases hx : g.sus.2 j = q
        · have en : A (j + 1) = ((m, f), true) := by rw [hst]; unfold ins1; rw [if_neg (by simp)]; unfold ins2; rw [if_pos hx]
          simp (config := { maxSteps := 4000000 }) only [fj, hAj, hx, ↓imp_tt, ↓imp_tf, ↓imp_ft, ↓imp_ff, runO_4, runO_5, runO_6, runO_8, runO_14, runO_16, runO_17, runO_18, runO_19, aop, binV, Nat.zero_sub, ev, fget, fput, vget, vlen, bget, bset, addB, addN, mkv, sliceV, vtab, frz, opOwns, preFz, skipOp, WfT, casts, castOks, cast1, castOk, pickV, stkFr, Val.toInt, ↓reduceIte, reduceCtorEq, Nat.reduceEqDiff, Nat.reduceAdd, Nat.reduceLeDiff, Nat.zero_add, Nat.add_zero, decide_true, List.length_cons, List.length_nil, Bool.bne_true, bne_self_eq_false, Bool.not_true, Bool.not_false, and_true, true_and, and_self, forall_const, imp_self, implies_true, Nat.le_refl, keepF, appF, updB, inat]
          repeat' (first | omega | (with_reducible apply And.intro) | intro _)
          refine inv_intro (j + 1) (by omega) (by omega) ?_
          simp only [en, Chk, chkFr, chkBx, chkBx1, newIn, hasB, idsLt, kept, vs_int, vs_bool, vs_nil, vs_own, vs_ptr, vs_cons, vs_view, Nat.lt_irrefl, fget, isLB, bget, vsubP_self, ↓reduceIte, reduceCtorEq, Nat.reduceEqDiff, Nat.reduceLT, and_true, true_and, and_self, forall_const, implies_true, Option.some.injEq, Val.int.injEq, exists_eq', or_false]
          rw [wrS (by omega)]
        · have en : A (j + 1) = (snI (m, f) (g.sus.2 j), true) := by rw [hst]; unfold ins1; rw [if_neg (by simp)]; unfold ins2; rw [if_neg hx]
          simp (config := { maxSteps := 4000000 }) only [fj, hAj, hx, ↓imp_tt, ↓imp_tf, ↓imp_ft, ↓imp_ff, runO_4, runO_5, runO_6, runO_8, runO_14, runO_16, runO_17, runO_18, runO_19, aop, binV, reOk, Nat.zero_sub, ev, fget, fput, cellsOf, cellsN, isLB, vget, vset, vlen, bget, bset, addB, addN, mkv, sliceV, vtab, rowsV, rowsOk, vrep, frz, opOwns, preFz, owns, skipOp, WfT, casts, castOks, cast1, castOk, pureB, onesB, mkE_G, pickV, subFr, subV, subBx, subStk, elemsV, stkFr, Val.toInt, ↓reduceIte, reduceCtorEq, Nat.reduceEqDiff, Nat.reduceAdd, Nat.reduceSub, Nat.reduceLeDiff, Nat.reduceLT, Nat.zero_add, Nat.add_zero, decide_true, bne_iff_ne, bne_eq_false_iff_eq, List.length_cons, List.length_nil, List.append_nil, List.flatMap_cons, List.flatMap_nil, Bool.and_self, Bool.bne_true, Bool.not_true, Bool.not_false, and_true, true_and, and_self, forall_const, imp_self, implies_true, Nat.le_refl, ne_eq, not_false_eq_true, false_implies, or_false, not_false_eq_true, maxLen, Nat.reducePow, keepF, appF, updB, inat]
          repeat' (first | omega | (with_reducible apply And.intro) | intro _)
          refine inv_intro (j + 1) (by omega) (by omega) ?_
          simp only [en, snI, Chk, chkFr, chkBx, chkBx1, newIn, hasB, idsLt, kept, vs_int, vs_bool, vs_nil, vs_own, vs_ptr, vs_cons, vs_view, Nat.lt_irrefl, fget, isLB, bget, vp_int, vsubP_self, ↓reduceIte, reduceCtorEq, Nat.reduceEqDiff, Nat.reduceLT, and_true, true_and, and_self, forall_const, implies_true, Option.some.injEq, Val.int.injEq, exists_eq', false_implies, or_false]
          rw [wrS (by omega)]
          first
            | refine ⟨rfl, rfl, fun a ha b hb => ?_⟩
            | refine ⟨rfl, fun a ha b hb => ?_⟩
            | refine fun a ha b hb => ?_
          obtain rfl : b = 0 := by omega
          by_cases h5 : a < m
          · rw [if_pos h5, if_pos h5]
          · obtain rfl : a = m := by omega
            rw [if_neg h5, if_neg h5, Nat.sub_self]; rfl
      | false =>
        by_cases hge : g.sus.2 j ≥ q
        · have fg := eq_true hge
          by_cases hx : g.sus.2 j = q
          · have en : A (j + 1) = (snI (m, f) q, true) := by rw [hst]; unfold ins1; rw [if_pos ⟨rfl, hge⟩]; unfold ins2; rw [if_pos hx]
            simp (config := { maxSteps := 4000000 }) only [fj, hAj, hx, ge_iff_le, Int.le_refl, ↓imp_tt, ↓imp_tf, ↓imp_ft, ↓imp_ff, runO_4, runO_5, runO_6, runO_8, runO_14, runO_16, runO_17, runO_18, runO_19, aop, binV, reOk, Nat.zero_sub, ev, fget, fput, cellsOf, cellsN, isLB, vget, vset, vlen, bget, bset, addB, addN, mkv, sliceV, vtab, rowsV, rowsOk, vrep, frz, opOwns, preFz, owns, skipOp, WfT, casts, castOks, cast1, castOk, pureB, onesB, mkE_G, pickV, subFr, subV, subBx, subStk, elemsV, stkFr, Val.toInt, ↓reduceIte, reduceCtorEq, Nat.reduceEqDiff, Nat.reduceAdd, Nat.reduceSub, Nat.reduceLeDiff, Nat.reduceLT, Nat.zero_add, Nat.add_zero, decide_true, List.length_cons, List.length_nil, List.append_nil, List.flatMap_cons, List.flatMap_nil, Bool.and_self, bne_self_eq_false, Bool.not_false, and_true, true_and, and_self, forall_const, imp_self, implies_true, Nat.le_refl, or_false, maxLen, Nat.reducePow, keepF, appF, updB, inat]
            repeat' (first | omega | (with_reducible apply And.intro) | intro _)
            refine inv_intro (j + 1) (by omega) (by omega) ?_
            simp only [en, snI, Chk, chkFr, chkBx, chkBx1, newIn, hasB, idsLt, kept, vs_int, vs_bool, vs_nil, vs_own, vs_ptr, vs_cons, vs_view, Nat.lt_irrefl, fget, isLB, bget, vp_int, vsubP_self, ↓reduceIte, reduceCtorEq, Nat.reduceEqDiff, Nat.reduceLT, and_true, true_and, and_self, forall_const, implies_true, Option.some.injEq, Val.int.injEq, exists_eq', false_implies, or_false]
            rw [wrS (by omega)]
            first
              | refine ⟨rfl, rfl, fun a ha b hb => ?_⟩
              | refine ⟨rfl, fun a ha b hb => ?_⟩
              | refine fun a ha b hb => ?_
            obtain rfl : b = 0 := by omega
            by_cases h5 : a < m
            · rw [if_pos h5, if_pos h5]
            · obtain rfl : a = m := by omega
              rw [if_neg h5, if_neg h5, Nat.sub_self]; rfl
          · have en : A (j + 1) = (snI (snI (m, f) q) (g.sus.2 j), true) := by rw [hst]; unfold ins1; rw [if_pos ⟨rfl, hge⟩]; unfold ins2; rw [if_neg hx]
            simp (config := { maxSteps := 4000000 }) only [fj, hAj, hx, fg, ↓imp_tt, ↓imp_tf, runO_4, runO_5, runO_6, runO_8, runO_14, runO_16, runO_17, runO_18, runO_19, aop, binV, reOk, Nat.zero_sub, ev, fget, fput, cellsOf, cellsN, isLB, vget, vset, vlen, bget, bset, addB, addN, mkv, sliceV, vtab, rowsV, rowsOk, vrep, frz, opOwns, preFz, owns, skipOp, WfT, casts, castOks, cast1, castOk, pureB, onesB, mkE_G, pickV, subFr, subV, subBx, subStk, elemsV, stkFr, Val.toInt, ↓reduceIte, reduceCtorEq, Nat.reduceEqDiff, Nat.reduceAdd, Nat.reduceSub, Nat.reduceLeDiff, Nat.reduceLT, Nat.zero_add, Nat.add_zero, decide_true, bne_iff_ne, bne_eq_false_iff_eq, List.length_cons, List.length_nil, List.append_nil, List.flatMap_cons, List.flatMap_nil, Bool.and_self, bne_self_eq_false, Bool.not_false, and_true, true_and, and_self, forall_const, imp_self, implies_true, Nat.le_refl, ne_eq, not_false_eq_true, false_implies, or_false, not_false_eq_true, maxLen, Nat.reducePow, keepF, appF, updB, inat]
            repeat' (first | omega | (with_reducible apply And.intro) | intro _)
            refine inv_intro (j + 1) (by omega) (by omega) ?_
            simp only [en, snI, Chk, chkFr, chkBx, chkBx1, newIn, hasB, idsLt, kept, vs_int, vs_bool, vs_nil, vs_own, vs_ptr, vs_cons, vs_view, Nat.lt_irrefl, fget, isLB, bget, vp_int, vsubP_self, ↓reduceIte, reduceCtorEq, Nat.reduceEqDiff, Nat.reduceLT, and_true, true_and, and_self, forall_const, implies_true, Option.some.injEq, Val.int.injEq, exists_eq', false_implies, or_false]
            rw [wrS (by omega)]
            first
              | refine ⟨rfl, rfl, fun a ha b hb => ?_⟩
              | refine ⟨rfl, fun a ha b hb => ?_⟩
              | refine fun a ha b hb => ?_
            obtain rfl : b = 0 := by omega
            by_cases h5 : a < m
            · rw [if_pos (by omega : a < m + 1), if_pos (by omega : a < m + 1), if_pos h5, if_pos h5]
            · by_cases h6 : a = m
              · subst h6
                rw [if_pos (Nat.lt_succ_self a), if_pos (Nat.lt_succ_self a), if_neg h5, if_neg h5, Nat.sub_self]; rfl
              · obtain rfl : a = m + 1 := by omega
                rw [if_neg (by omega), if_neg (by omega), Nat.sub_self]; rfl
        · have fg := eq_false hge
          have hx : ¬ g.sus.2 j = q := by omega
          have en : A (j + 1) = (snI (m, f) (g.sus.2 j), false) := by rw [hst]; unfold ins1; rw [if_neg fun h => hge h.2]; unfold ins2; rw [if_neg hx]
          simp (config := { maxSteps := 4000000 }) only [fj, hAj, hx, fg, ↓imp_tt, ↓imp_tf, ↓imp_ft, ↓imp_ff, runO_4, runO_5, runO_6, runO_8, runO_14, runO_16, runO_17, runO_18, runO_19, aop, binV, reOk, Nat.zero_sub, ev, fget, fput, cellsOf, cellsN, isLB, vget, vset, vlen, bget, bset, addB, addN, mkv, sliceV, vtab, rowsV, rowsOk, vrep, frz, opOwns, preFz, owns, skipOp, WfT, casts, castOks, cast1, castOk, pureB, onesB, mkE_G, pickV, subFr, subV, subBx, subStk, elemsV, stkFr, Val.toInt, ↓reduceIte, reduceCtorEq, Nat.reduceEqDiff, Nat.reduceAdd, Nat.reduceSub, Nat.reduceLeDiff, Nat.reduceLT, Nat.zero_add, Nat.add_zero, decide_true, decide_false, bne_iff_ne, bne_eq_false_iff_eq, List.length_cons, List.length_nil, List.append_nil, List.flatMap_cons, List.flatMap_nil, Bool.and_self, bne_self_eq_false, Bool.not_false, and_true, true_and, and_self, forall_const, imp_self, implies_true, Nat.le_refl, ne_eq, not_false_eq_true, false_implies, or_false, not_false_eq_true, maxLen, Nat.reducePow, keepF, appF, updB, inat]
          repeat' (first | omega | (with_reducible apply And.intro) | intro _)
          refine inv_intro (j + 1) (by omega) (by omega) ?_
          simp only [en, snI, Chk, chkFr, chkBx, chkBx1, newIn, hasB, idsLt, kept, vs_int, vs_bool, vs_nil, vs_own, vs_ptr, vs_cons, vs_view, Nat.lt_irrefl, fget, isLB, bget, vp_int, vsubP_self, ↓reduceIte, reduceCtorEq, Nat.reduceEqDiff, Nat.reduceLT, and_true, true_and, and_self, forall_const, implies_true, Option.some.injEq, Val.int.injEq, exists_eq', false_implies, or_false]
          rw [wrS (by omega)]
          first
            | refine ⟨rfl, rfl, fun a ha b hb => ?_⟩
            | refine ⟨rfl, fun a ha b hb => ?_⟩
            | refine fun a ha b hb => ?_
          obtain rfl : b = 0 := by omega
          by_cases h5 : a < m
          · rw [if_pos h5, if_pos h5]
          · obtain rfl : a = m := by omega
            rw [if_neg h5, if_neg h5, Nat.sub_self]; rfl
    have fj : ((j : Int) < (g.sus.1 : Int)) = False := eq_false (by omega)
    obtain rfl : j = g.sus.1 := by omega
    obtain ⟨⟨⟨m, f⟩, put⟩, hAj⟩ : ∃ a, A g.sus.1 = a := ⟨_, rfl⟩
    rw [hAj] at he' hio
    have hlen := hio.len
    simp only at hlen
    cases put with
    | true =>
      rw [if_pos rfl] at he'
      simp (config := { maxSteps := 4000000 }) only [fj, hAj, w1, w2, w3, ↓imp_ft, ↓imp_ff, runO_4, runO_5, runO_6, runO_9, runO_14, runO_15, runO_17, runO_18, runO_19, aop, binV, reOk, Nat.zero_sub, ev, fget, fput, cellsOf, cellsN, isLB, vget, vset, vsets, vlen, bget, bset, bdel, addB, addN, mkv, sliceV, vtab, rowsV, rowsOk, vrep, frz, opOwns, preFz, owns, skipOp, WfT, pureB, onesB, mkE_G, lenV, subFr, subV, subBx, subStk, popTo, stkFr, ↓reduceIte, reduceCtorEq, Nat.reduceEqDiff, Nat.reduceAdd, Nat.reduceSub, Nat.reduceLT, Nat.zero_add, Int.cast_ofNat_Int, decide_false, List.length_cons, List.length_nil, List.nil_append, List.append_nil, List.flatMap_cons, List.flatMap_nil, Bool.and_self, Bool.not_true, true_and, and_self, forall_const, imp_self, implies_true, Nat.le_refl, maxLen, Nat.reducePow, keepF, appF, updB]
      repeat' (first | omega | (with_reducible apply And.intro) | intro _)
      refine loopI (ι := Nat) (fun j => j ≤ 3) (fun j => 3 - j) [1, 5, 11, 12, 141, 142] (fun j => [(143, .int .i64 j)]) (fun _ => [(6, .row 26 7 3 fun a b => (R a).c b)]) 0 (by omega) ?_ fun j hj => ?_
      · simp only [Chk, chkFr, chkBx, chkBx1, newIn, hasB, idsLt, kept, vs_int, vs_bool, vs_nil, vs_own, vs_ptr, vs_cons, vs_view, fget, isLB, bget, bset, vsubP_self, ↓reduceIte, reduceCtorEq, Nat.reduceEqDiff, Nat.reduceLT, Int.cast_ofNat_Int, and_true, true_and, and_self, forall_const, implies_true, Option.some.injEq, exists_eq', or_false, keepF, appF, updB]
        first
          | refine ⟨rfl, fun a ha b hb => ?_⟩
          | refine fun a ha b hb => ?_
        rcases (by omega : a = 0 ∨ a = 1 ∨ a = 2) with rfl | rfl | rfl <;> rcases (by omega : b = 0 ∨ b = 1 ∨ b = 2 ∨ b = 3 ∨ b = 4 ∨ b = 5 ∨ b = 6) with rfl | rfl | rfl | rfl | rfl | rfl | rfl
        all_goals first
          | exact (vsubP_self _).mpr trivial
          | (rw [hRR, ← he']; simp only [vget, Gv.c, vget, vsubP_self, Val.toInt, ↓reduceIte, reduceCtorEq, Nat.reduceEqDiff, RInt, RPm, Pm.d, RPl, Pl.d])
      · by_cases hjl : j < 3
        case neg =>
          have fj : ((j : Int) < 3) = False := eq_false (by omega)
          simp (config := { maxSteps := 4000000 }) only [fj, ↓imp_ft, ↓imp_ff, runO_3, runO_5, runO_9, runO_14, runO_17, runO_18, runO_19, aop, binV, ends, ev, fget, fput, bset, addB, addN, frz, opOwns, preFz, skipOp, WfT, resV, res1, snapV, snapOk, popTo, stkFr, ↓reduceIte, reduceCtorEq, Nat.reduceEqDiff, decide_false, and_self, forall_const, imp_self, implies_true, keepF, appF, updB]
        have fj : ((j : Int) < 3) = True := eq_true (by omega)
        obtain ⟨k1, E, k2, k3⟩ := hR j hjl
        simp (config := { maxSteps := 4000000 }) only [fj, k1, k2, w1, w4, ↓imp_tt, ↓imp_tf, ↓imp_ft, ↓imp_ff, runO_4, runO_5, runO_6, runO_14, runO_15, runO_17, runO_18, runO_19, aop, binV, reOk, Nat.zero_sub, ev, fget, fput, cellsOf, cellsN, isLB, vget, vset, vsets, vlen, bget, bset, addB, addN, mkv, sliceV, vtab, frz, opOwns, preFz, callFz, skipOp, WfT, casts, castOks, cast1, castOk, norm, norms, norm1, normL, pureB, pureL, onesB, specV, argsL, capsL, mkE_S, lkp, pickV, lenV, stkFr, Val.toInt, Val.slen, Val.scell, ↓reduceIte, reduceCtorEq, Nat.reduceEqDiff, Nat.reduceAdd, Nat.reduceSub, Nat.reduceLeDiff, Nat.reduceLT, Nat.zero_add, Nat.add_zero, Int.cast_ofNat_Int, decide_true, List.length_cons, List.length_nil, List.append_nil, Bool.and_self, bne_self_eq_false, and_true, true_and, and_self, forall_const, imp_self, implies_true, Nat.le_refl, or_true, maxLen, Nat.reducePow, keepF, appF, updB, inat, RInt, Prod.eta, Pm.c0, Pm.c1, Pm.c2, Pm.c3, Pm.c4, RPm, Pm.w_c, Pm.d, Pm.eta, Pl.c0, Pl.c1, RPl, Pl.w_c, Pl.d, Pl.eta, Gv.c0, Gv.c1, Gv.c2, Gv.c3, Gv.c4, Gv.c5, Gv.c6, Gv.eta, Sg.c0, Sg.c1, Sg.c2, Sg.c3, Sg.c4, Sg.c5, Sg.w_c, Sg.eta, toUI_val]
        repeat' (first | omega | (with_reducible apply And.intro) | intro _)
        refine loopI (ι := Nat) (fun z => z ≤ g.palms.1) (fun z => g.palms.1 - z) [1, 5, 11, 12, 25, 141, 142, 143, 172] (fun z => [(173, .int .i64 z)]) (fun _ => []) 0 (by omega) (by simp only [Chk, chkFr, chkBx, chkBx1, newIn, hasB, idsLt, kept, vs_int, vs_bool, vs_nil, vs_own, vs_ptr, vs_cons, vs_view, fget, isLB, bget, vsubP_self, ↓reduceIte, reduceCtorEq, Nat.reduceEqDiff, Nat.reduceLT, Int.cast_ofNat_Int, and_true, and_self, forall_const, implies_true, Option.some.injEq, exists_eq', or_false, keepF, appF, updB]; try rfl) fun z hz => ?_
        by_cases hzl : z < g.palms.1
        · have fz : ((z : Int) < (g.palms.1 : Int)) = True := eq_true (by omega)
          have g2 : (E z > D z) = False := eq_false (by have := k3 z hzl; omega)
          simp (config := { maxSteps := 4000000 }) only [fz, g2, ↓imp_tt, ↓imp_tf, ↓imp_ft, ↓imp_ff, runO_4, runO_5, runO_6, runO_8, runO_14, runO_16, runO_17, runO_18, runO_19, aop, binV, ev, fget, fput, vget, addB, addN, mkv, frz, opOwns, preFz, skipOp, WfT, casts, castOks, cast1, castOk, stkFr, Val.toInt, ↓reduceIte, reduceCtorEq, Nat.reduceEqDiff, Nat.zero_add, decide_true, decide_false, List.length_cons, List.length_nil, and_true, true_and, and_self, forall_const, imp_self, implies_true, Nat.le_refl, keepF, appF, updB, inat]
          repeat' (first | omega | (with_reducible apply And.intro) | intro _)
          refine inv_intro (z + 1) (by omega) (by omega) ?_
          simp only [Chk, chkFr, chkBx, chkBx1, newIn, hasB, idsLt, kept, vs_int, vs_bool, vs_nil, vs_own, vs_ptr, vs_cons, vs_view, fget, isLB, bget, vsubP_self, ↓reduceIte, reduceCtorEq, Nat.reduceEqDiff, Nat.reduceLT, and_true, true_and, and_self, forall_const, implies_true, Option.some.injEq, Val.int.injEq, exists_eq', or_false]
          rw [wrS (by omega)]
          try exact ⟨rfl, rfl⟩
        · have fz : ((z : Int) < (g.palms.1 : Int)) = False := eq_false (by omega)
          simp (config := { maxSteps := 4000000 }) only [fz, ↓imp_ft, ↓imp_ff, runO_5, runO_8, runO_9, runO_14, runO_16, runO_17, runO_18, runO_19, aop, binV, ev, fget, fput, addB, addN, frz, opOwns, preFz, skipOp, WfT, popTo, stkFr, ↓reduceIte, reduceCtorEq, Nat.reduceEqDiff, decide_false, true_and, and_self, forall_const, imp_self, implies_true, keepF, appF, updB]
          repeat' (first | omega | (with_reducible apply And.intro) | intro _)
          refine inv_intro (j + 1) (by omega) (by omega) ?_
          simp only [Chk, chkFr, chkBx, chkBx1, newIn, hasB, idsLt, kept, vs_int, vs_bool, vs_nil, vs_own, vs_ptr, vs_cons, vs_view, Nat.lt_irrefl, fget, isLB, bget, vsubP_self, ↓reduceIte, reduceCtorEq, Nat.reduceEqDiff, Nat.reduceLT, and_true, true_and, and_self, forall_const, implies_true, Option.some.injEq, Val.int.injEq, exists_eq', false_implies, or_false]
          rw [wrS (by omega)]
          try exact ⟨rfl, rfl⟩
    | false =>
      rw [if_neg (by simp)] at he'
      simp (config := { maxSteps := 4000000 }) only [fj, hAj, w1, w2, w3, ↓imp_tt, ↓imp_tf, ↓imp_ft, ↓imp_ff, runO_5, runO_6, runO_9, runO_14, runO_15, runO_17, runO_18, runO_19, aop, binV, reOk, Nat.zero_sub, ev, fget, fput, cellsOf, cellsN, isLB, vget, vset, vsets, vlen, bget, bset, bdel, addB, addN, mkv, sliceV, vtab, rowsV, rowsOk, vrep, frz, opOwns, preFz, owns, skipOp, WfT, pureB, onesB, mkE_G, lenV, subFr, subV, subBx, subStk, elemsV, popTo, stkFr, ↓reduceIte, reduceCtorEq, Nat.reduceEqDiff, Nat.reduceAdd, Nat.reduceSub, Nat.reduceLeDiff, Nat.reduceLT, Nat.zero_add, Nat.add_zero, Int.cast_ofNat_Int, decide_false, List.length_cons, List.length_nil, List.nil_append, List.append_nil, List.flatMap_cons, List.flatMap_nil, Bool.and_self, Bool.not_false, and_true, true_and, and_self, forall_const, imp_self, implies_true, Nat.le_refl, or_false, maxLen, Nat.reducePow, keepF, appF, updB]
      repeat' (first | omega | (with_reducible apply And.intro) | intro _)
      refine loopI (ι := Nat) (fun j => j ≤ 3) (fun j => 3 - j) [1, 5, 11, 12, 141, 142] (fun j => [(143, .int .i64 j)]) (fun _ => [(7, .row 26 7 3 fun a b => (R a).c b)]) 0 (by omega) ?_ fun j hj => ?_
      · simp only [Chk, chkFr, chkBx, chkBx1, newIn, hasB, idsLt, kept, vs_int, vs_bool, vs_nil, vs_own, vs_ptr, vs_cons, vs_view, fget, isLB, bget, bset, vsubP_self, ↓reduceIte, reduceCtorEq, Nat.reduceEqDiff, Nat.reduceLT, Int.cast_ofNat_Int, and_true, true_and, and_self, forall_const, implies_true, Option.some.injEq, exists_eq', or_false, keepF, appF, updB]
        first
          | refine ⟨rfl, fun a ha b hb => ?_⟩
          | refine fun a ha b hb => ?_
        rcases (by omega : a = 0 ∨ a = 1 ∨ a = 2) with rfl | rfl | rfl <;> rcases (by omega : b = 0 ∨ b = 1 ∨ b = 2 ∨ b = 3 ∨ b = 4 ∨ b = 5 ∨ b = 6) with rfl | rfl | rfl | rfl | rfl | rfl | rfl
        all_goals first
          | exact (vsubP_self _).mpr trivial
          | (rw [hRR, ← he']; simp only [vget, Gv.c, snI, vget, vp_int, vp_view, vsubP_self, Val.toInt, ↓reduceIte, reduceCtorEq, Nat.reduceEqDiff, true_and, RInt, RPm, Pm.d, RPl, Pl.d]
             all_goals
               intro a ha b hb
               obtain rfl : b = 0 := by omega
               by_cases h5 : a < m
               · rw [if_pos h5, if_pos h5]
               · obtain rfl : a = m := by omega
                 rw [if_neg h5, if_neg h5, Nat.sub_self]; rfl)
      · by_cases hjl : j < 3
        case neg =>
          have fj : ((j : Int) < 3) = False := eq_false (by omega)
          simp (config := { maxSteps := 4000000 }) only [fj, ↓imp_ft, ↓imp_ff, runO_3, runO_5, runO_9, runO_14, runO_17, runO_18, runO_19, aop, binV, ends, ev, fget, fput, bset, addB, addN, frz, opOwns, preFz, skipOp, WfT, resV, res1, snapV, snapOk, popTo, stkFr, ↓reduceIte, reduceCtorEq, Nat.reduceEqDiff, decide_false, and_self, forall_const, imp_self, implies_true, keepF, appF, updB]
        have fj : ((j : Int) < 3) = True := eq_true (by omega)
        obtain ⟨k1, E, k2, k3⟩ := hR j hjl
        simp (config := { maxSteps := 4000000 }) only [fj, k1, k2, w1, w4, ↓imp_tt, ↓imp_tf, ↓imp_ft, ↓imp_ff, runO_4, runO_5, runO_6, runO_14, runO_15, runO_17, runO_18, runO_19, aop, binV, reOk, Nat.zero_sub, ev, fget, fput, cellsOf, cellsN, isLB, vget, vset, vsets, vlen, bget, bset, addB, addN, mkv, sliceV, vtab, frz, opOwns, preFz, callFz, skipOp, WfT, casts, castOks, cast1, castOk, norm, norms, norm1, normL, pureB, pureL, onesB, specV, argsL, capsL, mkE_S, lkp, pickV, lenV, stkFr, Val.toInt, Val.slen, Val.scell, ↓reduceIte, reduceCtorEq, Nat.reduceEqDiff, Nat.reduceAdd, Nat.reduceSub, Nat.reduceLeDiff, Nat.reduceLT, Nat.zero_add, Nat.add_zero, Int.cast_ofNat_Int, decide_true, List.length_cons, List.length_nil, List.append_nil, Bool.and_self, bne_self_eq_false, and_true, true_and, and_self, forall_const, imp_self, implies_true, Nat.le_refl, or_true, maxLen, Nat.reducePow, keepF, appF, updB, inat, RInt, Prod.eta, Pm.c0, Pm.c1, Pm.c2, Pm.c3, Pm.c4, RPm, Pm.w_c, Pm.d, Pm.eta, Pl.c0, Pl.c1, RPl, Pl.w_c, Pl.d, Pl.eta, Gv.c0, Gv.c1, Gv.c2, Gv.c3, Gv.c4, Gv.c5, Gv.c6, Gv.eta, Sg.c0, Sg.c1, Sg.c2, Sg.c3, Sg.c4, Sg.c5, Sg.w_c, Sg.eta, toUI_val]
        repeat' (first | omega | (with_reducible apply And.intro) | intro _)
        refine loopI (ι := Nat) (fun z => z ≤ g.palms.1) (fun z => g.palms.1 - z) [1, 5, 11, 12, 25, 141, 142, 143, 172] (fun z => [(173, .int .i64 z)]) (fun _ => []) 0 (by omega) (by simp only [Chk, chkFr, chkBx, chkBx1, newIn, hasB, idsLt, kept, vs_int, vs_bool, vs_nil, vs_own, vs_ptr, vs_cons, vs_view, fget, isLB, bget, vsubP_self, ↓reduceIte, reduceCtorEq, Nat.reduceEqDiff, Nat.reduceLT, Int.cast_ofNat_Int, and_true, and_self, forall_const, implies_true, Option.some.injEq, exists_eq', or_false, keepF, appF, updB]; try rfl) fun z hz => ?_
        by_cases hzl : z < g.palms.1
        · have fz : ((z : Int) < (g.palms.1 : Int)) = True := eq_true (by omega)
          have g2 : (E z > D z) = False := eq_false (by have := k3 z hzl; omega)
          simp (config := { maxSteps := 4000000 }) only [fz, g2, ↓imp_tt, ↓imp_tf, ↓imp_ft, ↓imp_ff, runO_4, runO_5, runO_6, runO_8, runO_14, runO_16, runO_17, runO_18, runO_19, aop, binV, ev, fget, fput, vget, addB, addN, mkv, frz, opOwns, preFz, skipOp, WfT, casts, castOks, cast1, castOk, stkFr, Val.toInt, ↓reduceIte, reduceCtorEq, Nat.reduceEqDiff, Nat.zero_add, decide_true, decide_false, List.length_cons, List.length_nil, and_true, true_and, and_self, forall_const, imp_self, implies_true, Nat.le_refl, keepF, appF, updB, inat]
          repeat' (first | omega | (with_reducible apply And.intro) | intro _)
          refine inv_intro (z + 1) (by omega) (by omega) ?_
          simp only [Chk, chkFr, chkBx, chkBx1, newIn, hasB, idsLt, kept, vs_int, vs_bool, vs_nil, vs_own, vs_ptr, vs_cons, vs_view, fget, isLB, bget, vsubP_self, ↓reduceIte, reduceCtorEq, Nat.reduceEqDiff, Nat.reduceLT, and_true, true_and, and_self, forall_const, implies_true, Option.some.injEq, Val.int.injEq, exists_eq', or_false]
          rw [wrS (by omega)]
          try exact ⟨rfl, rfl⟩
        · have fz : ((z : Int) < (g.palms.1 : Int)) = False := eq_false (by omega)
          simp (config := { maxSteps := 4000000 }) only [fz, ↓imp_ft, ↓imp_ff, runO_5, runO_8, runO_9, runO_14, runO_16, runO_17, runO_18, runO_19, aop, binV, ev, fget, fput, addB, addN, frz, opOwns, preFz, skipOp, WfT, popTo, stkFr, ↓reduceIte, reduceCtorEq, Nat.reduceEqDiff, decide_false, true_and, and_self, forall_const, imp_self, implies_true, keepF, appF, updB]
          repeat' (first | omega | (with_reducible apply And.intro) | intro _)
          refine inv_intro (j + 1) (by omega) (by omega) ?_
          simp only [Chk, chkFr, chkBx, chkBx1, newIn, hasB, idsLt, kept, vs_int, vs_bool, vs_nil, vs_own, vs_ptr, vs_cons, vs_view, Nat.lt_irrefl, fget, isLB, bget, vsubP_self, ↓reduceIte, reduceCtorEq, Nat.reduceEqDiff, Nat.reduceLT, and_true, true_and, and_self, forall_const, implies_true, Option.some.injEq, Val.int.injEq, exists_eq', false_implies, or_false]
          rw [wrS (by omega)]
          try exact ⟨rfl, rfl⟩
  · have f1 := eq_false hpl
    simp (config := { maxSteps := 4000000 }) only [RunTo, a11, sAlive, sReadyW, sSoonest, sTwinW,  fr, fp, f1, q1, q2, q3, e0, e1, e2, e3, e4, e5, e6, hr1, hr2, ei, w1, w2, w3, w4, ↓imp_ft, ↓imp_ff, runO_4, runO_5, runO_6, runO_14, runO_15, runO_17, runO_18, runO_19, aop, binV, reOk, Nat.zero_sub, ev, fget, fput, params, cellsOf, cellsN, isLB, vget, vset, vsets, vlen, bget, bset, addB, addN, mkv, sliceV, vtab, rowsV, rowsOk, vrep, frz, opOwns, preFz, callFz, owns, skipOp, WfT, casts, castOks, cast1, castOk, norm, norms, norm1, normL, pureB, pureL, onesB, specV, argsL, capsL, mkE_S, mkE_G, lkp, pickV, lenV, Fin, vp_bool, Val.toInt, Val.slen, Val.scell, ↓reduceIte, reduceCtorEq, Nat.reduceEqDiff, Nat.reduceAdd, Nat.reduceSub, Nat.reduceLeDiff, Nat.reduceLT, Nat.zero_add, Nat.add_zero, Int.cast_ofNat_Int, decide_false, List.length_cons, List.length_nil, List.append_nil, List.flatMap_cons, List.flatMap_nil, Bool.and_self, bne_self_eq_false, Bool.not_true, and_true, true_and, and_self, and_assoc, forall_const, imp_self, implies_true, Nat.le_refl, ne_eq, maxLen, Nat.reducePow, inat, TU_enc, spec0, spec1, spec2, TSl, IsSl, RInt, Prod.eta, Pm.c0, Pm.c1, Pm.c2, Pm.c3, Pm.c4, RPm, Pm.w_c, Pm.d, Pm.eta, Pl.c0, Pl.c1, RPl, Pl.w_c, Pl.d, Pl.eta, Gv.L, Gv.Is, Gv.of, TGv, Gv.d, Gv.eta, Sg.c0, Sg.c1, Sg.c2, Sg.c3, Sg.c4, Sg.c5, RSg, Sg.w_c, Sg.d, Sg.eta, toUI_val]
    repeat' (first | omega | (with_reducible apply And.intro) | intro _)
    obtain ⟨km1, M, km2, km3⟩ := key g hg ⟨rfl, rfl, Int.le_refl _, Int.le_refl _, rfl, rfl, fun _ h => h⟩
    obtain ⟨R, hRR⟩ : ∃ R : Nat → Gv, R = fun k => if k = 0 then ⟨g.palms, g.places, g.reach + r1, g.hatch, g.shows, g.start, g.sus⟩ else if k = 1 then ⟨g.palms, g.places, g.reach, g.hatch - r2, g.shows, g.start, g.sus⟩ else g := ⟨_, rfl⟩
    have hR : ∀ j, j < 3 → stE (R j) l = 0 ∧ ∃ E : Nat → Int, stD (R j) l = .view 1 g.palms.1 (fun i _ => .int .i64 (E i)) ∧ ∀ i, i < g.palms.1 → E i ≤ D i := fun j hj => by
      rw [hRR]
      rcases (by omega : j = 0 ∨ j = 1 ∨ j = 2) with rfl | rfl | rfl
      · exact ⟨kf1, F, kf2, kf3⟩
      · exact ⟨kh1, H, kh2, kh3⟩
      · exact ⟨km1, M, km2, km3⟩
    refine loopI (ι := Nat) (fun j => j ≤ 3) (fun j => 3 - j) [1, 5, 11, 12, 141, 142] (fun j => [(143, .int .i64 j)]) (fun _ => [(5, .row 26 7 3 fun a b => (R a).c b)]) 0 (by omega) ?_ fun j hj => ?_
    · simp only [Chk, chkFr, chkBx, chkBx1, newIn, hasB, idsLt, kept, vs_int, vs_bool, vs_nil, vs_own, vs_ptr, vs_cons, vs_view, fget, isLB, bget, bset, vsubP_self, ↓reduceIte, reduceCtorEq, Nat.reduceEqDiff, Nat.reduceLT, Int.cast_ofNat_Int, and_true, true_and, and_self, forall_const, implies_true, Option.some.injEq, exists_eq', or_false, keepF, appF, updB]
      first
        | refine ⟨rfl, fun a ha b hb => ?_⟩
        | refine fun a ha b hb => ?_
      rcases (by omega : a = 0 ∨ a = 1 ∨ a = 2) with rfl | rfl | rfl <;> rcases (by omega : b = 0 ∨ b = 1 ∨ b = 2 ∨ b = 3 ∨ b = 4 ∨ b = 5 ∨ b = 6) with rfl | rfl | rfl | rfl | rfl | rfl | rfl
      all_goals first
        | exact (vsubP_self _).mpr trivial
        | (rw [hRR]; exact (vsubP_self _).mpr trivial)
    · by_cases hjl : j < 3
      case neg =>
        have fj : ((j : Int) < 3) = False := eq_false (by omega)
        simp (config := { maxSteps := 4000000 }) only [fj, ↓imp_ft, ↓imp_ff, runO_3, runO_5, runO_9, runO_14, runO_17, runO_18, runO_19, aop, binV, ends, ev, fget, fput, bset, addB, addN, frz, opOwns, preFz, skipOp, WfT, resV, res1, snapV, snapOk, popTo, stkFr, ↓reduceIte, reduceCtorEq, Nat.reduceEqDiff, decide_false, and_self, forall_const, imp_self, implies_true, keepF, appF, updB]
      have fj : ((j : Int) < 3) = True := eq_true (by omega)
      obtain ⟨k1, E, k2, k3⟩ := hR j hjl
      simp (config := { maxSteps := 4000000 }) only [fj, k1, k2, w1, w4, ↓imp_tt, ↓imp_tf, ↓imp_ft, ↓imp_ff, runO_4, runO_5, runO_6, runO_14, runO_15, runO_17, runO_18, runO_19, aop, binV, reOk, Nat.zero_sub, ev, fget, fput, cellsOf, cellsN, isLB, vget, vset, vsets, vlen, bget, bset, addB, addN, mkv, sliceV, vtab, frz, opOwns, preFz, callFz, skipOp, WfT, casts, castOks, cast1, castOk, norm, norms, norm1, normL, pureB, pureL, onesB, specV, argsL, capsL, mkE_S, lkp, pickV, lenV, stkFr, Val.toInt, Val.slen, Val.scell, ↓reduceIte, reduceCtorEq, Nat.reduceEqDiff, Nat.reduceAdd, Nat.reduceSub, Nat.reduceLeDiff, Nat.reduceLT, Nat.zero_add, Nat.add_zero, Int.cast_ofNat_Int, decide_true, List.length_cons, List.length_nil, List.append_nil, Bool.and_self, bne_self_eq_false, and_true, true_and, and_self, forall_const, imp_self, implies_true, Nat.le_refl, or_true, maxLen, Nat.reducePow, keepF, appF, updB, inat, RInt, Prod.eta, Pm.c0, Pm.c1, Pm.c2, Pm.c3, Pm.c4, RPm, Pm.w_c, Pm.d, Pm.eta, Pl.c0, Pl.c1, RPl, Pl.w_c, Pl.d, Pl.eta, Gv.c0, Gv.c1, Gv.c2, Gv.c3, Gv.c4, Gv.c5, Gv.c6, Gv.eta, Sg.c0, Sg.c1, Sg.c2, Sg.c3, Sg.c4, Sg.c5, Sg.w_c, Sg.eta, toUI_val]
      repeat' (first | omega | (with_reducible apply And.intro) | intro _)
      refine loopI (ι := Nat) (fun z => z ≤ g.palms.1) (fun z => g.palms.1 - z) [1, 5, 11, 12, 25, 141, 142, 143, 172] (fun z => [(173, .int .i64 z)]) (fun _ => []) 0 (by omega) (by simp only [Chk, chkFr, chkBx, chkBx1, newIn, hasB, idsLt, kept, vs_int, vs_bool, vs_nil, vs_own, vs_ptr, vs_cons, vs_view, fget, isLB, bget, vsubP_self, ↓reduceIte, reduceCtorEq, Nat.reduceEqDiff, Nat.reduceLT, Int.cast_ofNat_Int, and_true, and_self, forall_const, implies_true, Option.some.injEq, exists_eq', or_false, keepF, appF, updB]; try rfl) fun z hz => ?_
      by_cases hzl : z < g.palms.1
      · have fz : ((z : Int) < (g.palms.1 : Int)) = True := eq_true (by omega)
        have g2 : (E z > D z) = False := eq_false (by have := k3 z hzl; omega)
        simp (config := { maxSteps := 4000000 }) only [fz, g2, ↓imp_tt, ↓imp_tf, ↓imp_ft, ↓imp_ff, runO_4, runO_5, runO_6, runO_8, runO_14, runO_16, runO_17, runO_18, runO_19, aop, binV, ev, fget, fput, vget, addB, addN, mkv, frz, opOwns, preFz, skipOp, WfT, casts, castOks, cast1, castOk, stkFr, Val.toInt, ↓reduceIte, reduceCtorEq, Nat.reduceEqDiff, Nat.zero_add, decide_true, decide_false, List.length_cons, List.length_nil, and_true, true_and, and_self, forall_const, imp_self, implies_true, Nat.le_refl, keepF, appF, updB, inat]
        repeat' (first | omega | (with_reducible apply And.intro) | intro _)
        refine inv_intro (z + 1) (by omega) (by omega) ?_
        simp only [Chk, chkFr, chkBx, chkBx1, newIn, hasB, idsLt, kept, vs_int, vs_bool, vs_nil, vs_own, vs_ptr, vs_cons, vs_view, fget, isLB, bget, vsubP_self, ↓reduceIte, reduceCtorEq, Nat.reduceEqDiff, Nat.reduceLT, and_true, true_and, and_self, forall_const, implies_true, Option.some.injEq, Val.int.injEq, exists_eq', or_false]
        rw [wrS (by omega)]
        try exact ⟨rfl, rfl⟩
      · have fz : ((z : Int) < (g.palms.1 : Int)) = False := eq_false (by omega)
        simp (config := { maxSteps := 4000000 }) only [fz, ↓imp_ft, ↓imp_ff, runO_5, runO_8, runO_9, runO_14, runO_16, runO_17, runO_18, runO_19, aop, binV, ev, fget, fput, addB, addN, frz, opOwns, preFz, skipOp, WfT, popTo, stkFr, ↓reduceIte, reduceCtorEq, Nat.reduceEqDiff, decide_false, true_and, and_self, forall_const, imp_self, implies_true, keepF, appF, updB]
        repeat' (first | omega | (with_reducible apply And.intro) | intro _)
        refine inv_intro (j + 1) (by omega) (by omega) ?_
        simp only [Chk, chkFr, chkBx, chkBx1, newIn, hasB, idsLt, kept, vs_int, vs_bool, vs_nil, vs_own, vs_ptr, vs_cons, vs_view, Nat.lt_irrefl, fget, isLB, bget, vsubP_self, ↓reduceIte, reduceCtorEq, Nat.reduceEqDiff, Nat.reduceLT, and_true, true_and, and_self, forall_const, implies_true, Option.some.injEq, Val.int.injEq, exists_eq', false_implies, or_false]
        rw [wrS (by omega)]
        try exact ⟨rfl, rfl⟩
end Go.Proofs.Ytpknbojgkkmonaa
