/- HourNarrow's statement: for every input the law returns true, and each argument reads as it did. No condition but the tied variable's: hour.never is as the program's text lays it. -/
import Derived.Test.YtbhhcnonooiokaaDoorLHour3
import Derived.Test.YtbhhcnonooiokaaDoorQNarrow
set_option linter.unusedSimpArgs false
set_option linter.unusedVariables false
namespace Go.Proofs.YtbhhcnonooiokaaDoor
open Go Go.RowKit Go.ChangeShapes Go.WideShapes Go.ChangeAt Go.Deep
theorem hourNarrow_types : ∀ t ∈ Tryd.f9.params.toList, Tryd.prog.readableRec t = true ∧ t < Tryd.prog.types.size := by
  intro t ht
  rw [Tryd.params9] at ht
  simp at ht
  rcases ht with rfl | rfl | rfl | rfl | rfl
  · exact ⟨by kernel_rfl, of_decide_eq_true (by kernel_rfl)⟩
  · exact ⟨by kernel_rfl, of_decide_eq_true (by kernel_rfl)⟩
  · exact ⟨by kernel_rfl, of_decide_eq_true (by kernel_rfl)⟩
  · exact ⟨by kernel_rfl, of_decide_eq_true (by kernel_rfl)⟩
  · exact ⟨by kernel_rfl, of_decide_eq_true (by kernel_rfl)⟩
set_option maxRecDepth 100000 in
theorem hourNarrow_lifted (os : Os) (started : os.Started) (H : Type) (enc : TypeId × Value → H) :
    ReturnsInHanded {} Tryd.checked os 9 .any (fun w args => (Rows.hourNarrowSpec.pre enc Tryd.prog Tryd.f9 [] false w args ∧ laidMetH Tryd.prog lawLaid w) ∧ sizedMet enc Tryd.prog Tryd.f9 (OpenSpec.ofChange Rows.hourNarrowSpec) false w args)
      (Rows.hourNarrowSpec.post enc Tryd.prog Tryd.f9 false true false false) := by
  refine returnsInHanded_of_change_and (C := Tryd.checked) (X := fun w _ => laidMetH Tryd.prog lawLaid w) (fun _ _ _ hh h => h.of_heap hh) doorOwn started (by kernel_rfl) Tryd.func9
    (ChangeSpec.witness_shaped (enc := enc) (C := Tryd.checked) (os := os) (X := fun w _ => laidMetH Tryd.prog lawLaid w) false (World.doorLaid Tryd.prog 14 os) #[.agg #[.slice none 0 0, .slice none 0 0, .int .i64 0, .int .i64 0, .int .i64 0, .int .i64 0], .int .i64 0, .slice none 0 0, .slice none 0 0, .slice none 0 0, .slice none 0 0] 8 rfl (World.shaped_of_RefB (by kernel_rfl) (by kernel_rfl)) (by kernel_rfl) (by kernel_rfl) (by kernel_rfl) (law_door os _)) ?_
  intro W base args ds gs before hval0 hW _ _ hL _
  have hval : ∀ (j : Nat) t v, Tryd.f9.params[j]? = some t → args[j]? = some v → Value.okWide Tryd.prog W .any base t v := hval0
  have hW' := hW
  obtain ⟨p, q, hA0, hV, rfl, hfz, hnd⟩ := hW
  have hA : DataW.TrodAll enc Tryd.prog W 0 (fun _ => true) true Tryd.f9.params.toList args.toList ds p := hA0
  rw [Tryd.params9] at hA hval
  obtain ⟨v0, r0, d0, e0, p0, q0, x0, y0, z0, h0, hA⟩ := trodAll_cons hA
  obtain ⟨v1, r1, d1, e1, p1, q1, x1, y1, z1, h1, hA⟩ := trodAll_cons hA
  obtain ⟨v2, r2, d2, e2, p2, q2, x2, y2, z2, h2, hA⟩ := trodAll_cons hA
  obtain ⟨v3, r3, d3, e3, p3, q3, x3, y3, z3, h3, hA⟩ := trodAll_cons hA
  obtain ⟨v4, r4, d4, e4, p4, q4, x4, y4, z4, h4, hA⟩ := trodAll_cons hA
  obtain ⟨v5, r5, d5, e5, p5, q5, x5, y5, z5, h5, hA⟩ := trodAll_cons hA
  have hend : r5 = [] ∧ e5 = [] := by
    have := hA; revert this; cases r5 <;> cases e5 <;> simp [DataW.TrodAll]
  obtain ⟨hr, he⟩ := hend
  have hargs : args = #[v0, v1, v2, v3, v4, v5] := by apply Array.toList_inj.1; simp only [hr, x0, x1, x2, x3, x4, x5]
  subst hargs
  obtain ⟨rfl, rfl⟩ := trodVars_none hV
  have hds : ds = [d0, d1, d2, d3, d4, d5] := by simp only [y0, y1, y2, y3, y4, y5, he]
  clear hA0 hval0
  obtain ⟨a0, b0⟩ := arg_agg oCk Tryd.underlying27 (hval 0 27 v0 rfl rfl) h0
  obtain ⟨a1, rfl, _, _, _⟩ := open_int Tryd.underlying3 (hval 1 3 v1 rfl rfl) h1
  have b1 : RepP W (fun g => g < W.heap.size) (.int .i64 a1) (.int .i64 a1) := rfl
  obtain ⟨a2a, a2n, a2c, rfl⟩ := okWide_slice Tryd.underlying30 (hval 2 30 v2 rfl rfl)
  obtain ⟨a2, b2⟩ := arg_one (opens_slice Tryd.underlying30 (by kernel_rfl) oTl) rfl rfl h2
  obtain ⟨a3a, a3n, a3c, rfl⟩ := okWide_slice Tryd.underlying30 (hval 3 30 v3 rfl rfl)
  obtain ⟨a3, b3⟩ := arg_one (opens_slice Tryd.underlying30 (by kernel_rfl) oTl) rfl rfl h3
  obtain ⟨a4a, a4n, a4c, rfl⟩ := okWide_slice Tryd.underlying53 (hval 4 53 v4 rfl rfl)
  obtain ⟨a4, b4⟩ := arg_one (opens_slice Tryd.underlying53 (by kernel_rfl) oCh) rfl rfl h4
  obtain ⟨a5a, a5n, a5c, rfl⟩ := okWide_slice Tryd.underlying79 (hval 5 79 v5 rfl rfl)
  obtain ⟨a5, b5⟩ := arg_one (opens_slice Tryd.underlying79 (by kernel_rfl) (opens_ui Tryd.underlying84 (by kernel_rfl))) rfl rfl h5
  refine ((pLawNarrow).run (fun g => g < W.heap.size) W [.agg (Ck.L a0), .int .i64 a1, .view RTl.k a2.1 fun i j => RTl.C (a2.2 i) j, .view RTl.k a3.1 fun i j => RTl.C (a3.2 i) j, .view RCh.k a4.1 fun i j => RCh.C (a4.2 i) j, .view (RU .u32).k a5.1 fun i j => (RU .u32).C (a5.2 i) j] [_, _, _, _, _, _] (law_globals hL) ⟨_, _, rfl, b0, ⟨_, _, rfl, b1, ⟨_, _, rfl, b2, ⟨_, _, rfl, b3, ⟨_, _, rfl, b4, ⟨_, _, rfl, b5, rfl⟩⟩⟩⟩⟩⟩ ⟨Ck.is_enc a0, rfl, ⟨rfl, RTl.w_enc _ _⟩, ⟨rfl, RTl.w_enc _ _⟩, ⟨rfl, RCh.w_enc _ _⟩, ⟨rfl, (RU .u32).w_enc _ _⟩, trivial⟩).mono fun e W' hh => ?_
  obtain ⟨x, rfl, hx, hb⟩ := hh
  obtain rfl : x = .bool true := hx
  rw [List.append_nil] at hW'
  exact ⟨_, rfl, law_post rfl (by rw [hds]; rfl) hourNarrow_types (by kernel_rfl) hW' hb.1⟩
theorem hourNarrow_holds : Rows.HourNarrowSaid :=
  OpenClaim.holds_of_wide 9 Tryd.f9 rfl rfl rfl rfl rfl rfl rfl ⟨rfl, rfl, rfl, rfl, rfl⟩ rfl rfl rfl rfl rfl (by kernel_rfl) Tryd.func9 (by kernel_rfl)
    (of_decide_eq_true (by kernel_rfl)) (by unfold Func.isWrapper; first | (rw [if_pos (by decide +kernel)]; kernel_rfl) | (rw [if_neg (by decide +kernel)]; exact ⟨rfl, rfl⟩))
    (fun os started H enc _ => hourNarrow_lifted os started H enc)
/-- The card of HourNarrow: for every input the law returns true, and each argument reads as it did. No condition but the tied variables'. -/
theorem hourNarrowCard_holds : Rows.HourNarrowCardSaid :=
  Claim7.holds_tied_plain_at .later [] [.data] true (true, "7f6b88c1955294bc906f41c6861aec76f87bb42deb888d8af1b28b44736be32f") false
    hourNarrow_holds (fun _ h => by cases h) (by kernel_rfl) (fun _ h => by cases h) hourNarrow_row_tie rfl ⟨rfl, rfl⟩ (by kernel_rfl) rfl
    (fun f fn hf hfn => by
      obtain rfl : f = 9 := Option.some.inj ((show Tryd.prog.funcNamed "aflaj/aflajlaw03.HourNarrow" = some 9 by kernel_rfl).symm.trans hf) |>.symm
      obtain rfl : fn = Tryd.f9 := (Option.some.inj (Tryd.func9.symm.trans hfn)).symm
      exact ⟨by kernel_rfl, fun j t ht => by
        rw [Tryd.params9] at ht
        have hm : t ∈ ([27, 3, 30, 30, 53, 79] : List TypeId) := by simpa using Array.mem_of_getElem? ht
        have hall : (([27, 3, 30, 30, 53, 79] : List TypeId).all fun u => !Tryd.prog.wantsStandIn u) = true := by kernel_rfl
        exact (show Tryd.prog.wantsStandIn t = false by simpa using List.all_eq_true.1 hall t hm)⟩)
    (by kernel_rfl)
end Go.Proofs.YtbhhcnonooiokaaDoor
