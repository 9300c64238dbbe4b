/- PalmKnown's statement: for every input the law returns true, and each argument reads as it did. No condition. -/
import Derived.Test.YtlapepdhkomijaaDoor
import Derived.Test.YtlapepdhkomijaaPalmKnown
namespace Go.Proofs.Ytlapepdhkomijaa
open Go Go.RowKit Go.ChangeShapes Go.WideShapes Go.ChangeAt Go.Deep

section
variable {H : Type} {enc : TypeId × Value → H} {W : World}
theorem list5 {α : Type} {l : List α} (h : l.length = 5) : ∃ a b c d e, l = [a, b, c, d, e] := by
  match l, h with
  | [a, b, c, d, e], _ => exact ⟨a, b, c, d, e, rfl⟩
theorem open_palm {sp : Nat → Bool} {fuel : Nat} {cs : List Value} {x : DataW H × List MemPlace} (hl : cs.length = 5) (h : DataW.trod enc Try.prog W 0 sp true fuel 43 cs = some x) :
    ∃ p : Pm, (∀ j, j < 5 → cs[j]? = some (pcell p j)) ∧ 0 ≤ p.sex ∧ p.sex ≤ 255 := by
  obtain ⟨c0, c1, c2, c3, c4, rfl⟩ := list5 hl
  obtain ⟨xs, n, _, _, _, hxs, hf⟩ := DataW.trod_struct Try.underlying43 h
  obtain ⟨x0, x1, x2, x3, x4, rfl⟩ := list5 (l := xs) (by simpa using hxs)
  have f0 : DataW.trod enc Try.prog W 0 sp true n 3 (([c0, c1, c2, c3, c4].drop 0).take (Try.prog.cellsOf 3)) = [x0, x1, x2, x3, x4][0]? := hf 0 _ rfl
  have f1 : DataW.trod enc Try.prog W 0 sp true n 3 (([c0, c1, c2, c3, c4].drop 1).take (Try.prog.cellsOf 3)) = [x0, x1, x2, x3, x4][1]? := hf 1 _ rfl
  have f2 : DataW.trod enc Try.prog W 0 sp true n 3 (([c0, c1, c2, c3, c4].drop 2).take (Try.prog.cellsOf 3)) = [x0, x1, x2, x3, x4][2]? := hf 2 _ rfl
  have f3 : DataW.trod enc Try.prog W 0 sp true n 5 (([c0, c1, c2, c3, c4].drop 3).take (Try.prog.cellsOf 5)) = [x0, x1, x2, x3, x4][3]? := hf 3 _ rfl
  have f4 : DataW.trod enc Try.prog W 0 sp true n 3 (([c0, c1, c2, c3, c4].drop 4).take (Try.prog.cellsOf 3)) = [x0, x1, x2, x3, x4][4]? := hf 4 _ rfl
  have ci : Try.prog.cellsOf 3 = 1 := by kernel_rfl
  have cu : Try.prog.cellsOf 5 = 1 := by kernel_rfl

  rw [ci] at f0 f1 f2 f4
  rw [cu] at f3
  obtain ⟨a0, e0, _, _⟩ := DataW.trod_int Try.underlying3 f0
  obtain ⟨a1, e1, _, _⟩ := DataW.trod_int Try.underlying3 f1
  obtain ⟨a2, e2, _, _⟩ := DataW.trod_int Try.underlying3 f2
  obtain ⟨a3, e3, _, w3⟩ := DataW.trod_int Try.underlying5 f3
  obtain ⟨a4, e4, _, _⟩ := DataW.trod_int Try.underlying3 f4
  simp at e0 e1 e2 e3 e4
  subst e0 e1 e2 e3 e4
  refine ⟨⟨a0, a1, a2, a3, a4⟩, ?_, ?_⟩
  · intro j hj
    rcases (by omega : j = 0 ∨ j = 1 ∨ j = 2 ∨ j = 3 ∨ j = 4) with rfl | rfl | rfl | rfl | rfl <;> rfl
  · simpa [Lit.wf, IntKind.min, IntKind.max, IntKind.signed, IntKind.bits] using w3
theorem open_palms {v : Value} {d : DataW H} {ps : List MemPlace} (hv : ∃ a n c, v = .slice a n c) (h : DataW.Trod enc Try.prog W 0 (fun _ => true) true 22 v d ps) :
    ∃ n x, PSL W v n x ∧ Plain v ∧ ∀ i, 0 ≤ (x i).sex ∧ (x i).sex ≤ 255 := by
  rcases open_cells Try.underlying22 (by kernel_rfl : Try.prog.cellsOf 43 = 5) (by omega) hv h with rfl | ⟨ad, n, c, rfl, hn, hc, hcell⟩
  · exact ⟨0, fun _ => ⟨0, 0, 0, 0, 0⟩, ⟨none, 0, rfl, by decide, fun h => absurd h (by omega)⟩, .inl rfl, fun _ => by simp⟩
  · rcases Nat.eq_zero_or_pos n with h0 | h0
    · subst h0
      exact ⟨0, fun _ => ⟨0, 0, 0, 0, 0⟩, ⟨some ad, c, rfl, by decide, fun h => absurd h (by omega)⟩, .inr ⟨_, _, _, rfl⟩, fun _ => by simp⟩
    · obtain ⟨b, off, rfl, he⟩ := hcell h0
      have hx : ∀ i, ∃ p : Pm, (i < n → ∀ j, j < 5 → W.cell? ⟨b, off + i * 5 + j, none⟩ = some (pcell p j)) ∧ 0 ≤ p.sex ∧ p.sex ≤ 255 := by
        intro i
        by_cases hi : i < n
        · obtain ⟨cs, fuel, x, hl, hcs, ht⟩ := he i hi
          obtain ⟨p, hp, hs⟩ := open_palm hl ht
          exact ⟨p, fun _ j hj => (hcs j hj).trans (hp j hj), hs⟩
        · exact ⟨⟨0, 0, 0, 0, 0⟩, fun h => absurd h hi, by simp⟩
      exact ⟨n, fun i => Classical.choose (hx i), ⟨_, c, rfl, by omega, fun _ => ⟨b, off, rfl, fun i hi j hj => (Classical.choose_spec (hx i)).1 hi j hj⟩⟩, .inr ⟨_, _, _, rfl⟩, fun i => (Classical.choose_spec (hx i)).2⟩
end

theorem palmKnown_types : ∀ t ∈ Try.f3.params.toList, Try.prog.readableRec t = true ∧ t < Try.prog.types.size := by
  intro t ht
  rw [Try.params3] at ht
  simp at ht
  rcases ht with rfl | rfl
  · exact ⟨by kernel_rfl, of_decide_eq_true (by kernel_rfl)⟩
  · exact ⟨by kernel_rfl, of_decide_eq_true (by kernel_rfl)⟩
set_option maxRecDepth 100000 in
theorem palmKnown_lifted (os : Os) (started : os.Started) (H : Type) (enc : TypeId × Value → H) :
    ReturnsInHanded {} Try.checked os 3 .any (Rows.palmKnownSpec.pre6 enc Try.prog Try.f3 Rows.palmKnownRow.domain false) (Rows.palmKnownSpec.post enc Try.prog Try.f3 false true false false) := by
  refine returnsInHanded_of_change (C := Try.checked) doorOwn started (by kernel_rfl) Try.func3
    (ChangeSpec.witness6 (enc := enc) (C := Try.checked) false ⟨#[], #[.slice none 0 0, .int .i64 0], []⟩ 8 (by kernel_rfl) (by kernel_rfl) (by kernel_rfl) (by kernel_rfl)) ?_
  intro W base args ds gs before hval0 hW hcnd _
  have hval : ∀ (j : Nat) t v, Try.f3.params[j]? = some t → args[j]? = some v → Value.okWide Try.prog W .any base t v := hval0
  have hW' := hW
  obtain ⟨p, q, hA0, hV, rfl, hfz, hnd⟩ := hW
  have hA : DataW.TrodAll enc Try.prog W 0 (fun _ => true) true Try.f3.params.toList args.toList ds p := hA0
  rw [Try.params3] at hA hval
  obtain ⟨v0, v1, d0, d1, p0, p1, rfl, rfl, rfl, h0, h1⟩ := trodAll_two hA
  obtain ⟨rfl, rfl⟩ := trodVars_none hV
  obtain ⟨id, rfl, rfl, rfl, wid⟩ := open_int Try.underlying3 (hval 1 3 v1 rfl rfl) h1
  obtain ⟨n, x, hs, hp, hu⟩ := open_palms (okWide_slice Try.underlying22 (hval 0 22 v0 rfl rfl)) h0
  clear hA0 hval0
  refine (law_any x n v0 id hu W hs hp).mono fun e W' ⟨he, hb⟩ => ?_
  subst he
  exact ⟨_, rfl, law_post rfl rfl palmKnown_types (by kernel_rfl) hW' hb⟩

theorem palmKnown_holds : Rows.PalmKnownSaid :=
  OpenClaim.holds_of_wide 3 Try.f3 rfl rfl rfl rfl rfl rfl rfl ⟨rfl, rfl, rfl, rfl, rfl⟩ rfl rfl rfl rfl rfl (by kernel_rfl) Try.func3 (by kernel_rfl)
    (of_decide_eq_true (by kernel_rfl)) (by unfold Func.isWrapper; first | (rw [if_pos (by decide +kernel)]; kernel_rfl) | (rw [if_neg (by decide +kernel)]; exact ⟨rfl, rfl⟩))
    (fun os started H enc _ => palmKnown_lifted os started H enc)
end Go.Proofs.Ytlapepdhkomijaa
