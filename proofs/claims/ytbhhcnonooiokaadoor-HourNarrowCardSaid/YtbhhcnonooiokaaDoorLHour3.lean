/- Hours: turns opened. No condition. -/
import Derived.Test.YtbhhcnonooiokaaDoorLHour2
set_option linter.unusedSimpArgs false
set_option linter.unusedVariables false
namespace Go.Proofs.YtbhhcnonooiokaaDoor
open Go Go.RowKit Go.ChangeShapes Go.WideShapes Go.ChangeAt Go.Deep
theorem Tn.opens {P : Program} {t : TypeId} {fs : Array Field} (ht : P.underlying t = some (.struct fs)) (hk : P.cellsOf t = 2) (hn : fs.size = 2) (f0 : ∃ f, fs[0]? = some f ∧ f.offset = 0 ∧ OpensAs P (RInt .i64) f.type) (f1 : ∃ f, fs[1]? = some f ∧ f.offset = 1 ∧ OpensAs P (RInt .i64) f.type) : OpensAs P RTn t := by
  refine ⟨hk, (by decide : 0 < 2), fun H enc W sp fuel cs x h => ?_⟩
  obtain ⟨xs, m, _, _, hlen, hxs, hf⟩ := DataW.trod_struct ht h
  obtain ⟨g0, e0, p0, q0⟩ := f0
  obtain ⟨v0, h0⟩ := q0.part (hf 0 g0 e0) (by omega)
  rw [p0] at h0
  obtain ⟨g1, e1, p1, q1⟩ := f1
  obtain ⟨v1, h1⟩ := q1.part (hf 1 g1 e1) (by omega)
  rw [p1] at h1
  refine ⟨hlen.trans hk, ⟨v0, v1⟩, fun j hj => ?_⟩
  rcases (by have : j < 2 := hj; omega : j = 0 ∨ j = 1) with rfl | rfl
  · exact h0 0 (by decide)
  · exact h1 0 (by decide)
theorem oTn : OpensAs Tryd.prog RTn 68 := Tn.opens Tryd.underlying68 (by kernel_rfl) rfl ⟨_, rfl, rfl, (opens_int Tryd.underlying3 (by kernel_rfl))⟩ ⟨_, rfl, rfl, (opens_int Tryd.underlying3 (by kernel_rfl))⟩
end Go.Proofs.YtbhhcnonooiokaaDoor
