/- Hours: the arguments of a law, opened. No condition. -/
import Derived.Test.YtbhhcnonooiokaaDoorLDoor
import Derived.Test.YtbhhcnonooiokaaDoorHTy
set_option linter.unusedSimpArgs false
set_option linter.unusedVariables false
namespace Go.Proofs.YtbhhcnonooiokaaDoor
open Go Go.RowKit Go.ChangeShapes Go.WideShapes Go.ChangeAt Go.Deep
theorem Sp.opens {P : Program} {t : TypeId} {fs : Array Field} (ht : P.underlying t = some (.struct fs)) (hk : P.cellsOf t = 2) (hn : fs.size = 2) (f0 : ∃ f, fs[0]? = some f ∧ f.offset = 0 ∧ OpensAs P (RInt .i64) f.type) (f1 : ∃ f, fs[1]? = some f ∧ f.offset = 1 ∧ OpensAs P (RInt .i64) f.type) : OpensAs P RSp t := by
  refine ⟨hk, (by decide : 0 < 2), fun H enc W sp fuel cs x h => ?_⟩
  obtain ⟨xs, m, _, _, hlen, hxs, hf⟩ := DataW.trod_struct ht h
  obtain ⟨g0, e0, p0, q0⟩ := f0
  obtain ⟨v0, h0⟩ := q0.part (hf 0 g0 e0) (by omega)
  rw [p0] at h0
  obtain ⟨g1, e1, p1, q1⟩ := f1
  obtain ⟨v1, h1⟩ := q1.part (hf 1 g1 e1) (by omega)
  rw [p1] at h1
  refine ⟨hlen.trans hk, ⟨v0, v1⟩, fun j hj => ?_⟩
  rcases (by have : j < 2 := hj; omega : j = 0 ∨ j = 1) with rfl | rfl
  · exact h0 0 (by decide)
  · exact h1 0 (by decide)
theorem Sr.opens {P : Program} {t : TypeId} {fs : Array Field} (ht : P.underlying t = some (.struct fs)) (hk : P.cellsOf t = 4) (hn : fs.size = 2) (f0 : ∃ f, fs[0]? = some f ∧ f.offset = 0 ∧ OpensAs P RSp f.type) (f1 : ∃ f, fs[1]? = some f ∧ f.offset = 2 ∧ OpensAs P RSp f.type) : OpensAs P RSr t := by
  refine ⟨hk, (by decide : 0 < 4), fun H enc W sp fuel cs x h => ?_⟩
  obtain ⟨xs, m, _, _, hlen, hxs, hf⟩ := DataW.trod_struct ht h
  obtain ⟨g0, e0, p0, q0⟩ := f0
  obtain ⟨v0, h0⟩ := q0.part (hf 0 g0 e0) (by omega)
  rw [p0] at h0
  obtain ⟨g1, e1, p1, q1⟩ := f1
  obtain ⟨v1, h1⟩ := q1.part (hf 1 g1 e1) (by omega)
  rw [p1] at h1
  refine ⟨hlen.trans hk, ⟨v0, v1⟩, fun j hj => ?_⟩
  rcases (by have : j < 4 := hj; omega : j = 0 ∨ j = 1 ∨ j = 2 ∨ j = 3) with rfl | rfl | rfl | rfl
  · exact h0 0 (by decide)
  · exact h0 1 (by decide)
  · exact h1 0 (by decide)
  · exact h1 1 (by decide)
theorem Tl.opens {P : Program} {t : TypeId} {fs : Array Field} (ht : P.underlying t = some (.struct fs)) (hk : P.cellsOf t = 5) (hn : fs.size = 4) (f0 : ∃ f, fs[0]? = some f ∧ f.offset = 0 ∧ OpensAs P (RInt .u8) f.type) (f1 : ∃ f, fs[1]? = some f ∧ f.offset = 1 ∧ OpensAs P (RInt .i64) f.type) (f2 : ∃ f, fs[2]? = some f ∧ f.offset = 2 ∧ OpensAs P (RInt .i64) f.type) (f3 : ∃ f, fs[3]? = some f ∧ f.offset = 3 ∧ OpensAs P RSp f.type) : OpensAs P RTl t := by
  refine ⟨hk, (by decide : 0 < 5), fun H enc W sp fuel cs x h => ?_⟩
  obtain ⟨xs, m, _, _, hlen, hxs, hf⟩ := DataW.trod_struct ht h
  obtain ⟨g0, e0, p0, q0⟩ := f0
  obtain ⟨v0, h0⟩ := q0.part (hf 0 g0 e0) (by omega)
  rw [p0] at h0
  obtain ⟨g1, e1, p1, q1⟩ := f1
  obtain ⟨v1, h1⟩ := q1.part (hf 1 g1 e1) (by omega)
  rw [p1] at h1
  obtain ⟨g2, e2, p2, q2⟩ := f2
  obtain ⟨v2, h2⟩ := q2.part (hf 2 g2 e2) (by omega)
  rw [p2] at h2
  obtain ⟨g3, e3, p3, q3⟩ := f3
  obtain ⟨v3, h3⟩ := q3.part (hf 3 g3 e3) (by omega)
  rw [p3] at h3
  refine ⟨hlen.trans hk, ⟨v0, v1, v2, v3⟩, fun j hj => ?_⟩
  rcases (by have : j < 5 := hj; omega : j = 0 ∨ j = 1 ∨ j = 2 ∨ j = 3 ∨ j = 4) with rfl | rfl | rfl | rfl | rfl
  · exact h0 0 (by decide)
  · exact h1 0 (by decide)
  · exact h2 0 (by decide)
  · exact h3 0 (by decide)
  · exact h3 1 (by decide)
theorem Ch.opens {P : Program} {t : TypeId} {fs : Array Field} (ht : P.underlying t = some (.struct fs)) (hk : P.cellsOf t = 3) (hn : fs.size = 3) (f0 : ∃ f, fs[0]? = some f ∧ f.offset = 0 ∧ OpensAs P (RSl RTl) f.type) (f1 : ∃ f, fs[1]? = some f ∧ f.offset = 1 ∧ OpensAs P (RInt .i64) f.type) (f2 : ∃ f, fs[2]? = some f ∧ f.offset = 2 ∧ OpensAs P RBool f.type) : OpensAs P RCh t := by
  refine ⟨hk, (by decide : 0 < 3), fun H enc W sp fuel cs x h => ?_⟩
  obtain ⟨xs, m, _, _, hlen, hxs, hf⟩ := DataW.trod_struct ht h
  obtain ⟨g0, e0, p0, q0⟩ := f0
  obtain ⟨v0, h0⟩ := q0.part (hf 0 g0 e0) (by omega)
  rw [p0] at h0
  obtain ⟨g1, e1, p1, q1⟩ := f1
  obtain ⟨v1, h1⟩ := q1.part (hf 1 g1 e1) (by omega)
  rw [p1] at h1
  obtain ⟨g2, e2, p2, q2⟩ := f2
  obtain ⟨v2, h2⟩ := q2.part (hf 2 g2 e2) (by omega)
  rw [p2] at h2
  refine ⟨hlen.trans hk, ⟨v0, v1, v2⟩, fun j hj => ?_⟩
  rcases (by have : j < 3 := hj; omega : j = 0 ∨ j = 1 ∨ j = 2) with rfl | rfl | rfl
  · exact h0 0 (by decide)
  · exact h1 0 (by decide)
  · exact h2 0 (by decide)
theorem Ck.opens {P : Program} {t : TypeId} {fs : Array Field} (ht : P.underlying t = some (.struct fs)) (hk : P.cellsOf t = 6) (hn : fs.size = 4) (f0 : ∃ f, fs[0]? = some f ∧ f.offset = 0 ∧ OpensAs P (RSl RSp) f.type) (f1 : ∃ f, fs[1]? = some f ∧ f.offset = 1 ∧ OpensAs P (RSl RSr) f.type) (f2 : ∃ f, fs[2]? = some f ∧ f.offset = 2 ∧ OpensAs P RSp f.type) (f3 : ∃ f, fs[3]? = some f ∧ f.offset = 4 ∧ OpensAs P RSp f.type) : OpensAs P RCk t := by
  refine ⟨hk, (by decide : 0 < 6), fun H enc W sp fuel cs x h => ?_⟩
  obtain ⟨xs, m, _, _, hlen, hxs, hf⟩ := DataW.trod_struct ht h
  obtain ⟨g0, e0, p0, q0⟩ := f0
  obtain ⟨v0, h0⟩ := q0.part (hf 0 g0 e0) (by omega)
  rw [p0] at h0
  obtain ⟨g1, e1, p1, q1⟩ := f1
  obtain ⟨v1, h1⟩ := q1.part (hf 1 g1 e1) (by omega)
  rw [p1] at h1
  obtain ⟨g2, e2, p2, q2⟩ := f2
  obtain ⟨v2, h2⟩ := q2.part (hf 2 g2 e2) (by omega)
  rw [p2] at h2
  obtain ⟨g3, e3, p3, q3⟩ := f3
  obtain ⟨v3, h3⟩ := q3.part (hf 3 g3 e3) (by omega)
  rw [p3] at h3
  refine ⟨hlen.trans hk, ⟨v0, v1, v2, v3⟩, fun j hj => ?_⟩
  rcases (by have : j < 6 := hj; omega : j = 0 ∨ j = 1 ∨ j = 2 ∨ j = 3 ∨ j = 4 ∨ j = 5) with rfl | rfl | rfl | rfl | rfl | rfl
  · exact h0 0 (by decide)
  · exact h1 0 (by decide)
  · exact h2 0 (by decide)
  · exact h2 1 (by decide)
  · exact h3 0 (by decide)
  · exact h3 1 (by decide)
end Go.Proofs.YtbhhcnonooiokaaDoor
