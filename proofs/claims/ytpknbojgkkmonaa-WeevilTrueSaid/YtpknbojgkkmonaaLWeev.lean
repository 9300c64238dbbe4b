/- Groves: the arguments of a law, opened. No condition. -/
import Derived.Test.YtpknbojgkkmonaaLDoor
import Derived.Test.YtpknbojgkkmonaaWTy
import Derived.Deep.Slices
set_option linter.unusedSimpArgs false
set_option linter.unusedVariables false
namespace Go.Proofs.Ytpknbojgkkmonaa
open Go Go.RowKit Go.ChangeShapes Go.WideShapes Go.ChangeAt Go.Deep
theorem Pm.opens {P : Program} {t : TypeId} {fs : Array Field} (ht : P.underlying t = some (.struct fs)) (hk : P.cellsOf t = 5) (hn : fs.size = 5) (f0 : ∃ f,fs[0]? = some f ∧ f.offset = 0 ∧ OpensAs P (RInt .i64) f.type) (f1 : ∃ f,fs[1]? = some f ∧ f.offset = 1 ∧ OpensAs P (RInt .i64) f.type) (f2 : ∃ f,fs[2]? = some f ∧ f.offset = 2 ∧ OpensAs P (RInt .i64) f.type) (f3 : ∃ f,fs[3]? = some f ∧ f.offset = 3 ∧ OpensAs P (RU .u8) f.type) (f4 : ∃ f,fs[4]? = some f ∧ f.offset = 4 ∧ OpensAs P (RInt .i64) f.type) : OpensAs P RPm t := by
  refine ⟨hk,(by decide : 0 < 5),fun H enc W sp fuel cs x h => ?_⟩
  obtain ⟨xs,m,_,_,hlen,hxs,hf⟩ := DataW.trod_struct ht h
  obtain ⟨g0,e0,p0,q0⟩ := f0
  obtain ⟨v0,h0⟩ := q0.part (hf 0 g0 e0) (by omega)
  rw [p0] at h0
  obtain ⟨g1,e1,p1,q1⟩ := f1
  obtain ⟨v1,h1⟩ := q1.part (hf 1 g1 e1) (by omega)
  rw [p1] at h1
  obtain ⟨g2,e2,p2,q2⟩ := f2
  obtain ⟨v2,h2⟩ := q2.part (hf 2 g2 e2) (by omega)
  rw [p2] at h2
  obtain ⟨g3,e3,p3,q3⟩ := f3
  obtain ⟨v3,h3⟩ := q3.part (hf 3 g3 e3) (by omega)
  rw [p3] at h3
  obtain ⟨g4,e4,p4,q4⟩ := f4
  obtain ⟨v4,h4⟩ := q4.part (hf 4 g4 e4) (by omega)
  rw [p4] at h4
  refine ⟨hlen.trans hk,⟨v0,v1,v2,v3,v4⟩,fun j hj => ?_⟩
  rcases (by have : j < 5 := hj; omega : j = 0 ∨ j = 1 ∨ j = 2 ∨ j = 3 ∨ j = 4) with rfl | rfl | rfl | rfl | rfl
  · exact h0 0 (by decide)
  · exact h1 0 (by decide)
  · exact h2 0 (by decide)
  · exact h3 0 (by decide)
  · exact h4 0 (by decide)
theorem Pl.opens {P : Program} {t : TypeId} {fs : Array Field} (ht : P.underlying t = some (.struct fs)) (hk : P.cellsOf t = 2) (hn : fs.size = 2) (f0 : ∃ f,fs[0]? = some f ∧ f.offset = 0 ∧ OpensAs P (RInt .i64) f.type) (f1 : ∃ f,fs[1]? = some f ∧ f.offset = 1 ∧ OpensAs P (RInt .i64) f.type) : OpensAs P RPl t := by
  refine ⟨hk,(by decide : 0 < 2),fun H enc W sp fuel cs x h => ?_⟩
  obtain ⟨xs,m,_,_,hlen,hxs,hf⟩ := DataW.trod_struct ht h
  obtain ⟨g0,e0,p0,q0⟩ := f0
  obtain ⟨v0,h0⟩ := q0.part (hf 0 g0 e0) (by omega)
  rw [p0] at h0
  obtain ⟨g1,e1,p1,q1⟩ := f1
  obtain ⟨v1,h1⟩ := q1.part (hf 1 g1 e1) (by omega)
  rw [p1] at h1
  refine ⟨hlen.trans hk,⟨v0,v1⟩,fun j hj => ?_⟩
  rcases (by have : j < 2 := hj; omega : j = 0 ∨ j = 1) with rfl | rfl
  · exact h0 0 (by decide)
  · exact h1 0 (by decide)
theorem Gv.opens {P : Program} {t : TypeId} {fs : Array Field} (ht : P.underlying t = some (.struct fs)) (hk : P.cellsOf t = 7) (hn : fs.size = 7) (f0 : ∃ f,fs[0]? = some f ∧ f.offset = 0 ∧ OpensAs P (RSl RPm) f.type) (f1 : ∃ f,fs[1]? = some f ∧ f.offset = 1 ∧ OpensAs P (RSl RPl) f.type) (f2 : ∃ f,fs[2]? = some f ∧ f.offset = 2 ∧ OpensAs P (RInt .i64) f.type) (f3 : ∃ f,fs[3]? = some f ∧ f.offset = 3 ∧ OpensAs P (RInt .i64) f.type) (f4 : ∃ f,fs[4]? = some f ∧ f.offset = 4 ∧ OpensAs P (RInt .i64) f.type) (f5 : ∃ f,fs[5]? = some f ∧ f.offset = 5 ∧ OpensAs P (RInt .i64) f.type) (f6 : ∃ f,fs[6]? = some f ∧ f.offset = 6 ∧ OpensAs P (RSl (RInt .i64)) f.type) : OpensAs P RGv t := by
  refine ⟨hk,(by decide : 0 < 7),fun H enc W sp fuel cs x h => ?_⟩
  obtain ⟨xs,m,_,_,hlen,hxs,hf⟩ := DataW.trod_struct ht h
  obtain ⟨g0,e0,p0,q0⟩ := f0
  obtain ⟨v0,h0⟩ := q0.part (hf 0 g0 e0) (by omega)
  rw [p0] at h0
  obtain ⟨g1,e1,p1,q1⟩ := f1
  obtain ⟨v1,h1⟩ := q1.part (hf 1 g1 e1) (by omega)
  rw [p1] at h1
  obtain ⟨g2,e2,p2,q2⟩ := f2
  obtain ⟨v2,h2⟩ := q2.part (hf 2 g2 e2) (by omega)
  rw [p2] at h2
  obtain ⟨g3,e3,p3,q3⟩ := f3
  obtain ⟨v3,h3⟩ := q3.part (hf 3 g3 e3) (by omega)
  rw [p3] at h3
  obtain ⟨g4,e4,p4,q4⟩ := f4
  obtain ⟨v4,h4⟩ := q4.part (hf 4 g4 e4) (by omega)
  rw [p4] at h4
  obtain ⟨g5,e5,p5,q5⟩ := f5
  obtain ⟨v5,h5⟩ := q5.part (hf 5 g5 e5) (by omega)
  rw [p5] at h5
  obtain ⟨g6,e6,p6,q6⟩ := f6
  obtain ⟨v6,h6⟩ := q6.part (hf 6 g6 e6) (by omega)
  rw [p6] at h6
  refine ⟨hlen.trans hk,⟨v0,v1,v2,v3,v4,v5,v6⟩,fun j hj => ?_⟩
  rcases (by have : j < 7 := hj; omega : j = 0 ∨ j = 1 ∨ j = 2 ∨ j = 3 ∨ j = 4 ∨ j = 5 ∨ j = 6) with rfl | rfl | rfl | rfl | rfl | rfl | rfl
  · exact h0 0 (by decide)
  · exact h1 0 (by decide)
  · exact h2 0 (by decide)
  · exact h3 0 (by decide)
  · exact h4 0 (by decide)
  · exact h5 0 (by decide)
  · exact h6 0 (by decide)
theorem Sg.opens {P : Program} {t : TypeId} {fs : Array Field} (ht : P.underlying t = some (.struct fs)) (hk : P.cellsOf t = 6) (hn : fs.size = 5) (f0 : ∃ f,fs[0]? = some f ∧ f.offset = 0 ∧ OpensAs P (RInt .u8) f.type) (f1 : ∃ f,fs[1]? = some f ∧ f.offset = 1 ∧ OpensAs P (RInt .i64) f.type) (f2 : ∃ f,fs[2]? = some f ∧ f.offset = 2 ∧ OpensAs P (RInt .i64) f.type) (f3 : ∃ f,fs[3]? = some f ∧ f.offset = 3 ∧ OpensAs P RPl f.type) (f4 : ∃ f,fs[4]? = some f ∧ f.offset = 5 ∧ OpensAs P (RInt .i64) f.type) : OpensAs P RSg t := by
  refine ⟨hk,(by decide : 0 < 6),fun H enc W sp fuel cs x h => ?_⟩
  obtain ⟨xs,m,_,_,hlen,hxs,hf⟩ := DataW.trod_struct ht h
  obtain ⟨g0,e0,p0,q0⟩ := f0
  obtain ⟨v0,h0⟩ := q0.part (hf 0 g0 e0) (by omega)
  rw [p0] at h0
  obtain ⟨g1,e1,p1,q1⟩ := f1
  obtain ⟨v1,h1⟩ := q1.part (hf 1 g1 e1) (by omega)
  rw [p1] at h1
  obtain ⟨g2,e2,p2,q2⟩ := f2
  obtain ⟨v2,h2⟩ := q2.part (hf 2 g2 e2) (by omega)
  rw [p2] at h2
  obtain ⟨g3,e3,p3,q3⟩ := f3
  obtain ⟨v3,h3⟩ := q3.part (hf 3 g3 e3) (by omega)
  rw [p3] at h3
  obtain ⟨g4,e4,p4,q4⟩ := f4
  obtain ⟨v4,h4⟩ := q4.part (hf 4 g4 e4) (by omega)
  rw [p4] at h4
  refine ⟨hlen.trans hk,⟨v0,v1,v2,v3,v4⟩,fun j hj => ?_⟩
  rcases (by have : j < 6 := hj; omega : j = 0 ∨ j = 1 ∨ j = 2 ∨ j = 3 ∨ j = 4 ∨ j = 5) with rfl | rfl | rfl | rfl | rfl | rfl
  · exact h0 0 (by decide)
  · exact h1 0 (by decide)
  · exact h2 0 (by decide)
  · exact h3 0 (by decide)
  · exact h3 1 (by decide)
  · exact h4 0 (by decide)
theorem oPm : OpensAs Try.prog RPm 60 := Pm.opens Try.underlying60 (by kernel_rfl) rfl ⟨_,rfl,rfl,(opens_int Try.underlying3 (by kernel_rfl))⟩ ⟨_,rfl,rfl,(opens_int Try.underlying3 (by kernel_rfl))⟩ ⟨_,rfl,rfl,(opens_int Try.underlying3 (by kernel_rfl))⟩ ⟨_,rfl,rfl,(opens_ui Try.underlying5 (by kernel_rfl))⟩ ⟨_,rfl,rfl,(opens_int Try.underlying3 (by kernel_rfl))⟩
theorem oPl : OpensAs Try.prog RPl 55 := Pl.opens Try.underlying55 (by kernel_rfl) rfl ⟨_,rfl,rfl,(opens_int Try.underlying3 (by kernel_rfl))⟩ ⟨_,rfl,rfl,(opens_int Try.underlying3 (by kernel_rfl))⟩
theorem oGv : OpensAs Try.prog RGv 26 := Gv.opens Try.underlying26 (by kernel_rfl) rfl ⟨_,rfl,rfl,(opens_slice Try.underlying22 (by kernel_rfl) oPm)⟩ ⟨_,rfl,rfl,(opens_slice Try.underlying23 (by kernel_rfl) oPl)⟩ ⟨_,rfl,rfl,(opens_int Try.underlying3 (by kernel_rfl))⟩ ⟨_,rfl,rfl,(opens_int Try.underlying3 (by kernel_rfl))⟩ ⟨_,rfl,rfl,(opens_int Try.underlying3 (by kernel_rfl))⟩ ⟨_,rfl,rfl,(opens_int Try.underlying3 (by kernel_rfl))⟩ ⟨_,rfl,rfl,(opens_slice Try.underlying24 (by kernel_rfl) (opens_int Try.underlying3 (by kernel_rfl)))⟩
theorem oSg : OpensAs Try.prog RSg 57 := Sg.opens Try.underlying57 (by kernel_rfl) rfl ⟨_,rfl,rfl,(opens_int Try.underlying5 (by kernel_rfl))⟩ ⟨_,rfl,rfl,(opens_int Try.underlying3 (by kernel_rfl))⟩ ⟨_,rfl,rfl,(opens_int Try.underlying3 (by kernel_rfl))⟩ ⟨_,rfl,rfl,oPl⟩ ⟨_,rfl,rfl,(opens_int Try.underlying3 (by kernel_rfl))⟩
end Go.Proofs.Ytpknbojgkkmonaa
