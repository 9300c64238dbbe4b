/- Palms: the arguments of a law, opened. No condition. -/
import Derived.Test.YtlapepdhkomijaaLDoor
import Derived.Test.YtlapepdhkomijaaPTy
import Derived.Deep.Slices
set_option linter.unusedSimpArgs false
set_option linter.unusedVariables false
namespace Go.Proofs.Ytlapepdhkomijaa
open Go Go.RowKit Go.ChangeShapes Go.WideShapes Go.ChangeAt Go.Deep
theorem Pm.opens {P : Program} {t : TypeId} {fs : Array Field} (ht : P.underlying t = some (.struct fs)) (hk : P.cellsOf t = 5) (hn : fs.size = 5) (f0 : ∃ f,fs[0]? = some f ∧ f.offset = 0 ∧ OpensAs P (RInt .i64) f.type) (f1 : ∃ f,fs[1]? = some f ∧ f.offset = 1 ∧ OpensAs P (RInt .i64) f.type) (f2 : ∃ f,fs[2]? = some f ∧ f.offset = 2 ∧ OpensAs P (RInt .i64) f.type) (f3 : ∃ f,fs[3]? = some f ∧ f.offset = 3 ∧ OpensAs P (RU .u8) f.type) (f4 : ∃ f,fs[4]? = some f ∧ f.offset = 4 ∧ OpensAs P (RInt .i64) f.type) : OpensAs P RPm t := by
 refine ⟨hk,(by decide : 0 < 5),fun H enc W sp fuel cs x h => ?_⟩
 obtain ⟨xs,m,_,_,hlen,hxs,hf⟩ := DataW.trod_struct ht h
 obtain ⟨g0,e0,p0,q0⟩ := f0
 obtain ⟨v0,h0⟩ := q0.part (hf 0 g0 e0) (by omega)
 rw [p0] at h0
 obtain ⟨g1,e1,p1,q1⟩ := f1
 obtain ⟨v1,h1⟩ := q1.part (hf 1 g1 e1) (by omega)
 rw [p1] at h1
 obtain ⟨g2,e2,p2,q2⟩ := f2
 obtain ⟨v2,h2⟩ := q2.part (hf 2 g2 e2) (by omega)
 rw [p2] at h2
 obtain ⟨g3,e3,p3,q3⟩ := f3
 obtain ⟨v3,h3⟩ := q3.part (hf 3 g3 e3) (by omega)
 rw [p3] at h3
 obtain ⟨g4,e4,p4,q4⟩ := f4
 obtain ⟨v4,h4⟩ := q4.part (hf 4 g4 e4) (by omega)
 rw [p4] at h4
 refine ⟨hlen.trans hk,⟨v0,v1,v2,v3,v4⟩,fun j hj => ?_⟩
 rcases (by have : j < 5 := hj; omega : j = 0 ∨ j = 1 ∨ j = 2 ∨ j = 3 ∨ j = 4) with rfl | rfl | rfl | rfl | rfl
 ·exact h0 0 (by decide)
 ·exact h1 0 (by decide)
 ·exact h2 0 (by decide)
 ·exact h3 0 (by decide)
 ·exact h4 0 (by decide)
theorem Sn.opens {P : Program} {t : TypeId} {fs : Array Field} (ht : P.underlying t = some (.struct fs)) (hk : P.cellsOf t = 2) (hn : fs.size = 2) (f0 : ∃ f,fs[0]? = some f ∧ f.offset = 0 ∧ OpensAs P (RInt .i64) f.type) (f1 : ∃ f,fs[1]? = some f ∧ f.offset = 1 ∧ OpensAs P (RInt .i64) f.type) : OpensAs P RSn t := by
 refine ⟨hk,(by decide : 0 < 2),fun H enc W sp fuel cs x h => ?_⟩
 obtain ⟨xs,m,_,_,hlen,hxs,hf⟩ := DataW.trod_struct ht h
 obtain ⟨g0,e0,p0,q0⟩ := f0
 obtain ⟨v0,h0⟩ := q0.part (hf 0 g0 e0) (by omega)
 rw [p0] at h0
 obtain ⟨g1,e1,p1,q1⟩ := f1
 obtain ⟨v1,h1⟩ := q1.part (hf 1 g1 e1) (by omega)
 rw [p1] at h1
 refine ⟨hlen.trans hk,⟨v0,v1⟩,fun j hj => ?_⟩
 rcases (by have : j < 2 := hj; omega : j = 0 ∨ j = 1) with rfl | rfl
 ·exact h0 0 (by decide)
 ·exact h1 0 (by decide)
theorem Sp.opens {P : Program} {t : TypeId} {fs : Array Field} (ht : P.underlying t = some (.struct fs)) (hk : P.cellsOf t = 3) (hn : fs.size = 2) (f0 : ∃ f,fs[0]? = some f ∧ f.offset = 0 ∧ OpensAs P (RInt .i64) f.type) (f1 : ∃ f,fs[1]? = some f ∧ f.offset = 1 ∧ OpensAs P RSn f.type) : OpensAs P RSp t := by
 refine ⟨hk,(by decide : 0 < 3),fun H enc W sp fuel cs x h => ?_⟩
 obtain ⟨xs,m,_,_,hlen,hxs,hf⟩ := DataW.trod_struct ht h
 obtain ⟨g0,e0,p0,q0⟩ := f0
 obtain ⟨v0,h0⟩ := q0.part (hf 0 g0 e0) (by omega)
 rw [p0] at h0
 obtain ⟨g1,e1,p1,q1⟩ := f1
 obtain ⟨v1,h1⟩ := q1.part (hf 1 g1 e1) (by omega)
 rw [p1] at h1
 refine ⟨hlen.trans hk,⟨v0,v1⟩,fun j hj => ?_⟩
 rcases (by have : j < 3 := hj; omega : j = 0 ∨ j = 1 ∨ j = 2) with rfl | rfl | rfl
 ·exact h0 0 (by decide)
 ·exact h1 0 (by decide)
 ·exact h1 1 (by decide)
theorem Lt.opens {P : Program} {t : TypeId} {fs : Array Field} (ht : P.underlying t = some (.struct fs)) (hk : P.cellsOf t = 4) (hn : fs.size = 4) (f0 : ∃ f,fs[0]? = some f ∧ f.offset = 0 ∧ OpensAs P (RInt .i64) f.type) (f1 : ∃ f,fs[1]? = some f ∧ f.offset = 1 ∧ OpensAs P (RInt .i64) f.type) (f2 : ∃ f,fs[2]? = some f ∧ f.offset = 2 ∧ OpensAs P (RInt .i64) f.type) (f3 : ∃ f,fs[3]? = some f ∧ f.offset = 3 ∧ OpensAs P (RInt .i64) f.type) : OpensAs P RLt t := by
 refine ⟨hk,(by decide : 0 < 4),fun H enc W sp fuel cs x h => ?_⟩
 obtain ⟨xs,m,_,_,hlen,hxs,hf⟩ := DataW.trod_struct ht h
 obtain ⟨g0,e0,p0,q0⟩ := f0
 obtain ⟨v0,h0⟩ := q0.part (hf 0 g0 e0) (by omega)
 rw [p0] at h0
 obtain ⟨g1,e1,p1,q1⟩ := f1
 obtain ⟨v1,h1⟩ := q1.part (hf 1 g1 e1) (by omega)
 rw [p1] at h1
 obtain ⟨g2,e2,p2,q2⟩ := f2
 obtain ⟨v2,h2⟩ := q2.part (hf 2 g2 e2) (by omega)
 rw [p2] at h2
 obtain ⟨g3,e3,p3,q3⟩ := f3
 obtain ⟨v3,h3⟩ := q3.part (hf 3 g3 e3) (by omega)
 rw [p3] at h3
 refine ⟨hlen.trans hk,⟨v0,v1,v2,v3⟩,fun j hj => ?_⟩
 rcases (by have : j < 4 := hj; omega : j = 0 ∨ j = 1 ∨ j = 2 ∨ j = 3) with rfl | rfl | rfl | rfl
 ·exact h0 0 (by decide)
 ·exact h1 0 (by decide)
 ·exact h2 0 (by decide)
 ·exact h3 0 (by decide)
theorem Wk.opens {P : Program} {t : TypeId} {fs : Array Field} (ht : P.underlying t = some (.struct fs)) (hk : P.cellsOf t = 5) (hn : fs.size = 5) (f0 : ∃ f,fs[0]? = some f ∧ f.offset = 0 ∧ OpensAs P (RInt .i64) f.type) (f1 : ∃ f,fs[1]? = some f ∧ f.offset = 1 ∧ OpensAs P (RSl RSp) f.type) (f2 : ∃ f,fs[2]? = some f ∧ f.offset = 2 ∧ OpensAs P (RSl (RInt .i64)) f.type) (f3 : ∃ f,fs[3]? = some f ∧ f.offset = 3 ∧ OpensAs P (RSl RLt) f.type) (f4 : ∃ f,fs[4]? = some f ∧ f.offset = 4 ∧ OpensAs P (RInt .i64) f.type) : OpensAs P RWk t := by
 refine ⟨hk,(by decide : 0 < 5),fun H enc W sp fuel cs x h => ?_⟩
 obtain ⟨xs,m,_,_,hlen,hxs,hf⟩ := DataW.trod_struct ht h
 obtain ⟨g0,e0,p0,q0⟩ := f0
 obtain ⟨v0,h0⟩ := q0.part (hf 0 g0 e0) (by omega)
 rw [p0] at h0
 obtain ⟨g1,e1,p1,q1⟩ := f1
 obtain ⟨v1,h1⟩ := q1.part (hf 1 g1 e1) (by omega)
 rw [p1] at h1
 obtain ⟨g2,e2,p2,q2⟩ := f2
 obtain ⟨v2,h2⟩ := q2.part (hf 2 g2 e2) (by omega)
 rw [p2] at h2
 obtain ⟨g3,e3,p3,q3⟩ := f3
 obtain ⟨v3,h3⟩ := q3.part (hf 3 g3 e3) (by omega)
 rw [p3] at h3
 obtain ⟨g4,e4,p4,q4⟩ := f4
 obtain ⟨v4,h4⟩ := q4.part (hf 4 g4 e4) (by omega)
 rw [p4] at h4
 refine ⟨hlen.trans hk,⟨v0,v1,v2,v3,v4⟩,fun j hj => ?_⟩
 rcases (by have : j < 5 := hj; omega : j = 0 ∨ j = 1 ∨ j = 2 ∨ j = 3 ∨ j = 4) with rfl | rfl | rfl | rfl | rfl
 ·exact h0 0 (by decide)
 ·exact h1 0 (by decide)
 ·exact h2 0 (by decide)
 ·exact h3 0 (by decide)
 ·exact h4 0 (by decide)
theorem oPm : OpensAs Try.prog RPm 43 := Pm.opens Try.underlying43 (by kernel_rfl) rfl ⟨_,rfl,rfl,(opens_int Try.underlying3 (by kernel_rfl))⟩ ⟨_,rfl,rfl,(opens_int Try.underlying3 (by kernel_rfl))⟩ ⟨_,rfl,rfl,(opens_int Try.underlying3 (by kernel_rfl))⟩ ⟨_,rfl,rfl,(opens_ui Try.underlying5 (by kernel_rfl))⟩ ⟨_,rfl,rfl,(opens_int Try.underlying3 (by kernel_rfl))⟩
theorem oSn : OpensAs Try.prog RSn 75 := Sn.opens Try.underlying75 (by kernel_rfl) rfl ⟨_,rfl,rfl,(opens_int Try.underlying3 (by kernel_rfl))⟩ ⟨_,rfl,rfl,(opens_int Try.underlying3 (by kernel_rfl))⟩
theorem oSp : OpensAs Try.prog RSp 77 := Sp.opens Try.underlying77 (by kernel_rfl) rfl ⟨_,rfl,rfl,(opens_int Try.underlying3 (by kernel_rfl))⟩ ⟨_,rfl,rfl,oSn⟩
theorem oLt : OpensAs Try.prog RLt 87 := Lt.opens Try.underlying87 (by kernel_rfl) rfl ⟨_,rfl,rfl,(opens_int Try.underlying3 (by kernel_rfl))⟩ ⟨_,rfl,rfl,(opens_int Try.underlying3 (by kernel_rfl))⟩ ⟨_,rfl,rfl,(opens_int Try.underlying3 (by kernel_rfl))⟩ ⟨_,rfl,rfl,(opens_int Try.underlying3 (by kernel_rfl))⟩
theorem oWk : OpensAs Try.prog RWk 28 := Wk.opens Try.underlying28 (by kernel_rfl) rfl ⟨_,rfl,rfl,(opens_int Try.underlying3 (by kernel_rfl))⟩ ⟨_,rfl,rfl,(opens_slice Try.underlying24 (by kernel_rfl) oSp)⟩ ⟨_,rfl,rfl,(opens_slice Try.underlying25 (by kernel_rfl) (opens_int Try.underlying3 (by kernel_rfl)))⟩ ⟨_,rfl,rfl,(opens_slice Try.underlying26 (by kernel_rfl) oLt)⟩ ⟨_,rfl,rfl,(opens_int Try.underlying3 (by kernel_rfl))⟩
end Go.Proofs.Ytlapepdhkomijaa
