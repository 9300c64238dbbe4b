/- Deeds: the arguments of a law, opened. No condition. -/
import Derived.Test.YtlieoghhkioflaaLDoor
import Derived.Test.YtlieoghhkioflaaDTy
import Derived.Deep.Slices
set_option linter.unusedSimpArgs false
set_option linter.unusedVariables false
namespace Go.Proofs.Ytlieoghhkioflaa
open Go Go.RowKit Go.ChangeShapes Go.WideShapes Go.ChangeAt Go.Deep
theorem Tu.opens {P : Program} {t : TypeId} {fs : Array Field} (ht : P.underlying t = some (.struct fs)) (hk : P.cellsOf t = 2) (hn : fs.size = 2) (f0 : ∃ f,fs[0]? = some f ∧ f.offset = 0 ∧ OpensAs P (RInt .i64) f.type) (f1 : ∃ f,fs[1]? = some f ∧ f.offset = 1 ∧ OpensAs P (RInt .i64) f.type) : OpensAs P RTu t := by
 refine ⟨hk,(by decide : 0 < 2),fun H enc W sp fuel cs x h => ?_⟩
 obtain ⟨xs,m,_,_,hlen,hxs,hf⟩ := DataW.trod_struct ht h
 obtain ⟨g0,e0,p0,q0⟩ := f0
 obtain ⟨v0,h0⟩ := q0.part (hf 0 g0 e0) (by omega)
 rw [p0] at h0
 obtain ⟨g1,e1,p1,q1⟩ := f1
 obtain ⟨v1,h1⟩ := q1.part (hf 1 g1 e1) (by omega)
 rw [p1] at h1
 refine ⟨hlen.trans hk,⟨v0,v1⟩,fun j hj => ?_⟩
 rcases (by have : j < 2 := hj; omega : j = 0 ∨ j = 1) with rfl | rfl
 ·exact h0 0 (by decide)
 ·exact h1 0 (by decide)
theorem Bd.opens {P : Program} {t : TypeId} {fs : Array Field} (ht : P.underlying t = some (.struct fs)) (hk : P.cellsOf t = 4) (hn : fs.size = 3) (f0 : ∃ f,fs[0]? = some f ∧ f.offset = 0 ∧ OpensAs P (RInt .i64) f.type) (f1 : ∃ f,fs[1]? = some f ∧ f.offset = 1 ∧ OpensAs P RTu f.type) (f2 : ∃ f,fs[2]? = some f ∧ f.offset = 3 ∧ OpensAs P (RInt .i64) f.type) : OpensAs P RBd t := by
 refine ⟨hk,(by decide : 0 < 4),fun H enc W sp fuel cs x h => ?_⟩
 obtain ⟨xs,m,_,_,hlen,hxs,hf⟩ := DataW.trod_struct ht h
 obtain ⟨g0,e0,p0,q0⟩ := f0
 obtain ⟨v0,h0⟩ := q0.part (hf 0 g0 e0) (by omega)
 rw [p0] at h0
 obtain ⟨g1,e1,p1,q1⟩ := f1
 obtain ⟨v1,h1⟩ := q1.part (hf 1 g1 e1) (by omega)
 rw [p1] at h1
 obtain ⟨g2,e2,p2,q2⟩ := f2
 obtain ⟨v2,h2⟩ := q2.part (hf 2 g2 e2) (by omega)
 rw [p2] at h2
 refine ⟨hlen.trans hk,⟨v0,v1,v2⟩,fun j hj => ?_⟩
 rcases (by have : j < 4 := hj; omega : j = 0 ∨ j = 1 ∨ j = 2 ∨ j = 3) with rfl | rfl | rfl | rfl
 ·exact h0 0 (by decide)
 ·exact h1 0 (by decide)
 ·exact h1 1 (by decide)
 ·exact h2 0 (by decide)
theorem Pc.opens {P : Program} {t : TypeId} {fs : Array Field} (ht : P.underlying t = some (.struct fs)) (hk : P.cellsOf t = 3) (hn : fs.size = 2) (f0 : ∃ f,fs[0]? = some f ∧ f.offset = 0 ∧ OpensAs P RTu f.type) (f1 : ∃ f,fs[1]? = some f ∧ f.offset = 2 ∧ OpensAs P (RInt .i64) f.type) : OpensAs P RPc t := by
 refine ⟨hk,(by decide : 0 < 3),fun H enc W sp fuel cs x h => ?_⟩
 obtain ⟨xs,m,_,_,hlen,hxs,hf⟩ := DataW.trod_struct ht h
 obtain ⟨g0,e0,p0,q0⟩ := f0
 obtain ⟨v0,h0⟩ := q0.part (hf 0 g0 e0) (by omega)
 rw [p0] at h0
 obtain ⟨g1,e1,p1,q1⟩ := f1
 obtain ⟨v1,h1⟩ := q1.part (hf 1 g1 e1) (by omega)
 rw [p1] at h1
 refine ⟨hlen.trans hk,⟨v0,v1⟩,fun j hj => ?_⟩
 rcases (by have : j < 3 := hj; omega : j = 0 ∨ j = 1 ∨ j = 2) with rfl | rfl | rfl
 ·exact h0 0 (by decide)
 ·exact h0 1 (by decide)
 ·exact h1 0 (by decide)
theorem oTu : OpensAs Try.prog RTu 23 := Tu.opens Try.underlying23 (by kernel_rfl) rfl ⟨_,rfl,rfl,(opens_int Try.underlying3 (by kernel_rfl))⟩ ⟨_,rfl,rfl,(opens_int Try.underlying3 (by kernel_rfl))⟩
theorem oBd : OpensAs Try.prog RBd 43 := Bd.opens Try.underlying43 (by kernel_rfl) rfl ⟨_,rfl,rfl,(opens_int Try.underlying3 (by kernel_rfl))⟩ ⟨_,rfl,rfl,oTu⟩ ⟨_,rfl,rfl,(opens_int Try.underlying3 (by kernel_rfl))⟩
theorem oPc : OpensAs Try.prog RPc 76 := Pc.opens Try.underlying76 (by kernel_rfl) rfl ⟨_,rfl,rfl,oTu⟩ ⟨_,rfl,rfl,(opens_int Try.underlying3 (by kernel_rfl))⟩
end Go.Proofs.Ytlieoghhkioflaa
