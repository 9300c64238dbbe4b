/- PalmBound's statement: for every input the law returns true, and each argument reads as it did. No condition. -/
import Derived.Test.YtlapepdhkomijaaLDoor
import Derived.Test.YtlapepdhkomijaaPLBnd
set_option linter.unusedSimpArgs false
set_option linter.unusedVariables false
namespace Go.Proofs.Ytlapepdhkomijaa
open Go Go.RowKit Go.ChangeShapes Go.WideShapes Go.ChangeAt Go.Deep
theorem Cv.opens {P : Program} {t : TypeId} {fs : Array Field} (ht : P.underlying t = some (.struct fs)) (hk : P.cellsOf t = 3) (hn : fs.size = 3) (f0 : ∃ f,fs[0]? = some f ∧ f.offset = 0 ∧ OpensAs P (RSl (RInt .i64)) f.type) (f1 : ∃ f,fs[1]? = some f ∧ f.offset = 1 ∧ OpensAs P (RSl (RInt .i64)) f.type) (f2 : ∃ f,fs[2]? = some f ∧ f.offset = 2 ∧ OpensAs P (RSl (RInt .i64)) f.type) : OpensAs P RCv t := by
 refine ⟨hk,(by decide : 0 < 3),fun H enc W sp fuel cs x h => ?_⟩
 obtain ⟨xs,m,_,_,hlen,hxs,hf⟩ := DataW.trod_struct ht h
 obtain ⟨g0,e0,p0,q0⟩ := f0
 obtain ⟨v0,h0⟩ := q0.part (hf 0 g0 e0) (by omega)
 rw [p0] at h0
 obtain ⟨g1,e1,p1,q1⟩ := f1
 obtain ⟨v1,h1⟩ := q1.part (hf 1 g1 e1) (by omega)
 rw [p1] at h1
 obtain ⟨g2,e2,p2,q2⟩ := f2
 obtain ⟨v2,h2⟩ := q2.part (hf 2 g2 e2) (by omega)
 rw [p2] at h2
 refine ⟨hlen.trans hk,⟨v0,v1,v2⟩,fun j hj => ?_⟩
 rcases (by have : j < 3 := hj; omega : j = 0 ∨ j = 1 ∨ j = 2) with rfl | rfl | rfl
 ·exact h0 0 (by decide)
 ·exact h1 0 (by decide)
 ·exact h2 0 (by decide)
theorem oCv : OpensAs Try.prog RCv 60 := Cv.opens Try.underlying60 (by kernel_rfl) rfl ⟨_,rfl,rfl,(opens_slice Try.underlying25 (by kernel_rfl) (opens_int Try.underlying3 (by kernel_rfl)))⟩ ⟨_,rfl,rfl,(opens_slice Try.underlying25 (by kernel_rfl) (opens_int Try.underlying3 (by kernel_rfl)))⟩ ⟨_,rfl,rfl,(opens_slice Try.underlying25 (by kernel_rfl) (opens_int Try.underlying3 (by kernel_rfl)))⟩
theorem palmBound_types : ∀ t ∈ Try.f10.params.toList,Try.prog.readableRec t = true ∧ t < Try.prog.types.size := by
 intro t ht
 rw [Try.params10] at ht
 simp at ht
 rcases ht with rfl | rfl | rfl | rfl
 ·exact ⟨by kernel_rfl,of_decide_eq_true (by kernel_rfl)⟩
 ·exact ⟨by kernel_rfl,of_decide_eq_true (by kernel_rfl)⟩
 ·exact ⟨by kernel_rfl,of_decide_eq_true (by kernel_rfl)⟩
 ·exact ⟨by kernel_rfl,of_decide_eq_true (by kernel_rfl)⟩
set_option maxRecDepth 100000 in
theorem palmBound_lifted (os : Os) (started : os.Started) (H : Type) (enc : TypeId × Value → H) :
  ReturnsInHanded {} Try.checked os 10 .any (Rows.palmBoundSpec.pre6 enc Try.prog Try.f10 Rows.palmBoundRow.domain false) (Rows.palmBoundSpec.post enc Try.prog Try.f10 false true false false) := by
 refine returnsInHanded_of_change (C := Try.checked) doorOwn started (by kernel_rfl) Try.func10
  (ChangeSpec.witness6 (enc := enc) (C := Try.checked) false ⟨#[],#[.slice none 0 0,.agg #[.int .i64 0,.slice none 0 0,.slice none 0 0,.slice none 0 0,.int .i64 0],.agg #[.slice none 0 0,.slice none 0 0,.slice none 0 0],.slice none 0 0],[]⟩ 8 (by kernel_rfl) (by kernel_rfl) (by kernel_rfl) (by kernel_rfl)) ?_
 intro W base args ds gs before hval0 hW hcnd _
 have hval : ∀ (j : Nat) t v,Try.f10.params[j]? = some t → args[j]? = some v → Value.okWide Try.prog W .any base t v := hval0
 have hW' := hW
 obtain ⟨p,q,hA0,hV,rfl,hfz,hnd⟩ := hW
 have hA : DataW.TrodAll enc Try.prog W 0 (fun _ => true) true Try.f10.params.toList args.toList ds p := hA0
 rw [Try.params10] at hA hval
 obtain ⟨v0,r0,d0,e0,p0,q0,x0,y0,z0,h0,hA⟩ := trodAll_cons hA
 obtain ⟨v1,r1,d1,e1,p1,q1,x1,y1,z1,h1,hA⟩ := trodAll_cons hA
 obtain ⟨v2,r2,d2,e2,p2,q2,x2,y2,z2,h2,hA⟩ := trodAll_cons hA
 obtain ⟨v3,r3,d3,e3,p3,q3,x3,y3,z3,h3,hA⟩ := trodAll_cons hA
 have hend : r3 = [] ∧ e3 = [] := by
  have := hA; revert this; cases r3 <;> cases e3 <;> simp [DataW.TrodAll]
 obtain ⟨hr,he⟩ := hend
 have hargs : args = #[v0,v1,v2,v3] := by apply Array.toList_inj.1; simp only [hr,x0,x1,x2,x3]
 subst hargs
 obtain ⟨rfl,rfl⟩ := trodVars_none hV
 have hds : ds = [d0,d1,d2,d3] := by simp only [y0,y1,y2,y3,he]
 clear hA0 hval0
 obtain ⟨a0a,a0n,a0c,rfl⟩ := okWide_slice Try.underlying22 (hval 0 22 v0 rfl rfl)
 obtain ⟨a0,b0⟩ := arg_one (opens_slice Try.underlying22 (by kernel_rfl) oPm) rfl rfl h0
 obtain ⟨a1,b1⟩ := arg_agg oWk Try.underlying28 (hval 1 28 v1 rfl rfl) h1
 obtain ⟨a2,b2⟩ := arg_agg oCv Try.underlying60 (hval 2 60 v2 rfl rfl) h2
 obtain ⟨a3a,a3n,a3c,rfl⟩ := okWide_slice Try.underlying78 (hval 3 78 v3 rfl rfl)
 obtain ⟨a3,b3⟩ := arg_one (opens_slice Try.underlying78 (by kernel_rfl) (opens_ui Try.underlying88 (by kernel_rfl))) rfl rfl h3
 refine ((pLawBound (G := fun _ => none)).run (fun g => g < W.heap.size) W [.view RPm.k a0.1 fun i j => RPm.C (a0.2 i) j,.agg (Wk.L a1),.agg (Cv.L a2),.view (RU .u32).k a3.1 fun i j => (RU .u32).C (a3.2 i) j] [_,_,_,_] (fun _ _ _ h => by cases h) ⟨_,_,rfl,b0,⟨_,_,rfl,b1,⟨_,_,rfl,b2,⟨_,_,rfl,b3,rfl⟩⟩⟩⟩ ⟨⟨rfl,RPm.w_enc _ _⟩,Wk.is_enc a1,Cv.is_enc a2,⟨rfl,(RU .u32).w_enc _ _⟩,trivial⟩).mono fun e W' hh => ?_
 obtain ⟨x,rfl,hx,hb⟩ := hh
 obtain rfl : x = .bool true := hx
 rw [List.append_nil] at hW'
 exact ⟨_,rfl,law_post rfl (by rw [hds]; rfl) palmBound_types (by kernel_rfl) hW' hb.1⟩
theorem palmBound_holds : Rows.PalmBoundSaid :=
 OpenClaim.holds_of_wide 10 Try.f10 rfl rfl rfl rfl rfl rfl rfl ⟨rfl,rfl,rfl,rfl,rfl⟩ rfl rfl rfl rfl rfl (by kernel_rfl) Try.func10 (by kernel_rfl)
  (of_decide_eq_true (by kernel_rfl)) (by unfold Func.isWrapper; first | (rw [if_pos (by decide +kernel)]; kernel_rfl) | (rw [if_neg (by decide +kernel)]; exact ⟨rfl,rfl⟩))
  (fun os started H enc _ => palmBound_lifted os started H enc)
end Go.Proofs.Ytlapepdhkomijaa
