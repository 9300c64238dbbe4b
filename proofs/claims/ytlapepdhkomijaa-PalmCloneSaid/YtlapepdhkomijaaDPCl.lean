/- PalmClone's statement: for every input the law returns true, and each argument reads as it did. No condition. -/
import Derived.Test.YtlapepdhkomijaaLDoor
import Derived.Test.YtlapepdhkomijaaPLCln
set_option linter.unusedSimpArgs false
set_option linter.unusedVariables false
namespace Go.Proofs.Ytlapepdhkomijaa
open Go Go.RowKit Go.ChangeShapes Go.WideShapes Go.ChangeAt Go.Deep
theorem palmClone_types : ∀ t ∈ Try.f12.params.toList,Try.prog.readableRec t = true ∧ t < Try.prog.types.size := by
 intro t ht
 rw [Try.params12] at ht
 simp at ht
 rcases ht with rfl | rfl
 ·exact ⟨by kernel_rfl,of_decide_eq_true (by kernel_rfl)⟩
 ·exact ⟨by kernel_rfl,of_decide_eq_true (by kernel_rfl)⟩
set_option maxRecDepth 100000 in
theorem palmClone_lifted (os : Os) (started : os.Started) (H : Type) (enc : TypeId × Value → H) :
  ReturnsInHanded {} Try.checked os 12 .any (Rows.palmCloneSpec.pre6 enc Try.prog Try.f12 Rows.palmCloneRow.domain false) (Rows.palmCloneSpec.post enc Try.prog Try.f12 false true false false) := by
 refine returnsInHanded_of_change (C := Try.checked) doorOwn started (by kernel_rfl) Try.func12
  (ChangeSpec.witness6 (enc := enc) (C := Try.checked) false ⟨#[],#[.slice none 0 0,.int .u8 0,.int .u8 0],[]⟩ 8 (by kernel_rfl) (by kernel_rfl) (by kernel_rfl) (by kernel_rfl)) ?_
 intro W base args ds gs before hval0 hW hcnd _
 have hval : ∀ (j : Nat) t v,Try.f12.params[j]? = some t → args[j]? = some v → Value.okWide Try.prog W .any base t v := hval0
 have hW' := hW
 obtain ⟨p,q,hA0,hV,rfl,hfz,hnd⟩ := hW
 have hA : DataW.TrodAll enc Try.prog W 0 (fun _ => true) true Try.f12.params.toList args.toList ds p := hA0
 rw [Try.params12] at hA hval
 obtain ⟨v0,r0,d0,e0,p0,q0,x0,y0,z0,h0,hA⟩ := trodAll_cons hA
 obtain ⟨v1,r1,d1,e1,p1,q1,x1,y1,z1,h1,hA⟩ := trodAll_cons hA
 obtain ⟨v2,r2,d2,e2,p2,q2,x2,y2,z2,h2,hA⟩ := trodAll_cons hA
 have hend : r2 = [] ∧ e2 = [] := by
  have := hA; revert this; cases r2 <;> cases e2 <;> simp [DataW.TrodAll]
 obtain ⟨hr,he⟩ := hend
 have hargs : args = #[v0,v1,v2] := by apply Array.toList_inj.1; simp only [hr,x0,x1,x2]
 subst hargs
 obtain ⟨rfl,rfl⟩ := trodVars_none hV
 have hds : ds = [d0,d1,d2] := by simp only [y0,y1,y2,he]
 clear hA0 hval0
 obtain ⟨a0a,a0n,a0c,rfl⟩ := okWide_slice Try.underlying22 (hval 0 22 v0 rfl rfl)
 obtain ⟨a0,b0⟩ := arg_one (opens_slice Try.underlying22 (by kernel_rfl) oPm) rfl rfl h0
 obtain ⟨a10,rfl,_,_,wf1⟩ := open_int Try.underlying5 (hval 1 5 v1 rfl rfl) h1
 obtain ⟨a1,rfl⟩ : ∃ a : UI .u8,a.1 = a10 := ⟨⟨_,wf_in wf1⟩,rfl⟩
 have b1 : RepP W (fun g => g < W.heap.size) (.int .u8 a1.1) (.int .u8 a1.1) := rfl
 obtain ⟨a20,rfl,_,_,wf2⟩ := open_int Try.underlying5 (hval 2 5 v2 rfl rfl) h2
 obtain ⟨a2,rfl⟩ : ∃ a : UI .u8,a.1 = a20 := ⟨⟨_,wf_in wf2⟩,rfl⟩
 have b2 : RepP W (fun g => g < W.heap.size) (.int .u8 a2.1) (.int .u8 a2.1) := rfl
 refine ((pLawClone (G := fun _ => none)).run (fun g => g < W.heap.size) W [.view RPm.k a0.1 fun i j => RPm.C (a0.2 i) j,.int .u8 a1.1,.int .u8 a2.1] [_,_,_] (fun _ _ _ h => by cases h) ⟨_,_,rfl,b0,⟨_,_,rfl,b1,⟨_,_,rfl,b2,rfl⟩⟩⟩ ⟨⟨rfl,RPm.w_enc _ _⟩,⟨rfl,a1.2⟩,⟨rfl,a2.2⟩,trivial⟩).mono fun e W' hh => ?_
 obtain ⟨x,rfl,hx,hb⟩ := hh
 obtain rfl : x = .bool true := hx
 rw [List.append_nil] at hW'
 exact ⟨_,rfl,law_post rfl (by rw [hds]; rfl) palmClone_types (by kernel_rfl) hW' hb.1⟩
theorem palmClone_holds : Rows.PalmCloneSaid :=
 OpenClaim.holds_of_wide 12 Try.f12 rfl rfl rfl rfl rfl rfl rfl ⟨rfl,rfl,rfl,rfl,rfl⟩ rfl rfl rfl rfl rfl (by kernel_rfl) Try.func12 (by kernel_rfl)
  (of_decide_eq_true (by kernel_rfl)) (by unfold Func.isWrapper; first | (rw [if_pos (by decide +kernel)]; kernel_rfl) | (rw [if_neg (by decide +kernel)]; exact ⟨rfl,rfl⟩))
  (fun os started H enc _ => palmClone_lifted os started H enc)
end Go.Proofs.Ytlapepdhkomijaa
