/- PalmExamples's statement: for every input the law returns true, and each argument reads as it did. No condition. -/
import Derived.Test.YtlapepdhkomijaaLDoor
import Derived.Test.YtlapepdhkomijaaPEz
set_option linter.unusedSimpArgs false
set_option linter.unusedVariables false
namespace Go.Proofs.Ytlapepdhkomijaa
open Go Go.RowKit Go.ChangeShapes Go.WideShapes Go.ChangeAt Go.Deep
theorem palmExamples_types : ∀ t ∈ Try.f6.params.toList,Try.prog.readableRec t = true ∧ t < Try.prog.types.size := by
 intro t ht
 rw [Try.params6] at ht
 simp at ht
set_option maxRecDepth 100000 in
theorem palmExamples_lifted (os : Os) (started : os.Started) (H : Type) (enc : TypeId × Value → H) :
  ReturnsInHanded {} Try.checked os 6 .any (Rows.palmExamplesSpec.pre6 enc Try.prog Try.f6 Rows.palmExamplesRow.domain false) (Rows.palmExamplesSpec.post enc Try.prog Try.f6 false true false false) := by
 refine returnsInHanded_of_change (C := Try.checked) doorOwn started (by kernel_rfl) Try.func6
  (ChangeSpec.witness6 (enc := enc) (C := Try.checked) false ⟨#[],#[],[]⟩ 8 (by kernel_rfl) (by kernel_rfl) (by kernel_rfl) (by kernel_rfl)) ?_
 intro W base args ds gs before hval0 hW hcnd _
 have hval : ∀ (j : Nat) t v,Try.f6.params[j]? = some t → args[j]? = some v → Value.okWide Try.prog W .any base t v := hval0
 have hW' := hW
 obtain ⟨p,q,hA0,hV,rfl,hfz,hnd⟩ := hW
 have hA : DataW.TrodAll enc Try.prog W 0 (fun _ => true) true Try.f6.params.toList args.toList ds p := hA0
 rw [Try.params6] at hA hval
 have hend : args.toList = [] ∧ ds = [] := by
  have := hA; revert this; cases h0 : args.toList <;> cases ds <;> simp [DataW.TrodAll]
 obtain ⟨hr,he⟩ := hend
 have hargs : args = #[] := Array.toList_inj.1 hr
 subst hargs
 obtain ⟨rfl,rfl⟩ := trodVars_none hV
 have hds : ds = [] := by simp only [he]
 clear hA0 hval0
 refine ((pLawExamples (G := fun _ => none)).run (fun g => g < W.heap.size) W [] [] (fun _ _ _ h => by cases h) rfl trivial).mono fun e W' hh => ?_
 obtain ⟨x,rfl,hx,hb⟩ := hh
 obtain rfl : x = .bool true := hx
 rw [List.append_nil] at hW'
 exact ⟨_,rfl,law_post rfl (by rw [hds]; rfl) palmExamples_types (by kernel_rfl) hW' hb.1⟩
theorem palmExamples_holds : Rows.PalmExamplesSaid :=
 OpenClaim.holds_of_wide 6 Try.f6 rfl rfl rfl rfl rfl rfl rfl ⟨rfl,rfl,rfl,rfl,rfl⟩ rfl rfl rfl rfl rfl (by kernel_rfl) Try.func6 (by kernel_rfl)
  (of_decide_eq_true (by kernel_rfl)) (by unfold Func.isWrapper; first | (rw [if_pos (by decide +kernel)]; kernel_rfl) | (rw [if_neg (by decide +kernel)]; exact ⟨rfl,rfl⟩))
  (fun os started H enc _ => palmExamples_lifted os started H enc)
end Go.Proofs.Ytlapepdhkomijaa
