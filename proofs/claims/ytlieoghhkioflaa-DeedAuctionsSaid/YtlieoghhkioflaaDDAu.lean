/- DeedAuctions' statement: for every input the law returns true, and each argument reads as it did. No condition. -/
import Derived.Test.YtlieoghhkioflaaLDed
import Derived.Test.YtlieoghhkioflaaLAuc
set_option linter.unusedSimpArgs false
set_option linter.unusedVariables false
namespace Go.Proofs.Ytlieoghhkioflaa
open Go Go.RowKit Go.ChangeShapes Go.WideShapes Go.ChangeAt Go.Deep
theorem deedAuctions_types : ∀ t ∈ Try.f3.params.toList,Try.prog.readableRec t = true ∧ t < Try.prog.types.size := by
 intro t ht
 rw [Try.params3] at ht
 simp at ht
 rcases ht with rfl | rfl | rfl
 ·exact ⟨by kernel_rfl,of_decide_eq_true (by kernel_rfl)⟩
 ·exact ⟨by kernel_rfl,of_decide_eq_true (by kernel_rfl)⟩
 ·exact ⟨by kernel_rfl,of_decide_eq_true (by kernel_rfl)⟩
set_option maxRecDepth 100000 in
theorem deedAuctions_lifted (os : Os) (started : os.Started) (H : Type) (enc : TypeId × Value → H) :
  ReturnsInHanded {} Try.checked os 3 .any (Rows.deedAuctionsSpec.pre6 enc Try.prog Try.f3 Rows.deedAuctionsRow.domain false) (Rows.deedAuctionsSpec.post enc Try.prog Try.f3 false true false false) := by
 refine returnsInHanded_of_change (C := Try.checked) doorOwn started (by kernel_rfl) Try.func3
  (ChangeSpec.witness6 (enc := enc) (C := Try.checked) false ⟨#[],#[.agg #[.int .i64 0,.int .i64 0],.slice none 0 0,.slice none 0 0],[]⟩ 8 (by kernel_rfl) (by kernel_rfl) (by kernel_rfl) (by kernel_rfl)) ?_
 intro W base args ds gs before hval0 hW hcnd _
 have hval : ∀ (j : Nat) t v,Try.f3.params[j]? = some t → args[j]? = some v → Value.okWide Try.prog W .any base t v := hval0
 have hW' := hW
 obtain ⟨p,q,hA0,hV,rfl,hfz,hnd⟩ := hW
 have hA : DataW.TrodAll enc Try.prog W 0 (fun _ => true) true Try.f3.params.toList args.toList ds p := hA0
 rw [Try.params3] at hA hval
 obtain ⟨v0,r0,d0,e0,p0,q0,x0,y0,z0,h0,hA⟩ := trodAll_cons hA
 obtain ⟨v1,r1,d1,e1,p1,q1,x1,y1,z1,h1,hA⟩ := trodAll_cons hA
 obtain ⟨v2,r2,d2,e2,p2,q2,x2,y2,z2,h2,hA⟩ := trodAll_cons hA
 have hend : r2 = [] ∧ e2 = [] := by
  have := hA; revert this; cases r2 <;> cases e2 <;> simp [DataW.TrodAll]
 obtain ⟨hr,he⟩ := hend
 have hargs : args = #[v0,v1,v2] := by apply Array.toList_inj.1; simp only [hr,x0,x1,x2]
 subst hargs
 obtain ⟨rfl,rfl⟩ := trodVars_none hV
 have hds : ds = [d0,d1,d2] := by simp only [y0,y1,y2,he]
 clear hA0 hval0
 obtain ⟨a0,b0⟩ := arg_agg oTu Try.underlying23 (hval 0 23 v0 rfl rfl) h0
 obtain ⟨a1a,a1n,a1c,rfl⟩ := okWide_slice Try.underlying24 (hval 1 24 v1 rfl rfl)
 obtain ⟨a1,b1⟩ := arg_one (opens_slice Try.underlying24 (by kernel_rfl) oBd) rfl rfl h1
 obtain ⟨a2a,a2n,a2c,rfl⟩ := okWide_slice Try.underlying25 (hval 2 25 v2 rfl rfl)
 obtain ⟨a2,b2⟩ := arg_one (opens_slice Try.underlying25 (by kernel_rfl) oPc) rfl rfl h2
 refine ((pLawAuc (G := fun _ => none)).run (fun g => g < W.heap.size) W [.agg (Tu.L a0),.view RBd.k a1.1 fun i j => RBd.C (a1.2 i) j,.view RPc.k a2.1 fun i j => RPc.C (a2.2 i) j] [_,_,_] (fun _ _ _ h => by cases h) ⟨_,_,rfl,b0,⟨_,_,rfl,b1,⟨_,_,rfl,b2,rfl⟩⟩⟩ ⟨Tu.is_enc a0,⟨rfl,RBd.w_enc _ _⟩,⟨rfl,RPc.w_enc _ _⟩,trivial⟩).mono fun e W' hh => ?_
 obtain ⟨x,rfl,hx,hb⟩ := hh
 obtain rfl : x = .bool true := hx
 rw [List.append_nil] at hW'
 exact ⟨_,rfl,law_post rfl (by rw [hds]; rfl) deedAuctions_types (by kernel_rfl) hW' hb.1⟩
theorem deedAuctions_holds : Rows.DeedAuctionsSaid :=
 OpenClaim.holds_of_wide 3 Try.f3 rfl rfl rfl rfl rfl rfl rfl ⟨rfl,rfl,rfl,rfl,rfl⟩ rfl rfl rfl rfl rfl (by kernel_rfl) Try.func3 (by kernel_rfl)
  (of_decide_eq_true (by kernel_rfl)) (by unfold Func.isWrapper; first | (rw [if_pos (by decide +kernel)]; kernel_rfl) | (rw [if_neg (by decide +kernel)]; exact ⟨rfl,rfl⟩))
  (fun os started H enc _ => deedAuctions_lifted os started H enc)
end Go.Proofs.Ytlieoghhkioflaa
