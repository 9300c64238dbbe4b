/- The statement DeedOwners. No condition. -/
import Derived.Test.YtlieoghhkioflaaGreatLDez
import Derived.Test.YtlieoghhkioflaaGreatLOw
set_option maxRecDepth 100000
namespace Go.Proofs.YtlieoghhkioflaaGreat
open Go Go.RowKit Go.ChangeShapes Go.WideShapes Go.ChangeAt Go.Deep
theorem H4 : ∀ t ∈ Tryz.f3.params.toList,Tryz.prog.readableRec t = true /\ t < Tryz.prog.types.size := by
 intro t h
 rw [Tryz.params3] at h
 simp at h
 rcases h with rfl | rfl | rfl <;> exact ⟨by kernel_rfl,of_decide_eq_true (by kernel_rfl)⟩
theorem a4 (os : Os) (a5 : os.Started) (H : Type) (enc : TypeId × Value -> H) :
  ReturnsInHanded {} Tryz.checked os 3 .any (Rows.deedOwnersSpec.pre6 enc Tryz.prog Tryz.f3 Rows.deedOwnersRow.domain false) (Rows.deedOwnersSpec.post enc Tryz.prog Tryz.f3 false true false false) := by
 refine returnsInHanded_of_change (C := Tryz.checked) Uu a5 (by kernel_rfl) Tryz.func3
  (ChangeSpec.witness6 (enc := enc) (C := Tryz.checked) false ⟨#[],#[.agg #[.int .i64 0,.slice none 0 0],.slice none 0 0,.int .i64 0,.int .i64 0],[]⟩ 8 (by kernel_rfl) (by kernel_rfl) (by kernel_rfl) (by kernel_rfl)) ?_
 intro W b4 b5 ds gs a9 a7 hW b7 _
 have a6 : ∀ (j : Nat) t v,Tryz.f3.params[j]? = some t -> b5[j]? = some v -> Value.okWide Tryz.prog W .any b4 t v := a7
 obtain ⟨p,q,b8,hV,rfl,hfz,hnd⟩ := id hW
 have hA : DataW.TrodAll enc Tryz.prog W 0 (fun _ => true) true Tryz.f3.params.toList b5.toList ds p := b8
 rw [Tryz.params3] at hA a6
 obtain ⟨v0,r0,d0,e0,p0,q0,x0,y0,z0,h0,hA⟩ := trodAll_cons hA
 obtain ⟨v1,r1,d1,e1,p1,q1,x1,y1,z1,h1,hA⟩ := trodAll_cons hA
 obtain ⟨v2,r2,d2,e2,p2,q2,x2,y2,z2,h2,hA⟩ := trodAll_cons hA
 obtain ⟨v3,r3,d3,e3,p3,q3,x3,y3,z3,h3,hA⟩ := trodAll_cons hA
 obtain ⟨hr,he⟩ : r3 = [] /\ e3 = [] := by
  have := hA; revert this; cases r3 <;> cases e3 <;> simp [DataW.TrodAll]
 have a8 : b5 = #[v0,v1,v2,v3] := by apply Array.toList_inj.1; simp only [hr,x0,x1,x2,x3]
 subst a8
 obtain ⟨rfl,rfl⟩ := trodVars_none hV
 have b6 : ds = [d0,d1,d2,d3] := by simp only [y0,y1,y2,y3,he]
 obtain ⟨a0,b0⟩ := TE oRo Tryz.underlying24 (a6 0 24 v0 rfl rfl) h0
 obtain ⟨a1a,a1n,a1c,rfl⟩ := okWide_slice Tryz.underlying25 (a6 1 25 v1 rfl rfl)
 obtain ⟨a1,b1⟩ := SO (F0 Tryz.underlying25 (by kernel_rfl) oDe) rfl rfl h1
 obtain ⟨a2,rfl,_,_,_⟩ := open_int Tryz.underlying3 (a6 2 3 v2 rfl rfl) h2
 have b2 : Ao W (fun g => g < W.heap.size) (.int .i64 a2) (.int .i64 a2) := rfl
 obtain ⟨a3,rfl,_,_,_⟩ := open_int Tryz.underlying3 (a6 3 3 v3 rfl rfl) h3
 have b3 : Ao W (fun g => g < W.heap.size) (.int .i64 a3) (.int .i64 a3) := rfl
 refine ((MM (G := fun _ => none)).run (fun g => g < W.heap.size) W [.agg (Ro.L a0),.view Fx.k a1.1 fun i j => Fx.C (a1.2 i) j,.int .i64 a2,.int .i64 a3] [_,_,_,_] (fun _ _ _ h => by cases h) ⟨_,_,rfl,b0,⟨_,_,rfl,b1,⟨_,_,rfl,b2,⟨_,_,rfl,b3,rfl⟩⟩⟩⟩ ⟨Ro.is_enc a0,⟨rfl,Fx.w_enc _ _⟩,rfl,rfl,trivial⟩).mono fun e W' h => ?_
 obtain ⟨x,rfl,hx,hb⟩ := h
 obtain rfl : x = .bool true := hx
 rw [List.append_nil] at hW
 exact ⟨_,rfl,Qy rfl (by rw [b6]; rfl) H4 (by kernel_rfl) hW hb.1⟩
theorem deedOwners_holds : Rows.DeedOwnersSaid :=
 OpenClaim.holds_of_wide 3 Tryz.f3 rfl rfl rfl rfl rfl rfl rfl ⟨rfl,rfl,rfl,rfl,rfl⟩ rfl rfl rfl rfl rfl (by kernel_rfl) Tryz.func3 (by kernel_rfl)
  (of_decide_eq_true (by kernel_rfl)) (by unfold Func.isWrapper; first | (rw [if_pos (by decide +kernel)]; kernel_rfl) | (rw [if_neg (by decide +kernel)]; exact ⟨rfl,rfl⟩))
  (fun os a5 H enc _ => a4 os a5 H enc)
end Go.Proofs.YtlieoghhkioflaaGreat
