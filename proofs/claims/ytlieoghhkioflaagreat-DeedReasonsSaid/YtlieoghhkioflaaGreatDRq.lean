/- DeedReasons's statement: for every input the law returns true, and each argument reads as it did. No condition. -/
import Derived.Test.YtlieoghhkioflaaGreatLDez
import Derived.Test.YtlieoghhkioflaaGreatLRe
set_option linter.unusedSimpArgs false
set_option linter.unusedVariables false
set_option maxRecDepth 100000
namespace Go.Proofs.YtlieoghhkioflaaGreat
open Go Go.RowKit Go.ChangeShapes Go.WideShapes Go.ChangeAt Go.Deep
theorem G9:∀t∈Tryz.f6.params.toList,Tryz.prog.readableRec t=true/\t<Tryz.prog.types.size:=by
 intro t ht
 rw[Tryz.params6]at ht
 simp at ht
 rcases ht with rfl|rfl|rfl
 ·exact⟨by kernel_rfl,of_decide_eq_true (by kernel_rfl)⟩
 ·exact⟨by kernel_rfl,of_decide_eq_true (by kernel_rfl)⟩
 exact⟨by kernel_rfl,of_decide_eq_true (by kernel_rfl)⟩
theorem deedReasons_lifted(os:Os)(started:os.Started)(H:Type)(enc:TypeId×Value->H):
  ReturnsInHanded {} Tryz.checked os 6 .any (Rows.deedReasonsSpec.pre6 enc Tryz.prog Tryz.f6 Rows.deedReasonsRow.domain false) (Rows.deedReasonsSpec.post enc Tryz.prog Tryz.f6 false true false false):=by
 refine returnsInHanded_of_change (C:=Tryz.checked) VY started (by kernel_rfl) Tryz.func6
  (ChangeSpec.witness6 (enc:=enc) (C:=Tryz.checked) false ⟨#[],#[.agg #[.int .i64 0,.slice none 0 0],.slice none 0 0,.int .u8 0],[]⟩ 8 (by kernel_rfl) (by kernel_rfl) (by kernel_rfl) (by kernel_rfl)) ?_
 intro W base args ds gs before hval0 hW hcnd _
 have hval:∀(j:Nat) t v,Tryz.f6.params[j]?=some t->args[j]?=some v->Value.okWide Tryz.prog W .any base t v:=hval0
 have hW':=hW
 obtain⟨p,q,hA0,hV,rfl,hfz,hnd⟩:=hW
 have hA:DataW.TrodAll enc Tryz.prog W 0 (fun _=>true) true Tryz.f6.params.toList args.toList ds p:=hA0
 rw[Tryz.params6]at hA hval
 obtain⟨v0,r0,d0,e0,p0,q0,x0,y0,z0,h0,hA⟩:=trodAll_cons hA
 obtain⟨v1,r1,d1,e1,p1,q1,x1,y1,z1,h1,hA⟩:=trodAll_cons hA
 obtain⟨v2,r2,d2,e2,p2,q2,x2,y2,z2,h2,hA⟩:=trodAll_cons hA
 have hend:r2=[]/\e2=[]:=by
  have:=hA;revert this;cases r2<;>cases e2<;>simp[DataW.TrodAll]
 obtain⟨hr,he⟩:=hend
 have hargs:args= #[v0,v1,v2]:=by apply Array.toList_inj.1;simp only[hr,x0,x1,x2]
 subst hargs
 obtain⟨rfl,rfl⟩:=trodVars_none hV
 have hds:ds=[d0,d1,d2]:=by simp only[y0,y1,y2,he]
 clear hA0 hval0
 obtain⟨a0,b0⟩:=V6 oRo Tryz.underlying24 (hval 0 24 v0 rfl rfl) h0
 obtain⟨a1a,a1n,a1c,rfl⟩:=okWide_slice Tryz.underlying25 (hval 1 25 v1 rfl rfl)
 obtain⟨a1,b1⟩:=Wk (FV Tryz.underlying25 (by kernel_rfl) oDe) rfl rfl h1
 obtain⟨a20,rfl,_,_,wf2⟩:=open_int Tryz.underlying5 (hval 2 5 v2 rfl rfl) h2
 obtain⟨a2,rfl⟩:∃a:UI .u8,a.1=a20:=⟨⟨_,Aa4 wf2⟩,rfl⟩
 have b2:Ap W (fun g=>g<W.heap.size) (.int .u8 a2.1) (.int .u8 a2.1):=rfl
 refine((VR (G:=fun _=>none)).run (fun g=>g<W.heap.size) W [.agg (Ro.L a0),.view GD.k a1.1 fun i j=>GD.C (a1.2 i) j,.int .u8 a2.1] [_,_,_] (fun _ _ _ h=>by cases h) ⟨_,_,rfl,b0,⟨_,_,rfl,b1,⟨_,_,rfl,b2,rfl⟩⟩⟩ ⟨Ro.is_enc a0,⟨rfl,GD.w_enc _ _⟩,⟨rfl,a2.2⟩,trivial⟩).mono fun e W' hh=> ?_
 obtain⟨x,rfl,hx,hb⟩:=hh
 obtain rfl:x= .bool true:=hx
 rw[List.append_nil]at hW'
 exact⟨_,rfl,Sg rfl (by rw[hds];rfl) G9 (by kernel_rfl) hW' hb.1⟩
theorem deedReasons_holds:Rows.DeedReasonsSaid:=
 OpenClaim.holds_of_wide 6 Tryz.f6 rfl rfl rfl rfl rfl rfl rfl ⟨rfl,rfl,rfl,rfl,rfl⟩ rfl rfl rfl rfl rfl (by kernel_rfl) Tryz.func6 (by kernel_rfl)
  (of_decide_eq_true (by kernel_rfl)) (by unfold Func.isWrapper;first|(rw[if_pos (by decide+kernel)];kernel_rfl)|(rw[if_neg (by decide+kernel)];exact⟨rfl,rfl⟩))
  (fun os started H enc _=>deedReasons_lifted os started H enc)
end Go.Proofs.YtlieoghhkioflaaGreat
