/- DeedBound' statement: for every input the law returns true, and each argument reads as it did. No condition. -/
import Derived.Test.YtlieoghhkioflaaGreatLDoor
import Derived.Test.YtlieoghhkioflaaGreatDbo
set_option linter.unusedSimpArgs false
set_option linter.unusedVariables false
set_option maxRecDepth 100000
namespace Go.Proofs.YtlieoghhkioflaaGreat
open Go Go.RowKit Go.ChangeShapes Go.WideShapes Go.ChangeAt Go.Deep
theorem IR:∀t∈Tryz.f11.params.toList,Tryz.prog.readableRec t=true/\t<Tryz.prog.types.size:=by
 intro t ht
 rw[Tryz.params11]at ht
 simp at ht
 rcases ht with rfl|rfl|rfl|rfl|rfl|rfl
 ·exact⟨by kernel_rfl,of_decide_eq_true (by kernel_rfl)⟩
 ·exact⟨by kernel_rfl,of_decide_eq_true (by kernel_rfl)⟩
 ·exact⟨by kernel_rfl,of_decide_eq_true (by kernel_rfl)⟩
 ·exact⟨by kernel_rfl,of_decide_eq_true (by kernel_rfl)⟩
 ·exact⟨by kernel_rfl,of_decide_eq_true (by kernel_rfl)⟩
 exact⟨by kernel_rfl,of_decide_eq_true (by kernel_rfl)⟩
theorem deedBound_lifted(os:Os)(started:os.Started)(H:Type)(enc:TypeId×Value->H):
  ReturnsInHanded {} Tryz.checked os 11 .any (Rows.deedBoundSpec.pre6 enc Tryz.prog Tryz.f11 Rows.deedBoundRow.domain false) (Rows.deedBoundSpec.post enc Tryz.prog Tryz.f11 false true false false):=by
 refine returnsInHanded_of_change (C:=Tryz.checked) Qd started (by kernel_rfl) Tryz.func11
  (ChangeSpec.witness6 (enc:=enc) (C:=Tryz.checked) false ⟨#[],#[.agg #[.int .i64 0,.int .i64 0],.slice none 0 0,.slice none 0 0,.int .u16 0,.int .u8 0,.int .u32 0],[]⟩ 8 (by kernel_rfl) (by kernel_rfl) (by kernel_rfl) (by kernel_rfl)) ?_
 intro W base args ds gs before hval0 hW hcnd _
 have hval:∀(j:Nat) t v,Tryz.f11.params[j]?=some t->args[j]?=some v->Value.okWide Tryz.prog W .any base t v:=hval0
 have hW':=hW
 obtain⟨p,q,hA0,hV,rfl,hfz,hnd⟩:=hW
 have hA:DataW.TrodAll enc Tryz.prog W 0 (fun _=>true) true Tryz.f11.params.toList args.toList ds p:=hA0
 rw[Tryz.params11]at hA hval
 obtain⟨v0,r0,d0,e0,p0,q0,x0,y0,z0,h0,hA⟩:=trodAll_cons hA
 obtain⟨v1,r1,d1,e1,p1,q1,x1,y1,z1,h1,hA⟩:=trodAll_cons hA
 obtain⟨v2,r2,d2,e2,p2,q2,x2,y2,z2,h2,hA⟩:=trodAll_cons hA
 obtain⟨v3,r3,d3,e3,p3,q3,x3,y3,z3,h3,hA⟩:=trodAll_cons hA
 obtain⟨v4,r4,d4,e4,p4,q4,x4,y4,z4,h4,hA⟩:=trodAll_cons hA
 obtain⟨v5,r5,d5,e5,p5,q5,x5,y5,z5,h5,hA⟩:=trodAll_cons hA
 have hend:r5=[]/\e5=[]:=by
  have:=hA;revert this;cases r5<;>cases e5<;>simp[DataW.TrodAll]
 obtain⟨hr,he⟩:=hend
 have hargs:args= #[v0,v1,v2,v3,v4,v5]:=by apply Array.toList_inj.1;simp only[hr,x0,x1,x2,x3,x4,x5]
 subst hargs
 obtain⟨rfl,rfl⟩:=trodVars_none hV
 have hds:ds=[d0,d1,d2,d3,d4,d5]:=by simp only[y0,y1,y2,y3,y4,y5,he]
 clear hA0 hval0
 obtain⟨a0,b0⟩:=PG oTu Tryz.underlying45 (hval 0 45 v0 rfl rfl) h0
 obtain⟨a1a,a1n,a1c,rfl⟩:=okWide_slice Tryz.underlying71 (hval 1 71 v1 rfl rfl)
 obtain⟨a1,b1⟩:=Lr (F2 Tryz.underlying71 (by kernel_rfl) oBd) rfl rfl h1
 obtain⟨a2a,a2n,a2c,rfl⟩:=okWide_slice Tryz.underlying80 (hval 2 80 v2 rfl rfl)
 obtain⟨a2,b2⟩:=Lr (F2 Tryz.underlying80 (by kernel_rfl) oPc) rfl rfl h2
 obtain⟨a30,rfl,_,_,wf3⟩:=open_int Tryz.underlying72 (hval 3 72 v3 rfl rfl) h3
 obtain⟨a3,rfl⟩:∃a:UI .u16,a.1=a30:=⟨⟨_,Qc wf3⟩,rfl⟩
 have b3:An W (fun g=>g<W.heap.size) (.int .u16 a3.1) (.int .u16 a3.1):=rfl
 obtain⟨a40,rfl,_,_,wf4⟩:=open_int Tryz.underlying5 (hval 4 5 v4 rfl rfl) h4
 obtain⟨a4,rfl⟩:∃a:UI .u8,a.1=a40:=⟨⟨_,Qc wf4⟩,rfl⟩
 have b4:An W (fun g=>g<W.heap.size) (.int .u8 a4.1) (.int .u8 a4.1):=rfl
 obtain⟨a50,rfl,_,_,wf5⟩:=open_int Tryz.underlying52 (hval 5 52 v5 rfl rfl) h5
 obtain⟨a5,rfl⟩:∃a:UI .u32,a.1=a50:=⟨⟨_,Qc wf5⟩,rfl⟩
 have b5:An W (fun g=>g<W.heap.size) (.int .u32 a5.1) (.int .u32 a5.1):=rfl
 refine((W3 (G:=fun _=>none)).run (fun g=>g<W.heap.size) W [.agg (Tu.L a0),.view NA.k a1.1 fun i j=>NA.C (a1.2 i) j,.view UY.k a2.1 fun i j=>UY.C (a2.2 i) j,.int .u16 a3.1,.int .u8 a4.1,.int .u32 a5.1] [_,_,_,_,_,_] (fun _ _ _ h=>by cases h) ⟨_,_,rfl,b0,⟨_,_,rfl,b1,⟨_,_,rfl,b2,⟨_,_,rfl,b3,⟨_,_,rfl,b4,⟨_,_,rfl,b5,rfl⟩⟩⟩⟩⟩⟩ ⟨Tu.is_enc a0,⟨rfl,NA.w_enc _ _⟩,⟨rfl,UY.w_enc _ _⟩,⟨rfl,a3.2⟩,⟨rfl,a4.2⟩,⟨rfl,a5.2⟩,trivial⟩).mono fun e W' hh=> ?_
 obtain⟨x,rfl,hx,hb⟩:=hh
 obtain rfl:x= .bool true:=hx
 rw[List.append_nil]at hW'
 exact⟨_,rfl,NR rfl (by rw[hds];rfl) IR (by kernel_rfl) hW' hb.1⟩
theorem deedBound_holds:Rows.DeedBoundSaid:=
 OpenClaim.holds_of_wide 11 Tryz.f11 rfl rfl rfl rfl rfl rfl rfl ⟨rfl,rfl,rfl,rfl,rfl⟩ rfl rfl rfl rfl rfl (by kernel_rfl) Tryz.func11 (by kernel_rfl)
  (of_decide_eq_true (by kernel_rfl)) (by unfold Func.isWrapper;first|(rw[if_pos (by decide+kernel)];kernel_rfl)|(rw[if_neg (by decide+kernel)];exact⟨rfl,rfl⟩))
  (fun os started H enc _=>deedBound_lifted os started H enc)
end Go.Proofs.YtlieoghhkioflaaGreat
