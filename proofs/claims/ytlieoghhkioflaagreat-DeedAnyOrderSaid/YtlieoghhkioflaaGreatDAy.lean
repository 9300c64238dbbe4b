/- DeedAnyOrder's statement: for every input the law returns true, and each argument reads as it did. No condition. -/
import Derived.Test.YtlieoghhkioflaaGreatLDez
import Derived.Test.YtlieoghhkioflaaGreatDao
set_option linter.unusedSimpArgs false
set_option linter.unusedVariables false
set_option maxRecDepth 100000
namespace Go.Proofs.YtlieoghhkioflaaGreat
open Go Go.RowKit Go.ChangeShapes Go.WideShapes Go.ChangeAt Go.Deep
theorem G8:∀t∈Tryz.f4.params.toList,Tryz.prog.readableRec t=true/\t<Tryz.prog.types.size:=by
 intro t ht
 rw[Tryz.params4]at ht
 simp at ht
 rcases ht with rfl|rfl|rfl|rfl
 ·exact⟨by kernel_rfl,of_decide_eq_true (by kernel_rfl)⟩
 ·exact⟨by kernel_rfl,of_decide_eq_true (by kernel_rfl)⟩
 ·exact⟨by kernel_rfl,of_decide_eq_true (by kernel_rfl)⟩
 exact⟨by kernel_rfl,of_decide_eq_true (by kernel_rfl)⟩
theorem deedAnyOrder_lifted(os:Os)(started:os.Started)(H:Type)(enc:TypeId×Value->H):
  ReturnsInHanded {} Tryz.checked os 4 .any (Rows.deedAnyOrderSpec.pre6 enc Tryz.prog Tryz.f4 Rows.deedAnyOrderRow.domain false) (Rows.deedAnyOrderSpec.post enc Tryz.prog Tryz.f4 false true false false):=by
 refine returnsInHanded_of_change (C:=Tryz.checked) V3 started (by kernel_rfl) Tryz.func4
  (ChangeSpec.witness6 (enc:=enc) (C:=Tryz.checked) false ⟨#[],#[.agg #[.int .i64 0,.slice none 0 0],.slice none 0 0,.int .i64 0,.slice none 0 0],[]⟩ 8 (by kernel_rfl) (by kernel_rfl) (by kernel_rfl) (by kernel_rfl)) ?_
 intro W base args ds gs before hval0 hW hcnd _
 have hval:∀(j:Nat) t v,Tryz.f4.params[j]?=some t->args[j]?=some v->Value.okWide Tryz.prog W .any base t v:=hval0
 have hW':=hW
 obtain⟨p,q,hA0,hV,rfl,hfz,hnd⟩:=hW
 have hA:DataW.TrodAll enc Tryz.prog W 0 (fun _=>true) true Tryz.f4.params.toList args.toList ds p:=hA0
 rw[Tryz.params4]at hA hval
 obtain⟨v0,r0,d0,e0,p0,q0,x0,y0,z0,h0,hA⟩:=trodAll_cons hA
 obtain⟨v1,r1,d1,e1,p1,q1,x1,y1,z1,h1,hA⟩:=trodAll_cons hA
 obtain⟨v2,r2,d2,e2,p2,q2,x2,y2,z2,h2,hA⟩:=trodAll_cons hA
 obtain⟨v3,r3,d3,e3,p3,q3,x3,y3,z3,h3,hA⟩:=trodAll_cons hA
 have hend:r3=[]/\e3=[]:=by
  have:=hA;revert this;cases r3<;>cases e3<;>simp[DataW.TrodAll]
 obtain⟨hr,he⟩:=hend
 have hargs:args= #[v0,v1,v2,v3]:=by apply Array.toList_inj.1;simp only[hr,x0,x1,x2,x3]
 subst hargs
 obtain⟨rfl,rfl⟩:=trodVars_none hV
 have hds:ds=[d0,d1,d2,d3]:=by simp only[y0,y1,y2,y3,he]
 clear hA0 hval0
 obtain⟨a0,b0⟩:=Vs oRo Tryz.underlying24 (hval 0 24 v0 rfl rfl) h0
 obtain⟨a1a,a1n,a1c,rfl⟩:=okWide_slice Tryz.underlying25 (hval 1 25 v1 rfl rfl)
 obtain⟨a1,b1⟩:=Qs (E0 Tryz.underlying25 (by kernel_rfl) oDe) rfl rfl h1
 obtain⟨a2,rfl,_,_,_⟩:=open_int Tryz.underlying3 (hval 2 3 v2 rfl rfl) h2
 have b2:Ao W (fun g=>g<W.heap.size) (.int .i64 a2) (.int .i64 a2):=rfl
 obtain⟨a3a,a3n,a3c,rfl⟩:=okWide_slice Tryz.underlying50 (hval 3 50 v3 rfl rfl)
 obtain⟨a3,b3⟩:=Qs (E0 Tryz.underlying50 (by kernel_rfl) (To Tryz.underlying52 (by kernel_rfl))) rfl rfl h3
 refine((Xd (G:=fun _=>none)).run (fun g=>g<W.heap.size) W [.agg (Ro.L a0),.view Gq.k a1.1 fun i j=>Gq.C (a1.2 i) j,.int .i64 a2,.view (RU .u32).k a3.1 fun i j=>(RU .u32).C (a3.2 i) j] [_,_,_,_] (fun _ _ _ h=>by cases h) ⟨_,_,rfl,b0,⟨_,_,rfl,b1,⟨_,_,rfl,b2,⟨_,_,rfl,b3,rfl⟩⟩⟩⟩ ⟨Ro.is_enc a0,⟨rfl,Gq.w_enc _ _⟩,rfl,⟨rfl,(RU .u32).w_enc _ _⟩,trivial⟩).mono fun e W' hh=> ?_
 obtain⟨x,rfl,hx,hb⟩:=hh
 obtain rfl:x= .bool true:=hx
 rw[List.append_nil]at hW'
 exact⟨_,rfl,UU rfl (by rw[hds];rfl) G8 (by kernel_rfl) hW' hb.1⟩
theorem deedAnyOrder_holds:Rows.DeedAnyOrderSaid:=
 OpenClaim.holds_of_wide 4 Tryz.f4 rfl rfl rfl rfl rfl rfl rfl ⟨rfl,rfl,rfl,rfl,rfl⟩ rfl rfl rfl rfl rfl (by kernel_rfl) Tryz.func4 (by kernel_rfl)
  (of_decide_eq_true (by kernel_rfl)) (by unfold Func.isWrapper;first|(rw[if_pos (by decide+kernel)];kernel_rfl)|(rw[if_neg (by decide+kernel)];exact⟨rfl,rfl⟩))
  (fun os started H enc _=>deedAnyOrder_lifted os started H enc)
end Go.Proofs.YtlieoghhkioflaaGreat
