/- From a row's readings to a walk's facts: slices of structs opened; what the arguments read as is kept. No condition. -/
import Derived.Test.YtlieoghhkioflaaGreatRows
import Derived.Test.YtlieoghhkioflaaGreatE1
import Derived.ProofKit
import Derived.Deep.Slices
import Derived.OpenShut
set_option linter.unusedSimpArgs false
set_option linter.unusedVariables false
namespace Go.Proofs.YtlieoghhkioflaaGreat
open Go Go.RowKit Go.ChangeShapes Go.WideShapes Go.ChangeAt Go.Deep
theorem V3:ownKnob Tryz.prog.godebug=none:=by kernel_rfl
theorem Sk:laidOutB Tryz.prog=true:=by kernel_rfl
section
variable{H:Type}{enc:TypeId×Value->H}{W W':World}
theorem GL{P:Program}(hl:laidOutB P=true)(hb:YX W W'):∀(ts:List TypeId) (vs:List Value) (ds:List (DataW H)) (ps:List MemPlace),(∀t∈ts,P.readableRec t=true/\t<P.types.size)->
  DataW.TrodAll enc P W 0 (fun _=>true) true ts vs ds ps->(∀x∈ps,x.block<W.heap.size)->DataW.TrodAll enc P W' 0 (fun b=>decide (b<W.heap.size)) true ts vs ds ps
 |[],[],[],ps,_,h,_=>h
 |t::ts,v::vs,d::ds,ps,ht,h,hlt=>by
  obtain⟨p,q,h1,h2,rfl⟩:=h
  have:=ht t (by simp)
  exact⟨p,q,Below.trod hl this.1 this.2 h1 hb (fun x hx=>hlt x (by simp[hx])),GL hl hb ts vs ds q (fun t' ht'=>ht t' (by simp[ht'])) h2 (fun x hx=>hlt x (by simp[hx])),rfl⟩
 |[],_::_,_,_,_,h,_=>by simp[DataW.TrodAll]at h
 |[],[],_::_,_,_,h,_=>by simp[DataW.TrodAll]at h
 |_::_,[],_,_,_,h,_=>by simp[DataW.TrodAll]at h
 |_::_,_::_,[],_,_,h,_=>by simp[DataW.TrodAll]at h
theorem UU{f:Func}{s:ChangeSpec}{args:Array Value}{ds:List (DataW H)}{before:List MemPlace}(hsv:s.vars=[])(hfn:s.fn H ds={results:=[.lit (.bool true)],args:=ds})
  (hp:∀t∈f.params.toList,Tryz.prog.readableRec t=true/\t<Tryz.prog.types.size) (hr:f.resultTypes= #[4])
  (hW:DataW.Whole enc Tryz.prog f.params.toList s.vars false W args.toList ds [] before) (hb:YX W W'):s.post enc Tryz.prog f false true false false W args (.bool true) W':=by
 have hW':=hW
 have hlt:=fun p hp=>hW.lt (p:=p) hp
 obtain⟨p,q,hA,hV,rfl,hfz,hnd⟩:=hW
 rw[hsv]at hV
 obtain⟨_,rfl⟩:=trodVars_none hV
 simp only[List.append_nil]at hW' hlt⊢
 refine⟨ds,[],p,[],p,[],hW',?_,?_,?_,hb.frame _,fun h=>by cases h⟩
 ·rw[List.append_nil,hfn,hr]
  exact trodAll_mk1 (shut_bool Tryz.underlying4 true)
 ·rw[List.append_nil,hfn]
  exact GL Sk hb _ _ _ _ hp hA (fun x hx=>hlt x hx)
 rw[hsv,List.append_nil,hfn];rfl
end
end Go.Proofs.YtlieoghhkioflaaGreat
