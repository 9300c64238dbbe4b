/- The engine: Base, Map, MapO, FVal, FCode, FRun, FComp, FMem. No condition. -/
import Derived.WalkKit
import Derived.WalkLawsBesides
import Derived.WalkSpells
import Derived.Deep.LoopGhost
import Derived.Deep.DeepCutAuto
import Derived.Deep.RegionWith
import Derived.Deep.RegionHeld3
import Derived.BigQuiet
import Derived.Deep.QuietTactic
import Derived.Lib.Hide
import Derived.Maps.OwnOps
import Derived.Maps.RangeRun
import Derived.Laws.BytesArg
import Derived.Lib.LazyBuf
import Derived.Orders
set_option linter.unusedSimpArgs false
set_option linter.unusedVariables false
namespace Go.Proofs.YtlieoghhkioflaaGreat
open Go Go.RowKit
variable{cs:List Value}{b:Nat}{t:TypeId}{v:Value}{w w':World}
abbrev YX(w w':World):Prop:=Below w.heap.size w w'
theorem St(h:YX w w'){p:Addr}(hv:w.cell? p=some v):w'.cell? p=some v:=by
 have:p.block<w.heap.size:=by
  rcases Nat.lt_or_ge p.block w.heap.size with h1|h1
  ·exact h1
  simp[World.cell?,Array.getElem?_eq_none h1]at hv
 rw[h.cell this];exact hv
theorem Wf{p:Addr}(hv:w.cell? p=some v):p.block<w.heap.size:=by
 rcases Nat.lt_or_ge p.block w.heap.size with h1|h1
 ·exact h1
 simp[World.cell?,Array.getElem?_eq_none h1]at hv
def Hv(w:World)(b:Nat)(cs:List Value)(t:TypeId):Prop:=w.heap[b]?=some (.cells cs.toArray t (0,0))
theorem Hv.cell(h:Hv w b cs t)(i:Nat):w.cell? ⟨b,i,none⟩=cs[i]?:=by
 unfold Hv at h;simp[World.cell?,h]
theorem Hv.lt(h:Hv w b cs t):b<w.heap.size:=lt_of_block h
theorem Hv.below{B:Nat}(h:Hv w b cs t)(hb:Below B w w')(hB:b<B):Hv w' b cs t:=(hb.block b hB).trans h
theorem Hv.ext(h:Hv w b cs t)(hb:YX w w'):Hv w' b cs t:=h.below hb h.lt
theorem Hv.alloc(h:Hv w b cs t)(o:Obj):Hv (w.alloc o) b cs t:=(Below.heap_alloc w o b h.lt).trans h
theorem Hv.drew(h:Hv w b cs t):Hv w.drew b cs t:=h
theorem EF(w:World)(o:Obj):(w.alloc o).heap[w.heap.size]?=some o:=by show(w.heap.push o)[_]?=_;simp
theorem Hv.new(w:World)(cs:List Value)(t:TypeId):Hv (w.alloc (.cells cs.toArray t)) w.heap.size cs t:=EF w _
theorem Hv.new'(w:World)(cs:List Value)(t:TypeId)(h:b=w.heap.size):Hv (w.alloc (.cells cs.toArray t)) b cs t:=by subst h;exact Hv.new w cs t
theorem Hv.set(h:Hv w b cs t)(i:Nat)(v:Value):Hv (w.setCell ⟨b,i,none⟩ v) b (cs.set i v) t:=by
 have hlt:=h.lt
 unfold Hv at h
 have h':w.heap[b]= .cells cs.toArray t (0,0):=by simpa[Array.getElem?_eq_getElem hlt]using h
 show(w.heap.modify b _)[b]?=_
 rw[Array.getElem?_eq_getElem (by simpa using hlt),Array.getElem_modify_self,h']
 simp
theorem Hv.setO{b':Nat}(h:Hv w b cs t)(hne:b≠b')(i:Nat)(v:Value):Hv (w.setCell ⟨b',i,none⟩ v) b cs t:=(Below.heap_setCell w ⟨b',i,none⟩ v b hne).trans h
def Cel(w:World)(b off k n:Nat)(f:Nat->Nat->Value):Prop:=∀i,i<n->∀j,j<k->w.cell? ⟨b,off+i*k+j,none⟩=some (f i j)
theorem Cel.ext{off k n:Nat}{f:Nat->Nat->Value}(h:Cel w b off k n f)(he:YX w w'):Cel w' b off k n f:=fun i hi j hj=>St he (h i hi j hj)
def SL(w:World)(v:Value)(k n:Nat)(f:Nat->Nat->Value):Prop:=
 ∃a c,v= .slice a n c/\n<=maxLen/\(0<n->∃b off,a=some ⟨b,off,none⟩/\Cel w b off k n f)
theorem SL.ext{k n:Nat}{f:Nat->Nat->Value}(h:SL w v k n f)(he:YX w w'):SL w' v k n f:=by
 obtain⟨a,c,hv,hn,hc⟩:=h
 exact⟨a,c,hv,hn,fun h0=>by obtain⟨b,off,ha,hx⟩:=hc h0;exact⟨b,off,ha,hx.ext he⟩⟩
theorem GS{P:Program}{f:FuncId}{fn:Func}{c:Code}(hf:P.funcs[f]?=some fn)(hname:(fn.name== "runtime.NumGoroutine")=false)(hb:fn.body=some c):
  ∀args w,(callFunc f args).run P w= .ok (.enter f args) w:=by
 intro args w
 have hn:¬fn.name= "runtime.NumGoroutine" :=by simpa using hname
 simp[callFunc,hf,hn,hb,Result.andThen]
end Go.Proofs.YtlieoghhkioflaaGreat
/- Maps with integer keys,said by a function from keys to values: a map that the call makes; a store; a look-up. No condition. -/
namespace Go.Proofs.YtlieoghhkioflaaGreat
open Go Go.RowKit
def Be(kd:IntKind)(k:Int)(e:MapEntry):Bool:=match e.key with| .int j n=>decide (j=kd)&&(n==k)|_=>false
def CU(w:World)(b:Nat)(kd:IntKind)(g:Int->Option Value):Prop:=
 ∃es clock,w.heap[b]?=some (.map es clock)/\(∀e∈es.toList,∃n,e.key= .int kd n)/\∀k,((es.toList.find? (Be kd k)).map (·.val))=g k
theorem CU.congr{w:World}{b:Nat}{kd:IntKind}{g g':Int->Option Value}(h:CU w b kd g)(e:∀k,g k=g' k):CU w b kd g':=by
 have:g=g':=funext e
 subst this;exact h
theorem CU.lt{w:World}{b:Nat}{kd:IntKind}{g:Int->Option Value}(h:CU w b kd g):b<w.heap.size:=by
 obtain⟨es,c,h1,_⟩:=h;exact lt_of_block h1
theorem CU.below{w w':World}{B b:Nat}{kd:IntKind}{g:Int->Option Value}(h:CU w b kd g)(hb:Below B w w')(hB:b<B):CU w' b kd g:=by
 obtain⟨es,c,h1,h2⟩:=h;exact⟨es,c,(hb.block b hB).trans h1,h2⟩
theorem CU.ext{w w':World}{b:Nat}{kd:IntKind}{g:Int->Option Value}(h:CU w b kd g)(hb:YX w w'):CU w' b kd g:=h.below hb h.lt
theorem CU.alloc{w:World}{b:Nat}{kd:IntKind}{g:Int->Option Value}(h:CU w b kd g)(o:Obj):CU (w.alloc o) b kd g:=by
 have hl:=h.lt
 obtain⟨es,c,h1,h2⟩:=h;exact⟨es,c,(Below.heap_alloc w o b hl).trans h1,h2⟩
theorem CU.drew{w:World}{b:Nat}{kd:IntKind}{g:Int->Option Value}(h:CU w b kd g):CU w.drew b kd g:=h
theorem CU.setCell{w:World}{b b':Nat}{kd:IntKind}{g:Int->Option Value}(h:CU w b kd g)(hne:b≠b')(i:Nat)(v:Value):CU (w.setCell ⟨b',i,none⟩ v) b kd g:=by
 obtain⟨es,c,h1,h2⟩:=h;exact⟨es,c,(Below.heap_setCell w ⟨b',i,none⟩ v b hne).trans h1,h2⟩
theorem CU.new(w:World)(kd:IntKind):CU (w.alloc (.map #[] 0)) w.heap.size kd (fun _=>none):=⟨#[],0,EF w _,by simp,by simp⟩
theorem CU.new'(w:World)(kd:IntKind){b:Nat}(h:b=w.heap.size):CU (w.alloc (.map #[] 0)) b kd (fun _=>none):=by subst h;exact CU.new w kd
theorem EQ(kd:IntKind)(k:Int):∀(es:List MapEntry) (i:Nat),(∀e∈es,∃n,e.key= .int kd n)->
  ∃r,Instr.findNow (.int kd) (.int kd k) es i=some r/\
   ((r=none/\es.find? (Be kd k)=none)\/(∃j e,r=some (i+j,e.val)/\es[j]?=some e/\Be kd k e=true/\es.find? (Be kd k)=some e/\∀j'<j,∀e',es[j']?=some e'->Be kd k e'=false))
 |[],i,_=>⟨none,rfl,.inl ⟨rfl,rfl⟩⟩
 |e::es,i,h=>by
  obtain⟨n,hn⟩:=h e (by simp)
  by_cases hk:k=n
  ·subst hk
   have hki:Be kd k e=true:=by simp[Be,hn]
   refine⟨some (i,e.val),by simp[Instr.findNow,Instr.sameNow,hn],.inr ⟨0,e,by simp,by simp,hki,by simp[List.find?,hki],by omega⟩⟩
  have hki:Be kd k e=false:=by simp[Be,hn];omega
  obtain⟨r,hr,hc⟩:=EQ kd k es (i+1) (fun x hx=>h x (by simp[hx]))
  refine⟨r,?_,?_⟩
  ·have:(k==n)=false:=by simpa using hk
   simp[Instr.findNow,Instr.sameNow,hn,this,hr]
  rcases hc with⟨rfl,hf⟩|⟨j,e',rfl,he,hke,hf,hlt⟩
  ·exact .inl ⟨rfl,by simp[List.find?,hki,hf]⟩
  refine .inr ⟨j+1,e',by simp;omega,by simpa using he,hke,by simp[List.find?,hki,hf],?_⟩
  intro j' hj' e'' he''
  cases j' with
  |zero=>simp at he'';subst he'';exact hki
  |succ j'=>exact hlt j' (by omega) e'' (by simpa using he'')
section
variable{P:Program}{T K E:TypeId}{kd:IntKind}{w:World}{b:Nat}{g:Int->Option Value}
theorem DM(hK:P.underlying K=some (.int kd))(n:Nat)(e:Bool)(k:Int):(Instr.checkKey e (n+1) K (.int kd k)).run P w= .ok () w:=by
 simp[Instr.checkKey,run_underlying hK,Result.andThen]
theorem FK(hm:CU w b kd g)(hT:P.underlying T=some (.map K E))(hK:P.underlying K=some (.int kd))(z:Value)(hz:(zeroValue E).run P w= .ok z w)(k:Int)(ok:Bool):
  (Instr.lookup T (.map (some b)) (.int kd k) ok).run P w= .ok (if ok then .tuple #[(g k).getD z,.bool (g k).isSome]else(g k).getD z) w:=by
 obtain⟨es,c,hb,hkeys,hg⟩:=hm
 obtain⟨r,hr,hc⟩:=EQ kd k es.toList 0 hkeys
 have hck:=fun e=>DM (w:=w) hK 9999 e k
 have hgk:=hg k
 simp only[Instr.lookup]
 rcases hc with⟨rfl,hf⟩|⟨j,e,rfl,he,hke,hf,hlt⟩
 ·rw[hf]at hgk
  simp[run_underlying hT,run_underlying hK,MapKept.run_getObj_map hb,hck,Instr.findKey,hr,hz,<-hgk,Result.andThen]
 rw[hf]at hgk
 simp[run_underlying hT,run_underlying hK,MapKept.run_getObj_map hb,hck,Instr.findKey,hr,hz,<-hgk,Result.andThen]
theorem IG(kd:IntKind)(k:Int)(v:Value):∀(l:List MapEntry) (j:Nat) (e:MapEntry),l[j]?=some e->Be kd k e=true->(∀j'<j,∀e',l[j']?=some e'->Be kd k e'=false)->
  (∀e∈l,∃n,e.key= .int kd n)->∀k',(((l.modify j fun e=>{e with key:= .int kd k,val:=v}).find? (Be kd k')).map (·.val))=if k'=k then some v else((l.find? (Be kd k')).map (·.val))
 |[],j,e,he,_,_,_,_=>by simp at he
 |x::l,0,e,he,hk,_,hkeys,k'=>by
  simp at he;subst he
  by_cases h:k'=k
  ·subst h;simp[List.find?,Be]
  obtain⟨n,hn⟩:=hkeys x (by simp)
  have hnk:n=k:=by simpa[Be,hn]using hk
  subst hnk
  have h1:Be kd k' {x with key:= .int kd n,val:=v}=false:=by simp[Be];omega
  have h2:Be kd k' x=false:=by simp[Be,hn];omega
  simp[List.find?,h1,h2,h]
 |x::l,j+1,e,he,hk,hlt,hkeys,k'=>by
  have hx:=hlt 0 (by omega) x (by simp)
  have ih:=IG kd k v l j e (by simpa using he) hk (fun j' hj' e' he'=>hlt (j'+1) (by omega) e' (by simpa using he')) (fun y hy=>hkeys y (by simp[hy])) k'
  simp only[List.modify_succ_cons,List.find?]
  by_cases h:Be kd k' x=true
  ·have:k'≠k:=by rintro rfl;rw[hx]at h;cases h
   simp[h,this]
  simp only[Bool.not_eq_true]at h
  simp only[h]
  exact ih
theorem G3(hm:CU w b kd g)(hT:P.underlying T=some (.map K E))(hK:P.underlying K=some (.int kd))(k:Int)(v:Value):
  ∃w',(Instr.mapUpdate T (.map (some b)) (.int kd k) v).run P w= .ok () w'/\CU w' b kd (fun j=>if j=k then some v else g j)/\w.grownBy w' (some b):=by
 obtain⟨es,c,hb,hkeys,hg⟩:=hm
 obtain⟨r,hr,hc⟩:=EQ kd k es.toList 0 hkeys
 have hck:=DM (w:=w) hK 9999 false k
 have hlt:=lt_of_block hb
 have hset:∀o,({w with heap:=w.heap.setIfInBounds b o}:World).heap[b]?=some o:=fun o=>by simp[hlt]
 have hgr:∀o,w.grownBy {w with heap:=w.heap.setIfInBounds b o} (some b):=fun o=>⟨rfl,rfl,rfl,by simp,fun i _ hi=>by
  show(w.heap.setIfInBounds b o)[i]?=_
  rw[Array.getElem?_setIfInBounds,if_neg (by intro e;exact hi (by rw[e]))]⟩
 have hso:∀o,(Sem.setObj b o (.pure ())).run P w= .ok () {w with heap:=w.heap.setIfInBounds b o}:=fun o=>by simp[Sem.run,hb]
 simp only[Instr.mapUpdate]
 rcases hc with⟨rfl,hf⟩|⟨j,e,rfl,he,hke,hf,hltj⟩
 ·refine⟨{w with heap:=w.heap.setIfInBounds b (.map (es.push {key:= .int kd k,val:=v,born:=c}) (c+1))},?_,⟨_,_,hset _,?_,?_⟩,hgr _⟩
  ·simp[run_underlying hT,run_underlying hK,MapKept.run_getObj_map hb,hck,Instr.findKey,hr,Result.andThen,MapKept.run_setObj_map _ hb]
  ·intro e he
   simp at he
   rcases he with he|rfl
   ·exact hkeys e (by simpa using he)
   exact⟨k,rfl⟩
  intro k'
  rw[Array.toList_push,List.find?_append]
  by_cases h:k'=k
  ·subst h;simp[hf,Be]
  have:Be kd k' {key:= .int kd k,val:=v,born:=c}=false:=by simp[Be];omega
  simp[List.find?,this,h,<-hg k']
 obtain⟨n,hn⟩:=hkeys e (List.mem_of_getElem? he)
 have hnk:n=k:=by simpa[Be,hn]using hke
 subst hnk
 have he':es[j]?=some e:=by simpa using he
 have hstay:(Instr.keyThatStays (.int kd n) (.int kd n)).run P w= .ok (.int kd n) w:=by simp[Instr.keyThatStays,Instr.sameBits]
 refine⟨{w with heap:=w.heap.setIfInBounds b (.map (es.modify j fun e=>{e with key:= .int kd n,val:=v}) c)},?_,⟨_,_,hset _,?_,?_⟩,hgr _⟩
 ·simp[run_underlying hT,run_underlying hK,MapKept.run_getObj_map hb,hck,Instr.findKey,hr,Result.andThen,he',hn,hstay,MapKept.run_setObj_map _ hb]
 ·intro x hx
  rw[Array.toList_modify]at hx
  obtain⟨i,hi⟩:=List.mem_iff_getElem?.1 hx
  rw[List.getElem?_modify]at hi
  split at hi
  ·cases hxi:es.toList[i]? with
   |none=>simp[hxi]at hi
   |some y=>simp[hxi]at hi;exact⟨n,by rw[<-hi]⟩
  exact hkeys x (List.mem_of_getElem? (by simpa using hi))
 intro k'
 rw[Array.toList_modify,IG kd n v es.toList j e he hke hltj hkeys k',hg k']
end
end Go.Proofs.YtlieoghhkioflaaGreat
/- Maps that the program makes: their entries' stamps,a store,a delete,and a range over one. No condition. -/
namespace Go.Proofs.YtlieoghhkioflaaGreat
open Go Go.RowKit
variable{seen:Int->Bool}{r:Nat}{last:Option Int}
def E1(w:World)(b:Nat)(kd:IntKind)(g:Int->Option Value):Prop:=
 ∃es clock,w.heap[b]?=some (.map es clock)/\MapKept.Stamped es clock/\(∀e∈es.toList,∃n,e.key= .int kd n)/\∀k,((es.toList.find? (Be kd k)).map (·.val))=g k
theorem E1.mapF{w:World}{b:Nat}{kd:IntKind}{g:Int->Option Value}(h:E1 w b kd g):CU w b kd g:=by
 obtain⟨es,c,h1,_,h2⟩:=h;exact⟨es,c,h1,h2⟩
theorem E1.heap{w w':World}{b:Nat}{kd:IntKind}{g:Int->Option Value}(h:E1 w b kd g)(hh:w'.heap[b]?=w.heap[b]?):E1 w' b kd g:=by
 obtain⟨es,c,h1,h2⟩:=h;exact⟨es,c,hh.trans h1,h2⟩
theorem E1.new'(w:World)(kd:IntKind){b:Nat}(h:b=w.heap.size):E1 (w.alloc (.map #[] 0)) b kd (fun _=>none):=by
 subst h;exact⟨#[],0,EF w _,MapKept.stamped_empty 0,by simp,by simp⟩
def Fk(w:World)(r b:Nat)(kd:IntKind)(seen:Int->Bool)(last:Option Int):Prop:=
 r≠b/\∃es clock since c0 arr,w.heap[r]?=some (.mapIter (some b) since arr c0)/\w.heap[b]?=some (.map es clock)/\since<=c0/\since<=clock/\(∀x∈es.toList,x.born<since)/\(∀x∈es.toList,∀n,x.key= .int kd n->arr.contains x.born=seen n)/\∀k,last=some k->c0=clock/\∃(arr':Array Nat) (e:MapEntry),arr=arr'.push e.born/\e∈es.toList/\e.key= .int kd k
theorem Fk.heap{w w':World}{b:Nat}{kd:IntKind}(h:Fk w r b kd seen last)(h1:w'.heap[r]?=w.heap[r]?)(h2:w'.heap[b]?=w.heap[b]?):Fk w' r b kd seen last:=by
 obtain⟨hne,es,c,s,c0,arr,q1,q2,q⟩:=h;exact⟨hne,es,c,s,c0,arr,h1.trans q1,h2.trans q2,q⟩
theorem Fk.congr{w:World}{b:Nat}{kd:IntKind}{seen':Int->Bool}(h:Fk w r b kd seen last)(e:∀k,seen' k=seen k):Fk w r b kd seen' last:=by
 have:seen'=seen:=funext e
 subst this;exact h
theorem QY{kd:IntKind}{l:List MapEntry}(h:∀e∈l,∃n,e.key= .int kd n):∀e∈l,MapKept.IsKey (.int kd) e.key:=fun e he=>by
 obtain⟨n,hn⟩:=h e he;rw[hn];exact rfl
theorem J3(kd:IntKind)(k:Int):∀(l:List MapEntry) (j:Nat) (e:MapEntry),l[j]?=some e->Be kd k e=true->l.Pairwise (fun x y=>x.key≠y.key)->(∀e∈l,∃n,e.key= .int kd n)->
  ∀k',(((l.eraseIdx j).find? (Be kd k')).map (·.val))=if k'=k then none else((l.find? (Be kd k')).map (·.val))
 |[],j,e,he,_,_,_,_=>by simp at he
 |x::l,0,e,he,hk,hp,hkeys,k'=>by
  simp at he;subst he
  obtain⟨n,hn⟩:=hkeys x (by simp)
  have hnk:n=k:=by simpa[Be,hn]using hk
  subst hnk
  by_cases h:k'=n
  ·subst h
   simp only[List.eraseIdx_zero,List.tail_cons,if_true]
   have:l.find? (Be kd k')=none:=by
    rw[List.find?_eq_none]
    intro y hy hky
    obtain⟨m,hm⟩:=hkeys y (by simp[hy])
    have:m=k':=by simpa[Be,hm]using hky
    subst this
    exact(List.pairwise_cons.1 hp).1 y hy (by rw[hn,hm])
   rw[this];rfl
  have h2:Be kd k' x=false:=by simp[Be,hn];omega
  simp[List.find?,h2,h]
 |x::l,j+1,e,he,hk,hp,hkeys,k'=>by
  have ih:=J3 kd k l j e (by simpa using he) hk (List.pairwise_cons.1 hp).2 (fun y hy=>hkeys y (by simp[hy])) k'
  simp only[List.eraseIdx_cons_succ]
  obtain⟨n,hn⟩:=hkeys x (by simp)
  by_cases hx:Be kd k' x=true
  ·have hnk:n=k':=by simpa[Be,hn]using hx
   subst hnk
   have hne:n≠k:=by
    intro h;subst h
    have hel:e∈l:=List.mem_of_getElem? (by simpa using he)
    obtain⟨m,hm⟩:=hkeys e (by simp[hel])
    have:m=n:=by simpa[Be,hm]using hk
    subst this
    exact(List.pairwise_cons.1 hp).1 e hel (by rw[hn,hm])
   simp[List.find?,hx,hne]
  have hx:Be kd k' x=false:=by simpa using hx
  simp[List.find?,hx,ih]
section
variable{P:Program}{T K E:TypeId}{kd:IntKind}{w:World}{b:Nat}{g:Int->Option Value}
theorem Ek(hm:E1 w b kd g)(hT:P.underlying T=some (.map K E))(hK:P.underlying K=some (.int kd))(k:Int)(v:Value):
  ∃w',(Instr.mapUpdate T (.map (some b)) (.int kd k) v).run P w= .ok () w'/\E1 w' b kd (fun j=>if j=k then some v else g j)/\w.grownBy w' (some b):=by
 obtain⟨es0,c0,hb0,hst,hk0,hg0⟩:=hm
 obtain⟨w',hrun,hm',hgr⟩:=G3 ⟨es0,c0,hb0,hk0,hg0⟩ hT hK k v
 obtain⟨es',c',hb',hk',hg'⟩:=hm'
 obtain⟨es2,c2,hb2,hst2,_,_⟩:=MapKept.mapUpdate_keeps (d:= .int kd) hT hK hb0 hst (QY hk0) (show MapKept.IsKey (.int kd) (.int kd k)from rfl) hrun
 rw[hb']at hb2;cases hb2
 exact⟨w',hrun,⟨es',c',hb',hst2,hk',hg'⟩,hgr⟩
theorem IQ(hm:E1 w b kd g)(hT:P.underlying T=some (.map K E))(hK:P.underlying K=some (.int kd))(k:Int)(ty:TypeId):
  ∃w',(Builtin.delete_ #[T,K] ty #[.map (some b),.int kd k]).run P w= .ok (.tuple #[]) w'/\E1 w' b kd (fun j=>if j=k then none else g j)/\w.grownBy w' (some b):=by
 obtain⟨es,c,hb,hst,hkeys,hg⟩:=hm
 obtain⟨r,hr,hc⟩:=EQ kd k es.toList 0 hkeys
 have hck:=DM (w:=w) hK 9999 es.isEmpty k
 have hlt:=lt_of_block hb
 have hset:∀o,({w with heap:=w.heap.setIfInBounds b o}:World).heap[b]?=some o:=fun o=>by simp[hlt]
 have hgr:∀o,w.grownBy {w with heap:=w.heap.setIfInBounds b o} (some b):=fun o=>⟨rfl,rfl,rfl,by simp,fun i _ hi=>by
  show(w.heap.setIfInBounds b o)[i]?=_
  rw[Array.getElem?_setIfInBounds,if_neg (by intro e;exact hi (by rw[e]))]⟩
 rcases hc with⟨rfl,hf⟩|⟨j,e,rfl,he,hke,hf,hltj⟩
 ·refine⟨{w with heap:=w.heap.setIfInBounds b (.map es c)},?_,⟨_,_,hset _,hst,hkeys,fun k'=> ?_⟩,hgr _⟩
  ·simp[Builtin.delete_,run_underlying hT,run_underlying hK,MapKept.run_getObj_map hb,hck,Instr.findKey,hr,Result.andThen,MapKept.run_setObj_map _ hb]
  show _=if k'=k then none else g k'
  by_cases h:k'=k
  ·subst h;rw[if_pos rfl,hf];rfl
  rw[if_neg h];exact hg k'
 have hjl:j<es.size:=by
  have:=(List.getElem?_eq_some_iff.1 he).1;simpa using this
 refine⟨{w with heap:=w.heap.setIfInBounds b (.map (es.eraseIdxIfInBounds j) c)},?_,⟨_,_,hset _,MapKept.stamped_erase hst _,fun x hx=> ?_,fun k'=> ?_⟩,hgr _⟩
 ·simp[Builtin.delete_,run_underlying hT,run_underlying hK,MapKept.run_getObj_map hb,hck,Instr.findKey,hr,Result.andThen,MapKept.run_setObj_map _ hb]
 ·have hs:(es.eraseIdxIfInBounds j).toList.Sublist es.toList:=by
   unfold Array.eraseIdxIfInBounds
   rw[dif_pos hjl,Array.toList_eraseIdx];exact List.eraseIdx_sublist _ _
  exact hkeys x (hs.subset hx)
 have e1:(es.eraseIdxIfInBounds j).toList=es.toList.eraseIdx j:=by
  unfold Array.eraseIdxIfInBounds
  rw[dif_pos hjl];simp
 rw[e1,J3 kd k es.toList j e he hke ((MapKept.stamped_iff es c).1 hst).2.2 hkeys k',hg k']
theorem JQ(hm:E1 w b kd g)(hT:P.underlying T=some (.map K E)):
  (Instr.range T (.map (some b))).run P w= .ok (.pointer (some ⟨w.heap.size,0,none⟩)) (w.alloc (.mapIter (some b) (hm.choose_spec.choose) #[] (hm.choose_spec.choose)))/\
  Fk (w.alloc (.mapIter (some b) (hm.choose_spec.choose) #[] (hm.choose_spec.choose))) w.heap.size b kd (fun _=>false) none:=by
 have hs:=hm.choose_spec.choose_spec
 obtain⟨hb,hst,hkeys,hg⟩:=hs
 have hlt:=lt_of_block hb
 refine⟨run_range_map w T K E b _ _ hT hb,by omega,hm.choose,hm.choose_spec.choose,hm.choose_spec.choose,hm.choose_spec.choose,#[],(MapKept.heap_alloc w _).1,((MapKept.heap_alloc w _).2 b hlt).trans hb,Nat.le_refl _,Nat.le_refl _,((MapKept.stamped_iff _ _).1 hst).1,fun x hx n hn=>by simp,fun k hk=>by cases hk⟩
theorem Kz(hm:E1 w b kd g)(hi:Fk w r b kd seen last)(ty:TypeId):
  ((Instr.next (.pointer (some ⟨r,0,none⟩)) false ty).run P w= .ok (.tuple #[.bool false]) w/\∀k,(∃v,g k=some v)->seen k=true)\/
  ∃k v w1,g k=some v/\seen k=false/\(Instr.next (.pointer (some ⟨r,0,none⟩)) false ty).run P w= .ok (.tuple #[.bool true,.int kd k,v]) w1/\E1 w1 b kd g/\
   Fk w1 r b kd (fun j=>if j=k then true else seen j) (some k)/\w.grownBy w1 (some r)/\w1.heap.size=w.heap.size/\∀g',g'≠r->w1.heap[g']?=w.heap[g']?:=by
 obtain⟨es,clock,hb,hst,hkeys,hg⟩:=hm
 obtain⟨hne,es',clock',since,c0,arr,hr,hb',h1,h2,hold,hseen,_⟩:=hi
 rw[hb]at hb';cases hb'
 have hst':=(MapKept.stamped_iff es clock).1 hst
 have mem_g:∀x∈es.toList,∀n,x.key= .int kd n->g n=some x.val:=fun x hx n hn=>by
  rw[<-hg n]
  have:es.toList.find? (Be kd n)=some x:=by
   cases hf:es.toList.find? (Be kd n)with
   |none=>exact absurd (List.find?_eq_none.1 hf x hx) (by simp[Be,hn])
   |some y=>
    have hy:=List.mem_of_find?_eq_some hf
    obtain⟨m,hm⟩:=hkeys y hy
    have hky:=List.find?_some hf
    have:m=n:=by simpa[Be,hm]using hky
    subst this
    congr 1
    exact entry_eq_of_key hst'.2.2 hy hx (by rw[hm,hn])
  rw[this];rfl
 rcases run_next_at (P:=P) w ty r b since c0 arr es clock hr hb hold h1 with⟨h0,hrun⟩|⟨e,he,w1,hal,hrun⟩
 ·refine .inl ⟨hrun,fun k hk=> ?_⟩
  obtain⟨v,hv⟩:=hk
  rw[<-hg k]at hv
  cases hf:es.toList.find? (Be kd k)with
  |none=>rw[hf]at hv;cases hv
  |some y=>
   have hy:=List.mem_of_find?_eq_some hf
   obtain⟨m,hm⟩:=hkeys y hy
   have hky:=List.find?_some hf
   have:m=k:=by simpa[Be,hm]using hky
   subst this
   rw[<-hseen y hy m hm];exact all_seen es arr h0 y hy
 obtain⟨hem,hes⟩:=mem_left he
 obtain⟨n,hn⟩:=hkeys e hem
 have hr1:w1.heap[r]?=some (.mapIter (some b) since arr c0):=by rcases hal with rfl|rfl<;>exact hr
 have hb1:w1.heap[b]?=some (.map es clock):=by rcases hal with rfl|rfl<;>exact hb
 have hset:=MapKept.heap_set (o':= .mapIter (some b) since (arr.push e.born) clock) hr1
 have hoth:∀g',g'≠r->(ChangeMaps.setBlock w1 r (.mapIter (some b) since (arr.push e.born) clock)).heap[g']?=w.heap[g']?:=fun g' hg'=>(hset.2 g' hg').trans (by rcases hal with rfl|rfl<;>rfl)
 have hsz:(ChangeMaps.setBlock w1 r (.mapIter (some b) since (arr.push e.born) clock)).heap.size=w.heap.size:=by rcases hal with rfl|rfl<;>simp[ChangeMaps.setBlock]
 refine .inr ⟨n,e.val,_,mem_g e hem n hn,by rw[<-hseen e hem n hn];exact hes,by rw[<-hn];exact hrun,⟨es,clock,(hoth b hne.symm).trans hb,hst,hkeys,hg⟩,⟨hne,es,clock,since,clock,arr.push e.born,hset.1,(hoth b hne.symm).trans hb,h2,h2,hold,fun x hx m hm=> ?_,fun k hk=>by cases hk;exact⟨rfl,arr,e,rfl,hem,hn⟩⟩,?_,hsz,hoth⟩
 ·rw[contains_push,hseen x hx m hm]
  by_cases h:m=n
  ·subst h
   have:x=e:=entry_eq_of_key hst'.2.2 hx hem (by rw[hm,hn])
   subst this;simp
  have:(x.born==e.born)=false:=by
   cases hbe:(x.born==e.born)
   ·rfl
   have:x=e:=born_inj hst'.2.1 hx hem (by simpa using hbe)
   subst this
   rw[hn]at hm;cases hm;exact absurd rfl h
  simp[this,h]
 rcases hal with rfl|rfl<;>exact⟨rfl,rfl,rfl,by simp[ChangeMaps.setBlock],fun i _ hi=>hset.2 i (fun e1=>hi (by rw[e1]))⟩
theorem JC{k:Int}(hm:E1 w b kd g)(hi:Fk w r b kd seen (some k)):
  ∃v,g k=some v/\(Instr.entry (.pointer (some ⟨r,0,none⟩))).run P w= .ok (.tuple #[.int kd k,v]) w:=by
 obtain⟨es,clock,hb,hst,hkeys,hg⟩:=hm
 obtain⟨hne,es',clock',since,c0,arr,hr,hb',h1,h2,hold,hseen,hl⟩:=hi
 rw[hb]at hb';cases hb'
 have hst':=(MapKept.stamped_iff es clock).1 hst
 obtain⟨rfl,arr',e,rfl,he,hk⟩:=hl k rfl
 refine⟨e.val,?_,?_⟩
 ·rw[<-hg k]
  cases hf:es.toList.find? (Be kd k)with
  |none=>exact absurd (List.find?_eq_none.1 hf e he) (by simp[Be,hk])
  |some y=>
   have hy:=List.mem_of_find?_eq_some hf
   obtain⟨m,hm⟩:=hkeys y hy
   have hky:=List.find?_some hf
   have:m=k:=by simpa[Be,hm]using hky
   subst this
   have:y=e:=entry_eq_of_key hst'.2.2 hy he (by rw[hm,hk])
   rw[this];rfl
 rw[<-hk];exact run_entry_at w r b since arr' es c0 e hr hb he hst'.2.1
theorem R4(hm:E1 w b kd g):∃es clock,w.heap[b]?=some (.map es clock)/\(es.size=0↔∀k,g k=none):=by
 obtain⟨es,clock,hb,hst,hkeys,hg⟩:=hm
 refine⟨es,clock,hb,fun h k=> ?_,fun h=> ?_⟩
 ·rw[<-hg k];have:es= #[]:=Array.eq_empty_of_size_eq_zero h
  subst this;simp
 by_cases h0:es.size=0
 ·exact h0
 obtain⟨e,he⟩:∃e,e∈es.toList:=by
  cases hl:es.toList with
  |nil=>rw[<-Array.length_toList,hl]at h0;exact absurd rfl h0
  |cons x l=>exact⟨x,by simp⟩
 obtain⟨k,hk⟩:=hkeys e he
 have:=h k
 rw[<-hg k]at this
 cases hf:es.toList.find? (Be kd k)with
 |none=>exact absurd (List.find?_eq_none.1 hf e he) (by simp[Be,hk])
 |some y=>rw[hf]at this;cases this
end
end Go.Proofs.YtlieoghhkioflaaGreat
/- The engine,part 1: abstract values,boxes,and how they are held in a world. No condition. -/
namespace Go.Proofs.YtlieoghhkioflaaGreat
open Go Go.RowKit
variable{kd:IntKind}{ys:List Value}{w':World}
inductive Bn where
 |n (b:Nat)
 |f (b:Nat) (z:Int)
 deriving DecidableEq,Inhabited
def Bn.id:Bn->Nat
 | .n b=>b
 | .f b _=>b
instance:Coe Nat Bn:=⟨Bn.n⟩
inductive Ad where
 |und
 |int (k:IntKind) (n:Int)
 |bool (b:Bool)
 |nils|nilp|nilf|nilm
 |view (k n:Nat) (cell:Nat->Nat->Ad)
 |vptr (m:Nat) (cell:Nat->Ad)
 |ptr (b:Bn) (off:Nat)
 |own (b:Bn)
 |rptr (b:Bn) (i off:Nat)
 |nil
 |cons (h t:Ad)
 |agg (l:Ad)
 |tup (l:Ad)
 |func (fn:Fn) (l:Ad)
 |mapb (b:Bn)
 |yld (b:Bn)
 |mview (kd:IntKind) (has:Int->Bool) (f:Int->Ad)
 |strv (n:Nat) (f:Nat->Int)
 |tv (k n:Nat) (cell:Nat->Nat->Ad)
 |osl (b:Bn) (off n:Nat)
 |ifc (T:TypeId) (k:IntKind) (n:Int)
 deriving Inhabited
inductive Bf where
 |t (n:Nat)
 |c (v:Ad)
 |g (n:Nat)
inductive Sh where
 |int (k:IntKind)
 |bool
 |slc (k:Nat)
 |any
inductive Ji where
 |mv (x:Bf)
 |pick (c a b:Bf)
 |alloc (zero:Ad)
 |box (n:Nat) (x:Bf)
 |build (zero:Ad) (parts:List (Nat×Nat×Bf))
 |bsl (e:TypeId) (k len:Nat) (zero:Ad) (parts:List (Nat×Bf))
 |load (agg:Bool) (shs:List Sh) (x:Bf)
 |store (n:Nat) (a x:Bf)
 |bin (op:BinOp) (x y:Bf)
 |binb (neg:Bool) (x y:Bf)
 |eqa (neg:Bool) (shs:List Sh) (x y:Bf)
 |un (op:UnOp) (x:Bf)
 |conv (k:IntKind) (x:Bf)
 |mkf (fn:Fn) (caps:List Bf)
 |fld (off:Nat) (x:Bf)
 |idx (k:Nat) (x i:Bf)
 |idxA (k len:Nat) (x i:Bf)
 |sl (k:Nat) (x:Bf) (lo hi:Option Bf)
 |ext (i:Nat) (x:Bf)
 |call (f:Bf) (args:List (List Sh×Bf))
 |len (x:Bf)
 |mm (mx:Bool) (x y:Bf)
 |app (e:TypeId) (k bytes:Nat) (x y:Bf)
 |nilc (x:Bf)
 |mks (e:TypeId) (k bytes:Nat) (zero:Ad) (n c:Bf)
 |mkm (kd:IntKind)
 |mget (kd:IntKind) (ok:Bool) (zero:Ad) (x k:Bf)
 |mset (kd:IntKind) (x k v:Bf)
 |mdel (kd:IntKind) (x k:Bf)
 |mlen (kd:IntKind) (x:Bf)
 |rngm (kd:IntKind) (x:Bf)
 |nxt (x:Bf)
 |ent (x:Bf)
 |fv (agg:Bool) (off n:Nat) (x:Bf)
 |mm3 (mx:Bool) (x y z:Bf)
 |isnil (neg:Bool) (x:Bf)
 |b2s (x:Bf)
 |seq (neg:Bool) (x y:Bf)
 |calle (f:Bf) (args:List (List Sh×Bf))
 |clip (k:Nat) (x hi mx:Bf)
 |clr (k:Nat) (zero:Ad) (x:Bf)
 |mif (T:TypeId) (x:Bf)
 |pan (x:Bf)
 |dfr (x:Bf)
structure A2 where
 dst:Option Nat
 op:Ji
 guard:Option (Nat×Bool)
 br:Bool
 re:List (Option Nat×Ji×Option (Nat×Bool))
inductive Cm where
 |skip
 |reg (d:Nat) (ops:List A2)
 |seq (a b:Cm)
 |cond (c:Bf) (a b:Cm)
 |block (id:Nat) (a:Cm)
 |loop (a:Cm)
 |rng (f:Bf) (ps keep:List Nat) (a b:Cm)
 |exit (id:Nat)
 |scope (a:Cm)
 |ret
inductive WQ where
 |ret
 |exit (id:Nat)
def WQ.code:WQ->Code
 | .ret=> .ret
 | .exit id=> .exit id
def WQ.acode:WQ->Cm
 | .ret=> .ret
 | .exit id=> .exit id
inductive XE where
 |ready
 |busy
 |done (c:WQ)
 |over
abbrev Fr:=List (Nat×Ad)
inductive Cw where
 |cells (l:Ad)
 |row (e:TypeId) (k n:Nat) (cell:Nat->Nat->Ad)
 |mp (kd:IntKind) (has:Int->Bool) (f:Int->Ad)
 |lp (g:Nat) (fr:Fr) (ps:List Nat) (ca cb:Cm) (st:XE)
 |it (m:Option Bn) (kd:IntKind) (seen:Int->Bool) (last:Option Int)
 |rown (e:TypeId) (k n:Nat) (cell:Nat->Nat->Ad)
 |mz (kd:IntKind) (f:Int->Ad)
 |wc (g:Nat) (v:Ad)
inductive IJ where
 |one (c:Cw)
 |fam (d:Int->Bool) (r:Int->Cw)
structure CK where
 a:Option Nat
 n:Nat
 cap:Nat
def YB(L:CK)(a:Option Addr)(off n k cap:Nat):Prop:=(0<n->∃g,L.a=some g/\a=some ⟨g,off*k,none⟩)/\(off=0->a=(L.a.map fun g=>⟨g,0,none⟩)/\cap=L.cap)
abbrev Br:=Bn->Option Cw
def Kd:Cw->Option (TypeId×Nat×Nat)
 | .row e k n _| .rown e k n _=>some (e,k,n)
 |_=>none
def QT:Cw->Option IntKind
 | .mp kd _ _| .mz kd _=>some kd
 |_=>none
def JB(B:Br)(b:Bn)(e:TypeId)(k n:Nat):Prop:=∃c,B b=some c/\Kd c=some (e,k,n)
def VJ(B:Br)(b:Bn)(kd:IntKind):Prop:=∃c,B b=some c/\QT c=some kd
theorem JB.cases{B:Br}{b:Bn}{e:TypeId}{k n:Nat}(h:JB B b e k n):(∃c,B b=some (.row e k n c))\/∃c,B b=some (.rown e k n c):=by
 obtain⟨c,hc,hk⟩:=h
 cases c<;>simp[Kd]at hk
 ·obtain⟨rfl,rfl,rfl⟩:=hk;exact .inl ⟨_,hc⟩
 obtain⟨rfl,rfl,rfl⟩:=hk;exact .inr ⟨_,hc⟩
theorem VJ.cases{B:Br}{b:Bn}(h:VJ B b kd):(∃has f,B b=some (.mp kd has f))\/∃f,B b=some (.mz kd f):=by
 obtain⟨c,hc,hk⟩:=h
 cases c<;>simp[QT]at hk
 ·obtain rfl:=hk;exact .inl ⟨_,_,hc⟩
 obtain rfl:=hk;exact .inr ⟨_,hc⟩
def ptrB:Cw->Bool
 | .cells _| .it _ _ _ _| .wc _ _=>true
 |_=>false
def Ao(w:World)(A:Nat->Prop):Ad->Value->Prop
 | .und,_=>True
 | .int k n,x=>x= .int k n
 | .bool b,x=>x= .bool b
 | .nils,x=>x= .slice none 0 0
 | .nilp,x=>x= .pointer none
 | .nilf,x=>x= .nilFunc
 | .nilm,x=>x= .map none
 | .view k n cell,x=>∃a c,x= .slice a n c/\n<=maxLen/\n<=c/\(0<n->∃g off,a=some ⟨g,off,none⟩/\g<w.heap.size/\A g/\∀i,i<n->∀j,j<k->∃y,w.cell? ⟨g,off+i*k+j,none⟩=some y/\y.oneCell'=true/\Ao w A (cell i j) y)
 | .vptr m cell,x=>∃g off,x= .pointer (some ⟨g,off,none⟩)/\g<w.heap.size/\A g/\∀j,j<m->∃y,w.cell? ⟨g,off+j,none⟩=some y/\Ao w A (cell j) y
 | .nil,x=>x= .tuple #[]
 | .cons h t,x=>∃y ys,x= .tuple ⟨y::ys⟩/\Ao w A h y/\Ao w A t (.tuple ⟨ys⟩)
 | .agg l,x=>∃ys,x= .agg ⟨ys⟩/\Ao w A l (.tuple ⟨ys⟩)
 | .tup l,x=>∃ys,x= .tuple ⟨ys⟩/\Ao w A l (.tuple ⟨ys⟩)
 | .func fn l,x=>∃ys,x= .func fn #[] ⟨ys⟩/\Ao w A l (.tuple ⟨ys⟩)
 | .mview kd has f,x=>∃g h,x= .map (some g)/\g<w.heap.size/\A g/\CU w g kd h/\∀k,(has k=false->h k=none)/\(has k=true->∃y,h k=some y/\Ao w A (f k) y)
 | .tv k n cell,x=>∃a,x= .slice a n n/\n<=maxLen/\(0<n->∃g off,a=some ⟨g,off,none⟩/\g<w.heap.size/\A g/\∀i,i<n->∀j,j<k->∃y,w.cell? ⟨g,off+i*k+j,none⟩=some y/\y.oneCell'=true/\Ao w A (cell i j) y)
 | .ifc T k n,x=>x= .iface T (.int k n)
 | .strv n f,x=>∃s:ByteArray,x= .string s/\s.data.toList.map (fun b=>(b.toNat:Int))=(List.range n).map f
 |_,_=>False
def A7(w:World)(A:Nat->Prop)(B:Br)(β:Bn->CK):Ad->Value->Prop
 | .ptr b off,x=>(∃l,B b=some l/\ptrB l=true)/\∃g,(β b).a=some g/\x= .pointer (some ⟨g,off,none⟩)
 | .own b,x=>(∃e k n,JB B b e k n)/\x= .slice ((β b).a.map fun g=>⟨g,0,none⟩) (β b).n (β b).cap
 | .rptr b i off,x=>∃e k n,JB B b e k n/\i<n/\∃g,(β b).a=some g/\x= .pointer (some ⟨g,i*k+off,none⟩)
 | .nil,x=>x= .tuple #[]
 | .cons h t,x=>∃y ys,x= .tuple ⟨y::ys⟩/\A7 w A B β h y/\A7 w A B β t (.tuple ⟨ys⟩)
 | .agg l,x=>∃ys,x= .agg ⟨ys⟩/\A7 w A B β l (.tuple ⟨ys⟩)
 | .tup l,x=>∃ys,x= .tuple ⟨ys⟩/\A7 w A B β l (.tuple ⟨ys⟩)
 | .func fn l,x=>∃ys,x= .func fn #[] ⟨ys⟩/\A7 w A B β l (.tuple ⟨ys⟩)
 | .mapb b,x=>(∃kd,VJ B b kd)/\∃g,(β b).a=some g/\x= .map (some g)
 | .yld b,x=>∃g fr ps ca cb st,B b=some (.lp g fr ps ca cb st)/\x= .func (.yield g) #[] #[]
 | .osl b off n,x=>(∃e k m,JB B b e k m/\off+n<=m/\∃a cap,x= .slice a n cap/\n<=cap/\YB (β b) a off n k cap)
 | .und,_=>True
 |v@(.tv ..),x|v@(.ifc ..),x|v@(.mview ..),x|v@(.int ..),x|v@(.bool ..),x|v@.nils,x|v@.nilp,x|v@.nilf,x|v@.nilm,x|v@(.view ..),x|v@(.vptr ..),x|v@(.strv ..),x=>Ao w A v x
def CR:Cw->Cw->Prop
 | .cells _,.cells _=>True
 | .row _ k n _,.row _ k' n' _=>k=k'/\n=n'
 | .rown _ k n _,.rown _ k' n' _=>k=k'/\n=n'
 | .mp kd _ _,.mp kd' _ _| .mp kd _ _,.mz kd' _| .mz kd _,.mz kd' _=>kd=kd'
 | .lp g _ ps ca cb _,.lp g' _ ps' ca' cb' _=>g=g'/\ps=ps'/\ca=ca'/\cb=cb'
 | .it _ kd _ _,.it _ kd' _ _=>kd=kd'
 | .wc g _,.wc g' _=>g=g'
 | .cells _,.wc _ _=>True
 |_,_=>False
theorem CR.ptrB{c c':Cw}(h:CR c c')(hp:ptrB c=true):ptrB c'=true:=by
 cases c<;>cases c'<;>simp_all[CR,Proofs.YtlieoghhkioflaaGreat.ptrB]
theorem CR.row{c c':Cw}(h:CR c c'){e:TypeId}{k n:Nat}(hr:Kd c=some (e,k,n)):∃e',Kd c'=some (e',k,n):=by
 cases c<;>cases c'<;>simp_all[CR,Kd]
theorem CR.map{c c':Cw}(h:CR c c')(hr:QT c=some kd):QT c'=some kd:=by
 cases c<;>cases c'<;>simp_all[CR,QT]
theorem CR.refl(c:Cw):CR c c:=by cases c<;>simp[CR]
theorem GB{w:World}{g:Nat}(h:w'.heap[g]?=w.heap[g]?)(o:Nat):w'.cell? ⟨g,o,none⟩=w.cell? ⟨g,o,none⟩:=World.cell?_of_block (w:=w) h
theorem CU.heap{w:World}{b:Nat}{g:Int->Option Value}(h:CU w b kd g)(hh:w'.heap[b]?=w.heap[b]?):CU w' b kd g:=by
 obtain⟨es,c,h1,h2⟩:=h;exact⟨es,c,hh.trans h1,h2⟩
theorem Ao.mono{w:World}{A A':Nat->Prop}(hs:w.heap.size<=w'.heap.size)(hb:∀g,g<w.heap.size->A g->A' g/\w'.heap[g]?=w.heap[g]?):
  ∀(v:Ad) (x:Value),Ao w A v x->Ao w' A' v x:=by
 intro v
 induction v with
 |view k n cell ih=>
  rintro x ⟨a,c,rfl,hn,hnc,h⟩
  refine⟨a,c,rfl,hn,hnc,fun h0=> ?_⟩
  obtain⟨g,off,rfl,hg,hA,hc⟩:=h h0
  obtain⟨hA',hh⟩:=hb g hg hA
  refine⟨g,off,rfl,by omega,hA',fun i hi j hj=> ?_⟩
  obtain⟨y,hy,ho,hr⟩:=hc i hi j hj
  exact⟨y,by rw[GB hh];exact hy,ho,ih i j y hr⟩
 |tv k n cell ih=>
  rintro x ⟨a,rfl,hn,h⟩
  refine⟨a,rfl,hn,fun h0=> ?_⟩
  obtain⟨g,off,rfl,hg,hA,hc⟩:=h h0
  obtain⟨hA',hh⟩:=hb g hg hA
  refine⟨g,off,rfl,by omega,hA',fun i hi j hj=> ?_⟩
  obtain⟨y,hy,ho,hr⟩:=hc i hi j hj
  exact⟨y,by rw[GB hh];exact hy,ho,ih i j y hr⟩
 |vptr m cell ih=>
  rintro x ⟨g,off,rfl,hg,hA,hc⟩
  obtain⟨hA',hh⟩:=hb g hg hA
  refine⟨g,off,rfl,by omega,hA',fun j hj=> ?_⟩
  obtain⟨y,hy,hr⟩:=hc j hj
  exact⟨y,by rw[GB hh];exact hy,ih j y hr⟩
 |cons h t ih1 ih2=>rintro x ⟨y,ys,rfl,h1,h2⟩;exact⟨y,ys,rfl,ih1 y h1,ih2 _ h2⟩
 |agg l ih=>rintro x ⟨ys,rfl,h⟩;exact⟨ys,rfl,ih _ h⟩
 |tup l ih=>rintro x ⟨ys,rfl,h⟩;exact⟨ys,rfl,ih _ h⟩
 |func fn l ih=>rintro x ⟨ys,rfl,h⟩;exact⟨ys,rfl,ih _ h⟩
 |mview kd has f ih=>
  rintro x ⟨g,h,rfl,hg,hA,hm,hc⟩
  obtain⟨hA',hh⟩:=hb g hg hA
  refine⟨g,h,rfl,by omega,hA',hm.heap hh,fun k=>⟨(hc k).1,fun hk=> ?_⟩⟩
  obtain⟨y,hy,hr⟩:=(hc k).2 hk
  exact⟨y,hy,ih k y hr⟩
 |_=>intro x h;exact h
theorem Ao.rep{w:World}{A:Nat->Prop}{B:Br}{β:Bn->CK}:∀(v:Ad) (x:Value),Ao w A v x->A7 w A B β v x:=by
 intro v
 induction v with
 |cons h t ih1 ih2=>rintro x ⟨y,ys,rfl,h1,h2⟩;exact⟨y,ys,rfl,ih1 y h1,ih2 _ h2⟩
 |agg l ih=>rintro x ⟨ys,rfl,h⟩;exact⟨ys,rfl,ih _ h⟩
 |tup l ih=>rintro x ⟨ys,rfl,h⟩;exact⟨ys,rfl,ih _ h⟩
 |func fn l ih=>rintro x ⟨ys,rfl,h⟩;exact⟨ys,rfl,ih _ h⟩
 |ptr b off=>intro x h;exact h.elim
 |own b=>intro x h;exact h.elim
 |rptr b i off=>intro x h;exact h.elim
 |mapb b=>intro x h;exact h.elim
 |yld b=>intro x h;exact h.elim
 |osl b off n=>intro x h;exact h.elim
 |_=>intro x h;exact h
theorem A7.mono{w:World}{A A':Nat->Prop}{B B':Br}{β β':Bn->CK}(hs:w.heap.size<=w'.heap.size)
  (hb:∀g,g<w.heap.size->A g->A' g/\w'.heap[g]?=w.heap[g]?) (hx:∀b c,B b=some c->∃c',B' b=some c'/\CR c c'/\β' b=β b):
  ∀(v:Ad) (x:Value),A7 w A B β v x->A7 w' A' B' β' v x:=by
 intro v
 induction v with
 |cons h t ih1 ih2=>rintro x ⟨y,ys,rfl,h1,h2⟩;exact⟨y,ys,rfl,ih1 y h1,ih2 _ h2⟩
 |agg l ih=>rintro x ⟨ys,rfl,h⟩;exact⟨ys,rfl,ih _ h⟩
 |tup l ih=>rintro x ⟨ys,rfl,h⟩;exact⟨ys,rfl,ih _ h⟩
 |func fn l ih=>rintro x ⟨ys,rfl,h⟩;exact⟨ys,rfl,ih _ h⟩
 |ptr b off=>
  rintro x ⟨⟨l,hB,hp⟩,g,hg,rfl⟩
  obtain⟨c',hc,hk,hβ⟩:=hx b _ hB
  exact⟨⟨c',hc,hk.ptrB hp⟩,g,by rw[hβ];exact hg,rfl⟩
 |mapb b=>
  rintro x ⟨⟨kd,c,hB,hk0⟩,g,hg,rfl⟩
  obtain⟨c',hc,hk,hβ⟩:=hx b _ hB
  exact⟨⟨kd,c',hc,hk.map hk0⟩,g,by rw[hβ];exact hg,rfl⟩
 |own b=>
  rintro x ⟨⟨e,k,n,c,hB,hk0⟩,rfl⟩
  obtain⟨c',hc,hk,hβ⟩:=hx b _ hB
  obtain⟨e',he⟩:=hk.row hk0
  exact⟨⟨e',k,n,c',hc,he⟩,by rw[hβ]⟩
 |rptr b i off=>
  rintro x ⟨e,k,n,⟨c,hB,hk0⟩,hi,g,hg,rfl⟩
  obtain⟨c',hc,hk,hβ⟩:=hx b _ hB
  obtain⟨e',he⟩:=hk.row hk0
  exact⟨e',k,n,⟨c',hc,he⟩,hi,g,by rw[hβ];exact hg,rfl⟩
 |osl b off n=>
  rintro x ⟨e,k,m,⟨c,hB,hk0⟩,hm,a,cap,rfl,hcap,ha⟩
  obtain⟨c',hc,hk,hβ⟩:=hx b _ hB
  obtain⟨e',he⟩:=hk.row hk0
  exact⟨e',k,m,⟨c',hc,he⟩,hm,a,cap,rfl,hcap,by rw[hβ];exact ha⟩
 |yld b=>
  rintro x ⟨g,fr,ps,ca,cb,st,hB,rfl⟩
  obtain⟨c',hc,hk,hβ⟩:=hx b _ hB
  cases c' with
  |lp g' fr' ps' ca' cb' st'=>obtain⟨rfl,_⟩:=hk;exact⟨g,fr',ps',ca',cb',st',hc,rfl⟩
  |_=>simp[CR]at hk
 |nil=>intro x h;exact h
 |und=>intro x h;exact h
 |_=>intro x h;exact Ao.mono hs hb _ x h
def vl:List Ad->Ad
 |[]=> .nil
 |v::l=> .cons v (vl l)
def Az:Ad->Nat->Ad
 | .cons h _,0=>h
 | .cons _ t,n+1=>Az t n
 |_,_=> .und
def G4:Ad->Nat->Ad->Ad
 | .cons _ t,0,v=> .cons v t
 | .cons h t,n+1,v=> .cons h (G4 t n v)
 |l,_,_=>l
def Bb:Ad->Nat
 | .cons _ t=>Bb t+1
 |_=>0
def Dh:Ad->Nat->Ad->Ad
 |l,off,.cons v t=>Dh (G4 l off v) (off+1) t
 |l,_,_=>l
def UD:Ad->Ad->Ad
 | .cons h t,r=> .cons h (UD t r)
 |_,r=>r
def Ka(f:Nat->Ad):Nat->Nat->Ad
 |_,0=> .nil
 |j,n+1=> .cons (f j) (Ka f (j+1) n)
section
variable{w:World}{A:Nat->Prop}{B:Br}{β:Bn->CK}
def QU:Ad->Prop
 | .nil=>True
 | .cons _ t=>QU t
 |_=>False
theorem A7.gets:∀(l:Ad) (ys:List Value),A7 w A B β l (.tuple ⟨ys⟩)->QU l->Bb l=ys.length/\∀j,j<ys.length->A7 w A B β (Az l j) (ys.getD j undef):=by
 intro l
 induction l with
 |nil=>
  intro ys h _
  have:ys=[]:=by simpa[A7]using h
  subst this
  simp[Bb]
 |cons h t ih1 ih2=>
  rintro ys ⟨y,zs,he,h1,h2⟩ hl
  have:ys=y::zs:=by simpa using he
  subst this
  obtain⟨e1,e2⟩:=ih2 zs h2 hl
  refine⟨by simp[Bb,e1],fun j hj=> ?_⟩
  cases j with
  |zero=>simpa[Az]using h1
  |succ j=>simpa[Az]using e2 j (by simpa using hj)
 |_=>intro ys h hl;exact hl.elim
theorem A7.get1{l:Ad}(h:A7 w A B β l (.tuple ⟨ys⟩))(j:Nat)(hj:j<Bb l):∃y,ys[j]?=some y/\A7 w A B β (Az l j) y:=by
 induction l generalizing ys j with
 |cons a t ih1 ih2=>
  obtain⟨y,zs,he,h1,h2⟩:=h
  have:ys=y::zs:=by simpa using he
  subst this
  cases j with
  |zero=>exact⟨y,rfl,h1⟩
  |succ j=>
   obtain⟨y',e,hr⟩:=ih2 h2 j (by simpa[Bb]using hj)
   exact⟨y',by simpa using e,hr⟩
 |_=>simp[Bb]at hj
theorem A7.len{l:Ad}(h:A7 w A B β l (.tuple ⟨ys⟩))(hl:QU l):ys.length=Bb l:=(A7.gets l ys h hl).1.symm
theorem A7.tab(f:Nat->Ad):∀(n j:Nat) (ys:List Value),ys.length=n->(∀i,i<n->A7 w A B β (f (j+i)) (ys.getD i undef))->A7 w A B β (Ka f j n) (.tuple ⟨ys⟩):=by
 intro n
 induction n with
 |zero=>intro j ys hl _;have:ys=[]:=List.eq_nil_of_length_eq_zero hl;subst this;simp[Ka,A7]
 |succ n ih=>
  intro j ys hl h
  cases ys with
  |nil=>simp at hl
  |cons y zs=>
   refine⟨y,zs,rfl,by simpa using h 0 (by omega),ih (j+1) zs (by simpa using hl) fun i hi=> ?_⟩
   have:=h (i+1) (by omega)
   rw[show j+1+i=j+(i+1)from by omega];simpa using this
theorem Ao.tab(f:Nat->Ad):∀(n j:Nat) (ys:List Value),ys.length=n->(∀i,i<n->Ao w A (f (j+i)) (ys.getD i undef))->Ao w A (Ka f j n) (.tuple ⟨ys⟩):=by
 intro n
 induction n with
 |zero=>intro j ys hl _;have:ys=[]:=List.eq_nil_of_length_eq_zero hl;subst this;simp[Ka,Ao]
 |succ n ih=>
  intro j ys hl h
  cases ys with
  |nil=>simp at hl
  |cons y zs=>
   refine⟨y,zs,rfl,by simpa using h 0 (by omega),ih (j+1) zs (by simpa using hl) fun i hi=> ?_⟩
   have:=h (i+1) (by omega)
   rw[show j+1+i=j+(i+1)from by omega];simpa using this
theorem HN(f:Nat->Ad):∀(n j:Nat),Bb (Ka f j n)=n:=by
 intro n;induction n with
 |zero=>intro j;rfl
 |succ n ih=>intro j;simp[Ka,Bb,ih]
theorem A7.set1{l:Ad}(h:A7 w A B β l (.tuple ⟨ys⟩)){v:Ad}{y:Value}(hv:A7 w A B β v y)(j:Nat)(hj:j<Bb l):A7 w A B β (G4 l j v) (.tuple ⟨ys.set j y⟩):=by
 induction l generalizing ys j with
 |cons a t ih1 ih2=>
  obtain⟨z,zs,he,h1,h2⟩:=h
  have:ys=z::zs:=by simpa using he
  subst this
  cases j with
  |zero=>exact⟨y,zs,rfl,hv,h2⟩
  |succ j=>exact⟨z,_,rfl,h1,ih2 h2 j (by simpa[Bb]using hj)⟩
 |_=>simp[Bb]at hj
theorem Ih(l:Ad)(j:Nat)(v:Ad):Bb (G4 l j v)=Bb l:=by
 induction l generalizing j with
 |cons h t ih1 ih2=>cases j<;>simp[G4,Bb,ih2]
 |_=>simp[G4]
theorem T4(l:Ad)(j:Nat)(v:Ad)(h:QU l):QU (G4 l j v):=by
 induction l generalizing j with
 |cons h' t ih1 ih2=>
  cases j with
  |zero=>exact h
  |succ j=>exact ih2 j h
 |_=>cases j<;>exact h
theorem A7.app{l r:Ad}{zs:List Value}(h:A7 w A B β l (.tuple ⟨ys⟩))(hl:QU l)(h':A7 w A B β r (.tuple ⟨zs⟩)):A7 w A B β (UD l r) (.tuple ⟨ys++zs⟩):=by
 induction l generalizing ys with
 |nil=>
  have:ys=[]:=by simpa[A7]using h
  subst this
  exact h'
 |cons a t ih1 ih2=>
  obtain⟨z,us,he,h1,h2⟩:=h
  have:ys=z::us:=by simpa using he
  subst this
  exact⟨z,_,rfl,h1,ih2 h2 hl⟩
 |_=>exact hl.elim
end
end Go.Proofs.YtlieoghhkioflaaGreat
/- The engine,part 2: compiled code,what an operation gives,and the run of code on abstract states. No condition. -/
namespace Go.Proofs.YtlieoghhkioflaaGreat
open Go Go.RowKit
inductive B6 where
 |t (n:Nat)
 |cell (n:Nat) (agg:Bool) (shs:List Sh)
structure Ax where
 code:Cm
 res:List B6
abbrev Bx:=List (Nat×IJ)
def Au:Fr->Nat->Ad
 |[],_=> .und
 |(t,v)::l,s=>if t=s then v else Au l s
def Ab:Bx->Bn->Option Cw
 |[],_=>none
 |(t,.one c)::l,.n b=>if t=b then some c else Ab l (.n b)
 |(_,.fam _ _)::l,.n b=>Ab l (.n b)
 |(_,.one _)::l,.f b z=>Ab l (.f b z)
 |(t,.fam d r)::l,.f b z=>if t=b/\d z=true then some (r z)else Ab l (.f b z)
def Aj:Bx->Bn->Cw->Bx
 |[],.n b,c=>[(b,.one c)]
 |[],.f b z,c=>[(b,.fam (fun j=>decide (j=z)) fun _=>c)]
 |(t,.one c')::l,.n b,c=>if t=b then(b,.one c)::l else(t,.one c')::Aj l (.n b) c
 |(t,.fam d r)::l,.n b,c=>(t,.fam d r)::Aj l (.n b) c
 |(t,.one c')::l,.f b z,c=>(t,.one c')::Aj l (.f b z) c
 |(t,.fam d r)::l,.f b z,c=>if t=b then(b,.fam (fun j=>if j=z then true else d j) fun j=>if j=z then c else r j)::l else(t,.fam d r)::Aj l (.f b z) c
def BQ:Bx->Bn->Bx
 |[],_=>[]
 |(t,.one c)::l,.n b=>if t=b then BQ l (.n b)else(t,.one c)::BQ l (.n b)
 |(t,.fam d r)::l,.n b=>(t,.fam d r)::BQ l (.n b)
 |(t,.one c)::l,.f b z=>(t,.one c)::BQ l (.f b z)
 |(t,.fam d r)::l,.f b z=>(if t=b then(t,.fam (fun j=>if j=z then false else d j) r)else(t,.fam d r))::BQ l (.f b z)
def Ai(fr:Fr)(d:Option Nat)(v:Ad):Fr:=match d with|some t=>(t,v)::fr|none=>fr
def Ad.toInt:Ad->Int
 | .int _ n=>n
 |_=>0
def Ad.toBool:Ad->Bool
 | .bool b=>b
 |_=>false
def Ad.slen:Ad->Nat
 | .view _ n _=>n
 |_=>0
def Ad.scell:Ad->Nat->Nat->Ad
 | .view _ _ c=>c
 |_=>fun _ _=> .und
def Nt:Sh->Ad->Ad
 | .int k,v=> .int k v.toInt
 | .bool,v=> .bool v.toBool
 | .slc k,v=> .view k v.slen v.scell
 | .any,v=>v
def EE:Sh->Ad->Prop
 | .int k,v=>v= .int k v.toInt
 | .bool,v=>v= .bool v.toBool
 | .slc k,v=>v= .nils\/v= .view k v.slen v.scell
 | .any,_=>True
def Jh:List Sh->(Nat->Ad)->Nat->Ad
 |[],_,_=> .nil
 |s::l,f,j=> .cons (Nt s (f j)) (Jh l f (j+1))
def HD:List Sh->(Nat->Ad)->Nat->Prop
 |[],_,_=>True
 |s::l,f,j=>EE s (f j)/\HD l f (j+1)
def WZ(agg:Bool)(l:Ad):Ad:=match agg with|true=> .agg l|false=>Az l 0
def Qp:Sh->Ad->Ad
 | .slc k,.nils=> .view k 0 fun _ _=> .und
 |_,v=>v
def Qi:List Sh->Ad->Ad
 |s::l,.cons h t=> .cons (Qp s h) (Qi l t)
 |_,v=>v
def Ul:List Sh->Ad->Ad
 |shs,.agg l=> .agg (Qi shs l)
 |[s],v=>Qp s v
 |_,v=>v
def cellsOf:Ad->Ad
 | .agg l=>l
 |v=> .cons v .nil
def BA:Ad->Bool
 | .nil=>true
 | .cons _ t=>BA t
 |_=>false
def Bg(n:Nat):Ad->Prop
 | .agg l=>BA l=true/\Bb l=n
 | .und| .tup _| .cons _ _| .nil=>False
 |_=>n=1
def A4:Ad->Bool
 | .own _| .ptr _ _| .rptr _ _ _| .mapb _| .yld _| .osl _ _ _=>false
 | .cons h t=>A4 h&&A4 t
 | .agg l| .tup l| .func _ l=>A4 l
 |_=>true
def DK:Ad->Bool
 | .own _| .ptr _ _| .rptr _ _ _| .view _ _ _| .vptr _ _| .func _ _| .mapb _| .yld _| .mview _ _ _| .osl _ _ _| .tv _ _ _=>false
 | .cons h t=>DK h&&DK t
 | .agg l| .tup l=>DK l
 |_=>true
def UZ(own:Option TypeId)(v:Ad):Bool:=match own with
 |none=>DK v
 |some _=>true
def C3:Ad->Bool
 | .cons h t=>(match h with| .und| .agg _| .tup _| .cons _ _| .nil=>false|_=>true)&&C3 t
 |_=>true
def EG:Bool->Ad->Ad->Ad
 |true,a,_=>a
 |false,_,b=>b
def Ay(bx:Bx):Nat->Ad->Ad
 |0,.own _=> .und
 |0,.ptr _ _=> .und
 |0,.rptr _ _ _=> .und
 |0,.mapb _=> .und
 |0,.yld _=> .und
 |0,.osl _ _ _=> .und
 |d+1,.own b=>match Ab bx b with|some (.row _ k n c)=> .view k n c|some (.rown _ k n c)=> .view k n fun i j=>EG (decide (i<n/\j<k)) (Ay bx d (c i j)) .und|_=> .own b
 |d+1,.ptr b off=>match Ab bx b with|some (.cells l)=> .vptr (Bb l-off) fun j=>Az (Ay bx d l) (off+j)|_=> .ptr b off
 |_+1,.osl b off n=>match Ab bx b with|some (.row _ k _ c)=> .view k n fun i j=>c (off+i) j|_=> .osl b off n
 |d+1,.rptr b i off=>match Ab bx b with|some (.row _ k n c)=> .vptr (k-off) fun j=>c i (off+j)|_=> .rptr b i off
 |d+1,.mapb b=>match Ab bx b with|some (.mp kd has f)=> .mview kd has fun k=>EG (has k) (Ay bx d (f k)) .und|some (.mz _ _)=> .und|_=> .mapb b
 |d,.cons h t=> .cons (Ay bx d h) (Ay bx d t)
 |d,.agg l=> .agg (Ay bx d l)
 |d,.tup l=> .tup (Ay bx d l)
 |d,.func fn l=> .func fn (Ay bx d l)
 |_,v=>v
noncomputable def An(bx:Bx):Nat->Ad->Bool
 |0,_=>true
 |d+1,.own b=>match Ab bx b with|some (.row _ _ _ _)=>true|some (.rown _ k n c)=> @decide (∀i,i<n->∀j,j<k->An bx d (c i j)=true) (Classical.propDecidable _)|_=>false
 |d+1,.ptr b _=>match Ab bx b with|some (.cells l)=>An bx d l|_=>false
 |_+1,.rptr b _ _=>match Ab bx b with|some (.row _ _ _ _)=>true|_=>false
 |d+1,.mapb b=>match Ab bx b with|some (.mp _ has f)=> @decide (∀k,has k=true->An bx d (f k)=true) (Classical.propDecidable _)|some (.mz _ _)=>true|_=>false
 |d+1,.cons h t=>An bx (d+1) h&&An bx (d+1) t
 |_+1,.yld _=>false
 |_+1,.osl b _ _=>match Ab bx b with|some (.row _ _ _ _)=>true|_=>false
 |d+1,.agg l=>An bx (d+1) l
 |d+1,.tup l=>An bx (d+1) l
 |d+1,.func _ l=>An bx (d+1) l
 |_+1,_=>true
def Wv:Ad->Nat->Ad
 | .vptr m c,o=> .vptr (m-o) fun j=>c (o+j)
 |_,_=> .und
def Bc(b:Bn)(r:Ad):Ad->Ad
 | .own b'=>if b'=b then r else .own b'
 | .ptr b' o=>if b'=b then Wv r o else .ptr b' o
 | .rptr b' i o=>if b'=b then .und else .rptr b' i o
 | .osl b' o n=>if b'=b then .und else .osl b' o n
 | .mapb b'=>if b'=b then .und else .mapb b'
 | .yld b'=>if b'=b then .und else .yld b'
 | .cons h t=> .cons (Bc b r h) (Bc b r t)
 | .agg l=> .agg (Bc b r l)
 | .tup l=> .tup (Bc b r l)
 | .func fn l=> .func fn (Bc b r l)
 |v=>v
def AK(b:Bn)(r:Ad):Fr->Fr
 |[]=>[]
 |(t,v)::l=>(t,Bc b r v)::AK b r l
def BU(b:Bn)(r:Ad):Cw->Cw
 | .cells l=> .cells (Bc b r l)
 | .mp kd has f=> .mp kd has fun k=>Bc b r (f k)
 | .mz kd f=> .mz kd fun k=>Bc b r (f k)
 | .rown e k n c=> .rown e k n fun i j=>Bc b r (c i j)
 | .lp g fr ps ca cb st=> .lp g (AK b r fr) ps ca cb st
 | .it mb kd seen last=> .it (if mb=some b then none else mb) kd seen last
 | .row e k n c=> .row e k n c
 | .wc g v=> .wc g (Bc b r v)
def AJ(b:Bn)(r:Ad):Bx->Bx
 |[]=>[]
 |(t,.one c)::m=>(t,.one (BU b r c))::AJ b r m
 |(t,.fam d q)::m=>(t,.fam d fun z=>BU b r (q z))::AJ b r m
structure As where
 pre:List Ad->Prop
 res:List Ad->Ad
 own:Option TypeId
structure AR where
 pre:Prop
 v:Ad
 new:Option Cw
abbrev bad:AR:=⟨False,.und,none⟩
abbrev Gm(v:Ad):AR:=⟨True,v,none⟩
structure Db where
 G:Nat->Option (Nat×(Nat->Ad))
 S:FuncId->Option As
 I:FuncId->Option Ax
 X:FuncId->Option (Nat×As)
 N:TypeId->Bool
 C:FuncId->Option (TypeId×IntKind)
 Z:FuncId->Bool
def ev(E:Db)(fr:Fr):Bf->Ad
 | .t n=>Au fr n
 | .c v=>v
 | .g n=>match E.G n with|some (m,c)=> .vptr m c|none=> .und
def Zb(E:Db)(fr:Fr):List Bf->Ad
 |[]=> .nil
 |x::l=> .cons (ev E fr x) (Zb E fr l)
def Kf(E:Db)(fr:Fr):Ad->List (Nat×Nat×Bf)->Ad
 |z,[]=>z
 |z,(off,_,x)::l=>Kf E fr (Dh z off (cellsOf (ev E fr x))) l
def Ha(E:Db)(fr:Fr)(len:Nat):List (Nat×Nat×Bf)->Prop
 |[]=>True
 |(off,n,x)::l=>Bg n (ev E fr x)/\off+n<=len/\Ha E fr len l
def Iy(E:Db)(fr:Fr):Ad->List (Nat×Bf)->Ad
 |z,[]=>z
 |z,(i,x)::l=>Iy E fr (G4 z i (cellsOf (ev E fr x))) l
def FF(E:Db)(fr:Fr)(k len:Nat):List (Nat×Bf)->Prop
 |[]=>True
 |(i,x)::l=>Bg k (ev E fr x)/\A4 (ev E fr x)=true/\C3 (cellsOf (ev E fr x))=true/\i<len/\FF E fr k len l
def EU(E:Db)(fr:Fr)(k len:Nat):List (Nat×Bf)->Prop
 |[]=>True
 |(i,x)::l=>Bg k (ev E fr x)/\C3 (cellsOf (ev E fr x))=true/\i<len/\EU E fr k len l
def L0:Ad->Bool
 | .cons .nils _=>true
 | .cons _ t=>L0 t
 |_=>false
def MB(z:Ad):Nat->Ad
 |0=> .nil
 |n+1=> .cons z (MB z n)
def FZ:Ad->Nat->Nat->Ad
 |l,off,n=>Ka (fun j=>Az l (off+j)) 0 n
def DU:List Sh->Ad->Ad->Bool
 | .int _::s,.cons a l,.cons b m=>a.toInt==b.toInt&&DU s l m
 | .bool::s,.cons a l,.cons b m=>a.toBool==b.toBool&&DU s l m
 |_,_,_=>true
def It:List Sh->Ad->Prop
 |[],.nil=>True
 | .int k::s,.cons a l=>EE (.int k) a/\It s l
 | .bool::s,.cons a l=>EE .bool a/\It s l
 |_,_=>False
def L8(op:BinOp)(k:IntKind)(a b:Int):AR:=
 match op with
 | .add=>Gm (.int k (k.wrap (a+b)))
 | .sub=>Gm (.int k (k.wrap (a-b)))
 | .mul=>Gm (.int k (k.wrap (a*b)))
 | .quo=>⟨b≠0,.int k (k.wrap (a.tdiv b)),none⟩
 | .rem=>⟨b≠0,.int k (a.tmod b),none⟩
 | .eql=>Gm (.bool (a==b))
 | .neq=>Gm (.bool (a !=b))
 | .lss=>Gm (.bool (decide (a<b)))
 | .leq=>Gm (.bool (decide (a<=b)))
 | .gtr=>Gm (.bool (decide (a>b)))
 | .geq=>Gm (.bool (decide (a≥b)))
 | .and=>Gm (.int k (bits .and k a b))
 | .or=>Gm (.int k (bits .or k a b))
 | .xor=>Gm (.int k (bits .xor k a b))
 | .shl=>⟨0<=b/\b<=k.bits,.int k (k.wrap (a*2^b.toNat)),none⟩
 | .shr=>⟨0<=b/\b<=k.bits,.int k (a/2^b.toNat),none⟩
 |_=>bad
def B7(E:Db)(fr:Fr)(d:Int):Option Bf->Option Int
 |none=>some d
 |some x=>match ev E fr x with| .int _ z=>some z|_=>none
def T0(bx:Bx):Ad->AR
 | .view _ n _=>Gm (.int .i64 n)
 | .nils=>Gm (.int .i64 0)
 | .own b=>match Ab bx b with|some (.row _ _ n _)|some (.rown _ _ n _)=>Gm (.int .i64 n)|_=>bad
 | .osl _ _ n=>Gm (.int .i64 n)
 | .tv _ n _=>Gm (.int .i64 n)
 |_=>bad
def AQ(E:Db)(fr:Fr):List (List Sh×Bf)->List Ad
 |[]=>[]
 |(_,x)::l=>ev E fr x::AQ E fr l
def BK:Ad->List Ad
 | .cons h t=>h::BK t
 |_=>[]
def Ci(bx:Bx):List Ad->List Ad
 |[]=>[]
 |v::l=>Ay bx 40 v::Ci bx l
noncomputable def BJ(bx:Bx):List Ad->Bool
 |[]=>true
 |v::l=>An bx 40 v&&BJ bx l
def CZ:List (List Sh×Bf)->List Ad->List Ad
 |(s,_)::a,v::l=>Ul s v::CZ a l
 |_,l=>l
def Er:List Ad->Bool
 |[]=>true
 |v::l=>A4 v&&Er l
noncomputable def Ct(bx:Bx)(s:As)(args:List (List Sh×Bf))(vs:List Ad):AR:=
 match Er vs with
 |true=>⟨s.pre (CZ args vs),s.res (CZ args vs),none⟩
 |false=>⟨BJ bx vs=true/\s.pre (CZ args (Ci bx vs))/\UZ s.own (s.res (CZ args (Ci bx vs)))=true,s.res (CZ args (Ci bx vs)),none⟩
def PQ(ok has:Bool)(v z:Ad):Ad:=match ok with
 |true=> .tup (.cons (EG has v z) (.cons (.bool has) .nil))
 |false=>EG has v z
noncomputable def Jk(n:Nat)(f:Nat->Int)(m:Nat)(g:Nat->Int):Bool:= @decide (n=m/\∀i,i<n->f i=g i) (Classical.propDecidable _)
noncomputable def AF(E:Db)(fr:Fr)(bx:Bx)(nx:Nat):Ji->AR
 | .mv x=>Gm (ev E fr x)
 | .pick c a b=>match ev E fr c with| .bool t=>Gm (EG t (ev E fr a) (ev E fr b))|_=>bad
 | .alloc z=>⟨BA z=true,.ptr nx 0,some (.cells z)⟩
 | .box n x=>⟨Bg n (ev E fr x),.ptr nx 0,some (.cells (cellsOf (ev E fr x)))⟩
 | .build z parts=>⟨BA z=true/\Ha E fr (Bb z) parts,.agg (Kf E fr z parts),none⟩
 | .bsl e k len z parts=>match E.N e with
  |true=>⟨BA z=true/\A4 z=true/\C3 z=true/\Bb z=k/\0<k/\EU E fr k len parts/\L0 z=true,.own nx,some (.rown e k len fun i j=>Az (Az (Iy E fr (MB z len) parts) i) j)⟩
  |false=>⟨BA z=true/\A4 z=true/\C3 z=true/\Bb z=k/\0<k/\FF E fr k len parts,.own nx,some (.row e k len fun i j=>Az (Az (Iy E fr (MB z len) parts) i) j)⟩
 | .load agg shs x=>match ev E fr x with
  | .ptr b off=>match Ab bx b with
   |some (.cells l)=>⟨off+shs.length<=Bb l,WZ agg (FZ l off shs.length),none⟩
   |_=>bad
  | .vptr m c=>⟨shs.length<=m/\HD shs c 0,WZ agg (Jh shs c 0),none⟩
  | .rptr b i off=>match Ab bx b with
   |some (.row _ k _ c)=>⟨off+shs.length<=k/\HD shs (fun j=>c i (off+j)) 0,WZ agg (Jh shs (fun j=>c i (off+j)) 0),none⟩
   |some (.rown _ k _ c)=>⟨off+shs.length<=k,WZ agg (Ka (fun j=>c i (off+j)) 0 shs.length),none⟩
   |_=>bad
  |_=>bad
 | .bin op x y=>match ev E fr x,ev E fr y with
  | .int k a,.int k' b=>match L8 op k a b with|⟨p,v,n⟩=>⟨(match op with| .shl=>True| .shr=>True|_=>k=k')/\p,v,n⟩
  |_,_=>bad
 | .binb neg x y=>match ev E fr x,ev E fr y with
  | .bool a,.bool b=>Gm (.bool (match neg with|true=>a !=b|false=>a==b))
  |_,_=>bad
 | .eqa neg shs x y=>match ev E fr x,ev E fr y with
  | .agg l,.agg m=>⟨It shs l/\It shs m,.bool (match neg with|true=> !DU shs l m|false=>DU shs l m),none⟩
  |_,_=>bad
 | .un op x=>match op,ev E fr x with
  | .neg,.int k a=>Gm (.int k (k.wrap (0-a)))
  | .not,.bool b=>Gm (.bool !b)
  |_,_=>bad
 | .conv k x=>match ev E fr x with| .int _ n=>Gm (.int k (k.wrap n))|_=>bad
 | .mkf fn caps=>Gm (.func fn (Zb E fr caps))
 | .fld off x=>match ev E fr x with
  | .ptr b o=>Gm (.ptr b (o+off))
  | .vptr m c=>Gm (.vptr (m-off) fun j=>c (off+j))
  | .rptr b i o=>Gm (.rptr b i (o+off))
  |_=>bad
 | .idx k x i=>match ev E fr x,ev E fr i with
  | .view k' n c,.int _ z=>⟨k=k'/\0<=z/\z<n,.vptr k (c z.toNat),none⟩
  | .own b,.int _ z=>match Ab bx b with
   |some (.row _ k' n _)|some (.rown _ k' n _)=>⟨k=k'/\0<=z/\z<n,.rptr b z.toNat 0,none⟩
   |_=>bad
  | .osl b off m,.int _ z=>match Ab bx b with
   |some (.row _ k' _ _)|some (.rown _ k' _ _)=>⟨k=k'/\0<=z/\z<m,.rptr b (off+z.toNat) 0,none⟩
   |_=>bad
  |_,_=>bad
 | .idxA k len x i=>match ev E fr x,ev E fr i with
  | .ptr b o,.int _ z=>⟨0<=z/\z<len,.ptr b (o+z.toNat*k),none⟩
  | .vptr m c,.int _ z=>⟨0<=z/\z<len,.vptr (m-z.toNat*k) fun j=>c (z.toNat*k+j),none⟩
  | .rptr b i' o,.int _ z=>⟨0<=z/\z<len,.rptr b i' (o+z.toNat*k),none⟩
  |_,_=>bad
 | .sl k x lo hi=>match ev E fr x with
  | .view k' n c=>match B7 E fr 0 lo,B7 E fr n hi with
   |some l,some h=>⟨k=k'/\0<=l/\l<=h/\h<=n,.view k (h-l).toNat fun i=>c (l.toNat+i),none⟩
   |_,_=>bad
  | .own b=>match Ab bx b with
   |some (.row _ k' n _)|some (.rown _ k' n _)=>match B7 E fr 0 lo,B7 E fr n hi with
    |some l,some h=>⟨k=k'/\0<=l/\l<=h/\h<=n,.osl b l.toNat (h-l).toNat,none⟩
    |_,_=>bad
   |_=>bad
  | .osl b off n=>match Ab bx b with
   |some (.row _ k' _ _)|some (.rown _ k' _ _)=>match B7 E fr 0 lo,B7 E fr n hi with
    |some l,some h=>⟨k=k'/\0<=l/\l<=h/\h<=n,.osl b (off+l.toNat) (h-l).toNat,none⟩
    |_,_=>bad
   |_=>bad
  |_=>bad
 | .clip k x hi mx=>match ev E fr x,ev E fr hi,ev E fr mx with
  | .view k' n c,.int _ h,.int _ m=>⟨k=k'/\h=m/\0<=h/\h<=n,.tv k h.toNat c,none⟩
  | .nils,.int _ h,.int _ m=>⟨h=0/\m=0,.nils,none⟩
  |_,_,_=>bad
 | .mif T x=>match ev E fr x with| .int k n=>Gm (.ifc T k n)|_=>bad
 | .ext i x=>match ev E fr x with| .tup l=>⟨i<Bb l,Az l i,none⟩|_=>bad
 | .call f args=>match ev E fr f with
  | .func (.func id) caps=>match E.S id with
   |some s=>match Ct bx s args (AQ E fr args++BK caps)with|⟨p,v,n⟩=>⟨BA caps=true/\p,v,n⟩
   |none=>bad
  |_=>bad
 | .len x=>T0 bx (ev E fr x)
 | .mm mx x y=>match ev E fr x,ev E fr y with
  | .int k a,.int k' b=>⟨k=k',.int k (match mx with|true=>max a b|false=>min a b),none⟩
  |_,_=>bad
 | .nilc x=>match ev E fr x with
  | .ptr b o=>Gm (.ptr b o)
  | .vptr m c=>Gm (.vptr m c)
  | .rptr b i o=>Gm (.rptr b i o)
  |_=>bad
 | .mks e k bytes z n c=>match ev E fr n,ev E fr c with
  | .int _ a,.int _ b=>⟨BA z=true/\A4 z=true/\C3 z=true/\Bb z=k/\0<k/\a=b/\0<=a/\a<=4611686018427387904/\a*bytes<=140737488355328,.own nx,some (.row e k a.toNat fun _ j=>Az z j)⟩
  |_,_=>bad
 | .mkm kd=>⟨True,.mapb nx,some (.mp kd (fun _=>false) fun _=> .und)⟩
 | .mget kd ok z x k=>match ev E fr x,ev E fr k with
  | .mview kd' has f,.int kk n=>⟨kd'=kd/\kk=kd,PQ ok (has n) (f n) z,none⟩
  | .mapb b,.int kk n=>match Ab bx b with
   |some (.mp kd' has f)=>⟨kd'=kd/\kk=kd,PQ ok (has n) (f n) z,none⟩
   |some (.mz kd' f)=>⟨kd'=kd/\kk=kd/\ok=false/\z= .nils,f n,none⟩
   |_=>bad
  |_,_=>bad
 | .fv agg off n x=>match ev E fr x with
  | .agg l=>⟨off+n<=Bb l,WZ agg (FZ l off n),none⟩
  |_=>bad
 | .mm3 mx x y z=>match ev E fr x,ev E fr y,ev E fr z with
  | .int k a,.int k' b,.int k'' c=>⟨k=k'/\k=k'',.int k (match mx with|true=>max (max a b) c|false=>min (min a b) c),none⟩
  |_,_,_=>bad
 | .b2s x=>match ev E fr x with
  | .view k n c=>⟨k=1/\∀i,i<n->c i 0= .int .u8 (c i 0).toInt/\0<=(c i 0).toInt/\(c i 0).toInt<=255,.strv n fun i=>(c i 0).toInt,none⟩
  | .nils=>Gm (.strv 0 fun _=>0)
  |_=>bad
 | .seq neg x y=>match ev E fr x,ev E fr y with
  | .strv n f,.strv m g=>Gm (.bool (match neg with|true=> !Jk n f m g|false=>Jk n f m g))
  |_,_=>bad
 | .mset _ _ _ _=>bad
 | .isnil _ _=>bad
 | .mdel _ _ _=>bad
 | .mlen _ _=>bad
 | .nxt _=>bad
 | .rngm _ _=>bad
 | .ent _=>bad
 | .store _ _ _=>bad
 | .app _ _ _ _ _=>bad
 | .calle _ _=>bad
 | .clr _ _ _=>bad
 | .pan _| .dfr _=>bad
def CX(nx:Nat):Option Cw->Bx->Bx
 |none,bx=>bx
 |some c,bx=>(nx,.one c)::bx
def Da(nx:Nat):Option Cw->Nat
 |none=>nx
 |some _=>nx+1
end Go.Proofs.YtlieoghhkioflaaGreat
/- The engine,part 3: the run of compiled code on abstract states. No condition. -/
namespace Go.Proofs.YtlieoghhkioflaaGreat
open Go Go.RowKit
def FT:Ad->Prop
 | .view _ n _=>n<=maxLen
 | .cons h t=>FT h/\FT t
 | .agg l| .tup l=>FT l
 |_=>True
inductive BY where
 |code (c:Cm)
 |ops (d:Nat) (l:List A2)
 |blk (id:Nat)
 |inv (J:List Fr->Fr->Bx->Prop)
 |lend (b:Bn) (g:Nat)
 |rbeg (b:Bn) (g:Nat)
 |rend (b:Bn) (g:Nat)
 |ctch (b:Bn) (g:Nat) (T:TypeId) (k:IntKind)
structure Av where
 d:Option Nat
 K:List BY
 res:List B6
 fr:Fr
 nx:Nat
def GF(id:Nat):List BY->Option (List BY)
 |[]=>none
 | .rbeg _ _::_=>none
 | .blk i::K=>if i=id then some K else GF id K
 |_::K=>GF id K
def Dd:List BY->Option (Bn×Nat)
 |[]=>none
 | .rend b g::_=>some (b,g)
 | .code _::K| .ops _ _::K| .blk _::K| .inv _::K| .lend _ _::K| .rbeg _ _::K| .ctch _ _ _ _::K=>Dd K
def LQ:List BY->Bool
 |[]=>false
 | .rbeg _ _::_=>true
 | .code _::K| .ops _ _::K| .blk _::K| .inv _::K| .lend _ _::K| .rend _ _::K| .ctch _ _ _ _::K=>LQ K
def Bl:List BY->Option (Bn×Nat×TypeId×IntKind)
 |[]=>none
 | .ctch b g T k::_=>some (b,g,T,k)
 | .code _::K| .ops _ _::K| .blk _::K| .inv _::K| .lend _ _::K| .rbeg _ _::K| .rend _ _::K=>Bl K
def Fw:List BY->Bool
 |[]=>true
 | .code _::K| .ops _ _::K| .blk _::K=>Fw K
 |_=>false
def EY:List BY->Bool
 |[]=>true
 | .code _::K| .ops _ _::K| .blk _::K| .inv _::K| .ctch _ _ _ _::K=>EY K
 |_=>false
def IP(R:List Av->List B6->Fr->Bx->Nat->Prop)(T:TypeId)(k:IntKind)(z:Int):List Av->Option (Bn×Nat×TypeId×IntKind)->List B6->Fr->Bx->Nat->Prop
 |[],none,_,_,_,_=>False
 |f::s,none,_,_,bx,nx=>EY f.K=true/\IP R T k z s (Bl f.K) f.res f.fr bx nx
 |s,some (b,g,T',k'),res,fr,bx,nx=>T'=T/\k'=k/\(∃y,Ab bx b=some (.wc g (.int k y)))/\R s res fr (Aj bx b (.wc g (.int k z))) nx
def FM(ks:List Nat)(fr:Fr):Fr:=ks.map fun t=>(t,Au fr t)
def Ks:Fr->List Nat->List Ad->Fr
 |fr,t::ts,v::vs=>Ks ((t,v)::fr) ts vs
 |fr,_,_=>fr
def AC(b:Bn)(r:Ad):List Av->List Av
 |[]=>[]
 |f::l=>{f with fr:=AK b r f.fr}::AC b r l
def OV:Ad->List Bn
 | .own b=>[b]
 | .cons h t=>OV h++OV t
 | .agg l| .tup l| .func _ l=>OV l
 |_=>[]
def O1(fr:Fr)(bx:Bx):B6->AR
 | .t n=>Gm (Au fr n)
 | .cell n agg shs=>match Au fr n with
  | .ptr b off=>match Ab bx b with
   |some (.cells l)=>⟨off+shs.length<=Bb l,WZ agg (FZ l off shs.length),none⟩
   |some (.wc _ v)=>⟨off=0/\shs.length=1/\agg=false,v,none⟩
   |_=>bad
  |_=>bad
def MS(fr:Fr)(bx:Bx):List B6->Prop×Ad
 |[]=>(True,.nil)
 |r::l=>match O1 fr bx r,MS fr bx l with|⟨p,v,_⟩,(q,t)=>(p/\q,.cons v t)
def Hw(fr:Fr)(bx:Bx):List B6->Prop×Ad
 |[r]=>match O1 fr bx r with|⟨p,v,_⟩=>(p,v)
 |l=>match MS fr bx l with|(p,t)=>(p,.tup t)
def CB(bx:Bx):Ad->Option (Option Nat×Nat×(Nat->Nat->Ad))
 | .view k n c=>some (some k,n,c)
 | .nils=>some (none,0,fun _ _=> .und)
 | .own b=>match Ab bx b with|some (.row _ k n c)=>some (some k,n,c)|_=>none
 | .osl b off n=>match Ab bx b with|some (.row _ k _ c)=>some (some k,n,fun i j=>c (off+i) j)|_=>none
 | .tv k n c=>some (some k,n,c)
 |_=>none
def params:Nat->List Ad->Fr
 |_,[]=>[]
 |t,v::l=>(t,v)::params (t+1) l
def AB:Ad->Ad->Prop
 | .und,_=>True
 | .cons h t,v=>∃h' t',v= .cons h' t'/\AB h h'/\AB t t'
 | .agg l,v=>∃l',v= .agg l'/\AB l l'
 | .tup l,v=>∃l',v= .tup l'/\AB l l'
 | .func fn l,v=>∃l',v= .func fn l'/\AB l l'
 | .view k n c,v=>(v= .nils/\n=0)\/∃c',v= .view k n c'/\∀i,i<n->∀j,j<k->AB (c i j) (c' i j)
 | .vptr m c,v=>∃c',v= .vptr m c'/\∀j,j<m->AB (c j) (c' j)
 | .mview kd has f,v=>∃has' f',v= .mview kd has' f'/\∀k,has' k=has k/\(has k=true->AB (f k) (f' k))
 |u,v=>v=u
def BS(N D:Bn->Prop):Ad->Ad->Prop
 | .und,_=>True
 | .own b,v=>(v= .own b/\D b)\/(v= .nils/\N b)
 | .ptr b off,v=>v= .ptr b off/\D b
 | .rptr b i off,v=>v= .rptr b i off/\D b
 | .mapb b,v=>v= .mapb b/\D b
 | .yld b,v=>v= .yld b/\D b
 | .osl b off n,v=>v= .osl b off n/\D b
 | .cons h t,v=>∃h' t',v= .cons h' t'/\BS N D h h'/\BS N D t t'
 | .agg l,v=>∃l',v= .agg l'/\BS N D l l'
 | .tup l,v=>∃l',v= .tup l'/\BS N D l l'
 | .func fn l,v=>∃l',v= .func fn l'/\BS N D l l'
 | .view k n c,v=>(v= .nils/\n=0)\/∃c',v= .view k n c'/\∀i,i<n->∀j,j<k->AB (c i j) (c' i j)
 | .vptr m c,v=>∃c',v= .vptr m c'/\∀j,j<m->AB (c j) (c' j)
 | .mview kd has f,v=>∃has' f',v= .mview kd has' f'/\∀k,has' k=has k/\(has k=true->AB (f k) (f' k))
 |u,v=>v=u
def DZ(N D:Bn->Prop)(fr:Fr):Fr->Prop
 |[]=>True
 |(t,v)::l=>BS N D v (Au fr t)/\DZ N D fr l
def By(N D:Bn->Prop):Option Cw->Cw->Prop
 |some (.cells l),.cells l'=>BA l'=true/\BS N D l' l
 |some (.row e k n c),.row e' k' n' c'=>e=e'/\k=k'/\n=n'/\∀i,i<n->∀j,j<k->AB (c' i j) (c i j)
 |some (.mp kd has f),.mp kd' has' f'=>kd=kd'/\∀k,has' k=has k/\(has k=true->BS N D (f' k) (f k))
 |some (.lp g fr ps ca cb st),.lp g' fr' ps' ca' cb' st'=>g=g'/\ps=ps'/\ca=ca'/\cb=cb'/\st=st'/\DZ N D fr fr'
 |some (.it mb kd seen last),.it mb' kd' seen' last'=>kd=kd'/\match mb' with
  |none=>True
  |some b=>mb=some b/\D b/\last'=last/\∀k,seen' k=seen k
 |some (.rown e k n c),.rown e' k' n' c'=>e=e'/\k=k'/\n=n'/\∀i,i<n->∀j,j<k->BS N D (c' i j) (c i j)
 |some (.mp kd has f),.mz kd' f'=>kd=kd'/\∀k,BS N D (f' k) (EG (has k) (f k) .nils)
 |some (.mz kd f),.mz kd' f'=>kd=kd'/\∀k,BS N D (f' k) (f k)
 |some (.wc g v),.wc g' v'=>g=g'/\BS N D v' v
 |none,.row _ k n _|none,.rown _ k n _=>n=0/\0<k
 |_,_=>False
def Ya(N D:Bn->Prop)(bx:Bx)(b:Nat)(d:Int->Bool)(r:Int->Cw):Prop:=∀z,d z=true->By N D (Ab bx (.f b z)) (r z)
def Mx(N D:Bn->Prop)(bx:Bx):Bx->Prop
 |[]=>True
 |(b,.one c)::l=>By N D (Ab bx (.n b)) c/\Mx N D bx l
 |(b,.fam d r)::l=>Ya N D bx b d r/\Mx N D bx l
def Fc(bx:Bx)(b:Bn):Prop:=∃c,Ab bx b=some c
def BT(bx bx':Bx)(b:Bn):Prop:=Ab bx b=none/\∃c,Ab bx' b=some c
def P3(nx:Nat):Bx->Prop
 |[]=>True
 |(b,_)::l=>b<nx/\P3 nx l
def Tq(nx:Nat)(bx':Bx):Bx->Prop
 |[]=>True
 |(b,.one _)::l=>(b<nx->∃c,Ab bx' (.n b)=some c)/\Tq nx bx' l
 |(b,.fam d _)::l=>(b<nx->∀z,d z=true->∃c,Ab bx' (.f b z)=some c)/\Tq nx bx' l
def ZK(fr:Fr)(bx:Bx)(fr':Fr)(bx':Bx)(nx nx':Nat):Prop:=
 DZ (BT bx bx') (Fc bx') fr fr'/\Mx (BT bx bx') (Fc bx') bx bx'/\P3 nx' bx'/\Tq nx bx' bx
def Eo:List Av->List Fr
 |[]=>[]
 |f::l=>f.fr::Eo l
def JE(b:Bn):Cw->Prop
 | .it (some mb) _ _ _=>mb≠b
 |_=>True
def noIt(b:Bn):Bx->Prop
 |[]=>True
 |(_,.one c)::l=>JE b c/\noIt b l
 |(_,.fam d r)::l=>(∀z,d z=true->JE b (r z))/\noIt b l
def Gc:Nat->List Ad->Option (List Ad×Bn×List Ad)
 |0,.own b::l=>some ([],b,l)
 |z+1,v::l=>match Gc z l with|some (p,b,q)=>some (v::p,b,q)|none=>none
 |_,_=>none
noncomputable def Fv(bx:Bx)(s:As)(pz:Nat)(args:List (List Sh×Bf))(vs:List Ad)(caps:Ad)(R RI:Bn->TypeId->Nat->Nat->(Nat->Nat->Ad)->Prop):Prop:=
 match caps,Gc pz vs with
 | .nil,some (p,b,q)=>match Ab bx b with
  |some (.row e0 k n c)=>BJ (BQ bx b) (p++q)=true/\s.pre (CZ args (Ci (BQ bx b) p++ .view k n c::Ci (BQ bx b) q))/\match s.own,s.res (CZ args (Ci (BQ bx b) p++ .view k n c::Ci (BQ bx b) q))with
   |some e,.view k' m c'=>e0=e/\R b e k' m c'
   |none,.view k' m c'=>Er (p++q)=true/\k'=k/\m=n/\RI b e0 k n c'
   |_,_=>False
  |_=>False
 |_,_=>False
variable(E:Db)(Q:Ad->Bx->Prop)
def frz:List Bn->Fr×Bx×List Av->Option (Fr×Bx×List Av)
 |[],s=>some s
 |b::l,(fr,bx,stk)=>match Ab bx b with
  |some (.row _ k n c)=>frz l (AK b (.view k n c) fr,AJ b (.view k n c) (BQ bx b),AC b (.view k n c) stk)
  |some (.cells c)=>match A4 c with
   |true=>frz l (AK b (.vptr (Bb c) (Az c)) fr,AJ b (.vptr (Bb c) (Az c)) (BQ bx b),AC b (.vptr (Bb c) (Az c)) stk)
   |false=>none
  |none=>frz l (fr,bx,stk)
  |_=>none
def GG(bx:Bx):Nat->Ad->List Bn
 |0,_=>[]
 |_+1,.own b=>[b]
 |d+1,.ptr b _=>(match Ab bx b with|some (.cells l)=>GG bx d l|_=>[])++[b]
 |d+1,.cons h t=>GG bx (d+1) h++GG bx (d+1) t
 |d+1,.agg l=>GG bx (d+1) l
 |d+1,.tup l=>GG bx (d+1) l
 |d+1,.func _ l=>GG bx (d+1) l
 |_,_=>[]
def Ox(bx:Bx)(d:Nat):List Ad->List Bn
 |[]=>[]
 |v::l=>GG bx d v++Ox bx d l
def Na:List Ad->List Bn
 |[]=>[]
 |v::l=>OV v++Na l
noncomputable def Pn(bx:Bx)(s:As)(args:List (List Sh×Bf))(vs:List Ad):Bool:=match Er vs with
 |true=>false
 |false=> !UZ s.own (s.res (CZ args (Ci bx vs)))
noncomputable def Pv(fr:Fr)(bx:Bx):Ji->List Bn
 | .bsl e _ _ _ parts=>match E.N e with
  |true=>[]
  |false=>parts.flatMap fun p=>OV (ev E fr p.2)
 | .store _ a x=>match ev E fr a with
  | .rptr _ _ _=>OV (ev E fr x)
  |_=>[]
 | .call f args=>match ev E fr f with
  | .func (.func id) caps=>match E.S id with
   |some s=>match Pn bx s args (AQ E fr args++BK caps)with
    |true=>Na (AQ E fr args)
    |false=>[]
   |none=>match E.Z id with
    |true=>Na (AQ E fr args)
    |false=>[]
  |_=>[]
 | .calle f args=>match ev E fr f with
  | .func (.func id) caps=>match E.S id with
   |some s=>match Pn bx s args (AQ E fr args++BK caps)with
    |true=>Na (AQ E fr args)
    |false=>[]
   |none=>match E.X id with
    |some (pz,s)=>match s.own with
     |none=>match Gc pz (AQ E fr args)with
      |some (p,_,q)=>Ox bx 3 (p++q)
      |none=>[]
     |some _=>[]
    |none=>[]
  |_=>[]
 |_=>[]
noncomputable def FG(fr:Fr)(bx:Bx)(stk:List Av):Nat->Ji->Option (Fr×Bx×List Av)
 |0,op=>frz (Pv E fr bx op) (fr,bx,stk)
 |_+1,_=>some (fr,bx,stk)
def A9(fr:Fr):Option (Nat×Bool)->Option Bool
 |none=>some false
 |some (t,w)=>match Au fr t with| .bool b=>some (b !=w)| .tup .nil=>some true|_=>none
def Ez:List Av->List Nat
 |[]=>[]
 |f::l=>f.nx::Ez l
def GC(b y:Bn):Ad->Ad
 | .own b'=> .own (if b'=b then y else b')
 | .ptr b' o=> .ptr (if b'=b then y else b') o
 | .rptr b' i o=> .rptr (if b'=b then y else b') i o
 | .mapb b'=> .mapb (if b'=b then y else b')
 | .yld b'=> .yld (if b'=b then y else b')
 | .osl b' o n=> .osl (if b'=b then y else b') o n
 | .cons h t=> .cons (GC b y h) (GC b y t)
 | .agg l=> .agg (GC b y l)
 | .tup l=> .tup (GC b y l)
 | .func fn l=> .func fn (GC b y l)
 |v=>v
def GH(b y:Bn):Fr->Fr
 |[]=>[]
 |(t,v)::l=>(t,GC b y v)::GH b y l
def CA(b y:Bn):Cw->Cw
 | .cells l=> .cells (GC b y l)
 | .mp kd has f=> .mp kd has fun k=>GC b y (f k)
 | .mz kd f=> .mz kd fun k=>GC b y (f k)
 | .rown e k n c=> .rown e k n fun i j=>GC b y (c i j)
 | .lp g fr ps ca cb st=> .lp g (GH b y fr) ps ca cb st
 | .it mb kd seen last=> .it (mb.map fun b'=>if b'=b then y else b') kd seen last
 | .row e k n c=> .row e k n c
 | .wc g v=> .wc g (GC b y v)
def FJ(b y:Bn):Bx->Bx
 |[]=>[]
 |(t,.one c)::m=>(t,.one (CA b y c))::FJ b y m
 |(t,.fam d q)::m=>(t,.fam d fun z=>CA b y (q z))::FJ b y m
def rens:List (Bn×Bn)->Fr×Bx->Option (Fr×Bx)
 |[],s=>some s
 |(b,y)::l,(fr,bx)=>match Ab bx b,Ab bx y with
  |some c,none=>rens l (GH b y fr,Aj (FJ b y (BQ bx b)) y (CA b y c))
  |_,_=>none
def Pm(ns:List Nat)(fr:Fr)(bx:Bx)(fr':Fr)(bx':Bx)(nx nx':Nat):Prop:=
 ∃l la,(∀b∈l,∀n∈ns,n<=b.id)/\(∀p∈la,∀n∈ns,n<=p.1.id)/\∃fr2 bx2,frz l (fr,bx,[])=some (fr2,bx2,[])/\∃fr3 bx3,rens la (fr2,bx2)=some (fr3,bx3)/\ZK fr3 bx3 fr' bx' nx nx'
def EV:Option (Bn×Bn)->Fr×Bx->Fr×Bx
 |none,s=>s
 |some (b,y),(fr,bx)=>match Ab bx b with
  |some c=>(GH b y fr,Aj (FJ b y (BQ bx b)) y (CA b y c))
  |none=>(fr,bx)
def AaZ(bx0 bx1:Bx):Option (Bn×Bn)->Prop
 |none=>True
 |some (b,y)=>Ab bx0 b=none/\Ab bx0 y=none/\(∃c,Ab bx1 b=some c)/\Ab bx1 y=none
def LY(bx0:Bx)(nx0:Nat)(fr1:Fr)(bx1:Bx)(fr':Fr)(bx':Bx)(nx':Nat):Prop:=
 ∃ren:Option (Bn×Bn),AaZ bx0 bx1 ren/\nx0<=nx'/\
  DZ (BT (EV ren (fr1,bx1)).2 bx') (Fc bx') (EV ren (fr1,bx1)).1 fr'/\
  (∀b c',Ab bx' b=some c'->(Ab bx0 b=some c'/\Ab bx1 b=some c')\/By (BT (EV ren (fr1,bx1)).2 bx') (Fc bx') (Ab (EV ren (fr1,bx1)).2 b) c')/\
  (∀b c',Ab bx' b=some c'->(∃c,Ab bx0 b=some c)\/b.id<nx')/\
  ∀b c0 c1,Ab bx0 b=some c0->Ab bx1 b=some c1->∃c',Ab bx' b=some c'/\CR c1 c'
def GU(ns:List Nat)(bx0:Bx)(fr1:Fr)(bx1:Bx)(fr':Fr)(bx':Bx)(nx nx':Nat):Prop:=
 Pm ns fr1 bx1 fr' bx' nx nx'\/LY bx0 nx fr1 bx1 fr' bx' nx'
def FL(R:List BY->List Av->List B6->Fr->Bx->Nat->Prop)(c:Cm)(K:List BY)(stk:List Av)(res:List B6)(fr:Fr)(bx:Bx)(nx:Nat):Prop:=
  ∃d:Nat,∃T:Nat->Fr->Bx->Prop,(∃m fr' bx',T m fr' bx'/\GU (Ez stk) bx fr bx fr' bx' nx (nx+d))/\
   ∀m fr' bx',T m fr' bx'->R (.code c:: .inv (fun s fr1 bx1=>s=Eo stk/\∃m',m'<m/\∃fr'' bx'',T m' fr'' bx''/\GU (Ez stk) bx fr1 bx1 fr'' bx'' nx (nx+d))::K) stk res fr' bx' (nx+d)
def WH(fr:Fr):Option Nat->Ad->Prop
 |none,_=>True
 |some t,v=>v=Au fr t
noncomputable def CC(fr:Fr)(bx:Bx):List (Option Nat×Ji×Option (Nat×Bool))->Prop
 |[]=>True
 |(d,op,g)::l=>(match A9 fr g with
  |some true=>True
  |some false=>(AF E fr bx 0 op).pre/\WH fr d (AF E fr bx 0 op).v
  |none=>False)/\CC fr bx l
def Em(R:List BY->List Av->List B6->Fr->Bx->Nat->Prop)(b:Bn)(g:Nat)(st:XE)(v:Bool)(stk:List Av)(bx:Bx)(nx:Nat):Prop:=match Ab bx b with
 |some (.lp g' fr ps ca cb .busy)=>g'=g/\match stk with
  |[]=>False
  |f::stk=>R f.K stk f.res (Ai f.fr f.d (.bool v)) (Aj bx b (.lp g fr ps ca cb st)) nx
 |_=>False
def HI(bx:Bx):Option (Bn×Nat)->Prop
 |none=>True
 |some (b,g)=>match Ab bx b with
  |some (.lp g' _ _ _ _ _)=>g'=g
  |_=>False
noncomputable def run:Nat->List BY->List Av->List B6->Fr->Bx->Nat->Prop
 |0,_,_,_,_,_,_=>False
 |n+1,[],stk,res,fr,bx,nx=>match Hw fr bx res with
  |(p,v)=>p/\match stk with
   |[]=>Q v bx
   |f::stk=>run n f.K stk f.res (Ai f.fr f.d v) bx nx
 |n+1,.code .ret::K,stk,res,fr,bx,nx=>match Dd K with
  |some (b,g)=>LQ K=false/\Em (run n) b g (.done .ret) false stk bx nx
  |none=>match Hw fr bx res with
  |(p,v)=>p/\match stk with
   |[]=>Q v bx
   |f::stk=>run n f.K stk f.res (Ai f.fr f.d v) bx nx
 |n+1,.code .skip::K,stk,res,fr,bx,nx=>run n K stk res fr bx nx
 |n+1,.code (.seq a b)::K,stk,res,fr,bx,nx=>run n (.code a:: .code b::K) stk res fr bx nx
 |n+1,.code (.block id a)::K,stk,res,fr,bx,nx=>run n (.code a:: .blk id::K) stk res fr bx nx
 |n+1,.code (.scope a)::K,stk,res,fr,bx,nx=>run n (.code a::K) stk res fr bx nx
 |n+1,.blk _::K,stk,res,fr,bx,nx=>run n K stk res fr bx nx
 |n+1,.code (.exit id)::K,stk,res,fr,bx,nx=>match GF id K with
  |some K'=>run n K' stk res fr bx nx
  |none=>match Dd K with
   |some (b,g)=>LQ K=false/\Em (run n) b g (.done (.exit id)) false stk bx nx
   |none=>False
 |n+1,.code (.rng f ps ks ca cb)::K,stk,res,fr,bx,nx=>HI bx (Dd K)/\match ev E fr f with
  | .func (.func id) caps=>match E.I id with
   |some af=>BA caps=true/\∀g:Nat,run n [.code af.code] (⟨none,.lend nx g::K,res,fr,nx+1⟩::stk) af.res (params 0 (.yld nx::BK caps)) ((nx,.one (.lp g (FM ks fr) ps ca cb .ready))::bx) (nx+1)
   |none=>False
  |_=>False
 |n+1,.lend b g::K,stk,res,fr,bx,nx=>match Ab bx b with
  |some (.lp g' _ _ _ _ st)=>g'=g/\match st with
   | .ready=>run n K (AC b .und stk) res (AK b .und fr) (AJ b .und (BQ bx b)) nx
   | .busy=>False
   | .over=>False
   | .done c=>run n (.code c.acode::K) (AC b .und stk) res (AK b .und fr) (AJ b .und (BQ bx b)) nx
  |_=>False
 |n+1,.rbeg b g::K,stk,res,fr,bx,nx=>match Ab bx b with
  |some (.lp g' fr' ps ca cb .ready)=>g'=g/\run n K stk res fr (Aj bx b (.lp g fr' ps ca cb .busy)) nx
  |_=>False
 |n+1,.rend b g::_,stk,_,_,bx,nx=>Em (run n) b g .ready true stk bx nx
 |n+1,.code (.cond c a b)::K,stk,res,fr,bx,nx=>match ev E fr c with
  | .bool t=>(t=true->run n (.code a::K) stk res fr bx nx)/\(t=false->run n (.code b::K) stk res fr bx nx)
  |_=>False
 |n+1,.code (.loop c)::K,stk,res,fr,bx,nx=>
  FL (run n) c K stk res fr bx nx
 |_+1,.inv J::_,stk,_,fr,bx,_=>J (Eo stk) fr bx
 |n+1,.code (.reg d l)::K,stk,res,fr,bx,nx=>run n (.ops d l::K) stk res fr bx nx
 |n+1,.ops _ []::K,stk,res,fr,bx,nx=>run n K stk res fr bx nx
 |n+1,.ops d (o::l)::K,stk,res,fr,bx,nx=>match A9 fr o.guard with
  |none=>False
  |some true=>run n (.ops (d-1) l::K) stk res (Ai fr o.dst (.tup .nil)) bx nx
  |some false=>match FG E fr bx stk d o.op with
  |none=>False
  |some (fr,bx,stk)=>match d,o.op with
   |d,.store m a x=>match ev E fr a with
    | .ptr b off=>match Ab bx b with
     |some (.cells c)=>Bg m (ev E fr x)/\C3 (cellsOf (ev E fr x))=true/\off+m<=Bb c/\CC E (Ai fr o.dst .und) (Aj bx b (.cells (Dh c off (cellsOf (ev E fr x))))) o.re/\run n (.ops (d-1) l::K) stk res (Ai fr o.dst .und) (Aj bx b (.cells (Dh c off (cellsOf (ev E fr x))))) nx
     |some (.wc g _)=>match d with
      |0=>off=0/\m=1/\match ev E fr x with
       | .int k z=>CC E (Ai fr o.dst .und) (Aj bx b (.wc g (.int k z))) o.re/\run n (.ops 0 l::K) stk res (Ai fr o.dst .und) (Aj bx b (.wc g (.int k z))) nx
       |_=>False
      |_+1=>False
     |_=>False
    | .rptr b i off=>match Ab bx b with
     |some (.row e k m' c)=>Bg m (ev E fr x)/\C3 (cellsOf (ev E fr x))=true/\A4 (ev E fr x)=true/\off+m<=k/\
       CC E (Ai fr o.dst .und) (Aj bx b (.row e k m' fun i' j'=>if i'=i/\off<=j'/\j'<off+m then Az (cellsOf (ev E fr x)) (j'-off)else c i' j')) o.re/\
       run n (.ops (d-1) l::K) stk res (Ai fr o.dst .und) (Aj bx b (.row e k m' fun i' j'=>if i'=i/\off<=j'/\j'<off+m then Az (cellsOf (ev E fr x)) (j'-off)else c i' j')) nx
     |_=>False
    |_=>False
   |d,.app e k bytes x y=>match E.N e with
    |true=>match ev E fr y with
     | .own b'=>match Ab bx b' with
      |some (.rown _ k' m c')=>k'=k/\match ev E fr x with
       | .own b=>match Ab bx b with
        |some (.rown e' k'' n' c)=>e'=e/\k''=k/\n'+m<=maxLen/\(n'+m)*bytes<=140737488355328/\
          CC E (Ai (AK b .und fr) o.dst (.own b)) (Aj (AJ b .und bx) b (.rown e k (n'+m) fun i j=>Bc b .und (if i<n' then c i j else c' (i-n') j))) o.re/\
          run n (.ops (d-1) l::K) (AC b .und stk) res (Ai (AK b .und fr) o.dst (.own b)) (Aj (AJ b .und bx) b (.rown e k (n'+m) fun i j=>Bc b .und (if i<n' then c i j else c' (i-n') j))) nx
        |_=>False
       |_=>False
      |_=>False
     |_=>False
    |false=>match CB bx (ev E fr y)with
    |none=>False
    |some (k',m,c')=>(k'=some k\/k'=none)/\0<k/\match ev E fr x with
     | .nils=>m<=maxLen/\m*bytes<=140737488355328/\CC E (Ai fr o.dst (.own nx)) ((nx,.one (.row e k m c'))::bx) o.re/\run n (.ops (d-1) l::K) stk res (Ai fr o.dst (.own nx)) ((nx,.one (.row e k m c'))::bx) (nx+1)
     | .own b=>match Ab bx b with
      |some (.row e' k'' n' c)=>e'=e/\k''=k/\n'+m<=maxLen/\(n'+m)*bytes<=140737488355328/\
        CC E (Ai (AK b .und fr) o.dst (.own b)) (Aj (AJ b .und bx) b (.row e k (n'+m) fun i j=>if i<n' then c i j else c' (i-n') j)) o.re/\
        run n (.ops (d-1) l::K) (AC b .und stk) res (Ai (AK b .und fr) o.dst (.own b)) (Aj (AJ b .und bx) b (.row e k (n'+m) fun i j=>if i<n' then c i j else c' (i-n') j)) nx
      |_=>False
     | .tv k'' n' c=>k''=k/\0<m/\n'+m<=maxLen/\(n'+m)*bytes<=140737488355328/\CC E (Ai fr o.dst (.own nx)) ((nx,.one (.row e k (n'+m) fun i j=>if i<n' then c i j else c' (i-n') j))::bx) o.re/\
       run n (.ops (d-1) l::K) stk res (Ai fr o.dst (.own nx)) ((nx,.one (.row e k (n'+m) fun i j=>if i<n' then c i j else c' (i-n') j))::bx) (nx+1)
     |_=>False
   |d,.mset kd m k v=>match ev E fr m,ev E fr k with
    | .mapb b,.int kk z=>match Ab bx b with
     |some (.mp kd' has f)=>kd'=kd/\kk=kd/\noIt b bx/\
       CC E (Ai fr o.dst .und) (Aj bx b (.mp kd (fun j=>if j=z then true else has j) fun j=>if j=z then ev E fr v else f j)) o.re/\
       run n (.ops (d-1) l::K) stk res (Ai fr o.dst .und) (Aj bx b (.mp kd (fun j=>if j=z then true else has j) fun j=>if j=z then ev E fr v else f j)) nx
     |some (.mz kd' f)=>kd'=kd/\kk=kd/\noIt b bx/\
       CC E (Ai fr o.dst .und) (Aj bx b (.mz kd fun j=>if j=z then ev E fr v else f j)) o.re/\
       run n (.ops (d-1) l::K) stk res (Ai fr o.dst .und) (Aj bx b (.mz kd fun j=>if j=z then ev E fr v else f j)) nx
     |_=>False
    |_,_=>False
   |0,.isnil neg x=>match ev E fr x with
    | .nils=>run n (.ops 0 l::K) stk res (Ai fr o.dst (.bool (!neg))) bx nx
    | .view _ m _=>∀t:Bool,(0<m->t=false)->run n (.ops 0 l::K) stk res (Ai fr o.dst (.bool (t !=neg))) bx nx
    | .own b=>match Ab bx b with
     |some (.row _ _ m _)|some (.rown _ _ m _)=>∀t:Bool,(0<m->t=false)->run n (.ops 0 l::K) stk res (Ai fr o.dst (.bool (t !=neg))) bx nx
     |_=>False
    |_=>False
   |0,.clr k z x=>BA z=true/\A4 z=true/\C3 z=true/\Bb z=k/\match ev E fr x with
    | .nils=>run n (.ops 0 l::K) stk res (Ai fr o.dst .und) bx nx
    | .own b=>match Ab bx b with
     |some (.row e k' m c)=>k'=k/\run n (.ops 0 l::K) stk res (Ai fr o.dst .und) (Aj bx b (.row e k m fun i j=>if 0<=i/\i<0+m then Az z j else c i j)) nx
     |_=>False
    | .osl b off n'=>match Ab bx b with
     |some (.row e k' m c)=>k'=k/\run n (.ops 0 l::K) stk res (Ai fr o.dst .und) (Aj bx b (.row e k m fun i j=>if off<=i/\i<off+n' then Az z j else c i j)) nx
     |_=>False
    |_=>False
   |0,.pan x=>EY K=true/\match ev E fr x with
    | .ifc T k z=>IP (run n []) T k z stk (Bl K) res fr bx nx
    |_=>False
   |0,.dfr x=>Fw K=true/\match ev E fr x with
    | .func (.func id) (.cons (.ptr b 0) .nil)=>match E.C id,Ab bx b with
     |some (T,k),some (.cells (.cons (.int k' y) .nil))=>k'=k/\∀g,run n (.ops 0 l::(K++[.ctch b g T k])) stk res (Ai fr o.dst .und) (Aj bx b (.wc g (.int k y))) nx
     |_,_=>False
    |_=>False
   |0,.mdel kd m k=>match ev E fr m,ev E fr k with
    | .mapb b,.int kk z=>match Ab bx b with
     |some (.mp kd' has f)=>kd'=kd/\kk=kd/\noIt b bx/\
       run n (.ops 0 l::K) stk res (Ai fr o.dst .und) (Aj bx b (.mp kd (fun j=>if j=z then false else has j) f)) nx
     |_=>False
    |_,_=>False
   |0,.mlen kd m=>match ev E fr m with
    | .mapb b=>match Ab bx b with
     |some (.mp kd' has _)=>kd'=kd/\
       ∀c:Nat,(c=0↔∀k,has k=false)->run n (.ops 0 l::K) stk res (Ai fr o.dst (.int .i64 c)) bx nx
     |_=>False
    |_=>False
   |0,.rngm kd x=>match ev E fr x with
    | .mapb b=>match Ab bx b with
     |some (.mp kd' _ _)=>kd'=kd/\run n (.ops 0 l::K) stk res (Ai fr o.dst (.ptr nx 0)) ((nx,.one (.it (some b) kd (fun _=>false) none))::bx) (nx+1)
     |_=>False
    |_=>False
   |0,.nxt x=>match ev E fr x with
    | .ptr b 0=>match Ab bx b with
     |some (.it (some mb) kd seen _)=>match Ab bx mb with
      |some (.mp kd' has f)=>kd'=kd/\
       (∀k,has k=true->seen k=false->run n (.ops 0 l::K) stk res (Ai fr o.dst (.tup (.cons (.bool true) (.cons (.int kd k) (.cons (f k) .nil))))) (Aj bx b (.it (some mb) kd (fun j=>if j=k then true else seen j) (some k))) nx)/\
       ((∀k,has k=true->seen k=true)->run n (.ops 0 l::K) stk res (Ai fr o.dst (.tup (.cons (.bool false) .nil))) (Aj bx b (.it none kd seen none)) nx)
      |_=>False
     |_=>False
    |_=>False
   |0,.ent x=>match ev E fr x with
    | .ptr b 0=>match Ab bx b with
     |some (.it (some mb) kd _ (some k))=>match Ab bx mb with
      |some (.mp kd' has f)=>kd'=kd/\has k=true/\run n (.ops 0 l::K) stk res (Ai fr o.dst (.tup (.cons (.int kd k) (.cons (f k) .nil)))) bx nx
      |_=>False
     |_=>False
    |_=>False
   |0,.calle f args=>match ev E fr f with
     | .func (.func id) caps=>match E.I id with
      |some af=>BA caps=true/\run n [.code af.code] (⟨o.dst,.ops 0 l::K,res,fr,nx⟩::stk) af.res (params 0 (AQ E fr args++BK caps)) bx nx
      |none=>match E.S id with
       |some s=>match Ct bx s args (AQ E fr args++BK caps)with
        |⟨p,v,_⟩=>(BA caps=true/\p)/\(FT v->match s.own,v with
         |some e,.view k m c=>0<k->run n (.ops 0 l::K) stk res (Ai fr o.dst (.own nx)) ((nx,.one (.row e k m c))::bx) (nx+1)
         |_,_=>run n (.ops 0 l::K) stk res (Ai fr o.dst v) bx nx)
       |none=>match E.X id with
        |some (pz,s)=>Fv bx s pz args (AQ E fr args) caps (fun b e k m c=>run n (.ops 0 l::K) (AC b .und stk) res (Ai (AK b .und fr) o.dst (.own b)) (Aj (AJ b .und bx) b (.row e k m c)) nx) fun b e k m c=>run n (.ops 0 l::K) stk res (Ai fr o.dst .und) (Aj bx b (.row e k m c)) nx
        |none=>False
     | .yld b=>match Ab bx b with
      |some (.lp g fr' ps ca cb .ready)=>ps.length=args.length/\run n [.code ca,.rbeg b g,.code cb,.rend b g] (⟨o.dst,.ops 0 l::K,res,fr,nx⟩::stk) [] (Ks fr' ps (AQ E fr args)) bx nx
      |_=>False
     |_=>False
   |d+1,.calle f args=>match ev E fr f with
     | .func (.func id) caps=>match E.S id with
      |some s=>match Ct bx s args (AQ E fr args++BK caps)with
       |⟨p,v,_⟩=>(BA caps=true/\p)/\match s.own,v with
        |some e,.view k m c=>0<k/\CC E (Ai fr o.dst (.own nx)) ((nx,.one (.row e k m c))::bx) o.re/\run n (.ops d l::K) stk res (Ai fr o.dst (.own nx)) ((nx,.one (.row e k m c))::bx) (nx+1)
        |_,_=>False
      |none=>match E.X id with
       |some (pz,s)=>Fv bx s pz args (AQ E fr args) caps (fun b e k m c=>CC E (Ai (AK b .und fr) o.dst (.own b)) (Aj (AJ b .und bx) b (.row e k m c)) o.re/\run n (.ops d l::K) (AC b .und stk) res (Ai (AK b .und fr) o.dst (.own b)) (Aj (AJ b .und bx) b (.row e k m c)) nx) fun _ _ _ _ _=>False
       |none=>False
     |_=>False
   |0,op=>match op with
    | .call f args=>match ev E fr f with
     | .func (.func id) caps=>match E.I id with
      |some af=>BA caps=true/\run n [.code af.code] (⟨o.dst,.ops 0 l::K,res,fr,nx⟩::stk) af.res (params 0 (AQ E fr args++BK caps)) bx nx
      |none=>match E.S id with
       |some s=>match Ct bx s args (AQ E fr args++BK caps)with
        |⟨p,v,_⟩=>(BA caps=true/\p)/\(FT v->match s.own,v with
         |some e,.view k m c=>0<k->run n (.ops 0 l::K) stk res (Ai fr o.dst (.own nx)) ((nx,.one (.row e k m c))::bx) (nx+1)
         |_,_=>run n (.ops 0 l::K) stk res (Ai fr o.dst v) bx nx)
       |none=>False
     | .yld b=>match Ab bx b with
      |some (.lp g fr' ps ca cb .ready)=>ps.length=args.length/\run n [.code ca,.rbeg b g,.code cb,.rend b g] (⟨o.dst,.ops 0 l::K,res,fr,nx⟩::stk) [] (Ks fr' ps (AQ E fr args)) bx nx
      |_=>False
     |_=>False
    |_=>match AF E fr bx nx op with
     |⟨p,v,new⟩=>p/\(FT v->match o.br with
      |false=>CC E (Ai fr o.dst v) (CX nx new bx) o.re/\run n (.ops 0 l::K) stk res (Ai fr o.dst v) (CX nx new bx) (Da nx new)
      |true=>match v with
       | .bool t=>(t=true->run n (.ops 0 l::K) stk res (Ai fr o.dst (.bool true)) (CX nx new bx) (Da nx new))/\(t=false->run n (.ops 0 l::K) stk res (Ai fr o.dst (.bool false)) (CX nx new bx) (Da nx new))
       |_=>False)
   |d+1,op=>match AF E fr bx nx op with
    |⟨p,v,new⟩=>p/\match o.br with
     |false=>run n (.ops d l::K) stk res (Ai fr o.dst v) (CX nx new bx) (Da nx new)
     |true=>match v with
      | .bool t=>(t=true->run n (.ops d l::K) stk res (Ai fr o.dst (.bool true)) (CX nx new bx) (Da nx new))/\(t=false->run n (.ops d l::K) stk res (Ai fr o.dst (.bool false)) (CX nx new bx) (Da nx new))
      |_=>False
 |n+1,.ctch _ _ _ _::K,stk,res,fr,bx,nx=>run n K stk res fr bx nx
end Go.Proofs.YtlieoghhkioflaaGreat
/- The engine,part 4: the model's code compiled. No condition. -/
namespace Go.Proofs.YtlieoghhkioflaaGreat
open Go Go.RowKit
def Vd(f:Value->Option Ad):List Value->Option Ad
 |[]=>some .nil
 |v::l=>match f v,Vd f l with|some a,some t=>some (.cons a t)|_,_=>none
def YK:Value->Option Ad
 | .int k n=>some (.int k n)
 | .bool b=>some (.bool b)
 | .slice none 0 0=>some .nils
 | .pointer none=>some .nilp
 | .nilFunc=>some .nilf
 | .map none=>some .nilm
 | .string s=>some (.strv s.data.size fun i=>((s.data.toList.map (fun b=>(b.toNat:Int))).getD i 0))
 |_=>none
def cv:Value->Option Ad
 | .agg cs=>(Vd YK cs.toList).map .agg
 |v=>YK v
def AG:Operand->Option Bf
 | .tmp t=>some (.t t)
 | .const v=>(cv v).map .c
 | .global g=>some (.g g)
 | .func f=>some (.c (.func (.func f) .nil))
def Lz(P:Program):Nat->TypeId->Option (List Sh)
 |0,_=>none
 |d+1,t=>match P.underlying t with
  |some (.int k)=>some [.int k]
  |some .bool=>some [.bool]
  |some (.slice e)=>some [.slc (P.cellsOf e)]
  |some (.func _ _ _)|some (.pointer _)|some (.map _ _)=>some [.any]
  |some (.struct fs)=>fs.toList.foldr (fun f acc=>match Lz P d f.type,acc with|some a,some b=>some (a++b)|_,_=>none) (some [])
  |some (.array n e)=>(Lz P d e).map fun s=>(List.replicate n s).flatten
  |_=>none
def B8(P:Program)(t:TypeId):Option Bool:=match P.underlying t with
 |some (.struct _)|some (.array _ _)=>some true
 |some _=>some false
 |none=>none
def UB(P:Program)(t:TypeId):Option (Bool×List Sh):=match B8 P t,Lz P 6 t,P.info? t with
 |some a,some s,some i=>if i.size=s.length/\(a=false->s.length=1)then some (a,s)else none
 |_,_,_=>none
def DX(P:Program)(t:TypeId):Option (Nat×Ad):=match P.info? t with
 |some i=>match i.zero with
  |some z=>if z.cells.size=i.size then(Vd YK z.cells.toList).map fun l=>(i.size,l)else none
  |none=>none
 |none=>none
def Qm(P:Program)(t:TypeId):Option Ad:=match P.info? t with
 |some i=>i.zero.bind cv
 |none=>none
def BN(P:Program)(t:TypeId):Option Nat:=(P.info? t).map (·.size)
def If(P:Program)(fs:Array Field):List (Nat×Operand)->Option (List (Nat×Nat×Bf))
 |[]=>some []
 |(i,x)::l=>match fs[i]?,AG x,If P fs l with
  |some f,some o,some r=>match BN P f.type with|some n=>some ((f.offset,n,o)::r)|none=>none
  |_,_,_=>none
def In(k:Nat):List (Nat×Operand)->Option (List (Nat×Nat×Bf))
 |[]=>some []
 |(i,x)::l=>match AG x,In k l with
  |some o,some r=>some ((i*k,k,o)::r)
  |_,_=>none
def Ip:List (Nat×Operand)->Option (List (Nat×Bf))
 |[]=>some []
 |(i,x)::l=>match AG x,Ip l with
  |some o,some r=>some ((i,o)::r)
  |_,_=>none
def J5:List Operand->Option (List Bf)
 |[]=>some []
 |x::l=>match AG x,J5 l with|some o,some r=>some (o::r)|_,_=>none
def Fl(P:Program):List Operand->List TypeId->Option (List (List Sh×Bf))
 |[],_=>some []
 |x::l,ts=>match AG x,Fl P l ts.tail with
  |some o,some r=>some (((match ts with|t::_=>((UB P t).map (·.2)).getD []|[]=>[]),o)::r)
  |_,_=>none
def Gi:Option Operand->Option (Option Bf)
 |none=>some none
 |some x=>(AG x).map some
def T7:List Sh->Bool
 |[]=>true
 | .int _::l| .bool::l=>T7 l
 |_=>false
def VZ(P:Program)(E:TypeId->Bool)(S:TypeId->Option (List Sh)):Nat->List Field->Bool
 |_,[]=>true
 |off,f::fs=>f.name != "_" &&f.offset==off&&E f.type&&(match S f.type with
  |some s=>BN P f.type==some s.length&&(B8 P f.type==some true||(B8 P f.type==some false&&s.length==1))&&VZ P E S (off+s.length) fs
  |none=>false)
def GM(P:Program):Nat->TypeId->Bool
 |0,_=>false
 |d+1,t=>match P.underlying t with
  |some (.int _)|some .bool=>true
  |some (.struct fs)=> !P.stoodInHeld t&&VZ P (GM P d) (Lz P d) 0 fs.toList
  |some (.array _ e)=>GM P d e&&(match Lz P d e with
   |some s=>BN P e==some s.length&&P.cellsOf e==s.length&&(B8 P e==some true||(B8 P e==some false&&s.length==1))
   |none=>false)
  |_=>false
def X6:List Nat:=[41,53,99,55,80,81,161,139,137,155,156,166,172,167,173,174,176,178,112,135,136,154,165,117,158,90]
def YC:List (List Nat):=[]
def AcS(c:Call):Bool:=match c.callee with
 | .value (.func f)=>X6.contains f
 | .value (.tmp _)=>YC.contains c.argTypes.toList
 |_=>false
def CJ(P:Program):Op->Option Ji
 | .move x| .assign x=>(AG x).map .mv
 | .pick c a b=>match AG c,AG a,AG b with|some c,some a,some b=>some (.pick c a b)|_,_,_=>none
 | .alloc t=>(DX P t).map fun p=> .alloc p.2
 | .box t x=>match BN P t,AG x with|some n,some x=>some (.box n x)|_,_=>none
 | .build t parts=>match P.underlying t,DX P t with
  |some (.struct fs),some (_,z)=>if fs.toList.all (fun f=>(BN P f.type).isSome)=true then(If P fs parts.toList).map fun l=> .build z l else none
  |some (.array _ e),some (_,z)=>match BN P e with|some k=>(In k parts.toList).map fun l=> .build z l|none=>none
  |_,_=>none
 | .buildSlice t len parts=>match P.underlying t with
  |some (.slice e)=>match DX P e,Ip parts.toList with
   |some (k,z),some l=>if len*k<=16777216 then some (.bsl e k len z l)else none
   |_,_=>none
  |_=>none
 | .load t x=>match UB P t,AG x with|some (a,s),some x=>some (.load a s x)|_,_=>none
 | .store t a x=>match BN P t,AG a,AG x with|some n,some a,some x=>some (.store n a x)|_,_,_=>none
 | .binOp op t x y _=>match AG x,AG y with
  |some x,some y=>match B8 P t with
   |some false=>(match P.underlying t with
    |some (.int _)=>some (.bin op x y)
    |some .bool=>(match op with| .eql=>some (.binb false x y)| .neq=>some (.binb true x y)|_=>none)
    |some .string=>(match op with| .eql=>some (.seq false x y)| .neq=>some (.seq true x y)|_=>none)
    |some (.slice _)=>(match op,y with| .eql,.c .nils=>some (.isnil false x)| .neq,.c .nils=>some (.isnil true x)|_,_=>none)
    |_=>none)
   |some true=>match UB P t with
    |some (_,s)=>if T7 s=true/\GM P 6 t=true/\P.eqGuardType P.depth t=false then(match op with| .eql=>some (.eqa false s x y)| .neq=>some (.eqa true s x y)|_=>none)else none
    |none=>none
   |none=>none
  |_,_=>none
 | .unOp op _ x=>(AG x).map fun x=> .un op x
 | .convert s d x=>match P.underlying s,P.underlying d with
  |some (.int _),some (.int k)=>(AG x).map fun x=> .conv k x
  |some (.slice e),some .string=>(match P.underlying e with|some (.int .u8)=>(AG x).map .b2s|_=>none)
  |_,_=>none
 | .makeFunc fn first caps=>if first.size=0 then(J5 caps.toList).map fun l=> .mkf fn l else none
 | .fieldAddr t x f=>match P.underlying t,AG x with
  |some (.struct fs),some x=>match fs[f]? with
   |some f=>(match BN P f.type with|some (_+1)=>some (.fld f.offset x)|_=>none)
   |none=>none
  |_,_=>none
 | .indexAddr t x i=>match P.underlying t,AG x,AG i with
  |some (.slice e),some x,some i=>(BN P e).map fun k=> .idx k x i
  |some (.array n e),some x,some i=>(BN P e).map fun k=> .idxA k n x i
  |_,_,_=>none
 | .slice t x lo hi none=>match P.underlying t,AG x,Gi lo,Gi hi with
  |some (.slice e),some x,some lo,some hi=>(BN P e).map fun k=> .sl k x lo hi
  |_,_,_,_=>none
 | .slice t x none (some hi) (some mx)=>match P.underlying t,AG x,AG hi,AG mx with
  |some (.slice e),some x,some hi,some mx=>(BN P e).map fun k=> .clip k x hi mx
  |_,_,_,_=>none
 | .makeInterface t x=>match P.underlying t with
  |some (.int _)=>(AG x).map fun x=> .mif t x
  |_=>none
 | .panic x=>(AG x).map .pan
 | .defer c=>match c.callee,c.args.toList with
  | .value f,[]=>(AG f).map .dfr
  |_,_=>none
 | .extract x i=>(AG x).map fun x=> .ext i x
 | .call c=>match c.callee with
  | .value f=>match AG f,Fl P c.args.toList c.argTypes.toList with|some f,some l=>if AcS c=true then some (.calle f l)else some (.call f l)|_,_=>none
  | .builtin .len=>match c.args.toList,c.argTypes.toList with
   |[x],[t]=>(match P.underlying t with
    |some (.slice _)=>(AG x).map .len
    |some (.map k _)=>(match P.underlying k with|some (.int kd)=>(AG x).map (.mlen kd)|_=>none)
    |_=>none)
   |_,_=>none
  | .builtin .max=>match c.args.toList with|[x,y]=>(match AG x,AG y with|some x,some y=>some (.mm true x y)|_,_=>none)|[x,y,z]=>(match AG x,AG y,AG z with|some x,some y,some z=>some (.mm3 true x y z)|_,_,_=>none)|_=>none
  | .builtin .min=>match c.args.toList with|[x,y]=>(match AG x,AG y with|some x,some y=>some (.mm false x y)|_,_=>none)|[x,y,z]=>(match AG x,AG y,AG z with|some x,some y,some z=>some (.mm3 false x y z)|_,_,_=>none)|_=>none
  | .builtin .clear=>match c.args.toList,c.argTypes.toList with
   |[x],[t]=>(match P.underlying t with
    |some (.slice e)=>(match DX P e,AG x with|some (k,z),some x=>some (.clr k z x)|_,_=>none)
    |_=>none)
   |_,_=>none
  | .builtin .delete=>match c.args.toList,c.argTypes.toList with
   |[m,x],[t,u]=>(match P.underlying t with
    |some (.map k _)=>if u=k then(match P.underlying k,AG m,AG x with|some (.int kd),some m,some x=>some (.mdel kd m x)|_,_,_=>none)else none
    |_=>none)
   |_,_=>none
  | .builtin .append=>match c.args.toList,c.argTypes.toList with
   |[x,y],[t,u]=>if t=u then(match P.underlying t,AG x,AG y with
    |some (.slice e),some x,some y=>(match DX P e,P.info? e with|some (k,_),some i=>some (.app e k i.bytes x y)|_,_=>none)
    |_,_,_=>none)else none
   |_,_=>none
  |_=>none
 | .nilCheck x=>(AG x).map .nilc
 | .makeMap t none=>match P.underlying t with
  |some (.map k _)=>(match P.underlying k with|some (.int kd)=>some (.mkm kd)|_=>none)
  |_=>none
 | .lookup t m x ok=>match P.underlying t with
  |some (.map k e)=>(match P.underlying k,Qm P e,AG m,AG x with|some (.int kd),some z,some m,some x=>some (.mget kd ok z m x)|_,_,_,_=>none)
  |_=>none
 | .insert t m x v| .mapUpdate t m x v=>match P.underlying t with
  |some (.map k _)=>(match P.underlying k,AG m,AG x,AG v with|some (.int kd),some m,some x,some v=>some (.mset kd m x v)|_,_,_,_=>none)
  |_=>none
 | .field t x f=>match P.underlying t,AG x with
  |some (.struct fs),some x=>match fs[f]? with
   |some f=>(match B8 P f.type,BN P f.type with|some ag,some n=>if ag=false->n=1 then some (.fv ag f.offset n x)else none|_,_=>none)
   |none=>none
  |_,_=>none
 | .range t x=>match P.underlying t with
  |some (.map k _)=>(match P.underlying k,AG x with|some (.int kd),some x=>some (.rngm kd x)|_,_=>none)
  |_=>none
 | .next x false=>(AG x).map .nxt
 | .entry x=>(AG x).map .ent
 | .makeSlice t n c=>match P.underlying t with
  |some (.slice e)=>match DX P e,P.info? e,AG n,AG c with
   |some (k,z),some i,some n,some c=>some (.mks e k i.bytes z n c)
   |_,_,_,_=>none
  |_=>none
 |_=>none
def D6:Ji->Bool
 | .store _ _ _| .app _ _ _ _ _| .mset _ _ _ _| .calle _ _| .clr _ _ _| .pan _| .dfr _=>false
 |_=>true
def Gz(acc:List Nat)(o:Oper):Nat:=o.after.toList.foldl (fun s e=>if Region.binds .any e then s|||2^e.on|||acc.getD e.on 0 else s) 0
def Cb:List Nat->List Oper->List Nat
 |acc,[]=>acc
 |acc,o::l=>Cb (acc++[Gz acc o]) l
def Fg(o:Oper):List Nat:=o.op.operands.toList.filterMap fun| .tmp t=>some t|_=>none
def Lv(ops:List Oper)(m:List Nat)(gs:List (Option Nat)):Bool:=
 (List.range ops.length).all fun i=>(List.range ops.length).all fun j=>
  match ops[i]?,ops[j]? with
  |some x,some y=>i==j||(match x.dst with
   |none=>true
   |some d=>y.dst !=some d&&(!((Fg y).contains d||gs.getD j none==some d)||(i<j&&(m.getD j 0).testBit i)||(j<i&&(m.getD i 0).testBit j)))
  |_,_=>true
def Jc(ops:List Oper):Bool:=
 (List.range ops.length).all fun i=>match ops[i]? with
  |some o=>o.after.toList.all fun e=> !Region.binds .any e||e.on<i
  |none=>true
def Ir(ops:List Oper)(o:Oper):Option (Option (Nat×Bool)):=match o.guard with
 |none=>some none
 |some (j,w)=>match ops[j]? with
  |some p=>p.dst.map fun t=>some (t,w)
  |none=>none
def SQ(nt:Nat):Option Tmp->Bool
 |some d=>decide (d<nt)
 |none=>true
def CQ(P:Program)(ops:List Oper)(nt:Nat)(o:Oper):Option A2:=
  match CJ P o.op,Ir ops o with
  |some a,some g=>
    if SQ nt o.dst=true then
      some {dst:=o.dst,op:=a,guard:=g,
             br:=match o.dst with|some d=>ops.any fun p=>(match Ir ops p with|some (some (t,_))=>t==d|_=>false)||(match p.op with| .pick (.tmp t) _ _=>t==d|_=>false)|none=>false,
             re:=[]}
    else none
  |_,_=>none
def EC(P:Program)(ops:List Oper)(nt:Nat):List Oper->Option (List A2)
 |[]=>some []
 |o::l=>match CQ P ops nt o,EC P ops nt l with|some a,some r=>some (a::r)|_,_=>none
def D1:Bf->List Nat
 | .t n=>[n]
 |_=>[]
def Zo(l:List Bf):List Nat:=l.flatMap D1
def NU:Ji->List Nat
 | .mv x| .box _ x| .load _ _ x| .un _ x| .conv _ x| .fld _ x| .ext _ x| .len x| .nilc x=>D1 x
 | .pick a b c=>D1 a++D1 b++D1 c
 | .alloc _| .mkm _=>[]
 | .build _ l=>l.flatMap fun p=>D1 p.2.2
 | .bsl _ _ _ _ l=>l.flatMap fun p=>D1 p.2
 | .store _ a x| .bin _ a x| .binb _ a x| .eqa _ _ a x| .idx _ a x| .idxA _ _ a x| .mm _ a x| .app _ _ _ a x| .mks _ _ _ _ a x| .mget _ _ _ a x=>D1 a++D1 x
 | .mkf _ l=>Zo l
 | .sl _ x lo hi=>D1 x++(match lo with|some y=>D1 y|none=>[])++(match hi with|some y=>D1 y|none=>[])
 | .call f l| .calle f l=>D1 f++l.flatMap fun p=>D1 p.2
 | .mset _ a b c=>D1 a++D1 b++D1 c
 | .mdel _ a b| .seq _ a b=>D1 a++D1 b
 | .mlen _ a| .rngm _ a| .nxt a| .ent a| .fv _ _ _ a| .isnil _ a| .b2s a=>D1 a
 | .mm3 _ a b c=>D1 a++D1 b++D1 c
 | .clip _ a b c=>D1 a++D1 b++D1 c
 | .clr _ _ a| .mif _ a| .pan a| .dfr a=>D1 a
def NT:Ji->Bool
 | .alloc _| .box _ _| .bsl _ _ _ _ _| .mks _ _ _ _ _ _| .mkm _=>true
 |_=>false
def IF:Ji->Bool
 | .box _ _=>false
 | .alloc z=>A4 z
 | .bsl _ _ _ z _=> !L0 z
 |_=>true
def BH(m:List Nat)(i j:Nat):Bool:=(m.getD j 0).testBit i
def NE(m:List Nat):Nat->Nat
 |0=>0
 |i+1=>if(List.range i).all (fun j=>BH m j i)then NE m i else i+1
def DF:A2:=⟨none,.mv (.t 0),none,false,[]⟩
def F0(l:List A2)(i:Nat):Bool:=D6 (l.getD i DF).op
def P1(l:List A2)(m:List Nat):Nat->List Nat->List Nat->List Nat
 |0,_,_=>[]
 |n+1,done,rest=>
  let rdy:=rest.filter fun i=>rest.all fun j=> !BH m j i
  match rdy.find? (F0 l)with
  |some i=>i::P1 l m n (i::done) (rest.filter (· !=i))
  |none=>match rdy with
   |i::_=>i::P1 l m n (i::done) (rest.filter (· !=i))
   |[]=>[]
def reL(l:List A2)(m:List Nat)(ord:List Nat)(p i:Nat):List (Option Nat×Ji×Option (Nat×Bool)):=
 if F0 l i then[]else(ord.take p).filterMap fun j=>if F0 l j&& !NT (l.getD j DF).op&& !BH m j i then some ((l.getD j DF).dst,(l.getD j DF).op,(l.getD j DF).guard)else none
def Fs(l:List A2)(m:List Nat)(ord:List Nat):List A2:=(List.range ord.length).map fun p=>{l.getD (ord.getD p 0) DF with re:=reL l m ord p (ord.getD p 0)}
def NY:Option (Nat×Bool)->List Nat
 |some (t,_)=>[t]
 |none=>[]
def XS(l:List A2)(m:List Nat)(d:Nat)(ord:List Nat):Bool:=
 ord.length==d&&(List.range d).all (fun i=>ord.contains i)&&
 (List.range d).all fun p=>decide (ord.getD p 0<d)&&(match(l.getD (ord.getD p 0) DF).dst with|none=>true|some t=> !(NU (l.getD (ord.getD p 0) DF).op++NY (l.getD (ord.getD p 0) DF).guard).contains t)&&(List.range p).all fun q=>
  ord.getD q 0 !=ord.getD p 0&& !BH m (ord.getD p 0) (ord.getD q 0)&&
  (if F0 l (ord.getD q 0)then(F0 l (ord.getD p 0)||BH m (ord.getD q 0) (ord.getD p 0)|| !NT (l.getD (ord.getD q 0) DF).op||IF (l.getD (ord.getD q 0) DF).op)else BH m (ord.getD q 0) (ord.getD p 0))&&
  (match(l.getD (ord.getD p 0) DF).dst with|none=>true|some t=> !(NU (l.getD (ord.getD q 0) DF).op++NY (l.getD (ord.getD q 0) DF).guard).contains t)
def VL(m:List Nat)(n d:Nat):Bool:=(List.range n).all fun i=>i<d||(List.range i).all fun j=>BH m j i
def ZG(ops:List Oper)(m:List Nat)(gs:List (Option Nat))(d:Nat):Bool:=
 (List.range d).all fun i=>match(ops[i]?).bind (·.dst)with
  |none=>true
  |some t=>(List.range d).all fun j=>BH m i j||(!((match ops[j]? with|some y=>Fg y|none=>[]).contains t)&&gs.getD j none !=some t)
def Oz(ops:List Oper):List (Option Nat):=ops.map fun o=>match Ir ops o with|some (some (t,_))=>some t|_=>none
def Aae:Ji->Bool
 | .dfr _=>true
 |_=>false
def Oi:Ji->Bool
 | .call _ _| .calle _ _| .pan _=>true
 |_=>false
def J4(ops:List Oper)(l:List A2):Option (Nat×List A2):=
 let m:=Cb [] ops
 let d:=NE m ops.length
 let ord:=P1 l m d [] (List.range d)
 if Jc ops&&Lv ops m (Oz ops)&&ZG ops m (Oz ops) d&&VL m ops.length d&&XS l m d ord&&decide (d<=ops.length)&&l.all (fun o=> !Aae o.op)then some (d,Fs l m ord++l.drop d)else none
def TQ(ops:List Oper)(o:Oper):Option Nat:=match o.guard with
 |none=>none
 |some (g,_)=>(ops[g]?).bind (·.dst)
def Lb(k:Nat)(o:Oper):Oper:={o with after:=((List.range k).map fun j=>(⟨j,.phase⟩:Edge)).toArray}
def F3(k:Nat):Nat->List Oper->List Oper
 |_,[]=>[]
 |i,o::l=>(if i=k then Lb k o else o)::F3 k (i+1) l
def mvX(o:Op):Option Operand:=match o with
 | .move x| .assign x=>some x
 |_=>none
def Kk(o:Oper)(k:Nat):Bool:=o.after.toList.any fun e=>Region.binds .any e&&e.on==k
def Vw(ops:List Oper)(k:Nat):Bool:=
 let m:=Cb [] ops
 match ops[k]? with
 |some o=>o.guard.isNone&&Jc ops&&(match o.dst,mvX o.op with
  |some t,some x=>(List.range ops.length).all fun j=>j==k||(match ops[j]? with
   |some y=>(match y.op with| .select _ _| .defer _=>false|_=>true)&&y.dst !=some t&&
    (BH m j k||match x with| .tmp u=>y.dst !=some u|_=>true)&&
    (BH m j k||Kk y k||(!(Fg y).contains t&&TQ ops y !=some t))&&
    (!Kk y k||(List.range k).all fun i=>BH m i j)
   |none=>true)
  |_,_=>false)
 |none=>false
def dlK(ops:List Oper):Option Nat:=
 let m:=Cb [] ops
 (List.range ops.length).find? fun k=>match ops[k]? with
  |some o=>(match o.dst,mvX o.op with
   |some t,some _=>(List.range k).any (fun j=>match ops[j]? with|some y=>(Fg y).contains t|none=>false)&& !((List.range k).all fun j=>BH m j k)
   |_,_=>false)
  |none=>false
def ZY:Cm->List Nat
 | .skip| .exit _| .ret=>[]
 | .reg _ l=>l.flatMap fun o=>NU o.op++(match o.guard with|some (t,_)=>[t]|none=>[])
 | .seq a b=>ZY a++ZY b
 | .cond c a b=>D1 c++ZY a++ZY b
 | .block _ a| .loop a| .scope a=>ZY a
 | .rng f _ ks _ _=>D1 f++ks
def Cv(P:Program)(nt:Nat):Code->Option Cm
 | .skip| .label _=>some .skip
 | .region _ ops draw=>match EC P ops.toList nt ops.toList with
  |some l=>if draw then(match dlK ops.toList with
   |none=>(J4 ops.toList l).map fun p=> .reg p.1 p.2
   |some k=>(match EC P (F3 k 0 ops.toList) nt (F3 k 0 ops.toList)with|some l1=>(match Vw ops.toList k with|true=>(match J4 (F3 k 0 ops.toList) l1 with|some p=>(match(l1.drop p.1).all (fun o=> !Oi o.op)with|true=>some (.reg p.1 p.2)|false=>none)|none=>none)|false=>none)|none=>none))else some (.reg 0 l)
  |none=>none
 | .seq a b=>match Cv P nt a,Cv P nt b with|some a,some b=>some (.seq a b)|_,_=>none
 | .cond c a b=>match AG c,Cv P nt a,Cv P nt b with|some c,some a,some b=>some (.cond c a b)|_,_,_=>none
 | .block id a=>(Cv P nt a).map (.block id)
 | .loop a=>(Cv P nt a).map .loop
 | .exit id=>some (.exit id)
 | .ret=>some .ret
 | .scope a=>(Cv P nt a).map .scope
 | .rangeFunc f ps a b=>match AG f,Cv P nt a,Cv P nt b with
  |some f,some a,some b=>if ps.toList.all (fun t=>decide (t<nt))=true then some (.rng f ps.toList ((ZY a++ZY b).eraseDups) a b)else none
  |_,_,_=>none
 |_=>none
def Xs(P:Program):ResultVar->Option B6
 | .tmp t=>some (.t t)
 | .cell a t=>(UB P t).map fun p=> .cell a p.1 p.2
def IN(P:Program):List ResultVar->Option (List B6)
 |[]=>some []
 |r::l=>match Xs P r,IN P l with|some a,some r=>some (a::r)|_,_=>none
def Aw(P:Program)(fn:Func):Option Ax:=match fn.body with
 |some c=>match Cv P fn.ntmps c,IN P fn.results.toList with
  |some c,some r=>if fn.params.size+fn.nfree<=fn.ntmps/\(fn.name== "runtime.NumGoroutine")=false then some ⟨c,r⟩else none
  |_,_=>none
 |none=>none
end Go.Proofs.YtlieoghhkioflaaGreat
/- The engine,part 5: own boxes in a world,and what keeps them. No condition. -/
namespace Go.Proofs.YtlieoghhkioflaaGreat
open Go Go.RowKit
variable{b:Bn}{c:Cw}{ys:List Value}{N:Nat}{A0:Nat->Prop}{w1:World}
variable{P:Program}
structure AW where
 w:World
 X:Nat->Prop
def AW.lo(b:AW)(g:Nat):Prop:=b.w.heap.size<=g\/b.X g
structure AW.Under(b:AW)(w:World):Prop where
 os:w.os=b.w.os
 tape:w.tape=b.w.tape
 output:w.output=b.w.output
 size:b.w.heap.size<=w.heap.size
 block:∀k,k<b.w.heap.size->¬b.X k->w.heap[k]?=b.w.heap[k]?
theorem AW.Under.refl(b:AW):b.Under b.w:=⟨rfl,rfl,rfl,Nat.le_refl _,fun _ _ _=>rfl⟩
theorem AW.Under.but{b:AW}{w:World}(h:b.Under w)(h1:w1.os=w.os)(h2:w1.tape=w.tape)(h3:w1.output=w.output)(hs:w.heap.size<=w1.heap.size)(hb:∀k,k<w.heap.size->¬b.lo k->w1.heap[k]?=w.heap[k]?):b.Under w1:=
 ⟨h1.trans h.os,h2.trans h.tape,h3.trans h.output,Nat.le_trans h.size hs,fun k hk hx=>(hb k (Nat.lt_of_lt_of_le hk h.size) (fun e=>e.elim (fun e=>absurd hk (Nat.not_lt.2 e)) hx)).trans (h.block k hk hx)⟩
theorem AW.Under.trans{b:AW}{w:World}(h:b.Under w)(k:Below w.heap.size w w1):b.Under w1:=h.but k.os k.tape k.output k.size fun g hg _=>k.block g hg
theorem AW.Under.drew{b:AW}{w:World}(h:b.Under w):b.Under w.drew:=h.but rfl rfl rfl (Nat.le_refl _) fun _ _ _=>rfl
theorem AW.Under.grown{b:AW}{w:World}{row:Option Nat}(h:b.Under w)(hg:w.grownBy w1 row)(hr:∀k,row=some k->b.lo k):b.Under w1:=
 h.but hg.os hg.tape hg.output hg.size fun k hk hn=>hg.block k hk fun e=>hn (hr k e.symm)
theorem AW.Under.setRow{b:AW}{w:World}(h:b.Under w){g:Nat}(hg:b.lo g)(cs:Array Value):b.Under (w.setRow g cs):=
 h.but rfl rfl rfl (by simp) fun k _ hn=>setRow_other w g k cs fun e=>hn (e▸hg)
def Al(A0:Nat->Prop)(w0:AW)(B:Br)(β:Bn->CK)(g:Nat):Prop:=(A0 g\/w0.lo g)/\∀b c,B b=some c->(β b).a≠some g
def UL(P:Program)(rec:Loop)(nt:Nat)(ps:List Nat)(ca cb:Cm):Prop:=rec.params.toList=ps/\(∀t∈ps,t<nt)/\nt<=rec.tmps.size/\Cv P nt rec.assign=some ca/\Cv P nt rec.body=some cb
def Q6(rec:Loop):XE->Prop
 | .ready=>rec.state= .ready/\rec.pending=none
 | .busy=>rec.state= .busy
 | .done c=>rec.state= .done/\rec.pending=some c.code
 | .over=>True
def CP(P:Program)(w:World)(A:Nat->Prop)(B:Br)(β:Bn->CK)(base:Nat)(b:Bn):Cw->Prop
 | .cells l=>BA l=true/\∃g ys t,(β b).a=some g/\w.heap[g]?=some (.cells ⟨ys⟩ t (0,0))/\A7 w A B β l (.tuple ⟨ys⟩)
 | .row e k n c=>(β b).n=n/\0<k/\n<=maxLen/\∃xs,w.ownsRow base e k (.slice ((β b).a.map fun g=>⟨g,0,none⟩) n (β b).cap) n xs/\∀i,i<n->∀j,j<k->∃y,xs[i*k+j]?=some y/\y.oneCell'=true/\Ao w A (c i j) y
 | .lp g fr ps ca cb st=>(β b).a=some g/\∃rec nt,w.heap[g]?=some (.loop rec)/\UL P rec nt ps ca cb/\Q6 rec st/\∀t,A7 w A B β (Au fr t) (rec.tmps.getD t undef)
 | .it m kd seen last=>∃g,(β b).a=some g/\∀mb,m=some mb->VJ B mb kd/\∃gm,(β mb).a=some gm/\Fk w g gm kd seen last
 | .rown e k n c=>(β b).n=n/\0<k/\n<=maxLen/\∃xs,w.ownsRow base e k (.slice ((β b).a.map fun g=>⟨g,0,none⟩) n (β b).cap) n xs/\∀i,i<n->∀j,j<k->∃y,xs[i*k+j]?=some y/\y.oneCell'=true/\A7 w A B β (c i j) y
 | .mz kd f=>∃g h,(β b).a=some g/\E1 w g kd h/\∀k,A7 w A B β (f k) ((h k).getD (.slice none 0 0))
 | .mp kd has f=>∃g h,(β b).a=some g/\E1 w g kd h/\∀k,(has k=false->h k=none)/\(has k=true->∃y,h k=some y/\A7 w A B β (f k) y)
 | .wc g v=>(β b).a=some g/\∃y t,w.heap[g]?=some (.cells ⟨[y]⟩ t (0,0))/\A7 w A B β v y
structure Fp(P:Program)(A0:Nat->Prop)(w0:AW)(β:Bn->CK)(B:Br)(nx:Nat)(w:World):Prop where
 bx:∀b c,B b=some c->CP P w (Al A0 w0 B β) B β 0 b c
 inj:∀b c b' c' g,B b=some c->B b'=some c'->b≠b'->(β b).a=some g->(β b').a≠some g
 nx:∀b c,B b=some c->b.id<nx
 base:∀b c g,B b=some c->(β b).a=some g->w0.lo g/\g<w.heap.size
 below:w0.Under w
abbrev Ar(A0:Nat->Prop)(w0:AW)(β:Bn->CK)(B:Br)(w:World):Ad->Value->Prop:=A7 w (Al A0 w0 B β) B β
abbrev HV(A0:Nat->Prop)(w0:AW)(β:Bn->CK)(B:Br)(w:World):Ad->Value->Prop:=Ao w (Al A0 w0 B β)
theorem CE{l:Ad}(h:BA l=true):QU l:=by
 induction l with
 |cons a t _ ih=>exact ih h
 |nil=>trivial
 |_=>simp[BA]at h
def Dc(B:Br)(nx:Nat):Option Cw->Br
 |none=>B
 |some c=>fun b=>if b= .n nx then some c else B b
structure CD(P:Program)(A0:Nat->Prop)(w0:AW)(β β1:Bn->CK)(B:Br)(nx:Nat)(new:Option Cw)(w w1:World):Prop where
 keep:Below w.heap.size w w1
 loc:∀b c,B b=some c->β1 b=β b
 box:∀c,new=some c->CP P w1 (Al A0 w0 (Dc B nx new) β1) (Dc B nx new) β1 0 nx c/\∀g,(β1 nx).a=some g->w.heap.size<=g/\g<w1.heap.size
section
variable{A0:Nat->Prop}{w0:AW}{β β1:Bn->CK}{B:Br}{nx:Nat}{new:Option Cw}{w w1:World}
theorem C6(h:B nx=none)(hb:B b=some c):Dc B nx new b=some c:=by
 cases new with
 |none=>exact hb
 |some d=>
  by_cases e:b=nx
  ·subst e;rw[h]at hb;cases hb
  simp[Dc,e,hb]
theorem BO(hb:Dc B nx new b=some c):B b=some c\/(b=nx/\new=some c):=by
 cases new with
 |none=>exact .inl hb
 |some d=>
  by_cases e:b=nx
  ·simp[Dc,e]at hb;exact .inr ⟨e,by rw[hb]⟩
  simp[Dc,e]at hb;exact .inl hb
theorem CD.al(h:CD P A0 w0 β β1 B nx new w w1)(hm:Fp P A0 w0 β B N w)(hB:B nx=none):∀g,g<w.heap.size->Al A0 w0 B β g->Al A0 w0 (Dc B nx new) β1 g/\w1.heap[g]?=w.heap[g]?:=by
 rintro g hg ⟨ha,hn⟩
 refine⟨⟨ha,fun b c hb e=> ?_⟩,h.keep.block g hg⟩
 rcases BO hb with hb|⟨rfl,hc⟩
 ·rw[h.loc b c hb]at e;exact hn b c hb e
 have:=((h.box c hc).2 g e).1;omega
theorem CD.rep(h:CD P A0 w0 β β1 B nx new w w1)(hm:Fp P A0 w0 β B N w)(hB:B nx=none){v:Ad}{x:Value}(hr:Ar A0 w0 β B w v x):Ar A0 w0 β1 (Dc B nx new) w1 v x:=
 A7.mono h.keep.size (h.al hm hB) (fun b c hb=>⟨c,C6 hB hb,CR.refl c,h.loc b c hb⟩) v x hr
theorem CP.mono{w:World}{A A':Nat->Prop}{B B':Br}{β β':Bn->CK}{base:Nat}(h:CP P w A B β base b c)(hs:w.heap.size<=w1.heap.size)
  (hA:∀g,g<w.heap.size->A g->A' g/\w1.heap[g]?=w.heap[g]?) (hx:∀b c,B b=some c->∃c',B' b=some c'/\CR c c'/\β' b=β b) (hloc:β' b=β b)
  (hg:∀g,(β b).a=some g->w1.heap[g]?=w.heap[g]?) (hit:∀mb kd seen last,c= .it (some mb) kd seen last->∀g,(β mb).a=some g->w1.heap[g]?=w.heap[g]?):CP P w1 A' B' β' base b c:=by
 have rowmono:∀{e:TypeId} {k n:Nat} {xs:List Value},w.ownsRow base e k (.slice ((β b).a.map fun g=>⟨g,0,none⟩) n (β b).cap) n xs->w1.ownsRow base e k (.slice ((β' b).a.map fun g=>⟨g,0,none⟩) n (β' b).cap) n xs:=by
  intro e k n xs ho
  rw[hloc]
  obtain⟨hl,ho⟩:=ho
  refine⟨hl,?_⟩
  rcases ho with ho|⟨g,cap,cur,e1,e2,e3,e4⟩
  ·exact .inl ho
  refine .inr ⟨g,cap,cur,e1,e2,?_,e4⟩
  have:(β b).a=some g:=by
   cases ha:(β b).a with
   |none=>simp[ha]at e1
   |some g'=>simp[ha]at e1;rw[e1.1]
  rw[hg g this];exact e3
 cases c with
 |cells l=>
  obtain⟨hl,g,ys,t,h1,h2,h3⟩:=h
  exact⟨hl,g,ys,t,by rw[hloc];exact h1,by rw[hg g h1];exact h2,A7.mono hs hA hx _ _ h3⟩
 |lp g fr ps ca cb st=>
  obtain⟨h1,rec,nt,h2,h3,h4,h5⟩:=h
  exact⟨by rw[hloc];exact h1,rec,nt,by rw[hg g h1];exact h2,h3,h4,fun t=>A7.mono hs hA hx _ _ (h5 t)⟩
 |mp kd has f=>
  obtain⟨g,m,h1,h2,h3⟩:=h
  refine⟨g,m,by rw[hloc];exact h1,h2.heap (hg g h1),fun k=>⟨(h3 k).1,fun hk=> ?_⟩⟩
  obtain⟨y,hy,hr⟩:=(h3 k).2 hk
  exact⟨y,hy,A7.mono hs hA hx _ _ hr⟩
 |mz kd f=>
  obtain⟨g,m,h1,h2,h3⟩:=h
  exact⟨g,m,by rw[hloc];exact h1,h2.heap (hg g h1),fun k=>A7.mono hs hA hx _ _ (h3 k)⟩
 |wc g v=>
  obtain⟨h1,y,t,h2,h3⟩:=h
  exact⟨by rw[hloc];exact h1,y,t,by rw[hg g h1];exact h2,A7.mono hs hA hx _ _ h3⟩
 |it m kd seen last=>
  obtain⟨g,h1,h2⟩:=h
  refine⟨g,by rw[hloc];exact h1,fun mb hmb=> ?_⟩
  obtain⟨⟨c,h3,h3'⟩,gm,h4,h5⟩:=h2 mb hmb
  obtain⟨c',q1,q2,q3⟩:=hx mb _ h3
  exact⟨⟨c',q1,q2.map h3'⟩,gm,by rw[q3];exact h4,h5.heap (hg g h1) (hit mb kd seen last (by rw[hmb]) gm h4)⟩
 |row e k n cc=>
  obtain⟨h1,hk,hn,xs,ho,hc⟩:=h
  refine⟨by rw[hloc];exact h1,hk,hn,xs,rowmono ho,fun i hi j hj=> ?_⟩
  obtain⟨y,hy,ho1,hr⟩:=hc i hi j hj
  exact⟨y,hy,ho1,Ao.mono hs hA _ _ hr⟩
 |rown e k n cc=>
  obtain⟨h1,hk,hn,xs,ho,hc⟩:=h
  refine⟨by rw[hloc];exact h1,hk,hn,xs,rowmono ho,fun i hi j hj=> ?_⟩
  obtain⟨y,hy,ho1,hr⟩:=hc i hi j hj
  exact⟨y,hy,ho1,A7.mono hs hA hx _ _ hr⟩
theorem CD.mem(h:CD P A0 w0 β β1 B nx new w w1)(hm:Fp P A0 w0 β B N w)(hB:B nx=none){N':Nat}(hN:N<=N')(hn:∀c,new=some c->nx<N'):Fp P A0 w0 β1 (Dc B nx new) N' w1 where
 bx:=by
  intro b c hb
  rcases BO hb with hb|⟨rfl,hc⟩
  ·exact(hm.bx b c hb).mono h.keep.size (h.al hm hB) (fun b c hb=>⟨c,C6 hB hb,CR.refl c,h.loc b c hb⟩) (h.loc b c hb) (fun g hg=>h.keep.block g (hm.base b c g hb hg).2) (fun mb kd seen last e g hg=>by
    subst e
    obtain⟨_,_,h2⟩:=hm.bx b _ hb
    obtain⟨⟨cm,h3,_⟩,_⟩:=h2 mb rfl
    exact h.keep.block g (hm.base mb _ g h3 hg).2)
  exact(h.box c hc).1
 inj:=by
  intro b c b' c' g hb hb' hne hg hg'
  rcases BO hb with k|⟨e,hc⟩<;>rcases BO hb' with k'|⟨e',hc'⟩
  ·rw[h.loc b c k]at hg;rw[h.loc b' c' k']at hg';exact hm.inj b c b' c' g k k' hne hg hg'
  ·rw[h.loc b c k]at hg
   have h1:=(hm.base b c g k hg).2
   rw[e']at hg'
   have h2:=((h.box c' hc').2 g hg').1
   omega
  ·rw[h.loc b' c' k']at hg'
   have h1:=(hm.base b' c' g k' hg').2
   rw[e]at hg
   have h2:=((h.box c hc).2 g hg).1
   omega
  exact hne (e.trans e'.symm)
 nx:=by
  intro b c hb
  rcases BO hb with hb|⟨rfl,hc⟩
  ·exact Nat.lt_of_lt_of_le (hm.nx b c hb) hN
  exact hn c hc
 base:=by
  intro b c g hb hg
  rcases BO hb with hb|⟨rfl,hc⟩
  ·rw[h.loc b c hb]at hg
   have h1:=hm.base b c g hb hg
   exact⟨h1.1,Nat.lt_of_lt_of_le h1.2 h.keep.size⟩
  have h2:=(h.box c hc).2 g hg
  exact⟨.inl (Nat.le_trans hm.below.size h2.1),h2.2⟩
 below:=hm.below.trans h.keep
theorem CD.refl(A0:Nat->Prop)(w0:AW)(β:Bn->CK)(B:Br)(nx:Nat)(w:World):CD P A0 w0 β β B nx none w w:=⟨Below.refl _ _,fun _ _ _=>rfl,fun c hc=>by cases hc⟩
theorem CD.none(hk:Below w.heap.size w w1):CD P A0 w0 β β B nx none w w1:=⟨hk,fun _ _ _=>rfl,fun c hc=>by cases hc⟩
end
def BL(β:Bn->CK)(nx:Bn)(l:CK):Bn->CK:=fun b=>if b=nx then l else β b
theorem Aq(β:Bn->CK)(nx:Bn)(l:CK):BL β nx l nx=l:=by simp[BL]
theorem Bu{B:Br}{nx:Bn}(h:B nx=none)(β:Bn->CK)(l:CK)(hb:B b=some c):BL β nx l b=β b:=by
 have:b≠nx:=fun e=>by subst e;rw[h]at hb;cases hb
 simp[BL,this]
theorem CD.newCells{w0:AW}{β:Bn->CK}{B:Br}{nx:Nat}{w:World}(hm:Fp P A0 w0 β B N w)(hB:B nx=Option.none){l:Ad}(hl:BA l=true)(hr:Ar A0 w0 β B w l (.tuple ⟨ys⟩))(t:TypeId):
  CD P A0 w0 β (BL β nx ⟨some w.heap.size,0,0⟩) B nx (some (.cells l)) w (w.alloc (.cells ⟨ys⟩ t)) where
 keep:=(Below.refl _ _).alloc (Nat.le_refl _) _
 loc b c hb:=Bu hB _ _ hb
 box:=by
  rintro c ⟨⟩
  refine⟨⟨hl,w.heap.size,ys,t,by rw[Aq],EF w _,?_⟩,fun g hg=> ?_⟩
  ·refine A7.mono (by simp) (fun g hg hA=>⟨⟨hA.1,fun b c hb e=> ?_⟩,Below.heap_alloc w _ g hg⟩) (fun b c hb=>⟨c,C6 hB hb,CR.refl c,Bu hB _ _ hb⟩) _ _ hr
   rcases BO hb with hb|⟨rfl,_⟩
   ·rw[Bu hB _ _ hb]at e;exact hA.2 b c hb e
   rw[Aq]at e;simp at e;omega
  rw[Aq]at hg;simp at hg;subst hg;simp
theorem CD.newMap{w0:AW}{β:Bn->CK}{B:Br}{nx:Nat}{w:World}(hB:B nx=Option.none)(kd:IntKind):
  CD P A0 w0 β (BL β nx ⟨some w.heap.size,0,0⟩) B nx (some (.mp kd (fun _=>false) fun _=> .und)) w (w.alloc (.map #[] 0)) where
 keep:=(Below.refl _ _).alloc (Nat.le_refl _) _
 loc b c hb:=Bu hB _ _ hb
 box:=by
  rintro c ⟨⟩
  refine⟨⟨w.heap.size,_,by rw[Aq],E1.new' w kd rfl,fun k=>⟨fun _=>rfl,fun h=>by cases h⟩⟩,fun g hg=> ?_⟩
  rw[Aq]at hg;simp at hg;subst hg;simp
theorem CD.newRow{w0:AW}{β:Bn->CK}{B:Br}{nx:Nat}{w:World}(hm:Fp P A0 w0 β B N w)(hB:B nx=Option.none){e:TypeId}{k n:Nat}(hk:0<k)(hn:n<=maxLen){c:Nat->Nat->Ad}(hl:ys.length=n*k)
  (hr:∀i,i<n->∀j,j<k->∃y,ys[i*k+j]?=some y/\y.oneCell'=true/\HV A0 w0 β B w (c i j) y):
  CD P A0 w0 β (BL β nx ⟨some w.heap.size,n,n⟩) B nx (some (.row e k n c)) w (w.alloc (.cells ⟨ys⟩ e)) where
 keep:=(Below.refl _ _).alloc (Nat.le_refl _) _
 loc b c hb:=Bu hB _ _ hb
 box:=by
  rintro c ⟨⟩
  refine⟨⟨by rw[Aq],hk,hn,ys,⟨hl,?_⟩,fun i hi j hj=> ?_⟩,fun g hg=> ?_⟩
  ·rw[Aq]
   exact .inr ⟨w.heap.size,n,⟨ys⟩,rfl,Nat.zero_le _,EF w _,Nat.le_refl _,hn,by simpa using hl,by simp[<-hl]⟩
  ·obtain⟨y,hy,ho,hr⟩:=hr i hi j hj
   refine⟨y,hy,ho,Ao.mono (by simp) (fun g hg hA=>⟨⟨hA.1,fun b c hb e=> ?_⟩,Below.heap_alloc w _ g hg⟩) _ _ hr⟩
   rcases BO hb with hb|⟨rfl,_⟩
   ·rw[Bu hB _ _ hb]at e;exact hA.2 b c hb e
   rw[Aq]at e;simp at e;omega
  rw[Aq]at hg;simp at hg;subst hg;simp
theorem CD.newRowN{w0:AW}{β:Bn->CK}{B:Br}{nx:Nat}{w:World}(hm:Fp P A0 w0 β B N w)(hB:B nx=Option.none){e:TypeId}{k n:Nat}(hk:0<k)(hn:n<=maxLen){c:Nat->Nat->Ad}(hl:ys.length=n*k)
  (hr:∀i,i<n->∀j,j<k->∃y,ys[i*k+j]?=some y/\y.oneCell'=true/\Ar A0 w0 β B w (c i j) y):
  CD P A0 w0 β (BL β nx ⟨some w.heap.size,n,n⟩) B nx (some (.rown e k n c)) w (w.alloc (.cells ⟨ys⟩ e)) where
 keep:=(Below.refl _ _).alloc (Nat.le_refl _) _
 loc b c hb:=Bu hB _ _ hb
 box:=by
  rintro c ⟨⟩
  refine⟨⟨by rw[Aq],hk,hn,ys,⟨hl,?_⟩,fun i hi j hj=> ?_⟩,fun g hg=> ?_⟩
  ·rw[Aq]
   exact .inr ⟨w.heap.size,n,⟨ys⟩,rfl,Nat.zero_le _,EF w _,Nat.le_refl _,hn,by simpa using hl,by simp[<-hl]⟩
  ·obtain⟨y,hy,ho,hr⟩:=hr i hi j hj
   refine⟨y,hy,ho,A7.mono (by simp) (fun g hg hA=>⟨⟨hA.1,fun b c hb e=> ?_⟩,Below.heap_alloc w _ g hg⟩) (fun b c hb=>⟨c,C6 hB hb,CR.refl c,Bu hB _ _ hb⟩) _ _ hr⟩
   rcases BO hb with hb|⟨rfl,_⟩
   ·rw[Bu hB _ _ hb]at e;exact hA.2 b c hb e
   rw[Aq]at e;simp at e;omega
  rw[Aq]at hg;simp at hg;subst hg;simp
end Go.Proofs.YtlieoghhkioflaaGreat
