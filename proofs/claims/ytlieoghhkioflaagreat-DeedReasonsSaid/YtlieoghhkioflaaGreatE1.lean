/- The engine: Base, Map, MapO, FVal, FCode, FRun, FComp, FMem. No condition. -/
import Derived.WalkKit
import Derived.WalkLawsBesides
import Derived.WalkSpells
import Derived.Deep.LoopGhost
import Derived.Deep.DeepCutAuto
import Derived.Deep.RegionWith
import Derived.Deep.RegionHeld3
import Derived.BigQuiet
import Derived.Deep.QuietTactic
import Derived.Lib.Hide
import Derived.Maps.OwnOps
import Derived.Maps.RangeRun
import Derived.Laws.BytesArg
import Derived.Lib.LazyBuf
import Derived.Orders
set_option linter.unusedSimpArgs false
set_option linter.unusedVariables false
namespace Go.Proofs.YtlieoghhkioflaaGreat
open Go Go.RowKit
variable{cs:List Value}{b:Nat}{t:TypeId}{v:Value}{w w':World}
abbrev Yz(w w':World):Prop:=Below w.heap.size w w'
theorem R1(h:Yz w w'){p:Addr}(hv:w.cell? p=some v):w'.cell? p=some v:=by
 have:p.block<w.heap.size:=by
  rcases Nat.lt_or_ge p.block w.heap.size with h1|h1
  ·exact h1
  simp[World.cell?,Array.getElem?_eq_none h1]at hv
 rw[h.cell this];exact hv
theorem Vb{p:Addr}(hv:w.cell? p=some v):p.block<w.heap.size:=by
 rcases Nat.lt_or_ge p.block w.heap.size with h1|h1
 ·exact h1
 simp[World.cell?,Array.getElem?_eq_none h1]at hv
def Hd(w:World)(b:Nat)(cs:List Value)(t:TypeId):Prop:=w.heap[b]?=some (.cells cs.toArray t (0,0))
theorem Hd.cell(h:Hd w b cs t)(i:Nat):w.cell? ⟨b,i,none⟩=cs[i]?:=by
 unfold Hd at h;simp[World.cell?,h]
theorem Hd.lt(h:Hd w b cs t):b<w.heap.size:=lt_of_block h
theorem Hd.below{B:Nat}(h:Hd w b cs t)(hb:Below B w w')(hB:b<B):Hd w' b cs t:=(hb.block b hB).trans h
theorem Hd.ext(h:Hd w b cs t)(hb:Yz w w'):Hd w' b cs t:=h.below hb h.lt
theorem Hd.alloc(h:Hd w b cs t)(o:Obj):Hd (w.alloc o) b cs t:=(Below.heap_alloc w o b h.lt).trans h
theorem Hd.drew(h:Hd w b cs t):Hd w.drew b cs t:=h
theorem EE(w:World)(o:Obj):(w.alloc o).heap[w.heap.size]?=some o:=by show(w.heap.push o)[_]?=_;simp
theorem Hd.new(w:World)(cs:List Value)(t:TypeId):Hd (w.alloc (.cells cs.toArray t)) w.heap.size cs t:=EE w _
theorem Hd.new'(w:World)(cs:List Value)(t:TypeId)(h:b=w.heap.size):Hd (w.alloc (.cells cs.toArray t)) b cs t:=by subst h;exact Hd.new w cs t
theorem Hd.set(h:Hd w b cs t)(i:Nat)(v:Value):Hd (w.setCell ⟨b,i,none⟩ v) b (cs.set i v) t:=by
 have hlt:=h.lt
 unfold Hd at h
 have h':w.heap[b]= .cells cs.toArray t (0,0):=by simpa[Array.getElem?_eq_getElem hlt]using h
 show(w.heap.modify b _)[b]?=_
 rw[Array.getElem?_eq_getElem (by simpa using hlt),Array.getElem_modify_self,h']
 simp
theorem Hd.setO{b':Nat}(h:Hd w b cs t)(hne:b≠b')(i:Nat)(v:Value):Hd (w.setCell ⟨b',i,none⟩ v) b cs t:=(Below.heap_setCell w ⟨b',i,none⟩ v b hne).trans h
def Cel(w:World)(b off k n:Nat)(f:Nat->Nat->Value):Prop:=∀i,i<n->∀j,j<k->w.cell? ⟨b,off+i*k+j,none⟩=some (f i j)
theorem Cel.ext{off k n:Nat}{f:Nat->Nat->Value}(h:Cel w b off k n f)(he:Yz w w'):Cel w' b off k n f:=fun i hi j hj=>R1 he (h i hi j hj)
def SL(w:World)(v:Value)(k n:Nat)(f:Nat->Nat->Value):Prop:=
 ∃a c,v= .slice a n c/\n<=maxLen/\(0<n->∃b off,a=some ⟨b,off,none⟩/\Cel w b off k n f)
theorem SL.ext{k n:Nat}{f:Nat->Nat->Value}(h:SL w v k n f)(he:Yz w w'):SL w' v k n f:=by
 obtain⟨a,c,hv,hn,hc⟩:=h
 exact⟨a,c,hv,hn,fun h0=>by obtain⟨b,off,ha,hx⟩:=hc h0;exact⟨b,off,ha,hx.ext he⟩⟩
theorem G0{P:Program}{f:FuncId}{fn:Func}{c:Code}(hf:P.funcs[f]?=some fn)(hname:(fn.name== "runtime.NumGoroutine")=false)(hb:fn.body=some c):
  ∀args w,(callFunc f args).run P w= .ok (.enter f args) w:=by
 intro args w
 have hn:¬fn.name= "runtime.NumGoroutine" :=by simpa using hname
 simp[callFunc,hf,hn,hb,Result.andThen]
end Go.Proofs.YtlieoghhkioflaaGreat
/- Maps with integer keys,said by a function from keys to values: a map that the call makes; a store; a look-up. No condition. -/
namespace Go.Proofs.YtlieoghhkioflaaGreat
open Go Go.RowKit
def Be(kd:IntKind)(k:Int)(e:MapEntry):Bool:=match e.key with| .int j n=>decide (j=kd)&&(n==k)|_=>false
def CO(w:World)(b:Nat)(kd:IntKind)(g:Int->Option Value):Prop:=
 ∃es clock,w.heap[b]?=some (.map es clock)/\(∀e∈es.toList,∃n,e.key= .int kd n)/\∀k,((es.toList.find? (Be kd k)).map (·.val))=g k
theorem CO.congr{w:World}{b:Nat}{kd:IntKind}{g g':Int->Option Value}(h:CO w b kd g)(e:∀k,g k=g' k):CO w b kd g':=by
 have:g=g':=funext e
 subst this;exact h
theorem CO.lt{w:World}{b:Nat}{kd:IntKind}{g:Int->Option Value}(h:CO w b kd g):b<w.heap.size:=by
 obtain⟨es,c,h1,_⟩:=h;exact lt_of_block h1
theorem CO.below{w w':World}{B b:Nat}{kd:IntKind}{g:Int->Option Value}(h:CO w b kd g)(hb:Below B w w')(hB:b<B):CO w' b kd g:=by
 obtain⟨es,c,h1,h2⟩:=h;exact⟨es,c,(hb.block b hB).trans h1,h2⟩
theorem CO.ext{w w':World}{b:Nat}{kd:IntKind}{g:Int->Option Value}(h:CO w b kd g)(hb:Yz w w'):CO w' b kd g:=h.below hb h.lt
theorem CO.alloc{w:World}{b:Nat}{kd:IntKind}{g:Int->Option Value}(h:CO w b kd g)(o:Obj):CO (w.alloc o) b kd g:=by
 have hl:=h.lt
 obtain⟨es,c,h1,h2⟩:=h;exact⟨es,c,(Below.heap_alloc w o b hl).trans h1,h2⟩
theorem CO.drew{w:World}{b:Nat}{kd:IntKind}{g:Int->Option Value}(h:CO w b kd g):CO w.drew b kd g:=h
theorem CO.setCell{w:World}{b b':Nat}{kd:IntKind}{g:Int->Option Value}(h:CO w b kd g)(hne:b≠b')(i:Nat)(v:Value):CO (w.setCell ⟨b',i,none⟩ v) b kd g:=by
 obtain⟨es,c,h1,h2⟩:=h;exact⟨es,c,(Below.heap_setCell w ⟨b',i,none⟩ v b hne).trans h1,h2⟩
theorem CO.new(w:World)(kd:IntKind):CO (w.alloc (.map #[] 0)) w.heap.size kd (fun _=>none):=⟨#[],0,EE w _,by simp,by simp⟩
theorem CO.new'(w:World)(kd:IntKind){b:Nat}(h:b=w.heap.size):CO (w.alloc (.map #[] 0)) b kd (fun _=>none):=by subst h;exact CO.new w kd
theorem EY(kd:IntKind)(k:Int):∀(es:List MapEntry) (i:Nat),(∀e∈es,∃n,e.key= .int kd n)->
  ∃r,Instr.findNow (.int kd) (.int kd k) es i=some r/\
   ((r=none/\es.find? (Be kd k)=none)\/(∃j e,r=some (i+j,e.val)/\es[j]?=some e/\Be kd k e=true/\es.find? (Be kd k)=some e/\∀j'<j,∀e',es[j']?=some e'->Be kd k e'=false))
 |[],i,_=>⟨none,rfl,.inl ⟨rfl,rfl⟩⟩
 |e::es,i,h=>by
  obtain⟨n,hn⟩:=h e (by simp)
  by_cases hk:k=n
  ·subst hk
   have hki:Be kd k e=true:=by simp[Be,hn]
   refine⟨some (i,e.val),by simp[Instr.findNow,Instr.sameNow,hn],.inr ⟨0,e,by simp,by simp,hki,by simp[List.find?,hki],by omega⟩⟩
  have hki:Be kd k e=false:=by simp[Be,hn];omega
  obtain⟨r,hr,hc⟩:=EY kd k es (i+1) (fun x hx=>h x (by simp[hx]))
  refine⟨r,?_,?_⟩
  ·have:(k==n)=false:=by simpa using hk
   simp[Instr.findNow,Instr.sameNow,hn,this,hr]
  rcases hc with⟨rfl,hf⟩|⟨j,e',rfl,he,hke,hf,hlt⟩
  ·exact .inl ⟨rfl,by simp[List.find?,hki,hf]⟩
  refine .inr ⟨j+1,e',by simp;omega,by simpa using he,hke,by simp[List.find?,hki,hf],?_⟩
  intro j' hj' e'' he''
  cases j' with
  |zero=>simp at he'';subst he'';exact hki
  |succ j'=>exact hlt j' (by omega) e'' (by simpa using he'')
section
variable{P:Program}{T K E:TypeId}{kd:IntKind}{w:World}{b:Nat}{g:Int->Option Value}
theorem DQ(hK:P.underlying K=some (.int kd))(n:Nat)(e:Bool)(k:Int):(Instr.checkKey e (n+1) K (.int kd k)).run P w= .ok () w:=by
 simp[Instr.checkKey,run_underlying hK,Result.andThen]
theorem FH(hm:CO w b kd g)(hT:P.underlying T=some (.map K E))(hK:P.underlying K=some (.int kd))(z:Value)(hz:(zeroValue E).run P w= .ok z w)(k:Int)(ok:Bool):
  (Instr.lookup T (.map (some b)) (.int kd k) ok).run P w= .ok (if ok then .tuple #[(g k).getD z,.bool (g k).isSome]else(g k).getD z) w:=by
 obtain⟨es,c,hb,hkeys,hg⟩:=hm
 obtain⟨r,hr,hc⟩:=EY kd k es.toList 0 hkeys
 have hck:=fun e=>DQ (w:=w) hK 9999 e k
 have hgk:=hg k
 simp only[Instr.lookup]
 rcases hc with⟨rfl,hf⟩|⟨j,e,rfl,he,hke,hf,hlt⟩
 ·rw[hf]at hgk
  simp[run_underlying hT,run_underlying hK,MapKept.run_getObj_map hb,hck,Instr.findKey,hr,hz,<-hgk,Result.andThen]
 rw[hf]at hgk
 simp[run_underlying hT,run_underlying hK,MapKept.run_getObj_map hb,hck,Instr.findKey,hr,hz,<-hgk,Result.andThen]
theorem Iu(kd:IntKind)(k:Int)(v:Value):∀(l:List MapEntry) (j:Nat) (e:MapEntry),l[j]?=some e->Be kd k e=true->(∀j'<j,∀e',l[j']?=some e'->Be kd k e'=false)->
  (∀e∈l,∃n,e.key= .int kd n)->∀k',(((l.modify j fun e=>{e with key:= .int kd k,val:=v}).find? (Be kd k')).map (·.val))=if k'=k then some v else((l.find? (Be kd k')).map (·.val))
 |[],j,e,he,_,_,_,_=>by simp at he
 |x::l,0,e,he,hk,_,hkeys,k'=>by
  simp at he;subst he
  by_cases h:k'=k
  ·subst h;simp[List.find?,Be]
  obtain⟨n,hn⟩:=hkeys x (by simp)
  have hnk:n=k:=by simpa[Be,hn]using hk
  subst hnk
  have h1:Be kd k' {x with key:= .int kd n,val:=v}=false:=by simp[Be];omega
  have h2:Be kd k' x=false:=by simp[Be,hn];omega
  simp[List.find?,h1,h2,h]
 |x::l,j+1,e,he,hk,hlt,hkeys,k'=>by
  have hx:=hlt 0 (by omega) x (by simp)
  have ih:=Iu kd k v l j e (by simpa using he) hk (fun j' hj' e' he'=>hlt (j'+1) (by omega) e' (by simpa using he')) (fun y hy=>hkeys y (by simp[hy])) k'
  simp only[List.modify_succ_cons,List.find?]
  by_cases h:Be kd k' x=true
  ·have:k'≠k:=by rintro rfl;rw[hx]at h;cases h
   simp[h,this]
  simp only[Bool.not_eq_true]at h
  simp only[h]
  exact ih
theorem G4(hm:CO w b kd g)(hT:P.underlying T=some (.map K E))(hK:P.underlying K=some (.int kd))(k:Int)(v:Value):
  ∃w',(Instr.mapUpdate T (.map (some b)) (.int kd k) v).run P w= .ok () w'/\CO w' b kd (fun j=>if j=k then some v else g j)/\w.grownBy w' (some b):=by
 obtain⟨es,c,hb,hkeys,hg⟩:=hm
 obtain⟨r,hr,hc⟩:=EY kd k es.toList 0 hkeys
 have hck:=DQ (w:=w) hK 9999 false k
 have hlt:=lt_of_block hb
 have hset:∀o,({w with heap:=w.heap.setIfInBounds b o}:World).heap[b]?=some o:=fun o=>by simp[hlt]
 have hgr:∀o,w.grownBy {w with heap:=w.heap.setIfInBounds b o} (some b):=fun o=>⟨rfl,rfl,rfl,by simp,fun i _ hi=>by
  show(w.heap.setIfInBounds b o)[i]?=_
  rw[Array.getElem?_setIfInBounds,if_neg (by intro e;exact hi (by rw[e]))]⟩
 have hso:∀o,(Sem.setObj b o (.pure ())).run P w= .ok () {w with heap:=w.heap.setIfInBounds b o}:=fun o=>by simp[Sem.run,hb]
 simp only[Instr.mapUpdate]
 rcases hc with⟨rfl,hf⟩|⟨j,e,rfl,he,hke,hf,hltj⟩
 ·refine⟨{w with heap:=w.heap.setIfInBounds b (.map (es.push {key:= .int kd k,val:=v,born:=c}) (c+1))},?_,⟨_,_,hset _,?_,?_⟩,hgr _⟩
  ·simp[run_underlying hT,run_underlying hK,MapKept.run_getObj_map hb,hck,Instr.findKey,hr,Result.andThen,MapKept.run_setObj_map _ hb]
  ·intro e he
   simp at he
   rcases he with he|rfl
   ·exact hkeys e (by simpa using he)
   exact⟨k,rfl⟩
  intro k'
  rw[Array.toList_push,List.find?_append]
  by_cases h:k'=k
  ·subst h;simp[hf,Be]
  have:Be kd k' {key:= .int kd k,val:=v,born:=c}=false:=by simp[Be];omega
  simp[List.find?,this,h,<-hg k']
 obtain⟨n,hn⟩:=hkeys e (List.mem_of_getElem? he)
 have hnk:n=k:=by simpa[Be,hn]using hke
 subst hnk
 have he':es[j]?=some e:=by simpa using he
 have hstay:(Instr.keyThatStays (.int kd n) (.int kd n)).run P w= .ok (.int kd n) w:=by simp[Instr.keyThatStays,Instr.sameBits]
 refine⟨{w with heap:=w.heap.setIfInBounds b (.map (es.modify j fun e=>{e with key:= .int kd n,val:=v}) c)},?_,⟨_,_,hset _,?_,?_⟩,hgr _⟩
 ·simp[run_underlying hT,run_underlying hK,MapKept.run_getObj_map hb,hck,Instr.findKey,hr,Result.andThen,he',hn,hstay,MapKept.run_setObj_map _ hb]
 ·intro x hx
  rw[Array.toList_modify]at hx
  obtain⟨i,hi⟩:=List.mem_iff_getElem?.1 hx
  rw[List.getElem?_modify]at hi
  split at hi
  ·cases hxi:es.toList[i]? with
   |none=>simp[hxi]at hi
   |some y=>simp[hxi]at hi;exact⟨n,by rw[<-hi]⟩
  exact hkeys x (List.mem_of_getElem? (by simpa using hi))
 intro k'
 rw[Array.toList_modify,Iu kd n v es.toList j e he hke hltj hkeys k',hg k']
end
end Go.Proofs.YtlieoghhkioflaaGreat
/- Maps that the program makes: their entries' stamps,a store,a delete,and a range over one. No condition. -/
namespace Go.Proofs.YtlieoghhkioflaaGreat
open Go Go.RowKit
variable{seen:Int->Bool}{r:Nat}{last:Option Int}
def E5(w:World)(b:Nat)(kd:IntKind)(g:Int->Option Value):Prop:=
 ∃es clock,w.heap[b]?=some (.map es clock)/\MapKept.Stamped es clock/\(∀e∈es.toList,∃n,e.key= .int kd n)/\∀k,((es.toList.find? (Be kd k)).map (·.val))=g k
theorem E5.mapF{w:World}{b:Nat}{kd:IntKind}{g:Int->Option Value}(h:E5 w b kd g):CO w b kd g:=by
 obtain⟨es,c,h1,_,h2⟩:=h;exact⟨es,c,h1,h2⟩
theorem E5.heap{w w':World}{b:Nat}{kd:IntKind}{g:Int->Option Value}(h:E5 w b kd g)(hh:w'.heap[b]?=w.heap[b]?):E5 w' b kd g:=by
 obtain⟨es,c,h1,h2⟩:=h;exact⟨es,c,hh.trans h1,h2⟩
theorem E5.new'(w:World)(kd:IntKind){b:Nat}(h:b=w.heap.size):E5 (w.alloc (.map #[] 0)) b kd (fun _=>none):=by
 subst h;exact⟨#[],0,EE w _,MapKept.stamped_empty 0,by simp,by simp⟩
def Fi(w:World)(r b:Nat)(kd:IntKind)(seen:Int->Bool)(last:Option Int):Prop:=
 r≠b/\∃es clock since c0 arr,w.heap[r]?=some (.mapIter (some b) since arr c0)/\w.heap[b]?=some (.map es clock)/\since<=c0/\since<=clock/\(∀x∈es.toList,x.born<since)/\(∀x∈es.toList,∀n,x.key= .int kd n->arr.contains x.born=seen n)/\∀k,last=some k->c0=clock/\∃(arr':Array Nat) (e:MapEntry),arr=arr'.push e.born/\e∈es.toList/\e.key= .int kd k
theorem Fi.heap{w w':World}{b:Nat}{kd:IntKind}(h:Fi w r b kd seen last)(h1:w'.heap[r]?=w.heap[r]?)(h2:w'.heap[b]?=w.heap[b]?):Fi w' r b kd seen last:=by
 obtain⟨hne,es,c,s,c0,arr,q1,q2,q⟩:=h;exact⟨hne,es,c,s,c0,arr,h1.trans q1,h2.trans q2,q⟩
theorem Fi.congr{w:World}{b:Nat}{kd:IntKind}{seen':Int->Bool}(h:Fi w r b kd seen last)(e:∀k,seen' k=seen k):Fi w r b kd seen' last:=by
 have:seen'=seen:=funext e
 subst this;exact h
theorem QG{kd:IntKind}{l:List MapEntry}(h:∀e∈l,∃n,e.key= .int kd n):∀e∈l,MapKept.IsKey (.int kd) e.key:=fun e he=>by
 obtain⟨n,hn⟩:=h e he;rw[hn];exact rfl
theorem JX(kd:IntKind)(k:Int):∀(l:List MapEntry) (j:Nat) (e:MapEntry),l[j]?=some e->Be kd k e=true->l.Pairwise (fun x y=>x.key≠y.key)->(∀e∈l,∃n,e.key= .int kd n)->
  ∀k',(((l.eraseIdx j).find? (Be kd k')).map (·.val))=if k'=k then none else((l.find? (Be kd k')).map (·.val))
 |[],j,e,he,_,_,_,_=>by simp at he
 |x::l,0,e,he,hk,hp,hkeys,k'=>by
  simp at he;subst he
  obtain⟨n,hn⟩:=hkeys x (by simp)
  have hnk:n=k:=by simpa[Be,hn]using hk
  subst hnk
  by_cases h:k'=n
  ·subst h
   simp only[List.eraseIdx_zero,List.tail_cons,if_true]
   have:l.find? (Be kd k')=none:=by
    rw[List.find?_eq_none]
    intro y hy hky
    obtain⟨m,hm⟩:=hkeys y (by simp[hy])
    have:m=k':=by simpa[Be,hm]using hky
    subst this
    exact(List.pairwise_cons.1 hp).1 y hy (by rw[hn,hm])
   rw[this];rfl
  have h2:Be kd k' x=false:=by simp[Be,hn];omega
  simp[List.find?,h2,h]
 |x::l,j+1,e,he,hk,hp,hkeys,k'=>by
  have ih:=JX kd k l j e (by simpa using he) hk (List.pairwise_cons.1 hp).2 (fun y hy=>hkeys y (by simp[hy])) k'
  simp only[List.eraseIdx_cons_succ]
  obtain⟨n,hn⟩:=hkeys x (by simp)
  by_cases hx:Be kd k' x=true
  ·have hnk:n=k':=by simpa[Be,hn]using hx
   subst hnk
   have hne:n≠k:=by
    intro h;subst h
    have hel:e∈l:=List.mem_of_getElem? (by simpa using he)
    obtain⟨m,hm⟩:=hkeys e (by simp[hel])
    have:m=n:=by simpa[Be,hm]using hk
    subst this
    exact(List.pairwise_cons.1 hp).1 e hel (by rw[hn,hm])
   simp[List.find?,hx,hne]
  have hx:Be kd k' x=false:=by simpa using hx
  simp[List.find?,hx,ih]
section
variable{P:Program}{T K E:TypeId}{kd:IntKind}{w:World}{b:Nat}{g:Int->Option Value}
theorem Ep(hm:E5 w b kd g)(hT:P.underlying T=some (.map K E))(hK:P.underlying K=some (.int kd))(k:Int)(v:Value):
  ∃w',(Instr.mapUpdate T (.map (some b)) (.int kd k) v).run P w= .ok () w'/\E5 w' b kd (fun j=>if j=k then some v else g j)/\w.grownBy w' (some b):=by
 obtain⟨es0,c0,hb0,hst,hk0,hg0⟩:=hm
 obtain⟨w',hrun,hm',hgr⟩:=G4 ⟨es0,c0,hb0,hk0,hg0⟩ hT hK k v
 obtain⟨es',c',hb',hk',hg'⟩:=hm'
 obtain⟨es2,c2,hb2,hst2,_,_⟩:=MapKept.mapUpdate_keeps (d:= .int kd) hT hK hb0 hst (QG hk0) (show MapKept.IsKey (.int kd) (.int kd k)from rfl) hrun
 rw[hb']at hb2;cases hb2
 exact⟨w',hrun,⟨es',c',hb',hst2,hk',hg'⟩,hgr⟩
theorem IK(hm:E5 w b kd g)(hT:P.underlying T=some (.map K E))(hK:P.underlying K=some (.int kd))(k:Int)(ty:TypeId):
  ∃w',(Builtin.delete_ #[T,K] ty #[.map (some b),.int kd k]).run P w= .ok (.tuple #[]) w'/\E5 w' b kd (fun j=>if j=k then none else g j)/\w.grownBy w' (some b):=by
 obtain⟨es,c,hb,hst,hkeys,hg⟩:=hm
 obtain⟨r,hr,hc⟩:=EY kd k es.toList 0 hkeys
 have hck:=DQ (w:=w) hK 9999 es.isEmpty k
 have hlt:=lt_of_block hb
 have hset:∀o,({w with heap:=w.heap.setIfInBounds b o}:World).heap[b]?=some o:=fun o=>by simp[hlt]
 have hgr:∀o,w.grownBy {w with heap:=w.heap.setIfInBounds b o} (some b):=fun o=>⟨rfl,rfl,rfl,by simp,fun i _ hi=>by
  show(w.heap.setIfInBounds b o)[i]?=_
  rw[Array.getElem?_setIfInBounds,if_neg (by intro e;exact hi (by rw[e]))]⟩
 rcases hc with⟨rfl,hf⟩|⟨j,e,rfl,he,hke,hf,hltj⟩
 ·refine⟨{w with heap:=w.heap.setIfInBounds b (.map es c)},?_,⟨_,_,hset _,hst,hkeys,fun k'=> ?_⟩,hgr _⟩
  ·simp[Builtin.delete_,run_underlying hT,run_underlying hK,MapKept.run_getObj_map hb,hck,Instr.findKey,hr,Result.andThen,MapKept.run_setObj_map _ hb]
  show _=if k'=k then none else g k'
  by_cases h:k'=k
  ·subst h;rw[if_pos rfl,hf];rfl
  rw[if_neg h];exact hg k'
 have hjl:j<es.size:=by
  have:=(List.getElem?_eq_some_iff.1 he).1;simpa using this
 refine⟨{w with heap:=w.heap.setIfInBounds b (.map (es.eraseIdxIfInBounds j) c)},?_,⟨_,_,hset _,MapKept.stamped_erase hst _,fun x hx=> ?_,fun k'=> ?_⟩,hgr _⟩
 ·simp[Builtin.delete_,run_underlying hT,run_underlying hK,MapKept.run_getObj_map hb,hck,Instr.findKey,hr,Result.andThen,MapKept.run_setObj_map _ hb]
 ·have hs:(es.eraseIdxIfInBounds j).toList.Sublist es.toList:=by
   unfold Array.eraseIdxIfInBounds
   rw[dif_pos hjl,Array.toList_eraseIdx];exact List.eraseIdx_sublist _ _
  exact hkeys x (hs.subset hx)
 have e1:(es.eraseIdxIfInBounds j).toList=es.toList.eraseIdx j:=by
  unfold Array.eraseIdxIfInBounds
  rw[dif_pos hjl];simp
 rw[e1,JX kd k es.toList j e he hke ((MapKept.stamped_iff es c).1 hst).2.2 hkeys k',hg k']
theorem Jz(hm:E5 w b kd g)(hT:P.underlying T=some (.map K E)):
  (Instr.range T (.map (some b))).run P w= .ok (.pointer (some ⟨w.heap.size,0,none⟩)) (w.alloc (.mapIter (some b) (hm.choose_spec.choose) #[] (hm.choose_spec.choose)))/\
  Fi (w.alloc (.mapIter (some b) (hm.choose_spec.choose) #[] (hm.choose_spec.choose))) w.heap.size b kd (fun _=>false) none:=by
 have hs:=hm.choose_spec.choose_spec
 obtain⟨hb,hst,hkeys,hg⟩:=hs
 have hlt:=lt_of_block hb
 refine⟨run_range_map w T K E b _ _ hT hb,by omega,hm.choose,hm.choose_spec.choose,hm.choose_spec.choose,hm.choose_spec.choose,#[],(MapKept.heap_alloc w _).1,((MapKept.heap_alloc w _).2 b hlt).trans hb,Nat.le_refl _,Nat.le_refl _,((MapKept.stamped_iff _ _).1 hst).1,fun x hx n hn=>by simp,fun k hk=>by cases hk⟩
theorem Kq(hm:E5 w b kd g)(hi:Fi w r b kd seen last)(ty:TypeId):
  ((Instr.next (.pointer (some ⟨r,0,none⟩)) false ty).run P w= .ok (.tuple #[.bool false]) w/\∀k,(∃v,g k=some v)->seen k=true)\/
  ∃k v w1,g k=some v/\seen k=false/\(Instr.next (.pointer (some ⟨r,0,none⟩)) false ty).run P w= .ok (.tuple #[.bool true,.int kd k,v]) w1/\E5 w1 b kd g/\
   Fi w1 r b kd (fun j=>if j=k then true else seen j) (some k)/\w.grownBy w1 (some r)/\w1.heap.size=w.heap.size/\∀g',g'≠r->w1.heap[g']?=w.heap[g']?:=by
 obtain⟨es,clock,hb,hst,hkeys,hg⟩:=hm
 obtain⟨hne,es',clock',since,c0,arr,hr,hb',h1,h2,hold,hseen,_⟩:=hi
 rw[hb]at hb';cases hb'
 have hst':=(MapKept.stamped_iff es clock).1 hst
 have mem_g:∀x∈es.toList,∀n,x.key= .int kd n->g n=some x.val:=fun x hx n hn=>by
  rw[<-hg n]
  have:es.toList.find? (Be kd n)=some x:=by
   cases hf:es.toList.find? (Be kd n)with
   |none=>exact absurd (List.find?_eq_none.1 hf x hx) (by simp[Be,hn])
   |some y=>
    have hy:=List.mem_of_find?_eq_some hf
    obtain⟨m,hm⟩:=hkeys y hy
    have hky:=List.find?_some hf
    have:m=n:=by simpa[Be,hm]using hky
    subst this
    congr 1
    exact entry_eq_of_key hst'.2.2 hy hx (by rw[hm,hn])
  rw[this];rfl
 rcases run_next_at (P:=P) w ty r b since c0 arr es clock hr hb hold h1 with⟨h0,hrun⟩|⟨e,he,w1,hal,hrun⟩
 ·refine .inl ⟨hrun,fun k hk=> ?_⟩
  obtain⟨v,hv⟩:=hk
  rw[<-hg k]at hv
  cases hf:es.toList.find? (Be kd k)with
  |none=>rw[hf]at hv;cases hv
  |some y=>
   have hy:=List.mem_of_find?_eq_some hf
   obtain⟨m,hm⟩:=hkeys y hy
   have hky:=List.find?_some hf
   have:m=k:=by simpa[Be,hm]using hky
   subst this
   rw[<-hseen y hy m hm];exact all_seen es arr h0 y hy
 obtain⟨hem,hes⟩:=mem_left he
 obtain⟨n,hn⟩:=hkeys e hem
 have hr1:w1.heap[r]?=some (.mapIter (some b) since arr c0):=by rcases hal with rfl|rfl<;>exact hr
 have hb1:w1.heap[b]?=some (.map es clock):=by rcases hal with rfl|rfl<;>exact hb
 have hset:=MapKept.heap_set (o':= .mapIter (some b) since (arr.push e.born) clock) hr1
 have hoth:∀g',g'≠r->(ChangeMaps.setBlock w1 r (.mapIter (some b) since (arr.push e.born) clock)).heap[g']?=w.heap[g']?:=fun g' hg'=>(hset.2 g' hg').trans (by rcases hal with rfl|rfl<;>rfl)
 have hsz:(ChangeMaps.setBlock w1 r (.mapIter (some b) since (arr.push e.born) clock)).heap.size=w.heap.size:=by rcases hal with rfl|rfl<;>simp[ChangeMaps.setBlock]
 refine .inr ⟨n,e.val,_,mem_g e hem n hn,by rw[<-hseen e hem n hn];exact hes,by rw[<-hn];exact hrun,⟨es,clock,(hoth b hne.symm).trans hb,hst,hkeys,hg⟩,⟨hne,es,clock,since,clock,arr.push e.born,hset.1,(hoth b hne.symm).trans hb,h2,h2,hold,fun x hx m hm=> ?_,fun k hk=>by cases hk;exact⟨rfl,arr,e,rfl,hem,hn⟩⟩,?_,hsz,hoth⟩
 ·rw[contains_push,hseen x hx m hm]
  by_cases h:m=n
  ·subst h
   have:x=e:=entry_eq_of_key hst'.2.2 hx hem (by rw[hm,hn])
   subst this;simp
  have:(x.born==e.born)=false:=by
   cases hbe:(x.born==e.born)
   ·rfl
   have:x=e:=born_inj hst'.2.1 hx hem (by simpa using hbe)
   subst this
   rw[hn]at hm;cases hm;exact absurd rfl h
  simp[this,h]
 rcases hal with rfl|rfl<;>exact⟨rfl,rfl,rfl,by simp[ChangeMaps.setBlock],fun i _ hi=>hset.2 i (fun e1=>hi (by rw[e1]))⟩
theorem JF{k:Int}(hm:E5 w b kd g)(hi:Fi w r b kd seen (some k)):
  ∃v,g k=some v/\(Instr.entry (.pointer (some ⟨r,0,none⟩))).run P w= .ok (.tuple #[.int kd k,v]) w:=by
 obtain⟨es,clock,hb,hst,hkeys,hg⟩:=hm
 obtain⟨hne,es',clock',since,c0,arr,hr,hb',h1,h2,hold,hseen,hl⟩:=hi
 rw[hb]at hb';cases hb'
 have hst':=(MapKept.stamped_iff es clock).1 hst
 obtain⟨rfl,arr',e,rfl,he,hk⟩:=hl k rfl
 refine⟨e.val,?_,?_⟩
 ·rw[<-hg k]
  cases hf:es.toList.find? (Be kd k)with
  |none=>exact absurd (List.find?_eq_none.1 hf e he) (by simp[Be,hk])
  |some y=>
   have hy:=List.mem_of_find?_eq_some hf
   obtain⟨m,hm⟩:=hkeys y hy
   have hky:=List.find?_some hf
   have:m=k:=by simpa[Be,hm]using hky
   subst this
   have:y=e:=entry_eq_of_key hst'.2.2 hy he (by rw[hm,hk])
   rw[this];rfl
 rw[<-hk];exact run_entry_at w r b since arr' es c0 e hr hb he hst'.2.1
theorem Qr(hm:E5 w b kd g):∃es clock,w.heap[b]?=some (.map es clock)/\(es.size=0↔∀k,g k=none):=by
 obtain⟨es,clock,hb,hst,hkeys,hg⟩:=hm
 refine⟨es,clock,hb,fun h k=> ?_,fun h=> ?_⟩
 ·rw[<-hg k];have:es= #[]:=Array.eq_empty_of_size_eq_zero h
  subst this;simp
 by_cases h0:es.size=0
 ·exact h0
 obtain⟨e,he⟩:∃e,e∈es.toList:=by
  cases hl:es.toList with
  |nil=>rw[<-Array.length_toList,hl]at h0;exact absurd rfl h0
  |cons x l=>exact⟨x,by simp⟩
 obtain⟨k,hk⟩:=hkeys e he
 have:=h k
 rw[<-hg k]at this
 cases hf:es.toList.find? (Be kd k)with
 |none=>exact absurd (List.find?_eq_none.1 hf e he) (by simp[Be,hk])
 |some y=>rw[hf]at this;cases this
end
end Go.Proofs.YtlieoghhkioflaaGreat
/- The engine,part 1: abstract values,boxes,and how they are held in a world. No condition. -/
namespace Go.Proofs.YtlieoghhkioflaaGreat
open Go Go.RowKit
variable{kd:IntKind}{ys:List Value}{w':World}
inductive Bn where
 |n (b:Nat)
 |f (b:Nat) (z:Int)
 deriving DecidableEq,Inhabited
def Bn.id:Bn->Nat
 | .n b=>b
 | .f b _=>b
instance:Coe Nat Bn:=⟨Bn.n⟩
inductive Ae where
 |und
 |int (k:IntKind) (n:Int)
 |bool (b:Bool)
 |nils|nilp|nilf|nilm
 |view (k n:Nat) (cell:Nat->Nat->Ae)
 |vptr (m:Nat) (cell:Nat->Ae)
 |ptr (b:Bn) (off:Nat)
 |own (b:Bn)
 |rptr (b:Bn) (i off:Nat)
 |nil
 |cons (h t:Ae)
 |agg (l:Ae)
 |tup (l:Ae)
 |func (fn:Fn) (l:Ae)
 |mapb (b:Bn)
 |yld (b:Bn)
 |mview (kd:IntKind) (has:Int->Bool) (f:Int->Ae)
 |strv (n:Nat) (f:Nat->Int)
 |tv (k n:Nat) (cell:Nat->Nat->Ae)
 |osl (b:Bn) (off n:Nat)
 |ifc (T:TypeId) (k:IntKind) (n:Int)
 deriving Inhabited
inductive Bf where
 |t (n:Nat)
 |c (v:Ae)
 |g (n:Nat)
inductive Sh where
 |int (k:IntKind)
 |bool
 |slc (k:Nat)
 |any
inductive JE where
 |mv (x:Bf)
 |pick (c a b:Bf)
 |alloc (zero:Ae)
 |box (n:Nat) (x:Bf)
 |build (zero:Ae) (parts:List (Nat×Nat×Bf))
 |bsl (e:TypeId) (k len:Nat) (zero:Ae) (parts:List (Nat×Bf))
 |load (agg:Bool) (shs:List Sh) (x:Bf)
 |store (n:Nat) (a x:Bf)
 |bin (op:BinOp) (x y:Bf)
 |binb (neg:Bool) (x y:Bf)
 |eqa (neg:Bool) (shs:List Sh) (x y:Bf)
 |un (op:UnOp) (x:Bf)
 |conv (k:IntKind) (x:Bf)
 |mkf (fn:Fn) (caps:List Bf)
 |fld (off:Nat) (x:Bf)
 |idx (k:Nat) (x i:Bf)
 |idxA (k len:Nat) (x i:Bf)
 |sl (k:Nat) (x:Bf) (lo hi:Option Bf)
 |ext (i:Nat) (x:Bf)
 |call (f:Bf) (args:List (List Sh×Bf))
 |len (x:Bf)
 |mm (mx:Bool) (x y:Bf)
 |app (e:TypeId) (k bytes:Nat) (x y:Bf)
 |nilc (x:Bf)
 |mks (e:TypeId) (k bytes:Nat) (zero:Ae) (n c:Bf)
 |mkm (kd:IntKind)
 |mget (kd:IntKind) (ok:Bool) (zero:Ae) (x k:Bf)
 |mset (kd:IntKind) (x k v:Bf)
 |mdel (kd:IntKind) (x k:Bf)
 |mlen (kd:IntKind) (x:Bf)
 |rngm (kd:IntKind) (x:Bf)
 |nxt (x:Bf)
 |ent (x:Bf)
 |fv (agg:Bool) (off n:Nat) (x:Bf)
 |mm3 (mx:Bool) (x y z:Bf)
 |isnil (neg:Bool) (x:Bf)
 |b2s (x:Bf)
 |seq (neg:Bool) (x y:Bf)
 |calle (f:Bf) (args:List (List Sh×Bf))
 |clip (k:Nat) (x hi mx:Bf)
 |clr (k:Nat) (zero:Ae) (x:Bf)
 |mif (T:TypeId) (x:Bf)
 |pan (x:Bf)
 |dfr (x:Bf)
structure A1 where
 dst:Option Nat
 op:JE
 guard:Option (Nat×Bool)
 br:Bool
 re:List (Option Nat×JE×Option (Nat×Bool))
inductive Cl where
 |skip
 |reg (d:Nat) (ops:List A1)
 |seq (a b:Cl)
 |cond (c:Bf) (a b:Cl)
 |block (id:Nat) (a:Cl)
 |loop (a:Cl)
 |rng (f:Bf) (ps keep:List Nat) (a b:Cl)
 |exit (id:Nat)
 |scope (a:Cl)
 |ret
inductive WZ where
 |ret
 |exit (id:Nat)
def WZ.code:WZ->Code
 | .ret=> .ret
 | .exit id=> .exit id
def WZ.acode:WZ->Cl
 | .ret=> .ret
 | .exit id=> .exit id
inductive Xg where
 |ready
 |busy
 |done (c:WZ)
 |over
abbrev Fr:=List (Nat×Ae)
inductive Cu where
 |cells (l:Ae)
 |row (e:TypeId) (k n:Nat) (cell:Nat->Nat->Ae)
 |mp (kd:IntKind) (has:Int->Bool) (f:Int->Ae)
 |lp (g:Nat) (fr:Fr) (ps:List Nat) (ca cb:Cl) (st:Xg)
 |it (m:Option Bn) (kd:IntKind) (seen:Int->Bool) (last:Option Int)
 |rown (e:TypeId) (k n:Nat) (cell:Nat->Nat->Ae)
 |mz (kd:IntKind) (f:Int->Ae)
 |wc (g:Nat) (v:Ae)
inductive IA where
 |one (c:Cu)
 |fam (d:Int->Bool) (r:Int->Cu)
structure CI where
 a:Option Nat
 n:Nat
 cap:Nat
def Yt(L:CI)(a:Option Addr)(off n k cap:Nat):Prop:=(0<n->∃g,L.a=some g/\a=some ⟨g,off*k,none⟩)/\(off=0->a=(L.a.map fun g=>⟨g,0,none⟩)/\cap=L.cap)
abbrev Bq:=Bn->Option Cu
def Jl:Cu->Option (TypeId×Nat×Nat)
 | .row e k n _| .rown e k n _=>some (e,k,n)
 |_=>none
def Rd:Cu->Option IntKind
 | .mp kd _ _| .mz kd _=>some kd
 |_=>none
def JM(B:Bq)(b:Bn)(e:TypeId)(k n:Nat):Prop:=∃c,B b=some c/\Jl c=some (e,k,n)
def WW(B:Bq)(b:Bn)(kd:IntKind):Prop:=∃c,B b=some c/\Rd c=some kd
theorem JM.cases{B:Bq}{b:Bn}{e:TypeId}{k n:Nat}(h:JM B b e k n):(∃c,B b=some (.row e k n c))\/∃c,B b=some (.rown e k n c):=by
 obtain⟨c,hc,hk⟩:=h
 cases c<;>simp[Jl]at hk
 ·obtain⟨rfl,rfl,rfl⟩:=hk;exact .inl ⟨_,hc⟩
 obtain⟨rfl,rfl,rfl⟩:=hk;exact .inr ⟨_,hc⟩
theorem WW.cases{B:Bq}{b:Bn}(h:WW B b kd):(∃has f,B b=some (.mp kd has f))\/∃f,B b=some (.mz kd f):=by
 obtain⟨c,hc,hk⟩:=h
 cases c<;>simp[Rd]at hk
 ·obtain rfl:=hk;exact .inl ⟨_,_,hc⟩
 obtain rfl:=hk;exact .inr ⟨_,hc⟩
def ptrB:Cu->Bool
 | .cells _| .it _ _ _ _| .wc _ _=>true
 |_=>false
def Ap(w:World)(A:Nat->Prop):Ae->Value->Prop
 | .und,_=>True
 | .int k n,x=>x= .int k n
 | .bool b,x=>x= .bool b
 | .nils,x=>x= .slice none 0 0
 | .nilp,x=>x= .pointer none
 | .nilf,x=>x= .nilFunc
 | .nilm,x=>x= .map none
 | .view k n cell,x=>∃a c,x= .slice a n c/\n<=maxLen/\n<=c/\(0<n->∃g off,a=some ⟨g,off,none⟩/\g<w.heap.size/\A g/\∀i,i<n->∀j,j<k->∃y,w.cell? ⟨g,off+i*k+j,none⟩=some y/\y.oneCell'=true/\Ap w A (cell i j) y)
 | .vptr m cell,x=>∃g off,x= .pointer (some ⟨g,off,none⟩)/\g<w.heap.size/\A g/\∀j,j<m->∃y,w.cell? ⟨g,off+j,none⟩=some y/\Ap w A (cell j) y
 | .nil,x=>x= .tuple #[]
 | .cons h t,x=>∃y ys,x= .tuple ⟨y::ys⟩/\Ap w A h y/\Ap w A t (.tuple ⟨ys⟩)
 | .agg l,x=>∃ys,x= .agg ⟨ys⟩/\Ap w A l (.tuple ⟨ys⟩)
 | .tup l,x=>∃ys,x= .tuple ⟨ys⟩/\Ap w A l (.tuple ⟨ys⟩)
 | .func fn l,x=>∃ys,x= .func fn #[] ⟨ys⟩/\Ap w A l (.tuple ⟨ys⟩)
 | .mview kd has f,x=>∃g h,x= .map (some g)/\g<w.heap.size/\A g/\CO w g kd h/\∀k,(has k=false->h k=none)/\(has k=true->∃y,h k=some y/\Ap w A (f k) y)
 | .tv k n cell,x=>∃a,x= .slice a n n/\n<=maxLen/\(0<n->∃g off,a=some ⟨g,off,none⟩/\g<w.heap.size/\A g/\∀i,i<n->∀j,j<k->∃y,w.cell? ⟨g,off+i*k+j,none⟩=some y/\y.oneCell'=true/\Ap w A (cell i j) y)
 | .ifc T k n,x=>x= .iface T (.int k n)
 | .strv n f,x=>∃s:ByteArray,x= .string s/\s.data.toList.map (fun b=>(b.toNat:Int))=(List.range n).map f
 |_,_=>False
def A7(w:World)(A:Nat->Prop)(B:Bq)(β:Bn->CI):Ae->Value->Prop
 | .ptr b off,x=>(∃l,B b=some l/\ptrB l=true)/\∃g,(β b).a=some g/\x= .pointer (some ⟨g,off,none⟩)
 | .own b,x=>(∃e k n,JM B b e k n)/\x= .slice ((β b).a.map fun g=>⟨g,0,none⟩) (β b).n (β b).cap
 | .rptr b i off,x=>∃e k n,JM B b e k n/\i<n/\∃g,(β b).a=some g/\x= .pointer (some ⟨g,i*k+off,none⟩)
 | .nil,x=>x= .tuple #[]
 | .cons h t,x=>∃y ys,x= .tuple ⟨y::ys⟩/\A7 w A B β h y/\A7 w A B β t (.tuple ⟨ys⟩)
 | .agg l,x=>∃ys,x= .agg ⟨ys⟩/\A7 w A B β l (.tuple ⟨ys⟩)
 | .tup l,x=>∃ys,x= .tuple ⟨ys⟩/\A7 w A B β l (.tuple ⟨ys⟩)
 | .func fn l,x=>∃ys,x= .func fn #[] ⟨ys⟩/\A7 w A B β l (.tuple ⟨ys⟩)
 | .mapb b,x=>(∃kd,WW B b kd)/\∃g,(β b).a=some g/\x= .map (some g)
 | .yld b,x=>∃g fr ps ca cb st,B b=some (.lp g fr ps ca cb st)/\x= .func (.yield g) #[] #[]
 | .osl b off n,x=>(∃e k m,JM B b e k m/\off+n<=m/\∃a cap,x= .slice a n cap/\n<=cap/\Yt (β b) a off n k cap)
 | .und,_=>True
 |v@(.tv ..),x|v@(.ifc ..),x|v@(.mview ..),x|v@(.int ..),x|v@(.bool ..),x|v@.nils,x|v@.nilp,x|v@.nilf,x|v@.nilm,x|v@(.view ..),x|v@(.vptr ..),x|v@(.strv ..),x=>Ap w A v x
def CP:Cu->Cu->Prop
 | .cells _,.cells _=>True
 | .row _ k n _,.row _ k' n' _=>k=k'/\n=n'
 | .rown _ k n _,.rown _ k' n' _=>k=k'/\n=n'
 | .mp kd _ _,.mp kd' _ _| .mp kd _ _,.mz kd' _| .mz kd _,.mz kd' _=>kd=kd'
 | .lp g _ ps ca cb _,.lp g' _ ps' ca' cb' _=>g=g'/\ps=ps'/\ca=ca'/\cb=cb'
 | .it _ kd _ _,.it _ kd' _ _=>kd=kd'
 | .wc g _,.wc g' _=>g=g'
 | .cells _,.wc _ _=>True
 |_,_=>False
theorem CP.ptrB{c c':Cu}(h:CP c c')(hp:ptrB c=true):ptrB c'=true:=by
 cases c<;>cases c'<;>simp_all[CP,Proofs.YtlieoghhkioflaaGreat.ptrB]
theorem CP.row{c c':Cu}(h:CP c c'){e:TypeId}{k n:Nat}(hr:Jl c=some (e,k,n)):∃e',Jl c'=some (e',k,n):=by
 cases c<;>cases c'<;>simp_all[CP,Jl]
theorem CP.map{c c':Cu}(h:CP c c')(hr:Rd c=some kd):Rd c'=some kd:=by
 cases c<;>cases c'<;>simp_all[CP,Rd]
theorem CP.refl(c:Cu):CP c c:=by cases c<;>simp[CP]
theorem Gs{w:World}{g:Nat}(h:w'.heap[g]?=w.heap[g]?)(o:Nat):w'.cell? ⟨g,o,none⟩=w.cell? ⟨g,o,none⟩:=World.cell?_of_block (w:=w) h
theorem CO.heap{w:World}{b:Nat}{g:Int->Option Value}(h:CO w b kd g)(hh:w'.heap[b]?=w.heap[b]?):CO w' b kd g:=by
 obtain⟨es,c,h1,h2⟩:=h;exact⟨es,c,hh.trans h1,h2⟩
theorem Ap.mono{w:World}{A A':Nat->Prop}(hs:w.heap.size<=w'.heap.size)(hb:∀g,g<w.heap.size->A g->A' g/\w'.heap[g]?=w.heap[g]?):
  ∀(v:Ae) (x:Value),Ap w A v x->Ap w' A' v x:=by
 intro v
 induction v with
 |view k n cell ih=>
  rintro x ⟨a,c,rfl,hn,hnc,h⟩
  refine⟨a,c,rfl,hn,hnc,fun h0=> ?_⟩
  obtain⟨g,off,rfl,hg,hA,hc⟩:=h h0
  obtain⟨hA',hh⟩:=hb g hg hA
  refine⟨g,off,rfl,by omega,hA',fun i hi j hj=> ?_⟩
  obtain⟨y,hy,ho,hr⟩:=hc i hi j hj
  exact⟨y,by rw[Gs hh];exact hy,ho,ih i j y hr⟩
 |tv k n cell ih=>
  rintro x ⟨a,rfl,hn,h⟩
  refine⟨a,rfl,hn,fun h0=> ?_⟩
  obtain⟨g,off,rfl,hg,hA,hc⟩:=h h0
  obtain⟨hA',hh⟩:=hb g hg hA
  refine⟨g,off,rfl,by omega,hA',fun i hi j hj=> ?_⟩
  obtain⟨y,hy,ho,hr⟩:=hc i hi j hj
  exact⟨y,by rw[Gs hh];exact hy,ho,ih i j y hr⟩
 |vptr m cell ih=>
  rintro x ⟨g,off,rfl,hg,hA,hc⟩
  obtain⟨hA',hh⟩:=hb g hg hA
  refine⟨g,off,rfl,by omega,hA',fun j hj=> ?_⟩
  obtain⟨y,hy,hr⟩:=hc j hj
  exact⟨y,by rw[Gs hh];exact hy,ih j y hr⟩
 |cons h t ih1 ih2=>rintro x ⟨y,ys,rfl,h1,h2⟩;exact⟨y,ys,rfl,ih1 y h1,ih2 _ h2⟩
 |agg l ih=>rintro x ⟨ys,rfl,h⟩;exact⟨ys,rfl,ih _ h⟩
 |tup l ih=>rintro x ⟨ys,rfl,h⟩;exact⟨ys,rfl,ih _ h⟩
 |func fn l ih=>rintro x ⟨ys,rfl,h⟩;exact⟨ys,rfl,ih _ h⟩
 |mview kd has f ih=>
  rintro x ⟨g,h,rfl,hg,hA,hm,hc⟩
  obtain⟨hA',hh⟩:=hb g hg hA
  refine⟨g,h,rfl,by omega,hA',hm.heap hh,fun k=>⟨(hc k).1,fun hk=> ?_⟩⟩
  obtain⟨y,hy,hr⟩:=(hc k).2 hk
  exact⟨y,hy,ih k y hr⟩
 |_=>intro x h;exact h
theorem Ap.rep{w:World}{A:Nat->Prop}{B:Bq}{β:Bn->CI}:∀(v:Ae) (x:Value),Ap w A v x->A7 w A B β v x:=by
 intro v
 induction v with
 |cons h t ih1 ih2=>rintro x ⟨y,ys,rfl,h1,h2⟩;exact⟨y,ys,rfl,ih1 y h1,ih2 _ h2⟩
 |agg l ih=>rintro x ⟨ys,rfl,h⟩;exact⟨ys,rfl,ih _ h⟩
 |tup l ih=>rintro x ⟨ys,rfl,h⟩;exact⟨ys,rfl,ih _ h⟩
 |func fn l ih=>rintro x ⟨ys,rfl,h⟩;exact⟨ys,rfl,ih _ h⟩
 |ptr b off=>intro x h;exact h.elim
 |own b=>intro x h;exact h.elim
 |rptr b i off=>intro x h;exact h.elim
 |mapb b=>intro x h;exact h.elim
 |yld b=>intro x h;exact h.elim
 |osl b off n=>intro x h;exact h.elim
 |_=>intro x h;exact h
theorem A7.mono{w:World}{A A':Nat->Prop}{B B':Bq}{β β':Bn->CI}(hs:w.heap.size<=w'.heap.size)
  (hb:∀g,g<w.heap.size->A g->A' g/\w'.heap[g]?=w.heap[g]?) (hx:∀b c,B b=some c->∃c',B' b=some c'/\CP c c'/\β' b=β b):
  ∀(v:Ae) (x:Value),A7 w A B β v x->A7 w' A' B' β' v x:=by
 intro v
 induction v with
 |cons h t ih1 ih2=>rintro x ⟨y,ys,rfl,h1,h2⟩;exact⟨y,ys,rfl,ih1 y h1,ih2 _ h2⟩
 |agg l ih=>rintro x ⟨ys,rfl,h⟩;exact⟨ys,rfl,ih _ h⟩
 |tup l ih=>rintro x ⟨ys,rfl,h⟩;exact⟨ys,rfl,ih _ h⟩
 |func fn l ih=>rintro x ⟨ys,rfl,h⟩;exact⟨ys,rfl,ih _ h⟩
 |ptr b off=>
  rintro x ⟨⟨l,hB,hp⟩,g,hg,rfl⟩
  obtain⟨c',hc,hk,hβ⟩:=hx b _ hB
  exact⟨⟨c',hc,hk.ptrB hp⟩,g,by rw[hβ];exact hg,rfl⟩
 |mapb b=>
  rintro x ⟨⟨kd,c,hB,hk0⟩,g,hg,rfl⟩
  obtain⟨c',hc,hk,hβ⟩:=hx b _ hB
  exact⟨⟨kd,c',hc,hk.map hk0⟩,g,by rw[hβ];exact hg,rfl⟩
 |own b=>
  rintro x ⟨⟨e,k,n,c,hB,hk0⟩,rfl⟩
  obtain⟨c',hc,hk,hβ⟩:=hx b _ hB
  obtain⟨e',he⟩:=hk.row hk0
  exact⟨⟨e',k,n,c',hc,he⟩,by rw[hβ]⟩
 |rptr b i off=>
  rintro x ⟨e,k,n,⟨c,hB,hk0⟩,hi,g,hg,rfl⟩
  obtain⟨c',hc,hk,hβ⟩:=hx b _ hB
  obtain⟨e',he⟩:=hk.row hk0
  exact⟨e',k,n,⟨c',hc,he⟩,hi,g,by rw[hβ];exact hg,rfl⟩
 |osl b off n=>
  rintro x ⟨e,k,m,⟨c,hB,hk0⟩,hm,a,cap,rfl,hcap,ha⟩
  obtain⟨c',hc,hk,hβ⟩:=hx b _ hB
  obtain⟨e',he⟩:=hk.row hk0
  exact⟨e',k,m,⟨c',hc,he⟩,hm,a,cap,rfl,hcap,by rw[hβ];exact ha⟩
 |yld b=>
  rintro x ⟨g,fr,ps,ca,cb,st,hB,rfl⟩
  obtain⟨c',hc,hk,hβ⟩:=hx b _ hB
  cases c' with
  |lp g' fr' ps' ca' cb' st'=>obtain⟨rfl,_⟩:=hk;exact⟨g,fr',ps',ca',cb',st',hc,rfl⟩
  |_=>simp[CP]at hk
 |nil=>intro x h;exact h
 |und=>intro x h;exact h
 |_=>intro x h;exact Ap.mono hs hb _ x h
def vl:List Ae->Ae
 |[]=> .nil
 |v::l=> .cons v (vl l)
def Az:Ae->Nat->Ae
 | .cons h _,0=>h
 | .cons _ t,n+1=>Az t n
 |_,_=> .und
def GR:Ae->Nat->Ae->Ae
 | .cons _ t,0,v=> .cons v t
 | .cons h t,n+1,v=> .cons h (GR t n v)
 |l,_,_=>l
def Bb:Ae->Nat
 | .cons _ t=>Bb t+1
 |_=>0
def Da:Ae->Nat->Ae->Ae
 |l,off,.cons v t=>Da (GR l off v) (off+1) t
 |l,_,_=>l
def SA:Ae->Ae->Ae
 | .cons h t,r=> .cons h (SA t r)
 |_,r=>r
def JQ(f:Nat->Ae):Nat->Nat->Ae
 |_,0=> .nil
 |j,n+1=> .cons (f j) (JQ f (j+1) n)
section
variable{w:World}{A:Nat->Prop}{B:Bq}{β:Bn->CI}
def Rk:Ae->Prop
 | .nil=>True
 | .cons _ t=>Rk t
 |_=>False
theorem A7.gets:∀(l:Ae) (ys:List Value),A7 w A B β l (.tuple ⟨ys⟩)->Rk l->Bb l=ys.length/\∀j,j<ys.length->A7 w A B β (Az l j) (ys.getD j undef):=by
 intro l
 induction l with
 |nil=>
  intro ys h _
  have:ys=[]:=by simpa[A7]using h
  subst this
  simp[Bb]
 |cons h t ih1 ih2=>
  rintro ys ⟨y,zs,he,h1,h2⟩ hl
  have:ys=y::zs:=by simpa using he
  subst this
  obtain⟨e1,e2⟩:=ih2 zs h2 hl
  refine⟨by simp[Bb,e1],fun j hj=> ?_⟩
  cases j with
  |zero=>simpa[Az]using h1
  |succ j=>simpa[Az]using e2 j (by simpa using hj)
 |_=>intro ys h hl;exact hl.elim
theorem A7.get1{l:Ae}(h:A7 w A B β l (.tuple ⟨ys⟩))(j:Nat)(hj:j<Bb l):∃y,ys[j]?=some y/\A7 w A B β (Az l j) y:=by
 induction l generalizing ys j with
 |cons a t ih1 ih2=>
  obtain⟨y,zs,he,h1,h2⟩:=h
  have:ys=y::zs:=by simpa using he
  subst this
  cases j with
  |zero=>exact⟨y,rfl,h1⟩
  |succ j=>
   obtain⟨y',e,hr⟩:=ih2 h2 j (by simpa[Bb]using hj)
   exact⟨y',by simpa using e,hr⟩
 |_=>simp[Bb]at hj
theorem A7.len{l:Ae}(h:A7 w A B β l (.tuple ⟨ys⟩))(hl:Rk l):ys.length=Bb l:=(A7.gets l ys h hl).1.symm
theorem A7.tab(f:Nat->Ae):∀(n j:Nat) (ys:List Value),ys.length=n->(∀i,i<n->A7 w A B β (f (j+i)) (ys.getD i undef))->A7 w A B β (JQ f j n) (.tuple ⟨ys⟩):=by
 intro n
 induction n with
 |zero=>intro j ys hl _;have:ys=[]:=List.eq_nil_of_length_eq_zero hl;subst this;simp[JQ,A7]
 |succ n ih=>
  intro j ys hl h
  cases ys with
  |nil=>simp at hl
  |cons y zs=>
   refine⟨y,zs,rfl,by simpa using h 0 (by omega),ih (j+1) zs (by simpa using hl) fun i hi=> ?_⟩
   have:=h (i+1) (by omega)
   rw[show j+1+i=j+(i+1)from by omega];simpa using this
theorem Ap.tab(f:Nat->Ae):∀(n j:Nat) (ys:List Value),ys.length=n->(∀i,i<n->Ap w A (f (j+i)) (ys.getD i undef))->Ap w A (JQ f j n) (.tuple ⟨ys⟩):=by
 intro n
 induction n with
 |zero=>intro j ys hl _;have:ys=[]:=List.eq_nil_of_length_eq_zero hl;subst this;simp[JQ,Ap]
 |succ n ih=>
  intro j ys hl h
  cases ys with
  |nil=>simp at hl
  |cons y zs=>
   refine⟨y,zs,rfl,by simpa using h 0 (by omega),ih (j+1) zs (by simpa using hl) fun i hi=> ?_⟩
   have:=h (i+1) (by omega)
   rw[show j+1+i=j+(i+1)from by omega];simpa using this
theorem HG(f:Nat->Ae):∀(n j:Nat),Bb (JQ f j n)=n:=by
 intro n;induction n with
 |zero=>intro j;rfl
 |succ n ih=>intro j;simp[JQ,Bb,ih]
theorem A7.set1{l:Ae}(h:A7 w A B β l (.tuple ⟨ys⟩)){v:Ae}{y:Value}(hv:A7 w A B β v y)(j:Nat)(hj:j<Bb l):A7 w A B β (GR l j v) (.tuple ⟨ys.set j y⟩):=by
 induction l generalizing ys j with
 |cons a t ih1 ih2=>
  obtain⟨z,zs,he,h1,h2⟩:=h
  have:ys=z::zs:=by simpa using he
  subst this
  cases j with
  |zero=>exact⟨y,zs,rfl,hv,h2⟩
  |succ j=>exact⟨z,_,rfl,h1,ih2 h2 j (by simpa[Bb]using hj)⟩
 |_=>simp[Bb]at hj
theorem HT(l:Ae)(j:Nat)(v:Ae):Bb (GR l j v)=Bb l:=by
 induction l generalizing j with
 |cons h t ih1 ih2=>cases j<;>simp[GR,Bb,ih2]
 |_=>simp[GR]
theorem Tg(l:Ae)(j:Nat)(v:Ae)(h:Rk l):Rk (GR l j v):=by
 induction l generalizing j with
 |cons h' t ih1 ih2=>
  cases j with
  |zero=>exact h
  |succ j=>exact ih2 j h
 |_=>cases j<;>exact h
theorem A7.app{l r:Ae}{zs:List Value}(h:A7 w A B β l (.tuple ⟨ys⟩))(hl:Rk l)(h':A7 w A B β r (.tuple ⟨zs⟩)):A7 w A B β (SA l r) (.tuple ⟨ys++zs⟩):=by
 induction l generalizing ys with
 |nil=>
  have:ys=[]:=by simpa[A7]using h
  subst this
  exact h'
 |cons a t ih1 ih2=>
  obtain⟨z,us,he,h1,h2⟩:=h
  have:ys=z::us:=by simpa using he
  subst this
  exact⟨z,_,rfl,h1,ih2 h2 hl⟩
 |_=>exact hl.elim
end
end Go.Proofs.YtlieoghhkioflaaGreat
/- The engine,part 2: compiled code,what an operation gives,and the run of code on abstract states. No condition. -/
namespace Go.Proofs.YtlieoghhkioflaaGreat
open Go Go.RowKit
inductive B5 where
 |t (n:Nat)
 |cell (n:Nat) (agg:Bool) (shs:List Sh)
structure Ax where
 code:Cl
 res:List B5
abbrev Bx:=List (Nat×IA)
def Au:Fr->Nat->Ae
 |[],_=> .und
 |(t,v)::l,s=>if t=s then v else Au l s
def Ab:Bx->Bn->Option Cu
 |[],_=>none
 |(t,.one c)::l,.n b=>if t=b then some c else Ab l (.n b)
 |(_,.fam _ _)::l,.n b=>Ab l (.n b)
 |(_,.one _)::l,.f b z=>Ab l (.f b z)
 |(t,.fam d r)::l,.f b z=>if t=b/\d z=true then some (r z)else Ab l (.f b z)
def Aj:Bx->Bn->Cu->Bx
 |[],.n b,c=>[(b,.one c)]
 |[],.f b z,c=>[(b,.fam (fun j=>decide (j=z)) fun _=>c)]
 |(t,.one c')::l,.n b,c=>if t=b then(b,.one c)::l else(t,.one c')::Aj l (.n b) c
 |(t,.fam d r)::l,.n b,c=>(t,.fam d r)::Aj l (.n b) c
 |(t,.one c')::l,.f b z,c=>(t,.one c')::Aj l (.f b z) c
 |(t,.fam d r)::l,.f b z,c=>if t=b then(b,.fam (fun j=>if j=z then true else d j) fun j=>if j=z then c else r j)::l else(t,.fam d r)::Aj l (.f b z) c
def BN:Bx->Bn->Bx
 |[],_=>[]
 |(t,.one c)::l,.n b=>if t=b then BN l (.n b)else(t,.one c)::BN l (.n b)
 |(t,.fam d r)::l,.n b=>(t,.fam d r)::BN l (.n b)
 |(t,.one c)::l,.f b z=>(t,.one c)::BN l (.f b z)
 |(t,.fam d r)::l,.f b z=>(if t=b then(t,.fam (fun j=>if j=z then false else d j) r)else(t,.fam d r))::BN l (.f b z)
def Ai(fr:Fr)(d:Option Nat)(v:Ae):Fr:=match d with|some t=>(t,v)::fr|none=>fr
def Ae.toInt:Ae->Int
 | .int _ n=>n
 |_=>0
def Ae.toBool:Ae->Bool
 | .bool b=>b
 |_=>false
def Ae.slen:Ae->Nat
 | .view _ n _=>n
 |_=>0
def Ae.scell:Ae->Nat->Nat->Ae
 | .view _ _ c=>c
 |_=>fun _ _=> .und
def M6:Sh->Ae->Ae
 | .int k,v=> .int k v.toInt
 | .bool,v=> .bool v.toBool
 | .slc k,v=> .view k v.slen v.scell
 | .any,v=>v
def Ev:Sh->Ae->Prop
 | .int k,v=>v= .int k v.toInt
 | .bool,v=>v= .bool v.toBool
 | .slc k,v=>v= .nils\/v= .view k v.slen v.scell
 | .any,_=>True
def Jv:List Sh->(Nat->Ae)->Nat->Ae
 |[],_,_=> .nil
 |s::l,f,j=> .cons (M6 s (f j)) (Jv l f (j+1))
def Hx:List Sh->(Nat->Ae)->Nat->Prop
 |[],_,_=>True
 |s::l,f,j=>Ev s (f j)/\Hx l f (j+1)
def WS(agg:Bool)(l:Ae):Ae:=match agg with|true=> .agg l|false=>Az l 0
def Qc:Sh->Ae->Ae
 | .slc k,.nils=> .view k 0 fun _ _=> .und
 |_,v=>v
def PM:List Sh->Ae->Ae
 |s::l,.cons h t=> .cons (Qc s h) (PM l t)
 |_,v=>v
def Tz:List Sh->Ae->Ae
 |shs,.agg l=> .agg (PM shs l)
 |[s],v=>Qc s v
 |_,v=>v
def cellsOf:Ae->Ae
 | .agg l=>l
 |v=> .cons v .nil
def By:Ae->Bool
 | .nil=>true
 | .cons _ t=>By t
 |_=>false
def Bg(n:Nat):Ae->Prop
 | .agg l=>By l=true/\Bb l=n
 | .und| .tup _| .cons _ _| .nil=>False
 |_=>n=1
def A2:Ae->Bool
 | .own _| .ptr _ _| .rptr _ _ _| .mapb _| .yld _| .osl _ _ _=>false
 | .cons h t=>A2 h&&A2 t
 | .agg l| .tup l| .func _ l=>A2 l
 |_=>true
def DJ:Ae->Bool
 | .own _| .ptr _ _| .rptr _ _ _| .view _ _ _| .vptr _ _| .func _ _| .mapb _| .yld _| .mview _ _ _| .osl _ _ _| .tv _ _ _=>false
 | .cons h t=>DJ h&&DJ t
 | .agg l| .tup l=>DJ l
 |_=>true
def S0(own:Option TypeId)(v:Ae):Bool:=match own with
 |none=>DJ v
 |some _=>true
def C0:Ae->Bool
 | .cons h t=>(match h with| .und| .agg _| .tup _| .cons _ _| .nil=>false|_=>true)&&C0 t
 |_=>true
def EA:Bool->Ae->Ae->Ae
 |true,a,_=>a
 |false,_,b=>b
def Aw(bx:Bx):Nat->Ae->Ae
 |0,.own _=> .und
 |0,.ptr _ _=> .und
 |0,.rptr _ _ _=> .und
 |0,.mapb _=> .und
 |0,.yld _=> .und
 |0,.osl _ _ _=> .und
 |d+1,.own b=>match Ab bx b with|some (.row _ k n c)=> .view k n c|some (.rown _ k n c)=> .view k n fun i j=>EA (decide (i<n/\j<k)) (Aw bx d (c i j)) .und|_=> .own b
 |d+1,.ptr b off=>match Ab bx b with|some (.cells l)=> .vptr (Bb l-off) fun j=>Az (Aw bx d l) (off+j)|_=> .ptr b off
 |_+1,.osl b off n=>match Ab bx b with|some (.row _ k _ c)=> .view k n fun i j=>c (off+i) j|_=> .osl b off n
 |d+1,.rptr b i off=>match Ab bx b with|some (.row _ k n c)=> .vptr (k-off) fun j=>c i (off+j)|_=> .rptr b i off
 |d+1,.mapb b=>match Ab bx b with|some (.mp kd has f)=> .mview kd has fun k=>EA (has k) (Aw bx d (f k)) .und|some (.mz _ _)=> .und|_=> .mapb b
 |d,.cons h t=> .cons (Aw bx d h) (Aw bx d t)
 |d,.agg l=> .agg (Aw bx d l)
 |d,.tup l=> .tup (Aw bx d l)
 |d,.func fn l=> .func fn (Aw bx d l)
 |_,v=>v
noncomputable def Ao(bx:Bx):Nat->Ae->Bool
 |0,_=>true
 |d+1,.own b=>match Ab bx b with|some (.row _ _ _ _)=>true|some (.rown _ k n c)=> @decide (∀i,i<n->∀j,j<k->Ao bx d (c i j)=true) (Classical.propDecidable _)|_=>false
 |d+1,.ptr b _=>match Ab bx b with|some (.cells l)=>Ao bx d l|_=>false
 |_+1,.rptr b _ _=>match Ab bx b with|some (.row _ _ _ _)=>true|_=>false
 |d+1,.mapb b=>match Ab bx b with|some (.mp _ has f)=> @decide (∀k,has k=true->Ao bx d (f k)=true) (Classical.propDecidable _)|some (.mz _ _)=>true|_=>false
 |d+1,.cons h t=>Ao bx (d+1) h&&Ao bx (d+1) t
 |_+1,.yld _=>false
 |_+1,.osl b _ _=>match Ab bx b with|some (.row _ _ _ _)=>true|_=>false
 |d+1,.agg l=>Ao bx (d+1) l
 |d+1,.tup l=>Ao bx (d+1) l
 |d+1,.func _ l=>Ao bx (d+1) l
 |_+1,_=>true
def Wj:Ae->Nat->Ae
 | .vptr m c,o=> .vptr (m-o) fun j=>c (o+j)
 |_,_=> .und
def Bc(b:Bn)(r:Ae):Ae->Ae
 | .own b'=>if b'=b then r else .own b'
 | .ptr b' o=>if b'=b then Wj r o else .ptr b' o
 | .rptr b' i o=>if b'=b then .und else .rptr b' i o
 | .osl b' o n=>if b'=b then .und else .osl b' o n
 | .mapb b'=>if b'=b then .und else .mapb b'
 | .yld b'=>if b'=b then .und else .yld b'
 | .cons h t=> .cons (Bc b r h) (Bc b r t)
 | .agg l=> .agg (Bc b r l)
 | .tup l=> .tup (Bc b r l)
 | .func fn l=> .func fn (Bc b r l)
 |v=>v
def AL(b:Bn)(r:Ae):Fr->Fr
 |[]=>[]
 |(t,v)::l=>(t,Bc b r v)::AL b r l
def BO(b:Bn)(r:Ae):Cu->Cu
 | .cells l=> .cells (Bc b r l)
 | .mp kd has f=> .mp kd has fun k=>Bc b r (f k)
 | .mz kd f=> .mz kd fun k=>Bc b r (f k)
 | .rown e k n c=> .rown e k n fun i j=>Bc b r (c i j)
 | .lp g fr ps ca cb st=> .lp g (AL b r fr) ps ca cb st
 | .it mb kd seen last=> .it (if mb=some b then none else mb) kd seen last
 | .row e k n c=> .row e k n c
 | .wc g v=> .wc g (Bc b r v)
def AJ(b:Bn)(r:Ae):Bx->Bx
 |[]=>[]
 |(t,.one c)::m=>(t,.one (BO b r c))::AJ b r m
 |(t,.fam d q)::m=>(t,.fam d fun z=>BO b r (q z))::AJ b r m
structure At where
 pre:List Ae->Prop
 res:List Ae->Ae
 own:Option TypeId
structure AR where
 pre:Prop
 v:Ae
 new:Option Cu
abbrev bad:AR:=⟨False,.und,none⟩
abbrev Gx(v:Ae):AR:=⟨True,v,none⟩
structure Df where
 G:Nat->Option (Nat×(Nat->Ae))
 S:FuncId->Option At
 I:FuncId->Option Ax
 X:FuncId->Option (Nat×At)
 N:TypeId->Bool
 C:FuncId->Option (TypeId×IntKind)
 Z:FuncId->Bool
def ev(E:Df)(fr:Fr):Bf->Ae
 | .t n=>Au fr n
 | .c v=>v
 | .g n=>match E.G n with|some (m,c)=> .vptr m c|none=> .und
def ZT(E:Df)(fr:Fr):List Bf->Ae
 |[]=> .nil
 |x::l=> .cons (ev E fr x) (ZT E fr l)
def Jb(E:Df)(fr:Fr):Ae->List (Nat×Nat×Bf)->Ae
 |z,[]=>z
 |z,(off,_,x)::l=>Jb E fr (Da z off (cellsOf (ev E fr x))) l
def GV(E:Df)(fr:Fr)(len:Nat):List (Nat×Nat×Bf)->Prop
 |[]=>True
 |(off,n,x)::l=>Bg n (ev E fr x)/\off+n<=len/\GV E fr len l
def It(E:Df)(fr:Fr):Ae->List (Nat×Bf)->Ae
 |z,[]=>z
 |z,(i,x)::l=>It E fr (GR z i (cellsOf (ev E fr x))) l
def Fq(E:Df)(fr:Fr)(k len:Nat):List (Nat×Bf)->Prop
 |[]=>True
 |(i,x)::l=>Bg k (ev E fr x)/\A2 (ev E fr x)=true/\C0 (cellsOf (ev E fr x))=true/\i<len/\Fq E fr k len l
def EU(E:Df)(fr:Fr)(k len:Nat):List (Nat×Bf)->Prop
 |[]=>True
 |(i,x)::l=>Bg k (ev E fr x)/\C0 (cellsOf (ev E fr x))=true/\i<len/\EU E fr k len l
def Mf:Ae->Bool
 | .cons .nils _=>true
 | .cons _ t=>Mf t
 |_=>false
def M8(z:Ae):Nat->Ae
 |0=> .nil
 |n+1=> .cons z (M8 z n)
def F8:Ae->Nat->Nat->Ae
 |l,off,n=>JQ (fun j=>Az l (off+j)) 0 n
def DT:List Sh->Ae->Ae->Bool
 | .int _::s,.cons a l,.cons b m=>a.toInt==b.toInt&&DT s l m
 | .bool::s,.cons a l,.cons b m=>a.toBool==b.toBool&&DT s l m
 |_,_,_=>true
def Ih:List Sh->Ae->Prop
 |[],.nil=>True
 | .int k::s,.cons a l=>Ev (.int k) a/\Ih s l
 | .bool::s,.cons a l=>Ev .bool a/\Ih s l
 |_,_=>False
def LU(op:BinOp)(k:IntKind)(a b:Int):AR:=
 match op with
 | .add=>Gx (.int k (k.wrap (a+b)))
 | .sub=>Gx (.int k (k.wrap (a-b)))
 | .mul=>Gx (.int k (k.wrap (a*b)))
 | .quo=>⟨b≠0,.int k (k.wrap (a.tdiv b)),none⟩
 | .rem=>⟨b≠0,.int k (a.tmod b),none⟩
 | .eql=>Gx (.bool (a==b))
 | .neq=>Gx (.bool (a !=b))
 | .lss=>Gx (.bool (decide (a<b)))
 | .leq=>Gx (.bool (decide (a<=b)))
 | .gtr=>Gx (.bool (decide (a>b)))
 | .geq=>Gx (.bool (decide (a≥b)))
 | .and=>Gx (.int k (bits .and k a b))
 | .or=>Gx (.int k (bits .or k a b))
 | .xor=>Gx (.int k (bits .xor k a b))
 | .shl=>⟨0<=b/\b<=k.bits,.int k (k.wrap (a*2^b.toNat)),none⟩
 | .shr=>⟨0<=b/\b<=k.bits,.int k (a/2^b.toNat),none⟩
 |_=>bad
def BZ(E:Df)(fr:Fr)(d:Int):Option Bf->Option Int
 |none=>some d
 |some x=>match ev E fr x with| .int _ z=>some z|_=>none
def SF(bx:Bx):Ae->AR
 | .view _ n _=>Gx (.int .i64 n)
 | .nils=>Gx (.int .i64 0)
 | .own b=>match Ab bx b with|some (.row _ _ n _)|some (.rown _ _ n _)=>Gx (.int .i64 n)|_=>bad
 | .osl _ _ n=>Gx (.int .i64 n)
 | .tv _ n _=>Gx (.int .i64 n)
 |_=>bad
def AQ(E:Df)(fr:Fr):List (List Sh×Bf)->List Ae
 |[]=>[]
 |(_,x)::l=>ev E fr x::AQ E fr l
def BJ:Ae->List Ae
 | .cons h t=>h::BJ t
 |_=>[]
def Cg(bx:Bx):List Ae->List Ae
 |[]=>[]
 |v::l=>Aw bx 40 v::Cg bx l
noncomputable def BG(bx:Bx):List Ae->Bool
 |[]=>true
 |v::l=>Ao bx 40 v&&BG bx l
def CW:List (List Sh×Bf)->List Ae->List Ae
 |(s,_)::a,v::l=>Tz s v::CW a l
 |_,l=>l
def Ek:List Ae->Bool
 |[]=>true
 |v::l=>A2 v&&Ek l
noncomputable def Cp(bx:Bx)(s:At)(args:List (List Sh×Bf))(vs:List Ae):AR:=
 match Ek vs with
 |true=>⟨s.pre (CW args vs),s.res (CW args vs),none⟩
 |false=>⟨BG bx vs=true/\s.pre (CW args (Cg bx vs))/\S0 s.own (s.res (CW args (Cg bx vs)))=true,s.res (CW args (Cg bx vs)),none⟩
def Qk(ok has:Bool)(v z:Ae):Ae:=match ok with
 |true=> .tup (.cons (EA has v z) (.cons (.bool has) .nil))
 |false=>EA has v z
noncomputable def KE(n:Nat)(f:Nat->Int)(m:Nat)(g:Nat->Int):Bool:= @decide (n=m/\∀i,i<n->f i=g i) (Classical.propDecidable _)
noncomputable def AG(E:Df)(fr:Fr)(bx:Bx)(nx:Nat):JE->AR
 | .mv x=>Gx (ev E fr x)
 | .pick c a b=>match ev E fr c with| .bool t=>Gx (EA t (ev E fr a) (ev E fr b))|_=>bad
 | .alloc z=>⟨By z=true,.ptr nx 0,some (.cells z)⟩
 | .box n x=>⟨Bg n (ev E fr x),.ptr nx 0,some (.cells (cellsOf (ev E fr x)))⟩
 | .build z parts=>⟨By z=true/\GV E fr (Bb z) parts,.agg (Jb E fr z parts),none⟩
 | .bsl e k len z parts=>match E.N e with
  |true=>⟨By z=true/\A2 z=true/\C0 z=true/\Bb z=k/\0<k/\EU E fr k len parts/\Mf z=true,.own nx,some (.rown e k len fun i j=>Az (Az (It E fr (M8 z len) parts) i) j)⟩
  |false=>⟨By z=true/\A2 z=true/\C0 z=true/\Bb z=k/\0<k/\Fq E fr k len parts,.own nx,some (.row e k len fun i j=>Az (Az (It E fr (M8 z len) parts) i) j)⟩
 | .load agg shs x=>match ev E fr x with
  | .ptr b off=>match Ab bx b with
   |some (.cells l)=>⟨off+shs.length<=Bb l,WS agg (F8 l off shs.length),none⟩
   |_=>bad
  | .vptr m c=>⟨shs.length<=m/\Hx shs c 0,WS agg (Jv shs c 0),none⟩
  | .rptr b i off=>match Ab bx b with
   |some (.row _ k _ c)=>⟨off+shs.length<=k/\Hx shs (fun j=>c i (off+j)) 0,WS agg (Jv shs (fun j=>c i (off+j)) 0),none⟩
   |some (.rown _ k _ c)=>⟨off+shs.length<=k,WS agg (JQ (fun j=>c i (off+j)) 0 shs.length),none⟩
   |_=>bad
  |_=>bad
 | .bin op x y=>match ev E fr x,ev E fr y with
  | .int k a,.int k' b=>match LU op k a b with|⟨p,v,n⟩=>⟨(match op with| .shl=>True| .shr=>True|_=>k=k')/\p,v,n⟩
  |_,_=>bad
 | .binb neg x y=>match ev E fr x,ev E fr y with
  | .bool a,.bool b=>Gx (.bool (match neg with|true=>a !=b|false=>a==b))
  |_,_=>bad
 | .eqa neg shs x y=>match ev E fr x,ev E fr y with
  | .agg l,.agg m=>⟨Ih shs l/\Ih shs m,.bool (match neg with|true=> !DT shs l m|false=>DT shs l m),none⟩
  |_,_=>bad
 | .un op x=>match op,ev E fr x with
  | .neg,.int k a=>Gx (.int k (k.wrap (0-a)))
  | .not,.bool b=>Gx (.bool !b)
  |_,_=>bad
 | .conv k x=>match ev E fr x with| .int _ n=>Gx (.int k (k.wrap n))|_=>bad
 | .mkf fn caps=>Gx (.func fn (ZT E fr caps))
 | .fld off x=>match ev E fr x with
  | .ptr b o=>Gx (.ptr b (o+off))
  | .vptr m c=>Gx (.vptr (m-off) fun j=>c (off+j))
  | .rptr b i o=>Gx (.rptr b i (o+off))
  |_=>bad
 | .idx k x i=>match ev E fr x,ev E fr i with
  | .view k' n c,.int _ z=>⟨k=k'/\0<=z/\z<n,.vptr k (c z.toNat),none⟩
  | .own b,.int _ z=>match Ab bx b with
   |some (.row _ k' n _)|some (.rown _ k' n _)=>⟨k=k'/\0<=z/\z<n,.rptr b z.toNat 0,none⟩
   |_=>bad
  | .osl b off m,.int _ z=>match Ab bx b with
   |some (.row _ k' _ _)|some (.rown _ k' _ _)=>⟨k=k'/\0<=z/\z<m,.rptr b (off+z.toNat) 0,none⟩
   |_=>bad
  |_,_=>bad
 | .idxA k len x i=>match ev E fr x,ev E fr i with
  | .ptr b o,.int _ z=>⟨0<=z/\z<len,.ptr b (o+z.toNat*k),none⟩
  | .vptr m c,.int _ z=>⟨0<=z/\z<len,.vptr (m-z.toNat*k) fun j=>c (z.toNat*k+j),none⟩
  | .rptr b i' o,.int _ z=>⟨0<=z/\z<len,.rptr b i' (o+z.toNat*k),none⟩
  |_,_=>bad
 | .sl k x lo hi=>match ev E fr x with
  | .view k' n c=>match BZ E fr 0 lo,BZ E fr n hi with
   |some l,some h=>⟨k=k'/\0<=l/\l<=h/\h<=n,.view k (h-l).toNat fun i=>c (l.toNat+i),none⟩
   |_,_=>bad
  | .own b=>match Ab bx b with
   |some (.row _ k' n _)|some (.rown _ k' n _)=>match BZ E fr 0 lo,BZ E fr n hi with
    |some l,some h=>⟨k=k'/\0<=l/\l<=h/\h<=n,.osl b l.toNat (h-l).toNat,none⟩
    |_,_=>bad
   |_=>bad
  | .osl b off n=>match Ab bx b with
   |some (.row _ k' _ _)|some (.rown _ k' _ _)=>match BZ E fr 0 lo,BZ E fr n hi with
    |some l,some h=>⟨k=k'/\0<=l/\l<=h/\h<=n,.osl b (off+l.toNat) (h-l).toNat,none⟩
    |_,_=>bad
   |_=>bad
  |_=>bad
 | .clip k x hi mx=>match ev E fr x,ev E fr hi,ev E fr mx with
  | .view k' n c,.int _ h,.int _ m=>⟨k=k'/\h=m/\0<=h/\h<=n,.tv k h.toNat c,none⟩
  | .nils,.int _ h,.int _ m=>⟨h=0/\m=0,.nils,none⟩
  |_,_,_=>bad
 | .mif T x=>match ev E fr x with| .int k n=>Gx (.ifc T k n)|_=>bad
 | .ext i x=>match ev E fr x with| .tup l=>⟨i<Bb l,Az l i,none⟩|_=>bad
 | .call f args=>match ev E fr f with
  | .func (.func id) caps=>match E.S id with
   |some s=>match Cp bx s args (AQ E fr args++BJ caps)with|⟨p,v,n⟩=>⟨By caps=true/\p,v,n⟩
   |none=>bad
  |_=>bad
 | .len x=>SF bx (ev E fr x)
 | .mm mx x y=>match ev E fr x,ev E fr y with
  | .int k a,.int k' b=>⟨k=k',.int k (match mx with|true=>max a b|false=>min a b),none⟩
  |_,_=>bad
 | .nilc x=>match ev E fr x with
  | .ptr b o=>Gx (.ptr b o)
  | .vptr m c=>Gx (.vptr m c)
  | .rptr b i o=>Gx (.rptr b i o)
  |_=>bad
 | .mks e k bytes z n c=>match ev E fr n,ev E fr c with
  | .int _ a,.int _ b=>⟨By z=true/\A2 z=true/\C0 z=true/\Bb z=k/\0<k/\a=b/\0<=a/\a<=4611686018427387904/\a*bytes<=140737488355328,.own nx,some (.row e k a.toNat fun _ j=>Az z j)⟩
  |_,_=>bad
 | .mkm kd=>⟨True,.mapb nx,some (.mp kd (fun _=>false) fun _=> .und)⟩
 | .mget kd ok z x k=>match ev E fr x,ev E fr k with
  | .mview kd' has f,.int kk n=>⟨kd'=kd/\kk=kd,Qk ok (has n) (f n) z,none⟩
  | .mapb b,.int kk n=>match Ab bx b with
   |some (.mp kd' has f)=>⟨kd'=kd/\kk=kd,Qk ok (has n) (f n) z,none⟩
   |some (.mz kd' f)=>⟨kd'=kd/\kk=kd/\ok=false/\z= .nils,f n,none⟩
   |_=>bad
  |_,_=>bad
 | .fv agg off n x=>match ev E fr x with
  | .agg l=>⟨off+n<=Bb l,WS agg (F8 l off n),none⟩
  |_=>bad
 | .mm3 mx x y z=>match ev E fr x,ev E fr y,ev E fr z with
  | .int k a,.int k' b,.int k'' c=>⟨k=k'/\k=k'',.int k (match mx with|true=>max (max a b) c|false=>min (min a b) c),none⟩
  |_,_,_=>bad
 | .b2s x=>match ev E fr x with
  | .view k n c=>⟨k=1/\∀i,i<n->c i 0= .int .u8 (c i 0).toInt/\0<=(c i 0).toInt/\(c i 0).toInt<=255,.strv n fun i=>(c i 0).toInt,none⟩
  | .nils=>Gx (.strv 0 fun _=>0)
  |_=>bad
 | .seq neg x y=>match ev E fr x,ev E fr y with
  | .strv n f,.strv m g=>Gx (.bool (match neg with|true=> !KE n f m g|false=>KE n f m g))
  |_,_=>bad
 | .mset _ _ _ _=>bad
 | .isnil _ _=>bad
 | .mdel _ _ _=>bad
 | .mlen _ _=>bad
 | .nxt _=>bad
 | .rngm _ _=>bad
 | .ent _=>bad
 | .store _ _ _=>bad
 | .app _ _ _ _ _=>bad
 | .calle _ _=>bad
 | .clr _ _ _=>bad
 | .pan _| .dfr _=>bad
def CV(nx:Nat):Option Cu->Bx->Bx
 |none,bx=>bx
 |some c,bx=>(nx,.one c)::bx
def C6(nx:Nat):Option Cu->Nat
 |none=>nx
 |some _=>nx+1
end Go.Proofs.YtlieoghhkioflaaGreat
/- The engine,part 3: the run of compiled code on abstract states. No condition. -/
namespace Go.Proofs.YtlieoghhkioflaaGreat
open Go Go.RowKit
def FU:Ae->Prop
 | .view _ n _=>n<=maxLen
 | .cons h t=>FU h/\FU t
 | .agg l| .tup l=>FU l
 |_=>True
inductive BU where
 |code (c:Cl)
 |ops (d:Nat) (l:List A1)
 |blk (id:Nat)
 |inv (J:List Fr->Fr->Bx->Prop)
 |lend (b:Bn) (g:Nat)
 |rbeg (b:Bn) (g:Nat)
 |rend (b:Bn) (g:Nat)
 |ctch (b:Bn) (g:Nat) (T:TypeId) (k:IntKind)
structure Av where
 d:Option Nat
 K:List BU
 res:List B5
 fr:Fr
 nx:Nat
def GC(id:Nat):List BU->Option (List BU)
 |[]=>none
 | .rbeg _ _::_=>none
 | .blk i::K=>if i=id then some K else GC id K
 |_::K=>GC id K
def Db:List BU->Option (Bn×Nat)
 |[]=>none
 | .rend b g::_=>some (b,g)
 | .code _::K| .ops _ _::K| .blk _::K| .inv _::K| .lend _ _::K| .rbeg _ _::K| .ctch _ _ _ _::K=>Db K
def Lm:List BU->Bool
 |[]=>false
 | .rbeg _ _::_=>true
 | .code _::K| .ops _ _::K| .blk _::K| .inv _::K| .lend _ _::K| .rend _ _::K| .ctch _ _ _ _::K=>Lm K
def Bh:List BU->Option (Bn×Nat×TypeId×IntKind)
 |[]=>none
 | .ctch b g T k::_=>some (b,g,T,k)
 | .code _::K| .ops _ _::K| .blk _::K| .inv _::K| .lend _ _::K| .rbeg _ _::K| .rend _ _::K=>Bh K
def FA:List BU->Bool
 |[]=>true
 | .code _::K| .ops _ _::K| .blk _::K=>FA K
 |_=>false
def EZ:List BU->Bool
 |[]=>true
 | .code _::K| .ops _ _::K| .blk _::K| .inv _::K| .ctch _ _ _ _::K=>EZ K
 |_=>false
def IN(R:List Av->List B5->Fr->Bx->Nat->Prop)(T:TypeId)(k:IntKind)(z:Int):List Av->Option (Bn×Nat×TypeId×IntKind)->List B5->Fr->Bx->Nat->Prop
 |[],none,_,_,_,_=>False
 |f::s,none,_,_,bx,nx=>EZ f.K=true/\IN R T k z s (Bh f.K) f.res f.fr bx nx
 |s,some (b,g,T',k'),res,fr,bx,nx=>T'=T/\k'=k/\(∃y,Ab bx b=some (.wc g (.int k y)))/\R s res fr (Aj bx b (.wc g (.int k z))) nx
def FE(ks:List Nat)(fr:Fr):Fr:=ks.map fun t=>(t,Au fr t)
def Kr:Fr->List Nat->List Ae->Fr
 |fr,t::ts,v::vs=>Kr ((t,v)::fr) ts vs
 |fr,_,_=>fr
def AB(b:Bn)(r:Ae):List Av->List Av
 |[]=>[]
 |f::l=>{f with fr:=AL b r f.fr}::AB b r l
def Pd:Ae->List Bn
 | .own b=>[b]
 | .cons h t=>Pd h++Pd t
 | .agg l| .tup l| .func _ l=>Pd l
 |_=>[]
def Pa(fr:Fr)(bx:Bx):B5->AR
 | .t n=>Gx (Au fr n)
 | .cell n agg shs=>match Au fr n with
  | .ptr b off=>match Ab bx b with
   |some (.cells l)=>⟨off+shs.length<=Bb l,WS agg (F8 l off shs.length),none⟩
   |some (.wc _ v)=>⟨off=0/\shs.length=1/\agg=false,v,none⟩
   |_=>bad
  |_=>bad
def MV(fr:Fr)(bx:Bx):List B5->Prop×Ae
 |[]=>(True,.nil)
 |r::l=>match Pa fr bx r,MV fr bx l with|⟨p,v,_⟩,(q,t)=>(p/\q,.cons v t)
def Hy(fr:Fr)(bx:Bx):List B5->Prop×Ae
 |[r]=>match Pa fr bx r with|⟨p,v,_⟩=>(p,v)
 |l=>match MV fr bx l with|(p,t)=>(p,.tup t)
def CA(bx:Bx):Ae->Option (Option Nat×Nat×(Nat->Nat->Ae))
 | .view k n c=>some (some k,n,c)
 | .nils=>some (none,0,fun _ _=> .und)
 | .own b=>match Ab bx b with|some (.row _ k n c)=>some (some k,n,c)|_=>none
 | .osl b off n=>match Ab bx b with|some (.row _ k _ c)=>some (some k,n,fun i j=>c (off+i) j)|_=>none
 | .tv k n c=>some (some k,n,c)
 |_=>none
def params:Nat->List Ae->Fr
 |_,[]=>[]
 |t,v::l=>(t,v)::params (t+1) l
def AC:Ae->Ae->Prop
 | .und,_=>True
 | .cons h t,v=>∃h' t',v= .cons h' t'/\AC h h'/\AC t t'
 | .agg l,v=>∃l',v= .agg l'/\AC l l'
 | .tup l,v=>∃l',v= .tup l'/\AC l l'
 | .func fn l,v=>∃l',v= .func fn l'/\AC l l'
 | .view k n c,v=>(v= .nils/\n=0)\/∃c',v= .view k n c'/\∀i,i<n->∀j,j<k->AC (c i j) (c' i j)
 | .vptr m c,v=>∃c',v= .vptr m c'/\∀j,j<m->AC (c j) (c' j)
 | .mview kd has f,v=>∃has' f',v= .mview kd has' f'/\∀k,has' k=has k/\(has k=true->AC (f k) (f' k))
 |u,v=>v=u
def BT(N D:Bn->Prop):Ae->Ae->Prop
 | .und,_=>True
 | .own b,v=>(v= .own b/\D b)\/(v= .nils/\N b)
 | .ptr b off,v=>v= .ptr b off/\D b
 | .rptr b i off,v=>v= .rptr b i off/\D b
 | .mapb b,v=>v= .mapb b/\D b
 | .yld b,v=>v= .yld b/\D b
 | .osl b off n,v=>v= .osl b off n/\D b
 | .cons h t,v=>∃h' t',v= .cons h' t'/\BT N D h h'/\BT N D t t'
 | .agg l,v=>∃l',v= .agg l'/\BT N D l l'
 | .tup l,v=>∃l',v= .tup l'/\BT N D l l'
 | .func fn l,v=>∃l',v= .func fn l'/\BT N D l l'
 | .view k n c,v=>(v= .nils/\n=0)\/∃c',v= .view k n c'/\∀i,i<n->∀j,j<k->AC (c i j) (c' i j)
 | .vptr m c,v=>∃c',v= .vptr m c'/\∀j,j<m->AC (c j) (c' j)
 | .mview kd has f,v=>∃has' f',v= .mview kd has' f'/\∀k,has' k=has k/\(has k=true->AC (f k) (f' k))
 |u,v=>v=u
def D2(N D:Bn->Prop)(fr:Fr):Fr->Prop
 |[]=>True
 |(t,v)::l=>BT N D v (Au fr t)/\D2 N D fr l
def Bv(N D:Bn->Prop):Option Cu->Cu->Prop
 |some (.cells l),.cells l'=>By l'=true/\BT N D l' l
 |some (.row e k n c),.row e' k' n' c'=>e=e'/\k=k'/\n=n'/\∀i,i<n->∀j,j<k->AC (c' i j) (c i j)
 |some (.mp kd has f),.mp kd' has' f'=>kd=kd'/\∀k,has' k=has k/\(has k=true->BT N D (f' k) (f k))
 |some (.lp g fr ps ca cb st),.lp g' fr' ps' ca' cb' st'=>g=g'/\ps=ps'/\ca=ca'/\cb=cb'/\st=st'/\D2 N D fr fr'
 |some (.it mb kd seen last),.it mb' kd' seen' last'=>kd=kd'/\match mb' with
  |none=>True
  |some b=>mb=some b/\D b/\last'=last/\∀k,seen' k=seen k
 |some (.rown e k n c),.rown e' k' n' c'=>e=e'/\k=k'/\n=n'/\∀i,i<n->∀j,j<k->BT N D (c' i j) (c i j)
 |some (.mp kd has f),.mz kd' f'=>kd=kd'/\∀k,BT N D (f' k) (EA (has k) (f k) .nils)
 |some (.mz kd f),.mz kd' f'=>kd=kd'/\∀k,BT N D (f' k) (f k)
 |some (.wc g v),.wc g' v'=>g=g'/\BT N D v' v
 |none,.row _ k n _|none,.rown _ k n _=>n=0/\0<k
 |_,_=>False
def YE(N D:Bn->Prop)(bx:Bx)(b:Nat)(d:Int->Bool)(r:Int->Cu):Prop:=∀z,d z=true->Bv N D (Ab bx (.f b z)) (r z)
def Nj(N D:Bn->Prop)(bx:Bx):Bx->Prop
 |[]=>True
 |(b,.one c)::l=>Bv N D (Ab bx (.n b)) c/\Nj N D bx l
 |(b,.fam d r)::l=>YE N D bx b d r/\Nj N D bx l
def Fe(bx:Bx)(b:Bn):Prop:=∃c,Ab bx b=some c
def BP(bx bx':Bx)(b:Bn):Prop:=Ab bx b=none/\∃c,Ab bx' b=some c
def PU(nx:Nat):Bx->Prop
 |[]=>True
 |(b,_)::l=>b<nx/\PU nx l
def Tk(nx:Nat)(bx':Bx):Bx->Prop
 |[]=>True
 |(b,.one _)::l=>(b<nx->∃c,Ab bx' (.n b)=some c)/\Tk nx bx' l
 |(b,.fam d _)::l=>(b<nx->∀z,d z=true->∃c,Ab bx' (.f b z)=some c)/\Tk nx bx' l
def Zm(fr:Fr)(bx:Bx)(fr':Fr)(bx':Bx)(nx nx':Nat):Prop:=
 D2 (BP bx bx') (Fe bx') fr fr'/\Nj (BP bx bx') (Fe bx') bx bx'/\PU nx' bx'/\Tk nx bx' bx
def EB:List Av->List Fr
 |[]=>[]
 |f::l=>f.fr::EB l
def J9(b:Bn):Cu->Prop
 | .it (some mb) _ _ _=>mb≠b
 |_=>True
def noIt(b:Bn):Bx->Prop
 |[]=>True
 |(_,.one c)::l=>J9 b c/\noIt b l
 |(_,.fam d r)::l=>(∀z,d z=true->J9 b (r z))/\noIt b l
def F4:Nat->List Ae->Option (List Ae×Bn×List Ae)
 |0,.own b::l=>some ([],b,l)
 |z+1,v::l=>match F4 z l with|some (p,b,q)=>some (v::p,b,q)|none=>none
 |_,_=>none
noncomputable def Fz(bx:Bx)(s:At)(pz:Nat)(args:List (List Sh×Bf))(vs:List Ae)(caps:Ae)(R RI:Bn->TypeId->Nat->Nat->(Nat->Nat->Ae)->Prop):Prop:=
 match caps,F4 pz vs with
 | .nil,some (p,b,q)=>match Ab bx b with
  |some (.row e0 k n c)=>BG (BN bx b) (p++q)=true/\s.pre (CW args (Cg (BN bx b) p++ .view k n c::Cg (BN bx b) q))/\match s.own,s.res (CW args (Cg (BN bx b) p++ .view k n c::Cg (BN bx b) q))with
   |some e,.view k' m c'=>e0=e/\R b e k' m c'
   |none,.view k' m c'=>Ek (p++q)=true/\k'=k/\m=n/\RI b e0 k n c'
   |_,_=>False
  |_=>False
 |_,_=>False
variable(E:Df)(Q:Ae->Bx->Prop)
def frz:List Bn->Fr×Bx×List Av->Option (Fr×Bx×List Av)
 |[],s=>some s
 |b::l,(fr,bx,stk)=>match Ab bx b with
  |some (.row _ k n c)=>frz l (AL b (.view k n c) fr,AJ b (.view k n c) (BN bx b),AB b (.view k n c) stk)
  |some (.cells c)=>match A2 c with
   |true=>frz l (AL b (.vptr (Bb c) (Az c)) fr,AJ b (.vptr (Bb c) (Az c)) (BN bx b),AB b (.vptr (Bb c) (Az c)) stk)
   |false=>none
  |none=>frz l (fr,bx,stk)
  |_=>none
def GI(bx:Bx):Nat->Ae->List Bn
 |0,_=>[]
 |_+1,.own b=>[b]
 |d+1,.ptr b _=>(match Ab bx b with|some (.cells l)=>GI bx d l|_=>[])++[b]
 |d+1,.cons h t=>GI bx (d+1) h++GI bx (d+1) t
 |d+1,.agg l=>GI bx (d+1) l
 |d+1,.tup l=>GI bx (d+1) l
 |d+1,.func _ l=>GI bx (d+1) l
 |_,_=>[]
def Pf(bx:Bx)(d:Nat):List Ae->List Bn
 |[]=>[]
 |v::l=>GI bx d v++Pf bx d l
def MM:List Ae->List Bn
 |[]=>[]
 |v::l=>Pd v++MM l
noncomputable def O2(bx:Bx)(s:At)(args:List (List Sh×Bf))(vs:List Ae):Bool:=match Ek vs with
 |true=>false
 |false=> !S0 s.own (s.res (CW args (Cg bx vs)))
noncomputable def NV(fr:Fr)(bx:Bx):JE->List Bn
 | .bsl e _ _ _ parts=>match E.N e with
  |true=>[]
  |false=>parts.flatMap fun p=>Pd (ev E fr p.2)
 | .store _ a x=>match ev E fr a with
  | .rptr _ _ _=>Pd (ev E fr x)
  |_=>[]
 | .call f args=>match ev E fr f with
  | .func (.func id) caps=>match E.S id with
   |some s=>match O2 bx s args (AQ E fr args++BJ caps)with
    |true=>MM (AQ E fr args)
    |false=>[]
   |none=>match E.Z id with
    |true=>MM (AQ E fr args)
    |false=>[]
  |_=>[]
 | .calle f args=>match ev E fr f with
  | .func (.func id) caps=>match E.S id with
   |some s=>match O2 bx s args (AQ E fr args++BJ caps)with
    |true=>MM (AQ E fr args)
    |false=>[]
   |none=>match E.X id with
    |some (pz,s)=>match s.own with
     |none=>match F4 pz (AQ E fr args)with
      |some (p,_,q)=>Pf bx 3 (p++q)
      |none=>[]
     |some _=>[]
    |none=>[]
  |_=>[]
 |_=>[]
noncomputable def FK(fr:Fr)(bx:Bx)(stk:List Av):Nat->JE->Option (Fr×Bx×List Av)
 |0,op=>frz (NV E fr bx op) (fr,bx,stk)
 |_+1,_=>some (fr,bx,stk)
def A9(fr:Fr):Option (Nat×Bool)->Option Bool
 |none=>some false
 |some (t,w)=>match Au fr t with| .bool b=>some (b !=w)| .tup .nil=>some true|_=>none
def EH:List Av->List Nat
 |[]=>[]
 |f::l=>f.nx::EH l
def Gz(b y:Bn):Ae->Ae
 | .own b'=> .own (if b'=b then y else b')
 | .ptr b' o=> .ptr (if b'=b then y else b') o
 | .rptr b' i o=> .rptr (if b'=b then y else b') i o
 | .mapb b'=> .mapb (if b'=b then y else b')
 | .yld b'=> .yld (if b'=b then y else b')
 | .osl b' o n=> .osl (if b'=b then y else b') o n
 | .cons h t=> .cons (Gz b y h) (Gz b y t)
 | .agg l=> .agg (Gz b y l)
 | .tup l=> .tup (Gz b y l)
 | .func fn l=> .func fn (Gz b y l)
 |v=>v
def GH(b y:Bn):Fr->Fr
 |[]=>[]
 |(t,v)::l=>(t,Gz b y v)::GH b y l
def Cy(b y:Bn):Cu->Cu
 | .cells l=> .cells (Gz b y l)
 | .mp kd has f=> .mp kd has fun k=>Gz b y (f k)
 | .mz kd f=> .mz kd fun k=>Gz b y (f k)
 | .rown e k n c=> .rown e k n fun i j=>Gz b y (c i j)
 | .lp g fr ps ca cb st=> .lp g (GH b y fr) ps ca cb st
 | .it mb kd seen last=> .it (mb.map fun b'=>if b'=b then y else b') kd seen last
 | .row e k n c=> .row e k n c
 | .wc g v=> .wc g (Gz b y v)
def FG(b y:Bn):Bx->Bx
 |[]=>[]
 |(t,.one c)::m=>(t,.one (Cy b y c))::FG b y m
 |(t,.fam d q)::m=>(t,.fam d fun z=>Cy b y (q z))::FG b y m
def rens:List (Bn×Bn)->Fr×Bx->Option (Fr×Bx)
 |[],s=>some s
 |(b,y)::l,(fr,bx)=>match Ab bx b,Ab bx y with
  |some c,none=>rens l (GH b y fr,Aj (FG b y (BN bx b)) y (Cy b y c))
  |_,_=>none
def NW(ns:List Nat)(fr:Fr)(bx:Bx)(fr':Fr)(bx':Bx)(nx nx':Nat):Prop:=
 ∃l la,(∀b∈l,∀n∈ns,n<=b.id)/\(∀p∈la,∀n∈ns,n<=p.1.id)/\∃fr2 bx2,frz l (fr,bx,[])=some (fr2,bx2,[])/\∃fr3 bx3,rens la (fr2,bx2)=some (fr3,bx3)/\Zm fr3 bx3 fr' bx' nx nx'
def ET:Option (Bn×Bn)->Fr×Bx->Fr×Bx
 |none,s=>s
 |some (b,y),(fr,bx)=>match Ab bx b with
  |some c=>(GH b y fr,Aj (FG b y (BN bx b)) y (Cy b y c))
  |none=>(fr,bx)
def Abn(bx0 bx1:Bx):Option (Bn×Bn)->Prop
 |none=>True
 |some (b,y)=>Ab bx0 b=none/\Ab bx0 y=none/\(∃c,Ab bx1 b=some c)/\Ab bx1 y=none
def L8(bx0:Bx)(nx0:Nat)(fr1:Fr)(bx1:Bx)(fr':Fr)(bx':Bx)(nx':Nat):Prop:=
 ∃ren:Option (Bn×Bn),Abn bx0 bx1 ren/\nx0<=nx'/\
  D2 (BP (ET ren (fr1,bx1)).2 bx') (Fe bx') (ET ren (fr1,bx1)).1 fr'/\
  (∀b c',Ab bx' b=some c'->(Ab bx0 b=some c'/\Ab bx1 b=some c')\/Bv (BP (ET ren (fr1,bx1)).2 bx') (Fe bx') (Ab (ET ren (fr1,bx1)).2 b) c')/\
  (∀b c',Ab bx' b=some c'->(∃c,Ab bx0 b=some c)\/b.id<nx')/\
  ∀b c0 c1,Ab bx0 b=some c0->Ab bx1 b=some c1->∃c',Ab bx' b=some c'/\CP c1 c'
def GS(ns:List Nat)(bx0:Bx)(fr1:Fr)(bx1:Bx)(fr':Fr)(bx':Bx)(nx nx':Nat):Prop:=
 NW ns fr1 bx1 fr' bx' nx nx'\/L8 bx0 nx fr1 bx1 fr' bx' nx'
def FJ(R:List BU->List Av->List B5->Fr->Bx->Nat->Prop)(c:Cl)(K:List BU)(stk:List Av)(res:List B5)(fr:Fr)(bx:Bx)(nx:Nat):Prop:=
  ∃d:Nat,∃T:Nat->Fr->Bx->Prop,(∃m fr' bx',T m fr' bx'/\GS (EH stk) bx fr bx fr' bx' nx (nx+d))/\
   ∀m fr' bx',T m fr' bx'->R (.code c:: .inv (fun s fr1 bx1=>s=EB stk/\∃m',m'<m/\∃fr'' bx'',T m' fr'' bx''/\GS (EH stk) bx fr1 bx1 fr'' bx'' nx (nx+d))::K) stk res fr' bx' (nx+d)
def WH(fr:Fr):Option Nat->Ae->Prop
 |none,_=>True
 |some t,v=>v=Au fr t
noncomputable def Cz(fr:Fr)(bx:Bx):List (Option Nat×JE×Option (Nat×Bool))->Prop
 |[]=>True
 |(d,op,g)::l=>(match A9 fr g with
  |some true=>True
  |some false=>(AG E fr bx 0 op).pre/\WH fr d (AG E fr bx 0 op).v
  |none=>False)/\Cz fr bx l
def Eo(R:List BU->List Av->List B5->Fr->Bx->Nat->Prop)(b:Bn)(g:Nat)(st:Xg)(v:Bool)(stk:List Av)(bx:Bx)(nx:Nat):Prop:=match Ab bx b with
 |some (.lp g' fr ps ca cb .busy)=>g'=g/\match stk with
  |[]=>False
  |f::stk=>R f.K stk f.res (Ai f.fr f.d (.bool v)) (Aj bx b (.lp g fr ps ca cb st)) nx
 |_=>False
def HH(bx:Bx):Option (Bn×Nat)->Prop
 |none=>True
 |some (b,g)=>match Ab bx b with
  |some (.lp g' _ _ _ _ _)=>g'=g
  |_=>False
noncomputable def run:Nat->List BU->List Av->List B5->Fr->Bx->Nat->Prop
 |0,_,_,_,_,_,_=>False
 |n+1,[],stk,res,fr,bx,nx=>match Hy fr bx res with
  |(p,v)=>p/\match stk with
   |[]=>Q v bx
   |f::stk=>run n f.K stk f.res (Ai f.fr f.d v) bx nx
 |n+1,.code .ret::K,stk,res,fr,bx,nx=>match Db K with
  |some (b,g)=>Lm K=false/\Eo (run n) b g (.done .ret) false stk bx nx
  |none=>match Hy fr bx res with
  |(p,v)=>p/\match stk with
   |[]=>Q v bx
   |f::stk=>run n f.K stk f.res (Ai f.fr f.d v) bx nx
 |n+1,.code .skip::K,stk,res,fr,bx,nx=>run n K stk res fr bx nx
 |n+1,.code (.seq a b)::K,stk,res,fr,bx,nx=>run n (.code a:: .code b::K) stk res fr bx nx
 |n+1,.code (.block id a)::K,stk,res,fr,bx,nx=>run n (.code a:: .blk id::K) stk res fr bx nx
 |n+1,.code (.scope a)::K,stk,res,fr,bx,nx=>run n (.code a::K) stk res fr bx nx
 |n+1,.blk _::K,stk,res,fr,bx,nx=>run n K stk res fr bx nx
 |n+1,.code (.exit id)::K,stk,res,fr,bx,nx=>match GC id K with
  |some K'=>run n K' stk res fr bx nx
  |none=>match Db K with
   |some (b,g)=>Lm K=false/\Eo (run n) b g (.done (.exit id)) false stk bx nx
   |none=>False
 |n+1,.code (.rng f ps ks ca cb)::K,stk,res,fr,bx,nx=>HH bx (Db K)/\match ev E fr f with
  | .func (.func id) caps=>match E.I id with
   |some af=>By caps=true/\∀g:Nat,run n [.code af.code] (⟨none,.lend nx g::K,res,fr,nx+1⟩::stk) af.res (params 0 (.yld nx::BJ caps)) ((nx,.one (.lp g (FE ks fr) ps ca cb .ready))::bx) (nx+1)
   |none=>False
  |_=>False
 |n+1,.lend b g::K,stk,res,fr,bx,nx=>match Ab bx b with
  |some (.lp g' _ _ _ _ st)=>g'=g/\match st with
   | .ready=>run n K (AB b .und stk) res (AL b .und fr) (AJ b .und (BN bx b)) nx
   | .busy=>False
   | .over=>False
   | .done c=>run n (.code c.acode::K) (AB b .und stk) res (AL b .und fr) (AJ b .und (BN bx b)) nx
  |_=>False
 |n+1,.rbeg b g::K,stk,res,fr,bx,nx=>match Ab bx b with
  |some (.lp g' fr' ps ca cb .ready)=>g'=g/\run n K stk res fr (Aj bx b (.lp g fr' ps ca cb .busy)) nx
  |_=>False
 |n+1,.rend b g::_,stk,_,_,bx,nx=>Eo (run n) b g .ready true stk bx nx
 |n+1,.code (.cond c a b)::K,stk,res,fr,bx,nx=>match ev E fr c with
  | .bool t=>(t=true->run n (.code a::K) stk res fr bx nx)/\(t=false->run n (.code b::K) stk res fr bx nx)
  |_=>False
 |n+1,.code (.loop c)::K,stk,res,fr,bx,nx=>
  FJ (run n) c K stk res fr bx nx
 |_+1,.inv J::_,stk,_,fr,bx,_=>J (EB stk) fr bx
 |n+1,.code (.reg d l)::K,stk,res,fr,bx,nx=>run n (.ops d l::K) stk res fr bx nx
 |n+1,.ops _ []::K,stk,res,fr,bx,nx=>run n K stk res fr bx nx
 |n+1,.ops d (o::l)::K,stk,res,fr,bx,nx=>match A9 fr o.guard with
  |none=>False
  |some true=>run n (.ops (d-1) l::K) stk res (Ai fr o.dst (.tup .nil)) bx nx
  |some false=>match FK E fr bx stk d o.op with
  |none=>False
  |some (fr,bx,stk)=>match d,o.op with
   |d,.store m a x=>match ev E fr a with
    | .ptr b off=>match Ab bx b with
     |some (.cells c)=>Bg m (ev E fr x)/\C0 (cellsOf (ev E fr x))=true/\off+m<=Bb c/\Cz E (Ai fr o.dst .und) (Aj bx b (.cells (Da c off (cellsOf (ev E fr x))))) o.re/\run n (.ops (d-1) l::K) stk res (Ai fr o.dst .und) (Aj bx b (.cells (Da c off (cellsOf (ev E fr x))))) nx
     |some (.wc g _)=>match d with
      |0=>off=0/\m=1/\match ev E fr x with
       | .int k z=>Cz E (Ai fr o.dst .und) (Aj bx b (.wc g (.int k z))) o.re/\run n (.ops 0 l::K) stk res (Ai fr o.dst .und) (Aj bx b (.wc g (.int k z))) nx
       |_=>False
      |_+1=>False
     |_=>False
    | .rptr b i off=>match Ab bx b with
     |some (.row e k m' c)=>Bg m (ev E fr x)/\C0 (cellsOf (ev E fr x))=true/\A2 (ev E fr x)=true/\off+m<=k/\
       Cz E (Ai fr o.dst .und) (Aj bx b (.row e k m' fun i' j'=>if i'=i/\off<=j'/\j'<off+m then Az (cellsOf (ev E fr x)) (j'-off)else c i' j')) o.re/\
       run n (.ops (d-1) l::K) stk res (Ai fr o.dst .und) (Aj bx b (.row e k m' fun i' j'=>if i'=i/\off<=j'/\j'<off+m then Az (cellsOf (ev E fr x)) (j'-off)else c i' j')) nx
     |_=>False
    |_=>False
   |d,.app e k bytes x y=>match E.N e with
    |true=>match ev E fr y with
     | .own b'=>match Ab bx b' with
      |some (.rown _ k' m c')=>k'=k/\match ev E fr x with
       | .own b=>match Ab bx b with
        |some (.rown e' k'' n' c)=>e'=e/\k''=k/\n'+m<=maxLen/\(n'+m)*bytes<=140737488355328/\
          Cz E (Ai (AL b .und fr) o.dst (.own b)) (Aj (AJ b .und bx) b (.rown e k (n'+m) fun i j=>Bc b .und (if i<n' then c i j else c' (i-n') j))) o.re/\
          run n (.ops (d-1) l::K) (AB b .und stk) res (Ai (AL b .und fr) o.dst (.own b)) (Aj (AJ b .und bx) b (.rown e k (n'+m) fun i j=>Bc b .und (if i<n' then c i j else c' (i-n') j))) nx
        |_=>False
       |_=>False
      |_=>False
     |_=>False
    |false=>match CA bx (ev E fr y)with
    |none=>False
    |some (k',m,c')=>(k'=some k\/k'=none)/\0<k/\match ev E fr x with
     | .nils=>m<=maxLen/\m*bytes<=140737488355328/\Cz E (Ai fr o.dst (.own nx)) ((nx,.one (.row e k m c'))::bx) o.re/\run n (.ops (d-1) l::K) stk res (Ai fr o.dst (.own nx)) ((nx,.one (.row e k m c'))::bx) (nx+1)
     | .own b=>match Ab bx b with
      |some (.row e' k'' n' c)=>e'=e/\k''=k/\n'+m<=maxLen/\(n'+m)*bytes<=140737488355328/\
        Cz E (Ai (AL b .und fr) o.dst (.own b)) (Aj (AJ b .und bx) b (.row e k (n'+m) fun i j=>if i<n' then c i j else c' (i-n') j)) o.re/\
        run n (.ops (d-1) l::K) (AB b .und stk) res (Ai (AL b .und fr) o.dst (.own b)) (Aj (AJ b .und bx) b (.row e k (n'+m) fun i j=>if i<n' then c i j else c' (i-n') j)) nx
      |_=>False
     | .tv k'' n' c=>k''=k/\0<m/\n'+m<=maxLen/\(n'+m)*bytes<=140737488355328/\Cz E (Ai fr o.dst (.own nx)) ((nx,.one (.row e k (n'+m) fun i j=>if i<n' then c i j else c' (i-n') j))::bx) o.re/\
       run n (.ops (d-1) l::K) stk res (Ai fr o.dst (.own nx)) ((nx,.one (.row e k (n'+m) fun i j=>if i<n' then c i j else c' (i-n') j))::bx) (nx+1)
     |_=>False
   |d,.mset kd m k v=>match ev E fr m,ev E fr k with
    | .mapb b,.int kk z=>match Ab bx b with
     |some (.mp kd' has f)=>kd'=kd/\kk=kd/\noIt b bx/\
       Cz E (Ai fr o.dst .und) (Aj bx b (.mp kd (fun j=>if j=z then true else has j) fun j=>if j=z then ev E fr v else f j)) o.re/\
       run n (.ops (d-1) l::K) stk res (Ai fr o.dst .und) (Aj bx b (.mp kd (fun j=>if j=z then true else has j) fun j=>if j=z then ev E fr v else f j)) nx
     |some (.mz kd' f)=>kd'=kd/\kk=kd/\noIt b bx/\
       Cz E (Ai fr o.dst .und) (Aj bx b (.mz kd fun j=>if j=z then ev E fr v else f j)) o.re/\
       run n (.ops (d-1) l::K) stk res (Ai fr o.dst .und) (Aj bx b (.mz kd fun j=>if j=z then ev E fr v else f j)) nx
     |_=>False
    |_,_=>False
   |0,.isnil neg x=>match ev E fr x with
    | .nils=>run n (.ops 0 l::K) stk res (Ai fr o.dst (.bool (!neg))) bx nx
    | .view _ m _=>∀t:Bool,(0<m->t=false)->run n (.ops 0 l::K) stk res (Ai fr o.dst (.bool (t !=neg))) bx nx
    | .own b=>match Ab bx b with
     |some (.row _ _ m _)|some (.rown _ _ m _)=>∀t:Bool,(0<m->t=false)->run n (.ops 0 l::K) stk res (Ai fr o.dst (.bool (t !=neg))) bx nx
     |_=>False
    |_=>False
   |0,.clr k z x=>By z=true/\A2 z=true/\C0 z=true/\Bb z=k/\match ev E fr x with
    | .nils=>run n (.ops 0 l::K) stk res (Ai fr o.dst .und) bx nx
    | .own b=>match Ab bx b with
     |some (.row e k' m c)=>k'=k/\run n (.ops 0 l::K) stk res (Ai fr o.dst .und) (Aj bx b (.row e k m fun i j=>if 0<=i/\i<0+m then Az z j else c i j)) nx
     |_=>False
    | .osl b off n'=>match Ab bx b with
     |some (.row e k' m c)=>k'=k/\run n (.ops 0 l::K) stk res (Ai fr o.dst .und) (Aj bx b (.row e k m fun i j=>if off<=i/\i<off+n' then Az z j else c i j)) nx
     |_=>False
    |_=>False
   |0,.pan x=>EZ K=true/\match ev E fr x with
    | .ifc T k z=>IN (run n []) T k z stk (Bh K) res fr bx nx
    |_=>False
   |0,.dfr x=>FA K=true/\match ev E fr x with
    | .func (.func id) (.cons (.ptr b 0) .nil)=>match E.C id,Ab bx b with
     |some (T,k),some (.cells (.cons (.int k' y) .nil))=>k'=k/\∀g,run n (.ops 0 l::(K++[.ctch b g T k])) stk res (Ai fr o.dst .und) (Aj bx b (.wc g (.int k y))) nx
     |_,_=>False
    |_=>False
   |0,.mdel kd m k=>match ev E fr m,ev E fr k with
    | .mapb b,.int kk z=>match Ab bx b with
     |some (.mp kd' has f)=>kd'=kd/\kk=kd/\noIt b bx/\
       run n (.ops 0 l::K) stk res (Ai fr o.dst .und) (Aj bx b (.mp kd (fun j=>if j=z then false else has j) f)) nx
     |_=>False
    |_,_=>False
   |0,.mlen kd m=>match ev E fr m with
    | .mapb b=>match Ab bx b with
     |some (.mp kd' has _)=>kd'=kd/\
       ∀c:Nat,(c=0↔∀k,has k=false)->run n (.ops 0 l::K) stk res (Ai fr o.dst (.int .i64 c)) bx nx
     |_=>False
    |_=>False
   |0,.rngm kd x=>match ev E fr x with
    | .mapb b=>match Ab bx b with
     |some (.mp kd' _ _)=>kd'=kd/\run n (.ops 0 l::K) stk res (Ai fr o.dst (.ptr nx 0)) ((nx,.one (.it (some b) kd (fun _=>false) none))::bx) (nx+1)
     |_=>False
    |_=>False
   |0,.nxt x=>match ev E fr x with
    | .ptr b 0=>match Ab bx b with
     |some (.it (some mb) kd seen _)=>match Ab bx mb with
      |some (.mp kd' has f)=>kd'=kd/\
       (∀k,has k=true->seen k=false->run n (.ops 0 l::K) stk res (Ai fr o.dst (.tup (.cons (.bool true) (.cons (.int kd k) (.cons (f k) .nil))))) (Aj bx b (.it (some mb) kd (fun j=>if j=k then true else seen j) (some k))) nx)/\
       ((∀k,has k=true->seen k=true)->run n (.ops 0 l::K) stk res (Ai fr o.dst (.tup (.cons (.bool false) .nil))) (Aj bx b (.it none kd seen none)) nx)
      |_=>False
     |_=>False
    |_=>False
   |0,.ent x=>match ev E fr x with
    | .ptr b 0=>match Ab bx b with
     |some (.it (some mb) kd _ (some k))=>match Ab bx mb with
      |some (.mp kd' has f)=>kd'=kd/\has k=true/\run n (.ops 0 l::K) stk res (Ai fr o.dst (.tup (.cons (.int kd k) (.cons (f k) .nil)))) bx nx
      |_=>False
     |_=>False
    |_=>False
   |0,.calle f args=>match ev E fr f with
     | .func (.func id) caps=>match E.I id with
      |some af=>By caps=true/\run n [.code af.code] (⟨o.dst,.ops 0 l::K,res,fr,nx⟩::stk) af.res (params 0 (AQ E fr args++BJ caps)) bx nx
      |none=>match E.S id with
       |some s=>match Cp bx s args (AQ E fr args++BJ caps)with
        |⟨p,v,_⟩=>(By caps=true/\p)/\(FU v->match s.own,v with
         |some e,.view k m c=>0<k->run n (.ops 0 l::K) stk res (Ai fr o.dst (.own nx)) ((nx,.one (.row e k m c))::bx) (nx+1)
         |_,_=>run n (.ops 0 l::K) stk res (Ai fr o.dst v) bx nx)
       |none=>match E.X id with
        |some (pz,s)=>Fz bx s pz args (AQ E fr args) caps (fun b e k m c=>run n (.ops 0 l::K) (AB b .und stk) res (Ai (AL b .und fr) o.dst (.own b)) (Aj (AJ b .und bx) b (.row e k m c)) nx) fun b e k m c=>run n (.ops 0 l::K) stk res (Ai fr o.dst .und) (Aj bx b (.row e k m c)) nx
        |none=>False
     | .yld b=>match Ab bx b with
      |some (.lp g fr' ps ca cb .ready)=>ps.length=args.length/\run n [.code ca,.rbeg b g,.code cb,.rend b g] (⟨o.dst,.ops 0 l::K,res,fr,nx⟩::stk) [] (Kr fr' ps (AQ E fr args)) bx nx
      |_=>False
     |_=>False
   |d+1,.calle f args=>match ev E fr f with
     | .func (.func id) caps=>match E.S id with
      |some s=>match Cp bx s args (AQ E fr args++BJ caps)with
       |⟨p,v,_⟩=>(By caps=true/\p)/\match s.own,v with
        |some e,.view k m c=>0<k/\Cz E (Ai fr o.dst (.own nx)) ((nx,.one (.row e k m c))::bx) o.re/\run n (.ops d l::K) stk res (Ai fr o.dst (.own nx)) ((nx,.one (.row e k m c))::bx) (nx+1)
        |_,_=>False
      |none=>match E.X id with
       |some (pz,s)=>Fz bx s pz args (AQ E fr args) caps (fun b e k m c=>Cz E (Ai (AL b .und fr) o.dst (.own b)) (Aj (AJ b .und bx) b (.row e k m c)) o.re/\run n (.ops d l::K) (AB b .und stk) res (Ai (AL b .und fr) o.dst (.own b)) (Aj (AJ b .und bx) b (.row e k m c)) nx) fun _ _ _ _ _=>False
       |none=>False
     |_=>False
   |0,op=>match op with
    | .call f args=>match ev E fr f with
     | .func (.func id) caps=>match E.I id with
      |some af=>By caps=true/\run n [.code af.code] (⟨o.dst,.ops 0 l::K,res,fr,nx⟩::stk) af.res (params 0 (AQ E fr args++BJ caps)) bx nx
      |none=>match E.S id with
       |some s=>match Cp bx s args (AQ E fr args++BJ caps)with
        |⟨p,v,_⟩=>(By caps=true/\p)/\(FU v->match s.own,v with
         |some e,.view k m c=>0<k->run n (.ops 0 l::K) stk res (Ai fr o.dst (.own nx)) ((nx,.one (.row e k m c))::bx) (nx+1)
         |_,_=>run n (.ops 0 l::K) stk res (Ai fr o.dst v) bx nx)
       |none=>False
     | .yld b=>match Ab bx b with
      |some (.lp g fr' ps ca cb .ready)=>ps.length=args.length/\run n [.code ca,.rbeg b g,.code cb,.rend b g] (⟨o.dst,.ops 0 l::K,res,fr,nx⟩::stk) [] (Kr fr' ps (AQ E fr args)) bx nx
      |_=>False
     |_=>False
    |_=>match AG E fr bx nx op with
     |⟨p,v,new⟩=>p/\(FU v->match o.br with
      |false=>Cz E (Ai fr o.dst v) (CV nx new bx) o.re/\run n (.ops 0 l::K) stk res (Ai fr o.dst v) (CV nx new bx) (C6 nx new)
      |true=>match v with
       | .bool t=>(t=true->run n (.ops 0 l::K) stk res (Ai fr o.dst (.bool true)) (CV nx new bx) (C6 nx new))/\(t=false->run n (.ops 0 l::K) stk res (Ai fr o.dst (.bool false)) (CV nx new bx) (C6 nx new))
       |_=>False)
   |d+1,op=>match AG E fr bx nx op with
    |⟨p,v,new⟩=>p/\match o.br with
     |false=>run n (.ops d l::K) stk res (Ai fr o.dst v) (CV nx new bx) (C6 nx new)
     |true=>match v with
      | .bool t=>(t=true->run n (.ops d l::K) stk res (Ai fr o.dst (.bool true)) (CV nx new bx) (C6 nx new))/\(t=false->run n (.ops d l::K) stk res (Ai fr o.dst (.bool false)) (CV nx new bx) (C6 nx new))
      |_=>False
 |n+1,.ctch _ _ _ _::K,stk,res,fr,bx,nx=>run n K stk res fr bx nx
end Go.Proofs.YtlieoghhkioflaaGreat
/- The engine,part 4: the model's code compiled. No condition. -/
namespace Go.Proofs.YtlieoghhkioflaaGreat
open Go Go.RowKit
def UO(f:Value->Option Ae):List Value->Option Ae
 |[]=>some .nil
 |v::l=>match f v,UO f l with|some a,some t=>some (.cons a t)|_,_=>none
def ZJ:Value->Option Ae
 | .int k n=>some (.int k n)
 | .bool b=>some (.bool b)
 | .slice none 0 0=>some .nils
 | .pointer none=>some .nilp
 | .nilFunc=>some .nilf
 | .map none=>some .nilm
 | .string s=>some (.strv s.data.size fun i=>((s.data.toList.map (fun b=>(b.toNat:Int))).getD i 0))
 |_=>none
def cv:Value->Option Ae
 | .agg cs=>(UO ZJ cs.toList).map .agg
 |v=>ZJ v
def AI:Operand->Option Bf
 | .tmp t=>some (.t t)
 | .const v=>(cv v).map .c
 | .global g=>some (.g g)
 | .func f=>some (.c (.func (.func f) .nil))
def Ll(P:Program):Nat->TypeId->Option (List Sh)
 |0,_=>none
 |d+1,t=>match P.underlying t with
  |some (.int k)=>some [.int k]
  |some .bool=>some [.bool]
  |some (.slice e)=>some [.slc (P.cellsOf e)]
  |some (.func _ _ _)|some (.pointer _)|some (.map _ _)=>some [.any]
  |some (.struct fs)=>fs.toList.foldr (fun f acc=>match Ll P d f.type,acc with|some a,some b=>some (a++b)|_,_=>none) (some [])
  |some (.array n e)=>(Ll P d e).map fun s=>(List.replicate n s).flatten
  |_=>none
def BY(P:Program)(t:TypeId):Option Bool:=match P.underlying t with
 |some (.struct _)|some (.array _ _)=>some true
 |some _=>some false
 |none=>none
def T2(P:Program)(t:TypeId):Option (Bool×List Sh):=match BY P t,Ll P 6 t,P.info? t with
 |some a,some s,some i=>if i.size=s.length/\(a=false->s.length=1)then some (a,s)else none
 |_,_,_=>none
def DX(P:Program)(t:TypeId):Option (Nat×Ae):=match P.info? t with
 |some i=>match i.zero with
  |some z=>if z.cells.size=i.size then(UO ZJ z.cells.toList).map fun l=>(i.size,l)else none
  |none=>none
 |none=>none
def Pm(P:Program)(t:TypeId):Option Ae:=match P.info? t with
 |some i=>i.zero.bind cv
 |none=>none
def BL(P:Program)(t:TypeId):Option Nat:=(P.info? t).map (·.size)
def HM(P:Program)(fs:Array Field):List (Nat×Operand)->Option (List (Nat×Nat×Bf))
 |[]=>some []
 |(i,x)::l=>match fs[i]?,AI x,HM P fs l with
  |some f,some o,some r=>match BL P f.type with|some n=>some ((f.offset,n,o)::r)|none=>none
  |_,_,_=>none
def H9(k:Nat):List (Nat×Operand)->Option (List (Nat×Nat×Bf))
 |[]=>some []
 |(i,x)::l=>match AI x,H9 k l with
  |some o,some r=>some ((i*k,k,o)::r)
  |_,_=>none
def Il:List (Nat×Operand)->Option (List (Nat×Bf))
 |[]=>some []
 |(i,x)::l=>match AI x,Il l with
  |some o,some r=>some ((i,o)::r)
  |_,_=>none
def J3:List Operand->Option (List Bf)
 |[]=>some []
 |x::l=>match AI x,J3 l with|some o,some r=>some (o::r)|_,_=>none
def E8(P:Program):List Operand->List TypeId->Option (List (List Sh×Bf))
 |[],_=>some []
 |x::l,ts=>match AI x,E8 P l ts.tail with
  |some o,some r=>some (((match ts with|t::_=>((T2 P t).map (·.2)).getD []|[]=>[]),o)::r)
  |_,_=>none
def F1:Option Operand->Option (Option Bf)
 |none=>some none
 |some x=>(AI x).map some
def Uj:List Sh->Bool
 |[]=>true
 | .int _::l| .bool::l=>Uj l
 |_=>false
def Vm(P:Program)(E:TypeId->Bool)(S:TypeId->Option (List Sh)):Nat->List Field->Bool
 |_,[]=>true
 |off,f::fs=>f.name != "_" &&f.offset==off&&E f.type&&(match S f.type with
  |some s=>BL P f.type==some s.length&&(BY P f.type==some true||(BY P f.type==some false&&s.length==1))&&Vm P E S (off+s.length) fs
  |none=>false)
def G1(P:Program):Nat->TypeId->Bool
 |0,_=>false
 |d+1,t=>match P.underlying t with
  |some (.int _)|some .bool=>true
  |some (.struct fs)=> !P.stoodInHeld t&&Vm P (G1 P d) (Ll P d) 0 fs.toList
  |some (.array _ e)=>G1 P d e&&(match Ll P d e with
   |some s=>BL P e==some s.length&&P.cellsOf e==s.length&&(BY P e==some true||(BY P e==some false&&s.length==1))
   |none=>false)
  |_=>false
def ZS:List Nat:=[41,53,99,55,80,81,161,139,137,155,156,166,172,167,173,174,176,178,112,135,136,154,165,117,158,90]
def Zk:List (List Nat):=[]
def Ab8(c:Call):Bool:=match c.callee with
 | .value (.func f)=>ZS.contains f
 | .value (.tmp _)=>Zk.contains c.argTypes.toList
 |_=>false
def CG(P:Program):Op->Option JE
 | .move x| .assign x=>(AI x).map .mv
 | .pick c a b=>match AI c,AI a,AI b with|some c,some a,some b=>some (.pick c a b)|_,_,_=>none
 | .alloc t=>(DX P t).map fun p=> .alloc p.2
 | .box t x=>match BL P t,AI x with|some n,some x=>some (.box n x)|_,_=>none
 | .build t parts=>match P.underlying t,DX P t with
  |some (.struct fs),some (_,z)=>if fs.toList.all (fun f=>(BL P f.type).isSome)=true then(HM P fs parts.toList).map fun l=> .build z l else none
  |some (.array _ e),some (_,z)=>match BL P e with|some k=>(H9 k parts.toList).map fun l=> .build z l|none=>none
  |_,_=>none
 | .buildSlice t len parts=>match P.underlying t with
  |some (.slice e)=>match DX P e,Il parts.toList with
   |some (k,z),some l=>if len*k<=16777216 then some (.bsl e k len z l)else none
   |_,_=>none
  |_=>none
 | .load t x=>match T2 P t,AI x with|some (a,s),some x=>some (.load a s x)|_,_=>none
 | .store t a x=>match BL P t,AI a,AI x with|some n,some a,some x=>some (.store n a x)|_,_,_=>none
 | .binOp op t x y _=>match AI x,AI y with
  |some x,some y=>match BY P t with
   |some false=>(match P.underlying t with
    |some (.int _)=>some (.bin op x y)
    |some .bool=>(match op with| .eql=>some (.binb false x y)| .neq=>some (.binb true x y)|_=>none)
    |some .string=>(match op with| .eql=>some (.seq false x y)| .neq=>some (.seq true x y)|_=>none)
    |some (.slice _)=>(match op,y with| .eql,.c .nils=>some (.isnil false x)| .neq,.c .nils=>some (.isnil true x)|_,_=>none)
    |_=>none)
   |some true=>match T2 P t with
    |some (_,s)=>if Uj s=true/\G1 P 6 t=true/\P.eqGuardType P.depth t=false then(match op with| .eql=>some (.eqa false s x y)| .neq=>some (.eqa true s x y)|_=>none)else none
    |none=>none
   |none=>none
  |_,_=>none
 | .unOp op _ x=>(AI x).map fun x=> .un op x
 | .convert s d x=>match P.underlying s,P.underlying d with
  |some (.int _),some (.int k)=>(AI x).map fun x=> .conv k x
  |some (.slice e),some .string=>(match P.underlying e with|some (.int .u8)=>(AI x).map .b2s|_=>none)
  |_,_=>none
 | .makeFunc fn first caps=>if first.size=0 then(J3 caps.toList).map fun l=> .mkf fn l else none
 | .fieldAddr t x f=>match P.underlying t,AI x with
  |some (.struct fs),some x=>match fs[f]? with
   |some f=>(match BL P f.type with|some (_+1)=>some (.fld f.offset x)|_=>none)
   |none=>none
  |_,_=>none
 | .indexAddr t x i=>match P.underlying t,AI x,AI i with
  |some (.slice e),some x,some i=>(BL P e).map fun k=> .idx k x i
  |some (.array n e),some x,some i=>(BL P e).map fun k=> .idxA k n x i
  |_,_,_=>none
 | .slice t x lo hi none=>match P.underlying t,AI x,F1 lo,F1 hi with
  |some (.slice e),some x,some lo,some hi=>(BL P e).map fun k=> .sl k x lo hi
  |_,_,_,_=>none
 | .slice t x none (some hi) (some mx)=>match P.underlying t,AI x,AI hi,AI mx with
  |some (.slice e),some x,some hi,some mx=>(BL P e).map fun k=> .clip k x hi mx
  |_,_,_,_=>none
 | .makeInterface t x=>match P.underlying t with
  |some (.int _)=>(AI x).map fun x=> .mif t x
  |_=>none
 | .panic x=>(AI x).map .pan
 | .defer c=>match c.callee,c.args.toList with
  | .value f,[]=>(AI f).map .dfr
  |_,_=>none
 | .extract x i=>(AI x).map fun x=> .ext i x
 | .call c=>match c.callee with
  | .value f=>match AI f,E8 P c.args.toList c.argTypes.toList with|some f,some l=>if Ab8 c=true then some (.calle f l)else some (.call f l)|_,_=>none
  | .builtin .len=>match c.args.toList,c.argTypes.toList with
   |[x],[t]=>(match P.underlying t with
    |some (.slice _)=>(AI x).map .len
    |some (.map k _)=>(match P.underlying k with|some (.int kd)=>(AI x).map (.mlen kd)|_=>none)
    |_=>none)
   |_,_=>none
  | .builtin .max=>match c.args.toList with|[x,y]=>(match AI x,AI y with|some x,some y=>some (.mm true x y)|_,_=>none)|[x,y,z]=>(match AI x,AI y,AI z with|some x,some y,some z=>some (.mm3 true x y z)|_,_,_=>none)|_=>none
  | .builtin .min=>match c.args.toList with|[x,y]=>(match AI x,AI y with|some x,some y=>some (.mm false x y)|_,_=>none)|[x,y,z]=>(match AI x,AI y,AI z with|some x,some y,some z=>some (.mm3 false x y z)|_,_,_=>none)|_=>none
  | .builtin .clear=>match c.args.toList,c.argTypes.toList with
   |[x],[t]=>(match P.underlying t with
    |some (.slice e)=>(match DX P e,AI x with|some (k,z),some x=>some (.clr k z x)|_,_=>none)
    |_=>none)
   |_,_=>none
  | .builtin .delete=>match c.args.toList,c.argTypes.toList with
   |[m,x],[t,u]=>(match P.underlying t with
    |some (.map k _)=>if u=k then(match P.underlying k,AI m,AI x with|some (.int kd),some m,some x=>some (.mdel kd m x)|_,_,_=>none)else none
    |_=>none)
   |_,_=>none
  | .builtin .append=>match c.args.toList,c.argTypes.toList with
   |[x,y],[t,u]=>if t=u then(match P.underlying t,AI x,AI y with
    |some (.slice e),some x,some y=>(match DX P e,P.info? e with|some (k,_),some i=>some (.app e k i.bytes x y)|_,_=>none)
    |_,_,_=>none)else none
   |_,_=>none
  |_=>none
 | .nilCheck x=>(AI x).map .nilc
 | .makeMap t none=>match P.underlying t with
  |some (.map k _)=>(match P.underlying k with|some (.int kd)=>some (.mkm kd)|_=>none)
  |_=>none
 | .lookup t m x ok=>match P.underlying t with
  |some (.map k e)=>(match P.underlying k,Pm P e,AI m,AI x with|some (.int kd),some z,some m,some x=>some (.mget kd ok z m x)|_,_,_,_=>none)
  |_=>none
 | .insert t m x v| .mapUpdate t m x v=>match P.underlying t with
  |some (.map k _)=>(match P.underlying k,AI m,AI x,AI v with|some (.int kd),some m,some x,some v=>some (.mset kd m x v)|_,_,_,_=>none)
  |_=>none
 | .field t x f=>match P.underlying t,AI x with
  |some (.struct fs),some x=>match fs[f]? with
   |some f=>(match BY P f.type,BL P f.type with|some ag,some n=>if ag=false->n=1 then some (.fv ag f.offset n x)else none|_,_=>none)
   |none=>none
  |_,_=>none
 | .range t x=>match P.underlying t with
  |some (.map k _)=>(match P.underlying k,AI x with|some (.int kd),some x=>some (.rngm kd x)|_,_=>none)
  |_=>none
 | .next x false=>(AI x).map .nxt
 | .entry x=>(AI x).map .ent
 | .makeSlice t n c=>match P.underlying t with
  |some (.slice e)=>match DX P e,P.info? e,AI n,AI c with
   |some (k,z),some i,some n,some c=>some (.mks e k i.bytes z n c)
   |_,_,_,_=>none
  |_=>none
 |_=>none
def D6:JE->Bool
 | .store _ _ _| .app _ _ _ _ _| .mset _ _ _ _| .calle _ _| .clr _ _ _| .pan _| .dfr _=>false
 |_=>true
def Gk(acc:List Nat)(o:Oper):Nat:=o.after.toList.foldl (fun s e=>if Region.binds .any e then s|||2^e.on|||acc.getD e.on 0 else s) 0
def Ca:List Nat->List Oper->List Nat
 |acc,[]=>acc
 |acc,o::l=>Ca (acc++[Gk acc o]) l
def Fg(o:Oper):List Nat:=o.op.operands.toList.filterMap fun| .tmp t=>some t|_=>none
def Mk(ops:List Oper)(m:List Nat)(gs:List (Option Nat)):Bool:=
 (List.range ops.length).all fun i=>(List.range ops.length).all fun j=>
  match ops[i]?,ops[j]? with
  |some x,some y=>i==j||(match x.dst with
   |none=>true
   |some d=>y.dst !=some d&&(!((Fg y).contains d||gs.getD j none==some d)||(i<j&&(m.getD j 0).testBit i)||(j<i&&(m.getD i 0).testBit j)))
  |_,_=>true
def I2(ops:List Oper):Bool:=
 (List.range ops.length).all fun i=>match ops[i]? with
  |some o=>o.after.toList.all fun e=> !Region.binds .any e||e.on<i
  |none=>true
def Ig(ops:List Oper)(o:Oper):Option (Option (Nat×Bool)):=match o.guard with
 |none=>some none
 |some (j,w)=>match ops[j]? with
  |some p=>p.dst.map fun t=>some (t,w)
  |none=>none
def TH(nt:Nat):Option Tmp->Bool
 |some d=>decide (d<nt)
 |none=>true
def CK(P:Program)(ops:List Oper)(nt:Nat)(o:Oper):Option A1:=
  match CG P o.op,Ig ops o with
  |some a,some g=>
    if TH nt o.dst=true then
      some {dst:=o.dst,op:=a,guard:=g,
             br:=match o.dst with|some d=>ops.any fun p=>(match Ig ops p with|some (some (t,_))=>t==d|_=>false)||(match p.op with| .pick (.tmp t) _ _=>t==d|_=>false)|none=>false,
             re:=[]}
    else none
  |_,_=>none
def Es(P:Program)(ops:List Oper)(nt:Nat):List Oper->Option (List A1)
 |[]=>some []
 |o::l=>match CK P ops nt o,Es P ops nt l with|some a,some r=>some (a::r)|_,_=>none
def DW:Bf->List Nat
 | .t n=>[n]
 |_=>[]
def YM(l:List Bf):List Nat:=l.flatMap DW
def NT:JE->List Nat
 | .mv x| .box _ x| .load _ _ x| .un _ x| .conv _ x| .fld _ x| .ext _ x| .len x| .nilc x=>DW x
 | .pick a b c=>DW a++DW b++DW c
 | .alloc _| .mkm _=>[]
 | .build _ l=>l.flatMap fun p=>DW p.2.2
 | .bsl _ _ _ _ l=>l.flatMap fun p=>DW p.2
 | .store _ a x| .bin _ a x| .binb _ a x| .eqa _ _ a x| .idx _ a x| .idxA _ _ a x| .mm _ a x| .app _ _ _ a x| .mks _ _ _ _ a x| .mget _ _ _ a x=>DW a++DW x
 | .mkf _ l=>YM l
 | .sl _ x lo hi=>DW x++(match lo with|some y=>DW y|none=>[])++(match hi with|some y=>DW y|none=>[])
 | .call f l| .calle f l=>DW f++l.flatMap fun p=>DW p.2
 | .mset _ a b c=>DW a++DW b++DW c
 | .mdel _ a b| .seq _ a b=>DW a++DW b
 | .mlen _ a| .rngm _ a| .nxt a| .ent a| .fv _ _ _ a| .isnil _ a| .b2s a=>DW a
 | .mm3 _ a b c=>DW a++DW b++DW c
 | .clip _ a b c=>DW a++DW b++DW c
 | .clr _ _ a| .mif _ a| .pan a| .dfr a=>DW a
def NP:JE->Bool
 | .alloc _| .box _ _| .bsl _ _ _ _ _| .mks _ _ _ _ _ _| .mkm _=>true
 |_=>false
def Iq:JE->Bool
 | .box _ _=>false
 | .alloc z=>A2 z
 | .bsl _ _ _ z _=> !Mf z
 |_=>true
def BF(m:List Nat)(i j:Nat):Bool:=(m.getD j 0).testBit i
def NC(m:List Nat):Nat->Nat
 |0=>0
 |i+1=>if(List.range i).all (fun j=>BF m j i)then NC m i else i+1
def DH:A1:=⟨none,.mv (.t 0),none,false,[]⟩
def F7(l:List A1)(i:Nat):Bool:=D6 (l.getD i DH).op
def PZ(l:List A1)(m:List Nat):Nat->List Nat->List Nat->List Nat
 |0,_,_=>[]
 |n+1,done,rest=>
  let rdy:=rest.filter fun i=>rest.all fun j=> !BF m j i
  match rdy.find? (F7 l)with
  |some i=>i::PZ l m n (i::done) (rest.filter (· !=i))
  |none=>match rdy with
   |i::_=>i::PZ l m n (i::done) (rest.filter (· !=i))
   |[]=>[]
def Z1(l:List A1)(m:List Nat)(ord:List Nat)(p i:Nat):List (Option Nat×JE×Option (Nat×Bool)):=
 if F7 l i then[]else(ord.take p).filterMap fun j=>if F7 l j&& !NP (l.getD j DH).op&& !BF m j i then some ((l.getD j DH).dst,(l.getD j DH).op,(l.getD j DH).guard)else none
def FD(l:List A1)(m:List Nat)(ord:List Nat):List A1:=(List.range ord.length).map fun p=>{l.getD (ord.getD p 0) DH with re:=Z1 l m ord p (ord.getD p 0)}
def NO:Option (Nat×Bool)->List Nat
 |some (t,_)=>[t]
 |none=>[]
def XB(l:List A1)(m:List Nat)(d:Nat)(ord:List Nat):Bool:=
 ord.length==d&&(List.range d).all (fun i=>ord.contains i)&&
 (List.range d).all fun p=>decide (ord.getD p 0<d)&&(match(l.getD (ord.getD p 0) DH).dst with|none=>true|some t=> !(NT (l.getD (ord.getD p 0) DH).op++NO (l.getD (ord.getD p 0) DH).guard).contains t)&&(List.range p).all fun q=>
  ord.getD q 0 !=ord.getD p 0&& !BF m (ord.getD p 0) (ord.getD q 0)&&
  (if F7 l (ord.getD q 0)then(F7 l (ord.getD p 0)||BF m (ord.getD q 0) (ord.getD p 0)|| !NP (l.getD (ord.getD q 0) DH).op||Iq (l.getD (ord.getD q 0) DH).op)else BF m (ord.getD q 0) (ord.getD p 0))&&
  (match(l.getD (ord.getD p 0) DH).dst with|none=>true|some t=> !(NT (l.getD (ord.getD q 0) DH).op++NO (l.getD (ord.getD q 0) DH).guard).contains t)
def VG(m:List Nat)(n d:Nat):Bool:=(List.range n).all fun i=>i<d||(List.range i).all fun j=>BF m j i
def Yc(ops:List Oper)(m:List Nat)(gs:List (Option Nat))(d:Nat):Bool:=
 (List.range d).all fun i=>match(ops[i]?).bind (·.dst)with
  |none=>true
  |some t=>(List.range d).all fun j=>BF m i j||(!((match ops[j]? with|some y=>Fg y|none=>[]).contains t)&&gs.getD j none !=some t)
def Om(ops:List Oper):List (Option Nat):=ops.map fun o=>match Ig ops o with|some (some (t,_))=>some t|_=>none
def AbE:JE->Bool
 | .dfr _=>true
 |_=>false
def OX:JE->Bool
 | .call _ _| .calle _ _| .pan _=>true
 |_=>false
def JA(ops:List Oper)(l:List A1):Option (Nat×List A1):=
 let m:=Ca [] ops
 let d:=NC m ops.length
 let ord:=PZ l m d [] (List.range d)
 if I2 ops&&Mk ops m (Om ops)&&Yc ops m (Om ops) d&&VG m ops.length d&&XB l m d ord&&decide (d<=ops.length)&&l.all (fun o=> !AbE o.op)then some (d,FD l m ord++l.drop d)else none
def R4(ops:List Oper)(o:Oper):Option Nat:=match o.guard with
 |none=>none
 |some (g,_)=>(ops[g]?).bind (·.dst)
def Kz(k:Nat)(o:Oper):Oper:={o with after:=((List.range k).map fun j=>(⟨j,.phase⟩:Edge)).toArray}
def F2(k:Nat):Nat->List Oper->List Oper
 |_,[]=>[]
 |i,o::l=>(if i=k then Kz k o else o)::F2 k (i+1) l
def mvX(o:Op):Option Operand:=match o with
 | .move x| .assign x=>some x
 |_=>none
def Jj(o:Oper)(k:Nat):Bool:=o.after.toList.any fun e=>Region.binds .any e&&e.on==k
def WC(ops:List Oper)(k:Nat):Bool:=
 let m:=Ca [] ops
 match ops[k]? with
 |some o=>o.guard.isNone&&I2 ops&&(match o.dst,mvX o.op with
  |some t,some x=>(List.range ops.length).all fun j=>j==k||(match ops[j]? with
   |some y=>(match y.op with| .select _ _| .defer _=>false|_=>true)&&y.dst !=some t&&
    (BF m j k||match x with| .tmp u=>y.dst !=some u|_=>true)&&
    (BF m j k||Jj y k||(!(Fg y).contains t&&R4 ops y !=some t))&&
    (!Jj y k||(List.range k).all fun i=>BF m i j)
   |none=>true)
  |_,_=>false)
 |none=>false
def dlK(ops:List Oper):Option Nat:=
 let m:=Ca [] ops
 (List.range ops.length).find? fun k=>match ops[k]? with
  |some o=>(match o.dst,mvX o.op with
   |some t,some _=>(List.range k).any (fun j=>match ops[j]? with|some y=>(Fg y).contains t|none=>false)&& !((List.range k).all fun j=>BF m j k)
   |_,_=>false)
  |none=>false
def XM:Cl->List Nat
 | .skip| .exit _| .ret=>[]
 | .reg _ l=>l.flatMap fun o=>NT o.op++(match o.guard with|some (t,_)=>[t]|none=>[])
 | .seq a b=>XM a++XM b
 | .cond c a b=>DW c++XM a++XM b
 | .block _ a| .loop a| .scope a=>XM a
 | .rng f _ ks _ _=>DW f++ks
def Cs(P:Program)(nt:Nat):Code->Option Cl
 | .skip| .label _=>some .skip
 | .region _ ops draw=>match Es P ops.toList nt ops.toList with
  |some l=>if draw then(match dlK ops.toList with
   |none=>(JA ops.toList l).map fun p=> .reg p.1 p.2
   |some k=>(match Es P (F2 k 0 ops.toList) nt (F2 k 0 ops.toList)with|some l1=>(match WC ops.toList k with|true=>(match JA (F2 k 0 ops.toList) l1 with|some p=>(match(l1.drop p.1).all (fun o=> !OX o.op)with|true=>some (.reg p.1 p.2)|false=>none)|none=>none)|false=>none)|none=>none))else some (.reg 0 l)
  |none=>none
 | .seq a b=>match Cs P nt a,Cs P nt b with|some a,some b=>some (.seq a b)|_,_=>none
 | .cond c a b=>match AI c,Cs P nt a,Cs P nt b with|some c,some a,some b=>some (.cond c a b)|_,_,_=>none
 | .block id a=>(Cs P nt a).map (.block id)
 | .loop a=>(Cs P nt a).map .loop
 | .exit id=>some (.exit id)
 | .ret=>some .ret
 | .scope a=>(Cs P nt a).map .scope
 | .rangeFunc f ps a b=>match AI f,Cs P nt a,Cs P nt b with
  |some f,some a,some b=>if ps.toList.all (fun t=>decide (t<nt))=true then some (.rng f ps.toList ((XM a++XM b).eraseDups) a b)else none
  |_,_,_=>none
 |_=>none
def W8(P:Program):ResultVar->Option B5
 | .tmp t=>some (.t t)
 | .cell a t=>(T2 P t).map fun p=> .cell a p.1 p.2
def Ip(P:Program):List ResultVar->Option (List B5)
 |[]=>some []
 |r::l=>match W8 P r,Ip P l with|some a,some r=>some (a::r)|_,_=>none
def Ay(P:Program)(fn:Func):Option Ax:=match fn.body with
 |some c=>match Cs P fn.ntmps c,Ip P fn.results.toList with
  |some c,some r=>if fn.params.size+fn.nfree<=fn.ntmps/\(fn.name== "runtime.NumGoroutine")=false then some ⟨c,r⟩else none
  |_,_=>none
 |none=>none
end Go.Proofs.YtlieoghhkioflaaGreat
/- The engine,part 5: own boxes in a world,and what keeps them. No condition. -/
namespace Go.Proofs.YtlieoghhkioflaaGreat
open Go Go.RowKit
variable{b:Bn}{c:Cu}{ys:List Value}{N:Nat}{A0:Nat->Prop}{w1:World}
variable{P:Program}
structure AY where
 w:World
 X:Nat->Prop
def AY.lo(b:AY)(g:Nat):Prop:=b.w.heap.size<=g\/b.X g
structure AY.Under(b:AY)(w:World):Prop where
 os:w.os=b.w.os
 tape:w.tape=b.w.tape
 output:w.output=b.w.output
 size:b.w.heap.size<=w.heap.size
 block:∀k,k<b.w.heap.size->¬b.X k->w.heap[k]?=b.w.heap[k]?
theorem AY.Under.refl(b:AY):b.Under b.w:=⟨rfl,rfl,rfl,Nat.le_refl _,fun _ _ _=>rfl⟩
theorem AY.Under.but{b:AY}{w:World}(h:b.Under w)(h1:w1.os=w.os)(h2:w1.tape=w.tape)(h3:w1.output=w.output)(hs:w.heap.size<=w1.heap.size)(hb:∀k,k<w.heap.size->¬b.lo k->w1.heap[k]?=w.heap[k]?):b.Under w1:=
 ⟨h1.trans h.os,h2.trans h.tape,h3.trans h.output,Nat.le_trans h.size hs,fun k hk hx=>(hb k (Nat.lt_of_lt_of_le hk h.size) (fun e=>e.elim (fun e=>absurd hk (Nat.not_lt.2 e)) hx)).trans (h.block k hk hx)⟩
theorem AY.Under.trans{b:AY}{w:World}(h:b.Under w)(k:Below w.heap.size w w1):b.Under w1:=h.but k.os k.tape k.output k.size fun g hg _=>k.block g hg
theorem AY.Under.drew{b:AY}{w:World}(h:b.Under w):b.Under w.drew:=h.but rfl rfl rfl (Nat.le_refl _) fun _ _ _=>rfl
theorem AY.Under.grown{b:AY}{w:World}{row:Option Nat}(h:b.Under w)(hg:w.grownBy w1 row)(hr:∀k,row=some k->b.lo k):b.Under w1:=
 h.but hg.os hg.tape hg.output hg.size fun k hk hn=>hg.block k hk fun e=>hn (hr k e.symm)
theorem AY.Under.setRow{b:AY}{w:World}(h:b.Under w){g:Nat}(hg:b.lo g)(cs:Array Value):b.Under (w.setRow g cs):=
 h.but rfl rfl rfl (by simp) fun k _ hn=>setRow_other w g k cs fun e=>hn (e▸hg)
def Al(A0:Nat->Prop)(w0:AY)(B:Bq)(β:Bn->CI)(g:Nat):Prop:=(A0 g\/w0.lo g)/\∀b c,B b=some c->(β b).a≠some g
def Tm(P:Program)(rec:Loop)(nt:Nat)(ps:List Nat)(ca cb:Cl):Prop:=rec.params.toList=ps/\(∀t∈ps,t<nt)/\nt<=rec.tmps.size/\Cs P nt rec.assign=some ca/\Cs P nt rec.body=some cb
def RB(rec:Loop):Xg->Prop
 | .ready=>rec.state= .ready/\rec.pending=none
 | .busy=>rec.state= .busy
 | .done c=>rec.state= .done/\rec.pending=some c.code
 | .over=>True
def CM(P:Program)(w:World)(A:Nat->Prop)(B:Bq)(β:Bn->CI)(base:Nat)(b:Bn):Cu->Prop
 | .cells l=>By l=true/\∃g ys t,(β b).a=some g/\w.heap[g]?=some (.cells ⟨ys⟩ t (0,0))/\A7 w A B β l (.tuple ⟨ys⟩)
 | .row e k n c=>(β b).n=n/\0<k/\n<=maxLen/\∃xs,w.ownsRow base e k (.slice ((β b).a.map fun g=>⟨g,0,none⟩) n (β b).cap) n xs/\∀i,i<n->∀j,j<k->∃y,xs[i*k+j]?=some y/\y.oneCell'=true/\Ap w A (c i j) y
 | .lp g fr ps ca cb st=>(β b).a=some g/\∃rec nt,w.heap[g]?=some (.loop rec)/\Tm P rec nt ps ca cb/\RB rec st/\∀t,A7 w A B β (Au fr t) (rec.tmps.getD t undef)
 | .it m kd seen last=>∃g,(β b).a=some g/\∀mb,m=some mb->WW B mb kd/\∃gm,(β mb).a=some gm/\Fi w g gm kd seen last
 | .rown e k n c=>(β b).n=n/\0<k/\n<=maxLen/\∃xs,w.ownsRow base e k (.slice ((β b).a.map fun g=>⟨g,0,none⟩) n (β b).cap) n xs/\∀i,i<n->∀j,j<k->∃y,xs[i*k+j]?=some y/\y.oneCell'=true/\A7 w A B β (c i j) y
 | .mz kd f=>∃g h,(β b).a=some g/\E5 w g kd h/\∀k,A7 w A B β (f k) ((h k).getD (.slice none 0 0))
 | .mp kd has f=>∃g h,(β b).a=some g/\E5 w g kd h/\∀k,(has k=false->h k=none)/\(has k=true->∃y,h k=some y/\A7 w A B β (f k) y)
 | .wc g v=>(β b).a=some g/\∃y t,w.heap[g]?=some (.cells ⟨[y]⟩ t (0,0))/\A7 w A B β v y
structure Fl(P:Program)(A0:Nat->Prop)(w0:AY)(β:Bn->CI)(B:Bq)(nx:Nat)(w:World):Prop where
 bx:∀b c,B b=some c->CM P w (Al A0 w0 B β) B β 0 b c
 inj:∀b c b' c' g,B b=some c->B b'=some c'->b≠b'->(β b).a=some g->(β b').a≠some g
 nx:∀b c,B b=some c->b.id<nx
 base:∀b c g,B b=some c->(β b).a=some g->w0.lo g/\g<w.heap.size
 below:w0.Under w
abbrev Ar(A0:Nat->Prop)(w0:AY)(β:Bn->CI)(B:Bq)(w:World):Ae->Value->Prop:=A7 w (Al A0 w0 B β) B β
abbrev HU(A0:Nat->Prop)(w0:AY)(β:Bn->CI)(B:Bq)(w:World):Ae->Value->Prop:=Ap w (Al A0 w0 B β)
theorem CC{l:Ae}(h:By l=true):Rk l:=by
 induction l with
 |cons a t _ ih=>exact ih h
 |nil=>trivial
 |_=>simp[By]at h
def Dd(B:Bq)(nx:Nat):Option Cu->Bq
 |none=>B
 |some c=>fun b=>if b= .n nx then some c else B b
structure CB(P:Program)(A0:Nat->Prop)(w0:AY)(β β1:Bn->CI)(B:Bq)(nx:Nat)(new:Option Cu)(w w1:World):Prop where
 keep:Below w.heap.size w w1
 loc:∀b c,B b=some c->β1 b=β b
 box:∀c,new=some c->CM P w1 (Al A0 w0 (Dd B nx new) β1) (Dd B nx new) β1 0 nx c/\∀g,(β1 nx).a=some g->w.heap.size<=g/\g<w1.heap.size
section
variable{A0:Nat->Prop}{w0:AY}{β β1:Bn->CI}{B:Bq}{nx:Nat}{new:Option Cu}{w w1:World}
theorem C2(h:B nx=none)(hb:B b=some c):Dd B nx new b=some c:=by
 cases new with
 |none=>exact hb
 |some d=>
  by_cases e:b=nx
  ·subst e;rw[h]at hb;cases hb
  simp[Dd,e,hb]
theorem BM(hb:Dd B nx new b=some c):B b=some c\/(b=nx/\new=some c):=by
 cases new with
 |none=>exact .inl hb
 |some d=>
  by_cases e:b=nx
  ·simp[Dd,e]at hb;exact .inr ⟨e,by rw[hb]⟩
  simp[Dd,e]at hb;exact .inl hb
theorem CB.al(h:CB P A0 w0 β β1 B nx new w w1)(hm:Fl P A0 w0 β B N w)(hB:B nx=none):∀g,g<w.heap.size->Al A0 w0 B β g->Al A0 w0 (Dd B nx new) β1 g/\w1.heap[g]?=w.heap[g]?:=by
 rintro g hg ⟨ha,hn⟩
 refine⟨⟨ha,fun b c hb e=> ?_⟩,h.keep.block g hg⟩
 rcases BM hb with hb|⟨rfl,hc⟩
 ·rw[h.loc b c hb]at e;exact hn b c hb e
 have:=((h.box c hc).2 g e).1;omega
theorem CB.rep(h:CB P A0 w0 β β1 B nx new w w1)(hm:Fl P A0 w0 β B N w)(hB:B nx=none){v:Ae}{x:Value}(hr:Ar A0 w0 β B w v x):Ar A0 w0 β1 (Dd B nx new) w1 v x:=
 A7.mono h.keep.size (h.al hm hB) (fun b c hb=>⟨c,C2 hB hb,CP.refl c,h.loc b c hb⟩) v x hr
theorem CM.mono{w:World}{A A':Nat->Prop}{B B':Bq}{β β':Bn->CI}{base:Nat}(h:CM P w A B β base b c)(hs:w.heap.size<=w1.heap.size)
  (hA:∀g,g<w.heap.size->A g->A' g/\w1.heap[g]?=w.heap[g]?) (hx:∀b c,B b=some c->∃c',B' b=some c'/\CP c c'/\β' b=β b) (hloc:β' b=β b)
  (hg:∀g,(β b).a=some g->w1.heap[g]?=w.heap[g]?) (hit:∀mb kd seen last,c= .it (some mb) kd seen last->∀g,(β mb).a=some g->w1.heap[g]?=w.heap[g]?):CM P w1 A' B' β' base b c:=by
 have rowmono:∀{e:TypeId} {k n:Nat} {xs:List Value},w.ownsRow base e k (.slice ((β b).a.map fun g=>⟨g,0,none⟩) n (β b).cap) n xs->w1.ownsRow base e k (.slice ((β' b).a.map fun g=>⟨g,0,none⟩) n (β' b).cap) n xs:=by
  intro e k n xs ho
  rw[hloc]
  obtain⟨hl,ho⟩:=ho
  refine⟨hl,?_⟩
  rcases ho with ho|⟨g,cap,cur,e1,e2,e3,e4⟩
  ·exact .inl ho
  refine .inr ⟨g,cap,cur,e1,e2,?_,e4⟩
  have:(β b).a=some g:=by
   cases ha:(β b).a with
   |none=>simp[ha]at e1
   |some g'=>simp[ha]at e1;rw[e1.1]
  rw[hg g this];exact e3
 cases c with
 |cells l=>
  obtain⟨hl,g,ys,t,h1,h2,h3⟩:=h
  exact⟨hl,g,ys,t,by rw[hloc];exact h1,by rw[hg g h1];exact h2,A7.mono hs hA hx _ _ h3⟩
 |lp g fr ps ca cb st=>
  obtain⟨h1,rec,nt,h2,h3,h4,h5⟩:=h
  exact⟨by rw[hloc];exact h1,rec,nt,by rw[hg g h1];exact h2,h3,h4,fun t=>A7.mono hs hA hx _ _ (h5 t)⟩
 |mp kd has f=>
  obtain⟨g,m,h1,h2,h3⟩:=h
  refine⟨g,m,by rw[hloc];exact h1,h2.heap (hg g h1),fun k=>⟨(h3 k).1,fun hk=> ?_⟩⟩
  obtain⟨y,hy,hr⟩:=(h3 k).2 hk
  exact⟨y,hy,A7.mono hs hA hx _ _ hr⟩
 |mz kd f=>
  obtain⟨g,m,h1,h2,h3⟩:=h
  exact⟨g,m,by rw[hloc];exact h1,h2.heap (hg g h1),fun k=>A7.mono hs hA hx _ _ (h3 k)⟩
 |wc g v=>
  obtain⟨h1,y,t,h2,h3⟩:=h
  exact⟨by rw[hloc];exact h1,y,t,by rw[hg g h1];exact h2,A7.mono hs hA hx _ _ h3⟩
 |it m kd seen last=>
  obtain⟨g,h1,h2⟩:=h
  refine⟨g,by rw[hloc];exact h1,fun mb hmb=> ?_⟩
  obtain⟨⟨c,h3,h3'⟩,gm,h4,h5⟩:=h2 mb hmb
  obtain⟨c',q1,q2,q3⟩:=hx mb _ h3
  exact⟨⟨c',q1,q2.map h3'⟩,gm,by rw[q3];exact h4,h5.heap (hg g h1) (hit mb kd seen last (by rw[hmb]) gm h4)⟩
 |row e k n cc=>
  obtain⟨h1,hk,hn,xs,ho,hc⟩:=h
  refine⟨by rw[hloc];exact h1,hk,hn,xs,rowmono ho,fun i hi j hj=> ?_⟩
  obtain⟨y,hy,ho1,hr⟩:=hc i hi j hj
  exact⟨y,hy,ho1,Ap.mono hs hA _ _ hr⟩
 |rown e k n cc=>
  obtain⟨h1,hk,hn,xs,ho,hc⟩:=h
  refine⟨by rw[hloc];exact h1,hk,hn,xs,rowmono ho,fun i hi j hj=> ?_⟩
  obtain⟨y,hy,ho1,hr⟩:=hc i hi j hj
  exact⟨y,hy,ho1,A7.mono hs hA hx _ _ hr⟩
theorem CB.mem(h:CB P A0 w0 β β1 B nx new w w1)(hm:Fl P A0 w0 β B N w)(hB:B nx=none){N':Nat}(hN:N<=N')(hn:∀c,new=some c->nx<N'):Fl P A0 w0 β1 (Dd B nx new) N' w1 where
 bx:=by
  intro b c hb
  rcases BM hb with hb|⟨rfl,hc⟩
  ·exact(hm.bx b c hb).mono h.keep.size (h.al hm hB) (fun b c hb=>⟨c,C2 hB hb,CP.refl c,h.loc b c hb⟩) (h.loc b c hb) (fun g hg=>h.keep.block g (hm.base b c g hb hg).2) (fun mb kd seen last e g hg=>by
    subst e
    obtain⟨_,_,h2⟩:=hm.bx b _ hb
    obtain⟨⟨cm,h3,_⟩,_⟩:=h2 mb rfl
    exact h.keep.block g (hm.base mb _ g h3 hg).2)
  exact(h.box c hc).1
 inj:=by
  intro b c b' c' g hb hb' hne hg hg'
  rcases BM hb with k|⟨e,hc⟩<;>rcases BM hb' with k'|⟨e',hc'⟩
  ·rw[h.loc b c k]at hg;rw[h.loc b' c' k']at hg';exact hm.inj b c b' c' g k k' hne hg hg'
  ·rw[h.loc b c k]at hg
   have h1:=(hm.base b c g k hg).2
   rw[e']at hg'
   have h2:=((h.box c' hc').2 g hg').1
   omega
  ·rw[h.loc b' c' k']at hg'
   have h1:=(hm.base b' c' g k' hg').2
   rw[e]at hg
   have h2:=((h.box c hc).2 g hg).1
   omega
  exact hne (e.trans e'.symm)
 nx:=by
  intro b c hb
  rcases BM hb with hb|⟨rfl,hc⟩
  ·exact Nat.lt_of_lt_of_le (hm.nx b c hb) hN
  exact hn c hc
 base:=by
  intro b c g hb hg
  rcases BM hb with hb|⟨rfl,hc⟩
  ·rw[h.loc b c hb]at hg
   have h1:=hm.base b c g hb hg
   exact⟨h1.1,Nat.lt_of_lt_of_le h1.2 h.keep.size⟩
  have h2:=(h.box c hc).2 g hg
  exact⟨.inl (Nat.le_trans hm.below.size h2.1),h2.2⟩
 below:=hm.below.trans h.keep
theorem CB.refl(A0:Nat->Prop)(w0:AY)(β:Bn->CI)(B:Bq)(nx:Nat)(w:World):CB P A0 w0 β β B nx none w w:=⟨Below.refl _ _,fun _ _ _=>rfl,fun c hc=>by cases hc⟩
theorem CB.none(hk:Below w.heap.size w w1):CB P A0 w0 β β B nx none w w1:=⟨hk,fun _ _ _=>rfl,fun c hc=>by cases hc⟩
end
def BK(β:Bn->CI)(nx:Bn)(l:CI):Bn->CI:=fun b=>if b=nx then l else β b
theorem Aq(β:Bn->CI)(nx:Bn)(l:CI):BK β nx l nx=l:=by simp[BK]
theorem Bs{B:Bq}{nx:Bn}(h:B nx=none)(β:Bn->CI)(l:CI)(hb:B b=some c):BK β nx l b=β b:=by
 have:b≠nx:=fun e=>by subst e;rw[h]at hb;cases hb
 simp[BK,this]
theorem CB.newCells{w0:AY}{β:Bn->CI}{B:Bq}{nx:Nat}{w:World}(hm:Fl P A0 w0 β B N w)(hB:B nx=Option.none){l:Ae}(hl:By l=true)(hr:Ar A0 w0 β B w l (.tuple ⟨ys⟩))(t:TypeId):
  CB P A0 w0 β (BK β nx ⟨some w.heap.size,0,0⟩) B nx (some (.cells l)) w (w.alloc (.cells ⟨ys⟩ t)) where
 keep:=(Below.refl _ _).alloc (Nat.le_refl _) _
 loc b c hb:=Bs hB _ _ hb
 box:=by
  rintro c ⟨⟩
  refine⟨⟨hl,w.heap.size,ys,t,by rw[Aq],EE w _,?_⟩,fun g hg=> ?_⟩
  ·refine A7.mono (by simp) (fun g hg hA=>⟨⟨hA.1,fun b c hb e=> ?_⟩,Below.heap_alloc w _ g hg⟩) (fun b c hb=>⟨c,C2 hB hb,CP.refl c,Bs hB _ _ hb⟩) _ _ hr
   rcases BM hb with hb|⟨rfl,_⟩
   ·rw[Bs hB _ _ hb]at e;exact hA.2 b c hb e
   rw[Aq]at e;simp at e;omega
  rw[Aq]at hg;simp at hg;subst hg;simp
theorem CB.newMap{w0:AY}{β:Bn->CI}{B:Bq}{nx:Nat}{w:World}(hB:B nx=Option.none)(kd:IntKind):
  CB P A0 w0 β (BK β nx ⟨some w.heap.size,0,0⟩) B nx (some (.mp kd (fun _=>false) fun _=> .und)) w (w.alloc (.map #[] 0)) where
 keep:=(Below.refl _ _).alloc (Nat.le_refl _) _
 loc b c hb:=Bs hB _ _ hb
 box:=by
  rintro c ⟨⟩
  refine⟨⟨w.heap.size,_,by rw[Aq],E5.new' w kd rfl,fun k=>⟨fun _=>rfl,fun h=>by cases h⟩⟩,fun g hg=> ?_⟩
  rw[Aq]at hg;simp at hg;subst hg;simp
theorem CB.newRow{w0:AY}{β:Bn->CI}{B:Bq}{nx:Nat}{w:World}(hm:Fl P A0 w0 β B N w)(hB:B nx=Option.none){e:TypeId}{k n:Nat}(hk:0<k)(hn:n<=maxLen){c:Nat->Nat->Ae}(hl:ys.length=n*k)
  (hr:∀i,i<n->∀j,j<k->∃y,ys[i*k+j]?=some y/\y.oneCell'=true/\HU A0 w0 β B w (c i j) y):
  CB P A0 w0 β (BK β nx ⟨some w.heap.size,n,n⟩) B nx (some (.row e k n c)) w (w.alloc (.cells ⟨ys⟩ e)) where
 keep:=(Below.refl _ _).alloc (Nat.le_refl _) _
 loc b c hb:=Bs hB _ _ hb
 box:=by
  rintro c ⟨⟩
  refine⟨⟨by rw[Aq],hk,hn,ys,⟨hl,?_⟩,fun i hi j hj=> ?_⟩,fun g hg=> ?_⟩
  ·rw[Aq]
   exact .inr ⟨w.heap.size,n,⟨ys⟩,rfl,Nat.zero_le _,EE w _,Nat.le_refl _,hn,by simpa using hl,by simp[<-hl]⟩
  ·obtain⟨y,hy,ho,hr⟩:=hr i hi j hj
   refine⟨y,hy,ho,Ap.mono (by simp) (fun g hg hA=>⟨⟨hA.1,fun b c hb e=> ?_⟩,Below.heap_alloc w _ g hg⟩) _ _ hr⟩
   rcases BM hb with hb|⟨rfl,_⟩
   ·rw[Bs hB _ _ hb]at e;exact hA.2 b c hb e
   rw[Aq]at e;simp at e;omega
  rw[Aq]at hg;simp at hg;subst hg;simp
theorem CB.newRowN{w0:AY}{β:Bn->CI}{B:Bq}{nx:Nat}{w:World}(hm:Fl P A0 w0 β B N w)(hB:B nx=Option.none){e:TypeId}{k n:Nat}(hk:0<k)(hn:n<=maxLen){c:Nat->Nat->Ae}(hl:ys.length=n*k)
  (hr:∀i,i<n->∀j,j<k->∃y,ys[i*k+j]?=some y/\y.oneCell'=true/\Ar A0 w0 β B w (c i j) y):
  CB P A0 w0 β (BK β nx ⟨some w.heap.size,n,n⟩) B nx (some (.rown e k n c)) w (w.alloc (.cells ⟨ys⟩ e)) where
 keep:=(Below.refl _ _).alloc (Nat.le_refl _) _
 loc b c hb:=Bs hB _ _ hb
 box:=by
  rintro c ⟨⟩
  refine⟨⟨by rw[Aq],hk,hn,ys,⟨hl,?_⟩,fun i hi j hj=> ?_⟩,fun g hg=> ?_⟩
  ·rw[Aq]
   exact .inr ⟨w.heap.size,n,⟨ys⟩,rfl,Nat.zero_le _,EE w _,Nat.le_refl _,hn,by simpa using hl,by simp[<-hl]⟩
  ·obtain⟨y,hy,ho,hr⟩:=hr i hi j hj
   refine⟨y,hy,ho,A7.mono (by simp) (fun g hg hA=>⟨⟨hA.1,fun b c hb e=> ?_⟩,Below.heap_alloc w _ g hg⟩) (fun b c hb=>⟨c,C2 hB hb,CP.refl c,Bs hB _ _ hb⟩) _ _ hr⟩
   rcases BM hb with hb|⟨rfl,_⟩
   ·rw[Bs hB _ _ hb]at e;exact hA.2 b c hb e
   rw[Aq]at e;simp at e;omega
  rw[Aq]at hg;simp at hg;subst hg;simp
end Go.Proofs.YtlieoghhkioflaaGreat
