/- The engine: FSoft, FSoft2, FSoft3, FSoft4, FSoft5, FSoft6, FSoft7, FSoft8. No condition. -/
import Derived.Test.YtlieoghhkioflaaGreatE1
import Derived.RecoverIn
import Derived.OrdersIn
import Derived.CallsIn
import Derived.RangeFuncNested
import Derived.RangeFuncLeaves
import Derived.RangeFuncRecord
import Derived.ChangeKeysEq
set_option linter.unusedSimpArgs false
set_option linter.unusedVariables false
namespace Go.Proofs.YtlieoghhkioflaaGreat
open Go Go.RowKit
variable{r:AR}{n:Nat}{ox:Bf}{x:Operand}{t:TypeId}
abbrev FW(ro:Option Nat):Fence:={Fence.wide with round:=ro}
theorem Qq(l:List Int):(List.range l.length).map (fun i=>l.getD i 0)=l:=by
 apply List.ext_getElem
 ·simp
 intro i h1 h2
 simp at h1
 simp[List.getD,h1]
theorem HC{v:Value}{u:Ae}(h:ZJ v=some u)(w:World)(A:Nat->Prop):Ap w A u v:=by
 unfold ZJ at h
 split at h<;>first|(cases h;done)|(rename_i s;cases h;refine⟨s,rfl,?_⟩;have:=Qq (s.data.toList.map fun b=>(b.toNat:Int));rw[List.length_map,Array.length_toList]at this;exact this.symm)|(simp at h;subst h;rfl)
theorem IX{f:Value->Option Ae}{w:World}{A:Nat->Prop}(hf:∀v u,f v=some u->Ap w A u v):∀(l:List Value) (u:Ae),UO f l=some u->Ap w A u (.tuple ⟨l⟩):=by
 intro l
 induction l with
 |nil=>intro u h;simp[UO]at h;subst h;rfl
 |cons v l ih=>
  intro u h
  simp only[UO]at h
  split at h
  ·rename_i a t h1 h2
   simp at h;subst h
   exact⟨v,l,rfl,hf _ _ h1,ih _ h2⟩
  cases h
theorem Ji{f:Value->Option Ae}:∀(l:List Value) (u:Ae),UO f l=some u->By u=true/\Bb u=l.length:=by
 intro l
 induction l with
 |nil=>intro u h;simp[UO]at h;subst h;simp[By,Bb]
 |cons v l ih=>
  intro u h
  simp only[UO]at h
  split at h
  ·rename_i a t h1 h2
   simp at h;subst h
   obtain⟨e1,e2⟩:=ih _ h2
   exact⟨e1,by simp[Bb,e2]⟩
  cases h
theorem NZ{v:Value}{u:Ae}(h:cv v=some u)(w:World)(A:Nat->Prop):Ap w A u v:=by
 unfold cv at h
 split at h
 ·rename_i cs
  simp at h
  obtain⟨l,hl,rfl⟩:=h
  exact⟨cs.toList,rfl,IX (fun v u h=>HC h w A) _ _ hl⟩
 exact HC h w A
def ZE(w w':World)(own:Option TypeId)(v:Ae)(x:Value):Prop:=∀e,own=some e->∃k n c,v= .view k n c/\0<k/\n<=maxLen/\∃xs,w'.ownsRow w.heap.size e k x n xs/\∀i,i<n->∀j,j<k->∃y,xs[i*k+j]?=some y/\y.oneCell'=true/\Ap w' (fun _=>False) (c i j) y
def J0(E:Df):Ae->Option At
 | .func (.func id) _=>E.S id
 |_=>none
structure Ah(P:Program)(G:Nat->Option (Nat×(Nat->Ae)))(id:FuncId)(s:At):Prop where
 ent:∀args w,(callFunc id args).run P w= .ok (.enter id args) w
 run:∀(A:Nat->Prop) (w:World) (vs:List Ae) (cs:List Value),(∀n m c,G n=some (m,c)->Ap w A (.vptr m c) (.pointer (some ⟨n,0,none⟩)))->
  Ap w A (vl vs) (.tuple ⟨cs⟩)->s.pre vs->Calls P id ⟨cs⟩ w fun e w'=>∃x,e= .returned x/\Ap w' (fun g=>A g\/w.heap.size<=g) (s.res vs) x/\Below w.heap.size w w'/\ZE w w' s.own (s.res vs) x
def OB(w:World)(A:Nat->Prop)(L:CI)(e:TypeId)(k n:Nat)(c:Nat->Nat->Ae):Prop:=
 L.n=n/\0<k/\n<=maxLen/\∃xs,w.ownsRow 0 e k (.slice (L.a.map fun g=>⟨g,0,none⟩) n L.cap) n xs/\∀i,i<n->∀j,j<k->∃y,xs[i*k+j]?=some y/\y.oneCell'=true/\Ap w A (c i j) y
structure D8(P:Program)(id:FuncId)(T:TypeId)(k:IntKind):Prop where
 ent:∀args w,(callFunc id args).run P w= .ok (.enter id args) w
 idle:∀g w,CallsDIn (FW none) 0 P id #[.pointer (some ⟨g,0,none⟩)] .returning w fun e u' w'=>e= .returned (.tuple #[])/\u'= .returning/\w'=w
 pan:∀g z y t w,w.heap[g]?=some (.cells ⟨[.int k y]⟩ t (0,0))->CallsDIn (FW none) 0 P id #[.pointer (some ⟨g,0,none⟩)] (.panicking [{v:= .iface T (.int k z),recovered:=false}]) w fun e u' w'=>
  e= .returned (.tuple #[])/\u'= .panicking [{v:= .iface T (.int k z),recovered:=true}]/\w'=w.setRow g ⟨[.int k z]⟩
structure Cw(P:Program)(G:Nat->Option (Nat×(Nat->Ae)))(id:FuncId)(pz:Nat)(s:At):Prop where
 ent:∀args w,(callFunc id args).run P w= .ok (.enter id args) w
 run:∀(A:Nat->Prop) (w:World) (vs us:List Ae) (cs ds:List Value) (L:CI) (e0:TypeId) (k n:Nat) (c:Nat->Nat->Ae),vs.length=pz->cs.length=pz->(∀g,A g->L.a≠some g)->(∀n m c,G n=some (m,c)->Ap w A (.vptr m c) (.pointer (some ⟨n,0,none⟩)))->
  Ap w A (vl vs) (.tuple ⟨cs⟩)->Ap w A (vl us) (.tuple ⟨ds⟩)->OB w A L e0 k n c->(∀e,s.own=some e->e0=e)->s.pre (vs++ .view k n c::us)->Calls P id ⟨cs++ .slice (L.a.map fun g=>⟨g,0,none⟩) n L.cap::ds⟩ w fun ex w'=>match s.own with
   |some e=>∃L' k' m c',ex= .returned (.slice (L'.a.map fun g=>⟨g,0,none⟩) m L'.cap)/\s.res (vs++ .view k n c::us)= .view k' m c'/\(⟨w,fun g=>L.a=some g⟩:AY).Under w'/\(∀g,L'.a=some g->(L.a=some g\/w.heap.size<=g)/\g<w'.heap.size)/\OB w' (fun _=>False) L' e k' m c'
   |none=>∃c',ex= .returned (.tuple #[])/\s.res (vs++ .view k n c::us)= .view k n c'/\(⟨w,fun g=>L.a=some g⟩:AY).Under w'/\(∀g,L.a=some g->g<w'.heap.size)/\OB w' (fun g=>A g\/w.heap.size<=g) L e0 k n c'
variable{P:Program}{E:Df}{A0:Nat->Prop}{w0:AY}{β:Bn->CI}{B:Bq}{nx:Nat}{w:World}{a:Act}{o:Oper}{fr:Fr}{bx:Bx}
def AF(P:Program)(A0:Nat->Prop)(w0:AY)(β:Bn->CI)(B:Bq)(nx:Nat)(w:World)(a:Act)(o:Oper)(r:AR):Prop:=
 ∃x w1 β1,(execOp a.eval o).run P w= .ok (.value x) w1/\CB P A0 w0 β β1 B nx r.new w w1/\Ar A0 w0 β1 (Dd B nx r.new) w1 r.v x
def CT(P:Program)(A0:Nat->Prop)(w0:AY)(β:Bn->CI)(B:Bq)(w:World)(a:Act)(o:Oper)(r:AR):Prop:=
 r.new=none/\∃x,(execOp a.eval o).run P w= .ok (.value x) w/\Ar A0 w0 β B w r.v x
theorem CT.mk'{x:Value}(hn:r.new=none)(hr:(execOp a.eval o).run P w= .ok (.value x) w)(hv:Ar A0 w0 β B w r.v x):CT P A0 w0 β B w a o r:=⟨hn,x,hr,hv⟩
theorem AF.plain{x:Value}(hn:r.new=none)(hr:(execOp a.eval o).run P w= .ok (.value x) w)(hv:Ar A0 w0 β B w r.v x):AF P A0 w0 β B nx w a o r:=by
 refine⟨x,w,β,hr,?_,?_⟩
 ·rw[hn];exact CB.refl ..
 rw[hn];exact hv
theorem CT.does(h:CT P A0 w0 β B w a o r):AF P A0 w0 β B nx w a o r:=by
 obtain⟨h1,x,h2,h3⟩:=h
 exact AF.plain h1 h2 h3
abbrev I5(E:Df)(A0:Nat->Prop)(w0:AY)(β:Bn->CI)(B:Bq)(w:World)(fr:Fr)(a:Act)(x:Operand):Prop:=∀ox,AI x=some ox->Ar A0 w0 β B w (ev E fr ox) (a.eval x)
theorem Td{v:Ae}{x:Value}{b:Bool}(h:Ar A0 w0 β B w v x)(e:v= .bool b):x= .bool b:=by subst e;exact h
theorem PY(ho:o.op= .move x\/o.op= .assign x)(hx:Ar A0 w0 β B w (ev E fr ox) (a.eval x)):AF P A0 w0 β B nx w a o (AG E fr bx nx (.mv ox)):=by
 refine AF.plain rfl (x:=a.eval x) ?_ hx
 rcases ho with ho|ho<;>simp[execOp,ho]
theorem QQ{c y:Operand}{oc oy:Bf}(ho:o.op= .pick c x y)(hc:Ar A0 w0 β B w (ev E fr oc) (a.eval c))(hx:Ar A0 w0 β B w (ev E fr ox) (a.eval x))(hy:Ar A0 w0 β B w (ev E fr oy) (a.eval y))
  (hp:(AG E fr bx nx (.pick oc ox oy)).pre):AF P A0 w0 β B nx w a o (AG E fr bx nx (.pick oc ox oy)):=by
 cases ht:ev E fr oc<;>simp only[AG,ht]at hp⊢ <;>first|exact hp.elim|skip
 rename_i t
 have:=Td hc ht
 refine AF.plain rfl (x:=if t then a.eval x else a.eval y) ?_ ?_
 ·simp[execOp,ho,this,asBool]
 cases t<;>simp[EA,hx,hy]
theorem DM{z:Ae}(h:DX P t=some (n,z)):∃i v,P.info? t=some i/\i.zero=some v/\i.size=n/\v.cells.size=n/\UO ZJ v.cells.toList=some z:=by
 unfold DX at h
 split at h
 ·rename_i i hi
  split at h
  ·rename_i v hv
   split at h
   ·rename_i hsz
    obtain⟨l,hl,he⟩:=Option.map_eq_some_iff.1 h
    cases he
    exact⟨i,v,hi,hv,rfl,hsz,hl⟩
   cases h
  cases h
 cases h
theorem N5{p:Nat×Ae}{N:Nat}(hm:Fl P A0 w0 β B N w)(hB:B nx=none)(ho:o.op= .alloc t)(hz:DX P t=some p):AF P A0 w0 β B nx w a o (AG E fr bx nx (.alloc p.2)):=by
 obtain⟨n,z⟩:=p
 obtain⟨i,v,hi,hv,hn,hs,hc⟩:=DM hz
 refine⟨.pointer (some ⟨w.heap.size,0,none⟩),w.alloc (.cells ⟨v.cells.toList⟩ t),_,?_,CB.newCells hm hB (Ji _ _ hc).1 (Ap.rep _ _ (IX (fun v u h=>HC h w _) _ _ hc)) t,?_⟩
 ·simp[execOp,ho,Instr.alloc,zeroValue,typeInfo,hi,hv,newVar,newRow]
 exact⟨⟨.cells z,by simp[Dd,AG],rfl⟩,w.heap.size,by rw[Aq],rfl⟩
theorem Do{v:Ae}{x:Value}(h:Bg n v)(hr:Ar A0 w0 β B w v x):By (cellsOf v)=true/\Bb (cellsOf v)=n/\Ar A0 w0 β B w (cellsOf v) (.tuple ⟨x.cells.toList⟩)/\x.cells.size=n:=by
 cases v with
 |agg l=>
  obtain⟨ys,rfl,h2⟩:=hr
  obtain⟨h0,h1⟩:=h
  refine⟨h0,h1,h2,?_⟩
  have:=A7.len h2 (CC h0)
  simpa[Value.cells,h1]using this
 |und=>exact h.elim
 |tup l=>exact h.elim
 |cons a b=>exact h.elim
 |nil=>exact h.elim
 |int k m=>simp only[Bg]at h;subst h;have e:x=_:=hr;subst e;exact⟨rfl,rfl,⟨_,[],rfl,rfl,rfl⟩,rfl⟩
 |bool b=>simp only[Bg]at h;subst h;have e:x=_:=hr;subst e;exact⟨rfl,rfl,⟨_,[],rfl,rfl,rfl⟩,rfl⟩
 |strv n f=>simp only[Bg]at h;subst h;obtain⟨s,rfl,hs⟩:=hr;exact⟨rfl,rfl,⟨_,[],rfl,⟨s,rfl,hs⟩,rfl⟩,rfl⟩
 |nils=>simp only[Bg]at h;subst h;have e:x=_:=hr;subst e;exact⟨rfl,rfl,⟨_,[],rfl,rfl,rfl⟩,rfl⟩
 |nilp=>simp only[Bg]at h;subst h;have e:x=_:=hr;subst e;exact⟨rfl,rfl,⟨_,[],rfl,rfl,rfl⟩,rfl⟩
 |nilf=>simp only[Bg]at h;subst h;have e:x=_:=hr;subst e;exact⟨rfl,rfl,⟨_,[],rfl,rfl,rfl⟩,rfl⟩
 |nilm=>simp only[Bg]at h;subst h;have e:x=_:=hr;subst e;exact⟨rfl,rfl,⟨_,[],rfl,rfl,rfl⟩,rfl⟩
 |view k m c=>simp only[Bg]at h;subst h;obtain⟨p,q,e,hr'⟩:=hr;subst e;exact⟨rfl,rfl,⟨_,[],rfl,⟨p,q,rfl,hr'⟩,rfl⟩,rfl⟩
 |vptr m c=>simp only[Bg]at h;subst h;obtain⟨p,q,e,hr'⟩:=hr;subst e;exact⟨rfl,rfl,⟨_,[],rfl,⟨p,q,rfl,hr'⟩,rfl⟩,rfl⟩
 |ptr b off=>simp only[Bg]at h;subst h;obtain⟨p,q,hq,e⟩:=hr;subst e;exact⟨rfl,rfl,⟨_,[],rfl,⟨p,q,hq,rfl⟩,rfl⟩,rfl⟩
 |own b=>simp only[Bg]at h;subst h;obtain⟨p,e⟩:=hr;subst e;exact⟨rfl,rfl,⟨_,[],rfl,⟨p,rfl⟩,rfl⟩,rfl⟩
 |rptr b i off=>simp only[Bg]at h;subst h;obtain⟨e0,k,m,h1,h2,q,hq,e⟩:=hr;subst e;exact⟨rfl,rfl,⟨_,[],rfl,⟨e0,k,m,h1,h2,q,hq,rfl⟩,rfl⟩,rfl⟩
 |yld b=>simp only[Bg]at h;subst h;obtain⟨g,fr,ps,ca,cb,st,q,e⟩:=hr;subst e;exact⟨rfl,rfl,⟨_,[],rfl,⟨g,fr,ps,ca,cb,st,q,rfl⟩,rfl⟩,rfl⟩
 |mapb b=>simp only[Bg]at h;subst h;obtain⟨p,q,hq,e⟩:=hr;subst e;exact⟨rfl,rfl,⟨_,[],rfl,⟨p,q,hq,rfl⟩,rfl⟩,rfl⟩
 |ifc T k m=>simp only[Bg]at h;subst h;have e:x=_:=hr;subst e;exact⟨rfl,rfl,⟨_,[],rfl,rfl,rfl⟩,rfl⟩
 |tv k m c=>simp only[Bg]at h;subst h;obtain⟨p,e,hr'⟩:=hr;subst e;exact⟨rfl,rfl,⟨_,[],rfl,⟨p,rfl,hr'⟩,rfl⟩,rfl⟩
 |osl b off m=>simp only[Bg]at h;subst h;obtain⟨e0,k,m',h1,h2,ad,cap,e,h3⟩:=hr;subst e;exact⟨rfl,rfl,⟨_,[],rfl,⟨e0,k,m',h1,h2,ad,cap,rfl,h3⟩,rfl⟩,rfl⟩
 |mview kd has f=>simp only[Bg]at h;subst h;obtain⟨g,m,e,hr'⟩:=hr;subst e;exact⟨rfl,rfl,⟨_,[],rfl,⟨g,m,rfl,hr'⟩,rfl⟩,rfl⟩
 |func fn l=>simp only[Bg]at h;subst h;obtain⟨ys,e,h2⟩:=hr;subst e;exact⟨rfl,rfl,⟨_,[],rfl,⟨ys,rfl,h2⟩,rfl⟩,rfl⟩
theorem R9{k e:TypeId}{kd:IntKind}(hB:B nx=none)(ho:o.op= .makeMap t none):AF P A0 w0 β B nx w a o (AG E fr bx nx (.mkm kd)):=by
 refine⟨.map (some w.heap.size),w.alloc (.map #[] 0),_,?_,CB.newMap hB kd,?_⟩
 ·simp[execOp,ho,Instr.makeMap]
 exact⟨⟨kd,.mp kd (fun _=>false) fun _=> .und,by simp[Dd,AG],rfl⟩,w.heap.size,by rw[Aq],rfl⟩
theorem UE{N:Nat}(hm:Fl P A0 w0 β B N w)(hB:B nx=none)(ho:o.op= .box t x)(hx:Ar A0 w0 β B w (ev E fr ox) (a.eval x))
  (hp:(AG E fr bx nx (.box n ox)).pre):AF P A0 w0 β B nx w a o (AG E fr bx nx (.box n ox)):=by
 obtain⟨h1,h2,h3,h4⟩:=Do (n:=n) hp hx
 refine⟨.pointer (some ⟨w.heap.size,0,none⟩),w.alloc (.cells ⟨(a.eval x).cells.toList⟩ t),_,?_,CB.newCells hm hB h1 h3 t,?_⟩
 ·simp[execOp,ho,Instr.box,newVar,newRow]
 exact⟨⟨.cells (cellsOf (ev E fr ox)),by simp[Dd,AG],rfl⟩,w.heap.size,by rw[Aq],rfl⟩
end Go.Proofs.YtlieoghhkioflaaGreat
/- The engine,part 7: loads,places,numbers. No condition. -/
namespace Go.Proofs.YtlieoghhkioflaaGreat
open Go Go.RowKit
variable{ag:Bool}{s:List Sh}{g:Nat}{t:TypeId}
variable{P:Program}{E:Df}{A0:Nat->Prop}{w0:AY}{β:Bn->CI}{B:Bq}{nx:Nat}{w:World}{a:Act}{o:Oper}{fr:Fr}{bx:Bx}
theorem G7(h:T2 P t=some (ag,s)):BY P t=some ag/\∃i,P.info? t=some i/\i.size=s.length/\(ag=false->s.length=1):=by
 unfold T2 at h
 split at h
 ·rename_i a' s' i h1 h2 h3
  split at h
  ·rename_i hc
   simp at h
   obtain⟨rfl,rfl⟩:=h
   exact⟨h1,i,h3,hc.1,hc.2⟩
  cases h
 cases h
theorem Eh(h:BY P t=some ag)(w:World):(isAgg t).run P w= .ok ag w:=by
 unfold BY at h
 split at h
 ·rename_i hu;simp at h;subst h;simp[isAgg,run_underlying hu]
 ·rename_i hu;simp at h;subst h;simp[isAgg,run_underlying hu]
 ·rename_i d hn1 hn2 hu
  simp at h;subst h
  simp only[isAgg,Sem.run_bind,run_underlying hu,Result.andThen_ok]
  rfl
 cases h
theorem add_lit(g off j:Nat):(⟨g,off,none⟩:Addr).add j=⟨g,off+j,none⟩:=by unfold Addr.add;split<;>simp_all
theorem Dt(h:T2 P t=some (ag,s)){off:Nat}{zs:List Value}(hl:zs.length=s.length)(hz:∀j,j<zs.length->w.cell? ⟨g,off+j,none⟩=zs[j]?):
  (loadVar t ⟨g,off,none⟩).run P w= .ok (if ag then .agg ⟨zs⟩else zs.getD 0 undef) w:=by
 obtain⟨h1,i,h2,h3,h4⟩:=G7 h
 have hlc:=run_loadCells_list (P:=P) w ⟨g,off,none⟩ zs (fun j v hv=>by
  rw[add_lit,hz j (by rcases Nat.lt_or_ge j zs.length with h|h;exact h;simp[List.getElem?_eq_none h]at hv)];exact hv)
 cases ag with
 |true=>
  simp[loadVar,Eh h1,sizeOf,typeInfo,h2,h3,<-hl,hlc]
 |false=>
  have h5:=h4 rfl
  have h0:=hz 0 (by omega)
  simp only[Nat.add_zero]at h0
  cases zs with
  |nil=>simp at hl;omega
  |cons y ys=>simp[loadVar,Eh h1,h0]
theorem KV{A:Nat->Prop}:∀(s:List Sh) (f:Nat->Ae) (j:Nat) (zs:List Value),zs.length=s.length->Hx s f j->(∀i,i<zs.length->Ap w A (f (j+i)) (zs.getD i undef))->Ap w A (Jv s f j) (.tuple ⟨zs⟩):=by
 intro s
 induction s with
 |nil=>intro f j zs hl _ _;have:zs=[]:=List.eq_nil_of_length_eq_zero hl;subst this;rfl
 |cons c s ih=>
  intro f j zs hl hok hr
  cases zs with
  |nil=>simp at hl
  |cons z zs=>
   refine⟨z,zs,rfl,?_,ih f (j+1) zs (by simpa using hl) hok.2 fun i hi=> ?_⟩
   ·have h0:=hr 0 (by simp)
    simp only[Nat.add_zero,List.getD_cons_zero]at h0
    have hc:=hok.1
    cases c with
    |int k=>simp only[Ev]at hc;simp only[M6];rw[hc]at h0;exact h0
    |bool=>simp only[Ev]at hc;simp only[M6];rw[hc]at h0;exact h0
    |slc k=>
     simp only[Ev]at hc
     simp only[M6]
     rcases hc with hc|hc
     ·rw[hc]at h0⊢
      have:z= .slice none 0 0:=h0
      subst this
      exact⟨none,0,rfl,by decide,Nat.le_refl _,fun h=>absurd h (by simp[Ae.slen])⟩
     rw[hc]at h0;exact h0
    |any=>exact h0
   have:=hr (i+1) (by simpa using hi)
   rw[show j+1+i=j+(i+1)from by omega]
   simpa using this
theorem KX:∀(s:List Sh) (f:Nat->Ae) (j:Nat),Bb (Jv s f j)=s.length:=by
 intro s;induction s with
 |nil=>intro f j;rfl
 |cons c s ih=>intro f j;simp[Jv,Bb,ih]
theorem Gh{l:Ae}{zs:List Value}(h:Ar A0 w0 β B w l (.tuple ⟨zs⟩))(h1:ag=false->0<Bb l):Ar A0 w0 β B w (WS ag l) (if ag then .agg ⟨zs⟩else zs.getD 0 undef):=by
 cases ag with
 |true=>exact⟨zs,rfl,h⟩
 |false=>
  obtain⟨y,hy,hr⟩:=A7.get1 h 0 (h1 rfl)
  simp only[Bool.false_eq_true,if_false,WS]
  rw[List.getD_eq_getElem?_getD,hy]
  exact hr
theorem HQ{l:Ae}{ys:List Value}(h:Ar A0 w0 β B w l (.tuple ⟨ys⟩))(off n:Nat)(hn:off+n<=Bb l):∃zs:List Value,zs.length=n/\(∀j,j<n->zs[j]?=ys[off+j]?)/\(∀j,j<n->(ys[off+j]?).isSome)/\Ar A0 w0 β B w (F8 l off n) (.tuple ⟨zs⟩):=by
 have hall:∀j,j<n->∃y,ys[off+j]?=some y/\Ar A0 w0 β B w (Az l (off+j)) y:=fun j hj=>A7.get1 h (off+j) (by omega)
 refine⟨(List.range n).map fun j=>ys.getD (off+j) undef,by simp,fun j hj=> ?_,fun j hj=> ?_,?_⟩
 ·obtain⟨y,hy,_⟩:=hall j hj
  simp[hj,hy]
 ·obtain⟨y,hy,_⟩:=hall j hj
  simp[hy]
 refine A7.tab _ n 0 _ (by simp) fun i hi=> ?_
 obtain⟨y,hy,hr⟩:=hall i hi
 simp only[Nat.zero_add]
 simp[hi,hy]
 exact hr
theorem Jr{A:Nat->Prop}{m:Nat}{c:Nat->Ae}{off:Nat}(h:∀j,j<m->∃y,w.cell? ⟨g,off+j,none⟩=some y/\Ap w A (c j) y)(n:Nat)(hn:n<=m):
  ∃zs:List Value,zs.length=n/\(∀j,j<zs.length->w.cell? ⟨g,off+j,none⟩=zs[j]?)/\∀i,i<zs.length->Ap w A (c (0+i)) (zs.getD i undef):=by
 refine⟨(List.range n).map fun j=>(w.cell? ⟨g,off+j,none⟩).getD undef,by simp,fun j hj=> ?_,fun i hi=> ?_⟩
 ·simp at hj
  obtain⟨y,hy,_⟩:=h j (by omega)
  simp[hj,hy]
 simp at hi
 obtain⟨y,hy,hr⟩:=h i (by omega)
 simp[hi,hy]
 exact hr
theorem Dx{ys:List Value}{fz:Nat×Nat}(h:w.heap[g]?=some (.cells ⟨ys⟩ t fz))(j:Nat):w.cell? ⟨g,j,none⟩=ys[j]?:=by simp[World.cell?,h]
theorem Ox{N:Nat}(hm:Fl P A0 w0 β B N w)(hbx:∀b c,B b=some c->Ab bx b=some c){x:Operand}{ox:Bf}(ho:o.op= .load t x)(hs:T2 P t=some (ag,s))(hx:Ar A0 w0 β B w (ev E fr ox) (a.eval x))
  (hp:(AG E fr bx nx (.load ag s ox)).pre):CT P A0 w0 β B w a o (AG E fr bx nx (.load ag s ox)):=by
 obtain⟨_,_,_,_,h1⟩:=G7 hs
 cases hv:ev E fr ox<;>simp only[AG,hv]at hp hx⊢ <;>first|exact hp.elim|skip
 ·-- vptr
  rename_i m c
  obtain⟨g,off,he,hg,hA,hc⟩:=hx
  obtain⟨zs,hz1,hz2,hz3⟩:=Jr hc s.length hp.1
  refine CT.mk' rfl (x:=if ag then .agg ⟨zs⟩else zs.getD 0 undef) ?_ ?_
  ·simp[execOp,ho,he,Instr.loadAt,Instr.sureAddr,Dt hs hz1 hz2]
  exact Gh (Ap.rep _ _ (KV s c 0 zs hz1 hp.2 hz3)) fun h=>by rw[KX];have:=h1 h;omega
 ·-- ptr
  rename_i b off
  obtain⟨⟨l0,hl0,hpb⟩,g,hg,he⟩:=hx
  obtain⟨l,hl⟩:∃l,B b=some (.cells l):=by
   cases l0 with
   |cells l=>exact⟨l,hl0⟩
   |it=>simp[hbx b _ hl0]at hp
   |wc=>simp[hbx b _ hl0]at hp
   |_=>simp[ptrB]at hpb
  simp only[hbx b _ hl]at hp⊢
  obtain⟨hlb,g',ys,t',h2,h3,h4⟩:=hm.bx b _ hl
  rw[hg]at h2;cases h2
  obtain⟨zs,hz1,hz2,hz3,hz4⟩:=HQ h4 off s.length hp
  refine CT.mk' rfl (x:=if ag then .agg ⟨zs⟩else zs.getD 0 undef) ?_ ?_
  ·have:=Dt (w:=w) hs (g:=g) (off:=off) hz1 (fun j hj=>by rw[Dx h3,hz2 j (by omega)])
   simp[execOp,ho,he,Instr.loadAt,Instr.sureAddr,this]
  exact Gh hz4 fun h=>by rw[F8,HG];have:=h1 h;omega
 -- rptr
 rename_i b i off
 obtain⟨e,k,n,hl,hi,g,hg,he⟩:=hx
 have hik:i*k+k<=n*k:=by rw[<-Nat.succ_mul];exact Nat.mul_le_mul_right k hi
 have hcell:∀xs,w.ownsRow 0 e k (.slice ((β b).a.map fun g=>⟨g,0,none⟩) n (β b).cap) n xs->∀j,j<n*k->w.cell? ⟨g,j,none⟩=xs[j]?:=by
  rintro xs ⟨hxl,how⟩ j hj
  rcases how with⟨he0,hn0⟩|⟨g',cap,cur,e1,e2,e3,e4,e5,e6,e7⟩
  ·subst hn0;omega
  rw[hg]at e1
  simp at e1
  rw[<-e1.1]at e3
  rw[<-e7,List.getElem?_take_of_lt hj]
  simp[World.cell?,e3]
 rcases hl.cases with⟨c,hl⟩|⟨c,hl⟩
 ·simp only[hbx b _ hl]at hp⊢
  obtain⟨hn,hk,hmax,xs,how,hc⟩:=hm.bx b _ hl
  obtain⟨zs,hz1,hz2,hz3⟩:=Jr (w:=w) (A:=Al A0 w0 B β) (m:=s.length) (c:=fun j=>c i (off+j)) (g:=g) (off:=i*k+off) (fun j hj=>by
   obtain⟨y,hy,_,hr⟩:=hc i hi (off+j) (by omega)
   refine⟨y,?_,hr⟩
   rw[hcell xs how _ (by omega),Nat.add_assoc];exact hy) s.length (Nat.le_refl _)
  refine CT.mk' rfl (x:=if ag then .agg ⟨zs⟩else zs.getD 0 undef) ?_ ?_
  ·have:=Dt hs hz1 hz2
   simp[execOp,ho,he,Instr.loadAt,Instr.sureAddr,this]
  exact Gh (Ap.rep _ _ (KV s _ 0 zs hz1 hp.2 hz3)) fun h=>by rw[KX];have:=h1 h;omega
 simp only[hbx b _ hl]at hp⊢
 obtain⟨hn,hk,hmax,xs,how,hc⟩:=hm.bx b _ hl
 have hall:∀j,j<s.length->∃y,xs[i*k+(off+j)]?=some y/\Ar A0 w0 β B w (c i (off+j)) y:=fun j hj=>by
  obtain⟨y,hy,_,hr⟩:=hc i hi (off+j) (by omega)
  exact⟨y,hy,hr⟩
 have hz:∀j,j<s.length->((List.range s.length).map fun j=>xs.getD (i*k+(off+j)) undef)[j]?=xs[i*k+(off+j)]?:=fun j hj=>by
  obtain⟨y,hy,_⟩:=hall j hj
  simp[hj,hy]
 refine CT.mk' rfl (x:=if ag then .agg ⟨(List.range s.length).map fun j=>xs.getD (i*k+(off+j)) undef⟩else((List.range s.length).map fun j=>xs.getD (i*k+(off+j)) undef).getD 0 undef) ?_ ?_
 ·have:=Dt (w:=w) hs (g:=g) (off:=i*k+off) (zs:=(List.range s.length).map fun j=>xs.getD (i*k+(off+j)) undef) (by simp) (fun j hj=>by
   simp at hj
   rw[hz j hj,hcell xs how _ (by omega),Nat.add_assoc])
  simp[execOp,ho,he,Instr.loadAt,Instr.sureAddr,this]
 refine Gh (A7.tab _ s.length 0 _ (by simp) fun j hj=> ?_) fun h=>by rw[HG];have:=h1 h;omega
 obtain⟨y,hy,hr⟩:=hall j hj
 simp only[Nat.zero_add]
 rw[List.getD_eq_getElem?_getD,hz j hj,hy]
 exact hr
theorem Qp{N:Nat}(hm:Fl P A0 w0 β B N w)(hbx:∀b c,B b=some c->Ab bx b=some c){x:Operand}{ox:Bf}(ho:o.op= .load t x)(hs:T2 P t=some (ag,s))(hx:Ar A0 w0 β B w (ev E fr ox) (a.eval x))
  (hp:(AG E fr bx nx (.load ag s ox)).pre):AF P A0 w0 β B nx w a o (AG E fr bx nx (.load ag s ox)):=(Ox hm hbx ho hs hx hp).does
end Go.Proofs.YtlieoghhkioflaaGreat
/- The engine,part 8: numbers,places,slices,what is made. No condition. -/
namespace Go.Proofs.YtlieoghhkioflaaGreat
open Go Go.RowKit
variable{op:BinOp}{c:Call}{N i n:Nat}{ox oy:Bf}{x y:Operand}{e t u:TypeId}
variable{P:Program}{E:Df}{A0:Nat->Prop}{w0:AY}{β:Bn->CI}{B:Bq}{nx:Nat}{w:World}{a:Act}{o:Oper}{fr:Fr}{bx:Bx}
theorem Ko{k k':IntKind}{x y:Int}(hk:match op with| .shl=>True| .shr=>True|_=>k=k')(hp:(LU op k x y).pre):(binOp op t (.int k x) (.int k' y)).run P w= .ok (match(LU op k x y).v with| .int k n=> .int k n| .bool b=> .bool b|_=>undef) w:=by
 cases op<;>simp only[LU]at hp hk⊢ <;>(try subst hk)<;>first
  |exact hp.elim
  |(simp[binOp,Op.intArith];done)
  |(simp[binOp,Op.intCmp];done)
  |(simp[binOp,Op.intDiv,hp];done)
  |(rw[binOp_and,intBits_and];rfl)
  |(rw[binOp_or,intBits_or];rfl)
  |(rw[binOp_xor,intBits_xor];rfl)
  |(rw[binOp_shl,shift_shl _ _ _ _ hp.1 hp.2];rfl)
  |(rw[binOp_shr,shift_shr _ _ _ _ hp.1 hp.2];rfl)
theorem Nw(op:BinOp)(k:IntKind)(x y:Int):(LU op k x y).new=none:=by cases op<;>rfl
theorem Sn(op:BinOp)(k:IntKind)(x y:Int)(hp:(LU op k x y).pre):Ar A0 w0 β B w (LU op k x y).v (match(LU op k x y).v with| .int k n=> .int k n| .bool b=> .bool b|_=>undef):=by
 cases op<;>first|exact rfl|exact hp.elim
theorem Qm(ho:o.op= .binOp op t x y u)(hx:Ar A0 w0 β B w (ev E fr ox) (a.eval x))(hy:Ar A0 w0 β B w (ev E fr oy) (a.eval y))
  (hp:(AG E fr bx nx (.bin op ox oy)).pre):CT P A0 w0 β B w a o (AG E fr bx nx (.bin op ox oy)):=by
 cases hv:ev E fr ox<;>cases hu:ev E fr oy<;>simp only[AG,hv,hu]at hp hx hy⊢ <;>first|exact hp.elim|skip
 rename_i k n k' n'
 obtain⟨hk,hp⟩:=hp
 have e1:a.eval x= .int k n:=hx
 have e2:a.eval y= .int k' n':=hy
 refine CT.mk' (Nw op k n n') ?_ (Sn op k n n' hp)
 have hg:(eqGuard op t x y (.int k n) (.int k' n')).run P w= .ok () w:=by
  simp only[eqGuard];split<;>rfl
 simp[execOp,ho,e1,e2,hg,Ko hk hp]
theorem SO(ho:o.op= .binOp op t x y u)(hx:Ar A0 w0 β B w (ev E fr ox) (a.eval x))(hy:Ar A0 w0 β B w (ev E fr oy) (a.eval y))
  (hp:(AG E fr bx nx (.bin op ox oy)).pre):AF P A0 w0 β B nx w a o (AG E fr bx nx (.bin op ox oy)):=(Qm ho hx hy hp).does
theorem Lc{neg:Bool}(ho:o.op= .binOp op t x y u)(ht:P.underlying t=some .bool)(hop:op=if neg then .neq else .eql)(hx:Ar A0 w0 β B w (ev E fr ox) (a.eval x))(hy:Ar A0 w0 β B w (ev E fr oy) (a.eval y))
  (hp:(AG E fr bx nx (.binb neg ox oy)).pre):AF P A0 w0 β B nx w a o (AG E fr bx nx (.binb neg ox oy)):=by
 cases hv:ev E fr ox<;>cases hu:ev E fr oy<;>simp only[AG,hv,hu]at hp hx hy⊢ <;>first|exact hp.elim|skip
 rename_i b b'
 have e1:a.eval x= .bool b:=hx
 have e2:a.eval y= .bool b':=hy
 have hg:(eqGuard op t x y (.bool b) (.bool b')).run P w= .ok () w:=by
  simp only[eqGuard];split<;>rfl
 cases neg
 ·simp only[Bool.false_eq_true,if_false]at hop
  subst hop
  exact AF.plain rfl (x:= .bool (b==b')) (by simp[execOp,ho,e1,e2,hg,binOp,run_equal_bool _ _ _ _ ht]) rfl
 simp only[if_true]at hop
 subst hop
 exact AF.plain rfl (x:= .bool (b !=b')) (by simp[execOp,ho,e1,e2,hg,binOp,run_equal_bool _ _ _ _ ht];cases b<;>cases b'<;>rfl) rfl
theorem Wx{op:UnOp}(ho:o.op= .unOp op t x)(hx:Ar A0 w0 β B w (ev E fr ox) (a.eval x))
  (hp:(AG E fr bx nx (.un op ox)).pre):AF P A0 w0 β B nx w a o (AG E fr bx nx (.un op ox)):=by
 cases op<;>cases hv:ev E fr ox<;>simp only[AG,hv]at hp hx⊢ <;>first|exact hp.elim|skip
 ·rename_i k n
  have e1:a.eval x= .int k n:=hx
  exact AF.plain rfl (x:= .int k (k.wrap (0-n))) (by simp[execOp,ho,e1,Op.unary,Op.intArith]) rfl
 rename_i b
 have e1:a.eval x= .bool b:=hx
 exact AF.plain rfl (x:= .bool !b) (by simp[execOp,ho,e1,Op.unary]) rfl
theorem Qs{s d:TypeId}{k k0:IntKind}(ho:o.op= .convert s d x)(hs:P.underlying s=some (.int k0))(hd:P.underlying d=some (.int k))(hx:Ar A0 w0 β B w (ev E fr ox) (a.eval x))
  (hp:(AG E fr bx nx (.conv k ox)).pre):AF P A0 w0 β B nx w a o (AG E fr bx nx (.conv k ox)):=by
 cases hv:ev E fr ox<;>simp only[AG,hv]at hp hx⊢ <;>first|exact hp.elim|skip
 rename_i k' n
 have e1:a.eval x= .int k' n:=hx
 exact AF.plain rfl (x:= .int k (k.wrap n)) (by simp[execOp,ho,e1,Go.convert,run_underlying hs,run_underlying hd,Conv.intToInt]) rfl
theorem WB{l:List Operand}{r:List Bf}(h:J3 l=some r)(hx:∀x∈l,I5 E A0 w0 β B w fr a x):Ar A0 w0 β B w (ZT E fr r) (.tuple ⟨l.map a.eval⟩):=by
 induction l generalizing r with
 |nil=>simp[J3]at h;subst h;rfl
 |cons x l ih=>
  simp only[J3]at h
  split at h
  ·rename_i ox r' h1 h2
   simp at h;subst h
   exact⟨_,_,rfl,hx x (by simp) ox h1,ih h2 fun y hy=>hx y (by simp[hy])⟩
  cases h
theorem Ra{fn:Fn}{first caps:Array Operand}{l:List Bf}(ho:o.op= .makeFunc fn first caps)(hf:first.size=0)(hl:J3 caps.toList=some l)(hx:∀x∈caps.toList,I5 E A0 w0 β B w fr a x):
  CT P A0 w0 β B w a o (AG E fr bx nx (.mkf fn l)):=by
 have hf':first= #[]:=by simpa using hf
 refine CT.mk' rfl (x:= .func fn #[] ⟨caps.toList.map a.eval⟩) ?_ ⟨_,rfl,WB hl hx⟩
 simp[execOp,ho,Instr.makeFunc,hf']
 apply Array.toList_inj.1;simp
theorem RC{fs:Array Field}{f:Field}(ho:o.op= .fieldAddr t x i)(ht:P.underlying t=some (.struct fs))(hf:fs[i]?=some f)(hn:BL P f.type=some (n+1))
  (hx:Ar A0 w0 β B w (ev E fr ox) (a.eval x)) (hp:(AG E fr bx nx (.fld f.offset ox)).pre):CT P A0 w0 β B w a o (AG E fr bx nx (.fld f.offset ox)):=by
 obtain⟨inf,hi,hn⟩:=Option.map_eq_some_iff.1 hn
 have key:∀g off,a.eval x= .pointer (some ⟨g,off,none⟩)->(execOp a.eval o).run P w= .ok (.value (.pointer (some ⟨g,off+f.offset,none⟩))) w:=by
  intro g off he
  simp[execOp,ho,he,Instr.fieldAt,run_underlying ht,hf,Instr.sureAddr,fieldPlace,sizeOf,typeInfo,hi,hn,add_lit]
 cases hv:ev E fr ox<;>simp only[AG,hv]at hp hx⊢ <;>first|exact hp.elim|skip
 ·rename_i m c
  obtain⟨g,off,he,hg,hA,hc⟩:=hx
  refine CT.mk' rfl (key g off he) ⟨g,_,rfl,hg,hA,fun j hj=> ?_⟩
  obtain⟨y,hy,hr⟩:=hc (f.offset+j) (by omega)
  exact⟨y,by rw[Nat.add_assoc];exact hy,hr⟩
 ·rename_i b off
  obtain⟨hl,g,hg,he⟩:=hx
  exact CT.mk' rfl (key g off he) ⟨hl,g,hg,rfl⟩
 rename_i b i off
 obtain⟨e,k,n,hl,hi,g,hg,he⟩:=hx
 exact CT.mk' rfl (key g _ he) ⟨e,k,n,hl,hi,g,hg,by rw[Nat.add_assoc]⟩
theorem Su{fn:Fn}{first caps:Array Operand}{l:List Bf}(ho:o.op= .makeFunc fn first caps)(hf:first.size=0)(hl:J3 caps.toList=some l)(hx:∀x∈caps.toList,I5 E A0 w0 β B w fr a x):
  AF P A0 w0 β B nx w a o (AG E fr bx nx (.mkf fn l)):=(Ra ho hf hl hx).does
theorem TD{fs:Array Field}{f:Field}(ho:o.op= .fieldAddr t x i)(ht:P.underlying t=some (.struct fs))(hf:fs[i]?=some f)(hn:BL P f.type=some (n+1))
  (hx:Ar A0 w0 β B w (ev E fr ox) (a.eval x)) (hp:(AG E fr bx nx (.fld f.offset ox)).pre):AF P A0 w0 β B nx w a o (AG E fr bx nx (.fld f.offset ox)):=(RC ho ht hf hn hx hp).does
theorem SJ{i:Operand}{oi:Bf}{k:Nat}(hm:Fl P A0 w0 β B N w)(hbx:∀b c,B b=some c->Ab bx b=some c)(ho:o.op= .indexAddr t x i)(ht:P.underlying t=some (.slice e))(hk:BL P e=some k)
  (hx:Ar A0 w0 β B w (ev E fr ox) (a.eval x)) (hi:Ar A0 w0 β B w (ev E fr oi) (a.eval i)) (hp:(AG E fr bx nx (.idx k ox oi)).pre):AF P A0 w0 β B nx w a o (AG E fr bx nx (.idx k ox oi)):=by
 obtain⟨inf,hinf,hn⟩:=Option.map_eq_some_iff.1 hk
 cases hv:ev E fr ox<;>cases hu:ev E fr oi<;>simp only[AG,hv,hu]at hp hx hi⊢ <;>first|exact hp.elim|skip
 ·rename_i k' n c ik z
  obtain⟨rfl,h0,h1⟩:=hp
  have e2:a.eval i= .int ik z:=hi
  obtain⟨ad,cap,he,hmx,_,hc⟩:=hx
  obtain⟨g,off,rfl,hg,hA,hc⟩:=hc (by omega)
  refine AF.plain rfl (x:= .pointer (some ⟨g,off+z.toNat*k,none⟩)) ?_ ⟨g,_,rfl,hg,hA,fun j hj=>by obtain⟨y,hy,_,hr⟩:=hc z.toNat (by omega) j hj;exact⟨y,hy,hr⟩⟩
  simp[execOp,ho,he,e2,Instr.indexAt,asIntOf,run_underlying ht,h0,h1,sizeOf,typeInfo,hinf,hn,add_lit]
 ·rename_i b ik z
  obtain⟨⟨e',k',n,hl0⟩,he⟩:=hx
  have key:k=k'/\0<=z/\z<n->(β b).n=n->(∃xs,w.ownsRow 0 e' k' (.slice ((β b).a.map fun g=>⟨g,0,none⟩) n (β b).cap) n xs)->AF P A0 w0 β B nx w a o ⟨True,.rptr b z.toNat 0,none⟩:=by
   rintro⟨rfl,h0,h1⟩ hn' ⟨xs,hxl,how⟩
   have e2:a.eval i= .int ik z:=hi
   rcases how with⟨_,hn0⟩|⟨g,cap,cur,e1,_⟩
   ·subst hn0;omega
   have hg:(β b).a=some g:=by
    cases ha:(β b).a with
    |none=>simp[ha]at e1
    |some g'=>simp[ha]at e1;rw[e1.1]
   refine AF.plain rfl (x:= .pointer (some ⟨g,z.toNat*k+0,none⟩)) ?_ ⟨e',k,n,hl0,by omega,g,hg,rfl⟩
   simp[execOp,ho,he,e2,Instr.indexAt,asIntOf,run_underlying ht,hg,hn',h0,h1,sizeOf,typeInfo,hinf,hn,add_lit]
  rcases hl0.cases with⟨c,hl⟩|⟨c,hl⟩
  ·simp only[hbx b _ hl]at hp⊢
   obtain⟨hn',hk0,hmax,xs,how,hc⟩:=hm.bx b _ hl
   exact key hp hn' ⟨xs,how⟩
  simp only[hbx b _ hl]at hp⊢
  obtain⟨hn',hk0,hmax,xs,how,hc⟩:=hm.bx b _ hl
  exact key hp hn' ⟨xs,how⟩
 rename_i b off m ik z
 obtain⟨e',k',M,hl0,hoff,ad,cap,he,hcap,ha⟩:=hx
 have key:k=k'/\0<=z/\z<m->AF P A0 w0 β B nx w a o ⟨True,.rptr b (off+z.toNat) 0,none⟩:=by
  rintro⟨rfl,h0,h1⟩
  have e2:a.eval i= .int ik z:=hi
  obtain⟨g,hg,rfl⟩:=ha.1 (by omega)
  refine AF.plain rfl (x:= .pointer (some ⟨g,(off+z.toNat)*k+0,none⟩)) ?_ ⟨e',k,M,hl0,by omega,g,hg,rfl⟩
  simp[execOp,ho,he,e2,Instr.indexAt,asIntOf,run_underlying ht,h0,h1,sizeOf,typeInfo,hinf,hn,add_lit,Nat.add_mul]
 rcases hl0.cases with⟨c,hl⟩|⟨c,hl⟩
 ·simp only[hbx b _ hl]at hp⊢
  exact key hp
 simp only[hbx b _ hl]at hp⊢
 exact key hp
theorem QX{i:Operand}{oi:Bf}{k:Nat}(ho:o.op= .indexAddr t x i)(ht:P.underlying t=some (.array n e))(hk:BL P e=some k)
  (hx:Ar A0 w0 β B w (ev E fr ox) (a.eval x)) (hi:Ar A0 w0 β B w (ev E fr oi) (a.eval i)) (hp:(AG E fr bx nx (.idxA k n ox oi)).pre):AF P A0 w0 β B nx w a o (AG E fr bx nx (.idxA k n ox oi)):=by
 obtain⟨inf,hinf,hn⟩:=Option.map_eq_some_iff.1 hk
 have key:∀g off ik z,a.eval x= .pointer (some ⟨g,off,none⟩)->a.eval i= .int ik z->0<=z->z<n->(execOp a.eval o).run P w= .ok (.value (.pointer (some ⟨g,off+z.toNat*k,none⟩))) w:=by
  intro g off ik z he e2 h0 h1
  simp[execOp,ho,he,e2,Instr.indexAt,asIntOf,run_underlying ht,Instr.sureAddr,h0,h1,sizeOf,typeInfo,hinf,hn,add_lit]
 cases hv:ev E fr ox<;>cases hu:ev E fr oi<;>simp only[AG,hv,hu]at hp hx hi⊢ <;>first|exact hp.elim|skip
 ·rename_i m c ik z
  obtain⟨g,off,he,hg,hA,hc⟩:=hx
  refine AF.plain rfl (key g off ik z he hi hp.1 hp.2) ⟨g,_,rfl,hg,hA,fun j hj=> ?_⟩
  obtain⟨y,hy,hr⟩:=hc (z.toNat*k+j) (by omega)
  exact⟨y,by rw[Nat.add_assoc];exact hy,hr⟩
 ·rename_i b off ik z
  obtain⟨hl,g,hg,he⟩:=hx
  exact AF.plain rfl (key g off ik z he hi hp.1 hp.2) ⟨hl,g,hg,rfl⟩
 rename_i b i' off ik z
 obtain⟨e,k',n',hl,hi',g,hg,he⟩:=hx
 exact AF.plain rfl (key g _ ik z he hi hp.1 hp.2) ⟨e,k',n',hl,hi',g,hg,by rw[Nat.add_assoc]⟩
theorem RY(ho:o.op= .extract x i)(hx:Ar A0 w0 β B w (ev E fr ox) (a.eval x))(hp:(AG E fr bx nx (.ext i ox)).pre):AF P A0 w0 β B nx w a o (AG E fr bx nx (.ext i ox)):=by
 cases hv:ev E fr ox<;>simp only[AG,hv]at hp hx⊢ <;>first|exact hp.elim|skip
 rename_i l
 obtain⟨ys,he,hr⟩:=hx
 obtain⟨y,hy,hry⟩:=A7.get1 hr i hp
 exact AF.plain rfl (x:=y) (by simp[execOp,ho,he,Instr.extract,hy]) hry
theorem Qj{mx:Bool}(ho:o.op= .call c)(hcal:c.callee= .builtin (if mx then .max else .min))(hargs:c.args.toList=[x,y])(hx:Ar A0 w0 β B w (ev E fr ox) (a.eval x))(hy:Ar A0 w0 β B w (ev E fr oy) (a.eval y))
  (hp:(AG E fr bx nx (.mm mx ox oy)).pre):AF P A0 w0 β B nx w a o (AG E fr bx nx (.mm mx ox oy)):=by
 have ha:c.args= #[x,y]:=by rw[<-hargs]
 cases hv:ev E fr ox<;>cases hu:ev E fr oy<;>simp only[AG,hv,hu]at hp hx hy⊢ <;>first|exact hp.elim|skip
 rename_i k n k' n'
 subst hp
 have e1:a.eval x= .int k n:=hx
 have e2:a.eval y= .int k n':=hy
 cases mx with
 |true=>
  refine AF.plain rfl (x:= .int k (max n n')) ?_ rfl
  have:(if n'>n then n' else n)=max n n':=by rw[Int.max_def];split<;>split<;>omega
  simp[execOp,ho,resolve,hcal,ha,invoke,builtin,e1,e2,run_max_int2]
  rw[<-this]
 |false=>
  refine AF.plain rfl (x:= .int k (min n n')) ?_ rfl
  have:(if n'<n then n' else n)=min n n':=by rw[Int.min_def];split<;>split<;>omega
  simp[execOp,ho,resolve,hcal,ha,invoke,builtin,e1,e2,run_min_int2]
  rw[<-this]
theorem Rg(ho:o.op= .nilCheck x)(hx:Ar A0 w0 β B w (ev E fr ox) (a.eval x))(hp:(AG E fr bx nx (.nilc ox)).pre):AF P A0 w0 β B nx w a o (AG E fr bx nx (.nilc ox)):=by
 cases hv:ev E fr ox<;>simp only[AG,hv]at hp hx⊢ <;>first|exact hp.elim|skip
 ·obtain⟨g,off,he,hr⟩:=hx
  exact AF.plain rfl (x:=a.eval x) (by simp[execOp,ho,he]) ⟨g,off,he,hr⟩
 ·obtain⟨hl,g,hg,he⟩:=hx
  exact AF.plain rfl (x:=a.eval x) (by simp[execOp,ho,he]) ⟨hl,g,hg,he⟩
 obtain⟨e,k,n,hl,hi,g,hg,he⟩:=hx
 exact AF.plain rfl (x:=a.eval x) (by simp[execOp,ho,he]) ⟨e,k,n,hl,hi,g,hg,he⟩
theorem QZ(hm:Fl P A0 w0 β B N w)(hbx:∀b c,B b=some c->Ab bx b=some c)(ho:o.op= .call c)(hcal:c.callee= .builtin .len)(hargs:c.args.toList=[x])(hat:c.argTypes.toList=[t])(ht:P.underlying t=some (.slice e))
  (hx:Ar A0 w0 β B w (ev E fr ox) (a.eval x)) (hp:(AG E fr bx nx (.len ox)).pre):CT P A0 w0 β B w a o (AG E fr bx nx (.len ox)):=by
 have ha:c.args= #[x]:=by rw[<-hargs]
 have ha':c.argTypes= #[t]:=by rw[<-hat]
 have key:∀ad n cap,a.eval x= .slice ad n cap->(execOp a.eval o).run P w= .ok (.value (.int .i64 n)) w:=by
  intro ad n cap he
  simp[execOp,ho,resolve,hcal,ha,ha',invoke,builtin,he,Builtin.len_,run_underlying ht,goInt]
 cases hv:ev E fr ox<;>simp only[AG,hv,SF]at hp hx⊢ <;>first|exact hp.elim|skip
 ·have he:a.eval x= .slice none 0 0:=hx
  exact CT.mk' rfl (key _ _ _ he) rfl
 ·obtain⟨ad,cap,he,_⟩:=hx
  exact CT.mk' rfl (key _ _ _ he) rfl
 ·rename_i b
  obtain⟨⟨e',k',n,hl⟩,he⟩:=hx
  rcases hl.cases with⟨c,hl⟩|⟨c,hl⟩
  all_goals
   simp only[hbx b _ hl]at hp⊢
   have hn:=(hm.bx b _ hl).1
   refine CT.mk' rfl (key _ _ _ he) ?_
   rw[hn];rfl
 ·obtain⟨ad,he,_⟩:=hx
  exact CT.mk' rfl (key _ _ _ he) rfl
 obtain⟨e',k',M,hl0,hoff,ad,cap,he,hcap,ha⟩:=hx
 exact CT.mk' rfl (key _ _ _ he) rfl
theorem RZ(hm:Fl P A0 w0 β B N w)(hbx:∀b c,B b=some c->Ab bx b=some c)(ho:o.op= .call c)(hcal:c.callee= .builtin .len)(hargs:c.args.toList=[x])(hat:c.argTypes.toList=[t])(ht:P.underlying t=some (.slice e))
  (hx:Ar A0 w0 β B w (ev E fr ox) (a.eval x)) (hp:(AG E fr bx nx (.len ox)).pre):AF P A0 w0 β B nx w a o (AG E fr bx nx (.len ox)):=(QZ hm hbx ho hcal hargs hat ht hx hp).does
end Go.Proofs.YtlieoghhkioflaaGreat
/- The engine,part 9: structs and slices that are built,slices cut. No condition. -/
namespace Go.Proofs.YtlieoghhkioflaaGreat
open Go Go.RowKit
variable{n:Nat}{t:TypeId}{z:Ae}
variable{P:Program}{E:Df}{A0:Nat->Prop}{w0:AY}{β:Bn->CI}{B:Bq}{nx:Nat}{w:World}{a:Act}{o:Oper}{fr:Fr}{bx:Bx}
inductive UT{α γ:Type}(R:α->γ->Prop):List α->List γ->Prop
 |nil:UT R [] []
 |cons {x y l r} (h:R x y) (t:UT R l r):UT R (x::l) (y::r)
def BA:List Value->Nat->List Value->List Value
 |zs,_,[]=>zs
 |zs,off,y::ys=>BA (zs.set off y) (off+1) ys
theorem Dq:∀(ys zs:List Value) (off:Nat),(BA zs off ys).length=zs.length:=by
 intro ys;induction ys with
 |nil=>intro zs off;rfl
 |cons y ys ih=>intro zs off;simp[BA,ih]
theorem K8:∀(ys:List Value) (j off:Nat) (zs:List Value),(ys.zipIdx j).foldl (fun(cs:Array Value) (p:Value×Nat)=>cs.setIfInBounds (off+p.2) p.1) ⟨zs⟩=⟨BA zs (off+j) ys⟩:=by
 intro ys;induction ys with
 |nil=>intro j off zs;rfl
 |cons y ys ih=>
  intro j off zs
  simp only[List.zipIdx_cons,List.foldl_cons,BA]
  have:(⟨zs⟩:Array Value).setIfInBounds (off+j) y=⟨zs.set (off+j) y⟩:=by simp
  rw[this,ih (j+1) off]
  rfl
theorem KD{l v:Ae}:∀{zs ys:List Value} {off:Nat},Ar A0 w0 β B w l (.tuple ⟨zs⟩)->Ar A0 w0 β B w v (.tuple ⟨ys⟩)->Rk v->off+Bb v<=Bb l->Ar A0 w0 β B w (Da l off v) (.tuple ⟨BA zs off ys⟩):=by
 induction v generalizing l with
 |nil=>
  intro zs ys off hl hv _ _
  have:ys=[]:=by have e:Value.tuple ⟨ys⟩= .tuple #[]:=hv;simpa using e
  subst this
  cases l<;>simpa[Da,BA]using hl
 |cons h t ih1 ih2=>
  intro zs ys off hl hv hL hn
  obtain⟨y,ys',he,h1,h2⟩:=hv
  have:ys=y::ys':=by simpa using he
  subst this
  simp only[Bb]at hn
  have hs:=A7.set1 hl h1 off (by omega)
  have:=ih2 (off:=off+1) hs h2 hL (by rw[HT];omega)
  exact this
 |_=>intro zs ys off hl hv hL;exact hL.elim
theorem N7:∀(v l:Ae) (off:Nat),Bb (Da l off v)=Bb l:=by
 intro v;induction v with
 |cons h t ih1 ih2=>intro l off;simp only[Da];rw[ih2,HT]
 |_=>intro l off;cases l<;>rfl
theorem RL:∀(v l:Ae) (off:Nat),Rk l->Rk (Da l off v):=by
 intro v;induction v with
 |cons h t ih1 ih2=>intro l off hl;simp only[Da];exact ih2 _ _ (Tg l off h hl)
 |_=>intro l off hl;cases l<;>exact hl
theorem Np(place:Nat->Option (Nat×Nat)):∀(parts:List (Nat×Operand)) (r:List (Nat×Nat×Bf)) (z:Ae) (zs:List Value),Ar A0 w0 β B w z (.tuple ⟨zs⟩)->Rk z->
  (∀p∈parts,I5 E A0 w0 β B w fr a p.2)->UT (fun p q=>place p.1=some (q.1,q.2.1)/\AI p.2=some q.2.2) parts r->GV E fr (Bb z) r->
  ∃us,Instr.fill place ⟨zs⟩ (parts.map fun p=>(p.1,a.eval p.2))=some ⟨us⟩/\us.length=zs.length/\Ar A0 w0 β B w (Jb E fr z r) (.tuple ⟨us⟩):=by
 intro parts
 induction parts with
 |nil=>
  intro r z zs hz hL _ hf _
  cases hf
  exact⟨zs,rfl,rfl,hz⟩
 |cons p parts ih=>
  intro r z zs hz hL hp hf hok
  cases hf with
  | @cons _ q _ r' hpq hf=>
   obtain⟨off,n,ox⟩:=q
   obtain⟨h1,h2,h3⟩:=hok
   have hx:=hp p (by simp) ox hpq.2
   obtain⟨e1,e2,e3,e4⟩:=Do h1 hx
   have hv:=KD hz e3 (CC e1) (off:=off) (by omega)
   have hlen:=A7.len hz hL
   obtain⟨us,hu1,hu2,hu3⟩:=ih r' _ _ hv (RL _ _ _ hL) (fun p' h'=>hp p' (by simp[h'])) hf (by rw[N7];exact h3)
   refine⟨us,?_,by rw[hu2,Dq],hu3⟩
   simp only[List.map_cons,Instr.fill,hpq.1]
   have e5:(a.eval p.2).cells.zipIdx.foldl (fun(cs:Array Value) (p:Value×Nat)=>cs.setIfInBounds (off+p.2) p.1) ⟨zs⟩=⟨BA zs off (a.eval p.2).cells.toList⟩:=by
    rw[<-Array.foldl_toList,Array.toList_zipIdx]
    exact K8 _ 0 off zs
   rw[if_neg (by simp[e4];omega)]
   have e6:(a.eval p.2).cells.zipIdx.foldl (fun(cs:Array Value) (x:Value×Nat)=>match x with|(c,j)=>cs.setIfInBounds (off+j) c) ⟨zs⟩=⟨BA zs off (a.eval p.2).cells.toList⟩:=e5
   rw[e6]
   exact hu1
theorem M2{fs:Array Field}:∀(l:List (Nat×Operand)) (r:List (Nat×Nat×Bf)),HM P fs l=some r->
  UT (fun p q=>(∃f,fs[p.1]?=some f/\q.1=f.offset/\BL P f.type=some q.2.1)/\AI p.2=some q.2.2) l r:=by
 intro l;induction l with
 |nil=>intro r h;simp[HM]at h;subst h;exact .nil
 |cons p l ih=>
  intro r h
  obtain⟨i,x⟩:=p
  simp only[HM]at h
  split at h
  ·rename_i f ox r' h1 h2 h3
   split at h
   ·rename_i n hn
    simp at h;subst h
    exact .cons ⟨⟨f,h1,rfl,hn⟩,h2⟩ (ih _ h3)
   cases h
  cases h
theorem M5{k:Nat}:∀(l:List (Nat×Operand)) (r:List (Nat×Nat×Bf)),H9 k l=some r->UT (fun p q=>q.1=p.1*k/\q.2.1=k/\AI p.2=some q.2.2) l r:=by
 intro l;induction l with
 |nil=>intro r h;simp[H9]at h;subst h;exact .nil
 |cons p l ih=>
  intro r h
  obtain⟨i,x⟩:=p
  simp only[H9]at h
  split at h
  ·rename_i ox r' h1 h2
   simp at h;subst h
   exact .cons ⟨rfl,rfl,h1⟩ (ih _ h2)
  cases h
theorem P7{α γ:Type}{R S:α->γ->Prop}{l:List α}{r:List γ}(h:UT R l r)(hr:∀x y,R x y->S x y):UT S l r:=by
 induction h with
 |nil=>exact .nil
 |cons h _ ih=>exact .cons (hr _ _ h) ih
theorem Gn(h:DX P t=some (n,z))(w:World)(A:Nat->Prop):∃v,(zeroValue t).run P w= .ok v w/\v.cells.size=n/\Ap w A z (.tuple ⟨v.cells.toList⟩)/\By z=true/\Bb z=n:=by
 obtain⟨i,v,h1,h2,h3,h4,h5⟩:=DM h
 refine⟨v,by simp[zeroValue,typeInfo,h1,h2],h4,IX (fun v u h=>HC h w A) _ _ h5,(Ji _ _ h5).1,?_⟩
 rw[(Ji _ _ h5).2];simpa using h4
theorem Jf{w:World}:∀(fs:List Field),(∀f∈fs,∃n,BL P f.type=some n)->(fs.mapM fun f=>(do pure (f.offset,<-sizeOf f.type):Sem (Nat×Nat))).run P w= .ok (fs.map fun f=>(f.offset,(BL P f.type).getD 0)) w:=by
 intro fs;induction fs with
 |nil=>intro _;simp
 |cons f fs ih=>
  intro h
  obtain⟨n,hn⟩:=h f (by simp)
  obtain⟨i,hi,hi'⟩:=Option.map_eq_some_iff.1 hn
  have h2:=ih fun g hg=>h g (by simp[hg])
  have h3:(sizeOf f.type).run P w= .ok n w:=by simp[sizeOf,typeInfo,hi,hi']
  simp only[List.mapM_cons,Sem.run_bind,h3,Result.andThen_ok,Sem.run_pure,h2,List.map_cons,hn,Option.getD_some]
theorem HI{parts:Array (Nat×Operand)}{fs:Array Field}{r:List (Nat×Nat×Bf)}(ho:o.op= .build t parts)(ht:P.underlying t=some (.struct fs))(hz:DX P t=some (n,z))(hall:fs.toList.all (fun f=>(BL P f.type).isSome)=true)
  (hr:HM P fs parts.toList=some r) (hx:∀p∈parts.toList,I5 E A0 w0 β B w fr a p.2) (hp:(AG E fr bx nx (.build z r)).pre):AF P A0 w0 β B nx w a o (AG E fr bx nx (.build z r)):=by
 obtain⟨v,h1,h2,h3,h4,h5⟩:=Gn hz w (Al A0 w0 B β)
 obtain⟨us,hu1,hu2,hu3⟩:=Np (place:=fun i=>((fs.toList.map fun f=>(f.offset,(BL P f.type).getD 0)).toArray)[i]?) parts.toList r z v.cells.toList (Ap.rep _ _ h3) (CC h4) hx
  (P7 (M2 _ _ hr) fun p q ⟨⟨f,e1,e2,e3⟩,e4⟩=>⟨by simp[e1,e2,e3],e4⟩) hp.2
 refine AF.plain rfl (x:= .agg ⟨us⟩) ?_ ⟨us,rfl,hu3⟩
 have hm:(fs.mapM fun f=>(do pure (f.offset,<-sizeOf f.type):Sem (Nat×Nat))).run P w= .ok (fs.toList.map fun f=>(f.offset,(BL P f.type).getD 0)).toArray w:=by
  rw[Array.mapM_eq_mapM_toList]
  have:=Jf (P:=P) (w:=w) fs.toList fun f hf=>by
   have:=List.all_eq_true.1 hall f hf
   exact Option.isSome_iff_exists.1 this
  simp only[Sem.run_map,this,Result.andThen_ok]
 have hmap:(parts.map fun p=>(p.1,a.eval p.2)).toList=parts.toList.map fun p=>(p.1,a.eval p.2):=by simp
 have hu:Instr.fill (fun i=>((fs.toList.map fun f=>(f.offset,(BL P f.type).getD 0)).toArray)[i]?) v.cells (parts.map fun p=>(p.1,a.eval p.2)).toList=some ⟨us⟩:=by rw[hmap];exact hu1
 simp only[execOp,ho,Instr.build,Sem.run_bind,h1,Result.andThen_ok,run_underlying ht,hm]
 rw[show(fun(x:Nat×Operand)=>match x with|(i,x)=>(i,a.eval x))=fun p=>(p.1,a.eval p.2)from rfl,hu]
 rfl
theorem HK{e:TypeId}{parts:Array (Nat×Operand)}{m k:Nat}{r:List (Nat×Nat×Bf)}(ho:o.op= .build t parts)(ht:P.underlying t=some (.array m e))(hk:BL P e=some k)(hz:DX P t=some (n,z))
  (hr:H9 k parts.toList=some r) (hx:∀p∈parts.toList,I5 E A0 w0 β B w fr a p.2) (hp:(AG E fr bx nx (.build z r)).pre):AF P A0 w0 β B nx w a o (AG E fr bx nx (.build z r)):=by
 obtain⟨v,h1,h2,h3,h4,h5⟩:=Gn hz w (Al A0 w0 B β)
 obtain⟨us,hu1,hu2,hu3⟩:=Np (place:=fun i=>some (i*k,k)) parts.toList r z v.cells.toList (Ap.rep _ _ h3) (CC h4) hx
  (P7 (M5 _ _ hr) fun p q ⟨e1,e2,e4⟩=>⟨by rw[e1,e2],e4⟩) hp.2
 refine AF.plain rfl (x:= .agg ⟨us⟩) ?_ ⟨us,rfl,hu3⟩
 obtain⟨i,hi,hi'⟩:=Option.map_eq_some_iff.1 hk
 have hmap:(parts.map fun p=>(p.1,a.eval p.2)).toList=parts.toList.map fun p=>(p.1,a.eval p.2):=by simp
 have hu:Instr.fill (fun i=>some (i*k,k)) v.cells (parts.map fun p=>(p.1,a.eval p.2)).toList=some ⟨us⟩:=by rw[hmap];exact hu1
 have h6:(sizeOf e).run P w= .ok k w:=by simp[sizeOf,typeInfo,hi,hi']
 simp only[execOp,ho,Instr.build,Sem.run_bind,h1,Result.andThen_ok,run_underlying ht,h6]
 rw[show(fun(x:Nat×Operand)=>match x with|(i,x)=>(i,a.eval x))=fun p=>(p.1,a.eval p.2)from rfl,hu]
 rfl
end Go.Proofs.YtlieoghhkioflaaGreat
/- The engine,part 10: new slices; slices cut. No condition. -/
namespace Go.Proofs.YtlieoghhkioflaaGreat
open Go Go.RowKit
variable{k len:Nat}
variable{P:Program}{E:Df}{A0:Nat->Prop}{w0:AY}{β:Bn->CI}{B:Bq}{nx:Nat}{w:World}{a:Act}{o:Oper}{fr:Fr}{bx:Bx}
theorem A7.pure{A:Nat->Prop}:∀(v:Ae) (x:Value),A2 v=true->A7 w A B β v x->Ap w A v x:=by
 intro v
 induction v with
 |cons h t ih1 ih2=>
  rintro x hp ⟨y,ys,rfl,h1,h2⟩
  simp only[A2,Bool.and_eq_true]at hp
  exact⟨y,ys,rfl,ih1 y hp.1 h1,ih2 _ hp.2 h2⟩
 |agg l ih=>rintro x hp ⟨ys,rfl,h⟩;exact⟨ys,rfl,ih _ hp h⟩
 |tup l ih=>rintro x hp ⟨ys,rfl,h⟩;exact⟨ys,rfl,ih _ hp h⟩
 |func fn l ih=>rintro x hp ⟨ys,rfl,h⟩;exact⟨ys,rfl,ih _ hp h⟩
 |ptr b off=>intro x hp;simp[A2]at hp
 |own b=>intro x hp;simp[A2]at hp
 |rptr b i off=>intro x hp;simp[A2]at hp
 |mapb b=>intro x hp;simp[A2]at hp
 |yld b=>intro x hp;simp[A2]at hp
 |osl b off n=>intro x hp;simp[A2]at hp
 |_=>intro x _ h;exact h
theorem F9{A:Nat->Prop}:∀(v:Ae) (ys:List Value),C0 v=true->A7 w A B β v (.tuple ⟨ys⟩)->Rk v->∀y∈ys,y.oneCell'=true:=by
 intro v
 induction v with
 |nil=>
  intro ys _ h _ y hy
  have e:Value.tuple ⟨ys⟩= .tuple #[]:=h
  have:ys=[]:=by simpa using e
  subst this;cases hy
 |cons h t ih1 ih2=>
  intro ys ho hr hl y hy
  obtain⟨z,zs,he,h1,h2⟩:=hr
  have:ys=z::zs:=by simpa using he
  subst this
  simp only[C0,Bool.and_eq_true]at ho
  rcases List.mem_cons.1 hy with rfl|hy
  ·have ho1:=ho.1
   cases h<;>simp at ho1<;>first
    |(obtain⟨p,q,e,_⟩:=h1;subst e;rfl)
    |(obtain⟨g,fr,ps,ca,cb,st,q,e⟩:=h1;subst e;rfl)
    |(obtain⟨p,e,_⟩:=h1;subst e;rfl)
    |(obtain⟨p,e⟩:=h1;subst e;rfl)
    |(obtain⟨p,q,hq,e⟩:=h1;subst e;rfl)
    |(obtain⟨e0,k,m,h1,h2,q,hq,e⟩:=h1;subst e;rfl)
    |(obtain⟨e0,k,m,h1,h2,q,q2,e,hq⟩:=h1;subst e;rfl)
    |(have e:y=_:=h1;subst e;rfl)
  exact ih2 zs ho.2 h2 hl y hy
 |_=>intro ys _ _ hl;exact hl.elim
def Ps(Rl:Ae->Value->Prop)(len k:Nat)(R:Ae)(us:List Value):Prop:=
 Bb R=len/\us.length=len*k/\∀i,i<len->∀j,j<k->∃y,us[i*k+j]?=some y/\y.oneCell'=true/\Rl (Az (Az R i) j) y
theorem EX:∀(ys zs:List Value) (off p:Nat),off+ys.length<=zs.length->(BA zs off ys)[p]?=if off<=p/\p<off+ys.length then ys[p-off]? else zs[p]?:=by
 intro ys;induction ys with
 |nil=>intro zs off p _;simp[BA];omega
 |cons y ys ih=>
  intro zs off p h
  simp only[List.length_cons]at h
  simp only[BA]
  rw[ih _ _ _ (by simp;omega)]
  by_cases h1:off+1<=p/\p<off+1+ys.length
  ·rw[if_pos h1,if_pos (by simp only[List.length_cons];omega)]
   rw[show p-off=(p-(off+1))+1 from by omega];simp
  rw[if_neg h1]
  by_cases h2:p=off
  ·subst h2
   rw[if_pos (by simp),List.getElem?_set_self (by omega)];simp
  rw[if_neg (by simp only[List.length_cons];omega),List.getElem?_set_ne (by omega)]
theorem RN(l:Ae)(i j:Nat)(v:Ae)(h:i<Bb l):Az (GR l i v) j=if j=i then v else Az l j:=by
 induction l generalizing i j with
 |cons a t ih1 ih2=>
  cases i with
  |zero=>cases j<;>simp[GR,Az]
  |succ i=>
   cases j with
   |zero=>simp[GR,Az]
   |succ j=>
    simp only[GR,Az]
    rw[ih2 i j (by simpa[Bb]using h)]
    simp
 |_=>simp[Bb]at h
theorem If(z:Ae):∀(n i:Nat),i<n->Az (M8 z n) i=z:=by
 intro n;induction n with
 |zero=>intro i h;omega
 |succ n ih=>intro i h;cases i with
  |zero=>rfl
  |succ i=>exact ih i (by omega)
theorem QF(z:Ae):∀n,Bb (M8 z n)=n:=by intro n;induction n with|zero=>rfl|succ n ih=>simp[M8,Bb,ih]
theorem Io:∀(l:List (Nat×Operand)) (r:List (Nat×Bf)),Il l=some r->UT (fun p q=>q.1=p.1/\AI p.2=some q.2) l r:=by
 intro l;induction l with
 |nil=>intro r h;simp[Il]at h;subst h;exact .nil
 |cons p l ih=>
  intro r h
  obtain⟨i,x⟩:=p
  simp only[Il]at h
  split at h
  ·rename_i ox r' h1 h2
   simp at h;subst h
   exact .cons ⟨rfl,h1⟩ (ih _ h2)
  cases h
theorem NF{Rl:Ae->Value->Prop}:∀(parts:List (Nat×Operand)) (r:List (Nat×Bf)) (R:Ae) (us:List Value),(∀p∈r,∀j,j<k->∀y,Ar A0 w0 β B w (Az (cellsOf (ev E fr p.2)) j) y->Rl (Az (cellsOf (ev E fr p.2)) j) y)->Ps Rl len k R us->
  (∀p∈parts,I5 E A0 w0 β B w fr a p.2)->UT (fun p q=>q.1=p.1/\AI p.2=some q.2) parts r->EU E fr k len r->
  ∃us',Instr.fill (fun i=>some (i*k,k)) ⟨us⟩ (parts.map fun p=>(p.1,a.eval p.2))=some ⟨us'⟩/\Ps Rl len k (It E fr R r) us':=by
 intro parts
 induction parts with
 |nil=>intro r R us _ h _ hf _;cases hf;exact⟨us,rfl,h⟩
 |cons p parts ih=>
  intro r R us hrl h hp hf hok
  cases hf with
  | @cons _ q _ r' hpq hf=>
   obtain⟨i,ox⟩:=q
   obtain⟨h1,h2',h3,h4⟩:=hok
   obtain⟨hi,hc⟩:=hpq
   simp only at hi hc
   have hx:=hp p (by simp) ox hc
   obtain⟨e1,e2,e3,e4⟩:=Do h1 hx
   have hones:=F9 _ _ h2' e3 (CC e1)
   have hlen:(a.eval p.2).cells.toList.length=k:=by simpa using e4
   obtain⟨g1,g2,g3⟩:=h
   have hik:i*k+k<=len*k:=by rw[<-Nat.succ_mul];exact Nat.mul_le_mul_right k h3
   have hnew:Ps Rl len k (GR R i (cellsOf (ev E fr ox))) (BA us (i*k) (a.eval p.2).cells.toList):=by
    refine⟨by rw[HT];exact g1,by rw[Dq];exact g2,fun i' hi' j hj=> ?_⟩
    have hij:i'*k+j<len*k:=by
     have:i'*k+k<=len*k:=by rw[<-Nat.succ_mul];exact Nat.mul_le_mul_right k hi'
     omega
    rw[EX _ _ _ _ (by rw[hlen,g2];exact hik),hlen,RN _ _ _ _ (by rw[g1];exact h3)]
    by_cases hii:i'=i
    ·subst hii
     rw[if_pos (by omega),if_pos rfl]
     obtain⟨y,hy,hr⟩:=A7.get1 e3 j (by omega)
     exact⟨y,by rw[Nat.add_sub_cancel_left];exact hy,hones y (List.mem_of_getElem? hy),hrl (i',ox) (by simp) j hj y hr⟩
    rw[if_neg hii,if_neg ?_]
    ·exact g3 i' hi' j hj
    intro hc2
    rcases Nat.lt_or_gt_of_ne hii with h|h
    ·have:(i'+1)*k<=i*k:=Nat.mul_le_mul_right k h
     rw[Nat.succ_mul]at this
     omega
    have:(i+1)*k<=i'*k:=Nat.mul_le_mul_right k h
    rw[Nat.succ_mul]at this
    omega
   obtain⟨us',hu1,hu2⟩:=ih r' _ _ (fun p' h'=>hrl p' (by simp[h'])) hnew (fun p' h'=>hp p' (by simp[h'])) hf h4
   refine⟨us',?_,hu2⟩
   have e5:(a.eval p.2).cells.zipIdx.foldl (fun(cs:Array Value) (x:Value×Nat)=>match x with|(c,j)=>cs.setIfInBounds (i*k+j) c) ⟨us⟩=⟨BA us (i*k) (a.eval p.2).cells.toList⟩:=by
    rw[<-Array.foldl_toList,Array.toList_zipIdx]
    exact K8 _ 0 (i*k) us
   simp only[List.map_cons,Instr.fill,<-hi]
   rw[if_neg (by simp[e4,g2];omega),e5]
   exact hu1
theorem Gu{z:Ae}{zs:List Value}{A:Nat->Prop}(hz:Ap w A z (.tuple ⟨zs⟩))(hl:By z=true)(ho:C0 z=true)(hk:Bb z=k)(h0:0<k):
  Ps (Ap w A) len k (M8 z len) ((List.range (len*k)).map fun p=>(⟨zs⟩:Array Value)[p%(⟨zs⟩:Array Value).size]!):=by
 have hzl:zs.length=k:=by rw[<-hk];exact A7.len (B:=fun _=>none) (β:=fun _=>⟨none,0,0⟩) (Ap.rep _ _ hz) (CC hl)
 refine⟨QF z len,by simp,fun i hi j hj=> ?_⟩
 have hij:i*k+j<len*k:=by
  have:i*k+k<=len*k:=by rw[<-Nat.succ_mul];exact Nat.mul_le_mul_right k hi
  omega
 rw[If z len i hi]
 obtain⟨y,hy,hr⟩:=A7.get1 (B:=fun _=>none) (β:=fun _=>⟨none,0,0⟩) (Ap.rep _ _ hz) j (by omega)
 refine⟨y,?_,F9 (B:=fun _=>none) (β:=fun _=>⟨none,0,0⟩) _ _ ho (Ap.rep _ _ hz) (CC hl) y (List.mem_of_getElem? hy),?_⟩
 ·have hm:(i*k+j)%k=j:=by rw[Nat.add_comm,Nat.add_mul_mod_self_right];exact Nat.mod_eq_of_lt hj
  simp[hij,hzl,hm,hy]
 obtain⟨y',hy',hr'⟩:∃y',zs[j]?=some y'/\Ap w A (Az z j) y':=by
  have:∀(l:Ae) (zs:List Value) (j:Nat),Ap w A l (.tuple ⟨zs⟩)->j<Bb l->∃y',zs[j]?=some y'/\Ap w A (Az l j) y':=by
   intro l;induction l with
   |cons a t _ ih=>
    intro zs j h hj
    obtain⟨y,ys,he,h1,h2⟩:=h
    have:zs=y::ys:=by simpa using he
    subst this
    cases j with
    |zero=>exact⟨y,rfl,h1⟩
    |succ j=>obtain⟨y',e,hr⟩:=ih ys j h2 (by simpa[Bb]using hj);exact⟨y',by simpa using e,hr⟩
   |_=>intro zs j _ hj;simp[Bb]at hj
  exact this z zs j hz (by omega)
 rw[hy]at hy';cases hy';exact hr'
theorem UB:∀{r:List (Nat×Bf)},Fq E fr k len r->EU E fr k len r/\∀p∈r,A2 (cellsOf (ev E fr p.2))=true:=by
 intro r;induction r with
 |nil=>intro _;exact⟨trivial,fun p hp=>by cases hp⟩
 |cons q r ih=>
  rintro⟨h1,h2,h3,h4,h5⟩
  obtain⟨h6,h7⟩:=ih h5
  refine⟨⟨h1,h3,h4,h6⟩,fun p hp=> ?_⟩
  rcases List.mem_cons.1 hp with rfl|hp
  ·cases hv:ev E fr p.2<;>rw[hv]at h2<;>simp_all[cellsOf,A2]
  exact h7 p hp
theorem KA:∀(l:Ae) (j:Nat),A2 l=true->A2 (Az l j)=true:=by
 intro l;induction l with
 |cons a b _ ih=>intro j hb;simp only[A2,Bool.and_eq_true]at hb;cases j with
  |zero=>exact hb.1
  |succ j=>exact ih j hb.2
 |_=>intro j hb;cases j<;>rfl
theorem Uu{t e:TypeId}{z:Ae}{parts:Array (Nat×Operand)}{r:List (Nat×Bf)}{N:Nat}(hm:Fl P A0 w0 β B N w)(hB:B nx=none)(ho:o.op= .buildSlice t len parts)(ht:P.underlying t=some (.slice e))(hz:DX P e=some (k,z))
  (hlen:len*k<=16777216) (hr:Il parts.toList=some r) (hx:∀p∈parts.toList,I5 E A0 w0 β B w fr a p.2) (hp:(AG E fr bx nx (.bsl e k len z r)).pre):AF P A0 w0 β B nx w a o (AG E fr bx nx (.bsl e k len z r)):=by
 obtain⟨v,h1,h2,h3,h4,h5⟩:=Gn hz w (Al A0 w0 B β)
 obtain⟨inf,hinf,hsz⟩:∃i,P.info? e=some i/\i.size=k:=by obtain⟨i,v',q1,q2,q3,q4,q5⟩:=DM hz;exact⟨i,q1,q3⟩
 have h6:(sizeOf e).run P w= .ok k w:=by simp[sizeOf,typeInfo,hinf,hsz]
 have hmap:(parts.map fun p=>(p.1,a.eval p.2)).toList=parts.toList.map fun p=>(p.1,a.eval p.2):=by simp
 have hrun:∀us,0<k->Instr.fill (fun i=>some (i*k,k)) ⟨(List.range (len*k)).map fun p=>(⟨v.cells.toList⟩:Array Value)[p%(⟨v.cells.toList⟩:Array Value).size]!⟩ (parts.toList.map fun p=>(p.1,a.eval p.2))=some ⟨us⟩->
   (execOp a.eval o).run P w= .ok (.value (.slice (some ⟨w.heap.size,0,none⟩) len len)) (w.alloc (.cells ⟨us⟩ e)):=by
  intro us hp4 hu1
  have hbig:¬(len*k>2^24):=by omega
  have hcells:∀(Z:Array Value),Z=v.cells\/len*k=0->Instr.fill (fun i=>some (i*k,k)) ((Array.range (len*k)).map (Z[· %Z.size]!)) (parts.map fun p=>(p.1,a.eval p.2)).toList=some ⟨us⟩:=by
   intro Z hZ
   rw[hmap,<-hu1]
   congr 1
   rcases hZ with rfl|h0
   ·apply Array.toList_inj.1;simp
   apply Array.toList_inj.1;simp[h0]
  simp only[execOp,ho,Instr.buildSlice,Sem.run_bind,run_underlying ht,Result.andThen_ok,h6]
  rw[if_neg hbig]
  simp only[Sem.run_pure,Result.andThen_ok,Sem.run_ite,Sem.run_bind]
  by_cases h0:len*k=0
  ·simp only[h0,if_true,Result.andThen_ok]
   have:=hcells #[] (.inr h0)
   simp only[h0]at this
   rw[show(fun(x:Nat×Operand)=>match x with|(i,x)=>(i,a.eval x))=fun p=>(p.1,a.eval p.2)from rfl]
   simp only[this,newRow,Sem.run_bind,run_newObj,Result.andThen_ok,Sem.run_pure]
   rfl
  simp only[h0,if_false,h1,Result.andThen_ok,Sem.run_pure]
  have:=hcells v.cells (.inl rfl)
  rw[show(fun(x:Nat×Operand)=>match x with|(i,x)=>(i,a.eval x))=fun p=>(p.1,a.eval p.2)from rfl]
  simp only[this,newRow,Sem.run_bind,run_newObj,Result.andThen_ok,Sem.run_pure]
  rfl
 cases hN:E.N e with
 |false=>
  simp only[AG,hN]at hp⊢
  obtain⟨hp1,hp2,hp2',hp3,hp4,hp5⟩:=hp
  obtain⟨hok,hpc⟩:=UB hp5
  obtain⟨us,hu1,hu2⟩:=NF (E:=E) (fr:=fr) (a:=a) parts.toList r _ _ (fun p hp j _ y hr=>A7.pure _ _ (KA _ j (hpc p hp)) hr) (Gu (len:=len) h3 hp1 hp2' hp3 hp4) hx (Io _ _ hr) hok
  have hlm:len<=maxLen:=by unfold maxLen;have:len*1<=len*k:=Nat.mul_le_mul_left _ hp4;omega
  exact⟨_,_,_,hrun us hp4 hu1,CB.newRow hm hB hp4 hlm hu2.2.1 hu2.2.2,⟨e,k,len,_,by simp[Dd];rfl,rfl⟩,by rw[Aq];rfl⟩
 |true=>
  simp only[AG,hN]at hp⊢
  obtain⟨hp1,hp2,hp2',hp3,hp4,hp5,_⟩:=hp
  have hz0:=Gu (len:=len) h3 hp1 hp2' hp3 hp4
  obtain⟨us,hu1,hu2⟩:=NF (E:=E) (fr:=fr) (a:=a) parts.toList r _ _ (fun p hp j _ y hr=>hr) ⟨hz0.1,hz0.2.1,fun i hi j hj=>by obtain⟨y,q1,q2,q3⟩:=hz0.2.2 i hi j hj;exact⟨y,q1,q2,Ap.rep _ _ q3⟩⟩ hx (Io _ _ hr) hp5
  have hlm:len<=maxLen:=by unfold maxLen;have:len*1<=len*k:=Nat.mul_le_mul_left _ hp4;omega
  exact⟨_,_,_,hrun us hp4 hu1,CB.newRowN hm hB hp4 hlm hu2.2.1 hu2.2.2,⟨e,k,len,_,by simp[Dd];rfl,rfl⟩,by rw[Aq];rfl⟩
end Go.Proofs.YtlieoghhkioflaaGreat
/- The engine,part 11: make,slices cut,calls of functions that have a spec. No condition. -/
namespace Go.Proofs.YtlieoghhkioflaaGreat
open Go Go.RowKit
variable{next:Act->World->Prop}{Q:Exit->Act->World->Prop}{N k n:Nat}{ox:Bf}{x:Operand}{ro:Option Nat}{e t:TypeId}{w1:World}
variable{P:Program}{E:Df}{A0:Nat->Prop}{w0:AY}{β:Bn->CI}{B:Bq}{nx:Nat}{w:World}{a:Act}{o:Oper}{fr:Fr}{bx:Bx}
theorem SM{y:Operand}{oy:Bf}{bytes:Nat}{z:Ae}{inf:TypeInfo}(hm:Fl P A0 w0 β B N w)(hB:B nx=none)(ho:o.op= .makeSlice t x y)(ht:P.underlying t=some (.slice e))(hz:DX P e=some (k,z))(hi:P.info? e=some inf)(hby:inf.bytes=bytes)
  (hx:Ar A0 w0 β B w (ev E fr ox) (a.eval x)) (hy:Ar A0 w0 β B w (ev E fr oy) (a.eval y)) (hp:(AG E fr bx nx (.mks e k bytes z ox oy)).pre):AF P A0 w0 β B nx w a o (AG E fr bx nx (.mks e k bytes z ox oy)):=by
 cases hv:ev E fr ox<;>cases hu:ev E fr oy<;>simp only[AG,hv,hu]at hp hx hy⊢ <;>first|exact hp.elim|skip
 rename_i ka n kb n'
 obtain⟨hp1,hp2,hp3,hp4,hp5,rfl,hp6,hp7,hp8⟩:=hp
 have e1:a.eval x= .int ka n:=hx
 have e2:a.eval y= .int kb n:=hy
 obtain⟨i,v,q1,q2,q3,q4,q5⟩:=DM hz
 rw[hi]at q1;cases q1
 have hr:=IX (w:=w) (A:=Al A0 w0 B β) (fun v u h=>HC h w _) _ _ q5
 have hmk:=run_make (P:=P) w t e inf v ht hi q2 ka kb n n hp6 (Int.le_refl _) (by rw[hby,Int.mul_comm];omega) (by omega)
 have hrows:=Gu (len:=n.toNat) hr hp1 hp3 hp4 hp5
 refine⟨.slice (some ⟨w.heap.size,0,none⟩) n.toNat n.toNat,w.alloc (.cells (madeCells v.cells (n.toNat*inf.size)) e),BK β nx ⟨some w.heap.size,n.toNat,n.toNat⟩,?_,?_,?_⟩
 ·simp only[execOp,ho,e1,e2,Sem.run_bind,hmk,Result.andThen_ok,Sem.run_pure]
 ·have hcells:madeCells v.cells (n.toNat*inf.size)=⟨(List.range (n.toNat*k)).map fun p=>(⟨v.cells.toList⟩:Array Value)[p%(⟨v.cells.toList⟩:Array Value).size]!⟩:=by
   rw[q3];apply Array.toList_inj.1;simp[madeCells]
  rw[hcells]
  refine CB.newRow hm hB hp5 (by unfold maxLen;omega) hrows.2.1 fun i hi j hj=> ?_
  obtain⟨y,h1,h2,h3⟩:=hrows.2.2 i hi j hj
  rw[If z _ i hi]at h3
  exact⟨y,h1,h2,h3⟩
 exact⟨⟨e,k,n.toNat,_,by simp[Dd];rfl,rfl⟩,by rw[Aq];rfl⟩
theorem Kb{x:Option Operand}{ox:Option Bf}{d z:Int}(h:F1 x=some ox)(hx:∀y,x=some y->I5 E A0 w0 β B w fr a y)(hz:BZ E fr d ox=some z):
  (x=none/\z=d)\/∃y k,x=some y/\a.eval y= .int k z:=by
 cases x with
 |none=>simp[F1]at h;subst h;simp[BZ]at hz;exact .inl ⟨rfl,hz.symm⟩
 |some y=>
  obtain⟨oy,h1,rfl⟩:=Option.map_eq_some_iff.1 h
  right
  have:=hx y rfl oy h1
  simp only[BZ]at hz
  split at hz
  ·rename_i k z' he
   simp at hz;subst hz
   rw[he]at this
   exact⟨y,k,rfl,this⟩
  cases hz
theorem TF{lo hi:Option Operand}{ol oh:Option Bf}{cap:Nat}{ad:Option Addr}{l h:Int}(ho:o.op= .slice t x lo hi none)(ht:P.underlying t=some (.slice e))(hk:BL P e=some k)(hol:F1 lo=some ol)(hoh:F1 hi=some oh)
  (hl:∀y,lo=some y->I5 E A0 w0 β B w fr a y) (hh:∀y,hi=some y->I5 E A0 w0 β B w fr a y) (he:a.eval x= .slice ad n cap) (h1:BZ E fr 0 ol=some l) (h2:BZ E fr n oh=some h) (hl0:0<=l) (hlh:l<=h) (hhn:h<=n) (hnc:n<=cap):
  (execOp a.eval o).run P w= .ok (.value (sliced ad l.toNat h.toNat cap k)) w:=by
 obtain⟨inf,hinf,hn⟩:=Option.map_eq_some_iff.1 hk
 have hels:P.elem t=e:=by simp[Program.elem,ht]
 have hs:(sizeOf (P.elem t)).run P w= .ok k w:=by simp[hels,sizeOf,typeInfo,hinf,hn]
 have ht':P.underlying t=some (.slice (P.elem t)):=by rw[hels];exact ht
 have hgo:∀lo' hi',lo.map a.eval=lo'->hi.map a.eval=hi'->(Instr.slice t (.slice ad n cap) lo' hi' none).run P w= .ok (sliced ad l.toNat h.toNat cap k) w->(execOp a.eval o).run P w= .ok (.value (sliced ad l.toNat h.toNat cap k)) w:=by
  intro lo' hi' e1 e2 e3
  simp[execOp,ho,he,e1,e2,Instr.sliceAt,run_underlying ht,e3]
 rcases Kb hol hl h1 with⟨rfl,rfl⟩|⟨y,kl,rfl,ey⟩<;>rcases Kb hoh hh h2 with⟨rfl,rfl⟩|⟨y2,kh,rfl,ey2⟩
 ·refine hgo none none rfl rfl ?_
  rw[run_slice_all (P:=P) w t ad n cap ht',hs];simp
 ·refine hgo none (some (.int kh h)) rfl (by simp[ey2]) ?_
  rw[run_slice_h (P:=P) w t ad n cap ht' kh h (by omega) (by omega),hs];simp
 ·refine hgo (some (.int kl l)) none (by simp[ey]) rfl ?_
  rw[run_slice_l (P:=P) w t ad n cap ht' kl l hl0 (by omega),hs];simp
 refine hgo (some (.int kl l)) (some (.int kh h)) (by simp[ey]) (by simp[ey2]) ?_
 rw[run_slice_lh (P:=P) w t ad n cap ht' kl kh l h hl0 hlh (by omega),hs];simp
theorem VS{lo hi:Option Operand}{ol oh:Option Bf}(hm:Fl P A0 w0 β B N w)(hbx:∀b c,B b=some c->Ab bx b=some c)(ho:o.op= .slice t x lo hi none)(ht:P.underlying t=some (.slice e))(hk:BL P e=some k)(hol:F1 lo=some ol)(hoh:F1 hi=some oh)
  (hx:Ar A0 w0 β B w (ev E fr ox) (a.eval x)) (hl:∀y,lo=some y->I5 E A0 w0 β B w fr a y) (hh:∀y,hi=some y->I5 E A0 w0 β B w fr a y) (hp:(AG E fr bx nx (.sl k ox ol oh)).pre):AF P A0 w0 β B nx w a o (AG E fr bx nx (.sl k ox ol oh)):=by
 have vw:∀(b:Bn) (off n k':Nat) (l h:Int),(∃e k m,JM B b e k m/\off+n<=m/\k=k'/\∃ad cap,a.eval x= .slice ad n cap/\n<=cap/\Yt (β b) ad off n k cap)->BZ E fr 0 ol=some l->BZ E fr n oh=some h->k=k'->0<=l->l<=h->h<=n->AF P A0 w0 β B nx w a o ⟨True,.osl b (off+l.toNat) (h-l).toNat,none⟩:=by
  rintro b off n k' l h ⟨e0,k0,m,hrb,hm1,rfl,ad,cap,he,hnc,ha⟩ h1 h2 rfl hl0 hlh hhn
  refine AF.plain rfl (TF (A0:=A0) (w0:=w0) (β:=β) (B:=B) ho ht hk hol hoh hl hh he h1 h2 hl0 hlh hhn hnc) ⟨e0,k,m,hrb,by omega,_,cap-l.toNat,by rw[sliced,show(h-l).toNat=h.toNat-l.toNat from by omega],by omega,fun h0=> ?_,fun h0=> ?_⟩
  ·obtain⟨g,hg,rfl⟩:=ha.1 (by omega)
   refine⟨g,hg,?_⟩
   have:¬cap=l.toNat:=by omega
   simp[this,add_lit,Nat.add_mul]
  obtain⟨rfl,rfl⟩:=ha.2 (by omega)
  have hl':l.toNat=0:=by omega
  refine⟨?_,by omega⟩
  rw[hl',Nat.zero_mul]
  split
  ·rfl
  cases(β b).a<;>simp[add_lit]
 have own:∀(b:Bn),Ar A0 w0 β B w (.own b) (a.eval x)->∀c n,B b=some c->(∃e k,Jl c=some (e,k,n))->∃e k m,JM B b e k m/\0+n<=m/\Jl c=some (e,k,n)/\∃ad cap,a.eval x= .slice ad n cap/\n<=cap/\Yt (β b) ad 0 n k cap:=by
  rintro b ⟨_,he⟩ c n hb ⟨e1,k1,hc⟩
  have hrow:(β b).n=n/\∃xs,w.ownsRow 0 e1 k1 (.slice ((β b).a.map fun g=>⟨g,0,none⟩) n (β b).cap) n xs:=by
   have hbo:=hm.bx b c hb
   cases c<;>simp[Jl]at hc
   ·obtain⟨rfl,rfl,rfl⟩:=hc
    obtain⟨p1,_,_,xs,p2,_⟩:=hbo
    exact⟨p1,xs,p2⟩
   obtain⟨rfl,rfl,rfl⟩:=hc
   obtain⟨p1,_,_,xs,p2,_⟩:=hbo
   exact⟨p1,xs,p2⟩
  obtain⟨hn,xs,hxl,how⟩:=hrow
  rw[hn]at he
  refine⟨e1,k1,n,⟨c,hb,hc⟩,by omega,hc,_,_,he,?_,fun h0=> ?_,fun _=>⟨rfl,rfl⟩⟩
  ·rcases how with⟨_,q⟩|⟨g,cap,cur,q1,q2,q3,q4,_⟩
   ·omega
   simp at q1;omega
  rcases how with⟨_,q⟩|⟨g,cap,cur,q1,q2,q3,q4,_⟩
  ·omega
  cases hba:(β b).a with
  |none=>rw[hba]at q1;simp at q1
  |some g'=>exact⟨g',rfl,by simp⟩
 cases hv:ev E fr ox<;>simp only[AG,hv]at hp hx⊢ <;>first|exact hp.elim|skip
 ·rename_i k' n c
  cases h1:BZ E fr 0 ol<;>simp only[h1]at hp⊢ <;>first|exact hp.elim|skip
  rename_i l
  cases h2:BZ E fr n oh<;>simp only[h2]at hp⊢ <;>first|exact hp.elim|skip
  rename_i h
  obtain⟨rfl,hl0,hlh,hhn⟩:=hp
  obtain⟨ad,cap,he,hmx,hnc,hc⟩:=hx
  have hpos:0<(h-l).toNat->0<n/\¬cap=l.toNat/\∀i,i<(h-l).toNat->l.toNat+i<n:=by
   intro h0
   exact⟨by omega,by omega,fun i hi=>by omega⟩
  refine AF.plain rfl (TF (A0:=A0) (w0:=w0) (β:=β) (B:=B) ho ht hk hol hoh hl hh he h1 h2 hl0 hlh hhn hnc) ⟨_,cap-l.toNat,by rw[sliced,show(h-l).toNat=h.toNat-l.toNat from by omega],by omega,by omega,fun h0=> ?_⟩
  obtain⟨hn0,hne,hin⟩:=hpos h0
  obtain⟨g,off,rfl,hg,hA,hcell⟩:=hc hn0
  refine⟨g,off+l.toNat*k,by simp[hne,add_lit],hg,hA,fun i hi j hj=> ?_⟩
  obtain⟨y,hy,ho1,hr⟩:=hcell (l.toNat+i) (hin i hi) j hj
  refine⟨y,?_,ho1,hr⟩
  rw[show off+l.toNat*k+i*k+j=off+(l.toNat+i)*k+j from by rw[Nat.add_mul];omega]
  exact hy
 ·rename_i b
  have hx0:=hx
  obtain⟨⟨e',k',n,hl0⟩,he⟩:=hx
  rcases hl0.cases with⟨c,hb⟩|⟨c,hb⟩
  all_goals
   simp only[hbx b _ hb]at hp⊢
   cases h1:BZ E fr 0 ol<;>simp only[h1]at hp⊢ <;>first|exact hp.elim|skip
   rename_i l
   cases h2:BZ E fr n oh<;>simp only[h2]at hp⊢ <;>first|exact hp.elim|skip
   rename_i h
   obtain⟨rfl,hl0,hlh,hhn⟩:=hp
   obtain⟨e2,k2,m,q1,q2,q3,q4⟩:=own b hx0 _ n hb ⟨_,_,rfl⟩
   simp only[Jl,Option.some.injEq,Prod.mk.injEq]at q3
   have:=vw b 0 n k l h ⟨e2,k2,m,q1,q2,q3.2.1.symm,q4⟩ h1 h2 rfl hl0 hlh hhn
   rw[Nat.zero_add]at this
   obtain⟨x1,w1,β1,r1,r2,r3⟩:=this
   exact⟨x1,w1,β1,r1,r2,r3⟩
 rename_i b off n
 obtain⟨e',k',M,hl0,hoff,ad,cap,he,hcap,ha⟩:=hx
 rcases hl0.cases with⟨c,hb⟩|⟨c,hb⟩
 all_goals
  simp only[hbx b _ hb]at hp⊢
  cases h1:BZ E fr 0 ol<;>simp only[h1]at hp⊢ <;>first|exact hp.elim|skip
  rename_i l
  cases h2:BZ E fr n oh<;>simp only[h2]at hp⊢ <;>first|exact hp.elim|skip
  rename_i h
  obtain⟨rfl,hl1,hlh,hhn⟩:=hp
  obtain⟨x1,w1,β1,r1,r2,r3⟩:=vw b off n k l h ⟨e',k,M,hl0,hoff,rfl,ad,cap,he,hcap,ha⟩ h1 h2 rfl hl1 hlh hhn
  exact⟨x1,w1,β1,r1,r2,r3⟩
theorem Rq{hi mx:Operand}{oh om:Bf}(ho:o.op= .slice t x none (some hi) (some mx))(ht:P.underlying t=some (.slice e))(hk:BL P e=some k)
  (hx:Ar A0 w0 β B w (ev E fr ox) (a.eval x)) (hh:Ar A0 w0 β B w (ev E fr oh) (a.eval hi)) (hmx:Ar A0 w0 β B w (ev E fr om) (a.eval mx)) (hp:(AG E fr bx nx (.clip k ox oh om)).pre):AF P A0 w0 β B nx w a o (AG E fr bx nx (.clip k ox oh om)):=by
 obtain⟨inf,hinf,hn⟩:=Option.map_eq_some_iff.1 hk
 have key:∀(ad:Option Addr) (n cap:Nat) (kh km:IntKind) (h:Int),a.eval x= .slice ad n cap->a.eval hi= .int kh h->a.eval mx= .int km h->0<=h->h<=n->n<=cap->(execOp a.eval o).run P w= .ok (.value (.slice (if h.toNat=0 then ad else ad.map fun x=>x.add (0*k)) h.toNat h.toNat)) w:=by
  intro ad n cap kh km h e1 e2 e3 h0 h1 h2
  have hbd:(Instr.sliceBounds true n cap none (some (.int kh h)) (some (.int km h))).run P w= .ok (0,h.toNat,h.toNat) w:=by
   simp[Instr.sliceBounds,run_sliceBound (P:=P) w km h cap .slice3Acap h0 (by omega),run_sliceBound (P:=P) w kh h h.toNat .slice3B h0 (by omega)]
  simp[execOp,ho,e1,e2,e3,Instr.sliceAt,Instr.slice,run_underlying ht,hbd,sizeOf,typeInfo,hinf,hn]
 simp only[AG]at hp⊢
 generalize ev E fr ox=vx at*
 generalize ev E fr oh=vh at*
 generalize ev E fr om=vm at*
 split at hp
 ·rename_i k' n c kh h km m
  obtain⟨rfl,rfl,h0,h1⟩:=hp
  obtain⟨ad,cap,he,hmxl,hnc,hc⟩:=hx
  refine AF.plain rfl (key ad n cap kh km h he hh hmx h0 h1 hnc) ⟨_,rfl,by omega,fun h2=> ?_⟩
  rw[if_neg (by omega)]
  obtain⟨g,off,rfl,q2,q3,q4⟩:=hc (by omega)
  exact⟨g,off,by simp[Addr.add],q2,q3,fun i hi j hj=>q4 i (by omega) j hj⟩
 ·rename_i kh h km m
  obtain⟨rfl,rfl⟩:=hp
  exact AF.plain rfl (key none 0 0 kh km 0 hx hh hmx (by omega) (by omega) (by omega)) rfl
 exact hp.elim
theorem TL{k0:IntKind}(ho:o.op= .makeInterface t x)(ht:P.underlying t=some (.int k0))(hx:Ar A0 w0 β B w (ev E fr ox) (a.eval x))(hp:(AG E fr bx nx (.mif t ox)).pre):AF P A0 w0 β B nx w a o (AG E fr bx nx (.mif t ox)):=by
 cases hv:ev E fr ox<;>simp only[AG,hv]at hp hx⊢ <;>first|exact hp.elim|skip
 rename_i k n
 have e:a.eval x= .int k n:=hx
 exact AF.plain rfl (x:= .iface t (.int k n)) (by simp[execOp,ho,e,Instr.makeInterface,run_underlying ht]) rfl
def Zx(A0:Nat->Prop)(w0:AY)(B:Bq)(β:Bn->CI)(g:Nat):Prop:=Al A0 w0 B β g\/∃b c,B b=some c/\(β b).a=some g
def Q5(A0:Nat->Prop)(w0:AY)(B:Bq)(β:Bn->CI)(D:Bn->Prop)(g:Nat):Prop:=Al A0 w0 B β g\/∃b c,D b/\B b=some c/\(β b).a=some g
theorem Ap.weak{w:World}{A A':Nat->Prop}(h:∀g,g<w.heap.size->A g->A' g){v:Ae}{x:Value}(hr:Ap w A v x):Ap w A' v x:=
 Ap.mono (Nat.le_refl _) (fun g hg hA=>⟨h g hg hA,rfl⟩) v x hr
theorem Lf{D:Bn->Prop}(hm:Fl P A0 w0 β B N w)(hbx:∀b c,B b=some c->(Ab bx b=some c/\D b)\/Ab bx b=none):∀(d:Nat) (v:Ae) (x:Value),Ao bx d v=true->Ar A0 w0 β B w v x->Ap w (Q5 A0 w0 B β D) (Aw bx d v) x:=by
 have hw:∀{v x},HU A0 w0 β B w v x->Ap w (Q5 A0 w0 B β D) v x:=fun hr=>Ap.weak (fun g _ h=> .inl h) hr
 intro d
 induction d with
 |zero=>
  intro v
  induction v with
  |cons h t ih1 ih2=>rintro x hs ⟨y,ys,rfl,h1,h2⟩;simp only[Aw];exact⟨y,ys,rfl,ih1 y (by simp only[Ao]) h1,ih2 _ (by simp only[Ao]) h2⟩
  |agg l ih=>rintro x hs ⟨ys,rfl,h⟩;simp only[Aw];exact⟨ys,rfl,ih _ (by simp only[Ao]) h⟩
  |tup l ih=>rintro x hs ⟨ys,rfl,h⟩;simp only[Aw];exact⟨ys,rfl,ih _ (by simp only[Ao]) h⟩
  |func fn l ih=>rintro x hs ⟨ys,rfl,h⟩;simp only[Aw];exact⟨ys,rfl,ih _ (by simp only[Ao]) h⟩
  |own b=>intro x _ _;simp only[Aw];trivial
  |ptr b o=>intro x _ _;simp only[Aw];trivial
  |rptr b i o=>intro x _ _;simp only[Aw];trivial
  |mapb b=>intro x _ _;simp only[Aw];trivial
  |yld b=>intro x _ _;simp only[Aw];trivial
  |osl b off n=>intro x _ _;simp only[Aw];trivial
  |und=>intro x _ h;simp only[Aw];exact h
  |nil=>intro x _ h;simp only[Aw];exact h
  |_=>intro x _ h;simp only[Aw];exact hw h
 |succ d ihd=>
  intro v
  induction v with
  |cons h t ih1 ih2=>
   rintro x hs ⟨y,ys,rfl,h1,h2⟩
   simp only[Ao,Bool.and_eq_true]at hs
   simp only[Aw]
   exact⟨y,ys,rfl,ih1 y hs.1 h1,ih2 _ hs.2 h2⟩
  |agg l ih=>rintro x hs ⟨ys,rfl,h⟩;simp only[Ao]at hs;simp only[Aw];exact⟨ys,rfl,ih _ hs h⟩
  |tup l ih=>rintro x hs ⟨ys,rfl,h⟩;simp only[Ao]at hs;simp only[Aw];exact⟨ys,rfl,ih _ hs h⟩
  |func fn l ih=>rintro x hs ⟨ys,rfl,h⟩;simp only[Ao]at hs;simp only[Aw];exact⟨ys,rfl,ih _ hs h⟩
  |own b=>
   rintro x hs ⟨⟨e,k,n,hl⟩,rfl⟩
   rcases hl.cases with⟨c,hl⟩|⟨c,hl⟩
   ·obtain⟨hbb,hD⟩|hbb:=hbx b _ hl
    case inr=>simp[Ao,hbb]at hs
    simp only[Aw,hbb]
    obtain⟨hn,hk,hmax,xs,⟨hxl,how⟩,hc⟩:=hm.bx b _ hl
    rw[hn]
    rcases how with⟨e0,hn0⟩|⟨g,cap,cur,e1,e2,e3,e4,e5,e6,e7⟩
    ·have hcap:n<=(β b).cap:=by omega
     exact⟨_,_,rfl,hmax,hcap,fun h=>by omega⟩
    have hg:(β b).a=some g:=by
     cases ha:(β b).a with
     |none=>simp[ha]at e1
     |some g'=>simp[ha]at e1;rw[e1.1]
    have hcap:(β b).cap=cap:=by simp at e1;exact e1.2
    refine⟨_,_,rfl,hmax,by rw[hcap];exact e4,fun h0=>⟨g,0,by simp[hg],(hm.base b _ g hl hg).2,.inr ⟨b,_,hD,hl,hg⟩,fun i hi j hj=> ?_⟩⟩
    obtain⟨y,hy,ho1,hr⟩:=hc i hi j hj
    refine⟨y,?_,ho1,hw hr⟩
    rw[Nat.zero_add,<-hy,<-e7]
    have hik:i*k+k<=n*k:=by rw[<-Nat.succ_mul];exact Nat.mul_le_mul_right k hi
    rw[List.getElem?_take_of_lt (by omega)]
    simp[World.cell?,e3]
   obtain⟨hbb,hD⟩|hbb:=hbx b _ hl
   case inr=>simp[Ao,hbb]at hs
   simp only[Ao,hbb]at hs
   have hs:= @of_decide_eq_true _ (Classical.propDecidable _) hs
   simp only[Aw,hbb]
   obtain⟨hn,hk,hmax,xs,⟨hxl,how⟩,hc⟩:=hm.bx b _ hl
   rw[hn]
   rcases how with⟨e0,hn0⟩|⟨g,cap,cur,e1,e2,e3,e4,e5,e6,e7⟩
   ·have hcap:n<=(β b).cap:=by omega
    exact⟨_,_,rfl,hmax,hcap,fun h=>by omega⟩
   have hg:(β b).a=some g:=by
    cases ha:(β b).a with
    |none=>simp[ha]at e1
    |some g'=>simp[ha]at e1;rw[e1.1]
   have hcap:(β b).cap=cap:=by simp at e1;exact e1.2
   refine⟨_,_,rfl,hmax,by rw[hcap];exact e4,fun h0=>⟨g,0,by simp[hg],(hm.base b _ g hl hg).2,.inr ⟨b,_,hD,hl,hg⟩,fun i hi j hj=> ?_⟩⟩
   obtain⟨y,hy,ho1,hr⟩:=hc i hi j hj
   have hij:decide (i<n/\j<k)=true:=decide_eq_true ⟨hi,hj⟩
   refine⟨y,?_,ho1,by show Ap w _ (EA (decide (i<n/\j<k)) _ _) y;rw[hij];exact ihd _ y (hs i hi j hj) hr⟩
   rw[Nat.zero_add,<-hy,<-e7]
   have hik:i*k+k<=n*k:=by rw[<-Nat.succ_mul];exact Nat.mul_le_mul_right k hi
   rw[List.getElem?_take_of_lt (by omega)]
   simp[World.cell?,e3]
  |ptr b off=>
   rintro x hs ⟨⟨l0,hl0,hpb⟩,g,hg,rfl⟩
   obtain⟨l,hl⟩:∃l,B b=some (.cells l):=by
    cases l0 with
    |cells l=>exact⟨l,hl0⟩
    |it=>obtain⟨hbb,_⟩|hbb:=hbx b _ hl0<;>simp[Ao,hbb]at hs
    |wc=>obtain⟨hbb,_⟩|hbb:=hbx b _ hl0<;>simp[Ao,hbb]at hs
    |_=>simp[ptrB]at hpb
   obtain⟨hbb,hD⟩|hbb:=hbx b _ hl
   case inr=>simp[Ao,hbb]at hs
   simp only[Ao,hbb]at hs
   simp only[Aw,hbb]
   obtain⟨hlb,g',ys,t',h2,h3,h4⟩:=hm.bx b _ hl
   rw[hg]at h2;cases h2
   have hsn:=ihd l (.tuple ⟨ys⟩) hs h4
   refine⟨g,off,rfl,(hm.base b _ g hl hg).2,.inr ⟨b,_,hD,hl,hg⟩,fun j hj=> ?_⟩
   have hlen:∀(l:Ae),By l=true->Bb (Aw bx d l)=Bb l:=by
    intro l;induction l with
    |cons a t _ ih=>intro hb;cases d<;>(simp[Aw,Bb];exact ih hb)
    |nil=>intro _;cases d<;>simp[Aw]
    |_=>intro hb;simp[By]at hb
   obtain⟨y,hy,hr⟩:=A7.get1 (B:=fun _=>none) (β:=fun _=>⟨none,0,0⟩) (Ap.rep _ _ hsn) (off+j) (by rw[hlen l hlb];omega)
   refine⟨y,by rw[Dx h3];exact hy,?_⟩
   have:∀(l:Ae) (zs:List Value) (j:Nat),Ap w (Q5 A0 w0 B β D) l (.tuple ⟨zs⟩)->j<Bb l->∃y',zs[j]?=some y'/\Ap w (Q5 A0 w0 B β D) (Az l j) y':=by
    intro l;induction l with
    |cons a t _ ih=>
     intro zs j h hj
     obtain⟨y,ys,he,h1,h2⟩:=h
     have:zs=y::ys:=by simpa using he
     subst this
     cases j with
     |zero=>exact⟨y,rfl,h1⟩
     |succ j=>obtain⟨y',e,hr⟩:=ih ys j h2 (by simpa[Bb]using hj);exact⟨y',by simpa using e,hr⟩
    |_=>intro zs j _ hj;simp[Bb]at hj
   obtain⟨y',hy',hr'⟩:=this _ _ (off+j) hsn (by rw[hlen l hlb];omega)
   rw[hy]at hy';cases hy';exact hr'
  |rptr b i off=>
   rintro x hs ⟨e,k,n,hl,hi,g,hg,rfl⟩
   obtain⟨c,hl⟩:∃c,B b=some (.row e k n c):=by
    rcases hl.cases with h|⟨c,hl⟩
    ·exact h
    obtain⟨hbb,_⟩|hbb:=hbx b _ hl<;>simp[Ao,hbb]at hs
   obtain⟨hbb,hD⟩|hbb:=hbx b _ hl
   case inr=>simp[Ao,hbb]at hs
   simp only[Aw,hbb]
   obtain⟨hn,hk,hmax,xs,⟨hxl,how⟩,hc⟩:=hm.bx b _ hl
   refine⟨g,_,rfl,(hm.base b _ g hl hg).2,.inr ⟨b,_,hD,hl,hg⟩,fun j hj=> ?_⟩
   obtain⟨y,hy,ho1,hr⟩:=hc i hi (off+j) (by omega)
   refine⟨y,?_,hw hr⟩
   have hik:i*k+k<=n*k:=by rw[<-Nat.succ_mul];exact Nat.mul_le_mul_right k hi
   rcases how with⟨e0,hn0⟩|⟨g',cap,cur,e1,e2,e3,e4,e5,e6,e7⟩
   ·omega
   rw[hg]at e1
   simp at e1
   rw[<-e1.1]at e3
   rw[<-hy,<-e7,List.getElem?_take_of_lt (by omega)]
   simp[World.cell?,e3,Nat.add_assoc]
  |mapb b=>
   rintro x hs ⟨⟨kd,hl⟩,g,hg,rfl⟩
   rcases hl.cases with⟨has,f,hl⟩|⟨f,hl⟩
   case inr=>
    obtain⟨hbb,_⟩|hbb:=hbx b _ hl
    ·simp only[Aw,hbb];trivial
    simp[Ao,hbb]at hs
   obtain⟨hbb,hD⟩|hbb:=hbx b _ hl
   case inr=>simp[Ao,hbb]at hs
   simp only[Ao,hbb]at hs
   simp only[Aw,hbb]
   have hs:= @of_decide_eq_true _ (Classical.propDecidable _) hs
   obtain⟨g',m,h1,h2,h3⟩:=hm.bx b _ hl
   rw[hg]at h1;cases h1
   refine⟨g,m,rfl,(hm.base b _ g hl hg).2,.inr ⟨b,_,hD,hl,hg⟩,h2.mapF,fun k=>⟨(h3 k).1,fun hk=> ?_⟩⟩
   obtain⟨y,hy,hr⟩:=(h3 k).2 hk
   exact⟨y,hy,by simp only[hk,EA];exact ihd (f k) y (hs k hk) hr⟩
  |yld b=>intro x hs;simp[Ao]at hs
  |osl b off m=>
   rintro x hs ⟨e,k,n,hl,hoff,ad,cap,rfl,hcap,ha⟩
   obtain⟨c,hl⟩:∃c,B b=some (.row e k n c):=by
    rcases hl.cases with h|⟨c,hl⟩
    ·exact h
    obtain⟨hbb,_⟩|hbb:=hbx b _ hl<;>simp[Ao,hbb]at hs
   obtain⟨hbb,hD⟩|hbb:=hbx b _ hl
   case inr=>simp[Ao,hbb]at hs
   simp only[Aw,hbb]
   obtain⟨hn,hk,hmax,xs,⟨hxl,how⟩,hc⟩:=hm.bx b _ hl
   refine⟨ad,cap,rfl,by omega,hcap,fun h0=> ?_⟩
   obtain⟨g,hg,rfl⟩:=ha.1 h0
   refine⟨g,_,rfl,(hm.base b _ g hl hg).2,.inr ⟨b,_,hD,hl,hg⟩,fun i hi j hj=> ?_⟩
   obtain⟨y,hy,ho1,hr⟩:=hc (off+i) (by omega) j hj
   refine⟨y,?_,ho1,hw hr⟩
   have hik:(off+i)*k+k<=n*k:=by rw[<-Nat.succ_mul];exact Nat.mul_le_mul_right k (by omega)
   rcases how with⟨e0,hn0⟩|⟨g',cap',cur,e1,e2,e3,e4,e5,e6,e7⟩
   ·omega
   rw[hg]at e1
   simp at e1
   rw[<-e1.1]at e3
   rw[<-hy,<-e7,List.getElem?_take_of_lt (by omega)]
   simp[World.cell?,e3,Nat.add_mul]
  |und=>intro x _ h;simp only[Aw];exact h
  |nil=>intro x _ h;simp only[Aw];exact h
  |_=>intro x _ h;simp only[Aw];exact hw h
theorem M9(hm:Fl P A0 w0 β B N w)(hbx:∀b c,B b=some c->Ab bx b=some c)(d:Nat)(v:Ae)(x:Value)(hs:Ao bx d v=true)(hr:Ar A0 w0 β B w v x):Ap w (Zx A0 w0 B β) (Aw bx d v) x:=
 Ap.weak (fun g _ h=>h.imp_right fun⟨b,c,_,h1,h2⟩=>⟨b,c,h1,h2⟩) (Lf (D:=fun _=>True) hm (fun b c hb=> .inl ⟨hbx b c hb,trivial⟩) d v x hs hr)
theorem JT{w':World}{A A':Nat->Prop}:∀(v:Ae) (x:Value),DJ v=true->Ap w A v x->Ap w' A' v x:=by
 intro v
 induction v with
 |cons h t ih1 ih2=>
  rintro x hf ⟨y,ys,rfl,h1,h2⟩
  simp only[DJ,Bool.and_eq_true]at hf
  exact⟨y,ys,rfl,ih1 y hf.1 h1,ih2 _ hf.2 h2⟩
 |agg l ih=>rintro x hf ⟨ys,rfl,h⟩;exact⟨ys,rfl,ih _ hf h⟩
 |tup l ih=>rintro x hf ⟨ys,rfl,h⟩;exact⟨ys,rfl,ih _ hf h⟩
 |view k n c=>intro x hf;simp[DJ]at hf
 |vptr m c=>intro x hf;simp[DJ]at hf
 |func fn l ih=>intro x hf;simp[DJ]at hf
 |ptr b off=>intro x hf;simp[DJ]at hf
 |own b=>intro x hf;simp[DJ]at hf
 |rptr b i off=>intro x hf;simp[DJ]at hf
 |mapb b=>intro x hf;simp[DJ]at hf
 |mview kd has f=>intro x hf;simp[DJ]at hf
 |tv k n c=>intro x hf;simp[DJ]at hf
 |osl b o n=>intro x hf;simp[DJ]at hf
 |_=>intro x _ h;exact h
theorem KL{A:Nat->Prop}(s:Sh)(v:Ae)(x:Value)(h:Ap w A v x):Ap w A (Qc s v) x:=by
 cases s<;>cases v<;>first|exact h|skip
 have e:x= .slice none 0 0:=h
 subst e
 exact⟨none,0,rfl,by decide,Nat.le_refl _,fun h=>absurd h (Nat.lt_irrefl _)⟩
theorem Ri{A:Nat->Prop}:∀(s:List Sh) (v:Ae) (x:Value),Ap w A v x->Ap w A (PM s v) x:=by
 intro s;induction s with
 |nil=>intro v x h;cases v<;>exact h
 |cons c s ih=>
  intro v x h
  cases v<;>first|exact h|skip
  obtain⟨y,ys,rfl,h1,h2⟩:=h
  exact⟨y,ys,rfl,KL c _ _ h1,ih _ _ h2⟩
theorem S5{A:Nat->Prop}(s:List Sh)(v:Ae)(x:Value)(h:Ap w A v x):Ap w A (Tz s v) x:=by
 unfold Tz
 split
 ·obtain⟨ys,rfl,h⟩:=h;exact⟨ys,rfl,Ri _ _ _ h⟩
 ·exact KL _ _ _ h
 exact h
theorem Ei{A:Nat->Prop}:∀(args:List (List Sh×Bf)) (vs:List Ae) (x:Value),Ap w A (vl vs) x->Ap w A (vl (CW args vs)) x:=by
 intro args;induction args with
 |nil=>intro vs x h;cases vs<;>exact h
 |cons p args ih=>
  intro vs x h
  cases vs with
  |nil=>exact h
  |cons v vs=>
   obtain⟨y,ys,rfl,h1,h2⟩:=h
   exact⟨y,ys,rfl,S5 _ _ _ h1,ih _ _ h2⟩
theorem Fh:∀(l:List Operand) (ts:List TypeId) (r:List (List Sh×Bf)),E8 P l ts=some r->(∀x∈l,I5 E A0 w0 β B w fr a x)->Ar A0 w0 β B w (vl (AQ E fr r)) (.tuple ⟨l.map a.eval⟩):=by
 intro l;induction l with
 |nil=>intro ts r h _;simp[E8]at h;subst h;rfl
 |cons x l ih=>
  intro ts r h hx
  simp only[E8]at h
  split at h
  ·rename_i ox r' h1 h2
   simp at h;subst h
   exact⟨_,_,rfl,hx x (by simp) ox h1,ih _ _ h2 fun y hy=>hx y (by simp[hy])⟩
  cases h
theorem Hc:∀(v:Ae) (ys:List Value),By v=true->Ar A0 w0 β B w v (.tuple ⟨ys⟩)->Ar A0 w0 β B w (vl (BJ v)) (.tuple ⟨ys⟩):=by
 intro v;induction v with
 |nil=>intro ys _ h;exact h
 |cons h t ih1 ih2=>
  rintro ys hl ⟨y,zs,he,h1,h2⟩
  have:ys=y::zs:=by simpa using he
  subst this
  exact⟨y,zs,rfl,h1,ih2 zs hl h2⟩
 |_=>intro ys hl;simp[By]at hl
theorem Ju:∀l,Rk (vl l):=by intro l;induction l with|nil=>trivial|cons v l ih=>exact ih
theorem Mi:∀(l r:List Ae),vl (l++r)=SA (vl l) (vl r):=by
 intro l r;induction l with
 |nil=>cases h:vl r<;>simp[vl,SA,h]
 |cons v l ih=>simp[vl,SA,ih]
theorem H8{A:Nat->Prop}:∀(l:List Ae) (x:Value),Ek l=true->A7 w A B β (vl l) x->Ap w A (vl l) x:=by
 intro l x hp hr
 refine A7.pure _ _ ?_ hr
 induction l generalizing x with
 |nil=>rfl
 |cons v l ih=>
  simp only[Ek,Bool.and_eq_true]at hp
  obtain⟨y,ys,rfl,h1,h2⟩:=hr
  simp only[vl,A2,Bool.and_eq_true]
  exact⟨hp.1,ih _ hp.2 h2⟩
theorem Qt(hm:Fl P A0 w0 β B N w)(hbx:∀b c,B b=some c->Ab bx b=some c):∀(l:List Ae) (x:Value),BG bx l=true->Ar A0 w0 β B w (vl l) x->Ap w (Zx A0 w0 B β) (vl (Cg bx l)) x:=by
 intro l;induction l with
 |nil=>intro x _ h;exact h
 |cons v l ih=>
  rintro x hs ⟨y,ys,rfl,h1,h2⟩
  simp only[BG,Bool.and_eq_true]at hs
  exact⟨y,ys,rfl,M9 hm hbx 40 v y hs.1 h1,ih _ hs.2 h2⟩
theorem JL{D:Bn->Prop}(hm:Fl P A0 w0 β B N w)(hbx:∀b c,B b=some c->(Ab bx b=some c/\D b)\/Ab bx b=none):∀(l:List Ae) (x:Value),BG bx l=true->Ar A0 w0 β B w (vl l) x->Ap w (Q5 A0 w0 B β D) (vl (Cg bx l)) x:=by
 intro l;induction l with
 |nil=>intro x _ h;exact h
 |cons v l ih=>
  rintro x hs ⟨y,ys,rfl,h1,h2⟩
  simp only[BG,Bool.and_eq_true]at hs
  exact⟨y,ys,rfl,Lf hm hbx 40 v y hs.1 h1,ih _ hs.2 h2⟩
theorem ON(d:Nat):∀v:Ae,A2 v=true->Aw bx d v=v:=by
 intro v;induction v with
 |cons h t ih1 ih2=>
  intro hp
  simp only[A2,Bool.and_eq_true]at hp
  cases d<;>simp only[Aw,ih1 hp.1,ih2 hp.2]
 |agg l ih=>intro hp;cases d<;>simp only[Aw,ih hp]
 |tup l ih=>intro hp;cases d<;>simp only[Aw,ih hp]
 |func fn l ih=>intro hp;cases d<;>simp only[Aw,ih hp]
 |_=>intro hp;first|(simp[A2]at hp;done)|(cases d<;>simp only[Aw])
theorem Jy:∀l:List Ae,Ek l=true->Cg bx l=l:=by
 intro l;induction l with
 |nil=>intro _;rfl
 |cons v l ih=>intro hp;simp only[Ek,Bool.and_eq_true]at hp;simp only[Cg,ON 40 v hp.1,ih hp.2]
theorem QO:∀l r:List Ae,Ek (l++r)=(Ek l&&Ek r):=by
 intro l r;induction l with
 |nil=>simp[Ek]
 |cons v l ih=>simp only[List.cons_append,Ek,ih,Bool.and_assoc]
theorem F3:∀l r:List Ae,BG bx (l++r)=(BG bx l&&BG bx r):=by
 intro l r;induction l with
 |nil=>simp[BG]
 |cons v l ih=>simp only[List.cons_append,BG,ih,Bool.and_assoc]
theorem MD(k n:Nat)(c:Nat->Nat->Ae)(l2:List Ae):∀(l1:List Ae) (args:List (List Sh×Bf)),∃a1 a2,CW args (l1++ .view k n c::l2)=CW a1 l1++ .view k n c::CW a2 l2:=by
 intro l1;induction l1 with
 |nil=>
  intro args
  cases args with
  |nil=>exact⟨[],[],rfl⟩
  |cons x a=>
   obtain⟨s,o⟩:=x
   refine⟨[],a,?_⟩
   have:Tz s (.view k n c)= .view k n c:=by
    cases s with
    |nil=>rfl
    |cons s l=>cases l<;>first|rfl|(cases s<;>rfl)
   simp[CW,this]
 |cons v l1 ih=>
  intro args
  cases args with
  |nil=>exact⟨[],[],rfl⟩
  |cons x a=>
   obtain⟨s,o⟩:=x
   obtain⟨a1,a2,h⟩:=ih a
   exact⟨(s,o)::a1,a2,by simp[CW,h]⟩
theorem G6(hm:Fl P A0 w0 β B N w)(hG:∀n m c,E.G n=some (m,c)->Ap w0.w (fun g=>A0 g/\¬w0.X g) (.vptr m c) (.pointer (some ⟨n,0,none⟩))){m:Nat}{c:Nat->Ae}(h:E.G n=some (m,c)):HU A0 w0 β B w (.vptr m c) (.pointer (some ⟨n,0,none⟩)):=
 Ap.mono hm.below.size (fun g hg hA=>⟨⟨.inl hA.1,fun b c hb e=>(hm.base b c g hb e).1.elim (fun h=>absurd hg (Nat.not_lt.2 h)) hA.2⟩,hm.below.block g hg hA.2⟩) _ _ (hG n m c h)
theorem En(hnd:∀c,o.op≠ .defer c)(h:o.uponIn (FW ro) 0 P a next Q ((execOp a.eval o).run P w)):o.wpIn (FW ro) 0 P a w next Q:=
 ⟨fun _ _=>trivial,by rw[Oper.semAt_eq _ _ _ hnd];exact h⟩
theorem Bz{x:Value}(hnd:∀c,o.op≠ .defer c)(hr:(execOp a.eval o).run P w= .ok (.value x) w1)(h:next (a.put o.dst x) w1):o.wpIn (FW ro) 0 P a w next Q:=
 En hnd (by rw[hr];exact h)
theorem EF(hnd:∀c,o.op≠ .defer c)(hr:(execOp a.eval o).run P w= .ok .skip w1)(h:next (a.put o.dst undef) w1):o.wpIn (FW ro) 0 P a w next Q:=
 En hnd (by rw[hr];exact h)
theorem EC{f:FuncId}{args:Array Value}(hnd:∀c,o.op≠ .defer c)(hr:(execOp a.eval o).run P w= .ok (.enter f args) w1)
  (h:Calls P f args w1 fun
   | .returned v,w''=>next (a.put o.dst v) w''
   | .panicked chain,w''=>Q (.panic chain) a w''
   | .outgrown,_=>LetsOut Q):o.wpIn (FW ro) 0 P a w next Q:=
 En hnd (by rw[hr];exact⟨fun h=>(by cases h),(callsIn_wide (n:=0)).2 h⟩)
theorem S8{w:World}{A:Nat->Prop}{x:Value}{xs:List Value}{c:Nat->Nat->Ae}(how:w1.ownsRow w.heap.size e k x n xs)(hn:n<=maxLen)(hc:∀i,i<n->∀j,j<k->∃y,xs[i*k+j]?=some y/\y.oneCell'=true/\Ap w1 (fun _=>False) (c i j) y)
  (hA:∀g,g<w1.heap.size->w.heap.size<=g->A g):Ap w1 A (.view k n c) x:=by
 rcases how.2 with⟨rfl,rfl⟩|⟨g,cap,cur,rfl,k2,k3,k4,k5,k6,k7⟩
 ·exact⟨none,0,rfl,hn,Nat.le_refl _,fun h=>absurd h (by omega)⟩
 have hg:=(Array.getElem?_eq_some_iff.1 k3).1
 refine⟨_,cap,rfl,hn,k4,fun _=>⟨g,0,rfl,hg,hA g hg k2,fun i hi j hj=> ?_⟩⟩
 obtain⟨y,y1,y2,y3⟩:=hc i hi j hj
 refine⟨y,?_,y2,Ap.weak (fun _ _ h=>h.elim) y3⟩
 rw[<-k7,List.getElem?_take]at y1
 split at y1
 ·simp only[World.cell?,k3]
  simpa using y1
 cases y1
theorem Eb{c:Call}{f:Operand}{of:Bf}{args:List (List Sh×Bf)}(hm:Fl P A0 w0 β B N w)(hbx:∀b c,B b=some c->Ab bx b=some c)(hG:∀n m c,E.G n=some (m,c)->Ap w0.w (fun g=>A0 g/\¬w0.X g) (.vptr m c) (.pointer (some ⟨n,0,none⟩)))
  (hS:∀id s,E.S id=some s->Ah P E.G id s) (ho:o.op= .call c) (hcal:c.callee= .value f) (hf:AI f=some of) (hargs:E8 P c.args.toList c.argTypes.toList=some args)
  (hxf:Ar A0 w0 β B w (ev E fr of) (a.eval f)) (hx:∀x∈c.args.toList,I5 E A0 w0 β B w fr a x) (hp:(AG E fr bx nx (.call of args)).pre)
  (hnext:∀x w1,CB P A0 w0 β β B nx none w w1->Ar A0 w0 β B w1 (AG E fr bx nx (.call of args)).v x->(∀s,J0 E (ev E fr of)=some s->ZE w w1 s.own (AG E fr bx nx (.call of args)).v x)->next (a.put o.dst x) w1):o.wpIn (FW ro) 0 P a w next Q/\(AG E fr bx nx (.call of args)).new=none:=by
 cases hv:ev E fr of<;>simp only[AG,hv]at hp hxf hnext⊢ <;>first|exact hp.elim|skip
 rename_i fn caps
 cases fn<;>simp only at hp hnext⊢ <;>first|exact hp.elim|skip
 rename_i id
 cases hs:E.S id<;>simp only[hs]at hp hnext⊢ <;>first|exact hp.elim|skip
 rename_i s
 obtain⟨ys,he,hcr⟩:=hxf
 have hargsR:=Fh c.args.toList c.argTypes.toList args hargs hx
 have hcapR:=Hc caps ys hp.1 hcr
 have hall:Ar A0 w0 β B w (vl (AQ E fr args++BJ caps)) (.tuple ⟨c.args.toList.map a.eval++ys⟩):=by
  rw[Mi];exact A7.app hargsR (Ju _) hcapR
 generalize AQ E fr args++BJ caps=vs at*
 have hok:=hS id s hs
 have henter:(execOp a.eval o).run P w= .ok (.enter id ⟨c.args.toList.map a.eval++ys⟩) w:=by
  have e1:(Array.map a.eval c.args++(⟨ys⟩:Array Value))=⟨c.args.toList.map a.eval++ys⟩:=by apply Array.toList_inj.1;simp
  simp[execOp,ho,resolve,hcal,he,Deferred.ofValue,invoke,hok.ent,e1]
 have hAl:∀w1,Below w.heap.size w w1->∀g,g<w1.heap.size->(Al A0 w0 B β g\/w.heap.size<=g)->Al A0 w0 B β g:=by
  rintro w1 hb g hg (h|h)
  ·exact h
  exact⟨.inr (.inl (by have:=hm.below.size;omega)),fun b c hB e=>by have:=(hm.base b c g hB e).2;omega⟩
 cases hpu:Ek vs with
 |true=>
  simp only[Cp,hpu]at hp hnext⊢
  refine⟨?_,trivial⟩
  have hcalls:=hok.run (Al A0 w0 B β) w _ _ (fun n m c h=>G6 hm hG h) (Ei args vs _ (H8 vs _ hpu hall)) hp.2
  refine EC (fun c' h=>by rw[ho]at h;cases h) henter (hcalls.mono fun e w1=> ?_)
  rintro⟨x,rfl,hr,hb,hown⟩
  exact hnext x w1 (CB.none hb) (Ap.rep _ _ (Ap.mono (Nat.le_refl _) (fun g hg h=>⟨hAl w1 hb g hg h,rfl⟩) _ _ hr)) fun s' hs'=>by
   simp only[J0,hs]at hs';cases hs';exact hown
 |false=>
  simp only[Cp,hpu]at hp hnext⊢
  refine⟨?_,trivial⟩
  have hcalls:=hok.run (Zx A0 w0 B β) w _ _ (fun n m c h=>Ap.weak (fun g _ h=> .inl h) (G6 hm hG h)) (Ei args _ _ (Qt hm hbx vs _ hp.2.1 hall)) hp.2.2.1
  refine EC (fun c' h=>by rw[ho]at h;cases h) henter (hcalls.mono fun e w1=> ?_)
  rintro⟨x,rfl,hr,hb,hown⟩
  have hrep:Ap w1 (Al A0 w0 B β) (s.res (CW args (Cg bx vs))) x:=by
   have hfl:=hp.2.2.2
   cases ho:s.own with
   |none=>rw[ho]at hfl;exact JT _ _ hfl hr
   |some e=>
    obtain⟨k,n,c,q1,q2,q3,xs,q4,q5⟩:=hown e ho
    rw[q1]
    exact S8 q4 q3 q5 fun g hg hge=>hAl w1 hb g hg (.inr hge)
  exact hnext x w1 (CB.none hb) (Ap.rep _ _ hrep) fun s' hs'=>by
   simp only[J0,hs]at hs';cases hs';exact hown
end Go.Proofs.YtlieoghhkioflaaGreat
/- The engine,part 12: '==' on structs and arrays of numbers. No condition. -/
namespace Go.Proofs.YtlieoghhkioflaaGreat
open Go Go.RowKit
variable{P:Program}{E:Df}{A0:Nat->Prop}{w0:AY}{β:Bn->CI}{B:Bq}{nx:Nat}{w:World}{a:Act}{o:Oper}{fr:Fr}{bx:Bx}
def Ty:List Sh->List Value->Prop
 |[],[]=>True
 | .int k::s,.int k' _::X=>k=k'/\Ty s X
 | .bool::s,.bool _::X=>Ty s X
 |_,_=>False
def vEq:Value->Value->Bool
 | .int _ a,.int _ b=>a==b
 | .bool a,.bool b=>a==b
 |_,_=>true
def KY:List Value->List Value->Bool
 |x::X,y::Y=>vEq x y&&KY X Y
 |_,_=>true
theorem Ty.len:∀{s X},Ty s X->X.length=s.length:=by
 intro s;induction s with
 |nil=>intro X h;cases X<;>simp[Ty]at h⊢
 |cons c s ih=>
  intro X h
  cases X with
  |nil=>cases c<;>simp[Ty]at h
  |cons x X=>
   cases c<;>cases x<;>simp[Ty]at h<;>simp
   ·exact ih h.2
   exact ih h
theorem Ty.split:∀{s1 s2 X},Ty (s1++s2) X->∃X1 X2,X=X1++X2/\Ty s1 X1/\Ty s2 X2:=by
 intro s1;induction s1 with
 |nil=>intro s2 X h;exact⟨[],X,rfl,trivial,h⟩
 |cons c s1 ih=>
  intro s2 X h
  cases X with
  |nil=>cases c<;>simp[Ty]at h
  |cons x X=>
   cases c<;>cases x<;>simp[Ty]at h
   ·obtain⟨rfl,h⟩:=h
    obtain⟨X1,X2,rfl,h1,h2⟩:=ih h
    exact⟨_::X1,X2,rfl,⟨rfl,h1⟩,h2⟩
   obtain⟨X1,X2,rfl,h1,h2⟩:=ih h
   exact⟨_::X1,X2,rfl,h1,h2⟩
theorem PX:∀(X Y X' Y':List Value),X.length=Y.length->KY (X++X') (Y++Y')=(KY X Y&&KY X' Y'):=by
 intro X;induction X with
 |nil=>intro Y X' Y' h;cases Y<;>simp at h;simp[KY]
 |cons x X ih=>
  intro Y X' Y' h
  cases Y with
  |nil=>simp at h
  |cons y Y=>simp only[List.cons_append,KY,ih Y X' Y' (by simpa using h),Bool.and_assoc]
def PE(P:Program)(t:TypeId)(X:List Value):Value:=if BY P t=some true then .agg ⟨X⟩else X.headD undef
theorem Hz{t:TypeId}{n:Nat}(hs:BL P t=some n)(hag:(BY P t==some true||(BY P t==some false&&n==1))=true)(pre X post:List Value)(hX:X.length=n):
  (part t ⟨pre++X++post⟩ pre.length).run P w= .ok (PE P t X) w:=by
 obtain⟨i,hi,hi'⟩:=Option.map_eq_some_iff.1 hs
 have h6:(sizeOf t).run P w= .ok n w:=by simp[sizeOf,typeInfo,hi,hi']
 simp only[Bool.or_eq_true,beq_iff_eq,Bool.and_eq_true]at hag
 rcases hag with h|h
 ·simp only[part,Sem.run_bind,Eh h,Result.andThen_ok,if_true,h6,Sem.run_pure,PE,h]
  congr 2
  apply Array.toList_inj.1
  simp[<-hX]
 obtain⟨h1,h2⟩:=h
 subst h2
 cases X with
 |nil=>simp at hX
 |cons x X=>
  have:X=[]:=List.eq_nil_of_length_eq_zero (by simpa using hX)
  subst this
  simp only[part,Sem.run_bind,Eh h1,Result.andThen_ok,PE,h1]
  simp
theorem Sb{D:Nat}{Ef:TypeId->Bool}{S:TypeId->Option (List Sh)}(hE:∀t s X Y w,Ef t=true->S t=some s->Ty s X->Ty s Y->(Op.equalIn D t (PE P t X) (PE P t Y)).run P w= .ok (KY X Y) w):
  ∀(fs:List Field) (s:List Sh) (preX preY X Y:List Value),Vm P Ef S preX.length fs=true->preX.length=preY.length->fs.foldr (fun f acc=>match S f.type,acc with|some a,some b=>some (a++b)|_,_=>none) (some [])=some s->Ty s X->Ty s Y->
  (Op.eqFields D ⟨preX++X⟩ ⟨preY++Y⟩ fs).run P w= .ok (KY X Y) w:=by
 intro fs;induction fs with
 |nil=>
  intro s preX preY X Y _ _ hs hX hY
  simp at hs;subst hs
  cases X<;>cases Y<;>simp[Ty]at hX hY
  simp[Op.eqFields,KY]
 |cons f fs ih=>
  intro s preX preY X Y he hl hs hX hY
  simp only[List.foldr_cons]at hs
  split at hs
  ·rename_i s1 s2 h1 h2
   simp at hs;subst hs
   simp only[Vm,h1,Bool.and_eq_true]at he
   obtain⟨⟨⟨hn,ho⟩,hEf⟩,⟨hsz,hag⟩,hrest⟩:=he
   have ho:f.offset=preX.length:=by simpa using ho
   have hsz:BL P f.type=some s1.length:=by simpa using hsz
   obtain⟨X1,X2,rfl,hX1,hX2⟩:=Ty.split hX
   obtain⟨Y1,Y2,rfl,hY1,hY2⟩:=Ty.split hY
   have hn':f.name≠ "_" :=by simpa using hn
   have p1:=Hz (w:=w) hsz hag preX X1 X2 hX1.len
   have p2:=Hz (w:=w) hsz hag preY Y1 Y2 hY1.len
   simp only[Op.eqFields]
   rw[if_pos hn']
   simp only[Sem.run_bind,ho,<-List.append_assoc,p1,Result.andThen_ok]
   rw[hl,p2]
   simp only[Result.andThen_ok,hE _ _ _ _ w hEf h1 hX1 hY1]
   rw[List.append_assoc]at*
   have hlen:X1.length=Y1.length:=by rw[hX1.len,hY1.len]
   rw[PX _ _ _ _ hlen]
   cases hq:KY X1 Y1
   ·simp
   have hr:=ih s2 (preX++X1) (preY++Y1) X2 Y2 (by rw[List.length_append,hX1.len];exact hrest) (by simp[hl,hlen]) h2 hX2 hY2
   simp only[Bool.not_true,Bool.false_eq_true,if_false,Bool.true_and]
   simpa using hr
  cases hs
theorem M4{D:Nat}{e:TypeId}{s:List Sh}(hE:∀X Y w,Ty s X->Ty s Y->(Op.equalIn D e (PE P e X) (PE P e Y)).run P w= .ok (KY X Y) w)(hsz:BL P e=some s.length)
  (hag:(BY P e==some true||(BY P e==some false&&s.length==1))=true):∀(n i:Nat) (preX preY X Y:List Value),preX.length=i*s.length->preY.length=i*s.length->Ty (List.replicate n s).flatten X->Ty (List.replicate n s).flatten Y->
  (Op.eqItems D e s.length ⟨preX++X⟩ ⟨preY++Y⟩ (List.range' i n)).run P w= .ok (KY X Y) w:=by
 intro n;induction n with
 |zero=>
  intro i preX preY X Y _ _ hX hY
  cases X<;>cases Y<;>simp[Ty]at hX hY
  simp[Op.eqItems,KY]
 |succ n ih=>
  intro i preX preY X Y hx hy hX hY
  simp only[List.replicate_succ,List.flatten_cons]at hX hY
  obtain⟨X1,X2,rfl,hX1,hX2⟩:=Ty.split hX
  obtain⟨Y1,Y2,rfl,hY1,hY2⟩:=Ty.split hY
  have p1:=Hz (w:=w) hsz hag preX X1 X2 hX1.len
  have p2:=Hz (w:=w) hsz hag preY Y1 Y2 hY1.len
  rw[hx]at p1
  rw[hy]at p2
  have hlen:X1.length=Y1.length:=by rw[hX1.len,hY1.len]
  simp only[List.range'_succ,Op.eqItems,Sem.run_bind,<-List.append_assoc,p1,p2,Result.andThen_ok,hE _ _ w hX1 hY1]
  rw[PX _ _ _ _ hlen]
  cases hq:KY X1 Y1
  ·simp
  have hr:=ih (i+1) (preX++X1) (preY++Y1) X2 Y2 (by rw[List.length_append,hx,hX1.len,Nat.succ_mul]) (by rw[List.length_append,hy,hY1.len,Nat.succ_mul]) hX2 hY2
  simp only[Bool.not_true,Bool.false_eq_true,if_false,Bool.true_and]
  simpa using hr
theorem YY:∀(d:Nat) (t:TypeId) (s:List Sh) (X Y:List Value) (D:Nat) (w:World),G1 P d t=true->Ll P d t=some s->Ty s X->Ty s Y->d<=D->(Op.equalIn D t (PE P t X) (PE P t Y)).run P w= .ok (KY X Y) w:=by
  intro d;induction d with
  |zero=>intro t s X Y D w h;simp[G1]at h
  |succ d ih=>
    intro t s X Y D w he hs hX hY hD
    obtain⟨D,rfl⟩:∃D',D=D'+1:=⟨D-1,by omega⟩
    simp only[G1]at he
    simp only[Ll]at hs
    cases hu:P.underlying t with
    |none=>simp[hu]at he
    |some u=>
      cases u<;>simp only[hu]at he hs<;>first|(simp at he;done)|skip
      · -- bool
        simp at hs;subst hs
        have hag:BY P t=some false:=by simp[BY,hu]
        cases X with
        |nil=>simp[Ty]at hX
        |cons x X=>cases x<;>simp[Ty]at hX
                   cases X<;>simp[Ty]at hX
                   cases Y with
                   |nil=>simp[Ty]at hY
                   |cons y Y=>
                     cases y<;>simp[Ty]at hY
                     cases Y<;>simp[Ty]at hY
                     simp[PE,hag,KY,vEq,run_equalIn_bool' w D t _ _ hu]
      · -- int
        simp at hs;subst hs
        have hag:BY P t=some false:=by simp[BY,hu]
        cases X with
        |nil=>simp[Ty]at hX
        |cons x X=>cases x<;>simp[Ty]at hX
                   obtain⟨rfl,hX⟩:=hX
                   cases X<;>simp[Ty]at hX
                   cases Y with
                   |nil=>simp[Ty]at hY
                   |cons y Y=>
                     cases y<;>simp[Ty]at hY
                     obtain⟨rfl,hY⟩:=hY
                     cases Y<;>simp[Ty]at hY
                     simp[PE,hag,KY,vEq,run_equalIn_int w D t _ _ _ _ hu]
      · -- array
        rename_i n e
        have hag:BY P t=some true:=by simp[BY,hu]
        simp only[Bool.and_eq_true]at he
        obtain⟨he1,he2⟩:=he
        cases hse:Ll P d e with
        |none=>simp[hse]at he2
        |some s1=>
          simp only[hse,Bool.and_eq_true]at he2
          simp only[hse,Option.map_some,Option.some.injEq]at hs
          subst hs
          obtain⟨⟨h1,h2⟩,h3⟩:=he2
          have h1:BL P e=some s1.length:=by simpa using h1
          have h2:P.cellsOf e=s1.length:=by simpa using h2
          obtain⟨i,hi,hi'⟩:=Option.map_eq_some_iff.1 h1
          have:=M4 (P:=P) (w:=w) (D:=D) (fun X Y w hX hY=>ih e s1 X Y D w he1 hse hX hY (by omega)) h1 h3 n 0 [] [] X Y (by simp) (by simp) hX hY
          simp only[List.nil_append,<-List.range_eq_range']at this
          simp only[PE,hag,if_true,run_equalIn_array w D _ _ hu hi,h2,this]
      -- struct
      rename_i fs
      have hag:BY P t=some true:=by simp[BY,hu]
      simp only[Bool.and_eq_true,Bool.not_eq_true']at he
      have hf:P.fieldsOf t=fs:=by simp[Program.fieldsOf,hu]
      have:=Sb (P:=P) (w:=w) (D:=D) (fun t s X Y w h1 h2 hX hY=>ih t s X Y D w h1 h2 hX hY (by omega)) fs.toList s [] [] X Y he.2 rfl hs hX hY
      simp only[List.nil_append]at this
      simp only[PE,hag,if_true,run_equalIn_struct w D t _ _ (by rw[hf];exact hu) he.1,hf,this]
theorem P6:∀(s:List Sh) (l:Ae) (X:List Value),Ih s l->Ar A0 w0 β B w l (.tuple ⟨X⟩)->Ty s X:=by
 intro s;induction s with
 |nil=>
  intro l X h hr
  cases l<;>simp[Ih]at h
  have e:Value.tuple ⟨X⟩= .tuple #[]:=hr
  have:X=[]:=by simpa using e
  subst this;trivial
 |cons c s ih=>
  intro l X h hr
  cases c<;>cases l<;>simp[Ih]at h
  ·obtain⟨x,xs,he,h1,h2⟩:=hr
   have:X=x::xs:=by simpa using he
   subst this
   obtain⟨hc,h⟩:=h
   simp only[Ev]at hc
   rw[hc]at h1
   have e:x=_:=h1
   subst e
   exact⟨rfl,ih _ _ h h2⟩
  obtain⟨x,xs,he,h1,h2⟩:=hr
  have:X=x::xs:=by simpa using he
  subst this
  obtain⟨hc,h⟩:=h
  simp only[Ev]at hc
  rw[hc]at h1
  have e:x=_:=h1
  subst e
  exact ih _ _ h h2
theorem MB:∀(s:List Sh) (l m:Ae) (X Y:List Value),Ih s l->Ih s m->Ar A0 w0 β B w l (.tuple ⟨X⟩)->Ar A0 w0 β B w m (.tuple ⟨Y⟩)->KY X Y=DT s l m:=by
 intro s;induction s with
 |nil=>
  intro l m X Y h h' hr hr'
  cases l<;>simp[Ih]at h
  have e:Value.tuple ⟨X⟩= .tuple #[]:=hr
  have:X=[]:=by simpa using e
  subst this;cases Y<;>rfl
 |cons c s ih=>
  intro l m X Y h h' hr hr'
  cases c<;>cases l<;>simp[Ih]at h<;>cases m<;>simp[Ih]at h'
  ·obtain⟨x,xs,he,h1,h2⟩:=hr
   have:X=x::xs:=by simpa using he
   subst this
   obtain⟨y,ys,he,h1',h2'⟩:=hr'
   have:Y=y::ys:=by simpa using he
   subst this
   obtain⟨hc,h⟩:=h
   obtain⟨hc',h'⟩:=h'
   simp only[Ev]at hc hc'
   rw[hc]at h1;rw[hc']at h1'
   have e:x=_:=h1
   have e':y=_:=h1'
   subst e e'
   simp only[KY,vEq,DT,ih _ _ _ _ h h' h2 h2']
  obtain⟨x,xs,he,h1,h2⟩:=hr
  have:X=x::xs:=by simpa using he
  subst this
  obtain⟨y,ys,he,h1',h2'⟩:=hr'
  have:Y=y::ys:=by simpa using he
  subst this
  obtain⟨hc,h⟩:=h
  obtain⟨hc',h'⟩:=h'
  simp only[Ev]at hc hc'
  rw[hc]at h1;rw[hc']at h1'
  have e:x=_:=h1
  have e':y=_:=h1'
  subst e e'
  simp only[KY,vEq,DT,ih _ _ _ _ h h' h2 h2']
theorem Nu{op:BinOp}{neg:Bool}{t u:TypeId}{x y:Operand}{ox oy:Bf}{s:List Sh}(ho:o.op= .binOp op t x y u)(ht:BY P t=some true)(hs:T2 P t=some (true,s))(hpl:G1 P 6 t=true)(hgd:P.eqGuardType P.depth t=false)(hop:op=if neg then .neq else .eql)
  (hx:Ar A0 w0 β B w (ev E fr ox) (a.eval x)) (hy:Ar A0 w0 β B w (ev E fr oy) (a.eval y)) (hp:(AG E fr bx nx (.eqa neg s ox oy)).pre):AF P A0 w0 β B nx w a o (AG E fr bx nx (.eqa neg s ox oy)):=by
 cases hv:ev E fr ox<;>cases hu:ev E fr oy<;>simp only[AG,hv,hu]at hp hx hy⊢ <;>first|exact hp.elim|skip
 rename_i l m
 obtain⟨X,e1,h1⟩:=hx
 obtain⟨Y,e2,h2⟩:=hy
 have hsh:Ll P 6 t=some s:=by
  unfold T2 at hs
  split at hs
  ·split at hs
   ·simp at hs;rename_i q _ _;rw[<-hs.2];assumption
   cases hs
  cases hs
 have hr:=YY (P:=P) 6 t s X Y 10000 w hpl hsh (P6 _ _ _ hp.1 h1) (P6 _ _ _ hp.2 h2) (by omega)
 simp only[PE,ht,if_true]at hr
 rw[MB s l m X Y hp.1 hp.2 h1 h2]at hr
 cases neg
 ·simp only[Bool.false_eq_true,if_false]at hop
  subst hop
  exact AF.plain rfl (x:= .bool (DT s l m)) (by simp[execOp,ho,e1,e2,run_eqGuard_agg w _ _ _ _ _ _ hgd,run_eql_struct,hr]) rfl
 simp only[if_true]at hop
 subst hop
 exact AF.plain rfl (x:= .bool (!DT s l m)) (by simp[execOp,ho,e1,e2,run_eqGuard_agg w _ _ _ _ _ _ hgd,run_neq_struct,hr]) rfl
end Go.Proofs.YtlieoghhkioflaaGreat
/- The engine,part 13: every operation that stores nothing. No condition. -/
namespace Go.Proofs.YtlieoghhkioflaaGreat
open Go Go.RowKit
variable{ox:Bf}{x:Operand}{t:TypeId}
variable{P:Program}{E:Df}{A0:Nat->Prop}{w0:AY}{β:Bn->CI}{B:Bq}{nx:Nat}{w:World}{a:Act}{o:Oper}{fr:Fr}{bx:Bx}
theorem AF.wp{ro:Option Nat}(hnd:∀c,o.op≠ .defer c){r:AR}{next:Act->World->Prop}{Q:Exit->Act->World->Prop}(h:AF P A0 w0 β B nx w a o r)(hn:∀x w1 β1,CB P A0 w0 β β1 B nx r.new w w1->Ar A0 w0 β1 (Dd B nx r.new) w1 r.v x->next (a.put o.dst x) w1):o.wpIn (FW ro) 0 P a w next Q:=by
 obtain⟨x,w1,β1,hr,hs,hv⟩:=h
 exact Bz hnd hr (hn x w1 β1 hs hv)
theorem QR{z:Ae}(h:Pm P t=some z)(w:World)(A:Nat->Prop):∃v,(zeroValue t).run P w= .ok v w/\Ap w A z v:=by
 unfold Pm at h
 split at h
 ·rename_i i hi
  obtain⟨v,hv,hc⟩:=Option.bind_eq_some_iff.1 h
  exact⟨v,by simp[zeroValue,typeInfo,hi,hv],NZ hc w A⟩
 cases h
theorem Rf{k e:TypeId}{kd:IntKind}{ok:Bool}{z:Ae}{m:Operand}{om:Bf}{N:Nat}(hm:Fl P A0 w0 β B N w)(hbx:∀b c,B b=some c->Ab bx b=some c)(ho:o.op= .lookup t m x ok)(ht:P.underlying t=some (.map k e))(hk:P.underlying k=some (.int kd))(hz:Pm P e=some z)
  (hmr:Ar A0 w0 β B w (ev E fr om) (a.eval m)) (hxr:Ar A0 w0 β B w (ev E fr ox) (a.eval x)) (hp:(AG E fr bx nx (.mget kd ok z om ox)).pre):AF P A0 w0 β B nx w a o (AG E fr bx nx (.mget kd ok z om ox)):=by
 obtain⟨zv,hzr,hzv⟩:=QR hz w (Al A0 w0 B β)
 have core:∀(g:Nat) (h:Int->Option Value) (has:Int->Bool) (f:Int->Ae) (n:Int),a.eval m= .map (some g)->CO w g kd h->(∀k,(has k=false->h k=none)/\(has k=true->∃y,h k=some y/\Ar A0 w0 β B w (f k) y))->a.eval x= .int kd n->
   AF P A0 w0 β B nx w a o ⟨kd=kd/\kd=kd,Qk ok (has n) (f n) z,none⟩:=by
  intro g h has f n hme hmf hc hxe
  have hrun:=FH hmf ht hk zv hzr n ok
  have hv:Ar A0 w0 β B w (EA (has n) (f n) z) ((h n).getD zv)/\(h n).isSome=has n:=by
   cases hh:has n with
   |false=>rw[(hc n).1 hh];exact⟨Ap.rep _ _ hzv,rfl⟩
   |true=>obtain⟨y,hy,hr⟩:=(hc n).2 hh;rw[hy];exact⟨hr,rfl⟩
  refine AF.plain rfl (x:=if ok then .tuple #[(h n).getD zv,.bool (h n).isSome]else(h n).getD zv) ?_ ?_
  ·simp[execOp,ho,hme,hxe,hrun,Result.andThen]
  cases ok with
  |false=>exact hv.1
  |true=>exact⟨_,rfl,_,_,rfl,hv.1,_,[],rfl,by rw[hv.2];rfl,rfl⟩
 simp only[AG]at hp⊢
 split at hp
 ·rename_i kd' has f kk n h1 h2
  obtain⟨rfl,rfl⟩:=hp
  rw[h1]at hmr
  rw[h2]at hxr
  obtain⟨g,h,e1,_,_,hmf,hc⟩:=hmr
  exact core g h has f n e1 hmf (fun k=>⟨(hc k).1,fun hk=>by obtain⟨y,hy,hr⟩:=(hc k).2 hk;exact⟨y,hy,Ap.rep _ _ hr⟩⟩) hxr
 ·rename_i b kk n h1 h2
  rw[h1]at hmr
  rw[h2]at hxr
  obtain⟨⟨kd',hB⟩,g,hg,e1⟩:=hmr
  rcases hB.cases with⟨has,f,hB⟩|⟨f,hB⟩
  ·simp only[hbx b _ hB]at hp⊢
   obtain⟨rfl,rfl⟩:=hp
   obtain⟨g',h,h3,hmf,hc⟩:=hm.bx b _ hB
   rw[hg]at h3;cases h3
   exact core g h has f n e1 hmf.mapF hc hxr
  simp only[hbx b _ hB]at hp⊢
  obtain⟨rfl,rfl,rfl,rfl⟩:=hp
  obtain⟨g',h,h3,hmf,hc⟩:=hm.bx b _ hB
  rw[hg]at h3;cases h3
  have hzv:zv= .slice none 0 0:=hzv
  subst hzv
  have hrun:=FH hmf.mapF ht hk _ hzr n false
  refine AF.plain rfl (x:=(h n).getD (.slice none 0 0)) ?_ (hc n)
  have hxe:a.eval x= .int kk n:=hxr
  simp[execOp,ho,e1,hxe,hrun,Result.andThen]
 exact hp.elim
theorem GG:∀{l l':List UInt8},l.map (fun b=>(b.toNat:Int))=l'.map (fun b=>(b.toNat:Int))->l=l'
 |[],[],_=>rfl
 |[],_::_,h=>by simp at h
 |_::_,[],h=>by simp at h
 |a::l,b::l',h=>by
  simp only[List.map_cons,List.cons.injEq]at h
  have h1:a=b:=UInt8.toNat_inj.1 (by have:=h.1;omega)
  rw[h1,GG h.2]
theorem MK{op:BinOp}{neg:Bool}{u:TypeId}{y:Operand}{oy:Bf}(ho:o.op= .binOp op t x y u)(hop:op=if neg then .neq else .eql)
  (hx:Ar A0 w0 β B w (ev E fr ox) (a.eval x)) (hy:Ar A0 w0 β B w (ev E fr oy) (a.eval y)) (hp:(AG E fr bx nx (.seq neg ox oy)).pre):AF P A0 w0 β B nx w a o (AG E fr bx nx (.seq neg ox oy)):=by
 cases hv:ev E fr ox<;>cases hu:ev E fr oy<;>simp only[AG,hv,hu]at hp hx hy⊢ <;>first|exact hp.elim|skip
 rename_i n f m g
 obtain⟨s,e1,h1⟩:=hx
 obtain⟨s',e2,h2⟩:=hy
 have key:(s.toList==s'.toList)=KE n f m g:=by
  rw[ByteArray.toList_eq,ByteArray.toList_eq,KE,Bool.eq_iff_iff,@decide_eq_true_iff _ (Classical.propDecidable _),beq_iff_eq]
  constructor
  ·intro h
   have hl:=congrArg List.length h1
   have hl':=congrArg List.length h2
   simp at hl hl'
   have hnm:n=m:=by
    have:=congrArg List.length h
    simp at this;omega
   subst hnm
   refine⟨rfl,fun i hi=> ?_⟩
   rw[h,h2]at h1
   have:=congrArg (fun l=>l[i]?) h1
   simp[hi]at this
   exact this.symm
  rintro⟨rfl,h⟩
  refine GG ?_
  rw[h1,h2]
  exact List.map_congr_left fun i hi=>h i (by simpa using hi)
 have hg:∀op,(eqGuard op t x y (.string s) (.string s')).run P w= .ok () w:=fun op=>by
  simp only[eqGuard];split<;>rfl
 cases neg with
 |false=>
  refine AF.plain rfl (x:= .bool (KE n f m g)) ?_ rfl
  have hop:op= .eql:=hop
  simp[execOp,ho,hop,e1,e2,hg .eql,binOp_string_eql,key]
 |true=>
  refine AF.plain rfl (x:= .bool (!KE n f m g)) ?_ rfl
  have hop:op= .neq:=hop
  simp[execOp,ho,hop,e1,e2,hg .neq,binOp_string_neq,key]
theorem QN(xs:List Int)(h:∀x∈xs,0<=x/\x<=255):(strOfNums xs).data.toList.map (fun b=>(b.toNat:Int))=xs:=by
 simp only[strOfNums]
 induction xs with
 |nil=>rfl
 |cons x xs ih=>
  have hx:=h x (by simp)
  have:=ih fun y hy=>h y (by simp[hy])
  simp only[List.map_cons]at this⊢
  simp only[List.cons.injEq]
  refine⟨?_,by simpa using this⟩
  simp only[UInt8.toNat_ofNat']
  omega
theorem Sk{s d e:TypeId}(ho:o.op= .convert s d x)(hs:P.underlying s=some (.slice e))(he:P.underlying e=some (.int .u8))(hd:P.underlying d=some .string)
  (hx:Ar A0 w0 β B w (ev E fr ox) (a.eval x)) (hp:(AG E fr bx nx (.b2s ox)).pre):AF P A0 w0 β B nx w a o (AG E fr bx nx (.b2s ox)):=by
 cases hv:ev E fr ox<;>simp only[AG,hv]at hp hx⊢ <;>first|exact hp.elim|skip
 ·have e1:a.eval x= .slice none 0 0:=hx
  refine AF.plain rfl (x:= .string ByteArray.empty) ?_ ⟨_,rfl,rfl⟩
  simp[execOp,ho,e1,run_convert_bytes_nil w s e hs he 0 0 d hd]
 rename_i k n c
 obtain⟨rfl,hc⟩:=hp
 obtain⟨ad,cap,e1,hn,hcap,hh⟩:=hx
 rcases Nat.eq_zero_or_pos n with h0|h0
 ·subst h0
  cases ad with
  |none=>
   refine AF.plain rfl (x:= .string ByteArray.empty) ?_ ⟨_,rfl,rfl⟩
   simp[execOp,ho,e1,run_convert_bytes_nil w s e hs he 0 cap d hd]
  |some ad=>
   refine AF.plain rfl (x:= .string ByteArray.empty) ?_ ⟨_,rfl,rfl⟩
   have hl:(loadCells ad 0).run P w= .ok (([]:List Int).map (Value.int .u8)).toArray w:=by simpa using run_loadCells_list (P:=P) w ad [] (fun j v hj=>by simp at hj)
   have:=run_bytesToString (P:=P) w ad 0 cap [] hl
   rw[<-run_convert_bytes_string w s d e _ 0 cap hs he hd]at this
   simp[execOp,ho,e1,this]
 obtain⟨g,off,rfl,hg,hA,hcell⟩:=hh h0
 have hrun:=run_convert_bytes_arg w s e hs he g off n cap ((List.range n).map fun i=>(c i 0).toInt) (by simp) (fun i hi=>by
  obtain⟨y,hy,_,hr⟩:=hcell i hi 0 (by omega)
  have hci:=(hc i hi).1
  rw[hci]at hr
  have hr:y= .int .u8 (c i 0).toInt:=hr
  rw[show off+i=off+i*1+0 from by omega,hy,hr]
  simp[List.getD,hi]) d hd
 refine AF.plain rfl (x:= .string (strOfNums ((List.range n).map fun i=>(c i 0).toInt))) ?_ ⟨_,rfl,QN _ fun y hy=> ?_⟩
 ·simp[execOp,ho,e1,hrun]
 obtain⟨i,hi,rfl⟩:=List.mem_map.1 hy
 exact(hc i (by simpa using hi)).2
theorem NK{mx:Bool}{c:Call}{y z:Operand}{oy oz:Bf}(ho:o.op= .call c)(hcal:c.callee= .builtin (if mx then .max else .min))(hargs:c.args.toList=[x,y,z])(hx:Ar A0 w0 β B w (ev E fr ox) (a.eval x))(hy:Ar A0 w0 β B w (ev E fr oy) (a.eval y))(hz:Ar A0 w0 β B w (ev E fr oz) (a.eval z))
  (hp:(AG E fr bx nx (.mm3 mx ox oy oz)).pre):AF P A0 w0 β B nx w a o (AG E fr bx nx (.mm3 mx ox oy oz)):=by
 have ha:c.args= #[x,y,z]:=by rw[<-hargs]
 have hp0:=hp
 simp only[AG]at hp0
 split at hp0
 case h_2=>exact hp0.elim
 rename_i k n k' n' k'' n'' hv hu ht
 obtain⟨rfl,rfl⟩:=hp0
 rw[hv]at hx
 rw[hu]at hy
 rw[ht]at hz
 simp only[AG,hv,hu,ht]
 have e1:a.eval x= .int k n:=hx
 have e2:a.eval y= .int k n':=hy
 have e3:a.eval z= .int k n'':=hz
 cases mx with
 |true=>
  refine AF.plain rfl (x:= .int k (max (max n n') n'')) ?_ rfl
  have h1:∀p q:Int,(if q>p then q else p)=max p q:=fun p q=>by rw[Int.max_def];split<;>split<;>omega
  simp only[execOp,ho,resolve,hcal,if_true]
  simp[ha,invoke,builtin,e1,e2,e3,Builtin.max_,List.foldlM,Builtin.max2]
  rw[h1,h1];omega
 |false=>
  refine AF.plain rfl (x:= .int k (min (min n n') n'')) ?_ rfl
  have h1:∀p q:Int,(if q<p then q else p)=min p q:=fun p q=>by rw[Int.min_def];split<;>split<;>omega
  simp only[execOp,ho,resolve,hcal]
  simp[ha,invoke,builtin,e1,e2,e3,Builtin.min_,List.foldlM,Builtin.min2]
  rw[h1,h1];omega
theorem WT{ag:Bool}{fs:Array Field}{f:Nat}{fd:Field}{n:Nat}(ho:o.op= .field t x f)(ht:P.underlying t=some (.struct fs))(hf:fs[f]?=some fd)(hag:BY P fd.type=some ag)(hn:BL P fd.type=some n)(h1:ag=false->n=1)
  (hx:Ar A0 w0 β B w (ev E fr ox) (a.eval x)) (hp:(AG E fr bx nx (.fv ag fd.offset n ox)).pre):AF P A0 w0 β B nx w a o (AG E fr bx nx (.fv ag fd.offset n ox)):=by
 cases hv:ev E fr ox<;>simp only[AG,hv]at hp hx⊢ <;>first|exact hp.elim|skip
 rename_i l
 obtain⟨ys,e1,h2⟩:=hx
 obtain⟨zs,hz1,hz2,hz3,hz4⟩:=HQ h2 fd.offset n hp
 obtain⟨i,hi,hsz⟩:∃i,P.info? fd.type=some i/\i.size=n:=by
  unfold BL at hn;cases hh:P.info? fd.type with
  |none=>rw[hh]at hn;cases hn
  |some i=>rw[hh]at hn;simp at hn;exact⟨i,rfl,hn⟩
 refine AF.plain rfl (x:=if ag then .agg ⟨zs⟩else zs.getD 0 undef) ?_ (Gh hz4 fun h=>by rw[F8,HG];have:=h1 h;omega)
 have hext:ag=true->(⟨ys⟩:Array Value).extract fd.offset (fd.offset+n)=⟨zs⟩:=fun _=>by
  apply Array.toList_inj.1
  simp only[Array.toList_extract,List.extract_eq_take_drop]
  apply List.ext_getElem?
  intro j
  rw[show fd.offset+n-fd.offset=n from by omega]
  by_cases hj:j<n
  ·rw[List.getElem?_take_of_lt hj,List.getElem?_drop,hz2 j hj]
  rw[List.getElem?_eq_none (by simp;omega),List.getElem?_eq_none (by omega)]
 cases ag with
 |true=>
  simp[execOp,ho,e1,Instr.field,run_underlying ht,hf,asAgg,part,Eh hag,sizeOf,typeInfo,hi,hsz]
  simpa using hext rfl
 |false=>
  have hn1:=h1 rfl
  have h0:=hz2 0 (by omega)
  rw[Nat.add_zero]at h0
  cases zs with
  |nil=>simp at hz1;omega
  |cons z zs=>
   have h0:ys[fd.offset]?=some z:=by rw[<-h0];rfl
   simp[execOp,ho,e1,Instr.field,run_underlying ht,hf,asAgg,part,Eh hag,h0]
set_option maxHeartbeats 1000000 in
theorem PS{ro:Option Nat}{ao:JE}{next:Act->World->Prop}{Q:Exit->Act->World->Prop}(hc:CG P o.op=some ao){N:Nat}(hm:Fl P A0 w0 β B N w)(hB:B nx=none)(hbx:∀b c,B b=some c->Ab bx b=some c)
  (hG:∀n m c,E.G n=some (m,c)->Ap w0.w (fun g=>A0 g/\¬w0.X g) (.vptr m c) (.pointer (some ⟨n,0,none⟩))) (hS:∀id s,E.S id=some s->Ah P E.G id s)
  (hx:∀x∈o.op.operands.toList,I5 E A0 w0 β B w fr a x) (hp:(AG E fr bx nx ao).pre)
  (hn:∀x w1 β1,CB P A0 w0 β β1 B nx (AG E fr bx nx ao).new w w1->Ar A0 w0 β1 (Dd B nx (AG E fr bx nx ao).new) w1 (AG E fr bx nx ao).v x->next (a.put o.dst x) w1):o.wpIn (FW ro) 0 P a w next Q:=by
 cases ho:o.op<;>simp only[ho,CG]at hc<;>simp only[ho,Op.operands]at hx<;>first|(cases hc;done)|skip
 case move x=>
  obtain⟨ox,h1,rfl⟩:=Option.map_eq_some_iff.1 hc
  exact AF.wp (fun c' h=>by rw[ho]at h;cases h) (PY (.inl ho) (hx x (by simp) ox h1)) hn
 case assign x=>
  obtain⟨ox,h1,rfl⟩:=Option.map_eq_some_iff.1 hc
  exact AF.wp (fun c' h=>by rw[ho]at h;cases h) (PY (.inr ho) (hx x (by simp) ox h1)) hn
 case pick c x y=>
  split at hc<;>simp at hc
  rename_i oc ox oy h1 h2 h3
  subst hc
  exact AF.wp (fun c' h=>by rw[ho]at h;cases h) (QQ ho (hx c (by simp) _ h1) (hx x (by simp) _ h2) (hx y (by simp) _ h3) hp) hn
 case alloc t=>
  obtain⟨p,h1,rfl⟩:=Option.map_eq_some_iff.1 hc
  exact AF.wp (fun c' h=>by rw[ho]at h;cases h) (N5 hm hB ho h1) hn
 case box t x=>
  split at hc<;>simp at hc
  rename_i n ox h1 h2
  subst hc
  exact AF.wp (fun c' h=>by rw[ho]at h;cases h) (UE hm hB ho (hx x (by simp) _ h2) hp) hn
 case build t parts=>
  have hx':∀p∈parts.toList,I5 E A0 w0 β B w fr a p.2:=fun p hp=>hx p.2 (by simp;exact⟨p.1,by simpa using hp⟩)
  split at hc
  ·rename_i fs z h1 h2
   split at hc
   ·rename_i hall
    obtain⟨r,h3,rfl⟩:=Option.map_eq_some_iff.1 hc
    exact AF.wp (fun c' h=>by rw[ho]at h;cases h) (HI ho h1 h2 hall h3 hx' hp) hn
   cases hc
  ·rename_i e z h1 h2
   split at hc
   ·rename_i k hk
    obtain⟨r,h3,rfl⟩:=Option.map_eq_some_iff.1 hc
    exact AF.wp (fun c' h=>by rw[ho]at h;cases h) (HK ho h1 hk h2 h3 hx' hp) hn
   cases hc
  cases hc
 case buildSlice t len parts=>
  have hx':∀p∈parts.toList,I5 E A0 w0 β B w fr a p.2:=fun p hp=>hx p.2 (by simp;exact⟨p.1,by simpa using hp⟩)
  split at hc
  ·rename_i e h1
   split at hc
   ·rename_i k z l h2 h3
    split at hc
    ·rename_i hlen
     simp at hc;subst hc
     exact AF.wp (fun c' h=>by rw[ho]at h;cases h) (Uu hm hB ho h1 h2 hlen h3 hx' hp) hn
    cases hc
   cases hc
  cases hc
 case load t x=>
  split at hc<;>simp at hc
  rename_i ag s ox h1 h2
  subst hc
  exact AF.wp (fun c' h=>by rw[ho]at h;cases h) (Qp hm hbx ho h1 (hx x (by simp) _ h2) hp) hn
 case store t x y=>
  split at hc<;>simp at hc
  subst hc
  exact hp.elim
 case binOp op t x y u=>
  split at hc
  ·rename_i ox oy h1 h2
   split at hc
   ·split at hc
    ·simp at hc;subst hc
     exact AF.wp (fun c' h=>by rw[ho]at h;cases h) (SO ho (hx x (by simp) _ h1) (hx y (by simp) _ h2) hp) hn
    ·rename_i hu
     split at hc<;>simp at hc
     ·subst hc
      exact AF.wp (fun c' h=>by rw[ho]at h;cases h) (Lc ho hu rfl (hx x (by simp) _ h1) (hx y (by simp) _ h2) hp) hn
     subst hc
     exact AF.wp (fun c' h=>by rw[ho]at h;cases h) (Lc ho hu rfl (hx x (by simp) _ h1) (hx y (by simp) _ h2) hp) hn
    ·split at hc<;>simp at hc
     ·subst hc
      exact AF.wp (fun c' h=>by rw[ho]at h;cases h) (MK ho rfl (hx x (by simp) _ h1) (hx y (by simp) _ h2) hp) hn
     subst hc
     exact AF.wp (fun c' h=>by rw[ho]at h;cases h) (MK ho rfl (hx x (by simp) _ h1) (hx y (by simp) _ h2) hp) hn
    ·split at hc<;>simp at hc<;>(subst hc;exact hp.elim)
    cases hc
   ·rename_i hag
    split at hc
    ·rename_i ag s hs
     have hag':ag=true:=by have:=(G7 hs).1;rw[hag]at this;simpa using this.symm
     subst hag'
     split at hc
     ·rename_i hcond
      split at hc<;>simp at hc
      ·subst hc
       exact AF.wp (fun c' h=>by rw[ho]at h;cases h) (Nu ho hag hs hcond.2.1 hcond.2.2 rfl (hx x (by simp) _ h1) (hx y (by simp) _ h2) hp) hn
      subst hc
      exact AF.wp (fun c' h=>by rw[ho]at h;cases h) (Nu ho hag hs hcond.2.1 hcond.2.2 rfl (hx x (by simp) _ h1) (hx y (by simp) _ h2) hp) hn
     cases hc
    cases hc
   cases hc
  cases hc
 case unOp op t x=>
  obtain⟨ox,h1,rfl⟩:=Option.map_eq_some_iff.1 hc
  exact AF.wp (fun c' h=>by rw[ho]at h;cases h) (Wx ho (hx x (by simp) ox h1) hp) hn
 case convert s d x=>
  split at hc
  ·rename_i k0 k hs hd
   obtain⟨ox,h1,rfl⟩:=Option.map_eq_some_iff.1 hc
   exact AF.wp (fun c' h=>by rw[ho]at h;cases h) (Qs ho hs hd (hx x (by simp) ox h1) hp) hn
  ·rename_i e hs hd
   split at hc
   ·rename_i he
    obtain⟨ox,h1,rfl⟩:=Option.map_eq_some_iff.1 hc
    exact AF.wp (fun c' h=>by rw[ho]at h;cases h) (Sk ho hs he hd (hx x (by simp) ox h1) hp) hn
   cases hc
  cases hc
 case makeFunc fn first caps=>
  split at hc
  ·rename_i hf
   obtain⟨l,h1,rfl⟩:=Option.map_eq_some_iff.1 hc
   exact AF.wp (fun c' h=>by rw[ho]at h;cases h) (Su ho hf h1 (fun x h=>hx x (by simp;exact .inr (by simpa using h)))) hn
  cases hc
 case slice t x lo hi mx=>
  cases mx with
  |some m=>
   cases lo with
   |some _=>cases hi<;>simp[CG]at hc
   |none=>
    cases hi with
    |none=>simp[CG]at hc
    |some h=>
     simp only[CG]at hc
     split at hc
     ·rename_i e ox oh om h1 h2 h3 h4
      obtain⟨k,hk,rfl⟩:=Option.map_eq_some_iff.1 hc
      exact AF.wp (fun c' h=>by rw[ho]at h;cases h) (Rq ho h1 hk (hx x (by simp) _ h2) (hx h (by simp) _ h3) (hx m (by simp) _ h4) hp) hn
     cases hc
  |none=>
   simp only[CG]at hc
   split at hc
   ·rename_i e ox ol oh h1 h2 h3 h4
    obtain⟨k,hk,rfl⟩:=Option.map_eq_some_iff.1 hc
    exact AF.wp (fun c' h=>by rw[ho]at h;cases h) (VS hm hbx ho h1 hk h3 h4 (hx x (by simp) _ h2) (fun y hy=>hx y (by simp[hy])) (fun y hy=>hx y (by simp[hy])) hp) hn
   cases hc
 case fieldAddr t x f=>
  split at hc
  ·rename_i fs ox h1 h2
   split at hc
   ·rename_i fl hf
    split at hc<;>simp at hc
    rename_i n hn'
    subst hc
    exact AF.wp (fun c' h=>by rw[ho]at h;cases h) (TD ho h1 hf hn' (hx x (by simp) _ h2) hp) hn
   cases hc
  cases hc
 case indexAddr t x i=>
  split at hc
  ·rename_i e ox oi h1 h2 h3
   obtain⟨k,hk,rfl⟩:=Option.map_eq_some_iff.1 hc
   exact AF.wp (fun c' h=>by rw[ho]at h;cases h) (SJ hm hbx ho h1 hk (hx x (by simp) _ h2) (hx i (by simp) _ h3) hp) hn
  ·rename_i n e ox oi h1 h2 h3
   obtain⟨k,hk,rfl⟩:=Option.map_eq_some_iff.1 hc
   exact AF.wp (fun c' h=>by rw[ho]at h;cases h) (QX ho h1 hk (hx x (by simp) _ h2) (hx i (by simp) _ h3) hp) hn
  cases hc
 case extract x i=>
  obtain⟨ox,h1,rfl⟩:=Option.map_eq_some_iff.1 hc
  exact AF.wp (fun c' h=>by rw[ho]at h;cases h) (RY ho (hx x (by simp) ox h1) hp) hn
 case nilCheck x=>
  obtain⟨ox,h1,rfl⟩:=Option.map_eq_some_iff.1 hc
  exact AF.wp (fun c' h=>by rw[ho]at h;cases h) (Rg ho (hx x (by simp) ox h1) hp) hn
 case makeMap t x=>
  cases x with
  |some _=>simp[CG]at hc
  |none=>
   simp only[CG]at hc
   split at hc
   ·split at hc<;>simp at hc
    subst hc
    exact AF.wp (fun c' h=>by rw[ho]at h;cases h) (R9 (t:=t) (k:=t) (e:=t) hB ho) hn
   cases hc
 case lookup t m x ok=>
  split at hc
  ·rename_i k e hu
   split at hc<;>simp at hc
   rename_i kd z om ox h1 h2 h3 h4
   subst hc
   exact AF.wp (fun c' h=>by rw[ho]at h;cases h) (Rf hm hbx ho hu h1 h2 (hx m (by simp) _ h3) (hx x (by simp) _ h4) hp) hn
  cases hc
 case insert t m x v=>
  split at hc
  ·split at hc<;>simp at hc
   subst hc
   exact hp.elim
  cases hc
 case mapUpdate t m x v=>
  split at hc
  ·split at hc<;>simp at hc
   subst hc
   exact hp.elim
  cases hc
 case makeSlice t x y=>
  split at hc
  ·rename_i e h1
   split at hc<;>simp at hc
   rename_i k z i ox oy h2 h3 h4 h5
   subst hc
   exact AF.wp (fun c' h=>by rw[ho]at h;cases h) (SM hm hB ho h1 h2 h3 rfl (hx x (by simp) _ h4) (hx y (by simp) _ h5) hp) hn
  cases hc
 case call c=>
  have hxa:∀x∈c.args.toList,I5 E A0 w0 β B w fr a x:=fun x h=>hx x (by simp[Call.operands];exact .inr (by simpa using h))
  split at hc
  ·rename_i f hcal
   split at hc
   ·rename_i of args h1 h2
    split at hc
    ·simp at hc;subst hc;exact hp.elim
    simp at hc
    subst hc
    have hnew:(AG E fr bx nx (.call of args)).new=none:=by
     refine(Eb (ro:=none) (a:=a) (o:=o) (Q:=Q) (next:=fun _ _=>True) hm hbx hG hS ho hcal h1 h2 (hx f (by simp[Call.operands,hcal]) _ h1) hxa hp (fun _ _ _ _ _=>trivial)).2
    exact(Eb hm hbx hG hS ho hcal h1 h2 (hx f (by simp[Call.operands,hcal]) _ h1) hxa hp (fun x w1 hs hr _=>hn x w1 β (by rw[hnew];exact hs) (by rw[hnew];exact hr))).1
   cases hc
  ·rename_i hcal
   split at hc
   ·rename_i x t h1 h2
    split at hc
    ·rename_i e hu
     obtain⟨ox,h3,rfl⟩:=Option.map_eq_some_iff.1 hc
     exact AF.wp (fun c' h=>by rw[ho]at h;cases h) (RZ hm hbx ho hcal h1 h2 hu (hxa x (by rw[h1];simp) _ h3) hp) hn
    ·split at hc
     ·obtain⟨ox,h3,rfl⟩:=Option.map_eq_some_iff.1 hc
      exact hp.elim
     cases hc
    cases hc
   cases hc
  ·rename_i hcal
   split at hc
   ·rename_i x y h1
    split at hc<;>simp at hc
    rename_i ox oy h2 h3
    subst hc
    exact AF.wp (fun c' h=>by rw[ho]at h;cases h) (Qj (mx:=true) ho (by simpa using hcal) h1 (hxa x (by rw[h1];simp) _ h2) (hxa y (by rw[h1];simp) _ h3) hp) hn
   ·rename_i x y z h1
    split at hc<;>simp at hc
    rename_i ox oy oz h2 h3 h4
    subst hc
    exact AF.wp (fun c' h=>by rw[ho]at h;cases h) (NK (mx:=true) ho (by simpa using hcal) h1 (hxa x (by rw[h1];simp) _ h2) (hxa y (by rw[h1];simp) _ h3) (hxa z (by rw[h1];simp) _ h4) hp) hn
   cases hc
  ·rename_i hcal
   split at hc
   ·rename_i x y h1
    split at hc<;>simp at hc
    rename_i ox oy h2 h3
    subst hc
    exact AF.wp (fun c' h=>by rw[ho]at h;cases h) (Qj (mx:=false) ho (by simpa using hcal) h1 (hxa x (by rw[h1];simp) _ h2) (hxa y (by rw[h1];simp) _ h3) hp) hn
   ·rename_i x y z h1
    split at hc<;>simp at hc
    rename_i ox oy oz h2 h3 h4
    subst hc
    exact AF.wp (fun c' h=>by rw[ho]at h;cases h) (NK (mx:=false) ho (by simpa using hcal) h1 (hxa x (by rw[h1];simp) _ h2) (hxa y (by rw[h1];simp) _ h3) (hxa z (by rw[h1];simp) _ h4) hp) hn
   cases hc
  ·split at hc
   ·split at hc
    ·split at hc<;>simp at hc
     subst hc
     exact hp.elim
    cases hc
   cases hc
  ·split at hc
   ·split at hc
    ·split at hc
     ·split at hc<;>simp at hc
      subst hc
      exact hp.elim
     cases hc
    cases hc
   cases hc
  ·split at hc
   ·split at hc
    ·split at hc
     ·split at hc<;>simp at hc
      subst hc
      exact hp.elim
     cases hc
    cases hc
   cases hc
  cases hc
 case makeInterface t x=>
  split at hc
  ·rename_i k h1
   obtain⟨ox,h2,rfl⟩:=Option.map_eq_some_iff.1 hc
   exact AF.wp (fun c' h=>by rw[ho]at h;cases h) (TL ho h1 (hx x (by simp) _ h2) hp) hn
  cases hc
 case defer c=>
  split at hc
  ·obtain⟨ox,h1,rfl⟩:=Option.map_eq_some_iff.1 hc
   exact hp.elim
  cases hc
 case panic x=>
  obtain⟨_,_,rfl⟩:=Option.map_eq_some_iff.1 hc
  exact hp.elim
 case field t x f=>
  split at hc
  ·rename_i fs ox h1 h2
   split at hc
   ·rename_i fd h3
    split at hc
    ·rename_i ag n h4 h5
     split at hc
     ·rename_i h6
      cases hc
      exact AF.wp (fun c' h=>by rw[ho]at h;cases h) (WT ho h1 h3 h4 h5 h6 (hx x (by simp) _ h2) hp) hn
     cases hc
    cases hc
   cases hc
  cases hc
 case range t x=>
  split at hc
  ·split at hc<;>simp at hc
   subst hc
   exact hp.elim
  cases hc
 case next x s=>
  cases s<;>simp at hc
  obtain⟨_,_,rfl⟩:=hc
  exact hp.elim
 case entry x=>
  obtain⟨_,_,rfl⟩:=Option.map_eq_some_iff.1 hc
  exact hp.elim
end Go.Proofs.YtlieoghhkioflaaGreat
