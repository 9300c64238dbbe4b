/- The engine: FSoft, FSoft2, FSoft3, FSoft4, FSoft5, FSoft6, FSoft7, FSoft8. No condition. -/
import Derived.Test.YtlieoghhkioflaaGreatE1
import Derived.RecoverIn
import Derived.OrdersIn
import Derived.CallsIn
import Derived.RangeFuncNested
import Derived.RangeFuncLeaves
import Derived.RangeFuncRecord
import Derived.ChangeKeysEq
set_option linter.unusedSimpArgs false
set_option linter.unusedVariables false
namespace Go.Proofs.YtlieoghhkioflaaGreat
open Go Go.RowKit
variable{r:AR}{n:Nat}{ox:Bf}{x:Operand}{t:TypeId}
abbrev FW(ro:Option Nat):Fence:={Fence.wide with round:=ro}
theorem RW(l:List Int):(List.range l.length).map (fun i=>l.getD i 0)=l:=by
 apply List.ext_getElem
 ·simp
 intro i h1 h2
 simp at h1
 simp[List.getD,h1]
theorem Hx{v:Value}{u:Ad}(h:YK v=some u)(w:World)(A:Nat->Prop):Ao w A u v:=by
 unfold YK at h
 split at h<;>first|(cases h;done)|(rename_i s;cases h;refine⟨s,rfl,?_⟩;have:=RW (s.data.toList.map fun b=>(b.toNat:Int));rw[List.length_map,Array.length_toList]at this;exact this.symm)|(simp at h;subst h;rfl)
theorem I8{f:Value->Option Ad}{w:World}{A:Nat->Prop}(hf:∀v u,f v=some u->Ao w A u v):∀(l:List Value) (u:Ad),Vd f l=some u->Ao w A u (.tuple ⟨l⟩):=by
 intro l
 induction l with
 |nil=>intro u h;simp[Vd]at h;subst h;rfl
 |cons v l ih=>
  intro u h
  simp only[Vd]at h
  split at h
  ·rename_i a t h1 h2
   simp at h;subst h
   exact⟨v,l,rfl,hf _ _ h1,ih _ h2⟩
  cases h
theorem J2{f:Value->Option Ad}:∀(l:List Value) (u:Ad),Vd f l=some u->BA u=true/\Bb u=l.length:=by
 intro l
 induction l with
 |nil=>intro u h;simp[Vd]at h;subst h;simp[BA,Bb]
 |cons v l ih=>
  intro u h
  simp only[Vd]at h
  split at h
  ·rename_i a t h1 h2
   simp at h;subst h
   obtain⟨e1,e2⟩:=ih _ h2
   exact⟨e1,by simp[Bb,e2]⟩
  cases h
theorem Pr{v:Value}{u:Ad}(h:cv v=some u)(w:World)(A:Nat->Prop):Ao w A u v:=by
 unfold cv at h
 split at h
 ·rename_i cs
  simp at h
  obtain⟨l,hl,rfl⟩:=h
  exact⟨cs.toList,rfl,I8 (fun v u h=>Hx h w A) _ _ hl⟩
 exact Hx h w A
def Yw(w w':World)(own:Option TypeId)(v:Ad)(x:Value):Prop:=∀e,own=some e->∃k n c,v= .view k n c/\0<k/\n<=maxLen/\∃xs,w'.ownsRow w.heap.size e k x n xs/\∀i,i<n->∀j,j<k->∃y,xs[i*k+j]?=some y/\y.oneCell'=true/\Ao w' (fun _=>False) (c i j) y
def Jo(E:Db):Ad->Option As
 | .func (.func id) _=>E.S id
 |_=>none
structure Ah(P:Program)(G:Nat->Option (Nat×(Nat->Ad)))(id:FuncId)(s:As):Prop where
 ent:∀args w,(callFunc id args).run P w= .ok (.enter id args) w
 run:∀(A:Nat->Prop) (w:World) (vs:List Ad) (cs:List Value),(∀n m c,G n=some (m,c)->Ao w A (.vptr m c) (.pointer (some ⟨n,0,none⟩)))->
  Ao w A (vl vs) (.tuple ⟨cs⟩)->s.pre vs->Calls P id ⟨cs⟩ w fun e w'=>∃x,e= .returned x/\Ao w' (fun g=>A g\/w.heap.size<=g) (s.res vs) x/\Below w.heap.size w w'/\Yw w w' s.own (s.res vs) x
def Pq(w:World)(A:Nat->Prop)(L:CK)(e:TypeId)(k n:Nat)(c:Nat->Nat->Ad):Prop:=
 L.n=n/\0<k/\n<=maxLen/\∃xs,w.ownsRow 0 e k (.slice (L.a.map fun g=>⟨g,0,none⟩) n L.cap) n xs/\∀i,i<n->∀j,j<k->∃y,xs[i*k+j]?=some y/\y.oneCell'=true/\Ao w A (c i j) y
structure D7(P:Program)(id:FuncId)(T:TypeId)(k:IntKind):Prop where
 ent:∀args w,(callFunc id args).run P w= .ok (.enter id args) w
 idle:∀g w,CallsDIn (FW none) 0 P id #[.pointer (some ⟨g,0,none⟩)] .returning w fun e u' w'=>e= .returned (.tuple #[])/\u'= .returning/\w'=w
 pan:∀g z y t w,w.heap[g]?=some (.cells ⟨[.int k y]⟩ t (0,0))->CallsDIn (FW none) 0 P id #[.pointer (some ⟨g,0,none⟩)] (.panicking [{v:= .iface T (.int k z),recovered:=false}]) w fun e u' w'=>
  e= .returned (.tuple #[])/\u'= .panicking [{v:= .iface T (.int k z),recovered:=true}]/\w'=w.setRow g ⟨[.int k z]⟩
structure Cy(P:Program)(G:Nat->Option (Nat×(Nat->Ad)))(id:FuncId)(pz:Nat)(s:As):Prop where
 ent:∀args w,(callFunc id args).run P w= .ok (.enter id args) w
 run:∀(A:Nat->Prop) (w:World) (vs us:List Ad) (cs ds:List Value) (L:CK) (e0:TypeId) (k n:Nat) (c:Nat->Nat->Ad),vs.length=pz->cs.length=pz->(∀g,A g->L.a≠some g)->(∀n m c,G n=some (m,c)->Ao w A (.vptr m c) (.pointer (some ⟨n,0,none⟩)))->
  Ao w A (vl vs) (.tuple ⟨cs⟩)->Ao w A (vl us) (.tuple ⟨ds⟩)->Pq w A L e0 k n c->(∀e,s.own=some e->e0=e)->s.pre (vs++ .view k n c::us)->Calls P id ⟨cs++ .slice (L.a.map fun g=>⟨g,0,none⟩) n L.cap::ds⟩ w fun ex w'=>match s.own with
   |some e=>∃L' k' m c',ex= .returned (.slice (L'.a.map fun g=>⟨g,0,none⟩) m L'.cap)/\s.res (vs++ .view k n c::us)= .view k' m c'/\(⟨w,fun g=>L.a=some g⟩:AW).Under w'/\(∀g,L'.a=some g->(L.a=some g\/w.heap.size<=g)/\g<w'.heap.size)/\Pq w' (fun _=>False) L' e k' m c'
   |none=>∃c',ex= .returned (.tuple #[])/\s.res (vs++ .view k n c::us)= .view k n c'/\(⟨w,fun g=>L.a=some g⟩:AW).Under w'/\(∀g,L.a=some g->g<w'.heap.size)/\Pq w' (fun g=>A g\/w.heap.size<=g) L e0 k n c'
variable{P:Program}{E:Db}{A0:Nat->Prop}{w0:AW}{β:Bn->CK}{B:Br}{nx:Nat}{w:World}{a:Act}{o:Oper}{fr:Fr}{bx:Bx}
def AE(P:Program)(A0:Nat->Prop)(w0:AW)(β:Bn->CK)(B:Br)(nx:Nat)(w:World)(a:Act)(o:Oper)(r:AR):Prop:=
 ∃x w1 β1,(execOp a.eval o).run P w= .ok (.value x) w1/\CD P A0 w0 β β1 B nx r.new w w1/\Ar A0 w0 β1 (Dc B nx r.new) w1 r.v x
def CW(P:Program)(A0:Nat->Prop)(w0:AW)(β:Bn->CK)(B:Br)(w:World)(a:Act)(o:Oper)(r:AR):Prop:=
 r.new=none/\∃x,(execOp a.eval o).run P w= .ok (.value x) w/\Ar A0 w0 β B w r.v x
theorem CW.mk'{x:Value}(hn:r.new=none)(hr:(execOp a.eval o).run P w= .ok (.value x) w)(hv:Ar A0 w0 β B w r.v x):CW P A0 w0 β B w a o r:=⟨hn,x,hr,hv⟩
theorem AE.plain{x:Value}(hn:r.new=none)(hr:(execOp a.eval o).run P w= .ok (.value x) w)(hv:Ar A0 w0 β B w r.v x):AE P A0 w0 β B nx w a o r:=by
 refine⟨x,w,β,hr,?_,?_⟩
 ·rw[hn];exact CD.refl ..
 rw[hn];exact hv
theorem CW.does(h:CW P A0 w0 β B w a o r):AE P A0 w0 β B nx w a o r:=by
 obtain⟨h1,x,h2,h3⟩:=h
 exact AE.plain h1 h2 h3
abbrev I0(E:Db)(A0:Nat->Prop)(w0:AW)(β:Bn->CK)(B:Br)(w:World)(fr:Fr)(a:Act)(x:Operand):Prop:=∀ox,AG x=some ox->Ar A0 w0 β B w (ev E fr ox) (a.eval x)
theorem Sj{v:Ad}{x:Value}{b:Bool}(h:Ar A0 w0 β B w v x)(e:v= .bool b):x= .bool b:=by subst e;exact h
theorem PF(ho:o.op= .move x\/o.op= .assign x)(hx:Ar A0 w0 β B w (ev E fr ox) (a.eval x)):AE P A0 w0 β B nx w a o (AF E fr bx nx (.mv ox)):=by
 refine AE.plain rfl (x:=a.eval x) ?_ hx
 rcases ho with ho|ho<;>simp[execOp,ho]
theorem QR{c y:Operand}{oc oy:Bf}(ho:o.op= .pick c x y)(hc:Ar A0 w0 β B w (ev E fr oc) (a.eval c))(hx:Ar A0 w0 β B w (ev E fr ox) (a.eval x))(hy:Ar A0 w0 β B w (ev E fr oy) (a.eval y))
  (hp:(AF E fr bx nx (.pick oc ox oy)).pre):AE P A0 w0 β B nx w a o (AF E fr bx nx (.pick oc ox oy)):=by
 cases ht:ev E fr oc<;>simp only[AF,ht]at hp⊢ <;>first|exact hp.elim|skip
 rename_i t
 have:=Sj hc ht
 refine AE.plain rfl (x:=if t then a.eval x else a.eval y) ?_ ?_
 ·simp[execOp,ho,this,asBool]
 cases t<;>simp[EG,hx,hy]
theorem DL{z:Ad}(h:DX P t=some (n,z)):∃i v,P.info? t=some i/\i.zero=some v/\i.size=n/\v.cells.size=n/\Vd YK v.cells.toList=some z:=by
 unfold DX at h
 split at h
 ·rename_i i hi
  split at h
  ·rename_i v hv
   split at h
   ·rename_i hsz
    obtain⟨l,hl,he⟩:=Option.map_eq_some_iff.1 h
    cases he
    exact⟨i,v,hi,hv,rfl,hsz,hl⟩
   cases h
  cases h
 cases h
theorem Pe{p:Nat×Ad}{N:Nat}(hm:Fp P A0 w0 β B N w)(hB:B nx=none)(ho:o.op= .alloc t)(hz:DX P t=some p):AE P A0 w0 β B nx w a o (AF E fr bx nx (.alloc p.2)):=by
 obtain⟨n,z⟩:=p
 obtain⟨i,v,hi,hv,hn,hs,hc⟩:=DL hz
 refine⟨.pointer (some ⟨w.heap.size,0,none⟩),w.alloc (.cells ⟨v.cells.toList⟩ t),_,?_,CD.newCells hm hB (J2 _ _ hc).1 (Ao.rep _ _ (I8 (fun v u h=>Hx h w _) _ _ hc)) t,?_⟩
 ·simp[execOp,ho,Instr.alloc,zeroValue,typeInfo,hi,hv,newVar,newRow]
 exact⟨⟨.cells z,by simp[Dc,AF],rfl⟩,w.heap.size,by rw[Aq],rfl⟩
theorem Dp{v:Ad}{x:Value}(h:Bg n v)(hr:Ar A0 w0 β B w v x):BA (cellsOf v)=true/\Bb (cellsOf v)=n/\Ar A0 w0 β B w (cellsOf v) (.tuple ⟨x.cells.toList⟩)/\x.cells.size=n:=by
 cases v with
 |agg l=>
  obtain⟨ys,rfl,h2⟩:=hr
  obtain⟨h0,h1⟩:=h
  refine⟨h0,h1,h2,?_⟩
  have:=A7.len h2 (CE h0)
  simpa[Value.cells,h1]using this
 |und=>exact h.elim
 |tup l=>exact h.elim
 |cons a b=>exact h.elim
 |nil=>exact h.elim
 |int k m=>simp only[Bg]at h;subst h;have e:x=_:=hr;subst e;exact⟨rfl,rfl,⟨_,[],rfl,rfl,rfl⟩,rfl⟩
 |bool b=>simp only[Bg]at h;subst h;have e:x=_:=hr;subst e;exact⟨rfl,rfl,⟨_,[],rfl,rfl,rfl⟩,rfl⟩
 |strv n f=>simp only[Bg]at h;subst h;obtain⟨s,rfl,hs⟩:=hr;exact⟨rfl,rfl,⟨_,[],rfl,⟨s,rfl,hs⟩,rfl⟩,rfl⟩
 |nils=>simp only[Bg]at h;subst h;have e:x=_:=hr;subst e;exact⟨rfl,rfl,⟨_,[],rfl,rfl,rfl⟩,rfl⟩
 |nilp=>simp only[Bg]at h;subst h;have e:x=_:=hr;subst e;exact⟨rfl,rfl,⟨_,[],rfl,rfl,rfl⟩,rfl⟩
 |nilf=>simp only[Bg]at h;subst h;have e:x=_:=hr;subst e;exact⟨rfl,rfl,⟨_,[],rfl,rfl,rfl⟩,rfl⟩
 |nilm=>simp only[Bg]at h;subst h;have e:x=_:=hr;subst e;exact⟨rfl,rfl,⟨_,[],rfl,rfl,rfl⟩,rfl⟩
 |view k m c=>simp only[Bg]at h;subst h;obtain⟨p,q,e,hr'⟩:=hr;subst e;exact⟨rfl,rfl,⟨_,[],rfl,⟨p,q,rfl,hr'⟩,rfl⟩,rfl⟩
 |vptr m c=>simp only[Bg]at h;subst h;obtain⟨p,q,e,hr'⟩:=hr;subst e;exact⟨rfl,rfl,⟨_,[],rfl,⟨p,q,rfl,hr'⟩,rfl⟩,rfl⟩
 |ptr b off=>simp only[Bg]at h;subst h;obtain⟨p,q,hq,e⟩:=hr;subst e;exact⟨rfl,rfl,⟨_,[],rfl,⟨p,q,hq,rfl⟩,rfl⟩,rfl⟩
 |own b=>simp only[Bg]at h;subst h;obtain⟨p,e⟩:=hr;subst e;exact⟨rfl,rfl,⟨_,[],rfl,⟨p,rfl⟩,rfl⟩,rfl⟩
 |rptr b i off=>simp only[Bg]at h;subst h;obtain⟨e0,k,m,h1,h2,q,hq,e⟩:=hr;subst e;exact⟨rfl,rfl,⟨_,[],rfl,⟨e0,k,m,h1,h2,q,hq,rfl⟩,rfl⟩,rfl⟩
 |yld b=>simp only[Bg]at h;subst h;obtain⟨g,fr,ps,ca,cb,st,q,e⟩:=hr;subst e;exact⟨rfl,rfl,⟨_,[],rfl,⟨g,fr,ps,ca,cb,st,q,rfl⟩,rfl⟩,rfl⟩
 |mapb b=>simp only[Bg]at h;subst h;obtain⟨p,q,hq,e⟩:=hr;subst e;exact⟨rfl,rfl,⟨_,[],rfl,⟨p,q,hq,rfl⟩,rfl⟩,rfl⟩
 |ifc T k m=>simp only[Bg]at h;subst h;have e:x=_:=hr;subst e;exact⟨rfl,rfl,⟨_,[],rfl,rfl,rfl⟩,rfl⟩
 |tv k m c=>simp only[Bg]at h;subst h;obtain⟨p,e,hr'⟩:=hr;subst e;exact⟨rfl,rfl,⟨_,[],rfl,⟨p,rfl,hr'⟩,rfl⟩,rfl⟩
 |osl b off m=>simp only[Bg]at h;subst h;obtain⟨e0,k,m',h1,h2,ad,cap,e,h3⟩:=hr;subst e;exact⟨rfl,rfl,⟨_,[],rfl,⟨e0,k,m',h1,h2,ad,cap,rfl,h3⟩,rfl⟩,rfl⟩
 |mview kd has f=>simp only[Bg]at h;subst h;obtain⟨g,m,e,hr'⟩:=hr;subst e;exact⟨rfl,rfl,⟨_,[],rfl,⟨g,m,rfl,hr'⟩,rfl⟩,rfl⟩
 |func fn l=>simp only[Bg]at h;subst h;obtain⟨ys,e,h2⟩:=hr;subst e;exact⟨rfl,rfl,⟨_,[],rfl,⟨ys,rfl,h2⟩,rfl⟩,rfl⟩
theorem Uc{k e:TypeId}{kd:IntKind}(hB:B nx=none)(ho:o.op= .makeMap t none):AE P A0 w0 β B nx w a o (AF E fr bx nx (.mkm kd)):=by
 refine⟨.map (some w.heap.size),w.alloc (.map #[] 0),_,?_,CD.newMap hB kd,?_⟩
 ·simp[execOp,ho,Instr.makeMap]
 exact⟨⟨kd,.mp kd (fun _=>false) fun _=> .und,by simp[Dc,AF],rfl⟩,w.heap.size,by rw[Aq],rfl⟩
theorem U6{N:Nat}(hm:Fp P A0 w0 β B N w)(hB:B nx=none)(ho:o.op= .box t x)(hx:Ar A0 w0 β B w (ev E fr ox) (a.eval x))
  (hp:(AF E fr bx nx (.box n ox)).pre):AE P A0 w0 β B nx w a o (AF E fr bx nx (.box n ox)):=by
 obtain⟨h1,h2,h3,h4⟩:=Dp (n:=n) hp hx
 refine⟨.pointer (some ⟨w.heap.size,0,none⟩),w.alloc (.cells ⟨(a.eval x).cells.toList⟩ t),_,?_,CD.newCells hm hB h1 h3 t,?_⟩
 ·simp[execOp,ho,Instr.box,newVar,newRow]
 exact⟨⟨.cells (cellsOf (ev E fr ox)),by simp[Dc,AF],rfl⟩,w.heap.size,by rw[Aq],rfl⟩
end Go.Proofs.YtlieoghhkioflaaGreat
/- The engine,part 7: loads,places,numbers. No condition. -/
namespace Go.Proofs.YtlieoghhkioflaaGreat
open Go Go.RowKit
variable{ag:Bool}{s:List Sh}{g:Nat}{t:TypeId}
variable{P:Program}{E:Db}{A0:Nat->Prop}{w0:AW}{β:Bn->CK}{B:Br}{nx:Nat}{w:World}{a:Act}{o:Oper}{fr:Fr}{bx:Bx}
theorem Ht(h:UB P t=some (ag,s)):B8 P t=some ag/\∃i,P.info? t=some i/\i.size=s.length/\(ag=false->s.length=1):=by
 unfold UB at h
 split at h
 ·rename_i a' s' i h1 h2 h3
  split at h
  ·rename_i hc
   simp at h
   obtain⟨rfl,rfl⟩:=h
   exact⟨h1,i,h3,hc.1,hc.2⟩
  cases h
 cases h
theorem Eg(h:B8 P t=some ag)(w:World):(isAgg t).run P w= .ok ag w:=by
 unfold B8 at h
 split at h
 ·rename_i hu;simp at h;subst h;simp[isAgg,run_underlying hu]
 ·rename_i hu;simp at h;subst h;simp[isAgg,run_underlying hu]
 ·rename_i d hn1 hn2 hu
  simp at h;subst h
  simp only[isAgg,Sem.run_bind,run_underlying hu,Result.andThen_ok]
  rfl
 cases h
theorem add_lit(g off j:Nat):(⟨g,off,none⟩:Addr).add j=⟨g,off+j,none⟩:=by unfold Addr.add;split<;>simp_all
theorem Ds(h:UB P t=some (ag,s)){off:Nat}{zs:List Value}(hl:zs.length=s.length)(hz:∀j,j<zs.length->w.cell? ⟨g,off+j,none⟩=zs[j]?):
  (loadVar t ⟨g,off,none⟩).run P w= .ok (if ag then .agg ⟨zs⟩else zs.getD 0 undef) w:=by
 obtain⟨h1,i,h2,h3,h4⟩:=Ht h
 have hlc:=run_loadCells_list (P:=P) w ⟨g,off,none⟩ zs (fun j v hv=>by
  rw[add_lit,hz j (by rcases Nat.lt_or_ge j zs.length with h|h;exact h;simp[List.getElem?_eq_none h]at hv)];exact hv)
 cases ag with
 |true=>
  simp[loadVar,Eg h1,sizeOf,typeInfo,h2,h3,<-hl,hlc]
 |false=>
  have h5:=h4 rfl
  have h0:=hz 0 (by omega)
  simp only[Nat.add_zero]at h0
  cases zs with
  |nil=>simp at hl;omega
  |cons y ys=>simp[loadVar,Eg h1,h0]
theorem K6{A:Nat->Prop}:∀(s:List Sh) (f:Nat->Ad) (j:Nat) (zs:List Value),zs.length=s.length->HD s f j->(∀i,i<zs.length->Ao w A (f (j+i)) (zs.getD i undef))->Ao w A (Jh s f j) (.tuple ⟨zs⟩):=by
 intro s
 induction s with
 |nil=>intro f j zs hl _ _;have:zs=[]:=List.eq_nil_of_length_eq_zero hl;subst this;rfl
 |cons c s ih=>
  intro f j zs hl hok hr
  cases zs with
  |nil=>simp at hl
  |cons z zs=>
   refine⟨z,zs,rfl,?_,ih f (j+1) zs (by simpa using hl) hok.2 fun i hi=> ?_⟩
   ·have h0:=hr 0 (by simp)
    simp only[Nat.add_zero,List.getD_cons_zero]at h0
    have hc:=hok.1
    cases c with
    |int k=>simp only[EE]at hc;simp only[Nt];rw[hc]at h0;exact h0
    |bool=>simp only[EE]at hc;simp only[Nt];rw[hc]at h0;exact h0
    |slc k=>
     simp only[EE]at hc
     simp only[Nt]
     rcases hc with hc|hc
     ·rw[hc]at h0⊢
      have:z= .slice none 0 0:=h0
      subst this
      exact⟨none,0,rfl,by decide,Nat.le_refl _,fun h=>absurd h (by simp[Ad.slen])⟩
     rw[hc]at h0;exact h0
    |any=>exact h0
   have:=hr (i+1) (by simpa using hi)
   rw[show j+1+i=j+(i+1)from by omega]
   simpa using this
theorem Lg:∀(s:List Sh) (f:Nat->Ad) (j:Nat),Bb (Jh s f j)=s.length:=by
 intro s;induction s with
 |nil=>intro f j;rfl
 |cons c s ih=>intro f j;simp[Jh,Bb,ih]
theorem Gx{l:Ad}{zs:List Value}(h:Ar A0 w0 β B w l (.tuple ⟨zs⟩))(h1:ag=false->0<Bb l):Ar A0 w0 β B w (WZ ag l) (if ag then .agg ⟨zs⟩else zs.getD 0 undef):=by
 cases ag with
 |true=>exact⟨zs,rfl,h⟩
 |false=>
  obtain⟨y,hy,hr⟩:=A7.get1 h 0 (h1 rfl)
  simp only[Bool.false_eq_true,if_false,WZ]
  rw[List.getD_eq_getElem?_getD,hy]
  exact hr
theorem Id{l:Ad}{ys:List Value}(h:Ar A0 w0 β B w l (.tuple ⟨ys⟩))(off n:Nat)(hn:off+n<=Bb l):∃zs:List Value,zs.length=n/\(∀j,j<n->zs[j]?=ys[off+j]?)/\(∀j,j<n->(ys[off+j]?).isSome)/\Ar A0 w0 β B w (FZ l off n) (.tuple ⟨zs⟩):=by
 have hall:∀j,j<n->∃y,ys[off+j]?=some y/\Ar A0 w0 β B w (Az l (off+j)) y:=fun j hj=>A7.get1 h (off+j) (by omega)
 refine⟨(List.range n).map fun j=>ys.getD (off+j) undef,by simp,fun j hj=> ?_,fun j hj=> ?_,?_⟩
 ·obtain⟨y,hy,_⟩:=hall j hj
  simp[hj,hy]
 ·obtain⟨y,hy,_⟩:=hall j hj
  simp[hy]
 refine A7.tab _ n 0 _ (by simp) fun i hi=> ?_
 obtain⟨y,hy,hr⟩:=hall i hi
 simp only[Nat.zero_add]
 simp[hi,hy]
 exact hr
theorem Jl{A:Nat->Prop}{m:Nat}{c:Nat->Ad}{off:Nat}(h:∀j,j<m->∃y,w.cell? ⟨g,off+j,none⟩=some y/\Ao w A (c j) y)(n:Nat)(hn:n<=m):
  ∃zs:List Value,zs.length=n/\(∀j,j<zs.length->w.cell? ⟨g,off+j,none⟩=zs[j]?)/\∀i,i<zs.length->Ao w A (c (0+i)) (zs.getD i undef):=by
 refine⟨(List.range n).map fun j=>(w.cell? ⟨g,off+j,none⟩).getD undef,by simp,fun j hj=> ?_,fun i hi=> ?_⟩
 ·simp at hj
  obtain⟨y,hy,_⟩:=h j (by omega)
  simp[hj,hy]
 simp at hi
 obtain⟨y,hy,hr⟩:=h i (by omega)
 simp[hi,hy]
 exact hr
theorem DD{ys:List Value}{fz:Nat×Nat}(h:w.heap[g]?=some (.cells ⟨ys⟩ t fz))(j:Nat):w.cell? ⟨g,j,none⟩=ys[j]?:=by simp[World.cell?,h]
theorem N9{N:Nat}(hm:Fp P A0 w0 β B N w)(hbx:∀b c,B b=some c->Ab bx b=some c){x:Operand}{ox:Bf}(ho:o.op= .load t x)(hs:UB P t=some (ag,s))(hx:Ar A0 w0 β B w (ev E fr ox) (a.eval x))
  (hp:(AF E fr bx nx (.load ag s ox)).pre):CW P A0 w0 β B w a o (AF E fr bx nx (.load ag s ox)):=by
 obtain⟨_,_,_,_,h1⟩:=Ht hs
 cases hv:ev E fr ox<;>simp only[AF,hv]at hp hx⊢ <;>first|exact hp.elim|skip
 ·-- vptr
  rename_i m c
  obtain⟨g,off,he,hg,hA,hc⟩:=hx
  obtain⟨zs,hz1,hz2,hz3⟩:=Jl hc s.length hp.1
  refine CW.mk' rfl (x:=if ag then .agg ⟨zs⟩else zs.getD 0 undef) ?_ ?_
  ·simp[execOp,ho,he,Instr.loadAt,Instr.sureAddr,Ds hs hz1 hz2]
  exact Gx (Ao.rep _ _ (K6 s c 0 zs hz1 hp.2 hz3)) fun h=>by rw[Lg];have:=h1 h;omega
 ·-- ptr
  rename_i b off
  obtain⟨⟨l0,hl0,hpb⟩,g,hg,he⟩:=hx
  obtain⟨l,hl⟩:∃l,B b=some (.cells l):=by
   cases l0 with
   |cells l=>exact⟨l,hl0⟩
   |it=>simp[hbx b _ hl0]at hp
   |wc=>simp[hbx b _ hl0]at hp
   |_=>simp[ptrB]at hpb
  simp only[hbx b _ hl]at hp⊢
  obtain⟨hlb,g',ys,t',h2,h3,h4⟩:=hm.bx b _ hl
  rw[hg]at h2;cases h2
  obtain⟨zs,hz1,hz2,hz3,hz4⟩:=Id h4 off s.length hp
  refine CW.mk' rfl (x:=if ag then .agg ⟨zs⟩else zs.getD 0 undef) ?_ ?_
  ·have:=Ds (w:=w) hs (g:=g) (off:=off) hz1 (fun j hj=>by rw[DD h3,hz2 j (by omega)])
   simp[execOp,ho,he,Instr.loadAt,Instr.sureAddr,this]
  exact Gx hz4 fun h=>by rw[FZ,HN];have:=h1 h;omega
 -- rptr
 rename_i b i off
 obtain⟨e,k,n,hl,hi,g,hg,he⟩:=hx
 have hik:i*k+k<=n*k:=by rw[<-Nat.succ_mul];exact Nat.mul_le_mul_right k hi
 have hcell:∀xs,w.ownsRow 0 e k (.slice ((β b).a.map fun g=>⟨g,0,none⟩) n (β b).cap) n xs->∀j,j<n*k->w.cell? ⟨g,j,none⟩=xs[j]?:=by
  rintro xs ⟨hxl,how⟩ j hj
  rcases how with⟨he0,hn0⟩|⟨g',cap,cur,e1,e2,e3,e4,e5,e6,e7⟩
  ·subst hn0;omega
  rw[hg]at e1
  simp at e1
  rw[<-e1.1]at e3
  rw[<-e7,List.getElem?_take_of_lt hj]
  simp[World.cell?,e3]
 rcases hl.cases with⟨c,hl⟩|⟨c,hl⟩
 ·simp only[hbx b _ hl]at hp⊢
  obtain⟨hn,hk,hmax,xs,how,hc⟩:=hm.bx b _ hl
  obtain⟨zs,hz1,hz2,hz3⟩:=Jl (w:=w) (A:=Al A0 w0 B β) (m:=s.length) (c:=fun j=>c i (off+j)) (g:=g) (off:=i*k+off) (fun j hj=>by
   obtain⟨y,hy,_,hr⟩:=hc i hi (off+j) (by omega)
   refine⟨y,?_,hr⟩
   rw[hcell xs how _ (by omega),Nat.add_assoc];exact hy) s.length (Nat.le_refl _)
  refine CW.mk' rfl (x:=if ag then .agg ⟨zs⟩else zs.getD 0 undef) ?_ ?_
  ·have:=Ds hs hz1 hz2
   simp[execOp,ho,he,Instr.loadAt,Instr.sureAddr,this]
  exact Gx (Ao.rep _ _ (K6 s _ 0 zs hz1 hp.2 hz3)) fun h=>by rw[Lg];have:=h1 h;omega
 simp only[hbx b _ hl]at hp⊢
 obtain⟨hn,hk,hmax,xs,how,hc⟩:=hm.bx b _ hl
 have hall:∀j,j<s.length->∃y,xs[i*k+(off+j)]?=some y/\Ar A0 w0 β B w (c i (off+j)) y:=fun j hj=>by
  obtain⟨y,hy,_,hr⟩:=hc i hi (off+j) (by omega)
  exact⟨y,hy,hr⟩
 have hz:∀j,j<s.length->((List.range s.length).map fun j=>xs.getD (i*k+(off+j)) undef)[j]?=xs[i*k+(off+j)]?:=fun j hj=>by
  obtain⟨y,hy,_⟩:=hall j hj
  simp[hj,hy]
 refine CW.mk' rfl (x:=if ag then .agg ⟨(List.range s.length).map fun j=>xs.getD (i*k+(off+j)) undef⟩else((List.range s.length).map fun j=>xs.getD (i*k+(off+j)) undef).getD 0 undef) ?_ ?_
 ·have:=Ds (w:=w) hs (g:=g) (off:=i*k+off) (zs:=(List.range s.length).map fun j=>xs.getD (i*k+(off+j)) undef) (by simp) (fun j hj=>by
   simp at hj
   rw[hz j hj,hcell xs how _ (by omega),Nat.add_assoc])
  simp[execOp,ho,he,Instr.loadAt,Instr.sureAddr,this]
 refine Gx (A7.tab _ s.length 0 _ (by simp) fun j hj=> ?_) fun h=>by rw[HN];have:=h1 h;omega
 obtain⟨y,hy,hr⟩:=hall j hj
 simp only[Nat.zero_add]
 rw[List.getD_eq_getElem?_getD,hz j hj,hy]
 exact hr
theorem RM{N:Nat}(hm:Fp P A0 w0 β B N w)(hbx:∀b c,B b=some c->Ab bx b=some c){x:Operand}{ox:Bf}(ho:o.op= .load t x)(hs:UB P t=some (ag,s))(hx:Ar A0 w0 β B w (ev E fr ox) (a.eval x))
  (hp:(AF E fr bx nx (.load ag s ox)).pre):AE P A0 w0 β B nx w a o (AF E fr bx nx (.load ag s ox)):=(N9 hm hbx ho hs hx hp).does
end Go.Proofs.YtlieoghhkioflaaGreat
/- The engine,part 8: numbers,places,slices,what is made. No condition. -/
namespace Go.Proofs.YtlieoghhkioflaaGreat
open Go Go.RowKit
variable{op:BinOp}{c:Call}{N i n:Nat}{ox oy:Bf}{x y:Operand}{e t u:TypeId}
variable{P:Program}{E:Db}{A0:Nat->Prop}{w0:AW}{β:Bn->CK}{B:Br}{nx:Nat}{w:World}{a:Act}{o:Oper}{fr:Fr}{bx:Bx}
theorem KA{k k':IntKind}{x y:Int}(hk:match op with| .shl=>True| .shr=>True|_=>k=k')(hp:(L8 op k x y).pre):(binOp op t (.int k x) (.int k' y)).run P w= .ok (match(L8 op k x y).v with| .int k n=> .int k n| .bool b=> .bool b|_=>undef) w:=by
 cases op<;>simp only[L8]at hp hk⊢ <;>(try subst hk)<;>first
  |exact hp.elim
  |(simp[binOp,Op.intArith];done)
  |(simp[binOp,Op.intCmp];done)
  |(simp[binOp,Op.intDiv,hp];done)
  |(rw[binOp_and,intBits_and];rfl)
  |(rw[binOp_or,intBits_or];rfl)
  |(rw[binOp_xor,intBits_xor];rfl)
  |(rw[binOp_shl,shift_shl _ _ _ _ hp.1 hp.2];rfl)
  |(rw[binOp_shr,shift_shr _ _ _ _ hp.1 hp.2];rfl)
theorem ML(op:BinOp)(k:IntKind)(x y:Int):(L8 op k x y).new=none:=by cases op<;>rfl
theorem SD(op:BinOp)(k:IntKind)(x y:Int)(hp:(L8 op k x y).pre):Ar A0 w0 β B w (L8 op k x y).v (match(L8 op k x y).v with| .int k n=> .int k n| .bool b=> .bool b|_=>undef):=by
 cases op<;>first|exact rfl|exact hp.elim
theorem QJ(ho:o.op= .binOp op t x y u)(hx:Ar A0 w0 β B w (ev E fr ox) (a.eval x))(hy:Ar A0 w0 β B w (ev E fr oy) (a.eval y))
  (hp:(AF E fr bx nx (.bin op ox oy)).pre):CW P A0 w0 β B w a o (AF E fr bx nx (.bin op ox oy)):=by
 cases hv:ev E fr ox<;>cases hu:ev E fr oy<;>simp only[AF,hv,hu]at hp hx hy⊢ <;>first|exact hp.elim|skip
 rename_i k n k' n'
 obtain⟨hk,hp⟩:=hp
 have e1:a.eval x= .int k n:=hx
 have e2:a.eval y= .int k' n':=hy
 refine CW.mk' (ML op k n n') ?_ (SD op k n n' hp)
 have hg:(eqGuard op t x y (.int k n) (.int k' n')).run P w= .ok () w:=by
  simp only[eqGuard];split<;>rfl
 simp[execOp,ho,e1,e2,hg,KA hk hp]
theorem Td(ho:o.op= .binOp op t x y u)(hx:Ar A0 w0 β B w (ev E fr ox) (a.eval x))(hy:Ar A0 w0 β B w (ev E fr oy) (a.eval y))
  (hp:(AF E fr bx nx (.bin op ox oy)).pre):AE P A0 w0 β B nx w a o (AF E fr bx nx (.bin op ox oy)):=(QJ ho hx hy hp).does
theorem KZ{neg:Bool}(ho:o.op= .binOp op t x y u)(ht:P.underlying t=some .bool)(hop:op=if neg then .neq else .eql)(hx:Ar A0 w0 β B w (ev E fr ox) (a.eval x))(hy:Ar A0 w0 β B w (ev E fr oy) (a.eval y))
  (hp:(AF E fr bx nx (.binb neg ox oy)).pre):AE P A0 w0 β B nx w a o (AF E fr bx nx (.binb neg ox oy)):=by
 cases hv:ev E fr ox<;>cases hu:ev E fr oy<;>simp only[AF,hv,hu]at hp hx hy⊢ <;>first|exact hp.elim|skip
 rename_i b b'
 have e1:a.eval x= .bool b:=hx
 have e2:a.eval y= .bool b':=hy
 have hg:(eqGuard op t x y (.bool b) (.bool b')).run P w= .ok () w:=by
  simp only[eqGuard];split<;>rfl
 cases neg
 ·simp only[Bool.false_eq_true,if_false]at hop
  subst hop
  exact AE.plain rfl (x:= .bool (b==b')) (by simp[execOp,ho,e1,e2,hg,binOp,run_equal_bool _ _ _ _ ht]) rfl
 simp only[if_true]at hop
 subst hop
 exact AE.plain rfl (x:= .bool (b !=b')) (by simp[execOp,ho,e1,e2,hg,binOp,run_equal_bool _ _ _ _ ht];cases b<;>cases b'<;>rfl) rfl
theorem Wn{op:UnOp}(ho:o.op= .unOp op t x)(hx:Ar A0 w0 β B w (ev E fr ox) (a.eval x))
  (hp:(AF E fr bx nx (.un op ox)).pre):AE P A0 w0 β B nx w a o (AF E fr bx nx (.un op ox)):=by
 cases op<;>cases hv:ev E fr ox<;>simp only[AF,hv]at hp hx⊢ <;>first|exact hp.elim|skip
 ·rename_i k n
  have e1:a.eval x= .int k n:=hx
  exact AE.plain rfl (x:= .int k (k.wrap (0-n))) (by simp[execOp,ho,e1,Op.unary,Op.intArith]) rfl
 rename_i b
 have e1:a.eval x= .bool b:=hx
 exact AE.plain rfl (x:= .bool !b) (by simp[execOp,ho,e1,Op.unary]) rfl
theorem RP{s d:TypeId}{k k0:IntKind}(ho:o.op= .convert s d x)(hs:P.underlying s=some (.int k0))(hd:P.underlying d=some (.int k))(hx:Ar A0 w0 β B w (ev E fr ox) (a.eval x))
  (hp:(AF E fr bx nx (.conv k ox)).pre):AE P A0 w0 β B nx w a o (AF E fr bx nx (.conv k ox)):=by
 cases hv:ev E fr ox<;>simp only[AF,hv]at hp hx⊢ <;>first|exact hp.elim|skip
 rename_i k' n
 have e1:a.eval x= .int k' n:=hx
 exact AE.plain rfl (x:= .int k (k.wrap n)) (by simp[execOp,ho,e1,Go.convert,run_underlying hs,run_underlying hd,Conv.intToInt]) rfl
theorem Xa{l:List Operand}{r:List Bf}(h:J5 l=some r)(hx:∀x∈l,I0 E A0 w0 β B w fr a x):Ar A0 w0 β B w (Zb E fr r) (.tuple ⟨l.map a.eval⟩):=by
 induction l generalizing r with
 |nil=>simp[J5]at h;subst h;rfl
 |cons x l ih=>
  simp only[J5]at h
  split at h
  ·rename_i ox r' h1 h2
   simp at h;subst h
   exact⟨_,_,rfl,hx x (by simp) ox h1,ih h2 fun y hy=>hx y (by simp[hy])⟩
  cases h
theorem Rv{fn:Fn}{first caps:Array Operand}{l:List Bf}(ho:o.op= .makeFunc fn first caps)(hf:first.size=0)(hl:J5 caps.toList=some l)(hx:∀x∈caps.toList,I0 E A0 w0 β B w fr a x):
  CW P A0 w0 β B w a o (AF E fr bx nx (.mkf fn l)):=by
 have hf':first= #[]:=by simpa using hf
 refine CW.mk' rfl (x:= .func fn #[] ⟨caps.toList.map a.eval⟩) ?_ ⟨_,rfl,Xa hl hx⟩
 simp[execOp,ho,Instr.makeFunc,hf']
 apply Array.toList_inj.1;simp
theorem Rh{fs:Array Field}{f:Field}(ho:o.op= .fieldAddr t x i)(ht:P.underlying t=some (.struct fs))(hf:fs[i]?=some f)(hn:BN P f.type=some (n+1))
  (hx:Ar A0 w0 β B w (ev E fr ox) (a.eval x)) (hp:(AF E fr bx nx (.fld f.offset ox)).pre):CW P A0 w0 β B w a o (AF E fr bx nx (.fld f.offset ox)):=by
 obtain⟨inf,hi,hn⟩:=Option.map_eq_some_iff.1 hn
 have key:∀g off,a.eval x= .pointer (some ⟨g,off,none⟩)->(execOp a.eval o).run P w= .ok (.value (.pointer (some ⟨g,off+f.offset,none⟩))) w:=by
  intro g off he
  simp[execOp,ho,he,Instr.fieldAt,run_underlying ht,hf,Instr.sureAddr,fieldPlace,sizeOf,typeInfo,hi,hn,add_lit]
 cases hv:ev E fr ox<;>simp only[AF,hv]at hp hx⊢ <;>first|exact hp.elim|skip
 ·rename_i m c
  obtain⟨g,off,he,hg,hA,hc⟩:=hx
  refine CW.mk' rfl (key g off he) ⟨g,_,rfl,hg,hA,fun j hj=> ?_⟩
  obtain⟨y,hy,hr⟩:=hc (f.offset+j) (by omega)
  exact⟨y,by rw[Nat.add_assoc];exact hy,hr⟩
 ·rename_i b off
  obtain⟨hl,g,hg,he⟩:=hx
  exact CW.mk' rfl (key g off he) ⟨hl,g,hg,rfl⟩
 rename_i b i off
 obtain⟨e,k,n,hl,hi,g,hg,he⟩:=hx
 exact CW.mk' rfl (key g _ he) ⟨e,k,n,hl,hi,g,hg,by rw[Nat.add_assoc]⟩
theorem Tv{fn:Fn}{first caps:Array Operand}{l:List Bf}(ho:o.op= .makeFunc fn first caps)(hf:first.size=0)(hl:J5 caps.toList=some l)(hx:∀x∈caps.toList,I0 E A0 w0 β B w fr a x):
  AE P A0 w0 β B nx w a o (AF E fr bx nx (.mkf fn l)):=(Rv ho hf hl hx).does
theorem Uf{fs:Array Field}{f:Field}(ho:o.op= .fieldAddr t x i)(ht:P.underlying t=some (.struct fs))(hf:fs[i]?=some f)(hn:BN P f.type=some (n+1))
  (hx:Ar A0 w0 β B w (ev E fr ox) (a.eval x)) (hp:(AF E fr bx nx (.fld f.offset ox)).pre):AE P A0 w0 β B nx w a o (AF E fr bx nx (.fld f.offset ox)):=(Rh ho ht hf hn hx hp).does
theorem TE{i:Operand}{oi:Bf}{k:Nat}(hm:Fp P A0 w0 β B N w)(hbx:∀b c,B b=some c->Ab bx b=some c)(ho:o.op= .indexAddr t x i)(ht:P.underlying t=some (.slice e))(hk:BN P e=some k)
  (hx:Ar A0 w0 β B w (ev E fr ox) (a.eval x)) (hi:Ar A0 w0 β B w (ev E fr oi) (a.eval i)) (hp:(AF E fr bx nx (.idx k ox oi)).pre):AE P A0 w0 β B nx w a o (AF E fr bx nx (.idx k ox oi)):=by
 obtain⟨inf,hinf,hn⟩:=Option.map_eq_some_iff.1 hk
 cases hv:ev E fr ox<;>cases hu:ev E fr oi<;>simp only[AF,hv,hu]at hp hx hi⊢ <;>first|exact hp.elim|skip
 ·rename_i k' n c ik z
  obtain⟨rfl,h0,h1⟩:=hp
  have e2:a.eval i= .int ik z:=hi
  obtain⟨ad,cap,he,hmx,_,hc⟩:=hx
  obtain⟨g,off,rfl,hg,hA,hc⟩:=hc (by omega)
  refine AE.plain rfl (x:= .pointer (some ⟨g,off+z.toNat*k,none⟩)) ?_ ⟨g,_,rfl,hg,hA,fun j hj=>by obtain⟨y,hy,_,hr⟩:=hc z.toNat (by omega) j hj;exact⟨y,hy,hr⟩⟩
  simp[execOp,ho,he,e2,Instr.indexAt,asIntOf,run_underlying ht,h0,h1,sizeOf,typeInfo,hinf,hn,add_lit]
 ·rename_i b ik z
  obtain⟨⟨e',k',n,hl0⟩,he⟩:=hx
  have key:k=k'/\0<=z/\z<n->(β b).n=n->(∃xs,w.ownsRow 0 e' k' (.slice ((β b).a.map fun g=>⟨g,0,none⟩) n (β b).cap) n xs)->AE P A0 w0 β B nx w a o ⟨True,.rptr b z.toNat 0,none⟩:=by
   rintro⟨rfl,h0,h1⟩ hn' ⟨xs,hxl,how⟩
   have e2:a.eval i= .int ik z:=hi
   rcases how with⟨_,hn0⟩|⟨g,cap,cur,e1,_⟩
   ·subst hn0;omega
   have hg:(β b).a=some g:=by
    cases ha:(β b).a with
    |none=>simp[ha]at e1
    |some g'=>simp[ha]at e1;rw[e1.1]
   refine AE.plain rfl (x:= .pointer (some ⟨g,z.toNat*k+0,none⟩)) ?_ ⟨e',k,n,hl0,by omega,g,hg,rfl⟩
   simp[execOp,ho,he,e2,Instr.indexAt,asIntOf,run_underlying ht,hg,hn',h0,h1,sizeOf,typeInfo,hinf,hn,add_lit]
  rcases hl0.cases with⟨c,hl⟩|⟨c,hl⟩
  ·simp only[hbx b _ hl]at hp⊢
   obtain⟨hn',hk0,hmax,xs,how,hc⟩:=hm.bx b _ hl
   exact key hp hn' ⟨xs,how⟩
  simp only[hbx b _ hl]at hp⊢
  obtain⟨hn',hk0,hmax,xs,how,hc⟩:=hm.bx b _ hl
  exact key hp hn' ⟨xs,how⟩
 rename_i b off m ik z
 obtain⟨e',k',M,hl0,hoff,ad,cap,he,hcap,ha⟩:=hx
 have key:k=k'/\0<=z/\z<m->AE P A0 w0 β B nx w a o ⟨True,.rptr b (off+z.toNat) 0,none⟩:=by
  rintro⟨rfl,h0,h1⟩
  have e2:a.eval i= .int ik z:=hi
  obtain⟨g,hg,rfl⟩:=ha.1 (by omega)
  refine AE.plain rfl (x:= .pointer (some ⟨g,(off+z.toNat)*k+0,none⟩)) ?_ ⟨e',k,M,hl0,by omega,g,hg,rfl⟩
  simp[execOp,ho,he,e2,Instr.indexAt,asIntOf,run_underlying ht,h0,h1,sizeOf,typeInfo,hinf,hn,add_lit,Nat.add_mul]
 rcases hl0.cases with⟨c,hl⟩|⟨c,hl⟩
 ·simp only[hbx b _ hl]at hp⊢
  exact key hp
 simp only[hbx b _ hl]at hp⊢
 exact key hp
theorem Q1{i:Operand}{oi:Bf}{k:Nat}(ho:o.op= .indexAddr t x i)(ht:P.underlying t=some (.array n e))(hk:BN P e=some k)
  (hx:Ar A0 w0 β B w (ev E fr ox) (a.eval x)) (hi:Ar A0 w0 β B w (ev E fr oi) (a.eval i)) (hp:(AF E fr bx nx (.idxA k n ox oi)).pre):AE P A0 w0 β B nx w a o (AF E fr bx nx (.idxA k n ox oi)):=by
 obtain⟨inf,hinf,hn⟩:=Option.map_eq_some_iff.1 hk
 have key:∀g off ik z,a.eval x= .pointer (some ⟨g,off,none⟩)->a.eval i= .int ik z->0<=z->z<n->(execOp a.eval o).run P w= .ok (.value (.pointer (some ⟨g,off+z.toNat*k,none⟩))) w:=by
  intro g off ik z he e2 h0 h1
  simp[execOp,ho,he,e2,Instr.indexAt,asIntOf,run_underlying ht,Instr.sureAddr,h0,h1,sizeOf,typeInfo,hinf,hn,add_lit]
 cases hv:ev E fr ox<;>cases hu:ev E fr oi<;>simp only[AF,hv,hu]at hp hx hi⊢ <;>first|exact hp.elim|skip
 ·rename_i m c ik z
  obtain⟨g,off,he,hg,hA,hc⟩:=hx
  refine AE.plain rfl (key g off ik z he hi hp.1 hp.2) ⟨g,_,rfl,hg,hA,fun j hj=> ?_⟩
  obtain⟨y,hy,hr⟩:=hc (z.toNat*k+j) (by omega)
  exact⟨y,by rw[Nat.add_assoc];exact hy,hr⟩
 ·rename_i b off ik z
  obtain⟨hl,g,hg,he⟩:=hx
  exact AE.plain rfl (key g off ik z he hi hp.1 hp.2) ⟨hl,g,hg,rfl⟩
 rename_i b i' off ik z
 obtain⟨e,k',n',hl,hi',g,hg,he⟩:=hx
 exact AE.plain rfl (key g _ ik z he hi hp.1 hp.2) ⟨e,k',n',hl,hi',g,hg,by rw[Nat.add_assoc]⟩
theorem Va(ho:o.op= .extract x i)(hx:Ar A0 w0 β B w (ev E fr ox) (a.eval x))(hp:(AF E fr bx nx (.ext i ox)).pre):AE P A0 w0 β B nx w a o (AF E fr bx nx (.ext i ox)):=by
 cases hv:ev E fr ox<;>simp only[AF,hv]at hp hx⊢ <;>first|exact hp.elim|skip
 rename_i l
 obtain⟨ys,he,hr⟩:=hx
 obtain⟨y,hy,hry⟩:=A7.get1 hr i hp
 exact AE.plain rfl (x:=y) (by simp[execOp,ho,he,Instr.extract,hy]) hry
theorem Qn{mx:Bool}(ho:o.op= .call c)(hcal:c.callee= .builtin (if mx then .max else .min))(hargs:c.args.toList=[x,y])(hx:Ar A0 w0 β B w (ev E fr ox) (a.eval x))(hy:Ar A0 w0 β B w (ev E fr oy) (a.eval y))
  (hp:(AF E fr bx nx (.mm mx ox oy)).pre):AE P A0 w0 β B nx w a o (AF E fr bx nx (.mm mx ox oy)):=by
 have ha:c.args= #[x,y]:=by rw[<-hargs]
 cases hv:ev E fr ox<;>cases hu:ev E fr oy<;>simp only[AF,hv,hu]at hp hx hy⊢ <;>first|exact hp.elim|skip
 rename_i k n k' n'
 subst hp
 have e1:a.eval x= .int k n:=hx
 have e2:a.eval y= .int k n':=hy
 cases mx with
 |true=>
  refine AE.plain rfl (x:= .int k (max n n')) ?_ rfl
  have:(if n'>n then n' else n)=max n n':=by rw[Int.max_def];split<;>split<;>omega
  simp[execOp,ho,resolve,hcal,ha,invoke,builtin,e1,e2,run_max_int2]
  rw[<-this]
 |false=>
  refine AE.plain rfl (x:= .int k (min n n')) ?_ rfl
  have:(if n'<n then n' else n)=min n n':=by rw[Int.min_def];split<;>split<;>omega
  simp[execOp,ho,resolve,hcal,ha,invoke,builtin,e1,e2,run_min_int2]
  rw[<-this]
theorem RE(ho:o.op= .nilCheck x)(hx:Ar A0 w0 β B w (ev E fr ox) (a.eval x))(hp:(AF E fr bx nx (.nilc ox)).pre):AE P A0 w0 β B nx w a o (AF E fr bx nx (.nilc ox)):=by
 cases hv:ev E fr ox<;>simp only[AF,hv]at hp hx⊢ <;>first|exact hp.elim|skip
 ·obtain⟨g,off,he,hr⟩:=hx
  exact AE.plain rfl (x:=a.eval x) (by simp[execOp,ho,he]) ⟨g,off,he,hr⟩
 ·obtain⟨hl,g,hg,he⟩:=hx
  exact AE.plain rfl (x:=a.eval x) (by simp[execOp,ho,he]) ⟨hl,g,hg,he⟩
 obtain⟨e,k,n,hl,hi,g,hg,he⟩:=hx
 exact AE.plain rfl (x:=a.eval x) (by simp[execOp,ho,he]) ⟨e,k,n,hl,hi,g,hg,he⟩
theorem R8(hm:Fp P A0 w0 β B N w)(hbx:∀b c,B b=some c->Ab bx b=some c)(ho:o.op= .call c)(hcal:c.callee= .builtin .len)(hargs:c.args.toList=[x])(hat:c.argTypes.toList=[t])(ht:P.underlying t=some (.slice e))
  (hx:Ar A0 w0 β B w (ev E fr ox) (a.eval x)) (hp:(AF E fr bx nx (.len ox)).pre):CW P A0 w0 β B w a o (AF E fr bx nx (.len ox)):=by
 have ha:c.args= #[x]:=by rw[<-hargs]
 have ha':c.argTypes= #[t]:=by rw[<-hat]
 have key:∀ad n cap,a.eval x= .slice ad n cap->(execOp a.eval o).run P w= .ok (.value (.int .i64 n)) w:=by
  intro ad n cap he
  simp[execOp,ho,resolve,hcal,ha,ha',invoke,builtin,he,Builtin.len_,run_underlying ht,goInt]
 cases hv:ev E fr ox<;>simp only[AF,hv,T0]at hp hx⊢ <;>first|exact hp.elim|skip
 ·have he:a.eval x= .slice none 0 0:=hx
  exact CW.mk' rfl (key _ _ _ he) rfl
 ·obtain⟨ad,cap,he,_⟩:=hx
  exact CW.mk' rfl (key _ _ _ he) rfl
 ·rename_i b
  obtain⟨⟨e',k',n,hl⟩,he⟩:=hx
  rcases hl.cases with⟨c,hl⟩|⟨c,hl⟩
  all_goals
   simp only[hbx b _ hl]at hp⊢
   have hn:=(hm.bx b _ hl).1
   refine CW.mk' rfl (key _ _ _ he) ?_
   rw[hn];rfl
 ·obtain⟨ad,he,_⟩:=hx
  exact CW.mk' rfl (key _ _ _ he) rfl
 obtain⟨e',k',M,hl0,hoff,ad,cap,he,hcap,ha⟩:=hx
 exact CW.mk' rfl (key _ _ _ he) rfl
theorem T8(hm:Fp P A0 w0 β B N w)(hbx:∀b c,B b=some c->Ab bx b=some c)(ho:o.op= .call c)(hcal:c.callee= .builtin .len)(hargs:c.args.toList=[x])(hat:c.argTypes.toList=[t])(ht:P.underlying t=some (.slice e))
  (hx:Ar A0 w0 β B w (ev E fr ox) (a.eval x)) (hp:(AF E fr bx nx (.len ox)).pre):AE P A0 w0 β B nx w a o (AF E fr bx nx (.len ox)):=(R8 hm hbx ho hcal hargs hat ht hx hp).does
end Go.Proofs.YtlieoghhkioflaaGreat
/- The engine,part 9: structs and slices that are built,slices cut. No condition. -/
namespace Go.Proofs.YtlieoghhkioflaaGreat
open Go Go.RowKit
variable{n:Nat}{t:TypeId}{z:Ad}
variable{P:Program}{E:Db}{A0:Nat->Prop}{w0:AW}{β:Bn->CK}{B:Br}{nx:Nat}{w:World}{a:Act}{o:Oper}{fr:Fr}{bx:Bx}
inductive Vk{α γ:Type}(R:α->γ->Prop):List α->List γ->Prop
 |nil:Vk R [] []
 |cons {x y l r} (h:R x y) (t:Vk R l r):Vk R (x::l) (y::r)
def BC:List Value->Nat->List Value->List Value
 |zs,_,[]=>zs
 |zs,off,y::ys=>BC (zs.set off y) (off+1) ys
theorem Dq:∀(ys zs:List Value) (off:Nat),(BC zs off ys).length=zs.length:=by
 intro ys;induction ys with
 |nil=>intro zs off;rfl
 |cons y ys ih=>intro zs off;simp[BC,ih]
theorem Lc:∀(ys:List Value) (j off:Nat) (zs:List Value),(ys.zipIdx j).foldl (fun(cs:Array Value) (p:Value×Nat)=>cs.setIfInBounds (off+p.2) p.1) ⟨zs⟩=⟨BC zs (off+j) ys⟩:=by
 intro ys;induction ys with
 |nil=>intro j off zs;rfl
 |cons y ys ih=>
  intro j off zs
  simp only[List.zipIdx_cons,List.foldl_cons,BC]
  have:(⟨zs⟩:Array Value).setIfInBounds (off+j) y=⟨zs.set (off+j) y⟩:=by simp
  rw[this,ih (j+1) off]
  rfl
theorem K7{l v:Ad}:∀{zs ys:List Value} {off:Nat},Ar A0 w0 β B w l (.tuple ⟨zs⟩)->Ar A0 w0 β B w v (.tuple ⟨ys⟩)->QU v->off+Bb v<=Bb l->Ar A0 w0 β B w (Dh l off v) (.tuple ⟨BC zs off ys⟩):=by
 induction v generalizing l with
 |nil=>
  intro zs ys off hl hv _ _
  have:ys=[]:=by have e:Value.tuple ⟨ys⟩= .tuple #[]:=hv;simpa using e
  subst this
  cases l<;>simpa[Dh,BC]using hl
 |cons h t ih1 ih2=>
  intro zs ys off hl hv hL hn
  obtain⟨y,ys',he,h1,h2⟩:=hv
  have:ys=y::ys':=by simpa using he
  subst this
  simp only[Bb]at hn
  have hs:=A7.set1 hl h1 off (by omega)
  have:=ih2 (off:=off+1) hs h2 hL (by rw[Ih];omega)
  exact this
 |_=>intro zs ys off hl hv hL;exact hL.elim
theorem Pa:∀(v l:Ad) (off:Nat),Bb (Dh l off v)=Bb l:=by
 intro v;induction v with
 |cons h t ih1 ih2=>intro l off;simp only[Dh];rw[ih2,Ih]
 |_=>intro l off;cases l<;>rfl
theorem QO:∀(v l:Ad) (off:Nat),QU l->QU (Dh l off v):=by
 intro v;induction v with
 |cons h t ih1 ih2=>intro l off hl;simp only[Dh];exact ih2 _ _ (T4 l off h hl)
 |_=>intro l off hl;cases l<;>exact hl
theorem NQ(place:Nat->Option (Nat×Nat)):∀(parts:List (Nat×Operand)) (r:List (Nat×Nat×Bf)) (z:Ad) (zs:List Value),Ar A0 w0 β B w z (.tuple ⟨zs⟩)->QU z->
  (∀p∈parts,I0 E A0 w0 β B w fr a p.2)->Vk (fun p q=>place p.1=some (q.1,q.2.1)/\AG p.2=some q.2.2) parts r->Ha E fr (Bb z) r->
  ∃us,Instr.fill place ⟨zs⟩ (parts.map fun p=>(p.1,a.eval p.2))=some ⟨us⟩/\us.length=zs.length/\Ar A0 w0 β B w (Kf E fr z r) (.tuple ⟨us⟩):=by
 intro parts
 induction parts with
 |nil=>
  intro r z zs hz hL _ hf _
  cases hf
  exact⟨zs,rfl,rfl,hz⟩
 |cons p parts ih=>
  intro r z zs hz hL hp hf hok
  cases hf with
  | @cons _ q _ r' hpq hf=>
   obtain⟨off,n,ox⟩:=q
   obtain⟨h1,h2,h3⟩:=hok
   have hx:=hp p (by simp) ox hpq.2
   obtain⟨e1,e2,e3,e4⟩:=Dp h1 hx
   have hv:=K7 hz e3 (CE e1) (off:=off) (by omega)
   have hlen:=A7.len hz hL
   obtain⟨us,hu1,hu2,hu3⟩:=ih r' _ _ hv (QO _ _ _ hL) (fun p' h'=>hp p' (by simp[h'])) hf (by rw[Pa];exact h3)
   refine⟨us,?_,by rw[hu2,Dq],hu3⟩
   simp only[List.map_cons,Instr.fill,hpq.1]
   have e5:(a.eval p.2).cells.zipIdx.foldl (fun(cs:Array Value) (p:Value×Nat)=>cs.setIfInBounds (off+p.2) p.1) ⟨zs⟩=⟨BC zs off (a.eval p.2).cells.toList⟩:=by
    rw[<-Array.foldl_toList,Array.toList_zipIdx]
    exact Lc _ 0 off zs
   rw[if_neg (by simp[e4];omega)]
   have e6:(a.eval p.2).cells.zipIdx.foldl (fun(cs:Array Value) (x:Value×Nat)=>match x with|(c,j)=>cs.setIfInBounds (off+j) c) ⟨zs⟩=⟨BC zs off (a.eval p.2).cells.toList⟩:=e5
   rw[e6]
   exact hu1
theorem Mu{fs:Array Field}:∀(l:List (Nat×Operand)) (r:List (Nat×Nat×Bf)),If P fs l=some r->
  Vk (fun p q=>(∃f,fs[p.1]?=some f/\q.1=f.offset/\BN P f.type=some q.2.1)/\AG p.2=some q.2.2) l r:=by
 intro l;induction l with
 |nil=>intro r h;simp[If]at h;subst h;exact .nil
 |cons p l ih=>
  intro r h
  obtain⟨i,x⟩:=p
  simp only[If]at h
  split at h
  ·rename_i f ox r' h1 h2 h3
   split at h
   ·rename_i n hn
    simp at h;subst h
    exact .cons ⟨⟨f,h1,rfl,hn⟩,h2⟩ (ih _ h3)
   cases h
  cases h
theorem MP{k:Nat}:∀(l:List (Nat×Operand)) (r:List (Nat×Nat×Bf)),In k l=some r->Vk (fun p q=>q.1=p.1*k/\q.2.1=k/\AG p.2=some q.2.2) l r:=by
 intro l;induction l with
 |nil=>intro r h;simp[In]at h;subst h;exact .nil
 |cons p l ih=>
  intro r h
  obtain⟨i,x⟩:=p
  simp only[In]at h
  split at h
  ·rename_i ox r' h1 h2
   simp at h;subst h
   exact .cons ⟨rfl,rfl,h1⟩ (ih _ h2)
  cases h
theorem PA{α γ:Type}{R S:α->γ->Prop}{l:List α}{r:List γ}(h:Vk R l r)(hr:∀x y,R x y->S x y):Vk S l r:=by
 induction h with
 |nil=>exact .nil
 |cons h _ ih=>exact .cons (hr _ _ h) ih
theorem Gl(h:DX P t=some (n,z))(w:World)(A:Nat->Prop):∃v,(zeroValue t).run P w= .ok v w/\v.cells.size=n/\Ao w A z (.tuple ⟨v.cells.toList⟩)/\BA z=true/\Bb z=n:=by
 obtain⟨i,v,h1,h2,h3,h4,h5⟩:=DL h
 refine⟨v,by simp[zeroValue,typeInfo,h1,h2],h4,I8 (fun v u h=>Hx h w A) _ _ h5,(J2 _ _ h5).1,?_⟩
 rw[(J2 _ _ h5).2];simpa using h4
theorem Jy{w:World}:∀(fs:List Field),(∀f∈fs,∃n,BN P f.type=some n)->(fs.mapM fun f=>(do pure (f.offset,<-sizeOf f.type):Sem (Nat×Nat))).run P w= .ok (fs.map fun f=>(f.offset,(BN P f.type).getD 0)) w:=by
 intro fs;induction fs with
 |nil=>intro _;simp
 |cons f fs ih=>
  intro h
  obtain⟨n,hn⟩:=h f (by simp)
  obtain⟨i,hi,hi'⟩:=Option.map_eq_some_iff.1 hn
  have h2:=ih fun g hg=>h g (by simp[hg])
  have h3:(sizeOf f.type).run P w= .ok n w:=by simp[sizeOf,typeInfo,hi,hi']
  simp only[List.mapM_cons,Sem.run_bind,h3,Result.andThen_ok,Sem.run_pure,h2,List.map_cons,hn,Option.getD_some]
theorem Hc{parts:Array (Nat×Operand)}{fs:Array Field}{r:List (Nat×Nat×Bf)}(ho:o.op= .build t parts)(ht:P.underlying t=some (.struct fs))(hz:DX P t=some (n,z))(hall:fs.toList.all (fun f=>(BN P f.type).isSome)=true)
  (hr:If P fs parts.toList=some r) (hx:∀p∈parts.toList,I0 E A0 w0 β B w fr a p.2) (hp:(AF E fr bx nx (.build z r)).pre):AE P A0 w0 β B nx w a o (AF E fr bx nx (.build z r)):=by
 obtain⟨v,h1,h2,h3,h4,h5⟩:=Gl hz w (Al A0 w0 B β)
 obtain⟨us,hu1,hu2,hu3⟩:=NQ (place:=fun i=>((fs.toList.map fun f=>(f.offset,(BN P f.type).getD 0)).toArray)[i]?) parts.toList r z v.cells.toList (Ao.rep _ _ h3) (CE h4) hx
  (PA (Mu _ _ hr) fun p q ⟨⟨f,e1,e2,e3⟩,e4⟩=>⟨by simp[e1,e2,e3],e4⟩) hp.2
 refine AE.plain rfl (x:= .agg ⟨us⟩) ?_ ⟨us,rfl,hu3⟩
 have hm:(fs.mapM fun f=>(do pure (f.offset,<-sizeOf f.type):Sem (Nat×Nat))).run P w= .ok (fs.toList.map fun f=>(f.offset,(BN P f.type).getD 0)).toArray w:=by
  rw[Array.mapM_eq_mapM_toList]
  have:=Jy (P:=P) (w:=w) fs.toList fun f hf=>by
   have:=List.all_eq_true.1 hall f hf
   exact Option.isSome_iff_exists.1 this
  simp only[Sem.run_map,this,Result.andThen_ok]
 have hmap:(parts.map fun p=>(p.1,a.eval p.2)).toList=parts.toList.map fun p=>(p.1,a.eval p.2):=by simp
 have hu:Instr.fill (fun i=>((fs.toList.map fun f=>(f.offset,(BN P f.type).getD 0)).toArray)[i]?) v.cells (parts.map fun p=>(p.1,a.eval p.2)).toList=some ⟨us⟩:=by rw[hmap];exact hu1
 simp only[execOp,ho,Instr.build,Sem.run_bind,h1,Result.andThen_ok,run_underlying ht,hm]
 rw[show(fun(x:Nat×Operand)=>match x with|(i,x)=>(i,a.eval x))=fun p=>(p.1,a.eval p.2)from rfl,hu]
 rfl
theorem HR{e:TypeId}{parts:Array (Nat×Operand)}{m k:Nat}{r:List (Nat×Nat×Bf)}(ho:o.op= .build t parts)(ht:P.underlying t=some (.array m e))(hk:BN P e=some k)(hz:DX P t=some (n,z))
  (hr:In k parts.toList=some r) (hx:∀p∈parts.toList,I0 E A0 w0 β B w fr a p.2) (hp:(AF E fr bx nx (.build z r)).pre):AE P A0 w0 β B nx w a o (AF E fr bx nx (.build z r)):=by
 obtain⟨v,h1,h2,h3,h4,h5⟩:=Gl hz w (Al A0 w0 B β)
 obtain⟨us,hu1,hu2,hu3⟩:=NQ (place:=fun i=>some (i*k,k)) parts.toList r z v.cells.toList (Ao.rep _ _ h3) (CE h4) hx
  (PA (MP _ _ hr) fun p q ⟨e1,e2,e4⟩=>⟨by rw[e1,e2],e4⟩) hp.2
 refine AE.plain rfl (x:= .agg ⟨us⟩) ?_ ⟨us,rfl,hu3⟩
 obtain⟨i,hi,hi'⟩:=Option.map_eq_some_iff.1 hk
 have hmap:(parts.map fun p=>(p.1,a.eval p.2)).toList=parts.toList.map fun p=>(p.1,a.eval p.2):=by simp
 have hu:Instr.fill (fun i=>some (i*k,k)) v.cells (parts.map fun p=>(p.1,a.eval p.2)).toList=some ⟨us⟩:=by rw[hmap];exact hu1
 have h6:(sizeOf e).run P w= .ok k w:=by simp[sizeOf,typeInfo,hi,hi']
 simp only[execOp,ho,Instr.build,Sem.run_bind,h1,Result.andThen_ok,run_underlying ht,h6]
 rw[show(fun(x:Nat×Operand)=>match x with|(i,x)=>(i,a.eval x))=fun p=>(p.1,a.eval p.2)from rfl,hu]
 rfl
end Go.Proofs.YtlieoghhkioflaaGreat
/- The engine,part 10: new slices; slices cut. No condition. -/
namespace Go.Proofs.YtlieoghhkioflaaGreat
open Go Go.RowKit
variable{k len:Nat}
variable{P:Program}{E:Db}{A0:Nat->Prop}{w0:AW}{β:Bn->CK}{B:Br}{nx:Nat}{w:World}{a:Act}{o:Oper}{fr:Fr}{bx:Bx}
theorem A7.pure{A:Nat->Prop}:∀(v:Ad) (x:Value),A4 v=true->A7 w A B β v x->Ao w A v x:=by
 intro v
 induction v with
 |cons h t ih1 ih2=>
  rintro x hp ⟨y,ys,rfl,h1,h2⟩
  simp only[A4,Bool.and_eq_true]at hp
  exact⟨y,ys,rfl,ih1 y hp.1 h1,ih2 _ hp.2 h2⟩
 |agg l ih=>rintro x hp ⟨ys,rfl,h⟩;exact⟨ys,rfl,ih _ hp h⟩
 |tup l ih=>rintro x hp ⟨ys,rfl,h⟩;exact⟨ys,rfl,ih _ hp h⟩
 |func fn l ih=>rintro x hp ⟨ys,rfl,h⟩;exact⟨ys,rfl,ih _ hp h⟩
 |ptr b off=>intro x hp;simp[A4]at hp
 |own b=>intro x hp;simp[A4]at hp
 |rptr b i off=>intro x hp;simp[A4]at hp
 |mapb b=>intro x hp;simp[A4]at hp
 |yld b=>intro x hp;simp[A4]at hp
 |osl b off n=>intro x hp;simp[A4]at hp
 |_=>intro x _ h;exact h
theorem FX{A:Nat->Prop}:∀(v:Ad) (ys:List Value),C3 v=true->A7 w A B β v (.tuple ⟨ys⟩)->QU v->∀y∈ys,y.oneCell'=true:=by
 intro v
 induction v with
 |nil=>
  intro ys _ h _ y hy
  have e:Value.tuple ⟨ys⟩= .tuple #[]:=h
  have:ys=[]:=by simpa using e
  subst this;cases hy
 |cons h t ih1 ih2=>
  intro ys ho hr hl y hy
  obtain⟨z,zs,he,h1,h2⟩:=hr
  have:ys=z::zs:=by simpa using he
  subst this
  simp only[C3,Bool.and_eq_true]at ho
  rcases List.mem_cons.1 hy with rfl|hy
  ·have ho1:=ho.1
   cases h<;>simp at ho1<;>first
    |(obtain⟨p,q,e,_⟩:=h1;subst e;rfl)
    |(obtain⟨g,fr,ps,ca,cb,st,q,e⟩:=h1;subst e;rfl)
    |(obtain⟨p,e,_⟩:=h1;subst e;rfl)
    |(obtain⟨p,e⟩:=h1;subst e;rfl)
    |(obtain⟨p,q,hq,e⟩:=h1;subst e;rfl)
    |(obtain⟨e0,k,m,h1,h2,q,hq,e⟩:=h1;subst e;rfl)
    |(obtain⟨e0,k,m,h1,h2,q,q2,e,hq⟩:=h1;subst e;rfl)
    |(have e:y=_:=h1;subst e;rfl)
  exact ih2 zs ho.2 h2 hl y hy
 |_=>intro ys _ _ hl;exact hl.elim
def PU(Rl:Ad->Value->Prop)(len k:Nat)(R:Ad)(us:List Value):Prop:=
 Bb R=len/\us.length=len*k/\∀i,i<len->∀j,j<k->∃y,us[i*k+j]?=some y/\y.oneCell'=true/\Rl (Az (Az R i) j) y
theorem ET:∀(ys zs:List Value) (off p:Nat),off+ys.length<=zs.length->(BC zs off ys)[p]?=if off<=p/\p<off+ys.length then ys[p-off]? else zs[p]?:=by
 intro ys;induction ys with
 |nil=>intro zs off p _;simp[BC];omega
 |cons y ys ih=>
  intro zs off p h
  simp only[List.length_cons]at h
  simp only[BC]
  rw[ih _ _ _ (by simp;omega)]
  by_cases h1:off+1<=p/\p<off+1+ys.length
  ·rw[if_pos h1,if_pos (by simp only[List.length_cons];omega)]
   rw[show p-off=(p-(off+1))+1 from by omega];simp
  rw[if_neg h1]
  by_cases h2:p=off
  ·subst h2
   rw[if_pos (by simp),List.getElem?_set_self (by omega)];simp
  rw[if_neg (by simp only[List.length_cons];omega),List.getElem?_set_ne (by omega)]
theorem Rr(l:Ad)(i j:Nat)(v:Ad)(h:i<Bb l):Az (G4 l i v) j=if j=i then v else Az l j:=by
 induction l generalizing i j with
 |cons a t ih1 ih2=>
  cases i with
  |zero=>cases j<;>simp[G4,Az]
  |succ i=>
   cases j with
   |zero=>simp[G4,Az]
   |succ j=>
    simp only[G4,Az]
    rw[ih2 i j (by simpa[Bb]using h)]
    simp
 |_=>simp[Bb]at h
theorem Im(z:Ad):∀(n i:Nat),i<n->Az (MB z n) i=z:=by
 intro n;induction n with
 |zero=>intro i h;omega
 |succ n ih=>intro i h;cases i with
  |zero=>rfl
  |succ i=>exact ih i (by omega)
theorem RQ(z:Ad):∀n,Bb (MB z n)=n:=by intro n;induction n with|zero=>rfl|succ n ih=>simp[MB,Bb,ih]
theorem Ix:∀(l:List (Nat×Operand)) (r:List (Nat×Bf)),Ip l=some r->Vk (fun p q=>q.1=p.1/\AG p.2=some q.2) l r:=by
 intro l;induction l with
 |nil=>intro r h;simp[Ip]at h;subst h;exact .nil
 |cons p l ih=>
  intro r h
  obtain⟨i,x⟩:=p
  simp only[Ip]at h
  split at h
  ·rename_i ox r' h1 h2
   simp at h;subst h
   exact .cons ⟨rfl,h1⟩ (ih _ h2)
  cases h
theorem NM{Rl:Ad->Value->Prop}:∀(parts:List (Nat×Operand)) (r:List (Nat×Bf)) (R:Ad) (us:List Value),(∀p∈r,∀j,j<k->∀y,Ar A0 w0 β B w (Az (cellsOf (ev E fr p.2)) j) y->Rl (Az (cellsOf (ev E fr p.2)) j) y)->PU Rl len k R us->
  (∀p∈parts,I0 E A0 w0 β B w fr a p.2)->Vk (fun p q=>q.1=p.1/\AG p.2=some q.2) parts r->EU E fr k len r->
  ∃us',Instr.fill (fun i=>some (i*k,k)) ⟨us⟩ (parts.map fun p=>(p.1,a.eval p.2))=some ⟨us'⟩/\PU Rl len k (Iy E fr R r) us':=by
 intro parts
 induction parts with
 |nil=>intro r R us _ h _ hf _;cases hf;exact⟨us,rfl,h⟩
 |cons p parts ih=>
  intro r R us hrl h hp hf hok
  cases hf with
  | @cons _ q _ r' hpq hf=>
   obtain⟨i,ox⟩:=q
   obtain⟨h1,h2',h3,h4⟩:=hok
   obtain⟨hi,hc⟩:=hpq
   simp only at hi hc
   have hx:=hp p (by simp) ox hc
   obtain⟨e1,e2,e3,e4⟩:=Dp h1 hx
   have hones:=FX _ _ h2' e3 (CE e1)
   have hlen:(a.eval p.2).cells.toList.length=k:=by simpa using e4
   obtain⟨g1,g2,g3⟩:=h
   have hik:i*k+k<=len*k:=by rw[<-Nat.succ_mul];exact Nat.mul_le_mul_right k h3
   have hnew:PU Rl len k (G4 R i (cellsOf (ev E fr ox))) (BC us (i*k) (a.eval p.2).cells.toList):=by
    refine⟨by rw[Ih];exact g1,by rw[Dq];exact g2,fun i' hi' j hj=> ?_⟩
    have hij:i'*k+j<len*k:=by
     have:i'*k+k<=len*k:=by rw[<-Nat.succ_mul];exact Nat.mul_le_mul_right k hi'
     omega
    rw[ET _ _ _ _ (by rw[hlen,g2];exact hik),hlen,Rr _ _ _ _ (by rw[g1];exact h3)]
    by_cases hii:i'=i
    ·subst hii
     rw[if_pos (by omega),if_pos rfl]
     obtain⟨y,hy,hr⟩:=A7.get1 e3 j (by omega)
     exact⟨y,by rw[Nat.add_sub_cancel_left];exact hy,hones y (List.mem_of_getElem? hy),hrl (i',ox) (by simp) j hj y hr⟩
    rw[if_neg hii,if_neg ?_]
    ·exact g3 i' hi' j hj
    intro hc2
    rcases Nat.lt_or_gt_of_ne hii with h|h
    ·have:(i'+1)*k<=i*k:=Nat.mul_le_mul_right k h
     rw[Nat.succ_mul]at this
     omega
    have:(i+1)*k<=i'*k:=Nat.mul_le_mul_right k h
    rw[Nat.succ_mul]at this
    omega
   obtain⟨us',hu1,hu2⟩:=ih r' _ _ (fun p' h'=>hrl p' (by simp[h'])) hnew (fun p' h'=>hp p' (by simp[h'])) hf h4
   refine⟨us',?_,hu2⟩
   have e5:(a.eval p.2).cells.zipIdx.foldl (fun(cs:Array Value) (x:Value×Nat)=>match x with|(c,j)=>cs.setIfInBounds (i*k+j) c) ⟨us⟩=⟨BC us (i*k) (a.eval p.2).cells.toList⟩:=by
    rw[<-Array.foldl_toList,Array.toList_zipIdx]
    exact Lc _ 0 (i*k) us
   simp only[List.map_cons,Instr.fill,<-hi]
   rw[if_neg (by simp[e4,g2];omega),e5]
   exact hu1
theorem Gy{z:Ad}{zs:List Value}{A:Nat->Prop}(hz:Ao w A z (.tuple ⟨zs⟩))(hl:BA z=true)(ho:C3 z=true)(hk:Bb z=k)(h0:0<k):
  PU (Ao w A) len k (MB z len) ((List.range (len*k)).map fun p=>(⟨zs⟩:Array Value)[p%(⟨zs⟩:Array Value).size]!):=by
 have hzl:zs.length=k:=by rw[<-hk];exact A7.len (B:=fun _=>none) (β:=fun _=>⟨none,0,0⟩) (Ao.rep _ _ hz) (CE hl)
 refine⟨RQ z len,by simp,fun i hi j hj=> ?_⟩
 have hij:i*k+j<len*k:=by
  have:i*k+k<=len*k:=by rw[<-Nat.succ_mul];exact Nat.mul_le_mul_right k hi
  omega
 rw[Im z len i hi]
 obtain⟨y,hy,hr⟩:=A7.get1 (B:=fun _=>none) (β:=fun _=>⟨none,0,0⟩) (Ao.rep _ _ hz) j (by omega)
 refine⟨y,?_,FX (B:=fun _=>none) (β:=fun _=>⟨none,0,0⟩) _ _ ho (Ao.rep _ _ hz) (CE hl) y (List.mem_of_getElem? hy),?_⟩
 ·have hm:(i*k+j)%k=j:=by rw[Nat.add_comm,Nat.add_mul_mod_self_right];exact Nat.mod_eq_of_lt hj
  simp[hij,hzl,hm,hy]
 obtain⟨y',hy',hr'⟩:∃y',zs[j]?=some y'/\Ao w A (Az z j) y':=by
  have:∀(l:Ad) (zs:List Value) (j:Nat),Ao w A l (.tuple ⟨zs⟩)->j<Bb l->∃y',zs[j]?=some y'/\Ao w A (Az l j) y':=by
   intro l;induction l with
   |cons a t _ ih=>
    intro zs j h hj
    obtain⟨y,ys,he,h1,h2⟩:=h
    have:zs=y::ys:=by simpa using he
    subst this
    cases j with
    |zero=>exact⟨y,rfl,h1⟩
    |succ j=>obtain⟨y',e,hr⟩:=ih ys j h2 (by simpa[Bb]using hj);exact⟨y',by simpa using e,hr⟩
   |_=>intro zs j _ hj;simp[Bb]at hj
  exact this z zs j hz (by omega)
 rw[hy]at hy';cases hy';exact hr'
theorem T5:∀{r:List (Nat×Bf)},FF E fr k len r->EU E fr k len r/\∀p∈r,A4 (cellsOf (ev E fr p.2))=true:=by
 intro r;induction r with
 |nil=>intro _;exact⟨trivial,fun p hp=>by cases hp⟩
 |cons q r ih=>
  rintro⟨h1,h2,h3,h4,h5⟩
  obtain⟨h6,h7⟩:=ih h5
  refine⟨⟨h1,h3,h4,h6⟩,fun p hp=> ?_⟩
  rcases List.mem_cons.1 hp with rfl|hp
  ·cases hv:ev E fr p.2<;>rw[hv]at h2<;>simp_all[cellsOf,A4]
  exact h7 p hp
theorem KS:∀(l:Ad) (j:Nat),A4 l=true->A4 (Az l j)=true:=by
 intro l;induction l with
 |cons a b _ ih=>intro j hb;simp only[A4,Bool.and_eq_true]at hb;cases j with
  |zero=>exact hb.1
  |succ j=>exact ih j hb.2
 |_=>intro j hb;cases j<;>rfl
theorem Ur{t e:TypeId}{z:Ad}{parts:Array (Nat×Operand)}{r:List (Nat×Bf)}{N:Nat}(hm:Fp P A0 w0 β B N w)(hB:B nx=none)(ho:o.op= .buildSlice t len parts)(ht:P.underlying t=some (.slice e))(hz:DX P e=some (k,z))
  (hlen:len*k<=16777216) (hr:Ip parts.toList=some r) (hx:∀p∈parts.toList,I0 E A0 w0 β B w fr a p.2) (hp:(AF E fr bx nx (.bsl e k len z r)).pre):AE P A0 w0 β B nx w a o (AF E fr bx nx (.bsl e k len z r)):=by
 obtain⟨v,h1,h2,h3,h4,h5⟩:=Gl hz w (Al A0 w0 B β)
 obtain⟨inf,hinf,hsz⟩:∃i,P.info? e=some i/\i.size=k:=by obtain⟨i,v',q1,q2,q3,q4,q5⟩:=DL hz;exact⟨i,q1,q3⟩
 have h6:(sizeOf e).run P w= .ok k w:=by simp[sizeOf,typeInfo,hinf,hsz]
 have hmap:(parts.map fun p=>(p.1,a.eval p.2)).toList=parts.toList.map fun p=>(p.1,a.eval p.2):=by simp
 have hrun:∀us,0<k->Instr.fill (fun i=>some (i*k,k)) ⟨(List.range (len*k)).map fun p=>(⟨v.cells.toList⟩:Array Value)[p%(⟨v.cells.toList⟩:Array Value).size]!⟩ (parts.toList.map fun p=>(p.1,a.eval p.2))=some ⟨us⟩->
   (execOp a.eval o).run P w= .ok (.value (.slice (some ⟨w.heap.size,0,none⟩) len len)) (w.alloc (.cells ⟨us⟩ e)):=by
  intro us hp4 hu1
  have hbig:¬(len*k>2^24):=by omega
  have hcells:∀(Z:Array Value),Z=v.cells\/len*k=0->Instr.fill (fun i=>some (i*k,k)) ((Array.range (len*k)).map (Z[· %Z.size]!)) (parts.map fun p=>(p.1,a.eval p.2)).toList=some ⟨us⟩:=by
   intro Z hZ
   rw[hmap,<-hu1]
   congr 1
   rcases hZ with rfl|h0
   ·apply Array.toList_inj.1;simp
   apply Array.toList_inj.1;simp[h0]
  simp only[execOp,ho,Instr.buildSlice,Sem.run_bind,run_underlying ht,Result.andThen_ok,h6]
  rw[if_neg hbig]
  simp only[Sem.run_pure,Result.andThen_ok,Sem.run_ite,Sem.run_bind]
  by_cases h0:len*k=0
  ·simp only[h0,if_true,Result.andThen_ok]
   have:=hcells #[] (.inr h0)
   simp only[h0]at this
   rw[show(fun(x:Nat×Operand)=>match x with|(i,x)=>(i,a.eval x))=fun p=>(p.1,a.eval p.2)from rfl]
   simp only[this,newRow,Sem.run_bind,run_newObj,Result.andThen_ok,Sem.run_pure]
   rfl
  simp only[h0,if_false,h1,Result.andThen_ok,Sem.run_pure]
  have:=hcells v.cells (.inl rfl)
  rw[show(fun(x:Nat×Operand)=>match x with|(i,x)=>(i,a.eval x))=fun p=>(p.1,a.eval p.2)from rfl]
  simp only[this,newRow,Sem.run_bind,run_newObj,Result.andThen_ok,Sem.run_pure]
  rfl
 cases hN:E.N e with
 |false=>
  simp only[AF,hN]at hp⊢
  obtain⟨hp1,hp2,hp2',hp3,hp4,hp5⟩:=hp
  obtain⟨hok,hpc⟩:=T5 hp5
  obtain⟨us,hu1,hu2⟩:=NM (E:=E) (fr:=fr) (a:=a) parts.toList r _ _ (fun p hp j _ y hr=>A7.pure _ _ (KS _ j (hpc p hp)) hr) (Gy (len:=len) h3 hp1 hp2' hp3 hp4) hx (Ix _ _ hr) hok
  have hlm:len<=maxLen:=by unfold maxLen;have:len*1<=len*k:=Nat.mul_le_mul_left _ hp4;omega
  exact⟨_,_,_,hrun us hp4 hu1,CD.newRow hm hB hp4 hlm hu2.2.1 hu2.2.2,⟨e,k,len,_,by simp[Dc];rfl,rfl⟩,by rw[Aq];rfl⟩
 |true=>
  simp only[AF,hN]at hp⊢
  obtain⟨hp1,hp2,hp2',hp3,hp4,hp5,_⟩:=hp
  have hz0:=Gy (len:=len) h3 hp1 hp2' hp3 hp4
  obtain⟨us,hu1,hu2⟩:=NM (E:=E) (fr:=fr) (a:=a) parts.toList r _ _ (fun p hp j _ y hr=>hr) ⟨hz0.1,hz0.2.1,fun i hi j hj=>by obtain⟨y,q1,q2,q3⟩:=hz0.2.2 i hi j hj;exact⟨y,q1,q2,Ao.rep _ _ q3⟩⟩ hx (Ix _ _ hr) hp5
  have hlm:len<=maxLen:=by unfold maxLen;have:len*1<=len*k:=Nat.mul_le_mul_left _ hp4;omega
  exact⟨_,_,_,hrun us hp4 hu1,CD.newRowN hm hB hp4 hlm hu2.2.1 hu2.2.2,⟨e,k,len,_,by simp[Dc];rfl,rfl⟩,by rw[Aq];rfl⟩
end Go.Proofs.YtlieoghhkioflaaGreat
/- The engine,part 11: make,slices cut,calls of functions that have a spec. No condition. -/
namespace Go.Proofs.YtlieoghhkioflaaGreat
open Go Go.RowKit
variable{next:Act->World->Prop}{Q:Exit->Act->World->Prop}{N k n:Nat}{ox:Bf}{x:Operand}{ro:Option Nat}{e t:TypeId}{w1:World}
variable{P:Program}{E:Db}{A0:Nat->Prop}{w0:AW}{β:Bn->CK}{B:Br}{nx:Nat}{w:World}{a:Act}{o:Oper}{fr:Fr}{bx:Bx}
theorem SU{y:Operand}{oy:Bf}{bytes:Nat}{z:Ad}{inf:TypeInfo}(hm:Fp P A0 w0 β B N w)(hB:B nx=none)(ho:o.op= .makeSlice t x y)(ht:P.underlying t=some (.slice e))(hz:DX P e=some (k,z))(hi:P.info? e=some inf)(hby:inf.bytes=bytes)
  (hx:Ar A0 w0 β B w (ev E fr ox) (a.eval x)) (hy:Ar A0 w0 β B w (ev E fr oy) (a.eval y)) (hp:(AF E fr bx nx (.mks e k bytes z ox oy)).pre):AE P A0 w0 β B nx w a o (AF E fr bx nx (.mks e k bytes z ox oy)):=by
 cases hv:ev E fr ox<;>cases hu:ev E fr oy<;>simp only[AF,hv,hu]at hp hx hy⊢ <;>first|exact hp.elim|skip
 rename_i ka n kb n'
 obtain⟨hp1,hp2,hp3,hp4,hp5,rfl,hp6,hp7,hp8⟩:=hp
 have e1:a.eval x= .int ka n:=hx
 have e2:a.eval y= .int kb n:=hy
 obtain⟨i,v,q1,q2,q3,q4,q5⟩:=DL hz
 rw[hi]at q1;cases q1
 have hr:=I8 (w:=w) (A:=Al A0 w0 B β) (fun v u h=>Hx h w _) _ _ q5
 have hmk:=run_make (P:=P) w t e inf v ht hi q2 ka kb n n hp6 (Int.le_refl _) (by rw[hby,Int.mul_comm];omega) (by omega)
 have hrows:=Gy (len:=n.toNat) hr hp1 hp3 hp4 hp5
 refine⟨.slice (some ⟨w.heap.size,0,none⟩) n.toNat n.toNat,w.alloc (.cells (madeCells v.cells (n.toNat*inf.size)) e),BL β nx ⟨some w.heap.size,n.toNat,n.toNat⟩,?_,?_,?_⟩
 ·simp only[execOp,ho,e1,e2,Sem.run_bind,hmk,Result.andThen_ok,Sem.run_pure]
 ·have hcells:madeCells v.cells (n.toNat*inf.size)=⟨(List.range (n.toNat*k)).map fun p=>(⟨v.cells.toList⟩:Array Value)[p%(⟨v.cells.toList⟩:Array Value).size]!⟩:=by
   rw[q3];apply Array.toList_inj.1;simp[madeCells]
  rw[hcells]
  refine CD.newRow hm hB hp5 (by unfold maxLen;omega) hrows.2.1 fun i hi j hj=> ?_
  obtain⟨y,h1,h2,h3⟩:=hrows.2.2 i hi j hj
  rw[Im z _ i hi]at h3
  exact⟨y,h1,h2,h3⟩
 exact⟨⟨e,k,n.toNat,_,by simp[Dc];rfl,rfl⟩,by rw[Aq];rfl⟩
theorem JL{x:Option Operand}{ox:Option Bf}{d z:Int}(h:Gi x=some ox)(hx:∀y,x=some y->I0 E A0 w0 β B w fr a y)(hz:B7 E fr d ox=some z):
  (x=none/\z=d)\/∃y k,x=some y/\a.eval y= .int k z:=by
 cases x with
 |none=>simp[Gi]at h;subst h;simp[B7]at hz;exact .inl ⟨rfl,hz.symm⟩
 |some y=>
  obtain⟨oy,h1,rfl⟩:=Option.map_eq_some_iff.1 h
  right
  have:=hx y rfl oy h1
  simp only[B7]at hz
  split at hz
  ·rename_i k z' he
   simp at hz;subst hz
   rw[he]at this
   exact⟨y,k,rfl,this⟩
  cases hz
theorem U3{lo hi:Option Operand}{ol oh:Option Bf}{cap:Nat}{ad:Option Addr}{l h:Int}(ho:o.op= .slice t x lo hi none)(ht:P.underlying t=some (.slice e))(hk:BN P e=some k)(hol:Gi lo=some ol)(hoh:Gi hi=some oh)
  (hl:∀y,lo=some y->I0 E A0 w0 β B w fr a y) (hh:∀y,hi=some y->I0 E A0 w0 β B w fr a y) (he:a.eval x= .slice ad n cap) (h1:B7 E fr 0 ol=some l) (h2:B7 E fr n oh=some h) (hl0:0<=l) (hlh:l<=h) (hhn:h<=n) (hnc:n<=cap):
  (execOp a.eval o).run P w= .ok (.value (sliced ad l.toNat h.toNat cap k)) w:=by
 obtain⟨inf,hinf,hn⟩:=Option.map_eq_some_iff.1 hk
 have hels:P.elem t=e:=by simp[Program.elem,ht]
 have hs:(sizeOf (P.elem t)).run P w= .ok k w:=by simp[hels,sizeOf,typeInfo,hinf,hn]
 have ht':P.underlying t=some (.slice (P.elem t)):=by rw[hels];exact ht
 have hgo:∀lo' hi',lo.map a.eval=lo'->hi.map a.eval=hi'->(Instr.slice t (.slice ad n cap) lo' hi' none).run P w= .ok (sliced ad l.toNat h.toNat cap k) w->(execOp a.eval o).run P w= .ok (.value (sliced ad l.toNat h.toNat cap k)) w:=by
  intro lo' hi' e1 e2 e3
  simp[execOp,ho,he,e1,e2,Instr.sliceAt,run_underlying ht,e3]
 rcases JL hol hl h1 with⟨rfl,rfl⟩|⟨y,kl,rfl,ey⟩<;>rcases JL hoh hh h2 with⟨rfl,rfl⟩|⟨y2,kh,rfl,ey2⟩
 ·refine hgo none none rfl rfl ?_
  rw[run_slice_all (P:=P) w t ad n cap ht',hs];simp
 ·refine hgo none (some (.int kh h)) rfl (by simp[ey2]) ?_
  rw[run_slice_h (P:=P) w t ad n cap ht' kh h (by omega) (by omega),hs];simp
 ·refine hgo (some (.int kl l)) none (by simp[ey]) rfl ?_
  rw[run_slice_l (P:=P) w t ad n cap ht' kl l hl0 (by omega),hs];simp
 refine hgo (some (.int kl l)) (some (.int kh h)) (by simp[ey]) (by simp[ey2]) ?_
 rw[run_slice_lh (P:=P) w t ad n cap ht' kl kh l h hl0 hlh (by omega),hs];simp
theorem VY{lo hi:Option Operand}{ol oh:Option Bf}(hm:Fp P A0 w0 β B N w)(hbx:∀b c,B b=some c->Ab bx b=some c)(ho:o.op= .slice t x lo hi none)(ht:P.underlying t=some (.slice e))(hk:BN P e=some k)(hol:Gi lo=some ol)(hoh:Gi hi=some oh)
  (hx:Ar A0 w0 β B w (ev E fr ox) (a.eval x)) (hl:∀y,lo=some y->I0 E A0 w0 β B w fr a y) (hh:∀y,hi=some y->I0 E A0 w0 β B w fr a y) (hp:(AF E fr bx nx (.sl k ox ol oh)).pre):AE P A0 w0 β B nx w a o (AF E fr bx nx (.sl k ox ol oh)):=by
 have vw:∀(b:Bn) (off n k':Nat) (l h:Int),(∃e k m,JB B b e k m/\off+n<=m/\k=k'/\∃ad cap,a.eval x= .slice ad n cap/\n<=cap/\YB (β b) ad off n k cap)->B7 E fr 0 ol=some l->B7 E fr n oh=some h->k=k'->0<=l->l<=h->h<=n->AE P A0 w0 β B nx w a o ⟨True,.osl b (off+l.toNat) (h-l).toNat,none⟩:=by
  rintro b off n k' l h ⟨e0,k0,m,hrb,hm1,rfl,ad,cap,he,hnc,ha⟩ h1 h2 rfl hl0 hlh hhn
  refine AE.plain rfl (U3 (A0:=A0) (w0:=w0) (β:=β) (B:=B) ho ht hk hol hoh hl hh he h1 h2 hl0 hlh hhn hnc) ⟨e0,k,m,hrb,by omega,_,cap-l.toNat,by rw[sliced,show(h-l).toNat=h.toNat-l.toNat from by omega],by omega,fun h0=> ?_,fun h0=> ?_⟩
  ·obtain⟨g,hg,rfl⟩:=ha.1 (by omega)
   refine⟨g,hg,?_⟩
   have:¬cap=l.toNat:=by omega
   simp[this,add_lit,Nat.add_mul]
  obtain⟨rfl,rfl⟩:=ha.2 (by omega)
  have hl':l.toNat=0:=by omega
  refine⟨?_,by omega⟩
  rw[hl',Nat.zero_mul]
  split
  ·rfl
  cases(β b).a<;>simp[add_lit]
 have own:∀(b:Bn),Ar A0 w0 β B w (.own b) (a.eval x)->∀c n,B b=some c->(∃e k,Kd c=some (e,k,n))->∃e k m,JB B b e k m/\0+n<=m/\Kd c=some (e,k,n)/\∃ad cap,a.eval x= .slice ad n cap/\n<=cap/\YB (β b) ad 0 n k cap:=by
  rintro b ⟨_,he⟩ c n hb ⟨e1,k1,hc⟩
  have hrow:(β b).n=n/\∃xs,w.ownsRow 0 e1 k1 (.slice ((β b).a.map fun g=>⟨g,0,none⟩) n (β b).cap) n xs:=by
   have hbo:=hm.bx b c hb
   cases c<;>simp[Kd]at hc
   ·obtain⟨rfl,rfl,rfl⟩:=hc
    obtain⟨p1,_,_,xs,p2,_⟩:=hbo
    exact⟨p1,xs,p2⟩
   obtain⟨rfl,rfl,rfl⟩:=hc
   obtain⟨p1,_,_,xs,p2,_⟩:=hbo
   exact⟨p1,xs,p2⟩
  obtain⟨hn,xs,hxl,how⟩:=hrow
  rw[hn]at he
  refine⟨e1,k1,n,⟨c,hb,hc⟩,by omega,hc,_,_,he,?_,fun h0=> ?_,fun _=>⟨rfl,rfl⟩⟩
  ·rcases how with⟨_,q⟩|⟨g,cap,cur,q1,q2,q3,q4,_⟩
   ·omega
   simp at q1;omega
  rcases how with⟨_,q⟩|⟨g,cap,cur,q1,q2,q3,q4,_⟩
  ·omega
  cases hba:(β b).a with
  |none=>rw[hba]at q1;simp at q1
  |some g'=>exact⟨g',rfl,by simp⟩
 cases hv:ev E fr ox<;>simp only[AF,hv]at hp hx⊢ <;>first|exact hp.elim|skip
 ·rename_i k' n c
  cases h1:B7 E fr 0 ol<;>simp only[h1]at hp⊢ <;>first|exact hp.elim|skip
  rename_i l
  cases h2:B7 E fr n oh<;>simp only[h2]at hp⊢ <;>first|exact hp.elim|skip
  rename_i h
  obtain⟨rfl,hl0,hlh,hhn⟩:=hp
  obtain⟨ad,cap,he,hmx,hnc,hc⟩:=hx
  have hpos:0<(h-l).toNat->0<n/\¬cap=l.toNat/\∀i,i<(h-l).toNat->l.toNat+i<n:=by
   intro h0
   exact⟨by omega,by omega,fun i hi=>by omega⟩
  refine AE.plain rfl (U3 (A0:=A0) (w0:=w0) (β:=β) (B:=B) ho ht hk hol hoh hl hh he h1 h2 hl0 hlh hhn hnc) ⟨_,cap-l.toNat,by rw[sliced,show(h-l).toNat=h.toNat-l.toNat from by omega],by omega,by omega,fun h0=> ?_⟩
  obtain⟨hn0,hne,hin⟩:=hpos h0
  obtain⟨g,off,rfl,hg,hA,hcell⟩:=hc hn0
  refine⟨g,off+l.toNat*k,by simp[hne,add_lit],hg,hA,fun i hi j hj=> ?_⟩
  obtain⟨y,hy,ho1,hr⟩:=hcell (l.toNat+i) (hin i hi) j hj
  refine⟨y,?_,ho1,hr⟩
  rw[show off+l.toNat*k+i*k+j=off+(l.toNat+i)*k+j from by rw[Nat.add_mul];omega]
  exact hy
 ·rename_i b
  have hx0:=hx
  obtain⟨⟨e',k',n,hl0⟩,he⟩:=hx
  rcases hl0.cases with⟨c,hb⟩|⟨c,hb⟩
  all_goals
   simp only[hbx b _ hb]at hp⊢
   cases h1:B7 E fr 0 ol<;>simp only[h1]at hp⊢ <;>first|exact hp.elim|skip
   rename_i l
   cases h2:B7 E fr n oh<;>simp only[h2]at hp⊢ <;>first|exact hp.elim|skip
   rename_i h
   obtain⟨rfl,hl0,hlh,hhn⟩:=hp
   obtain⟨e2,k2,m,q1,q2,q3,q4⟩:=own b hx0 _ n hb ⟨_,_,rfl⟩
   simp only[Kd,Option.some.injEq,Prod.mk.injEq]at q3
   have:=vw b 0 n k l h ⟨e2,k2,m,q1,q2,q3.2.1.symm,q4⟩ h1 h2 rfl hl0 hlh hhn
   rw[Nat.zero_add]at this
   obtain⟨x1,w1,β1,r1,r2,r3⟩:=this
   exact⟨x1,w1,β1,r1,r2,r3⟩
 rename_i b off n
 obtain⟨e',k',M,hl0,hoff,ad,cap,he,hcap,ha⟩:=hx
 rcases hl0.cases with⟨c,hb⟩|⟨c,hb⟩
 all_goals
  simp only[hbx b _ hb]at hp⊢
  cases h1:B7 E fr 0 ol<;>simp only[h1]at hp⊢ <;>first|exact hp.elim|skip
  rename_i l
  cases h2:B7 E fr n oh<;>simp only[h2]at hp⊢ <;>first|exact hp.elim|skip
  rename_i h
  obtain⟨rfl,hl1,hlh,hhn⟩:=hp
  obtain⟨x1,w1,β1,r1,r2,r3⟩:=vw b off n k l h ⟨e',k,M,hl0,hoff,rfl,ad,cap,he,hcap,ha⟩ h1 h2 rfl hl1 hlh hhn
  exact⟨x1,w1,β1,r1,r2,r3⟩
theorem R1{hi mx:Operand}{oh om:Bf}(ho:o.op= .slice t x none (some hi) (some mx))(ht:P.underlying t=some (.slice e))(hk:BN P e=some k)
  (hx:Ar A0 w0 β B w (ev E fr ox) (a.eval x)) (hh:Ar A0 w0 β B w (ev E fr oh) (a.eval hi)) (hmx:Ar A0 w0 β B w (ev E fr om) (a.eval mx)) (hp:(AF E fr bx nx (.clip k ox oh om)).pre):AE P A0 w0 β B nx w a o (AF E fr bx nx (.clip k ox oh om)):=by
 obtain⟨inf,hinf,hn⟩:=Option.map_eq_some_iff.1 hk
 have key:∀(ad:Option Addr) (n cap:Nat) (kh km:IntKind) (h:Int),a.eval x= .slice ad n cap->a.eval hi= .int kh h->a.eval mx= .int km h->0<=h->h<=n->n<=cap->(execOp a.eval o).run P w= .ok (.value (.slice (if h.toNat=0 then ad else ad.map fun x=>x.add (0*k)) h.toNat h.toNat)) w:=by
  intro ad n cap kh km h e1 e2 e3 h0 h1 h2
  have hbd:(Instr.sliceBounds true n cap none (some (.int kh h)) (some (.int km h))).run P w= .ok (0,h.toNat,h.toNat) w:=by
   simp[Instr.sliceBounds,run_sliceBound (P:=P) w km h cap .slice3Acap h0 (by omega),run_sliceBound (P:=P) w kh h h.toNat .slice3B h0 (by omega)]
  simp[execOp,ho,e1,e2,e3,Instr.sliceAt,Instr.slice,run_underlying ht,hbd,sizeOf,typeInfo,hinf,hn]
 simp only[AF]at hp⊢
 generalize ev E fr ox=vx at*
 generalize ev E fr oh=vh at*
 generalize ev E fr om=vm at*
 split at hp
 ·rename_i k' n c kh h km m
  obtain⟨rfl,rfl,h0,h1⟩:=hp
  obtain⟨ad,cap,he,hmxl,hnc,hc⟩:=hx
  refine AE.plain rfl (key ad n cap kh km h he hh hmx h0 h1 hnc) ⟨_,rfl,by omega,fun h2=> ?_⟩
  rw[if_neg (by omega)]
  obtain⟨g,off,rfl,q2,q3,q4⟩:=hc (by omega)
  exact⟨g,off,by simp[Addr.add],q2,q3,fun i hi j hj=>q4 i (by omega) j hj⟩
 ·rename_i kh h km m
  obtain⟨rfl,rfl⟩:=hp
  exact AE.plain rfl (key none 0 0 kh km 0 hx hh hmx (by omega) (by omega) (by omega)) rfl
 exact hp.elim
theorem Ub{k0:IntKind}(ho:o.op= .makeInterface t x)(ht:P.underlying t=some (.int k0))(hx:Ar A0 w0 β B w (ev E fr ox) (a.eval x))(hp:(AF E fr bx nx (.mif t ox)).pre):AE P A0 w0 β B nx w a o (AF E fr bx nx (.mif t ox)):=by
 cases hv:ev E fr ox<;>simp only[AF,hv]at hp hx⊢ <;>first|exact hp.elim|skip
 rename_i k n
 have e:a.eval x= .int k n:=hx
 exact AE.plain rfl (x:= .iface t (.int k n)) (by simp[execOp,ho,e,Instr.makeInterface,run_underlying ht]) rfl
def Zf(A0:Nat->Prop)(w0:AW)(B:Br)(β:Bn->CK)(g:Nat):Prop:=Al A0 w0 B β g\/∃b c,B b=some c/\(β b).a=some g
def R0(A0:Nat->Prop)(w0:AW)(B:Br)(β:Bn->CK)(D:Bn->Prop)(g:Nat):Prop:=Al A0 w0 B β g\/∃b c,D b/\B b=some c/\(β b).a=some g
theorem Ao.weak{w:World}{A A':Nat->Prop}(h:∀g,g<w.heap.size->A g->A' g){v:Ad}{x:Value}(hr:Ao w A v x):Ao w A' v x:=
 Ao.mono (Nat.le_refl _) (fun g hg hA=>⟨h g hg hA,rfl⟩) v x hr
theorem Ld{D:Bn->Prop}(hm:Fp P A0 w0 β B N w)(hbx:∀b c,B b=some c->(Ab bx b=some c/\D b)\/Ab bx b=none):∀(d:Nat) (v:Ad) (x:Value),An bx d v=true->Ar A0 w0 β B w v x->Ao w (R0 A0 w0 B β D) (Ay bx d v) x:=by
 have hw:∀{v x},HV A0 w0 β B w v x->Ao w (R0 A0 w0 B β D) v x:=fun hr=>Ao.weak (fun g _ h=> .inl h) hr
 intro d
 induction d with
 |zero=>
  intro v
  induction v with
  |cons h t ih1 ih2=>rintro x hs ⟨y,ys,rfl,h1,h2⟩;simp only[Ay];exact⟨y,ys,rfl,ih1 y (by simp only[An]) h1,ih2 _ (by simp only[An]) h2⟩
  |agg l ih=>rintro x hs ⟨ys,rfl,h⟩;simp only[Ay];exact⟨ys,rfl,ih _ (by simp only[An]) h⟩
  |tup l ih=>rintro x hs ⟨ys,rfl,h⟩;simp only[Ay];exact⟨ys,rfl,ih _ (by simp only[An]) h⟩
  |func fn l ih=>rintro x hs ⟨ys,rfl,h⟩;simp only[Ay];exact⟨ys,rfl,ih _ (by simp only[An]) h⟩
  |own b=>intro x _ _;simp only[Ay];trivial
  |ptr b o=>intro x _ _;simp only[Ay];trivial
  |rptr b i o=>intro x _ _;simp only[Ay];trivial
  |mapb b=>intro x _ _;simp only[Ay];trivial
  |yld b=>intro x _ _;simp only[Ay];trivial
  |osl b off n=>intro x _ _;simp only[Ay];trivial
  |und=>intro x _ h;simp only[Ay];exact h
  |nil=>intro x _ h;simp only[Ay];exact h
  |_=>intro x _ h;simp only[Ay];exact hw h
 |succ d ihd=>
  intro v
  induction v with
  |cons h t ih1 ih2=>
   rintro x hs ⟨y,ys,rfl,h1,h2⟩
   simp only[An,Bool.and_eq_true]at hs
   simp only[Ay]
   exact⟨y,ys,rfl,ih1 y hs.1 h1,ih2 _ hs.2 h2⟩
  |agg l ih=>rintro x hs ⟨ys,rfl,h⟩;simp only[An]at hs;simp only[Ay];exact⟨ys,rfl,ih _ hs h⟩
  |tup l ih=>rintro x hs ⟨ys,rfl,h⟩;simp only[An]at hs;simp only[Ay];exact⟨ys,rfl,ih _ hs h⟩
  |func fn l ih=>rintro x hs ⟨ys,rfl,h⟩;simp only[An]at hs;simp only[Ay];exact⟨ys,rfl,ih _ hs h⟩
  |own b=>
   rintro x hs ⟨⟨e,k,n,hl⟩,rfl⟩
   rcases hl.cases with⟨c,hl⟩|⟨c,hl⟩
   ·obtain⟨hbb,hD⟩|hbb:=hbx b _ hl
    case inr=>simp[An,hbb]at hs
    simp only[Ay,hbb]
    obtain⟨hn,hk,hmax,xs,⟨hxl,how⟩,hc⟩:=hm.bx b _ hl
    rw[hn]
    rcases how with⟨e0,hn0⟩|⟨g,cap,cur,e1,e2,e3,e4,e5,e6,e7⟩
    ·have hcap:n<=(β b).cap:=by omega
     exact⟨_,_,rfl,hmax,hcap,fun h=>by omega⟩
    have hg:(β b).a=some g:=by
     cases ha:(β b).a with
     |none=>simp[ha]at e1
     |some g'=>simp[ha]at e1;rw[e1.1]
    have hcap:(β b).cap=cap:=by simp at e1;exact e1.2
    refine⟨_,_,rfl,hmax,by rw[hcap];exact e4,fun h0=>⟨g,0,by simp[hg],(hm.base b _ g hl hg).2,.inr ⟨b,_,hD,hl,hg⟩,fun i hi j hj=> ?_⟩⟩
    obtain⟨y,hy,ho1,hr⟩:=hc i hi j hj
    refine⟨y,?_,ho1,hw hr⟩
    rw[Nat.zero_add,<-hy,<-e7]
    have hik:i*k+k<=n*k:=by rw[<-Nat.succ_mul];exact Nat.mul_le_mul_right k hi
    rw[List.getElem?_take_of_lt (by omega)]
    simp[World.cell?,e3]
   obtain⟨hbb,hD⟩|hbb:=hbx b _ hl
   case inr=>simp[An,hbb]at hs
   simp only[An,hbb]at hs
   have hs:= @of_decide_eq_true _ (Classical.propDecidable _) hs
   simp only[Ay,hbb]
   obtain⟨hn,hk,hmax,xs,⟨hxl,how⟩,hc⟩:=hm.bx b _ hl
   rw[hn]
   rcases how with⟨e0,hn0⟩|⟨g,cap,cur,e1,e2,e3,e4,e5,e6,e7⟩
   ·have hcap:n<=(β b).cap:=by omega
    exact⟨_,_,rfl,hmax,hcap,fun h=>by omega⟩
   have hg:(β b).a=some g:=by
    cases ha:(β b).a with
    |none=>simp[ha]at e1
    |some g'=>simp[ha]at e1;rw[e1.1]
   have hcap:(β b).cap=cap:=by simp at e1;exact e1.2
   refine⟨_,_,rfl,hmax,by rw[hcap];exact e4,fun h0=>⟨g,0,by simp[hg],(hm.base b _ g hl hg).2,.inr ⟨b,_,hD,hl,hg⟩,fun i hi j hj=> ?_⟩⟩
   obtain⟨y,hy,ho1,hr⟩:=hc i hi j hj
   have hij:decide (i<n/\j<k)=true:=decide_eq_true ⟨hi,hj⟩
   refine⟨y,?_,ho1,by show Ao w _ (EG (decide (i<n/\j<k)) _ _) y;rw[hij];exact ihd _ y (hs i hi j hj) hr⟩
   rw[Nat.zero_add,<-hy,<-e7]
   have hik:i*k+k<=n*k:=by rw[<-Nat.succ_mul];exact Nat.mul_le_mul_right k hi
   rw[List.getElem?_take_of_lt (by omega)]
   simp[World.cell?,e3]
  |ptr b off=>
   rintro x hs ⟨⟨l0,hl0,hpb⟩,g,hg,rfl⟩
   obtain⟨l,hl⟩:∃l,B b=some (.cells l):=by
    cases l0 with
    |cells l=>exact⟨l,hl0⟩
    |it=>obtain⟨hbb,_⟩|hbb:=hbx b _ hl0<;>simp[An,hbb]at hs
    |wc=>obtain⟨hbb,_⟩|hbb:=hbx b _ hl0<;>simp[An,hbb]at hs
    |_=>simp[ptrB]at hpb
   obtain⟨hbb,hD⟩|hbb:=hbx b _ hl
   case inr=>simp[An,hbb]at hs
   simp only[An,hbb]at hs
   simp only[Ay,hbb]
   obtain⟨hlb,g',ys,t',h2,h3,h4⟩:=hm.bx b _ hl
   rw[hg]at h2;cases h2
   have hsn:=ihd l (.tuple ⟨ys⟩) hs h4
   refine⟨g,off,rfl,(hm.base b _ g hl hg).2,.inr ⟨b,_,hD,hl,hg⟩,fun j hj=> ?_⟩
   have hlen:∀(l:Ad),BA l=true->Bb (Ay bx d l)=Bb l:=by
    intro l;induction l with
    |cons a t _ ih=>intro hb;cases d<;>(simp[Ay,Bb];exact ih hb)
    |nil=>intro _;cases d<;>simp[Ay]
    |_=>intro hb;simp[BA]at hb
   obtain⟨y,hy,hr⟩:=A7.get1 (B:=fun _=>none) (β:=fun _=>⟨none,0,0⟩) (Ao.rep _ _ hsn) (off+j) (by rw[hlen l hlb];omega)
   refine⟨y,by rw[DD h3];exact hy,?_⟩
   have:∀(l:Ad) (zs:List Value) (j:Nat),Ao w (R0 A0 w0 B β D) l (.tuple ⟨zs⟩)->j<Bb l->∃y',zs[j]?=some y'/\Ao w (R0 A0 w0 B β D) (Az l j) y':=by
    intro l;induction l with
    |cons a t _ ih=>
     intro zs j h hj
     obtain⟨y,ys,he,h1,h2⟩:=h
     have:zs=y::ys:=by simpa using he
     subst this
     cases j with
     |zero=>exact⟨y,rfl,h1⟩
     |succ j=>obtain⟨y',e,hr⟩:=ih ys j h2 (by simpa[Bb]using hj);exact⟨y',by simpa using e,hr⟩
    |_=>intro zs j _ hj;simp[Bb]at hj
   obtain⟨y',hy',hr'⟩:=this _ _ (off+j) hsn (by rw[hlen l hlb];omega)
   rw[hy]at hy';cases hy';exact hr'
  |rptr b i off=>
   rintro x hs ⟨e,k,n,hl,hi,g,hg,rfl⟩
   obtain⟨c,hl⟩:∃c,B b=some (.row e k n c):=by
    rcases hl.cases with h|⟨c,hl⟩
    ·exact h
    obtain⟨hbb,_⟩|hbb:=hbx b _ hl<;>simp[An,hbb]at hs
   obtain⟨hbb,hD⟩|hbb:=hbx b _ hl
   case inr=>simp[An,hbb]at hs
   simp only[Ay,hbb]
   obtain⟨hn,hk,hmax,xs,⟨hxl,how⟩,hc⟩:=hm.bx b _ hl
   refine⟨g,_,rfl,(hm.base b _ g hl hg).2,.inr ⟨b,_,hD,hl,hg⟩,fun j hj=> ?_⟩
   obtain⟨y,hy,ho1,hr⟩:=hc i hi (off+j) (by omega)
   refine⟨y,?_,hw hr⟩
   have hik:i*k+k<=n*k:=by rw[<-Nat.succ_mul];exact Nat.mul_le_mul_right k hi
   rcases how with⟨e0,hn0⟩|⟨g',cap,cur,e1,e2,e3,e4,e5,e6,e7⟩
   ·omega
   rw[hg]at e1
   simp at e1
   rw[<-e1.1]at e3
   rw[<-hy,<-e7,List.getElem?_take_of_lt (by omega)]
   simp[World.cell?,e3,Nat.add_assoc]
  |mapb b=>
   rintro x hs ⟨⟨kd,hl⟩,g,hg,rfl⟩
   rcases hl.cases with⟨has,f,hl⟩|⟨f,hl⟩
   case inr=>
    obtain⟨hbb,_⟩|hbb:=hbx b _ hl
    ·simp only[Ay,hbb];trivial
    simp[An,hbb]at hs
   obtain⟨hbb,hD⟩|hbb:=hbx b _ hl
   case inr=>simp[An,hbb]at hs
   simp only[An,hbb]at hs
   simp only[Ay,hbb]
   have hs:= @of_decide_eq_true _ (Classical.propDecidable _) hs
   obtain⟨g',m,h1,h2,h3⟩:=hm.bx b _ hl
   rw[hg]at h1;cases h1
   refine⟨g,m,rfl,(hm.base b _ g hl hg).2,.inr ⟨b,_,hD,hl,hg⟩,h2.mapF,fun k=>⟨(h3 k).1,fun hk=> ?_⟩⟩
   obtain⟨y,hy,hr⟩:=(h3 k).2 hk
   exact⟨y,hy,by simp only[hk,EG];exact ihd (f k) y (hs k hk) hr⟩
  |yld b=>intro x hs;simp[An]at hs
  |osl b off m=>
   rintro x hs ⟨e,k,n,hl,hoff,ad,cap,rfl,hcap,ha⟩
   obtain⟨c,hl⟩:∃c,B b=some (.row e k n c):=by
    rcases hl.cases with h|⟨c,hl⟩
    ·exact h
    obtain⟨hbb,_⟩|hbb:=hbx b _ hl<;>simp[An,hbb]at hs
   obtain⟨hbb,hD⟩|hbb:=hbx b _ hl
   case inr=>simp[An,hbb]at hs
   simp only[Ay,hbb]
   obtain⟨hn,hk,hmax,xs,⟨hxl,how⟩,hc⟩:=hm.bx b _ hl
   refine⟨ad,cap,rfl,by omega,hcap,fun h0=> ?_⟩
   obtain⟨g,hg,rfl⟩:=ha.1 h0
   refine⟨g,_,rfl,(hm.base b _ g hl hg).2,.inr ⟨b,_,hD,hl,hg⟩,fun i hi j hj=> ?_⟩
   obtain⟨y,hy,ho1,hr⟩:=hc (off+i) (by omega) j hj
   refine⟨y,?_,ho1,hw hr⟩
   have hik:(off+i)*k+k<=n*k:=by rw[<-Nat.succ_mul];exact Nat.mul_le_mul_right k (by omega)
   rcases how with⟨e0,hn0⟩|⟨g',cap',cur,e1,e2,e3,e4,e5,e6,e7⟩
   ·omega
   rw[hg]at e1
   simp at e1
   rw[<-e1.1]at e3
   rw[<-hy,<-e7,List.getElem?_take_of_lt (by omega)]
   simp[World.cell?,e3,Nat.add_mul]
  |und=>intro x _ h;simp only[Ay];exact h
  |nil=>intro x _ h;simp only[Ay];exact h
  |_=>intro x _ h;simp only[Ay];exact hw h
theorem MH(hm:Fp P A0 w0 β B N w)(hbx:∀b c,B b=some c->Ab bx b=some c)(d:Nat)(v:Ad)(x:Value)(hs:An bx d v=true)(hr:Ar A0 w0 β B w v x):Ao w (Zf A0 w0 B β) (Ay bx d v) x:=
 Ao.weak (fun g _ h=>h.imp_right fun⟨b,c,_,h1,h2⟩=>⟨b,c,h1,h2⟩) (Ld (D:=fun _=>True) hm (fun b c hb=> .inl ⟨hbx b c hb,trivial⟩) d v x hs hr)
theorem Jw{w':World}{A A':Nat->Prop}:∀(v:Ad) (x:Value),DK v=true->Ao w A v x->Ao w' A' v x:=by
 intro v
 induction v with
 |cons h t ih1 ih2=>
  rintro x hf ⟨y,ys,rfl,h1,h2⟩
  simp only[DK,Bool.and_eq_true]at hf
  exact⟨y,ys,rfl,ih1 y hf.1 h1,ih2 _ hf.2 h2⟩
 |agg l ih=>rintro x hf ⟨ys,rfl,h⟩;exact⟨ys,rfl,ih _ hf h⟩
 |tup l ih=>rintro x hf ⟨ys,rfl,h⟩;exact⟨ys,rfl,ih _ hf h⟩
 |view k n c=>intro x hf;simp[DK]at hf
 |vptr m c=>intro x hf;simp[DK]at hf
 |func fn l ih=>intro x hf;simp[DK]at hf
 |ptr b off=>intro x hf;simp[DK]at hf
 |own b=>intro x hf;simp[DK]at hf
 |rptr b i off=>intro x hf;simp[DK]at hf
 |mapb b=>intro x hf;simp[DK]at hf
 |mview kd has f=>intro x hf;simp[DK]at hf
 |tv k n c=>intro x hf;simp[DK]at hf
 |osl b o n=>intro x hf;simp[DK]at hf
 |_=>intro x _ h;exact h
theorem KX{A:Nat->Prop}(s:Sh)(v:Ad)(x:Value)(h:Ao w A v x):Ao w A (Qp s v) x:=by
 cases s<;>cases v<;>first|exact h|skip
 have e:x= .slice none 0 0:=h
 subst e
 exact⟨none,0,rfl,by decide,Nat.le_refl _,fun h=>absurd h (Nat.lt_irrefl _)⟩
theorem Q5{A:Nat->Prop}:∀(s:List Sh) (v:Ad) (x:Value),Ao w A v x->Ao w A (Qi s v) x:=by
 intro s;induction s with
 |nil=>intro v x h;cases v<;>exact h
 |cons c s ih=>
  intro v x h
  cases v<;>first|exact h|skip
  obtain⟨y,ys,rfl,h1,h2⟩:=h
  exact⟨y,ys,rfl,KX c _ _ h1,ih _ _ h2⟩
theorem U0{A:Nat->Prop}(s:List Sh)(v:Ad)(x:Value)(h:Ao w A v x):Ao w A (Ul s v) x:=by
 unfold Ul
 split
 ·obtain⟨ys,rfl,h⟩:=h;exact⟨ys,rfl,Q5 _ _ _ h⟩
 ·exact KX _ _ _ h
 exact h
theorem Ee{A:Nat->Prop}:∀(args:List (List Sh×Bf)) (vs:List Ad) (x:Value),Ao w A (vl vs) x->Ao w A (vl (CZ args vs)) x:=by
 intro args;induction args with
 |nil=>intro vs x h;cases vs<;>exact h
 |cons p args ih=>
  intro vs x h
  cases vs with
  |nil=>exact h
  |cons v vs=>
   obtain⟨y,ys,rfl,h1,h2⟩:=h
   exact⟨y,ys,rfl,U0 _ _ _ h1,ih _ _ h2⟩
theorem Fb:∀(l:List Operand) (ts:List TypeId) (r:List (List Sh×Bf)),Fl P l ts=some r->(∀x∈l,I0 E A0 w0 β B w fr a x)->Ar A0 w0 β B w (vl (AQ E fr r)) (.tuple ⟨l.map a.eval⟩):=by
 intro l;induction l with
 |nil=>intro ts r h _;simp[Fl]at h;subst h;rfl
 |cons x l ih=>
  intro ts r h hx
  simp only[Fl]at h
  split at h
  ·rename_i ox r' h1 h2
   simp at h;subst h
   exact⟨_,_,rfl,hx x (by simp) ox h1,ih _ _ h2 fun y hy=>hx y (by simp[hy])⟩
  cases h
theorem HL:∀(v:Ad) (ys:List Value),BA v=true->Ar A0 w0 β B w v (.tuple ⟨ys⟩)->Ar A0 w0 β B w (vl (BK v)) (.tuple ⟨ys⟩):=by
 intro v;induction v with
 |nil=>intro ys _ h;exact h
 |cons h t ih1 ih2=>
  rintro ys hl ⟨y,zs,he,h1,h2⟩
  have:ys=y::zs:=by simpa using he
  subst this
  exact⟨y,zs,rfl,h1,ih2 zs hl h2⟩
 |_=>intro ys hl;simp[BA]at hl
theorem Jg:∀l,QU (vl l):=by intro l;induction l with|nil=>trivial|cons v l ih=>exact ih
theorem Md:∀(l r:List Ad),vl (l++r)=UD (vl l) (vl r):=by
 intro l r;induction l with
 |nil=>cases h:vl r<;>simp[vl,UD,h]
 |cons v l ih=>simp[vl,UD,ih]
theorem H1{A:Nat->Prop}:∀(l:List Ad) (x:Value),Er l=true->A7 w A B β (vl l) x->Ao w A (vl l) x:=by
 intro l x hp hr
 refine A7.pure _ _ ?_ hr
 induction l generalizing x with
 |nil=>rfl
 |cons v l ih=>
  simp only[Er,Bool.and_eq_true]at hp
  obtain⟨y,ys,rfl,h1,h2⟩:=hr
  simp only[vl,A4,Bool.and_eq_true]
  exact⟨hp.1,ih _ hp.2 h2⟩
theorem RX(hm:Fp P A0 w0 β B N w)(hbx:∀b c,B b=some c->Ab bx b=some c):∀(l:List Ad) (x:Value),BJ bx l=true->Ar A0 w0 β B w (vl l) x->Ao w (Zf A0 w0 B β) (vl (Ci bx l)) x:=by
 intro l;induction l with
 |nil=>intro x _ h;exact h
 |cons v l ih=>
  rintro x hs ⟨y,ys,rfl,h1,h2⟩
  simp only[BJ,Bool.and_eq_true]at hs
  exact⟨y,ys,rfl,MH hm hbx 40 v y hs.1 h1,ih _ hs.2 h2⟩
theorem Ke{D:Bn->Prop}(hm:Fp P A0 w0 β B N w)(hbx:∀b c,B b=some c->(Ab bx b=some c/\D b)\/Ab bx b=none):∀(l:List Ad) (x:Value),BJ bx l=true->Ar A0 w0 β B w (vl l) x->Ao w (R0 A0 w0 B β D) (vl (Ci bx l)) x:=by
 intro l;induction l with
 |nil=>intro x _ h;exact h
 |cons v l ih=>
  rintro x hs ⟨y,ys,rfl,h1,h2⟩
  simp only[BJ,Bool.and_eq_true]at hs
  exact⟨y,ys,rfl,Ld hm hbx 40 v y hs.1 h1,ih _ hs.2 h2⟩
theorem OP(d:Nat):∀v:Ad,A4 v=true->Ay bx d v=v:=by
 intro v;induction v with
 |cons h t ih1 ih2=>
  intro hp
  simp only[A4,Bool.and_eq_true]at hp
  cases d<;>simp only[Ay,ih1 hp.1,ih2 hp.2]
 |agg l ih=>intro hp;cases d<;>simp only[Ay,ih hp]
 |tup l ih=>intro hp;cases d<;>simp only[Ay,ih hp]
 |func fn l ih=>intro hp;cases d<;>simp only[Ay,ih hp]
 |_=>intro hp;first|(simp[A4]at hp;done)|(cases d<;>simp only[Ay])
theorem Kg:∀l:List Ad,Er l=true->Ci bx l=l:=by
 intro l;induction l with
 |nil=>intro _;rfl
 |cons v l ih=>intro hp;simp only[Er,Bool.and_eq_true]at hp;simp only[Ci,OP 40 v hp.1,ih hp.2]
theorem QL:∀l r:List Ad,Er (l++r)=(Er l&&Er r):=by
 intro l r;induction l with
 |nil=>simp[Er]
 |cons v l ih=>simp only[List.cons_append,Er,ih,Bool.and_assoc]
theorem Gd:∀l r:List Ad,BJ bx (l++r)=(BJ bx l&&BJ bx r):=by
 intro l r;induction l with
 |nil=>simp[BJ]
 |cons v l ih=>simp only[List.cons_append,BJ,ih,Bool.and_assoc]
theorem Mz(k n:Nat)(c:Nat->Nat->Ad)(l2:List Ad):∀(l1:List Ad) (args:List (List Sh×Bf)),∃a1 a2,CZ args (l1++ .view k n c::l2)=CZ a1 l1++ .view k n c::CZ a2 l2:=by
 intro l1;induction l1 with
 |nil=>
  intro args
  cases args with
  |nil=>exact⟨[],[],rfl⟩
  |cons x a=>
   obtain⟨s,o⟩:=x
   refine⟨[],a,?_⟩
   have:Ul s (.view k n c)= .view k n c:=by
    cases s with
    |nil=>rfl
    |cons s l=>cases l<;>first|rfl|(cases s<;>rfl)
   simp[CZ,this]
 |cons v l1 ih=>
  intro args
  cases args with
  |nil=>exact⟨[],[],rfl⟩
  |cons x a=>
   obtain⟨s,o⟩:=x
   obtain⟨a1,a2,h⟩:=ih a
   exact⟨(s,o)::a1,a2,by simp[CZ,h]⟩
theorem HJ(hm:Fp P A0 w0 β B N w)(hG:∀n m c,E.G n=some (m,c)->Ao w0.w (fun g=>A0 g/\¬w0.X g) (.vptr m c) (.pointer (some ⟨n,0,none⟩))){m:Nat}{c:Nat->Ad}(h:E.G n=some (m,c)):HV A0 w0 β B w (.vptr m c) (.pointer (some ⟨n,0,none⟩)):=
 Ao.mono hm.below.size (fun g hg hA=>⟨⟨.inl hA.1,fun b c hb e=>(hm.base b c g hb e).1.elim (fun h=>absurd hg (Nat.not_lt.2 h)) hA.2⟩,hm.below.block g hg hA.2⟩) _ _ (hG n m c h)
theorem Ei(hnd:∀c,o.op≠ .defer c)(h:o.uponIn (FW ro) 0 P a next Q ((execOp a.eval o).run P w)):o.wpIn (FW ro) 0 P a w next Q:=
 ⟨fun _ _=>trivial,by rw[Oper.semAt_eq _ _ _ hnd];exact h⟩
theorem BD{x:Value}(hnd:∀c,o.op≠ .defer c)(hr:(execOp a.eval o).run P w= .ok (.value x) w1)(h:next (a.put o.dst x) w1):o.wpIn (FW ro) 0 P a w next Q:=
 Ei hnd (by rw[hr];exact h)
theorem EI(hnd:∀c,o.op≠ .defer c)(hr:(execOp a.eval o).run P w= .ok .skip w1)(h:next (a.put o.dst undef) w1):o.wpIn (FW ro) 0 P a w next Q:=
 Ei hnd (by rw[hr];exact h)
theorem Ew{f:FuncId}{args:Array Value}(hnd:∀c,o.op≠ .defer c)(hr:(execOp a.eval o).run P w= .ok (.enter f args) w1)
  (h:Calls P f args w1 fun
   | .returned v,w''=>next (a.put o.dst v) w''
   | .panicked chain,w''=>Q (.panic chain) a w''
   | .outgrown,_=>LetsOut Q):o.wpIn (FW ro) 0 P a w next Q:=
 Ei hnd (by rw[hr];exact⟨fun h=>(by cases h),(callsIn_wide (n:=0)).2 h⟩)
theorem UE{w:World}{A:Nat->Prop}{x:Value}{xs:List Value}{c:Nat->Nat->Ad}(how:w1.ownsRow w.heap.size e k x n xs)(hn:n<=maxLen)(hc:∀i,i<n->∀j,j<k->∃y,xs[i*k+j]?=some y/\y.oneCell'=true/\Ao w1 (fun _=>False) (c i j) y)
  (hA:∀g,g<w1.heap.size->w.heap.size<=g->A g):Ao w1 A (.view k n c) x:=by
 rcases how.2 with⟨rfl,rfl⟩|⟨g,cap,cur,rfl,k2,k3,k4,k5,k6,k7⟩
 ·exact⟨none,0,rfl,hn,Nat.le_refl _,fun h=>absurd h (by omega)⟩
 have hg:=(Array.getElem?_eq_some_iff.1 k3).1
 refine⟨_,cap,rfl,hn,k4,fun _=>⟨g,0,rfl,hg,hA g hg k2,fun i hi j hj=> ?_⟩⟩
 obtain⟨y,y1,y2,y3⟩:=hc i hi j hj
 refine⟨y,?_,y2,Ao.weak (fun _ _ h=>h.elim) y3⟩
 rw[<-k7,List.getElem?_take]at y1
 split at y1
 ·simp only[World.cell?,k3]
  simpa using y1
 cases y1
theorem D9{c:Call}{f:Operand}{of:Bf}{args:List (List Sh×Bf)}(hm:Fp P A0 w0 β B N w)(hbx:∀b c,B b=some c->Ab bx b=some c)(hG:∀n m c,E.G n=some (m,c)->Ao w0.w (fun g=>A0 g/\¬w0.X g) (.vptr m c) (.pointer (some ⟨n,0,none⟩)))
  (hS:∀id s,E.S id=some s->Ah P E.G id s) (ho:o.op= .call c) (hcal:c.callee= .value f) (hf:AG f=some of) (hargs:Fl P c.args.toList c.argTypes.toList=some args)
  (hxf:Ar A0 w0 β B w (ev E fr of) (a.eval f)) (hx:∀x∈c.args.toList,I0 E A0 w0 β B w fr a x) (hp:(AF E fr bx nx (.call of args)).pre)
  (hnext:∀x w1,CD P A0 w0 β β B nx none w w1->Ar A0 w0 β B w1 (AF E fr bx nx (.call of args)).v x->(∀s,Jo E (ev E fr of)=some s->Yw w w1 s.own (AF E fr bx nx (.call of args)).v x)->next (a.put o.dst x) w1):o.wpIn (FW ro) 0 P a w next Q/\(AF E fr bx nx (.call of args)).new=none:=by
 cases hv:ev E fr of<;>simp only[AF,hv]at hp hxf hnext⊢ <;>first|exact hp.elim|skip
 rename_i fn caps
 cases fn<;>simp only at hp hnext⊢ <;>first|exact hp.elim|skip
 rename_i id
 cases hs:E.S id<;>simp only[hs]at hp hnext⊢ <;>first|exact hp.elim|skip
 rename_i s
 obtain⟨ys,he,hcr⟩:=hxf
 have hargsR:=Fb c.args.toList c.argTypes.toList args hargs hx
 have hcapR:=HL caps ys hp.1 hcr
 have hall:Ar A0 w0 β B w (vl (AQ E fr args++BK caps)) (.tuple ⟨c.args.toList.map a.eval++ys⟩):=by
  rw[Md];exact A7.app hargsR (Jg _) hcapR
 generalize AQ E fr args++BK caps=vs at*
 have hok:=hS id s hs
 have henter:(execOp a.eval o).run P w= .ok (.enter id ⟨c.args.toList.map a.eval++ys⟩) w:=by
  have e1:(Array.map a.eval c.args++(⟨ys⟩:Array Value))=⟨c.args.toList.map a.eval++ys⟩:=by apply Array.toList_inj.1;simp
  simp[execOp,ho,resolve,hcal,he,Deferred.ofValue,invoke,hok.ent,e1]
 have hAl:∀w1,Below w.heap.size w w1->∀g,g<w1.heap.size->(Al A0 w0 B β g\/w.heap.size<=g)->Al A0 w0 B β g:=by
  rintro w1 hb g hg (h|h)
  ·exact h
  exact⟨.inr (.inl (by have:=hm.below.size;omega)),fun b c hB e=>by have:=(hm.base b c g hB e).2;omega⟩
 cases hpu:Er vs with
 |true=>
  simp only[Ct,hpu]at hp hnext⊢
  refine⟨?_,trivial⟩
  have hcalls:=hok.run (Al A0 w0 B β) w _ _ (fun n m c h=>HJ hm hG h) (Ee args vs _ (H1 vs _ hpu hall)) hp.2
  refine Ew (fun c' h=>by rw[ho]at h;cases h) henter (hcalls.mono fun e w1=> ?_)
  rintro⟨x,rfl,hr,hb,hown⟩
  exact hnext x w1 (CD.none hb) (Ao.rep _ _ (Ao.mono (Nat.le_refl _) (fun g hg h=>⟨hAl w1 hb g hg h,rfl⟩) _ _ hr)) fun s' hs'=>by
   simp only[Jo,hs]at hs';cases hs';exact hown
 |false=>
  simp only[Ct,hpu]at hp hnext⊢
  refine⟨?_,trivial⟩
  have hcalls:=hok.run (Zf A0 w0 B β) w _ _ (fun n m c h=>Ao.weak (fun g _ h=> .inl h) (HJ hm hG h)) (Ee args _ _ (RX hm hbx vs _ hp.2.1 hall)) hp.2.2.1
  refine Ew (fun c' h=>by rw[ho]at h;cases h) henter (hcalls.mono fun e w1=> ?_)
  rintro⟨x,rfl,hr,hb,hown⟩
  have hrep:Ao w1 (Al A0 w0 B β) (s.res (CZ args (Ci bx vs))) x:=by
   have hfl:=hp.2.2.2
   cases ho:s.own with
   |none=>rw[ho]at hfl;exact Jw _ _ hfl hr
   |some e=>
    obtain⟨k,n,c,q1,q2,q3,xs,q4,q5⟩:=hown e ho
    rw[q1]
    exact UE q4 q3 q5 fun g hg hge=>hAl w1 hb g hg (.inr hge)
  exact hnext x w1 (CD.none hb) (Ao.rep _ _ hrep) fun s' hs'=>by
   simp only[Jo,hs]at hs';cases hs';exact hown
end Go.Proofs.YtlieoghhkioflaaGreat
/- The engine,part 12: '==' on structs and arrays of numbers. No condition. -/
namespace Go.Proofs.YtlieoghhkioflaaGreat
open Go Go.RowKit
variable{P:Program}{E:Db}{A0:Nat->Prop}{w0:AW}{β:Bn->CK}{B:Br}{nx:Nat}{w:World}{a:Act}{o:Oper}{fr:Fr}{bx:Bx}
def Ty:List Sh->List Value->Prop
 |[],[]=>True
 | .int k::s,.int k' _::X=>k=k'/\Ty s X
 | .bool::s,.bool _::X=>Ty s X
 |_,_=>False
def vEq:Value->Value->Bool
 | .int _ a,.int _ b=>a==b
 | .bool a,.bool b=>a==b
 |_,_=>true
def K4:List Value->List Value->Bool
 |x::X,y::Y=>vEq x y&&K4 X Y
 |_,_=>true
theorem Ty.len:∀{s X},Ty s X->X.length=s.length:=by
 intro s;induction s with
 |nil=>intro X h;cases X<;>simp[Ty]at h⊢
 |cons c s ih=>
  intro X h
  cases X with
  |nil=>cases c<;>simp[Ty]at h
  |cons x X=>
   cases c<;>cases x<;>simp[Ty]at h<;>simp
   ·exact ih h.2
   exact ih h
theorem Ty.split:∀{s1 s2 X},Ty (s1++s2) X->∃X1 X2,X=X1++X2/\Ty s1 X1/\Ty s2 X2:=by
 intro s1;induction s1 with
 |nil=>intro s2 X h;exact⟨[],X,rfl,trivial,h⟩
 |cons c s1 ih=>
  intro s2 X h
  cases X with
  |nil=>cases c<;>simp[Ty]at h
  |cons x X=>
   cases c<;>cases x<;>simp[Ty]at h
   ·obtain⟨rfl,h⟩:=h
    obtain⟨X1,X2,rfl,h1,h2⟩:=ih h
    exact⟨_::X1,X2,rfl,⟨rfl,h1⟩,h2⟩
   obtain⟨X1,X2,rfl,h1,h2⟩:=ih h
   exact⟨_::X1,X2,rfl,h1,h2⟩
theorem Qe:∀(X Y X' Y':List Value),X.length=Y.length->K4 (X++X') (Y++Y')=(K4 X Y&&K4 X' Y'):=by
 intro X;induction X with
 |nil=>intro Y X' Y' h;cases Y<;>simp at h;simp[K4]
 |cons x X ih=>
  intro Y X' Y' h
  cases Y with
  |nil=>simp at h
  |cons y Y=>simp only[List.cons_append,K4,ih Y X' Y' (by simpa using h),Bool.and_assoc]
def Qr(P:Program)(t:TypeId)(X:List Value):Value:=if B8 P t=some true then .agg ⟨X⟩else X.headD undef
theorem Hd{t:TypeId}{n:Nat}(hs:BN P t=some n)(hag:(B8 P t==some true||(B8 P t==some false&&n==1))=true)(pre X post:List Value)(hX:X.length=n):
  (part t ⟨pre++X++post⟩ pre.length).run P w= .ok (Qr P t X) w:=by
 obtain⟨i,hi,hi'⟩:=Option.map_eq_some_iff.1 hs
 have h6:(sizeOf t).run P w= .ok n w:=by simp[sizeOf,typeInfo,hi,hi']
 simp only[Bool.or_eq_true,beq_iff_eq,Bool.and_eq_true]at hag
 rcases hag with h|h
 ·simp only[part,Sem.run_bind,Eg h,Result.andThen_ok,if_true,h6,Sem.run_pure,Qr,h]
  congr 2
  apply Array.toList_inj.1
  simp[<-hX]
 obtain⟨h1,h2⟩:=h
 subst h2
 cases X with
 |nil=>simp at hX
 |cons x X=>
  have:X=[]:=List.eq_nil_of_length_eq_zero (by simpa using hX)
  subst this
  simp only[part,Sem.run_bind,Eg h1,Result.andThen_ok,Qr,h1]
  simp
theorem UO{D:Nat}{Ef:TypeId->Bool}{S:TypeId->Option (List Sh)}(hE:∀t s X Y w,Ef t=true->S t=some s->Ty s X->Ty s Y->(Op.equalIn D t (Qr P t X) (Qr P t Y)).run P w= .ok (K4 X Y) w):
  ∀(fs:List Field) (s:List Sh) (preX preY X Y:List Value),VZ P Ef S preX.length fs=true->preX.length=preY.length->fs.foldr (fun f acc=>match S f.type,acc with|some a,some b=>some (a++b)|_,_=>none) (some [])=some s->Ty s X->Ty s Y->
  (Op.eqFields D ⟨preX++X⟩ ⟨preY++Y⟩ fs).run P w= .ok (K4 X Y) w:=by
 intro fs;induction fs with
 |nil=>
  intro s preX preY X Y _ _ hs hX hY
  simp at hs;subst hs
  cases X<;>cases Y<;>simp[Ty]at hX hY
  simp[Op.eqFields,K4]
 |cons f fs ih=>
  intro s preX preY X Y he hl hs hX hY
  simp only[List.foldr_cons]at hs
  split at hs
  ·rename_i s1 s2 h1 h2
   simp at hs;subst hs
   simp only[VZ,h1,Bool.and_eq_true]at he
   obtain⟨⟨⟨hn,ho⟩,hEf⟩,⟨hsz,hag⟩,hrest⟩:=he
   have ho:f.offset=preX.length:=by simpa using ho
   have hsz:BN P f.type=some s1.length:=by simpa using hsz
   obtain⟨X1,X2,rfl,hX1,hX2⟩:=Ty.split hX
   obtain⟨Y1,Y2,rfl,hY1,hY2⟩:=Ty.split hY
   have hn':f.name≠ "_" :=by simpa using hn
   have p1:=Hd (w:=w) hsz hag preX X1 X2 hX1.len
   have p2:=Hd (w:=w) hsz hag preY Y1 Y2 hY1.len
   simp only[Op.eqFields]
   rw[if_pos hn']
   simp only[Sem.run_bind,ho,<-List.append_assoc,p1,Result.andThen_ok]
   rw[hl,p2]
   simp only[Result.andThen_ok,hE _ _ _ _ w hEf h1 hX1 hY1]
   rw[List.append_assoc]at*
   have hlen:X1.length=Y1.length:=by rw[hX1.len,hY1.len]
   rw[Qe _ _ _ _ hlen]
   cases hq:K4 X1 Y1
   ·simp
   have hr:=ih s2 (preX++X1) (preY++Y1) X2 Y2 (by rw[List.length_append,hX1.len];exact hrest) (by simp[hl,hlen]) h2 hX2 hY2
   simp only[Bool.not_true,Bool.false_eq_true,if_false,Bool.true_and]
   simpa using hr
  cases hs
theorem M8{D:Nat}{e:TypeId}{s:List Sh}(hE:∀X Y w,Ty s X->Ty s Y->(Op.equalIn D e (Qr P e X) (Qr P e Y)).run P w= .ok (K4 X Y) w)(hsz:BN P e=some s.length)
  (hag:(B8 P e==some true||(B8 P e==some false&&s.length==1))=true):∀(n i:Nat) (preX preY X Y:List Value),preX.length=i*s.length->preY.length=i*s.length->Ty (List.replicate n s).flatten X->Ty (List.replicate n s).flatten Y->
  (Op.eqItems D e s.length ⟨preX++X⟩ ⟨preY++Y⟩ (List.range' i n)).run P w= .ok (K4 X Y) w:=by
 intro n;induction n with
 |zero=>
  intro i preX preY X Y _ _ hX hY
  cases X<;>cases Y<;>simp[Ty]at hX hY
  simp[Op.eqItems,K4]
 |succ n ih=>
  intro i preX preY X Y hx hy hX hY
  simp only[List.replicate_succ,List.flatten_cons]at hX hY
  obtain⟨X1,X2,rfl,hX1,hX2⟩:=Ty.split hX
  obtain⟨Y1,Y2,rfl,hY1,hY2⟩:=Ty.split hY
  have p1:=Hd (w:=w) hsz hag preX X1 X2 hX1.len
  have p2:=Hd (w:=w) hsz hag preY Y1 Y2 hY1.len
  rw[hx]at p1
  rw[hy]at p2
  have hlen:X1.length=Y1.length:=by rw[hX1.len,hY1.len]
  simp only[List.range'_succ,Op.eqItems,Sem.run_bind,<-List.append_assoc,p1,p2,Result.andThen_ok,hE _ _ w hX1 hY1]
  rw[Qe _ _ _ _ hlen]
  cases hq:K4 X1 Y1
  ·simp
  have hr:=ih (i+1) (preX++X1) (preY++Y1) X2 Y2 (by rw[List.length_append,hx,hX1.len,Nat.succ_mul]) (by rw[List.length_append,hy,hY1.len,Nat.succ_mul]) hX2 hY2
  simp only[Bool.not_true,Bool.false_eq_true,if_false,Bool.true_and]
  simpa using hr
theorem YW:∀(d:Nat) (t:TypeId) (s:List Sh) (X Y:List Value) (D:Nat) (w:World),GM P d t=true->Lz P d t=some s->Ty s X->Ty s Y->d<=D->(Op.equalIn D t (Qr P t X) (Qr P t Y)).run P w= .ok (K4 X Y) w:=by
  intro d;induction d with
  |zero=>intro t s X Y D w h;simp[GM]at h
  |succ d ih=>
    intro t s X Y D w he hs hX hY hD
    obtain⟨D,rfl⟩:∃D',D=D'+1:=⟨D-1,by omega⟩
    simp only[GM]at he
    simp only[Lz]at hs
    cases hu:P.underlying t with
    |none=>simp[hu]at he
    |some u=>
      cases u<;>simp only[hu]at he hs<;>first|(simp at he;done)|skip
      · -- bool
        simp at hs;subst hs
        have hag:B8 P t=some false:=by simp[B8,hu]
        cases X with
        |nil=>simp[Ty]at hX
        |cons x X=>cases x<;>simp[Ty]at hX
                   cases X<;>simp[Ty]at hX
                   cases Y with
                   |nil=>simp[Ty]at hY
                   |cons y Y=>
                     cases y<;>simp[Ty]at hY
                     cases Y<;>simp[Ty]at hY
                     simp[Qr,hag,K4,vEq,run_equalIn_bool' w D t _ _ hu]
      · -- int
        simp at hs;subst hs
        have hag:B8 P t=some false:=by simp[B8,hu]
        cases X with
        |nil=>simp[Ty]at hX
        |cons x X=>cases x<;>simp[Ty]at hX
                   obtain⟨rfl,hX⟩:=hX
                   cases X<;>simp[Ty]at hX
                   cases Y with
                   |nil=>simp[Ty]at hY
                   |cons y Y=>
                     cases y<;>simp[Ty]at hY
                     obtain⟨rfl,hY⟩:=hY
                     cases Y<;>simp[Ty]at hY
                     simp[Qr,hag,K4,vEq,run_equalIn_int w D t _ _ _ _ hu]
      · -- array
        rename_i n e
        have hag:B8 P t=some true:=by simp[B8,hu]
        simp only[Bool.and_eq_true]at he
        obtain⟨he1,he2⟩:=he
        cases hse:Lz P d e with
        |none=>simp[hse]at he2
        |some s1=>
          simp only[hse,Bool.and_eq_true]at he2
          simp only[hse,Option.map_some,Option.some.injEq]at hs
          subst hs
          obtain⟨⟨h1,h2⟩,h3⟩:=he2
          have h1:BN P e=some s1.length:=by simpa using h1
          have h2:P.cellsOf e=s1.length:=by simpa using h2
          obtain⟨i,hi,hi'⟩:=Option.map_eq_some_iff.1 h1
          have:=M8 (P:=P) (w:=w) (D:=D) (fun X Y w hX hY=>ih e s1 X Y D w he1 hse hX hY (by omega)) h1 h3 n 0 [] [] X Y (by simp) (by simp) hX hY
          simp only[List.nil_append,<-List.range_eq_range']at this
          simp only[Qr,hag,if_true,run_equalIn_array w D _ _ hu hi,h2,this]
      -- struct
      rename_i fs
      have hag:B8 P t=some true:=by simp[B8,hu]
      simp only[Bool.and_eq_true,Bool.not_eq_true']at he
      have hf:P.fieldsOf t=fs:=by simp[Program.fieldsOf,hu]
      have:=UO (P:=P) (w:=w) (D:=D) (fun t s X Y w h1 h2 hX hY=>ih t s X Y D w h1 h2 hX hY (by omega)) fs.toList s [] [] X Y he.2 rfl hs hX hY
      simp only[List.nil_append]at this
      simp only[Qr,hag,if_true,run_equalIn_struct w D t _ _ (by rw[hf];exact hu) he.1,hf,this]
theorem PE:∀(s:List Sh) (l:Ad) (X:List Value),It s l->Ar A0 w0 β B w l (.tuple ⟨X⟩)->Ty s X:=by
 intro s;induction s with
 |nil=>
  intro l X h hr
  cases l<;>simp[It]at h
  have e:Value.tuple ⟨X⟩= .tuple #[]:=hr
  have:X=[]:=by simpa using e
  subst this;trivial
 |cons c s ih=>
  intro l X h hr
  cases c<;>cases l<;>simp[It]at h
  ·obtain⟨x,xs,he,h1,h2⟩:=hr
   have:X=x::xs:=by simpa using he
   subst this
   obtain⟨hc,h⟩:=h
   simp only[EE]at hc
   rw[hc]at h1
   have e:x=_:=h1
   subst e
   exact⟨rfl,ih _ _ h h2⟩
  obtain⟨x,xs,he,h1,h2⟩:=hr
  have:X=x::xs:=by simpa using he
  subst this
  obtain⟨hc,h⟩:=h
  simp only[EE]at hc
  rw[hc]at h1
  have e:x=_:=h1
  subst e
  exact ih _ _ h h2
theorem NI:∀(s:List Sh) (l m:Ad) (X Y:List Value),It s l->It s m->Ar A0 w0 β B w l (.tuple ⟨X⟩)->Ar A0 w0 β B w m (.tuple ⟨Y⟩)->K4 X Y=DU s l m:=by
 intro s;induction s with
 |nil=>
  intro l m X Y h h' hr hr'
  cases l<;>simp[It]at h
  have e:Value.tuple ⟨X⟩= .tuple #[]:=hr
  have:X=[]:=by simpa using e
  subst this;cases Y<;>rfl
 |cons c s ih=>
  intro l m X Y h h' hr hr'
  cases c<;>cases l<;>simp[It]at h<;>cases m<;>simp[It]at h'
  ·obtain⟨x,xs,he,h1,h2⟩:=hr
   have:X=x::xs:=by simpa using he
   subst this
   obtain⟨y,ys,he,h1',h2'⟩:=hr'
   have:Y=y::ys:=by simpa using he
   subst this
   obtain⟨hc,h⟩:=h
   obtain⟨hc',h'⟩:=h'
   simp only[EE]at hc hc'
   rw[hc]at h1;rw[hc']at h1'
   have e:x=_:=h1
   have e':y=_:=h1'
   subst e e'
   simp only[K4,vEq,DU,ih _ _ _ _ h h' h2 h2']
  obtain⟨x,xs,he,h1,h2⟩:=hr
  have:X=x::xs:=by simpa using he
  subst this
  obtain⟨y,ys,he,h1',h2'⟩:=hr'
  have:Y=y::ys:=by simpa using he
  subst this
  obtain⟨hc,h⟩:=h
  obtain⟨hc',h'⟩:=h'
  simp only[EE]at hc hc'
  rw[hc]at h1;rw[hc']at h1'
  have e:x=_:=h1
  have e':y=_:=h1'
  subst e e'
  simp only[K4,vEq,DU,ih _ _ _ _ h h' h2 h2']
theorem NJ{op:BinOp}{neg:Bool}{t u:TypeId}{x y:Operand}{ox oy:Bf}{s:List Sh}(ho:o.op= .binOp op t x y u)(ht:B8 P t=some true)(hs:UB P t=some (true,s))(hpl:GM P 6 t=true)(hgd:P.eqGuardType P.depth t=false)(hop:op=if neg then .neq else .eql)
  (hx:Ar A0 w0 β B w (ev E fr ox) (a.eval x)) (hy:Ar A0 w0 β B w (ev E fr oy) (a.eval y)) (hp:(AF E fr bx nx (.eqa neg s ox oy)).pre):AE P A0 w0 β B nx w a o (AF E fr bx nx (.eqa neg s ox oy)):=by
 cases hv:ev E fr ox<;>cases hu:ev E fr oy<;>simp only[AF,hv,hu]at hp hx hy⊢ <;>first|exact hp.elim|skip
 rename_i l m
 obtain⟨X,e1,h1⟩:=hx
 obtain⟨Y,e2,h2⟩:=hy
 have hsh:Lz P 6 t=some s:=by
  unfold UB at hs
  split at hs
  ·split at hs
   ·simp at hs;rename_i q _ _;rw[<-hs.2];assumption
   cases hs
  cases hs
 have hr:=YW (P:=P) 6 t s X Y 10000 w hpl hsh (PE _ _ _ hp.1 h1) (PE _ _ _ hp.2 h2) (by omega)
 simp only[Qr,ht,if_true]at hr
 rw[NI s l m X Y hp.1 hp.2 h1 h2]at hr
 cases neg
 ·simp only[Bool.false_eq_true,if_false]at hop
  subst hop
  exact AE.plain rfl (x:= .bool (DU s l m)) (by simp[execOp,ho,e1,e2,run_eqGuard_agg w _ _ _ _ _ _ hgd,run_eql_struct,hr]) rfl
 simp only[if_true]at hop
 subst hop
 exact AE.plain rfl (x:= .bool (!DU s l m)) (by simp[execOp,ho,e1,e2,run_eqGuard_agg w _ _ _ _ _ _ hgd,run_neq_struct,hr]) rfl
end Go.Proofs.YtlieoghhkioflaaGreat
/- The engine,part 13: every operation that stores nothing. No condition. -/
namespace Go.Proofs.YtlieoghhkioflaaGreat
open Go Go.RowKit
variable{ox:Bf}{x:Operand}{t:TypeId}
variable{P:Program}{E:Db}{A0:Nat->Prop}{w0:AW}{β:Bn->CK}{B:Br}{nx:Nat}{w:World}{a:Act}{o:Oper}{fr:Fr}{bx:Bx}
theorem AE.wp{ro:Option Nat}(hnd:∀c,o.op≠ .defer c){r:AR}{next:Act->World->Prop}{Q:Exit->Act->World->Prop}(h:AE P A0 w0 β B nx w a o r)(hn:∀x w1 β1,CD P A0 w0 β β1 B nx r.new w w1->Ar A0 w0 β1 (Dc B nx r.new) w1 r.v x->next (a.put o.dst x) w1):o.wpIn (FW ro) 0 P a w next Q:=by
 obtain⟨x,w1,β1,hr,hs,hv⟩:=h
 exact BD hnd hr (hn x w1 β1 hs hv)
theorem RY{z:Ad}(h:Qm P t=some z)(w:World)(A:Nat->Prop):∃v,(zeroValue t).run P w= .ok v w/\Ao w A z v:=by
 unfold Qm at h
 split at h
 ·rename_i i hi
  obtain⟨v,hv,hc⟩:=Option.bind_eq_some_iff.1 h
  exact⟨v,by simp[zeroValue,typeInfo,hi,hv],Pr hc w A⟩
 cases h
theorem RN{k e:TypeId}{kd:IntKind}{ok:Bool}{z:Ad}{m:Operand}{om:Bf}{N:Nat}(hm:Fp P A0 w0 β B N w)(hbx:∀b c,B b=some c->Ab bx b=some c)(ho:o.op= .lookup t m x ok)(ht:P.underlying t=some (.map k e))(hk:P.underlying k=some (.int kd))(hz:Qm P e=some z)
  (hmr:Ar A0 w0 β B w (ev E fr om) (a.eval m)) (hxr:Ar A0 w0 β B w (ev E fr ox) (a.eval x)) (hp:(AF E fr bx nx (.mget kd ok z om ox)).pre):AE P A0 w0 β B nx w a o (AF E fr bx nx (.mget kd ok z om ox)):=by
 obtain⟨zv,hzr,hzv⟩:=RY hz w (Al A0 w0 B β)
 have core:∀(g:Nat) (h:Int->Option Value) (has:Int->Bool) (f:Int->Ad) (n:Int),a.eval m= .map (some g)->CU w g kd h->(∀k,(has k=false->h k=none)/\(has k=true->∃y,h k=some y/\Ar A0 w0 β B w (f k) y))->a.eval x= .int kd n->
   AE P A0 w0 β B nx w a o ⟨kd=kd/\kd=kd,PQ ok (has n) (f n) z,none⟩:=by
  intro g h has f n hme hmf hc hxe
  have hrun:=FK hmf ht hk zv hzr n ok
  have hv:Ar A0 w0 β B w (EG (has n) (f n) z) ((h n).getD zv)/\(h n).isSome=has n:=by
   cases hh:has n with
   |false=>rw[(hc n).1 hh];exact⟨Ao.rep _ _ hzv,rfl⟩
   |true=>obtain⟨y,hy,hr⟩:=(hc n).2 hh;rw[hy];exact⟨hr,rfl⟩
  refine AE.plain rfl (x:=if ok then .tuple #[(h n).getD zv,.bool (h n).isSome]else(h n).getD zv) ?_ ?_
  ·simp[execOp,ho,hme,hxe,hrun,Result.andThen]
  cases ok with
  |false=>exact hv.1
  |true=>exact⟨_,rfl,_,_,rfl,hv.1,_,[],rfl,by rw[hv.2];rfl,rfl⟩
 simp only[AF]at hp⊢
 split at hp
 ·rename_i kd' has f kk n h1 h2
  obtain⟨rfl,rfl⟩:=hp
  rw[h1]at hmr
  rw[h2]at hxr
  obtain⟨g,h,e1,_,_,hmf,hc⟩:=hmr
  exact core g h has f n e1 hmf (fun k=>⟨(hc k).1,fun hk=>by obtain⟨y,hy,hr⟩:=(hc k).2 hk;exact⟨y,hy,Ao.rep _ _ hr⟩⟩) hxr
 ·rename_i b kk n h1 h2
  rw[h1]at hmr
  rw[h2]at hxr
  obtain⟨⟨kd',hB⟩,g,hg,e1⟩:=hmr
  rcases hB.cases with⟨has,f,hB⟩|⟨f,hB⟩
  ·simp only[hbx b _ hB]at hp⊢
   obtain⟨rfl,rfl⟩:=hp
   obtain⟨g',h,h3,hmf,hc⟩:=hm.bx b _ hB
   rw[hg]at h3;cases h3
   exact core g h has f n e1 hmf.mapF hc hxr
  simp only[hbx b _ hB]at hp⊢
  obtain⟨rfl,rfl,rfl,rfl⟩:=hp
  obtain⟨g',h,h3,hmf,hc⟩:=hm.bx b _ hB
  rw[hg]at h3;cases h3
  have hzv:zv= .slice none 0 0:=hzv
  subst hzv
  have hrun:=FK hmf.mapF ht hk _ hzr n false
  refine AE.plain rfl (x:=(h n).getD (.slice none 0 0)) ?_ (hc n)
  have hxe:a.eval x= .int kk n:=hxr
  simp[execOp,ho,e1,hxe,hrun,Result.andThen]
 exact hp.elim
theorem GI:∀{l l':List UInt8},l.map (fun b=>(b.toNat:Int))=l'.map (fun b=>(b.toNat:Int))->l=l'
 |[],[],_=>rfl
 |[],_::_,h=>by simp at h
 |_::_,[],h=>by simp at h
 |a::l,b::l',h=>by
  simp only[List.map_cons,List.cons.injEq]at h
  have h1:a=b:=UInt8.toNat_inj.1 (by have:=h.1;omega)
  rw[h1,GI h.2]
theorem Ni{op:BinOp}{neg:Bool}{u:TypeId}{y:Operand}{oy:Bf}(ho:o.op= .binOp op t x y u)(hop:op=if neg then .neq else .eql)
  (hx:Ar A0 w0 β B w (ev E fr ox) (a.eval x)) (hy:Ar A0 w0 β B w (ev E fr oy) (a.eval y)) (hp:(AF E fr bx nx (.seq neg ox oy)).pre):AE P A0 w0 β B nx w a o (AF E fr bx nx (.seq neg ox oy)):=by
 cases hv:ev E fr ox<;>cases hu:ev E fr oy<;>simp only[AF,hv,hu]at hp hx hy⊢ <;>first|exact hp.elim|skip
 rename_i n f m g
 obtain⟨s,e1,h1⟩:=hx
 obtain⟨s',e2,h2⟩:=hy
 have key:(s.toList==s'.toList)=Jk n f m g:=by
  rw[ByteArray.toList_eq,ByteArray.toList_eq,Jk,Bool.eq_iff_iff,@decide_eq_true_iff _ (Classical.propDecidable _),beq_iff_eq]
  constructor
  ·intro h
   have hl:=congrArg List.length h1
   have hl':=congrArg List.length h2
   simp at hl hl'
   have hnm:n=m:=by
    have:=congrArg List.length h
    simp at this;omega
   subst hnm
   refine⟨rfl,fun i hi=> ?_⟩
   rw[h,h2]at h1
   have:=congrArg (fun l=>l[i]?) h1
   simp[hi]at this
   exact this.symm
  rintro⟨rfl,h⟩
  refine GI ?_
  rw[h1,h2]
  exact List.map_congr_left fun i hi=>h i (by simpa using hi)
 have hg:∀op,(eqGuard op t x y (.string s) (.string s')).run P w= .ok () w:=fun op=>by
  simp only[eqGuard];split<;>rfl
 cases neg with
 |false=>
  refine AE.plain rfl (x:= .bool (Jk n f m g)) ?_ rfl
  have hop:op= .eql:=hop
  simp[execOp,ho,hop,e1,e2,hg .eql,binOp_string_eql,key]
 |true=>
  refine AE.plain rfl (x:= .bool (!Jk n f m g)) ?_ rfl
  have hop:op= .neq:=hop
  simp[execOp,ho,hop,e1,e2,hg .neq,binOp_string_neq,key]
theorem QD(xs:List Int)(h:∀x∈xs,0<=x/\x<=255):(strOfNums xs).data.toList.map (fun b=>(b.toNat:Int))=xs:=by
 simp only[strOfNums]
 induction xs with
 |nil=>rfl
 |cons x xs ih=>
  have hx:=h x (by simp)
  have:=ih fun y hy=>h y (by simp[hy])
  simp only[List.map_cons]at this⊢
  simp only[List.cons.injEq]
  refine⟨?_,by simpa using this⟩
  simp only[UInt8.toNat_ofNat']
  omega
theorem SY{s d e:TypeId}(ho:o.op= .convert s d x)(hs:P.underlying s=some (.slice e))(he:P.underlying e=some (.int .u8))(hd:P.underlying d=some .string)
  (hx:Ar A0 w0 β B w (ev E fr ox) (a.eval x)) (hp:(AF E fr bx nx (.b2s ox)).pre):AE P A0 w0 β B nx w a o (AF E fr bx nx (.b2s ox)):=by
 cases hv:ev E fr ox<;>simp only[AF,hv]at hp hx⊢ <;>first|exact hp.elim|skip
 ·have e1:a.eval x= .slice none 0 0:=hx
  refine AE.plain rfl (x:= .string ByteArray.empty) ?_ ⟨_,rfl,rfl⟩
  simp[execOp,ho,e1,run_convert_bytes_nil w s e hs he 0 0 d hd]
 rename_i k n c
 obtain⟨rfl,hc⟩:=hp
 obtain⟨ad,cap,e1,hn,hcap,hh⟩:=hx
 rcases Nat.eq_zero_or_pos n with h0|h0
 ·subst h0
  cases ad with
  |none=>
   refine AE.plain rfl (x:= .string ByteArray.empty) ?_ ⟨_,rfl,rfl⟩
   simp[execOp,ho,e1,run_convert_bytes_nil w s e hs he 0 cap d hd]
  |some ad=>
   refine AE.plain rfl (x:= .string ByteArray.empty) ?_ ⟨_,rfl,rfl⟩
   have hl:(loadCells ad 0).run P w= .ok (([]:List Int).map (Value.int .u8)).toArray w:=by simpa using run_loadCells_list (P:=P) w ad [] (fun j v hj=>by simp at hj)
   have:=run_bytesToString (P:=P) w ad 0 cap [] hl
   rw[<-run_convert_bytes_string w s d e _ 0 cap hs he hd]at this
   simp[execOp,ho,e1,this]
 obtain⟨g,off,rfl,hg,hA,hcell⟩:=hh h0
 have hrun:=run_convert_bytes_arg w s e hs he g off n cap ((List.range n).map fun i=>(c i 0).toInt) (by simp) (fun i hi=>by
  obtain⟨y,hy,_,hr⟩:=hcell i hi 0 (by omega)
  have hci:=(hc i hi).1
  rw[hci]at hr
  have hr:y= .int .u8 (c i 0).toInt:=hr
  rw[show off+i=off+i*1+0 from by omega,hy,hr]
  simp[List.getD,hi]) d hd
 refine AE.plain rfl (x:= .string (strOfNums ((List.range n).map fun i=>(c i 0).toInt))) ?_ ⟨_,rfl,QD _ fun y hy=> ?_⟩
 ·simp[execOp,ho,e1,hrun]
 obtain⟨i,hi,rfl⟩:=List.mem_map.1 hy
 exact(hc i (by simpa using hi)).2
theorem Ny{mx:Bool}{c:Call}{y z:Operand}{oy oz:Bf}(ho:o.op= .call c)(hcal:c.callee= .builtin (if mx then .max else .min))(hargs:c.args.toList=[x,y,z])(hx:Ar A0 w0 β B w (ev E fr ox) (a.eval x))(hy:Ar A0 w0 β B w (ev E fr oy) (a.eval y))(hz:Ar A0 w0 β B w (ev E fr oz) (a.eval z))
  (hp:(AF E fr bx nx (.mm3 mx ox oy oz)).pre):AE P A0 w0 β B nx w a o (AF E fr bx nx (.mm3 mx ox oy oz)):=by
 have ha:c.args= #[x,y,z]:=by rw[<-hargs]
 have hp0:=hp
 simp only[AF]at hp0
 split at hp0
 case h_2=>exact hp0.elim
 rename_i k n k' n' k'' n'' hv hu ht
 obtain⟨rfl,rfl⟩:=hp0
 rw[hv]at hx
 rw[hu]at hy
 rw[ht]at hz
 simp only[AF,hv,hu,ht]
 have e1:a.eval x= .int k n:=hx
 have e2:a.eval y= .int k n':=hy
 have e3:a.eval z= .int k n'':=hz
 cases mx with
 |true=>
  refine AE.plain rfl (x:= .int k (max (max n n') n'')) ?_ rfl
  have h1:∀p q:Int,(if q>p then q else p)=max p q:=fun p q=>by rw[Int.max_def];split<;>split<;>omega
  simp only[execOp,ho,resolve,hcal,if_true]
  simp[ha,invoke,builtin,e1,e2,e3,Builtin.max_,List.foldlM,Builtin.max2]
  rw[h1,h1];omega
 |false=>
  refine AE.plain rfl (x:= .int k (min (min n n') n'')) ?_ rfl
  have h1:∀p q:Int,(if q<p then q else p)=min p q:=fun p q=>by rw[Int.min_def];split<;>split<;>omega
  simp only[execOp,ho,resolve,hcal]
  simp[ha,invoke,builtin,e1,e2,e3,Builtin.min_,List.foldlM,Builtin.min2]
  rw[h1,h1];omega
theorem WM{ag:Bool}{fs:Array Field}{f:Nat}{fd:Field}{n:Nat}(ho:o.op= .field t x f)(ht:P.underlying t=some (.struct fs))(hf:fs[f]?=some fd)(hag:B8 P fd.type=some ag)(hn:BN P fd.type=some n)(h1:ag=false->n=1)
  (hx:Ar A0 w0 β B w (ev E fr ox) (a.eval x)) (hp:(AF E fr bx nx (.fv ag fd.offset n ox)).pre):AE P A0 w0 β B nx w a o (AF E fr bx nx (.fv ag fd.offset n ox)):=by
 cases hv:ev E fr ox<;>simp only[AF,hv]at hp hx⊢ <;>first|exact hp.elim|skip
 rename_i l
 obtain⟨ys,e1,h2⟩:=hx
 obtain⟨zs,hz1,hz2,hz3,hz4⟩:=Id h2 fd.offset n hp
 obtain⟨i,hi,hsz⟩:∃i,P.info? fd.type=some i/\i.size=n:=by
  unfold BN at hn;cases hh:P.info? fd.type with
  |none=>rw[hh]at hn;cases hn
  |some i=>rw[hh]at hn;simp at hn;exact⟨i,rfl,hn⟩
 refine AE.plain rfl (x:=if ag then .agg ⟨zs⟩else zs.getD 0 undef) ?_ (Gx hz4 fun h=>by rw[FZ,HN];have:=h1 h;omega)
 have hext:ag=true->(⟨ys⟩:Array Value).extract fd.offset (fd.offset+n)=⟨zs⟩:=fun _=>by
  apply Array.toList_inj.1
  simp only[Array.toList_extract,List.extract_eq_take_drop]
  apply List.ext_getElem?
  intro j
  rw[show fd.offset+n-fd.offset=n from by omega]
  by_cases hj:j<n
  ·rw[List.getElem?_take_of_lt hj,List.getElem?_drop,hz2 j hj]
  rw[List.getElem?_eq_none (by simp;omega),List.getElem?_eq_none (by omega)]
 cases ag with
 |true=>
  simp[execOp,ho,e1,Instr.field,run_underlying ht,hf,asAgg,part,Eg hag,sizeOf,typeInfo,hi,hsz]
  simpa using hext rfl
 |false=>
  have hn1:=h1 rfl
  have h0:=hz2 0 (by omega)
  rw[Nat.add_zero]at h0
  cases zs with
  |nil=>simp at hz1;omega
  |cons z zs=>
   have h0:ys[fd.offset]?=some z:=by rw[<-h0];rfl
   simp[execOp,ho,e1,Instr.field,run_underlying ht,hf,asAgg,part,Eg hag,h0]
set_option maxHeartbeats 1000000 in
theorem P2{ro:Option Nat}{ao:Ji}{next:Act->World->Prop}{Q:Exit->Act->World->Prop}(hc:CJ P o.op=some ao){N:Nat}(hm:Fp P A0 w0 β B N w)(hB:B nx=none)(hbx:∀b c,B b=some c->Ab bx b=some c)
  (hG:∀n m c,E.G n=some (m,c)->Ao w0.w (fun g=>A0 g/\¬w0.X g) (.vptr m c) (.pointer (some ⟨n,0,none⟩))) (hS:∀id s,E.S id=some s->Ah P E.G id s)
  (hx:∀x∈o.op.operands.toList,I0 E A0 w0 β B w fr a x) (hp:(AF E fr bx nx ao).pre)
  (hn:∀x w1 β1,CD P A0 w0 β β1 B nx (AF E fr bx nx ao).new w w1->Ar A0 w0 β1 (Dc B nx (AF E fr bx nx ao).new) w1 (AF E fr bx nx ao).v x->next (a.put o.dst x) w1):o.wpIn (FW ro) 0 P a w next Q:=by
 cases ho:o.op<;>simp only[ho,CJ]at hc<;>simp only[ho,Op.operands]at hx<;>first|(cases hc;done)|skip
 case move x=>
  obtain⟨ox,h1,rfl⟩:=Option.map_eq_some_iff.1 hc
  exact AE.wp (fun c' h=>by rw[ho]at h;cases h) (PF (.inl ho) (hx x (by simp) ox h1)) hn
 case assign x=>
  obtain⟨ox,h1,rfl⟩:=Option.map_eq_some_iff.1 hc
  exact AE.wp (fun c' h=>by rw[ho]at h;cases h) (PF (.inr ho) (hx x (by simp) ox h1)) hn
 case pick c x y=>
  split at hc<;>simp at hc
  rename_i oc ox oy h1 h2 h3
  subst hc
  exact AE.wp (fun c' h=>by rw[ho]at h;cases h) (QR ho (hx c (by simp) _ h1) (hx x (by simp) _ h2) (hx y (by simp) _ h3) hp) hn
 case alloc t=>
  obtain⟨p,h1,rfl⟩:=Option.map_eq_some_iff.1 hc
  exact AE.wp (fun c' h=>by rw[ho]at h;cases h) (Pe hm hB ho h1) hn
 case box t x=>
  split at hc<;>simp at hc
  rename_i n ox h1 h2
  subst hc
  exact AE.wp (fun c' h=>by rw[ho]at h;cases h) (U6 hm hB ho (hx x (by simp) _ h2) hp) hn
 case build t parts=>
  have hx':∀p∈parts.toList,I0 E A0 w0 β B w fr a p.2:=fun p hp=>hx p.2 (by simp;exact⟨p.1,by simpa using hp⟩)
  split at hc
  ·rename_i fs z h1 h2
   split at hc
   ·rename_i hall
    obtain⟨r,h3,rfl⟩:=Option.map_eq_some_iff.1 hc
    exact AE.wp (fun c' h=>by rw[ho]at h;cases h) (Hc ho h1 h2 hall h3 hx' hp) hn
   cases hc
  ·rename_i e z h1 h2
   split at hc
   ·rename_i k hk
    obtain⟨r,h3,rfl⟩:=Option.map_eq_some_iff.1 hc
    exact AE.wp (fun c' h=>by rw[ho]at h;cases h) (HR ho h1 hk h2 h3 hx' hp) hn
   cases hc
  cases hc
 case buildSlice t len parts=>
  have hx':∀p∈parts.toList,I0 E A0 w0 β B w fr a p.2:=fun p hp=>hx p.2 (by simp;exact⟨p.1,by simpa using hp⟩)
  split at hc
  ·rename_i e h1
   split at hc
   ·rename_i k z l h2 h3
    split at hc
    ·rename_i hlen
     simp at hc;subst hc
     exact AE.wp (fun c' h=>by rw[ho]at h;cases h) (Ur hm hB ho h1 h2 hlen h3 hx' hp) hn
    cases hc
   cases hc
  cases hc
 case load t x=>
  split at hc<;>simp at hc
  rename_i ag s ox h1 h2
  subst hc
  exact AE.wp (fun c' h=>by rw[ho]at h;cases h) (RM hm hbx ho h1 (hx x (by simp) _ h2) hp) hn
 case store t x y=>
  split at hc<;>simp at hc
  subst hc
  exact hp.elim
 case binOp op t x y u=>
  split at hc
  ·rename_i ox oy h1 h2
   split at hc
   ·split at hc
    ·simp at hc;subst hc
     exact AE.wp (fun c' h=>by rw[ho]at h;cases h) (Td ho (hx x (by simp) _ h1) (hx y (by simp) _ h2) hp) hn
    ·rename_i hu
     split at hc<;>simp at hc
     ·subst hc
      exact AE.wp (fun c' h=>by rw[ho]at h;cases h) (KZ ho hu rfl (hx x (by simp) _ h1) (hx y (by simp) _ h2) hp) hn
     subst hc
     exact AE.wp (fun c' h=>by rw[ho]at h;cases h) (KZ ho hu rfl (hx x (by simp) _ h1) (hx y (by simp) _ h2) hp) hn
    ·split at hc<;>simp at hc
     ·subst hc
      exact AE.wp (fun c' h=>by rw[ho]at h;cases h) (Ni ho rfl (hx x (by simp) _ h1) (hx y (by simp) _ h2) hp) hn
     subst hc
     exact AE.wp (fun c' h=>by rw[ho]at h;cases h) (Ni ho rfl (hx x (by simp) _ h1) (hx y (by simp) _ h2) hp) hn
    ·split at hc<;>simp at hc<;>(subst hc;exact hp.elim)
    cases hc
   ·rename_i hag
    split at hc
    ·rename_i ag s hs
     have hag':ag=true:=by have:=(Ht hs).1;rw[hag]at this;simpa using this.symm
     subst hag'
     split at hc
     ·rename_i hcond
      split at hc<;>simp at hc
      ·subst hc
       exact AE.wp (fun c' h=>by rw[ho]at h;cases h) (NJ ho hag hs hcond.2.1 hcond.2.2 rfl (hx x (by simp) _ h1) (hx y (by simp) _ h2) hp) hn
      subst hc
      exact AE.wp (fun c' h=>by rw[ho]at h;cases h) (NJ ho hag hs hcond.2.1 hcond.2.2 rfl (hx x (by simp) _ h1) (hx y (by simp) _ h2) hp) hn
     cases hc
    cases hc
   cases hc
  cases hc
 case unOp op t x=>
  obtain⟨ox,h1,rfl⟩:=Option.map_eq_some_iff.1 hc
  exact AE.wp (fun c' h=>by rw[ho]at h;cases h) (Wn ho (hx x (by simp) ox h1) hp) hn
 case convert s d x=>
  split at hc
  ·rename_i k0 k hs hd
   obtain⟨ox,h1,rfl⟩:=Option.map_eq_some_iff.1 hc
   exact AE.wp (fun c' h=>by rw[ho]at h;cases h) (RP ho hs hd (hx x (by simp) ox h1) hp) hn
  ·rename_i e hs hd
   split at hc
   ·rename_i he
    obtain⟨ox,h1,rfl⟩:=Option.map_eq_some_iff.1 hc
    exact AE.wp (fun c' h=>by rw[ho]at h;cases h) (SY ho hs he hd (hx x (by simp) ox h1) hp) hn
   cases hc
  cases hc
 case makeFunc fn first caps=>
  split at hc
  ·rename_i hf
   obtain⟨l,h1,rfl⟩:=Option.map_eq_some_iff.1 hc
   exact AE.wp (fun c' h=>by rw[ho]at h;cases h) (Tv ho hf h1 (fun x h=>hx x (by simp;exact .inr (by simpa using h)))) hn
  cases hc
 case slice t x lo hi mx=>
  cases mx with
  |some m=>
   cases lo with
   |some _=>cases hi<;>simp[CJ]at hc
   |none=>
    cases hi with
    |none=>simp[CJ]at hc
    |some h=>
     simp only[CJ]at hc
     split at hc
     ·rename_i e ox oh om h1 h2 h3 h4
      obtain⟨k,hk,rfl⟩:=Option.map_eq_some_iff.1 hc
      exact AE.wp (fun c' h=>by rw[ho]at h;cases h) (R1 ho h1 hk (hx x (by simp) _ h2) (hx h (by simp) _ h3) (hx m (by simp) _ h4) hp) hn
     cases hc
  |none=>
   simp only[CJ]at hc
   split at hc
   ·rename_i e ox ol oh h1 h2 h3 h4
    obtain⟨k,hk,rfl⟩:=Option.map_eq_some_iff.1 hc
    exact AE.wp (fun c' h=>by rw[ho]at h;cases h) (VY hm hbx ho h1 hk h3 h4 (hx x (by simp) _ h2) (fun y hy=>hx y (by simp[hy])) (fun y hy=>hx y (by simp[hy])) hp) hn
   cases hc
 case fieldAddr t x f=>
  split at hc
  ·rename_i fs ox h1 h2
   split at hc
   ·rename_i fl hf
    split at hc<;>simp at hc
    rename_i n hn'
    subst hc
    exact AE.wp (fun c' h=>by rw[ho]at h;cases h) (Uf ho h1 hf hn' (hx x (by simp) _ h2) hp) hn
   cases hc
  cases hc
 case indexAddr t x i=>
  split at hc
  ·rename_i e ox oi h1 h2 h3
   obtain⟨k,hk,rfl⟩:=Option.map_eq_some_iff.1 hc
   exact AE.wp (fun c' h=>by rw[ho]at h;cases h) (TE hm hbx ho h1 hk (hx x (by simp) _ h2) (hx i (by simp) _ h3) hp) hn
  ·rename_i n e ox oi h1 h2 h3
   obtain⟨k,hk,rfl⟩:=Option.map_eq_some_iff.1 hc
   exact AE.wp (fun c' h=>by rw[ho]at h;cases h) (Q1 ho h1 hk (hx x (by simp) _ h2) (hx i (by simp) _ h3) hp) hn
  cases hc
 case extract x i=>
  obtain⟨ox,h1,rfl⟩:=Option.map_eq_some_iff.1 hc
  exact AE.wp (fun c' h=>by rw[ho]at h;cases h) (Va ho (hx x (by simp) ox h1) hp) hn
 case nilCheck x=>
  obtain⟨ox,h1,rfl⟩:=Option.map_eq_some_iff.1 hc
  exact AE.wp (fun c' h=>by rw[ho]at h;cases h) (RE ho (hx x (by simp) ox h1) hp) hn
 case makeMap t x=>
  cases x with
  |some _=>simp[CJ]at hc
  |none=>
   simp only[CJ]at hc
   split at hc
   ·split at hc<;>simp at hc
    subst hc
    exact AE.wp (fun c' h=>by rw[ho]at h;cases h) (Uc (t:=t) (k:=t) (e:=t) hB ho) hn
   cases hc
 case lookup t m x ok=>
  split at hc
  ·rename_i k e hu
   split at hc<;>simp at hc
   rename_i kd z om ox h1 h2 h3 h4
   subst hc
   exact AE.wp (fun c' h=>by rw[ho]at h;cases h) (RN hm hbx ho hu h1 h2 (hx m (by simp) _ h3) (hx x (by simp) _ h4) hp) hn
  cases hc
 case insert t m x v=>
  split at hc
  ·split at hc<;>simp at hc
   subst hc
   exact hp.elim
  cases hc
 case mapUpdate t m x v=>
  split at hc
  ·split at hc<;>simp at hc
   subst hc
   exact hp.elim
  cases hc
 case makeSlice t x y=>
  split at hc
  ·rename_i e h1
   split at hc<;>simp at hc
   rename_i k z i ox oy h2 h3 h4 h5
   subst hc
   exact AE.wp (fun c' h=>by rw[ho]at h;cases h) (SU hm hB ho h1 h2 h3 rfl (hx x (by simp) _ h4) (hx y (by simp) _ h5) hp) hn
  cases hc
 case call c=>
  have hxa:∀x∈c.args.toList,I0 E A0 w0 β B w fr a x:=fun x h=>hx x (by simp[Call.operands];exact .inr (by simpa using h))
  split at hc
  ·rename_i f hcal
   split at hc
   ·rename_i of args h1 h2
    split at hc
    ·simp at hc;subst hc;exact hp.elim
    simp at hc
    subst hc
    have hnew:(AF E fr bx nx (.call of args)).new=none:=by
     refine(D9 (ro:=none) (a:=a) (o:=o) (Q:=Q) (next:=fun _ _=>True) hm hbx hG hS ho hcal h1 h2 (hx f (by simp[Call.operands,hcal]) _ h1) hxa hp (fun _ _ _ _ _=>trivial)).2
    exact(D9 hm hbx hG hS ho hcal h1 h2 (hx f (by simp[Call.operands,hcal]) _ h1) hxa hp (fun x w1 hs hr _=>hn x w1 β (by rw[hnew];exact hs) (by rw[hnew];exact hr))).1
   cases hc
  ·rename_i hcal
   split at hc
   ·rename_i x t h1 h2
    split at hc
    ·rename_i e hu
     obtain⟨ox,h3,rfl⟩:=Option.map_eq_some_iff.1 hc
     exact AE.wp (fun c' h=>by rw[ho]at h;cases h) (T8 hm hbx ho hcal h1 h2 hu (hxa x (by rw[h1];simp) _ h3) hp) hn
    ·split at hc
     ·obtain⟨ox,h3,rfl⟩:=Option.map_eq_some_iff.1 hc
      exact hp.elim
     cases hc
    cases hc
   cases hc
  ·rename_i hcal
   split at hc
   ·rename_i x y h1
    split at hc<;>simp at hc
    rename_i ox oy h2 h3
    subst hc
    exact AE.wp (fun c' h=>by rw[ho]at h;cases h) (Qn (mx:=true) ho (by simpa using hcal) h1 (hxa x (by rw[h1];simp) _ h2) (hxa y (by rw[h1];simp) _ h3) hp) hn
   ·rename_i x y z h1
    split at hc<;>simp at hc
    rename_i ox oy oz h2 h3 h4
    subst hc
    exact AE.wp (fun c' h=>by rw[ho]at h;cases h) (Ny (mx:=true) ho (by simpa using hcal) h1 (hxa x (by rw[h1];simp) _ h2) (hxa y (by rw[h1];simp) _ h3) (hxa z (by rw[h1];simp) _ h4) hp) hn
   cases hc
  ·rename_i hcal
   split at hc
   ·rename_i x y h1
    split at hc<;>simp at hc
    rename_i ox oy h2 h3
    subst hc
    exact AE.wp (fun c' h=>by rw[ho]at h;cases h) (Qn (mx:=false) ho (by simpa using hcal) h1 (hxa x (by rw[h1];simp) _ h2) (hxa y (by rw[h1];simp) _ h3) hp) hn
   ·rename_i x y z h1
    split at hc<;>simp at hc
    rename_i ox oy oz h2 h3 h4
    subst hc
    exact AE.wp (fun c' h=>by rw[ho]at h;cases h) (Ny (mx:=false) ho (by simpa using hcal) h1 (hxa x (by rw[h1];simp) _ h2) (hxa y (by rw[h1];simp) _ h3) (hxa z (by rw[h1];simp) _ h4) hp) hn
   cases hc
  ·split at hc
   ·split at hc
    ·split at hc<;>simp at hc
     subst hc
     exact hp.elim
    cases hc
   cases hc
  ·split at hc
   ·split at hc
    ·split at hc
     ·split at hc<;>simp at hc
      subst hc
      exact hp.elim
     cases hc
    cases hc
   cases hc
  ·split at hc
   ·split at hc
    ·split at hc
     ·split at hc<;>simp at hc
      subst hc
      exact hp.elim
     cases hc
    cases hc
   cases hc
  cases hc
 case makeInterface t x=>
  split at hc
  ·rename_i k h1
   obtain⟨ox,h2,rfl⟩:=Option.map_eq_some_iff.1 hc
   exact AE.wp (fun c' h=>by rw[ho]at h;cases h) (Ub ho h1 (hx x (by simp) _ h2) hp) hn
  cases hc
 case defer c=>
  split at hc
  ·obtain⟨ox,h1,rfl⟩:=Option.map_eq_some_iff.1 hc
   exact hp.elim
  cases hc
 case panic x=>
  obtain⟨_,_,rfl⟩:=Option.map_eq_some_iff.1 hc
  exact hp.elim
 case field t x f=>
  split at hc
  ·rename_i fs ox h1 h2
   split at hc
   ·rename_i fd h3
    split at hc
    ·rename_i ag n h4 h5
     split at hc
     ·rename_i h6
      cases hc
      exact AE.wp (fun c' h=>by rw[ho]at h;cases h) (WM ho h1 h3 h4 h5 h6 (hx x (by simp) _ h2) hp) hn
     cases hc
    cases hc
   cases hc
  cases hc
 case range t x=>
  split at hc
  ·split at hc<;>simp at hc
   subst hc
   exact hp.elim
  cases hc
 case next x s=>
  cases s<;>simp at hc
  obtain⟨_,_,rfl⟩:=hc
  exact hp.elim
 case entry x=>
  obtain⟨_,_,rfl⟩:=Option.map_eq_some_iff.1 hc
  exact hp.elim
end Go.Proofs.YtlieoghhkioflaaGreat
