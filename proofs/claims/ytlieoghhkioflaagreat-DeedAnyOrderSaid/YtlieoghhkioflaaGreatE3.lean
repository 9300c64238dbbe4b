/- The engine: FRel, FRel2, FRel3, FSound, FRange, FMain, FMain2, FDrawn, FDrawn2. No condition. -/
import Derived.Test.YtlieoghhkioflaaGreatE2
import Derived.Laws.CopyOwn
import Derived.Scope
set_option linter.unusedSimpArgs false
set_option linter.unusedVariables false
namespace Go.Proofs.YtlieoghhkioflaaGreat
open Go Go.RowKit
variable{B' B1:Br}{b:Bn}{c0:Cw}{z:Int}{has:Int->Bool}{f:Int->Ad}{kd:IntKind}{as:List Act}{stk:List Av}{g n off:Nat}{A':Nat->Prop}{Et K T t ty:TypeId}{r v:Ad}{x:Value}
variable{P:Program}{E:Db}{A0:Nat->Prop}{w0:AW}{β β1:Bn->CK}{B:Br}{nx:Nat}{w w1:World}{a:Act}{fr:Fr}{bx:Bx}
def EH(B:Br)(n:Nat):Br:=fun b=>if b.id<n then B b else none
def E5(A0:Nat->Prop)(w0:AW)(β:Bn->CK)(B:Br)(w:World):List Av->List Act->Prop
 |[],[]=>True
 |f::l,a::as=>(∀t,A7 w (Al A0 w0 B β) (EH B f.nx) β (Au f.fr t) (a.tmps.getD t undef))/\E5 A0 w0 β B w l as
 |_,_=>False
def Kb(w0:AW)(w:World)(A:Nat->Prop)(ds:List Deferred):Prop:=
 ds.Pairwise (fun d d'=>d.target≠d'.target)/\∀d∈ds,∃r,d={target:= .collected r,args:= #[]}/\w0.w.heap.size<=r/\r<w.heap.size/\A r/\w.heap[r]?=some (.deferred (some []))
theorem Kb.mono{A:Nat->Prop}{ds:List Deferred}(h:Kb w0 w A ds)(hs:w.heap.size<=w1.heap.size)(hA:∀g,g<w.heap.size->A g->A' g/\w1.heap[g]?=w.heap[g]?):Kb w0 w1 A' ds:=
 ⟨h.1,fun d hd=>by
  obtain⟨r,h1,h2,h3,h4,h5⟩:=h.2 d hd
  obtain⟨h6,h7⟩:=hA r h3 h4
  exact⟨r,h1,h2,by omega,h6,h7.trans h5⟩⟩
def DR(d:Deferred):Bool:=match d.target with| .collected _=>true|_=>false
def N1(a:Act)(as:List Act):List Deferred:=(a.defers++as.flatMap (·.defers)).filter DR
def Dw(a:Act):List Deferred:=a.defers.filter fun d=> !DR d
def FQ(nt:Nat)(ds:List Deferred)(a:Act):Prop:=nt<=a.tmps.size/\Dw a=ds
structure AL(P:Program)(A0:Nat->Prop)(w0:AW)(β:Bn->CK)(stk:List Av)(as:List Act)(fr:Fr)(bx:Bx)(nx:Nat)(a:Act)(w:World):Prop where
 mem:Fp P A0 w0 β (Ab bx) nx w
 fr:∀t,Ar A0 w0 β (Ab bx) w (Au fr t) (a.tmps.getD t undef)
 st:E5 A0 w0 β (Ab bx) w stk as
 df:Kb w0 w (Al A0 w0 (Ab bx) β) (N1 a as)
 sn:∀f∈stk,f.nx<=nx
theorem Ac(bx:Bx)(b:Bn)(c:Cw)(x:Bn):Ab (Aj bx b c) x=if x=b then some c else Ab bx x:=by
 induction bx with
 |nil=>cases b<;>cases x<;>simp[Aj,Ab,eq_comm]
 |cons p l ih=>
  obtain⟨t,v⟩:=p
  cases v with
  |one c'=>
   cases b with
   |n b=>
    simp only[Aj]
    by_cases h:t=b
    ·subst h
     cases x with
     |n x=>by_cases h2:t=x<;>simp[Ab,h2,eq_comm]
     |f x z=>simp[Ab]
    simp only[if_neg h]
    cases x with
    |n x=>
     simp only[Ab,ih]
     by_cases h2:t=x
     ·subst h2;simp[h]
     simp[h2]
    |f x z=>simp[Ab,ih]
   |f b z=>
    simp only[Aj]
    cases x with
    |n x=>simp[Ab,ih]
    |f x z'=>simp only[Ab,ih]
  |fam d r=>
   cases b with
   |n b=>
    simp only[Aj]
    cases x with
    |n x=>simp only[Ab,ih]
    |f x z=>simp[Ab,ih]
   |f b z=>
    simp only[Aj]
    by_cases h:t=b
    ·subst h
     cases x with
     |n x=>simp[Ab]
     |f x z'=>
      by_cases h2:t=x
      ·subst h2
       by_cases h3:z'=z
       ·subst h3;simp[Ab]
       simp[Ab,h3]
      simp only[if_true,Ab,h2,false_and,if_false]
      rw[if_neg (by intro e;injection e with e1 _;exact h2 e1.symm)]
    simp only[if_neg h]
    cases x with
    |n x=>simp[Ab,ih]
    |f x z'=>
     simp only[Ab,ih]
     by_cases h2:t=x
     ·subst h2
      have:¬Bn.f t z'=Bn.f b z:=by intro e;injection e with e1 _;exact h e1
      simp[this]
     simp[h2]
theorem Bt(bx:Bx)(b x:Bn):Ab (BQ bx b) x=if x=b then none else Ab bx x:=by
 induction bx with
 |nil=>cases b<;>simp[BQ,Ab]
 |cons p l ih=>
  obtain⟨t,v⟩:=p
  cases v with
  |one c'=>
   cases b with
   |n b=>
    simp only[BQ]
    by_cases h:t=b
    ·subst h
     simp only[if_true,ih]
     cases x with
     |n x=>
      by_cases h2:t=x
      ·subst h2;simp
      have:¬Bn.n x=Bn.n t:=by intro e;injection e with e1;exact h2 e1.symm
      simp[Ab,h2,this]
     |f x z=>simp[Ab]
    simp only[if_neg h]
    cases x with
    |n x=>
     simp only[Ab,ih]
     by_cases h2:t=x
     ·subst h2;simp[h]
     simp[h2]
    |f x z=>simp[Ab,ih]
   |f b z=>
    simp only[BQ]
    cases x with
    |n x=>simp[Ab,ih]
    |f x z'=>simp only[Ab,ih]
  |fam d r=>
   cases b with
   |n b=>
    simp only[BQ]
    cases x with
    |n x=>simp only[Ab,ih]
    |f x z=>simp[Ab,ih]
   |f b z=>
    simp only[BQ]
    by_cases h:t=b
    ·subst h
     simp only[if_true]
     cases x with
     |n x=>simp[Ab,ih]
     |f x z'=>
      simp only[Ab,ih]
      by_cases h2:t=x
      ·subst h2
       by_cases h3:z'=z
       ·subst h3;simp
       have:¬Bn.f t z'=Bn.f t z:=by intro e;injection e with _ e1;exact h3 e1
       simp[h3]
      have:¬Bn.f x z'=Bn.f t z:=by intro e;injection e with e1 _;exact h2 e1.symm
      simp[h2,this]
    simp only[if_neg h]
    cases x with
    |n x=>simp[Ab,ih]
    |f x z'=>
     simp only[Ab,ih]
     by_cases h2:t=x
     ·subst h2
      have:¬Bn.f t z'=Bn.f b z:=by intro e;injection e with e1 _;exact h e1
      simp[this]
     simp[h2]
theorem AP(b:Bn)(r:Ad)(bx:Bx)(x:Bn):Ab (AJ b r bx) x=(Ab bx x).map (BU b r):=by
 induction bx with
 |nil=>cases x<;>rfl
 |cons p l ih=>
  obtain⟨t,v⟩:=p
  cases v<;>cases x<;>simp only[AJ,Ab,ih]<;>first|rfl|(split<;>simp)
theorem Fy(b:Bn)(r:Ad)(fr:Fr)(t:Nat):Au (AK b r fr) t=if(fr.any fun p=>p.1==t)then Bc b r (Au fr t)else .und:=by
 induction fr with
 |nil=>rfl
 |cons p l ih=>
  obtain⟨s,v⟩:=p
  simp only[AK,Au,ih,List.any_cons]
  by_cases h:s=t
  ·simp[h]
  have:(s==t)=false:=by simp[h]
  simp only[if_neg h,this,Bool.false_or]
theorem AV(fr:Fr)(d:Option Nat)(v:Ad)(t:Nat):Au (Ai fr d v) t=if d=some t then v else Au fr t:=by
 cases d with
 |none=>simp[Ai]
 |some s=>simp[Ai,Au]
theorem TF(a:Act)(d:Option Nat)(x:Value)(t:Nat)(hd:∀s,d=some s->s<a.tmps.size):(a.put d x).tmps.getD t undef=if d=some t then x else a.tmps.getD t undef:=by
 cases d with
 |none=>simp[Act.put]
 |some s=>
  have:=hd s rfl
  by_cases h:s=t
  ·subst h;simp[Act.put,this]
  simp[Act.put,Array.getElem?_setIfInBounds_ne h,h]
theorem Nl(a:Act)(d:Option Nat)(x:Value):(a.put d x).tmps.size=a.tmps.size:=by cases d<;>simp[Act.put]
theorem OL(a:Act)(d:Option Nat)(x:Value):(a.put d x).defers=a.defers:=by cases d<;>simp[Act.put]
theorem FQ.put{nt:Nat}{ds:List Deferred}(h:FQ nt ds a){d:Option Nat}:FQ nt ds (a.put d x):=⟨by rw[Nl];exact h.1,by rw[Dw,OL];exact h.2⟩
theorem EX(a:Act)(as:List Act)(d:Option Nat)(x:Value):N1 (a.put d x) as=N1 a as:=by simp only[N1,OL]
theorem F9{A:Nat->Prop}{B:Br}(hf:∀t,A7 w A B β (Au fr t) (a.tmps.getD t undef))(hv:A7 w A B β v x)(d:Option Nat)(hd:∀s,d=some s->s<a.tmps.size)(t:Nat):
  A7 w A B β (Au (Ai fr d v) t) ((a.put d x).tmps.getD t undef):=by
 rw[AV,TF _ _ _ _ hd]
 split
 ·exact hv
 exact hf t
theorem A7.und{A:Nat->Prop}{B:Br}(x:Value):A7 w A B β .und x:=trivial
theorem E5.mono{A A':Nat->Prop}(h:∀n v x,A7 w (Al A0 w0 B β) (EH B n) β v x->A7 w1 (Al A0 w0 (Ab bx) β1) (EH (Ab bx) n) β1 v x):∀{stk as},E5 A0 w0 β B w stk as->E5 A0 w0 β1 (Ab bx) w1 stk as:=by
 intro stk;induction stk with
 |nil=>intro as hs;cases as<;>exact hs
 |cons f l ih=>
  intro as hs
  cases as with
  |nil=>exact hs
  |cons a as=>exact⟨fun t=>h _ _ _ (hs.1 t),ih hs.2⟩
theorem B3(bx:Bx)(nx:Nat)(new:Option Cw):Ab (CX nx new bx)=Dc (Ab bx) nx new:=by
 cases new with
 |none=>rfl
 |some c=>
  funext x
  cases x with
  |n x=>
   simp only[CX,Ab,Dc]
   by_cases h:nx=x
   ·simp[h]
   simp[h];intro e;exact absurd e.symm h
  |f x z=>simp[CX,Ab,Dc]
theorem BR(nx:Nat)(c:Cw)(bx:Bx)(y:Bn):Ab ((nx,.one c)::bx) y=if y= .n nx then some c else Ab bx y:=congrFun (B3 bx nx (some c)) y
theorem AL.soft{new:Option Cw}(h:AL P A0 w0 β stk as fr bx nx a w)(hs:CD P A0 w0 β β1 (Ab bx) nx new w w1)(hv:Ar A0 w0 β1 (Dc (Ab bx) nx new) w1 v x)(d:Option Nat)(hd:∀s,d=some s->s<a.tmps.size):
  AL P A0 w0 β1 stk as (Ai fr d v) (CX nx new bx) (Da nx new) (a.put d x) w1:=by
 have hB:Ab bx nx=none:=by
  cases hb:Ab bx nx with
  |none=>rfl
  |some c=>exact absurd (h.mem.nx nx c hb) (Nat.lt_irrefl nx)
 refine⟨?_,?_,?_,by rw[EX,B3];exact h.df.mono hs.keep.size (hs.al h.mem hB),fun f hf=>Nat.le_trans (h.sn f hf) (by cases new<;>simp[Da])⟩
 ·rw[B3];exact hs.mem h.mem hB (by cases new<;>simp[Da]) (fun c hc=>by subst hc;simp[Da])
 ·rw[B3];exact F9 (fun t=>hs.rep h.mem hB (h.fr t)) hv d hd
 refine E5.mono (A:=fun _=>True) (A':=fun _=>True) (fun n v x hr=> ?_) h.st
 rw[B3]
 refine A7.mono hs.keep.size (hs.al h.mem hB) (fun b c hb=> ?_) v x hr
 simp only[EH]at hb⊢
 split at hb
 ·rename_i hlt
  rw[if_pos hlt]
  exact⟨c,C6 hB hb,CR.refl c,hs.loc b c hb⟩
 cases hb
theorem AL.void(h:AL P A0 w0 β stk as fr bx nx a w)(d:Option Nat)(hd:∀s,d=some s->s<a.tmps.size):AL P A0 w0 β stk as (Ai fr d (.tup .nil)) bx nx (a.put d undef) w:=
 ⟨h.mem,F9 h.fr (v:= .tup .nil) (x:=undef) ⟨[],rfl,rfl⟩ d hd,h.st,by rw[EX];exact h.df,h.sn⟩
structure LK(A0:Nat->Prop)(w0:AW)(β β1:Bn->CK)(b:Bn)(w w1:World):Prop where
 size:w.heap.size<=w1.heap.size
 blk:∀k,k<w.heap.size->(β b).a≠some k->w1.heap[k]?=w.heap[k]?
 loc:∀x,x≠b->β1 x=β x
 fresh:∀g,(β1 b).a=some g->((β b).a=some g\/w.heap.size<=g)/\g<w1.heap.size
 below:w0.Under w1
def FE(B:Br)(b:Bn)(c:Cw):Br:=fun x=>if x=b then some c else B x
theorem LK.al(h:LK A0 w0 β β1 b w w1)(hb:B b=some c0)(hd:∀x c,B1 x=some c->∃c',B x=some c'):∀g,g<w.heap.size->Al A0 w0 B β g->Al A0 w0 B1 β1 g/\w1.heap[g]?=w.heap[g]?:=by
 rintro g hg ⟨hA,hn⟩
 refine⟨⟨hA,fun x c hx e=> ?_⟩,h.blk g hg (hn b c0 hb)⟩
 by_cases hxb:x=b
 ·subst hxb
  rcases(h.fresh g e).1 with e2|e2
  ·exact hn x c0 hb e2
  omega
 rw[h.loc x hxb]at e
 obtain⟨c',hc'⟩:=hd x c hx
 exact hn x c' hc' e
theorem He{A:Nat->Prop}{B:Br}(hr:∀x,A7 w A B β (.own b) x->A7 w1 A' B' β1 r x)(hp:∀off x,A7 w A B β (.ptr b off) x->A7 w1 A' B' β1 (Wv r off) x)(hs:w.heap.size<=w1.heap.size)
  (hA:∀g,g<w.heap.size->A g->A' g/\w1.heap[g]?=w.heap[g]?) (hx:∀x c,x≠b->B x=some c->∃c',B' x=some c'/\CR c c'/\β1 x=β x):
  ∀(v:Ad) (x:Value),A7 w A B β v x->A7 w1 A' B' β1 (Bc b r v) x:=by
 intro v
 induction v with
 |cons h t ih1 ih2=>rintro x ⟨y,ys,rfl,h1,h2⟩;exact⟨y,ys,rfl,ih1 y h1,ih2 _ h2⟩
 |agg l ih=>rintro x ⟨ys,rfl,h⟩;exact⟨ys,rfl,ih _ h⟩
 |tup l ih=>rintro x ⟨ys,rfl,h⟩;exact⟨ys,rfl,ih _ h⟩
 |func fn l ih=>rintro x ⟨ys,rfl,h⟩;exact⟨ys,rfl,ih _ h⟩
 |ptr b' off=>
  intro x h
  simp only[Bc]
  split
  ·rename_i he;subst he;exact hp off x h
  rename_i hne
  obtain⟨⟨l,hB,hpb⟩,g,hg,rfl⟩:=h
  obtain⟨c',hc,hk,hβ⟩:=hx b' _ hne hB
  exact⟨⟨c',hc,hk.ptrB hpb⟩,g,by rw[hβ];exact hg,rfl⟩
 |mapb b'=>
  rintro x ⟨⟨kd,c,hB,hm⟩,g,hg,rfl⟩
  simp only[Bc]
  split
  ·trivial
  rename_i hne
  obtain⟨c',hc,hk,hβ⟩:=hx b' _ hne hB
  exact⟨⟨kd,c',hc,hk.map hm⟩,g,by rw[hβ];exact hg,rfl⟩
 |own b'=>
  intro x h
  simp only[Bc]
  split
  ·rename_i he;subst he;exact hr x h
  rename_i hne
  obtain⟨⟨e,k,n,c,hB,hm⟩,rfl⟩:=h
  obtain⟨c',hc,hk,hβ⟩:=hx b' _ hne hB
  obtain⟨e',he⟩:=hk.row hm
  exact⟨⟨e',k,n,c',hc,he⟩,by rw[hβ]⟩
 |rptr b' i off=>
  rintro x ⟨e,k,n,⟨c,hB,hm⟩,hi,g,hg,rfl⟩
  simp only[Bc]
  split
  ·trivial
  rename_i hne
  obtain⟨c',hc,hk,hβ⟩:=hx b' _ hne hB
  obtain⟨e',he⟩:=hk.row hm
  exact⟨e',k,n,⟨c',hc,he⟩,hi,g,by rw[hβ];exact hg,rfl⟩
 |osl b' off m=>
  rintro x ⟨e,k,n,⟨c,hB,hm⟩,hi,ad,cap,rfl,hcap,ha⟩
  simp only[Bc]
  split
  ·trivial
  rename_i hne
  obtain⟨c',hc,hk,hβ⟩:=hx b' _ hne hB
  obtain⟨e',he⟩:=hk.row hm
  exact⟨e',k,n,⟨c',hc,he⟩,hi,ad,cap,rfl,hcap,by rw[hβ];exact ha⟩
 |yld b'=>
  rintro x ⟨g,fr,ps,ca,cb,st,hB,rfl⟩
  simp only[Bc]
  split
  ·trivial
  rename_i hne
  obtain⟨c',hc,hk,hβ⟩:=hx b' _ hne hB
  cases c' with
  |lp g' fr' ps' ca' cb' st'=>obtain⟨rfl,_⟩:=hk;exact⟨g,fr',ps',ca',cb',st',hc,rfl⟩
  |_=>simp[CR]at hk
 |nil=>intro x h;exact h
 |und=>intro x h;trivial
 |_=>intro x h;exact Ao.mono hs hA _ x h
theorem Q3(b:Bn)(r:Ad):∀l,BA l=true->BA (Bc b r l)=true/\Bb (Bc b r l)=Bb l:=by
 intro l;induction l with
 |cons h t _ ih=>intro hl;obtain⟨e1,e2⟩:=ih hl;exact⟨e1,by simp[Bc,Bb,e2]⟩
 |nil=>intro _;exact⟨rfl,rfl⟩
 |_=>intro hl;simp[BA]at hl
theorem Oe:∀(v l:Ad) (off:Nat),BA l=true->BA (Dh l off v)=true:=by
 have h1:∀(l:Ad) (j:Nat) (v:Ad),BA l=true->BA (G4 l j v)=true:=by
  intro l;induction l with
  |cons a t _ ih=>intro j v h;cases j with
   |zero=>exact h
   |succ j=>exact ih j v h
  |nil=>intro j v h;cases j<;>exact h
  |_=>intro j v h;simp[BA]at h
 intro v;induction v with
 |cons h t ih1 ih2=>intro l off hl;simp only[Dh];exact ih2 _ _ (h1 l off h hl)
 |_=>intro l off hl;cases l<;>first|exact hl|(simp[BA]at hl;done)
theorem VP{A:Nat->Prop}{B:Br}{x:Nat->Value}(hr:∀v x,A7 w A B β v x->A7 w1 A' B' β1 (Bc b r v) x)(hf:∀t,A7 w A B β (Au fr t) (x t))(t:Nat):A7 w1 A' B' β1 (Au (AK b r fr) t) (x t):=by
 rw[Fy]
 split
 ·exact hr _ _ (hf t)
 trivial
theorem N6{A:Nat->Prop}{B:Br}(hr:∀v x,A7 w A B β v x->A7 w1 A' B' β1 (Bc b r v) x)(hf:∀t,A7 w A B β (Au fr t) (a.tmps.getD t undef))(t:Nat):A7 w1 A' B' β1 (Au (AK b r fr) t) (a.tmps.getD t undef):=by
 rw[Fy]
 split
 ·exact hr _ _ (hf t)
 trivial
theorem E5.sub(hr:∀n v x,A7 w (Al A0 w0 B β) (EH B n) β v x->A7 w1 (Al A0 w0 B1 β1) (EH B1 n) β1 (Bc b r v) x):∀{stk as},E5 A0 w0 β B w stk as->E5 A0 w0 β1 B1 w1 (AC b r stk) as:=by
 intro stk;induction stk with
 |nil=>intro as hs;cases as<;>exact hs
 |cons f l ih=>
  intro as hs
  cases as with
  |nil=>exact hs
  |cons a as=>exact⟨fun t=>N6 (hr _) hs.1 t,ih hs.2⟩
theorem AL.nxn(h:AL P A0 w0 β stk as fr bx nx a w):Ab bx nx=none:=by
 cases hb:Ab bx nx with
 |none=>rfl
 |some c=>exact absurd (h.mem.nx nx c hb) (Nat.lt_irrefl nx)
theorem Fp.upd{c1:Cw}(hm:Fp P A0 w0 β B nx w)(hu:LK A0 w0 β β1 b w w1)(hb:B b=some c0)(h1:B1 b=some c1)(hd:∀x c,x≠b->B1 x=some c->∃c',B x=some c')(hbox:CP P w1 (Al A0 w0 B1 β1) B1 β1 0 b c1)
  (hothers:∀x c,x≠b->B1 x=some c->CP P w1 (Al A0 w0 B1 β1) B1 β1 0 x c):Fp P A0 w0 β1 B1 nx w1 where
 bx:=by
  intro x c hx
  by_cases hxb:x=b
  ·subst hxb;rw[h1]at hx;cases hx;exact hbox
  exact hothers x c hxb hx
 inj:=by
  intro x c x' c' g hx hx' hne hg hg'
  by_cases hxb:x=b
  ·subst hxb
   have hne':x'≠x:=fun e=>hne e.symm
   obtain⟨c2,hc2⟩:=hd x' c' hne' hx'
   rw[hu.loc x' hne']at hg'
   rcases(hu.fresh g hg).1 with e|e
   ·exact hm.inj x c0 x' c2 g hb hc2 hne e hg'
   have:=(hm.base x' c2 g hc2 hg').2;omega
  obtain⟨c2,hc2⟩:=hd x c hxb hx
  rw[hu.loc x hxb]at hg
  by_cases hxb':x'=b
  ·subst hxb'
   rcases(hu.fresh g hg').1 with e|e
   ·exact hm.inj x c2 x' c0 g hc2 hb hne hg e
   have:=(hm.base x c2 g hc2 hg).2;omega
  obtain⟨c3,hc3⟩:=hd x' c' hxb' hx'
  rw[hu.loc x' hxb']at hg'
  exact hm.inj x c2 x' c3 g hc2 hc3 hne hg hg'
 nx:=by
  intro x c hx
  by_cases hxb:x=b
  ·subst hxb;exact hm.nx x c0 hb
  obtain⟨c2,hc2⟩:=hd x c hxb hx;exact hm.nx x c2 hc2
 base:=by
  intro x c g hx hg
  by_cases hxb:x=b
  ·subst hxb
   obtain⟨e,h2⟩:=hu.fresh g hg
   rcases e with e|e
   ·exact⟨(hm.base x c0 g hb e).1,h2⟩
   exact⟨.inl (Nat.le_trans hm.below.size e),h2⟩
  obtain⟨c2,hc2⟩:=hd x c hxb hx
  rw[hu.loc x hxb]at hg
  have h1:=hm.base x c2 g hc2 hg
  exact⟨h1.1,Nat.lt_of_lt_of_le h1.2 hu.size⟩
 below:=hu.below
theorem LK.row{cs:Array Value}(hm:Fp P A0 w0 β B nx w)(hb:B b=some c0)(hg:(β b).a=some g):LK A0 w0 β β b w (w.setRow g cs) where
 size:=by simp
 blk k _ hk:=setRow_other w g k cs (fun e=>hk (by rw[e];exact hg))
 loc _ _:=rfl
 fresh g' hg':=⟨.inl hg',by simp;exact(hm.base b c0 g' hb hg').2⟩
 below:=hm.below.setRow (hm.base b c0 g hb hg).1 cs
theorem Ki(ys zs:List Value)(off:Nat)(h:off+ys.length<=zs.length):BC zs off ys=zs.take off++ys++zs.drop (off+ys.length):=by
 apply List.ext_getElem?
 intro p
 rw[ET _ _ _ _ h]
 by_cases h1:p<off
 ·rw[if_neg (by omega),List.append_assoc,List.getElem?_append_left (by simp;omega),List.getElem?_take_of_lt h1]
 by_cases h2:p<off+ys.length
 ·rw[if_pos (by omega),List.getElem?_append_left (by simp;omega),List.getElem?_append_right (by simp;omega)]
  congr 1
  simp;omega
 rw[if_neg (by omega),List.getElem?_append_right (by simp;omega),List.getElem?_drop]
 congr 1
 simp;omega
theorem Ga{ys:List Value}(hn:BN P t=some n)(hx:x.cells.size=n)(hone:∀y∈x.cells.toList,y.oneCell'=true)(hg:w.heap[g]?=some (.cells ⟨ys⟩ ty (0,0)))(hl:off+n<=ys.length):
  (Instr.storeAt t (.pointer (some ⟨g,off,none⟩)) x).run P w= .ok () (w.setRow g ⟨BC ys off x.cells.toList⟩):=by
 obtain⟨i,hi,hi'⟩:=Option.map_eq_some_iff.1 hn
 have h6:(sizeOf t).run P w= .ok n w:=by simp[sizeOf,typeInfo,hi,hi']
 have hxl:x.cells.toList.length=n:=by simpa using hx
 have hs:=run_storeCells_at P g off ty x.cells.toList 0 ⟨ys⟩ w hg (by simp;omega) hone
 rw[Ki _ _ _ (by omega)]
 simp only[Instr.storeAt,Instr.sureAddr,storeVar,Sem.run_bind,Sem.run_pure,Result.andThen_ok,h6]
 rw[if_neg (by simp[hx])]
 simpa using hs
theorem Fh(bx:Bx)(b:Bn)(c:Cw):Ab (Aj bx b c)=FE (Ab bx) b c:=by funext y;rw[Ac];rfl
def H5(B:Br)(b:Bn):Prop:=∀y mb kd seen last,B y=some (.it (some mb) kd seen last)->mb≠b
theorem Fp.noIt(hm:Fp P A0 w0 β B nx w)(hb:B b=some c0)(hnm:QT c0=none):H5 B b:=by
 intro y mb kd seen last hy e
 subst e
 obtain⟨_,_,h2⟩:=hm.bx y _ hy
 obtain⟨⟨cm,h3,h4⟩,_⟩:=h2 mb rfl
 rw[hb]at h3;cases h3
 rw[hnm]at h4;cases h4
theorem Fx:∀{bx:Bx},noIt b bx->H5 (Ab bx) b:=by
 have h1:∀(c:Cw) mb kd seen last,JE b c->c= .it (some mb) kd seen last->mb≠b:=by
  intro c mb kd seen last h e;subst e;exact h
 intro bx;induction bx with
 |nil=>intro _ y mb kd seen last hy;cases y<;>simp[Ab]at hy
 |cons p l ih=>
  obtain⟨t,c⟩:=p
  intro h y mb kd seen last hy
  cases c with
  |one c=>
   cases y with
   |n y=>
    simp only[Ab]at hy
    split at hy
    ·exact h1 _ _ _ _ _ h.1 (Option.some.inj hy)
    exact ih h.2 _ mb kd seen last hy
   |f y z=>exact ih h.2 _ mb kd seen last hy
  |fam d r=>
   cases y with
   |n y=>exact ih h.2 _ mb kd seen last hy
   |f y z=>
    simp only[Ab]at hy
    split at hy
    ·rename_i hd;exact h1 _ _ _ _ _ (h.1 z hd.2) (Option.some.inj hy)
    exact ih h.2 _ mb kd seen last hy
theorem AL.updK(h:AL P A0 w0 β stk as fr bx nx a w){c1:Cw}(hb:Ab bx b=some c0)(hni:H5 (Ab bx) b)(hk:CR c0 c1)(hu:LK A0 w0 β β b w w1)
  (hbox:(∀v' x',Ar A0 w0 β (Ab bx) w v' x'->Ar A0 w0 β (FE (Ab bx) b c1) w1 v' x')->(∀v' x',HV A0 w0 β (Ab bx) w v' x'->HV A0 w0 β (FE (Ab bx) b c1) w1 v' x')->CP P w1 (Al A0 w0 (FE (Ab bx) b c1) β) (FE (Ab bx) b c1) β 0 b c1)
  (d:Option Nat) (hd:∀s,d=some s->s<a.tmps.size) (u:Value):AL P A0 w0 β stk as (Ai fr d .und) (Aj bx b c1) nx (a.put d u) w1:=by
 have hdom:∀y c,FE (Ab bx) b c1 y=some c->∃c',Ab bx y=some c':=by
  intro y c hy
  by_cases hyb:y=b
  ·subst hyb;exact⟨_,hb⟩
  simp[FE,hyb]at hy;exact⟨c,hy⟩
 have hal:=hu.al hb hdom
 have hkin:∀y c,Ab bx y=some c->∃c',FE (Ab bx) b c1 y=some c'/\CR c c'/\β y=β y:=by
  intro y c hy
  by_cases hyb:y=b
  ·subst hyb;rw[hb]at hy;cases hy;exact⟨c1,by simp[FE],hk,rfl⟩
  exact⟨c,by simp[FE,hyb];exact hy,CR.refl c,rfl⟩
 have hmono:∀v' x',Ar A0 w0 β (Ab bx) w v' x'->Ar A0 w0 β (FE (Ab bx) b c1) w1 v' x':=fun v' x' hr'=>A7.mono hu.size hal hkin v' x' hr'
 refine⟨?_,?_,?_,by rw[EX,Fh];exact h.df.mono hu.size hal,h.sn⟩
 ·rw[Fh]
  refine h.mem.upd (c1:=c1) hu hb (by simp[FE]) (fun y c _ hy=>hdom y c hy) (hbox hmono fun v' x' hr'=>Ao.mono hu.size hal v' x' hr') fun y c hyb hy=> ?_
  simp[FE,hyb]at hy
  refine(h.mem.bx y c hy).mono hu.size hal hkin rfl (fun g' hg'=>hu.blk g' (h.mem.base y c g' hy hg').2 fun e=>h.mem.inj y c b _ g' hy hb hyb hg' e) fun mb kd seen last e g' hg'=> ?_
  subst e
  obtain⟨_,_,h2⟩:=h.mem.bx y _ hy
  obtain⟨⟨cm,h3,_⟩,_⟩:=h2 mb rfl
  have hmb:=hni y mb kd seen last hy
  exact hu.blk g' (h.mem.base mb _ g' h3 hg').2 fun e=>h.mem.inj mb _ b _ g' h3 hb hmb hg' e
 ·rw[Fh];exact F9 (fun t=>hmono _ _ (h.fr t)) (A7.und u) d hd
 have hst:=h.st
 rw[<-Fh]at hal hkin
 refine E5.mono (A:=fun _=>True) (A':=fun _=>True) (fun n' v' x' hr'=>A7.mono hu.size hal (fun y c hy=> ?_) v' x' hr') hst
 unfold EH at hy⊢
 split at hy
 ·rename_i hlt
  obtain⟨c',q1,q2,q3⟩:=hkin y c hy
  exact⟨c',by rw[if_pos hlt];exact q1,q2,q3⟩
 cases hy
theorem AL.store(h:AL P A0 w0 β stk as fr bx nx a w){l:Ad}(hb:Ab bx b=some (.cells l))(hg:(β b).a=some g)(hcn:Bg n v)(hv:Ar A0 w0 β (Ab bx) w v x)(hoff:off+n<=Bb l)
  {ys:List Value} (hh:w.heap[g]?=some (.cells ⟨ys⟩ ty (0,0))) (hr:Ar A0 w0 β (Ab bx) w l (.tuple ⟨ys⟩)) (d:Option Nat) (hd:∀s,d=some s->s<a.tmps.size) (u:Value):
  AL P A0 w0 β stk as (Ai fr d .und) (Aj bx b (.cells (Dh l off (cellsOf v)))) nx (a.put d u) (w.setRow g ⟨BC ys off x.cells.toList⟩):=by
 obtain⟨e1,e2,e3,e4⟩:=Dp hcn hv
 have hlb:=(h.mem.bx b _ hb).1
 refine h.updK (c1:= .cells (Dh l off (cellsOf v))) hb (h.mem.noIt hb rfl) trivial (LK.row h.mem hb hg) (fun hmono _=> ?_) d hd u
 exact⟨Oe _ _ _ hlb,g,_,ty,hg,setRow_heap w g _ _ ty _ hh,hmono _ _ (K7 (off:=off) hr e3 (CE e1) (by omega))⟩
theorem AL.mapset(h:AL P A0 w0 β stk as fr bx nx a w)(hb:Ab bx b=some (.mp kd has f))(hni:H5 (Ab bx) b)(hg:(β b).a=some g)(hv:Ar A0 w0 β (Ab bx) w v x)
  (hT:P.underlying T=some (.map K Et)) (hK:P.underlying K=some (.int kd)) (d:Option Nat) (hd:∀s,d=some s->s<a.tmps.size) (u:Value):
  ∃w1,(Instr.mapUpdate T (.map (some g)) (.int kd z) x).run P w= .ok () w1/\
  AL P A0 w0 β stk as (Ai fr d .und) (Aj bx b (.mp kd (fun j=>if j=z then true else has j) fun j=>if j=z then v else f j)) nx (a.put d u) w1:=by
 obtain⟨g',m,e1,hm,hc⟩:=h.mem.bx b _ hb
 rw[hg]at e1;cases e1
 obtain⟨w1,hrun,hm1,hgr⟩:=Ek hm hT hK z x
 have hbase:=h.mem.base b _ g hb hg
 have hbl:w0.Under w1:=h.mem.below.grown hgr (fun k hk=>by cases hk;exact hbase.1)
 have hgr':=hgr
 obtain⟨_,_,_,hsz,hoth⟩:=hgr'
 refine⟨w1,hrun,h.updK (c1:= .mp kd (fun j=>if j=z then true else has j) fun j=>if j=z then v else f j) hb hni rfl ⟨by omega,fun k hk hne=>hoth k hk (fun e=>hne (by rw[hg];exact e.symm)),fun _ _=>rfl,fun g' hg'=>⟨.inl hg',by have:=(h.mem.base b _ g' hb hg').2;omega⟩,hbl⟩ (fun hmono _=> ?_) d hd u⟩
 refine⟨g,_,hg,hm1,fun k=> ?_⟩
 by_cases hk:k=z
 ·subst hk
  exact⟨fun h=>by simp at h,fun _=>⟨x,by simp,by simpa using hmono _ _ hv⟩⟩
 refine⟨fun h2=> ?_,fun h2=> ?_⟩<;>simp only[if_neg hk]at h2⊢
 ·exact(hc k).1 h2
 obtain⟨y,hy,hr⟩:=(hc k).2 h2
 exact⟨y,hy,hmono _ _ hr⟩
theorem AL.mapsetZ(h:AL P A0 w0 β stk as fr bx nx a w)(hb:Ab bx b=some (.mz kd f))(hni:H5 (Ab bx) b)(hg:(β b).a=some g)(hv:Ar A0 w0 β (Ab bx) w v x)
  (hT:P.underlying T=some (.map K Et)) (hK:P.underlying K=some (.int kd)) (d:Option Nat) (hd:∀s,d=some s->s<a.tmps.size) (u:Value):
  ∃w1,(Instr.mapUpdate T (.map (some g)) (.int kd z) x).run P w= .ok () w1/\
  AL P A0 w0 β stk as (Ai fr d .und) (Aj bx b (.mz kd fun j=>if j=z then v else f j)) nx (a.put d u) w1:=by
 obtain⟨g',m,e1,hm,hc⟩:=h.mem.bx b _ hb
 rw[hg]at e1;cases e1
 obtain⟨w1,hrun,hm1,hgr⟩:=Ek hm hT hK z x
 have hbase:=h.mem.base b _ g hb hg
 have hbl:w0.Under w1:=h.mem.below.grown hgr (fun k hk=>by cases hk;exact hbase.1)
 have hgr':=hgr
 obtain⟨_,_,_,hsz,hoth⟩:=hgr'
 refine⟨w1,hrun,h.updK (c1:= .mz kd fun j=>if j=z then v else f j) hb hni rfl ⟨by omega,fun k hk hne=>hoth k hk (fun e=>hne (by rw[hg];exact e.symm)),fun _ _=>rfl,fun g' hg'=>⟨.inl hg',by have:=(h.mem.base b _ g' hb hg').2;omega⟩,hbl⟩ (fun hmono _=> ?_) d hd u⟩
 refine⟨g,_,hg,hm1,fun k=> ?_⟩
 by_cases hk:k=z
 ·subst hk
  simpa using hmono _ _ hv
 simp only[if_neg hk];exact hmono _ _ (hc k)
theorem AL.putv(h:AL P A0 w0 β stk as fr bx nx a w)(hv:Ar A0 w0 β (Ab bx) w v x)(d:Option Nat)(hd:∀s,d=some s->s<a.tmps.size):AL P A0 w0 β stk as (Ai fr d v) bx nx (a.put d x) w:=
 ⟨h.mem,F9 h.fr hv d hd,h.st,by rw[EX];exact h.df,h.sn⟩
theorem AL.mapdel(h:AL P A0 w0 β stk as fr bx nx a w)(hb:Ab bx b=some (.mp kd has f))(hni:H5 (Ab bx) b)(hg:(β b).a=some g)
  (hT:P.underlying T=some (.map K Et)) (hK:P.underlying K=some (.int kd)) (d:Option Nat) (hd:∀s,d=some s->s<a.tmps.size) (u:Value) (ty:TypeId):
  ∃w1,(Builtin.delete_ #[T,K] ty #[.map (some g),.int kd z]).run P w= .ok (.tuple #[]) w1/\
  AL P A0 w0 β stk as (Ai fr d .und) (Aj bx b (.mp kd (fun j=>if j=z then false else has j) f)) nx (a.put d u) w1:=by
 obtain⟨g',m,e1,hm,hc⟩:=h.mem.bx b _ hb
 rw[hg]at e1;cases e1
 obtain⟨w1,hrun,hm1,hgr⟩:=IQ hm hT hK z ty
 have hbase:=h.mem.base b _ g hb hg
 have hbl:w0.Under w1:=h.mem.below.grown hgr (fun k hk=>by cases hk;exact hbase.1)
 have hgr':=hgr
 obtain⟨_,_,_,hsz,hoth⟩:=hgr'
 refine⟨w1,hrun,h.updK (c1:= .mp kd (fun j=>if j=z then false else has j) f) hb hni rfl ⟨by omega,fun k hk hne=>hoth k hk (fun e=>hne (by rw[hg];exact e.symm)),fun _ _=>rfl,fun g' hg'=>⟨.inl hg',by have:=(h.mem.base b _ g' hb hg').2;omega⟩,hbl⟩ (fun hmono _=> ?_) d hd u⟩
 refine⟨g,_,hg,hm1,fun k=> ?_⟩
 by_cases hk:k=z
 ·subst hk
  exact⟨fun _=>by simp,fun h=>by simp at h⟩
 refine⟨fun h2=> ?_,fun h2=> ?_⟩<;>simp only[if_neg hk]at h2⊢
 ·exact(hc k).1 h2
 obtain⟨y,hy,hr⟩:=(hc k).2 h2
 exact⟨y,hy,hmono _ _ hr⟩
theorem AL.rngm(h:AL P A0 w0 β stk as fr bx nx a w)(hb:Ab bx b=some (.mp kd has f))(hg:(β b).a=some g)
  (hT:P.underlying T=some (.map K Et)) (d:Option Nat) (hd:∀s,d=some s->s<a.tmps.size):
  ∃β1 w1 x,(Instr.range T (.map (some g))).run P w= .ok x w1/\AL P A0 w0 β1 stk as (Ai fr d (.ptr nx 0)) ((nx,.one (.it (some b) kd (fun _=>false) none))::bx) (nx+1) (a.put d x) w1:=by
 obtain⟨g',m,e1,hm,hc⟩:=h.mem.bx b _ hb
 rw[hg]at e1;cases e1
 obtain⟨hrun,hit⟩:=JQ (P:=P) hm hT
 generalize hm.choose_spec.choose=cl at hrun hit
 have hB:Ab bx nx=none:=by
  cases hb:Ab bx nx with
  |none=>rfl
  |some c=>exact absurd (h.mem.nx nx c hb) (Nat.lt_irrefl nx)
 have hs:CD P A0 w0 β (BL β nx ⟨some w.heap.size,0,0⟩) (Ab bx) nx (some (.it (some b) kd (fun _=>false) none)) w (w.alloc (.mapIter (some g) cl #[] cl)):=by
  refine⟨(Below.refl _ _).alloc (Nat.le_refl _) _,fun b c hb=>Bu hB _ _ hb,?_⟩
  rintro c ⟨⟩
  refine⟨⟨w.heap.size,by rw[Aq],fun mb hmb=> ?_⟩,fun g hg=> ?_⟩
  ·cases hmb
   exact⟨⟨.mp kd has f,C6 hB hb,rfl⟩,g,by rw[Bu hB _ _ hb];exact hg,hit⟩
  rw[Aq]at hg;simp at hg;subst hg;simp
 have:=h.soft hs (v:= .ptr nx 0) (x:= .pointer (some ⟨w.heap.size,0,none⟩)) ⟨⟨.it (some b) kd (fun _=>false) none,by simp[Dc],rfl⟩,w.heap.size,by rw[Aq],rfl⟩ d hd
 exact⟨_,_,_,hrun,this⟩
theorem AL.nxt(h:AL P A0 w0 β stk as fr bx nx a w){mb:Bn}{r:Nat}{seen:Int->Bool}{last:Option Int}(hb:Ab bx b=some (.it (some mb) kd seen last))(hmb:Ab bx mb=some (.mp kd has f))(hr:(β b).a=some r)
  (d:Option Nat) (hd:∀s,d=some s->s<a.tmps.size) (ty:TypeId):
  (∃x,(Instr.next (.pointer (some ⟨r,0,none⟩)) false ty).run P w= .ok x w/\(∀k,has k=true->seen k=true)/\AL P A0 w0 β stk as (Ai fr d (.tup (.cons (.bool false) .nil))) (Aj bx b (.it none kd seen none)) nx (a.put d x) w)\/
  ∃k x w1,(Instr.next (.pointer (some ⟨r,0,none⟩)) false ty).run P w= .ok x w1/\has k=true/\seen k=false/\
   AL P A0 w0 β stk as (Ai fr d (.tup (.cons (.bool true) (.cons (.int kd k) (.cons (f k) .nil))))) (Aj bx b (.it (some mb) kd (fun j=>if j=k then true else seen j) (some k))) nx (a.put d x) w1:=by
 obtain⟨g,m,e1,hm,hc⟩:=h.mem.bx mb _ hmb
 obtain⟨r',e2,hi⟩:=h.mem.bx b _ hb
 rw[hr]at e2;cases e2
 obtain⟨_,gm,e3,hi⟩:=hi mb rfl
 rw[e1]at e3;cases e3
 have hni:=h.mem.noIt hb rfl
 have hne:mb≠b:=fun e=>by subst e;rw[hb]at hmb;cases hmb
 have hbase:=h.mem.base b _ r hb hr
 have hnone:∀s,(none:Option Nat)=some s->s<a.tmps.size:=fun s hs=>by cases hs
 rcases Kz (P:=P) hm hi ty with⟨hrun,hall⟩|⟨k,v,w1,hgk,hsk,hrun,hm1,hi1,hgr,hsz,hoth⟩
 ·refine .inl ⟨_,hrun,fun k hk=> ?_,?_⟩
  ·obtain⟨y,hy,_⟩:=(hc k).2 hk
   exact hall k ⟨y,hy⟩
  have h1:=h.updK (c1:= .it none kd seen none) hb hni rfl ⟨Nat.le_refl _,fun _ _ _=>rfl,fun _ _=>rfl,fun g' hg'=>⟨.inl hg',(h.mem.base b _ g' hb hg').2⟩,h.mem.below⟩ (fun _ _=>⟨r,hr,fun mb h=>by cases h⟩) none hnone undef
  exact h1.putv (v:= .tup (.cons (.bool false) .nil)) (x:= .tuple #[.bool false]) ⟨_,rfl,_,_,rfl,rfl,rfl⟩ d hd
 have hk:has k=true:=by
  cases hh:has k
  ·rw[(hc k).1 hh]at hgk;cases hgk
  rfl
 obtain⟨y,hy,hry⟩:=(hc k).2 hk
 rw[hgk]at hy;cases hy
 have hbl:w0.Under w1:=h.mem.below.grown hgr (fun k hk=>by cases hk;exact hbase.1)
 have hu:LK A0 w0 β β b w w1:=⟨by omega,fun g' _ hne=>hoth g' (fun e=>hne (by rw[e];exact hr)),fun _ _=>rfl,fun g' hg'=>⟨.inl hg',by have:=(h.mem.base b _ g' hb hg').2;omega⟩,hbl⟩
 refine .inr ⟨k,_,w1,hrun,hk,hsk,?_⟩
 have h1:=h.updK (c1:= .it (some mb) kd (fun j=>if j=k then true else seen j) (some k)) hb hni rfl hu (fun _ _=>⟨r,hr,fun mb' h=>by cases h;exact⟨⟨.mp kd has f,by simp[FE,hne];exact hmb,rfl⟩,g,e1,hi1⟩⟩) none hnone undef
 have hrv:Ar A0 w0 β (Ab (Aj bx b (.it (some mb) kd (fun j=>if j=k then true else seen j) (some k)))) w1 (f k) v:=by
  have hdom:∀y c,FE (Ab bx) b (.it (some mb) kd (fun j=>if j=k then true else seen j) (some k)) y=some c->∃c',Ab bx y=some c':=by
   intro y c hy
   by_cases hyb:y=b
   ·subst hyb;exact⟨_,hb⟩
   simp[FE,hyb]at hy;exact⟨c,hy⟩
  rw[Fh]
  refine A7.mono hu.size (hu.al hb hdom) (fun y c hy=> ?_) _ _ hry
  by_cases hyb:y=b
  ·subst hyb;rw[hb]at hy;cases hy;exact⟨.it (some mb) kd (fun j=>if j=k then true else seen j) (some k),by simp only[FE,if_true],rfl,rfl⟩
  exact⟨c,by simp[FE,hyb];exact hy,CR.refl c,rfl⟩
 exact h1.putv (v:= .tup (.cons (.bool true) (.cons (.int kd k) (.cons (f k) .nil)))) (x:= .tuple #[.bool true,.int kd k,v]) ⟨_,rfl,_,_,rfl,rfl,_,_,rfl,rfl,_,_,rfl,hrv,rfl⟩ d hd
theorem AL.storeR(h:AL P A0 w0 β stk as fr bx nx a w){e:TypeId}{k m:Nat}{c:Nat->Nat->Ad}{i:Nat}(hb:Ab bx b=some (.row e k m c))(hi:i<m)(hg:(β b).a=some g)(hcn:Bg n v)(hone:C3 (cellsOf v)=true)(hpu:A4 v=true)(hv:Ar A0 w0 β (Ab bx) w v x)(hoff:off+n<=k)(hn:BN P t=some n)(d:Option Nat)(hd:∀s,d=some s->s<a.tmps.size)(u:Value):
  ∃w1,(Instr.storeAt t (.pointer (some ⟨g,i*k+off,none⟩)) x).run P w= .ok () w1/\
  AL P A0 w0 β stk as (Ai fr d .und) (Aj bx b (.row e k m fun i' j'=>if i'=i/\off<=j'/\j'<off+n then Az (cellsOf v) (j'-off)else c i' j')) nx (a.put d u) w1:=by
 obtain⟨e1,e2,e3,e4⟩:=Dp hcn hv
 obtain⟨hn1,hk,hmax,xs,⟨hxl,how⟩,hc⟩:=h.mem.bx b _ hb
 rcases how with⟨e0,hn0⟩|⟨g',cap,cur,f1,f2,f3,f4,f5,f6,f7⟩
 ·omega
 rw[hg]at f1
 simp at f1
 obtain⟨rfl,hcap⟩:=f1
 have hik:i*k+k<=m*k:=by rw[<-Nat.succ_mul];exact Nat.mul_le_mul_right k hi
 have hmc:m*k<=cap*k:=Nat.mul_le_mul_right k f4
 have hxlen:x.cells.toList.length=n:=by simpa using e4
 have hcl:cur.toList.length=cap*k:=by simpa using f6
 have hrun:=Ga (w:=w) (ys:=cur.toList) (off:=i*k+off) hn e4 (FX _ _ hone e3 (CE e1)) f3 (by omega)
 have hpc:A4 (cellsOf v)=true:=by cases hv':v<;>rw[hv']at hpu<;>simp_all[cellsOf,A4]
 have hpg:∀(l:Ad) (j:Nat),A4 l=true->A4 (Az l j)=true:=by
  intro l;induction l with
  |cons a b _ ih=>intro j hb;simp only[A4,Bool.and_eq_true]at hb;cases j with
   |zero=>exact hb.1
   |succ j=>exact ih j hb.2
  |_=>intro j hb;cases j<;>rfl
 refine⟨_,hrun,h.updK (c1:= .row e k m fun i' j'=>if i'=i/\off<=j'/\j'<off+n then Az (cellsOf v) (j'-off)else c i' j') hb (h.mem.noIt hb rfl) ⟨rfl,rfl⟩ (LK.row h.mem hb hg) (fun _ hmono=> ?_) d hd u⟩
 refine⟨hn1,hk,hmax,(BC cur.toList (i*k+off) x.cells.toList).take (m*k),⟨by rw[List.length_take,Dq,hcl];omega,.inr ⟨g,cap,⟨BC cur.toList (i*k+off) x.cells.toList⟩,by rw[hg,hcap];rfl,f2,setRow_heap w g _ _ e _ f3,f4,f5,by simp[Dq,hcl],rfl⟩⟩,fun i' hi' j hj=> ?_⟩
 have hik':i'*k+k<=m*k:=by rw[<-Nat.succ_mul];exact Nat.mul_le_mul_right k hi'
 rw[List.getElem?_take_of_lt (by omega),ET _ _ _ _ (by omega),hxlen]
 by_cases hcond:i'=i/\off<=j/\j<off+n
 ·obtain⟨rfl,q1,q2⟩:=hcond
  rw[if_pos (by omega)]
  simp only[true_and,q1,q2,and_self,if_true]
  obtain⟨y,hy,hry⟩:=A7.get1 e3 (j-off) (by omega)
  refine⟨y,by rw[<-hy];congr 1;omega,FX _ _ hone e3 (CE e1) y (List.mem_of_getElem? hy),hmono _ _ (A7.pure _ _ (hpg _ _ hpc) hry)⟩
 simp only[if_neg hcond]
 rw[if_neg ?_]
 ·obtain⟨y,hy,ho,hry⟩:=hc i' hi' j hj
  refine⟨y,?_,ho,hmono _ _ hry⟩
  rw[<-hy,<-f7,List.getElem?_take_of_lt (by omega)]
 intro hc2
 apply hcond
 have:i'=i:=by
  rcases Nat.lt_trichotomy i' i with h|h|h
  ·have:(i'+1)*k<=i*k:=Nat.mul_le_mul_right k h
   rw[Nat.succ_mul]at this;omega
  ·exact h
  have:(i+1)*k<=i'*k:=Nat.mul_le_mul_right k h
  rw[Nat.succ_mul]at this;omega
 subst this
 exact⟨rfl,by omega,by omega⟩
theorem AL.clr(h:AL P A0 w0 β stk as fr bx nx a w){e1:TypeId}{k m n' cap:Nat}{c0:Nat->Nat->Ad}{ad:Option Addr}(hb:Ab bx b=some (.row e1 k m c0))(hle:off+n'<=m)(hadr:0<n'->∃g,(β b).a=some g/\ad=some ⟨g,off*k,none⟩)
  {e:TypeId} {z:Ad} (hu:P.underlying t=some (.slice e)) (hz:DX P e=some (k,z)) (hlb:BA z=true) (hpu:A4 z=true) (hon:C3 z=true) (d:Option Nat) (hd:∀s,d=some s->s<a.tmps.size):
  ∃w1,(Builtin.clear_ #[t] ty #[.slice ad n' cap]).run P w= .ok (.tuple #[]) w1/\AL P A0 w0 β stk as (Ai fr d .und) (Aj bx b (.row e1 k m fun i j=>if off<=i/\i<off+n' then Az z j else c0 i j)) nx (a.put d (.tuple #[])) w1:=by
 obtain⟨hn1,hk,hmax,xs,⟨hxl,how⟩,hc⟩:=h.mem.bx b _ hb
 rcases Nat.eq_zero_or_pos n' with rfl|h0
 ·refine⟨w,by cases ad<;>simp[Builtin.clear_,run_underlying hu],h.updK (c1:= .row e1 k m fun i j=>if off<=i/\i<off+0 then Az z j else c0 i j) hb (h.mem.noIt hb rfl) ⟨rfl,rfl⟩ ⟨Nat.le_refl _,fun _ _ _=>rfl,fun _ _=>rfl,fun g hg=>⟨.inl hg,(h.mem.base b _ g hb hg).2⟩,h.mem.below⟩ (fun _ hmono=> ?_) d hd _⟩
  refine⟨hn1,hk,hmax,xs,⟨hxl,how⟩,fun i hi j hj=> ?_⟩
  obtain⟨y,hy,ho,hry⟩:=hc i hi j hj
  have hno:¬(off<=i/\i<off+0):=fun q=>absurd q.2 (Nat.not_lt.2 q.1)
  simp only[if_neg hno]
  exact⟨y,hy,ho,hmono _ _ hry⟩
 obtain⟨g,hg,rfl⟩:=hadr h0
 rcases how with⟨e0,hn0⟩|⟨g',cap',cur,f1,f2,f3,f4,f5,f6,f7⟩
 ·omega
 rw[hg]at f1
 simp at f1
 obtain⟨rfl,hcap⟩:=f1
 obtain⟨v,z1,z2,z3,z4,z5⟩:=Gl (P:=P) hz w (Al A0 w0 (Ab bx) β)
 have hrows:=Gy (len:=n') z3 z4 hon z5 hk
 have hzc:(Builtin.zeroCells v.cells n').toList=(List.range (n'*k)).map fun p=>(⟨v.cells.toList⟩:Array Value)[p%(⟨v.cells.toList⟩:Array Value).size]!:=by
  rw[Builtin.zeroCells,z2];simp
 rw[<-hzc]at hrows
 obtain⟨zs,hzs⟩:∃zs,zs=(Builtin.zeroCells v.cells n').toList:=⟨_,rfl⟩
 rw[<-hzs]at hrows
 have hcl:cur.toList.length=cap'*k:=by simpa using f6
 have hmc:m*k<=cap'*k:=Nat.mul_le_mul_right k f4
 have hok:off*k+n'*k<=m*k:=by rw[<-Nat.add_mul];exact Nat.mul_le_mul_right k hle
 have hst:=run_storeCells_at P g (off*k) e1 zs 0 cur w f3 (by rw[hrows.2.1];simp[f6];omega) (fun u hu=>by
  obtain⟨p,hp,rfl⟩:=List.getElem_of_mem hu
  rw[hrows.2.1]at hp
  have h1:p/k<n':=(Nat.div_lt_iff_lt_mul hk).2 hp
  obtain⟨y,q1,q2,_⟩:=hrows.2.2 (p/k) h1 (p%k) (Nat.mod_lt p hk)
  have:=Nat.div_add_mod p k
  rw[Nat.mul_comm]at this
  rw[this]at q1
  rw[List.getElem?_eq_getElem (by rw[hrows.2.1];exact hp)]at q1
  cases q1;exact q2)
 have hlay:=Ki zs cur.toList (off*k) (by rw[hrows.2.1,hcl];omega)
 simp only[Nat.add_zero]at hst
 rw[<-hlay]at hst
 refine⟨_,?_,h.updK (c1:= .row e1 k m fun i j=>if off<=i/\i<off+n' then Az z j else c0 i j) hb (h.mem.noIt hb rfl) ⟨rfl,rfl⟩ (LK.row (cs:=⟨BC cur.toList (off*k) zs⟩) h.mem hb hg) (fun _ hmono=> ?_) d hd _⟩
 ·obtain⟨n1,rfl⟩:∃n1,n'=n1+1:=⟨n'-1,by omega⟩
  simp[Builtin.clear_,run_underlying hu,z1,<-hzs,hst]
 refine⟨hn1,hk,hmax,(BC cur.toList (off*k) zs).take (m*k),⟨by rw[List.length_take,Dq,hcl];omega,.inr ⟨g,cap',⟨BC cur.toList (off*k) zs⟩,by rw[hg,hcap];rfl,f2,setRow_heap w g _ _ e1 _ f3,f4,f5,by simp[Dq,hcl],rfl⟩⟩,fun i hi j hj=> ?_⟩
 have hik:i*k+k<=m*k:=by rw[<-Nat.succ_mul];exact Nat.mul_le_mul_right k hi
 rw[List.getElem?_take_of_lt (by omega),ET _ _ _ _ (by rw[hrows.2.1,hcl];omega),hrows.2.1]
 by_cases hin:off<=i/\i<off+n'
 ·have h1:off*k<=i*k:=Nat.mul_le_mul_right k hin.1
  have h2:i*k+k<=off*k+n'*k:=by rw[<-Nat.succ_mul,<-Nat.add_mul];exact Nat.mul_le_mul_right k hin.2
  rw[if_pos (by omega)]
  simp only[if_pos hin]
  obtain⟨y,q1,q2,q3⟩:=hrows.2.2 (i-off) (by omega) j hj
  rw[Im z _ _ (by omega)]at q3
  have:(i-off)*k+off*k=i*k:=by rw[<-Nat.add_mul];congr 1;omega
  exact⟨y,by rw[<-q1];congr 1;omega,q2,hmono _ _ q3⟩
 simp only[if_neg hin]
 rw[if_neg ?_]
 ·obtain⟨y,hy,ho,hry⟩:=hc i hi j hj
  refine⟨y,?_,ho,hmono _ _ hry⟩
  rw[<-hy,<-f7,List.getElem?_take_of_lt (by omega)]
 intro hc2
 apply hin
 rcases Nat.lt_or_ge i off with h3|h3
 ·have:i*k+k<=off*k:=by rw[<-Nat.succ_mul];exact Nat.mul_le_mul_right k h3
  omega
 refine⟨h3,?_⟩
 rcases Nat.lt_or_ge i (off+n')with h4|h4
 ·exact h4
 have:(off+n')*k<=i*k:=Nat.mul_le_mul_right k h4
 rw[Nat.add_mul]at this
 omega
theorem AL.storeW(h:AL P A0 w0 β stk as fr bx nx a w){v0:Ad}{y:Value}(hb:Ab bx b=some (.wc g v0))(hv:∀(w:World) (B:Br),Ar A0 w0 β B w v y)(d:Option Nat)(hd:∀s,d=some s->s<a.tmps.size)(u:Value):
  AL P A0 w0 β stk as (Ai fr d .und) (Aj bx b (.wc g v)) nx (a.put d u) (w.setRow g ⟨[y]⟩):=by
 obtain⟨h1,y0,t,h2,_⟩:=h.mem.bx b _ hb
 exact h.updK (c1:= .wc g v) hb (h.mem.noIt hb rfl) rfl (LK.row (cs:=⟨[y]⟩) h.mem hb h1) (fun _ _=>⟨h1,y,t,setRow_heap w g _ _ t _ h2,hv _ _⟩) d hd u
end Go.Proofs.YtlieoghhkioflaaGreat
/- The engine,part 15: append; own slices seen as views. No condition. -/
namespace Go.Proofs.YtlieoghhkioflaaGreat
open Go Go.RowKit
variable{P:Program}{E:Db}{A0:Nat->Prop}{w0:AW}{β β1:Bn->CK}{B:Br}{nx:Nat}{w w1:World}{a:Act}{fr:Fr}{bx:Bx}
theorem I7(base:Nat){t ty e:TypeId}{i:TypeInfo}{z:Value}{k:Nat}(ht:P.underlying t=some (.slice e))(hi:P.info? e=some i)(hz:i.zero=some z)(hsize:i.size=k)(hzs:z.cells.size=k)(hk:0<k)
  {v:Value} {n:Nat} {xs:List Value} (hown:w.ownsRow base e k v n xs) {ya:Option Addr} {m yc:Nat} {news:List Value} (hl:news.length=m*k) (hnews:0<m->∃g off,ya=some ⟨g,off,none⟩/\∀j u,news[j]?=some u->w.cell? ⟨g,off+j,none⟩=some u)
  (h1:∀u∈news,u.oneCell'=true) (h63:n+m<=maxLen) (hbytes:(n+m)*i.bytes<=140737488355328) (hbase:base<=w.heap.size):
  ∃v' w1,(Builtin.append_ #[t,t] ty #[v,.slice ya m yc]).run P w= .ok v' w1/\w1.ownsRow base e k v' (n+m) (xs++news)/\w.grownBy w1 v.ownBlock/\(∀g,v'.ownBlock=some g->v.ownBlock=some g\/w.heap.size<=g):=by
 by_cases hm:m=0
 ·subst hm
  have hn:news=[]:=List.eq_nil_of_length_eq_zero (by simpa using hl)
  subst hn
  have key:∀b n' c',v= .slice b n' c'->n'<=c'->(Builtin.append_ #[t,t] ty #[v,.slice ya 0 yc]).run P w= .ok v w:=by
   rintro b n' c' rfl hle
   have hf:(Builtin.firstCells i.size 0 (.slice ya 0 yc)).run P w= .ok #[] w:=by
    cases ya<;>simp[Builtin.firstCells,loadCells,loadCellsFrom]
   cases b<;>simp[Builtin.append_,run_underlying ht,sizeOf,typeInfo,hi,Builtin.lenOf,hle,hf,storeCells]
  refine⟨v,w,?_,by simpa using hown,⟨rfl,rfl,rfl,Nat.le_refl _,fun _ _ _=>rfl⟩,fun g hg=> .inl hg⟩
  rcases hown.2 with⟨rfl,rfl⟩|⟨g,cap,cur,rfl,hb,hg,hnc,_⟩
  ·exact key _ _ _ rfl (Nat.le_refl _)
  exact key _ _ _ rfl hnc
 obtain⟨g2,off2,rfl,hnews2⟩:=hnews (by omega)
 have hnews':∀j u,news[j]?=some u->w.cell? ((⟨g2,off2,none⟩:Addr).add j)=some u:=fun j u h=>by rw[add_lit];exact hnews2 j u h
 obtain⟨v',w1,hr,ho,hgr,_⟩:=run_append_own (P:=P) w base t ty e i z k i.bytes ht hi hz hsize rfl hzs hk v n xs hown ⟨g2,off2,none⟩ m yc news hl hnews' h1 h63 hbytes hbase
 refine⟨v',w1,hr,ho,hgr,fun g hg=> ?_⟩
 have hsmall:n+m<=9223372036854775807:=by simp only[maxLen]at h63;omega
 subst hsize
 rcases hown.2 with⟨rfl,rfl⟩|⟨g',cap,cur,rfl,hbg,hgg,hnc,hcm,hcs,htake⟩
 ·have h2:=run_append_nil (P:=P) w t ty e i z ht hi hz ⟨g2,off2,none⟩ m yc news hl hnews' (by omega) (by omega) (by have hb:=hbytes;simp only[Nat.zero_add]at hb;omega)
  rw[h2]at hr
  cases hr
  right
  simp[Value.ownBlock]at hg
  omega
 by_cases hroom:n+m<=cap
 ·have hfit:n*i.size+news.length<=cur.size:=by rw[hl,hcs,<-Nat.add_mul];exact Nat.mul_le_mul_right _ hroom
  have h2:=run_append_room (P:=P) w t ty e i ht hi g' n cap cur hgg ⟨g2,off2,none⟩ m yc news hl hnews' h1 hroom hfit
  rw[h2]at hr
  cases hr
  left
  simpa[Value.ownBlock]using hg
 have holds:∀j u,xs[j]?=some u->w.cell? ((⟨g',0,none⟩:Addr).add j)=some u:=hown.cells (g:=g') rfl
 have h2:=run_append_grow (P:=P) w t ty e i z ht hi hz ⟨g',0,none⟩ n cap xs hown.1 holds ⟨g2,off2,none⟩ m yc news hl hnews' (by omega) (by omega) (growslice_fits (by omega) hbytes)
 rw[h2]at hr
 cases hr
 right
 simp[Value.ownBlock]at hg
 omega
theorem Gw(hm:Fp P A0 w0 β B nx w)(hbx:∀b c,B b=some c->Ab bx b=some c){v:Ad}{x:Value}{k:Nat}{ko:Option Nat}{m:Nat}{c:Nat->Nat->Ad}(he:CB bx v=some (ko,m,c))(hk:ko=some k\/ko=none)(hv:Ar A0 w0 β B w v x):
  m<=maxLen/\∃ya yc,∃news:List Value,x= .slice ya m yc/\news.length=m*k/\(0<m->∃g off,ya=some ⟨g,off,none⟩/\∀j u,news[j]?=some u->w.cell? ⟨g,off+j,none⟩=some u)/\(∀u∈news,u.oneCell'=true)/\∀i,i<m->∀j,j<k->∃y,news[i*k+j]?=some y/\y.oneCell'=true/\HV A0 w0 β B w (c i j) y:=by
 have main:∀g off (hcell:∀i,i<m->∀j,j<k->∃y,w.cell? ⟨g,off+i*k+j,none⟩=some y/\y.oneCell'=true/\HV A0 w0 β B w (c i j) y),∃news:List Value,news.length=m*k/\(∀j u,news[j]?=some u->w.cell? ⟨g,off+j,none⟩=some u)/\(∀u∈news,u.oneCell'=true)/\∀i,i<m->∀j,j<k->∃y,news[i*k+j]?=some y/\y.oneCell'=true/\HV A0 w0 β B w (c i j) y:=by
  intro g off hcell
  have hall:∀p,p<m*k->∃y,w.cell? ⟨g,off+p,none⟩=some y/\y.oneCell'=true:=by
   intro p hp
   have hk0:0<k:=by rcases Nat.eq_zero_or_pos k with h|h;subst h;simp at hp;exact h
   have h1:p/k<m:=(Nat.div_lt_iff_lt_mul hk0).2 hp
   have h2:=Nat.mod_lt p hk0
   obtain⟨y,hy,ho,hr⟩:=hcell (p/k) h1 (p%k) h2
   refine⟨y,?_,ho⟩
   rw[<-hy];congr 2
   have:=Nat.div_add_mod p k
   rw[Nat.mul_comm]at this
   omega
  refine⟨(List.range (m*k)).map fun p=>(w.cell? ⟨g,off+p,none⟩).getD undef,by simp,fun j u hu=> ?_,fun u hu=> ?_,fun i hi j hj=> ?_⟩
  ·simp only[List.getElem?_map,List.getElem?_range]at hu
   have h1:j<m*k:=by rcases Nat.lt_or_ge j (m*k)with h|h;exact h;simp[List.getElem?_eq_none (l:=List.range (m*k)) (by simpa using h)]at hu
   obtain⟨y,hy,_⟩:=hall j h1
   simp[List.getElem?_range h1,hy]at hu
   rw[hy,hu]
  ·simp at hu
   obtain⟨p,hp,rfl⟩:=hu
   obtain⟨y,hy,ho⟩:=hall p hp
   simpa[hy]using ho
  obtain⟨y,hy,ho,hr⟩:=hcell i hi j hj
  have hik:i*k+k<=m*k:=by rw[<-Nat.succ_mul];exact Nat.mul_le_mul_right k hi
  have hp:i*k+j<m*k:=by omega
  refine⟨y,?_,ho,hr⟩
  rw[Nat.add_assoc]at hy
  simp[hp,hy]
 have triv:∃news:List Value,news.length=0*k/\(∀u∈news,u.oneCell'=true):=⟨[],by simp,by simp⟩
 cases v<;>simp only[CB]at he<;>first|(cases he;done)|skip
 ·-- nils
  simp at he
  obtain⟨rfl,rfl,rfl⟩:=he
  have e:x= .slice none 0 0:=hv
  subst e
  exact⟨by unfold maxLen;omega,none,0,[],rfl,by simp,fun h=>by omega,by simp,fun i hi=>by omega⟩
 ·-- view
  rename_i k' n' c'
  simp at he
  obtain⟨rfl,rfl,rfl⟩:=he
  have:k'=k:=by rcases hk with h|h<;>simp at h;exact h
  subst this
  obtain⟨ad,cap,rfl,hmx,hnc,hc⟩:=hv
  rcases Nat.eq_zero_or_pos n' with h0|h0
  ·subst h0
   exact⟨hmx,ad,cap,[],rfl,by simp,fun h=>by omega,by simp,fun i hi=>by omega⟩
  obtain⟨g,off,rfl,hg,hA,hcell⟩:=hc h0
  obtain⟨news,q1,q2,q3,q4⟩:=main g off hcell
  exact⟨hmx,_,cap,news,rfl,q1,fun _=>⟨g,off,rfl,q2⟩,q3,q4⟩
 ·-- own
  rename_i b
  obtain⟨⟨e',k',n',hb⟩,rfl⟩:=hv
  obtain⟨c',hb⟩:∃c,B b=some (.row e' k' n' c):=by
   rcases hb.cases with h|⟨c,hb⟩
   ·exact h
   simp[hbx b _ hb]at he
  simp only[hbx b _ hb]at he
  simp at he
  obtain⟨rfl,rfl,rfl⟩:=he
  have:k'=k:=by rcases hk with h|h<;>simp at h;exact h
  subst this
  obtain⟨hn,hk0,hmax,xs,⟨hxl,how⟩,hc⟩:=hm.bx b _ hb
  rw[hn]
  rcases how with⟨e0,hn0⟩|⟨g,cap,cur,e1,e2,e3,e4,e5,e6,e7⟩
  ·subst hn0
   exact⟨hmax,_,_,[],rfl,by simp,fun h=>by omega,by simp,fun i hi=>by omega⟩
  have hg:(β b).a=some g:=by
   cases ha:(β b).a with
   |none=>simp[ha]at e1
   |some g'=>simp[ha]at e1;rw[e1.1]
  obtain⟨news,q1,q2,q3,q4⟩:=main g 0 (fun i hi j hj=>by
   obtain⟨y,hy,ho1,hr⟩:=hc i hi j hj
   refine⟨y,?_,ho1,hr⟩
   have hik:i*k'+k'<=n'*k':=by rw[<-Nat.succ_mul];exact Nat.mul_le_mul_right k' hi
   rw[Nat.zero_add,<-hy,<-e7,List.getElem?_take_of_lt (by omega)]
   simp[World.cell?,e3])
  exact⟨hmax,_,_,news,rfl,q1,fun _=>⟨g,0,by simp[hg],q2⟩,q3,q4⟩
 ·-- tv
  rename_i k' n' c'
  simp at he
  obtain⟨rfl,rfl,rfl⟩:=he
  have:k'=k:=by rcases hk with h|h<;>simp at h;exact h
  subst this
  obtain⟨ad,rfl,hmx,hc⟩:=hv
  rcases Nat.eq_zero_or_pos n' with h0|h0
  ·subst h0
   exact⟨hmx,ad,0,[],rfl,by simp,fun h=>by omega,by simp,fun i hi=>by omega⟩
  obtain⟨g,off,rfl,hg,hA,hcell⟩:=hc h0
  obtain⟨news,q1,q2,q3,q4⟩:=main g off hcell
  exact⟨hmx,_,n',news,rfl,q1,fun _=>⟨g,off,rfl,q2⟩,q3,q4⟩
 -- osl
 rename_i b off n'
 obtain⟨e',k',M,hb,hoff,ad,cap,rfl,hcap,ha⟩:=hv
 obtain⟨c',hb⟩:∃c,B b=some (.row e' k' M c):=by
  rcases hb.cases with h|⟨c,hb⟩
  ·exact h
  simp[hbx b _ hb]at he
 simp only[hbx b _ hb]at he
 simp at he
 obtain⟨rfl,rfl,rfl⟩:=he
 have:k'=k:=by rcases hk with h|h<;>simp at h;exact h
 subst this
 obtain⟨hn,hk0,hmax,xs,⟨hxl,how⟩,hc⟩:=hm.bx b _ hb
 rcases Nat.eq_zero_or_pos n' with h0|h0
 ·subst h0
  exact⟨by omega,_,_,[],rfl,by simp,fun h=>by omega,by simp,fun i hi=>by omega⟩
 obtain⟨g,hg,rfl⟩:=ha.1 h0
 rcases how with⟨e0,hn0⟩|⟨g',cap',cur,e1,e2,e3,e4,e5,e6,e7⟩
 ·omega
 rw[hg]at e1
 simp at e1
 rw[<-e1.1]at e3
 obtain⟨news,q1,q2,q3,q4⟩:=main g (off*k') (fun i hi j hj=>by
  obtain⟨y,hy,ho1,hr⟩:=hc (off+i) (by omega) j hj
  refine⟨y,?_,ho1,hr⟩
  have hik:(off+i)*k'+k'<=M*k':=by rw[<-Nat.succ_mul];exact Nat.mul_le_mul_right k' (by omega)
  rw[<-hy,<-e7,List.getElem?_take_of_lt (by omega)]
  simp[World.cell?,e3,Nat.add_mul])
 exact⟨by omega,_,_,news,rfl,q1,fun _=>⟨g,off*k',rfl,q2⟩,q3,q4⟩
end Go.Proofs.YtlieoghhkioflaaGreat
/- The engine,part 16: behind an append; own slices seen as views. No condition. -/
namespace Go.Proofs.YtlieoghhkioflaaGreat
open Go Go.RowKit
variable{b:Bn}{as:List Act}{stk:List Av}{base k m n:Nat}{c c0:Nat->Nat->Ad}{ko:Option Nat}{e t ty:TypeId}{i:TypeInfo}{r v:Ad}{vx x z:Value}
variable{P:Program}{E:Db}{A0:Nat->Prop}{w0:AW}{β β1:Bn->CK}{B:Br}{nx:Nat}{w w1:World}{a:Act}{fr:Fr}{bx:Bx}
theorem UH{nx:Nat}(h:∀f∈stk,f.nx<=nx):∀f∈AC b r stk,f.nx<=nx:=by
 induction stk with
 |nil=>exact h
 |cons g l ih=>
  intro f hf
  simp only[AC,List.mem_cons]at hf
  rcases hf with rfl|hf
  ·exact h g (by simp)
  exact ih (fun f hf=>h f (by simp[hf])) f hf
theorem EW{v:Value}{xs:List Value}(h:w.ownsRow base e k v n xs):∃L:CK,v= .slice (L.a.map fun g=>⟨g,0,none⟩) n L.cap/\L.n=n/\v.ownBlock=L.a/\∀g,L.a=some g->base<=g/\g<w.heap.size:=by
 have hlt:=h.lt
 rcases h.2 with⟨rfl,rfl⟩|⟨g,cap,cur,rfl,hb,_⟩
 ·exact⟨⟨none,0,0⟩,rfl,rfl,rfl,fun g hg=>by cases hg⟩
 exact⟨⟨some g,n,cap⟩,rfl,rfl,rfl,fun g' hg=>hlt g' hg⟩
theorem IM{row:Option Nat}{Bd:Nat}(h:w.grownBy w1 row)(hB:Bd<=w.heap.size)(hr:∀k,row=some k->Bd<=k):Below Bd w w1:=(Below.refl Bd w).grown h hB hr
theorem AL.appNil(h:AL P A0 w0 β stk as fr bx nx a w)(ht:P.underlying t=some (.slice e))(hi:P.info? e=some i)(hz:i.zero=some z)(hsize:i.size=k)(hzs:z.cells.size=k)(hk:0<k)
  (he:CB bx v=some (ko,m,c)) (hko:ko=some k\/ko=none) (hv:Ar A0 w0 β (Ab bx) w v x) (hbytes:m*i.bytes<=140737488355328) (d:Option Nat) (hd:∀s,d=some s->s<a.tmps.size):
  ∃β1 v' w1,(Builtin.append_ #[t,t] ty #[.slice none 0 0,x]).run P w= .ok v' w1/\AL P A0 w0 β1 stk as (Ai fr d (.own nx)) ((nx,.one (.row e k m c))::bx) (nx+1) (a.put d v') w1:=by
 obtain⟨hmx,ya,yc,news,rfl,q1,q2,q3,q4⟩:=Gw h.mem (fun _ _ h=>h) he hko hv
 obtain⟨v',w1,hr,ho,hg,hfr⟩:=I7 (P:=P) (w:=w) (ty:=ty) 0 ht hi hz hsize hzs hk (World.ownsRow_nil w _ e k) (ya:=ya) (yc:=yc) q1 q2 q3 (by omega) (by rw[Nat.zero_add];exact hbytes) (Nat.zero_le _)
 rw[Nat.zero_add,List.nil_append]at ho
 obtain⟨L,hL1,hL2,hL3,hL4⟩:=EW ho
 have hge:∀g,L.a=some g->w.heap.size<=g/\g<w1.heap.size:=fun g hg'=>by
  rcases hfr g (by rw[hL3];exact hg')with hh|hh
  ·simp[Value.ownBlock]at hh
  exact⟨hh,(hL4 g hg').2⟩
 have hsoft:CD P A0 w0 β (BL β nx L) (Ab bx) nx (some (.row e k m c)) w w1:=by
  refine⟨IM hg (Nat.le_refl _) (fun k hk=>by simp[Value.ownBlock]at hk),fun b c hb=>Bu h.nxn _ _ hb,?_⟩
  rintro c' ⟨⟩
  refine⟨⟨by rw[Aq];exact hL2,hk,hmx,news,by rw[Aq,<-hL1];exact ho,fun i' hi' j hj=> ?_⟩,fun g hg'=> ?_⟩
  ·obtain⟨y,hy,ho1,hry⟩:=q4 i' hi' j hj
   refine⟨y,hy,ho1,Ao.mono hg.size (fun g hgl hA=>⟨⟨hA.1,fun b c hb e'=> ?_⟩,hg.block g hgl (by simp[Value.ownBlock])⟩) _ _ hry⟩
   rcases BO hb with hb|⟨rfl,_⟩
   ·rw[Bu h.nxn _ _ hb]at e';exact hA.2 b c hb e'
   rw[Aq]at e';have:=(hge g e').1;omega
  rw[Aq]at hg';exact hge g hg'
 refine⟨BL β nx L,v',w1,hr,?_⟩
 have:=h.soft hsoft (v:= .own nx) (x:=v') ⟨⟨e,k,m,.row e k m c,by simp[Dc],rfl⟩,by rw[Aq,hL2];exact hL1⟩ d hd
 exact this
theorem OF(ht:P.underlying t=some (.slice e))(hi:P.info? e=some i)(hz:i.zero=some z)(hsize:i.size=k)(hzs:z.cells.size=k)
  {ad:Option Addr} {olds:List Value} (hol:olds.length=n*k) (hold:0<n->∃g off,ad=some ⟨g,off,none⟩/\∀j u,olds[j]?=some u->w.cell? ⟨g,off+j,none⟩=some u) {ya:Option Addr} {yc:Nat} {news:List Value} (hl:news.length=m*k) (hnews:0<m->∃g off,ya=some ⟨g,off,none⟩/\∀j u,news[j]?=some u->w.cell? ⟨g,off+j,none⟩=some u)
  (hm:0<m) (h63:n+m<=maxLen) (hbytes:(n+m)*i.bytes<=140737488355328):
  ∃v' w1,(Builtin.append_ #[t,t] ty #[.slice ad n n,.slice ya m yc]).run P w= .ok v' w1/\w1.ownsRow 0 e k v' (n+m) (olds++news)/\w.grownBy w1 none/\(∀g,v'.ownBlock=some g->w.heap.size<=g):=by
 subst hsize
 obtain⟨g2,off2,rfl,hnews2⟩:=hnews hm
 have hnews':∀j u,news[j]?=some u->w.cell? ((⟨g2,off2,none⟩:Addr).add j)=some u:=fun j u h=>by rw[add_lit];exact hnews2 j u h
 have hsmall:n+m<=9223372036854775807:=by simp only[maxLen]at h63;omega
 have hlen:(olds++news).length=(n+m)*i.size:=by rw[List.length_append,hol,hl,Nat.add_mul]
 have grown:∀(old:Nat),old<n+m->
   (w.drew.alloc (.cells (olds.toArray++news.toArray++Builtin.zeroCells z.cells (grownCap w (n+m) old e-(n+m))) e)).ownsRow 0 e i.size
    (.slice (some ⟨w.heap.size,0,none⟩) (n+m) (grownCap w (n+m) old e)) (n+m) (olds++news)/\
   w.grownBy (w.drew.alloc (.cells (olds.toArray++news.toArray++Builtin.zeroCells z.cells (grownCap w (n+m) old e-(n+m))) e)) none:=by
  intro old ho
  have hge:=grownCap_ge w (n+m) old e
  have hcm:grownCap w (n+m) old e<=maxLen:=grownCap_le_maxLen w (n+m) old e h63
  refine⟨⟨hlen,.inr ⟨w.heap.size,_,_,rfl,Nat.zero_le _,EF w.drew _,hge,hcm,?_,?_⟩⟩,⟨rfl,rfl,rfl,by simp,fun k hk _=>Below.heap_alloc w.drew _ k hk⟩⟩
  ·simp only[Array.size_append,List.size_toArray,size_zeroCells,hzs,hol,hl,<-Nat.add_mul]
   congr 1
   omega
  simp only[Array.toList_append,List.append_assoc]
  rw[<-List.append_assoc,<-hlen]
  exact List.take_left
 cases ad with
 |none=>
  rcases Nat.eq_zero_or_pos n with rfl|h0
  ·have ho:olds=[]:=List.eq_nil_of_length_eq_zero (by simpa using hol)
   subst ho
   have hr:=run_append_nil (P:=P) w t ty e i z ht hi hz ⟨g2,off2,none⟩ m yc news hl hnews' (by omega) (by omega) (by have hb:=hbytes;simp only[Nat.zero_add]at hb;omega)
   have hgr:=grown 0 (by omega)
   simp only[Nat.zero_add,List.nil_append,Array.empty_append]at hgr⊢
   exact⟨_,_,hr,hgr.1,hgr.2,fun g hg=>by simp[Value.ownBlock]at hg;omega⟩
  obtain⟨g,off,e1,_⟩:=hold h0
  cases e1
 |some b=>
  have hcell:∀j v,olds[j]?=some v->w.cell? (b.add j)=some v:=by
   intro j v hj
   rcases Nat.eq_zero_or_pos n with rfl|h0
   ·have ho:olds=[]:=List.eq_nil_of_length_eq_zero (by simpa using hol)
    subst ho;simp at hj
   obtain⟨g,off,e1,e2⟩:=hold h0
   cases e1
   rw[add_lit];exact e2 j v hj
  have hr:=run_append_grow (P:=P) w t ty e i z ht hi hz b n n olds hol hcell ⟨g2,off2,none⟩ m yc news hl hnews' (by omega) (by omega) (growslice_fits (by omega) hbytes)
  have hgr:=grown n (by omega)
  exact⟨_,_,hr,hgr.1,hgr.2,fun g hg=>by simp[Value.ownBlock]at hg;omega⟩
theorem AL.newOwn(h:AL P A0 w0 β stk as fr bx nx a w)(hk:0<k)(hmx:m<=maxLen){news:List Value}{v':Value}(ho:w1.ownsRow 0 e k v' m news){row:Option Nat}(hg:w.grownBy w1 row)(hnr:∀g,g<w.heap.size->row≠some g)(hfr:∀g,v'.ownBlock=some g->w.heap.size<=g)
  (q4:∀i,i<m->∀j,j<k->∃y,news[i*k+j]?=some y/\y.oneCell'=true/\HV A0 w0 β (Ab bx) w (c i j) y) (d:Option Nat) (hd:∀s,d=some s->s<a.tmps.size):
  ∃β1,AL P A0 w0 β1 stk as (Ai fr d (.own nx)) ((nx,.one (.row e k m c))::bx) (nx+1) (a.put d v') w1:=by
 obtain⟨L,hL1,hL2,hL3,hL4⟩:=EW ho
 have hge:∀g,L.a=some g->w.heap.size<=g/\g<w1.heap.size:=fun g hg'=>⟨hfr g (by rw[hL3];exact hg'),(hL4 g hg').2⟩
 have hblk:∀g,g<w.heap.size->w1.heap[g]?=w.heap[g]?:=fun g hgl=>hg.block g hgl fun e=>hnr g hgl e.symm
 have hsoft:CD P A0 w0 β (BL β nx L) (Ab bx) nx (some (.row e k m c)) w w1:=by
  refine⟨IM hg (Nat.le_refl _) (fun k hk=>Nat.le_of_not_lt fun hlt=>hnr k hlt hk),fun b c hb=>Bu h.nxn _ _ hb,?_⟩
  rintro c' ⟨⟩
  refine⟨⟨by rw[Aq];exact hL2,hk,hmx,news,by rw[Aq,<-hL1];exact ho,fun i' hi' j hj=> ?_⟩,fun g hg'=> ?_⟩
  ·obtain⟨y,hy,ho1,hry⟩:=q4 i' hi' j hj
   refine⟨y,hy,ho1,Ao.mono hg.size (fun g hgl hA=>⟨⟨hA.1,fun b c hb e'=> ?_⟩,hblk g hgl⟩) _ _ hry⟩
   rcases BO hb with hb|⟨rfl,_⟩
   ·rw[Bu h.nxn _ _ hb]at e';exact hA.2 b c hb e'
   rw[Aq]at e';have:=(hge g e').1;omega
  rw[Aq]at hg';exact hge g hg'
 have:=h.soft hsoft (v:= .own nx) (x:=v') ⟨⟨e,k,m,.row e k m c,by simp[Dc],rfl⟩,by rw[Aq,hL2];exact hL1⟩ d hd
 exact⟨_,this⟩
theorem AL.appTv(h:AL P A0 w0 β stk as fr bx nx a w)(ht:P.underlying t=some (.slice e))(hi:P.info? e=some i)(hz:i.zero=some z)(hsize:i.size=k)(hzs:z.cells.size=k)(hk:0<k)
  (hx:Ar A0 w0 β (Ab bx) w (.tv k n c0) vx)
  (he:CB bx v=some (ko,m,c)) (hko:ko=some k\/ko=none) (hv:Ar A0 w0 β (Ab bx) w v x) (hm:0<m) (h63:n+m<=maxLen) (hbytes:(n+m)*i.bytes<=140737488355328) (d:Option Nat) (hd:∀s,d=some s->s<a.tmps.size):
  ∃β1 v' w1,(Builtin.append_ #[t,t] ty #[vx,x]).run P w= .ok v' w1/\AL P A0 w0 β1 stk as (Ai fr d (.own nx)) ((nx,.one (.row e k (n+m) fun i j=>if i<n then c0 i j else c (i-n) j))::bx) (nx+1) (a.put d v') w1:=by
 obtain⟨hmx,ya,yc,news,rfl,q1,q2,q3,q4⟩:=Gw h.mem (fun _ _ h=>h) he hko hv
 obtain⟨hmx0,ya0,yc0,olds,e0,p1,p2,p3,p4⟩:=Gw (v:= .tv k n c0) (x:=vx) (k:=k) (ko:=some k) (m:=n) (c:=c0) h.mem (fun _ _ h=>h) rfl (.inl rfl) hx
 obtain⟨ad,rfl,_,_⟩:=hx
 cases e0
 obtain⟨v',w1,hr,ho,hg,hfr⟩:=OF (P:=P) (w:=w) (ty:=ty) ht hi hz hsize hzs p1 p2 (ya:=ya) (yc:=yc) q1 q2 hm h63 hbytes
 obtain⟨β1,hrel⟩:=h.newOwn (c:=fun i j=>if i<n then c0 i j else c (i-n) j) hk h63 ho hg (fun g _ e=>by cases e) hfr (fun i' hi' j hj=>by
  by_cases hin:i'<n
  ·obtain⟨y,hy,ho1,hry⟩:=p4 i' hin j hj
   have hik:i'*k+k<=n*k:=by rw[<-Nat.succ_mul];exact Nat.mul_le_mul_right k hin
   refine⟨y,by rw[List.getElem?_append_left (by omega)];exact hy,ho1,?_⟩
   simp only[if_pos hin];exact hry
  obtain⟨y,hy,ho1,hry⟩:=q4 (i'-n) (by omega) j hj
  have hik:n*k+(i'-n)*k=i'*k:=by rw[<-Nat.add_mul];congr 1;omega
  refine⟨y,by rw[List.getElem?_append_right (by omega),p1,show i'*k+j-n*k=(i'-n)*k+j from by omega];exact hy,ho1,?_⟩
  simp only[if_neg hin];exact hry) d hd
 exact⟨β1,v',w1,hr,hrel⟩
def JF(σ:Ad->Ad)(τ:Fr->Fr)(ι:Option Bn->Option Bn):Cw->Cw
 | .cells l=> .cells (σ l)
 | .mp kd has f=> .mp kd has fun k=>σ (f k)
 | .mz kd f=> .mz kd fun k=>σ (f k)
 | .rown e k n c=> .rown e k n fun i j=>σ (c i j)
 | .lp g fr ps ca cb st=> .lp g (τ fr) ps ca cb st
 | .it mb kd seen last=> .it (ι mb) kd seen last
 | .row e k n c=> .row e k n c
 | .wc g v=> .wc g (σ v)
theorem OM(b:Bn)(r:Ad)(c:Cw):BU b r c=JF (Bc b r) (AK b r) (fun m=>if m=some b then none else m) c:=by cases c<;>rfl
theorem CR.mapped(σ:Ad->Ad)(τ:Fr->Fr)(ι:Option Bn->Option Bn)(c:Cw):CR c (JF σ τ ι c):=by cases c<;>simp[JF,CR]
theorem CR.subst(b:Bn)(r:Ad)(c:Cw):CR c (BU b r c):=by cases c<;>simp[BU,CR]
theorem CP.mapped{A A':Nat->Prop}{B':Br}{y y':Bn}{c:Cw}{σ:Ad->Ad}{τ:Fr->Fr}{ι:Option Bn->Option Bn}(h:CP P w A B β base y c)(hs:w.heap.size<=w1.heap.size)
  (hl:∀l,BA l=true->BA (σ l)=true) (hσ:∀v x,A7 w A B β v x->A7 w1 A' B' β1 (σ v) x) (hτ:∀(fr:Fr) (x:Nat->Value),(∀t,A7 w A B β (Au fr t) (x t))->∀t,A7 w1 A' B' β1 (Au (τ fr) t) (x t))
  (hι:∀m kd seen last mb',c= .it m kd seen last->ι m=some mb'->∃mb,m=some mb/\∀cm,B mb=some cm->((∃cm',B' mb'=some cm'/\CR cm cm')/\β1 mb'=β mb/\∀g,(β mb).a=some g->w1.heap[g]?=w.heap[g]?))
  (hal:∀g,g<w.heap.size->A g->A' g/\w1.heap[g]?=w.heap[g]?) (hloc:β1 y'=β y) (hg:∀g,(β y).a=some g->w1.heap[g]?=w.heap[g]?):CP P w1 A' B' β1 base y' (JF σ τ ι c):=by
 have rowmono:∀{e:TypeId} {k n:Nat} {xs:List Value},w.ownsRow base e k (.slice ((β y).a.map fun g=>⟨g,0,none⟩) n (β y).cap) n xs->w1.ownsRow base e k (.slice ((β1 y').a.map fun g=>⟨g,0,none⟩) n (β1 y').cap) n xs:=by
  intro e k n xs ho
  rw[hloc]
  obtain⟨hl,ho⟩:=ho
  refine⟨hl,?_⟩
  rcases ho with ho|⟨g,cap,cur,e1,e2,e3,e4⟩
  ·exact .inl ho
  refine .inr ⟨g,cap,cur,e1,e2,?_,e4⟩
  have:(β y).a=some g:=by
   cases ha:(β y).a with
   |none=>simp[ha]at e1
   |some g'=>simp[ha]at e1;rw[e1.1]
  rw[hg g this];exact e3
 cases c with
 |cells l=>
  obtain⟨h0,g,ys,ty',p1,p2,p3⟩:=h
  exact⟨hl l h0,g,ys,ty',by rw[hloc];exact p1,by rw[hg g p1];exact p2,hσ _ _ p3⟩
 |lp g fr' ps ca cb st=>
  obtain⟨p1,rec,nt,p2,p3,p4,p5⟩:=h
  exact⟨by rw[hloc];exact p1,rec,nt,by rw[hg g p1];exact p2,p3,p4,hτ _ _ p5⟩
 |mp kd has f=>
  obtain⟨g,m',p1,p2,p3⟩:=h
  refine⟨g,m',by rw[hloc];exact p1,p2.heap (hg g p1),fun k=>⟨(p3 k).1,fun hk=> ?_⟩⟩
  obtain⟨y',hy',hr'⟩:=(p3 k).2 hk
  exact⟨y',hy',hσ _ _ hr'⟩
 |mz kd f=>
  obtain⟨g,m',p1,p2,p3⟩:=h
  exact⟨g,m',by rw[hloc];exact p1,p2.heap (hg g p1),fun k=>hσ _ _ (p3 k)⟩
 |wc g v=>
  obtain⟨p1,y',ty',p2,p3⟩:=h
  exact⟨by rw[hloc];exact p1,y',ty',by rw[hg g p1];exact p2,hσ _ _ p3⟩
 |it m kd seen last=>
  obtain⟨g,p1,p2⟩:=h
  refine⟨g,by rw[hloc];exact p1,fun mb' hmb=> ?_⟩
  obtain⟨mb,rfl,hm⟩:=hι m kd seen last mb' rfl hmb
  obtain⟨⟨cm,p3,p3'⟩,gm,p4,p5⟩:=p2 mb rfl
  obtain⟨⟨cm',q1,q2⟩,q3,q4⟩:=hm cm p3
  exact⟨⟨cm',q1,q2.map p3'⟩,gm,by rw[q3];exact p4,p5.heap (hg g p1) (q4 gm p4)⟩
 |row e k n c=>
  obtain⟨h1,hk,hn,xs,ho,hc⟩:=h
  refine⟨by rw[hloc];exact h1,hk,hn,xs,rowmono ho,fun i hi j hj=> ?_⟩
  obtain⟨y,hy,ho1,hr⟩:=hc i hi j hj
  exact⟨y,hy,ho1,Ao.mono hs hal _ _ hr⟩
 |rown e k n c=>
  obtain⟨h1,hk,hn,xs,ho,hc⟩:=h
  refine⟨by rw[hloc];exact h1,hk,hn,xs,rowmono ho,fun i hi j hj=> ?_⟩
  obtain⟨y,hy,ho1,hr⟩:=hc i hi j hj
  exact⟨y,hy,ho1,hσ _ _ hr⟩
theorem CP.subst{A A':Nat->Prop}{B':Br}{y:Bn}{c:Cw}(h:CP P w A B β base y c)(hs:w.heap.size<=w1.heap.size)
  (hσ:∀v x,A7 w A B β v x->A7 w1 A' B' β1 (Bc b r v) x) (hx:∀x c,x≠b->B x=some c->∃c',B' x=some c'/\CR c c'/\β1 x=β x)
  (hal:∀g,g<w.heap.size->A g->A' g/\w1.heap[g]?=w.heap[g]?) (hloc:β1 y=β y) (hg:∀x c g,x≠b->B x=some c->(β x).a=some g->w1.heap[g]?=w.heap[g]?) (hyb:y≠b) (hy:B y=some c):CP P w1 A' B' β1 base y (BU b r c):=by
 rw[OM]
 refine h.mapped hs (fun l hl=>(Q3 b r l hl).1) hσ (fun fr x hf t=>VP hσ hf t) (fun m kd seen last mb' hc hm=> ?_) hal hloc (fun g hg'=>hg y c g hyb hy hg')
 have:m=some mb'/\mb'≠b:=by
  split at hm
  ·cases hm
  rename_i hne;exact⟨hm,fun e=>hne (by rw[hm,e])⟩
 refine⟨mb',this.1,fun cm hcm=> ?_⟩
 obtain⟨c',q1,q2,q3⟩:=hx mb' cm this.2 hcm
 exact⟨⟨c',q1,q2⟩,q3,fun g hg'=>hg mb' cm g this.2 hcm hg'⟩
theorem AL.updOwnG(h:AL P A0 w0 β stk as fr bx nx a w){c0 c1:Cw}(hb:Ab bx b=some c0){L:CK}{e1:TypeId}{k1 n1:Nat}(hc1:Kd c1=some (e1,k1,n1))(hLn:L.n=n1)(hu:LK A0 w0 β (BL β b L) b w w1)
  (hrow:(∀v x,HV A0 w0 β (Ab bx) w v x->HV A0 w0 (BL β b L) (Ab (Aj (AJ b .und bx) b c1)) w1 v x)->(∀v x,Ar A0 w0 β (Ab bx) w v x->Ar A0 w0 (BL β b L) (Ab (Aj (AJ b .und bx) b c1)) w1 (Bc b .und v) x)->CP P w1 (Al A0 w0 (Ab (Aj (AJ b .und bx) b c1)) (BL β b L)) (Ab (Aj (AJ b .und bx) b c1)) (BL β b L) 0 b c1) (d:Option Nat) (hd:∀s,d=some s->s<a.tmps.size):
  AL P A0 w0 (BL β b L) (AC b .und stk) as (Ai (AK b .und fr) d (.own b)) (Aj (AJ b .und bx) b c1) nx (a.put d (.slice (L.a.map fun g=>⟨g,0,none⟩) n1 L.cap)) w1:=by
 have hB1:∀y,Ab (Aj (AJ b .und bx) b c1) y=if y=b then some c1 else(Ab bx y).map (BU b .und):=by
  intro y;rw[Ac,AP]
 generalize hBdef:(Aj (AJ b .und bx) b c1)=bx1 at*
 have hdom:∀y c',Ab bx1 y=some c'->∃c2,Ab bx y=some c2:=by
  intro y c' hy
  rw[hB1]at hy
  by_cases hyb:y=b
  ·subst hyb;exact⟨_,hb⟩
  rw[if_neg hyb]at hy
  obtain⟨c2,h2,_⟩:=Option.map_eq_some_iff.1 hy
  exact⟨c2,h2⟩
 have hal:=hu.al hb hdom
 have hkin:∀y c',y≠b->Ab bx y=some c'->∃c2,Ab bx1 y=some c2/\CR c' c2/\BL β b L y=β y:=by
  intro y c' hyb hy
  exact⟨BU b .und c',by rw[hB1,if_neg hyb,hy];rfl,CR.subst b .und c',by simp[BL,hyb]⟩
 have hsub:∀v x,Ar A0 w0 β (Ab bx) w v x->Ar A0 w0 (BL β b L) (Ab bx1) w1 (Bc b .und v) x:=
  fun v x hr'=>He (r:= .und) (fun x _=>A7.und x) (fun _ x _=>A7.und x) hu.size hal hkin v x hr'
 have hbox:=hrow (fun v x hr=>Ao.mono hu.size hal v x hr) hsub
 refine⟨?_,?_,?_,by rw[EX];exact h.df.mono hu.size hal,UH h.sn⟩
 ·refine h.mem.upd (c1:=c1) hu hb (by rw[hB1,if_pos rfl]) (fun y c' _ hy=>hdom y c' hy) hbox fun y c' hyb hy=> ?_
  rw[hB1,if_neg hyb]at hy
  obtain⟨c2,h2,rfl⟩:=Option.map_eq_some_iff.1 hy
  exact(h.mem.bx y c2 h2).subst hu.size hsub hkin hal (hu.loc y hyb) (fun x c g hxb hx hg=>hu.blk g (h.mem.base x c g hx hg).2 fun e=>h.mem.inj x c b _ g hx hb hxb hg e) hyb h2
 ·refine F9 (v:= .own b) (fun t=>N6 hsub h.fr t) ⟨⟨e1,k1,n1,c1,by rw[hB1,if_pos rfl],hc1⟩,by rw[Aq,hLn]⟩ d hd
 refine E5.sub (fun n' v x hr'=>He (r:= .und) (fun x _=>A7.und x) (fun _ x _=>A7.und x) hu.size hal (fun y c' hyb hy=> ?_) v x hr') h.st
 unfold EH at hy⊢
 split at hy
 ·rename_i hlt
  obtain⟨c2,r1,r2,r3⟩:=hkin y c' hyb hy
  exact⟨c2,by rw[if_pos hlt];exact r1,r2,r3⟩
 cases hy
theorem AL.updOwn(h:AL P A0 w0 β stk as fr bx nx a w)(hb:Ab bx b=some (.row e k n c0)){L:CK}{e1:TypeId}{k1 n1:Nat}{c1:Nat->Nat->Ad}(hu:LK A0 w0 β (BL β b L) b w w1)
  (hrow:(∀v x,HV A0 w0 β (Ab bx) w v x->HV A0 w0 (BL β b L) (Ab (Aj (AJ b .und bx) b (.row e1 k1 n1 c1))) w1 v x)->Pq w1 (Al A0 w0 (Ab (Aj (AJ b .und bx) b (.row e1 k1 n1 c1))) (BL β b L)) L e1 k1 n1 c1) (hLn:L.n=n1) (d:Option Nat) (hd:∀s,d=some s->s<a.tmps.size):
  AL P A0 w0 (BL β b L) (AC b .und stk) as (Ai (AK b .und fr) d (.own b)) (Aj (AJ b .und bx) b (.row e1 k1 n1 c1)) nx (a.put d (.slice (L.a.map fun g=>⟨g,0,none⟩) n1 L.cap)) w1:=by
 refine h.updOwnG hb rfl hLn hu (fun h1 _=> ?_) d hd
 obtain⟨hr1,hr2,hr3,xs,hr4,hr5⟩:=hrow h1
 exact⟨by rw[Aq];exact hr1,hr2,hr3,xs,by rw[Aq];exact hr4,hr5⟩
theorem AL.appOwn(h:AL P A0 w0 β stk as fr bx nx a w)(ht:P.underlying t=some (.slice e))(hi:P.info? e=some i)(hz:i.zero=some z)(hsize:i.size=k)(hzs:z.cells.size=k)(hk:0<k)
  (hb:Ab bx b=some (.row e k n c0)) (hvx:Ar A0 w0 β (Ab bx) w (.own b) vx)
  (he:CB bx v=some (ko,m,c)) (hko:ko=some k\/ko=none) (hv:Ar A0 w0 β (Ab bx) w v x) (h63:n+m<=maxLen) (hbytes:(n+m)*i.bytes<=140737488355328) (d:Option Nat) (hd:∀s,d=some s->s<a.tmps.size):
  ∃β1 v' w1,(Builtin.append_ #[t,t] ty #[vx,x]).run P w= .ok v' w1/\
   AL P A0 w0 β1 (AC b .und stk) as (Ai (AK b .und fr) d (.own b)) (Aj (AJ b .und bx) b (.row e k (n+m) fun i j=>if i<n then c0 i j else c (i-n) j)) nx (a.put d v') w1:=by
 obtain⟨hmx,ya,yc,news,rfl,q1,q2,q3,q4⟩:=Gw h.mem (fun _ _ h=>h) he hko hv
 obtain⟨_,hvx⟩:=hvx
 obtain⟨hn,_,hmax,xs,hown,hc0⟩:=h.mem.bx b _ hb
 rw[hn]at hvx
 rw[<-hvx]at hown
 obtain⟨v',w1,hr,ho,hg,hfr⟩:=I7 (P:=P) (w:=w) (ty:=ty) 0 ht hi hz hsize hzs hk hown (ya:=ya) (yc:=yc) q1 q2 q3 h63 hbytes (Nat.zero_le _)
 obtain⟨L,hL1,hL2,hL3,hL4⟩:=EW ho
 have hob:vx.ownBlock=(β b).a:=by rw[hvx];cases(β b).a<;>rfl
 rw[hob]at hg hfr
 have hu:LK A0 w0 β (BL β b L) b w w1:=by
  refine⟨hg.size,fun k' hk' hne=>hg.block k' hk' (fun e=>hne e.symm),fun y hy=>by simp[BL,hy],fun g hg'=> ?_,?_⟩
  ·rw[Aq]at hg'
   exact⟨hfr g (by rw[hL3];exact hg'),(hL4 g hg').2⟩
  exact h.mem.below.grown hg fun g hg'=>(h.mem.base b _ g hb hg').1
 refine⟨BL β b L,v',w1,hr,?_⟩
 rw[hL1]
 refine h.updOwn hb hu (fun hmono=>⟨hL2,hk,h63,xs++news,by rw[<-hL1];exact ho,fun i' hi' j hj=> ?_⟩) hL2 d hd
 have hxl:=hown.1
 by_cases hin:i'<n
 ·obtain⟨y,hy,ho1,hry⟩:=hc0 i' hin j hj
  have hik:i'*k+k<=n*k:=by rw[<-Nat.succ_mul];exact Nat.mul_le_mul_right k hin
  refine⟨y,by rw[List.getElem?_append_left (by omega)];exact hy,ho1,?_⟩
  simp only[if_pos hin]
  exact hmono _ _ hry
 obtain⟨y,hy,ho1,hry⟩:=q4 (i'-n) (by omega) j hj
 have hik:n*k<=i'*k:=Nat.mul_le_mul_right k (by omega)
 refine⟨y,?_,ho1,?_⟩
 ·rw[List.getElem?_append_right (by omega),<-hy]
  congr 1
  rw[hxl,Nat.sub_mul];omega
 simp only[if_neg hin]
 exact hmono _ _ hry
theorem AL.appOwnN(h:AL P A0 w0 β stk as fr bx nx a w){e':TypeId}(ht:P.underlying t=some (.slice e))(hi:P.info? e=some i)(hz:i.zero=some z)(hsize:i.size=k)(hzs:z.cells.size=k)
  {b':Bn} (hb:Ab bx b=some (.rown e k n c0)) (hb':Ab bx b'=some (.rown e' k m c)) (hvx:Ar A0 w0 β (Ab bx) w (.own b) vx) (hv:Ar A0 w0 β (Ab bx) w (.own b') x) (h63:n+m<=maxLen) (hbytes:(n+m)*i.bytes<=140737488355328) (d:Option Nat) (hd:∀s,d=some s->s<a.tmps.size):
  ∃β1 v' w1,(Builtin.append_ #[t,t] ty #[vx,x]).run P w= .ok v' w1/\
   AL P A0 w0 β1 (AC b .und stk) as (Ai (AK b .und fr) d (.own b)) (Aj (AJ b .und bx) b (.rown e k (n+m) fun i j=>Bc b .und (if i<n then c0 i j else c (i-n) j))) nx (a.put d v') w1:=by
 obtain⟨_,hvx⟩:=hvx
 obtain⟨_,hv⟩:=hv
 obtain⟨hn,hk,hmax,xs,hown,hc0⟩:=h.mem.bx b _ hb
 obtain⟨hn',_,_,news,⟨q1,how'⟩,hc⟩:=h.mem.bx b' _ hb'
 rw[hn]at hvx
 rw[hn']at hv
 rw[<-hvx]at hown
 have q2:0<m->∃g off,((β b').a.map fun g=>(⟨g,0,none⟩:Addr))=some ⟨g,off,none⟩/\∀j u,news[j]?=some u->w.cell? ⟨g,off+j,none⟩=some u:=by
  intro hm
  rcases how' with⟨e0,hn0⟩|⟨g,cap,cur,e1,e2,e3,e4,e5,e6,e7⟩
  ·omega
  have hg:(β b').a=some g:=by
   cases ha:(β b').a with
   |none=>simp[ha]at e1
   |some g'=>simp[ha]at e1;rw[e1.1]
  refine⟨g,0,by simp[hg],fun j u hu=> ?_⟩
  have hj:j<m*k:=by
   rcases Nat.lt_or_ge j (m*k)with h|h
   ·exact h
   rw[List.getElem?_eq_none (by omega)]at hu;cases hu
  rw[Nat.zero_add,<-hu,<-e7,List.getElem?_take_of_lt hj]
  simp[World.cell?,e3]
 have q3:∀u∈news,u.oneCell'=true:=by
  intro u hu
  obtain⟨p,hp⟩:=List.getElem?_of_mem hu
  have hpl:p<m*k:=by
   rcases Nat.lt_or_ge p (m*k)with h|h
   ·exact h
   rw[List.getElem?_eq_none (by omega)]at hp;cases hp
  obtain⟨y,hy,ho,_⟩:=hc (p/k) ((Nat.div_lt_iff_lt_mul hk).2 hpl) (p%k) (Nat.mod_lt p hk)
  have:=Nat.div_add_mod p k
  rw[Nat.mul_comm]at this
  rw[this]at hy
  rw[hp]at hy;cases hy;exact ho
 obtain⟨v',w1,hr,ho,hg,hfr⟩:=I7 (P:=P) (w:=w) (ty:=ty) 0 ht hi hz hsize hzs hk hown (ya:=(β b').a.map fun g=>(⟨g,0,none⟩:Addr)) (yc:=(β b').cap) q1 q2 q3 h63 hbytes (Nat.zero_le _)
 rw[<-hv]at hr
 obtain⟨L,hL1,hL2,hL3,hL4⟩:=EW ho
 have hob:vx.ownBlock=(β b).a:=by rw[hvx];cases(β b).a<;>rfl
 rw[hob]at hg hfr
 have hu:LK A0 w0 β (BL β b L) b w w1:=by
  refine⟨hg.size,fun k' hk' hne=>hg.block k' hk' (fun e=>hne e.symm),fun y hy=>by simp[BL,hy],fun g hg'=> ?_,?_⟩
  ·rw[Aq]at hg'
   exact⟨hfr g (by rw[hL3];exact hg'),(hL4 g hg').2⟩
  exact h.mem.below.grown hg fun g hg'=>(h.mem.base b _ g hb hg').1
 refine⟨BL β b L,v',w1,hr,?_⟩
 rw[hL1]
 refine h.updOwnG (c1:= .rown e k (n+m) fun i j=>Bc b .und (if i<n then c0 i j else c (i-n) j)) hb rfl hL2 hu (fun _ hsub=>⟨by rw[Aq];exact hL2,hk,h63,xs++news,by rw[Aq,<-hL1];exact ho,fun i' hi' j hj=> ?_⟩) d hd
 have hxl:=hown.1
 by_cases hin:i'<n
 ·obtain⟨y,hy,ho1,hry⟩:=hc0 i' hin j hj
  have hik:i'*k+k<=n*k:=by rw[<-Nat.succ_mul];exact Nat.mul_le_mul_right k hin
  refine⟨y,by rw[List.getElem?_append_left (by omega)];exact hy,ho1,?_⟩
  simp only[if_pos hin]
  exact hsub _ _ hry
 obtain⟨y,hy,ho1,hry⟩:=hc (i'-n) (by omega) j hj
 have hik:n*k<=i'*k:=Nat.mul_le_mul_right k (by omega)
 refine⟨y,?_,ho1,?_⟩
 ·rw[List.getElem?_append_right (by omega),<-hy]
  congr 1
  rw[hxl,Nat.sub_mul];omega
 simp only[if_neg hin]
 exact hsub _ _ hry
theorem AL.frzG(h:AL P A0 w0 β stk as fr bx nx a w){c0:Cw}(hb:Ab bx b=some c0) 
  (hown:∀B0 x,(∀c,B0 b=some c->c=c0)->A7 w (Al A0 w0 (Ab bx) β) B0 β (.own b) x->Ao w (Al A0 w0 (Ab (AJ b r (BQ bx b))) β) r x)
  (hptr:∀B0 off x,(∀c,B0 b=some c->c=c0)->A7 w (Al A0 w0 (Ab bx) β) B0 β (.ptr b off) x->Ao w (Al A0 w0 (Ab (AJ b r (BQ bx b))) β) (Wv r off) x):
  AL P A0 w0 β (AC b r stk) as (AK b r fr) (AJ b r (BQ bx b)) nx a w:=by
 have hB1:∀y,Ab (AJ b r (BQ bx b)) y=if y=b then none else(Ab bx y).map (BU b r):=by
  intro y;rw[AP,Bt];split<;>rfl
 generalize (AJ b r (BQ bx b))=bx1 at*
 have hal:∀g,g<w.heap.size->Al A0 w0 (Ab bx) β g->Al A0 w0 (Ab bx1) β g/\w.heap[g]?=w.heap[g]?:=by
  rintro g hg ⟨hA,hn⟩
  refine⟨⟨hA,fun y c' hy=> ?_⟩,rfl⟩
  rw[hB1]at hy
  split at hy
  ·cases hy
  obtain⟨c2,h2,_⟩:=Option.map_eq_some_iff.1 hy
  exact hn y c2 h2
 have hkin:∀y c',y≠b->Ab bx y=some c'->∃c2,Ab bx1 y=some c2/\CR c' c2/\β y=β y:=by
  intro y c' hyb hy
  exact⟨BU b r c',by rw[hB1,if_neg hyb,hy];rfl,CR.subst b _ c',rfl⟩
 have h0:∀c,Ab bx b=some c->c=c0:=fun c hc=>by rw[hb]at hc;cases hc;rfl
 have hsub:∀v x,Ar A0 w0 β (Ab bx) w v x->Ar A0 w0 β (Ab bx1) w (Bc b r v) x:=
  fun v x hr'=>He (r:=r) (fun x hx=>Ao.rep _ _ (hown _ x h0 hx)) (fun off x hx=>Ao.rep _ _ (hptr _ off x h0 hx)) (Nat.le_refl _) hal hkin v x hr'
 refine⟨⟨fun y c' hy=> ?_,fun y c' y' c'' g hy hy'=> ?_,fun y c' hy=> ?_,fun y c' g hy=> ?_,h.mem.below⟩,fun t=>N6 hsub h.fr t,?_,h.df.mono (Nat.le_refl _) hal,UH h.sn⟩
 ·rw[hB1]at hy
  split at hy
  ·cases hy
  rename_i hyb
  obtain⟨c2,h2,rfl⟩:=Option.map_eq_some_iff.1 hy
  exact(h.mem.bx y c2 h2).subst (Nat.le_refl _) hsub hkin hal rfl (fun _ _ _ _ _ _=>rfl) hyb h2
 ·rw[hB1]at hy hy'
  split at hy
  ·cases hy
  split at hy'
  ·cases hy'
  obtain⟨c2,h2,_⟩:=Option.map_eq_some_iff.1 hy
  obtain⟨c3,h3,_⟩:=Option.map_eq_some_iff.1 hy'
  exact h.mem.inj y c2 y' c3 g h2 h3
 ·rw[hB1]at hy
  split at hy
  ·cases hy
  obtain⟨c2,h2,_⟩:=Option.map_eq_some_iff.1 hy
  exact h.mem.nx y c2 h2
 ·rw[hB1]at hy
  split at hy
  ·cases hy
  obtain⟨c2,h2,_⟩:=Option.map_eq_some_iff.1 hy
  exact h.mem.base y c2 g h2
 refine E5.sub (fun n' v x hr'=> ?_) h.st
 have h1:∀c,EH (Ab bx) n' b=some c->c=c0:=fun c hc=>by
  unfold EH at hc
  split at hc
  ·exact h0 c hc
  cases hc
 refine He (r:=r) (fun x hx=>Ao.rep _ _ (hown _ x h1 hx)) (fun off x hx=>Ao.rep _ _ (hptr _ off x h1 hx)) (Nat.le_refl _) hal (fun y c' hyb hy=> ?_) v x hr'
 unfold EH at hy⊢
 split at hy
 ·rename_i hlt
  obtain⟨c2,r1,r2,r3⟩:=hkin y c' hyb hy
  exact⟨c2,by rw[if_pos hlt];exact r1,r2,r3⟩
 cases hy
theorem P9{bx:Bx}{g:Nat}(h:AL P A0 w0 β stk as fr bx nx a w){c0:Cw}(hb:Ab bx b=some c0)(hg:(β b).a=some g):Al A0 w0 (Ab (AJ b r (BQ bx b))) β g:=by
 refine⟨.inr (h.mem.base b _ g hb hg).1,fun y c' hy e'=> ?_⟩
 rw[AP,Bt]at hy
 by_cases hyb:y=b
 ·rw[if_pos hyb]at hy;cases hy
 rw[if_neg hyb]at hy
 obtain⟨c2,h2,_⟩:=Option.map_eq_some_iff.1 hy
 exact h.mem.inj y c2 b _ g h2 hb hyb e' hg
theorem Uz{bx:Bx}{g:Nat}(hA:Al A0 w0 (Ab bx) β g):Al A0 w0 (Ab (AJ b r (BQ bx b))) β g:=by
 refine⟨hA.1,fun y c' hy=> ?_⟩
 rw[AP,Bt]at hy
 split at hy
 ·cases hy
 obtain⟨c2,h2,_⟩:=Option.map_eq_some_iff.1 hy
 exact hA.2 y c2 h2
theorem AL.frz1(h:AL P A0 w0 β stk as fr bx nx a w)(hb:Ab bx b=some (.row e k n c)):
  AL P A0 w0 β (AC b (.view k n c) stk) as (AK b (.view k n c) fr) (AJ b (.view k n c) (BQ bx b)) nx a w:=by
 obtain⟨hn,hk,hmax,xs,⟨hxl,how⟩,hc⟩:=h.mem.bx b _ hb
 refine h.frzG hb (fun B0 x _ hx=> ?_) (fun _ _ x _ _=>trivial)
 obtain⟨_,rfl⟩:=hx
 rw[hn]
 rcases how with⟨e0,hn0⟩|⟨g,cap,cur,e1,e2,e3,e4,e5,e6,e7⟩
 ·exact⟨_,_,rfl,hmax,by omega,fun h=>by omega⟩
 have hg:(β b).a=some g:=by
  cases ha:(β b).a with
  |none=>simp[ha]at e1
  |some g'=>simp[ha]at e1;rw[e1.1]
 have hcap:(β b).cap=cap:=by simp at e1;exact e1.2
 refine⟨_,_,rfl,hmax,by rw[hcap];exact e4,fun h0=>⟨g,0,by simp[hg],(h.mem.base b _ g hb hg).2,P9 h hb hg,fun i hi j hj=> ?_⟩⟩
 obtain⟨y,hy,ho1,hr⟩:=hc i hi j hj
 refine⟨y,?_,ho1,Ao.weak (fun g _ hA=>Uz hA) hr⟩
 have hik:i*k+k<=n*k:=by rw[<-Nat.succ_mul];exact Nat.mul_le_mul_right k hi
 rw[Nat.zero_add,<-hy,<-e7,List.getElem?_take_of_lt (by omega)]
 simp[World.cell?,e3]
theorem AL.frzC(h:AL P A0 w0 β stk as fr bx nx a w){l:Ad}(hb:Ab bx b=some (.cells l))(hp:A4 l=true):
  AL P A0 w0 β (AC b (.vptr (Bb l) (Az l)) stk) as (AK b (.vptr (Bb l) (Az l)) fr) (AJ b (.vptr (Bb l) (Az l)) (BQ bx b)) nx a w:=by
 obtain⟨hlb,g,ys,t,h1,h2,h3⟩:=h.mem.bx b _ hb
 refine h.frzG hb (fun B0 x h0 hx=> ?_) (fun B0 off x h0 hx=> ?_)
 ·obtain⟨⟨e,k,n,c,hB,hk⟩,_⟩:=hx
  rw[h0 c hB]at hk
  simp[Kd]at hk
 obtain⟨_,g',hg,rfl⟩:=hx
 rw[h1]at hg;cases hg
 refine⟨g,off,rfl,(h.mem.base b _ g hb h1).2,P9 h hb h1,fun j hj=> ?_⟩
 obtain⟨y,hy,hr⟩:=A7.get1 h3 (off+j) (by omega)
 refine⟨y,by rw[DD h2];exact hy,Ao.weak (fun g _ hA=>Uz hA) (A7.pure _ _ ?_ hr)⟩
 exact KS _ _ hp
theorem AL.drop(h:AL P A0 w0 β stk as fr bx nx a w){c0:Cw}(hb:Ab bx b=some c0):
  AL P A0 w0 β (AC b .und stk) as (AK b .und fr) (AJ b .und (BQ bx b)) nx a w:=
 h.frzG hb (fun _ _ _ _=>trivial) (fun _ _ _ _ _=>trivial)
theorem Di(b:Bn)(r:Ad):∀(stk:List Av),(AC b r stk).map (fun f=>(f.d,f.K,f.res,f.nx))=stk.map fun f=>(f.d,f.K,f.res,f.nx):=by
 intro stk;induction stk with
 |nil=>rfl
 |cons f l ih=>simp[AC,ih]
abbrev BF(stk:List Av):=stk.map fun f=>(f.d,f.K,f.res,f.nx)
theorem AL.frz:∀(l:List Bn) {fr fr':Fr} {bx bx':Bx} {stk stk':List Av},AL P A0 w0 β stk as fr bx nx a w->frz l (fr,bx,stk)=some (fr',bx',stk')->AL P A0 w0 β stk' as fr' bx' nx a w/\BF stk'=BF stk:=by
 intro l;induction l with
 |nil=>intro fr fr' bx bx' stk stk' h he;simp[Go.Proofs.YtlieoghhkioflaaGreat.frz]at he;obtain⟨rfl,rfl,rfl⟩:=he;exact⟨h,rfl⟩
 |cons b l ih=>
  intro fr fr' bx bx' stk stk' h he
  simp only[Go.Proofs.YtlieoghhkioflaaGreat.frz]at he
  split at he
  ·rename_i e k n c hb
   obtain⟨h1,h2⟩:=ih (h.frz1 hb) he
   exact⟨h1,h2.trans (Di b _ stk)⟩
  ·rename_i c hb
   split at he
   ·rename_i hp
    obtain⟨h1,h2⟩:=ih (h.frzC hb hp) he
    exact⟨h1,h2.trans (Di b _ stk)⟩
   cases he
  ·exact ih h he
  cases he
end Go.Proofs.YtlieoghhkioflaaGreat
/- The engine,part 17: a run is what the model's code does. No condition. -/
namespace Go.Proofs.YtlieoghhkioflaaGreat
open Go Go.RowKit
variable{a:Act}{nx:Act->World->Prop}{β:Bn->CK}{bx:Bx}{Q:Exit->Act->World->Prop}{fr:Fr}{res:List B6}{K:List BY}{stk:List Av}{n n':Nat}
variable{P:Program}{E:Db}{A0:Nat->Prop}{w0:AW}{Qf:Ad->Bx->Prop}
theorem Mt{ro:Option Nat}{c:Code}(J:Nat->Act->World->Prop){m:Nat}{w:World}(h0:J m a w)
  (round:∀m a w,J m a w->c.wpIn (FW ro) 0 P (Exit.then (fun a' w'=>∃m',m'<m/\J m' a' w') Q) a w):(Code.loop c).wpIn (FW ro) 0 P Q a w:=by
 classical
 have least:∀a w,(∃m,J m a w)->∃m,J m a w/\∀k,J k a w->m<=k:=by
  rintro a w ⟨m,hm⟩
  induction m using Nat.strongRecOn with
  |_ m ih=>
   by_cases h:∃k,k<m/\J k a w
   ·obtain⟨k,hk,hj⟩:=h;exact ih k hk hj
   exact⟨m,hm,fun k hk=>Nat.le_of_not_lt fun hlt=>h ⟨k,hlt,hk⟩⟩
 refine wpIn_loop (fun a w=>∃m,J m a w) (fun a w=>if h:∃m,J m a w then Classical.choose (least a w h)else 0) ⟨m,h0⟩ fun a w hI=> ?_
 have hsp:=Classical.choose_spec (least a w hI)
 refine wpIn_mono (round _ a w hsp.1) fun e a' w' hq=> ?_
 cases e<;>first|exact hq|skip
 obtain⟨m',hlt,hj⟩:=hq
 have hI':∃m,J m a' w':=⟨m',hj⟩
 refine⟨hI',?_⟩
 have h2:=(Classical.choose_spec (least a' w' hI')).2 m' hj
 simp only[dif_pos hI,dif_pos hI']
 omega
theorem Oq{ro:Option Nat}{c:Code}{w:World}(h:c.wpIn (FW ro) 0 P (Exit.noGoto Q) a w):(Code.scope c).wpIn (FW ro) 0 P Q a w:=by
  intro b k cs hro hb hr
  have s1:step P (lone (b.atR a (.code (.scope c)::k)) cs w)= .next (lone (b.atR a (.code c:: .inScope c::k)) cs w):=step_lone_go (by simp[stepG,stepG.exec,Frame.atR])
  have s2:∀a w,step P (lone (b.atR a (.inScope c::k)) cs w)= .next (lone (b.atR a k) cs w):=fun a w=>step_lone_go (by simp[stepG,stepG.exec,Frame.atR])
  have h0:(lone (b.atR a (.code (.scope c)::k)) cs w).fenced P (FW ro):=fenced_calm hb hr rfl
  obtain⟨e,a₁,w₁,hq,harr⟩:=h b (.inScope c::k) cs hro hb hr
  have hx:∀id,exitTo id (.inScope c::k)=exitTo id k:=fun id=>by simp[exitTo]
  cases e with
  |normal=>exact⟨.normal,a₁,w₁,hq,.head h0 s1 (StepsIn.trans harr (.one (fenced_calm hb hr rfl) (s2 _ _)))⟩
  |exit id=>exact⟨.exit id,a₁,w₁,hq,fun k' hk=> .head h0 s1 (harr.1 k' (by rw[hx];exact hk)),
        fun hr' hk=>let⟨k₁,h1,h2⟩:=harr.2 hr' (by rw[hx];exact hk);⟨k₁,h1,.head h0 s1 h2⟩⟩
  |goto l=>exact hq.elim
  |ret=>exact⟨_,a₁,w₁,hq,.of_steps (.one h0 s1) harr⟩
  |panic ch=>exact⟨_,a₁,w₁,hq,.of_steps (.one h0 s1) harr⟩
  |outgrown=>exact⟨_,a₁,w₁,hq,.of_steps (.one h0 s1) harr⟩
def XL(P:Program)(ro:Option Nat)(g:Nat)(nx:Act->World->Prop)(Q:Exit->Act->World->Prop)(a:Act)(w:World):Prop:=
 ∃jump w4,(Instr.endLoop g).run P w= .ok jump w4/\match jump with
  |none=>nx a w4
  |some c=>c.wpIn (FW ro) 0 P (Exit.then nx Q) a w4
inductive KR(P:Program)(A0:Nat->Prop)(w0:AW)(nt:Nat)(ds:List Deferred)(ro:Option Nat)(Qb:Exit->Act->World->Prop)(as:List Act)(sk:List (Option Nat×List BY×List B6×Nat)):List BY->(Act->World->Prop)->(Exit->Act->World->Prop)->Prop
 |nil:ro=none->KR P A0 w0 nt ds ro Qb as sk [] (Qb .normal) Qb
 |code {c ac K nx Q}:Cv P nt c=some ac->KR P A0 w0 nt ds ro Qb as sk K nx Q->KR P A0 w0 nt ds ro Qb as sk (.code ac::K) (c.wpIn (FW ro) 0 P (Exit.then nx Q)) Q
 |blk {id K nx Q}:KR P A0 w0 nt ds ro Qb as sk K nx Q->KR P A0 w0 nt ds ro Qb as sk (.blk id::K) nx (Exit.inBlock id (Exit.then nx Q))
 |inv {J K nx Q nxt}:KR P A0 w0 nt ds ro Qb as sk K nx Q->(∀β stk fr bx n a w,FQ nt ds a->AL P A0 w0 β stk as fr bx n a w->BF stk=sk->J (Eo stk) fr bx->nxt a w)->KR P A0 w0 nt ds ro Qb as sk (.inv J::K) nxt Q
 |ops {ops:Array Oper} {i l K nx Q}:EC P ops.toList nt (ops.toList.drop i)=some l->KR P A0 w0 nt ds ro Qb as sk K nx Q->KR P A0 w0 nt ds ro Qb as sk (.ops 0 l::K) (wpOpsIn (FW ro) 0 P ops (Exit.then nx Q) (List.range' i (ops.size-i))) Q
 |lend {b g K nx Q}:KR P A0 w0 nt ds ro Qb as sk K nx Q->KR P A0 w0 nt ds ro Qb as sk (.lend b g::K) (XL P ro g nx Q) Q
 |rbeg {b g K nx Q}:Dd K=some (b,g)->KR P A0 w0 nt ds ro Qb as sk K nx Q->KR P A0 w0 nt ds ro Qb as sk (.rbeg b g::K) (fun a w=>∃w2,(Instr.beginRound g).run P w= .ok () w2/\nx a w2) (fun _ _ _=>False)
 |rend {b g}:ro=some g->KR P A0 w0 nt ds ro Qb as sk [.rend b g] (Qb .normal) Qb
 |ctch {b g T k}:ro=none->KR P A0 w0 nt ds ro Qb as sk [.ctch b g T k] (Qb .normal) Qb
section
variable{nt:Nat}{ds:List Deferred}{ro:Option Nat}{Qb:Exit->Act->World->Prop}{as:List Act}{sk:List (Option Nat×List BY×List B6×Nat)}
theorem KR.ret(h:KR P A0 w0 nt ds ro Qb as sk K nx Q)(hp:LQ K=false)(a:Act)(w:World)(hq:Qb .ret a w):Q .ret a w:=by
 induction h with
 |nil|rend|ctch=>exact hq
 |code _ _ ih=>exact ih hp
 |blk _ ih=>exact ih hp
 |inv _ _ ih=>exact ih hp
 |ops _ _ ih=>exact ih hp
 |lend _ ih=>exact ih hp
 |rbeg _ _ _=>cases hp
theorem KR.nogoto(h:KR P A0 w0 nt ds ro Qb as sk K nx Q)(hb:∀l a w,¬Qb (.goto l) a w)(l:Nat)(a:Act)(w:World):¬Q (.goto l) a w:=by
 induction h with
 |nil|rend|ctch=>exact hb l a w
 |code _ _ ih=>exact ih
 |blk _ ih=>exact ih
 |inv _ _ ih=>exact ih
 |ops _ _ ih=>exact ih
 |lend _ ih=>exact ih
 |rbeg _ _ _=>exact fun h=>h
theorem KR.rofs(h:KR P A0 w0 nt ds ro Qb as sk K nx Q):(Dd K).map (·.2)=ro:=by
 induction h with
 |nil h|rend h|ctch h=>rw[h];rfl
 |code _ _ ih=>exact ih
 |blk _ ih=>exact ih
 |inv _ _ ih=>exact ih
 |ops _ _ ih=>exact ih
 |lend _ ih=>exact ih
 |rbeg _ _ ih=>exact ih
theorem KR.asg(h:KR P A0 w0 nt ds ro Qb as sk K nx Q)(hp:Dd K=none):LQ K=false:=by
 induction h with
 |nil|rend|ctch=>rfl
 |code _ _ ih=>exact ih hp
 |blk _ ih=>exact ih hp
 |inv _ _ ih=>exact ih hp
 |ops _ _ ih=>exact ih hp
 |lend _ ih=>exact ih hp
 |rbeg h1 _ _=>simp only[Dd]at hp;rw[h1]at hp;cases hp
theorem KR.pan(h:KR P A0 w0 nt ds ro Qb as sk K nx Q)(hp:EY K=true)(ch:List PanicEntry)(a:Act)(w:World)(hq:Qb (.panic ch) a w):Q (.panic ch) a w:=by
 induction h with
 |nil|rend|ctch=>exact hq
 |code _ _ ih=>exact ih hp
 |blk _ ih=>exact ih hp
 |inv _ _ ih=>exact ih hp
 |ops _ _ ih=>exact ih hp
 |lend _ _=>cases hp
 |rbeg _ _ _=>cases hp
theorem KR.catch(h:KR P A0 w0 nt ds ro Qb as sk K nx Q)(hp:Fw K=true)(ds':List Deferred)(b:Bn)(g:Nat)(T:TypeId)(k:IntKind):KR P A0 w0 nt ds' ro Qb as sk (K++[.ctch b g T k]) nx Q:=by
 induction h with
 |nil h=>exact .ctch h
 |rend|ctch=>cases hp
 |code h1 _ ih=>exact .code h1 (ih hp)
 |blk _ ih=>exact .blk (ih hp)
 |inv _ _ _=>cases hp
 |ops h1 _ ih=>exact .ops h1 (ih hp)
 |lend _ _=>cases hp
 |rbeg _ _ _=>cases hp
theorem KR.pop{K':List BY}{id:Nat}(h:KR P A0 w0 nt ds ro Qb as sk K nx Q)(hp:GF id K=some K'):Dd K'=Dd K/\Bl K'=Bl K/\∃nx' Q',KR P A0 w0 nt ds ro Qb as sk K' nx' Q'/\∀a w,nx' a w->Q (.exit id) a w:=by
 induction h with
 |nil=>cases hp
 |rend|ctch=>simp[GF]at hp
 |code _ _ ih=>exact ih hp
 | @blk id' K nx Q hk ih=>
  simp only[GF]at hp
  split at hp
  ·rename_i he
   cases hp
   subst he
   exact⟨rfl,rfl,nx,Q,hk,fun a w h=>by simp[Exit.inBlock,Exit.then,h]⟩
  rename_i hne
  obtain⟨e,e',nx',Q',h1,h2⟩:=ih hp
  refine⟨e,e',nx',Q',h1,fun a w h=> ?_⟩
  have hne':¬id=id':=fun e=>hne e.symm
  simp only[Exit.inBlock,hne',if_false,Exit.then]
  exact h2 a w h
 |inv _ _ ih=>exact ih hp
 |ops _ _ ih=>exact ih hp
 |lend _ ih=>exact ih hp
 |rbeg _ _ _=>cases hp
theorem KR.esc{id:Nat}(h:KR P A0 w0 nt ds ro Qb as sk K nx Q)(hp:GF id K=none)(ha:LQ K=false)(a:Act)(w:World)(hq:Qb (.exit id) a w):Q (.exit id) a w:=by
 induction h with
 |nil|rend|ctch=>exact hq
 |code _ _ ih=>exact ih hp ha
 | @blk id' K nx Q hk ih=>
  simp only[GF]at hp
  split at hp
  ·cases hp
  rename_i hne
  have hne':¬id=id':=fun e=>hne e.symm
  simp only[Exit.inBlock,hne',if_false,Exit.then]
  exact ih hp ha
 |inv _ _ ih=>exact ih hp ha
 |ops _ _ ih=>exact ih hp ha
 |lend _ ih=>exact ih hp ha
 |rbeg _ _ _=>cases ha
end
theorem Pw:∀K:List BY,EY K=true->Dd K=none:=by
 intro K;induction K with
 |nil=>intro _;rfl
 |cons i K ih=>cases i<;>first|exact ih|(intro h;cases h)
theorem M5:∀K:List BY,Fw K=true->Dd K=none/\Bl K=none/\∀b g T k,Dd (K++[.ctch b g T k])=none/\Bl (K++[.ctch b g T k])=some (b,g,T,k):=by
 intro K;induction K with
 |nil=>intro _;exact⟨rfl,rfl,fun _ _ _ _=>⟨rfl,rfl⟩⟩
 |cons i K ih=>cases i<;>first|exact ih|(intro h;cases h)
def HY(E:Db)(Qf:Ad->Bx->Prop)(n:Nat)(res:List B6)(stk:List Av)(fr:Fr)(bx:Bx)(nx:Nat):Prop:=
 (Hw fr bx res).1/\match stk with
  |[]=>Qf (Hw fr bx res).2 bx
  |f::s=>∃m,m<n/\run E Qf m f.K s f.res (Ai f.fr f.d (Hw fr bx res).2) bx nx
def N0(id g:Nat):Deferred:={target:= .fn (.func id) #[.pointer (some ⟨g,0,none⟩)],args:= #[]}
def Nx(E:Db)(ct:Option (Bn×Nat×TypeId×IntKind))(ds:List Deferred):Prop:=match ct with
 |none=>ds=[]
 |some (_,g,T,k)=>∃id,E.C id=some (T,k)/\ds=[N0 id g]
def Wg(P:Program)(E:Db)(A0:Nat->Prop)(w0:AW)(Qf:Ad->Bx->Prop)(n:Nat)(res:List B6)(sk:List (Option Nat×List BY×List B6×Nat))(as:List Act)(Qb:Exit->Act->World->Prop):Prop:=
 ∀ct β stk fr bx nx a w,Nx E ct (Dw a)->AL P A0 w0 β stk as fr bx nx a w->BF stk=sk->HY E Qf n res stk fr bx nx->Qb .ret a w/\Qb .normal a w
def Xl(P:Program)(E:Db)(A0:Nat->Prop)(w0:AW)(Qf:Ad->Bx->Prop)(n:Nat)(res:List B6)(sk:List (Option Nat×List BY×List B6×Nat))(as:List Act)(Qb:Exit->Act->World->Prop):Prop:=
 ∀ct β stk fr bx nx a w m T k z,m<=n->Nx E ct (Dw a)->AL P A0 w0 β stk as fr bx nx a w->BF stk=sk->IP (run E Qf m []) T k z stk ct res fr bx nx->Qb (.panic [{v:= .iface T (.int k z),recovered:=false}]) a w
theorem HY.mono{nx:Nat}(h:HY E Qf n' res stk fr bx nx)(hn:n'<=n):HY E Qf n res stk fr bx nx:=by
 refine⟨h.1,?_⟩
 have h2:=h.2
 cases stk with
 |nil=>exact h2
 |cons f s=>obtain⟨m,hm,hrun⟩:=h2;exact⟨m,by omega,hrun⟩
theorem Wg.mono{sk:List (Option Nat×List BY×List B6×Nat)}{as:List Act}{Qb:Exit->Act->World->Prop}(h:Wg P E A0 w0 Qf n res sk as Qb)(hn:n'<=n):Wg P E A0 w0 Qf n' res sk as Qb:=
 fun ct β stk fr bx nx a w hd hr hs hq=>h ct β stk fr bx nx a w hd hr hs (hq.mono hn)
theorem Xl.mono{sk:List (Option Nat×List BY×List B6×Nat)}{as:List Act}{Qb:Exit->Act->World->Prop}(h:Xl P E A0 w0 Qf n res sk as Qb)(hn:n'<=n):Xl P E A0 w0 Qf n' res sk as Qb:=
 fun ct β stk fr bx nx a w m T k z hm=>h ct β stk fr bx nx a w m T k z (by omega)
def WQ.exit':WQ->Exit
 | .ret=> .ret
 | .exit id=> .exit id
def Ac8(P:Program)(E:Db)(A0:Nat->Prop)(w0:AW)(Qf:Ad->Bx->Prop)(n:Nat)(b:Bn)(g:Nat)(sk:List (Option Nat×List BY×List B6×Nat))(as:List Act)(Qb:Exit->Act->World->Prop):Prop:=
 ∀β stk fr bx nx a w m,AL P A0 w0 β stk as fr bx nx a w->BF stk=sk->m<n->
  (Em (run E Qf m) b g .ready true stk bx nx->Qb .normal a w)/\∀j:WQ,Em (run E Qf m) b g (.done j) false stk bx nx->Qb j.exit' a w
def ON(P:Program)(E:Db)(A0:Nat->Prop)(w0:AW)(Qf:Ad->Bx->Prop)(n:Nat)(res:List B6)(sk:List (Option Nat×List BY×List B6×Nat))(as:List Act)(Qb:Exit->Act->World->Prop)(bot:Option (Bn×Nat)):Prop:=
 (∀l a w,¬Qb (.goto l) a w)/\match bot with
 |none=>Wg P E A0 w0 Qf n res sk as Qb/\Xl P E A0 w0 Qf n res sk as Qb
 |some (b,g)=>Ac8 P E A0 w0 Qf n b g sk as Qb
theorem ON.mono{sk:List (Option Nat×List BY×List B6×Nat)}{as:List Act}{Qb:Exit->Act->World->Prop}{bot:Option (Bn×Nat)}(h:ON P E A0 w0 Qf n res sk as Qb bot)(hn:n'<=n):ON P E A0 w0 Qf n' res sk as Qb bot:=by
 refine⟨h.1,?_⟩
 cases bot with
 |none=>exact⟨h.2.1.mono hn,h.2.2.mono hn⟩
 |some p=>exact fun β stk fr bx nx a w m hr hs hm=>h.2 β stk fr bx nx a w m hr hs (by omega)
def IL(P:Program)(E:Db)(A0:Nat->Prop)(w0:AW)(Qf:Ad->Bx->Prop)(n:Nat):Prop:=
 ∀K stk res fr bx nx,run E Qf n K stk res fr bx nx->∀nt ds ro Qb next Q a w β as sk,FQ nt ds a->AL P A0 w0 β stk as fr bx nx a w->BF stk=sk->KR P A0 w0 nt ds ro Qb as sk K next Q->ON P E A0 w0 Qf n res sk as Qb (Dd K)->Nx E (Bl K) ds->next a w
structure Cc(P:Program)(E:Db)(A0:Nat->Prop)(w0:AW):Prop where
 mixed:P.follows .mixedOrders=true
 G:∀n m c,E.G n=some (m,c)->Ao w0.w (fun g=>A0 g/\¬w0.X g) (.vptr m c) (.pointer (some ⟨n,0,none⟩))
 S:∀id s,E.S id=some s->Ah P E.G id s
 I:∀id af,E.I id=some af->∃fn,P.funcs[id]?=some fn/\Aw P fn=some af
 X:∀id pz s,E.X id=some (pz,s)->Cy P E.G id pz s
 C:∀id T k,E.C id=some (T,k)->D7 P id T k
theorem Bs{w:World}{N:Nat}(he:Cc P E A0 w0)(hm:Fp P A0 w0 β (Ab bx) N w){x:Operand}(hf:∀t,x= .tmp t->Ar A0 w0 β (Ab bx) w (Au fr t) (a.tmps.getD t undef)):I0 E A0 w0 β (Ab bx) w fr a x:=by
 intro ox hx
 cases x with
 |tmp t=>simp[AG]at hx;subst hx;exact hf t rfl
 |const v=>
  obtain⟨u,hu,rfl⟩:=Option.map_eq_some_iff.1 hx
  exact Ao.rep _ _ (Pr hu _ _)
 |global g=>
  simp[AG]at hx;subst hx
  simp only[ev]
  split
  ·rename_i m c hg
   exact Ao.rep _ _ (Ao.mono hm.below.size (fun g hg hA=>⟨⟨.inl hA.1,fun b c hb e=>(hm.base b c g hb e).1.elim (fun h=>absurd hg (Nat.not_lt.2 h)) hA.2⟩,hm.below.block g hg hA.2⟩) _ _ (he.G _ _ _ hg))
  trivial
 |func f=>simp[AG]at hx;subst hx;exact⟨[],rfl,rfl⟩
theorem GT{w:World}{A:Nat->Prop}{B:Br}:∀(v:Ad) (x:Value),A7 w A B β v x->FT v:=by
 intro v;induction v with
 |cons h t ih1 ih2=>rintro x ⟨y,ys,rfl,h1,h2⟩;exact⟨ih1 _ h1,ih2 _ h2⟩
 |agg l ih=>rintro x ⟨ys,rfl,h⟩;exact ih _ h
 |tup l ih=>rintro x ⟨ys,rfl,h⟩;exact ih _ h
 |view k n c=>rintro x ⟨a,c,_,h,_⟩;exact h
 |_=>intro x _;trivial
theorem AL.drew{as:List Act}{nx:Nat}{w:World}(h:AL P A0 w0 β stk as fr bx nx a w):AL P A0 w0 β stk as fr bx nx a w.drew:=by
 have hrep:∀{A:Nat->Prop} {B:Br} v x,A7 w A B β v x->A7 w.drew A B β v x:=fun v x hr=>A7.mono (w:=w) (w':=w.drew) (Nat.le_refl _) (fun g _ hA=>⟨hA,rfl⟩) (fun b c hb=>⟨c,hb,CR.refl c,rfl⟩) v x hr
 refine⟨⟨fun b c hb=> ?_,h.mem.inj,h.mem.nx,h.mem.base,h.mem.below.drew⟩,fun t=>hrep _ _ (h.fr t),?_,h.df.mono (Nat.le_refl _) (fun g _ hA=>⟨hA,rfl⟩),h.sn⟩
 ·exact(h.mem.bx b c hb).mono (Nat.le_refl _) (fun g _ hA=>⟨hA,rfl⟩) (fun b c hb=>⟨c,hb,CR.refl c,rfl⟩) rfl (fun g _=>rfl) fun _ _ _ _ _ _ _=>rfl
 have:∀{stk as},E5 A0 w0 β (Ab bx) w stk as->E5 A0 w0 β (Ab bx) w.drew stk as:=by
  intro stk;induction stk with
  |nil=>intro as hs;cases as<;>exact hs
  |cons f l ih=>intro as hs;cases as with
   |nil=>exact hs
   |cons a as=>exact⟨fun t=>hrep _ _ (hs.1 t),ih hs.2⟩
 exact this h.st
def HX(tmps:Array Value):ResultVar->Sem Value
 | .tmp t=>pure (tmps.getD t undef)
 | .cell a t=>do loadVar t (<-asAddr (tmps.getD a undef))
theorem Sm{as:List Act}{nx:Nat}{w:World}(h:AL P A0 w0 β stk as fr bx nx a w){r:ResultVar}{ar:B6}(hc:Xs P r=some ar)(hp:(O1 fr bx ar).pre):
  ∃x,(HX a.tmps r).run P w= .ok x w/\Ar A0 w0 β (Ab bx) w (O1 fr bx ar).v x:=by
 cases r with
 |tmp t=>simp[Xs]at hc;subst hc;exact⟨_,rfl,h.fr t⟩
 |cell ad t=>
  simp only[Xs]at hc
  obtain⟨⟨ag,s⟩,hs,rfl⟩:=Option.map_eq_some_iff.1 hc
  have hx:=h.fr ad
  obtain⟨_,_,_,_,h1⟩:=Ht hs
  cases hv:Au fr ad<;>simp only[O1,hv]at hp hx⊢ <;>first|exact hp.elim|skip
  rename_i b off
  obtain⟨⟨l0,hl0,hpb⟩,g,hg,he⟩:=hx
  obtain⟨l,hl⟩|⟨gw,vw,hl⟩:(∃l,Ab bx b=some (.cells l))\/∃g v,Ab bx b=some (.wc g v):=by
   cases l0 with
   |cells l=>exact .inl ⟨l,hl0⟩
   |wc g v=>exact .inr ⟨g,v,hl0⟩
   |it=>simp[hl0]at hp
   |_=>simp[ptrB]at hpb
  case inr=>
   simp only[hl]at hp⊢
   obtain⟨rfl,p2,rfl⟩:=hp
   obtain⟨h2,y,t',h3,h4⟩:=h.mem.bx b _ hl
   rw[hg]at h2;cases h2
   have hload:=Ds (w:=w) hs (g:=g) (off:=0) (zs:=[y]) (by simp[p2]) (fun j hj=>by rw[DD h3,Nat.zero_add])
   refine⟨y,?_,h4⟩
   simp[HX,he,asAddr,hload]
  simp only[hl]at hp⊢
  obtain⟨hlb,g',ys,t',h2,h3,h4⟩:=h.mem.bx b _ hl
  rw[hg]at h2;cases h2
  obtain⟨zs,hz1,hz2,hz3,hz4⟩:=Id h4 off s.length hp
  have hload:=Ds (w:=w) hs (g:=g) (off:=off) hz1 (fun j hj=>by rw[DD h3,hz2 j (by omega)])
  refine⟨if ag then .agg ⟨zs⟩else zs.getD 0 undef,?_,Gx hz4 fun h=>by rw[FZ,HN];have:=h1 h;omega⟩
  simp[HX,he,asAddr,hload]
theorem EZ{as:List Act}{nx:Nat}{w:World}(h:AL P A0 w0 β stk as fr bx nx a w){fn:Func}(hc:IN P fn.results.toList=some res)(hp:(Hw fr bx res).1):
  ∃x,(results fn a.tmps).run P w= .ok x w/\Ar A0 w0 β (Ab bx) w (Hw fr bx res).2 x:=by
 have key:∀(l:List ResultVar) (r:List B6),IN P l=some r->(MS fr bx r).1->∃xs:List Value,xs.length=l.length/\(l.mapM (HX a.tmps)).run P w= .ok xs w/\Ar A0 w0 β (Ab bx) w (MS fr bx r).2 (.tuple ⟨xs⟩):=by
  intro l;induction l with
  |nil=>intro r hr _;simp[IN]at hr;subst hr;exact⟨[],rfl,rfl,rfl⟩
  |cons q l ih=>
   intro r hr hp
   simp only[IN]at hr
   split at hr
   ·rename_i ar r' h1 h2
    simp at hr;subst hr
    simp only[MS]at hp⊢
    obtain⟨x,hx1,hx2⟩:=Sm h h1 hp.1
    obtain⟨xs,hl,hx3,hx4⟩:=ih r' h2 hp.2
    refine⟨x::xs,by simp[hl],?_,⟨x,xs,rfl,hx2,hx4⟩⟩
    simp only[List.mapM_cons,Sem.run_bind]
    rw[hx1]
    simp only[Result.andThen_ok,hx3,Sem.run_pure]
   cases hr
 have hres:∀xs:List Value,(fn.results.toList.mapM (HX a.tmps)).run P w= .ok xs w->(results fn a.tmps).run P w= .ok (if h:(⟨xs⟩:Array Value).size=1 then(⟨xs⟩:Array Value)[0]else .tuple ⟨xs⟩) w:=by
  intro xs hx
  have e:results fn a.tmps=(do let vs<-fn.results.mapM (HX a.tmps);pure (if h:vs.size=1 then vs[0]else .tuple vs)):=by
   unfold results
   congr 1<;>(try congr 1)<;>(try (funext r;cases r<;>rfl))
  rw[e]
  simp only[Sem.run_bind]
  rw[Array.mapM_eq_mapM_toList]
  simp only[Sem.run_map]
  rw[hx]
  rfl
 have one:∀r,res=[r]->∃x,(results fn a.tmps).run P w= .ok x w/\Ar A0 w0 β (Ab bx) w (Hw fr bx res).2 x:=by
  rintro r rfl
  obtain⟨xs,hl,hx,hr⟩:=key fn.results.toList [r] hc (by simp only[Hw]at hp;simp only[MS];exact⟨hp,trivial⟩)
  have hlen:fn.results.toList.length=1:=by
   cases hq:fn.results.toList with
   |nil=>rw[hq]at hc;simp[IN]at hc
   |cons a l=>
    cases l with
    |nil=>rfl
    |cons b l=>
     rw[hq]at hc
     simp only[IN]at hc
     split at hc
     ·rename_i _ _ _ h2
      simp at hc
      split at h2
      ·simp at h2;rw[hc.2]at h2;cases h2
      cases h2
     cases hc
  have h1:=hres xs hx
  rw[hlen]at hl
  cases xs with
  |nil=>cases hl
  |cons x xs=>
   have:xs=[]:=List.eq_nil_of_length_eq_zero (by simpa using hl)
   subst this
   refine⟨x,h1,?_⟩
   obtain⟨y,ys,he,h2,_⟩:=hr
   have:y=x:=by simp at he;exact he.1.symm
   subst this
   exact h2
 cases res with
 |nil=>
  obtain⟨xs,hl,hx,hr⟩:=key fn.results.toList [] hc (by simp[MS])
  have:xs=[]:=by have e:Value.tuple ⟨xs⟩= .tuple #[]:=hr;simpa using e
  subst this
  exact⟨_,hres [] hx,⟨[],rfl,hr⟩⟩
 |cons r l=>
  cases l with
  |nil=>exact one r rfl
  |cons r2 l=>
   obtain⟨xs,hl,hx,hr⟩:=key fn.results.toList (r::r2::l) hc (by simpa only[Hw]using hp)
   have hne:¬(⟨xs⟩:Array Value).size=1:=by
    have:=A7.len hr
    obtain⟨y,ys,he,_,hr2⟩:=hr
    have:xs=y::ys:=by simpa using he
    subst this
    obtain⟨y2,ys2,he2,_,_⟩:=hr2
    have:ys=y2::ys2:=by simpa using he2
    subst this
    simp
   have h1:=hres xs hx
   rw[dif_neg hne]at h1
   exact⟨_,h1,⟨xs,rfl,hr⟩⟩
end Go.Proofs.YtlieoghhkioflaaGreat
/- The engine,part 17b: marks taken at a return; the record of a range over a function. No condition. -/
namespace Go.Proofs.YtlieoghhkioflaaGreat
open Go Go.RowKit
variable{ca cb:Cm}{B:Br}{b:Bn}{d:Deferred}{R:Ending->World->Prop}{fn:Func}{kd:IntKind}{l:List Deferred}{ps:List Nat}{g:Nat}{w':World}
variable{P:Program}{E:Db}{A0:Nat->Prop}{w0:AW}{Qf:Ad->Bx->Prop}
variable{β:Bn->CK}{stk:List Av}{as:List Act}{fr:Fr}{bx:Bx}{nx:Nat}{a:Act}{w:World}
theorem AW.Under.putObj{b:AW}{w:World}(h:b.Under w)(hg:b.lo g)(o:Obj):b.Under (w.putObj g o):=
 h.but rfl rfl rfl (by simp) fun k _ hn=>World.putObj_heap_other fun e=>hn (e▸hg)
def Do(w w':World):Prop:=w'.heap.size=w.heap.size/\∀g:Nat,(∃x,w.heap[g]?=some (Obj.deferred x))\/w'.heap[g]?=w.heap[g]?
theorem Do.cell{w:World}(h:Do w w'){o:Nat}{y:Value}(hc:w.cell? ⟨g,o,none⟩=some y):w'.cell? ⟨g,o,none⟩=some y:=by
 rcases h.2 g with⟨x,hx⟩|hx
 ·simp[World.cell?,hx]at hc
 rw[GB hx];exact hc
theorem Do.obj{w:World}(h:Do w w'){o:Obj}(hc:w.heap[g]?=some o)(hn:∀x,o≠Obj.deferred x):w'.heap[g]?=some o:=by
 rcases h.2 g with⟨x,hx⟩|hx
 ·rw[hx]at hc;exact absurd (Option.some.inj hc).symm (hn x)
 rw[hx];exact hc
theorem Do.map{w:World}(h:Do w w'){f:Int->Option Value}(hm:CU w g kd f):CU w' g kd f:=by
 obtain⟨es,c,h1,h2⟩:=hm
 exact⟨es,c,h.obj h1 (fun x e=>by cases e),h2⟩
theorem Do.mapO{w:World}(h:Do w w'){f:Int->Option Value}(hm:E1 w g kd f):E1 w' g kd f:=by
 obtain⟨es,c,h1,h2⟩:=hm
 exact⟨es,c,h.obj h1 (fun x e=>by cases e),h2⟩
theorem Do.iter{w:World}(h:Do w w'){r:Nat}{s:Int->Bool}{la:Option Int}(hm:Fk w r g kd s la):Fk w' r g kd s la:=by
 obtain⟨hne,es,c,s0,c0,arr,h1,h2,h3⟩:=hm
 exact⟨hne,es,c,s0,c0,arr,h.obj h1 (fun x e=>by cases e),h.obj h2 (fun x e=>by cases e),h3⟩
theorem Ao.turned{w:World}(h:Do w w'){A:Nat->Prop}:∀(v:Ad) (x:Value),Ao w A v x->Ao w' A v x:=by
 intro v
 induction v with
 |view k n cell ih=>
  rintro x ⟨a,c,rfl,hn,hnc,hh⟩
  refine⟨a,c,rfl,hn,hnc,fun h0=> ?_⟩
  obtain⟨g,off,rfl,hg,hA,hc⟩:=hh h0
  refine⟨g,off,rfl,by rw[h.1];exact hg,hA,fun i hi j hj=> ?_⟩
  obtain⟨y,hy,ho,hr⟩:=hc i hi j hj
  exact⟨y,h.cell hy,ho,ih i j y hr⟩
 |tv k n cell ih=>
  rintro x ⟨a,rfl,hn,hh⟩
  refine⟨a,rfl,hn,fun h0=> ?_⟩
  obtain⟨g,off,rfl,hg,hA,hc⟩:=hh h0
  refine⟨g,off,rfl,by rw[h.1];exact hg,hA,fun i hi j hj=> ?_⟩
  obtain⟨y,hy,ho,hr⟩:=hc i hi j hj
  exact⟨y,h.cell hy,ho,ih i j y hr⟩
 |vptr m cell ih=>
  rintro x ⟨g,off,rfl,hg,hA,hc⟩
  refine⟨g,off,rfl,by rw[h.1];exact hg,hA,fun j hj=> ?_⟩
  obtain⟨y,hy,hr⟩:=hc j hj
  exact⟨y,h.cell hy,ih j y hr⟩
 |cons a t ih1 ih2=>rintro x ⟨y,ys,rfl,h1,h2⟩;exact⟨y,ys,rfl,ih1 y h1,ih2 _ h2⟩
 |agg l ih=>rintro x ⟨ys,rfl,h⟩;exact⟨ys,rfl,ih _ h⟩
 |tup l ih=>rintro x ⟨ys,rfl,h⟩;exact⟨ys,rfl,ih _ h⟩
 |func fn l ih=>rintro x ⟨ys,rfl,h⟩;exact⟨ys,rfl,ih _ h⟩
 |mview kd has f ih=>
  rintro x ⟨g,hf,rfl,hg,hA,hm,hc⟩
  refine⟨g,hf,rfl,by rw[h.1];exact hg,hA,h.map hm,fun k=>⟨(hc k).1,fun hk=> ?_⟩⟩
  obtain⟨y,hy,hr⟩:=(hc k).2 hk
  exact⟨y,hy,ih k y hr⟩
 |_=>intro x h;exact h
theorem A7.turned{w:World}(h:Do w w'){A:Nat->Prop}:∀(v:Ad) (x:Value),A7 w A B β v x->A7 w' A B β v x:=by
 intro v
 induction v with
 |cons a t ih1 ih2=>rintro x ⟨y,ys,rfl,h1,h2⟩;exact⟨y,ys,rfl,ih1 y h1,ih2 _ h2⟩
 |agg l ih=>rintro x ⟨ys,rfl,h⟩;exact⟨ys,rfl,ih _ h⟩
 |tup l ih=>rintro x ⟨ys,rfl,h⟩;exact⟨ys,rfl,ih _ h⟩
 |func fn l ih=>rintro x ⟨ys,rfl,h⟩;exact⟨ys,rfl,ih _ h⟩
 |ptr b off=>intro x h;exact h
 |mapb b=>intro x h;exact h
 |own b=>intro x h;exact h
 |rptr b i off=>intro x h;exact h
 |yld b=>intro x h;exact h
 |osl b off n=>intro x h;exact h
 |nil=>intro x h;exact h
 |und=>intro x h;exact h
 |_=>intro x hx;exact Ao.turned h _ x hx
theorem CP.turned{w:World}(h:Do w w'){A:Nat->Prop}{base:Nat}{c:Cw}(hb:CP P w A B β base b c):CP P w' A B β base b c:=by
 cases c with
 |cells l=>
  obtain⟨hl,g,ys,t,h1,h2,h3⟩:=hb
  exact⟨hl,g,ys,t,h1,h.obj h2 (fun x e=>by cases e),A7.turned h _ _ h3⟩
 |lp g fr ps ca cb st=>
  obtain⟨h1,rec,nt,h2,h3,h4,h5⟩:=hb
  exact⟨h1,rec,nt,h.obj h2 (fun x e=>by cases e),h3,h4,fun t=>A7.turned h _ _ (h5 t)⟩
 |mp kd has f=>
  obtain⟨g,m,h1,h2,h3⟩:=hb
  refine⟨g,m,h1,h.mapO h2,fun k=>⟨(h3 k).1,fun hk=> ?_⟩⟩
  obtain⟨y,hy,hr⟩:=(h3 k).2 hk
  exact⟨y,hy,A7.turned h _ _ hr⟩
 |it m kd seen last=>
  obtain⟨g,h1,h2⟩:=hb
  refine⟨g,h1,fun mb hmb=> ?_⟩
  obtain⟨h3,gm,h4,h5⟩:=h2 mb hmb
  exact⟨h3,gm,h4,h.iter h5⟩
 |row e k n cc=>
  obtain⟨h1,hk,hn,xs,ho,hc⟩:=hb
  refine⟨h1,hk,hn,xs,?_,fun i hi j hj=> ?_⟩
  ·obtain⟨hl,ho⟩:=ho
   refine⟨hl,?_⟩
   rcases ho with ho|⟨g,cap,cur,e1,e2,e3,e4⟩
   ·exact .inl ho
   exact .inr ⟨g,cap,cur,e1,e2,h.obj e3 (fun x e=>by cases e),e4⟩
  obtain⟨y,hy,ho1,hr⟩:=hc i hi j hj
  exact⟨y,hy,ho1,Ao.turned h _ _ hr⟩
 |rown e k n cc=>
  obtain⟨h1,hk,hn,xs,ho,hc⟩:=hb
  refine⟨h1,hk,hn,xs,?_,fun i hi j hj=> ?_⟩
  ·obtain⟨hl,ho⟩:=ho
   refine⟨hl,?_⟩
   rcases ho with ho|⟨g,cap,cur,e1,e2,e3,e4⟩
   ·exact .inl ho
   exact .inr ⟨g,cap,cur,e1,e2,h.obj e3 (fun x e=>by cases e),e4⟩
  obtain⟨y,hy,ho1,hr⟩:=hc i hi j hj
  exact⟨y,hy,ho1,A7.turned h _ _ hr⟩
 |mz kd f=>
  obtain⟨g,m,h1,h2,h3⟩:=hb
  exact⟨g,m,h1,h.mapO h2,fun k=>A7.turned h _ _ (h3 k)⟩
 |wc g v=>
  obtain⟨h1,y,t,h2,h3⟩:=hb
  exact⟨h1,y,t,h.obj h2 (fun x e=>by cases e),A7.turned h _ _ h3⟩
theorem E5.turned{w:World}(h:Do w w'):∀{stk as},E5 A0 w0 β B w stk as->E5 A0 w0 β B w' stk as:=by
 intro stk;induction stk with
 |nil=>intro as hs;cases as<;>exact hs
 |cons f l ih=>intro as hs;cases as with
  |nil=>exact hs
  |cons a as=>exact⟨fun t=>A7.turned h _ _ (hs.1 t),ih hs.2⟩
theorem AL.take(h:AL P A0 w0 β stk as fr bx nx a w){ds:List Deferred}(hd:a.defers=d::ds)(hm:DR d=true):
  ∃r,d.target= .collected r/\(Instr.takeDeferred r).run P w= .ok [] (w.putObj r (.deferred none))/\AL P A0 w0 β stk as fr bx nx {a with defers:=ds} (w.putObj r (.deferred none)):=by
 have hdf:=h.df
 simp only[N1,hd,List.cons_append,List.filter_cons,hm,if_true]at hdf
 obtain⟨hp,hm⟩:=hdf
 obtain⟨r,h1,h2,h3,h4,h5⟩:=hm d (by simp)
 rw[List.pairwise_cons]at hp
 have ht:Do w (w.putObj r (.deferred none)):=⟨by simp,fun g=>by
  by_cases hg:g=r
  ·subst hg;exact .inl ⟨_,h5⟩
  exact .inr (World.putObj_heap_other hg)⟩
 refine⟨r,by rw[h1],run_takeDeferred h5,⟨⟨fun b c hb=>(h.mem.bx b c hb).turned ht,h.mem.inj,h.mem.nx,fun b c g hb hg=> ?_,?_⟩,fun t=>A7.turned ht _ _ (h.fr t),h.st.turned ht,?_,h.sn⟩⟩
 ·have:=h.mem.base b c g hb hg
  rw[ht.1];exact this
 ·exact h.mem.below.putObj (.inl h2) _
 refine⟨hp.2,fun d' hd'=> ?_⟩
 obtain⟨r',k1,k2,k3,k4,k5⟩:=hm d' (by simp only[List.mem_cons];exact .inr hd')
 refine⟨r',k1,k2,by rw[ht.1];exact k3,k4,?_⟩
 have hne:r'≠r:=by
  intro e
  have:=hp.1 d' hd'
  rw[h1,k1,e]at this
  exact this rfl
 rw[World.putObj_heap_other hne];exact k5
theorem AL.off(h:AL P A0 w0 β stk as fr bx nx a w)(hd:a.defers=d::l)(hm:DR d=false):AL P A0 w0 β stk as fr bx nx {a with defers:=l} w:=
 ⟨h.mem,h.fr,h.st,by have:=h.df;simp only[N1,hd,List.cons_append,List.filter_cons,hm,Bool.false_eq_true,if_false]at this;exact this,h.sn⟩
theorem G2{a:Act}(hd:a.defers=d::l)(hm:DR d=true):Dw {a with defers:=l}=Dw a:=by simp[Dw,hd,hm]
theorem GQ{a:Act}(hd:a.defers=d::l)(hm:DR d=false):Dw a=d::Dw {a with defers:=l}:=by simp[Dw,hd,hm]
theorem AL.leave(he:Cc P E A0 w0):∀(l:List Deferred) (ct:Option (Bn×Nat×TypeId×IntKind)) (a:Act) (w:World),AL P A0 w0 β stk as fr bx nx a w->a.defers=l->Nx E ct (Dw a)->
  (∀a' w',a'.tmps=a.tmps->AL P A0 w0 β stk as fr bx nx a' w'->∃v,(results fn a.tmps).run P w'= .ok v w'/\R (.returned v) w')->LeavesInM (FW none) 0 P fn a.tmps R l .returning w:=by
 intro l
 induction l with
 |nil=>
  intro ct a w h hd _ hk
  obtain⟨v,h1,h2⟩:=hk a w rfl h
  exact⟨v,h1,h2⟩
 |cons d l ih=>
  intro ct a w h hd hds hk
  cases hm:DR d with
  |true=>
   obtain⟨r,h1,h2,h3⟩:=h.take hd hm
   exact⟨(by intro e;cases e),.inl ⟨r,_,h1,h2,ih ct {a with defers:=l} _ h3 rfl (by rw[G2 hd hm];exact hds) fun a' w' ht hr=>hk a' w' ht hr⟩⟩
  |false=>
   rw[GQ hd hm]at hds
   cases ct with
   |none=>cases hds
   |some ct=>
    obtain⟨b,g,T,k⟩:=ct
    obtain⟨id,hc,e⟩:=hds
    simp only[List.cons.injEq]at e
    obtain⟨rfl,e2⟩:=e
    have hok:=he.C id T k hc
    refine⟨(by intro e;cases e),.inr ⟨(by intro e;cases e),.func id,#[.pointer (some ⟨g,0,none⟩)],id,#[.pointer (some ⟨g,0,none⟩)],rfl,?_,fun _ _=>trivial,(hok.idle g w).mono ?_⟩⟩
    ·simpa[N0,invoke]using hok.ent #[.pointer (some ⟨g,0,none⟩)] w
    rintro ex u' w' ⟨rfl,rfl,rfl⟩
    exact ih none {a with defers:=l} w' (h.off hd hm) rfl e2 fun a' w' ht hr=>hk a' w' ht hr
theorem AL.leaveP{ch:List PanicEntry}:∀(l:List Deferred) (a:Act) (w:World),AL P A0 w0 β stk as fr bx nx a w->a.defers=l->Dw a=[]->
  (∀a' w',a'.tmps=a.tmps->AL P A0 w0 β stk as fr bx nx a' w'->R (.panicked ch) w')->LeavesInM (FW none) 0 P fn a.tmps R l (.panicking ch) w:=by
 intro l
 induction l with
 |nil=>intro a w h hd _ hk;exact hk a w rfl h
 |cons d l ih=>
  intro a w h hd hds hk
  cases hm:DR d with
  |true=>
   obtain⟨r,h1,h2,h3⟩:=h.take hd hm
   exact⟨(by intro e;cases e),.inl ⟨r,_,h1,h2,ih {a with defers:=l} _ h3 rfl (by rw[G2 hd hm];exact hds) fun a' w' ht hr=>hk a' w' ht hr⟩⟩
  |false=>rw[GQ hd hm]at hds;cases hds
theorem AL.leaveC(he:Cc P E A0 w0){T:TypeId}{k:IntKind}{y z:Int}(hb:Ab bx b=some (.wc g (.int k y))):∀(l:List Deferred) (a:Act) (w:World),AL P A0 w0 β stk as fr bx nx a w->a.defers=l->Nx E (some (b,g,T,k)) (Dw a)->
  (∀a' w',a'.tmps=a.tmps->AL P A0 w0 β stk as fr (Aj bx b (.wc g (.int k z))) nx a' w'->∃v,(results fn a.tmps).run P w'= .ok v w'/\R (.returned v) w')->LeavesInM (FW none) 0 P fn a.tmps R l (.panicking [{v:= .iface T (.int k z),recovered:=false}]) w:=by
 intro l
 induction l with
 |nil=>
  intro a w h hd hds _
  obtain⟨id,_,e⟩:=hds
  simp[Dw,hd]at e
 |cons d l ih=>
  intro a w h hd hds hk
  cases hm:DR d with
  |true=>
   obtain⟨r,h1,h2,h3⟩:=h.take hd hm
   exact⟨(by intro e;cases e),.inl ⟨r,_,h1,h2,ih {a with defers:=l} _ h3 rfl (by rw[G2 hd hm];exact hds) fun a' w' ht hr=>hk a' w' ht hr⟩⟩
  |false=>
   rw[GQ hd hm]at hds
   obtain⟨id,hc,e⟩:=hds
   simp only[List.cons.injEq]at e
   obtain⟨rfl,e2⟩:=e
   have hok:=he.C id T k hc
   obtain⟨h1,y0,t,h2,h3⟩:=h.mem.bx b _ hb
   obtain rfl:y0= .int k y:=h3
   refine⟨(by intro e;cases e),.inr ⟨(by intro e;cases e),.func id,#[.pointer (some ⟨g,0,none⟩)],id,#[.pointer (some ⟨g,0,none⟩)],rfl,?_,fun _ _=>trivial,(hok.pan g z y t w h2).mono ?_⟩⟩
   ·simpa[N0,invoke]using hok.ent #[.pointer (some ⟨g,0,none⟩)] w
   rintro ex u' w' ⟨rfl,rfl,rfl⟩
   have hr:=(h.off hd hm).storeW (v:= .int k z) (y:= .int k z) hb (fun _ _=>rfl) none (fun s hs=>by cases hs) undef
   exact AL.leave he l none {a with defers:=l} _ hr rfl e2 fun a' w' ht hr=>hk a' w' ht hr
theorem Lt(he:Cc P E A0 w0){Qf:Ad->Bx->Prop}{n:Nat}{res:List B6}{sk:List (Option Nat×List BY×List B6×Nat)}{as:List Act}
  (hret:∀β stk fr bx nx a w,AL P A0 w0 β stk as fr bx nx a w->BF stk=sk->HY E Qf n res stk fr bx nx->∃v,(results fn a.tmps).run P w= .ok v w/\R (.returned v) w)
  (hpan:∀β f s fr bx nx a w m T k z,m<=n->AL P A0 w0 β (f::s) as fr bx nx a w->BF (f::s)=sk->EY f.K=true->IP (run E Qf m []) T k z s (Bl f.K) f.res f.fr bx nx->R (.panicked [{v:= .iface T (.int k z),recovered:=false}]) w):
  ON P E A0 w0 Qf n res sk as (bodyPostM (FW none) 0 P fn R) none:=by
 refine⟨fun l a w h=>h,fun ct β stk fr bx nx a w hds hr hs hq=> ?_,fun ct β stk fr bx nx a w m T k z hm hds hr hs hq=> ?_⟩
 ·have:=hr.leave he a.defers ct a w rfl hds (fn:=fn) (R:=R) fun a' w' ht hr'=>by
   rw[<-ht];exact hret β stk fr bx nx a' w' hr' hs hq
  exact⟨this,this⟩
 cases ct with
 |none=>
  cases stk with
  |nil=>exact hq.elim
  |cons f s=>exact hr.leaveP a.defers a w rfl hds fun a' w' _ hr'=>hpan β f s fr bx nx a' w' m T k z hm hr' hs hq.1 hq.2
 |some ct=>
  obtain⟨b,g,T',k'⟩:=ct
  have hq2:T'=T/\k'=k/\(∃y,Ab bx b=some (.wc g (.int k y)))/\run E Qf m [] stk res fr (Aj bx b (.wc g (.int k z))) nx:=by cases stk<;>exact hq
  obtain⟨rfl,rfl,⟨y,hy⟩,hrun⟩:=hq2
  have hrr:HY E Qf n res stk fr (Aj bx b (.wc g (.int k' z))) nx:=by
   cases m with
   |zero=>exact hrun.elim
   |succ m=>
    simp only[run]at hrun
    refine⟨hrun.1,?_⟩
    have h2:=hrun.2
    cases stk with
    |nil=>exact h2
    |cons f s=>exact⟨m,by omega,h2⟩
  exact hr.leaveC he hy a.defers a w rfl hds fun a' w' ht hr'=>by
   rw[<-ht];exact hret β stk fr _ nx a' w' hr' hs hrr
theorem AL.lpget(h:AL P A0 w0 β stk as fr bx nx a w){fr':Fr}{st:XE}(hb:Ab bx b=some (.lp g fr' ps ca cb st)):
  ∃rec nt,(β b).a=some g/\w.heap[g]?=some (.loop rec)/\UL P rec nt ps ca cb/\Q6 rec st/\∀t,Ar A0 w0 β (Ab bx) w (Au fr' t) (rec.tmps.getD t undef):=by
 obtain⟨h1,rec,nt,h2⟩:=h.mem.bx b _ hb
 exact⟨rec,nt,h1,h2⟩
theorem AL.lpset(h:AL P A0 w0 β stk as fr bx nx a w){fr':Fr}{st st':XE}(hb:Ab bx b=some (.lp g fr' ps ca cb st)){rec:Loop}{s:LoopState}{pd:Option Code}(hl:w.heap[g]?=some (.loop rec))
  (hst:Q6 {rec with state:=s,pending:=pd} st'):AL P A0 w0 β stk as fr (Aj bx b (.lp g fr' ps ca cb st')) nx a (w.putObj g (.loop {rec with state:=s,pending:=pd})):=by
 obtain⟨rec',nt,h1,h2,h3,h4,h5⟩:=h.lpget hb
 rw[hl]at h2
 obtain rfl:rec=rec':=by simpa using h2
 have hbase:=h.mem.base b _ g hb h1
 have hu:LK A0 w0 β β b w (w.putObj g (.loop {rec with state:=s,pending:=pd})):=by
  refine⟨by simp,fun k hk hne=>World.putObj_heap_other fun e=>hne (by rw[e];exact h1),fun _ _=>rfl,fun g' hg'=>⟨.inl hg',?_⟩,?_⟩
  ·rw[h1]at hg';cases hg';simp;exact hbase.2
  exact h.mem.below.putObj hbase.1 _
 have:=h.updK (c1:= .lp g fr' ps ca cb st') hb (h.mem.noIt hb rfl) ⟨rfl,rfl,rfl,rfl⟩ hu (fun hmono _=>⟨h1,{rec with state:=s,pending:=pd},nt,World.putObj_heap_same hbase.2,h3,hst,fun t=>hmono _ _ (h5 t)⟩) none (fun s hs=>by cases hs) undef
 exact this
theorem O9(ks:List Nat)(fr:Fr)(t:Nat):Au (FM ks fr) t=Au fr t\/Au (FM ks fr) t= .und:=by
 induction ks with
 |nil=>exact .inr rfl
 |cons k ks ih=>
  simp only[FM,List.map_cons,Au]
  by_cases e:k=t
  ·subst e;exact .inl (if_pos rfl)
  rw[if_neg e];exact ih
theorem AL.newLp(h:AL P A0 w0 β stk as fr bx nx a w){w1:World}{rec:Loop}{nt:Nat}{ks:List Nat}(hk:Below w.heap.size w w1)(hg:w.heap.size<=g)(hgl:g<w1.heap.size)(hl:w1.heap[g]?=some (.loop rec))(hrec:UL P rec nt ps ca cb)(hst:Q6 rec .ready)(htm:rec.tmps=a.tmps):
  AL P A0 w0 (BL β nx ⟨some g,0,0⟩) stk as fr ((nx,.one (.lp g (FM ks fr) ps ca cb .ready))::bx) (nx+1) a w1:=by
 have hal:∀g0,g0<w.heap.size->Al A0 w0 (Ab bx) β g0->Al A0 w0 (Dc (Ab bx) nx (some (.lp g (FM ks fr) ps ca cb .ready))) (BL β nx ⟨some g,0,0⟩) g0/\w1.heap[g0]?=w.heap[g0]?:=by
  rintro g0 hg0 ⟨hA,hn⟩
  refine⟨⟨hA,fun b c hb e=> ?_⟩,hk.block g0 hg0⟩
  rcases BO hb with hb|⟨rfl,_⟩
  ·rw[Bu h.nxn _ _ hb]at e;exact hn b c hb e
  rw[Aq]at e;cases e;omega
 have hs:CD P A0 w0 β (BL β nx ⟨some g,0,0⟩) (Ab bx) nx (some (.lp g (FM ks fr) ps ca cb .ready)) w w1:=by
  refine⟨hk,fun b c hb=>Bu h.nxn _ _ hb,?_⟩
  rintro c ⟨⟩
  refine⟨⟨by rw[Aq],rec,nt,hl,hrec,hst,fun t=> ?_⟩,fun g' hg'=> ?_⟩
  ·rcases O9 ks fr t with e|e
   ·rw[e,htm]
    exact A7.mono hk.size hal (fun b c hb=>⟨c,C6 h.nxn hb,CR.refl c,Bu h.nxn _ _ hb⟩) _ _ (h.fr t)
   rw[e];trivial
  rw[Aq]at hg';cases hg';exact⟨hg,hgl⟩
 have:=h.soft hs (v:= .und) (x:=undef) trivial none (fun s hs=>by cases hs)
 exact this
theorem Uk{A:Nat->Prop}{nt:Nat}:∀(ps:List Nat) (vs:List Ad) (xs:List Value) (fr:Fr) (tm:Array Value),ps.length=xs.length->(∀t∈ps,t<nt)->nt<=tm.size->A7 w' A B β (vl vs) (.tuple ⟨xs⟩)->(∀t,A7 w' A B β (Au fr t) (tm.getD t undef))->
  nt<=(((ps.zip xs).foldl (fun(tmps:Array Value) (p:Nat×Value)=>tmps.setIfInBounds p.1 p.2) tm)).size/\∀t,A7 w' A B β (Au (Ks fr ps vs) t) (((ps.zip xs).foldl (fun(tmps:Array Value) (p:Nat×Value)=>tmps.setIfInBounds p.1 p.2) tm).getD t undef):=by
 intro ps
 induction ps with
 |nil=>intro vs xs fr tm hl _ hn hr hf;cases vs<;>exact⟨hn,hf⟩
 |cons p ps ih=>
  intro vs xs fr tm hl hp hn hr hf
  cases xs with
  |nil=>simp at hl
  |cons x xs=>
   cases vs with
   |nil=>
    have e:Value.tuple ⟨x::xs⟩= .tuple #[]:=hr
    simp at e
   |cons v vs=>
    obtain⟨y,ys,he,h1,h2⟩:=hr
    obtain⟨rfl,rfl⟩:y=x/\ys=xs:=by simp at he;exact⟨he.1.symm,he.2.symm⟩
    simp only[List.zip_cons_cons,List.foldl_cons,Ks]
    refine ih vs ys ((p,v)::fr) _ (by simpa using hl) (fun t ht=>hp t (by simp[ht])) (by simpa using hn) h2 fun t=> ?_
    have hpt:=hp p (by simp)
    simp only[Au]
    by_cases e:p=t
    ·subst e
     rw[if_pos rfl]
     simp[Array.getD_eq_getD_getElem?,show p<tm.size from by omega]
     exact h1
    rw[if_neg e]
    have:=hf t
    simp only[Array.getD_eq_getD_getElem?]at this⊢
    rw[Array.getElem?_setIfInBounds_ne e]
    exact this
end Go.Proofs.YtlieoghhkioflaaGreat
/- The engine,part 18: one operation of a run,and the whole run. No condition. -/
namespace Go.Proofs.YtlieoghhkioflaaGreat
open Go Go.RowKit
variable{vs:List Ad}{cs:List Value}
variable{P:Program}{E:Db}{A0:Nat->Prop}{w0:AW}{Qf:Ad->Bx->Prop}
theorem Tr(b:Bool):undef≠ .bool b:=by intro h;cases h
theorem Fj{β:Bn->CK}{w:World}{A:Nat->Prop}{B:Br}{a:Act}{fr:Fr}{ops:Array Oper}{o:Oper}{g:Option (Nat×Bool)}{s:Bool}(hg:Ir ops.toList o=some g)(hf:∀t wt,g=some (t,wt)->A7 w A B β (Au fr t) (a.tmps.getD t undef))(hs:A9 fr g=some s):
  Region.wanted o (yielded ops a.tmps)= !s:=by
 unfold Ir at hg
 unfold Region.wanted
 cases hgo:o.guard with
 |none=>
  simp[hgo]at hg;subst hg
  simp[A9]at hs;subst hs
  rfl
 |some p=>
  obtain⟨j,wt⟩:=p
  simp only[hgo]at hg
  split at hg
  ·rename_i q hq
   obtain⟨t,ht,rfl⟩:=Option.map_eq_some_iff.1 hg
   have hr:=hf t wt rfl
   simp only[A9]at hs
   split at hs
   ·rename_i b hb
    simp at hs
    rw[hb]at hr
    have hr:a.tmps.getD t undef= .bool b:=hr
    have hlt:t<a.tmps.size:=by
     rcases Nat.lt_or_ge t a.tmps.size with h|h
     ·exact h
     simp[Array.getD,Nat.not_lt.2 h]at hr;exact absurd hr (Tr b)
    have hget:a.tmps[t]?=some (.bool b):=by
     rw[Array.getElem?_eq_getElem hlt]
     simp[Array.getD,hlt]at hr
     rw[hr]
    have hq':ops[j]?=some q:=by simpa using hq
    simp only[yielded,hq',Option.bind_some,ht,hget]
    subst hs
    cases b<;>cases wt<;>rfl
   ·rename_i hb
    simp at hs
    subst hs
    rw[hb]at hr
    obtain⟨ys,e,e2⟩:=hr
    have e3:ys=[]:=by have e4:Value.tuple ⟨ys⟩= .tuple #[]:=e2;simpa using e4
    subst e3
    have hq':ops[j]?=some q:=by simpa using hq
    simp only[yielded,hq',Option.bind_some,ht]
    have:∀b,a.tmps[t]?≠some (.bool b):=by
     intro b hb2
     simp only[Array.getD_eq_getD_getElem?,hb2]at e
     cases e
    cases hq2:a.tmps[t]? with
    |none=>cases wt<;>rfl
    |some y=>
     cases y with
     |bool b=>exact absurd hq2 (this b)
     |_=>cases wt<;>rfl
   cases hs
  cases hg
theorem AX{ops:List Oper}{nt:Nat}{o:Oper}{ao:A2}(h:CQ P ops nt o=some ao):CJ P o.op=some ao.op/\Ir ops o=some ao.guard/\ao.dst=o.dst/\∀s,o.dst=some s->s<nt:=by
 unfold CQ at h
 split at h
 ·rename_i a' g h1 h2
  by_cases hd:SQ nt o.dst=true
  ·rw[if_pos hd]at h
   injection h with h
   rw[<-h]
   refine⟨h1,h2,rfl,fun s hs=> ?_⟩
   rw[hs]at hd
   simpa[SQ]using hd
  rw[if_neg hd]at h;cases h
 cases h
section
variable{n:Nat}{ro:Option Nat}{ops:Array Oper}{nt:Nat}{ds:List Deferred}{o:Oper}{ao:A2}{l:List A2}{K:List BY}{stk:List Av}{res:List B6}{fr:Fr}{bx:Bx}{nx:Nat}{Q:Exit->Act->World->Prop}{knext:Act->World->Prop}{a:Act}{w:World}{β:Bn->CK}{as:List Act}
 {sk:List (Option Nat×List BY×List B6×Nat)}
def Kp(P:Program)(E:Db)(A0:Nat->Prop)(w0:AW)(Qf:Ad->Bx->Prop)(n nt:Nat)(ds:List Deferred)(as:List Act)(sk:List (Option Nat×List BY×List B6×Nat))(res:List B6)(I:List BY)(knext:Act->World->Prop):Prop:=
 ∀m β stk fr bx nx a w,m<=n->FQ nt ds a->AL P A0 w0 β stk as fr bx nx a w->BF stk=sk->run E Qf m I stk res fr bx nx->knext a w
def J1(P:Program)(E:Db)(A0:Nat->Prop)(w0:AW)(Qf:Ad->Bx->Prop)(n nt:Nat)(ds:List Deferred)(as:List Act)(sk:List (Option Nat×List BY×List B6×Nat))(res:List B6)(K:List BY)(Q:Exit->Act->World->Prop):Prop:=
 ∀m β stk fr bx nx a w T k z,m<=n->FQ nt ds a->AL P A0 w0 β stk as fr bx nx a w->BF stk=sk->EY K=true->IP (run E Qf m []) T k z stk (Bl K) res fr bx nx->Q (.panic [{v:= .iface T (.int k z),recovered:=false}]) a w
theorem RD(he:Cc P E A0 w0)(hc:CQ P ops.toList nt o=some ao)(hsz:FQ nt ds a)(hrel:AL P A0 w0 β stk as fr bx nx a w)(hsk:BF stk=sk)(hk:Kp P E A0 w0 Qf n nt ds as sk res (.ops 0 l::K) knext)
  (hrun:(AF E fr bx nx ao.op).pre/\(FT (AF E fr bx nx ao.op).v->match ao.br with
   |false=>run E Qf n (.ops 0 l::K) stk res (Ai fr ao.dst (AF E fr bx nx ao.op).v) (CX nx (AF E fr bx nx ao.op).new bx) (Da nx (AF E fr bx nx ao.op).new)
   |true=>match(AF E fr bx nx ao.op).v with
    | .bool t=>(t=true->run E Qf n (.ops 0 l::K) stk res (Ai fr ao.dst (.bool true)) (CX nx (AF E fr bx nx ao.op).new bx) (Da nx (AF E fr bx nx ao.op).new))/\(t=false->run E Qf n (.ops 0 l::K) stk res (Ai fr ao.dst (.bool false)) (CX nx (AF E fr bx nx ao.op).new bx) (Da nx (AF E fr bx nx ao.op).new))
    |_=>False)):o.wpIn (FW ro) 0 P a w knext Q:=by
 obtain⟨h1,h2,h3,h4⟩:=AX hc
 obtain⟨hp,hrun⟩:=hrun
 have hd:∀s,o.dst=some s->s<a.tmps.size:=fun s hs=>Nat.lt_of_lt_of_le (h4 s hs) hsz.1
 refine P2 h1 hrel.mem hrel.nxn (fun _ _ h=>h) he.G he.S (fun x _=>Bs he hrel.mem fun t _=>hrel.fr t) hp fun x w1 β1 hs hv=> ?_
 have hrel1:=hrel.soft hs hv o.dst hd
 rw[h3]at hrun
 refine hk n β1 stk _ _ _ _ w1 (Nat.le_refl _) hsz.put hrel1 hsk ?_
 have hgo:=hrun (GT _ _ hv)
 cases hbr:ao.br
 ·simp only[hbr]at hgo;exact hgo
 simp only[hbr]at hgo
 split at hgo
 ·rename_i t ht
  rw[ht]
  cases t
  ·exact hgo.2 rfl
  exact hgo.1 rfl
 exact hgo.elim
theorem O7:∀(vs:List Ad) (k t:Nat),Au (params k vs) t=if k<=t/\t<k+vs.length then vs.getD (t-k) .und else .und:=by
 intro vs;induction vs with
 |nil=>intro k t;simp[params,Au]
 |cons v vs ih=>
  intro k t
  simp only[params,Au,ih,List.length_cons]
  by_cases h:k=t
  ·subst h;first|(simp;done)|simp
  rw[if_neg h]
  by_cases h2:k+1<=t/\t<k+1+vs.length
  ·rw[if_pos h2,if_pos (by omega)]
   rw[show t-k=(t-(k+1))+1 from by omega];first|rfl|simp
  rw[if_neg h2,if_neg (by omega)]
theorem G5{A:Nat->Prop}{B:Br}(h:A7 w A B β (vl vs) (.tuple ⟨cs⟩))(k t:Nat):A7 w A B β (Au (params 0 vs) t) (((⟨cs⟩:Array Value)++Array.replicate k undef).getD t undef):=by
 rw[O7]
 have hlen:cs.length=Bb (vl vs):=A7.len h (Jg vs)
 have hvl:∀l:List Ad,Bb (vl l)=l.length:=by intro l;induction l with|nil=>rfl|cons v l ih=>simp[vl,Bb,ih]
 have hvg:∀(l:List Ad) (i:Nat),Az (vl l) i=l.getD i .und:=by
  intro l;induction l with
  |nil=>intro i;cases i<;>rfl
  |cons v l ih=>intro i;cases i with
   |zero=>rfl
   |succ i=>simpa[vl,Az]using ih i
 split
 ·rename_i hc
  obtain⟨y,hy,hr⟩:=A7.get1 h t (by rw[hvl];omega)
  rw[hvg]at hr
  rw[hvl]at hlen
  have:((⟨cs⟩:Array Value)++Array.replicate k undef).getD t undef=y:=by
   have hlt:t<cs.length:=by omega
   rw[Array.getD_eq_getD_getElem?,Array.getElem?_append_left (by simpa using hlt)]
   simp[hy]
  rw[this]
  simpa using hr
 trivial
theorem Kb.tail{w:World}{A:Nat->Prop}{a1 a:Act}{as:List Act}(h:Kb w0 w A (N1 a1 (a::as))):Kb w0 w A (N1 a as):=by
 simp only[N1,List.flatMap_cons]at h⊢
 rw[List.filter_append]at h
 exact⟨(List.pairwise_append.1 h.1).2.1,fun d' hd'=>h.2 d' (List.mem_append.2 (.inr hd'))⟩
theorem Iz(he:Cc P E A0 w0)(IH:∀m,m<=n->IL P E A0 w0 Qf m){id:FuncId}{af:Ax}(hi:E.I id=some af)(hall:Ar A0 w0 β (Ab bx) w (vl vs) (.tuple ⟨cs⟩))(hsz:FQ nt ds a)(hrel:AL P A0 w0 β stk as fr bx nx a w)(hsk:BF stk=sk){d:Option Nat}(hd:∀s,d=some s->s<a.tmps.size)
  {K':List BY} (hk:Kp P E A0 w0 Qf n nt ds as sk res K' knext) {Q:Exit->Act->World->Prop} (hkp:J1 P E A0 w0 Qf n nt ds as sk res K' Q) (hrun:run E Qf n [.code af.code] (⟨d,K',res,fr,nx⟩::stk) af.res (params 0 vs) bx nx):
  (callFunc id ⟨cs⟩).run P w= .ok (.enter id ⟨cs⟩) w/\Calls P id ⟨cs⟩ w fun e w''=>(∃v,e= .returned v/\knext (a.put d v) w'')\/∃ch,e= .panicked ch/\Q (.panic ch) a w'':=by
 obtain⟨fn,hfn,hcf⟩:=he.I id af hi
 unfold Aw at hcf
 cases hbody:fn.body with
 |none=>simp[hbody]at hcf
 |some cb=>
 simp only[hbody]at hcf
 split at hcf
 ·rename_i ac rs r1 r2
  split at hcf
  ·rename_i hcond
   simp at hcf
   subst hcf
   refine⟨GS hfn hcond.2 hbody _ _,(callsIn_wide (n:=0)).1 ?_⟩
   refine callsIn_of_wp_marks hfn hbody trivial ?_
   have hcode:=KR.code (P:=P) (A0:=A0) (w0:=w0) (ds:=[]) (ro:=none) (Qb:=bodyPostM (FW none) 0 P fn fun e w''=>(∃v,e= .returned v/\knext (a.put d v) w'')\/∃ch,e= .panicked ch/\Q (.panic ch) a w'') (as:=a::as) (sk:=(d,K',res,nx)::sk) r1 (KR.nil (P:=P) (A0:=A0) (w0:=w0) (nt:=fn.ntmps) rfl)
   have hS:=IH n (Nat.le_refl _) [.code ac] (⟨d,K',res,fr,nx⟩::stk) rs _ bx nx hrun fn.ntmps [] none _ _ _ {tmps:=(⟨cs⟩:Array Value)++Array.replicate (fn.ntmps-(⟨cs⟩:Array Value).size) undef,defers:=[]} w β (a::as) _ ⟨by simp;omega,rfl⟩ ?_ (by simp[BF,<-hsk]) hcode ?_ rfl
   ·refine wpIn_mono hS fun e a' w' hq=> ?_
    cases e<;>exact hq
   ·refine⟨hrel.mem,fun t=>G5 hall _ t,⟨fun t=> ?_,hrel.st⟩,?_,fun f hf=>by rcases List.mem_cons.1 hf with rfl|hf;exact Nat.le_refl _;exact hrel.sn f hf⟩
    ·refine A7.mono (Nat.le_refl _) (fun g _ hA=>⟨hA,rfl⟩) (fun b c hb=> ?_) _ _ (hrel.fr t)
     exact⟨c,by simp only[EH];rw[if_pos (hrel.mem.nx b c hb)];exact hb,CR.refl c,rfl⟩
    exact hrel.df
   refine Lt he (fun β1 stk1 fr1 bx1 nx1 a1 w1 hrel1 hsk1 hret1=> ?_) fun β1 f1 s1 fr1 bx1 nx1 a1 w1 m T k z hm hrel1 hsk1 hpk hpf=> ?_
   ·cases stk1 with
    |nil=>simp[BF]at hsk1
    |cons f1 s1=>
     simp only[BF,List.map_cons,List.cons.injEq,Prod.mk.injEq]at hsk1
     obtain⟨⟨e1,e2,e3,e4⟩,hsk2⟩:=hsk1
     obtain⟨hp,m,hm,hrunm⟩:=hret1
     obtain⟨x,hx1,hx2⟩:=EZ hrel1 r2 hp
     refine⟨x,hx1,.inl ⟨x,rfl,?_⟩⟩
     have hst:=hrel1.st
     refine hk m β1 s1 _ bx1 nx1 _ w1 (by omega) hsz.put ⟨hrel1.mem,?_,hst.2,by rw[EX];exact hrel1.df.tail,fun f hf=>hrel1.sn f (by simp[hf])⟩ hsk2 (by rw[e2,e3]at hrunm;exact hrunm)
     rw[e1]
     refine F9 (fun t=> ?_) hx2 d hd
     refine A7.mono (Nat.le_refl _) (fun g _ hA=>⟨hA,rfl⟩) (fun b c hb=> ?_) _ _ (hst.1 t)
     simp only[EH]at hb
     split at hb
     ·exact⟨c,hb,CR.refl c,rfl⟩
     cases hb
   simp only[BF,List.map_cons,List.cons.injEq,Prod.mk.injEq]at hsk1
   obtain⟨⟨e1,e2,e3,e4⟩,hsk2⟩:=hsk1
   have hst:=hrel1.st
   refine .inr ⟨_,rfl,hkp m β1 s1 f1.fr bx1 nx1 a w1 T k z hm hsz ⟨hrel1.mem,fun t=> ?_,hst.2,hrel1.df.tail,fun f hf=>hrel1.sn f (by simp[hf])⟩ hsk2 (by rw[<-e2];exact hpk) (by rw[e2,e3]at hpf;exact hpf)⟩
   refine A7.mono (Nat.le_refl _) (fun g _ hA=>⟨hA,rfl⟩) (fun b c hb=> ?_) _ _ (hst.1 t)
   simp only[EH]at hb
   split at hb
   ·exact⟨c,hb,CR.refl c,rfl⟩
   cases hb
  cases hcf
 cases hcf
def Ab1(P:Program)(g:Nat)(R:Value->World->Prop):Exit->Act->World->Prop
 | .normal,_,w=>∃v w',(Instr.endRound g none).run P w= .ok v w'/\R v w'
 | .ret,_,w=>∃v w',(Instr.endRound g (some .ret)).run P w= .ok v w'/\R v w'
 | .exit id,_,w=>∃v w',(Instr.endRound g (some (.exit id))).run P w= .ok v w'/\R v w'
 |_,_,_=>False
theorem NP(he:Cc P E A0 w0)(IH:∀m,m<=n->IL P E A0 w0 Qf m){b:Bn}{g:Nat}{fr':Fr}{ps:List Nat}{ca cb:Cm}(hb:Ab bx b=some (.lp g fr' ps ca cb .ready))(hlen:ps.length=cs.length)(hall:Ar A0 w0 β (Ab bx) w (vl vs) (.tuple ⟨cs⟩))(hsz:FQ nt ds a)(hrel:AL P A0 w0 β stk as fr bx nx a w)(hsk:BF stk=sk){d:Option Nat}(hd:∀s,d=some s->s<a.tmps.size)
  {K':List BY} (hk:Kp P E A0 w0 Qf n nt ds as sk res K' knext) (hrun:run E Qf n [.code ca,.rbeg b g,.code cb,.rend b g] (⟨d,K',res,fr,nx⟩::stk) [] (Ks fr' ps vs) bx nx):
  ∃fn tmps assign body,(Instr.yield g ⟨cs⟩).run P w= .ok (.round g fn tmps assign body) w/\RoundIn (FW none) 0 P g fn tmps assign body w fun e w''=>∃v,e= .returned v/\knext (a.put d v) w'':=by
 obtain⟨rec,nt',h1,h2,⟨h3,h4,h5,h6,h7⟩,⟨h8,h9⟩,h10⟩:=hrel.lpget hb
 have hps:rec.params.size=cs.length:=by rw[<-hlen,<-h3];simp
 refine⟨rec.fn,_,rec.assign,rec.body,run_yield h2 (by simpa using hps.symm),?_⟩
 refine roundIn_of_wpIn trivial ?_
 have hput:=Uk (w':=w) (nt:=nt') ps vs cs fr' rec.tmps hlen h4 h5 hall h10
 have hz:(rec.params.zip (⟨cs⟩:Array Value)).foldl (fun(tmps:Array Value) (p:Tmp×Value)=>tmps.setIfInBounds p.1 p.2) rec.tmps=(ps.zip cs).foldl (fun(tmps:Array Value) (p:Nat×Value)=>tmps.setIfInBounds p.1 p.2) rec.tmps:=by
  rw[<-Array.foldl_toList]
  congr 1
  rw[Array.toList_zip,h3]
 have hz':(rec.params.zip (⟨cs⟩:Array Value)).foldl (fun tmps (t,a)=>tmps.setIfInBounds t a) rec.tmps=(ps.zip cs).foldl (fun(tmps:Array Value) (p:Nat×Value)=>tmps.setIfInBounds p.1 p.2) rec.tmps:=hz
 rw[hz']
 generalize htm:(ps.zip cs).foldl (fun(tmps:Array Value) (p:Nat×Value)=>tmps.setIfInBounds p.1 p.2) rec.tmps=tm at*
 let R:Value->World->Prop:=fun v w''=>knext (a.put d v) w''
 have hend:=KR.rend (P:=P) (A0:=A0) (w0:=w0) (nt:=nt') (ds:=[]) (ro:=some g) (Qb:=Ab1 P g R) (as:=a::as) (sk:=(d,K',res,nx)::sk) (b:=b) (g:=g) rfl
 have hcode:=KR.code h6 (KR.rbeg (b:=b) (g:=g) rfl (KR.code h7 hend))
 have hS:=IH n (Nat.le_refl _) _ (⟨d,K',res,fr,nx⟩::stk) [] _ bx nx hrun nt' [] (some g) _ _ _ {tmps:=tm,defers:=[]} w β (a::as) _ ⟨hput.1,rfl⟩ ?_ (by simp[BF,<-hsk]) hcode ?_ rfl
 ·refine wpIn_mono (F:=FW (some g)) hS fun e a' w' hq=> ?_
  cases e with
  |normal=>
   obtain⟨w2,hb2,hq⟩:=hq
   refine⟨w2,hb2,wpIn_mono hq fun e a' w' hq=> ?_⟩
   cases e with
   |normal=>obtain⟨v,w3,q1,q2⟩:=hq;exact⟨v,w3,q1,v,rfl,q2⟩
   |ret=>obtain⟨v,w3,q1,q2⟩:=hq;exact⟨v,w3,q1,v,rfl,q2⟩
   |exit id=>obtain⟨v,w3,q1,q2⟩:=hq;exact⟨v,w3,q1,v,rfl,q2⟩
   |goto l=>exact hq.elim
   |panic c=>exact hq.elim
   |outgrown=>exact hq.elim
  |_=>exact hq.elim
 ·refine⟨hrel.mem,hput.2,⟨fun t=> ?_,hrel.st⟩,hrel.df,fun f hf=>by rcases List.mem_cons.1 hf with rfl|hf;exact Nat.le_refl _;exact hrel.sn f hf⟩
  refine A7.mono (Nat.le_refl _) (fun g _ hA=>⟨hA,rfl⟩) (fun b c hb=> ?_) _ _ (hrel.fr t)
  exact⟨c,by simp only[EH];rw[if_pos (hrel.mem.nx b c hb)];exact hb,CR.refl c,rfl⟩
 have core:∀β1 stk1 fr1 bx1 nx1 a1 w1 m (st':XE) (v:Bool) (jump:Option Code),AL P A0 w0 β1 stk1 (a::as) fr1 bx1 nx1 a1 w1->BF stk1=(d,K',res,nx)::sk->m<n->jump.isNone=v->(∀rec:Loop,Q6 {rec with state:=if jump.isNone then .ready else .done,pending:=jump} st')->Em (run E Qf m) b g st' v stk1 bx1 nx1->∃v w',(Instr.endRound g jump).run P w1= .ok v w'/\R v w':=by
  intro β1 stk1 fr1 bx1 nx1 a1 w1 m st' v jump hrel1 hsk1 hm hv hst hR
  unfold Em at hR
  split at hR
  ·rename_i g' fr2 ps2 ca2 cb2 hb2
   obtain⟨rfl,hR⟩:=hR
   cases stk1 with
   |nil=>exact hR.elim
   |cons f1 s1=>
    simp only[BF,List.map_cons,List.cons.injEq,Prod.mk.injEq]at hsk1
    obtain⟨⟨e1,e2,e3,e4⟩,hsk2⟩:=hsk1
    have hR:run E Qf m f1.K s1 f1.res (Ai f1.fr f1.d (.bool v)) (Aj bx1 b (.lp g' fr2 ps2 ca2 cb2 st')) nx1:=hR
    obtain⟨rec2,nt2,l1,l2,l3,l4,l5⟩:=hrel1.lpget hb2
    refine⟨_,_,run_endRound jump l2,?_⟩
    have hr2:=hrel1.lpset hb2 l2 (hst rec2)
    have hst2:=hr2.st
    refine hk m β1 s1 _ _ nx1 _ _ (by omega) hsz.put ⟨hr2.mem,?_,hst2.2,by rw[EX];exact hr2.df.tail,fun f hf=>hr2.sn f (by simp[hf])⟩ hsk2 (by rw[e2,e3]at hR;exact hR)
    rw[e1]
    refine F9 (v:= .bool v) (fun t=> ?_) (by rw[hv];rfl) d hd
    refine A7.mono (Nat.le_refl _) (fun g _ hA=>⟨hA,rfl⟩) (fun b c hb=> ?_) _ _ (hst2.1 t)
    simp only[EH]at hb
    split at hb
    ·exact⟨c,hb,CR.refl c,rfl⟩
    cases hb
  exact hR.elim
 refine⟨fun l a w h=>h,fun β1 stk1 fr1 bx1 nx1 a1 w1 m hrel1 hsk1 hm=>⟨fun hR=> ?_,fun j hR=> ?_⟩⟩
 ·exact core β1 stk1 fr1 bx1 nx1 a1 w1 m .ready true none hrel1 hsk1 hm rfl (fun rec=>⟨rfl,rfl⟩) hR
 have:=core β1 stk1 fr1 bx1 nx1 a1 w1 m (.done j) false (some j.code) hrel1 hsk1 hm rfl (fun rec=>⟨rfl,rfl⟩) hR
 cases j<;>exact this
theorem OA(he:Cc P E A0 w0)(IH:∀m,m<=n->IL P E A0 w0 Qf m){f:Operand}{of:Bf}(hf:AG f=some of){ps:Array Tmp}{x y:Code}{ca cb:Cm}(hx:Cv P nt x=some ca)(hy:Cv P nt y=some cb)(hps:∀t∈ps.toList,t<nt){ks:List Nat}
  {nx':Act->World->Prop} {Q':Exit->Act->World->Prop} (hro:(Dd K).map (·.2)=ro) (hgo:∀b g,Kp P E A0 w0 Qf n nt ds as sk res (.lend b g::K) (XL P ro g nx' Q'))
  (hsz:FQ nt ds a) (hrel:AL P A0 w0 β stk as fr bx nx a w) (hsk:BF stk=sk)
  (hrun:HI bx (Dd K)/\match ev E fr of with
   | .func (.func id) caps=>match E.I id with
    |some af=>BA caps=true/\∀g:Nat,run E Qf n [.code af.code] (⟨none,.lend nx g::K,res,fr,nx+1⟩::stk) af.res (params 0 (.yld nx::BK caps)) ((nx,.one (.lp g (FM ks fr) ps.toList ca cb .ready))::bx) (nx+1)
    |none=>False
   |_=>False):(Code.rangeFunc f ps x y).wpIn (FW ro) 0 P (Exit.then nx' Q') a w:=by
 obtain⟨hri,hrun⟩:=hrun
 cases hv:ev E fr of<;>simp only[hv]at hrun<;>first|exact hrun.elim|skip
 rename_i ZV caps
 cases ZV<;>simp only at hrun<;>first|exact hrun.elim|skip
 rename_i id
 cases hi:E.I id<;>simp only[hi]at hrun<;>first|exact hrun.elim|skip
 rename_i af
 obtain⟨hlb,hrun⟩:=hrun
 refine wpIn_rangeFunc ?_
 intro fn _
 have henter:∃l mark W1 rec,(Instr.enterLoop fn a.tmps ps x y (FW ro).round).run P w= .ok (l,mark) W1/\Below w.heap.size w W1/\w.heap.size<=l/\l<W1.heap.size/\W1.heap[l]?=some (.loop rec)/\rec.tmps=a.tmps/\UL P rec nt ps.toList ca cb/\Q6 rec .ready/\
   (mark=[]\/∃r,mark=[{target:= .collected r,args:= #[]}]/\w.heap.size<=r/\r≠l/\r<W1.heap.size/\W1.heap[r]?=some (Obj.deferred (some []))):=by
  have hLp:∀df,UL P {state:= .ready,pending:=none,fn,tmps:=a.tmps,params:=ps,assign:=x,body:=y,defers:=df} nt ps.toList ca cb:=fun df=>⟨rfl,hps,hsz.1,hx,hy⟩
  cases hr:ro with
  |none=>
   refine⟨_,_,_,{state:= .ready,pending:=none,fn,tmps:=a.tmps,params:=ps,assign:=x,body:=y,defers:=w.heap.size},run_enterLoop_outer _ _ _ _ _,((Below.refl _ w).alloc (Nat.le_refl _) _).alloc (by simp) _,by omega,by simp,?_,rfl,hLp _,⟨rfl,rfl⟩,.inr ⟨_,rfl,Nat.le_refl _,by omega,by simp;omega,?_⟩⟩
   ·have:=World.alloc_heap_new (w.alloc (.deferred (some []))) (.loop {state:= .ready,pending:=none,fn,tmps:=a.tmps,params:=ps,assign:=x,body:=y,defers:=w.heap.size})
    rwa[World.size_alloc]at this
   exact(Below.heap_alloc _ _ _ (by simp)).trans (World.alloc_heap_new w _)
  |some g0=>
   rw[hr]at hro
   obtain⟨⟨b0,g1⟩,hends,rfl⟩:=Option.map_eq_some_iff.1 hro
   rw[hends]at hri
   simp only[HI]at hri
   split at hri
   ·rename_i g' fr1 ps1 ca1 cb1 st1 hb
    subst hri
    obtain⟨rec0,nt0,_,l2,_⟩:=hrel.lpget hb
    refine⟨_,_,_,{state:= .ready,pending:=none,fn,tmps:=a.tmps,params:=ps,assign:=x,body:=y,defers:=rec0.defers},run_enterLoop_inner l2 _ _ _ _ _,(Below.refl _ w).alloc (Nat.le_refl _) _,Nat.le_refl _,by simp,World.alloc_heap_new w _,rfl,hLp _,⟨rfl,rfl⟩,.inl rfl⟩
   exact hri.elim
 obtain⟨l,mark,W1,rec,e1,e2,e3,e4,e5,e6,e7,e8,e9⟩:=henter
 have hrelN:=hrel.newLp (ks:=ks) e2 e3 e4 e5 e7 e8 e6
 have hfe:=Bs he hrelN.mem (fun t _=>hrelN.fr t) of hf
 rw[hv]at hfe
 obtain⟨ys,hfe,hcr⟩:=hfe
 let a':Act:={a with defers:=mark++a.defers}
 have hrel':AL P A0 w0 (BL β nx ⟨some l,0,0⟩) stk as fr ((nx,.one (.lp l (FM ks fr) ps.toList ca cb .ready))::bx) (nx+1) a' W1:=by
  refine⟨hrelN.mem,hrelN.fr,hrelN.st,?_,hrelN.sn⟩
  rcases e9 with rfl|⟨r,rfl,r1,r2,r3,r4⟩
  ·exact hrelN.df
  have h1:=hrelN.df
  have h0:=hrel.df
  simp only[N1]at h1 h0⊢
  have em:DR {target:= .collected r,args:= #[]}=true:=rfl
  refine⟨?_,fun d' hd'=> ?_⟩
  ·simp only[a',List.cons_append,List.nil_append,List.filter_cons,em,if_true]
   rw[List.pairwise_cons]
   refine⟨fun d' hd'=> ?_,h1.1⟩
   obtain⟨r',k1,_,k3,_⟩:=h0.2 d' hd'
   rw[k1]
   intro e
   have:r=r':=by simpa using e
   omega
  simp only[a',List.cons_append,List.nil_append,List.filter_cons,em,if_true,List.mem_cons]at hd'
  rcases hd' with rfl|hd'
  ·refine⟨r,rfl,by have:=hrel.mem.below.size;omega,r3,⟨.inr (.inl (by have:=hrel.mem.below.size;omega)),fun b c hb e=> ?_⟩,r4⟩
   rw[BR]at hb
   split at hb
   ·rename_i e';subst e';rw[Aq]at e;cases e;exact r2 rfl
   rename_i e'
   have hbn:b≠nx:=e'
   have hb':=hrel.mem.base b c r hb (by simpa[BL,hbn]using e)
   omega
  exact h1.2 d' hd'
 have hcap:=HL caps ys hlb hcr
 have hsz':FQ nt ds a':=by
  refine⟨hsz.1,?_⟩
  rw[<-hsz.2]
  rcases e9 with rfl|⟨r,rfl,_⟩
  ·rfl
  simp[a',Dw,DR]
 obtain⟨q3,q4⟩:=Iz (a:=a') (d:=none) (Q:=fun _ _ _=>False) he IH hi (vs:= .yld nx::BK caps) (cs:= .func (.yield l) #[] #[]::ys) ⟨_,_,rfl,⟨l,FM ks fr,ps.toList,ca,cb,.ready,by simp[Ab],rfl⟩,hcap⟩ hsz' hrel' hsk (fun s hs=>by cases hs) (hgo nx l) (fun _ _ _ _ _ _ _ _ _ _ _ _ _ _ _ hpk=>by cases hpk) (hrun l)
 have ea:(#[Value.func (.yield l) #[] #[]]++(⟨ys⟩:Array Value))=⟨.func (.yield l) #[] #[]::ys⟩:=by apply Array.toList_inj.1;simp
 refine⟨l,mark,W1,{target:= .fn (.func id) ⟨ys⟩,args:= #[.func (.yield l) #[] #[]]},W1,id,_,W1,e1,?_,fun _ _=>trivial,?_,fun h=>(by cases h),(callsIn_wide (n:=0)).2 (q4.mono ?_)⟩
 ·simp[resolve,hfe,Deferred.ofValue,Sem.run_pure]
  rfl
 ·simp[invoke,ea,q3]
 rintro e w'' (⟨v,rfl,h⟩|⟨ch,rfl,h⟩)
 ·exact h
 exact h.elim
theorem QV:∀(l:List Operand) (ts:List TypeId) (r:List (List Sh×Bf)),Fl P l ts=some r->r.length=l.length:=by
 intro l;induction l with
 |nil=>intro ts r h;simp[Fl]at h;subst h;rfl
 |cons x l ih=>
  intro ts r h
  simp only[Fl]at h
  split at h
  ·rename_i o r' h1 h2
   simp at h;subst h
   simp[ih _ _ h2]
  cases h
theorem Gh{f:Bf}{args:List (List Sh×Bf)}{q:Op}(h:CJ P q=some (.call f args)\/CJ P q=some (.calle f args)):∃c fo,q= .call c/\c.callee= .value fo/\AG fo=some f/\Fl P c.args.toList c.argTypes.toList=some args:=by
 rcases h with h1|h1
 all_goals
  cases q<;>simp only[CJ]at h1<;>first|(cases h1;done)|skip
  case call c=>
   split at h1
   ·rename_i fo hcal
    split at h1
    ·rename_i of args' q1 q2
     split at h1<;>simp at h1<;>(obtain⟨rfl,rfl⟩:=h1;exact⟨c,fo,rfl,hcal,q1,q2⟩)
    cases h1
   all_goals((repeat' split at h1)<;>simp at h1)
  case makeMap t x=>cases x<;>simp only[CJ]at h1<;>((repeat' split at h1)<;>simp at h1)
  case slice t x lo hi mx=>cases mx<;>cases lo<;>cases hi<;>simp only[CJ]at h1<;>((repeat' split at h1)<;>simp at h1)
  case next y s=>cases s<;>simp[CJ]at h1
  all_goals((repeat' split at h1)<;>simp at h1)
theorem KK(he:Cc P E A0 w0)(IH:∀m,m<=n->IL P E A0 w0 Qf m)(hc:CQ P ops.toList nt o=some ao)(hsz:FQ nt ds a)(hrel:AL P A0 w0 β stk as fr bx nx a w)(hsk:BF stk=sk)(hk:Kp P E A0 w0 Qf n nt ds as sk res (.ops 0 l::K) knext)(hkp:J1 P E A0 w0 Qf n nt ds as sk res (.ops 0 l::K) Q)
    {f:Bf} {args':List (List Sh×Bf)} (hop:ao.op= .call f args'\/ao.op= .calle f args')
    (hrun:match ev E fr f with
          | .func (.func id) caps=>match E.I id with
            |some af=>BA caps=true/\run E Qf n [.code af.code] (⟨ao.dst,.ops 0 l::K,res,fr,nx⟩::stk) af.res (params 0 (AQ E fr args'++BK caps)) bx nx
            |none=>match E.S id with
              |some s=>match Ct bx s args' (AQ E fr args'++BK caps)with
                |⟨p,v,_⟩=>(BA caps=true/\p)/\(FT v->match s.own,v with
                  |some e,.view k m c=>0<k->run E Qf n (.ops 0 l::K) stk res (Ai fr ao.dst (.own nx)) ((nx,.one (.row e k m c))::bx) (nx+1)
                  |_,_=>run E Qf n (.ops 0 l::K) stk res (Ai fr ao.dst v) bx nx)
              |none=>False
          | .yld b=>match Ab bx b with
            |some (.lp g fr' ps ca cb .ready)=>ps.length=args'.length/\run E Qf n [.code ca,.rbeg b g,.code cb,.rend b g] (⟨ao.dst,.ops 0 l::K,res,fr,nx⟩::stk) [] (Ks fr' ps (AQ E fr args')) bx nx
            |_=>False
          |_=>False):o.wpIn (FW ro) 0 P a w knext Q:=by
  obtain⟨h1,h2,h3,h4⟩:=AX hc
  have hd:∀s,o.dst=some s->s<a.tmps.size:=fun s hs=>Nat.lt_of_lt_of_le (h4 s hs) hsz.1
  obtain⟨c,fo,ho,hcal,q1,q2⟩:=Gh (q:=o.op) (f:=f) (args:=args') (by
    rcases hop with hop|hop
    ·rw[hop]at h1;exact .inl h1
    rw[hop]at h1;exact .inr h1)
  have hxa:∀x∈c.args.toList,I0 E A0 w0 β (Ab bx) w fr a x:=fun x _=>Bs he hrel.mem fun t _=>hrel.fr t
  have hxf:Ar A0 w0 β (Ab bx) w (ev E fr f) (a.eval fo):=Bs he hrel.mem (fun t _=>hrel.fr t) f q1
  cases hv:ev E fr f<;>simp only[hv]at hrun<;>first|exact hrun.elim|skip
  case yld b=>
    split at hrun
    ·rename_i g fr' ps ca cb hb
     obtain⟨hl,hrun⟩:=hrun
     rw[hv]at hxf
     obtain⟨g',fr2,ps2,ca2,cb2,st2,hb2,hfe⟩:=hxf
     rw[hb]at hb2
     obtain⟨rfl,rfl,rfl,rfl,rfl,rfl⟩:g=g'/\fr'=fr2/\ps=ps2/\ca=ca2/\cb=cb2/\XE.ready=st2:=by simpa using hb2
     have hargsR:=Fb c.args.toList c.argTypes.toList args' q2 hxa
     have hlen:args'.length=c.args.toList.length:=QV _ _ _ q2
     obtain⟨fn,tmps,assign,body,p1,p2⟩:=NP he IH hb (hl.trans (by rw[hlen];simp)) hargsR hsz hrel hsk (d:=o.dst) hd hk (by rw[<-h3];exact hrun)
     have hround:(execOp a.eval o).run P w= .ok (.round g fn tmps assign body) w:=by
       have e1:(Array.map a.eval c.args)=(⟨c.args.toList.map a.eval⟩:Array Value):=by apply Array.toList_inj.1;simp
       simp[execOp,ho,resolve,hcal,hfe,Deferred.ofValue,invoke,e1,p1]
     refine Ei (fun c' h=>by rw[ho]at h;cases h) ?_
     rw[hround]
     refine⟨fun h=>(by cases h),RoundIn.mono p2 ?_⟩
     rintro e w'' ⟨v,rfl,hv⟩
     exact hv
    exact hrun.elim
  rename_i fn caps
  cases fn<;>simp only at hrun<;>first|exact hrun.elim|skip
  rename_i id
  cases hi:E.I id with
  |some af=>
    simp only[hi]at hrun
    obtain⟨hlb,hrun⟩:=hrun
    rw[hv]at hxf
    obtain⟨ys,hfe,hcr⟩:=hxf
    have hargsR:=Fb c.args.toList c.argTypes.toList args' q2 hxa
    have hcapR:=HL caps ys hlb hcr
    have hall:Ar A0 w0 β (Ab bx) w (vl (AQ E fr args'++BK caps)) (.tuple ⟨c.args.toList.map a.eval++ys⟩):=by
      rw[Md];exact A7.app hargsR (Jg _) hcapR
    generalize AQ E fr args'++BK caps=vs at*
    obtain⟨q3,q4⟩:=Iz he IH hi hall hsz hrel hsk (d:=o.dst) hd hk hkp (by rw[<-h3];exact hrun)
    have henter:(execOp a.eval o).run P w= .ok (.enter id ⟨c.args.toList.map a.eval++ys⟩) w:=by
      have e1:(Array.map a.eval c.args++(⟨ys⟩:Array Value))=⟨c.args.toList.map a.eval++ys⟩:=by apply Array.toList_inj.1;simp
      simp[execOp,ho,resolve,hcal,hfe,Deferred.ofValue,invoke,q3,e1]
    refine Ew (fun c' h=>by rw[ho]at h;cases h) henter (q4.mono fun e w''=> ?_)
    rintro(⟨v,rfl,hv⟩|⟨ch,rfl,hv⟩)
    ·exact hv
    exact hv
  |none=>
    simp only[hi]at hrun
    cases hs:E.S id<;>simp only[hs]at hrun<;>first|exact hrun.elim|skip
    rename_i s
    obtain⟨hp,hrun⟩:=hrun
    have hr:AF E fr bx nx (.call f args')=⟨BA caps=true/\(Ct bx s args' (AQ E fr args'++BK caps)).pre,(Ct bx s args' (AQ E fr args'++BK caps)).v,(Ct bx s args' (AQ E fr args'++BK caps)).new⟩:=by
      simp only[AF,hv,hs]
    have hw:=D9 (ro:=ro) (o:=o) (Q:=Q) (next:=fun a' w'=>knext a' w') hrel.mem (fun _ _ h=>h) he.G he.S ho hcal q1 q2 hxf hxa (by rw[hr];exact hp) (fun x w1 hsf hvx hox=>by
      have hn:(AF E fr bx nx (.call f args')).new=none:=by rw[hr];simp only[Ct];split<;>rfl
      have hrel1:=hrel.soft (new:=none) hsf (v:=(AF E fr bx nx (.call f args')).v) hvx o.dst hd
      have hrun:=hrun (by have:=GT _ _ hvx;rw[hr]at this;exact this)
      have hox:=hox s (by simp only[Jo,hv,hs])
      have hpv:=hvx
      rw[hr]at hox hpv
      split at hrun
      ·rename_i e k m c hse hve
       obtain⟨k',m',c',q1,q2,q3,xs,q4,q5⟩:=hox e hse
       have q1:Ad.view k m c= .view k' m' c':=hve.symm.trans q1
       cases q1
       have hBn:Ab bx nx=none:=hrel.nxn
       have hb0:0<=w.heap.size:=Nat.zero_le _
       obtain⟨L,hL1,hL2,hL3,hL4⟩:∃L:CK,x= .slice (L.a.map fun g=>⟨g,0,none⟩) m L.cap/\L.n=m/\(∀g,L.a=some g->w.heap.size<=g/\g<w1.heap.size)/\w1.ownsRow 0 e k (.slice (L.a.map fun g=>⟨g,0,none⟩) m L.cap) m xs:=by
         obtain⟨r1,r2⟩:=q4
         rcases r2 with⟨rfl,rfl⟩|⟨g,cap,cur,rfl,r4,r5,r6⟩
         ·exact⟨⟨none,0,0⟩,rfl,rfl,(fun g hg=>by cases hg),r1,.inl ⟨rfl,rfl⟩⟩
         refine⟨⟨some g,m,cap⟩,rfl,rfl,fun g' hg=> ?_,r1,.inr ⟨g,cap,cur,rfl,by omega,r5,r6⟩⟩
         cases hg
         exact⟨r4,(Array.getElem?_eq_some_iff.1 r5).1⟩
       have hsn:CD P A0 w0 β (BL β nx L) (Ab bx) nx (some (.row e k m c)) w w1:=by
         refine⟨hsf.keep,fun b c hb=>Bu hBn _ _ hb,?_⟩
         rintro c2 ⟨⟩
         refine⟨⟨by rw[Aq];exact hL2,q2,q3,xs,by rw[Aq];exact hL4,fun i hi j hj=> ?_⟩,fun g hg=> ?_⟩
         ·obtain⟨y,y1,y2,y3⟩:=q5 i hi j hj
          exact⟨y,y1,y2,Ao.weak (fun g _ h=>h.elim) y3⟩
         rw[Aq]at hg;exact hL3 g hg
       have hrel2:=hrel.soft hsn (v:= .own nx) (x:=x) ⟨⟨e,k,m,.row e k m c,by simp[Dc],rfl⟩,by rw[Aq,hL2];exact hL1⟩ o.dst hd
       refine hk n (BL β nx L) stk _ _ _ _ w1 (Nat.le_refl _) hsz.put hrel2 hsk ?_
       have:=hrun q2
       rw[h3]at this
       exact this
      refine hk n β stk _ _ _ _ w1 (Nat.le_refl _) hsz.put hrel1 hsk ?_
      rw[h3]at hrun
      rw[hr]
      exact hrun)
    exact hw.1
end
end Go.Proofs.YtlieoghhkioflaaGreat
/- The engine,part 19: stores and appends in a run; one step. No condition. -/
namespace Go.Proofs.YtlieoghhkioflaaGreat
open Go Go.RowKit
variable{kd:IntKind}{e k:Nat}{q:Op}{m x y:Bf}
variable{P:Program}{E:Db}{A0:Nat->Prop}{w0:AW}{Qf:Ad->Bx->Prop}
section
variable{n:Nat}{ro:Option Nat}{ops:Array Oper}{nt:Nat}{ds:List Deferred}{o:Oper}{ao:A2}{l:List A2}{K:List BY}{stk:List Av}{res:List B6}{fr:Fr}{bx:Bx}{nx:Nat}{Q:Exit->Act->World->Prop}{knext:Act->World->Prop}{a:Act}{w:World}{β:Bn->CK}{as:List Act}
 {sk:List (Option Nat×List BY×List B6×Nat)}
def CG(P:Program)(A0:Nat->Prop)(w0:AW)(nt:Nat)(ds:List Deferred)(as:List Act)(sk:List (Option Nat×List BY×List B6×Nat))(R:List Av->Fr->Bx->Nat->Prop)(knext:Act->World->Prop):Prop:=
 ∀β stk fr bx nx a w,FQ nt ds a->AL P A0 w0 β stk as fr bx nx a w->BF stk=sk->R stk fr bx nx->knext a w
variable{R:List Av->Fr->Bx->Nat->Prop}
theorem H7{m:Nat}{ad:Bf}(h:CJ P q=some (.store m ad x)):∃t xa xx,q= .store t xa xx/\BN P t=some m/\AG xa=some ad/\AG xx=some x:=by
 cases q<;>simp only[CJ]at h<;>first|(cases h;done)|skip
 case store t xa xx=>
  split at h<;>simp at h
  rename_i n' a' x' h1 h2 h3
  obtain⟨rfl,rfl,rfl⟩:=h
  exact⟨t,xa,xx,rfl,h1,h2,h3⟩
 case makeMap t x=>cases x<;>simp only[CJ]at h<;>((repeat' split at h)<;>simp at h)
 case slice t x lo hi mx=>cases mx<;>cases lo<;>cases hi<;>simp only[CJ]at h<;>((repeat' split at h)<;>simp at h)
 case next y s=>cases s<;>simp[CJ]at h
 all_goals((repeat' split at h)<;>simp at h)
theorem Js{v:Bf}(h:CJ P q=some (.mset kd m x v)):∃t k e xm xx xv,(q= .insert t xm xx xv\/q= .mapUpdate t xm xx xv)/\P.underlying t=some (.map k e)/\P.underlying k=some (.int kd)/\AG xm=some m/\AG xx=some x/\AG xv=some v:=by
 cases q<;>simp only[CJ]at h<;>first|(cases h;done)|skip
 case insert t xm xx xv=>
  split at h
  ·rename_i k e hu
   split at h<;>simp at h
   rename_i kd' m' x' v' h1 h2 h3 h4
   obtain⟨rfl,rfl,rfl,rfl⟩:=h
   exact⟨t,k,e,xm,xx,xv,.inl rfl,hu,h1,h2,h3,h4⟩
  cases h
 case mapUpdate t xm xx xv=>
  split at h
  ·rename_i k e hu
   split at h<;>simp at h
   rename_i kd' m' x' v' h1 h2 h3 h4
   obtain⟨rfl,rfl,rfl,rfl⟩:=h
   exact⟨t,k,e,xm,xx,xv,.inr rfl,hu,h1,h2,h3,h4⟩
  cases h
 case makeMap t x=>cases x<;>simp only[CJ]at h<;>((repeat' split at h)<;>simp at h)
 case slice t x lo hi mx=>cases mx<;>cases lo<;>cases hi<;>simp only[CJ]at h<;>((repeat' split at h)<;>simp at h)
 case next y s=>cases s<;>simp[CJ]at h
 all_goals((repeat' split at h)<;>simp at h)
theorem Gu{by':Nat}(h:CJ P q=some (.app e k by' x y)):∃c xa xb t z i,q= .call c/\c.callee= .builtin .append/\c.args.toList=[xa,xb]/\c.argTypes.toList=[t,t]/\P.underlying t=some (.slice e)/\DX P e=some (k,z)/\P.info? e=some i/\i.bytes=by'/\AG xa=some x/\AG xb=some y:=by
 cases q<;>simp only[CJ]at h<;>first|(cases h;done)|skip
 case call c=>
  split at h
  ·(repeat' split at h)<;>simp at h
  ·(repeat' split at h)<;>simp at h
  ·(repeat' split at h)<;>simp at h
  ·(repeat' split at h)<;>simp at h
  ·(repeat' split at h)<;>simp at h
  ·(repeat' split at h)<;>simp at h
  ·rename_i hcal
   split at h
   ·rename_i xa xb t u q1 q2
    split at h
    ·rename_i htu
     subst htu
     split at h
     ·rename_i e' ox oy q3 q4 q5
      split at h<;>simp at h
      rename_i k' z i q6 q7
      obtain⟨rfl,rfl,rfl,rfl,rfl⟩:=h
      exact⟨c,xa,xb,t,z,i,rfl,hcal,q1,q2,q3,q6,q7,rfl,q4,q5⟩
     cases h
    cases h
   cases h
  cases h
 case makeMap t x=>cases x<;>simp only[CJ]at h<;>((repeat' split at h)<;>simp at h)
 case slice t x lo hi mx=>cases mx<;>cases lo<;>cases hi<;>simp only[CJ]at h<;>((repeat' split at h)<;>simp at h)
 case next y s=>cases s<;>simp[CJ]at h
 all_goals((repeat' split at h)<;>simp at h)
theorem UK(h:CJ P q=some (.rngm kd x)):∃t k e xx,q= .range t xx/\P.underlying t=some (.map k e)/\P.underlying k=some (.int kd)/\AG xx=some x:=by
 cases q<;>simp only[CJ]at h<;>first|(cases h;done)|skip
 case range t xx=>
  split at h
  ·rename_i k e h1
   split at h<;>simp at h
   rename_i kd' ox h2 h3
   obtain⟨rfl,rfl⟩:=h
   exact⟨t,k,e,xx,rfl,h1,h2,h3⟩
  cases h
 case makeMap t x=>cases x<;>simp only[CJ]at h<;>((repeat' split at h)<;>simp at h)
 case slice t x lo hi mx=>cases mx<;>cases lo<;>cases hi<;>simp only[CJ]at h<;>((repeat' split at h)<;>simp at h)
 case next y s=>cases s<;>simp[CJ]at h
 all_goals((repeat' split at h)<;>simp at h)
theorem Wp(h:CJ P q=some (.nxt x)):∃xx,q= .next xx false/\AG xx=some x:=by
 cases q<;>simp only[CJ]at h<;>first|(cases h;done)|skip
 case next y s=>
  cases s
  ·obtain⟨ox,h1,h2⟩:=Option.map_eq_some_iff.1 h
   simp at h2
   exact⟨y,rfl,by rw[h1,h2]⟩
  simp[CJ]at h
 case makeMap t x=>cases x<;>simp only[CJ]at h<;>((repeat' split at h)<;>simp at h)
 case slice t x lo hi mx=>cases mx<;>cases lo<;>cases hi<;>simp only[CJ]at h<;>((repeat' split at h)<;>simp at h)
 all_goals((repeat' split at h)<;>simp at h)
theorem Xr(h:CJ P q=some (.ent x)):∃xx,q= .entry xx/\AG xx=some x:=by
 cases q<;>simp only[CJ]at h<;>first|(cases h;done)|skip
 case entry y=>
  obtain⟨ox,h1,h2⟩:=Option.map_eq_some_iff.1 h
  simp at h2
  exact⟨y,rfl,by rw[h1,h2]⟩
 case makeMap t x=>cases x<;>simp only[CJ]at h<;>((repeat' split at h)<;>simp at h)
 case slice t x lo hi mx=>cases mx<;>cases lo<;>cases hi<;>simp only[CJ]at h<;>((repeat' split at h)<;>simp at h)
 case next y s=>cases s<;>simp[CJ]at h
 all_goals((repeat' split at h)<;>simp at h)
theorem Sp(h:CJ P q=some (.mlen kd x)):∃c xa t k e,q= .call c/\c.callee= .builtin .len/\c.args.toList=[xa]/\c.argTypes.toList=[t]/\P.underlying t=some (.map k e)/\P.underlying k=some (.int kd)/\AG xa=some x:=by
 cases q<;>simp only[CJ]at h<;>first|(cases h;done)|skip
 case call c=>
  split at h
  ·(repeat' split at h)<;>simp at h
  ·rename_i hcal
   split at h
   ·rename_i xa t q1 q2
    split at h
    ·simp at h
    ·rename_i k e q3
     split at h
     ·rename_i kd' q4
      obtain⟨ox,h1,h2⟩:=Option.map_eq_some_iff.1 h
      simp at h2
      obtain⟨rfl,rfl⟩:=h2
      exact⟨c,xa,t,k,e,rfl,hcal,q1,q2,q3,q4,h1⟩
     cases h
    cases h
   cases h
  all_goals((repeat' split at h)<;>simp at h)
 case makeMap t x=>cases x<;>simp only[CJ]at h<;>((repeat' split at h)<;>simp at h)
 case slice t x lo hi mx=>cases mx<;>cases lo<;>cases hi<;>simp only[CJ]at h<;>((repeat' split at h)<;>simp at h)
 case next y s=>cases s<;>simp[CJ]at h
 all_goals((repeat' split at h)<;>simp at h)
theorem UC(h:CJ P q=some (.mdel kd m x)):∃c xm xk t k e,q= .call c/\c.callee= .builtin .delete/\c.args.toList=[xm,xk]/\c.argTypes.toList=[t,k]/\P.underlying t=some (.map k e)/\P.underlying k=some (.int kd)/\AG xm=some m/\AG xk=some x:=by
 cases q<;>simp only[CJ]at h<;>first|(cases h;done)|skip
 case call c=>
  split at h
  ·(repeat' split at h)<;>simp at h
  ·(repeat' split at h)<;>simp at h
  ·(repeat' split at h)<;>simp at h
  ·(repeat' split at h)<;>simp at h
  ·(repeat' split at h)<;>simp at h
  ·rename_i hcal
   split at h
   ·rename_i xm xk t u q1 q2
    split at h
    ·rename_i k e q3
     split at h
     ·rename_i huk
      subst huk
      split at h<;>simp at h
      rename_i kd' om ox q4 q5 q6
      obtain⟨rfl,rfl,rfl⟩:=h
      exact⟨c,xm,xk,t,u,e,rfl,hcal,q1,q2,q3,q4,q5,q6⟩
     cases h
    cases h
   cases h
  all_goals((repeat' split at h)<;>simp at h)
 case makeMap t x=>cases x<;>simp only[CJ]at h<;>((repeat' split at h)<;>simp at h)
 case slice t x lo hi mx=>cases mx<;>cases lo<;>cases hi<;>simp only[CJ]at h<;>((repeat' split at h)<;>simp at h)
 case next y s=>cases s<;>simp[CJ]at h
 all_goals((repeat' split at h)<;>simp at h)
theorem G7(he:Cc P E A0 w0)(hc:CQ P ops.toList nt o=some ao)(hsz:FQ nt ds a)(hrel:AL P A0 w0 β stk as fr bx nx a w)(hsk:BF stk=sk)(hk:CG P A0 w0 nt ds as sk R knext)
  {m:Nat} {ad:Bf} (hop:ao.op= .store m ad x)
  (hrun:match ev E fr ad with
    | .ptr b off=>match Ab bx b with
     |some (.cells c)=>Bg m (ev E fr x)/\C3 (cellsOf (ev E fr x))=true/\off+m<=Bb c/\R stk (Ai fr ao.dst .und) (Aj bx b (.cells (Dh c off (cellsOf (ev E fr x))))) nx
     |some (.wc g _)=>off=0/\m=1/\match ev E fr x with
      | .int k z=>R stk (Ai fr ao.dst .und) (Aj bx b (.wc g (.int k z))) nx
      |_=>False
     |_=>False
    | .rptr b i off=>match Ab bx b with
     |some (.row e k m' c)=>Bg m (ev E fr x)/\C3 (cellsOf (ev E fr x))=true/\A4 (ev E fr x)=true/\off+m<=k/\R stk (Ai fr ao.dst .und) (Aj bx b (.row e k m' fun i' j'=>if i'=i/\off<=j'/\j'<off+m then Az (cellsOf (ev E fr x)) (j'-off)else c i' j')) nx
     |_=>False
    |_=>False):o.wpIn (FW ro) 0 P a w knext Q:=by
 obtain⟨h1,h2,h3,h4⟩:=AX hc
 have hd:∀s,o.dst=some s->s<a.tmps.size:=fun s hs=>Nat.lt_of_lt_of_le (h4 s hs) hsz.1
 rw[hop]at h1
 obtain⟨t,xa,xx,ho,q1,q2,q3⟩:=H7 h1
 have hxa:Ar A0 w0 β (Ab bx) w (ev E fr ad) (a.eval xa):=Bs he hrel.mem (fun t _=>hrel.fr t) ad q2
 have hxx:Ar A0 w0 β (Ab bx) w (ev E fr x) (a.eval xx):=Bs he hrel.mem (fun t _=>hrel.fr t) x q3
 cases hv:ev E fr ad<;>simp only[hv]at hrun hxa<;>first|exact hrun.elim|skip
 ·rename_i b off
  obtain⟨⟨c0,hb0,hpb⟩,g,hg,he'⟩:=hxa
  obtain⟨c,hb⟩|⟨gw,vw,hb⟩:(∃c,Ab bx b=some (.cells c))\/∃g v,Ab bx b=some (.wc g v):=by
   cases c0 with
   |cells c=>exact .inl ⟨c,hb0⟩
   |wc g v=>exact .inr ⟨g,v,hb0⟩
   |it=>simp only[hb0]at hrun
   |_=>simp[ptrB]at hpb
  case inr=>
   simp only[hb]at hrun
   obtain⟨rfl,rfl,hrun⟩:=hrun
   cases hvx:ev E fr x<;>simp only[hvx]at hrun<;>first|exact hrun.elim|skip
   rename_i kz z
   rw[hvx]at hxx
   have hxx:a.eval xx= .int kz z:=hxx
   obtain⟨r2,y,ty,r3,r4⟩:=hrel.mem.bx b _ hb
   rw[hg]at r2;cases r2
   have hst:=Ga (P:=P) (w:=w) (g:=g) (off:=0) (x:= .int kz z) q1 rfl (fun y hy=>by simp[Value.cells]at hy;subst hy;rfl) r3 (by simp)
   have:(execOp a.eval o).run P w= .ok .skip (w.setRow g ⟨[.int kz z]⟩):=by
    simp only[execOp,ho,he',hxx,Sem.run_bind,hst,Result.andThen_ok,Sem.run_pure]
    rfl
   refine EI (fun c' h=>by rw[ho]at h;cases h) this ?_
   refine hk β stk _ _ _ _ _ hsz.put (hrel.storeW (v:= .int kz z) (y:= .int kz z) hb (fun _ _=>rfl) o.dst hd undef) hsk ?_
   rw[<-h3];exact hrun
  simp only[hb]at hrun
  obtain⟨p1,p1',p2,hrun⟩:=hrun
  obtain⟨hlb,g',ys,ty,r2,r3,r4⟩:=hrel.mem.bx b _ hb
  rw[hg]at r2;cases r2
  obtain⟨e1,e2,e3,e4⟩:=Dp p1 hxx
  have hlen:=A7.len r4 (CE hlb)
  have hst:=Ga (P:=P) (w:=w) (off:=off) q1 e4 (FX _ _ p1' e3 (CE e1)) r3 (by omega)
  have:(execOp a.eval o).run P w= .ok .skip (w.setRow g ⟨BC ys off (a.eval xx).cells.toList⟩):=by
   simp only[execOp,ho,he',Sem.run_bind,hst,Result.andThen_ok,Sem.run_pure]
  refine EI (fun c' h=>by rw[ho]at h;cases h) this ?_
  refine hk β stk _ _ _ _ _ hsz.put (hrel.store hb hg p1 hxx p2 r3 r4 o.dst hd undef) hsk ?_
  rw[<-h3];exact hrun
 rename_i b i off
 obtain⟨e,k,m',hrb,hi,g,hg,he'⟩:=hxa
 obtain⟨c,hb⟩:∃c,Ab bx b=some (.row e k m' c):=by
  rcases hrb.cases with h|⟨c,hb⟩
  ·exact h
  simp only[hb]at hrun
 simp only[hb]at hrun
 obtain⟨p1,p1',p2,p3,hrun⟩:=hrun
 obtain⟨w1,hst,hr1⟩:=hrel.storeR (P:=P) hb hi hg p1 p1' p2 hxx p3 q1 o.dst hd undef
 have:(execOp a.eval o).run P w= .ok .skip w1:=by
  simp only[execOp,ho,he',Sem.run_bind,hst,Result.andThen_ok,Sem.run_pure]
 refine EI (fun c' h=>by rw[ho]at h;cases h) this ?_
 refine hk β stk _ _ _ _ _ hsz.put hr1 hsk ?_
 rw[<-h3];exact hrun
theorem Ib(he:Cc P E A0 w0)(hc:CQ P ops.toList nt o=some ao)(hsz:FQ nt ds a)(hrel:AL P A0 w0 β stk as fr bx nx a w)(hsk:BF stk=sk)(hk:CG P A0 w0 nt ds as sk R knext)
  {k v:Bf} (hop:ao.op= .mset kd m k v) {W:Bn->Bx->Prop} (hW:∀b,W b bx->H5 (Ab bx) b)
  (hrun:match ev E fr m,ev E fr k with
    | .mapb b,.int kk z=>match Ab bx b with
     |some (.mp kd' has f)=>kd'=kd/\kk=kd/\W b bx/\R stk (Ai fr ao.dst .und) (Aj bx b (.mp kd (fun j=>if j=z then true else has j) fun j=>if j=z then ev E fr v else f j)) nx
     |some (.mz kd' f)=>kd'=kd/\kk=kd/\W b bx/\R stk (Ai fr ao.dst .und) (Aj bx b (.mz kd fun j=>if j=z then ev E fr v else f j)) nx
     |_=>False
    |_,_=>False):o.wpIn (FW ro) 0 P a w knext Q:=by
 obtain⟨h1,h2,h3,h4⟩:=AX hc
 have hd:∀s,o.dst=some s->s<a.tmps.size:=fun s hs=>Nat.lt_of_lt_of_le (h4 s hs) hsz.1
 rw[hop]at h1
 obtain⟨t,kt,et,xm,xx,xv,ho,hT,hK,q1,q2,q3⟩:=Js h1
 have hxm:Ar A0 w0 β (Ab bx) w (ev E fr m) (a.eval xm):=Bs he hrel.mem (fun t _=>hrel.fr t) m q1
 have hxk:Ar A0 w0 β (Ab bx) w (ev E fr k) (a.eval xx):=Bs he hrel.mem (fun t _=>hrel.fr t) k q2
 have hxv:Ar A0 w0 β (Ab bx) w (ev E fr v) (a.eval xv):=Bs he hrel.mem (fun t _=>hrel.fr t) v q3
 split at hrun
 ·rename_i b kk z e1 e2
  rw[e1]at hxm
  rw[e2]at hxk
  obtain⟨⟨kd',hmb⟩,g,hg,he'⟩:=hxm
  have hxk:a.eval xx= .int kk z:=hxk
  rcases hmb.cases with⟨has,f,hb⟩|⟨f,hb⟩
  ·simp only[hb]at hrun
   obtain⟨rfl,rfl,hni,hrun⟩:=hrun
   obtain⟨w1,hst,hr1⟩:=hrel.mapset (P:=P) (z:=z) hb (hW _ hni) hg hxv hT hK o.dst hd undef
   have:(execOp a.eval o).run P w= .ok .skip w1:=by
    rcases ho with ho|ho<;>simp only[execOp,ho,he',hxk,Sem.run_bind,hst,Result.andThen_ok,Sem.run_pure]
   refine EI (fun c' h=>by rcases ho with ho|ho<;>(rw[ho]at h;cases h)) this ?_
   refine hk β stk _ _ _ _ _ hsz.put hr1 hsk ?_
   rw[<-h3];exact hrun
  simp only[hb]at hrun
  obtain⟨rfl,rfl,hni,hrun⟩:=hrun
  obtain⟨w1,hst,hr1⟩:=hrel.mapsetZ (P:=P) (z:=z) hb (hW _ hni) hg hxv hT hK o.dst hd undef
  have:(execOp a.eval o).run P w= .ok .skip w1:=by
   rcases ho with ho|ho<;>simp only[execOp,ho,he',hxk,Sem.run_bind,hst,Result.andThen_ok,Sem.run_pure]
  refine EI (fun c' h=>by rcases ho with ho|ho<;>(rw[ho]at h;cases h)) this ?_
  refine hk β stk _ _ _ _ _ hsz.put hr1 hsk ?_
  rw[<-h3];exact hrun
 exact hrun.elim
theorem RC(he:Cc P E A0 w0)(hc:CQ P ops.toList nt o=some ao)(hsz:FQ nt ds a)(hrel:AL P A0 w0 β stk as fr bx nx a w)(hsk:BF stk=sk)(hk:CG P A0 w0 nt ds as sk R knext)
  {k:Bf} (hop:ao.op= .mdel kd m k)
  (hrun:match ev E fr m,ev E fr k with
    | .mapb b,.int kk z=>match Ab bx b with
     |some (.mp kd' has f)=>kd'=kd/\kk=kd/\noIt b bx/\R stk (Ai fr ao.dst .und) (Aj bx b (.mp kd (fun j=>if j=z then false else has j) f)) nx
     |_=>False
    |_,_=>False):o.wpIn (FW ro) 0 P a w knext Q:=by
 obtain⟨h1,h2,h3,h4⟩:=AX hc
 have hd:∀s,o.dst=some s->s<a.tmps.size:=fun s hs=>Nat.lt_of_lt_of_le (h4 s hs) hsz.1
 rw[hop]at h1
 obtain⟨c,xm,xk,t,kt,et,ho,hcal,hargs,hat,hT,hK,q1,q2⟩:=UC h1
 have hxm:Ar A0 w0 β (Ab bx) w (ev E fr m) (a.eval xm):=Bs he hrel.mem (fun t _=>hrel.fr t) m q1
 have hxk:Ar A0 w0 β (Ab bx) w (ev E fr k) (a.eval xk):=Bs he hrel.mem (fun t _=>hrel.fr t) k q2
 have ha:c.args= #[xm,xk]:=by rw[<-hargs]
 have ha':c.argTypes= #[t,kt]:=by rw[<-hat]
 split at hrun
 ·rename_i b kk z e1 e2
  rw[e1]at hxm
  rw[e2]at hxk
  obtain⟨⟨kd',hmb⟩,g,hg,he'⟩:=hxm
  obtain⟨has,f,hb⟩:∃has f,Ab bx b=some (.mp kd' has f):=by
   rcases hmb.cases with h|⟨f,hb⟩
   ·exact h
   simp only[hb]at hrun
  simp only[hb]at hrun
  obtain⟨rfl,rfl,hni,hrun⟩:=hrun
  have hxk:a.eval xk= .int kk z:=hxk
  obtain⟨w1,hst,hr1⟩:=hrel.mapdel (P:=P) (z:=z) hb (Fx hni) hg hT hK o.dst hd (.tuple #[]) o.type
  have:(execOp a.eval o).run P w= .ok (.value (.tuple #[])) w1:=by
   simp[execOp,ho,resolve,hcal,ha,ha',invoke,builtin,he',hxk,hst,Result.andThen]
  refine BD (fun c' h=>by rw[ho]at h;cases h) this ?_
  refine hk β stk _ _ _ _ _ hsz.put hr1 hsk ?_
  rw[<-h3];exact hrun
 exact hrun.elim
theorem QS(he:Cc P E A0 w0)(hc:CQ P ops.toList nt o=some ao)(hsz:FQ nt ds a)(hrel:AL P A0 w0 β stk as fr bx nx a w)(hsk:BF stk=sk)(hk:CG P A0 w0 nt ds as sk R knext)
  (hop:ao.op= .mlen kd m)
  (hrun:match ev E fr m with
    | .mapb b=>match Ab bx b with
     |some (.mp kd' has _)=>kd'=kd/\∀c:Nat,(c=0↔∀k,has k=false)->R stk (Ai fr ao.dst (.int .i64 c)) bx nx
     |_=>False
    |_=>False):o.wpIn (FW ro) 0 P a w knext Q:=by
 obtain⟨h1,h2,h3,h4⟩:=AX hc
 have hd:∀s,o.dst=some s->s<a.tmps.size:=fun s hs=>Nat.lt_of_lt_of_le (h4 s hs) hsz.1
 rw[hop]at h1
 obtain⟨c,xm,t,kt,et,ho,hcal,hargs,hat,hT,hK,q1⟩:=Sp h1
 have hxm:Ar A0 w0 β (Ab bx) w (ev E fr m) (a.eval xm):=Bs he hrel.mem (fun t _=>hrel.fr t) m q1
 have ha:c.args= #[xm]:=by rw[<-hargs]
 have ha':c.argTypes= #[t]:=by rw[<-hat]
 split at hrun
 ·rename_i b e1
  rw[e1]at hxm
  obtain⟨⟨kd',hmb⟩,g,hg,he'⟩:=hxm
  obtain⟨has,f,hb⟩:∃has f,Ab bx b=some (.mp kd' has f):=by
   rcases hmb.cases with h|⟨f,hb⟩
   ·exact h
   simp only[hb]at hrun
  simp only[hb]at hrun
  obtain⟨rfl,hrun⟩:=hrun
  obtain⟨g',h,e2,hm,hcc⟩:=hrel.mem.bx b _ hb
  rw[hg]at e2;cases e2
  obtain⟨es,clock,hh,hz⟩:=R4 hm
  have:(execOp a.eval o).run P w= .ok (.value (.int .i64 es.size)) w:=by
   simp[execOp,ho,resolve,hcal,ha,ha',invoke,builtin,he',Builtin.len_,run_underlying hT,MapKept.run_getObj_map hh,goInt,Result.andThen]
  refine BD (fun c' h=>by rw[ho]at h;cases h) this ?_
  refine hk β stk _ _ _ _ _ hsz.put (hrel.putv (v:= .int .i64 (es.size:Int)) rfl o.dst hd) hsk ?_
  rw[<-h3]
  refine hrun es.size (hz.trans ⟨fun q k=> ?_,fun q k=>(hcc k).1 (q k)⟩)
  cases hk':has k
  ·rfl
  obtain⟨y,hy,_⟩:=(hcc k).2 hk'
  rw[q k]at hy;cases hy
 exact hrun.elim
theorem Re(he:Cc P E A0 w0)(hc:CQ P ops.toList nt o=some ao)(hsz:FQ nt ds a)(hrel:AL P A0 w0 β stk as fr bx nx a w)(hsk:BF stk=sk)(hk:CG P A0 w0 nt ds as sk R knext)
  (hop:ao.op= .rngm kd m)
  (hrun:match ev E fr m with
    | .mapb b=>match Ab bx b with
     |some (.mp kd' _ _)=>kd'=kd/\R stk (Ai fr ao.dst (.ptr nx 0)) ((nx,.one (.it (some b) kd (fun _=>false) none))::bx) (nx+1)
     |_=>False
    |_=>False):o.wpIn (FW ro) 0 P a w knext Q:=by
 obtain⟨h1,h2,h3,h4⟩:=AX hc
 have hd:∀s,o.dst=some s->s<a.tmps.size:=fun s hs=>Nat.lt_of_lt_of_le (h4 s hs) hsz.1
 rw[hop]at h1
 obtain⟨t,kt,et,xm,ho,hT,hK,q1⟩:=UK h1
 have hxm:Ar A0 w0 β (Ab bx) w (ev E fr m) (a.eval xm):=Bs he hrel.mem (fun t _=>hrel.fr t) m q1
 split at hrun
 ·rename_i b e1
  rw[e1]at hxm
  obtain⟨⟨kd',hmb⟩,g,hg,he'⟩:=hxm
  obtain⟨has,f,hb⟩:∃has f,Ab bx b=some (.mp kd' has f):=by
   rcases hmb.cases with h|⟨f,hb⟩
   ·exact h
   simp only[hb]at hrun
  simp only[hb]at hrun
  obtain⟨rfl,hrun⟩:=hrun
  obtain⟨β1,w1,x,hst,hr1⟩:=hrel.rngm (P:=P) hb hg hT o.dst hd
  have:(execOp a.eval o).run P w= .ok (.value x) w1:=by
   simp[execOp,ho,he',hst,Result.andThen]
  refine BD (fun c' h=>by rw[ho]at h;cases h) this ?_
  refine hk β1 stk _ _ _ _ _ hsz.put hr1 hsk ?_
  rw[<-h3];exact hrun
 exact hrun.elim
theorem SW(he:Cc P E A0 w0)(hc:CQ P ops.toList nt o=some ao)(hsz:FQ nt ds a)(hrel:AL P A0 w0 β stk as fr bx nx a w)(hsk:BF stk=sk)(hk:CG P A0 w0 nt ds as sk R knext)
  (hop:ao.op= .nxt m)
  (hrun:match ev E fr m with
    | .ptr b 0=>match Ab bx b with
     |some (.it (some mb) kd seen _)=>match Ab bx mb with
      |some (.mp kd' has f)=>kd'=kd/\
       (∀k,has k=true->seen k=false->R stk (Ai fr ao.dst (.tup (.cons (.bool true) (.cons (.int kd k) (.cons (f k) .nil))))) (Aj bx b (.it (some mb) kd (fun j=>if j=k then true else seen j) (some k))) nx)/\
       ((∀k,has k=true->seen k=true)->R stk (Ai fr ao.dst (.tup (.cons (.bool false) .nil))) (Aj bx b (.it none kd seen none)) nx)
      |_=>False
     |_=>False
    |_=>False):o.wpIn (FW ro) 0 P a w knext Q:=by
 obtain⟨h1,h2,h3,h4⟩:=AX hc
 have hd:∀s,o.dst=some s->s<a.tmps.size:=fun s hs=>Nat.lt_of_lt_of_le (h4 s hs) hsz.1
 rw[hop]at h1
 obtain⟨xm,ho,q1⟩:=Wp h1
 have hxm:Ar A0 w0 β (Ab bx) w (ev E fr m) (a.eval xm):=Bs he hrel.mem (fun t _=>hrel.fr t) m q1
 split at hrun
 ·rename_i b e1
  rw[e1]at hxm
  obtain⟨_,r,hr,he'⟩:=hxm
  split at hrun
  ·rename_i mb kd seen last hb
   split at hrun
   ·rename_i kd' has f hmb
    obtain⟨rfl,hA,hB⟩:=hrun
    rcases hrel.nxt (P:=P) hb hmb hr o.dst hd o.type with⟨x,hst,hall,hr1⟩|⟨k,x,w1,hst,hk1,hk2,hr1⟩
    ·have:(execOp a.eval o).run P w= .ok (.value x) w:=by
      simp[execOp,ho,he',hst,Result.andThen]
     refine BD (fun c' h=>by rw[ho]at h;cases h) this ?_
     refine hk β stk _ _ _ _ _ hsz.put hr1 hsk ?_
     rw[<-h3];exact hB hall
    have:(execOp a.eval o).run P w= .ok (.value x) w1:=by
     simp[execOp,ho,he',hst,Result.andThen]
    refine BD (fun c' h=>by rw[ho]at h;cases h) this ?_
    refine hk β stk _ _ _ _ _ hsz.put hr1 hsk ?_
    rw[<-h3];exact hA k hk1 hk2
   exact hrun.elim
  exact hrun.elim
 exact hrun.elim
theorem UG(he:Cc P E A0 w0)(hc:CQ P ops.toList nt o=some ao)(hsz:FQ nt ds a)(hrel:AL P A0 w0 β stk as fr bx nx a w)(hsk:BF stk=sk)(hk:CG P A0 w0 nt ds as sk R knext)
  (hop:ao.op= .ent m)
  (hrun:match ev E fr m with
    | .ptr b 0=>match Ab bx b with
     |some (.it (some mb) kd _ (some k))=>match Ab bx mb with
      |some (.mp kd' has f)=>kd'=kd/\has k=true/\R stk (Ai fr ao.dst (.tup (.cons (.int kd k) (.cons (f k) .nil)))) bx nx
      |_=>False
     |_=>False
    |_=>False):o.wpIn (FW ro) 0 P a w knext Q:=by
 obtain⟨h1,h2,h3,h4⟩:=AX hc
 have hd:∀s,o.dst=some s->s<a.tmps.size:=fun s hs=>Nat.lt_of_lt_of_le (h4 s hs) hsz.1
 rw[hop]at h1
 obtain⟨xm,ho,q1⟩:=Xr h1
 have hxm:Ar A0 w0 β (Ab bx) w (ev E fr m) (a.eval xm):=Bs he hrel.mem (fun t _=>hrel.fr t) m q1
 split at hrun
 ·rename_i b e1
  rw[e1]at hxm
  obtain⟨_,r,hr,he'⟩:=hxm
  split at hrun
  ·rename_i mb kd seen k hb
   split at hrun
   ·rename_i kd' has f hmb
    obtain⟨rfl,hk1,hrun⟩:=hrun
    obtain⟨g,h,e2,hm,hcc⟩:=hrel.mem.bx mb _ hmb
    obtain⟨r',e3,hi⟩:=hrel.mem.bx b _ hb
    rw[hr]at e3;cases e3
    obtain⟨_,gm,e4,hi⟩:=hi mb rfl
    rw[e2]at e4;cases e4
    obtain⟨v,hv,hst⟩:=JC (P:=P) hm hi
    obtain⟨y,hy,hry⟩:=(hcc k).2 hk1
    rw[hv]at hy;cases hy
    have:(execOp a.eval o).run P w= .ok (.value (.tuple #[.int kd' k,v])) w:=by
     simp[execOp,ho,he',hst,Result.andThen]
    refine BD (fun c' h=>by rw[ho]at h;cases h) this ?_
    refine hk β stk _ _ _ _ _ hsz.put (hrel.putv (v:= .tup (.cons (.int kd' k) (.cons (f k) .nil))) ⟨_,rfl,_,_,rfl,rfl,_,_,rfl,hry,rfl⟩ o.dst hd) hsk ?_
    rw[<-h3];exact hrun
   exact hrun.elim
  exact hrun.elim
 exact hrun.elim
theorem Hf(he:Cc P E A0 w0)(hc:CQ P ops.toList nt o=some ao)(hsz:FQ nt ds a)(hrel:AL P A0 w0 β stk as fr bx nx a w)(hsk:BF stk=sk)(hk:CG P A0 w0 nt ds as sk R knext)
  {bytes:Nat} (hop:ao.op= .app e k bytes x y)
  (hrun:match CB bx (ev E fr y)with
    |none=>False
    |some (k',m,c')=>(k'=some k\/k'=none)/\0<k/\match ev E fr x with
     | .nils=>m<=maxLen/\m*bytes<=140737488355328/\R stk (Ai fr ao.dst (.own nx)) ((nx,.one (.row e k m c'))::bx) (nx+1)
     | .own b=>match Ab bx b with
      |some (.row e' k'' n' c)=>e'=e/\k''=k/\n'+m<=maxLen/\(n'+m)*bytes<=140737488355328/\R (AC b .und stk) (Ai (AK b .und fr) ao.dst (.own b)) (Aj (AJ b .und bx) b (.row e k (n'+m) fun i j=>if i<n' then c i j else c' (i-n') j)) nx
      |_=>False
     | .tv k'' n' c=>k''=k/\0<m/\n'+m<=maxLen/\(n'+m)*bytes<=140737488355328/\R stk (Ai fr ao.dst (.own nx)) ((nx,.one (.row e k (n'+m) fun i j=>if i<n' then c i j else c' (i-n') j))::bx) (nx+1)
     |_=>False):o.wpIn (FW ro) 0 P a w knext Q:=by
 obtain⟨h1,h2,h3,h4⟩:=AX hc
 have hd:∀s,o.dst=some s->s<a.tmps.size:=fun s hs=>Nat.lt_of_lt_of_le (h4 s hs) hsz.1
 rw[hop]at h1
 obtain⟨c,xa,xb,t,z,i,ho,hcal,hargs,hat,hu,hz,hi,hby,q1,q2⟩:=Gu h1
 have ha:c.args= #[xa,xb]:=by rw[<-hargs]
 have ha':c.argTypes= #[t,t]:=by rw[<-hat]
 have hx1:Ar A0 w0 β (Ab bx) w (ev E fr x) (a.eval xa):=Bs he hrel.mem (fun t _=>hrel.fr t) x q1
 have hx2:Ar A0 w0 β (Ab bx) w (ev E fr y) (a.eval xb):=Bs he hrel.mem (fun t _=>hrel.fr t) y q2
 obtain⟨i',v,z1,z2,z3,z4,z5⟩:=DL hz
 rw[hi]at z1;cases z1
 have hex:∀v' w1,(Builtin.append_ #[t,t] o.type #[a.eval xa,a.eval xb]).run P w= .ok v' w1->(execOp a.eval o).run P w= .ok (.value v') w1:=by
  intro v' w1 hr
  simp[execOp,ho,resolve,hcal,ha,ha',invoke,builtin,hr]
 cases hel:CB bx (ev E fr y)with
 |none=>simp only[hel]at hrun
 |some p=>
  obtain⟨k',m,c'⟩:=p
  simp only[hel]at hrun
  obtain⟨hk1,hk0,hrun⟩:=hrun
  cases hv:ev E fr x<;>simp only[hv]at hrun hx1<;>first|exact hrun.elim|skip
  ·obtain⟨p1,p2,hrun⟩:=hrun
   have e1:a.eval xa= .slice none 0 0:=hx1
   obtain⟨β1,v',w1,hr,hrel1⟩:=hrel.appNil (P:=P) (ty:=o.type) hu hi z2 z3 z4 hk0 hel hk1 hx2 (by rw[hby];exact p2) o.dst hd
   rw[<-e1]at hr
   refine BD (fun c' h=>by rw[ho]at h;cases h) (hex v' w1 hr) ?_
   refine hk β1 stk _ _ _ _ w1 hsz.put hrel1 hsk ?_
   rw[<-h3];exact hrun
  ·rename_i b
   have hx1':=hx1
   obtain⟨⟨e',k'',n',hrb⟩,hvx⟩:=hx1
   obtain⟨c0,hb⟩:∃c,Ab bx b=some (.row e' k'' n' c):=by
    rcases hrb.cases with h|⟨c,hb⟩
    ·exact h
    simp only[hb]at hrun
   simp only[hb]at hrun
   obtain⟨rfl,rfl,p1,p2,hrun⟩:=hrun
   obtain⟨β1,v',w1,hr,hrel1⟩:=hrel.appOwn (P:=P) (ty:=o.type) hu hi z2 z3 z4 hk0 hb (vx:=a.eval xa) hx1' hel hk1 hx2 p1 (by rw[hby];exact p2) o.dst hd
   refine BD (fun c' h=>by rw[ho]at h;cases h) (hex v' w1 hr) ?_
   refine hk β1 (AC b .und stk) _ _ _ _ w1 hsz.put hrel1 ((Di b .und stk).trans hsk) ?_
   rw[<-h3];exact hrun
  rename_i k'' n' c0
  obtain⟨rfl,hm0,p1,p2,hrun⟩:=hrun
  obtain⟨β1,v',w1,hr,hrel1⟩:=hrel.appTv (P:=P) (ty:=o.type) hu hi z2 z3 z4 hk0 (vx:=a.eval xa) hx1 hel hk1 hx2 hm0 p1 (by rw[hby];exact p2) o.dst hd
  refine BD (fun c' h=>by rw[ho]at h;cases h) (hex v' w1 hr) ?_
  refine hk β1 stk _ _ _ _ w1 hsz.put hrel1 hsk ?_
  rw[<-h3];exact hrun
theorem W6{z:Ad}(h:CJ P q=some (.clr k z x)):∃c xa t e,q= .call c/\c.callee= .builtin .clear/\c.args.toList=[xa]/\c.argTypes.toList=[t]/\P.underlying t=some (.slice e)/\DX P e=some (k,z)/\AG xa=some x:=by
 cases q<;>simp only[CJ]at h<;>first|(cases h;done)|skip
 case call c=>
  split at h
  ·(repeat' split at h)<;>simp at h
  ·(repeat' split at h)<;>simp at h
  ·(repeat' split at h)<;>simp at h
  ·(repeat' split at h)<;>simp at h
  ·rename_i hcal
   split at h
   ·rename_i xa t q1 q2
    split at h
    ·rename_i e q3
     split at h<;>simp at h
     rename_i k' z' ox q4 q5
     obtain⟨rfl,rfl,rfl⟩:=h
     exact⟨c,xa,t,e,rfl,hcal,q1,q2,q3,q4,q5⟩
    cases h
   cases h
  all_goals((repeat' split at h)<;>simp at h)
 case makeMap t x=>cases x<;>simp only[CJ]at h<;>((repeat' split at h)<;>simp at h)
 case slice t x lo hi mx=>cases mx<;>cases lo<;>cases hi<;>simp only[CJ]at h<;>((repeat' split at h)<;>simp at h)
 case next y s=>cases s<;>simp[CJ]at h
 all_goals((repeat' split at h)<;>simp at h)
theorem TC(he:Cc P E A0 w0)(hc:CQ P ops.toList nt o=some ao)(hsz:FQ nt ds a)(hrel:AL P A0 w0 β stk as fr bx nx a w)(hsk:BF stk=sk)(hk:CG P A0 w0 nt ds as sk R knext)
  {z:Ad} (hop:ao.op= .clr k z x)
  (hrun:BA z=true/\A4 z=true/\C3 z=true/\Bb z=k/\match ev E fr x with
    | .nils=>R stk (Ai fr ao.dst .und) bx nx
    | .own b=>match Ab bx b with
     |some (.row e k' m c)=>k'=k/\R stk (Ai fr ao.dst .und) (Aj bx b (.row e k m fun i j=>if 0<=i/\i<0+m then Az z j else c i j)) nx
     |_=>False
    | .osl b off n'=>match Ab bx b with
     |some (.row e k' m c)=>k'=k/\R stk (Ai fr ao.dst .und) (Aj bx b (.row e k m fun i j=>if off<=i/\i<off+n' then Az z j else c i j)) nx
     |_=>False
    |_=>False):o.wpIn (FW ro) 0 P a w knext Q:=by
 obtain⟨h1,h2,h3,h4⟩:=AX hc
 have hd:∀s,o.dst=some s->s<a.tmps.size:=fun s hs=>Nat.lt_of_lt_of_le (h4 s hs) hsz.1
 rw[hop]at h1
 obtain⟨c,xa,t,e,ho,hcal,hargs,hat,hu,hz,q1⟩:=W6 h1
 have ha:c.args= #[xa]:=by rw[<-hargs]
 have ha':c.argTypes= #[t]:=by rw[<-hat]
 have hx:Ar A0 w0 β (Ab bx) w (ev E fr x) (a.eval xa):=Bs he hrel.mem (fun t _=>hrel.fr t) x q1
 obtain⟨hlb,hpu,hon,hvl,hrun⟩:=hrun
 have part:∀(b:Bn) (off n':Nat) (e1:TypeId) (m:Nat) (c0:Nat->Nat->Ad) (ad:Option Addr) (cap:Nat),Ab bx b=some (.row e1 k m c0)->off+n'<=m->a.eval xa= .slice ad n' cap->(0<n'->∃g,(β b).a=some g/\ad=some ⟨g,off*k,none⟩)->
   R stk (Ai fr ao.dst .und) (Aj bx b (.row e1 k m fun i j=>if off<=i/\i<off+n' then Az z j else c0 i j)) nx->o.wpIn (FW ro) 0 P a w knext Q:=by
  intro b off n' e1 m c0 ad cap hb hle he' hadr hr
  obtain⟨w1,hst,hr1⟩:=hrel.clr (P:=P) (ty:=o.type) hb hle hadr hu hz hlb hpu hon o.dst hd
  have:(execOp a.eval o).run P w= .ok (.value (.tuple #[])) w1:=by
   rw[<-he']at hst
   simp[execOp,ho,resolve,hcal,ha,ha',invoke,builtin,hst]
  refine BD (fun c' h=>by rw[ho]at h;cases h) this ?_
  refine hk β stk _ _ _ _ _ hsz.put hr1 hsk ?_
  rw[<-h3];exact hr
 split at hrun
 ·rename_i e1
  rw[e1]at hx
  have he':a.eval xa= .slice none 0 0:=hx
  have:(execOp a.eval o).run P w= .ok (.value (.tuple #[])) w:=by
   simp[execOp,ho,resolve,hcal,ha,ha',invoke,builtin,he',Builtin.clear_,run_underlying hu,Result.andThen]
  refine BD (fun c' h=>by rw[ho]at h;cases h) this ?_
  refine hk β stk _ _ _ _ _ hsz.put (hrel.putv (v:= .und) trivial o.dst hd) hsk ?_
  rw[<-h3];exact hrun
 ·rename_i b e1
  rw[e1]at hx
  obtain⟨⟨e0,k0,n0,hrb⟩,he'⟩:=hx
  obtain⟨c0,hb⟩:∃c,Ab bx b=some (.row e0 k0 n0 c):=by
   rcases hrb.cases with h|⟨c,hb⟩
   ·exact h
   simp only[hb]at hrun
  simp only[hb]at hrun
  obtain⟨rfl,hrun⟩:=hrun
  obtain⟨hn,hk0,hmax,xs,⟨hxl,how⟩,hcc⟩:=hrel.mem.bx b _ hb
  rw[hn]at he'
  refine part b 0 n0 e0 n0 c0 _ _ hb (by omega) he' (fun h0=> ?_) hrun
  rcases how with⟨_,q⟩|⟨g,cap,cur,q1,_⟩
  ·omega
  cases hba:(β b).a with
  |none=>rw[hba]at q1;simp at q1
  |some g'=>exact⟨g',rfl,by simp⟩
 ·rename_i b off n' e1
  rw[e1]at hx
  obtain⟨e0,k0,M,hrb,hoff,ad,cap,he',hcap,hadr⟩:=hx
  obtain⟨c0,hb⟩:∃c,Ab bx b=some (.row e0 k0 M c):=by
   rcases hrb.cases with h|⟨c,hb⟩
   ·exact h
   simp only[hb]at hrun
  simp only[hb]at hrun
  obtain⟨rfl,hrun⟩:=hrun
  exact part b off n' e0 M c0 ad cap hb hoff he' hadr.1 hrun
 exact hrun.elim
theorem Lm(he:Cc P E A0 w0)(hc:CQ P ops.toList nt o=some ao)(hsz:FQ nt ds a)(hrel:AL P A0 w0 β stk as fr bx nx a w)(hsk:BF stk=sk)(hk:CG P A0 w0 nt ds as sk R knext)
    {bytes:Nat} (hop:ao.op= .app e k bytes x y)
    (hrun:match ev E fr y with
          | .own b'=>match Ab bx b' with
            |some (.rown _ k' m c')=>k'=k/\match ev E fr x with
              | .own b=>match Ab bx b with
                |some (.rown e' k'' n' c)=>e'=e/\k''=k/\n'+m<=maxLen/\(n'+m)*bytes<=140737488355328/\
                    R (AC b .und stk) (Ai (AK b .und fr) ao.dst (.own b)) (Aj (AJ b .und bx) b (.rown e k (n'+m) fun i j=>Bc b .und (if i<n' then c i j else c' (i-n') j))) nx
                |_=>False
              |_=>False
            |_=>False
          |_=>False):o.wpIn (FW ro) 0 P a w knext Q:=by
  obtain⟨h1,h2,h3,h4⟩:=AX hc
  have hd:∀s,o.dst=some s->s<a.tmps.size:=fun s hs=>Nat.lt_of_lt_of_le (h4 s hs) hsz.1
  rw[hop]at h1
  obtain⟨c,xa,xb,t,z,i,ho,hcal,hargs,hat,hu,hz,hi,hby,q1,q2⟩:=Gu h1
  have ha:c.args= #[xa,xb]:=by rw[<-hargs]
  have ha':c.argTypes= #[t,t]:=by rw[<-hat]
  have hx1:Ar A0 w0 β (Ab bx) w (ev E fr x) (a.eval xa):=Bs he hrel.mem (fun t _=>hrel.fr t) x q1
  have hx2:Ar A0 w0 β (Ab bx) w (ev E fr y) (a.eval xb):=Bs he hrel.mem (fun t _=>hrel.fr t) y q2
  obtain⟨i',v,z1,z2,z3,z4,z5⟩:=DL hz
  rw[hi]at z1;cases z1
  have hex:∀v' w1,(Builtin.append_ #[t,t] o.type #[a.eval xa,a.eval xb]).run P w= .ok v' w1->(execOp a.eval o).run P w= .ok (.value v') w1:=by
    intro v' w1 hr
    simp[execOp,ho,resolve,hcal,ha,ha',invoke,builtin,hr]
  split at hrun
  ·rename_i b' hy
   split at hrun
   ·rename_i e'' k' m c' hb'
    obtain⟨rfl,hrun⟩:=hrun
    split at hrun
    ·rename_i b hx
     split at hrun
     ·rename_i e' k'' n' c0 hb
      obtain⟨rfl,rfl,p1,p2,hrun⟩:=hrun
      rw[hx]at hx1
      rw[hy]at hx2
      obtain⟨β1,v',w1,hr,hrel1⟩:=hrel.appOwnN (P:=P) (ty:=o.type) hu hi z2 z3 z4 hb hb' hx1 hx2 p1 (by rw[hby];exact p2) o.dst hd
      refine BD (fun c' h=>by rw[ho]at h;cases h) (hex v' w1 hr) ?_
      refine hk β1 (AC b .und stk) _ _ _ _ w1 hsz.put hrel1 ((Di b .und stk).trans hsk) ?_
      rw[<-h3];exact hrun
     exact hrun.elim
    exact hrun.elim
   exact hrun.elim
  exact hrun.elim
theorem Oy(he:Cc P E A0 w0)(hc:CQ P ops.toList nt o=some ao)(hsz:FQ nt ds a)(hrel:AL P A0 w0 β stk as fr bx nx a w)(hsk:BF stk=sk)(hk:CG P A0 w0 nt ds as sk R knext)
    {f:Bf} {args':List (List Sh×Bf)} (hop:ao.op= .calle f args')
    (hrun:match ev E fr f with
          | .func (.func id) caps=>match E.S id with
            |some s=>match Ct bx s args' (AQ E fr args'++BK caps)with
              |⟨p,v,_⟩=>(BA caps=true/\p)/\match s.own,v with
                |some e,.view k m c=>0<k/\R stk (Ai fr ao.dst (.own nx)) ((nx,.one (.row e k m c))::bx) (nx+1)
                |_,_=>False
            |none=>False
          |_=>False):o.wpIn (FW ro) 0 P a w knext Q:=by
  obtain⟨h1,h2,h3,h4⟩:=AX hc
  have hd:∀s,o.dst=some s->s<a.tmps.size:=fun s hs=>Nat.lt_of_lt_of_le (h4 s hs) hsz.1
  rw[hop]at h1
  obtain⟨c,fo,ho,hcal,q1,q2⟩:=Gh (q:=o.op) (f:=f) (args:=args') (.inr h1)
  have hxa:∀x∈c.args.toList,I0 E A0 w0 β (Ab bx) w fr a x:=fun x _=>Bs he hrel.mem fun t _=>hrel.fr t
  have hxf:Ar A0 w0 β (Ab bx) w (ev E fr f) (a.eval fo):=Bs he hrel.mem (fun t _=>hrel.fr t) f q1
  cases hv:ev E fr f<;>simp only[hv]at hrun<;>first|exact hrun.elim|skip
  rename_i fn caps
  cases fn<;>simp only at hrun<;>first|exact hrun.elim|skip
  rename_i id
  cases hs:E.S id with
  |none=>simp only[hs]at hrun
  |some s=>
    simp only[hs]at hrun
    obtain⟨hp,hrun⟩:=hrun
    have hr:AF E fr bx nx (.call f args')=⟨BA caps=true/\(Ct bx s args' (AQ E fr args'++BK caps)).pre,(Ct bx s args' (AQ E fr args'++BK caps)).v,(Ct bx s args' (AQ E fr args'++BK caps)).new⟩:=by
      simp only[AF,hv,hs]
    have hw:=D9 (ro:=ro) (o:=o) (Q:=Q) (next:=fun a' w'=>knext a' w') hrel.mem (fun _ _ h=>h) he.G he.S ho hcal q1 q2 hxf hxa (by rw[hr];exact hp) (fun x w1 hsf hvx hox=>by
      have hox:=hox s (by simp only[Jo,hv,hs])
      rw[hr]at hox
      split at hrun
      ·rename_i e k m c hse hve
       obtain⟨hk0,hrun⟩:=hrun
       obtain⟨k',m',c',q1,q2,q3,xs,q4,q5⟩:=hox e hse
       have q1:Ad.view k m c= .view k' m' c':=hve.symm.trans q1
       cases q1
       have hBn:Ab bx nx=none:=hrel.nxn
       have hb0:0<=w.heap.size:=Nat.zero_le _
       obtain⟨L,hL1,hL2,hL3,hL4⟩:∃L:CK,x= .slice (L.a.map fun g=>⟨g,0,none⟩) m L.cap/\L.n=m/\(∀g,L.a=some g->w.heap.size<=g/\g<w1.heap.size)/\w1.ownsRow 0 e k (.slice (L.a.map fun g=>⟨g,0,none⟩) m L.cap) m xs:=by
         obtain⟨r1,r2⟩:=q4
         rcases r2 with⟨rfl,rfl⟩|⟨g,cap,cur,rfl,r4,r5,r6⟩
         ·exact⟨⟨none,0,0⟩,rfl,rfl,(fun g hg=>by cases hg),r1,.inl ⟨rfl,rfl⟩⟩
         refine⟨⟨some g,m,cap⟩,rfl,rfl,fun g' hg=> ?_,r1,.inr ⟨g,cap,cur,rfl,by omega,r5,r6⟩⟩
         cases hg
         exact⟨r4,(Array.getElem?_eq_some_iff.1 r5).1⟩
       have hsn:CD P A0 w0 β (BL β nx L) (Ab bx) nx (some (.row e k m c)) w w1:=by
         refine⟨hsf.keep,fun b c hb=>Bu hBn _ _ hb,?_⟩
         rintro c2 ⟨⟩
         refine⟨⟨by rw[Aq];exact hL2,q2,q3,xs,by rw[Aq];exact hL4,fun i hi j hj=> ?_⟩,fun g hg=> ?_⟩
         ·obtain⟨y,y1,y2,y3⟩:=q5 i hi j hj
          exact⟨y,y1,y2,Ao.weak (fun g _ h=>h.elim) y3⟩
         rw[Aq]at hg;exact hL3 g hg
       have hrel2:=hrel.soft hsn (v:= .own nx) (x:=x) ⟨⟨e,k,m,.row e k m c,by simp[Dc],rfl⟩,by rw[Aq,hL2];exact hL1⟩ o.dst hd
       refine hk (BL β nx L) stk _ _ _ _ w1 hsz.put hrel2 hsk ?_
       rw[<-h3];exact hrun
      exact hrun.elim)
    exact hw.1
theorem Qy{β:Bn->CK}{w:World}:∀{pz:Nat} {vs p q:List Ad} {b:Bn} {ys:List Value},Gc pz vs=some (p,b,q)->Ar A0 w0 β (Ab bx) w (vl vs) (.tuple ⟨ys⟩)->∃zs y us,ys=zs++y::us/\p.length=pz/\zs.length=pz/\Ar A0 w0 β (Ab bx) w (vl p) (.tuple ⟨zs⟩)/\Ar A0 w0 β (Ab bx) w (vl q) (.tuple ⟨us⟩)/\Ar A0 w0 β (Ab bx) w (.own b) y:=by
 intro pz;induction pz with
 |zero=>
  intro vs p q b ys h hr
  cases vs with
  |nil=>simp[Gc]at h
  |cons v l=>
   obtain⟨y,zs,he,h1,h2⟩:=hr
   obtain rfl:ys=y::zs:=by simpa using he
   cases v<;>simp[Gc]at h
   obtain⟨rfl,rfl,rfl⟩:=h
   exact⟨[],y,zs,rfl,rfl,rfl,rfl,h2,h1⟩
 |succ pz ih=>
  intro vs p q b ys h hr
  cases vs with
  |nil=>simp[Gc]at h
  |cons v l=>
   obtain⟨y,zs,he,h1,h2⟩:=hr
   obtain rfl:ys=y::zs:=by simpa using he
   simp only[Gc]at h
   split at h
   ·rename_i p' b' q' he'
    simp only[Option.some.injEq,Prod.mk.injEq]at h
    obtain⟨rfl,rfl,rfl⟩:=h
    obtain⟨zs',y',us,rfl,h4,h5,h3,h4',h6⟩:=ih he' h2
    exact⟨y::zs',y',us,rfl,by simp[h4],by simp[h5],⟨_,_,rfl,h1,h3⟩,h4',h6⟩
   cases h
theorem K1:∀(l:List Ad) (args:List (List Sh×Bf)),(CZ args l).length=l.length:=by
 intro l;induction l with
 |nil=>intro args;cases args<;>rfl
 |cons v l ih=>intro args;cases args with
  |nil=>rfl
  |cons x a=>obtain⟨s,o⟩:=x;simp[CZ,ih]
theorem QK:∀(l:List Ad),(Ci bx l).length=l.length:=by
 intro l;induction l with
 |nil=>rfl
 |cons v l ih=>simp[Ci,ih]
theorem MW(he:Cc P E A0 w0)(hc:CQ P ops.toList nt o=some ao)(hsz:FQ nt ds a)(hrel:AL P A0 w0 β stk as fr bx nx a w)(hsk:BF stk=sk)(hk:CG P A0 w0 nt ds as sk R knext)
  {f:Bf} {args':List (List Sh×Bf)} (hop:ao.op= .calle f args') {id:FuncId} {caps:Ad} {pz:Nat} {s:As} (hv:ev E fr f= .func (.func id) caps) (hs:E.X id=some (pz,s))
  (hrun:Fv bx s pz args' (AQ E fr args') caps (fun b e k m c=>R (AC b .und stk) (Ai (AK b .und fr) ao.dst (.own b)) (Aj (AJ b .und bx) b (.row e k m c)) nx) fun b e k m c=>R stk (Ai fr ao.dst .und) (Aj bx b (.row e k m c)) nx):o.wpIn (FW ro) 0 P a w knext Q:=by
 obtain⟨h1,h2,h3,h4⟩:=AX hc
 have hd:∀s,o.dst=some s->s<a.tmps.size:=fun s hs=>Nat.lt_of_lt_of_le (h4 s hs) hsz.1
 rw[hop]at h1
 obtain⟨c,fo,ho,hcal,q1,q2⟩:=Gh (q:=o.op) (f:=f) (args:=args') (.inr h1)
 have hxa:∀x∈c.args.toList,I0 E A0 w0 β (Ab bx) w fr a x:=fun x _=>Bs he hrel.mem fun t _=>hrel.fr t
 have hxf:Ar A0 w0 β (Ab bx) w (ev E fr f) (a.eval fo):=Bs he hrel.mem (fun t _=>hrel.fr t) f q1
 rw[hv]at hxf
 have hargsR:=Fb c.args.toList c.argTypes.toList args' q2 hxa
 generalize AQ E fr args'=vs at*
 cases caps<;>simp only[Fv]at hrun<;>first|exact hrun.elim|skip
 cases hb:Gc pz vs with
 |none=>simp only[hb]at hrun
 |some pq=>
 obtain⟨p,b,q⟩:=pq
 simp only[hb]at hrun
 obtain⟨ys,hfe,hcr⟩:=hxf
 obtain rfl:ys=[]:=by simpa[A7]using hcr
 obtain⟨zs,y,us,hzy,hlp,hlen,r1,r2,⟨⟨e0,k,n,hrb⟩,hy⟩⟩:=Qy hb hargsR
 obtain⟨c0,hbx⟩:∃c,Ab bx b=some (.row e0 k n c):=by
  rcases hrb.cases with h|⟨c,hb⟩
  ·exact h
  simp only[hb]at hrun
 simp only[hbx]at hrun
 obtain⟨hsn,hpre,hrun⟩:=hrun
 have hok:=he.X id pz s hs
 have henter:(execOp a.eval o).run P w= .ok (.enter id ⟨zs++y::us⟩) w:=by
  have e1:(Array.map a.eval c.args)=(⟨zs++y::us⟩:Array Value):=by apply Array.toList_inj.1;simp[hzy]
  simp[execOp,ho,resolve,hcal,hfe,Deferred.ofValue,invoke,hok.ent,e1]
 obtain⟨hn,hk0,hmax,xs,hown,hcells⟩:=hrel.mem.bx b _ hbx
 rw[hn]at hy
 subst hy
 obtain⟨a1,a2,hnl⟩:=Mz k n c0 (Ci (BQ bx b) q) (Ci (BQ bx b) p) args'
 rw[hnl]at hpre hrun
 cases hso:s.own with
 |some e=>
  cases hres:s.res (CZ a1 (Ci (BQ bx b) p)++ .view k n c0::CZ a2 (Ci (BQ bx b) q))<;>simp only[hso,hres]at hrun<;>first|exact hrun.elim|skip
  rename_i k' m c'
  obtain⟨rfl,hrun⟩:=hrun
  rw[Gd,Bool.and_eq_true]at hsn
  have hbd:∀y c,Ab bx y=some c->(Ab (BQ bx b) y=some c/\y≠b)\/Ab (BQ bx b) y=none:=by
   intro y c hy
   rw[Bt]
   by_cases e:y=b
   ·exact .inr (if_pos e)
   exact .inl ⟨by rw[if_neg e];exact hy,e⟩
  have hx1:=Ke (D:=fun y=>y≠b) hrel.mem hbd _ _ hsn.1 r1
  have hx2:=Ke (D:=fun y=>y≠b) hrel.mem hbd _ _ hsn.2 r2
  have hcalls:=hok.run (R0 A0 w0 (Ab bx) β fun y=>y≠b) w _ _ zs us (β b) e0 k n c0 (by rw[K1,QK];exact hlp) hlen (fun g hA e=>hA.elim (fun hA=>hA.2 b _ hbx e) fun⟨y,c2,h1,h2,h3⟩=>hrel.mem.inj y c2 b _ g h2 hbx h1 h3 e) (fun n m c h=>Ao.weak (fun g _ hA=> .inl hA) (HJ hrel.mem he.G h)) (Ee a1 _ _ hx1) (Ee a2 _ _ hx2) ⟨hn,hk0,hmax,xs,hown,fun i hi j hj=>by
   obtain⟨y,y1,y2,y3⟩:=hcells i hi j hj
   exact⟨y,y1,y2,Ao.weak (fun g _ hA=> .inl hA) y3⟩⟩ (fun e' he'=>by rw[hso]at he';cases he';rfl) hpre
  simp only[hso]at hcalls
  refine Ew (fun c' h=>by rw[ho]at h;cases h) henter (hcalls.mono fun ex w1=> ?_)
  rintro⟨L,k2,m2,c2,rfl,g2,g3,g4,g5⟩
  rw[hres]at g2
  cases g2
  have hu:LK A0 w0 β (BL β b L) b w w1:=by
   refine⟨g3.size,fun k' hk' hne=>g3.block k' hk' hne,fun y hy=>by simp[BL,hy],fun g hg'=> ?_,?_⟩
   ·rw[Aq]at hg';exact g4 g hg'
   exact hrel.mem.below.but g3.os g3.tape g3.output g3.size fun g hg hlo=>g3.block g hg fun e=>hlo (hrel.mem.base b _ g hbx e).1
  have hrel2:=hrel.updOwn hbx (L:=L) (e1:=e0) (k1:=k') (n1:=m) (c1:=c') hu (fun _=>by
   obtain⟨f1,f2,f3,xs',f4,f5⟩:=g5
   exact⟨f1,f2,f3,xs',f4,fun i hi j hj=>by
    obtain⟨y,y1,y2,y3⟩:=f5 i hi j hj
    exact⟨y,y1,y2,Ao.weak (fun _ _ h=>h.elim) y3⟩⟩) g5.1 o.dst hd
  refine hk (BL β b L) (AC b .und stk) _ _ _ _ w1 hsz.put hrel2 ((Di b .und stk).trans hsk) ?_
  rw[<-h3];exact hrun
 |none=>
  cases hres:s.res (CZ a1 (Ci (BQ bx b) p)++ .view k n c0::CZ a2 (Ci (BQ bx b) q))<;>simp only[hso,hres]at hrun<;>first|exact hrun.elim|skip
  rename_i k' m c'
  obtain⟨hpu,rfl,rfl,hrun⟩:=hrun
  rw[QL,Bool.and_eq_true]at hpu
  rw[Kg _ hpu.1,Kg _ hpu.2]at hpre hres
  have hcalls:=hok.run (Al A0 w0 (Ab bx) β) w _ _ zs us (β b) e0 k' m c0 (by rw[K1];exact hlp) hlen (fun g hA e=>hA.2 b _ hbx e) (fun n m c h=>HJ hrel.mem he.G h) (Ee a1 _ _ (H1 _ _ hpu.1 r1)) (Ee a2 _ _ (H1 _ _ hpu.2 r2)) ⟨hn,hk0,hmax,xs,hown,hcells⟩ (fun e' he'=>by rw[hso]at he';cases he') hpre
  simp only[hso]at hcalls
  refine Ew (fun c' h=>by rw[ho]at h;cases h) henter (hcalls.mono fun ex w1=> ?_)
  rintro⟨c2,rfl,g2,g3,g4,g5⟩
  rw[hres]at g2
  cases g2
  have hu:LK A0 w0 β β b w w1:=by
   refine⟨g3.size,fun k' hk' hne=>g3.block k' hk' hne,fun y hy=>rfl,fun g hg'=>⟨.inl hg',g4 g hg'⟩,?_⟩
   exact hrel.mem.below.but g3.os g3.tape g3.output g3.size fun g hg hlo=>g3.block g hg fun e=>hlo (hrel.mem.base b _ g hbx e).1
  have hrel2:=hrel.updK (c1:= .row e0 k' m c') hbx (hrel.mem.noIt hbx rfl) ⟨rfl,rfl⟩ hu (fun _ _=>by
   obtain⟨f1,f2,f3,xs',f4,f5⟩:=g5
   refine⟨f1,f2,f3,xs',f4,fun i hi j hj=> ?_⟩
   obtain⟨y,y1,y2,y3⟩:=f5 i hi j hj
   have hno:∀g,(Al A0 w0 (Ab bx) β g\/w.heap.size<=g)->∀z c,Ab bx z=some c->(β z).a≠some g:=fun g hA z c hz e=>hA.elim (fun hA=>hA.2 z c hz e) fun hg=>absurd (hrel.mem.base z c g hz e).2 (Nat.not_lt.2 hg)
   refine⟨y,y1,y2,Ao.weak (fun g _ hA=>⟨hA.elim (fun h=>h.1) fun hg=> .inr (.inl (Nat.le_trans hrel.mem.below.size hg)),fun z c hz=> ?_⟩) y3⟩
   simp only[FE]at hz
   split at hz
   ·rename_i ez;subst ez;exact hno g hA _ _ hbx
   exact hno g hA z c hz) o.dst hd (.tuple #[])
  refine hk β stk _ _ _ _ w1 hsz.put hrel2 hsk ?_
  rw[<-h3];exact hrun
theorem KL{y:Operand}(h:AG y=some (.c .nils)):y= .const (.slice none 0 0):=by
 cases y with
 |const v=>
  simp only[AG,Option.map_eq_some_iff]at h
  obtain⟨u,h1,h2⟩:=h
  cases h2
  congr 1
  unfold cv at h1
  split at h1
  ·simp at h1
  unfold YK at h1
  split at h1<;>first|rfl|(simp at h1;done)
 |tmp t=>simp[AG]at h
 |global g=>simp[AG]at h
 |func f=>simp[AG]at h
theorem QH{neg:Bool}(h:CJ P q=some (.isnil neg x)):∃op t e xx u,q= .binOp op t xx (.const (.slice none 0 0)) u/\P.underlying t=some (.slice e)/\op=(if neg then .neq else .eql)/\AG xx=some x:=by
 cases q<;>simp only[CJ]at h<;>first|(cases h;done)|skip
 case binOp op t y z u=>
  split at h
  ·rename_i oy oz q1 q2
   split at h
   ·split at h
    ·simp at h
    ·split at h<;>simp at h
    ·split at h<;>simp at h
    ·rename_i e hu
     split at h<;>simp at h
     ·obtain⟨rfl,rfl⟩:=h
      exact⟨.eql,t,e,y,u,by rw[KL q2],hu,rfl,q1⟩
     obtain⟨rfl,rfl⟩:=h
     exact⟨.neq,t,e,y,u,by rw[KL q2],hu,rfl,q1⟩
    cases h
   ·(repeat' split at h)<;>simp at h
   cases h
  cases h
 case makeMap t x=>cases x<;>simp only[CJ]at h<;>((repeat' split at h)<;>simp at h)
 case slice t x lo hi mx=>cases mx<;>cases lo<;>cases hi<;>simp only[CJ]at h<;>((repeat' split at h)<;>simp at h)
 case next y s=>cases s<;>simp[CJ]at h
 all_goals((repeat' split at h)<;>simp at h)
theorem Pj(he:Cc P E A0 w0)(hc:CQ P ops.toList nt o=some ao)(hsz:FQ nt ds a)(hrel:AL P A0 w0 β stk as fr bx nx a w)(hsk:BF stk=sk)(hk:CG P A0 w0 nt ds as sk R knext)
  {neg:Bool} (hop:ao.op= .isnil neg x)
  (hrun:match ev E fr x with
    | .nils=>R stk (Ai fr ao.dst (.bool (!neg))) bx nx
    | .view _ m _=>∀t:Bool,(0<m->t=false)->R stk (Ai fr ao.dst (.bool (t !=neg))) bx nx
    | .own b=>match Ab bx b with
     |some (.row _ _ m _)|some (.rown _ _ m _)=>∀t:Bool,(0<m->t=false)->R stk (Ai fr ao.dst (.bool (t !=neg))) bx nx
     |_=>False
    |_=>False):o.wpIn (FW ro) 0 P a w knext Q:=by
 obtain⟨h1,h2,h3,h4⟩:=AX hc
 have hd:∀s,o.dst=some s->s<a.tmps.size:=fun s hs=>Nat.lt_of_lt_of_le (h4 s hs) hsz.1
 rw[hop]at h1
 obtain⟨op,t,e,xx,u,ho,hu,hopn,q1⟩:=QH h1
 have hx:Ar A0 w0 β (Ab bx) w (ev E fr x) (a.eval xx):=Bs he hrel.mem (fun t _=>hrel.fr t) x q1
 have fin:∀(ad:Option Addr) (n c:Nat),a.eval xx= .slice ad n c->R stk (Ai fr ao.dst (.bool (ad.isNone !=neg))) bx nx->o.wpIn (FW ro) 0 P a w knext Q:=by
  intro ad n c e1 hr
  have hg:∀op,(eqGuard op t xx (.const (.slice none 0 0)) (.slice ad n c) (.slice none 0 0)).run P w= .ok () w:=fun op=>by
   simp only[eqGuard];split<;>rfl
  have ec:a.eval (.const (.slice none 0 0))= .slice none 0 0:=rfl
  have:(execOp a.eval o).run P w= .ok (.value (.bool (ad.isNone !=neg))) w:=by
   cases neg with
   |false=>
    have hopn:op= .eql:=hopn
    simp[execOp,ho,hopn,e1,hg .eql,run_eql_slice_nil w t e ad n c hu,ec]
   |true=>
    have hopn:op= .neq:=hopn
    simp[execOp,ho,hopn,e1,hg .neq,run_neq_slice_nil w t e ad n c hu,ec]
  refine BD (fun c' h=>by rw[ho]at h;cases h) this ?_
  refine hk β stk _ _ _ _ _ hsz.put (hrel.putv (v:= .bool (ad.isNone !=neg)) rfl o.dst hd) hsk ?_
  rw[<-h3];exact hr
 split at hrun
 ·rename_i e1
  rw[e1]at hx
  exact fin none 0 0 hx (by simpa using hrun)
 ·rename_i k m c e1
  rw[e1]at hx
  obtain⟨ad,cap,e2,_,_,h0⟩:=hx
  refine fin ad m cap e2 (hrun _ fun hm=> ?_)
  obtain⟨g,off,rfl,_⟩:=h0 hm
  rfl
 ·rename_i b e1
  rw[e1]at hx
  obtain⟨⟨e',k',n',hrb⟩,e2⟩:=hx
  rcases hrb.cases with⟨c',hb⟩|⟨c',hb⟩
  all_goals
   simp only[hb]at hrun
   refine fin _ _ _ e2 (hrun _ fun hm=> ?_)
   obtain⟨hn1,hk0,hmax,xs,⟨hxl,how⟩,hcc⟩:=hrel.mem.bx b _ hb
   rcases how with⟨e0,hn0⟩|⟨g',cap,cur,f1,f2,f3,f4,f5,f6,f7⟩
   ·omega
   cases hba:(β b).a with
   |none=>rw[hba]at f1;simp at f1
   |some g=>rfl
 exact hrun.elim
theorem WA(h:CJ P q=some (.pan x)):∃xo,q= .panic xo/\AG xo=some x:=by
 cases q<;>simp only[CJ]at h<;>first|(cases h;done)|skip
 case panic y=>
  obtain⟨oy,e1,e2⟩:=Option.map_eq_some_iff.1 h
  cases e2;exact⟨y,rfl,e1⟩
 case makeMap t x=>cases x<;>simp only[CJ]at h<;>((repeat' split at h)<;>simp at h)
 case slice t x lo hi mx=>cases mx<;>cases lo<;>cases hi<;>simp only[CJ]at h<;>((repeat' split at h)<;>simp at h)
 case next y s=>cases s<;>simp[CJ]at h
 all_goals((repeat' split at h)<;>simp at h)
theorem WE(h:CJ P q=some (.dfr x)):∃c xo,q= .defer c/\c.callee= .value xo/\c.args.toList=[]/\AG xo=some x:=by
 cases q<;>simp only[CJ]at h<;>first|(cases h;done)|skip
 case defer c=>
  split at h
  ·rename_i y e1 e2
   obtain⟨oy,e3,e4⟩:=Option.map_eq_some_iff.1 h
   cases e4;exact⟨c,y,rfl,e1,e2,e3⟩
  cases h
 case makeMap t x=>cases x<;>simp only[CJ]at h<;>((repeat' split at h)<;>simp at h)
 case slice t x lo hi mx=>cases mx<;>cases lo<;>cases hi<;>simp only[CJ]at h<;>((repeat' split at h)<;>simp at h)
 case next y s=>cases s<;>simp[CJ]at h
 all_goals((repeat' split at h)<;>simp at h)
theorem Ux(he:Cc P E A0 w0)(hc:CQ P ops.toList nt o=some ao)(hsz:FQ nt ds a)(hrel:AL P A0 w0 β stk as fr bx nx a w)(hsk:BF stk=sk)(hkp:J1 P E A0 w0 Qf n nt ds as sk res (.ops 0 l::K) Q)(hop:ao.op= .pan x)
  (hrun:EY K=true/\match ev E fr x with
    | .ifc T k z=>IP (run E Qf n []) T k z stk (Bl K) res fr bx nx
    |_=>False):o.wpIn (FW ro) 0 P a w knext Q:=by
 obtain⟨h1,h2,h3,h4⟩:=AX hc
 rw[hop]at h1
 obtain⟨xo,ho,hx⟩:=WA h1
 have hxx:=Bs he hrel.mem (fun t _=>hrel.fr t) x hx
 cases hv:ev E fr x<;>simp only[hv]at hrun<;>first|exact hrun.2.elim|skip
 rename_i T k z
 rw[hv]at hxx
 have e:a.eval xo= .iface T (.int k z):=hxx
 have hr:(execOp a.eval o).run P w= .halt (.panic (.iface T (.int k z))) w:=by
  simp[execOp,ho,e,Instr.panic]
 refine Ei (fun c' h=>by rw[ho]at h;cases h) ?_
 rw[hr]
 exact hkp n β stk fr bx nx a w T k z (Nat.le_refl _) hsz hrel hsk hrun.1 hrun.2
theorem S8(he:Cc P E A0 w0)(hc:CQ P ops.toList nt o=some ao)(hsz:FQ nt ds a)(hrel:AL P A0 w0 β stk as fr bx nx a w)(hsk:BF stk=sk)
  (hkd:Fw K=true->ro=none/\ds=[]/\∀id b g T k,E.C id=some (T,k)->Kp P E A0 w0 Qf n nt [N0 id g] as sk res (.ops 0 l::(K++[.ctch b g T k])) knext) (hop:ao.op= .dfr x)
  (hrun:Fw K=true/\match ev E fr x with
    | .func (.func id) (.cons (.ptr b 0) .nil)=>match E.C id,Ab bx b with
     |some (T,k),some (.cells (.cons (.int k' y) .nil))=>k'=k/\∀g,run E Qf n (.ops 0 l::(K++[.ctch b g T k])) stk res (Ai fr ao.dst .und) (Aj bx b (.wc g (.int k y))) nx
     |_,_=>False
    |_=>False):o.wpIn (FW ro) 0 P a w knext Q:=by
 obtain⟨h1,h2,h3,h4⟩:=AX hc
 have hd:∀s,o.dst=some s->s<a.tmps.size:=fun s hs=>Nat.lt_of_lt_of_le (h4 s hs) hsz.1
 rw[hop]at h1
 obtain⟨c,xo,ho,hcal,hargs,hx⟩:=WE h1
 obtain⟨hpl,hrun⟩:=hrun
 obtain⟨rfl,rfl,hgo⟩:=hkd hpl
 have hxx:=Bs he hrel.mem (fun t _=>hrel.fr t) x hx
 split at hrun
 ·rename_i id b hv
  split at hrun
  ·rename_i T k k' y hC hb
   obtain⟨rfl,hrun⟩:=hrun
   rw[hv]at hxx
   obtain⟨ys,hfe,y0,zs,e1,⟨_,g,hg,rfl⟩,e2⟩:=hxx
   have hys:(⟨ys⟩:Array Value)= #[.pointer (some ⟨g,0,none⟩)]:=by
    have e3:zs=[]:=by simpa[A7]using e2
    subst e3
    simpa using e1
   have hr:(execOp a.eval o).run P w= .ok (.defer (N0 id g)) w:=by
    have e4:Array.map a.eval c.args= #[]:=by apply Array.toList_inj.1;simp[hargs]
    simp[execOp,ho,resolve,hcal,hfe,Deferred.ofValue,N0,hys,e4]
   refine⟨fun _ _=>trivial,?_⟩
   rw[show Oper.semAt (FW none).round a.eval o=execOp a.eval o from Oper.semAt_none _ _,hr]
   show knext ({a with defers:=N0 id g::a.defers}.put o.dst undef) w
   have hrd:Dw {a with defers:=N0 id g::a.defers}=[N0 id g]:=by
    have:=hsz.2
    simp only[Dw]at this⊢
    rw[List.filter_cons,if_pos (show(!DR (N0 id g))=true from rfl),this]
   have hrel1:AL P A0 w0 β stk as fr bx nx {a with defers:=N0 id g::a.defers} w:=⟨hrel.mem,hrel.fr,hrel.st,by
    have:=hrel.df
    simp only[N1,List.cons_append]at this⊢
    rw[List.filter_cons,if_neg (by simp[DR,N0])];exact this,hrel.sn⟩
   have hu:LK A0 w0 β β b w w:=⟨Nat.le_refl _,fun _ _ _=>rfl,fun _ _=>rfl,fun g' hg'=>⟨.inl hg',(hrel.mem.base b _ g' hb hg').2⟩,hrel.mem.below⟩
   obtain⟨_,g2,ys2,t2,r1,r2,r3⟩:=hrel.mem.bx b _ hb
   rw[hg]at r1;cases r1
   obtain⟨y1,zs1,e5,e6,e7⟩:=r3
   have hz1:ys2=[.int k' y]:=by
    have e8:zs1=[]:=by simpa[A7]using e7
    have e9:y1= .int k' y:=e6
    subst e8 e9
    simpa using e5
   subst hz1
   have hrel2:=hrel1.updK (c1:= .wc g (.int k' y)) hb (hrel.mem.noIt hb rfl) trivial hu (fun _ _=>⟨hg,.int k' y,t2,r2,rfl⟩) o.dst hd undef
   refine hgo id b g T k' hC n β stk _ _ nx _ w (Nat.le_refl _) ⟨by rw[Nl];exact hsz.1,by rw[Dw,OL];exact hrd⟩ hrel2 hsk ?_
   rw[<-h3];exact hrun g
  exact hrun.elim
 exact hrun.elim
theorem PZ(he:Cc P E A0 w0)(IH:∀m,m<=n->IL P E A0 w0 Qf m)(hc:CQ P ops.toList nt o=some ao)(hsz:FQ nt ds a)(hrel:AL P A0 w0 β stk as fr bx nx a w)(hsk:BF stk=sk)(hk:Kp P E A0 w0 Qf n nt ds as sk res (.ops 0 l::K) knext)(hkp:Oi ao.op=true->J1 P E A0 w0 Qf n nt ds as sk res (.ops 0 l::K) Q)
    (hkd:(∃x,ao.op= .dfr x)->Fw K=true->ro=none/\ds=[]/\∀id b g T k,E.C id=some (T,k)->Kp P E A0 w0 Qf n nt [N0 id g] as sk res (.ops 0 l::(K++[.ctch b g T k])) knext)
    (hrun:run E Qf (n+1) (.ops 0 (ao::l)::K) stk res fr bx nx):if Region.wanted o (yielded ops a.tmps)then o.wpIn (FW ro) 0 P a w knext Q else(∀f,o.about P w a.eval=some f->(FW ro).fn f)/\knext (a.put o.dst undef) w:=by
  obtain⟨h1,h2,h3,h4⟩:=AX hc
  have hd:∀s,o.dst=some s->s<a.tmps.size:=fun s hs=>Nat.lt_of_lt_of_le (h4 s hs) hsz.1
  cases hskip:A9 fr ao.guard with
  |none=>simp only[run,hskip]at hrun
  |some s=>
    rw[Fj (A:=Al A0 w0 (Ab bx) β) (B:=Ab bx) (β:=β) (w:=w) h2 (fun t _ _=>hrel.fr t) hskip]
    cases s with
    |true=>
      simp only[run,hskip]at hrun
      simp only[Bool.not_true,Bool.false_eq_true,if_false]
      refine⟨fun _ _=>trivial,hk n β stk _ _ _ _ w (Nat.le_refl _) hsz.put (hrel.void o.dst hd) hsk ?_⟩
      rw[<-h3];exact hrun
    |false=>
      simp only[Bool.not_false,if_true]
      have hkR:CG P A0 w0 nt ds as sk (fun stk fr bx nx=>CC E fr bx ao.re/\run E Qf n (.ops 0 l::K) stk res fr bx nx) knext:=fun β stk fr bx nx a w h1 h2 h3 h4=>hk n β stk fr bx nx a w (Nat.le_refl _) h1 h2 h3 h4.2
      have hkP:CG P A0 w0 nt ds as sk (fun stk fr bx nx=>run E Qf n (.ops 0 l::K) stk res fr bx nx) knext:=fun β stk fr bx nx a w h1 h2 h3 h4=>hk n β stk fr bx nx a w (Nat.le_refl _) h1 h2 h3 h4
      cases hf:FG E fr bx stk 0 ao.op with
      |none=>simp only[run,hskip,hf]at hrun
      |some q=>
      obtain⟨fr',bx',stk'⟩:=q
      obtain⟨hrel',hsk'⟩:=hrel.frz _ (show frz (Pv E fr bx ao.op) (fr,bx,stk)=some (fr',bx',stk')from hf)
      replace hsk':=hsk'.trans hsk
      have gen:(match AF E fr' bx' nx ao.op with
            |⟨p,v,new⟩=>p/\(FT v->match ao.br with
              |false=>run E Qf n (.ops 0 l::K) stk' res (Ai fr' ao.dst v) (CX nx new bx') (Da nx new)
              |true=>match v with
                | .bool t=>(t=true->run E Qf n (.ops 0 l::K) stk' res (Ai fr' ao.dst (.bool true)) (CX nx new bx') (Da nx new))/\(t=false->run E Qf n (.ops 0 l::K) stk' res (Ai fr' ao.dst (.bool false)) (CX nx new bx') (Da nx new))
                |_=>False))->o.wpIn (FW ro) 0 P a w knext Q:=fun hr=>RD he hc hsz hrel' hsk' hk hr
      cases hop:ao.op with
      |store m ad x=>simp only[run,hskip,hf]at hrun;simp only[hop]at hrun;exact G7 he hc hsz hrel' hsk' hkR hop hrun
      |app e k bytes x y=>simp only[run,hskip,hf]at hrun;simp only[hop]at hrun;cases hN:E.N e with
        |false=>simp only[hN]at hrun;exact Hf he hc hsz hrel' hsk' hkR hop hrun
        |true=>simp only[hN]at hrun;exact Lm he hc hsz hrel' hsk' hkR hop hrun
      |mset kd m k v=>simp only[run,hskip,hf]at hrun;simp only[hop]at hrun;exact Ib he hc hsz hrel' hsk' hkR hop (W:=noIt) (fun _=>Fx) hrun
      |clr k z x=>simp only[run,hskip,hf]at hrun;simp only[hop]at hrun;exact TC he hc hsz hrel' hsk' hkP hop hrun
      |mdel kd m k=>simp only[run,hskip,hf]at hrun;simp only[hop]at hrun;exact RC he hc hsz hrel' hsk' hkP hop hrun
      |mlen kd m=>simp only[run,hskip,hf]at hrun;simp only[hop]at hrun;exact QS he hc hsz hrel' hsk' hkP hop hrun
      |rngm kd m=>simp only[run,hskip,hf]at hrun;simp only[hop]at hrun;exact Re he hc hsz hrel' hsk' hkP hop hrun
      |nxt m=>simp only[run,hskip,hf]at hrun;simp only[hop]at hrun;exact SW he hc hsz hrel' hsk' hkP hop hrun
      |ent m=>simp only[run,hskip,hf]at hrun;simp only[hop]at hrun;exact UG he hc hsz hrel' hsk' hkP hop hrun
      |isnil neg x=>simp only[run,hskip,hf]at hrun;simp only[hop]at hrun;exact Pj he hc hsz hrel' hsk' hkP hop hrun
      |pan x=>simp only[run,hskip,hf]at hrun;simp only[hop]at hrun;exact Ux he hc hsz hrel' hsk' (hkp (by rw[hop];rfl)) hop hrun
      |dfr x=>simp only[run,hskip,hf]at hrun;simp only[hop]at hrun;exact S8 he hc hsz hrel' hsk' (hkd ⟨x,hop⟩) hop hrun
      |call f args=>simp only[run,hskip,hf]at hrun;simp only[hop]at hrun;exact KK he IH hc hsz hrel' hsk' hk (hkp (by rw[hop];rfl)) (.inl hop) hrun
      |calle f args=>
        simp only[run,hskip,hf]at hrun;simp only[hop]at hrun
        by_cases hx:∃id caps,ev E fr' f= .func (.func id) caps/\E.I id=none/\E.S id=none
        ·obtain⟨id,caps,e1,e2,e3⟩:=hx
         simp only[e1,e2,e3]at hrun
         split at hrun
         ·rename_i pz s hs
          exact MW he hc hsz hrel' hsk' hkP hop e1 hs hrun
         exact hrun.elim
        refine KK he IH hc hsz hrel' hsk' hk (hkp (by rw[hop];rfl)) (.inr hop) ?_
        cases hv:ev E fr' f<;>simp only[hv]at hrun⊢ <;>first|exact hrun|skip
        rename_i fn caps
        cases fn<;>simp only at hrun⊢ <;>first|exact hrun|skip
        rename_i id
        cases hi:E.I id<;>simp only[hi]at hrun⊢ <;>first|exact hrun|skip
        cases hs:E.S id<;>simp only[hs]at hrun⊢ <;>first|exact hrun|skip
        exact absurd ⟨id,caps,hv,hi,hs⟩ hx
      |_=>
        simp only[run,hskip,hf]at hrun;simp only[hop]at hrun
        refine gen ?_
        rw[hop]
        refine⟨hrun.1,fun wf=> ?_⟩
        have h2:=hrun.2 wf
        cases hbr:ao.br
        ·simp only[hbr]at h2⊢;exact h2.2
        simp only[hbr]at h2⊢;exact h2
end
end Go.Proofs.YtlieoghhkioflaaGreat
/- The engine,part 20: a region whose order is drawn: whatever the order,its first operations give what they give in the order of the text. No condition. -/
namespace Go.Proofs.YtlieoghhkioflaaGreat
open Go Go.RowKit
variable{bx bx':Bx}
variable{P:Program}{E:Db}{A0:Nat->Prop}{w0:AW}{Qf:Ad->Bx->Prop}
theorem Rg(h:∀b c,Ab bx b=some c->Ab bx' b=some c):∀(d:Nat) (v:Ad),An bx d v=true->Ay bx' d v=Ay bx d v/\An bx' d v=true:=by
 intro d
 induction d with
 |zero=>
  intro v _
  refine⟨?_,by simp only[An]⟩
  induction v with
  |cons a t ih1 ih2=>simp only[Ay,ih1 (by simp only[An]),ih2 (by simp only[An])]
  |agg l ih=>simp only[Ay,ih (by simp only[An])]
  |tup l ih=>simp only[Ay,ih (by simp only[An])]
  |func fn l ih=>simp only[Ay,ih (by simp only[An])]
  |_=>simp only[Ay]
 |succ d ihd=>
  intro v
  induction v with
  |cons a t ih1 ih2=>
   intro hs
   simp only[An,Bool.and_eq_true]at hs
   obtain⟨e1,e2⟩:=ih1 hs.1
   obtain⟨e3,e4⟩:=ih2 hs.2
   exact⟨by simp only[Ay,e1,e3],by simp only[An,e2,e4];rfl⟩
  |agg l ih=>intro hs;simp only[An]at hs;obtain⟨e1,e2⟩:=ih hs;exact⟨by simp only[Ay,e1],by simp only[An,e2]⟩
  |tup l ih=>intro hs;simp only[An]at hs;obtain⟨e1,e2⟩:=ih hs;exact⟨by simp only[Ay,e1],by simp only[An,e2]⟩
  |func fn l ih=>intro hs;simp only[An]at hs;obtain⟨e1,e2⟩:=ih hs;exact⟨by simp only[Ay,e1],by simp only[An,e2]⟩
  |own b=>
   intro hs
   simp only[An]at hs
   split at hs
   ·rename_i e k n c hb;exact⟨by simp only[Ay,hb,h b _ hb],by simp only[An,h b _ hb]⟩
   ·rename_i e k n c hb
    have hs:= @of_decide_eq_true _ (Classical.propDecidable _) hs
    refine⟨?_,?_⟩
    ·simp only[Ay,hb,h b _ hb]
     congr 1
     funext i j
     cases hij:decide (i<n/\j<k)with
     |false=>rfl
     |true=>have:=of_decide_eq_true hij;exact(ihd (c i j) (hs i this.1 j this.2)).1
    simp only[An,h b _ hb]
    exact @decide_eq_true _ (Classical.propDecidable _) fun i hi j hj=>(ihd (c i j) (hs i hi j hj)).2
   cases hs
  |rptr b i off=>
   intro hs
   simp only[An]at hs
   split at hs
   ·rename_i e k n c hb;exact⟨by simp only[Ay,hb,h b _ hb],by simp only[An,h b _ hb]⟩
   cases hs
  |osl b off m=>
   intro hs
   simp only[An]at hs
   split at hs
   ·rename_i e k n c hb;exact⟨by simp only[Ay,hb,h b _ hb],by simp only[An,h b _ hb]⟩
   cases hs
  |ptr b off=>
   intro hs
   simp only[An]at hs
   split at hs
   ·rename_i l hb
    obtain⟨e1,e2⟩:=ihd l hs
    exact⟨by simp only[Ay,hb,h b _ hb,e1],by simp only[An,h b _ hb,e2]⟩
   cases hs
  |mapb b=>
   intro hs
   simp only[An]at hs
   split at hs
   ·rename_i kd has f hb
    have hs:= @of_decide_eq_true _ (Classical.propDecidable _) hs
    refine⟨?_,?_⟩
    ·simp only[Ay,hb,h b _ hb]
     congr 1
     funext k
     cases hk:has k with
     |false=>rfl
     |true=>exact(ihd (f k) (hs k hk)).1
    simp only[An,h b _ hb]
    exact @decide_eq_true _ (Classical.propDecidable _) fun k hk=>(ihd (f k) (hs k hk)).2
   ·rename_i kd f hb;exact⟨by simp only[Ay,hb,h b _ hb],by simp only[An,h b _ hb]⟩
   cases hs
  |yld b=>intro hs;simp[An]at hs
  |_=>intro _;exact⟨by simp only[Ay],by simp only[An]⟩
theorem OQ(h:∀b c,Ab bx b=some c->Ab bx' b=some c):∀(l:List Ad),BJ bx l=true->Ci bx' l=Ci bx l/\BJ bx' l=true:=by
 intro l;induction l with
 |nil=>intro _;exact⟨rfl,rfl⟩
 |cons v l ih=>
  intro hs
  simp only[BJ,Bool.and_eq_true]at hs
  obtain⟨e1,e2⟩:=Rg h 40 v hs.1
  obtain⟨e3,e4⟩:=ih hs.2
  exact⟨by simp only[Ci,e1,e3],by simp only[BJ,e2,e4];rfl⟩
theorem MU{fr:Fr}{nx:Nat}(h:∀b c,Ab bx b=some c->Ab bx' b=some c)(op:Ji)(hp:(AF E fr bx nx op).pre):AF E fr bx' nx op=AF E fr bx nx op:=by
 cases op<;>first|rfl|skip
 case load ag s x=>
  cases hv:ev E fr x<;>simp only[AF,hv]at hp⊢
  ·split at hp
   ·rename_i l hb;simp only[hb,h _ _ hb]
   exact hp.elim
  split at hp
  ·rename_i e k n c hb;simp only[hb,h _ _ hb]
  ·rename_i e k n c hb;simp only[hb,h _ _ hb]
  exact hp.elim
 case idx k x i=>
  cases hv:ev E fr x<;>cases hu:ev E fr i<;>simp only[AF,hv,hu]at hp⊢
  all_goals
   split at hp
   ·rename_i e k' n c hb;simp only[hb,h _ _ hb]
   ·rename_i e k' n c hb;simp only[hb,h _ _ hb]
   exact hp.elim
 case sl k x lo hi=>
  cases hv:ev E fr x<;>simp only[AF,hv]at hp⊢
  all_goals
   split at hp
   ·rename_i e k' n c hb;simp only[hb,h _ _ hb]
   ·rename_i e k' n c hb;simp only[hb,h _ _ hb]
   exact hp.elim
 case mget kd ok z x k=>
  cases hv:ev E fr x<;>cases hu:ev E fr k<;>simp only[AF,hv,hu]at hp⊢
  split at hp
  ·rename_i kd' has f hb;simp only[hb,h _ _ hb]
  ·rename_i kd' f hb;simp only[hb,h _ _ hb]
  exact hp.elim
 case len x=>
  cases hv:ev E fr x<;>simp only[AF,hv,T0]at hp⊢
  split at hp
  ·rename_i e k n c hb;simp only[hb,h _ _ hb]
  ·rename_i e k n c hb;simp only[hb,h _ _ hb]
  exact hp.elim
 case call f args=>
  cases hv:ev E fr f<;>simp only[AF,hv]at hp⊢
  rename_i fn caps
  cases fn<;>simp only at hp⊢
  rename_i id
  cases hs:E.S id<;>simp only[hs]at hp⊢
  simp only[Ct]at hp⊢
  split
  ·rfl
  rename_i hpu
  simp only[hpu]at hp
  obtain⟨e1,e2⟩:=OQ h _ hp.2.1
  simp only[e1,e2,hp.2.1]
theorem N2:∀(l:List Oper) (acc:List Nat),(Cb acc l).length=acc.length+l.length:=by
 intro l;induction l with
 |nil=>intro acc;rfl
 |cons o l ih=>intro acc;simp only[Cb,ih,List.length_append,List.length_cons,List.length_nil];omega
theorem JV:∀(l:List Oper) (acc:List Nat) (k:Nat),k<acc.length->(Cb acc l)[k]?=acc[k]?:=by
 intro l;induction l with
 |nil=>intro acc k _;rfl
 |cons o l ih=>intro acc k hk;simp only[Cb];rw[ih _ _ (by simp;omega),List.getElem?_append_left hk]
theorem OU:∀(l:List Oper) (acc:List Nat) (j:Nat) (o:Oper),l[j]?=some o->(Cb acc l)[acc.length+j]?=some (Gz ((Cb acc l).take (acc.length+j)) o):=by
 intro l;induction l with
 |nil=>intro acc j o h;simp at h
 |cons q l ih=>
  intro acc j o h
  cases j with
  |zero=>
   simp at h;subst h
   simp only[Cb,Nat.add_zero]
   have h1:=JV l (acc++[Gz acc q]) acc.length (by simp)
   rw[h1,List.getElem?_append_right (Nat.le_refl _)]
   simp
   congr 1
   apply List.ext_getElem?
   intro k
   by_cases hk:k<acc.length
   ·rw[List.getElem?_take_of_lt hk,JV _ _ _ (by simp;omega),List.getElem?_append_left hk]
   rw[List.getElem?_eq_none (by omega),List.getElem?_eq_none (by simp;omega)]
  |succ j=>
   simp only[Cb]
   have:=ih (acc++[Gz acc q]) j o (by simpa using h)
   rw[List.length_append,List.length_singleton,show acc.length+1+j=acc.length+(j+1)from by omega]at this
   exact this
theorem MT(acc:List Nat)(o:Oper)(i:Nat)(h:(Gz acc o).testBit i=true):∃e∈o.after.toList,Region.binds .any e=true/\(i=e.on\/(acc.getD e.on 0).testBit i=true):=by
 unfold Gz at h
 have gen:∀(l:List Edge) (s:Nat),(l.foldl (fun s e=>if Region.binds .any e then s|||2^e.on|||acc.getD e.on 0 else s) s).testBit i=true->s.testBit i=true\/∃e∈l,Region.binds .any e=true/\(i=e.on\/(acc.getD e.on 0).testBit i=true):=by
  intro l;induction l with
  |nil=>intro s h;exact .inl h
  |cons e l ih=>
   intro s h
   simp only[List.foldl_cons]at h
   rcases ih _ h with h|⟨e',he',h'⟩
   ·split at h
    ·rename_i hb
     simp only[Nat.testBit_or,Bool.or_eq_true,Nat.testBit_two_pow]at h
     rcases h with(h|h)|h
     ·exact .inl h
     ·exact .inr ⟨e,by simp,hb,.inl (by have h':=h;simp at h';omega)⟩
     exact .inr ⟨e,by simp,hb,.inr h⟩
    exact .inl h
   exact .inr ⟨e',by simp[he'],h'⟩
 rcases gen _ 0 h with h|h
 ·simp at h
 exact h
theorem Ec{ops:List Oper}{L:Nat->Bool}(hao:Jc ops=true)(hcl:∀j o,ops[j]?=some o->L j=true->∀e∈o.after.toList,Region.binds .any e=true->L e.on=true):
  ∀(j:Nat) (o:Oper),ops[j]?=some o->(∀e∈o.after.toList,Region.binds .any e=true->L e.on=true)->∀i,((Cb [] ops).getD j 0).testBit i=true->L i=true:=by
 intro j
 induction j using Nat.strongRecOn with
 |_ j ih=>
 intro o ho hr i hb
 have h1:=OU ops [] j o ho
 simp only[List.length_nil,Nat.zero_add]at h1
 rw[List.getD_eq_getElem?_getD,h1]at hb
 obtain⟨e,he,hbe,h2⟩:=MT _ o i hb
 have hlt:e.on<j:=by
  have hj:j<ops.length:=by rcases Nat.lt_or_ge j ops.length with h|h;exact h;simp[List.getElem?_eq_none h]at ho
  have:=List.all_eq_true.1 hao j (by simpa using hj)
  simp only[ho]at this
  have:=List.all_eq_true.1 this e he
  simpa[hbe]using this
 rcases h2 with rfl|h2
 ·exact hr e he hbe
 have hlen:e.on<((Cb [] ops).take j).length:=by
  rw[List.length_take,N2]
  have hj:j<ops.length:=by rcases Nat.lt_or_ge j ops.length with h|h;exact h;simp[List.getElem?_eq_none h]at ho
  simp;omega
 have h3:((Cb [] ops).take j).getD e.on 0=(Cb [] ops).getD e.on 0:=by
  rw[List.getD_eq_getElem?_getD,List.getD_eq_getElem?_getD,List.getElem?_take_of_lt hlt]
 rw[h3]at h2
 have hj:j<ops.length:=by rcases Nat.lt_or_ge j ops.length with h|h;exact h;simp[List.getElem?_eq_none h]at ho
 obtain⟨o',ho'⟩:∃o',ops[e.on]?=some o':=⟨ops[e.on],List.getElem?_eq_getElem (by omega)⟩
 exact ih e.on hlt o' ho' (hcl e.on o' ho' (hr e he hbe)) i h2
theorem On{ops:List Oper}{m:List Nat}{gs:List (Option Nat)}(h:Lv ops m gs=true){i j:Nat}{x y:Oper}(hx:ops[i]?=some x)(hy:ops[j]?=some y)(hij:i≠j){d:Nat}(hd:x.dst=some d):
  y.dst≠some d/\((d∈Fg y\/gs.getD j none=some d)->(i<j/\(m.getD j 0).testBit i=true)\/(j<i/\(m.getD i 0).testBit j=true)):=by
 have hi:i<ops.length:=by rcases Nat.lt_or_ge i ops.length with h|h;exact h;simp[List.getElem?_eq_none h]at hx
 have hj:j<ops.length:=by rcases Nat.lt_or_ge j ops.length with h|h;exact h;simp[List.getElem?_eq_none h]at hy
 have h1:=List.all_eq_true.1 (List.all_eq_true.1 h i (by simpa using hi)) j (by simpa using hj)
 simp only[hx,hy,hd]at h1
 have hne:(i==j)=false:=by simpa using hij
 simp only[hne,Bool.false_or,Bool.and_eq_true]at h1
 refine⟨by simpa using h1.1,fun h2=> ?_⟩
 have h3:=h1.2
 simp only[Bool.or_eq_true,Bool.not_eq_true',Bool.or_eq_false_iff,Bool.and_eq_true,decide_eq_true_eq]at h3
 rcases h3 with(h3|h3)|h3
 ·rcases h2 with h2|h2
  ·have:=h3.1
   rw[List.contains_iff_mem.2 h2]at this
   cases this
  have:=h3.2
  rw[h2]at this
  simp at this
 ·exact .inl h3
 exact .inr h3
end Go.Proofs.YtlieoghhkioflaaGreat
/- The engine,part 20b: a region whose order is drawn: what the checked order gives,step by step. No condition. -/
namespace Go.Proofs.YtlieoghhkioflaaGreat
open Go Go.RowKit
variable{listed:Array Bool}{args:List (List Sh×Bf)}{vs:List Ad}{len pz:Nat}{s:As}{caps:Ad}
variable{P:Program}{E:Db}{A0:Nat->Prop}{w0:AW}{Qf:Ad->Bx->Prop}
theorem OB{ops:List Oper}{nt:Nat}:∀(q:List Oper) (l:List A2),EC P ops nt q=some l->l.length=q.length/\∀(i:Nat) (o:Oper),q[i]?=some o->∃ao,l[i]?=some ao/\CQ P ops nt o=some ao:=by
 intro q;induction q with
 |nil=>intro l h;simp[EC]at h;subst h;exact⟨rfl,fun i o h=>by simp at h⟩
 |cons o q ih=>
  intro l h
  simp only[EC]at h
  split at h
  ·rename_i a r h1 h2
   simp at h;subst h
   obtain⟨e1,e2⟩:=ih r h2
   refine⟨by simp[e1],fun i o' ho=> ?_⟩
   cases i with
   |zero=>simp at ho;subst ho;exact⟨a,rfl,h1⟩
   |succ i=>exact e2 i o' (by simpa using ho)
  cases h
theorem BZ{ops:Array Oper}{i:Nat}:i∈Region.ready .any ops listed↔i<ops.size/\listed.getD i true=false/\∃o,ops[i]?=some o/\∀e∈o.after.toList,Region.binds .any e=true->listed.getD e.on false=true:=by
 unfold Region.ready
 simp only[List.mem_filter,List.mem_range,Bool.and_eq_true,Bool.not_eq_true']
 constructor
 ·rintro⟨h1,h2,h3⟩
  refine⟨h1,h2,ops[i],Array.getElem?_eq_getElem h1,fun e he hb=> ?_⟩
  rw[Array.getElem?_eq_getElem h1]at h3
  simp only[Option.map_some,Option.getD_some]at h3
  have:=(Array.all_eq_true'.1 h3) e (Array.mem_toList_iff.1 he)
  simpa[hb]using this
 rintro⟨h1,h2,o,ho,h3⟩
 refine⟨h1,h2,?_⟩
 rw[ho]
 simp only[Option.map_some,Option.getD_some]
 refine Array.all_eq_true'.2 fun e he=> ?_
 cases hb:Region.binds .any e
 ·rfl
 simpa[hb]using h3 e (Array.mem_toList_iff.2 he) hb
def cnt(listed:Array Bool)(N:Nat):Nat:=(List.range N).countP fun k=> !listed.getD k false
theorem I1{i:Nat}(hi:i<listed.size)(hl:listed.getD i false=false):∀N,cnt (listed.setIfInBounds i true) N+(if i<N then 1 else 0)=cnt listed N:=by
 intro N;induction N with
 |zero=>simp[cnt]
 |succ N ih=>
  simp only[cnt,List.range_succ,List.countP_append,List.countP_singleton]at ih⊢
  have hg:∀k,(listed.setIfInBounds i true).getD k false=if k=i then true else listed.getD k false:=by
   intro k
   simp only[Array.getD_eq_getD_getElem?]
   by_cases h:k=i
   ·subst h;simp[hi]
   rw[if_neg h,Array.getElem?_setIfInBounds_ne (fun e=>h e.symm)]
  rw[hg N]
  generalize List.countP (fun k=> !(listed.setIfInBounds i true).getD k false) (List.range N)=c1 at*
  generalize List.countP (fun k=> !listed.getD k false) (List.range N)=c0 at*
  by_cases h:N=i
  ·subst h
   rw[if_neg (Nat.lt_irrefl _)]at ih
   rw[if_pos rfl,hl,if_pos (Nat.lt_succ_self _)]
   simp
   omega
  rw[if_neg h]
  by_cases h2:i<N
  ·rw[if_pos h2]at ih
   rw[if_pos (show i<N+1 from by omega)]
   omega
  rw[if_neg h2]at ih
  rw[if_neg (show¬i<N+1 from by omega)]
  omega
theorem Hh{N:Nat}(h:cnt listed N=0):∀k,k<N->listed.getD k false=true:=by
 intro k hk
 unfold cnt at h
 rw[List.countP_eq_zero]at h
 have:=h k (by simpa using hk)
 simpa using this
theorem U4{fr:Fr}{bx:Bx}{nx nx':Nat}(op:Ji)(hn:(AF E fr bx nx op).new=none):AF E fr bx nx' op=AF E fr bx nx op:=by
 cases op<;>first|rfl|skip
 case alloc z=>simp[AF]at hn
 case mkm kd=>simp[AF]at hn
 case box n x=>simp[AF]at hn
 case bsl e k len z parts=>cases hN:E.N e<;>simp[AF,hN]at hn
 case mks e k bytes z n c=>
  cases hv:ev E fr n<;>cases hu:ev E fr c<;>simp only[AF,hv,hu]at hn⊢
  simp at hn
theorem Vp{β:Bn->CK}{w:World}{B:Br}{N:Nat}{a:Act}{fr:Fr}(he:Cc P E A0 w0)(hm:Fp P A0 w0 β B N w){x:Operand}(hf:∀t,x= .tmp t->Ar A0 w0 β B w (Au fr t) (a.tmps.getD t undef)):I0 E A0 w0 β B w fr a x:=by
 intro ox hx
 cases x with
 |tmp t=>simp[AG]at hx;subst hx;exact hf t rfl
 |const v=>
  obtain⟨u,hu,rfl⟩:=Option.map_eq_some_iff.1 hx
  exact Ao.rep _ _ (Pr hu _ _)
 |global g=>
  simp[AG]at hx;subst hx
  simp only[ev]
  split
  ·rename_i m c hg
   exact Ao.rep _ _ (Ao.mono hm.below.size (fun g hg hA=>⟨⟨.inl hA.1,fun b c hb e=>(hm.base b c g hb e).1.elim (fun h=>absurd hg (Nat.not_lt.2 h)) hA.2⟩,hm.below.block g hg hA.2⟩) _ _ (he.G _ _ _ hg))
  trivial
 |func f=>simp[AG]at hx;subst hx;exact⟨[],rfl,rfl⟩
section
variable{fr fr':Fr}{bx:Bx}{nx:Nat}
theorem AD{x:Bf}(h:∀t∈D1 x,Au fr t=Au fr' t):ev E fr x=ev E fr' x:=by
 cases x with
 |t n=>exact h n (by simp[D1])
 |c v=>rfl
 |g n=>rfl
theorem QN:∀{l:List Bf},(∀t∈Zo l,Au fr t=Au fr' t)->Zb E fr l=Zb E fr' l:=by
 intro l;induction l with
 |nil=>intro _;rfl
 |cons x l ih=>
  intro h
  simp only[Zo,List.flatMap_cons,List.mem_append]at h
  simp only[Zb]
  rw[AD fun t ht=>h t (.inl ht),ih fun t ht=>h t (.inr ht)]
theorem Mw:∀{l:List (Nat×Nat×Bf)} {z:Ad},(∀t∈l.flatMap (fun p=>D1 p.2.2),Au fr t=Au fr' t)->Kf E fr z l=Kf E fr' z l:=by
 intro l;induction l with
 |nil=>intro z _;rfl
 |cons x l ih=>
  obtain⟨off,n,x⟩:=x
  intro z h
  simp only[List.flatMap_cons,List.mem_append]at h
  simp only[Kf]
  rw[AD (x:=x) fun t ht=>h t (.inl ht),ih fun t ht=>h t (.inr ht)]
theorem Lu:∀{l:List (Nat×Nat×Bf)},(∀t∈l.flatMap (fun p=>D1 p.2.2),Au fr t=Au fr' t)->Ha E fr len l=Ha E fr' len l:=by
 intro l;induction l with
 |nil=>intro _;rfl
 |cons x l ih=>
  obtain⟨off,n,x⟩:=x
  intro h
  simp only[List.flatMap_cons,List.mem_append]at h
  simp only[Ha]
  rw[AD (x:=x) fun t ht=>h t (.inl ht),ih fun t ht=>h t (.inr ht)]
theorem MI:∀{l:List (Nat×Bf)} {z:Ad},(∀t∈l.flatMap (fun p=>D1 p.2),Au fr t=Au fr' t)->Iy E fr z l=Iy E fr' z l:=by
 intro l;induction l with
 |nil=>intro z _;rfl
 |cons x l ih=>
  obtain⟨off,x⟩:=x
  intro z h
  simp only[List.flatMap_cons,List.mem_append]at h
  simp only[Iy]
  rw[AD (x:=x) fun t ht=>h t (.inl ht),ih fun t ht=>h t (.inr ht)]
theorem LD{k:Nat}:∀{l:List (Nat×Bf)},(∀t∈l.flatMap (fun p=>D1 p.2),Au fr t=Au fr' t)->FF E fr k len l=FF E fr' k len l:=by
 intro l;induction l with
 |nil=>intro _;rfl
 |cons x l ih=>
  obtain⟨off,x⟩:=x
  intro h
  simp only[List.flatMap_cons,List.mem_append]at h
  simp only[FF]
  rw[AD (x:=x) fun t ht=>h t (.inl ht),ih fun t ht=>h t (.inr ht)]
theorem Ku{k:Nat}:∀{l:List (Nat×Bf)},(∀t∈l.flatMap (fun p=>D1 p.2),Au fr t=Au fr' t)->EU E fr k len l=EU E fr' k len l:=by
 intro l;induction l with
 |nil=>intro _;rfl
 |cons x l ih=>
  obtain⟨off,x⟩:=x
  intro h
  simp only[List.flatMap_cons,List.mem_append]at h
  simp only[EU]
  rw[AD (x:=x) fun t ht=>h t (.inl ht),ih fun t ht=>h t (.inr ht)]
theorem M9:∀{l:List (List Sh×Bf)},(∀t∈l.flatMap (fun p=>D1 p.2),Au fr t=Au fr' t)->AQ E fr l=AQ E fr' l:=by
 intro l;induction l with
 |nil=>intro _;rfl
 |cons x l ih=>
  obtain⟨off,x⟩:=x
  intro h
  simp only[List.flatMap_cons,List.mem_append]at h
  simp only[AQ]
  rw[AD (x:=x) fun t ht=>h t (.inl ht),ih fun t ht=>h t (.inr ht)]
theorem Hj{d:Int}{x:Option Bf}(h:∀t∈(match x with|some y=>D1 y|none=>[]),Au fr t=Au fr' t):B7 E fr d x=B7 E fr' d x:=by
 cases x with
 |none=>rfl
 |some x=>simp only[B7];rw[AD (x:=x) fun t ht=>h t ht]
theorem Gs(op:Ji)(h:∀t∈NU op,Au fr t=Au fr' t):AF E fr bx nx op=AF E fr' bx nx op:=by
 cases op<;>simp only[NU,List.mem_append,List.not_mem_nil]at h<;>simp only[AF]<;>first
  |rfl
  |(rename_i x;rw[AD (x:=x) h];done)
  |skip
 case pick c a b=>rw[AD (x:=c) fun t ht=>h t (.inl (.inl ht)),AD (x:=a) fun t ht=>h t (.inl (.inr ht)),AD (x:=b) fun t ht=>h t (.inr ht)]
 case build z l=>rw[Mw h,Lu h]
 case bsl e k len z l=>rw[MI h,LD h,Ku h]
 case bin op x y=>rw[AD (x:=x) fun t ht=>h t (.inl ht),AD (x:=y) fun t ht=>h t (.inr ht)]
 case binb op x y=>rw[AD (x:=x) fun t ht=>h t (.inl ht),AD (x:=y) fun t ht=>h t (.inr ht)]
 case eqa neg s x y=>rw[AD (x:=x) fun t ht=>h t (.inl ht),AD (x:=y) fun t ht=>h t (.inr ht)]
 case mkf fn l=>rw[QN h]
 case idx k x y=>rw[AD (x:=x) fun t ht=>h t (.inl ht),AD (x:=y) fun t ht=>h t (.inr ht)]
 case idxA k n x y=>rw[AD (x:=x) fun t ht=>h t (.inl ht),AD (x:=y) fun t ht=>h t (.inr ht)]
 case sl k x lo hi=>
  rw[AD (x:=x) fun t ht=>h t (.inl (.inl ht)),Hj fun t ht=>h t (.inl (.inr ht))]
  have e:∀d,B7 E fr d hi=B7 E fr' d hi:=fun d=>Hj fun t ht=>h t (.inr ht)
  simp only[e]
 case clip k x y z=>rw[AD (x:=x) fun t ht=>h t (.inl (.inl ht)),AD (x:=y) fun t ht=>h t (.inl (.inr ht)),AD (x:=z) fun t ht=>h t (.inr ht)]
 case call f l=>rw[AD (x:=f) fun t ht=>h t (.inl ht),M9 fun t ht=>h t (.inr ht)]
 case mm mx x y=>rw[AD (x:=x) fun t ht=>h t (.inl ht),AD (x:=y) fun t ht=>h t (.inr ht)]
 case mks e k bytes z x y=>rw[AD (x:=x) fun t ht=>h t (.inl ht),AD (x:=y) fun t ht=>h t (.inr ht)]
 case mget kd ok z x y=>rw[AD (x:=x) fun t ht=>h t (.inl ht),AD (x:=y) fun t ht=>h t (.inr ht)]
 case mm3 mx x y z=>rw[AD (x:=x) fun t ht=>h t (.inl (.inl ht)),AD (x:=y) fun t ht=>h t (.inl (.inr ht)),AD (x:=z) fun t ht=>h t (.inr ht)]
 case seq neg x y=>rw[AD (x:=x) fun t ht=>h t (.inl ht),AD (x:=y) fun t ht=>h t (.inr ht)]
theorem GW{g:Option (Nat×Bool)}(h:∀t∈NY g,Au fr t=Au fr' t):A9 fr g=A9 fr' g:=by
 cases g with
 |none=>rfl
 |some p=>obtain⟨t,b⟩:=p;simp only[A9];rw[h t (by simp[NY])]
theorem Rf(s:As)(l:List (List Sh×Bf))(vs:List Ad):(Ct bx s l vs).new=none:=by simp only[Ct];split<;>rfl
theorem Ph(op:Ji)(hp:(AF E fr bx nx op).pre):(∃c,(AF E fr bx nx op).new=some c)↔NT op=true:=by
 cases op<;>simp only[NT,AF]at hp⊢ <;>first
  |(simp;done)
  |skip
 case pick=>split<;>simp_all
 case bsl=>split<;>simp_all
 case load=>(repeat' split)<;>simp_all
 case bin=>(repeat' split)<;>simp_all[ML]
 case binb=>(repeat' split)<;>simp_all
 case eqa=>(repeat' split)<;>simp_all
 case un=>(repeat' split)<;>simp_all
 case conv=>(repeat' split)<;>simp_all
 case fld=>(repeat' split)<;>simp_all
 case idx=>(repeat' split)<;>simp_all
 case idxA=>(repeat' split)<;>simp_all
 case sl=>(repeat' split)<;>simp_all
 case ext=>(repeat' split)<;>simp_all
 case call=>(repeat' split)<;>simp_all[Rf]
 case len=>simp only[T0]at*;(repeat' split)<;>simp_all
 case mm=>(repeat' split)<;>simp_all
 case nilc=>(repeat' split)<;>simp_all
 case mget=>(repeat' split)<;>simp_all
 case mks=>(repeat' split)<;>simp_all
 case fv=>(repeat' split)<;>simp_all
 case mm3=>(repeat' split)<;>simp_all
 case b2s=>(repeat' split)<;>simp_all
 case seq=>(repeat' split)<;>simp_all
 case clip=>(repeat' split)<;>simp_all
 case mif=>(repeat' split)<;>simp_all
end
abbrev NoI:Bn->TypeId->Nat->Nat->(Nat->Nat->Ad)->Prop:=fun _ _ _ _ _=>False
theorem Qg{bx:Bx}{R:Bn->TypeId->Nat->Nat->(Nat->Nat->Ad)->Prop}(h:Fv bx s pz args vs caps R NoI):
  ∃b e k m c,Fv bx s pz args vs caps (fun b' e' k' m' c'=>(b,e,k,m,c)=(b',e',k',m',c')) NoI/\R b e k m c:=by
 unfold Fv at h⊢
 split at h
 ·split at h
  ·obtain⟨h1,h2,h3⟩:=h
   split at h3
   ·exact⟨_,_,_,_,_,⟨h1,h2,h3.1,rfl⟩,h3.2⟩
   ·exact h3.2.2.2.elim
   exact h3.elim
  exact h.elim
 exact h.elim
theorem KO{bx:Bx}{R R' I I':Bn->TypeId->Nat->Nat->(Nat->Nat->Ad)->Prop}(h:Fv bx s pz args vs caps R I)(hm:∀b e k m c,R b e k m c->R' b e k m c)(hi:∀b e k m c,I b e k m c->I' b e k m c):Fv bx s pz args vs caps R' I':=by
 unfold Fv at h⊢
 split at h
 ·split at h
  ·obtain⟨h1,h2,h3⟩:=h
   split at h3
   ·exact⟨h1,h2,h3.1,hm _ _ _ _ _ h3.2⟩
   ·exact⟨h1,h2,h3.1,h3.2.1,h3.2.2.1,hi _ _ _ _ _ h3.2.2.2⟩
   exact h3.elim
  exact h.elim
 exact h.elim
theorem MQ{bx:Bx}{p:Bn×TypeId×Nat×Nat×(Nat->Nat->Ad)}(h:Fv bx s pz args vs caps (fun b e k m c=>p=(b,e,k,m,c)) NoI):(∃l r,Gc pz vs=some (l,p.1,r))/\∃e k n c,Ab bx p.1=some (.row e k n c):=by
 unfold Fv at h
 split at h
 ·rename_i l b r hb
  split at h
  ·rename_i e k n c hbx
   obtain⟨_,_,h3⟩:=h
   split at h3
   ·obtain⟨_,h3⟩:=h3;subst h3;exact⟨⟨l,r,hb⟩,e,k,n,c,hbx⟩
   ·exact h3.2.2.2.elim
   exact h3.elim
  exact h.elim
 exact h.elim
inductive CY(E:Db)(ao:A2)(fr:Fr)(bx:Bx)(nx:Nat)(stk:List Av):Fr->Bx->Nat->List Av->Prop
 |skip:A9 fr ao.guard=some true->CY E ao fr bx nx stk (Ai fr ao.dst (.tup .nil)) bx nx stk
 |soft:A9 fr ao.guard=some false->D6 ao.op=true->(AF E fr bx nx ao.op).pre->CY E ao fr bx nx stk (Ai fr ao.dst (AF E fr bx nx ao.op).v) (CX nx (AF E fr bx nx ao.op).new bx) (Da nx (AF E fr bx nx ao.op).new) stk
 |store {m a x b off c}:A9 fr ao.guard=some false->ao.op= .store m a x->ev E fr a= .ptr b off->Ab bx b=some (.cells c)->Bg m (ev E fr x)->C3 (cellsOf (ev E fr x))=true->off+m<=Bb c->
   CC E (Ai fr ao.dst .und) (Aj bx b (.cells (Dh c off (cellsOf (ev E fr x))))) ao.re->CY E ao fr bx nx stk (Ai fr ao.dst .und) (Aj bx b (.cells (Dh c off (cellsOf (ev E fr x))))) nx stk
 |storeR {m a x b i off e k m' c}:A9 fr ao.guard=some false->ao.op= .store m a x->ev E fr a= .rptr b i off->Ab bx b=some (.row e k m' c)->Bg m (ev E fr x)->C3 (cellsOf (ev E fr x))=true->A4 (ev E fr x)=true->off+m<=k->
   CC E (Ai fr ao.dst .und) (Aj bx b (.row e k m' fun i' j'=>if i'=i/\off<=j'/\j'<off+m then Az (cellsOf (ev E fr x)) (j'-off)else c i' j')) ao.re->
   CY E ao fr bx nx stk (Ai fr ao.dst .und) (Aj bx b (.row e k m' fun i' j'=>if i'=i/\off<=j'/\j'<off+m then Az (cellsOf (ev E fr x)) (j'-off)else c i' j')) nx stk
 |appN {e k bytes x y k' m c'}:A9 fr ao.guard=some false->ao.op= .app e k bytes x y->E.N e=false->CB bx (ev E fr y)=some (k',m,c')->(k'=some k\/k'=none)->0<k->ev E fr x= .nils->m<=maxLen->m*bytes<=140737488355328->
   CC E (Ai fr ao.dst (.own nx)) ((nx,.one (.row e k m c'))::bx) ao.re->CY E ao fr bx nx stk (Ai fr ao.dst (.own nx)) ((nx,.one (.row e k m c'))::bx) (nx+1) stk
 |appT {e k bytes x y k' m c' n' c}:A9 fr ao.guard=some false->ao.op= .app e k bytes x y->E.N e=false->CB bx (ev E fr y)=some (k',m,c')->(k'=some k\/k'=none)->0<k->ev E fr x= .tv k n' c->0<m->n'+m<=maxLen->(n'+m)*bytes<=140737488355328->
   CC E (Ai fr ao.dst (.own nx)) ((nx,.one (.row e k (n'+m) fun i j=>if i<n' then c i j else c' (i-n') j))::bx) ao.re->CY E ao fr bx nx stk (Ai fr ao.dst (.own nx)) ((nx,.one (.row e k (n'+m) fun i j=>if i<n' then c i j else c' (i-n') j))::bx) (nx+1) stk
 |appO {e k bytes x y k' m c' b n' c}:A9 fr ao.guard=some false->ao.op= .app e k bytes x y->E.N e=false->CB bx (ev E fr y)=some (k',m,c')->(k'=some k\/k'=none)->0<k->ev E fr x= .own b->Ab bx b=some (.row e k n' c)->n'+m<=maxLen->(n'+m)*bytes<=140737488355328->
   CC E (Ai (AK b .und fr) ao.dst (.own b)) (Aj (AJ b .und bx) b (.row e k (n'+m) fun i j=>if i<n' then c i j else c' (i-n') j)) ao.re->
   CY E ao fr bx nx stk (Ai (AK b .und fr) ao.dst (.own b)) (Aj (AJ b .und bx) b (.row e k (n'+m) fun i j=>if i<n' then c i j else c' (i-n') j)) nx (AC b .und stk)
 |appM {e k bytes x y b' e'' m c' b n' c}:A9 fr ao.guard=some false->ao.op= .app e k bytes x y->E.N e=true->ev E fr y= .own b'->Ab bx b'=some (.rown e'' k m c')->ev E fr x= .own b->Ab bx b=some (.rown e k n' c)->n'+m<=maxLen->(n'+m)*bytes<=140737488355328->
   CC E (Ai (AK b .und fr) ao.dst (.own b)) (Aj (AJ b .und bx) b (.rown e k (n'+m) fun i j=>Bc b .und (if i<n' then c i j else c' (i-n') j))) ao.re->
   CY E ao fr bx nx stk (Ai (AK b .und fr) ao.dst (.own b)) (Aj (AJ b .und bx) b (.rown e k (n'+m) fun i j=>Bc b .und (if i<n' then c i j else c' (i-n') j))) nx (AC b .und stk)
 |msetZ {kd m k v b z f}:A9 fr ao.guard=some false->ao.op= .mset kd m k v->ev E fr m= .mapb b->ev E fr k= .int kd z->Ab bx b=some (.mz kd f)->H5 (Ab bx) b->
   CC E (Ai fr ao.dst .und) (Aj bx b (.mz kd fun j=>if j=z then ev E fr v else f j)) ao.re->
   CY E ao fr bx nx stk (Ai fr ao.dst .und) (Aj bx b (.mz kd fun j=>if j=z then ev E fr v else f j)) nx stk
 |calN {f args id caps s p e k m c n}:A9 fr ao.guard=some false->ao.op= .calle f args->ev E fr f= .func (.func id) caps->E.S id=some s->Ct bx s args (AQ E fr args++BK caps)=⟨p,.view k m c,n⟩->BA caps=true->p->s.own=some e->0<k->
   CC E (Ai fr ao.dst (.own nx)) ((nx,.one (.row e k m c))::bx) ao.re->CY E ao fr bx nx stk (Ai fr ao.dst (.own nx)) ((nx,.one (.row e k m c))::bx) (nx+1) stk
 |calX {f args id caps pz s p}:A9 fr ao.guard=some false->ao.op= .calle f args->ev E fr f= .func (.func id) caps->E.S id=none->E.X id=some (pz,s)->Fv bx s pz args (AQ E fr args) caps (fun b e k m c=>p=(b,e,k,m,c)) NoI->
   CC E (Ai (AK p.1 .und fr) ao.dst (.own p.1)) (Aj (AJ p.1 .und bx) p.1 (.row p.2.1 p.2.2.1 p.2.2.2.1 p.2.2.2.2)) ao.re->
   CY E ao fr bx nx stk (Ai (AK p.1 .und fr) ao.dst (.own p.1)) (Aj (AJ p.1 .und bx) p.1 (.row p.2.1 p.2.2.1 p.2.2.2.1 p.2.2.2.2)) nx (AC p.1 .und stk)
 |mset {kd m k v b z has f}:A9 fr ao.guard=some false->ao.op= .mset kd m k v->ev E fr m= .mapb b->ev E fr k= .int kd z->Ab bx b=some (.mp kd has f)->H5 (Ab bx) b->
   CC E (Ai fr ao.dst .und) (Aj bx b (.mp kd (fun j=>if j=z then true else has j) fun j=>if j=z then ev E fr v else f j)) ao.re->
   CY E ao fr bx nx stk (Ai fr ao.dst .und) (Aj bx b (.mp kd (fun j=>if j=z then true else has j) fun j=>if j=z then ev E fr v else f j)) nx stk
theorem Zs{n:Nat}:∀(d:Nat) (m:Nat) (l:List A2) (K:List BY) (stk:List Av) (res:List B6) (fr:Fr) (bx:Bx) (nx:Nat),m<=n->d<=l.length->run E Qf m (.ops d l::K) stk res fr bx nx->
  ∃(FR:Nat->Fr) (BX:Nat->Bx) (NX:Nat->Nat) (ST:Nat->List Av),FR 0=fr/\BX 0=bx/\NX 0=nx/\ST 0=stk/\
   (∀i o,i<d->l[i]?=some o->CY E o (FR i) (BX i) (NX i) (ST i) (FR (i+1)) (BX (i+1)) (NX (i+1)) (ST (i+1)))/\
   ∃m',m'<=n/\run E Qf m' (.ops 0 (l.drop d)::K) (ST d) res (FR d) (BX d) (NX d):=by
 intro d
 induction d with
 |zero=>intro m l K stk res fr bx nx hm _ h;exact⟨fun _=>fr,fun _=>bx,fun _=>nx,fun _=>stk,rfl,rfl,rfl,rfl,fun i o hi=>by omega,m,hm,h⟩
 |succ d ih=>
  intro m l K stk res fr bx nx hm hd h
  cases l with
  |nil=>simp at hd
  |cons o l=>
   cases m with
   |zero=>simp[run]at h
   |succ m=>
    have hcons:∀fr1 bx1 nx1 stk1,CY E o fr bx nx stk fr1 bx1 nx1 stk1->run E Qf m (.ops d l::K) stk1 res fr1 bx1 nx1->∃(FR:Nat->Fr) (BX:Nat->Bx) (NX:Nat->Nat) (ST:Nat->List Av),FR 0=fr/\BX 0=bx/\NX 0=nx/\ST 0=stk/\
      (∀i o',i<d+1->(o::l)[i]?=some o'->CY E o' (FR i) (BX i) (NX i) (ST i) (FR (i+1)) (BX (i+1)) (NX (i+1)) (ST (i+1)))/\
      ∃m',m'<=n/\run E Qf m' (.ops 0 ((o::l).drop (d+1))::K) (ST (d+1)) res (FR (d+1)) (BX (d+1)) (NX (d+1)):=by
     intro fr1 bx1 nx1 stk1 h0 hrun
     obtain⟨FR,BX,NX,ST,e1,e2,e3,e4,hst,m',hm',hr⟩:=ih m l K stk1 res _ _ _ (by omega) (by simpa using hd) hrun
     refine⟨fun|0=>fr|i+1=>FR i,fun|0=>bx|i+1=>BX i,fun|0=>nx|i+1=>NX i,fun|0=>stk|i+1=>ST i,rfl,rfl,rfl,rfl,fun i o' hi ho=> ?_,m',hm',hr⟩
     cases i with
     |zero=>simp at ho;subst ho;simp only[e1,e2,e3,e4];exact h0
     |succ i=>exact hst i o' (by omega) (by simpa using ho)
    cases hskip:A9 fr o.guard with
    |none=>simp only[run,hskip]at h
    |some s=>
     cases s with
     |true=>
      simp only[run,hskip]at h
      exact hcons _ _ _ _ (.skip hskip) h
     |false=>
      have soft:∀op,o.op=op->D6 op=true->((AF E fr bx nx op).pre/\match o.br with
        |false=>run E Qf m (.ops d l::K) stk res (Ai fr o.dst (AF E fr bx nx op).v) (CX nx (AF E fr bx nx op).new bx) (Da nx (AF E fr bx nx op).new)
        |true=>match(AF E fr bx nx op).v with
         | .bool t=>(t=true->run E Qf m (.ops d l::K) stk res (Ai fr o.dst (.bool true)) (CX nx (AF E fr bx nx op).new bx) (Da nx (AF E fr bx nx op).new))/\(t=false->run E Qf m (.ops d l::K) stk res (Ai fr o.dst (.bool false)) (CX nx (AF E fr bx nx op).new bx) (Da nx (AF E fr bx nx op).new))
         |_=>False)->∃(FR:Nat->Fr) (BX:Nat->Bx) (NX:Nat->Nat) (ST:Nat->List Av),FR 0=fr/\BX 0=bx/\NX 0=nx/\ST 0=stk/\
      (∀i o',i<d+1->(o::l)[i]?=some o'->CY E o' (FR i) (BX i) (NX i) (ST i) (FR (i+1)) (BX (i+1)) (NX (i+1)) (ST (i+1)))/\
      ∃m',m'<=n/\run E Qf m' (.ops 0 ((o::l).drop (d+1))::K) (ST (d+1)) res (FR (d+1)) (BX (d+1)) (NX (d+1)):=by
       rintro op rfl hs ⟨hp,h'⟩
       refine hcons _ _ _ _ (.soft hskip hs hp) ?_
       cases hbr:o.br
       ·simp only[hbr]at h';exact h'
       simp only[hbr]at h'
       split at h'
       ·rename_i t ht
        rw[ht]
        cases t
        ·exact h'.2 rfl
        exact h'.1 rfl
       exact h'.elim
      cases hop:o.op with
      |store m0 a x=>
       simp only[run,hskip,hop,FG]at h
       split at h
       ·rename_i b off hv
        split at h
        ·rename_i c hb
         obtain⟨q1,q2,q3,q4,h⟩:=h
         exact hcons _ _ _ _ (.store hskip hop hv hb q1 q2 q3 q4) h
        ·exact h.elim
        exact h.elim
       ·rename_i b i off hv
        split at h
        ·rename_i e k m' c hb
         obtain⟨q1,q2,q3,q4,q5,h⟩:=h
         exact hcons _ _ _ _ (.storeR hskip hop hv hb q1 q2 q3 q4 q5) h
        exact h.elim
       exact h.elim
      |app e k bytes x y=>
       simp only[run,hskip,hop,FG]at h
       cases hN:E.N e with
       |false=>
        simp only[hN]at h
        split at h
        ·exact h.elim
        rename_i k' m' c' hel
        obtain⟨q1,q2,h⟩:=h
        split at h
        ·rename_i hv
         obtain⟨q3,q4,q5,h⟩:=h
         exact hcons _ _ _ _ (.appN hskip hop hN hel q1 q2 hv q3 q4 q5) h
        ·rename_i b hv
         split at h
         ·rename_i e' k'' n' c hb
          obtain⟨rfl,rfl,q3,q4,q5,h⟩:=h
          exact hcons _ _ _ _ (.appO hskip hop hN hel q1 q2 hv hb q3 q4 q5) h
         exact h.elim
        ·rename_i k'' n' c hv
         obtain⟨rfl,q3,q4,q5,q6,h⟩:=h
         exact hcons _ _ _ _ (.appT hskip hop hN hel q1 q2 hv q3 q4 q5 q6) h
        exact h.elim
       |true=>
        simp only[hN]at h
        split at h
        ·rename_i b' hy
         split at h
         ·rename_i e'' k' m c' hb'
          obtain⟨rfl,h⟩:=h
          split at h
          ·rename_i b hv
           split at h
           ·rename_i e' k'' n' c hb
            obtain⟨rfl,rfl,q3,q4,q5,h⟩:=h
            exact hcons _ _ _ _ (.appM hskip hop hN hy hb' hv hb q3 q4 q5) h
           exact h.elim
          exact h.elim
         exact h.elim
        exact h.elim
      |calle f args=>
       simp only[run,hskip,hop,FG]at h
       split at h
       ·rename_i id caps hv
        split at h
        ·rename_i s hs
         cases hsp:Ct bx s args (AQ E fr args++BK caps)with
         |mk p v nn=>
         simp only[hsp]at h
         obtain⟨⟨q1,q2⟩,h⟩:=h
         split at h
         ·rename_i e k m c hse
          obtain⟨q3,q4,h⟩:=h
          exact hcons _ _ _ _ (.calN hskip hop hv hs hsp q1 q2 hse q3 q4) h
         exact h.elim
        rename_i hs
        split at h
        ·rename_i pz s hx
         obtain⟨b,e,k,m',c,h1,h2,h3⟩:=Qg h
         exact hcons _ _ _ _ (.calX (p:=(b,e,k,m',c)) hskip hop hv hs hx h1 h2) h3
        exact h.elim
       exact h.elim
      |mset kd m0 k v=>
       simp only[run,hskip,hop,FG]at h
       split at h
       ·rename_i b kk z hv hk
        split at h
        ·rename_i kd' has f hb
         obtain⟨rfl,rfl,q2,q3,h⟩:=h
         exact hcons _ _ _ _ (.mset hskip hop hv hk hb (Fx q2) q3) h
        ·rename_i kd' f hb
         obtain⟨rfl,rfl,q2,q3,h⟩:=h
         exact hcons _ _ _ _ (.msetZ hskip hop hv hk hb (Fx q2) q3) h
        exact h.elim
       exact h.elim
      |clr k z x=>simp only[run,hskip,hop,FG,AF]at h;exact h.1.elim
      |pan x=>simp only[run,hskip,hop,FG,AF]at h;exact h.1.elim
      |dfr x=>simp only[run,hskip,hop,FG,AF]at h;exact h.1.elim
      |_=>simp only[run,hskip,hop,FG]at h;exact soft _ hop rfl h
end Go.Proofs.YtlieoghhkioflaaGreat
