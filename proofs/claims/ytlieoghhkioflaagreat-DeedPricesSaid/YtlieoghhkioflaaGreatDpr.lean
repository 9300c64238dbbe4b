/- One deed on pieces, plain. No condition. -/
import Derived.Test.YtlieoghhkioflaaGreatDpz
import Derived.Test.YtlieoghhkioflaaGreatDpt
set_option linter.unusedSimpArgs false
set_option linter.unusedVariables false
namespace Go.Proofs.YtlieoghhkioflaaGreat
open Go Go.RowKit
variable{b:Bk}{x:De}{N:Nat}{P:Pz}{r:Ro}
theorem Rp.congr{b':Bk}(h:BB N P)(hr:Rp P b)(h1:∀m,m<N->b'.ow.2 m=b.ow.2 m)(h2:∀m,m<N->b'.le.2 m=b.le.2 m)(h3:∀m,m<N->b'.un.2 m=b.un.2 m):Rp P b':=by
 refine⟨fun i hi m m1 m2=> ?_,fun i hi m m1 m2=> ?_,fun i hi m m1 m2 m3=> ?_⟩
 all_goals
  have hN:=(h.rng hi).2
 ·rw[h1 m (by omega)];exact hr.ow i hi m m1 m2
 ·rw[h2 m (by omega)];exact hr.le i hi m m1 m2
 rw[h3 m (by omega)];exact hr.un i hi m m1 m2 m3
noncomputable def EN(P:Pz)(b:Bk)(x:De):Pz:=
 if(b.de.2 x.fro.toNat||b.de.2 x.tow.toNat)=true then P
 else if x.kind=3 then EB x.fro (fun i=>(hl (B4 b x) i).who) (A3 b x) (CD P x.fro P.1) (B4 b x).length
 else if Bf (H9 b x)=true then
  (if x.kind=4 then(if Bf (OJ b x)=true then Ms (Cf P x.turn) (Ch (Cf P x.turn) x.turn) (CO (Cf P x.turn) x.turn) x.tow x.til else Cf P x.turn)
  else setO (Cf P x.turn) (Ch (Cf P x.turn) x.turn) (CO (Cf P x.turn) x.turn) (if x.kind=1 then x.tow else 0))
 else Cf P x.turn
theorem TO(hN:(N:Int)=1440*r.days)(h:BB N P)(hr:Rp P b)(hx:D9 r x)(hk:x.kind≠3):BB N (EN P b x)/\Rp (EN P b x) (Fp b x):=by
 have hm:GE r x:=by
  rcases hx.2.2.2.2.2.2 with q|q|q|q
  ·exact q.2.2.1
  ·exact q.2.1
  ·exact absurd q.1 hk
  exact q.2.2.1
 have h4:x.kind=1\/x.kind=2\/x.kind=4:=by
  rcases hx.2.2.2.2.2.2 with q|q|q|q
  ·exact .inl q.1
  ·exact .inr (.inl q.1)
  ·exact absurd q.1 hk
  exact .inr (.inr q.1)
 obtain⟨m1,m2,m3⟩:=hm
 have ho:=KH h m1 m2 (by omega)
 have hro:Rp (Cf P x.turn) b:=Js (Js hr _) _
 unfold EN Fp B7
 by_cases c1:(b.de.2 x.fro.toNat||b.de.2 x.tow.toNat)=true
 ·rw[if_pos c1,if_pos c1,if_neg (by omega)];exact⟨h,hr⟩
 rw[if_neg c1,if_neg c1,if_neg hk]
 by_cases c2:H9 b x
 ·rw[AA c2,if_pos rfl,if_pos rfl]
  by_cases c3:x.kind=4
  ·rw[if_pos c3,if_pos c3]
   by_cases c4:OJ b x
   ·rw[AA c4,if_pos rfl,if_pos rfl,if_pos rfl]
    unfold Ps
    rw[if_neg hk,if_neg (by omega),if_neg (by omega),if_pos c3]
    exact⟨ho.ok.same rfl (K4 _ _ _ _ _),VU ho hro _ _⟩
   rw[Aw c4,if_neg Bool.false_ne_true,if_neg Bool.false_ne_true,if_neg (by omega)];exact⟨ho.ok,hro⟩
  rw[if_neg c3,if_neg c3,if_pos rfl]
  unfold Ps
  rw[if_neg hk]
  by_cases c5:x.kind=1
  ·rw[if_pos c5,if_pos c5]
   exact⟨ho.ok.same rfl (Fd _ _ _ _),P3 ho hro _⟩
  rw[if_neg c5,if_neg c5,if_pos (by omega)]
  exact⟨ho.ok.same rfl (Fd _ _ _ _),P3 ho hro _⟩
 rw[Aw c2,if_neg Bool.false_ne_true,if_neg Bool.false_ne_true,if_neg (by omega)]
 exact⟨ho.ok,hro⟩
theorem J3(de:Nat->Bool)(l:Nat×(Nat->Hr)):∀k,∀h∈CZ de l k,de h.who.toNat=false
 |0,h,hh=>by cases hh
 |k+1,h,hh=>by
  rw[CZ]at hh
  split at hh
  ·exact J3 de l k h hh
  rename_i hd
  rcases List.mem_append.1 hh with q|q
  ·exact J3 de l k h q
  rw[List.mem_singleton]at q;rw[q];simpa using hd
theorem NB(L:List Hr)(i:Nat):(i<L.length/\hl L i∈L)\/(L.length<=i/\hl L i=⟨0,0⟩):=by
 unfold hl
 by_cases e:i<L.length
 ·exact .inl ⟨e,by rw[List.getD_eq_getElem?_getD,List.getElem?_eq_getElem e];exact List.getElem_mem e⟩
 exact .inr ⟨by omega,by rw[List.getD_eq_getElem?_getD,List.getElem?_eq_none (by omega)];rfl⟩
theorem OB(h1:1<=x.fro)(i:Nat):(hl (B4 b x) i).who≠x.fro:=by
 rcases NB (B4 b x) i with⟨_,hm⟩|⟨_,hm⟩
 ·generalize hl (B4 b x) i=h at*
  unfold B4 at hm
  split at hm
  ·rw[List.mem_singleton]at hm;rw[hm];show(0:Int)≠x.fro;omega
  have:=J3 _ _ _ h hm
  intro k
  rw[k]at this
  unfold LW at this
  rw[if_pos rfl]at this;cases this
 rw[hm];show(0:Int)≠x.fro;omega
theorem Up(h:GZ x.fro x.heirs):1<=(B4 b x).length/\∀i,i<(B4 b x).length->1<=(hl (B4 b x) i).parts:=by
 have hp:∀h'∈B4 b x,1<=h'.parts:=fun h' hm=>by
  unfold B4 at hm
  split at hm
  ·rw[List.mem_singleton]at hm;rw[hm];exact Int.le_refl _
  obtain⟨i,i1,rfl⟩:=I8 _ _ _ h' hm
  exact(h.2.2 i i1).2.2.2.1
 refine⟨?_,fun i hi=> ?_⟩
 ·unfold B4
  split
  ·exact Nat.le_refl _
  rename_i hz;omega
 rcases NB (B4 b x) i with⟨_,hm⟩|⟨hq,_⟩
 ·exact hp _ hm
 omega
theorem SA(h:BB N P)(hr:Rp P b)(hb:US b N)(hx:D9 r x)(hk:x.kind=3):BB N (EN P b x)/\Rp (EN P b x) (Fp b x):=by
 have hq:GZ x.fro x.heirs/\x.turn.fro=0/\x.turn.til=0:=by
  rcases hx.2.2.2.2.2.2 with q|q|q|q
  ·omega
  ·omega
  ·exact⟨q.2.1,q.2.2.2.1,q.2.2.2.2.1⟩
  omega
 obtain⟨hH,t1,t2⟩:=hq
 have hf:=hx.2.2.2.2.1
 unfold EN Fp B7
 by_cases c1:(b.de.2 x.fro.toNat||b.de.2 x.tow.toNat)=true
 ·rw[if_pos c1,if_pos c1,if_neg (by omega)];exact⟨h,hr⟩
 have c2:H9 b x:=fun m a c=>by omega
 rw[if_neg c1,if_neg c1,if_pos hk,AA c2,if_pos rfl,if_neg (show¬x.kind=4 by omega),if_pos rfl]
 unfold Ps
 rw[if_pos hk]
 obtain⟨p1,p2⟩:=Up (b:=b) hH
 have hE:BB N (CD P x.fro P.1):=h.same rfl fun k=>by
  show(if k<P.1/\(P.2 k).lent=x.fro then{P.2 k with lent:=0,til:=0}else P.2 k).turn=_
  split<;>rfl
 have hRE:=Tk hr x.fro
 have hs0:0<AN (fun i=>(hl (B4 b x) i).parts) (B4 b x).length:=by
  have:=(I3 (fun i=>(hl (B4 b x) i).parts) (B4 b x).length fun i hi=>by have:=p2 i hi;omega).2 0 (by omega)
  have:=p2 0 (by omega)
  omega
 have hbN:b.ow.1=N:=hb.1
 have hsum:AN (A3 b x) (B4 b x).length=EK b.ow.2 x.fro N:=by
  have:=NF (n:=(Ik b x b.ow.1:Nat)) (p:=fun i=>(hl (B4 b x) i).parts) (k:=(B4 b x).length) (by omega) hs0
  rw[show(EK b.ow.2 x.fro N)=Ik b x b.ow.1 by rw[hbN];rfl]
  exact this
 have hnn:∀i,i<(B4 b x).length->0<=A3 b x i:=fun i hi=>Pt (by omega) (by have:=p2 i hi;omega) hs0
 have hW:∀m,dW b.ow.2 x.fro (fun j=>(hl (B4 b x) (EX (A3 b x) (B4 b x).length j)).who) 0 m=b.ow.2 m:=fun m=>by unfold dW;rw[if_neg (by omega)]
 obtain⟨c,c3,c4,c5⟩:=Ic (n:=b.ow.1) (le:=(b.le.1,fun m=>if b.le.2 m=x.fro then 0 else b.le.2 m)) (un:=b.un) (de:=b.de) (f:=x.fro) (who:=fun i=>(hl (B4 b x) i).who) (each:=A3 b x) (g:=fun j=>(hl (B4 b x) (EX (A3 b x) (B4 b x).length j)).who) (m:=(B4 b x).length) (fun j=>OB hf _) hE
  (hRE.congr hE (fun m _=>hW m) (fun _ _=>rfl) fun _ _=>rfl) hnn hsum (fun i hi j j1 j2=>by
   have:EX (A3 b x) (B4 b x).length j=i:=Db hi j2 fun q hq=>by
    have:=EP (f:=A3 b x) (len:=(B4 b x).length) hnn (show q+1<=i by omega) (by omega)
    omega
   rw[this]) (B4 b x).length (Nat.le_refl _)
 refine⟨c4,c5.congr c4 (fun m hm=> ?_) (fun m hm=>rfl) fun m hm=>rfl⟩
 show(if b.ow.2 m=x.fro then(hl (B4 b x) (EX (A3 b x) (B4 b x).length (Ik b x m))).who else b.ow.2 m)=dW b.ow.2 x.fro (fun j=>(hl (B4 b x) (EX (A3 b x) (B4 b x).length j)).who) c m
 unfold dW
 by_cases e:b.ow.2 m=x.fro
 ·have e2:EK b.ow.2 x.fro m<c:=by
   have h6:=Qn b.ow.2 x.fro m
   rw[if_pos e]at h6
   have h7:=Sa b.ow.2 x.fro (show m+1<=N by omega)
   omega
  rw[if_pos e,if_pos ⟨e,e2⟩];rfl
 rw[if_neg e,if_neg fun k=>e k.1]
noncomputable def Ff(r:Ro)(l:Nat->De):Nat->Pz
 |0=>ZL r
 |k+1=>EN (Ff r l k) (A1 r l k) (l k)
theorem Hn{l:Nat->De}(h:F5 r):∀k,(∀i,i<k->D9 r (l i))->BB (Cr r) (Ff r l k)/\Rp (Ff r l k) (A1 r l k)
 |0,_=>⟨Xp h,AaO h⟩
 |k+1,hl=>by
  obtain⟨h1,h2⟩:=Hn h k fun i hi=>hl i (by omega)
  have hN:((Cr r:Nat):Int)=1440*r.days:=by unfold Cr;have:=h.1;omega
  rw[Ff,A1]
  by_cases e:(l k).kind=3
  ·exact SA h1 h2 (HI r l k) (hl k (by omega)) e
  exact TO hN h1 h2 (hl k (by omega)) e
end Go.Proofs.YtlieoghhkioflaaGreat
namespace Go.Proofs.YtlieoghhkioflaaGreat
variable{r:Ro}
abbrev XG:=Nat×(Nat->Ho)
def IY(l:XG)(m w:Int):XG:=if 0<l.1/\(l.2 (l.1-1)).who=w then(l.1,fun i=>if i=l.1-1 then⟨(l.2 (l.1-1)).who,⟨(l.2 (l.1-1)).turn.fro,m+1⟩⟩else l.2 i)else(l.1+1,fun i=>if i<l.1 then l.2 i else⟨w,⟨m,m+1⟩⟩)
def AF(f:Nat->Int):Nat->XG
 |0=>(0,fun _=>⟨0,⟨0,0⟩⟩)
 |m+1=>IY (AF f m) m (f m)
theorem R9(l:XG)(m w:Int):(IY l m w).1<=l.1+1:=by
 unfold IY;split
 ·exact Nat.le_succ _
 exact Nat.le_refl _
theorem Fg(f:Nat->Int):∀m,(AF f m).1<=m
 |0=>Nat.le_refl _
 |m+1=>by have:=Fg f m;have:=R9 (AF f m) m (f m);rw[AF];omega
def CW(f:Nat->Int)(n:Nat)(w:Int):Int:=E1 (fun m=>decide (f m=w)) n
abbrev Xm:=Nat×(Nat->Hs)
def Cm(c:Int->Int):Nat->Xm
 |0=>(0,fun _=>⟨0,0⟩)
 |k+1=>if 0<c k then((Cm c k).1+1,fun i=>if i<(Cm c k).1 then(Cm c k).2 i else⟨k,c k⟩)else Cm c k
def T2(b:Bk)(n:Nat):Prop:=∀m,m<n->0<=b.ow.2 m/\b.ow.2 m<=9999
theorem Ui(hr:F5 r):T2 (WB r) (Cr r):=fun m hm=>by
 show 0<=IX r m/\IX r m<=9999
 have hl:=hr.2.2.2.2.2
 have hN:(Cr r:Int)=1440*r.days:=by have:=hr.1;unfold Cr;omega
 have hn:=hr.2.2.1
 rcases By (fun i=>(m:Int)<(r.holds.2 i).turn.til) r.holds.1 with⟨h1,_,_⟩|⟨_,h2⟩
 ·have:=hr.2.2.2.2.1 _ h1
  exact⟨this.1,this.2.1⟩
 have h3:=h2 (r.holds.1-1) (by omega)
 have h4:=RW r (r.holds.1-1)
 rw[show r.holds.1-1+1=r.holds.1 by omega]at h4
 omega
theorem ZZ{L:List Hr}(h:∀i,i<L.length->0<=(hl L i).who/\(hl L i).who<=9999)(i:Nat):0<=(hl L i).who/\(hl L i).who<=9999:=by
 rcases Nat.lt_or_ge i L.length with hi|hi
 ·exact h i hi
 have:hl L i=⟨0,0⟩:=by unfold hl;rw[List.getD_eq_getElem?_getD,List.getElem?_eq_none hi];rfl
 rw[this];exact⟨by decide,by decide⟩
theorem Vn{b:Bk}{n:Nat}{x:De}(hx:D9 r x)(h:T2 b n):T2 (Ps b x) n:=fun m hm=>by
 obtain⟨_,_,_,_,h5,_,h7⟩:=hx
 have h0:=h m hm
 unfold Ps
 split
 ·rename_i hk
  have hh:GZ x.fro x.heirs:=by
   rcases h7 with⟨h,_⟩|⟨h,_⟩|⟨h,h7,_⟩|⟨h,_⟩<;>first|exact h7|omega
  show 0<=(if b.ow.2 m=x.fro then _ else b.ow.2 m)/\(if b.ow.2 m=x.fro then _ else b.ow.2 m)<=9999
  split
  ·exact ZZ (fun i hi=>by have:=(Sv (b:=b) hh h5).2.2 i hi;exact⟨this.1,this.2.1⟩) _
  exact h0
 split
 ·rename_i hk
  have ht:1<=x.tow/\x.tow<=9999:=by
   unfold Gf at h7
   rcases h7 with⟨h,h7,_⟩|⟨h,_⟩|⟨h,_⟩|⟨h,_⟩<;>omega
  show 0<=(if GK x m then x.tow else b.ow.2 m)/\(if GK x m then x.tow else b.ow.2 m)<=9999
  split<;>omega
 split
 ·show 0<=(if GK x m then 0 else b.ow.2 m)/\(if GK x m then 0 else b.ow.2 m)<=9999
  split<;>omega
 split
 ·exact h0
 exact h0
theorem Mr{l:Nat->De}(hr:F5 r):∀k,(∀i,i<k->D9 r (l i))->T2 (A1 r l k) (Cr r)
 |0,_=>Ui hr
 |k+1,h=>by
  have ih:=Mr hr k fun i hi=>h i (by omega)
  rw[A1,Fp];split
  ·exact Vn (h k (by omega)) ih
  exact ih
theorem XJ(f:Nat->Int)(m:Nat)(w:Int):CW f (m+1) w=CW f m w+if f m=w then 1 else 0:=by
 unfold CW
 rw[E1]
 by_cases e:f m=w
 ·rw[if_pos (decide_eq_true e),if_pos e];omega
 rw[if_neg (by simpa using e),if_neg e];omega
theorem Ua(f:Nat->Int)(m:Nat)(w:Int):0<=CW f m w/\CW f m w<=m:=by
 have:=GO (fun q=>decide (f q=w)) m
 unfold CW;omega
end Go.Proofs.YtlieoghhkioflaaGreat
namespace Go.Proofs.YtlieoghhkioflaaGreat
open Go Go.RowKit
variable{w:Int}{f:Nat->Int}
theorem T5{l:XG}{m:Int}(h:0<l.1)(hw:(l.2 (l.1-1)).who=w):(IY l m w).1=l.1/\(∀j,j<l.1-1->(IY l m w).2 j=l.2 j)/\(IY l m w).2 (l.1-1)=⟨w,⟨(l.2 (l.1-1)).turn.fro,m+1⟩⟩:=by
 unfold IY
 rw[if_pos ⟨h,hw⟩]
 refine⟨rfl,fun j hj=> ?_,?_⟩
 ·show(if j=l.1-1 then _ else l.2 j)=_
  rw[if_neg (by omega)]
 show(if l.1-1=l.1-1 then _ else _)=_
 rw[if_pos rfl,hw]
theorem TP{l:XG}{m:Int}(h:¬(0<l.1/\(l.2 (l.1-1)).who=w)):(IY l m w).1=l.1+1/\(∀j,j<l.1->(IY l m w).2 j=l.2 j)/\(IY l m w).2 l.1=⟨w,⟨m,m+1⟩⟩:=by
 unfold IY
 rw[if_neg h]
 refine⟨rfl,fun j hj=> ?_,?_⟩
 ·show(if j<l.1 then _ else _)=_
  rw[if_pos hj]
 show(if l.1<l.1 then _ else _)=_
 rw[if_neg (Nat.lt_irrefl _)]
theorem Gx{a:Nat}(h:0<(AF f a).1)(hw:((AF f a).2 ((AF f a).1-1)).who=w):∀d,(∀q,a<=q->q<a+d->f q=w)->(AF f (a+d)).1=(AF f a).1/\(∀j,j<(AF f a).1-1->(AF f (a+d)).2 j=(AF f a).2 j)/\(d=0\/(AF f (a+d)).2 ((AF f a).1-1)=⟨w,⟨((AF f a).2 ((AF f a).1-1)).turn.fro,((a+d:Nat):Int)⟩⟩)
 |0,_=>⟨rfl,fun _ _=>rfl,.inl rfl⟩
 |d+1,hd=>by
  obtain⟨i1,i2,i3⟩:=Gx h hw d fun q h1 h2=>hd q h1 (by omega)
  have hl:((AF f (a+d)).2 ((AF f (a+d)).1-1)).who=f (a+d):=by
   rw[i1,hd (a+d) (by omega) (by omega)]
   rcases i3 with rfl|i3
   ·exact hw
   rw[i3]
  have hfr:((AF f (a+d)).2 ((AF f (a+d)).1-1)).turn.fro=((AF f a).2 ((AF f a).1-1)).turn.fro:=by
   rw[i1]
   rcases i3 with rfl|i3
   ·rfl
   rw[i3]
  obtain⟨j1,j2,j3⟩:=T5 (m:=((a+d:Nat):Int)) (by omega) hl
  rw[<-Nat.add_assoc,AF]
  refine⟨j1.trans i1,fun j hj=>(j2 j (by omega)).trans (i2 j hj),.inr ?_⟩
  rw[i1]at j3 hfr
  rw[j3,hd (a+d) (by omega) (by omega),hfr]
  congr 2
theorem Gy{a:Nat}(h:¬(0<(AF f a).1/\((AF f a).2 ((AF f a).1-1)).who=w)){d:Nat}(h0:0<d)(hd:∀q,a<=q->q<a+d->f q=w):(AF f (a+d)).1=(AF f a).1+1/\(∀j,j<(AF f a).1->(AF f (a+d)).2 j=(AF f a).2 j)/\(AF f (a+d)).2 (AF f a).1=⟨w,⟨(a:Int),((a+d:Nat):Int)⟩⟩:=by
 have hfa:f a=w:=hd a (Nat.le_refl _) (by omega)
 obtain⟨i1,i2,i3⟩:=TP (m:=(a:Int)) h
 have e1:AF f (a+1)=IY (AF f a) a w:=by rw[AF,hfa]
 rw[<-e1]at i1 i2 i3
 obtain⟨k1,k2,k3⟩:=Gx (f:=f) (w:=w) (a:=a+1) (by omega) (by rw[i1,Nat.add_sub_cancel,i3]) (d-1) fun q h1 h2=>hd q (by omega) (by omega)
 rw[show a+1+(d-1)=a+d by omega,i1]at k1
 rw[show a+1+(d-1)=a+d by omega,i1,Nat.add_sub_cancel]at k2 k3
 refine⟨k1,fun j hj=>(k2 j hj).trans (i2 j hj),?_⟩
 rcases k3 with k3|k3
 ·rw[show d=1 by omega,i3];congr 2
 rw[k3,i3]
def Bi(P:Pz):Nat->Nat
 |0=>0
 |i+1=>(P.2 i).turn.til.toNat
def EL(f:Nat->Int)(P:Pz)(k0:Int)(i:Nat):Ho:=if i=0 then⟨k0,⟨0,0⟩⟩else(AF f (Bi P i)).2 ((AF f (Bi P i)).1-1)
structure AaU(f:Nat->Int)(P:Pz)(k:Pi->Int)(N:Nat):Prop where
 le:∀i,i<=P.1->Bi P i<=N
 pos:∀i,0<i->i<=P.1->0<(AF f (Bi P i)).1
 fin:Bi P P.1=N
 same:∀i,i<P.1->k (P.2 i)=(EL f P (k (P.2 0)) i).who->(AF f (Bi P (i+1))).1-1=(AF f (Bi P i)).1-1/\(∀j,j<(AF f (Bi P i)).1-1->(AF f (Bi P (i+1))).2 j=(AF f (Bi P i)).2 j)/\EL f P (k (P.2 0)) (i+1)=⟨(EL f P (k (P.2 0)) i).who,⟨(EL f P (k (P.2 0)) i).turn.fro,(P.2 i).turn.til⟩⟩
 new:∀i,i<P.1->k (P.2 i)≠(EL f P (k (P.2 0)) i).who->0<i/\(AF f (Bi P (i+1))).1-1=(AF f (Bi P i)).1-1+1/\(∀j,j<(AF f (Bi P i)).1-1->(AF f (Bi P (i+1))).2 j=(AF f (Bi P i)).2 j)/\(AF f (Bi P (i+1))).2 ((AF f (Bi P i)).1-1)=EL f P (k (P.2 0)) i/\EL f P (k (P.2 0)) (i+1)=⟨k (P.2 i),⟨(P.2 i).turn.fro,(P.2 i).turn.til⟩⟩
theorem Zm{P:Pz}{k:Pi->Int}{N:Nat}(h:BB N P)(hf:∀i,i<P.1->∀m:Nat,(P.2 i).turn.fro<=m->(m:Int)<(P.2 i).turn.til->f m=k (P.2 i)):AaU f P k N:=by
 have hfro:∀i,i<P.1->(P.2 i).turn.fro=Bi P i:=fun i hi=>by
  cases i with
  |zero=>exact h.beg
  |succ i=>rw[h.nxt i hi];show _=((P.2 i).turn.til.toNat:Int);have:=h.rng (show i<P.1 by omega);have:=h.lt i (by omega);omega
 have htil:∀i,i<P.1->∃d:Nat,0<d/\Bi P (i+1)=Bi P i+d/\(P.2 i).turn.til=((Bi P i+d:Nat):Int)/\∀q,Bi P i<=q->q<Bi P i+d->f q=k (P.2 i):=fun i hi=>by
  have h1:=hfro i hi
  have h2:=h.lt i hi
  refine⟨(P.2 i).turn.til.toNat-Bi P i,by omega,?_,by omega,fun q a b=>hf i hi q (by omega) (by omega)⟩
  show(P.2 i).turn.til.toNat=_
  omega
 have hle:∀i,i<=P.1->Bi P i<=N:=fun i hi=>by
  cases i with
  |zero=>exact Nat.zero_le _
  |succ i=>show(P.2 i).turn.til.toNat<=N;have:=h.rng (show i<P.1 by omega);omega
 have hpos:∀i,0<i->i<=P.1->0<(AF f (Bi P i)).1:=fun i hi hi2=>by
  cases i with
  |zero=>omega
  |succ i=>
   obtain⟨d,d1,d2,_,d4⟩:=htil i (by omega)
   rw[d2]
   by_cases e:0<(AF f (Bi P i)).1/\((AF f (Bi P i)).2 ((AF f (Bi P i)).1-1)).who=k (P.2 i)
   ·rw[(Gx e.1 e.2 d d4).1];exact e.1
   rw[(Gy e d1 d4).1];omega
 have h00:(AF f (Bi P 0)).1=0:=rfl
 refine⟨hle,hpos,?_,fun i hi he=> ?_,fun i hi he=> ?_⟩
 ·have:=h.fin;have:=h.pos
  obtain⟨p,hp⟩:∃p,P.1=p+1:=⟨P.1-1,by omega⟩
  rw[hp]
  show(P.2 p).turn.til.toNat=N
  rw[show p=P.1-1 by omega,h.fin];exact Int.toNat_natCast N
 ·obtain⟨d,d1,d2,d3,d4⟩:=htil i hi
  by_cases i0:i=0
  ·subst i0
   have hn:=Gy (f:=f) (w:=k (P.2 0)) (a:=Bi P 0) (by rw[h00];omega) d1 d4
   rw[<-d2]at hn
   obtain⟨n1,n2,n3⟩:=hn
   refine⟨by rw[n1,h00],fun j hj=>by rw[h00]at hj;omega,?_⟩
   unfold EL
   rw[if_neg (by omega),if_pos rfl,n1,Nat.add_sub_cancel,n3,d3,d2]
   rfl
  unfold EL at he⊢
  rw[if_neg i0]at he⊢
  rw[if_neg (by omega)]
  have hp:=hpos i (by omega) (by omega)
  have hn:=Gx hp he.symm d d4
  rw[<-d2]at hn
  obtain⟨n1,n2,n3⟩:=hn
  refine⟨by rw[n1],n2,?_⟩
  rcases n3 with n3|n3
  ·omega
  rw[n1,n3,he,d3,d2]
 obtain⟨d,d1,d2,d3,d4⟩:=htil i hi
 by_cases i0:i=0
 ·subst i0;exact absurd rfl he
 unfold EL at he⊢
 rw[if_neg i0]at he⊢
 rw[if_neg (by omega)]
 have hp:=hpos i (by omega) (by omega)
 have hn:=Gy (f:=f) (w:=k (P.2 i)) (a:=Bi P i) (fun e=>he e.2.symm) d1 d4
 rw[<-d2]at hn
 obtain⟨n1,n2,n3⟩:=hn
 refine⟨by omega,by omega,fun j hj=>n2 j (by omega),n2 _ (by omega),?_⟩
 rw[n1,Nat.add_sub_cancel,n3,hfro i hi,d3,d2]
end Go.Proofs.YtlieoghhkioflaaGreat
