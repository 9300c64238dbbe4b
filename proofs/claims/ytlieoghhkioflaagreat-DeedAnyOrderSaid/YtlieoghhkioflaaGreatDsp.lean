/- Deeds: shares counted by pieces, plain. No condition. -/
import Derived.Test.YtlieoghhkioflaaGreatDpy
import Derived.Test.YtlieoghhkioflaaGreatSoH
import Derived.Test.YtlieoghhkioflaaGreatSoT
import Derived.Test.YtlieoghhkioflaaGreatLDez
set_option linter.unusedSimpArgs false
set_option linter.unusedVariables false
set_option maxRecDepth 100000
namespace Go.Proofs.YtlieoghhkioflaaGreat
open Go Go.RowKit
variable{f:Nat->Int}
theorem Ja{a:Nat}{w:Int}(k:Int):∀d,(∀q,a<=q->q<a+d->f q=w)->C2 f (a+d) k=C2 f a k+if w=k then(d:Int)else 0
 |0,_=>by split<;>simp
 |d+1,h=>by
  have ih:=Ja k d fun q h1 h2=>h q h1 (by omega)
  rw[<-Nat.add_assoc,Ym,ih,h (a+d) (by omega) (by omega)]
  split<;>omega
theorem J8{P:Pz}{N:Nat}(h:BG N P){i:Nat}(hi:i<P.1)(hf:∀m:Nat,(P.2 i).turn.fro<=m->(m:Int)<(P.2 i).turn.til->f m=(P.2 i).owner)(k:Int):C2 f (Bp P (i+1)) k=C2 f (Bp P i) k+if(P.2 i).owner=k then(P.2 i).turn.til-(P.2 i).turn.fro else 0:=by
 have hfro:(P.2 i).turn.fro=Bp P i:=by
  cases i with
  |zero=>exact h.beg
  |succ i=>rw[h.nxt i hi];show _=((P.2 i).turn.til.toNat:Int);have:=h.rng (show i<P.1 by omega);have:=h.lt i (by omega);omega
 have h2:=h.lt i hi
 have e:Bp P (i+1)=Bp P i+((P.2 i).turn.til-(P.2 i).turn.fro).toNat:=by show(P.2 i).turn.til.toNat=_;omega
 rw[e,Ja k _ fun q h1 h2=>hf q (by omega) (by omega)]
 have:((((P.2 i).turn.til-(P.2 i).turn.fro).toNat:Nat):Int)=(P.2 i).turn.til-(P.2 i).turn.fro:=by omega
 rw[this]
noncomputable def IX(P:Pz)(j:Nat)(k:Int):Bool:=A8 (∃i,i<j/\(P.2 i).owner=k)
theorem Uq(P:Pz)(j:Nat)(k:Int):(if k=(P.2 j).owner then true else IX P j k)=IX P (j+1) k:=by
 split
 ·rename_i e;exact(At ⟨j,by omega,e.symm⟩).symm
 rename_i e
 exact EA ⟨fun⟨i,h1,h2⟩=>⟨i,by omega,h2⟩,fun⟨i,h1,h2⟩=>⟨i,by
  have:i≠j:=fun h=>e (by rw[<-h2,h])
  omega,h2⟩⟩
theorem JJ{P:Pz}{N:Nat}(h:BG N P)(hf:∀i,i<P.1->∀m:Nat,(P.2 i).turn.fro<=m->(m:Int)<(P.2 i).turn.til->f m=(P.2 i).owner)(k:Int):∀j,j<=P.1->(IX P j k=true↔0<C2 f (Bp P j) k)
 |0,_=>by
  constructor
  ·intro h1;obtain⟨i,h2,_⟩:=AM.1 h1;omega
  intro h1
  have:C2 f (Bp P 0) k=0:=rfl
  omega
 |j+1,hj=>by
  have ih:=JJ h hf k j (by omega)
  have e:=J8 h (show j<P.1 by omega) (hf j (by omega)) k
  have hb:=(SN f (Bp P j) k).1
  have h2:=h.lt j (by omega)
  rw[e,<-Uq]
  by_cases e1:(P.2 j).owner=k
  ·rw[if_pos e1,if_pos e1.symm];constructor
   ·intro _;omega
   intro _;rfl
  rw[if_neg e1,if_neg fun h=>e1 h.symm,Int.add_zero];exact ih
theorem G6:∀L M:List Hs,L.Pairwise (fun a b=>a.who<b.who)->M.Pairwise (fun a b=>a.who<b.who)->(∀x,x∈L↔x∈M)->L=M
 |[],[],_,_,_=>rfl
 |[],y::M,_,_,h=>by have:=(h y).2 (by simp);simp at this
 |x::L,[],_,_,h=>by have:=(h x).1 (by simp);simp at this
 |x::L,y::M,h1,h2,h=>by
  rw[List.pairwise_cons]at h1 h2
  have e:x=y:=by
   have a:=(h x).1 (by simp)
   have b:=(h y).2 (by simp)
   rcases List.mem_cons.1 a with a|a
   ·exact a
   rcases List.mem_cons.1 b with b|b
   ·exact b.symm
   have:=h1.1 y b;have:=h2.1 x a;omega
  subst e
  rw[G6 L M h1.2 h2.2 fun z=> ?_]
  constructor
  ·intro hz
   rcases List.mem_cons.1 ((h z).1 (List.mem_cons_of_mem _ hz))with e|e
   ·subst e;have:=h1.1 z hz;omega
   exact e
  intro hz
  rcases List.mem_cons.1 ((h z).2 (List.mem_cons_of_mem _ hz))with e|e
  ·subst e;have:=h2.1 z hz;omega
  exact e
theorem IC(x:Hs):∀L:List Hs,L.Pairwise (fun a b=>a.who<b.who)->(∀y,y∈L->y.who≠x.who)->(C4 Dg x L).Pairwise fun a b=>a.who<b.who
 |[],_,_=>by simp[C4]
 |z::L,hs,hn=>by
  have hs':=List.pairwise_cons.1 hs
  have hz:=hn z (by simp)
  rw[C4]
  split
  ·rename_i hb
   have hb:x.who<z.who:=of_decide_eq_true hb
   rw[List.pairwise_cons]
   refine⟨fun y hy=> ?_,hs⟩
   rcases List.mem_cons.1 hy with rfl|hy
   ·exact hb
   have:=hs'.1 y hy;omega
  rename_i hb
  have hb:¬x.who<z.who:=fun h=>hb (decide_eq_true h)
  rw[List.pairwise_cons]
  refine⟨fun y hy=> ?_,IC x L hs'.2 fun y hy=>hn y (List.mem_cons_of_mem _ hy)⟩
  rcases(Ge x L y).1 hy with rfl|hy
  ·omega
  exact hs'.1 y hy
theorem LN(L:List Hs):L.Pairwise (fun a b=>a.who≠b.who)->(AH Dg L).Pairwise fun a b=>a.who<b.who:=by
 refine F4 (p:=fun L=>L.Pairwise (fun a b=>a.who≠b.who)->(AH Dg L).Pairwise fun a b=>a.who<b.who) (fun _=>List.Pairwise.nil) (fun L x ih h=> ?_) L
 rw[List.pairwise_append]at h
 rw[Cf]
 exact IC x _ (ih h.1) fun y hy=>h.2.2 y ((Gp L y).1 hy) x (by simp)
theorem Li(c:Int->Int):∀k,(A6 (Cr c k).2 0 (Cr c k).1).Pairwise (fun a b=>a.who<b.who)/\∀x,x∈A6 (Cr c k).2 0 (Cr c k).1↔∃w:Nat,w<k/\0<c w/\x=⟨w,c w⟩
 |0=>by
  have:A6 (Cr c 0).2 0 (Cr c 0).1=[]:=rfl
  rw[this]
  exact⟨List.Pairwise.nil,fun x=>⟨fun h=>by simp at h,fun⟨w,h,_⟩=>by omega⟩⟩
 |k+1=>by
  obtain⟨h1,h2⟩:=Li c k
  by_cases e:0<c k
  ·have es:Cr c (k+1)=((Cr c k).1+1,fun i=>if i<(Cr c k).1 then(Cr c k).2 i else⟨k,c k⟩):=if_pos e
   have eg:A6 (Cr c (k+1)).2 0 (Cr c (k+1)).1=A6 (Cr c k).2 0 (Cr c k).1++[⟨k,c k⟩]:=by
    rw[es]
    show A6 _ 0 ((Cr c k).1+1)=_
    rw[<-DB _ (show 0<=(Cr c k).1 by omega) (show(Cr c k).1<=(Cr c k).1+1 by omega),Cj]
    congr 1
    ·exact Cu fun i _ hi=>if_pos hi
    show[if(Cr c k).1<(Cr c k).1 then _ else _]=_
    rw[if_neg (Nat.lt_irrefl _)]
   rw[eg]
   refine⟨?_,fun x=> ?_⟩
   ·rw[List.pairwise_append]
    refine⟨h1,by simp,fun a ha b hb=> ?_⟩
    obtain⟨w,w1,w2,rfl⟩:=(h2 a).1 ha
    rw[List.mem_singleton]at hb
    subst hb
    show(w:Int)<k
    omega
   rw[List.mem_append,List.mem_singleton,h2]
   constructor
   ·rintro(⟨w,w1,w2,w3⟩|rfl)
    ·exact⟨w,by omega,w2,w3⟩
    exact⟨k,by omega,e,rfl⟩
   rintro⟨w,w1,w2,w3⟩
   by_cases ew:w=k
   ·subst ew;exact .inr w3
   exact .inl ⟨w,by omega,w2,w3⟩
  have es:Cr c (k+1)=Cr c k:=if_neg e
  rw[es]
  refine⟨h1,fun x=> ?_⟩
  rw[h2]
  constructor
  ·rintro⟨w,w1,w2,w3⟩;exact⟨w,by omega,w2,w3⟩
  rintro⟨w,w1,w2,w3⟩
  by_cases ew:w=k
  ·subst ew;exact absurd w2 e
  exact⟨w,by omega,w2,w3⟩
structure L3(c:Int->Int)(has seen:Int->Bool)(q:Xz)(M:Nat):Prop where
 el:∀i,i<q.1->has (q.2 i).who=true/\seen (q.2 i).who=true/\(q.2 i).mins=c (q.2 i).who
 all:∀k,seen k=true->∃i,i<q.1/\(q.2 i).who=k
 ne:∀i j,i<j->j<q.1->(q.2 i).who≠(q.2 j).who
 len:q.1+E4 (fun k:Nat=> !seen k) M<=M
theorem L3.begin(c:Int->Int)(has:Int->Bool)(M:Nat):L3 c has (fun _=>false) (0,fun _=>⟨0,0⟩) M:=
 ⟨fun i hi=>absurd hi (Nat.not_lt_zero _),fun k h=>(by cases h),fun i j _ hi=>absurd hi (Nat.not_lt_zero _),Nat.le_trans (Nat.le_of_eq (Nat.zero_add _)) (G9 _ _)⟩
def Tp(q:Xz)(x:Hs):Xz:=(q.1+1,fun i=>if i<q.1 then q.2 i else x)
theorem L3.next{c:Int->Int}{has seen:Int->Bool}{q:Xz}{M:Nat}(h:L3 c has seen q M){k:Int}(h1:has k=true)(h2:seen k=false)(h3:0<=k/\k<M):
  L3 c has (fun j=>if j=k then true else seen j) (Tp q ⟨k,c k⟩) M/\E4 (fun z:Nat=> !(if(z:Int)=k then true else seen z)) M<E4 (fun z:Nat=> !seen z) M:=by
 have hlt:E4 (fun z:Nat=> !(if(z:Int)=k then true else seen z)) M<E4 (fun z:Nat=> !seen z) M:=by
  refine Ts M (fun z hz h4=> ?_) k.toNat (by omega) ?_ ?_
  ·by_cases e:(z:Int)=k
   ·rw[if_pos e]at h4;cases h4
   rw[if_neg e]at h4;exact h4
  ·rw[if_pos (by omega)];rfl
  show(!seen ((k.toNat:Nat):Int))=true
  rw[show((k.toNat:Nat):Int)=k from by omega,h2];rfl
 have g1:∀i,i<q.1->(Tp q ⟨k,c k⟩).2 i=q.2 i:=fun i hi=>if_pos hi
 have g2:(Tp q ⟨k,c k⟩).2 q.1=⟨k,c k⟩:=if_neg (Nat.lt_irrefl _)
 have hne:∀i,i<q.1->(q.2 i).who≠k:=fun i hi e=>by have:=(h.el i hi).2.1;rw[e,h2]at this;cases this
 refine⟨⟨fun i hi=> ?_,fun j hj=> ?_,fun i j hij hj=> ?_,?_⟩,hlt⟩
 ·by_cases e:i<q.1
  ·rw[g1 i e]
   obtain⟨a1,a2,a3⟩:=h.el i e
   exact⟨a1,by rw[if_neg (hne i e)];exact a2,a3⟩
  obtain rfl:i=q.1:=by have:i<q.1+1:=hi;omega
  rw[g2];exact⟨h1,if_pos rfl,rfl⟩
 ·by_cases e:j=k
  ·subst e;exact⟨q.1,Nat.lt_succ_self _,by rw[g2]⟩
  rw[if_neg e]at hj
  obtain⟨i,i1,i2⟩:=h.all j hj
  exact⟨i,Nat.lt_succ_of_lt i1,by rw[g1 i i1];exact i2⟩
 ·have hj:j<q.1+1:=hj
  rw[g1 i (by omega)]
  by_cases e:j<q.1
  ·rw[g1 j e];exact h.ne i j hij e
  obtain rfl:j=q.1:=by omega
  rw[g2];exact hne i hij
 have:=h.len
 show q.1+1+_<=_
 omega
theorem L3.fin{c:Int->Int}{has seen:Int->Bool}{q:Xz}(h:L3 c has seen q 10000)(ha:∀k,has k=true->seen k=true)(hc:∀k,has k=true↔0<c k)(hr:∀k,has k=true->0<=k/\k<=9999):
  AH Dg (A6 q.2 0 q.1)=A6 (Cr c 10000).2 0 (Cr c 10000).1:=by
 obtain⟨s1,s2⟩:=Li c 10000
 refine G6 _ _ (LN _ ?_) s1 fun x=> ?_
 ·unfold A6
  rw[List.pairwise_map]
  refine List.Pairwise.imp_of_mem (fun{a b} ha hb hab=> ?_) (List.pairwise_lt_range (n:=q.1-0))
  rw[List.mem_range]at ha hb
  rw[Nat.zero_add,Nat.zero_add]
  exact h.ne a b hab (by omega)
 rw[Gp,s2]
 unfold A6
 rw[List.mem_map]
 constructor
 ·rintro⟨i,hi,rfl⟩
  rw[List.mem_range]at hi
  rw[Nat.zero_add]
  obtain⟨a1,a2,a3⟩:=h.el i (by omega)
  have hr1:=hr _ a1
  have hw:(((q.2 i).who.toNat:Nat):Int)=(q.2 i).who:=by omega
  refine⟨(q.2 i).who.toNat,by omega,by rw[hw];exact(hc _).1 a1,?_⟩
  rw[hw,<-a3]
 rintro⟨w,w1,w2,rfl⟩
 obtain⟨i,i1,i2⟩:=h.all _ (ha _ ((hc _).2 w2))
 refine⟨i,List.mem_range.2 (by omega),?_⟩
 rw[Nat.zero_add]
 have a3:=(h.el i i1).2.2
 rw[i2]at a3
 have:q.2 i=⟨(q.2 i).who,(q.2 i).mins⟩:=rfl
 rw[this,i2,a3]
end Go.Proofs.YtlieoghhkioflaaGreat
namespace Go.Proofs.YtlieoghhkioflaaGreat
variable{x:De}{l:E3}{i k m n:Nat}
def hoC:Nat->Ho
 |0=>⟨1,⟨0,600⟩⟩
 |1=>⟨2,⟨600,1200⟩⟩
 |_=>⟨0,⟨1200,1440⟩⟩
def CN:Ro:=⟨1,(3,hoC)⟩
def heC:Nat->Hr
 |0=>⟨4,2⟩
 |_=>⟨5,1⟩
def BM:Nat->De
 |0=>⟨10,5,1,1,2,⟨0,100⟩,0,(0,fun _=>⟨0,0⟩)⟩
 |1=>⟨11,6,4,2,3,⟨50,150⟩,30,(0,fun _=>⟨0,0⟩)⟩
 |2=>⟨12,7,4,2,3,⟨50,100⟩,30,(0,fun _=>⟨0,0⟩)⟩
 |_=>⟨13,40,3,2,0,⟨0,0⟩,0,(2,heC)⟩
theorem H8(h:i<4):i=0\/i=1\/i=2\/i=3:=by omega
theorem IR(h:i<3):i=0\/i=1\/i=2:=by omega
theorem LR:EL CN:=by
 refine⟨by decide,by decide,by decide,by decide,fun i hi=> ?_,rfl⟩
 rcases IR hi with rfl|rfl|rfl<;>exact⟨by decide,by decide,rfl,by decide,by decide⟩
theorem Yo(hi:i<4):Dn CN (BM i):=by
 rcases H8 hi with rfl|rfl|rfl|rfl
 ·exact⟨by decide,by decide,by decide,by decide,by decide,by decide,.inl ⟨rfl,⟨by decide,by decide,by decide⟩,⟨by decide,by decide,by decide⟩,rfl,rfl⟩⟩
 ·exact⟨by decide,by decide,by decide,by decide,by decide,by decide,.inr (.inr (.inr ⟨rfl,⟨by decide,by decide,by decide⟩,⟨by decide,by decide,by decide⟩,by decide,by decide,rfl⟩))⟩
 ·exact⟨by decide,by decide,by decide,by decide,by decide,by decide,.inr (.inr (.inr ⟨rfl,⟨by decide,by decide,by decide⟩,⟨by decide,by decide,by decide⟩,by decide,by decide,rfl⟩))⟩
 exact⟨by decide,by decide,by decide,by decide,by decide,by decide,.inr (.inr (.inl ⟨rfl,⟨by decide,by decide,fun i hi=>by
  rcases(show i=0\/i=1 from by have hi:i<2:=hi;omega)with rfl|rfl
  ·exact⟨by decide,by decide,by decide,by decide,by decide,fun h=>absurd h (by decide)⟩
  exact⟨by decide,by decide,by decide,by decide,by decide,fun _=>by decide⟩⟩,rfl,rfl,rfl,rfl⟩))⟩
theorem SR(hi:i<4)(hk:k<4)(h:(BM i).id=(BM k).id):i=k:=by
 rcases H8 hi with rfl|rfl|rfl|rfl<;>rcases H8 hk with rfl|rfl|rfl|rfl<;>first|rfl|(exact absurd h (by decide))
structure Ex(l:E3):Prop where
 n:l.1<=4
 e:∀i,i<l.1->l.2 i=BM i
theorem Po(h:Ex l):BV CN l=0:=by
 have h1:A8 (∀i,i<l.1->Dn CN (l.2 i))=true:=At fun i hi=>by rw[h.e i hi];exact Yo (by have:=h.n;omega)
 have h2:A8 (∀i,i<l.1->∀k,k<i->(l.2 i).id=(l.2 k).id->Bz (l.2 i) (l.2 k))=true:=At fun i hi k hk he=>by
  rw[h.e i hi,h.e k (by omega)]at he
  have:=h.n
  have:=SR (by omega) (by omega) he
  omega
 have h3:¬60<l.1:=by have:=h.n;omega
 rw[BV,At LR,if_pos rfl,C0,if_neg h3,h1,if_pos rfl,h2,if_pos rfl]
theorem Nk:∀{L:List De},(∀y∈L,¬Bm x y)->GD x L=L++[x]
 |[],_=>rfl
 |y::L,h=>by
  rw[GD,if_neg (h y (by simp)),Nk fun z hz=>h z (by simp[hz])];rfl
theorem P0(h:Ex l):∀k,k<=l.1->Bo l k=(List.range k).map BM
 |0,_=>rfl
 |k+1,hk=>by
  have hn:=h.n
  have h1:FY l k=true:=At fun j hj he=>by
   rw[h.e j (by omega),h.e k (by omega)]at he
   have:=SR (by omega) (by omega) he
   omega
  rw[Bo,h1,if_pos rfl,P0 h k (by omega),Nk fun y hy=> ?_,List.range_succ,List.map_append,h.e k (by omega)]
  ·rfl
  obtain⟨j,hj,rfl⟩:=List.mem_map.1 hy
  have hj:=List.mem_range.1 hj
  rw[h.e k (by omega)]
  rcases H8 (show k<4 by omega)with rfl|rfl|rfl|rfl<;>rcases IR (show j<3 by omega)with rfl|rfl|rfl<;>first|omega|decide
theorem P8(h:Ex l):(BI l).1=l.1/\∀i,i<l.1->(BI l).2 i=BM i:=by
 unfold BI
 rw[P0 h l.1 (Nat.le_refl _)]
 refine⟨by simp,fun i hi=> ?_⟩
 show(List.getD _ i de0)=_
 rw[List.getD_eq_getElem?_getD,List.getElem?_map,List.getElem?_range hi];rfl
theorem MA{r:Ro}{f g:Nat->De}:∀k,(∀i,i<k->f i=g i)->AI r f k=AI r g k
 |0,_=>rfl
 |k+1,h=>by rw[AI,AI,MA k fun i hi=>h i (by omega),h k (by omega)]
theorem Od(h:Ex l)(k:Nat)(hk:k<=l.1):AI CN (BI l).2 k=AI CN BM k:=MA k fun i hi=>(P8 h).2 i (by omega)
theorem Sw(h:Ex l){d:Int}(hk:k<=l.1)(h1:∀i,i<k->(BM i).day<=d)(h2:∀i,k<=i->i<l.1->d<(BM i).day):BW (BI l) d=k:=by
 obtain⟨e1,e2⟩:=P8 h
 unfold BW
 rw[e1]
 by_cases e:k=l.1
 ·rw[e]
  exact HK fun j hj=>by rw[e2 j hj];have:=h1 j (by omega);omega
 exact C5 (by omega) (by rw[e2 k (by omega)];exact h2 k (Nat.le_refl _) (by omega)) fun j hj=>by rw[e2 j (by omega)];have:=h1 j hj;omega
theorem exO:(m<600->IS CN m=1)/\(600<=m->m<1200->IS CN m=2)/\(1200<=m->m<1440->IS CN m=0):=by
 refine⟨fun h=> ?_,fun h1 h2=> ?_,fun h1 h2=> ?_⟩
 ·exact LA LR (i:=0) (by decide) (by show(0:Int)<=m;omega) (by show(m:Int)<600;omega)
 ·exact LA LR (i:=1) (by decide) (by show(600:Int)<=m;omega) (by show(m:Int)<1200;omega)
 exact LA LR (i:=2) (by decide) (by show(1200:Int)<=m;omega) (by show(m:Int)<1440;omega)
theorem LE{b:Bk}(h1:b.de.2 x.fro.toNat=false)(h2:b.de.2 x.tow.toNat=false)(h3:H6 b x)(h4:x.kind=4->O5 b x):Bh b x=0:=by
 rw[Bh,h1,h2,Bool.or_self,if_neg (by decide),At h3,if_pos rfl]
 split
 ·rename_i h;rw[At (h4 h),if_pos rfl]
 rfl
theorem Wu{b:Bk}(h1:b.de.2 x.fro.toNat=false)(h2:b.de.2 x.tow.toNat=false)(h3:¬H6 b x):Bh b x=2:=by
 rw[Bh,h1,h2,Bool.or_self,if_neg (by decide),Am h3,if_neg (by decide)]
theorem v0C:Bh (AI CN BM 0) (BM 0)=0:=LE rfl rfl (fun m _ h=>exO.1 (by have h:(m:Int)<100:=h;omega)) fun h=>absurd h (by decide)
theorem r1C:AI CN BM 1=⟨(1440,fun m=>if GE (BM 0) m then 2 else IS CN m),(1440,fun _=>0),(1440,fun _=>0),(10000,fun _=>false)⟩:=by
 rw[AI,E6,if_pos v0C,Nf,if_neg (by decide),if_pos (show(BM 0).kind=1 from rfl)];rfl
theorem v1C:Bh (AI CN BM 1) (BM 1)=2:=by
 rw[r1C]
 refine Wu rfl rfl fun h=> ?_
 have h1:=h 100 (by decide) (by decide)
 have h2:(if GE (BM 0) 100 then(2:Int)else IS CN 100)=2:=h1
 rw[if_neg (by decide),exO.1 (by decide)]at h2
 exact absurd h2 (by decide)
theorem r2C:AI CN BM 2=AI CN BM 1:=by rw[AI,E6,if_neg (by rw[v1C];decide)]
theorem v2C:Bh (AI CN BM 2) (BM 2)=0:=by
 rw[r2C,r1C]
 refine LE rfl rfl (fun m h1 h2=> ?_) fun _ m _ _ h=>h.1 rfl
 have h1:(50:Int)<=m:=h1
 have h2:(m:Int)<100:=h2
 exact if_pos ⟨by show(0:Int)<=m;omega,h2⟩
theorem Z9:AI CN BM 3=⟨(1440,fun m=>if GE (BM 0) m then 2 else IS CN m),(1440,fun m=>if GE (BM 2) m then 3 else 0),(1440,fun m=>if GE (BM 2) m then 30 else 0),(10000,fun _=>false)⟩:=by
 rw[AI,E6,if_pos v2C,r2C,r1C,Nf,if_neg (by decide),if_neg (by decide),if_neg (by decide),if_pos (show(BM 2).kind=4 from rfl)];rfl
theorem v3C:Bh (AI CN BM 3) (BM 3)=0:=by
 rw[Z9]
 exact LE rfl rfl (fun m h1 h2=>absurd h2 (by show¬(m:Int)<0;omega)) fun h=>absurd h (by decide)
def PB(m:Nat):Int:=if m<100 then 2 else if m<600 then 1 else if m<1200 then 2 else 0
theorem O8(hm:m<1440):(AI CN BM 3).ow.2 m=PB m:=by
 rw[Z9]
 show(if GE (BM 0) m then(2:Int)else IS CN m)=_
 unfold PB
 by_cases h:m<100
 ·rw[if_pos h,if_pos ⟨by show(0:Int)<=m;omega,by show(m:Int)<100;omega⟩]
 rw[if_neg h,if_neg (fun q=>h (by have q:(m:Int)<100:=q.2;omega))]
 split
 ·exact exO.1 (by assumption)
 split
 ·exact exO.2.1 (by omega) (by assumption)
 exact exO.2.2 (by omega) hm
theorem Ac5:(AI CN BM 3).le.2 m=if 50<=m/\m<100 then 3 else 0:=by
 rw[Z9]
 show(if GE (BM 2) m then(3:Int)else 0)=_
 have e:GE (BM 2) m↔50<=m/\m<100:=by show(50:Int)<=m/\(m:Int)<100↔_;omega
 simp only[e]
theorem Ab0:(AI CN BM 3).un.2 m=if 50<=m/\m<100 then 30 else 0:=by
 rw[Z9]
 show(if GE (BM 2) m then(30:Int)else 0)=_
 have e:GE (BM 2) m↔50<=m/\m<100:=by show(50:Int)<=m/\(m:Int)<100↔_;omega
 simp only[e]
theorem hrC:B4 (AI CN BM 3) (BM 3)=[⟨4,2⟩,⟨5,1⟩]:=by
 rw[Z9];rfl
theorem ctC(hm:m<=1440):(Ic (AI CN BM 3) (BM 3) m:Int)=if m<100 then(m:Int)else if m<600 then 100 else if m<1200 then m-500 else 700:=by
 show C2 (AI CN BM 3).ow.2 m 2=_
 have p (a d:Nat) (w:Int) (h:∀q,a<=q->q<a+d->PB q=w) (h2:a+d<=1440):=Ja (f:=(AI CN BM 3).ow.2) (a:=a) (w:=w) 2 d fun q q1 q2=>(O8 (by omega)).trans (h q q1 q2)
 have q1 (d:Nat) (h:d<=100):C2 (AI CN BM 3).ow.2 d 2=d:=by
  have:=p 0 d 2 (fun q _ h2=>if_pos (by omega)) (by omega)
  rw[Nat.zero_add,if_pos rfl]at this
  rw[this];show 0+(d:Int)=d;omega
 have q2 (d:Nat) (h:d<=500):C2 (AI CN BM 3).ow.2 (100+d) 2=100:=by
  rw[p 100 d 1 (fun q h1 h2=>by rw[PB,if_neg (by omega),if_pos (by omega)]) (by omega),if_neg (by decide),q1 100 (by omega)];rfl
 have q3 (d:Nat) (h:d<=600):C2 (AI CN BM 3).ow.2 (600+d) 2=100+d:=by
  rw[p 600 d 2 (fun q h1 h2=>by rw[PB,if_neg (by omega),if_neg (by omega),if_pos (by omega)]) (by omega),if_pos rfl,q2 500 (by omega)]
 have q4 (d:Nat) (h:d<=240):C2 (AI CN BM 3).ow.2 (1200+d) 2=700:=by
  rw[p 1200 d 0 (fun q h1 h2=>by rw[PB,if_neg (by omega),if_neg (by omega),if_neg (by omega)]) (by omega),if_neg (by decide),q3 600 (by omega)];rfl
 split
 ·exact q1 m (by omega)
 split
 ·have:=q2 (m-100) (by omega);rwa[show 100+(m-100)=m by omega]at this
 split
 ·have:=q3 (m-600) (by omega);rw[show 600+(m-600)=m by omega]at this;rw[this];omega
 have:=q4 (m-1200) (by omega);rwa[show 1200+(m-1200)=m by omega]at this
theorem eaC:A5 (AI CN BM 3) (BM 3) 0=467/\A5 (AI CN BM 3) (BM 3) 1=233:=by
 have h:(Ic (AI CN BM 3) (BM 3) (AI CN BM 3).ow.1:Int)=700:=by
  have e:(AI CN BM 3).ow.1=1440:=by rw[Z9]
  rw[e,ctC (Nat.le_refl _)];rfl
 unfold A5
 rw[h,hrC]
 exact⟨by decide,by decide⟩
theorem r4C:AI CN BM 4=JK (AI CN BM 3) (BM 3):=by rw[AI,E6,if_pos v3C,Nf,if_pos (show(BM 3).kind=3 from rfl)]
theorem Abt{c:Nat}(h:c<700):ES (A5 (AI CN BM 3) (BM 3)) 2 c=if c<467 then 0 else 1:=by
 obtain⟨e0,e1⟩:=eaC
 split
 ·exact C5 (by decide) (by show(c:Int)<0+_;rw[e0];omega) fun j hj=>by omega
 refine C5 (by decide) (by show(c:Int)<0+_+_;rw[e0,e1];omega) fun j hj=> ?_
 obtain rfl:j=0:=by omega
 show¬(c:Int)<0+_
 rw[e0];omega
def XD(m:Nat):Int:=if m<100 then 4 else if m<600 then 1 else if m<967 then 4 else if m<1200 then 5 else 0
theorem AbX(hm:m<1440):(AI CN BM 4).ow.2 m=XD m:=by
 rw[r4C]
 show(if(AI CN BM 3).ow.2 m=2 then(hl (B4 (AI CN BM 3) (BM 3)) (ES (A5 (AI CN BM 3) (BM 3)) (B4 (AI CN BM 3) (BM 3)).length (Ic (AI CN BM 3) (BM 3) m))).who else(AI CN BM 3).ow.2 m)=_
 rw[O8 hm,hrC]
 have hc:=ctC (m:=m) (by omega)
 have hh:= @Abt (Ic (AI CN BM 3) (BM 3) m)
 show(if PB m=2 then(hl [⟨4,2⟩,⟨5,1⟩] (ES (A5 (AI CN BM 3) (BM 3)) 2 (Ic (AI CN BM 3) (BM 3) m))).who else PB m)=_
 unfold PB XD
 by_cases m1:m<100
 ·rw[if_pos m1]at hc
  rw[if_pos m1,if_pos m1,if_pos rfl,hh (by omega),if_pos (by omega)];rfl
 by_cases m2:m<600
 ·rw[if_neg m1,if_neg m1,if_pos m2,if_pos m2,if_neg (by decide)]
 rw[if_neg m1,if_neg m2]at hc
 rw[if_neg m1,if_neg m1,if_neg m2,if_neg m2]
 by_cases m3:m<1200
 ·rw[if_pos m3]at hc
  rw[if_pos m3,if_pos rfl,hh (by omega)]
  by_cases m4:m<967
  ·rw[if_pos m4,if_pos (by omega)];rfl
  rw[if_neg m4,if_pos m3,if_neg (by omega)];rfl
 rw[if_neg m3,if_neg (by decide),if_neg (by omega),if_neg m3]
def Yk(m:Nat):Int:=if m<50 then 2 else if m<100 then 3 else if m<600 then 1 else if m<1200 then 2 else 0
theorem SG(hm:m<1440):FU (AI CN BM 3) m 20=Yk m:=by
 unfold FU
 rw[Ac5,Ab0,O8 hm]
 unfold Yk PB
 by_cases m1:m<50
 ·rw[if_neg (fun h=>h.1 (if_neg (by omega))),if_pos m1,if_pos (by omega)]
 by_cases m2:m<100
 ·have e:50<=m/\m<100:=⟨by omega,m2⟩
  rw[if_pos e,if_pos e,if_pos ⟨by decide,by decide⟩,if_neg m1,if_pos m2]
 rw[if_neg (fun h=>h.1 (if_neg (by omega))),if_neg m1,if_neg m2,if_neg m2]
def RS(f:Nat->Int)(a n:Nat)(L:Nat->Ho):Prop:=(Ap f a).1=n/\∀i,i<n->(Ap f a).2 i=L i
theorem RS.next{f:Nat->Int}{a:Nat}{L:Nat->Ho}(h:RS f a n L)(b:Nat)(w:Int)(hd:a<b)(hf:∀q,a<=q->q<b->f q=w)(hn:n=0\/(L (n-1)).who≠w)(hL:L n=⟨w,⟨(a:Int),(b:Int)⟩⟩):RS f b (n+1) L:=by
 obtain⟨d,rfl⟩:∃d,b=a+d:=⟨b-a,by omega⟩
 obtain⟨h1,h2⟩:=h
 obtain⟨j1,j2,j3⟩:=Gv (f:=f) (w:=w) (a:=a) (fun q=>by
  rw[h1]at q
  rcases hn with hn|hn
  ·omega
  rw[h2 (n-1) (by omega)]at q;exact hn q.2) (d:=d) (by omega) hf
 rw[h1]at j1 j2 j3
 refine⟨j1,fun i hi=> ?_⟩
 by_cases e:i=n
 ·subst e;rw[j3,hL]
 rw[j2 i (by omega),h2 i (by omega)]
def SS(c:Int->Int)(k n:Nat)(L:Nat->Hs):Prop:=(Cr c k).1=n/\∀i,i<n->(Cr c k).2 i=L i
theorem SS.skip{c:Int->Int}{L:Nat->Hs}(h:SS c k n L):∀d:Nat,(∀q:Nat,k<=q->q<k+d->c q<=0)->SS c (k+d) n L
 |0,_=>h
 |d+1,hz=>by
  have ih:=SS.skip h d fun q q1 q2=>hz q q1 (by omega)
  have:=hz (k+d) (by omega) (by omega)
  show(Cr c (k+d+1)).1=n/\∀i,i<n->(Cr c (k+d+1)).2 i=L i
  rw[Cr,if_neg (by omega)]
  exact ih
theorem SS.add{c:Int->Int}{L:Nat->Hs}(h:SS c k n L){v:Int}(hc:c k=v)(hv:0<v)(hL:L n=⟨k,v⟩):SS c (k+1) (n+1) L:=by
 obtain⟨h1,h2⟩:=h
 unfold SS
 rw[Cr,if_pos (by omega)]
 refine⟨by show(Cr c k).1+1=_;rw[h1],fun i hi=> ?_⟩
 show(if i<(Cr c k).1 then(Cr c k).2 i else⟨k,c k⟩)=_
 rw[h1]
 by_cases e:i=n
 ·subst e;rw[if_neg (Nat.lt_irrefl _),hc,hL]
 rw[if_pos (by omega),h2 i (by omega)]
def YN:Nat->Ho
 |0=>⟨2,⟨0,100⟩⟩
 |1=>⟨1,⟨100,600⟩⟩
 |2=>⟨2,⟨600,1200⟩⟩
 |_=>⟨0,⟨1200,1440⟩⟩
def Za:Nat->Ho
 |0=>⟨2,⟨0,50⟩⟩
 |1=>⟨3,⟨50,100⟩⟩
 |2=>⟨1,⟨100,600⟩⟩
 |3=>⟨2,⟨600,1200⟩⟩
 |_=>⟨0,⟨1200,1440⟩⟩
def Zg:Nat->Hs
 |0=>⟨0,240⟩
 |1=>⟨1,500⟩
 |2=>⟨4,467⟩
 |_=>⟨5,233⟩
theorem Aao:RS (AI CN BM 3).ow.2 1440 4 YN:=by
 have h0:RS (AI CN BM 3).ow.2 0 0 YN:=⟨rfl,fun i hi=>by omega⟩
 have h1:=h0.next 100 2 (by omega) (fun q q1 q2=>by rw[O8 (by omega),PB,if_pos q2]) (.inl rfl) rfl
 have h2:=h1.next 600 1 (by omega) (fun q q1 q2=>by rw[O8 (by omega),PB,if_neg (by omega),if_pos q2]) (.inr (by decide)) rfl
 have h3:=h2.next 1200 2 (by omega) (fun q q1 q2=>by rw[O8 (by omega),PB,if_neg (by omega),if_neg (by omega),if_pos q2]) (.inr (by decide)) rfl
 exact h3.next 1440 0 (by omega) (fun q q1 q2=>by rw[O8 (by omega),PB,if_neg (by omega),if_neg (by omega),if_neg (by omega)]) (.inr (by decide)) rfl
theorem Aav:RS (fun m=>FU (AI CN BM 3) m 20) 1440 5 Za:=by
 have h0:RS (fun m=>FU (AI CN BM 3) m 20) 0 0 Za:=⟨rfl,fun i hi=>by omega⟩
 have h1:=h0.next 50 2 (by omega) (fun q q1 q2=>by rw[SG (by omega),Yk,if_pos q2]) (.inl rfl) rfl
 have h2:=h1.next 100 3 (by omega) (fun q q1 q2=>by rw[SG (by omega),Yk,if_neg (by omega),if_pos q2]) (.inr (by decide)) rfl
 have h3:=h2.next 600 1 (by omega) (fun q q1 q2=>by rw[SG (by omega),Yk,if_neg (by omega),if_neg (by omega),if_pos q2]) (.inr (by decide)) rfl
 have h4:=h3.next 1200 2 (by omega) (fun q q1 q2=>by rw[SG (by omega),Yk,if_neg (by omega),if_neg (by omega),if_neg (by omega),if_pos q2]) (.inr (by decide)) rfl
 exact h4.next 1440 0 (by omega) (fun q q1 q2=>by rw[SG (by omega),Yk,if_neg (by omega),if_neg (by omega),if_neg (by omega),if_neg (by omega)]) (.inr (by decide)) rfl
theorem S0(k:Int):C2 (AI CN BM 4).ow.2 1440 k=(if(4:Int)=k then 467 else 0)+(if(1:Int)=k then 500 else 0)+(if(5:Int)=k then 233 else 0)+if(0:Int)=k then 240 else 0:=by
 have p (a d:Nat) (w:Int) (h:∀q,a<=q->q<a+d->XD q=w) (h2:a+d<=1440):=Ja (f:=(AI CN BM 4).ow.2) (a:=a) (w:=w) k d fun q q1 q2=>(AbX (by omega)).trans (h q q1 q2)
 have q1:=p 0 100 4 (fun q h1 h2=>by rw[XD,if_pos (by omega)]) (by omega)
 have q2:=p 100 500 1 (fun q h1 h2=>by rw[XD,if_neg (by omega),if_pos (by omega)]) (by omega)
 have q3:=p 600 367 4 (fun q h1 h2=>by rw[XD,if_neg (by omega),if_neg (by omega),if_pos (by omega)]) (by omega)
 have q4:=p 967 233 5 (fun q h1 h2=>by rw[XD,if_neg (by omega),if_neg (by omega),if_neg (by omega),if_pos (by omega)]) (by omega)
 have q5:=p 1200 240 0 (fun q h1 h2=>by rw[XD,if_neg (by omega),if_neg (by omega),if_neg (by omega),if_neg (by omega)]) (by omega)
 have q0:C2 (AI CN BM 4).ow.2 0 k=0:=rfl
 simp only[Nat.zero_add,Nat.reduceAdd]at q1 q2 q3 q4 q5
 rw[q5,q4,q3,q2,q1,q0]
 split<;>split<;>split<;>split<;>omega
theorem PK:SS (C2 (AI CN BM 4).ow.2 1440) 10000 4 Zg:=by
 have z:∀q:Nat,q≠0->q≠1->q≠4->q≠5->C2 (AI CN BM 4).ow.2 1440 q<=0:=fun q e0 e1 e4 e5=>by
  rw[S0,if_neg (by omega),if_neg (by omega),if_neg (by omega),if_neg (by omega)];decide
 have h0:SS (C2 (AI CN BM 4).ow.2 1440) 0 0 Zg:=⟨rfl,fun i hi=>by omega⟩
 have h1:=h0.add (v:=240) (by rw[S0];rfl) (by decide) rfl
 have h2:=h1.add (v:=500) (by rw[S0];rfl) (by decide) rfl
 have h3:=h2.skip 2 fun q q1 q2=>z q (by omega) (by omega) (by omega) (by omega)
 have h4:=h3.add (v:=467) (by rw[S0];rfl) (by decide) rfl
 have h5:=h4.add (v:=233) (by rw[S0];rfl) (by decide) rfl
 exact h5.skip 9994 fun q q1 q2=>z q (by omega) (by omega) (by omega) (by omega)
end Go.Proofs.YtlieoghhkioflaaGreat
namespace Go.Proofs.YtlieoghhkioflaaGreat
open Go Go.RowKit
variable{G:Nat->Option (Nat×(Nat->Ad))}
abbrev Vc:=Nat×(Nat->Bd)
end Go.Proofs.YtlieoghhkioflaaGreat
namespace Go.Proofs.YtlieoghhkioflaaGreat
open Go Go.RowKit
variable{G:Nat->Option (Nat×(Nat->Ad))}
noncomputable def OS:As:=Cq VN VN (fun _ _=>True) fun a b=> .bool (decide (a.til<=b.fro)||decide (b.til<=a.fro))
theorem ZB:Ah Tryz.prog G 78 OS:=by
 refine Kq (S:=[]) (I:=[]) mixed .nil .nil Tryz.func78 c78 fun a b _ hw=> ?_
 simp only[go_sem]at hw
 simp only[A3,a78,↓reduceIte,reduceCtorEq,Nat.reduceEqDiff,Nat.reduceAdd,Nat.reduceLeDiff,go_sem]
 refine⟨fun h=>by simp[h],fun h=>by simp[h]⟩
end Go.Proofs.YtlieoghhkioflaaGreat
