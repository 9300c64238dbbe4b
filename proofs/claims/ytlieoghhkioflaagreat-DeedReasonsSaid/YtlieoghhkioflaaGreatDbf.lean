/- Deeds: lists of deeds that are done; later deeds, and void ones, change nothing, plain. No condition. -/
import Derived.Test.YtlieoghhkioflaaGreatDPvP
set_option linter.unusedSimpArgs false
set_option linter.unusedVariables false
namespace Go.Proofs.YtlieoghhkioflaaGreat
variable{Y:FL}{d:Int}{r:Ro}
theorem Lg{x:De}:∀{L:List De},(∀y∈L,¬Bl x y)->GA x L=L++[x]
 |[],_=>rfl
 |y::L,h=>by
  rw[GA,if_neg (h y (by simp)),Lg fun z hz=>h z (by simp[hz])];rfl
structure PC(r:Ro)(Y:FL):Prop where
 n:Y.1<=60
 ok:∀i,i<Y.1->C3 r (Y.2 i)
 ids:∀i k,i<k->k<Y.1->(Y.2 i).id≠(Y.2 k).id
 asc:∀i k,i<k->k<Y.1->Bl (Y.2 i) (Y.2 k)
theorem PC.ask(hr:D9 r)(h:PC r Y):BS r Y=0:=by
 have h2:A4 (∀i,i<Y.1->∀k,k<i->(Y.2 i).id=(Y.2 k).id->C8 (Y.2 i) (Y.2 k))=true:=As fun i hi k hk he=>absurd he.symm (h.ids k i hk hi)
 have h3:¬60<Y.1:=by have:=h.n;omega
 rw[BS,As hr,if_pos rfl,CY,if_neg h3,As h.ok,if_pos rfl,h2,if_pos rfl]
theorem PC.done(h:PC r Y):∀k,k<=Y.1->Bm Y k=(List.range k).map Y.2
 |0,_=>rfl
 |k+1,hk=>by
  have h1:Iv Y k=true:=As fun j hj=>h.ids j k hj (by omega)
  rw[Bm,h1,if_pos rfl,PC.done h k (by omega),Lg fun y hy=> ?_,List.range_succ,List.map_append]
  ·rfl
  obtain⟨j,hj,rfl⟩:=List.mem_map.1 hy
  have hj:=List.mem_range.1 hj
  have:=h.asc j k hj (by omega)
  unfold Bl at this⊢
  omega
theorem PC.dn(h:PC r Y):(Dj Y).1=Y.1/\∀i,i<Y.1->(Dj Y).2 i=Y.2 i:=by
 unfold Dj
 rw[h.done Y.1 (Nat.le_refl _)]
 refine⟨by simp,fun i hi=> ?_⟩
 show(List.getD _ i de0)=_
 rw[List.getD_eq_getElem?_getD,List.getElem?_map,List.getElem?_range hi];rfl
theorem Up{L:List De}{i:Nat}(h:i<L.length):lD L i=L[i]:=by
 unfold lD;rw[List.getD_eq_getElem?_getD,List.getElem?_eq_getElem h];rfl
theorem YX{l:FL}(ha:BS r l=0):PC r (Dj l):=by
 have hs:=Ea l l.1
 have has:∀i k,i<k->k<(Dj l).1->Bl ((Dj l).2 i) ((Dj l).2 k):=fun i k hik hk=>by
  have hk:k<(Bm l l.1).length:=hk
  show Bl (lD (Bm l l.1) i) (lD (Bm l l.1) k)
  rw[Up hk,Up (show i<(Bm l l.1).length by omega)]
  exact List.pairwise_iff_getElem.1 hs i k (by omega) hk hik
 refine⟨by have:=Je l;have:=(Dr ha).2.1;omega,Xh ha,fun i k hik hk he=> ?_,has⟩
 obtain⟨a,a1,a2,a3⟩:=Fp l i (by omega)
 obtain⟨b,b1,b2,b3⟩:=Fp l k hk
 have hb:=has i k hik hk
 rw[a3,b3]at he hb
 rcases Nat.lt_trichotomy a b with q|q|q
 ·exact(AN.1 b2) a q he
 ·subst q;unfold Bl at hb;omega
 exact(AN.1 a2) b q he.symm
theorem P1{f g:Nat->De}:∀k,(∀i,i<k->f i=g i)->AE r f k=AE r g k
 |0,_=>rfl
 |k+1,h=>by rw[AE,AE,P1 k fun i hi=>h i (by omega),h k (by omega)]
theorem VM{k:Nat}(hk:k<=Y.1)(h1:∀i,i<k->(Y.2 i).day<=d)(h2:k<Y.1->d<(Y.2 k).day):B3 Y d=k:=by
 unfold B3
 by_cases e:k=Y.1
 ·rw[e]
  exact Gr fun j hj=>by have:=h1 j (by omega);omega
 exact CN (by omega) (h2 (by omega)) fun j hj=>by have:=h1 j hj;omega
theorem Vy(Y:FL)(d:Int):(∀i,i<B3 Y d->(Y.2 i).day<=d)/\(B3 Y d<Y.1->d<(Y.2 (B3 Y d)).day):=by
 rcases Bi (fun i=>d<(Y.2 i).day) Y.1 with⟨g1,g2,g3⟩|⟨g1,g2⟩
 ·exact⟨fun i hi=>by have:=g3 i hi;omega,fun _=>g2⟩
 have g1:B3 Y d=Y.1:=g1
 exact⟨fun i hi=>by have:=g2 i (by omega);omega,fun h=>by omega⟩
theorem PC.day(h:PC r Y){j:Nat}(hj:j<Y.1):(Y.2 j).day<=d↔j<B3 Y d:=by
 obtain⟨h1,h2⟩:=Vy Y d
 constructor
 ·intro q
  rcases Nat.lt_or_ge j (B3 Y d)with g|g
  ·exact g
  have h3:=h2 (by omega)
  by_cases e:j=B3 Y d
  ·rw[e]at q;omega
  have:=h.asc (B3 Y d) j (by omega) hj
  unfold Bl at this;omega
 exact h1 j
theorem PC.bk(h:PC r Y){e:Nat}(he:e<=Y.1)(h1:∀i,i<e->(Y.2 i).day<=d)(h2:e<Y.1->d<(Y.2 e).day):Kl r Y d=AE r Y.2 e:=by
 obtain⟨g1,g2⟩:=h.dn
 have hu:B3 (Dj Y) d=e:=VM (by omega) (fun i hi=>by rw[g2 i (by omega)];exact h1 i hi) fun q=>by rw[g2 e (by omega)];exact h2 (by omega)
 unfold Kl
 rw[hu]
 exact P1 e fun i hi=>g2 i (by omega)
end Go.Proofs.YtlieoghhkioflaaGreat
namespace Go.Proofs.YtlieoghhkioflaaGreat
open Go Go.RowKit
variable{G:Nat->Option (Nat×(Nat->Ae))}
attribute [go_sem] AaF AaX ZR AcP AbS Ab2 AcW Abe AbO
theorem Yb{r:Ro}{l:FL}(ha:BS r l=0):ZZ r l= .tup (.cons (.view 9 (Dj l).1 fun i j=>((Dj l).2 i).c j) (.cons (.view 1 (Dj l).1 fun i _=> .int .u8 (BE (AE r (Dj l).2 i) ((Dj l).2 i))) (.cons (.int .i64 0) .nil))):=by
 rw[ZZ,if_pos ha];rfl
end Go.Proofs.YtlieoghhkioflaaGreat
namespace Go.Proofs.YtlieoghhkioflaaGreat
variable{r:Ro}
noncomputable def UY(r:Ro)(X:Nat->De)(i:Nat):Int:=BE (AE r X i) (X i)
noncomputable def IT(r:Ro)(X:Nat->De)(m:Nat):Nat->Int×Int
 |0=>(0,0)
 |j+1=>if UY r X j≠0 then IT r X m j else if(X j).kind=4 then(if EK (X j) m then((X j).til,(X j).tow)else IT r X m j)else if(X j).kind=3/\(X j).fro=(IT r X m j).2 then(0,(IT r X m j).2)else IT r X m j
def ScI(b:Bk)(m:Nat)(q:Int×Int):Prop:=(q.1=0/\b.le.2 m=0)\/(1<=q.2/\b.le.2 m=q.2/\b.un.2 m=q.1/\0<q.1)
theorem Xi{X:Nat->De}(m:Nat):∀k,(∀i,i<k->C3 r (X i))->ScI (AE r X k) m (IT r X m k)
 |0,_=> .inl ⟨rfl,rfl⟩
 |k+1,h=>by
  have ih:=Xi m k fun i hi=>h i (by omega)
  have hx:=h k (by omega)
  rw[IT,AE,E3]
  by_cases hv:UY r X k=0
  ·have hv':BE (AE r X k) (X k)=0:=hv
   rw[if_neg (show¬(UY r X k≠0)from fun q=>q hv),if_pos hv']
   generalize AE r X k=b at*
   generalize IT r X m k=q at*
   have hf:1<=(X k).fro:=hx.2.2.2.2.1
   by_cases h4:(X k).kind=4
   ·rw[if_pos h4,Lj,if_neg (by omega),if_neg (by omega),if_neg (by omega),if_pos h4]
    have ht:1<=(X k).tow/\0<(X k).til:=by
     obtain⟨_,_,a3,_,_,_,h7⟩:=hx
     unfold Em at h7
     rcases h7 with⟨h,_⟩|⟨h,_⟩|⟨h,_⟩|⟨h,h7,_,h8,_⟩<;>omega
    unfold ScI
    show((if EK (X k) m then((X k).til,(X k).tow)else q).1=0/\(if EK (X k) m then(X k).tow else b.le.2 m)=0)\/(1<=(if EK (X k) m then((X k).til,(X k).tow)else q).2/\(if EK (X k) m then(X k).tow else b.le.2 m)=(if EK (X k) m then((X k).til,(X k).tow)else q).2/\(if EK (X k) m then(X k).til else b.un.2 m)=(if EK (X k) m then((X k).til,(X k).tow)else q).1/\0<(if EK (X k) m then((X k).til,(X k).tow)else q).1)
    by_cases hi:EK (X k) m
    ·simp only[if_pos hi];exact .inr ⟨ht.1,trivial,trivial,ht.2⟩
    simp only[if_neg hi];exact ih
   rw[if_neg h4]
   by_cases h3:(X k).kind=3
   ·rw[Lj,if_pos h3]
    unfold ScI
    show _/\(if b.le.2 m=(X k).fro then 0 else b.le.2 m)=0\/_/\(if b.le.2 m=(X k).fro then 0 else b.le.2 m)=_/\b.un.2 m=_/\_
    rcases ih with⟨a1,a2⟩|⟨a1,a2,a3,a4⟩
    ·left
     rw[if_neg (show¬b.le.2 m=(X k).fro by omega)]
     split
     ·exact⟨rfl,a2⟩
     exact⟨a1,a2⟩
    by_cases e:(X k).fro=q.2
    ·rw[if_pos ⟨h3,e⟩,if_pos (by omega)];exact .inl ⟨rfl,rfl⟩
    rw[if_neg (fun g=>e g.2),if_neg (by omega)];exact .inr ⟨a1,a2,a3,a4⟩
   rw[if_neg (fun g=>h3 g.1),Lj,if_neg h3]
   split
   ·exact ih
   split
   ·exact ih
   exact ih
  have hv':¬BE (AE r X k) (X k)=0:=hv
  rw[if_pos (show UY r X k≠0 from hv),if_neg hv'];exact ih
theorem Zv{b:Bk}{m:Nat}{q:Int×Int}(h:ScI b m q){d:Int}(hd:0<=d):(b.le.2 m≠0/\d<b.un.2 m)↔d<q.1:=by
 rcases h with⟨a1,a2⟩|⟨a1,a2,a3,a4⟩
 ·exact⟨fun g=>absurd a2 g.1,fun g=>by omega⟩
 exact⟨fun g=>by rw[<-a3];exact g.2,fun g=>⟨by omega,by rw[a3];exact g⟩⟩
def JJ(r:Ro)(X:Nat->De)(k:Nat)(q:Int):Prop:=∃i,i<k/\UY r X i=0/\(X i).kind=3/\(X i).fro=q
theorem LL{X:Nat->De}{q:Int}(hq:0<=q):∀k,(∀i,i<k->C3 r (X i))->((AE r X k).de.2 q.toNat=true↔JJ r X k q)
 |0,_=>⟨fun h=>(by cases h),fun⟨i,hi,_⟩=>absurd hi (Nat.not_lt_zero _)⟩
 |k+1,h=>by
  have ih:=LL hq k fun i hi=>h i (by omega)
  have hx:=h k (by omega)
  have hf:1<=(X k).fro:=hx.2.2.2.2.1
  have hup:JJ r X k q->JJ r X (k+1) q:=fun⟨i,i1,i2⟩=>⟨i,by omega,i2⟩
  have hdn:JJ r X (k+1) q->¬(UY r X k=0/\(X k).kind=3/\(X k).fro=q)->JJ r X k q:=fun⟨i,i1,i2⟩ hn=>by
   by_cases e:i=k
   ·subst e;exact absurd i2 hn
   exact⟨i,by omega,i2⟩
  rw[AE,E3]
  by_cases hv:BE (AE r X k) (X k)=0
  ·rw[if_pos hv]
   by_cases h3:(X k).kind=3
   ·rw[Lj,if_pos h3]
    show(if q.toNat=(X k).fro.toNat then true else(AE r X k).de.2 q.toNat)=true↔_
    by_cases e:(X k).fro=q
    ·rw[if_pos (by rw[e])]
     exact⟨fun _=>⟨k,by omega,hv,h3,e⟩,fun _=>rfl⟩
    rw[if_neg (by omega),ih]
    exact⟨hup,fun g=>hdn g fun n=>e n.2.2⟩
   have e:(Lj (AE r X k) (X k)).de=(AE r X k).de:=by
    unfold Lj
    rw[if_neg h3]
    split
    ·rfl
    split
    ·rfl
    split<;>rfl
   rw[e,ih]
   exact⟨hup,fun g=>hdn g fun n=>h3 n.2.1⟩
  rw[if_neg hv,ih]
  exact⟨hup,fun g=>hdn g fun n=>hv n.1⟩
theorem XX{X:FL}(hr:D9 r)(h:PC r X){k:Nat}(hk:k<X.1):BS r (k,X.2)=0/\Kl r (k,X.2) (X.2 k).day=AE r X.2 k:=by
 have hf:PC r (k,X.2):=⟨by have:=h.n;show k<=60;omega,fun i hi=>h.ok i (by have hi:i<k:=hi;omega),fun i j hij hj=>h.ids i j hij (by have hj:j<k:=hj;omega),fun i j hij hj=>h.asc i j hij (by have hj:j<k:=hj;omega)⟩
 refine⟨hf.ask hr,hf.bk (Nat.le_refl _) (fun i hi=> ?_) fun q=>absurd q (Nat.lt_irrefl _)⟩
 have:=h.asc i k hi hk
 unfold Bl at this
 show(X.2 i).day<=_
 omega
end Go.Proofs.YtlieoghhkioflaaGreat
