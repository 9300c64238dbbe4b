/- What is done to the pieces of a book, plain. No condition. -/
import Derived.Test.YtlieoghhkioflaaGreatDr2
import Derived.Test.YtlieoghhkioflaaGreatLDez
set_option linter.unusedSimpArgs false
set_option linter.unusedVariables false
namespace Go.Proofs.YtlieoghhkioflaaGreat
open Go Go.RowKit
variable{b:Bk}{N:Nat}{P:Pz}
def setO(P:Pz)(f l:Nat)(v:Int):Pz:=(P.1,fun k=>if f<=k/\k<=l then{P.2 k with owner:=v}else P.2 k)
def NG(P:Pz)(f l:Nat)(v u:Int):Pz:=(P.1,fun k=>if f<=k/\k<=l then{P.2 k with lent:=v,til:=u}else P.2 k)
theorem Ff(P:Pz)(f l:Nat)(v:Int)(k:Nat):((setO P f l v).2 k).turn=(P.2 k).turn:=by
 show(if f<=k/\k<=l then{P.2 k with owner:=v}else P.2 k).turn=_
 split<;>rfl
theorem KJ(P:Pz)(f l:Nat)(v u:Int)(k:Nat):((NG P f l v u).2 k).turn=(P.2 k).turn:=by
 show(if f<=k/\k<=l then{P.2 k with lent:=v,til:=u}else P.2 k).turn=_
 split<;>rfl
theorem BG.same{Q:Pz}(h:BG N P)(h1:Q.1=P.1)(h2:∀k,(Q.2 k).turn=(P.2 k).turn):BG N Q:=
 ⟨by rw[h1];exact h.pos,by rw[h2];exact h.beg,fun i hi=>by rw[h2];exact h.lt i (by omega),fun i hi=>by rw[h2,h2];exact h.nxt i (by omega),by rw[h1,h2];exact h.fin⟩
theorem P4{x:De}(h:Oh N P x.turn)(hr:Rp P b)(v:Int):Rp (setO P (Cn P x.turn) (CS P x.turn) v) ⟨(b.ow.1,fun m=>if GE x m then v else b.ow.2 m),b.le,b.un,b.de⟩:=by
 refine⟨fun i hi m m1 m2=> ?_,fun i hi m m1 m2=> ?_,fun i hi m m1 m2 m3=> ?_⟩
 all_goals
  have hi:i<P.1:=hi
  rw[Ff]at m1 m2
 ·have hm:=h.mem hi m1 m2
  show(if GE x m then v else b.ow.2 m)=(if Cn P x.turn<=i/\i<=CS P x.turn then{P.2 i with owner:=v}else P.2 i).owner
  by_cases e:Cn P x.turn<=i/\i<=CS P x.turn
  ·rw[if_pos e,if_pos (show GE x m from hm.2 e)]
  rw[if_neg e,if_neg (show¬GE x m from fun k=>e (hm.1 k))];exact hr.ow i hi m m1 m2
 ·show b.le.2 m=(if Cn P x.turn<=i/\i<=CS P x.turn then{P.2 i with owner:=v}else P.2 i).lent
  rw[hr.le i hi m m1 m2];split<;>rfl
 show b.un.2 m=(if Cn P x.turn<=i/\i<=CS P x.turn then{P.2 i with owner:=v}else P.2 i).til
 have m3:(if Cn P x.turn<=i/\i<=CS P x.turn then{P.2 i with owner:=v}else P.2 i).lent≠0:=m3
 rw[hr.un i hi m m1 m2 (by split at m3<;>exact m3)];split<;>rfl
theorem Wz{x:De}(h:Oh N P x.turn)(hr:Rp P b)(v u:Int):Rp (NG P (Cn P x.turn) (CS P x.turn) v u) ⟨b.ow,(b.le.1,fun m=>if GE x m then v else b.le.2 m),(b.un.1,fun m=>if GE x m then u else b.un.2 m),b.de⟩:=by
 refine⟨fun i hi m m1 m2=> ?_,fun i hi m m1 m2=> ?_,fun i hi m m1 m2 m3=> ?_⟩
 all_goals
  have hi:i<P.1:=hi
  rw[KJ]at m1 m2
  have hm:=h.mem hi m1 m2
 ·show b.ow.2 m=(if Cn P x.turn<=i/\i<=CS P x.turn then{P.2 i with lent:=v,til:=u}else P.2 i).owner
  rw[hr.ow i hi m m1 m2];split<;>rfl
 ·show(if GE x m then v else b.le.2 m)=(if Cn P x.turn<=i/\i<=CS P x.turn then{P.2 i with lent:=v,til:=u}else P.2 i).lent
  by_cases e:Cn P x.turn<=i/\i<=CS P x.turn
  ·rw[if_pos e,if_pos (show GE x m from hm.2 e)]
  rw[if_neg e,if_neg (show¬GE x m from fun k=>e (hm.1 k))];exact hr.le i hi m m1 m2
 have m3:(if Cn P x.turn<=i/\i<=CS P x.turn then{P.2 i with lent:=v,til:=u}else P.2 i).lent≠0:=m3
 show(if GE x m then u else b.un.2 m)=(if Cn P x.turn<=i/\i<=CS P x.turn then{P.2 i with lent:=v,til:=u}else P.2 i).til
 by_cases e:Cn P x.turn<=i/\i<=CS P x.turn
 ·rw[if_pos e,if_pos (show GE x m from hm.2 e)]
 rw[if_neg e]at m3
 rw[if_neg e,if_neg (show¬GE x m from fun k=>e (hm.1 k))];exact hr.un i hi m m1 m2 m3
def opZ(r:Ro):Pz:=(r.holds.1,fun i=>⟨(r.holds.2 i).turn,(r.holds.2 i).who,0,0⟩)
theorem XU{r:Ro}(h:EL r):BG (Ca r) (opZ r):=by
 obtain⟨h1,h2,h3,h4,h5,h6⟩:=h
 have hN:((Ca r:Nat):Int)=1440*r.days:=by unfold Ca;omega
 refine⟨h3,?_,fun i hi=>(h5 i hi).2.2.2.1,fun i hi=> ?_,?_⟩
 ·exact(h5 0 (by omega)).2.2.1
 ·have:=(h5 (i+1) hi).2.2.1
  unfold Jv at this
  rw[if_neg (by omega)]at this
  exact this
 unfold Jv at h6
 rw[if_neg (by omega)]at h6
 exact h6.trans hN.symm
theorem Abx{r:Ro}(h:EL r):Rp (opZ r) (W2 r):=by
 have hk:=XU h
 refine⟨fun i hi m m1 m2=> ?_,fun i hi m m1 m2=>rfl,fun i hi m m1 m2 m3=>absurd rfl m3⟩
 show(r.holds.2 (Co (fun i=>(m:Int)<(r.holds.2 i).turn.til) r.holds.1)).who=(r.holds.2 i).who
 have:Co (fun i=>(m:Int)<(r.holds.2 i).turn.til) r.holds.1=i:=C5 hi m2 fun j hj=>by
  have h1:(r.holds.2 j).turn.til<=((opZ r).2 i).turn.fro:=hk.mono hj hi
  intro k
  omega
 rw[this]
theorem W7(hr:Rp P b)(d:Int){i:Nat}(hi:i<P.1){m:Nat}(m1:(P.2 i).turn.fro<=m)(m2:(m:Int)<(P.2 i).turn.til):(if(P.2 i).lent≠0/\d<(P.2 i).til then(P.2 i).lent else(P.2 i).owner)=if b.le.2 m≠0/\d<b.un.2 m then b.le.2 m else b.ow.2 m:=by
 have e1:=hr.le i hi m m1 m2
 have e2:=hr.ow i hi m m1 m2
 rw[e1,e2]
 by_cases e:(P.2 i).lent=0
 ·rw[if_neg (fun k=>k.1 e),if_neg (fun k=>k.1 e)]
 rw[hr.un i hi m m1 m2 e]
end Go.Proofs.YtlieoghhkioflaaGreat
namespace Go.Proofs.YtlieoghhkioflaaGreat
open Go Go.RowKit
variable{N c:Nat}{P:Pz}
def EJ(ow:Nat->Int)(f:Int)(m:Nat):Nat:=E4 (fun q=>decide (ow q=f)) m
theorem PL(ow:Nat->Int)(f:Int)(m:Nat):EJ ow f (m+1)=if ow m=f then EJ ow f m+1 else EJ ow f m:=by
 show E4 _ (m+1)=_
 rw[E4];simp only[decide_eq_true_eq];rfl
theorem Tx(ow:Nat->Int)(f:Int){a b:Nat}(h:a<=b):EJ ow f a<=EJ ow f b:=Z3 _ h
theorem I5(ow:Nat->Int)(f:Int):∀a,c<EJ ow f a->∃q,q<a/\ow q=f/\EJ ow f q=c
 |0,h=>absurd h (Nat.not_lt_zero _)
 |a+1,h=>by
  rw[PL]at h
  by_cases e:ow a=f
  ·rw[if_pos e]at h
   by_cases e2:EJ ow f a=c
   ·exact⟨a,by omega,e,e2⟩
   obtain⟨q,h1,h2⟩:=I5 ow f a (by omega);exact⟨q,by omega,h2⟩
  rw[if_neg e]at h
  obtain⟨q,h1,h2⟩:=I5 ow f a h;exact⟨q,by omega,h2⟩
theorem LJ(ow:Nat->Int)(f:Int){a:Nat}:∀d,(∀q,a<=q->q<a+d->ow q=f)->EJ ow f (a+d)=EJ ow f a+d
 |0,_=>rfl
 |d+1,h=>by
  rw[<-Nat.add_assoc,PL,if_pos (h (a+d) (by omega) (by omega)),LJ ow f d fun q h1 h2=>h q h1 (by omega)];omega
def dW(ow:Nat->Int)(f:Int)(g:Nat->Int)(c m:Nat):Int:=if ow m=f/\EJ ow f m<c then g (EJ ow f m)else ow m
noncomputable def Fo(P:Pz)(f:Int):Nat:=Co (fun i=>(P.2 i).owner=f) P.1
theorem Tm(h:BG N P){k:Nat}(hk:k<P.1){e:Int}(h1:(P.2 k).turn.fro<e)(h2:e<=(P.2 k).turn.til):k<(CT P e).1/\(CT P e).2 k={P.2 k with turn:=⟨(P.2 k).turn.fro,e⟩}:=by
 by_cases e1:e=(P.2 k).turn.til
 ·have:Co (K9 P e) P.1=P.1:=HK fun j hj ⟨c1,c2⟩=>by
   rcases Nat.lt_trichotomy j k with c|c|c
   ·have:=h.mono c hk;omega
   ·subst c;omega
   have:=h.mono c hj;omega
  unfold CT
  rw[this,if_neg (Nat.lt_irrefl _),e1]
  exact⟨hk,rfl⟩
 have:Co (K9 P e) P.1=k:=C5 hk ⟨h1,by omega⟩ fun j hj ⟨c1,c2⟩=>by have:=h.mono hj hk;omega
 unfold CT
 rw[this,if_pos hk]
 refine⟨by show k<P.1+1;omega,?_⟩
 show Dz P.2 k e k=_
 unfold Dz
 rw[if_neg (Nat.lt_irrefl _),if_pos rfl]
theorem E7{le un:Nat×(Nat->Int)}{de:Nat×(Nat->Bool)}{n:Nat}{ow:Nat->Int}{f:Int}{g:Nat->Int}(hk:BG N P)(hr:Rp P ⟨(n,dW ow f g c),le,un,de⟩)(hg:∀j,g j≠f)(hc:c<EJ ow f N):
  ∃a:Nat,Fo P f<P.1/\(P.2 (Fo P f)).turn.fro=a/\EJ ow f a=c/\(∀q,q<a->ow q=f->EJ ow f q<c)/\∀q:Nat,a<=q->(q:Int)<(P.2 (Fo P f)).turn.til->ow q=f:=by
 have no:∀m,dW ow f g c m=f->ow m=f/\c<=EJ ow f m:=fun m h=>by
  unfold dW at h
  by_cases e:ow m=f/\EJ ow f m<c
  ·rw[if_pos e]at h;exact absurd h (hg _)
  rw[if_neg e]at h;exact⟨h,by
   apply Classical.byContradiction
   intro k;exact e ⟨h,by omega⟩⟩
 have hf:Fo P f<P.1/\(P.2 (Fo P f)).owner=f/\∀j,j<Fo P f->¬(P.2 j).owner=f:=by
  rcases Bi (fun i=>(P.2 i).owner=f) P.1 with h|⟨_,h⟩
  ·exact h
  obtain⟨q,q1,q2,q3⟩:=I5 ow f N hc
  obtain⟨i,i1,i2,i3⟩:=hk.at (m:=q) (by omega) (by omega)
  have h1:dW ow f g c q=(P.2 i).owner:=hr.ow i i1 q i2 i3
  have h2:dW ow f g c q=f:=by unfold dW;rw[if_neg (by omega)];exact q2
  exact absurd (h1.symm.trans h2) (h i i1)
 obtain⟨f1,f2,f3⟩:=hf
 generalize Fo P f=k at*
 have h0:=(hk.rng f1).1
 obtain⟨a,ha⟩:∃a:Nat,(P.2 k).turn.fro=a:=⟨(P.2 k).turn.fro.toNat,(Int.toNat_of_nonneg h0).symm⟩
 have hl:=hk.lt k f1
 have hN:=(hk.rng f1).2
 have inn:∀q:Nat,a<=q->(q:Int)<(P.2 k).turn.til->ow q=f/\c<=EJ ow f q:=fun q q1 q2=>no q (by
  have:dW ow f g c q=(P.2 k).owner:=hr.ow k f1 q (by omega) q2
  rw[this,f2])
 have bef:∀q,q<a->ow q=f->EJ ow f q<c:=fun q q1 q2=>by
  obtain⟨i,i1,i2,i3⟩:=hk.at (m:=q) (by omega) (by omega)
  have ik:i<k:=by
   apply Classical.byContradiction
   intro e
   by_cases e2:i=k
   ·subst e2;omega
   have:=hk.mono (show k<i by omega) i1;omega
  have h1:dW ow f g c q=(P.2 i).owner:=hr.ow i i1 q i2 i3
  apply Classical.byContradiction
  intro e
  refine f3 i ik ?_
  rw[<-h1];unfold dW;rw[if_neg (by omega)];exact q2
 refine⟨a,f1,ha,?_,bef,fun q q1 q2=>(inn q q1 q2).1⟩
 have h1:=(inn a (Nat.le_refl _) (by omega)).2
 apply Classical.byContradiction
 intro e
 obtain⟨q,q1,q2,q3⟩:=I5 ow f a (show c<EJ ow f a by omega)
 have:=bef q q1 q2
 omega
theorem Nz{le un:Nat×(Nat->Int)}{de:Nat×(Nat->Bool)}{n:Nat}{ow:Nat->Int}{f:Int}{g:Nat->Int}(hk:BG N P)(hr:Rp P ⟨(n,dW ow f g c),le,un,de⟩)(hg:∀j,g j≠f)(hc:c<EJ ow f N){e v:Int}{L:Nat}
  (e1:(P.2 (Fo P f)).turn.fro<e) (e2:e<=(P.2 (Fo P f)).turn.til) (eL:e=(P.2 (Fo P f)).turn.fro+L) (hv:∀j,c<=j->j<c+L->g j=v):
  BG N (setO (CT P e) (Fo P f) (Fo P f) v)/\Rp (setO (CT P e) (Fo P f) (Fo P f) v) ⟨(n,dW ow f g (c+L)),le,un,de⟩/\Fo P f<(CT P e).1/\((CT P e).2 (Fo P f)).turn=⟨(P.2 (Fo P f)).turn.fro,e⟩:=by
 obtain⟨a,f1,ha,hca,bef,inn⟩:=E7 hk hr hg hc
 have hq:=Iu hk e
 have hrq:=J6 hr e
 obtain⟨g1,g2⟩:=Tm hk f1 e1 e2
 generalize Fo P f=k at*
 generalize hQ:CT P e=Q at*
 have ht:(Q.2 k).turn=⟨(P.2 k).turn.fro,e⟩:=by rw[g2]
 have run:∀q:Nat,a<=q->(q:Int)<=e->EJ ow f q=c+(q-a):=fun q q1 q2=>by
  have:=LJ ow f (a:=a) (q-a) fun p p1 p2=>inn p p1 (by omega)
  rw[show a+(q-a)=q by omega,hca]at this
  exact this
 refine⟨hq.same rfl (Ff Q k k v),⟨fun i hi m m1 m2=> ?_,fun i hi m m1 m2=> ?_,fun i hi m m1 m2 m3=> ?_⟩,g1,ht⟩
 all_goals
  have hi:i<Q.1:=hi
  rw[Ff]at m1 m2
 ·show dW ow f g (c+L) m=(if k<=i/\i<=k then{Q.2 i with owner:=v}else Q.2 i).owner
  by_cases ei:i=k
  ·subst ei
   rw[if_pos ⟨Nat.le_refl _,Nat.le_refl _⟩]
   rw[ht]at m1 m2
   have m1:(P.2 i).turn.fro<=(m:Int):=m1
   have m2:(m:Int)<e:=m2
   have hr1:=run m (by omega) (by omega)
   unfold dW
   rw[if_pos ⟨inn m (by omega) (by omega),by omega⟩]
   exact hv _ (by omega) (by omega)
  rw[if_neg (by omega)]
  have h1:dW ow f g c m=(Q.2 i).owner:=hrq.ow i hi m m1 m2
  rw[<-h1]
  unfold dW
  have key:(ow m=f/\EJ ow f m<c+L)↔(ow m=f/\EJ ow f m<c):=by
   constructor
   ·rintro⟨x,y⟩
    refine⟨x,?_⟩
    by_cases ma:m<a
    ·exact bef m ma x
    by_cases me:(m:Int)<e
    ·exfalso
     refine ei (hq.one hi g1 m1 m2 ?_ ?_)
     ·rw[ht];show(P.2 k).turn.fro<=(m:Int);omega
     rw[ht];show(m:Int)<e;exact me
    have h3:=Tx ow f (show a+L<=m by omega)
    have h4:=run (a+L) (by omega) (by omega)
    omega
   rintro⟨x,y⟩
   exact⟨x,by omega⟩
  simp only[key]
 ·show le.2 m=(if k<=i/\i<=k then{Q.2 i with owner:=v}else Q.2 i).lent
  rw[show le.2 m=(Q.2 i).lent from hrq.le i hi m m1 m2];split<;>rfl
 show un.2 m=(if k<=i/\i<=k then{Q.2 i with owner:=v}else Q.2 i).til
 have m3:(if k<=i/\i<=k then{Q.2 i with owner:=v}else Q.2 i).lent≠0:=m3
 rw[show un.2 m=(Q.2 i).til from hrq.un i hi m m1 m2 (by split at m3<;>exact m3)];split<;>rfl
def CM(P:Pz)(f:Int)(j:Nat):Pz:=(P.1,fun k=>if k<j/\(P.2 k).lent=f then{P.2 k with lent:=0,til:=0}else P.2 k)
theorem UN{b:Bk}(h:Rp P b)(f:Int):Rp (CM P f P.1) ⟨b.ow,(b.le.1,fun m=>if b.le.2 m=f then 0 else b.le.2 m),b.un,b.de⟩:=by
 have ht:∀k,((CM P f P.1).2 k).turn=(P.2 k).turn:=fun k=>by
  show(if k<P.1/\(P.2 k).lent=f then{P.2 k with lent:=0,til:=0}else P.2 k).turn=_
  split<;>rfl
 refine⟨fun i hi m m1 m2=> ?_,fun i hi m m1 m2=> ?_,fun i hi m m1 m2 m3=> ?_⟩
 all_goals
  have hi:i<P.1:=hi
  rw[ht]at m1 m2
 ·show b.ow.2 m=(if i<P.1/\(P.2 i).lent=f then{P.2 i with lent:=0,til:=0}else P.2 i).owner
  rw[h.ow i hi m m1 m2];split<;>rfl
 ·show(if b.le.2 m=f then 0 else b.le.2 m)=(if i<P.1/\(P.2 i).lent=f then{P.2 i with lent:=0,til:=0}else P.2 i).lent
  rw[h.le i hi m m1 m2]
  by_cases e:(P.2 i).lent=f
  ·rw[if_pos e,if_pos ⟨hi,e⟩]
  rw[if_neg e,if_neg fun k=>e k.2]
 show b.un.2 m=(if i<P.1/\(P.2 i).lent=f then{P.2 i with lent:=0,til:=0}else P.2 i).til
 have m3:(if i<P.1/\(P.2 i).lent=f then{P.2 i with lent:=0,til:=0}else P.2 i).lent≠0:=m3
 by_cases e:i<P.1/\(P.2 i).lent=f
 ·rw[if_pos e]at m3;exact absurd rfl m3
 rw[if_neg e]at m3⊢;exact h.un i hi m m1 m2 m3
end Go.Proofs.YtlieoghhkioflaaGreat
namespace Go.Proofs.YtlieoghhkioflaaGreat
open Go Go.RowKit
noncomputable def DS(P:Pz)(f part:Int):Int:=min ((P.2 (Fo P f)).turn.fro+part) (P.2 (Fo P f)).turn.til
noncomputable def Ev(f v:Int):Nat->Pz->Int->Pz
 |0,P,_=>P
 |n+1,P,part=>if 0<part then Ev f v n (setO (CT P (DS P f part)) (Fo P f) (Fo P f) v) (part-(DS P f part-(P.2 (Fo P f)).turn.fro))else P
theorem KD{N n:Nat}{le un:Nat×(Nat->Int)}{de:Nat×(Nat->Bool)}{ow:Nat->Int}{f v:Int}{g:Nat->Int}(hg:∀j,g j≠f):∀(k:Nat) (P:Pz) (c:Nat) (part:Nat),part<=k->BG N P->Rp P ⟨(n,dW ow f g c),le,un,de⟩->c+part<=EJ ow f N->(∀j,c<=j->j<c+part->g j=v)->
  BG N (Ev f v k P part)/\Rp (Ev f v k P part) ⟨(n,dW ow f g (c+part)),le,un,de⟩
 |0,P,c,part,hk,h1,h2,_,_=>by
  obtain rfl:part=0:=by omega
  exact⟨h1,h2⟩
 |k+1,P,c,part,hk,h1,h2,h3,h4=>by
  rw[Ev]
  by_cases hp:part=0
  ·subst hp
   rw[if_neg (by omega)]
   exact⟨h1,h2⟩
  rw[if_pos (by omega)]
  obtain⟨a,f1,ha,_,_,_⟩:=E7 h1 h2 hg (by omega)
  have hl:=h1.lt _ f1
  obtain⟨L,hL⟩:∃L:Nat,DS P f part=(P.2 (Fo P f)).turn.fro+L:=⟨(DS P f part-(P.2 (Fo P f)).turn.fro).toNat,by
   have:(P.2 (Fo P f)).turn.fro<=DS P f part:=by unfold DS;omega
   omega⟩
  have e1:DS P f part<=(P.2 (Fo P f)).turn.til:=by unfold DS;omega
  have e2:DS P f part<=(P.2 (Fo P f)).turn.fro+part:=by unfold DS;omega
  have e3:(P.2 (Fo P f)).turn.fro<DS P f part:=by unfold DS;omega
  obtain⟨s1,s2,_,_⟩:=Nz h1 h2 hg (by omega) e3 e1 hL (v:=v) fun j j1 j2=>h4 j j1 (by omega)
  have hpart:(part:Int)-(DS P f part-(P.2 (Fo P f)).turn.fro)=((part-L:Nat):Int):=by omega
  rw[hpart]
  have ih:=KD hg k _ (c+L) (part-L) (by omega) s1 s2 (by omega) fun j j1 j2=>h4 j (by omega) (by omega)
  rw[show c+L+(part-L)=c+part by omega]at ih
  exact ih
noncomputable def Ep(f:Int)(who each:Nat->Int)(P:Pz):Nat->Pz
 |0=>P
 |i+1=>Ev f (who i) (each i).toNat (Ep f who each P i) (each i)
theorem HU{N n:Nat}{le un:Nat×(Nat->Int)}{de:Nat×(Nat->Bool)}{ow:Nat->Int}{f:Int}{who each:Nat->Int}{g:Nat->Int}{P:Pz}{m:Nat}(hg:∀j,g j≠f)(h1:BG N P)(h2:Rp P ⟨(n,dW ow f g 0),le,un,de⟩)(h0:∀i,i<m->0<=each i)(h3:AN each m=EJ ow f N)(h4:∀i,i<m->∀j:Nat,AN each i<=j->(j:Int)<AN each (i+1)->g j=who i):∀i,i<=m->
  ∃c:Nat,AN each i=c/\BG N (Ep f who each P i)/\Rp (Ep f who each P i) ⟨(n,dW ow f g c),le,un,de⟩
 |0,_=>⟨0,rfl,h1,h2⟩
 |i+1,hi=>by
  obtain⟨c,c1,c2,c3⟩:=HU hg h1 h2 h0 h3 h4 i (by omega)
  obtain⟨q,hq⟩:∃q:Nat,each i=q:=⟨(each i).toNat,(Int.toNat_of_nonneg (h0 i (by omega))).symm⟩
  have hs:AN each (i+1)=((c+q:Nat):Int):=by rw[AN,c1,hq];omega
  have hu:=EP (f:=each) (len:=m) h0 hi (Nat.le_refl _)
  rw[Ep,hq,Int.toNat_natCast]
  have:=KD hg q (Ep f who each P i) c q (Nat.le_refl _) c2 c3 (by omega) fun j j1 j2=>h4 i (by omega) j (by omega) (by omega)
  exact⟨c+q,hs,this.1,this.2⟩
end Go.Proofs.YtlieoghhkioflaaGreat
namespace Go.Proofs.YtlieoghhkioflaaGreat
open Go Go.RowKit
variable{b:Bk}{x:De}{N:Nat}{P:Pz}{r:Ro}
theorem Rp.congr{b':Bk}(h:BG N P)(hr:Rp P b)(h1:∀m,m<N->b'.ow.2 m=b.ow.2 m)(h2:∀m,m<N->b'.le.2 m=b.le.2 m)(h3:∀m,m<N->b'.un.2 m=b.un.2 m):Rp P b':=by
 refine⟨fun i hi m m1 m2=> ?_,fun i hi m m1 m2=> ?_,fun i hi m m1 m2 m3=> ?_⟩
 all_goals
  have hN:=(h.rng hi).2
 ·rw[h1 m (by omega)];exact hr.ow i hi m m1 m2
 ·rw[h2 m (by omega)];exact hr.le i hi m m1 m2
 rw[h3 m (by omega)];exact hr.un i hi m m1 m2 m3
noncomputable def EN(P:Pz)(b:Bk)(x:De):Pz:=
 if(b.de.2 x.fro.toNat||b.de.2 x.tow.toNat)=true then P
 else if x.kind=3 then Ep x.fro (fun i=>(hl (B4 b x) i).who) (A5 b x) (CM P x.fro P.1) (B4 b x).length
 else if A8 (H6 b x)=true then
  (if x.kind=4 then(if A8 (O5 b x)=true then NG (Cl P x.turn) (Cn (Cl P x.turn) x.turn) (CS (Cl P x.turn) x.turn) x.tow x.til else Cl P x.turn)
  else setO (Cl P x.turn) (Cn (Cl P x.turn) x.turn) (CS (Cl P x.turn) x.turn) (if x.kind=1 then x.tow else 0))
 else Cl P x.turn
theorem SC(hN:(N:Int)=1440*r.days)(h:BG N P)(hr:Rp P b)(hx:Dn r x)(hk:x.kind≠3):BG N (EN P b x)/\Rp (EN P b x) (E6 b x):=by
 have hm:F5 r x:=by
  rcases hx.2.2.2.2.2.2 with q|q|q|q
  ·exact q.2.2.1
  ·exact q.2.1
  ·exact absurd q.1 hk
  exact q.2.2.1
 have h4:x.kind=1\/x.kind=2\/x.kind=4:=by
  rcases hx.2.2.2.2.2.2 with q|q|q|q
  ·exact .inl q.1
  ·exact .inr (.inl q.1)
  ·exact absurd q.1 hk
  exact .inr (.inr q.1)
 obtain⟨m1,m2,m3⟩:=hm
 have ho:=KW h m1 m2 (by omega)
 have hro:Rp (Cl P x.turn) b:=J6 (J6 hr _) _
 unfold EN E6 Bh
 by_cases c1:(b.de.2 x.fro.toNat||b.de.2 x.tow.toNat)=true
 ·rw[if_pos c1,if_pos c1,if_neg (by omega)];exact⟨h,hr⟩
 rw[if_neg c1,if_neg c1,if_neg hk]
 by_cases c2:H6 b x
 ·rw[At c2,if_pos rfl,if_pos rfl]
  by_cases c3:x.kind=4
  ·rw[if_pos c3,if_pos c3]
   by_cases c4:O5 b x
   ·rw[At c4,if_pos rfl,if_pos rfl,if_pos rfl]
    unfold Nf
    rw[if_neg hk,if_neg (by omega),if_neg (by omega),if_pos c3]
    exact⟨ho.ok.same rfl (KJ _ _ _ _ _),Wz ho hro _ _⟩
   rw[Am c4,if_neg Bool.false_ne_true,if_neg Bool.false_ne_true,if_neg (by omega)];exact⟨ho.ok,hro⟩
  rw[if_neg c3,if_neg c3,if_pos rfl]
  unfold Nf
  rw[if_neg hk]
  by_cases c5:x.kind=1
  ·rw[if_pos c5,if_pos c5]
   exact⟨ho.ok.same rfl (Ff _ _ _ _),P4 ho hro _⟩
  rw[if_neg c5,if_neg c5,if_pos (by omega)]
  exact⟨ho.ok.same rfl (Ff _ _ _ _),P4 ho hro _⟩
 rw[Am c2,if_neg Bool.false_ne_true,if_neg Bool.false_ne_true,if_neg (by omega)]
 exact⟨ho.ok,hro⟩
theorem Jx(de:Nat->Bool)(l:Nat×(Nat->Hr)):∀k,∀h∈CO de l k,de h.who.toNat=false
 |0,h,hh=>by cases hh
 |k+1,h,hh=>by
  rw[CO]at hh
  split at hh
  ·exact Jx de l k h hh
  rename_i hd
  rcases List.mem_append.1 hh with q|q
  ·exact Jx de l k h q
  rw[List.mem_singleton]at q;rw[q];simpa using hd
theorem MJ(L:List Hr)(i:Nat):(i<L.length/\hl L i∈L)\/(L.length<=i/\hl L i=⟨0,0⟩):=by
 unfold hl
 by_cases e:i<L.length
 ·exact .inl ⟨e,by rw[List.getD_eq_getElem?_getD,List.getElem?_eq_getElem e];exact List.getElem_mem e⟩
 exact .inr ⟨by omega,by rw[List.getD_eq_getElem?_getD,List.getElem?_eq_none (by omega)];rfl⟩
theorem Ob(h1:1<=x.fro)(i:Nat):(hl (B4 b x) i).who≠x.fro:=by
 rcases MJ (B4 b x) i with⟨_,hm⟩|⟨_,hm⟩
 ·generalize hl (B4 b x) i=h at*
  unfold B4 at hm
  split at hm
  ·rw[List.mem_singleton]at hm;rw[hm];show(0:Int)≠x.fro;omega
  have:=Jx _ _ _ h hm
  intro k
  rw[k]at this
  unfold Kw at this
  rw[if_pos rfl]at this;cases this
 rw[hm];show(0:Int)≠x.fro;omega
theorem SJ(h:FV x.fro x.heirs):1<=(B4 b x).length/\∀i,i<(B4 b x).length->1<=(hl (B4 b x) i).parts:=by
 have hp:∀h'∈B4 b x,1<=h'.parts:=fun h' hm=>by
  unfold B4 at hm
  split at hm
  ·rw[List.mem_singleton]at hm;rw[hm];exact Int.le_refl _
  obtain⟨i,i1,rfl⟩:=I9 _ _ _ h' hm
  exact(h.2.2 i i1).2.2.2.1
 refine⟨?_,fun i hi=> ?_⟩
 ·unfold B4
  split
  ·exact Nat.le_refl _
  rename_i hz;omega
 rcases MJ (B4 b x) i with⟨_,hm⟩|⟨hq,_⟩
 ·exact hp _ hm
 omega
theorem Sv(h:BG N P)(hr:Rp P b)(hb:Vf b N)(hx:Dn r x)(hk:x.kind=3):BG N (EN P b x)/\Rp (EN P b x) (E6 b x):=by
 have hq:FV x.fro x.heirs/\x.turn.fro=0/\x.turn.til=0:=by
  rcases hx.2.2.2.2.2.2 with q|q|q|q
  ·omega
  ·omega
  ·exact⟨q.2.1,q.2.2.2.1,q.2.2.2.2.1⟩
  omega
 obtain⟨hH,t1,t2⟩:=hq
 have hf:=hx.2.2.2.2.1
 unfold EN E6 Bh
 by_cases c1:(b.de.2 x.fro.toNat||b.de.2 x.tow.toNat)=true
 ·rw[if_pos c1,if_pos c1,if_neg (by omega)];exact⟨h,hr⟩
 have c2:H6 b x:=fun m a c=>by omega
 rw[if_neg c1,if_neg c1,if_pos hk,At c2,if_pos rfl,if_neg (show¬x.kind=4 by omega),if_pos rfl]
 unfold Nf
 rw[if_pos hk]
 obtain⟨p1,p2⟩:=SJ (b:=b) hH
 have hE:BG N (CM P x.fro P.1):=h.same rfl fun k=>by
  show(if k<P.1/\(P.2 k).lent=x.fro then{P.2 k with lent:=0,til:=0}else P.2 k).turn=_
  split<;>rfl
 have hRE:=UN hr x.fro
 have hs0:0<AN (fun i=>(hl (B4 b x) i).parts) (B4 b x).length:=by
  have:=(I4 (fun i=>(hl (B4 b x) i).parts) (B4 b x).length fun i hi=>by have:=p2 i hi;omega).2 0 (by omega)
  have:=p2 0 (by omega)
  omega
 have hbN:b.ow.1=N:=hb.1
 have hsum:AN (A5 b x) (B4 b x).length=EJ b.ow.2 x.fro N:=by
  have:=ND (n:=(Ic b x b.ow.1:Nat)) (p:=fun i=>(hl (B4 b x) i).parts) (k:=(B4 b x).length) (by omega) hs0
  rw[show(EJ b.ow.2 x.fro N)=Ic b x b.ow.1 by rw[hbN];rfl]
  exact this
 have hnn:∀i,i<(B4 b x).length->0<=A5 b x i:=fun i hi=>Qh (by omega) (by have:=p2 i hi;omega) hs0
 have hW:∀m,dW b.ow.2 x.fro (fun j=>(hl (B4 b x) (ES (A5 b x) (B4 b x).length j)).who) 0 m=b.ow.2 m:=fun m=>by unfold dW;rw[if_neg (by omega)]
 obtain⟨c,c3,c4,c5⟩:=HU (n:=b.ow.1) (le:=(b.le.1,fun m=>if b.le.2 m=x.fro then 0 else b.le.2 m)) (un:=b.un) (de:=b.de) (f:=x.fro) (who:=fun i=>(hl (B4 b x) i).who) (each:=A5 b x) (g:=fun j=>(hl (B4 b x) (ES (A5 b x) (B4 b x).length j)).who) (m:=(B4 b x).length) (fun j=>Ob hf _) hE
  (hRE.congr hE (fun m _=>hW m) (fun _ _=>rfl) fun _ _=>rfl) hnn hsum (fun i hi j j1 j2=>by
   have:ES (A5 b x) (B4 b x).length j=i:=C5 hi j2 fun q hq=>by
    have:=EP (f:=A5 b x) (len:=(B4 b x).length) hnn (show q+1<=i by omega) (by omega)
    omega
   rw[this]) (B4 b x).length (Nat.le_refl _)
 refine⟨c4,c5.congr c4 (fun m hm=> ?_) (fun m hm=>rfl) fun m hm=>rfl⟩
 show(if b.ow.2 m=x.fro then(hl (B4 b x) (ES (A5 b x) (B4 b x).length (Ic b x m))).who else b.ow.2 m)=dW b.ow.2 x.fro (fun j=>(hl (B4 b x) (ES (A5 b x) (B4 b x).length j)).who) c m
 unfold dW
 by_cases e:b.ow.2 m=x.fro
 ·have e2:EJ b.ow.2 x.fro m<c:=by
   have h6:=PL b.ow.2 x.fro m
   rw[if_pos e]at h6
   have h7:=Tx b.ow.2 x.fro (show m+1<=N by omega)
   omega
  rw[if_pos e,if_pos ⟨e,e2⟩];rfl
 rw[if_neg e,if_neg fun k=>e k.1]
noncomputable def Fa(r:Ro)(l:Nat->De):Nat->Pz
 |0=>opZ r
 |k+1=>EN (Fa r l k) (AI r l k) (l k)
theorem Hm{l:Nat->De}(h:EL r):∀k,(∀i,i<k->Dn r (l i))->BG (Ca r) (Fa r l k)/\Rp (Fa r l k) (AI r l k)
 |0,_=>⟨XU h,Abx h⟩
 |k+1,hl=>by
  obtain⟨h1,h2⟩:=Hm h k fun i hi=>hl i (by omega)
  have hN:((Ca r:Nat):Int)=1440*r.days:=by unfold Ca;have:=h.1;omega
  rw[Fa,AI]
  by_cases e:(l k).kind=3
  ·exact Sv h1 h2 (Hb r l k) (hl k (by omega)) e
  exact SC hN h1 h2 (hl k (by omega)) e
end Go.Proofs.YtlieoghhkioflaaGreat
namespace Go.Proofs.YtlieoghhkioflaaGreat
variable{r:Ro}
abbrev Sa:=Nat×(Nat->Ho)
def IT(l:Sa)(m w:Int):Sa:=if 0<l.1/\(l.2 (l.1-1)).who=w then(l.1,fun i=>if i=l.1-1 then⟨(l.2 (l.1-1)).who,⟨(l.2 (l.1-1)).turn.fro,m+1⟩⟩else l.2 i)else(l.1+1,fun i=>if i<l.1 then l.2 i else⟨w,⟨m,m+1⟩⟩)
def Ap(f:Nat->Int):Nat->Sa
 |0=>(0,fun _=>⟨0,⟨0,0⟩⟩)
 |m+1=>IT (Ap f m) m (f m)
theorem Sx(l:Sa)(m w:Int):(IT l m w).1<=l.1+1:=by
 unfold IT;split
 ·exact Nat.le_succ _
 exact Nat.le_refl _
theorem DN(f:Nat->Int):∀m,(Ap f m).1<=m
 |0=>Nat.le_refl _
 |m+1=>by have:=DN f m;have:=Sx (Ap f m) m (f m);rw[Ap];omega
def C2(f:Nat->Int)(n:Nat)(w:Int):Int:=E4 (fun m=>decide (f m=w)) n
abbrev Xz:=Nat×(Nat->Hs)
def Cr(c:Int->Int):Nat->Xz
 |0=>(0,fun _=>⟨0,0⟩)
 |k+1=>if 0<c k then((Cr c k).1+1,fun i=>if i<(Cr c k).1 then(Cr c k).2 i else⟨k,c k⟩)else Cr c k
def TG(b:Bk)(n:Nat):Prop:=∀m,m<n->0<=b.ow.2 m/\b.ow.2 m<=9999
theorem Sl(hr:EL r):TG (W2 r) (Ca r):=fun m hm=>by
 show 0<=IS r m/\IS r m<=9999
 have hl:=hr.2.2.2.2.2
 have hN:(Ca r:Int)=1440*r.days:=by have:=hr.1;unfold Ca;omega
 have hn:=hr.2.2.1
 rcases Bi (fun i=>(m:Int)<(r.holds.2 i).turn.til) r.holds.1 with⟨h1,_,_⟩|⟨_,h2⟩
 ·have:=hr.2.2.2.2.1 _ h1
  exact⟨this.1,this.2.1⟩
 have h3:=h2 (r.holds.1-1) (by omega)
 have h4:=UY r (r.holds.1-1)
 rw[show r.holds.1-1+1=r.holds.1 by omega]at h4
 omega
theorem AaJ{L:List Hr}(h:∀i,i<L.length->0<=(hl L i).who/\(hl L i).who<=9999)(i:Nat):0<=(hl L i).who/\(hl L i).who<=9999:=by
 rcases Nat.lt_or_ge i L.length with hi|hi
 ·exact h i hi
 have:hl L i=⟨0,0⟩:=by unfold hl;rw[List.getD_eq_getElem?_getD,List.getElem?_eq_none hi];rfl
 rw[this];exact⟨by decide,by decide⟩
theorem WP{b:Bk}{n:Nat}{x:De}(hx:Dn r x)(h:TG b n):TG (Nf b x) n:=fun m hm=>by
 obtain⟨_,_,_,_,h5,_,h7⟩:=hx
 have h0:=h m hm
 unfold Nf
 split
 ·rename_i hk
  have hh:FV x.fro x.heirs:=by
   rcases h7 with⟨h,_⟩|⟨h,_⟩|⟨h,h7,_⟩|⟨h,_⟩<;>first|exact h7|omega
  show 0<=(if b.ow.2 m=x.fro then _ else b.ow.2 m)/\(if b.ow.2 m=x.fro then _ else b.ow.2 m)<=9999
  split
  ·exact AaJ (fun i hi=>by have:=(T1 (b:=b) hh h5).2.2 i hi;exact⟨this.1,this.2.1⟩) _
  exact h0
 split
 ·rename_i hk
  have ht:1<=x.tow/\x.tow<=9999:=by
   unfold FA at h7
   rcases h7 with⟨h,h7,_⟩|⟨h,_⟩|⟨h,_⟩|⟨h,_⟩<;>omega
  show 0<=(if GE x m then x.tow else b.ow.2 m)/\(if GE x m then x.tow else b.ow.2 m)<=9999
  split<;>omega
 split
 ·show 0<=(if GE x m then 0 else b.ow.2 m)/\(if GE x m then 0 else b.ow.2 m)<=9999
  split<;>omega
 split
 ·exact h0
 exact h0
theorem ME{l:Nat->De}(hr:EL r):∀k,(∀i,i<k->Dn r (l i))->TG (AI r l k) (Ca r)
 |0,_=>Sl hr
 |k+1,h=>by
  have ih:=ME hr k fun i hi=>h i (by omega)
  rw[AI,E6];split
  ·exact WP (h k (by omega)) ih
  exact ih
theorem Ym(f:Nat->Int)(m:Nat)(w:Int):C2 f (m+1) w=C2 f m w+if f m=w then 1 else 0:=by
 unfold C2
 rw[E4]
 by_cases e:f m=w
 ·rw[if_pos (decide_eq_true e),if_pos e];omega
 rw[if_neg (by simpa using e),if_neg e];omega
theorem SN(f:Nat->Int)(m:Nat)(w:Int):0<=C2 f m w/\C2 f m w<=m:=by
 have:=G9 (fun q=>decide (f q=w)) m
 unfold C2;omega
end Go.Proofs.YtlieoghhkioflaaGreat
namespace Go.Proofs.YtlieoghhkioflaaGreat
open Go Go.RowKit
variable{w:Int}{f:Nat->Int}
theorem TW{l:Sa}{m:Int}(h:0<l.1)(hw:(l.2 (l.1-1)).who=w):(IT l m w).1=l.1/\(∀j,j<l.1-1->(IT l m w).2 j=l.2 j)/\(IT l m w).2 (l.1-1)=⟨w,⟨(l.2 (l.1-1)).turn.fro,m+1⟩⟩:=by
 unfold IT
 rw[if_pos ⟨h,hw⟩]
 refine⟨rfl,fun j hj=> ?_,?_⟩
 ·show(if j=l.1-1 then _ else l.2 j)=_
  rw[if_neg (by omega)]
 show(if l.1-1=l.1-1 then _ else _)=_
 rw[if_pos rfl,hw]
theorem SV{l:Sa}{m:Int}(h:¬(0<l.1/\(l.2 (l.1-1)).who=w)):(IT l m w).1=l.1+1/\(∀j,j<l.1->(IT l m w).2 j=l.2 j)/\(IT l m w).2 l.1=⟨w,⟨m,m+1⟩⟩:=by
 unfold IT
 rw[if_neg h]
 refine⟨rfl,fun j hj=> ?_,?_⟩
 ·show(if j<l.1 then _ else _)=_
  rw[if_pos hj]
 show(if l.1<l.1 then _ else _)=_
 rw[if_neg (Nat.lt_irrefl _)]
theorem Gt{a:Nat}(h:0<(Ap f a).1)(hw:((Ap f a).2 ((Ap f a).1-1)).who=w):∀d,(∀q,a<=q->q<a+d->f q=w)->(Ap f (a+d)).1=(Ap f a).1/\(∀j,j<(Ap f a).1-1->(Ap f (a+d)).2 j=(Ap f a).2 j)/\(d=0\/(Ap f (a+d)).2 ((Ap f a).1-1)=⟨w,⟨((Ap f a).2 ((Ap f a).1-1)).turn.fro,((a+d:Nat):Int)⟩⟩)
 |0,_=>⟨rfl,fun _ _=>rfl,.inl rfl⟩
 |d+1,hd=>by
  obtain⟨i1,i2,i3⟩:=Gt h hw d fun q h1 h2=>hd q h1 (by omega)
  have hl:((Ap f (a+d)).2 ((Ap f (a+d)).1-1)).who=f (a+d):=by
   rw[i1,hd (a+d) (by omega) (by omega)]
   rcases i3 with rfl|i3
   ·exact hw
   rw[i3]
  have hfr:((Ap f (a+d)).2 ((Ap f (a+d)).1-1)).turn.fro=((Ap f a).2 ((Ap f a).1-1)).turn.fro:=by
   rw[i1]
   rcases i3 with rfl|i3
   ·rfl
   rw[i3]
  obtain⟨j1,j2,j3⟩:=TW (m:=((a+d:Nat):Int)) (by omega) hl
  rw[<-Nat.add_assoc,Ap]
  refine⟨j1.trans i1,fun j hj=>(j2 j (by omega)).trans (i2 j hj),.inr ?_⟩
  rw[i1]at j3 hfr
  rw[j3,hd (a+d) (by omega) (by omega),hfr]
  congr 2
theorem Gv{a:Nat}(h:¬(0<(Ap f a).1/\((Ap f a).2 ((Ap f a).1-1)).who=w)){d:Nat}(h0:0<d)(hd:∀q,a<=q->q<a+d->f q=w):(Ap f (a+d)).1=(Ap f a).1+1/\(∀j,j<(Ap f a).1->(Ap f (a+d)).2 j=(Ap f a).2 j)/\(Ap f (a+d)).2 (Ap f a).1=⟨w,⟨(a:Int),((a+d:Nat):Int)⟩⟩:=by
 have hfa:f a=w:=hd a (Nat.le_refl _) (by omega)
 obtain⟨i1,i2,i3⟩:=SV (m:=(a:Int)) h
 have e1:Ap f (a+1)=IT (Ap f a) a w:=by rw[Ap,hfa]
 rw[<-e1]at i1 i2 i3
 obtain⟨k1,k2,k3⟩:=Gt (f:=f) (w:=w) (a:=a+1) (by omega) (by rw[i1,Nat.add_sub_cancel,i3]) (d-1) fun q h1 h2=>hd q (by omega) (by omega)
 rw[show a+1+(d-1)=a+d by omega,i1]at k1
 rw[show a+1+(d-1)=a+d by omega,i1,Nat.add_sub_cancel]at k2 k3
 refine⟨k1,fun j hj=>(k2 j hj).trans (i2 j hj),?_⟩
 rcases k3 with k3|k3
 ·rw[show d=1 by omega,i3];congr 2
 rw[k3,i3]
def Bp(P:Pz):Nat->Nat
 |0=>0
 |i+1=>(P.2 i).turn.til.toNat
def EM(f:Nat->Int)(P:Pz)(k0:Int)(i:Nat):Ho:=if i=0 then⟨k0,⟨0,0⟩⟩else(Ap f (Bp P i)).2 ((Ap f (Bp P i)).1-1)
structure Aa7(f:Nat->Int)(P:Pz)(k:Pi->Int)(N:Nat):Prop where
 le:∀i,i<=P.1->Bp P i<=N
 pos:∀i,0<i->i<=P.1->0<(Ap f (Bp P i)).1
 fin:Bp P P.1=N
 same:∀i,i<P.1->k (P.2 i)=(EM f P (k (P.2 0)) i).who->(Ap f (Bp P (i+1))).1-1=(Ap f (Bp P i)).1-1/\(∀j,j<(Ap f (Bp P i)).1-1->(Ap f (Bp P (i+1))).2 j=(Ap f (Bp P i)).2 j)/\EM f P (k (P.2 0)) (i+1)=⟨(EM f P (k (P.2 0)) i).who,⟨(EM f P (k (P.2 0)) i).turn.fro,(P.2 i).turn.til⟩⟩
 new:∀i,i<P.1->k (P.2 i)≠(EM f P (k (P.2 0)) i).who->0<i/\(Ap f (Bp P (i+1))).1-1=(Ap f (Bp P i)).1-1+1/\(∀j,j<(Ap f (Bp P i)).1-1->(Ap f (Bp P (i+1))).2 j=(Ap f (Bp P i)).2 j)/\(Ap f (Bp P (i+1))).2 ((Ap f (Bp P i)).1-1)=EM f P (k (P.2 0)) i/\EM f P (k (P.2 0)) (i+1)=⟨k (P.2 i),⟨(P.2 i).turn.fro,(P.2 i).turn.til⟩⟩
theorem Y4{P:Pz}{k:Pi->Int}{N:Nat}(h:BG N P)(hf:∀i,i<P.1->∀m:Nat,(P.2 i).turn.fro<=m->(m:Int)<(P.2 i).turn.til->f m=k (P.2 i)):Aa7 f P k N:=by
 have hfro:∀i,i<P.1->(P.2 i).turn.fro=Bp P i:=fun i hi=>by
  cases i with
  |zero=>exact h.beg
  |succ i=>rw[h.nxt i hi];show _=((P.2 i).turn.til.toNat:Int);have:=h.rng (show i<P.1 by omega);have:=h.lt i (by omega);omega
 have htil:∀i,i<P.1->∃d:Nat,0<d/\Bp P (i+1)=Bp P i+d/\(P.2 i).turn.til=((Bp P i+d:Nat):Int)/\∀q,Bp P i<=q->q<Bp P i+d->f q=k (P.2 i):=fun i hi=>by
  have h1:=hfro i hi
  have h2:=h.lt i hi
  refine⟨(P.2 i).turn.til.toNat-Bp P i,by omega,?_,by omega,fun q a b=>hf i hi q (by omega) (by omega)⟩
  show(P.2 i).turn.til.toNat=_
  omega
 have hle:∀i,i<=P.1->Bp P i<=N:=fun i hi=>by
  cases i with
  |zero=>exact Nat.zero_le _
  |succ i=>show(P.2 i).turn.til.toNat<=N;have:=h.rng (show i<P.1 by omega);omega
 have hpos:∀i,0<i->i<=P.1->0<(Ap f (Bp P i)).1:=fun i hi hi2=>by
  cases i with
  |zero=>omega
  |succ i=>
   obtain⟨d,d1,d2,_,d4⟩:=htil i (by omega)
   rw[d2]
   by_cases e:0<(Ap f (Bp P i)).1/\((Ap f (Bp P i)).2 ((Ap f (Bp P i)).1-1)).who=k (P.2 i)
   ·rw[(Gt e.1 e.2 d d4).1];exact e.1
   rw[(Gv e d1 d4).1];omega
 have h00:(Ap f (Bp P 0)).1=0:=rfl
 refine⟨hle,hpos,?_,fun i hi he=> ?_,fun i hi he=> ?_⟩
 ·have:=h.fin;have:=h.pos
  obtain⟨p,hp⟩:∃p,P.1=p+1:=⟨P.1-1,by omega⟩
  rw[hp]
  show(P.2 p).turn.til.toNat=N
  rw[show p=P.1-1 by omega,h.fin];exact Int.toNat_natCast N
 ·obtain⟨d,d1,d2,d3,d4⟩:=htil i hi
  by_cases i0:i=0
  ·subst i0
   have hn:=Gv (f:=f) (w:=k (P.2 0)) (a:=Bp P 0) (by rw[h00];omega) d1 d4
   rw[<-d2]at hn
   obtain⟨n1,n2,n3⟩:=hn
   refine⟨by rw[n1,h00],fun j hj=>by rw[h00]at hj;omega,?_⟩
   unfold EM
   rw[if_neg (by omega),if_pos rfl,n1,Nat.add_sub_cancel,n3,d3,d2]
   rfl
  unfold EM at he⊢
  rw[if_neg i0]at he⊢
  rw[if_neg (by omega)]
  have hp:=hpos i (by omega) (by omega)
  have hn:=Gt hp he.symm d d4
  rw[<-d2]at hn
  obtain⟨n1,n2,n3⟩:=hn
  refine⟨by rw[n1],n2,?_⟩
  rcases n3 with n3|n3
  ·omega
  rw[n1,n3,he,d3,d2]
 obtain⟨d,d1,d2,d3,d4⟩:=htil i hi
 by_cases i0:i=0
 ·subst i0;exact absurd rfl he
 unfold EM at he⊢
 rw[if_neg i0]at he⊢
 rw[if_neg (by omega)]
 have hp:=hpos i (by omega) (by omega)
 have hn:=Gv (f:=f) (w:=k (P.2 i)) (a:=Bp P i) (fun e=>he e.2.symm) d1 d4
 rw[<-d2]at hn
 obtain⟨n1,n2,n3⟩:=hn
 refine⟨by omega,by omega,fun j hj=>n2 j (by omega),n2 _ (by omega),?_⟩
 rw[n1,Nat.add_sub_cancel,n3,hfro i hi,d3,d2]
end Go.Proofs.YtlieoghhkioflaaGreat
