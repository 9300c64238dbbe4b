/- The pieces of a book, plain. No condition. -/
import Derived.Test.YtlieoghhkioflaaGreatDpt
set_option linter.unusedSimpArgs false
set_option linter.unusedVariables false
namespace Go.Proofs.YtlieoghhkioflaaGreat
open Go Go.RowKit
variable{b:Bk}{N i:Nat}
abbrev Pz:=Nat×(Nat->Pi)
structure BB(N:Nat)(P:Pz):Prop where
 pos:1<=P.1
 beg:(P.2 0).turn.fro=0
 lt:∀i,i<P.1->(P.2 i).turn.fro<(P.2 i).turn.til
 nxt:∀i,i+1<P.1->(P.2 (i+1)).turn.fro=(P.2 i).turn.til
 fin:(P.2 (P.1-1)).turn.til=N
theorem BB.step{P:Pz}(h:BB N P)(i:Nat):∀d,i+d+1<P.1->(P.2 i).turn.til+d<=(P.2 (i+d+1)).turn.fro
 |0,hd=>by
  have:=h.nxt i hd
  show(P.2 i).turn.til+((0:Nat):Int)<=(P.2 (i+1)).turn.fro
  omega
 |d+1,hd=>by
  have h1:=h.step i d (by omega)
  have h2:=h.lt (i+d+1) (by omega)
  have h3:=h.nxt (i+d+1) (by omega)
  rw[show i+(d+1)+1=i+d+1+1 by omega,h3]
  omega
theorem BB.mono{P:Pz}(h:BB N P){j:Nat}(hij:i<j)(hj:j<P.1):(P.2 i).turn.til<=(P.2 j).turn.fro:=by
 obtain⟨d,rfl⟩:∃d,j=i+d+1:=⟨j-i-1,by omega⟩
 have:=h.step i d hj
 omega
theorem BB.rng{P:Pz}(h:BB N P)(hi:i<P.1):0<=(P.2 i).turn.fro/\(P.2 i).turn.til<=N:=by
 constructor
 ·rcases Nat.eq_zero_or_pos i with h0|h0
  ·subst h0;rw[h.beg];exact Int.le_refl 0
  have h1:=h.mono h0 hi
  have h2:=h.lt 0 (by omega)
  rw[h.beg]at h2
  omega
 by_cases e:i=P.1-1
 ·rw[e,h.fin];exact Int.le_refl _
 have h1:=h.mono (show i<P.1-1 by omega) (by omega)
 have h2:=h.lt (P.1-1) (by omega)
 have h3:=h.fin
 omega
theorem BB.len{P:Pz}(h:BB N P):P.1<=N:=by
 have h2:=h.lt 0 h.pos
 rw[h.beg]at h2
 by_cases e:P.1=1
 ·have:=(h.rng h.pos).2;have:=h.pos;omega
 have h1:=h.step 0 (P.1-2) (by have:=h.pos;omega)
 rw[show 0+(P.1-2)+1=P.1-1 by have:=h.pos;omega]at h1
 have h3:=h.lt (P.1-1) (by have:=h.pos;omega)
 have h4:=h.fin
 omega
theorem BB.at{P:Pz}(h:BB N P){m:Int}(h0:0<=m)(h1:m<N):∃i,i<P.1/\(P.2 i).turn.fro<=m/\m<(P.2 i).turn.til:=by
 rcases By (fun i=>m<(P.2 i).turn.til) P.1 with⟨a,b,c⟩|⟨_,c⟩
 ·refine⟨_,a,?_,b⟩
  generalize Cl (fun i=>m<(P.2 i).turn.til) P.1=i at*
  cases i with
  |zero=>rw[h.beg];exact h0
  |succ i=>rw[h.nxt i a];have:=c i (by omega);omega
 exact absurd (by rw[h.fin];exact h1) (c (P.1-1) (by have:=h.pos;omega))
theorem BB.one{P:Pz}(h:BB N P){m:Int}{j:Nat}(hi:i<P.1)(hj:j<P.1)(i1:(P.2 i).turn.fro<=m)(i2:m<(P.2 i).turn.til)(j1:(P.2 j).turn.fro<=m)(j2:m<(P.2 j).turn.til):i=j:=by
 rcases Nat.lt_trichotomy i j with e|e|e
 ·have:=h.mono e hj;omega
 ·exact e
 have:=h.mono e hi;omega
structure Rp(P:Pz)(b:Bk):Prop where
 ow:∀i,i<P.1->∀m:Nat,(P.2 i).turn.fro<=m->(m:Int)<(P.2 i).turn.til->b.ow.2 m=(P.2 i).owner
 le:∀i,i<P.1->∀m:Nat,(P.2 i).turn.fro<=m->(m:Int)<(P.2 i).turn.til->b.le.2 m=(P.2 i).lent
 un:∀i,i<P.1->∀m:Nat,(P.2 i).turn.fro<=m->(m:Int)<(P.2 i).turn.til->(P.2 i).lent≠0->b.un.2 m=(P.2 i).til
def Dr(p:Nat->Pi)(i:Nat)(c:Int)(k:Nat):Pi:=if k<i then p k else if k=i then{p i with turn:=⟨(p i).turn.fro,c⟩}else if k=i+1 then{p i with turn:=⟨c,(p i).turn.til⟩}else p (k-1)
def K0(P:Pz)(c:Int)(i:Nat):Prop:=(P.2 i).turn.fro<c/\c<(P.2 i).turn.til
noncomputable def CJ(P:Pz)(c:Int):Pz:=if Cl (K0 P c) P.1<P.1 then(P.1+1,Dr P.2 (Cl (K0 P c) P.1) c)else P
theorem H6{P:Pz}(h:BB N P)(c:Int):BB N (CJ P c):=by
 unfold CJ
 split
 ·rename_i hi
  have hc:K0 P c (Cl (K0 P c) P.1):=by
   rcases By (K0 P c) P.1 with⟨_,b,_⟩|⟨a,_⟩
   ·exact b
   omega
  generalize Cl (K0 P c) P.1=i at*
  obtain⟨c1,c2⟩:=hc
  refine⟨by show 1<=P.1+1;omega,?_,fun k hk=> ?_,fun k hk=> ?_,?_⟩
  ·show(Dr P.2 i c 0).turn.fro=0
   unfold Dr
   rcases Nat.eq_zero_or_pos i with e|e
   ·subst e;rw[if_neg (by omega),if_pos rfl];exact h.beg
   rw[if_pos e];exact h.beg
  ·have hk:k<P.1+1:=hk
   show(Dr P.2 i c k).turn.fro<(Dr P.2 i c k).turn.til
   unfold Dr
   split
   ·exact h.lt k (by omega)
   split
   ·exact c1
   split
   ·exact c2
   exact h.lt (k-1) (by omega)
  ·have hk:k+1<P.1+1:=hk
   show(Dr P.2 i c (k+1)).turn.fro=(Dr P.2 i c k).turn.til
   unfold Dr
   by_cases e1:k+1<i
   ·rw[if_pos e1,if_pos (show k<i by omega)];exact h.nxt k (by omega)
   by_cases e2:k+1=i
   ·rw[if_neg e1,if_pos e2,if_pos (show k<i by omega),<-e2];exact h.nxt k (by omega)
   by_cases e3:k=i
   ·rw[if_neg e1,if_neg e2,if_pos (by omega),if_neg (show¬k<i by omega),if_pos e3]
   by_cases e4:k=i+1
   ·rw[if_neg e1,if_neg e2,if_neg (show¬k+1=i+1 by omega),if_neg (show¬k<i by omega),if_neg e3,if_pos e4,e4]
    exact h.nxt i (by omega)
   rw[if_neg e1,if_neg e2,if_neg (show¬k+1=i+1 by omega),if_neg (show¬k<i by omega),if_neg e3,if_neg e4]
   have:=h.nxt (k-1) (by omega)
   rw[show k-1+1=k by omega]at this
   rw[Nat.add_sub_cancel]
   exact this
  show(Dr P.2 i c (P.1+1-1)).turn.til=N
  rw[Nat.add_sub_cancel]
  unfold Dr
  rw[if_neg (by omega),if_neg (by omega)]
  by_cases e:P.1=i+1
  ·rw[if_pos e,show i=P.1-1 by omega];exact h.fin
  rw[if_neg e];exact h.fin
 exact h
theorem SB(P:Pz)(c:Int):∀k,k<(CJ P c).1->∃i,i<P.1/\(P.2 i).turn.fro<=((CJ P c).2 k).turn.fro/\((CJ P c).2 k).turn.til<=(P.2 i).turn.til/\((CJ P c).2 k).owner=(P.2 i).owner/\((CJ P c).2 k).lent=(P.2 i).lent/\((CJ P c).2 k).til=(P.2 i).til:=by
 intro k
 unfold CJ
 split
 ·rename_i hi
  have hc:K0 P c (Cl (K0 P c) P.1):=by
   rcases By (K0 P c) P.1 with⟨_,b,_⟩|⟨a,_⟩
   ·exact b
   omega
  generalize Cl (K0 P c) P.1=i at*
  obtain⟨c1,c2⟩:=hc
  intro hk
  have hk:k<P.1+1:=hk
  show∃j,j<P.1/\(P.2 j).turn.fro<=(Dr P.2 i c k).turn.fro/\(Dr P.2 i c k).turn.til<=(P.2 j).turn.til/\(Dr P.2 i c k).owner=(P.2 j).owner/\(Dr P.2 i c k).lent=(P.2 j).lent/\(Dr P.2 i c k).til=(P.2 j).til
  unfold Dr
  split
  ·exact⟨k,by omega,Int.le_refl _,Int.le_refl _,rfl,rfl,rfl⟩
  split
  ·exact⟨i,hi,Int.le_refl _,by show c<=_;omega,rfl,rfl,rfl⟩
  split
  ·exact⟨i,hi,by show _<=c;omega,Int.le_refl _,rfl,rfl,rfl⟩
  exact⟨k-1,by omega,Int.le_refl _,Int.le_refl _,rfl,rfl,rfl⟩
 intro hk
 exact⟨k,hk,Int.le_refl _,Int.le_refl _,rfl,rfl,rfl⟩
theorem Js{P:Pz}(h:Rp P b)(c:Int):Rp (CJ P c) b:=by
 refine⟨fun k hk m h1 h2=> ?_,fun k hk m h1 h2=> ?_,fun k hk m h1 h2 h3=> ?_⟩
 all_goals
  obtain⟨i,hi,p1,p2,p3,p4,p5⟩:=SB P c k hk
 ·rw[p3];exact h.ow i hi m (by omega) (by omega)
 ·rw[p4];exact h.le i hi m (by omega) (by omega)
 rw[p5];exact h.un i hi m (by omega) (by omega) (by rw[<-p4];exact h3)
theorem PT{P:Pz}{a:Int}(c:Int)(h:∃i,i<P.1/\(P.2 i).turn.fro=a):∃i,i<(CJ P c).1/\((CJ P c).2 i).turn.fro=a:=by
 obtain⟨j,hj,hp⟩:=h
 unfold CJ
 split
 ·rename_i hi
  generalize Cl (K0 P c) P.1=i at*
  by_cases e:j<=i
  ·refine⟨j,by show j<P.1+1;omega,?_⟩
   show(Dr P.2 i c j).turn.fro=a
   unfold Dr
   by_cases e1:j<i
   ·rw[if_pos e1];exact hp
   rw[if_neg e1,if_pos (by omega),<-hp,show i=j by omega]
  refine⟨j+1,by show j+1<P.1+1;omega,?_⟩
  show(Dr P.2 i c (j+1)).turn.fro=a
  unfold Dr
  rw[if_neg (by omega),if_neg (by omega),if_neg (by omega),Nat.add_sub_cancel];exact hp
 exact⟨j,hj,hp⟩
theorem Sf{P:Pz}(h:BB N P){c:Int}(h0:0<=c)(h1:c<N):∃i,i<(CJ P c).1/\((CJ P c).2 i).turn.fro=c:=by
 rcases By (K0 P c) P.1 with⟨a,b,_⟩|⟨a,b⟩
 ·unfold CJ
  rw[if_pos a]
  generalize Cl (K0 P c) P.1=i at*
  refine⟨i+1,by show i+1<P.1+1;omega,?_⟩
  show(Dr P.2 i c (i+1)).turn.fro=c
  unfold Dr
  rw[if_neg (by omega),if_neg (by omega),if_pos rfl]
 obtain⟨i,i1,i2,i3⟩:=h.at h0 h1
 refine PT c ⟨i,i1,?_⟩
 have:=b i i1
 unfold K0 at this
 omega
theorem Zl{P:Pz}(h:BB N P){c:Int}(h0:0<c)(h1:c<=N):∃i,i<(CJ P c).1/\((CJ P c).2 i).turn.til=c:=by
 have hk:=H6 h c
 by_cases e:c=N
 ·exact⟨(CJ P c).1-1,by have:=hk.pos;omega,by rw[hk.fin,e]⟩
 obtain⟨i,i1,i2⟩:=Sf h (show 0<=c by omega) (show c<N by omega)
 have i0:0<i:=by
  rcases Nat.eq_zero_or_pos i with z|z
  ·subst z;have:=hk.beg;omega
  exact z
 have:=hk.nxt (i-1) (by omega)
 rw[show i-1+1=i by omega]at this
 exact⟨i-1,by omega,by omega⟩
noncomputable def Cf(P:Pz)(t:Tu):Pz:=CJ (CJ P t.fro) t.til
noncomputable def Ch(P:Pz)(t:Tu):Nat:=Cl (fun i=>(P.2 i).turn.fro=t.fro) P.1
noncomputable def CO(P:Pz)(t:Tu):Nat:=Cl (fun i=>(P.2 i).turn.til=t.til) P.1
structure OL(N:Nat)(P:Pz)(t:Tu):Prop where
 ok:BB N P
 f:Ch P t<P.1
 l:CO P t<P.1
 ff:(P.2 (Ch P t)).turn.fro=t.fro
 ll:(P.2 (CO P t)).turn.til=t.til
 fl:Ch P t<=CO P t
theorem KH{P:Pz}(h:BB N P){t:Tu}(h0:0<=t.fro)(h1:t.fro<t.til)(h2:t.til<=N):OL N (Cf P t) t:=by
 have k1:=H6 h t.fro
 have k2:BB N (Cf P t):=H6 k1 t.til
 have a:∃i,i<(Cf P t).1/\((Cf P t).2 i).turn.fro=t.fro:=PT t.til (Sf h h0 (by omega))
 have b:∃i,i<(Cf P t).1/\((Cf P t).2 i).turn.til=t.til:=Zl k1 (by omega) h2
 have a':Ch (Cf P t) t<(Cf P t).1/\((Cf P t).2 (Ch (Cf P t) t)).turn.fro=t.fro:=by
  rcases By (fun i=>((Cf P t).2 i).turn.fro=t.fro) (Cf P t).1 with⟨x,y,_⟩|⟨_,z⟩
  ·exact⟨x,y⟩
  obtain⟨i,i1,i2⟩:=a;exact absurd i2 (z i i1)
 have b':CO (Cf P t) t<(Cf P t).1/\((Cf P t).2 (CO (Cf P t) t)).turn.til=t.til:=by
  rcases By (fun i=>((Cf P t).2 i).turn.til=t.til) (Cf P t).1 with⟨x,y,_⟩|⟨_,z⟩
  ·exact⟨x,y⟩
  obtain⟨i,i1,i2⟩:=b;exact absurd i2 (z i i1)
 refine⟨k2,a'.1,b'.1,a'.2,b'.2,?_⟩
 apply Classical.byContradiction
 intro hn
 have:=k2.mono (show CO (Cf P t) t<Ch (Cf P t) t by omega) a'.1
 omega
theorem OL.mem{P:Pz}{t:Tu}(h:OL N P t)(hi:i<P.1){m:Nat}(m1:(P.2 i).turn.fro<=m)(m2:(m:Int)<(P.2 i).turn.til):(t.fro<=m/\(m:Int)<t.til)↔(Ch P t<=i/\i<=CO P t):=by
 constructor
 ·rintro⟨a,b⟩
  constructor
  ·apply Classical.byContradiction
   intro hn
   have:=h.ok.mono (show i<Ch P t by omega) h.f
   have:=h.ff
   omega
  apply Classical.byContradiction
  intro hn
  have:=h.ok.mono (show CO P t<i by omega) hi
  have:=h.ll
  omega
 rintro⟨a,b⟩
 constructor
 ·by_cases e:i=Ch P t
  ·rw[<-h.ff,<-e];exact m1
  have:=h.ok.mono (show Ch P t<i by omega) hi
  have:=h.ff
  have:=h.ok.lt _ h.f
  omega
 by_cases e:i=CO P t
 ·rw[<-h.ll,<-e];exact m2
 have:=h.ok.mono (show i<CO P t by omega) h.l
 have:=h.ll
 have:=h.ok.lt _ h.l
 omega
theorem XO{P:Pz}{x:De}(h:OL N P x.turn)(hr:Rp P b)(h0:0<=x.turn.fro):H9 b x↔∀i,Ch P x.turn<=i->i<=CO P x.turn->(P.2 i).owner=x.fro:=by
 constructor
 ·intro hh i i1 i2
  have hi:i<P.1:=by have:=h.l;omega
  have hl:=h.ok.lt i hi
  have h3:=(h.ok.rng hi).1
  have hm:(((P.2 i).turn.fro.toNat:Nat):Int)=(P.2 i).turn.fro:=Int.toNat_of_nonneg h3
  obtain⟨q1,q2⟩:=(h.mem hi (m:=(P.2 i).turn.fro.toNat) (by omega) (by omega)).2 ⟨i1,i2⟩
  rw[<-hr.ow i hi (P.2 i).turn.fro.toNat (by omega) (by omega)]
  exact hh _ q1 q2
 intro hh m m1 m2
 obtain⟨i,i1,i2,i3⟩:=h.ok.at (m:=m) (by omega) (by have:=(h.ok.rng h.l).2;have:=h.ll;omega)
 obtain⟨q1,q2⟩:=(h.mem i1 i2 i3).1 ⟨m1,m2⟩
 rw[hr.ow i i1 m i2 i3]
 exact hh i q1 q2
theorem XB{P:Pz}{x:De}(h:OL N P x.turn)(hr:Rp P b)(h0:0<=x.turn.fro):OJ b x↔∀i,Ch P x.turn<=i->i<=CO P x.turn->¬((P.2 i).lent≠0/\x.day<(P.2 i).til):=by
 constructor
 ·intro hh i i1 i2
  have hi:i<P.1:=by have:=h.l;omega
  have hl:=h.ok.lt i hi
  have h3:=(h.ok.rng hi).1
  have hm:(((P.2 i).turn.fro.toNat:Nat):Int)=(P.2 i).turn.fro:=Int.toNat_of_nonneg h3
  obtain⟨q1,q2⟩:=(h.mem hi (m:=(P.2 i).turn.fro.toNat) (by omega) (by omega)).2 ⟨i1,i2⟩
  rintro⟨a,c⟩
  refine hh _ q1 q2 ⟨?_,?_⟩
  ·rw[hr.le i hi _ (by omega) (by omega)];exact a
  rw[hr.un i hi _ (by omega) (by omega) a];exact c
 intro hh m m1 m2
 obtain⟨i,i1,i2,i3⟩:=h.ok.at (m:=m) (by omega) (by have:=(h.ok.rng h.l).2;have:=h.ll;omega)
 obtain⟨q1,q2⟩:=(h.mem i1 i2 i3).1 ⟨m1,m2⟩
 rintro⟨a,c⟩
 rw[hr.le i i1 m i2 i3]at a
 rw[hr.un i i1 m i2 i3 a]at c
 exact hh i q1 q2 ⟨a,c⟩
end Go.Proofs.YtlieoghhkioflaaGreat
namespace Go.Proofs.YtlieoghhkioflaaGreat
open Go Go.RowKit
variable{b:Bk}{N:Nat}{P:Pz}
def setO(P:Pz)(f l:Nat)(v:Int):Pz:=(P.1,fun k=>if f<=k/\k<=l then{P.2 k with owner:=v}else P.2 k)
def Ms(P:Pz)(f l:Nat)(v u:Int):Pz:=(P.1,fun k=>if f<=k/\k<=l then{P.2 k with lent:=v,til:=u}else P.2 k)
theorem Fd(P:Pz)(f l:Nat)(v:Int)(k:Nat):((setO P f l v).2 k).turn=(P.2 k).turn:=by
 show(if f<=k/\k<=l then{P.2 k with owner:=v}else P.2 k).turn=_
 split<;>rfl
theorem K4(P:Pz)(f l:Nat)(v u:Int)(k:Nat):((Ms P f l v u).2 k).turn=(P.2 k).turn:=by
 show(if f<=k/\k<=l then{P.2 k with lent:=v,til:=u}else P.2 k).turn=_
 split<;>rfl
theorem BB.same{Q:Pz}(h:BB N P)(h1:Q.1=P.1)(h2:∀k,(Q.2 k).turn=(P.2 k).turn):BB N Q:=
 ⟨by rw[h1];exact h.pos,by rw[h2];exact h.beg,fun i hi=>by rw[h2];exact h.lt i (by omega),fun i hi=>by rw[h2,h2];exact h.nxt i (by omega),by rw[h1,h2];exact h.fin⟩
theorem P3{x:De}(h:OL N P x.turn)(hr:Rp P b)(v:Int):Rp (setO P (Ch P x.turn) (CO P x.turn) v) ⟨(b.ow.1,fun m=>if GK x m then v else b.ow.2 m),b.le,b.un,b.de⟩:=by
 refine⟨fun i hi m m1 m2=> ?_,fun i hi m m1 m2=> ?_,fun i hi m m1 m2 m3=> ?_⟩
 all_goals
  have hi:i<P.1:=hi
  rw[Fd]at m1 m2
 ·have hm:=h.mem hi m1 m2
  show(if GK x m then v else b.ow.2 m)=(if Ch P x.turn<=i/\i<=CO P x.turn then{P.2 i with owner:=v}else P.2 i).owner
  by_cases e:Ch P x.turn<=i/\i<=CO P x.turn
  ·rw[if_pos e,if_pos (show GK x m from hm.2 e)]
  rw[if_neg e,if_neg (show¬GK x m from fun k=>e (hm.1 k))];exact hr.ow i hi m m1 m2
 ·show b.le.2 m=(if Ch P x.turn<=i/\i<=CO P x.turn then{P.2 i with owner:=v}else P.2 i).lent
  rw[hr.le i hi m m1 m2];split<;>rfl
 show b.un.2 m=(if Ch P x.turn<=i/\i<=CO P x.turn then{P.2 i with owner:=v}else P.2 i).til
 have m3:(if Ch P x.turn<=i/\i<=CO P x.turn then{P.2 i with owner:=v}else P.2 i).lent≠0:=m3
 rw[hr.un i hi m m1 m2 (by split at m3<;>exact m3)];split<;>rfl
theorem VU{x:De}(h:OL N P x.turn)(hr:Rp P b)(v u:Int):Rp (Ms P (Ch P x.turn) (CO P x.turn) v u) ⟨b.ow,(b.le.1,fun m=>if GK x m then v else b.le.2 m),(b.un.1,fun m=>if GK x m then u else b.un.2 m),b.de⟩:=by
 refine⟨fun i hi m m1 m2=> ?_,fun i hi m m1 m2=> ?_,fun i hi m m1 m2 m3=> ?_⟩
 all_goals
  have hi:i<P.1:=hi
  rw[K4]at m1 m2
  have hm:=h.mem hi m1 m2
 ·show b.ow.2 m=(if Ch P x.turn<=i/\i<=CO P x.turn then{P.2 i with lent:=v,til:=u}else P.2 i).owner
  rw[hr.ow i hi m m1 m2];split<;>rfl
 ·show(if GK x m then v else b.le.2 m)=(if Ch P x.turn<=i/\i<=CO P x.turn then{P.2 i with lent:=v,til:=u}else P.2 i).lent
  by_cases e:Ch P x.turn<=i/\i<=CO P x.turn
  ·rw[if_pos e,if_pos (show GK x m from hm.2 e)]
  rw[if_neg e,if_neg (show¬GK x m from fun k=>e (hm.1 k))];exact hr.le i hi m m1 m2
 have m3:(if Ch P x.turn<=i/\i<=CO P x.turn then{P.2 i with lent:=v,til:=u}else P.2 i).lent≠0:=m3
 show(if GK x m then u else b.un.2 m)=(if Ch P x.turn<=i/\i<=CO P x.turn then{P.2 i with lent:=v,til:=u}else P.2 i).til
 by_cases e:Ch P x.turn<=i/\i<=CO P x.turn
 ·rw[if_pos e,if_pos (show GK x m from hm.2 e)]
 rw[if_neg e]at m3
 rw[if_neg e,if_neg (show¬GK x m from fun k=>e (hm.1 k))];exact hr.un i hi m m1 m2 m3
def ZL(r:Ro):Pz:=(r.holds.1,fun i=>⟨(r.holds.2 i).turn,(r.holds.2 i).who,0,0⟩)
theorem Xp{r:Ro}(h:F5 r):BB (Cr r) (ZL r):=by
 obtain⟨h1,h2,h3,h4,h5,h6⟩:=h
 have hN:((Cr r:Nat):Int)=1440*r.days:=by unfold Cr;omega
 refine⟨h3,?_,fun i hi=>(h5 i hi).2.2.2.1,fun i hi=> ?_,?_⟩
 ·exact(h5 0 (by omega)).2.2.1
 ·have:=(h5 (i+1) hi).2.2.1
  unfold LF at this
  rw[if_neg (by omega)]at this
  exact this
 unfold LF at h6
 rw[if_neg (by omega)]at h6
 exact h6.trans hN.symm
theorem AaO{r:Ro}(h:F5 r):Rp (ZL r) (WB r):=by
 have hk:=Xp h
 refine⟨fun i hi m m1 m2=> ?_,fun i hi m m1 m2=>rfl,fun i hi m m1 m2 m3=>absurd rfl m3⟩
 show(r.holds.2 (Cl (fun i=>(m:Int)<(r.holds.2 i).turn.til) r.holds.1)).who=(r.holds.2 i).who
 have:Cl (fun i=>(m:Int)<(r.holds.2 i).turn.til) r.holds.1=i:=Db hi m2 fun j hj=>by
  have h1:(r.holds.2 j).turn.til<=((ZL r).2 i).turn.fro:=hk.mono hj hi
  intro k
  omega
 rw[this]
theorem VR(hr:Rp P b)(d:Int){i:Nat}(hi:i<P.1){m:Nat}(m1:(P.2 i).turn.fro<=m)(m2:(m:Int)<(P.2 i).turn.til):(if(P.2 i).lent≠0/\d<(P.2 i).til then(P.2 i).lent else(P.2 i).owner)=if b.le.2 m≠0/\d<b.un.2 m then b.le.2 m else b.ow.2 m:=by
 have e1:=hr.le i hi m m1 m2
 have e2:=hr.ow i hi m m1 m2
 rw[e1,e2]
 by_cases e:(P.2 i).lent=0
 ·rw[if_neg (fun k=>k.1 e),if_neg (fun k=>k.1 e)]
 rw[hr.un i hi m m1 m2 e]
end Go.Proofs.YtlieoghhkioflaaGreat
namespace Go.Proofs.YtlieoghhkioflaaGreat
open Go Go.RowKit
variable{N c:Nat}{P:Pz}
def EK(ow:Nat->Int)(f:Int)(m:Nat):Nat:=E1 (fun q=>decide (ow q=f)) m
theorem Qn(ow:Nat->Int)(f:Int)(m:Nat):EK ow f (m+1)=if ow m=f then EK ow f m+1 else EK ow f m:=by
 show E1 _ (m+1)=_
 rw[E1];simp only[decide_eq_true_eq];rfl
theorem Sa(ow:Nat->Int)(f:Int){a b:Nat}(h:a<=b):EK ow f a<=EK ow f b:=YF _ h
theorem Jc(ow:Nat->Int)(f:Int):∀a,c<EK ow f a->∃q,q<a/\ow q=f/\EK ow f q=c
 |0,h=>absurd h (Nat.not_lt_zero _)
 |a+1,h=>by
  rw[Qn]at h
  by_cases e:ow a=f
  ·rw[if_pos e]at h
   by_cases e2:EK ow f a=c
   ·exact⟨a,by omega,e,e2⟩
   obtain⟨q,h1,h2⟩:=Jc ow f a (by omega);exact⟨q,by omega,h2⟩
  rw[if_neg e]at h
  obtain⟨q,h1,h2⟩:=Jc ow f a h;exact⟨q,by omega,h2⟩
theorem Ll(ow:Nat->Int)(f:Int){a:Nat}:∀d,(∀q,a<=q->q<a+d->ow q=f)->EK ow f (a+d)=EK ow f a+d
 |0,_=>rfl
 |d+1,h=>by
  rw[<-Nat.add_assoc,Qn,if_pos (h (a+d) (by omega) (by omega)),Ll ow f d fun q h1 h2=>h q h1 (by omega)];omega
def dW(ow:Nat->Int)(f:Int)(g:Nat->Int)(c m:Nat):Int:=if ow m=f/\EK ow f m<c then g (EK ow f m)else ow m
noncomputable def Fo(P:Pz)(f:Int):Nat:=Cl (fun i=>(P.2 i).owner=f) P.1
theorem Tf(h:BB N P){k:Nat}(hk:k<P.1){e:Int}(h1:(P.2 k).turn.fro<e)(h2:e<=(P.2 k).turn.til):k<(CJ P e).1/\(CJ P e).2 k={P.2 k with turn:=⟨(P.2 k).turn.fro,e⟩}:=by
 by_cases e1:e=(P.2 k).turn.til
 ·have:Cl (K0 P e) P.1=P.1:=I0 fun j hj ⟨c1,c2⟩=>by
   rcases Nat.lt_trichotomy j k with c|c|c
   ·have:=h.mono c hk;omega
   ·subst c;omega
   have:=h.mono c hj;omega
  unfold CJ
  rw[this,if_neg (Nat.lt_irrefl _),e1]
  exact⟨hk,rfl⟩
 have:Cl (K0 P e) P.1=k:=Db hk ⟨h1,by omega⟩ fun j hj ⟨c1,c2⟩=>by have:=h.mono hj hk;omega
 unfold CJ
 rw[this,if_pos hk]
 refine⟨by show k<P.1+1;omega,?_⟩
 show Dr P.2 k e k=_
 unfold Dr
 rw[if_neg (Nat.lt_irrefl _),if_pos rfl]
theorem Fc{le un:Nat×(Nat->Int)}{de:Nat×(Nat->Bool)}{n:Nat}{ow:Nat->Int}{f:Int}{g:Nat->Int}(hk:BB N P)(hr:Rp P ⟨(n,dW ow f g c),le,un,de⟩)(hg:∀j,g j≠f)(hc:c<EK ow f N):
  ∃a:Nat,Fo P f<P.1/\(P.2 (Fo P f)).turn.fro=a/\EK ow f a=c/\(∀q,q<a->ow q=f->EK ow f q<c)/\∀q:Nat,a<=q->(q:Int)<(P.2 (Fo P f)).turn.til->ow q=f:=by
 have no:∀m,dW ow f g c m=f->ow m=f/\c<=EK ow f m:=fun m h=>by
  unfold dW at h
  by_cases e:ow m=f/\EK ow f m<c
  ·rw[if_pos e]at h;exact absurd h (hg _)
  rw[if_neg e]at h;exact⟨h,by
   apply Classical.byContradiction
   intro k;exact e ⟨h,by omega⟩⟩
 have hf:Fo P f<P.1/\(P.2 (Fo P f)).owner=f/\∀j,j<Fo P f->¬(P.2 j).owner=f:=by
  rcases By (fun i=>(P.2 i).owner=f) P.1 with h|⟨_,h⟩
  ·exact h
  obtain⟨q,q1,q2,q3⟩:=Jc ow f N hc
  obtain⟨i,i1,i2,i3⟩:=hk.at (m:=q) (by omega) (by omega)
  have h1:dW ow f g c q=(P.2 i).owner:=hr.ow i i1 q i2 i3
  have h2:dW ow f g c q=f:=by unfold dW;rw[if_neg (by omega)];exact q2
  exact absurd (h1.symm.trans h2) (h i i1)
 obtain⟨f1,f2,f3⟩:=hf
 generalize Fo P f=k at*
 have h0:=(hk.rng f1).1
 obtain⟨a,ha⟩:∃a:Nat,(P.2 k).turn.fro=a:=⟨(P.2 k).turn.fro.toNat,(Int.toNat_of_nonneg h0).symm⟩
 have hl:=hk.lt k f1
 have hN:=(hk.rng f1).2
 have inn:∀q:Nat,a<=q->(q:Int)<(P.2 k).turn.til->ow q=f/\c<=EK ow f q:=fun q q1 q2=>no q (by
  have:dW ow f g c q=(P.2 k).owner:=hr.ow k f1 q (by omega) q2
  rw[this,f2])
 have bef:∀q,q<a->ow q=f->EK ow f q<c:=fun q q1 q2=>by
  obtain⟨i,i1,i2,i3⟩:=hk.at (m:=q) (by omega) (by omega)
  have ik:i<k:=by
   apply Classical.byContradiction
   intro e
   by_cases e2:i=k
   ·subst e2;omega
   have:=hk.mono (show k<i by omega) i1;omega
  have h1:dW ow f g c q=(P.2 i).owner:=hr.ow i i1 q i2 i3
  apply Classical.byContradiction
  intro e
  refine f3 i ik ?_
  rw[<-h1];unfold dW;rw[if_neg (by omega)];exact q2
 refine⟨a,f1,ha,?_,bef,fun q q1 q2=>(inn q q1 q2).1⟩
 have h1:=(inn a (Nat.le_refl _) (by omega)).2
 apply Classical.byContradiction
 intro e
 obtain⟨q,q1,q2,q3⟩:=Jc ow f a (show c<EK ow f a by omega)
 have:=bef q q1 q2
 omega
theorem MT{le un:Nat×(Nat->Int)}{de:Nat×(Nat->Bool)}{n:Nat}{ow:Nat->Int}{f:Int}{g:Nat->Int}(hk:BB N P)(hr:Rp P ⟨(n,dW ow f g c),le,un,de⟩)(hg:∀j,g j≠f)(hc:c<EK ow f N){e v:Int}{L:Nat}
  (e1:(P.2 (Fo P f)).turn.fro<e) (e2:e<=(P.2 (Fo P f)).turn.til) (eL:e=(P.2 (Fo P f)).turn.fro+L) (hv:∀j,c<=j->j<c+L->g j=v):
  BB N (setO (CJ P e) (Fo P f) (Fo P f) v)/\Rp (setO (CJ P e) (Fo P f) (Fo P f) v) ⟨(n,dW ow f g (c+L)),le,un,de⟩/\Fo P f<(CJ P e).1/\((CJ P e).2 (Fo P f)).turn=⟨(P.2 (Fo P f)).turn.fro,e⟩:=by
 obtain⟨a,f1,ha,hca,bef,inn⟩:=Fc hk hr hg hc
 have hq:=H6 hk e
 have hrq:=Js hr e
 obtain⟨g1,g2⟩:=Tf hk f1 e1 e2
 generalize Fo P f=k at*
 generalize hQ:CJ P e=Q at*
 have ht:(Q.2 k).turn=⟨(P.2 k).turn.fro,e⟩:=by rw[g2]
 have run:∀q:Nat,a<=q->(q:Int)<=e->EK ow f q=c+(q-a):=fun q q1 q2=>by
  have:=Ll ow f (a:=a) (q-a) fun p p1 p2=>inn p p1 (by omega)
  rw[show a+(q-a)=q by omega,hca]at this
  exact this
 refine⟨hq.same rfl (Fd Q k k v),⟨fun i hi m m1 m2=> ?_,fun i hi m m1 m2=> ?_,fun i hi m m1 m2 m3=> ?_⟩,g1,ht⟩
 all_goals
  have hi:i<Q.1:=hi
  rw[Fd]at m1 m2
 ·show dW ow f g (c+L) m=(if k<=i/\i<=k then{Q.2 i with owner:=v}else Q.2 i).owner
  by_cases ei:i=k
  ·subst ei
   rw[if_pos ⟨Nat.le_refl _,Nat.le_refl _⟩]
   rw[ht]at m1 m2
   have m1:(P.2 i).turn.fro<=(m:Int):=m1
   have m2:(m:Int)<e:=m2
   have hr1:=run m (by omega) (by omega)
   unfold dW
   rw[if_pos ⟨inn m (by omega) (by omega),by omega⟩]
   exact hv _ (by omega) (by omega)
  rw[if_neg (by omega)]
  have h1:dW ow f g c m=(Q.2 i).owner:=hrq.ow i hi m m1 m2
  rw[<-h1]
  unfold dW
  have key:(ow m=f/\EK ow f m<c+L)↔(ow m=f/\EK ow f m<c):=by
   constructor
   ·rintro⟨x,y⟩
    refine⟨x,?_⟩
    by_cases ma:m<a
    ·exact bef m ma x
    by_cases me:(m:Int)<e
    ·exfalso
     refine ei (hq.one hi g1 m1 m2 ?_ ?_)
     ·rw[ht];show(P.2 k).turn.fro<=(m:Int);omega
     rw[ht];show(m:Int)<e;exact me
    have h3:=Sa ow f (show a+L<=m by omega)
    have h4:=run (a+L) (by omega) (by omega)
    omega
   rintro⟨x,y⟩
   exact⟨x,by omega⟩
  simp only[key]
 ·show le.2 m=(if k<=i/\i<=k then{Q.2 i with owner:=v}else Q.2 i).lent
  rw[show le.2 m=(Q.2 i).lent from hrq.le i hi m m1 m2];split<;>rfl
 show un.2 m=(if k<=i/\i<=k then{Q.2 i with owner:=v}else Q.2 i).til
 have m3:(if k<=i/\i<=k then{Q.2 i with owner:=v}else Q.2 i).lent≠0:=m3
 rw[show un.2 m=(Q.2 i).til from hrq.un i hi m m1 m2 (by split at m3<;>exact m3)];split<;>rfl
def CD(P:Pz)(f:Int)(j:Nat):Pz:=(P.1,fun k=>if k<j/\(P.2 k).lent=f then{P.2 k with lent:=0,til:=0}else P.2 k)
theorem Tk{b:Bk}(h:Rp P b)(f:Int):Rp (CD P f P.1) ⟨b.ow,(b.le.1,fun m=>if b.le.2 m=f then 0 else b.le.2 m),b.un,b.de⟩:=by
 have ht:∀k,((CD P f P.1).2 k).turn=(P.2 k).turn:=fun k=>by
  show(if k<P.1/\(P.2 k).lent=f then{P.2 k with lent:=0,til:=0}else P.2 k).turn=_
  split<;>rfl
 refine⟨fun i hi m m1 m2=> ?_,fun i hi m m1 m2=> ?_,fun i hi m m1 m2 m3=> ?_⟩
 all_goals
  have hi:i<P.1:=hi
  rw[ht]at m1 m2
 ·show b.ow.2 m=(if i<P.1/\(P.2 i).lent=f then{P.2 i with lent:=0,til:=0}else P.2 i).owner
  rw[h.ow i hi m m1 m2];split<;>rfl
 ·show(if b.le.2 m=f then 0 else b.le.2 m)=(if i<P.1/\(P.2 i).lent=f then{P.2 i with lent:=0,til:=0}else P.2 i).lent
  rw[h.le i hi m m1 m2]
  by_cases e:(P.2 i).lent=f
  ·rw[if_pos e,if_pos ⟨hi,e⟩]
  rw[if_neg e,if_neg fun k=>e k.2]
 show b.un.2 m=(if i<P.1/\(P.2 i).lent=f then{P.2 i with lent:=0,til:=0}else P.2 i).til
 have m3:(if i<P.1/\(P.2 i).lent=f then{P.2 i with lent:=0,til:=0}else P.2 i).lent≠0:=m3
 by_cases e:i<P.1/\(P.2 i).lent=f
 ·rw[if_pos e]at m3;exact absurd rfl m3
 rw[if_neg e]at m3⊢;exact h.un i hi m m1 m2 m3
end Go.Proofs.YtlieoghhkioflaaGreat
namespace Go.Proofs.YtlieoghhkioflaaGreat
open Go Go.RowKit
noncomputable def DK(P:Pz)(f part:Int):Int:=min ((P.2 (Fo P f)).turn.fro+part) (P.2 (Fo P f)).turn.til
noncomputable def Ev(f v:Int):Nat->Pz->Int->Pz
 |0,P,_=>P
 |n+1,P,part=>if 0<part then Ev f v n (setO (CJ P (DK P f part)) (Fo P f) (Fo P f) v) (part-(DK P f part-(P.2 (Fo P f)).turn.fro))else P
theorem K7{N n:Nat}{le un:Nat×(Nat->Int)}{de:Nat×(Nat->Bool)}{ow:Nat->Int}{f v:Int}{g:Nat->Int}(hg:∀j,g j≠f):∀(k:Nat) (P:Pz) (c:Nat) (part:Nat),part<=k->BB N P->Rp P ⟨(n,dW ow f g c),le,un,de⟩->c+part<=EK ow f N->(∀j,c<=j->j<c+part->g j=v)->
  BB N (Ev f v k P part)/\Rp (Ev f v k P part) ⟨(n,dW ow f g (c+part)),le,un,de⟩
 |0,P,c,part,hk,h1,h2,_,_=>by
  obtain rfl:part=0:=by omega
  exact⟨h1,h2⟩
 |k+1,P,c,part,hk,h1,h2,h3,h4=>by
  rw[Ev]
  by_cases hp:part=0
  ·subst hp
   rw[if_neg (by omega)]
   exact⟨h1,h2⟩
  rw[if_pos (by omega)]
  obtain⟨a,f1,ha,_,_,_⟩:=Fc h1 h2 hg (by omega)
  have hl:=h1.lt _ f1
  obtain⟨L,hL⟩:∃L:Nat,DK P f part=(P.2 (Fo P f)).turn.fro+L:=⟨(DK P f part-(P.2 (Fo P f)).turn.fro).toNat,by
   have:(P.2 (Fo P f)).turn.fro<=DK P f part:=by unfold DK;omega
   omega⟩
  have e1:DK P f part<=(P.2 (Fo P f)).turn.til:=by unfold DK;omega
  have e2:DK P f part<=(P.2 (Fo P f)).turn.fro+part:=by unfold DK;omega
  have e3:(P.2 (Fo P f)).turn.fro<DK P f part:=by unfold DK;omega
  obtain⟨s1,s2,_,_⟩:=MT h1 h2 hg (by omega) e3 e1 hL (v:=v) fun j j1 j2=>h4 j j1 (by omega)
  have hpart:(part:Int)-(DK P f part-(P.2 (Fo P f)).turn.fro)=((part-L:Nat):Int):=by omega
  rw[hpart]
  have ih:=K7 hg k _ (c+L) (part-L) (by omega) s1 s2 (by omega) fun j j1 j2=>h4 j (by omega) (by omega)
  rw[show c+L+(part-L)=c+part by omega]at ih
  exact ih
noncomputable def EB(f:Int)(who each:Nat->Int)(P:Pz):Nat->Pz
 |0=>P
 |i+1=>Ev f (who i) (each i).toNat (EB f who each P i) (each i)
theorem Ic{N n:Nat}{le un:Nat×(Nat->Int)}{de:Nat×(Nat->Bool)}{ow:Nat->Int}{f:Int}{who each:Nat->Int}{g:Nat->Int}{P:Pz}{m:Nat}(hg:∀j,g j≠f)(h1:BB N P)(h2:Rp P ⟨(n,dW ow f g 0),le,un,de⟩)(h0:∀i,i<m->0<=each i)(h3:AN each m=EK ow f N)(h4:∀i,i<m->∀j:Nat,AN each i<=j->(j:Int)<AN each (i+1)->g j=who i):∀i,i<=m->
  ∃c:Nat,AN each i=c/\BB N (EB f who each P i)/\Rp (EB f who each P i) ⟨(n,dW ow f g c),le,un,de⟩
 |0,_=>⟨0,rfl,h1,h2⟩
 |i+1,hi=>by
  obtain⟨c,c1,c2,c3⟩:=Ic hg h1 h2 h0 h3 h4 i (by omega)
  obtain⟨q,hq⟩:∃q:Nat,each i=q:=⟨(each i).toNat,(Int.toNat_of_nonneg (h0 i (by omega))).symm⟩
  have hs:AN each (i+1)=((c+q:Nat):Int):=by rw[AN,c1,hq];omega
  have hu:=EP (f:=each) (len:=m) h0 hi (Nat.le_refl _)
  rw[EB,hq,Int.toNat_natCast]
  have:=K7 hg q (EB f who each P i) c q (Nat.le_refl _) c2 c3 (by omega) fun j j1 j2=>h4 i (by omega) j (by omega) (by omega)
  exact⟨c+q,hs,this.1,this.2⟩
end Go.Proofs.YtlieoghhkioflaaGreat
