/- The pieces of a book, plain. No condition. -/
import Derived.Test.YtlieoghhkioflaaGreatDBas
set_option linter.unusedSimpArgs false
set_option linter.unusedVariables false
namespace Go.Proofs.YtlieoghhkioflaaGreat
open Go Go.RowKit
variable{b:Bk}{N i:Nat}
abbrev Pz:=Nat×(Nat->Pi)
structure Bz(N:Nat)(P:Pz):Prop where
 pos:1<=P.1
 beg:(P.2 0).turn.fro=0
 lt:∀i,i<P.1->(P.2 i).turn.fro<(P.2 i).turn.til
 nxt:∀i,i+1<P.1->(P.2 (i+1)).turn.fro=(P.2 i).turn.til
 fin:(P.2 (P.1-1)).turn.til=N
theorem Bz.step{P:Pz}(h:Bz N P)(i:Nat):∀d,i+d+1<P.1->(P.2 i).turn.til+d<=(P.2 (i+d+1)).turn.fro
 |0,hd=>by
  have:=h.nxt i hd
  show(P.2 i).turn.til+((0:Nat):Int)<=(P.2 (i+1)).turn.fro
  omega
 |d+1,hd=>by
  have h1:=h.step i d (by omega)
  have h2:=h.lt (i+d+1) (by omega)
  have h3:=h.nxt (i+d+1) (by omega)
  rw[show i+(d+1)+1=i+d+1+1 by omega,h3]
  omega
theorem Bz.mono{P:Pz}(h:Bz N P){j:Nat}(hij:i<j)(hj:j<P.1):(P.2 i).turn.til<=(P.2 j).turn.fro:=by
 obtain⟨d,rfl⟩:∃d,j=i+d+1:=⟨j-i-1,by omega⟩
 have:=h.step i d hj
 omega
theorem Bz.rng{P:Pz}(h:Bz N P)(hi:i<P.1):0<=(P.2 i).turn.fro/\(P.2 i).turn.til<=N:=by
 constructor
 ·rcases Nat.eq_zero_or_pos i with h0|h0
  ·subst h0;rw[h.beg];exact Int.le_refl 0
  have h1:=h.mono h0 hi
  have h2:=h.lt 0 (by omega)
  rw[h.beg]at h2
  omega
 by_cases e:i=P.1-1
 ·rw[e,h.fin];exact Int.le_refl _
 have h1:=h.mono (show i<P.1-1 by omega) (by omega)
 have h2:=h.lt (P.1-1) (by omega)
 have h3:=h.fin
 omega
theorem Bz.len{P:Pz}(h:Bz N P):P.1<=N:=by
 have h2:=h.lt 0 h.pos
 rw[h.beg]at h2
 by_cases e:P.1=1
 ·have:=(h.rng h.pos).2;have:=h.pos;omega
 have h1:=h.step 0 (P.1-2) (by have:=h.pos;omega)
 rw[show 0+(P.1-2)+1=P.1-1 by have:=h.pos;omega]at h1
 have h3:=h.lt (P.1-1) (by have:=h.pos;omega)
 have h4:=h.fin
 omega
theorem Bz.at{P:Pz}(h:Bz N P){m:Int}(h0:0<=m)(h1:m<N):∃i,i<P.1/\(P.2 i).turn.fro<=m/\m<(P.2 i).turn.til:=by
 rcases Bw (fun i=>m<(P.2 i).turn.til) P.1 with⟨a,b,c⟩|⟨_,c⟩
 ·refine⟨_,a,?_,b⟩
  generalize Cj (fun i=>m<(P.2 i).turn.til) P.1=i at*
  cases i with
  |zero=>rw[h.beg];exact h0
  |succ i=>rw[h.nxt i a];have:=c i (by omega);omega
 exact absurd (by rw[h.fin];exact h1) (c (P.1-1) (by have:=h.pos;omega))
theorem Bz.one{P:Pz}(h:Bz N P){m:Int}{j:Nat}(hi:i<P.1)(hj:j<P.1)(i1:(P.2 i).turn.fro<=m)(i2:m<(P.2 i).turn.til)(j1:(P.2 j).turn.fro<=m)(j2:m<(P.2 j).turn.til):i=j:=by
 rcases Nat.lt_trichotomy i j with e|e|e
 ·have:=h.mono e hj;omega
 ·exact e
 have:=h.mono e hi;omega
structure Rp(P:Pz)(b:Bk):Prop where
 ow:∀i,i<P.1->∀m:Nat,(P.2 i).turn.fro<=m->(m:Int)<(P.2 i).turn.til->b.ow.2 m=(P.2 i).owner
 le:∀i,i<P.1->∀m:Nat,(P.2 i).turn.fro<=m->(m:Int)<(P.2 i).turn.til->b.le.2 m=(P.2 i).lent
 un:∀i,i<P.1->∀m:Nat,(P.2 i).turn.fro<=m->(m:Int)<(P.2 i).turn.til->(P.2 i).lent≠0->b.un.2 m=(P.2 i).til
def Dq(p:Nat->Pi)(i:Nat)(c:Int)(k:Nat):Pi:=if k<i then p k else if k=i then{p i with turn:=⟨(p i).turn.fro,c⟩}else if k=i+1 then{p i with turn:=⟨c,(p i).turn.til⟩}else p (k-1)
def Lb(P:Pz)(c:Int)(i:Nat):Prop:=(P.2 i).turn.fro<c/\c<(P.2 i).turn.til
noncomputable def CJ(P:Pz)(c:Int):Pz:=if Cj (Lb P c) P.1<P.1 then(P.1+1,Dq P.2 (Cj (Lb P c) P.1) c)else P
theorem H2{P:Pz}(h:Bz N P)(c:Int):Bz N (CJ P c):=by
 unfold CJ
 split
 ·rename_i hi
  have hc:Lb P c (Cj (Lb P c) P.1):=by
   rcases Bw (Lb P c) P.1 with⟨_,b,_⟩|⟨a,_⟩
   ·exact b
   omega
  generalize Cj (Lb P c) P.1=i at*
  obtain⟨c1,c2⟩:=hc
  refine⟨by show 1<=P.1+1;omega,?_,fun k hk=> ?_,fun k hk=> ?_,?_⟩
  ·show(Dq P.2 i c 0).turn.fro=0
   unfold Dq
   rcases Nat.eq_zero_or_pos i with e|e
   ·subst e;rw[if_neg (by omega),if_pos rfl];exact h.beg
   rw[if_pos e];exact h.beg
  ·have hk:k<P.1+1:=hk
   show(Dq P.2 i c k).turn.fro<(Dq P.2 i c k).turn.til
   unfold Dq
   split
   ·exact h.lt k (by omega)
   split
   ·exact c1
   split
   ·exact c2
   exact h.lt (k-1) (by omega)
  ·have hk:k+1<P.1+1:=hk
   show(Dq P.2 i c (k+1)).turn.fro=(Dq P.2 i c k).turn.til
   unfold Dq
   by_cases e1:k+1<i
   ·rw[if_pos e1,if_pos (show k<i by omega)];exact h.nxt k (by omega)
   by_cases e2:k+1=i
   ·rw[if_neg e1,if_pos e2,if_pos (show k<i by omega),<-e2];exact h.nxt k (by omega)
   by_cases e3:k=i
   ·rw[if_neg e1,if_neg e2,if_pos (by omega),if_neg (show¬k<i by omega),if_pos e3]
   by_cases e4:k=i+1
   ·rw[if_neg e1,if_neg e2,if_neg (show¬k+1=i+1 by omega),if_neg (show¬k<i by omega),if_neg e3,if_pos e4,e4]
    exact h.nxt i (by omega)
   rw[if_neg e1,if_neg e2,if_neg (show¬k+1=i+1 by omega),if_neg (show¬k<i by omega),if_neg e3,if_neg e4]
   have:=h.nxt (k-1) (by omega)
   rw[show k-1+1=k by omega]at this
   rw[Nat.add_sub_cancel]
   exact this
  show(Dq P.2 i c (P.1+1-1)).turn.til=N
  rw[Nat.add_sub_cancel]
  unfold Dq
  rw[if_neg (by omega),if_neg (by omega)]
  by_cases e:P.1=i+1
  ·rw[if_pos e,show i=P.1-1 by omega];exact h.fin
  rw[if_neg e];exact h.fin
 exact h
theorem UD(P:Pz)(c:Int):∀k,k<(CJ P c).1->∃i,i<P.1/\(P.2 i).turn.fro<=((CJ P c).2 k).turn.fro/\((CJ P c).2 k).turn.til<=(P.2 i).turn.til/\((CJ P c).2 k).owner=(P.2 i).owner/\((CJ P c).2 k).lent=(P.2 i).lent/\((CJ P c).2 k).til=(P.2 i).til:=by
 intro k
 unfold CJ
 split
 ·rename_i hi
  have hc:Lb P c (Cj (Lb P c) P.1):=by
   rcases Bw (Lb P c) P.1 with⟨_,b,_⟩|⟨a,_⟩
   ·exact b
   omega
  generalize Cj (Lb P c) P.1=i at*
  obtain⟨c1,c2⟩:=hc
  intro hk
  have hk:k<P.1+1:=hk
  show∃j,j<P.1/\(P.2 j).turn.fro<=(Dq P.2 i c k).turn.fro/\(Dq P.2 i c k).turn.til<=(P.2 j).turn.til/\(Dq P.2 i c k).owner=(P.2 j).owner/\(Dq P.2 i c k).lent=(P.2 j).lent/\(Dq P.2 i c k).til=(P.2 j).til
  unfold Dq
  split
  ·exact⟨k,by omega,Int.le_refl _,Int.le_refl _,rfl,rfl,rfl⟩
  split
  ·exact⟨i,hi,Int.le_refl _,by show c<=_;omega,rfl,rfl,rfl⟩
  split
  ·exact⟨i,hi,by show _<=c;omega,Int.le_refl _,rfl,rfl,rfl⟩
  exact⟨k-1,by omega,Int.le_refl _,Int.le_refl _,rfl,rfl,rfl⟩
 intro hk
 exact⟨k,hk,Int.le_refl _,Int.le_refl _,rfl,rfl,rfl⟩
theorem Jo{P:Pz}(h:Rp P b)(c:Int):Rp (CJ P c) b:=by
 refine⟨fun k hk m h1 h2=> ?_,fun k hk m h1 h2=> ?_,fun k hk m h1 h2 h3=> ?_⟩
 all_goals
  obtain⟨i,hi,p1,p2,p3,p4,p5⟩:=UD P c k hk
 ·rw[p3];exact h.ow i hi m (by omega) (by omega)
 ·rw[p4];exact h.le i hi m (by omega) (by omega)
 rw[p5];exact h.un i hi m (by omega) (by omega) (by rw[<-p4];exact h3)
theorem PY{P:Pz}{a:Int}(c:Int)(h:∃i,i<P.1/\(P.2 i).turn.fro=a):∃i,i<(CJ P c).1/\((CJ P c).2 i).turn.fro=a:=by
 obtain⟨j,hj,hp⟩:=h
 unfold CJ
 split
 ·rename_i hi
  generalize Cj (Lb P c) P.1=i at*
  by_cases e:j<=i
  ·refine⟨j,by show j<P.1+1;omega,?_⟩
   show(Dq P.2 i c j).turn.fro=a
   unfold Dq
   by_cases e1:j<i
   ·rw[if_pos e1];exact hp
   rw[if_neg e1,if_pos (by omega),<-hp,show i=j by omega]
  refine⟨j+1,by show j+1<P.1+1;omega,?_⟩
  show(Dq P.2 i c (j+1)).turn.fro=a
  unfold Dq
  rw[if_neg (by omega),if_neg (by omega),if_neg (by omega),Nat.add_sub_cancel];exact hp
 exact⟨j,hj,hp⟩
theorem SB{P:Pz}(h:Bz N P){c:Int}(h0:0<=c)(h1:c<N):∃i,i<(CJ P c).1/\((CJ P c).2 i).turn.fro=c:=by
 rcases Bw (Lb P c) P.1 with⟨a,b,_⟩|⟨a,b⟩
 ·unfold CJ
  rw[if_pos a]
  generalize Cj (Lb P c) P.1=i at*
  refine⟨i+1,by show i+1<P.1+1;omega,?_⟩
  show(Dq P.2 i c (i+1)).turn.fro=c
  unfold Dq
  rw[if_neg (by omega),if_neg (by omega),if_pos rfl]
 obtain⟨i,i1,i2,i3⟩:=h.at h0 h1
 refine PY c ⟨i,i1,?_⟩
 have:=b i i1
 unfold Lb at this
 omega
theorem Ze{P:Pz}(h:Bz N P){c:Int}(h0:0<c)(h1:c<=N):∃i,i<(CJ P c).1/\((CJ P c).2 i).turn.til=c:=by
 have hk:=H2 h c
 by_cases e:c=N
 ·exact⟨(CJ P c).1-1,by have:=hk.pos;omega,by rw[hk.fin,e]⟩
 obtain⟨i,i1,i2⟩:=SB h (show 0<=c by omega) (show c<N by omega)
 have i0:0<i:=by
  rcases Nat.eq_zero_or_pos i with z|z
  ·subst z;have:=hk.beg;omega
  exact z
 have:=hk.nxt (i-1) (by omega)
 rw[show i-1+1=i by omega]at this
 exact⟨i-1,by omega,by omega⟩
noncomputable def Cg(P:Pz)(t:Tu):Pz:=CJ (CJ P t.fro) t.til
noncomputable def Ci(P:Pz)(t:Tu):Nat:=Cj (fun i=>(P.2 i).turn.fro=t.fro) P.1
noncomputable def CH(P:Pz)(t:Tu):Nat:=Cj (fun i=>(P.2 i).turn.til=t.til) P.1
structure O0(N:Nat)(P:Pz)(t:Tu):Prop where
 ok:Bz N P
 f:Ci P t<P.1
 l:CH P t<P.1
 ff:(P.2 (Ci P t)).turn.fro=t.fro
 ll:(P.2 (CH P t)).turn.til=t.til
 fl:Ci P t<=CH P t
theorem KI{P:Pz}(h:Bz N P){t:Tu}(h0:0<=t.fro)(h1:t.fro<t.til)(h2:t.til<=N):O0 N (Cg P t) t:=by
 have k1:=H2 h t.fro
 have k2:Bz N (Cg P t):=H2 k1 t.til
 have a:∃i,i<(Cg P t).1/\((Cg P t).2 i).turn.fro=t.fro:=PY t.til (SB h h0 (by omega))
 have b:∃i,i<(Cg P t).1/\((Cg P t).2 i).turn.til=t.til:=Ze k1 (by omega) h2
 have a':Ci (Cg P t) t<(Cg P t).1/\((Cg P t).2 (Ci (Cg P t) t)).turn.fro=t.fro:=by
  rcases Bw (fun i=>((Cg P t).2 i).turn.fro=t.fro) (Cg P t).1 with⟨x,y,_⟩|⟨_,z⟩
  ·exact⟨x,y⟩
  obtain⟨i,i1,i2⟩:=a;exact absurd i2 (z i i1)
 have b':CH (Cg P t) t<(Cg P t).1/\((Cg P t).2 (CH (Cg P t) t)).turn.til=t.til:=by
  rcases Bw (fun i=>((Cg P t).2 i).turn.til=t.til) (Cg P t).1 with⟨x,y,_⟩|⟨_,z⟩
  ·exact⟨x,y⟩
  obtain⟨i,i1,i2⟩:=b;exact absurd i2 (z i i1)
 refine⟨k2,a'.1,b'.1,a'.2,b'.2,?_⟩
 apply Classical.byContradiction
 intro hn
 have:=k2.mono (show CH (Cg P t) t<Ci (Cg P t) t by omega) a'.1
 omega
theorem O0.mem{P:Pz}{t:Tu}(h:O0 N P t)(hi:i<P.1){m:Nat}(m1:(P.2 i).turn.fro<=m)(m2:(m:Int)<(P.2 i).turn.til):(t.fro<=m/\(m:Int)<t.til)↔(Ci P t<=i/\i<=CH P t):=by
 constructor
 ·rintro⟨a,b⟩
  constructor
  ·apply Classical.byContradiction
   intro hn
   have:=h.ok.mono (show i<Ci P t by omega) h.f
   have:=h.ff
   omega
  apply Classical.byContradiction
  intro hn
  have:=h.ok.mono (show CH P t<i by omega) hi
  have:=h.ll
  omega
 rintro⟨a,b⟩
 constructor
 ·by_cases e:i=Ci P t
  ·rw[<-h.ff,<-e];exact m1
  have:=h.ok.mono (show Ci P t<i by omega) hi
  have:=h.ff
  have:=h.ok.lt _ h.f
  omega
 by_cases e:i=CH P t
 ·rw[<-h.ll,<-e];exact m2
 have:=h.ok.mono (show i<CH P t by omega) h.l
 have:=h.ll
 have:=h.ok.lt _ h.l
 omega
theorem XP{P:Pz}{x:De}(h:O0 N P x.turn)(hr:Rp P b)(h0:0<=x.turn.fro):H4 b x↔∀i,Ci P x.turn<=i->i<=CH P x.turn->(P.2 i).owner=x.fro:=by
 constructor
 ·intro hh i i1 i2
  have hi:i<P.1:=by have:=h.l;omega
  have hl:=h.ok.lt i hi
  have h3:=(h.ok.rng hi).1
  have hm:(((P.2 i).turn.fro.toNat:Nat):Int)=(P.2 i).turn.fro:=Int.toNat_of_nonneg h3
  obtain⟨q1,q2⟩:=(h.mem hi (m:=(P.2 i).turn.fro.toNat) (by omega) (by omega)).2 ⟨i1,i2⟩
  rw[<-hr.ow i hi (P.2 i).turn.fro.toNat (by omega) (by omega)]
  exact hh _ q1 q2
 intro hh m m1 m2
 obtain⟨i,i1,i2,i3⟩:=h.ok.at (m:=m) (by omega) (by have:=(h.ok.rng h.l).2;have:=h.ll;omega)
 obtain⟨q1,q2⟩:=(h.mem i1 i2 i3).1 ⟨m1,m2⟩
 rw[hr.ow i i1 m i2 i3]
 exact hh i q1 q2
theorem YR{P:Pz}{x:De}(h:O0 N P x.turn)(hr:Rp P b)(h0:0<=x.turn.fro):Og b x↔∀i,Ci P x.turn<=i->i<=CH P x.turn->¬((P.2 i).lent≠0/\x.day<(P.2 i).til):=by
 constructor
 ·intro hh i i1 i2
  have hi:i<P.1:=by have:=h.l;omega
  have hl:=h.ok.lt i hi
  have h3:=(h.ok.rng hi).1
  have hm:(((P.2 i).turn.fro.toNat:Nat):Int)=(P.2 i).turn.fro:=Int.toNat_of_nonneg h3
  obtain⟨q1,q2⟩:=(h.mem hi (m:=(P.2 i).turn.fro.toNat) (by omega) (by omega)).2 ⟨i1,i2⟩
  rintro⟨a,c⟩
  refine hh _ q1 q2 ⟨?_,?_⟩
  ·rw[hr.le i hi _ (by omega) (by omega)];exact a
  rw[hr.un i hi _ (by omega) (by omega) a];exact c
 intro hh m m1 m2
 obtain⟨i,i1,i2,i3⟩:=h.ok.at (m:=m) (by omega) (by have:=(h.ok.rng h.l).2;have:=h.ll;omega)
 obtain⟨q1,q2⟩:=(h.mem i1 i2 i3).1 ⟨m1,m2⟩
 rintro⟨a,c⟩
 rw[hr.le i i1 m i2 i3]at a
 rw[hr.un i i1 m i2 i3 a]at c
 exact hh i q1 q2 ⟨a,c⟩
end Go.Proofs.YtlieoghhkioflaaGreat
namespace Go.Proofs.YtlieoghhkioflaaGreat
open Go Go.RowKit
variable{b:Bk}{N:Nat}{P:Pz}
def setO(P:Pz)(f l:Nat)(v:Int):Pz:=(P.1,fun k=>if f<=k/\k<=l then{P.2 k with owner:=v}else P.2 k)
def Nu(P:Pz)(f l:Nat)(v u:Int):Pz:=(P.1,fun k=>if f<=k/\k<=l then{P.2 k with lent:=v,til:=u}else P.2 k)
theorem E3(P:Pz)(f l:Nat)(v:Int)(k:Nat):((setO P f l v).2 k).turn=(P.2 k).turn:=by
 show(if f<=k/\k<=l then{P.2 k with owner:=v}else P.2 k).turn=_
 split<;>rfl
theorem Lf(P:Pz)(f l:Nat)(v u:Int)(k:Nat):((Nu P f l v u).2 k).turn=(P.2 k).turn:=by
 show(if f<=k/\k<=l then{P.2 k with lent:=v,til:=u}else P.2 k).turn=_
 split<;>rfl
theorem Bz.same{Q:Pz}(h:Bz N P)(h1:Q.1=P.1)(h2:∀k,(Q.2 k).turn=(P.2 k).turn):Bz N Q:=
 ⟨by rw[h1];exact h.pos,by rw[h2];exact h.beg,fun i hi=>by rw[h2];exact h.lt i (by omega),fun i hi=>by rw[h2,h2];exact h.nxt i (by omega),by rw[h1,h2];exact h.fin⟩
theorem Pw{x:De}(h:O0 N P x.turn)(hr:Rp P b)(v:Int):Rp (setO P (Ci P x.turn) (CH P x.turn) v) ⟨(b.ow.1,fun m=>if GE x m then v else b.ow.2 m),b.le,b.un,b.de⟩:=by
 refine⟨fun i hi m m1 m2=> ?_,fun i hi m m1 m2=> ?_,fun i hi m m1 m2 m3=> ?_⟩
 all_goals
  have hi:i<P.1:=hi
  rw[E3]at m1 m2
 ·have hm:=h.mem hi m1 m2
  show(if GE x m then v else b.ow.2 m)=(if Ci P x.turn<=i/\i<=CH P x.turn then{P.2 i with owner:=v}else P.2 i).owner
  by_cases e:Ci P x.turn<=i/\i<=CH P x.turn
  ·rw[if_pos e,if_pos (show GE x m from hm.2 e)]
  rw[if_neg e,if_neg (show¬GE x m from fun k=>e (hm.1 k))];exact hr.ow i hi m m1 m2
 ·show b.le.2 m=(if Ci P x.turn<=i/\i<=CH P x.turn then{P.2 i with owner:=v}else P.2 i).lent
  rw[hr.le i hi m m1 m2];split<;>rfl
 show b.un.2 m=(if Ci P x.turn<=i/\i<=CH P x.turn then{P.2 i with owner:=v}else P.2 i).til
 have m3:(if Ci P x.turn<=i/\i<=CH P x.turn then{P.2 i with owner:=v}else P.2 i).lent≠0:=m3
 rw[hr.un i hi m m1 m2 (by split at m3<;>exact m3)];split<;>rfl
theorem W2{x:De}(h:O0 N P x.turn)(hr:Rp P b)(v u:Int):Rp (Nu P (Ci P x.turn) (CH P x.turn) v u) ⟨b.ow,(b.le.1,fun m=>if GE x m then v else b.le.2 m),(b.un.1,fun m=>if GE x m then u else b.un.2 m),b.de⟩:=by
 refine⟨fun i hi m m1 m2=> ?_,fun i hi m m1 m2=> ?_,fun i hi m m1 m2 m3=> ?_⟩
 all_goals
  have hi:i<P.1:=hi
  rw[Lf]at m1 m2
  have hm:=h.mem hi m1 m2
 ·show b.ow.2 m=(if Ci P x.turn<=i/\i<=CH P x.turn then{P.2 i with lent:=v,til:=u}else P.2 i).owner
  rw[hr.ow i hi m m1 m2];split<;>rfl
 ·show(if GE x m then v else b.le.2 m)=(if Ci P x.turn<=i/\i<=CH P x.turn then{P.2 i with lent:=v,til:=u}else P.2 i).lent
  by_cases e:Ci P x.turn<=i/\i<=CH P x.turn
  ·rw[if_pos e,if_pos (show GE x m from hm.2 e)]
  rw[if_neg e,if_neg (show¬GE x m from fun k=>e (hm.1 k))];exact hr.le i hi m m1 m2
 have m3:(if Ci P x.turn<=i/\i<=CH P x.turn then{P.2 i with lent:=v,til:=u}else P.2 i).lent≠0:=m3
 show(if GE x m then u else b.un.2 m)=(if Ci P x.turn<=i/\i<=CH P x.turn then{P.2 i with lent:=v,til:=u}else P.2 i).til
 by_cases e:Ci P x.turn<=i/\i<=CH P x.turn
 ·rw[if_pos e,if_pos (show GE x m from hm.2 e)]
 rw[if_neg e]at m3
 rw[if_neg e,if_neg (show¬GE x m from fun k=>e (hm.1 k))];exact hr.un i hi m m1 m2 m3
def ZJ(r:Ro):Pz:=(r.holds.1,fun i=>⟨(r.holds.2 i).turn,(r.holds.2 i).who,0,0⟩)
theorem W9{r:Ro}(h:Ge r):Bz (Cs r) (ZJ r):=by
 obtain⟨h1,h2,h3,h4,h5,h6⟩:=h
 have hN:((Cs r:Nat):Int)=1440*r.days:=by unfold Cs;omega
 refine⟨h3,?_,fun i hi=>(h5 i hi).2.2.2.1,fun i hi=> ?_,?_⟩
 ·exact(h5 0 (by omega)).2.2.1
 ·have:=(h5 (i+1) hi).2.2.1
  unfold Lj at this
  rw[if_neg (by omega)]at this
  exact this
 unfold Lj at h6
 rw[if_neg (by omega)]at h6
 exact h6.trans hN.symm
theorem Aao{r:Ro}(h:Ge r):Rp (ZJ r) (VP r):=by
 have hk:=W9 h
 refine⟨fun i hi m m1 m2=> ?_,fun i hi m m1 m2=>rfl,fun i hi m m1 m2 m3=>absurd rfl m3⟩
 show(r.holds.2 (Cj (fun i=>(m:Int)<(r.holds.2 i).turn.til) r.holds.1)).who=(r.holds.2 i).who
 have:Cj (fun i=>(m:Int)<(r.holds.2 i).turn.til) r.holds.1=i:=Db hi m2 fun j hj=>by
  have h1:(r.holds.2 j).turn.til<=((ZJ r).2 i).turn.fro:=hk.mono hj hi
  intro k
  omega
 rw[this]
theorem Wy(hr:Rp P b)(d:Int){i:Nat}(hi:i<P.1){m:Nat}(m1:(P.2 i).turn.fro<=m)(m2:(m:Int)<(P.2 i).turn.til):(if(P.2 i).lent≠0/\d<(P.2 i).til then(P.2 i).lent else(P.2 i).owner)=if b.le.2 m≠0/\d<b.un.2 m then b.le.2 m else b.ow.2 m:=by
 have e1:=hr.le i hi m m1 m2
 have e2:=hr.ow i hi m m1 m2
 rw[e1,e2]
 by_cases e:(P.2 i).lent=0
 ·rw[if_neg (fun k=>k.1 e),if_neg (fun k=>k.1 e)]
 rw[hr.un i hi m m1 m2 e]
end Go.Proofs.YtlieoghhkioflaaGreat
namespace Go.Proofs.YtlieoghhkioflaaGreat
open Go Go.RowKit
variable{N c:Nat}{P:Pz}
def EG(ow:Nat->Int)(f:Int)(m:Nat):Nat:=E2 (fun q=>decide (ow q=f)) m
theorem PQ(ow:Nat->Int)(f:Int)(m:Nat):EG ow f (m+1)=if ow m=f then EG ow f m+1 else EG ow f m:=by
 show E2 _ (m+1)=_
 rw[E2];simp only[decide_eq_true_eq];rfl
theorem SE(ow:Nat->Int)(f:Int){a b:Nat}(h:a<=b):EG ow f a<=EG ow f b:=YX _ h
theorem I0(ow:Nat->Int)(f:Int):∀a,c<EG ow f a->∃q,q<a/\ow q=f/\EG ow f q=c
 |0,h=>absurd h (Nat.not_lt_zero _)
 |a+1,h=>by
  rw[PQ]at h
  by_cases e:ow a=f
  ·rw[if_pos e]at h
   by_cases e2:EG ow f a=c
   ·exact⟨a,by omega,e,e2⟩
   obtain⟨q,h1,h2⟩:=I0 ow f a (by omega);exact⟨q,by omega,h2⟩
  rw[if_neg e]at h
  obtain⟨q,h1,h2⟩:=I0 ow f a h;exact⟨q,by omega,h2⟩
theorem L8(ow:Nat->Int)(f:Int){a:Nat}:∀d,(∀q,a<=q->q<a+d->ow q=f)->EG ow f (a+d)=EG ow f a+d
 |0,_=>rfl
 |d+1,h=>by
  rw[<-Nat.add_assoc,PQ,if_pos (h (a+d) (by omega) (by omega)),L8 ow f d fun q h1 h2=>h q h1 (by omega)];omega
def dW(ow:Nat->Int)(f:Int)(g:Nat->Int)(c m:Nat):Int:=if ow m=f/\EG ow f m<c then g (EG ow f m)else ow m
noncomputable def Fl(P:Pz)(f:Int):Nat:=Cj (fun i=>(P.2 i).owner=f) P.1
theorem SQ(h:Bz N P){k:Nat}(hk:k<P.1){e:Int}(h1:(P.2 k).turn.fro<e)(h2:e<=(P.2 k).turn.til):k<(CJ P e).1/\(CJ P e).2 k={P.2 k with turn:=⟨(P.2 k).turn.fro,e⟩}:=by
 by_cases e1:e=(P.2 k).turn.til
 ·have:Cj (Lb P e) P.1=P.1:=I3 fun j hj ⟨c1,c2⟩=>by
   rcases Nat.lt_trichotomy j k with c|c|c
   ·have:=h.mono c hk;omega
   ·subst c;omega
   have:=h.mono c hj;omega
  unfold CJ
  rw[this,if_neg (Nat.lt_irrefl _),e1]
  exact⟨hk,rfl⟩
 have:Cj (Lb P e) P.1=k:=Db hk ⟨h1,by omega⟩ fun j hj ⟨c1,c2⟩=>by have:=h.mono hj hk;omega
 unfold CJ
 rw[this,if_pos hk]
 refine⟨by show k<P.1+1;omega,?_⟩
 show Dq P.2 k e k=_
 unfold Dq
 rw[if_neg (Nat.lt_irrefl _),if_pos rfl]
theorem Fi{le un:Nat×(Nat->Int)}{de:Nat×(Nat->Bool)}{n:Nat}{ow:Nat->Int}{f:Int}{g:Nat->Int}(hk:Bz N P)(hr:Rp P ⟨(n,dW ow f g c),le,un,de⟩)(hg:∀j,g j≠f)(hc:c<EG ow f N):
  ∃a:Nat,Fl P f<P.1/\(P.2 (Fl P f)).turn.fro=a/\EG ow f a=c/\(∀q,q<a->ow q=f->EG ow f q<c)/\∀q:Nat,a<=q->(q:Int)<(P.2 (Fl P f)).turn.til->ow q=f:=by
 have no:∀m,dW ow f g c m=f->ow m=f/\c<=EG ow f m:=fun m h=>by
  unfold dW at h
  by_cases e:ow m=f/\EG ow f m<c
  ·rw[if_pos e]at h;exact absurd h (hg _)
  rw[if_neg e]at h;exact⟨h,by
   apply Classical.byContradiction
   intro k;exact e ⟨h,by omega⟩⟩
 have hf:Fl P f<P.1/\(P.2 (Fl P f)).owner=f/\∀j,j<Fl P f->¬(P.2 j).owner=f:=by
  rcases Bw (fun i=>(P.2 i).owner=f) P.1 with h|⟨_,h⟩
  ·exact h
  obtain⟨q,q1,q2,q3⟩:=I0 ow f N hc
  obtain⟨i,i1,i2,i3⟩:=hk.at (m:=q) (by omega) (by omega)
  have h1:dW ow f g c q=(P.2 i).owner:=hr.ow i i1 q i2 i3
  have h2:dW ow f g c q=f:=by unfold dW;rw[if_neg (by omega)];exact q2
  exact absurd (h1.symm.trans h2) (h i i1)
 obtain⟨f1,f2,f3⟩:=hf
 generalize Fl P f=k at*
 have h0:=(hk.rng f1).1
 obtain⟨a,ha⟩:∃a:Nat,(P.2 k).turn.fro=a:=⟨(P.2 k).turn.fro.toNat,(Int.toNat_of_nonneg h0).symm⟩
 have hl:=hk.lt k f1
 have hN:=(hk.rng f1).2
 have inn:∀q:Nat,a<=q->(q:Int)<(P.2 k).turn.til->ow q=f/\c<=EG ow f q:=fun q q1 q2=>no q (by
  have:dW ow f g c q=(P.2 k).owner:=hr.ow k f1 q (by omega) q2
  rw[this,f2])
 have bef:∀q,q<a->ow q=f->EG ow f q<c:=fun q q1 q2=>by
  obtain⟨i,i1,i2,i3⟩:=hk.at (m:=q) (by omega) (by omega)
  have ik:i<k:=by
   apply Classical.byContradiction
   intro e
   by_cases e2:i=k
   ·subst e2;omega
   have:=hk.mono (show k<i by omega) i1;omega
  have h1:dW ow f g c q=(P.2 i).owner:=hr.ow i i1 q i2 i3
  apply Classical.byContradiction
  intro e
  refine f3 i ik ?_
  rw[<-h1];unfold dW;rw[if_neg (by omega)];exact q2
 refine⟨a,f1,ha,?_,bef,fun q q1 q2=>(inn q q1 q2).1⟩
 have h1:=(inn a (Nat.le_refl _) (by omega)).2
 apply Classical.byContradiction
 intro e
 obtain⟨q,q1,q2,q3⟩:=I0 ow f a (show c<EG ow f a by omega)
 have:=bef q q1 q2
 omega
theorem M5{le un:Nat×(Nat->Int)}{de:Nat×(Nat->Bool)}{n:Nat}{ow:Nat->Int}{f:Int}{g:Nat->Int}(hk:Bz N P)(hr:Rp P ⟨(n,dW ow f g c),le,un,de⟩)(hg:∀j,g j≠f)(hc:c<EG ow f N){e v:Int}{L:Nat}
  (e1:(P.2 (Fl P f)).turn.fro<e) (e2:e<=(P.2 (Fl P f)).turn.til) (eL:e=(P.2 (Fl P f)).turn.fro+L) (hv:∀j,c<=j->j<c+L->g j=v):
  Bz N (setO (CJ P e) (Fl P f) (Fl P f) v)/\Rp (setO (CJ P e) (Fl P f) (Fl P f) v) ⟨(n,dW ow f g (c+L)),le,un,de⟩/\Fl P f<(CJ P e).1/\((CJ P e).2 (Fl P f)).turn=⟨(P.2 (Fl P f)).turn.fro,e⟩:=by
 obtain⟨a,f1,ha,hca,bef,inn⟩:=Fi hk hr hg hc
 have hq:=H2 hk e
 have hrq:=Jo hr e
 obtain⟨g1,g2⟩:=SQ hk f1 e1 e2
 generalize Fl P f=k at*
 generalize hQ:CJ P e=Q at*
 have ht:(Q.2 k).turn=⟨(P.2 k).turn.fro,e⟩:=by rw[g2]
 have run:∀q:Nat,a<=q->(q:Int)<=e->EG ow f q=c+(q-a):=fun q q1 q2=>by
  have:=L8 ow f (a:=a) (q-a) fun p p1 p2=>inn p p1 (by omega)
  rw[show a+(q-a)=q by omega,hca]at this
  exact this
 refine⟨hq.same rfl (E3 Q k k v),⟨fun i hi m m1 m2=> ?_,fun i hi m m1 m2=> ?_,fun i hi m m1 m2 m3=> ?_⟩,g1,ht⟩
 all_goals
  have hi:i<Q.1:=hi
  rw[E3]at m1 m2
 ·show dW ow f g (c+L) m=(if k<=i/\i<=k then{Q.2 i with owner:=v}else Q.2 i).owner
  by_cases ei:i=k
  ·subst ei
   rw[if_pos ⟨Nat.le_refl _,Nat.le_refl _⟩]
   rw[ht]at m1 m2
   have m1:(P.2 i).turn.fro<=(m:Int):=m1
   have m2:(m:Int)<e:=m2
   have hr1:=run m (by omega) (by omega)
   unfold dW
   rw[if_pos ⟨inn m (by omega) (by omega),by omega⟩]
   exact hv _ (by omega) (by omega)
  rw[if_neg (by omega)]
  have h1:dW ow f g c m=(Q.2 i).owner:=hrq.ow i hi m m1 m2
  rw[<-h1]
  unfold dW
  have key:(ow m=f/\EG ow f m<c+L)↔(ow m=f/\EG ow f m<c):=by
   constructor
   ·rintro⟨x,y⟩
    refine⟨x,?_⟩
    by_cases ma:m<a
    ·exact bef m ma x
    by_cases me:(m:Int)<e
    ·exfalso
     refine ei (hq.one hi g1 m1 m2 ?_ ?_)
     ·rw[ht];show(P.2 k).turn.fro<=(m:Int);omega
     rw[ht];show(m:Int)<e;exact me
    have h3:=SE ow f (show a+L<=m by omega)
    have h4:=run (a+L) (by omega) (by omega)
    omega
   rintro⟨x,y⟩
   exact⟨x,by omega⟩
  simp only[key]
 ·show le.2 m=(if k<=i/\i<=k then{Q.2 i with owner:=v}else Q.2 i).lent
  rw[show le.2 m=(Q.2 i).lent from hrq.le i hi m m1 m2];split<;>rfl
 show un.2 m=(if k<=i/\i<=k then{Q.2 i with owner:=v}else Q.2 i).til
 have m3:(if k<=i/\i<=k then{Q.2 i with owner:=v}else Q.2 i).lent≠0:=m3
 rw[show un.2 m=(Q.2 i).til from hrq.un i hi m m1 m2 (by split at m3<;>exact m3)];split<;>rfl
def CC(P:Pz)(f:Int)(j:Nat):Pz:=(P.1,fun k=>if k<j/\(P.2 k).lent=f then{P.2 k with lent:=0,til:=0}else P.2 k)
theorem Tw{b:Bk}(h:Rp P b)(f:Int):Rp (CC P f P.1) ⟨b.ow,(b.le.1,fun m=>if b.le.2 m=f then 0 else b.le.2 m),b.un,b.de⟩:=by
 have ht:∀k,((CC P f P.1).2 k).turn=(P.2 k).turn:=fun k=>by
  show(if k<P.1/\(P.2 k).lent=f then{P.2 k with lent:=0,til:=0}else P.2 k).turn=_
  split<;>rfl
 refine⟨fun i hi m m1 m2=> ?_,fun i hi m m1 m2=> ?_,fun i hi m m1 m2 m3=> ?_⟩
 all_goals
  have hi:i<P.1:=hi
  rw[ht]at m1 m2
 ·show b.ow.2 m=(if i<P.1/\(P.2 i).lent=f then{P.2 i with lent:=0,til:=0}else P.2 i).owner
  rw[h.ow i hi m m1 m2];split<;>rfl
 ·show(if b.le.2 m=f then 0 else b.le.2 m)=(if i<P.1/\(P.2 i).lent=f then{P.2 i with lent:=0,til:=0}else P.2 i).lent
  rw[h.le i hi m m1 m2]
  by_cases e:(P.2 i).lent=f
  ·rw[if_pos e,if_pos ⟨hi,e⟩]
  rw[if_neg e,if_neg fun k=>e k.2]
 show b.un.2 m=(if i<P.1/\(P.2 i).lent=f then{P.2 i with lent:=0,til:=0}else P.2 i).til
 have m3:(if i<P.1/\(P.2 i).lent=f then{P.2 i with lent:=0,til:=0}else P.2 i).lent≠0:=m3
 by_cases e:i<P.1/\(P.2 i).lent=f
 ·rw[if_pos e]at m3;exact absurd rfl m3
 rw[if_neg e]at m3⊢;exact h.un i hi m m1 m2 m3
end Go.Proofs.YtlieoghhkioflaaGreat
namespace Go.Proofs.YtlieoghhkioflaaGreat
open Go Go.RowKit
noncomputable def DF(P:Pz)(f part:Int):Int:=min ((P.2 (Fl P f)).turn.fro+part) (P.2 (Fl P f)).turn.til
noncomputable def EC(f v:Int):Nat->Pz->Int->Pz
 |0,P,_=>P
 |n+1,P,part=>if 0<part then EC f v n (setO (CJ P (DF P f part)) (Fl P f) (Fl P f) v) (part-(DF P f part-(P.2 (Fl P f)).turn.fro))else P
theorem KV{N n:Nat}{le un:Nat×(Nat->Int)}{de:Nat×(Nat->Bool)}{ow:Nat->Int}{f v:Int}{g:Nat->Int}(hg:∀j,g j≠f):∀(k:Nat) (P:Pz) (c:Nat) (part:Nat),part<=k->Bz N P->Rp P ⟨(n,dW ow f g c),le,un,de⟩->c+part<=EG ow f N->(∀j,c<=j->j<c+part->g j=v)->
  Bz N (EC f v k P part)/\Rp (EC f v k P part) ⟨(n,dW ow f g (c+part)),le,un,de⟩
 |0,P,c,part,hk,h1,h2,_,_=>by
  obtain rfl:part=0:=by omega
  exact⟨h1,h2⟩
 |k+1,P,c,part,hk,h1,h2,h3,h4=>by
  rw[EC]
  by_cases hp:part=0
  ·subst hp
   rw[if_neg (by omega)]
   exact⟨h1,h2⟩
  rw[if_pos (by omega)]
  obtain⟨a,f1,ha,_,_,_⟩:=Fi h1 h2 hg (by omega)
  have hl:=h1.lt _ f1
  obtain⟨L,hL⟩:∃L:Nat,DF P f part=(P.2 (Fl P f)).turn.fro+L:=⟨(DF P f part-(P.2 (Fl P f)).turn.fro).toNat,by
   have:(P.2 (Fl P f)).turn.fro<=DF P f part:=by unfold DF;omega
   omega⟩
  have e1:DF P f part<=(P.2 (Fl P f)).turn.til:=by unfold DF;omega
  have e2:DF P f part<=(P.2 (Fl P f)).turn.fro+part:=by unfold DF;omega
  have e3:(P.2 (Fl P f)).turn.fro<DF P f part:=by unfold DF;omega
  obtain⟨s1,s2,_,_⟩:=M5 h1 h2 hg (by omega) e3 e1 hL (v:=v) fun j j1 j2=>h4 j j1 (by omega)
  have hpart:(part:Int)-(DF P f part-(P.2 (Fl P f)).turn.fro)=((part-L:Nat):Int):=by omega
  rw[hpart]
  have ih:=KV hg k _ (c+L) (part-L) (by omega) s1 s2 (by omega) fun j j1 j2=>h4 j (by omega) (by omega)
  rw[show c+L+(part-L)=c+part by omega]at ih
  exact ih
noncomputable def EF(f:Int)(who each:Nat->Int)(P:Pz):Nat->Pz
 |0=>P
 |i+1=>EC f (who i) (each i).toNat (EF f who each P i) (each i)
theorem Ih{N n:Nat}{le un:Nat×(Nat->Int)}{de:Nat×(Nat->Bool)}{ow:Nat->Int}{f:Int}{who each:Nat->Int}{g:Nat->Int}{P:Pz}{m:Nat}(hg:∀j,g j≠f)(h1:Bz N P)(h2:Rp P ⟨(n,dW ow f g 0),le,un,de⟩)(h0:∀i,i<m->0<=each i)(h3:AN each m=EG ow f N)(h4:∀i,i<m->∀j:Nat,AN each i<=j->(j:Int)<AN each (i+1)->g j=who i):∀i,i<=m->
  ∃c:Nat,AN each i=c/\Bz N (EF f who each P i)/\Rp (EF f who each P i) ⟨(n,dW ow f g c),le,un,de⟩
 |0,_=>⟨0,rfl,h1,h2⟩
 |i+1,hi=>by
  obtain⟨c,c1,c2,c3⟩:=Ih hg h1 h2 h0 h3 h4 i (by omega)
  obtain⟨q,hq⟩:∃q:Nat,each i=q:=⟨(each i).toNat,(Int.toNat_of_nonneg (h0 i (by omega))).symm⟩
  have hs:AN each (i+1)=((c+q:Nat):Int):=by rw[AN,c1,hq];omega
  have hu:=EV (f:=each) (len:=m) h0 hi (Nat.le_refl _)
  rw[EF,hq,Int.toNat_natCast]
  have:=KV hg q (EF f who each P i) c q (Nat.le_refl _) c2 c3 (by omega) fun j j1 j2=>h4 i (by omega) j (by omega) (by omega)
  exact⟨c+q,hs,this.1,this.2⟩
end Go.Proofs.YtlieoghhkioflaaGreat
