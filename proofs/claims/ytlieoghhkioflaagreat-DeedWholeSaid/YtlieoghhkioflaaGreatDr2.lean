/- Deeds: the reference's deeds. No condition. -/
import Derived.Test.YtlieoghhkioflaaGreatLDez
set_option linter.unusedSimpArgs false
set_option linter.unusedVariables false
set_option maxRecDepth 100000
namespace Go.Proofs.YtlieoghhkioflaaGreat
open Go Go.RowKit
variable{G:Nat->Option (Nat×(Nat->Ad))}
theorem Rw{n:Nat}{P:Prop}(h:n=0↔P):((n:Int)==0)=A9 P:=by
 by_cases h0:n=0
 ·rw[Au (h.1 h0)];subst h0;rfl
 rw[An fun k=>h0 (h.2 k)];exact beq_eq_false_iff_ne.2 (by omega)
theorem R6{n:Int}{P:Prop}(h:n=0↔P):(n==0)=A9 P:=by
 by_cases h0:n=0
 ·rw[Au (h.1 h0)];subst h0;rfl
 rw[An fun k=>h0 (h.2 k)];exact beq_eq_false_iff_ne.2 h0
noncomputable def Pd:As:=Cs VY TI (fun _ _=>True) fun t e=> .bool (A9 (0<=t.fro/\t.fro<t.til/\t.til<=e))
theorem YD:Ai Tryz.prog G 70 Pd:=by
 refine KK (S:=[]) (I:=[]) mixed .nil .nil Tryz.func70 c70 fun t e _ hw=> ?_
 simp only[AU,a70,↓reduceIte,reduceCtorEq,Nat.reduceEqDiff,Nat.reduceAdd,Nat.reduceLeDiff,go_sem]
 refine⟨fun h1=>⟨fun h2=> ?_,fun h2=>(An fun k=>h2 k.2.1).symm⟩,fun h1=>(An fun k=>h1 k.1).symm⟩
 by_cases h3:t.til<=e
 ·rw[decide_eq_true h3];exact(Au ⟨h1,h2,h3⟩).symm
 rw[decide_eq_false h3];exact(An fun k=>h3 k.2.2).symm
def Gn(r:Ro)(x:De):Prop:=0<=x.turn.fro/\x.turn.fro<x.turn.til/\x.turn.til<=1440*r.days
def E8(x:De):Prop:=1<=x.tow/\x.tow<=9999/\x.tow≠x.fro
def C5(r:Ro)(x:De):Prop:=0<=x.id/\x.id<=9999/\0<=x.day/\x.day<=100000/\1<=x.fro/\x.fro<=9999/\
  (x.kind=1/\E8 x/\Gn r x/\x.til=0/\x.heirs.1=0\/x.kind=2/\Gn r x/\x.tow=0/\x.til=0/\x.heirs.1=0\/
   x.kind=3/\FV x.fro x.heirs/\x.tow=0/\x.turn.fro=0/\x.turn.til=0/\x.til=0\/x.kind=4/\E8 x/\Gn r x/\x.day+1<=x.til/\x.til<=100001/\x.heirs.1=0)
noncomputable def Pm:As:=Cs Ja UI (fun r _=>1<=r.days/\r.days<=16) fun r x=> .bool (A9 (C5 r x))
theorem X6:Ai Tryz.prog G 30 Pm:=by
 refine KK (S:=[(59,Py),(69,UV),(70,Pd),(71,O6)]) (I:=[]) mixed (.cons Zx (.cons Aa7 (.cons YD (.cons Yj .nil)))) .nil Tryz.func30 c30 fun r x hp hw=> ?_
 simp only[Nat.reduceSub,Nat.reducePow,go_sem]at hw
 simp only[AU,a30,Py,UV,Pd,O6,hw,↓reduceIte,reduceCtorEq,Nat.reduceEqDiff,Nat.reduceAdd,Nat.reduceSub,Nat.reduceLeDiff,Nat.reducePow,go_sem]
 have e1:IntKind.i64.wrap (1440*r.days)=1440*r.days:=AP (by omega) (by omega)
 simp only[e1,Fh,AX,B4]
 by_cases hh:FV x.fro x.heirs
 all_goals
  simp only[C5,Gn,E8,hh,not_true_eq_false,not_false_eq_true,true_implies,false_implies,and_true,true_and,false_and,and_false,false_or]
  repeat'(first|(with_reducible apply And.intro)|intro _)
  all_goals(try simp(disch:=omega) only[AP]at*)
  all_goals first
   |exact(An fun k=>by omega).symm
   |exact Rw (by omega)
   |exact R6 (by omega)
noncomputable def Dp(a b:De):Prop:=a.id=b.id/\a.day=b.day/\a.kind=b.kind/\a.fro=b.fro/\a.tow=b.tow/\a.turn=b.turn/\a.til=b.til/\a.heirs.1=b.heirs.1/\∀i,i<a.heirs.1->a.heirs.2 i=b.heirs.2 i
noncomputable def L3:As:=Cs UI UI (fun _ _=>True) fun a b=> .bool (A9 (Dp a b))
theorem VJ:Ai Tryz.prog G 60 L3:=by
 refine KK (S:=[]) (I:=[]) mixed .nil .nil Tryz.func60 c60 fun a b _ hw=> ?_
 simp only[Nat.reduceSub,Nat.reducePow,go_sem]at hw
 obtain⟨w1,w2⟩:=hw
 simp only[AU,a60,w1,w2,↓reduceIte,reduceCtorEq,Nat.reduceEqDiff,Nat.reduceAdd,Nat.reduceSub,Nat.reduceLeDiff,Nat.reducePow,go_sem]
 have nt:∀{x y:Tu},(x.fro==y.fro&&x.til==y.til)=true↔x=y:=fun{x y}=>by obtain⟨a1,a2⟩:=x;obtain⟨b1,b2⟩:=y;simp
 refine⟨fun h=>(An fun k=>h k.1).symm,fun k1=>⟨fun h=>(An fun k=>h k.2.1).symm,fun k2=>⟨fun h=>(An fun k=>h k.2.2.1).symm,fun k3=>⟨fun h=>(An fun k=>h k.2.2.2.1).symm,fun k4=>⟨fun h=>(An fun k=>h k.2.2.2.2.1).symm,fun k5=>⟨fun h=>(An fun k=>by rw[nt.2 k.2.2.2.2.2.1]at h;cases h).symm,fun k6=>⟨fun h=>(An fun k=>h k.2.2.2.2.2.2.1).symm,fun k7=>⟨fun h=>(An fun k=>h (by have:=k.2.2.2.2.2.2.2.1;omega)).symm,fun k8=> ?_⟩⟩⟩⟩⟩⟩⟩⟩
 refine AK (ι:=Nat) (fun j=>j<=a.heirs.1/\∀i,i<j->a.heirs.2 i=b.heirs.2 i) (fun j=>a.heirs.1-j) [2,3] (fun j=>[(5,.int .i64 j)]) (fun _=>[]) 0 ⟨by omega,fun i h=>by omega⟩ (by simp only[↓reduceIte,reduceCtorEq,Nat.reduceEqDiff,Nat.reduceLT,go_sem];try rfl) fun j hj=> ?_
 obtain⟨hj1,hj2⟩:=hj
 simp only[w1,↓reduceIte,reduceCtorEq,Nat.reduceEqDiff,Nat.reduceAdd,Nat.reduceSub,Nat.reducePow,go_sem]
 have he:∀{x y:Hr},(x.who==y.who&&x.parts==y.parts)=true↔x=y:=fun{x y}=>by obtain⟨a1,a2⟩:=x;obtain⟨b1,b2⟩:=y;simp
 refine⟨fun hlt=>⟨by omega,by omega,by omega,by omega,fun h1=>(An fun k=> ?_).symm,fun h1=>Af (j+1) ⟨by omega,fun i hi=> ?_⟩ (by omega) (by simp only[↓reduceIte,reduceCtorEq,Nat.reduceEqDiff,Nat.reduceLT,go_sem];rw[Cj (by omega)])⟩,fun hge=> ?_⟩
 ·rw[k.2.2.2.2.2.2.2.2 j (by omega)]at h1;simp at h1
 ·rcases Nat.lt_or_ge i j with h5|h5
  ·exact hj2 i h5
  obtain rfl:i=j:=by omega
  exact he.1 h1
 exact(Au ⟨k1,k2,k3,k4,k5,nt.1 k6,k7,by omega,fun i hi=>hj2 i (by omega)⟩).symm
noncomputable def C8(r:Ro)(l:Gi):Int:=if 60<l.1 then 4 else if A9 (∀i,i<l.1->C5 r (l.2 i))=true then(if A9 (∀i,i<l.1->∀k,k<i->(l.2 i).id=(l.2 k).id->Dp (l.2 i) (l.2 k))=true then 0 else 42)else 41
noncomputable def Jg:As:=Cs Ja (Dw FT) (fun r _=>1<=r.days/\r.days<=16) fun r l=> .int .i64 (C8 r l)
theorem WF:Ai Tryz.prog G 65 Jg:=by
 refine KK (S:=[(30,Pm),(60,L3)]) (I:=[]) mixed (.cons X6 (.cons VJ .nil)) .nil Tryz.func65 c65 fun r l hp hw=> ?_
 simp only[Nat.reduceSub,Nat.reducePow,go_sem]at hw
 obtain⟨w1,w2⟩:=hw
 simp only[AU,a65,Pm,L3,w2,↓reduceIte,reduceCtorEq,Nat.reduceEqDiff,Nat.reduceAdd,Nat.reduceSub,Nat.reducePow,go_sem]
 have hE:¬60<l.1->C8 r l=if A9 (∀i,i<l.1->C5 r (l.2 i))=true then(if A9 (∀i,i<l.1->∀k,k<i->(l.2 i).id=(l.2 k).id->Dp (l.2 i) (l.2 k))=true then 0 else 42)else 41:=fun h=>if_neg h
 refine⟨fun h=>(if_pos (by omega)).symm,fun h=> ?_⟩
 rw[hE (by omega)]
 refine AK (ι:=Nat) (fun j=>j<=l.1/\∀i,i<j->C5 r (l.2 i)) (fun j=>l.1-j) [1,2] (fun j=>[(5,.int .i64 j)]) (fun _=>[]) 0 ⟨by omega,fun i h=>by omega⟩ (by simp only[↓reduceIte,reduceCtorEq,Nat.reduceEqDiff,Nat.reduceLT,go_sem];try rfl) fun j hj=> ?_
 obtain⟨hj1,hj2⟩:=hj
 simp only[w2,↓reduceIte,reduceCtorEq,Nat.reduceEqDiff,Nat.reduceAdd,Nat.reduceSub,Nat.reducePow,go_sem,AX,B4]
 have push:∀{Q:Nat->Prop} {j:Nat},(∀i,i<j->Q i)->Q j->∀i,i<j+1->Q i:=fun{Q j} h1 h2 i hi=>by
  rcases Nat.lt_or_ge i j with h5|h5
  ·exact h1 i h5
  obtain rfl:i=j:=by omega
  exact h2
 refine⟨fun hlt=>⟨by omega,by omega,hp.1,hp.2,fun h1=> ?_,fun h1=>Af (j+1) ⟨by omega,push hj2 h1⟩ (by omega) (by simp only[↓reduceIte,Nat.reduceEqDiff,Nat.reduceLT,go_sem];rw[Cj (by omega)])⟩,fun hge=> ?_⟩
 ·rw[An fun k=>h1 (k j (by omega))];rfl
 rw[Au fun i hi=>hj2 i (by omega),if_pos rfl]
 refine AK (ι:=Nat) (fun j=>j<=l.1/\∀i,i<j->∀k,k<i->(l.2 i).id=(l.2 k).id->Dp (l.2 i) (l.2 k)) (fun j=>l.1-j) [1] (fun j=>[(6,.int .i64 j)]) (fun _=>[]) 0 ⟨by omega,fun i h=>by omega⟩ (by simp only[↓reduceIte,Nat.reduceEqDiff,Nat.reduceLT,go_sem];try rfl) fun j hj=> ?_
 obtain⟨hj3,hj4⟩:=hj
 simp only[w2,↓reduceIte,reduceCtorEq,Nat.reduceEqDiff,Nat.reduceSub,Nat.reducePow,go_sem]
 refine⟨fun hlt=> ?_,fun hge=> ?_⟩
 ·refine AK (ι:=Nat) (fun q=>q<=j/\∀k,k<q->(l.2 j).id=(l.2 k).id->Dp (l.2 j) (l.2 k)) (fun q=>j-q) [1,6] (fun q=>[(7,.int .i64 q)]) (fun _=>[]) 0 ⟨by omega,fun i h=>by omega⟩ (by simp only[↓reduceIte,Nat.reduceEqDiff,Nat.reduceLT,go_sem];try rfl) fun q hq=> ?_
  obtain⟨hq1,hq2⟩:=hq
  simp only[↓reduceIte,reduceCtorEq,Nat.reduceEqDiff,Nat.reduceAdd,Nat.reduceSub,Nat.reduceLeDiff,go_sem,AX,B4]
  have no:j<l.1->q<j->(l.2 j).id=(l.2 q).id->¬Dp (l.2 j) (l.2 q)->42=if A9 (∀i,i<l.1->∀k,k<i->(l.2 i).id=(l.2 k).id->Dp (l.2 i) (l.2 k))=true then 0 else(42:Int):=fun h1 h2 h3 h4=>by rw[An fun k=>h4 (k j h1 q h2 h3)];rfl
  refine⟨fun h5=>⟨by omega,by omega,by omega,by omega,fun h6=>⟨by omega,by omega,by omega,by omega,fun h7=>no (by omega) (by omega) h6 h7,fun h7=>Af (q+1) ⟨by omega,push hq2 fun _=>h7⟩ (by omega) (by simp only[↓reduceIte,Nat.reduceEqDiff,Nat.reduceLT,go_sem];rw[Cj (by omega)])⟩,fun h6=>Af (q+1) ⟨by omega,push hq2 fun h=>absurd h h6⟩ (by omega) (by simp only[↓reduceIte,Nat.reduceEqDiff,Nat.reduceLT,go_sem];rw[Cj (by omega)])⟩,fun h5=> ?_⟩
  exact Af (j+1) ⟨by omega,push hj4 fun k hk=>hq2 k (by omega)⟩ (by omega) (by simp only[↓reduceIte,Nat.reduceEqDiff,Nat.reduceLT,go_sem];rw[Cj (by omega)])
 rw[Au fun i hi=>hj4 i (by omega)];rfl
noncomputable def BA(r:Ro)(l:Gi):Int:=if A9 (EQ r)=true then C8 r l else 40
end Go.Proofs.YtlieoghhkioflaaGreat
namespace Go.Proofs.YtlieoghhkioflaaGreat
open Go Go.RowKit
variable{G:Nat->Option (Nat×(Nat->Ad))}
theorem JA(x:De):∀b,b<9->AA x.L b=x.c b:=fun b hb=>by
 rcases(by omega:b=0\/b=1\/b=2\/b=3\/b=4\/b=5\/b=6\/b=7\/b=8)with rfl|rfl|rfl|rfl|rfl|rfl|rfl|rfl|rfl<;>rfl
theorem B7(v:Ad):AC v v:=of_eq_true (FM v)
def BD(x y:De):Prop:=x.day<y.day\/x.day=y.day/\x.id<y.id
instance(x y:De):Decidable (BD x y):=by unfold BD;infer_instance
def de0:De:=⟨0,0,0,0,0,⟨0,0⟩,0,(0,fun _=>⟨0,0⟩)⟩
def Hu(x:De):List De->List De
 |[]=>[x]
 |y::L=>if BD x y then x::y::L else y::Hu x L
def lD(L:List De)(i:Nat):De:=L.getD i de0
noncomputable def Ko(l:Gi)(i:Nat):Bool:=A9 (∀k,k<i->(l.2 k).id≠(l.2 i).id)
noncomputable def BK(l:Gi):Nat->List De
 |0=>[]
 |i+1=>if Ko l i=true then Hu (l.2 i) (BK l i)else BK l i
theorem M4(x:De):∀L,(Hu x L).length=L.length+1
 |[]=>rfl
 |y::L=>by
  rw[Hu];split
  ·simp
  simp[M4 x L]
theorem Le(l:Gi):∀i,(BK l i).length<=i
 |0=>Nat.le_refl _
 |i+1=>by
  have:=Le l i
  rw[BK];split
  ·rw[M4];omega
  omega
theorem Kl(x:De):∀(L:List De) (y:De),y∈Hu x L↔y=x\/y∈L
 |[],y=>by simp[Hu]
 |z::L,y=>by
  rw[Hu];split
  ·simp
  rw[List.mem_cons,Kl x L y,List.mem_cons];constructor<;>(rintro(h|h|h)<;>simp[h])
theorem Jz{x y z:De}(h1:BD x y)(h2:BD y z):BD x z:=by unfold BD at*;omega
theorem RB{x y:De}(h:x.id≠y.id):BD x y\/BD y x:=by unfold BD at*;omega
theorem IQ(x:De):∀(L:List De),L.Pairwise BD->(∀y∈L,y.id≠x.id)->(Hu x L).Pairwise BD
 |[],_,_=>by simp[Hu]
 |z::L,h,hx=>by
  rw[List.pairwise_cons]at h
  rw[Hu];split
  ·rename_i hb
   rw[List.pairwise_cons,List.pairwise_cons]
   exact⟨fun y hy=>by rcases List.mem_cons.1 hy with rfl|hy;exact hb;exact Jz hb (h.1 y hy),h⟩
  rename_i hb
  rw[List.pairwise_cons]
  refine⟨fun y hy=> ?_,IQ x L h.2 fun y hy=>hx y (by simp[hy])⟩
  rcases(Kl x L y).1 hy with rfl|hy
  ·exact(RB (hx z (by simp))).resolve_right hb
  exact h.1 y hy
theorem GE(l:Gi):∀i (y:De),y∈BK l i↔∃k,k<i/\Ko l k=true/\y=l.2 k
 |0,y=>by simp[BK]
 |i+1,y=>by
  rw[BK];split
  ·rename_i hn
   rw[Kl,GE l i y]
   constructor
   ·rintro(rfl|⟨k,h1,h2,h3⟩)
    ·exact⟨i,by omega,hn,rfl⟩
    exact⟨k,by omega,h2,h3⟩
   rintro⟨k,h1,h2,rfl⟩
   by_cases e:k=i
   ·subst e;exact .inl rfl
   exact .inr ⟨k,by omega,h2,rfl⟩
  rename_i hn
  rw[GE l i y]
  constructor
  ·rintro⟨k,h1,h2,h3⟩;exact⟨k,by omega,h2,h3⟩
  rintro⟨k,h1,h2,rfl⟩
  by_cases e:k=i
  ·subst e;exact absurd h2 hn
  exact⟨k,by omega,h2,rfl⟩
theorem FG(l:Gi):∀i,(BK l i).Pairwise BD
 |0=>List.Pairwise.nil
 |i+1=>by
  rw[BK];split
  ·rename_i hn
   refine IQ _ _ (FG l i) fun y hy=> ?_
   obtain⟨k,h1,_,rfl⟩:=(GE l i y).1 hy
   exact AX.1 hn k h1
  exact FG l i
end Go.Proofs.YtlieoghhkioflaaGreat
namespace Go.Proofs.YtlieoghhkioflaaGreat
open Go Go.RowKit
variable{G:Nat->Option (Nat×(Nat->Ad))}
def X9(n:Int)(p:Nat×(Nat->Int)):Prop:=0<=n/\n<=23040/\1<=p.1/\p.1<=8/\∀i,i<p.1->1<=p.2 i/\p.2 i<=1000
theorem X9.sum{n:Int}{p:Nat×(Nat->Int)}(h:X9 n p):∀k,k<=p.1->(k:Int)<=AG p.2 k/\AG p.2 k<=1000*k:=fun k hk=>by
 have h1:=HO (fun _=>1) p.2 k fun i hi=>(h.2.2.2.2 i (by omega)).1
 have h2:=HO p.2 (fun _=>1000) k fun i hi=>(h.2.2.2.2 i (by omega)).2
 rw[FJ]at h1 h2;omega
end Go.Proofs.YtlieoghhkioflaaGreat
namespace Go.Proofs.YtlieoghhkioflaaGreat
open Go Go.RowKit
variable{G:Nat->Option (Nat×(Nat->Ad))}
def Vd(b:Bk)(n:Nat):Prop:=b.ow.1=n/\b.le.1=n/\b.un.1=n/\b.de.1=10000
def HC(b:Bk)(x:De):Prop:=∀m:Nat,x.turn.fro<=m->(m:Int)<x.turn.til->b.ow.2 m=x.fro
def OH(b:Bk)(x:De):Prop:=∀m:Nat,x.turn.fro<=m->(m:Int)<x.turn.til->¬(b.le.2 m≠0/\x.day<b.un.2 m)
noncomputable def BU(b:Bk)(x:De):Int:=if(b.de.2 x.fro.toNat||b.de.2 x.tow.toNat)=true then 1 else if A9 (HC b x)=true then(if x.kind=4 then(if A9 (OH b x)=true then 0 else 3)else 0)else 2
end Go.Proofs.YtlieoghhkioflaaGreat
namespace Go.Proofs.YtlieoghhkioflaaGreat
variable{n:Nat}{r:Ro}
def AN(r:Ro):Nat:=(1440*r.days).toNat
noncomputable def Id(r:Ro)(m:Nat):Int:=(r.holds.2 (Cp (fun i=>(m:Int)<(r.holds.2 i).turn.til) r.holds.1)).who
noncomputable def Xa(r:Ro):Bk:=⟨(AN r,Id r),(AN r,fun _=>0),(AN r,fun _=>0),(10000,fun _=>false)⟩
def C2(de:Nat->Bool)(l:Nat×(Nat->Hr)):Nat->List Hr
 |0=>[]
 |k+1=>if de (l.2 k).who.toNat=true then C2 de l k else C2 de l k++[l.2 k]
def LQ(b:Bk)(x:De):Nat->Bool:=fun i=>if i=x.fro.toNat then true else b.de.2 i
def B9(b:Bk)(x:De):List Hr:=if(C2 (LQ b x) x.heirs x.heirs.1).length=0 then[⟨0,1⟩]else C2 (LQ b x) x.heirs x.heirs.1
def hl(L:List Hr)(i:Nat):Hr:=L.getD i ⟨0,0⟩
def Iv(b:Bk)(x:De)(m:Nat):Nat:=E7 (fun q=>decide (b.ow.2 q=x.fro)) m
def A6(b:Bk)(x:De)(i:Nat):Int:=FN (Iv b x b.ow.1) (fun i=>(hl (B9 b x) i).parts) (B9 b x).length i
noncomputable def EX(each:Nat->Int)(k:Nat)(c:Nat):Nat:=Cp (fun i=>(c:Int)<AG each (i+1)) k
noncomputable def PL(b:Bk)(x:De):Bk:=⟨(b.ow.1,fun m=>if b.ow.2 m=x.fro then(hl (B9 b x) (EX (A6 b x) (B9 b x).length (Iv b x m))).who else b.ow.2 m),(b.le.1,fun m=>if b.le.2 m=x.fro then 0 else b.le.2 m),b.un,(b.de.1,LQ b x)⟩
def F0(x:De)(m:Nat):Prop:=x.turn.fro<=m/\(m:Int)<x.turn.til
instance(x:De)(m:Nat):Decidable (F0 x m):=by unfold F0;infer_instance
noncomputable def MB(b:Bk)(x:De):Bk:=
 if x.kind=3 then PL b x else if x.kind=1 then⟨(b.ow.1,fun m=>if F0 x m then x.tow else b.ow.2 m),b.le,b.un,b.de⟩
 else if x.kind=2 then⟨(b.ow.1,fun m=>if F0 x m then 0 else b.ow.2 m),b.le,b.un,b.de⟩
 else if x.kind=4 then⟨b.ow,(b.le.1,fun m=>if F0 x m then x.tow else b.le.2 m),(b.un.1,fun m=>if F0 x m then x.til else b.un.2 m),b.de⟩else b
noncomputable def E6(b:Bk)(x:De):Bk:=if BU b x=0 then MB b x else b
noncomputable def AY(r:Ro)(l:Nat->De):Nat->Bk
 |0=>Xa r
 |k+1=>E6 (AY r l k) (l k)
noncomputable def Bs(l:Gi)(day:Int):Nat:=Cp (fun i=>day<(l.2 i).day) l.1
theorem OG(r:Ro)(i:Nat):IV r (i+1)=(r.holds.2 i).turn.til:=by
 unfold IV;rw[if_neg (by omega),Nat.add_sub_cancel]
theorem K4(h:∀i,i<n->Zk r i):∀i,i<=n->∀j,j<i->(r.holds.2 j).turn.til<=IV r i
 |0,_,j,hj=>by omega
 |i+1,hi,j,hj=>by
  have h1:=h i (by omega)
  rw[OG]
  by_cases e:j=i
  ·subst e;exact Int.le_refl _
  have:=K4 h i (by omega) j (by omega)
  have h2:=h1.2.2.1;have h3:=h1.2.2.2.1
  omega
theorem P1(h:∀i,i<n->Zk r i):∀i,i<=n->0<=IV r i
 |0,_=>Int.le_refl _
 |i+1,hi=>by
  have h1:=h i (by omega)
  have:=P1 h i (by omega)
  have h2:=h1.2.2.1;have h3:=h1.2.2.2.1
  rw[OG];omega
theorem Je(hr:EQ r){i m:Nat}(hi:i<r.holds.1)(h1:IV r i<=m)(h2:(m:Int)<(r.holds.2 i).turn.til):Id r m=(r.holds.2 i).who:=by
 unfold Id
 rw[C1 hi h2 fun j hj h=>by have:=K4 hr.2.2.2.2.1 i (by omega) j hj;omega]
theorem Ws(r:Ro):Vd (Xa r) (AN r):=⟨rfl,rfl,rfl,rfl⟩
theorem Zt{b:Bk}(h:Vd b n)(x:De):Vd (MB b x) n:=by
 obtain⟨h1,h2,h3,h4⟩:=h
 unfold MB
 split
 ·exact⟨h1,h2,h3,h4⟩
 split
 ·exact⟨h1,h2,h3,h4⟩
 split
 ·exact⟨h1,h2,h3,h4⟩
 split
 ·exact⟨h1,h2,h3,h4⟩
 exact⟨h1,h2,h3,h4⟩
theorem HH(r:Ro)(l:Nat->De):∀k,Vd (AY r l k) (AN r)
 |0=>Ws r
 |k+1=>by
  rw[AY,E6];split
  ·exact Zt (HH r l k) _
  exact HH r l k
theorem Lx(de:Nat->Bool)(l:Nat×(Nat->Hr)):∀k,(C2 de l k).length<=k
 |0=>Nat.le_refl _
 |k+1=>by
  have:=Lx de l k
  rw[C2];split
  ·omega
  simp;omega
theorem Jh(de:Nat->Bool)(l:Nat×(Nat->Hr)):∀k,∀h∈C2 de l k,∃i,i<k/\h=l.2 i
 |0,h,hh=>by simp[C2]at hh
 |k+1,h,hh=>by
  rw[C2]at hh;split at hh
  ·obtain⟨i,h1,h2⟩:=Jh de l k h hh;exact⟨i,by omega,h2⟩
  rcases List.mem_append.1 hh with hh|hh
  ·obtain⟨i,h1,h2⟩:=Jh de l k h hh;exact⟨i,by omega,h2⟩
  exact⟨k,by omega,by simpa using hh⟩
theorem Zq{L:List Hr}{i:Nat}(h:i<L.length):hl L i∈L:=by
 unfold hl;rw[List.getD_eq_getElem?_getD,List.getElem?_eq_getElem h];exact List.getElem_mem h
theorem Ul{b:Bk}{x:De}(hh:FV x.fro x.heirs)(hf:1<=x.fro):1<=(B9 b x).length/\(B9 b x).length<=8/\∀i,i<(B9 b x).length->0<=(hl (B9 b x) i).who/\(hl (B9 b x) i).who<=9999/\(hl (B9 b x) i).who≠x.fro/\1<=(hl (B9 b x) i).parts/\(hl (B9 b x) i).parts<=1000:=by
 obtain⟨h1,h2,h3⟩:=hh
 have h4:=Lx (LQ b x) x.heirs x.heirs.1
 unfold B9
 split
 ·refine⟨Nat.le_refl _,by simp,fun i hi=> ?_⟩
  obtain rfl:i=0:=by simpa using hi
  refine⟨by decide,by decide,?_,by decide,by decide⟩
  show(0:Int)≠x.fro
  omega
 refine⟨by omega,by omega,fun i hi=> ?_⟩
 obtain⟨q,q1,q2⟩:=Jh _ _ _ _ (Zq hi)
 obtain⟨g1,g2,g3,g4,g5,_⟩:=h3 q q1
 rw[q2]
 exact⟨by omega,g2,g3,g4,g5⟩
end Go.Proofs.YtlieoghhkioflaaGreat
namespace Go.Proofs.YtlieoghhkioflaaGreat
open Go Go.RowKit
variable{b:Bk}{N i:Nat}
abbrev Pz:=Nat×(Nat->Pi)
structure BE(N:Nat)(P:Pz):Prop where
 pos:1<=P.1
 beg:(P.2 0).turn.fro=0
 lt:∀i,i<P.1->(P.2 i).turn.fro<(P.2 i).turn.til
 nxt:∀i,i+1<P.1->(P.2 (i+1)).turn.fro=(P.2 i).turn.til
 fin:(P.2 (P.1-1)).turn.til=N
theorem BE.step{P:Pz}(h:BE N P)(i:Nat):∀d,i+d+1<P.1->(P.2 i).turn.til+d<=(P.2 (i+d+1)).turn.fro
 |0,hd=>by
  have:=h.nxt i hd
  show(P.2 i).turn.til+((0:Nat):Int)<=(P.2 (i+1)).turn.fro
  omega
 |d+1,hd=>by
  have h1:=h.step i d (by omega)
  have h2:=h.lt (i+d+1) (by omega)
  have h3:=h.nxt (i+d+1) (by omega)
  rw[show i+(d+1)+1=i+d+1+1 by omega,h3]
  omega
theorem BE.mono{P:Pz}(h:BE N P){j:Nat}(hij:i<j)(hj:j<P.1):(P.2 i).turn.til<=(P.2 j).turn.fro:=by
 obtain⟨d,rfl⟩:∃d,j=i+d+1:=⟨j-i-1,by omega⟩
 have:=h.step i d hj
 omega
theorem BE.rng{P:Pz}(h:BE N P)(hi:i<P.1):0<=(P.2 i).turn.fro/\(P.2 i).turn.til<=N:=by
 constructor
 ·rcases Nat.eq_zero_or_pos i with h0|h0
  ·subst h0;rw[h.beg];exact Int.le_refl 0
  have h1:=h.mono h0 hi
  have h2:=h.lt 0 (by omega)
  rw[h.beg]at h2
  omega
 by_cases e:i=P.1-1
 ·rw[e,h.fin];exact Int.le_refl _
 have h1:=h.mono (show i<P.1-1 by omega) (by omega)
 have h2:=h.lt (P.1-1) (by omega)
 have h3:=h.fin
 omega
theorem BE.len{P:Pz}(h:BE N P):P.1<=N:=by
 have h2:=h.lt 0 h.pos
 rw[h.beg]at h2
 by_cases e:P.1=1
 ·have:=(h.rng h.pos).2;have:=h.pos;omega
 have h1:=h.step 0 (P.1-2) (by have:=h.pos;omega)
 rw[show 0+(P.1-2)+1=P.1-1 by have:=h.pos;omega]at h1
 have h3:=h.lt (P.1-1) (by have:=h.pos;omega)
 have h4:=h.fin
 omega
theorem BE.at{P:Pz}(h:BE N P){m:Int}(h0:0<=m)(h1:m<N):∃i,i<P.1/\(P.2 i).turn.fro<=m/\m<(P.2 i).turn.til:=by
 rcases Be (fun i=>m<(P.2 i).turn.til) P.1 with⟨a,b,c⟩|⟨_,c⟩
 ·refine⟨_,a,?_,b⟩
  generalize Cp (fun i=>m<(P.2 i).turn.til) P.1=i at*
  cases i with
  |zero=>rw[h.beg];exact h0
  |succ i=>rw[h.nxt i a];have:=c i (by omega);omega
 exact absurd (by rw[h.fin];exact h1) (c (P.1-1) (by have:=h.pos;omega))
theorem BE.one{P:Pz}(h:BE N P){m:Int}{j:Nat}(hi:i<P.1)(hj:j<P.1)(i1:(P.2 i).turn.fro<=m)(i2:m<(P.2 i).turn.til)(j1:(P.2 j).turn.fro<=m)(j2:m<(P.2 j).turn.til):i=j:=by
 rcases Nat.lt_trichotomy i j with e|e|e
 ·have:=h.mono e hj;omega
 ·exact e
 have:=h.mono e hi;omega
structure Rp(P:Pz)(b:Bk):Prop where
 ow:∀i,i<P.1->∀m:Nat,(P.2 i).turn.fro<=m->(m:Int)<(P.2 i).turn.til->b.ow.2 m=(P.2 i).owner
 le:∀i,i<P.1->∀m:Nat,(P.2 i).turn.fro<=m->(m:Int)<(P.2 i).turn.til->b.le.2 m=(P.2 i).lent
 un:∀i,i<P.1->∀m:Nat,(P.2 i).turn.fro<=m->(m:Int)<(P.2 i).turn.til->(P.2 i).lent≠0->b.un.2 m=(P.2 i).til
def DD(p:Nat->Pi)(i:Nat)(c:Int)(k:Nat):Pi:=if k<i then p k else if k=i then{p i with turn:=⟨(p i).turn.fro,c⟩}else if k=i+1 then{p i with turn:=⟨c,(p i).turn.til⟩}else p (k-1)
def K0(P:Pz)(c:Int)(i:Nat):Prop:=(P.2 i).turn.fro<c/\c<(P.2 i).turn.til
noncomputable def CT(P:Pz)(c:Int):Pz:=if Cp (K0 P c) P.1<P.1 then(P.1+1,DD P.2 (Cp (K0 P c) P.1) c)else P
theorem H6{P:Pz}(h:BE N P)(c:Int):BE N (CT P c):=by
 unfold CT
 split
 ·rename_i hi
  have hc:K0 P c (Cp (K0 P c) P.1):=by
   rcases Be (K0 P c) P.1 with⟨_,b,_⟩|⟨a,_⟩
   ·exact b
   omega
  generalize Cp (K0 P c) P.1=i at*
  obtain⟨c1,c2⟩:=hc
  refine⟨by show 1<=P.1+1;omega,?_,fun k hk=> ?_,fun k hk=> ?_,?_⟩
  ·show(DD P.2 i c 0).turn.fro=0
   unfold DD
   rcases Nat.eq_zero_or_pos i with e|e
   ·subst e;rw[if_neg (by omega),if_pos rfl];exact h.beg
   rw[if_pos e];exact h.beg
  ·have hk:k<P.1+1:=hk
   show(DD P.2 i c k).turn.fro<(DD P.2 i c k).turn.til
   unfold DD
   split
   ·exact h.lt k (by omega)
   split
   ·exact c1
   split
   ·exact c2
   exact h.lt (k-1) (by omega)
  ·have hk:k+1<P.1+1:=hk
   show(DD P.2 i c (k+1)).turn.fro=(DD P.2 i c k).turn.til
   unfold DD
   by_cases e1:k+1<i
   ·rw[if_pos e1,if_pos (show k<i by omega)];exact h.nxt k (by omega)
   by_cases e2:k+1=i
   ·rw[if_neg e1,if_pos e2,if_pos (show k<i by omega),<-e2];exact h.nxt k (by omega)
   by_cases e3:k=i
   ·rw[if_neg e1,if_neg e2,if_pos (by omega),if_neg (show¬k<i by omega),if_pos e3]
   by_cases e4:k=i+1
   ·rw[if_neg e1,if_neg e2,if_neg (show¬k+1=i+1 by omega),if_neg (show¬k<i by omega),if_neg e3,if_pos e4,e4]
    exact h.nxt i (by omega)
   rw[if_neg e1,if_neg e2,if_neg (show¬k+1=i+1 by omega),if_neg (show¬k<i by omega),if_neg e3,if_neg e4]
   have:=h.nxt (k-1) (by omega)
   rw[show k-1+1=k by omega]at this
   rw[Nat.add_sub_cancel]
   exact this
  show(DD P.2 i c (P.1+1-1)).turn.til=N
  rw[Nat.add_sub_cancel]
  unfold DD
  rw[if_neg (by omega),if_neg (by omega)]
  by_cases e:P.1=i+1
  ·rw[if_pos e,show i=P.1-1 by omega];exact h.fin
  rw[if_neg e];exact h.fin
 exact h
theorem Sl(P:Pz)(c:Int):∀k,k<(CT P c).1->∃i,i<P.1/\(P.2 i).turn.fro<=((CT P c).2 k).turn.fro/\((CT P c).2 k).turn.til<=(P.2 i).turn.til/\((CT P c).2 k).owner=(P.2 i).owner/\((CT P c).2 k).lent=(P.2 i).lent/\((CT P c).2 k).til=(P.2 i).til:=by
 intro k
 unfold CT
 split
 ·rename_i hi
  have hc:K0 P c (Cp (K0 P c) P.1):=by
   rcases Be (K0 P c) P.1 with⟨_,b,_⟩|⟨a,_⟩
   ·exact b
   omega
  generalize Cp (K0 P c) P.1=i at*
  obtain⟨c1,c2⟩:=hc
  intro hk
  have hk:k<P.1+1:=hk
  show∃j,j<P.1/\(P.2 j).turn.fro<=(DD P.2 i c k).turn.fro/\(DD P.2 i c k).turn.til<=(P.2 j).turn.til/\(DD P.2 i c k).owner=(P.2 j).owner/\(DD P.2 i c k).lent=(P.2 j).lent/\(DD P.2 i c k).til=(P.2 j).til
  unfold DD
  split
  ·exact⟨k,by omega,Int.le_refl _,Int.le_refl _,rfl,rfl,rfl⟩
  split
  ·exact⟨i,hi,Int.le_refl _,by show c<=_;omega,rfl,rfl,rfl⟩
  split
  ·exact⟨i,hi,by show _<=c;omega,Int.le_refl _,rfl,rfl,rfl⟩
  exact⟨k-1,by omega,Int.le_refl _,Int.le_refl _,rfl,rfl,rfl⟩
 intro hk
 exact⟨k,hk,Int.le_refl _,Int.le_refl _,rfl,rfl,rfl⟩
theorem JJ{P:Pz}(h:Rp P b)(c:Int):Rp (CT P c) b:=by
 refine⟨fun k hk m h1 h2=> ?_,fun k hk m h1 h2=> ?_,fun k hk m h1 h2 h3=> ?_⟩
 all_goals
  obtain⟨i,hi,p1,p2,p3,p4,p5⟩:=Sl P c k hk
 ·rw[p3];exact h.ow i hi m (by omega) (by omega)
 ·rw[p4];exact h.le i hi m (by omega) (by omega)
 rw[p5];exact h.un i hi m (by omega) (by omega) (by rw[<-p4];exact h3)
theorem Qo{P:Pz}{a:Int}(c:Int)(h:∃i,i<P.1/\(P.2 i).turn.fro=a):∃i,i<(CT P c).1/\((CT P c).2 i).turn.fro=a:=by
 obtain⟨j,hj,hp⟩:=h
 unfold CT
 split
 ·rename_i hi
  generalize Cp (K0 P c) P.1=i at*
  by_cases e:j<=i
  ·refine⟨j,by show j<P.1+1;omega,?_⟩
   show(DD P.2 i c j).turn.fro=a
   unfold DD
   by_cases e1:j<i
   ·rw[if_pos e1];exact hp
   rw[if_neg e1,if_pos (by omega),<-hp,show i=j by omega]
  refine⟨j+1,by show j+1<P.1+1;omega,?_⟩
  show(DD P.2 i c (j+1)).turn.fro=a
  unfold DD
  rw[if_neg (by omega),if_neg (by omega),if_neg (by omega),Nat.add_sub_cancel];exact hp
 exact⟨j,hj,hp⟩
theorem Ug{P:Pz}(h:BE N P){c:Int}(h0:0<=c)(h1:c<N):∃i,i<(CT P c).1/\((CT P c).2 i).turn.fro=c:=by
 rcases Be (K0 P c) P.1 with⟨a,b,_⟩|⟨a,b⟩
 ·unfold CT
  rw[if_pos a]
  generalize Cp (K0 P c) P.1=i at*
  refine⟨i+1,by show i+1<P.1+1;omega,?_⟩
  show(DD P.2 i c (i+1)).turn.fro=c
  unfold DD
  rw[if_neg (by omega),if_neg (by omega),if_pos rfl]
 obtain⟨i,i1,i2,i3⟩:=h.at h0 h1
 refine Qo c ⟨i,i1,?_⟩
 have:=b i i1
 unfold K0 at this
 omega
theorem ZG{P:Pz}(h:BE N P){c:Int}(h0:0<c)(h1:c<=N):∃i,i<(CT P c).1/\((CT P c).2 i).turn.til=c:=by
 have hk:=H6 h c
 by_cases e:c=N
 ·exact⟨(CT P c).1-1,by have:=hk.pos;omega,by rw[hk.fin,e]⟩
 obtain⟨i,i1,i2⟩:=Ug h (show 0<=c by omega) (show c<N by omega)
 have i0:0<i:=by
  rcases Nat.eq_zero_or_pos i with z|z
  ·subst z;have:=hk.beg;omega
  exact z
 have:=hk.nxt (i-1) (by omega)
 rw[show i-1+1=i by omega]at this
 exact⟨i-1,by omega,by omega⟩
noncomputable def Cl(P:Pz)(t:Tu):Pz:=CT (CT P t.fro) t.til
noncomputable def Cn(P:Pz)(t:Tu):Nat:=Cp (fun i=>(P.2 i).turn.fro=t.fro) P.1
noncomputable def CS(P:Pz)(t:Tu):Nat:=Cp (fun i=>(P.2 i).turn.til=t.til) P.1
structure OO(N:Nat)(P:Pz)(t:Tu):Prop where
 ok:BE N P
 f:Cn P t<P.1
 l:CS P t<P.1
 ff:(P.2 (Cn P t)).turn.fro=t.fro
 ll:(P.2 (CS P t)).turn.til=t.til
 fl:Cn P t<=CS P t
theorem Lo{P:Pz}(h:BE N P){t:Tu}(h0:0<=t.fro)(h1:t.fro<t.til)(h2:t.til<=N):OO N (Cl P t) t:=by
 have k1:=H6 h t.fro
 have k2:BE N (Cl P t):=H6 k1 t.til
 have a:∃i,i<(Cl P t).1/\((Cl P t).2 i).turn.fro=t.fro:=Qo t.til (Ug h h0 (by omega))
 have b:∃i,i<(Cl P t).1/\((Cl P t).2 i).turn.til=t.til:=ZG k1 (by omega) h2
 have a':Cn (Cl P t) t<(Cl P t).1/\((Cl P t).2 (Cn (Cl P t) t)).turn.fro=t.fro:=by
  rcases Be (fun i=>((Cl P t).2 i).turn.fro=t.fro) (Cl P t).1 with⟨x,y,_⟩|⟨_,z⟩
  ·exact⟨x,y⟩
  obtain⟨i,i1,i2⟩:=a;exact absurd i2 (z i i1)
 have b':CS (Cl P t) t<(Cl P t).1/\((Cl P t).2 (CS (Cl P t) t)).turn.til=t.til:=by
  rcases Be (fun i=>((Cl P t).2 i).turn.til=t.til) (Cl P t).1 with⟨x,y,_⟩|⟨_,z⟩
  ·exact⟨x,y⟩
  obtain⟨i,i1,i2⟩:=b;exact absurd i2 (z i i1)
 refine⟨k2,a'.1,b'.1,a'.2,b'.2,?_⟩
 apply Classical.byContradiction
 intro hn
 have:=k2.mono (show CS (Cl P t) t<Cn (Cl P t) t by omega) a'.1
 omega
theorem OO.mem{P:Pz}{t:Tu}(h:OO N P t)(hi:i<P.1){m:Nat}(m1:(P.2 i).turn.fro<=m)(m2:(m:Int)<(P.2 i).turn.til):(t.fro<=m/\(m:Int)<t.til)↔(Cn P t<=i/\i<=CS P t):=by
 constructor
 ·rintro⟨a,b⟩
  constructor
  ·apply Classical.byContradiction
   intro hn
   have:=h.ok.mono (show i<Cn P t by omega) h.f
   have:=h.ff
   omega
  apply Classical.byContradiction
  intro hn
  have:=h.ok.mono (show CS P t<i by omega) hi
  have:=h.ll
  omega
 rintro⟨a,b⟩
 constructor
 ·by_cases e:i=Cn P t
  ·rw[<-h.ff,<-e];exact m1
  have:=h.ok.mono (show Cn P t<i by omega) hi
  have:=h.ff
  have:=h.ok.lt _ h.f
  omega
 by_cases e:i=CS P t
 ·rw[<-h.ll,<-e];exact m2
 have:=h.ok.mono (show i<CS P t by omega) h.l
 have:=h.ll
 have:=h.ok.lt _ h.l
 omega
theorem YX{P:Pz}{x:De}(h:OO N P x.turn)(hr:Rp P b)(h0:0<=x.turn.fro):HC b x↔∀i,Cn P x.turn<=i->i<=CS P x.turn->(P.2 i).owner=x.fro:=by
 constructor
 ·intro hh i i1 i2
  have hi:i<P.1:=by have:=h.l;omega
  have hl:=h.ok.lt i hi
  have h3:=(h.ok.rng hi).1
  have hm:(((P.2 i).turn.fro.toNat:Nat):Int)=(P.2 i).turn.fro:=Int.toNat_of_nonneg h3
  obtain⟨q1,q2⟩:=(h.mem hi (m:=(P.2 i).turn.fro.toNat) (by omega) (by omega)).2 ⟨i1,i2⟩
  rw[<-hr.ow i hi (P.2 i).turn.fro.toNat (by omega) (by omega)]
  exact hh _ q1 q2
 intro hh m m1 m2
 obtain⟨i,i1,i2,i3⟩:=h.ok.at (m:=m) (by omega) (by have:=(h.ok.rng h.l).2;have:=h.ll;omega)
 obtain⟨q1,q2⟩:=(h.mem i1 i2 i3).1 ⟨m1,m2⟩
 rw[hr.ow i i1 m i2 i3]
 exact hh i q1 q2
theorem ZH{P:Pz}{x:De}(h:OO N P x.turn)(hr:Rp P b)(h0:0<=x.turn.fro):OH b x↔∀i,Cn P x.turn<=i->i<=CS P x.turn->¬((P.2 i).lent≠0/\x.day<(P.2 i).til):=by
 constructor
 ·intro hh i i1 i2
  have hi:i<P.1:=by have:=h.l;omega
  have hl:=h.ok.lt i hi
  have h3:=(h.ok.rng hi).1
  have hm:(((P.2 i).turn.fro.toNat:Nat):Int)=(P.2 i).turn.fro:=Int.toNat_of_nonneg h3
  obtain⟨q1,q2⟩:=(h.mem hi (m:=(P.2 i).turn.fro.toNat) (by omega) (by omega)).2 ⟨i1,i2⟩
  rintro⟨a,c⟩
  refine hh _ q1 q2 ⟨?_,?_⟩
  ·rw[hr.le i hi _ (by omega) (by omega)];exact a
  rw[hr.un i hi _ (by omega) (by omega) a];exact c
 intro hh m m1 m2
 obtain⟨i,i1,i2,i3⟩:=h.ok.at (m:=m) (by omega) (by have:=(h.ok.rng h.l).2;have:=h.ll;omega)
 obtain⟨q1,q2⟩:=(h.mem i1 i2 i3).1 ⟨m1,m2⟩
 rintro⟨a,c⟩
 rw[hr.le i i1 m i2 i3]at a
 rw[hr.un i i1 m i2 i3 a]at c
 exact hh i q1 q2 ⟨a,c⟩
end Go.Proofs.YtlieoghhkioflaaGreat
