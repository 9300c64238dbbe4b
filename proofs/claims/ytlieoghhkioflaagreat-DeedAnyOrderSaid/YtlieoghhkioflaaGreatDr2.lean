/- Deeds: the reference's deeds. No condition. -/
import Derived.Test.YtlieoghhkioflaaGreatLDez
set_option linter.unusedSimpArgs false
set_option linter.unusedVariables false
set_option maxRecDepth 100000
namespace Go.Proofs.YtlieoghhkioflaaGreat
open Go Go.RowKit
variable{G:Nat->Option (Nat×(Nat->Ad))}
theorem Rc{n:Nat}{P:Prop}(h:n=0↔P):((n:Int)==0)=A8 P:=by
 by_cases h0:n=0
 ·rw[At (h.1 h0)];subst h0;rfl
 rw[Am fun k=>h0 (h.2 k)];exact beq_eq_false_iff_ne.2 (by omega)
theorem Ry{n:Int}{P:Prop}(h:n=0↔P):(n==0)=A8 P:=by
 by_cases h0:n=0
 ·rw[At (h.1 h0)];subst h0;rfl
 rw[Am fun k=>h0 (h.2 k)];exact beq_eq_false_iff_ne.2 h0
noncomputable def Pp:As:=Cq VN TI (fun _ _=>True) fun t e=> .bool (A8 (0<=t.fro/\t.fro<t.til/\t.til<=e))
theorem ZU:Ah Tryz.prog G 70 Pp:=by
 refine Kq (S:=[]) (I:=[]) mixed .nil .nil Tryz.func70 c70 fun t e _ hw=> ?_
 simp only[A3,a70,↓reduceIte,reduceCtorEq,Nat.reduceEqDiff,Nat.reduceAdd,Nat.reduceLeDiff,go_sem]
 refine⟨fun h1=>⟨fun h2=> ?_,fun h2=>(Am fun k=>h2 k.2.1).symm⟩,fun h1=>(Am fun k=>h1 k.1).symm⟩
 by_cases h3:t.til<=e
 ·rw[decide_eq_true h3];exact(At ⟨h1,h2,h3⟩).symm
 rw[decide_eq_false h3];exact(Am fun k=>h3 k.2.2).symm
def F5(r:Ro)(x:De):Prop:=0<=x.turn.fro/\x.turn.fro<x.turn.til/\x.turn.til<=1440*r.days
def FA(x:De):Prop:=1<=x.tow/\x.tow<=9999/\x.tow≠x.fro
def Dn(r:Ro)(x:De):Prop:=0<=x.id/\x.id<=9999/\0<=x.day/\x.day<=100000/\1<=x.fro/\x.fro<=9999/\
  (x.kind=1/\FA x/\F5 r x/\x.til=0/\x.heirs.1=0\/x.kind=2/\F5 r x/\x.tow=0/\x.til=0/\x.heirs.1=0\/
   x.kind=3/\FV x.fro x.heirs/\x.tow=0/\x.turn.fro=0/\x.turn.til=0/\x.til=0\/x.kind=4/\FA x/\F5 r x/\x.day+1<=x.til/\x.til<=100001/\x.heirs.1=0)
noncomputable def Ol:As:=Cq KC Sf (fun r _=>1<=r.days/\r.days<=16) fun r x=> .bool (A8 (Dn r x))
theorem XX:Ah Tryz.prog G 30 Ol:=by
 refine Kq (S:=[(59,Of),(69,Ud),(70,Pp),(71,Pf)]) (I:=[]) mixed (.cons ZH (.cons Aa3 (.cons ZU (.cons YD .nil)))) .nil Tryz.func30 c30 fun r x hp hw=> ?_
 simp only[Nat.reduceSub,Nat.reducePow,go_sem]at hw
 simp only[A3,a30,Of,Ud,Pp,Pf,hw,↓reduceIte,reduceCtorEq,Nat.reduceEqDiff,Nat.reduceAdd,Nat.reduceSub,Nat.reduceLeDiff,Nat.reducePow,go_sem]
 have e1:IntKind.i64.wrap (1440*r.days)=1440*r.days:=AU (by omega) (by omega)
 simp only[e1,Ft,AM,BB]
 by_cases hh:FV x.fro x.heirs
 all_goals
  simp only[Dn,F5,FA,hh,not_true_eq_false,not_false_eq_true,true_implies,false_implies,and_true,true_and,false_and,and_false,false_or]
  repeat'(first|(with_reducible apply And.intro)|intro _)
  all_goals(try simp(disch:=omega) only[AU]at*)
  all_goals first
   |exact(Am fun k=>by omega).symm
   |exact Rc (by omega)
   |exact Ry (by omega)
noncomputable def Bz(a b:De):Prop:=a.id=b.id/\a.day=b.day/\a.kind=b.kind/\a.fro=b.fro/\a.tow=b.tow/\a.turn=b.turn/\a.til=b.til/\a.heirs.1=b.heirs.1/\∀i,i<a.heirs.1->a.heirs.2 i=b.heirs.2 i
noncomputable def Hi:As:=Cq Sf Sf (fun _ _=>True) fun a b=> .bool (A8 (Bz a b))
theorem Qj:Ah Tryz.prog G 60 Hi:=by
 refine Kq (S:=[]) (I:=[]) mixed .nil .nil Tryz.func60 c60 fun a b _ hw=> ?_
 simp only[Nat.reduceSub,Nat.reducePow,go_sem]at hw
 obtain⟨w1,w2⟩:=hw
 simp only[A3,a60,w1,w2,↓reduceIte,reduceCtorEq,Nat.reduceEqDiff,Nat.reduceAdd,Nat.reduceSub,Nat.reduceLeDiff,Nat.reducePow,go_sem]
 have nt:∀{x y:Tu},(x.fro==y.fro&&x.til==y.til)=true↔x=y:=fun{x y}=>by obtain⟨a1,a2⟩:=x;obtain⟨b1,b2⟩:=y;simp
 refine⟨fun h=>(Am fun k=>h k.1).symm,fun k1=>⟨fun h=>(Am fun k=>h k.2.1).symm,fun k2=>⟨fun h=>(Am fun k=>h k.2.2.1).symm,fun k3=>⟨fun h=>(Am fun k=>h k.2.2.2.1).symm,fun k4=>⟨fun h=>(Am fun k=>h k.2.2.2.2.1).symm,fun k5=>⟨fun h=>(Am fun k=>by rw[nt.2 k.2.2.2.2.2.1]at h;cases h).symm,fun k6=>⟨fun h=>(Am fun k=>h k.2.2.2.2.2.2.1).symm,fun k7=>⟨fun h=>(Am fun k=>h (by have:=k.2.2.2.2.2.2.2.1;omega)).symm,fun k8=> ?_⟩⟩⟩⟩⟩⟩⟩⟩
 refine AS (ι:=Nat) (fun j=>j<=a.heirs.1/\∀i,i<j->a.heirs.2 i=b.heirs.2 i) (fun j=>a.heirs.1-j) [2,3] (fun j=>[(5,.int .i64 j)]) (fun _=>[]) 0 ⟨by omega,fun i h=>by omega⟩ (by simp only[↓reduceIte,reduceCtorEq,Nat.reduceEqDiff,Nat.reduceLT,go_sem];try rfl) fun j hj=> ?_
 obtain⟨hj1,hj2⟩:=hj
 simp only[w1,↓reduceIte,reduceCtorEq,Nat.reduceEqDiff,Nat.reduceAdd,Nat.reduceSub,Nat.reducePow,go_sem]
 have he:∀{x y:Hr},(x.who==y.who&&x.parts==y.parts)=true↔x=y:=fun{x y}=>by obtain⟨a1,a2⟩:=x;obtain⟨b1,b2⟩:=y;simp
 refine⟨fun hlt=>⟨by omega,by omega,by omega,by omega,fun h1=>(Am fun k=> ?_).symm,fun h1=>Af (j+1) ⟨by omega,fun i hi=> ?_⟩ (by omega) (by simp only[↓reduceIte,reduceCtorEq,Nat.reduceEqDiff,Nat.reduceLT,go_sem];rw[Cs (by omega)])⟩,fun hge=> ?_⟩
 ·rw[k.2.2.2.2.2.2.2.2 j (by omega)]at h1;simp at h1
 ·rcases Nat.lt_or_ge i j with h5|h5
  ·exact hj2 i h5
  obtain rfl:i=j:=by omega
  exact he.1 h1
 exact(At ⟨k1,k2,k3,k4,k5,nt.1 k6,k7,by omega,fun i hi=>hj2 i (by omega)⟩).symm
noncomputable def HG:As:=Cq (Dv Gq) (Dv Gq) (fun _ _=>True) fun a b=> .bool (A8 (a.1=b.1/\∀i,i<a.1->Bz (a.2 i) (b.2 i)))
theorem SM:Ah Tryz.prog G 24 HG:=by
 refine Kq (S:=[(60,Hi)]) (I:=[]) mixed (.cons Qj .nil) .nil Tryz.func24 c24 fun a b _ hw=> ?_
 simp only[Nat.reduceSub,Nat.reducePow,go_sem]at hw
 obtain⟨w1,w2⟩:=hw
 simp only[A3,a24,Hi,w1,w2,↓reduceIte,reduceCtorEq,Nat.reduceEqDiff,Nat.reduceSub,Nat.reducePow,go_sem]
 refine⟨fun h=>(Am fun k=>h (by omega)).symm,fun h=> ?_⟩
 refine AS (ι:=Nat) (fun j=>j<=a.1/\∀i,i<j->Bz (a.2 i) (b.2 i)) (fun j=>a.1-j) [0,1] (fun j=>[(5,.int .i64 j)]) (fun _=>[]) 0 ⟨by omega,fun i h=>by omega⟩ (by simp only[↓reduceIte,reduceCtorEq,Nat.reduceEqDiff,go_sem];try rfl) fun j hj=> ?_
 obtain⟨hj1,hj2⟩:=hj
 simp only[w1,↓reduceIte,reduceCtorEq,Nat.reduceEqDiff,Nat.reduceAdd,Nat.reduceSub,Nat.reducePow,go_sem,AM,BB]
 refine⟨fun hlt=>⟨by omega,by omega,by omega,by omega,fun h1=>(Am fun k=>h1 (k.2 j (by omega))).symm,fun h1=>Af (j+1) ⟨by omega,fun i hi=> ?_⟩ (by omega) (by simp only[↓reduceIte,reduceCtorEq,Nat.reduceEqDiff,go_sem];rw[Cs (by omega)])⟩,fun hge=>(At ⟨by omega,fun i hi=>hj2 i (by omega)⟩).symm⟩
 rcases Nat.lt_or_ge i j with h5|h5
 ·exact hj2 i h5
 obtain rfl:i=j:=by omega
 exact h1
noncomputable def C0(r:Ro)(l:E3):Int:=if 60<l.1 then 4 else if A8 (∀i,i<l.1->Dn r (l.2 i))=true then(if A8 (∀i,i<l.1->∀k,k<i->(l.2 i).id=(l.2 k).id->Bz (l.2 i) (l.2 k))=true then 0 else 42)else 41
noncomputable def I3:As:=Cq KC (Dv Gq) (fun r _=>1<=r.days/\r.days<=16) fun r l=> .int .i64 (C0 r l)
theorem Xt:Ah Tryz.prog G 65 I3:=by
 refine Kq (S:=[(30,Ol),(60,Hi)]) (I:=[]) mixed (.cons XX (.cons Qj .nil)) .nil Tryz.func65 c65 fun r l hp hw=> ?_
 simp only[Nat.reduceSub,Nat.reducePow,go_sem]at hw
 obtain⟨w1,w2⟩:=hw
 simp only[A3,a65,Ol,Hi,w2,↓reduceIte,reduceCtorEq,Nat.reduceEqDiff,Nat.reduceAdd,Nat.reduceSub,Nat.reducePow,go_sem]
 have hE:¬60<l.1->C0 r l=if A8 (∀i,i<l.1->Dn r (l.2 i))=true then(if A8 (∀i,i<l.1->∀k,k<i->(l.2 i).id=(l.2 k).id->Bz (l.2 i) (l.2 k))=true then 0 else 42)else 41:=fun h=>if_neg h
 refine⟨fun h=>(if_pos (by omega)).symm,fun h=> ?_⟩
 rw[hE (by omega)]
 refine AS (ι:=Nat) (fun j=>j<=l.1/\∀i,i<j->Dn r (l.2 i)) (fun j=>l.1-j) [1,2] (fun j=>[(5,.int .i64 j)]) (fun _=>[]) 0 ⟨by omega,fun i h=>by omega⟩ (by simp only[↓reduceIte,reduceCtorEq,Nat.reduceEqDiff,Nat.reduceLT,go_sem];try rfl) fun j hj=> ?_
 obtain⟨hj1,hj2⟩:=hj
 simp only[w2,↓reduceIte,reduceCtorEq,Nat.reduceEqDiff,Nat.reduceAdd,Nat.reduceSub,Nat.reducePow,go_sem,AM,BB]
 have push:∀{Q:Nat->Prop} {j:Nat},(∀i,i<j->Q i)->Q j->∀i,i<j+1->Q i:=fun{Q j} h1 h2 i hi=>by
  rcases Nat.lt_or_ge i j with h5|h5
  ·exact h1 i h5
  obtain rfl:i=j:=by omega
  exact h2
 refine⟨fun hlt=>⟨by omega,by omega,hp.1,hp.2,fun h1=> ?_,fun h1=>Af (j+1) ⟨by omega,push hj2 h1⟩ (by omega) (by simp only[↓reduceIte,Nat.reduceEqDiff,Nat.reduceLT,go_sem];rw[Cs (by omega)])⟩,fun hge=> ?_⟩
 ·rw[Am fun k=>h1 (k j (by omega))];rfl
 rw[At fun i hi=>hj2 i (by omega),if_pos rfl]
 refine AS (ι:=Nat) (fun j=>j<=l.1/\∀i,i<j->∀k,k<i->(l.2 i).id=(l.2 k).id->Bz (l.2 i) (l.2 k)) (fun j=>l.1-j) [1] (fun j=>[(6,.int .i64 j)]) (fun _=>[]) 0 ⟨by omega,fun i h=>by omega⟩ (by simp only[↓reduceIte,Nat.reduceEqDiff,Nat.reduceLT,go_sem];try rfl) fun j hj=> ?_
 obtain⟨hj3,hj4⟩:=hj
 simp only[w2,↓reduceIte,reduceCtorEq,Nat.reduceEqDiff,Nat.reduceSub,Nat.reducePow,go_sem]
 refine⟨fun hlt=> ?_,fun hge=> ?_⟩
 ·refine AS (ι:=Nat) (fun q=>q<=j/\∀k,k<q->(l.2 j).id=(l.2 k).id->Bz (l.2 j) (l.2 k)) (fun q=>j-q) [1,6] (fun q=>[(7,.int .i64 q)]) (fun _=>[]) 0 ⟨by omega,fun i h=>by omega⟩ (by simp only[↓reduceIte,Nat.reduceEqDiff,Nat.reduceLT,go_sem];try rfl) fun q hq=> ?_
  obtain⟨hq1,hq2⟩:=hq
  simp only[↓reduceIte,reduceCtorEq,Nat.reduceEqDiff,Nat.reduceAdd,Nat.reduceSub,Nat.reduceLeDiff,go_sem,AM,BB]
  have no:j<l.1->q<j->(l.2 j).id=(l.2 q).id->¬Bz (l.2 j) (l.2 q)->42=if A8 (∀i,i<l.1->∀k,k<i->(l.2 i).id=(l.2 k).id->Bz (l.2 i) (l.2 k))=true then 0 else(42:Int):=fun h1 h2 h3 h4=>by rw[Am fun k=>h4 (k j h1 q h2 h3)];rfl
  refine⟨fun h5=>⟨by omega,by omega,by omega,by omega,fun h6=>⟨by omega,by omega,by omega,by omega,fun h7=>no (by omega) (by omega) h6 h7,fun h7=>Af (q+1) ⟨by omega,push hq2 fun _=>h7⟩ (by omega) (by simp only[↓reduceIte,Nat.reduceEqDiff,Nat.reduceLT,go_sem];rw[Cs (by omega)])⟩,fun h6=>Af (q+1) ⟨by omega,push hq2 fun h=>absurd h h6⟩ (by omega) (by simp only[↓reduceIte,Nat.reduceEqDiff,Nat.reduceLT,go_sem];rw[Cs (by omega)])⟩,fun h5=> ?_⟩
  exact Af (j+1) ⟨by omega,push hj4 fun k hk=>hq2 k (by omega)⟩ (by omega) (by simp only[↓reduceIte,Nat.reduceEqDiff,Nat.reduceLT,go_sem];rw[Cs (by omega)])
 rw[At fun i hi=>hj4 i (by omega)];rfl
noncomputable def BV(r:Ro)(l:E3):Int:=if A8 (EL r)=true then C0 r l else 40
end Go.Proofs.YtlieoghhkioflaaGreat
namespace Go.Proofs.YtlieoghhkioflaaGreat
open Go Go.RowKit
variable{G:Nat->Option (Nat×(Nat->Ad))}
theorem Fz(x:De):∀b,b<9->Az x.L b=x.c b:=fun b hb=>by
 rcases(by omega:b=0\/b=1\/b=2\/b=3\/b=4\/b=5\/b=6\/b=7\/b=8)with rfl|rfl|rfl|rfl|rfl|rfl|rfl|rfl|rfl<;>rfl
theorem BP(v:Ad):AB v v:=of_eq_true (Fq v)
noncomputable def I2:As:=Dr Sf (fun x=>x.heirs.1<=12) fun x=> .agg x.L
theorem Xg:Ah Tryz.prog G 28 I2:=by
 refine We (S:=[]) (I:=[]) mixed .nil .nil Tryz.func28 c28 fun x hp hw=> ?_
 simp only[Nat.reduceSub,Nat.reducePow,go_sem]at hw
 simp only[A3,a28,hw,↓reduceIte,reduceCtorEq,Nat.reduceEqDiff,Nat.reduceAdd,Nat.reduceSub,Nat.reduceLT,Nat.reducePow,go_sem]
 exact⟨by omega,fun i hi j hj=>by rw[if_neg (Nat.not_lt_zero i)];exact BP _⟩
def Bm(x y:De):Prop:=x.day<y.day\/x.day=y.day/\x.id<y.id
instance(x y:De):Decidable (Bm x y):=by unfold Bm;infer_instance
def de0:De:=⟨0,0,0,0,0,⟨0,0⟩,0,(0,fun _=>⟨0,0⟩)⟩
def GD(x:De):List De->List De
 |[]=>[x]
 |y::L=>if Bm x y then x::y::L else y::GD x L
def lD(L:List De)(i:Nat):De:=L.getD i de0
noncomputable def FY(l:E3)(i:Nat):Bool:=A8 (∀k,k<i->(l.2 k).id≠(l.2 i).id)
noncomputable def Bo(l:E3):Nat->List De
 |0=>[]
 |i+1=>if FY l i=true then GD (l.2 i) (Bo l i)else Bo l i
theorem Nb(x:De):∀L,(GD x L).length=L.length+1
 |[]=>rfl
 |y::L=>by
  rw[GD];split
  ·simp
  simp[Nb x L]
theorem K8(l:E3):∀i,(Bo l i).length<=i
 |0=>Nat.le_refl _
 |i+1=>by
  have:=K8 l i
  rw[Bo];split
  ·rw[Nb];omega
  omega
theorem JM(x:De):∀(L:List De) (y:De),y∈GD x L↔y=x\/y∈L
 |[],y=>by simp[GD]
 |z::L,y=>by
  rw[GD];split
  ·simp
  rw[List.mem_cons,JM x L y,List.mem_cons];constructor<;>(rintro(h|h|h)<;>simp[h])
theorem JO{x y z:De}(h1:Bm x y)(h2:Bm y z):Bm x z:=by unfold Bm at*;omega
theorem QC{x y:De}(h:x.id≠y.id):Bm x y\/Bm y x:=by unfold Bm at*;omega
theorem IK(x:De):∀(L:List De),L.Pairwise Bm->(∀y∈L,y.id≠x.id)->(GD x L).Pairwise Bm
 |[],_,_=>by simp[GD]
 |z::L,h,hx=>by
  rw[List.pairwise_cons]at h
  rw[GD];split
  ·rename_i hb
   rw[List.pairwise_cons,List.pairwise_cons]
   exact⟨fun y hy=>by rcases List.mem_cons.1 hy with rfl|hy;exact hb;exact JO hb (h.1 y hy),h⟩
  rename_i hb
  rw[List.pairwise_cons]
  refine⟨fun y hy=> ?_,IK x L h.2 fun y hy=>hx y (by simp[hy])⟩
  rcases(JM x L y).1 hy with rfl|hy
  ·exact(QC (hx z (by simp))).resolve_right hb
  exact h.1 y hy
theorem E8(l:E3):∀i (y:De),y∈Bo l i↔∃k,k<i/\FY l k=true/\y=l.2 k
 |0,y=>by simp[Bo]
 |i+1,y=>by
  rw[Bo];split
  ·rename_i hn
   rw[JM,E8 l i y]
   constructor
   ·rintro(rfl|⟨k,h1,h2,h3⟩)
    ·exact⟨i,by omega,hn,rfl⟩
    exact⟨k,by omega,h2,h3⟩
   rintro⟨k,h1,h2,rfl⟩
   by_cases e:k=i
   ·subst e;exact .inl rfl
   exact .inr ⟨k,by omega,h2,rfl⟩
  rename_i hn
  rw[E8 l i y]
  constructor
  ·rintro⟨k,h1,h2,h3⟩;exact⟨k,by omega,h2,h3⟩
  rintro⟨k,h1,h2,rfl⟩
  by_cases e:k=i
  ·subst e;exact absurd h2 hn
  exact⟨k,by omega,h2,rfl⟩
theorem Eb(l:E3):∀i,(Bo l i).Pairwise Bm
 |0=>List.Pairwise.nil
 |i+1=>by
  rw[Bo];split
  ·rename_i hn
   refine IK _ _ (Eb l i) fun y hy=> ?_
   obtain⟨k,h1,_,rfl⟩:=(E8 l i y).1 hy
   exact AM.1 hn k h1
  exact Eb l i
end Go.Proofs.YtlieoghhkioflaaGreat
namespace Go.Proofs.YtlieoghhkioflaaGreat
open Go Go.RowKit
variable{G:Nat->Option (Nat×(Nat->Ad))}
def ZR(n:Int)(p:Nat×(Nat->Int)):Prop:=0<=n/\n<=23040/\1<=p.1/\p.1<=8/\∀i,i<p.1->1<=p.2 i/\p.2 i<=1000
theorem ZR.sum{n:Int}{p:Nat×(Nat->Int)}(h:ZR n p):∀k,k<=p.1->(k:Int)<=AN p.2 k/\AN p.2 k<=1000*k:=fun k hk=>by
 have h1:=HE (fun _=>1) p.2 k fun i hi=>(h.2.2.2.2 i (by omega)).1
 have h2:=HE p.2 (fun _=>1000) k fun i hi=>(h.2.2.2.2 i (by omega)).2
 rw[FB]at h1 h2;omega
end Go.Proofs.YtlieoghhkioflaaGreat
namespace Go.Proofs.YtlieoghhkioflaaGreat
open Go Go.RowKit
variable{G:Nat->Option (Nat×(Nat->Ad))}
def Vf(b:Bk)(n:Nat):Prop:=b.ow.1=n/\b.le.1=n/\b.un.1=n/\b.de.1=10000
def H6(b:Bk)(x:De):Prop:=∀m:Nat,x.turn.fro<=m->(m:Int)<x.turn.til->b.ow.2 m=x.fro
def O5(b:Bk)(x:De):Prop:=∀m:Nat,x.turn.fro<=m->(m:Int)<x.turn.til->¬(b.le.2 m≠0/\x.day<b.un.2 m)
noncomputable def Bh(b:Bk)(x:De):Int:=if(b.de.2 x.fro.toNat||b.de.2 x.tow.toNat)=true then 1 else if A8 (H6 b x)=true then(if x.kind=4 then(if A8 (O5 b x)=true then 0 else 3)else 0)else 2
end Go.Proofs.YtlieoghhkioflaaGreat
namespace Go.Proofs.YtlieoghhkioflaaGreat
def Ca(r:Ro):Nat:=(1440*r.days).toNat
noncomputable def IS(r:Ro)(m:Nat):Int:=(r.holds.2 (Co (fun i=>(m:Int)<(r.holds.2 i).turn.til) r.holds.1)).who
noncomputable def W2(r:Ro):Bk:=⟨(Ca r,IS r),(Ca r,fun _=>0),(Ca r,fun _=>0),(10000,fun _=>false)⟩
def CO(de:Nat->Bool)(l:Nat×(Nat->Hr)):Nat->List Hr
 |0=>[]
 |k+1=>if de (l.2 k).who.toNat=true then CO de l k else CO de l k++[l.2 k]
def Kw(b:Bk)(x:De):Nat->Bool:=fun i=>if i=x.fro.toNat then true else b.de.2 i
def B4(b:Bk)(x:De):List Hr:=if(CO (Kw b x) x.heirs x.heirs.1).length=0 then[⟨0,1⟩]else CO (Kw b x) x.heirs x.heirs.1
def hl(L:List Hr)(i:Nat):Hr:=L.getD i ⟨0,0⟩
def Ic(b:Bk)(x:De)(m:Nat):Nat:=E4 (fun q=>decide (b.ow.2 q=x.fro)) m
def A5(b:Bk)(x:De)(i:Nat):Int:=FH (Ic b x b.ow.1) (fun i=>(hl (B4 b x) i).parts) (B4 b x).length i
noncomputable def ES(each:Nat->Int)(k:Nat)(c:Nat):Nat:=Co (fun i=>(c:Int)<AN each (i+1)) k
noncomputable def JK(b:Bk)(x:De):Bk:=⟨(b.ow.1,fun m=>if b.ow.2 m=x.fro then(hl (B4 b x) (ES (A5 b x) (B4 b x).length (Ic b x m))).who else b.ow.2 m),(b.le.1,fun m=>if b.le.2 m=x.fro then 0 else b.le.2 m),b.un,(b.de.1,Kw b x)⟩
def GE(x:De)(m:Nat):Prop:=x.turn.fro<=m/\(m:Int)<x.turn.til
instance(x:De)(m:Nat):Decidable (GE x m):=by unfold GE;infer_instance
noncomputable def Nf(b:Bk)(x:De):Bk:=
 if x.kind=3 then JK b x else if x.kind=1 then⟨(b.ow.1,fun m=>if GE x m then x.tow else b.ow.2 m),b.le,b.un,b.de⟩
 else if x.kind=2 then⟨(b.ow.1,fun m=>if GE x m then 0 else b.ow.2 m),b.le,b.un,b.de⟩
 else if x.kind=4 then⟨b.ow,(b.le.1,fun m=>if GE x m then x.tow else b.le.2 m),(b.un.1,fun m=>if GE x m then x.til else b.un.2 m),b.de⟩else b
noncomputable def E6(b:Bk)(x:De):Bk:=if Bh b x=0 then Nf b x else b
noncomputable def AI(r:Ro)(l:Nat->De):Nat->Bk
 |0=>W2 r
 |k+1=>E6 (AI r l k) (l k)
noncomputable def BW(l:E3)(day:Int):Nat:=Co (fun i=>day<(l.2 i).day) l.1
theorem UY(r:Ro)(i:Nat):Jv r (i+1)=(r.holds.2 i).turn.til:=by
 unfold Jv;rw[if_neg (by omega),Nat.add_sub_cancel]
theorem Lh{r:Ro}{n:Nat}(h:∀i,i<n->Hd1 r i):∀i,i<=n->∀j,j<i->(r.holds.2 j).turn.til<=Jv r i
 |0,_,j,hj=>by omega
 |i+1,hi,j,hj=>by
  have h1:=h i (by omega)
  rw[UY]
  by_cases e:j=i
  ·subst e;exact Int.le_refl _
  have:=Lh h i (by omega) j (by omega)
  have h2:=h1.2.2.1;have h3:=h1.2.2.2.1
  omega
theorem LA{r:Ro}(hr:EL r){i m:Nat}(hi:i<r.holds.1)(h1:Jv r i<=m)(h2:(m:Int)<(r.holds.2 i).turn.til):IS r m=(r.holds.2 i).who:=by
 unfold IS
 rw[C5 hi h2 fun j hj h=>by have:=Lh hr.2.2.2.2.1 i (by omega) j hj;omega]
theorem Wr(r:Ro):Vf (W2 r) (Ca r):=⟨rfl,rfl,rfl,rfl⟩
theorem ZX{b:Bk}{n:Nat}(h:Vf b n)(x:De):Vf (Nf b x) n:=by
 obtain⟨h1,h2,h3,h4⟩:=h
 unfold Nf
 split
 ·exact⟨h1,h2,h3,h4⟩
 split
 ·exact⟨h1,h2,h3,h4⟩
 split
 ·exact⟨h1,h2,h3,h4⟩
 split
 ·exact⟨h1,h2,h3,h4⟩
 exact⟨h1,h2,h3,h4⟩
theorem Hb(r:Ro)(l:Nat->De):∀k,Vf (AI r l k) (Ca r)
 |0=>Wr r
 |k+1=>by
  rw[AI,E6];split
  ·exact ZX (Hb r l k) _
  exact Hb r l k
theorem LZ(de:Nat->Bool)(l:Nat×(Nat->Hr)):∀k,(CO de l k).length<=k
 |0=>Nat.le_refl _
 |k+1=>by
  have:=LZ de l k
  rw[CO];split
  ·omega
  simp;omega
theorem I9(de:Nat->Bool)(l:Nat×(Nat->Hr)):∀k,∀h∈CO de l k,∃i,i<k/\h=l.2 i
 |0,h,hh=>by simp[CO]at hh
 |k+1,h,hh=>by
  rw[CO]at hh;split at hh
  ·obtain⟨i,h1,h2⟩:=I9 de l k h hh;exact⟨i,by omega,h2⟩
  rcases List.mem_append.1 hh with hh|hh
  ·obtain⟨i,h1,h2⟩:=I9 de l k h hh;exact⟨i,by omega,h2⟩
  exact⟨k,by omega,by simpa using hh⟩
theorem YF{L:List Hr}{i:Nat}(h:i<L.length):hl L i∈L:=by
 unfold hl;rw[List.getD_eq_getElem?_getD,List.getElem?_eq_getElem h];exact List.getElem_mem h
theorem T1{b:Bk}{x:De}(hh:FV x.fro x.heirs)(hf:1<=x.fro):1<=(B4 b x).length/\(B4 b x).length<=8/\∀i,i<(B4 b x).length->0<=(hl (B4 b x) i).who/\(hl (B4 b x) i).who<=9999/\(hl (B4 b x) i).who≠x.fro/\1<=(hl (B4 b x) i).parts/\(hl (B4 b x) i).parts<=1000:=by
 obtain⟨h1,h2,h3⟩:=hh
 have h4:=LZ (Kw b x) x.heirs x.heirs.1
 unfold B4
 split
 ·refine⟨Nat.le_refl _,by simp,fun i hi=> ?_⟩
  obtain rfl:i=0:=by simpa using hi
  refine⟨by decide,by decide,?_,by decide,by decide⟩
  show(0:Int)≠x.fro
  omega
 refine⟨by omega,by omega,fun i hi=> ?_⟩
 obtain⟨q,q1,q2⟩:=I9 _ _ _ _ (YF hi)
 obtain⟨g1,g2,g3,g4,g5,_⟩:=h3 q q1
 rw[q2]
 exact⟨by omega,g2,g3,g4,g5⟩
end Go.Proofs.YtlieoghhkioflaaGreat
namespace Go.Proofs.YtlieoghhkioflaaGreat
open Go Go.RowKit
variable{b:Bk}{N i:Nat}
abbrev Pz:=Nat×(Nat->Pi)
structure BG(N:Nat)(P:Pz):Prop where
 pos:1<=P.1
 beg:(P.2 0).turn.fro=0
 lt:∀i,i<P.1->(P.2 i).turn.fro<(P.2 i).turn.til
 nxt:∀i,i+1<P.1->(P.2 (i+1)).turn.fro=(P.2 i).turn.til
 fin:(P.2 (P.1-1)).turn.til=N
theorem BG.step{P:Pz}(h:BG N P)(i:Nat):∀d,i+d+1<P.1->(P.2 i).turn.til+d<=(P.2 (i+d+1)).turn.fro
 |0,hd=>by
  have:=h.nxt i hd
  show(P.2 i).turn.til+((0:Nat):Int)<=(P.2 (i+1)).turn.fro
  omega
 |d+1,hd=>by
  have h1:=h.step i d (by omega)
  have h2:=h.lt (i+d+1) (by omega)
  have h3:=h.nxt (i+d+1) (by omega)
  rw[show i+(d+1)+1=i+d+1+1 by omega,h3]
  omega
theorem BG.mono{P:Pz}(h:BG N P){j:Nat}(hij:i<j)(hj:j<P.1):(P.2 i).turn.til<=(P.2 j).turn.fro:=by
 obtain⟨d,rfl⟩:∃d,j=i+d+1:=⟨j-i-1,by omega⟩
 have:=h.step i d hj
 omega
theorem BG.rng{P:Pz}(h:BG N P)(hi:i<P.1):0<=(P.2 i).turn.fro/\(P.2 i).turn.til<=N:=by
 constructor
 ·rcases Nat.eq_zero_or_pos i with h0|h0
  ·subst h0;rw[h.beg];exact Int.le_refl 0
  have h1:=h.mono h0 hi
  have h2:=h.lt 0 (by omega)
  rw[h.beg]at h2
  omega
 by_cases e:i=P.1-1
 ·rw[e,h.fin];exact Int.le_refl _
 have h1:=h.mono (show i<P.1-1 by omega) (by omega)
 have h2:=h.lt (P.1-1) (by omega)
 have h3:=h.fin
 omega
theorem BG.len{P:Pz}(h:BG N P):P.1<=N:=by
 have h2:=h.lt 0 h.pos
 rw[h.beg]at h2
 by_cases e:P.1=1
 ·have:=(h.rng h.pos).2;have:=h.pos;omega
 have h1:=h.step 0 (P.1-2) (by have:=h.pos;omega)
 rw[show 0+(P.1-2)+1=P.1-1 by have:=h.pos;omega]at h1
 have h3:=h.lt (P.1-1) (by have:=h.pos;omega)
 have h4:=h.fin
 omega
theorem BG.at{P:Pz}(h:BG N P){m:Int}(h0:0<=m)(h1:m<N):∃i,i<P.1/\(P.2 i).turn.fro<=m/\m<(P.2 i).turn.til:=by
 rcases Bi (fun i=>m<(P.2 i).turn.til) P.1 with⟨a,b,c⟩|⟨_,c⟩
 ·refine⟨_,a,?_,b⟩
  generalize Co (fun i=>m<(P.2 i).turn.til) P.1=i at*
  cases i with
  |zero=>rw[h.beg];exact h0
  |succ i=>rw[h.nxt i a];have:=c i (by omega);omega
 exact absurd (by rw[h.fin];exact h1) (c (P.1-1) (by have:=h.pos;omega))
theorem BG.one{P:Pz}(h:BG N P){m:Int}{j:Nat}(hi:i<P.1)(hj:j<P.1)(i1:(P.2 i).turn.fro<=m)(i2:m<(P.2 i).turn.til)(j1:(P.2 j).turn.fro<=m)(j2:m<(P.2 j).turn.til):i=j:=by
 rcases Nat.lt_trichotomy i j with e|e|e
 ·have:=h.mono e hj;omega
 ·exact e
 have:=h.mono e hi;omega
structure Rp(P:Pz)(b:Bk):Prop where
 ow:∀i,i<P.1->∀m:Nat,(P.2 i).turn.fro<=m->(m:Int)<(P.2 i).turn.til->b.ow.2 m=(P.2 i).owner
 le:∀i,i<P.1->∀m:Nat,(P.2 i).turn.fro<=m->(m:Int)<(P.2 i).turn.til->b.le.2 m=(P.2 i).lent
 un:∀i,i<P.1->∀m:Nat,(P.2 i).turn.fro<=m->(m:Int)<(P.2 i).turn.til->(P.2 i).lent≠0->b.un.2 m=(P.2 i).til
def Dz(p:Nat->Pi)(i:Nat)(c:Int)(k:Nat):Pi:=if k<i then p k else if k=i then{p i with turn:=⟨(p i).turn.fro,c⟩}else if k=i+1 then{p i with turn:=⟨c,(p i).turn.til⟩}else p (k-1)
def K9(P:Pz)(c:Int)(i:Nat):Prop:=(P.2 i).turn.fro<c/\c<(P.2 i).turn.til
noncomputable def CT(P:Pz)(c:Int):Pz:=if Co (K9 P c) P.1<P.1 then(P.1+1,Dz P.2 (Co (K9 P c) P.1) c)else P
theorem Iu{P:Pz}(h:BG N P)(c:Int):BG N (CT P c):=by
 unfold CT
 split
 ·rename_i hi
  have hc:K9 P c (Co (K9 P c) P.1):=by
   rcases Bi (K9 P c) P.1 with⟨_,b,_⟩|⟨a,_⟩
   ·exact b
   omega
  generalize Co (K9 P c) P.1=i at*
  obtain⟨c1,c2⟩:=hc
  refine⟨by show 1<=P.1+1;omega,?_,fun k hk=> ?_,fun k hk=> ?_,?_⟩
  ·show(Dz P.2 i c 0).turn.fro=0
   unfold Dz
   rcases Nat.eq_zero_or_pos i with e|e
   ·subst e;rw[if_neg (by omega),if_pos rfl];exact h.beg
   rw[if_pos e];exact h.beg
  ·have hk:k<P.1+1:=hk
   show(Dz P.2 i c k).turn.fro<(Dz P.2 i c k).turn.til
   unfold Dz
   split
   ·exact h.lt k (by omega)
   split
   ·exact c1
   split
   ·exact c2
   exact h.lt (k-1) (by omega)
  ·have hk:k+1<P.1+1:=hk
   show(Dz P.2 i c (k+1)).turn.fro=(Dz P.2 i c k).turn.til
   unfold Dz
   by_cases e1:k+1<i
   ·rw[if_pos e1,if_pos (show k<i by omega)];exact h.nxt k (by omega)
   by_cases e2:k+1=i
   ·rw[if_neg e1,if_pos e2,if_pos (show k<i by omega),<-e2];exact h.nxt k (by omega)
   by_cases e3:k=i
   ·rw[if_neg e1,if_neg e2,if_pos (by omega),if_neg (show¬k<i by omega),if_pos e3]
   by_cases e4:k=i+1
   ·rw[if_neg e1,if_neg e2,if_neg (show¬k+1=i+1 by omega),if_neg (show¬k<i by omega),if_neg e3,if_pos e4,e4]
    exact h.nxt i (by omega)
   rw[if_neg e1,if_neg e2,if_neg (show¬k+1=i+1 by omega),if_neg (show¬k<i by omega),if_neg e3,if_neg e4]
   have:=h.nxt (k-1) (by omega)
   rw[show k-1+1=k by omega]at this
   rw[Nat.add_sub_cancel]
   exact this
  show(Dz P.2 i c (P.1+1-1)).turn.til=N
  rw[Nat.add_sub_cancel]
  unfold Dz
  rw[if_neg (by omega),if_neg (by omega)]
  by_cases e:P.1=i+1
  ·rw[if_pos e,show i=P.1-1 by omega];exact h.fin
  rw[if_neg e];exact h.fin
 exact h
theorem TD(P:Pz)(c:Int):∀k,k<(CT P c).1->∃i,i<P.1/\(P.2 i).turn.fro<=((CT P c).2 k).turn.fro/\((CT P c).2 k).turn.til<=(P.2 i).turn.til/\((CT P c).2 k).owner=(P.2 i).owner/\((CT P c).2 k).lent=(P.2 i).lent/\((CT P c).2 k).til=(P.2 i).til:=by
 intro k
 unfold CT
 split
 ·rename_i hi
  have hc:K9 P c (Co (K9 P c) P.1):=by
   rcases Bi (K9 P c) P.1 with⟨_,b,_⟩|⟨a,_⟩
   ·exact b
   omega
  generalize Co (K9 P c) P.1=i at*
  obtain⟨c1,c2⟩:=hc
  intro hk
  have hk:k<P.1+1:=hk
  show∃j,j<P.1/\(P.2 j).turn.fro<=(Dz P.2 i c k).turn.fro/\(Dz P.2 i c k).turn.til<=(P.2 j).turn.til/\(Dz P.2 i c k).owner=(P.2 j).owner/\(Dz P.2 i c k).lent=(P.2 j).lent/\(Dz P.2 i c k).til=(P.2 j).til
  unfold Dz
  split
  ·exact⟨k,by omega,Int.le_refl _,Int.le_refl _,rfl,rfl,rfl⟩
  split
  ·exact⟨i,hi,Int.le_refl _,by show c<=_;omega,rfl,rfl,rfl⟩
  split
  ·exact⟨i,hi,by show _<=c;omega,Int.le_refl _,rfl,rfl,rfl⟩
  exact⟨k-1,by omega,Int.le_refl _,Int.le_refl _,rfl,rfl,rfl⟩
 intro hk
 exact⟨k,hk,Int.le_refl _,Int.le_refl _,rfl,rfl,rfl⟩
theorem J6{P:Pz}(h:Rp P b)(c:Int):Rp (CT P c) b:=by
 refine⟨fun k hk m h1 h2=> ?_,fun k hk m h1 h2=> ?_,fun k hk m h1 h2 h3=> ?_⟩
 all_goals
  obtain⟨i,hi,p1,p2,p3,p4,p5⟩:=TD P c k hk
 ·rw[p3];exact h.ow i hi m (by omega) (by omega)
 ·rw[p4];exact h.le i hi m (by omega) (by omega)
 rw[p5];exact h.un i hi m (by omega) (by omega) (by rw[<-p4];exact h3)
theorem Qz{P:Pz}{a:Int}(c:Int)(h:∃i,i<P.1/\(P.2 i).turn.fro=a):∃i,i<(CT P c).1/\((CT P c).2 i).turn.fro=a:=by
 obtain⟨j,hj,hp⟩:=h
 unfold CT
 split
 ·rename_i hi
  generalize Co (K9 P c) P.1=i at*
  by_cases e:j<=i
  ·refine⟨j,by show j<P.1+1;omega,?_⟩
   show(Dz P.2 i c j).turn.fro=a
   unfold Dz
   by_cases e1:j<i
   ·rw[if_pos e1];exact hp
   rw[if_neg e1,if_pos (by omega),<-hp,show i=j by omega]
  refine⟨j+1,by show j+1<P.1+1;omega,?_⟩
  show(Dz P.2 i c (j+1)).turn.fro=a
  unfold Dz
  rw[if_neg (by omega),if_neg (by omega),if_neg (by omega),Nat.add_sub_cancel];exact hp
 exact⟨j,hj,hp⟩
theorem U7{P:Pz}(h:BG N P){c:Int}(h0:0<=c)(h1:c<N):∃i,i<(CT P c).1/\((CT P c).2 i).turn.fro=c:=by
 rcases Bi (K9 P c) P.1 with⟨a,b,_⟩|⟨a,b⟩
 ·unfold CT
  rw[if_pos a]
  generalize Co (K9 P c) P.1=i at*
  refine⟨i+1,by show i+1<P.1+1;omega,?_⟩
  show(Dz P.2 i c (i+1)).turn.fro=c
  unfold Dz
  rw[if_neg (by omega),if_neg (by omega),if_pos rfl]
 obtain⟨i,i1,i2,i3⟩:=h.at h0 h1
 refine Qz c ⟨i,i1,?_⟩
 have:=b i i1
 unfold K9 at this
 omega
theorem ZA{P:Pz}(h:BG N P){c:Int}(h0:0<c)(h1:c<=N):∃i,i<(CT P c).1/\((CT P c).2 i).turn.til=c:=by
 have hk:=Iu h c
 by_cases e:c=N
 ·exact⟨(CT P c).1-1,by have:=hk.pos;omega,by rw[hk.fin,e]⟩
 obtain⟨i,i1,i2⟩:=U7 h (show 0<=c by omega) (show c<N by omega)
 have i0:0<i:=by
  rcases Nat.eq_zero_or_pos i with z|z
  ·subst z;have:=hk.beg;omega
  exact z
 have:=hk.nxt (i-1) (by omega)
 rw[show i-1+1=i by omega]at this
 exact⟨i-1,by omega,by omega⟩
noncomputable def Cl(P:Pz)(t:Tu):Pz:=CT (CT P t.fro) t.til
noncomputable def Cn(P:Pz)(t:Tu):Nat:=Co (fun i=>(P.2 i).turn.fro=t.fro) P.1
noncomputable def CS(P:Pz)(t:Tu):Nat:=Co (fun i=>(P.2 i).turn.til=t.til) P.1
structure Oh(N:Nat)(P:Pz)(t:Tu):Prop where
 ok:BG N P
 f:Cn P t<P.1
 l:CS P t<P.1
 ff:(P.2 (Cn P t)).turn.fro=t.fro
 ll:(P.2 (CS P t)).turn.til=t.til
 fl:Cn P t<=CS P t
theorem KW{P:Pz}(h:BG N P){t:Tu}(h0:0<=t.fro)(h1:t.fro<t.til)(h2:t.til<=N):Oh N (Cl P t) t:=by
 have k1:=Iu h t.fro
 have k2:BG N (Cl P t):=Iu k1 t.til
 have a:∃i,i<(Cl P t).1/\((Cl P t).2 i).turn.fro=t.fro:=Qz t.til (U7 h h0 (by omega))
 have b:∃i,i<(Cl P t).1/\((Cl P t).2 i).turn.til=t.til:=ZA k1 (by omega) h2
 have a':Cn (Cl P t) t<(Cl P t).1/\((Cl P t).2 (Cn (Cl P t) t)).turn.fro=t.fro:=by
  rcases Bi (fun i=>((Cl P t).2 i).turn.fro=t.fro) (Cl P t).1 with⟨x,y,_⟩|⟨_,z⟩
  ·exact⟨x,y⟩
  obtain⟨i,i1,i2⟩:=a;exact absurd i2 (z i i1)
 have b':CS (Cl P t) t<(Cl P t).1/\((Cl P t).2 (CS (Cl P t) t)).turn.til=t.til:=by
  rcases Bi (fun i=>((Cl P t).2 i).turn.til=t.til) (Cl P t).1 with⟨x,y,_⟩|⟨_,z⟩
  ·exact⟨x,y⟩
  obtain⟨i,i1,i2⟩:=b;exact absurd i2 (z i i1)
 refine⟨k2,a'.1,b'.1,a'.2,b'.2,?_⟩
 apply Classical.byContradiction
 intro hn
 have:=k2.mono (show CS (Cl P t) t<Cn (Cl P t) t by omega) a'.1
 omega
theorem Oh.mem{P:Pz}{t:Tu}(h:Oh N P t)(hi:i<P.1){m:Nat}(m1:(P.2 i).turn.fro<=m)(m2:(m:Int)<(P.2 i).turn.til):(t.fro<=m/\(m:Int)<t.til)↔(Cn P t<=i/\i<=CS P t):=by
 constructor
 ·rintro⟨a,b⟩
  constructor
  ·apply Classical.byContradiction
   intro hn
   have:=h.ok.mono (show i<Cn P t by omega) h.f
   have:=h.ff
   omega
  apply Classical.byContradiction
  intro hn
  have:=h.ok.mono (show CS P t<i by omega) hi
  have:=h.ll
  omega
 rintro⟨a,b⟩
 constructor
 ·by_cases e:i=Cn P t
  ·rw[<-h.ff,<-e];exact m1
  have:=h.ok.mono (show Cn P t<i by omega) hi
  have:=h.ff
  have:=h.ok.lt _ h.f
  omega
 by_cases e:i=CS P t
 ·rw[<-h.ll,<-e];exact m2
 have:=h.ok.mono (show i<CS P t by omega) h.l
 have:=h.ll
 have:=h.ok.lt _ h.l
 omega
theorem YT{P:Pz}{x:De}(h:Oh N P x.turn)(hr:Rp P b)(h0:0<=x.turn.fro):H6 b x↔∀i,Cn P x.turn<=i->i<=CS P x.turn->(P.2 i).owner=x.fro:=by
 constructor
 ·intro hh i i1 i2
  have hi:i<P.1:=by have:=h.l;omega
  have hl:=h.ok.lt i hi
  have h3:=(h.ok.rng hi).1
  have hm:(((P.2 i).turn.fro.toNat:Nat):Int)=(P.2 i).turn.fro:=Int.toNat_of_nonneg h3
  obtain⟨q1,q2⟩:=(h.mem hi (m:=(P.2 i).turn.fro.toNat) (by omega) (by omega)).2 ⟨i1,i2⟩
  rw[<-hr.ow i hi (P.2 i).turn.fro.toNat (by omega) (by omega)]
  exact hh _ q1 q2
 intro hh m m1 m2
 obtain⟨i,i1,i2,i3⟩:=h.ok.at (m:=m) (by omega) (by have:=(h.ok.rng h.l).2;have:=h.ll;omega)
 obtain⟨q1,q2⟩:=(h.mem i1 i2 i3).1 ⟨m1,m2⟩
 rw[hr.ow i i1 m i2 i3]
 exact hh i q1 q2
theorem Y6{P:Pz}{x:De}(h:Oh N P x.turn)(hr:Rp P b)(h0:0<=x.turn.fro):O5 b x↔∀i,Cn P x.turn<=i->i<=CS P x.turn->¬((P.2 i).lent≠0/\x.day<(P.2 i).til):=by
 constructor
 ·intro hh i i1 i2
  have hi:i<P.1:=by have:=h.l;omega
  have hl:=h.ok.lt i hi
  have h3:=(h.ok.rng hi).1
  have hm:(((P.2 i).turn.fro.toNat:Nat):Int)=(P.2 i).turn.fro:=Int.toNat_of_nonneg h3
  obtain⟨q1,q2⟩:=(h.mem hi (m:=(P.2 i).turn.fro.toNat) (by omega) (by omega)).2 ⟨i1,i2⟩
  rintro⟨a,c⟩
  refine hh _ q1 q2 ⟨?_,?_⟩
  ·rw[hr.le i hi _ (by omega) (by omega)];exact a
  rw[hr.un i hi _ (by omega) (by omega) a];exact c
 intro hh m m1 m2
 obtain⟨i,i1,i2,i3⟩:=h.ok.at (m:=m) (by omega) (by have:=(h.ok.rng h.l).2;have:=h.ll;omega)
 obtain⟨q1,q2⟩:=(h.mem i1 i2 i3).1 ⟨m1,m2⟩
 rintro⟨a,c⟩
 rw[hr.le i i1 m i2 i3]at a
 rw[hr.un i i1 m i2 i3 a]at c
 exact hh i q1 q2 ⟨a,c⟩
end Go.Proofs.YtlieoghhkioflaaGreat
