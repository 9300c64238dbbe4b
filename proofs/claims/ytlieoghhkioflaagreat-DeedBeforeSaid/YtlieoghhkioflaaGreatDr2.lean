/- Deeds: the reference's deeds. No condition. -/
import Derived.Test.YtlieoghhkioflaaGreatLDez
set_option linter.unusedSimpArgs false
set_option linter.unusedVariables false
set_option maxRecDepth 100000
namespace Go.Proofs.YtlieoghhkioflaaGreat
open Go Go.RowKit
variable{G:Nat->Option (Nat×(Nat->Ad))}
theorem Qq{n:Nat}{P:Prop}(h:n=0↔P):((n:Int)==0)=Bb P:=by
 by_cases h0:n=0
 ·rw[As (h.1 h0)];subst h0;rfl
 rw[An fun k=>h0 (h.2 k)];exact beq_eq_false_iff_ne.2 (by omega)
theorem RJ{n:Int}{P:Prop}(h:n=0↔P):(n==0)=Bb P:=by
 by_cases h0:n=0
 ·rw[As (h.1 h0)];subst h0;rfl
 rw[An fun k=>h0 (h.2 k)];exact beq_eq_false_iff_ne.2 h0
noncomputable def Pe:At:=Cx Wn TI (fun _ _=>True) fun t e=> .bool (Bb (0<=t.fro/\t.fro<t.til/\t.til<=e))
theorem YO:Ah Tryz.prog G 70 Pe:=by
 refine Lm (S:=[]) (I:=[]) mixed .nil .nil Tryz.func70 c70 fun t e _ hw=> ?_
 simp only[A4,a70,↓reduceIte,reduceCtorEq,Nat.reduceEqDiff,Nat.reduceAdd,Nat.reduceLeDiff,go_sem]
 refine⟨fun h1=>⟨fun h2=> ?_,fun h2=>(An fun k=>h2 k.2.1).symm⟩,fun h1=>(An fun k=>h1 k.1).symm⟩
 by_cases h3:t.til<=e
 ·rw[decide_eq_true h3];exact(As ⟨h1,h2,h3⟩).symm
 rw[decide_eq_false h3];exact(An fun k=>h3 k.2.2).symm
def Ga(r:Ro)(x:De):Prop:=0<=x.turn.fro/\x.turn.fro<x.turn.til/\x.turn.til<=1440*r.days
def Fv(x:De):Prop:=1<=x.tow/\x.tow<=9999/\x.tow≠x.fro
def Do(r:Ro)(x:De):Prop:=0<=x.id/\x.id<=9999/\0<=x.day/\x.day<=100000/\1<=x.fro/\x.fro<=9999/\
  (x.kind=1/\Fv x/\Ga r x/\x.til=0/\x.heirs.1=0\/x.kind=2/\Ga r x/\x.tow=0/\x.til=0/\x.heirs.1=0\/
   x.kind=3/\FN x.fro x.heirs/\x.tow=0/\x.turn.fro=0/\x.turn.til=0/\x.til=0\/x.kind=4/\Fv x/\Ga r x/\x.day+1<=x.til/\x.til<=100001/\x.heirs.1=0)
noncomputable def N2:At:=Cx KI Td (fun r _=>1<=r.days/\r.days<=16) fun r x=> .bool (Bb (Do r x))
theorem Zh:Ah Tryz.prog G 30 N2:=by
 refine Lm (S:=[(59,OE),(69,Sd),(70,Pe),(71,O7)]) (I:=[]) mixed (.cons YS (.cons Abi (.cons YO (.cons XE .nil)))) .nil Tryz.func30 c30 fun r x hp hw=> ?_
 simp only[Nat.reduceSub,Nat.reducePow,go_sem]at hw
 simp only[A4,a30,OE,Sd,Pe,O7,hw,↓reduceIte,reduceCtorEq,Nat.reduceEqDiff,Nat.reduceAdd,Nat.reduceSub,Nat.reduceLeDiff,Nat.reducePow,go_sem]
 have e1:IntKind.i64.wrap (1440*r.days)=1440*r.days:=AU (by omega) (by omega)
 simp only[e1,Fy,AM,BZ]
 by_cases hh:FN x.fro x.heirs
 all_goals
  simp only[Do,Ga,Fv,hh,not_true_eq_false,not_false_eq_true,true_implies,false_implies,and_true,true_and,false_and,and_false,false_or]
  repeat'(first|(with_reducible apply And.intro)|intro _)
  all_goals(try simp(disch:=omega) only[AU]at*)
  all_goals first
   |exact(An fun k=>by omega).symm
   |exact Qq (by omega)
   |exact RJ (by omega)
noncomputable def C8(a b:De):Prop:=a.id=b.id/\a.day=b.day/\a.kind=b.kind/\a.fro=b.fro/\a.tow=b.tow/\a.turn=b.turn/\a.til=b.til/\a.heirs.1=b.heirs.1/\∀i,i<a.heirs.1->a.heirs.2 i=b.heirs.2 i
noncomputable def LH:At:=Cx Td Td (fun _ _=>True) fun a b=> .bool (Bb (C8 a b))
theorem VE:Ah Tryz.prog G 60 LH:=by
 refine Lm (S:=[]) (I:=[]) mixed .nil .nil Tryz.func60 c60 fun a b _ hw=> ?_
 simp only[Nat.reduceSub,Nat.reducePow,go_sem]at hw
 obtain⟨w1,w2⟩:=hw
 simp only[A4,a60,w1,w2,↓reduceIte,reduceCtorEq,Nat.reduceEqDiff,Nat.reduceAdd,Nat.reduceSub,Nat.reduceLeDiff,Nat.reducePow,go_sem]
 have nt:∀{x y:Tu},(x.fro==y.fro&&x.til==y.til)=true↔x=y:=fun{x y}=>by obtain⟨a1,a2⟩:=x;obtain⟨b1,b2⟩:=y;simp
 refine⟨fun h=>(An fun k=>h k.1).symm,fun k1=>⟨fun h=>(An fun k=>h k.2.1).symm,fun k2=>⟨fun h=>(An fun k=>h k.2.2.1).symm,fun k3=>⟨fun h=>(An fun k=>h k.2.2.2.1).symm,fun k4=>⟨fun h=>(An fun k=>h k.2.2.2.2.1).symm,fun k5=>⟨fun h=>(An fun k=>by rw[nt.2 k.2.2.2.2.2.1]at h;cases h).symm,fun k6=>⟨fun h=>(An fun k=>h k.2.2.2.2.2.2.1).symm,fun k7=>⟨fun h=>(An fun k=>h (by have:=k.2.2.2.2.2.2.2.1;omega)).symm,fun k8=> ?_⟩⟩⟩⟩⟩⟩⟩⟩
 refine AV (ι:=Nat) (fun j=>j<=a.heirs.1/\∀i,i<j->a.heirs.2 i=b.heirs.2 i) (fun j=>a.heirs.1-j) [2,3] (fun j=>[(5,.int .i64 j)]) (fun _=>[]) 0 ⟨by omega,fun i h=>by omega⟩ (by simp only[↓reduceIte,reduceCtorEq,Nat.reduceEqDiff,Nat.reduceLT,go_sem];try rfl) fun j hj=> ?_
 obtain⟨hj1,hj2⟩:=hj
 simp only[w1,↓reduceIte,reduceCtorEq,Nat.reduceEqDiff,Nat.reduceAdd,Nat.reduceSub,Nat.reducePow,go_sem]
 have he:∀{x y:Hr},(x.who==y.who&&x.parts==y.parts)=true↔x=y:=fun{x y}=>by obtain⟨a1,a2⟩:=x;obtain⟨b1,b2⟩:=y;simp
 refine⟨fun hlt=>⟨by omega,by omega,by omega,by omega,fun h1=>(An fun k=> ?_).symm,fun h1=>Af (j+1) ⟨by omega,fun i hi=> ?_⟩ (by omega) (by simp only[↓reduceIte,reduceCtorEq,Nat.reduceEqDiff,Nat.reduceLT,go_sem];rw[Cs (by omega)])⟩,fun hge=> ?_⟩
 ·rw[k.2.2.2.2.2.2.2.2 j (by omega)]at h1;simp at h1
 ·rcases Nat.lt_or_ge i j with h5|h5
  ·exact hj2 i h5
  obtain rfl:i=j:=by omega
  exact he.1 h1
 exact(As ⟨k1,k2,k3,k4,k5,nt.1 k6,k7,by omega,fun i hi=>hj2 i (by omega)⟩).symm
noncomputable def CU(r:Ro)(l:F0):Int:=if 60<l.1 then 4 else if Bb (∀i,i<l.1->Do r (l.2 i))=true then(if Bb (∀i,i<l.1->∀k,k<i->(l.2 i).id=(l.2 k).id->C8 (l.2 i) (l.2 k))=true then 0 else 42)else 41
noncomputable def I2:At:=Cx KI (DD GI) (fun r _=>1<=r.days/\r.days<=16) fun r l=> .int .i64 (CU r l)
theorem Xb:Ah Tryz.prog G 65 I2:=by
 refine Lm (S:=[(30,N2),(60,LH)]) (I:=[]) mixed (.cons Zh (.cons VE .nil)) .nil Tryz.func65 c65 fun r l hp hw=> ?_
 simp only[Nat.reduceSub,Nat.reducePow,go_sem]at hw
 obtain⟨w1,w2⟩:=hw
 simp only[A4,a65,N2,LH,w2,↓reduceIte,reduceCtorEq,Nat.reduceEqDiff,Nat.reduceAdd,Nat.reduceSub,Nat.reducePow,go_sem]
 have hE:¬60<l.1->CU r l=if Bb (∀i,i<l.1->Do r (l.2 i))=true then(if Bb (∀i,i<l.1->∀k,k<i->(l.2 i).id=(l.2 k).id->C8 (l.2 i) (l.2 k))=true then 0 else 42)else 41:=fun h=>if_neg h
 refine⟨fun h=>(if_pos (by omega)).symm,fun h=> ?_⟩
 rw[hE (by omega)]
 refine AV (ι:=Nat) (fun j=>j<=l.1/\∀i,i<j->Do r (l.2 i)) (fun j=>l.1-j) [1,2] (fun j=>[(5,.int .i64 j)]) (fun _=>[]) 0 ⟨by omega,fun i h=>by omega⟩ (by simp only[↓reduceIte,reduceCtorEq,Nat.reduceEqDiff,Nat.reduceLT,go_sem];try rfl) fun j hj=> ?_
 obtain⟨hj1,hj2⟩:=hj
 simp only[w2,↓reduceIte,reduceCtorEq,Nat.reduceEqDiff,Nat.reduceAdd,Nat.reduceSub,Nat.reducePow,go_sem,AM,BZ]
 have push:∀{Q:Nat->Prop} {j:Nat},(∀i,i<j->Q i)->Q j->∀i,i<j+1->Q i:=fun{Q j} h1 h2 i hi=>by
  rcases Nat.lt_or_ge i j with h5|h5
  ·exact h1 i h5
  obtain rfl:i=j:=by omega
  exact h2
 refine⟨fun hlt=>⟨by omega,by omega,hp.1,hp.2,fun h1=> ?_,fun h1=>Af (j+1) ⟨by omega,push hj2 h1⟩ (by omega) (by simp only[↓reduceIte,Nat.reduceEqDiff,Nat.reduceLT,go_sem];rw[Cs (by omega)])⟩,fun hge=> ?_⟩
 ·rw[An fun k=>h1 (k j (by omega))];rfl
 rw[As fun i hi=>hj2 i (by omega),if_pos rfl]
 refine AV (ι:=Nat) (fun j=>j<=l.1/\∀i,i<j->∀k,k<i->(l.2 i).id=(l.2 k).id->C8 (l.2 i) (l.2 k)) (fun j=>l.1-j) [1] (fun j=>[(6,.int .i64 j)]) (fun _=>[]) 0 ⟨by omega,fun i h=>by omega⟩ (by simp only[↓reduceIte,Nat.reduceEqDiff,Nat.reduceLT,go_sem];try rfl) fun j hj=> ?_
 obtain⟨hj3,hj4⟩:=hj
 simp only[w2,↓reduceIte,reduceCtorEq,Nat.reduceEqDiff,Nat.reduceSub,Nat.reducePow,go_sem]
 refine⟨fun hlt=> ?_,fun hge=> ?_⟩
 ·refine AV (ι:=Nat) (fun q=>q<=j/\∀k,k<q->(l.2 j).id=(l.2 k).id->C8 (l.2 j) (l.2 k)) (fun q=>j-q) [1,6] (fun q=>[(7,.int .i64 q)]) (fun _=>[]) 0 ⟨by omega,fun i h=>by omega⟩ (by simp only[↓reduceIte,Nat.reduceEqDiff,Nat.reduceLT,go_sem];try rfl) fun q hq=> ?_
  obtain⟨hq1,hq2⟩:=hq
  simp only[↓reduceIte,reduceCtorEq,Nat.reduceEqDiff,Nat.reduceAdd,Nat.reduceSub,Nat.reduceLeDiff,go_sem,AM,BZ]
  have no:j<l.1->q<j->(l.2 j).id=(l.2 q).id->¬C8 (l.2 j) (l.2 q)->42=if Bb (∀i,i<l.1->∀k,k<i->(l.2 i).id=(l.2 k).id->C8 (l.2 i) (l.2 k))=true then 0 else(42:Int):=fun h1 h2 h3 h4=>by rw[An fun k=>h4 (k j h1 q h2 h3)];rfl
  refine⟨fun h5=>⟨by omega,by omega,by omega,by omega,fun h6=>⟨by omega,by omega,by omega,by omega,fun h7=>no (by omega) (by omega) h6 h7,fun h7=>Af (q+1) ⟨by omega,push hq2 fun _=>h7⟩ (by omega) (by simp only[↓reduceIte,Nat.reduceEqDiff,Nat.reduceLT,go_sem];rw[Cs (by omega)])⟩,fun h6=>Af (q+1) ⟨by omega,push hq2 fun h=>absurd h h6⟩ (by omega) (by simp only[↓reduceIte,Nat.reduceEqDiff,Nat.reduceLT,go_sem];rw[Cs (by omega)])⟩,fun h5=> ?_⟩
  exact Af (j+1) ⟨by omega,push hj4 fun k hk=>hq2 k (by omega)⟩ (by omega) (by simp only[↓reduceIte,Nat.reduceEqDiff,Nat.reduceLT,go_sem];rw[Cs (by omega)])
 rw[As fun i hi=>hj4 i (by omega)];rfl
noncomputable def BP(r:Ro)(l:F0):Int:=if Bb (EI r)=true then CU r l else 40
end Go.Proofs.YtlieoghhkioflaaGreat
namespace Go.Proofs.YtlieoghhkioflaaGreat
open Go Go.RowKit
variable{G:Nat->Option (Nat×(Nat->Ad))}
theorem Ip(x:De):∀b,b<9->Az x.L b=x.c b:=fun b hb=>by
 rcases(by omega:b=0\/b=1\/b=2\/b=3\/b=4\/b=5\/b=6\/b=7\/b=8)with rfl|rfl|rfl|rfl|rfl|rfl|rfl|rfl|rfl<;>rfl
theorem BV(v:Ad):AC v v:=of_eq_true (Fx v)
def Bo(x y:De):Prop:=x.day<y.day\/x.day=y.day/\x.id<y.id
instance(x y:De):Decidable (Bo x y):=by unfold Bo;infer_instance
def de0:De:=⟨0,0,0,0,0,⟨0,0⟩,0,(0,fun _=>⟨0,0⟩)⟩
def GA(x:De):List De->List De
 |[]=>[x]
 |y::L=>if Bo x y then x::y::L else y::GA x L
def lD(L:List De)(i:Nat):De:=L.getD i de0
noncomputable def Iy(l:F0)(i:Nat):Bool:=Bb (∀k,k<i->(l.2 k).id≠(l.2 i).id)
noncomputable def Bq(l:F0):Nat->List De
 |0=>[]
 |i+1=>if Iy l i=true then GA (l.2 i) (Bq l i)else Bq l i
theorem MA(x:De):∀L,(GA x L).length=L.length+1
 |[]=>rfl
 |y::L=>by
  rw[GA];split
  ·simp
  simp[MA x L]
theorem K7(l:F0):∀i,(Bq l i).length<=i
 |0=>Nat.le_refl _
 |i+1=>by
  have:=K7 l i
  rw[Bq];split
  ·rw[MA];omega
  omega
theorem Jq(x:De):∀(L:List De) (y:De),y∈GA x L↔y=x\/y∈L
 |[],y=>by simp[GA]
 |z::L,y=>by
  rw[GA];split
  ·simp
  rw[List.mem_cons,Jq x L y,List.mem_cons];constructor<;>(rintro(h|h|h)<;>simp[h])
theorem J5{x y z:De}(h1:Bo x y)(h2:Bo y z):Bo x z:=by unfold Bo at*;omega
theorem RD{x y:De}(h:x.id≠y.id):Bo x y\/Bo y x:=by unfold Bo at*;omega
theorem IB(x:De):∀(L:List De),L.Pairwise Bo->(∀y∈L,y.id≠x.id)->(GA x L).Pairwise Bo
 |[],_,_=>by simp[GA]
 |z::L,h,hx=>by
  rw[List.pairwise_cons]at h
  rw[GA];split
  ·rename_i hb
   rw[List.pairwise_cons,List.pairwise_cons]
   exact⟨fun y hy=>by rcases List.mem_cons.1 hy with rfl|hy;exact hb;exact J5 hb (h.1 y hy),h⟩
  rename_i hb
  rw[List.pairwise_cons]
  refine⟨fun y hy=> ?_,IB x L h.2 fun y hy=>hx y (by simp[hy])⟩
  rcases(Jq x L y).1 hy with rfl|hy
  ·exact(RD (hx z (by simp))).resolve_right hb
  exact h.1 y hy
theorem Gi(l:F0):∀i (y:De),y∈Bq l i↔∃k,k<i/\Iy l k=true/\y=l.2 k
 |0,y=>by simp[Bq]
 |i+1,y=>by
  rw[Bq];split
  ·rename_i hn
   rw[Jq,Gi l i y]
   constructor
   ·rintro(rfl|⟨k,h1,h2,h3⟩)
    ·exact⟨i,by omega,hn,rfl⟩
    exact⟨k,by omega,h2,h3⟩
   rintro⟨k,h1,h2,rfl⟩
   by_cases e:k=i
   ·subst e;exact .inl rfl
   exact .inr ⟨k,by omega,h2,rfl⟩
  rename_i hn
  rw[Gi l i y]
  constructor
  ·rintro⟨k,h1,h2,h3⟩;exact⟨k,by omega,h2,h3⟩
  rintro⟨k,h1,h2,rfl⟩
  by_cases e:k=i
  ·subst e;exact absurd h2 hn
  exact⟨k,by omega,h2,rfl⟩
theorem D8(l:F0):∀i,(Bq l i).Pairwise Bo
 |0=>List.Pairwise.nil
 |i+1=>by
  rw[Bq];split
  ·rename_i hn
   refine IB _ _ (D8 l i) fun y hy=> ?_
   obtain⟨k,h1,_,rfl⟩:=(Gi l i y).1 hy
   exact AM.1 hn k h1
  exact D8 l i
end Go.Proofs.YtlieoghhkioflaaGreat
namespace Go.Proofs.YtlieoghhkioflaaGreat
open Go Go.RowKit
variable{G:Nat->Option (Nat×(Nat->Ad))}
def Zv(n:Int)(p:Nat×(Nat->Int)):Prop:=0<=n/\n<=23040/\1<=p.1/\p.1<=8/\∀i,i<p.1->1<=p.2 i/\p.2 i<=1000
theorem Zv.sum{n:Int}{p:Nat×(Nat->Int)}(h:Zv n p):∀k,k<=p.1->(k:Int)<=AP p.2 k/\AP p.2 k<=1000*k:=fun k hk=>by
 have h1:=G8 (fun _=>1) p.2 k fun i hi=>(h.2.2.2.2 i (by omega)).1
 have h2:=G8 p.2 (fun _=>1000) k fun i hi=>(h.2.2.2.2 i (by omega)).2
 rw[Fo]at h1 h2;omega
end Go.Proofs.YtlieoghhkioflaaGreat
namespace Go.Proofs.YtlieoghhkioflaaGreat
open Go Go.RowKit
variable{G:Nat->Option (Nat×(Nat->Ad))}
def UX(b:Bk)(n:Nat):Prop:=b.ow.1=n/\b.le.1=n/\b.un.1=n/\b.de.1=10000
def Ia(b:Bk)(x:De):Prop:=∀m:Nat,x.turn.fro<=m->(m:Int)<x.turn.til->b.ow.2 m=x.fro
def OS(b:Bk)(x:De):Prop:=∀m:Nat,x.turn.fro<=m->(m:Int)<x.turn.til->¬(b.le.2 m≠0/\x.day<b.un.2 m)
noncomputable def BA(b:Bk)(x:De):Int:=if(b.de.2 x.fro.toNat||b.de.2 x.tow.toNat)=true then 1 else if Bb (Ia b x)=true then(if x.kind=4 then(if Bb (OS b x)=true then 0 else 3)else 0)else 2
end Go.Proofs.YtlieoghhkioflaaGreat
namespace Go.Proofs.YtlieoghhkioflaaGreat
def Ca(r:Ro):Nat:=(1440*r.days).toNat
noncomputable def IN(r:Ro)(m:Nat):Int:=(r.holds.2 (Cn (fun i=>(m:Int)<(r.holds.2 i).turn.til) r.holds.1)).who
noncomputable def Wr(r:Ro):Bk:=⟨(Ca r,IN r),(Ca r,fun _=>0),(Ca r,fun _=>0),(10000,fun _=>false)⟩
def C2(de:Nat->Bool)(l:Nat×(Nat->Hr)):Nat->List Hr
 |0=>[]
 |k+1=>if de (l.2 k).who.toNat=true then C2 de l k else C2 de l k++[l.2 k]
def LF(b:Bk)(x:De):Nat->Bool:=fun i=>if i=x.fro.toNat then true else b.de.2 i
def B7(b:Bk)(x:De):List Hr:=if(C2 (LF b x) x.heirs x.heirs.1).length=0 then[⟨0,1⟩]else C2 (LF b x) x.heirs x.heirs.1
def hl(L:List Hr)(i:Nat):Hr:=L.getD i ⟨0,0⟩
def H4(b:Bk)(x:De)(m:Nat):Nat:=E3 (fun q=>decide (b.ow.2 q=x.fro)) m
def A5(b:Bk)(x:De)(i:Nat):Int:=FF (H4 b x b.ow.1) (fun i=>(hl (B7 b x) i).parts) (B7 b x).length i
noncomputable def EU(each:Nat->Int)(k:Nat)(c:Nat):Nat:=Cn (fun i=>(c:Int)<AP each (i+1)) k
noncomputable def P3(b:Bk)(x:De):Bk:=⟨(b.ow.1,fun m=>if b.ow.2 m=x.fro then(hl (B7 b x) (EU (A5 b x) (B7 b x).length (H4 b x m))).who else b.ow.2 m),(b.le.1,fun m=>if b.le.2 m=x.fro then 0 else b.le.2 m),b.un,(b.de.1,LF b x)⟩
def GD(x:De)(m:Nat):Prop:=x.turn.fro<=m/\(m:Int)<x.turn.til
instance(x:De)(m:Nat):Decidable (GD x m):=by unfold GD;infer_instance
noncomputable def PU(b:Bk)(x:De):Bk:=
 if x.kind=3 then P3 b x else if x.kind=1 then⟨(b.ow.1,fun m=>if GD x m then x.tow else b.ow.2 m),b.le,b.un,b.de⟩
 else if x.kind=2 then⟨(b.ow.1,fun m=>if GD x m then 0 else b.ow.2 m),b.le,b.un,b.de⟩
 else if x.kind=4 then⟨b.ow,(b.le.1,fun m=>if GD x m then x.tow else b.le.2 m),(b.un.1,fun m=>if GD x m then x.til else b.un.2 m),b.de⟩else b
noncomputable def Fc(b:Bk)(x:De):Bk:=if BA b x=0 then PU b x else b
noncomputable def AI(r:Ro)(l:Nat->De):Nat->Bk
 |0=>Wr r
 |k+1=>Fc (AI r l k) (l k)
noncomputable def Bc(l:F0)(day:Int):Nat:=Cn (fun i=>day<(l.2 i).day) l.1
theorem Tw(r:Ro)(i:Nat):Jv r (i+1)=(r.holds.2 i).turn.til:=by
 unfold Jv;rw[if_neg (by omega),Nat.add_sub_cancel]
theorem Ky{r:Ro}{n:Nat}(h:∀i,i<n->ZV r i):∀i,i<=n->∀j,j<i->(r.holds.2 j).turn.til<=Jv r i
 |0,_,j,hj=>by omega
 |i+1,hi,j,hj=>by
  have h1:=h i (by omega)
  rw[Tw]
  by_cases e:j=i
  ·subst e;exact Int.le_refl _
  have:=Ky h i (by omega) j (by omega)
  have h2:=h1.2.2.1;have h3:=h1.2.2.2.1
  omega
theorem Md{r:Ro}(hr:EI r){i m:Nat}(hi:i<r.holds.1)(h1:Jv r i<=m)(h2:(m:Int)<(r.holds.2 i).turn.til):IN r m=(r.holds.2 i).who:=by
 unfold IN
 rw[C5 hi h2 fun j hj h=>by have:=Ky hr.2.2.2.2.1 i (by omega) j hj;omega]
theorem W2(r:Ro):UX (Wr r) (Ca r):=⟨rfl,rfl,rfl,rfl⟩
theorem YZ{b:Bk}{n:Nat}(h:UX b n)(x:De):UX (PU b x) n:=by
 obtain⟨h1,h2,h3,h4⟩:=h
 unfold PU
 split
 ·exact⟨h1,h2,h3,h4⟩
 split
 ·exact⟨h1,h2,h3,h4⟩
 split
 ·exact⟨h1,h2,h3,h4⟩
 split
 ·exact⟨h1,h2,h3,h4⟩
 exact⟨h1,h2,h3,h4⟩
theorem Hy(r:Ro)(l:Nat->De):∀k,UX (AI r l k) (Ca r)
 |0=>W2 r
 |k+1=>by
  rw[AI,Fc];split
  ·exact YZ (Hy r l k) _
  exact Hy r l k
theorem LU(de:Nat->Bool)(l:Nat×(Nat->Hr)):∀k,(C2 de l k).length<=k
 |0=>Nat.le_refl _
 |k+1=>by
  have:=LU de l k
  rw[C2];split
  ·omega
  simp;omega
theorem Jc(de:Nat->Bool)(l:Nat×(Nat->Hr)):∀k,∀h∈C2 de l k,∃i,i<k/\h=l.2 i
 |0,h,hh=>by simp[C2]at hh
 |k+1,h,hh=>by
  rw[C2]at hh;split at hh
  ·obtain⟨i,h1,h2⟩:=Jc de l k h hh;exact⟨i,by omega,h2⟩
  rcases List.mem_append.1 hh with hh|hh
  ·obtain⟨i,h1,h2⟩:=Jc de l k h hh;exact⟨i,by omega,h2⟩
  exact⟨k,by omega,by simpa using hh⟩
theorem Ze{L:List Hr}{i:Nat}(h:i<L.length):hl L i∈L:=by
 unfold hl;rw[List.getD_eq_getElem?_getD,List.getElem?_eq_getElem h];exact List.getElem_mem h
theorem Tn{b:Bk}{x:De}(hh:FN x.fro x.heirs)(hf:1<=x.fro):1<=(B7 b x).length/\(B7 b x).length<=8/\∀i,i<(B7 b x).length->0<=(hl (B7 b x) i).who/\(hl (B7 b x) i).who<=9999/\(hl (B7 b x) i).who≠x.fro/\1<=(hl (B7 b x) i).parts/\(hl (B7 b x) i).parts<=1000:=by
 obtain⟨h1,h2,h3⟩:=hh
 have h4:=LU (LF b x) x.heirs x.heirs.1
 unfold B7
 split
 ·refine⟨Nat.le_refl _,by simp,fun i hi=> ?_⟩
  obtain rfl:i=0:=by simpa using hi
  refine⟨by decide,by decide,?_,by decide,by decide⟩
  show(0:Int)≠x.fro
  omega
 refine⟨by omega,by omega,fun i hi=> ?_⟩
 obtain⟨q,q1,q2⟩:=Jc _ _ _ _ (Ze hi)
 obtain⟨g1,g2,g3,g4,g5,_⟩:=h3 q q1
 rw[q2]
 exact⟨by omega,g2,g3,g4,g5⟩
end Go.Proofs.YtlieoghhkioflaaGreat
namespace Go.Proofs.YtlieoghhkioflaaGreat
open Go Go.RowKit
variable{b:Bk}{N i:Nat}
abbrev Pz:=Nat×(Nat->Pi)
structure BF(N:Nat)(P:Pz):Prop where
 pos:1<=P.1
 beg:(P.2 0).turn.fro=0
 lt:∀i,i<P.1->(P.2 i).turn.fro<(P.2 i).turn.til
 nxt:∀i,i+1<P.1->(P.2 (i+1)).turn.fro=(P.2 i).turn.til
 fin:(P.2 (P.1-1)).turn.til=N
theorem BF.step{P:Pz}(h:BF N P)(i:Nat):∀d,i+d+1<P.1->(P.2 i).turn.til+d<=(P.2 (i+d+1)).turn.fro
 |0,hd=>by
  have:=h.nxt i hd
  show(P.2 i).turn.til+((0:Nat):Int)<=(P.2 (i+1)).turn.fro
  omega
 |d+1,hd=>by
  have h1:=h.step i d (by omega)
  have h2:=h.lt (i+d+1) (by omega)
  have h3:=h.nxt (i+d+1) (by omega)
  rw[show i+(d+1)+1=i+d+1+1 by omega,h3]
  omega
theorem BF.mono{P:Pz}(h:BF N P){j:Nat}(hij:i<j)(hj:j<P.1):(P.2 i).turn.til<=(P.2 j).turn.fro:=by
 obtain⟨d,rfl⟩:∃d,j=i+d+1:=⟨j-i-1,by omega⟩
 have:=h.step i d hj
 omega
theorem BF.rng{P:Pz}(h:BF N P)(hi:i<P.1):0<=(P.2 i).turn.fro/\(P.2 i).turn.til<=N:=by
 constructor
 ·rcases Nat.eq_zero_or_pos i with h0|h0
  ·subst h0;rw[h.beg];exact Int.le_refl 0
  have h1:=h.mono h0 hi
  have h2:=h.lt 0 (by omega)
  rw[h.beg]at h2
  omega
 by_cases e:i=P.1-1
 ·rw[e,h.fin];exact Int.le_refl _
 have h1:=h.mono (show i<P.1-1 by omega) (by omega)
 have h2:=h.lt (P.1-1) (by omega)
 have h3:=h.fin
 omega
theorem BF.len{P:Pz}(h:BF N P):P.1<=N:=by
 have h2:=h.lt 0 h.pos
 rw[h.beg]at h2
 by_cases e:P.1=1
 ·have:=(h.rng h.pos).2;have:=h.pos;omega
 have h1:=h.step 0 (P.1-2) (by have:=h.pos;omega)
 rw[show 0+(P.1-2)+1=P.1-1 by have:=h.pos;omega]at h1
 have h3:=h.lt (P.1-1) (by have:=h.pos;omega)
 have h4:=h.fin
 omega
theorem BF.at{P:Pz}(h:BF N P){m:Int}(h0:0<=m)(h1:m<N):∃i,i<P.1/\(P.2 i).turn.fro<=m/\m<(P.2 i).turn.til:=by
 rcases Bl (fun i=>m<(P.2 i).turn.til) P.1 with⟨a,b,c⟩|⟨_,c⟩
 ·refine⟨_,a,?_,b⟩
  generalize Cn (fun i=>m<(P.2 i).turn.til) P.1=i at*
  cases i with
  |zero=>rw[h.beg];exact h0
  |succ i=>rw[h.nxt i a];have:=c i (by omega);omega
 exact absurd (by rw[h.fin];exact h1) (c (P.1-1) (by have:=h.pos;omega))
theorem BF.one{P:Pz}(h:BF N P){m:Int}{j:Nat}(hi:i<P.1)(hj:j<P.1)(i1:(P.2 i).turn.fro<=m)(i2:m<(P.2 i).turn.til)(j1:(P.2 j).turn.fro<=m)(j2:m<(P.2 j).turn.til):i=j:=by
 rcases Nat.lt_trichotomy i j with e|e|e
 ·have:=h.mono e hj;omega
 ·exact e
 have:=h.mono e hi;omega
structure Rp(P:Pz)(b:Bk):Prop where
 ow:∀i,i<P.1->∀m:Nat,(P.2 i).turn.fro<=m->(m:Int)<(P.2 i).turn.til->b.ow.2 m=(P.2 i).owner
 le:∀i,i<P.1->∀m:Nat,(P.2 i).turn.fro<=m->(m:Int)<(P.2 i).turn.til->b.le.2 m=(P.2 i).lent
 un:∀i,i<P.1->∀m:Nat,(P.2 i).turn.fro<=m->(m:Int)<(P.2 i).turn.til->(P.2 i).lent≠0->b.un.2 m=(P.2 i).til
def Dz(p:Nat->Pi)(i:Nat)(c:Int)(k:Nat):Pi:=if k<i then p k else if k=i then{p i with turn:=⟨(p i).turn.fro,c⟩}else if k=i+1 then{p i with turn:=⟨c,(p i).turn.til⟩}else p (k-1)
def Lg(P:Pz)(c:Int)(i:Nat):Prop:=(P.2 i).turn.fro<c/\c<(P.2 i).turn.til
noncomputable def CQ(P:Pz)(c:Int):Pz:=if Cn (Lg P c) P.1<P.1 then(P.1+1,Dz P.2 (Cn (Lg P c) P.1) c)else P
theorem HX{P:Pz}(h:BF N P)(c:Int):BF N (CQ P c):=by
 unfold CQ
 split
 ·rename_i hi
  have hc:Lg P c (Cn (Lg P c) P.1):=by
   rcases Bl (Lg P c) P.1 with⟨_,b,_⟩|⟨a,_⟩
   ·exact b
   omega
  generalize Cn (Lg P c) P.1=i at*
  obtain⟨c1,c2⟩:=hc
  refine⟨by show 1<=P.1+1;omega,?_,fun k hk=> ?_,fun k hk=> ?_,?_⟩
  ·show(Dz P.2 i c 0).turn.fro=0
   unfold Dz
   rcases Nat.eq_zero_or_pos i with e|e
   ·subst e;rw[if_neg (by omega),if_pos rfl];exact h.beg
   rw[if_pos e];exact h.beg
  ·have hk:k<P.1+1:=hk
   show(Dz P.2 i c k).turn.fro<(Dz P.2 i c k).turn.til
   unfold Dz
   split
   ·exact h.lt k (by omega)
   split
   ·exact c1
   split
   ·exact c2
   exact h.lt (k-1) (by omega)
  ·have hk:k+1<P.1+1:=hk
   show(Dz P.2 i c (k+1)).turn.fro=(Dz P.2 i c k).turn.til
   unfold Dz
   by_cases e1:k+1<i
   ·rw[if_pos e1,if_pos (show k<i by omega)];exact h.nxt k (by omega)
   by_cases e2:k+1=i
   ·rw[if_neg e1,if_pos e2,if_pos (show k<i by omega),<-e2];exact h.nxt k (by omega)
   by_cases e3:k=i
   ·rw[if_neg e1,if_neg e2,if_pos (by omega),if_neg (show¬k<i by omega),if_pos e3]
   by_cases e4:k=i+1
   ·rw[if_neg e1,if_neg e2,if_neg (show¬k+1=i+1 by omega),if_neg (show¬k<i by omega),if_neg e3,if_pos e4,e4]
    exact h.nxt i (by omega)
   rw[if_neg e1,if_neg e2,if_neg (show¬k+1=i+1 by omega),if_neg (show¬k<i by omega),if_neg e3,if_neg e4]
   have:=h.nxt (k-1) (by omega)
   rw[show k-1+1=k by omega]at this
   rw[Nat.add_sub_cancel]
   exact this
  show(Dz P.2 i c (P.1+1-1)).turn.til=N
  rw[Nat.add_sub_cancel]
  unfold Dz
  rw[if_neg (by omega),if_neg (by omega)]
  by_cases e:P.1=i+1
  ·rw[if_pos e,show i=P.1-1 by omega];exact h.fin
  rw[if_neg e];exact h.fin
 exact h
theorem UD(P:Pz)(c:Int):∀k,k<(CQ P c).1->∃i,i<P.1/\(P.2 i).turn.fro<=((CQ P c).2 k).turn.fro/\((CQ P c).2 k).turn.til<=(P.2 i).turn.til/\((CQ P c).2 k).owner=(P.2 i).owner/\((CQ P c).2 k).lent=(P.2 i).lent/\((CQ P c).2 k).til=(P.2 i).til:=by
 intro k
 unfold CQ
 split
 ·rename_i hi
  have hc:Lg P c (Cn (Lg P c) P.1):=by
   rcases Bl (Lg P c) P.1 with⟨_,b,_⟩|⟨a,_⟩
   ·exact b
   omega
  generalize Cn (Lg P c) P.1=i at*
  obtain⟨c1,c2⟩:=hc
  intro hk
  have hk:k<P.1+1:=hk
  show∃j,j<P.1/\(P.2 j).turn.fro<=(Dz P.2 i c k).turn.fro/\(Dz P.2 i c k).turn.til<=(P.2 j).turn.til/\(Dz P.2 i c k).owner=(P.2 j).owner/\(Dz P.2 i c k).lent=(P.2 j).lent/\(Dz P.2 i c k).til=(P.2 j).til
  unfold Dz
  split
  ·exact⟨k,by omega,Int.le_refl _,Int.le_refl _,rfl,rfl,rfl⟩
  split
  ·exact⟨i,hi,Int.le_refl _,by show c<=_;omega,rfl,rfl,rfl⟩
  split
  ·exact⟨i,hi,by show _<=c;omega,Int.le_refl _,rfl,rfl,rfl⟩
  exact⟨k-1,by omega,Int.le_refl _,Int.le_refl _,rfl,rfl,rfl⟩
 intro hk
 exact⟨k,hk,Int.le_refl _,Int.le_refl _,rfl,rfl,rfl⟩
theorem J8{P:Pz}(h:Rp P b)(c:Int):Rp (CQ P c) b:=by
 refine⟨fun k hk m h1 h2=> ?_,fun k hk m h1 h2=> ?_,fun k hk m h1 h2 h3=> ?_⟩
 all_goals
  obtain⟨i,hi,p1,p2,p3,p4,p5⟩:=UD P c k hk
 ·rw[p3];exact h.ow i hi m (by omega) (by omega)
 ·rw[p4];exact h.le i hi m (by omega) (by omega)
 rw[p5];exact h.un i hi m (by omega) (by omega) (by rw[<-p4];exact h3)
theorem PI{P:Pz}{a:Int}(c:Int)(h:∃i,i<P.1/\(P.2 i).turn.fro=a):∃i,i<(CQ P c).1/\((CQ P c).2 i).turn.fro=a:=by
 obtain⟨j,hj,hp⟩:=h
 unfold CQ
 split
 ·rename_i hi
  generalize Cn (Lg P c) P.1=i at*
  by_cases e:j<=i
  ·refine⟨j,by show j<P.1+1;omega,?_⟩
   show(Dz P.2 i c j).turn.fro=a
   unfold Dz
   by_cases e1:j<i
   ·rw[if_pos e1];exact hp
   rw[if_neg e1,if_pos (by omega),<-hp,show i=j by omega]
  refine⟨j+1,by show j+1<P.1+1;omega,?_⟩
  show(Dz P.2 i c (j+1)).turn.fro=a
  unfold Dz
  rw[if_neg (by omega),if_neg (by omega),if_neg (by omega),Nat.add_sub_cancel];exact hp
 exact⟨j,hj,hp⟩
theorem T4{P:Pz}(h:BF N P){c:Int}(h0:0<=c)(h1:c<N):∃i,i<(CQ P c).1/\((CQ P c).2 i).turn.fro=c:=by
 rcases Bl (Lg P c) P.1 with⟨a,b,_⟩|⟨a,b⟩
 ·unfold CQ
  rw[if_pos a]
  generalize Cn (Lg P c) P.1=i at*
  refine⟨i+1,by show i+1<P.1+1;omega,?_⟩
  show(Dz P.2 i c (i+1)).turn.fro=c
  unfold Dz
  rw[if_neg (by omega),if_neg (by omega),if_pos rfl]
 obtain⟨i,i1,i2,i3⟩:=h.at h0 h1
 refine PI c ⟨i,i1,?_⟩
 have:=b i i1
 unfold Lg at this
 omega
theorem Y7{P:Pz}(h:BF N P){c:Int}(h0:0<c)(h1:c<=N):∃i,i<(CQ P c).1/\((CQ P c).2 i).turn.til=c:=by
 have hk:=HX h c
 by_cases e:c=N
 ·exact⟨(CQ P c).1-1,by have:=hk.pos;omega,by rw[hk.fin,e]⟩
 obtain⟨i,i1,i2⟩:=T4 h (show 0<=c by omega) (show c<N by omega)
 have i0:0<i:=by
  rcases Nat.eq_zero_or_pos i with z|z
  ·subst z;have:=hk.beg;omega
  exact z
 have:=hk.nxt (i-1) (by omega)
 rw[show i-1+1=i by omega]at this
 exact⟨i-1,by omega,by omega⟩
noncomputable def Ck(P:Pz)(t:Tu):Pz:=CQ (CQ P t.fro) t.til
noncomputable def Cm(P:Pz)(t:Tu):Nat:=Cn (fun i=>(P.2 i).turn.fro=t.fro) P.1
noncomputable def CR(P:Pz)(t:Tu):Nat:=Cn (fun i=>(P.2 i).turn.til=t.til) P.1
structure OW(N:Nat)(P:Pz)(t:Tu):Prop where
 ok:BF N P
 f:Cm P t<P.1
 l:CR P t<P.1
 ff:(P.2 (Cm P t)).turn.fro=t.fro
 ll:(P.2 (CR P t)).turn.til=t.til
 fl:Cm P t<=CR P t
theorem Ld{P:Pz}(h:BF N P){t:Tu}(h0:0<=t.fro)(h1:t.fro<t.til)(h2:t.til<=N):OW N (Ck P t) t:=by
 have k1:=HX h t.fro
 have k2:BF N (Ck P t):=HX k1 t.til
 have a:∃i,i<(Ck P t).1/\((Ck P t).2 i).turn.fro=t.fro:=PI t.til (T4 h h0 (by omega))
 have b:∃i,i<(Ck P t).1/\((Ck P t).2 i).turn.til=t.til:=Y7 k1 (by omega) h2
 have a':Cm (Ck P t) t<(Ck P t).1/\((Ck P t).2 (Cm (Ck P t) t)).turn.fro=t.fro:=by
  rcases Bl (fun i=>((Ck P t).2 i).turn.fro=t.fro) (Ck P t).1 with⟨x,y,_⟩|⟨_,z⟩
  ·exact⟨x,y⟩
  obtain⟨i,i1,i2⟩:=a;exact absurd i2 (z i i1)
 have b':CR (Ck P t) t<(Ck P t).1/\((Ck P t).2 (CR (Ck P t) t)).turn.til=t.til:=by
  rcases Bl (fun i=>((Ck P t).2 i).turn.til=t.til) (Ck P t).1 with⟨x,y,_⟩|⟨_,z⟩
  ·exact⟨x,y⟩
  obtain⟨i,i1,i2⟩:=b;exact absurd i2 (z i i1)
 refine⟨k2,a'.1,b'.1,a'.2,b'.2,?_⟩
 apply Classical.byContradiction
 intro hn
 have:=k2.mono (show CR (Ck P t) t<Cm (Ck P t) t by omega) a'.1
 omega
theorem OW.mem{P:Pz}{t:Tu}(h:OW N P t)(hi:i<P.1){m:Nat}(m1:(P.2 i).turn.fro<=m)(m2:(m:Int)<(P.2 i).turn.til):(t.fro<=m/\(m:Int)<t.til)↔(Cm P t<=i/\i<=CR P t):=by
 constructor
 ·rintro⟨a,b⟩
  constructor
  ·apply Classical.byContradiction
   intro hn
   have:=h.ok.mono (show i<Cm P t by omega) h.f
   have:=h.ff
   omega
  apply Classical.byContradiction
  intro hn
  have:=h.ok.mono (show CR P t<i by omega) hi
  have:=h.ll
  omega
 rintro⟨a,b⟩
 constructor
 ·by_cases e:i=Cm P t
  ·rw[<-h.ff,<-e];exact m1
  have:=h.ok.mono (show Cm P t<i by omega) hi
  have:=h.ff
  have:=h.ok.lt _ h.f
  omega
 by_cases e:i=CR P t
 ·rw[<-h.ll,<-e];exact m2
 have:=h.ok.mono (show i<CR P t by omega) h.l
 have:=h.ll
 have:=h.ok.lt _ h.l
 omega
theorem Zb{P:Pz}{x:De}(h:OW N P x.turn)(hr:Rp P b)(h0:0<=x.turn.fro):Ia b x↔∀i,Cm P x.turn<=i->i<=CR P x.turn->(P.2 i).owner=x.fro:=by
 constructor
 ·intro hh i i1 i2
  have hi:i<P.1:=by have:=h.l;omega
  have hl:=h.ok.lt i hi
  have h3:=(h.ok.rng hi).1
  have hm:(((P.2 i).turn.fro.toNat:Nat):Int)=(P.2 i).turn.fro:=Int.toNat_of_nonneg h3
  obtain⟨q1,q2⟩:=(h.mem hi (m:=(P.2 i).turn.fro.toNat) (by omega) (by omega)).2 ⟨i1,i2⟩
  rw[<-hr.ow i hi (P.2 i).turn.fro.toNat (by omega) (by omega)]
  exact hh _ q1 q2
 intro hh m m1 m2
 obtain⟨i,i1,i2,i3⟩:=h.ok.at (m:=m) (by omega) (by have:=(h.ok.rng h.l).2;have:=h.ll;omega)
 obtain⟨q1,q2⟩:=(h.mem i1 i2 i3).1 ⟨m1,m2⟩
 rw[hr.ow i i1 m i2 i3]
 exact hh i q1 q2
theorem X6{P:Pz}{x:De}(h:OW N P x.turn)(hr:Rp P b)(h0:0<=x.turn.fro):OS b x↔∀i,Cm P x.turn<=i->i<=CR P x.turn->¬((P.2 i).lent≠0/\x.day<(P.2 i).til):=by
 constructor
 ·intro hh i i1 i2
  have hi:i<P.1:=by have:=h.l;omega
  have hl:=h.ok.lt i hi
  have h3:=(h.ok.rng hi).1
  have hm:(((P.2 i).turn.fro.toNat:Nat):Int)=(P.2 i).turn.fro:=Int.toNat_of_nonneg h3
  obtain⟨q1,q2⟩:=(h.mem hi (m:=(P.2 i).turn.fro.toNat) (by omega) (by omega)).2 ⟨i1,i2⟩
  rintro⟨a,c⟩
  refine hh _ q1 q2 ⟨?_,?_⟩
  ·rw[hr.le i hi _ (by omega) (by omega)];exact a
  rw[hr.un i hi _ (by omega) (by omega) a];exact c
 intro hh m m1 m2
 obtain⟨i,i1,i2,i3⟩:=h.ok.at (m:=m) (by omega) (by have:=(h.ok.rng h.l).2;have:=h.ll;omega)
 obtain⟨q1,q2⟩:=(h.mem i1 i2 i3).1 ⟨m1,m2⟩
 rintro⟨a,c⟩
 rw[hr.le i i1 m i2 i3]at a
 rw[hr.un i i1 m i2 i3 a]at c
 exact hh i q1 q2 ⟨a,c⟩
end Go.Proofs.YtlieoghhkioflaaGreat
