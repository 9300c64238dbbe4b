/- Deeds: lists of deeds that are done; later deeds, and void ones, change nothing, plain. No condition. -/
import Derived.Test.YtlieoghhkioflaaGreatDPvP
import Derived.Test.YtlieoghhkioflaaGreatACodeL7
set_option linter.unusedSimpArgs false
set_option linter.unusedVariables false
set_option maxRecDepth 100000
namespace Go.Proofs.YtlieoghhkioflaaGreat
variable{Y l:F0}{d:Int}{k:Nat}{r:Ro}
theorem Lf{x:De}:∀{L:List De},(∀y∈L,¬Bo x y)->GA x L=L++[x]
 |[],_=>rfl
 |y::L,h=>by
  rw[GA,if_neg (h y (by simp)),Lf fun z hz=>h z (by simp[hz])];rfl
structure Pj(r:Ro)(Y:F0):Prop where
 n:Y.1<=60
 ok:∀i,i<Y.1->Do r (Y.2 i)
 ids:∀i k,i<k->k<Y.1->(Y.2 i).id≠(Y.2 k).id
 asc:∀i k,i<k->k<Y.1->Bo (Y.2 i) (Y.2 k)
theorem Pj.ask(hr:EI r)(h:Pj r Y):BP r Y=0:=by
 have h2:Bb (∀i,i<Y.1->∀k,k<i->(Y.2 i).id=(Y.2 k).id->C8 (Y.2 i) (Y.2 k))=true:=As fun i hi k hk he=>absurd he.symm (h.ids k i hk hi)
 have h3:¬60<Y.1:=by have:=h.n;omega
 rw[BP,As hr,if_pos rfl,CU,if_neg h3,As h.ok,if_pos rfl,h2,if_pos rfl]
theorem Pj.done(h:Pj r Y):∀k,k<=Y.1->Bq Y k=(List.range k).map Y.2
 |0,_=>rfl
 |k+1,hk=>by
  have h1:Iy Y k=true:=As fun j hj=>h.ids j k hj (by omega)
  rw[Bq,h1,if_pos rfl,Pj.done h k (by omega),Lf fun y hy=> ?_,List.range_succ,List.map_append]
  ·rfl
  obtain⟨j,hj,rfl⟩:=List.mem_map.1 hy
  have hj:=List.mem_range.1 hj
  have:=h.asc j k hj (by omega)
  unfold Bo at this⊢
  omega
theorem Pj.dn(h:Pj r Y):(Bg Y).1=Y.1/\∀i,i<Y.1->(Bg Y).2 i=Y.2 i:=by
 unfold Bg
 rw[h.done Y.1 (Nat.le_refl _)]
 refine⟨by simp,fun i hi=> ?_⟩
 show(List.getD _ i de0)=_
 rw[List.getD_eq_getElem?_getD,List.getElem?_map,List.getElem?_range hi];rfl
theorem SP{L:List De}{i:Nat}(h:i<L.length):lD L i=L[i]:=by
 unfold lD;rw[List.getD_eq_getElem?_getD,List.getElem?_eq_getElem h];rfl
theorem On(ha:BP r l=0):Pj r (Bg l):=by
 have hs:=D8 l l.1
 have has:∀i k,i<k->k<(Bg l).1->Bo ((Bg l).2 i) ((Bg l).2 k):=fun i k hik hk=>by
  have hk:k<(Bq l l.1).length:=hk
  show Bo (lD (Bq l l.1) i) (lD (Bq l l.1) k)
  rw[SP hk,SP (show i<(Bq l l.1).length by omega)]
  exact List.pairwise_iff_getElem.1 hs i k (by omega) hk hik
 refine⟨by have:=Kj l;have:=(C4 ha).2.1;omega,Abt ha,fun i k hik hk he=> ?_,has⟩
 obtain⟨a,a1,a2,a3⟩:=Fu l i (by omega)
 obtain⟨b,b1,b2,b3⟩:=Fu l k hk
 have hb:=has i k hik hk
 rw[a3,b3]at he hb
 rcases Nat.lt_trichotomy a b with q|q|q
 ·exact(AM.1 b2) a q he
 ·subst q;unfold Bo at hb;omega
 exact(AM.1 a2) b q he.symm
theorem P8{f g:Nat->De}:∀k,(∀i,i<k->f i=g i)->AI r f k=AI r g k
 |0,_=>rfl
 |k+1,h=>by rw[AI,AI,P8 k fun i hi=>h i (by omega),h k (by omega)]
theorem VL(hk:k<=Y.1)(h1:∀i,i<k->(Y.2 i).day<=d)(h2:k<Y.1->d<(Y.2 k).day):Bc Y d=k:=by
 unfold Bc
 by_cases e:k=Y.1
 ·rw[e]
  exact Hi fun j hj=>by have:=h1 j (by omega);omega
 exact C5 (by omega) (h2 (by omega)) fun j hj=>by have:=h1 j hj;omega
theorem LS(Y:F0)(d:Int):(∀i,i<Bc Y d->(Y.2 i).day<=d)/\(Bc Y d<Y.1->d<(Y.2 (Bc Y d)).day):=by
 rcases Bl (fun i=>d<(Y.2 i).day) Y.1 with⟨g1,g2,g3⟩|⟨g1,g2⟩
 ·exact⟨fun i hi=>by have:=g3 i hi;omega,fun _=>g2⟩
 have g1:Bc Y d=Y.1:=g1
 exact⟨fun i hi=>by have:=g2 i (by omega);omega,fun h=>by omega⟩
theorem Pj.day(h:Pj r Y){j:Nat}(hj:j<Y.1):(Y.2 j).day<=d↔j<Bc Y d:=by
 obtain⟨h1,h2⟩:=LS Y d
 constructor
 ·intro q
  rcases Nat.lt_or_ge j (Bc Y d)with g|g
  ·exact g
  have h3:=h2 (by omega)
  by_cases e:j=Bc Y d
  ·rw[e]at q;omega
  have:=h.asc (Bc Y d) j (by omega) hj
  unfold Bo at this;omega
 exact h1 j
theorem Pj.bk(h:Pj r Y){e:Nat}(he:e<=Y.1)(h1:∀i,i<e->(Y.2 i).day<=d)(h2:e<Y.1->d<(Y.2 e).day):H9 r Y d=AI r Y.2 e:=by
 obtain⟨g1,g2⟩:=h.dn
 have hu:Bc (Bg Y) d=e:=VL (by omega) (fun i hi=>by rw[g2 i (by omega)];exact h1 i hi) fun q=>by rw[g2 e (by omega)];exact h2 (by omega)
 unfold H9
 rw[hu]
 exact P8 e fun i hi=>g2 i (by omega)
theorem Yb(ha:BP r l=0)(d:Int):BP r (Bc (Bg l) d,(Bg l).2)=0/\H9 r (Bc (Bg l) d,(Bg l).2) d=H9 r l d:=by
 have h:=On ha
 have hu:=Lu (Bg l) d
 have hf:Pj r (Bc (Bg l) d,(Bg l).2):=⟨by have:=h.n;show Bc (Bg l) d<=60;omega,fun i hi=>h.ok i (by have hi:i<Bc (Bg l) d:=hi;omega),fun i k hik hk=>h.ids i k hik (by have hk:k<Bc (Bg l) d:=hk;omega),fun i k hik hk=>h.asc i k hik (by have hk:k<Bc (Bg l) d:=hk;omega)⟩
 exact⟨hf.ask (C4 ha).1,hf.bk (Nat.le_refl _) (LS (Bg l) d).1 fun q=>absurd q (Nat.lt_irrefl _)⟩
def EJ(v:Bool)(k j:Nat):Nat:=if v=true/\k<j then j-1 else j
def Hk(v:Bool)(X:Nat->De)(k:Nat)(a:Nat):De:=if v=true/\k<=a then X (a+1)else X a
theorem TA{X:Nat->De}{v:Bool}(hv:v=true->BA (AI r X k) (X k)≠0):∀j,AI r (Hk v X k) (EJ v k j)=AI r X j
 |0=>by unfold EJ;rw[if_neg (by omega)];rfl
 |j+1=>by
  have ih:=TA hv j
  unfold EJ at ih⊢
  by_cases c:v=true
  ·by_cases e:k<j
   ·rw[if_pos ⟨c,e⟩]at ih
    rw[if_pos ⟨c,by omega⟩]
    have e1:Hk v X k (j-1)=X j:=by unfold Hk;rw[if_pos ⟨c,by omega⟩];congr 1;omega
    rw[show j+1-1=(j-1)+1 by omega,AI,ih,e1];rfl
   rw[if_neg (fun h=>e h.2)]at ih
   by_cases e2:k=j
   ·subst e2
    rw[if_pos ⟨c,by omega⟩,Nat.add_sub_cancel,ih,AI,Fc,if_neg (hv c)]
   rw[if_neg (fun h=>by omega)]
   have e1:Hk v X k j=X j:=by unfold Hk;rw[if_neg (fun h=>by omega)]
   rw[AI,ih,e1];rfl
  rw[if_neg (fun h=>c h.1)]at ih⊢
  have e1:Hk v X k j=X j:=by unfold Hk;rw[if_neg (fun h=>c h.1)]
  rw[AI,ih,e1];rfl
theorem AaD(ha:BP r l=0)(d:Int){v:Bool}(hk:v=true->k<(Bg l).1)(hv:v=true->BA (AI r (Bg l).2 k) ((Bg l).2 k)≠0):BP r (EJ v k (Bg l).1,Hk v (Bg l).2 k)=0/\H9 r (EJ v k (Bg l).1,Hk v (Bg l).2 k) d=H9 r l d:=by
 have h:=On ha
 have hu:=Lu (Bg l) d
 obtain⟨u1,u2⟩:=LS (Bg l) d
 have hpl:∀a,a<EJ v k (Bg l).1->∃q,q<(Bg l).1/\Hk v (Bg l).2 k a=(Bg l).2 q/\(q=a\/q=a+1)/\(q=a+1↔v=true/\k<=a):=fun a hq=>by
  unfold EJ at hq;unfold Hk
  by_cases c:v=true/\k<=a
  ·rw[if_pos c]
   have:=hk c.1
   rw[if_pos ⟨c.1,this⟩]at hq
   exact⟨a+1,by omega,rfl,.inr rfl,iff_of_true rfl c⟩
  rw[if_neg c]
  refine⟨a,?_,rfl,.inl rfl,iff_of_false (by omega) c⟩
  split at hq<;>omega
 have hmo:∀i j,i<j->j<EJ v k (Bg l).1->∃a b,a<b/\b<(Bg l).1/\Hk v (Bg l).2 k i=(Bg l).2 a/\Hk v (Bg l).2 k j=(Bg l).2 b:=fun i j hij hj=>by
  obtain⟨a,a1,a2,a3,a4⟩:=hpl i (by omega)
  obtain⟨b,b1,b2,b3,b4⟩:=hpl j hj
  refine⟨a,b,?_,b1,a2,b2⟩
  rcases a3 with rfl|rfl
  ·rcases b3 with rfl|rfl<;>omega
  have:=a4.1 rfl
  have:=b4.2 ⟨this.1,by omega⟩
  omega
 have hn:=h.n
 have hnn:EJ v k (Bg l).1<=(Bg l).1:=by unfold EJ;split<;>omega
 have hf:Pj r (EJ v k (Bg l).1,Hk v (Bg l).2 k):=⟨by show EJ v k (Bg l).1<=60;omega,fun i hi=>by
  obtain⟨a,a1,a2,_⟩:=hpl i hi
  show Do r (Hk v (Bg l).2 k i)
  rw[a2];exact h.ok a a1,fun i j hij hj=>by
  obtain⟨a,b,q1,q2,q3,q4⟩:=hmo i j hij hj
  show(Hk v (Bg l).2 k i).id≠(Hk v (Bg l).2 k j).id
  rw[q3,q4];exact h.ids a b q1 q2,fun i j hij hj=>by
  obtain⟨a,b,q1,q2,q3,q4⟩:=hmo i j hij hj
  show Bo (Hk v (Bg l).2 k i) (Hk v (Bg l).2 k j)
  rw[q3,q4];exact h.asc a b q1 q2⟩
 refine⟨hf.ask (C4 ha).1,?_⟩
 have hrun:=TA (r:=r) (X:=(Bg l).2) (k:=k) (v:=v) hv (Bc (Bg l) d)
 refine(hf.bk (e:=EJ v k (Bc (Bg l) d)) ?_ (fun i hi=> ?_) fun q=> ?_).trans hrun
 ·show EJ v k (Bc (Bg l) d)<=EJ v k (Bg l).1
  unfold EJ
  by_cases c:v=true
  ·have:=hk c
   rw[if_pos (show v=true/\k<(Bg l).1 from⟨c,this⟩)]
   by_cases g:k<Bc (Bg l) d
   ·rw[if_pos ⟨c,g⟩];omega
   rw[if_neg (fun h=>g h.2)];omega
  rw[if_neg (fun h=>c h.1),if_neg (fun h=>c h.1)];exact hu
 ·show(Hk v (Bg l).2 k i).day<=d
  unfold EJ at hi;unfold Hk
  by_cases c:v=true/\k<=i
  ·rw[if_pos c]
   refine u1 (i+1) ?_
   split at hi
   ·omega
   rename_i hh;exact absurd ⟨c.1,by omega⟩ hh
  rw[if_neg c]
  refine u1 i ?_
  split at hi<;>omega
 have q:EJ v k (Bc (Bg l) d)<EJ v k (Bg l).1:=q
 show d<(Hk v (Bg l).2 k (EJ v k (Bc (Bg l) d))).day
 have hlt:Bc (Bg l) d<(Bg l).1:=by
  rcases Nat.lt_or_ge (Bc (Bg l) d) (Bg l).1 with g|g
  ·exact g
  rw[show Bc (Bg l) d=(Bg l).1 by omega]at q;omega
 have h5:=u2 hlt
 unfold EJ Hk
 by_cases c:v=true/\k<Bc (Bg l) d
 ·rw[if_pos c,if_pos ⟨c.1,by omega⟩,show Bc (Bg l) d-1+1=Bc (Bg l) d by omega];exact h5
 rw[if_neg c]
 by_cases c2:v=true/\k<=Bc (Bg l) d
 ·rw[if_pos c2]
  have e:k=Bc (Bg l) d:=by
   have:¬k<Bc (Bg l) d:=fun g=>c ⟨c2.1,g⟩
   omega
  -- the void one is the first behind the day: what follows it is later still
  by_cases e2:Bc (Bg l) d+1<(Bg l).1
  ·have:=h.asc (Bc (Bg l) d) (Bc (Bg l) d+1) (by omega) e2
   unfold Bo at this;omega
  unfold EJ at q
  have:=hk c2.1
  rw[if_neg c,if_pos ⟨c2.1,this⟩]at q
  omega
 rw[if_neg c2];exact h5
end Go.Proofs.YtlieoghhkioflaaGreat
namespace Go.Proofs.YtlieoghhkioflaaGreat
open Go Go.RowKit
variable{G:Nat->Option (Nat×(Nat->Ad))}
attribute [go_sem] AaH Abr X7 AcA AcI AbN Ab8 AaL AaW
theorem TG{α:Type}(a:Nat×(Nat->α)):K1 a a=true:=As ⟨rfl,fun _ _=>rfl⟩
theorem V8{A:Nat->De}{n:Nat}{x:De}(h:A n=x):∀a,a<n+1->∀c,c<9->AC ((A a).c c) (if a<n then(A a).c c else Az (Az (.cons x.L .nil) (a-n)) c):=fun a ha c hc=>by
 by_cases e:a<n
 ·rw[if_pos e];exact BV _
 obtain rfl:a=n:=by omega
 rw[if_neg e,Nat.sub_self,h]
 show AC (x.c c) (Az x.L c)
 rw[Ip _ c hc];exact BV _
theorem XB{r:Ro}{l:F0}(ha:BP r l=0):reQ r l= .tup (.cons (.view 9 (Bg l).1 fun i j=>((Bg l).2 i).c j) (.cons (.view 1 (Bg l).1 fun i _=> .int .u8 (BA (AI r (Bg l).2 i) ((Bg l).2 i))) (.cons (.int .i64 0) .nil))):=by
 rw[reQ,if_pos ha];rfl
def Wz:At:=KA KI (DD GI) TI (TU .u8) (fun _ _ _ _=>True) fun _ _ _ _=> .bool true
set_option maxHeartbeats 4000000 in
theorem V0:Ah Tryz.prog G 7 Wz:=by
 refine fn4 (S:=[(25,HR),(26,Ic),(16,Rd),(29,Rh),(22,Hc)]) (I:=[]) mixed
  (.cons X9 (.cons ZN (.cons (show Ah Tryz.prog G _ Rd from Mz) (.cons (show Ah Tryz.prog G _ Rh from Tb) (.cons PH .nil))))) .nil Tryz.func7 c7 fun r l day which _ hw=> ?_
 simp only[Nat.reduceSub,Nat.reducePow,go_sem]at hw
 obtain⟨w1,w2⟩:=hw
 by_cases hrd:To r l=true
 case neg=>
  have hrd:To r l=false:=by simpa using hrd
  simp only[A4,a7,HR,Ic,hrd,w1,w2,↓reduceIte,reduceCtorEq,Nat.reduceEqDiff,Nat.reduceAdd,Nat.reduceSub,Nat.reducePow,go_sem]
 by_cases c1:day<0
 ·have f1:(day<0)=True:=eq_true c1
  simp only[A4,a7,HR,Ic,hrd,f1,w1,w2,↓reduceIte,reduceCtorEq,Nat.reduceEqDiff,Nat.reduceAdd,Nat.reduceSub,Nat.reducePow,go_sem]
 have f1:(day<0)=False:=eq_false c1
 by_cases c3:day>100000
 ·have f3:(day>100000)=True:=eq_true c3
  simp only[A4,a7,HR,Ic,hrd,f1,f3,w1,w2,↓reduceIte,reduceCtorEq,Nat.reduceEqDiff,Nat.reduceAdd,Nat.reduceSub,Nat.reducePow,go_sem]
 have f3:(day>100000)=False:=eq_false c3
 obtain⟨hng,ha⟩:=Aa8 hrd
 have hr:=(C4 ha).1
 obtain⟨hN1,hN2⟩:=Wu hr
 have hD:=On ha
 have hwb:=AaJ which
 obtain⟨k,hk⟩:∃k:Nat,0<(Bg l).1->which.1.tmod ((Bg l).1:Int)=(k:Int)/\k<(Bg l).1:=by
  refine⟨(which.1.tmod ((Bg l).1:Int)).toNat,fun h=> ?_⟩
  have h1:=Int.tmod_nonneg ((Bg l).1:Int) hwb.1
  have h2:=Int.tmod_lt_of_pos which.1 (show(0:Int)<((Bg l).1:Int) by omega)
  omega
 obtain⟨v,hv⟩:∃v:Bool,v=Bb (0<(Bg l).1/\BA (AI r (Bg l).2 k) ((Bg l).2 k)≠0):=⟨_,rfl⟩
 have hv1:v=true->0<(Bg l).1/\BA (AI r (Bg l).2 k) ((Bg l).2 k)≠0:=fun h=>by rw[hv]at h;exact AM.1 h
 have hv2:0<(Bg l).1->BA (AI r (Bg l).2 k) ((Bg l).2 k)≠0->v=true:=fun h1 h2=>by rw[hv];exact As ⟨h1,h2⟩
 clear hv
 obtain⟨a3,b3⟩:=Yb ha day
 obtain⟨a4,b4⟩:=AaD ha day (k:=k) (v:=v) (fun h=>(hk (hv1 h).1).2) fun h=>(hv1 h).2
 have o1:=Pb (d:=day) ha (by omega) (by omega)
 have o3:=Pb (d:=day) a3 (by omega) (by omega)
 have o4:=Pb (d:=day) a4 (by omega) (by omega)
 rw[b3]at o3
 rw[b4]at o4
 have o0:=XB ha
 have hday:=fun j (hj:j<(Bg l).1)=>hD.day (d:=day) hj
 have hu:=Lu (Bg l) day
 have hn60:=hD.n
 have lA:=DO (H9 r l day).ow.2 (Ca r)
 have lU:=DO (fun m=>FO (H9 r l day) m day) (Ca r)
 generalize Bg l=X at*
 generalize Bc X day=u at*
 generalize Ap (H9 r l day).ow.2 (Ca r)=A at*
 generalize Ap (fun m=>FO (H9 r l day) m day) (Ca r)=U at*
 generalize hVe:(fun i=>BA (AI r X.2 i) (X.2 i))=V at*
 have hVi:∀i,BA (AI r X.2 i) (X.2 i)=V i:=fun i=>congrFun hVe i
 simp only[hVi]at o0 hv1 hv2
 have l1:(A.1<=9223372036854775807)=True:=eq_true (by omega)
 have l3:(U.1<=9223372036854775807)=True:=eq_true (by omega)
 have l4:(X.1<=9223372036854775807)=True:=eq_true (by omega)
 have q4:IntKind.i64.wrap which.1=which.1:=AU (by omega) (by omega)
 simp only[A4,a7,HR,Ic,hrd,f1,f3,Rh,Rd,Ak,Ag,AZ,o0,o1,IV,l1,l3,l4,w1,w2,↓reduceIte,reduceCtorEq,Nat.reduceEqDiff,Nat.reduceAdd,Nat.reduceSub,Nat.reduceLT,Nat.reducePow,go_sem]
 refine G7 (ι:=Nat) (fun j=>j<=X.1) (fun j=>X.1-j) [2,3,4,9,10,11,13,14,72,73] (fun j=>[(16,.own (.n 1)),(17,.own (.n 2)),(74,.int .i64 j)]) (fun j=>[(1,.row 56 9 (min j u) fun a c=>(X.2 a).c c),(2,.row 56 9 (EJ v k j) fun a c=>(Hk v X.2 k a).c c)]) 2 0 (Nat.zero_le _) (by
  simp only[show min 0 u=0 from Nat.zero_min u,show EJ v k 0=0 from if_neg (by omega),↓reduceIte,reduceCtorEq,Nat.reduceEqDiff,Nat.reduceAdd,Nat.reduceLT,go_sem]
  try trace_state) fun j hj=> ?_
 by_cases hjl:j<X.1
 ·have fj:((j:Int)<(X.1:Int))=True:=eq_true (by omega)
  obtain⟨k1,k2⟩:=hk (by omega)
  have hdj:=hday j hjl
  have gh:((X.2 j).heirs.1<=9223372036854775807)=True:=eq_true (by have:=(hD.ok j hjl).heirs;omega)
  have hdn:EJ v k j<=j:=by unfold EJ;split<;>omega
  have hF:(((X.2 j).day<=day)=True/\min (j+1) u=min j u+1/\X.2 (min j u)=X.2 j)\/(((X.2 j).day<=day)=False/\min (j+1) u=min j u/\True):=by
   by_cases g:j<u
   ·exact .inl ⟨eq_true (hdj.2 g),by omega,by rw[show min j u=j by omega]⟩
   exact .inr ⟨eq_false fun q=>g (hdj.1 q),by omega,trivial⟩
  have hS:(v=true->j≠k)->EJ v k (j+1)=EJ v k j+1/\Hk v X.2 k (EJ v k j)=X.2 j:=fun nv=>by
   by_cases c:v=true/\k<j
   ·have e1:EJ v k j=j-1:=if_pos c
    have e2:EJ v k (j+1)=j:=if_pos ⟨c.1,by omega⟩
    have e3:Hk v X.2 k (j-1)=X.2 (j-1+1):=if_pos ⟨c.1,by omega⟩
    rw[e1,e2,e3,show j-1+1=j by omega];exact⟨rfl,rfl⟩
   have e1:EJ v k j=j:=if_neg c
   have nk:¬(v=true/\k<=j):=fun h=>c ⟨h.1,by have:=nv h.1;omega⟩
   have e2:EJ v k (j+1)=j+1:=if_neg fun h=>nk ⟨h.1,by omega⟩
   have e3:Hk v X.2 k j=X.2 j:=if_neg nk
   rw[e1,e2,e3];exact⟨rfl,rfl⟩
  have hG:((V j=0)=True/\True/\EJ v k (j+1)=EJ v k j+1/\Hk v X.2 k (EJ v k j)=X.2 j)\/((V j=0)=False/\((j:Int)=(k:Int))=False/\EJ v k (j+1)=EJ v k j+1/\Hk v X.2 k (EJ v k j)=X.2 j)\/((V j=0)=False/\((j:Int)=(k:Int))=True/\EJ v k (j+1)=EJ v k j/\True):=by
   by_cases g:V j=0
   ·exact .inl ⟨eq_true g,trivial,hS fun h e=>by subst e;exact(hv1 h).2 g⟩
   by_cases g2:j=k
   ·refine .inr (.inr ⟨eq_false g,eq_true (by omega),?_,trivial⟩)
    subst g2
    have c:=hv2 (by omega) g
    have e1:EJ v j (j+1)=j+1-1:=if_pos ⟨c,by omega⟩
    have e2:EJ v j j=j:=if_neg fun h=>by omega
    rw[e1,e2,Nat.add_sub_cancel]
   exact .inr (.inl ⟨eq_false g,eq_false (by omega),hS fun _=>g2⟩)
  rcases hF with⟨gD,m1,m2⟩|⟨gD,m1,m2⟩<;>rcases hG with⟨gV,gJ,n1,n2⟩|⟨gV,gJ,n1,n2⟩|⟨gV,gJ,n1,n2⟩
  all_goals
   simp only[fj,gD,gV,gJ,gh,q4,k1,l4,↓reduceIte,reduceCtorEq,Nat.reduceEqDiff,Nat.reduceAdd,Nat.reduceSub,Nat.reduceLeDiff,Nat.reduceLT,Nat.reducePow,go_sem]
   repeat(refine And.intro (by omega) ?_)
   refine Af (j+1) hjl (by omega) ?_
   simp only[m1,n1,↓reduceIte,reduceCtorEq,Nat.reduceEqDiff,Nat.reduceLT,go_sem]
   first
    |exact⟨Cs (by omega),V8 n2,V8 m2⟩
    |exact⟨Cs (by omega),V8 m2⟩
    |exact⟨Cs (by omega),V8 n2⟩
    |exact Cs (by omega)
 have fj:((j:Int)<(X.1:Int))=False:=eq_false (by omega)
 obtain rfl:j=X.1:=by omega
 have hmu:min X.1 u=u:=by omega
 have hdn:EJ v k X.1<=X.1:=by unfold EJ;split<;>omega
 have l5:(u<=9223372036854775807)=True:=eq_true (by omega)
 have l6:(EJ v k X.1<=9223372036854775807)=True:=eq_true (by omega)
 simp only[fj,hmu,Hc,o3,o4,IV,TG,l1,l3,w1,↓reduceIte,reduceCtorEq,Nat.reduceEqDiff,Nat.reduceAdd,Nat.reduceSub,Nat.reduceLT,Nat.reducePow,go_sem]
end Go.Proofs.YtlieoghhkioflaaGreat
