/- Deeds: heirs who are dead are struck, walked. No condition but bounds. -/
import Derived.Test.YtlieoghhkioflaaGreatDct
import Derived.Test.YtlieoghhkioflaaGreatDpy
set_option linter.unusedSimpArgs false
set_option linter.unusedVariables false
set_option maxRecDepth 100000
namespace Go.Proofs.YtlieoghhkioflaaGreat
open Go Go.RowKit
variable{stk:List Av}{nx:Nat}
variable{G:Nat->Option (Nat×(Nat->Ae))}
theorem Ts:Ah Tryz.prog G 98 Ok:=by
 refine fo1 mixed (S:=[]) (I:=[]) .nil .nil Tryz.func98 c98 fun l hp hw=> ?_
 obtain⟨h1,h2⟩:=hp
 have hw1:(l.1<=9223372036854775807)=True:=eq_true (by omega)
 simp only[Uo,a98,hw1,↓reduceIte,reduceCtorEq,Nat.reduceEqDiff,Nat.reduceAdd,Nat.reduceSub,Nat.reduceLT,Nat.reducePow,go_sem]
 intro t ht
 have ht:=ht (by omega)
 subst ht
 refine⟨fun h=>(by cases h),fun _=>⟨by omega,fun i hi j hj=>by rw[if_neg (Nat.not_lt_zero _)];exact B7 _,.n 0,2,l.1,_,.inl ⟨rfl,rfl⟩,_,rfl,fun i hi j hj=> ?_⟩⟩
 rw[if_neg (Nat.not_lt_zero _)]
 refine⟨rfl,?_⟩
 rcases(by omega:j=0\/j=1)with rfl|rfl<;>rfl
theorem KK{bx0 bx1:Bx}{nx':Nat}{fr1 fr':Fr}(hn:nx<=nx')(hfr:D2 (BP bx1 bx0) (Fe bx0) fr1 fr')(h:∀b c,Ab bx0 b=some c->Ab bx1 b=some c):L8 bx0 nx fr1 bx1 fr' bx0 nx':=
 ⟨none,trivial,hn,hfr,fun b c hb=> .inl ⟨hb,h b c hb⟩,fun b c hb=> .inl ⟨c,hb⟩,fun b c0 c1 h0 h1=>⟨c0,h0,by rw[h b c0 h0]at h1;cases h1;exact CP.refl _⟩⟩
theorem XS{E:Df}{Qf:Ae->Bx->Prop}{ι:Type}(Pi:ι->Prop)(μ:ι->Nat)(keep:List Nat)(sl:ι->Fr){n:Nat}{c:Cl}{K:List BU}{res:List B5}{fr:Fr}{bx:Bx}(i:ι)(hi:Pi i)
  (hfr:D2 (BP bx bx) (Fe bx) fr (FZ (sl i) (D0 keep fr)))
  (hr:∀i,Pi i->AA E Qf n (.code c:: .inv (fun s fr1 bx1=>s=EB stk/\∃m',m'<μ i/\∃fr'' bx'',FX Pi μ (fun i=>FZ (sl i) (D0 keep fr)) (fun _=>bx) m' fr'' bx''/\GS (EH stk) bx fr1 bx1 fr'' bx'' nx nx)::K) stk res (FZ (sl i) (D0 keep fr)) bx nx):
  FJ (AA E Qf n) c K stk res fr bx nx:=
 DN Pi μ _ (fun _=>bx) 0 i hi (.inr (KK (Nat.le_refl _) hfr fun _ _ h=>h)) hr
theorem Aas{ι:Type}{Pi:ι->Prop}{μ:ι->Nat}{sl:ι->Fr}{m:Nat}{ns:List Nat}{fr1:Fr}{bx0 bx1:Bx}(j:ι)(hj:Pi j)(hm:μ j<m)(hold:∀y c,Ab bx0 y=some c->Ab bx1 y=some c)
  (hfr:D2 (BP bx1 bx0) (Fe bx0) fr1 (sl j)):
  ∃m',m'<m/\∃fr'' bx'',FX Pi μ sl (fun _=>bx0) m' fr'' bx''/\GS ns bx0 fr1 bx1 fr'' bx'' nx nx:=
 ED j hj hm (KK (Nat.le_refl _) hfr hold)
theorem Yn{E:Df}{Q:Ae->Bx->Prop}{c:Cl}{K:List BU}{res:List B5}{H:Nat->Fr->Bx->Nat->Prop}{C:Prop}(key:∀(m:Nat) (fr:Fr) (bx:Bx) (nx:Nat),H m fr bx nx->FJ (AA E Q m) c K stk res fr bx nx)(main:(∀(m:Nat) (fr:Fr) (bx:Bx) (nx:Nat),H m fr bx nx->FJ (AA E Q m) c K stk res fr bx nx)->C):C:=main key
theorem Lz{de:Nat->Bool}{l:Nat×(Nat->Hr)}:∀k,(∀i,i<k->de (l.2 i).who.toNat=false)->(C4 de l k).length=k/\∀q,q<k->hl (C4 de l k) q=l.2 q
 |0,_=>⟨rfl,fun q h=>by omega⟩
 |k+1,h=>by
  obtain⟨h1,h2⟩:=Lz k fun i hi=>h i (by omega)
  rw[C4,h k (by omega),if_neg Bool.false_ne_true,List.length_append,h1]
  refine⟨rfl,fun q hq=> ?_⟩
  rw[Sv,h1]
  by_cases e:q<k
  ·rw[if_pos e];exact h2 q e
  rw[if_neg e,if_pos (by omega),show k=q by omega]
set_option maxHeartbeats 2000000 in
theorem Vt{Q:Ae->Bx->Prop}{r:Ro}{z p d h nb:Nat}{P:Pz}{has:Int->Bool}{mf:Int->Ae}{bx:Bx}{l:Nat×(Nat->Hr)}{de:Nat->Bool}{f:Av}{B:Nat}(hB:600<=B)(hs:D3 r z p d P has mf bx nx)
  (hh:Ab bx (.n h)=some (.row 140 2 l.1 fun i j=>(l.2 i).c j)) (hb:Ab bx (.n nb)=some (.cells (.cons (.ptr (.n z) 0) .nil))) (hl8:l.1<=8) (hm:∀k,has k=true->mf k= .bool true) (hde:∀i,i<l.1->has (l.2 i).who=de (l.2 i).who.toNat)
  (hK1:∀B' bx' nx',B<=B'+600->(∀i,i<l.1->de (l.2 i).who.toNat=false)->D3 r z p d P has mf bx' nx'->(∀y v,Ab bx y=some v->Ab bx' y=some v)->nx<=nx'->AA (HJ G) Q B' f.K stk f.res (Ai f.fr f.d (.own (.n h))) bx' nx')
  (hK2:∀B' bx' nx' (R:Nat->Hr),B<=B'+600->(∀q,q<(C4 de l l.1).length->R q=hl (C4 de l l.1) q)->Ab bx' (.n h)=some (.row 140 2 l.1 fun i j=>(R i).c j)->D3 r z p d P has mf bx' nx'->(∀y v,y≠ .n h->Ab bx y=some v->Ab bx' y=some v)->nx<=nx'->AA (HJ G) Q B' f.K stk f.res (Ai f.fr f.d (.osl (.n h) 0 (C4 de l l.1).length)) bx' nx'):
  AA (HJ G) Q B [.code TY.code] (f::stk) TY.res (params 0 [.own (.n h),.func (.func 140) (.cons (.ptr (.n nb) 0) .nil)]) bx nx:=by
 obtain⟨B,rfl⟩:∃m,B=m+590:=⟨B-590,by omega⟩
 have hz:=hs.hz;have hp:=hs.hp;have hd:=hs.hd;have zn:=hs.zn;have pn:=hs.pn;have dn:=hs.dn;have zp:=hs.zp;have dp:=hs.dp;have zd:=hs.zd
 have lt:∀y c,Ab bx (.n y)=some c->y<nx:=fun y c hy=>by
  apply Classical.byContradiction
  intro hn
  rw[hs.fre y (by omega)]at hy;cases hy
 have hn:=lt _ _ hh
 have nbn:=lt _ _ hb
 have n1:(nx=z)=False:=eq_false (by omega)
 have n2:(nx=h)=False:=eq_false (by omega)
 have n3:(nx=nb)=False:=eq_false (by omega)
 have n4:(nx=d)=False:=eq_false (by omega)
 have m1:(z=nx)=False:=eq_false (by omega)
 have m2:(h=nx)=False:=eq_false (by omega)
 have m3:(nb=nx)=False:=eq_false (by omega)
 have m4:(d=nx)=False:=eq_false (by omega)
 have hpk:∀k,EA (has k) (mf k) (.bool false)= .bool (has k):=fun k=>by
  cases e:has k with
  |false=>rfl
  |true=>rw[hm k e];rfl
 have hlw:(l.1<=9223372036854775807)=True:=eq_true (by omega)
 have hAl:∀j,j<l.1->de (l.2 j).who.toNat=false->C4 de l (j+1)=C4 de l j++[l.2 j]:=fun j _ hj=>by rw[C4,hj,if_neg Bool.false_ne_true]
 have hDd:∀j,j<l.1->de (l.2 j).who.toNat=true->C4 de l (j+1)=C4 de l j:=fun j _ hj=>by rw[C4,hj,if_pos rfl]
 have nb2:(nb=h)=False:=eq_false (fun e=>by rw[e,hh]at hb;cases hb)
 have z2:(z=h)=False:=eq_false (fun e=>by rw[e,hh]at hz;cases hz)
 have d2:(d=h)=False:=eq_false (fun e=>by rw[e,hh]at hd;cases hd)
 refine Yn (E:=HJ G) (Q:=Q) (c:= ?c) (K:= ?K) (stk:=f::stk) (res:= ?res) (H:=fun m fr bx0 nx0=>∃j,j<l.1/\(∀i,i<j->de (l.2 i).who.toNat=false)/\de (l.2 j).who.toNat=true/\B+450<=m/\D3 r z p d P has mf bx0 nx0/\(∀y v,Ab bx y=some v->Ab bx0 y=some v)/\nx<=nx0/\Au fr 0= .own (.n h)/\Au fr 1= .func (.func 140) (.cons (.ptr (.n nb) 0) .nil)/\Au fr 5= .int .i64 j/\Au fr 6= .int .i64 ((j+1:Nat):Int)) ?key ?main
 case main=>
  intro key
  simp only[TY,XG,hh,↓reduceIte,reduceCtorEq,Nat.reduceEqDiff,Int.reduceNeg,go_sem]
  refine XS (ι:=Nat) (fun j=>j<=l.1/\∀i,i<j->de (l.2 i).who.toNat=false) (fun j=>l.1-j) [0,1,7] (fun j=>[(8,.int .i64 j)]) 0 ⟨Nat.zero_le _,fun i h=>absurd h (Nat.not_lt_zero _)⟩ (by simp only[hh,hb,↓reduceIte,reduceCtorEq,Nat.reduceEqDiff,go_sem]) fun j hj=> ?_
  obtain⟨hj1,hj2⟩:=hj
  rcases Nat.lt_or_ge j l.1 with hlt|hge
  ·have f1:((j:Int)<(l.1:Int))=True:=eq_true (by omega)
   have hdj:=hde j hlt
   rcases(Bool.eq_false_or_eq_true (de (l.2 j).who.toNat)).symm with hc|hc
   ·rw[hc]at hdj
    simp only[f1,hdj,Rm,hh,hb,hz,hd,n1,n3,n4,Int.toNat_natCast,↓reduceIte,reduceCtorEq,Nat.reduceEqDiff,Nat.reduceAdd,Nat.reduceLeDiff,Int.reduceNeg,go_sem]
    refine⟨by omega,Aas (j+1) ⟨hlt,fun i hi=> ?_⟩ (by omega) (fun y c hy=> ?_) ?_⟩
    ·by_cases e:i=j
     ·subst e;exact hc
     exact hj2 i (by omega)
    ·rw[Af,if_neg]
     ·exact hy
     rintro rfl;rw[hs.fre nx (Nat.le_refl _)]at hy;cases hy
    simp only[hh,hb,↓reduceIte,reduceCtorEq,Nat.reduceEqDiff,go_sem]
    exact BH (by omega)
   rw[hc]at hdj
   have e1:((j:Int)= -1)=False:=eq_false (by omega)
   have w1:IntKind.i64.wrap ((j:Int)+1)=((j+1:Nat):Int):=BH (by omega)
   have hmf:=hm _ hdj
   simp only[f1,e1,w1,hdj,hmf,Rm,hh,hb,hz,hd,n1,n3,n4,Int.toNat_natCast,↓reduceIte,reduceCtorEq,Nat.reduceEqDiff,Nat.reduceAdd,Nat.reduceLeDiff,Int.reduceNeg,go_sem]
   refine⟨by omega,?_⟩
   refine key _ _ _ _ ?_
   refine⟨j,hlt,hj2,hc,by omega,hs.cons fun _=>rfl,fun y c hy=> ?_,by omega,rfl,rfl,rfl,rfl⟩
   rw[Af,if_neg]
   ·exact hy
   rintro rfl;rw[hs.fre nx (Nat.le_refl _)]at hy;cases hy
  have f1:((j:Int)<(l.1:Int))=False:=eq_false (by omega)
  obtain rfl:j=l.1:=by omega
  simp only[f1,↓reduceIte,reduceCtorEq,Nat.reduceEqDiff,Int.reduceNeg,go_sem]
  exact hK1 _ _ _ (by omega) hj2 hs (fun _ _ h=>h) (Nat.le_refl _)
 case key=>
  rintro m fr bx1 nx1 ⟨j,hlt,hj2,hc,hmB,hs1,hold,hnn,e0,e1,e5,e6⟩
  obtain⟨m,rfl⟩:∃m',m=m'+440:=⟨m-440,by omega⟩
  have hh1:=hold _ _ hh
  have hb1:=hold _ _ hb
  have hz1:=hs1.hz;have hd1:=hs1.hd
  have hA0:=Lz (de:=de) (l:=l) j hj2
  have q1:(nx1=z)=False:=eq_false (by omega)
  have q2:(nx1=h)=False:=eq_false (by omega)
  have q3:(nx1=nb)=False:=eq_false (by omega)
  have q4:(nx1=d)=False:=eq_false (by omega)
  have q5:(z=nx1)=False:=eq_false (by omega)
  have q6:(h=nx1)=False:=eq_false (by omega)
  have q7:(nb=nx1)=False:=eq_false (by omega)
  have q8:(d=nx1)=False:=eq_false (by omega)
  have k1:(nx1+1=z)=False:=eq_false (by omega)
  have k2:(nx1+1=h)=False:=eq_false (by omega)
  have k3:(nx1+1=nb)=False:=eq_false (by omega)
  have k4:(nx1+1=d)=False:=eq_false (by omega)
  have k5:(nx1+1=nx1)=False:=eq_false (by omega)
  have k6:(nx1=nx1+1)=False:=eq_false (by omega)
  have k7:(h=nx1+1)=False:=eq_false (by omega)
  refine HR (ι:=Nat×(Nat->Hr)) (fun q=>j<q.1/\q.1<=l.1/\(C4 de l q.1).length<q.1/\(∀s,s<(C4 de l q.1).length->q.2 s=hl (C4 de l q.1) s)/\∀s,q.1<=s->q.2 s=l.2 s) (fun q=>l.1-q.1) [0,1] (fun q=>[(6,.int .i64 q.1),(5,.int .i64 (C4 de l q.1).length)]) (.n h) (fun q=> .row 140 2 l.1 fun a b=>(q.2 a).c b) hh1 (j+1,l.2) ⟨Nat.lt_succ_self _,hlt,by show(C4 de l (j+1)).length<j+1;rw[hDd j hlt hc,hA0.1];exact Nat.lt_succ_self _,fun s hs=>by
   have hs:s<(C4 de l (j+1)).length:=hs
   rw[hDd j hlt hc,hA0.1]at hs
   show l.2 s=hl (C4 de l (j+1)) s
   rw[hDd j hlt hc];exact(hA0.2 s hs).symm,fun s _=>rfl⟩ (fun N D=>⟨rfl,rfl,rfl,fun i _ b _=>B7 _⟩) ?_ fun q hq=> ?_
  ·simp only[hDd j hlt hc,hA0.1,Ac,e0,e1,e5,e6,hh1,hb1,nb2,↓reduceIte,reduceCtorEq,go_sem]
  obtain⟨t,R⟩:=q
  obtain⟨p1,p2,p3,p4,p5⟩:=hq
  simp only at p1 p2 p3 p4 p5
  rcases Nat.lt_or_ge t l.1 with htl|htg
  ·have f2:((t:Int)<(l.1:Int))=True:=eq_true (by omega)
   have hdt:=hde t htl
   have qt:=p5 t (Nat.le_refl _)
   cases hct:de (l.2 t).who.toNat with
   |true=>
    rw[hct]at hdt
    have hmt:=hm _ hdt
    simp only[f2,hdt,hmt,qt,Rm,Ac,nb2,z2,d2,e0,e1,hb1,hz1,hd1,q1,q3,q4,k1,k3,k4,Int.toNat_natCast,↓reduceIte,reduceCtorEq,Nat.reduceEqDiff,Nat.reduceAdd,Nat.reduceLeDiff,go_sem]
    have hT:=hDd t htl hct
    refine⟨by omega,Ka hh1 (t+1,R) ⟨by omega,htl,by show(C4 de l (t+1)).length<t+1;rw[hT];omega,fun s hs=>by
     have hs:s<(C4 de l (t+1)).length:=hs
     rw[hT]at hs
     show R s=hl (C4 de l (t+1)) s
     rw[hT];exact p4 s hs,fun s hs=>p5 s (by have hs:t+1<=s:=hs;omega)⟩ (by show l.1-(t+1)<l.1-t;omega) ((Af _ _ _ _).trans ((if_neg (by simp;omega)).trans ((Af _ _ _ _).trans ((if_neg (by simp;omega)).trans ((Ac _ _ _ _).trans (if_pos rfl)))))) (fun N D=>⟨rfl,rfl,rfl,fun i _ b _=>B7 _⟩) (fun y hy c hc=> ?_) ?_⟩
    ·have y1:y≠ .n nx1:=by rintro rfl;rw[hs1.fre nx1 (Nat.le_refl _)]at hc;cases hc
     have y2:y≠ .n (nx1+1):=by rintro rfl;rw[hs1.fre (nx1+1) (by omega)]at hc;cases hc
     rw[Af,if_neg y2,Af,if_neg y1,Ac,if_neg hy];exact hc
    simp only[hT,Ac,hb1,nb2,q2,k2,↓reduceIte,reduceCtorEq,Nat.reduceEqDiff,go_sem]
    exact BH (by omega)
   |false=>
    rw[hct]at hdt
    simp only[f2,hdt,qt,Rm,Ac,nb2,z2,d2,e0,e1,hb1,hz1,hd1,q1,q2,q3,q4,k1,k2,k3,k4,k5,Int.toNat_natCast,↓reduceIte,reduceCtorEq,Nat.reduceEqDiff,Nat.reduceAdd,Nat.reduceLeDiff,go_sem]
    have hT:=hAl t htl hct
    have hL:(C4 de l (t+1)).length=(C4 de l t).length+1:=by rw[hT,List.length_append];rfl
    refine⟨by omega,by omega,by omega,Ka hh1 (t+1,fun s=>if s=(C4 de l t).length then l.2 t else R s) ⟨by omega,htl,by show(C4 de l (t+1)).length<t+1;omega,fun s hs=> ?_,fun s hs=> ?_⟩ (by show l.1-(t+1)<l.1-t;omega) ((Af _ _ _ _).trans ((if_neg (by simp;omega)).trans ((Af _ _ _ _).trans ((if_neg (by simp;omega)).trans ((Ac _ _ _ _).trans (if_pos rfl)))))) (fun N D=>⟨rfl,rfl,rfl,fun i _ b hb'=> ?_⟩) (fun y hy c hc=> ?_) ?_⟩
    ·have hs:s<(C4 de l (t+1)).length:=hs
     show(if s=(C4 de l t).length then l.2 t else R s)=hl (C4 de l (t+1)) s
     rw[hT,Sv]
     by_cases e:s=(C4 de l t).length
     ·rw[if_pos e,if_neg (by omega),if_pos e]
     rw[if_neg e,if_pos (by omega)];exact p4 s (by omega)
    ·have hs:t+1<=s:=hs
     show(if s=(C4 de l t).length then l.2 t else R s)=l.2 s
     rw[if_neg (by omega)];exact p5 s (by omega)
    ·show AC ((if i=(C4 de l t).length then l.2 t else R i).c b) (if i=(C4 de l t).length/\0<=b/\b<2 then Az (l.2 t).L b else(R i).c b)
     by_cases e:i=(C4 de l t).length
     ·have hb':b<2:=hb'
      rw[if_pos e,if_pos ⟨e,Nat.zero_le _,hb'⟩]
      rcases(by omega:b=0\/b=1)with rfl|rfl<;>exact B7 _
     rw[if_neg e,if_neg fun h=>e h.1];exact B7 _
    ·have y1:y≠ .n nx1:=by rintro rfl;rw[hs1.fre nx1 (Nat.le_refl _)]at hc;cases hc
     have y2:y≠ .n (nx1+1):=by rintro rfl;rw[hs1.fre (nx1+1) (by omega)]at hc;cases hc
     rw[Af,if_neg y2,Af,if_neg y1,Ac,if_neg hy,Ac,if_neg hy];exact hc
    simp only[hL,Ac,hb1,nb2,q2,k2,↓reduceIte,reduceCtorEq,Nat.reduceEqDiff,go_sem]
    exact⟨BH (by omega),BH (by omega)⟩
  have f2:((t:Int)<(l.1:Int))=False:=eq_false (by omega)
  obtain rfl:t=l.1:=by omega
  simp only[f2,Ac,e0,e1,Int.toNat_natCast,↓reduceIte,reduceCtorEq,Nat.reduceEqDiff,Nat.reduceAdd,Int.reduceToNat,Int.reduceLE,go_sem]
  have w1:(((C4 de l l.1).length:Int)-0).toNat=(C4 de l l.1).length:=by omega
  have w2:((l.1:Int)-((C4 de l l.1).length:Int)).toNat=l.1-(C4 de l l.1).length:=by omega
  rw[w1,w2]
  have hrow:(fun i j=>if(C4 de l l.1).length<=i/\i<(C4 de l l.1).length+(l.1-(C4 de l l.1).length)then Az (.cons (.int .i64 0) (.cons (.int .i64 0) .nil)) j else(R i).c j)=fun i j=>((fun i=>if(C4 de l l.1).length<=i/\i<(C4 de l l.1).length+(l.1-(C4 de l l.1).length)then(⟨0,0⟩:Hr)else R i) i).c j:=by
   funext i j
   by_cases e:(C4 de l l.1).length<=i/\i<(C4 de l l.1).length+(l.1-(C4 de l l.1).length)
   ·simp only[if_pos e]
    rcases j with _|_|j<;>rfl
   simp only[if_neg e]
  rw[hrow]
  refine⟨by omega,by omega,by omega,by omega,by omega,hK2 _ _ _ _ (by omega) (fun q hq=> ?_) ((Ac _ _ _ _).trans (if_pos rfl)) ?_ (fun y v hy hc=> ?_) hnn⟩
  ·show(if(C4 de l l.1).length<=q/\q<(C4 de l l.1).length+(l.1-(C4 de l l.1).length)then(⟨0,0⟩:Hr)else R q)=_
   rw[if_neg (by omega)];exact p4 q hq
  ·have p2:p≠h:=fun e=>by rw[<-e,hp]at hh;cases hh
   have z2':z≠h:=fun e=>by rw[z2]at e;exact e
   have d2':d≠h:=fun e=>by rw[d2]at e;exact e
   exact(hs1.other z2' p2 d2' (by omega) fun _=>rfl).other z2' p2 d2' (by omega) fun _=>rfl
  rw[Ac,if_neg hy,Ac,if_neg hy];exact hold y v hc
end Go.Proofs.YtlieoghhkioflaaGreat
namespace Go.Proofs.YtlieoghhkioflaaGreat
open Go Go.RowKit
variable{b:Bk}{N j:Nat}{P:Pz}
theorem Ns{n:Int}{p q:Nat->Int}{k:Nat}(h:∀i,i<k->p i=q i){i:Nat}(hi:i<k):FM n p k i=FM n q k i:=by
 have hs:AS p k=AS q k:=Ey k h
 have hf:∀j,j<k->DG n p k j=DG n q k j:=fun j hj=>by unfold DG;rw[hs,h j hj]
 have hr:∀j,j<k->FN n p k j=FN n q k j:=fun j hj=>by unfold FN;rw[hs,h j hj]
 have hb:∀j,j<k->DR n p k j i=DR n q k j i:=fun j hj=>by unfold DR;rw[hr j hj,hr i hi]
 have hl:DI n p k=DI n q k:=by unfold DI;rw[Ey k hf]
 unfold FM
 rw[hf i hi,hl,KZ k hb]
theorem Mx(ow:Nat->Int)(f:Int){a:Nat}:∀d,(∀q,a<=q->q<a+d->ow q≠f)->EL ow f (a+d)=EL ow f a
 |0,_=>rfl
 |d+1,h=>by
  have:=Mx ow f d fun q h1 h2=>h q h1 (by omega)
  rw[<-Nat.add_assoc,Qd,if_neg (h (a+d) (by omega) (by omega)),this]
def nO(P:Pz)(f:Int):Nat->Int
 |0=>0
 |j+1=>if(P.2 j).owner=f then nO P f j+((P.2 j).turn.til-(P.2 j).turn.fro)else nO P f j
theorem T3(hk:BD N P)(hr:Rp P b)(f:Int):∀j,j<=P.1->∃e:Nat,nO P f j=(EL b.ow.2 f e:Nat)/\(j<P.1->(P.2 j).turn.fro=e)/\(j=P.1->e=N)
 |0,_=>⟨0,rfl,fun _=>hk.beg,fun h=>by have:=hk.pos;omega⟩
 |j+1,hj=>by
  obtain⟨e,e1,e2,_⟩:=T3 hk hr f j (by omega)
  have e2:=e2 (by omega)
  have hl:=hk.lt j (by omega)
  obtain⟨d,hd⟩:∃d:Nat,(P.2 j).turn.til=((e+d:Nat):Int):=⟨((P.2 j).turn.til-e).toNat,by omega⟩
  have how:∀q,e<=q->q<e+d->b.ow.2 q=(P.2 j).owner:=fun q h1 h2=>hr.ow j (by omega) q (by omega) (by omega)
  refine⟨e+d,?_,fun h=>by rw[hk.nxt j h,hd],fun h=> ?_⟩
  ·rw[nO]
   by_cases ho:(P.2 j).owner=f
   ·rw[if_pos ho,e1,LH b.ow.2 f d fun q h1 h2=>(how q h1 h2).trans ho,hd,e2];omega
   rw[if_neg ho,e1,Mx b.ow.2 f d fun q h1 h2 h3=>ho ((how q h1 h2).symm.trans h3)]
  have:=hk.fin
  rw[<-h,Nat.add_sub_cancel,hd]at this
  omega
theorem Yo(hk:BD N P)(hr:Rp P b)(f:Int):nO P f P.1=(EL b.ow.2 f N:Nat):=by
 obtain⟨e,e1,_,e3⟩:=T3 hk hr f P.1 (Nat.le_refl _)
 rw[e1,e3 rfl]
theorem LE(hk:BD N P)(hr:Rp P b)(f:Int)(hj:j<=P.1):0<=nO P f j/\nO P f j<=N:=by
 obtain⟨e,e1,e2,e3⟩:=T3 hk hr f j hj
 have h1:EL b.ow.2 f e<=e:=GO _ _
 have h2:e<=N:=by
  by_cases h:j=P.1
  ·have:=e3 h;omega
  have:=e2 (by omega);have:=hk.rng (show j<P.1 by omega);have:=hk.lt j (by omega);omega
 omega
theorem Yj(P:Pz)(f:Int)(k:Nat):(CH P f 0).2 k=P.2 k:=by
 show(if k<0/\(P.2 k).lent=f then{P.2 k with lent:=0,til:=0}else P.2 k)=P.2 k
 rw[if_neg (by omega)]
theorem Tn(P:Pz)(f:Int)(j:Nat):(CH P f j).2 j=P.2 j:=by
 show(if j<j/\(P.2 j).lent=f then{P.2 j with lent:=0,til:=0}else P.2 j)=P.2 j
 rw[if_neg (by omega)]
theorem TK{f:Int}(h:(P.2 j).lent≠f)(k:Nat):(CH P f (j+1)).2 k=(CH P f j).2 k:=by
 show(if k<j+1/\(P.2 k).lent=f then{P.2 k with lent:=0,til:=0}else P.2 k)=if k<j/\(P.2 k).lent=f then{P.2 k with lent:=0,til:=0}else P.2 k
 by_cases e:k=j
 ·subst e;rw[if_neg fun h'=>h h'.2,if_neg fun h'=>h h'.2]
 by_cases e2:k<j/\(P.2 k).lent=f
 ·rw[if_pos e2,if_pos ⟨by omega,e2.2⟩]
 rw[if_neg e2,if_neg fun h'=>e2 ⟨by omega,h'.2⟩]
theorem TN{f:Int}(h:(P.2 j).lent=f)(k b:Nat):((CH P f (j+1)).2 k).c b=if k=j/\4<=b/\b<5 then Az (.cons (.int .i64 0) .nil) (b-4)else if k=j/\3<=b/\b<4 then Az (.cons (.int .i64 0) .nil) (b-3)else((CH P f j).2 k).c b:=by
 by_cases e:k=j
 ·subst e
  rw[Tn]
  show(if k<k+1/\(P.2 k).lent=f then{P.2 k with lent:=0,til:=0}else P.2 k).c b=_
  rw[if_pos ⟨by omega,h⟩]
  by_cases e2:4<=b/\b<5
  ·obtain rfl:b=4:=by omega
   rw[if_pos ⟨rfl,e2⟩];rfl
  rw[if_neg fun h=>e2 h.2]
  by_cases e3:3<=b/\b<4
  ·obtain rfl:b=3:=by omega
   rw[if_pos ⟨rfl,e3⟩];rfl
  rw[if_neg fun h=>e3 h.2]
  rcases b with _|_|_|_|_|b
  ·rfl
  ·rfl
  ·rfl
  ·exact absurd ⟨by omega,by omega⟩ e3
  ·exact absurd ⟨by omega,by omega⟩ e2
  rfl
 rw[if_neg fun h=>e h.1,if_neg fun h=>e h.1]
 have:(CH P f (j+1)).2 k=(CH P f j).2 k:=by
  show(if k<j+1/\(P.2 k).lent=f then{P.2 k with lent:=0,til:=0}else P.2 k)=if k<j/\(P.2 k).lent=f then{P.2 k with lent:=0,til:=0}else P.2 k
  by_cases e2:k<j/\(P.2 k).lent=f
  ·rw[if_pos e2,if_pos ⟨by omega,e2.2⟩]
  rw[if_neg e2,if_neg fun h'=>e2 ⟨by omega,h'.2⟩]
 rw[this]
theorem U5(h:BD N P)(f:Int)(j:Nat):BD N (CH P f j):=h.same rfl fun k=>by
 show(if k<j/\(P.2 k).lent=f then{P.2 k with lent:=0,til:=0}else P.2 k).turn=_
 split<;>rfl
theorem Vw{x:De}(h:BD N P)(hr:Rp P b)(hb:UU b N)(hH:FP x.fro x.heirs)(hf:1<=x.fro):∃g:Nat->Int,(∀j,g j≠x.fro)/\(∀i,i<(B8 b x).length->0<=A6 b x i)/\AS (A6 b x) (B8 b x).length=EL b.ow.2 x.fro N/\(∀i,i<(B8 b x).length->∀j:Nat,AS (A6 b x) i<=j->(j:Int)<AS (A6 b x) (i+1)->g j=(hl (B8 b x) i).who)/\
  ∃le:Nat×(Nat->Int),∀i,i<=(B8 b x).length->∃c:Nat,AS (A6 b x) i=c/\BD N (EG x.fro (fun i=>(hl (B8 b x) i).who) (A6 b x) (CH P x.fro P.1) i)/\Rp (EG x.fro (fun i=>(hl (B8 b x) i).who) (A6 b x) (CH P x.fro P.1) i) ⟨(b.ow.1,dW b.ow.2 x.fro g c),le,b.un,b.de⟩:=by
 obtain⟨p1,p2⟩:=SU (b:=b) hH
 have hE:BD N (CH P x.fro P.1):=U5 h _ _
 have hRE:=SB hr x.fro
 have hs0:0<AS (fun i=>(hl (B8 b x) i).parts) (B8 b x).length:=by
  have:=(IZ (fun i=>(hl (B8 b x) i).parts) (B8 b x).length fun i hi=>by have:=p2 i hi;omega).2 0 (by omega)
  have:=p2 0 (by omega)
  omega
 have hbN:b.ow.1=N:=hb.1
 have hsum:AS (A6 b x) (B8 b x).length=EL b.ow.2 x.fro N:=by
  have:=Nh (n:=(In b x b.ow.1:Nat)) (p:=fun i=>(hl (B8 b x) i).parts) (k:=(B8 b x).length) (by omega) hs0
  rw[show(EL b.ow.2 x.fro N)=In b x b.ow.1 by rw[hbN];rfl]
  exact this
 have hnn:∀i,i<(B8 b x).length->0<=A6 b x i:=fun i hi=>Pj (by omega) (by have:=p2 i hi;omega) hs0
 have hW:∀m,dW b.ow.2 x.fro (fun j=>(hl (B8 b x) (ES (A6 b x) (B8 b x).length j)).who) 0 m=b.ow.2 m:=fun m=>by unfold dW;rw[if_neg (by omega)]
 have hg:∀i,i<(B8 b x).length->∀j:Nat,AS (A6 b x) i<=j->(j:Int)<AS (A6 b x) (i+1)->(hl (B8 b x) (ES (A6 b x) (B8 b x).length j)).who=(hl (B8 b x) i).who:=fun i hi j j1 j2=>by
  have:ES (A6 b x) (B8 b x).length j=i:=CN hi j2 fun q hq=>by
   have:=EQ (f:=A6 b x) (len:=(B8 b x).length) hnn (show q+1<=i by omega) (by omega)
   omega
  rw[this]
 exact⟨fun j=>(hl (B8 b x) (ES (A6 b x) (B8 b x).length j)).who,fun j=>OU hf _,hnn,hsum,hg,_,H6 (n:=b.ow.1) (le:=(b.le.1,fun m=>if b.le.2 m=x.fro then 0 else b.le.2 m)) (un:=b.un) (de:=b.de) (f:=x.fro) (who:=fun i=>(hl (B8 b x) i).who) (each:=A6 b x) (g:=fun j=>(hl (B8 b x) (ES (A6 b x) (B8 b x).length j)).who) (m:=(B8 b x).length) (fun j=>OU hf _) hE
  (hRE.congr hE (fun m _=>hW m) (fun _ _=>rfl) fun _ _=>rfl) hnn hsum hg⟩
theorem TJ(f v:Int)(k:Nat)(P:Pz):Ez f v k P 0=P:=by
 cases k with
 |zero=>rfl
 |succ k=>rw[Ez,if_neg (by omega)]
end Go.Proofs.YtlieoghhkioflaaGreat
