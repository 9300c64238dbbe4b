/- Deeds: heirs who are dead are struck, walked. No condition but bounds. -/
import Derived.Test.YtlieoghhkioflaaGreatDct
import Derived.Test.YtlieoghhkioflaaGreatDpy
set_option linter.unusedSimpArgs false
set_option linter.unusedVariables false
set_option maxRecDepth 100000
namespace Go.Proofs.YtlieoghhkioflaaGreat
open Go Go.RowKit
variable{stk:List Av}{nx:Nat}
variable{G:Nat->Option (Nat×(Nat->Ad))}
theorem Tl:Ah Tryz.prog G 98 Om:=by
 refine fo1 mixed (S:=[]) (I:=[]) .nil .nil Tryz.func98 c98 fun l hp hw=> ?_
 obtain⟨h1,h2⟩:=hp
 have hw1:(l.1<=9223372036854775807)=True:=eq_true (by omega)
 simp only[Ua,a98,hw1,↓reduceIte,reduceCtorEq,Nat.reduceEqDiff,Nat.reduceAdd,Nat.reduceSub,Nat.reduceLT,Nat.reducePow,go_sem]
 intro t ht
 have ht:=ht (by omega)
 subst ht
 refine⟨fun h=>(by cases h),fun _=>⟨by omega,fun i hi j hj=>by rw[if_neg (Nat.not_lt_zero _)];exact BP _,.n 0,2,l.1,_,.inl ⟨rfl,rfl⟩,_,rfl,fun i hi j hj=> ?_⟩⟩
 rw[if_neg (Nat.not_lt_zero _)]
 refine⟨rfl,?_⟩
 rcases(by omega:j=0\/j=1)with rfl|rfl<;>rfl
theorem Le{bx0 bx1:Bx}{nx':Nat}{fr1 fr':Fr}(hn:nx<=nx')(hfr:DZ (BT bx1 bx0) (Fc bx0) fr1 fr')(h:∀b c,Ab bx0 b=some c->Ab bx1 b=some c):LY bx0 nx fr1 bx1 fr' bx0 nx':=
 ⟨none,trivial,hn,hfr,fun b c hb=> .inl ⟨hb,h b c hb⟩,fun b c hb=> .inl ⟨c,hb⟩,fun b c0 c1 h0 h1=>⟨c0,h0,by rw[h b c0 h0]at h1;cases h1;exact CR.refl _⟩⟩
theorem YP{E:Db}{Qf:Ad->Bx->Prop}{ι:Type}(Pi:ι->Prop)(μ:ι->Nat)(keep:List Nat)(sl:ι->Fr){n:Nat}{c:Cm}{K:List BY}{res:List B6}{fr:Fr}{bx:Bx}(i:ι)(hi:Pi i)
  (hfr:DZ (BT bx bx) (Fc bx) fr (F2 (sl i) (D0 keep fr)))
  (hr:∀i,Pi i->AA E Qf n (.code c:: .inv (fun s fr1 bx1=>s=Eo stk/\∃m',m'<μ i/\∃fr'' bx'',F8 Pi μ (fun i=>F2 (sl i) (D0 keep fr)) (fun _=>bx) m' fr'' bx''/\GU (Ez stk) bx fr1 bx1 fr'' bx'' nx nx)::K) stk res (F2 (sl i) (D0 keep fr)) bx nx):
  FL (AA E Qf n) c K stk res fr bx nx:=
 DO Pi μ _ (fun _=>bx) 0 i hi (.inr (Le (Nat.le_refl _) hfr fun _ _ h=>h)) hr
theorem Aak{ι:Type}{Pi:ι->Prop}{μ:ι->Nat}{sl:ι->Fr}{m:Nat}{ns:List Nat}{fr1:Fr}{bx0 bx1:Bx}(j:ι)(hj:Pi j)(hm:μ j<m)(hold:∀y c,Ab bx0 y=some c->Ab bx1 y=some c)
  (hfr:DZ (BT bx1 bx0) (Fc bx0) fr1 (sl j)):
  ∃m',m'<m/\∃fr'' bx'',F8 Pi μ sl (fun _=>bx0) m' fr'' bx''/\GU ns bx0 fr1 bx1 fr'' bx'' nx nx:=
 En j hj hm (Le (Nat.le_refl _) hfr hold)
theorem Z4{E:Db}{Q:Ad->Bx->Prop}{c:Cm}{K:List BY}{res:List B6}{H:Nat->Fr->Bx->Nat->Prop}{C:Prop}(key:∀(m:Nat) (fr:Fr) (bx:Bx) (nx:Nat),H m fr bx nx->FL (AA E Q m) c K stk res fr bx nx)(main:(∀(m:Nat) (fr:Fr) (bx:Bx) (nx:Nat),H m fr bx nx->FL (AA E Q m) c K stk res fr bx nx)->C):C:=main key
theorem L7{de:Nat->Bool}{l:Nat×(Nat->Hr)}:∀k,(∀i,i<k->de (l.2 i).who.toNat=false)->(CO de l k).length=k/\∀q,q<k->hl (CO de l k) q=l.2 q
 |0,_=>⟨rfl,fun q h=>by omega⟩
 |k+1,h=>by
  obtain⟨h1,h2⟩:=L7 k fun i hi=>h i (by omega)
  rw[CO,h k (by omega),if_neg Bool.false_ne_true,List.length_append,h1]
  refine⟨rfl,fun q hq=> ?_⟩
  rw[TT,h1]
  by_cases e:q<k
  ·rw[if_pos e];exact h2 q e
  rw[if_neg e,if_pos (by omega),show k=q by omega]
set_option maxHeartbeats 2000000 in
theorem WI{Q:Ad->Bx->Prop}{r:Ro}{z p d h nb:Nat}{P:Pz}{has:Int->Bool}{mf:Int->Ad}{bx:Bx}{l:Nat×(Nat->Hr)}{de:Nat->Bool}{f:Av}{B:Nat}(hB:600<=B)(hs:D2 r z p d P has mf bx nx)
  (hh:Ab bx (.n h)=some (.row 140 2 l.1 fun i j=>(l.2 i).c j)) (hb:Ab bx (.n nb)=some (.cells (.cons (.ptr (.n z) 0) .nil))) (hl8:l.1<=8) (hm:∀k,has k=true->mf k= .bool true) (hde:∀i,i<l.1->has (l.2 i).who=de (l.2 i).who.toNat)
  (hK1:∀B' bx' nx',B<=B'+600->(∀i,i<l.1->de (l.2 i).who.toNat=false)->D2 r z p d P has mf bx' nx'->(∀y v,Ab bx y=some v->Ab bx' y=some v)->nx<=nx'->AA (HQ G) Q B' f.K stk f.res (Ai f.fr f.d (.own (.n h))) bx' nx')
  (hK2:∀B' bx' nx' (R:Nat->Hr),B<=B'+600->(∀q,q<(CO de l l.1).length->R q=hl (CO de l l.1) q)->Ab bx' (.n h)=some (.row 140 2 l.1 fun i j=>(R i).c j)->D2 r z p d P has mf bx' nx'->(∀y v,y≠ .n h->Ab bx y=some v->Ab bx' y=some v)->nx<=nx'->AA (HQ G) Q B' f.K stk f.res (Ai f.fr f.d (.osl (.n h) 0 (CO de l l.1).length)) bx' nx'):
  AA (HQ G) Q B [.code SH.code] (f::stk) SH.res (params 0 [.own (.n h),.func (.func 140) (.cons (.ptr (.n nb) 0) .nil)]) bx nx:=by
 obtain⟨B,rfl⟩:∃m,B=m+590:=⟨B-590,by omega⟩
 have hz:=hs.hz;have hp:=hs.hp;have hd:=hs.hd;have zn:=hs.zn;have pn:=hs.pn;have dn:=hs.dn;have zp:=hs.zp;have dp:=hs.dp;have zd:=hs.zd
 have lt:∀y c,Ab bx (.n y)=some c->y<nx:=fun y c hy=>by
  apply Classical.byContradiction
  intro hn
  rw[hs.fre y (by omega)]at hy;cases hy
 have hn:=lt _ _ hh
 have nbn:=lt _ _ hb
 have n1:(nx=z)=False:=eq_false (by omega)
 have n2:(nx=h)=False:=eq_false (by omega)
 have n3:(nx=nb)=False:=eq_false (by omega)
 have n4:(nx=d)=False:=eq_false (by omega)
 have m1:(z=nx)=False:=eq_false (by omega)
 have m2:(h=nx)=False:=eq_false (by omega)
 have m3:(nb=nx)=False:=eq_false (by omega)
 have m4:(d=nx)=False:=eq_false (by omega)
 have hpk:∀k,EG (has k) (mf k) (.bool false)= .bool (has k):=fun k=>by
  cases e:has k with
  |false=>rfl
  |true=>rw[hm k e];rfl
 have hlw:(l.1<=9223372036854775807)=True:=eq_true (by omega)
 have hAl:∀j,j<l.1->de (l.2 j).who.toNat=false->CO de l (j+1)=CO de l j++[l.2 j]:=fun j _ hj=>by rw[CO,hj,if_neg Bool.false_ne_true]
 have hDd:∀j,j<l.1->de (l.2 j).who.toNat=true->CO de l (j+1)=CO de l j:=fun j _ hj=>by rw[CO,hj,if_pos rfl]
 have nb2:(nb=h)=False:=eq_false (fun e=>by rw[e,hh]at hb;cases hb)
 have z2:(z=h)=False:=eq_false (fun e=>by rw[e,hh]at hz;cases hz)
 have d2:(d=h)=False:=eq_false (fun e=>by rw[e,hh]at hd;cases hd)
 refine Z4 (E:=HQ G) (Q:=Q) (c:= ?c) (K:= ?K) (stk:=f::stk) (res:= ?res) (H:=fun m fr bx0 nx0=>∃j,j<l.1/\(∀i,i<j->de (l.2 i).who.toNat=false)/\de (l.2 j).who.toNat=true/\B+450<=m/\D2 r z p d P has mf bx0 nx0/\(∀y v,Ab bx y=some v->Ab bx0 y=some v)/\nx<=nx0/\Au fr 0= .own (.n h)/\Au fr 1= .func (.func 140) (.cons (.ptr (.n nb) 0) .nil)/\Au fr 5= .int .i64 j/\Au fr 6= .int .i64 ((j+1:Nat):Int)) ?key ?main
 case main=>
  intro key
  simp only[SH,Zu,hh,↓reduceIte,reduceCtorEq,Nat.reduceEqDiff,Int.reduceNeg,go_sem]
  refine YP (ι:=Nat) (fun j=>j<=l.1/\∀i,i<j->de (l.2 i).who.toNat=false) (fun j=>l.1-j) [0,1,7] (fun j=>[(8,.int .i64 j)]) 0 ⟨Nat.zero_le _,fun i h=>absurd h (Nat.not_lt_zero _)⟩ (by simp only[hh,hb,↓reduceIte,reduceCtorEq,Nat.reduceEqDiff,go_sem]) fun j hj=> ?_
  obtain⟨hj1,hj2⟩:=hj
  rcases Nat.lt_or_ge j l.1 with hlt|hge
  ·have f1:((j:Int)<(l.1:Int))=True:=eq_true (by omega)
   have hdj:=hde j hlt
   rcases(Bool.eq_false_or_eq_true (de (l.2 j).who.toNat)).symm with hc|hc
   ·rw[hc]at hdj
    simp only[f1,hdj,QX,hh,hb,hz,hd,n1,n3,n4,Int.toNat_natCast,↓reduceIte,reduceCtorEq,Nat.reduceEqDiff,Nat.reduceAdd,Nat.reduceLeDiff,Int.reduceNeg,go_sem]
    refine⟨by omega,Aak (j+1) ⟨hlt,fun i hi=> ?_⟩ (by omega) (fun y c hy=> ?_) ?_⟩
    ·by_cases e:i=j
     ·subst e;exact hc
     exact hj2 i (by omega)
    ·rw[Ae,if_neg]
     ·exact hy
     rintro rfl;rw[hs.fre nx (Nat.le_refl _)]at hy;cases hy
    simp only[hh,hb,↓reduceIte,reduceCtorEq,Nat.reduceEqDiff,go_sem]
    exact Cs (by omega)
   rw[hc]at hdj
   have e1:((j:Int)= -1)=False:=eq_false (by omega)
   have w1:IntKind.i64.wrap ((j:Int)+1)=((j+1:Nat):Int):=Cs (by omega)
   have hmf:=hm _ hdj
   simp only[f1,e1,w1,hdj,hmf,QX,hh,hb,hz,hd,n1,n3,n4,Int.toNat_natCast,↓reduceIte,reduceCtorEq,Nat.reduceEqDiff,Nat.reduceAdd,Nat.reduceLeDiff,Int.reduceNeg,go_sem]
   refine⟨by omega,?_⟩
   refine key _ _ _ _ ?_
   refine⟨j,hlt,hj2,hc,by omega,hs.cons fun _=>rfl,fun y c hy=> ?_,by omega,rfl,rfl,rfl,rfl⟩
   rw[Ae,if_neg]
   ·exact hy
   rintro rfl;rw[hs.fre nx (Nat.le_refl _)]at hy;cases hy
  have f1:((j:Int)<(l.1:Int))=False:=eq_false (by omega)
  obtain rfl:j=l.1:=by omega
  simp only[f1,↓reduceIte,reduceCtorEq,Nat.reduceEqDiff,Int.reduceNeg,go_sem]
  exact hK1 _ _ _ (by omega) hj2 hs (fun _ _ h=>h) (Nat.le_refl _)
 case key=>
  rintro m fr bx1 nx1 ⟨j,hlt,hj2,hc,hmB,hs1,hold,hnn,e0,e1,e5,e6⟩
  obtain⟨m,rfl⟩:∃m',m=m'+440:=⟨m-440,by omega⟩
  have hh1:=hold _ _ hh
  have hb1:=hold _ _ hb
  have hz1:=hs1.hz;have hd1:=hs1.hd
  have hA0:=L7 (de:=de) (l:=l) j hj2
  have q1:(nx1=z)=False:=eq_false (by omega)
  have q2:(nx1=h)=False:=eq_false (by omega)
  have q3:(nx1=nb)=False:=eq_false (by omega)
  have q4:(nx1=d)=False:=eq_false (by omega)
  have q5:(z=nx1)=False:=eq_false (by omega)
  have q6:(h=nx1)=False:=eq_false (by omega)
  have q7:(nb=nx1)=False:=eq_false (by omega)
  have q8:(d=nx1)=False:=eq_false (by omega)
  have k1:(nx1+1=z)=False:=eq_false (by omega)
  have k2:(nx1+1=h)=False:=eq_false (by omega)
  have k3:(nx1+1=nb)=False:=eq_false (by omega)
  have k4:(nx1+1=d)=False:=eq_false (by omega)
  have k5:(nx1+1=nx1)=False:=eq_false (by omega)
  have k6:(nx1=nx1+1)=False:=eq_false (by omega)
  have k7:(h=nx1+1)=False:=eq_false (by omega)
  refine Ie (ι:=Nat×(Nat->Hr)) (fun q=>j<q.1/\q.1<=l.1/\(CO de l q.1).length<q.1/\(∀s,s<(CO de l q.1).length->q.2 s=hl (CO de l q.1) s)/\∀s,q.1<=s->q.2 s=l.2 s) (fun q=>l.1-q.1) [0,1] (fun q=>[(6,.int .i64 q.1),(5,.int .i64 (CO de l q.1).length)]) (.n h) (fun q=> .row 140 2 l.1 fun a b=>(q.2 a).c b) hh1 (j+1,l.2) ⟨Nat.lt_succ_self _,hlt,by show(CO de l (j+1)).length<j+1;rw[hDd j hlt hc,hA0.1];exact Nat.lt_succ_self _,fun s hs=>by
   have hs:s<(CO de l (j+1)).length:=hs
   rw[hDd j hlt hc,hA0.1]at hs
   show l.2 s=hl (CO de l (j+1)) s
   rw[hDd j hlt hc];exact(hA0.2 s hs).symm,fun s _=>rfl⟩ (fun N D=>⟨rfl,rfl,rfl,fun i _ b _=>BP _⟩) ?_ fun q hq=> ?_
  ·simp only[hDd j hlt hc,hA0.1,Ac,e0,e1,e5,e6,hh1,hb1,nb2,↓reduceIte,reduceCtorEq,go_sem]
  obtain⟨t,R⟩:=q
  obtain⟨p1,p2,p3,p4,p5⟩:=hq
  simp only at p1 p2 p3 p4 p5
  rcases Nat.lt_or_ge t l.1 with htl|htg
  ·have f2:((t:Int)<(l.1:Int))=True:=eq_true (by omega)
   have hdt:=hde t htl
   have qt:=p5 t (Nat.le_refl _)
   cases hct:de (l.2 t).who.toNat with
   |true=>
    rw[hct]at hdt
    have hmt:=hm _ hdt
    simp only[f2,hdt,hmt,qt,QX,Ac,nb2,z2,d2,e0,e1,hb1,hz1,hd1,q1,q3,q4,k1,k3,k4,Int.toNat_natCast,↓reduceIte,reduceCtorEq,Nat.reduceEqDiff,Nat.reduceAdd,Nat.reduceLeDiff,go_sem]
    have hT:=hDd t htl hct
    refine⟨by omega,JP hh1 (t+1,R) ⟨by omega,htl,by show(CO de l (t+1)).length<t+1;rw[hT];omega,fun s hs=>by
     have hs:s<(CO de l (t+1)).length:=hs
     rw[hT]at hs
     show R s=hl (CO de l (t+1)) s
     rw[hT];exact p4 s hs,fun s hs=>p5 s (by have hs:t+1<=s:=hs;omega)⟩ (by show l.1-(t+1)<l.1-t;omega) ((Ae _ _ _ _).trans ((if_neg (by simp;omega)).trans ((Ae _ _ _ _).trans ((if_neg (by simp;omega)).trans ((Ac _ _ _ _).trans (if_pos rfl)))))) (fun N D=>⟨rfl,rfl,rfl,fun i _ b _=>BP _⟩) (fun y hy c hc=> ?_) ?_⟩
    ·have y1:y≠ .n nx1:=by rintro rfl;rw[hs1.fre nx1 (Nat.le_refl _)]at hc;cases hc
     have y2:y≠ .n (nx1+1):=by rintro rfl;rw[hs1.fre (nx1+1) (by omega)]at hc;cases hc
     rw[Ae,if_neg y2,Ae,if_neg y1,Ac,if_neg hy];exact hc
    simp only[hT,Ac,hb1,nb2,q2,k2,↓reduceIte,reduceCtorEq,Nat.reduceEqDiff,go_sem]
    exact Cs (by omega)
   |false=>
    rw[hct]at hdt
    simp only[f2,hdt,qt,QX,Ac,nb2,z2,d2,e0,e1,hb1,hz1,hd1,q1,q2,q3,q4,k1,k2,k3,k4,k5,Int.toNat_natCast,↓reduceIte,reduceCtorEq,Nat.reduceEqDiff,Nat.reduceAdd,Nat.reduceLeDiff,go_sem]
    have hT:=hAl t htl hct
    have hL:(CO de l (t+1)).length=(CO de l t).length+1:=by rw[hT,List.length_append];rfl
    refine⟨by omega,by omega,by omega,JP hh1 (t+1,fun s=>if s=(CO de l t).length then l.2 t else R s) ⟨by omega,htl,by show(CO de l (t+1)).length<t+1;omega,fun s hs=> ?_,fun s hs=> ?_⟩ (by show l.1-(t+1)<l.1-t;omega) ((Ae _ _ _ _).trans ((if_neg (by simp;omega)).trans ((Ae _ _ _ _).trans ((if_neg (by simp;omega)).trans ((Ac _ _ _ _).trans (if_pos rfl)))))) (fun N D=>⟨rfl,rfl,rfl,fun i _ b hb'=> ?_⟩) (fun y hy c hc=> ?_) ?_⟩
    ·have hs:s<(CO de l (t+1)).length:=hs
     show(if s=(CO de l t).length then l.2 t else R s)=hl (CO de l (t+1)) s
     rw[hT,TT]
     by_cases e:s=(CO de l t).length
     ·rw[if_pos e,if_neg (by omega),if_pos e]
     rw[if_neg e,if_pos (by omega)];exact p4 s (by omega)
    ·have hs:t+1<=s:=hs
     show(if s=(CO de l t).length then l.2 t else R s)=l.2 s
     rw[if_neg (by omega)];exact p5 s (by omega)
    ·show AB ((if i=(CO de l t).length then l.2 t else R i).c b) (if i=(CO de l t).length/\0<=b/\b<2 then Az (l.2 t).L b else(R i).c b)
     by_cases e:i=(CO de l t).length
     ·have hb':b<2:=hb'
      rw[if_pos e,if_pos ⟨e,Nat.zero_le _,hb'⟩]
      rcases(by omega:b=0\/b=1)with rfl|rfl<;>exact BP _
     rw[if_neg e,if_neg fun h=>e h.1];exact BP _
    ·have y1:y≠ .n nx1:=by rintro rfl;rw[hs1.fre nx1 (Nat.le_refl _)]at hc;cases hc
     have y2:y≠ .n (nx1+1):=by rintro rfl;rw[hs1.fre (nx1+1) (by omega)]at hc;cases hc
     rw[Ae,if_neg y2,Ae,if_neg y1,Ac,if_neg hy,Ac,if_neg hy];exact hc
    simp only[hL,Ac,hb1,nb2,q2,k2,↓reduceIte,reduceCtorEq,Nat.reduceEqDiff,go_sem]
    exact⟨Cs (by omega),Cs (by omega)⟩
  have f2:((t:Int)<(l.1:Int))=False:=eq_false (by omega)
  obtain rfl:t=l.1:=by omega
  simp only[f2,Ac,e0,e1,Int.toNat_natCast,↓reduceIte,reduceCtorEq,Nat.reduceEqDiff,Nat.reduceAdd,Int.reduceToNat,Int.reduceLE,go_sem]
  have w1:(((CO de l l.1).length:Int)-0).toNat=(CO de l l.1).length:=by omega
  have w2:((l.1:Int)-((CO de l l.1).length:Int)).toNat=l.1-(CO de l l.1).length:=by omega
  rw[w1,w2]
  have hrow:(fun i j=>if(CO de l l.1).length<=i/\i<(CO de l l.1).length+(l.1-(CO de l l.1).length)then Az (.cons (.int .i64 0) (.cons (.int .i64 0) .nil)) j else(R i).c j)=fun i j=>((fun i=>if(CO de l l.1).length<=i/\i<(CO de l l.1).length+(l.1-(CO de l l.1).length)then(⟨0,0⟩:Hr)else R i) i).c j:=by
   funext i j
   by_cases e:(CO de l l.1).length<=i/\i<(CO de l l.1).length+(l.1-(CO de l l.1).length)
   ·simp only[if_pos e]
    rcases j with _|_|j<;>rfl
   simp only[if_neg e]
  rw[hrow]
  refine⟨by omega,by omega,by omega,by omega,by omega,hK2 _ _ _ _ (by omega) (fun q hq=> ?_) ((Ac _ _ _ _).trans (if_pos rfl)) ?_ (fun y v hy hc=> ?_) hnn⟩
  ·show(if(CO de l l.1).length<=q/\q<(CO de l l.1).length+(l.1-(CO de l l.1).length)then(⟨0,0⟩:Hr)else R q)=_
   rw[if_neg (by omega)];exact p4 q hq
  ·have p2:p≠h:=fun e=>by rw[<-e,hp]at hh;cases hh
   have z2':z≠h:=fun e=>by rw[z2]at e;exact e
   have d2':d≠h:=fun e=>by rw[d2]at e;exact e
   exact(hs1.other z2' p2 d2' (by omega) fun _=>rfl).other z2' p2 d2' (by omega) fun _=>rfl
  rw[Ac,if_neg hy,Ac,if_neg hy];exact hold y v hc
end Go.Proofs.YtlieoghhkioflaaGreat
namespace Go.Proofs.YtlieoghhkioflaaGreat
open Go Go.RowKit
variable{b:Bk}{N j:Nat}{P:Pz}
theorem NB{n:Int}{p q:Nat->Int}{k:Nat}(h:∀i,i<k->p i=q i){i:Nat}(hi:i<k):FH n p k i=FH n q k i:=by
 have hs:AN p k=AN q k:=ED k h
 have hf:∀j,j<k->DH n p k j=DH n q k j:=fun j hj=>by unfold DH;rw[hs,h j hj]
 have hr:∀j,j<k->FO n p k j=FO n q k j:=fun j hj=>by unfold FO;rw[hs,h j hj]
 have hb:∀j,j<k->DP n p k j i=DP n q k j i:=fun j hj=>by unfold DP;rw[hr j hj,hr i hi]
 have hl:DJ n p k=DJ n q k:=by unfold DJ;rw[ED k hf]
 unfold FH
 rw[hf i hi,hl,K3 k hb]
theorem MF(ow:Nat->Int)(f:Int){a:Nat}:∀d,(∀q,a<=q->q<a+d->ow q≠f)->EJ ow f (a+d)=EJ ow f a
 |0,_=>rfl
 |d+1,h=>by
  have:=MF ow f d fun q h1 h2=>h q h1 (by omega)
  rw[<-Nat.add_assoc,PL,if_neg (h (a+d) (by omega) (by omega)),this]
def nO(P:Pz)(f:Int):Nat->Int
 |0=>0
 |j+1=>if(P.2 j).owner=f then nO P f j+((P.2 j).turn.til-(P.2 j).turn.fro)else nO P f j
theorem U8(hk:BG N P)(hr:Rp P b)(f:Int):∀j,j<=P.1->∃e:Nat,nO P f j=(EJ b.ow.2 f e:Nat)/\(j<P.1->(P.2 j).turn.fro=e)/\(j=P.1->e=N)
 |0,_=>⟨0,rfl,fun _=>hk.beg,fun h=>by have:=hk.pos;omega⟩
 |j+1,hj=>by
  obtain⟨e,e1,e2,_⟩:=U8 hk hr f j (by omega)
  have e2:=e2 (by omega)
  have hl:=hk.lt j (by omega)
  obtain⟨d,hd⟩:∃d:Nat,(P.2 j).turn.til=((e+d:Nat):Int):=⟨((P.2 j).turn.til-e).toNat,by omega⟩
  have how:∀q,e<=q->q<e+d->b.ow.2 q=(P.2 j).owner:=fun q h1 h2=>hr.ow j (by omega) q (by omega) (by omega)
  refine⟨e+d,?_,fun h=>by rw[hk.nxt j h,hd],fun h=> ?_⟩
  ·rw[nO]
   by_cases ho:(P.2 j).owner=f
   ·rw[if_pos ho,e1,LJ b.ow.2 f d fun q h1 h2=>(how q h1 h2).trans ho,hd,e2];omega
   rw[if_neg ho,e1,MF b.ow.2 f d fun q h1 h2 h3=>ho ((how q h1 h2).symm.trans h3)]
  have:=hk.fin
  rw[<-h,Nat.add_sub_cancel,hd]at this
  omega
theorem Yv(hk:BG N P)(hr:Rp P b)(f:Int):nO P f P.1=(EJ b.ow.2 f N:Nat):=by
 obtain⟨e,e1,_,e3⟩:=U8 hk hr f P.1 (Nat.le_refl _)
 rw[e1,e3 rfl]
theorem Mf(hk:BG N P)(hr:Rp P b)(f:Int)(hj:j<=P.1):0<=nO P f j/\nO P f j<=N:=by
 obtain⟨e,e1,e2,e3⟩:=U8 hk hr f j hj
 have h1:EJ b.ow.2 f e<=e:=G9 _ _
 have h2:e<=N:=by
  by_cases h:j=P.1
  ·have:=e3 h;omega
  have:=e2 (by omega);have:=hk.rng (show j<P.1 by omega);have:=hk.lt j (by omega);omega
 omega
theorem Zh(P:Pz)(f:Int)(k:Nat):(CM P f 0).2 k=P.2 k:=by
 show(if k<0/\(P.2 k).lent=f then{P.2 k with lent:=0,til:=0}else P.2 k)=P.2 k
 rw[if_neg (by omega)]
theorem U1(P:Pz)(f:Int)(j:Nat):(CM P f j).2 j=P.2 j:=by
 show(if j<j/\(P.2 j).lent=f then{P.2 j with lent:=0,til:=0}else P.2 j)=P.2 j
 rw[if_neg (by omega)]
theorem SB{f:Int}(h:(P.2 j).lent≠f)(k:Nat):(CM P f (j+1)).2 k=(CM P f j).2 k:=by
 show(if k<j+1/\(P.2 k).lent=f then{P.2 k with lent:=0,til:=0}else P.2 k)=if k<j/\(P.2 k).lent=f then{P.2 k with lent:=0,til:=0}else P.2 k
 by_cases e:k=j
 ·subst e;rw[if_neg fun h'=>h h'.2,if_neg fun h'=>h h'.2]
 by_cases e2:k<j/\(P.2 k).lent=f
 ·rw[if_pos e2,if_pos ⟨by omega,e2.2⟩]
 rw[if_neg e2,if_neg fun h'=>e2 ⟨by omega,h'.2⟩]
theorem Si{f:Int}(h:(P.2 j).lent=f)(k b:Nat):((CM P f (j+1)).2 k).c b=if k=j/\4<=b/\b<5 then Az (.cons (.int .i64 0) .nil) (b-4)else if k=j/\3<=b/\b<4 then Az (.cons (.int .i64 0) .nil) (b-3)else((CM P f j).2 k).c b:=by
 by_cases e:k=j
 ·subst e
  rw[U1]
  show(if k<k+1/\(P.2 k).lent=f then{P.2 k with lent:=0,til:=0}else P.2 k).c b=_
  rw[if_pos ⟨by omega,h⟩]
  by_cases e2:4<=b/\b<5
  ·obtain rfl:b=4:=by omega
   rw[if_pos ⟨rfl,e2⟩];rfl
  rw[if_neg fun h=>e2 h.2]
  by_cases e3:3<=b/\b<4
  ·obtain rfl:b=3:=by omega
   rw[if_pos ⟨rfl,e3⟩];rfl
  rw[if_neg fun h=>e3 h.2]
  rcases b with _|_|_|_|_|b
  ·rfl
  ·rfl
  ·rfl
  ·exact absurd ⟨by omega,by omega⟩ e3
  ·exact absurd ⟨by omega,by omega⟩ e2
  rfl
 rw[if_neg fun h=>e h.1,if_neg fun h=>e h.1]
 have:(CM P f (j+1)).2 k=(CM P f j).2 k:=by
  show(if k<j+1/\(P.2 k).lent=f then{P.2 k with lent:=0,til:=0}else P.2 k)=if k<j/\(P.2 k).lent=f then{P.2 k with lent:=0,til:=0}else P.2 k
  by_cases e2:k<j/\(P.2 k).lent=f
  ·rw[if_pos e2,if_pos ⟨by omega,e2.2⟩]
  rw[if_neg e2,if_neg fun h'=>e2 ⟨by omega,h'.2⟩]
 rw[this]
theorem W4(h:BG N P)(f:Int)(j:Nat):BG N (CM P f j):=h.same rfl fun k=>by
 show(if k<j/\(P.2 k).lent=f then{P.2 k with lent:=0,til:=0}else P.2 k).turn=_
 split<;>rfl
theorem Wb{x:De}(h:BG N P)(hr:Rp P b)(hb:Vf b N)(hH:FV x.fro x.heirs)(hf:1<=x.fro):∃g:Nat->Int,(∀j,g j≠x.fro)/\(∀i,i<(B4 b x).length->0<=A5 b x i)/\AN (A5 b x) (B4 b x).length=EJ b.ow.2 x.fro N/\(∀i,i<(B4 b x).length->∀j:Nat,AN (A5 b x) i<=j->(j:Int)<AN (A5 b x) (i+1)->g j=(hl (B4 b x) i).who)/\
  ∃le:Nat×(Nat->Int),∀i,i<=(B4 b x).length->∃c:Nat,AN (A5 b x) i=c/\BG N (Ep x.fro (fun i=>(hl (B4 b x) i).who) (A5 b x) (CM P x.fro P.1) i)/\Rp (Ep x.fro (fun i=>(hl (B4 b x) i).who) (A5 b x) (CM P x.fro P.1) i) ⟨(b.ow.1,dW b.ow.2 x.fro g c),le,b.un,b.de⟩:=by
 obtain⟨p1,p2⟩:=SJ (b:=b) hH
 have hE:BG N (CM P x.fro P.1):=W4 h _ _
 have hRE:=UN hr x.fro
 have hs0:0<AN (fun i=>(hl (B4 b x) i).parts) (B4 b x).length:=by
  have:=(I4 (fun i=>(hl (B4 b x) i).parts) (B4 b x).length fun i hi=>by have:=p2 i hi;omega).2 0 (by omega)
  have:=p2 0 (by omega)
  omega
 have hbN:b.ow.1=N:=hb.1
 have hsum:AN (A5 b x) (B4 b x).length=EJ b.ow.2 x.fro N:=by
  have:=ND (n:=(Ic b x b.ow.1:Nat)) (p:=fun i=>(hl (B4 b x) i).parts) (k:=(B4 b x).length) (by omega) hs0
  rw[show(EJ b.ow.2 x.fro N)=Ic b x b.ow.1 by rw[hbN];rfl]
  exact this
 have hnn:∀i,i<(B4 b x).length->0<=A5 b x i:=fun i hi=>Qh (by omega) (by have:=p2 i hi;omega) hs0
 have hW:∀m,dW b.ow.2 x.fro (fun j=>(hl (B4 b x) (ES (A5 b x) (B4 b x).length j)).who) 0 m=b.ow.2 m:=fun m=>by unfold dW;rw[if_neg (by omega)]
 have hg:∀i,i<(B4 b x).length->∀j:Nat,AN (A5 b x) i<=j->(j:Int)<AN (A5 b x) (i+1)->(hl (B4 b x) (ES (A5 b x) (B4 b x).length j)).who=(hl (B4 b x) i).who:=fun i hi j j1 j2=>by
  have:ES (A5 b x) (B4 b x).length j=i:=C5 hi j2 fun q hq=>by
   have:=EP (f:=A5 b x) (len:=(B4 b x).length) hnn (show q+1<=i by omega) (by omega)
   omega
  rw[this]
 exact⟨fun j=>(hl (B4 b x) (ES (A5 b x) (B4 b x).length j)).who,fun j=>Ob hf _,hnn,hsum,hg,_,HU (n:=b.ow.1) (le:=(b.le.1,fun m=>if b.le.2 m=x.fro then 0 else b.le.2 m)) (un:=b.un) (de:=b.de) (f:=x.fro) (who:=fun i=>(hl (B4 b x) i).who) (each:=A5 b x) (g:=fun j=>(hl (B4 b x) (ES (A5 b x) (B4 b x).length j)).who) (m:=(B4 b x).length) (fun j=>Ob hf _) hE
  (hRE.congr hE (fun m _=>hW m) (fun _ _=>rfl) fun _ _=>rfl) hnn hsum hg⟩
theorem Tt(f v:Int)(k:Nat)(P:Pz):Ev f v k P 0=P:=by
 cases k with
 |zero=>rfl
 |succ k=>rw[Ev,if_neg (by omega)]
end Go.Proofs.YtlieoghhkioflaaGreat
