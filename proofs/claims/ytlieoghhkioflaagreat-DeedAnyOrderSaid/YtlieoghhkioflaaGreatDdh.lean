/- Deeds: a death, walked. No condition but bounds. -/
import Derived.Test.YtlieoghhkioflaaGreatDdl
set_option linter.unusedSimpArgs false
set_option linter.unusedVariables false
set_option maxRecDepth 100000
namespace Go.Proofs.YtlieoghhkioflaaGreat
open Go Go.RowKit
variable{G:Nat->Option (Nat×(Nat->Ad))}
def II(p d:Nat)(bx bx':Bx):Prop:=∀y v,y≠ .n p->y≠ .n d->Ab bx y=some v->Ab bx' y=some v
theorem D2.mset{r:Ro}{z p d:Nat}{P:Pz}{has:Int->Bool}{mf:Int->Ad}{bx:Bx}{nx:Nat}(hs:D2 r z p d P has mf bx nx)(has':Int->Bool)(mf':Int->Ad)(hm:∀v k,Bc (.n p) v (mf' k)=mf' k):D2 r z p d P has' mf' (Aj bx (.n d) (.mp .i64 has' mf')) nx:=by
 have zd:=hs.zd;have dp:=hs.dp
 refine⟨?_,?_,?_,hs.zn,hs.pn,hs.dn,hs.zp,dp,zd,fun y hy=> ?_,fun y b hy hb v=> ?_⟩
 ·rw[Ac,if_neg (by simp;omega)];exact hs.hz
 ·rw[Ac,if_neg (by simp;omega)];exact hs.hp
 ·rw[Ac,if_pos rfl]
 ·have:=hs.dn;rw[Ac,if_neg (by simp;omega)];exact hs.fre y hy
 rw[Ac]at hb
 split at hb
 ·cases hb
  simp only[BU]
  congr 1
  funext k;exact hm v k
 exact hs.oth y b hy hb v
theorem VH(P:Pz)(k:Nat)(v:Int)(a b:Nat):((setO P k k v).2 a).c b=if a=k/\2<=b/\b<3 then Az (.cons (.int .i64 v) .nil) (b-2)else(P.2 a).c b:=by
 have h:=MC P (Nat.le_refl k) v
 rw[<-h,show k+1-k=0+1 by omega]
 show(JG P k v (0+1) a).c b=_
 rw[SE,Tk,Nat.add_zero]
def HW(has:Int->Bool)(f k:Int):Bool:=if k=f then true else has k
def RK(mf:Int->Ad)(f k:Int):Ad:=if k=f then .bool true else mf k
set_option maxHeartbeats 4000000 in
theorem Q7{Q:Ad->Bx->Prop}{r:Ro}{z p d N:Nat}{P:Pz}{has:Int->Bool}{mf:Int->Ad}{bx:Bx}{nx:Nat}{x:De}{b:Bk}{f:Av}{stk:List Av}{B:Nat}(hB:5000<=B)(hs:D2 r z p d P has mf bx nx)(hk:BG N P)(hN:N<=23040)(hr:Rp P b)(hbN:Vf b N)(hH:FV x.fro x.heirs)(hf:1<=x.fro/\x.fro<=9999)(hit:noIt (.n d) bx)(hm:∀k,has k=true->mf k= .bool true)(hmp:∀v k,Bc (.n p) v (mf k)=mf k)(hde:∀k:Int,0<=k->k<=9999->has k=b.de.2 k.toNat)(HS:∀v,AC (.n p) v stk=stk)(HF:∀v,AK (.n p) v f.fr=f.fr)
  (hK:∀B' bx' nx',B<=B'+5000->D2 r z p d (Ep x.fro (fun i=>(hl (B4 b x) i).who) (A5 b x) (CM P x.fro P.1) (B4 b x).length) (HW has x.fro) (RK mf x.fro) bx' nx'->II p d bx bx'->nx<=nx'->AA (HQ G) Q B' f.K stk f.res (Ai f.fr f.d (.tup .nil)) bx' nx'):
  AA (HQ G) Q B [.code UV.code] (f::stk) UV.res (params 0 [.ptr (.n z) 0,.agg x.L]) bx nx:=by
 obtain⟨B,rfl⟩:∃m,B=m+4990:=⟨B-4990,by omega⟩
 have hz:=hs.hz;have hp:=hs.hp;have hd:=hs.hd;have zn:=hs.zn;have pn:=hs.pn;have dn:=hs.dn;have zp:=hs.zp;have dp:=hs.dp;have zd:=hs.zd
 have n1:(nx=z)=False:=eq_false (by omega)
 have n2:(nx=p)=False:=eq_false (by omega)
 have n3:(nx=d)=False:=eq_false (by omega)
 have n4:(nx+1=z)=False:=eq_false (by omega)
 have n5:(nx+1=p)=False:=eq_false (by omega)
 have n6:(nx+1=d)=False:=eq_false (by omega)
 have n7:(nx+1=nx)=False:=eq_false (by omega)
 have m1:(z=nx)=False:=eq_false (by omega)
 have m2:(p=nx)=False:=eq_false (by omega)
 have m3:(d=nx)=False:=eq_false (by omega)
 have m4:(z=nx+1)=False:=eq_false (by omega)
 have m5:(p=nx+1)=False:=eq_false (by omega)
 have m6:(d=nx+1)=False:=eq_false (by omega)
 have m7:(nx=nx+1)=False:=eq_false (by omega)
 have m8:(d=z)=False:=eq_false (by omega)
 have m9:(z=d)=False:=eq_false (by omega)
 have hit':noIt (.n d) bx=True:=eq_true hit
 obtain⟨h1,h2,h3⟩:=hH
 have hlw:(x.heirs.1<=9223372036854775807)=True:=eq_true (by omega)
 have hl1:(x.heirs.1<=1000)=True:=eq_true (by omega)
 have hl2:(1<=x.heirs.1)=True:=eq_true (by omega)
 have hXok:=T1 (b:=b) (x:=x) ⟨h1,h2,h3⟩ hf.1
 refine Z4 (E:=HQ G) (Q:=Q) (c:= ?c2) (K:= ?K2) (stk:=f::stk) (res:= ?res2) (H:=fun m fr bx1 nx1=>∃(hh M k:Nat) (c:Nat->Nat->Ad) (ph:Nat) (ev:Nat->Nat->Ad),B+3000<=m/\D2 r z p d (CM P x.fro P.1) (HW has x.fro) (RK mf x.fro) bx1 nx1/\(∀y v,y≠ .n p->y≠ .n d->Ab bx y=some v->Ab bx1 y=some v)/\nx+2<=nx1/\Ab bx1 (.n nx)=some (.cells (.cons (.ptr (.n z) 0) .nil))/\Ab bx1 (.n (nx+1))=some (.cells x.L)/\
   Au fr 2= .ptr (.n nx) 0/\Au fr 3= .ptr (.n (nx+1)) 0/\Au fr 77= .own (.n ph)/\Ab bx1 (.n ph)=some (.row 3 1 M ev)/\(∀i,i<M->ev i 0= .int .i64 (A5 b x i))/\Au fr 78= .int .i64 M/\Au fr 79= .int .i64 0/\Ab bx1 (.n hh)=some (.row 140 2 k c)/\(Au fr 4= .own (.n hh)/\k=M\/Au fr 4= .osl (.n hh) 0 M/\M<=k)/\M=(B4 b x).length/\∀q,q<M->∀j,j<2->c q j=(hl (B4 b x) q).c j) ?key2 ?main2
 case main2=>
  intro key2
  refine Z4 (E:=HQ G) (Q:=Q) (c:= ?c) (K:= ?K) (stk:=f::stk) (res:= ?res) (H:=fun m fr bx1 nx1=>∃(hh M k:Nat) (c:Nat->Nat->Ad),B+4000<=m/\D2 r z p d P (HW has x.fro) (RK mf x.fro) bx1 nx1/\(∀y v,y≠ .n d->Ab bx y=some v->Ab bx1 y=some v)/\nx+2<=nx1/\Ab bx1 (.n nx)=some (.cells (.cons (.ptr (.n z) 0) .nil))/\Ab bx1 (.n (nx+1))=some (.cells x.L)/\
    Au fr 2= .ptr (.n nx) 0/\Au fr 3= .ptr (.n (nx+1)) 0/\Au fr 5= .int .i64 0/\Au fr 31= .int .i64 P.1/\Au fr 32= .int .i64 0/\Ab bx1 (.n hh)=some (.row 140 2 k c)/\(Au fr 4= .own (.n hh)/\k=M\/Au fr 4= .osl (.n hh) 0 M/\M<=k)/\M=(B4 b x).length/\∀q,q<M->∀j,j<2->c q j=(hl (B4 b x) q).c j) ?key ?main
  case main=>
   intro key
   simp only[UV,Om,hz,hd,hit',hlw,hl1,hl2,n1,n3,n4,n6,n7,↓reduceIte,reduceCtorEq,Nat.reduceEqDiff,Nat.reduceAdd,Nat.reduceSub,Nat.reduceLeDiff,Nat.reduceLT,Nat.reducePow,go_sem]
   have hmX:∀v k,Bc (.n p) v (RK mf x.fro k)=RK mf x.fro k:=fun v k=>by
    unfold RK
    split
    ·rfl
    exact hmp v k
   have hs1:=hs.mset (HW has x.fro) (RK mf x.fro) hmX
   have hs2:=hs1.cons (c:= .cells (.cons (.ptr (.n z) 0) .nil)) fun v=>by simp only[BU,zp,↓reduceIte,go_sem]
   have hs3:=hs2.cons (c:= .cells x.L) fun _=>rfl
   have hs4:=hs3.cons (c:= .row 140 2 x.heirs.1 fun i j=>(x.heirs.2 i).c j) fun _=>rfl
   have hdX:∀i,i<x.heirs.1->HW has x.fro (x.heirs.2 i).who=Kw b x (x.heirs.2 i).who.toNat:=fun i hi=>by
    obtain⟨g1,g2,g3,g4,g5,_⟩:=h3 i hi
    unfold HW Kw
    rw[if_neg g3,if_neg (by omega)]
    exact hde _ (by omega) g2
   have hmT:∀k,HW has x.fro k=true->RK mf x.fro k= .bool true:=fun k h=>by
    unfold HW at h
    unfold RK
    by_cases e:k=x.fro
    ·rw[if_pos e]
    rw[if_neg e]at h⊢;exact hm k h
   have hold0:∀y v,y≠ .n d->Ab bx y=some v->y≠ .n nx/\y≠ .n (nx+1)/\y≠ .n (nx+1+1)/\Ab (Aj bx (.n d) (.mp .i64 (HW has x.fro) (RK mf x.fro))) y=some v:=fun y v hy hb=>by
    refine⟨?_,?_,?_,by rw[Ac,if_neg hy];exact hb⟩<;>rintro rfl
    ·rw[hs.fre nx (Nat.le_refl _)]at hb;cases hb
    ·rw[hs.fre (nx+1) (by omega)]at hb;cases hb
    rw[hs.fre (nx+1+1) (by omega)]at hb;cases hb
   refine WI (h:=nx+1+1) (nb:=nx) (l:=x.heirs) (de:=Kw b x) (by omega) hs4 ?_ ?_ h2 hmT hdX (fun B1 bx1 nx1 hB1 hal hs5 hh1 hn1=> ?_) fun B1 bx1 nx1 R hB1 hR hrow hs5 hh1 hn1=> ?_
   ·rw[Ae,if_pos rfl]
   ·rw[Ae,if_neg (by simp;omega),Ae,if_neg (by simp),Ae,if_pos rfl]
   ·obtain⟨B1,rfl⟩:∃m,B1=m+100:=⟨B1-100,by omega⟩
    have hh2:=hh1 (.n (nx+1+1)) _ (by rw[Ae,if_pos rfl])
    have hb2:Ab bx1 (.n nx)=some (.cells (.cons (.ptr (.n z) 0) .nil)):=hh1 _ _ (by rw[Ae,if_neg (by simp;omega),Ae,if_neg (by simp),Ae,if_pos rfl])
    have hx2:Ab bx1 (.n (nx+1))=some (.cells x.L):=hh1 _ _ (by rw[Ae,if_neg (by simp),Ae,if_pos rfl];rfl)
    have hz2:=hs5.hz;have hp2:=hs5.hp
    have f0:((x.heirs.1:Int)==0)=false:=beq_eq_false_iff_ne.2 (by omega)
    have f1:((x.heirs.1:Int)=0)=False:=eq_false (by omega)
    simp only[hh2,hb2,hz2,hp2,f0,↓reduceIte,Nat.reduceEqDiff,Nat.reduceAdd,Nat.reduceLeDiff,go_sem]
    refine key _ _ _ _ ?_
    have hA:=L7 (de:=Kw b x) (l:=x.heirs) x.heirs.1 hal
    have hX:B4 b x=CO (Kw b x) x.heirs x.heirs.1:=if_neg (by rw[hA.1];omega)
    refine⟨nx+1+1,x.heirs.1,x.heirs.1,_,by omega,hs5,fun y v hy hb=>hh1 y v ?_,by omega,hb2,hx2,rfl,rfl,rfl,rfl,rfl,hh2,.inl ⟨rfl,rfl⟩,by rw[hX,hA.1],fun q hq j _=>by rw[hX,hA.2 q hq]⟩
    obtain⟨y1,y2,y3,y4⟩:=hold0 y v hy hb
    rw[Ae,if_neg y3,Ae,if_neg y2,Ae,if_neg y1];exact y4
   obtain⟨B1,rfl⟩:∃m,B1=m+100:=⟨B1-100,by omega⟩
   have hb2:Ab bx1 (.n nx)=some (.cells (.cons (.ptr (.n z) 0) .nil)):=hh1 _ _ (by simp;omega) (by rw[Ae,if_neg (by simp;omega),Ae,if_neg (by simp),Ae,if_pos rfl])
   have hx2:Ab bx1 (.n (nx+1))=some (.cells x.L):=hh1 _ _ (by simp) (by rw[Ae,if_neg (by simp),Ae,if_pos rfl];rfl)
   have hz2:=hs5.hz;have hp2:=hs5.hp
   have q1:(nx1=nx)=False:=eq_false (by omega)
   have q2:(nx1=z)=False:=eq_false (by omega)
   have q3:(nx1=p)=False:=eq_false (by omega)
   have q4:(nx1=nx+1)=False:=eq_false (by omega)
   by_cases hz0:(CO (Kw b x) x.heirs x.heirs.1).length=0
   ·have f0:(((CO (Kw b x) x.heirs x.heirs.1).length:Int)==0)=true:=beq_iff_eq.2 (by omega)
    have f1:(((CO (Kw b x) x.heirs x.heirs.1).length:Int)=0)=True:=eq_true (by omega)
    simp only[hb2,hz2,hp2,f0,q1,q2,q3,↓reduceIte,Nat.reduceEqDiff,Nat.reduceAdd,Nat.reduceLeDiff,Nat.reduceLT,go_sem]
    refine key _ _ _ _ ?_
    have hX:B4 b x=[⟨0,1⟩]:=if_pos hz0
    have hs6:=hs5.cons (c:= .row 140 2 1 fun i j=>Az (Az (.cons (.cons (.int .i64 0) (.cons (.int .i64 1) .nil)) .nil) i) j) fun _=>rfl
    have hcs:∀y v,Ab bx1 y=some v->Ab ((nx1,.one (.row 140 2 1 fun i j=>Az (Az (.cons (.cons (.int .i64 0) (.cons (.int .i64 1) .nil)) .nil) i) j))::bx1) y=some v:=fun y v hb=>by
     rw[Ae,if_neg]
     ·exact hb
     rintro rfl;rw[hs5.fre nx1 (Nat.le_refl _)]at hb;cases hb
    refine⟨nx1,1,1,_,by omega,hs6,fun y v hy hb=>hcs _ _ (hh1 y v ?_ ?_),by omega,hcs _ _ hb2,hcs _ _ hx2,rfl,rfl,rfl,rfl,rfl,(Ae _ _ _ _).trans (if_pos rfl),.inl ⟨rfl,rfl⟩,by rw[hX];rfl,fun q hq j hj=> ?_⟩
    ·exact(hold0 y v hy hb).2.2.1
    ·obtain⟨y1,y2,y3,y4⟩:=hold0 y v hy hb
     rw[Ae,if_neg y3,Ae,if_neg y2,Ae,if_neg y1];exact y4
    obtain rfl:q=0:=by omega
    rw[hX]
    rcases(by omega:j=0\/j=1)with rfl|rfl<;>rfl
   have f0:(((CO (Kw b x) x.heirs x.heirs.1).length:Int)==0)=false:=beq_eq_false_iff_ne.2 (by omega)
   have f1:(((CO (Kw b x) x.heirs x.heirs.1).length:Int)=0)=False:=eq_false (by omega)
   simp only[hb2,hz2,hp2,f0,↓reduceIte,Nat.reduceEqDiff,Nat.reduceAdd,Nat.reduceLeDiff,go_sem]
   refine key _ _ _ _ ?_
   have hX:B4 b x=CO (Kw b x) x.heirs x.heirs.1:=if_neg hz0
   refine⟨nx+1+1,(CO (Kw b x) x.heirs x.heirs.1).length,x.heirs.1,_,by omega,hs5,fun y v hy hb=>hh1 y v ?_ ?_,by omega,hb2,hx2,rfl,rfl,rfl,rfl,rfl,hrow,.inr ⟨rfl,LZ _ _ _⟩,by rw[hX],fun q hq j _=>by rw[hX,<-hR q hq]⟩
   ·exact(hold0 y v hy hb).2.2.1
   obtain⟨y1,y2,y3,y4⟩:=hold0 y v hy hb
   rw[Ae,if_neg y3,Ae,if_neg y2,Ae,if_neg y1];exact y4
  case key=>
   rintro m fr bx1 nx1 ⟨hh,M,k,cc,hmB,hs1,hold,hnn,hb1,hx1,e2,e3,e5,e31,e32,hh1,hv,hM,hc⟩
   obtain⟨m,rfl⟩:∃m',m=m'+3990:=⟨m-3990,by omega⟩
   have hp1:=hs1.hp;have hz1:=hs1.hz
   simp only[go_sem]at hx1
   have hhp:hh≠p:=fun e=>by rw[e,hp1]at hh1;cases hh1
   have r1:(hh=p)=False:=eq_false hhp
   have r2:(p=hh)=False:=eq_false fun e=>hhp e.symm
   have m10:(z=p)=False:=eq_false zp
   have m11:(p=z)=False:=eq_false fun e=>zp e.symm
   have hlP:=hk.len
   rcases hv with⟨e4,hkM⟩|⟨e4,hkM⟩
   all_goals try (have hkM':M=k:=Eq.symm hkM;clear hkM;subst hkM')
   all_goals
    refine Ie (ι:=Nat) (fun j=>j<=P.1) (fun j=>P.1-j) [2,3,4,31] (fun j=>[(32,.int .i64 j),(5,.int .i64 (nO P x.fro j))]) (.n p) (fun j=> .row 107 5 P.1 fun a b=>((CM P x.fro j).2 a).c b) hp1 0 (Nat.zero_le _) (fun N D=>⟨rfl,rfl,rfl,fun i _ b _=>(by show AB (((CM P x.fro 0).2 i).c b) ((P.2 i).c b);rw[Zh];exact BP _)⟩) ?_ fun j hj=> ?_
    ·simp only[nO,e2,e3,e4,e5,e31,e32,hb1,hx1,hh1,Ac,r1,n2,n5,↓reduceIte,reduceCtorEq,go_sem]
     try exact⟨rfl,_,by rw[Ac,if_neg (by simp;exact hhp)];exact hh1⟩
    rcases Nat.lt_or_ge j P.1 with hjl|hjg
    ·have f1:((j:Int)<(P.1:Int))=True:=eq_true (by omega)
     have hEj:=U1 P x.fro j
     have hng:=Mf hk hr x.fro hj
     have hng2:=Mf hk hr x.fro (show j+1<=P.1 by omega)
     have hrg:=hk.rng hjl
     have hlt:=hk.lt j hjl
     have o2:nO P x.fro (j+1)=if(P.2 j).owner=x.fro then nO P x.fro j+((P.2 j).turn.til-(P.2 j).turn.fro)else nO P x.fro j:=rfl
     have w0:IntKind.i64.wrap ((P.2 j).turn.til-(P.2 j).turn.fro)=(P.2 j).turn.til-(P.2 j).turn.fro:=AU (by omega) (by omega)
     have fin:∀{bx2:Bx} {c1:Cw} {v5:Int} {fr2:Fr},Ab bx2 (.n p)=some c1->(∀y,y≠ .n p->Ab bx2 y=Ab bx1 y)->(∀N D,By N D (some c1) (.row 107 5 P.1 fun a b=>((CM P x.fro (j+1)).2 a).c b))->DZ (BT bx2 (Aj bx1 (.n p) (.row 107 5 P.1 fun a b=>((CM P x.fro (j+1)).2 a).c b))) (Fc (Aj bx1 (.n p) (.row 107 5 P.1 fun a b=>((CM P x.fro (j+1)).2 a).c b))) fr2 (F2 [(32,.int .i64 ((j+1:Nat):Int)),(5,.int .i64 (nO P x.fro (j+1)))] (D0 [2,3,4,31] fr))->∃m',m'<P.1-j/\∃fr'' bx'',F8 (fun j=>j<=P.1) (fun j=>P.1-j) (fun i=>F2 [(32,.int .i64 ((i:Nat):Int)),(5,.int .i64 (nO P x.fro i))] (D0 [2,3,4,31] fr)) (fun i=>Aj bx1 (.n p) (.row 107 5 P.1 fun a b=>((CM P x.fro i).2 a).c b)) m' fr'' bx''/\GU (f.nx::Ez stk) bx1 fr2 bx2 fr'' bx'' nx1 nx1:=fun{bx2 c1 v5 fr2} g1 g2 g3 g4=>
      JP hp1 (j+1) hjl (by omega) g1 g3 (fun y hy c hc=>by rw[g2 y hy];exact hc) g4
     simp only[e2,e3,e4,e31,D0,F2]at fin
     by_cases ho:(P.2 j).owner=x.fro
     ·rw[if_pos ho]at o2
      have o1:((P.2 j).owner=x.fro)=True:=eq_true ho
      by_cases hl:(P.2 j).lent=x.fro
      ·have l1:((P.2 j).lent=x.fro)=True:=eq_true hl
       simp only[f1,hEj,o1,l1,w0,e2,e3,e4,e31,hb1,hx1,hz1,Ac,n2,n5,m10,Int.toNat_natCast,↓reduceIte,Nat.reduceEqDiff,Nat.reduceAdd,Nat.reduceLeDiff,go_sem]
       refine⟨by omega,fin (v5:=0) ((Ac _ _ _ _).trans (if_pos rfl)) (fun y hy=>by rw[Ac,if_neg hy,Ac,if_neg hy,Ac,if_neg hy]) (fun N D=>⟨rfl,rfl,rfl,fun i _ b' _=> ?_⟩) ?_⟩
       ·show AB (((CM P x.fro (j+1)).2 i).c b') _
        rw[Si hl];exact BP _
       simp only[o2,hb1,hx1,hh1,Ac,r1,n2,n5,↓reduceIte,reduceCtorEq,Nat.reduceEqDiff,go_sem]
       rw[Cs (by omega),AU (by omega) (by omega)]
       try first
        |exact⟨rfl,rfl⟩
        |exact⟨rfl,rfl,rfl,_,by rw[Ac,if_neg (by simp;exact hhp)];exact hh1⟩
      have l1:((P.2 j).lent=x.fro)=False:=eq_false hl
      simp only[f1,hEj,o1,l1,w0,e2,e3,e4,e31,hb1,hx1,hz1,Ac,n2,n5,m10,Int.toNat_natCast,↓reduceIte,Nat.reduceEqDiff,Nat.reduceAdd,Nat.reduceLeDiff,go_sem]
      refine⟨by omega,fin (v5:=0) ((Ac _ _ _ _).trans (if_pos rfl)) (fun y hy=>by rw[Ac,if_neg hy]) (fun N D=>⟨rfl,rfl,rfl,fun i _ b' _=> ?_⟩) ?_⟩
      ·show AB (((CM P x.fro (j+1)).2 i).c b') (((CM P x.fro j).2 i).c b')
       rw[SB hl];exact BP _
      simp only[o2,hb1,hx1,hh1,Ac,r1,n2,n5,↓reduceIte,reduceCtorEq,Nat.reduceEqDiff,go_sem]
      rw[Cs (by omega),AU (by omega) (by omega)]
      try first
       |exact⟨rfl,rfl⟩
       |exact⟨rfl,rfl,rfl,_,by rw[Ac,if_neg (by simp;exact hhp)];exact hh1⟩
     rw[if_neg ho]at o2
     have o1:((P.2 j).owner=x.fro)=False:=eq_false ho
     by_cases hl:(P.2 j).lent=x.fro
     ·have l1:((P.2 j).lent=x.fro)=True:=eq_true hl
      simp only[f1,hEj,o1,l1,w0,e2,e3,e4,e31,hb1,hx1,hz1,Ac,n2,n5,m10,Int.toNat_natCast,↓reduceIte,Nat.reduceEqDiff,Nat.reduceAdd,Nat.reduceLeDiff,go_sem]
      refine⟨by omega,fin (v5:=0) ((Ac _ _ _ _).trans (if_pos rfl)) (fun y hy=>by rw[Ac,if_neg hy,Ac,if_neg hy,Ac,if_neg hy]) (fun N D=>⟨rfl,rfl,rfl,fun i _ b' _=> ?_⟩) ?_⟩
      ·show AB (((CM P x.fro (j+1)).2 i).c b') _
       rw[Si hl];exact BP _
      simp only[o2,hb1,hx1,hh1,Ac,r1,n2,n5,↓reduceIte,reduceCtorEq,Nat.reduceEqDiff,go_sem]
      rw[Cs (by omega)]
      try first
       |exact rfl
       |exact⟨rfl,rfl,_,by rw[Ac,if_neg (by simp;exact hhp)];exact hh1⟩
     have l1:((P.2 j).lent=x.fro)=False:=eq_false hl
     simp only[f1,hEj,o1,l1,w0,e2,e3,e4,e31,hb1,hx1,hz1,Ac,n2,n5,m10,Int.toNat_natCast,↓reduceIte,Nat.reduceEqDiff,Nat.reduceAdd,Nat.reduceLeDiff,go_sem]
     refine⟨by omega,fin (v5:=0) ((Ac _ _ _ _).trans (if_pos rfl)) (fun y hy=>by rw[Ac,if_neg hy]) (fun N D=>⟨rfl,rfl,rfl,fun i _ b' _=> ?_⟩) ?_⟩
     ·show AB (((CM P x.fro (j+1)).2 i).c b') (((CM P x.fro j).2 i).c b')
      rw[SB hl];exact BP _
     simp only[o2,hb1,hx1,hh1,Ac,r1,n2,n5,↓reduceIte,reduceCtorEq,Nat.reduceEqDiff,go_sem]
     rw[Cs (by omega)]
     try first
      |exact rfl
      |exact⟨rfl,rfl,_,by rw[Ac,if_neg (by simp;exact hhp)];exact hh1⟩
    have f1:((j:Int)<(P.1:Int))=False:=eq_false (by omega)
    obtain rfl:j=P.1:=by omega
    simp only[f1,TV,As.mine,Ak,Ag,AZ,XR,e2,e3,e4,e31,hh1,Ac,r1,↓reduceIte,Nat.reduceEqDiff,Nat.reduceAdd,Nat.reduceSub,Nat.reduceLT,Nat.reducePow,go_sem]
    refine⟨fun i hi=>⟨?_,?_⟩,?_,?_,?_,?_,fun q hq=> ?_,fun _=> ?_⟩
    ·show cc i 0= .int .i64 (cc i 0).toInt
     rw[hc i (by omega) 0 (by omega)];rfl
    ·show cc i 1= .int .i64 (cc i 1).toInt
     rw[hc i (by omega) 1 (by omega)];rfl
    ·exact(Mf hk hr x.fro (Nat.le_refl _)).1
    ·have:=(Mf hk hr x.fro (Nat.le_refl _)).2;omega
    ·omega
    ·omega
    ·rw[hc q (by omega) 1 (by omega)]
     have:=hXok.2.2 q (by omega)
     exact⟨this.2.2.2.1,this.2.2.2.2⟩
    refine key2 _ _ _ _ ?_
    have hsA:=(hs1.row (P':=CM P x.fro P.1) (bx':=Aj bx1 (.n p) (.row 107 5 P.1 fun a b=>((CM P x.fro P.1).2 a).c b)) ((Ac _ _ _ _).trans (if_pos rfl)) fun y hy=>by rw[Ac,if_neg hy])
    have hcn:∀y v,Ab (Aj bx1 (.n p) (.row 107 5 P.1 fun a b=>((CM P x.fro P.1).2 a).c b)) y=some v->∀c,Ab ((nx1,.one c)::Aj bx1 (.n p) (.row 107 5 P.1 fun a b=>((CM P x.fro P.1).2 a).c b)) y=some v:=fun y v hb c=>by
     rw[Ae,if_neg]
     ·exact hb
     rintro rfl;rw[hsA.1.fre nx1 (Nat.le_refl _)]at hb;cases hb
    refine⟨hh,M,_,cc,nx1,_,by omega,hsA.1.cons fun _=>rfl,fun y v hy1 hy2 hb=>hcn _ _ (hsA.2 y v hy1 (hold y v hy2 hb)) _,by omega,hcn _ _ (hsA.2 _ _ (by simp;omega) hb1) _,hcn _ _ (hsA.2 _ _ (by simp;omega) hx1) _,rfl,rfl,rfl,(Ae _ _ _ _).trans (if_pos rfl),fun i hi=> ?_,?_,rfl,hcn _ _ (hsA.2 _ _ (by simp;omega) hh1) _,?_,hM,hc⟩
    ·refine congrArg (Ad.int .i64) ?_
     have hno:nO P x.fro P.1=((Ic b x b.ow.1:Nat):Int):=by rw[Yv hk hr x.fro,hbN.1];rfl
     unfold A5
     rw[hno,<-hM]
     exact NB (fun q hq=>by rw[hc q hq 1 (by omega)];rfl) hi
    ·rfl
    first
     |exact .inl ⟨rfl,rfl⟩
     |exact .inr ⟨rfl,hkM⟩
 case key2=>
  rintro m fr bx1 nx1 ⟨hh,M,k,cc,ph,ev,hmB,hs1,hold,hnn,hb1,hx1,e2,e3,e77,hph,hev,e78,e79,hh1,hv,hM,hc⟩
  obtain⟨m,rfl⟩:∃m',m=m'+2990:=⟨m-2990,by omega⟩
  have hp1:=hs1.hp;have hz1:=hs1.hz
  simp only[go_sem]at hx1
  have hhp:hh≠p:=fun e=>by rw[e,hp1]at hh1;cases hh1
  have hpp:ph≠p:=fun e=>by rw[e,hp1]at hph;cases hph
  have r1:(hh=p)=False:=eq_false hhp
  have r2:(p=hh)=False:=eq_false fun e=>hhp e.symm
  have r3:(ph=p)=False:=eq_false hpp
  have r4:(p=ph)=False:=eq_false fun e=>hpp e.symm
  have m10:(z=p)=False:=eq_false zp
  have m11:(p=z)=False:=eq_false fun e=>zp e.symm
  obtain⟨g,g1,g2,g3,g4,le,gA⟩:=Wb hk hr hbN ⟨h1,h2,h3⟩ hf.1
  rw[<-hM]at g2 g3 g4 gA
  generalize hDA:Ep x.fro (fun i=>(hl (B4 b x) i).who) (A5 b x) (CM P x.fro P.1)=DA at*
  have hDA0:DA 0=CM P x.fro P.1:=by rw[<-hDA];rfl
  have hDAs:∀i,DA (i+1)=Ev x.fro (hl (B4 b x) i).who (A5 b x i).toNat (DA i) (A5 b x i):=fun i=>by rw[<-hDA];rfl
  have hev0:∀i,i<M->0<=A5 b x i/\A5 b x i<=N:=fun i hi=>by
   have q1:=EP (f:=A5 b x) (len:=M) g2 (show i+1<=M from hi) (Nat.le_refl _)
   have q2:=EP (f:=A5 b x) (len:=M) g2 (Nat.zero_le i) (show i<=M by omega)
   have q3:AN (A5 b x) (i+1)=AN (A5 b x) i+A5 b x i:=rfl
   have q4:EJ b.ow.2 x.fro N<=N:=G9 _ _
   have q5:AN (A5 b x) 0=0:=rfl
   have:=g2 i hi
   omega
  rcases hv with⟨e4,hkM⟩|⟨e4,hkM⟩
  all_goals try (have hkM':M=k:=Eq.symm hkM;clear hkM;subst hkM')
  all_goals
   refine Ie (ι:=Nat) (fun i=>i<=M) (fun i=>M-i) [2,3,4,77,78] (fun i=>[(79,.int .i64 i)]) (.n p) (fun i=> .row 107 5 (DA i).1 fun a b=>((DA i).2 a).c b) hp1 0 (Nat.zero_le _) (fun N D=>⟨rfl,rfl,(by rw[hDA0]),fun i _ b _=>(by rw[hDA0];exact BP _)⟩) ?_ fun i hi=> ?_
   ·simp only[e2,e3,e4,e77,e78,e79,hb1,hx1,hh1,hph,Ac,r1,r3,n2,n5,↓reduceIte,reduceCtorEq,go_sem]
    all_goals try exact⟨rfl,_,by rw[Ac,if_neg (by simp;exact hhp)];exact hh1⟩
   rcases Nat.lt_or_ge i M with hiM|hiM
   ·have f1:((i:Int)<(M:Int))=True:=eq_true (by omega)
    have hevi:=hev i hiM
    have hei:=hev0 i hiM
    obtain⟨q0,hq0⟩:∃q:Nat,A5 b x i=q:=⟨(A5 b x i).toNat,(Int.toNat_of_nonneg hei.1).symm⟩
    have hDi:=hDAs i
    rw[hq0,Int.toNat_natCast]at hDi
    rw[hq0]at hevi hei
    obtain⟨c,c1,c2,c3⟩:=gA i (by omega)
    have hci:=hc i hiM 0 (by omega)
    have hwi:=hXok.2.2 i (by omega)
    have hsi:AN (A5 b x) (i+1)=((c+q0:Nat):Int):=by rw[AN,c1,hq0];omega
    have hsu:=EP (f:=A5 b x) (len:=M) g2 (show i+1<=M from hiM) (Nat.le_refl _)
    have hcq:c+q0<=EJ b.ow.2 x.fro N:=by omega
    have hgi:∀j,c<=j->j<c+q0->g j=(hl (B4 b x) i).who:=fun j j1 j2=>g4 i hiM j (by omega) (by omega)
    simp only[f1,hevi,e2,e3,e4,e77,e78,hph,Ac,r3,Int.toNat_natCast,↓reduceIte,Nat.reduceEqDiff,go_sem]
    refine⟨by omega,?_⟩
    have hpb:Ab (Aj bx1 (.n p) (.row 107 5 (DA i).1 fun a b=>((DA i).2 a).c b)) (.n p)=some (.row 107 5 (DA i).1 fun a b=>((DA i).2 a).c b):=(Ac _ _ _ _).trans (if_pos rfl)
    refine Ie (ι:=Pz×Nat×Nat×Nat) (fun q=>q.2.1<=q.2.2.1/\BG N q.1/\Rp q.1 ⟨(b.ow.1,dW b.ow.2 x.fro g q.2.2.2),le,b.un,b.de⟩/\q.2.2.2+q.2.1<=EJ b.ow.2 x.fro N/\(∀j,q.2.2.2<=j->j<q.2.2.2+q.2.1->g j=(hl (B4 b x) i).who)/\Ev x.fro (hl (B4 b x) i).who q.2.2.1 q.1 q.2.1=DA (i+1)) (fun q=>q.2.1) [2,3,4,8,77,78,79] (fun q=>[(9,.int .i64 q.2.1)]) (.n p) (fun q=> .row 107 5 q.1.1 fun a b=>(q.1.2 a).c b) hpb (DA i,q0,q0,c) ⟨Nat.le_refl _,c2,c3,hcq,hgi,hDi.symm⟩ (fun N D=>⟨rfl,rfl,rfl,fun i _ b _=>BP _⟩) ?_ fun q hq=> ?_
    ·simp only[hb1,hx1,hh1,hph,Ac,r1,r3,n2,n5,↓reduceIte,reduceCtorEq,Nat.reduceEqDiff,go_sem]
     all_goals exact⟨rfl,_,by rw[Ac,if_neg (by simp;exact hhp),Ac,if_neg (by simp;exact hhp)];exact hh1⟩
    obtain⟨P',part,fuel,c'⟩:=q
    obtain⟨p1,p2,p3,p4,p5,p6⟩:=hq
    simp only at p1 p2 p3 p4 p5 p6
    rcases Nat.eq_zero_or_pos part with hp0|hp0
    ·subst hp0
     have f2:((0:Int)>0)=False:=eq_false (by omega)
     have hPD:P'=DA (i+1):=by rw[<-p6];exact(Tt _ _ _ _).symm
     simp only[f2,Int.ofNat_zero,↓reduceIte,Nat.reduceEqDiff,go_sem]
     refine JP hp1 (i+1) hiM (by omega) ((Ac _ _ _ _).trans (if_pos rfl)) (fun N D=>⟨rfl,rfl,by rw[hPD],fun a _ b' _=>by rw[hPD];exact BP _⟩) (fun y hy c hc=>by rw[Ac,if_neg hy,Ac,if_neg hy];exact hc) ?_
     simp only[hb1,hx1,hh1,hph,Ac,r1,r3,n2,n5,↓reduceIte,reduceCtorEq,Nat.reduceEqDiff,go_sem]
     rw[Cs (by omega)]
     try first
      |exact rfl
      |exact⟨rfl,rfl,_,by rw[Ac,if_neg (by simp;exact hhp)];exact hh1⟩
    have w9:IntKind.i64.wrap ((P'.2 (Fo P' x.fro)).turn.fro+part)=(P'.2 (Fo P' x.fro)).turn.fro+part:=by
     have:=(p2.rng (E7 p2 p3 g1 (show c'<EJ b.ow.2 x.fro N by omega)).choose_spec.1)
     have:=p2.lt _ (E7 p2 p3 g1 (show c'<EJ b.ow.2 x.fro N by omega)).choose_spec.1
     have:EJ b.ow.2 x.fro N<=N:=G9 _ _
     exact AU (by omega) (by omega)
    have f2:((part:Int)>0)=True:=eq_true (by omega)
    obtain⟨a,f3,ha,_,_,_⟩:=E7 p2 p3 g1 (show c'<EJ b.ow.2 x.fro N by omega)
    have hfs:Iq P' (.dth x)=(Fo P' x.fro:Nat):=if_pos f3
    have hl':=p2.lt _ f3
    have hrg:=p2.rng f3
    have hlen:=p2.len
    have hlw':(P'.1<=9223372036854775807)=True:=eq_true (by omega)
    have hl9:(P'.1<=100000)=True:=eq_true (by omega)
    simp only[f2,hfs,hl9,w9,NF,Ak,Ag,AZ,De.eta,hb1,hx1,hz1,Ac,n2,n5,m10,Int.toNat_natCast,↓reduceIte,Nat.reduceEqDiff,Nat.reduceAdd,Nat.reduceLeDiff,go_sem]
    have e0:(P'.2 (Fo P' x.fro)).turn.fro<=DS P' x.fro part:=by unfold DS;omega
    have e1:DS P' x.fro part<=(P'.2 (Fo P' x.fro)).turn.til:=by unfold DS;omega
    have e2':DS P' x.fro part<=(P'.2 (Fo P' x.fro)).turn.fro+part:=by unfold DS;omega
    have e3':(P'.2 (Fo P' x.fro)).turn.fro<DS P' x.fro part:=by unfold DS;omega
    obtain⟨L,hL⟩:∃L:Nat,DS P' x.fro part=(P'.2 (Fo P' x.fro)).turn.fro+L:=⟨(DS P' x.fro part-(P'.2 (Fo P' x.fro)).turn.fro).toNat,by omega⟩
    obtain⟨s1,s2,s3,s4⟩:=Nz p2 p3 g1 (show c'<EJ b.ow.2 x.fro N by omega) e3' e1 hL (v:=(hl (B4 b x) i).who) fun j j1 j2=>p5 j j1 (by omega)
    obtain⟨_,hcv⟩:=Tm p2 f3 e3' e1
    have hA1:=hs1.row (P':=DA i) (bx':=Aj bx1 (.n p) (.row 107 5 (DA i).1 fun a b=>((DA i).2 a).c b)) hpb fun y hy=>by rw[Ac,if_neg hy]
    have hA2:=hA1.1.row (P':=P') (bx':=Aj (Aj bx1 (.n p) (.row 107 5 (DA i).1 fun a b=>((DA i).2 a).c b)) (.n p) (.row 107 5 P'.1 fun a b=>(P'.2 a).c b)) ((Ac _ _ _ _).trans (if_pos rfl)) fun y hy=>by rw[Ac,if_neg hy]
    refine⟨by omega,by omega,by omega,by omega,?_⟩
    refine MY (c:=DS P' x.fro part) (by omega) hA2.1 (by omega) (fun v=> ?_) fun B1 bx3 nx3 hB1 hs3 hh3 hn3 fr3 hfr3=> ?_
    ·simp only[AC,HF,HS]
    obtain⟨B1,rfl⟩:∃m,B1=m+300:=⟨B1-300,by omega⟩
    have hH:Es p bx1 bx3:=(hA1.2.trans hA2.2).trans hh3
    have hb3:=hH _ _ (by simp;omega) hb1
    have hx3:=hH _ _ (by simp;omega) hx1
    have hhh3:=hH _ _ (by simp;exact hhp) hh1
    have hph3:=hH _ _ (by simp;exact hpp) hph
    have hz3:=hs3.hz;have hp3:=hs3.hp
    have hl3:=(Iu p2 (DS P' x.fro part)).len
    have hci':cc i 0= .int .i64 (hl (B4 b x) i).who:=hci
    generalize hC:CT P' (DS P' x.fro part)=C at*
    generalize hk0:Fo P' x.fro=k0 at*
    rcases hfr3 with rfl|rfl
    all_goals
     simp only[hcv,hci',hb3,hz3,hhh3,hp3,Ac,r1,r3,n2,n5,m10,Int.toNat_natCast,↓reduceIte,Nat.reduceEqDiff,Nat.reduceAdd,Nat.reduceLeDiff,Nat.reduceLT,go_sem]
     have hcN:EJ b.ow.2 x.fro N<=N:=G9 _ _
     have w10:IntKind.i64.wrap (DS P' x.fro part-(P'.2 k0).turn.fro)=(L:Int):=by rw[hL,AU (by omega) (by omega)];omega
     have w11:IntKind.i64.wrap ((part:Int)-(L:Int))=((part-L:Nat):Int):=by rw[AU (by omega) (by omega)];omega
     refine⟨by omega,by omega,by omega,by omega,by omega,by omega,by omega,by omega,?_⟩
     refine JP hpb (setO C k0 k0 (hl (B4 b x) i).who,part-L,fuel-1,c'+L) ⟨by show part-L<=fuel-1;omega,s1,s2,by show c'+L+(part-L)<=_;omega,fun j j1 j2=>p5 j (by have j1:c'+L<=j:=j1;omega) (by have j2:j<c'+L+(part-L):=j2;omega),?_⟩ (by show part-L<part;omega) ((Ac _ _ _ _).trans (if_pos rfl)) (fun N D=>⟨rfl,rfl,rfl,fun a _ b' _=> ?_⟩) (fun y hy c hc=>by rw[Ac,if_neg hy]at hc;rw[Ac,if_neg hy];exact hH y c hy hc) ?_
     ·show Ev x.fro (hl (B4 b x) i).who (fuel-1) (setO C k0 k0 (hl (B4 b x) i).who) ((part-L:Nat):Int)=DA (i+1)
      rw[<-p6]
      obtain⟨fu,rfl⟩:∃fu,fuel=fu+1:=⟨fuel-1,by omega⟩
      rw[Ev,if_pos (by omega),hk0,hC,Nat.add_sub_cancel]
      congr 1
      omega
     ·show AB (((setO C k0 k0 (hl (B4 b x) i).who).2 a).c b') _
      rw[VH];exact BP _
     simp only[w10,w11,hb1,hx1,hh1,hph,hhh3,hph3,Ac,r1,r3,n2,n5,↓reduceIte,reduceCtorEq,Nat.reduceEqDiff,go_sem]
     try first
      |exact rfl
      |exact⟨rfl,_,by rw[Ac,if_neg (by simp;exact hhp),Ac,if_neg (by simp;exact hhp)];exact hh1⟩
   have f1:((i:Int)<(M:Int))=False:=eq_false (by omega)
   obtain rfl:i=M:=by omega
   simp only[f1,e2,e3,e4,e77,e78,↓reduceIte,Nat.reduceEqDiff,go_sem]
   have hsA:=hs1.row (P':=DA i) (bx':=Aj bx1 (.n p) (.row 107 5 (DA i).1 fun a b=>((DA i).2 a).c b)) ((Ac _ _ _ _).trans (if_pos rfl)) fun y hy=>by rw[Ac,if_neg hy]
   exact hK _ _ _ (by omega) (by rw[<-hM];exact hsA.1) (fun y v hy1 hy2 hb=>hsA.2 y v hy1 (hold y v hy1 hy2 hb)) (by omega)
end Go.Proofs.YtlieoghhkioflaaGreat
