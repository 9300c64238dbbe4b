/- Deeds: a deed is tried, walked. No condition but bounds. -/
import Derived.Test.YtlieoghhkioflaaGreatDdh
import Derived.Test.YtlieoghhkioflaaGreatSoT
set_option linter.unusedSimpArgs false
set_option linter.unusedVariables false
set_option maxRecDepth 100000
namespace Go.Proofs.YtlieoghhkioflaaGreat
open Go Go.RowKit
variable{b:Bk}{x:De}{has:Int->Bool}{mf:Int->Ae}{d p:Nat}
variable{G:Nat->Option (Nat×(Nat->Ae))}
structure OP(p:Nat)(has:Int->Bool)(mf:Int->Ae)(b:Bk):Prop where
 m:∀k,has k=true->mf k= .bool true
 p:∀v k,Bc (.n p) v (mf k)=mf k
 e:∀k:Int,0<=k->k<=9999->has k=b.de.2 k.toNat
theorem OP.same{b':Bk}(h:OP p has mf b)(e:b'.de=b.de):OP p has mf b':=⟨h.m,h.p,fun k h1 h2=>by rw[e];exact h.e k h1 h2⟩
theorem OP.dies(h:OP p has mf b)(h1:1<=x.fro)(h2:x.fro<=9999):OP p (HV has x.fro) (QH mf x.fro) (Pv b x):=by
 refine⟨fun k hk=> ?_,fun v k=> ?_,fun k k1 k2=> ?_⟩
 ·unfold HV at hk
  unfold QH
  by_cases e:k=x.fro
  ·rw[if_pos e]
  rw[if_neg e]at hk⊢;exact h.m k hk
 ·unfold QH
  split
  ·rfl
  exact h.p v k
 show HV has x.fro k=Lo b x k.toNat
 unfold HV Lo
 by_cases e:k=x.fro
 ·rw[if_pos e,if_pos (by rw[e])]
 rw[if_neg e,if_neg (by omega)];exact h.e k k1 k2
theorem Ew.two{bx bx':Bx}(h:Ew p bx bx'):IC p d bx bx':=fun y v h1 _ hb=>h y v h1 hb
theorem IC.pre{b1 b2 b3:Bx}(h:Ew p b1 b2)(k:IC p d b2 b3):IC p d b1 b3:=fun y v h1 h2 hb=>k y v h1 h2 (h y v h1 hb)
theorem Ze(h:x.kind≠3):(Lj b x).de=b.de:=by
 unfold Lj
 rw[if_neg h]
 split
 ·rfl
 split
 ·rfl
 split<;>rfl
theorem VO(h:x.kind≠3):(E3 b x).de=b.de:=by
 unfold E3
 split
 ·exact Ze h
 rfl
set_option maxHeartbeats 4000000 in
theorem P9{Q:Ae->Bx->Prop}{r:Ro}{z N:Nat}{P:Pz}{bx:Bx}{nx:Nat}{f:Av}{stk:List Av}{B:Nat}(hB:6000<=B)(hs:D3 r z p d P has mf bx nx)(hk:BD N P)(hN:N<=23040)(hNr:(N:Int)=1440*r.days)(hr:Rp P b)(hbN:UU b N)(hx:C3 r x)(hit:noIt (.n d) bx)(hD:OP p has mf b)(HS:∀v,AB (.n p) v stk=stk)(HF:∀v,AL (.n p) v f.fr=f.fr)
  (hK:∀B' bx' nx' has' mf',B<=B'+6000->D3 r z p d (EN P b x) has' mf' bx' nx'->OP p has' mf' (E3 b x)->IC p d bx bx'->nx<=nx'->AA (HJ G) Q B' f.K stk f.res (Ai f.fr f.d (.int .u8 (BE b x))) bx' nx'):
  AA (HJ G) Q B [.code UP.code] (f::stk) UP.res (params 0 [.ptr (.n z) 0,.agg x.L]) bx nx:=by
 obtain⟨B,rfl⟩:∃m,B=m+5990:=⟨B-5990,by omega⟩
 have hz:=hs.hz;have hp:=hs.hp;have hd:=hs.hd;have zn:=hs.zn;have pn:=hs.pn;have dn:=hs.dn;have zp:=hs.zp;have dp:=hs.dp;have zd:=hs.zd
 have n1:(nx=z)=False:=eq_false (by omega)
 have n2:(nx=p)=False:=eq_false (by omega)
 have n3:(nx=d)=False:=eq_false (by omega)
 have n4:(nx+1=z)=False:=eq_false (by omega)
 have n5:(nx+1=p)=False:=eq_false (by omega)
 have n6:(nx+1=d)=False:=eq_false (by omega)
 have n7:(nx+1=nx)=False:=eq_false (by omega)
 have m1:(z=nx)=False:=eq_false (by omega)
 have m2:(p=nx)=False:=eq_false (by omega)
 have m3:(d=nx)=False:=eq_false (by omega)
 have m4:(z=nx+1)=False:=eq_false (by omega)
 have m5:(p=nx+1)=False:=eq_false (by omega)
 have m6:(d=nx+1)=False:=eq_false (by omega)
 have m7:(nx=nx+1)=False:=eq_false (by omega)
 have hpk:∀k,EA (has k) (mf k) (.bool false)= .bool (has k):=fun k=>by
  cases e:has k with
  |false=>rfl
  |true=>rw[hD.m k e];rfl
 obtain⟨x1,x2,x3,x4,x5,x6,x7⟩:=id hx
 have q1:=hD.e x.fro (by omega) (by omega)
 have tw:0<=x.tow/\x.tow<=9999:=by
  rcases x7 with h|h|h|h
  ·obtain⟨_,⟨h1,h2,_⟩,_⟩:=h;omega
  ·obtain⟨_,_,h1,_⟩:=h;omega
  ·obtain⟨_,_,h1,_⟩:=h;omega
  obtain⟨_,⟨h1,h2,_⟩,_⟩:=h;omega
 have q2:=hD.e x.tow tw.1 tw.2
 have hlw:(x.heirs.1<=9223372036854775807)=True:=eq_true (by have:=hx.heirs;omega)
 have hs1:=hs.cons (c:= .cells x.L) fun _=>rfl
 have hfw:∀{P':Pz} {has':Int->Bool} {mf':Int->Ae} {bx1:Bx} {nx1 g:Nat} {w:Int} {c:Cu},D3 r z p d P' has' mf' bx1 nx1->nx+1<nx1->IC p d ((nx+1,.one c)::(nx,.one (.cells x.L))::bx) bx1->D3 r z p d P' has' mf' (Aj bx1 (.n (nx+1)) (.wc g (.int .u8 w))) nx1/\IC p d bx (Aj bx1 (.n (nx+1)) (.wc g (.int .u8 w))):=fun{P' has' mf' bx1 nx1 g w c} h1 h2 h3=>by
  refine⟨h1.other (by omega) (by omega) (by omega) h2 fun _=>rfl,fun y v y1 y2 hb=> ?_⟩
  have y3:y≠ .n (nx+1):=by rintro rfl;rw[hs.fre (nx+1) (by omega)]at hb;cases hb
  have y4:y≠ .n nx:=by rintro rfl;rw[hs.fre nx (Nat.le_refl _)]at hb;cases hb
  rw[Ac,if_neg y3]
  exact h3 y v y1 y2 (by rw[Af,if_neg y3,Af,if_neg y4];exact hb)
 by_cases c1:(b.de.2 x.fro.toNat||b.de.2 x.tow.toNat)=true
 ·have hv:BE b x=1:=by unfold BE;rw[if_pos c1]
  have hS:EN P b x=P:=by unfold EN;rw[if_pos c1]
  have hSb:E3 b x=b:=by unfold E3;rw[if_neg (by omega)]
  rw[hv,hS,hSb]at hK
  cases d1:b.de.2 x.fro.toNat with
  |true=>
   rw[d1]at q1
   have q3:=hD.m _ q1
   simp only[UP,IG,hz,hd,q1,q3,n1,n3,n4,n6,n7,↓reduceIte,reduceCtorEq,Nat.reduceEqDiff,Nat.reduceAdd,Nat.reduceSub,Nat.reduceLeDiff,go_sem]
   exact fun g=>⟨⟨0,rfl⟩,hK _ _ _ has mf (by omega) (hs1.cons (c:= .wc g (.int .u8 1)) fun _=>rfl) hD ((hs.hold _).trans (hs1.hold _)).two (by omega)⟩
  |false=>
   rw[d1]at q1
   have d2:b.de.2 x.tow.toNat=true:=by rw[d1]at c1;exact c1
   rw[d2]at q2
   have q3:=hD.m _ q2
   simp only[UP,IG,hz,hd,q1,q2,q3,n1,n3,n4,n6,n7,↓reduceIte,reduceCtorEq,Nat.reduceEqDiff,Nat.reduceAdd,Nat.reduceLeDiff,go_sem]
   exact fun g=>⟨⟨0,rfl⟩,hK _ _ _ has mf (by omega) (hs1.cons (c:= .wc g (.int .u8 1)) fun _=>rfl) hD ((hs.hold _).trans (hs1.hold _)).two (by omega)⟩
 have d1:b.de.2 x.fro.toNat=false:=by
  cases h:b.de.2 x.fro.toNat with
  |false=>rfl
  |true=>rw[h]at c1;exact absurd rfl c1
 have d2:b.de.2 x.tow.toNat=false:=by
  cases h:b.de.2 x.tow.toNat with
  |false=>rfl
  |true=>rw[d1,h]at c1;exact absurd rfl c1
 rw[d1]at q1
 rw[d2]at q2
 by_cases k3:x.kind=3
 ·have eH:Ic x.kind=true:=by rw[k3];rfl
  have eL:HL x.kind=Qv:=by rw[k3];rfl
  simp only[UP,IG,D4,eH,eL,Qv,An,AZ,hz,hd,q1,q2,n1,n3,n4,n6,n7,↓reduceIte,reduceCtorEq,Nat.reduceEqDiff,Nat.reduceAdd,Nat.reduceLeDiff,go_sem]
  intro g
  have m12:(d=p)=False:=eq_false dp
  have hH:FP x.fro x.heirs:=by
   rcases x7 with h|h|h|h
   ·omega
   ·omega
   ·exact h.2.1
   omega
  have ht:x.turn.fro=0/\x.turn.til=0:=by
   rcases x7 with h|h|h|h
   ·omega
   ·omega
   ·exact⟨h.2.2.2.1,h.2.2.2.2.1⟩
   omega
  have hP:GP b x:=fun m h1 h2=>by omega
  have hv:BE b x=0:=by unfold BE;rw[if_neg c1,As hP,if_pos rfl,if_neg (by omega)]
  have hS:EN P b x=EG x.fro (fun i=>(hl (B8 b x) i).who) (A6 b x) (CH P x.fro P.1) (B8 b x).length:=by unfold EN;rw[if_neg c1,if_pos k3]
  have hSb:E3 b x=Pv b x:=by unfold E3;rw[if_pos hv];unfold Lj;rw[if_pos k3]
  rw[hv,hS,hSb]at hK
  have hs2:=hs1.cons (c:= .wc g (.int .u8 0)) fun _=>rfl
  refine RK (b:=b) (x:=x) (by omega) hs2 hk hN hr hbN hH ⟨by omega,by omega⟩ (by simp only[noIt,J9,hit,and_self]) hD.m hD.p hD.e (fun v=> ?_) (fun v=> ?_) fun B1 bx1 nx1 hB1 hs3 hh1 hn1=> ?_
  ·simp only[AB,HF,HS]
  ·simp only[n2,n5,m12,zp,↓reduceIte,go_sem]
  obtain⟨B1,rfl⟩:∃m,B1=m+100:=⟨B1-100,by omega⟩
  have hw1:Ab bx1 (.n (nx+1))=some (.wc g (.int .u8 0)):=hh1 _ _ (by simp;omega) (by simp;omega) (by rw[Af,if_pos rfl])
  simp only[hw1,Ac,↓reduceIte,Nat.reduceEqDiff,go_sem]
  obtain⟨u1,u2⟩:=hfw (g:=g) (w:=0) hs3 (by omega) hh1
  exact hK _ _ _ _ _ (by omega) u1 (hD.dies (by omega) (by omega)) u2 (by omega)
 have m12:(d=p)=False:=eq_false dp
 have r1:(nx+1+1=z)=False:=eq_false (by omega)
 have r2:(nx+1+1=p)=False:=eq_false (by omega)
 have r3:(nx+1+1=nx)=False:=eq_false (by omega)
 have r4:(nx+1+1=nx+1)=False:=eq_false (by omega)
 have r5:(nx+1=nx+1+1)=False:=eq_false (by omega)
 have r6:(nx=nx+1+1)=False:=eq_false (by omega)
 have r7:(z=nx+1+1)=False:=eq_false (by omega)
 have hm:FF r x:=by
  rcases x7 with q|q|q|q
  ·exact q.2.2.1
  ·exact q.2.1
  ·exact absurd q.1 k3
  exact q.2.2.1
 have h4:x.kind=1\/x.kind=2\/x.kind=4:=by
  rcases x7 with q|q|q|q
  ·exact .inl q.1
  ·exact .inr (.inl q.1)
  ·exact absurd q.1 k3
  exact .inr (.inr q.1)
 obtain⟨t0,t1,t2⟩:=hm
 have hO:=KF hk t0 t1 (by omega)
 have hro:Rp (Ck P x.turn) b:=J2 (J2 hr _) _
 have hhis:=YA hO hro t0
 have hlet:=XW hO hro t0
 have hDs:OP p has mf (E3 b x):=hD.same (VO k3)
 -- who has it
 have no2:¬GP b x->BE b x=2/\EN P b x=Ck P x.turn:=fun h=>by
  unfold BE EN
  rw[if_neg c1,if_neg c1,if_neg k3,Am h,if_neg Bool.false_ne_true,if_neg Bool.false_ne_true];exact⟨rfl,rfl⟩
 have hs2:∀g,D3 r z p d P has mf ((nx+1,.one (.wc g (.int .u8 0)))::(nx,.one (.cells x.L))::bx) (nx+1+1):=fun g=>hs1.cons fun _=>rfl
 have hs3:∀g,D3 r z p d P has mf ((nx+1+1,.one (.cells x.L))::(nx+1,.one (.wc g (.int .u8 0)))::(nx,.one (.cells x.L))::bx) (nx+1+1+1):=fun g=>(hs2 g).cons fun _=>rfl
 have hw0:∀g,Ab ((nx+1+1,.one (.cells x.L))::(nx+1,.one (.wc g (.int .u8 0)))::(nx,.one (.cells x.L))::bx) (.n (nx+1))=some (.wc g (.int .u8 0)):=fun g=>by rw[Af,if_neg (by simp),Af,if_pos rfl]
 rcases h4 with k1|k1|k1
 ·have eH:Ic x.kind=true:=by rw[k1];rfl
  have eL:HL x.kind=RG:=by rw[k1];rfl
  have yes:GP b x->BE b x=0/\EN P b x=setO (Ck P x.turn) (Cm (Ck P x.turn) x.turn) (CR (Ck P x.turn) x.turn) x.tow:=fun h=>by
   unfold BE EN
   rw[if_neg c1,if_neg c1,if_neg k3,As h,if_pos rfl,if_pos rfl,if_neg (by omega),if_neg (by omega),if_pos k1];exact⟨rfl,rfl⟩
  simp only[UP,IG,Zc,D4,eH,eL,RG,An,AZ,hz,hd,q1,q2,hlw,n1,n3,n4,n6,n7,↓reduceIte,reduceCtorEq,Nat.reduceEqDiff,Nat.reduceAdd,Nat.reduceSub,Nat.reduceLeDiff,Nat.reducePow,go_sem]
  intro g
  refine NG (x:=x) (v:=x.tow) (by omega) (hs3 g) hk hN t0 t1 (by omega) (fun v=> ?_) (fun v=> ?_) (fun B1 bx1 nx1 hB1 hA hs4 hh1 hn1=> ?_) fun B1 bx1 nx1 hB1 hA hs4 hh1 hn1=> ?_
  ·simp only[zp,r2,↓reduceIte,go_sem]
  ·simp only[AB,HF,HS,n2,n5,m12,zp,↓reduceIte,go_sem]
  ·obtain⟨B1,rfl⟩:∃m,B1=m+100:=⟨B1-100,by omega⟩
   have hw1:=hh1 (.n (nx+1)) _ (by simp;omega) (hw0 g)
   simp only[hw1,Ac,↓reduceIte,Nat.reduceEqDiff,go_sem]
   obtain⟨y1,y2⟩:=yes (hhis.2 hA)
   rw[y1,y2]at hK
   obtain⟨u1,u2⟩:=hfw (g:=g) (w:=0) hs4 (by omega) (((hs2 g).hold _).trans hh1).two
   exact hK _ _ _ _ _ (by omega) u1 hDs u2 (by omega)
  obtain⟨B1,rfl⟩:∃m,B1=m+100:=⟨B1-100,by omega⟩
  have hw1:=hh1 (.n (nx+1)) _ (by simp;omega) (hw0 g)
  simp only[hw1,Ac,↓reduceIte,Nat.reduceEqDiff,go_sem]
  obtain⟨y1,y2⟩:=no2 fun h=>hA (hhis.1 h)
  rw[y1,y2]at hK
  obtain⟨u1,u2⟩:=hfw (g:=g) (w:=2) hs4 (by omega) (((hs2 g).hold _).trans hh1).two
  exact⟨⟨0,rfl⟩,hK _ _ _ _ _ (by omega) u1 hDs u2 (by omega)⟩
 ·have eH:Ic x.kind=true:=by rw[k1];rfl
  have eL:HL x.kind=Q7:=by rw[k1];rfl
  have yes:GP b x->BE b x=0/\EN P b x=setO (Ck P x.turn) (Cm (Ck P x.turn) x.turn) (CR (Ck P x.turn) x.turn) 0:=fun h=>by
   unfold BE EN
   rw[if_neg c1,if_neg c1,if_neg k3,As h,if_pos rfl,if_pos rfl,if_neg (by omega),if_neg (by omega),if_neg (by omega)];exact⟨rfl,rfl⟩
  simp only[UP,IG,Zi,D4,eH,eL,Q7,An,AZ,hz,hd,q1,q2,hlw,n1,n3,n4,n6,n7,↓reduceIte,reduceCtorEq,Nat.reduceEqDiff,Nat.reduceAdd,Nat.reduceSub,Nat.reduceLeDiff,Nat.reducePow,go_sem]
  intro g
  refine NG (x:=x) (v:=0) (by omega) (hs3 g) hk hN t0 t1 (by omega) (fun v=> ?_) (fun v=> ?_) (fun B1 bx1 nx1 hB1 hA hs4 hh1 hn1=> ?_) fun B1 bx1 nx1 hB1 hA hs4 hh1 hn1=> ?_
  ·simp only[zp,r2,↓reduceIte,go_sem]
  ·simp only[AB,HF,HS,n2,n5,m12,zp,↓reduceIte,go_sem]
  ·obtain⟨B1,rfl⟩:∃m,B1=m+100:=⟨B1-100,by omega⟩
   have hw1:=hh1 (.n (nx+1)) _ (by simp;omega) (hw0 g)
   simp only[hw1,Ac,↓reduceIte,Nat.reduceEqDiff,go_sem]
   obtain⟨y1,y2⟩:=yes (hhis.2 hA)
   rw[y1,y2]at hK
   obtain⟨u1,u2⟩:=hfw (g:=g) (w:=0) hs4 (by omega) (((hs2 g).hold _).trans hh1).two
   exact hK _ _ _ _ _ (by omega) u1 hDs u2 (by omega)
  obtain⟨B1,rfl⟩:∃m,B1=m+100:=⟨B1-100,by omega⟩
  have hw1:=hh1 (.n (nx+1)) _ (by simp;omega) (hw0 g)
  simp only[hw1,Ac,↓reduceIte,Nat.reduceEqDiff,go_sem]
  obtain⟨y1,y2⟩:=no2 fun h=>hA (hhis.1 h)
  rw[y1,y2]at hK
  obtain⟨u1,u2⟩:=hfw (g:=g) (w:=2) hs4 (by omega) (((hs2 g).hold _).trans hh1).two
  exact⟨⟨0,rfl⟩,hK _ _ _ _ _ (by omega) u1 hDs u2 (by omega)⟩
 have eH:Ic x.kind=true:=by rw[k1];rfl
 have eL:HL x.kind=Q0:=by rw[k1];rfl
 have yes:GP b x->Kw b x->BE b x=0/\EN P b x=Nt (Ck P x.turn) (Cm (Ck P x.turn) x.turn) (CR (Ck P x.turn) x.turn) x.tow x.til:=fun h h'=>by
  unfold BE EN
  rw[if_neg c1,if_neg c1,if_neg k3,As h,if_pos rfl,if_pos rfl,if_pos k1,if_pos k1,As h',if_pos rfl,if_pos rfl];exact⟨rfl,rfl⟩
 have no3:GP b x->¬Kw b x->BE b x=3/\EN P b x=Ck P x.turn:=fun h h'=>by
  unfold BE EN
  rw[if_neg c1,if_neg c1,if_neg k3,As h,if_pos rfl,if_pos rfl,if_pos k1,if_pos k1,Am h',if_neg Bool.false_ne_true,if_neg Bool.false_ne_true];exact⟨rfl,rfl⟩
 simp only[UP,IG,D4,eH,eL,Q0,An,AZ,hz,hd,q1,q2,n1,n3,n4,n6,n7,↓reduceIte,reduceCtorEq,Nat.reduceEqDiff,Nat.reduceAdd,Nat.reduceLeDiff,go_sem]
 intro g
 refine TZ (x:=x) (by omega) (hs2 g) hk hN t0 t1 (by omega) (fun v=> ?_) (fun v=> ?_) (fun B1 bx1 nx1 hB1 hA hL hs4 hh1 hn1=> ?_) (fun B1 bx1 nx1 hB1 hA hs4 hh1 hn1=> ?_) fun B1 bx1 nx1 hB1 hA hL hs4 hh1 hn1=> ?_
 ·simp only[n2,n5,m12,zp,↓reduceIte,go_sem]
 ·simp only[AB,HF,HS,go_sem]
 ·obtain⟨B1,rfl⟩:∃m,B1=m+100:=⟨B1-100,by omega⟩
  have hw1:=hh1 (.n (nx+1)) _ (by simp;omega) (by rw[Af,if_pos rfl])
  simp only[hw1,Ac,↓reduceIte,Nat.reduceEqDiff,go_sem]
  obtain⟨y1,y2⟩:=yes (hhis.2 hA) (hlet.2 hL)
  rw[y1,y2]at hK
  obtain⟨u1,u2⟩:=hfw (g:=g) (w:=0) hs4 (by omega) hh1.two
  exact hK _ _ _ _ _ (by omega) u1 hDs u2 (by omega)
 ·obtain⟨B1,rfl⟩:∃m,B1=m+100:=⟨B1-100,by omega⟩
  have hw1:=hh1 (.n (nx+1)) _ (by simp;omega) (by rw[Af,if_pos rfl])
  simp only[hw1,Ac,↓reduceIte,Nat.reduceEqDiff,go_sem]
  obtain⟨y1,y2⟩:=no2 fun h=>hA (hhis.1 h)
  rw[y1,y2]at hK
  obtain⟨u1,u2⟩:=hfw (g:=g) (w:=2) hs4 (by omega) hh1.two
  exact⟨⟨0,rfl⟩,hK _ _ _ _ _ (by omega) u1 hDs u2 (by omega)⟩
 obtain⟨B1,rfl⟩:∃m,B1=m+100:=⟨B1-100,by omega⟩
 have hw1:=hh1 (.n (nx+1)) _ (by simp;omega) (by rw[Af,if_pos rfl])
 simp only[hw1,Ac,↓reduceIte,Nat.reduceEqDiff,go_sem]
 obtain⟨y1,y2⟩:=no3 (hhis.2 hA) fun h=>hL (hlet.1 h)
 rw[y1,y2]at hK
 obtain⟨u1,u2⟩:=hfw (g:=g) (w:=3) hs4 (by omega) hh1.two
 exact⟨⟨0,rfl⟩,hK _ _ _ _ _ (by omega) u1 hDs u2 (by omega)⟩
end Go.Proofs.YtlieoghhkioflaaGreat
namespace Go.Proofs.YtlieoghhkioflaaGreat
open Go Go.RowKit
variable{G:Nat->Option (Nat×(Nat->Ae))}
abbrev bxO(r:Ro):Bx:=[(3,.cells (Ov r 4 2)),(2,.mp .i64 (fun _=>false) fun _=> .und),(1,.cells (PI r)),(0,.cells (PI r)),(4,.row 107 5 r.holds.1 fun i j=>((Z4 r).2 i).c j)]
theorem MU{Q:Ae->Bx->Prop}{r:Ro}{f:Av}{stk:List Av}{B:Nat}(hB:300<=B)(hr:D9 r)(HF:∀v,AL (.n 4) v f.fr=f.fr)(HS:∀v,AB (.n 4) v stk=stk)
  (hK:∀B',B<=B'+300->AA (HJ G) Q B' f.K stk f.res (Ai f.fr f.d (.ptr (.n 3) 0)) (bxO r) 5):
  AA (HJ G) Q B [.code a67.code] (f::stk) a67.res (params 0 [.agg (PI r)]) [(0,.cells (PI r))] 1:=by
 obtain⟨B,rfl⟩:∃m,B=m+290:=⟨B-290,by omega⟩
 have hlw:(r.holds.1<=9223372036854775807)=True:=eq_true (by have:=hr.2.2.2.1;omega)
 simp only[a67,PI,hlw,↓reduceIte,Nat.reduceEqDiff,Nat.reduceAdd,Nat.reduceSub,Nat.reduceLeDiff,Nat.reducePow,go_sem]
 refine IF (ι:=Nat) (fun j=>j<=r.holds.1) (fun j=>r.holds.1-j) [3,11,12] (fun j=>[(13,.int .i64 j)]) (fun j=>[(3,.cells (Ov r 4 2)),(4,.row 107 5 j fun a b=>((Z4 r).2 a).c b)]) 1 0 (Nat.zero_le _) (by
  simp only[Ov,↓reduceIte,reduceCtorEq,Nat.reduceEqDiff,Nat.reduceAdd,Nat.reduceLT,go_sem]) fun j hj=> ?_
 rcases Nat.lt_or_ge j r.holds.1 with hlt|hge
 ·have f1:((j:Int)<(r.holds.1:Int))=True:=eq_true (by omega)
  have h60:=hr.2.2.2.1
  simp only[f1,Ov,HF,HS,↓reduceIte,reduceCtorEq,Nat.reduceEqDiff,Nat.reduceAdd,Nat.reduceSub,Nat.reduceLeDiff,Nat.reduceLT,Nat.reducePow,go_sem]
  refine⟨by omega,by omega,by omega,?_⟩
  refine Ad (j+1) hlt (by omega) ?_
  simp only[↓reduceIte,reduceCtorEq,Nat.reduceEqDiff,Nat.reduceLT,go_sem]
  rw[BH (by omega)]
  refine⟨rfl,fun i hi b hb=> ?_⟩
  by_cases e:i<j
  ·rw[if_pos e];exact B7 _
  obtain rfl:i=j:=by omega
  rw[if_neg e,Nat.sub_self]
  rcases(by omega:b=0\/b=1\/b=2\/b=3\/b=4)with rfl|rfl|rfl|rfl|rfl<;>exact B7 _
 have f1:((j:Int)<(r.holds.1:Int))=False:=eq_false (by omega)
 obtain rfl:j=r.holds.1:=by omega
 simp only[f1,Ov,↓reduceIte,reduceCtorEq,Nat.reduceEqDiff,Nat.reduceAdd,go_sem]
 exact hK _ (by omega)
end Go.Proofs.YtlieoghhkioflaaGreat
namespace Go.Proofs.YtlieoghhkioflaaGreat
open Go Go.RowKit
variable{G:Nat->Option (Nat×(Nat->Ae))}
theorem Yy{bx0 bx1:Bx}{nx nx':Nat}{fr1 fr':Fr}{b1 b2:Bn}{l1 l2 m1 m2:Cu}(n1 n2:Cu)(hn:nx<=nx')(hne:b1≠b2)(h1:Ab bx0 b1=some l1)(h2:Ab bx0 b2=some l2)(g1:Ab bx1 b1=some m1)(g2:Ab bx1 b2=some m2)
  (hold:∀y,y≠b1->y≠b2->∀c,Ab bx0 y=some c->Ab bx1 y=some c) (v1:∀N D,Bv N D (some m1) n1) (v2:∀N D,Bv N D (some m2) n2)
  (hfr:D2 (BP bx1 (Aj (Aj bx0 b1 n1) b2 n2)) (Fe (Aj (Aj bx0 b1 n1) b2 n2)) fr1 fr'):L8 bx0 nx fr1 bx1 fr' (Aj (Aj bx0 b1 n1) b2 n2) nx':=by
 have hg:∀y,Ab (Aj (Aj bx0 b1 n1) b2 n2) y=if y=b2 then some n2 else if y=b1 then some n1 else Ab bx0 y:=fun y=>by rw[Ac,Ac]
 refine⟨none,trivial,hn,hfr,fun y c hy=> ?_,fun y c hy=> ?_,fun y c0 c1 q0 q1=> ?_⟩
 ·rw[hg]at hy
  by_cases e2:y=b2
  ·subst e2;rw[if_pos rfl]at hy;cases hy
   right
   show Bv _ _ (Ab bx1 y) _
   rw[g2];exact v2 _ _
  rw[if_neg e2]at hy
  by_cases e1:y=b1
  ·subst e1;rw[if_pos rfl]at hy;cases hy
   right
   show Bv _ _ (Ab bx1 y) _
   rw[g1];exact v1 _ _
  rw[if_neg e1]at hy;exact .inl ⟨hy,hold y e1 e2 c hy⟩
 ·rw[hg]at hy
  by_cases e2:y=b2
  ·subst e2;exact .inl ⟨_,h2⟩
  rw[if_neg e2]at hy
  by_cases e1:y=b1
  ·subst e1;exact .inl ⟨_,h1⟩
  rw[if_neg e1]at hy;exact .inl ⟨_,hy⟩
 rw[hg]
 by_cases e2:y=b2
 ·subst e2;rw[g2]at q1;cases q1;rw[if_pos rfl];exact⟨_,rfl,Ee (v2 (fun _=>False) fun _=>False)⟩
 rw[if_neg e2]
 by_cases e1:y=b1
 ·subst e1;rw[g1]at q1;cases q1;rw[if_pos rfl];exact⟨_,rfl,Ee (v1 (fun _=>False) fun _=>False)⟩
 rw[if_neg e1,q0]
 rw[hold y e1 e2 c0 q0]at q1;cases q1
 exact⟨_,rfl,CP.refl _⟩
def pzV(P:Pz):Ae:= .vptr 4 (Az (.cons .und (.cons .und (.cons (.view 5 P.1 fun i j=>(P.2 i).c j) (.cons .und .nil)))))
noncomputable def Mw(r:Ro)(l:FL)(d:Int):Pz:=E9 r (Dj l).2 (B3 (Dj l) d)
noncomputable def Hn:At:=An (Ag KS (Ag (DD GD) (Ag TI AZ))) (fun _=>True) fun a=>if BS a.1 a.2.1=0 then(if 0<=a.2.2.1/\a.2.2.1<=100000 then .tup (.cons (pzV (Mw a.1 a.2.1 a.2.2.1)) (.cons (.int .i64 0) .nil))else .tup (.cons .nilp (.cons (.int .i64 2) .nil)))else .tup (.cons .nilp (.cons (.int .i64 (BS a.1 a.2.1)) .nil))
theorem Ua(r:Ro)(P:Pz)(has:Int->Bool)(mf:Int->Ae)(hm:∀v k,Bc (.n 4) v (mf k)=mf k):D3 r 3 4 2 P has mf [(3,.one (.cells (Ov r 4 2))),(2,.one (.mp .i64 has mf)),(1,.one (.cells (PI r))),(0,.one (.cells (PI r))),(4,.one (.row 107 5 P.1 fun a b=>(P.2 a).c b))] 5:=by
 refine⟨rfl,rfl,rfl,by omega,by omega,by omega,by omega,by omega,by omega,fun y hy=> ?_,fun y c hy hc v=> ?_⟩
 ·rw[Af,if_neg (by simp;omega),Af,if_neg (by simp;omega),Af,if_neg (by simp;omega),Af,if_neg (by simp;omega),Af,if_neg (by simp;omega)];rfl
 simp only[Af]at hc
 split at hc
 ·exact absurd (by assumption) hy
 split at hc
 ·cases hc
  simp only[BO]
  congr 1
  funext k;exact hm v k
 split at hc
 ·cases hc;rfl
 split at hc
 ·cases hc;rfl
 split at hc
 ·cases hc;rfl
 cases hc
set_option maxHeartbeats 4000000 in
theorem Xw:Ah Tryz.prog G 47 Hn:=by
 refine Ib mixed (S:=SBk) (I:=IBk) (X:=XBk) (N:=[]) (C:=CBk) (.cons ZN (.cons Aau (.cons O3 (.cons Xy (.cons Ts (.cons Xr (.cons ZW .nil))))))) (.cons Tryz.func144 Abq (.cons Tryz.func162 Aar (.cons Tryz.func103 Abo (.cons Tryz.func145 AaG (.cons Tryz.func138 Abu (.cons Tryz.func119 Aa5 (.cons Tryz.func120 Aa6 (.cons Tryz.func122 Abl (.cons Tryz.func121 AaL (.cons Tryz.func139 Aaj (.cons Tryz.func157 Aa0 (.cons Tryz.func140 AbN (.cons Tryz.func67 c67 (.cons Tryz.func68 c68 .nil)))))))))))))) (.cons AaJ .nil) Tryz.func47 c47 (fun a _ hw=> ?_) (.cat K3 .nil)
 obtain⟨r,l,d,u⟩:=a
 simp only[Ag,AZ,reduceCtorEq,Nat.reduceSub,Nat.reducePow,go_sem]at hw
 obtain⟨w1,w2⟩:=hw
 by_cases h0:BS r l=0
 ·have f0:(BS r l=0)=True:=eq_true h0
  have ha:=Dr h0
  have hr:=ha.1
  have hlw:((Bm l l.1).length<=9223372036854775807)=True:=eq_true (by have:=Je l;have:(Bm l l.1).length<=l.1:=this;have:=ha.2.1;omega)
  by_cases hd:0<=d/\d<=100000
  ·have fd:Fv d 0 100000=true:=As hd
   have fd2:(0<=d/\d<=100000)=True:=eq_true hd
   simp only[a47,JI,NR,An,Ag,AZ,h0,fd,fd2,w1,w2,hlw,↓reduceIte,reduceCtorEq,Nat.reduceEqDiff,Nat.reduceAdd,Nat.reduceSub,Nat.reduceLT,Nat.reducePow,go_sem]
   refine MU (by omega) hr (fun v=> ?_) (fun v=>rfl) fun B1 hB1=> ?_
   ·simp only[↓reduceIte,reduceCtorEq,go_sem]
   obtain⟨B1,rfl⟩:∃m,B1=m+50000:=⟨B1-50000,by omega⟩
   simp only[bxO,hlw,↓reduceIte,Nat.reduceEqDiff,Nat.reduceSub,Nat.reducePow,go_sem]
   have hN:((BQ r:Nat):Int)=1440*r.days:=by unfold BQ;have:=hr.1;omega
   have hN2:BQ r<=23040:=by unfold BQ;have:=hr.1;have:=hr.2.1;omega
   obtain⟨D,hDe⟩:∃D,D=Dj l:=⟨_,rfl⟩
   have hDl:(Bm l l.1).length=D.1:=by rw[hDe];rfl
   have hDv:(fun i j=>(lD (Bm l l.1) i).c j)=fun i j=>(D.2 i).c j:=by rw[hDe];rfl
   have hDok:∀i,i<D.1->C3 r (D.2 i):=fun i hi=>by
    rw[hDe]at hi⊢
    obtain⟨k,k1,_,k2⟩:=Fp l i hi
    rw[k2];exact ha.2.2.1 k k1
   have hDlen:D.1<=60:=by have:=Je l;rw[<-hDe]at this;have:=ha.2.1;omega
   have hU:B3 D d<=D.1:=by have:=Bi (fun i=>d<(D.2 i).day) D.1;unfold B3;omega
   have hUd:∀i,i<D.1->((D.2 i).day<=d↔i<B3 D d):=fun i hi=>by
    have hsrt:∀a b,a<b->b<D.1->(D.2 a).day<=(D.2 b).day:=fun a b hab hb=>by
     rw[hDe]at hb⊢
     have h1:b<(Bm l l.1).length:=hb
     have:=List.pairwise_iff_getElem.1 (Ea l l.1) a b (by omega) h1 hab
     have ga:(Dj l).2 a=(Bm l l.1)[a]'(by omega):=by show lD (Bm l l.1) a=_;unfold lD;rw[List.getD_eq_getElem?_getD,List.getElem?_eq_getElem (by omega)];rfl
     have gb:(Dj l).2 b=(Bm l l.1)[b]'h1:=by show lD (Bm l l.1) b=_;unfold lD;rw[List.getD_eq_getElem?_getD,List.getElem?_eq_getElem h1];rfl
     rw[ga,gb]
     unfold Bl at this;omega
    rcases Bi (fun i=>d<(D.2 i).day) D.1 with⟨u1,u2,u3⟩|⟨u1,u2⟩
    ·constructor
     ·intro h
      apply Classical.byContradiction
      intro hn
      have h2:d<(D.2 (B3 D d)).day:=u2
      by_cases e:i=B3 D d
      ·rw[<-e]at h2;omega
      have:=hsrt (B3 D d) i (by omega) hi;omega
     intro h;have:=u3 i h;omega
    constructor
    ·intro _;unfold B3;omega
    intro _;have:=u2 i hi;omega
   have huP:Mw r l d=E9 r D.2 (B3 D d):=by rw[hDe];rfl
   simp only[hDl,hDv,huP]
   refine AK (ι:=Nat×(Int->Bool)×(Int->Ae)) (fun q=>q.1<=D.1/\OP 4 q.2.1 q.2.2 (AE r D.2 (min q.1 (B3 D d)))) (fun q=>D.1-q.1) [2,10,27,28] (fun q=>[(29,.int .i64 q.1)]) (fun q=>[(4,.row 107 5 (E9 r D.2 (min q.1 (B3 D d))).1 fun a b=>((E9 r D.2 (min q.1 (B3 D d))).2 a).c b),(2,.mp .i64 q.2.1 q.2.2)]) (0,(fun _=>false),fun _=> .und) ⟨Nat.zero_le _,⟨fun k h=>(by cases h),fun _ _=>rfl,fun k h1 h2=>by rw[Nat.zero_min];rfl⟩⟩ (by
    simp only[Nat.zero_min,E9,↓reduceIte,reduceCtorEq,Nat.reduceEqDiff,Nat.reduceLT,go_sem]
    rfl) fun q hq=> ?_
   obtain⟨j,has,mf⟩:=q
   obtain⟨hj,hD⟩:=hq
   simp only at hj hD
   rcases Nat.lt_or_ge j D.1 with hlt|hge
   ·have f1:((j:Int)<(D.1:Int))=True:=eq_true (by omega)
    have hx:=hDok j hlt
    have hxl:((D.2 j).heirs.1<=9223372036854775807)=True:=eq_true (by have:=hx.heirs;omega)
    by_cases hju:j<B3 D d
    ·have f2:((D.2 j).day<=d)=True:=eq_true ((hUd j hlt).2 hju)
     have hmin:min j (B3 D d)=j:=by omega
     have hmin2:min (j+1) (B3 D d)=j+1:=by omega
     rw[hmin]at hD
     simp only[f1,f2,hxl,hmin,Ov,PI,↓reduceIte,reduceCtorEq,Nat.reduceEqDiff,Nat.reduceAdd,Nat.reduceSub,Nat.reduceLeDiff,Nat.reducePow,go_sem]
     have hPk:=Ht (r:=r) (l:=D.2) hr j fun i hi=>hDok i (by omega)
     have hs5:=(Ua r (E9 r D.2 j) has mf hD.p).cons (c:= .cells (D.2 j).L) fun _=>rfl
     refine⟨by omega,?_⟩
     refine P9 (b:=AE r D.2 j) (x:=D.2 j) (by omega) hs5 hPk.1 hN2 hN hPk.2 (Hm r D.2 j) hx ?_ hD (fun v=>rfl) (fun v=> ?_) fun B2 bx2 nx2 has' mf' hB2 hs2 hD2 hh2 hn2=> ?_
     ·simp only[noIt,J9,and_self,go_sem]
     ·simp only[↓reduceIte,Nat.reduceEqDiff,go_sem]
     obtain⟨B2,rfl⟩:∃m,B2=m+100:=⟨B2-100,by omega⟩
     simp only[↓reduceIte,Nat.reduceEqDiff,go_sem]
     have hD2:OP 4 has' mf' (AE r D.2 (j+1)):=hD2
     have hs2:D3 r 3 4 2 (E9 r D.2 (j+1)) has' mf' bx2 nx2:=hs2
     have hb3:=hh2 (.n 3) _ (by simp) (by simp) (by rw[Af,if_neg (by simp),Af,if_pos rfl])
     have hb1:=hh2 (.n 1) _ (by simp) (by simp) (by rw[Af,if_neg (by simp),Af,if_neg (by simp),Af,if_neg (by simp),Af,if_pos rfl])
     have hb0:=hh2 (.n 0) _ (by simp) (by simp) (by rw[Af,if_neg (by simp),Af,if_neg (by simp),Af,if_neg (by simp),Af,if_neg (by simp),Af,if_pos rfl])
     refine ED (j+1,has',mf') ⟨hlt,by show OP 4 has' mf' (AE r D.2 (min (j+1) (B3 D d)));rw[hmin2];exact hD2⟩ (by show D.1-(j+1)<D.1-j;omega) (Yy (b1:= .n 4) (b2:= .n 2) (.row 107 5 (E9 r D.2 (min (j+1) (B3 D d))).1 fun a b=>((E9 r D.2 (min (j+1) (B3 D d))).2 a).c b) (.mp .i64 has' mf') (Nat.le_refl _) (by simp) rfl rfl hs2.hp hs2.hd (fun y h1 h2 c hc=> ?_) (fun N D'=>by rw[hmin2];exact⟨rfl,rfl,rfl,fun i _ b _=>B7 _⟩) (fun N D'=>⟨rfl,fun k=>⟨rfl,fun hk=> ?_⟩⟩) ?_)
     ·rw[Af]at hc
      by_cases e3:y= .n 3
      ·rw[if_pos e3]at hc;cases hc;rw[e3];exact hb3
      rw[if_neg e3,Af,if_neg h2,Af]at hc
      by_cases e1:y= .n 1
      ·rw[if_pos e1]at hc;cases hc;rw[e1];exact hb1
      rw[if_neg e1,Af]at hc
      by_cases e0:y= .n 0
      ·rw[if_pos e0]at hc;cases hc;rw[e0];exact hb0
      rw[if_neg e0,Af,if_neg h1]at hc
      cases hc
     ·rw[hD2.m k hk];rfl
     simp only[↓reduceIte,reduceCtorEq,Nat.reduceEqDiff,go_sem]
     exact BH (by omega)
    have f2:((D.2 j).day<=d)=False:=eq_false fun h=>hju ((hUd j hlt).1 h)
    have hmin:min j (B3 D d)=B3 D d:=by omega
    have hmin2:min (j+1) (B3 D d)=B3 D d:=by omega
    simp only[f1,f2,hxl,hmin,Ov,PI,↓reduceIte,reduceCtorEq,Nat.reduceEqDiff,Nat.reduceAdd,Nat.reduceSub,Nat.reduceLeDiff,Nat.reducePow,go_sem]
    refine⟨by omega,Ad (j+1,has,mf) ⟨hlt,by show OP 4 has mf (AE r D.2 (min (j+1) (B3 D d)));rw[hmin2,<-hmin];exact hD⟩ (by show D.1-(j+1)<D.1-j;omega) ?_⟩
    simp only[hmin2,↓reduceIte,reduceCtorEq,Nat.reduceEqDiff,Nat.reduceLT,go_sem]
    rw[BH (by omega)]
    exact⟨rfl,fun k hk=>by rw[hD.m k hk];rfl⟩
   have f1:((j:Int)<(D.1:Int))=False:=eq_false (by omega)
   obtain rfl:j=D.1:=by omega
   have hmin:min D.1 (B3 D d)=B3 D d:=by omega
   simp only[f1,hmin,Ov,PI,pzV,↓reduceIte,reduceCtorEq,Nat.reduceEqDiff,Nat.reduceAdd,go_sem]
   refine⟨fun k hk=>by rw[hD.m k hk];simp only[Ao],fun j hj=> ?_⟩
   rcases(by omega:j=0\/j=1\/j=2\/j=3)with rfl|rfl|rfl|rfl
   ·trivial
   ·trivial
   ·exact B7 _
   trivial
  have fd:Fv d 0 100000=false:=Am hd
  have fd2:(0<=d/\d<=100000)=False:=eq_false hd
  simp only[a47,JI,NR,An,Ag,AZ,h0,fd,fd2,w1,w2,hlw,↓reduceIte,reduceCtorEq,Nat.reduceEqDiff,Nat.reduceAdd,Nat.reduceSub,Nat.reduceLT,Nat.reducePow,go_sem]
 have f0:(BS r l=0)=False:=eq_false h0
 simp only[a47,JI,An,Ag,AZ,f0,w1,w2,↓reduceIte,reduceCtorEq,Nat.reduceEqDiff,Nat.reduceAdd,Nat.reduceSub,Nat.reduceLT,Nat.reducePow,go_sem]
end Go.Proofs.YtlieoghhkioflaaGreat
