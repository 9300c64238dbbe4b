/- Deeds: a deed is tried, walked. No condition but bounds. -/
import Derived.Test.YtlieoghhkioflaaGreatDdh
import Derived.Test.YtlieoghhkioflaaGreatSoT
set_option linter.unusedSimpArgs false
set_option linter.unusedVariables false
set_option maxRecDepth 100000
namespace Go.Proofs.YtlieoghhkioflaaGreat
open Go Go.RowKit
variable{b:Bk}{x:De}{has:Int->Bool}{mf:Int->Ad}{d p:Nat}
variable{G:Nat->Option (Nat×(Nat->Ad))}
structure OC(p:Nat)(has:Int->Bool)(mf:Int->Ad)(b:Bk):Prop where
 m:∀k,has k=true->mf k= .bool true
 p:∀v k,Bc (.n p) v (mf k)=mf k
 e:∀k:Int,0<=k->k<=9999->has k=b.de.2 k.toNat
theorem OC.same{b':Bk}(h:OC p has mf b)(e:b'.de=b.de):OC p has mf b':=⟨h.m,h.p,fun k h1 h2=>by rw[e];exact h.e k h1 h2⟩
theorem OC.dies(h:OC p has mf b)(h1:1<=x.fro)(h2:x.fro<=9999):OC p (HW has x.fro) (RK mf x.fro) (JK b x):=by
 refine⟨fun k hk=> ?_,fun v k=> ?_,fun k k1 k2=> ?_⟩
 ·unfold HW at hk
  unfold RK
  by_cases e:k=x.fro
  ·rw[if_pos e]
  rw[if_neg e]at hk⊢;exact h.m k hk
 ·unfold RK
  split
  ·rfl
  exact h.p v k
 show HW has x.fro k=Kw b x k.toNat
 unfold HW Kw
 by_cases e:k=x.fro
 ·rw[if_pos e,if_pos (by rw[e])]
 rw[if_neg e,if_neg (by omega)];exact h.e k k1 k2
theorem Es.two{bx bx':Bx}(h:Es p bx bx'):II p d bx bx':=fun y v h1 _ hb=>h y v h1 hb
theorem II.pre{b1 b2 b3:Bx}(h:Es p b1 b2)(k:II p d b2 b3):II p d b1 b3:=fun y v h1 h2 hb=>k y v h1 h2 (h y v h1 hb)
theorem XV(h:x.kind≠3):(Nf b x).de=b.de:=by
 unfold Nf
 rw[if_neg h]
 split
 ·rfl
 split
 ·rfl
 split<;>rfl
theorem V2(h:x.kind≠3):(E6 b x).de=b.de:=by
 unfold E6
 split
 ·exact XV h
 rfl
set_option maxHeartbeats 4000000 in
theorem Qx{Q:Ad->Bx->Prop}{r:Ro}{z N:Nat}{P:Pz}{bx:Bx}{nx:Nat}{f:Av}{stk:List Av}{B:Nat}(hB:6000<=B)(hs:D2 r z p d P has mf bx nx)(hk:BG N P)(hN:N<=23040)(hNr:(N:Int)=1440*r.days)(hr:Rp P b)(hbN:Vf b N)(hx:Dn r x)(hit:noIt (.n d) bx)(hD:OC p has mf b)(HS:∀v,AC (.n p) v stk=stk)(HF:∀v,AK (.n p) v f.fr=f.fr)
  (hK:∀B' bx' nx' has' mf',B<=B'+6000->D2 r z p d (EN P b x) has' mf' bx' nx'->OC p has' mf' (E6 b x)->II p d bx bx'->nx<=nx'->AA (HQ G) Q B' f.K stk f.res (Ai f.fr f.d (.int .u8 (Bh b x))) bx' nx'):
  AA (HQ G) Q B [.code Vh.code] (f::stk) Vh.res (params 0 [.ptr (.n z) 0,.agg x.L]) bx nx:=by
 obtain⟨B,rfl⟩:∃m,B=m+5990:=⟨B-5990,by omega⟩
 have hz:=hs.hz;have hp:=hs.hp;have hd:=hs.hd;have zn:=hs.zn;have pn:=hs.pn;have dn:=hs.dn;have zp:=hs.zp;have dp:=hs.dp;have zd:=hs.zd
 have n1:(nx=z)=False:=eq_false (by omega)
 have n2:(nx=p)=False:=eq_false (by omega)
 have n3:(nx=d)=False:=eq_false (by omega)
 have n4:(nx+1=z)=False:=eq_false (by omega)
 have n5:(nx+1=p)=False:=eq_false (by omega)
 have n6:(nx+1=d)=False:=eq_false (by omega)
 have n7:(nx+1=nx)=False:=eq_false (by omega)
 have m1:(z=nx)=False:=eq_false (by omega)
 have m2:(p=nx)=False:=eq_false (by omega)
 have m3:(d=nx)=False:=eq_false (by omega)
 have m4:(z=nx+1)=False:=eq_false (by omega)
 have m5:(p=nx+1)=False:=eq_false (by omega)
 have m6:(d=nx+1)=False:=eq_false (by omega)
 have m7:(nx=nx+1)=False:=eq_false (by omega)
 have hpk:∀k,EG (has k) (mf k) (.bool false)= .bool (has k):=fun k=>by
  cases e:has k with
  |false=>rfl
  |true=>rw[hD.m k e];rfl
 obtain⟨x1,x2,x3,x4,x5,x6,x7⟩:=id hx
 have q1:=hD.e x.fro (by omega) (by omega)
 have tw:0<=x.tow/\x.tow<=9999:=by
  rcases x7 with h|h|h|h
  ·obtain⟨_,⟨h1,h2,_⟩,_⟩:=h;omega
  ·obtain⟨_,_,h1,_⟩:=h;omega
  ·obtain⟨_,_,h1,_⟩:=h;omega
  obtain⟨_,⟨h1,h2,_⟩,_⟩:=h;omega
 have q2:=hD.e x.tow tw.1 tw.2
 have hlw:(x.heirs.1<=9223372036854775807)=True:=eq_true (by have:=hx.heirs;omega)
 have hs1:=hs.cons (c:= .cells x.L) fun _=>rfl
 have hfw:∀{P':Pz} {has':Int->Bool} {mf':Int->Ad} {bx1:Bx} {nx1 g:Nat} {w:Int} {c:Cw},D2 r z p d P' has' mf' bx1 nx1->nx+1<nx1->II p d ((nx+1,.one c)::(nx,.one (.cells x.L))::bx) bx1->D2 r z p d P' has' mf' (Aj bx1 (.n (nx+1)) (.wc g (.int .u8 w))) nx1/\II p d bx (Aj bx1 (.n (nx+1)) (.wc g (.int .u8 w))):=fun{P' has' mf' bx1 nx1 g w c} h1 h2 h3=>by
  refine⟨h1.other (by omega) (by omega) (by omega) h2 fun _=>rfl,fun y v y1 y2 hb=> ?_⟩
  have y3:y≠ .n (nx+1):=by rintro rfl;rw[hs.fre (nx+1) (by omega)]at hb;cases hb
  have y4:y≠ .n nx:=by rintro rfl;rw[hs.fre nx (Nat.le_refl _)]at hb;cases hb
  rw[Ac,if_neg y3]
  exact h3 y v y1 y2 (by rw[Ae,if_neg y3,Ae,if_neg y4];exact hb)
 by_cases c1:(b.de.2 x.fro.toNat||b.de.2 x.tow.toNat)=true
 ·have hv:Bh b x=1:=by unfold Bh;rw[if_pos c1]
  have hS:EN P b x=P:=by unfold EN;rw[if_pos c1]
  have hSb:E6 b x=b:=by unfold E6;rw[if_neg (by omega)]
  rw[hv,hS,hSb]at hK
  cases d1:b.de.2 x.fro.toNat with
  |true=>
   rw[d1]at q1
   have q3:=hD.m _ q1
   simp only[Vh,IV,hz,hd,q1,q3,n1,n3,n4,n6,n7,↓reduceIte,reduceCtorEq,Nat.reduceEqDiff,Nat.reduceAdd,Nat.reduceSub,Nat.reduceLeDiff,go_sem]
   exact fun g=>⟨⟨0,rfl⟩,hK _ _ _ has mf (by omega) (hs1.cons (c:= .wc g (.int .u8 1)) fun _=>rfl) hD ((hs.hold _).trans (hs1.hold _)).two (by omega)⟩
  |false=>
   rw[d1]at q1
   have d2:b.de.2 x.tow.toNat=true:=by rw[d1]at c1;exact c1
   rw[d2]at q2
   have q3:=hD.m _ q2
   simp only[Vh,IV,hz,hd,q1,q2,q3,n1,n3,n4,n6,n7,↓reduceIte,reduceCtorEq,Nat.reduceEqDiff,Nat.reduceAdd,Nat.reduceLeDiff,go_sem]
   exact fun g=>⟨⟨0,rfl⟩,hK _ _ _ has mf (by omega) (hs1.cons (c:= .wc g (.int .u8 1)) fun _=>rfl) hD ((hs.hold _).trans (hs1.hold _)).two (by omega)⟩
 have d1:b.de.2 x.fro.toNat=false:=by
  cases h:b.de.2 x.fro.toNat with
  |false=>rfl
  |true=>rw[h]at c1;exact absurd rfl c1
 have d2:b.de.2 x.tow.toNat=false:=by
  cases h:b.de.2 x.tow.toNat with
  |false=>rfl
  |true=>rw[d1,h]at c1;exact absurd rfl c1
 rw[d1]at q1
 rw[d2]at q2
 by_cases k3:x.kind=3
 ·have eH:H0 x.kind=true:=by rw[k3];rfl
  have eL:HZ x.kind=Q8:=by rw[k3];rfl
  simp only[Vh,IV,D3,eH,eL,Q8,Ak,AZ,hz,hd,q1,q2,n1,n3,n4,n6,n7,↓reduceIte,reduceCtorEq,Nat.reduceEqDiff,Nat.reduceAdd,Nat.reduceLeDiff,go_sem]
  intro g
  have m12:(d=p)=False:=eq_false dp
  have hH:FV x.fro x.heirs:=by
   rcases x7 with h|h|h|h
   ·omega
   ·omega
   ·exact h.2.1
   omega
  have ht:x.turn.fro=0/\x.turn.til=0:=by
   rcases x7 with h|h|h|h
   ·omega
   ·omega
   ·exact⟨h.2.2.2.1,h.2.2.2.2.1⟩
   omega
  have hP:H6 b x:=fun m h1 h2=>by omega
  have hv:Bh b x=0:=by unfold Bh;rw[if_neg c1,At hP,if_pos rfl,if_neg (by omega)]
  have hS:EN P b x=Ep x.fro (fun i=>(hl (B4 b x) i).who) (A5 b x) (CM P x.fro P.1) (B4 b x).length:=by unfold EN;rw[if_neg c1,if_pos k3]
  have hSb:E6 b x=JK b x:=by unfold E6;rw[if_pos hv];unfold Nf;rw[if_pos k3]
  rw[hv,hS,hSb]at hK
  have hs2:=hs1.cons (c:= .wc g (.int .u8 0)) fun _=>rfl
  refine Q7 (b:=b) (x:=x) (by omega) hs2 hk hN hr hbN hH ⟨by omega,by omega⟩ (by simp only[noIt,JE,hit,and_self]) hD.m hD.p hD.e (fun v=> ?_) (fun v=> ?_) fun B1 bx1 nx1 hB1 hs3 hh1 hn1=> ?_
  ·simp only[AC,HF,HS]
  ·simp only[n2,n5,m12,zp,↓reduceIte,go_sem]
  obtain⟨B1,rfl⟩:∃m,B1=m+100:=⟨B1-100,by omega⟩
  have hw1:Ab bx1 (.n (nx+1))=some (.wc g (.int .u8 0)):=hh1 _ _ (by simp;omega) (by simp;omega) (by rw[Ae,if_pos rfl])
  simp only[hw1,Ac,↓reduceIte,Nat.reduceEqDiff,go_sem]
  obtain⟨u1,u2⟩:=hfw (g:=g) (w:=0) hs3 (by omega) hh1
  exact hK _ _ _ _ _ (by omega) u1 (hD.dies (by omega) (by omega)) u2 (by omega)
 have m12:(d=p)=False:=eq_false dp
 have r1:(nx+1+1=z)=False:=eq_false (by omega)
 have r2:(nx+1+1=p)=False:=eq_false (by omega)
 have r3:(nx+1+1=nx)=False:=eq_false (by omega)
 have r4:(nx+1+1=nx+1)=False:=eq_false (by omega)
 have r5:(nx+1=nx+1+1)=False:=eq_false (by omega)
 have r6:(nx=nx+1+1)=False:=eq_false (by omega)
 have r7:(z=nx+1+1)=False:=eq_false (by omega)
 have hm:F5 r x:=by
  rcases x7 with q|q|q|q
  ·exact q.2.2.1
  ·exact q.2.1
  ·exact absurd q.1 k3
  exact q.2.2.1
 have h4:x.kind=1\/x.kind=2\/x.kind=4:=by
  rcases x7 with q|q|q|q
  ·exact .inl q.1
  ·exact .inr (.inl q.1)
  ·exact absurd q.1 k3
  exact .inr (.inr q.1)
 obtain⟨t0,t1,t2⟩:=hm
 have hO:=KW hk t0 t1 (by omega)
 have hro:Rp (Cl P x.turn) b:=J6 (J6 hr _) _
 have hhis:=YT hO hro t0
 have hlet:=Y6 hO hro t0
 have hDs:OC p has mf (E6 b x):=hD.same (V2 k3)
 -- who has it
 have no2:¬H6 b x->Bh b x=2/\EN P b x=Cl P x.turn:=fun h=>by
  unfold Bh EN
  rw[if_neg c1,if_neg c1,if_neg k3,Am h,if_neg Bool.false_ne_true,if_neg Bool.false_ne_true];exact⟨rfl,rfl⟩
 have hs2:∀g,D2 r z p d P has mf ((nx+1,.one (.wc g (.int .u8 0)))::(nx,.one (.cells x.L))::bx) (nx+1+1):=fun g=>hs1.cons fun _=>rfl
 have hs3:∀g,D2 r z p d P has mf ((nx+1+1,.one (.cells x.L))::(nx+1,.one (.wc g (.int .u8 0)))::(nx,.one (.cells x.L))::bx) (nx+1+1+1):=fun g=>(hs2 g).cons fun _=>rfl
 have hw0:∀g,Ab ((nx+1+1,.one (.cells x.L))::(nx+1,.one (.wc g (.int .u8 0)))::(nx,.one (.cells x.L))::bx) (.n (nx+1))=some (.wc g (.int .u8 0)):=fun g=>by rw[Ae,if_neg (by simp),Ae,if_pos rfl]
 rcases h4 with k1|k1|k1
 ·have eH:H0 x.kind=true:=by rw[k1];rfl
  have eL:HZ x.kind=RV:=by rw[k1];rfl
  have yes:H6 b x->Bh b x=0/\EN P b x=setO (Cl P x.turn) (Cn (Cl P x.turn) x.turn) (CS (Cl P x.turn) x.turn) x.tow:=fun h=>by
   unfold Bh EN
   rw[if_neg c1,if_neg c1,if_neg k3,At h,if_pos rfl,if_pos rfl,if_neg (by omega),if_neg (by omega),if_pos k1];exact⟨rfl,rfl⟩
  simp only[Vh,IV,X5,D3,eH,eL,RV,Ak,AZ,hz,hd,q1,q2,hlw,n1,n3,n4,n6,n7,↓reduceIte,reduceCtorEq,Nat.reduceEqDiff,Nat.reduceAdd,Nat.reduceSub,Nat.reduceLeDiff,Nat.reducePow,go_sem]
  intro g
  refine MM (x:=x) (v:=x.tow) (by omega) (hs3 g) hk hN t0 t1 (by omega) (fun v=> ?_) (fun v=> ?_) (fun B1 bx1 nx1 hB1 hA hs4 hh1 hn1=> ?_) fun B1 bx1 nx1 hB1 hA hs4 hh1 hn1=> ?_
  ·simp only[zp,r2,↓reduceIte,go_sem]
  ·simp only[AC,HF,HS,n2,n5,m12,zp,↓reduceIte,go_sem]
  ·obtain⟨B1,rfl⟩:∃m,B1=m+100:=⟨B1-100,by omega⟩
   have hw1:=hh1 (.n (nx+1)) _ (by simp;omega) (hw0 g)
   simp only[hw1,Ac,↓reduceIte,Nat.reduceEqDiff,go_sem]
   obtain⟨y1,y2⟩:=yes (hhis.2 hA)
   rw[y1,y2]at hK
   obtain⟨u1,u2⟩:=hfw (g:=g) (w:=0) hs4 (by omega) (((hs2 g).hold _).trans hh1).two
   exact hK _ _ _ _ _ (by omega) u1 hDs u2 (by omega)
  obtain⟨B1,rfl⟩:∃m,B1=m+100:=⟨B1-100,by omega⟩
  have hw1:=hh1 (.n (nx+1)) _ (by simp;omega) (hw0 g)
  simp only[hw1,Ac,↓reduceIte,Nat.reduceEqDiff,go_sem]
  obtain⟨y1,y2⟩:=no2 fun h=>hA (hhis.1 h)
  rw[y1,y2]at hK
  obtain⟨u1,u2⟩:=hfw (g:=g) (w:=2) hs4 (by omega) (((hs2 g).hold _).trans hh1).two
  exact⟨⟨0,rfl⟩,hK _ _ _ _ _ (by omega) u1 hDs u2 (by omega)⟩
 ·have eH:H0 x.kind=true:=by rw[k1];rfl
  have eL:HZ x.kind=Rz:=by rw[k1];rfl
  have yes:H6 b x->Bh b x=0/\EN P b x=setO (Cl P x.turn) (Cn (Cl P x.turn) x.turn) (CS (Cl P x.turn) x.turn) 0:=fun h=>by
   unfold Bh EN
   rw[if_neg c1,if_neg c1,if_neg k3,At h,if_pos rfl,if_pos rfl,if_neg (by omega),if_neg (by omega),if_neg (by omega)];exact⟨rfl,rfl⟩
  simp only[Vh,IV,Yc,D3,eH,eL,Rz,Ak,AZ,hz,hd,q1,q2,hlw,n1,n3,n4,n6,n7,↓reduceIte,reduceCtorEq,Nat.reduceEqDiff,Nat.reduceAdd,Nat.reduceSub,Nat.reduceLeDiff,Nat.reducePow,go_sem]
  intro g
  refine MM (x:=x) (v:=0) (by omega) (hs3 g) hk hN t0 t1 (by omega) (fun v=> ?_) (fun v=> ?_) (fun B1 bx1 nx1 hB1 hA hs4 hh1 hn1=> ?_) fun B1 bx1 nx1 hB1 hA hs4 hh1 hn1=> ?_
  ·simp only[zp,r2,↓reduceIte,go_sem]
  ·simp only[AC,HF,HS,n2,n5,m12,zp,↓reduceIte,go_sem]
  ·obtain⟨B1,rfl⟩:∃m,B1=m+100:=⟨B1-100,by omega⟩
   have hw1:=hh1 (.n (nx+1)) _ (by simp;omega) (hw0 g)
   simp only[hw1,Ac,↓reduceIte,Nat.reduceEqDiff,go_sem]
   obtain⟨y1,y2⟩:=yes (hhis.2 hA)
   rw[y1,y2]at hK
   obtain⟨u1,u2⟩:=hfw (g:=g) (w:=0) hs4 (by omega) (((hs2 g).hold _).trans hh1).two
   exact hK _ _ _ _ _ (by omega) u1 hDs u2 (by omega)
  obtain⟨B1,rfl⟩:∃m,B1=m+100:=⟨B1-100,by omega⟩
  have hw1:=hh1 (.n (nx+1)) _ (by simp;omega) (hw0 g)
  simp only[hw1,Ac,↓reduceIte,Nat.reduceEqDiff,go_sem]
  obtain⟨y1,y2⟩:=no2 fun h=>hA (hhis.1 h)
  rw[y1,y2]at hK
  obtain⟨u1,u2⟩:=hfw (g:=g) (w:=2) hs4 (by omega) (((hs2 g).hold _).trans hh1).two
  exact⟨⟨0,rfl⟩,hK _ _ _ _ _ (by omega) u1 hDs u2 (by omega)⟩
 have eH:H0 x.kind=true:=by rw[k1];rfl
 have eL:HZ x.kind=QG:=by rw[k1];rfl
 have yes:H6 b x->O5 b x->Bh b x=0/\EN P b x=NG (Cl P x.turn) (Cn (Cl P x.turn) x.turn) (CS (Cl P x.turn) x.turn) x.tow x.til:=fun h h'=>by
  unfold Bh EN
  rw[if_neg c1,if_neg c1,if_neg k3,At h,if_pos rfl,if_pos rfl,if_pos k1,if_pos k1,At h',if_pos rfl,if_pos rfl];exact⟨rfl,rfl⟩
 have no3:H6 b x->¬O5 b x->Bh b x=3/\EN P b x=Cl P x.turn:=fun h h'=>by
  unfold Bh EN
  rw[if_neg c1,if_neg c1,if_neg k3,At h,if_pos rfl,if_pos rfl,if_pos k1,if_pos k1,Am h',if_neg Bool.false_ne_true,if_neg Bool.false_ne_true];exact⟨rfl,rfl⟩
 simp only[Vh,IV,D3,eH,eL,QG,Ak,AZ,hz,hd,q1,q2,n1,n3,n4,n6,n7,↓reduceIte,reduceCtorEq,Nat.reduceEqDiff,Nat.reduceAdd,Nat.reduceLeDiff,go_sem]
 intro g
 refine U5 (x:=x) (by omega) (hs2 g) hk hN t0 t1 (by omega) (fun v=> ?_) (fun v=> ?_) (fun B1 bx1 nx1 hB1 hA hL hs4 hh1 hn1=> ?_) (fun B1 bx1 nx1 hB1 hA hs4 hh1 hn1=> ?_) fun B1 bx1 nx1 hB1 hA hL hs4 hh1 hn1=> ?_
 ·simp only[n2,n5,m12,zp,↓reduceIte,go_sem]
 ·simp only[AC,HF,HS,go_sem]
 ·obtain⟨B1,rfl⟩:∃m,B1=m+100:=⟨B1-100,by omega⟩
  have hw1:=hh1 (.n (nx+1)) _ (by simp;omega) (by rw[Ae,if_pos rfl])
  simp only[hw1,Ac,↓reduceIte,Nat.reduceEqDiff,go_sem]
  obtain⟨y1,y2⟩:=yes (hhis.2 hA) (hlet.2 hL)
  rw[y1,y2]at hK
  obtain⟨u1,u2⟩:=hfw (g:=g) (w:=0) hs4 (by omega) hh1.two
  exact hK _ _ _ _ _ (by omega) u1 hDs u2 (by omega)
 ·obtain⟨B1,rfl⟩:∃m,B1=m+100:=⟨B1-100,by omega⟩
  have hw1:=hh1 (.n (nx+1)) _ (by simp;omega) (by rw[Ae,if_pos rfl])
  simp only[hw1,Ac,↓reduceIte,Nat.reduceEqDiff,go_sem]
  obtain⟨y1,y2⟩:=no2 fun h=>hA (hhis.1 h)
  rw[y1,y2]at hK
  obtain⟨u1,u2⟩:=hfw (g:=g) (w:=2) hs4 (by omega) hh1.two
  exact⟨⟨0,rfl⟩,hK _ _ _ _ _ (by omega) u1 hDs u2 (by omega)⟩
 obtain⟨B1,rfl⟩:∃m,B1=m+100:=⟨B1-100,by omega⟩
 have hw1:=hh1 (.n (nx+1)) _ (by simp;omega) (by rw[Ae,if_pos rfl])
 simp only[hw1,Ac,↓reduceIte,Nat.reduceEqDiff,go_sem]
 obtain⟨y1,y2⟩:=no3 (hhis.2 hA) fun h=>hL (hlet.1 h)
 rw[y1,y2]at hK
 obtain⟨u1,u2⟩:=hfw (g:=g) (w:=3) hs4 (by omega) hh1.two
 exact⟨⟨0,rfl⟩,hK _ _ _ _ _ (by omega) u1 hDs u2 (by omega)⟩
end Go.Proofs.YtlieoghhkioflaaGreat
namespace Go.Proofs.YtlieoghhkioflaaGreat
open Go Go.RowKit
variable{G:Nat->Option (Nat×(Nat->Ad))}
abbrev bxO(r:Ro):Bx:=[(3,.cells (O0 r 4 2)),(2,.mp .i64 (fun _=>false) fun _=> .und),(1,.cells (PH r)),(0,.cells (PH r)),(4,.row 107 5 r.holds.1 fun i j=>((opZ r).2 i).c j)]
theorem MK{Q:Ad->Bx->Prop}{r:Ro}{f:Av}{stk:List Av}{B:Nat}(hB:300<=B)(hr:EL r)(HF:∀v,AK (.n 4) v f.fr=f.fr)(HS:∀v,AC (.n 4) v stk=stk)
  (hK:∀B',B<=B'+300->AA (HQ G) Q B' f.K stk f.res (Ai f.fr f.d (.ptr (.n 3) 0)) (bxO r) 5):
  AA (HQ G) Q B [.code a67.code] (f::stk) a67.res (params 0 [.agg (PH r)]) [(0,.cells (PH r))] 1:=by
 obtain⟨B,rfl⟩:∃m,B=m+290:=⟨B-290,by omega⟩
 have hlw:(r.holds.1<=9223372036854775807)=True:=eq_true (by have:=hr.2.2.2.1;omega)
 simp only[a67,PH,hlw,↓reduceIte,Nat.reduceEqDiff,Nat.reduceAdd,Nat.reduceSub,Nat.reduceLeDiff,Nat.reducePow,go_sem]
 refine Hu (ι:=Nat) (fun j=>j<=r.holds.1) (fun j=>r.holds.1-j) [3,11,12] (fun j=>[(13,.int .i64 j)]) (fun j=>[(3,.cells (O0 r 4 2)),(4,.row 107 5 j fun a b=>((opZ r).2 a).c b)]) 1 0 (Nat.zero_le _) (by
  simp only[O0,↓reduceIte,reduceCtorEq,Nat.reduceEqDiff,Nat.reduceAdd,Nat.reduceLT,go_sem]) fun j hj=> ?_
 rcases Nat.lt_or_ge j r.holds.1 with hlt|hge
 ·have f1:((j:Int)<(r.holds.1:Int))=True:=eq_true (by omega)
  have h60:=hr.2.2.2.1
  simp only[f1,O0,HF,HS,↓reduceIte,reduceCtorEq,Nat.reduceEqDiff,Nat.reduceAdd,Nat.reduceSub,Nat.reduceLeDiff,Nat.reduceLT,Nat.reducePow,go_sem]
  refine⟨by omega,by omega,by omega,?_⟩
  refine Af (j+1) hlt (by omega) ?_
  simp only[↓reduceIte,reduceCtorEq,Nat.reduceEqDiff,Nat.reduceLT,go_sem]
  rw[Cs (by omega)]
  refine⟨rfl,fun i hi b hb=> ?_⟩
  by_cases e:i<j
  ·rw[if_pos e];exact BP _
  obtain rfl:i=j:=by omega
  rw[if_neg e,Nat.sub_self]
  rcases(by omega:b=0\/b=1\/b=2\/b=3\/b=4)with rfl|rfl|rfl|rfl|rfl<;>exact BP _
 have f1:((j:Int)<(r.holds.1:Int))=False:=eq_false (by omega)
 obtain rfl:j=r.holds.1:=by omega
 simp only[f1,O0,↓reduceIte,reduceCtorEq,Nat.reduceEqDiff,Nat.reduceAdd,go_sem]
 exact hK _ (by omega)
end Go.Proofs.YtlieoghhkioflaaGreat
namespace Go.Proofs.YtlieoghhkioflaaGreat
open Go Go.RowKit
variable{G:Nat->Option (Nat×(Nat->Ad))}
theorem Ze{bx0 bx1:Bx}{nx nx':Nat}{fr1 fr':Fr}{b1 b2:Bn}{l1 l2 m1 m2:Cw}(n1 n2:Cw)(hn:nx<=nx')(hne:b1≠b2)(h1:Ab bx0 b1=some l1)(h2:Ab bx0 b2=some l2)(g1:Ab bx1 b1=some m1)(g2:Ab bx1 b2=some m2)
  (hold:∀y,y≠b1->y≠b2->∀c,Ab bx0 y=some c->Ab bx1 y=some c) (v1:∀N D,By N D (some m1) n1) (v2:∀N D,By N D (some m2) n2)
  (hfr:DZ (BT bx1 (Aj (Aj bx0 b1 n1) b2 n2)) (Fc (Aj (Aj bx0 b1 n1) b2 n2)) fr1 fr'):LY bx0 nx fr1 bx1 fr' (Aj (Aj bx0 b1 n1) b2 n2) nx':=by
 have hg:∀y,Ab (Aj (Aj bx0 b1 n1) b2 n2) y=if y=b2 then some n2 else if y=b1 then some n1 else Ab bx0 y:=fun y=>by rw[Ac,Ac]
 refine⟨none,trivial,hn,hfr,fun y c hy=> ?_,fun y c hy=> ?_,fun y c0 c1 q0 q1=> ?_⟩
 ·rw[hg]at hy
  by_cases e2:y=b2
  ·subst e2;rw[if_pos rfl]at hy;cases hy
   right
   show By _ _ (Ab bx1 y) _
   rw[g2];exact v2 _ _
  rw[if_neg e2]at hy
  by_cases e1:y=b1
  ·subst e1;rw[if_pos rfl]at hy;cases hy
   right
   show By _ _ (Ab bx1 y) _
   rw[g1];exact v1 _ _
  rw[if_neg e1]at hy;exact .inl ⟨hy,hold y e1 e2 c hy⟩
 ·rw[hg]at hy
  by_cases e2:y=b2
  ·subst e2;exact .inl ⟨_,h2⟩
  rw[if_neg e2]at hy
  by_cases e1:y=b1
  ·subst e1;exact .inl ⟨_,h1⟩
  rw[if_neg e1]at hy;exact .inl ⟨_,hy⟩
 rw[hg]
 by_cases e2:y=b2
 ·subst e2;rw[g2]at q1;cases q1;rw[if_pos rfl];exact⟨_,rfl,Ed (v2 (fun _=>False) fun _=>False)⟩
 rw[if_neg e2]
 by_cases e1:y=b1
 ·subst e1;rw[g1]at q1;cases q1;rw[if_pos rfl];exact⟨_,rfl,Ed (v1 (fun _=>False) fun _=>False)⟩
 rw[if_neg e1,q0]
 rw[hold y e1 e2 c0 q0]at q1;cases q1
 exact⟨_,rfl,CR.refl _⟩
def pzV(P:Pz):Ad:= .vptr 4 (Az (.cons .und (.cons .und (.cons (.view 5 P.1 fun i j=>(P.2 i).c j) (.cons .und .nil)))))
noncomputable def NC(r:Ro)(l:E3)(d:Int):Pz:=Fa r (BI l).2 (BW (BI l) d)
noncomputable def HM:As:=Ak (Ag KC (Ag (Dv Gq) (Ag TI AZ))) (fun _=>True) fun a=>if BV a.1 a.2.1=0 then(if 0<=a.2.2.1/\a.2.2.1<=100000 then .tup (.cons (pzV (NC a.1 a.2.1 a.2.2.1)) (.cons (.int .i64 0) .nil))else .tup (.cons .nilp (.cons (.int .i64 2) .nil)))else .tup (.cons .nilp (.cons (.int .i64 (BV a.1 a.2.1)) .nil))
theorem UR(r:Ro)(P:Pz)(has:Int->Bool)(mf:Int->Ad)(hm:∀v k,Bc (.n 4) v (mf k)=mf k):D2 r 3 4 2 P has mf [(3,.one (.cells (O0 r 4 2))),(2,.one (.mp .i64 has mf)),(1,.one (.cells (PH r))),(0,.one (.cells (PH r))),(4,.one (.row 107 5 P.1 fun a b=>(P.2 a).c b))] 5:=by
 refine⟨rfl,rfl,rfl,by omega,by omega,by omega,by omega,by omega,by omega,fun y hy=> ?_,fun y c hy hc v=> ?_⟩
 ·rw[Ae,if_neg (by simp;omega),Ae,if_neg (by simp;omega),Ae,if_neg (by simp;omega),Ae,if_neg (by simp;omega),Ae,if_neg (by simp;omega)];rfl
 simp only[Ae]at hc
 split at hc
 ·exact absurd (by assumption) hy
 split at hc
 ·cases hc
  simp only[BU]
  congr 1
  funext k;exact hm v k
 split at hc
 ·cases hc;rfl
 split at hc
 ·cases hc;rfl
 split at hc
 ·cases hc;rfl
 cases hc
set_option maxHeartbeats 4000000 in
theorem XO:Ah Tryz.prog G 47 HM:=by
 refine Ij mixed (S:=SBk) (I:=IBk) (X:=XBk) (N:=[]) (C:=CBk) (.cons Zp (.cons AbF (.cons Pg (.cons XG (.cons Tl (.cons XN (.cons pIn .nil))))))) (.cons Tryz.func144 Aaw (.cons Tryz.func162 AaN (.cons Tryz.func103 Abs (.cons Tryz.func145 AbG (.cons Tryz.func138 AaO (.cons Tryz.func119 Abv (.cons Tryz.func120 Abk (.cons Tryz.func122 Abw (.cons Tryz.func121 AaI (.cons Tryz.func139 Abo (.cons Tryz.func157 Abu (.cons Tryz.func140 Aaa (.cons Tryz.func67 c67 (.cons Tryz.func68 c68 .nil)))))))))))))) (.cons AaC .nil) Tryz.func47 c47 (fun a _ hw=> ?_) (.cat KF .nil)
 obtain⟨r,l,d,u⟩:=a
 simp only[Ag,AZ,reduceCtorEq,Nat.reduceSub,Nat.reducePow,go_sem]at hw
 obtain⟨w1,w2⟩:=hw
 by_cases h0:BV r l=0
 ·have f0:(BV r l=0)=True:=eq_true h0
  have ha:=CI h0
  have hr:=ha.1
  have hlw:((Bo l l.1).length<=9223372036854775807)=True:=eq_true (by have:=GY l;have:(Bo l l.1).length<=l.1:=this;have:=ha.2.1;omega)
  by_cases hd:0<=d/\d<=100000
  ·have fd:Ft d 0 100000=true:=At hd
   have fd2:(0<=d/\d<=100000)=True:=eq_true hd
   simp only[a47,Jp,NV,Ak,Ag,AZ,h0,fd,fd2,w1,w2,hlw,↓reduceIte,reduceCtorEq,Nat.reduceEqDiff,Nat.reduceAdd,Nat.reduceSub,Nat.reduceLT,Nat.reducePow,go_sem]
   refine MK (by omega) hr (fun v=> ?_) (fun v=>rfl) fun B1 hB1=> ?_
   ·simp only[↓reduceIte,reduceCtorEq,go_sem]
   obtain⟨B1,rfl⟩:∃m,B1=m+50000:=⟨B1-50000,by omega⟩
   simp only[bxO,hlw,↓reduceIte,Nat.reduceEqDiff,Nat.reduceSub,Nat.reducePow,go_sem]
   have hN:((Ca r:Nat):Int)=1440*r.days:=by unfold Ca;have:=hr.1;omega
   have hN2:Ca r<=23040:=by unfold Ca;have:=hr.1;have:=hr.2.1;omega
   obtain⟨D,hDe⟩:∃D,D=BI l:=⟨_,rfl⟩
   have hDl:(Bo l l.1).length=D.1:=by rw[hDe];rfl
   have hDv:(fun i j=>(lD (Bo l l.1) i).c j)=fun i j=>(D.2 i).c j:=by rw[hDe];rfl
   have hDok:∀i,i<D.1->Dn r (D.2 i):=fun i hi=>by
    rw[hDe]at hi⊢
    obtain⟨k,k1,_,k2⟩:=DE l i hi
    rw[k2];exact ha.2.2.1 k k1
   have hDlen:D.1<=60:=by have:=GY l;rw[<-hDe]at this;have:=ha.2.1;omega
   have hU:BW D d<=D.1:=by have:=Bi (fun i=>d<(D.2 i).day) D.1;unfold BW;omega
   have hUd:∀i,i<D.1->((D.2 i).day<=d↔i<BW D d):=fun i hi=>by
    have hsrt:∀a b,a<b->b<D.1->(D.2 a).day<=(D.2 b).day:=fun a b hab hb=>by
     rw[hDe]at hb⊢
     have h1:b<(Bo l l.1).length:=hb
     have:=List.pairwise_iff_getElem.1 (Eb l l.1) a b (by omega) h1 hab
     have ga:(BI l).2 a=(Bo l l.1)[a]'(by omega):=by show lD (Bo l l.1) a=_;unfold lD;rw[List.getD_eq_getElem?_getD,List.getElem?_eq_getElem (by omega)];rfl
     have gb:(BI l).2 b=(Bo l l.1)[b]'h1:=by show lD (Bo l l.1) b=_;unfold lD;rw[List.getD_eq_getElem?_getD,List.getElem?_eq_getElem h1];rfl
     rw[ga,gb]
     unfold Bm at this;omega
    rcases Bi (fun i=>d<(D.2 i).day) D.1 with⟨u1,u2,u3⟩|⟨u1,u2⟩
    ·constructor
     ·intro h
      apply Classical.byContradiction
      intro hn
      have h2:d<(D.2 (BW D d)).day:=u2
      by_cases e:i=BW D d
      ·rw[<-e]at h2;omega
      have:=hsrt (BW D d) i (by omega) hi;omega
     intro h;have:=u3 i h;omega
    constructor
    ·intro _;unfold BW;omega
    intro _;have:=u2 i hi;omega
   have huP:NC r l d=Fa r D.2 (BW D d):=by rw[hDe];rfl
   simp only[hDl,hDv,huP]
   refine AS (ι:=Nat×(Int->Bool)×(Int->Ad)) (fun q=>q.1<=D.1/\OC 4 q.2.1 q.2.2 (AI r D.2 (min q.1 (BW D d)))) (fun q=>D.1-q.1) [2,10,27,28] (fun q=>[(29,.int .i64 q.1)]) (fun q=>[(4,.row 107 5 (Fa r D.2 (min q.1 (BW D d))).1 fun a b=>((Fa r D.2 (min q.1 (BW D d))).2 a).c b),(2,.mp .i64 q.2.1 q.2.2)]) (0,(fun _=>false),fun _=> .und) ⟨Nat.zero_le _,⟨fun k h=>(by cases h),fun _ _=>rfl,fun k h1 h2=>by rw[Nat.zero_min];rfl⟩⟩ (by
    simp only[Nat.zero_min,Fa,↓reduceIte,reduceCtorEq,Nat.reduceEqDiff,Nat.reduceLT,go_sem]
    rfl) fun q hq=> ?_
   obtain⟨j,has,mf⟩:=q
   obtain⟨hj,hD⟩:=hq
   simp only at hj hD
   rcases Nat.lt_or_ge j D.1 with hlt|hge
   ·have f1:((j:Int)<(D.1:Int))=True:=eq_true (by omega)
    have hx:=hDok j hlt
    have hxl:((D.2 j).heirs.1<=9223372036854775807)=True:=eq_true (by have:=hx.heirs;omega)
    by_cases hju:j<BW D d
    ·have f2:((D.2 j).day<=d)=True:=eq_true ((hUd j hlt).2 hju)
     have hmin:min j (BW D d)=j:=by omega
     have hmin2:min (j+1) (BW D d)=j+1:=by omega
     rw[hmin]at hD
     simp only[f1,f2,hxl,hmin,O0,PH,↓reduceIte,reduceCtorEq,Nat.reduceEqDiff,Nat.reduceAdd,Nat.reduceSub,Nat.reduceLeDiff,Nat.reducePow,go_sem]
     have hPk:=Hm (r:=r) (l:=D.2) hr j fun i hi=>hDok i (by omega)
     have hs5:=(UR r (Fa r D.2 j) has mf hD.p).cons (c:= .cells (D.2 j).L) fun _=>rfl
     refine⟨by omega,?_⟩
     refine Qx (b:=AI r D.2 j) (x:=D.2 j) (by omega) hs5 hPk.1 hN2 hN hPk.2 (Hb r D.2 j) hx ?_ hD (fun v=>rfl) (fun v=> ?_) fun B2 bx2 nx2 has' mf' hB2 hs2 hD2 hh2 hn2=> ?_
     ·simp only[noIt,JE,and_self,go_sem]
     ·simp only[↓reduceIte,Nat.reduceEqDiff,go_sem]
     obtain⟨B2,rfl⟩:∃m,B2=m+100:=⟨B2-100,by omega⟩
     simp only[↓reduceIte,Nat.reduceEqDiff,go_sem]
     have hD2:OC 4 has' mf' (AI r D.2 (j+1)):=hD2
     have hs2:D2 r 3 4 2 (Fa r D.2 (j+1)) has' mf' bx2 nx2:=hs2
     have hb3:=hh2 (.n 3) _ (by simp) (by simp) (by rw[Ae,if_neg (by simp),Ae,if_pos rfl])
     have hb1:=hh2 (.n 1) _ (by simp) (by simp) (by rw[Ae,if_neg (by simp),Ae,if_neg (by simp),Ae,if_neg (by simp),Ae,if_pos rfl])
     have hb0:=hh2 (.n 0) _ (by simp) (by simp) (by rw[Ae,if_neg (by simp),Ae,if_neg (by simp),Ae,if_neg (by simp),Ae,if_neg (by simp),Ae,if_pos rfl])
     refine En (j+1,has',mf') ⟨hlt,by show OC 4 has' mf' (AI r D.2 (min (j+1) (BW D d)));rw[hmin2];exact hD2⟩ (by show D.1-(j+1)<D.1-j;omega) (Ze (b1:= .n 4) (b2:= .n 2) (.row 107 5 (Fa r D.2 (min (j+1) (BW D d))).1 fun a b=>((Fa r D.2 (min (j+1) (BW D d))).2 a).c b) (.mp .i64 has' mf') (Nat.le_refl _) (by simp) rfl rfl hs2.hp hs2.hd (fun y h1 h2 c hc=> ?_) (fun N D'=>by rw[hmin2];exact⟨rfl,rfl,rfl,fun i _ b _=>BP _⟩) (fun N D'=>⟨rfl,fun k=>⟨rfl,fun hk=> ?_⟩⟩) ?_)
     ·rw[Ae]at hc
      by_cases e3:y= .n 3
      ·rw[if_pos e3]at hc;cases hc;rw[e3];exact hb3
      rw[if_neg e3,Ae,if_neg h2,Ae]at hc
      by_cases e1:y= .n 1
      ·rw[if_pos e1]at hc;cases hc;rw[e1];exact hb1
      rw[if_neg e1,Ae]at hc
      by_cases e0:y= .n 0
      ·rw[if_pos e0]at hc;cases hc;rw[e0];exact hb0
      rw[if_neg e0,Ae,if_neg h1]at hc
      cases hc
     ·rw[hD2.m k hk];rfl
     simp only[↓reduceIte,reduceCtorEq,Nat.reduceEqDiff,go_sem]
     exact Cs (by omega)
    have f2:((D.2 j).day<=d)=False:=eq_false fun h=>hju ((hUd j hlt).1 h)
    have hmin:min j (BW D d)=BW D d:=by omega
    have hmin2:min (j+1) (BW D d)=BW D d:=by omega
    simp only[f1,f2,hxl,hmin,O0,PH,↓reduceIte,reduceCtorEq,Nat.reduceEqDiff,Nat.reduceAdd,Nat.reduceSub,Nat.reduceLeDiff,Nat.reducePow,go_sem]
    refine⟨by omega,Af (j+1,has,mf) ⟨hlt,by show OC 4 has mf (AI r D.2 (min (j+1) (BW D d)));rw[hmin2,<-hmin];exact hD⟩ (by show D.1-(j+1)<D.1-j;omega) ?_⟩
    simp only[hmin2,↓reduceIte,reduceCtorEq,Nat.reduceEqDiff,Nat.reduceLT,go_sem]
    rw[Cs (by omega)]
    exact⟨rfl,fun k hk=>by rw[hD.m k hk];rfl⟩
   have f1:((j:Int)<(D.1:Int))=False:=eq_false (by omega)
   obtain rfl:j=D.1:=by omega
   have hmin:min D.1 (BW D d)=BW D d:=by omega
   simp only[f1,hmin,O0,PH,pzV,↓reduceIte,reduceCtorEq,Nat.reduceEqDiff,Nat.reduceAdd,go_sem]
   refine⟨fun k hk=>by rw[hD.m k hk];simp only[An],fun j hj=> ?_⟩
   rcases(by omega:j=0\/j=1\/j=2\/j=3)with rfl|rfl|rfl|rfl
   ·trivial
   ·trivial
   ·exact BP _
   trivial
  have fd:Ft d 0 100000=false:=Am hd
  have fd2:(0<=d/\d<=100000)=False:=eq_false hd
  simp only[a47,Jp,NV,Ak,Ag,AZ,h0,fd,fd2,w1,w2,hlw,↓reduceIte,reduceCtorEq,Nat.reduceEqDiff,Nat.reduceAdd,Nat.reduceSub,Nat.reduceLT,Nat.reducePow,go_sem]
 have f0:(BV r l=0)=False:=eq_false h0
 simp only[a47,Jp,Ak,Ag,AZ,f0,w1,w2,↓reduceIte,reduceCtorEq,Nat.reduceEqDiff,Nat.reduceAdd,Nat.reduceSub,Nat.reduceLT,Nat.reducePow,go_sem]
end Go.Proofs.YtlieoghhkioflaaGreat
