/- Deeds: the program's Read. No condition. -/
import Derived.Test.YtlieoghhkioflaaGreatDte
import Derived.Test.YtlieoghhkioflaaGreatSoT
import Derived.Test.YtlieoghhkioflaaGreatDpy
import Derived.Test.YtlieoghhkioflaaGreatSoH
import Derived.Test.YtlieoghhkioflaaGreatDsp
import Derived.Test.YtlieoghhkioflaaGreatScm
set_option linter.unusedSimpArgs false
set_option linter.unusedVariables false
set_option maxRecDepth 100000
namespace Go.Proofs.YtlieoghhkioflaaGreat
open Go Go.RowKit
variable{G:Nat->Option (Nat×(Nat->Ad))}
theorem Zy{bx0 bx1:Bx}{nx nx':Nat}{fr1 fr':Fr}{b1 b2 b3:Bn}{l1 l2 m1 m2 m3:Cw}(n1 n2 n3:Cw)(hn:nx<=nx')(hne:b1≠b2)(h1:Ab bx0 b1=some l1)(h2:Ab bx0 b2=some l2)(h3:Ab bx0 b3=none)(h3n:b3.id<nx')(g1:Ab bx1 b1=some m1)(g2:Ab bx1 b2=some m2)(g3:Ab bx1 b3=some m3)
  (hold:∀y,y≠b1->y≠b2->∀c,Ab bx0 y=some c->Ab bx1 y=some c) (v1:∀N D,By N D (some m1) n1) (v2:∀N D,By N D (some m2) n2) (v3:∀N D,By N D (some m3) n3)
  (hfr:DZ (BT bx1 (Aj (Aj (Aj bx0 b1 n1) b2 n2) b3 n3)) (Fc (Aj (Aj (Aj bx0 b1 n1) b2 n2) b3 n3)) fr1 fr'):LY bx0 nx fr1 bx1 fr' (Aj (Aj (Aj bx0 b1 n1) b2 n2) b3 n3) nx':=by
 have hg:∀y,Ab (Aj (Aj (Aj bx0 b1 n1) b2 n2) b3 n3) y=if y=b3 then some n3 else if y=b2 then some n2 else if y=b1 then some n1 else Ab bx0 y:=fun y=>by rw[Ac,Ac,Ac]
 refine⟨none,trivial,hn,hfr,fun y c hy=> ?_,fun y c hy=> ?_,fun y c0 c1 q0 q1=> ?_⟩
 ·rw[hg]at hy
  by_cases e3:y=b3
  ·subst e3;rw[if_pos rfl]at hy;cases hy
   right
   show By _ _ (Ab bx1 y) _
   rw[g3];exact v3 _ _
  rw[if_neg e3]at hy
  by_cases e2:y=b2
  ·subst e2;rw[if_pos rfl]at hy;cases hy
   right
   show By _ _ (Ab bx1 y) _
   rw[g2];exact v2 _ _
  rw[if_neg e2]at hy
  by_cases e1:y=b1
  ·subst e1;rw[if_pos rfl]at hy;cases hy
   right
   show By _ _ (Ab bx1 y) _
   rw[g1];exact v1 _ _
  rw[if_neg e1]at hy;exact .inl ⟨hy,hold y e1 e2 c hy⟩
 ·rw[hg]at hy
  by_cases e3:y=b3
  ·subst e3;exact .inr h3n
  rw[if_neg e3]at hy
  by_cases e2:y=b2
  ·subst e2;exact .inl ⟨_,h2⟩
  rw[if_neg e2]at hy
  by_cases e1:y=b1
  ·subst e1;exact .inl ⟨_,h1⟩
  rw[if_neg e1]at hy;exact .inl ⟨_,hy⟩
 rw[hg]
 by_cases e3:y=b3
 ·subst e3;rw[h3]at q0;cases q0
 rw[if_neg e3]
 by_cases e2:y=b2
 ·subst e2;rw[g2]at q1;cases q1;rw[if_pos rfl];exact⟨_,rfl,Ed (v2 (fun _=>False) fun _=>False)⟩
 rw[if_neg e2]
 by_cases e1:y=b1
 ·subst e1;rw[g1]at q1;cases q1;rw[if_pos rfl];exact⟨_,rfl,Ed (v1 (fun _=>False) fun _=>False)⟩
 rw[if_neg e1,q0]
 rw[hold y e1 e2 c0 q0]at q1;cases q1
 exact⟨_,rfl,CR.refl _⟩
theorem Tb(r:Ro)(P:Pz)(has:Int->Bool)(mf:Int->Ad)(e k n:Nat)(w:Nat->Nat->Ad)(hm:∀v k,Bc (.n 4) v (mf k)=mf k):D2 r 3 4 2 P has mf [(3,.one (.cells (O0 r 4 2))),(2,.one (.mp .i64 has mf)),(1,.one (.cells (PH r))),(0,.one (.cells (PH r))),(4,.one (.row 107 5 P.1 fun a b=>(P.2 a).c b)),(5,.one (.row e k n w))] 6:=by
 refine⟨rfl,rfl,rfl,by omega,by omega,by omega,by omega,by omega,by omega,fun y hy=> ?_,fun y c hy hc v=> ?_⟩
 ·rw[Ae,if_neg (by simp;omega),Ae,if_neg (by simp;omega),Ae,if_neg (by simp;omega),Ae,if_neg (by simp;omega),Ae,if_neg (by simp;omega),Ae,if_neg (by simp;omega)];rfl
 simp only[Ae]at hc
 split at hc
 ·exact absurd (by assumption) hy
 split at hc
 ·cases hc
  simp only[BU]
  congr 1
  funext k;exact hm v k
 split at hc
 ·cases hc;rfl
 split at hc
 ·cases hc;rfl
 split at hc
 ·cases hc;rfl
 split at hc
 ·cases hc;rfl
 cases hc
noncomputable def Yg(r:Ro)(l:E3):Ad:= .view 1 l.1 fun i _=> .int .u8 (Bh (AI r l.2 i) (l.2 i))
noncomputable def Zx:As:=Ak (Ag KC (Ag (Dv Gq) AZ)) (fun _=>True) fun a=>if BV a.1 a.2.1=0 then .tup (.cons (.view 9 (BI a.2.1).1 fun i j=>((BI a.2.1).2 i).c j) (.cons (Yg a.1 (BI a.2.1)) (.cons (.int .i64 0) .nil)))else .tup (.cons .nils (.cons .nils (.cons (.int .i64 (BV a.1 a.2.1)) .nil)))
set_option maxHeartbeats 4000000 in
theorem Ss:Ah Tryz.prog G 29 Zx:=by
 refine Ij mixed (S:=SBk) (I:=IBk) (X:=XBk) (N:=[]) (C:=CBk) (.cons Zp (.cons AbF (.cons Pg (.cons XG (.cons Tl (.cons XN (.cons pIn .nil))))))) (.cons Tryz.func144 Aaw (.cons Tryz.func162 AaN (.cons Tryz.func103 Abs (.cons Tryz.func145 AbG (.cons Tryz.func138 AaO (.cons Tryz.func119 Abv (.cons Tryz.func120 Abk (.cons Tryz.func122 Abw (.cons Tryz.func121 AaI (.cons Tryz.func139 Abo (.cons Tryz.func157 Abu (.cons Tryz.func140 Aaa (.cons Tryz.func67 c67 (.cons Tryz.func68 c68 .nil)))))))))))))) (.cons AaC .nil) Tryz.func29 c29 (fun a _ hw=> ?_) (.cat KF .nil)
 obtain⟨r,l,u⟩:=a
 simp only[Ag,AZ,reduceCtorEq,Nat.reduceSub,Nat.reducePow,go_sem]at hw
 obtain⟨w1,w2⟩:=hw
 by_cases h0:BV r l=0
 ·have f0:(BV r l=0)=True:=eq_true h0
  have ha:=CI h0
  have hr:=ha.1
  have hlw:((Bo l l.1).length<=9223372036854775807)=True:=eq_true (by have:=GY l;have:(Bo l l.1).length<=l.1:=this;have:=ha.2.1;omega)
  simp only[a29,Jp,Ak,Ag,AZ,h0,w1,w2,hlw,↓reduceIte,reduceCtorEq,Nat.reduceEqDiff,Nat.reduceAdd,Nat.reduceSub,Nat.reduceLT,Nat.reducePow,go_sem]
  refine MK (by omega) hr (fun v=> ?_) (fun v=>rfl) fun B1 hB1=> ?_
  ·simp only[↓reduceIte,reduceCtorEq,go_sem]
  obtain⟨B1,rfl⟩:∃m,B1=m+50000:=⟨B1-50000,by omega⟩
  simp only[bxO,hlw,↓reduceIte,Nat.reduceEqDiff,Nat.reduceSub,Nat.reducePow,go_sem]
  have hN:((Ca r:Nat):Int)=1440*r.days:=by unfold Ca;have:=hr.1;omega
  have hN2:Ca r<=23040:=by unfold Ca;have:=hr.1;have:=hr.2.1;omega
  obtain⟨D,hDe⟩:∃D,D=BI l:=⟨_,rfl⟩
  have hDl:(Bo l l.1).length=D.1:=by rw[hDe];rfl
  have hDv:(fun i j=>(lD (Bo l l.1) i).c j)=fun i j=>(D.2 i).c j:=by rw[hDe];rfl
  have hDok:∀i,i<D.1->Dn r (D.2 i):=fun i hi=>by
   rw[hDe]at hi⊢
   obtain⟨k,k1,_,k2⟩:=DE l i hi
   rw[k2];exact ha.2.2.1 k k1
  have hDlen:D.1<=60:=by have:=GY l;rw[<-hDe]at this;have:=ha.2.1;omega
  simp only[hDl,hDv]
  rw[<-hDe]
  have hDw:(D.1<=9223372036854775807)=True:=eq_true (by omega)
  refine Hu (ι:=Nat×(Int->Bool)×(Int->Ad)) (fun q=>q.1<=D.1/\OC 4 q.2.1 q.2.2 (AI r D.2 q.1)) (fun q=>D.1-q.1) [4,7,21,22] (fun q=>[(23,.int .i64 q.1),(5,.own (.n 5))]) (fun q=>[(4,.row 107 5 (Fa r D.2 q.1).1 fun a b=>((Fa r D.2 q.1).2 a).c b),(2,.mp .i64 q.2.1 q.2.2),(5,.row 5 1 q.1 fun i _=> .int .u8 (Bh (AI r D.2 i) (D.2 i)))]) 1 (0,(fun _=>false),fun _=> .und) ⟨Nat.zero_le _,⟨fun k h=>(by cases h),fun _ _=>rfl,fun k h1 h2=>rfl⟩⟩ (by
   simp only[Fa,↓reduceIte,reduceCtorEq,Nat.reduceEqDiff,Nat.reduceAdd,Nat.reduceLT,go_sem]
   rfl) fun q hq=> ?_
  obtain⟨j,has,mf⟩:=q
  obtain⟨hj,hD⟩:=hq
  simp only at hj hD
  rcases Nat.lt_or_ge j D.1 with hlt|hge
  ·have f1:((j:Int)<(D.1:Int))=True:=eq_true (by omega)
   have hx:=hDok j hlt
   have hxl:((D.2 j).heirs.1<=9223372036854775807)=True:=eq_true (by have:=hx.heirs;omega)
   simp only[f1,hxl,O0,PH,↓reduceIte,reduceCtorEq,Nat.reduceEqDiff,Nat.reduceAdd,Nat.reduceSub,Nat.reducePow,go_sem]
   have hPk:=Hm (r:=r) (l:=D.2) hr j fun i hi=>hDok i (by omega)
   have hs5:=(Tb r (Fa r D.2 j) has mf 5 1 j (fun i _=> .int .u8 (Bh (AI r D.2 i) (D.2 i))) hD.p).cons (c:= .cells (D.2 j).L) fun _=>rfl
   refine⟨by omega,?_⟩
   refine Qx (b:=AI r D.2 j) (x:=D.2 j) (by omega) hs5 hPk.1 hN2 hN hPk.2 (Hb r D.2 j) hx ?_ hD (fun v=>rfl) (fun v=> ?_) fun B2 bx2 nx2 has' mf' hB2 hs2 hD2 hh2 hn2=> ?_
   ·simp only[noIt,JE,and_self,go_sem]
   ·simp only[↓reduceIte,Nat.reduceEqDiff,go_sem]
   obtain⟨B2,rfl⟩:∃m,B2=m+100:=⟨B2-100,by omega⟩
   have hb5:=hh2 (.n 5) _ (by simp) (by simp) (by rw[Ae,if_neg (by simp),Ae,if_neg (by simp),Ae,if_neg (by simp),Ae,if_neg (by simp),Ae,if_neg (by simp),Ae,if_neg (by simp),Ae,if_pos rfl])
   have n1:(nx2=5)=False:=eq_false (by omega)
   have n2:((5:Nat)=nx2)=False:=eq_false (by omega)
   simp only[hb5,n1,↓reduceIte,reduceCtorEq,Nat.reduceEqDiff,Nat.reduceSub,Nat.reduceLeDiff,Nat.reduceLT,Nat.reducePow,go_sem]
   have hs2:D2 r 3 4 2 (Fa r D.2 (j+1)) has' mf' bx2 nx2:=hs2
   have hD2:OC 4 has' mf' (AI r D.2 (j+1)):=hD2
   have hb3:=hh2 (.n 3) _ (by simp) (by simp) (by rw[Ae,if_neg (by simp),Ae,if_pos rfl])
   have hb1:=hh2 (.n 1) _ (by simp) (by simp) (by rw[Ae,if_neg (by simp),Ae,if_neg (by simp),Ae,if_neg (by simp),Ae,if_pos rfl])
   have hb0:=hh2 (.n 0) _ (by simp) (by simp) (by rw[Ae,if_neg (by simp),Ae,if_neg (by simp),Ae,if_neg (by simp),Ae,if_neg (by simp),Ae,if_pos rfl])
   have hgt:∀(w:Cw) (R:Cw) (y:Nat) (c:Cw),y<5->Ab bx2 (.n y)=some c->Ab ((nx2,.one w)::Aj (AJ (.n 5) .und bx2) (.n 5) R) (.n y)=some (BU (.n 5) .und c):=fun w R y c hy hc=>by
    rw[Ae,if_neg (by simp;omega),Ac,if_neg (by simp;omega),AP,hc];rfl
   refine⟨by omega,by omega,En (j+1,has',mf') ⟨hlt,hD2⟩ (by show D.1-(j+1)<D.1-j;omega) (Zy (b1:= .n 4) (b2:= .n 2) (b3:= .n 5) (.row 107 5 (Fa r D.2 (j+1)).1 fun a b=>((Fa r D.2 (j+1)).2 a).c b) (.mp .i64 has' mf') (.row 5 1 (j+1) fun i _=> .int .u8 (Bh (AI r D.2 i) (D.2 i))) (by omega) (by simp) rfl rfl rfl (by show 5<6;omega) (hgt _ _ 4 _ (by omega) hs2.hp) (hgt _ _ 2 _ (by omega) hs2.hd) ((Ae _ _ _ _).trans ((if_neg (by simp;omega)).trans ((Ac _ _ _ _).trans (if_pos rfl)))) (fun y h1 h2 c hc=> ?_) (fun N D'=>⟨rfl,rfl,rfl,fun i _ b _=>BP _⟩) (fun N D'=>⟨rfl,fun k=>⟨rfl,fun hk=> ?_⟩⟩) (fun N D'=>⟨rfl,rfl,rfl,fun i hi b hb=> ?_⟩) ?_)⟩
   ·rw[Ae]at hc
    by_cases e3:y= .n 3
    ·rw[if_pos e3]at hc;cases hc;rw[e3];exact hgt _ _ 3 _ (by omega) hb3
    rw[if_neg e3,Ae,if_neg h2,Ae]at hc
    by_cases e1:y= .n 1
    ·rw[if_pos e1]at hc;cases hc;rw[e1];exact hgt _ _ 1 _ (by omega) hb1
    rw[if_neg e1,Ae]at hc
    by_cases e0:y= .n 0
    ·rw[if_pos e0]at hc;cases hc;rw[e0];exact hgt _ _ 0 _ (by omega) hb0
    rw[if_neg e0,Ae,if_neg h1]at hc
    cases hc
   ·dsimp only
    rw[hD2.m k hk];rfl
   ·dsimp only
    by_cases e:i<j
    ·rw[if_pos e];exact BP _
    obtain rfl:i=j:=by omega
    obtain rfl:b=0:=by omega
    rw[if_neg e,Nat.sub_self];exact BP _
   simp only[↓reduceIte,reduceCtorEq,Nat.reduceEqDiff,go_sem]
   exact Cs (by omega)
  have f1:((j:Int)<(D.1:Int))=False:=eq_false (by omega)
  obtain rfl:j=D.1:=by omega
  simp only[f1,hDw,O0,PH,↓reduceIte,reduceCtorEq,Nat.reduceEqDiff,Nat.reduceAdd,Nat.reduceSub,Nat.reducePow,go_sem]
  exact BP _
 have f0:(BV r l=0)=False:=eq_false h0
 simp only[a29,Jp,Ak,Ag,AZ,f0,w1,w2,↓reduceIte,reduceCtorEq,Nat.reduceEqDiff,Nat.reduceAdd,Nat.reduceSub,Nat.reduceLT,Nat.reducePow,go_sem]
end Go.Proofs.YtlieoghhkioflaaGreat
namespace Go.Proofs.YtlieoghhkioflaaGreat
open Go Go.RowKit
variable{G:Nat->Option (Nat×(Nat->Ad))}
def IW(p:Pi)(d:Int):Int:=if p.lent≠0/\d<p.til then p.lent else p.owner
noncomputable def OW:As:=Ak (Ag Sc (Ag TI AZ)) (fun _=>True) fun a=> .int .i64 (IW a.1 a.2.1)
theorem Y5:Ah Tryz.prog G 51 OW:=by
 refine Ij mixed (S:=[(86,M0)]) (I:=[]) (X:=[]) (N:=[]) (C:=[]) (.cons XM .nil) .nil .nil Tryz.func51 c51 fun a hp hw=> ?_
 obtain⟨p,d,u⟩:=a
 simp only[a51,M0,Ak,Ag,AZ,↓reduceIte,reduceCtorEq,Nat.reduceEqDiff,Nat.reduceAdd,Nat.reduceLeDiff,go_sem]
 exact⟨fun h=>by unfold IW;rw[if_pos (NN h)],fun h=>by unfold IW;rw[if_neg (Nn h)]⟩
noncomputable def Ue:As:=Ak (Ag Sc AZ) (fun _=>True) fun a=> .int .i64 a.1.owner
theorem AaQ:Ah Tryz.prog G 49 Ue:=by
 refine Ij mixed (S:=[]) (I:=[]) (X:=[]) (N:=[]) (C:=[]) .nil .nil .nil Tryz.func49 c49 fun a hp hw=> ?_
 simp only[a49,Ag,AZ,↓reduceIte,reduceCtorEq,Nat.reduceEqDiff,Nat.reduceAdd,Nat.reduceLeDiff,go_sem]
noncomputable def Th:As:=Ak (Ag Sc (Ag (Vg TI) AZ)) (fun _=>True) fun a=> .int .i64 (IW a.1 a.2.1)
theorem AaA:Ah Tryz.prog G 50 Th:=by
 refine Ij mixed (S:=[(51,OW)]) (I:=[]) (X:=[]) (N:=[]) (C:=[]) (.cons Y5 .nil) .nil .nil Tryz.func50 c50 fun a hp hw=> ?_
 obtain⟨p,d,u⟩:=a
 simp only[a50,OW,Ak,Ag,AZ,↓reduceIte,reduceCtorEq,Nat.reduceEqDiff,Nat.reduceAdd,go_sem]
theorem YG{A B:Nat->Ho}{n:Nat}{h:Ho}(z2:∀j,j<n->B j=A j)(z3:B n=h):∀i,i<n+1->∀c,c<3->AB ((B i).c c) (if i<n then(A i).c c else Az (Az (.cons h.L .nil) (i-n)) c):=by
 intro i hi c hc
 by_cases e:i<n
 ·rw[if_pos e,z2 i e];exact BP _
 obtain rfl:i=n:=by omega
 rw[if_neg e,Nat.sub_self,z3]
 rcases(by omega:c=0\/c=1\/c=2)with rfl|rfl|rfl<;>exact BP _
theorem AaP{f:Nat->Int}{P:Pz}{k:Pi->Int}{N:Nat}(h0:0<P.1)(z:Aa7 f P k N):AB (Kj (Ap f N)) (.view 3 ((Ap f (Bp P P.1)).1-1+1) fun i j=>if i<(Ap f (Bp P P.1)).1-1 then((Ap f (Bp P P.1)).2 i).c j else Az (Az (.cons (EM f P (k (P.2 0)) P.1).L .nil) (i-((Ap f (Bp P P.1)).1-1))) j):=by
 have h1:=z.pos P.1 h0 (Nat.le_refl _)
 have hn:EM f P (k (P.2 0)) P.1=(Ap f (Bp P P.1)).2 ((Ap f (Bp P P.1)).1-1):=if_neg (by omega)
 rw[<-z.fin]
 unfold Kj
 rw[Dk]
 refine⟨by omega,fun i hi=> ?_⟩
 exact YG (fun j _=>rfl) hn.symm i (by omega)
noncomputable def S6:As:=Ak (Ag KC (Ag (Dv Gq) (Ag TI AZ))) (fun _=>True) fun a=>if BV a.1 a.2.1=0 then(if 0<=a.2.2.1/\a.2.2.1<=100000 then .tup (.cons (Kj (Ap (ID a.1 a.2.1 a.2.2.1).ow.2 (Ca a.1))) (.cons (Kj (Ap (fun m=>FU (ID a.1 a.2.1 a.2.2.1) m a.2.2.1) (Ca a.1))) (.cons (.int .i64 0) .nil)))else .tup (.cons .nils (.cons .nils (.cons (.int .i64 2) .nil))))else .tup (.cons .nils (.cons .nils (.cons (.int .i64 (BV a.1 a.2.1)) .nil)))
set_option maxHeartbeats 4000000 in
theorem MD:Ah Tryz.prog G 16 S6:=by
 refine Ij mixed (S:=[(47,HM),(49,Ue),(50,Th)]) (I:=[(48,a48),(85,a85)]) (X:=[]) (N:=[]) (C:=[]) (.cons XO (.cons AaQ (.cons AaA .nil))) (.cons Tryz.func48 c48 (.cons Tryz.func85 c85 .nil)) .nil Tryz.func16 c16 (fun a _ hw=> ?_)
 obtain⟨r,l,d,u⟩:=a
 simp only[Ag,AZ,reduceCtorEq,Nat.reduceSub,Nat.reducePow,go_sem]at hw
 obtain⟨w1,w2⟩:=hw
 by_cases h0:BV r l=0
 ·have f0:(BV r l=0)=True:=eq_true h0
  have ha:=CI h0
  have hr:=ha.1
  by_cases hd:0<=d/\d<=100000
  ·have fd:Ft d 0 100000=true:=At hd
   have fd2:(0<=d/\d<=100000)=True:=eq_true hd
   simp only[a16,a48,a85,HM,Ue,Th,pzV,Ak,Ag,AZ,h0,fd2,w1,w2,↓reduceIte,reduceCtorEq,Nat.reduceEqDiff,Nat.reduceAdd,Nat.reduceSub,Nat.reduceLeDiff,Nat.reduceLT,Int.reduceToNat,Int.reduceLE,Nat.reducePow,go_sem]
   have hN2:Ca r<=23040:=by unfold Ca;have:=hr.1;have:=hr.2.1;omega
   have hDok:∀i,i<BW (BI l) d->Dn r ((BI l).2 i):=fun i hi=>by
    have hU:BW (BI l) d<=(BI l).1:=by have:=Bi (fun i=>d<((BI l).2 i).day) (BI l).1;unfold BW;omega
    obtain⟨k,k1,_,k2⟩:=DE l i (by omega)
    rw[k2];exact ha.2.2.1 k k1
   obtain⟨hP,hRp⟩:=Hm (r:=r) (l:=(BI l).2) hr (BW (BI l) d) hDok
   have hP:BG (Ca r) (NC r l d):=hP
   have hRp:Rp (NC r l d) (ID r l d):=hRp
   generalize NC r l d=P at*
   generalize ID r l d=b at*
   have hlP:=hP.len
   have hlw:(P.1<=9223372036854775807)=True:=eq_true (by omega)
   have zo:=Y4 (f:=b.ow.2) (k:=fun p=>p.owner) hP fun i hi m m1 m2=>hRp.ow i hi m m1 m2
   have zu:=Y4 (f:=fun m=>FU b m d) (k:=fun p=>IW p d) hP fun i hi m m1 m2=>(W7 hRp d hi m1 m2).symm
   simp only[hlw,reduceCtorEq,go_sem]
   intro g
   refine⟨by have:=hP.pos;omega,?_⟩
   refine Hu (ι:=Nat) (fun i=>i<=P.1) (fun i=>P.1-i) [0,1,2,4,20,21] (fun i=>[(22,.int .i64 i)]) (fun i=>[(7,.cells (EM b.ow.2 P (P.2 0).owner i).L),(2,.cells (.cons (.own (.n 8)) .nil)),(8,.row 47 3 ((Ap b.ow.2 (Bp P i)).1-1) fun a c=>((Ap b.ow.2 (Bp P i)).2 a).c c)]) 1 0 (Nat.zero_le _) (by
    simp only[EM,Bp,Ap,↓reduceIte,reduceCtorEq,Nat.reduceEqDiff,Nat.reduceAdd,Nat.reduceLT,go_sem]) fun i hi=> ?_
   rcases Nat.lt_or_ge i P.1 with hlt|hge
   ·have f1:((i:Int)<(P.1:Int))=True:=eq_true (by omega)
    by_cases he:(P.2 i).owner=(EM b.ow.2 P (P.2 0).owner i).who
    ·have f2:((P.2 i).owner=(EM b.ow.2 P (P.2 0).owner i).who)=True:=eq_true he
     simp only[f1,f2,↓reduceIte,reduceCtorEq,Nat.reduceEqDiff,Nat.reduceAdd,Nat.reduceSub,Nat.reduceLeDiff,Nat.reduceLT,Nat.reducePow,go_sem]
     obtain⟨z1,z2,z3⟩:=zo.same i hlt he
     refine⟨by omega,?_⟩
     refine Af (i+1) hlt (by omega) ?_
     simp only[z1,z3,↓reduceIte,reduceCtorEq,Nat.reduceEqDiff,Nat.reduceLT,go_sem]
     exact⟨Cs (by omega),fun j hj c _=>by rw[z2 j hj];exact BP _⟩
    have f2:((P.2 i).owner=(EM b.ow.2 P (P.2 0).owner i).who)=False:=eq_false he
    obtain⟨z0,z1,z2,z3,z4⟩:=zo.new i hlt he
    simp only[f1,f2,↓reduceIte,reduceCtorEq,Nat.reduceEqDiff,Nat.reduceAdd,Nat.reduceSub,Nat.reduceLeDiff,Nat.reduceLT,Nat.reducePow,go_sem]
    have hbd:=DN b.ow.2 (Bp P i)
    have hbe:=zo.le i hi
    refine⟨by omega,by omega,by omega,?_⟩
    refine Af (i+1) hlt (by omega) ?_
    simp only[z1,z4,↓reduceIte,reduceCtorEq,Nat.reduceEqDiff,Nat.reduceLT,go_sem]
    exact⟨Cs (by omega),YG z2 z3⟩
   have f1:((i:Int)<(P.1:Int))=False:=eq_false (by omega)
   obtain rfl:i=P.1:=by omega
   simp only[f1,hlw,↓reduceIte,reduceCtorEq,Nat.reduceEqDiff,Nat.reduceAdd,Nat.reduceSub,Nat.reduceLeDiff,Nat.reduceLT,Int.reduceToNat,Int.reduceLE,Nat.reducePow,go_sem]
   have hbd:=DN b.ow.2 (Bp P P.1)
   have hbe:=zo.le P.1 (Nat.le_refl _)
   refine⟨by omega,by omega,?_⟩
   intro g2
   refine⟨by have:=hP.pos;omega,?_⟩
   refine Hu (ι:=Nat) (fun i=>i<=P.1) (fun i=>P.1-i) [0,1,2,4,20,21] (fun i=>[(22,.int .i64 i)]) (fun i=>[(14,.cells (EM (fun m=>FU b m d) P (IW (P.2 0) d) i).L),(3,.cells (.cons (.own (.n 15)) .nil)),(15,.row 47 3 ((Ap (fun m=>FU b m d) (Bp P i)).1-1) fun a c=>((Ap (fun m=>FU b m d) (Bp P i)).2 a).c c)]) 1 0 (Nat.zero_le _) (by
    simp only[EM,Bp,Ap,↓reduceIte,reduceCtorEq,Nat.reduceEqDiff,Nat.reduceAdd,Nat.reduceLT,go_sem]) fun i hi=> ?_
   rcases Nat.lt_or_ge i P.1 with hlt|hge
   ·have f1:((i:Int)<(P.1:Int))=True:=eq_true (by omega)
    by_cases he:IW (P.2 i) d=(EM (fun m=>FU b m d) P (IW (P.2 0) d) i).who
    ·have f2:(IW (P.2 i) d=(EM (fun m=>FU b m d) P (IW (P.2 0) d) i).who)=True:=eq_true he
     simp only[f1,f2,↓reduceIte,reduceCtorEq,Nat.reduceEqDiff,Nat.reduceAdd,Nat.reduceSub,Nat.reduceLeDiff,Nat.reduceLT,Nat.reducePow,go_sem]
     obtain⟨z1,z2,z3⟩:=zu.same i hlt he
     refine⟨by omega,?_⟩
     refine Af (i+1) hlt (by omega) ?_
     simp only[z1,z3,↓reduceIte,reduceCtorEq,Nat.reduceEqDiff,Nat.reduceLT,go_sem]
     exact⟨Cs (by omega),fun j hj c _=>by rw[z2 j hj];exact BP _⟩
    have f2:(IW (P.2 i) d=(EM (fun m=>FU b m d) P (IW (P.2 0) d) i).who)=False:=eq_false he
    obtain⟨z0,z1,z2,z3,z4⟩:=zu.new i hlt he
    simp only[f1,f2,↓reduceIte,reduceCtorEq,Nat.reduceEqDiff,Nat.reduceAdd,Nat.reduceSub,Nat.reduceLeDiff,Nat.reduceLT,Nat.reducePow,go_sem]
    have hbd:=DN (fun m=>FU b m d) (Bp P i)
    have hbe:=zu.le i hi
    refine⟨by omega,by omega,by omega,?_⟩
    refine Af (i+1) hlt (by omega) ?_
    simp only[z1,z4,↓reduceIte,reduceCtorEq,Nat.reduceEqDiff,Nat.reduceLT,go_sem]
    exact⟨Cs (by omega),YG z2 z3⟩
   have f1:((i:Int)<(P.1:Int))=False:=eq_false (by omega)
   obtain rfl:i=P.1:=by omega
   simp only[f1,↓reduceIte,reduceCtorEq,Nat.reduceEqDiff,Nat.reduceAdd,Nat.reduceSub,Nat.reduceLeDiff,Nat.reduceLT,Nat.reducePow,go_sem]
   have hbu:=DN (fun m=>FU b m d) (Bp P P.1)
   have hbv:=zu.le P.1 (Nat.le_refl _)
   exact⟨by omega,by omega,AaP hP.pos zo,AaP hP.pos zu⟩
  have fd2:(0<=d/\d<=100000)=False:=eq_false hd
  simp only[a16,HM,Ak,Ag,AZ,h0,fd2,w1,w2,↓reduceIte,reduceCtorEq,Nat.reduceEqDiff,Nat.reduceAdd,Nat.reduceSub,Nat.reduceLT,Int.reduceBNe,Nat.reducePow,go_sem]
 have f0:(BV r l=0)=False:=eq_false h0
 simp only[a16,HM,Ak,Ag,AZ,f0,w1,w2,↓reduceIte,reduceCtorEq,Nat.reduceEqDiff,Nat.reduceAdd,Nat.reduceSub,Nat.reduceLT,Nat.reducePow,go_sem]
end Go.Proofs.YtlieoghhkioflaaGreat
namespace Go.Proofs.YtlieoghhkioflaaGreat
open Go Go.RowKit
variable{G:Nat->Option (Nat×(Nat->Ad))}
theorem XP{d e0 e:Nat->Hs}{s n t p q:Nat}(h0:L9 Dg d s n e0)(h:GJ Dg d (2*s) n t e0 e)(x1:p=2*s*t)(hq:q=min (p+2*s) n)(hp:p+s<q):EO Dg (A6 e p (p+s))/\EO Dg (A6 e (p+s) q):=by
 subst x1
 have ea:s*(2*t)=2*s*t:=by rw[<-Nat.mul_assoc,Nat.mul_comm s 2]
 have eb:s*(2*t+1)=2*s*t+s:=by rw[Nat.mul_succ,ea]
 have s1:=h0.A (2*t) (by rw[ea];omega)
 have s2:=h0.A (2*t+1) (by rw[eb];omega)
 rw[ea,show min (2*s*t+s) n=2*s*t+s by omega]at s1
 rw[eb,show min (2*s*t+s+s) n=q by omega]at s2
 have hb:∀i,2*s*t<=i->e i=e0 i:=fun i hi=>h.B i (.inl hi)
 rw[Cu (d:=e) (e:=e0) fun i i1 _=>hb i i1,Cu (d:=e) (e:=e0) (a:=2*s*t+s) fun i i1 _=>hb i (by omega),s1,s2]
 exact⟨DT IU _,DT IU _⟩
noncomputable def ZN:As:=Ak (Ag (Dv NS) (Ag TI (Ag (C8 DC) AZ))) (fun a=>a.2.1=a.1.1/\a.1.1<=100000) fun a=> .view 2 a.1.1 fun i j=>(B5 a.1.2 0 (AH Dg (A6 a.1.2 0 a.1.1)) i).c j
set_option maxHeartbeats 8000000 in
theorem Ab8(hC:Ah Tryz.prog G 91 Ia):Cy Tryz.prog G 112 0 ZN:=by
 refine QA (S:=[]) (I:=[]) (X:=[(135,0,Xu),(136,0,OY 100000)]) (N:=[]) (C:=[]) (R:=NS) (t:=Ag TI (Ag (C8 DC) AZ)) mixed .nil .nil (.cons (AbP hC) (.cons (Acn hC 100000) .nil)) Tryz.func112 Acu rfl fun d b e0 hp hw hn=> ?_
 obtain⟨n,d⟩:=d
 obtain⟨n',cm,u⟩:=b
 obtain⟨hn',hm⟩:=hp
 have hm:n<=100000:=hm
 have hn':n'=(n:Int):=hn'
 subst hn'
 simp only[Aa2,Ag,AZ,DC,D8,↓reduceIte,Nat.reduceEqDiff,Nat.reduceAdd,go_sem]
 refine AS (ι:=Nat×(Nat->Hs)) (fun s=>20*s.1<=n/\GJ Dg d 20 n s.1 d s.2) (fun s=>n-20*s.1) [0,1,2,6] (fun s=>[(7,.int .i64 ((20*s.1:Nat):Int)),(8,.int .i64 ((20*s.1+20:Nat):Int))]) (fun s=>[(0,.row e0 2 n fun i j=>(s.2 i).c j)]) (0,d) ⟨by show 20*0<=n;omega,GJ.zero d 20 n d⟩ (by
  simp only[Nat.mul_zero,Nat.zero_add,Int.ofNat_zero,↓reduceIte,reduceCtorEq,Nat.reduceEqDiff,Nat.reduceLT,go_sem]
  try trivial) fun s hs=> ?_
 obtain⟨t,e⟩:=s
 obtain⟨s1,s2⟩:=hs
 simp only at s1 s2
 have v1:IntKind.i64.wrap (((20*t+20:Nat):Int)+20)=((20*(t+1)+20:Nat):Int):=by rw[AU (by omega) (by omega)];omega
 rcases Nat.lt_or_ge n (20*t+20)with hlt|hge
 ·have f1:(((20*t+20:Nat):Int)<=(n:Int))=False:=eq_false (by omega)
  simp only[f1,Xu,Ak,Ag,AZ,Int.toNat_natCast,DC,D8,↓reduceIte,reduceCtorEq,Nat.reduceEqDiff,Nat.reduceAdd,go_sem]
  refine⟨⟨_,rfl,_,rfl,s1,Nat.le_refl _,hm⟩,?_⟩
  have hF:=(s2.ins (q:=n) (by omega) s1).full (by omega) fun y _=>rfl
  refine AS (ι:=Nat×(Nat->Hs)) (fun s=>0<s.1/\s.1<=200000/\L9 Dg d s.1 n s.2) (fun s=>n-s.1) [0,1,2] (fun s=>[(6,.int .i64 (s.1:Int))]) (fun s=>[(0,.row e0 2 n fun i j=>(s.2 i).c j)]) (20,B5 e (20*t) (AH Dg (A6 e (20*t) n))) ⟨by show 0<20;omega,by show 20<=200000;omega,hF⟩ (by
   simp only[↓reduceIte,reduceCtorEq,Nat.reduceEqDiff,Nat.reduceLT,go_sem]
   try trivial) fun s hs=> ?_
  clear hF s2 s1 v1 f1 hlt
  obtain⟨s,e1⟩:=s
  obtain⟨s1,s2,s3⟩:=hs
  simp only at s1 s2 s3
  rcases Nat.lt_or_ge s n with hsn|hsn
  ·have f1:((s:Int)<(n:Int))=True:=eq_true (by omega)
   have v2:IntKind.i64.wrap (2*(s:Int))=((2*s:Nat):Int):=by rw[AU (by omega) (by omega)];omega
   have v3:IntKind.i64.wrap ((s:Int)*2)=((2*s:Nat):Int):=by rw[AU (by omega) (by omega)];omega
   simp only[f1,v2,↓reduceIte,reduceCtorEq,Nat.reduceEqDiff,go_sem]
   refine AS (ι:=Nat×Nat×(Nat->Hs)) (fun x=>x.2.1=2*s*x.1/\x.2.1<=n/\GJ Dg d (2*s) n x.1 e1 x.2.2) (fun x=>n-x.2.1) [0,1,2,6] (fun x=>[(7,.int .i64 ((x.2.1:Nat):Int)),(8,.int .i64 ((x.2.1+2*s:Nat):Int))]) (fun x=>[(0,.row e0 2 n fun i j=>(x.2.2 i).c j)]) (0,0,e1) ⟨rfl,Nat.zero_le _,GJ.zero d (2*s) n e1⟩ (by
    simp only[Nat.zero_add,Int.ofNat_zero,↓reduceIte,reduceCtorEq,Nat.reduceEqDiff,Nat.reduceLT,go_sem]
    try trivial) fun x hx=> ?_
   obtain⟨t,p,e⟩:=x
   obtain⟨x1,x2,x3⟩:=hx
   simp only at x1 x2 x3
   have v4:IntKind.i64.wrap (((p+2*s:Nat):Int)+((2*s:Nat):Int))=((p+2*s+2*s:Nat):Int):=by rw[AU (by omega) (by omega)];omega
   have v5:IntKind.i64.wrap ((p:Int)+(s:Int))=((p+s:Nat):Int):=by rw[AU (by omega) (by omega)];omega
   have mS:2*s*(t+1)=p+2*s:=by rw[Nat.mul_succ,<-x1]
   rcases Nat.lt_or_ge n (p+2*s)with hlt|hge
   ·have f2:(((p+2*s:Nat):Int)<=(n:Int))=False:=eq_false (by omega)
    simp only[f2,v3,v5,↓reduceIte,reduceCtorEq,Nat.reduceEqDiff,Nat.reduceAdd,go_sem]
    refine⟨fun h4=> ?_,fun h4=> ?_⟩
    ·have hM:=GJ.mrg IU s3 x3 (q:=n) (by omega) (by omega)
     rw[<-x1]at hM
     obtain⟨S1,S2⟩:=XP s3 x3 x1 (q:=n) (by omega) (by omega)
     simp only[OY,Ak,Ag,AZ,Int.toNat_natCast,v3,DC,D8,↓reduceIte,reduceCtorEq,Nat.reduceEqDiff,Nat.reduceAdd,go_sem]
     refine⟨⟨_,rfl,_,rfl,_,rfl,by omega,by omega,Nat.le_refl _,hm,by omega,S1,S2⟩,Af (2*s,B9 Dg e p (p+s) n) ⟨by show 0<2*s;omega,by show 2*s<=200000;omega,hM.full (by omega) s3.B⟩ (by show n-2*s<n-s;omega) ?_⟩
     simp only[↓reduceIte,reduceCtorEq,Nat.reduceEqDiff,Nat.reduceLT,go_sem]
    have hM:=GJ.rest s3 x3 (by omega) (by omega)
    refine Af (2*s,e) ⟨by show 0<2*s;omega,by show 2*s<=200000;omega,hM.full (by omega) s3.B⟩ (by show n-2*s<n-s;omega) ?_
    simp only[↓reduceIte,reduceCtorEq,Nat.reduceEqDiff,Nat.reduceLT,go_sem]
   have f2:(((p+2*s:Nat):Int)<=(n:Int))=True:=eq_true (by omega)
   simp only[f2,v2,v4,v5,OY,Ak,Ag,AZ,Int.toNat_natCast,DC,D8,↓reduceIte,reduceCtorEq,Nat.reduceEqDiff,Nat.reduceAdd,go_sem]
   have hM:=GJ.mrg IU s3 x3 (q:=p+2*s) (by omega) (by omega)
   rw[<-x1]at hM
   obtain⟨S1,S2⟩:=XP s3 x3 x1 (q:=p+2*s) (by omega) (by omega)
   refine⟨⟨_,rfl,_,rfl,_,rfl,by omega,by omega,hge,hm,by omega,S1,S2⟩,Af (t+1,p+2*s,B9 Dg e p (p+s) (p+2*s)) ⟨mS.symm,hge,hM⟩ (by show n-(p+2*s)<n-p;omega) ?_⟩
   simp only[↓reduceIte,reduceCtorEq,Nat.reduceEqDiff,Nat.reduceLT,go_sem]
  have f1:((s:Int)<(n:Int))=False:=eq_false (by omega)
  have hd:=s3.done hsn
  simp only[f1,↓reduceIte,reduceCtorEq,Nat.reduceEqDiff,go_sem]
  rw[<-hd]
  exact⟨_,rfl,_,rfl,fun _ _ _ _=>BP _⟩
 have f1:(((20*t+20:Nat):Int)<=(n:Int))=True:=eq_true (by omega)
 simp only[f1,v1,Xu,Ak,Ag,AZ,Int.toNat_natCast,DC,D8,↓reduceIte,reduceCtorEq,Nat.reduceEqDiff,Nat.reduceAdd,go_sem]
 refine⟨⟨_,rfl,_,rfl,by omega,hge,hm⟩,Af (t+1,B5 e (20*t) (AH Dg (A6 e (20*t) (20*t+20)))) ⟨by show 20*(t+1)<=n;omega,s2.ins (by omega) s1⟩ (by show n-20*(t+1)<n-20*t;omega) ?_⟩
 simp only[show 20*t+20=20*(t+1) by omega,↓reduceIte,reduceCtorEq,Nat.reduceEqDiff,Nat.reduceLT,go_sem]
end Go.Proofs.YtlieoghhkioflaaGreat
namespace Go.Proofs.YtlieoghhkioflaaGreat
open Go Go.RowKit
variable{G:Nat->Option (Nat×(Nat->Ad))}
noncomputable def Zq:As:=Ak (Ag (Dv NS) (Ag (C8 DC) AZ)) (fun a=>a.1.1<=100000) fun a=> .view 2 a.1.1 fun i j=>(B5 a.1.2 0 (AH Dg (A6 a.1.2 0 a.1.1)) i).c j
theorem Ac2(hC:Ah Tryz.prog G 91 Ia):Cy Tryz.prog G 90 0 Zq:=by
 refine QA (S:=[]) (I:=[]) (X:=[(112,0,ZN)]) (N:=[]) (C:=[]) (R:=NS) (t:=Ag (C8 DC) AZ) mixed .nil .nil (.cons (Ab8 hC) .nil) Tryz.func90 c90 rfl fun d b e0 hp hw hn=> ?_
 obtain⟨n,d⟩:=d
 obtain⟨cm,u⟩:=b
 have hm:n<=100000:=hp
 simp only[a90,ZN,Ak,Ag,AZ,DC,D8,↓reduceIte,reduceCtorEq,Nat.reduceEqDiff,Nat.reduceAdd,go_sem]
 exact⟨hm,_,rfl,_,rfl,fun _ _ _ _=>BP _⟩
end Go.Proofs.YtlieoghhkioflaaGreat
namespace Go.Proofs.YtlieoghhkioflaaGreat
open Go Go.RowKit
variable{G:Nat->Option (Nat×(Nat->Ad))}
noncomputable def T6:As:=Ak (Ag KC (Ag (Dv Gq) (Ag TI AZ))) (fun _=>True) fun a=>if BV a.1 a.2.1=0 then(if 0<=a.2.2.1/\a.2.2.1<=100000 then .tup (.cons (WL (Cr (C2 (ID a.1 a.2.1 a.2.2.1).ow.2 (Ca a.1)) 10000)) (.cons (.int .i64 0) .nil))else .tup (.cons .nils (.cons (.int .i64 2) .nil)))else .tup (.cons .nils (.cons (.int .i64 (BV a.1 a.2.1)) .nil))
set_option maxHeartbeats 4000000 in
theorem Uj:Ah Tryz.prog G 18 T6:=by
 refine Ij mixed (S:=[(47,HM)]) (I:=[(55,a55)]) (X:=[(90,0,Zq)]) (N:=[]) (C:=[]) (.cons XO .nil) (.cons Tryz.func55 c55 .nil) (.cons (Ac2 Acw) .nil) Tryz.func18 c18 (fun a _ hw=> ?_)
 obtain⟨r,l,d,u⟩:=a
 simp only[Ag,AZ,reduceCtorEq,Nat.reduceSub,Nat.reducePow,go_sem]at hw
 obtain⟨w1,w2⟩:=hw
 by_cases h0:BV r l=0
 ·have f0:(BV r l=0)=True:=eq_true h0
  have ha:=CI h0
  have hr:=ha.1
  by_cases hd:0<=d/\d<=100000
  ·have fd:Ft d 0 100000=true:=At hd
   have fd2:(0<=d/\d<=100000)=True:=eq_true hd
   simp only[a18,HM,pzV,Ak,Ag,AZ,h0,fd2,w1,w2,↓reduceIte,reduceCtorEq,Nat.reduceEqDiff,Nat.reduceAdd,Nat.reduceSub,Nat.reduceLeDiff,Nat.reduceLT,Nat.reducePow,go_sem]
   have hN2:Ca r<=23040:=by unfold Ca;have:=hr.1;have:=hr.2.1;omega
   have hDok:∀i,i<BW (BI l) d->Dn r ((BI l).2 i):=fun i hi=>by
    have hU:BW (BI l) d<=(BI l).1:=by have:=Bi (fun i=>d<((BI l).2 i).day) (BI l).1;unfold BW;omega
    obtain⟨k,k1,_,k2⟩:=DE l i (by omega)
    rw[k2];exact ha.2.2.1 k k1
   obtain⟨hP,hRp⟩:=Hm (r:=r) (l:=(BI l).2) hr (BW (BI l) d) hDok
   have hO:TG (ID r l d) (Ca r):=ME hr _ hDok
   have hP:BG (Ca r) (NC r l d):=hP
   have hRp:Rp (NC r l d) (ID r l d):=hRp
   generalize NC r l d=P at*
   generalize ID r l d=b at*
   have hlP:=hP.len
   have hlw:(P.1<=9223372036854775807)=True:=eq_true (by omega)
   have zo:=Y4 (f:=b.ow.2) (k:=fun p=>p.owner) hP fun i hi m m1 m2=>hRp.ow i hi m m1 m2
   simp only[hlw,reduceCtorEq,go_sem]
   have hcP:∀i,i<P.1->∀m:Nat,(P.2 i).turn.fro<=m->(m:Int)<(P.2 i).turn.til->b.ow.2 m=(P.2 i).owner:=fun i hi m m1 m2=>hRp.ow i hi m m1 m2
   refine AS (ι:=Nat) (fun j=>j<=P.1) (fun j=>P.1-j) [10,30,31] (fun j=>[(32,.int .i64 j)]) (fun j=>[(1,.mp .i64 (IX P j) fun k=> .int .i64 (C2 b.ow.2 (Bp P j) k))]) 0 (Nat.zero_le _) (by
    simp only[↓reduceIte,reduceCtorEq,Nat.reduceEqDiff,Nat.reduceLT,go_sem]
    exact fun k=>Am fun⟨i,h,_⟩=>by omega) fun j hj=> ?_
   rcases Nat.lt_or_ge j P.1 with hlt|hge
   ·have f1:((j:Int)<(P.1:Int))=True:=eq_true (by omega)
    have hb:=SN b.ow.2 (Bp P j) (P.2 j).owner
    have hle:=zo.le j hj
    have hlt2:=hP.lt j hlt
    have hrg:=hP.rng hlt
    have hpc:=J8 hP hlt (hcP j hlt)
    have hw1:IntKind.i64.wrap ((P.2 j).turn.til-(P.2 j).turn.fro)=(P.2 j).turn.til-(P.2 j).turn.fro:=AU (by omega) (by omega)
    have hw2:IntKind.i64.wrap (C2 b.ow.2 (Bp P j) (P.2 j).owner+((P.2 j).turn.til-(P.2 j).turn.fro))=C2 b.ow.2 (Bp P j) (P.2 j).owner+((P.2 j).turn.til-(P.2 j).turn.fro):=AU (by omega) (by omega)
    have fin:∀v:Int,v=C2 b.ow.2 (Bp P j) (P.2 j).owner+((P.2 j).turn.til-(P.2 j).turn.fro)->∀k,(IX P (j+1) k=if k=(P.2 j).owner then true else IX P j k)/\((if k=(P.2 j).owner then true else IX P j k)=true->(if k=(P.2 j).owner then .int .i64 v else .int .i64 (C2 b.ow.2 (Bp P j) k))=Ad.int .i64 (C2 b.ow.2 (Bp P (j+1)) k)):=fun v hv k=>⟨(Uq P j k).symm,fun _=>by
     rw[hpc k]
     by_cases e:k=(P.2 j).owner
     ·rw[if_pos e,if_pos e.symm,hv,e]
     rw[if_neg e,if_neg fun h=>e h.symm,Int.add_zero]⟩
    by_cases he:IX P j (P.2 j).owner=true
    ·simp only[f1,he,hw1,hw2,↓reduceIte,reduceCtorEq,Nat.reduceEqDiff,Nat.reduceAdd,Nat.reduceLeDiff,go_sem]
     refine⟨by omega,Af (j+1) hlt (by omega) ?_⟩
     simp only[↓reduceIte,reduceCtorEq,Nat.reduceEqDiff,Nat.reduceLT,go_sem]
     exact⟨Cs (by omega),fin _ rfl⟩
    have he:IX P j (P.2 j).owner=false:=by simpa using he
    have hz:C2 b.ow.2 (Bp P j) (P.2 j).owner=0:=by
     have:=(JJ hP hcP (P.2 j).owner j hj).2
     rcases Int.lt_or_le 0 (C2 b.ow.2 (Bp P j) (P.2 j).owner)with h|h
     ·rw[this h]at he;cases he
     omega
    have hw3:IntKind.i64.wrap (0+((P.2 j).turn.til-(P.2 j).turn.fro))=(P.2 j).turn.til-(P.2 j).turn.fro:=by rw[<-hz,hw2,hz,Int.zero_add]
    simp only[f1,he,hw1,hw3,↓reduceIte,reduceCtorEq,Nat.reduceEqDiff,Nat.reduceAdd,Nat.reduceLeDiff,go_sem]
    refine⟨by omega,Af (j+1) hlt (by omega) ?_⟩
    simp only[↓reduceIte,reduceCtorEq,Nat.reduceEqDiff,Nat.reduceLT,go_sem]
    exact⟨Cs (by omega),fin _ (by rw[hz,Int.zero_add])⟩
   have f1:((j:Int)<(P.1:Int))=False:=eq_false (by omega)
   obtain rfl:j=P.1:=by omega
   have hH:∀k,IX P P.1 k=true↔0<C2 b.ow.2 (Ca r) k:=fun k=>by rw[<-zo.fin];exact JJ hP hcP k P.1 (Nat.le_refl _)
   have hR:∀k,IX P P.1 k=true->0<=k/\k<=9999:=fun k hk=>by
    obtain⟨i,i1,rfl⟩:=AM.1 hk
    have hrg:=hP.rng i1
    have hl:=hP.lt i i1
    have h1:=hcP i i1 (P.2 i).turn.fro.toNat (by omega) (by omega)
    rw[<-h1]
    exact hO _ (by omega)
   have hfin:=zo.fin
   simp only[f1,hfin,↓reduceIte,reduceCtorEq,Nat.reduceEqDiff,Nat.reduceAdd,go_sem]
   generalize C2 b.ow.2 (Ca r)=c at*
   generalize IX P P.1=has at*
   refine Hu (ι:=Xz×(Int->Bool)×Option Int) (fun s=>L3 c has s.2.1 s.1 10000) (fun s=>E4 (fun k:Nat=> !s.2.1 k) 10000) [10,50] (fun s=>[(13,.own (.n 3))]) (fun s=>[(2,.it (some (.n 1)) .i64 s.2.1 s.2.2),(3,.row 99 2 s.1.1 fun i j=>(s.1.2 i).c j)]) 1 ((0,fun _=>⟨0,0⟩),(fun _=>false),none) (L3.begin c has 10000) (by
    simp only[↓reduceIte,reduceCtorEq,Nat.reduceEqDiff,Nat.reduceAdd,Nat.reduceLT,go_sem]) fun s hs=> ?_
   obtain⟨q,seen,last⟩:=s
   have hq:=hs.len
   simp only at hs hq
   simp only[a55,Zq,Ak,Ag,AZ,DC,D8,YL,↓reduceIte,reduceCtorEq,Nat.reduceEqDiff,Nat.reduceAdd,Nat.reduceSub,Nat.reduceLeDiff,Nat.reduceLT,Nat.reducePow,go_sem]
   refine⟨fun k hk hs2=>⟨hk,by omega,by omega,?_⟩,fun hall=>⟨by omega,?_⟩⟩
   ·have hkr:=hR k hk
    obtain⟨n1,n2⟩:=hs.next hk hs2 ⟨hkr.1,by omega⟩
    refine Af (Tp q ⟨k,c k⟩,(fun j=>if j=k then true else seen j),some k) n1 n2 ?_
    simp only[Tp,↓reduceIte,reduceCtorEq,Nat.reduceEqDiff,Nat.reduceLT,go_sem]
    intro i hi j hj
    by_cases e:i<q.1
    ·rw[if_pos e,if_pos e];exact BP _
    obtain rfl:i=q.1:=by omega
    rw[if_neg e,if_neg e,Nat.sub_self]
    rcases(by omega:j=0\/j=1)with rfl|rfl<;>exact BP _
   have hI:=hs.fin hall hH hR
   have hI':AH Dg (A6 (fun i=>q.2 i) 0 q.1)=A6 (Cr c 10000).2 0 (Cr c 10000).1:=hI
   have hl:q.1=(Cr c 10000).1:=by
    have:=congrArg List.length hI
    rw[Dt,Bv,Bv]at this;omega
   rw[hI']
   unfold WL
   rw[Dk]
   refine⟨hl,fun i hi j hj=> ?_⟩
   rw[show i=0+i from(Nat.zero_add i).symm,Mk (x:=(Cr c 10000).2 i) _ _ _ (by rw[Bj,if_pos (by omega),Nat.zero_add]),Nat.zero_add]
   exact BP _
  have fd2:(0<=d/\d<=100000)=False:=eq_false hd
  simp only[a18,HM,Ak,Ag,AZ,h0,fd2,w1,w2,↓reduceIte,reduceCtorEq,Nat.reduceEqDiff,Nat.reduceAdd,Nat.reduceSub,Nat.reduceLT,Int.reduceBNe,Nat.reducePow,go_sem]
 have f0:(BV r l=0)=False:=eq_false h0
 simp only[a18,HM,Ak,Ag,AZ,f0,w1,w2,↓reduceIte,reduceCtorEq,Nat.reduceEqDiff,Nat.reduceAdd,Nat.reduceSub,Nat.reduceLT,Nat.reducePow,go_sem]
end Go.Proofs.YtlieoghhkioflaaGreat
