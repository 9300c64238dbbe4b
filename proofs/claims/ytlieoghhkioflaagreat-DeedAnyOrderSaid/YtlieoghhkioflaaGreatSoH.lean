/- The stable sort of the program's shares. No condition but bounds. -/
import Derived.Test.YtlieoghhkioflaaGreatSoB
import Derived.Test.YtlieoghhkioflaaGreatACode1
set_option linter.unusedSimpArgs false
set_option linter.unusedVariables false
set_option maxRecDepth 100000
namespace Go.Proofs.YtlieoghhkioflaaGreat
open Go Go.RowKit
variable{G:Nat->Option (Nat×(Nat->Ad))}
def YL:Ad:= .view 1 1 fun i j=>Az (Az (.cons (.cons (.func (.func 56) .nil) .nil) .nil) i) j
def D8:Ad:= .vptr 1 (Az (.cons YL .nil))
def DC:Ad:= .func (.func 91) (.cons D8 .nil)
noncomputable def Ia:As:=D5 THs THs (C8 D8) (fun _ _ _=>True) fun a b _=> .int .i64 (XB C9 a b)
abbrev Dg(a b:Hs):Bool:=decide (C9 a b)
noncomputable def SX:As:=Ak (Ag (Dv NS) (Ag TI (Ag TI (Ag TI (Ag (C8 DC) AZ))))) (fun a=>∃p q n:Nat,a.2.1=p/\a.2.2.1=q/\a.2.2.2.1=n/\p+n<=q/\q+n<=a.1.1/\a.1.1<=100000) fun a=> .view 2 a.1.1 fun i j=>(C7 a.1.2 a.2.1.toNat a.2.2.1.toNat a.2.2.2.1.toNat i).c j
theorem AcB:Cy Tryz.prog G 165 0 SX:=by
 refine QA (S:=[]) (I:=[]) (X:=[]) (N:=[]) (C:=[]) (R:=NS) (t:=Ag TI (Ag TI (Ag TI (Ag (C8 DC) AZ)))) mixed .nil .nil .nil Tryz.func165 Acm rfl fun d b e0 hp hw hn=> ?_
 obtain⟨m,d⟩:=d
 obtain⟨p,q,n,cm,u⟩:=b
 obtain⟨p,q,n,rfl,rfl,rfl,h1,h2,hm⟩:=hp
 have hm:m<=100000:=hm
 have h2:q+n<=m:=h2
 have hn:m<=9223372036854775807:=hn
 simp only[AbL,Ag,AZ,Int.toNat_natCast,DC,D8,Nat.reduceAdd,go_sem]
 refine AS (ι:=Nat) (fun t=>t<=n) (fun t=>n-t) [0,1,2,3] (fun t=>[(10,.int .i64 t)]) (fun t=>[(0,.row e0 2 m fun i j=>(C7 d p q t i).c j)]) 0 (Nat.zero_le _) (by
  have:C7 d p q 0=d:=by funext i;unfold C7;rw[if_neg (by omega),if_neg (by omega)]
  simp only[this,↓reduceIte,reduceCtorEq,Nat.reduceEqDiff,Nat.reduceLT,go_sem]) fun t ht=> ?_
 rcases Nat.lt_or_ge t n with hlt|hge
 ·have ft:((t:Int)<(n:Int))=True:=eq_true (by omega)
  have e1:IntKind.i64.wrap ((p:Int)+(t:Int))=((p+t:Nat):Int):=by rw[AU (by omega) (by omega)];omega
  have e2:IntKind.i64.wrap ((q:Int)+(t:Int))=((q+t:Nat):Int):=by rw[AU (by omega) (by omega)];omega
  have g1:C7 d p q t (p+t)=d (p+t):=by unfold C7;rw[if_neg (by omega),if_neg (by omega)]
  have g2:C7 d p q t (q+t)=d (q+t):=by unfold C7;rw[if_neg (by omega),if_neg (by omega)]
  simp only[ft,e1,e2,g1,g2,Int.toNat_natCast,↓reduceIte,reduceCtorEq,Nat.reduceEqDiff,Nat.reduceAdd,Nat.reduceSub,go_sem]
  repeat(with_reducible refine And.intro (by omega) ?_)
  refine Af (t+1) (by omega) (by omega) ?_
  simp only[↓reduceIte,reduceCtorEq,Nat.reduceEqDiff,Nat.reduceLT,go_sem]
  rw[Cs (by omega)]
  refine⟨rfl,Nw (C:=Hs.c) (L:=Hs.L) LS fun i hi=> ?_⟩
  unfold C7
  by_cases e3:i=q+t
  ·rw[if_pos e3,if_neg (by omega),if_pos (by omega)];congr 1;omega
  rw[if_neg e3]
  by_cases e4:i=p+t
  ·rw[if_pos e4,if_pos (by omega)];congr 1;omega
  rw[if_neg e4]
  by_cases e5:p<=i/\i<p+t
  ·rw[if_pos e5,if_pos (by omega)]
  rw[if_neg e5,if_neg (by omega)]
  by_cases e6:q<=i/\i<q+t
  ·rw[if_pos e6,if_pos (by omega)]
  rw[if_neg e6,if_neg (by omega)]
 obtain rfl:t=n:=by omega
 have ft:((t:Int)<(t:Int))=False:=eq_false (by omega)
 simp only[ft,↓reduceIte,reduceCtorEq,Nat.reduceEqDiff,go_sem]
 exact⟨_,rfl,_,rfl,fun _ _ _ _=>BP _⟩
noncomputable def Xu:As:=Ak (Ag (Dv NS) (Ag TI (Ag TI (Ag (C8 DC) AZ)))) (fun a=>∃p q:Nat,a.2.1=p/\a.2.2.1=q/\p<=q/\q<=a.1.1/\a.1.1<=100000) fun a=> .view 2 a.1.1 fun i j=>(B5 a.1.2 a.2.1.toNat (AH Dg (A6 a.1.2 a.2.1.toNat a.2.2.1.toNat)) i).c j
theorem AbP(hC:Ah Tryz.prog G 91 Ia):Cy Tryz.prog G 135 0 Xu:=by
 refine QA (S:=[(91,Ia)]) (I:=[]) (X:=[]) (N:=[]) (C:=[]) (R:=NS) (t:=Ag TI (Ag TI (Ag (C8 DC) AZ))) mixed (.cons hC .nil) .nil .nil Tryz.func135 AcV rfl fun d b e0 hp hw hn=> ?_
 obtain⟨m,d⟩:=d
 obtain⟨p,q,cm,u⟩:=b
 obtain⟨p,q,rfl,rfl,h1,h2,hm⟩:=hp
 have hm:m<=100000:=hm
 have h2:q<=m:=h2
 have hn:m<=9223372036854775807:=hn
 simp only[Abq,Ag,AZ,Int.toNat_natCast,DC,D8,↓reduceIte,reduceCtorEq,Nat.reduceAdd,go_sem]
 have ew:IntKind.i64.wrap ((p:Int)+1)=((p+1:Nat):Int):=Cs (by omega)
 rw[ew]
 have i1:∀x:Hs,AH Dg [x]=[x]:=fun x=>rfl
 refine AS (ι:=Nat) (fun i=>p+1<=i/\(i<=q\/i=p+1)) (fun i=>q-i) [0,1,2,3] (fun i=>[(8,.int .i64 i)]) (fun i=>[(0,.row e0 2 m fun y b=>(B5 d p (AH Dg (A6 d p i)) y).c b)]) (p+1) ⟨Nat.le_refl _,.inr rfl⟩ (by
  have:B5 d p (AH Dg (A6 d p (p+1)))=d:=by rw[Cj,i1,<-Cj,Cg]
  simp only[this,↓reduceIte,reduceCtorEq,Nat.reduceEqDiff,Nat.reduceLT,go_sem]) fun i hi=> ?_
 obtain⟨hi1,hi2⟩:=hi
 rcases Nat.lt_or_ge i q with hlt|hge
 ·have fi:((i:Int)<(q:Int))=True:=eq_true (by omega)
  simp only[fi,↓reduceIte,reduceCtorEq,Nat.reduceEqDiff,go_sem]
  have hS:=DT (lt:=Dg) IU (A6 d p i)
  have hSl:(AH Dg (A6 d p i)).length=i-p:=by rw[Dt,Bv]
  have hnx:AH Dg (A6 d p (i+1))=C4 Dg (d i) (AH Dg (A6 d p i)):=by rw[<-DB d (show p<=i by omega) (show i<=i+1 by omega),Cj,Cf]
  generalize AH Dg (A6 d p i)=S at*
  refine AS (ι:=Nat) (fun k=>k<=i-p/\∀t y,k<=t->S[t]?=some y->C9 (d i) y) (fun k=>k) [0,1,2,3,8] (fun k=>[(9,.int .i64 ((p+k:Nat):Int))]) (fun k=>[(0,.row e0 2 m fun y b=>(DG d p S (d i) k y).c b)]) (i-p) ⟨Nat.le_refl _,fun t y h1 h2=>by have:=(List.getElem?_eq_some_iff.1 h2).1;omega⟩ (by
   have:DG d p S (d i) (i-p)=B5 d p S:=by rw[<-hSl];exact J7 d p S (by omega)
   have e5:((p+(i-p):Nat):Int)=(i:Int):=by omega
   simp only[this,e5,↓reduceIte,reduceCtorEq,Nat.reduceEqDiff,Nat.reduceLT,go_sem]) fun k hk=> ?_
  obtain⟨hk1,hk2⟩:=hk
  have hki:p+k<=i:=by omega
  have gk:DG d p S (d i) k (p+k)=d i:=by unfold DG;rw[if_neg (by omega),if_neg (by omega),if_pos rfl]
  have fin:(∀z,0<k->S[k-1]?=some z->¬C9 (d i) z)->DG d p S (d i) k=B5 d p (AH Dg (A6 d p (i+1))):=fun h=>by
   rw[Ls d p S (d i) (by omega),hnx,Jb (lt:=Dg) (d i) S k (by omega) (fun t y ht hy=> ?_) fun y hy=>decide_eq_true (hk2 k y (Nat.le_refl _) hy)]
   obtain⟨z,hz⟩:∃z,S[k-1]?=some z:=⟨_,List.getElem?_eq_getElem (show k-1<S.length by omega)⟩
   have h1:=h z (by omega) hz
   cases e:Dg (d i) y with
   |false=>rfl
   |true=>
    by_cases e2:t=k-1
    ·subst e2;rw[hy]at hz;cases hz;exact absurd (of_decide_eq_true e) h1
    have h3:Dg z y=false:=by
     obtain⟨q1,q2⟩:=List.getElem?_eq_some_iff.1 hy
     obtain⟨q3,q4⟩:=List.getElem?_eq_some_iff.1 hz
     have:=List.pairwise_iff_getElem.1 hS t (k-1) q1 q3 (by omega)
     rw[q2,q4]at this;exact this
    rcases IU.co _ z _ e with h4|h4
    ·exact absurd (of_decide_eq_true h4) h1
    rw[show decide (C9 z y)=false from h3]at h4;cases h4
  rcases Nat.eq_zero_or_pos k with hk0|hk0
  ·subst hk0
   have f0:((p:Int)>(p:Int))=False:=eq_false (by omega)
   have fe:=fin fun z h=>absurd h (Nat.lt_irrefl 0)
   simp only[f0,Nat.add_zero,↓reduceIte,reduceCtorEq,Nat.reduceEqDiff,Nat.reduceSub,go_sem]
   refine Af (i+1) ⟨by omega,.inl (by omega)⟩ (by omega) ?_
   simp only[fe,↓reduceIte,reduceCtorEq,Nat.reduceEqDiff,Nat.reduceLT,go_sem]
   rw[Cs (by omega)]
   try exact⟨rfl,fun _ _ _ _=>BP _⟩
  obtain⟨z,hz⟩:∃z,S[k-1]?=some z:=⟨_,List.getElem?_eq_getElem (show k-1<S.length by omega)⟩
  have f0:(((p+k:Nat):Int)>(p:Int))=True:=eq_true (by omega)
  have w1:IntKind.i64.wrap (((p+k:Nat):Int)-1)=((p+(k-1):Nat):Int):=by rw[AU (by omega) (by omega)];omega
  have gk1:DG d p S (d i) k (p+(k-1))=z:=by
   unfold DG;rw[if_neg (by omega),if_pos (by omega),List.getD_eq_getElem?_getD,show p+(k-1)-p=k-1 by omega,hz];rfl
  simp only[f0,w1,gk,gk1,Ia,E2,Int.toNat_natCast,D8,↓reduceIte,reduceCtorEq,Nat.reduceEqDiff,Nat.reduceAdd,Nat.reduceSub,go_sem]
  refine⟨by omega,by omega,by omega,by omega,fun h4=> ?_,fun h4=> ?_⟩
  ·repeat(with_reducible refine And.intro (by omega) ?_)
   refine Af (k-1) ⟨by omega,fun t y ht hy=> ?_⟩ (by omega) ?_
   ·by_cases e2:t=k-1
    ·subst e2;rw[hz]at hy;cases hy;exact h4
    exact hk2 t y (by omega) hy
   simp only[↓reduceIte,reduceCtorEq,Nat.reduceEqDiff,Nat.reduceLT,go_sem]
   refine Nw (C:=Hs.c) (L:=Hs.L) LS fun y hy=> ?_
   rw[Io d p S (d i) hk0 (by omega),show p+k-1=p+(k-1) by omega,List.getD_eq_getElem?_getD,hz];rfl
  have fe:=fin fun z' _ hz'=>by rw[hz]at hz';cases hz';exact h4
  refine Af (i+1) ⟨by omega,.inl (by omega)⟩ (by omega) ?_
  simp only[fe,↓reduceIte,reduceCtorEq,Nat.reduceEqDiff,Nat.reduceLT,go_sem]
  rw[Cs (by omega)]
  try exact⟨rfl,fun _ _ _ _=>BP _⟩
 have fi:((i:Int)<(q:Int))=False:=eq_false (by omega)
 have fe:B5 d p (AH Dg (A6 d p i))=B5 d p (AH Dg (A6 d p q)):=by
  rcases hi2 with h|h
  ·rw[show i=q by omega]
  by_cases e:q=p
  ·rw[h,e,Cj,i1,<-Cj,Cg,DW d (Nat.le_refl p)]
   show d=B5 d p []
   have:=Cg d p p
   rw[DW d (Nat.le_refl p)]at this
   exact this.symm
  rw[show i=q by omega]
 simp only[fi,fe,↓reduceIte,reduceCtorEq,Nat.reduceEqDiff,go_sem]
 exact⟨_,rfl,_,rfl,fun _ _ _ _=>BP _⟩
noncomputable def Xj:As:=Ak (Ag (Dv NS) (Ag TI (Ag TI (Ag TI (Ag (C8 DC) AZ))))) (fun a=>∃p q n:Nat,a.2.1=p/\a.2.2.1=q/\a.2.2.2.1=n/\p<q/\q<n/\n<=a.1.1/\a.1.1<=100000) fun a=> .view 2 a.1.1 fun i j=>(Ck a.1.2 a.2.1.toNat a.2.2.1.toNat a.2.2.2.1.toNat i).c j
theorem AbQ:Cy Tryz.prog G 154 0 Xj:=by
 refine QA (S:=[]) (I:=[]) (X:=[(165,0,SX)]) (N:=[]) (C:=[]) (R:=NS) (t:=Ag TI (Ag TI (Ag TI (Ag (C8 DC) AZ)))) mixed .nil .nil (.cons AcB .nil) Tryz.func154 AbS rfl fun d b e0 hp hw hn=> ?_
 obtain⟨w,d⟩:=d
 obtain⟨a,m,b,cm,u⟩:=b
 obtain⟨a,m,b,rfl,rfl,rfl,h1,h2,h3,hm⟩:=hp
 have hm:w<=100000:=hm
 have h3:b<=w:=h3
 have w1:IntKind.i64.wrap ((m:Int)-(a:Int))=((m-a:Nat):Int):=by rw[AU (by omega) (by omega)];omega
 have w2:IntKind.i64.wrap ((b:Int)-(m:Int))=((b-m:Nat):Int):=by rw[AU (by omega) (by omega)];omega
 simp only[Abr,Ag,AZ,w1,w2,Int.toNat_natCast,DC,D8,↓reduceIte,reduceCtorEq,Nat.reduceEqDiff,Nat.reduceAdd,go_sem]
 refine AS (ι:=Nat×Nat×(Nat->Hs)) (fun s=>s.1+s.2.1<=b-a/\m+s.2.1<=b/\Qa (Ck d a m b) m s.1 s.2.1 s.2.2) (fun s=>s.1+s.2.1) [0,2,4] (fun s=>[(10,.int .i64 s.1),(11,.int .i64 s.2.1)]) (fun s=>[(0,.row e0 2 w fun i j=>(s.2.2 i).c j)]) (m-a,b-m,d) ⟨by show m-a+(b-m)<=b-a;omega,by show m+(b-m)<=b;omega,Qa.begin d h1 h2⟩ (by
  simp only[↓reduceIte,reduceCtorEq,Nat.reduceEqDiff,Nat.reduceLT,go_sem]) fun s hs=> ?_
 obtain⟨i,j,e⟩:=s
 obtain⟨s1,s2,hr⟩:=hs
 simp only at s1 s2 hr
 have i0:=hr.i0;have j0:=hr.j0;have im:=hr.im
 have hca:∀x y:Nat,((x:Int)=(y:Int))=(x=y):=fun x y=>by apply propext;omega
 have v1:IntKind.i64.wrap ((m:Int)-(i:Int))=((m-i:Nat):Int):=by rw[AU (by omega) (by omega)];omega
 rcases Nat.lt_trichotomy i j with hij|hij|hij
 ·have f1:((i:Int)=(j:Int))=False:=eq_false (by omega)
  have f2:((i:Int)>(j:Int))=False:=eq_false (by omega)
  have v2:IntKind.i64.wrap (IntKind.i64.wrap ((m:Int)+(j:Int))-(i:Int))=((m+j-i:Nat):Int):=by
   rw[show IntKind.i64.wrap ((m:Int)+(j:Int))=((m+j:Nat):Int) by rw[AU (by omega) (by omega)];omega,AU (by omega) (by omega)];omega
  have v3:IntKind.i64.wrap ((j:Int)-(i:Int))=((j-i:Nat):Int):=by rw[AU (by omega) (by omega)];omega
  simp only[f1,f2,v1,v2,v3,SX,Ak,Ag,AZ,Int.toNat_natCast,DC,D8,↓reduceIte,reduceCtorEq,Nat.reduceEqDiff,Nat.reduceAdd,go_sem]
  refine⟨⟨_,rfl,_,rfl,_,rfl,by omega,by omega,hm⟩,Af (i,j-i,C7 e (m-i) (m+j-i) i) ⟨by show i+(j-i)<=b-a;omega,by show m+(j-i)<=b;omega,hr.right hij⟩ (by show i+(j-i)<i+j;omega) ?_⟩
  simp only[↓reduceIte,reduceCtorEq,Nat.reduceEqDiff,Nat.reduceLT,go_sem]
  try exact fun _ _ _ _=>BP _
 ·subst hij
  have f1:((i:Int)=(i:Int))=True:=eq_true rfl
  simp only[v1,SX,Ak,Ag,AZ,Int.toNat_natCast,DC,D8,↓reduceIte,reduceCtorEq,Nat.reduceEqDiff,Nat.reduceAdd,go_sem]
  have hd:C7 (fun i=>e i) (m-i) m i=Ck d a m b:=hr.done
  rw[hd]
  exact⟨⟨_,rfl,_,rfl,_,rfl,by omega,by omega,hm⟩,_,rfl,_,rfl,fun _ _ _ _=>BP _⟩
 have f1:((i:Int)=(j:Int))=False:=eq_false (by omega)
 have f2:((i:Int)>(j:Int))=True:=eq_true (by omega)
 have v3:IntKind.i64.wrap ((i:Int)-(j:Int))=((i-j:Nat):Int):=by rw[AU (by omega) (by omega)];omega
 simp only[f1,f2,v1,v3,SX,Ak,Ag,AZ,Int.toNat_natCast,DC,D8,↓reduceIte,reduceCtorEq,Nat.reduceEqDiff,Nat.reduceAdd,go_sem]
 refine⟨⟨_,rfl,_,rfl,_,rfl,by omega,by omega,hm⟩,Af (i-j,j,C7 e (m-i) m j) ⟨by show i-j+j<=b-a;omega,by show m+j<=b;omega,hr.left hij⟩ (by show i-j+j<i+j;omega) ?_⟩
 simp only[↓reduceIte,reduceCtorEq,Nat.reduceEqDiff,Nat.reduceLT,go_sem]
 try exact fun _ _ _ _=>BP _
noncomputable def OY(N:Nat):As:=Ak (Ag (Dv NS) (Ag TI (Ag TI (Ag TI (Ag (C8 DC) AZ))))) (fun a=>∃p q n:Nat,a.2.1=p/\a.2.2.1=q/\a.2.2.2.1=n/\p<q/\q<n/\n<=a.1.1/\a.1.1<=100000/\n<=p+N/\EO Dg (A6 a.1.2 p q)/\EO Dg (A6 a.1.2 q n)) fun a=> .view 2 a.1.1 fun i j=>(B9 Dg a.1.2 a.2.1.toNat a.2.2.1.toNat a.2.2.2.1.toNat i).c j
set_option maxHeartbeats 8000000 in
theorem Acn(hC:Ah Tryz.prog G 91 Ia):∀N,Cy Tryz.prog G 136 0 (OY N):=by
  intro N
  induction N with
  |zero=>
    refine QA (S:=[(91,Ia)]) (I:=[]) (X:=[]) (N:=[]) (C:=[]) (R:=NS) (t:=Ag TI (Ag TI (Ag TI (Ag (C8 DC) AZ)))) mixed (.cons hC .nil) .nil .nil Tryz.func136 Abf rfl fun d b e0 hp hw hn=> ?_
    obtain⟨w,d⟩:=d
    obtain⟨a,m,b,cm,u⟩:=b
    obtain⟨a,m,b,rfl,rfl,rfl,h1,h2,h3,hm,hN,hs1,hs2⟩:=hp
    omega
  |succ N ih=>
  refine QA (S:=[(91,Ia)]) (I:=[]) (X:=[(154,0,Xj),(136,0,OY N)]) (N:=[]) (C:=[]) (R:=NS) (t:=Ag TI (Ag TI (Ag TI (Ag (C8 DC) AZ)))) mixed (.cons hC .nil) .nil (.cons AbQ (.cons ih .nil)) Tryz.func136 Abf rfl fun d b e0 hp hw hn=> ?_
  obtain⟨w,d⟩:=d
  obtain⟨a,m,b,cm,u⟩:=b
  obtain⟨a,m,b,rfl,rfl,rfl,h1,h2,h3,hm,hN,hs1,hs2⟩:=hp
  have hm:w<=100000:=hm
  have h3:b<=w:=h3
  have hs1:EO Dg (A6 d a m):=hs1
  have hs2:EO Dg (A6 d m b):=hs2
  have w1:IntKind.i64.wrap ((m:Int)-(a:Int))=((m-a:Nat):Int):=by rw[AU (by omega) (by omega)];omega
  have w2:IntKind.i64.wrap ((b:Int)-(m:Int))=((b-m:Nat):Int):=by rw[AU (by omega) (by omega)];omega
  simp only[AaT,Ag,AZ,w1,w2,Int.toNat_natCast,DC,D8,↓reduceIte,reduceCtorEq,Nat.reduceEqDiff,Nat.reduceAdd,Int.reduceToNat,Int.reduceLE,go_sem]
  have hca:∀x:Nat,((x:Int)=1)=(x=1):=fun x=>by apply propext;omega
  have vm:=Kr (x:=a) (y:=b) (by omega) (by omega)
  by_cases hb1:m-a=1
  ·obtain rfl:m=a+1:=by omega
   have g1:(((a+1-a:Nat):Int)=1)=True:=eq_true (by omega)
   simp only[g1,go_sem]
   refine AS (ι:=Nat×Nat) (fun s=>a+1<=s.1/\s.1<=s.2/\s.2<=b/\(s.1=a+1\/C9 (d (s.1-1)) (d a))/\(s.2=b\/¬C9 (d s.2) (d a))) (fun s=>s.2-s.1) [0,1,2,3,4] (fun s=>[(10,.int .i64 s.1),(11,.int .i64 s.2)]) (fun _=>[]) (a+1,b) ⟨Nat.le_refl _,by omega,Nat.le_refl _,.inl rfl,.inl rfl⟩ (by simp only[↓reduceIte,reduceCtorEq,Nat.reduceEqDiff,Nat.reduceLT,go_sem]) fun s hs=> ?_
   obtain⟨i,j⟩:=s
   obtain⟨s1,s2,s3,s4,s5⟩:=hs
   simp only at s1 s2 s3 s4 s5
   rcases Nat.lt_or_ge i j with hij|hij
   ·have f1:((i:Int)<(j:Int))=True:=eq_true (by omega)
    have vh:=Kr (x:=i) (y:=j) (by omega) (by omega)
    obtain⟨h,hh⟩:∃h,h=(i+j)/2:=⟨_,rfl⟩
    rw[<-hh]at vh
    have vh1:IntKind.i64.wrap ((h:Int)+1)=((h+1:Nat):Int):=Cs (by omega)
    simp only[f1,vh,vh1,Ia,E2,Int.toNat_natCast,D8,↓reduceIte,reduceCtorEq,Nat.reduceEqDiff,Nat.reduceAdd,Int.reduceToNat,Int.reduceLE,go_sem]
    repeat(with_reducible refine And.intro (by omega) ?_)
    refine⟨fun h4=>Af (h+1,j) ⟨by show a+1<=h+1;omega,by show h+1<=j;omega,s3,.inr h4,s5⟩ (by show j-(h+1)<j-i;omega) (by simp only[↓reduceIte,reduceCtorEq,Nat.reduceEqDiff,Nat.reduceLT,go_sem]),fun h4=>Af (i,h) ⟨s1,by show i<=h;omega,by show h<=b;omega,s4,.inr h4⟩ (by show h-i<j-i;omega) (by simp only[↓reduceIte,reduceCtorEq,Nat.reduceEqDiff,Nat.reduceLT,go_sem])⟩
   obtain rfl:i=j:=by omega
   have f1:((i:Int)<(i:Int))=False:=eq_false (by omega)
   simp only[f1,↓reduceIte,reduceCtorEq,Nat.reduceEqDiff,go_sem]
   refine AS (ι:=Nat) (fun k=>a<=k/\k<=i-1) (fun k=>i-k) [0,1,2,3,4,10] (fun k=>[(13,.int .i64 k)]) (fun k=>[(0,.row e0 2 w fun y b=>(KV d a k y).c b)]) a ⟨Nat.le_refl _,by omega⟩ (by
     have:KV d a a=d:=by funext y;unfold KV;by_cases e:y=a;rw[if_neg (by omega),if_pos e,e];rw[if_neg (by omega),if_neg e]
     simp only[this,↓reduceIte,reduceCtorEq,Nat.reduceEqDiff,Nat.reduceLT,go_sem]) fun k hk=> ?_
   obtain⟨k1,k2⟩:=hk
   have vi:IntKind.i64.wrap ((i:Int)-1)=((i-1:Nat):Int):=XC (by omega) (by omega)
   have vk:IntKind.i64.wrap ((k:Int)+1)=((k+1:Nat):Int):=Cs (by omega)
   rcases Nat.lt_or_ge k (i-1)with hk3|hk3
   ·have f2:((k:Int)<((i-1:Nat):Int))=True:=eq_true (by omega)
    have u1:KV d a k k=d a:=by unfold KV;rw[if_neg (by omega),if_pos rfl]
    have u2:KV d a k (k+1)=d (k+1):=by unfold KV;rw[if_neg (by omega),if_neg (by omega)]
    simp only[f2,vi,vk,u1,u2,Int.toNat_natCast,↓reduceIte,reduceCtorEq,Nat.reduceEqDiff,Nat.reduceAdd,Nat.reduceSub,go_sem]
    repeat(with_reducible refine And.intro (by omega) ?_)
    refine Af (k+1) ⟨by omega,by omega⟩ (by omega) ?_
    simp only[↓reduceIte,reduceCtorEq,Nat.reduceEqDiff,Nat.reduceLT,go_sem]
    try refine⟨rfl,?_⟩
    refine Nw (C:=Hs.c) (L:=Hs.L) LS fun y hy=> ?_
    unfold KV
    by_cases e1:y=k+1
    ·rw[if_pos e1,if_neg (by omega),if_pos e1]
    simp only[if_neg e1]
    by_cases e2:y=k
    ·rw[if_pos e2,if_pos (by omega),e2]
    simp only[if_neg e2]
    by_cases e3:a<=y/\y<k
    ·rw[if_pos e3,if_pos (by omega)]
    rw[if_neg e3,if_neg (by omega)]
   obtain rfl:k=i-1:=by omega
   have f2:(((i-1:Nat):Int)<((i-1:Nat):Int))=False:=eq_false (by omega)
   have fe:KV d a (i-1)=B9 Dg d a (a+1) b:=by rw[PN d s1];exact Nr IU s1 s3 hs2 (s4.imp_right decide_eq_true) (s5.imp_right decide_eq_false)
   simp only[f2,vi,fe,↓reduceIte,reduceCtorEq,Nat.reduceEqDiff,go_sem]
   exact⟨_,rfl,_,rfl,fun _ _ _ _=>BP _⟩
  have g1:(((m-a:Nat):Int)=1)=False:=eq_false (by omega)
  by_cases hb2:b-m=1
  ·obtain rfl:b=m+1:=by omega
   have g2:(((m+1-m:Nat):Int)=1)=True:=eq_true (by omega)
   simp only[g1,g2,go_sem]
   refine AS (ι:=Nat×Nat) (fun s=>a<=s.1/\s.1<=s.2/\s.2<=m/\(s.1=a\/¬C9 (d m) (d (s.1-1)))/\(s.2=m\/C9 (d m) (d s.2))) (fun s=>s.2-s.1) [0,1,2,3,4] (fun s=>[(14,.int .i64 s.1),(15,.int .i64 s.2)]) (fun _=>[]) (a,m) ⟨Nat.le_refl _,by omega,Nat.le_refl _,.inl rfl,.inl rfl⟩ (by simp only[↓reduceIte,reduceCtorEq,Nat.reduceEqDiff,Nat.reduceLT,go_sem]) fun s hs=> ?_
   obtain⟨i,j⟩:=s
   obtain⟨s1,s2,s3,s4,s5⟩:=hs
   simp only at s1 s2 s3 s4 s5
   rcases Nat.lt_or_ge i j with hij|hij
   ·have f1:((i:Int)<(j:Int))=True:=eq_true (by omega)
    have vh:=Kr (x:=i) (y:=j) (by omega) (by omega)
    obtain⟨h,hh⟩:∃h,h=(i+j)/2:=⟨_,rfl⟩
    rw[<-hh]at vh
    have vh1:IntKind.i64.wrap ((h:Int)+1)=((h+1:Nat):Int):=Cs (by omega)
    simp only[f1,vh,vh1,Ia,E2,Int.toNat_natCast,D8,↓reduceIte,reduceCtorEq,Nat.reduceEqDiff,Nat.reduceAdd,Int.reduceToNat,Int.reduceLE,go_sem]
    repeat(with_reducible refine And.intro (by omega) ?_)
    refine⟨fun h4=>Af (h+1,j) ⟨by show a<=h+1;omega,by show h+1<=j;omega,s3,.inr h4,s5⟩ (by show j-(h+1)<j-i;omega) (by simp only[↓reduceIte,reduceCtorEq,Nat.reduceEqDiff,Nat.reduceLT,go_sem]),fun h4=>Af (i,h) ⟨s1,by show i<=h;omega,by show h<=m;omega,s4,.inr h4⟩ (by show h-i<j-i;omega) (by simp only[↓reduceIte,reduceCtorEq,Nat.reduceEqDiff,Nat.reduceLT,go_sem])⟩
   obtain rfl:i=j:=by omega
   have f1:((i:Int)<(i:Int))=False:=eq_false (by omega)
   simp only[f1,↓reduceIte,reduceCtorEq,Nat.reduceEqDiff,go_sem]
   refine AS (ι:=Nat) (fun k=>i<=k/\k<=m) (fun k=>k) [0,1,2,3,4,14] (fun k=>[(17,.int .i64 k)]) (fun k=>[(0,.row e0 2 w fun y b=>(K5 d m k y).c b)]) m ⟨by omega,Nat.le_refl _⟩ (by
     have:K5 d m m=d:=by funext y;unfold K5;by_cases e:y=m;rw[if_pos e,e];rw[if_neg e,if_neg (by omega)]
     simp only[this,↓reduceIte,reduceCtorEq,Nat.reduceEqDiff,Nat.reduceLT,go_sem]) fun k hk=> ?_
   obtain⟨k1,k2⟩:=hk
   rcases Nat.lt_or_ge i k with hk3|hk3
   ·have f2:((k:Int)>(i:Int))=True:=eq_true (by omega)
    have vk:IntKind.i64.wrap ((k:Int)-1)=((k-1:Nat):Int):=XC (by omega) (by omega)
    have u1:K5 d m k k=d m:=by unfold K5;rw[if_pos rfl]
    have u2:K5 d m k (k-1)=d (k-1):=by unfold K5;rw[if_neg (by omega),if_neg (by omega)]
    simp only[f2,vk,u1,u2,Int.toNat_natCast,↓reduceIte,reduceCtorEq,Nat.reduceEqDiff,Nat.reduceAdd,Nat.reduceSub,go_sem]
    repeat(with_reducible refine And.intro (by omega) ?_)
    refine Af (k-1) ⟨by omega,by omega⟩ (by omega) ?_
    simp only[↓reduceIte,reduceCtorEq,Nat.reduceEqDiff,Nat.reduceLT,go_sem]
    try refine⟨rfl,?_⟩
    refine Nw (C:=Hs.c) (L:=Hs.L) LS fun y hy=> ?_
    unfold K5
    by_cases e1:y=k-1
    ·rw[if_pos e1,if_pos e1]
    rw[if_neg e1,if_neg e1]
    by_cases e2:y=k
    ·rw[if_pos e2,if_pos (by omega),e2]
    rw[if_neg e2]
    by_cases e3:k<y/\y<=m
    ·rw[if_pos (by omega),if_neg e2,if_pos e3]
    rw[if_neg (by omega),if_neg e2,if_neg e3]
   obtain rfl:k=i:=by omega
   have f2:((k:Int)>(k:Int))=False:=eq_false (by omega)
   have fe:K5 d m k=B9 Dg d a m (m+1):=by rw[Qw d s3];exact KG IU s1 s3 hs1 (s4.imp_right decide_eq_false) (s5.imp_right decide_eq_true)
   simp only[f2,fe,↓reduceIte,reduceCtorEq,Nat.reduceEqDiff,go_sem]
   exact⟨_,rfl,_,rfl,fun _ _ _ _=>BP _⟩
  have g2:(((b-m:Nat):Int)=1)=False:=eq_false (by omega)
  simp only[g1,g2,vm,go_sem]
  obtain⟨mid,hmid⟩:∃mid,mid=(a+b)/2:=⟨_,rfl⟩
  rw[<-hmid]at vm⊢
  have vn:IntKind.i64.wrap ((mid:Int)+(m:Int))=((mid+m:Nat):Int):=by rw[AU (by omega) (by omega)];omega
  have vp:IntKind.i64.wrap (((mid+m:Nat):Int)-1)=((mid+m-1:Nat):Int):=XC (by omega) (by omega)
  simp only[vn,vp]
  refine⟨fun h4=> ?_,fun h4=> ?_⟩
  ·have vs:IntKind.i64.wrap (((mid+m:Nat):Int)-(b:Int))=((mid+m-b:Nat):Int):=by rw[AU (by omega) (by omega)];omega
   simp only[vs]
   refine AS (ι:=Nat×Nat) (fun s=>(mid+m-b)<=s.1/\s.1<=s.2/\s.2<=mid/\(s.1=(mid+m-b)\/¬C9 (d (mid+m-s.1)) (d (s.1-1)))/\(s.2=mid\/C9 (d (mid+m-1-s.2)) (d s.2))) (fun s=>s.2-s.1) [0,1,2,3,4,18,19,22] (fun s=>[(20,.int .i64 s.1),(21,.int .i64 s.2)]) (fun _=>[]) ((mid+m-b),mid) ⟨Nat.le_refl _,by show(mid+m-b)<=mid;omega,Nat.le_refl _,.inl rfl,.inl rfl⟩ (by simp only[↓reduceIte,reduceCtorEq,Nat.reduceEqDiff,Nat.reduceLT,go_sem]) fun s hs=> ?_
   obtain⟨i,j⟩:=s
   obtain⟨s1,s2,s3,s4,s5⟩:=hs
   simp only at s1 s2 s3 s4 s5
   rcases Nat.lt_or_ge i j with hij|hij
   ·have f1:((i:Int)<(j:Int))=True:=eq_true (by omega)
    have vh:=Kr (x:=i) (y:=j) (by omega) (by omega)
    obtain⟨h,hh⟩:∃h,h=(i+j)/2:=⟨_,rfl⟩
    rw[<-hh]at vh
    have vh1:IntKind.i64.wrap ((h:Int)+1)=((h+1:Nat):Int):=Cs (by omega)
    have vph:IntKind.i64.wrap (((mid+m-1:Nat):Int)-(h:Int))=((mid+m-1-h:Nat):Int):=by rw[AU (by omega) (by omega)];omega
    simp only[f1,vh,vh1,vph,Ia,E2,Int.toNat_natCast,D8,↓reduceIte,reduceCtorEq,Nat.reduceEqDiff,Nat.reduceAdd,Int.reduceToNat,Int.reduceLE,go_sem]
    repeat(with_reducible refine And.intro (by omega) ?_)
    refine⟨fun h5=>Af (h+1,j) ⟨by show(mid+m-b)<=h+1;omega,by show h+1<=j;omega,s3,.inr (by show¬C9 (d (mid+m-(h+1))) (d (h+1-1));rw[show mid+m-(h+1)=mid+m-1-h by omega,Nat.add_sub_cancel];exact h5),s5⟩ (by show j-(h+1)<j-i;omega) (by simp only[↓reduceIte,reduceCtorEq,Nat.reduceEqDiff,Nat.reduceLT,go_sem]),fun h5=>Af (i,h) ⟨s1,by show i<=h;omega,by show h<=mid;omega,s4,.inr h5⟩ (by show h-i<j-i;omega) (by simp only[↓reduceIte,reduceCtorEq,Nat.reduceEqDiff,Nat.reduceLT,go_sem])⟩
   obtain rfl:i=j:=by omega
   have f1:((i:Int)<(i:Int))=False:=eq_false (by omega)
   have ve:IntKind.i64.wrap (((mid+m:Nat):Int)-(i:Int))=((mid+m-i:Nat):Int):=by rw[AU (by omega) (by omega)];omega
   obtain⟨e,he⟩:∃e,e=mid+m-i:=⟨_,rfl⟩
   rw[<-he]at ve
   have hx:∀y,m<=y->y<e->i<m->Dg (d y) (d i)=true:=fun y y1 y2 y3=>by
     have h6:C9 (d (e-1)) (d i):=by
       have:=s5.resolve_left (by omega)
       rw[show mid+m-1-i=e-1 by omega]at this;exact this
     by_cases e6:y=e-1
     ·subst e6;exact decide_eq_true h6
     rcases IU.co _ (d y) _ (decide_eq_true h6)with h7|h7
     ·rw[show decide (C9 (d (e-1)) (d y))=false from hs2.at y1 (show y<e-1 by omega) (by omega)]at h7;cases h7
     exact h7
   have hy:∀x,a<=x->x<i->e<b->Dg (d e) (d x)=false:=fun x x1 x2 x3=>by
     have h6:¬C9 (d e) (d (i-1)):=by
       have:=s4.resolve_left (by omega)
       rw[<-he]at this;exact this
     cases e7:Dg (d e) (d x)with
     |false=>rfl
     |true=>
       by_cases e6:x=i-1
       ·subst e6;exact absurd (of_decide_eq_true e7) h6
       rcases IU.co _ (d (i-1)) _ e7 with h7|h7
       ·exact absurd (of_decide_eq_true h7) h6
       rw[show decide (C9 (d (i-1)) (d x))=false from hs1.at x1 (show x<i-1 by omega) (by omega)]at h7;cases h7
   have hst:=Eh (lt:=Dg) (d:=d) (a:=a) (m:=m) (b:=b) (s:=i) (e:=e) (mid:=mid) (by omega) (by omega) (by omega) (by omega) (by omega) (by omega) (by omega) hx hy
   obtain⟨g1',g2',g3',g4'⟩:=Hk d (a:=a) (m:=m) (b:=b) (s:=i) (e:=e) (mid:=mid) (by omega) (by omega) (by omega)
   have z1:¬(i<m/\m<e)->Ck d i m e=d:=fun h=>Hl d (by omega) (by omega) (by omega)
   have z2:∀R:Nat->Hs,¬(a<i/\i<mid)->B9 Dg R a i mid=R:=fun R h=>C1 R (by omega) (by omega) (by omega)
   have z3:∀R:Nat->Hs,¬(mid<e/\e<b)->B9 Dg R mid e b=R:=fun R h=>C1 R (by omega) (by omega) (by omega)
   have S1:EO Dg (A6 (Ck d i m e) a i):=by rw[g1'];exact hs1.part (Nat.le_refl _) (by omega)
   have S2:EO Dg (A6 (Ck d i m e) i mid):=by rw[g2'];exact hs2.part (Nat.le_refl _) (by omega)
   have S3:EO Dg (A6 (B9 Dg (Ck d i m e) a i mid) mid e):=by rw[DY _ (by omega) (by omega) (Nat.le_refl _),g3'];exact hs1.part (by omega) (by omega)
   have S4:EO Dg (A6 (B9 Dg (Ck d i m e) a i mid) e b):=by rw[DY _ (by omega) (by omega) (by omega),g4'];exact hs2.part (by omega) (Nat.le_refl _)
   have hlt:∀x y:Nat,((x:Int)<(y:Int))=(x<y):=fun x y=>by apply propext;omega
   simp only[f1,ve,Xj,OY,Ak,Ag,AZ,hlt,Int.toNat_natCast,DC,D8,↓reduceIte,reduceCtorEq,Nat.reduceEqDiff,Nat.reduceAdd,go_sem]
   repeat'(first|(with_reducible apply And.intro)|intro _)
   all_goals first
     |exact⟨_,rfl,_,rfl,_,rfl,by omega,by omega,by omega,hm⟩
     |exact⟨_,rfl,_,rfl,_,rfl,by omega,by omega,by omega,hm,by omega,S1,S2⟩
     |exact⟨_,rfl,_,rfl,_,rfl,by omega,by omega,by omega,hm,by omega,by rw[z1 (by omega)]at S1;exact S1,by rw[z1 (by omega)]at S2;exact S2⟩
     |exact⟨_,rfl,_,rfl,_,rfl,by omega,by omega,by omega,hm,by omega,S3,S4⟩
     |exact⟨_,rfl,_,rfl,_,rfl,by omega,by omega,by omega,hm,by omega,by rw[z1 (by omega)]at S3;exact S3,by rw[z1 (by omega)]at S4;exact S4⟩
     |exact⟨_,rfl,_,rfl,_,rfl,by omega,by omega,by omega,hm,by omega,by rw[z2 _ (by omega)]at S3;exact S3,by rw[z2 _ (by omega)]at S4;exact S4⟩
     |exact⟨_,rfl,_,rfl,_,rfl,by omega,by omega,by omega,hm,by omega,by rw[z1 (by omega),z2 _ (by omega)]at S3;exact S3,by rw[z1 (by omega),z2 _ (by omega)]at S4;exact S4⟩
     |(refine⟨_,rfl,_,rfl,fun y hy b' hb'=> ?_⟩
       rw[<-hst]
       first
         |exact BP _
         |(rw[z1 (by omega)];exact BP _)
         |(rw[z2 _ (by omega)];exact BP _)
         |(rw[z3 _ (by omega)];exact BP _)
         |(rw[z1 (by omega),z2 _ (by omega)];exact BP _)
         |(rw[z1 (by omega),z3 _ (by omega)];exact BP _)
         |(rw[z2 _ (by omega),z3 _ (by omega)];exact BP _)
         |(rw[z1 (by omega),z2 _ (by omega),z3 _ (by omega)];exact BP _))
  skip
  refine AS (ι:=Nat×Nat) (fun s=>a<=s.1/\s.1<=s.2/\s.2<=m/\(s.1=a\/¬C9 (d (mid+m-s.1)) (d (s.1-1)))/\(s.2=m\/C9 (d (mid+m-1-s.2)) (d s.2))) (fun s=>s.2-s.1) [0,1,2,3,4,18,19,22] (fun s=>[(20,.int .i64 s.1),(21,.int .i64 s.2)]) (fun _=>[]) (a,m) ⟨Nat.le_refl _,by show a<=m;omega,Nat.le_refl _,.inl rfl,.inl rfl⟩ (by simp only[↓reduceIte,reduceCtorEq,Nat.reduceEqDiff,Nat.reduceLT,go_sem]) fun s hs=> ?_
  obtain⟨i,j⟩:=s
  obtain⟨s1,s2,s3,s4,s5⟩:=hs
  simp only at s1 s2 s3 s4 s5
  rcases Nat.lt_or_ge i j with hij|hij
  ·have f1:((i:Int)<(j:Int))=True:=eq_true (by omega)
   have vh:=Kr (x:=i) (y:=j) (by omega) (by omega)
   obtain⟨h,hh⟩:∃h,h=(i+j)/2:=⟨_,rfl⟩
   rw[<-hh]at vh
   have vh1:IntKind.i64.wrap ((h:Int)+1)=((h+1:Nat):Int):=Cs (by omega)
   have vph:IntKind.i64.wrap (((mid+m-1:Nat):Int)-(h:Int))=((mid+m-1-h:Nat):Int):=by rw[AU (by omega) (by omega)];omega
   simp only[f1,vh,vh1,vph,Ia,E2,Int.toNat_natCast,D8,↓reduceIte,reduceCtorEq,Nat.reduceEqDiff,Nat.reduceAdd,Int.reduceToNat,Int.reduceLE,go_sem]
   repeat(with_reducible refine And.intro (by omega) ?_)
   refine⟨fun h5=>Af (h+1,j) ⟨by show a<=h+1;omega,by show h+1<=j;omega,s3,.inr (by show¬C9 (d (mid+m-(h+1))) (d (h+1-1));rw[show mid+m-(h+1)=mid+m-1-h by omega,Nat.add_sub_cancel];exact h5),s5⟩ (by show j-(h+1)<j-i;omega) (by simp only[↓reduceIte,reduceCtorEq,Nat.reduceEqDiff,Nat.reduceLT,go_sem]),fun h5=>Af (i,h) ⟨s1,by show i<=h;omega,by show h<=m;omega,s4,.inr h5⟩ (by show h-i<j-i;omega) (by simp only[↓reduceIte,reduceCtorEq,Nat.reduceEqDiff,Nat.reduceLT,go_sem])⟩
  obtain rfl:i=j:=by omega
  have f1:((i:Int)<(i:Int))=False:=eq_false (by omega)
  have ve:IntKind.i64.wrap (((mid+m:Nat):Int)-(i:Int))=((mid+m-i:Nat):Int):=by rw[AU (by omega) (by omega)];omega
  obtain⟨e,he⟩:∃e,e=mid+m-i:=⟨_,rfl⟩
  rw[<-he]at ve
  have hx:∀y,m<=y->y<e->i<m->Dg (d y) (d i)=true:=fun y y1 y2 y3=>by
    have h6:C9 (d (e-1)) (d i):=by
      have:=s5.resolve_left (by omega)
      rw[show mid+m-1-i=e-1 by omega]at this;exact this
    by_cases e6:y=e-1
    ·subst e6;exact decide_eq_true h6
    rcases IU.co _ (d y) _ (decide_eq_true h6)with h7|h7
    ·rw[show decide (C9 (d (e-1)) (d y))=false from hs2.at y1 (show y<e-1 by omega) (by omega)]at h7;cases h7
    exact h7
  have hy:∀x,a<=x->x<i->e<b->Dg (d e) (d x)=false:=fun x x1 x2 x3=>by
    have h6:¬C9 (d e) (d (i-1)):=by
      have:=s4.resolve_left (by omega)
      rw[<-he]at this;exact this
    cases e7:Dg (d e) (d x)with
    |false=>rfl
    |true=>
      by_cases e6:x=i-1
      ·subst e6;exact absurd (of_decide_eq_true e7) h6
      rcases IU.co _ (d (i-1)) _ e7 with h7|h7
      ·exact absurd (of_decide_eq_true h7) h6
      rw[show decide (C9 (d (i-1)) (d x))=false from hs1.at x1 (show x<i-1 by omega) (by omega)]at h7;cases h7
  have hst:=Eh (lt:=Dg) (d:=d) (a:=a) (m:=m) (b:=b) (s:=i) (e:=e) (mid:=mid) (by omega) (by omega) (by omega) (by omega) (by omega) (by omega) (by omega) hx hy
  obtain⟨g1',g2',g3',g4'⟩:=Hk d (a:=a) (m:=m) (b:=b) (s:=i) (e:=e) (mid:=mid) (by omega) (by omega) (by omega)
  have z1:¬(i<m/\m<e)->Ck d i m e=d:=fun h=>Hl d (by omega) (by omega) (by omega)
  have z2:∀R:Nat->Hs,¬(a<i/\i<mid)->B9 Dg R a i mid=R:=fun R h=>C1 R (by omega) (by omega) (by omega)
  have z3:∀R:Nat->Hs,¬(mid<e/\e<b)->B9 Dg R mid e b=R:=fun R h=>C1 R (by omega) (by omega) (by omega)
  have S1:EO Dg (A6 (Ck d i m e) a i):=by rw[g1'];exact hs1.part (Nat.le_refl _) (by omega)
  have S2:EO Dg (A6 (Ck d i m e) i mid):=by rw[g2'];exact hs2.part (Nat.le_refl _) (by omega)
  have S3:EO Dg (A6 (B9 Dg (Ck d i m e) a i mid) mid e):=by rw[DY _ (by omega) (by omega) (Nat.le_refl _),g3'];exact hs1.part (by omega) (by omega)
  have S4:EO Dg (A6 (B9 Dg (Ck d i m e) a i mid) e b):=by rw[DY _ (by omega) (by omega) (by omega),g4'];exact hs2.part (by omega) (Nat.le_refl _)
  have hlt:∀x y:Nat,((x:Int)<(y:Int))=(x<y):=fun x y=>by apply propext;omega
  simp only[f1,ve,Xj,OY,Ak,Ag,AZ,hlt,Int.toNat_natCast,DC,D8,↓reduceIte,reduceCtorEq,Nat.reduceEqDiff,Nat.reduceAdd,go_sem]
  repeat'(first|(with_reducible apply And.intro)|intro _)
  all_goals first
    |exact⟨_,rfl,_,rfl,_,rfl,by omega,by omega,by omega,hm⟩
    |exact⟨_,rfl,_,rfl,_,rfl,by omega,by omega,by omega,hm,by omega,S1,S2⟩
    |exact⟨_,rfl,_,rfl,_,rfl,by omega,by omega,by omega,hm,by omega,by rw[z1 (by omega)]at S1;exact S1,by rw[z1 (by omega)]at S2;exact S2⟩
    |exact⟨_,rfl,_,rfl,_,rfl,by omega,by omega,by omega,hm,by omega,S3,S4⟩
    |exact⟨_,rfl,_,rfl,_,rfl,by omega,by omega,by omega,hm,by omega,by rw[z1 (by omega)]at S3;exact S3,by rw[z1 (by omega)]at S4;exact S4⟩
    |exact⟨_,rfl,_,rfl,_,rfl,by omega,by omega,by omega,hm,by omega,by rw[z2 _ (by omega)]at S3;exact S3,by rw[z2 _ (by omega)]at S4;exact S4⟩
    |exact⟨_,rfl,_,rfl,_,rfl,by omega,by omega,by omega,hm,by omega,by rw[z1 (by omega),z2 _ (by omega)]at S3;exact S3,by rw[z1 (by omega),z2 _ (by omega)]at S4;exact S4⟩
    |(refine⟨_,rfl,_,rfl,fun y hy b' hb'=> ?_⟩
      rw[<-hst]
      first
        |exact BP _
        |(rw[z1 (by omega)];exact BP _)
        |(rw[z2 _ (by omega)];exact BP _)
        |(rw[z3 _ (by omega)];exact BP _)
        |(rw[z1 (by omega),z2 _ (by omega)];exact BP _)
        |(rw[z1 (by omega),z3 _ (by omega)];exact BP _)
        |(rw[z2 _ (by omega),z3 _ (by omega)];exact BP _)
        |(rw[z1 (by omega),z2 _ (by omega),z3 _ (by omega)];exact BP _))
end Go.Proofs.YtlieoghhkioflaaGreat
