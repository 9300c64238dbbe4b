/- The closures that compare for the sort. No condition. -/
import Derived.Test.YtlieoghhkioflaaGreatSoD
import Derived.Test.YtlieoghhkioflaaGreatSoH
import Derived.Test.YtlieoghhkioflaaGreatDCat
set_option linter.unusedSimpArgs false
set_option linter.unusedVariables false
set_option maxRecDepth 100000
namespace Go.Proofs.YtlieoghhkioflaaGreat
open Go Go.RowKit
variable{G:Nat->Option (Nat×(Nat->Ad))}
def XH(a b:Int):Int:=if a<b then-1 else if b<a then 1 else 0
theorem Un{a b:Int}(h:XH a b=0):a=b:=by
 unfold XH at h
 split at h
 ·cases h
 split at h
 ·cases h
 omega
noncomputable def XA:As:=Cq TI TI (fun _ _=>True) fun a b=> .int .i64 (XH a b)
theorem pCI:Ah Tryz.prog G 92 XA:=by
 refine Kq mixed (S:=[]) (I:=[(113,Y7)]) .nil (.cons Tryz.func113 Ach .nil) Tryz.func92 c92 fun a b _ hw=> ?_
 simp only[A3,a92,Y7,↓reduceIte,reduceCtorEq,Nat.reduceEqDiff,Int.reduceNeg,go_sem]
 refine⟨fun h=>by unfold XH;rw[if_pos h],fun h=>⟨fun h2=>by unfold XH;rw[if_neg h,if_pos h2],fun h2=>by unfold XH;rw[if_neg h,if_neg h2]⟩⟩
noncomputable def sR2:As:=Ak (Ag Sf AZ) (fun _=>True) fun a=> .int .i64 a.1.day
noncomputable def sR3:As:=Ak (Ag Sf AZ) (fun _=>True) fun a=> .int .i64 a.1.id
noncomputable def sS1:As:=Ak (Ag THs AZ) (fun _=>True) fun a=> .int .i64 a.1.who
theorem pR2:Ah Tryz.prog G 100 sR2:=by
 refine Ij mixed (S:=[]) (I:=[]) (X:=[]) (N:=[]) (C:=[]) .nil .nil .nil Tryz.func100 AcM fun a _ hw=> ?_
 simp only[Aa8,Ag,AZ,↓reduceIte,reduceCtorEq,Nat.reduceEqDiff,Nat.reduceAdd,Nat.reduceLeDiff,go_sem]
theorem pR3:Ah Tryz.prog G 101 sR3:=by
 refine Ij mixed (S:=[]) (I:=[]) (X:=[]) (N:=[]) (C:=[]) .nil .nil .nil Tryz.func101 Acg fun a _ hw=> ?_
 simp only[Abl,Ag,AZ,↓reduceIte,reduceCtorEq,Nat.reduceEqDiff,Nat.reduceAdd,Nat.reduceLeDiff,go_sem]
theorem pS1:Ah Tryz.prog G 56 sS1:=by
 refine Ij mixed (S:=[]) (I:=[]) (X:=[]) (N:=[]) (C:=[]) .nil .nil .nil Tryz.func56 c56 fun a _ hw=> ?_
 simp only[a56,Ag,AZ,↓reduceIte,reduceCtorEq,Nat.reduceEqDiff,Nat.reduceAdd,Nat.reduceLeDiff,go_sem]
theorem Acb:Ah Tryz.prog G 118 Ig:=by
 refine AbJ (X:=[]) mixed (S:=[(92,XA),(100,sR2),(101,sR3)]) (I:=[]) (.cons pCI (.cons pR2 (.cons pR3 .nil))) .nil .nil Tryz.func118 AbY fun x y u _ hw=> ?_
 simp only[OR,Aah,Ea,YI,↓reduceIte,reduceCtorEq,Nat.reduceEqDiff,Nat.reduceAdd,Nat.reduceSub,Nat.reduceLeDiff,Nat.reducePow,go_sem]
 refine AS (ι:=Nat) (fun t=>t<=2/\(1<=t->x.day=y.day)/\(2<=t->x.id=y.id)) (fun t=>2-t) [2,3,4,9,10] (fun t=>[(11,.int .i64 t)]) (fun _=>[]) 0 ⟨by omega,by omega,by omega⟩ (by simp only[↓reduceIte,reduceCtorEq,Nat.reduceEqDiff,Nat.reduceLT,go_sem];try trivial) fun t ht=> ?_
 obtain⟨t0,t1,t2⟩:=ht
 rcases(by omega:t=0\/t=1\/t=2)with rfl|rfl|rfl
 ·simp only[XA,sR2,sR3,Ak,Ag,AZ,↓reduceIte,reduceCtorEq,Nat.reduceEqDiff,Nat.reduceAdd,Int.reduceToNat,Int.reduceLT,Int.reduceLE,Int.reduceAdd,go_sem]
  refine⟨fun h=> ?_,fun h=>Af 1 ⟨by omega,fun _=>Un h,by omega⟩ (by omega) (by simp only[show IntKind.i64.wrap 1=((1:Nat):Int)from rfl,↓reduceIte,reduceCtorEq,Nat.reduceEqDiff,Nat.reduceLT,go_sem])⟩
  congr 1
  unfold XH at h⊢
  unfold XB
  by_cases e1:x.day<y.day
  ·rw[if_pos e1,if_pos (show Bm x y from by unfold Bm;omega)]
  by_cases e2:y.day<x.day
  ·rw[if_neg e1,if_pos e2,if_neg (show¬Bm x y from by unfold Bm;omega),if_pos (show Bm y x from by unfold Bm;omega)]
  rw[if_neg e1,if_neg e2]at h;exact absurd rfl h
 ·have t3:=t1 (Nat.le_refl _)
  simp only[XA,sR2,sR3,Ak,Ag,AZ,↓reduceIte,reduceCtorEq,Nat.reduceEqDiff,Nat.reduceAdd,Nat.reduceSub,Int.reduceToNat,Int.reduceLT,Int.reduceLE,Int.reduceAdd,go_sem]
  refine⟨fun h=> ?_,fun h=>Af 2 ⟨by omega,fun _=>t3,fun _=>Un h⟩ (by omega) (by simp only[show IntKind.i64.wrap 2=((2:Nat):Int)from rfl,↓reduceIte,reduceCtorEq,Nat.reduceEqDiff,Nat.reduceLT,go_sem])⟩
  congr 1
  unfold XH at h⊢
  unfold XB
  by_cases e1:x.id<y.id
  ·rw[if_pos e1,if_pos (show Bm x y from by unfold Bm;omega)]
  by_cases e2:y.id<x.id
  ·rw[if_neg e1,if_pos e2,if_neg (show¬Bm x y from by unfold Bm;omega),if_pos (show Bm y x from by unfold Bm;omega)]
  rw[if_neg e1,if_neg e2]at h;exact absurd rfl h
 have t3:=t1 (by omega)
 have t4:=t2 (Nat.le_refl _)
 simp only[XA,sR2,sR3,Ak,Ag,AZ,↓reduceIte,reduceCtorEq,Nat.reduceEqDiff,Nat.reduceSub,Int.reduceLT,go_sem]
 congr 1
 unfold XB
 rw[if_neg (show¬Bm x y from by unfold Bm;omega),if_neg (show¬Bm y x from by unfold Bm;omega)]
theorem Acw:Ah Tryz.prog G 91 Ia:=by
 refine AbJ (X:=[]) mixed (S:=[(92,XA),(56,sS1)]) (I:=[]) (.cons pCI (.cons pS1 .nil)) .nil .nil Tryz.func91 c91 fun x y u _ hw=> ?_
 simp only[OR,a91,D8,YL,↓reduceIte,reduceCtorEq,Nat.reduceEqDiff,Nat.reduceAdd,Nat.reduceSub,Nat.reduceLeDiff,Nat.reducePow,go_sem]
 refine AS (ι:=Nat) (fun t=>t<=1/\(1<=t->x.who=y.who)) (fun t=>1-t) [2,3,4,9,10] (fun t=>[(11,.int .i64 t)]) (fun _=>[]) 0 ⟨by omega,by omega⟩ (by simp only[↓reduceIte,reduceCtorEq,Nat.reduceEqDiff,Nat.reduceLT,go_sem];try trivial) fun t ht=> ?_
 obtain⟨t0,t1⟩:=ht
 rcases(by omega:t=0\/t=1)with rfl|rfl
 ·simp only[XA,sS1,Ak,Ag,AZ,↓reduceIte,reduceCtorEq,Nat.reduceEqDiff,Nat.reduceAdd,Int.reduceToNat,Int.reduceLT,Int.reduceLE,Int.reduceAdd,go_sem]
  refine⟨fun h=> ?_,fun h=>Af 1 ⟨by omega,fun _=>Un h⟩ (by omega) (by simp only[show IntKind.i64.wrap 1=((1:Nat):Int)from rfl,↓reduceIte,reduceCtorEq,Nat.reduceEqDiff,Nat.reduceLT,go_sem])⟩
  congr 1
 have t3:=t1 (by omega)
 simp only[XA,sS1,Ak,Ag,AZ,↓reduceIte,reduceCtorEq,Nat.reduceEqDiff,Nat.reduceSub,Int.reduceLT,go_sem]
 congr 1
 unfold XB
 rw[if_neg (show¬C9 x y from by unfold C9;omega),if_neg (show¬C9 y x from by unfold C9;omega)]
end Go.Proofs.YtlieoghhkioflaaGreat
namespace Go.Proofs.YtlieoghhkioflaaGreat
open Go Go.RowKit
variable{G:Nat->Option (Nat×(Nat->Ad))}
theorem XJ{d e0 e:Nat->De}{s n t p q:Nat}(h0:L9 Du d s n e0)(h:GJ Du d (2*s) n t e0 e)(x1:p=2*s*t)(hq:q=min (p+2*s) n)(hp:p+s<q):EO Du (A6 e p (p+s))/\EO Du (A6 e (p+s) q):=by
 subst x1
 have ea:s*(2*t)=2*s*t:=by rw[<-Nat.mul_assoc,Nat.mul_comm s 2]
 have eb:s*(2*t+1)=2*s*t+s:=by rw[Nat.mul_succ,ea]
 have s1:=h0.A (2*t) (by rw[ea];omega)
 have s2:=h0.A (2*t+1) (by rw[eb];omega)
 rw[ea,show min (2*s*t+s) n=2*s*t+s by omega]at s1
 rw[eb,show min (2*s*t+s+s) n=q by omega]at s2
 have hb:∀i,2*s*t<=i->e i=e0 i:=fun i hi=>h.B i (.inl hi)
 rw[Cu (d:=e) (e:=e0) fun i i1 _=>hb i i1,Cu (d:=e) (e:=e0) (a:=2*s*t+s) fun i i1 _=>hb i (by omega),s1,s2]
 exact⟨DT IZ _,DT IZ _⟩
noncomputable def YJ:As:=Ak (Ag (Dv Gq) (Ag TI (Ag (C8 Dx) AZ))) (fun a=>a.2.1=a.1.1/\a.1.1<=100000) fun a=> .view 9 a.1.1 fun i j=>(B5 a.1.2 0 (AH Du (A6 a.1.2 0 a.1.1)) i).c j
set_option maxHeartbeats 8000000 in
theorem Acv(hC:Ah Tryz.prog G 118 Ig):Cy Tryz.prog G 137 0 YJ:=by
 refine QA (S:=[]) (I:=[]) (X:=[(155,0,Xv),(156,0,Oj 100000)]) (N:=[]) (C:=[]) (R:=Gq) (t:=Ag TI (Ag (C8 Dx) AZ)) mixed .nil .nil (.cons (AbZ hC) (.cons (Acq hC 100000) .nil)) Tryz.func137 Ac9 rfl fun d b e0 hp hw hn=> ?_
 obtain⟨n,d⟩:=d
 obtain⟨n',cm,u⟩:=b
 obtain⟨hn',hm⟩:=hp
 have hm:n<=100000:=hm
 have hn':n'=(n:Int):=hn'
 subst hn'
 simp only[Aab,Ag,AZ,Dx,Ea,↓reduceIte,Nat.reduceEqDiff,Nat.reduceAdd,go_sem]
 refine AS (ι:=Nat×(Nat->De)) (fun s=>20*s.1<=n/\GJ Du d 20 n s.1 d s.2) (fun s=>n-20*s.1) [0,1,2,6] (fun s=>[(7,.int .i64 ((20*s.1:Nat):Int)),(8,.int .i64 ((20*s.1+20:Nat):Int))]) (fun s=>[(0,.row e0 9 n fun i j=>(s.2 i).c j)]) (0,d) ⟨by show 20*0<=n;omega,GJ.zero d 20 n d⟩ (by
  simp only[Nat.mul_zero,Nat.zero_add,Int.ofNat_zero,↓reduceIte,reduceCtorEq,Nat.reduceEqDiff,Nat.reduceLT,go_sem]
  try trivial) fun s hs=> ?_
 obtain⟨t,e⟩:=s
 obtain⟨s1,s2⟩:=hs
 simp only at s1 s2
 have v1:IntKind.i64.wrap (((20*t+20:Nat):Int)+20)=((20*(t+1)+20:Nat):Int):=by rw[AU (by omega) (by omega)];omega
 rcases Nat.lt_or_ge n (20*t+20)with hlt|hge
 ·have f1:(((20*t+20:Nat):Int)<=(n:Int))=False:=eq_false (by omega)
  simp only[f1,Xv,Ak,Ag,AZ,Int.toNat_natCast,Dx,Ea,↓reduceIte,reduceCtorEq,Nat.reduceEqDiff,Nat.reduceAdd,go_sem]
  refine⟨⟨_,rfl,_,rfl,s1,Nat.le_refl _,hm⟩,?_⟩
  have hF:=(s2.ins (q:=n) (by omega) s1).full (by omega) fun y _=>rfl
  refine AS (ι:=Nat×(Nat->De)) (fun s=>0<s.1/\s.1<=200000/\L9 Du d s.1 n s.2) (fun s=>n-s.1) [0,1,2] (fun s=>[(6,.int .i64 (s.1:Int))]) (fun s=>[(0,.row e0 9 n fun i j=>(s.2 i).c j)]) (20,B5 e (20*t) (AH Du (A6 e (20*t) n))) ⟨by show 0<20;omega,by show 20<=200000;omega,hF⟩ (by
   simp only[↓reduceIte,reduceCtorEq,Nat.reduceEqDiff,Nat.reduceLT,go_sem]
   try trivial) fun s hs=> ?_
  clear hF s2 s1 v1 f1 hlt
  obtain⟨s,e1⟩:=s
  obtain⟨s1,s2,s3⟩:=hs
  simp only at s1 s2 s3
  rcases Nat.lt_or_ge s n with hsn|hsn
  ·have f1:((s:Int)<(n:Int))=True:=eq_true (by omega)
   have v2:IntKind.i64.wrap (2*(s:Int))=((2*s:Nat):Int):=by rw[AU (by omega) (by omega)];omega
   have v3:IntKind.i64.wrap ((s:Int)*2)=((2*s:Nat):Int):=by rw[AU (by omega) (by omega)];omega
   simp only[f1,v2,↓reduceIte,reduceCtorEq,Nat.reduceEqDiff,go_sem]
   refine AS (ι:=Nat×Nat×(Nat->De)) (fun x=>x.2.1=2*s*x.1/\x.2.1<=n/\GJ Du d (2*s) n x.1 e1 x.2.2) (fun x=>n-x.2.1) [0,1,2,6] (fun x=>[(7,.int .i64 ((x.2.1:Nat):Int)),(8,.int .i64 ((x.2.1+2*s:Nat):Int))]) (fun x=>[(0,.row e0 9 n fun i j=>(x.2.2 i).c j)]) (0,0,e1) ⟨rfl,Nat.zero_le _,GJ.zero d (2*s) n e1⟩ (by
    simp only[Nat.zero_add,Int.ofNat_zero,↓reduceIte,reduceCtorEq,Nat.reduceEqDiff,Nat.reduceLT,go_sem]
    try trivial) fun x hx=> ?_
   obtain⟨t,p,e⟩:=x
   obtain⟨x1,x2,x3⟩:=hx
   simp only at x1 x2 x3
   have v4:IntKind.i64.wrap (((p+2*s:Nat):Int)+((2*s:Nat):Int))=((p+2*s+2*s:Nat):Int):=by rw[AU (by omega) (by omega)];omega
   have v5:IntKind.i64.wrap ((p:Int)+(s:Int))=((p+s:Nat):Int):=by rw[AU (by omega) (by omega)];omega
   have mS:2*s*(t+1)=p+2*s:=by rw[Nat.mul_succ,<-x1]
   rcases Nat.lt_or_ge n (p+2*s)with hlt|hge
   ·have f2:(((p+2*s:Nat):Int)<=(n:Int))=False:=eq_false (by omega)
    simp only[f2,v3,v5,↓reduceIte,reduceCtorEq,Nat.reduceEqDiff,Nat.reduceAdd,go_sem]
    refine⟨fun h4=> ?_,fun h4=> ?_⟩
    ·have hM:=GJ.mrg IZ s3 x3 (q:=n) (by omega) (by omega)
     rw[<-x1]at hM
     obtain⟨S1,S2⟩:=XJ s3 x3 x1 (q:=n) (by omega) (by omega)
     simp only[Oj,Ak,Ag,AZ,Int.toNat_natCast,v3,Dx,Ea,↓reduceIte,reduceCtorEq,Nat.reduceEqDiff,Nat.reduceAdd,go_sem]
     refine⟨⟨_,rfl,_,rfl,_,rfl,by omega,by omega,Nat.le_refl _,hm,by omega,S1,S2⟩,Af (2*s,B9 Du e p (p+s) n) ⟨by show 0<2*s;omega,by show 2*s<=200000;omega,hM.full (by omega) s3.B⟩ (by show n-2*s<n-s;omega) ?_⟩
     simp only[↓reduceIte,reduceCtorEq,Nat.reduceEqDiff,Nat.reduceLT,go_sem]
    have hM:=GJ.rest s3 x3 (by omega) (by omega)
    refine Af (2*s,e) ⟨by show 0<2*s;omega,by show 2*s<=200000;omega,hM.full (by omega) s3.B⟩ (by show n-2*s<n-s;omega) ?_
    simp only[↓reduceIte,reduceCtorEq,Nat.reduceEqDiff,Nat.reduceLT,go_sem]
   have f2:(((p+2*s:Nat):Int)<=(n:Int))=True:=eq_true (by omega)
   simp only[f2,v2,v4,v5,Oj,Ak,Ag,AZ,Int.toNat_natCast,Dx,Ea,↓reduceIte,reduceCtorEq,Nat.reduceEqDiff,Nat.reduceAdd,go_sem]
   have hM:=GJ.mrg IZ s3 x3 (q:=p+2*s) (by omega) (by omega)
   rw[<-x1]at hM
   obtain⟨S1,S2⟩:=XJ s3 x3 x1 (q:=p+2*s) (by omega) (by omega)
   refine⟨⟨_,rfl,_,rfl,_,rfl,by omega,by omega,hge,hm,by omega,S1,S2⟩,Af (t+1,p+2*s,B9 Du e p (p+s) (p+2*s)) ⟨mS.symm,hge,hM⟩ (by show n-(p+2*s)<n-p;omega) ?_⟩
   simp only[↓reduceIte,reduceCtorEq,Nat.reduceEqDiff,Nat.reduceLT,go_sem]
  have f1:((s:Int)<(n:Int))=False:=eq_false (by omega)
  have hd:=s3.done hsn
  simp only[f1,↓reduceIte,reduceCtorEq,Nat.reduceEqDiff,go_sem]
  rw[<-hd]
  exact⟨_,rfl,_,rfl,fun _ _ _ _=>BP _⟩
 have f1:(((20*t+20:Nat):Int)<=(n:Int))=True:=eq_true (by omega)
 simp only[f1,v1,Xv,Ak,Ag,AZ,Int.toNat_natCast,Dx,Ea,↓reduceIte,reduceCtorEq,Nat.reduceEqDiff,Nat.reduceAdd,go_sem]
 refine⟨⟨_,rfl,_,rfl,by omega,hge,hm⟩,Af (t+1,B5 e (20*t) (AH Du (A6 e (20*t) (20*t+20)))) ⟨by show 20*(t+1)<=n;omega,s2.ins (by omega) s1⟩ (by show n-20*(t+1)<n-20*t;omega) ?_⟩
 simp only[show 20*t+20=20*(t+1) by omega,↓reduceIte,reduceCtorEq,Nat.reduceEqDiff,Nat.reduceLT,go_sem]
end Go.Proofs.YtlieoghhkioflaaGreat
namespace Go.Proofs.YtlieoghhkioflaaGreat
open Go Go.RowKit
variable{G:Nat->Option (Nat×(Nat->Ad))}
noncomputable def Ye:As:=Ak (Ag (Dv Gq) (Ag (C8 Dx) AZ)) (fun a=>a.1.1<=100000) fun a=> .view 9 a.1.1 fun i j=>(B5 a.1.2 0 (AH Du (A6 a.1.2 0 a.1.1)) i).c j
theorem Acr(hC:Ah Tryz.prog G 118 Ig):Cy Tryz.prog G 117 0 Ye:=by
 refine QA (S:=[]) (I:=[]) (X:=[(137,0,YJ)]) (N:=[]) (C:=[]) (R:=Gq) (t:=Ag (C8 Dx) AZ) mixed .nil .nil (.cons (Acv hC) .nil) Tryz.func117 Ace rfl fun d b e0 hp hw hn=> ?_
 obtain⟨n,d⟩:=d
 obtain⟨cm,u⟩:=b
 have hm:n<=100000:=hp
 simp only[AbA,YJ,Ak,Ag,AZ,Dx,Ea,↓reduceIte,reduceCtorEq,Nat.reduceEqDiff,Nat.reduceAdd,go_sem]
 exact⟨hm,_,rfl,_,rfl,fun _ _ _ _=>BP _⟩
end Go.Proofs.YtlieoghhkioflaaGreat
namespace Go.Proofs.YtlieoghhkioflaaGreat
open Go Go.RowKit
variable{G:Nat->Option (Nat×(Nat->Ad))}
noncomputable def US:As:=Ak (Ag (Dv IY) AZ) (fun a=>a.1.1<=1000) fun a=> .view 2 a.1.1 fun i j=>(a.1.2 i).c j
theorem Aat:Ah Tryz.prog G 98 US:=by
 refine Ij mixed (S:=[]) (I:=[]) (X:=[]) (N:=[]) (C:=[]) .nil .nil .nil Tryz.func98 c98 fun a hp hw=> ?_
 obtain⟨l,u⟩:=a
 simp only[a98,Ag,AZ,↓reduceIte,reduceCtorEq,Nat.reduceEqDiff,Nat.reduceAdd,Nat.reduceSub,Nat.reduceLT,Nat.reducePow,go_sem]
 have hl:l.1<=1000:=hp
 refine fun _ t ht=>⟨fun h=> ?_,fun _ _=>⟨by omega,by omega,fun i _ j _=>by rw[if_neg (by omega)];exact BP _⟩⟩
 have:=fun k=>ht k
 rcases Nat.eq_zero_or_pos l.1 with h0|h0
 ·exact h0
 rw[ht h0]at h;cases h
noncomputable def ckI(r:Ro):Int:=if A8 (EL r)=true then 0 else 40
noncomputable def WG:As:=Dr KC (fun _=>True) fun r=> .int .i64 (ckI r)
theorem Acx:Ah Tryz.prog G 46 WG:=Yt
noncomputable def Kn(l:E3):Nat->List De
 |0=>[]
 |i+1=>if FY l i=true then Kn l i++[l.2 i]else Kn l i
theorem JN(l:E3):∀t,AH Du (Kn l t)=Bo l t
 |0=>rfl
 |t+1=>by
  rw[Kn,Bo]
  split
  ·rw[Cf,JN l t]
   have:∀(x:De) (L:List De),C4 Du x L=GD x L:=fun x L=>by
    induction L with
    |nil=>rfl
    |cons y L ih=>
     rw[C4,GD,ih]
     by_cases h:Bm x y
     ·rw[if_pos h,if_pos (decide_eq_true h)]
     rw[if_neg h,if_neg (by show¬decide (Bm x y)=true;rw[decide_eq_false h];exact Bool.false_ne_true)]
   exact this _ _
  exact JN l t
theorem Ri{a b c:De}(h1:Bz a c)(h2:Bz b c):Bz a b:=by
 obtain⟨p1,p2,p3,p4,p5,p6,p7,p8,p9⟩:=h1
 obtain⟨q1,q2,q3,q4,q5,q6,q7,q8,q9⟩:=h2
 exact⟨p1.trans q1.symm,p2.trans q2.symm,p3.trans q3.symm,p4.trans q4.symm,p5.trans q5.symm,p6.trans q6.symm,p7.trans q7.symm,p8.trans q8.symm,fun i hi=>(p9 i hi).trans (q9 i (by omega)).symm⟩
theorem Xf(L:List De)(x:De){i:Nat}(h:i<L.length):lD (L++[x]) i=lD L i:=by
 simp only[lD,List.getD_eq_getElem?_getD,List.getElem?_append,if_pos h]
theorem Ws(L:List De)(x:De):lD (L++[x]) L.length=x:=by
 simp[lD,List.getD_eq_getElem?_getD]
theorem TJ{p:Nat->Prop}{t:Nat}(h:∃i,i<t/\p i):Co p (t+1)=Co p t:=by
 rcases Bi p t with⟨h1,h2,h3⟩|⟨_,h2⟩
 ·exact C5 (by omega) h2 h3
 obtain⟨i,hi,hp⟩:=h;exact absurd hp (h2 i hi)
theorem LC(l:E3):∀t,(Kn l t).length<=t
 |0=>Nat.le_refl _
 |t+1=>by
  rw[Kn];have:=LC l t
  split
  ·rw[List.length_append];show _+1<=_;omega
  omega
noncomputable def Jp:As:=Ak (Ag KC (Ag (Dv Gq) AZ)) (fun _=>True) fun a=>if BV a.1 a.2.1=0 then .tup (.cons (.view 9 (Bo a.2.1 a.2.1.1).length fun i j=>(lD (Bo a.2.1 a.2.1.1) i).c j) (.cons (.int .i64 0) .nil))else .tup (.cons .nils (.cons (.int .i64 (BV a.1 a.2.1)) .nil))
set_option maxHeartbeats 8000000 in
theorem XN:Ah Tryz.prog G 66 Jp:=by
 refine Ij mixed (S:=[(46,WG),(96,Ln),(97,Pu),(98,US)]) (I:=[(94,a94),(114,Wi),(95,a95),(99,a99)]) (X:=[(117,0,Ye)]) (N:=[]) (C:=[]) (.cons Acx (.cons Y0 (.cons YQ (.cons Aat .nil)))) (.cons Tryz.func94 c94 (.cons Tryz.func114 Acc (.cons Tryz.func95 c95 (.cons Tryz.func99 c99 .nil)))) (.cons (Acr Acb) .nil) Tryz.func66 c66 fun a _ hw=> ?_
 obtain⟨r,l,u⟩:=a
 simp only[Ag,AZ,reduceCtorEq,Nat.reduceSub,Nat.reducePow,go_sem]at hw
 by_cases hr:EL r
 ·have ha:BV r l=C0 r l:=by unfold BV;rw[At hr];rfl
  have hck:ckI r=0:=by unfold ckI;rw[At hr,if_pos rfl]
  simp only[hck,ha,Ag,AZ,a66,a94,Wi,WG,hw,↓reduceIte,reduceCtorEq,Nat.reduceEqDiff,Nat.reduceAdd,Nat.reduceSub,Int.reduceNeg,Nat.reducePow,go_sem]
  refine⟨fun h=> ?_,fun h=> ?_⟩
  ·have:C0 r l=4:=by unfold C0;rw[if_pos (by omega)]
   rw[this,if_neg (by omega)];exact BP _
  have hl:l.1<=60:=by omega
  clear h
  refine AS (ι:=Nat) (fun j=>j<=l.1/\∀i,i<j->Dn r (l.2 i)) (fun j=>l.1-j) [0,1,6,7] (fun j=>[(8,.int .i64 j)]) (fun _=>[]) 0 ⟨by omega,fun i h=>by omega⟩ (by simp only[↓reduceIte,reduceCtorEq,Nat.reduceEqDiff,Nat.reduceLT,go_sem];try rfl) fun j hj=> ?_
  obtain⟨hj1,hj2⟩:=hj
  rcases Nat.lt_or_ge j l.1 with hlt|hge
  ·have f1:((j:Int)<(l.1:Int))=True:=eq_true (by omega)
   simp only[f1,hw,Ln,a95,↓reduceIte,reduceCtorEq,Nat.reduceEqDiff,Nat.reduceAdd,Nat.reduceSub,Int.reduceNeg,Nat.reducePow,go_sem]
   have gj:((j:Int)≥0)=True:=eq_true (by omega)
   refine⟨by omega,fun _ _=>⟨hr.1,hr.2.1,fun q=> ?_,fun q=>Af (j+1) ⟨by omega,fun i hi=> ?_⟩ (by omega) (by simp only[↓reduceIte,reduceCtorEq,Nat.reduceEqDiff,Nat.reduceLT,go_sem];rw[Cs (by omega)])⟩⟩
   ·refine⟨fun _=> ?_,fun h=>absurd (show(j:Int)≥0 by omega) h⟩
    have:C0 r l=41:=by unfold C0;rw[if_neg (by omega),Am fun k=>Nn q (k j hlt)];rfl
    rw[this,if_neg (by omega)];exact BP _
   rcases Nat.lt_or_ge i j with h5|h5
   ·exact hj2 i h5
   obtain rfl:i=j:=by omega
   exact NN q
  have hv:∀i,i<l.1->Dn r (l.2 i):=fun i hi=>hj2 i (by omega)
  have f1:((j:Int)<(l.1:Int))=False:=eq_false (by omega)
  have gm:((-1:Int)≥0)=False:=eq_false (by omega)
  simp only[f1,gm,hw,Ln,a95,↓reduceIte,reduceCtorEq,Nat.reduceEqDiff,Nat.reduceAdd,Nat.reduceSub,Int.reduceNeg,Nat.reducePow,go_sem]
  clear f1 gm hj1 hj2 hge j
  have hd0:C0 r l=if A8 (∀i,i<l.1->∀k,k<i->(l.2 i).id=(l.2 k).id->Bz (l.2 i) (l.2 k))=true then 0 else 42:=by unfold C0;rw[if_neg (by omega),At hv];rfl
  refine Hu (ι:=Nat) (fun t=>t<=l.1/\∀i,i<t->∀k,k<i->(l.2 i).id=(l.2 k).id->Bz (l.2 i) (l.2 k)) (fun t=>l.1-t) [1,2,7,25,26] (fun t=>[(8,.own (.n 2)),(27,.int .i64 t)]) (fun t=>[(1,.mp .i64 (fun k=>A8 (∃i,i<t/\(l.2 i).id=k)) fun k=> .agg (l.2 (Co (fun i=>(l.2 i).id=k) t)).L),(2,.row 56 9 (Kn l t).length fun i b=>(lD (Kn l t) i).c b)]) 1 0 ⟨by omega,fun i h=>by omega⟩ (by
   simp only[Kn,List.length_nil,↓reduceIte,reduceCtorEq,Nat.reduceEqDiff,Nat.reduceAdd,Nat.reduceLT,go_sem]
   exact fun k=>Am fun⟨i,h,_⟩=>by omega) fun t ht=> ?_
  obtain⟨ht1,ht2⟩:=ht
  rcases Nat.lt_or_ge t l.1 with hlt|hge
  ·have f1:((t:Int)<(l.1:Int))=True:=eq_true (by omega)
   by_cases hn:∃i,i<t/\(l.2 i).id=(l.2 t).id
   ·have e1:A8 (∃i,i<t/\(l.2 i).id=(l.2 t).id)=true:=At hn
    obtain⟨q1,q2,q3⟩:Co (fun i=>(l.2 i).id=(l.2 t).id) t<t/\(l.2 (Co (fun i=>(l.2 i).id=(l.2 t).id) t)).id=(l.2 t).id/\∀j,j<Co (fun i=>(l.2 i).id=(l.2 t).id) t->¬(l.2 j).id=(l.2 t).id:=by
     rcases Bi (fun i=>(l.2 i).id=(l.2 t).id) t with h|⟨_,h⟩
     ·exact h
     obtain⟨i,hi,hp⟩:=hn;exact absurd hp (h i hi)
    simp only[f1,e1,Pu,↓reduceIte,reduceCtorEq,Nat.reduceEqDiff,Nat.reduceAdd,Nat.reduceSub,Nat.reduceLeDiff,Nat.reduceLT,Int.reduceNeg,Nat.reducePow,go_sem]
    refine⟨by omega,fun _ _ _ _ _ _=>⟨fun h4=> ?_,fun h4=> ?_⟩⟩
    ·have h42:C0 r l=42:=by rw[hd0,Am fun k=>Nn h4 (k t hlt _ q1 q2.symm)];rfl
     rw[h42,if_neg (by omega)];exact BP _
    have hS:=NN h4
    have oE:Kn l (t+1)=Kn l t:=by
     have:FY l t=false:=Am fun k=>by obtain⟨i,hi,he⟩:=hn;exact k i hi he
     rw[Kn,this];rfl
    have hE:∀k,A8 (∃i,i<t+1/\(l.2 i).id=k)=A8 (∃i,i<t/\(l.2 i).id=k):=fun k=>EA ⟨fun⟨i,h1,h2⟩=>by
     by_cases h3:i=t
     ·subst h3
      obtain⟨p,h5,h6⟩:=hn
      exact⟨p,h5,h6.trans h2⟩
     exact⟨i,by omega,h2⟩,fun⟨i,h1,h2⟩=>⟨i,by omega,h2⟩⟩
    refine Af (t+1) ⟨by omega,fun i hi k hk he=> ?_⟩ (by omega) ?_
    ·rcases Nat.lt_or_ge i t with h5|h5
     ·exact ht2 i h5 k hk he
     obtain rfl:i=t:=by omega
     by_cases h6:Co (fun j=>(l.2 j).id=(l.2 i).id) i=k
     ·rw[<-h6];exact hS
     have h7:Co (fun j=>(l.2 j).id=(l.2 i).id) i<k:=by
      apply Classical.byContradiction
      intro h8
      exact q3 k (by omega) he.symm
     exact Ri hS (ht2 k hk _ h7 (he.symm.trans q2.symm))
    simp only[oE,hE,↓reduceIte,reduceCtorEq,Nat.reduceEqDiff,Nat.reduceLT,go_sem]
    rw[Cs (by omega)]
    refine⟨rfl,fun k hk=> ?_⟩
    rw[TJ (AM.1 hk)]
    exact⟨rfl,rfl,rfl,rfl,rfl,rfl,rfl,rfl,rfl,fun i _ j _=>BP _⟩
   have e1:A8 (∃i,i<t/\(l.2 i).id=(l.2 t).id)=false:=Am hn
   have hhr:(l.2 t).heirs.1<=8:=by
    rcases(hv t hlt).2.2.2.2.2.2 with h|h|h|h
    ·have:=h.2.2.2.2;omega
    ·have:=h.2.2.2.2;omega
    ·exact h.2.1.2.1
    have:=h.2.2.2.2.2;omega
   have hol:=LC l t
   simp only[f1,e1,US,Ak,Ag,AZ,↓reduceIte,reduceCtorEq,Nat.reduceEqDiff,Nat.reduceAdd,Nat.reduceSub,Nat.reduceLeDiff,Nat.reduceLT,Int.reduceNeg,Nat.reducePow,go_sem]
   refine⟨by omega,fun _ _=>⟨by omega,fun _ _ _=>⟨by omega,by omega,?_⟩⟩⟩
   have oE:Kn l (t+1)=Kn l t++[l.2 t]:=by
    have:FY l t=true:=At fun k hk he=>hn ⟨k,hk,he⟩
    rw[Kn,this];rfl
   refine Af (t+1) ⟨by omega,fun i hi k hk he=> ?_⟩ (by omega) ?_
   ·rcases Nat.lt_or_ge i t with h5|h5
    ·exact ht2 i h5 k hk he
    obtain rfl:i=t:=by omega
    exact absurd ⟨k,hk,he.symm⟩ hn
   simp only[oE,List.length_append,List.length_singleton,↓reduceIte,reduceCtorEq,Nat.reduceEqDiff,Nat.reduceLT,go_sem]
   rw[Cs (by omega)]
   refine⟨rfl,fun k=>⟨?_,fun hk=> ?_⟩,?_⟩
   ·by_cases e:k=(l.2 t).id
    ·rw[if_pos e];exact At ⟨t,by omega,e.symm⟩
    rw[if_neg e]
    exact EA ⟨fun⟨i,h1,h2⟩=>⟨i,by
     have:i≠t:=fun h=>e (by rw[<-h2,h])
     omega,h2⟩,fun⟨i,h1,h2⟩=>⟨i,by omega,h2⟩⟩
   ·by_cases e:k=(l.2 t).id
    ·have fE:Co (fun i=>(l.2 i).id=k) (t+1)=t:=C5 (by omega) e.symm fun j hj h=>hn ⟨j,hj,h.trans e⟩
     rw[if_pos e]
     simp only[fE,go_sem]
    rw[if_neg e]at hk⊢
    have fE:=TJ (AM.1 hk)
    simp only[fE,go_sem]
   intro i hi j hj
   by_cases e:i<(Kn l t).length
   ·rw[if_pos e,Xf _ _ e];exact BP _
   obtain rfl:i=(Kn l t).length:=by omega
   rw[if_neg e,Nat.sub_self,Ws]
   show AB _ (Az (l.2 t).L j)
   rw[Fz _ j hj];exact BP _
  have f1:((t:Int)<(l.1:Int))=False:=eq_false (by omega)
  simp only[f1,a99,Ye,Ak,Ag,AZ,Dx,Ea,YI,↓reduceIte,reduceCtorEq,Nat.reduceEqDiff,Nat.reduceAdd,Nat.reduceLT,Int.reduceNeg,go_sem]
  obtain rfl:t=l.1:=by omega
  have hol:=LC l l.1
  have hdn:C0 r l=0:=by rw[hd0,At ht2];rfl
  have hdo:=JN l l.1
  have hle:(Kn l l.1).length=(Bo l l.1).length:=by rw[<-hdo,Dt]
  have hsg:A6 (fun i=>lD (Kn l l.1) i) 0 (Kn l l.1).length=Kn l l.1:=by
   apply List.ext_getElem?
   intro i
   rw[Bj]
   split
   ·rename_i h;rw[Nat.zero_add,List.getElem?_eq_getElem (by omega)];unfold lD;rw[List.getD_eq_getElem?_getD,List.getElem?_eq_getElem (by omega)];rfl
   rw[List.getElem?_eq_none (by omega)]
  refine⟨by omega,?_⟩
  rw[hdn,if_pos rfl,hsg,hdo,hle]
  simp only[go_sem]
  intro i hi j hj
  rw[Cz,if_pos ⟨Nat.zero_le _,by omega⟩]
  have:(Bo l l.1).getD (i-0) (lD (Kn l l.1) i)=lD (Bo l l.1) i:=by
   simp only[lD,Nat.sub_zero,List.getD_eq_getElem?_getD,List.getElem?_eq_getElem (show i<(Bo l l.1).length by omega),Option.getD_some]
  rw[this];exact BP _
 have ha:BV r l=40:=by unfold BV;rw[Am hr];rfl
 have hck:ckI r=40:=by unfold ckI;rw[Am hr,if_neg Bool.false_ne_true]
 have h40:((40:Int)=0)=False:=eq_false (by omega)
 simp only[hck,ha,h40,Ag,AZ,a66,a94,Wi,WG,hw,↓reduceIte,reduceCtorEq,Nat.reduceEqDiff,Nat.reduceAdd,Nat.reduceSub,Int.reduceNeg,Int.reduceBNe,Nat.reducePow,go_sem]
end Go.Proofs.YtlieoghhkioflaaGreat
