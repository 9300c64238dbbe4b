/- The closures that compare for the sort. No condition. -/
import Derived.Test.YtlieoghhkioflaaGreatSoD
import Derived.Test.YtlieoghhkioflaaGreatSoH
import Derived.Test.YtlieoghhkioflaaGreatDCat
set_option linter.unusedSimpArgs false
set_option linter.unusedVariables false
set_option maxRecDepth 100000
namespace Go.Proofs.YtlieoghhkioflaaGreat
open Go Go.RowKit
variable{G:Nat->Option (Nat×(Nat->Ad))}
def Xe(a b:Int):Int:=if a<b then-1 else if b<a then 1 else 0
theorem S8{a b:Int}(h:Xe a b=0):a=b:=by
 unfold Xe at h
 split at h
 ·cases h
 split at h
 ·cases h
 omega
noncomputable def Xf:At:=CY TI TI (fun _ _=>True) fun a b=> .int .i64 (Xe a b)
theorem pCI:Ai Tryz.prog G 92 Xf:=by
 refine OX mixed (S:=[]) (I:=[(113,Zp)]) .nil (.cons Tryz.func113 Acx .nil) Tryz.func92 c92 fun a b _ hw=> ?_
 simp only[A9,a92,Zp,↓reduceIte,reduceCtorEq,Nat.reduceEqDiff,Int.reduceNeg,go_sem]
 refine⟨fun h=>by unfold Xe;rw[if_pos h],fun h=>⟨fun h2=>by unfold Xe;rw[if_neg h,if_pos h2],fun h2=>by unfold Xe;rw[if_neg h,if_neg h2]⟩⟩
noncomputable def sR2:At:=Ak (Ag Xm AY) (fun _=>True) fun a=> .int .i64 a.1.day
noncomputable def sR3:At:=Ak (Ag Xm AY) (fun _=>True) fun a=> .int .i64 a.1.id
noncomputable def sS1:At:=Ak (Ag THs AY) (fun _=>True) fun a=> .int .i64 a.1.who
theorem pR2:Ai Tryz.prog G 100 sR2:=by
 refine Ie mixed (S:=[]) (I:=[]) (X:=[]) (N:=[]) (C:=[]) .nil .nil .nil Tryz.func100 AbJ fun a _ hw=> ?_
 simp only[Aak,Ag,AY,↓reduceIte,reduceCtorEq,Nat.reduceEqDiff,Nat.reduceAdd,Nat.reduceLeDiff,go_sem]
theorem pR3:Ai Tryz.prog G 101 sR3:=by
 refine Ie mixed (S:=[]) (I:=[]) (X:=[]) (N:=[]) (C:=[]) .nil .nil .nil Tryz.func101 AbS fun a _ hw=> ?_
 simp only[AaA,Ag,AY,↓reduceIte,reduceCtorEq,Nat.reduceEqDiff,Nat.reduceAdd,Nat.reduceLeDiff,go_sem]
theorem pS1:Ai Tryz.prog G 56 sS1:=by
 refine Ie mixed (S:=[]) (I:=[]) (X:=[]) (N:=[]) (C:=[]) .nil .nil .nil Tryz.func56 c56 fun a _ hw=> ?_
 simp only[a56,Ag,AY,↓reduceIte,reduceCtorEq,Nat.reduceEqDiff,Nat.reduceAdd,Nat.reduceLeDiff,go_sem]
theorem Abx:Ai Tryz.prog G 118 HX:=by
 refine Z4 (X:=[]) mixed (S:=[(92,Xf),(100,sR2),(101,sR3)]) (I:=[]) (.cons pCI (.cons pR2 (.cons pR3 .nil))) .nil .nil Tryz.func118 Aci fun x y u _ hw=> ?_
 simp only[Oy,ZY,D6,XF,↓reduceIte,reduceCtorEq,Nat.reduceEqDiff,Nat.reduceAdd,Nat.reduceSub,Nat.reduceLeDiff,Nat.reducePow,go_sem]
 refine AX (ι:=Nat) (fun t=>t<=2/\(1<=t->x.day=y.day)/\(2<=t->x.id=y.id)) (fun t=>2-t) [2,3,4,9,10] (fun t=>[(11,.int .i64 t)]) (fun _=>[]) 0 ⟨by omega,by omega,by omega⟩ (by simp only[↓reduceIte,reduceCtorEq,Nat.reduceEqDiff,Nat.reduceLT,go_sem];try trivial) fun t ht=> ?_
 obtain⟨t0,t1,t2⟩:=ht
 rcases(by omega:t=0\/t=1\/t=2)with rfl|rfl|rfl
 ·simp only[Xf,sR2,sR3,Ak,Ag,AY,↓reduceIte,reduceCtorEq,Nat.reduceEqDiff,Nat.reduceAdd,Int.reduceToNat,Int.reduceLT,Int.reduceLE,Int.reduceAdd,go_sem]
  refine⟨fun h=> ?_,fun h=>Af 1 ⟨by omega,fun _=>S8 h,by omega⟩ (by omega) (by simp only[show IntKind.i64.wrap 1=((1:Nat):Int)from rfl,↓reduceIte,reduceCtorEq,Nat.reduceEqDiff,Nat.reduceLT,go_sem])⟩
  congr 1
  unfold Xe at h⊢
  unfold Xq
  by_cases e1:x.day<y.day
  ·rw[if_pos e1,if_pos (show Bu x y from by unfold Bu;omega)]
  by_cases e2:y.day<x.day
  ·rw[if_neg e1,if_pos e2,if_neg (show¬Bu x y from by unfold Bu;omega),if_pos (show Bu y x from by unfold Bu;omega)]
  rw[if_neg e1,if_neg e2]at h;exact absurd rfl h
 ·have t3:=t1 (Nat.le_refl _)
  simp only[Xf,sR2,sR3,Ak,Ag,AY,↓reduceIte,reduceCtorEq,Nat.reduceEqDiff,Nat.reduceAdd,Nat.reduceSub,Int.reduceToNat,Int.reduceLT,Int.reduceLE,Int.reduceAdd,go_sem]
  refine⟨fun h=> ?_,fun h=>Af 2 ⟨by omega,fun _=>t3,fun _=>S8 h⟩ (by omega) (by simp only[show IntKind.i64.wrap 2=((2:Nat):Int)from rfl,↓reduceIte,reduceCtorEq,Nat.reduceEqDiff,Nat.reduceLT,go_sem])⟩
  congr 1
  unfold Xe at h⊢
  unfold Xq
  by_cases e1:x.id<y.id
  ·rw[if_pos e1,if_pos (show Bu x y from by unfold Bu;omega)]
  by_cases e2:y.id<x.id
  ·rw[if_neg e1,if_pos e2,if_neg (show¬Bu x y from by unfold Bu;omega),if_pos (show Bu y x from by unfold Bu;omega)]
  rw[if_neg e1,if_neg e2]at h;exact absurd rfl h
 have t3:=t1 (by omega)
 have t4:=t2 (Nat.le_refl _)
 simp only[Xf,sR2,sR3,Ak,Ag,AY,↓reduceIte,reduceCtorEq,Nat.reduceEqDiff,Nat.reduceSub,Int.reduceLT,go_sem]
 congr 1
 unfold Xq
 rw[if_neg (show¬Bu x y from by unfold Bu;omega),if_neg (show¬Bu y x from by unfold Bu;omega)]
theorem AbL:Ai Tryz.prog G 91 Ig:=by
 refine Z4 (X:=[]) mixed (S:=[(92,Xf),(56,sS1)]) (I:=[]) (.cons pCI (.cons pS1 .nil)) .nil .nil Tryz.func91 c91 fun x y u _ hw=> ?_
 simp only[Oy,a91,Ea,Zj,↓reduceIte,reduceCtorEq,Nat.reduceEqDiff,Nat.reduceAdd,Nat.reduceSub,Nat.reduceLeDiff,Nat.reducePow,go_sem]
 refine AX (ι:=Nat) (fun t=>t<=1/\(1<=t->x.who=y.who)) (fun t=>1-t) [2,3,4,9,10] (fun t=>[(11,.int .i64 t)]) (fun _=>[]) 0 ⟨by omega,by omega⟩ (by simp only[↓reduceIte,reduceCtorEq,Nat.reduceEqDiff,Nat.reduceLT,go_sem];try trivial) fun t ht=> ?_
 obtain⟨t0,t1⟩:=ht
 rcases(by omega:t=0\/t=1)with rfl|rfl
 ·simp only[Xf,sS1,Ak,Ag,AY,↓reduceIte,reduceCtorEq,Nat.reduceEqDiff,Nat.reduceAdd,Int.reduceToNat,Int.reduceLT,Int.reduceLE,Int.reduceAdd,go_sem]
  refine⟨fun h=> ?_,fun h=>Af 1 ⟨by omega,fun _=>S8 h⟩ (by omega) (by simp only[show IntKind.i64.wrap 1=((1:Nat):Int)from rfl,↓reduceIte,reduceCtorEq,Nat.reduceEqDiff,Nat.reduceLT,go_sem])⟩
  congr 1
 have t3:=t1 (by omega)
 simp only[Xf,sS1,Ak,Ag,AY,↓reduceIte,reduceCtorEq,Nat.reduceEqDiff,Nat.reduceSub,Int.reduceLT,go_sem]
 congr 1
 unfold Xq
 rw[if_neg (show¬C1 x y from by unfold C1;omega),if_neg (show¬C1 y x from by unfold C1;omega)]
end Go.Proofs.YtlieoghhkioflaaGreat
namespace Go.Proofs.YtlieoghhkioflaaGreat
open Go Go.RowKit
variable{G:Nat->Option (Nat×(Nat->Ad))}
theorem Xp{d e0 e:Nat->De}{s n t p q:Nat}(h0:Mj Dh d s n e0)(h:GB Dh d (2*s) n t e0 e)(x1:p=2*s*t)(hq:q=min (p+2*s) n)(hp:p+s<q):EO Dh (A2 e p (p+s))/\EO Dh (A2 e (p+s) q):=by
 subst x1
 have ea:s*(2*t)=2*s*t:=by rw[<-Nat.mul_assoc,Nat.mul_comm s 2]
 have eb:s*(2*t+1)=2*s*t+s:=by rw[Nat.mul_succ,ea]
 have s1:=h0.A (2*t) (by rw[ea];omega)
 have s2:=h0.A (2*t+1) (by rw[eb];omega)
 rw[ea,show min (2*s*t+s) n=2*s*t+s by omega]at s1
 rw[eb,show min (2*s*t+s+s) n=q by omega]at s2
 have hb:∀i,2*s*t<=i->e i=e0 i:=fun i hi=>h.B i (.inl hi)
 rw[Cl (d:=e) (e:=e0) fun i i1 _=>hb i i1,Cl (d:=e) (e:=e0) (a:=2*s*t+s) fun i i1 _=>hb i (by omega),s1,s2]
 exact⟨DK IN _,DK IN _⟩
noncomputable def XG:At:=Ak (Ag (Du J9) (Ag TI (Ag (CZ Dt) AY))) (fun a=>a.2.1=a.1.1/\a.1.1<=100000) fun a=> .view 9 a.1.1 fun i j=>(BY a.1.2 0 (AH Dh (A2 a.1.2 0 a.1.1)) i).c j
set_option maxHeartbeats 8000000 in
theorem Ack(hC:Ai Tryz.prog G 118 HX):Cr Tryz.prog G 137 0 XG:=by
 refine Qa (S:=[]) (I:=[]) (X:=[(155,0,VG),(156,0,OY 100000)]) (N:=[]) (C:=[]) (R:=J9) (t:=Ag TI (Ag (CZ Dt) AY)) mixed .nil .nil (.cons (AbE hC) (.cons (AbX hC 100000) .nil)) Tryz.func137 AcN rfl fun d b e0 hp hw hn=> ?_
 obtain⟨n,d⟩:=d
 obtain⟨n',cm,u⟩:=b
 obtain⟨hn',hm⟩:=hp
 have hm:n<=100000:=hm
 have hn':n'=(n:Int):=hn'
 subst hn'
 simp only[ZV,Ag,AY,Dt,D6,↓reduceIte,Nat.reduceEqDiff,Nat.reduceAdd,go_sem]
 refine AX (ι:=Nat×(Nat->De)) (fun s=>20*s.1<=n/\GB Dh d 20 n s.1 d s.2) (fun s=>n-20*s.1) [0,1,2,6] (fun s=>[(7,.int .i64 ((20*s.1:Nat):Int)),(8,.int .i64 ((20*s.1+20:Nat):Int))]) (fun s=>[(0,.row e0 9 n fun i j=>(s.2 i).c j)]) (0,d) ⟨by show 20*0<=n;omega,GB.zero d 20 n d⟩ (by
  simp only[Nat.mul_zero,Nat.zero_add,Int.ofNat_zero,↓reduceIte,reduceCtorEq,Nat.reduceEqDiff,Nat.reduceLT,go_sem]
  try trivial) fun s hs=> ?_
 obtain⟨t,e⟩:=s
 obtain⟨s1,s2⟩:=hs
 simp only at s1 s2
 have v1:IntKind.i64.wrap (((20*t+20:Nat):Int)+20)=((20*(t+1)+20:Nat):Int):=by rw[AP (by omega) (by omega)];omega
 rcases Nat.lt_or_ge n (20*t+20)with hlt|hge
 ·have f1:(((20*t+20:Nat):Int)<=(n:Int))=False:=eq_false (by omega)
  simp only[f1,VG,Ak,Ag,AY,Int.toNat_natCast,Dt,D6,↓reduceIte,reduceCtorEq,Nat.reduceEqDiff,Nat.reduceAdd,go_sem]
  refine⟨⟨_,rfl,_,rfl,s1,Nat.le_refl _,hm⟩,?_⟩
  have hF:=(s2.ins (q:=n) (by omega) s1).full (by omega) fun y _=>rfl
  refine AX (ι:=Nat×(Nat->De)) (fun s=>0<s.1/\s.1<=200000/\Mj Dh d s.1 n s.2) (fun s=>n-s.1) [0,1,2] (fun s=>[(6,.int .i64 (s.1:Int))]) (fun s=>[(0,.row e0 9 n fun i j=>(s.2 i).c j)]) (20,BY e (20*t) (AH Dh (A2 e (20*t) n))) ⟨by show 0<20;omega,by show 20<=200000;omega,hF⟩ (by
   simp only[↓reduceIte,reduceCtorEq,Nat.reduceEqDiff,Nat.reduceLT,go_sem]
   try trivial) fun s hs=> ?_
  clear hF s2 s1 v1 f1 hlt
  obtain⟨s,e1⟩:=s
  obtain⟨s1,s2,s3⟩:=hs
  simp only at s1 s2 s3
  rcases Nat.lt_or_ge s n with hsn|hsn
  ·have f1:((s:Int)<(n:Int))=True:=eq_true (by omega)
   have v2:IntKind.i64.wrap (2*(s:Int))=((2*s:Nat):Int):=by rw[AP (by omega) (by omega)];omega
   have v3:IntKind.i64.wrap ((s:Int)*2)=((2*s:Nat):Int):=by rw[AP (by omega) (by omega)];omega
   simp only[f1,v2,↓reduceIte,reduceCtorEq,Nat.reduceEqDiff,go_sem]
   refine AX (ι:=Nat×Nat×(Nat->De)) (fun x=>x.2.1=2*s*x.1/\x.2.1<=n/\GB Dh d (2*s) n x.1 e1 x.2.2) (fun x=>n-x.2.1) [0,1,2,6] (fun x=>[(7,.int .i64 ((x.2.1:Nat):Int)),(8,.int .i64 ((x.2.1+2*s:Nat):Int))]) (fun x=>[(0,.row e0 9 n fun i j=>(x.2.2 i).c j)]) (0,0,e1) ⟨rfl,Nat.zero_le _,GB.zero d (2*s) n e1⟩ (by
    simp only[Nat.zero_add,Int.ofNat_zero,↓reduceIte,reduceCtorEq,Nat.reduceEqDiff,Nat.reduceLT,go_sem]
    try trivial) fun x hx=> ?_
   obtain⟨t,p,e⟩:=x
   obtain⟨x1,x2,x3⟩:=hx
   simp only at x1 x2 x3
   have v4:IntKind.i64.wrap (((p+2*s:Nat):Int)+((2*s:Nat):Int))=((p+2*s+2*s:Nat):Int):=by rw[AP (by omega) (by omega)];omega
   have v5:IntKind.i64.wrap ((p:Int)+(s:Int))=((p+s:Nat):Int):=by rw[AP (by omega) (by omega)];omega
   have mS:2*s*(t+1)=p+2*s:=by rw[Nat.mul_succ,<-x1]
   rcases Nat.lt_or_ge n (p+2*s)with hlt|hge
   ·have f2:(((p+2*s:Nat):Int)<=(n:Int))=False:=eq_false (by omega)
    simp only[f2,v3,v5,↓reduceIte,reduceCtorEq,Nat.reduceEqDiff,Nat.reduceAdd,go_sem]
    refine⟨fun h4=> ?_,fun h4=> ?_⟩
    ·have hM:=GB.mrg IN s3 x3 (q:=n) (by omega) (by omega)
     rw[<-x1]at hM
     obtain⟨S1,S2⟩:=Xp s3 x3 x1 (q:=n) (by omega) (by omega)
     simp only[OY,Ak,Ag,AY,Int.toNat_natCast,v3,Dt,D6,↓reduceIte,reduceCtorEq,Nat.reduceEqDiff,Nat.reduceAdd,go_sem]
     refine⟨⟨_,rfl,_,rfl,_,rfl,by omega,by omega,Nat.le_refl _,hm,by omega,S1,S2⟩,Af (2*s,B4 Dh e p (p+s) n) ⟨by show 0<2*s;omega,by show 2*s<=200000;omega,hM.full (by omega) s3.B⟩ (by show n-2*s<n-s;omega) ?_⟩
     simp only[↓reduceIte,reduceCtorEq,Nat.reduceEqDiff,Nat.reduceLT,go_sem]
    have hM:=GB.rest s3 x3 (by omega) (by omega)
    refine Af (2*s,e) ⟨by show 0<2*s;omega,by show 2*s<=200000;omega,hM.full (by omega) s3.B⟩ (by show n-2*s<n-s;omega) ?_
    simp only[↓reduceIte,reduceCtorEq,Nat.reduceEqDiff,Nat.reduceLT,go_sem]
   have f2:(((p+2*s:Nat):Int)<=(n:Int))=True:=eq_true (by omega)
   simp only[f2,v2,v4,v5,OY,Ak,Ag,AY,Int.toNat_natCast,Dt,D6,↓reduceIte,reduceCtorEq,Nat.reduceEqDiff,Nat.reduceAdd,go_sem]
   have hM:=GB.mrg IN s3 x3 (q:=p+2*s) (by omega) (by omega)
   rw[<-x1]at hM
   obtain⟨S1,S2⟩:=Xp s3 x3 x1 (q:=p+2*s) (by omega) (by omega)
   refine⟨⟨_,rfl,_,rfl,_,rfl,by omega,by omega,hge,hm,by omega,S1,S2⟩,Af (t+1,p+2*s,B4 Dh e p (p+s) (p+2*s)) ⟨mS.symm,hge,hM⟩ (by show n-(p+2*s)<n-p;omega) ?_⟩
   simp only[↓reduceIte,reduceCtorEq,Nat.reduceEqDiff,Nat.reduceLT,go_sem]
  have f1:((s:Int)<(n:Int))=False:=eq_false (by omega)
  have hd:=s3.done hsn
  simp only[f1,↓reduceIte,reduceCtorEq,Nat.reduceEqDiff,go_sem]
  rw[<-hd]
  exact⟨_,rfl,_,rfl,fun _ _ _ _=>BZ _⟩
 have f1:(((20*t+20:Nat):Int)<=(n:Int))=True:=eq_true (by omega)
 simp only[f1,v1,VG,Ak,Ag,AY,Int.toNat_natCast,Dt,D6,↓reduceIte,reduceCtorEq,Nat.reduceEqDiff,Nat.reduceAdd,go_sem]
 refine⟨⟨_,rfl,_,rfl,by omega,hge,hm⟩,Af (t+1,BY e (20*t) (AH Dh (A2 e (20*t) (20*t+20)))) ⟨by show 20*(t+1)<=n;omega,s2.ins (by omega) s1⟩ (by show n-20*(t+1)<n-20*t;omega) ?_⟩
 simp only[show 20*t+20=20*(t+1) by omega,↓reduceIte,reduceCtorEq,Nat.reduceEqDiff,Nat.reduceLT,go_sem]
end Go.Proofs.YtlieoghhkioflaaGreat
namespace Go.Proofs.YtlieoghhkioflaaGreat
open Go Go.RowKit
variable{G:Nat->Option (Nat×(Nat->Ad))}
noncomputable def Yh:At:=Ak (Ag (Du J9) (Ag (CZ Dt) AY)) (fun a=>a.1.1<=100000) fun a=> .view 9 a.1.1 fun i j=>(BY a.1.2 0 (AH Dh (A2 a.1.2 0 a.1.1)) i).c j
theorem Aca(hC:Ai Tryz.prog G 118 HX):Cr Tryz.prog G 117 0 Yh:=by
 refine Qa (S:=[]) (I:=[]) (X:=[(137,0,XG)]) (N:=[]) (C:=[]) (R:=J9) (t:=Ag (CZ Dt) AY) mixed .nil .nil (.cons (Ack hC) .nil) Tryz.func117 Ab8 rfl fun d b e0 hp hw hn=> ?_
 obtain⟨n,d⟩:=d
 obtain⟨cm,u⟩:=b
 have hm:n<=100000:=hp
 simp only[ZW,XG,Ak,Ag,AY,Dt,D6,↓reduceIte,reduceCtorEq,Nat.reduceEqDiff,Nat.reduceAdd,go_sem]
 exact⟨hm,_,rfl,_,rfl,fun _ _ _ _=>BZ _⟩
end Go.Proofs.YtlieoghhkioflaaGreat
namespace Go.Proofs.YtlieoghhkioflaaGreat
open Go Go.RowKit
variable{G:Nat->Option (Nat×(Nat->Ad))}
noncomputable def Sv:At:=Ak (Ag (Du Kz) AY) (fun a=>a.1.1<=1000) fun a=> .view 2 a.1.1 fun i j=>(a.1.2 i).c j
theorem Aa9:Ai Tryz.prog G 98 Sv:=by
 refine Ie mixed (S:=[]) (I:=[]) (X:=[]) (N:=[]) (C:=[]) .nil .nil .nil Tryz.func98 c98 fun a hp hw=> ?_
 obtain⟨l,u⟩:=a
 simp only[a98,Ag,AY,↓reduceIte,reduceCtorEq,Nat.reduceEqDiff,Nat.reduceAdd,Nat.reduceSub,Nat.reduceLT,Nat.reducePow,go_sem]
 have hl:l.1<=1000:=hp
 refine fun _ t ht=>⟨fun h=> ?_,fun _ _=>⟨by omega,by omega,fun i _ j _=>by rw[if_neg (by omega)];exact BZ _⟩⟩
 have:=fun k=>ht k
 rcases Nat.eq_zero_or_pos l.1 with h0|h0
 ·exact h0
 rw[ht h0]at h;cases h
noncomputable def ZU(r:Ro):Int:=if Bf (Ge r)=true then 0 else 40
noncomputable def WU:At:=D3 QF (fun _=>True) fun r=> .int .i64 (ZU r)
theorem Acm:Ai Tryz.prog G 46 WU:=XR
noncomputable def Km(l:Jc):Nat->List De
 |0=>[]
 |i+1=>if Jx l i=true then Km l i++[l.2 i]else Km l i
theorem Ka(l:Jc):∀t,AH Dh (Km l t)=BE l t
 |0=>rfl
 |t+1=>by
  rw[Km,BE]
  split
  ·rw[Cb,Ka l t]
   have:∀(x:De) (L:List De),CU Dh x L=Hz x L:=fun x L=>by
    induction L with
    |nil=>rfl
    |cons y L ih=>
     rw[CU,Hz,ih]
     by_cases h:Bu x y
     ·rw[if_pos h,if_pos (decide_eq_true h)]
     rw[if_neg h,if_neg (by show¬decide (Bu x y)=true;rw[decide_eq_false h];exact Bool.false_ne_true)]
   exact this _ _
  exact Ka l t
theorem Rk{a b c:De}(h1:FA a c)(h2:FA b c):FA a b:=by
 obtain⟨p1,p2,p3,p4,p5,p6,p7,p8,p9⟩:=h1
 obtain⟨q1,q2,q3,q4,q5,q6,q7,q8,q9⟩:=h2
 exact⟨p1.trans q1.symm,p2.trans q2.symm,p3.trans q3.symm,p4.trans q4.symm,p5.trans q5.symm,p6.trans q6.symm,p7.trans q7.symm,p8.trans q8.symm,fun i hi=>(p9 i hi).trans (q9 i (by omega)).symm⟩
theorem V0(L:List De)(x:De){i:Nat}(h:i<L.length):lD (L++[x]) i=lD L i:=by
 simp only[lD,List.getD_eq_getElem?_getD,List.getElem?_append,if_pos h]
theorem VU(L:List De)(x:De):lD (L++[x]) L.length=x:=by
 simp[lD,List.getD_eq_getElem?_getD]
theorem To{p:Nat->Prop}{t:Nat}(h:∃i,i<t/\p i):Cj p (t+1)=Cj p t:=by
 rcases Bw p t with⟨h1,h2,h3⟩|⟨_,h2⟩
 ·exact Db (by omega) h2 h3
 obtain⟨i,hi,hp⟩:=h;exact absurd hp (h2 i hi)
theorem LB(l:Jc):∀t,(Km l t).length<=t
 |0=>Nat.le_refl _
 |t+1=>by
  rw[Km];have:=LB l t
  split
  ·rw[List.length_append];show _+1<=_;omega
  omega
noncomputable def JD:At:=Ak (Ag QF (Ag (Du J9) AY)) (fun _=>True) fun a=>if CK a.1 a.2.1=0 then .tup (.cons (.view 9 (BE a.2.1 a.2.1.1).length fun i j=>(lD (BE a.2.1 a.2.1.1) i).c j) (.cons (.int .i64 0) .nil))else .tup (.cons .nils (.cons (.int .i64 (CK a.1 a.2.1)) .nil))
set_option maxHeartbeats 8000000 in
theorem Xd:Ai Tryz.prog G 66 JD:=by
 refine Ie mixed (S:=[(46,WU),(96,Md),(97,Pk),(98,Sv)]) (I:=[(94,a94),(114,VC),(95,a95),(99,a99)]) (X:=[(117,0,Yh)]) (N:=[]) (C:=[]) (.cons Acm (.cons Zu (.cons Zw (.cons Aa9 .nil)))) (.cons Tryz.func94 c94 (.cons Tryz.func114 Ab6 (.cons Tryz.func95 c95 (.cons Tryz.func99 c99 .nil)))) (.cons (Aca Abx) .nil) Tryz.func66 c66 fun a _ hw=> ?_
 obtain⟨r,l,u⟩:=a
 simp only[Ag,AY,reduceCtorEq,Nat.reduceSub,Nat.reducePow,go_sem]at hw
 by_cases hr:Ge r
 ·have ha:CK r l=DY r l:=by unfold CK;rw[AA hr];rfl
  have hck:ZU r=0:=by unfold ZU;rw[AA hr,if_pos rfl]
  simp only[hck,ha,Ag,AY,a66,a94,VC,WU,hw,↓reduceIte,reduceCtorEq,Nat.reduceEqDiff,Nat.reduceAdd,Nat.reduceSub,Int.reduceNeg,Nat.reducePow,go_sem]
  refine⟨fun h=> ?_,fun h=> ?_⟩
  ·have:DY r l=4:=by unfold DY;rw[if_pos (by omega)]
   rw[this,if_neg (by omega)];exact BZ _
  have hl:l.1<=60:=by omega
  clear h
  refine AX (ι:=Nat) (fun j=>j<=l.1/\∀i,i<j->D7 r (l.2 i)) (fun j=>l.1-j) [0,1,6,7] (fun j=>[(8,.int .i64 j)]) (fun _=>[]) 0 ⟨by omega,fun i h=>by omega⟩ (by simp only[↓reduceIte,reduceCtorEq,Nat.reduceEqDiff,Nat.reduceLT,go_sem];try rfl) fun j hj=> ?_
  obtain⟨hj1,hj2⟩:=hj
  rcases Nat.lt_or_ge j l.1 with hlt|hge
  ·have f1:((j:Int)<(l.1:Int))=True:=eq_true (by omega)
   simp only[f1,hw,Md,a95,↓reduceIte,reduceCtorEq,Nat.reduceEqDiff,Nat.reduceAdd,Nat.reduceSub,Int.reduceNeg,Nat.reducePow,go_sem]
   have gj:((j:Int)≥0)=True:=eq_true (by omega)
   refine⟨by omega,fun _ _=>⟨hr.1,hr.2.1,fun q=> ?_,fun q=>Af (j+1) ⟨by omega,fun i hi=> ?_⟩ (by omega) (by simp only[↓reduceIte,reduceCtorEq,Nat.reduceEqDiff,Nat.reduceLT,go_sem];rw[Cp (by omega)])⟩⟩
   ·refine⟨fun _=> ?_,fun h=>absurd (show(j:Int)≥0 by omega) h⟩
    have:DY r l=41:=by unfold DY;rw[if_neg (by omega),Ax fun k=>NB q (k j hlt)];rfl
    rw[this,if_neg (by omega)];exact BZ _
   rcases Nat.lt_or_ge i j with h5|h5
   ·exact hj2 i h5
   obtain rfl:i=j:=by omega
   exact M3 q
  have hv:∀i,i<l.1->D7 r (l.2 i):=fun i hi=>hj2 i (by omega)
  have f1:((j:Int)<(l.1:Int))=False:=eq_false (by omega)
  have gm:((-1:Int)≥0)=False:=eq_false (by omega)
  simp only[f1,gm,hw,Md,a95,↓reduceIte,reduceCtorEq,Nat.reduceEqDiff,Nat.reduceAdd,Nat.reduceSub,Int.reduceNeg,Nat.reducePow,go_sem]
  clear f1 gm hj1 hj2 hge j
  have hd0:DY r l=if Bf (∀i,i<l.1->∀k,k<i->(l.2 i).id=(l.2 k).id->FA (l.2 i) (l.2 k))=true then 0 else 42:=by unfold DY;rw[if_neg (by omega),AA hv];rfl
  refine GA (ι:=Nat) (fun t=>t<=l.1/\∀i,i<t->∀k,k<i->(l.2 i).id=(l.2 k).id->FA (l.2 i) (l.2 k)) (fun t=>l.1-t) [1,2,7,25,26] (fun t=>[(8,.own (.n 2)),(27,.int .i64 t)]) (fun t=>[(1,.mp .i64 (fun k=>Bf (∃i,i<t/\(l.2 i).id=k)) fun k=> .agg (l.2 (Cj (fun i=>(l.2 i).id=k) t)).L),(2,.row 56 9 (Km l t).length fun i b=>(lD (Km l t) i).c b)]) 1 0 ⟨by omega,fun i h=>by omega⟩ (by
   simp only[Km,List.length_nil,↓reduceIte,reduceCtorEq,Nat.reduceEqDiff,Nat.reduceAdd,Nat.reduceLT,go_sem]
   exact fun k=>Ax fun⟨i,h,_⟩=>by omega) fun t ht=> ?_
  obtain⟨ht1,ht2⟩:=ht
  rcases Nat.lt_or_ge t l.1 with hlt|hge
  ·have f1:((t:Int)<(l.1:Int))=True:=eq_true (by omega)
   by_cases hn:∃i,i<t/\(l.2 i).id=(l.2 t).id
   ·have e1:Bf (∃i,i<t/\(l.2 i).id=(l.2 t).id)=true:=AA hn
    obtain⟨q1,q2,q3⟩:Cj (fun i=>(l.2 i).id=(l.2 t).id) t<t/\(l.2 (Cj (fun i=>(l.2 i).id=(l.2 t).id) t)).id=(l.2 t).id/\∀j,j<Cj (fun i=>(l.2 i).id=(l.2 t).id) t->¬(l.2 j).id=(l.2 t).id:=by
     rcases Bw (fun i=>(l.2 i).id=(l.2 t).id) t with h|⟨_,h⟩
     ·exact h
     obtain⟨i,hi,hp⟩:=hn;exact absurd hp (h i hi)
    simp only[f1,e1,Pk,↓reduceIte,reduceCtorEq,Nat.reduceEqDiff,Nat.reduceAdd,Nat.reduceSub,Nat.reduceLeDiff,Nat.reduceLT,Int.reduceNeg,Nat.reducePow,go_sem]
    refine⟨by omega,fun _ _ _ _ _ _=>⟨fun h4=> ?_,fun h4=> ?_⟩⟩
    ·have h42:DY r l=42:=by rw[hd0,Ax fun k=>NB h4 (k t hlt _ q1 q2.symm)];rfl
     rw[h42,if_neg (by omega)];exact BZ _
    have hS:=M3 h4
    have oE:Km l (t+1)=Km l t:=by
     have:Jx l t=false:=Ax fun k=>by obtain⟨i,hi,he⟩:=hn;exact k i hi he
     rw[Km,this];rfl
    have hE:∀k,Bf (∃i,i<t+1/\(l.2 i).id=k)=Bf (∃i,i<t/\(l.2 i).id=k):=fun k=>Ee ⟨fun⟨i,h1,h2⟩=>by
     by_cases h3:i=t
     ·subst h3
      obtain⟨p,h5,h6⟩:=hn
      exact⟨p,h5,h6.trans h2⟩
     exact⟨i,by omega,h2⟩,fun⟨i,h1,h2⟩=>⟨i,by omega,h2⟩⟩
    refine Af (t+1) ⟨by omega,fun i hi k hk he=> ?_⟩ (by omega) ?_
    ·rcases Nat.lt_or_ge i t with h5|h5
     ·exact ht2 i h5 k hk he
     obtain rfl:i=t:=by omega
     by_cases h6:Cj (fun j=>(l.2 j).id=(l.2 i).id) i=k
     ·rw[<-h6];exact hS
     have h7:Cj (fun j=>(l.2 j).id=(l.2 i).id) i<k:=by
      apply Classical.byContradiction
      intro h8
      exact q3 k (by omega) he.symm
     exact Rk hS (ht2 k hk _ h7 (he.symm.trans q2.symm))
    simp only[oE,hE,↓reduceIte,reduceCtorEq,Nat.reduceEqDiff,Nat.reduceLT,go_sem]
    rw[Cp (by omega)]
    refine⟨rfl,fun k hk=> ?_⟩
    rw[To (Be.1 hk)]
    exact⟨rfl,rfl,rfl,rfl,rfl,rfl,rfl,rfl,rfl,fun i _ j _=>BZ _⟩
   have e1:Bf (∃i,i<t/\(l.2 i).id=(l.2 t).id)=false:=Ax hn
   have hhr:(l.2 t).heirs.1<=8:=by
    rcases(hv t hlt).2.2.2.2.2.2 with h|h|h|h
    ·have:=h.2.2.2.2;omega
    ·have:=h.2.2.2.2;omega
    ·exact h.2.1.2.1
    have:=h.2.2.2.2.2;omega
   have hol:=LB l t
   simp only[f1,e1,Sv,Ak,Ag,AY,↓reduceIte,reduceCtorEq,Nat.reduceEqDiff,Nat.reduceAdd,Nat.reduceSub,Nat.reduceLeDiff,Nat.reduceLT,Int.reduceNeg,Nat.reducePow,go_sem]
   refine⟨by omega,fun _ _=>⟨by omega,fun _ _ _=>⟨by omega,by omega,?_⟩⟩⟩
   have oE:Km l (t+1)=Km l t++[l.2 t]:=by
    have:Jx l t=true:=AA fun k hk he=>hn ⟨k,hk,he⟩
    rw[Km,this];rfl
   refine Af (t+1) ⟨by omega,fun i hi k hk he=> ?_⟩ (by omega) ?_
   ·rcases Nat.lt_or_ge i t with h5|h5
    ·exact ht2 i h5 k hk he
    obtain rfl:i=t:=by omega
    exact absurd ⟨k,hk,he.symm⟩ hn
   simp only[oE,List.length_append,List.length_singleton,↓reduceIte,reduceCtorEq,Nat.reduceEqDiff,Nat.reduceLT,go_sem]
   rw[Cp (by omega)]
   refine⟨rfl,fun k=>⟨?_,fun hk=> ?_⟩,?_⟩
   ·by_cases e:k=(l.2 t).id
    ·rw[if_pos e];exact AA ⟨t,by omega,e.symm⟩
    rw[if_neg e]
    exact Ee ⟨fun⟨i,h1,h2⟩=>⟨i,by
     have:i≠t:=fun h=>e (by rw[<-h2,h])
     omega,h2⟩,fun⟨i,h1,h2⟩=>⟨i,by omega,h2⟩⟩
   ·by_cases e:k=(l.2 t).id
    ·have fE:Cj (fun i=>(l.2 i).id=k) (t+1)=t:=Db (by omega) e.symm fun j hj h=>hn ⟨j,hj,h.trans e⟩
     rw[if_pos e]
     simp only[fE,go_sem]
    rw[if_neg e]at hk⊢
    have fE:=To (Be.1 hk)
    simp only[fE,go_sem]
   intro i hi j hj
   by_cases e:i<(Km l t).length
   ·rw[if_pos e,V0 _ _ e];exact BZ _
   obtain rfl:i=(Km l t).length:=by omega
   rw[if_neg e,Nat.sub_self,VU]
   show AB _ (Au (l.2 t).L j)
   rw[Jw _ j hj];exact BZ _
  have f1:((t:Int)<(l.1:Int))=False:=eq_false (by omega)
  simp only[f1,a99,Yh,Ak,Ag,AY,Dt,D6,XF,↓reduceIte,reduceCtorEq,Nat.reduceEqDiff,Nat.reduceAdd,Nat.reduceLT,Int.reduceNeg,go_sem]
  obtain rfl:t=l.1:=by omega
  have hol:=LB l l.1
  have hdn:DY r l=0:=by rw[hd0,AA ht2];rfl
  have hdo:=Ka l l.1
  have hle:(Km l l.1).length=(BE l l.1).length:=by rw[<-hdo,Di]
  have hsg:A2 (fun i=>lD (Km l l.1) i) 0 (Km l l.1).length=Km l l.1:=by
   apply List.ext_getElem?
   intro i
   rw[Bh]
   split
   ·rename_i h;rw[Nat.zero_add,List.getElem?_eq_getElem (by omega)];unfold lD;rw[List.getD_eq_getElem?_getD,List.getElem?_eq_getElem (by omega)];rfl
   rw[List.getElem?_eq_none (by omega)]
  refine⟨by omega,?_⟩
  rw[hdn,if_pos rfl,hsg,hdo,hle]
  simp only[go_sem]
  intro i hi j hj
  rw[Cq,if_pos ⟨Nat.zero_le _,by omega⟩]
  have:(BE l l.1).getD (i-0) (lD (Km l l.1) i)=lD (BE l l.1) i:=by
   simp only[lD,Nat.sub_zero,List.getD_eq_getElem?_getD,List.getElem?_eq_getElem (show i<(BE l l.1).length by omega),Option.getD_some]
  rw[this];exact BZ _
 have ha:CK r l=40:=by unfold CK;rw[Ax hr];rfl
 have hck:ZU r=40:=by unfold ZU;rw[Ax hr,if_neg Bool.false_ne_true]
 have h40:((40:Int)=0)=False:=eq_false (by omega)
 simp only[hck,ha,h40,Ag,AY,a66,a94,VC,WU,hw,↓reduceIte,reduceCtorEq,Nat.reduceEqDiff,Nat.reduceAdd,Nat.reduceSub,Int.reduceNeg,Int.reduceBNe,Nat.reducePow,go_sem]
end Go.Proofs.YtlieoghhkioflaaGreat
