/- Deeds: the statement DeedReasons. No condition. -/
import Derived.Test.YtlieoghhkioflaaGreatDbf
import Derived.Test.YtlieoghhkioflaaGreatACodeL6
set_option linter.unusedSimpArgs false
set_option linter.unusedVariables false
set_option maxRecDepth 100000
namespace Go.Proofs.YtlieoghhkioflaaGreat
open Go Go.RowKit
variable{G:Nat->Option (Nat×(Nat->Ae))}
theorem Y3{r:Ro}{l:FL}(ha:BS r l=0):ZZ r l= .tup (.cons (.view 9 (Dj l).1 fun i j=>((Dj l).2 i).c j) (.cons (.view 1 (Dj l).1 fun i _=> .int .u8 (UY r (Dj l).2 i)) (.cons (.int .i64 0) .nil))):=Yb ha
def Xc:At:=DY KS (DD GD) (TU .u8) (fun _ _ _=>True) fun _ _ _=> .bool true
set_option maxHeartbeats 8000000 in
theorem VR:Ah Tryz.prog G 6 Xc:=by
 refine ZX (S:=[(25,Mj),(26,LK),(16,QP),(29,Rv),(30,Kk),(33,VV)]) (I:=[]) mixed
  (.cons Ys (.cons XT (.cons (show Ah Tryz.prog G _ QP from Mv) (.cons (show Ah Tryz.prog G _ Rv from Tl) (.cons Tr (.cons Ack .nil)))))) .nil Tryz.func6 c6 fun r l which _ hw=> ?_
 simp only[Nat.reduceSub,Nat.reducePow,go_sem]at hw
 obtain⟨w1,w2⟩:=hw
 by_cases hrd:To r l=true
 case neg=>
  have hrd:To r l=false:=by simpa using hrd
  simp only[A8,a6,Mj,LK,hrd,w1,w2,↓reduceIte,reduceCtorEq,Nat.reduceEqDiff,Nat.reduceAdd,Nat.reduceSub,Nat.reducePow,go_sem]
 obtain⟨hng,ha⟩:=AbC hrd
 have hr:=(Dr ha).1
 obtain⟨hN1,hN2⟩:=VI hr
 have hD:=YX ha
 have hwb:=AaZ which
 have o0:=Y3 ha
 generalize Dj l=X at*
 have hn60:=hD.n
 have l4:(X.1<=9223372036854775807)=True:=eq_true (by omega)
 obtain⟨V,hVe⟩:∃V:Nat->Int,∀i,UY r X.2 i=V i:=⟨_,fun _=>rfl⟩
 simp only[hVe]at o0
 have hxl:∀i,i<X.1->((X.2 i).heirs.1<=9223372036854775807)=True:=fun i hi=>eq_true (by have:=(hD.ok i hi).heirs;omega)
 simp only[A8,a6,Mj,LK,hrd,Rv,An,Ag,AZ,o0,l4,w1,w2,↓reduceIte,reduceCtorEq,Nat.reduceEqDiff,Nat.reduceAdd,Nat.reduceSub,Nat.reduceLT,Nat.reducePow,go_sem]
 refine AK (ι:=Nat) (fun j=>1<=j/\(j<=X.1\/j=1)) (fun j=>X.1-j) [2,3,7,8,9] (fun j=>[(11,.int .i64 j)]) (fun _=>[]) 1 ⟨Nat.le_refl _,.inr rfl⟩ (by simp only[↓reduceIte,reduceCtorEq,Nat.reduceEqDiff,Nat.reduceLT,go_sem];try rfl) fun j hj=> ?_
 obtain⟨hj1,hj2⟩:=hj
 by_cases hjl:j<X.1
 ·have fj:((j:Int)<(X.1:Int))=True:=eq_true (by omega)
  have hb:=hD.asc (j-1) j (by omega) hjl
  have f6:IntKind.i64.wrap ((j:Int)-1)=((j-1:Nat):Int):=by rw[AU (by omega) (by omega)];omega
  unfold Bl at hb
  have g1:((X.2 j).day<(X.2 (j-1)).day)=False:=eq_false (by omega)
  by_cases c:(X.2 j).day=(X.2 (j-1)).day
  ·have g2:((X.2 j).day=(X.2 (j-1)).day)=True:=eq_true c
   have g3:((X.2 j).id<=(X.2 (j-1)).id)=False:=eq_false (by omega)
   simp only[fj,f6,g1,g2,g3,l4,Int.toNat_natCast,↓reduceIte,reduceCtorEq,Nat.reduceEqDiff,Nat.reduceSub,Nat.reduceLeDiff,Nat.reducePow,go_sem]
   repeat(refine And.intro (by omega) ?_)
   refine Ad (j+1) ⟨by omega,.inl hjl⟩ (by omega) ?_
   simp only[↓reduceIte,Nat.reduceEqDiff,Nat.reduceLT,go_sem]
   exact BH (by omega)
  have g2:((X.2 j).day=(X.2 (j-1)).day)=False:=eq_false c
  simp only[fj,f6,g1,g2,l4,Int.toNat_natCast,↓reduceIte,reduceCtorEq,Nat.reduceEqDiff,Nat.reduceSub,Nat.reduceLeDiff,Nat.reducePow,go_sem]
  repeat(refine And.intro (by omega) ?_)
  refine Ad (j+1) ⟨by omega,.inl hjl⟩ (by omega) ?_
  simp only[↓reduceIte,Nat.reduceEqDiff,Nat.reduceLT,go_sem]
  exact BH (by omega)
 have fj:((j:Int)<(X.1:Int))=False:=eq_false (by omega)
 by_cases hn0:X.1=0
 ·have f0:((X.1:Int)=0)=True:=eq_true (by omega)
  simp only[fj,f0,l4,w1,↓reduceIte,reduceCtorEq,Nat.reduceEqDiff,Nat.reduceAdd,Nat.reduceSub,Int.reduceToNat,Int.reduceLE,Nat.reducePow,go_sem]
 have f0:((X.1:Int)=0)=False:=eq_false (by omega)
 obtain⟨k,hk⟩:∃k:Nat,which.1.tmod (X.1:Int)=(k:Int):=⟨(which.1.tmod (X.1:Int)).toNat,by have:=Int.tmod_nonneg (X.1:Int) hwb.1;omega⟩
 have hkl:k<X.1:=by
  have:=Int.tmod_lt_of_pos which.1 (show(0:Int)<(X.1:Int) by omega)
  omega
 obtain⟨a3,b3⟩:=XX hr hD hkl
 have hx:=hD.ok k hkl
 obtain⟨x1,x2,x3,x4,x5,x6,x7⟩:=hx
 have hx:=hD.ok k hkl
 have hlt:∀i,i<k->C3 r (X.2 i):=fun i hi=>hD.ok i (by omega)
 have o1:=Y4 (d:=(X.2 k).day) a3 x3 x4
 have hO:=WP a3 (X.2 k).day
 rw[b3]at o1 hO
 have hof:=fun m (hm:m<BQ r)=>hO.of hm
 have lO:=DK (AE r X.2 k).ow.2 (BQ r)
 have lU:=DK (fun m=>FT (AE r X.2 k) m (X.2 k).day) (BQ r)
 generalize Ak (AE r X.2 k).ow.2 (BQ r)=O at*
 generalize Ak (fun m=>FT (AE r X.2 k) m (X.2 k).day) (BQ r)=U at*
 have hbd:0<=(X.2 k).turn.fro/\(X.2 k).turn.fro<=(X.2 k).turn.til/\(X.2 k).turn.til<=(BQ r:Int):=by
  unfold FF at x7
  rcases x7 with⟨_,_,x7,_⟩|⟨_,x7,_⟩|⟨_,_,_,x7,x8,_⟩|⟨_,_,x7,_⟩<;>omega
 obtain⟨hb1,hb2,hb3⟩:=hbd
 have k1:IntKind.i64.wrap which.1=which.1:=AU (by omega) (by omega)
 have k2:(0<=(k:Int))=True:=eq_true (by omega)
 have k3:((k:Int)<(X.1:Int))=True:=eq_true (by omega)
 have k4:(1<=r.days/\r.days<=16)=True:=eq_true ⟨hr.1,hr.2.1⟩
 have k5:A4 (C3 r (X.2 k))=true:=As hx
 have k6:((k:Int)<=(X.1:Int))=True:=eq_true (by omega)
 have k7:(O.1<=9223372036854775807)=True:=eq_true (by omega)
 have k8:(U.1<=9223372036854775807)=True:=eq_true (by omega)
 have k9:(k<=9223372036854775807)=True:=eq_true (by omega)
 have k10:((k:Int)-0).toNat=k:=by omega
 have gk:=hxl k hkl
 simp only[fj,f0,hk,k1,k2,k3,k4,k5,k6,k10,gk,Kk,QP,An,Ag,AZ,o1,JN,l4,Int.toNat_natCast,w1,↓reduceIte,reduceCtorEq,Nat.reduceEqDiff,Nat.reduceAdd,Nat.reduceSub,Nat.reduceLeDiff,Nat.reduceLT,Int.reduceToNat,Int.reduceLE,Nat.reducePow,go_sem]
 obtain⟨dB,hdB⟩:∃dB:Nat->Bool,∀i,dB i=A4 (JJ r X.2 i (X.2 k).fro\/JJ r X.2 i (X.2 k).tow):=⟨_,fun _=>rfl⟩
 have hd0:dB 0=false:=by
  rw[hdB]
  exact Am fun h=>by rcases h with⟨i,hi,_⟩|⟨i,hi,_⟩<;>omega
 have hds:∀i,((V i=0/\(X.2 i).kind=3/\((X.2 i).fro=(X.2 k).fro\/(X.2 i).fro=(X.2 k).tow))->dB (i+1)=true)/\(¬(V i=0/\(X.2 i).kind=3/\((X.2 i).fro=(X.2 k).fro\/(X.2 i).fro=(X.2 k).tow))->dB (i+1)=dB i):=fun i=>by
  refine⟨fun⟨q1,q2,q3⟩=> ?_,fun q=> ?_⟩
  ·rw[hdB]
   refine As ?_
   rcases q3 with q3|q3
   ·exact .inl ⟨i,by omega,(hVe i).trans q1,q2,q3⟩
   exact .inr ⟨i,by omega,(hVe i).trans q1,q2,q3⟩
  rw[hdB,hdB]
  refine DZ ⟨fun h=> ?_,fun h=> ?_⟩
  ·rcases h with⟨a,a1,a2,a3,a4⟩|⟨a,a1,a2,a3,a4⟩
   ·by_cases e:a=i
    ·subst e;exact absurd ⟨(hVe a).symm.trans a2,a3,.inl a4⟩ q
    exact .inl ⟨a,by omega,a2,a3,a4⟩
   by_cases e:a=i
   ·subst e;exact absurd ⟨(hVe a).symm.trans a2,a3,.inr a4⟩ q
   exact .inr ⟨a,by omega,a2,a3,a4⟩
  rcases h with⟨a,a1,a2⟩|⟨a,a1,a2⟩
  ·exact .inl ⟨a,by omega,a2⟩
  exact .inr ⟨a,by omega,a2⟩
 have htow:0<=(X.2 k).tow:=by
  unfold Em at x7
  rcases x7 with⟨_,x7,_⟩|⟨_,_,x7,_⟩|⟨_,_,x7,_⟩|⟨_,x7,_⟩<;>omega
 have hvt:V k=if dB k=true then 1 else(if A4 (GP (AE r X.2 k) (X.2 k))=true then(if(X.2 k).kind=4 then(if A4 (Kw (AE r X.2 k) (X.2 k))=true then 0 else 3)else 0)else 2):=by
  have e1:=LL (r:=r) (X:=X.2) (q:=(X.2 k).fro) (by omega) k hlt
  have e2:=LL (r:=r) (X:=X.2) (q:=(X.2 k).tow) htow k hlt
  rw[<-hVe k,hdB]
  unfold UY BE
  congr 1
  rw[AN,Bool.or_eq_true,e1,e2]
 obtain⟨HP,hHP⟩:∃HP:Nat->Prop,∀q,HP q↔∀m:Nat,(X.2 k).turn.fro<=m->(m:Int)<(X.2 k).turn.fro+q->(AE r X.2 k).ow.2 m=(X.2 k).fro:=⟨_,fun _=>Iff.rfl⟩
 refine AK (ι:=Nat×Bool) (fun q=>(X.2 k).turn.fro+q.1<=(X.2 k).turn.til/\(q.2=true↔HP q.1)) (fun q=>((X.2 k).turn.til-(X.2 k).turn.fro).toNat-q.1) [7,8,9,12,13,15] (fun q=>[(14,.int .u8 (if q.2=true then 0 else 2)),(18,.int .i64 ((X.2 k).turn.fro+q.1))]) (fun _=>[]) (0,true) ⟨by show(X.2 k).turn.fro+((0:Nat):Int)<=_;omega,fun _=>(hHP 0).2 fun m m1 m2=>by omega,fun _=>rfl⟩ (by
  simp only[↓reduceIte,reduceCtorEq,Nat.reduceEqDiff,Nat.reduceLT,go_sem]
  try omega) fun q hq=> ?_
 obtain⟨q,h⟩:=q
 obtain⟨hq1,hq2⟩:=hq
 have hq1:(X.2 k).turn.fro+(q:Int)<=(X.2 k).turn.til:=hq1
 have hq2:h=true↔HP q:=hq2
 by_cases hql:(X.2 k).turn.fro+(q:Int)<(X.2 k).turn.til
 ·have fq:((X.2 k).turn.fro+(q:Int)<(X.2 k).turn.til)=True:=eq_true hql
  obtain⟨m,hm⟩:∃m:Nat,(X.2 k).turn.fro+(q:Int)=m:=⟨((X.2 k).turn.fro+(q:Int)).toNat,by omega⟩
  have h5:=hof m (by omega)
  rw[<-hm]at h5
  have hw':IntKind.i64.wrap ((X.2 k).turn.fro+(q:Int)+1)=(X.2 k).turn.fro+((q+1:Nat):Int):=by rw[AU (by omega) (by omega)];omega
  by_cases c:(AE r X.2 k).ow.2 m=(X.2 k).fro
  ·have g1:((AE r X.2 k).ow.2 m=(X.2 k).fro)=True:=eq_true c
   have hup:HP (q+1)↔HP q:=by
    rw[hHP,hHP]
    refine⟨fun z a a1 a2=>z a a1 (by omega),fun z a a1 a2=> ?_⟩
    by_cases e:a=m
    ·subst e;exact c
    exact z a a1 (by omega)
   simp only[fq,VV,h5,g1,↓reduceIte,reduceCtorEq,Nat.reduceEqDiff,Nat.reduceAdd,Nat.reduceLeDiff,go_sem]
   repeat(refine And.intro (by omega) ?_)
   refine Ad (q+1,h) ⟨by show(X.2 k).turn.fro+((q+1:Nat):Int)<=_;omega,hq2.trans hup.symm⟩ (by show _-(q+1)<_-q;omega) ?_
   simp only[hw',↓reduceIte,reduceCtorEq,Nat.reduceEqDiff,Nat.reduceLT,go_sem]
  have g1:((AE r X.2 k).ow.2 m=(X.2 k).fro)=False:=eq_false c
  simp only[fq,VV,h5,g1,↓reduceIte,reduceCtorEq,Nat.reduceEqDiff,Nat.reduceAdd,Nat.reduceLeDiff,go_sem]
  repeat(refine And.intro (by omega) ?_)
  refine Ad (q+1,false) ⟨by show(X.2 k).turn.fro+((q+1:Nat):Int)<=_;omega,⟨fun z=>(by cases z),fun z=>absurd ((hHP (q+1)).1 z m (by omega) (by omega)) c⟩⟩ (by show _-(q+1)<_-q;omega) ?_
  simp only[hw',↓reduceIte,reduceCtorEq,Nat.reduceEqDiff,Nat.reduceLT,go_sem]
 have fq:((X.2 k).turn.fro+(q:Int)<(X.2 k).turn.til)=False:=eq_false hql
 have hhis:h=true↔GP (AE r X.2 k) (X.2 k):=by
  rw[hq2,hHP]
  exact⟨fun z m m1 m2=>z m m1 (by omega),fun z m m1 m2=>z m m1 (by omega)⟩
 by_cases h4:(X.2 k).kind=4
 case neg=>
  have g4:((X.2 k).kind=4)=False:=eq_false h4
  cases h with
  |true=>
   have hE:=As (hhis.1 rfl)
   simp only[fq,g4,k2,k6,k9,k10,l4,↓reduceIte,reduceCtorEq,Nat.reduceEqDiff,Nat.reduceAdd,Nat.reduceSub,Nat.reduceLeDiff,Int.reduceToNat,Int.reduceLE,Nat.reducePow,go_sem]
   refine AK (ι:=Nat) (fun i=>i<=k) (fun i=>k-i) [7,9,12,13,212,213] (fun i=>[(14,.int .u8 (if dB i=true then 1 else 0)),(214,.int .i64 i)]) (fun _=>[]) 0 (Nat.zero_le _) (by simp only[hd0,↓reduceIte,reduceCtorEq,Nat.reduceEqDiff,Nat.reduceLT,go_sem];try rfl) fun i hi=> ?_
   by_cases hil:i<k
   ·have fi:((i:Int)<(k:Int))=True:=eq_true (by omega)
    have gh:=hxl i (by omega)
    have hs:=hds i
    by_cases c1:(X.2 i).kind=3
    case neg=>
     have e1:((X.2 i).kind=3)=False:=eq_false c1
     have hs:dB (i+1)=dB i:=hs.2 fun q=>c1 q.2.1
     simp only[fi,e1,gh,l4,↓reduceIte,reduceCtorEq,Nat.reduceEqDiff,Nat.reduceAdd,Nat.reduceSub,Nat.reduceLeDiff,Nat.reducePow,go_sem]
     repeat(refine And.intro (by omega) ?_)
     refine Ad (i+1) hil (by omega) ?_
     simp only[hs,↓reduceIte,reduceCtorEq,Nat.reduceEqDiff,Nat.reduceLT,go_sem]
     exact BH (by omega)
    have e1:((X.2 i).kind=3)=True:=eq_true c1
    by_cases c2:V i=0
    case neg=>
     have e2:(V i=0)=False:=eq_false c2
     have hs:dB (i+1)=dB i:=hs.2 fun q=>c2 q.1
     simp only[fi,e1,e2,gh,l4,↓reduceIte,reduceCtorEq,Nat.reduceEqDiff,Nat.reduceAdd,Nat.reduceSub,Nat.reduceLeDiff,Nat.reducePow,go_sem]
     repeat(refine And.intro (by omega) ?_)
     refine Ad (i+1) hil (by omega) ?_
     simp only[hs,↓reduceIte,reduceCtorEq,Nat.reduceEqDiff,Nat.reduceLT,go_sem]
     exact BH (by omega)
    have e2:(V i=0)=True:=eq_true c2
    by_cases c3:(X.2 i).fro=(X.2 k).fro
    ·have e3:((X.2 i).fro=(X.2 k).fro)=True:=eq_true c3
     have hs:dB (i+1)=true:=hs.1 ⟨c2,c1,.inl c3⟩
     simp only[fi,e1,e2,e3,gh,l4,↓reduceIte,reduceCtorEq,Nat.reduceEqDiff,Nat.reduceAdd,Nat.reduceSub,Nat.reduceLeDiff,Nat.reducePow,go_sem]
     repeat(refine And.intro (by omega) ?_)
     refine Ad (i+1) hil (by omega) ?_
     simp only[hs,↓reduceIte,reduceCtorEq,Nat.reduceEqDiff,Nat.reduceLT,go_sem]
     exact BH (by omega)
    have e3:((X.2 i).fro=(X.2 k).fro)=False:=eq_false c3
    by_cases c4:(X.2 i).fro=(X.2 k).tow
    ·have e4:((X.2 i).fro=(X.2 k).tow)=True:=eq_true c4
     have hs:dB (i+1)=true:=hs.1 ⟨c2,c1,.inr c4⟩
     simp only[fi,e1,e2,e3,e4,gh,l4,↓reduceIte,reduceCtorEq,Nat.reduceEqDiff,Nat.reduceAdd,Nat.reduceSub,Nat.reduceLeDiff,Nat.reducePow,go_sem]
     repeat(refine And.intro (by omega) ?_)
     refine Ad (i+1) hil (by omega) ?_
     simp only[hs,↓reduceIte,reduceCtorEq,Nat.reduceEqDiff,Nat.reduceLT,go_sem]
     exact BH (by omega)
    have e4:((X.2 i).fro=(X.2 k).tow)=False:=eq_false c4
    have hs:dB (i+1)=dB i:=hs.2 fun q=>by
     rcases q.2.2 with q|q
     ·exact c3 q
     exact c4 q
    simp only[fi,e1,e2,e3,e4,gh,l4,↓reduceIte,reduceCtorEq,Nat.reduceEqDiff,Nat.reduceAdd,Nat.reduceSub,Nat.reduceLeDiff,Nat.reducePow,go_sem]
    repeat(refine And.intro (by omega) ?_)
    refine Ad (i+1) hil (by omega) ?_
    simp only[hs,↓reduceIte,reduceCtorEq,Nat.reduceEqDiff,Nat.reduceLT,go_sem]
    exact BH (by omega)
   have fi:((i:Int)<(k:Int))=False:=eq_false (by omega)
   obtain rfl:i=k:=by omega
   have hV:V i=if dB i=true then 1 else 0:=by
    rw[hvt,hE,if_pos rfl,if_neg h4]
   simp only[fi,hV,l4,k3,↓reduceIte,reduceCtorEq,Nat.reduceEqDiff,Nat.reduceSub,Nat.reducePow,go_sem]
   omega
  |false=>
   have hE:=Am (fun z=>by have:=hhis.2 z;cases this)
   simp only[fq,g4,k2,k6,k9,k10,l4,↓reduceIte,reduceCtorEq,Nat.reduceEqDiff,Nat.reduceAdd,Nat.reduceSub,Nat.reduceLeDiff,Int.reduceToNat,Int.reduceLE,Int.reduceBEq,Nat.reducePow,go_sem]
   refine AK (ι:=Nat) (fun i=>i<=k) (fun i=>k-i) [7,9,12,13,212,213] (fun i=>[(14,.int .u8 (if dB i=true then 1 else 2)),(214,.int .i64 i)]) (fun _=>[]) 0 (Nat.zero_le _) (by simp only[hd0,↓reduceIte,reduceCtorEq,Nat.reduceEqDiff,Nat.reduceLT,go_sem];try rfl) fun i hi=> ?_
   by_cases hil:i<k
   ·have fi:((i:Int)<(k:Int))=True:=eq_true (by omega)
    have gh:=hxl i (by omega)
    have hs:=hds i
    by_cases c1:(X.2 i).kind=3
    case neg=>
     have e1:((X.2 i).kind=3)=False:=eq_false c1
     have hs:dB (i+1)=dB i:=hs.2 fun q=>c1 q.2.1
     simp only[fi,e1,gh,l4,↓reduceIte,reduceCtorEq,Nat.reduceEqDiff,Nat.reduceAdd,Nat.reduceSub,Nat.reduceLeDiff,Nat.reducePow,go_sem]
     repeat(refine And.intro (by omega) ?_)
     refine Ad (i+1) hil (by omega) ?_
     simp only[hs,↓reduceIte,reduceCtorEq,Nat.reduceEqDiff,Nat.reduceLT,go_sem]
     exact BH (by omega)
    have e1:((X.2 i).kind=3)=True:=eq_true c1
    by_cases c2:V i=0
    case neg=>
     have e2:(V i=0)=False:=eq_false c2
     have hs:dB (i+1)=dB i:=hs.2 fun q=>c2 q.1
     simp only[fi,e1,e2,gh,l4,↓reduceIte,reduceCtorEq,Nat.reduceEqDiff,Nat.reduceAdd,Nat.reduceSub,Nat.reduceLeDiff,Nat.reducePow,go_sem]
     repeat(refine And.intro (by omega) ?_)
     refine Ad (i+1) hil (by omega) ?_
     simp only[hs,↓reduceIte,reduceCtorEq,Nat.reduceEqDiff,Nat.reduceLT,go_sem]
     exact BH (by omega)
    have e2:(V i=0)=True:=eq_true c2
    by_cases c3:(X.2 i).fro=(X.2 k).fro
    ·have e3:((X.2 i).fro=(X.2 k).fro)=True:=eq_true c3
     have hs:dB (i+1)=true:=hs.1 ⟨c2,c1,.inl c3⟩
     simp only[fi,e1,e2,e3,gh,l4,↓reduceIte,reduceCtorEq,Nat.reduceEqDiff,Nat.reduceAdd,Nat.reduceSub,Nat.reduceLeDiff,Nat.reducePow,go_sem]
     repeat(refine And.intro (by omega) ?_)
     refine Ad (i+1) hil (by omega) ?_
     simp only[hs,↓reduceIte,reduceCtorEq,Nat.reduceEqDiff,Nat.reduceLT,go_sem]
     exact BH (by omega)
    have e3:((X.2 i).fro=(X.2 k).fro)=False:=eq_false c3
    by_cases c4:(X.2 i).fro=(X.2 k).tow
    ·have e4:((X.2 i).fro=(X.2 k).tow)=True:=eq_true c4
     have hs:dB (i+1)=true:=hs.1 ⟨c2,c1,.inr c4⟩
     simp only[fi,e1,e2,e3,e4,gh,l4,↓reduceIte,reduceCtorEq,Nat.reduceEqDiff,Nat.reduceAdd,Nat.reduceSub,Nat.reduceLeDiff,Nat.reducePow,go_sem]
     repeat(refine And.intro (by omega) ?_)
     refine Ad (i+1) hil (by omega) ?_
     simp only[hs,↓reduceIte,reduceCtorEq,Nat.reduceEqDiff,Nat.reduceLT,go_sem]
     exact BH (by omega)
    have e4:((X.2 i).fro=(X.2 k).tow)=False:=eq_false c4
    have hs:dB (i+1)=dB i:=hs.2 fun q=>by
     rcases q.2.2 with q|q
     ·exact c3 q
     exact c4 q
    simp only[fi,e1,e2,e3,e4,gh,l4,↓reduceIte,reduceCtorEq,Nat.reduceEqDiff,Nat.reduceAdd,Nat.reduceSub,Nat.reduceLeDiff,Nat.reducePow,go_sem]
    repeat(refine And.intro (by omega) ?_)
    refine Ad (i+1) hil (by omega) ?_
    simp only[hs,↓reduceIte,reduceCtorEq,Nat.reduceEqDiff,Nat.reduceLT,go_sem]
    exact BH (by omega)
   have fi:((i:Int)<(k:Int))=False:=eq_false (by omega)
   obtain rfl:i=k:=by omega
   have hV:V i=if dB i=true then 1 else 2:=by
    rw[hvt,hE,if_neg Bool.false_ne_true]
   simp only[fi,hV,l4,k3,↓reduceIte,reduceCtorEq,Nat.reduceEqDiff,Nat.reduceSub,Nat.reducePow,go_sem]
   omega
 have g4:((X.2 k).kind=4)=True:=eq_true h4
 cases h with
 |false=>
  have hE:=Am (fun z=>by have:=hhis.2 z;cases this)
  simp only[fq,g4,k2,k6,k9,k10,l4,↓reduceIte,reduceCtorEq,Nat.reduceEqDiff,Nat.reduceAdd,Nat.reduceSub,Nat.reduceLeDiff,Int.reduceToNat,Int.reduceLE,Int.reduceBEq,Nat.reducePow,go_sem]
  refine AK (ι:=Nat) (fun i=>i<=k) (fun i=>k-i) [7,9,12,13,212,213] (fun i=>[(14,.int .u8 (if dB i=true then 1 else 2)),(214,.int .i64 i)]) (fun _=>[]) 0 (Nat.zero_le _) (by simp only[hd0,↓reduceIte,reduceCtorEq,Nat.reduceEqDiff,Nat.reduceLT,go_sem];try rfl) fun i hi=> ?_
  by_cases hil:i<k
  ·have fi:((i:Int)<(k:Int))=True:=eq_true (by omega)
   have gh:=hxl i (by omega)
   have hs:=hds i
   by_cases c1:(X.2 i).kind=3
   case neg=>
    have e1:((X.2 i).kind=3)=False:=eq_false c1
    have hs:dB (i+1)=dB i:=hs.2 fun q=>c1 q.2.1
    simp only[fi,e1,gh,l4,↓reduceIte,reduceCtorEq,Nat.reduceEqDiff,Nat.reduceAdd,Nat.reduceSub,Nat.reduceLeDiff,Nat.reducePow,go_sem]
    repeat(refine And.intro (by omega) ?_)
    refine Ad (i+1) hil (by omega) ?_
    simp only[hs,↓reduceIte,reduceCtorEq,Nat.reduceEqDiff,Nat.reduceLT,go_sem]
    exact BH (by omega)
   have e1:((X.2 i).kind=3)=True:=eq_true c1
   by_cases c2:V i=0
   case neg=>
    have e2:(V i=0)=False:=eq_false c2
    have hs:dB (i+1)=dB i:=hs.2 fun q=>c2 q.1
    simp only[fi,e1,e2,gh,l4,↓reduceIte,reduceCtorEq,Nat.reduceEqDiff,Nat.reduceAdd,Nat.reduceSub,Nat.reduceLeDiff,Nat.reducePow,go_sem]
    repeat(refine And.intro (by omega) ?_)
    refine Ad (i+1) hil (by omega) ?_
    simp only[hs,↓reduceIte,reduceCtorEq,Nat.reduceEqDiff,Nat.reduceLT,go_sem]
    exact BH (by omega)
   have e2:(V i=0)=True:=eq_true c2
   by_cases c3:(X.2 i).fro=(X.2 k).fro
   ·have e3:((X.2 i).fro=(X.2 k).fro)=True:=eq_true c3
    have hs:dB (i+1)=true:=hs.1 ⟨c2,c1,.inl c3⟩
    simp only[fi,e1,e2,e3,gh,l4,↓reduceIte,reduceCtorEq,Nat.reduceEqDiff,Nat.reduceAdd,Nat.reduceSub,Nat.reduceLeDiff,Nat.reducePow,go_sem]
    repeat(refine And.intro (by omega) ?_)
    refine Ad (i+1) hil (by omega) ?_
    simp only[hs,↓reduceIte,reduceCtorEq,Nat.reduceEqDiff,Nat.reduceLT,go_sem]
    exact BH (by omega)
   have e3:((X.2 i).fro=(X.2 k).fro)=False:=eq_false c3
   by_cases c4:(X.2 i).fro=(X.2 k).tow
   ·have e4:((X.2 i).fro=(X.2 k).tow)=True:=eq_true c4
    have hs:dB (i+1)=true:=hs.1 ⟨c2,c1,.inr c4⟩
    simp only[fi,e1,e2,e3,e4,gh,l4,↓reduceIte,reduceCtorEq,Nat.reduceEqDiff,Nat.reduceAdd,Nat.reduceSub,Nat.reduceLeDiff,Nat.reducePow,go_sem]
    repeat(refine And.intro (by omega) ?_)
    refine Ad (i+1) hil (by omega) ?_
    simp only[hs,↓reduceIte,reduceCtorEq,Nat.reduceEqDiff,Nat.reduceLT,go_sem]
    exact BH (by omega)
   have e4:((X.2 i).fro=(X.2 k).tow)=False:=eq_false c4
   have hs:dB (i+1)=dB i:=hs.2 fun q=>by
    rcases q.2.2 with q|q
    ·exact c3 q
    exact c4 q
   simp only[fi,e1,e2,e3,e4,gh,l4,↓reduceIte,reduceCtorEq,Nat.reduceEqDiff,Nat.reduceAdd,Nat.reduceSub,Nat.reduceLeDiff,Nat.reducePow,go_sem]
   repeat(refine And.intro (by omega) ?_)
   refine Ad (i+1) hil (by omega) ?_
   simp only[hs,↓reduceIte,reduceCtorEq,Nat.reduceEqDiff,Nat.reduceLT,go_sem]
   exact BH (by omega)
  have fi:((i:Int)<(k:Int))=False:=eq_false (by omega)
  obtain rfl:i=k:=by omega
  have hV:V i=if dB i=true then 1 else 2:=by
   rw[hvt,hE,if_neg Bool.false_ne_true]
  simp only[fi,hV,l4,k3,↓reduceIte,reduceCtorEq,Nat.reduceEqDiff,Nat.reduceSub,Nat.reducePow,go_sem]
  omega
 |true=>
  have hE:=As (hhis.1 rfl)
  simp only[fq,g4,k2,k6,k9,k10,l4,↓reduceIte,reduceCtorEq,Nat.reduceEqDiff,Nat.reduceAdd,Nat.reduceSub,Nat.reduceLeDiff,Int.reduceToNat,Int.reduceLE,Nat.reducePow,go_sem]
  obtain⟨LP,hLP⟩:∃LP:Nat->Prop,∀q,LP q↔∀m:Nat,(X.2 k).turn.fro<=m->(m:Int)<(X.2 k).turn.fro+q->¬((AE r X.2 k).le.2 m≠0/\(X.2 k).day<(AE r X.2 k).un.2 m):=⟨_,fun _=>Iff.rfl⟩
  refine AK (ι:=Nat×Bool) (fun q=>(X.2 k).turn.fro+q.1<=(X.2 k).turn.til/\(q.2=true↔LP q.1)) (fun q=>((X.2 k).turn.til-(X.2 k).turn.fro).toNat-q.1) [7,8,9,12,13] (fun q=>[(14,.int .u8 (if q.2=true then 0 else 3)),(19,.int .i64 ((X.2 k).turn.fro+q.1))]) (fun _=>[]) (0,true) ⟨by show(X.2 k).turn.fro+((0:Nat):Int)<=_;omega,⟨fun _=>(hLP 0).2 fun m m1 m2=>by omega,fun _=>rfl⟩⟩ (by
   simp only[↓reduceIte,reduceCtorEq,Nat.reduceEqDiff,Nat.reduceLT,go_sem]
   try omega) fun p hp=> ?_
  obtain⟨p,g⟩:=p
  obtain⟨hp1,hp2⟩:=hp
  have hp1:(X.2 k).turn.fro+(p:Int)<=(X.2 k).turn.til:=hp1
  have hp2:g=true↔LP p:=hp2
  by_cases hpl:(X.2 k).turn.fro+(p:Int)<(X.2 k).turn.til
  ·have fp:((X.2 k).turn.fro+(p:Int)<(X.2 k).turn.til)=True:=eq_true hpl
   obtain⟨m,hm⟩:∃m:Nat,(X.2 k).turn.fro+(p:Int)=m:=⟨((X.2 k).turn.fro+(p:Int)).toNat,by omega⟩
   have hw':IntKind.i64.wrap ((X.2 k).turn.fro+(p:Int)+1)=(X.2 k).turn.fro+((p+1:Nat):Int):=by rw[AU (by omega) (by omega)];omega
   have hsc:=Zv (Xi (r:=r) m k hlt) (d:=(X.2 k).day) x3
   simp only[fp,k2,k6,k9,k10,l4,↓reduceIte,reduceCtorEq,Nat.reduceEqDiff,Nat.reduceAdd,Nat.reduceSub,Nat.reduceLeDiff,Int.reduceToNat,Int.reduceLE,Nat.reducePow,go_sem]
   refine AK (ι:=Nat) (fun i=>i<=k) (fun i=>k-i) [7,8,9,12,13,14,19,163,164] (fun i=>[(20,.int .i64 (IT r X.2 m i).1),(21,.int .i64 (IT r X.2 m i).2),(165,.int .i64 i)]) (fun _=>[]) 0 (Nat.zero_le _) (by simp only[IT,↓reduceIte,reduceCtorEq,Nat.reduceEqDiff,Nat.reduceLT,go_sem];try rfl) fun i hi=> ?_
   by_cases hil:i<k
   ·have fi:((i:Int)<(k:Int))=True:=eq_true (by omega)
    have gh:=hxl i (by omega)
    have hs:IT r X.2 m (i+1)=if V i≠0 then IT r X.2 m i else if(X.2 i).kind=4 then(if EK (X.2 i) m then((X.2 i).til,(X.2 i).tow)else IT r X.2 m i)else if(X.2 i).kind=3/\(X.2 i).fro=(IT r X.2 m i).2 then(0,(IT r X.2 m i).2)else IT r X.2 m i:=by rw[IT,hVe]
    by_cases c0:V i=0
    case neg=>
     have d0:(V i=0)=False:=eq_false c0
     rw[if_pos c0]at hs
     simp only[fi,d0,gh,l4,↓reduceIte,reduceCtorEq,Nat.reduceEqDiff,Nat.reduceAdd,Nat.reduceSub,Nat.reduceLeDiff,Nat.reducePow,go_sem]
     repeat(refine And.intro (by omega) ?_)
     refine Ad (i+1) hil (by omega) ?_
     simp only[hs,↓reduceIte,reduceCtorEq,Nat.reduceEqDiff,Nat.reduceLT,go_sem]
     exact BH (by omega)
    have d0:(V i=0)=True:=eq_true c0
    rw[if_neg (show¬(V i≠0)from fun z=>z c0)]at hs
    by_cases c1:(X.2 i).kind=4
    ·have d1:((X.2 i).kind=4)=True:=eq_true c1
     have d2:((X.2 i).kind=3)=False:=eq_false (by omega)
     have d3:((4:Int)=3)=False:=eq_false (by decide)
     rw[if_pos c1]at hs
     by_cases c3:(X.2 k).turn.fro+(p:Int)≥(X.2 i).turn.fro
     ·have d4:((X.2 k).turn.fro+(p:Int)≥(X.2 i).turn.fro)=True:=eq_true c3
      by_cases c4:(X.2 k).turn.fro+(p:Int)<(X.2 i).turn.til
      ·have d5:((X.2 k).turn.fro+(p:Int)<(X.2 i).turn.til)=True:=eq_true c4
       rw[if_pos (show EK (X.2 i) m from⟨by omega,by omega⟩)]at hs
       simp only[fi,d0,d1,d2,d4,d5,gh,l4,↓reduceIte,reduceCtorEq,Nat.reduceEqDiff,Nat.reduceAdd,Nat.reduceSub,Nat.reduceLeDiff,Nat.reducePow,go_sem]
       repeat(refine And.intro (by omega) ?_)
       refine Ad (i+1) hil (by omega) ?_
       simp only[hs,↓reduceIte,reduceCtorEq,Nat.reduceEqDiff,Nat.reduceLT,go_sem]
       exact BH (by omega)
      have d5:((X.2 k).turn.fro+(p:Int)<(X.2 i).turn.til)=False:=eq_false c4
      rw[if_neg (show¬EK (X.2 i) m from fun z=>by have:=z.2;omega)]at hs
      simp only[fi,d0,d1,d2,d4,d5,gh,l4,↓reduceIte,reduceCtorEq,Nat.reduceEqDiff,Nat.reduceAdd,Nat.reduceSub,Nat.reduceLeDiff,Nat.reducePow,go_sem]
      repeat(refine And.intro (by omega) ?_)
      refine Ad (i+1) hil (by omega) ?_
      simp only[hs,↓reduceIte,reduceCtorEq,Nat.reduceEqDiff,Nat.reduceLT,go_sem]
      exact BH (by omega)
     have d4:((X.2 k).turn.fro+(p:Int)≥(X.2 i).turn.fro)=False:=eq_false c3
     rw[if_neg (show¬EK (X.2 i) m from fun z=>by have:=z.1;omega)]at hs
     simp only[fi,d0,d1,d2,d4,gh,l4,↓reduceIte,reduceCtorEq,Nat.reduceEqDiff,Nat.reduceAdd,Nat.reduceSub,Nat.reduceLeDiff,Nat.reducePow,go_sem]
     repeat(refine And.intro (by omega) ?_)
     refine Ad (i+1) hil (by omega) ?_
     simp only[hs,↓reduceIte,reduceCtorEq,Nat.reduceEqDiff,Nat.reduceLT,go_sem]
     exact BH (by omega)
    have d1:((X.2 i).kind=4)=False:=eq_false c1
    rw[if_neg c1]at hs
    by_cases c2:(X.2 i).kind=3
    ·have d2:((X.2 i).kind=3)=True:=eq_true c2
     by_cases c3:(X.2 i).fro=(IT r X.2 m i).2
     ·have d3:((X.2 i).fro=(IT r X.2 m i).2)=True:=eq_true c3
      rw[if_pos ⟨c2,c3⟩]at hs
      simp only[fi,d0,d1,d2,d3,gh,l4,↓reduceIte,reduceCtorEq,Nat.reduceEqDiff,Nat.reduceAdd,Nat.reduceSub,Nat.reduceLeDiff,Nat.reducePow,go_sem]
      repeat(refine And.intro (by omega) ?_)
      refine Ad (i+1) hil (by omega) ?_
      simp only[hs,↓reduceIte,reduceCtorEq,Nat.reduceEqDiff,Nat.reduceLT,go_sem]
      exact BH (by omega)
     have d3:((X.2 i).fro=(IT r X.2 m i).2)=False:=eq_false c3
     rw[if_neg (fun z=>c3 z.2)]at hs
     simp only[fi,d0,d1,d2,d3,gh,l4,↓reduceIte,reduceCtorEq,Nat.reduceEqDiff,Nat.reduceAdd,Nat.reduceSub,Nat.reduceLeDiff,Nat.reducePow,go_sem]
     repeat(refine And.intro (by omega) ?_)
     refine Ad (i+1) hil (by omega) ?_
     simp only[hs,↓reduceIte,reduceCtorEq,Nat.reduceEqDiff,Nat.reduceLT,go_sem]
     exact BH (by omega)
    have d2:((X.2 i).kind=3)=False:=eq_false c2
    rw[if_neg (fun z=>c2 z.1)]at hs
    simp only[fi,d0,d1,d2,gh,l4,↓reduceIte,reduceCtorEq,Nat.reduceEqDiff,Nat.reduceAdd,Nat.reduceSub,Nat.reduceLeDiff,Nat.reducePow,go_sem]
    repeat(refine And.intro (by omega) ?_)
    refine Ad (i+1) hil (by omega) ?_
    simp only[hs,↓reduceIte,reduceCtorEq,Nat.reduceEqDiff,Nat.reduceLT,go_sem]
    exact BH (by omega)
   have fi:((i:Int)<(k:Int))=False:=eq_false (by omega)
   obtain rfl:i=k:=by omega
   by_cases c:(X.2 i).day<(IT r X.2 m i).1
   ·have d1:((X.2 i).day<(IT r X.2 m i).1)=True:=eq_true c
    simp only[fi,d1,↓reduceIte,reduceCtorEq,Nat.reduceEqDiff,Nat.reduceAdd,Nat.reduceLeDiff,go_sem]
    repeat(refine And.intro (by omega) ?_)
    refine Ad (p+1,false) ⟨by show(X.2 i).turn.fro+((p+1:Nat):Int)<=_;omega,⟨fun z=>(by cases z),fun z=>absurd (hsc.2 c) ((hLP (p+1)).1 z m (by omega) (by omega))⟩⟩ (by show _-(p+1)<_-p;omega) ?_
    simp only[hw',↓reduceIte,reduceCtorEq,Nat.reduceEqDiff,Nat.reduceLT,go_sem]
   have d1:((X.2 i).day<(IT r X.2 m i).1)=False:=eq_false c
   have hup:LP (p+1)↔LP p:=by
    rw[hLP,hLP]
    refine⟨fun z a a1 a2=>z a a1 (by omega),fun z a a1 a2=> ?_⟩
    by_cases e:a=m
    ·subst e;exact fun y=>c (hsc.1 y)
    exact z a a1 (by omega)
   simp only[fi,d1,↓reduceIte,reduceCtorEq,Nat.reduceEqDiff,Nat.reduceAdd,Nat.reduceLeDiff,go_sem]
   repeat(refine And.intro (by omega) ?_)
   refine Ad (p+1,g) ⟨by show(X.2 i).turn.fro+((p+1:Nat):Int)<=_;omega,hp2.trans hup.symm⟩ (by show _-(p+1)<_-p;omega) ?_
   simp only[hw',↓reduceIte,reduceCtorEq,Nat.reduceEqDiff,Nat.reduceLT,go_sem]
  have fp:((X.2 k).turn.fro+(p:Int)<(X.2 k).turn.til)=False:=eq_false hpl
  have hlet:g=true↔Kw (AE r X.2 k) (X.2 k):=by
   rw[hp2,hLP]
   exact⟨fun z m m1 m2=>z m m1 (by omega),fun z m m1 m2=>z m m1 (by omega)⟩
  have hL:A4 (Kw (AE r X.2 k) (X.2 k))=g:=by
   cases g with
   |true=>exact As (hlet.1 rfl)
   |false=>exact Am fun z=>by have:=hlet.2 z;cases this
  simp only[fp,k2,k6,k9,k10,l4,↓reduceIte,reduceCtorEq,Nat.reduceEqDiff,Nat.reduceAdd,Nat.reduceSub,Nat.reduceLeDiff,Int.reduceToNat,Int.reduceLE,Nat.reducePow,go_sem]
  refine AK (ι:=Nat) (fun i=>i<=k) (fun i=>k-i) [7,9,12,13,212,213] (fun i=>[(14,.int .u8 (if dB i=true then 1 else(if g=true then 0 else 3))),(214,.int .i64 i)]) (fun _=>[]) 0 (Nat.zero_le _) (by simp only[hd0,↓reduceIte,reduceCtorEq,Nat.reduceEqDiff,Nat.reduceLT,go_sem];try rfl) fun i hi=> ?_
  by_cases hil:i<k
  ·have fi:((i:Int)<(k:Int))=True:=eq_true (by omega)
   have gh:=hxl i (by omega)
   have hs:=hds i
   by_cases c1:(X.2 i).kind=3
   case neg=>
    have e1:((X.2 i).kind=3)=False:=eq_false c1
    have hs:dB (i+1)=dB i:=hs.2 fun q=>c1 q.2.1
    simp only[fi,e1,gh,l4,↓reduceIte,reduceCtorEq,Nat.reduceEqDiff,Nat.reduceAdd,Nat.reduceSub,Nat.reduceLeDiff,Nat.reducePow,go_sem]
    repeat(refine And.intro (by omega) ?_)
    refine Ad (i+1) hil (by omega) ?_
    simp only[hs,↓reduceIte,reduceCtorEq,Nat.reduceEqDiff,Nat.reduceLT,go_sem]
    exact BH (by omega)
   have e1:((X.2 i).kind=3)=True:=eq_true c1
   by_cases c2:V i=0
   case neg=>
    have e2:(V i=0)=False:=eq_false c2
    have hs:dB (i+1)=dB i:=hs.2 fun q=>c2 q.1
    simp only[fi,e1,e2,gh,l4,↓reduceIte,reduceCtorEq,Nat.reduceEqDiff,Nat.reduceAdd,Nat.reduceSub,Nat.reduceLeDiff,Nat.reducePow,go_sem]
    repeat(refine And.intro (by omega) ?_)
    refine Ad (i+1) hil (by omega) ?_
    simp only[hs,↓reduceIte,reduceCtorEq,Nat.reduceEqDiff,Nat.reduceLT,go_sem]
    exact BH (by omega)
   have e2:(V i=0)=True:=eq_true c2
   by_cases c3:(X.2 i).fro=(X.2 k).fro
   ·have e3:((X.2 i).fro=(X.2 k).fro)=True:=eq_true c3
    have hs:dB (i+1)=true:=hs.1 ⟨c2,c1,.inl c3⟩
    simp only[fi,e1,e2,e3,gh,l4,↓reduceIte,reduceCtorEq,Nat.reduceEqDiff,Nat.reduceAdd,Nat.reduceSub,Nat.reduceLeDiff,Nat.reducePow,go_sem]
    repeat(refine And.intro (by omega) ?_)
    refine Ad (i+1) hil (by omega) ?_
    simp only[hs,↓reduceIte,reduceCtorEq,Nat.reduceEqDiff,Nat.reduceLT,go_sem]
    exact BH (by omega)
   have e3:((X.2 i).fro=(X.2 k).fro)=False:=eq_false c3
   by_cases c4:(X.2 i).fro=(X.2 k).tow
   ·have e4:((X.2 i).fro=(X.2 k).tow)=True:=eq_true c4
    have hs:dB (i+1)=true:=hs.1 ⟨c2,c1,.inr c4⟩
    simp only[fi,e1,e2,e3,e4,gh,l4,↓reduceIte,reduceCtorEq,Nat.reduceEqDiff,Nat.reduceAdd,Nat.reduceSub,Nat.reduceLeDiff,Nat.reducePow,go_sem]
    repeat(refine And.intro (by omega) ?_)
    refine Ad (i+1) hil (by omega) ?_
    simp only[hs,↓reduceIte,reduceCtorEq,Nat.reduceEqDiff,Nat.reduceLT,go_sem]
    exact BH (by omega)
   have e4:((X.2 i).fro=(X.2 k).tow)=False:=eq_false c4
   have hs:dB (i+1)=dB i:=hs.2 fun q=>by
    rcases q.2.2 with q|q
    ·exact c3 q
    exact c4 q
   simp only[fi,e1,e2,e3,e4,gh,l4,↓reduceIte,reduceCtorEq,Nat.reduceEqDiff,Nat.reduceAdd,Nat.reduceSub,Nat.reduceLeDiff,Nat.reducePow,go_sem]
   repeat(refine And.intro (by omega) ?_)
   refine Ad (i+1) hil (by omega) ?_
   simp only[hs,↓reduceIte,reduceCtorEq,Nat.reduceEqDiff,Nat.reduceLT,go_sem]
   exact BH (by omega)
  have fi:((i:Int)<(k:Int))=False:=eq_false (by omega)
  obtain rfl:i=k:=by omega
  have hV:V i=if dB i=true then 1 else(if g=true then 0 else 3):=by
   rw[hvt,hE,if_pos rfl,if_pos h4,hL]
  simp only[fi,hV,l4,k3,↓reduceIte,reduceCtorEq,Nat.reduceEqDiff,Nat.reduceSub,Nat.reducePow,go_sem]
  omega
end Go.Proofs.YtlieoghhkioflaaGreat
