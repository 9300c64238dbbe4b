/- Deeds: what is the mosque's stays so, plain. No condition. -/
import Derived.Test.YtlieoghhkioflaaGreatDPvP
import Derived.Test.YtlieoghhkioflaaGreatACodeL8
set_option linter.unusedSimpArgs false
set_option linter.unusedVariables false
set_option maxRecDepth 100000
namespace Go.Proofs.YtlieoghhkioflaaGreat
variable{l:Gi}{d e:Int}{m:Nat}{r:Ro}
theorem UM{b:Bk}{x:De}(h:BU b x=0):HC b x:=by
 unfold BU at h
 split at h
 ·exact absurd h (by decide)
 split at h
 ·exact AX.1 (by assumption)
 exact absurd h (by decide)
theorem WY{b:Bk}{x:De}(hx:C5 r x)(hv:BU b x=0)(h:b.ow.2 m=0):(MB b x).ow.2 m=0:=by
 have hf:1<=x.fro:=hx.2.2.2.2.1
 have hin:¬F0 x m:=fun hi=>by
  have:=UM hv m hi.1 hi.2
  omega
 unfold MB
 split
 ·show(if b.ow.2 m=x.fro then _ else b.ow.2 m)=0
  rw[if_neg (by omega)];exact h
 split
 ·show(if F0 x m then x.tow else b.ow.2 m)=0
  rw[if_neg hin];exact h
 split
 ·show(if F0 x m then 0 else b.ow.2 m)=0
  rw[if_neg hin];exact h
 split
 ·exact h
 exact h
theorem Ke{l:Nat->De}{k:Nat}:∀d,(∀i,i<k+d->C5 r (l i))->(AY r l k).ow.2 m=0->(AY r l (k+d)).ow.2 m=0
 |0,_,h=>h
 |d+1,hl,h=>by
  have ih:=Ke d (fun i hi=>hl i (by omega)) h
  rw[<-Nat.add_assoc,AY,E6]
  split
  ·exact WY (hl (k+d) (by omega)) (by assumption) ih
  exact ih
theorem HQ(l:Gi)(d:Int):Bs l d<=l.1:=by
 have:=Be (fun i=>d<(l.2 i).day) l.1
 unfold Bs;omega
theorem Q4(l:Gi)(h:d<=e):Bs l d<=Bs l e:=by
 rcases Nat.lt_or_ge (Bs l e) (Bs l d)with q|q
 ·have h1:=HQ l d
  rcases Be (fun i=>e<(l.2 i).day) l.1 with⟨g1,g2,_⟩|⟨g1,_⟩
  ·have g2:e<(l.2 (Bs l e)).day:=g2
   rcases Be (fun i=>d<(l.2 i).day) l.1 with⟨_,_,f3⟩|⟨_,f3⟩
   ·exact absurd (show d<(l.2 (Bs l e)).day by omega) (f3 (Bs l e) q)
   exact absurd (show d<(l.2 (Bs l e)).day by omega) (f3 (Bs l e) (by omega))
  have g1:Bs l e=l.1:=g1
  omega
 exact q
theorem Qq(ha:BA r l=0):∀i,i<(C6 l).1->C5 r ((C6 l).2 i):=fun i hi=>by
 obtain⟨k,k1,_,k2⟩:=GC l i hi
 rw[k2];exact(CJ ha).2.2.1 k k1
theorem LE(ha:BA r l=0)(d:Int):Sc (Db r l d) (AN r):=JM (CJ ha).1 _ fun i hi=>Qq ha i (by have:=HQ (C6 l) d;omega)
theorem GB(ha:BA r l=0)(d:Int):EB (Db r l d).ow.2 (AN r):=Yc _ _ (LE ha d)
theorem W9(ha:BA r l=0)(h:d<=e)(hm:(Db r l d).ow.2 m=0):(Db r l e).ow.2 m=0:=by
 have h1:=Q4 (C6 l) h
 have h2:=Ke (r:=r) (l:=(C6 l).2) (m:=m) (k:=Bs (C6 l) d) (Bs (C6 l) e-Bs (C6 l) d) (fun i hi=>Qq ha i (by have:=HQ (C6 l) e;omega)) hm
 rwa[show Bs (C6 l) d+(Bs (C6 l) e-Bs (C6 l) d)=Bs (C6 l) e by omega]at h2
theorem WI(ha:BA r l=0)(hm:Id r m=0):(Db r l e).ow.2 m=0:=by
 have h2:=Ke (r:=r) (l:=(C6 l).2) (m:=m) (k:=0) (Bs (C6 l) e) (fun i hi=>Qq ha i (by have:=HQ (C6 l) e;omega)) hm
 rwa[Nat.zero_add]at h2
def Zd(B:Oh)(N:Nat)(h:Ho):Prop:=h.who=0->0<=h.turn.fro/\h.turn.fro<h.turn.til/\h.turn.til<=N/\∀m:Int,h.turn.fro<=m->m<h.turn.til->Wn B m=0
theorem TM(ha:BA r l=0)(h:d<=e){i:Nat}(hi:i<(Ah (Db r l d).ow.2 (AN r)).1):Zd (Ah (Db r l e).ow.2 (AN r)) (AN r) ((Ah (Db r l d).ow.2 (AN r)).2 i):=fun hw=>by
 have h1:=GB ha d
 have h2:=GB ha e
 obtain⟨_,_,w3,w4,_⟩:=h1.own i hi
 have lo:=h1.lo i (by omega)
 have hs:Fb (Ah (Db r l d).ow.2 (AN r)) (i+1)=((Ah (Db r l d).ow.2 (AN r)).2 i).turn.til:=by unfold Fb;rw[if_neg (by omega),Nat.add_sub_cancel]
 have hle:=EB.le h1 ((Ah (Db r l d).ow.2 (AN r)).1-(i+1)) (i+1) (by omega)
 rw[hs]at hle
 refine⟨by omega,by omega,hle,fun m m1 m2=> ?_⟩
 obtain⟨q,rfl⟩:∃q:Nat,m=q:=⟨m.toNat,by omega⟩
 rw[h2.of (by omega)]
 exact W9 ha h ((h1.at_ i hi q m1 m2).trans hw)
theorem UE(ha:BA r l=0){i:Nat}(hi:i<r.holds.1):Zd (Ah (Db r l e).ow.2 (AN r)) (AN r) (r.holds.2 i):=fun hw=>by
 have hr:=(CJ ha).1
 have h2:=GB ha e
 obtain⟨w1,w2,w3,w4,w5⟩:=hr.2.2.2.2.1 i hi
 have lo:=P1 hr.2.2.2.2.1 i (by omega)
 have hN:(AN r:Int)=1440*r.days:=by have:=hr.1;unfold AN;omega
 refine⟨by omega,by omega,by omega,fun m m1 m2=> ?_⟩
 obtain⟨q,rfl⟩:∃q:Nat,m=q:=⟨m.toNat,by omega⟩
 rw[h2.of (by omega)]
 exact WI ha ((Je hr hi (by omega) m2).trans hw)
end Go.Proofs.YtlieoghhkioflaaGreat
namespace Go.Proofs.YtlieoghhkioflaaGreat
open Go Go.RowKit
variable{G:Nat->Option (Nat×(Nat->Ad))}
theorem ON{r:Ro}{l:Gi}{d:Int}(ha:BA r l=0)(h0:0<=d)(h1:d<=100000):owQ r l d= .tup (.cons (IW (Ah (Db r l d).ow.2 (AN r))) (.cons (IW (Ah (fun m=>Dh (Db r l d) m d) (AN r))) (.cons (.int .i64 0) .nil))):=by
 rw[owQ,if_pos ha,if_pos ⟨h0,h1⟩]
theorem PF{r:Ro}(hr:EQ r):AN r<=23040/\(AN r:Int)=r.days*1440:=by
 have:=hr.1;have:=hr.2.1;unfold AN;omega
def Vl:As:=Kr Ja (Dw FT) TI TI (fun _ _ _ _=>True) fun _ _ _ _=> .bool true
set_option maxHeartbeats 4000000 in
theorem VN:Ai Tryz.prog G 8 Vl:=by
  refine fn4 (S:=[(25,D5),(26,D7),(16,LH),(34,Kf),(33,UA)]) (I:=[]) mixed
    (.cons SM (.cons Ts (.cons (show Ai Tryz.prog G _ LH from JY) (.cons UX (.cons AaV .nil))))) .nil Tryz.func8 c8 fun r l day later _ hw=> ?_
  simp only[Nat.reduceSub,Nat.reducePow,go_sem]at hw
  obtain⟨w1,w2⟩:=hw
  by_cases hrd:Ps r l=true
  case neg=>
    have hrd:Ps r l=false:=by simpa using hrd
    simp only[AU,a8,D5,D7,hrd,w1,w2,↓reduceIte,reduceCtorEq,Nat.reduceEqDiff,Nat.reduceAdd,Nat.reduceSub,Nat.reducePow,go_sem]
  by_cases c1:day<0
  ·have f1:(day<0)=True:=eq_true c1
   simp only[AU,a8,D5,D7,hrd,f1,w1,w2,↓reduceIte,reduceCtorEq,Nat.reduceEqDiff,Nat.reduceAdd,Nat.reduceSub,Nat.reducePow,go_sem]
  have f1:(day<0)=False:=eq_false c1
  by_cases c2:later<day
  ·have f2:(later<day)=True:=eq_true c2
   simp only[AU,a8,D5,D7,hrd,f1,f2,w1,w2,↓reduceIte,reduceCtorEq,Nat.reduceEqDiff,Nat.reduceAdd,Nat.reduceSub,Nat.reducePow,go_sem]
  have f2:(later<day)=False:=eq_false c2
  by_cases c3:later>100000
  ·have f3:(later>100000)=True:=eq_true c3
   simp only[AU,a8,D5,D7,hrd,f1,f2,f3,w1,w2,↓reduceIte,reduceCtorEq,Nat.reduceEqDiff,Nat.reduceAdd,Nat.reduceSub,Nat.reducePow,go_sem]
  have f3:(later>100000)=False:=eq_false c3
  obtain⟨hng,ha⟩:=XK hrd
  have hr:=(CJ ha).1
  obtain⟨hN1,hN2⟩:=PF hr
  have o1:=ON (d:=day) ha (by omega) (by omega)
  have o2:=ON (d:=later) ha (by omega) (by omega)
  have hA:=GB ha day
  have hB:=GB ha later
  have hwB:A9 (XJ r (Ah (Db r l later).ow.2 (AN r)))=true:=Au (hB.whole hN2)
  have hm1:=fun i (hi:i<r.holds.1)=>UE ha (e:=later) hi
  have hm2:=fun i hi=>TM ha (d:=day) (e:=later) (by omega) (i:=i) hi
  have lA:=Cx (Db r l day).ow.2 (AN r)
  have lB:=Cx (Db r l later).ow.2 (AN r)
  have lU:=Cx (fun m=>Dh (Db r l day) m day) (AN r)
  have lV:=Cx (fun m=>Dh (Db r l later) m later) (AN r)
  generalize Ah (Db r l day).ow.2 (AN r)=A at*
  generalize Ah (Db r l later).ow.2 (AN r)=B at*
  generalize Ah (fun m=>Dh (Db r l day) m day) (AN r)=U at*
  generalize Ah (fun m=>Dh (Db r l later) m later) (AN r)=V at*
  generalize AN r=N at*
  have hd:(1<=r.days/\r.days<=16)=True:=eq_true ⟨hr.1,hr.2.1⟩
  have hh:=hr.2.2.2.1
  have l1:(A.1<=9223372036854775807)=True:=eq_true (by omega)
  have l2:(B.1<=9223372036854775807)=True:=eq_true (by omega)
  have l3:(U.1<=9223372036854775807)=True:=eq_true (by omega)
  have l4:(V.1<=9223372036854775807)=True:=eq_true (by omega)
  have n0:∀i:Nat,(i<0)=False:=fun i=>eq_false (Nat.not_lt_zero i)
  have nz:∀i:Nat,i-0=i:=fun i=>Nat.sub_zero i
  have b1:(r.holds.1*24<=140737488355328)=True:=eq_true (by omega)
  have b2:((r.holds.1+A.1)*24<=140737488355328)=True:=eq_true (by omega)
  simp only[AU,a8,D5,D7,hrd,f1,f2,f3,LH,Am,Ag,AV,o1,o2,IW,Kf,hwB,hd,l1,l2,l3,l4,n0,nz,b1,b2,w1,w2,↓reduceIte,reduceCtorEq,Nat.reduceEqDiff,Nat.reduceAdd,Nat.reduceSub,Nat.reduceLT,Nat.reducePow,go_sem]
  obtain⟨H,hH⟩:∃H:Nat->Ho,∀i,H i=if i<r.holds.1 then r.holds.2 i else A.2 (i-r.holds.1):=⟨_,fun _=>rfl⟩
  have hM:∀i,i<r.holds.1+A.1->Zd B N (H i):=fun i hi=>by
    rw[hH]
    split
    ·exact hm1 i (by assumption)
    exact hm2 _ (by omega)
  refine⟨by omega,?_⟩
  refine AK (ι:=Nat) (fun i=>i<=r.holds.1+A.1) (fun i=>r.holds.1+A.1-i) [4,9,13,78,79] (fun i=>[(80,.int .i64 i)]) (fun _=>[(1,.row 47 3 (r.holds.1+A.1) fun i j=>(H i).c j)]) 0 (Nat.zero_le _) (by
    simp only[↓reduceIte,reduceCtorEq,Nat.reduceEqDiff,Nat.reduceLT,go_sem]
    intro a _ c _
    rw[hH]
    split<;>exact B7 _) fun i hi=> ?_
  by_cases hil:i<r.holds.1+A.1
  ·have fi:((i:Int)<((r.holds.1+A.1:Nat):Int))=True:=eq_true (by omega)
   by_cases hw:(H i).who=0
   case neg=>
     have g0:((H i).who=0)=False:=eq_false hw
     simp only[fi,g0,l2,↓reduceIte,reduceCtorEq,Nat.reduceEqDiff,Nat.reduceAdd,Nat.reduceSub,Nat.reduceLeDiff,Nat.reducePow,go_sem]
     refine⟨by omega,Af (i+1) hil (by omega) ?_⟩
     simp only[↓reduceIte,reduceCtorEq,Nat.reduceEqDiff,Nat.reduceLT,go_sem]
     exact Cj (by omega)
   obtain⟨g1,g2,g3,g4⟩:=hM i hil hw
   simp only[fi,hw,l2,↓reduceIte,reduceCtorEq,Nat.reduceEqDiff,Nat.reduceAdd,Nat.reduceSub,Nat.reduceLeDiff,Nat.reducePow,go_sem]
   refine⟨by omega,?_⟩
   refine AK (ι:=Nat×Bool) (fun q=>q.1<=B.1) (fun q=>B.1-q.1) [4,9,13,17,78,79,80,87,88] (fun q=>[(18,.bool q.2),(89,.int .i64 q.1)]) (fun _=>[]) (0,false) (Nat.zero_le _) (by simp only[↓reduceIte,reduceCtorEq,Nat.reduceEqDiff,Nat.reduceLT,go_sem]) fun q hq=> ?_
   obtain⟨j,v⟩:=q
   have hq:j<=B.1:=hq
   by_cases hjl:j<B.1
   ·have fj:((j:Int)<(B.1:Int))=True:=eq_true (by omega)
    cases v<;>by_cases c1:(B.2 j).who=0<;>by_cases c2:(B.2 j).turn.fro<=(H i).turn.fro<;>by_cases c3:(B.2 j).turn.til≥(H i).turn.til
    all_goals
      simp only[fj,c1,c2,c3,↓reduceIte,reduceCtorEq,Nat.reduceEqDiff,Nat.reduceAdd,Nat.reduceLeDiff,go_sem]
      first
        |(refine⟨by omega,Af (j+1,true) hjl (by show B.1-(j+1)<B.1-j;omega) ?_⟩
          simp only[↓reduceIte,reduceCtorEq,Nat.reduceEqDiff,Nat.reduceLT,go_sem]
          exact Cj (by omega))
        |(refine⟨by omega,Af (j+1,false) hjl (by show B.1-(j+1)<B.1-j;omega) ?_⟩
          simp only[↓reduceIte,reduceCtorEq,Nat.reduceEqDiff,Nat.reduceLT,go_sem]
          exact Cj (by omega))
   have fj:((j:Int)<(B.1:Int))=False:=eq_false (by omega)
   cases v with
   |true=>
     simp only[fj,↓reduceIte,reduceCtorEq,Nat.reduceEqDiff,go_sem]
     refine Af (i+1) hil (by omega) ?_
     simp only[↓reduceIte,reduceCtorEq,Nat.reduceEqDiff,Nat.reduceLT,go_sem]
     exact Cj (by omega)
   |false=>
     simp only[fj,↓reduceIte,reduceCtorEq,Nat.reduceEqDiff,Nat.reduceAdd,Nat.reduceLeDiff,go_sem]
     refine AK (ι:=Nat) (fun k=>(H i).turn.fro+k<=(H i).turn.til) (fun k=>((H i).turn.til-(H i).turn.fro).toNat-k) [4,9,13,17,78,79,80] (fun k=>[(21,.int .i64 ((H i).turn.fro+k))]) (fun _=>[]) 0 (by show(H i).turn.fro+((0:Nat):Int)<=_;omega) (by
       simp only[↓reduceIte,reduceCtorEq,Nat.reduceEqDiff,Nat.reduceLT,go_sem]
       omega) fun k hk=> ?_
     by_cases hkl:(H i).turn.fro+k<(H i).turn.til
     ·have fk:((H i).turn.fro+(k:Int)<(H i).turn.til)=True:=eq_true hkl
      have gk:=g4 ((H i).turn.fro+k) (by omega) hkl
      simp only[fk,gk,UA,l2,↓reduceIte,reduceCtorEq,Nat.reduceEqDiff,Nat.reduceAdd,Nat.reduceSub,Nat.reducePow,go_sem]
      refine Af (k+1) (by show(H i).turn.fro+((k+1:Nat):Int)<=_;omega) (by omega) ?_
      simp only[↓reduceIte,reduceCtorEq,Nat.reduceEqDiff,Nat.reduceLT,go_sem]
      rw[AP (by omega) (by omega)];omega
     have fk:((H i).turn.fro+(k:Int)<(H i).turn.til)=False:=eq_false hkl
     simp only[fk,↓reduceIte,reduceCtorEq,Nat.reduceEqDiff,Nat.reduceAdd,go_sem]
     refine Af (i+1) hil (by omega) ?_
     simp only[↓reduceIte,reduceCtorEq,Nat.reduceEqDiff,Nat.reduceLT,go_sem]
     exact Cj (by omega)
  have fi:((i:Int)<((r.holds.1+A.1:Nat):Int))=False:=eq_false (by omega)
  simp only[fi,↓reduceIte,reduceCtorEq,Nat.reduceEqDiff,go_sem]
end Go.Proofs.YtlieoghhkioflaaGreat
