/- Deeds: the shares add up to the whole cycle, plain. No condition. -/
import Derived.Test.YtlieoghhkioflaaGreatDmo
import Derived.Test.YtlieoghhkioflaaGreatDsp
import Derived.Test.YtlieoghhkioflaaGreatACodeL13
set_option linter.unusedSimpArgs false
set_option linter.unusedVariables false
set_option maxRecDepth 100000
namespace Go.Proofs.YtlieoghhkioflaaGreat
variable{q:QX}{c:Int->Int}{N k:Nat}{f:Nat->Int}{r:Ro}
def Wb(b:Bk):Prop:=∀m,0<=b.le.2 m/\b.le.2 m<=9999
theorem XZ{b:Bk}{x:De}(hx:C5 r x)(h:Wb b):Wb (MB b x):=fun m=>by
 have h0:=h m
 obtain⟨_,_,_,_,_,_,h7⟩:=hx
 unfold MB
 split
 ·show 0<=(if b.le.2 m=x.fro then 0 else b.le.2 m)/\(if b.le.2 m=x.fro then 0 else b.le.2 m)<=9999
  split<;>omega
 split
 ·exact h0
 split
 ·exact h0
 split
 ·have ht:1<=x.tow/\x.tow<=9999:=by
   unfold E8 at h7
   rcases h7 with⟨h,h7,_⟩|⟨h,_⟩|⟨h,_⟩|⟨h,h7,_⟩<;>omega
  show 0<=(if F0 x m then x.tow else b.le.2 m)/\(if F0 x m then x.tow else b.le.2 m)<=9999
  split<;>omega
 exact h0
theorem PD{l:Nat->De}:∀k,(∀i,i<k->C5 r (l i))->Wb (AY r l k)
 |0,_=>fun m=>⟨Int.le_refl _,by show(0:Int)<=9999;decide⟩
 |k+1,h=>by
  have ih:=PD k fun i hi=>h i (by omega)
  rw[AY,E6];split
  ·exact XZ (h k (by omega)) ih
  exact ih
theorem V5{l:Gi}(ha:BA r l=0)(d:Int):EB (fun m=>Dh (Db r l d) m d) (AN r):=Yc _ _ fun m hm=>by
 have h1:=LE ha d m hm
 have h2:Wb (Db r l d):=PD _ fun i hi=>Qq ha i (by have:=HQ (C6 l) d;omega)
 have h2:=h2 m
 show 0<=Dh (Db r l d) m d/\Dh (Db r l d) m d<=9999
 unfold Dh;split<;>omega
def H8(l:Oh)(w:Int):Nat->Int
 |0=>0
 |j+1=>H8 l w j+if(l.2 j).who=w then(l.2 j).turn.til-(l.2 j).turn.fro else 0
theorem Xy(l:Oh)(i:Nat):Fb l (i+1)=(l.2 i).turn.til:=by unfold Fb;rw[if_neg (by omega),Nat.add_sub_cancel]
theorem EB.sum(h:EB f N)(w:Int):∀j,j<=(Ah f N).1->H8 (Ah f N) w j=Cd f (Fb (Ah f N) j).toNat w
 |0,_=>rfl
 |j+1,hj=>by
  have ih:=EB.sum h w j (by omega)
  obtain⟨_,_,w3,w4,_⟩:=h.own j (by omega)
  have lo:=h.lo j (by omega)
  have hat:=h.at_ j (by omega)
  rw[H8,ih,Xy]
  have e:((Ah f N).2 j).turn.til.toNat=(Fb (Ah f N) j).toNat+(((Ah f N).2 j).turn.til-((Ah f N).2 j).turn.fro).toNat:=by omega
  rw[e,Hl (w:=((Ah f N).2 j).who) w _ fun q q1 q2=>hat q (by omega) (by omega)]
  have:(((((Ah f N).2 j).turn.til-((Ah f N).2 j).turn.fro).toNat:Nat):Int)=((Ah f N).2 j).turn.til-((Ah f N).2 j).turn.fro:=by omega
  rw[this]
theorem EB.total(h:EB f N)(w:Int):H8 (Ah f N) w (Ah f N).1=Cd f N w:=by
 rw[h.sum w _ (Nat.le_refl _),h.fin];rfl
theorem EB.part(h:EB f N)(w:Int){j:Nat}(hj:j<=(Ah f N).1):0<=H8 (Ah f N) w j/\H8 (Ah f N) w j<=N:=by
 have h1:=Mx f (Fb (Ah f N) j).toNat w
 have h2:=EB.le h ((Ah f N).1-j) j (by omega)
 rw[h.sum w j hj];omega
def Fv(q:QX):Nat->Int
 |0=>0
 |j+1=>Fv q j+(q.2 j).mins
def Jw(q:QX)(j:Nat):Int:=if j=0 then-1 else(q.2 (j-1)).who
structure Hd(c:Int->Int)(k:Nat)(q:QX):Prop where
 ent:∀i,i<q.1->0<=(q.2 i).who/\(q.2 i).who<k/\(q.2 i).mins=c (q.2 i).who/\0<(q.2 i).mins
 asc:∀i,0<i->i<q.1->(q.2 (i-1)).who<(q.2 i).who
 sum:Fv q q.1=AG (fun w=>c w) k
theorem J6{p:QX}:∀j,(∀i,i<j->q.2 i=p.2 i)->Fv q j=Fv p j
 |0,_=>rfl
 |j+1,h=>by rw[Fv,Fv,J6 j fun i hi=>h i (by omega),h j (by omega)]
theorem Xz(hc:∀w:Nat,0<=c w):∀k,Hd c k (By c k)
 |0=>⟨fun i hi=>absurd hi (Nat.not_lt_zero _),fun i _ hi=>absurd hi (Nat.not_lt_zero _),rfl⟩
 |k+1=>by
  obtain⟨h1,h2,h3⟩:=Xz hc k
  have hk:=hc k
  by_cases c0:0<c k
  ·have e:By c (k+1)=((By c k).1+1,fun i=>if i<(By c k).1 then(By c k).2 i else⟨k,c k⟩):=by rw[By,if_pos c0]
   rw[e]
   generalize By c k=q at*
   refine⟨fun i hi=> ?_,fun i h0 hi=> ?_,?_⟩
   ·have hi:i<q.1+1:=hi
    show 0<=(if i<q.1 then q.2 i else(⟨k,c k⟩:Hs)).who/\(if i<q.1 then q.2 i else(⟨k,c k⟩:Hs)).who<((k+1:Nat):Int)/\(if i<q.1 then q.2 i else(⟨k,c k⟩:Hs)).mins=c (if i<q.1 then q.2 i else(⟨k,c k⟩:Hs)).who/\0<(if i<q.1 then q.2 i else(⟨k,c k⟩:Hs)).mins
    by_cases e1:i<q.1
    ·rw[if_pos e1]
     obtain⟨a1,a2,a3,a4⟩:=h1 i e1
     exact⟨a1,by omega,a3,a4⟩
    rw[if_neg e1]
    exact⟨by show(0:Int)<=k;omega,by show(k:Int)<_;omega,rfl,c0⟩
   ·have hi:i<q.1+1:=hi
    show(if i-1<q.1 then q.2 (i-1)else(⟨k,c k⟩:Hs)).who<(if i<q.1 then q.2 i else(⟨k,c k⟩:Hs)).who
    rw[if_pos (by omega)]
    by_cases e1:i<q.1
    ·rw[if_pos e1];exact h2 i h0 e1
    rw[if_neg e1];exact(h1 (i-1) (by omega)).2.1
   show Fv _ (q.1+1)=_
   rw[Fv,AG,<-h3,J6 (p:=q) q.1 fun i hi=>if_pos hi]
   show _+(if q.1<q.1 then q.2 q.1 else(⟨k,c k⟩:Hs)).mins=_
   rw[if_neg (Nat.lt_irrefl _)]
  have e:By c (k+1)=By c k:=by rw[By,if_neg c0]
  rw[e]
  refine⟨fun i hi=> ?_,h2,?_⟩
  ·obtain⟨a1,a2,a3,a4⟩:=h1 i hi
   exact⟨a1,by omega,a3,a4⟩
  rw[AG,h3];omega
theorem KO(f g:Nat->Int):∀k,AG (fun i=>f i+g i) k=AG f k+AG g k
 |0=>rfl
 |k+1=>by rw[AG,AG,AG,KO f g k];omega
theorem M5(v:Int):∀k:Nat,AG (fun w=>if v=(w:Int)then 1 else 0) k=if 0<=v/\v<k then 1 else 0
 |0=>by rw[if_neg (by omega)];rfl
 |k+1=>by
  rw[AG,M5 v k]
  by_cases e:v=(k:Int)
  ·rw[if_pos e,if_neg (by omega),if_pos (by omega)];rfl
  rw[if_neg e]
  by_cases c:0<=v/\v<k
  ·rw[if_pos c,if_pos (by omega)];rfl
  rw[if_neg c,if_neg (by omega)];rfl
theorem QF(f:Nat->Int)(K:Nat):∀N,(∀m,m<N->0<=f m/\f m<K)->AG (fun w=>Cd f N w) K=N
 |0,_=>by
  have:∀k,AG (fun w:Nat=>Cd f 0 w) k=0:=fun k=>by
   induction k with
   |zero=>rfl
   |succ k ih=>rw[AG,ih];rfl
  rw[this];rfl
 |N+1,h=>by
  have ih:=QF f K N fun m hm=>h m (by omega)
  have e:(fun w:Nat=>Cd f (N+1) w)=fun w:Nat=>Cd f N w+if f N=(w:Int)then 1 else 0:=funext fun w=>Ut f N w
  rw[e,KO,ih,M5,if_pos (h N (by omega))];omega
theorem Hd.part(h:Hd c k q):∀d j,j+d=q.1->Fv q j<=Fv q q.1
 |0,j,e=>by rw[<-e];exact Int.le_refl _
 |d+1,j,e=>by
  have:=Hd.part h d (j+1) (by omega)
  have h1:=(h.ent j (by omega)).2.2.2
  rw[Fv]at this;omega
theorem Hd.nn(h:Hd c k q):∀j,j<=q.1->0<=Fv q j
 |0,_=>Int.le_refl _
 |j+1,hj=>by
  have:=Hd.nn h j (by omega)
  have h1:=(h.ent j (by omega)).2.2.2
  rw[Fv];omega
theorem Hd.last(h:Hd c k q){j:Nat}(hj:j<q.1):Jw q j<(q.2 j).who:=by
 unfold Jw
 split
 ·have:=(h.ent j hj).1;omega
 exact h.asc j (by omega) hj
end Go.Proofs.YtlieoghhkioflaaGreat
namespace Go.Proofs.YtlieoghhkioflaaGreat
open Go Go.RowKit
variable{G:Nat->Option (Nat×(Nat->Ad))}
noncomputable def atR(r:Ro)(l:Gi)(d m:Int):Ad:=if BA r l=0 then(if 0<=d/\d<=100000 then(if 0<=m/\m<=(AN r:Int)-1 then .tup (.cons (.int .i64 ((Db r l d).ow.2 m.toNat)) (.cons (.int .i64 (Dh (Db r l d) m.toNat d)) (.cons (.int .i64 0) .nil)))else .tup (.cons (.int .i64 0) (.cons (.int .i64 0) (.cons (.int .i64 2) .nil))))else .tup (.cons (.int .i64 0) (.cons (.int .i64 0) (.cons (.int .i64 2) .nil))))else .tup (.cons (.int .i64 0) (.cons (.int .i64 0) (.cons (.int .i64 (BA r l)) .nil)))
noncomputable def UP:As:=Am (Ag Ja (Ag (Dw FT) (Ag TI (Ag TI AV)))) (fun _=>True) fun a=>atR a.1 a.2.1 a.2.2.1 a.2.2.2.1
theorem YI{r:Ro}{l:Gi}{d:Int}(ha:BA r l=0)(h0:0<=d)(h1:d<=100000):shQ r l d= .tup (.cons (QM (By (Cd (Db r l d).ow.2 (AN r)) 10000)) (.cons (.int .i64 0) .nil)):=by
 rw[shQ,if_pos ha,if_pos ⟨h0,h1⟩]
def Vt:As:=Kr Ja (Dw FT) TI TI (fun _ _ _ _=>True) fun _ _ _ _=> .bool true
set_option maxHeartbeats 4000000 in
theorem Wc:Ai Tryz.prog G 13 Vt:=by
 refine fn4 (S:=[(25,D5),(26,D7),(16,LH),(18,Q3),(20,UP),(34,Kf),(33,UA)]) (I:=[]) mixed
  (.cons SM (.cons Ts (.cons (show Ai Tryz.prog G _ LH from JY) (.cons (show Ai Tryz.prog G _ Q3 from M1) (.cons (show Ai Tryz.prog G _ UP from AcD) (.cons UX (.cons AaV .nil))))))) .nil Tryz.func13 c13 fun r l day minute _ hw=> ?_
 simp only[Nat.reduceSub,Nat.reducePow,go_sem]at hw
 obtain⟨w1,w2⟩:=hw
 by_cases hrd:Ps r l=true
 case neg=>
  have hrd:Ps r l=false:=by simpa using hrd
  simp only[AU,a13,D5,D7,hrd,w1,w2,↓reduceIte,reduceCtorEq,Nat.reduceEqDiff,Nat.reduceAdd,Nat.reduceSub,Int.reduceNeg,Nat.reducePow,go_sem]
 by_cases c1:day<0
 ·have f1:(day<0)=True:=eq_true c1
  simp only[AU,a13,D5,D7,hrd,f1,w1,w2,↓reduceIte,reduceCtorEq,Nat.reduceEqDiff,Nat.reduceAdd,Nat.reduceSub,Int.reduceNeg,Nat.reducePow,go_sem]
 have f1:(day<0)=False:=eq_false c1
 by_cases c3:day>100000
 ·have f3:(day>100000)=True:=eq_true c3
  simp only[AU,a13,D5,D7,hrd,f1,f3,w1,w2,↓reduceIte,reduceCtorEq,Nat.reduceEqDiff,Nat.reduceAdd,Nat.reduceSub,Int.reduceNeg,Nat.reducePow,go_sem]
 have f3:(day>100000)=False:=eq_false c3
 obtain⟨hng,ha⟩:=XK hrd
 have hr:=(CJ ha).1
 obtain⟨hN1,hN2⟩:=PF hr
 have o1:=ON (d:=day) ha (by omega) (by omega)
 have o3:=YI (d:=day) ha (by omega) (by omega)
 have hA:=GB ha day
 have hU:=V5 ha day
 have hat:atR r l day minute=if 0<=minute/\minute<=(AN r:Int)-1 then .tup (.cons (.int .i64 ((Db r l day).ow.2 minute.toNat)) (.cons (.int .i64 (Dh (Db r l day) minute.toNat day)) (.cons (.int .i64 0) .nil)))else .tup (.cons (.int .i64 0) (.cons (.int .i64 0) (.cons (.int .i64 2) .nil))):=by
  rw[atR,if_pos ha,if_pos ⟨by omega,by omega⟩]
 have hwA:A9 (XJ r (Ah (Db r l day).ow.2 (AN r)))=true:=Au (hA.whole hN2)
 have hwU:A9 (XJ r (Ah (fun m=>Dh (Db r l day) m day) (AN r)))=true:=Au (hU.whole hN2)
 have hq:=Xz (c:=Cd (Db r l day).ow.2 (AN r)) (fun w=>(Mx _ _ _).1) 10000
 have hql:=NM (Cd (Db r l day).ow.2 (AN r)) 10000
 have hqs:Fv (By (Cd (Db r l day).ow.2 (AN r)) 10000) (By (Cd (Db r l day).ow.2 (AN r)) 10000).1=AN r:=by
  rw[hq.sum];exact QF _ _ _ fun m hm=>by have:=LE ha day m hm;omega
 have htot:=hA.total
 have hpart:=fun w j hj=>hA.part w (j:=j) hj
 have hoA:=fun m (hm:m<AN r)=>hA.of hm
 have hoU:=fun m (hm:m<AN r)=>hU.of hm
 have lA:=Cx (Db r l day).ow.2 (AN r)
 have lU:=Cx (fun m=>Dh (Db r l day) m day) (AN r)
 have wA:=hA.own
 have pA:=fun i (hi:i<(Ah (Db r l day).ow.2 (AN r)).1)=>(⟨hA.lo i (by omega),EB.le hA ((Ah (Db r l day).ow.2 (AN r)).1-(i+1)) (i+1) (by omega)⟩:_/\_)
 generalize hAe:Ah (Db r l day).ow.2 (AN r)=A at*
 generalize hUe:Ah (fun m=>Dh (Db r l day) m day) (AN r)=U at*
 generalize hqe:By (Cd (Db r l day).ow.2 (AN r)) 10000=q at*
 generalize hce:Cd (Db r l day).ow.2 (AN r)=c at*
 generalize AN r=N at*
 have hd:(1<=r.days/\r.days<=16)=True:=eq_true ⟨hr.1,hr.2.1⟩
 have l1:(A.1<=9223372036854775807)=True:=eq_true (by omega)
 have l3:(U.1<=9223372036854775807)=True:=eq_true (by omega)
 have l4:(q.1<=9223372036854775807)=True:=eq_true (by omega)
 simp only[AU,a13,D5,D7,hrd,f1,f3,LH,Q3,Am,Ag,AV,o1,o3,IW,QM,Kf,hwA,hwU,hd,l1,l3,l4,w1,w2,↓reduceIte,reduceCtorEq,Nat.reduceEqDiff,Nat.reduceAdd,Nat.reduceSub,Nat.reduceLT,Int.reduceNeg,Nat.reducePow,go_sem]
 refine AK (ι:=Nat) (fun j=>j<=q.1) (fun j=>q.1-j) [1,2,3,4,9,10,11,76,77] (fun j=>[(15,.int .i64 (Fv q j)),(16,.int .i64 (Jw q j)),(78,.int .i64 j)]) (fun _=>[]) 0 (Nat.zero_le _) (by simp only[Fv,Jw,↓reduceIte,reduceCtorEq,Nat.reduceEqDiff,Nat.reduceLT,Int.reduceNeg,go_sem];try rfl) fun j hj=> ?_
 by_cases hjl:j<q.1
 ·have fj:((j:Int)<(q.1:Int))=True:=eq_true (by omega)
  obtain⟨e1,e2,e3,e4⟩:=hq.ent j hjl
  have e5:=hq.last hjl
  simp only[fj,l1,↓reduceIte,reduceCtorEq,Nat.reduceEqDiff,Nat.reduceAdd,Nat.reduceSub,Nat.reducePow,go_sem]
  refine⟨by omega,?_⟩
  refine AK (ι:=Nat) (fun k=>k<=A.1) (fun k=>A.1-k) [1,2,3,4,9,10,11,15,16,18,76,77,78,82,83] (fun k=>[(19,.int .i64 (H8 A (q.2 j).who k)),(84,.int .i64 k)]) (fun _=>[]) 0 (Nat.zero_le _) (by simp only[H8,↓reduceIte,reduceCtorEq,Nat.reduceEqDiff,Nat.reduceLT,go_sem];try rfl) fun k hk=> ?_
  by_cases hkl:k<A.1
  ·have fk:((k:Int)<(A.1:Int))=True:=eq_true (by omega)
   have p1:=hpart (q.2 j).who k hk
   have p2:=hpart (q.2 j).who (k+1) hkl
   have p3:H8 A (q.2 j).who (k+1)=H8 A (q.2 j).who k+if(A.2 k).who=(q.2 j).who then(A.2 k).turn.til-(A.2 k).turn.fro else 0:=rfl
   have p4:=wA k hkl
   have p5:=pA k hkl
   rw[Xy]at p5
   obtain⟨_,_,p6,p7,_⟩:=p4
   have s1:IntKind.i64.wrap ((A.2 k).turn.til-(A.2 k).turn.fro)=(A.2 k).turn.til-(A.2 k).turn.fro:=AP (by omega) (by omega)
   by_cases hw:(A.2 k).who=(q.2 j).who
   ·rw[if_pos hw]at p3
    have s2:IntKind.i64.wrap (H8 A (q.2 j).who k+((A.2 k).turn.til-(A.2 k).turn.fro))=H8 A (q.2 j).who (k+1):=by rw[<-p3];exact AP (by omega) (by omega)
    have g1:((A.2 k).who=(q.2 j).who)=True:=eq_true hw
    simp only[fk,g1,s1,s2,↓reduceIte,reduceCtorEq,Nat.reduceEqDiff,Nat.reduceAdd,Nat.reduceLeDiff,go_sem]
    refine⟨by omega,Af (k+1) hkl (by omega) ?_⟩
    simp only[↓reduceIte,reduceCtorEq,Nat.reduceEqDiff,Nat.reduceLT,go_sem]
    exact Cj (by omega)
   rw[if_neg hw,Int.add_zero]at p3
   have g1:((A.2 k).who=(q.2 j).who)=False:=eq_false hw
   simp only[fk,g1,↓reduceIte,reduceCtorEq,Nat.reduceEqDiff,Nat.reduceAdd,Nat.reduceLeDiff,go_sem]
   refine⟨by omega,Af (k+1) hkl (by omega) ?_⟩
   simp only[p3,↓reduceIte,reduceCtorEq,Nat.reduceEqDiff,Nat.reduceLT,go_sem]
   exact Cj (by omega)
  have fk:((k:Int)<(A.1:Int))=False:=eq_false (by omega)
  obtain rfl:k=A.1:=by omega
  have t1:H8 A (q.2 j).who A.1=(q.2 j).mins:=by rw[htot,e3]
  have t2:=hq.part (q.1-(j+1)) (j+1) (by omega)
  have t3:=hq.nn j hj
  have t4:Fv q (j+1)=Fv q j+(q.2 j).mins:=rfl
  have t5:Jw q (j+1)=(q.2 j).who:=by unfold Jw;rw[if_neg (by omega),Nat.add_sub_cancel]
  have g1:((q.2 j).who<=Jw q j)=False:=eq_false (by omega)
  have g2:((q.2 j).mins<1)=False:=eq_false (by omega)
  have g3:IntKind.i64.wrap (Fv q j+(q.2 j).mins)=Fv q j+(q.2 j).mins:=AP (by omega) (by omega)
  simp only[fk,t1,g1,g2,g3,↓reduceIte,reduceCtorEq,Nat.reduceEqDiff,Nat.reduceAdd,Nat.reduceLeDiff,go_sem]
  refine Af (j+1) hjl (by omega) ?_
  simp only[t4,t5,↓reduceIte,reduceCtorEq,Nat.reduceEqDiff,Nat.reduceLT,go_sem]
  exact Cj (by omega)
 have fj:((j:Int)<(q.1:Int))=False:=eq_false (by omega)
 obtain rfl:j=q.1:=by omega
 have m1:IntKind.i64.wrap (r.days*1440)=(N:Int):=by rw[AP (by omega) (by omega)];omega
 by_cases c5:minute<0
 ·have f5:(minute<0)=True:=eq_true c5
  rw[if_neg (by omega)]at hat
  simp only[fj,hqs,m1,f5,UP,Am,Ag,AV,hat,w1,w2,↓reduceIte,reduceCtorEq,Nat.reduceEqDiff,Nat.reduceAdd,Nat.reduceSub,Nat.reduceLeDiff,Nat.reduceLT,Nat.reducePow,go_sem]
 have f5:(minute<0)=False:=eq_false c5
 by_cases c6:minute≥(N:Int)
 ·have f6:(minute≥(N:Int))=True:=eq_true c6
  rw[if_neg (by omega)]at hat
  simp only[fj,hqs,m1,f5,f6,UP,Am,Ag,AV,hat,w1,w2,↓reduceIte,reduceCtorEq,Nat.reduceEqDiff,Nat.reduceAdd,Nat.reduceSub,Nat.reduceLeDiff,Nat.reduceLT,Nat.reducePow,go_sem]
 have f6:(minute≥(N:Int))=False:=eq_false c6
 rw[if_pos ⟨by omega,by omega⟩]at hat
 obtain⟨m,hm⟩:∃m:Nat,minute=m:=⟨minute.toNat,by omega⟩
 have h5:=hoA m (by omega)
 have h6:Wn U m=Dh (Db r l day) m day:=hoU m (by omega)
 rw[<-hm]at h5 h6
 rw[hm,Int.toNat_natCast,<-h5,<-h6,<-hm]at hat
 simp only[fj,hqs,m1,f5,f6,UP,Am,Ag,AV,hat,UA,l1,l3,w1,w2,↓reduceIte,reduceCtorEq,Nat.reduceEqDiff,Nat.reduceAdd,Nat.reduceSub,Nat.reduceLeDiff,Nat.reduceLT,Nat.reducePow,go_sem]
end Go.Proofs.YtlieoghhkioflaaGreat
