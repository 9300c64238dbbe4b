/- Deeds: parts of a number, plain. No condition. -/
import Derived.Test.YtlieoghhkioflaaGreatLDoor
import Derived.Test.YtlieoghhkioflaaGreatACode1
set_option linter.unusedSimpArgs false
set_option linter.unusedVariables false
set_option maxRecDepth 100000
namespace Go.Proofs.YtlieoghhkioflaaGreat
variable{n:Int}{a b i k t:Nat}{P q:Nat->Bool}{p:Nat->Int}
def E1(p:Nat->Bool):Nat->Nat
 |0=>0
 |k+1=>if p k=true then E1 p k+1 else E1 p k
theorem GO(p:Nat->Bool):∀k,E1 p k<=k
 |0=>Nat.le_refl _
 |k+1=>by have:=GO p k;rw[E1];split<;>omega
theorem FV{p:Nat->Bool}:∀k,(∀i,i<k->p i=true->q i=true)->E1 p k<=E1 q k
 |0,_=>Nat.le_refl _
 |k+1,h=>by
  have:=FV k fun i hi=>h i (by omega)
  rw[E1,E1]
  by_cases e:p k=true
  ·rw[if_pos e,if_pos (h k (by omega) e)];omega
  rw[if_neg e];split<;>omega
theorem YF(p:Nat->Bool)(h:a<=b):E1 p a<=E1 p b:=by
  induction b with
  |zero=>obtain rfl:a=0:=by omega
         exact Nat.le_refl _
  |succ b ih=>
    by_cases e:a=b+1
    ·subst e;exact Nat.le_refl _
    have:=ih (by omega);rw[E1];split<;>omega
theorem K6{p:Nat->Bool}(k:Nat)(h:∀i,i<k->p i=q i):E1 p k=E1 q k:=
 Nat.le_antisymm (FV k fun i hi e=>by rw[<-h i hi];exact e) (FV k fun i hi e=>by rw[h i hi];exact e)
theorem Lj(p:Nat->Bool)(b:Nat)(hb:p b=false):∀k,E1 (fun i=>p i||decide (i=b)) k=E1 p k+(if b<k then 1 else 0)
 |0=>rfl
 |k+1=>by
  have ih:=Lj p b hb k
  rw[E1,E1,ih]
  by_cases e:k=b
  ·subst e
   simp[hb]
  have:(p k||decide (k=b))=p k:=by simp[e]
  rw[this]
  have e3:(b<k+1)=(b<k):=by apply propext;omega
  simp only[e3]
  split<;>split<;>omega
theorem Wt{p:Nat->Bool}(k:Nat)(h:∀i,i<k->p i=true):E1 p k=k:=by
 induction k with
 |zero=>rfl
 |succ k ih=>rw[E1,if_pos (h k (by omega)),ih fun i hi=>h i (by omega)]
theorem Tt{p:Nat->Bool}(k:Nat)(h:∀i,i<k->p i=true->q i=true)(b:Nat)(hb:b<k)(h1:p b=false)(h2:q b=true):E1 p k<E1 q k:=by
 have h3:=Lj p b h1 k
 rw[if_pos hb]at h3
 have:=FV (p:=fun i=>p i||decide (i=b)) (q:=q) k fun i hi e=>by
  simp only[Bool.or_eq_true,decide_eq_true_eq]at e
  rcases e with e|e
  ·exact h i hi e
  rw[e];exact h2
 omega
def AN(f:Nat->Int):Nat->Int
 |0=>0
 |k+1=>AN f k+f k
theorem I3(f:Nat->Int):∀k,(∀i,i<k->0<=f i)->0<=AN f k/\∀i,i<k->f i<=AN f k
 |0,_=>⟨Int.le_refl _,fun i hi=>by omega⟩
 |k+1,h=>by
  obtain⟨h1,h2⟩:=I3 f k fun i hi=>h i (by omega)
  have h3:=h k (by omega)
  refine⟨by rw[AN];omega,fun i hi=> ?_⟩
  rw[AN]
  by_cases e:i=k
  ·subst e;omega
  have:=h2 i (by omega);omega
def FM(n:Int)(p:Nat->Int)(k:Nat)(i:Nat):Int:=n*p i%AN p k
def DD(n:Int)(p:Nat->Int)(k:Nat)(i:Nat):Int:=n*p i/AN p k
def DH(n:Int)(p:Nat->Int)(k:Nat)(j i:Nat):Bool:=decide (FM n p k i<FM n p k j\/FM n p k i=FM n p k j/\j<i)
def DG(n:Int)(p:Nat->Int)(k:Nat):Int:=n-AN (DD n p k) k
def FF(n:Int)(p:Nat->Int)(k:Nat)(i:Nat):Int:=DD n p k i+if(E1 (fun j=>DH n p k j i) k:Int)<DG n p k then 1 else 0
theorem G9(f g:Nat->Int):∀k,(∀i,i<k->f i<=g i)->AN f k<=AN g k
 |0,_=>Int.le_refl _
 |k+1,h=>by have:=G9 f g k fun i hi=>h i (by omega);have:=h k (by omega);simp only[AN];omega
theorem Fs(c:Int):∀k,AN (fun _=>c) k=k*c
 |0=>by simp[AN]
 |k+1=>by rw[AN,Fs c k,Int.natCast_succ,Int.add_mul,Int.one_mul]
theorem Kd(c:Int)(f:Nat->Int):∀k,AN (fun i=>c*f i) k=c*AN f k
 |0=>by simp[AN]
 |k+1=>by rw[AN,Kd c f k,AN,Int.mul_add]
theorem JK(f g:Nat->Int):∀k,AN (fun i=>f i+g i) k=AN f k+AN g k
 |0=>rfl
 |k+1=>by simp only[AN,JK f g k];omega
theorem El{f g:Nat->Int}:∀k,(∀i,i<k->f i=g i)->AN f k=AN g k
 |0,_=>rfl
 |k+1,h=>by simp only[AN];rw[El k fun i hi=>h i (by omega),h k (by omega)]
theorem NM(n:Int)(p:Nat->Int)(k:Nat):AN p k*DG n p k=AN (FM n p k) k:=by
 have h1:AN (fun i=>n*p i) k=n*AN p k:=Kd n p k
 have h2:AN (fun i=>n*p i) k=AN (fun i=>AN p k*DD n p k i+FM n p k i) k:=El k fun i _=>(Int.mul_ediv_add_emod (n*p i) (AN p k)).symm
 rw[h1,JK,Kd]at h2
 unfold DG
 rw[Int.mul_sub,Int.mul_comm _ n]
 omega
theorem L4(hs:0<AN p k):0<=DG n p k:=by
 have h1:=NM n p k
 have h2:0<=AN (FM n p k) k:=by
  have:=G9 (fun _=>0) (FM n p k) k fun i _=>Int.emod_nonneg _ (by omega)
  rw[Fs]at this;simpa using this
 rcases Int.lt_or_le (DG n p k) 0 with h|h
 ·have:AN p k*DG n p k<0:=Int.mul_neg_of_pos_of_neg hs h
  omega
 exact h
theorem PZ(hk:0<k)(hs:0<AN p k):DG n p k<k:=by
 have h1:=NM n p k
 have h2:AN (FM n p k) k<=k*(AN p k-1):=by
  have:=G9 (FM n p k) (fun _=>AN p k-1) k fun i _=>by have:=Int.emod_lt_of_pos (n*p i) hs;show n*p i%AN p k<=_;omega
  rwa[Fs]at this
 rcases Int.lt_or_le (DG n p k) k with h|h
 ·exact h
 have h3:AN p k*(k:Int)<=AN p k*DG n p k:=Int.mul_le_mul_of_nonneg_left h (by omega)
 rw[Int.mul_sub,Int.mul_one,Int.mul_comm (k:Int)]at h2
 omega
structure NZ(n:Int)(p:Nat->Int)(k:Nat)(P:Nat->Bool)(t:Nat):Prop where
 up:∀i j,i<k->j<k->DH n p k j i=true->P i=true->P j=true
 cnt:E1 P k=t
theorem FE(n:Int)(p:Nat->Int)(k i:Nat):DH n p k i i=false:=decide_eq_false (by omega)
theorem TE{j:Nat}(h:i≠j):DH n p k i j=true\/DH n p k j i=true:=by
 simp only[DH,decide_eq_true_eq];omega
theorem Ig{c:Nat}(h1:DH n p k a b=true)(h2:DH n p k b c=true):DH n p k a c=true:=by
 simp only[DH,decide_eq_true_eq]at*;omega
theorem NZ.iff(h:NZ n p k P t)(hi:i<k):P i=decide (E1 (fun j=>DH n p k j i) k<t):=by
 cases hP:P i with
 |true=>
  symm;rw[decide_eq_true_eq,<-h.cnt]
  exact Tt k (fun j hj e=>h.up i j hi hj e hP) i hi (FE n p k i) hP
 |false=>
  symm;rw[decide_eq_false_iff_not,<-h.cnt]
  refine Nat.not_lt.2 (FV k fun j hj e=> ?_)
  have hne:i≠j:=fun e2=>by subst e2;rw[hP]at e;cases e
  rcases TE (n:=n) (p:=p) (k:=k) hne with h1|h1
  ·have:=h.up j i hj hi h1 e
   rw[hP]at this;cases this
  exact h1
theorem NZ.zero(n:Int)(p:Nat->Int)(k:Nat):NZ n p k (fun _=>false) 0:=⟨fun _ _ _ _ _ h=>h,by induction k with|zero=>rfl|succ k ih=>rw[E1,if_neg (by simp),ih]⟩
theorem NZ.next(h:NZ n p k P t)(hb:b<k)(hPb:P b=false)(hbest:∀j,j<k->P j=false->DH n p k j b=false):NZ n p k (fun i=>P i||decide (i=b)) (t+1):=by
 refine⟨fun i j hi hj hbt hP=> ?_,by rw[Lj P b hPb,if_pos hb,h.cnt]⟩
 simp only[Bool.or_eq_true,decide_eq_true_eq]at hP⊢
 rcases hP with hP|rfl
 ·exact .inl (h.up i j hi hj hbt hP)
 cases e:P j with
 |true=>exact .inl rfl
 |false=>rw[hbest j hj e]at hbt;cases hbt
theorem NZ.free(h:NZ n p k P t)(ht:t<k):∃i,i<k/\P i=false:=by
 apply Classical.byContradiction
 intro hn
 have:E1 P k=k:=Wt k fun i hi=>by
  cases e:P i with
  |true=>rfl
  |false=>exact absurd ⟨i,hi,e⟩ hn
 rw[h.cnt]at this;omega
theorem NZ.congr{Q:Nat->Bool}(h:NZ n p k P t)(e:∀i,i<k->P i=Q i):NZ n p k Q t:=
 ⟨fun i j hi hj hb hq=>by rw[<-e j hj];exact h.up i j hi hj hb (by rw[e i hi];exact hq),by rw[<-h.cnt];exact(K6 k e).symm⟩
def MY(n:Int)(p:Nat->Int)(k i:Nat):Nat:=E1 (fun j=>DH n p k j i) k
theorem WD(n:Int)(p:Nat->Int)(k:Nat)(P:Nat->Bool):∀m,m<=k->(∃i,i<m/\P i=false)->∃b,b<m/\P b=false/\∀j,j<m->P j=false->DH n p k j b=false:=by
 intro m
 induction m with
 |zero=>rintro _ ⟨i,hi,_⟩;omega
 |succ m ih=>
  rintro hm ⟨i,hi,hp⟩
  by_cases h:∃i,i<m/\P i=false
  ·obtain⟨b,b1,b2,b3⟩:=ih (by omega) h
   cases hPm:P m with
   |true=>
    exact⟨b,by omega,b2,fun j hj e=>by
     by_cases e2:j=m
     ·subst e2;rw[hPm]at e;cases e
     exact b3 j (by omega) e⟩
   |false=>
    cases hmb:DH n p k m b with
    |false=>exact⟨b,by omega,b2,fun j hj e=>by
      by_cases e2:j=m
      ·subst e2;exact hmb
      exact b3 j (by omega) e⟩
    |true=>exact⟨m,by omega,hPm,fun j hj e=>by
      by_cases e2:j=m
      ·subst e2;exact FE _ _ _ _
      cases hjm:DH n p k j m with
      |false=>rfl
      |true=>
       have h1:=Ig hjm hmb
       rw[b3 j (by omega) e]at h1;exact h1.symm⟩
  refine⟨m,by omega,?_,fun j hj e=> ?_⟩
  ·by_cases e2:i=m
   ·subst e2;exact hp
   exact absurd ⟨i,by omega,hp⟩ h
  by_cases e2:j=m
  ·subst e2;exact FE _ _ _ _
  exact absurd ⟨j,by omega,e⟩ h
theorem P1(n:Int)(p:Nat->Int)(k:Nat):∀t,t<=k->NZ n p k (fun i=>decide (MY n p k i<t)) t
 |0,_=>(NZ.zero n p k).congr fun i _=>by simp
 |t+1,h=>by
  have ih:=P1 n p k t (by omega)
  obtain⟨b,b1,b2,b3⟩:=WD n p k _ k (Nat.le_refl _) (ih.free (by omega))
  have h2:=ih.next b1 b2 b3
  exact h2.congr fun i hi=>h2.iff hi
theorem Pp(p:Nat->Bool):∀k,AN (fun i=>if p i=true then 1 else 0) k=(E1 p k:Int)
 |0=>rfl
 |k+1=>by
  rw[AN,Pp p k,E1]
  split<;>rename_i h<;>simp[]
theorem NF(hk:0<k)(hs:0<AN p k):AN (FF n p k) k=n:=by
 have h1:=L4 (n:=n) hs
 have h2:=PZ (n:=n) hk hs
 obtain⟨t,ht⟩:∃t:Nat,DG n p k=t:=⟨(DG n p k).toNat,by omega⟩
 have h3:=(P1 n p k t (by omega)).cnt
 have h4:AN (FF n p k) k=AN (fun i=>DD n p k i+if(decide (MY n p k i<t))=true then 1 else 0) k:=El k fun i hi=>by
  unfold FF
  rw[ht]
  unfold MY
  simp only[Int.ofNat_lt,decide_eq_true_eq]
 rw[h4,JK,Pp,h3,<-ht]
 unfold DG;omega
theorem Pt(hn:0<=n)(hp:0<=p i)(hs:0<AN p k):0<=FF n p k i:=by
 have:0<=DD n p k i:=Int.ediv_nonneg (Int.mul_nonneg hn hp) (by omega)
 unfold FF;split<;>omega
theorem EP{f:Nat->Int}{len:Nat}(h:∀i,i<len->0<=f i)(hab:a<=b)(hb:b<=len):AN f a<=AN f b:=by
  induction b with
  |zero=>obtain rfl:a=0:=by omega
         exact Int.le_refl _
  |succ b ih=>
    by_cases e:a=b+1
    ·subst e;exact Int.le_refl _
    have:=ih (by omega) (by omega);have:=h b (by omega);rw[AN];omega
end Go.Proofs.YtlieoghhkioflaaGreat
namespace Go.Proofs.YtlieoghhkioflaaGreat
open Go Go.RowKit
variable{G:Nat->Option (Nat×(Nat->Ad))}
noncomputable def MV{α:Type}(a b:Nat×(Nat->α)):Bool:=Bf (a.1=b.1/\∀i,i<a.1->a.2 i=b.2 i)
noncomputable def Oe:At:=C6 (DQ (BL .i64)) (DQ (BL .i64)) (fun _ _=>True) fun a b=> .bool (MV a b)
theorem YY:Aj Tryz.prog G 62 Oe:=by
 refine PE (S:=[]) (I:=[]) mixed .nil .nil Tryz.func62 c62 fun a b _ hw=> ?_
 simp only[Nat.reduceSub,Nat.reducePow,go_sem]at hw
 obtain⟨w1,w2⟩:=hw
 simp only[Bm,a62,w1,w2,↓reduceIte,reduceCtorEq,Nat.reduceEqDiff,Nat.reduceSub,Nat.reducePow,go_sem]
 refine⟨fun h=>(Aw fun k=>h (by omega)).symm,fun h=> ?_⟩
 refine A2 (ι:=Nat) (fun j=>j<=a.1/\∀i,i<j->a.2 i=b.2 i) (fun j=>a.1-j) [0,1] (fun j=>[(5,.int .i64 j)]) (fun _=>[]) 0 ⟨by omega,fun i h=>by omega⟩ (by simp only[↓reduceIte,reduceCtorEq,Nat.reduceEqDiff,go_sem];try rfl) fun j hj=> ?_
 obtain⟨hj1,hj2⟩:=hj
 simp only[w1,↓reduceIte,reduceCtorEq,Nat.reduceEqDiff,Nat.reduceSub,Nat.reducePow,go_sem]
 refine⟨fun hlt=>⟨by omega,by omega,by omega,by omega,fun h1=>(Aw fun k=> ?_).symm,fun h1=>Af (j+1) ⟨by omega,fun i hi=> ?_⟩ (by omega) ?_⟩,fun hge=> ?_⟩
 ·exact h1 (k.2 j (by omega))
 ·rcases Nat.lt_or_ge i j with h5|h5
  ·exact hj2 i h5
  obtain rfl:i=j:=by omega
  exact h1
 ·simp only[↓reduceIte,reduceCtorEq,Nat.reduceEqDiff,go_sem]
  rw[Cs (by omega)]
 exact(AA ⟨by omega,fun i hi=>hj2 i (by omega)⟩).symm
theorem Ack{a b:Pc}:(a.turn.fro==b.turn.fro&&(a.turn.til==b.turn.til&&a.baisa==b.baisa))=true↔a=b:=by
 obtain⟨⟨a1,a2⟩,a3⟩:=a;obtain⟨⟨b1,b2⟩,b3⟩:=b;simp[and_assoc]
noncomputable def LP:At:=C6 (DQ RPc) (DQ RPc) (fun _ _=>True) fun a b=> .bool (MV a b)
theorem VE:Aj Tryz.prog G 63 LP:=by
 refine PE (S:=[]) (I:=[]) mixed .nil .nil Tryz.func63 c63 fun a b _ hw=> ?_
 simp only[Nat.reduceSub,Nat.reducePow,go_sem]at hw
 obtain⟨w1,w2⟩:=hw
 simp only[Bm,a63,w1,w2,↓reduceIte,reduceCtorEq,Nat.reduceEqDiff,Nat.reduceSub,Nat.reducePow,go_sem]
 refine⟨fun h=>(Aw fun k=>h (by omega)).symm,fun h=> ?_⟩
 refine A2 (ι:=Nat) (fun j=>j<=a.1/\∀i,i<j->a.2 i=b.2 i) (fun j=>a.1-j) [0,1] (fun j=>[(5,.int .i64 j)]) (fun _=>[]) 0 ⟨by omega,fun i h=>by omega⟩ (by simp only[↓reduceIte,reduceCtorEq,Nat.reduceEqDiff,go_sem];try rfl) fun j hj=> ?_
 obtain⟨hj1,hj2⟩:=hj
 simp only[w1,↓reduceIte,reduceCtorEq,Nat.reduceEqDiff,Nat.reduceAdd,Nat.reduceSub,Nat.reducePow,go_sem]
 refine⟨fun hlt=>⟨by omega,by omega,by omega,by omega,fun h1=>(Aw fun k=> ?_).symm,fun h1=>Af (j+1) ⟨by omega,fun i hi=> ?_⟩ (by omega) ?_⟩,fun hge=> ?_⟩
 ·rw[k.2 j (by omega)]at h1;simp at h1
 ·rcases Nat.lt_or_ge i j with h5|h5
  ·exact hj2 i h5
  obtain rfl:i=j:=by omega
  exact Ack.1 h1
 ·simp only[↓reduceIte,reduceCtorEq,Nat.reduceEqDiff,go_sem]
  rw[Cs (by omega)]
 exact(AA ⟨by omega,fun i hi=>hj2 i (by omega)⟩).symm
end Go.Proofs.YtlieoghhkioflaaGreat
namespace Go.Proofs.YtlieoghhkioflaaGreat
open Go Go.RowKit
variable{G:Nat->Option (Nat×(Nat->Ad))}
def Nn(t:Tu):Prop:=0<=t.fro/\t.fro<t.til/\t.til<=23040
def Iq(t:Tu)(b:Bd):Prop:=(1<=b.who/\b.who<=9999)/\(t.fro<=b.turn.fro/\b.turn.fro<b.turn.til/\b.turn.til<=t.til)/\0<=b.baisa/\b.baisa<=1000000000
noncomputable def Du(t:Tu)(l:Nat×(Nat->Bd)):Int:=if Bf (Nn t)=true then(if 12<l.1 then 4 else if Bf (∀i,i<l.1->Iq t (l.2 i))=true then 0 else 43)else 2
noncomputable def GD:At:=C6 UP (DQ RN) (fun _ _=>True) fun t l=> .int .i64 (Du t l)
theorem XH:Aj Tryz.prog G 72 GD:=by
  refine PE (S:=[]) (I:=[(70,a70),(69,a69),(59,a59)]) mixed .nil (.cons Tryz.func70 c70 (.cons Tryz.func69 c69 (.cons Tryz.func59 c59 .nil))) Tryz.func72 c72 fun t l _ hw=> ?_
  simp only[Nat.reduceSub,Nat.reducePow,go_sem]at hw
  simp only[Bm,a72,a70,a69,a59,↓reduceIte,reduceCtorEq,Nat.reduceEqDiff,Nat.reduceAdd,Nat.reduceSub,Nat.reduceLeDiff,Nat.reducePow,go_sem]
  by_cases ht:Nn t
  ·rw[Du,AA ht]
   obtain⟨h1,h2,h3⟩:=ht
   refine⟨fun _=>⟨fun _=>⟨fun h=>absurd h3 h,fun _ _=>⟨fun h4=> ?_,fun h4=> ?_⟩⟩,fun h=>absurd h2 h⟩,fun h=>absurd h1 h⟩
   ·rw[if_pos rfl,if_pos (by omega)]
   rw[if_pos rfl,if_neg (by omega)]
   refine A2 (ι:=Nat) (fun j=>j<=l.1/\∀i,i<j->Iq t (l.2 i)) (fun j=>l.1-j) [1,2] (fun j=>[(5,.int .i64 j)]) (fun _=>[]) 0 ⟨by omega,fun i h=>by omega⟩ (by simp only[↓reduceIte,reduceCtorEq,Nat.reduceEqDiff,Nat.reduceLT,go_sem];try rfl) fun j hj=> ?_
   obtain⟨hj1,hj2⟩:=hj
   simp only[hw,↓reduceIte,reduceCtorEq,Nat.reduceEqDiff,Nat.reduceAdd,Nat.reduceSub,Nat.reduceLeDiff,Nat.reducePow,go_sem]
   refine⟨fun hlt=> ?_,fun hge=> ?_⟩
   ·have no:¬Iq t (l.2 j)->43=if Bf (∀i,i<l.1->Iq t (l.2 i))=true then 0 else(43:Int):=fun h=>by
      rw[Aw fun k=>h (k j (by omega))];rfl
    repeat'(first|omega|(with_reducible apply And.intro)|intro _)
    all_goals first
      |(refine no fun h=> ?_
        obtain⟨⟨_,_⟩,⟨_,_,_⟩,_,_⟩:=h
        omega)
      |skip
    refine Af (j+1) ⟨by omega,fun i hi=> ?_⟩ (by omega) ?_
    ·rcases Nat.lt_or_ge i j with h5|h5
     ·exact hj2 i h5
     obtain rfl:i=j:=by omega
     refine⟨⟨?_,?_⟩,⟨?_,?_,?_⟩,?_,?_⟩<;>omega
    simp only[↓reduceIte,reduceCtorEq,Nat.reduceEqDiff,Nat.reduceLT,go_sem]
    rw[Cs (by omega)]
   rw[AA fun i hi=>hj2 i (by omega)];rfl
  have e:Du t l=2:=by rw[Du,Aw ht];rfl
  rw[e]
  refine⟨fun h1=>⟨fun h2=>⟨fun _=>rfl,fun h3=>absurd ⟨h1,h2,h3⟩ ht⟩,fun _=>rfl⟩,fun _=>rfl⟩
end Go.Proofs.YtlieoghhkioflaaGreat
namespace Go.Proofs.YtlieoghhkioflaaGreat
open Go Go.RowKit
variable{G:Nat->Option (Nat×(Nat->Ad))}
abbrev I5:=Nat×(Nat->De)
noncomputable def Lo:At:=C6 (DQ NV) (DQ NV) (fun _ _=>True) fun a b=> .bool (MV a b)
theorem AbW{a b:Ho}:(a.who==b.who&&(a.turn.fro==b.turn.fro&&a.turn.til==b.turn.til))=true↔a=b:=by
 obtain⟨a1,⟨a2,a3⟩⟩:=a;obtain⟨b1,⟨b2,b3⟩⟩:=b;simp[]
theorem Vg:Aj Tryz.prog G 22 Lo:=by
 refine PE (S:=[]) (I:=[]) mixed .nil .nil Tryz.func22 c22 fun a b _ hw=> ?_
 simp only[Nat.reduceSub,Nat.reducePow,go_sem]at hw
 obtain⟨w1,w2⟩:=hw
 simp only[Bm,a22,w1,w2,↓reduceIte,reduceCtorEq,Nat.reduceEqDiff,Nat.reduceSub,Nat.reducePow,go_sem]
 refine⟨fun h=>(Aw fun k=>h (by omega)).symm,fun h=> ?_⟩
 refine A2 (ι:=Nat) (fun j=>j<=a.1/\∀i,i<j->a.2 i=b.2 i) (fun j=>a.1-j) [0,1] (fun j=>[(5,.int .i64 j)]) (fun _=>[]) 0 ⟨by omega,fun i h=>by omega⟩ (by simp only[↓reduceIte,reduceCtorEq,Nat.reduceEqDiff,go_sem];try rfl) fun j hj=> ?_
 obtain⟨hj1,hj2⟩:=hj
 simp only[w1,↓reduceIte,reduceCtorEq,Nat.reduceEqDiff,Nat.reduceAdd,Nat.reduceSub,Nat.reducePow,go_sem]
 refine⟨fun hlt=>⟨by omega,by omega,by omega,by omega,fun h1=>(Aw fun k=> ?_).symm,fun h1=>Af (j+1) ⟨by omega,fun i hi=> ?_⟩ (by omega) ?_⟩,fun hge=> ?_⟩
 ·rw[k.2 j (by omega)]at h1;simp at h1
 ·rcases Nat.lt_or_ge i j with h5|h5
  ·exact hj2 i h5
  obtain rfl:i=j:=by omega
  exact AbW.1 h1
 ·simp only[↓reduceIte,reduceCtorEq,Nat.reduceEqDiff,go_sem]
  rw[Cs (by omega)]
 exact(AA ⟨by omega,fun i hi=>hj2 i (by omega)⟩).symm
noncomputable def L6:At:=C6 (DQ N0) (DQ N0) (fun _ _=>True) fun a b=> .bool (MV a b)
theorem Ab7{a b:Hs}:(a.who==b.who&&a.mins==b.mins)=true↔a=b:=by
 obtain⟨a1,a2⟩:=a;obtain⟨b1,b2⟩:=b;simp[]
theorem Wj:Aj Tryz.prog G 23 L6:=by
 refine PE (S:=[]) (I:=[]) mixed .nil .nil Tryz.func23 c23 fun a b _ hw=> ?_
 simp only[Nat.reduceSub,Nat.reducePow,go_sem]at hw
 obtain⟨w1,w2⟩:=hw
 simp only[Bm,a23,w1,w2,↓reduceIte,reduceCtorEq,Nat.reduceEqDiff,Nat.reduceSub,Nat.reducePow,go_sem]
 refine⟨fun h=>(Aw fun k=>h (by omega)).symm,fun h=> ?_⟩
 refine A2 (ι:=Nat) (fun j=>j<=a.1/\∀i,i<j->a.2 i=b.2 i) (fun j=>a.1-j) [0,1] (fun j=>[(5,.int .i64 j)]) (fun _=>[]) 0 ⟨by omega,fun i h=>by omega⟩ (by simp only[↓reduceIte,reduceCtorEq,Nat.reduceEqDiff,go_sem];try rfl) fun j hj=> ?_
 obtain⟨hj1,hj2⟩:=hj
 simp only[w1,↓reduceIte,reduceCtorEq,Nat.reduceEqDiff,Nat.reduceAdd,Nat.reduceSub,Nat.reducePow,go_sem]
 refine⟨fun hlt=>⟨by omega,by omega,by omega,by omega,fun h1=>(Aw fun k=> ?_).symm,fun h1=>Af (j+1) ⟨by omega,fun i hi=> ?_⟩ (by omega) ?_⟩,fun hge=> ?_⟩
 ·rw[k.2 j (by omega)]at h1;simp at h1
 ·rcases Nat.lt_or_ge i j with h5|h5
  ·exact hj2 i h5
  obtain rfl:i=j:=by omega
  exact Ab7.1 h1
 ·simp only[↓reduceIte,reduceCtorEq,Nat.reduceEqDiff,go_sem]
  rw[Cs (by omega)]
 exact(AA ⟨by omega,fun i hi=>hj2 i (by omega)⟩).symm
noncomputable def G5(n a b:Int):Bool:=Bf (a<=n/\n<=b)
theorem Zt{i:Nat}(h:0<i)(h2:i<9223372036854775807):IntKind.i64.wrap ((i:Int)-1)=((i-1:Nat):Int):=by rw[AQ (by omega) (by omega)];omega
def Hr1(f:Int)(l:Nat×(Nat->Hr))(i:Nat):Prop:=1<=(l.2 i).who/\(l.2 i).who<=9999/\(l.2 i).who≠f/\1<=(l.2 i).parts/\(l.2 i).parts<=1000/\(0<i->(l.2 (i-1)).who<(l.2 i).who)
def GZ(fro:Int)(l:Nat×(Nat->Hr)):Prop:=1<=l.1/\l.1<=8/\∀i,i<l.1->Hr1 fro l i
def LF(r:Ro)(j:Nat):Int:=if j=0 then 0 else(r.holds.2 (j-1)).turn.til
def Hd1(r:Ro)(i:Nat):Prop:=0<=(r.holds.2 i).who/\(r.holds.2 i).who<=9999/\(r.holds.2 i).turn.fro=LF r i/\(r.holds.2 i).turn.fro<(r.holds.2 i).turn.til/\(r.holds.2 i).turn.til<=1440*r.days
def F5(r:Ro):Prop:=1<=r.days/\r.days<=16/\1<=r.holds.1/\r.holds.1<=60/\(∀i,i<r.holds.1->Hd1 r i)/\LF r r.holds.1=1440*r.days
end Go.Proofs.YtlieoghhkioflaaGreat
namespace Go.Proofs.YtlieoghhkioflaaGreat
open Go Go.RowKit
variable{G:Nat->Option (Nat×(Nat->Ad))}
theorem S0{n:Nat}{P:Prop}(h:n=0↔P):((n:Int)==0)=Bf P:=by
 by_cases h0:n=0
 ·rw[AA (h.1 h0)];subst h0;rfl
 rw[Aw fun k=>h0 (h.2 k)];exact beq_eq_false_iff_ne.2 (by omega)
theorem TR{n:Int}{P:Prop}(h:n=0↔P):(n==0)=Bf P:=by
 by_cases h0:n=0
 ·rw[AA (h.1 h0)];subst h0;rfl
 rw[Aw fun k=>h0 (h.2 k)];exact beq_eq_false_iff_ne.2 h0
def GE(r:Ro)(x:De):Prop:=0<=x.turn.fro/\x.turn.fro<x.turn.til/\x.turn.til<=1440*r.days
def Gf(x:De):Prop:=1<=x.tow/\x.tow<=9999/\x.tow≠x.fro
def D9(r:Ro)(x:De):Prop:=0<=x.id/\x.id<=9999/\0<=x.day/\x.day<=100000/\1<=x.fro/\x.fro<=9999/\
  (x.kind=1/\Gf x/\GE r x/\x.til=0/\x.heirs.1=0\/x.kind=2/\GE r x/\x.tow=0/\x.til=0/\x.heirs.1=0\/
   x.kind=3/\GZ x.fro x.heirs/\x.tow=0/\x.turn.fro=0/\x.turn.til=0/\x.til=0\/x.kind=4/\Gf x/\GE r x/\x.day+1<=x.til/\x.til<=100001/\x.heirs.1=0)
noncomputable def FC(a b:De):Prop:=a.id=b.id/\a.day=b.day/\a.kind=b.kind/\a.fro=b.fro/\a.tow=b.tow/\a.turn=b.turn/\a.til=b.til/\a.heirs.1=b.heirs.1/\∀i,i<a.heirs.1->a.heirs.2 i=b.heirs.2 i
noncomputable def D0(r:Ro)(l:I5):Int:=if 60<l.1 then 4 else if Bf (∀i,i<l.1->D9 r (l.2 i))=true then(if Bf (∀i,i<l.1->∀k,k<i->(l.2 i).id=(l.2 k).id->FC (l.2 i) (l.2 k))=true then 0 else 42)else 41
noncomputable def CI(r:Ro)(l:I5):Int:=if Bf (F5 r)=true then D0 r l else 40
end Go.Proofs.YtlieoghhkioflaaGreat
namespace Go.Proofs.YtlieoghhkioflaaGreat
open Go Go.RowKit
variable{G:Nat->Option (Nat×(Nat->Ad))}
theorem Jr(x:De):∀b,b<9->Au x.L b=x.c b:=fun b hb=>by
 rcases(by omega:b=0\/b=1\/b=2\/b=3\/b=4\/b=5\/b=6\/b=7\/b=8)with rfl|rfl|rfl|rfl|rfl|rfl|rfl|rfl|rfl<;>rfl
theorem BU(v:Ad):AC v v:=of_eq_true (Fz v)
def Bu(x y:De):Prop:=x.day<y.day\/x.day=y.day/\x.id<y.id
instance(x y:De):Decidable (Bu x y):=by unfold Bu;infer_instance
def de0:De:=⟨0,0,0,0,0,⟨0,0⟩,0,(0,fun _=>⟨0,0⟩)⟩
def Hd(x:De):List De->List De
 |[]=>[x]
 |y::L=>if Bu x y then x::y::L else y::Hd x L
def lD(L:List De)(i:Nat):De:=L.getD i de0
noncomputable def Kf(l:I5)(i:Nat):Bool:=Bf (∀k,k<i->(l.2 k).id≠(l.2 i).id)
noncomputable def BI(l:I5):Nat->List De
 |0=>[]
 |i+1=>if Kf l i=true then Hd (l.2 i) (BI l i)else BI l i
theorem Nd(x:De):∀L,(Hd x L).length=L.length+1
 |[]=>rfl
 |y::L=>by
  rw[Hd];split
  ·simp
  simp[Nd x L]
theorem KQ(l:I5):∀i,(BI l i).length<=i
 |0=>Nat.le_refl _
 |i+1=>by
  have:=KQ l i
  rw[BI];split
  ·rw[Nd];omega
  omega
theorem J2(x:De):∀(L:List De) (y:De),y∈Hd x L↔y=x\/y∈L
 |[],y=>by simp[Hd]
 |z::L,y=>by
  rw[Hd];split
  ·simp
  rw[List.mem_cons,J2 x L y,List.mem_cons];constructor<;>(rintro(h|h|h)<;>simp[h])
theorem Ko{x y z:De}(h1:Bu x y)(h2:Bu y z):Bu x z:=by unfold Bu at*;omega
theorem QS{x y:De}(h:x.id≠y.id):Bu x y\/Bu y x:=by unfold Bu at*;omega
theorem IG(x:De):∀(L:List De),L.Pairwise Bu->(∀y∈L,y.id≠x.id)->(Hd x L).Pairwise Bu
 |[],_,_=>by simp[Hd]
 |z::L,h,hx=>by
  rw[List.pairwise_cons]at h
  rw[Hd];split
  ·rename_i hb
   rw[List.pairwise_cons,List.pairwise_cons]
   exact⟨fun y hy=>by rcases List.mem_cons.1 hy with rfl|hy;exact hb;exact Ko hb (h.1 y hy),h⟩
  rename_i hb
  rw[List.pairwise_cons]
  refine⟨fun y hy=> ?_,IG x L h.2 fun y hy=>hx y (by simp[hy])⟩
  rcases(J2 x L y).1 hy with rfl|hy
  ·exact(QS (hx z (by simp))).resolve_right hb
  exact h.1 y hy
theorem Gs(l:I5):∀i (y:De),y∈BI l i↔∃k,k<i/\Kf l k=true/\y=l.2 k
 |0,y=>by simp[BI]
 |i+1,y=>by
  rw[BI];split
  ·rename_i hn
   rw[J2,Gs l i y]
   constructor
   ·rintro(rfl|⟨k,h1,h2,h3⟩)
    ·exact⟨i,by omega,hn,rfl⟩
    exact⟨k,by omega,h2,h3⟩
   rintro⟨k,h1,h2,rfl⟩
   by_cases e:k=i
   ·subst e;exact .inl rfl
   exact .inr ⟨k,by omega,h2,rfl⟩
  rename_i hn
  rw[Gs l i y]
  constructor
  ·rintro⟨k,h1,h2,h3⟩;exact⟨k,by omega,h2,h3⟩
  rintro⟨k,h1,h2,rfl⟩
  by_cases e:k=i
  ·subst e;exact absurd h2 hn
  exact⟨k,by omega,h2,rfl⟩
theorem FA(l:I5):∀i,(BI l i).Pairwise Bu
 |0=>List.Pairwise.nil
 |i+1=>by
  rw[BI];split
  ·rename_i hn
   refine IG _ _ (FA l i) fun y hy=> ?_
   obtain⟨k,h1,_,rfl⟩:=(Gs l i y).1 hy
   exact A6.1 hn k h1
  exact FA l i
end Go.Proofs.YtlieoghhkioflaaGreat
namespace Go.Proofs.YtlieoghhkioflaaGreat
open Go Go.RowKit
variable{G:Nat->Option (Nat×(Nat->Ad))}
def Zd(n:Int)(p:Nat×(Nat->Int)):Prop:=0<=n/\n<=23040/\1<=p.1/\p.1<=8/\∀i,i<p.1->1<=p.2 i/\p.2 i<=1000
theorem Zd.sum{n:Int}{p:Nat×(Nat->Int)}(h:Zd n p):∀k,k<=p.1->(k:Int)<=AN p.2 k/\AN p.2 k<=1000*k:=fun k hk=>by
 have h1:=G9 (fun _=>1) p.2 k fun i hi=>(h.2.2.2.2 i (by omega)).1
 have h2:=G9 p.2 (fun _=>1000) k fun i hi=>(h.2.2.2.2 i (by omega)).2
 rw[Fs]at h1 h2;omega
end Go.Proofs.YtlieoghhkioflaaGreat
namespace Go.Proofs.YtlieoghhkioflaaGreat
open Go Go.RowKit
variable{G:Nat->Option (Nat×(Nat->Ad))}
def US(b:Bk)(n:Nat):Prop:=b.ow.1=n/\b.le.1=n/\b.un.1=n/\b.de.1=10000
def H9(b:Bk)(x:De):Prop:=∀m:Nat,x.turn.fro<=m->(m:Int)<x.turn.til->b.ow.2 m=x.fro
def OJ(b:Bk)(x:De):Prop:=∀m:Nat,x.turn.fro<=m->(m:Int)<x.turn.til->¬(b.le.2 m≠0/\x.day<b.un.2 m)
noncomputable def B7(b:Bk)(x:De):Int:=if(b.de.2 x.fro.toNat||b.de.2 x.tow.toNat)=true then 1 else if Bf (H9 b x)=true then(if x.kind=4 then(if Bf (OJ b x)=true then 0 else 3)else 0)else 2
end Go.Proofs.YtlieoghhkioflaaGreat
namespace Go.Proofs.YtlieoghhkioflaaGreat
def Cr(r:Ro):Nat:=(1440*r.days).toNat
noncomputable def IX(r:Ro)(m:Nat):Int:=(r.holds.2 (Cl (fun i=>(m:Int)<(r.holds.2 i).turn.til) r.holds.1)).who
noncomputable def WB(r:Ro):Bk:=⟨(Cr r,IX r),(Cr r,fun _=>0),(Cr r,fun _=>0),(10000,fun _=>false)⟩
def CZ(de:Nat->Bool)(l:Nat×(Nat->Hr)):Nat->List Hr
 |0=>[]
 |k+1=>if de (l.2 k).who.toNat=true then CZ de l k else CZ de l k++[l.2 k]
def LW(b:Bk)(x:De):Nat->Bool:=fun i=>if i=x.fro.toNat then true else b.de.2 i
def B4(b:Bk)(x:De):List Hr:=if(CZ (LW b x) x.heirs x.heirs.1).length=0 then[⟨0,1⟩]else CZ (LW b x) x.heirs x.heirs.1
def hl(L:List Hr)(i:Nat):Hr:=L.getD i ⟨0,0⟩
def Ik(b:Bk)(x:De)(m:Nat):Nat:=E1 (fun q=>decide (b.ow.2 q=x.fro)) m
def A3(b:Bk)(x:De)(i:Nat):Int:=FF (Ik b x b.ow.1) (fun i=>(hl (B4 b x) i).parts) (B4 b x).length i
noncomputable def EX(each:Nat->Int)(k:Nat)(c:Nat):Nat:=Cl (fun i=>(c:Int)<AN each (i+1)) k
noncomputable def PK(b:Bk)(x:De):Bk:=⟨(b.ow.1,fun m=>if b.ow.2 m=x.fro then(hl (B4 b x) (EX (A3 b x) (B4 b x).length (Ik b x m))).who else b.ow.2 m),(b.le.1,fun m=>if b.le.2 m=x.fro then 0 else b.le.2 m),b.un,(b.de.1,LW b x)⟩
def GK(x:De)(m:Nat):Prop:=x.turn.fro<=m/\(m:Int)<x.turn.til
instance(x:De)(m:Nat):Decidable (GK x m):=by unfold GK;infer_instance
noncomputable def Ps(b:Bk)(x:De):Bk:=
 if x.kind=3 then PK b x else if x.kind=1 then⟨(b.ow.1,fun m=>if GK x m then x.tow else b.ow.2 m),b.le,b.un,b.de⟩
 else if x.kind=2 then⟨(b.ow.1,fun m=>if GK x m then 0 else b.ow.2 m),b.le,b.un,b.de⟩
 else if x.kind=4 then⟨b.ow,(b.le.1,fun m=>if GK x m then x.tow else b.le.2 m),(b.un.1,fun m=>if GK x m then x.til else b.un.2 m),b.de⟩else b
noncomputable def Fp(b:Bk)(x:De):Bk:=if B7 b x=0 then Ps b x else b
noncomputable def A1(r:Ro)(l:Nat->De):Nat->Bk
 |0=>WB r
 |k+1=>Fp (A1 r l k) (l k)
noncomputable def Cy(l:I5)(day:Int):Nat:=Cl (fun i=>day<(l.2 i).day) l.1
theorem RW(r:Ro)(i:Nat):LF r (i+1)=(r.holds.2 i).turn.til:=by
 unfold LF;rw[if_neg (by omega),Nat.add_sub_cancel]
theorem KE{r:Ro}{n:Nat}(h:∀i,i<n->Hd1 r i):∀i,i<=n->∀j,j<i->(r.holds.2 j).turn.til<=LF r i
 |0,_,j,hj=>by omega
 |i+1,hi,j,hj=>by
  have h1:=h i (by omega)
  rw[RW]
  by_cases e:j=i
  ·subst e;exact Int.le_refl _
  have:=KE h i (by omega) j (by omega)
  have h2:=h1.2.2.1;have h3:=h1.2.2.2.1
  omega
theorem LB{r:Ro}(hr:F5 r){i m:Nat}(hi:i<r.holds.1)(h1:LF r i<=m)(h2:(m:Int)<(r.holds.2 i).turn.til):IX r m=(r.holds.2 i).who:=by
 unfold IX
 rw[Db hi h2 fun j hj h=>by have:=KE hr.2.2.2.2.1 i (by omega) j hj;omega]
theorem Wc(r:Ro):US (WB r) (Cr r):=⟨rfl,rfl,rfl,rfl⟩
theorem YB{b:Bk}{n:Nat}(h:US b n)(x:De):US (Ps b x) n:=by
 obtain⟨h1,h2,h3,h4⟩:=h
 unfold Ps
 split
 ·exact⟨h1,h2,h3,h4⟩
 split
 ·exact⟨h1,h2,h3,h4⟩
 split
 ·exact⟨h1,h2,h3,h4⟩
 split
 ·exact⟨h1,h2,h3,h4⟩
 exact⟨h1,h2,h3,h4⟩
theorem HI(r:Ro)(l:Nat->De):∀k,US (A1 r l k) (Cr r)
 |0=>Wc r
 |k+1=>by
  rw[A1,Fp];split
  ·exact YB (HI r l k) _
  exact HI r l k
theorem LR(de:Nat->Bool)(l:Nat×(Nat->Hr)):∀k,(CZ de l k).length<=k
 |0=>Nat.le_refl _
 |k+1=>by
  have:=LR de l k
  rw[CZ];split
  ·omega
  simp;omega
theorem I8(de:Nat->Bool)(l:Nat×(Nat->Hr)):∀k,∀h∈CZ de l k,∃i,i<k/\h=l.2 i
 |0,h,hh=>by simp[CZ]at hh
 |k+1,h,hh=>by
  rw[CZ]at hh;split at hh
  ·obtain⟨i,h1,h2⟩:=I8 de l k h hh;exact⟨i,by omega,h2⟩
  rcases List.mem_append.1 hh with hh|hh
  ·obtain⟨i,h1,h2⟩:=I8 de l k h hh;exact⟨i,by omega,h2⟩
  exact⟨k,by omega,by simpa using hh⟩
theorem XS{L:List Hr}{i:Nat}(h:i<L.length):hl L i∈L:=by
 unfold hl;rw[List.getD_eq_getElem?_getD,List.getElem?_eq_getElem h];exact List.getElem_mem h
theorem Sv{b:Bk}{x:De}(hh:GZ x.fro x.heirs)(hf:1<=x.fro):1<=(B4 b x).length/\(B4 b x).length<=8/\∀i,i<(B4 b x).length->0<=(hl (B4 b x) i).who/\(hl (B4 b x) i).who<=9999/\(hl (B4 b x) i).who≠x.fro/\1<=(hl (B4 b x) i).parts/\(hl (B4 b x) i).parts<=1000:=by
 obtain⟨h1,h2,h3⟩:=hh
 have h4:=LR (LW b x) x.heirs x.heirs.1
 unfold B4
 split
 ·refine⟨Nat.le_refl _,by simp,fun i hi=> ?_⟩
  obtain rfl:i=0:=by simpa using hi
  refine⟨by decide,by decide,?_,by decide,by decide⟩
  show(0:Int)≠x.fro
  omega
 refine⟨by omega,by omega,fun i hi=> ?_⟩
 obtain⟨q,q1,q2⟩:=I8 _ _ _ _ (XS hi)
 obtain⟨g1,g2,g3,g4,g5,_⟩:=h3 q q1
 rw[q2]
 exact⟨by omega,g2,g3,g4,g5⟩
end Go.Proofs.YtlieoghhkioflaaGreat
