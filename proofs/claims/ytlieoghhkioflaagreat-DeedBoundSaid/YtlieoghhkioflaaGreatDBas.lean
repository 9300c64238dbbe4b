/- Deeds: base. No condition. -/
import Derived.Test.YtlieoghhkioflaaGreatLDoor
import Derived.Test.YtlieoghhkioflaaGreatACode1
set_option linter.unusedSimpArgs false
set_option linter.unusedVariables false
set_option maxRecDepth 100000
namespace Go.Proofs.YtlieoghhkioflaaGreat
open Go Go.RowKit
variable{n:Nat}{p:Nat->Prop}
theorem mixed:Tryz.prog.follows .mixedOrders=true:=by kernel_rfl
noncomputable def Cj(p:Nat->Prop):Nat->Nat
 |0=>0
 |n+1=>if Cj p n<n then Cj p n else @ite _ (p n) (Classical.propDecidable _) n (n+1)
theorem I3(h:∀j,j<n->¬p j):Cj p n=n:=by
 induction n with
 |zero=>rfl
 |succ n ih=>
  have:=ih fun j hj=>h j (by omega)
  unfold Cj;rw[this,if_neg (Nat.lt_irrefl n),@if_neg _ (Classical.propDecidable _) (h n (by omega))]
theorem Db{i:Nat}(hi:i<n)(hp:p i)(h:∀j,j<i->¬p j):Cj p n=i:=by
 induction n with
 |zero=>omega
 |succ n ih=>
  unfold Cj
  rcases Nat.lt_or_ge i n with h1|h1
  ·rw[ih h1,if_pos h1]
  obtain rfl:i=n:=by omega
  rw[I3 h,if_neg (Nat.lt_irrefl i),@if_pos _ (Classical.propDecidable _) hp]
theorem ZE(h:∃i,i<n/\p i):∃i,i<n/\p i/\∀j,j<i->¬p j:=by
 obtain⟨i,hi,hp⟩:=h
 induction i using Nat.strongRecOn with
 |ind i ih=>
  by_cases hm:∃j,j<i/\p j
  ·obtain⟨j,hj,hpj⟩:=hm
   exact ih j hj (by omega) hpj
  exact⟨i,hi,hp,fun j hj hpj=>hm ⟨j,hj,hpj⟩⟩
theorem Bw(p:Nat->Prop)(n:Nat):(Cj p n<n/\p (Cj p n)/\∀j,j<Cj p n->¬p j)\/(Cj p n=n/\∀j,j<n->¬p j):=by
 by_cases h:∃i,i<n/\p i
 ·obtain⟨i,h1,h2,h3⟩:=ZE h
  rw[Db h1 h2 h3];exact .inl ⟨h1,h2,h3⟩
 have:∀j,j<n->¬p j:=fun j hj hp=>h ⟨j,hj,hp⟩
 exact .inr ⟨I3 this,this⟩
noncomputable def Bf(p:Prop):Bool:= @decide p (Classical.propDecidable _)
theorem Be{p:Prop}:Bf p=true↔p:= @decide_eq_true_iff p (Classical.propDecidable _)
theorem DG{p:Prop}:Bf p=false↔¬p:= @decide_eq_false_iff_not p (Classical.propDecidable _)
theorem AA{p:Prop}(h:p):Bf p=true:=Be.2 h
theorem Ax{p:Prop}(h:¬p):Bf p=false:=DG.2 h
theorem Ee{p q:Prop}(h:p↔q):Bf p=Bf q:=by rw[propext h]
end Go.Proofs.YtlieoghhkioflaaGreat
namespace Go.Proofs.YtlieoghhkioflaaGreat
variable{n:Int}{a b i k t:Nat}{P q:Nat->Bool}{p:Nat->Int}
def E2(p:Nat->Bool):Nat->Nat
 |0=>0
 |k+1=>if p k=true then E2 p k+1 else E2 p k
theorem G6(p:Nat->Bool):∀k,E2 p k<=k
 |0=>Nat.le_refl _
 |k+1=>by have:=G6 p k;rw[E2];split<;>omega
theorem Gb{p:Nat->Bool}:∀k,(∀i,i<k->p i=true->q i=true)->E2 p k<=E2 q k
 |0,_=>Nat.le_refl _
 |k+1,h=>by
  have:=Gb k fun i hi=>h i (by omega)
  rw[E2,E2]
  by_cases e:p k=true
  ·rw[if_pos e,if_pos (h k (by omega) e)];omega
  rw[if_neg e];split<;>omega
theorem YX(p:Nat->Bool)(h:a<=b):E2 p a<=E2 p b:=by
  induction b with
  |zero=>obtain rfl:a=0:=by omega
         exact Nat.le_refl _
  |succ b ih=>
    by_cases e:a=b+1
    ·subst e;exact Nat.le_refl _
    have:=ih (by omega);rw[E2];split<;>omega
theorem Lg{p:Nat->Bool}(k:Nat)(h:∀i,i<k->p i=q i):E2 p k=E2 q k:=
 Nat.le_antisymm (Gb k fun i hi e=>by rw[<-h i hi];exact e) (Gb k fun i hi e=>by rw[h i hi];exact e)
theorem LT(p:Nat->Bool)(b:Nat)(hb:p b=false):∀k,E2 (fun i=>p i||decide (i=b)) k=E2 p k+(if b<k then 1 else 0)
 |0=>rfl
 |k+1=>by
  have ih:=LT p b hb k
  rw[E2,E2,ih]
  by_cases e:k=b
  ·subst e
   simp[hb]
  have:(p k||decide (k=b))=p k:=by simp[e]
  rw[this]
  have e3:(b<k+1)=(b<k):=by apply propext;omega
  simp only[e3]
  split<;>split<;>omega
theorem Wx{p:Nat->Bool}(k:Nat)(h:∀i,i<k->p i=true):E2 p k=k:=by
 induction k with
 |zero=>rfl
 |succ k ih=>rw[E2,if_pos (h k (by omega)),ih fun i hi=>h i (by omega)]
theorem UF{p:Nat->Bool}(k:Nat)(h:∀i,i<k->p i=true->q i=true)(b:Nat)(hb:b<k)(h1:p b=false)(h2:q b=true):E2 p k<E2 q k:=by
 have h3:=LT p b h1 k
 rw[if_pos hb]at h3
 have:=Gb (p:=fun i=>p i||decide (i=b)) (q:=q) k fun i hi e=>by
  simp only[Bool.or_eq_true,decide_eq_true_eq]at e
  rcases e with e|e
  ·exact h i hi e
  rw[e];exact h2
 omega
def AN(f:Nat->Int):Nat->Int
 |0=>0
 |k+1=>AN f k+f k
theorem I9(f:Nat->Int):∀k,(∀i,i<k->0<=f i)->0<=AN f k/\∀i,i<k->f i<=AN f k
 |0,_=>⟨Int.le_refl _,fun i hi=>by omega⟩
 |k+1,h=>by
  obtain⟨h1,h2⟩:=I9 f k fun i hi=>h i (by omega)
  have h3:=h k (by omega)
  refine⟨by rw[AN];omega,fun i hi=> ?_⟩
  rw[AN]
  by_cases e:i=k
  ·subst e;omega
  have:=h2 i (by omega);omega
def FO(n:Int)(p:Nat->Int)(k:Nat)(i:Nat):Int:=n*p i%AN p k
def Dx(n:Int)(p:Nat->Int)(k:Nat)(i:Nat):Int:=n*p i/AN p k
def DE(n:Int)(p:Nat->Int)(k:Nat)(j i:Nat):Bool:=decide (FO n p k i<FO n p k j\/FO n p k i=FO n p k j/\j<i)
def DD(n:Int)(p:Nat->Int)(k:Nat):Int:=n-AN (Dx n p k) k
def FJ(n:Int)(p:Nat->Int)(k:Nat)(i:Nat):Int:=Dx n p k i+if(E2 (fun j=>DE n p k j i) k:Int)<DD n p k then 1 else 0
theorem Hv(f g:Nat->Int):∀k,(∀i,i<k->f i<=g i)->AN f k<=AN g k
 |0,_=>Int.le_refl _
 |k+1,h=>by have:=Hv f g k fun i hi=>h i (by omega);have:=h k (by omega);simp only[AN];omega
theorem FD(c:Int):∀k,AN (fun _=>c) k=k*c
 |0=>by simp[AN]
 |k+1=>by rw[AN,FD c k,Int.natCast_succ,Int.add_mul,Int.one_mul]
theorem Jn(c:Int)(f:Nat->Int):∀k,AN (fun i=>c*f i) k=c*AN f k
 |0=>by simp[AN]
 |k+1=>by rw[AN,Jn c f k,AN,Int.mul_add]
theorem J5(f g:Nat->Int):∀k,AN (fun i=>f i+g i) k=AN f k+AN g k
 |0=>rfl
 |k+1=>by simp only[AN,J5 f g k];omega
theorem EE{f g:Nat->Int}:∀k,(∀i,i<k->f i=g i)->AN f k=AN g k
 |0,_=>rfl
 |k+1,h=>by simp only[AN];rw[EE k fun i hi=>h i (by omega),h k (by omega)]
theorem Mx(n:Int)(p:Nat->Int)(k:Nat):AN p k*DD n p k=AN (FO n p k) k:=by
 have h1:AN (fun i=>n*p i) k=n*AN p k:=Jn n p k
 have h2:AN (fun i=>n*p i) k=AN (fun i=>AN p k*Dx n p k i+FO n p k i) k:=EE k fun i _=>(Int.mul_ediv_add_emod (n*p i) (AN p k)).symm
 rw[h1,J5,Jn]at h2
 unfold DD
 rw[Int.mul_sub,Int.mul_comm _ n]
 omega
theorem LH(hs:0<AN p k):0<=DD n p k:=by
 have h1:=Mx n p k
 have h2:0<=AN (FO n p k) k:=by
  have:=Hv (fun _=>0) (FO n p k) k fun i _=>Int.emod_nonneg _ (by omega)
  rw[FD]at this;simpa using this
 rcases Int.lt_or_le (DD n p k) 0 with h|h
 ·have:AN p k*DD n p k<0:=Int.mul_neg_of_pos_of_neg hs h
  omega
 exact h
theorem PB(hk:0<k)(hs:0<AN p k):DD n p k<k:=by
 have h1:=Mx n p k
 have h2:AN (FO n p k) k<=k*(AN p k-1):=by
  have:=Hv (FO n p k) (fun _=>AN p k-1) k fun i _=>by have:=Int.emod_lt_of_pos (n*p i) hs;show n*p i%AN p k<=_;omega
  rwa[FD]at this
 rcases Int.lt_or_le (DD n p k) k with h|h
 ·exact h
 have h3:AN p k*(k:Int)<=AN p k*DD n p k:=Int.mul_le_mul_of_nonneg_left h (by omega)
 rw[Int.mul_sub,Int.mul_one,Int.mul_comm (k:Int)]at h2
 omega
structure NZ(n:Int)(p:Nat->Int)(k:Nat)(P:Nat->Bool)(t:Nat):Prop where
 up:∀i j,i<k->j<k->DE n p k j i=true->P i=true->P j=true
 cnt:E2 P k=t
theorem FC(n:Int)(p:Nat->Int)(k i:Nat):DE n p k i i=false:=decide_eq_false (by omega)
theorem UH{j:Nat}(h:i≠j):DE n p k i j=true\/DE n p k j i=true:=by
 simp only[DE,decide_eq_true_eq];omega
theorem HL{c:Nat}(h1:DE n p k a b=true)(h2:DE n p k b c=true):DE n p k a c=true:=by
 simp only[DE,decide_eq_true_eq]at*;omega
theorem NZ.iff(h:NZ n p k P t)(hi:i<k):P i=decide (E2 (fun j=>DE n p k j i) k<t):=by
 cases hP:P i with
 |true=>
  symm;rw[decide_eq_true_eq,<-h.cnt]
  exact UF k (fun j hj e=>h.up i j hi hj e hP) i hi (FC n p k i) hP
 |false=>
  symm;rw[decide_eq_false_iff_not,<-h.cnt]
  refine Nat.not_lt.2 (Gb k fun j hj e=> ?_)
  have hne:i≠j:=fun e2=>by subst e2;rw[hP]at e;cases e
  rcases UH (n:=n) (p:=p) (k:=k) hne with h1|h1
  ·have:=h.up j i hj hi h1 e
   rw[hP]at this;cases this
  exact h1
theorem NZ.zero(n:Int)(p:Nat->Int)(k:Nat):NZ n p k (fun _=>false) 0:=⟨fun _ _ _ _ _ h=>h,by induction k with|zero=>rfl|succ k ih=>rw[E2,if_neg (by simp),ih]⟩
theorem NZ.next(h:NZ n p k P t)(hb:b<k)(hPb:P b=false)(hbest:∀j,j<k->P j=false->DE n p k j b=false):NZ n p k (fun i=>P i||decide (i=b)) (t+1):=by
 refine⟨fun i j hi hj hbt hP=> ?_,by rw[LT P b hPb,if_pos hb,h.cnt]⟩
 simp only[Bool.or_eq_true,decide_eq_true_eq]at hP⊢
 rcases hP with hP|rfl
 ·exact .inl (h.up i j hi hj hbt hP)
 cases e:P j with
 |true=>exact .inl rfl
 |false=>rw[hbest j hj e]at hbt;cases hbt
theorem NZ.free(h:NZ n p k P t)(ht:t<k):∃i,i<k/\P i=false:=by
 apply Classical.byContradiction
 intro hn
 have:E2 P k=k:=Wx k fun i hi=>by
  cases e:P i with
  |true=>rfl
  |false=>exact absurd ⟨i,hi,e⟩ hn
 rw[h.cnt]at this;omega
theorem NZ.congr{Q:Nat->Bool}(h:NZ n p k P t)(e:∀i,i<k->P i=Q i):NZ n p k Q t:=
 ⟨fun i j hi hj hb hq=>by rw[<-e j hj];exact h.up i j hi hj hb (by rw[e i hi];exact hq),by rw[<-h.cnt];exact(Lg k e).symm⟩
def ME(n:Int)(p:Nat->Int)(k i:Nat):Nat:=E2 (fun j=>DE n p k j i) k
theorem Vd(n:Int)(p:Nat->Int)(k:Nat)(P:Nat->Bool):∀m,m<=k->(∃i,i<m/\P i=false)->∃b,b<m/\P b=false/\∀j,j<m->P j=false->DE n p k j b=false:=by
 intro m
 induction m with
 |zero=>rintro _ ⟨i,hi,_⟩;omega
 |succ m ih=>
  rintro hm ⟨i,hi,hp⟩
  by_cases h:∃i,i<m/\P i=false
  ·obtain⟨b,b1,b2,b3⟩:=ih (by omega) h
   cases hPm:P m with
   |true=>
    exact⟨b,by omega,b2,fun j hj e=>by
     by_cases e2:j=m
     ·subst e2;rw[hPm]at e;cases e
     exact b3 j (by omega) e⟩
   |false=>
    cases hmb:DE n p k m b with
    |false=>exact⟨b,by omega,b2,fun j hj e=>by
      by_cases e2:j=m
      ·subst e2;exact hmb
      exact b3 j (by omega) e⟩
    |true=>exact⟨m,by omega,hPm,fun j hj e=>by
      by_cases e2:j=m
      ·subst e2;exact FC _ _ _ _
      cases hjm:DE n p k j m with
      |false=>rfl
      |true=>
       have h1:=HL hjm hmb
       rw[b3 j (by omega) e]at h1;exact h1.symm⟩
  refine⟨m,by omega,?_,fun j hj e=> ?_⟩
  ·by_cases e2:i=m
   ·subst e2;exact hp
   exact absurd ⟨i,by omega,hp⟩ h
  by_cases e2:j=m
  ·subst e2;exact FC _ _ _ _
  exact absurd ⟨j,by omega,e⟩ h
theorem Qu(n:Int)(p:Nat->Int)(k:Nat):∀t,t<=k->NZ n p k (fun i=>decide (ME n p k i<t)) t
 |0,_=>(NZ.zero n p k).congr fun i _=>by simp
 |t+1,h=>by
  have ih:=Qu n p k t (by omega)
  obtain⟨b,b1,b2,b3⟩:=Vd n p k _ k (Nat.le_refl _) (ih.free (by omega))
  have h2:=ih.next b1 b2 b3
  exact h2.congr fun i hi=>h2.iff hi
theorem PN(p:Nat->Bool):∀k,AN (fun i=>if p i=true then 1 else 0) k=(E2 p k:Int)
 |0=>rfl
 |k+1=>by
  rw[AN,PN p k,E2]
  split<;>rename_i h<;>simp[]
theorem NC(hk:0<k)(hs:0<AN p k):AN (FJ n p k) k=n:=by
 have h1:=LH (n:=n) hs
 have h2:=PB (n:=n) hk hs
 obtain⟨t,ht⟩:∃t:Nat,DD n p k=t:=⟨(DD n p k).toNat,by omega⟩
 have h3:=(Qu n p k t (by omega)).cnt
 have h4:AN (FJ n p k) k=AN (fun i=>Dx n p k i+if(decide (ME n p k i<t))=true then 1 else 0) k:=EE k fun i hi=>by
  unfold FJ
  rw[ht]
  unfold ME
  simp only[Int.ofNat_lt,decide_eq_true_eq]
 rw[h4,J5,PN,h3,<-ht]
 unfold DD;omega
theorem P8(hn:0<=n)(hp:0<=p i)(hs:0<AN p k):0<=FJ n p k i:=by
 have:0<=Dx n p k i:=Int.ediv_nonneg (Int.mul_nonneg hn hp) (by omega)
 unfold FJ;split<;>omega
theorem EV{f:Nat->Int}{len:Nat}(h:∀i,i<len->0<=f i)(hab:a<=b)(hb:b<=len):AN f a<=AN f b:=by
  induction b with
  |zero=>obtain rfl:a=0:=by omega
         exact Int.le_refl _
  |succ b ih=>
    by_cases e:a=b+1
    ·subst e;exact Int.le_refl _
    have:=ih (by omega) (by omega);have:=h b (by omega);rw[AN];omega
end Go.Proofs.YtlieoghhkioflaaGreat
namespace Go.Proofs.YtlieoghhkioflaaGreat
open Go Go.RowKit
variable{G:Nat->Option (Nat×(Nat->Ad))}
noncomputable def MC{α:Type}(a b:Nat×(Nat->α)):Bool:=Bf (a.1=b.1/\∀i,i<a.1->a.2 i=b.2 i)
noncomputable def OW:At:=CY (Du (BJ .i64)) (Du (BJ .i64)) (fun _ _=>True) fun a b=> .bool (MC a b)
theorem YA:Ai Tryz.prog G 62 OW:=by
 refine OX (S:=[]) (I:=[]) mixed .nil .nil Tryz.func62 c62 fun a b _ hw=> ?_
 simp only[Nat.reduceSub,Nat.reducePow,go_sem]at hw
 obtain⟨w1,w2⟩:=hw
 simp only[A9,a62,w1,w2,↓reduceIte,reduceCtorEq,Nat.reduceEqDiff,Nat.reduceSub,Nat.reducePow,go_sem]
 refine⟨fun h=>(Ax fun k=>h (by omega)).symm,fun h=> ?_⟩
 refine AX (ι:=Nat) (fun j=>j<=a.1/\∀i,i<j->a.2 i=b.2 i) (fun j=>a.1-j) [0,1] (fun j=>[(5,.int .i64 j)]) (fun _=>[]) 0 ⟨by omega,fun i h=>by omega⟩ (by simp only[↓reduceIte,reduceCtorEq,Nat.reduceEqDiff,go_sem];try rfl) fun j hj=> ?_
 obtain⟨hj1,hj2⟩:=hj
 simp only[w1,↓reduceIte,reduceCtorEq,Nat.reduceEqDiff,Nat.reduceSub,Nat.reducePow,go_sem]
 refine⟨fun hlt=>⟨by omega,by omega,by omega,by omega,fun h1=>(Ax fun k=> ?_).symm,fun h1=>Af (j+1) ⟨by omega,fun i hi=> ?_⟩ (by omega) ?_⟩,fun hge=> ?_⟩
 ·exact h1 (k.2 j (by omega))
 ·rcases Nat.lt_or_ge i j with h5|h5
  ·exact hj2 i h5
  obtain rfl:i=j:=by omega
  exact h1
 ·simp only[↓reduceIte,reduceCtorEq,Nat.reduceEqDiff,go_sem]
  rw[Cp (by omega)]
 exact(AA ⟨by omega,fun i hi=>hj2 i (by omega)⟩).symm
theorem AcL{a b:Pc}:(a.turn.fro==b.turn.fro&&(a.turn.til==b.turn.til&&a.baisa==b.baisa))=true↔a=b:=by
 obtain⟨⟨a1,a2⟩,a3⟩:=a;obtain⟨⟨b1,b2⟩,b3⟩:=b;simp[and_assoc]
noncomputable def LA:At:=CY (Du UY) (Du UY) (fun _ _=>True) fun a b=> .bool (MC a b)
theorem W6:Ai Tryz.prog G 63 LA:=by
 refine OX (S:=[]) (I:=[]) mixed .nil .nil Tryz.func63 c63 fun a b _ hw=> ?_
 simp only[Nat.reduceSub,Nat.reducePow,go_sem]at hw
 obtain⟨w1,w2⟩:=hw
 simp only[A9,a63,w1,w2,↓reduceIte,reduceCtorEq,Nat.reduceEqDiff,Nat.reduceSub,Nat.reducePow,go_sem]
 refine⟨fun h=>(Ax fun k=>h (by omega)).symm,fun h=> ?_⟩
 refine AX (ι:=Nat) (fun j=>j<=a.1/\∀i,i<j->a.2 i=b.2 i) (fun j=>a.1-j) [0,1] (fun j=>[(5,.int .i64 j)]) (fun _=>[]) 0 ⟨by omega,fun i h=>by omega⟩ (by simp only[↓reduceIte,reduceCtorEq,Nat.reduceEqDiff,go_sem];try rfl) fun j hj=> ?_
 obtain⟨hj1,hj2⟩:=hj
 simp only[w1,↓reduceIte,reduceCtorEq,Nat.reduceEqDiff,Nat.reduceAdd,Nat.reduceSub,Nat.reducePow,go_sem]
 refine⟨fun hlt=>⟨by omega,by omega,by omega,by omega,fun h1=>(Ax fun k=> ?_).symm,fun h1=>Af (j+1) ⟨by omega,fun i hi=> ?_⟩ (by omega) ?_⟩,fun hge=> ?_⟩
 ·rw[k.2 j (by omega)]at h1;simp at h1
 ·rcases Nat.lt_or_ge i j with h5|h5
  ·exact hj2 i h5
  obtain rfl:i=j:=by omega
  exact AcL.1 h1
 ·simp only[↓reduceIte,reduceCtorEq,Nat.reduceEqDiff,go_sem]
  rw[Cp (by omega)]
 exact(AA ⟨by omega,fun i hi=>hj2 i (by omega)⟩).symm
end Go.Proofs.YtlieoghhkioflaaGreat
namespace Go.Proofs.YtlieoghhkioflaaGreat
open Go Go.RowKit
variable{G:Nat->Option (Nat×(Nat->Ad))}
def NM(t:Tu):Prop:=0<=t.fro/\t.fro<t.til/\t.til<=23040
def H1(t:Tu)(b:Bd):Prop:=(1<=b.who/\b.who<=9999)/\(t.fro<=b.turn.fro/\b.turn.fro<b.turn.til/\b.turn.til<=t.til)/\0<=b.baisa/\b.baisa<=1000000000
noncomputable def C8(t:Tu)(l:Nat×(Nat->Bd)):Int:=if Bf (NM t)=true then(if 12<l.1 then 4 else if Bf (∀i,i<l.1->H1 t (l.2 i))=true then 0 else 43)else 2
noncomputable def Gz:At:=CY Tg (Du NA) (fun _ _=>True) fun t l=> .int .i64 (C8 t l)
theorem Y7:Ai Tryz.prog G 72 Gz:=by
  refine OX (S:=[]) (I:=[(70,a70),(69,a69),(59,a59)]) mixed .nil (.cons Tryz.func70 c70 (.cons Tryz.func69 c69 (.cons Tryz.func59 c59 .nil))) Tryz.func72 c72 fun t l _ hw=> ?_
  simp only[Nat.reduceSub,Nat.reducePow,go_sem]at hw
  simp only[A9,a72,a70,a69,a59,↓reduceIte,reduceCtorEq,Nat.reduceEqDiff,Nat.reduceAdd,Nat.reduceSub,Nat.reduceLeDiff,Nat.reducePow,go_sem]
  by_cases ht:NM t
  ·rw[C8,AA ht]
   obtain⟨h1,h2,h3⟩:=ht
   refine⟨fun _=>⟨fun _=>⟨fun h=>absurd h3 h,fun _ _=>⟨fun h4=> ?_,fun h4=> ?_⟩⟩,fun h=>absurd h2 h⟩,fun h=>absurd h1 h⟩
   ·rw[if_pos rfl,if_pos (by omega)]
   rw[if_pos rfl,if_neg (by omega)]
   refine AX (ι:=Nat) (fun j=>j<=l.1/\∀i,i<j->H1 t (l.2 i)) (fun j=>l.1-j) [1,2] (fun j=>[(5,.int .i64 j)]) (fun _=>[]) 0 ⟨by omega,fun i h=>by omega⟩ (by simp only[↓reduceIte,reduceCtorEq,Nat.reduceEqDiff,Nat.reduceLT,go_sem];try rfl) fun j hj=> ?_
   obtain⟨hj1,hj2⟩:=hj
   simp only[hw,↓reduceIte,reduceCtorEq,Nat.reduceEqDiff,Nat.reduceAdd,Nat.reduceSub,Nat.reduceLeDiff,Nat.reducePow,go_sem]
   refine⟨fun hlt=> ?_,fun hge=> ?_⟩
   ·have no:¬H1 t (l.2 j)->43=if Bf (∀i,i<l.1->H1 t (l.2 i))=true then 0 else(43:Int):=fun h=>by
      rw[Ax fun k=>h (k j (by omega))];rfl
    repeat'(first|omega|(with_reducible apply And.intro)|intro _)
    all_goals first
      |(refine no fun h=> ?_
        obtain⟨⟨_,_⟩,⟨_,_,_⟩,_,_⟩:=h
        omega)
      |skip
    refine Af (j+1) ⟨by omega,fun i hi=> ?_⟩ (by omega) ?_
    ·rcases Nat.lt_or_ge i j with h5|h5
     ·exact hj2 i h5
     obtain rfl:i=j:=by omega
     refine⟨⟨?_,?_⟩,⟨?_,?_,?_⟩,?_,?_⟩<;>omega
    simp only[↓reduceIte,reduceCtorEq,Nat.reduceEqDiff,Nat.reduceLT,go_sem]
    rw[Cp (by omega)]
   rw[AA fun i hi=>hj2 i (by omega)];rfl
  have e:C8 t l=2:=by rw[C8,Ax ht];rfl
  rw[e]
  refine⟨fun h1=>⟨fun h2=>⟨fun _=>rfl,fun h3=>absurd ⟨h1,h2,h3⟩ ht⟩,fun _=>rfl⟩,fun _=>rfl⟩
end Go.Proofs.YtlieoghhkioflaaGreat
namespace Go.Proofs.YtlieoghhkioflaaGreat
open Go Go.RowKit
variable{G:Nat->Option (Nat×(Nat->Ad))}
abbrev Jc:=Nat×(Nat->De)
noncomputable def Lx:At:=CY (Du NW) (Du NW) (fun _ _=>True) fun a b=> .bool (MC a b)
theorem Acr{a b:Ho}:(a.who==b.who&&(a.turn.fro==b.turn.fro&&a.turn.til==b.turn.til))=true↔a=b:=by
 obtain⟨a1,⟨a2,a3⟩⟩:=a;obtain⟨b1,⟨b2,b3⟩⟩:=b;simp[]
theorem Wk:Ai Tryz.prog G 22 Lx:=by
 refine OX (S:=[]) (I:=[]) mixed .nil .nil Tryz.func22 c22 fun a b _ hw=> ?_
 simp only[Nat.reduceSub,Nat.reducePow,go_sem]at hw
 obtain⟨w1,w2⟩:=hw
 simp only[A9,a22,w1,w2,↓reduceIte,reduceCtorEq,Nat.reduceEqDiff,Nat.reduceSub,Nat.reducePow,go_sem]
 refine⟨fun h=>(Ax fun k=>h (by omega)).symm,fun h=> ?_⟩
 refine AX (ι:=Nat) (fun j=>j<=a.1/\∀i,i<j->a.2 i=b.2 i) (fun j=>a.1-j) [0,1] (fun j=>[(5,.int .i64 j)]) (fun _=>[]) 0 ⟨by omega,fun i h=>by omega⟩ (by simp only[↓reduceIte,reduceCtorEq,Nat.reduceEqDiff,go_sem];try rfl) fun j hj=> ?_
 obtain⟨hj1,hj2⟩:=hj
 simp only[w1,↓reduceIte,reduceCtorEq,Nat.reduceEqDiff,Nat.reduceAdd,Nat.reduceSub,Nat.reducePow,go_sem]
 refine⟨fun hlt=>⟨by omega,by omega,by omega,by omega,fun h1=>(Ax fun k=> ?_).symm,fun h1=>Af (j+1) ⟨by omega,fun i hi=> ?_⟩ (by omega) ?_⟩,fun hge=> ?_⟩
 ·rw[k.2 j (by omega)]at h1;simp at h1
 ·rcases Nat.lt_or_ge i j with h5|h5
  ·exact hj2 i h5
  obtain rfl:i=j:=by omega
  exact Acr.1 h1
 ·simp only[↓reduceIte,reduceCtorEq,Nat.reduceEqDiff,go_sem]
  rw[Cp (by omega)]
 exact(AA ⟨by omega,fun i hi=>hj2 i (by omega)⟩).symm
noncomputable def L7:At:=CY (Du NY) (Du NY) (fun _ _=>True) fun a b=> .bool (MC a b)
theorem Acp{a b:Hs}:(a.who==b.who&&a.mins==b.mins)=true↔a=b:=by
 obtain⟨a1,a2⟩:=a;obtain⟨b1,b2⟩:=b;simp[]
theorem Vt:Ai Tryz.prog G 23 L7:=by
 refine OX (S:=[]) (I:=[]) mixed .nil .nil Tryz.func23 c23 fun a b _ hw=> ?_
 simp only[Nat.reduceSub,Nat.reducePow,go_sem]at hw
 obtain⟨w1,w2⟩:=hw
 simp only[A9,a23,w1,w2,↓reduceIte,reduceCtorEq,Nat.reduceEqDiff,Nat.reduceSub,Nat.reducePow,go_sem]
 refine⟨fun h=>(Ax fun k=>h (by omega)).symm,fun h=> ?_⟩
 refine AX (ι:=Nat) (fun j=>j<=a.1/\∀i,i<j->a.2 i=b.2 i) (fun j=>a.1-j) [0,1] (fun j=>[(5,.int .i64 j)]) (fun _=>[]) 0 ⟨by omega,fun i h=>by omega⟩ (by simp only[↓reduceIte,reduceCtorEq,Nat.reduceEqDiff,go_sem];try rfl) fun j hj=> ?_
 obtain⟨hj1,hj2⟩:=hj
 simp only[w1,↓reduceIte,reduceCtorEq,Nat.reduceEqDiff,Nat.reduceAdd,Nat.reduceSub,Nat.reducePow,go_sem]
 refine⟨fun hlt=>⟨by omega,by omega,by omega,by omega,fun h1=>(Ax fun k=> ?_).symm,fun h1=>Af (j+1) ⟨by omega,fun i hi=> ?_⟩ (by omega) ?_⟩,fun hge=> ?_⟩
 ·rw[k.2 j (by omega)]at h1;simp at h1
 ·rcases Nat.lt_or_ge i j with h5|h5
  ·exact hj2 i h5
  obtain rfl:i=j:=by omega
  exact Acp.1 h1
 ·simp only[↓reduceIte,reduceCtorEq,Nat.reduceEqDiff,go_sem]
  rw[Cp (by omega)]
 exact(AA ⟨by omega,fun i hi=>hj2 i (by omega)⟩).symm
noncomputable def GR(n a b:Int):Bool:=Bf (a<=n/\n<=b)
theorem XH{i:Nat}(h:0<i)(h2:i<9223372036854775807):IntKind.i64.wrap ((i:Int)-1)=((i-1:Nat):Int):=by rw[AP (by omega) (by omega)];omega
def Hr1(f:Int)(l:Nat×(Nat->Hr))(i:Nat):Prop:=1<=(l.2 i).who/\(l.2 i).who<=9999/\(l.2 i).who≠f/\1<=(l.2 i).parts/\(l.2 i).parts<=1000/\(0<i->(l.2 (i-1)).who<(l.2 i).who)
def G3(fro:Int)(l:Nat×(Nat->Hr)):Prop:=1<=l.1/\l.1<=8/\∀i,i<l.1->Hr1 fro l i
def Lj(r:Ro)(j:Nat):Int:=if j=0 then 0 else(r.holds.2 (j-1)).turn.til
def Hd1(r:Ro)(i:Nat):Prop:=0<=(r.holds.2 i).who/\(r.holds.2 i).who<=9999/\(r.holds.2 i).turn.fro=Lj r i/\(r.holds.2 i).turn.fro<(r.holds.2 i).turn.til/\(r.holds.2 i).turn.til<=1440*r.days
def Ge(r:Ro):Prop:=1<=r.days/\r.days<=16/\1<=r.holds.1/\r.holds.1<=60/\(∀i,i<r.holds.1->Hd1 r i)/\Lj r r.holds.1=1440*r.days
end Go.Proofs.YtlieoghhkioflaaGreat
namespace Go.Proofs.YtlieoghhkioflaaGreat
open Go Go.RowKit
variable{G:Nat->Option (Nat×(Nat->Ad))}
theorem SY{n:Nat}{P:Prop}(h:n=0↔P):((n:Int)==0)=Bf P:=by
 by_cases h0:n=0
 ·rw[AA (h.1 h0)];subst h0;rfl
 rw[Ax fun k=>h0 (h.2 k)];exact beq_eq_false_iff_ne.2 (by omega)
theorem Ux{n:Int}{P:Prop}(h:n=0↔P):(n==0)=Bf P:=by
 by_cases h0:n=0
 ·rw[AA (h.1 h0)];subst h0;rfl
 rw[Ax fun k=>h0 (h.2 k)];exact beq_eq_false_iff_ne.2 h0
def GJ(r:Ro)(x:De):Prop:=0<=x.turn.fro/\x.turn.fro<x.turn.til/\x.turn.til<=1440*r.days
def F9(x:De):Prop:=1<=x.tow/\x.tow<=9999/\x.tow≠x.fro
def D7(r:Ro)(x:De):Prop:=0<=x.id/\x.id<=9999/\0<=x.day/\x.day<=100000/\1<=x.fro/\x.fro<=9999/\
  (x.kind=1/\F9 x/\GJ r x/\x.til=0/\x.heirs.1=0\/x.kind=2/\GJ r x/\x.tow=0/\x.til=0/\x.heirs.1=0\/
   x.kind=3/\G3 x.fro x.heirs/\x.tow=0/\x.turn.fro=0/\x.turn.til=0/\x.til=0\/x.kind=4/\F9 x/\GJ r x/\x.day+1<=x.til/\x.til<=100001/\x.heirs.1=0)
noncomputable def FA(a b:De):Prop:=a.id=b.id/\a.day=b.day/\a.kind=b.kind/\a.fro=b.fro/\a.tow=b.tow/\a.turn=b.turn/\a.til=b.til/\a.heirs.1=b.heirs.1/\∀i,i<a.heirs.1->a.heirs.2 i=b.heirs.2 i
noncomputable def DY(r:Ro)(l:Jc):Int:=if 60<l.1 then 4 else if Bf (∀i,i<l.1->D7 r (l.2 i))=true then(if Bf (∀i,i<l.1->∀k,k<i->(l.2 i).id=(l.2 k).id->FA (l.2 i) (l.2 k))=true then 0 else 42)else 41
noncomputable def CK(r:Ro)(l:Jc):Int:=if Bf (Ge r)=true then DY r l else 40
end Go.Proofs.YtlieoghhkioflaaGreat
namespace Go.Proofs.YtlieoghhkioflaaGreat
open Go Go.RowKit
variable{G:Nat->Option (Nat×(Nat->Ad))}
theorem Jw(x:De):∀b,b<9->Au x.L b=x.c b:=fun b hb=>by
 rcases(by omega:b=0\/b=1\/b=2\/b=3\/b=4\/b=5\/b=6\/b=7\/b=8)with rfl|rfl|rfl|rfl|rfl|rfl|rfl|rfl|rfl<;>rfl
theorem BZ(v:Ad):AB v v:=of_eq_true (FB v)
def Bu(x y:De):Prop:=x.day<y.day\/x.day=y.day/\x.id<y.id
instance(x y:De):Decidable (Bu x y):=by unfold Bu;infer_instance
def de0:De:=⟨0,0,0,0,0,⟨0,0⟩,0,(0,fun _=>⟨0,0⟩)⟩
def Hz(x:De):List De->List De
 |[]=>[x]
 |y::L=>if Bu x y then x::y::L else y::Hz x L
def lD(L:List De)(i:Nat):De:=L.getD i de0
noncomputable def Jx(l:Jc)(i:Nat):Bool:=Bf (∀k,k<i->(l.2 k).id≠(l.2 i).id)
noncomputable def BE(l:Jc):Nat->List De
 |0=>[]
 |i+1=>if Jx l i=true then Hz (l.2 i) (BE l i)else BE l i
theorem NH(x:De):∀L,(Hz x L).length=L.length+1
 |[]=>rfl
 |y::L=>by
  rw[Hz];split
  ·simp
  simp[NH x L]
theorem KD(l:Jc):∀i,(BE l i).length<=i
 |0=>Nat.le_refl _
 |i+1=>by
  have:=KD l i
  rw[BE];split
  ·rw[NH];omega
  omega
theorem Ju(x:De):∀(L:List De) (y:De),y∈Hz x L↔y=x\/y∈L
 |[],y=>by simp[Hz]
 |z::L,y=>by
  rw[Hz];split
  ·simp
  rw[List.mem_cons,Ju x L y,List.mem_cons];constructor<;>(rintro(h|h|h)<;>simp[h])
theorem J8{x y z:De}(h1:Bu x y)(h2:Bu y z):Bu x z:=by unfold Bu at*;omega
theorem R0{x y:De}(h:x.id≠y.id):Bu x y\/Bu y x:=by unfold Bu at*;omega
theorem IC(x:De):∀(L:List De),L.Pairwise Bu->(∀y∈L,y.id≠x.id)->(Hz x L).Pairwise Bu
 |[],_,_=>by simp[Hz]
 |z::L,h,hx=>by
  rw[List.pairwise_cons]at h
  rw[Hz];split
  ·rename_i hb
   rw[List.pairwise_cons,List.pairwise_cons]
   exact⟨fun y hy=>by rcases List.mem_cons.1 hy with rfl|hy;exact hb;exact J8 hb (h.1 y hy),h⟩
  rename_i hb
  rw[List.pairwise_cons]
  refine⟨fun y hy=> ?_,IC x L h.2 fun y hy=>hx y (by simp[hy])⟩
  rcases(Ju x L y).1 hy with rfl|hy
  ·exact(R0 (hx z (by simp))).resolve_right hb
  exact h.1 y hy
theorem Gj(l:Jc):∀i (y:De),y∈BE l i↔∃k,k<i/\Jx l k=true/\y=l.2 k
 |0,y=>by simp[BE]
 |i+1,y=>by
  rw[BE];split
  ·rename_i hn
   rw[Ju,Gj l i y]
   constructor
   ·rintro(rfl|⟨k,h1,h2,h3⟩)
    ·exact⟨i,by omega,hn,rfl⟩
    exact⟨k,by omega,h2,h3⟩
   rintro⟨k,h1,h2,rfl⟩
   by_cases e:k=i
   ·subst e;exact .inl rfl
   exact .inr ⟨k,by omega,h2,rfl⟩
  rename_i hn
  rw[Gj l i y]
  constructor
  ·rintro⟨k,h1,h2,h3⟩;exact⟨k,by omega,h2,h3⟩
  rintro⟨k,h1,h2,rfl⟩
  by_cases e:k=i
  ·subst e;exact absurd h2 hn
  exact⟨k,by omega,h2,rfl⟩
theorem Fw(l:Jc):∀i,(BE l i).Pairwise Bu
 |0=>List.Pairwise.nil
 |i+1=>by
  rw[BE];split
  ·rename_i hn
   refine IC _ _ (Fw l i) fun y hy=> ?_
   obtain⟨k,h1,_,rfl⟩:=(Gj l i y).1 hy
   exact Be.1 hn k h1
  exact Fw l i
end Go.Proofs.YtlieoghhkioflaaGreat
namespace Go.Proofs.YtlieoghhkioflaaGreat
open Go Go.RowKit
variable{G:Nat->Option (Nat×(Nat->Ad))}
def YZ(n:Int)(p:Nat×(Nat->Int)):Prop:=0<=n/\n<=23040/\1<=p.1/\p.1<=8/\∀i,i<p.1->1<=p.2 i/\p.2 i<=1000
theorem YZ.sum{n:Int}{p:Nat×(Nat->Int)}(h:YZ n p):∀k,k<=p.1->(k:Int)<=AN p.2 k/\AN p.2 k<=1000*k:=fun k hk=>by
 have h1:=Hv (fun _=>1) p.2 k fun i hi=>(h.2.2.2.2 i (by omega)).1
 have h2:=Hv p.2 (fun _=>1000) k fun i hi=>(h.2.2.2.2 i (by omega)).2
 rw[FD]at h1 h2;omega
end Go.Proofs.YtlieoghhkioflaaGreat
namespace Go.Proofs.YtlieoghhkioflaaGreat
open Go Go.RowKit
variable{G:Nat->Option (Nat×(Nat->Ad))}
def U2(b:Bk)(n:Nat):Prop:=b.ow.1=n/\b.le.1=n/\b.un.1=n/\b.de.1=10000
def H4(b:Bk)(x:De):Prop:=∀m:Nat,x.turn.fro<=m->(m:Int)<x.turn.til->b.ow.2 m=x.fro
def Og(b:Bk)(x:De):Prop:=∀m:Nat,x.turn.fro<=m->(m:Int)<x.turn.til->¬(b.le.2 m≠0/\x.day<b.un.2 m)
noncomputable def B6(b:Bk)(x:De):Int:=if(b.de.2 x.fro.toNat||b.de.2 x.tow.toNat)=true then 1 else if Bf (H4 b x)=true then(if x.kind=4 then(if Bf (Og b x)=true then 0 else 3)else 0)else 2
end Go.Proofs.YtlieoghhkioflaaGreat
namespace Go.Proofs.YtlieoghhkioflaaGreat
def Cs(r:Ro):Nat:=(1440*r.days).toNat
noncomputable def IS(r:Ro)(m:Nat):Int:=(r.holds.2 (Cj (fun i=>(m:Int)<(r.holds.2 i).turn.til) r.holds.1)).who
noncomputable def VP(r:Ro):Bk:=⟨(Cs r,IS r),(Cs r,fun _=>0),(Cs r,fun _=>0),(10000,fun _=>false)⟩
def CV(de:Nat->Bool)(l:Nat×(Nat->Hr)):Nat->List Hr
 |0=>[]
 |k+1=>if de (l.2 k).who.toNat=true then CV de l k else CV de l k++[l.2 k]
def L3(b:Bk)(x:De):Nat->Bool:=fun i=>if i=x.fro.toNat then true else b.de.2 i
def B3(b:Bk)(x:De):List Hr:=if(CV (L3 b x) x.heirs x.heirs.1).length=0 then[⟨0,1⟩]else CV (L3 b x) x.heirs x.heirs.1
def hl(L:List Hr)(i:Nat):Hr:=L.getD i ⟨0,0⟩
def Il(b:Bk)(x:De)(m:Nat):Nat:=E2 (fun q=>decide (b.ow.2 q=x.fro)) m
def A3(b:Bk)(x:De)(i:Nat):Int:=FJ (Il b x b.ow.1) (fun i=>(hl (B3 b x) i).parts) (B3 b x).length i
noncomputable def ER(each:Nat->Int)(k:Nat)(c:Nat):Nat:=Cj (fun i=>(c:Int)<AN each (i+1)) k
noncomputable def PJ(b:Bk)(x:De):Bk:=⟨(b.ow.1,fun m=>if b.ow.2 m=x.fro then(hl (B3 b x) (ER (A3 b x) (B3 b x).length (Il b x m))).who else b.ow.2 m),(b.le.1,fun m=>if b.le.2 m=x.fro then 0 else b.le.2 m),b.un,(b.de.1,L3 b x)⟩
def GE(x:De)(m:Nat):Prop:=x.turn.fro<=m/\(m:Int)<x.turn.til
instance(x:De)(m:Nat):Decidable (GE x m):=by unfold GE;infer_instance
noncomputable def Pv(b:Bk)(x:De):Bk:=
 if x.kind=3 then PJ b x else if x.kind=1 then⟨(b.ow.1,fun m=>if GE x m then x.tow else b.ow.2 m),b.le,b.un,b.de⟩
 else if x.kind=2 then⟨(b.ow.1,fun m=>if GE x m then 0 else b.ow.2 m),b.le,b.un,b.de⟩
 else if x.kind=4 then⟨b.ow,(b.le.1,fun m=>if GE x m then x.tow else b.le.2 m),(b.un.1,fun m=>if GE x m then x.til else b.un.2 m),b.de⟩else b
noncomputable def Fs(b:Bk)(x:De):Bk:=if B6 b x=0 then Pv b x else b
noncomputable def A1(r:Ro)(l:Nat->De):Nat->Bk
 |0=>VP r
 |k+1=>Fs (A1 r l k) (l k)
noncomputable def Cy(l:Jc)(day:Int):Nat:=Cj (fun i=>day<(l.2 i).day) l.1
theorem TV(r:Ro)(i:Nat):Lj r (i+1)=(r.holds.2 i).turn.til:=by
 unfold Lj;rw[if_neg (by omega),Nat.add_sub_cancel]
theorem KW{r:Ro}{n:Nat}(h:∀i,i<n->Hd1 r i):∀i,i<=n->∀j,j<i->(r.holds.2 j).turn.til<=Lj r i
 |0,_,j,hj=>by omega
 |i+1,hi,j,hj=>by
  have h1:=h i (by omega)
  rw[TV]
  by_cases e:j=i
  ·subst e;exact Int.le_refl _
  have:=KW h i (by omega) j (by omega)
  have h2:=h1.2.2.1;have h3:=h1.2.2.2.1
  omega
theorem Lo{r:Ro}(hr:Ge r){i m:Nat}(hi:i<r.holds.1)(h1:Lj r i<=m)(h2:(m:Int)<(r.holds.2 i).turn.til):IS r m=(r.holds.2 i).who:=by
 unfold IS
 rw[Db hi h2 fun j hj h=>by have:=KW hr.2.2.2.2.1 i (by omega) j hj;omega]
theorem Vz(r:Ro):U2 (VP r) (Cs r):=⟨rfl,rfl,rfl,rfl⟩
theorem Xz{b:Bk}{n:Nat}(h:U2 b n)(x:De):U2 (Pv b x) n:=by
 obtain⟨h1,h2,h3,h4⟩:=h
 unfold Pv
 split
 ·exact⟨h1,h2,h3,h4⟩
 split
 ·exact⟨h1,h2,h3,h4⟩
 split
 ·exact⟨h1,h2,h3,h4⟩
 split
 ·exact⟨h1,h2,h3,h4⟩
 exact⟨h1,h2,h3,h4⟩
theorem Hp(r:Ro)(l:Nat->De):∀k,U2 (A1 r l k) (Cs r)
 |0=>Vz r
 |k+1=>by
  rw[A1,Fs];split
  ·exact Xz (Hp r l k) _
  exact Hp r l k
theorem Lk(de:Nat->Bool)(l:Nat×(Nat->Hr)):∀k,(CV de l k).length<=k
 |0=>Nat.le_refl _
 |k+1=>by
  have:=Lk de l k
  rw[CV];split
  ·omega
  simp;omega
theorem I4(de:Nat->Bool)(l:Nat×(Nat->Hr)):∀k,∀h∈CV de l k,∃i,i<k/\h=l.2 i
 |0,h,hh=>by simp[CV]at hh
 |k+1,h,hh=>by
  rw[CV]at hh;split at hh
  ·obtain⟨i,h1,h2⟩:=I4 de l k h hh;exact⟨i,by omega,h2⟩
  rcases List.mem_append.1 hh with hh|hh
  ·obtain⟨i,h1,h2⟩:=I4 de l k h hh;exact⟨i,by omega,h2⟩
  exact⟨k,by omega,by simpa using hh⟩
theorem XQ{L:List Hr}{i:Nat}(h:i<L.length):hl L i∈L:=by
 unfold hl;rw[List.getD_eq_getElem?_getD,List.getElem?_eq_getElem h];exact List.getElem_mem h
theorem Ud{b:Bk}{x:De}(hh:G3 x.fro x.heirs)(hf:1<=x.fro):1<=(B3 b x).length/\(B3 b x).length<=8/\∀i,i<(B3 b x).length->0<=(hl (B3 b x) i).who/\(hl (B3 b x) i).who<=9999/\(hl (B3 b x) i).who≠x.fro/\1<=(hl (B3 b x) i).parts/\(hl (B3 b x) i).parts<=1000:=by
 obtain⟨h1,h2,h3⟩:=hh
 have h4:=Lk (L3 b x) x.heirs x.heirs.1
 unfold B3
 split
 ·refine⟨Nat.le_refl _,by simp,fun i hi=> ?_⟩
  obtain rfl:i=0:=by simpa using hi
  refine⟨by decide,by decide,?_,by decide,by decide⟩
  show(0:Int)≠x.fro
  omega
 refine⟨by omega,by omega,fun i hi=> ?_⟩
 obtain⟨q,q1,q2⟩:=I4 _ _ _ _ (XQ hi)
 obtain⟨g1,g2,g3,g4,g5,_⟩:=h3 q q1
 rw[q2]
 exact⟨by omega,g2,g3,g4,g5⟩
end Go.Proofs.YtlieoghhkioflaaGreat
