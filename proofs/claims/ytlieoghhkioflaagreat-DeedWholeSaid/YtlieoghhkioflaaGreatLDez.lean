/- Deeds: rolls and deeds, opened. No condition. -/
import Derived.Test.YtlieoghhkioflaaGreatLDoor
import Derived.Deep.Slices
import Derived.Test.YtlieoghhkioflaaGreatACode1
set_option linter.unusedSimpArgs false
set_option linter.unusedVariables false
set_option maxRecDepth 100000
namespace Go.Proofs.YtlieoghhkioflaaGreat
open Go Go.RowKit Go.ChangeShapes Go.WideShapes Go.ChangeAt Go.Deep
variable{fs:Array Field}{P:Program}{t:TypeId}
theorem Tu.opens(ht:P.underlying t=some (.struct fs))(hk:P.cellsOf t=2)(hn:fs.size=2)(f0:∃f,fs[0]?=some f/\f.offset=0/\A5 P (Bw .i64) f.type)(f1:∃f,fs[1]?=some f/\f.offset=1/\A5 P (Bw .i64) f.type):A5 P RTu t:=by
 refine⟨hk,(by decide:0<2),fun H enc W sp fuel cs x h=> ?_⟩
 obtain⟨xs,m,_,_,hlen,hxs,hf⟩:=DataW.trod_struct ht h
 obtain⟨g0,e0,p0,q0⟩:=f0
 obtain⟨v0,h0⟩:=q0.part (hf 0 g0 e0) (by omega)
 rw[p0]at h0
 obtain⟨g1,e1,p1,q1⟩:=f1
 obtain⟨v1,h1⟩:=q1.part (hf 1 g1 e1) (by omega)
 rw[p1]at h1
 refine⟨hlen.trans hk,⟨v0,v1⟩,fun j hj=> ?_⟩
 rcases(by have:j<2:=hj;omega:j=0\/j=1)with rfl|rfl
 ·exact h0 0 (by decide)
 exact h1 0 (by decide)
theorem Hr.opens(ht:P.underlying t=some (.struct fs))(hk:P.cellsOf t=2)(hn:fs.size=2)(f0:∃f,fs[0]?=some f/\f.offset=0/\A5 P (Bw .i64) f.type)(f1:∃f,fs[1]?=some f/\f.offset=1/\A5 P (Bw .i64) f.type):A5 P I2 t:=by
 refine⟨hk,(by decide:0<2),fun H enc W sp fuel cs x h=> ?_⟩
 obtain⟨xs,m,_,_,hlen,hxs,hf⟩:=DataW.trod_struct ht h
 obtain⟨g0,e0,p0,q0⟩:=f0
 obtain⟨v0,h0⟩:=q0.part (hf 0 g0 e0) (by omega)
 rw[p0]at h0
 obtain⟨g1,e1,p1,q1⟩:=f1
 obtain⟨v1,h1⟩:=q1.part (hf 1 g1 e1) (by omega)
 rw[p1]at h1
 refine⟨hlen.trans hk,⟨v0,v1⟩,fun j hj=> ?_⟩
 rcases(by have:j<2:=hj;omega:j=0\/j=1)with rfl|rfl
 ·exact h0 0 (by decide)
 exact h1 0 (by decide)
theorem De.opens(ht:P.underlying t=some (.struct fs))(hk:P.cellsOf t=9)(hn:fs.size=8)(f0:∃f,fs[0]?=some f/\f.offset=0/\A5 P (Bw .i64) f.type)(f1:∃f,fs[1]?=some f/\f.offset=1/\A5 P (Bw .i64) f.type)(f2:∃f,fs[2]?=some f/\f.offset=2/\A5 P (Bw .u8) f.type)(f3:∃f,fs[3]?=some f/\f.offset=3/\A5 P (Bw .i64) f.type)(f4:∃f,fs[4]?=some f/\f.offset=4/\A5 P (Bw .i64) f.type)(f5:∃f,fs[5]?=some f/\f.offset=5/\A5 P RTu f.type)(f6:∃f,fs[6]?=some f/\f.offset=7/\A5 P (Bw .i64) f.type)(f7:∃f,fs[7]?=some f/\f.offset=8/\A5 P (RSl I2) f.type):A5 P FT t:=by
 refine⟨hk,(by decide:0<9),fun H enc W sp fuel cs x h=> ?_⟩
 obtain⟨xs,m,_,_,hlen,hxs,hf⟩:=DataW.trod_struct ht h
 obtain⟨g0,e0,p0,q0⟩:=f0
 obtain⟨v0,h0⟩:=q0.part (hf 0 g0 e0) (by omega)
 rw[p0]at h0
 obtain⟨g1,e1,p1,q1⟩:=f1
 obtain⟨v1,h1⟩:=q1.part (hf 1 g1 e1) (by omega)
 rw[p1]at h1
 obtain⟨g2,e2,p2,q2⟩:=f2
 obtain⟨v2,h2⟩:=q2.part (hf 2 g2 e2) (by omega)
 rw[p2]at h2
 obtain⟨g3,e3,p3,q3⟩:=f3
 obtain⟨v3,h3⟩:=q3.part (hf 3 g3 e3) (by omega)
 rw[p3]at h3
 obtain⟨g4,e4,p4,q4⟩:=f4
 obtain⟨v4,h4⟩:=q4.part (hf 4 g4 e4) (by omega)
 rw[p4]at h4
 obtain⟨g5,e5,p5,q5⟩:=f5
 obtain⟨v5,h5⟩:=q5.part (hf 5 g5 e5) (by omega)
 rw[p5]at h5
 obtain⟨g6,e6,p6,q6⟩:=f6
 obtain⟨v6,h6⟩:=q6.part (hf 6 g6 e6) (by omega)
 rw[p6]at h6
 obtain⟨g7,e7,p7,q7⟩:=f7
 obtain⟨v7,h7⟩:=q7.part (hf 7 g7 e7) (by omega)
 rw[p7]at h7
 refine⟨hlen.trans hk,⟨v0,v1,v2,v3,v4,v5,v6,v7⟩,fun j hj=> ?_⟩
 rcases(by have:j<9:=hj;omega:j=0\/j=1\/j=2\/j=3\/j=4\/j=5\/j=6\/j=7\/j=8)with rfl|rfl|rfl|rfl|rfl|rfl|rfl|rfl|rfl
 ·exact h0 0 (by decide)
 ·exact h1 0 (by decide)
 ·exact h2 0 (by decide)
 ·exact h3 0 (by decide)
 ·exact h4 0 (by decide)
 ·exact h5 0 (by decide)
 ·exact h5 1 (by decide)
 ·exact h6 0 (by decide)
 exact h7 0 (by decide)
theorem Ho.opens(ht:P.underlying t=some (.struct fs))(hk:P.cellsOf t=3)(hn:fs.size=2)(f0:∃f,fs[0]?=some f/\f.offset=0/\A5 P (Bw .i64) f.type)(f1:∃f,fs[1]?=some f/\f.offset=1/\A5 P RTu f.type):A5 P KF t:=by
 refine⟨hk,(by decide:0<3),fun H enc W sp fuel cs x h=> ?_⟩
 obtain⟨xs,m,_,_,hlen,hxs,hf⟩:=DataW.trod_struct ht h
 obtain⟨g0,e0,p0,q0⟩:=f0
 obtain⟨v0,h0⟩:=q0.part (hf 0 g0 e0) (by omega)
 rw[p0]at h0
 obtain⟨g1,e1,p1,q1⟩:=f1
 obtain⟨v1,h1⟩:=q1.part (hf 1 g1 e1) (by omega)
 rw[p1]at h1
 refine⟨hlen.trans hk,⟨v0,v1⟩,fun j hj=> ?_⟩
 rcases(by have:j<3:=hj;omega:j=0\/j=1\/j=2)with rfl|rfl|rfl
 ·exact h0 0 (by decide)
 ·exact h1 0 (by decide)
 exact h1 1 (by decide)
theorem Ro.opens(ht:P.underlying t=some (.struct fs))(hk:P.cellsOf t=2)(hn:fs.size=2)(f0:∃f,fs[0]?=some f/\f.offset=0/\A5 P (Bw .i64) f.type)(f1:∃f,fs[1]?=some f/\f.offset=1/\A5 P (RSl KF) f.type):A5 P RRo t:=by
 refine⟨hk,(by decide:0<2),fun H enc W sp fuel cs x h=> ?_⟩
 obtain⟨xs,m,_,_,hlen,hxs,hf⟩:=DataW.trod_struct ht h
 obtain⟨g0,e0,p0,q0⟩:=f0
 obtain⟨v0,h0⟩:=q0.part (hf 0 g0 e0) (by omega)
 rw[p0]at h0
 obtain⟨g1,e1,p1,q1⟩:=f1
 obtain⟨v1,h1⟩:=q1.part (hf 1 g1 e1) (by omega)
 rw[p1]at h1
 refine⟨hlen.trans hk,⟨v0,v1⟩,fun j hj=> ?_⟩
 rcases(by have:j<2:=hj;omega:j=0\/j=1)with rfl|rfl
 ·exact h0 0 (by decide)
 exact h1 0 (by decide)
theorem oTu:A5 Tryz.prog RTu 45:=Tu.opens Tryz.underlying45 (by kernel_rfl) rfl ⟨_,rfl,rfl,(Cq Tryz.underlying3 (by kernel_rfl))⟩ ⟨_,rfl,rfl,(Cq Tryz.underlying3 (by kernel_rfl))⟩
theorem oHr:A5 Tryz.prog I2 140:=Hr.opens Tryz.underlying140 (by kernel_rfl) rfl ⟨_,rfl,rfl,(Cq Tryz.underlying3 (by kernel_rfl))⟩ ⟨_,rfl,rfl,(Cq Tryz.underlying3 (by kernel_rfl))⟩
theorem oDe:A5 Tryz.prog FT 56:=De.opens Tryz.underlying56 (by kernel_rfl) rfl ⟨_,rfl,rfl,(Cq Tryz.underlying3 (by kernel_rfl))⟩ ⟨_,rfl,rfl,(Cq Tryz.underlying3 (by kernel_rfl))⟩ ⟨_,rfl,rfl,(Cq Tryz.underlying5 (by kernel_rfl))⟩ ⟨_,rfl,rfl,(Cq Tryz.underlying3 (by kernel_rfl))⟩ ⟨_,rfl,rfl,(Cq Tryz.underlying3 (by kernel_rfl))⟩ ⟨_,rfl,rfl,oTu⟩ ⟨_,rfl,rfl,(Cq Tryz.underlying3 (by kernel_rfl))⟩ ⟨_,rfl,rfl,(EU Tryz.underlying54 (by kernel_rfl) oHr)⟩
theorem oHo:A5 Tryz.prog KF 47:=Ho.opens Tryz.underlying47 (by kernel_rfl) rfl ⟨_,rfl,rfl,(Cq Tryz.underlying3 (by kernel_rfl))⟩ ⟨_,rfl,rfl,oTu⟩
theorem oRo:A5 Tryz.prog RRo 24:=Ro.opens Tryz.underlying24 (by kernel_rfl) rfl ⟨_,rfl,rfl,(Cq Tryz.underlying3 (by kernel_rfl))⟩ ⟨_,rfl,rfl,(EU Tryz.underlying22 (by kernel_rfl) oHo)⟩
end Go.Proofs.YtlieoghhkioflaaGreat
namespace Go.Proofs.YtlieoghhkioflaaGreat
open Go Go.RowKit
variable{n:Nat}{p:Nat->Prop}
theorem mixed:Tryz.prog.follows .mixedOrders=true:=by kernel_rfl
noncomputable def Cp(p:Nat->Prop):Nat->Nat
 |0=>0
 |n+1=>if Cp p n<n then Cp p n else @ite _ (p n) (Classical.propDecidable _) n (n+1)
theorem He(h:∀j,j<n->¬p j):Cp p n=n:=by
 induction n with
 |zero=>rfl
 |succ n ih=>
  have:=ih fun j hj=>h j (by omega)
  unfold Cp;rw[this,if_neg (Nat.lt_irrefl n),@if_neg _ (Classical.propDecidable _) (h n (by omega))]
theorem C1{i:Nat}(hi:i<n)(hp:p i)(h:∀j,j<i->¬p j):Cp p n=i:=by
 induction n with
 |zero=>omega
 |succ n ih=>
  unfold Cp
  rcases Nat.lt_or_ge i n with h1|h1
  ·rw[ih h1,if_pos h1]
  obtain rfl:i=n:=by omega
  rw[He h,if_neg (Nat.lt_irrefl i),@if_pos _ (Classical.propDecidable _) hp]
theorem Yz(h:∃i,i<n/\p i):∃i,i<n/\p i/\∀j,j<i->¬p j:=by
 obtain⟨i,hi,hp⟩:=h
 induction i using Nat.strongRecOn with
 |ind i ih=>
  by_cases hm:∃j,j<i/\p j
  ·obtain⟨j,hj,hpj⟩:=hm
   exact ih j hj (by omega) hpj
  exact⟨i,hi,hp,fun j hj hpj=>hm ⟨j,hj,hpj⟩⟩
theorem Be(p:Nat->Prop)(n:Nat):(Cp p n<n/\p (Cp p n)/\∀j,j<Cp p n->¬p j)\/(Cp p n=n/\∀j,j<n->¬p j):=by
 by_cases h:∃i,i<n/\p i
 ·obtain⟨i,h1,h2,h3⟩:=Yz h
  rw[C1 h1 h2 h3];exact .inl ⟨h1,h2,h3⟩
 have:∀j,j<n->¬p j:=fun j hj hp=>h ⟨j,hj,hp⟩
 exact .inr ⟨He this,this⟩
noncomputable def A9(p:Prop):Bool:= @decide p (Classical.propDecidable _)
theorem AX{p:Prop}:A9 p=true↔p:= @decide_eq_true_iff p (Classical.propDecidable _)
theorem B4{p:Prop}:A9 p=false↔¬p:= @decide_eq_false_iff_not p (Classical.propDecidable _)
theorem Au{p:Prop}(h:p):A9 p=true:=AX.2 h
theorem An{p:Prop}(h:¬p):A9 p=false:=B4.2 h
theorem Eo{p q:Prop}(h:p↔q):A9 p=A9 q:=by rw[propext h]
end Go.Proofs.YtlieoghhkioflaaGreat
namespace Go.Proofs.YtlieoghhkioflaaGreat
variable{n:Int}{a b i k t:Nat}{P q:Nat->Bool}{p:Nat->Int}
def E7(p:Nat->Bool):Nat->Nat
 |0=>0
 |k+1=>if p k=true then E7 p k+1 else E7 p k
theorem GW(p:Nat->Bool):∀k,E7 p k<=k
 |0=>Nat.le_refl _
 |k+1=>by have:=GW p k;rw[E7];split<;>omega
theorem F3{p:Nat->Bool}:∀k,(∀i,i<k->p i=true->q i=true)->E7 p k<=E7 q k
 |0,_=>Nat.le_refl _
 |k+1,h=>by
  have:=F3 k fun i hi=>h i (by omega)
  rw[E7,E7]
  by_cases e:p k=true
  ·rw[if_pos e,if_pos (h k (by omega) e)];omega
  rw[if_neg e];split<;>omega
theorem Y3(p:Nat->Bool)(h:a<=b):E7 p a<=E7 p b:=by
  induction b with
  |zero=>obtain rfl:a=0:=by omega
         exact Nat.le_refl _
  |succ b ih=>
    by_cases e:a=b+1
    ·subst e;exact Nat.le_refl _
    have:=ih (by omega);rw[E7];split<;>omega
theorem KT{p:Nat->Bool}(k:Nat)(h:∀i,i<k->p i=q i):E7 p k=E7 q k:=
 Nat.le_antisymm (F3 k fun i hi e=>by rw[<-h i hi];exact e) (F3 k fun i hi e=>by rw[h i hi];exact e)
theorem Mh(p:Nat->Bool)(b:Nat)(hb:p b=false):∀k,E7 (fun i=>p i||decide (i=b)) k=E7 p k+(if b<k then 1 else 0)
 |0=>rfl
 |k+1=>by
  have ih:=Mh p b hb k
  rw[E7,E7,ih]
  by_cases e:k=b
  ·subst e
   simp[hb]
  have:(p k||decide (k=b))=p k:=by simp[e]
  rw[this]
  have e3:(b<k+1)=(b<k):=by apply propext;omega
  simp only[e3]
  split<;>split<;>omega
theorem VO{p:Nat->Bool}(k:Nat)(h:∀i,i<k->p i=true):E7 p k=k:=by
 induction k with
 |zero=>rfl
 |succ k ih=>rw[E7,if_pos (h k (by omega)),ih fun i hi=>h i (by omega)]
theorem SC{p:Nat->Bool}(k:Nat)(h:∀i,i<k->p i=true->q i=true)(b:Nat)(hb:b<k)(h1:p b=false)(h2:q b=true):E7 p k<E7 q k:=by
 have h3:=Mh p b h1 k
 rw[if_pos hb]at h3
 have:=F3 (p:=fun i=>p i||decide (i=b)) (q:=q) k fun i hi e=>by
  simp only[Bool.or_eq_true,decide_eq_true_eq]at e
  rcases e with e|e
  ·exact h i hi e
  rw[e];exact h2
 omega
def AG(f:Nat->Int):Nat->Int
 |0=>0
 |k+1=>AG f k+f k
theorem Jb(f:Nat->Int):∀k,(∀i,i<k->0<=f i)->0<=AG f k/\∀i,i<k->f i<=AG f k
 |0,_=>⟨Int.le_refl _,fun i hi=>by omega⟩
 |k+1,h=>by
  obtain⟨h1,h2⟩:=Jb f k fun i hi=>h i (by omega)
  have h3:=h k (by omega)
  refine⟨by rw[AG];omega,fun i hi=> ?_⟩
  rw[AG]
  by_cases e:i=k
  ·subst e;omega
  have:=h2 i (by omega);omega
def FY(n:Int)(p:Nat->Int)(k:Nat)(i:Nat):Int:=n*p i%AG p k
def DH(n:Int)(p:Nat->Int)(k:Nat)(i:Nat):Int:=n*p i/AG p k
def DN(n:Int)(p:Nat->Int)(k:Nat)(j i:Nat):Bool:=decide (FY n p k i<FY n p k j\/FY n p k i=FY n p k j/\j<i)
def DM(n:Int)(p:Nat->Int)(k:Nat):Int:=n-AG (DH n p k) k
def FN(n:Int)(p:Nat->Int)(k:Nat)(i:Nat):Int:=DH n p k i+if(E7 (fun j=>DN n p k j i) k:Int)<DM n p k then 1 else 0
theorem HO(f g:Nat->Int):∀k,(∀i,i<k->f i<=g i)->AG f k<=AG g k
 |0,_=>Int.le_refl _
 |k+1,h=>by have:=HO f g k fun i hi=>h i (by omega);have:=h k (by omega);simp only[AG];omega
theorem FJ(c:Int):∀k,AG (fun _=>c) k=k*c
 |0=>by simp[AG]
 |k+1=>by rw[AG,FJ c k,Int.natCast_succ,Int.add_mul,Int.one_mul]
theorem JG(c:Int)(f:Nat->Int):∀k,AG (fun i=>c*f i) k=c*AG f k
 |0=>by simp[AG]
 |k+1=>by rw[AG,JG c f k,AG,Int.mul_add]
theorem Ka(f g:Nat->Int):∀k,AG (fun i=>f i+g i) k=AG f k+AG g k
 |0=>rfl
 |k+1=>by simp only[AG,Ka f g k];omega
theorem EI{f g:Nat->Int}:∀k,(∀i,i<k->f i=g i)->AG f k=AG g k
 |0,_=>rfl
 |k+1,h=>by simp only[AG];rw[EI k fun i hi=>h i (by omega),h k (by omega)]
theorem NI(n:Int)(p:Nat->Int)(k:Nat):AG p k*DM n p k=AG (FY n p k) k:=by
 have h1:AG (fun i=>n*p i) k=n*AG p k:=JG n p k
 have h2:AG (fun i=>n*p i) k=AG (fun i=>AG p k*DH n p k i+FY n p k i) k:=EI k fun i _=>(Int.mul_ediv_add_emod (n*p i) (AG p k)).symm
 rw[h1,Ka,JG]at h2
 unfold DM
 rw[Int.mul_sub,Int.mul_comm _ n]
 omega
theorem Mc(hs:0<AG p k):0<=DM n p k:=by
 have h1:=NI n p k
 have h2:0<=AG (FY n p k) k:=by
  have:=HO (fun _=>0) (FY n p k) k fun i _=>Int.emod_nonneg _ (by omega)
  rw[FJ]at this;simpa using this
 rcases Int.lt_or_le (DM n p k) 0 with h|h
 ·have:AG p k*DM n p k<0:=Int.mul_neg_of_pos_of_neg hs h
  omega
 exact h
theorem PG(hk:0<k)(hs:0<AG p k):DM n p k<k:=by
 have h1:=NI n p k
 have h2:AG (FY n p k) k<=k*(AG p k-1):=by
  have:=HO (FY n p k) (fun _=>AG p k-1) k fun i _=>by have:=Int.emod_lt_of_pos (n*p i) hs;show n*p i%AG p k<=_;omega
  rwa[FJ]at this
 rcases Int.lt_or_le (DM n p k) k with h|h
 ·exact h
 have h3:AG p k*(k:Int)<=AG p k*DM n p k:=Int.mul_le_mul_of_nonneg_left h (by omega)
 rw[Int.mul_sub,Int.mul_one,Int.mul_comm (k:Int)]at h2
 omega
structure N9(n:Int)(p:Nat->Int)(k:Nat)(P:Nat->Bool)(t:Nat):Prop where
 up:∀i j,i<k->j<k->DN n p k j i=true->P i=true->P j=true
 cnt:E7 P k=t
theorem FL(n:Int)(p:Nat->Int)(k i:Nat):DN n p k i i=false:=decide_eq_false (by omega)
theorem SE{j:Nat}(h:i≠j):DN n p k i j=true\/DN n p k j i=true:=by
 simp only[DN,decide_eq_true_eq];omega
theorem H5{c:Nat}(h1:DN n p k a b=true)(h2:DN n p k b c=true):DN n p k a c=true:=by
 simp only[DN,decide_eq_true_eq]at*;omega
theorem N9.iff(h:N9 n p k P t)(hi:i<k):P i=decide (E7 (fun j=>DN n p k j i) k<t):=by
 cases hP:P i with
 |true=>
  symm;rw[decide_eq_true_eq,<-h.cnt]
  exact SC k (fun j hj e=>h.up i j hi hj e hP) i hi (FL n p k i) hP
 |false=>
  symm;rw[decide_eq_false_iff_not,<-h.cnt]
  refine Nat.not_lt.2 (F3 k fun j hj e=> ?_)
  have hne:i≠j:=fun e2=>by subst e2;rw[hP]at e;cases e
  rcases SE (n:=n) (p:=p) (k:=k) hne with h1|h1
  ·have:=h.up j i hj hi h1 e
   rw[hP]at this;cases this
  exact h1
theorem N9.zero(n:Int)(p:Nat->Int)(k:Nat):N9 n p k (fun _=>false) 0:=⟨fun _ _ _ _ _ h=>h,by induction k with|zero=>rfl|succ k ih=>rw[E7,if_neg (by simp),ih]⟩
theorem N9.next(h:N9 n p k P t)(hb:b<k)(hPb:P b=false)(hbest:∀j,j<k->P j=false->DN n p k j b=false):N9 n p k (fun i=>P i||decide (i=b)) (t+1):=by
 refine⟨fun i j hi hj hbt hP=> ?_,by rw[Mh P b hPb,if_pos hb,h.cnt]⟩
 simp only[Bool.or_eq_true,decide_eq_true_eq]at hP⊢
 rcases hP with hP|rfl
 ·exact .inl (h.up i j hi hj hbt hP)
 cases e:P j with
 |true=>exact .inl rfl
 |false=>rw[hbest j hj e]at hbt;cases hbt
theorem N9.free(h:N9 n p k P t)(ht:t<k):∃i,i<k/\P i=false:=by
 apply Classical.byContradiction
 intro hn
 have:E7 P k=k:=VO k fun i hi=>by
  cases e:P i with
  |true=>rfl
  |false=>exact absurd ⟨i,hi,e⟩ hn
 rw[h.cnt]at this;omega
theorem N9.congr{Q:Nat->Bool}(h:N9 n p k P t)(e:∀i,i<k->P i=Q i):N9 n p k Q t:=
 ⟨fun i j hi hj hb hq=>by rw[<-e j hj];exact h.up i j hi hj hb (by rw[e i hi];exact hq),by rw[<-h.cnt];exact(KT k e).symm⟩
def MI(n:Int)(p:Nat->Int)(k i:Nat):Nat:=E7 (fun j=>DN n p k j i) k
theorem Vu(n:Int)(p:Nat->Int)(k:Nat)(P:Nat->Bool):∀m,m<=k->(∃i,i<m/\P i=false)->∃b,b<m/\P b=false/\∀j,j<m->P j=false->DN n p k j b=false:=by
 intro m
 induction m with
 |zero=>rintro _ ⟨i,hi,_⟩;omega
 |succ m ih=>
  rintro hm ⟨i,hi,hp⟩
  by_cases h:∃i,i<m/\P i=false
  ·obtain⟨b,b1,b2,b3⟩:=ih (by omega) h
   cases hPm:P m with
   |true=>
    exact⟨b,by omega,b2,fun j hj e=>by
     by_cases e2:j=m
     ·subst e2;rw[hPm]at e;cases e
     exact b3 j (by omega) e⟩
   |false=>
    cases hmb:DN n p k m b with
    |false=>exact⟨b,by omega,b2,fun j hj e=>by
      by_cases e2:j=m
      ·subst e2;exact hmb
      exact b3 j (by omega) e⟩
    |true=>exact⟨m,by omega,hPm,fun j hj e=>by
      by_cases e2:j=m
      ·subst e2;exact FL _ _ _ _
      cases hjm:DN n p k j m with
      |false=>rfl
      |true=>
       have h1:=H5 hjm hmb
       rw[b3 j (by omega) e]at h1;exact h1.symm⟩
  refine⟨m,by omega,?_,fun j hj e=> ?_⟩
  ·by_cases e2:i=m
   ·subst e2;exact hp
   exact absurd ⟨i,by omega,hp⟩ h
  by_cases e2:j=m
  ·subst e2;exact FL _ _ _ _
  exact absurd ⟨j,by omega,e⟩ h
theorem PV(n:Int)(p:Nat->Int)(k:Nat):∀t,t<=k->N9 n p k (fun i=>decide (MI n p k i<t)) t
 |0,_=>(N9.zero n p k).congr fun i _=>by simp
 |t+1,h=>by
  have ih:=PV n p k t (by omega)
  obtain⟨b,b1,b2,b3⟩:=Vu n p k _ k (Nat.le_refl _) (ih.free (by omega))
  have h2:=ih.next b1 b2 b3
  exact h2.congr fun i hi=>h2.iff hi
theorem P5(p:Nat->Bool):∀k,AG (fun i=>if p i=true then 1 else 0) k=(E7 p k:Int)
 |0=>rfl
 |k+1=>by
  rw[AG,P5 p k,E7]
  split<;>rename_i h<;>simp[]
theorem NH(hk:0<k)(hs:0<AG p k):AG (FN n p k) k=n:=by
 have h1:=Mc (n:=n) hs
 have h2:=PG (n:=n) hk hs
 obtain⟨t,ht⟩:∃t:Nat,DM n p k=t:=⟨(DM n p k).toNat,by omega⟩
 have h3:=(PV n p k t (by omega)).cnt
 have h4:AG (FN n p k) k=AG (fun i=>DH n p k i+if(decide (MI n p k i<t))=true then 1 else 0) k:=EI k fun i hi=>by
  unfold FN
  rw[ht]
  unfold MI
  simp only[Int.ofNat_lt,decide_eq_true_eq]
 rw[h4,Ka,P5,h3,<-ht]
 unfold DM;omega
theorem QG(hn:0<=n)(hp:0<=p i)(hs:0<AG p k):0<=FN n p k i:=by
 have:0<=DH n p k i:=Int.ediv_nonneg (Int.mul_nonneg hn hp) (by omega)
 unfold FN;split<;>omega
theorem EW{f:Nat->Int}{len:Nat}(h:∀i,i<len->0<=f i)(hab:a<=b)(hb:b<=len):AG f a<=AG f b:=by
  induction b with
  |zero=>obtain rfl:a=0:=by omega
         exact Int.le_refl _
  |succ b ih=>
    by_cases e:a=b+1
    ·subst e;exact Int.le_refl _
    have:=ih (by omega) (by omega);have:=h b (by omega);rw[AG];omega
end Go.Proofs.YtlieoghhkioflaaGreat
namespace Go.Proofs.YtlieoghhkioflaaGreat
open Go Go.RowKit
variable{G:Nat->Option (Nat×(Nat->Ad))}
noncomputable def Nh{α:Type}(a b:Nat×(Nat->α)):Bool:=A9 (a.1=b.1/\∀i,i<a.1->a.2 i=b.2 i)
noncomputable def Ol:As:=Cs (Dw (Bw .i64)) (Dw (Bw .i64)) (fun _ _=>True) fun a b=> .bool (Nh a b)
theorem Ze:Ai Tryz.prog G 62 Ol:=by
 refine KK (S:=[]) (I:=[]) mixed .nil .nil Tryz.func62 c62 fun a b _ hw=> ?_
 simp only[Nat.reduceSub,Nat.reducePow,go_sem]at hw
 obtain⟨w1,w2⟩:=hw
 simp only[AU,a62,w1,w2,↓reduceIte,reduceCtorEq,Nat.reduceEqDiff,Nat.reduceSub,Nat.reducePow,go_sem]
 refine⟨fun h=>(An fun k=>h (by omega)).symm,fun h=> ?_⟩
 refine AK (ι:=Nat) (fun j=>j<=a.1/\∀i,i<j->a.2 i=b.2 i) (fun j=>a.1-j) [0,1] (fun j=>[(5,.int .i64 j)]) (fun _=>[]) 0 ⟨by omega,fun i h=>by omega⟩ (by simp only[↓reduceIte,reduceCtorEq,Nat.reduceEqDiff,go_sem];try rfl) fun j hj=> ?_
 obtain⟨hj1,hj2⟩:=hj
 simp only[w1,↓reduceIte,reduceCtorEq,Nat.reduceEqDiff,Nat.reduceSub,Nat.reducePow,go_sem]
 refine⟨fun hlt=>⟨by omega,by omega,by omega,by omega,fun h1=>(An fun k=> ?_).symm,fun h1=>Af (j+1) ⟨by omega,fun i hi=> ?_⟩ (by omega) ?_⟩,fun hge=> ?_⟩
 ·exact h1 (k.2 j (by omega))
 ·rcases Nat.lt_or_ge i j with h5|h5
  ·exact hj2 i h5
  obtain rfl:i=j:=by omega
  exact h1
 ·simp only[↓reduceIte,reduceCtorEq,Nat.reduceEqDiff,go_sem]
  rw[Cj (by omega)]
 exact(Au ⟨by omega,fun i hi=>hj2 i (by omega)⟩).symm
theorem AbR{a b:Pc}:(a.turn.fro==b.turn.fro&&(a.turn.til==b.turn.til&&a.baisa==b.baisa))=true↔a=b:=by
 obtain⟨⟨a1,a2⟩,a3⟩:=a;obtain⟨⟨b1,b2⟩,b3⟩:=b;simp[and_assoc]
noncomputable def L5:As:=Cs (Dw RPc) (Dw RPc) (fun _ _=>True) fun a b=> .bool (Nh a b)
theorem Vo:Ai Tryz.prog G 63 L5:=by
 refine KK (S:=[]) (I:=[]) mixed .nil .nil Tryz.func63 c63 fun a b _ hw=> ?_
 simp only[Nat.reduceSub,Nat.reducePow,go_sem]at hw
 obtain⟨w1,w2⟩:=hw
 simp only[AU,a63,w1,w2,↓reduceIte,reduceCtorEq,Nat.reduceEqDiff,Nat.reduceSub,Nat.reducePow,go_sem]
 refine⟨fun h=>(An fun k=>h (by omega)).symm,fun h=> ?_⟩
 refine AK (ι:=Nat) (fun j=>j<=a.1/\∀i,i<j->a.2 i=b.2 i) (fun j=>a.1-j) [0,1] (fun j=>[(5,.int .i64 j)]) (fun _=>[]) 0 ⟨by omega,fun i h=>by omega⟩ (by simp only[↓reduceIte,reduceCtorEq,Nat.reduceEqDiff,go_sem];try rfl) fun j hj=> ?_
 obtain⟨hj1,hj2⟩:=hj
 simp only[w1,↓reduceIte,reduceCtorEq,Nat.reduceEqDiff,Nat.reduceAdd,Nat.reduceSub,Nat.reducePow,go_sem]
 refine⟨fun hlt=>⟨by omega,by omega,by omega,by omega,fun h1=>(An fun k=> ?_).symm,fun h1=>Af (j+1) ⟨by omega,fun i hi=> ?_⟩ (by omega) ?_⟩,fun hge=> ?_⟩
 ·rw[k.2 j (by omega)]at h1;simp at h1
 ·rcases Nat.lt_or_ge i j with h5|h5
  ·exact hj2 i h5
  obtain rfl:i=j:=by omega
  exact AbR.1 h1
 ·simp only[↓reduceIte,reduceCtorEq,Nat.reduceEqDiff,go_sem]
  rw[Cj (by omega)]
 exact(Au ⟨by omega,fun i hi=>hj2 i (by omega)⟩).symm
end Go.Proofs.YtlieoghhkioflaaGreat
namespace Go.Proofs.YtlieoghhkioflaaGreat
open Go Go.RowKit
variable{G:Nat->Option (Nat×(Nat->Ad))}
def Pe(t:Tu):Prop:=0<=t.fro/\t.fro<t.til/\t.til<=23040
def L0(t:Tu)(b:Bd):Prop:=(1<=b.who/\b.who<=9999)/\(t.fro<=b.turn.fro/\b.turn.fro<b.turn.til/\b.turn.til<=t.til)/\0<=b.baisa/\b.baisa<=1000000000
noncomputable def FZ(t:Tu)(l:Nat×(Nat->Bd)):Int:=if A9 (Pe t)=true then(if 12<l.1 then 4 else if A9 (∀i,i<l.1->L0 t (l.2 i))=true then 0 else 43)else 2
noncomputable def Jk:As:=Cs VY (Dw RBd) (fun _ _=>True) fun t l=> .int .i64 (FZ t l)
end Go.Proofs.YtlieoghhkioflaaGreat
namespace Go.Proofs.YtlieoghhkioflaaGreat
open Go Go.RowKit
variable{G:Nat->Option (Nat×(Nat->Ad))}
abbrev Gi:=Nat×(Nat->De)
noncomputable def Kn(r:Ro)(l:Gi):Bool:=A9 (80<r.holds.1\/80<l.1\/∃i,i<l.1/\12<(l.2 i).heirs.1)
noncomputable def GH:As:=Cs Ja (Dw FT) (fun _ _=>True) fun r l=> .bool (Kn r l)
theorem WC:Ai Tryz.prog G 14 GH:=by
 refine KK (S:=[]) (I:=[]) mixed .nil .nil Tryz.func14 c14 fun r l _ hw=> ?_
 simp only[Nat.reduceSub,Nat.reducePow,go_sem]at hw
 obtain⟨w1,w2⟩:=hw
 simp only[AU,a14,w1,w2,↓reduceIte,reduceCtorEq,Nat.reduceEqDiff,Nat.reduceAdd,Nat.reduceSub,Nat.reducePow,go_sem]
 refine⟨fun h1=>(Au (.inl (by omega))).symm,fun h1=>⟨fun h2=>(Au (.inr (.inl (by omega)))).symm,fun h2=> ?_⟩⟩
 refine AK (ι:=Nat) (fun j=>j<=l.1/\∀i,i<j->(l.2 i).heirs.1<=12) (fun j=>l.1-j) [1] (fun j=>[(5,.int .i64 j)]) (fun _=>[]) 0 ⟨by omega,fun i h=>by omega⟩ (by simp only[↓reduceIte,reduceCtorEq,Nat.reduceEqDiff,Nat.reduceLT,go_sem];try rfl) fun j hj=> ?_
 obtain⟨hj1,hj2⟩:=hj
 simp only[w2,↓reduceIte,reduceCtorEq,Nat.reduceEqDiff,Nat.reduceSub,Nat.reducePow,go_sem]
 refine⟨fun hlt=>⟨by omega,by omega,fun _=>⟨fun h3=>(Au (.inr (.inr ⟨j,by omega,by omega⟩))).symm,fun h3=> ?_⟩⟩,fun hge=> ?_⟩
 ·refine Af (j+1) ⟨by omega,fun i hi=> ?_⟩ (by omega) (by simp only[↓reduceIte,Nat.reduceEqDiff,Nat.reduceLT,go_sem];rw[Cj (by omega)])
  rcases Nat.lt_or_ge i j with h5|h5
  ·exact hj2 i h5
  obtain rfl:i=j:=by omega
  omega
 refine(An fun k=> ?_).symm
 rcases k with k|k|⟨i,k1,k2⟩
 ·omega
 ·omega
 have:=hj2 i (by omega);omega
noncomputable def Lz:As:=Cs (Dw KF) (Dw KF) (fun _ _=>True) fun a b=> .bool (Nh a b)
theorem AcA{a b:Ho}:(a.who==b.who&&(a.turn.fro==b.turn.fro&&a.turn.til==b.turn.til))=true↔a=b:=by
 obtain⟨a1,⟨a2,a3⟩⟩:=a;obtain⟨b1,⟨b2,b3⟩⟩:=b;simp[]
theorem We:Ai Tryz.prog G 22 Lz:=by
 refine KK (S:=[]) (I:=[]) mixed .nil .nil Tryz.func22 c22 fun a b _ hw=> ?_
 simp only[Nat.reduceSub,Nat.reducePow,go_sem]at hw
 obtain⟨w1,w2⟩:=hw
 simp only[AU,a22,w1,w2,↓reduceIte,reduceCtorEq,Nat.reduceEqDiff,Nat.reduceSub,Nat.reducePow,go_sem]
 refine⟨fun h=>(An fun k=>h (by omega)).symm,fun h=> ?_⟩
 refine AK (ι:=Nat) (fun j=>j<=a.1/\∀i,i<j->a.2 i=b.2 i) (fun j=>a.1-j) [0,1] (fun j=>[(5,.int .i64 j)]) (fun _=>[]) 0 ⟨by omega,fun i h=>by omega⟩ (by simp only[↓reduceIte,reduceCtorEq,Nat.reduceEqDiff,go_sem];try rfl) fun j hj=> ?_
 obtain⟨hj1,hj2⟩:=hj
 simp only[w1,↓reduceIte,reduceCtorEq,Nat.reduceEqDiff,Nat.reduceAdd,Nat.reduceSub,Nat.reducePow,go_sem]
 refine⟨fun hlt=>⟨by omega,by omega,by omega,by omega,fun h1=>(An fun k=> ?_).symm,fun h1=>Af (j+1) ⟨by omega,fun i hi=> ?_⟩ (by omega) ?_⟩,fun hge=> ?_⟩
 ·rw[k.2 j (by omega)]at h1;simp at h1
 ·rcases Nat.lt_or_ge i j with h5|h5
  ·exact hj2 i h5
  obtain rfl:i=j:=by omega
  exact AcA.1 h1
 ·simp only[↓reduceIte,reduceCtorEq,Nat.reduceEqDiff,go_sem]
  rw[Cj (by omega)]
 exact(Au ⟨by omega,fun i hi=>hj2 i (by omega)⟩).symm
noncomputable def L8:As:=Cs (Dw N2) (Dw N2) (fun _ _=>True) fun a b=> .bool (Nh a b)
theorem AbU{a b:Hs}:(a.who==b.who&&a.mins==b.mins)=true↔a=b:=by
 obtain⟨a1,a2⟩:=a;obtain⟨b1,b2⟩:=b;simp[]
theorem Vh:Ai Tryz.prog G 23 L8:=by
 refine KK (S:=[]) (I:=[]) mixed .nil .nil Tryz.func23 c23 fun a b _ hw=> ?_
 simp only[Nat.reduceSub,Nat.reducePow,go_sem]at hw
 obtain⟨w1,w2⟩:=hw
 simp only[AU,a23,w1,w2,↓reduceIte,reduceCtorEq,Nat.reduceEqDiff,Nat.reduceSub,Nat.reducePow,go_sem]
 refine⟨fun h=>(An fun k=>h (by omega)).symm,fun h=> ?_⟩
 refine AK (ι:=Nat) (fun j=>j<=a.1/\∀i,i<j->a.2 i=b.2 i) (fun j=>a.1-j) [0,1] (fun j=>[(5,.int .i64 j)]) (fun _=>[]) 0 ⟨by omega,fun i h=>by omega⟩ (by simp only[↓reduceIte,reduceCtorEq,Nat.reduceEqDiff,go_sem];try rfl) fun j hj=> ?_
 obtain⟨hj1,hj2⟩:=hj
 simp only[w1,↓reduceIte,reduceCtorEq,Nat.reduceEqDiff,Nat.reduceAdd,Nat.reduceSub,Nat.reducePow,go_sem]
 refine⟨fun hlt=>⟨by omega,by omega,by omega,by omega,fun h1=>(An fun k=> ?_).symm,fun h1=>Af (j+1) ⟨by omega,fun i hi=> ?_⟩ (by omega) ?_⟩,fun hge=> ?_⟩
 ·rw[k.2 j (by omega)]at h1;simp at h1
 ·rcases Nat.lt_or_ge i j with h5|h5
  ·exact hj2 i h5
  obtain rfl:i=j:=by omega
  exact AbU.1 h1
 ·simp only[↓reduceIte,reduceCtorEq,Nat.reduceEqDiff,go_sem]
  rw[Cj (by omega)]
 exact(Au ⟨by omega,fun i hi=>hj2 i (by omega)⟩).symm
noncomputable def Fh(n a b:Int):Bool:=A9 (a<=n/\n<=b)
noncomputable def Py:As:=D8 TI TI TI (fun _ _ _=>True) fun n a b=> .bool (Fh n a b)
theorem Zx:Ai Tryz.prog G 59 Py:=by
 refine fn3 (S:=[]) (I:=[]) mixed .nil .nil Tryz.func59 c59 fun n a b _ hw=> ?_
 simp only[AU,a59,↓reduceIte,reduceCtorEq,Nat.reduceEqDiff,Nat.reduceAdd,go_sem]
 refine⟨fun h1=> ?_,fun h1=>(An fun k=>h1 k.1).symm⟩
 by_cases h2:n<=b
 ·rw[decide_eq_true h2];exact(Au ⟨h1,h2⟩).symm
 rw[decide_eq_false h2];exact(An fun k=>h2 k.2).symm
noncomputable def UV:As:=DF TI (fun _=>True) fun n=> .bool (Fh n 1 9999)
theorem Aa7:Ai Tryz.prog G 69 UV:=by
 refine Xx (S:=[(59,Py)]) (I:=[]) mixed (.cons Zx .nil) .nil Tryz.func69 c69 fun n _ hw=> ?_
 simp only[AU,a69,Py,↓reduceIte,reduceCtorEq,go_sem]
theorem XQ{i:Nat}(h:0<i)(h2:i<9223372036854775807):IntKind.i64.wrap ((i:Int)-1)=((i-1:Nat):Int):=by rw[AP (by omega) (by omega)];omega
def Yl(f:Int)(l:Nat×(Nat->Hr))(i:Nat):Prop:=1<=(l.2 i).who/\(l.2 i).who<=9999/\(l.2 i).who≠f/\1<=(l.2 i).parts/\(l.2 i).parts<=1000/\(0<i->(l.2 (i-1)).who<(l.2 i).who)
def FV(fro:Int)(l:Nat×(Nat->Hr)):Prop:=1<=l.1/\l.1<=8/\∀i,i<l.1->Yl fro l i
noncomputable def O6:As:=Cs TI (Dw I2) (fun _ _=>True) fun f l=> .bool (A9 (FV f l))
theorem Yj:Ai Tryz.prog G 71 O6:=by
 refine KK (S:=[(69,UV),(59,Py)]) (I:=[]) mixed (.cons Aa7 (.cons Zx .nil)) .nil Tryz.func71 c71 fun f l _ hw=> ?_
 simp only[Nat.reduceSub,Nat.reducePow,go_sem]at hw
 simp only[AU,a71,UV,Py,hw,↓reduceIte,reduceCtorEq,Nat.reduceEqDiff,Nat.reduceSub,Nat.reducePow,go_sem,Fh,AX,B4]
 have f1:((1:Int)<=(l.1:Int)/\(l.1:Int)<=8)=(1<=l.1/\l.1<=8):=by apply propext;omega
 refine⟨fun h1=>(An fun k=>h1 (by have:=k.1;have:=k.2.1;omega)).symm,fun h1=> ?_⟩
 refine AK (ι:=Nat) (fun j=>j<=l.1/\∀i,i<j->Yl f l i) (fun j=>l.1-j) [0,1] (fun j=>[(5,.int .i64 j)]) (fun _=>[]) 0 ⟨by omega,fun i h=>by omega⟩ (by simp only[↓reduceIte,reduceCtorEq,Nat.reduceEqDiff,go_sem];try rfl) fun j hj=> ?_
 obtain⟨hj1,hj2⟩:=hj
 simp only[hw,↓reduceIte,reduceCtorEq,Nat.reduceEqDiff,Nat.reduceSub,Nat.reduceLeDiff,Nat.reducePow,go_sem,AX,B4]
 have no:j<l.1->¬Yl f l j->false=A9 (FV f l):=fun hlt h=>(An fun k=>h (k.2.2 j hlt)).symm
 have go:∀{P:Prop},Yl f l j->P->(∀i,i<j+1->Yl f l i)/\P:=fun h k=>⟨fun i hi=>by
  rcases Nat.lt_or_ge i j with h5|h5
  ·exact hj2 i h5
  obtain rfl:i=j:=by omega
  exact h,k⟩
 refine⟨fun hlt=>⟨by omega,by omega,fun q1=>no (by omega) fun k=>q1 ⟨k.1,k.2.1⟩,fun q1=>⟨by omega,by omega,fun q2=>no (by omega) fun k=>k.2.2.1 q2,fun q2=>⟨by omega,by omega,fun q3=>no (by omega) fun k=>q3 ⟨k.2.2.2.1,k.2.2.2.2.1⟩,fun q3=>⟨fun q4=> ?_,fun q4=> ?_⟩⟩⟩⟩,fun hge=>(Au ⟨by omega,by omega,fun i hi=>hj2 i (by omega)⟩).symm⟩
 ·rw[XQ (by omega) (by omega),Int.toNat_natCast]
  refine⟨by omega,by omega,by omega,by omega,fun q5=>no (by omega) fun k=>by have:=k.2.2.2.2.2 (by omega);omega,fun q5=> ?_⟩
  exact Af (j+1) ⟨by omega,(go ⟨q1.1,q1.2,q2,q3.1,q3.2,fun _=>by omega⟩ trivial).1⟩ (by omega) (by simp only[↓reduceIte,reduceCtorEq,Nat.reduceEqDiff,go_sem];rw[Cj (by omega)])
 exact Af (j+1) ⟨by omega,(go ⟨q1.1,q1.2,q2,q3.1,q3.2,fun _=>by omega⟩ trivial).1⟩ (by omega) (by simp only[↓reduceIte,reduceCtorEq,Nat.reduceEqDiff,go_sem];rw[Cj (by omega)])
def IV(r:Ro)(j:Nat):Int:=if j=0 then 0 else(r.holds.2 (j-1)).turn.til
def Zk(r:Ro)(i:Nat):Prop:=0<=(r.holds.2 i).who/\(r.holds.2 i).who<=9999/\(r.holds.2 i).turn.fro=IV r i/\(r.holds.2 i).turn.fro<(r.holds.2 i).turn.til/\(r.holds.2 i).turn.til<=1440*r.days
def EQ(r:Ro):Prop:=1<=r.days/\r.days<=16/\1<=r.holds.1/\r.holds.1<=60/\(∀i,i<r.holds.1->Zk r i)/\IV r r.holds.1=1440*r.days
noncomputable def Ox:As:=DF Ja (fun _=>True) fun r=> .bool (A9 (EQ r))
theorem Z3:Ai Tryz.prog G 93 Ox:=by
 refine Xx (S:=[]) (I:=[(59,a59)]) mixed .nil (.cons Tryz.func59 c59 .nil) Tryz.func93 c93 fun r _ hw=> ?_
 simp only[Nat.reduceSub,Nat.reducePow,go_sem]at hw
 simp only[AU,a93,a59,hw,↓reduceIte,reduceCtorEq,Nat.reduceEqDiff,Nat.reduceAdd,Nat.reduceSub,Nat.reduceLeDiff,Nat.reducePow,go_sem]
 refine⟨fun h1=>⟨fun h2=>(An fun k=>h2 k.2.1).symm,fun h2=>⟨fun h3=>⟨fun h4=>(An fun k=>h4 (by have:=k.2.2.2.1;omega)).symm,fun h4=> ?_⟩,fun h3=>(An fun k=>h3 (by have:=k.2.2.1;omega)).symm⟩⟩,fun h1=>(An fun k=>h1 k.1).symm⟩
 refine AK (ι:=Nat) (fun j=>j<=r.holds.1/\∀i,i<j->Zk r i) (fun j=>r.holds.1-j) [1] (fun j=>[(4,.int .i64 j),(3,.int .i64 (IV r j))]) (fun _=>[]) 0 ⟨by omega,fun i h=>by omega⟩ (by simp only[↓reduceIte,Nat.reduceEqDiff,Nat.reduceLT,go_sem];try rfl) fun j hj=> ?_
 obtain⟨hj1,hj2⟩:=hj
 simp only[hw,↓reduceIte,reduceCtorEq,Nat.reduceEqDiff,Nat.reduceAdd,Nat.reduceSub,Nat.reduceLeDiff,Nat.reducePow,go_sem]
 rw[AP (by omega) (by omega)]
 have no:j<r.holds.1->¬Zk r j->false=A9 (EQ r):=fun hlt h=>(An fun k=>h (k.2.2.2.2.1 j hlt)).symm
 refine⟨fun hlt=>⟨by omega,by omega,fun q1=>⟨fun q2=>no (by omega) fun k=>by have:=k.2.1;omega,fun q2=>⟨fun q3=>no (by omega) fun k=>q3 k.2.2.1,fun q3=>⟨fun q4=>no (by omega) fun k=>by have:=k.2.2;omega,fun q4=>⟨fun q5=>no (by omega) fun k=>by have:=k.2.2.2.2;omega,fun q5=> ?_⟩⟩⟩⟩,fun q1=>no (by omega) fun k=>by have:=k.1;omega⟩,fun hge=> ?_⟩
 ·refine Af (j+1) ⟨by omega,fun i hi=> ?_⟩ (by omega) (by simp only[↓reduceIte,reduceCtorEq,Nat.reduceEqDiff,Nat.reduceLT,go_sem];rw[Cj (by omega)];exact⟨rfl,rfl⟩)
  rcases Nat.lt_or_ge i j with h5|h5
  ·exact hj2 i h5
  obtain rfl:i=j:=by omega
  exact⟨q1,q2,q3,by omega,by omega⟩
 obtain rfl:j=r.holds.1:=by omega
 by_cases he:IV r r.holds.1=1440*r.days
 ·rw[he,Au ⟨h1,h2,by omega,by omega,hj2,he⟩];exact beq_self_eq_true _
 rw[An fun k=>he k.2.2.2.2.2];exact beq_eq_false_iff_ne.2 he
noncomputable def HG:As:=DF Ja (fun _=>True) fun r=> .int .i64 (if A9 (EQ r)=true then 0 else 40)
theorem VF:Ai Tryz.prog G 64 HG:=by
 refine Xx (S:=[(93,Ox)]) (I:=[]) mixed (.cons Z3 .nil) .nil Tryz.func64 c64 fun r _ hw=> ?_
 simp only[Nat.reduceSub,Nat.reducePow,go_sem]at hw
 simp only[AU,a64,Ox,hw,↓reduceIte,reduceCtorEq,Nat.reduceEqDiff,Nat.reduceAdd,Nat.reduceSub,Nat.reducePow,go_sem]
 exact⟨fun h=>by rw[h];rfl,fun h=>by rw[h];rfl⟩
end Go.Proofs.YtlieoghhkioflaaGreat
