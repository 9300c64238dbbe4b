/- Deeds: rolls and deeds, opened. No condition. -/
import Derived.Test.YtlieoghhkioflaaGreatLDoor
import Derived.Deep.Slices
import Derived.Test.YtlieoghhkioflaaGreatACode1
set_option linter.unusedSimpArgs false
set_option linter.unusedVariables false
set_option maxRecDepth 100000
namespace Go.Proofs.YtlieoghhkioflaaGreat
open Go Go.RowKit Go.ChangeShapes Go.WideShapes Go.ChangeAt Go.Deep
variable{fs:Array Field}{P:Program}{t:TypeId}
theorem Tu.opens(ht:P.underlying t=some (.struct fs))(hk:P.cellsOf t=2)(hn:fs.size=2)(f0:∃f,fs[0]?=some f/\f.offset=0/\A1 P (Bw .i64) f.type)(f1:∃f,fs[1]?=some f/\f.offset=1/\A1 P (Bw .i64) f.type):A1 P RTu t:=by
 refine⟨hk,(by decide:0<2),fun H enc W sp fuel cs x h=> ?_⟩
 obtain⟨xs,m,_,_,hlen,hxs,hf⟩:=DataW.trod_struct ht h
 obtain⟨g0,e0,p0,q0⟩:=f0
 obtain⟨v0,h0⟩:=q0.part (hf 0 g0 e0) (by omega)
 rw[p0]at h0
 obtain⟨g1,e1,p1,q1⟩:=f1
 obtain⟨v1,h1⟩:=q1.part (hf 1 g1 e1) (by omega)
 rw[p1]at h1
 refine⟨hlen.trans hk,⟨v0,v1⟩,fun j hj=> ?_⟩
 rcases(by have:j<2:=hj;omega:j=0\/j=1)with rfl|rfl
 ·exact h0 0 (by decide)
 exact h1 0 (by decide)
theorem Hr.opens(ht:P.underlying t=some (.struct fs))(hk:P.cellsOf t=2)(hn:fs.size=2)(f0:∃f,fs[0]?=some f/\f.offset=0/\A1 P (Bw .i64) f.type)(f1:∃f,fs[1]?=some f/\f.offset=1/\A1 P (Bw .i64) f.type):A1 P IY t:=by
 refine⟨hk,(by decide:0<2),fun H enc W sp fuel cs x h=> ?_⟩
 obtain⟨xs,m,_,_,hlen,hxs,hf⟩:=DataW.trod_struct ht h
 obtain⟨g0,e0,p0,q0⟩:=f0
 obtain⟨v0,h0⟩:=q0.part (hf 0 g0 e0) (by omega)
 rw[p0]at h0
 obtain⟨g1,e1,p1,q1⟩:=f1
 obtain⟨v1,h1⟩:=q1.part (hf 1 g1 e1) (by omega)
 rw[p1]at h1
 refine⟨hlen.trans hk,⟨v0,v1⟩,fun j hj=> ?_⟩
 rcases(by have:j<2:=hj;omega:j=0\/j=1)with rfl|rfl
 ·exact h0 0 (by decide)
 exact h1 0 (by decide)
theorem De.opens(ht:P.underlying t=some (.struct fs))(hk:P.cellsOf t=9)(hn:fs.size=8)(f0:∃f,fs[0]?=some f/\f.offset=0/\A1 P (Bw .i64) f.type)(f1:∃f,fs[1]?=some f/\f.offset=1/\A1 P (Bw .i64) f.type)(f2:∃f,fs[2]?=some f/\f.offset=2/\A1 P (Bw .u8) f.type)(f3:∃f,fs[3]?=some f/\f.offset=3/\A1 P (Bw .i64) f.type)(f4:∃f,fs[4]?=some f/\f.offset=4/\A1 P (Bw .i64) f.type)(f5:∃f,fs[5]?=some f/\f.offset=5/\A1 P RTu f.type)(f6:∃f,fs[6]?=some f/\f.offset=7/\A1 P (Bw .i64) f.type)(f7:∃f,fs[7]?=some f/\f.offset=8/\A1 P (RSl IY) f.type):A1 P Gq t:=by
 refine⟨hk,(by decide:0<9),fun H enc W sp fuel cs x h=> ?_⟩
 obtain⟨xs,m,_,_,hlen,hxs,hf⟩:=DataW.trod_struct ht h
 obtain⟨g0,e0,p0,q0⟩:=f0
 obtain⟨v0,h0⟩:=q0.part (hf 0 g0 e0) (by omega)
 rw[p0]at h0
 obtain⟨g1,e1,p1,q1⟩:=f1
 obtain⟨v1,h1⟩:=q1.part (hf 1 g1 e1) (by omega)
 rw[p1]at h1
 obtain⟨g2,e2,p2,q2⟩:=f2
 obtain⟨v2,h2⟩:=q2.part (hf 2 g2 e2) (by omega)
 rw[p2]at h2
 obtain⟨g3,e3,p3,q3⟩:=f3
 obtain⟨v3,h3⟩:=q3.part (hf 3 g3 e3) (by omega)
 rw[p3]at h3
 obtain⟨g4,e4,p4,q4⟩:=f4
 obtain⟨v4,h4⟩:=q4.part (hf 4 g4 e4) (by omega)
 rw[p4]at h4
 obtain⟨g5,e5,p5,q5⟩:=f5
 obtain⟨v5,h5⟩:=q5.part (hf 5 g5 e5) (by omega)
 rw[p5]at h5
 obtain⟨g6,e6,p6,q6⟩:=f6
 obtain⟨v6,h6⟩:=q6.part (hf 6 g6 e6) (by omega)
 rw[p6]at h6
 obtain⟨g7,e7,p7,q7⟩:=f7
 obtain⟨v7,h7⟩:=q7.part (hf 7 g7 e7) (by omega)
 rw[p7]at h7
 refine⟨hlen.trans hk,⟨v0,v1,v2,v3,v4,v5,v6,v7⟩,fun j hj=> ?_⟩
 rcases(by have:j<9:=hj;omega:j=0\/j=1\/j=2\/j=3\/j=4\/j=5\/j=6\/j=7\/j=8)with rfl|rfl|rfl|rfl|rfl|rfl|rfl|rfl|rfl
 ·exact h0 0 (by decide)
 ·exact h1 0 (by decide)
 ·exact h2 0 (by decide)
 ·exact h3 0 (by decide)
 ·exact h4 0 (by decide)
 ·exact h5 0 (by decide)
 ·exact h5 1 (by decide)
 ·exact h6 0 (by decide)
 exact h7 0 (by decide)
theorem Ho.opens(ht:P.underlying t=some (.struct fs))(hk:P.cellsOf t=3)(hn:fs.size=2)(f0:∃f,fs[0]?=some f/\f.offset=0/\A1 P (Bw .i64) f.type)(f1:∃f,fs[1]?=some f/\f.offset=1/\A1 P RTu f.type):A1 P Mi t:=by
 refine⟨hk,(by decide:0<3),fun H enc W sp fuel cs x h=> ?_⟩
 obtain⟨xs,m,_,_,hlen,hxs,hf⟩:=DataW.trod_struct ht h
 obtain⟨g0,e0,p0,q0⟩:=f0
 obtain⟨v0,h0⟩:=q0.part (hf 0 g0 e0) (by omega)
 rw[p0]at h0
 obtain⟨g1,e1,p1,q1⟩:=f1
 obtain⟨v1,h1⟩:=q1.part (hf 1 g1 e1) (by omega)
 rw[p1]at h1
 refine⟨hlen.trans hk,⟨v0,v1⟩,fun j hj=> ?_⟩
 rcases(by have:j<3:=hj;omega:j=0\/j=1\/j=2)with rfl|rfl|rfl
 ·exact h0 0 (by decide)
 ·exact h1 0 (by decide)
 exact h1 1 (by decide)
theorem Ro.opens(ht:P.underlying t=some (.struct fs))(hk:P.cellsOf t=2)(hn:fs.size=2)(f0:∃f,fs[0]?=some f/\f.offset=0/\A1 P (Bw .i64) f.type)(f1:∃f,fs[1]?=some f/\f.offset=1/\A1 P (RSl Mi) f.type):A1 P RRo t:=by
 refine⟨hk,(by decide:0<2),fun H enc W sp fuel cs x h=> ?_⟩
 obtain⟨xs,m,_,_,hlen,hxs,hf⟩:=DataW.trod_struct ht h
 obtain⟨g0,e0,p0,q0⟩:=f0
 obtain⟨v0,h0⟩:=q0.part (hf 0 g0 e0) (by omega)
 rw[p0]at h0
 obtain⟨g1,e1,p1,q1⟩:=f1
 obtain⟨v1,h1⟩:=q1.part (hf 1 g1 e1) (by omega)
 rw[p1]at h1
 refine⟨hlen.trans hk,⟨v0,v1⟩,fun j hj=> ?_⟩
 rcases(by have:j<2:=hj;omega:j=0\/j=1)with rfl|rfl
 ·exact h0 0 (by decide)
 exact h1 0 (by decide)
theorem oTu:A1 Tryz.prog RTu 45:=Tu.opens Tryz.underlying45 (by kernel_rfl) rfl ⟨_,rfl,rfl,(Cp Tryz.underlying3 (by kernel_rfl))⟩ ⟨_,rfl,rfl,(Cp Tryz.underlying3 (by kernel_rfl))⟩
theorem oHr:A1 Tryz.prog IY 140:=Hr.opens Tryz.underlying140 (by kernel_rfl) rfl ⟨_,rfl,rfl,(Cp Tryz.underlying3 (by kernel_rfl))⟩ ⟨_,rfl,rfl,(Cp Tryz.underlying3 (by kernel_rfl))⟩
theorem oDe:A1 Tryz.prog Gq 56:=De.opens Tryz.underlying56 (by kernel_rfl) rfl ⟨_,rfl,rfl,(Cp Tryz.underlying3 (by kernel_rfl))⟩ ⟨_,rfl,rfl,(Cp Tryz.underlying3 (by kernel_rfl))⟩ ⟨_,rfl,rfl,(Cp Tryz.underlying5 (by kernel_rfl))⟩ ⟨_,rfl,rfl,(Cp Tryz.underlying3 (by kernel_rfl))⟩ ⟨_,rfl,rfl,(Cp Tryz.underlying3 (by kernel_rfl))⟩ ⟨_,rfl,rfl,oTu⟩ ⟨_,rfl,rfl,(Cp Tryz.underlying3 (by kernel_rfl))⟩ ⟨_,rfl,rfl,(E0 Tryz.underlying54 (by kernel_rfl) oHr)⟩
theorem oHo:A1 Tryz.prog Mi 47:=Ho.opens Tryz.underlying47 (by kernel_rfl) rfl ⟨_,rfl,rfl,(Cp Tryz.underlying3 (by kernel_rfl))⟩ ⟨_,rfl,rfl,oTu⟩
theorem oRo:A1 Tryz.prog RRo 24:=Ro.opens Tryz.underlying24 (by kernel_rfl) rfl ⟨_,rfl,rfl,(Cp Tryz.underlying3 (by kernel_rfl))⟩ ⟨_,rfl,rfl,(E0 Tryz.underlying22 (by kernel_rfl) oHo)⟩
end Go.Proofs.YtlieoghhkioflaaGreat
namespace Go.Proofs.YtlieoghhkioflaaGreat
open Go Go.RowKit
variable{n:Nat}{p:Nat->Prop}
theorem mixed:Tryz.prog.follows .mixedOrders=true:=by kernel_rfl
noncomputable def Co(p:Nat->Prop):Nat->Nat
 |0=>0
 |n+1=>if Co p n<n then Co p n else @ite _ (p n) (Classical.propDecidable _) n (n+1)
theorem HK(h:∀j,j<n->¬p j):Co p n=n:=by
 induction n with
 |zero=>rfl
 |succ n ih=>
  have:=ih fun j hj=>h j (by omega)
  unfold Co;rw[this,if_neg (Nat.lt_irrefl n),@if_neg _ (Classical.propDecidable _) (h n (by omega))]
theorem C5{i:Nat}(hi:i<n)(hp:p i)(h:∀j,j<i->¬p j):Co p n=i:=by
 induction n with
 |zero=>omega
 |succ n ih=>
  unfold Co
  rcases Nat.lt_or_ge i n with h1|h1
  ·rw[ih h1,if_pos h1]
  obtain rfl:i=n:=by omega
  rw[HK h,if_neg (Nat.lt_irrefl i),@if_pos _ (Classical.propDecidable _) hp]
theorem Zi(h:∃i,i<n/\p i):∃i,i<n/\p i/\∀j,j<i->¬p j:=by
 obtain⟨i,hi,hp⟩:=h
 induction i using Nat.strongRecOn with
 |ind i ih=>
  by_cases hm:∃j,j<i/\p j
  ·obtain⟨j,hj,hpj⟩:=hm
   exact ih j hj (by omega) hpj
  exact⟨i,hi,hp,fun j hj hpj=>hm ⟨j,hj,hpj⟩⟩
theorem Bi(p:Nat->Prop)(n:Nat):(Co p n<n/\p (Co p n)/\∀j,j<Co p n->¬p j)\/(Co p n=n/\∀j,j<n->¬p j):=by
 by_cases h:∃i,i<n/\p i
 ·obtain⟨i,h1,h2,h3⟩:=Zi h
  rw[C5 h1 h2 h3];exact .inl ⟨h1,h2,h3⟩
 have:∀j,j<n->¬p j:=fun j hj hp=>h ⟨j,hj,hp⟩
 exact .inr ⟨HK this,this⟩
noncomputable def A8(p:Prop):Bool:= @decide p (Classical.propDecidable _)
theorem AM{p:Prop}:A8 p=true↔p:= @decide_eq_true_iff p (Classical.propDecidable _)
theorem BB{p:Prop}:A8 p=false↔¬p:= @decide_eq_false_iff_not p (Classical.propDecidable _)
theorem At{p:Prop}(h:p):A8 p=true:=AM.2 h
theorem Am{p:Prop}(h:¬p):A8 p=false:=BB.2 h
theorem EA{p q:Prop}(h:p↔q):A8 p=A8 q:=by rw[propext h]
end Go.Proofs.YtlieoghhkioflaaGreat
namespace Go.Proofs.YtlieoghhkioflaaGreat
variable{n:Int}{a b i k t:Nat}{P q:Nat->Bool}{p:Nat->Int}
def E4(p:Nat->Bool):Nat->Nat
 |0=>0
 |k+1=>if p k=true then E4 p k+1 else E4 p k
theorem G9(p:Nat->Bool):∀k,E4 p k<=k
 |0=>Nat.le_refl _
 |k+1=>by have:=G9 p k;rw[E4];split<;>omega
theorem F1{p:Nat->Bool}:∀k,(∀i,i<k->p i=true->q i=true)->E4 p k<=E4 q k
 |0,_=>Nat.le_refl _
 |k+1,h=>by
  have:=F1 k fun i hi=>h i (by omega)
  rw[E4,E4]
  by_cases e:p k=true
  ·rw[if_pos e,if_pos (h k (by omega) e)];omega
  rw[if_neg e];split<;>omega
theorem Z3(p:Nat->Bool)(h:a<=b):E4 p a<=E4 p b:=by
  induction b with
  |zero=>obtain rfl:a=0:=by omega
         exact Nat.le_refl _
  |succ b ih=>
    by_cases e:a=b+1
    ·subst e;exact Nat.le_refl _
    have:=ih (by omega);rw[E4];split<;>omega
theorem K3{p:Nat->Bool}(k:Nat)(h:∀i,i<k->p i=q i):E4 p k=E4 q k:=
 Nat.le_antisymm (F1 k fun i hi e=>by rw[<-h i hi];exact e) (F1 k fun i hi e=>by rw[h i hi];exact e)
theorem LV(p:Nat->Bool)(b:Nat)(hb:p b=false):∀k,E4 (fun i=>p i||decide (i=b)) k=E4 p k+(if b<k then 1 else 0)
 |0=>rfl
 |k+1=>by
  have ih:=LV p b hb k
  rw[E4,E4,ih]
  by_cases e:k=b
  ·subst e
   simp[hb]
  have:(p k||decide (k=b))=p k:=by simp[e]
  rw[this]
  have e3:(b<k+1)=(b<k):=by apply propext;omega
  simp only[e3]
  split<;>split<;>omega
theorem Xk{p:Nat->Bool}(k:Nat)(h:∀i,i<k->p i=true):E4 p k=k:=by
 induction k with
 |zero=>rfl
 |succ k ih=>rw[E4,if_pos (h k (by omega)),ih fun i hi=>h i (by omega)]
theorem Ts{p:Nat->Bool}(k:Nat)(h:∀i,i<k->p i=true->q i=true)(b:Nat)(hb:b<k)(h1:p b=false)(h2:q b=true):E4 p k<E4 q k:=by
 have h3:=LV p b h1 k
 rw[if_pos hb]at h3
 have:=F1 (p:=fun i=>p i||decide (i=b)) (q:=q) k fun i hi e=>by
  simp only[Bool.or_eq_true,decide_eq_true_eq]at e
  rcases e with e|e
  ·exact h i hi e
  rw[e];exact h2
 omega
def AN(f:Nat->Int):Nat->Int
 |0=>0
 |k+1=>AN f k+f k
theorem I4(f:Nat->Int):∀k,(∀i,i<k->0<=f i)->0<=AN f k/\∀i,i<k->f i<=AN f k
 |0,_=>⟨Int.le_refl _,fun i hi=>by omega⟩
 |k+1,h=>by
  obtain⟨h1,h2⟩:=I4 f k fun i hi=>h i (by omega)
  have h3:=h k (by omega)
  refine⟨by rw[AN];omega,fun i hi=> ?_⟩
  rw[AN]
  by_cases e:i=k
  ·subst e;omega
  have:=h2 i (by omega);omega
def FO(n:Int)(p:Nat->Int)(k:Nat)(i:Nat):Int:=n*p i%AN p k
def DH(n:Int)(p:Nat->Int)(k:Nat)(i:Nat):Int:=n*p i/AN p k
def DP(n:Int)(p:Nat->Int)(k:Nat)(j i:Nat):Bool:=decide (FO n p k i<FO n p k j\/FO n p k i=FO n p k j/\j<i)
def DJ(n:Int)(p:Nat->Int)(k:Nat):Int:=n-AN (DH n p k) k
def FH(n:Int)(p:Nat->Int)(k:Nat)(i:Nat):Int:=DH n p k i+if(E4 (fun j=>DP n p k j i) k:Int)<DJ n p k then 1 else 0
theorem HE(f g:Nat->Int):∀k,(∀i,i<k->f i<=g i)->AN f k<=AN g k
 |0,_=>Int.le_refl _
 |k+1,h=>by have:=HE f g k fun i hi=>h i (by omega);have:=h k (by omega);simp only[AN];omega
theorem FB(c:Int):∀k,AN (fun _=>c) k=k*c
 |0=>by simp[AN]
 |k+1=>by rw[AN,FB c k,Int.natCast_succ,Int.add_mul,Int.one_mul]
theorem JU(c:Int)(f:Nat->Int):∀k,AN (fun i=>c*f i) k=c*AN f k
 |0=>by simp[AN]
 |k+1=>by rw[AN,JU c f k,AN,Int.mul_add]
theorem JW(f g:Nat->Int):∀k,AN (fun i=>f i+g i) k=AN f k+AN g k
 |0=>rfl
 |k+1=>by simp only[AN,JW f g k];omega
theorem ED{f g:Nat->Int}:∀k,(∀i,i<k->f i=g i)->AN f k=AN g k
 |0,_=>rfl
 |k+1,h=>by simp only[AN];rw[ED k fun i hi=>h i (by omega),h k (by omega)]
theorem MV(n:Int)(p:Nat->Int)(k:Nat):AN p k*DJ n p k=AN (FO n p k) k:=by
 have h1:AN (fun i=>n*p i) k=n*AN p k:=JU n p k
 have h2:AN (fun i=>n*p i) k=AN (fun i=>AN p k*DH n p k i+FO n p k i) k:=ED k fun i _=>(Int.mul_ediv_add_emod (n*p i) (AN p k)).symm
 rw[h1,JW,JU]at h2
 unfold DJ
 rw[Int.mul_sub,Int.mul_comm _ n]
 omega
theorem Lx(hs:0<AN p k):0<=DJ n p k:=by
 have h1:=MV n p k
 have h2:0<=AN (FO n p k) k:=by
  have:=HE (fun _=>0) (FO n p k) k fun i _=>Int.emod_nonneg _ (by omega)
  rw[FB]at this;simpa using this
 rcases Int.lt_or_le (DJ n p k) 0 with h|h
 ·have:AN p k*DJ n p k<0:=Int.mul_neg_of_pos_of_neg hs h
  omega
 exact h
theorem PC(hk:0<k)(hs:0<AN p k):DJ n p k<k:=by
 have h1:=MV n p k
 have h2:AN (FO n p k) k<=k*(AN p k-1):=by
  have:=HE (FO n p k) (fun _=>AN p k-1) k fun i _=>by have:=Int.emod_lt_of_pos (n*p i) hs;show n*p i%AN p k<=_;omega
  rwa[FB]at this
 rcases Int.lt_or_le (DJ n p k) k with h|h
 ·exact h
 have h3:AN p k*(k:Int)<=AN p k*DJ n p k:=Int.mul_le_mul_of_nonneg_left h (by omega)
 rw[Int.mul_sub,Int.mul_one,Int.mul_comm (k:Int)]at h2
 omega
structure NW(n:Int)(p:Nat->Int)(k:Nat)(P:Nat->Bool)(t:Nat):Prop where
 up:∀i j,i<k->j<k->DP n p k j i=true->P i=true->P j=true
 cnt:E4 P k=t
theorem Fu(n:Int)(p:Nat->Int)(k i:Nat):DP n p k i i=false:=decide_eq_false (by omega)
theorem UA{j:Nat}(h:i≠j):DP n p k i j=true\/DP n p k j i=true:=by
 simp only[DP,decide_eq_true_eq];omega
theorem HT{c:Nat}(h1:DP n p k a b=true)(h2:DP n p k b c=true):DP n p k a c=true:=by
 simp only[DP,decide_eq_true_eq]at*;omega
theorem NW.iff(h:NW n p k P t)(hi:i<k):P i=decide (E4 (fun j=>DP n p k j i) k<t):=by
 cases hP:P i with
 |true=>
  symm;rw[decide_eq_true_eq,<-h.cnt]
  exact Ts k (fun j hj e=>h.up i j hi hj e hP) i hi (Fu n p k i) hP
 |false=>
  symm;rw[decide_eq_false_iff_not,<-h.cnt]
  refine Nat.not_lt.2 (F1 k fun j hj e=> ?_)
  have hne:i≠j:=fun e2=>by subst e2;rw[hP]at e;cases e
  rcases UA (n:=n) (p:=p) (k:=k) hne with h1|h1
  ·have:=h.up j i hj hi h1 e
   rw[hP]at this;cases this
  exact h1
theorem NW.zero(n:Int)(p:Nat->Int)(k:Nat):NW n p k (fun _=>false) 0:=⟨fun _ _ _ _ _ h=>h,by induction k with|zero=>rfl|succ k ih=>rw[E4,if_neg (by simp),ih]⟩
theorem NW.next(h:NW n p k P t)(hb:b<k)(hPb:P b=false)(hbest:∀j,j<k->P j=false->DP n p k j b=false):NW n p k (fun i=>P i||decide (i=b)) (t+1):=by
 refine⟨fun i j hi hj hbt hP=> ?_,by rw[LV P b hPb,if_pos hb,h.cnt]⟩
 simp only[Bool.or_eq_true,decide_eq_true_eq]at hP⊢
 rcases hP with hP|rfl
 ·exact .inl (h.up i j hi hj hbt hP)
 cases e:P j with
 |true=>exact .inl rfl
 |false=>rw[hbest j hj e]at hbt;cases hbt
theorem NW.free(h:NW n p k P t)(ht:t<k):∃i,i<k/\P i=false:=by
 apply Classical.byContradiction
 intro hn
 have:E4 P k=k:=Xk k fun i hi=>by
  cases e:P i with
  |true=>rfl
  |false=>exact absurd ⟨i,hi,e⟩ hn
 rw[h.cnt]at this;omega
theorem NW.congr{Q:Nat->Bool}(h:NW n p k P t)(e:∀i,i<k->P i=Q i):NW n p k Q t:=
 ⟨fun i j hi hj hb hq=>by rw[<-e j hj];exact h.up i j hi hj hb (by rw[e i hi];exact hq),by rw[<-h.cnt];exact(K3 k e).symm⟩
def Nj(n:Int)(p:Nat->Int)(k i:Nat):Nat:=E4 (fun j=>DP n p k j i) k
theorem VK(n:Int)(p:Nat->Int)(k:Nat)(P:Nat->Bool):∀m,m<=k->(∃i,i<m/\P i=false)->∃b,b<m/\P b=false/\∀j,j<m->P j=false->DP n p k j b=false:=by
 intro m
 induction m with
 |zero=>rintro _ ⟨i,hi,_⟩;omega
 |succ m ih=>
  rintro hm ⟨i,hi,hp⟩
  by_cases h:∃i,i<m/\P i=false
  ·obtain⟨b,b1,b2,b3⟩:=ih (by omega) h
   cases hPm:P m with
   |true=>
    exact⟨b,by omega,b2,fun j hj e=>by
     by_cases e2:j=m
     ·subst e2;rw[hPm]at e;cases e
     exact b3 j (by omega) e⟩
   |false=>
    cases hmb:DP n p k m b with
    |false=>exact⟨b,by omega,b2,fun j hj e=>by
      by_cases e2:j=m
      ·subst e2;exact hmb
      exact b3 j (by omega) e⟩
    |true=>exact⟨m,by omega,hPm,fun j hj e=>by
      by_cases e2:j=m
      ·subst e2;exact Fu _ _ _ _
      cases hjm:DP n p k j m with
      |false=>rfl
      |true=>
       have h1:=HT hjm hmb
       rw[b3 j (by omega) e]at h1;exact h1.symm⟩
  refine⟨m,by omega,?_,fun j hj e=> ?_⟩
  ·by_cases e2:i=m
   ·subst e2;exact hp
   exact absurd ⟨i,by omega,hp⟩ h
  by_cases e2:j=m
  ·subst e2;exact Fu _ _ _ _
  exact absurd ⟨j,by omega,e⟩ h
theorem PP(n:Int)(p:Nat->Int)(k:Nat):∀t,t<=k->NW n p k (fun i=>decide (Nj n p k i<t)) t
 |0,_=>(NW.zero n p k).congr fun i _=>by simp
 |t+1,h=>by
  have ih:=PP n p k t (by omega)
  obtain⟨b,b1,b2,b3⟩:=VK n p k _ k (Nat.le_refl _) (ih.free (by omega))
  have h2:=ih.next b1 b2 b3
  exact h2.congr fun i hi=>h2.iff hi
theorem Qk(p:Nat->Bool):∀k,AN (fun i=>if p i=true then 1 else 0) k=(E4 p k:Int)
 |0=>rfl
 |k+1=>by
  rw[AN,Qk p k,E4]
  split<;>rename_i h<;>simp[]
theorem ND(hk:0<k)(hs:0<AN p k):AN (FH n p k) k=n:=by
 have h1:=Lx (n:=n) hs
 have h2:=PC (n:=n) hk hs
 obtain⟨t,ht⟩:∃t:Nat,DJ n p k=t:=⟨(DJ n p k).toNat,by omega⟩
 have h3:=(PP n p k t (by omega)).cnt
 have h4:AN (FH n p k) k=AN (fun i=>DH n p k i+if(decide (Nj n p k i<t))=true then 1 else 0) k:=ED k fun i hi=>by
  unfold FH
  rw[ht]
  unfold Nj
  simp only[Int.ofNat_lt,decide_eq_true_eq]
 rw[h4,JW,Qk,h3,<-ht]
 unfold DJ;omega
theorem Qh(hn:0<=n)(hp:0<=p i)(hs:0<AN p k):0<=FH n p k i:=by
 have:0<=DH n p k i:=Int.ediv_nonneg (Int.mul_nonneg hn hp) (by omega)
 unfold FH;split<;>omega
theorem EP{f:Nat->Int}{len:Nat}(h:∀i,i<len->0<=f i)(hab:a<=b)(hb:b<=len):AN f a<=AN f b:=by
  induction b with
  |zero=>obtain rfl:a=0:=by omega
         exact Int.le_refl _
  |succ b ih=>
    by_cases e:a=b+1
    ·subst e;exact Int.le_refl _
    have:=ih (by omega) (by omega);have:=h b (by omega);rw[AN];omega
end Go.Proofs.YtlieoghhkioflaaGreat
namespace Go.Proofs.YtlieoghhkioflaaGreat
open Go Go.RowKit
variable{G:Nat->Option (Nat×(Nat->Ad))}
noncomputable def KH{α:Type}(a b:Nat×(Nat->α)):Bool:=A8 (a.1=b.1/\∀i,i<a.1->a.2 i=b.2 i)
noncomputable def Ow:As:=Cq (Dv (Bw .i64)) (Dv (Bw .i64)) (fun _ _=>True) fun a b=> .bool (KH a b)
theorem YS:Ah Tryz.prog G 62 Ow:=by
 refine Kq (S:=[]) (I:=[]) mixed .nil .nil Tryz.func62 c62 fun a b _ hw=> ?_
 simp only[Nat.reduceSub,Nat.reducePow,go_sem]at hw
 obtain⟨w1,w2⟩:=hw
 simp only[A3,a62,w1,w2,↓reduceIte,reduceCtorEq,Nat.reduceEqDiff,Nat.reduceSub,Nat.reducePow,go_sem]
 refine⟨fun h=>(Am fun k=>h (by omega)).symm,fun h=> ?_⟩
 refine AS (ι:=Nat) (fun j=>j<=a.1/\∀i,i<j->a.2 i=b.2 i) (fun j=>a.1-j) [0,1] (fun j=>[(5,.int .i64 j)]) (fun _=>[]) 0 ⟨by omega,fun i h=>by omega⟩ (by simp only[↓reduceIte,reduceCtorEq,Nat.reduceEqDiff,go_sem];try rfl) fun j hj=> ?_
 obtain⟨hj1,hj2⟩:=hj
 simp only[w1,↓reduceIte,reduceCtorEq,Nat.reduceEqDiff,Nat.reduceSub,Nat.reducePow,go_sem]
 refine⟨fun hlt=>⟨by omega,by omega,by omega,by omega,fun h1=>(Am fun k=> ?_).symm,fun h1=>Af (j+1) ⟨by omega,fun i hi=> ?_⟩ (by omega) ?_⟩,fun hge=> ?_⟩
 ·exact h1 (k.2 j (by omega))
 ·rcases Nat.lt_or_ge i j with h5|h5
  ·exact hj2 i h5
  obtain rfl:i=j:=by omega
  exact h1
 ·simp only[↓reduceIte,reduceCtorEq,Nat.reduceEqDiff,go_sem]
  rw[Cs (by omega)]
 exact(At ⟨by omega,fun i hi=>hj2 i (by omega)⟩).symm
theorem Ab4{a b:Pc}:(a.turn.fro==b.turn.fro&&(a.turn.til==b.turn.til&&a.baisa==b.baisa))=true↔a=b:=by
 obtain⟨⟨a1,a2⟩,a3⟩:=a;obtain⟨⟨b1,b2⟩,b3⟩:=b;simp[and_assoc]
noncomputable def LX:As:=Cq (Dv RPc) (Dv RPc) (fun _ _=>True) fun a b=> .bool (KH a b)
theorem V0:Ah Tryz.prog G 63 LX:=by
 refine Kq (S:=[]) (I:=[]) mixed .nil .nil Tryz.func63 c63 fun a b _ hw=> ?_
 simp only[Nat.reduceSub,Nat.reducePow,go_sem]at hw
 obtain⟨w1,w2⟩:=hw
 simp only[A3,a63,w1,w2,↓reduceIte,reduceCtorEq,Nat.reduceEqDiff,Nat.reduceSub,Nat.reducePow,go_sem]
 refine⟨fun h=>(Am fun k=>h (by omega)).symm,fun h=> ?_⟩
 refine AS (ι:=Nat) (fun j=>j<=a.1/\∀i,i<j->a.2 i=b.2 i) (fun j=>a.1-j) [0,1] (fun j=>[(5,.int .i64 j)]) (fun _=>[]) 0 ⟨by omega,fun i h=>by omega⟩ (by simp only[↓reduceIte,reduceCtorEq,Nat.reduceEqDiff,go_sem];try rfl) fun j hj=> ?_
 obtain⟨hj1,hj2⟩:=hj
 simp only[w1,↓reduceIte,reduceCtorEq,Nat.reduceEqDiff,Nat.reduceAdd,Nat.reduceSub,Nat.reducePow,go_sem]
 refine⟨fun hlt=>⟨by omega,by omega,by omega,by omega,fun h1=>(Am fun k=> ?_).symm,fun h1=>Af (j+1) ⟨by omega,fun i hi=> ?_⟩ (by omega) ?_⟩,fun hge=> ?_⟩
 ·rw[k.2 j (by omega)]at h1;simp at h1
 ·rcases Nat.lt_or_ge i j with h5|h5
  ·exact hj2 i h5
  obtain rfl:i=j:=by omega
  exact Ab4.1 h1
 ·simp only[↓reduceIte,reduceCtorEq,Nat.reduceEqDiff,go_sem]
  rw[Cs (by omega)]
 exact(At ⟨by omega,fun i hi=>hj2 i (by omega)⟩).symm
end Go.Proofs.YtlieoghhkioflaaGreat
namespace Go.Proofs.YtlieoghhkioflaaGreat
open Go Go.RowKit
variable{G:Nat->Option (Nat×(Nat->Ad))}
def Pk(t:Tu):Prop:=0<=t.fro/\t.fro<t.til/\t.til<=23040
def L6(t:Tu)(b:Bd):Prop:=(1<=b.who/\b.who<=9999)/\(t.fro<=b.turn.fro/\b.turn.fro<b.turn.til/\b.turn.til<=t.til)/\0<=b.baisa/\b.baisa<=1000000000
noncomputable def FS(t:Tu)(l:Nat×(Nat->Bd)):Int:=if A8 (Pk t)=true then(if 12<l.1 then 4 else if A8 (∀i,i<l.1->L6 t (l.2 i))=true then 0 else 43)else 2
noncomputable def Jz:As:=Cq VN (Dv RBd) (fun _ _=>True) fun t l=> .int .i64 (FS t l)
end Go.Proofs.YtlieoghhkioflaaGreat
namespace Go.Proofs.YtlieoghhkioflaaGreat
open Go Go.RowKit
variable{G:Nat->Option (Nat×(Nat->Ad))}
abbrev E3:=Nat×(Nat->De)
noncomputable def JT(r:Ro)(l:E3):Bool:=A8 (80<r.holds.1\/80<l.1\/∃i,i<l.1/\12<(l.2 i).heirs.1)
noncomputable def GA:As:=Cq KC (Dv Gq) (fun _ _=>True) fun r l=> .bool (JT r l)
theorem VU:Ah Tryz.prog G 14 GA:=by
 refine Kq (S:=[]) (I:=[]) mixed .nil .nil Tryz.func14 c14 fun r l _ hw=> ?_
 simp only[Nat.reduceSub,Nat.reducePow,go_sem]at hw
 obtain⟨w1,w2⟩:=hw
 simp only[A3,a14,w1,w2,↓reduceIte,reduceCtorEq,Nat.reduceEqDiff,Nat.reduceAdd,Nat.reduceSub,Nat.reducePow,go_sem]
 refine⟨fun h1=>(At (.inl (by omega))).symm,fun h1=>⟨fun h2=>(At (.inr (.inl (by omega)))).symm,fun h2=> ?_⟩⟩
 refine AS (ι:=Nat) (fun j=>j<=l.1/\∀i,i<j->(l.2 i).heirs.1<=12) (fun j=>l.1-j) [1] (fun j=>[(5,.int .i64 j)]) (fun _=>[]) 0 ⟨by omega,fun i h=>by omega⟩ (by simp only[↓reduceIte,reduceCtorEq,Nat.reduceEqDiff,Nat.reduceLT,go_sem];try rfl) fun j hj=> ?_
 obtain⟨hj1,hj2⟩:=hj
 simp only[w2,↓reduceIte,reduceCtorEq,Nat.reduceEqDiff,Nat.reduceSub,Nat.reducePow,go_sem]
 refine⟨fun hlt=>⟨by omega,by omega,fun _=>⟨fun h3=>(At (.inr (.inr ⟨j,by omega,by omega⟩))).symm,fun h3=> ?_⟩⟩,fun hge=> ?_⟩
 ·refine Af (j+1) ⟨by omega,fun i hi=> ?_⟩ (by omega) (by simp only[↓reduceIte,Nat.reduceEqDiff,Nat.reduceLT,go_sem];rw[Cs (by omega)])
  rcases Nat.lt_or_ge i j with h5|h5
  ·exact hj2 i h5
  obtain rfl:i=j:=by omega
  omega
 refine(Am fun k=> ?_).symm
 rcases k with k|k|⟨i,k1,k2⟩
 ·omega
 ·omega
 have:=hj2 i (by omega);omega
noncomputable def Gn:As:=Cq (Dv Mi) (Dv Mi) (fun _ _=>True) fun a b=> .bool (KH a b)
theorem Aci{a b:Ho}:(a.who==b.who&&(a.turn.fro==b.turn.fro&&a.turn.til==b.turn.til))=true↔a=b:=by
 obtain⟨a1,⟨a2,a3⟩⟩:=a;obtain⟨b1,⟨b2,b3⟩⟩:=b;simp[]
theorem PG:Ah Tryz.prog G 22 Gn:=by
 refine Kq (S:=[]) (I:=[]) mixed .nil .nil Tryz.func22 c22 fun a b _ hw=> ?_
 simp only[Nat.reduceSub,Nat.reducePow,go_sem]at hw
 obtain⟨w1,w2⟩:=hw
 simp only[A3,a22,w1,w2,↓reduceIte,reduceCtorEq,Nat.reduceEqDiff,Nat.reduceSub,Nat.reducePow,go_sem]
 refine⟨fun h=>(Am fun k=>h (by omega)).symm,fun h=> ?_⟩
 refine AS (ι:=Nat) (fun j=>j<=a.1/\∀i,i<j->a.2 i=b.2 i) (fun j=>a.1-j) [0,1] (fun j=>[(5,.int .i64 j)]) (fun _=>[]) 0 ⟨by omega,fun i h=>by omega⟩ (by simp only[↓reduceIte,reduceCtorEq,Nat.reduceEqDiff,go_sem];try rfl) fun j hj=> ?_
 obtain⟨hj1,hj2⟩:=hj
 simp only[w1,↓reduceIte,reduceCtorEq,Nat.reduceEqDiff,Nat.reduceAdd,Nat.reduceSub,Nat.reducePow,go_sem]
 refine⟨fun hlt=>⟨by omega,by omega,by omega,by omega,fun h1=>(Am fun k=> ?_).symm,fun h1=>Af (j+1) ⟨by omega,fun i hi=> ?_⟩ (by omega) ?_⟩,fun hge=> ?_⟩
 ·rw[k.2 j (by omega)]at h1;simp at h1
 ·rcases Nat.lt_or_ge i j with h5|h5
  ·exact hj2 i h5
  obtain rfl:i=j:=by omega
  exact Aci.1 h1
 ·simp only[↓reduceIte,reduceCtorEq,Nat.reduceEqDiff,go_sem]
  rw[Cs (by omega)]
 exact(At ⟨by omega,fun i hi=>hj2 i (by omega)⟩).symm
noncomputable def Ml:As:=Cq (Dv NS) (Dv NS) (fun _ _=>True) fun a b=> .bool (KH a b)
theorem Ac3{a b:Hs}:(a.who==b.who&&a.mins==b.mins)=true↔a=b:=by
 obtain⟨a1,a2⟩:=a;obtain⟨b1,b2⟩:=b;simp[]
theorem Vr:Ah Tryz.prog G 23 Ml:=by
 refine Kq (S:=[]) (I:=[]) mixed .nil .nil Tryz.func23 c23 fun a b _ hw=> ?_
 simp only[Nat.reduceSub,Nat.reducePow,go_sem]at hw
 obtain⟨w1,w2⟩:=hw
 simp only[A3,a23,w1,w2,↓reduceIte,reduceCtorEq,Nat.reduceEqDiff,Nat.reduceSub,Nat.reducePow,go_sem]
 refine⟨fun h=>(Am fun k=>h (by omega)).symm,fun h=> ?_⟩
 refine AS (ι:=Nat) (fun j=>j<=a.1/\∀i,i<j->a.2 i=b.2 i) (fun j=>a.1-j) [0,1] (fun j=>[(5,.int .i64 j)]) (fun _=>[]) 0 ⟨by omega,fun i h=>by omega⟩ (by simp only[↓reduceIte,reduceCtorEq,Nat.reduceEqDiff,go_sem];try rfl) fun j hj=> ?_
 obtain⟨hj1,hj2⟩:=hj
 simp only[w1,↓reduceIte,reduceCtorEq,Nat.reduceEqDiff,Nat.reduceAdd,Nat.reduceSub,Nat.reducePow,go_sem]
 refine⟨fun hlt=>⟨by omega,by omega,by omega,by omega,fun h1=>(Am fun k=> ?_).symm,fun h1=>Af (j+1) ⟨by omega,fun i hi=> ?_⟩ (by omega) ?_⟩,fun hge=> ?_⟩
 ·rw[k.2 j (by omega)]at h1;simp at h1
 ·rcases Nat.lt_or_ge i j with h5|h5
  ·exact hj2 i h5
  obtain rfl:i=j:=by omega
  exact Ac3.1 h1
 ·simp only[↓reduceIte,reduceCtorEq,Nat.reduceEqDiff,go_sem]
  rw[Cs (by omega)]
 exact(At ⟨by omega,fun i hi=>hj2 i (by omega)⟩).symm
noncomputable def Ft(n a b:Int):Bool:=A8 (a<=n/\n<=b)
noncomputable def Of:As:=D5 TI TI TI (fun _ _ _=>True) fun n a b=> .bool (Ft n a b)
theorem ZH:Ah Tryz.prog G 59 Of:=by
 refine fn3 (S:=[]) (I:=[]) mixed .nil .nil Tryz.func59 c59 fun n a b _ hw=> ?_
 simp only[A3,a59,↓reduceIte,reduceCtorEq,Nat.reduceEqDiff,Nat.reduceAdd,go_sem]
 refine⟨fun h1=> ?_,fun h1=>(Am fun k=>h1 k.1).symm⟩
 by_cases h2:n<=b
 ·rw[decide_eq_true h2];exact(At ⟨h1,h2⟩).symm
 rw[decide_eq_false h2];exact(Am fun k=>h2 k.2).symm
noncomputable def Ud:As:=Dr TI (fun _=>True) fun n=> .bool (Ft n 1 9999)
theorem Aa3:Ah Tryz.prog G 69 Ud:=by
 refine We (S:=[(59,Of)]) (I:=[]) mixed (.cons ZH .nil) .nil Tryz.func69 c69 fun n _ hw=> ?_
 simp only[A3,a69,Of,↓reduceIte,reduceCtorEq,go_sem]
theorem XC{i:Nat}(h:0<i)(h2:i<9223372036854775807):IntKind.i64.wrap ((i:Int)-1)=((i-1:Nat):Int):=by rw[AU (by omega) (by omega)];omega
def X9(f:Int)(l:Nat×(Nat->Hr))(i:Nat):Prop:=1<=(l.2 i).who/\(l.2 i).who<=9999/\(l.2 i).who≠f/\1<=(l.2 i).parts/\(l.2 i).parts<=1000/\(0<i->(l.2 (i-1)).who<(l.2 i).who)
def FV(fro:Int)(l:Nat×(Nat->Hr)):Prop:=1<=l.1/\l.1<=8/\∀i,i<l.1->X9 fro l i
noncomputable def Pf:As:=Cq TI (Dv IY) (fun _ _=>True) fun f l=> .bool (A8 (FV f l))
theorem YD:Ah Tryz.prog G 71 Pf:=by
 refine Kq (S:=[(69,Ud),(59,Of)]) (I:=[]) mixed (.cons Aa3 (.cons ZH .nil)) .nil Tryz.func71 c71 fun f l _ hw=> ?_
 simp only[Nat.reduceSub,Nat.reducePow,go_sem]at hw
 simp only[A3,a71,Ud,Of,hw,↓reduceIte,reduceCtorEq,Nat.reduceEqDiff,Nat.reduceSub,Nat.reducePow,go_sem,Ft,AM,BB]
 have f1:((1:Int)<=(l.1:Int)/\(l.1:Int)<=8)=(1<=l.1/\l.1<=8):=by apply propext;omega
 refine⟨fun h1=>(Am fun k=>h1 (by have:=k.1;have:=k.2.1;omega)).symm,fun h1=> ?_⟩
 refine AS (ι:=Nat) (fun j=>j<=l.1/\∀i,i<j->X9 f l i) (fun j=>l.1-j) [0,1] (fun j=>[(5,.int .i64 j)]) (fun _=>[]) 0 ⟨by omega,fun i h=>by omega⟩ (by simp only[↓reduceIte,reduceCtorEq,Nat.reduceEqDiff,go_sem];try rfl) fun j hj=> ?_
 obtain⟨hj1,hj2⟩:=hj
 simp only[hw,↓reduceIte,reduceCtorEq,Nat.reduceEqDiff,Nat.reduceSub,Nat.reduceLeDiff,Nat.reducePow,go_sem,AM,BB]
 have no:j<l.1->¬X9 f l j->false=A8 (FV f l):=fun hlt h=>(Am fun k=>h (k.2.2 j hlt)).symm
 have go:∀{P:Prop},X9 f l j->P->(∀i,i<j+1->X9 f l i)/\P:=fun h k=>⟨fun i hi=>by
  rcases Nat.lt_or_ge i j with h5|h5
  ·exact hj2 i h5
  obtain rfl:i=j:=by omega
  exact h,k⟩
 refine⟨fun hlt=>⟨by omega,by omega,fun q1=>no (by omega) fun k=>q1 ⟨k.1,k.2.1⟩,fun q1=>⟨by omega,by omega,fun q2=>no (by omega) fun k=>k.2.2.1 q2,fun q2=>⟨by omega,by omega,fun q3=>no (by omega) fun k=>q3 ⟨k.2.2.2.1,k.2.2.2.2.1⟩,fun q3=>⟨fun q4=> ?_,fun q4=> ?_⟩⟩⟩⟩,fun hge=>(At ⟨by omega,by omega,fun i hi=>hj2 i (by omega)⟩).symm⟩
 ·rw[XC (by omega) (by omega),Int.toNat_natCast]
  refine⟨by omega,by omega,by omega,by omega,fun q5=>no (by omega) fun k=>by have:=k.2.2.2.2.2 (by omega);omega,fun q5=> ?_⟩
  exact Af (j+1) ⟨by omega,(go ⟨q1.1,q1.2,q2,q3.1,q3.2,fun _=>by omega⟩ trivial).1⟩ (by omega) (by simp only[↓reduceIte,reduceCtorEq,Nat.reduceEqDiff,go_sem];rw[Cs (by omega)])
 exact Af (j+1) ⟨by omega,(go ⟨q1.1,q1.2,q2,q3.1,q3.2,fun _=>by omega⟩ trivial).1⟩ (by omega) (by simp only[↓reduceIte,reduceCtorEq,Nat.reduceEqDiff,go_sem];rw[Cs (by omega)])
def Jv(r:Ro)(j:Nat):Int:=if j=0 then 0 else(r.holds.2 (j-1)).turn.til
def Hd1(r:Ro)(i:Nat):Prop:=0<=(r.holds.2 i).who/\(r.holds.2 i).who<=9999/\(r.holds.2 i).turn.fro=Jv r i/\(r.holds.2 i).turn.fro<(r.holds.2 i).turn.til/\(r.holds.2 i).turn.til<=1440*r.days
def EL(r:Ro):Prop:=1<=r.days/\r.days<=16/\1<=r.holds.1/\r.holds.1<=60/\(∀i,i<r.holds.1->Hd1 r i)/\Jv r r.holds.1=1440*r.days
noncomputable def Ou:As:=Dr KC (fun _=>True) fun r=> .bool (A8 (EL r))
theorem Yf:Ah Tryz.prog G 93 Ou:=by
 refine We (S:=[]) (I:=[(59,a59)]) mixed .nil (.cons Tryz.func59 c59 .nil) Tryz.func93 c93 fun r _ hw=> ?_
 simp only[Nat.reduceSub,Nat.reducePow,go_sem]at hw
 simp only[A3,a93,a59,hw,↓reduceIte,reduceCtorEq,Nat.reduceEqDiff,Nat.reduceAdd,Nat.reduceSub,Nat.reduceLeDiff,Nat.reducePow,go_sem]
 refine⟨fun h1=>⟨fun h2=>(Am fun k=>h2 k.2.1).symm,fun h2=>⟨fun h3=>⟨fun h4=>(Am fun k=>h4 (by have:=k.2.2.2.1;omega)).symm,fun h4=> ?_⟩,fun h3=>(Am fun k=>h3 (by have:=k.2.2.1;omega)).symm⟩⟩,fun h1=>(Am fun k=>h1 k.1).symm⟩
 refine AS (ι:=Nat) (fun j=>j<=r.holds.1/\∀i,i<j->Hd1 r i) (fun j=>r.holds.1-j) [1] (fun j=>[(4,.int .i64 j),(3,.int .i64 (Jv r j))]) (fun _=>[]) 0 ⟨by omega,fun i h=>by omega⟩ (by simp only[↓reduceIte,Nat.reduceEqDiff,Nat.reduceLT,go_sem];try rfl) fun j hj=> ?_
 obtain⟨hj1,hj2⟩:=hj
 simp only[hw,↓reduceIte,reduceCtorEq,Nat.reduceEqDiff,Nat.reduceAdd,Nat.reduceSub,Nat.reduceLeDiff,Nat.reducePow,go_sem]
 rw[AU (by omega) (by omega)]
 have no:j<r.holds.1->¬Hd1 r j->false=A8 (EL r):=fun hlt h=>(Am fun k=>h (k.2.2.2.2.1 j hlt)).symm
 refine⟨fun hlt=>⟨by omega,by omega,fun q1=>⟨fun q2=>no (by omega) fun k=>by have:=k.2.1;omega,fun q2=>⟨fun q3=>no (by omega) fun k=>q3 k.2.2.1,fun q3=>⟨fun q4=>no (by omega) fun k=>by have:=k.2.2;omega,fun q4=>⟨fun q5=>no (by omega) fun k=>by have:=k.2.2.2.2;omega,fun q5=> ?_⟩⟩⟩⟩,fun q1=>no (by omega) fun k=>by have:=k.1;omega⟩,fun hge=> ?_⟩
 ·refine Af (j+1) ⟨by omega,fun i hi=> ?_⟩ (by omega) (by simp only[↓reduceIte,reduceCtorEq,Nat.reduceEqDiff,Nat.reduceLT,go_sem];rw[Cs (by omega)];exact⟨rfl,rfl⟩)
  rcases Nat.lt_or_ge i j with h5|h5
  ·exact hj2 i h5
  obtain rfl:i=j:=by omega
  exact⟨q1,q2,q3,by omega,by omega⟩
 obtain rfl:j=r.holds.1:=by omega
 by_cases he:Jv r r.holds.1=1440*r.days
 ·rw[he,At ⟨h1,h2,by omega,by omega,hj2,he⟩];exact beq_self_eq_true _
 rw[Am fun k=>he k.2.2.2.2.2];exact beq_eq_false_iff_ne.2 he
noncomputable def HO:As:=Dr KC (fun _=>True) fun r=> .int .i64 (if A8 (EL r)=true then 0 else 40)
theorem VW:Ah Tryz.prog G 64 HO:=by
 refine We (S:=[(93,Ou)]) (I:=[]) mixed (.cons Yf .nil) .nil Tryz.func64 c64 fun r _ hw=> ?_
 simp only[Nat.reduceSub,Nat.reducePow,go_sem]at hw
 simp only[A3,a64,Ou,hw,↓reduceIte,reduceCtorEq,Nat.reduceEqDiff,Nat.reduceAdd,Nat.reduceSub,Nat.reducePow,go_sem]
 exact⟨fun h=>by rw[h];rfl,fun h=>by rw[h];rfl⟩
end Go.Proofs.YtlieoghhkioflaaGreat
