/- Deeds: rolls and deeds, opened. No condition. -/
import Derived.Test.YtlieoghhkioflaaGreatLDoor
import Derived.Deep.Slices
import Derived.Test.YtlieoghhkioflaaGreatACode1
set_option linter.unusedSimpArgs false
set_option linter.unusedVariables false
set_option maxRecDepth 100000
namespace Go.Proofs.YtlieoghhkioflaaGreat
open Go Go.RowKit Go.ChangeShapes Go.WideShapes Go.ChangeAt Go.Deep
variable{fs:Array Field}{P:Program}{t:TypeId}
theorem Tu.opens(ht:P.underlying t=some (.struct fs))(hk:P.cellsOf t=2)(hn:fs.size=2)(f0:∃f,fs[0]?=some f/\f.offset=0/\A3 P (Bz .i64) f.type)(f1:∃f,fs[1]?=some f/\f.offset=1/\A3 P (Bz .i64) f.type):A3 P ZP t:=by
 refine⟨hk,(by decide:0<2),fun H enc W sp fuel cs x h=> ?_⟩
 obtain⟨xs,m,_,_,hlen,hxs,hf⟩:=DataW.trod_struct ht h
 obtain⟨g0,e0,p0,q0⟩:=f0
 obtain⟨v0,h0⟩:=q0.part (hf 0 g0 e0) (by omega)
 rw[p0]at h0
 obtain⟨g1,e1,p1,q1⟩:=f1
 obtain⟨v1,h1⟩:=q1.part (hf 1 g1 e1) (by omega)
 rw[p1]at h1
 refine⟨hlen.trans hk,⟨v0,v1⟩,fun j hj=> ?_⟩
 rcases(by have:j<2:=hj;omega:j=0\/j=1)with rfl|rfl
 ·exact h0 0 (by decide)
 exact h1 0 (by decide)
theorem Hr.opens(ht:P.underlying t=some (.struct fs))(hk:P.cellsOf t=2)(hn:fs.size=2)(f0:∃f,fs[0]?=some f/\f.offset=0/\A3 P (Bz .i64) f.type)(f1:∃f,fs[1]?=some f/\f.offset=1/\A3 P (Bz .i64) f.type):A3 P IX t:=by
 refine⟨hk,(by decide:0<2),fun H enc W sp fuel cs x h=> ?_⟩
 obtain⟨xs,m,_,_,hlen,hxs,hf⟩:=DataW.trod_struct ht h
 obtain⟨g0,e0,p0,q0⟩:=f0
 obtain⟨v0,h0⟩:=q0.part (hf 0 g0 e0) (by omega)
 rw[p0]at h0
 obtain⟨g1,e1,p1,q1⟩:=f1
 obtain⟨v1,h1⟩:=q1.part (hf 1 g1 e1) (by omega)
 rw[p1]at h1
 refine⟨hlen.trans hk,⟨v0,v1⟩,fun j hj=> ?_⟩
 rcases(by have:j<2:=hj;omega:j=0\/j=1)with rfl|rfl
 ·exact h0 0 (by decide)
 exact h1 0 (by decide)
theorem De.opens(ht:P.underlying t=some (.struct fs))(hk:P.cellsOf t=9)(hn:fs.size=8)(f0:∃f,fs[0]?=some f/\f.offset=0/\A3 P (Bz .i64) f.type)(f1:∃f,fs[1]?=some f/\f.offset=1/\A3 P (Bz .i64) f.type)(f2:∃f,fs[2]?=some f/\f.offset=2/\A3 P (Bz .u8) f.type)(f3:∃f,fs[3]?=some f/\f.offset=3/\A3 P (Bz .i64) f.type)(f4:∃f,fs[4]?=some f/\f.offset=4/\A3 P (Bz .i64) f.type)(f5:∃f,fs[5]?=some f/\f.offset=5/\A3 P ZP f.type)(f6:∃f,fs[6]?=some f/\f.offset=7/\A3 P (Bz .i64) f.type)(f7:∃f,fs[7]?=some f/\f.offset=8/\A3 P (RSl IX) f.type):A3 P GI t:=by
 refine⟨hk,(by decide:0<9),fun H enc W sp fuel cs x h=> ?_⟩
 obtain⟨xs,m,_,_,hlen,hxs,hf⟩:=DataW.trod_struct ht h
 obtain⟨g0,e0,p0,q0⟩:=f0
 obtain⟨v0,h0⟩:=q0.part (hf 0 g0 e0) (by omega)
 rw[p0]at h0
 obtain⟨g1,e1,p1,q1⟩:=f1
 obtain⟨v1,h1⟩:=q1.part (hf 1 g1 e1) (by omega)
 rw[p1]at h1
 obtain⟨g2,e2,p2,q2⟩:=f2
 obtain⟨v2,h2⟩:=q2.part (hf 2 g2 e2) (by omega)
 rw[p2]at h2
 obtain⟨g3,e3,p3,q3⟩:=f3
 obtain⟨v3,h3⟩:=q3.part (hf 3 g3 e3) (by omega)
 rw[p3]at h3
 obtain⟨g4,e4,p4,q4⟩:=f4
 obtain⟨v4,h4⟩:=q4.part (hf 4 g4 e4) (by omega)
 rw[p4]at h4
 obtain⟨g5,e5,p5,q5⟩:=f5
 obtain⟨v5,h5⟩:=q5.part (hf 5 g5 e5) (by omega)
 rw[p5]at h5
 obtain⟨g6,e6,p6,q6⟩:=f6
 obtain⟨v6,h6⟩:=q6.part (hf 6 g6 e6) (by omega)
 rw[p6]at h6
 obtain⟨g7,e7,p7,q7⟩:=f7
 obtain⟨v7,h7⟩:=q7.part (hf 7 g7 e7) (by omega)
 rw[p7]at h7
 refine⟨hlen.trans hk,⟨v0,v1,v2,v3,v4,v5,v6,v7⟩,fun j hj=> ?_⟩
 rcases(by have:j<9:=hj;omega:j=0\/j=1\/j=2\/j=3\/j=4\/j=5\/j=6\/j=7\/j=8)with rfl|rfl|rfl|rfl|rfl|rfl|rfl|rfl|rfl
 ·exact h0 0 (by decide)
 ·exact h1 0 (by decide)
 ·exact h2 0 (by decide)
 ·exact h3 0 (by decide)
 ·exact h4 0 (by decide)
 ·exact h5 0 (by decide)
 ·exact h5 1 (by decide)
 ·exact h6 0 (by decide)
 exact h7 0 (by decide)
theorem Ho.opens(ht:P.underlying t=some (.struct fs))(hk:P.cellsOf t=3)(hn:fs.size=2)(f0:∃f,fs[0]?=some f/\f.offset=0/\A3 P (Bz .i64) f.type)(f1:∃f,fs[1]?=some f/\f.offset=1/\A3 P ZP f.type):A3 P LG t:=by
 refine⟨hk,(by decide:0<3),fun H enc W sp fuel cs x h=> ?_⟩
 obtain⟨xs,m,_,_,hlen,hxs,hf⟩:=DataW.trod_struct ht h
 obtain⟨g0,e0,p0,q0⟩:=f0
 obtain⟨v0,h0⟩:=q0.part (hf 0 g0 e0) (by omega)
 rw[p0]at h0
 obtain⟨g1,e1,p1,q1⟩:=f1
 obtain⟨v1,h1⟩:=q1.part (hf 1 g1 e1) (by omega)
 rw[p1]at h1
 refine⟨hlen.trans hk,⟨v0,v1⟩,fun j hj=> ?_⟩
 rcases(by have:j<3:=hj;omega:j=0\/j=1\/j=2)with rfl|rfl|rfl
 ·exact h0 0 (by decide)
 ·exact h1 0 (by decide)
 exact h1 1 (by decide)
theorem Ro.opens(ht:P.underlying t=some (.struct fs))(hk:P.cellsOf t=2)(hn:fs.size=2)(f0:∃f,fs[0]?=some f/\f.offset=0/\A3 P (Bz .i64) f.type)(f1:∃f,fs[1]?=some f/\f.offset=1/\A3 P (RSl LG) f.type):A3 P RRo t:=by
 refine⟨hk,(by decide:0<2),fun H enc W sp fuel cs x h=> ?_⟩
 obtain⟨xs,m,_,_,hlen,hxs,hf⟩:=DataW.trod_struct ht h
 obtain⟨g0,e0,p0,q0⟩:=f0
 obtain⟨v0,h0⟩:=q0.part (hf 0 g0 e0) (by omega)
 rw[p0]at h0
 obtain⟨g1,e1,p1,q1⟩:=f1
 obtain⟨v1,h1⟩:=q1.part (hf 1 g1 e1) (by omega)
 rw[p1]at h1
 refine⟨hlen.trans hk,⟨v0,v1⟩,fun j hj=> ?_⟩
 rcases(by have:j<2:=hj;omega:j=0\/j=1)with rfl|rfl
 ·exact h0 0 (by decide)
 exact h1 0 (by decide)
theorem oTu:A3 Tryz.prog ZP 45:=Tu.opens Tryz.underlying45 (by kernel_rfl) rfl ⟨_,rfl,rfl,(Co Tryz.underlying3 (by kernel_rfl))⟩ ⟨_,rfl,rfl,(Co Tryz.underlying3 (by kernel_rfl))⟩
theorem oHr:A3 Tryz.prog IX 140:=Hr.opens Tryz.underlying140 (by kernel_rfl) rfl ⟨_,rfl,rfl,(Co Tryz.underlying3 (by kernel_rfl))⟩ ⟨_,rfl,rfl,(Co Tryz.underlying3 (by kernel_rfl))⟩
theorem oDe:A3 Tryz.prog GI 56:=De.opens Tryz.underlying56 (by kernel_rfl) rfl ⟨_,rfl,rfl,(Co Tryz.underlying3 (by kernel_rfl))⟩ ⟨_,rfl,rfl,(Co Tryz.underlying3 (by kernel_rfl))⟩ ⟨_,rfl,rfl,(Co Tryz.underlying5 (by kernel_rfl))⟩ ⟨_,rfl,rfl,(Co Tryz.underlying3 (by kernel_rfl))⟩ ⟨_,rfl,rfl,(Co Tryz.underlying3 (by kernel_rfl))⟩ ⟨_,rfl,rfl,oTu⟩ ⟨_,rfl,rfl,(Co Tryz.underlying3 (by kernel_rfl))⟩ ⟨_,rfl,rfl,(F7 Tryz.underlying54 (by kernel_rfl) oHr)⟩
theorem oHo:A3 Tryz.prog LG 47:=Ho.opens Tryz.underlying47 (by kernel_rfl) rfl ⟨_,rfl,rfl,(Co Tryz.underlying3 (by kernel_rfl))⟩ ⟨_,rfl,rfl,oTu⟩
theorem oRo:A3 Tryz.prog RRo 24:=Ro.opens Tryz.underlying24 (by kernel_rfl) rfl ⟨_,rfl,rfl,(Co Tryz.underlying3 (by kernel_rfl))⟩ ⟨_,rfl,rfl,(F7 Tryz.underlying22 (by kernel_rfl) oHo)⟩
end Go.Proofs.YtlieoghhkioflaaGreat
namespace Go.Proofs.YtlieoghhkioflaaGreat
open Go Go.RowKit
variable{n:Nat}{p:Nat->Prop}
theorem mixed:Tryz.prog.follows .mixedOrders=true:=by kernel_rfl
noncomputable def Cn(p:Nat->Prop):Nat->Nat
 |0=>0
 |n+1=>if Cn p n<n then Cn p n else @ite _ (p n) (Classical.propDecidable _) n (n+1)
theorem Hi(h:∀j,j<n->¬p j):Cn p n=n:=by
 induction n with
 |zero=>rfl
 |succ n ih=>
  have:=ih fun j hj=>h j (by omega)
  unfold Cn;rw[this,if_neg (Nat.lt_irrefl n),@if_neg _ (Classical.propDecidable _) (h n (by omega))]
theorem C5{i:Nat}(hi:i<n)(hp:p i)(h:∀j,j<i->¬p j):Cn p n=i:=by
 induction n with
 |zero=>omega
 |succ n ih=>
  unfold Cn
  rcases Nat.lt_or_ge i n with h1|h1
  ·rw[ih h1,if_pos h1]
  obtain rfl:i=n:=by omega
  rw[Hi h,if_neg (Nat.lt_irrefl i),@if_pos _ (Classical.propDecidable _) hp]
theorem YE(h:∃i,i<n/\p i):∃i,i<n/\p i/\∀j,j<i->¬p j:=by
 obtain⟨i,hi,hp⟩:=h
 induction i using Nat.strongRecOn with
 |ind i ih=>
  by_cases hm:∃j,j<i/\p j
  ·obtain⟨j,hj,hpj⟩:=hm
   exact ih j hj (by omega) hpj
  exact⟨i,hi,hp,fun j hj hpj=>hm ⟨j,hj,hpj⟩⟩
theorem Bl(p:Nat->Prop)(n:Nat):(Cn p n<n/\p (Cn p n)/\∀j,j<Cn p n->¬p j)\/(Cn p n=n/\∀j,j<n->¬p j):=by
 by_cases h:∃i,i<n/\p i
 ·obtain⟨i,h1,h2,h3⟩:=YE h
  rw[C5 h1 h2 h3];exact .inl ⟨h1,h2,h3⟩
 have:∀j,j<n->¬p j:=fun j hj hp=>h ⟨j,hj,hp⟩
 exact .inr ⟨Hi this,this⟩
noncomputable def Bb(p:Prop):Bool:= @decide p (Classical.propDecidable _)
theorem AM{p:Prop}:Bb p=true↔p:= @decide_eq_true_iff p (Classical.propDecidable _)
theorem BZ{p:Prop}:Bb p=false↔¬p:= @decide_eq_false_iff_not p (Classical.propDecidable _)
theorem As{p:Prop}(h:p):Bb p=true:=AM.2 h
theorem An{p:Prop}(h:¬p):Bb p=false:=BZ.2 h
theorem Ei{p q:Prop}(h:p↔q):Bb p=Bb q:=by rw[propext h]
end Go.Proofs.YtlieoghhkioflaaGreat
namespace Go.Proofs.YtlieoghhkioflaaGreat
variable{n:Int}{a b i k t:Nat}{P q:Nat->Bool}{p:Nat->Int}
def E3(p:Nat->Bool):Nat->Nat
 |0=>0
 |k+1=>if p k=true then E3 p k+1 else E3 p k
theorem GW(p:Nat->Bool):∀k,E3 p k<=k
 |0=>Nat.le_refl _
 |k+1=>by have:=GW p k;rw[E3];split<;>omega
theorem F9{p:Nat->Bool}:∀k,(∀i,i<k->p i=true->q i=true)->E3 p k<=E3 q k
 |0,_=>Nat.le_refl _
 |k+1,h=>by
  have:=F9 k fun i hi=>h i (by omega)
  rw[E3,E3]
  by_cases e:p k=true
  ·rw[if_pos e,if_pos (h k (by omega) e)];omega
  rw[if_neg e];split<;>omega
theorem Zw(p:Nat->Bool)(h:a<=b):E3 p a<=E3 p b:=by
  induction b with
  |zero=>obtain rfl:a=0:=by omega
         exact Nat.le_refl _
  |succ b ih=>
    by_cases e:a=b+1
    ·subst e;exact Nat.le_refl _
    have:=ih (by omega);rw[E3];split<;>omega
theorem KH{p:Nat->Bool}(k:Nat)(h:∀i,i<k->p i=q i):E3 p k=E3 q k:=
 Nat.le_antisymm (F9 k fun i hi e=>by rw[<-h i hi];exact e) (F9 k fun i hi e=>by rw[h i hi];exact e)
theorem L0(p:Nat->Bool)(b:Nat)(hb:p b=false):∀k,E3 (fun i=>p i||decide (i=b)) k=E3 p k+(if b<k then 1 else 0)
 |0=>rfl
 |k+1=>by
  have ih:=L0 p b hb k
  rw[E3,E3,ih]
  by_cases e:k=b
  ·subst e
   simp[hb]
  have:(p k||decide (k=b))=p k:=by simp[e]
  rw[this]
  have e3:(b<k+1)=(b<k):=by apply propext;omega
  simp only[e3]
  split<;>split<;>omega
theorem V2{p:Nat->Bool}(k:Nat)(h:∀i,i<k->p i=true):E3 p k=k:=by
 induction k with
 |zero=>rfl
 |succ k ih=>rw[E3,if_pos (h k (by omega)),ih fun i hi=>h i (by omega)]
theorem TO{p:Nat->Bool}(k:Nat)(h:∀i,i<k->p i=true->q i=true)(b:Nat)(hb:b<k)(h1:p b=false)(h2:q b=true):E3 p k<E3 q k:=by
 have h3:=L0 p b h1 k
 rw[if_pos hb]at h3
 have:=F9 (p:=fun i=>p i||decide (i=b)) (q:=q) k fun i hi e=>by
  simp only[Bool.or_eq_true,decide_eq_true_eq]at e
  rcases e with e|e
  ·exact h i hi e
  rw[e];exact h2
 omega
def AP(f:Nat->Int):Nat->Int
 |0=>0
 |k+1=>AP f k+f k
theorem I1(f:Nat->Int):∀k,(∀i,i<k->0<=f i)->0<=AP f k/\∀i,i<k->f i<=AP f k
 |0,_=>⟨Int.le_refl _,fun i hi=>by omega⟩
 |k+1,h=>by
  obtain⟨h1,h2⟩:=I1 f k fun i hi=>h i (by omega)
  have h3:=h k (by omega)
  refine⟨by rw[AP];omega,fun i hi=> ?_⟩
  rw[AP]
  by_cases e:i=k
  ·subst e;omega
  have:=h2 i (by omega);omega
def FK(n:Int)(p:Nat->Int)(k:Nat)(i:Nat):Int:=n*p i%AP p k
def DG(n:Int)(p:Nat->Int)(k:Nat)(i:Nat):Int:=n*p i/AP p k
def DR(n:Int)(p:Nat->Int)(k:Nat)(j i:Nat):Bool:=decide (FK n p k i<FK n p k j\/FK n p k i=FK n p k j/\j<i)
def DI(n:Int)(p:Nat->Int)(k:Nat):Int:=n-AP (DG n p k) k
def FF(n:Int)(p:Nat->Int)(k:Nat)(i:Nat):Int:=DG n p k i+if(E3 (fun j=>DR n p k j i) k:Int)<DI n p k then 1 else 0
theorem G8(f g:Nat->Int):∀k,(∀i,i<k->f i<=g i)->AP f k<=AP g k
 |0,_=>Int.le_refl _
 |k+1,h=>by have:=G8 f g k fun i hi=>h i (by omega);have:=h k (by omega);simp only[AP];omega
theorem Fo(c:Int):∀k,AP (fun _=>c) k=k*c
 |0=>by simp[AP]
 |k+1=>by rw[AP,Fo c k,Int.natCast_succ,Int.add_mul,Int.one_mul]
theorem Kh(c:Int)(f:Nat->Int):∀k,AP (fun i=>c*f i) k=c*AP f k
 |0=>by simp[AP]
 |k+1=>by rw[AP,Kh c f k,AP,Int.mul_add]
theorem Jf(f g:Nat->Int):∀k,AP (fun i=>f i+g i) k=AP f k+AP g k
 |0=>rfl
 |k+1=>by simp only[AP,Jf f g k];omega
theorem EG{f g:Nat->Int}:∀k,(∀i,i<k->f i=g i)->AP f k=AP g k
 |0,_=>rfl
 |k+1,h=>by simp only[AP];rw[EG k fun i hi=>h i (by omega),h k (by omega)]
theorem M8(n:Int)(p:Nat->Int)(k:Nat):AP p k*DI n p k=AP (FK n p k) k:=by
 have h1:AP (fun i=>n*p i) k=n*AP p k:=Kh n p k
 have h2:AP (fun i=>n*p i) k=AP (fun i=>AP p k*DG n p k i+FK n p k i) k:=EG k fun i _=>(Int.mul_ediv_add_emod (n*p i) (AP p k)).symm
 rw[h1,Jf,Kh]at h2
 unfold DI
 rw[Int.mul_sub,Int.mul_comm _ n]
 omega
theorem LT(hs:0<AP p k):0<=DI n p k:=by
 have h1:=M8 n p k
 have h2:0<=AP (FK n p k) k:=by
  have:=G8 (fun _=>0) (FK n p k) k fun i _=>Int.emod_nonneg _ (by omega)
  rw[Fo]at this;simpa using this
 rcases Int.lt_or_le (DI n p k) 0 with h|h
 ·have:AP p k*DI n p k<0:=Int.mul_neg_of_pos_of_neg hs h
  omega
 exact h
theorem PT(hk:0<k)(hs:0<AP p k):DI n p k<k:=by
 have h1:=M8 n p k
 have h2:AP (FK n p k) k<=k*(AP p k-1):=by
  have:=G8 (FK n p k) (fun _=>AP p k-1) k fun i _=>by have:=Int.emod_lt_of_pos (n*p i) hs;show n*p i%AP p k<=_;omega
  rwa[Fo]at this
 rcases Int.lt_or_le (DI n p k) k with h|h
 ·exact h
 have h3:AP p k*(k:Int)<=AP p k*DI n p k:=Int.mul_le_mul_of_nonneg_left h (by omega)
 rw[Int.mul_sub,Int.mul_one,Int.mul_comm (k:Int)]at h2
 omega
structure NH(n:Int)(p:Nat->Int)(k:Nat)(P:Nat->Bool)(t:Nat):Prop where
 up:∀i j,i<k->j<k->DR n p k j i=true->P i=true->P j=true
 cnt:E3 P k=t
theorem Fq(n:Int)(p:Nat->Int)(k i:Nat):DR n p k i i=false:=decide_eq_false (by omega)
theorem TB{j:Nat}(h:i≠j):DR n p k i j=true\/DR n p k j i=true:=by
 simp only[DR,decide_eq_true_eq];omega
theorem HY{c:Nat}(h1:DR n p k a b=true)(h2:DR n p k b c=true):DR n p k a c=true:=by
 simp only[DR,decide_eq_true_eq]at*;omega
theorem NH.iff(h:NH n p k P t)(hi:i<k):P i=decide (E3 (fun j=>DR n p k j i) k<t):=by
 cases hP:P i with
 |true=>
  symm;rw[decide_eq_true_eq,<-h.cnt]
  exact TO k (fun j hj e=>h.up i j hi hj e hP) i hi (Fq n p k i) hP
 |false=>
  symm;rw[decide_eq_false_iff_not,<-h.cnt]
  refine Nat.not_lt.2 (F9 k fun j hj e=> ?_)
  have hne:i≠j:=fun e2=>by subst e2;rw[hP]at e;cases e
  rcases TB (n:=n) (p:=p) (k:=k) hne with h1|h1
  ·have:=h.up j i hj hi h1 e
   rw[hP]at this;cases this
  exact h1
theorem NH.zero(n:Int)(p:Nat->Int)(k:Nat):NH n p k (fun _=>false) 0:=⟨fun _ _ _ _ _ h=>h,by induction k with|zero=>rfl|succ k ih=>rw[E3,if_neg (by simp),ih]⟩
theorem NH.next(h:NH n p k P t)(hb:b<k)(hPb:P b=false)(hbest:∀j,j<k->P j=false->DR n p k j b=false):NH n p k (fun i=>P i||decide (i=b)) (t+1):=by
 refine⟨fun i j hi hj hbt hP=> ?_,by rw[L0 P b hPb,if_pos hb,h.cnt]⟩
 simp only[Bool.or_eq_true,decide_eq_true_eq]at hP⊢
 rcases hP with hP|rfl
 ·exact .inl (h.up i j hi hj hbt hP)
 cases e:P j with
 |true=>exact .inl rfl
 |false=>rw[hbest j hj e]at hbt;cases hbt
theorem NH.free(h:NH n p k P t)(ht:t<k):∃i,i<k/\P i=false:=by
 apply Classical.byContradiction
 intro hn
 have:E3 P k=k:=V2 k fun i hi=>by
  cases e:P i with
  |true=>rfl
  |false=>exact absurd ⟨i,hi,e⟩ hn
 rw[h.cnt]at this;omega
theorem NH.congr{Q:Nat->Bool}(h:NH n p k P t)(e:∀i,i<k->P i=Q i):NH n p k Q t:=
 ⟨fun i j hi hj hb hq=>by rw[<-e j hj];exact h.up i j hi hj hb (by rw[e i hi];exact hq),by rw[<-h.cnt];exact(KH k e).symm⟩
def MP(n:Int)(p:Nat->Int)(k i:Nat):Nat:=E3 (fun j=>DR n p k j i) k
theorem WL(n:Int)(p:Nat->Int)(k:Nat)(P:Nat->Bool):∀m,m<=k->(∃i,i<m/\P i=false)->∃b,b<m/\P b=false/\∀j,j<m->P j=false->DR n p k j b=false:=by
 intro m
 induction m with
 |zero=>rintro _ ⟨i,hi,_⟩;omega
 |succ m ih=>
  rintro hm ⟨i,hi,hp⟩
  by_cases h:∃i,i<m/\P i=false
  ·obtain⟨b,b1,b2,b3⟩:=ih (by omega) h
   cases hPm:P m with
   |true=>
    exact⟨b,by omega,b2,fun j hj e=>by
     by_cases e2:j=m
     ·subst e2;rw[hPm]at e;cases e
     exact b3 j (by omega) e⟩
   |false=>
    cases hmb:DR n p k m b with
    |false=>exact⟨b,by omega,b2,fun j hj e=>by
      by_cases e2:j=m
      ·subst e2;exact hmb
      exact b3 j (by omega) e⟩
    |true=>exact⟨m,by omega,hPm,fun j hj e=>by
      by_cases e2:j=m
      ·subst e2;exact Fq _ _ _ _
      cases hjm:DR n p k j m with
      |false=>rfl
      |true=>
       have h1:=HY hjm hmb
       rw[b3 j (by omega) e]at h1;exact h1.symm⟩
  refine⟨m,by omega,?_,fun j hj e=> ?_⟩
  ·by_cases e2:i=m
   ·subst e2;exact hp
   exact absurd ⟨i,by omega,hp⟩ h
  by_cases e2:j=m
  ·subst e2;exact Fq _ _ _ _
  exact absurd ⟨j,by omega,e⟩ h
theorem Qe(n:Int)(p:Nat->Int)(k:Nat):∀t,t<=k->NH n p k (fun i=>decide (MP n p k i<t)) t
 |0,_=>(NH.zero n p k).congr fun i _=>by simp
 |t+1,h=>by
  have ih:=Qe n p k t (by omega)
  obtain⟨b,b1,b2,b3⟩:=WL n p k _ k (Nat.le_refl _) (ih.free (by omega))
  have h2:=ih.next b1 b2 b3
  exact h2.congr fun i hi=>h2.iff hi
theorem P5(p:Nat->Bool):∀k,AP (fun i=>if p i=true then 1 else 0) k=(E3 p k:Int)
 |0=>rfl
 |k+1=>by
  rw[AP,P5 p k,E3]
  split<;>rename_i h<;>simp[]
theorem Ny(hk:0<k)(hs:0<AP p k):AP (FF n p k) k=n:=by
 have h1:=LT (n:=n) hs
 have h2:=PT (n:=n) hk hs
 obtain⟨t,ht⟩:∃t:Nat,DI n p k=t:=⟨(DI n p k).toNat,by omega⟩
 have h3:=(Qe n p k t (by omega)).cnt
 have h4:AP (FF n p k) k=AP (fun i=>DG n p k i+if(decide (MP n p k i<t))=true then 1 else 0) k:=EG k fun i hi=>by
  unfold FF
  rw[ht]
  unfold MP
  simp only[Int.ofNat_lt,decide_eq_true_eq]
 rw[h4,Jf,P5,h3,<-ht]
 unfold DI;omega
theorem Ps(hn:0<=n)(hp:0<=p i)(hs:0<AP p k):0<=FF n p k i:=by
 have:0<=DG n p k i:=Int.ediv_nonneg (Int.mul_nonneg hn hp) (by omega)
 unfold FF;split<;>omega
theorem EX{f:Nat->Int}{len:Nat}(h:∀i,i<len->0<=f i)(hab:a<=b)(hb:b<=len):AP f a<=AP f b:=by
  induction b with
  |zero=>obtain rfl:a=0:=by omega
         exact Int.le_refl _
  |succ b ih=>
    by_cases e:a=b+1
    ·subst e;exact Int.le_refl _
    have:=ih (by omega) (by omega);have:=h b (by omega);rw[AP];omega
end Go.Proofs.YtlieoghhkioflaaGreat
namespace Go.Proofs.YtlieoghhkioflaaGreat
open Go Go.RowKit
variable{G:Nat->Option (Nat×(Nat->Ad))}
noncomputable def K1{α:Type}(a b:Nat×(Nat->α)):Bool:=Bb (a.1=b.1/\∀i,i<a.1->a.2 i=b.2 i)
noncomputable def OP:At:=Cx (DD (Bz .i64)) (DD (Bz .i64)) (fun _ _=>True) fun a b=> .bool (K1 a b)
theorem XD:Ah Tryz.prog G 62 OP:=by
 refine Lm (S:=[]) (I:=[]) mixed .nil .nil Tryz.func62 c62 fun a b _ hw=> ?_
 simp only[Nat.reduceSub,Nat.reducePow,go_sem]at hw
 obtain⟨w1,w2⟩:=hw
 simp only[A4,a62,w1,w2,↓reduceIte,reduceCtorEq,Nat.reduceEqDiff,Nat.reduceSub,Nat.reducePow,go_sem]
 refine⟨fun h=>(An fun k=>h (by omega)).symm,fun h=> ?_⟩
 refine AV (ι:=Nat) (fun j=>j<=a.1/\∀i,i<j->a.2 i=b.2 i) (fun j=>a.1-j) [0,1] (fun j=>[(5,.int .i64 j)]) (fun _=>[]) 0 ⟨by omega,fun i h=>by omega⟩ (by simp only[↓reduceIte,reduceCtorEq,Nat.reduceEqDiff,go_sem];try rfl) fun j hj=> ?_
 obtain⟨hj1,hj2⟩:=hj
 simp only[w1,↓reduceIte,reduceCtorEq,Nat.reduceEqDiff,Nat.reduceSub,Nat.reducePow,go_sem]
 refine⟨fun hlt=>⟨by omega,by omega,by omega,by omega,fun h1=>(An fun k=> ?_).symm,fun h1=>Af (j+1) ⟨by omega,fun i hi=> ?_⟩ (by omega) ?_⟩,fun hge=> ?_⟩
 ·exact h1 (k.2 j (by omega))
 ·rcases Nat.lt_or_ge i j with h5|h5
  ·exact hj2 i h5
  obtain rfl:i=j:=by omega
  exact h1
 ·simp only[↓reduceIte,reduceCtorEq,Nat.reduceEqDiff,go_sem]
  rw[Cs (by omega)]
 exact(As ⟨by omega,fun i hi=>hj2 i (by omega)⟩).symm
theorem AbK{a b:Pc}:(a.turn.fro==b.turn.fro&&(a.turn.til==b.turn.til&&a.baisa==b.baisa))=true↔a=b:=by
 obtain⟨⟨a1,a2⟩,a3⟩:=a;obtain⟨⟨b1,b2⟩,b3⟩:=b;simp[and_assoc]
noncomputable def L6:At:=Cx (DD RPc) (DD RPc) (fun _ _=>True) fun a b=> .bool (K1 a b)
theorem U7:Ah Tryz.prog G 63 L6:=by
 refine Lm (S:=[]) (I:=[]) mixed .nil .nil Tryz.func63 c63 fun a b _ hw=> ?_
 simp only[Nat.reduceSub,Nat.reducePow,go_sem]at hw
 obtain⟨w1,w2⟩:=hw
 simp only[A4,a63,w1,w2,↓reduceIte,reduceCtorEq,Nat.reduceEqDiff,Nat.reduceSub,Nat.reducePow,go_sem]
 refine⟨fun h=>(An fun k=>h (by omega)).symm,fun h=> ?_⟩
 refine AV (ι:=Nat) (fun j=>j<=a.1/\∀i,i<j->a.2 i=b.2 i) (fun j=>a.1-j) [0,1] (fun j=>[(5,.int .i64 j)]) (fun _=>[]) 0 ⟨by omega,fun i h=>by omega⟩ (by simp only[↓reduceIte,reduceCtorEq,Nat.reduceEqDiff,go_sem];try rfl) fun j hj=> ?_
 obtain⟨hj1,hj2⟩:=hj
 simp only[w1,↓reduceIte,reduceCtorEq,Nat.reduceEqDiff,Nat.reduceAdd,Nat.reduceSub,Nat.reducePow,go_sem]
 refine⟨fun hlt=>⟨by omega,by omega,by omega,by omega,fun h1=>(An fun k=> ?_).symm,fun h1=>Af (j+1) ⟨by omega,fun i hi=> ?_⟩ (by omega) ?_⟩,fun hge=> ?_⟩
 ·rw[k.2 j (by omega)]at h1;simp at h1
 ·rcases Nat.lt_or_ge i j with h5|h5
  ·exact hj2 i h5
  obtain rfl:i=j:=by omega
  exact AbK.1 h1
 ·simp only[↓reduceIte,reduceCtorEq,Nat.reduceEqDiff,go_sem]
  rw[Cs (by omega)]
 exact(As ⟨by omega,fun i hi=>hj2 i (by omega)⟩).symm
end Go.Proofs.YtlieoghhkioflaaGreat
namespace Go.Proofs.YtlieoghhkioflaaGreat
open Go Go.RowKit
variable{G:Nat->Option (Nat×(Nat->Ad))}
def Om(t:Tu):Prop:=0<=t.fro/\t.fro<t.til/\t.til<=23040
def Lk(t:Tu)(b:Bd):Prop:=(1<=b.who/\b.who<=9999)/\(t.fro<=b.turn.fro/\b.turn.fro<b.turn.til/\b.turn.til<=t.til)/\0<=b.baisa/\b.baisa<=1000000000
noncomputable def FL(t:Tu)(l:Nat×(Nat->Bd)):Int:=if Bb (Om t)=true then(if 12<l.1 then 4 else if Bb (∀i,i<l.1->Lk t (l.2 i))=true then 0 else 43)else 2
noncomputable def JJ:At:=Cx Wn (DD RBd) (fun _ _=>True) fun t l=> .int .i64 (FL t l)
end Go.Proofs.YtlieoghhkioflaaGreat
namespace Go.Proofs.YtlieoghhkioflaaGreat
open Go Go.RowKit
variable{G:Nat->Option (Nat×(Nat->Ad))}
abbrev F0:=Nat×(Nat->De)
noncomputable def JH(r:Ro)(l:F0):Bool:=Bb (80<r.holds.1\/80<l.1\/∃i,i<l.1/\12<(l.2 i).heirs.1)
noncomputable def Gp:At:=Cx KI (DD GI) (fun _ _=>True) fun r l=> .bool (JH r l)
theorem U6:Ah Tryz.prog G 14 Gp:=by
 refine Lm (S:=[]) (I:=[]) mixed .nil .nil Tryz.func14 c14 fun r l _ hw=> ?_
 simp only[Nat.reduceSub,Nat.reducePow,go_sem]at hw
 obtain⟨w1,w2⟩:=hw
 simp only[A4,a14,w1,w2,↓reduceIte,reduceCtorEq,Nat.reduceEqDiff,Nat.reduceAdd,Nat.reduceSub,Nat.reducePow,go_sem]
 refine⟨fun h1=>(As (.inl (by omega))).symm,fun h1=>⟨fun h2=>(As (.inr (.inl (by omega)))).symm,fun h2=> ?_⟩⟩
 refine AV (ι:=Nat) (fun j=>j<=l.1/\∀i,i<j->(l.2 i).heirs.1<=12) (fun j=>l.1-j) [1] (fun j=>[(5,.int .i64 j)]) (fun _=>[]) 0 ⟨by omega,fun i h=>by omega⟩ (by simp only[↓reduceIte,reduceCtorEq,Nat.reduceEqDiff,Nat.reduceLT,go_sem];try rfl) fun j hj=> ?_
 obtain⟨hj1,hj2⟩:=hj
 simp only[w2,↓reduceIte,reduceCtorEq,Nat.reduceEqDiff,Nat.reduceSub,Nat.reducePow,go_sem]
 refine⟨fun hlt=>⟨by omega,by omega,fun _=>⟨fun h3=>(As (.inr (.inr ⟨j,by omega,by omega⟩))).symm,fun h3=> ?_⟩⟩,fun hge=> ?_⟩
 ·refine Af (j+1) ⟨by omega,fun i hi=> ?_⟩ (by omega) (by simp only[↓reduceIte,Nat.reduceEqDiff,Nat.reduceLT,go_sem];rw[Cs (by omega)])
  rcases Nat.lt_or_ge i j with h5|h5
  ·exact hj2 i h5
  obtain rfl:i=j:=by omega
  omega
 refine(An fun k=> ?_).symm
 rcases k with k|k|⟨i,k1,k2⟩
 ·omega
 ·omega
 have:=hj2 i (by omega);omega
noncomputable def Hc:At:=Cx (DD LG) (DD LG) (fun _ _=>True) fun a b=> .bool (K1 a b)
theorem AcT{a b:Ho}:(a.who==b.who&&(a.turn.fro==b.turn.fro&&a.turn.til==b.turn.til))=true↔a=b:=by
 obtain⟨a1,⟨a2,a3⟩⟩:=a;obtain⟨b1,⟨b2,b3⟩⟩:=b;simp[]
theorem PH:Ah Tryz.prog G 22 Hc:=by
 refine Lm (S:=[]) (I:=[]) mixed .nil .nil Tryz.func22 c22 fun a b _ hw=> ?_
 simp only[Nat.reduceSub,Nat.reducePow,go_sem]at hw
 obtain⟨w1,w2⟩:=hw
 simp only[A4,a22,w1,w2,↓reduceIte,reduceCtorEq,Nat.reduceEqDiff,Nat.reduceSub,Nat.reducePow,go_sem]
 refine⟨fun h=>(An fun k=>h (by omega)).symm,fun h=> ?_⟩
 refine AV (ι:=Nat) (fun j=>j<=a.1/\∀i,i<j->a.2 i=b.2 i) (fun j=>a.1-j) [0,1] (fun j=>[(5,.int .i64 j)]) (fun _=>[]) 0 ⟨by omega,fun i h=>by omega⟩ (by simp only[↓reduceIte,reduceCtorEq,Nat.reduceEqDiff,go_sem];try rfl) fun j hj=> ?_
 obtain⟨hj1,hj2⟩:=hj
 simp only[w1,↓reduceIte,reduceCtorEq,Nat.reduceEqDiff,Nat.reduceAdd,Nat.reduceSub,Nat.reducePow,go_sem]
 refine⟨fun hlt=>⟨by omega,by omega,by omega,by omega,fun h1=>(An fun k=> ?_).symm,fun h1=>Af (j+1) ⟨by omega,fun i hi=> ?_⟩ (by omega) ?_⟩,fun hge=> ?_⟩
 ·rw[k.2 j (by omega)]at h1;simp at h1
 ·rcases Nat.lt_or_ge i j with h5|h5
  ·exact hj2 i h5
  obtain rfl:i=j:=by omega
  exact AcT.1 h1
 ·simp only[↓reduceIte,reduceCtorEq,Nat.reduceEqDiff,go_sem]
  rw[Cs (by omega)]
 exact(As ⟨by omega,fun i hi=>hj2 i (by omega)⟩).symm
noncomputable def L8:At:=Cx (DD NK) (DD NK) (fun _ _=>True) fun a b=> .bool (K1 a b)
theorem Acl{a b:Hs}:(a.who==b.who&&a.mins==b.mins)=true↔a=b:=by
 obtain⟨a1,a2⟩:=a;obtain⟨b1,b2⟩:=b;simp[]
theorem VK:Ah Tryz.prog G 23 L8:=by
 refine Lm (S:=[]) (I:=[]) mixed .nil .nil Tryz.func23 c23 fun a b _ hw=> ?_
 simp only[Nat.reduceSub,Nat.reducePow,go_sem]at hw
 obtain⟨w1,w2⟩:=hw
 simp only[A4,a23,w1,w2,↓reduceIte,reduceCtorEq,Nat.reduceEqDiff,Nat.reduceSub,Nat.reducePow,go_sem]
 refine⟨fun h=>(An fun k=>h (by omega)).symm,fun h=> ?_⟩
 refine AV (ι:=Nat) (fun j=>j<=a.1/\∀i,i<j->a.2 i=b.2 i) (fun j=>a.1-j) [0,1] (fun j=>[(5,.int .i64 j)]) (fun _=>[]) 0 ⟨by omega,fun i h=>by omega⟩ (by simp only[↓reduceIte,reduceCtorEq,Nat.reduceEqDiff,go_sem];try rfl) fun j hj=> ?_
 obtain⟨hj1,hj2⟩:=hj
 simp only[w1,↓reduceIte,reduceCtorEq,Nat.reduceEqDiff,Nat.reduceAdd,Nat.reduceSub,Nat.reducePow,go_sem]
 refine⟨fun hlt=>⟨by omega,by omega,by omega,by omega,fun h1=>(An fun k=> ?_).symm,fun h1=>Af (j+1) ⟨by omega,fun i hi=> ?_⟩ (by omega) ?_⟩,fun hge=> ?_⟩
 ·rw[k.2 j (by omega)]at h1;simp at h1
 ·rcases Nat.lt_or_ge i j with h5|h5
  ·exact hj2 i h5
  obtain rfl:i=j:=by omega
  exact Acl.1 h1
 ·simp only[↓reduceIte,reduceCtorEq,Nat.reduceEqDiff,go_sem]
  rw[Cs (by omega)]
 exact(As ⟨by omega,fun i hi=>hj2 i (by omega)⟩).symm
noncomputable def Fy(n a b:Int):Bool:=Bb (a<=n/\n<=b)
noncomputable def OE:At:=D5 TI TI TI (fun _ _ _=>True) fun n a b=> .bool (Fy n a b)
theorem YS:Ah Tryz.prog G 59 OE:=by
 refine fn3 (S:=[]) (I:=[]) mixed .nil .nil Tryz.func59 c59 fun n a b _ hw=> ?_
 simp only[A4,a59,↓reduceIte,reduceCtorEq,Nat.reduceEqDiff,Nat.reduceAdd,go_sem]
 refine⟨fun h1=> ?_,fun h1=>(An fun k=>h1 k.1).symm⟩
 by_cases h2:n<=b
 ·rw[decide_eq_true h2];exact(As ⟨h1,h2⟩).symm
 rw[decide_eq_false h2];exact(An fun k=>h2 k.2).symm
noncomputable def Sd:At:=Dv TI (fun _=>True) fun n=> .bool (Fy n 1 9999)
theorem Abi:Ah Tryz.prog G 69 Sd:=by
 refine Xt (S:=[(59,OE)]) (I:=[]) mixed (.cons YS .nil) .nil Tryz.func69 c69 fun n _ hw=> ?_
 simp only[A4,a69,OE,↓reduceIte,reduceCtorEq,go_sem]
theorem Xd{i:Nat}(h:0<i)(h2:i<9223372036854775807):IntKind.i64.wrap ((i:Int)-1)=((i-1:Nat):Int):=by rw[AU (by omega) (by omega)];omega
def YP(f:Int)(l:Nat×(Nat->Hr))(i:Nat):Prop:=1<=(l.2 i).who/\(l.2 i).who<=9999/\(l.2 i).who≠f/\1<=(l.2 i).parts/\(l.2 i).parts<=1000/\(0<i->(l.2 (i-1)).who<(l.2 i).who)
def FN(fro:Int)(l:Nat×(Nat->Hr)):Prop:=1<=l.1/\l.1<=8/\∀i,i<l.1->YP fro l i
noncomputable def O7:At:=Cx TI (DD IX) (fun _ _=>True) fun f l=> .bool (Bb (FN f l))
theorem XE:Ah Tryz.prog G 71 O7:=by
 refine Lm (S:=[(69,Sd),(59,OE)]) (I:=[]) mixed (.cons Abi (.cons YS .nil)) .nil Tryz.func71 c71 fun f l _ hw=> ?_
 simp only[Nat.reduceSub,Nat.reducePow,go_sem]at hw
 simp only[A4,a71,Sd,OE,hw,↓reduceIte,reduceCtorEq,Nat.reduceEqDiff,Nat.reduceSub,Nat.reducePow,go_sem,Fy,AM,BZ]
 have f1:((1:Int)<=(l.1:Int)/\(l.1:Int)<=8)=(1<=l.1/\l.1<=8):=by apply propext;omega
 refine⟨fun h1=>(An fun k=>h1 (by have:=k.1;have:=k.2.1;omega)).symm,fun h1=> ?_⟩
 refine AV (ι:=Nat) (fun j=>j<=l.1/\∀i,i<j->YP f l i) (fun j=>l.1-j) [0,1] (fun j=>[(5,.int .i64 j)]) (fun _=>[]) 0 ⟨by omega,fun i h=>by omega⟩ (by simp only[↓reduceIte,reduceCtorEq,Nat.reduceEqDiff,go_sem];try rfl) fun j hj=> ?_
 obtain⟨hj1,hj2⟩:=hj
 simp only[hw,↓reduceIte,reduceCtorEq,Nat.reduceEqDiff,Nat.reduceSub,Nat.reduceLeDiff,Nat.reducePow,go_sem,AM,BZ]
 have no:j<l.1->¬YP f l j->false=Bb (FN f l):=fun hlt h=>(An fun k=>h (k.2.2 j hlt)).symm
 have go:∀{P:Prop},YP f l j->P->(∀i,i<j+1->YP f l i)/\P:=fun h k=>⟨fun i hi=>by
  rcases Nat.lt_or_ge i j with h5|h5
  ·exact hj2 i h5
  obtain rfl:i=j:=by omega
  exact h,k⟩
 refine⟨fun hlt=>⟨by omega,by omega,fun q1=>no (by omega) fun k=>q1 ⟨k.1,k.2.1⟩,fun q1=>⟨by omega,by omega,fun q2=>no (by omega) fun k=>k.2.2.1 q2,fun q2=>⟨by omega,by omega,fun q3=>no (by omega) fun k=>q3 ⟨k.2.2.2.1,k.2.2.2.2.1⟩,fun q3=>⟨fun q4=> ?_,fun q4=> ?_⟩⟩⟩⟩,fun hge=>(As ⟨by omega,by omega,fun i hi=>hj2 i (by omega)⟩).symm⟩
 ·rw[Xd (by omega) (by omega),Int.toNat_natCast]
  refine⟨by omega,by omega,by omega,by omega,fun q5=>no (by omega) fun k=>by have:=k.2.2.2.2.2 (by omega);omega,fun q5=> ?_⟩
  exact Af (j+1) ⟨by omega,(go ⟨q1.1,q1.2,q2,q3.1,q3.2,fun _=>by omega⟩ trivial).1⟩ (by omega) (by simp only[↓reduceIte,reduceCtorEq,Nat.reduceEqDiff,go_sem];rw[Cs (by omega)])
 exact Af (j+1) ⟨by omega,(go ⟨q1.1,q1.2,q2,q3.1,q3.2,fun _=>by omega⟩ trivial).1⟩ (by omega) (by simp only[↓reduceIte,reduceCtorEq,Nat.reduceEqDiff,go_sem];rw[Cs (by omega)])
def Jv(r:Ro)(j:Nat):Int:=if j=0 then 0 else(r.holds.2 (j-1)).turn.til
def ZV(r:Ro)(i:Nat):Prop:=0<=(r.holds.2 i).who/\(r.holds.2 i).who<=9999/\(r.holds.2 i).turn.fro=Jv r i/\(r.holds.2 i).turn.fro<(r.holds.2 i).turn.til/\(r.holds.2 i).turn.til<=1440*r.days
def EI(r:Ro):Prop:=1<=r.days/\r.days<=16/\1<=r.holds.1/\r.holds.1<=60/\(∀i,i<r.holds.1->ZV r i)/\Jv r r.holds.1=1440*r.days
noncomputable def N0:At:=Dv KI (fun _=>True) fun r=> .bool (Bb (EI r))
theorem Zm:Ah Tryz.prog G 93 N0:=by
 refine Xt (S:=[]) (I:=[(59,a59)]) mixed .nil (.cons Tryz.func59 c59 .nil) Tryz.func93 c93 fun r _ hw=> ?_
 simp only[Nat.reduceSub,Nat.reducePow,go_sem]at hw
 simp only[A4,a93,a59,hw,↓reduceIte,reduceCtorEq,Nat.reduceEqDiff,Nat.reduceAdd,Nat.reduceSub,Nat.reduceLeDiff,Nat.reducePow,go_sem]
 refine⟨fun h1=>⟨fun h2=>(An fun k=>h2 k.2.1).symm,fun h2=>⟨fun h3=>⟨fun h4=>(An fun k=>h4 (by have:=k.2.2.2.1;omega)).symm,fun h4=> ?_⟩,fun h3=>(An fun k=>h3 (by have:=k.2.2.1;omega)).symm⟩⟩,fun h1=>(An fun k=>h1 k.1).symm⟩
 refine AV (ι:=Nat) (fun j=>j<=r.holds.1/\∀i,i<j->ZV r i) (fun j=>r.holds.1-j) [1] (fun j=>[(4,.int .i64 j),(3,.int .i64 (Jv r j))]) (fun _=>[]) 0 ⟨by omega,fun i h=>by omega⟩ (by simp only[↓reduceIte,Nat.reduceEqDiff,Nat.reduceLT,go_sem];try rfl) fun j hj=> ?_
 obtain⟨hj1,hj2⟩:=hj
 simp only[hw,↓reduceIte,reduceCtorEq,Nat.reduceEqDiff,Nat.reduceAdd,Nat.reduceSub,Nat.reduceLeDiff,Nat.reducePow,go_sem]
 rw[AU (by omega) (by omega)]
 have no:j<r.holds.1->¬ZV r j->false=Bb (EI r):=fun hlt h=>(An fun k=>h (k.2.2.2.2.1 j hlt)).symm
 refine⟨fun hlt=>⟨by omega,by omega,fun q1=>⟨fun q2=>no (by omega) fun k=>by have:=k.2.1;omega,fun q2=>⟨fun q3=>no (by omega) fun k=>q3 k.2.2.1,fun q3=>⟨fun q4=>no (by omega) fun k=>by have:=k.2.2;omega,fun q4=>⟨fun q5=>no (by omega) fun k=>by have:=k.2.2.2.2;omega,fun q5=> ?_⟩⟩⟩⟩,fun q1=>no (by omega) fun k=>by have:=k.1;omega⟩,fun hge=> ?_⟩
 ·refine Af (j+1) ⟨by omega,fun i hi=> ?_⟩ (by omega) (by simp only[↓reduceIte,reduceCtorEq,Nat.reduceEqDiff,Nat.reduceLT,go_sem];rw[Cs (by omega)];exact⟨rfl,rfl⟩)
  rcases Nat.lt_or_ge i j with h5|h5
  ·exact hj2 i h5
  obtain rfl:i=j:=by omega
  exact⟨q1,q2,q3,by omega,by omega⟩
 obtain rfl:j=r.holds.1:=by omega
 by_cases he:Jv r r.holds.1=1440*r.days
 ·rw[he,As ⟨h1,h2,by omega,by omega,hj2,he⟩];exact beq_self_eq_true _
 rw[An fun k=>he k.2.2.2.2.2];exact beq_eq_false_iff_ne.2 he
noncomputable def Hm:At:=Dv KI (fun _=>True) fun r=> .int .i64 (if Bb (EI r)=true then 0 else 40)
theorem VZ:Ah Tryz.prog G 64 Hm:=by
 refine Xt (S:=[(93,N0)]) (I:=[]) mixed (.cons Zm .nil) .nil Tryz.func64 c64 fun r _ hw=> ?_
 simp only[Nat.reduceSub,Nat.reducePow,go_sem]at hw
 simp only[A4,a64,N0,hw,↓reduceIte,reduceCtorEq,Nat.reduceEqDiff,Nat.reduceAdd,Nat.reduceSub,Nat.reducePow,go_sem]
 exact⟨fun h=>by rw[h];rfl,fun h=>by rw[h];rfl⟩
end Go.Proofs.YtlieoghhkioflaaGreat
