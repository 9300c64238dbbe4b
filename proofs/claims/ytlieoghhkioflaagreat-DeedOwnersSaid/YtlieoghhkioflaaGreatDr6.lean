/- Deeds: the reference's run. No condition but bounds. -/
import Derived.Test.YtlieoghhkioflaaGreatDbk
import Derived.Test.YtlieoghhkioflaaGreatDin
set_option linter.unusedSimpArgs false
set_option linter.unusedVariables false
set_option maxRecDepth 100000
namespace Go.Proofs.YtlieoghhkioflaaGreat
open Go Go.RowKit
variable {G : Nat -> Option (Nat × (Nat -> Ae))}
def Ug (b : Bk) : Ae := .agg b.L
noncomputable def Sd : Ay := Dq JS (DQ Fx) TI (fun r l _ => Fq r /\ l.1 <= 60 /\ ∀ i,i < l.1 -> DG r (l.2 i)) fun r l d => .tup (.cons (Ug (Dh r l.2 (Bv l d))) (.cons (.view 1 (Bv l d) fun i _ => .int .u8 (CB (Dh r l.2 i) (l.2 i))) .nil))
theorem Xf : Ai Tryz.prog G 88 Sd := by
 refine Vl (S := UJ) (I := UD) mixed (.cons Xj (.cons U4 .nil)) (.cons Tryz.func109 YO (.cons Tryz.func111 ZM (.cons Tryz.func134 ZT .nil))) Tryz.func88 c88 fun r l d hp hw => ?_
 obtain ⟨hr,hl,hd⟩ := hp
 simp only [Nat.reduceSub,Nat.reducePow,go_sem] at hw
 obtain ⟨w1,w2⟩ := hw
 have hN : IntKind.i64.wrap (1440 * r.days) = (AE r : Int) := by
  have := hr.1; have := hr.2.1
  rw [AU (by omega) (by omega)]; unfold AE; omega
 have hN2 : AE r <= 23040 := by have := hr.1; have := hr.2.1; unfold AE; omega
 simp only [A9,a88,Vj,w1,hN,Int.toNat_natCast,↓reduceIte,reduceCtorEq,Nat.reduceEqDiff,Nat.reduceAdd,Nat.reduceSub,Nat.reduceLeDiff,Nat.reduceLT,Int.reduceToNat,Int.reduceLE,Int.reduceMul,Nat.reducePow,go_sem]
 repeat (with_reducible refine And.intro (by omega) ?_)
 have hNd : (AE r : Int) = 1440 * r.days := by have := hr.1; have := hr.2.1; unfold AE; omega
 have hmono := HR hr.2.2.2.2.1
 have hHd := hr.2.2.2.2.1
 have r0 := Oc hr.2.2.2.2.1
 refine AJ (ι := Nat) (fun i => i <= r.holds.1) (fun i => r.holds.1 - i) [1,2,4] (fun i => [(5,.int .i64 i)]) (fun i => [(4,.row 3 1 (AE r) fun m _ => .int .i64 (if (m : Int) < FA r i then K5 r m else 0))]) 0 (by omega) (by
  simp only [↓reduceIte,reduceCtorEq,Nat.reduceEqDiff,Nat.reduceLT,go_sem]
  intro i hi j hj
  obtain rfl : j = 0 := by omega
  rw [if_neg (show ¬ (i : Int) < FA r 0 from by unfold FA; rw [if_pos rfl]; omega)]; rfl) fun i hi => ?_
 simp only [w1,↓reduceIte,Nat.reduceEqDiff,Nat.reduceAdd,Nat.reduceSub,Nat.reduceLeDiff,Nat.reducePow,go_sem]
 refine ⟨fun h1 => ?_,fun h1 => ?_⟩
 ·have hi1 : i < r.holds.1 := by omega
  obtain ⟨g1,g2,g3,g4,g5⟩ := hHd i hi1
  have g6 := r0 i hi
  refine ⟨by omega,by omega,?_⟩
  refine AJ (ι := Nat) (fun m => (r.holds.2 i).turn.fro <= m /\ (m : Int) <= (r.holds.2 i).turn.til) (fun m => (r.holds.2 i).turn.til.toNat - m) [1,2,4,5] (fun m => [(6,.int .i64 m)]) (fun m => [(4,.row 3 1 (AE r) fun q _ => .int .i64 (if q < m then K5 r q else 0))]) (r.holds.2 i).turn.fro.toNat ⟨by omega,by omega⟩ (by
   simp only [↓reduceIte,reduceCtorEq,Nat.reduceEqDiff,Nat.reduceLT,go_sem]
   refine ⟨by omega,fun q hq j hj => ?_⟩
   have : ((q : Int) < FA r i) = (q < (r.holds.2 i).turn.fro.toNat) := by apply propext; omega
   simp only [this]) fun m hm => ?_
  obtain ⟨m1,m2⟩ := hm
  simp only [w1,↓reduceIte,Nat.reduceEqDiff,Nat.reduceAdd,Nat.reduceSub,Nat.reduceLeDiff,Nat.reducePow,go_sem]
  refine ⟨by omega,by omega,fun h2 => ?_,fun h2 => ?_⟩
  ·have ho := Tf hr hi1 (show FA r i <= m by omega) h2
   repeat (with_reducible refine And.intro (by omega) ?_)
   refine Ad (m + 1) ⟨by omega,by omega⟩ (by omega) ?_
   simp only [↓reduceIte,reduceCtorEq,Nat.reduceEqDiff,Nat.reduceLT,go_sem]
   rw [BV (by omega)]
   refine ⟨rfl,Gy fun q hq => ?_⟩
   by_cases e : q = m
   ·subst e; rw [if_pos rfl,if_pos (by omega)]; exact ho
   rw [if_neg e]
   by_cases e2 : q < m
   ·rw [if_pos e2,if_pos (by omega)]
   rw [if_neg e2,if_neg (by omega)]
  refine Ad (i + 1) (by omega) (by omega) ?_
  simp only [↓reduceIte,reduceCtorEq,Nat.reduceEqDiff,Nat.reduceLT,go_sem]
  rw [BV (by omega)]
  refine ⟨rfl,fun q hq j hj => ?_⟩
  have : ((q : Int) < FA r (i + 1)) = (q < m) := by rw [Lk]; apply propext; omega
  simp only [this]
 obtain rfl : i = r.holds.1 := by omega
 have hb0 : ∀ m : Nat,m < AE r -> (if (m : Int) < FA r r.holds.1 then K5 r m else 0) = K5 r m := fun m hm => if_pos (by rw [hr.2.2.2.2.2]; omega)
 have hU : Bv l d <= l.1 := by have := A7 (fun i => d < (l.2 i).day) l.1; unfold Bv; omega
 have hUd : ∀ i,i < Bv l d -> (l.2 i).day <= d := fun i hi => by
  have := A7 (fun i => d < (l.2 i).day) l.1
  rcases this with ⟨_,_,h⟩ | ⟨h0,h⟩
  ·have := h i hi; omega
  have := h i (by unfold Bv at hi; omega); omega
 refine FL (ι := Nat) (fun j => j <= Bv l d) (fun j => l.1 - j) [1,2,6,8] (fun j => [(9,.own (.n 10)),(10,.int .i64 j)]) (fun j => [(10,.row 5 1 j fun i _ => .int .u8 (CB (Dh r l.2 i) (l.2 i))),(4,.row 3 1 (AE r) fun m _ => .int .i64 ((Dh r l.2 j).ow.2 m)),(5,.row 3 1 (AE r) fun m _ => .int .i64 ((Dh r l.2 j).le.2 m)),(6,.row 3 1 (AE r) fun m _ => .int .i64 ((Dh r l.2 j).un.2 m)),(7,.row 4 1 10000 fun m _ => .bool ((Dh r l.2 j).de.2 m))]) 1 0 (by omega) (by
  simp only [↓reduceIte,reduceCtorEq,Nat.reduceEqDiff,Nat.reduceAdd,Nat.reduceLT,go_sem]
  have z : ∀ {v w : Ae} (m : Nat),v = w -> ∀ i,i < m -> ∀ j,j < 1 -> Aq (.cons v .nil) j = w := by
   rintro v w m rfl i hi j hj
   obtain rfl : j = 0 := by omega
   rfl
  exact ⟨z _ rfl,z _ rfl,z _ rfl,fun i hi j _ => hb0 i hi⟩) fun j hj => ?_
 rcases Nat.lt_or_ge j (Bv l d) with hjU | hjU
 ·have f1 : ((j : Int) < (l.1 : Int)) = True := eq_true (by omega)
  have f2 : ((l.2 j).day <= d) = True := eq_true (hUd j hjU)
  have hok := Dx r l.2 j
  obtain ⟨b,hb⟩ : ∃ b,b = Dh r l.2 j := ⟨_,rfl⟩
  simp only [<- hb] at hok ⊢
  have hbe : (⟨(AE r,b.ow.2),(AE r,b.le.2),(AE r,b.un.2),(10000,b.de.2)⟩ : Bk) = b := by
   obtain ⟨b1,b2,b3,b4⟩ := hok
   obtain ⟨⟨_,_⟩,⟨_,_⟩,⟨_,_⟩,⟨_,_⟩⟩ := b
   simp only at b1 b2 b3 b4
   subst b1 b2 b4; subst b3; rfl
  have hx := hd j (by omega)
  obtain ⟨x,hxe⟩ : ∃ x,x = l.2 j := ⟨_,rfl⟩
  rw [<- hxe] at hx f2
  have hxi : Rb (AE r) x := by
   obtain ⟨_,_,_,_,h5,h6,h7⟩ := hx
   unfold FE EY at h7
   refine ⟨by omega,h6,?_,?_,?_,?_⟩ <;> rcases h7 with ⟨_,h7⟩ | ⟨_,h7⟩ | ⟨_,h7⟩ | ⟨_,h7⟩ <;> omega
  have hst : Dh r l.2 (j + 1) = FN b x := by rw [hxe,hb]; rfl
  simp only [f1,f2,w2,Q4,<- hxe,↓reduceIte,reduceCtorEq,Nat.reduceEqDiff,Nat.reduceAdd,Nat.reduceSub,Nat.reduceLeDiff,Nat.reduceLT,Nat.reducePow,go_sem]
  rw [hbe]
  refine ⟨by omega,by omega,⟨AE r,hN2,hok,hxi⟩,by omega,by omega,fun h0 => ⟨by omega,?_⟩,fun h0 => ?_⟩
  ·have hst2 : Dh r l.2 (j + 1) = K7 b x := by rw [hst,FN,if_pos h0]
   obtain ⟨b1,b2,b3,b4⟩ := hok
   have hk : x.kind = 1 \/ x.kind = 2 \/ x.kind = 3 \/ x.kind = 4 := by
    obtain ⟨_,_,_,_,_,_,h7⟩ := hx
    rcases h7 with ⟨h,_⟩ | ⟨h,_⟩ | ⟨h,_⟩ | ⟨h,_⟩ <;> omega
   have hwhy : ∀ i,i < j + 1 -> ∀ j_1,j_1 < 1 -> (if i < j then Ae.int .u8 (CB (Dh r l.2 i) (l.2 i)) else Aq (Aq (.cons (.cons (.int .u8 (CB b x)) .nil) .nil) (i - j)) j_1) = .int .u8 (CB (Dh r l.2 i) (l.2 i)) := fun i hi q hq => by
    obtain rfl : q = 0 := by omega
    by_cases e : i < j
    ·rw [if_pos e]
    obtain rfl : i = j := by omega
    rw [if_neg e,Nat.sub_self,<- hb,<- hxe]; rfl
   have e3 : x.kind = 3 -> K7 b x = FH b x := fun h => if_pos h
   have e1 : x.kind = 1 -> K7 b x = ⟨(b.ow.1,fun m => if Fh x m then x.tow else b.ow.2 m),b.le,b.un,b.de⟩ := fun h => by
    unfold K7; rw [if_neg (by omega),if_pos h]
   have e2 : x.kind = 2 -> K7 b x = ⟨(b.ow.1,fun m => if Fh x m then 0 else b.ow.2 m),b.le,b.un,b.de⟩ := fun h => by
    unfold K7; rw [if_neg (by omega),if_neg (by omega),if_pos h]
   have e4 : x.kind = 4 -> K7 b x = ⟨b.ow,(b.le.1,fun m => if Fh x m then x.tow else b.le.2 m),(b.un.1,fun m => if Fh x m then x.til else b.un.2 m),b.de⟩ := fun h => by
    unfold K7; rw [if_neg (by omega),if_neg (by omega),if_neg (by omega),if_pos h]
   rcases hk with hk | hk | hk | hk
   ·refine RJ (r := r) (n := AE r) (k := j + 1) (ow := b.ow.2) (le := b.le.2) (un := b.un.2) (de := b.de.2) (x := x) (v := x.tow) (by omega) hN2 hxi (.inl ⟨hk,rfl⟩) fun B' hB => ?_
    obtain ⟨B',rfl⟩ : ∃ m,B' = m + 100 := ⟨B' - 100,by omega⟩
    simp only [↓reduceIte,Nat.reduceEqDiff,go_sem]
    refine Ad (j + 1) (by omega) (by omega) ?_
    simp only [hst2,e1 hk,↓reduceIte,reduceCtorEq,Nat.reduceEqDiff,Nat.reduceLT,go_sem]
    exact ⟨BV (by omega),hwhy⟩
   ·refine RJ (r := r) (n := AE r) (k := j + 1) (ow := b.ow.2) (le := b.le.2) (un := b.un.2) (de := b.de.2) (x := x) (v := 0) (by omega) hN2 hxi (.inr ⟨hk,rfl⟩) fun B' hB => ?_
    obtain ⟨B',rfl⟩ : ∃ m,B' = m + 100 := ⟨B' - 100,by omega⟩
    simp only [↓reduceIte,Nat.reduceEqDiff,go_sem]
    refine Ad (j + 1) (by omega) (by omega) ?_
    simp only [hst2,e2 hk,↓reduceIte,reduceCtorEq,Nat.reduceEqDiff,Nat.reduceLT,go_sem]
    exact ⟨BV (by omega),hwhy⟩
   ·have hh : EZ x.fro x.heirs := by
     obtain ⟨_,_,_,_,_,_,h7⟩ := hx
     rcases h7 with ⟨h,_⟩ | ⟨h,_⟩ | ⟨h,h7,_⟩ | ⟨h,_⟩ <;> first | exact h7 | omega
    refine S5 (r := r) (n := AE r) (k := j + 1) (ow := b.ow.2) (le := b.le.2) (un := b.un.2) (de := b.de.2) (x := x) (by omega) hN2 hxi hk hh hx.2.2.2.2.1 (fun z v hz => ?_) (fun z v hz => rfl) (fun B' hB c ow' le' ho hl => ?_) fun B' hB c ow' le' ho hl => ?_
    ·have g : ∀ q : Nat,q <= 11 -> (q = z) = False := fun q hq => eq_false (by omega)
     simp only [g 4 (by decide),g 5 (by decide),g 6 (by decide),g 7 (by decide),g 10 (by decide),g 11 (by decide),g 1 (by decide),g 9 (by decide),↓reduceIte,go_sem]
    all_goals rw [hbe] at ho hl
    all_goals rw [hbe]
    all_goals obtain ⟨B',rfl⟩ : ∃ m,B' = m + 100 := ⟨B' - 100,by omega⟩
    all_goals simp only [↓reduceIte,Nat.reduceEqDiff,go_sem]
    all_goals refine Ad (j + 1) (by omega) (by omega) ?_
    all_goals simp only [hst2,e3 hk,↓reduceIte,reduceCtorEq,Nat.reduceEqDiff,Nat.reduceLT,go_sem]
    all_goals exact ⟨BV (by omega),fun _ _ _ _ => rfl,fun _ _ _ _ => rfl,fun i hi _ _ => hl i hi,fun i hi _ _ => ho i hi,hwhy⟩
   refine Wj (r := r) (n := AE r) (k := j + 1) (ow := b.ow.2) (le := b.le.2) (un := b.un.2) (de := b.de.2) (x := x) (by omega) hN2 hxi hk fun B' hB => ?_
   obtain ⟨B',rfl⟩ : ∃ m,B' = m + 100 := ⟨B' - 100,by omega⟩
   simp only [↓reduceIte,Nat.reduceEqDiff,go_sem]
   refine Ad (j + 1) (by omega) (by omega) ?_
   simp only [hst2,e4 hk,↓reduceIte,reduceCtorEq,Nat.reduceEqDiff,Nat.reduceLT,go_sem]
   exact ⟨BV (by omega),hwhy⟩
  have hst2 : Dh r l.2 (j + 1) = b := by rw [hst,FN,if_neg h0]
  refine Ad (j + 1) (by omega) (by omega) ?_
  simp only [hst2,↓reduceIte,reduceCtorEq,Nat.reduceEqDiff,Nat.reduceLT,go_sem]
  refine ⟨BV (by omega),fun i hi q hq => ?_⟩
  obtain rfl : q = 0 := by omega
  by_cases e : i < j
  ·rw [if_pos e]
  obtain rfl : i = j := by omega
  rw [if_neg e,Nat.sub_self,<- hb,<- hxe]; rfl
 obtain rfl : j = Bv l d := by omega
 obtain ⟨k1,k2,k3,k4⟩ := Dx r l.2 (Bv l d)
 rcases Nat.lt_or_ge (Bv l d) l.1 with hU2 | hU2
 ·have f1 : ((Bv l d : Int) < (l.1 : Int)) = True := eq_true (by omega)
  have f2 : ((l.2 (Bv l d)).day <= d) = False := eq_false (by
   have := A7 (fun i => d < (l.2 i).day) l.1
   rcases this with ⟨_,h,_⟩ | ⟨h0,_⟩
   ·exact fun h' => by have : d < (l.2 (Bv l d)).day := h; omega
   unfold Bv at hU2; omega)
  simp only [f1,f2,w2,Ug,k1,k2,k3,k4,↓reduceIte,reduceCtorEq,Nat.reduceEqDiff,Nat.reduceAdd,Nat.reduceSub,Nat.reduceLeDiff,Nat.reducePow,go_sem]
  omega
 have f1 : ((Bv l d : Int) < (l.1 : Int)) = False := eq_false (by omega)
 simp only [f1,w2,Ug,k1,k2,k3,k4,↓reduceIte,reduceCtorEq,Nat.reduceEqDiff,Nat.reduceAdd,Nat.reduceSub,Nat.reducePow,go_sem]
end Go.Proofs.YtlieoghhkioflaaGreat
namespace Go.Proofs.YtlieoghhkioflaaGreat
open Go Go.RowKit
variable {G : Nat -> Option (Nat × (Nat -> Ae))}
noncomputable def D1 (l : J3) : J3 := ((Bb l l.1).length,lD (Bb l l.1))
theorem MK (l : J3) : (D1 l).1 <= l.1 := HJ l l.1
theorem Gp (l : J3) : ∀ i,i < (D1 l).1 -> ∃ k,k < l.1 /\ Iq l k = true /\ (D1 l).2 i = l.2 k := fun i hi => by
 have h : lD (Bb l l.1) i ∈ Bb l l.1 := by
  have hi : i < (Bb l l.1).length := hi
  unfold lD; rw [List.getD_eq_getElem?_getD,List.getElem?_eq_getElem hi]; exact List.getElem_mem hi
 obtain ⟨k,h1,h2,h3⟩ := (Fi l l.1 _).1 h
 exact ⟨k,h1,h2,h3⟩
def F4 (r : Ro) (l : J3) : Prop := l.1 <= 80 /\ ∀ i,i < l.1 -> (l.2 i).heirs.1 <= 12
theorem Dn {r : Ro} {l : J3} (h : BS r l = 0) : Fq r /\ l.1 <= 60 /\ (∀ i,i < l.1 -> DG r (l.2 i)) /\ ∀ i,i < l.1 -> ∀ k,k < i -> (l.2 i).id = (l.2 k).id -> CX (l.2 i) (l.2 k) := by
 unfold BS DK at h
 split at h
 ·rename_i h1
  split at h
  ·exact absurd h (by decide)
  split at h
  ·split at h
   ·rename_i h2 h3 h4; exact ⟨A2.1 h1,by omega,A2.1 h3,A2.1 h4⟩
   exact absurd h (by decide)
  exact absurd h (by decide)
 exact absurd h (by decide)
theorem DG.heirs {r : Ro} {x : De} (h : DG r x) : x.heirs.1 <= 8 := by
 obtain ⟨_,_,_,_,_,_,h7⟩ := h
 rcases h7 with ⟨_,_,_,_,h⟩ | ⟨_,_,_,_,h⟩ | ⟨_,h,_⟩ | ⟨_,_,_,_,_,h⟩
 ·omega
 ·omega
 ·exact h.2.1
 omega
def Fy (b : Bk) (m : Nat) (d : Int) : Int := if b.le.2 m ≠ 0 /\ d < b.un.2 m then b.le.2 m else b.ow.2 m
noncomputable def H8 : Ay := Dq YC TI TI (fun b m _ => ∃ n,LO b n /\ 0 <= m /\ m < n /\ n <= 23040) fun b m d => .int .i64 (Fy b m.toNat d)
theorem QJ : Ai Tryz.prog G 54 H8 := by
 refine Vl (S := []) (I := []) mixed .nil .nil Tryz.func54 c54 fun b m d hp hw => ?_
 obtain ⟨n,⟨n1,n2,n3,n4⟩,h1,h2,h3⟩ := hp
 simp only [Nat.reduceSub,Nat.reducePow,go_sem] at hw
 have hn : (n <= 9223372036854775807) = True := eq_true (by omega)
 simp only [A9,Z4,n1,n2,n3,n4,hn,↓reduceIte,reduceCtorEq,Nat.reduceEqDiff,Nat.reduceAdd,Nat.reduceSub,Nat.reduceLeDiff,Nat.reducePow,go_sem]
 have e1 : Fy b m.toNat d = if b.le.2 m.toNat ≠ 0 /\ d < b.un.2 m.toNat then b.le.2 m.toNat else b.ow.2 m.toNat := rfl
 refine ⟨by omega,by omega,fun h4 => ⟨by omega,by omega,fun h5 => ⟨by omega,by omega,?_⟩,fun h5 => ⟨by omega,by omega,?_⟩⟩,fun h4 => ⟨by omega,by omega,?_⟩⟩
 ·rw [e1,if_pos ⟨h4,h5⟩]
 ·rw [e1,if_neg fun h => h5 h.2]
 rw [e1,if_neg fun h => h.1 h4]
noncomputable def CJ : Ay := Dq JS (DQ Fx) TI (fun _ _ _ => True) fun r l d => if BS r l = 0 then (if 0 <= d /\ d <= 100000 then .tup (.cons (Ug (Dh r (D1 l).2 (Bv (D1 l) d))) (.cons (.int .i64 0) .nil)) else .tup (.cons (.agg (.cons .nils (.cons .nils (.cons .nils (.cons .nils .nil))))) (.cons (.int .i64 2) .nil))) else .tup (.cons (.agg (.cons .nils (.cons .nils (.cons .nils (.cons .nils .nil))))) (.cons (.int .i64 (BS r l)) .nil))
theorem Lj : Ai Tryz.prog G 52 CJ := by
 refine Vl (S := [(87,Ht),(89,NN),(88,Sd),(59,HP)]) (I := []) mixed (.cons SH (.cons Wh (.cons Xf (.cons Qs .nil)))) .nil Tryz.func52 c52 fun r l d hp hw => ?_
 simp only [Nat.reduceSub,Nat.reducePow,go_sem] at hw
 obtain ⟨w1,w2⟩ := hw
 have e0 : ∀ {x y : Ae},BS r l = 0 -> (if BS r l = 0 then x else y) = x := fun h => if_pos h
 by_cases h0 : BS r l = 0
 ·have f0 : (BS r l = 0) = True := eq_true h0
  obtain ⟨a1,a2,a3,_⟩ := Dn h0
  have a4 := MK l
  have a5 : ∀ i,i < (D1 l).1 -> DG r ((D1 l).2 i) := fun i hi => by
   obtain ⟨k,k1,_,k2⟩ := Gp l i hi
   rw [k2]; exact a3 k k1
  have a6 : ((Bb l l.1).length <= 9223372036854775807) = True := eq_true (by have : (D1 l).1 <= l.1 := a4; have : (Bb l l.1).length <= l.1 := this; omega)
  have a7 : ((Bb l l.1).length,fun i => lD (Bb l l.1) i) = D1 l := rfl
  by_cases hd : 0 <= d /\ d <= 100000
  ·have fd : Ek d 0 100000 = true := AF hd
   have fd2 : (0 <= d /\ d <= 100000) = True := eq_true hd
   simp only [A9,X9,Ht,HP,NN,Sd,fd,fd2,a7,Ug,h0,w1,w2,↓reduceIte,reduceCtorEq,Nat.reduceEqDiff,Nat.reduceAdd,Nat.reduceSub,Nat.reduceLT,Nat.reducePow,go_sem]
   have a8 : (D1 l).1 <= 60 := by omega
   exact ⟨a2,fun i hi => by have := (a3 i hi).heirs; omega,a1,a8,a5,fun _ _ => ⟨rfl,fun _ _ _ _ => rfl,rfl,fun _ _ _ _ => rfl,rfl,fun _ _ _ _ => rfl,rfl,fun _ _ _ _ => rfl⟩⟩
  have fd : Ek d 0 100000 = false := An hd
  have fd2 : (0 <= d /\ d <= 100000) = False := eq_false hd
  simp only [A9,X9,Ht,HP,fd,fd2,h0,w1,w2,↓reduceIte,reduceCtorEq,Nat.reduceEqDiff,Nat.reduceAdd,Nat.reduceSub,Nat.reducePow,go_sem]
 have f0 : (BS r l = 0) = False := eq_false h0
 simp only [A9,X9,Ht,f0,w1,w2,↓reduceIte,reduceCtorEq,Nat.reduceEqDiff,Nat.reduceAdd,Nat.reduceSub,Nat.reducePow,go_sem]
end Go.Proofs.YtlieoghhkioflaaGreat
namespace Go.Proofs.YtlieoghhkioflaaGreat
variable {r : Ro}
abbrev Sz := Nat × (Nat -> Ho)
def Gw (l : Sz) (m w : Int) : Sz := if 0 < l.1 /\ (l.2 (l.1 - 1)).who = w then (l.1,fun i => if i = l.1 - 1 then ⟨(l.2 (l.1 - 1)).who,⟨(l.2 (l.1 - 1)).turn.fro,m + 1⟩⟩ else l.2 i) else (l.1 + 1,fun i => if i < l.1 then l.2 i else ⟨w,⟨m,m + 1⟩⟩)
def As (f : Nat -> Int) : Nat -> Sz
 | 0 => (0,fun _ => ⟨0,⟨0,0⟩⟩)
 | m + 1 => Gw (As f m) m (f m)
theorem Qc (l : Sz) (m w : Int) : (Gw l m w).1 <= l.1 + 1 := by
 unfold Gw; split
 ·exact Nat.le_succ _
 exact Nat.le_refl _
theorem C0 (f : Nat -> Int) : ∀ m,(As f m).1 <= m
 | 0 => Nat.le_refl _
 | m + 1 => by have := C0 f m; have := Qc (As f m) m (f m); rw [As]; omega
def CG (f : Nat -> Int) (n : Nat) (w : Int) : Int := D6 (fun m => decide (f m = w)) n
abbrev UC := Nat × (Nat -> Hs)
def B6 (c : Int -> Int) : Nat -> UC
 | 0 => (0,fun _ => ⟨0,0⟩)
 | k + 1 => if 0 < c k then ((B6 c k).1 + 1,fun i => if i < (B6 c k).1 then (B6 c k).2 i else ⟨k,c k⟩) else B6 c k
theorem Mk (c : Int -> Int) : ∀ k,(B6 c k).1 <= k
 | 0 => Nat.le_refl _
 | k + 1 => by
  have := Mk c k
  rw [B6]; split
  ·show (B6 c k).1 + 1 <= k + 1; omega
  omega
def PR (b : Bk) (n : Nat) : Prop := ∀ m,m < n -> 0 <= b.ow.2 m /\ b.ow.2 m <= 9999
theorem R7 (hr : Fq r) : PR (Ud r) (AE r) := fun m hm => by
 show 0 <= K5 r m /\ K5 r m <= 9999
 have hl := hr.2.2.2.2.2
 have hN : (AE r : Int) = 1440 * r.days := by have := hr.1; unfold AE; omega
 have hn := hr.2.2.1
 rcases A7 (fun i => (m : Int) < (r.holds.2 i).turn.til) r.holds.1 with ⟨h1,_,_⟩ | ⟨_,h2⟩
 ·have := hr.2.2.2.2.1 _ h1
  exact ⟨this.1,this.2.1⟩
 have h3 := h2 (r.holds.1 - 1) (by omega)
 have h4 := Lk r (r.holds.1 - 1)
 rw [show r.holds.1 - 1 + 1 = r.holds.1 by omega] at h4
 omega
theorem Xy {L : List Hr} (h : ∀ i,i < L.length -> 0 <= (hl L i).who /\ (hl L i).who <= 9999) (i : Nat) : 0 <= (hl L i).who /\ (hl L i).who <= 9999 := by
 rcases Nat.lt_or_ge i L.length with hi | hi
 ·exact h i hi
 have : hl L i = ⟨0,0⟩ := by unfold hl; rw [List.getD_eq_getElem?_getD,List.getElem?_eq_none hi]; rfl
 rw [this]; exact ⟨by decide,by decide⟩
theorem SU {b : Bk} {n : Nat} {x : De} (hx : DG r x) (h : PR b n) : PR (K7 b x) n := fun m hm => by
 obtain ⟨_,_,_,_,h5,_,h7⟩ := hx
 have h0 := h m hm
 unfold K7
 split
 ·rename_i hk
  have hh : EZ x.fro x.heirs := by
   rcases h7 with ⟨h,_⟩ | ⟨h,_⟩ | ⟨h,h7,_⟩ | ⟨h,_⟩ <;> first | exact h7 | omega
  show 0 <= (if b.ow.2 m = x.fro then _ else b.ow.2 m) /\ (if b.ow.2 m = x.fro then _ else b.ow.2 m) <= 9999
  split
  ·exact Xy (fun i hi => by have := (La (b := b) hh h5).2.2 i hi; exact ⟨this.1,this.2.1⟩) _
  exact h0
 split
 ·rename_i hk
  have ht : 1 <= x.tow /\ x.tow <= 9999 := by
   unfold EY at h7
   rcases h7 with ⟨h,h7,_⟩ | ⟨h,_⟩ | ⟨h,_⟩ | ⟨h,_⟩ <;> omega
  show 0 <= (if Fh x m then x.tow else b.ow.2 m) /\ (if Fh x m then x.tow else b.ow.2 m) <= 9999
  split <;> omega
 split
 ·show 0 <= (if Fh x m then 0 else b.ow.2 m) /\ (if Fh x m then 0 else b.ow.2 m) <= 9999
  split <;> omega
 split
 ·exact h0
 exact h0
theorem Jj {l : Nat -> De} (hr : Fq r) : ∀ k,(∀ i,i < k -> DG r (l i)) -> PR (Dh r l k) (AE r)
 | 0,_ => R7 hr
 | k + 1,h => by
  have ih := Jj hr k fun i hi => h i (by omega)
  rw [Dh,FN]; split
  ·exact SU (h k (by omega)) ih
  exact ih
theorem QX (f : Nat -> Int) (m : Nat) (w : Int) : CG f (m + 1) w = CG f m w + if f m = w then 1 else 0 := by
 unfold CG
 rw [D6]
 by_cases e : f m = w
 ·rw [if_pos (decide_eq_true e),if_pos e]; omega
 rw [if_neg (by simpa using e),if_neg e]; omega
theorem Ni (f : Nat -> Int) (m : Nat) (w : Int) : 0 <= CG f m w /\ CG f m w <= m := by
 have := FQ (fun q => decide (f q = w)) m
 unfold CG; omega
end Go.Proofs.YtlieoghhkioflaaGreat
namespace Go.Proofs.YtlieoghhkioflaaGreat
open Go Go.RowKit
variable {G : Nat -> Option (Nat × (Nat -> Ae))}
def G1 (l : Sz) : Ae := .view 3 l.1 fun i j => (l.2 i).c j
noncomputable def V0 : Ay := (Aj (Af (DQ JT) (Af TI (Af TI AV))) (fun a => a.1.1 <= 30000 /\ 0 <= a.2.1 /\ a.2.1 <= 30000) fun a => G1 (Gw a.1 a.2.1 a.2.2.1)).mine 47
theorem Yz : Cr Tryz.prog G 53 0 V0 := by
 refine feT (S := []) (I := []) (X := []) (N := []) (C := []) (R := JT) (t := Af TI (Af TI AV)) mixed .nil .nil .nil Tryz.func53 c53 fun a b hp hw hn => ?_
 obtain ⟨n,f⟩ := a
 obtain ⟨m,w,u⟩ := b
 obtain ⟨h1,h2,h3⟩ := hp
 simp only at h1 h2 h3
 simp only [a53,Af,AV,↓reduceIte,reduceCtorEq,Nat.reduceEqDiff,Nat.reduceAdd,Nat.reduceSub,Nat.reduceLeDiff,Nat.reduceLT,Nat.reducePow,go_sem]
 have flat : ∀ (x : Ho) j,j < 3 -> Dp (x.c j) = true := fun x j hj => by
  rcases (by omega : j = 0 \/ j = 1 \/ j = 2) with rfl | rfl | rfl <;> rfl
 -- one more
 have app : ∀ (R : Sz),R = (n + 1,fun i => if i < n then f i else ⟨w,⟨m,m + 1⟩⟩) -> ∀ i,i < n + 1 -> ∀ j,j < 3 -> (R.2 i).c j = if i < n then (f i).c j else Aq (Aq (.cons (.cons (.int .i64 w) (.cons (.int .i64 m) (.cons (.int .i64 (m + 1)) .nil))) .nil) (i - n)) j := fun R hR i hi j hj => by
  subst hR
  show (if i < n then f i else ⟨w,⟨m,m + 1⟩⟩ : Ho).c j = _
  by_cases e : i < n
  ·rw [if_pos e,if_pos e]
  obtain rfl : i = n := by omega
  rw [if_neg e,if_neg e,Nat.sub_self]
  rcases (by omega : j = 0 \/ j = 1 \/ j = 2) with rfl | rfl | rfl <;> rfl
 have fin : ∀ {bx : Bx} (R : Sz) (n' : Nat) (g : Nat -> Nat -> Ae),R.1 = n' -> Ab bx (.n 0) = some (.row 47 3 n' g) -> (∀ i,i < n' -> ∀ j,j < 3 -> (R.2 i).c j = g i j) -> Ax (G1 R) (.view 3 n' g) /\ ∃ b k n_1 c,(Ae.own (.n 0) = .own b /\ Ab bx b = some (.row 47 k n_1 c) \/ False /\ ∃ x,n_1 <= x /\ Ab bx b = some (.row 47 k x c)) /\ ∃ x,G1 R = .view k n_1 x /\ ∀ i,i < n_1 -> ∀ j,j < k -> x i j = c i j /\ Dp (c i j) = true := fun {bx} R n' g h1 h2 h3 => by
  subst h1
  exact ⟨.inr ⟨_,rfl,fun i hi j hj => by show Ax ((R.2 i).c j) (g i j); rw [h3 i hi j hj]; exact BB _⟩,.n 0,3,R.1,g,.inl ⟨rfl,h2⟩,_,rfl,fun i hi j hj => ⟨h3 i hi j hj,by rw [<- h3 i hi j hj]; exact flat _ _ hj⟩⟩
 have wm : IntKind.i64.wrap (m + 1) = m + 1 := AU (by omega) (by omega)
 rw [wm]
 refine ⟨fun h4 => ?_,fun h4 => ?_⟩
 ·rw [SB (by omega) (by omega),Int.toNat_natCast]
  refine ⟨by omega,by omega,fun h5 => ⟨by omega,by omega,?_⟩,fun h5 => ⟨by omega,by omega,?_⟩⟩
  ·have hR : Gw (n,f) m w = (n,fun i => if i = n - 1 then ⟨(f (n - 1)).who,⟨(f (n - 1)).turn.fro,m + 1⟩⟩ else f i) := if_pos ⟨by show 0 < n; omega,h5⟩
   refine fin _ _ _ (by rw [hR]) rfl fun i hi j hj => ?_
   rw [hR]
   show (if i = n - 1 then ⟨(f (n - 1)).who,⟨(f (n - 1)).turn.fro,m + 1⟩⟩ else f i : Ho).c j = _
   by_cases e : i = n - 1
   ·rw [if_pos e,e]
    rcases (by omega : j = 0 \/ j = 1 \/ j = 2) with rfl | rfl | rfl
    ·rw [if_neg (by omega)]; rfl
    ·rw [if_neg (by omega)]; rfl
    rw [if_pos ⟨rfl,by omega,by omega⟩]; rfl
   rw [if_neg e,if_neg fun h => e h.1]
  have hR : Gw (n,f) m w = (n + 1,fun i => if i < n then f i else ⟨w,⟨m,m + 1⟩⟩) := if_neg fun h => h5 h.2
  exact fin _ _ _ (by rw [hR]) rfl (app _ hR)
 have hR : Gw (n,f) m w = (n + 1,fun i => if i < n then f i else ⟨w,⟨m,m + 1⟩⟩) := if_neg fun h => by have : 0 < n := h.1; omega
 exact ⟨by omega,by omega,fin _ _ _ (by rw [hR]) rfl (app _ hR)⟩
theorem Uy {P : Program} {G : Nat -> Option (Nat × (Nat -> Ae))} {id : FuncId} {α β γ : Type} {t1 : VT α} {t2 : VT β} {t3 : VT γ} {pre : α -> β -> γ -> Prop} {res : α -> β -> γ -> Ae} (h : Ai P G id (Aj (Af t1 (Af t2 (Af t3 AV))) (fun a => pre a.1 a.2.1 a.2.2.1) fun a => res a.1 a.2.1 a.2.2.1)) : Ai P G id (Dq t1 t2 t3 pre res) := by
 refine ⟨h.ent,fun A w vs cs hG hr hp => ?_⟩
 match vs,hr,hp with
 | [a,b,c],hr,hp => exact h.run A w [a,b,c] cs hG hr ⟨⟨hp.1,hp.2.1,hp.2.2.1,trivial⟩,hp.2.2.2⟩
theorem LO.eta {b : Bk} {n : Nat} (h : LO b n) : (⟨(n,fun i => b.ow.2 i),(n,fun i => b.le.2 i),(n,fun i => b.un.2 i),(10000,fun i => b.de.2 i)⟩ : Bk) = b := by
 obtain ⟨b1,b2,b3,b4⟩ := h
 obtain ⟨⟨_,_⟩,⟨_,_⟩,⟨_,_⟩,⟨_,_⟩⟩ := b
 simp only at b1 b2 b3 b4
 subst b1 b2 b4; subst b3; rfl
noncomputable def GZ (r : Ro) (l : J3) (d : Int) : Bk := Dh r (D1 l).2 (Bv (D1 l) d)
noncomputable def Fd : Ay := Dq JS (DQ Fx) TI (fun r l _ => F4 r l) fun r l d => if BS r l = 0 then (if 0 <= d /\ d <= 100000 then .tup (.cons (G1 (As (GZ r l d).ow.2 (AE r))) (.cons (G1 (As (fun m => Fy (GZ r l d) m d) (AE r))) (.cons (.int .i64 0) .nil))) else .tup (.cons .nils (.cons .nils (.cons (.int .i64 2) .nil)))) else .tup (.cons .nils (.cons .nils (.cons (.int .i64 (BS r l)) .nil)))
theorem Rm : Ai Tryz.prog G 17 Fd := by
 refine Uy (Ij (S := [(52,CJ),(54,H8)]) (I := []) (X := [(53,0,V0)]) (N := []) (C := []) (t := Af JS (Af (DQ Fx) (Af TI AV))) mixed (.cons Lj (.cons QJ .nil)) .nil (.cons Yz .nil) Tryz.func17 c17 fun a hp hw => ?_)
 obtain ⟨r,l,d,u⟩ := a
 simp only [Af,AV,reduceCtorEq,Nat.reduceSub,Nat.reducePow,go_sem] at hw
 obtain ⟨w1,w2⟩ := hw
 by_cases h0 : BS r l = 0
 ·have f0 : (BS r l = 0) = True := eq_true h0
  by_cases hd : 0 <= d /\ d <= 100000
  ·have fd : (0 <= d /\ d <= 100000) = True := eq_true hd
   obtain ⟨k1,k2,k3,k4⟩ : LO (GZ r l d) (AE r) := Dx r _ _
   have hbd : Dh r (D1 l).2 (Bv (D1 l) d) = GZ r l d := rfl
   simp only [Yg,Af,AV,CJ,Ug,hbd,k1,k2,k3,k4,f0,fd,w1,w2,↓reduceIte,reduceCtorEq,Nat.reduceEqDiff,Nat.reduceAdd,Nat.reduceSub,Nat.reduceLeDiff,Nat.reduceLT,Nat.reducePow,go_sem]
   have hr := (Dn h0).1
   have hN2 : AE r <= 23040 := by have := hr.1; have := hr.2.1; unfold AE; omega
   intro _ _ _
   refine FL (ι := Nat) (fun m => m <= AE r) (fun m => AE r - m) [2,9] (fun m => [(11,.own (.n 2)),(12,.own (.n 3)),(13,.int .i64 m)]) (fun m => [(2,.row 47 3 (As (GZ r l d).ow.2 m).1 fun i j => ((As (GZ r l d).ow.2 m).2 i).c j),(3,.row 47 3 (As (fun m => Fy (GZ r l d) m d) m).1 fun i j => ((As (fun m => Fy (GZ r l d) m d) m).2 i).c j)]) 2 0 (Nat.zero_le _) (by
    simp only [As,↓reduceIte,reduceCtorEq,Nat.reduceEqDiff,Nat.reduceAdd,Nat.reduceLT,go_sem]) fun m hm => ?_
   have q1 := C0 (GZ r l d).ow.2 m
   have q2 := C0 (fun m => Fy (GZ r l d) m d) m
   rcases Nat.lt_or_ge m (AE r) with hlt | hge
   ·have fm : ((m : Int) < (AE r : Int)) = True := eq_true (by omega)
    simp only [H8,V0,Aj,Af,AV,fm,G1,Prod.eta,Int.toNat_natCast,↓reduceIte,reduceCtorEq,Nat.reduceEqDiff,Nat.reduceAdd,Nat.reduceSub,Nat.reduceLeDiff,Nat.reducePow,go_sem]
    have hb : LO (GZ r l d) (AE r) := Dx r _ _
    simp only [hb.eta]
    refine fun _ => ⟨by omega,by omega,by omega,by omega,⟨AE r,hb,by omega,by omega,hN2⟩,by omega,by omega,by omega,?_⟩
    refine Ad (m + 1) (by omega) (by omega) ?_
    simp only [As,↓reduceIte,reduceCtorEq,Nat.reduceEqDiff,Nat.reduceLT,go_sem]
    rw [BV (by omega)]
    try exact ⟨rfl,rfl,fun _ _ _ _ => BB _,rfl,fun _ _ _ _ => BB _⟩
   obtain rfl : m = AE r := by omega
   have fm : ((AE r : Int) < (AE r : Int)) = False := eq_false (by omega)
   simp only [fm,G1,↓reduceIte,reduceCtorEq,Nat.reduceEqDiff,Nat.reduceAdd,Nat.reduceSub,Nat.reduceLeDiff,Nat.reducePow,go_sem]
  have fd : (0 <= d /\ d <= 100000) = False := eq_false hd
  simp only [Yg,Af,AV,CJ,f0,fd,w1,w2,↓reduceIte,reduceCtorEq,Nat.reduceEqDiff,Nat.reduceAdd,Nat.reduceSub,Nat.reduceLT,Int.reduceBNe,Nat.reducePow,go_sem]
 have f0 : (BS r l = 0) = False := eq_false h0
 simp only [Yg,Af,AV,CJ,f0,w1,w2,↓reduceIte,reduceCtorEq,Nat.reduceEqDiff,Nat.reduceAdd,Nat.reduceSub,Nat.reduceLT,Nat.reducePow,go_sem]
def L8 (l : UC) : Ae := .view 2 l.1 fun i j => (l.2 i).c j
noncomputable def E9 : Ay := Dq JS (DQ Fx) TI (fun r l _ => F4 r l) fun r l d => if BS r l = 0 then (if 0 <= d /\ d <= 100000 then .tup (.cons (L8 (B6 (CG (GZ r l d).ow.2 (AE r)) 10000)) (.cons (.int .i64 0) .nil)) else .tup (.cons .nils (.cons (.int .i64 2) .nil))) else .tup (.cons .nils (.cons (.int .i64 (BS r l)) .nil))
theorem Qi : Ai Tryz.prog G 19 E9 := by
 refine Vl (S := [(52,CJ)]) (I := []) mixed (.cons Lj .nil) .nil Tryz.func19 c19 fun r l d hp hw => ?_
 simp only [Nat.reduceSub,Nat.reducePow,go_sem] at hw
 obtain ⟨w1,w2⟩ := hw
 by_cases h0 : BS r l = 0
 ·have f0 : (BS r l = 0) = True := eq_true h0
  by_cases hd : 0 <= d /\ d <= 100000
  ·have fd : (0 <= d /\ d <= 100000) = True := eq_true hd
   obtain ⟨k1,k2,k3,k4⟩ : LO (GZ r l d) (AE r) := Dx r _ _
   have hbd : Dh r (D1 l).2 (Bv (D1 l) d) = GZ r l d := rfl
   simp only [A9,Yd,CJ,Ug,hbd,k1,k2,k3,k4,f0,fd,w1,w2,↓reduceIte,reduceCtorEq,Nat.reduceEqDiff,Nat.reduceAdd,Nat.reduceSub,Nat.reduceLeDiff,Nat.reduceLT,Int.reduceToNat,Int.reduceLE,Int.reduceMul,Nat.reducePow,go_sem]
   obtain ⟨hr,_,a3,_⟩ := Dn h0
   have hN2 : AE r <= 23040 := by have := hr.1; have := hr.2.1; unfold AE; omega
   have ho : PR (GZ r l d) (AE r) := Jj hr _ fun i hi => by
    have hu : Bv (D1 l) d <= (D1 l).1 := by have := A7 (fun i => d < ((D1 l).2 i).day) (D1 l).1; unfold Bv; omega
    obtain ⟨k,k1,_,k2⟩ := Gp l i (by omega)
    rw [k2]; exact a3 k k1
   intro _ _ _
   have hNw : (AE r <= 9223372036854775807) = True := eq_true (by omega)
   generalize GZ r l d = b at *
   refine AJ (ι := Nat) (fun m => m <= AE r) (fun m => AE r - m) [8,10] (fun m => [(11,.int .i64 m)]) (fun m => [(2,.row 3 1 10000 fun w _ => .int .i64 (CG b.ow.2 m w))]) 0 (Nat.zero_le _) (by
    simp only [↓reduceIte,reduceCtorEq,Nat.reduceEqDiff,Nat.reduceLT,go_sem]
    intro i hi j hj
    obtain rfl : j = 0 := by omega
    rfl) fun m hm => ?_
   rcases Nat.lt_or_ge m (AE r) with hlt | hge
   ·have fm : ((m : Int) < (AE r : Int)) = True := eq_true (by omega)
    have h1 := ho m hlt
    have h2 := Ni b.ow.2 m (b.ow.2 m)
    have h3 : ((b.ow.2 m).toNat : Int) = b.ow.2 m := by omega
    simp only [fm,h3,hNw,Int.toNat_natCast,↓reduceIte,reduceCtorEq,Nat.reduceEqDiff,Nat.reduceAdd,Nat.reduceSub,Nat.reduceLeDiff,Nat.reducePow,go_sem]
    repeat (with_reducible refine And.intro (by omega) ?_)
    refine Ad (m + 1) (by omega) (by omega) ?_
    simp only [↓reduceIte,reduceCtorEq,Nat.reduceEqDiff,Nat.reduceLT,go_sem]
    rw [BV (by omega),AU (by omega) (by omega)]
    refine ⟨rfl,Gy fun i hi => ?_⟩
    rw [QX]
    by_cases e : i = (b.ow.2 m).toNat
    ·rw [if_pos (by omega),if_pos e,show (i : Int) = b.ow.2 m by omega]
    rw [if_neg (by omega),if_neg e,Int.add_zero]
   obtain rfl : m = AE r := by omega
   have fm : ((AE r : Int) < (AE r : Int)) = False := eq_false (by omega)
   simp only [fm,hNw,↓reduceIte,reduceCtorEq,Nat.reduceEqDiff,Nat.reduceAdd,Nat.reduceSub,Nat.reduceLeDiff,Nat.reducePow,go_sem]
   refine FL (ι := Nat) (fun k => k <= 10000) (fun k => 10000 - k) [10] (fun k => [(12,.own (.n 3)),(13,.int .i64 k)]) (fun k => [(3,.row 99 2 (B6 (CG b.ow.2 (AE r)) k).1 fun i j => ((B6 (CG b.ow.2 (AE r)) k).2 i).c j)]) 1 0 (Nat.zero_le _) (by
    simp only [B6,↓reduceIte,reduceCtorEq,Nat.reduceEqDiff,Nat.reduceAdd,Nat.reduceLT,go_sem]) fun k hk => ?_
   have hl := Mk (CG b.ow.2 (AE r)) k
   rcases Nat.lt_or_ge k 10000 with hk1 | hk1
   ·have fk : ((k : Int) <= 9999) = True := eq_true (by omega)
    simp only [fk,Int.toNat_natCast,↓reduceIte,reduceCtorEq,Nat.reduceEqDiff,Nat.reduceAdd,Nat.reduceSub,Nat.reduceLeDiff,Nat.reduceLT,Nat.reducePow,go_sem]
    refine ⟨by omega,by omega,fun h4 => ⟨by omega,by omega,by omega,by omega,Ad (k + 1) (by omega) (by omega) ?_⟩,fun h4 => Ad (k + 1) (by omega) (by omega) ?_⟩
    ·have e : B6 (CG b.ow.2 (AE r)) (k + 1) = ((B6 (CG b.ow.2 (AE r)) k).1 + 1,fun i => if i < (B6 (CG b.ow.2 (AE r)) k).1 then (B6 (CG b.ow.2 (AE r)) k).2 i else ⟨k,CG b.ow.2 (AE r) k⟩) := if_pos h4
     simp only [e,↓reduceIte,reduceCtorEq,Nat.reduceEqDiff,Nat.reduceLT,go_sem]
     rw [BV (by omega)]
     refine ⟨rfl,fun i hi j hj => ?_⟩
     by_cases e2 : i < (B6 (CG b.ow.2 (AE r)) k).1
     ·rw [if_pos e2,if_pos e2]; exact BB _
     rw [if_neg e2,if_neg e2,show i - (B6 (CG b.ow.2 (AE r)) k).1 = 0 by omega]
     rcases (by omega : j = 0 \/ j = 1) with rfl | rfl <;> exact BB _
    have e : B6 (CG b.ow.2 (AE r)) (k + 1) = B6 (CG b.ow.2 (AE r)) k := if_neg h4
    simp only [e,↓reduceIte,reduceCtorEq,Nat.reduceEqDiff,Nat.reduceLT,go_sem]
    rw [BV (by omega)]
    try exact ⟨rfl,fun _ _ _ _ => BB _⟩
   obtain rfl : k = 10000 := by omega
   simp only [L8,↓reduceIte,reduceCtorEq,Nat.reduceEqDiff,Nat.reduceAdd,Nat.reduceSub,Int.reduceLE,go_sem]
  have fd : (0 <= d /\ d <= 100000) = False := eq_false hd
  simp only [A9,Yd,CJ,f0,fd,w1,w2,↓reduceIte,reduceCtorEq,Nat.reduceEqDiff,Nat.reduceAdd,Nat.reduceSub,Nat.reduceLT,Int.reduceBNe,Nat.reducePow,go_sem]
 have f0 : (BS r l = 0) = False := eq_false h0
 simp only [A9,Yd,CJ,f0,w1,w2,↓reduceIte,reduceCtorEq,Nat.reduceEqDiff,Nat.reduceAdd,Nat.reduceSub,Nat.reduceLT,Int.reduceToNat,Int.reduceLE,Int.reduceMul,Nat.reducePow,go_sem]
noncomputable def Pt : Ay := IV JS (DQ Fx) TI TI (fun r l _ _ => F4 r l) fun r l d m => if BS r l = 0 then (if 0 <= d /\ d <= 100000 then (if 0 <= m /\ m <= (AE r : Int) - 1 then .tup (.cons (.int .i64 ((GZ r l d).ow.2 m.toNat)) (.cons (.int .i64 (Fy (GZ r l d) m.toNat d)) (.cons (.int .i64 0) .nil))) else .tup (.cons (.int .i64 0) (.cons (.int .i64 0) (.cons (.int .i64 2) .nil)))) else .tup (.cons (.int .i64 0) (.cons (.int .i64 0) (.cons (.int .i64 2) .nil)))) else .tup (.cons (.int .i64 0) (.cons (.int .i64 0) (.cons (.int .i64 (BS r l)) .nil)))
theorem Y3 : Ai Tryz.prog G 21 Pt := by
 refine fn4 (S := [(52,CJ),(54,H8),(59,HP)]) (I := []) mixed (.cons Lj (.cons QJ (.cons Qs .nil))) .nil Tryz.func21 c21 fun r l d m hp hw => ?_
 simp only [Nat.reduceSub,Nat.reducePow,go_sem] at hw
 obtain ⟨w1,w2⟩ := hw
 by_cases h0 : BS r l = 0
 ·have f0 : (BS r l = 0) = True := eq_true h0
  by_cases hd : 0 <= d /\ d <= 100000
  ·have fd : (0 <= d /\ d <= 100000) = True := eq_true hd
   obtain ⟨k1,k2,k3,k4⟩ : LO (GZ r l d) (AE r) := Dx r _ _
   have hbd : Dh r (D1 l).2 (Bv (D1 l) d) = GZ r l d := rfl
   have hr := (Dn h0).1
   have hN2 : AE r <= 23040 := by have := hr.1; have := hr.2.1; unfold AE; omega
   have hN1 : IntKind.i64.wrap ((AE r : Int) - 1) = (AE r : Int) - 1 := AU (by omega) (by omega)
   by_cases hm : 0 <= m /\ m <= (AE r : Int) - 1
   ·have fm : Ek m 0 ((AE r : Int) - 1) = true := AF hm
    have fm2 : (0 <= m /\ m <= (AE r : Int) - 1) = True := eq_true hm
    simp only [A9,XH,CJ,H8,HP,Ug,hbd,k1,k2,k3,k4,f0,fd,hN1,fm,fm2,w1,w2,↓reduceIte,reduceCtorEq,Nat.reduceEqDiff,Nat.reduceAdd,Nat.reduceSub,Nat.reduceLeDiff,Nat.reduceLT,Nat.reducePow,go_sem]
    have hb : LO (GZ r l d) (AE r) := Dx r _ _
    rw [hb.eta]
    exact fun _ _ _ _ => ⟨by omega,by omega,⟨AE r,hb,by omega,by omega,hN2⟩,rfl⟩
   have fm : Ek m 0 ((AE r : Int) - 1) = false := An hm
   have fm2 : (0 <= m /\ m <= (AE r : Int) - 1) = False := eq_false hm
   simp only [A9,XH,CJ,H8,HP,Ug,hbd,k1,k2,k3,k4,f0,fd,hN1,fm,fm2,w1,w2,↓reduceIte,reduceCtorEq,Nat.reduceEqDiff,Nat.reduceAdd,Nat.reduceSub,Nat.reduceLeDiff,Nat.reduceLT,Nat.reducePow,go_sem]
  have fd : (0 <= d /\ d <= 100000) = False := eq_false hd
  simp only [A9,XH,CJ,f0,fd,w1,w2,↓reduceIte,reduceCtorEq,Nat.reduceEqDiff,Nat.reduceAdd,Nat.reduceSub,Nat.reduceLT,Int.reduceBNe,Nat.reducePow,go_sem]
 have f0 : (BS r l = 0) = False := eq_false h0
 simp only [A9,XH,CJ,f0,w1,w2,↓reduceIte,reduceCtorEq,Nat.reduceEqDiff,Nat.reduceAdd,Nat.reduceSub,Nat.reduceLeDiff,Nat.reduceLT,Int.reduceNeg,Int.reduceSub,Nat.reducePow,go_sem]
end Go.Proofs.YtlieoghhkioflaaGreat
