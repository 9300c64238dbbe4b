/- Deeds: the reference's deeds in new memory, and in order. No condition. -/
import Derived.Test.YtlieoghhkioflaaGreatDr1
import Derived.Test.YtlieoghhkioflaaGreatDin
set_option linter.unusedSimpArgs false
set_option linter.unusedVariables false
set_option maxRecDepth 100000
namespace Go.Proofs.YtlieoghhkioflaaGreat
open Go Go.RowKit
variable {x y : De}
variable {G : Nat -> Option (Nat × (Nat -> Ae))}
theorem Fp (x : De) : ∀ b,b < 9 -> Aq x.L b = x.c b := fun b hb => by
 rcases (by omega : b = 0 \/ b = 1 \/ b = 2 \/ b = 3 \/ b = 4 \/ b = 5 \/ b = 6 \/ b = 7 \/ b = 8) with rfl | rfl | rfl | rfl | rfl | rfl | rfl | rfl | rfl <;> rfl
theorem BB (v : Ae) : Ax v v := of_eq_true (JG v)
theorem TS (C : Nat -> Nat -> Ae) (L : Ae) (j k : Nat) (h : ∀ b,b < k -> Aq L b = C j b) : ∀ i,i < j + 1 -> ∀ b,b < k -> Ax (C i b) (if i < j then C i b else Aq (Aq (.cons L .nil) (i - j)) b) := fun i hi b hb => by
 by_cases e : i < j
 ·rw [if_pos e]; exact BB _
 obtain rfl : i = j := by omega
 rw [if_neg e,Nat.sub_self]
 show Ax _ (Aq L b)
 rw [h b hb]; exact BB _
noncomputable def Hj : Ay := Dw O6 (fun x => x.heirs.1 <= 12) fun x => .agg x.L
theorem Ol : Ai Tryz.prog G 28 Hj := by
 refine UO (S := []) (I := []) mixed .nil .nil Tryz.func28 c28 fun x hp hw => ?_
 simp only [Nat.reduceSub,Nat.reducePow,go_sem] at hw
 simp only [A9,Z2,hw,↓reduceIte,reduceCtorEq,Nat.reduceEqDiff,Nat.reduceAdd,Nat.reduceSub,Nat.reduceLT,Nat.reducePow,go_sem]
 exact ⟨by omega,fun i hi j hj => by rw [if_neg (Nat.not_lt_zero i)]; exact BB _⟩
noncomputable def FU : Ay := Dw (DQ Fx) (fun l => l.1 <= 80 /\ ∀ i,i < l.1 -> (l.2 i).heirs.1 <= 12) fun l => .view 9 l.1 fun i j => (l.2 i).c j
theorem Re : Ai Tryz.prog G 15 FU := by
 refine UO (S := [(28,Hj)]) (I := []) mixed (.cons Ol .nil) .nil Tryz.func15 c15 fun l hp hw => ?_
 simp only [Nat.reduceSub,Nat.reducePow,go_sem] at hw
 simp only [A9,Z8,go_sem]
 refine FL (ι := Nat) (fun j => j <= l.1) (fun j => l.1 - j) [0] (fun j => [(3,.own (.n 0)),(4,.int .i64 j)]) (fun j => [(0,.row 56 9 j fun i b => (l.2 i).c b)]) 1 0 (by omega) (by simp only [↓reduceIte,reduceCtorEq,Nat.reduceEqDiff,Nat.reduceLT,go_sem]; try rfl) fun j hj => ?_
 simp only [hw,Hj,↓reduceIte,reduceCtorEq,Nat.reduceEqDiff,Nat.reduceAdd,Nat.reduceSub,Nat.reduceLeDiff,Nat.reduceLT,Nat.reducePow,go_sem]
 refine ⟨fun hlt => ⟨by omega,by omega,fun _ => ⟨hp.2 j (by omega),fun _ => ⟨by omega,by omega,Ad (j + 1) (by omega) (by omega) ?_⟩⟩⟩,fun hge => ?_⟩
 ·simp only [↓reduceIte,reduceCtorEq,Nat.reduceEqDiff,Nat.reduceLT,go_sem]
  rw [BV (by omega)]
  exact ⟨rfl,TS (fun i b => (l.2 i).c b) (l.2 j).L j 9 (Fp _)⟩
 obtain rfl : j = l.1 := by omega
 rfl
def Bi (x y : De) : Prop := x.day < y.day \/ x.day = y.day /\ x.id < y.id
instance (x y : De) : Decidable (Bi x y) := by unfold Bi; infer_instance
def de0 : De := ⟨0,0,0,0,0,⟨0,0⟩,0,(0,fun _ => ⟨0,0⟩)⟩
def E0 (x : De) : List De -> List De
 | [] => [x]
 | y :: L => if Bi x y then x :: y :: L else y :: E0 x L
def lD (L : List De) (i : Nat) : De := L.getD i de0
theorem U0 (x : De) (L : List De) (k i : Nat) (hk : k <= L.length) (hi : i < L.length + 1) : lD (L.take k ++ x :: L.drop k) i = if i < k then lD L i else if i = k then x else lD L (i - 1) := by
 unfold lD
 rw [List.getD_eq_getElem?_getD,List.getElem?_append]
 by_cases h1 : i < k
 ·rw [if_pos (by rw [List.length_take]; omega),if_pos h1,List.getElem?_take,if_pos h1,List.getD_eq_getElem?_getD]
 rw [if_neg (by rw [List.length_take]; omega),if_neg h1,List.length_take,Nat.min_eq_left hk]
 by_cases h2 : i = k
 ·subst h2; rw [if_pos rfl,Nat.sub_self]; rfl
 rw [if_neg h2,show i - k = (i - k - 1) + 1 by omega,List.getElem?_cons_succ,List.getElem?_drop,List.getD_eq_getElem?_getD,show k + (i - k - 1) = i - 1 by omega]
theorem Mq {L : List De} {k n : Nat} (hk : 0 < k) (hy : y = lD L (k - 1)) : ∀ i,i < n -> ∀ b,b < 9 -> Ax ((if i < k - 1 then lD L i else if i = k - 1 then x else lD L (i - 1)).c b) (if i = k - 1 /\ 0 <= b /\ b < 9 then Aq x.L b else if i = k /\ 0 <= b /\ b < 9 then Aq y.L b else (if i < k then lD L i else if i = k then x else lD L (i - 1)).c b) := fun i hi b hb => by
 subst hy
 by_cases e1 : i = k - 1
 ·rw [if_neg (show ¬ i < k - 1 by omega),if_pos e1,if_pos ⟨e1,Nat.zero_le _,hb⟩,Fp _ b hb]; exact BB _
 rw [if_neg (show ¬ (i = k - 1 /\ 0 <= b /\ b < 9) from fun h => e1 h.1)]
 by_cases e2 : i = k
 ·rw [if_neg (show ¬ i < k - 1 by omega),if_neg e1,if_pos ⟨e2,Nat.zero_le _,hb⟩,Fp _ b hb,e2]; exact BB _
 rw [if_neg (show ¬ (i = k /\ 0 <= b /\ b < 9) from fun h => e2 h.1)]
 by_cases e3 : i < k - 1
 ·rw [if_pos e3,if_pos (show i < k by omega)]; exact BB _
 rw [if_neg e3,if_neg e1,if_neg (show ¬ i < k by omega),if_neg e2]; exact BB _
noncomputable def Iq (l : J3) (i : Nat) : Bool := A8 (∀ k,k < i -> (l.2 k).id ≠ (l.2 i).id)
noncomputable def Bb (l : J3) : Nat -> List De
 | 0 => []
 | i + 1 => if Iq l i = true then E0 (l.2 i) (Bb l i) else Bb l i
theorem JI (x : De) : ∀ L,(E0 x L).length = L.length + 1
 | [] => rfl
 | y :: L => by
  rw [E0]; split
  ·simp
  simp [JI x L]
theorem HJ (l : J3) : ∀ i,(Bb l i).length <= i
 | 0 => Nat.le_refl _
 | i + 1 => by
  have := HJ l i
  rw [Bb]; split
  ·rw [JI]; omega
  omega
theorem N0 (x : De) : ∀ (L : List De) (k : Nat),k <= L.length -> (∀ i,i < k -> ¬ Bi x (lD L i)) -> (k < L.length -> Bi x (lD L k)) -> E0 x L = L.take k ++ x :: L.drop k
 | [],k,h,_,_ => by
  obtain rfl : k = 0 := by simpa using h
  rfl
 | y :: L,0,_,_,h2 => by
  have : Bi x y := h2 (by simp)
  rw [E0,if_pos this]; rfl
 | y :: L,k + 1,h,h1,h2 => by
  have h3 : ¬ Bi x y := h1 0 (by omega)
  rw [E0,if_neg h3,N0 x L k (by simpa using h) (fun i hi => by have := h1 (i + 1) (by omega); simpa [lD] using this) (fun hk => by have := h2 (by simpa using hk); simpa [lD] using this)]
  rfl
theorem Ja (x : De) : ∀ (L : List De) (y : De),y ∈ E0 x L ↔ y = x \/ y ∈ L
 | [],y => by simp [E0]
 | z :: L,y => by
  rw [E0]; split
  ·simp
  rw [List.mem_cons,Ja x L y,List.mem_cons]; constructor <;> (rintro (h | h | h) <;> simp [h])
theorem GM {z : De} (h1 : Bi x y) (h2 : Bi y z) : Bi x z := by unfold Bi at *; omega
theorem P0 (h : x.id ≠ y.id) : Bi x y \/ Bi y x := by unfold Bi at *; omega
theorem Ii (x : De) : ∀ (L : List De),L.Pairwise Bi -> (∀ y ∈ L,y.id ≠ x.id) -> (E0 x L).Pairwise Bi
 | [],_,_ => by simp [E0]
 | z :: L,h,hx => by
  rw [List.pairwise_cons] at h
  rw [E0]; split
  ·rename_i hb
   rw [List.pairwise_cons,List.pairwise_cons]
   exact ⟨fun y hy => by rcases List.mem_cons.1 hy with rfl | hy; exact hb; exact GM hb (h.1 y hy),h⟩
  rename_i hb
  rw [List.pairwise_cons]
  refine ⟨fun y hy => ?_,Ii x L h.2 fun y hy => hx y (by simp [hy])⟩
  rcases (Ja x L y).1 hy with rfl | hy
  ·exact (P0 (hx z (by simp))).resolve_right hb
  exact h.1 y hy
theorem Fi (l : J3) : ∀ i (y : De),y ∈ Bb l i ↔ ∃ k,k < i /\ Iq l k = true /\ y = l.2 k
 | 0,y => by simp [Bb]
 | i + 1,y => by
  rw [Bb]; split
  ·rename_i hn
   rw [Ja,Fi l i y]
   constructor
   ·rintro (rfl | ⟨k,h1,h2,h3⟩)
    ·exact ⟨i,by omega,hn,rfl⟩
    exact ⟨k,by omega,h2,h3⟩
   rintro ⟨k,h1,h2,rfl⟩
   by_cases e : k = i
   ·subst e; exact .inl rfl
   exact .inr ⟨k,by omega,h2,rfl⟩
  rename_i hn
  rw [Fi l i y]
  constructor
  ·rintro ⟨k,h1,h2,h3⟩; exact ⟨k,by omega,h2,h3⟩
  rintro ⟨k,h1,h2,rfl⟩
  by_cases e : k = i
  ·subst e; exact absurd h2 hn
  exact ⟨k,by omega,h2,rfl⟩
theorem Ea (l : J3) : ∀ i,(Bb l i).Pairwise Bi
 | 0 => List.Pairwise.nil
 | i + 1 => by
  rw [Bb]; split
  ·rename_i hn
   refine Ii _ _ (Ea l i) fun y hy => ?_
   obtain ⟨k,h1,_,rfl⟩ := (Fi l i y).1 hy
   exact A2.1 hn k h1
  exact Ea l i
noncomputable def NN : Ay := Dw (DQ Fx) (fun l => l.1 <= 60 /\ ∀ i,i < l.1 -> (l.2 i).heirs.1 <= 12) fun l => .view 9 (Bb l l.1).length fun i j => (lD (Bb l l.1) i).c j
theorem Wh : Ai Tryz.prog G 89 NN := by
 refine UO (S := [(28,Hj)]) (I := []) mixed (.cons Ol .nil) .nil Tryz.func89 c89 fun l hp hw => ?_
 simp only [Nat.reduceSub,Nat.reducePow,go_sem] at hw
 simp only [A9,ZZ,go_sem]
 refine FL (ι := Nat) (fun j => j <= l.1) (fun j => l.1 - j) [0] (fun j => [(3,.own (.n 0)),(4,.int .i64 j)]) (fun j => [(0,.row 56 9 (Bb l j).length fun i b => (lD (Bb l j) i).c b)]) 1 0 (by omega) (by simp only [Bb,List.length_nil,↓reduceIte,reduceCtorEq,Nat.reduceEqDiff,Nat.reduceLT,go_sem]; try rfl) fun j hj => ?_
 simp only [hw,↓reduceIte,reduceCtorEq,Nat.reduceEqDiff,Nat.reduceSub,Nat.reducePow,go_sem]
 refine ⟨fun hlt => ?_,fun hge => ?_⟩
 ·have hjw : j < l.1 := by omega
  refine AJ (ι := Nat) (fun q => q <= j) (fun q => j - q) [0,3,4] (fun q => [(6,.int .i64 q),(5,.bool (A8 (∃ k,k < q /\ (l.2 k).id = (l.2 j).id)))]) (fun _ => []) 0 (by omega) (by simp only [↓reduceIte,reduceCtorEq,Nat.reduceEqDiff,Nat.reduceLT,go_sem]; exact (An fun ⟨k,hk,_⟩ => by omega).symm) fun q hq => ?_
  have hdl := HJ l j
  rcases Nat.lt_or_ge q j with hqj | hqj
  ·have fq : ((q : Int) < (j : Int)) = True := eq_true (by omega)
   simp only [fq,↓reduceIte,reduceCtorEq,Nat.reduceEqDiff,Nat.reduceSub,Nat.reduceLeDiff,go_sem]
   refine ⟨fun h1 => Ad (q + 1) (by omega) (by omega) ?_,fun h1 => ⟨by omega,by omega,by omega,by omega,Ad (q + 1) (by omega) (by omega) ?_⟩⟩
   ·simp only [↓reduceIte,reduceCtorEq,Nat.reduceEqDiff,Nat.reduceLT,go_sem]
    rw [BV (by omega)]
    obtain ⟨k,k1,k2⟩ := A2.1 h1
    have f4 : A8 (∃ k,k < q + 1 /\ (l.2 k).id = (l.2 j).id) = true := AF ⟨k,by omega,k2⟩
    simp only [f4,and_self]
   simp only [↓reduceIte,reduceCtorEq,Nat.reduceEqDiff,Nat.reduceLT,go_sem]
   rw [BV (by omega)]
   refine ⟨rfl,?_⟩
   by_cases e : (l.2 q).id = (l.2 j).id
   ·rw [AF ⟨q,by omega,e⟩]; exact beq_iff_eq.2 e
   have hn : ¬ ∃ k,k < q + 1 /\ (l.2 k).id = (l.2 j).id := fun ⟨k,k1,k2⟩ => by
    by_cases e2 : k = q
    ·subst e2; exact e k2
    exact BJ.1 h1 ⟨k,by omega,k2⟩
   rw [An hn]
   exact beq_eq_false_iff_ne.2 e
  obtain rfl : q = j := by omega
  have fq : ((q : Int) < (q : Int)) = False := eq_false (by omega)
  by_cases hdup : ∃ k,k < q /\ (l.2 k).id = (l.2 q).id
  ·have f1 : A8 (∃ k,k < q /\ (l.2 k).id = (l.2 q).id) = true := AF hdup
   have f2 : Iq l q = false := An fun h => by obtain ⟨k,k1,k2⟩ := hdup; exact h k k1 k2
   have f3 : Bb l (q + 1) = Bb l q := by rw [Bb,f2]; rfl
   simp only [fq,f1,↓reduceIte,reduceCtorEq,Nat.reduceEqDiff,go_sem]
   refine Ad (q + 1) (by omega) (by omega) ?_
   simp only [f3,↓reduceIte,reduceCtorEq,Nat.reduceEqDiff,Nat.reduceLT,go_sem]
   rw [BV (by omega)]
  have f1 : A8 (∃ k,k < q /\ (l.2 k).id = (l.2 q).id) = false := An hdup
  have f2 : Iq l q = true := AF fun k k1 k2 => hdup ⟨k,k1,k2⟩
  have f3 : Bb l (q + 1) = E0 (l.2 q) (Bb l q) := by rw [Bb,f2]; rfl
  have srt := Ea l q
  have dis : ∀ y ∈ Bb l q,y.id ≠ (l.2 q).id := fun y hy => by obtain ⟨k,h1,_,rfl⟩ := (Fi l q y).1 hy; exact A2.1 f2 k h1
  generalize Bb l q = L at *
  simp only [hw,fq,f1,Hj,↓reduceIte,reduceCtorEq,Nat.reduceEqDiff,Nat.reduceAdd,Nat.reduceSub,Nat.reduceLeDiff,Nat.reduceLT,Nat.reducePow,go_sem]
  refine ⟨by omega,by omega,fun _ => ⟨hp.2 q (by omega),fun _ => ⟨by omega,by omega,?_⟩⟩⟩
  have hs : IntKind.i64.wrap (((L.length + 1 : Nat) : Int) - 1) = (L.length : Int) := by rw [AU (by omega) (by omega)]; omega
  simp only [hs]
  refine AJ (ι := Nat) (fun k => k <= L.length /\ ∀ i,k <= i -> i < L.length -> Bi (l.2 q) (lD L i)) (fun k => k) [0,3,4] (fun k => [(7,.int .i64 k)]) (fun k => [(0,.row 56 9 (L.length + 1) fun i b => (if i < k then lD L i else if i = k then l.2 q else lD L (i - 1)).c b)]) L.length ⟨Nat.le_refl _,fun i h1 h2 => by omega⟩ (by
   simp only [↓reduceIte,reduceCtorEq,Nat.reduceEqDiff,Nat.reduceLT,go_sem]
   intro i hi b hb
   by_cases e : i < L.length
   ·rw [if_pos e,if_pos e]; exact BB _
   obtain rfl : i = L.length := by omega
   rw [if_neg e,if_neg e,if_pos rfl,Nat.sub_self]
   show Ax _ (Aq (l.2 q).L b)
   rw [Fp _ b hb]; exact BB _) fun k hk => ?_
  obtain ⟨hk1,hk2⟩ := hk
  have out : ∀ k,k <= L.length -> (∀ i,k <= i -> i < L.length -> Bi (l.2 q) (lD L i)) -> (0 < k -> ¬ Bi (l.2 q) (lD L (k - 1))) -> E0 (l.2 q) L = L.take k ++ l.2 q :: L.drop k := fun k h1 h2 h3 => by
   refine N0 _ _ _ h1 (fun i hi hb => ?_) fun hk => h2 k (Nat.le_refl _) hk
   by_cases e : i = k - 1
   ·subst e; exact h3 (by omega) hb
   refine h3 (by omega) (GM hb ?_)
   have := List.pairwise_iff_getElem.1 srt i (k - 1) (by omega) (by omega) (by omega)
   simpa [lD,List.getD_eq_getElem?_getD,List.getElem?_eq_getElem (show i < L.length by omega),List.getElem?_eq_getElem (show k - 1 < L.length by omega)] using this
  have fin : ∀ k,k <= L.length -> E0 (l.2 q) L = L.take k ++ l.2 q :: L.drop k -> (∀ i,i < L.length + 1 -> ∀ b,b < 9 -> Ax ((lD (E0 (l.2 q) L) i).c b) ((if i < k then lD L i else if i = k then l.2 q else lD L (i - 1)).c b)) := fun k h1 h2 i hi b hb => by
   rw [h2,U0 _ _ _ _ h1 hi]; exact BB _
  have fl : (E0 (l.2 q) L).length = L.length + 1 := JI _ _
  rcases Nat.eq_zero_or_pos k with hk0 | hk0
  ·subst hk0
   have f0 : ((0 : Int) > 0) = False := eq_false (by omega)
   simp only [f0,Int.ofNat_zero,↓reduceIte,reduceCtorEq,Nat.reduceEqDiff,Nat.reduceSub,go_sem]
   refine Ad (q + 1) (by omega) (by omega) ?_
   simp only [f3,fl,↓reduceIte,reduceCtorEq,Nat.reduceEqDiff,Nat.reduceLT,go_sem]
   rw [BV (by omega)]
   exact ⟨rfl,fin 0 (by omega) (out 0 (by omega) hk2 (fun h => absurd h (Nat.lt_irrefl 0)))⟩
  have fk : ((k : Int) > 0) = True := eq_true (by omega)
  have fk1 := SB hk0 (by omega)
  have g1 : (if k < k then lD L k else if k = k then l.2 q else lD L (k - 1)) = l.2 q := by rw [if_neg (Nat.lt_irrefl k),if_pos rfl]
  have g2 : (if k - 1 < k then lD L (k - 1) else if k - 1 = k then l.2 q else lD L (k - 1 - 1)) = lD L (k - 1) := if_pos (by omega)
  simp only [fk,fk1,g2,Int.toNat_natCast,↓reduceIte,reduceCtorEq,Nat.reduceEqDiff,Nat.reduceAdd,Nat.reduceSub,Nat.reduceLeDiff,go_sem]
  have hgo : Bi (l.2 q) (lD L (k - 1)) -> ∀ i,k - 1 <= i -> i < L.length -> Bi (l.2 q) (lD L i) := fun h i h1 h2 => by
   by_cases e : i = k - 1
   ·subst e; exact h
   exact hk2 i (by omega) h2
  refine ⟨by omega,by omega,by omega,by omega,fun h1 => ⟨by omega,by omega,by omega,by omega,by omega,by omega,by omega,by omega,Ad (k - 1) ⟨by omega,hgo (.inl h1)⟩ (by omega) ?_⟩,fun h1 => ?_⟩
  ·simp only [↓reduceIte,reduceCtorEq,Nat.reduceEqDiff,Nat.reduceLT,go_sem]
   exact Mq hk0 rfl
  have quit : ¬ Bi (l.2 q) (lD L (k - 1)) -> ∀ i,i < L.length + 1 -> ∀ b,b < 9 -> Ax ((lD (E0 (l.2 q) L) i).c b) ((if i < k then lD L i else if i = k then l.2 q else lD L (i - 1)).c b) := fun h => fin k hk1 (out k hk1 hk2 fun _ => h)
  refine ⟨by omega,by omega,by omega,by omega,fun h2 => ⟨by omega,by omega,by omega,by omega,fun h3 => ⟨by omega,by omega,by omega,by omega,by omega,by omega,by omega,by omega,Ad (k - 1) ⟨by omega,hgo (.inr ⟨h2,h3⟩)⟩ (by omega) ?_⟩,fun h3 => Ad (q + 1) (by omega) (by omega) ?_⟩,fun h2 => Ad (q + 1) (by omega) (by omega) ?_⟩
  ·simp only [↓reduceIte,reduceCtorEq,Nat.reduceEqDiff,Nat.reduceLT,go_sem]
   exact Mq hk0 rfl
  ·simp only [f3,fl,↓reduceIte,reduceCtorEq,Nat.reduceEqDiff,Nat.reduceLT,go_sem]
   rw [BV (by omega)]
   exact ⟨rfl,quit (by unfold Bi; omega)⟩
  simp only [f3,fl,↓reduceIte,reduceCtorEq,Nat.reduceEqDiff,Nat.reduceLT,go_sem]
  rw [BV (by omega)]
  exact ⟨rfl,quit (by unfold Bi; omega)⟩
 obtain rfl : j = l.1 := by omega
 exact ⟨rfl,fun _ _ _ _ => BB _⟩
end Go.Proofs.YtlieoghhkioflaaGreat
namespace Go.Proofs.YtlieoghhkioflaaGreat
open Go Go.RowKit
variable {G : Nat -> Option (Nat × (Nat -> Ae))}
def Up (n : Int) (p : Nat × (Nat -> Int)) : Prop := 0 <= n /\ n <= 23040 /\ 1 <= p.1 /\ p.1 <= 8 /\ ∀ i,i < p.1 -> 1 <= p.2 i /\ p.2 i <= 1000
theorem Up.sum {n : Int} {p : Nat × (Nat -> Int)} (h : Up n p) : ∀ k,k <= p.1 -> (k : Int) <= Aw p.2 k /\ Aw p.2 k <= 1000 * k := fun k hk => by
 have h1 := EN (fun _ => 1) p.2 k fun i hi => (h.2.2.2.2 i (by omega)).1
 have h2 := EN p.2 (fun _ => 1000) k fun i hi => (h.2.2.2.2 i (by omega)).2
 rw [DM] at h1 h2; omega
theorem Gy {k : IntKind} {n j : Nat} {a : Int} {f g : Nat -> Int} (h : ∀ i,i < n -> g i = if i = j then a else f i) : ∀ i,i < n -> ∀ b,b < 1 -> (if i = j /\ 0 <= b /\ b < 1 then Aq (.cons (.int k a) .nil) b else .int k (f i)) = .int k (g i) := fun i hi b hb => by
 obtain rfl : b = 0 := by omega
 rw [h i hi]
 by_cases e : i = j
 ·rw [if_pos ⟨e,Nat.le_refl _,hb⟩,if_pos e]; rfl
 rw [if_neg fun h => e h.1,if_neg e]
noncomputable def Nf : Ay := (Cs TI (DQ (BK .i64)) Up fun n p => .view 1 p.1 fun i _ => .int .i64 (DZ n p.2 p.1 i)).mine 3
theorem U4 : Ai Tryz.prog G 153 Nf := by
 refine fo2 (S := []) (I := []) mixed .nil .nil Tryz.func153 Yl fun n p hp hw => ?_
 simp only [Nat.reduceSub,Nat.reducePow,go_sem] at hw
 have hsum := hp.sum
 obtain ⟨p1,p2,p3,p4,p5⟩ := hp
 simp only [K4,W2,↓reduceIte,reduceCtorEq,Nat.reduceEqDiff,Int.reduceNeg,go_sem]
 refine AJ (ι := Nat) (fun j => j <= p.1) (fun j => p.1 - j) [0,1,6] (fun j => [(7,.int .i64 j),(5,.int .i64 (Aw p.2 j))]) (fun _ => []) 0 (by omega) (by simp only [↓reduceIte,reduceCtorEq,Nat.reduceEqDiff,go_sem]; try rfl) fun j hj => ?_
 simp only [hw,↓reduceIte,reduceCtorEq,Nat.reduceEqDiff,Nat.reduceAdd,Nat.reduceSub,Nat.reduceLT,Int.reduceNeg,Nat.reducePow,go_sem]
 have hsj := hsum j hj
 refine ⟨fun hlt => ⟨by omega,by omega,Ad (j + 1) (by omega) (by omega) ?_⟩,fun hge => ?_⟩
 ·have := p5 j (by omega)
  simp only [↓reduceIte,reduceCtorEq,Nat.reduceEqDiff,go_sem,Aw]
  rw [BV (by omega),AU (by omega) (by omega)]
  try exact ⟨rfl,rfl⟩
 obtain rfl : j = p.1 := by omega
 repeat (with_reducible refine And.intro (by omega) ?_)
 obtain ⟨S,hS⟩ : ∃ S,S = Aw p.2 p.1 := ⟨_,rfl⟩
 have hS0 : 0 < S := by omega
 have hfr : ∀ i,i < p.1 -> 0 <= BR n p.2 p.1 i /\ BR n p.2 p.1 i <= n /\ 0 <= Dy n p.2 p.1 i /\ Dy n p.2 p.1 i < S := fun i hi => by
  have h1 := p5 i hi
  have h2 : p.2 i <= S := by rw [hS]; exact (Hm p.2 p.1 fun i hi => by have := p5 i hi; omega).2 i hi
  have h3 : n * p.2 i <= n * S := Int.mul_le_mul_of_nonneg_left h2 p1
  have h4 : 0 <= n * p.2 i := Int.mul_nonneg p1 (by omega)
  unfold BR Dy
  rw [<- hS]
  exact ⟨Int.ediv_nonneg h4 (by omega),Int.ediv_le_of_le_mul hS0 h3,Int.emod_nonneg _ (by omega),Int.emod_lt_of_pos _ hS0⟩
 have hsf : ∀ k,k <= p.1 -> 0 <= Aw (BR n p.2 p.1) k /\ Aw (BR n p.2 p.1) k <= 23040 * k := fun k hk => by
  have h1 := EN (fun _ => 0) (BR n p.2 p.1) k fun i hi => (hfr i (by omega)).1
  have h2 := EN (BR n p.2 p.1) (fun _ => 23040) k fun i hi => by have := (hfr i (by omega)).2.1; omega
  rw [DM] at h1 h2; omega
 have z1 : n = n - 0 /\ (∀ i,i < p.1 -> ∀ j,j < 1 -> Aq (.cons (.int .i64 0) .nil) j = .int .i64 0) /\ ∀ i,i < p.1 -> ∀ j,j < 1 -> Aq (.cons (.int .i64 0) .nil) j = .int .i64 0 := by
  have : ∀ i,i < p.1 -> ∀ j,j < 1 -> Aq (.cons (.int .i64 0) .nil) j = .int .i64 0 := by
   intro i hi j hj
   obtain rfl : j = 0 := by omega
   rfl
  exact ⟨by omega,this,this⟩
 refine AJ (ι := Nat) (fun j => j <= p.1) (fun j => p.1 - j) [0,1,5,8,9] (fun j => [(10,.int .i64 j),(6,.int .i64 (n - Aw (BR n p.2 p.1) j))]) (fun j => [(0,.row 3 1 p.1 fun i _ => .int .i64 (if i < j then BR n p.2 p.1 i else 0)),(1,.row 3 1 p.1 fun i _ => .int .i64 (if i < j then Dy n p.2 p.1 i else 0))]) 0 (by omega) (by simp only [↓reduceIte,reduceCtorEq,Nat.reduceEqDiff,Nat.reduceLT,go_sem,Aw,Nat.not_lt_zero]; exact ⟨z1.1,z1.2.1⟩) fun j hj => ?_
 simp only [hw,↓reduceIte,reduceCtorEq,Nat.reduceEqDiff,Nat.reduceSub,Nat.reduceLT,Int.reduceNeg,Nat.reducePow,go_sem]
 rcases Nat.lt_or_ge j p.1 with hlt | hge
 ·have fj : ((j : Int) < (p.1 : Int)) = True := eq_true (by omega)
  have h5 := p5 j hlt
  have hnp : 0 <= n * p.2 j /\ n * p.2 j <= 23040000 := ⟨Int.mul_nonneg p1 (by omega),Int.le_trans (Int.mul_le_mul p2 h5.2 (by omega) (by omega)) (by decide)⟩
  obtain ⟨f1,f2,f3,f4⟩ := hfr j hlt
  have e1 : IntKind.i64.wrap (n * p.2 j) = n * p.2 j := AU (by omega) (by omega)
  have e2 : IntKind.i64.wrap ((n * p.2 j).tdiv (Aw p.2 p.1)) = BR n p.2 p.1 j := by
   rw [Int.tdiv_eq_ediv_of_nonneg hnp.1]; exact AU (by unfold BR at f1; omega) (by unfold BR at f2; omega)
  have e3 : (n * p.2 j).tmod (Aw p.2 p.1) = Dy n p.2 p.1 j := Int.tmod_eq_emod_of_nonneg hnp.1
  have hsj := hsf j (by omega)
  have hs1 : Aw (BR n p.2 p.1) (j + 1) = Aw (BR n p.2 p.1) j + BR n p.2 p.1 j := rfl
  have e4 : IntKind.i64.wrap (n - Aw (BR n p.2 p.1) j - BR n p.2 p.1 j) = n - Aw (BR n p.2 p.1) (j + 1) := by rw [hs1,AU (by omega) (by omega)]; omega
  simp only [fj,e1,e2,e3,e4,Int.reduceNeg,go_sem]
  repeat (with_reducible refine And.intro (by omega) ?_)
  refine Ad (j + 1) (by omega) (by omega) ?_
  simp only [↓reduceIte,reduceCtorEq,Nat.reduceEqDiff,Nat.reduceLT,go_sem]
  rw [BV (by omega)]
  have q : ∀ f : Nat -> Int,∀ i,i < p.1 -> (if i < j + 1 then f i else 0) = if i = j then f j else if i < j then f i else 0 := fun f i hi => by
   by_cases e : i = j
   ·subst e; rw [if_pos rfl,if_pos (by omega)]
   rw [if_neg e]
   by_cases e2 : i < j
   ·rw [if_pos e2,if_pos (by omega)]
   rw [if_neg e2,if_neg (by omega)]
  exact ⟨rfl,Gy (q _),Gy (q _)⟩
 obtain rfl : j = p.1 := by omega
 have fj : ((p.1 : Int) < (p.1 : Int)) = False := eq_false (by omega)
 have l1 := II (n := n) (p := p.2) (k := p.1) (by omega)
 have l2 := KF (n := n) (p := p.2) (k := p.1) (by omega) (by omega)
 have l3 : n - Aw (BR n p.2 p.1) p.1 = CY n p.2 p.1 := rfl
 simp only [fj,l3,Int.reduceNeg,go_sem]
 refine AJ (ι := Nat) (fun t => (t : Int) <= CY n p.2 p.1) (fun t => (CY n p.2 p.1 - t).toNat) [1,8,9] (fun t => [(6,.int .i64 (CY n p.2 p.1 - t))]) (fun t => [(0,.row 3 1 p.1 fun i _ => .int .i64 (BR n p.2 p.1 i + if GF n p.2 p.1 i < t then 1 else 0)),(1,.row 3 1 p.1 fun i _ => .int .i64 (if GF n p.2 p.1 i < t then -1 else Dy n p.2 p.1 i))]) 0 (by omega) (by
  simp only [↓reduceIte,reduceCtorEq,Nat.reduceEqDiff,Nat.reduceLT,go_sem,Nat.not_lt_zero]
  exact ⟨by omega,fun i hi j _ => if_pos hi,fun i hi j _ => by rw [if_pos hi,Int.add_zero]⟩) fun t ht => ?_
 simp only [↓reduceIte,reduceCtorEq,Nat.reduceEqDiff,Int.reduceNeg,go_sem]
 refine ⟨fun h1 => ?_,fun h1 => ?_⟩
 ·have htk : t < p.1 := by omega
  obtain ⟨bb,b1,b2,b3⟩ := OA n p.2 p.1 _ p.1 (Nat.le_refl _) ((IN n p.2 p.1 t (by omega)).free htk)
  obtain ⟨ct,hct⟩ : ∃ ct : Nat -> Int,ct = fun i => if GF n p.2 p.1 i < t then -1 else Dy n p.2 p.1 i := ⟨_,rfl⟩
  have hcv : ∀ i,(if GF n p.2 p.1 i < t then -1 else Dy n p.2 p.1 i) = ct i := fun i => by rw [hct]
  simp only [hcv]
  refine AJ (ι := Nat × Nat) (fun q => 1 <= q.2 /\ q.2 <= p.1 /\ q.1 < q.2 /\ (∀ j,j < q.2 -> ct j <= ct q.1) /\ ∀ j,j < q.1 -> ct j < ct q.1) (fun q => p.1 - q.2) [1,6,8,9] (fun q => [(12,.int .i64 q.2),(11,.int .i64 q.1)]) (fun _ => []) (0,1) ⟨Nat.le_refl _,by omega,by omega,fun j hj => by
   obtain rfl : j = 0 := by simpa using hj
   exact Int.le_refl _,fun j hj => by simp at hj⟩ (by simp only [↓reduceIte,reduceCtorEq,Nat.reduceEqDiff,Nat.reduceLT,go_sem]; try rfl) fun q hq => ?_
  obtain ⟨b,i⟩ := q
  obtain ⟨q1,q2,q3,q4,q5⟩ := hq
  simp only at q1 q2 q3 q4 q5
  simp only [hw,↓reduceIte,reduceCtorEq,Nat.reduceEqDiff,Nat.reduceSub,Int.reduceNeg,Nat.reducePow,go_sem]
  refine ⟨fun h2 => ?_,fun h2 => ?_⟩
  ·refine ⟨by omega,by omega,by omega,by omega,fun h3 => Ad (i,i + 1) ⟨by show 1 <= i + 1; omega,by show i + 1 <= p.1; omega,by show i < i + 1; omega,fun j hj => ?_,fun j hj => ?_⟩ (by show p.1 - (i + 1) < p.1 - i; omega) (by simp only [↓reduceIte,reduceCtorEq,Nat.reduceEqDiff,Nat.reduceLT,go_sem]; rw [BV (by omega)]),fun h3 => Ad (b,i + 1) ⟨by show 1 <= i + 1; omega,by show i + 1 <= p.1; omega,by show b < i + 1; omega,fun j hj => ?_,q5⟩ (by show p.1 - (i + 1) < p.1 - i; omega) (by simp only [↓reduceIte,reduceCtorEq,Nat.reduceEqDiff,Nat.reduceLT,go_sem]; rw [BV (by omega)])⟩
   ·have hj : j < i + 1 := hj
    show ct j <= ct i
    by_cases e : j = i
    ·subst e; exact Int.le_refl _
    have := q4 j (by omega); omega
   ·have hj : j < i := hj
    show ct j < ct i
    have := q4 j hj; omega
   have hj : j < i + 1 := hj
   show ct j <= ct b
   by_cases e : j = i
   ·subst e; omega
   exact q4 j (by omega)
  obtain rfl : i = p.1 := by omega
  have b2' : ¬ GF n p.2 p.1 bb < t := of_decide_eq_false b2
  have c1 : ct bb = Dy n p.2 p.1 bb := by rw [hct]; exact if_neg b2'
  have c2 := (hfr bb b1).2.2.1
  have c3 := q4 bb b1
  have c4 : ¬ GF n p.2 p.1 b < t := fun h => by
   have : ct b = -1 := by rw [hct]; exact if_pos h
   omega
  have c5 : ct b = Dy n p.2 p.1 b := by rw [hct]; exact if_neg c4
  have c6 := P7 htk q3 c4 fun j hj hf => by
   have c7 : ct j = Dy n p.2 p.1 j := by rw [hct]; exact if_neg hf
   have c8 := q4 j hj
   simp only [Ds,decide_eq_false_iff_not]
   rintro (h | ⟨h,h'⟩)
   ·omega
   have := q5 j h'; omega
  have c9 : IntKind.i64.wrap ((BR n p.2 p.1 b + if GF n p.2 p.1 b < t then 1 else 0) + 1) = BR n p.2 p.1 b + 1 := by
   have := hfr b q3
   rw [if_neg c4,AU (by omega) (by omega)]; omega
  repeat (with_reducible refine And.intro (by omega) ?_)
  refine Ad (t + 1) (by omega) (by omega) ?_
  simp only [↓reduceIte,reduceCtorEq,Nat.reduceEqDiff,Nat.reduceLT,Int.reduceNeg,go_sem]
  rw [c9,AU (by omega) (by omega)]
  refine ⟨by omega,Gy fun i hi => ?_,Gy fun i hi => ?_⟩
  ·have := c6 i hi
   by_cases e : i = b
   ·rw [if_pos e,if_pos (this.2 (.inr e))]
   rw [if_neg e,hct]
   by_cases e2 : GF n p.2 p.1 i < t
   ·rw [if_pos (this.2 (.inl e2))]; exact (if_pos e2).symm
   rw [if_neg fun h => (this.1 h).elim e2 e]; exact (if_neg e2).symm
  have := c6 i hi
  by_cases e : i = b
  ·rw [if_pos e,if_pos (this.2 (.inr e)),e]
  rw [if_neg e]
  by_cases e2 : GF n p.2 p.1 i < t
  ·rw [if_pos (this.2 (.inl e2)),if_pos e2]
  rw [if_neg fun h => (this.1 h).elim e2 e,if_neg e2]
 have q : ∀ i,i < p.1 -> BR n p.2 p.1 i + (if GF n p.2 p.1 i < t then 1 else 0) = DZ n p.2 p.1 i := fun i hi => by
  unfold DZ
  rw [show CY n p.2 p.1 = (t : Int) by omega]
  unfold GF
  simp only [Int.ofNat_lt]
 refine ⟨fun i hi j hj => q i hi,.n 0,1,p.1,_,.inl ⟨rfl,rfl⟩,_,rfl,fun i hi j hj => ⟨congrArg (Ae.int .i64) (q i hi).symm,rfl⟩⟩
end Go.Proofs.YtlieoghhkioflaaGreat
namespace Go.Proofs.YtlieoghhkioflaaGreat
open Go Go.RowKit
variable {G : Nat -> Option (Nat × (Nat -> Ae))}
def LO (b : Bk) (n : Nat) : Prop := b.ow.1 = n /\ b.le.1 = n /\ b.un.1 = n /\ b.de.1 = 10000
def Rb (n : Nat) (x : De) : Prop := 0 <= x.fro /\ x.fro <= 9999 /\ 0 <= x.tow /\ x.tow <= 9999 /\ 0 <= x.turn.fro /\ x.turn.til <= n
def HW (b : Bk) (x : De) : Prop := ∀ m : Nat,x.turn.fro <= m -> (m : Int) < x.turn.til -> b.ow.2 m = x.fro
def Ld (b : Bk) (x : De) : Prop := ∀ m : Nat,x.turn.fro <= m -> (m : Int) < x.turn.til -> ¬ (b.le.2 m ≠ 0 /\ x.day < b.un.2 m)
noncomputable def CB (b : Bk) (x : De) : Int := if (b.de.2 x.fro.toNat || b.de.2 x.tow.toNat) = true then 1 else if A8 (HW b x) = true then (if x.kind = 4 then (if A8 (Ld b x) = true then 0 else 3) else 0) else 2
noncomputable def Q4 : Ay := Cs YC O6 (fun b x => ∃ n,n <= 23040 /\ LO b n /\ Rb n x) fun b x => .int .u8 (CB b x)
theorem Xj : Ai Tryz.prog G 110 Q4 := by
 refine MC (S := []) (I := []) mixed .nil .nil Tryz.func110 ZI fun b x hp hw => ?_
 obtain ⟨n,hn,⟨n1,n2,n3,n4⟩,⟨d1,d2,d3,d4,d5,d6⟩⟩ := hp
 simp only [Nat.reduceSub,Nat.reducePow,go_sem] at hw
 obtain ⟨f,hf⟩ : ∃ f : Nat,x.turn.fro = f := ⟨x.turn.fro.toNat,by omega⟩
 simp only [A9,XR,n1,n2,n3,n4,hf,↓reduceIte,reduceCtorEq,Nat.reduceEqDiff,Nat.reduceAdd,Nat.reduceSub,Nat.reduceLeDiff,Nat.reducePow,go_sem]
 have hv : CB b x = if (b.de.2 x.fro.toNat || b.de.2 x.tow.toNat) = true then 1 else if A8 (HW b x) = true then (if x.kind = 4 then (if A8 (Ld b x) = true then 0 else 3) else 0) else 2 := rfl
 refine ⟨by omega,by omega,fun h1 => by rw [hv,h1]; rfl,fun h1 => ⟨by omega,by omega,fun h2 => by rw [hv,h1,h2]; rfl,fun h2 => ?_⟩⟩
 rw [h1,h2,Bool.or_self,if_neg Bool.false_ne_true] at hv
 refine AJ (ι := Nat) (fun m => f <= m /\ (m <= x.turn.til \/ m = f) /\ ∀ q : Nat,f <= q -> q < m -> b.ow.2 q = x.fro) (fun m => x.turn.til.toNat - m) [2,3] (fun m => [(5,.int .i64 m)]) (fun _ => []) f ⟨Nat.le_refl _,.inr rfl,fun q q1 q2 => by omega⟩ (by simp only [↓reduceIte,reduceCtorEq,Nat.reduceEqDiff,Nat.reduceLT,go_sem]; try rfl) fun m hm => ?_
 obtain ⟨m1,m2,m3⟩ := hm
 simp only [↓reduceIte,reduceCtorEq,Nat.reduceEqDiff,Nat.reduceAdd,Nat.reduceLeDiff,go_sem]
 refine ⟨fun h3 => ⟨by omega,by omega,fun h4 => ?_,fun h4 => Ad (m + 1) ⟨by omega,.inl (by omega),fun q q1 q2 => ?_⟩ (by omega) (by simp only [↓reduceIte,reduceCtorEq,Nat.reduceEqDiff,Nat.reduceLT,go_sem]; rw [BV (by omega)])⟩,fun h3 => ?_⟩
 ·rw [hv,An fun k => h4 (k m (by omega) (by omega))]; rfl
 ·by_cases e : q = m
  ·subst e; exact h4
  exact m3 q q1 (by omega)
 have hh : A8 (HW b x) = true := AF fun q q1 q2 => m3 q (by omega) (by omega)
 rw [hh,if_pos rfl] at hv
 refine ⟨fun h4 => ?_,fun h4 => ?_⟩
 ·rw [hv,if_neg h4]
 rw [if_pos h4] at hv
 clear m1 m2 m3 h3
 refine AJ (ι := Nat) (fun m => f <= m /\ (m <= x.turn.til \/ m = f) /\ ∀ q : Nat,f <= q -> q < m -> ¬ (b.le.2 q ≠ 0 /\ x.day < b.un.2 q)) (fun m => x.turn.til.toNat - m) [2,3] (fun m => [(6,.int .i64 m)]) (fun _ => []) f ⟨Nat.le_refl _,.inr rfl,fun q q1 q2 => by omega⟩ (by simp only [↓reduceIte,reduceCtorEq,Nat.reduceEqDiff,Nat.reduceLT,go_sem]; try rfl) fun m hm => ?_
 obtain ⟨m1,m2,m3⟩ := hm
 simp only [↓reduceIte,reduceCtorEq,Nat.reduceEqDiff,Nat.reduceAdd,Nat.reduceSub,Nat.reduceLeDiff,go_sem]
 refine ⟨fun h5 => ⟨by omega,by omega,fun h6 => ⟨by omega,by omega,fun h7 => ?_,fun h7 => Ad (m + 1) ⟨by omega,.inl (by omega),fun q q1 q2 => ?_⟩ (by omega) (by simp only [↓reduceIte,reduceCtorEq,Nat.reduceEqDiff,Nat.reduceLT,go_sem]; rw [BV (by omega)])⟩,fun h6 => Ad (m + 1) ⟨by omega,.inl (by omega),fun q q1 q2 => ?_⟩ (by omega) (by simp only [↓reduceIte,reduceCtorEq,Nat.reduceEqDiff,Nat.reduceLT,go_sem]; rw [BV (by omega)])⟩,fun h5 => ?_⟩
 ·rw [hv,An (show ¬ Ld b x from fun k => k m (by omega) (by omega) ⟨h6,h7⟩)]; rfl
 ·by_cases e : q = m
  ·subst e; exact fun k => h7 k.2
  exact fun k => m3 q q1 (by omega) k
 ·by_cases e : q = m
  ·subst e; exact fun k => k.1 h6
  exact fun k => m3 q q1 (by omega) k
 rw [hv,AF (show Ld b x from fun q q1 q2 k => m3 q (by omega) (by omega) k)]; rfl
end Go.Proofs.YtlieoghhkioflaaGreat
