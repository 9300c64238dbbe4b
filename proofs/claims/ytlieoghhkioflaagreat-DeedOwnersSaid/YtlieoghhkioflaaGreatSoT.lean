/- The stable sort, plain: insertion, merge, parts of a row. No condition. -/
import Derived.Test.YtlieoghhkioflaaGreatE4
import Derived.Test.YtlieoghhkioflaaGreatDin
set_option linter.unusedSimpArgs false
set_option linter.unusedVariables false
namespace Go.Proofs.YtlieoghhkioflaaGreat
variable {S a b i j m n p q s t : Nat}
section
variable {α : Type}
structure Sy (lt : α -> α -> Bool) : Prop where
 tr : ∀ a b c,lt a b = true -> lt b c = true -> lt a c = true
 co : ∀ a b c,lt a c = true -> lt a b = true \/ lt b c = true
 ir : ∀ a,lt a a = false
variable (lt : α -> α -> Bool)
def CP (x : α) : List α -> List α
 | [] => [x]
 | y :: L => if lt x y = true then x :: y :: L else y :: CP x L
def AK (L : List α) : List α := L.foldl (fun acc x => CP lt x acc) []
def mrg : List α -> List α -> List α
 | [],Y => Y
 | x :: X,Y => go x (mrg X) Y
where
 go (x : α) (f : List α -> List α) : List α -> List α
 | [] => x :: f []
 | y :: Y => if lt y x = true then y :: go x f Y else x :: f (y :: Y)
theorem Dc : ∀ X : List α,mrg lt X [] = X
 | [] => rfl
 | x :: X => by rw [mrg,mrg.go,Dc X]
theorem B7 (x : α) (X : List α) (y : α) (Y : List α) : mrg lt (x :: X) (y :: Y) = if lt y x = true then y :: mrg lt (x :: X) Y else x :: mrg lt X (y :: Y) := by
 show mrg.go lt x (mrg lt X) (y :: Y) = if lt y x = true then y :: mrg.go lt x (mrg lt X) Y else x :: mrg lt X (y :: Y)
 rw [mrg.go]
theorem B9 (L : List α) (x : α) : AK lt (L ++ [x]) = CP lt x (AK lt L) := by
 unfold AK; rw [List.foldl_append]; rfl
theorem My (x : α) : ∀ L,(CP lt x L).length = L.length + 1
 | [] => rfl
 | y :: L => by
  rw [CP]; split
  ·rfl
  rw [List.length_cons,My x L,List.length_cons]
theorem Gd {p : List α -> Prop} (h0 : p []) (h1 : ∀ L x,p L -> p (L ++ [x])) (L : List α) : p L := by
 rw [<- List.reverse_reverse L]
 induction L.reverse with
 | nil => exact h0
 | cons x L ih => rw [List.reverse_cons]; exact h1 _ _ ih
theorem Dk (L : List α) : (AK lt L).length = L.length := by
 refine Gd (p := fun L => (AK lt L).length = L.length) rfl (fun L x ih => ?_) L
 rw [B9,My,ih,List.length_append]; rfl
theorem Hv : ∀ (X Y : List α),(mrg lt X Y).length = X.length + Y.length
 | [],Y => by rw [mrg,List.length_nil,Nat.zero_add]
 | x :: X,[] => by rw [Dc]; rfl
 | x :: X,y :: Y => by
  rw [B7]; split
  ·rw [List.length_cons,Hv (x :: X) Y,List.length_cons,List.length_cons]; omega
  rw [List.length_cons,Hv X (y :: Y),List.length_cons,List.length_cons]; omega
termination_by X Y => X.length + Y.length
variable {lt}
theorem IP (h : Sy lt) (y : α) : ∀ (X Y : List α),mrg lt X (CP lt y Y) = CP lt y (mrg lt X Y)
 | [],Y => rfl
 | x :: X,[] => by
  rw [Dc,CP,B7,CP,Dc]
  split
  ·rfl
  have := IP h y X []
  rw [CP,Dc] at this
  rw [this]
 | x :: X,z :: Z => by
  rw [CP,B7]
  by_cases h1 : lt z x = true
  ·rw [if_pos h1,CP]
   by_cases h2 : lt y z = true
   ·rw [if_pos h2,if_pos h2,B7,if_pos (h.tr _ _ _ h2 h1),B7,if_pos h1]
   rw [if_neg h2,if_neg h2,B7,if_pos h1,IP h y (x :: X) Z]
  rw [if_neg h1,CP]
  have ih := IP h y X (z :: Z)
  rw [CP] at ih
  by_cases h2 : lt y z = true
  ·rw [if_pos h2] at ih ⊢
   rw [B7]
   by_cases h3 : lt y x = true
   ·rw [if_pos h3,if_pos h3,B7,if_neg h1]
   rw [if_neg h3,if_neg h3,ih]
  rw [if_neg h2] at ih ⊢
  have h3 : ¬ lt y x = true := fun h3 => (h.co _ z _ h3).elim h2 h1
  rw [B7,if_neg h1,if_neg h3,ih]
termination_by X Y => X.length + Y.length
theorem OO (h : Sy lt) (A B : List α) : mrg lt (AK lt A) (AK lt B) = AK lt (A ++ B) := by
 refine Gd (p := fun B => mrg lt (AK lt A) (AK lt B) = AK lt (A ++ B)) ?_ (fun B x ih => ?_) B
 ·show mrg lt (AK lt A) [] = _
  rw [Dc,List.append_nil]
 rw [B9,IP h,ih,<- List.append_assoc,B9]
variable (lt)
def EP (L : List α) : Prop := L.Pairwise fun a b => lt b a = false
variable {lt}
theorem FX (x : α) : ∀ (L : List α) (y : α),y ∈ CP lt x L ↔ y = x \/ y ∈ L
 | [],y => by simp [CP]
 | z :: L,y => by
  rw [CP]; split
  ·simp
  rw [List.mem_cons,FX x L y,List.mem_cons]; constructor <;> (rintro (h | h | h) <;> simp [h])
theorem LE (h : Sy lt) (x : α) : ∀ (L : List α),EP lt L -> EP lt (CP lt x L)
 | [],_ => by simp [CP,EP]
 | z :: L,hs => by
  unfold EP at hs ⊢
  rw [List.pairwise_cons] at hs
  rw [CP]; split
  ·rename_i hb
   rw [List.pairwise_cons,List.pairwise_cons]
   refine ⟨fun y hy => ?_,hs⟩
   cases e : lt y x with
   | false => rfl
   | true =>
    rcases List.mem_cons.1 hy with rfl | hy
    ·have := h.tr _ _ _ hb e; rw [h.ir] at this; cases this
    have := h.tr _ _ _ e hb; rw [hs.1 y hy] at this; cases this
  rename_i hb
  rw [List.pairwise_cons]
  refine ⟨fun y hy => ?_,LE h x L hs.2⟩
  rcases (FX x L y).1 hy with rfl | hy
  ·simpa using hb
  exact hs.1 y hy
theorem DL (h : Sy lt) (L : List α) : EP lt (AK lt L) :=
 Gd (p := fun L => EP lt (AK lt L)) List.Pairwise.nil (fun L x ih => by rw [B9]; exact LE h x _ ih) L
theorem Gi (L : List α) (y : α) : y ∈ AK lt L ↔ y ∈ L := by
 refine Gd (p := fun L => y ∈ AK lt L ↔ y ∈ L) (by simp [AK]) (fun L x ih => ?_) L
 rw [B9,FX,ih,List.mem_append]; simp [or_comm]
theorem Fj : ∀ (X1 Y1 X2 Y2 : List α),(∀ x,X2.head? = some x -> ∀ y ∈ Y1,lt y x = true) -> (∀ y,Y2.head? = some y -> ∀ x ∈ X1,lt y x = false) -> mrg lt (X1 ++ X2) (Y1 ++ Y2) = mrg lt X1 Y1 ++ mrg lt X2 Y2
 | [],[],X2,Y2,_,_ => rfl
 | [],y :: Y1,X2,Y2,h1,h2 => by
  rw [List.nil_append]
  cases X2 with
  | nil => simp [mrg]
  | cons x X2 =>
   rw [List.cons_append,B7,if_pos (h1 x rfl y (by simp))]
   have := Fj [] Y1 (x :: X2) Y2 (fun x hx y hy => h1 x hx y (by simp [hy])) h2
   rw [List.nil_append] at this
   rw [this]; rfl
 | x :: X1,[],X2,Y2,h1,h2 => by
  rw [List.nil_append]
  cases Y2 with
  | nil => rw [Dc,Dc,Dc]
  | cons y Y2 =>
   rw [List.cons_append,B7,if_neg (by rw [h2 y rfl x (by simp)]; simp)]
   have := Fj X1 [] X2 (y :: Y2) (fun x hx y hy => by cases hy) (fun y hy x hx => h2 y hy x (by simp [hx]))
   rw [List.nil_append] at this
   rw [this,Dc,Dc]; rfl
 | x :: X1,y :: Y1,X2,Y2,h1,h2 => by
  rw [List.cons_append,List.cons_append,B7,B7]
  split
  ·have := Fj (x :: X1) Y1 X2 Y2 (fun x hx y hy => h1 x hx y (by simp [hy])) h2
   rw [List.cons_append] at this
   rw [this]; rfl
  have := Fj X1 (y :: Y1) X2 Y2 h1 (fun y hy x hx => h2 y hy x (by simp [hx]))
  rw [List.cons_append] at this
  rw [this]; rfl
termination_by X1 Y1 => X1.length + Y1.length
def A3 (d : Nat -> α) (a b : Nat) : List α := (List.range (b - a)).map fun i => d (a + i)
def BU (d : Nat -> α) (a : Nat) (L : List α) (i : Nat) : α := if a <= i then L.getD (i - a) (d i) else d i
theorem Bu (d : Nat -> α) (a b : Nat) : (A3 d a b).length = b - a := by simp [A3]
theorem Bl (d : Nat -> α) (a b i : Nat) : (A3 d a b)[i]? = if i < b - a then some (d (a + i)) else none := by
 unfold A3
 rw [List.getElem?_map]
 by_cases h : i < b - a
 ·rw [List.getElem?_range h,if_pos h]; rfl
 rw [List.getElem?_eq_none (by simpa using h),if_neg h]; rfl
theorem Cl {d e : Nat -> α} (h : ∀ i,a <= i -> i < b -> d i = e i) : A3 d a b = A3 e a b := by
 apply List.ext_getElem?
 intro i
 rw [Bl,Bl]
 split
 ·rw [h (a + i) (by omega) (by omega)]
 rfl
theorem Dt (d : Nat -> α) (h1 : a <= m) (h2 : m <= b) : A3 d a m ++ A3 d m b = A3 d a b := by
 apply List.ext_getElem?
 intro i
 rw [List.getElem?_append,Bl,Bl,Bl,Bu]
 by_cases h : i < m - a
 ·rw [if_pos h,if_pos h,if_pos (by omega)]
 rw [if_neg h]
 by_cases h' : i < b - a
 ·rw [if_pos (by omega),if_pos h',show m + (i - (m - a)) = a + i by omega]
 rw [if_neg (by omega),if_neg h']
theorem DS (d : Nat -> α) (h : b <= a) : A3 d a b = [] := by
 unfold A3; rw [show b - a = 0 by omega]; rfl
theorem Cb (d : Nat -> α) (a : Nat) : A3 d a (a + 1) = [d a] := by
 unfold A3; rw [show a + 1 - a = 1 by omega]; rfl
theorem Co (d : Nat -> α) (a : Nat) (L : List α) (i : Nat) : BU d a L i = if a <= i /\ i < a + L.length then L.getD (i - a) (d i) else d i := by
 unfold BU
 by_cases h : a <= i
 ·rw [if_pos h]
  by_cases h2 : i < a + L.length
  ·rw [if_pos ⟨h,h2⟩]
  rw [if_neg fun k => h2 k.2,List.getD_eq_getElem?_getD,List.getElem?_eq_none (by omega)]; rfl
 rw [if_neg h,if_neg fun k => h k.1]
theorem F6 (d : Nat -> α) (a : Nat) (L : List α) (h : i < a \/ a + L.length <= i) : BU d a L i = d i := by
 rw [Co,if_neg (by omega)]
theorem KG (d : Nat -> α) (a : Nat) (L : List α) {x : α} (h : L[i]? = some x) : BU d a L (a + i) = x := by
 have hi : i < L.length := (List.getElem?_eq_some_iff.1 h).1
 rw [Co,if_pos (by omega),show a + i - a = i by omega,List.getD_eq_getElem?_getD,h]; rfl
theorem QP (d : Nat -> α) (a : Nat) (L : List α) : A3 (BU d a L) a (a + L.length) = L := by
 apply List.ext_getElem?
 intro i
 rw [Bl]
 by_cases h : i < L.length
 ·rw [if_pos (by omega),List.getElem?_eq_getElem h,KG d a L (List.getElem?_eq_getElem h)]
 rw [if_neg (by omega),List.getElem?_eq_none (by omega)]
theorem B8 (d : Nat -> α) (a b : Nat) : BU d a (A3 d a b) = d := by
 funext i
 rw [Co,Bu]
 split
 ·rename_i h
  rw [List.getD_eq_getElem?_getD,Bl,if_pos (by omega),show a + (i - a) = i by omega]; rfl
 rfl
theorem O3 (d : Nat -> α) (a : Nat) (L M : List α) : BU (BU d a L) (a + L.length) M = BU d a (L ++ M) := by
 funext i
 rw [Co,Co,Co,List.length_append]
 by_cases h1 : a + L.length <= i /\ i < a + L.length + M.length
 ·rw [if_pos h1,if_pos (show a <= i /\ i < a + (L.length + M.length) by omega)]
  simp only [List.getD_eq_getElem?_getD]
  rw [List.getElem?_append,if_neg (show ¬ i - a < L.length by omega),show i - a - L.length = i - (a + L.length) by omega]
  have : i - (a + L.length) < M.length := by omega
  rw [List.getElem?_eq_getElem this]; rfl
 rw [if_neg h1]
 by_cases h2 : a <= i /\ i < a + L.length
 ·rw [if_pos h2,if_pos (show a <= i /\ i < a + (L.length + M.length) by omega),List.getD_eq_getElem?_getD,List.getD_eq_getElem?_getD,List.getElem?_append,if_pos (show i - a < L.length by omega)]
 rw [if_neg h2,if_neg (show ¬ (a <= i /\ i < a + (L.length + M.length)) by omega)]
theorem Tj {d e : Nat -> α} {L M : List α} (he : e = BU d a L) (hm : m = a + L.length) : BU e m M = BU d a (L ++ M) := by
 subst he hm; exact O3 d a L M
def C2 (d : Nat -> α) (a b n : Nat) (i : Nat) : α := if a <= i /\ i < a + n then d (b + (i - a)) else if b <= i /\ i < b + n then d (a + (i - b)) else d i
def Cd (d : Nat -> α) (a m b : Nat) : Nat -> α := BU d a (A3 d m b ++ A3 d a m)
theorem El (d : Nat -> α) (h1 : a <= m) (h2 : m <= b) (i : Nat) : Cd d a m b i = if a <= i /\ i < b then (if i < a + (b - m) then d (m + (i - a)) else d (i - (b - m))) else d i := by
 unfold Cd
 rw [Co,List.length_append,Bu,Bu]
 by_cases h : a <= i /\ i < b
 ·rw [if_pos (by omega),if_pos h,List.getD_eq_getElem?_getD,List.getElem?_append,Bu,Bl,Bl]
  by_cases h3 : i - a < b - m
  ·rw [if_pos h3,if_pos h3,if_pos (by omega)]; rfl
  rw [if_neg h3,if_pos (by omega),if_neg (by omega),show a + (i - a - (b - m)) = i - (b - m) by omega]; rfl
 rw [if_neg (by omega),if_neg h]
theorem Hh (d : Nat -> α) (h1 : a <= m) (h2 : m <= b) (h : a = m \/ m = b) : Cd d a m b = d := by
 unfold Cd
 rcases h with h | h
 ·rw [DS d (show m <= a by omega),List.append_nil,<- h,B8]
 rw [DS d (show b <= m by omega),List.nil_append,B8]
variable (lt)
def BZ (d : Nat -> α) (a m b : Nat) : Nat -> α := BU d a (mrg lt (A3 d a m) (A3 d m b))
variable {lt}
theorem CU (d : Nat -> α) (h1 : a <= m) (h2 : m <= b) (h : a = m \/ m = b) : BZ lt d a m b = d := by
 unfold BZ
 rcases h with h | h
 ·rw [DS d (show m <= a by omega)]; show BU d a (A3 d m b) = d; rw [<- h,B8]
 rw [DS d (show b <= m by omega),Dc,B8]
theorem Eh {d : Nat -> α} {e mid : Nat} (h1 : a <= s) (h2 : s <= m) (h3 : m <= e) (h4 : e <= b) (h5 : mid + m = s + e) (hs1 : s <= mid) (hs2 : mid <= e)
  (hx : ∀ y,m <= y -> y < e -> s < m -> lt (d y) (d s) = true) (hy : ∀ x,a <= x -> x < s -> e < b -> lt (d e) (d x) = false) :
  BZ lt (BZ lt (Cd d s m e) a s mid) mid e b = BZ lt d a m b := by
 have r := El d h2 h3
 have e1 : A3 (Cd d s m e) a s = A3 d a s := Cl fun i i1 i2 => by rw [r,if_neg (by omega)]
 have e2 : A3 (Cd d s m e) s mid = A3 d m e := by
  apply List.ext_getElem?
  intro i
  rw [Bl,Bl]
  by_cases hi : i < mid - s
  ·rw [if_pos hi,if_pos (by omega),r,if_pos (by omega),if_pos (by omega),show m + (s + i - s) = m + i by omega]
  rw [if_neg hi,if_neg (by omega)]
 have e3 : A3 (Cd d s m e) mid e = A3 d s m := by
  apply List.ext_getElem?
  intro i
  rw [Bl,Bl]
  by_cases hi : i < e - mid
  ·rw [if_pos hi,if_pos (by omega),r,if_pos (by omega),if_neg (by omega),show mid + i - (e - m) = s + i by omega]
  rw [if_neg hi,if_neg (by omega)]
 have e4 : A3 (Cd d s m e) e b = A3 d e b := Cl fun i i1 i2 => by rw [r,if_neg (by omega)]
 generalize hR : Cd d s m e = R at *
 have l1 : (mrg lt (A3 d a s) (A3 d m e)).length = mid - a := by rw [Hv,Bu,Bu]; omega
 have o : ∀ i,mid <= i -> BZ lt R a s mid i = R i := fun i hi => by
  unfold BZ; rw [e1,e2]; exact F6 _ _ _ (.inr (by rw [l1]; omega))
 have e5 : A3 (BZ lt R a s mid) mid e = A3 d s m := by rw [<- e3]; exact Cl fun i i1 _ => o i i1
 have e6 : A3 (BZ lt R a s mid) e b = A3 d e b := by rw [<- e4]; exact Cl fun i i1 _ => o i (by omega)
 have key : mrg lt (A3 d a m) (A3 d m b) = mrg lt (A3 d a s) (A3 d m e) ++ mrg lt (A3 d s m) (A3 d e b) := by
  rw [<- Dt d h1 h2,<- Dt d h3 h4]
  refine Fj _ _ _ _ (fun x hx' y hy' => ?_) fun y hy' x hx' => ?_
  ·rw [List.head?_eq_getElem?,Bl] at hx'
   split at hx'
   ·cases hx'
    obtain ⟨q,hq⟩ := List.getElem?_of_mem hy'
    rw [Bl] at hq
    split at hq
    ·cases hq; exact hx _ (by omega) (by omega) (by omega)
    cases hq
   cases hx'
  rw [List.head?_eq_getElem?,Bl] at hy'
  split at hy'
  ·cases hy'
   obtain ⟨q,hq⟩ := List.getElem?_of_mem hx'
   rw [Bl] at hq
   split at hq
   ·cases hq; exact hy _ (by omega) (by omega) (by omega)
   cases hq
  cases hy'
 show BU (BZ lt R a s mid) mid (mrg lt (A3 (BZ lt R a s mid) mid e) (A3 (BZ lt R a s mid) e b)) = _
 rw [e5,e6,Tj (d := R) (a := a) (L := mrg lt (A3 d a s) (A3 d m e)) (by unfold BZ; rw [e1,e2]) (by rw [l1]; omega),<- key]
 unfold BZ
 funext i
 have l2 : (mrg lt (A3 d a m) (A3 d m b)).length = b - a := by rw [Hv,Bu,Bu]; omega
 rw [Co,Co,l2]
 by_cases hi : a <= i /\ i < a + (b - a)
 ·rw [if_pos hi,if_pos hi,List.getD_eq_getElem?_getD,List.getD_eq_getElem?_getD,List.getElem?_eq_getElem (by rw [l2]; omega)]; rfl
 rw [if_neg hi,if_neg hi,r,if_neg (show ¬ (s <= i /\ i < e) by omega)]
def DD (d : Nat -> α) (p : Nat) (S : List α) (x : α) (k y : Nat) : α := if y < p then d y else if y < p + k then S.getD (y - p) (d y) else if y = p + k then x else if y <= p + S.length then S.getD (y - 1 - p) (d y) else d y
theorem Hy (d : Nat -> α) (p : Nat) (S : List α) (x : α) {k : Nat} (hk : 0 < k) (hl : k <= S.length) (y : Nat) : DD d p S x (k - 1) y = if y = p + k - 1 then x else if y = p + k then S.getD (k - 1) (d y) else DD d p S x k y := by
 unfold DD
 by_cases e1 : y = p + k - 1
 ·rw [if_pos e1,if_neg (by omega),if_neg (by omega),if_pos (by omega)]
 rw [if_neg e1]
 by_cases e2 : y = p + k
 ·rw [if_pos e2,if_neg (by omega),if_neg (by omega),if_neg (by omega),if_pos (by omega),show y - 1 - p = k - 1 by omega]
 rw [if_neg e2]
 by_cases e3 : y < p
 ·rw [if_pos e3,if_pos e3]
 rw [if_neg e3,if_neg e3]
 by_cases e4 : y < p + (k - 1)
 ·rw [if_pos e4,if_pos (show y < p + k by omega)]
 rw [if_neg e4,if_neg (show ¬ y = p + (k - 1) by omega),if_neg (show ¬ y < p + k by omega),if_neg e2]
theorem I3 (d : Nat -> α) (p : Nat) (S : List α) (h : i = p + S.length) : DD d p S (d i) S.length = BU d p S := by
 funext y
 rw [Co]
 unfold DD
 by_cases e1 : y < p
 ·rw [if_pos e1,if_neg (by omega)]
 rw [if_neg e1]
 by_cases e2 : y < p + S.length
 ·rw [if_pos e2,if_pos (by omega)]
 rw [if_neg e2,if_neg (show ¬ (p <= y /\ y < p + S.length) by omega)]
 by_cases e3 : y = p + S.length
 ·rw [if_pos e3,h,e3]
 rw [if_neg e3,if_neg (by omega)]
theorem KI (d : Nat -> α) (p : Nat) (S : List α) (x : α) {k : Nat} (hk : k <= S.length) : DD d p S x k = BU d p (S.take k ++ x :: S.drop k) := by
 funext y
 have hl : (S.take k ++ x :: S.drop k).length = S.length + 1 := by rw [List.length_append,List.length_take,List.length_cons,List.length_drop]; omega
 rw [Co,hl]
 unfold DD
 by_cases e1 : y < p
 ·rw [if_pos e1,if_neg (show ¬ (p <= y /\ y < p + (S.length + 1)) by omega)]
 rw [if_neg e1]
 by_cases e0 : y < p + (S.length + 1)
 ·rw [if_pos (show p <= y /\ y < p + (S.length + 1) by omega)]
  simp only [List.getD_eq_getElem?_getD]
  rw [List.getElem?_append,List.length_take,Nat.min_eq_left hk]
  by_cases e2 : y < p + k
  ·rw [if_pos e2,if_pos (show y - p < k by omega),List.getElem?_take,if_pos (show y - p < k by omega)]
  rw [if_neg e2,if_neg (show ¬ y - p < k by omega)]
  by_cases e3 : y = p + k
  ·rw [if_pos e3,show y - p - k = 0 by omega]; rfl
  rw [if_neg e3,if_pos (show y <= p + S.length by omega),show y - p - k = (y - p - k - 1) + 1 by omega,List.getElem?_cons_succ,List.getElem?_drop,show k + (y - p - k - 1) = y - 1 - p by omega]
 rw [if_neg (show ¬ (p <= y /\ y < p + (S.length + 1)) by omega),if_neg (show ¬ y < p + k by omega),if_neg (show ¬ y = p + k by omega),if_neg (show ¬ y <= p + S.length by omega)]
theorem IE (x : α) : ∀ (L : List α) (k : Nat),k <= L.length -> (∀ i y,i < k -> L[i]? = some y -> lt x y = false) -> (∀ y,L[k]? = some y -> lt x y = true) -> CP lt x L = L.take k ++ x :: L.drop k
 | [],k,h,_,_ => by
  obtain rfl : k = 0 := by simpa using h
  rfl
 | y :: L,0,_,_,h2 => by rw [CP,if_pos (h2 y rfl)]; rfl
 | y :: L,k + 1,h,h1,h2 => by
  have h3 := h1 0 y (by omega) rfl
  rw [CP,if_neg (by rw [h3]; simp),IE x L k (by simpa using h) (fun i z hi hz => h1 (i + 1) z (by omega) hz) fun z hz => h2 z hz]
  rfl
structure Ob (F : Nat -> α) (m i j : Nat) (e : Nat -> α) : Prop where
 i0 : 0 < i
 j0 : 0 < j
 im : i <= m
 A : ∀ p,p < m - i \/ m + j <= p -> e p = F p
 B : ∀ q,q < j -> F (m - i + q) = e (m + q)
 C : ∀ q,q < i -> F (m - i + j + q) = e (m - i + q)
theorem Ob.begin (d : Nat -> α) (h1 : a < m) (h2 : m < b) : Ob (Cd d a m b) m (m - a) (b - m) d := by
 have r := El d (Nat.le_of_lt h1) (Nat.le_of_lt h2)
 refine ⟨by omega,by omega,by omega,fun p hp => by rw [r,if_neg (by omega)],fun q hq => ?_,fun q hq => ?_⟩
 ·rw [r,if_pos (by omega),if_pos (by omega)]; congr 1; omega
 rw [r,if_pos (by omega),if_neg (by omega)]; congr 1; omega
theorem Ob.left {F : Nat -> α} {e : Nat -> α} (h : Ob F m i j e) (hij : j < i) : Ob F m (i - j) j (C2 e (m - i) m j) := by
 obtain ⟨i0,j0,im,A,B,C⟩ := h
 refine ⟨by omega,j0,by omega,fun p hp => ?_,fun q hq => ?_,fun q hq => ?_⟩
 ·unfold C2
  by_cases e1 : m - i <= p /\ p < m - i + j
  ·rw [if_pos e1]
   have := B (p - (m - i)) (by omega)
   rw [<- this]; congr 1; omega
  rw [if_neg e1,if_neg (by omega)]; exact A p (by omega)
 ·have := C q (by omega)
  unfold C2
  rw [if_neg (by omega),if_pos (by omega),show m - (i - j) + q = m - i + j + q by omega,this]; congr 1; omega
 have := C (j + q) (by omega)
 unfold C2
 rw [if_neg (by omega),if_neg (by omega),show m - (i - j) + j + q = m - i + j + (j + q) by omega,this]; congr 1; omega
theorem Ob.right {F : Nat -> α} {e : Nat -> α} (h : Ob F m i j e) (hij : i < j) : Ob F m i (j - i) (C2 e (m - i) (m + j - i) i) := by
 obtain ⟨i0,j0,im,A,B,C⟩ := h
 refine ⟨i0,by omega,im,fun p hp => ?_,fun q hq => ?_,fun q hq => ?_⟩
 ·unfold C2
  rw [if_neg (by omega)]
  by_cases e1 : m + j - i <= p /\ p < m + j - i + i
  ·rw [if_pos e1]
   have := C (p - (m + j - i)) (by omega)
   rw [<- this]; congr 1; omega
  rw [if_neg e1]; exact A p (by omega)
 ·have := B q (by omega)
  unfold C2
  rw [if_neg (by omega),if_neg (by omega)]; exact this
 have := B (j - i + q) (by omega)
 unfold C2
 rw [if_pos (by omega),show m - i + (j - i) + q = m - i + (j - i + q) by omega,this]; congr 1; omega
theorem Ob.done {F : Nat -> α} {e : Nat -> α} (h : Ob F m i i e) : C2 e (m - i) m i = F := by
 obtain ⟨i0,j0,im,A,B,C⟩ := h
 funext p
 unfold C2
 by_cases e1 : m - i <= p /\ p < m - i + i
 ·rw [if_pos e1,<- B (p - (m - i)) (by omega)]; congr 1; omega
 rw [if_neg e1]
 by_cases e2 : m <= p /\ p < m + i
 ·rw [if_pos e2,<- C (p - m) (by omega)]; congr 1; omega
 rw [if_neg e2]; exact A p (by omega)
theorem EP.at {d : Nat -> α} (h : EP lt (A3 d p q)) (h1 : p <= i) (h2 : i < j) (h3 : j < q) : lt (d j) (d i) = false := by
 have := List.pairwise_iff_getElem.1 h (i - p) (j - p) (by rw [Bu]; omega) (by rw [Bu]; omega) (by omega)
 have g : ∀ y,p <= y -> y < q -> ∀ hy,(A3 d p q)[y - p]'hy = d y := fun y y1 y2 hy => by
  have := Bl d p q (y - p)
  rw [if_pos (by omega),List.getElem?_eq_getElem hy,show p + (y - p) = y by omega] at this
  exact Option.some.inj this
 rw [g i h1 (by omega),g j (by omega) h3] at this
 exact this
theorem EP.of {d : Nat -> α} (h : ∀ i j,p <= i -> i < j -> j < q -> lt (d j) (d i) = false) : EP lt (A3 d p q) := by
 refine List.pairwise_iff_getElem.2 fun i j hi hj hij => ?_
 rw [Bu] at hi hj
 have g : ∀ y (hy : y < (A3 d p q).length),(A3 d p q)[y] = d (p + y) := fun y hy => by
  have := Bl d p q y
  rw [Bu] at hy
  rw [if_pos hy,List.getElem?_eq_getElem (by rw [Bu]; exact hy)] at this
  exact Option.some.inj this
 rw [g,g]
 exact h _ _ (by omega) (by omega) (by omega)
theorem EP.part {d : Nat -> α} (h : EP lt (A3 d p q)) (h1 : p <= a) (h2 : b <= q) : EP lt (A3 d a b) :=
 EP.of fun i j i1 i2 i3 => h.at (by omega) i2 (by omega)
theorem Hq (d : Nat -> α) {e mid : Nat} (h2 : s <= m) (h3 : m <= e) (h5 : mid + m = s + e) :
  A3 (Cd d s m e) a s = A3 d a s /\ A3 (Cd d s m e) s mid = A3 d m e /\ A3 (Cd d s m e) mid e = A3 d s m /\ A3 (Cd d s m e) e b = A3 d e b := by
 have r := El d h2 h3
 refine ⟨Cl fun i i1 i2 => by rw [r,if_neg (by omega)],?_,?_,Cl fun i i1 i2 => by rw [r,if_neg (by omega)]⟩
 ·apply List.ext_getElem?
  intro i
  rw [Bl,Bl]
  by_cases hi : i < mid - s
  ·rw [if_pos hi,if_pos (by omega),r,if_pos (by omega),if_pos (by omega),show m + (s + i - s) = m + i by omega]
  rw [if_neg hi,if_neg (by omega)]
 apply List.ext_getElem?
 intro i
 rw [Bl,Bl]
 by_cases hi : i < e - mid
 ·rw [if_pos hi,if_pos (by omega),r,if_pos (by omega),if_neg (by omega),show mid + i - (e - m) = s + i by omega]
 rw [if_neg hi,if_neg (by omega)]
theorem LZ : ∀ (X : List α) (y : α),(∀ x ∈ X,lt y x = false) -> mrg lt X [y] = X ++ [y]
 | [],y,_ => rfl
 | x :: X,y,h => by
  rw [B7,if_neg (by rw [h x (by simp)]; simp),LZ X y fun x hx => h x (by simp [hx])]; rfl
theorem Qv (d : Nat -> α) (hb : a + 1 <= b) (h : a + 1 < b -> lt (d (a + 1)) (d a) = false) : BZ lt d a (a + 1) b = d := by
 by_cases e : a + 1 < b
 ·have : mrg lt (A3 d a (a + 1)) (A3 d (a + 1) b) = A3 d a b := by
   rw [Cb,<- Dt d (show a + 1 <= a + 1 + 1 by omega) (show a + 1 + 1 <= b by omega),Cb]
   show mrg lt [d a] (d (a + 1) :: A3 d (a + 1 + 1) b) = _
   rw [B7,if_neg (by rw [h e]; simp),<- Dt d (show a <= a + 1 by omega) hb,Cb,<- Dt d (show a + 1 <= a + 1 + 1 by omega) (show a + 1 + 1 <= b by omega),Cb]; rfl
  unfold BZ; rw [this,B8]
 exact CU d (by omega) hb (.inr (by omega))
theorem QU (d : Nat -> α) (ha : a <= m) (h : ∀ x,a <= x -> x < m -> lt (d m) (d x) = false) : BZ lt d a m (m + 1) = d := by
 have : mrg lt (A3 d a m) (A3 d m (m + 1)) = A3 d a (m + 1) := by
  rw [Cb,LZ _ _ fun x hx => ?_,<- Dt d ha (show m <= m + 1 by omega),Cb]
  obtain ⟨q,hq⟩ := List.getElem?_of_mem hx
  rw [Bl] at hq
  split at hq
  ·cases hq; exact h _ (by omega) (by omega)
  cases hq
 unfold BZ; rw [this,B8]
theorem Ms (hw : Sy lt) {d : Nat -> α} (hi1 : a + 1 <= i) (hi2 : i <= b) (hs : EP lt (A3 d (a + 1) b)) (h1 : i = a + 1 \/ lt (d (i - 1)) (d a) = true) (h2 : i = b \/ lt (d i) (d a) = false) : Cd d a (a + 1) i = BZ lt d a (a + 1) b := by
 have r := El d (show a <= a + 1 by omega) hi1
 rw [<- Eh (lt := lt) (d := d) (a := a) (m := a + 1) (b := b) (s := a) (e := i) (mid := i - 1) (Nat.le_refl _) (by omega) hi1 hi2 (by omega) (by omega) (by omega) (fun y y1 y2 _ => ?_) (fun x x1 x2 => by omega),CU _ (Nat.le_refl _) (by omega) (.inl rfl)]
 ·have := Qv (lt := lt) (Cd d a (a + 1) i) (a := i - 1) (b := b) (by omega) fun hb => by
   rw [show i - 1 + 1 = i by omega,r,if_neg (by omega),r,if_pos (by omega),if_neg (by omega),show i - 1 - (i - (a + 1)) = a by omega]
   exact h2.resolve_left (by omega)
  rw [show i - 1 + 1 = i by omega] at this
  exact this.symm
 rcases h1 with h1 | h1
 ·omega
 by_cases e : y = i - 1
 ·subst e; exact h1
 rcases hw.co _ (d y) _ h1 with h | h
 ·rw [hs.at y1 (show y < i - 1 by omega) (by omega)] at h; cases h
 exact h
theorem J6 (hw : Sy lt) {d : Nat -> α} (hi1 : a <= i) (hi2 : i <= m) (hs : EP lt (A3 d a m)) (h1 : i = a \/ lt (d m) (d (i - 1)) = false) (h2 : i = m \/ lt (d m) (d i) = true) : Cd d i m (m + 1) = BZ lt d a m (m + 1) := by
 have r := El d hi2 (show m <= m + 1 by omega)
 rw [<- Eh (lt := lt) (d := d) (a := a) (m := m) (b := m + 1) (s := i) (e := m + 1) (mid := i + 1) hi1 hi2 (by omega) (Nat.le_refl _) (by omega) (by omega) (by omega) (fun y y1 y2 hlt => ?_) (fun x x1 x2 => by omega),CU _ (by omega) (Nat.le_refl _) (.inr rfl)]
 ·refine (QU (lt := lt) _ hi1 fun x x1 x2 => ?_).symm
  rw [r,if_pos (by omega),if_pos (by omega),r,if_neg (by omega),show m + (i - i) = m by omega]
  rcases h1 with h1 | h1
  ·omega
  cases e : lt (d m) (d x) with
  | false => rfl
  | true =>
   by_cases e2 : x = i - 1
   ·subst e2; rw [h1] at e; cases e
   rcases hw.co _ (d (i - 1)) _ e with h | h
   ·rw [h1] at h; cases h
   rw [hs.at x1 (show x < i - 1 by omega) (by omega)] at h; cases h
 obtain rfl : y = m := by omega
 exact h2.resolve_left (by omega)
theorem Qn (d : Nat -> α) (h1 : a <= m) (h2 : m <= b) (h : i < a \/ b <= i) : BZ lt d a m b i = d i := by
 unfold BZ
 exact F6 _ _ _ (by rw [Hv,Bu,Bu]; omega)
theorem DV (d : Nat -> α) (h1 : a <= m) (h2 : m <= b) (h : b <= p) : A3 (BZ lt d a m b) p q = A3 d p q :=
 Cl fun i i1 _ => Qn d h1 h2 (.inr (by omega))
def KC (d : Nat -> α) (a k y : Nat) : α := if a <= y /\ y < k then d (y + 1) else if y = k then d a else d y
def J8 (d : Nat -> α) (m k y : Nat) : α := if y = k then d m else if k < y /\ y <= m then d (y - 1) else d y
theorem N7 (d : Nat -> α) (h : a + 1 <= i) : KC d a (i - 1) = Cd d a (a + 1) i := by
 funext y
 rw [El d (by omega) h]
 unfold KC
 by_cases e1 : a <= y /\ y < i - 1
 ·rw [if_pos e1,if_pos (by omega),if_pos (by omega)]; congr 1; omega
 rw [if_neg e1]
 by_cases e2 : y = i - 1
 ·rw [if_pos e2,if_pos (by omega),if_neg (by omega)]; congr 1; omega
 rw [if_neg e2,if_neg (by omega)]
theorem NT (d : Nat -> α) (h : i <= m) : J8 d m i = Cd d i m (m + 1) := by
 funext y
 rw [El d h (by omega)]
 unfold J8
 by_cases e1 : y = i
 ·rw [if_pos e1,if_pos (by omega),if_pos (by omega)]; congr 1; omega
 rw [if_neg e1]
 by_cases e2 : i < y /\ y <= m
 ·rw [if_pos e2,if_pos (by omega),if_neg (by omega)]; congr 1; omega
 rw [if_neg e2,if_neg (by omega)]
variable (lt)
structure GA (d : Nat -> α) (S n t : Nat) (e0 e : Nat -> α) : Prop where
 A : ∀ u,u < t -> S * u < n -> A3 e (S * u) (min (S * u + S) n) = AK lt (A3 d (S * u) (min (S * u + S) n))
 B : ∀ y,S * t <= y \/ n <= y -> e y = e0 y
structure Lc (d : Nat -> α) (S n : Nat) (e : Nat -> α) : Prop where
 A : ∀ u,S * u < n -> A3 e (S * u) (min (S * u + S) n) = AK lt (A3 d (S * u) (min (S * u + S) n))
 B : ∀ y,n <= y -> e y = d y
variable {lt}
theorem GA.zero (d : Nat -> α) (S n : Nat) (e0 : Nat -> α) : GA lt d S n 0 e0 e0 := ⟨fun u hu => by omega,fun _ _ => rfl⟩
theorem GA.put {d : Nat -> α} {e0 e : Nat -> α} (h : GA lt d S n t e0 e) (hq : q = min (S * t + S) n) (hp : S * t <= n) {L : List α} (hL : L = AK lt (A3 d (S * t) q)) : GA lt d S n (t + 1) e0 (BU e (S * t) L) := by
 have hl : L.length = q - S * t := by rw [hL,Dk,Bu]
 have hm : S * (t + 1) = S * t + S := Nat.mul_succ S t
 refine ⟨fun u hu hun => ?_,fun y hy => ?_⟩
 ·by_cases e1 : u = t
  ·subst e1
   rw [<- hq,<- hL]
   have := QP e (S * u) L
   rw [hl,show S * u + (q - S * u) = q by omega] at this
   exact this
  rw [<- h.A u (by omega) hun]
  have : S * (u + 1) <= S * t := Nat.mul_le_mul_left S (by omega)
  rw [Nat.mul_succ] at this
  exact Cl fun i i1 i2 => F6 _ _ _ (.inl (by omega))
 rw [F6 _ _ _ (.inr (by rw [hl]; omega))]
 exact h.B y (by omega)
theorem GA.full {d : Nat -> α} {e0 e : Nat -> α} (h : GA lt d S n t e0 e) (ht : n <= S * t) (h0 : ∀ y,n <= y -> e0 y = d y) : Lc lt d S n e := by
 refine ⟨fun u hu => h.A u ?_ hu,fun y hy => by rw [h.B y (.inr hy)]; exact h0 y hy⟩
 apply Classical.byContradiction
 intro hn
 have : S * t <= S * u := Nat.mul_le_mul_left S (by omega)
 omega
theorem GA.ins {d : Nat -> α} {e : Nat -> α} (h : GA lt d S n t d e) (hq : q = min (S * t + S) n) (hp : S * t <= n) : GA lt d S n (t + 1) d (BU e (S * t) (AK lt (A3 e (S * t) q))) :=
 h.put hq hp (by rw [Cl fun i i1 _ => h.B i (.inl i1)])
theorem GA.mrg (hw : Sy lt) {d : Nat -> α} {e0 e : Nat -> α} (h0 : Lc lt d s n e0) (h : GA lt d (2 * s) n t e0 e) (hq : q = min (2 * s * t + 2 * s) n) (hp : 2 * s * t + s < q) : GA lt d (2 * s) n (t + 1) e0 (BZ lt e (2 * s * t) (2 * s * t + s) q) := by
 have ea : s * (2 * t) = 2 * s * t := by rw [<- Nat.mul_assoc,Nat.mul_comm s 2]
 have eb : s * (2 * t + 1) = 2 * s * t + s := by rw [Nat.mul_succ,ea]
 have s1 := h0.A (2 * t) (by rw [ea]; omega)
 have s2 := h0.A (2 * t + 1) (by rw [eb]; omega)
 rw [ea,show min (2 * s * t + s) n = 2 * s * t + s by omega] at s1
 rw [eb,show min (2 * s * t + s + s) n = q by omega] at s2
 have hb : ∀ i,2 * s * t <= i -> e i = e0 i := fun i hi => h.B i (.inl hi)
 refine h.put hq (by omega) ?_
 rw [Cl (d := e) (e := e0) fun i i1 _ => hb i i1,Cl (d := e) (e := e0) (a := 2 * s * t + s) fun i i1 _ => hb i (by omega),s1,s2,OO hw,Dt d (by omega) (by omega)]
theorem GA.rest {d : Nat -> α} {e0 e : Nat -> α} (h0 : Lc lt d s n e0) (h : GA lt d (2 * s) n t e0 e) (hp : 2 * s * t <= n) (hn : n <= 2 * s * t + s) : GA lt d (2 * s) n (t + 1) e0 e := by
 have ea : s * (2 * t) = 2 * s * t := by rw [<- Nat.mul_assoc,Nat.mul_comm s 2]
 have hb : ∀ i,2 * s * t <= i -> e i = e0 i := fun i hi => h.B i (.inl hi)
 by_cases hlt : 2 * s * t < n
 ·have s1 := h0.A (2 * t) (by rw [ea]; omega)
  rw [ea,show min (2 * s * t + s) n = n by omega] at s1
  have := h.put (q := n) (by omega) hp (L := A3 e (2 * s * t) n) (by rw [<- s1]; exact Cl fun i i1 _ => hb i i1)
  rwa [B8] at this
 have : 2 * s * t = n := by omega
 have := h.put (q := n) (by omega) hp (L := []) (by rw [DS d (by omega)]; rfl)
 have e1 : BU e (2 * s * t) [] = e := by
  have := B8 e (2 * s * t) (2 * s * t)
  rwa [DS e (Nat.le_refl _)] at this
 rwa [e1] at this
theorem Lc.done {d : Nat -> α} {e : Nat -> α} (h : Lc lt d S n e) (hn : n <= S) : e = BU d 0 (AK lt (A3 d 0 n)) := by
 have hl : (AK lt (A3 d 0 n)).length = n := by rw [Dk,Bu]; omega
 rcases Nat.eq_zero_or_pos n with h0 | h0
 ·subst h0
  funext y
  rw [h.B y (Nat.zero_le _),F6 _ _ _ (.inr (by rw [hl]; omega))]
 have h1 := h.A 0 (by omega)
 rw [Nat.mul_zero,show min (0 + S) n = n by omega] at h1
 rw [<- h1]
 funext y
 rw [Co,Bu]
 by_cases e1 : 0 <= y /\ y < 0 + (n - 0)
 ·rw [if_pos e1,List.getD_eq_getElem?_getD,Bl,if_pos (by omega)]
  show e y = e (0 + (y - 0))
  congr 1; omega
 rw [if_neg e1]; exact h.B y (by omega)
end
end Go.Proofs.YtlieoghhkioflaaGreat
namespace Go.Proofs.YtlieoghhkioflaaGreat
open Go Go.RowKit
def UB (n : Int) (p : Nat -> Int) (k : Nat) (i j : Nat) : Bool := decide (Dy n p k j < Dy n p k i)
theorem OF (n : Int) (p : Nat -> Int) (k x : Nat) : ∀ L : List Nat,(∀ y ∈ L,y < x) -> L.Pairwise (fun a b => Ds n p k a b = true) -> (CP (UB n p k) x L).Pairwise fun a b => Ds n p k a b = true
 | [],_,_ => by simp [CP]
 | y :: L,hx,hs => by
  rw [List.pairwise_cons] at hs
  rw [CP]
  by_cases e : UB n p k x y = true
  ·rw [if_pos e,List.pairwise_cons,List.pairwise_cons]
   have e1 : Ds n p k x y = true := by
    unfold UB at e; unfold Ds
    exact decide_eq_true (.inl (of_decide_eq_true e))
   refine ⟨fun z hz => ?_,hs⟩
   rcases List.mem_cons.1 hz with rfl | hz
   ·exact e1
   exact Ig e1 (hs.1 z hz)
  rw [if_neg e,List.pairwise_cons]
  refine ⟨fun z hz => ?_,OF n p k x L (fun z hz => hx z (by simp [hz])) hs.2⟩
  rcases (FX x L z).1 hz with rfl | hz
  ·have e1 : ¬ Dy n p k y < Dy n p k z := fun h => e (decide_eq_true h)
   have := hx y (by simp)
   unfold Ds
   exact decide_eq_true (by omega)
  exact hs.1 z hz
def Fg (n : Int) (p : Nat -> Int) (k j : Nat) : List Nat := AK (UB n p k) (List.range j)
theorem Vp (n : Int) (p : Nat -> Int) (k j : Nat) : Fg n p k (j + 1) = CP (UB n p k) j (Fg n p k j) := by
 unfold Fg; rw [List.range_succ,B9]
theorem Je (n : Int) (p : Nat -> Int) (k j i : Nat) : i ∈ Fg n p k j ↔ i < j := by
 unfold Fg; rw [Gi,List.mem_range]
theorem LQ (n : Int) (p : Nat -> Int) (k j : Nat) : (Fg n p k j).length = j := by
 unfold Fg; rw [Dk,List.length_range]
theorem I0 (n : Int) (p : Nat -> Int) (k : Nat) : ∀ j,(Fg n p k j).Pairwise fun a b => Ds n p k a b = true
 | 0 => List.Pairwise.nil
 | j + 1 => by
  rw [Vp]
  exact OF n p k j _ (fun y hy => (Je n p k j y).1 hy) (I0 n p k j)
theorem LW {O : List Nat} {t : Nat} (h : t < O.length) (i : Nat) : i ∈ O.take (t + 1) ↔ i ∈ O.take t \/ i = O[t] := by
 rw [List.take_add_one,List.getElem?_eq_getElem h,List.mem_append]
 show _ \/ i ∈ [O[t]] ↔ _
 rw [List.mem_singleton]
theorem IL (n : Int) (p : Nat -> Int) (k : Nat) : ∀ t,t <= k -> MA n p k (fun i => decide (i ∈ (Fg n p k k).take t)) t
 | 0,_ => (MA.zero n p k).congr fun i _ => by simp
 | t + 1,ht => by
  have ih := IL n p k t (by omega)
  have hl := LQ n p k k
  have hp := I0 n p k k
  have hm := Je n p k k
  generalize Fg n p k k = O at *
  have hb : O[t] < k := (hm _).1 (List.getElem_mem _)
  have hpw := List.pairwise_iff_getElem.1 hp
  have nin : O[t] ∉ O.take t := fun h => by
   obtain ⟨q,hq,he⟩ := List.getElem_of_mem h
   rw [List.length_take] at hq
   rw [List.getElem_take] at he
   have := hpw q t (by omega) (by omega) (by omega)
   rw [he,Fz] at this; cases this
  refine (ih.next hb (decide_eq_false nin) fun j hj hjn => ?_).congr fun i _ => ?_
  ·have hjn := of_decide_eq_false hjn
   obtain ⟨q,hq,he⟩ := List.getElem_of_mem ((hm j).2 hj)
   cases e : Ds n p k j O[t] with
   | false => rfl
   | true =>
    exfalso
    by_cases c1 : q < t
    ·refine hjn ?_
     rw [<- he,List.mem_take_iff_getElem]
     exact ⟨q,by omega,rfl⟩
    by_cases c2 : q = t
    ·subst c2; rw [<- he,Fz] at e; cases e
    have h1 := hpw t q (by omega) (by omega) (by omega)
    rw [he] at h1
    have := Ig h1 e
    rw [Fz] at this; cases this
  have := LW (O := O) (t := t) (by omega) i
  by_cases c1 : i ∈ O.take t
  ·rw [decide_eq_true c1,decide_eq_true (this.2 (.inl c1))]; rfl
  by_cases c2 : i = O[t]
  ·rw [decide_eq_true c2,decide_eq_true (this.2 (.inr c2)),Bool.or_true]
  rw [decide_eq_false c1,decide_eq_false c2,decide_eq_false fun k => (this.1 k).elim c1 c2]; rfl
theorem QY {n : Int} {p : Nat -> Int} {k t : Nat} (ht : t < k) : ∃ b,(Fg n p k k)[t]? = some b /\ b < k /\ ¬ GF n p k b < t /\ ∀ i,i < k -> (GF n p k i < t + 1 ↔ GF n p k i < t \/ i = b) := by
 have hl := LQ n p k k
 have hb : (Fg n p k k)[t] < k := (Je n p k k _).1 (List.getElem_mem _)
 refine ⟨(Fg n p k k)[t],List.getElem?_eq_getElem (by omega),hb,fun hr => ?_,fun i hi => ?_⟩
 ·have h1 := (IL n p k t (by omega)).iff hb
  have h1 : (Fg n p k k)[t] ∈ (Fg n p k k).take t ↔ GF n p k (Fg n p k k)[t] < t := by simpa [GF] using h1
  obtain ⟨q,hq,he⟩ := List.getElem_of_mem (h1.2 hr)
  rw [List.length_take] at hq
  rw [List.getElem_take] at he
  have := List.pairwise_iff_getElem.1 (I0 n p k k) q t (by omega) (by omega) (by omega)
  rw [he,Fz] at this; cases this
 have h1 := (IL n p k t (by omega)).iff hi
 have h2 := (IL n p k (t + 1) ht).iff hi
 have h1 : i ∈ (Fg n p k k).take t ↔ GF n p k i < t := by simpa [GF] using h1
 have h2 : i ∈ (Fg n p k k).take (t + 1) ↔ GF n p k i < t + 1 := by simpa [GF] using h2
 rw [<- h1,<- h2]
 exact LW (by omega) i
end Go.Proofs.YtlieoghhkioflaaGreat
