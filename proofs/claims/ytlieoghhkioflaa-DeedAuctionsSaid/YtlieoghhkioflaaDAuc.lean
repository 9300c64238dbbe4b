/- Auctions, plain: the search and the trial of all sets find the same list. No condition. -/
import Derived.Test.YtlieoghhkioflaaE4
set_option linter.unusedSimpArgs false
set_option linter.unusedVariables false
namespace Go.Proofs.Ytlieoghhkioflaa
def earl : List Nat → List Nat → Bool
 | [],[] => false
 | [],_ :: _ => true
 | _ :: _,[] => false
 | a :: x,b :: y => if a = b then earl x y else decide (a < b)
theorem earl_irr (x : List Nat) : earl x x = false := by
 induction x with
 | nil => rfl
 | cons a x ih => simp [earl,ih]
theorem earl_asym : ∀ (x y : List Nat),earl x y = true → earl y x = false
 | [],[],h => by simp [earl] at h
 | [],_ :: _,_ => rfl
 | _ :: _,[],h => by simp [earl] at h
 | a :: x,b :: y,h => by
   by_cases e : a = b
   ·subst e; simp [earl] at h ⊢; exact earl_asym x y h
   ·simp [earl,e] at h
    have e' : ¬ b = a := fun z => e z.symm
    simp [earl,e']; omega
theorem earl_tot : ∀ (x y : List Nat),earl x y = false → earl y x = false → x = y
 | [],[],_,_ => rfl
 | [],_ :: _,h,_ => by simp [earl] at h
 | _ :: _,[],_,h => by simp [earl] at h
 | a :: x,b :: y,h,g => by
   by_cases e : a = b
   ·subst e; simp [earl] at h g; rw [earl_tot x y h g]
   ·have e' : ¬ b = a := fun z => e z.symm
    simp [earl,e] at h; simp [earl,e'] at g; omega
theorem earl_tr : ∀ (x y z : List Nat),earl x y = true → earl y z = true → earl x z = true
 | [],_,[],h,g => by
   rename_i y; cases y <;> simp [earl] at h g
 | [],_,_ :: _,_,_ => rfl
 | _ :: _,[],_,h,_ => by simp [earl] at h
 | _ :: _,_ :: _,[],_,g => by simp [earl] at g
 | a :: x,b :: y,c :: z,h,g => by
   by_cases e : a = b
   ·subst e
    by_cases f : a = c
    ·subst f; simp [earl] at h g ⊢; exact earl_tr x y z h g
    ·simp [earl,f] at g ⊢; exact g
   ·simp [earl,e] at h
    by_cases f : b = c
    ·subst f; simp [earl,e]; exact h
    ·simp [earl,f] at g
     have : ¬ a = c := by omega
     simp [earl,this]; omega
theorem earl_app (l x y : List Nat) : earl (l ++ x) (l ++ y) = earl x y := by
 induction l with
 | nil => rfl
 | cons a l ih => simp [earl,ih]
theorem earl_pre (l : List Nat) (i : Nat) (e : List Nat) : earl l (l ++ i :: e) = true := by
 have := earl_app l [] (i :: e)
 simpa [earl] using this
def exts (n : Nat) (ok : List Nat → Nat → Bool) : Nat → List Nat → List (List Nat)
 | 0,_ => []
 | k + 1,l =>
   (if ok l (n - (k + 1)) then
    (l ++ [n - (k + 1)]) :: exts n ok k (l ++ [n - (k + 1)]) else []) ++ exts n ok k l
def okL (ok : List Nat → Nat → Bool) : List Nat → List Nat → Bool
 | _,[] => true
 | l,i :: e => ok l i && okL ok (l ++ [i]) e
def ris (n : Nat) : Nat → List Nat → Bool
 | _,[] => true
 | a,i :: e => decide (a ≤ i) && decide (i < n) && ris n (i + 1) e
theorem ris_le (n : Nat) : ∀ (e : List Nat) (a b : Nat),b ≤ a → ris n a e = true → ris n b e = true
 | [],_,_,_,_ => rfl
 | i :: e,a,b,h,g => by
   simp [ris] at g ⊢; exact ⟨⟨by omega,g.1.2⟩,g.2⟩
theorem mem_exts (n : Nat) (ok : List Nat → Nat → Bool) : ∀ (k : Nat) (l x : List Nat),k ≤ n →
  (x ∈ exts n ok k l ↔ ∃ i e,x = l ++ i :: e ∧ ris n (n - k) (i :: e) = true ∧ okL ok l (i :: e) = true)
 | 0,l,x,_ => by
   simp only [exts,List.not_mem_nil,false_iff]
   rintro ⟨i,e,_,h,_⟩
   simp [ris] at h; omega
 | k + 1,l,x,hk => by
   have h1 := mem_exts n ok k (l ++ [n - (k + 1)]) x (by omega)
   have h2 := mem_exts n ok k l x (by omega)
   simp only [exts,List.mem_append,h2]
   constructor
   ·rintro (h | ⟨i,e,rfl,hr,ho⟩)
    ·by_cases c : ok l (n - (k + 1)) = true
     ·simp only [c,if_true,List.mem_cons,h1] at h
      rcases h with rfl | ⟨i,e,rfl,hr,ho⟩
      ·exact ⟨n - (k + 1),[],rfl,by simp [ris]; omega,by simp [okL,c]⟩
      ·refine ⟨n - (k + 1),i :: e,by simp,?_,?_⟩
       ·have q : n - (k + 1) + 1 = n - k := by omega
        rw [ris]; rw [q,hr]; simp; omega
       ·rw [okL,c,ho]; rfl
     ·simp [c] at h
    ·exact ⟨i,e,rfl,ris_le n _ _ _ (by omega) hr,ho⟩
   ·rintro ⟨i,e,rfl,hr,ho⟩
    by_cases c : i = n - (k + 1)
    ·left
     subst c
     rw [okL] at ho; rw [ris] at hr
     have q : n - (k + 1) + 1 = n - k := by omega
     simp only [Bool.and_eq_true] at ho hr
     simp only [ho.1,if_true,List.mem_cons,h1]
     cases e with
     | nil => left; rfl
     | cons j e => right; exact ⟨j,e,by simp,by rw [← q]; exact hr.2,ho.2⟩
    ·right
     refine ⟨i,e,rfl,?_,ho⟩
     rw [ris] at hr ⊢
     simp at hr ⊢
     exact ⟨⟨by omega,hr.1.2⟩,hr.2⟩
theorem exts_sorted (n : Nat) (ok : List Nat → Nat → Bool) : ∀ (k : Nat) (l : List Nat),k ≤ n →
  (exts n ok k l).Pairwise (fun x y => earl x y = true)
 | 0,l,_ => by simp [exts]
 | k + 1,l,hk => by
   rw [exts,List.pairwise_append]
   refine ⟨?_,exts_sorted n ok k l (by omega),?_⟩
   ·split
    ·rw [List.pairwise_cons]
     refine ⟨?_,exts_sorted n ok k _ (by omega)⟩
     intro y hy
     rw [mem_exts n ok k _ _ (by omega)] at hy
     obtain ⟨i,e,rfl,_,_⟩ := hy
     exact earl_pre _ _ _
    ·exact List.Pairwise.nil
   ·intro x hx y hy
    rw [mem_exts n ok k _ _ (by omega)] at hy
    obtain ⟨j,f,rfl,hr,_⟩ := hy
    have hj : n - k ≤ j ∧ j < n := by rw [ris] at hr; simp at hr; exact ⟨by omega,hr.1.2⟩
    have key : ∃ e,x = l ++ (n - (k + 1)) :: e := by
     split at hx
     ·rcases List.mem_cons.1 hx with rfl | h
      ·exact ⟨[],rfl⟩
      ·rw [mem_exts n ok k _ _ (by omega)] at h
       obtain ⟨i,e,rfl,_,_⟩ := h
       exact ⟨i :: e,by simp⟩
     ·simp at hx
    obtain ⟨e,rfl⟩ := key
    rw [earl_app]
    have : ¬ (n - (k + 1) = j) := by omega
    simp [earl,this]; omega
def up (val : List Nat → Int) (st : List Nat × Int) (l : List Nat) : List Nat × Int :=
 if val l > st.2 then (l,val l) else st
structure Best (val : List Nat → Int) (S : List Nat → Prop) (st : List Nat × Int) : Prop where
 mem : S st.1
 eqv : val st.1 = st.2
 top : ∀ l,S l → val l ≤ st.2
 fst : ∀ l,S l → val l = st.2 → earl l st.1 = false
theorem Best.uniq {val : List Nat → Int} {S : List Nat → Prop} {a b : List Nat × Int}
  (ha : Best val S a) (hb : Best val S b) : a = b := by
 have e2 : a.2 = b.2 := by
  have h1 := ha.top _ hb.mem
  have h2 := hb.top _ ha.mem
  rw [hb.eqv] at h1; rw [ha.eqv] at h2; omega
 have e1 : a.1 = b.1 :=
  earl_tot _ _ (hb.fst _ ha.mem (by rw [ha.eqv,e2])) (ha.fst _ hb.mem (by rw [hb.eqv,e2]))
 cases a; cases b; simp_all
theorem fold_best (val : List Nat → Int) : ∀ (xs : List (List Nat)) (S : List Nat → Prop) (st : List Nat × Int),
  Best val S st → xs.Pairwise (fun x y => earl x y = true) →
  (∀ x,x ∈ xs → ∀ y,S y → earl y x = true) →
  Best val (fun l => S l ∨ l ∈ xs) (xs.foldl (up val) st)
 | [],S,st,hb,_,_ => by
   simpa using hb
 | x :: xs,S,st,hb,hp,hs => by
   rw [List.pairwise_cons] at hp
   have hb' : Best val (fun l => S l ∨ l = x) (up val st x) := by
    unfold up
    split
    ·rename_i h
     refine ⟨Or.inr rfl,rfl,?_,?_⟩
     ·rintro l (h1 | rfl)
      ·have := hb.top l h1; show val l ≤ val x; omega
      ·exact Int.le_refl _
     ·rintro l (h1 | rfl) h2
      ·have := hb.top l h1; have h2 : val l = val x := h2; omega
      ·exact earl_irr _
    ·rename_i h
     refine ⟨Or.inl hb.mem,hb.eqv,?_,?_⟩
     ·rintro l (h1 | rfl)
      ·exact hb.top l h1
      ·omega
     ·rintro l (h1 | rfl) h2
      ·exact hb.fst l h1 h2
      ·exact earl_asym _ _ (hs l (List.mem_cons_self ..) _ hb.mem)
   have := fold_best val xs _ _ hb' hp.2 (by
    intro y hy z hz
    rcases hz with hz | rfl
    ·exact hs y (List.mem_cons_of_mem _ hy) z hz
    ·exact hp.1 y hy)
   have e : (fun l => (S l ∨ l = x) ∨ l ∈ xs) = (fun l => S l ∨ l ∈ x :: xs) := by
    funext l; simp [or_assoc]
   rw [e] at this
   exact this
def srch (n : Nat) (ok : List Nat → Nat → Bool) (val : List Nat → Int) : List Nat × Int :=
 (exts n ok n []).foldl (up val) ([],0)
theorem srch_best (n : Nat) (ok : List Nat → Nat → Bool) (val : List Nat → Int) (h0 : val [] = 0) :
  Best val (fun l => ris n 0 l = true ∧ okL ok [] l = true) (srch n ok val) := by
 have hb : Best val (fun l => l = []) ([],0) :=
  ⟨rfl,h0,by rintro l rfl; simp [h0],by rintro l rfl _; rfl⟩
 have := fold_best val (exts n ok n []) _ _ hb (exts_sorted n ok n [] (Nat.le_refl _)) (by
  intro x hx y hy
  rw [mem_exts n ok n _ _ (Nat.le_refl _)] at hx
  obtain ⟨i,e,rfl,_⟩ := hx
  subst hy; rfl)
 have e : (fun l => l = [] ∨ l ∈ exts n ok n []) = (fun l => ris n 0 l = true ∧ okL ok [] l = true) := by
  funext l
  rw [mem_exts n ok n _ _ (Nat.le_refl _)]
  apply propext
  constructor
  ·rintro (rfl | ⟨i,e,rfl,h1,h2⟩)
   ·exact ⟨rfl,rfl⟩
   ·simp only [Nat.sub_self] at h1; exact ⟨h1,h2⟩
  ·rintro ⟨h1,h2⟩
   cases l with
   | nil => exact Or.inl rfl
   | cons i e => exact Or.inr ⟨i,e,rfl,by simpa using h1,h2⟩
 rw [e] at this
 exact this
def bl (n s : Nat) : List Nat := (List.range n).filter (fun i => s.testBit i)
def upE (val : List Nat → Int) (S : List Nat → Bool) (st : List Nat × Int) (l : List Nat) : List Nat × Int :=
 if S l && (decide (val l > st.2) || decide (val l = st.2) && earl l st.1) then (l,val l) else st
theorem foldE_best (val : List Nat → Int) (S : List Nat → Bool) : ∀ (xs : List (List Nat)) (T : List Nat → Prop) (st : List Nat × Int),
  Best val T st →
  Best val (fun l => T l ∨ (l ∈ xs ∧ S l = true)) (xs.foldl (upE val S) st)
 | [],T,st,hb => by simpa using hb
 | x :: xs,T,st,hb => by
   have hb' : Best val (fun l => T l ∨ (l = x ∧ S x = true)) (upE val S st x) := by
    unfold upE
    split
    ·rename_i h
     simp only [Bool.and_eq_true,Bool.or_eq_true,decide_eq_true_eq] at h
     obtain ⟨h1,h2⟩ := h
     refine ⟨Or.inr ⟨rfl,h1⟩,rfl,?_,?_⟩
     ·rintro l (h3 | ⟨rfl,_⟩)
      ·have := hb.top l h3; show val l ≤ val x; omega
      ·exact Int.le_refl _
     ·rintro l (h3 | ⟨rfl,_⟩) h4
      ·have h4 : val l = val x := h4
       have := hb.top l h3
       rcases h2 with h2 | ⟨h2,h5⟩
       ·omega
       ·have h6 := hb.fst l h3 (by omega)
        cases q : earl l x with
        | false => rfl
        | true => rw [earl_tr l x st.1 q h5] at h6; exact absurd h6 (by decide)
      ·exact earl_irr _
    ·rename_i h
     simp only [Bool.and_eq_true,Bool.or_eq_true,decide_eq_true_eq] at h
     refine ⟨Or.inl hb.mem,hb.eqv,?_,?_⟩
     ·rintro l (h3 | ⟨rfl,h3⟩)
      ·exact hb.top l h3
      ·apply Int.not_lt.1
       intro q
       exact h ⟨h3,Or.inl q⟩
     ·rintro l (h3 | ⟨rfl,h3⟩) h4
      ·exact hb.fst l h3 h4
      ·cases q : earl l st.1 with
       | false => rfl
       | true => exact absurd ⟨h3,Or.inr ⟨h4,q⟩⟩ h
   have := foldE_best val S xs _ _ hb'
   have e : (fun l => (T l ∨ (l = x ∧ S x = true)) ∨ (l ∈ xs ∧ S l = true)) = (fun l => T l ∨ (l ∈ x :: xs ∧ S l = true)) := by
    funext l
    apply propext
    simp only [List.mem_cons]
    constructor
    ·rintro ((h | ⟨rfl,h⟩) | ⟨h,g⟩)
     ·exact Or.inl h
     ·exact Or.inr ⟨Or.inl rfl,h⟩
     ·exact Or.inr ⟨Or.inr h,g⟩
    ·rintro (h | ⟨rfl | h,g⟩)
     ·exact Or.inl (Or.inl h)
     ·exact Or.inl (Or.inr ⟨rfl,g⟩)
     ·exact Or.inr ⟨h,g⟩
   rw [e] at this
   exact this
theorem mem_bl (n s i : Nat) : i ∈ bl n s ↔ i < n ∧ s.testBit i = true := by
 simp [bl]
theorem ris_sorted (n : Nat) : ∀ (e : List Nat) (a : Nat),ris n a e = true →
  e.Pairwise (fun x y => x < y) ∧ ∀ x,x ∈ e → a ≤ x ∧ x < n
 | [],_,_ => by simp
 | i :: e,a,h => by
   simp [ris] at h
   obtain ⟨h1,h2⟩ := ris_sorted n e (i + 1) h.2
   refine ⟨List.pairwise_cons.2 ⟨fun y hy => by have := h2 y hy; omega,h1⟩,?_⟩
   intro x hx
   rcases List.mem_cons.1 hx with rfl | hx
   ·exact h.1
   ·have := h2 x hx; omega
theorem sorted_ris (n : Nat) : ∀ (e : List Nat) (a : Nat),e.Pairwise (fun x y => x < y) →
  (∀ x,x ∈ e → a ≤ x ∧ x < n) → ris n a e = true
 | [],_,_,_ => rfl
 | i :: e,a,h,g => by
   rw [List.pairwise_cons] at h
   have g0 := g i (List.mem_cons_self ..)
   have := sorted_ris n e (i + 1) h.2 (fun x hx => ⟨by have := h.1 x hx; omega,(g x (List.mem_cons_of_mem _ hx)).2⟩)
   simp [ris,this]; omega
theorem bl_ris (n s : Nat) : ris n 0 (bl n s) = true :=
 sorted_ris n _ 0 (List.Pairwise.filter _ List.pairwise_lt_range) (fun x hx => ⟨Nat.zero_le _,((mem_bl n s x).1 hx).1⟩)
theorem sorted_ext : ∀ (x y : List Nat),x.Pairwise (fun a b => a < b) → y.Pairwise (fun a b => a < b) →
  (∀ i,i ∈ x ↔ i ∈ y) → x = y
 | [],[],_,_,_ => rfl
 | [],b :: y,_,_,h => by have := (h b).2 (List.mem_cons_self ..); simp at this
 | a :: x,[],_,_,h => by have := (h a).1 (List.mem_cons_self ..); simp at this
 | a :: x,b :: y,hx,hy,h => by
   rw [List.pairwise_cons] at hx hy
   have e : a = b := by
    rcases List.mem_cons.1 ((h a).1 (List.mem_cons_self ..)) with q | q
    ·exact q
    ·rcases List.mem_cons.1 ((h b).2 (List.mem_cons_self ..)) with p | p
     ·exact p.symm
     ·have := hy.1 a q; have := hx.1 b p; omega
   subst e
   rw [sorted_ext x y hx.2 hy.2]
   intro i
   constructor
   ·intro q
    rcases List.mem_cons.1 ((h i).1 (List.mem_cons_of_mem _ q)) with p | p
    ·subst p; exact absurd (hx.1 _ q) (Nat.lt_irrefl _)
    ·exact p
   ·intro q
    rcases List.mem_cons.1 ((h i).2 (List.mem_cons_of_mem _ q)) with p | p
    ·subst p; exact absurd (hy.1 _ q) (Nat.lt_irrefl _)
    ·exact p
def mk (e : List Nat) : Nat := e.foldr (fun i s => 2 ^ i ||| s) 0
theorem test_mk (i : Nat) : ∀ e : List Nat,(mk e).testBit i = true ↔ i ∈ e
 | [] => by simp [mk]
 | a :: e => by
   have := test_mk i e
   simp only [mk,List.foldr_cons,Nat.testBit_or,Bool.or_eq_true] at this ⊢
   rw [this,List.mem_cons,Nat.testBit_two_pow]
   constructor
   ·rintro (h | h)
    ·left; simp at h; exact h.symm
    ·exact Or.inr h
   ·rintro (rfl | h)
    ·left; simp
    ·exact Or.inr h
theorem bl_mk (n : Nat) (e : List Nat) (h : ris n 0 e = true) : bl n (mk e) = e := by
 obtain ⟨h1,h2⟩ := ris_sorted n e 0 h
 refine sorted_ext _ _ (List.Pairwise.filter _ List.pairwise_lt_range) h1 ?_
 intro i
 rw [mem_bl,test_mk]
 exact ⟨fun q => q.2,fun q => ⟨(h2 i q).2,q⟩⟩
theorem mk_lt (n : Nat) (e : List Nat) (h : ris n 0 e = true) : mk e < 2 ^ n := by
 apply Nat.lt_pow_two_of_testBit
 intro i hi
 cases q : (mk e).testBit i with
 | false => rfl
 | true =>
   rw [test_mk] at q
   have := ((ris_sorted n e 0 h).2 i q).2
   omega
theorem mk_pos (i : Nat) (e : List Nat) : 0 < mk (i :: e) := by
 apply Nat.pos_of_ne_zero
 intro h
 have := (test_mk i (i :: e)).2 (List.mem_cons_self ..)
 rw [h] at this; simp at this
def allS (n : Nat) (val : List Nat → Int) (S : List Nat → Bool) : List Nat × Int :=
 ((List.range' 1 (2 ^ n - 1)).map (bl n)).foldl (upE val S) ([],0)
theorem allS_best (n : Nat) (val : List Nat → Int) (S : List Nat → Bool) (h0 : val [] = 0) (hS : S [] = true) :
  Best val (fun l => ris n 0 l = true ∧ S l = true) (allS n val S) := by
 have hb : Best val (fun l => l = []) ([],0) :=
  ⟨rfl,h0,by rintro l rfl; simp [h0],by rintro l rfl _; rfl⟩
 have := foldE_best val S ((List.range' 1 (2 ^ n - 1)).map (bl n)) _ _ hb
 have e : (fun l => l = [] ∨ (l ∈ (List.range' 1 (2 ^ n - 1)).map (bl n) ∧ S l = true)) = (fun l => ris n 0 l = true ∧ S l = true) := by
  funext l
  apply propext
  constructor
  ·rintro (rfl | ⟨h1,h2⟩)
   ·exact ⟨rfl,hS⟩
   ·obtain ⟨s,_,rfl⟩ := List.mem_map.1 h1
    exact ⟨bl_ris n s,h2⟩
  ·rintro ⟨h1,h2⟩
   cases l with
   | nil => exact Or.inl rfl
   | cons i e =>
     refine Or.inr ⟨List.mem_map.2 ⟨mk (i :: e),?_,bl_mk n _ h1⟩,h2⟩
     have := mk_lt n _ h1
     have := mk_pos i e
     rw [List.mem_range'_1]; omega
 rw [e] at this
 exact this
theorem srch_all (n : Nat) (ok : List Nat → Nat → Bool) (val : List Nat → Int) (S : List Nat → Bool) (h0 : val [] = 0)
  (hS : ∀ l,ris n 0 l = true → S l = okL ok [] l) : srch n ok val = allS n val S := by
 have a := srch_best n ok val h0
 have b := allS_best n val S h0 (by rw [hS [] rfl]; rfl)
 have e : (fun l => ris n 0 l = true ∧ S l = true) = (fun l => ris n 0 l = true ∧ okL ok [] l = true) := by
  funext l
  apply propext
  constructor <;> rintro ⟨h1,h2⟩
  ·exact ⟨h1,by rw [← hS l h1]; exact h2⟩
  ·exact ⟨h1,by rw [hS l h1]; exact h2⟩
 rw [e] at b
 exact a.uniq b
end Go.Proofs.Ytlieoghhkioflaa
