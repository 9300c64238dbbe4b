/- Palms: what is known is told, and contradicts nothing that is told. No condition. -/
import Derived.Test.YtlapepdhkomijaaPKno
set_option linter.unusedSimpArgs false
set_option linter.unusedVariables false
namespace Go.Proofs.Ytlapepdhkomijaa
open Go Go.RowKit
theorem sel_surj {p : Nat → Bool} : ∀ {n k : Nat},k < n → p k = true → ∃ j,j < cntN p n ∧ selN p n j = k := by
 intro n
 induction n with
 | zero => intro k hk; exact absurd hk (Nat.not_lt_zero _)
 | succ n ih =>
  intro k hk hp
  by_cases e : k = n
  ·subst e
   exact ⟨cntN p k,by simp only [cntN,hp,if_true]; omega,by simp [selN,hp]⟩
  ·obtain ⟨j,h1,h2⟩ := ih (k := k) (by omega) hp
   refine ⟨j,?_,?_⟩
   ·simp only [cntN]; omega
   ·simp only [selN]; rw [if_neg fun e => by omega]; exact h2
def GdV (p : Nat → Bool) (f : Nat → Int) (n : Nat) (v : Int) : Prop := (v = 0 ∨ ∃ k,k < n ∧ p k = true ∧ f k = v) ∧ ∀ k,k < n → p k = true → f k = 0 ∨ f k = v
theorem GdV.eq {p : Nat → Bool} {f : Nat → Int} {n : Nat} {v v' : Int} (h : GdV p f n v) (h' : GdV p f n v') : v = v' := by
 obtain ⟨h1,h2⟩ := h
 obtain ⟨h3,h4⟩ := h'
 rcases h1 with h1 | ⟨k,k1,k2,k3⟩
 ·rcases h3 with h3 | ⟨k,k1,k2,k3⟩
  ·omega
  ·have := h2 k k1 k2; omega
 ·have := h4 k k1 k2
  rcases h3 with h3 | ⟨k',g1,g2,g3⟩
  ·omega
  ·have := h2 k' g1 g2; omega
theorem mx_all (p : Nat → Bool) (f : Nat → Int) (x : Int) : ∀ m : Nat,(mxF p f m x = x ∨ ∃ k,k < m ∧ p k = true ∧ f k = mxF p f m x) ∧ x ≤ mxF p f m x ∧ ∀ k,k < m → p k = true → f k ≤ mxF p f m x := by
 intro m
 induction m with
 | zero => exact ⟨.inl rfl,Int.le_refl _,fun k hk => absurd hk (Nat.not_lt_zero _)⟩
 | succ m ih =>
  obtain ⟨h1,h2,h3⟩ := ih
  simp only [mxF]
  split
  ·rename_i hp
   generalize mxF p f m x = y at *
   refine ⟨?_,by omega,fun k hk hpk => ?_⟩
   ·rcases Int.le_total y (f m) with h | h
    ·exact .inr ⟨m,by omega,hp,by omega⟩
    ·rcases h1 with h1 | ⟨k,k1,k2,k3⟩
     ·exact .inl (by omega)
     ·exact .inr ⟨k,by omega,k2,by omega⟩
   ·by_cases e : k = m
    ·subst e; omega
    ·have := h3 k (by omega) hpk; omega
  ·rename_i hp
   refine ⟨?_,h2,fun k hk hpk => ?_⟩
   ·rcases h1 with h1 | ⟨k,k1,k2,k3⟩
    ·exact .inl h1
    ·exact .inr ⟨k,by omega,k2,k3⟩
   ·by_cases e : k = m
    ·subst e; exact absurd hpk hp
    ·exact h3 k (by omega) hpk
theorem mx_gd {p : Nat → Bool} {f : Nat → Int} {n : Nat} (c : ∀ a b,a < n → b < n → p a = true → p b = true → f a = 0 ∨ f b = 0 ∨ f a = f b) (h0 : ∀ k,k < n → 0 ≤ f k) {i : Nat} (hi : i < n) (hp : p i = true) : GdV p f n (mxF p f n (f i)) := by
 obtain ⟨h1,h2,h3⟩ := mx_all p f (f i) n
 have ⟨k0,k1,k2,k3⟩ : ∃ k,k < n ∧ p k = true ∧ f k = mxF p f n (f i) := by
  rcases h1 with h1 | h1
  ·exact ⟨i,hi,hp,h1.symm⟩
  ·exact h1
 refine ⟨.inr ⟨k0,k1,k2,k3⟩,fun k hk hpk => ?_⟩
 have g1 := c k k0 hk k1 hpk k2
 have g2 := h0 k hk
 have g3 := h3 k hk hpk
 omega
theorem cln_self (l : Pms) (i : Nat) : clnB l i i = true := decide_eq_true rfl
theorem cln_tr {l : Pms} {i a b : Nat} (h1 : clnB l i a = true) (h2 : clnB l i b = true) : clnB l a b = true := decide_eq_true (by rw [of_decide_eq_true h1,of_decide_eq_true h2])
theorem bad_no {l : Pms} (h : ¬ badI l < l.1) {i k : Nat} (hi : i < l.1) (hk : k < i) (hc : clnB l i k = true) : ¬ ctrP l i k := by
 rcases fstI_spec (fun i => ∃ k,k < i ∧ clnB l i k = true ∧ ctrP l i k) l.1 with ⟨h1,_⟩ | ⟨_,h2⟩
 ·exact absurd h1 h
 ·exact fun hp => h2 i hi ⟨k,hk,hc,hp⟩
theorem bad_cons {l : Pms} (h : ¬ badI l < l.1) {i a b : Nat} (ha : a < l.1) (hb : b < l.1) (h1 : clnB l i a = true) (h2 : clnB l i b = true) :
  ((l.2 a).sex.1 = 0 ∨ (l.2 b).sex.1 = 0 ∨ (l.2 a).sex.1 = (l.2 b).sex.1) ∧ ((l.2 a).sort = 0 ∨ (l.2 b).sort = 0 ∨ (l.2 a).sort = (l.2 b).sort) := by
 rcases Nat.lt_trichotomy a b with e | e | e
 ·have := bad_no h hb e (cln_tr h2 h1)
  unfold ctrP at this; omega
 ·subst e; exact ⟨.inr (.inr rfl),.inr (.inr rfl)⟩
 ·have := bad_no h ha e (cln_tr h1 h2)
  unfold ctrP at this; omega
theorem sex_gd {l : Pms} (h : ¬ badI l < l.1) {i : Nat} (hi : i < l.1) : GdV (clnB l i) (fun k => (l.2 k).sex.1) l.1 (sexF l i) :=
 mx_gd (f := fun k => (l.2 k).sex.1) (fun _ _ ha hb h1 h2 => (bad_cons h ha hb h1 h2).1) (fun k _ => (l.2 k).sex.2.1) hi (cln_self l i)
theorem sort_gd {l : Pms} (hl : PmsOk l) (h : ¬ badI l < l.1) {i : Nat} (hi : i < l.1) : GdV (clnB l i) (fun k => (l.2 k).sort) l.1 (sortF l i) :=
 mx_gd (f := fun k => (l.2 k).sort) (fun _ _ ha hb h1 h2 => (bad_cons h ha hb h1 h2).2) (fun k hk => (hl.sort k hk).1) hi (cln_self l i)
def GdL (p : Nat → Bool) (f : Nat → Int) (n j : Nat) (v : Int) : Prop := (v = 0 ∨ ∃ k,k < n ∧ p k = true ∧ f k = v) ∧ ∀ j',j' < j → f (selN p n j') = 0 ∨ f (selN p n j') = v
theorem GdL.step {p : Nat → Bool} {f : Nat → Int} {n j : Nat} {v : Int} (c : ∀ a b,a < n → b < n → p a = true → p b = true → f a = 0 ∨ f b = 0 ∨ f a = f b) (h : GdL p f n j v) (hj : j < cntN p n) : GdL p f n (j + 1) (if f (selN p n j) = 0 then v else f (selN p n j)) := by
 obtain ⟨h1,h2⟩ := h
 obtain ⟨s1,s2⟩ := selN_lt hj
 split
 ·rename_i e
  refine ⟨h1,fun j' hj' => ?_⟩
  by_cases e2 : j' = j
  ·subst e2; exact .inl e
  ·exact h2 j' (by omega)
 ·rename_i e
  refine ⟨.inr ⟨_,s1,s2,rfl⟩,fun j' hj' => ?_⟩
  by_cases e2 : j' = j
  ·subst e2; exact .inr rfl
  ·obtain ⟨t1,t2⟩ := selN_lt (p := p) (n := n) (j := j') (by omega)
   have := c _ _ t1 s1 t2 s2
   omega
theorem GdL.all {p : Nat → Bool} {f : Nat → Int} {n : Nat} {v : Int} (h : GdL p f n (cntN p n) v) : GdV p f n v := by
 refine ⟨h.1,fun k hk hp => ?_⟩
 obtain ⟨j,h1,h2⟩ := sel_surj hk hp
 have := h.2 j h1
 rw [h2] at this; exact this
def knV (l : Pms) (sx : Nat → UI .u8) (so : Nat → Int) (i : Nat) : Pm := ⟨(l.2 i).id,(l.2 i).mother,(l.2 i).planted,sx i,so i⟩
end Go.Proofs.Ytlapepdhkomijaa
