/- Flows on numbered nodes: what a search for one more unit leaves behind. No condition. -/
import Derived.Test.YtlapepdhkomijaaE4
set_option linter.unusedSimpArgs false
set_option linter.unusedVariables false
namespace Go.Proofs.Ytlapepdhkomijaa
def sumN (f : Nat → Int) : Nat → Int
 | 0 => 0
 | n + 1 => sumN f n + f n
theorem sumN_congr {f g : Nat → Int} : ∀ {n : Nat},(∀ i,i < n → f i = g i) → sumN f n = sumN g n := by
 intro n; induction n with
 | zero => intro _; rfl
 | succ n ih => intro h; simp only [sumN,ih fun i hi => h i (by omega),h n (by omega)]
theorem sumN_add (f g : Nat → Int) : ∀ n : Nat,sumN (fun i => f i + g i) n = sumN f n + sumN g n := by
 intro n; induction n with
 | zero => rfl
 | succ n ih => simp only [sumN,ih]; omega
theorem sumN_sub (f g : Nat → Int) : ∀ n : Nat,sumN (fun i => f i - g i) n = sumN f n - sumN g n := by
 intro n; induction n with
 | zero => rfl
 | succ n ih => simp only [sumN,ih]; omega
theorem sumN_one (k : Nat) (a : Int) : ∀ n : Nat,sumN (fun i => if i = k then a else 0) n = if k < n then a else 0 := by
 intro n; induction n with
 | zero => simp [sumN]
 | succ n ih =>
  simp only [sumN,ih]
  by_cases h : k < n
  ·rw [if_pos h,if_neg (by omega),if_pos (by omega)]; omega
  ·by_cases h2 : n = k
   ·subst h2; rw [if_neg h,if_pos rfl,if_pos (by omega)]; omega
   ·rw [if_neg h,if_neg h2,if_neg (by omega)]; omega
theorem sumN_upd (f : Nat → Int) {k n : Nat} (hk : k < n) (a : Int) : sumN (fun i => if i = k then f i + a else f i) n = sumN f n + a := by
 have : sumN (fun i => if i = k then f i + a else f i) n = sumN (fun i => f i + if i = k then a else 0) n := sumN_congr fun i _ => by split <;> omega
 rw [this,sumN_add,sumN_one,if_pos hk]
theorem sumN_nn {f : Nat → Int} : ∀ {n : Nat},(∀ i,i < n → 0 ≤ f i) → 0 ≤ sumN f n := by
 intro n; induction n with
 | zero => intro _; exact Int.le_refl _
 | succ n ih => intro h; have := ih fun i hi => h i (by omega); have := h n (by omega); simp only [sumN]; omega
theorem sumN_le {f g : Nat → Int} : ∀ {n : Nat},(∀ i,i < n → f i ≤ g i) → sumN f n ≤ sumN g n := by
 intro n; induction n with
 | zero => intro _; exact Int.le_refl _
 | succ n ih => intro h; have := ih fun i hi => h i (by omega); have := h n (by omega); simp only [sumN]; omega
theorem sumN_zero : ∀ n : Nat,sumN (fun _ => 0) n = 0 := by
 intro n; induction n with
 | zero => rfl
 | succ n ih => simp only [sumN,ih]; rfl
theorem sumN_get {f : Nat → Int} : ∀ {n k : Nat},(∀ i,i < n → 0 ≤ f i) → k < n → f k ≤ sumN f n := by
 intro n; induction n with
 | zero => intro k _ h; omega
 | succ n ih =>
  intro k h hk
  simp only [sumN]
  by_cases e : k = n
  ·subst e; have := sumN_nn fun i (hi : i < k) => h i (by omega); omega
  ·have := ih (fun i hi => h i (by omega)) (show k < n from by omega); have := h n (by omega); omega
theorem sumN_swap (f : Nat → Nat → Int) (n : Nat) : ∀ m : Nat,sumN (fun i => sumN (f i) m) n = sumN (fun j => sumN (fun i => f i j) n) m := by
 intro m; induction m with
 | zero => simp only [sumN]; exact sumN_zero n
 | succ m ih => simp only [sumN,sumN_add,ih]
structure Pushed (n u : Nat) (r r' : Nat → Nat → Int) : Prop where
 nn : ∀ i,i < n → ∀ j,j < n → 0 ≤ r' i j
 sk : ∀ i,i < n → ∀ j,j < n → r' i j + r' j i = r i j + r j i
 row : ∀ i,i < n → sumN (r' i) n = sumN (r i) n - (if i = u then 1 else 0) + (if i = 1 then 1 else 0)
structure PushPost (n : Nat) (sn : Nat → Bool) (u : Nat) (r : Nat → Nat → Int) (b : Bool) (r' : Nat → Nat → Int) (sn' : Nat → Bool) : Prop where
 mono : ∀ i,i < n → sn i = true → sn' i = true
 tt : b = true → Pushed n u r r' ∧ ∀ i,i < n → ∀ j,j < n → (sn i = true ∨ sn j = true) → r' i j = r i j
 ff : b = false → (∀ i,i < n → ∀ j,j < n → r' i j = r i j) ∧ sn' u = true ∧ sn' 1 = false ∧ ∀ x,x < n → sn' x = true → sn x = false → ∀ v,v < n → 0 < r x v → sn' v = true
 rch : b = false → ∀ s : Nat → Bool,s u = true → (∀ x,x < n → s x = true → ∀ v,v < n → 0 < r x v → s v = true) → ∀ x,x < n → sn' x = true → sn x = false → s x = true
def updS (sn : Nat → Bool) (u : Nat) : Nat → Bool := fun i => if i = u then true else sn i
def updR (r : Nat → Nat → Int) (u v : Nat) : Nat → Nat → Int := fun i j => if i = v ∧ j = u then r i j + 1 else if i = u ∧ j = v then r i j - 1 else r i j
def uns (sn : Nat → Bool) : Nat → Nat
 | 0 => 0
 | n + 1 => uns sn n + if sn n = true then 0 else 1
theorem uns_mono {s t : Nat → Bool} : ∀ {n : Nat},(∀ i,i < n → s i = true → t i = true) → uns t n ≤ uns s n := by
 intro n; induction n with
 | zero => intro _; exact Nat.le_refl _
 | succ n ih =>
  intro h
  have h1 := ih fun i hi => h i (by omega)
  have h2 := h n (by omega)
  simp only [uns]
  by_cases hs : s n = true
  ·rw [if_pos hs,if_pos (h2 hs)]; omega
  ·rw [if_neg hs]; split <;> omega
theorem uns_upd {s : Nat → Bool} {u : Nat} (hu : s u = false) : ∀ {n : Nat},u < n → uns (updS s u) n + 1 = uns s n := by
 intro n; induction n with
 | zero => intro h; omega
 | succ n ih =>
  intro h
  simp only [uns]
  by_cases e : u = n
  ·subst e
   have : uns (updS s u) u = uns s u := by
    have : ∀ m,m ≤ u → uns (updS s u) m = uns s m := by
     intro m; induction m with
     | zero => intro _; rfl
     | succ m ih2 => intro hm; simp only [uns,ih2 (by omega)]; congr 2; simp only [updS]; rw [if_neg (by omega)]
    exact this u (Nat.le_refl _)
   rw [this,hu]; simp [updS]
  ·have e1 : updS s u n = s n := by simp only [updS]; rw [if_neg (fun h => e h.symm)]
   rw [e1]
   have := ih (show u < n from by omega)
   omega
theorem uns_le (s : Nat → Bool) : ∀ n : Nat,uns s n ≤ n := by
 intro n; induction n with
 | zero => exact Nat.le_refl _
 | succ n ih => simp only [uns]; split <;> omega
theorem PushPost.sink {n : Nat} {sn : Nat → Bool} {r : Nat → Nat → Int} (h1 : 1 < n) (hr : ∀ i,i < n → ∀ j,j < n → 0 ≤ r i j) : PushPost n sn 1 r true r sn :=
 ⟨fun _ _ h => h,fun _ => ⟨⟨hr,fun _ _ _ _ => rfl,fun i _ => by split <;> omega⟩,fun _ _ _ _ _ => rfl⟩,fun h => (by cases h),fun h => (by cases h)⟩
structure PushAt (n : Nat) (sn : Nat → Bool) (u : Nat) (r : Nat → Nat → Int) (done : Nat → Prop) (s : Nat → Bool) : Prop where
 mono : ∀ i,i < n → sn i = true → s i = true
 here : s u = true
 snk : s 1 = false
 done : ∀ v,v < n → done v → 0 < r u v → s v = true
 clo : ∀ x,x < n → s x = true → sn x = false → x ≠ u → ∀ v,v < n → 0 < r x v → s v = true
 rch : ∀ t : Nat → Bool,t u = true → (∀ x,x < n → t x = true → ∀ v,v < n → 0 < r x v → t v = true) → ∀ x,x < n → s x = true → sn x = false → t x = true
theorem PushAt.begin {n : Nat} {sn : Nat → Bool} {u : Nat} {r : Nat → Nat → Int} (h1 : sn 1 = false) (hu1 : u ≠ 1) : PushAt n sn u r (fun _ => False) (updS sn u) := by
 refine ⟨fun i _ h => ?_,by simp [updS],?_,fun _ _ h => h.elim,fun x _ hx hs hne => ?_,fun t ht _ x _ hx hs => ?_⟩
 ·simp only [updS]; split <;> first | rfl | exact h
 ·simp only [updS]; rw [if_neg (fun h => hu1 h.symm)]; exact h1
 ·simp only [updS] at hx; rw [if_neg hne,hs] at hx; cases hx
 ·by_cases hne : x = u
  ·rw [hne]; exact ht
  ·simp only [updS] at hx; rw [if_neg hne,hs] at hx; cases hx
theorem PushAt.no {n : Nat} {sn : Nat → Bool} {u : Nat} {r : Nat → Nat → Int} {d d' : Nat → Prop} {s s' : Nat → Bool} {j : Nat} {r' : Nat → Nat → Int} (h : PushAt n sn u r d s) (hu : u < n) (hj : j < n) (h0 : 0 < r u j) (hp : PushPost n s j r false r' s') (hd : ∀ v,v < n → d' v → d v ∨ v = j) : PushAt n sn u r d' s' := by
 obtain ⟨h1,h2,h3,h4⟩ := hp.ff rfl
 refine ⟨fun i hi hs => hp.mono i hi (h.mono i hi hs),hp.mono u hu h.here,h3,fun v hv hdv h0 => ?_,fun x hx hs hns hne v hv h0 => ?_,fun t ht hc x hx hs hns => ?_⟩
 ·rcases hd v hv hdv with e | rfl
  ·exact hp.mono v hv (h.done v hv e h0)
  ·exact h2
 ·cases hsx : s x with
  | true => exact hp.mono v hv (h.clo x hx hsx hns hne v hv h0)
  | false => exact h4 x hx hs hsx v hv h0
 ·cases hsx : s x with
  | true => exact h.rch t ht hc x hx hsx hns
  | false => exact hp.rch rfl t (hc u hu ht j hj h0) hc x hx hs hsx
theorem PushAt.skip {n : Nat} {sn : Nat → Bool} {u : Nat} {r : Nat → Nat → Int} {d d' : Nat → Prop} {s : Nat → Bool} {j : Nat} (h : PushAt n sn u r d s) (hj : r u j ≤ 0 ∨ s j = true) (hd : ∀ v,v < n → d' v → d v ∨ v = j) : PushAt n sn u r d' s := by
 refine ⟨h.mono,h.here,h.snk,fun v hv hdv h0 => ?_,h.clo,h.rch⟩
 rcases hd v hv hdv with e | rfl
 ·exact h.done v hv e h0
 ·rcases hj with hj | hj
  ·omega
  ·exact hj
theorem PushAt.yes {n : Nat} {sn : Nat → Bool} {u : Nat} {r : Nat → Nat → Int} {d : Nat → Prop} {s s' : Nat → Bool} {j : Nat} {r' : Nat → Nat → Int} (h : PushAt n sn u r d s) (hu : u < n) (hj : j < n) (hnu : sn u = false) (hs : s j = false) (h0 : 0 < r u j) (hp : PushPost n s j r true r' s') : PushPost n sn u r true (updR r' u j) s' := by
 have huj : u ≠ j := fun e => by have := h.here; rw [e,hs] at this; cases this
 obtain ⟨⟨p1,p2,p3⟩,p4⟩ := hp.tt rfl
 have hru : r' u j = r u j := p4 u hu j hj (.inl h.here)
 have hju : r' j u = r j u := p4 j hj u hu (.inr h.here)
 refine ⟨fun i hi hs => hp.mono i hi (h.mono i hi hs),fun _ => ⟨⟨fun a ha b hb => ?_,fun a ha b hb => ?_,fun a ha => ?_⟩,fun a ha b hb hs2 => ?_⟩,fun h => (by cases h),fun h => (by cases h)⟩
 ·have := p1 a ha b hb
  simp only [updR]
  split
  ·omega
  ·split
   ·rename_i e; obtain ⟨rfl,rfl⟩ := e; omega
   ·exact this
 ·have := p2 a ha b hb
  simp only [updR]
  by_cases e1 : a = j ∧ b = u
  ·obtain ⟨rfl,rfl⟩ := e1
   rw [if_pos ⟨rfl,rfl⟩,if_neg (fun h => huj h.1),if_pos ⟨rfl,rfl⟩]; omega
  ·by_cases e2 : a = u ∧ b = j
   ·obtain ⟨rfl,rfl⟩ := e2
    rw [if_neg e1,if_pos ⟨rfl,rfl⟩,if_pos ⟨rfl,rfl⟩]; omega
   ·rw [if_neg e1,if_neg e2,if_neg (fun h => e2 ⟨h.2,h.1⟩),if_neg (fun h => e1 ⟨h.2,h.1⟩)]; exact this
 ·have hrow := p3 a ha
  by_cases e1 : a = u
  ·subst e1
   have : sumN (updR r' a j a) n = sumN (r' a) n + (-1) := by
    rw [← sumN_upd (r' a) hj (-1)]
    refine sumN_congr fun k _ => ?_
    simp only [updR]
    rw [if_neg (fun h => huj h.1)]
    by_cases e : k = j
    ·rw [if_pos ⟨by first | rfl | trivial,e⟩,if_pos e]; omega
    ·rw [if_neg (fun h => e h.2),if_neg e]
   rw [this,hrow,if_neg huj,if_pos rfl]; omega
  ·by_cases e2 : a = j
   ·subst e2
    have : sumN (updR r' u a a) n = sumN (r' a) n + 1 := by
     rw [← sumN_upd (r' a) hu 1]
     refine sumN_congr fun k _ => ?_
     simp only [updR]
     by_cases e : k = u
     ·rw [if_pos ⟨by first | rfl | trivial,e⟩,if_pos e]
     ·rw [if_neg (fun h => e h.2),if_neg (fun h => e1 h.1),if_neg e]
    rw [this,hrow,if_pos rfl,if_neg e1]; omega
   ·have : sumN (updR r' u j a) n = sumN (r' a) n := sumN_congr fun k _ => by
     simp only [updR]; rw [if_neg (fun h => e2 h.1),if_neg (fun h => e1 h.1)]
    rw [this,hrow,if_neg e1,if_neg e2]
 ·have e1 : ¬ (a = j ∧ b = u) := by
   rintro ⟨rfl,rfl⟩
   rcases hs2 with hs2 | hs2
   ·have := h.mono a ha hs2; rw [hs] at this; cases this
   ·rw [hnu] at hs2; cases hs2
  have e2 : ¬ (a = u ∧ b = j) := by
   rintro ⟨rfl,rfl⟩
   rcases hs2 with hs2 | hs2
   ·rw [hnu] at hs2; cases hs2
   ·have := h.mono b hb hs2; rw [hs] at this; cases this
  simp only [updR]
  rw [if_neg e1,if_neg e2]
  exact p4 a ha b hb (hs2.imp (h.mono a ha) (h.mono b hb))
theorem PushAt.fail {n : Nat} {sn : Nat → Bool} {u : Nat} {r : Nat → Nat → Int} {d : Nat → Prop} {s : Nat → Bool} (h : PushAt n sn u r d s) (hd : ∀ v,v < n → 0 < r u v → d v) : PushPost n sn u r false r s := by
 refine ⟨h.mono,fun h => (by cases h),fun _ => ⟨fun _ _ _ _ => rfl,h.here,h.snk,fun x hx hs hns v hv h0 => ?_⟩,fun _ => h.rch⟩
 by_cases e : x = u
 ·subst e; exact h.done v hv (hd v hv h0) h0
 ·exact h.clo x hx hs hns e v hv h0
end Go.Proofs.Ytlapepdhkomijaa
