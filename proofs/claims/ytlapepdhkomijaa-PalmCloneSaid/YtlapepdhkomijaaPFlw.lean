/- Flows on numbered nodes: what a search for one more unit leaves behind. No condition. -/
import Derived.Test.YtlapepdhkomijaaE4
import Derived.Test.YtlapepdhkomijaaLDoor
import Derived.Test.YtlapepdhkomijaaACode1
set_option linter.unusedSimpArgs false
set_option linter.unusedVariables false
namespace Go.Proofs.Ytlapepdhkomijaa
def sumN (f : Nat → Int) : Nat → Int
 | 0 => 0
 | n + 1 => sumN f n + f n
theorem sumN_congr {f g : Nat → Int} : ∀ {n : Nat},(∀ i,i < n → f i = g i) → sumN f n = sumN g n := by
 intro n; induction n with
 | zero => intro _; rfl
 | succ n ih => intro h; simp only [sumN,ih fun i hi => h i (by omega),h n (by omega)]
theorem sumN_add (f g : Nat → Int) : ∀ n : Nat,sumN (fun i => f i + g i) n = sumN f n + sumN g n := by
 intro n; induction n with
 | zero => rfl
 | succ n ih => simp only [sumN,ih]; omega
theorem sumN_sub (f g : Nat → Int) : ∀ n : Nat,sumN (fun i => f i - g i) n = sumN f n - sumN g n := by
 intro n; induction n with
 | zero => rfl
 | succ n ih => simp only [sumN,ih]; omega
theorem sumN_one (k : Nat) (a : Int) : ∀ n : Nat,sumN (fun i => if i = k then a else 0) n = if k < n then a else 0 := by
 intro n; induction n with
 | zero => simp [sumN]
 | succ n ih =>
  simp only [sumN,ih]
  by_cases h : k < n
  ·rw [if_pos h,if_neg (by omega),if_pos (by omega)]; omega
  ·by_cases h2 : n = k
   ·subst h2; rw [if_neg h,if_pos rfl,if_pos (by omega)]; omega
   ·rw [if_neg h,if_neg h2,if_neg (by omega)]; omega
theorem sumN_upd (f : Nat → Int) {k n : Nat} (hk : k < n) (a : Int) : sumN (fun i => if i = k then f i + a else f i) n = sumN f n + a := by
 have : sumN (fun i => if i = k then f i + a else f i) n = sumN (fun i => f i + if i = k then a else 0) n := sumN_congr fun i _ => by split <;> omega
 rw [this,sumN_add,sumN_one,if_pos hk]
theorem sumN_nn {f : Nat → Int} : ∀ {n : Nat},(∀ i,i < n → 0 ≤ f i) → 0 ≤ sumN f n := by
 intro n; induction n with
 | zero => intro _; exact Int.le_refl _
 | succ n ih => intro h; have := ih fun i hi => h i (by omega); have := h n (by omega); simp only [sumN]; omega
theorem sumN_le {f g : Nat → Int} : ∀ {n : Nat},(∀ i,i < n → f i ≤ g i) → sumN f n ≤ sumN g n := by
 intro n; induction n with
 | zero => intro _; exact Int.le_refl _
 | succ n ih => intro h; have := ih fun i hi => h i (by omega); have := h n (by omega); simp only [sumN]; omega
theorem sumN_zero : ∀ n : Nat,sumN (fun _ => 0) n = 0 := by
 intro n; induction n with
 | zero => rfl
 | succ n ih => simp only [sumN,ih]; rfl
theorem sumN_get {f : Nat → Int} : ∀ {n k : Nat},(∀ i,i < n → 0 ≤ f i) → k < n → f k ≤ sumN f n := by
 intro n; induction n with
 | zero => intro k _ h; omega
 | succ n ih =>
  intro k h hk
  simp only [sumN]
  by_cases e : k = n
  ·subst e; have := sumN_nn fun i (hi : i < k) => h i (by omega); omega
  ·have := ih (fun i hi => h i (by omega)) (show k < n from by omega); have := h n (by omega); omega
theorem sumN_swap (f : Nat → Nat → Int) (n : Nat) : ∀ m : Nat,sumN (fun i => sumN (f i) m) n = sumN (fun j => sumN (fun i => f i j) n) m := by
 intro m; induction m with
 | zero => simp only [sumN]; exact sumN_zero n
 | succ m ih => simp only [sumN,sumN_add,ih]
structure Pushed (n u : Nat) (r r' : Nat → Nat → Int) : Prop where
 nn : ∀ i,i < n → ∀ j,j < n → 0 ≤ r' i j
 sk : ∀ i,i < n → ∀ j,j < n → r' i j + r' j i = r i j + r j i
 row : ∀ i,i < n → sumN (r' i) n = sumN (r i) n - (if i = u then 1 else 0) + (if i = 1 then 1 else 0)
structure PushPost (n : Nat) (sn : Nat → Bool) (u : Nat) (r : Nat → Nat → Int) (b : Bool) (r' : Nat → Nat → Int) (sn' : Nat → Bool) : Prop where
 mono : ∀ i,i < n → sn i = true → sn' i = true
 tt : b = true → Pushed n u r r' ∧ ∀ i,i < n → ∀ j,j < n → (sn i = true ∨ sn j = true) → r' i j = r i j
 ff : b = false → (∀ i,i < n → ∀ j,j < n → r' i j = r i j) ∧ sn' u = true ∧ sn' 1 = false ∧ ∀ x,x < n → sn' x = true → sn x = false → ∀ v,v < n → 0 < r x v → sn' v = true
 rch : b = false → ∀ s : Nat → Bool,s u = true → (∀ x,x < n → s x = true → ∀ v,v < n → 0 < r x v → s v = true) → ∀ x,x < n → sn' x = true → sn x = false → s x = true
def updS (sn : Nat → Bool) (u : Nat) : Nat → Bool := fun i => if i = u then true else sn i
def updR (r : Nat → Nat → Int) (u v : Nat) : Nat → Nat → Int := fun i j => if i = v ∧ j = u then r i j + 1 else if i = u ∧ j = v then r i j - 1 else r i j
def uns (sn : Nat → Bool) : Nat → Nat
 | 0 => 0
 | n + 1 => uns sn n + if sn n = true then 0 else 1
theorem uns_mono {s t : Nat → Bool} : ∀ {n : Nat},(∀ i,i < n → s i = true → t i = true) → uns t n ≤ uns s n := by
 intro n; induction n with
 | zero => intro _; exact Nat.le_refl _
 | succ n ih =>
  intro h
  have h1 := ih fun i hi => h i (by omega)
  have h2 := h n (by omega)
  simp only [uns]
  by_cases hs : s n = true
  ·rw [if_pos hs,if_pos (h2 hs)]; omega
  ·rw [if_neg hs]; split <;> omega
theorem uns_upd {s : Nat → Bool} {u : Nat} (hu : s u = false) : ∀ {n : Nat},u < n → uns (updS s u) n + 1 = uns s n := by
 intro n; induction n with
 | zero => intro h; omega
 | succ n ih =>
  intro h
  simp only [uns]
  by_cases e : u = n
  ·subst e
   have : uns (updS s u) u = uns s u := by
    have : ∀ m,m ≤ u → uns (updS s u) m = uns s m := by
     intro m; induction m with
     | zero => intro _; rfl
     | succ m ih2 => intro hm; simp only [uns,ih2 (by omega)]; congr 2; simp only [updS]; rw [if_neg (by omega)]
    exact this u (Nat.le_refl _)
   rw [this,hu]; simp [updS]
  ·have e1 : updS s u n = s n := by simp only [updS]; rw [if_neg (fun h => e h.symm)]
   rw [e1]
   have := ih (show u < n from by omega)
   omega
theorem uns_le (s : Nat → Bool) : ∀ n : Nat,uns s n ≤ n := by
 intro n; induction n with
 | zero => exact Nat.le_refl _
 | succ n ih => simp only [uns]; split <;> omega
theorem PushPost.sink {n : Nat} {sn : Nat → Bool} {r : Nat → Nat → Int} (h1 : 1 < n) (hr : ∀ i,i < n → ∀ j,j < n → 0 ≤ r i j) : PushPost n sn 1 r true r sn :=
 ⟨fun _ _ h => h,fun _ => ⟨⟨hr,fun _ _ _ _ => rfl,fun i _ => by split <;> omega⟩,fun _ _ _ _ _ => rfl⟩,fun h => (by cases h),fun h => (by cases h)⟩
structure PushAt (n : Nat) (sn : Nat → Bool) (u : Nat) (r : Nat → Nat → Int) (done : Nat → Prop) (s : Nat → Bool) : Prop where
 mono : ∀ i,i < n → sn i = true → s i = true
 here : s u = true
 snk : s 1 = false
 done : ∀ v,v < n → done v → 0 < r u v → s v = true
 clo : ∀ x,x < n → s x = true → sn x = false → x ≠ u → ∀ v,v < n → 0 < r x v → s v = true
 rch : ∀ t : Nat → Bool,t u = true → (∀ x,x < n → t x = true → ∀ v,v < n → 0 < r x v → t v = true) → ∀ x,x < n → s x = true → sn x = false → t x = true
theorem PushAt.begin {n : Nat} {sn : Nat → Bool} {u : Nat} {r : Nat → Nat → Int} (h1 : sn 1 = false) (hu1 : u ≠ 1) : PushAt n sn u r (fun _ => False) (updS sn u) := by
 refine ⟨fun i _ h => ?_,by simp [updS],?_,fun _ _ h => h.elim,fun x _ hx hs hne => ?_,fun t ht _ x _ hx hs => ?_⟩
 ·simp only [updS]; split <;> first | rfl | exact h
 ·simp only [updS]; rw [if_neg (fun h => hu1 h.symm)]; exact h1
 ·simp only [updS] at hx; rw [if_neg hne,hs] at hx; cases hx
 ·by_cases hne : x = u
  ·rw [hne]; exact ht
  ·simp only [updS] at hx; rw [if_neg hne,hs] at hx; cases hx
theorem PushAt.no {n : Nat} {sn : Nat → Bool} {u : Nat} {r : Nat → Nat → Int} {d d' : Nat → Prop} {s s' : Nat → Bool} {j : Nat} {r' : Nat → Nat → Int} (h : PushAt n sn u r d s) (hu : u < n) (hj : j < n) (h0 : 0 < r u j) (hp : PushPost n s j r false r' s') (hd : ∀ v,v < n → d' v → d v ∨ v = j) : PushAt n sn u r d' s' := by
 obtain ⟨h1,h2,h3,h4⟩ := hp.ff rfl
 refine ⟨fun i hi hs => hp.mono i hi (h.mono i hi hs),hp.mono u hu h.here,h3,fun v hv hdv h0 => ?_,fun x hx hs hns hne v hv h0 => ?_,fun t ht hc x hx hs hns => ?_⟩
 ·rcases hd v hv hdv with e | rfl
  ·exact hp.mono v hv (h.done v hv e h0)
  ·exact h2
 ·cases hsx : s x with
  | true => exact hp.mono v hv (h.clo x hx hsx hns hne v hv h0)
  | false => exact h4 x hx hs hsx v hv h0
 ·cases hsx : s x with
  | true => exact h.rch t ht hc x hx hsx hns
  | false => exact hp.rch rfl t (hc u hu ht j hj h0) hc x hx hs hsx
theorem PushAt.skip {n : Nat} {sn : Nat → Bool} {u : Nat} {r : Nat → Nat → Int} {d d' : Nat → Prop} {s : Nat → Bool} {j : Nat} (h : PushAt n sn u r d s) (hj : r u j ≤ 0 ∨ s j = true) (hd : ∀ v,v < n → d' v → d v ∨ v = j) : PushAt n sn u r d' s := by
 refine ⟨h.mono,h.here,h.snk,fun v hv hdv h0 => ?_,h.clo,h.rch⟩
 rcases hd v hv hdv with e | rfl
 ·exact h.done v hv e h0
 ·rcases hj with hj | hj
  ·omega
  ·exact hj
theorem PushAt.yes {n : Nat} {sn : Nat → Bool} {u : Nat} {r : Nat → Nat → Int} {d : Nat → Prop} {s s' : Nat → Bool} {j : Nat} {r' : Nat → Nat → Int} (h : PushAt n sn u r d s) (hu : u < n) (hj : j < n) (hnu : sn u = false) (hs : s j = false) (h0 : 0 < r u j) (hp : PushPost n s j r true r' s') : PushPost n sn u r true (updR r' u j) s' := by
 have huj : u ≠ j := fun e => by have := h.here; rw [e,hs] at this; cases this
 obtain ⟨⟨p1,p2,p3⟩,p4⟩ := hp.tt rfl
 have hru : r' u j = r u j := p4 u hu j hj (.inl h.here)
 have hju : r' j u = r j u := p4 j hj u hu (.inr h.here)
 refine ⟨fun i hi hs => hp.mono i hi (h.mono i hi hs),fun _ => ⟨⟨fun a ha b hb => ?_,fun a ha b hb => ?_,fun a ha => ?_⟩,fun a ha b hb hs2 => ?_⟩,fun h => (by cases h),fun h => (by cases h)⟩
 ·have := p1 a ha b hb
  simp only [updR]
  split
  ·omega
  ·split
   ·rename_i e; obtain ⟨rfl,rfl⟩ := e; omega
   ·exact this
 ·have := p2 a ha b hb
  simp only [updR]
  by_cases e1 : a = j ∧ b = u
  ·obtain ⟨rfl,rfl⟩ := e1
   rw [if_pos ⟨rfl,rfl⟩,if_neg (fun h => huj h.1),if_pos ⟨rfl,rfl⟩]; omega
  ·by_cases e2 : a = u ∧ b = j
   ·obtain ⟨rfl,rfl⟩ := e2
    rw [if_neg e1,if_pos ⟨rfl,rfl⟩,if_pos ⟨rfl,rfl⟩]; omega
   ·rw [if_neg e1,if_neg e2,if_neg (fun h => e2 ⟨h.2,h.1⟩),if_neg (fun h => e1 ⟨h.2,h.1⟩)]; exact this
 ·have hrow := p3 a ha
  by_cases e1 : a = u
  ·subst e1
   have : sumN (updR r' a j a) n = sumN (r' a) n + (-1) := by
    rw [← sumN_upd (r' a) hj (-1)]
    refine sumN_congr fun k _ => ?_
    simp only [updR]
    rw [if_neg (fun h => huj h.1)]
    by_cases e : k = j
    ·rw [if_pos ⟨by first | rfl | trivial,e⟩,if_pos e]; omega
    ·rw [if_neg (fun h => e h.2),if_neg e]
   rw [this,hrow,if_neg huj,if_pos rfl]; omega
  ·by_cases e2 : a = j
   ·subst e2
    have : sumN (updR r' u a a) n = sumN (r' a) n + 1 := by
     rw [← sumN_upd (r' a) hu 1]
     refine sumN_congr fun k _ => ?_
     simp only [updR]
     by_cases e : k = u
     ·rw [if_pos ⟨by first | rfl | trivial,e⟩,if_pos e]
     ·rw [if_neg (fun h => e h.2),if_neg (fun h => e1 h.1),if_neg e]
    rw [this,hrow,if_pos rfl,if_neg e1]; omega
   ·have : sumN (updR r' u j a) n = sumN (r' a) n := sumN_congr fun k _ => by
     simp only [updR]; rw [if_neg (fun h => e2 h.1),if_neg (fun h => e1 h.1)]
    rw [this,hrow,if_neg e1,if_neg e2]
 ·have e1 : ¬ (a = j ∧ b = u) := by
   rintro ⟨rfl,rfl⟩
   rcases hs2 with hs2 | hs2
   ·have := h.mono a ha hs2; rw [hs] at this; cases this
   ·rw [hnu] at hs2; cases hs2
  have e2 : ¬ (a = u ∧ b = j) := by
   rintro ⟨rfl,rfl⟩
   rcases hs2 with hs2 | hs2
   ·rw [hnu] at hs2; cases hs2
   ·have := h.mono b hb hs2; rw [hs] at this; cases this
  simp only [updR]
  rw [if_neg e1,if_neg e2]
  exact p4 a ha b hb (hs2.imp (h.mono a ha) (h.mono b hb))
theorem PushAt.fail {n : Nat} {sn : Nat → Bool} {u : Nat} {r : Nat → Nat → Int} {d : Nat → Prop} {s : Nat → Bool} (h : PushAt n sn u r d s) (hd : ∀ v,v < n → 0 < r u v → d v) : PushPost n sn u r false r s := by
 refine ⟨h.mono,fun h => (by cases h),fun _ => ⟨fun _ _ _ _ => rfl,h.here,h.snk,fun x hx hs hns v hv h0 => ?_⟩,fun _ => h.rch⟩
 by_cases e : x = u
 ·subst e; exact h.done v hv (hd v hv h0) h0
 ·exact h.clo x hx hs hns e v hv h0
end Go.Proofs.Ytlapepdhkomijaa
namespace Go.Proofs.Ytlapepdhkomijaa
open Go Go.RowKit
theorem mixed : Try.prog.follows .mixedOrders = true := by kernel_rfl
variable {G : Nat → Option (Nat × (Nat → Val))}
structure RNet (n X O F Z : Nat) (r : Nat → Nat → Int) (sn : Nat → Bool) (bx : Bx) : Prop where
 x : bget bx (.n X) = some (.cells (.cons (.own (.n O)) (.cons (.own (.n Z)) .nil)))
 o : bget bx (.n O) = some (.rown 25 1 n fun i _ => .own (.f F i))
 f : ∀ i,i < n → ∃ c,bget bx (.f F i) = some (.row 3 1 n c) ∧ ∀ j,j < n → c j 0 = .int .i64 (r i j)
 s : ∃ c,bget bx (.n Z) = some (.row 4 1 n c) ∧ ∀ j,j < n → c j 0 = .bool (sn j)
end Go.Proofs.Ytlapepdhkomijaa
namespace Go.Proofs.Ytlapepdhkomijaa
open Go Go.RowKit
noncomputable def fstI (p : Nat → Prop) : Nat → Nat
 | 0 => 0
 | n + 1 => if fstI p n < n then fstI p n else @ite _ (p n) (Classical.propDecidable _) n (n + 1)
theorem fstI_no {p : Nat → Prop} {n : Nat} (h : ∀ j,j < n → ¬ p j) : fstI p n = n := by
 induction n with
 | zero => rfl
 | succ n ih =>
  have := ih fun j hj => h j (by omega)
  unfold fstI; rw [this,if_neg (Nat.lt_irrefl n),@if_neg _ (Classical.propDecidable _) (h n (by omega))]
theorem fstI_at {p : Nat → Prop} {n i : Nat} (hi : i < n) (hp : p i) (h : ∀ j,j < i → ¬ p j) : fstI p n = i := by
 induction n with
 | zero => omega
 | succ n ih =>
  unfold fstI
  rcases Nat.lt_or_ge i n with h1 | h1
  ·rw [ih h1,if_pos h1]
  ·obtain rfl : i = n := by omega
   rw [fstI_no h,if_neg (Nat.lt_irrefl i),@if_pos _ (Classical.propDecidable _) hp]
theorem fst_ex {p : Nat → Prop} {n : Nat} (h : ∃ i,i < n ∧ p i) : ∃ i,i < n ∧ p i ∧ ∀ j,j < i → ¬ p j := by
 obtain ⟨i,hi,hp⟩ := h
 induction i using Nat.strongRecOn with
 | ind i ih =>
  by_cases hm : ∃ j,j < i ∧ p j
  ·obtain ⟨j,hj,hpj⟩ := hm
   exact ih j hj (by omega) hpj
  ·exact ⟨i,hi,hp,fun j hj hpj => hm ⟨j,hj,hpj⟩⟩
theorem fstI_spec (p : Nat → Prop) (n : Nat) : (fstI p n < n ∧ p (fstI p n) ∧ ∀ j,j < fstI p n → ¬ p j) ∨ (fstI p n = n ∧ ∀ j,j < n → ¬ p j) := by
 by_cases h : ∃ i,i < n ∧ p i
 ·obtain ⟨i,h1,h2,h3⟩ := fst_ex h
  rw [fstI_at h1 h2 h3]; exact .inl ⟨h1,h2,h3⟩
 ·have : ∀ j,j < n → ¬ p j := fun j hj hp => h ⟨j,hj,hp⟩
  exact .inr ⟨fstI_no this,this⟩
noncomputable def decP (p : Prop) : Bool := @decide p (Classical.propDecidable _)
theorem decP_true {p : Prop} : decP p = true ↔ p := @decide_eq_true_iff p (Classical.propDecidable _)
theorem decP_false {p : Prop} : decP p = false ↔ ¬ p := @decide_eq_false_iff_not p (Classical.propDecidable _)
theorem decP_t {p : Prop} (h : p) : decP p = true := decP_true.2 h
theorem decP_f {p : Prop} (h : ¬ p) : decP p = false := decP_false.2 h
theorem decP_ext {p q : Prop} (h : p ↔ q) : decP p = decP q := by rw [propext h]
abbrev Pms := Nat × (Nat → Pm)
abbrev Ints := Nat × (Nat → Int)
noncomputable def sameB {α : Type} (a b : Nat × (Nat → α)) : Bool := decP (a.1 = b.1 ∧ ∀ i,i < a.1 → a.2 i = b.2 i)
noncomputable def hitN (l : Pms) (id : Int) : Nat := fstI (fun i => (l.2 i).id = id) l.1
noncomputable def atF (l : Pms) (id : Int) : Int := if hitN l id < l.1 then (hitN l id : Int) else -1
structure PmsOk (l : Pms) : Prop where
 n : l.1 ≤ 24
 id : ∀ i,i < l.1 → 0 ≤ (l.2 i).id ∧ (l.2 i).id ≤ 9999
 up : ∀ i,i < l.1 → 0 < i → (l.2 (i - 1)).id < (l.2 i).id
 pl : ∀ i,i < l.1 → 0 ≤ (l.2 i).planted ∧ (l.2 i).planted ≤ 100000
 sex : ∀ i,i < l.1 → (l.2 i).sex.1 ≤ 2
 sort : ∀ i,i < l.1 → 0 ≤ (l.2 i).sort ∧ (l.2 i).sort ≤ 99
 mo : ∀ i,i < l.1 → (l.2 i).mother = -1 ∨ (hitN l (l.2 i).mother < l.1 ∧ (l.2 (hitN l (l.2 i).mother)).planted + 1000 ≤ (l.2 i).planted)
section
variable {l : Pms}
theorem PmsOk.lt (h : PmsOk l) {i j : Nat} (hij : i < j) (hj : j < l.1) : (l.2 i).id < (l.2 j).id := by
 induction j with
 | zero => omega
 | succ j ih =>
  have h1 := h.up (j + 1) hj (by omega)
  rw [Nat.add_sub_cancel] at h1
  rcases Nat.lt_or_ge i j with h2 | h2
  ·have := ih h2 (by omega); omega
  ·obtain rfl : i = j := by omega
   exact h1
theorem PmsOk.inj (h : PmsOk l) {i j : Nat} (hi : i < l.1) (hj : j < l.1) (e : (l.2 i).id = (l.2 j).id) : i = j := by
 rcases Nat.lt_trichotomy i j with h1 | h1 | h1
 ·have := h.lt h1 hj; omega
 ·exact h1
 ·have := h.lt h1 hi; omega
theorem hit_spec (l : Pms) (id : Int) : (hitN l id < l.1 ∧ (l.2 (hitN l id)).id = id) ∨ (hitN l id = l.1 ∧ ∀ j,j < l.1 → (l.2 j).id ≠ id) := by
 rcases fstI_spec (fun i => (l.2 i).id = id) l.1 with ⟨h1,h2,_⟩ | ⟨h1,h2⟩
 ·exact .inl ⟨h1,h2⟩
 ·exact .inr ⟨h1,h2⟩
theorem PmsOk.hit (h : PmsOk l) {i : Nat} (hi : i < l.1) : hitN l (l.2 i).id = i := by
 rcases hit_spec l (l.2 i).id with ⟨h1,h2⟩ | ⟨_,h2⟩
 ·exact h.inj h1 hi h2
 ·exact absurd rfl (h2 i hi)
end
noncomputable def pmE (l : Pms) : Int := @ite _ (PmsOk l) (Classical.propDecidable _) 0 70
theorem pmE_ok {l : Pms} (h : PmsOk l) : pmE l = 0 := @if_pos _ (Classical.propDecidable _) h _ _ _
theorem pmE_no {l : Pms} (h : ¬ PmsOk l) : pmE l = 70 := @if_neg _ (Classical.propDecidable _) h _ _ _
theorem pmE_0 {l : Pms} (h : pmE l = 0) : PmsOk l := by
 by_cases h2 : PmsOk l
 ·exact h2
 ·rw [pmE_no h2] at h; cases h
def PmAt (l : Pms) (i : Nat) : Prop := (0 ≤ (l.2 i).id ∧ (l.2 i).id ≤ 9999) ∧ (0 < i → (l.2 (i - 1)).id < (l.2 i).id) ∧ (0 ≤ (l.2 i).planted ∧ (l.2 i).planted ≤ 100000) ∧ (l.2 i).sex.1 ≤ 2 ∧ (0 ≤ (l.2 i).sort ∧ (l.2 i).sort ≤ 99) ∧
 ((l.2 i).mother = -1 ∨ (hitN l (l.2 i).mother < l.1 ∧ IntKind.i64.wrap ((l.2 (hitN l (l.2 i).mother)).planted + 1000) ≤ (l.2 i).planted))
theorem pm_all {l : Pms} (h : l.1 ≤ 24) : PmsOk l ↔ ∀ i,i < l.1 → PmAt l i := by
 have wr : ∀ i,i < l.1 → 0 ≤ (l.2 i).planted → (l.2 i).planted ≤ 100000 → IntKind.i64.wrap ((l.2 i).planted + 1000) = (l.2 i).planted + 1000 := fun i _ h1 h2 => wr64 (by omega) (by omega)
 constructor
 ·intro k i hi
  refine ⟨k.id i hi,k.up i hi,k.pl i hi,k.sex i hi,k.sort i hi,?_⟩
  rcases k.mo i hi with h1 | ⟨h1,h2⟩
  ·exact .inl h1
  ·have := k.pl _ h1
   exact .inr ⟨h1,by rw [wr _ h1 this.1 this.2]; exact h2⟩
 ·intro k
  refine ⟨h,fun i hi => (k i hi).1,fun i hi => (k i hi).2.1,fun i hi => (k i hi).2.2.1,fun i hi => (k i hi).2.2.2.1,fun i hi => (k i hi).2.2.2.2.1,fun i hi => ?_⟩
  rcases (k i hi).2.2.2.2.2 with h1 | ⟨h1,h2⟩
  ·exact .inl h1
  ·have := (k _ h1).2.2.1
   exact .inr ⟨h1,by rw [wr _ h1 this.1 this.2] at h2; exact h2⟩
theorem atF_neg {l : Pms} {id : Int} : atF l id < 0 ↔ ¬ hitN l id < l.1 := by unfold atF; split <;> omega
theorem atF_pos {l : Pms} {id : Int} (h : hitN l id < l.1) : atF l id = (hitN l id : Int) := if_pos h
def hasF (l : Nat → Pm) : Nat → Int → Bool
 | 0,_ => false
 | n + 1,k => if k = (l n).id then true else hasF l n k
def lstF (l : Nat → Pm) : Nat → Int → Nat
 | 0,_ => 0
 | n + 1,k => if k = (l n).id then n else lstF l n k
theorem hasF_iff {l : Nat → Pm} {k : Int} : ∀ {n : Nat},hasF l n k = true ↔ ∃ i,i < n ∧ (l i).id = k := by
 intro n
 induction n with
 | zero => simp [hasF]
 | succ n ih =>
  unfold hasF
  split
  ·next e => exact ⟨fun _ => ⟨n,by omega,e.symm⟩,fun _ => rfl⟩
  ·next e =>
   rw [ih]
   constructor
   ·rintro ⟨i,h1,h2⟩; exact ⟨i,by omega,h2⟩
   ·rintro ⟨i,h1,h2⟩
    refine ⟨i,?_,h2⟩
    rcases Nat.lt_or_ge i n with h3 | h3
    ·exact h3
    ·obtain rfl : i = n := by omega
     exact absurd h2.symm e
theorem lstF_spec {l : Nat → Pm} {k : Int} : ∀ {n : Nat},hasF l n k = true → lstF l n k < n ∧ (l (lstF l n k)).id = k := by
 intro n
 induction n with
 | zero => intro h; cases h
 | succ n ih =>
  intro h
  unfold hasF at h
  unfold lstF
  split at h
  ·next e => rw [if_pos e]; exact ⟨by omega,e.symm⟩
  ·next e => rw [if_neg e]; obtain ⟨h1,h2⟩ := ih h; exact ⟨by omega,h2⟩
def hasP (l : Pms) (k : Int) : Bool := hasF l.2 l.1 k
def lstP (l : Pms) (k : Int) : Nat := lstF l.2 l.1 k
theorem lstP_spec {l : Pms} {k : Int} (h : hasP l k = true) : lstP l k < l.1 ∧ (l.2 (lstP l k)).id = k := lstF_spec h
theorem hasP_hit {l : Pms} {k : Int} : hasP l k = true ↔ hitN l k < l.1 := by
 unfold hasP
 rw [hasF_iff]
 rcases hit_spec l k with ⟨h1,h2⟩ | ⟨h1,h2⟩
 ·exact ⟨fun _ => h1,fun _ => ⟨_,h1,h2⟩⟩
 ·exact ⟨fun ⟨i,h3,h4⟩ => absurd h4 (h2 i h3),fun h => by omega⟩
theorem PmsOk.lst {l : Pms} (h : PmsOk l) {k : Int} (hk : hasP l k = true) : lstP l k = hitN l k := by
 obtain ⟨h1,h2⟩ := lstP_spec hk
 rcases hit_spec l k with ⟨h3,h4⟩ | ⟨h3,h4⟩
 ·exact h.inj h1 h3 (by rw [h2,h4])
 ·exact absurd h2 (h4 _ h1)
def PmLk (l : Pms) (i : Nat) : Prop := (0 ≤ (l.2 i).id ∧ (l.2 i).id ≤ 9999) ∧ (0 < i → (l.2 (i - 1)).id < (l.2 i).id) ∧ (0 ≤ (l.2 i).planted ∧ (l.2 i).planted ≤ 100000) ∧ (l.2 i).sex.1 ≤ 2 ∧ (0 ≤ (l.2 i).sort ∧ (l.2 i).sort ≤ 99) ∧
 ((l.2 i).mother = -1 ∨ (hasP l (l.2 i).mother = true ∧ IntKind.i64.wrap ((l.2 (lstP l (l.2 i).mother)).planted + 1000) ≤ (l.2 i).planted))
theorem pmLk_all {l : Pms} (h : l.1 ≤ 24) : PmsOk l ↔ ∀ i,i < l.1 → PmLk l i := by
 constructor
 ·intro k i hi
  obtain ⟨h1,h2,h3,h4,h5,h6⟩ := (pm_all h).1 k i hi
  refine ⟨h1,h2,h3,h4,h5,?_⟩
  rcases h6 with h6 | ⟨h6,h7⟩
  ·exact .inl h6
  ·have hk := hasP_hit.2 h6
   exact .inr ⟨hk,by rw [k.lst hk]; exact h7⟩
 ·intro k
  have up : ∀ j,j < l.1 → ∀ i,i < j → (l.2 i).id < (l.2 j).id := by
   intro j
   induction j with
   | zero => intro _ i hi; omega
   | succ j ih =>
    intro hj i hi
    have h1 := (k (j + 1) hj).2.1 (by omega)
    rw [Nat.add_sub_cancel] at h1
    rcases Nat.lt_or_ge i j with h2 | h2
    ·have := ih (by omega) i h2; omega
    ·obtain rfl : i = j := by omega
     exact h1
  refine (pm_all h).2 fun i hi => ?_
  obtain ⟨h1,h2,h3,h4,h5,h6⟩ := k i hi
  refine ⟨h1,h2,h3,h4,h5,?_⟩
  rcases h6 with h6 | ⟨h6,h7⟩
  ·exact .inl h6
  ·obtain ⟨g1,g2⟩ := lstP_spec h6
   have h8 := hasP_hit.1 h6
   have e : lstP l (l.2 i).mother = hitN l (l.2 i).mother := by
    rcases hit_spec l (l.2 i).mother with ⟨g3,g4⟩ | ⟨g3,_⟩
    ·rcases Nat.lt_trichotomy (lstP l (l.2 i).mother) (hitN l (l.2 i).mother) with h9 | h9 | h9
     ·have := up _ g3 _ h9; omega
     ·exact h9
     ·have := up _ g1 _ h9; omega
    ·omega
   exact .inr ⟨h8,by rw [← e]; exact h7⟩
noncomputable def allB {α : Type} (n : Nat) (f : Nat → α) (P : α → Prop) : Bool := @decide (∀ i,i < n → P (f i)) (Classical.propDecidable _)
theorem allB_no {α : Type} {n : Nat} {f : Nat → α} {P : α → Prop} {j : Nat} (hj : j < n) (h : ¬ P (f j)) : (!decide ((j : Int) ≥ 0)) = allB n f P := by
 have h1 : decide ((j : Int) ≥ 0) = true := decide_eq_true (by omega)
 have h2 : allB n f P = false := @decide_eq_false _ (Classical.propDecidable _) fun h' => h (h' j hj)
 rw [h1,h2]; rfl
theorem allB_yes {α : Type} {n : Nat} {f : Nat → α} {P : α → Prop} (h : ∀ i,i < n → P (f i)) : (!decide ((-1 : Int) ≥ 0)) = allB n f P := by
 have h2 : allB n f P = true := @decide_eq_true _ (Classical.propDecidable _) h
 rw [h2]; rfl
theorem allB_iff {α : Type} {n : Nat} {f : Nat → α} {P : α → Prop} : allB n f P = true ↔ ∀ i,i < n → P (f i) := by
 unfold allB; exact @decide_eq_true_iff _ (Classical.propDecidable _)
theorem lt1 (p : Nat → Prop) : (∀ i,i < 1 → p i) = p 0 := propext ⟨fun h => h 0 (by omega),fun h i hi => by
 obtain rfl : i = 0 := by omega
 exact h⟩
theorem lt2 (p : Nat → Prop) : (∀ i,i < 2 → p i) = (p 0 ∧ p 1) := propext ⟨fun h => ⟨h 0 (by omega),h 1 (by omega)⟩,fun h i hi => by
 rcases Nat.lt_or_ge i 1 with h1 | h1
 ·obtain rfl : i = 0 := by omega
  exact h.1
 ·obtain rfl : i = 1 := by omega
  exact h.2⟩
theorem allB_1 {α : Type} {f : Nat → α} {P : α → Prop} [Decidable (P (f 0))] : allB 1 f P = decide (P (f 0)) := Bool.eq_iff_iff.2 (by rw [allB_iff,lt1,decide_eq_true_iff])
theorem allB_2 {α : Type} {f : Nat → α} {P : α → Prop} [Decidable (P (f 0))] [Decidable (P (f 1))] : allB 2 f P = decide (P (f 0) ∧ P (f 1)) := Bool.eq_iff_iff.2 (by rw [allB_iff,lt2,decide_eq_true_iff])
end Go.Proofs.Ytlapepdhkomijaa
namespace Go.Proofs.Ytlapepdhkomijaa
open Go Go.RowKit
variable {G : Nat → Option (Nat × (Nat → Val))}
def sIn : Spec := spec3 TI TI TI (fun _ _ _ => True) fun n lo hi => .bool (decide (lo ≤ n ∧ n ≤ hi))
set_option maxRecDepth 100000 in
theorem pWithin7 : PureOk Try.prog G 52 sIn := by
 refine fn3 (S := []) (I := []) mixed .nil .nil Try.func52 c52 fun n lo hi _ _ => ?_
 simp only [RunTo,a52,↓reduceIte,reduceCtorEq,Nat.reduceEqDiff,Nat.reduceAdd,go_sem]
 refine ⟨fun h => ?_,fun h => ?_⟩ <;> simp <;> omega
noncomputable def sAt : Spec := spec2 (TSl RPm) TI (fun _ _ => True) fun l id => .int .i64 (atF l id)
set_option maxRecDepth 100000 in
theorem pAt : PureOk Try.prog G 44 sAt := by
 refine fn2 (S := []) (I := []) mixed .nil .nil Try.func44 c44 fun l id _ hw => ?_
 simp only [Nat.reduceSub,Nat.reducePow,go_sem] at hw
 simp only [RunTo,a44,Int.reduceNeg,go_sem]
 refine loopI (ι := Nat) (fun j => j ≤ l.1 ∧ ∀ i,i < j → (l.2 i).id ≠ id) (fun j => l.1 - j) [0,1] (fun j => [(5,.int .i64 j)]) (fun _ => []) 0 ⟨by omega,fun i h => by omega⟩ (by simp only [↓reduceIte,reduceCtorEq,Nat.reduceEqDiff,go_sem]; try rfl) fun j hj => ?_
 obtain ⟨hj1,hj2⟩ := hj
 simp only [hw,↓reduceIte,reduceCtorEq,Nat.reduceEqDiff,Nat.reduceSub,Nat.reduceLeDiff,Int.reduceNeg,Nat.reducePow,go_sem]
 refine ⟨fun hlt => ⟨by omega,by omega,fun h1 => ?_,fun h1 => inv_intro (j + 1) ⟨by omega,fun i hi => ?_⟩ (by omega) ?_⟩,fun hge => ?_⟩
 ·unfold atF hitN; rw [fstI_at (by omega) h1 hj2,if_pos (by omega)]
 ·rcases Nat.lt_or_ge i j with h5 | h5
  ·exact hj2 i h5
  ·obtain rfl : i = j := by omega
   exact h1
 ·simp only [↓reduceIte,reduceCtorEq,Nat.reduceEqDiff,go_sem]
  rw [wrS (by omega)]
 ·unfold atF hitN; rw [fstI_no (fun k hk => hj2 k (by omega)),if_neg (Nat.lt_irrefl _)]
noncomputable def sCheck7 : Spec := spec1 (TSl RPm) (fun _ => True) fun l => .int .i64 (pmE l)
set_option maxRecDepth 100000 in
theorem pCheck7 : PureOk Try.prog G 20 sCheck7 := by
  refine fn1 (S := [(52,sIn),(44,sAt)]) (I := []) mixed (.cons pWithin7 (.cons pAt .nil)) .nil Try.func20 c20 fun l _ hw => ?_
  simp only [Nat.reduceSub,Nat.reducePow,go_sem] at hw
  simp only [RunTo,a20,sIn,sAt,hw,↓reduceIte,reduceCtorEq,Nat.reduceSub,Int.reduceNeg,Nat.reducePow,go_sem]
  refine ⟨fun h => (pmE_no fun k => by have := k.n; omega).symm,fun h24 => ?_⟩
  have hall := pm_all (l := l) (by omega)
  have hno : ∀ j,j < l.1 → ¬ PmAt l j → (70 : Int) = pmE l := fun j hj hn => (pmE_no fun k => hn (hall.1 k j hj)).symm
  refine loopI (ι := Nat) (fun j => j ≤ l.1 ∧ ∀ i,i < j → PmAt l i) (fun j => l.1 - j) [0] (fun j => [(3,.int .i64 j)]) (fun _ => []) 0 ⟨by omega,fun i h => by omega⟩ (by simp only [↓reduceIte,reduceCtorEq,go_sem]; try rfl) fun j hj => ?_
  obtain ⟨hj1,hj2⟩ := hj
  have e1 : IntKind.i64.wrap ((j : Int) - 1) = (j : Int) - 1 := wr64 (by omega) (by omega)
  have e2 : ((j : Int) - 1).toNat = j - 1 := by omega
  by_cases hm : hitN l (l.2 j).mother < l.1
  · have ea := atF_pos hm
    simp only [e1,e2,ea,hw,↓imp_tt,↓imp_tf,↓imp_ft,↓imp_ff,↓reduceIte,reduceCtorEq,Nat.reduceEqDiff,Nat.reduceAdd,Nat.reduceSub,Nat.reduceLeDiff,Int.reduceNeg,Nat.reducePow,go_sem]
    repeat' (first | omega | (with_reducible apply And.intro) | intro _)
    all_goals first
      | exact (pmE_ok (hall.2 fun i hi => hj2 i (by omega))).symm
      | (refine hno j (by omega) fun k => ?_
         obtain ⟨k1,k2,k3,k4,k5,k6⟩ := k
         try have k2 := k2 (by omega)
         omega)
      | (refine inv_intro (j + 1) ⟨by omega,fun i hi => ?_⟩ (by omega) ?_
         · rcases Nat.lt_or_ge i j with h5 | h5
           · exact hj2 i h5
           · obtain rfl : i = j := by omega
             exact ⟨by omega,fun _ => by omega,by omega,by omega,by omega,by first | (left; omega) | (right; exact ⟨hm,by omega⟩)⟩
         · simp only [↓reduceIte,reduceCtorEq,go_sem]
           rw [wrS (by omega)])
  · have ea : (atF l (l.2 j).mother < 0) = True := eq_true (atF_neg.2 hm)
    simp only [e1,e2,ea,hw,↓imp_tt,↓imp_tf,↓imp_ft,↓imp_ff,↓reduceIte,reduceCtorEq,Nat.reduceEqDiff,Nat.reduceAdd,Nat.reduceSub,Nat.reduceLeDiff,Int.reduceNeg,Nat.reducePow,go_sem]
    repeat' (first | omega | (with_reducible apply And.intro) | intro _)
    all_goals first
      | exact (pmE_ok (hall.2 fun i hi => hj2 i (by omega))).symm
      | (refine hno j (by omega) fun k => ?_
         obtain ⟨k1,k2,k3,k4,k5,k6⟩ := k
         try have k2 := k2 (by omega)
         omega)
      | (refine inv_intro (j + 1) ⟨by omega,fun i hi => ?_⟩ (by omega) ?_
         · rcases Nat.lt_or_ge i j with h5 | h5
           · exact hj2 i h5
           · obtain rfl : i = j := by omega
             exact ⟨by omega,fun _ => by omega,by omega,by omega,by omega,by first | (left; omega) | (right; exact ⟨hm,by omega⟩)⟩
         · simp only [↓reduceIte,reduceCtorEq,go_sem]
           rw [wrS (by omega)])
end Go.Proofs.Ytlapepdhkomijaa
namespace Go.Proofs.Ytlapepdhkomijaa
open Go Go.RowKit
variable {G : Nat → Option (Nat × (Nat → Val))}
noncomputable def rtN (l : Pms) : Nat → Nat → Nat
 | 0,k => k
 | d + 1,k => if (l.2 k).mother = -1 then k else rtN l d (hitN l (l.2 k).mother)
noncomputable def rootF (l : Pms) (k : Nat) : Nat := rtN l 101 k
section
variable {l : Pms}
theorem PmsOk.mo2 (h : PmsOk l) {k : Nat} (hk : k < l.1) (hm : (l.2 k).mother ≠ -1) : hitN l (l.2 k).mother < l.1 ∧ (l.2 (hitN l (l.2 k).mother)).planted + 1000 ≤ (l.2 k).planted := (h.mo k hk).resolve_left hm
theorem rt_more (h : PmsOk l) : ∀ (d : Nat) (k : Nat),k < l.1 → (l.2 k).planted < 1000 * (d : Int) → rtN l (d + 1) k = rtN l d k := by
 intro d
 induction d with
 | zero => intro k hk hp; have := h.pl k hk; omega
 | succ d ih =>
  intro k hk hp
  by_cases hm : (l.2 k).mother = -1
  ·simp only [rtN,if_pos hm]
  ·obtain ⟨h1,h2⟩ := h.mo2 hk hm
   have := ih _ h1 (by omega)
   rw [rtN,if_neg hm,this]
   conv => rhs; rw [rtN,if_neg hm]
theorem root_mo (h : PmsOk l) {k : Nat} (hk : k < l.1) (hm : (l.2 k).mother ≠ -1) : rootF l (hitN l (l.2 k).mother) = rootF l k := by
 obtain ⟨h1,h2⟩ := h.mo2 hk hm
 have hp := h.pl _ h1
 have hpk := h.pl k hk
 have e1 : rootF l k = rtN l 100 (hitN l (l.2 k).mother) := by unfold rootF; rw [rtN,if_neg hm]
 rw [e1]
 exact rt_more h 100 _ h1 (by omega)
theorem clo_root (h : PmsOk l) {o : Nat → Bool} (hc : ∀ k,k < l.1 → (l.2 k).mother ≠ -1 → o k = o (hitN l (l.2 k).mother)) : ∀ (d : Nat) (k : Nat),k < l.1 → o (rtN l d k) = o k := by
 intro d
 induction d with
 | zero => intro k _; rfl
 | succ d ih =>
  intro k hk
  unfold rtN
  split
  ·rfl
  ·rename_i hm
   rw [ih _ (h.mo2 hk hm).1,← hc k hk hm]
end
noncomputable def clnB (l : Pms) (i k : Nat) : Bool := decide (rootF l k = rootF l i)
end Go.Proofs.Ytlapepdhkomijaa
namespace Go.Proofs.Ytlapepdhkomijaa
open Go Go.RowKit
variable {G : Nat → Option (Nat × (Nat → Val))}
def cntN (p : Nat → Bool) : Nat → Nat
 | 0 => 0
 | n + 1 => cntN p n + if p n = true then 1 else 0
def selN (p : Nat → Bool) : Nat → Nat → Nat
 | 0,_ => 0
 | n + 1,j => if p n = true ∧ j = cntN p n then n else selN p n j
theorem cntN_le (p : Nat → Bool) : ∀ n : Nat,cntN p n ≤ n := by
 intro n; induction n with
 | zero => exact Nat.le_refl _
 | succ n ih => simp only [cntN]; split <;> omega
theorem selN_lt {p : Nat → Bool} : ∀ {n j : Nat},j < cntN p n → selN p n j < n ∧ p (selN p n j) = true := by
 intro n; induction n with
 | zero => intro j h; exact absurd h (Nat.not_lt_zero _)
 | succ n ih =>
  intro j h
  simp only [cntN] at h
  simp only [selN]
  split
  ·rename_i e; exact ⟨by omega,e.1⟩
  ·rename_i e
   have : j < cntN p n := by
    by_cases hp : p n = true
    ·rw [if_pos hp] at h
     have : j ≠ cntN p n := fun e2 => e ⟨hp,e2⟩
     omega
    ·rw [if_neg hp] at h; omega
   obtain ⟨h1,h2⟩ := ih this
   exact ⟨by omega,h2⟩
noncomputable def clonesF (l : Pms) (i : Nat) : Ints := (cntN (clnB l i) l.1,fun j => (l.2 (selN (clnB l i) l.1 j)).id)
noncomputable def sClones7 : Spec := spec2 (TSl RPm) TI (fun _ _ => True) fun l id => if pmE l = 0 then (if hitN l id < l.1 then .tup (.cons (.view 1 (clonesF l (hitN l id)).1 fun j _ => .int .i64 ((clonesF l (hitN l id)).2 j)) (.cons (.int .i64 0) .nil)) else .tup (.cons .nils (.cons (.int .i64 6) .nil))) else .tup (.cons .nils (.cons (.int .i64 70) .nil))
end Go.Proofs.Ytlapepdhkomijaa
namespace Go.Proofs.Ytlapepdhkomijaa
open Go Go.RowKit
variable {G : Nat → Option (Nat × (Nat → Val))}
def mxF (p : Nat → Bool) (f : Nat → Int) : Nat → Int → Int
 | 0,x => x
 | n + 1,x => if p n = true then max (mxF p f n x) (f n) else mxF p f n x
def ctrP (l : Pms) (i k : Nat) : Prop := ((l.2 i).sex.1 ≠ 0 ∧ (l.2 k).sex.1 ≠ 0 ∧ (l.2 i).sex.1 ≠ (l.2 k).sex.1) ∨ ((l.2 i).sort ≠ 0 ∧ (l.2 k).sort ≠ 0 ∧ (l.2 i).sort ≠ (l.2 k).sort)
noncomputable def badI (l : Pms) : Nat := fstI (fun i => ∃ k,k < i ∧ clnB l i k = true ∧ ctrP l i k) l.1
noncomputable def sexF (l : Pms) (i : Nat) : Int := mxF (clnB l i) (fun k => (l.2 k).sex.1) l.1 (l.2 i).sex.1
noncomputable def sortF (l : Pms) (i : Nat) : Int := mxF (clnB l i) (fun k => (l.2 k).sort) l.1 (l.2 i).sort
noncomputable def knP (l : Pms) (i : Nat) : Pm := ⟨(l.2 i).id,(l.2 i).mother,(l.2 i).planted,toUI .u8 (sexF l i),sortF l i⟩
noncomputable def sKnown7 : Spec := spec1 (TSl RPm) (fun _ => True) fun l => if pmE l = 0 then (if badI l < l.1 then .tup (.cons .nils (.cons (.int .i64 (badI l : Nat)) (.cons (.int .i64 71) .nil))) else .tup (.cons (.view 5 l.1 fun i j => (knP l i).c j) (.cons (.int .i64 0) (.cons (.int .i64 0) .nil)))) else .tup (.cons .nils (.cons (.int .i64 0) (.cons (.int .i64 70) .nil)))
end Go.Proofs.Ytlapepdhkomijaa
namespace Go.Proofs.Ytlapepdhkomijaa
open Go Go.RowKit
variable {G : Nat → Option (Nat × (Nat → Val))}
def bearsP (l : Pms) (id day sex : Int) : Prop := hitN l id < l.1 ∧ (l.2 (hitN l id)).sex.1 = sex ∧ 1500 ≤ day - (l.2 (hitN l id)).planted
end Go.Proofs.Ytlapepdhkomijaa
