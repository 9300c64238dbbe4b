/- Palms: which are valid. No condition. -/
import Derived.Test.YtlapepdhkomijaaPTy
set_option linter.unusedSimpArgs false
set_option linter.unusedVariables false
namespace Go.Proofs.Ytlapepdhkomijaa
open Go Go.RowKit
noncomputable def fstI (p : Nat → Prop) : Nat → Nat
 | 0 => 0
 | n + 1 => if fstI p n < n then fstI p n else @ite _ (p n) (Classical.propDecidable _) n (n + 1)
theorem fstI_no {p : Nat → Prop} {n : Nat} (h : ∀ j,j < n → ¬ p j) : fstI p n = n := by
 induction n with
 | zero => rfl
 | succ n ih =>
  have := ih fun j hj => h j (by omega)
  unfold fstI; rw [this,if_neg (Nat.lt_irrefl n),@if_neg _ (Classical.propDecidable _) (h n (by omega))]
theorem fstI_at {p : Nat → Prop} {n i : Nat} (hi : i < n) (hp : p i) (h : ∀ j,j < i → ¬ p j) : fstI p n = i := by
 induction n with
 | zero => omega
 | succ n ih =>
  unfold fstI
  rcases Nat.lt_or_ge i n with h1 | h1
  ·rw [ih h1,if_pos h1]
  ·obtain rfl : i = n := by omega
   rw [fstI_no h,if_neg (Nat.lt_irrefl i),@if_pos _ (Classical.propDecidable _) hp]
theorem fst_ex {p : Nat → Prop} {n : Nat} (h : ∃ i,i < n ∧ p i) : ∃ i,i < n ∧ p i ∧ ∀ j,j < i → ¬ p j := by
 obtain ⟨i,hi,hp⟩ := h
 induction i using Nat.strongRecOn with
 | ind i ih =>
  by_cases hm : ∃ j,j < i ∧ p j
  ·obtain ⟨j,hj,hpj⟩ := hm
   exact ih j hj (by omega) hpj
  ·exact ⟨i,hi,hp,fun j hj hpj => hm ⟨j,hj,hpj⟩⟩
theorem fstI_spec (p : Nat → Prop) (n : Nat) : (fstI p n < n ∧ p (fstI p n) ∧ ∀ j,j < fstI p n → ¬ p j) ∨ (fstI p n = n ∧ ∀ j,j < n → ¬ p j) := by
 by_cases h : ∃ i,i < n ∧ p i
 ·obtain ⟨i,h1,h2,h3⟩ := fst_ex h
  rw [fstI_at h1 h2 h3]; exact .inl ⟨h1,h2,h3⟩
 ·have : ∀ j,j < n → ¬ p j := fun j hj hp => h ⟨j,hj,hp⟩
  exact .inr ⟨fstI_no this,this⟩
noncomputable def decP (p : Prop) : Bool := @decide p (Classical.propDecidable _)
theorem decP_true {p : Prop} : decP p = true ↔ p := @decide_eq_true_iff p (Classical.propDecidable _)
theorem decP_false {p : Prop} : decP p = false ↔ ¬ p := @decide_eq_false_iff_not p (Classical.propDecidable _)
theorem decP_t {p : Prop} (h : p) : decP p = true := decP_true.2 h
theorem decP_f {p : Prop} (h : ¬ p) : decP p = false := decP_false.2 h
theorem decP_ext {p q : Prop} (h : p ↔ q) : decP p = decP q := by rw [propext h]
abbrev Pms := Nat × (Nat → Pm)
abbrev Ints := Nat × (Nat → Int)
noncomputable def sameB {α : Type} (a b : Nat × (Nat → α)) : Bool := decP (a.1 = b.1 ∧ ∀ i,i < a.1 → a.2 i = b.2 i)
noncomputable def hitN (l : Pms) (id : Int) : Nat := fstI (fun i => (l.2 i).id = id) l.1
noncomputable def atF (l : Pms) (id : Int) : Int := if hitN l id < l.1 then (hitN l id : Int) else -1
structure PmsOk (l : Pms) : Prop where
 n : l.1 ≤ 24
 id : ∀ i,i < l.1 → 0 ≤ (l.2 i).id ∧ (l.2 i).id ≤ 9999
 up : ∀ i,i < l.1 → 0 < i → (l.2 (i - 1)).id < (l.2 i).id
 pl : ∀ i,i < l.1 → 0 ≤ (l.2 i).planted ∧ (l.2 i).planted ≤ 100000
 sex : ∀ i,i < l.1 → (l.2 i).sex.1 ≤ 2
 sort : ∀ i,i < l.1 → 0 ≤ (l.2 i).sort ∧ (l.2 i).sort ≤ 99
 mo : ∀ i,i < l.1 → (l.2 i).mother = -1 ∨ (hitN l (l.2 i).mother < l.1 ∧ (l.2 (hitN l (l.2 i).mother)).planted + 1000 ≤ (l.2 i).planted)
section
variable {l : Pms}
theorem PmsOk.lt (h : PmsOk l) {i j : Nat} (hij : i < j) (hj : j < l.1) : (l.2 i).id < (l.2 j).id := by
 induction j with
 | zero => omega
 | succ j ih =>
  have h1 := h.up (j + 1) hj (by omega)
  rw [Nat.add_sub_cancel] at h1
  rcases Nat.lt_or_ge i j with h2 | h2
  ·have := ih h2 (by omega); omega
  ·obtain rfl : i = j := by omega
   exact h1
theorem PmsOk.inj (h : PmsOk l) {i j : Nat} (hi : i < l.1) (hj : j < l.1) (e : (l.2 i).id = (l.2 j).id) : i = j := by
 rcases Nat.lt_trichotomy i j with h1 | h1 | h1
 ·have := h.lt h1 hj; omega
 ·exact h1
 ·have := h.lt h1 hi; omega
theorem hit_spec (l : Pms) (id : Int) : (hitN l id < l.1 ∧ (l.2 (hitN l id)).id = id) ∨ (hitN l id = l.1 ∧ ∀ j,j < l.1 → (l.2 j).id ≠ id) := by
 rcases fstI_spec (fun i => (l.2 i).id = id) l.1 with ⟨h1,h2,_⟩ | ⟨h1,h2⟩
 ·exact .inl ⟨h1,h2⟩
 ·exact .inr ⟨h1,h2⟩
theorem PmsOk.hit (h : PmsOk l) {i : Nat} (hi : i < l.1) : hitN l (l.2 i).id = i := by
 rcases hit_spec l (l.2 i).id with ⟨h1,h2⟩ | ⟨_,h2⟩
 ·exact h.inj h1 hi h2
 ·exact absurd rfl (h2 i hi)
end
noncomputable def pmE (l : Pms) : Int := @ite _ (PmsOk l) (Classical.propDecidable _) 0 70
theorem pmE_ok {l : Pms} (h : PmsOk l) : pmE l = 0 := @if_pos _ (Classical.propDecidable _) h _ _ _
theorem pmE_no {l : Pms} (h : ¬ PmsOk l) : pmE l = 70 := @if_neg _ (Classical.propDecidable _) h _ _ _
theorem pmE_0 {l : Pms} (h : pmE l = 0) : PmsOk l := by
 by_cases h2 : PmsOk l
 ·exact h2
 ·rw [pmE_no h2] at h; cases h
def PmAt (l : Pms) (i : Nat) : Prop := (0 ≤ (l.2 i).id ∧ (l.2 i).id ≤ 9999) ∧ (0 < i → (l.2 (i - 1)).id < (l.2 i).id) ∧ (0 ≤ (l.2 i).planted ∧ (l.2 i).planted ≤ 100000) ∧ (l.2 i).sex.1 ≤ 2 ∧ (0 ≤ (l.2 i).sort ∧ (l.2 i).sort ≤ 99) ∧
 ((l.2 i).mother = -1 ∨ (hitN l (l.2 i).mother < l.1 ∧ IntKind.i64.wrap ((l.2 (hitN l (l.2 i).mother)).planted + 1000) ≤ (l.2 i).planted))
theorem pm_all {l : Pms} (h : l.1 ≤ 24) : PmsOk l ↔ ∀ i,i < l.1 → PmAt l i := by
 have wr : ∀ i,i < l.1 → 0 ≤ (l.2 i).planted → (l.2 i).planted ≤ 100000 → IntKind.i64.wrap ((l.2 i).planted + 1000) = (l.2 i).planted + 1000 := fun i _ h1 h2 => wr64 (by omega) (by omega)
 constructor
 ·intro k i hi
  refine ⟨k.id i hi,k.up i hi,k.pl i hi,k.sex i hi,k.sort i hi,?_⟩
  rcases k.mo i hi with h1 | ⟨h1,h2⟩
  ·exact .inl h1
  ·have := k.pl _ h1
   exact .inr ⟨h1,by rw [wr _ h1 this.1 this.2]; exact h2⟩
 ·intro k
  refine ⟨h,fun i hi => (k i hi).1,fun i hi => (k i hi).2.1,fun i hi => (k i hi).2.2.1,fun i hi => (k i hi).2.2.2.1,fun i hi => (k i hi).2.2.2.2.1,fun i hi => ?_⟩
  rcases (k i hi).2.2.2.2.2 with h1 | ⟨h1,h2⟩
  ·exact .inl h1
  ·have := (k _ h1).2.2.1
   exact .inr ⟨h1,by rw [wr _ h1 this.1 this.2] at h2; exact h2⟩
theorem atF_neg {l : Pms} {id : Int} : atF l id < 0 ↔ ¬ hitN l id < l.1 := by unfold atF; split <;> omega
theorem atF_pos {l : Pms} {id : Int} (h : hitN l id < l.1) : atF l id = (hitN l id : Int) := if_pos h
def hasF (l : Nat → Pm) : Nat → Int → Bool
 | 0,_ => false
 | n + 1,k => if k = (l n).id then true else hasF l n k
def lstF (l : Nat → Pm) : Nat → Int → Nat
 | 0,_ => 0
 | n + 1,k => if k = (l n).id then n else lstF l n k
theorem hasF_iff {l : Nat → Pm} {k : Int} : ∀ {n : Nat},hasF l n k = true ↔ ∃ i,i < n ∧ (l i).id = k := by
 intro n
 induction n with
 | zero => simp [hasF]
 | succ n ih =>
  unfold hasF
  split
  ·next e => exact ⟨fun _ => ⟨n,by omega,e.symm⟩,fun _ => rfl⟩
  ·next e =>
   rw [ih]
   constructor
   ·rintro ⟨i,h1,h2⟩; exact ⟨i,by omega,h2⟩
   ·rintro ⟨i,h1,h2⟩
    refine ⟨i,?_,h2⟩
    rcases Nat.lt_or_ge i n with h3 | h3
    ·exact h3
    ·obtain rfl : i = n := by omega
     exact absurd h2.symm e
theorem lstF_spec {l : Nat → Pm} {k : Int} : ∀ {n : Nat},hasF l n k = true → lstF l n k < n ∧ (l (lstF l n k)).id = k := by
 intro n
 induction n with
 | zero => intro h; cases h
 | succ n ih =>
  intro h
  unfold hasF at h
  unfold lstF
  split at h
  ·next e => rw [if_pos e]; exact ⟨by omega,e.symm⟩
  ·next e => rw [if_neg e]; obtain ⟨h1,h2⟩ := ih h; exact ⟨by omega,h2⟩
def hasP (l : Pms) (k : Int) : Bool := hasF l.2 l.1 k
def lstP (l : Pms) (k : Int) : Nat := lstF l.2 l.1 k
theorem lstP_spec {l : Pms} {k : Int} (h : hasP l k = true) : lstP l k < l.1 ∧ (l.2 (lstP l k)).id = k := lstF_spec h
theorem hasP_hit {l : Pms} {k : Int} : hasP l k = true ↔ hitN l k < l.1 := by
 unfold hasP
 rw [hasF_iff]
 rcases hit_spec l k with ⟨h1,h2⟩ | ⟨h1,h2⟩
 ·exact ⟨fun _ => h1,fun _ => ⟨_,h1,h2⟩⟩
 ·exact ⟨fun ⟨i,h3,h4⟩ => absurd h4 (h2 i h3),fun h => by omega⟩
theorem PmsOk.lst {l : Pms} (h : PmsOk l) {k : Int} (hk : hasP l k = true) : lstP l k = hitN l k := by
 obtain ⟨h1,h2⟩ := lstP_spec hk
 rcases hit_spec l k with ⟨h3,h4⟩ | ⟨h3,h4⟩
 ·exact h.inj h1 h3 (by rw [h2,h4])
 ·exact absurd h2 (h4 _ h1)
def PmLk (l : Pms) (i : Nat) : Prop := (0 ≤ (l.2 i).id ∧ (l.2 i).id ≤ 9999) ∧ (0 < i → (l.2 (i - 1)).id < (l.2 i).id) ∧ (0 ≤ (l.2 i).planted ∧ (l.2 i).planted ≤ 100000) ∧ (l.2 i).sex.1 ≤ 2 ∧ (0 ≤ (l.2 i).sort ∧ (l.2 i).sort ≤ 99) ∧
 ((l.2 i).mother = -1 ∨ (hasP l (l.2 i).mother = true ∧ IntKind.i64.wrap ((l.2 (lstP l (l.2 i).mother)).planted + 1000) ≤ (l.2 i).planted))
theorem pmLk_all {l : Pms} (h : l.1 ≤ 24) : PmsOk l ↔ ∀ i,i < l.1 → PmLk l i := by
 constructor
 ·intro k i hi
  obtain ⟨h1,h2,h3,h4,h5,h6⟩ := (pm_all h).1 k i hi
  refine ⟨h1,h2,h3,h4,h5,?_⟩
  rcases h6 with h6 | ⟨h6,h7⟩
  ·exact .inl h6
  ·have hk := hasP_hit.2 h6
   exact .inr ⟨hk,by rw [k.lst hk]; exact h7⟩
 ·intro k
  have up : ∀ j,j < l.1 → ∀ i,i < j → (l.2 i).id < (l.2 j).id := by
   intro j
   induction j with
   | zero => intro _ i hi; omega
   | succ j ih =>
    intro hj i hi
    have h1 := (k (j + 1) hj).2.1 (by omega)
    rw [Nat.add_sub_cancel] at h1
    rcases Nat.lt_or_ge i j with h2 | h2
    ·have := ih (by omega) i h2; omega
    ·obtain rfl : i = j := by omega
     exact h1
  refine (pm_all h).2 fun i hi => ?_
  obtain ⟨h1,h2,h3,h4,h5,h6⟩ := k i hi
  refine ⟨h1,h2,h3,h4,h5,?_⟩
  rcases h6 with h6 | ⟨h6,h7⟩
  ·exact .inl h6
  ·obtain ⟨g1,g2⟩ := lstP_spec h6
   have h8 := hasP_hit.1 h6
   have e : lstP l (l.2 i).mother = hitN l (l.2 i).mother := by
    rcases hit_spec l (l.2 i).mother with ⟨g3,g4⟩ | ⟨g3,_⟩
    ·rcases Nat.lt_trichotomy (lstP l (l.2 i).mother) (hitN l (l.2 i).mother) with h9 | h9 | h9
     ·have := up _ g3 _ h9; omega
     ·exact h9
     ·have := up _ g1 _ h9; omega
    ·omega
   exact .inr ⟨h8,by rw [← e]; exact h7⟩
noncomputable def allB {α : Type} (n : Nat) (f : Nat → α) (P : α → Prop) : Bool := @decide (∀ i,i < n → P (f i)) (Classical.propDecidable _)
theorem allB_no {α : Type} {n : Nat} {f : Nat → α} {P : α → Prop} {j : Nat} (hj : j < n) (h : ¬ P (f j)) : (!decide ((j : Int) ≥ 0)) = allB n f P := by
 have h1 : decide ((j : Int) ≥ 0) = true := decide_eq_true (by omega)
 have h2 : allB n f P = false := @decide_eq_false _ (Classical.propDecidable _) fun h' => h (h' j hj)
 rw [h1,h2]; rfl
theorem allB_yes {α : Type} {n : Nat} {f : Nat → α} {P : α → Prop} (h : ∀ i,i < n → P (f i)) : (!decide ((-1 : Int) ≥ 0)) = allB n f P := by
 have h2 : allB n f P = true := @decide_eq_true _ (Classical.propDecidable _) h
 rw [h2]; rfl
theorem allB_iff {α : Type} {n : Nat} {f : Nat → α} {P : α → Prop} : allB n f P = true ↔ ∀ i,i < n → P (f i) := by
 unfold allB; exact @decide_eq_true_iff _ (Classical.propDecidable _)
theorem lt1 (p : Nat → Prop) : (∀ i,i < 1 → p i) = p 0 := propext ⟨fun h => h 0 (by omega),fun h i hi => by
 obtain rfl : i = 0 := by omega
 exact h⟩
theorem lt2 (p : Nat → Prop) : (∀ i,i < 2 → p i) = (p 0 ∧ p 1) := propext ⟨fun h => ⟨h 0 (by omega),h 1 (by omega)⟩,fun h i hi => by
 rcases Nat.lt_or_ge i 1 with h1 | h1
 ·obtain rfl : i = 0 := by omega
  exact h.1
 ·obtain rfl : i = 1 := by omega
  exact h.2⟩
theorem allB_1 {α : Type} {f : Nat → α} {P : α → Prop} [Decidable (P (f 0))] : allB 1 f P = decide (P (f 0)) := Bool.eq_iff_iff.2 (by rw [allB_iff,lt1,decide_eq_true_iff])
theorem allB_2 {α : Type} {f : Nat → α} {P : α → Prop} [Decidable (P (f 0))] [Decidable (P (f 1))] : allB 2 f P = decide (P (f 0) ∧ P (f 1)) := Bool.eq_iff_iff.2 (by rw [allB_iff,lt2,decide_eq_true_iff])
end Go.Proofs.Ytlapepdhkomijaa
