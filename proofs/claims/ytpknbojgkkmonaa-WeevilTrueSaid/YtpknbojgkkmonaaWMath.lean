/- Groves: what is valid, and what may be, as plain definitions. No condition. -/
import Derived.Test.YtpknbojgkkmonaaWTy
set_option linter.unusedSimpArgs false
set_option linter.unusedVariables false
namespace Go.Proofs.Ytpknbojgkkmonaa
open Go Go.RowKit
noncomputable def fstI (p : Nat → Prop) : Nat → Nat
  | 0 => 0
  | n + 1 => if fstI p n < n then fstI p n else @ite _ (p n) (Classical.propDecidable _) n (n + 1)
theorem fstI_no {p : Nat → Prop} {n : Nat} (h : ∀ j,j < n → ¬ p j) : fstI p n = n := by
  induction n with
  | zero => rfl
  | succ n ih =>
    have := ih fun j hj => h j (by omega)
    unfold fstI; rw [this,if_neg (Nat.lt_irrefl n),@if_neg _ (Classical.propDecidable _) (h n (by omega))]
theorem fstI_at {p : Nat → Prop} {n i : Nat} (hi : i < n) (hp : p i) (h : ∀ j,j < i → ¬ p j) : fstI p n = i := by
  induction n with
  | zero => omega
  | succ n ih =>
    unfold fstI
    rcases Nat.lt_or_ge i n with h1 | h1
    · rw [ih h1,if_pos h1]
    · obtain rfl : i = n := by omega
      rw [fstI_no h,if_neg (Nat.lt_irrefl i),@if_pos _ (Classical.propDecidable _) hp]
theorem fst_ex {p : Nat → Prop} {n : Nat} (h : ∃ i,i < n ∧ p i) : ∃ i,i < n ∧ p i ∧ ∀ j,j < i → ¬ p j := by
  obtain ⟨i,hi,hp⟩ := h
  induction i using Nat.strongRecOn with
  | ind i ih =>
    by_cases hm : ∃ j,j < i ∧ p j
    · obtain ⟨j,hj,hpj⟩ := hm
      exact ih j hj (by omega) hpj
    · exact ⟨i,hi,hp,fun j hj hpj => hm ⟨j,hj,hpj⟩⟩
theorem fstI_spec (p : Nat → Prop) (n : Nat) : (fstI p n < n ∧ p (fstI p n) ∧ ∀ j,j < fstI p n → ¬ p j) ∨ (fstI p n = n ∧ ∀ j,j < n → ¬ p j) := by
  by_cases h : ∃ i,i < n ∧ p i
  · obtain ⟨i,h1,h2,h3⟩ := fst_ex h
    rw [fstI_at h1 h2 h3]; exact .inl ⟨h1,h2,h3⟩
  · have : ∀ j,j < n → ¬ p j := fun j hj hp => h ⟨j,hj,hp⟩
    exact .inr ⟨fstI_no this,this⟩
noncomputable def decP (p : Prop) : Bool := @decide p (Classical.propDecidable _)
theorem decP_true {p : Prop} : decP p = true ↔ p := @decide_eq_true_iff p (Classical.propDecidable _)
theorem decP_false {p : Prop} : decP p = false ↔ ¬ p := @decide_eq_false_iff_not p (Classical.propDecidable _)
theorem decP_t {p : Prop} (h : p) : decP p = true := decP_true.2 h
theorem decP_f {p : Prop} (h : ¬ p) : decP p = false := decP_false.2 h
theorem decP_ext {p q : Prop} (h : p ↔ q) : decP p = decP q := by rw [propext h]
abbrev Pms := Nat × (Nat → Pm)
abbrev Pls := Nat × (Nat → Pl)
abbrev Ints := Nat × (Nat → Int)
abbrev Sgs := Nat × (Nat → Sg)
noncomputable def sameB {α : Type} (a b : Nat × (Nat → α)) : Bool := decP (a.1 = b.1 ∧ ∀ i,i < a.1 → a.2 i = b.2 i)
noncomputable def hitN (l : Pms) (id : Int) : Nat := fstI (fun i => (l.2 i).id = id) l.1
noncomputable def atF (l : Pms) (id : Int) : Int := if hitN l id < l.1 then (hitN l id : Int) else -1
structure PmsOk (l : Pms) : Prop where
  n : l.1 ≤ 24
  id : ∀ i,i < l.1 → 0 ≤ (l.2 i).id ∧ (l.2 i).id ≤ 9999
  up : ∀ i,i < l.1 → 0 < i → (l.2 (i - 1)).id < (l.2 i).id
  pl : ∀ i,i < l.1 → 0 ≤ (l.2 i).planted ∧ (l.2 i).planted ≤ 100000
  sex : ∀ i,i < l.1 → (l.2 i).sex.1 ≤ 2
  sort : ∀ i,i < l.1 → 0 ≤ (l.2 i).sort ∧ (l.2 i).sort ≤ 99
  mo : ∀ i,i < l.1 → (l.2 i).mother = -1 ∨ (hitN l (l.2 i).mother < l.1 ∧ (l.2 (hitN l (l.2 i).mother)).planted + 1000 ≤ (l.2 i).planted)
def PlOk (p : Pl) : Prop := (-100000 ≤ p.x ∧ p.x ≤ 100000) ∧ (-100000 ≤ p.y ∧ p.y ≤ 100000)
def nearP (a b : Pl) (far : Int) : Prop := (a.x - b.x) * (a.x - b.x) + (a.y - b.y) * (a.y - b.y) ≤ far * far
def susP (g : Gv) (id : Int) : Prop := ∃ i,i < g.sus.1 ∧ g.sus.2 i = id
structure GvOk (g : Gv) : Prop where
  pms : PmsOk g.palms
  n : g.places.1 = g.palms.1
  reach : 0 ≤ g.reach ∧ g.reach ≤ 10000
  hatch : 1 ≤ g.hatch ∧ g.hatch ≤ 1000
  shows : 0 ≤ g.shows ∧ g.shows ≤ 1000
  start : 0 ≤ g.start ∧ g.start ≤ 100000
  pl : ∀ i,i < g.places.1 → PlOk (g.places.2 i)
  sus : ∀ i,i < g.sus.1 → hitN g.palms (g.sus.2 i) < g.palms.1 ∧ (g.palms.2 (hitN g.palms (g.sus.2 i))).planted ≤ g.start ∧ (0 < i → g.sus.2 (i - 1) < g.sus.2 i)
def SgOk (g : Gv) (s : Sg) : Prop := (g.start ≤ s.day ∧ s.day ≤ 100000) ∧
  (((s.kind = 1 ∨ s.kind = 2) ∧ hitN g.palms s.palm < g.palms.1 ∧ (g.palms.2 (hitN g.palms s.palm)).planted ≤ s.day) ∨ (s.kind = 3 ∧ PlOk s.trap ∧ 0 ≤ s.near ∧ s.near ≤ 10000))
section
variable {l : Pms}
theorem PmsOk.lt (h : PmsOk l) {i j : Nat} (hij : i < j) (hj : j < l.1) : (l.2 i).id < (l.2 j).id := by
  induction j with
  | zero => omega
  | succ j ih =>
    have h1 := h.up (j + 1) hj (by omega)
    rw [Nat.add_sub_cancel] at h1
    rcases Nat.lt_or_ge i j with h2 | h2
    · have := ih h2 (by omega); omega
    · obtain rfl : i = j := by omega
      exact h1
theorem PmsOk.inj (h : PmsOk l) {i j : Nat} (hi : i < l.1) (hj : j < l.1) (e : (l.2 i).id = (l.2 j).id) : i = j := by
  rcases Nat.lt_trichotomy i j with h1 | h1 | h1
  · have := h.lt h1 hj; omega
  · exact h1
  · have := h.lt h1 hi; omega
theorem hit_spec (l : Pms) (id : Int) : (hitN l id < l.1 ∧ (l.2 (hitN l id)).id = id) ∨ (hitN l id = l.1 ∧ ∀ j,j < l.1 → (l.2 j).id ≠ id) := by
  rcases fstI_spec (fun i => (l.2 i).id = id) l.1 with ⟨h1,h2,_⟩ | ⟨h1,h2⟩
  · exact .inl ⟨h1,h2⟩
  · exact .inr ⟨h1,h2⟩
theorem PmsOk.hit (h : PmsOk l) {i : Nat} (hi : i < l.1) : hitN l (l.2 i).id = i := by
  rcases hit_spec l (l.2 i).id with ⟨h1,h2⟩ | ⟨_,h2⟩
  · exact h.inj h1 hi h2
  · exact absurd rfl (h2 i hi)
end
theorem sq_bd {u A : Int} (h1 : -A ≤ u) (h2 : u ≤ A) : 0 ≤ u * u ∧ u * u ≤ A * A := by
  rcases Int.le_total 0 u with h | h
  · exact ⟨Int.mul_nonneg h h,Int.mul_le_mul h2 h2 h (by omega)⟩
  · have e : u * u = (-u) * (-u) := by rw [Int.neg_mul_neg]
    rw [e]
    exact ⟨Int.mul_nonneg (by omega) (by omega),Int.mul_le_mul (by omega) (by omega) (by omega) (by omega)⟩
end Go.Proofs.Ytpknbojgkkmonaa
