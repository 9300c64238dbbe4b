/- Hours, outright: choices, and tellings that are true, in plain Lean. No condition. -/
import Derived.Test.YtbhhcnonooiokaaDoorNFeas
import Derived.Test.YtbhhcnonooiokaaDoorE4
set_option linter.unusedSimpArgs false
set_option linter.unusedVariables false
namespace Go.Proofs.YtbhhcnonooiokaaDoor
open Go Go.RowKit
abbrev Us := Nat × (Nat → UI .u32)
def choF (by' : Us) (i : Int) : Int := if i < by'.1 then (by'.2 i.toNat).1 else 0
theorem choF_bd (b : Us) (i : Int) : 0 ≤ choF b i ∧ choF b i ≤ 4294967295 := by
  unfold choF; split
  · exact u32_bd _
  · omega
def insF (s : Sp) (n : Int) : Int := s.lo + n % (s.hi - s.lo + 1)
theorem insF_in {s : Sp} {n : Int} (h : s.lo ≤ s.hi) : s.lo ≤ insF s n ∧ insF s n ≤ s.hi := by
  unfold insF
  have h1 := Int.emod_nonneg n (b := s.hi - s.lo + 1) (by omega)
  have h2 := Int.emod_lt_of_pos n (b := s.hi - s.lo + 1) (by omega)
  omega
def partF (s : Sp) (b : Us) (i : Int) : Sp := ⟨insF s (choF b i), insF ⟨insF s (choF b i), s.hi⟩ (choF b (i + 1))⟩
theorem partF_in {s : Sp} {b : Us} {i : Int} (h : s.lo ≤ s.hi) : s.lo ≤ (partF s b i).lo ∧ (partF s b i).lo ≤ (partF s b i).hi ∧ (partF s b i).hi ≤ s.hi := by
  have h1 := insF_in (n := choF b i) h
  have h2 := insF_in (s := ⟨insF s (choF b i), s.hi⟩) (n := choF b (i + 1)) h1.2
  unfold partF; simp only at h2 ⊢; omega
def markT (i : Int) : Tl := ⟨1, i, 0, ⟨0, 0⟩⟩
def betT (i : Int) : Tl := ⟨2, i, 0, ⟨0, 0⟩⟩
def starT (i h : Int) : Tl := ⟨3, i, h, ⟨0, 0⟩⟩
def wordT (lo hi : Int) : Tl := ⟨4, 0, 0, ⟨lo, hi⟩⟩
def wlo (at' : Int) (b : Us) (i : Int) : Int := at'.tdiv 1000 - 1 - choF b (i + 1) % 20
def whi (at' : Int) (b : Us) (i : Int) : Int := at'.tdiv 1000 + 1 + choF b (i + 2) % 20
def wdF (at' : Int) (b : Us) (i : Int) : Tl × Bool := if wlo at' b i < -100000 ∨ whi at' b i > 100000 then (⟨0, 0, 0, ⟨0, 0⟩⟩, false) else (wordT (wlo at' b i) (whi at' b i), true)
theorem tdiv_bd (n : Int) : n - 999 ≤ 1000 * n.tdiv 1000 ∧ 1000 * n.tdiv 1000 ≤ n + 999 := by
  have := Int.tmod_add_mul_tdiv n 1000
  have h5 : -1000 < n.tmod 1000 ∧ n.tmod 1000 < 1000 := by
    rcases Int.lt_or_le n 0 with h | h
    · have e : n.tmod 1000 = -((-n).tmod 1000) := by rw [Int.neg_tmod]; omega
      rw [e, Int.tmod_eq_emod_of_nonneg (by omega)]; omega
    · rw [Int.tmod_eq_emod_of_nonneg h]; omega
  omega
def P0 (c : Ck) (day at' : Int) (n : Nat) : Prop := In at' (tellF c day (markT n))
def P1 (c : Ck) (day at' : Int) (n : Nat) : Prop := In at' (tellF c day (betT n))
def P2 (c : Ck) (day at' : Int) (n h : Nat) : Prop := In at' (tellF c day (starT n h))
theorem P0_iff (c : Ck) (day at' : Int) (j : Nat) : P0 c day at' j ↔ 1000 * (c.mrk.2 j).lo ≤ at' ∧ at' ≤ 1000 * (c.mrk.2 j).hi := by simp [P0, In, tellF, markT]
theorem P1_iff (c : Ck) (day at' : Int) (j : Nat) : P1 c day at' j ↔ 1000 * (c.mrk.2 j).lo ≤ at' ∧ at' ≤ 1000 * (c.mrk.2 (j + 1)).hi := by simp [P1, In, tellF, betT]
theorem P2_iff (c : Ck) (day at' : Int) (j h : Nat) : P2 c day at' j h ↔ 1000 * (c.str.2 j).rise.lo - day * (c.str.2 j).shift.hi + h * c.hand.lo ≤ at' ∧ at' ≤ 1000 * (c.str.2 j).rise.hi - day * (c.str.2 j).shift.lo + h * c.hand.hi := by simp [P2, In, tellF, starT]
noncomputable def truF (c : Ck) (day at' : Int) (b : Us) (i : Int) : Tl × Bool :=
  if choF b i % 4 = 0 then (if fstI (P0 c day at') c.mrk.1 < c.mrk.1 then (markT (fstI (P0 c day at') c.mrk.1 : Nat), true) else wdF at' b i)
  else if choF b i % 4 = 1 then (if fstI (P1 c day at') (c.mrk.1 - 1) < c.mrk.1 - 1 then (betT (fstI (P1 c day at') (c.mrk.1 - 1) : Nat), true) else wdF at' b i)
  else if choF b i % 4 = 2 then (if fstI (fun n => ∃ h, h < 21 ∧ P2 c day at' n h) c.str.1 < c.str.1 then (starT (fstI (fun n => ∃ h, h < 21 ∧ P2 c day at' n h) c.str.1 : Nat) (fstI (P2 c day at' (fstI (fun n => ∃ h, h < 21 ∧ P2 c day at' n h) c.str.1)) 21 : Nat), true) else wdF at' b i)
  else wdF at' b i
theorem fstI_some {p : Nat → Prop} {n : Nat} (h : fstI p n < n) : p (fstI p n) := by
  by_cases hn : ∀ j < n, ¬ p j
  · rw [fstI_no hn] at h; omega
  · have : ∃ i, i < n ∧ p i ∧ ∀ j < i, ¬ p j := by
      false_or_by_contra
      rename_i h2
      refine hn fun i => Nat.strongRecOn i fun i ih hi hp => h2 ⟨i, hi, hp, fun j hj => ih j hj (by omega)⟩
    obtain ⟨i, hi, hp, hm⟩ := this
    rw [fstI_at hi hp hm]; exact hp
theorem fstI_min {p : Nat → Prop} {n : Nat} (i : Nat) (hi : i < fstI p n) : ¬ p i := by
  by_cases hn : ∀ j < n, ¬ p j
  · rw [fstI_no hn] at hi; exact hn i hi
  · have : ∃ i, i < n ∧ p i ∧ ∀ j < i, ¬ p j := by
      false_or_by_contra
      rename_i h2
      refine hn fun i => Nat.strongRecOn i fun i ih hi hp => h2 ⟨i, hi, hp, fun j hj => ih j hj (by omega)⟩
    obtain ⟨k, hk, hp, hm⟩ := this
    rw [fstI_at hk hp hm] at hi; exact hm i hi
theorem fstI_ex {p : Nat → Prop} {n i : Nat} (hi : i < n) (hp : p i) : fstI p n < n := by
  false_or_by_contra
  rename_i h
  have : ∀ j < n, ¬ p j := fun j => Nat.strongRecOn j fun j ih hj hpj => h (by rw [fstI_at hj hpj fun k hk => ih k hk (by omega)]; exact hj)
  exact this i hi hp
theorem wdF_ok {c : Ck} {day at' : Int} {b : Us} {i : Int} (hat : -100000000 ≤ at' ∧ at' ≤ 100000000) (h : (wdF at' b i).2 = true) : TlOk c (wdF at' b i).1 ∧ In at' (tellF c day (wdF at' b i).1) := by
  unfold wdF at h ⊢
  split
  · rename_i h1; rw [if_pos h1] at h; cases h
  · rename_i h1
    have h2 := choF_bd b (i + 1)
    have h3 := choF_bd b (i + 2)
    have ht := tdiv_bd at'
    unfold wlo whi at *
    refine ⟨.inr (.inr (.inr ⟨rfl, ?_⟩)), ?_⟩
    · unfold SpIn wordT; simp only; omega
    · simp [In, wordT, tellF]; omega
theorem truF_ok {c : Ck} {day at' : Int} {b : Us} {i : Int} (hat : -100000000 ≤ at' ∧ at' ≤ 100000000) (h : (truF c day at' b i).2 = true) : TlOk c (truF c day at' b i).1 ∧ In at' (tellF c day (truF c day at' b i).1) := by
  unfold truF at h ⊢
  split
  · rename_i h0; rw [if_pos h0] at h
    split
    · rename_i h1
      exact ⟨.inl ⟨rfl, by simp only [markT]; omega, by simp only [markT]; omega⟩, fstI_some (p := P0 c day at') h1⟩
    · rename_i h1; rw [if_neg h1] at h; exact wdF_ok hat h
  · rename_i h0; rw [if_neg h0] at h
    split
    · rename_i h0'; rw [if_pos h0'] at h
      split
      · rename_i h1
        exact ⟨.inr (.inl ⟨rfl, by simp only [betT]; omega, by simp only [betT]; omega⟩), fstI_some (p := P1 c day at') h1⟩
      · rename_i h1; rw [if_neg h1] at h; exact wdF_ok hat h
    · rename_i h0'; rw [if_neg h0'] at h
      split
      · rename_i h0''; rw [if_pos h0''] at h
        split
        · rename_i h1
          obtain ⟨z, hz, hp⟩ := fstI_some (p := fun n => ∃ h, h < 21 ∧ P2 c day at' n h) h1
          have h2 := fstI_ex hz hp
          exact ⟨.inr (.inr (.inl ⟨rfl, ⟨by simp only [starT]; omega, by simp only [starT]; omega⟩, by simp only [starT]; omega, by simp only [starT]; omega⟩)), fstI_some h2⟩
        · rename_i h1; rw [if_neg h1] at h; exact wdF_ok hat h
      · rename_i h0''; rw [if_neg h0''] at h; exact wdF_ok hat h
end Go.Proofs.YtbhhcnonooiokaaDoor
