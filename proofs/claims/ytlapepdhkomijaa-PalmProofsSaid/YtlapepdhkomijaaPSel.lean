/- Lists of what is so; the reference's Clones. No condition. -/
import Derived.Test.YtlapepdhkomijaaPCln
set_option linter.unusedSimpArgs false
set_option linter.unusedVariables false
namespace Go.Proofs.Ytlapepdhkomijaa
open Go Go.RowKit
variable {G : Nat → Option (Nat × (Nat → Val))}
def cntN (p : Nat → Bool) : Nat → Nat
 | 0 => 0
 | n + 1 => cntN p n + if p n = true then 1 else 0
def selN (p : Nat → Bool) : Nat → Nat → Nat
 | 0,_ => 0
 | n + 1,j => if p n = true ∧ j = cntN p n then n else selN p n j
theorem cntN_le (p : Nat → Bool) : ∀ n : Nat,cntN p n ≤ n := by
 intro n; induction n with
 | zero => exact Nat.le_refl _
 | succ n ih => simp only [cntN]; split <;> omega
theorem selN_lt {p : Nat → Bool} : ∀ {n j : Nat},j < cntN p n → selN p n j < n ∧ p (selN p n j) = true := by
 intro n; induction n with
 | zero => intro j h; exact absurd h (Nat.not_lt_zero _)
 | succ n ih =>
  intro j h
  simp only [cntN] at h
  simp only [selN]
  split
  ·rename_i e; exact ⟨by omega,e.1⟩
  ·rename_i e
   have : j < cntN p n := by
    by_cases hp : p n = true
    ·rw [if_pos hp] at h
     have : j ≠ cntN p n := fun e2 => e ⟨hp,e2⟩
     omega
    ·rw [if_neg hp] at h; omega
   obtain ⟨h1,h2⟩ := ih this
   exact ⟨by omega,h2⟩
end Go.Proofs.Ytlapepdhkomijaa
