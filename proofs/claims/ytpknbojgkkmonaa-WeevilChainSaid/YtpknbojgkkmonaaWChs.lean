/- Groves: chains, what they are. No condition but bounds. -/
import Derived.Test.YtpknbojgkkmonaaWChn
set_option linter.unusedSimpArgs false
set_option linter.unusedVariables false
namespace Go.Proofs.Ytpknbojgkkmonaa
open Go Go.RowKit
structure ChOk (g : Gv) (D : Nat → Int) (i L : Nat) (c : Nat → Nat) : Prop where
  pos : 0 < L
  len : L ≤ depF g D i + 1
  last : c (L - 1) = i
  lt : ∀ t, t < L → c t < g.palms.1 ∧ D (c t) < 100001
  first : D (c 0) = g.start
  pre : ∀ t, t + 1 < L → D (c (t + 1)) ≠ g.start ∧ c t = preI g D (c (t + 1))
theorem chI_spec {g : Gv} (hg : GvOk g) {D : Nat → Int} (h : DayOk g D) : ∀ (d i : Nat), i < g.palms.1 → D i < 100001 → depF g D i < d → ChOk g D i (chI g D i).length fun t => (chI g D i).getD t 0 := by
  intro d
  induction d with
  | zero => intro i _ _ h; omega
  | succ d ih =>
    intro i hi hlt hd
    by_cases hs : D i = g.start
    · rw [chI_start (by omega) hs]
      refine ⟨Nat.one_pos, by show 1 ≤ _; omega, rfl, fun t ht => ?_, hs, fun t ht => ?_⟩
      · obtain rfl : t = 0 := by have : t < 1 := ht; omega
        exact ⟨hi, hlt⟩
      · have : t + 1 < 1 := ht; omega
    · obtain ⟨_, hb, hf, _⟩ := h.best hi hs hlt
      have h3 := dep_lt hg hi hb hf
      obtain ⟨k1, k2, k3, k4, k5, k6⟩ := ih _ hb hf.2.1 (by omega)
      rw [chI_step hg h hi hs hlt]
      generalize chI g D (preI g D i) = C at *
      have hl : (C ++ [i]).length = C.length + 1 := by simp
      rw [hl]
      refine ⟨by omega, by omega, by simp only [Nat.add_sub_cancel]; exact getD_r, fun t ht => ?_, ?_, fun t ht => ?_⟩
      · rcases Nat.lt_or_ge t C.length with h5 | h5
        · simp only [getD_l h5]; exact k4 t h5
        · obtain rfl : t = C.length := by omega
          simp only [getD_r]; exact ⟨hi, hlt⟩
      · simp only [getD_l k1]; exact k5
      · rcases Nat.lt_or_ge (t + 1) C.length with h5 | h5
        · simp only [getD_l h5, getD_l (show t < C.length by omega)]; exact k6 t h5
        · obtain h6 : t + 1 = C.length := by omega
          simp only [h6, getD_r, getD_l (show t < C.length by omega)]
          refine ⟨hs, ?_⟩
          have : t = C.length - 1 := by omega
          subst this
          exact k3
end Go.Proofs.Ytpknbojgkkmonaa
