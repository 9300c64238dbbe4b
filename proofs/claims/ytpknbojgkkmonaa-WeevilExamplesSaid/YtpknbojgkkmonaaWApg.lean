/- Groves: a palm and a place appended; those chosen. No condition. -/
import Derived.Test.YtpknbojgkkmonaaWApp
set_option linter.unusedSimpArgs false
set_option linter.unusedVariables false
namespace Go.Proofs.Ytpknbojgkkmonaa
open Go Go.RowKit
def snocG {α : Type} (l : Nat × (Nat → α)) (s z : α) (k : Nat) : α := if k < l.1 then l.2 k else if k = l.1 then s else z
theorem sng_l {α : Type} {l : Nat × (Nat → α)} {s z : α} {k : Nat} (h : k < l.1) : snocG l s z k = l.2 k := if_pos h
theorem sng_r {α : Type} {l : Nat × (Nat → α)} {s z : α} : snocG l s z l.1 = s := by unfold snocG; rw [if_neg (Nat.lt_irrefl _),if_pos rfl]
theorem sng_r' {α : Type} {l : Nat × (Nat → α)} {s z : α} {n : Nat} (h : n = l.1) : snocG l s z n = s := by subst h; exact sng_r
def pm0 : Pm := ⟨0,0,0,⟨0,by decide⟩,0⟩
def pl0 : Pl := ⟨0,0⟩
abbrev pmV (a b c : Int) : Val := .cons (.int .i64 a) (.cons (.int .i64 b) (.cons (.int .i64 c) (.cons (.int .u8 0) (.cons (.int .i64 0) .nil))))
abbrev plV (a b : Int) : Val := .cons (.int .i64 a) (.cons (.int .i64 b) .nil)
def pmN (a b c : Int) : Pm := ⟨a,b,c,⟨0,by decide⟩,0⟩
theorem ap_pm (l : Pms) (a b c : Int) :
    (∀ k,Val.toInt (if k < l.1 then .int .i64 (l.2 k).id else vget (vget (.cons (pmV a b c) .nil) (k - l.1)) 0) = (snocG l (pmN a b c) pm0 k).id) ∧
    (∀ k,Val.toInt (if k < l.1 then .int .i64 (l.2 k).mother else vget (vget (.cons (pmV a b c) .nil) (k - l.1)) 1) = (snocG l (pmN a b c) pm0 k).mother) ∧
    (∀ k,Val.toInt (if k < l.1 then .int .i64 (l.2 k).planted else vget (vget (.cons (pmV a b c) .nil) (k - l.1)) 2) = (snocG l (pmN a b c) pm0 k).planted) ∧
    (∀ k,Val.toInt (if k < l.1 then .int .u8 (l.2 k).sex.1 else vget (vget (.cons (pmV a b c) .nil) (k - l.1)) 3) = (snocG l (pmN a b c) pm0 k).sex.1) ∧
    (∀ k,Val.toInt (if k < l.1 then .int .i64 (l.2 k).sort else vget (vget (.cons (pmV a b c) .nil) (k - l.1)) 4) = (snocG l (pmN a b c) pm0 k).sort) := by
  refine ⟨?_,?_,?_,?_,?_⟩
  all_goals
    intro k
    by_cases h1 : k < l.1
    · rw [if_pos h1,sng_l h1]; rfl
    · by_cases h2 : k = l.1
      · subst h2; rw [if_neg h1,sng_r,Nat.sub_self]; rfl
      · rw [if_neg h1,vget_z _ _ (by omega)]; unfold snocG; rw [if_neg h1,if_neg h2]; rfl
theorem ap_pl (l : Nat × (Nat → Pl)) (a b : Int) :
    (∀ k,Val.toInt (if k < l.1 then .int .i64 (l.2 k).x else vget (vget (.cons (plV a b) .nil) (k - l.1)) 0) = (snocG l ⟨a,b⟩ pl0 k).x) ∧
    (∀ k,Val.toInt (if k < l.1 then .int .i64 (l.2 k).y else vget (vget (.cons (plV a b) .nil) (k - l.1)) 1) = (snocG l ⟨a,b⟩ pl0 k).y) := by
  refine ⟨?_,?_⟩
  all_goals
    intro k
    by_cases h1 : k < l.1
    · rw [if_pos h1,sng_l h1]; rfl
    · by_cases h2 : k = l.1
      · subst h2; rw [if_neg h1,sng_r,Nat.sub_self]; rfl
      · rw [if_neg h1,vget_z _ _ (by omega)]; unfold snocG; rw [if_neg h1,if_neg h2]; rfl
theorem ap_pmw (l : Pms) (a b c : Int) : ∀ k,k < l.1 + 1 → Pm.w fun j => if k < l.1 then (l.2 k).c j else vget (vget (.cons (pmV a b c) .nil) (k - l.1)) j := by
  intro k hk
  by_cases h1 : k < l.1
  · simp only [if_pos h1]; exact of_eq_true (Pm.w_c _)
  · obtain rfl : k = l.1 := by omega
    simp only [Nat.lt_irrefl,if_false,Nat.sub_self]; exact ⟨rfl,rfl,rfl,⟨rfl,(show IntKind.min .u8 ≤ (0 : Int) by decide),(show (0 : Int) ≤ IntKind.max .u8 by decide)⟩,rfl⟩
theorem ap_plw (l : Nat × (Nat → Pl)) (a b : Int) : ∀ k,k < l.1 + 1 → Pl.w fun j => if k < l.1 then (l.2 k).c j else vget (vget (.cons (plV a b) .nil) (k - l.1)) j := by
  intro k hk
  by_cases h1 : k < l.1
  · simp only [if_pos h1]; exact of_eq_true (Pl.w_c _)
  · obtain rfl : k = l.1 := by omega
    simp only [Nat.lt_irrefl,if_false,Nat.sub_self]; exact ⟨rfl,rfl⟩
theorem sel_pre {α : Type} {p : Nat → Prop} {f : Nat → α} {z : α} {j : Nat} : ∀ n,j ≤ n → (selF p f z j).1 ≤ (selF p f z n).1 ∧ ∀ k,k < (selF p f z j).1 → (selF p f z n).2 k = (selF p f z j).2 k := by
  intro n
  induction n with
  | zero => intro h; obtain rfl : j = 0 := by omega
            exact ⟨Nat.le_refl _,fun _ _ => rfl⟩
  | succ n ih =>
    intro h
    rcases Nat.lt_or_ge j (n + 1) with h1 | h1
    · obtain ⟨h2,h3⟩ := ih (by omega)
      by_cases hp : p n
      · rw [sel_t hp]
        refine ⟨by show _ ≤ (selF p f z n).1 + 1; omega,fun k hk => ?_⟩
        show (if k < (selF p f z n).1 then _ else _) = _
        rw [if_pos (by omega)]; exact h3 k hk
      · rw [sel_f hp]; exact ⟨h2,h3⟩
    · obtain rfl : j = n + 1 := by omega
      exact ⟨Nat.le_refl _,fun _ _ => rfl⟩
theorem sel_at {α : Type} {p : Nat → Prop} {f : Nat → α} {z : α} {j n : Nat} (h : j < n) (hp : p j) : (selF p f z j).1 < (selF p f z n).1 ∧ (selF p f z n).2 (selF p f z j).1 = f j := by
  have h1 := sel_pre (p := p) (f := f) (z := z) (j := j + 1) n h
  rw [sel_t hp] at h1
  refine ⟨by have : (selF p f z j).1 + 1 ≤ _ := h1.1; omega,?_⟩
  have := h1.2 (selF p f z j).1 (Nat.lt_succ_self _)
  rw [this]
  show (if (selF p f z j).1 < (selF p f z j).1 then _ else _) = _
  rw [if_neg (Nat.lt_irrefl _)]
end Go.Proofs.Ytpknbojgkkmonaa
