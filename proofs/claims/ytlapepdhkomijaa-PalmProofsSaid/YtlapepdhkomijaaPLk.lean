/- Palms: looking for clones, from palm to palm. No condition. -/
import Derived.Test.YtlapepdhkomijaaPCln
set_option linter.unusedSimpArgs false
set_option linter.unusedVariables false
namespace Go.Proofs.Ytlapepdhkomijaa
open Go Go.RowKit
def nbP (l : Pms) (i k : Nat) : Prop := (l.2 k).mother = (l.2 i).id ∨ (l.2 k).id = (l.2 i).mother
structure LkPost (l : Pms) (s : Nat → Bool) (i : Nat) (t : Nat → Bool) : Prop where
 mono : ∀ a,a < l.1 → s a = true → t a = true
 here : t i = true
 clo : ∀ a,a < l.1 → t a = true → s a = false → ∀ b,b < l.1 → nbP l a b → t b = true
 cls : ∀ a,a < l.1 → t a = true → s a = false → rootF l a = rootF l i
structure LkAt (l : Pms) (s : Nat → Bool) (i k : Nat) (t : Nat → Bool) : Prop where
 mono : ∀ a,a < l.1 → s a = true → t a = true
 here : t i = true
 done : ∀ b,b < k → nbP l i b → t b = true
 clo : ∀ a,a < l.1 → a ≠ i → t a = true → s a = false → ∀ b,b < l.1 → nbP l a b → t b = true
 cls : ∀ a,a < l.1 → t a = true → s a = false → rootF l a = rootF l i
section
variable {l : Pms} {s t u : Nat → Bool} {i k : Nat}
theorem nb_root (h : PmsOk l) (hi : i < l.1) (hk : k < l.1) (hn : nbP l i k) : rootF l k = rootF l i := by
 rcases hn with e | e
 ·have hm : (l.2 k).mother ≠ -1 := by have := (h.id i hi).1; omega
  have := root_mo h hk hm
  rw [e,h.hit hi] at this
  exact this.symm
 ·have hm : (l.2 i).mother ≠ -1 := by have := (h.id k hk).1; omega
  have := root_mo h hi hm
  rw [← e,h.hit hk] at this
  exact this
theorem LkPost.same (h : s i = true) : LkPost l s i s := ⟨fun _ _ h => h,h,fun a _ h1 h2 => (by rw [h1] at h2; cases h2),fun a _ h1 h2 => (by rw [h1] at h2; cases h2)⟩
theorem LkAt.begin : LkAt l s i 0 (updS s i) := by
 refine ⟨fun a _ h => ?_,by simp [updS],fun b hb => absurd hb (Nat.not_lt_zero _),fun a _ hn h1 h2 => ?_,fun a _ h1 h2 => ?_⟩
 ·simp only [updS]; split
  ·rfl
  ·exact h
 ·simp only [updS,if_neg hn] at h1; rw [h1] at h2; cases h2
 ·simp only [updS] at h1
  split at h1
  ·rename_i e; rw [e]
  ·rw [h1] at h2; cases h2
theorem LkAt.skip (h : LkAt l s i k t) (hn : ¬ nbP l i k) : LkAt l s i (k + 1) t :=
 ⟨h.mono,h.here,fun b hb hb2 => (Nat.lt_or_ge b k).elim (fun h1 => h.done b h1 hb2) fun h1 => by
  obtain rfl : b = k := by omega
  exact absurd hb2 hn,h.clo,h.cls⟩
theorem LkAt.step (hl : PmsOk l) (hi : i < l.1) (hk : k < l.1) (h : LkAt l s i k t) (hn : nbP l i k) (hp : LkPost l t k u) : LkAt l s i (k + 1) u := by
 refine ⟨fun a ha hs => hp.mono a ha (h.mono a ha hs),hp.mono i hi h.here,fun b hb hb2 => ?_,fun a ha hne h1 h2 b hb hnb => ?_,fun a ha h1 h2 => ?_⟩
 ·rcases Nat.lt_or_ge b k with h1 | h1
  ·exact hp.mono b (by omega) (h.done b h1 hb2)
  ·obtain rfl : b = k := by omega
   exact hp.here
 ·cases e : t a with
  | true => exact hp.mono b hb (h.clo a ha hne e h2 b hb hnb)
  | false => exact hp.clo a ha h1 e b hb hnb
 ·cases e : t a with
  | true => exact h.cls a ha e h2
  | false => rw [hp.cls a ha h1 e]; exact nb_root hl hi hk hn
theorem LkAt.post (h : LkAt l s i l.1 t) : LkPost l s i t := by
 refine ⟨h.mono,h.here,fun a ha h1 h2 b hb hnb => ?_,h.cls⟩
 by_cases e : a = i
 ·subst e; exact h.done b hb hnb
 ·exact h.clo a ha e h1 h2 b hb hnb
theorem LkPost.cln (hl : PmsOk l) (hi : i < l.1) (h : LkPost l (fun _ => false) i t) : ∀ k,k < l.1 → t k = clnB l i k := by
 intro k hk
 unfold clnB
 cases e : t k with
 | true => exact (decide_eq_true (h.cls k hk e rfl)).symm
 | false =>
  refine (decide_eq_false fun he => ?_).symm
  have hc : ∀ k,k < l.1 → (l.2 k).mother ≠ -1 → t k = t (hitN l (l.2 k).mother) := fun k hk hm => by
   obtain ⟨m1,_⟩ := hl.mo2 hk hm
   have hid : (l.2 (hitN l (l.2 k).mother)).id = (l.2 k).mother := by
    rcases hit_spec l (l.2 k).mother with ⟨_,h2⟩ | ⟨h2,_⟩
    ·exact h2
    ·omega
   cases e1 : t k with
   | true => exact (h.clo k hk e1 rfl _ m1 (.inr hid)).symm
   | false =>
    cases e2 : t (hitN l (l.2 k).mother) with
    | false => rfl
    | true => have := h.clo _ m1 e2 rfl k hk (.inl hid.symm); rw [e1] at this; cases this
  have q1 := clo_root hl hc 101 k hk
  have q2 := clo_root hl hc 101 i hi
  have q3 : rtN l 101 k = rtN l 101 i := he
  rw [q3,q2,h.here,e] at q1
  cases q1
end
end Go.Proofs.Ytlapepdhkomijaa
