/- The greatest plan that is first: how it grows; it is one, and it is the greatest. No condition but bounds. -/
import Derived.Test.YtlapepdhkomijaaPMath
import Derived.Test.YtlapepdhkomijaaPVal
set_option linter.unusedSimpArgs false
set_option linter.unusedVariables false
namespace Go.Proofs.Ytlapepdhkomijaa
open Go Go.RowKit
structure PS where
 fr : Nat → Bool
 un : Nat → Int
 need : Int
 cnt : Nat
 pl : Nat → Du
def takD (fr : Nat → Bool) (h : Nat) : Nat → Bool := fun a => if a = h then false else fr a
def useD (un : Nat → Int) (j : Nat) : Nat → Int := fun b => if b = j then un b - 1 else un b
def canD (w : Wk) (i : Nat) (s : PS) (h j : Nat) : Prop := s.fr h = true ∧ s.un j ≠ 0 ∧ takesF w i h = true ∧ goodF w h j = true ∧ 1 + maxP (ntF w (i + 1) (takD s.fr h) (useD s.un j)) = s.need
def putD (s : PS) (i h j : Nat) : PS := ⟨takD s.fr h,useD s.un j,s.need - 1,s.cnt + 1,fun a => if a = s.cnt then ⟨i,h,j⟩ else s.pl a⟩
noncomputable def hourD (w : Wk) (i : Nat) (s : PS) : Nat := fstI (fun h => ∃ j,j < w.lots.1 ∧ canD w i s h j) w.hours.1
noncomputable def lotD (w : Wk) (i : Nat) (s : PS) : Nat := fstI (canD w i s (hourD w i s)) w.lots.1
noncomputable def stepD (w : Wk) (i : Nat) (s : PS) : PS := if hourD w i s < w.hours.1 then putD s i (hourD w i s) (lotD w i s) else s
noncomputable def stD (w : Wk) (fr : Nat → Bool) (un : Nat → Int) : Nat → PS
 | 0 => ⟨fr,un,maxP (ntF w 0 fr un),0,fun _ => ⟨0,0,0⟩⟩
 | i + 1 => stepD w i (stD w fr un i)
section
variable {w : Wk} {i h j : Nat} {s : PS}
theorem step_no (hn : ∀ h,h < w.hours.1 → ∀ j,j < w.lots.1 → ¬ canD w i s h j) : stepD w i s = s := by
 have : hourD w i s = w.hours.1 := fstI_no fun h hh ⟨j,hj,hc⟩ => hn h hh j hj hc
 unfold stepD; rw [this,if_neg (Nat.lt_irrefl _)]
theorem step_at (hh : h < w.hours.1) (hj : j < w.lots.1) (hc : canD w i s h j) (hb : ∀ h',h' < h → ∀ j',j' < w.lots.1 → ¬ canD w i s h' j') (hb2 : ∀ j',j' < j → ¬ canD w i s h j') : stepD w i s = putD s i h j := by
 have e : hourD w i s = h := fstI_at hh ⟨j,hj,hc⟩ fun h' h1 ⟨j',h2,h3⟩ => hb h' h1 j' h2 h3
 have e2 : lotD w i s = j := by unfold lotD; rw [e]; exact fstI_at hj hc hb2
 unfold stepD; rw [e2,e,if_pos hh]
theorem step_cases (w : Wk) (i : Nat) (s : PS) : (∃ h j,h < w.hours.1 ∧ j < w.lots.1 ∧ canD w i s h j ∧ (∀ h',h' < h → ∀ j',j' < w.lots.1 → ¬ canD w i s h' j') ∧ (∀ j',j' < j → ¬ canD w i s h j') ∧ stepD w i s = putD s i h j) ∨ ((∀ h,h < w.hours.1 → ∀ j,j < w.lots.1 → ¬ canD w i s h j) ∧ stepD w i s = s) := by
 by_cases hx : ∃ h,h < w.hours.1 ∧ ∃ j,j < w.lots.1 ∧ canD w i s h j
 ·obtain ⟨h,h1,⟨j0,j1,j2⟩,h3⟩ := fst_ex hx
  obtain ⟨j,g1,g2,g3⟩ := fst_ex ⟨j0,j1,j2⟩
  have a := fun h' (hh : h' < h) j' (hj' : j' < w.lots.1) (hc : canD w i s h' j') => h3 h' hh ⟨j',hj',hc⟩
  exact .inl ⟨h,j,h1,g1,g2,a,g3,step_at h1 g1 g2 a g3⟩
 ·have : ∀ h,h < w.hours.1 → ∀ j,j < w.lots.1 → ¬ canD w i s h j := fun h hh j hj hc => hx ⟨h,hh,j,hj,hc⟩
  exact .inr ⟨this,step_no this⟩
end
theorem size_nn (g : Pla) (n : Nat) : 0 ≤ Pla.size g n := by
 unfold Pla.size
 induction n with
 | zero => exact Int.le_refl _
 | succ n ih => simp only [sumN]; split <;> omega
theorem none_plan {N : Nt} (hun : ∀ j,0 ≤ N.un j) : IsPlan N fun _ => none :=
 ⟨fun i h j e => (by cases e),fun i i' h j j' e => (by cases e),fun j _ => by
  have : sumN (fun i => if lotIs ((fun _ => none : Pla) i) j = true then (1 : Int) else 0) N.S = 0 := sumN_ind_none fun i _ h => (by cases h)
  rw [this]; exact hun j⟩
theorem most_ex {N : Nt} (hun : ∀ j,0 ≤ N.un j) : IsMost N (maxP N) := by
 have key : ∀ d : Nat,∀ g,IsPlan N g → N.S ≤ (Pla.size g N.S).toNat + d → ∃ v,IsMost N v := by
  intro d
  induction d with
  | zero =>
   intro g hg hd
   refine ⟨Pla.size g N.S,⟨g,hg,rfl⟩,fun g' _ => ?_⟩
   have := Pla.size_le g' N.S
   have := size_nn g N.S
   omega
  | succ d ih =>
   intro g hg hd
   by_cases hx : ∃ g',IsPlan N g' ∧ Pla.size g N.S < Pla.size g' N.S
   ·obtain ⟨g',h1,h2⟩ := hx
    have := size_nn g N.S
    exact ih g' h1 (by omega)
   ·refine ⟨Pla.size g N.S,⟨g,hg,rfl⟩,fun g' h1 => ?_⟩
    rcases Int.lt_or_le (Pla.size g N.S) (Pla.size g' N.S) with h | h
    ·exact absurd ⟨g',h1,h⟩ hx
    ·exact h
 obtain ⟨v,hv⟩ := key N.S _ (none_plan hun) (by omega)
 rw [maxP_eq hv]; exact hv
theorem maxP_nn {N : Nt} (hun : ∀ j,0 ≤ N.un j) : 0 ≤ maxP N := by
 obtain ⟨g,_,e⟩ := (most_ex hun).ex
 rw [← e]; exact size_nn _ _
theorem maxP_le {N : Nt} (hun : ∀ j,0 ≤ N.un j) : maxP N ≤ N.S := by
 obtain ⟨g,_,e⟩ := (most_ex hun).ex
 rw [← e]; exact Pla.size_le _ _
theorem maxP_congr {w : Wk} {a : Nat} {fr fr' : Nat → Bool} {un un' : Nat → Int} (h1 : ∀ h,h < w.hours.1 → fr h = fr' h) (h2 : ∀ j,j < w.lots.1 → un j = un' j) (hun : ∀ j,j < w.lots.1 → 0 ≤ un j) : maxP (ntF w a fr un) = maxP (ntF w a fr' un') := by
 have hu : ∀ j,0 ≤ (ntF w a fr' un').un j := fun j => by
  show (0 : Int) ≤ if j < w.lots.1 then un' j else 0
  split
  ·rename_i e; rw [← h2 j e]; exact hun j e
  ·exact Int.le_refl _
 have hm := most_ex hu
 have key : ∀ g,IsPlan (ntF w a fr un) g ↔ IsPlan (ntF w a fr' un') g := fun g => by
  constructor
  ·intro k
   refine ⟨fun i h j e => ?_,k.inj,fun j hj => ?_⟩
   ·obtain ⟨b1,b2,b3,b4,b5,b6,b7⟩ := k.at' i h j e
    exact ⟨b1,b2,b3,b4,b5,b6,by rw [← b7]; exact (h1 h b3).symm⟩
   ·have hj : j < w.lots.1 := hj
    have := k.lots j hj
    have e : (ntF w a fr un).un j = (ntF w a fr' un').un j := by show (if j < w.lots.1 then un j else 0) = if j < w.lots.1 then un' j else 0; rw [if_pos hj,if_pos hj,h2 j hj]
    rw [← e]; exact this
  ·intro k
   refine ⟨fun i h j e => ?_,k.inj,fun j hj => ?_⟩
   ·obtain ⟨b1,b2,b3,b4,b5,b6,b7⟩ := k.at' i h j e
    exact ⟨b1,b2,b3,b4,b5,b6,by rw [← b7]; exact h1 h b3⟩
   ·have hj : j < w.lots.1 := hj
    have := k.lots j hj
    have e : (ntF w a fr un).un j = (ntF w a fr' un').un j := by show (if j < w.lots.1 then un j else 0) = if j < w.lots.1 then un' j else 0; rw [if_pos hj,if_pos hj,h2 j hj]
    rw [e]; exact this
 refine maxP_eq ⟨?_,fun g hg => hm.le g ((key g).1 hg)⟩
 obtain ⟨g,hg,e⟩ := hm.ex
 exact ⟨g,(key g).2 hg,e⟩
structure PlOk (w : Wk) (s : PS) (i : Nat) : Prop where
 un : ∀ j,j < w.lots.1 → 0 ≤ s.un j ∧ s.un j ≤ 100
 nd : 0 ≤ s.need ∧ s.need ≤ 8
 cn : s.cnt ≤ i
theorem ntF_un {w : Wk} {a : Nat} {fr : Nat → Bool} {un : Nat → Int} (h : ∀ j,j < w.lots.1 → 0 ≤ un j) : ∀ j,0 ≤ (ntF w a fr un).un j := fun j => by
 show (0 : Int) ≤ if j < w.lots.1 then un j else 0
 split
 ·rename_i e; exact h j e
 ·exact Int.le_refl _
theorem useD_un {w : Wk} {un : Nat → Int} {j : Nat} (h : ∀ j,j < w.lots.1 → 0 ≤ un j ∧ un j ≤ 100) (hj : j < w.lots.1) (hn : un j ≠ 0) : ∀ b,b < w.lots.1 → 0 ≤ useD un j b ∧ useD un j b ≤ 100 := fun b hb => by
 have h1 := h b hb
 unfold useD; split
 ·rename_i e; subst e; omega
 ·exact h1
theorem PlOk.put {w : Wk} {s : PS} {i h j : Nat} (hs : PlOk w s i) (hj : j < w.lots.1) (hc : canD w i s h j) : PlOk w (putD s i h j) (i + 1) := by
 obtain ⟨_,c2,_,_,c5⟩ := hc
 have hu := useD_un hs.un hj c2
 have := maxP_nn (ntF_un (w := w) (a := i + 1) (fr := takD s.fr h) (un := useD s.un j) fun b hb => (hu b hb).1)
 have hn := hs.nd
 have hc := hs.cn
 exact ⟨hu,⟨by show 0 ≤ s.need - 1; omega,by show s.need - 1 ≤ 8; omega⟩,by show s.cnt + 1 ≤ _; omega⟩
theorem st_ok {w : Wk} (hb : WkB w) {fr : Nat → Bool} {un : Nat → Int} (hu : ∀ j,j < w.lots.1 → 0 ≤ un j ∧ un j ≤ 100) : ∀ i,PlOk w (stD w fr un i) i := by
 intro i
 induction i with
 | zero =>
  have h1 := ntF_un (w := w) (a := 0) (fr := fr) fun j hj => (hu j hj).1
  have h2 := maxP_nn h1
  have h3 := maxP_le h1
  have h4 : ((ntF w 0 fr un).S : Int) ≤ 8 := by have := hb.s; show (w.spathes.1 : Int) ≤ 8; omega
  exact ⟨hu,⟨h2,by show maxP (ntF w 0 fr un) ≤ 8; omega⟩,Nat.le_refl _⟩
 | succ i ih =>
  show PlOk w (stepD w i (stD w fr un i)) (i + 1)
  rcases step_cases w i (stD w fr un i) with ⟨h,j,_,h2,h3,_,_,h6⟩ | ⟨_,h6⟩
  ·rw [h6]; exact ih.put h2 h3
  ·rw [h6]; exact ⟨ih.un,ih.nd,by have := ih.cn; omega⟩
end Go.Proofs.Ytlapepdhkomijaa
