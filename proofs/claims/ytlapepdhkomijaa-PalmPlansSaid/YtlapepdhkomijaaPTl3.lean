/- More on loops' heads behind boxes that are known by name only. No condition. -/
import Derived.Test.YtlapepdhkomijaaPTl2
set_option linter.unusedSimpArgs false
set_option linter.unusedVariables false
namespace Go.Proofs.Ytlapepdhkomijaa
open Go Go.RowKit
theorem ents_up {B : Nat} {w : Bx} {b : Bn} {c : Box} : ∀ {l : Bx},EntsOk B w l → bget l b = some c → BxUp B c
 | [],_,h => by cases h
 | (k,.one c') :: l,hi,h => by
  obtain ⟨h1,h2⟩ := hi
  cases b <;> simp only [bget] at h
  ·split at h
   ·cases h; exact h1.1
   ·exact ents_up h2 h
  ·exact ents_up h2 h
 | (k,.fam d r) :: l,hi,h => by
  obtain ⟨h1,h2⟩ := hi
  cases b <;> simp only [bget] at h
  ·exact ents_up h2 h
  ·split at h
   ·cases h; exact h1.1 _
   ·exact ents_up h2 h
theorem vset_all {f f' : Int} {tk tk' : Nat → Bool} {us us' : Nat → Int} : vset (vset (vset (vset (vset (vset (vset (vset (vset (vset (vset (vset (vset (vset (vset (vset (vset (vset (vset (vset (vset (leftL f' tk' us') 0 (vget (leftL f tk us) 0)) 1 (vget (leftL f tk us) 1)) 2 (vget (leftL f tk us) 2)) 3 (vget (leftL f tk us) 3)) 4 (vget (leftL f tk us) 4)) 5 (vget (leftL f tk us) 5)) 6 (vget (leftL f tk us) 6)) 7 (vget (leftL f tk us) 7)) 8 (vget (leftL f tk us) 8)) 9 (vget (leftL f tk us) 9)) 10 (vget (leftL f tk us) 10)) 11 (vget (leftL f tk us) 11)) 12 (vget (leftL f tk us) 12)) 13 (vget (leftL f tk us) 13)) 14 (vget (leftL f tk us) 14)) 15 (vget (leftL f tk us) 15)) 16 (vget (leftL f tk us) 16)) 17 (vget (leftL f tk us) 17)) 18 (vget (leftL f tk us) 18)) 19 (vget (leftL f tk us) 19)) 20 (vget (leftL f tk us) 20) = leftL f tk us := by simp only [leftL,vset,vget]
theorem chkG_same {bx0 bx1 : Bx} {nx nx' : Nat} {fr1 fr' : Fr} (hn : nx ≤ nx') (hfr : chkFr (newIn bx1 bx0) (hasB bx0) fr1 fr') (h : ∀ b c,bget bx0 b = some c → bget bx1 b = some c) : ChkG bx0 nx fr1 bx1 fr' bx0 nx' :=
 ⟨none,trivial,hn,hfr,fun b c hb => .inl ⟨hb,h b c hb⟩,fun b c hb => .inl ⟨c,hb⟩,fun b c0 c1 q0 q1 => by rw [h _ _ q0] at q1; cases q1; exact ⟨c0,q0,Kin.refl _⟩⟩
theorem chkG_dom {bx0 bx1 bx' : Bx} {nx nx' : Nat} {fr1 fr' : Fr} (hn : nx ≤ nx') (hfr : chkFr (newIn bx1 bx') (hasB bx') fr1 fr') (hbox : chkBx (newIn bx1 bx') (hasB bx') bx1 bx') (hid : idsLt nx' bx') (hdom : ∀ b,bget bx' b = none → bget bx0 b = none) : ChkG bx0 nx fr1 bx1 fr' bx' nx' := by
 refine ⟨none,trivial,hn,hfr,fun b c hb => .inr (chkBx_get hbox _ _ hb),fun b c hb => .inr (idsLt_get hid _ _ hb),fun b c0 c1 q0 q1 => ?_⟩
 cases hb : bget bx' b with
 | none => rw [hdom b hb] at q0; cases q0
 | some c' =>
  have := chkBx_get hbox _ _ hb
  rw [q1] at this
  exact ⟨c',rfl,chk_kin this⟩
end Go.Proofs.Ytlapepdhkomijaa
