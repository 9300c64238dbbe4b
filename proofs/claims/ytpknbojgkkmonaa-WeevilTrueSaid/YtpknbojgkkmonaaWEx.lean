/- Groves: the chapter's examples, plainly. No condition. -/
import Derived.Test.YtpknbojgkkmonaaWChn
import Derived.Test.YtpknbojgkkmonaaWGft
import Derived.Test.YtpknbojgkkmonaaWPln2
set_option linter.unusedSimpArgs false
set_option linter.unusedVariables false
namespace Go.Proofs.Ytpknbojgkkmonaa
open Go Go.RowKit
theorem lt1e {p : Nat → Prop} (h0 : p 0) : ∀ i,i < 1 → p i := fun i hi => by
  obtain rfl : i = 0 := by omega
  exact h0
theorem lt2e {p : Nat → Prop} (h0 : p 0) (h1 : p 1) : ∀ i,i < 2 → p i := fun i hi => by
  obtain rfl | rfl : i = 0 ∨ i = 1 := by omega
  · exact h0
  · exact h1
theorem lt4e {p : Nat → Prop} (h0 : p 0) (h1 : p 1) (h2 : p 2) (h3 : p 3) : ∀ i,i < 4 → p i := fun i hi => by
  obtain rfl | rfl | rfl | rfl : i = 0 ∨ i = 1 ∨ i = 2 ∨ i = 3 := by omega
  · exact h0
  · exact h1
  · exact h2
  · exact h3
def pmC (id mo pl : Int) : Pm := ⟨id,mo,pl,⟨0,by decide⟩,0⟩
def gvC : Gv := ⟨(4,fun i => if i = 0 then pmC 1 (-1) 0 else if i = 1 then pmC 2 (-1) 0 else if i = 2 then pmC 3 (-1) 0 else pmC 4 3 1200),
  (4,fun i => if i = 0 then ⟨0,0⟩ else if i = 1 then ⟨30,40⟩ else if i = 2 then ⟨90,40⟩ else ⟨500,500⟩),60,50,20,1000,(1,fun _ => 1)⟩
theorem hitC1 : hitN gvC.palms 1 = 0 := fstI_at (by decide) rfl fun i hi => absurd hi (Nat.not_lt_zero _)
theorem hitC2 : hitN gvC.palms 2 = 1 := fstI_at (by decide) rfl (lt1e (by decide))
theorem hitC3 : hitN gvC.palms 3 = 2 := fstI_at (by decide) rfl (lt2e (by decide) (by decide))
theorem hitC4 : hitN gvC.palms 4 = 3 := fstI_at (by decide) rfl fun i hi => by
  obtain rfl | rfl | rfl : i = 0 ∨ i = 1 ∨ i = 2 := by omega
  all_goals decide
theorem gvC_ok : GvOk gvC := by
  refine ⟨⟨by decide,lt4e (by decide) (by decide) (by decide) (by decide),fun i hi h0 => ?_,lt4e (by decide) (by decide) (by decide) (by decide),lt4e (by decide) (by decide) (by decide) (by decide),lt4e (by decide) (by decide) (by decide) (by decide),lt4e (.inl rfl) (.inl rfl) (.inl rfl) (.inr ?_)⟩,rfl,by decide,by decide,by decide,by decide,lt4e ⟨by decide,by decide⟩ ⟨by decide,by decide⟩ ⟨by decide,by decide⟩ ⟨by decide,by decide⟩,lt1e ?_⟩
  · have hi : i < 4 := hi
    obtain rfl | rfl | rfl : i = 1 ∨ i = 2 ∨ i = 3 := by omega
    all_goals decide
  · show hitN gvC.palms 3 < 4 ∧ (gvC.palms.2 (hitN gvC.palms 3)).planted + 1000 ≤ _
    rw [hitC3]; exact ⟨by decide,by decide⟩
  · show hitN gvC.palms 1 < 4 ∧ (gvC.palms.2 (hitN gvC.palms 1)).planted ≤ _ ∧ _
    rw [hitC1]; exact ⟨by decide,by decide,fun h => absurd h (Nat.lt_irrefl _)⟩
def exD (N : Nat → Int) (i : Nat) : Int := if i = 0 then 1000 else if i = 1 then max 1050 (N 1) else if i = 2 then max (max 1050 (N 1) + 50) (N 2) else 1200
theorem susC {i : Nat} (hi : i < 4) : susP gvC (gvC.palms.2 i).id ↔ i = 0 := by
  constructor
  · rintro ⟨z,_,h⟩
    have h : (1 : Int) = (gvC.palms.2 i).id := h
    obtain rfl | rfl | rfl | rfl : i = 0 ∨ i = 1 ∨ i = 2 ∨ i = 3 := by omega
    · rfl
    · exact absurd h (by decide)
    · exact absurd h (by decide)
    · exact absurd h (by decide)
  · rintro rfl; exact ⟨0,by decide,rfl⟩
theorem plC0 {i : Nat} (hi : i < 3) : (gvC.palms.2 i).planted = 0 := by
  obtain rfl | rfl | rfl : i = 0 ∨ i = 1 ∨ i = 2 := by omega
  all_goals rfl
theorem nearC {i k : Nat} (hi : i < 4) (hk : k < 4) : i ≠ k → nearP (gvC.places.2 i) (gvC.places.2 k) gvC.reach → (i = 0 ∧ k = 1) ∨ (i = 1 ∧ k = 0) ∨ (i = 1 ∧ k = 2) ∨ (i = 2 ∧ k = 1) := by
  intro h1 h2
  obtain rfl | rfl | rfl | rfl : i = 0 ∨ i = 1 ∨ i = 2 ∨ i = 3 := by omega
  all_goals
    obtain rfl | rfl | rfl | rfl : k = 0 ∨ k = 1 ∨ k = 2 ∨ k = 3 := by omega
    all_goals first
      | omega
      | (exfalso; unfold nearP at h2; revert h2; decide)
theorem near01 : nearP (gvC.places.2 1) (gvC.places.2 0) gvC.reach := by unfold nearP; decide
theorem near12 : nearP (gvC.places.2 2) (gvC.places.2 1) gvC.reach := by unfold nearP; decide
theorem giftC {N : Nat → Int} {i k : Nat} {t : Int} (hi : i < 4) (hk : k < 4) (h : giftP gvC N i k t) : i = 3 ∧ k = 2 := by
  have h1 := h.2.1
  have : i = 3 := by
    apply Classical.byContradiction
    intro h2
    rw [plC0 (by omega)] at h1
    exact absurd h1 (by decide)
  subst this
  refine ⟨rfl,?_⟩
  have h3 := h.1
  obtain rfl | rfl | rfl | rfl : k = 0 ∨ k = 1 ∨ k = 2 ∨ k = 3 := by omega
  · exact absurd h3 (by decide)
  · exact absurd h3 (by decide)
  · rfl
  · exact absurd h3 (by decide)
theorem flyC {N : Nat → Int} {i : Nat} (hi : i < 3) (t : Int) : flyF gvC N i t = max (max (t + 50) 0) (N i) := by unfold flyF; rw [plC0 hi]; rfl
theorem exC {N : Nat → Int} (h0 : N 0 ≤ 1000) (h3 : N 3 ≤ 1200) (h2 : max (max 1050 (N 1) + 50) (N 2) ≤ 1200) : First gvC N (exD N) := by
  have d0 : exD N 0 = 1000 := rfl
  have d1 : exD N 1 = max 1050 (N 1) := rfl
  have d2 : exD N 2 = max (max 1050 (N 1) + 50) (N 2) := rfl
  have d3 : exD N 3 = 1200 := rfl
  refine ⟨⟨lt4e (by omega) (by omega) (by omega) (by omega),fun i hi hs _ => ?_,fun i k hi hk hik _ hn => ?_,fun i k hi hk _ hg => ?_⟩,fun M hM => ?_⟩
  · obtain rfl := (susC hi).1 hs
    rw [d0]; decide
  · rcases nearC hi hk hik hn with ⟨rfl,rfl⟩ | ⟨rfl,rfl⟩ | ⟨rfl,rfl⟩ | ⟨rfl,rfl⟩ <;> rw [flyC (by omega)] <;> omega
  · obtain ⟨rfl,rfl⟩ := giftC hi hk hg
    rw [d3]; decide
  · have m0 : M 0 ≤ 1000 := hM.sus 0 (by decide) ((susC (by decide)).2 rfl) h0
    have m1 := hM.fly 1 0 (by decide) (by decide) (by decide) (by omega) near01
    rw [flyC (by omega)] at m1
    have m2 := hM.fly 2 1 (by decide) (by decide) (by decide) (by omega) near12
    rw [flyC (by omega)] at m2
    have m3 : M 3 ≤ 1200 := hM.gift 3 2 (by decide) (by decide) (by omega) ⟨by decide,by decide,by show M 2 ≤ 1200; omega,h3⟩
    exact lt4e (by omega) (by omega) (by omega) (by omega)
theorem exC' {N : Nat → Int} (h0 : N 0 > 1000) : First gvC N (fun _ => 100001) := by
  refine ⟨⟨fun i _ => Int.le_refl _,fun i hi hs hn => ?_,fun i k hi hk _ h _ => absurd h (Int.lt_irrefl _),fun i k hi hk h _ => absurd h (Int.lt_irrefl _)⟩,fun M hM i hi => hM.top i hi⟩
  obtain rfl := (susC hi).1 hs
  have : gvC.start = 1000 := rfl
  omega
theorem raisedC {N : Nat → Int} (h3 : N 3 ≤ 1200) : Raised gvC N N := by
  refine ⟨⟨fun i _ => Int.le_refl _,fun i hi hl hx => ?_⟩,fun M hM => hM.1⟩
  have h1 := hl.2
  have : i = 3 := by
    apply Classical.byContradiction
    intro h2
    have hi : i < 4 := hi
    rw [plC0 (by omega)] at h1
    exact absurd h1 (by decide)
  subst this
  have : (gvC.palms.2 3).planted = 1200 := rfl
  omega
theorem daysC {N : Nat → Int} (h0 : N 0 ≤ 1000) (h3 : N 3 ≤ 1200) (h2 : max (max 1050 (N 1) + 50) (N 2) ≤ 1200) : ∀ i,i < 4 → daysF gvC N i = exD N i := fun i hi => (daysF_eq ⟨N,raisedC h3,exC h0 h3 h2⟩ i hi).symm
theorem daysC' {N : Nat → Int} (h0 : N 0 > 1000) (h3 : N 3 ≤ 1200) : ∀ i,i < 4 → daysF gvC N i = 100001 := fun i hi => (daysF_eq ⟨N,raisedC h3,exC' h0⟩ i hi).symm
end Go.Proofs.Ytpknbojgkkmonaa
