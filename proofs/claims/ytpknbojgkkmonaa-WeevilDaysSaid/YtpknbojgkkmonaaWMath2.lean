/- Groves: the first days, plainly: as least and greatest vectors. No condition. -/
import Derived.Test.YtpknbojgkkmonaaWRef5
set_option linter.unusedSimpArgs false
set_option linter.unusedVariables false
namespace Go.Proofs.Ytpknbojgkkmonaa
open Go Go.RowKit
def lateP (g : Gv) (i : Nat) : Prop := (g.palms.2 i).mother ≠ -1 ∧ (g.palms.2 i).planted > g.start
noncomputable def moF (g : Gv) (i : Nat) : Nat := hitN g.palms (g.palms.2 i).mother
def Upw (g : Gv) (n0 N : Nat → Int) : Prop := (∀ i,i < g.palms.1 → n0 i ≤ N i) ∧ ∀ i,i < g.palms.1 → lateP g i → N i > (g.palms.2 i).planted → N (moF g i) > (g.palms.2 i).planted
def Raised (g : Gv) (n0 N : Nat → Int) : Prop := Upw g n0 N ∧ ∀ M,Upw g n0 M → ∀ i,i < g.palms.1 → N i ≤ M i
theorem Raised.uniq {g : Gv} {n0 N M : Nat → Int} (h : Raised g n0 N) (k : Raised g n0 M) : ∀ i,i < g.palms.1 → N i = M i := fun i hi => by
  have := h.2 M k.1 i hi; have := k.2 N h.1 i hi; omega
noncomputable def flyF (g : Gv) (N : Nat → Int) (i : Nat) (t : Int) : Int := max (max (t + g.hatch) (g.palms.2 i).planted) (N i)
def giftP (g : Gv) (N : Nat → Int) (i k : Nat) (t : Int) : Prop := (g.palms.2 i).mother = (g.palms.2 k).id ∧ (g.palms.2 i).planted > g.start ∧ t ≤ (g.palms.2 i).planted ∧ N i ≤ (g.palms.2 i).planted
structure Sat (g : Gv) (N D : Nat → Int) : Prop where
  top : ∀ i,i < g.palms.1 → D i ≤ 100001
  sus : ∀ i,i < g.palms.1 → susP g (g.palms.2 i).id → N i ≤ g.start → D i ≤ g.start
  fly : ∀ i k,i < g.palms.1 → k < g.palms.1 → i ≠ k → D k < 100001 → nearP (g.places.2 i) (g.places.2 k) g.reach → D i ≤ flyF g N i (D k)
  gift : ∀ i k,i < g.palms.1 → k < g.palms.1 → D k < 100001 → giftP g N i k (D k) → D i ≤ (g.palms.2 i).planted
def First (g : Gv) (N D : Nat → Int) : Prop := Sat g N D ∧ ∀ M,Sat g N M → ∀ i,i < g.palms.1 → M i ≤ D i
theorem First.uniq {g : Gv} {N D M : Nat → Int} (h : First g N D) (k : First g N M) : ∀ i,i < g.palms.1 → D i = M i := fun i hi => by
  have := h.2 M k.1 i hi; have := k.2 D h.1 i hi; omega
theorem Sat.ext {g : Gv} {N N' D : Nat → Int} (e : ∀ i,i < g.palms.1 → N i = N' i) (h : Sat g N D) : Sat g N' D := by
  refine ⟨h.top,fun i hi h1 h2 => h.sus i hi h1 (by rw [e i hi]; exact h2),fun i k hi hk h1 h2 h3 => ?_,fun i k hi hk h1 h2 => h.gift i k hi hk h1 ⟨h2.1,h2.2.1,h2.2.2.1,by rw [e i hi]; exact h2.2.2.2⟩⟩
  have := h.fly i k hi hk h1 h2 h3
  unfold flyF at this ⊢
  rw [← e i hi]; exact this
theorem First.ext {g : Gv} {N N' D : Nat → Int} (e : ∀ i,i < g.palms.1 → N i = N' i) (h : First g N D) : First g N' D :=
  ⟨h.1.ext e,fun M hM => h.2 M (hM.ext fun i hi => (e i hi).symm)⟩
def DaysP (g : Gv) (n0 D : Nat → Int) : Prop := ∃ N,Raised g n0 N ∧ First g N D
theorem DaysP.uniq {g : Gv} {n0 D M : Nat → Int} (h : DaysP g n0 D) (k : DaysP g n0 M) : ∀ i,i < g.palms.1 → D i = M i := by
  obtain ⟨N,h1,h2⟩ := h; obtain ⟨N',k1,k2⟩ := k
  exact (h2.ext (h1.uniq k1)).uniq k2
noncomputable def daysF (g : Gv) (n0 : Nat → Int) : Nat → Int := @dite _ (∃ D,DaysP g n0 D) (Classical.propDecidable _) (fun h => Classical.choose h) fun _ _ => 0
theorem daysF_eq {g : Gv} {n0 D : Nat → Int} (h : DaysP g n0 D) : ∀ i,i < g.palms.1 → D i = daysF g n0 i := by
  have hx : ∃ D,DaysP g n0 D := ⟨D,h⟩
  have e : daysF g n0 = Classical.choose hx := by unfold daysF; exact @dif_pos _ (Classical.propDecidable _) hx _ _ _
  rw [e]; exact h.uniq (Classical.choose_spec hx)
theorem daysF_ok {g : Gv} {n0 D : Nat → Int} (h : DaysP g n0 D) : DaysP g n0 (daysF g n0) := by
  have hx : ∃ D,DaysP g n0 D := ⟨D,h⟩
  have e : daysF g n0 = Classical.choose hx := by unfold daysF; exact @dif_pos _ (Classical.propDecidable _) hx _ _ _
  rw [e]; exact Classical.choose_spec hx
theorem up_step {g : Gv} {n0 N : Nat → Int} (h : ∀ M,Upw g n0 M → ∀ i,i < g.palms.1 → N i ≤ M i) {i : Nat} (hi : i < g.palms.1) (hl : lateP g i) (hN : N i > (g.palms.2 i).planted) :
    ∀ M,Upw g n0 M → ∀ j,j < g.palms.1 → (if j = moF g i then max (N j) ((g.palms.2 i).planted + 1) else N j) ≤ M j := by
  intro M hM j hj
  have h1 := h M hM j hj
  have h2 := h M hM i hi
  split
  · next e =>
    subst e
    have := hM.2 i hi hl (by omega)
    omega
  · exact h1
theorem fly_step {g : Gv} {N D : Nat → Int} (h : ∀ M,Sat g N M → ∀ i,i < g.palms.1 → M i ≤ D i) {i k : Nat} (hi : i < g.palms.1) (hk : k < g.palms.1) (hik : i ≠ k) (hD : D k < 100001)
    (hn : nearP (g.places.2 i) (g.places.2 k) g.reach) : ∀ M,Sat g N M → M i ≤ flyF g N i (D k) := by
  intro M hM
  have h1 := h M hM k hk
  have h2 := hM.fly i k hi hk hik (by omega) hn
  unfold flyF at h2 ⊢; omega
theorem gift_step {g : Gv} {N D : Nat → Int} (h : ∀ M,Sat g N M → ∀ i,i < g.palms.1 → M i ≤ D i) {i k : Nat} (hi : i < g.palms.1) (hk : k < g.palms.1) (hD : D k < 100001)
    (hg : giftP g N i k (D k)) : ∀ M,Sat g N M → M i ≤ (g.palms.2 i).planted := by
  intro M hM
  have h1 := h M hM k hk
  exact hM.gift i k hi hk (by omega) ⟨hg.1,hg.2.1,by have := hg.2.2.1; omega,hg.2.2.2⟩
theorem GvOk.mo {g : Gv} (h : GvOk g) {i : Nat} (hi : i < g.palms.1) (hl : (g.palms.2 i).mother ≠ -1) :
    moF g i < g.palms.1 ∧ (g.palms.2 (moF g i)).id = (g.palms.2 i).mother ∧ (g.palms.2 (moF g i)).planted + 1000 ≤ (g.palms.2 i).planted := by
  rcases h.pms.mo i hi with h1 | ⟨h1,h2⟩
  · exact absurd h1 hl
  · refine ⟨h1,?_,h2⟩
    rcases hit_spec g.palms (g.palms.2 i).mother with h3 | h3
    · exact h3.2
    · omega
end Go.Proofs.Ytpknbojgkkmonaa
