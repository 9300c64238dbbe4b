/- Groves: the least raised vector is there, and rounds reach it. No condition. -/
import Derived.Test.YtpknbojgkkmonaaWMath2
set_option linter.unusedSimpArgs false
set_option linter.unusedVariables false
namespace Go.Proofs.Ytpknbojgkkmonaa
open Go Go.RowKit
noncomputable def cntN (p : Nat → Prop) : Nat → Nat
  | 0 => 0
  | n + 1 => cntN p n + @ite _ (p n) (Classical.propDecidable _) 1 0
theorem cntN_t {p : Nat → Prop} {n : Nat} (h : p n) : cntN p (n + 1) = cntN p n + 1 := by unfold cntN; rw [@if_pos _ (Classical.propDecidable _) h]; cases n <;> rfl
theorem cntN_f {p : Nat → Prop} {n : Nat} (h : ¬ p n) : cntN p (n + 1) = cntN p n := by unfold cntN; rw [@if_neg _ (Classical.propDecidable _) h]; cases n <;> rfl
theorem cntN_le {p q : Nat → Prop} {n : Nat} (h : ∀ j,j < n → p j → q j) : cntN p n ≤ cntN q n := by
  induction n with
  | zero => exact Nat.le_refl _
  | succ n ih =>
    have h1 := ih fun j hj => h j (by omega)
    by_cases hp : p n
    · rw [cntN_t hp,cntN_t (h n (by omega) hp)]; omega
    · rw [cntN_f hp]
      by_cases hq : q n
      · rw [cntN_t hq]; omega
      · rw [cntN_f hq]; exact h1
theorem cntN_lt {p q : Nat → Prop} {n i : Nat} (h : ∀ j,j < n → p j → q j) (hi : i < n) (hp : ¬ p i) (hq : q i) : cntN p n < cntN q n := by
  induction n with
  | zero => omega
  | succ n ih =>
    rcases Nat.lt_or_ge i n with h1 | h1
    · have h2 := ih (fun j hj => h j (by omega)) h1
      by_cases hp' : p n
      · rw [cntN_t hp',cntN_t (h n (by omega) hp')]; omega
      · rw [cntN_f hp']
        by_cases hq' : q n
        · rw [cntN_t hq']; omega
        · rw [cntN_f hq']; exact h2
    · obtain rfl : i = n := by omega
      rw [cntN_f hp,cntN_t hq]
      have := cntN_le (p := p) (q := q) (n := i) fun j hj => h j (by omega)
      omega
theorem cntN_n (n : Nat) : cntN (fun _ => True) n = n := by
  induction n with
  | zero => rfl
  | succ n ih => rw [cntN_t trivial,ih]
noncomputable def rankF (g : Gv) (i : Nat) : Nat := cntN (fun j => (g.palms.2 j).planted > (g.palms.2 i).planted) g.palms.1
theorem rank_n {g : Gv} {i : Nat} (hi : i < g.palms.1) : rankF g i < g.palms.1 := by
  have := cntN_lt (p := fun j => (g.palms.2 j).planted > (g.palms.2 i).planted) (q := fun _ => True) (n := g.palms.1) (i := i) (fun _ _ _ => trivial) hi (by omega) trivial
  rw [cntN_n] at this; exact this
theorem rank_mo {g : Gv} (h : GvOk g) {i : Nat} (hi : i < g.palms.1) (hl : (g.palms.2 i).mother ≠ -1) : rankF g i < rankF g (moF g i) := by
  obtain ⟨_,_,h3⟩ := h.mo hi hl
  exact cntN_lt (fun j _ hj => by omega) hi (by omega) (by omega)
theorem leastInt {p : Int → Prop} {b : Int} (hb : ∀ z,p z → b ≤ z) (hx : ∃ z,p z) : ∃ z,p z ∧ ∀ y,p y → z ≤ y := by
  obtain ⟨z,hz⟩ := hx
  have : ∀ d : Nat,∀ z,p z → (z - b).toNat = d → ∃ z,p z ∧ ∀ y,p y → z ≤ y := by
    intro d
    induction d using Nat.strongRecOn with
    | ind d ih =>
      intro z hz hd
      by_cases hy : ∃ y,p y ∧ y < z
      · obtain ⟨y,hy1,hy2⟩ := hy
        have h1 := hb y hy1
        have h2 := hb z hz
        exact ih _ (by omega) y hy1 rfl
      · exact ⟨z,hz,fun y hy1 => by
          rcases Int.lt_or_le y z with h1 | h1
          · exact absurd ⟨y,hy1,h1⟩ hy
          · exact h1⟩
  exact this _ z hz rfl
theorem raised_ex {g : Gv} (hg : GvOk g) {n0 : Nat → Int} (hn : ∀ i,i < g.palms.1 → n0 i ≤ 300000) : ∃ N,Raised g n0 N := by
  have hM : Upw g n0 fun _ => 300001 := ⟨fun i hi => by have := hn i hi; show n0 i ≤ 300001; omega,fun i hi _ _ => by
    have := (hg.pms.pl i hi).2
    show (300001 : Int) > _; omega⟩
  have hex : ∀ i,∃ z : Int,i < g.palms.1 → (∃ M,Upw g n0 M ∧ M i = z) ∧ ∀ y,(∃ M,Upw g n0 M ∧ M i = y) → z ≤ y := by
    intro i
    by_cases hi : i < g.palms.1
    · obtain ⟨z,h1,h2⟩ := leastInt (p := fun z => ∃ M,Upw g n0 M ∧ M i = z) (b := n0 i) (fun z ⟨M,h1,h2⟩ => by rw [← h2]; exact h1.1 i hi) ⟨_,_,hM,rfl⟩
      exact ⟨z,fun _ => ⟨h1,h2⟩⟩
    · exact ⟨0,fun h => absurd h hi⟩
  refine ⟨fun i => Classical.choose (hex i),⟨⟨fun i hi => ?_,fun i hi hl hN => ?_⟩,fun M hM i hi => ?_⟩⟩
  · obtain ⟨⟨M,h1,h2⟩,_⟩ := Classical.choose_spec (hex i) hi
    show n0 i ≤ Classical.choose (hex i)
    rw [← h2]; exact h1.1 i hi
  · have hmo := (hg.mo hi hl.1).1
    obtain ⟨⟨M,h1,h2⟩,_⟩ := Classical.choose_spec (hex (moF g i)) hmo
    have h3 := (Classical.choose_spec (hex i) hi).2 _ ⟨M,h1,rfl⟩
    show Classical.choose (hex (moF g i)) > _
    have hN : Classical.choose (hex i) > (g.palms.2 i).planted := hN
    rw [← h2]; exact h1.2 i hi hl (by omega)
  · exact (Classical.choose_spec (hex i) hi).2 _ ⟨M,hM,rfl⟩
structure Rnd (g : Gv) (n0 L X : Nat → Int) (r j : Nat) : Prop where
  lo : ∀ i,i < g.palms.1 → n0 i ≤ X i
  hi : ∀ i,i < g.palms.1 → X i ≤ L i
  fin : ∀ i,i < g.palms.1 → rankF g i < r → X i = L i
  now : ∀ i,i < j → i < g.palms.1 → lateP g i → X i > (g.palms.2 i).planted → rankF g i < r → X (moF g i) > (g.palms.2 i).planted
section
variable {g : Gv} {n0 L X : Nat → Int} {r j : Nat}
theorem Rnd.start (hL : Raised g n0 L) : Rnd g n0 L n0 0 0 := ⟨fun _ _ => Int.le_refl _,fun i hi => hL.1.1 i hi,fun i _ h => absurd h (Nat.not_lt_zero _),fun i h => absurd h (Nat.not_lt_zero _)⟩
theorem Rnd.keep (h : Rnd g n0 L X r j) (hx : ¬ (lateP g j ∧ X j > (g.palms.2 j).planted)) : Rnd g n0 L X r (j + 1) :=
  ⟨h.lo,h.hi,h.fin,fun i hij hi hl hX hr => by
    rcases Nat.lt_or_ge i j with h1 | h1
    · exact h.now i h1 hi hl hX hr
    · obtain rfl : i = j := by omega
      exact absurd ⟨hl,hX⟩ hx⟩
noncomputable def rsd (g : Gv) (X : Nat → Int) (j : Nat) : Nat → Int := fun i => if i = moF g j then max (X i) ((g.palms.2 j).planted + 1) else X i
theorem rsd_ge (g : Gv) (X : Nat → Int) (j i : Nat) : X i ≤ rsd g X j i := by unfold rsd; split <;> omega
theorem rsd_mo (g : Gv) (X : Nat → Int) (j : Nat) : rsd g X j (moF g j) > (g.palms.2 j).planted := by unfold rsd; rw [if_pos rfl]; omega
theorem rsd_le (hL : Upw g n0 L) (h : ∀ i,i < g.palms.1 → X i ≤ L i) (hj : j < g.palms.1) (hl : lateP g j) (hX : X j > (g.palms.2 j).planted) : ∀ i,i < g.palms.1 → rsd g X j i ≤ L i := by
  intro i hi
  have h1 := h i hi
  have h2 := h j hj
  unfold rsd
  split
  · next e =>
    subst e
    have := hL.2 j hj hl (by omega)
    omega
  · exact h1
theorem Rnd.step (hL : Raised g n0 L) (h : Rnd g n0 L X r j) (hj : j < g.palms.1) (hl : lateP g j) (hX : X j > (g.palms.2 j).planted) : Rnd g n0 L (rsd g X j) r (j + 1) := by
  have hhi := rsd_le hL.1 h.hi hj hl hX
  have hfin : ∀ i,i < g.palms.1 → rankF g i < r → rsd g X j i = L i := fun i hi hr => by
    have h1 := h.fin i hi hr
    have h2 := hhi i hi
    have h3 := rsd_ge g X j i
    omega
  refine ⟨fun i hi => Int.le_trans (h.lo i hi) (rsd_ge g X j i),hhi,hfin,fun i hij hi hl' hX' hr => ?_⟩
  rcases Nat.lt_or_ge i j with h1 | h1
  · rw [hfin i hi hr,← h.fin i hi hr] at hX'
    have h2 := h.now i h1 hi hl' hX' hr
    have h3 := rsd_ge g X j (moF g i)
    omega
  · obtain rfl : i = j := by omega
    exact rsd_mo g X i
theorem Rnd.next (hg : GvOk g) (hL : Raised g n0 L) (h : Rnd g n0 L X r g.palms.1) : Rnd g n0 L X (r + 1) 0 := by
  refine ⟨h.lo,h.hi,fun i hi hr => ?_,fun i h => absurd h (Nat.not_lt_zero _)⟩
  have hM : Upw g n0 fun i => if rankF g i ≤ r then X i else L i := by
    refine ⟨fun i hi => ?_,fun i hi hl hX => ?_⟩
    · show n0 i ≤ if rankF g i ≤ r then X i else L i
      split
      · exact h.lo i hi
      · exact hL.1.1 i hi
    · have hX : (if rankF g i ≤ r then X i else L i) > (g.palms.2 i).planted := hX
      show (if rankF g (moF g i) ≤ r then X (moF g i) else L (moF g i)) > _
      have h1 := rank_mo hg hi hl.1
      have h2 := h.hi i hi
      split
      · have h3 : rankF g i < r := by omega
        rw [if_pos (by omega)] at hX
        exact h.now i hi hi hl hX h3
      · refine hL.1.2 i hi hl ?_
        split at hX <;> omega
  have h1 := hL.2 _ hM i hi
  have h2 := h.hi i hi
  have h1 : L i ≤ if rankF g i ≤ r then X i else L i := h1
  rw [if_pos (by omega)] at h1
  omega
theorem Rnd.last (hL : Raised g n0 L) (h : Rnd g n0 L X r 0) (hr : g.palms.1 ≤ r) : ∀ i,i < g.palms.1 → X i = L i := fun i hi => h.fin i hi (by have := rank_n hi; omega)
end
end Go.Proofs.Ytpknbojgkkmonaa
