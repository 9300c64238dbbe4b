/- HourNight, in plain Lean: moments of a night by choices, and what is told of them. No condition. -/
import Derived.Test.YtbhhcnonooiokaaDoorQNt
set_option linter.unusedSimpArgs false
set_option linter.unusedVariables false
namespace Go.Proofs.YtbhhcnonooiokaaDoor
open Go Go.RowKit
/-- how many bowls, and whether the last one was full -/
def bwF (b : Us) (i : Nat) : Int := if i = 0 then 0 else choF b (9 * i) % 5
def flF (b : Us) (i : Nat) : Bool := if i = 0 then true else decide (choF b (9 * i + 1) % 2 = 0)
/-- the length of some bowls -/
def smF (c : Ck) (b : Us) (i : Nat) : Nat → Int
  | 0 => 0
  | n + 1 => smF c b i n + insF c.sinks (choF b (9 * i + n))
def lgF (c : Ck) (b : Us) (i : Nat) : Int := if flF b i = true then 0 else choF b (9 * i + 2) % (c.sinks.hi + 1)
def nwF (c : Ck) (at' : Int) (b : Us) : Nat → Int
  | 0 => at'
  | i + 1 => nwF c at' b i + smF c b (i + 1) (bwF b (i + 1)).toNat + lgF c b (i + 1)
/-- the moment before a change's own bowls -/
def pvF (c : Ck) (at' : Int) (b : Us) : Nat → Int
  | 0 => at'
  | i + 1 => nwF c at' b i
/-- the tellings of a change, so far -/
noncomputable def tdF (c : Ck) (day at' : Int) (b : Us) (i : Nat) : Nat → Tls
  | 0 => (0, fun _ => ⟨0, 0, 0, ⟨0, 0⟩⟩)
  | j + 1 => if (truF c day (nwF c at' b i) b (9 * i + 4 + j)).2 = true then ((tdF c day at' b i j).1 + 1, fun m => if m < (tdF c day at' b i j).1 then (tdF c day at' b i j).2 m else (truF c day (nwF c at' b i) b (9 * i + 4 + j)).1) else tdF c day at' b i j
def ctF (b : Us) (i : Nat) : Nat := (choF b (9 * i + 3) % 3).toNat
noncomputable def chF (c : Ck) (day at' : Int) (b : Us) (i : Nat) : Ch := ⟨tdF c day at' b i (ctF b i), bwF b i, flF b i⟩
section
variable {c : Ck} {day at' : Int} {b : Us}
theorem bwF_bd (i : Nat) : 0 ≤ bwF b i ∧ bwF b i ≤ 4 := by unfold bwF; split <;> omega
theorem smF_bd (hc : CkOk c) (i : Nat) : ∀ n : Nat, (n : Int) * c.sinks.lo ≤ smF c b i n ∧ smF c b i n ≤ n * c.sinks.hi := by
  have hs := spin_of hc.sinks
  intro n; induction n with
  | zero => simp [smF]
  | succ n ih =>
    have h := insF_in (s := c.sinks) (n := choF b (9 * i + n)) hs.2.1
    simp only [smF, Int.natCast_succ, Int.add_mul, Int.one_mul]
    omega
theorem lgF_bd (hc : CkOk c) (i : Nat) : 0 ≤ lgF c b i ∧ lgF c b i ≤ c.sinks.hi ∧ (flF b i = true → lgF c b i = 0) := by
  have hs := spin_of hc.sinks
  unfold lgF; split
  · omega
  · rename_i h
    have h1 := Int.emod_nonneg (choF b (9 * i + 2)) (b := c.sinks.hi + 1) (by omega)
    have h2 := Int.emod_lt_of_pos (choF b (9 * i + 2)) (b := c.sinks.hi + 1) (by omega)
    exact ⟨h1, by omega, fun h3 => absurd h3 h⟩
theorem nw_step (hc : CkOk c) (i : Nat) : In (nwF c at' b (i + 1) - nwF c at' b i) (laterF c (chF c day at' b (i + 1))) := by
  have h1 := smF_bd (b := b) hc (i + 1) (bwF b (i + 1)).toNat
  have h2 := lgF_bd (b := b) hc (i + 1)
  have h3 := bwF_bd (b := b) (i + 1)
  rw [show (((bwF b (i + 1)).toNat : Nat) : Int) = bwF b (i + 1) from by omega] at h1
  unfold In laterF chF
  simp only [nwF]
  split
  · rename_i h; have := h2.2.2 h; omega
  · omega
theorem nw_mono (hc : CkOk c) (i : Nat) : at' ≤ nwF c at' b i := by
  induction i with
  | zero => exact Int.le_refl _
  | succ i ih =>
    have h1 := smF_bd (b := b) hc (i + 1) (bwF b (i + 1)).toNat
    have h2 := lgF_bd (b := b) hc (i + 1)
    have hs := spin_of hc.sinks
    have h4 : (0 : Int) ≤ ((bwF b (i + 1)).toNat : Nat) * c.sinks.lo := Int.mul_nonneg (by omega) (by omega)
    simp only [nwF]; omega
theorem td_le (i j : Nat) : (tdF c day at' b i j).1 ≤ j := by
  induction j with
  | zero => exact Nat.le_refl _
  | succ j ih => simp only [tdF]; split <;> first | omega | (simp only; omega)
theorem td_ok (i : Nat) (h : -100000000 ≤ nwF c at' b i ∧ nwF c at' b i ≤ 100000000) : ∀ j m, m < (tdF c day at' b i j).1 → TlOk c ((tdF c day at' b i j).2 m) ∧ In (nwF c at' b i) (tellF c day ((tdF c day at' b i j).2 m)) := by
  intro j; induction j with
  | zero => intro m hm; simp [tdF] at hm
  | succ j ih =>
    intro m
    simp only [tdF]
    split
    · rename_i ht
      intro hm
      simp only at hm ⊢
      split
      · exact ih m (by assumption)
      · exact truF_ok h ht
    · exact ih m
theorem ct_le (i : Nat) : ctF b i ≤ 2 := by unfold ctF; omega
theorem ngt_feas (hc : CkOk c) (hat : -100000000 ≤ at') {n : Nat} (hn : ∀ i, i < n → nwF c at' b i ≤ 100000000) : Feas c day (chF c day at' b) n (nwF c at' b) := by
  refine ⟨fun i hi => ?_, fun i hi => nw_step hc i⟩
  have h1 := nw_mono (at' := at') (b := b) hc i
  unfold baseF
  exact (allF_in _ _).2 ⟨by have := hn i hi; omega, fun m hm => (td_ok i ⟨by omega, hn i hi⟩ _ m hm).2⟩
theorem ngt_ch (hc : CkOk c) (hat : -100000000 ≤ at') {n : Nat} (hn : ∀ i, i < n → nwF c at' b i ≤ 100000000) : ∀ i, i < n → ChOk c (chF c day at' b i) (decide (i = 0)) := by
  intro i hi
  have h1 := nw_mono (at' := at') (b := b) hc i
  have h2 := td_le (c := c) (day := day) (at' := at') (b := b) i (ctF b i)
  have h3 := ct_le (b := b) i
  have h4 := bwF_bd (b := b) i
  refine ⟨by unfold chF; first | omega | (simp only; omega), fun m hm => (td_ok i ⟨by omega, hn i hi⟩ _ m hm).1, ⟨h4.1, by unfold chF; first | omega | (simp only; omega)⟩, fun h => ?_⟩
  obtain rfl := of_decide_eq_true h
  exact ⟨rfl, rfl⟩
/-- the night is told, and each moment in truth is in what is told of it -/
theorem ngt_told (hc : CkOk c) (hd : DayOk day) (hat : -100000000 ≤ at') {n : Nat} (h20 : n ≤ 20) (hn : ∀ i, i < n → nwF c at' b i ≤ 100000000) :
    ∃ f : Nat → Sp, nightF c day (n, chF c day at' b) = ((n, f), 0, 0) ∧ ∀ i, i < n → 1000 * (f i).lo ≤ nwF c at' b i ∧ nwF c at' b i ≤ 1000 * (f i).hi ∧ -100000000000 ≤ (f i).lo ∧ (f i).lo ≤ 100000000000 ∧ -100000000000 ≤ (f i).hi ∧ (f i).hi ≤ 100000000000 := by
  have hf := ngt_feas (day := day) (b := b) hc hat hn
  have hg := ngt_ch (day := day) (b := b) hc hat hn
  have hne := feas_fwd_ne hf
  have hB := bwd_ok (day := day) hc hg hne
  have hbd := fwd_bd hc hd hg
  refine ⟨_, nightF_ok (ask_ok hc hd) h20 hg hne, fun i hi => ?_⟩
  simp only
  have h1 := hf.bwd (n - 1 - i) (by omega)
  rw [show n - 1 - (n - 1 - i) = i from by omega] at h1
  have h2 := hB (n - 1 - i) (by omega)
  have h3 := hbd i hi
  rw [show n - 1 - (n - 1 - i) = i from by omega] at h2
  unfold In at h1
  unfold minsF downF; simp only; omega
end
end Go.Proofs.YtbhhcnonooiokaaDoor
