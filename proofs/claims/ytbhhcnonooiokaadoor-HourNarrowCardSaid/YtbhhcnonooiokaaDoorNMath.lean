/- Nights: in plain Lean. No condition. -/
import Derived.Test.YtbhhcnonooiokaaDoorHProg3
set_option linter.unusedSimpArgs false
set_option linter.unusedVariables false
namespace Go.Proofs.YtbhhcnonooiokaaDoor
open Go Go.RowKit
abbrev Chs := Nat × (Nat → Ch)
def laterF (c : Ck) (x : Ch) : Sp := ⟨x.bowls * c.sinks.lo, if x.full = true then x.bowls * c.sinks.hi else x.bowls * c.sinks.hi + c.sinks.hi⟩
def ChOk (c : Ck) (x : Ch) (first : Bool) : Prop := x.told.1 ≤ 10 ∧ AllOk c x.told ∧ (0 ≤ x.bowls ∧ x.bowls ≤ 200) ∧ (first = true → x.bowls = 0 ∧ x.full = true)
noncomputable def chB (c : Ck) (x : Ch) (first : Bool) : Bool := @decide (ChOk c x first) (Classical.propDecidable _)
theorem chB_iff {c : Ck} {x : Ch} {f : Bool} : chB c x f = true ↔ ChOk c x f := by simp [chB]
def baseF (c : Ck) (day : Int) (x : Ch) : Sp := allF c day x.told.2 x.told.1
def shiftF (a d : Sp) : Sp := ⟨a.lo + d.lo, a.hi + d.hi⟩
def backF (a d : Sp) : Sp := ⟨a.lo - d.hi, a.hi - d.lo⟩
def fwdF (c : Ck) (day : Int) (l : Nat → Ch) : Nat → Sp
  | 0 => baseF c day (l 0)
  | i + 1 => cutF (baseF c day (l (i + 1))) (shiftF (fwdF c day l i) (laterF c (l (i + 1))))
/-- from the end: the k-th before the last, n in all -/
def bwdF (c : Ck) (day : Int) (l : Nat → Ch) (n : Nat) : Nat → Sp
  | 0 => fwdF c day l (n - 1)
  | k + 1 => cutF (fwdF c day l (n - 2 - k)) (backF (bwdF c day l n k) (laterF c (l (n - 1 - k))))
/-- the first that is so, or n -/
noncomputable def fstI (p : Nat → Prop) : Nat → Nat
  | 0 => 0
  | n + 1 => if fstI p n < n then fstI p n else @ite _ (p n) (Classical.propDecidable _) n (n + 1)
theorem fstI_no {p : Nat → Prop} {n : Nat} (h : ∀ j < n, ¬ p j) : fstI p n = n := by
  induction n with
  | zero => rfl
  | succ n ih =>
    have := ih fun j hj => h j (by omega)
    unfold fstI; rw [this, if_neg (Nat.lt_irrefl n), @if_neg _ (Classical.propDecidable _) (h n (by omega))]
theorem fstI_at {p : Nat → Prop} {n i : Nat} (hi : i < n) (hp : p i) (h : ∀ j < i, ¬ p j) : fstI p n = i := by
  induction n with
  | zero => omega
  | succ n ih =>
    unfold fstI
    rcases Nat.lt_or_ge i n with h1 | h1
    · rw [ih h1, if_pos h1]
    · obtain rfl : i = n := by omega
      rw [fstI_no h, if_neg (Nat.lt_irrefl i), @if_pos _ (Classical.propDecidable _) hp]
def noSp : Nat × (Nat → Sp) := (0, fun _ => ⟨0, 0⟩)
noncomputable def nightF (c : Ck) (day : Int) (l : Chs) : (Nat × (Nat → Sp)) × Int × Int :=
  if askE c day ≠ 0 then (noSp, 0, askE c day) else if 20 < l.1 then (noSp, 0, 4) else
  if fstI (fun i => ¬ ChOk c (l.2 i) (decide (i = 0))) l.1 < l.1 then (noSp, fstI (fun i => ¬ ChOk c (l.2 i) (decide (i = 0))) l.1, 33) else
  if fstI (fun i => (fwdF c day l.2 i).lo > (fwdF c day l.2 i).hi) l.1 < l.1 then (noSp, fstI (fun i => (fwdF c day l.2 i).lo > (fwdF c day l.2 i).hi) l.1, 32) else
  ((l.1, fun i => minsF (bwdF c day l.2 l.1 (l.1 - 1 - i))), 0, 0)
theorem nightF_ask {c : Ck} {day : Int} {l : Chs} (h : askE c day ≠ 0) : nightF c day l = (noSp, 0, askE c day) := by unfold nightF; rw [if_pos h]
theorem nightF_many {c : Ck} {day : Int} {l : Chs} (h : askE c day = 0) (h2 : 20 < l.1) : nightF c day l = (noSp, 0, 4) := by unfold nightF; rw [if_neg (by simp [h]), if_pos h2]
theorem nightF_bad {c : Ck} {day : Int} {l : Chs} (h : askE c day = 0) (h2 : l.1 ≤ 20) {i : Nat} (hi : i < l.1) (hb : ¬ ChOk c (l.2 i) (decide (i = 0))) (hg : ∀ j < i, ChOk c (l.2 j) (decide (j = 0))) : nightF c day l = (noSp, (i : Int), 33) := by
  have e : fstI (fun i => ¬ ChOk c (l.2 i) (decide (i = 0))) l.1 = i := fstI_at hi hb fun j hj h => h (hg j hj)
  unfold nightF; rw [if_neg (by simp [h]), if_neg (by omega), e, if_pos hi]
theorem nightF_clash {c : Ck} {day : Int} {l : Chs} (h : askE c day = 0) (h2 : l.1 ≤ 20) (hg : ∀ j < l.1, ChOk c (l.2 j) (decide (j = 0))) {i : Nat} (hi : i < l.1) (hb : (fwdF c day l.2 i).lo > (fwdF c day l.2 i).hi) (hn : ∀ j < i, (fwdF c day l.2 j).lo ≤ (fwdF c day l.2 j).hi) : nightF c day l = (noSp, (i : Int), 32) := by
  have e : fstI (fun i => ¬ ChOk c (l.2 i) (decide (i = 0))) l.1 = l.1 := fstI_no fun j hj h => h (hg j hj)
  have e2 : fstI (fun i => (fwdF c day l.2 i).lo > (fwdF c day l.2 i).hi) l.1 = i := fstI_at hi hb fun j hj h => by have := hn j hj; omega
  unfold nightF; rw [if_neg (by simp [h]), if_neg (by omega), e, if_neg (Nat.lt_irrefl _), e2, if_pos hi]
theorem nightF_ok {c : Ck} {day : Int} {l : Chs} (h : askE c day = 0) (h2 : l.1 ≤ 20) (hg : ∀ j < l.1, ChOk c (l.2 j) (decide (j = 0))) (hn : ∀ j < l.1, (fwdF c day l.2 j).lo ≤ (fwdF c day l.2 j).hi) : nightF c day l = ((l.1, fun i => minsF (bwdF c day l.2 l.1 (l.1 - 1 - i))), 0, 0) := by
  have e : fstI (fun i => ¬ ChOk c (l.2 i) (decide (i = 0))) l.1 = l.1 := fstI_no fun j hj h => h (hg j hj)
  have e2 : fstI (fun i => (fwdF c day l.2 i).lo > (fwdF c day l.2 i).hi) l.1 = l.1 := fstI_no fun j hj h => by have := hn j hj; omega
  unfold nightF; rw [if_neg (by simp [h]), if_neg (by omega), e, if_neg (Nat.lt_irrefl _), e2, if_neg (Nat.lt_irrefl _)]
def Bd (s : Sp) : Prop := (-20000000000 ≤ s.lo ∧ s.lo ≤ 20000000000) ∧ (-20000000000 ≤ s.hi ∧ s.hi ≤ 20000000000)
theorem later_bd {c : Ck} {x : Ch} (hc : CkOk c) (hb : 0 ≤ x.bowls ∧ x.bowls ≤ 200) : (0 ≤ x.bowls * c.sinks.lo ∧ x.bowls * c.sinks.lo ≤ 20000000) ∧ (0 ≤ x.bowls * c.sinks.hi ∧ x.bowls * c.sinks.hi ≤ 20000000) ∧ (laterF c x).lo ≤ (laterF c x).hi ∧ 0 ≤ (laterF c x).lo ∧ (laterF c x).hi ≤ 30000000 := by
  have hs := spin_of hc.sinks
  have m1 := mul_le x.bowls c.sinks.lo 200 100000 hb.1 hb.2 (by omega) (by omega)
  have m2 := mul_le x.bowls c.sinks.hi 200 100000 hb.1 hb.2 (by omega) (by omega)
  have m3 : x.bowls * c.sinks.lo ≤ x.bowls * c.sinks.hi := Int.mul_le_mul_of_nonneg_left hs.2.1 hb.1
  refine ⟨by omega, by omega, ?_⟩
  unfold laterF
  simp only
  split <;> omega
theorem base_bd {c : Ck} {day : Int} {x : Ch} (hc : CkOk c) (hd : DayOk day) (hx : AllOk c x.told) : (-10000000000 ≤ (baseF c day x).lo ∧ (baseF c day x).lo ≤ 10000000000) ∧ (-10000000000 ≤ (baseF c day x).hi ∧ (baseF c day x).hi ≤ 10000000000) := allF_bd hc hd hx _ (Nat.le_refl _)
theorem fwd_bd {c : Ck} {day : Int} {l : Nat → Ch} {n : Nat} (hc : CkOk c) (hd : DayOk day) (hg : ∀ j < n, ChOk c (l j) (decide (j = 0))) : ∀ i, i < n → (-10000000000 ≤ (fwdF c day l i).lo ∧ (fwdF c day l i).lo ≤ 10000000000 + 30000000 * i) ∧ (-10000000000 ≤ (fwdF c day l i).hi ∧ (fwdF c day l i).hi ≤ 10000000000) := by
  intro i; induction i with
  | zero => intro h; have := base_bd hc hd (hg 0 h).2.1; show (_ ≤ (baseF c day (l 0)).lo ∧ _) ∧ _; simp only [fwdF]; omega
  | succ i ih =>
    intro h
    have h1 := ih (by omega)
    have h2 := base_bd hc hd (hg (i + 1) h).2.1
    have h3 := later_bd hc (hg (i + 1) h).2.2.1
    simp only [fwdF, cutF, shiftF]
    push_cast
    omega
theorem fwd_in {c : Ck} {day : Int} {l : Nat → Ch} (i : Nat) : (fwdF c day l i).lo + (laterF c (l (i + 1))).lo ≤ (fwdF c day l (i + 1)).lo ∧ (fwdF c day l (i + 1)).hi ≤ (fwdF c day l i).hi + (laterF c (l (i + 1))).hi := by
  simp only [fwdF, cutF, shiftF]; omega
/-- what is known backward is not empty, and within what is known forward -/
theorem bwd_ok {c : Ck} {day : Int} {l : Nat → Ch} {n : Nat} (hc : CkOk c) (hg : ∀ j < n, ChOk c (l j) (decide (j = 0))) (hn : ∀ j < n, (fwdF c day l j).lo ≤ (fwdF c day l j).hi) : ∀ k, k < n → (bwdF c day l n k).lo ≤ (bwdF c day l n k).hi ∧ (fwdF c day l (n - 1 - k)).lo ≤ (bwdF c day l n k).lo ∧ (bwdF c day l n k).hi ≤ (fwdF c day l (n - 1 - k)).hi := by
  intro k; induction k with
  | zero => intro h; simp only [bwdF]; rw [Nat.sub_zero]; have := hn (n - 1) (by omega); omega
  | succ k ih =>
    intro h
    have h1 := ih (by omega)
    have h2 := fwd_in (c := c) (day := day) (l := l) (n - 2 - k)
    rw [show n - 2 - k + 1 = n - 1 - k from by omega] at h2
    have h3 := later_bd hc (hg (n - 1 - k) (by omega)).2.2.1
    have h4 := hn (n - 2 - k) (by omega)
    rw [show n - 1 - (k + 1) = n - 2 - k from by omega]
    simp only [bwdF, cutF, backF]
    omega
end Go.Proofs.YtbhhcnonooiokaaDoor
