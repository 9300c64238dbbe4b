/- Nights: what is told of a moment is just what some night has. No condition. -/
import Derived.Test.YtbhhcnonooiokaaDoorNMath
set_option linter.unusedSimpArgs false
set_option linter.unusedVariables false
namespace Go.Proofs.YtbhhcnonooiokaaDoor
open Go Go.RowKit
def In (v : Int) (s : Sp) : Prop := s.lo ≤ v ∧ v ≤ s.hi
/-- moments that fit a night -/
structure Feas (c : Ck) (day : Int) (l : Nat → Ch) (n : Nat) (x : Nat → Int) : Prop where
  at' : ∀ i, i < n → In (x i) (baseF c day (l i))
  st : ∀ i, i + 1 < n → In (x (i + 1) - x i) (laterF c (l (i + 1)))
theorem Feas.less {c : Ck} {day : Int} {l : Nat → Ch} {n m : Nat} {x : Nat → Int} (h : Feas c day l n x) (hm : m ≤ n) : Feas c day l m x := ⟨fun i hi => h.at' i (by omega), fun i hi => h.st i (by omega)⟩
theorem Feas.fwd {c : Ck} {day : Int} {l : Nat → Ch} {n : Nat} {x : Nat → Int} (h : Feas c day l n x) : ∀ i, i < n → In (x i) (fwdF c day l i) := by
  intro i; induction i with
  | zero => intro hi; exact h.at' 0 hi
  | succ i ih =>
    intro hi
    have h1 := ih (by omega)
    have h2 := h.at' (i + 1) hi
    have h3 := h.st i hi
    unfold In at *
    simp only [fwdF, cutF, shiftF]
    omega
theorem fwd_feas {c : Ck} {day : Int} {l : Nat → Ch} {n : Nat} (hd : ∀ j, j < n → (laterF c (l j)).lo ≤ (laterF c (l j)).hi) : ∀ i, i < n → (∀ j, j ≤ i → (fwdF c day l j).lo ≤ (fwdF c day l j).hi) → ∀ v, In v (fwdF c day l i) → ∃ x, Feas c day l (i + 1) x ∧ x i = v := by
  intro i; induction i with
  | zero => intro hi _ v hv; exact ⟨fun _ => v, ⟨fun j hj => (by have h0 : j = 0 := (by omega); subst h0; exact hv), fun j hj => (by omega)⟩, rfl⟩
  | succ i ih =>
    intro hi hne v hv
    have h1 := hne i (by omega)
    have h2 := hd (i + 1) hi
    have hv' : In v (baseF c day (l (i + 1))) ∧ (fwdF c day l i).lo + (laterF c (l (i + 1))).lo ≤ v ∧ v ≤ (fwdF c day l i).hi + (laterF c (l (i + 1))).hi := by
      unfold In at *; simp only [fwdF, cutF, shiftF] at hv; omega
    obtain ⟨x, hx, hxi⟩ := ih (by omega) (fun j hj => hne j (by omega)) (max (fwdF c day l i).lo (v - (laterF c (l (i + 1))).hi)) (by unfold In; omega)
    refine ⟨fun j => if j ≤ i then x j else v, ⟨fun j hj => ?_, fun j hj => ?_⟩, if_neg (by omega)⟩
    · by_cases hji : j ≤ i
      · simp only [hji, if_true]; exact hx.at' j (by omega)
      · obtain rfl : j = i + 1 := by omega
        simp only [hji, if_false]; exact hv'.1
    · by_cases hji : j + 1 ≤ i
      · have : j ≤ i := by omega
        simp only [hji, this, if_true]; exact hx.st j (by omega)
      · obtain rfl : j = i := by omega
        simp only [hji, Nat.le_refl, if_true, if_false, hxi]
        unfold In; omega
theorem Feas.bwd {c : Ck} {day : Int} {l : Nat → Ch} {n : Nat} {x : Nat → Int} (h : Feas c day l n x) : ∀ k, k < n → In (x (n - 1 - k)) (bwdF c day l n k) := by
  intro k; induction k with
  | zero => intro hk; exact h.fwd (n - 1) (by omega)
  | succ k ih =>
    intro hk
    have h1 := ih (by omega)
    have h2 := h.fwd (n - 2 - k) (by omega)
    have h3 := h.st (n - 2 - k) (by omega)
    rw [show n - 2 - k + 1 = n - 1 - k from by omega] at h3
    rw [show n - 1 - (k + 1) = n - 2 - k from by omega]
    unfold In at *
    simp only [bwdF, cutF, backF]
    omega
theorem bwd_tail {c : Ck} {day : Int} {l : Nat → Ch} {n : Nat} (hd : ∀ j, j < n → (laterF c (l j)).lo ≤ (laterF c (l j)).hi) (hB : ∀ k, k < n → (bwdF c day l n k).lo ≤ (bwdF c day l n k).hi) (hbase : ∀ i v, In v (fwdF c day l i) → In v (baseF c day (l i))) (hbf : ∀ k, k < n → ∀ v, In v (bwdF c day l n k) → In v (fwdF c day l (n - 1 - k))) :
    ∀ k, k < n → ∀ v, In v (bwdF c day l n k) → ∃ y : Nat → Int, y (n - 1 - k) = v ∧ (∀ i, n - 1 - k ≤ i → i < n → In (y i) (baseF c day (l i))) ∧ ∀ i, n - 1 - k ≤ i → i + 1 < n → In (y (i + 1) - y i) (laterF c (l (i + 1))) := by
  intro k; induction k with
  | zero => intro hk v hv; exact ⟨fun _ => v, rfl, fun i h1 h2 => (by have h0 : i = n - 1 := (by omega); subst h0; exact hbase _ _ (hbf 0 hk v hv)), fun i h1 h2 => (by omega)⟩
  | succ k ih =>
    intro hk v hv
    have h1 := hB k (by omega)
    have h2 := hd (n - 1 - k) (by omega)
    have hv' : (bwdF c day l n k).lo - (laterF c (l (n - 1 - k))).hi ≤ v ∧ v ≤ (bwdF c day l n k).hi - (laterF c (l (n - 1 - k))).lo := by
      unfold In at hv; simp only [bwdF, cutF, backF] at hv; omega
    obtain ⟨y, hy1, hy2, hy3⟩ := ih (by omega) (max (bwdF c day l n k).lo (v + (laterF c (l (n - 1 - k))).lo)) (by unfold In; omega)
    refine ⟨fun j => if j = n - 1 - (k + 1) then v else y j, by simp, fun i h3 h4 => ?_, fun i h3 h4 => ?_⟩
    · by_cases hi : i = n - 1 - (k + 1)
      · subst hi; simp only [if_true]; exact hbase _ _ (hbf _ hk v hv)
      · simp only [hi, if_false]; exact hy2 i (by omega) h4
    · by_cases hi : i = n - 1 - (k + 1)
      · subst hi
        have e : n - 1 - (k + 1) + 1 = n - 1 - k := by omega
        have e2 : ¬ n - 1 - (k + 1) + 1 = n - 1 - (k + 1) := by omega
        simp only [if_true, e2, if_false]
        rw [e, hy1]
        unfold In; omega
      · have e2 : ¬ i + 1 = n - 1 - (k + 1) := by omega
        simp only [hi, e2, if_false]; exact hy3 i (by omega) h4
theorem fwd_base {c : Ck} {day : Int} {l : Nat → Ch} (i : Nat) (v : Int) (h : In v (fwdF c day l i)) : In v (baseF c day (l i)) := by
  cases i with
  | zero => exact h
  | succ i => unfold In at *; simp only [fwdF, cutF] at h; omega
theorem ch_later {c : Ck} {l : Nat → Ch} {n : Nat} (hc : CkOk c) (hg : ∀ j < n, ChOk c (l j) (decide (j = 0))) : ∀ j, j < n → (laterF c (l j)).lo ≤ (laterF c (l j)).hi := fun j hj => (later_bd hc (hg j hj).2.2.1).2.2.1
/-- each moment that is told is one of some night -/
theorem bwd_feas {c : Ck} {day : Int} {l : Nat → Ch} {n : Nat} (hc : CkOk c) (hg : ∀ j < n, ChOk c (l j) (decide (j = 0))) (hn : ∀ j < n, (fwdF c day l j).lo ≤ (fwdF c day l j).hi) {i : Nat} (hi : i < n) {v : Int} (hv : In v (bwdF c day l n (n - 1 - i))) : ∃ x, Feas c day l n x ∧ x i = v := by
  have hB := bwd_ok (day := day) hc hg hn
  have hbf : ∀ k, k < n → ∀ v, In v (bwdF c day l n k) → In v (fwdF c day l (n - 1 - k)) := fun k hk v h => by
    have := hB k hk; unfold In at *; omega
  obtain ⟨x, hx, hxi⟩ := fwd_feas (ch_later hc hg) i hi (fun j hj => hn j (by omega)) v (by have := hbf (n - 1 - i) (by omega) v hv; rwa [show n - 1 - (n - 1 - i) = i from by omega] at this)
  obtain ⟨y, hy1, hy2, hy3⟩ := bwd_tail (ch_later hc hg) (fun k hk => (hB k hk).1) fwd_base hbf (n - 1 - i) (by omega) v hv
  rw [show n - 1 - (n - 1 - i) = i from by omega] at hy1 hy2 hy3
  refine ⟨fun j => if j ≤ i then x j else y j, ⟨fun j hj => ?_, fun j hj => ?_⟩, by simp [hxi]⟩
  · by_cases hji : j ≤ i
    · simp only [hji, if_true]; exact hx.at' j (by omega)
    · simp only [hji, if_false]; exact hy2 j (by omega) hj
  · by_cases hji : j + 1 ≤ i
    · have : j ≤ i := by omega
      simp only [hji, this, if_true]; exact hx.st j (by omega)
    · by_cases hj2 : j = i
      · subst hj2
        simp only [hji, Nat.le_refl, if_true, if_false, hxi, ← hy1]
        exact hy3 j (by omega) hj
      · have : ¬ j ≤ i := by omega
        simp only [hji, this, if_false]; exact hy3 j (by omega) hj
theorem feas_fwd_ne {c : Ck} {day : Int} {l : Nat → Ch} {n : Nat} {x : Nat → Int} (h : Feas c day l n x) : ∀ j < n, (fwdF c day l j).lo ≤ (fwdF c day l j).hi := fun j hj => by
  have := h.fwd j hj; unfold In at this; omega
theorem ne_feas {c : Ck} {day : Int} {l : Nat → Ch} {n : Nat} (hc : CkOk c) (hg : ∀ j < n, ChOk c (l j) (decide (j = 0))) (hn : ∀ j < n, (fwdF c day l j).lo ≤ (fwdF c day l j).hi) (h0 : 0 < n) : ∃ x, Feas c day l n x := by
  obtain ⟨x, hx, _⟩ := fwd_feas (ch_later hc hg) (n - 1) (by omega) (fun j hj => hn j (by omega)) (fwdF c day l (n - 1)).lo (by have := hn (n - 1) (by omega); unfold In; omega)
  rw [show n - 1 + 1 = n from by omega] at hx
  exact ⟨x, hx⟩
/-- one clock and night that tells no more than another one -/
theorem bwd_mono {c c' : Ck} {day : Int} {l l' : Nat → Ch} {n : Nat} (hc : CkOk c) (hg : ∀ j < n, ChOk c (l j) (decide (j = 0))) (hn : ∀ j < n, (fwdF c day l j).lo ≤ (fwdF c day l j).hi) (hm : ∀ x, Feas c day l n x → Feas c' day l' n x) {i : Nat} (hi : i < n) : (bwdF c' day l' n (n - 1 - i)).lo ≤ (bwdF c day l n (n - 1 - i)).lo ∧ (bwdF c day l n (n - 1 - i)).hi ≤ (bwdF c' day l' n (n - 1 - i)).hi := by
  have hB := bwd_ok (day := day) hc hg hn (n - 1 - i) (by omega)
  have key : ∀ v, In v (bwdF c day l n (n - 1 - i)) → In v (bwdF c' day l' n (n - 1 - i)) := fun v hv => by
    obtain ⟨x, hx, hxi⟩ := bwd_feas hc hg hn hi hv
    have := (hm x hx).bwd (n - 1 - i) (by omega)
    rwa [show n - 1 - (n - 1 - i) = i from by omega, hxi] at this
  have k1 := key (bwdF c day l n (n - 1 - i)).lo (by unfold In; omega)
  have k2 := key (bwdF c day l n (n - 1 - i)).hi (by unfold In; omega)
  unfold In at k1 k2; omega
theorem minsF_mono {a b : Sp} (h1 : a.lo ≤ b.lo) (h2 : b.hi ≤ a.hi) : (minsF a).lo ≤ (minsF b).lo ∧ (minsF b).hi ≤ (minsF a).hi := by
  unfold minsF downF; simp only; omega
/-- what all tellings tell, by each of them -/
theorem allF_in {c : Ck} {day : Int} {l : Nat → Tl} (v : Int) : ∀ n, In v (allF c day l n) ↔ (-10000000000 ≤ v ∧ v ≤ 10000000000) ∧ ∀ i, i < n → In v (tellF c day (l i)) := by
  intro n; induction n with
  | zero => unfold In allF wideF; simp only; exact ⟨fun h => ⟨h, fun i hi => by omega⟩, fun h => h.1⟩
  | succ n ih =>
    have e : In v (allF c day l (n + 1)) ↔ In v (allF c day l n) ∧ In v (tellF c day (l n)) := by unfold In; simp only [allF, cutF]; omega
    rw [e, ih]
    refine ⟨fun h => ⟨h.1.1, fun i hi => ?_⟩, fun h => ⟨⟨h.1, fun i hi => h.2 i (by omega)⟩, h.2 n (by omega)⟩⟩
    rcases Nat.lt_or_ge i n with h5 | h5
    · exact h.1.2 i h5
    · obtain rfl : i = n := by omega
      exact h.2
end Go.Proofs.YtbhhcnonooiokaaDoor
