/- HourReached, in plain Lean: each end that is told is reached. No condition. -/
import Derived.Test.YtbhhcnonooiokaaDoorQNt
set_option linter.unusedSimpArgs false
set_option linter.unusedVariables false
namespace Go.Proofs.YtbhhcnonooiokaaDoor
open Go Go.RowKit
def moreZ (l : Tls) (m : Tl) : Tls := (l.1 + 1, fun i => if i < l.1 then l.2 i else if i = l.1 then m else ⟨0, 0, 0, ⟨0, 0⟩⟩)
/-- one telling more of one change -/
def withL (l : Chs) (w : Nat) (t : Tl) : Chs := (l.1, fun i => if i = w then ⟨moreZ (l.2 i).told t, (l.2 i).bowls, (l.2 i).full⟩ else l.2 i)
section
variable {c : Ck} {day : Int} {l : Chs}
theorem nightF_cases (c : Ck) (day : Int) (l : Chs) : (nightF c day l).2.2 = 0 ∨ ((nightF c day l).1.1 = 0 ∧ (nightF c day l).2.2 ≠ 0 ∧ (nightF c day l).2.2 ≠ 32) ∨ ∃ i, i < l.1 ∧ nightF c day l = (noSp, (i : Int), 32) ∧ askE c day = 0 ∧ l.1 ≤ 20 ∧ (∀ j, j < l.1 → ChOk c (l.2 j) (decide (j = 0))) ∧ (fwdF c day l.2 i).lo > (fwdF c day l.2 i).hi ∧ ∀ j, j < i → (fwdF c day l.2 j).lo ≤ (fwdF c day l.2 j).hi := by
  by_cases h1 : askE c day = 0
  · by_cases h2 : 20 < l.1
    · rw [nightF_many h1 h2]; exact .inr (.inl ⟨rfl, by decide, by decide⟩)
    · by_cases h3 : badI c l < l.1
      · rw [nightF_badI h1 (by omega) h3]; exact .inr (.inl ⟨rfl, by simp, by simp⟩)
      · have hg := badI_ge h3
        by_cases h4 : ∃ i, i < l.1 ∧ (fwdF c day l.2 i).lo > (fwdF c day l.2 i).hi
        · obtain ⟨i, hi, hb⟩ := h4
          have h5 := fstI_ex (p := fun i => (fwdF c day l.2 i).lo > (fwdF c day l.2 i).hi) hi hb
          have h6 : ∀ j, j < fstI (fun i => (fwdF c day l.2 i).lo > (fwdF c day l.2 i).hi) l.1 → (fwdF c day l.2 j).lo ≤ (fwdF c day l.2 j).hi := fun j hj => by have := fstI_min j hj; omega
          exact .inr (.inr ⟨_, h5, nightF_clash h1 (by omega) hg h5 (fstI_some h5) h6, h1, by omega, hg, fstI_some h5, h6⟩)
        · have hn : ∀ j, j < l.1 → (fwdF c day l.2 j).lo ≤ (fwdF c day l.2 j).hi := fun j hj => by
            false_or_by_contra
            exact h4 ⟨j, hj, by omega⟩
          rw [nightF_ok h1 (by omega) hg hn]; exact .inl rfl
  · rw [nightF_ask h1]
    refine .inr (.inl ⟨rfl, h1, ?_⟩)
    unfold askE; split
    · split <;> simp
    · simp
theorem with_feas {w : Nat} (hw : w < l.1) {t : Tl} {x : Nat → Int} : Feas c day (withL l w t).2 l.1 x ↔ Feas c day l.2 l.1 x ∧ In (x w) (tellF c day t) := by
  have hl : ∀ i, laterF c ((withL l w t).2 i) = laterF c (l.2 i) := fun i => by
    unfold withL laterF; simp only; split <;> rfl
  have hb : ∀ i v, In v (baseF c day ((withL l w t).2 i)) ↔ In v (baseF c day (l.2 i)) ∧ (i = w → In v (tellF c day t)) := fun i v => by
    unfold baseF withL; simp only
    by_cases h : i = w
    · simp only [h, if_true, true_imp_iff]
      unfold moreZ; simp only [allF]
      rw [allF_congr (g := (l.2 w).told.2) fun i hi => by simp [hi]]
      simp only [Nat.lt_irrefl, if_false, if_true]
      unfold In; simp only [cutF]; omega
    · simp only [h, if_false, false_imp_iff, and_true]
  refine ⟨fun h => ⟨⟨fun i hi => ((hb i _).1 (h.at' i hi)).1, fun i hi => by have := h.st i hi; rwa [hl] at this⟩, ((hb w _).1 (h.at' w hw)).2 rfl⟩, fun h => ⟨fun i hi => (hb i _).2 ⟨h.1.at' i hi, fun e => by subst e; exact h.2⟩, fun i hi => by have := h.1.st i hi; rwa [hl]⟩⟩
theorem with_ch {w : Nat} {t : Tl} (hg : ∀ j, j < l.1 → ChOk c (l.2 j) (decide (j = 0))) (hw : w < l.1) (h9 : (l.2 w).told.1 < 10) (ht : TlOk c t) : ∀ j, j < l.1 → ChOk c ((withL l w t).2 j) (decide (j = 0)) := by
  intro j hj
  obtain ⟨a1, a2, a3, a4⟩ := hg j hj
  unfold withL; simp only
  by_cases h : j = w
  · subst h
    simp only [if_true]
    refine ⟨by unfold moreZ; simp only; omega, fun m hm => ?_, a3, a4⟩
    unfold moreZ at hm ⊢; simp only at hm ⊢
    split
    · exact a2 m (by assumption)
    · rw [if_pos (by omega)]; exact ht
  · simp only [h, if_false]; exact ⟨a1, a2, a3, a4⟩
/-- with one telling more the night fits just if some moment that was told has it -/
theorem with_iff {w : Nat} {t : Tl} (h : (nightF c day l).2.2 = 0) (hw : w < l.1) (h9 : (l.2 w).told.1 < 10) (ht : TlOk c t) :
    (nightF c day (withL l w t)).2.2 = 0 ↔ ∃ v, In v (bwdF c day l.2 l.1 (l.1 - 1 - w)) ∧ In v (tellF c day t) := by
  obtain ⟨h1, h2, h3, h4, h5⟩ := nightF_0 h
  obtain ⟨hc, hd⟩ := askE_0 h1
  have hg := with_ch h3 hw h9 ht
  constructor
  · intro k
    obtain ⟨_, k2, k3, k4, _⟩ := nightF_0 k
    obtain ⟨x, hx⟩ := ne_feas hc k3 k4 (show 0 < l.1 by omega)
    obtain ⟨hx1, hx2⟩ := (with_feas hw).1 hx
    have := hx1.bwd (l.1 - 1 - w) (by omega)
    rw [show l.1 - 1 - (l.1 - 1 - w) = w from by omega] at this
    exact ⟨x w, this, hx2⟩
  · intro k
    obtain ⟨v, hv, hvt⟩ := k
    obtain ⟨x, hx, hxw⟩ := bwd_feas hc h3 h4 hw hv
    have hx' : Feas c day (withL l w t).2 l.1 x := (with_feas hw).2 ⟨hx, by rw [hxw]; exact hvt⟩
    rw [nightF_ok (l := withL l w t) h1 h2 hg (feas_fwd_ne hx')]
theorem word_in {c : Ck} {day v lo hi : Int} : In v (tellF c day (wordT lo hi)) ↔ 1000 * lo ≤ v ∧ v ≤ 1000 * hi := by simp [In, tellF, wordT]
/-- each end is reached, but for rounding, and no minute beyond it is -/
theorem reached {w : Nat} (h : (nightF c day l).2.2 = 0) (hw : w < l.1) (h9 : (l.2 w).told.1 < 10) {s : Sp} (hs : (nightF c day l).1.2 w = s) (h8 : -100000 < s.lo ∧ s.hi < 100000) :
    s.lo ≤ s.hi ∧ (nightF c day (withL l w (wordT s.lo (s.lo + 1)))).2.2 = 0 ∧ (nightF c day (withL l w (wordT (s.hi - 1) s.hi))).2.2 = 0 ∧ (nightF c day (withL l w (wordT (s.lo - 1) (s.lo - 1)))).2.2 ≠ 0 ∧ (nightF c day (withL l w (wordT (s.hi + 1) (s.hi + 1)))).2.2 ≠ 0 := by
  obtain ⟨h1, h2, h3, h4, h5⟩ := nightF_0 h
  obtain ⟨hc, hd⟩ := askE_0 h1
  have hB := (bwd_ok (day := day) hc h3 h4 (l.1 - 1 - w) (by omega)).1
  rw [h5] at hs
  simp only at hs
  obtain ⟨B, hBd⟩ : ∃ B, bwdF c day l.2 l.1 (l.1 - 1 - w) = B := ⟨_, rfl⟩
  rw [hBd] at hs hB
  subst hs
  unfold minsF downF at h8 ⊢
  simp only at h8 ⊢
  have hok : ∀ lo hi : Int, -100000 ≤ lo → lo ≤ hi → hi ≤ 100000 → TlOk c (wordT lo hi) := fun lo hi a1 a2 a3 => .inr (.inr (.inr ⟨rfl, a1, a2, a3⟩))
  refine ⟨by omega, ?_, ?_, ?_, ?_⟩
  · rw [with_iff h hw h9 (hok _ _ (by omega) (by omega) (by omega)), hBd]
    exact ⟨B.lo, ⟨Int.le_refl _, hB⟩, word_in.2 (by omega)⟩
  · rw [with_iff h hw h9 (hok _ _ (by omega) (by omega) (by omega)), hBd]
    exact ⟨B.hi, ⟨hB, Int.le_refl _⟩, word_in.2 (by omega)⟩
  · rw [ne_eq, with_iff h hw h9 (hok _ _ (by omega) (by omega) (by omega)), hBd]
    rintro ⟨v, hv, hv2⟩
    have := word_in.1 hv2
    unfold In at hv; omega
  · rw [ne_eq, with_iff h hw h9 (hok _ _ (by omega) (by omega) (by omega)), hBd]
    rintro ⟨v, hv, hv2⟩
    have := word_in.1 hv2
    unfold In at hv; omega
end
end Go.Proofs.YtbhhcnonooiokaaDoor
