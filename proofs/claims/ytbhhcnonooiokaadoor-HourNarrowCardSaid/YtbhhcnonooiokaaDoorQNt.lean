/- Nights and tellings, outright, in plain Lean: what one telling more, fewer tellings, and fewer changes give. No condition. -/
import Derived.Test.YtbhhcnonooiokaaDoorQPair
set_option linter.unusedSimpArgs false
set_option linter.unusedVariables false
namespace Go.Proofs.YtbhhcnonooiokaaDoor
open Go Go.RowKit
theorem Sp.ext_le {a b : Sp} (h1 : ∀ v, a.lo ≤ v ↔ b.lo ≤ v) (h2 : ∀ v, v ≤ a.hi ↔ v ≤ b.hi) : a = b := by
  obtain ⟨p, q⟩ := a; obtain ⟨r, s⟩ := b
  have e1 := (h1 p).1 (Int.le_refl _)
  have e2 := (h1 r).2 (Int.le_refl _)
  have e3 := (h2 q).1 (Int.le_refl _)
  have e4 := (h2 s).2 (Int.le_refl _)
  simp only at e1 e2 e3 e4
  rw [Sp.mk.injEq]; omega
theorem allF_congr {c : Ck} {day : Int} {f g : Nat → Tl} : ∀ {n : Nat}, (∀ i, i < n → f i = g i) → allF c day f n = allF c day g n := by
  intro n; induction n with
  | zero => intro _; rfl
  | succ n ih => intro h; simp only [allF]; rw [ih fun i hi => h i (by omega), h n (by omega)]
theorem allF_rev {c : Ck} {day : Int} {l : Nat → Tl} {n : Nat} : allF c day (fun i => l (n - 1 - i)) n = allF c day l n := by
  refine Sp.ext_le (fun v => ?_) fun v => ?_
  · rw [(allF_le v n).1, (allF_le v n).1]
    refine ⟨fun h => ⟨h.1, fun i hi => ?_⟩, fun h => ⟨h.1, fun i hi => h.2 (n - 1 - i) (by omega)⟩⟩
    have := h.2 (n - 1 - i) (by omega)
    rwa [show n - 1 - (n - 1 - i) = i from by omega] at this
  · rw [(allF_le v n).2, (allF_le v n).2]
    refine ⟨fun h => ⟨h.1, fun i hi => ?_⟩, fun h => ⟨h.1, fun i hi => h.2 (n - 1 - i) (by omega)⟩⟩
    have := h.2 (n - 1 - i) (by omega)
    rwa [show n - 1 - (n - 1 - i) = i from by omega] at this
theorem tlsE_congr {c : Ck} {l l' : Tls} (h0 : l.1 = l'.1) (h : AllOk c l ↔ AllOk c l') : tlsE c l = tlsE c l' := by
  unfold tlsE; rw [h0]
  have : (@decide (AllOk c l) (Classical.propDecidable _)) = @decide (AllOk c l') (Classical.propDecidable _) := by
    rw [Bool.eq_iff_iff]; simp [h]
  rw [this]
theorem thF_congr {c : Ck} {day : Int} {f g : Nat → Tl} {n : Nat} (h : ∀ i, i < n → f i = g i) : thF c day (n, f) = thF c day (n, g) := by
  have e1 : tlsE c (n, f) = tlsE c (n, g) := tlsE_congr rfl ⟨fun h2 i hi => by have := h2 i hi; simp only at this ⊢; rwa [← h i hi], fun h2 i hi => by have := h2 i hi; simp only at this ⊢; rwa [h i hi]⟩
  have e2 := allF_congr (c := c) (day := day) h
  unfold thF; simp only [e1, e2]
theorem thF_rev {c : Ck} {day : Int} {l : Tls} : thF c day (l.1, fun i => l.2 (l.1 - 1 - i)) = thF c day l := by
  have e1 : tlsE c (l.1, fun i => l.2 (l.1 - 1 - i)) = tlsE c l := tlsE_congr rfl ⟨fun h2 i hi => by
    have h3 : i < l.1 := hi
    have := h2 (l.1 - 1 - i) (show l.1 - 1 - i < l.1 by omega)
    simp only at this
    rwa [show l.1 - 1 - (l.1 - 1 - i) = i from by omega] at this, fun h2 i hi => h2 (l.1 - 1 - i) (by have : i < l.1 := hi; omega)⟩
  have e2 := allF_rev (c := c) (day := day) (l := l.2) (n := l.1)
  unfold thF; simp only [e1, e2]
def moreL (l : Tls) (m : Tl) : Tls := (l.1 + 1, fun i => if i < l.1 then l.2 i else m)
theorem more_th {c : Ck} {day : Int} {l : Tls} {m : Tl} (h : (thF c day (moreL l m)).2 = 0) : (thF c day l).2 = 0 ∧ witB (minsF (thF c day (moreL l m)).1) (minsF (thF c day l).1) = true ∨ l.1 = 0 := by
  obtain ⟨hc, hd, ha, h0, h10, hA, hle⟩ := thF_0 h
  rcases Nat.eq_zero_or_pos l.1 with hz | hz
  · exact .inr hz
  left
  have e : (allF c day (moreL l m).2 (moreL l m).1) = cutF (allF c day l.2 l.1) (tellF c day m) := by
    show cutF (allF c day (moreL l m).2 l.1) (tellF c day ((moreL l m).2 l.1)) = _
    have e1 : (moreL l m).2 l.1 = m := by simp [moreL]
    rw [e1, allF_congr (g := l.2) fun i hi => by simp [moreL, hi]]
  have hal : AllOk c l := fun i hi => by
    have := ha i (show i < l.1 + 1 by omega)
    simpa [moreL, hi] using this
  have hle2 : (allF c day l.2 l.1).lo ≤ (allF c day l.2 l.1).hi := by rw [e] at hle; simp only [cutF] at hle; omega
  have e2 : thF c day l = (allF c day l.2 l.1, 0) := thF_ok (ask_ok hc hd) (tlsE_ok hz (by have : l.1 + 1 ≤ 10 := h10; omega) hal) hle2
  refine ⟨by rw [e2], ?_⟩
  rw [hA, e2, e]
  have := minsF_mono (a := allF c day l.2 l.1) (b := cutF (allF c day l.2 l.1) (tellF c day m)) (by simp only [cutF]; omega) (by simp only [cutF]; omega)
  exact witB_iff.2 this
theorem th_none {c : Ck} {day : Int} {l : Tls} (h : l.1 = 0) (h0 : askE c day = 0) : (thF c day l).2 = 6 := by
  rw [thF_bad h0 (by rw [tlsE_none h]; decide), tlsE_none h]
/-- a night that is told -/
theorem nightF_0 {c : Ck} {day : Int} {l : Chs} (h : (nightF c day l).2.2 = 0) : askE c day = 0 ∧ l.1 ≤ 20 ∧ (∀ j, j < l.1 → ChOk c (l.2 j) (decide (j = 0))) ∧ (∀ j, j < l.1 → (fwdF c day l.2 j).lo ≤ (fwdF c day l.2 j).hi) ∧ nightF c day l = ((l.1, fun i => minsF (bwdF c day l.2 l.1 (l.1 - 1 - i))), 0, 0) := by
  by_cases h1 : askE c day = 0
  · by_cases h2 : 20 < l.1
    · rw [nightF_many h1 h2] at h; simp at h
    · by_cases h3 : badI c l < l.1
      · rw [nightF_badI h1 (by omega) h3] at h; simp at h
      · have hg := badI_ge h3
        by_cases h4 : ∃ i, i < l.1 ∧ (fwdF c day l.2 i).lo > (fwdF c day l.2 i).hi
        · obtain ⟨i, hi, hb⟩ := h4
          have h5 := fstI_ex (p := fun i => (fwdF c day l.2 i).lo > (fwdF c day l.2 i).hi) hi hb
          rw [nightF_clash h1 (by omega) hg h5 (fstI_some h5) fun j hj => by have := fstI_min j hj; omega] at h
          simp at h
        · have hn : ∀ j, j < l.1 → (fwdF c day l.2 j).lo ≤ (fwdF c day l.2 j).hi := fun j hj => by
            false_or_by_contra
            exact h4 ⟨j, hj, by omega⟩
          exact ⟨h1, by omega, hg, hn, nightF_ok h1 (by omega) hg hn⟩
  · rw [nightF_ask h1] at h; exact absurd h h1
/-- what fits tells more is told -/
theorem night_mono {c c' : Ck} {day : Int} {l l' : Chs} (h : (nightF c day l).2.2 = 0) (ha : askE c' day = 0) (hn : l'.1 ≤ l.1) (hg : ∀ j, j < l'.1 → ChOk c' (l'.2 j) (decide (j = 0))) (hm : ∀ x, Feas c day l.2 l.1 x → Feas c' day l'.2 l'.1 x) :
    nightF c' day l' = ((l'.1, fun i => minsF (bwdF c' day l'.2 l'.1 (l'.1 - 1 - i))), 0, 0) ∧ ∀ z, z < l'.1 → witB ((nightF c day l).1.2 z) (minsF (bwdF c' day l'.2 l'.1 (l'.1 - 1 - z))) = true := by
  obtain ⟨h1, h2, h3, h4, h5⟩ := nightF_0 h
  obtain ⟨hc, hd⟩ := askE_0 h1
  obtain ⟨hc', _⟩ := askE_0 ha
  have key : ∀ z, z < l'.1 → ∀ v, In v (bwdF c day l.2 l.1 (l.1 - 1 - z)) → In v (bwdF c' day l'.2 l'.1 (l'.1 - 1 - z)) := fun z hz v hv => by
    obtain ⟨x, hx, hxz⟩ := bwd_feas hc h3 h4 (show z < l.1 by omega) hv
    have := (hm x hx).bwd (l'.1 - 1 - z) (by omega)
    rwa [show l'.1 - 1 - (l'.1 - 1 - z) = z from by omega, hxz] at this
  have hne : ∀ j, j < l'.1 → (fwdF c' day l'.2 j).lo ≤ (fwdF c' day l'.2 j).hi := fun j hj => by
    obtain ⟨x, hx⟩ := ne_feas hc h3 h4 (show 0 < l.1 by omega)
    exact feas_fwd_ne (hm x hx) j hj
  refine ⟨nightF_ok ha (by omega) hg hne, fun z hz => ?_⟩
  have hB := bwd_ok (day := day) hc h3 h4 (l.1 - 1 - z) (by omega)
  have k1 := key z hz (bwdF c day l.2 l.1 (l.1 - 1 - z)).lo (by unfold In; omega)
  have k2 := key z hz (bwdF c day l.2 l.1 (l.1 - 1 - z)).hi (by unfold In; omega)
  rw [h5]
  unfold In at k1 k2
  exact witB_iff.2 (minsF_mono k1.1 k2.2)
def halfC (x : Ch) : Ch := ⟨(x.told.1 / 2, x.told.2), x.bowls, x.full⟩
def fewL (l : Chs) (w : Nat) : Chs := (l.1, fun i => if i = w then halfC (l.2 i) else l.2 i)
theorem few_ok {c : Ck} {day : Int} {l : Chs} {w : Nat} (hg : ∀ j, j < l.1 → ChOk c (l.2 j) (decide (j = 0))) : (∀ j, j < l.1 → ChOk c ((fewL l w).2 j) (decide (j = 0))) ∧ ∀ x, Feas c day l.2 l.1 x → Feas c day (fewL l w).2 l.1 x := by
  have ht : ∀ i, ((fewL l w).2 i).told.1 ≤ (l.2 i).told.1 ∧ ((fewL l w).2 i).told.2 = (l.2 i).told.2 ∧ ((fewL l w).2 i).bowls = (l.2 i).bowls ∧ ((fewL l w).2 i).full = (l.2 i).full := fun i => by
    unfold fewL; simp only; split
    · exact ⟨Nat.div_le_self _ _, rfl, rfl, rfl⟩
    · exact ⟨Nat.le_refl _, rfl, rfl, rfl⟩
  refine ⟨fun j hj => ?_, fun x hx => ⟨fun i hi => ?_, fun i hi => ?_⟩⟩
  · obtain ⟨a1, a2, a3, a4⟩ := hg j hj
    obtain ⟨t1, t2, t3, t4⟩ := ht j
    exact ⟨by omega, fun i hi => by rw [t2]; exact a2 i (by omega), by rw [t3]; exact a3, fun h => by rw [t3, t4]; exact a4 h⟩
  · obtain ⟨t1, t2, t3, t4⟩ := ht i
    have := hx.at' i hi
    unfold baseF at this ⊢
    rw [t2]
    rw [allF_in] at this ⊢
    exact ⟨this.1, fun k hk => this.2 k (by omega)⟩
  · obtain ⟨t1, t2, t3, t4⟩ := ht (i + 1)
    have := hx.st i hi
    unfold laterF at this ⊢
    rw [t3, t4]; exact this
end Go.Proofs.YtbhhcnonooiokaaDoor
