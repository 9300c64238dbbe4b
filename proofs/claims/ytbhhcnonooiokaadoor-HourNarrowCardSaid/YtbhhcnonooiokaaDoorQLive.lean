/- Hours, outright: the chapter's examples, in plain Lean. No condition. -/
import Derived.Test.YtbhhcnonooiokaaDoorQFun
import Derived.Test.YtbhhcnonooiokaaDoorNProg2
import Derived.Test.YtbhhcnonooiokaaDoorOProg1
import Derived.Test.YtbhhcnonooiokaaDoorHClash
set_option linter.unusedSimpArgs false
set_option linter.unusedVariables false
namespace Go.Proofs.YtbhhcnonooiokaaDoor
open Go Go.RowKit
def clkC : Ck := ⟨(3, fun i => if i = 0 then ⟨360, 362⟩ else if i = 1 then ⟨420, 424⟩ else ⟨480, 483⟩), (1, fun _ => ⟨⟨1200, 1202⟩, ⟨3900, 4000⟩⟩), ⟨15000, 16000⟩, ⟨24000, 25000⟩⟩
def nightC : Chs := (3, fun i => if i = 0 then ⟨(1, fun _ => wordT 0 10), 0, true⟩ else if i = 1 then ⟨(1, fun _ => wordT 40 60), 2, false⟩ else ⟨(1, fun _ => wordT 85 90), 1, true⟩)
def turnsC : Tns := (3, fun i => if i = 0 then ⟨0, 30⟩ else if i = 1 then ⟨30, 60⟩ else ⟨90, 120⟩)
theorem lt3 {p : Nat → Prop} (h0 : p 0) (h1 : p 1) (h2 : p 2) : ∀ i, i < 3 → p i := fun i hi => by
  obtain rfl | rfl | rfl : i = 0 ∨ i = 1 ∨ i = 2 := by omega
  · exact h0
  · exact h1
  · exact h2
theorem clkC_ok : CkOk clkC := by
  refine ⟨by decide, by decide, lt3 (by decide) (by decide) (by decide), lt3 (by decide) (by decide) (by decide), fun i hi => ?_, by decide, by decide⟩
  obtain rfl : i = 0 := by have : i < 1 := hi; omega
  exact ⟨by decide, by decide⟩
theorem ask_ok {c : Ck} {day : Int} (hc : CkOk c) (hd : DayOk day) : askE c day = 0 := by unfold askE; rw [if_pos (ckB_true.2 hc), if_pos hd]
theorem askC : askE clkC 10 = 0 := ask_ok clkC_ok (by decide)
theorem tellA_ok {c : Ck} {day : Int} {t : Tl} (h : askE c day = 0) (ht : TlOk c t) : tellA c day t = (minsF (tellF c day t), 0) := by unfold tellA; rw [if_neg (by simp [h]), if_pos ht]
theorem tellA_bad {c : Ck} {day : Int} {t : Tl} (h : askE c day = 0) (ht : ¬ TlOk c t) : tellA c day t = (⟨0, 0⟩, 31) := by unfold tellA; rw [if_neg (by simp [h]), if_neg ht]
theorem tlsE_ok {c : Ck} {l : Tls} (h0 : 0 < l.1) (h10 : l.1 ≤ 10) (ha : AllOk c l) : tlsE c l = 0 := by
  unfold tlsE; rw [if_neg (by omega), if_neg (by simp; exact ha), if_neg (by omega)]
theorem tlsE_bad {c : Ck} {l : Tls} (h10 : l.1 ≤ 10) (ha : ¬ AllOk c l) : tlsE c l = 31 := by
  unfold tlsE; rw [if_neg (by omega), if_pos (@decide_eq_false _ (Classical.propDecidable _) ha)]
theorem tlsE_many {c : Ck} {l : Tls} (h10 : 10 < l.1) : tlsE c l = 4 := by unfold tlsE; rw [if_pos h10]
theorem tlsE_none {c : Ck} {l : Tls} (h : l.1 = 0) : tlsE c l = 6 := by
  unfold tlsE; rw [if_neg (by omega), if_neg (by simp; intro i hi; omega), if_pos h]
theorem thF_ask {c : Ck} {day : Int} {l : Tls} (h : askE c day ≠ 0) : thF c day l = (⟨0, 0⟩, askE c day) := by unfold thF; rw [if_pos h]
theorem thF_bad {c : Ck} {day : Int} {l : Tls} (h : askE c day = 0) (h2 : tlsE c l ≠ 0) : thF c day l = (⟨0, 0⟩, tlsE c l) := by unfold thF; rw [if_neg (by simp [h]), if_pos h2]
theorem thF_clash {c : Ck} {day : Int} {l : Tls} (h : askE c day = 0) (h2 : tlsE c l = 0) (h3 : (allF c day l.2 l.1).lo > (allF c day l.2 l.1).hi) : thF c day l = (⟨0, 0⟩, 32) := by unfold thF; rw [if_neg (by simp [h]), if_neg (by simp [h2]), if_pos h3]
theorem thF_ok {c : Ck} {day : Int} {l : Tls} (h : askE c day = 0) (h2 : tlsE c l = 0) (h3 : (allF c day l.2 l.1).lo ≤ (allF c day l.2 l.1).hi) : thF c day l = (allF c day l.2 l.1, 0) := by unfold thF; rw [if_neg (by simp [h]), if_neg (by simp [h2]), if_neg (by omega)]
theorem thF_err {c : Ck} {day : Int} {l : Tls} (h : (thF c day l).2 ≠ 0) : (thF c day l).1 = ⟨0, 0⟩ := by
  unfold thF at h ⊢; split
  · rfl
  · rename_i h1; rw [if_neg h1] at h; split
    · rfl
    · rename_i h2; rw [if_neg h2] at h; split
      · rfl
      · rename_i h3; rw [if_neg h3] at h; simp at h
theorem clF_eq {c : Ck} {day : Int} {l : Tls} (h : askE c day = 0) (h2 : tlsE c l = 0) {r : Int × Int × Int} (hr : ClP (fun i => tellF c day (l.2 i)) l.1 r) : clF c day l = r := by
  unfold clF; rw [if_neg (by simp [h]), if_neg (by simp [h2])]; exact theV_eq hr fun s hs => ClP_uniq hr hs
theorem clF_ask {c : Ck} {day : Int} {l : Tls} (h : askE c day ≠ 0) : clF c day l = (0, 0, askE c day) := by unfold clF; rw [if_pos h]
theorem clF_bad {c : Ck} {day : Int} {l : Tls} (h : askE c day = 0) (h2 : tlsE c l ≠ 0) : clF c day l = (0, 0, tlsE c l) := by unfold clF; rw [if_neg (by simp [h]), if_pos h2]
/-- a pair is found, or there is none -/
theorem ClP_ex (x : Nat → Sp) (n : Nat) : ∃ r, ClP x n r := by
  by_cases hn : ∀ i j, i < j → j < n → ¬ Con x i j
  · exact ⟨_, .inr ⟨rfl, hn⟩⟩
  · let p : Nat → Prop := fun i => ∃ j, i < j ∧ j < n ∧ Con x i j
    have hp : ∃ i, i < n ∧ p i := by
      false_or_by_contra
      rename_i h
      exact hn fun i j h1 h2 h3 => h ⟨i, by omega, j, h1, h2, h3⟩
    obtain ⟨i0, hi0, hpi⟩ := hp
    have h1 := fstI_ex hi0 hpi
    have h2 := fstI_some h1
    obtain ⟨j0, hj1, hj2, hj3⟩ := h2
    let q : Nat → Prop := fun j => fstI p n < j ∧ Con x (fstI p n) j
    have h3 := fstI_ex (p := q) hj2 ⟨hj1, hj3⟩
    have h4 := fstI_some h3
    refine ⟨_, .inl ⟨fstI p n, fstI q n, rfl, h4.1, h3, h4.2, fun i' j' h5 h6 h7 h8 => ?_, fun j' h5 h6 h7 => ?_⟩⟩
    · have := fstI_le (p := p) (n := n)
      have : ¬ i' < fstI p n := fun h9 => by
        have hm := fstI_min (p := p) (n := n) i' h9
        exact hm ⟨j', h6, h7, h8⟩
      exact this h5
    · exact fstI_min (p := q) (n := n) j' h6 ⟨h5, h7⟩
theorem clF_cases (c : Ck) (day : Int) (l : Tls) (h : askE c day = 0) (h2 : tlsE c l = 0) : ClP (fun i => tellF c day (l.2 i)) l.1 (clF c day l) := by
  obtain ⟨r, hr⟩ := ClP_ex (fun i => tellF c day (l.2 i)) l.1
  rw [clF_eq h h2 hr]; exact hr
theorem chsC (n : Nat) : ChOk clkC (nightC.2 n) (decide (n = 0)) := by
  unfold nightC
  simp only
  split
  · rename_i h; subst h
    exact ⟨by decide, fun i _ => by show TlOk clkC (wordT 0 10); decide, by decide, fun _ => ⟨rfl, rfl⟩⟩
  · rename_i h0
    split
    · exact ⟨by decide, fun i _ => by show TlOk clkC (wordT 40 60); decide, by decide, fun h => absurd (of_decide_eq_true h) h0⟩
    · exact ⟨by decide, fun i _ => by show TlOk clkC (wordT 85 90); decide, by decide, fun h => absurd (of_decide_eq_true h) h0⟩
theorem nightC_eq : nightF clkC 10 nightC = ((3, fun i => minsF (bwdF clkC 10 nightC.2 3 (3 - 1 - i))), 0, 0) :=
  nightF_ok askC (by decide) (fun j _ => chsC j) (lt3 (by decide) (by decide) (by decide))
theorem nightC_0 : minsF (bwdF clkC 10 nightC.2 3 2) = ⟨0, 10⟩ := by rfl
theorem nightC_1 : minsF (bwdF clkC 10 nightC.2 3 1) = ⟨60, 60⟩ := by rfl
theorem nightC_2 : minsF (bwdF clkC 10 nightC.2 3 0) = ⟨85, 85⟩ := by rfl
theorem turnsC_ok : TnsOk turnsC := ⟨by decide, lt3 ⟨by decide, by decide, by decide, by decide⟩ ⟨by decide, by decide, by decide, by decide⟩ ⟨by decide, by decide, by decide, by decide⟩⟩
theorem onF_eq {l : Tns} {a : Sp} (h : TnsOk l) (h2 : SpIn a (-100000) 100000) : onF l a = ((onB l a - onA l a, fun k => ((onA l a + k : Nat) : Int)), onS l.2 a l.1, 0) := by unfold onF; rw [if_pos (tnsB_iff.2 h), if_pos h2]
theorem fact_tell : tellA clkC 10 (starT 0 2) = (⟨1190, 1195⟩, 0) := by rw [tellA_ok askC (by decide)]; rfl
theorem all_of2 {c : Ck} {a b : Tl} {f : Nat → Tl} (h0 : f 0 = a) (h1 : f 1 = b) (ha : TlOk c a) (hb : TlOk c b) : AllOk c (2, f) := fun i hi => by
  obtain rfl | rfl : i = 0 ∨ i = 1 := by have : i < 2 := hi; omega
  · show TlOk c (f 0); rw [h0]; exact ha
  · show TlOk c (f 1); rw [h1]; exact hb
theorem all_of3 {c : Ck} {a b d : Tl} {f : Nat → Tl} (h0 : f 0 = a) (h1 : f 1 = b) (h2 : f 2 = d) (ha : TlOk c a) (hb : TlOk c b) (hd : TlOk c d) : AllOk c (3, f) := fun i hi => by
  obtain rfl | rfl | rfl : i = 0 ∨ i = 1 ∨ i = 2 := by have : i < 3 := hi; omega
  · show TlOk c (f 0); rw [h0]; exact ha
  · show TlOk c (f 1); rw [h1]; exact hb
  · show TlOk c (f 2); rw [h2]; exact hd
theorem all_of1 {c : Ck} {a : Tl} {f : Nat → Tl} (h0 : f 0 = a) (ha : TlOk c a) : AllOk c (1, f) := fun i hi => by
  obtain rfl : i = 0 := by have : i < 1 := hi; omega
  show TlOk c (f 0); rw [h0]; exact ha
theorem allF_1 {c : Ck} {day : Int} {f : Nat → Tl} {a : Tl} (h0 : f 0 = a) : allF c day f 1 = cutF wideF (tellF c day a) := by simp only [allF, h0]
theorem allF_2 {c : Ck} {day : Int} {f : Nat → Tl} {a b : Tl} (h0 : f 0 = a) (h1 : f 1 = b) : allF c day f 2 = cutF (cutF wideF (tellF c day a)) (tellF c day b) := by simp only [allF, h0, h1]
theorem fact_all {f : Nat → Tl} (h0 : f 0 = markT 1) (h1 : f 1 = wordT 422 500) : thF clkC 10 (2, f) = (⟨422000, 424000⟩, 0) := by
  have e : allF clkC 10 f 2 = ⟨422000, 424000⟩ := by rw [allF_2 h0 h1]; rfl
  rw [thF_ok askC (tlsE_ok (by simp) (by simp) (all_of2 h0 h1 (by decide) (by decide))) (by simp only; rw [e]; decide)]
  simp only; rw [e]
theorem fact_mins : minsF ⟨422000, 424000⟩ = ⟨422, 424⟩ := by rfl
theorem fact_clash {f : Nat → Tl} (h0 : f 0 = wordT 400 421) (h1 : f 1 = markT 1) (h2 : f 2 = wordT 423 430) : clF clkC 10 (3, f) = (0, 2, 0) := by
  refine clF_eq askC (tlsE_ok (by simp) (by simp) (all_of3 h0 h1 h2 (by decide) (by decide) (by decide))) (.inl ⟨0, 2, rfl, by omega, by simp, ?_, fun i' j' h _ _ => by omega, fun j' h3 h4 => ?_⟩)
  · simp only [Con, h0, h2]; decide
  · obtain rfl : j' = 1 := by omega
    simp only [Con, h0, h1]; decide
theorem th_1 {f : Nat → Tl} {a : Tl} {s : Sp} (h0 : f 0 = a) (ha : TlOk clkC a) (e : cutF wideF (tellF clkC 10 a) = s) (hs : s.lo ≤ s.hi) : thF clkC 10 (1, f) = (s, 0) := by
  have e : allF clkC 10 f 1 = s := by rw [allF_1 h0]; exact e
  rw [thF_ok askC (tlsE_ok (by simp) (by simp) (all_of1 h0 ha)) (by simp only; rw [e]; exact hs)]
  simp only; rw [e]
theorem fact_bef {f g : Nat → Tl} (h0 : f 0 = markT 0) (h1 : g 0 = markT 1) : befF clkC 10 (1, f) (1, g) = (2, 0) := by
  have e1 := th_1 (s := ⟨360000, 362000⟩) h0 (by decide) rfl (by decide)
  have e2 := th_1 (s := ⟨420000, 424000⟩) h1 (by decide) rfl (by decide)
  unfold befF; rw [e1, e2]; rfl
def nightR : Nat → Sp := fun i => minsF (bwdF clkC 10 nightC.2 3 (3 - 1 - i))
theorem fact_night : nightF clkC 10 nightC = ((3, nightR), 0, 0) := nightC_eq
theorem fact_same {f : Nat → Sp} (h0 : f 0 = ⟨0, 10⟩) (h1 : f 1 = ⟨60, 60⟩) (h2 : f 2 = ⟨85, 85⟩) : sameB (3, nightR) (3, f) = true := by
  refine @decide_eq_true _ (Classical.propDecidable _) ⟨rfl, ?_⟩
  refine lt3 ?_ ?_ ?_
  · simp only [h0]; exact nightC_0
  · simp only [h1]; exact nightC_1
  · simp only [h2]; exact nightC_2
theorem fact_on : onF turnsC ⟨30, 59⟩ = ((1, fun k => ((1 + k : Nat) : Int)), 1, 0) := by
  rw [onF_eq turnsC_ok (by decide)]
  have eA : onA turnsC ⟨30, 59⟩ = 1 := fstI_at (by decide) (by decide) fun j hj => (by have h0 : j = 0 := (by omega); subst h0; decide)
  have eB : onB turnsC ⟨30, 59⟩ = 2 := by
    unfold onB; rw [eA]
    refine fstI_at (by decide) (by decide) fun j hj => ?_
    obtain rfl | rfl : j = 0 ∨ j = 1 := by omega
    · decide
    · decide
  rw [eA, eB]; rfl
theorem fact_sameI {f : Nat → Int} (h0 : f 0 = 1) : sameB (1, fun k => ((1 + k : Nat) : Int)) (1, f) = true := by
  refine @decide_eq_true _ (Classical.propDecidable _) ⟨rfl, fun i hi => ?_⟩
  obtain rfl : i = 0 := by have : i < 1 := hi; omega
  simp only [h0]; rfl
theorem clk_m : clkC.mrk.1 = 3 := rfl
theorem clk_s : clkC.str.1 = 1 := rfl
theorem ngt_1 : nightC.1 = 3 := rfl
theorem trn_1 : turnsC.1 = 3 := rfl
end Go.Proofs.YtbhhcnonooiokaaDoor
