/- PalmKnown: whatever the palms and the Id, the law returns true, and nothing that was there has turned. No condition. -/
import Derived.Test.YtlapepdhkomijaaPEq
import Derived.Test.YtlapepdhkomijaaPSame
import Derived.Test.YtlapepdhkomijaaCopy
namespace Go.Proofs.Ytlapepdhkomijaa
open Go Go.RowKit

theorem known_same {x : Nat → Pm} {n B B' : Nat} {w w' : World} {u u' : Value} {a a' e e' : Int} (h : KnownPost x n B w u a e) (k : RKnownPost x n B' w' u' a' e') :
    a = a' ∧ e = e' ∧ ∃ m y, OwnS B w 43 5 u m (pf y) ∧ PSL w' u' m y := by
  have hnil : ∀ (B : Nat) (w : World), OwnS B w 43 5 (.slice none 0 0) 0 (pf x) := fun B w => ⟨none, 0, rfl, by decide, fun h => absurd h (by omega)⟩
  cases h with
  | bad h1 h2 h3 h4 =>
    cases k with
    | bad k1 k2 k3 k4 => subst h2 h3 h4 k2 k3 k4; exact ⟨rfl, rfl, 0, x, hnil _ _, (hnil 0 _).sl⟩
    | clash k1 => exact absurd k1 h1
    | ok k1 => exact absurd k1 h1
  | clash h1 i hi hc hall h2 h3 h4 =>
    cases k with
    | bad k1 => exact absurd h1 k1
    | clash k1 j hj kc kall k2 k3 k4 =>
      have : i = j := by
        rcases Nat.lt_trichotomy i j with h | h | h
        · exact absurd hc (kall i h)
        · exact h
        · exact absurd kc (hall j h)
      subst this h2 h3 h4 k2 k3 k4
      exact ⟨rfl, rfl, 0, x, hnil _ _, (hnil 0 _).sl⟩
    | ok k1 kall => exact absurd hc (kall i hi)
  | ok h1 hall h2 h3 h4 =>
    cases k with
    | bad k1 => exact absurd h1 k1
    | clash k1 j hj kc kall k2 k3 k4 => exact absurd kc (hall j hj)
    | ok k1 kall k2 k3 k4 =>
      subst h2 h3 k2 k3
      refine ⟨rfl, rfl, n, ky x n, h4, ?_⟩
      obtain ⟨p, q, r1, r2, r3⟩ := k4
      refine ⟨p, q, r1, r2, fun h0 => ?_⟩
      obtain ⟨g, s1, s2, s3⟩ := r3 h0
      refine ⟨g, 0, s1, (s3.congr fun i hi j hj => ?_).cel⟩
      simp only [pf]
      rw [ky_rky h1 hall i hi]
theorem clones_same {x : Nat → Pm} {n : Nat} {id : Int} {w w' : World} {u u' : Value} {e e' : Int} (hu : ∀ i, 0 ≤ (x i).sex ∧ (x i).sex ≤ 255) (h : ClonesPost x n id w u e) (k : ClonesPost x n id w' u' e') :
    e = e' ∧ ∃ l, SLI w u l ∧ SLI w' u' l := by
  cases h with
  | bad h1 h2 h3 =>
    cases k with
    | bad k1 k2 k3 => subst h2 k2; exact ⟨rfl, _, h3, k3⟩
    | none k1 => exact absurd k1 h1
    | some k1 => exact absurd k1 h1
  | none h1 hn h2 h3 =>
    cases k with
    | bad k1 => exact absurd h1 k1
    | none k1 kn k2 k3 => subst h2 k2; exact ⟨rfl, _, h3, k3⟩
    | some k1 i hi hid => exact absurd hid (hn i hi)
  | some h1 i hi hid T hT h2 h3 =>
    cases k with
    | bad k1 => exact absurd h1 k1
    | none k1 kn k2 k3 => exact absurd hid (kn i hi)
    | some k1 j hj kid T' kT k2 k3 =>
      have : i = j := (RV_of ((valid_iff hu).1 h1)).1 i j hi hj (hid.trans kid.symm)
      subst this h2 k2
      have := Tc_of hT
      have := Tc_of kT
      subst_vars
      exact ⟨rfl, _, h3, k3⟩

set_option maxRecDepth 100000 in
set_option maxHeartbeats 8000000 in
theorem law_any (x : Nat → Pm) (n : Nat) (v : Value) (id : Int) (hu : ∀ i, 0 ≤ (x i).sex ∧ (x i).sex ≤ 255) (w : World) (hs : PSL w v n x) (hpv : Plain v) :
    Calls Try.prog 3 #[v, .int .i64 id] w fun e w' => e = .returned (.bool true) ∧ Ext w w' := by
  have HS := Lib.hid hs
  have HU := Lib.hid hu
  obtain ⟨a, c, rfl, hn, hc⟩ := hs
  obtain ⟨i0, hi0, hz0, hz1, hz2⟩ := info_parts info_palm
  clear hc hu
  unfold maxLen at hn
  go_enter Try.func3, Try.ntmps3
  go_wp2_with fail
  refine (great_any _ _ _ _ _ _ _ _ _ _ _ _ _ _ _).mono ?_
  rintro e w1 ⟨rfl, e1⟩
  by_cases h30 : 30 < n
  · have hd : decide (30 < n ∨ 12 < 0 ∨ 20 < 0 ∨ 8 < 0) = true := by simp; omega
    rw [hd]
    go_wp2_with fail
    go_ret
    exact ⟨rfl, e1⟩
  · have hd : decide (30 < n ∨ 12 < 0 ∨ 20 < 0 ∨ 8 < 0) = false := by simp; omega
    rw [hd]
    clear hd
    go_wp2_with (at_builtin; refine wpList_copy_all rfl _ _ 22 rfl 43 i0 _ 5 40 Try.underlying22 hi0 hz0 hz1 hz2 rfl (by decide) rfl (.slice a n c) rfl n (pf x) (HS.out.ext e1) hpv (fun i j => by unfold pf pcell; split <;> rfl) ?hb ?_; rotate_right; intro u2 w2 hown hp2 e12)
    case hb => omega
    have e2 := ext_trans e1 e12 (Nat.le_refl _)
    have HOWN := Lib.hid hown
    refine (pknown_any x n u2 HU.out w2 hown.sl).mono ?_
    rintro e w3 ⟨a1, at1, r1, rfl, hk1, e3⟩
    have e23 := ext_trans e2 e3 (Nat.le_refl _)
    clear hown e12
    go_wp2_with fail
    refine (rknown_any x n _ HU.out w3 (HS.out.ext e23)).mono ?_
    rintro e w4 ⟨b1, at2, r2, rfl, hk2, e4⟩
    have e24 := ext_trans e23 e4 (Nat.le_refl _)
    obtain ⟨hat, hre, m, y, hA, hB⟩ := known_same hk1 hk2
    subst hat hre
    have e34 : Ext w2 w4 := ext_trans e3 e4 (Nat.le_refl _)
    have HA := Lib.hid hA
    have HB := Lib.hid hB
    clear hk1 hk2 hA hB
    go_wp2_with fail
    refine (pclones_any x n u2 id HU.out w4 (HOWN.out.sl.ext e34)).mono ?_
    rintro e w5 ⟨c1, r3, rfl, hc1, e5⟩
    have e25 := ext_trans e24 e5 (Nat.le_refl _)
    go_wp2_with fail
    refine (rclones2_any x n _ id HU.out w5 (HS.out.ext e25)).mono ?_
    rintro e w6 ⟨c2, r4, rfl, hc2, e6⟩
    have e26 := ext_trans e25 e6 (Nat.le_refl _)
    obtain ⟨hre, l, hC, hD⟩ := clones_same HU.out hc1 hc2
    subst hre
    have HC := Lib.hid hC
    have HD := Lib.hid hD
    have e36 : Ext w2 w6 := ext_trans (ext_trans e34 e5 (Nat.le_refl _)) e6 (Nat.le_refl _)
    have e46 : Ext w4 w6 := ext_trans e5 e6 (Nat.le_refl _)
    clear hc1 hc2 hC hD
    go_wp2_with fail
    refine (pcheck_any u2 n x HU.out w6 (HOWN.out.sl.ext e36)).mono ?_
    rintro e w7 ⟨r5, rfl, hr5, e7⟩
    have e27 := ext_trans e26 e7 (Nat.le_refl _)
    go_wp2_with fail
    refine (rcheck_any _ n x HU.out w7 (HS.out.ext e27)).mono ?_
    rintro e w8 ⟨r6, rfl, hr6, e8⟩
    have hrr : r5 = r6 := by
      have := valid_iff (n := n) HU.out
      rcases hr5 with ⟨rfl, a1⟩ | ⟨rfl, a1⟩ <;> rcases hr6 with ⟨rfl, a2⟩ | ⟨rfl, a2⟩
      · rfl
      · exact absurd (this.1 a1) a2
      · exact absurd (this.2 a2) a1
      · rfl
    subst hrr
    have e28 := ext_trans e27 e8 (Nat.le_refl _)
    have e38 : Ext w2 w8 := ext_trans (ext_trans e36 e7 (Nat.le_refl _)) e8 (Nat.le_refl _)
    have e48 : Ext w4 w8 := ext_trans (ext_trans e46 e7 (Nat.le_refl _)) e8 (Nat.le_refl _)
    have e68 : Ext w6 w8 := ext_trans e7 e8 (Nat.le_refl _)
    have hq1 : ∀ z : Int, (z == z) = true := fun z => by simp
    clear hr5 hr6
    go_wp2_with fail
    refine (same_palms_t a1 b1 m y y w8 ((HA.out.sl.ext e4).ext e48) (HB.out.ext e48) (fun i _ => rfl)).mono ?_
    rintro e w9 ⟨rfl, e9⟩
    have e29 := ext_trans e28 e9 (Nat.le_refl _)
    have e69 := ext_trans e68 e9 (Nat.le_refl _)
    go_wp2_with fail
    refine (same_ints_t c1 c2 w9 l.length (fun i => l.getD i 0) ((HC.out.ext e6).ext e69) (HD.out.ext e69)).mono ?_
    rintro e w10 ⟨rfl, e10⟩
    have e210 := ext_trans e29 e10 (Nat.le_refl _)
    have e310 : Ext w2 w10 := ext_trans (ext_trans e38 e9 (Nat.le_refl _)) e10 (Nat.le_refl _)
    have e3w : Ext w3 w10 := ext_trans (ext_trans (ext_trans e4 e48 (Nat.le_refl _)) e9 (Nat.le_refl _)) e10 (Nat.le_refl _)
    obtain ⟨aa, ca, rfl, hma, hra⟩ := HA.out.ext e3w
    have HRA := Lib.hid hra
    have HSO := Lib.hid HOWN.out.sl
    have e02 : Ext w w2 := e2
    clear hra e1 e2 e3 e4 e5 e6 e7 e8 e9 e10 e23 e24 e25 e26 e27 e28 e29 e34 e36 e38 e46 e48 e68 e69 e3w e210 HA HB HC HD HOWN
    go_wp2_with fail
    go_loopw [80] (fun q wr => ∃ k : Nat, k ≤ m ∧ q = .int .i64 k ∧ Ext w2 wr ∧ (0 < m → ∃ g, aa = some ⟨g, 0, none⟩ ∧ w2.heap.size ≤ g ∧ ∃ f, Row wr g 43 5 m f)) (fun q _ => m - (intOf q).toNat)
    case atStart =>
      refine ⟨0, by omega, rfl, e310, fun h0 => ?_⟩
      obtain ⟨g, q1, q2, q3⟩ := HRA.out h0
      exact ⟨g, q1, q2, _, q3⟩
    case round =>
      obtain ⟨k, hk, rfl, hE, hR⟩ := hrel
      unfold maxLen at hma
      by_cases hlt : k < m
      · obtain ⟨g, rfl, hg, f, hr⟩ := hR (by omega)
        have h1 := hr.cell hlt (show 4 < 5 by omega)
        have h2 := hr.froz (k * 5 + 4)
        have HR := Lib.hid hr
        clear hR hr
        go_wp2_with fail
        go_roundw
        case rel => exact ⟨k + 1, by omega, by go_num, hE.setCell hg _, fun _ => ⟨g, rfl, hg, _, HR.out.set hlt (show 4 < 5 by omega) _⟩⟩
        case measure => simp [intOf]; omega
      · go_wp2_with fail
        refine (same_palms_t u2 _ n x x wr (HSO.out.ext hE) (HS.out.ext (ext_trans e02 hE (Nat.le_refl _))) (fun i _ => rfl)).mono ?_
        rintro e w11 ⟨rfl, e11⟩
        have eF := ext_trans (ext_trans e02 hE (Nat.le_refl _)) e11 (Nat.le_refl _)
        clear hR
        go_wp2_with fail
        go_ret
        exact ⟨rfl, eF⟩
end Go.Proofs.Ytlapepdhkomijaa
