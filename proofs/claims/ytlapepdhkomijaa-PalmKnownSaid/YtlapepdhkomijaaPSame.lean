/- aflajref07.SamePalms, SameInts, Great: what is alike is told to be alike. No condition. -/
import Derived.Test.YtlapepdhkomijaaPClone
namespace Go.Proofs.Ytlapepdhkomijaa
open Go Go.RowKit

set_option maxRecDepth 100000 in
set_option maxHeartbeats 2000000 in
theorem same_palms_t (u v : Value) (n : Nat) (x y : Nat → Pm) (w : World) (hu : PSL w u n x) (hv : PSL w v n y) (he : ∀ i < n, x i = y i) :
    Calls Try.prog 21 #[u, v] w fun e w' => e = .returned (.bool true) ∧ Ext w w' := by
  obtain ⟨a, c, rfl, hn, hc⟩ := hu
  obtain ⟨a', c', rfl, hn', hc'⟩ := hv
  have HE := Lib.hid he
  clear he
  unfold maxLen at hn
  have hq0 : ((n : Int) != (n : Int)) = false := by simp
  go_enter Try.func21, Try.ntmps21
  go_wp2_with fail
  go_loopw [5] (fun i wr => ∃ k : Nat, k ≤ n ∧ i = .int .i64 k ∧ Ext w wr) (fun i _ => n - (intOf i).toNat)
  case atStart => exact ⟨0, by omega, rfl, Below.refl _ _⟩
  case round =>
    obtain ⟨k, hk, rfl, hE⟩ := hrel
    by_cases hlt : k < n
    · obtain ⟨b, off, rfl, hcc⟩ := hc (by omega)
      obtain ⟨b', off', rfl, hcc'⟩ := hc' (by omega)
      obtain ⟨h0, h1, h2, h3, h4⟩ := PCel.at (hcc.ext hE) hlt
      obtain ⟨g0, g1, g2, g3, g4⟩ := PCel.at (hcc'.ext hE) hlt
      rw [← HE.out k hlt] at g0 g1 g2 g3 g4
      clear hc hc' hcc hcc'
      go_wp2_with fail
      go_quiet (fail)
      go_wp2_with fail
      go_roundw
      case rel => exact ⟨k + 1, by omega, by go_num, below_drewN hE _⟩
      case measure => simp [intOf]; omega
    · go_wp2_with fail
      go_ret
      exact ⟨rfl, hE⟩

set_option maxHeartbeats 2000000 in
theorem same_ints_t (u v : Value) (w : World) (n : Nat) (f : Nat → Int) (hu : SL w u 1 n (fun i _ => .int .i64 (f i))) (hv : SL w v 1 n (fun i _ => .int .i64 (f i))) :
    Calls Try.prog 22 #[u, v] w fun e w' => e = .returned (.bool true) ∧ Ext w w' := by
  obtain ⟨a, c, rfl, hn, hc⟩ := hu
  obtain ⟨a', c', rfl, hn', hc'⟩ := hv
  unfold maxLen at hn
  have hq0 : ((n : Int) != (n : Int)) = false := by simp
  go_enter Try.func22, Try.ntmps22
  go_wp2_with fail
  go_loopw [5] (fun i wr => ∃ k : Nat, k ≤ n ∧ i = .int .i64 k ∧ Ext w wr) (fun i _ => n - (intOf i).toNat)
  case atStart => exact ⟨0, by omega, rfl, Below.refl _ _⟩
  case round =>
    obtain ⟨k, hk, rfl, hE⟩ := hrel
    by_cases hlt : k < n
    · obtain ⟨b, off, rfl, hcc⟩ := hc (by omega)
      obtain ⟨b', off', rfl, hcc'⟩ := hc' (by omega)
      have h0 := (hcc.ext hE) k hlt 0 (by omega)
      have g0 := (hcc'.ext hE) k hlt 0 (by omega)
      simp only [Nat.mul_one, Nat.add_zero] at h0 g0
      clear hc hc' hcc hcc'
      go_wp2_with fail
      go_quiet (fail)
      go_wp2_with fail
      go_roundw
      case rel => exact ⟨k + 1, by omega, by go_num, below_drewN hE _⟩
      case measure => simp [intOf]; omega
    · go_wp2_with fail
      go_ret
      exact ⟨rfl, hE⟩

set_option maxRecDepth 100000 in
set_option maxHeartbeats 2000000 in
theorem great_any (a b d e : Option Addr) (n c m c1 k c2 j c3 : Nat) (dy op : Int) (w : World) :
    Calls Try.prog 14 #[.slice a n c, .agg #[.int .i64 dy, .slice b m c1, .slice d k c2, .slice e j c3, .int .i64 op]] w fun e w' => e = .returned (.bool (decide (30 < n ∨ 12 < m ∨ 20 < k ∨ 8 < j))) ∧ Ext w w' := by
  by_cases h1 : 30 < n
  · go_enter Try.func14, Try.ntmps14
    go_wp2
    go_ret
    exact ⟨ret_bool (by symm; simp <;> omega), (Below.refl _ _).alloc (Nat.le_refl _) _⟩
  · by_cases h2 : 12 < m
    · go_enter Try.func14, Try.ntmps14
      go_wp2
      go_ret
      exact ⟨ret_bool (by symm; simp <;> omega), (Below.refl _ _).alloc (Nat.le_refl _) _⟩
    · by_cases h3 : 20 < k
      · go_enter Try.func14, Try.ntmps14
        go_wp2
        go_ret
        exact ⟨ret_bool (by symm; simp <;> omega), (Below.refl _ _).alloc (Nat.le_refl _) _⟩
      · go_enter Try.func14, Try.ntmps14
        go_wp2
        go_ret
        exact ⟨ret_bool (by by_cases h4 : 8 < j <;> simp [h1, h2, h3, h4] <;> omega), (Below.refl _ _).alloc (Nat.le_refl _) _⟩
end Go.Proofs.Ytlapepdhkomijaa
