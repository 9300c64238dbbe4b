/- IndexFunc and ContainsFunc at []int, for whatever closure; the package's 'in': whether all numbers are from lo to hi. No condition. -/
import Derived.Test.YtlapepdhkomijaaProg
import Derived.Test.YtlapepdhkomijaaBase
namespace Go.Proofs.Ytlapepdhkomijaa
open Go Go.RowKit

theorem indexFunc_int (g : Nat) (cp : Array Value) (hent : ∀ args w, (callFunc g args).run Try.prog w = .ok (.enter g args) w)
   (b off n c : Nat) (x : Nat → Int) (p : Nat → Bool) (J : Nat → World → Prop) (hn : n ≤ maxLen) 
   (hcell : ∀ k W, J k W → ∀ i < n, W.cell? ⟨b, off + i, none⟩ = some (.int .i64 (x i)))
   (hJ : ∀ k W, k < n → J k W → Calls Try.prog g (#[.int .i64 (x k)] ++ cp) W fun e W' => e = .returned (.bool (p k)) ∧ J (k+1) W')
   (w : World) (h0 : J 0 w) :
   Calls Try.prog 88 #[.slice (some ⟨b, off, none⟩) n c, .func (.func g) #[] cp] w fun e w' => ∃ r : Int, e = .returned (.int .i64 r) ∧
      ((r = -1 ∧ (∀ i < n, p i = false) ∧ J n w') ∨ (∃ k : Nat, k < n ∧ r = k ∧ p k = true ∧ (∀ i < k, p i = false) ∧ J (k+1) w')) := by
  unfold maxLen at hn
  go_enter Try.func88, Try.ntmps88
  go_wp2_with fail
  go_loopw [8] (fun i wr => ∃ k : Nat, k ≤ n ∧ i = .int .i64 k ∧ J k wr ∧ ∀ i < k, p i = false) (fun i _ => n - (intOf i).toNat)
  case atStart => exact ⟨0, by omega, rfl, h0, by omega⟩
  case round =>
    obtain ⟨k, hk, rfl, hj, hp⟩ := hrel
    by_cases hlt : k < n
    · have hc := hcell k wr hj k hlt
      have hcall := hJ k wr hlt hj
      have HP := Lib.hid hp
      clear hcell hJ hp hj
      go_wp2_with fail
      refine hcall.mono ?_; rintro e w1 ⟨rfl, hj1⟩
      cases hpk : p k
      · go_wp2_with fail
        go_roundw
        case rel => exact ⟨k + 1, by omega, by go_num, hj1, fun i hi => by rcases Nat.lt_or_ge i k with h | h; exact HP.out i h; obtain rfl : i = k := by omega
                                                                           exact hpk⟩
        case measure => simp [intOf]; omega
      · go_wp2_with fail
        go_ret
        exact ⟨k, rfl, .inr ⟨k, hlt, rfl, hpk, HP.out, hj1⟩⟩
    · go_wp2_with fail
      go_ret
      have : k = n := by omega
      subst this
      exact ⟨-1, rfl, .inl ⟨rfl, hp, hj⟩⟩

theorem containsFunc_int (g : Nat) (cp : Array Value) (hent : ∀ args w, (callFunc g args).run Try.prog w = .ok (.enter g args) w)
   (b off n c : Nat) (x : Nat → Int) (p : Nat → Bool) (J : Nat → World → Prop) (hn : n ≤ maxLen) 
   (hcell : ∀ k W, J k W → ∀ i < n, W.cell? ⟨b, off + i, none⟩ = some (.int .i64 (x i)))
   (hJ : ∀ k W, k < n → J k W → Calls Try.prog g (#[.int .i64 (x k)] ++ cp) W fun e W' => e = .returned (.bool (p k)) ∧ J (k+1) W')
   (w : World) (h0 : J 0 w) :
   Calls Try.prog 79 #[.slice (some ⟨b, off, none⟩) n c, .func (.func g) #[] cp] w fun e w' => 
      (e = .returned (.bool false) ∧ (∀ i < n, p i = false) ∧ J n w') ∨ (e = .returned (.bool true) ∧ ∃ k : Nat, k < n ∧ p k = true ∧ J (k+1) w') := by
  have hI := indexFunc_int g cp hent b off n c x p J hn hcell hJ w h0
  clear hcell hJ h0
  go_enter Try.func79, Try.ntmps79
  go_wp2_with fail
  refine hI.mono ?_
  rintro e w1 ⟨r, rfl, h | ⟨k, hk, rfl, hpk, hall, hj⟩⟩
  · obtain ⟨rfl, hall, hj⟩ := h
    have HA := Lib.hid hall
    clear hall
    go_wp2_with fail
    go_ret
    exact .inl ⟨by simp, HA.out, hj⟩
  · have HA := Lib.hid hall
    clear hall
    go_wp2_with fail
    go_ret
    exact .inr ⟨by simp, k, hk, hpk, hj⟩

theorem in1_any (n lo hi : Int) (bl bh : Nat) (w : World) (hl : w.cell? ⟨bl, 0, none⟩ = some (.int .i64 lo)) (hh : w.cell? ⟨bh, 0, none⟩ = some (.int .i64 hi)) :
    Calls Try.prog 80 #[.int .i64 n, .pointer (some ⟨bl, 0, none⟩), .pointer (some ⟨bh, 0, none⟩)] w fun e w' => e = .returned (.bool (decide (n < lo ∨ hi < n))) ∧ w = w' := by
  by_cases h1 : n < lo
  · go_enter Try.func80, Try.ntmps80
    go_wp2
    go_ret
    simp [h1]
  · go_enter Try.func80, Try.ntmps80
    go_wp2
    go_ret
    have h2 : ¬ n < lo := by omega
    simp [h2]

theorem ent_in1 : ∀ args w, (callFunc 80 args).run Try.prog w = .ok (.enter 80 args) w := ent_of Try.func80 (by kernel_rfl) rfl

theorem in_any (lo hi : Int) (b off n c : Nat) (x : Nat → Int) (hn : n ≤ maxLen) (w : World) (hc : ∀ i < n, w.cell? ⟨b, off + i, none⟩ = some (.int .i64 (x i))) :
    Calls Try.prog 51 #[.int .i64 lo, .int .i64 hi, .slice (some ⟨b, off, none⟩) n c] w fun e w' => e = .returned (.bool (decide (∀ i < n, lo ≤ x i ∧ x i ≤ hi))) ∧ Ext w w' := by
  have hcall := containsFunc_int 80 #[.pointer (some ⟨w.heap.size, 0, none⟩), .pointer (some ⟨w.heap.size + 1, 0, none⟩)] ent_in1 b off n c x (fun i => decide (x i < lo ∨ hi < x i))
    (fun _ W => W = (w.alloc (.cells #[.int .i64 lo] 3)).alloc (.cells #[.int .i64 hi] 3)) hn
    (by rintro k W rfl i hi; exact ext_cell (((Below.refl _ _).alloc (Nat.le_refl _) _).alloc (by simp) _) (hc i hi))
    (by rintro k W hk rfl
        exact (in1_any (x k) lo hi w.heap.size (w.heap.size + 1) _ (by simp [World.cell?_alloc_past, World.cell?_alloc_at]) (by simp [World.cell?_alloc_at])).mono fun e w' h => ⟨h.1, h.2.symm⟩) _ rfl
  clear hc
  go_enter Try.func51, Try.ntmps51
  go_wp2_with fail
  refine hcall.mono ?_
  clear hcall
  rintro e w1 (⟨rfl, hall, rfl⟩ | ⟨rfl, k, hk, hpk, rfl⟩)
  · have HA := Lib.hid hall
    clear hall
    go_wp2_with fail
    go_ret
    refine ⟨ret_bool ?_, (((Below.refl _ _).alloc (Nat.le_refl _) _).alloc (by simp) _)⟩
    symm; simp
    intro i hi
    have := HA.out i hi
    simp at this
    omega
  · have HP := Lib.hid hpk
    clear hpk
    go_wp2_with fail
    go_ret
    refine ⟨ret_bool ?_, (((Below.refl _ _).alloc (Nat.le_refl _) _).alloc (by simp) _)⟩
    symm; simp
    refine ⟨k, hk, ?_⟩
    have := HP.out
    simp at this
    omega

/-- one number, in a slice that was just built -/
theorem in_one (lo hi v : Int) (b c : Nat) (w : World) (hc : w.cell? ⟨b, 0, none⟩ = some (.int .i64 v)) :
    Calls Try.prog 51 #[.int .i64 lo, .int .i64 hi, .slice (some ⟨b, 0, none⟩) 1 c] w fun e w' => e = .returned (.bool (decide (lo ≤ v ∧ v ≤ hi))) ∧ Ext w w' :=
  (in_any lo hi b 0 1 c (fun _ => v) (by decide) w (by
    intro i hi
    obtain rfl : i = 0 := by omega
    exact hc)).mono fun e w' h => ⟨h.1.trans (ret_bool (by simp)), h.2⟩
theorem in_two (lo hi v u : Int) (b c : Nat) (w : World) (hc : w.cell? ⟨b, 0, none⟩ = some (.int .i64 v)) (hd : w.cell? ⟨b, 1, none⟩ = some (.int .i64 u)) :
    Calls Try.prog 51 #[.int .i64 lo, .int .i64 hi, .slice (some ⟨b, 0, none⟩) 2 c] w fun e w' => e = .returned (.bool (decide ((lo ≤ v ∧ v ≤ hi) ∧ (lo ≤ u ∧ u ≤ hi)))) ∧ Ext w w' :=
  (in_any lo hi b 0 2 c (fun i => if i = 0 then v else u) (by decide) w (by
    intro i hi
    rcases (by omega : i = 0 ∨ i = 1) with rfl | rfl
    · simpa using hc
    · simpa using hd)).mono fun e w' h => ⟨h.1.trans (ret_bool (by
      apply decide_eq_decide.2
      constructor
      · intro h; exact ⟨by simpa using h 0 (by omega), by simpa using h 1 (by omega)⟩
      · intro h i hi
        rcases (by omega : i = 0 ∨ i = 1) with rfl | rfl
        · simpa using h.1
        · simpa using h.2)), h.2⟩
theorem in_one_t (lo hi v : Int) (b c : Nat) (w : World) (hc : w.cell? ⟨b, 0, none⟩ = some (.int .i64 v)) (h : lo ≤ v ∧ v ≤ hi) :
    Calls Try.prog 51 #[.int .i64 lo, .int .i64 hi, .slice (some ⟨b, 0, none⟩) 1 c] w fun e w' => e = .returned (.bool true) ∧ Ext w w' :=
  (in_one lo hi v b c w hc).mono fun e w' k => ⟨k.1.trans (ret_bool (by simpa using h)), k.2⟩
theorem in_one_f (lo hi v : Int) (b c : Nat) (w : World) (hc : w.cell? ⟨b, 0, none⟩ = some (.int .i64 v)) (h : ¬ (lo ≤ v ∧ v ≤ hi)) :
    Calls Try.prog 51 #[.int .i64 lo, .int .i64 hi, .slice (some ⟨b, 0, none⟩) 1 c] w fun e w' => e = .returned (.bool false) ∧ Ext w w' :=
  (in_one lo hi v b c w hc).mono fun e w' k => ⟨k.1.trans (ret_bool (by simpa using h)), k.2⟩
theorem in_two_t (lo hi v u : Int) (b c : Nat) (w : World) (hc : w.cell? ⟨b, 0, none⟩ = some (.int .i64 v)) (hd : w.cell? ⟨b, 1, none⟩ = some (.int .i64 u)) (h : (lo ≤ v ∧ v ≤ hi) ∧ (lo ≤ u ∧ u ≤ hi)) :
    Calls Try.prog 51 #[.int .i64 lo, .int .i64 hi, .slice (some ⟨b, 0, none⟩) 2 c] w fun e w' => e = .returned (.bool true) ∧ Ext w w' :=
  (in_two lo hi v u b c w hc hd).mono fun e w' k => ⟨k.1.trans (ret_bool (decide_eq_true h)), k.2⟩
theorem in_two_f (lo hi v u : Int) (b c : Nat) (w : World) (hc : w.cell? ⟨b, 0, none⟩ = some (.int .i64 v)) (hd : w.cell? ⟨b, 1, none⟩ = some (.int .i64 u)) (h : ¬ ((lo ≤ v ∧ v ≤ hi) ∧ (lo ≤ u ∧ u ≤ hi))) :
    Calls Try.prog 51 #[.int .i64 lo, .int .i64 hi, .slice (some ⟨b, 0, none⟩) 2 c] w fun e w' => e = .returned (.bool false) ∧ Ext w w' :=
  (in_two lo hi v u b c w hc hd).mono fun e w' k => ⟨k.1.trans (ret_bool (decide_eq_false h)), k.2⟩
end Go.Proofs.Ytlapepdhkomijaa
