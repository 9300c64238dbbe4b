/- aflajref07.within, At, Check: as palm.Check says. No condition. -/
import Derived.Test.YtlapepdhkomijaaPCheck
namespace Go.Proofs.Ytlapepdhkomijaa
open Go Go.RowKit

theorem rwithin_any (n lo hi : Int) (w : World) :
    Calls Try.prog 52 #[.int .i64 n, .int .i64 lo, .int .i64 hi] w fun e w' => e = .returned (.bool (decide (lo ≤ n ∧ n ≤ hi))) ∧ w' = w := by
  by_cases h1 : lo ≤ n
  · go_enter Try.func52, Try.ntmps52
    go_wp2
    go_ret
    simp [h1]
  · go_enter Try.func52, Try.ntmps52
    go_wp2
    go_ret
    have h2 : n < lo := by omega
    simp
    omega
theorem rwithin_t (n lo hi : Int) (w : World) (h : lo ≤ n ∧ n ≤ hi) : Calls Try.prog 52 #[.int .i64 n, .int .i64 lo, .int .i64 hi] w fun e w' => e = .returned (.bool true) ∧ w' = w :=
  (rwithin_any n lo hi w).mono fun e w' k => ⟨k.1.trans (ret_bool (decide_eq_true h)), k.2⟩
theorem rwithin_f (n lo hi : Int) (w : World) (h : ¬ (lo ≤ n ∧ n ≤ hi)) : Calls Try.prog 52 #[.int .i64 n, .int .i64 lo, .int .i64 hi] w fun e w' => e = .returned (.bool false) ∧ w' = w :=
  (rwithin_any n lo hi w).mono fun e w' k => ⟨k.1.trans (ret_bool (decide_eq_false h)), k.2⟩

/-- the first index with this Id, -1 if there is none -/
def IsAt (x : Nat → Pm) (n : Nat) (id r : Int) : Prop := (r = -1 ∧ ∀ i < n, (x i).id ≠ id) ∨ (∃ k : Nat, k < n ∧ r = k ∧ (x k).id = id ∧ ∀ i < k, (x i).id ≠ id)
theorem rat_any (v : Value) (n : Nat) (x : Nat → Pm) (id : Int) (w : World) (hs : PSL w v n x) :
    Calls Try.prog 44 #[v, .int .i64 id] w fun e w' => ∃ r, e = .returned (.int .i64 r) ∧ IsAt x n id r ∧ w' = w := by
  obtain ⟨a, c, rfl, hn, hc⟩ := hs
  unfold maxLen at hn
  go_enter Try.func44, Try.ntmps44
  go_wp2_with fail
  go_loop [5] (fun i => ∃ k : Nat, k ≤ n ∧ i = .int .i64 k ∧ ∀ i < k, (x i).id ≠ id) (fun i => n - (intOf i).toNat)
  case atStart => exact ⟨0, by omega, rfl, by omega⟩
  case round =>
    obtain ⟨k, hk, rfl, hall⟩ := hrel
    have HALL := Lib.hid hall
    clear hall
    by_cases hlt : k < n
    · obtain ⟨b, off, rfl, hcc⟩ := hc (by omega)
      obtain ⟨h0, -, -, -, -⟩ := PCel.at hcc hlt
      clear hc hcc
      by_cases hid : (x k).id = id
      · have hq : ((x k).id == id) = true := by simp [hid]
        have HI := Lib.hid hid
        clear hid
        go_wp2_with fail
        go_ret
        exact ⟨k, rfl, .inr ⟨k, hlt, rfl, HI.out, HALL.out⟩, rfl⟩
      · have hq : ((x k).id == id) = false := by simp [hid]
        go_wp2_with fail
        go_round
        case rel =>
          refine ⟨k + 1, by omega, by go_num, fun i hi => ?_⟩
          rcases Nat.lt_or_ge i k with h | h
          · exact HALL.out i h
          · obtain rfl : i = k := by omega
            exact hid
        case measure => simp [intOf]; omega
    · go_wp2_with fail
      go_ret
      obtain rfl : k = n := by omega
      exact ⟨-1, rfl, .inl ⟨rfl, HALL.out⟩, rfl⟩

theorem IsAt_uniq {x : Nat → Pm} {n : Nat} {id r s : Int} (h : IsAt x n id r) (k : IsAt x n id s) : r = s := by
  rcases h with ⟨h1, h2⟩ | ⟨i, h1, h2, h3, h4⟩ <;> rcases k with ⟨k1, k2⟩ | ⟨j, k1, k2, k3, k4⟩
  · omega
  · exact absurd k3 (h2 j k1)
  · exact absurd h3 (k2 i h1)
  · rcases Nat.lt_trichotomy i j with h | h | h
    · exact absurd h3 (k4 i h)
    · omega
    · exact absurd k3 (h4 j h)
def rmotherOk (x : Nat → Pm) (n i : Nat) : Prop := (x i).mother = -1 ∨ ∃ m : Nat, m < n ∧ IsAt x n (x i).mother m ∧ ¬ (x i).planted < wrap64 ((x m).planted + 1000)
def rok1 (x : Nat → Pm) (i : Nat) : Prop :=
  (0 ≤ (x i).id ∧ (x i).id ≤ 9999) ∧ (0 < i → (x (i - 1)).id < (x i).id) ∧ (0 ≤ (x i).planted ∧ (x i).planted ≤ 100000) ∧ (x i).sex ≤ 2 ∧ (0 ≤ (x i).sort ∧ (x i).sort ≤ 99)
def RValid (x : Nat → Pm) (n : Nat) : Prop := n ≤ 24 ∧ ∀ i < n, rok1 x i ∧ rmotherOk x n i

set_option maxRecDepth 100000 in
set_option maxHeartbeats 20000000 in
theorem rcheck_any (v : Value) (n : Nat) (x : Nat → Pm) (hu : ∀ i, 0 ≤ (x i).sex ∧ (x i).sex ≤ 255) (w : World) (hs : PSL w v n x) :
    Calls Try.prog 20 #[v] w fun e w' => ∃ r, e = .returned (.int .i64 r) ∧ ((r = 0 ∧ RValid x n) ∨ (r = 70 ∧ ¬ RValid x n)) ∧ Ext w w' := by
  have hat := fun id w' (h : Ext w w') => rat_any v n x id w' (hs.ext h)
  have HAT := Lib.hid hat
  clear hat
  obtain ⟨a, c, rfl, hn, hc⟩ := hs
  unfold maxLen at hn
  by_cases h24 : 24 < n
  · go_enter Try.func20, Try.ntmps20
    go_wp2_with fail
    go_ret
    exact ⟨70, rfl, .inr ⟨rfl, fun h => by have := h.1; omega⟩, Below.refl _ _⟩
  · go_enter Try.func20, Try.ntmps20
    go_wp2_with fail
    go_loopw [3] (fun i wr => ∃ k : Nat, k ≤ n ∧ i = .int .i64 k ∧ (∀ i < k, rok1 x i ∧ rmotherOk x n i) ∧ Ext w wr) (fun i _ => n - (intOf i).toNat)
    case atStart => exact ⟨0, by omega, rfl, by omega, Below.refl _ _⟩
    case round =>
      obtain ⟨k, hk, rfl, hall, hb⟩ := hrel
      have HALL := Lib.hid hall
      clear hall
      by_cases hlt : k < n
      · obtain ⟨b, off, rfl, hcc⟩ := hc (by omega)
        obtain ⟨h0, h1, h2, h3, h4⟩ := PCel.at (hcc.ext hb) hlt
        have hsz := hb.size
        obtain ⟨hu1, hu2⟩ := hu k
        have hpr : 0 < k → wr.cell? ⟨b, off + (k - 1) * 5, none⟩ = some (.int .i64 (x (k - 1)).id) := fun h => (PCel.at (hcc.ext hb) (by omega : k - 1 < n)).1
        have hbl : b < wr.heap.size := cell_lt h0
        have HCC := Lib.hid hcc
        clear hc hu hcc
        have EE : Ext w (wr.alloc (.cells #[.int .i64 (x k).id, .int .i64 (x k).mother, .int .i64 (x k).planted, .int .u8 (x k).sex, .int .i64 (x k).sort] 43)) := hb.alloc hsz _
        go_wp2_with fail
        refine wp_region_quiet_lit (by kernel_rfl) (by kernel_rfl) ?_
        have hcases : ¬ rok1 x k ∨ rok1 x k := (Classical.em _).symm
        rcases hcases with hbad | hgood
        · have HB : Hid (¬ RValid x n) := fun h => hbad (h.2 k hlt).1
          have hsplit : ((x k).id < 0 ∨ 9999 < (x k).id) ∨ ((0 ≤ (x k).id ∧ (x k).id ≤ 9999) ∧ 0 < k ∧ (x k).id ≤ (x (k - 1)).id) ∨
             ((0 ≤ (x k).id ∧ (x k).id ≤ 9999) ∧ (0 < k → (x (k - 1)).id < (x k).id) ∧ ((x k).planted < 0 ∨ 100000 < (x k).planted ∨
             ((0 ≤ (x k).planted ∧ (x k).planted ≤ 100000) ∧ (2 < (x k).sex ∨
             ((x k).sex ≤ 2 ∧ ((x k).sort < 0 ∨ 99 < (x k).sort)))))) := by
            unfold rok1 at hbad; omega
          clear hbad
          rcases hsplit with g | ⟨⟨g1, g2⟩, g3, g4⟩ | ⟨⟨g1, g2⟩, g3, g⟩
          · repeat (first | go_big_quiet_step ((first | (go_at_call 52; refine Calls.quiet_of_same (rwithin_t _ _ _ _ ?_); omega) | (go_at_call 52; refine Calls.quiet_of_same (rwithin_f _ _ _ _ ?_); omega))) | quiet_step ((first | (go_at_call 52; refine Calls.quiet_of_same (rwithin_t _ _ _ _ ?_); omega) | (go_at_call 52; refine Calls.quiet_of_same (rwithin_f _ _ _ _ ?_); omega))))
            refine wpQuiet_nil ?_; intro _ hw'; obtain ⟨nq, hw''⟩ := hw'; subst hw''
            go_wp2_with fail
            go_ret
            exact ⟨70, rfl, .inr ⟨rfl, HB.out⟩, below_drewN EE _⟩
          · have hpr' := hpr g3
            clear hpr
            have hi : ((k : Int) - 1).toNat = k - 1 := by omega
            repeat (first | go_big_quiet_step ((first | (go_at_call 52; refine Calls.quiet_of_same (rwithin_t _ _ _ _ ?_); omega) | (go_at_call 52; refine Calls.quiet_of_same (rwithin_f _ _ _ _ ?_); omega))) | quiet_step ((first | (go_at_call 52; refine Calls.quiet_of_same (rwithin_t _ _ _ _ ?_); omega) | (go_at_call 52; refine Calls.quiet_of_same (rwithin_f _ _ _ _ ?_); omega))))
            refine wpQuiet_nil ?_; intro _ hw'; obtain ⟨nq, hw''⟩ := hw'; subst hw''
            go_wp2_with fail
            go_ret
            exact ⟨70, rfl, .inr ⟨rfl, HB.out⟩, below_drewN EE _⟩
          · rcases (Nat.lt_or_ge 0 k).symm with hk0 | hk0
            · have hq1 : decide (0 < k) = false := by simp; omega
              clear hpr g3 hk0
              rcases g with g | g | ⟨⟨g4, g5⟩, g | ⟨g6, g⟩⟩
              all_goals
                repeat (first | go_big_quiet_step ((first | (go_at_call 52; refine Calls.quiet_of_same (rwithin_t _ _ _ _ ?_); omega) | (go_at_call 52; refine Calls.quiet_of_same (rwithin_f _ _ _ _ ?_); omega))) | quiet_step ((first | (go_at_call 52; refine Calls.quiet_of_same (rwithin_t _ _ _ _ ?_); omega) | (go_at_call 52; refine Calls.quiet_of_same (rwithin_f _ _ _ _ ?_); omega))))
                refine wpQuiet_nil ?_; intro _ hw'; obtain ⟨nq, hw''⟩ := hw'; subst hw''
                go_wp2_with fail
                go_ret
                exact ⟨70, rfl, .inr ⟨rfl, HB.out⟩, below_drewN EE _⟩
            · have hpr' := hpr hk0
              have g3' := g3 hk0
              have hq3 : decide ((x k).id ≤ (x (k - 1)).id) = false := by simp; omega
              have hi : ((k : Int) - 1).toNat = k - 1 := by omega
              clear hpr g3
              rcases g with g | g | ⟨⟨g4, g5⟩, g | ⟨g6, g⟩⟩
              all_goals
                repeat (first | go_big_quiet_step ((first | (go_at_call 52; refine Calls.quiet_of_same (rwithin_t _ _ _ _ ?_); omega) | (go_at_call 52; refine Calls.quiet_of_same (rwithin_f _ _ _ _ ?_); omega))) | quiet_step ((first | (go_at_call 52; refine Calls.quiet_of_same (rwithin_t _ _ _ _ ?_); omega) | (go_at_call 52; refine Calls.quiet_of_same (rwithin_f _ _ _ _ ?_); omega))))
                refine wpQuiet_nil ?_; intro _ hw'; obtain ⟨nq, hw''⟩ := hw'; subst hw''
                go_wp2_with fail
                go_ret
                exact ⟨70, rfl, .inr ⟨rfl, HB.out⟩, below_drewN EE _⟩
        · have HG := Lib.hid hgood
          obtain ⟨⟨g1, g2⟩, g3, ⟨g4, g5⟩, g6, g7, g8⟩ := hgood
          have hstep : ∀ i < k + 1, rmotherOk x n k → rok1 x i ∧ rmotherOk x n i := fun i hi hmo => by
            rcases Nat.lt_or_ge i k with h | h
            · exact HALL.out i h
            · obtain rfl : i = k := by omega
              exact ⟨HG.out, hmo⟩
          have HS := Lib.hid hstep
          clear hstep
          have hpp : decide (0 < k) = false ∨ (0 < k ∧ ((k : Int) - 1).toNat = k - 1 ∧ wr.cell? ⟨b, off + (k - 1) * 5, none⟩ = some (.int .i64 (x (k - 1)).id) ∧ decide ((x k).id ≤ (x (k - 1)).id) = false) := by
            rcases Nat.eq_zero_or_pos k with h | h
            · exact .inl (by simp [h])
            · exact .inr ⟨h, by omega, hpr h, by have := g3 h; simp; omega⟩
          clear hpr g3
          rcases hpp with hk0 | ⟨hk0, hi, hpr', hq3⟩
          all_goals
            repeat (first | go_big_quiet_step ((first | (go_at_call 52; refine Calls.quiet_of_same (rwithin_t _ _ _ _ ?_); omega) | (go_at_call 52; refine Calls.quiet_of_same (rwithin_f _ _ _ _ ?_); omega))) | quiet_step ((first | (go_at_call 52; refine Calls.quiet_of_same (rwithin_t _ _ _ _ ?_); omega) | (go_at_call 52; refine Calls.quiet_of_same (rwithin_f _ _ _ _ ?_); omega))))
            refine wpQuiet_nil ?_; intro _ hw'; obtain ⟨nq, hw''⟩ := hw'; subst hw''
            have hmo : (x k).mother = -1 ∨ (x k).mother ≠ -1 := Classical.em _
            rcases hmo with hm1 | hm1
            · have hmo : rmotherOk x n k := .inl hm1
              have hq : ((x k).mother == -1) = true := by simp [hm1]
              have HM := Lib.hid hm1
              clear hm1
              go_wp2_with fail
              go_roundw
              case rel => exact ⟨k + 1, by omega, by go_num, fun i hi => HS.out i hi hmo, below_drewN EE _⟩
              case measure => simp [intOf]; omega
            · have hq : ((x k).mother == -1) = false := by simp [hm1]
              have HM := Lib.hid hm1
              clear hm1
              go_wp2_with fail
              refine (HAT.out (x k).mother _ (below_drewN EE _)).mono ?_
              rintro e w2 ⟨r, rfl, hr, rfl⟩
              have HR := Lib.hid hr
              clear hr
              rcases HR.out with ⟨rfl, hnone⟩ | ⟨m, hmn, rfl, hid, hfst⟩
              · have hbad : Hid (¬ RValid x n) := fun h => by
                  rcases (h.2 k hlt).2 with h1 | ⟨m, hm, h1, h2⟩
                  · exact HM.out h1
                  · rcases h1 with ⟨h1, _⟩ | ⟨j, hj, h1, h3, _⟩
                    · omega
                    · exact hnone j hj h3
                clear hnone
                go_wp2_with fail
                go_quiet (fail)
                go_wp2_with fail
                go_ret
                exact ⟨70, rfl, .inr ⟨rfl, hbad.out⟩, (by first | exact below_drewN EE _ | exact below_drewN (below_drewN EE _) _)⟩
              · have hs := (PCel.at (HCC.out.ext EE) hmn).2.2.1
                clear hfst hid
                by_cases hpl : (x k).planted < wrap64 ((x m).planted + 1000)
                · have hpl2 : (x k).planted < IntKind.i64.wrap ((x m).planted + 1000) := by rw [IntWalk.i64_left]; exact hpl
                  have hbad : Hid (¬ RValid x n) := fun h => by
                    rcases (h.2 k hlt).2 with h1 | ⟨m', hm, h1, h2⟩
                    · exact HM.out h1
                    · have : (m' : Int) = m := IsAt_uniq h1 HR.out
                      obtain rfl : m' = m := by omega
                      exact h2 hpl
                  go_wp2_with fail
                  go_quiet (fail)
                  go_wp2_with fail
                  go_ret
                  exact ⟨70, rfl, .inr ⟨rfl, hbad.out⟩, (by first | exact below_drewN EE _ | exact below_drewN (below_drewN EE _) _)⟩
                · have hpl2 : ¬ (x k).planted < IntKind.i64.wrap ((x m).planted + 1000) := by rw [IntWalk.i64_left]; exact hpl
                  have hmo : Hid (rmotherOk x n k) := .inr ⟨m, hmn, HR.out, hpl⟩
                  go_wp2_with fail
                  go_quiet (fail)
                  go_wp2_with fail
                  go_roundw
                  case rel => exact ⟨k + 1, by omega, by go_num, fun i hi => HS.out i hi hmo.out, (by first | exact below_drewN EE _ | exact below_drewN (below_drewN EE _) _)⟩
                  case measure => simp [intOf]; omega
      · go_wp2_with fail
        go_ret
        obtain rfl : k = n := by omega
        exact ⟨0, rfl, .inl ⟨rfl, by omega, HALL.out⟩, hb⟩
end Go.Proofs.Ytlapepdhkomijaa
