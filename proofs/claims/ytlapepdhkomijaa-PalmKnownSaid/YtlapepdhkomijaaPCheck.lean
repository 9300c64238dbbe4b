/- palm.Check: whether palms are valid. No condition. -/
import Derived.Test.YtlapepdhkomijaaIn
import Derived.Test.YtlapepdhkomijaaPlaces
namespace Go.Proofs.Ytlapepdhkomijaa
open Go Go.RowKit

def nextOf (x : Nat → Pm) : Nat → Int
  | 0 => 0
  | i + 1 => (x i).id + 1
def motherOk (x : Nat → Pm) (n i : Nat) : Prop := (x i).mother = -1 ∨ ∃ m, lastIx x (x i).mother n = some m ∧ ¬ (x i).planted < wrap64 ((x m).planted + 1000)
def pok (x : Nat → Pm) (n i : Nat) : Prop :=
  (nextOf x i ≤ (x i).id ∧ (x i).id ≤ 9999) ∧ (0 ≤ (x i).planted ∧ (x i).planted ≤ 100000) ∧ (0 ≤ (x i).sex ∧ (x i).sex ≤ 2) ∧ (0 ≤ (x i).sort ∧ (x i).sort ≤ 99) ∧ motherOk x n i
def PValid (x : Nat → Pm) (n : Nat) : Prop := n ≤ 24 ∧ ∀ i < n, pok x n i
theorem lastIx_lt {x : Nat → Pm} {k : Int} {n m : Nat} (h : lastIx x k n = some m) : m < n := by
  induction n with
  | zero => simp [lastIx] at h
  | succ n ih => unfold lastIx at h; split at h; (simp at h; omega); (have := ih h; omega)

theorem places_look (x : Nat → Pm) (n : Nat) (k : Int) : ∃ vi ok, (placesF x n k).getD (.int .i64 0) = .int .i64 vi ∧ (placesF x n k).isSome = ok ∧ (ok = true → ∃ m : Nat, lastIx x k n = some m ∧ vi = m) ∧ (ok = false → lastIx x k n = none) := by
  cases h : lastIx x k n with
  | none => exact ⟨0, false, by simp [placesF, h], by simp [placesF, h], by simp, by simp⟩
  | some m => exact ⟨m, true, by simp [placesF, h], by simp [placesF, h], by simp, by simp⟩
set_option maxRecDepth 100000 in
set_option maxHeartbeats 1600000 in
theorem pcheck_any (v : Value) (n : Nat) (x : Nat → Pm) (hu : ∀ i, 0 ≤ (x i).sex ∧ (x i).sex ≤ 255) (w : World) (hs : PSL w v n x) :
    Calls Try.prog 19 #[v] w fun e w' => ∃ r, e = .returned (.int .i64 r) ∧ ((r = 0 ∧ PValid x n) ∨ (r = 70 ∧ ¬ PValid x n)) ∧ Ext w w' := by
  have hpl := places_any v n x w hs
  obtain ⟨a, c, rfl, hn, hc⟩ := hs
  unfold maxLen at hn
  by_cases h24 : 24 < n
  · go_enter Try.func19, Try.ntmps19
    go_wp2_with fail
    go_ret
    exact ⟨70, rfl, .inr ⟨rfl, fun h => by have := h.1; omega⟩, Below.refl _ _⟩
  · go_enter Try.func19, Try.ntmps19
    go_wp2_with fail
    refine hpl.mono ?_
    clear hpl
    rintro e w1 ⟨rfl, hm1, he1⟩
    go_wp2_with fail
    go_loopw [4, 16] (fun nx i wr => ∃ k : Nat, k ≤ n ∧ i = .int .i64 k ∧ nx = .int .i64 (nextOf x k) ∧ (nextOf x k ≤ 10000 ∧ 0 ≤ nextOf x k) ∧ (∀ i < k, pok x n i) ∧ MapF wr w.heap.size .i64 (placesF x n) ∧ Ext w wr) (fun _ i _ => n - (intOf i).toNat)
    case atStart => exact ⟨0, by omega, rfl, rfl, by simp [nextOf], by omega, hm1, he1⟩
    case round =>
      obtain ⟨k, hk, rfl, rfl, ⟨hnx1, hnx2⟩, hall, hm, hb⟩ := hrel
      have HALL := Lib.hid hall
      clear hall he1 hm1
      by_cases hlt : k < n
      · obtain ⟨b, off, rfl, hcc⟩ := hc (by omega)
        obtain ⟨h0, h1, h2, h3, h4⟩ := PCel.at (hcc.ext hb) hlt
        have hsz := hb.size
        have hml := hm.lt
        obtain ⟨hu1, hu2⟩ := hu k
        clear hc hu
        by_cases c1 : nextOf x k ≤ (x k).id ∧ (x k).id ≤ 9999
        · have hp : ∀ (W w2 : World), Blk W wr.heap.size [.int .i64 (x k).id, .int .i64 (x k).mother, .int .i64 (x k).planted, .int .u8 (x k).sex, .int .i64 (x k).sort] 43 → Ext W w2 →
              Blk w2 wr.heap.size [.int .i64 (x k).id, .int .i64 (x k).mother, .int .i64 (x k).planted, .int .u8 (x k).sex, .int .i64 (x k).sort] 43 ∧ w2.cell? ⟨wr.heap.size, 0, none⟩ = some (.int .i64 (x k).id) ∧ w2.cell? ⟨wr.heap.size, 1, none⟩ = some (.int .i64 (x k).mother) ∧
              w2.cell? ⟨wr.heap.size, 2, none⟩ = some (.int .i64 (x k).planted) ∧ w2.cell? ⟨wr.heap.size, 3, none⟩ = some (.int .u8 (x k).sex) ∧ w2.cell? ⟨wr.heap.size, 4, none⟩ = some (.int .i64 (x k).sort) :=
            fun W w2 hB he => ⟨hB.ext he, (hB.ext he).cell 0, (hB.ext he).cell 1, (hB.ext he).cell 2, (hB.ext he).cell 3, (hB.ext he).cell 4⟩
          have HP := Lib.hid hp
          clear hp
          go_wp2_with fail
          refine (in_one_t _ _ (x k).id _ _ _ (by simp) c1).mono ?_
          rintro e w2 ⟨rfl, hb2⟩
          obtain ⟨HB2, q0, q1, q2, q3, q4⟩ := HP.out _ w2 ((Blk.new wr _ _).alloc _) hb2
          have E2 : Ext wr w2 := ext_trans (((Below.refl _ wr).alloc (Nat.le_refl _) _).alloc (by simp) _) hb2 (Nat.le_refl _)
          clear hb2
          by_cases c2 : 0 ≤ (x k).planted ∧ (x k).planted ≤ 100000
          · go_wp2_with fail
            refine (in_one_t _ _ (x k).planted _ _ _ (by simp) c2).mono ?_
            rintro e w3 ⟨rfl, hb3⟩
            clear q0 q1 q2 q3 q4
            obtain ⟨HB3, q0, q1, q2, q3, q4⟩ := HP.out _ w3 (HB2.alloc _) hb3
            have E3 : Ext wr w3 := ext_trans (E2.alloc E2.size _) hb3 (Nat.le_refl _)
            clear hb3
            by_cases c3 : 0 ≤ (x k).sex ∧ (x k).sex ≤ 2
            · go_wp2_with fail
              refine (in_one_t _ _ (x k).sex _ _ _ (by simp) c3).mono ?_
              rintro e w4 ⟨rfl, hb4⟩
              clear q0 q1 q2 q3 q4
              obtain ⟨HB4, q0, q1, q2, q3, q4⟩ := HP.out _ w4 (HB3.alloc _) hb4
              have E4 : Ext wr w4 := ext_trans (E3.alloc E3.size _) hb4 (Nat.le_refl _)
              clear hb4
              by_cases c4 : 0 ≤ (x k).sort ∧ (x k).sort ≤ 99
              · go_wp2_with fail
                refine (in_one_t _ _ (x k).sort _ _ _ (by simp) c4).mono ?_
                rintro e w5 ⟨rfl, hb5⟩
                clear q0 q1 q2 q3 q4
                obtain ⟨HB5, q0, q1, q2, q3, q4⟩ := HP.out _ w5 (HB4.alloc _) hb5
                have E5 : Ext wr w5 := ext_trans (E4.alloc E4.size _) hb5 (Nat.le_refl _)
                clear hb5 HB2 HB3 HB4 E2 E3 E4
                have hm5 := hm.ext E5
                have ES := ext_trans hb E5 (Nat.le_refl _)
                obtain ⟨r0, r1, r2, r3, r4⟩ := PCel.at (hcc.ext ES) hlt
                have hfin : motherOk x n k → pok x n k := fun h => ⟨c1, c2, c3, c4, h⟩
                have hbad : ¬ motherOk x n k → ¬ PValid x n := fun h hv => h (hv.2 k hlt).2.2.2.2
                have HFIN := Lib.hid hfin
                have HBAD := Lib.hid hbad
                clear hfin hbad h0 h1 h2 h3 h4 hb E5 hm
                have hz := zero_int w5
                obtain ⟨vi, ok, hv, ho, hyes, hno⟩ := places_look x n (x k).mother
                have HV := Lib.hid hv
                have HO := Lib.hid ho
                have HY := Lib.hid hyes
                have HN := Lib.hid hno
                clear hv ho hyes hno
                by_cases hm1 : (x k).mother = -1
                · have hmo : motherOk x n k := .inl hm1
                  have hq : ((x k).mother != -1) = false := by simp [hm1]
                  have HM := Lib.hid hm1
                  clear hm1
                  go_wp2_with (at_lookup; refine wpList_lookup_mapF rfl _ _ _ _ rfl 3 3 .i64 Try.underlying85 Try.underlying3 (.int .i64 0) hz w.heap.size _ hm5 rfl (x k).mother rfl ?_; rw [HV.out, HO.out])
                  go_quiet (fail)
                  go_wp2_with fail
                  go_roundw
                  case rel =>
                    refine ⟨k + 1, by omega, by go_num, rfl, ⟨by simp [nextOf]; omega, by simp [nextOf]; omega⟩, ?_, hm5, below_drewN ES _⟩
                    intro i hi
                    rcases Nat.lt_or_ge i k with h | h
                    · exact HALL.out i h
                    · obtain rfl : i = k := by omega
                      exact HFIN.out hmo
                  case measure => simp [intOf]; omega
                · have hq : ((x k).mother != -1) = true := by simp [hm1]
                  have HM := Lib.hid hm1
                  clear hm1
                  cases ok with
                  | false =>
                    have hn0 := HN.out rfl
                    have hbadm : ¬ motherOk x n k := by
                      rintro (h | ⟨m, h, _⟩)
                      · exact HM.out h
                      · rw [hn0] at h; cases h
                    clear hn0
                    go_wp2_with (at_lookup; refine wpList_lookup_mapF rfl _ _ _ _ rfl 3 3 .i64 Try.underlying85 Try.underlying3 (.int .i64 0) hz w.heap.size _ hm5 rfl (x k).mother rfl ?_; rw [HV.out, HO.out])
                    go_quiet (fail)
                    go_wp2_with fail
                    go_ret
                    exact ⟨70, rfl, .inr ⟨rfl, HBAD.out hbadm⟩, below_drewN ES _⟩
                  | true =>
                    obtain ⟨m, hlm, rfl⟩ := HY.out rfl
                    have hmn := lastIx_lt hlm
                    obtain ⟨s0, s1, s2, s3, s4⟩ := PCel.at (hcc.ext ES) hmn
                    have HLM := Lib.hid hlm
                    clear hlm
                    by_cases hpl : (x k).planted < wrap64 ((x m).planted + 1000)
                    · have hbadm : ¬ motherOk x n k := by
                        rintro (h | ⟨m', h, h'⟩)
                        · exact HM.out h
                        · rw [HLM.out] at h; cases h; exact h' hpl
                      go_wp2_with (at_lookup; refine wpList_lookup_mapF rfl _ _ _ _ rfl 3 3 .i64 Try.underlying85 Try.underlying3 (.int .i64 0) hz w.heap.size _ hm5 rfl (x k).mother rfl ?_; rw [HV.out, HO.out])
                      go_quiet (fail)
                      go_wp2_with fail
                      go_ret
                      exact ⟨70, rfl, .inr ⟨rfl, HBAD.out hbadm⟩, below_drewN ES _⟩
                    · have hmo : motherOk x n k := .inr ⟨m, HLM.out, hpl⟩
                      go_wp2_with (at_lookup; refine wpList_lookup_mapF rfl _ _ _ _ rfl 3 3 .i64 Try.underlying85 Try.underlying3 (.int .i64 0) hz w.heap.size _ hm5 rfl (x k).mother rfl ?_; rw [HV.out, HO.out])
                      go_quiet (fail)
                      go_wp2_with fail
                      go_roundw
                      case rel =>
                        refine ⟨k + 1, by omega, by go_num, rfl, ⟨by simp [nextOf]; omega, by simp [nextOf]; omega⟩, ?_, hm5, below_drewN ES _⟩
                        intro i hi
                        rcases Nat.lt_or_ge i k with h | h
                        · exact HALL.out i h
                        · obtain rfl : i = k := by omega
                          exact HFIN.out hmo
                      case measure => simp [intOf]; omega
              · go_wp2_with fail
                refine (in_one_f _ _ (x k).sort _ _ _ (by simp) c4).mono ?_
                rintro e w5 ⟨rfl, hb5⟩
                go_wp2_with fail
                go_ret
                exact ⟨70, rfl, .inr ⟨rfl, fun h => c4 (h.2 k hlt).2.2.2.1⟩, ext_trans hb (ext_trans (E4.alloc E4.size _) hb5 (Nat.le_refl _)) (Nat.le_refl _)⟩
            · go_wp2_with fail
              refine (in_one_f _ _ (x k).sex _ _ _ (by simp) c3).mono ?_
              rintro e w4 ⟨rfl, hb4⟩
              go_wp2_with fail
              go_ret
              exact ⟨70, rfl, .inr ⟨rfl, fun h => c3 (h.2 k hlt).2.2.1⟩, ext_trans hb (ext_trans (E3.alloc E3.size _) hb4 (Nat.le_refl _)) (Nat.le_refl _)⟩
          · go_wp2_with fail
            refine (in_one_f _ _ (x k).planted _ _ _ (by simp) c2).mono ?_
            rintro e w3 ⟨rfl, hb3⟩
            go_wp2_with fail
            go_ret
            exact ⟨70, rfl, .inr ⟨rfl, fun h => c2 (h.2 k hlt).2.1⟩, ext_trans hb (ext_trans (E2.alloc E2.size _) hb3 (Nat.le_refl _)) (Nat.le_refl _)⟩
        · go_wp2_with fail
          refine (in_one_f _ _ (x k).id _ _ _ (by simp) c1).mono ?_
          rintro e w2 ⟨rfl, hb2⟩
          go_wp2_with fail
          go_ret
          refine ⟨70, rfl, .inr ⟨rfl, fun h => c1 (h.2 k hlt).1⟩, ?_⟩
          exact ext_trans ((hb.alloc hsz _).alloc (by simp; omega) _) hb2 (Nat.le_refl _)
      · go_wp2_with fail
        go_ret
        obtain rfl : k = n := by omega
        exact ⟨0, rfl, .inl ⟨rfl, by omega, HALL.out⟩, hb⟩
end Go.Proofs.Ytlapepdhkomijaa
