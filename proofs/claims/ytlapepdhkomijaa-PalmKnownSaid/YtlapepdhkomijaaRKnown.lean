/- aflajref07.Known: what is known of palms by the greatest numbers. No condition. -/
import Derived.Test.YtlapepdhkomijaaRClones2
import Derived.StillTailTactics
namespace Go.Proofs.Ytlapepdhkomijaa
open Go Go.RowKit

theorem Blk.drewN {w : World} {b : Nat} {cs : List Value} {t : TypeId} (h : Blk w b cs t) (m : Nat) : Blk (w.drewN m) b cs t := h
theorem four_cases (a b : Int) : ((a != 0) = false ∧ Hid (a = 0)) ∨ ((a != 0) = true ∧ (b != 0) = false ∧ Hid (a ≠ 0 ∧ b = 0)) ∨ ((a != 0) = true ∧ (b != 0) = true ∧ (a != b) = false ∧ Hid (a ≠ 0 ∧ b ≠ 0 ∧ a = b)) ∨
    ((a != 0) = true ∧ (b != 0) = true ∧ (a != b) = true ∧ Hid (a ≠ 0 ∧ b ≠ 0 ∧ a ≠ b)) := by
  by_cases h1 : a = 0
  · exact .inl ⟨by simp [h1], h1⟩
  · by_cases h2 : b = 0
    · exact .inr (.inl ⟨by simp [h1], by simp [h2], h1, h2⟩)
    · by_cases h3 : a = b
      · exact .inr (.inr (.inl ⟨by simp [h1], by simp [h2], by simp [h3], h1, h2, h3⟩))
      · exact .inr (.inr (.inr ⟨by simp [h1], by simp [h2], by simp [h3], h1, h2, h3⟩))
def maxL (s : Int) (l : List Int) : Int := l.foldl max s
noncomputable def rkp (x : Nat → Pm) (i : Nat) (l : List Nat) : Pm := { x i with sex := maxL (x i).sex (l.map fun k => (x k).sex), sort := maxL (x i).sort (l.map fun k => (x k).sort) }
noncomputable def rky (x : Nat → Pm) (n i : Nat) : Pm := rkp x i (selN (Tc x n i) n)
inductive RKnownPost (x : Nat → Pm) (n : Nat) (B : Nat) (w' : World) (u : Value) (at' e : Int) : Prop
  | bad (h : ¬ PValid x n) (ha : at' = 0) (he : e = 70) (hu : u = .slice none 0 0)
  | clash (h : PValid x n) (i : Nat) (hi : i < n) (hc : Clash x n i) (hall : ∀ j < i, ¬ Clash x n j) (ha : at' = i) (he : e = 71) (hu : u = .slice none 0 0)
  | ok (h : PValid x n) (hall : ∀ j < n, ¬ Clash x n j) (ha : at' = 0) (he : e = 0) (hu : OwnS B w' 43 5 u n (pf (rky x n)))
def RKnownP (x : Nat → Pm) (n : Nat) (w : World) (e : Ending) (w' : World) : Prop := ∃ u a r, e = .returned (.tuple #[u, .int .i64 a, .int .i64 r]) ∧ RKnownPost x n w.heap.size w' u a r ∧ Ext w w'

set_option maxRecDepth 100000 in
set_option maxHeartbeats 8000000 in
theorem rknown_any (x : Nat → Pm) (n : Nat) (v : Value) (hu : ∀ i, 0 ≤ (x i).sex ∧ (x i).sex ≤ 255) (w : World) (hs : PSL w v n x) :
    Calls Try.prog 16 #[v] w (RKnownP x n w) := by
  have hck := rcheck_any v n x hu w hs
  have hcl := fun i hi w' (e : Ext w w') hv h24 => rclones_any x n v i hi w' (hs.ext e) hv h24
  have HCL := Lib.hid hcl
  clear hcl
  obtain ⟨a, c, rfl, hn, hc⟩ := hs
  have HC := Lib.hid hc
  have HU := Lib.hid hu
  obtain ⟨i0, hi0, hz0, hz1, hz2⟩ := info_parts info_palm
  clear hc hu
  unfold maxLen at hn
  go_enter Try.func16, Try.ntmps16
  go_wp2_with fail
  refine hck.mono ?_
  clear hck
  rintro e w1 ⟨r, rfl, hr, e1⟩
  rcases hr with ⟨rfl, hv⟩ | ⟨rfl, hv⟩
  · have h24 := hv.1
    have HRV := Lib.hid (RV_of hv)
    have HV := Lib.hid hv
    clear hv
    go_wp2_with fail
    go_loopw [6] (fun q wr => ∃ k : Nat, k ≤ n ∧ q = .int .i64 k ∧ Ext w wr ∧ (∀ j < k, ¬ Clash x n j)) (fun q _ => n - (intOf q).toNat)
    case atStart => exact ⟨0, by omega, rfl, e1, by omega⟩
    case round =>
      obtain ⟨k, hk, rfl, eR, hcl⟩ := hrel
      have HCLA := Lib.hid hcl
      clear hcl
      by_cases hlt : k < n
      · obtain ⟨b, off, rfl, hcc⟩ := HC.out (by omega)
        have HCC := Lib.hid hcc
        clear hcc
        go_wp2_with fail
        refine (HCL.out k hlt _ eR HRV.out h24).mono ?_
        rintro e w3 ⟨g, c', S, rfl, hg, hR, hS, e3⟩
        have e13 := ext_trans eR e3 (Nat.le_refl _)
        have HS := Lib.hid hS
        have HR := Lib.hid hR
        clear hS hR
        go_wp2_with fail
        obtain ⟨wo, hwo⟩ : ∃ wo : World, wo = wr := ⟨_, rfl⟩
        subst hwo
        go_loopw [8] (fun q W => ∃ j : Nat, j ≤ k ∧ q = .int .i64 j ∧ Ext w3 W ∧ (∀ i < j, Reach x n k i → ¬ conf x k i)) (fun q _ => k - (intOf q).toNat)
        case atStart => exact ⟨0, by omega, rfl, Below.refl _ _, by omega⟩
        case round =>
          obtain ⟨j, hj, rfl, eW, hnc⟩ := hrel
          have HNC := Lib.hid hnc
          clear hnc
          have eW' := ext_trans e13 eW (Nat.le_refl _)
          by_cases hjl : j < k
          · have c1 := (HR.out.ext eW).cell (show j < n by omega) (show 0 < 1 by omega)
            simp only [Nat.mul_one, Nat.add_zero, bf] at c1
            have hjn : j < n := by omega
            cases hT : S j with
            | false =>
              rw [hT] at c1
              have HT := Lib.hid hT
              clear hT
              go_wp2_with fail
              go_roundw
              case rel =>
                refine ⟨j + 1, by omega, by go_num, eW, fun i hi hr => ?_⟩
                rcases Nat.lt_or_ge i j with h | h
                · exact HNC.out i h hr
                · obtain rfl : i = j := by omega
                  have := (HS.out i hjn).2 hr
                  rw [HT.out] at this; cases this
              case measure => simp [intOf]; omega
            | true =>
              rw [hT] at c1
              have HT := Lib.hid hT
              clear hT
              obtain ⟨-, -, -, p3, p4⟩ := PCel.at (HCC.out.ext eW') hlt
              obtain ⟨-, -, -, q3, q4⟩ := PCel.at (HCC.out.ext eW') hjn
              go_upto_region 12 with (fail)
              obtain ⟨cb, hcb⟩ : ∃ cb : Bool, cb = true ↔ conf x k j := ⟨@decide (conf x k j) (Classical.propDecidable _), by simp⟩
              have HCB := Lib.hid hcb
              clear hcb
              go_cut [93] (fun s93 wx => s93 = .bool cb ∧ ∃ m, wx = wr.drewN m)
              case first =>
                refine wp_region_quiet_lit (by kernel_rfl) (by kernel_rfl) ?_
                have hsp := four_cases (x k).sex (x j).sex
                have hsq := four_cases (x k).sort (x j).sort
                rcases hsp with ⟨hq1, E1⟩ | ⟨hq1, hq2, E1⟩ | ⟨hq1, hq2, hq3, E1⟩ | ⟨hq1, hq2, hq3, E1⟩
                all_goals
                  rcases hsq with ⟨hr1, F1⟩ | ⟨hr1, hr2, F1⟩ | ⟨hr1, hr2, hr3, F1⟩ | ⟨hr1, hr2, hr3, F1⟩
                all_goals
                  repeat (first | go_big_quiet_step (fail) | quiet_step (fail))
                  refine wpQuiet_nil ?_; intro _ hw'; obtain ⟨nq, hw''⟩ := hw'; subst hw''
                  go_wp2_with fail
                  go_meet
                  refine ⟨congrArg Value.bool ?_, nq, rfl⟩
                  have e1 := E1.out
                  have f1 := F1.out
                  rw [Bool.eq_iff_iff, HCB.out]
                  unfold conf
                  clear HNC HCLA
                  simp
                  omega
              case rest =>
                obtain ⟨rfl, m, rfl⟩ := hcut
                cases cb with
                | true =>
                  have hcf := HCB.out.1 rfl
                  have HCF := Lib.hid hcf
                  clear hcf
                  go_wp2_with fail
                  go_ret3
                  exact ⟨_, _, _, rfl, .clash ((valid_iff HU.out).2 HV.out) k hlt ⟨j, hjl, (HS.out j hjn).1 HT.out, HCF.out⟩ HCLA.out rfl rfl rfl, below_drewN eW' _⟩
                | false =>
                  have hnc2 : ¬ conf x k j := fun h => by have := HCB.out.2 h; cases this
                  have HNC2 := Lib.hid hnc2
                  clear hnc2
                  go_wp2_with fail
                  go_roundw
                  case rel =>
                    refine ⟨j + 1, by omega, by go_num, below_drewN eW _, fun i hi hr => ?_⟩
                    rcases Nat.lt_or_ge i j with h | h
                    · exact HNC.out i h hr
                    · obtain rfl : i = j := by omega
                      exact HNC2.out
                  case measure => simp [intOf]; omega
          · obtain rfl : j = k := by omega
            go_wp2_with fail
            go_roundw
            case rel =>
              refine ⟨j + 1, by omega, by go_num, eW', fun i hi => ?_⟩
              rcases Nat.lt_or_ge i j with h | h
              · exact HCLA.out i h
              · obtain rfl : i = j := by omega
                rintro ⟨s, h1, h2, h3⟩
                exact HNC.out s h1 h2 h3
            case measure => simp [intOf]; omega
      · obtain rfl : k = n := by omega
        have hv' := (valid_iff HU.out).2 HV.out
        have HV' := Lib.hid hv'
        clear hv'
        go_wp2_with fail
        go_loopw [9, 10] (fun u q W => ∃ j : Nat, j ≤ k ∧ q = .int .i64 j ∧ W.ownsRow w.heap.size 43 5 u j (flat 5 (pf (rky x k)) j) ∧ Ext w W) (fun _ q _ => k - (intOf q).toNat)
        case atStart => exact ⟨0, by omega, rfl, World.ownsRow_nil _ _ _ _, eR⟩
        case round =>
          obtain ⟨j, hj, rfl, hown, eW⟩ := hrel
          by_cases hjl : j < k
          · obtain ⟨b, off, rfl, hcc⟩ := HC.out (by omega)
            have HCC := Lib.hid hcc
            obtain ⟨p0, p1, p2, p3, p4⟩ := PCel.at (hcc.ext eW) hjl
            have HOWN := Lib.hid hown
            clear hcc hown
            go_wp2_with fail
            refine (HCL.out j hjl _ (eW.alloc eW.size _) HRV.out h24).mono ?_
            rintro e w3 ⟨g, c', S, rfl, hg, hR, hS, e3⟩
            have HS := Lib.hid hS
            have e03 := ext_trans (eW.alloc eW.size _) e3 (Nat.le_refl _)
            have hB := (Blk.new wr [.int .i64 (x j).id, .int .i64 (x j).mother, .int .i64 (x j).planted, .int .u8 (x j).sex, .int .i64 (x j).sort] 43).ext e3
            have hW3 : Below wr.heap.size wr w3 := ((Below.refl _ wr).alloc (Nat.le_refl _) _).trans (e3.mono (by simp))
            have hg' : wr.heap.size < g := Nat.lt_of_succ_le (by simpa using hg)
            have HOWN2 := Lib.hid (World.ownsRow.lt HOWN.out)
            clear hS p0 p1 p2 p3 p4 e3 hg
            go_wp2_with fail
            obtain ⟨wo, hwo⟩ : ∃ wo : World, wo = wr := ⟨_, rfl⟩
            subst hwo
            go_loopw [13] (fun q W => ∃ m : Nat, m ≤ k ∧ q = .int .i64 m ∧ Below wo.heap.size wo W ∧ Row W g 4 1 k (bf S) ∧
                Blk W wo.heap.size [.int .i64 (x j).id, .int .i64 (x j).mother, .int .i64 (x j).planted, .int .u8 (rkp x j (selN S m)).sex, .int .i64 (rkp x j (selN S m)).sort] 43) (fun q _ => k - (intOf q).toNat)
            case atStart => exact ⟨0, by omega, rfl, hW3, hR, hB⟩
            case round =>
              obtain ⟨m, hm, rfl, hE, hR', hB'⟩ := hrel
              clear hB hR hW3
              by_cases hml : m < k
              · have c1 := hR'.cell hml (show 0 < 1 by omega)
                simp only [Nat.mul_one, Nat.add_zero, bf] at c1
                cases hT : S m with
                | false =>
                  rw [hT] at c1
                  have HT := Lib.hid hT
                  clear hT
                  go_wp2_with fail
                  go_roundw
                  case rel => exact ⟨m + 1, by omega, by go_num, hE, hR', by simpa [selN, HT.out] using hB'⟩
                  case measure => simp [intOf]; omega
                | true =>
                  rw [hT] at c1
                  have HT := Lib.hid hT
                  have q3 := hB'.cell 3
                  have q4 := hB'.cell 4
                  have f3 := hB'.froz 3
                  have f4 := hB'.froz 4
                  have hbl := hB'.lt
                  have eW2 : Ext w wr := eW.trans (hE.mono eW.size)
                  obtain ⟨-, -, -, p3, p4⟩ := PCel.at (HCC.out.ext eW2) hml
                  have HB' := Lib.hid hB'
                  have HR' := Lib.hid hR'
                  clear hT hB' hR'
                  generalize hsx : (rkp x j (selN S m)).sex = sx at *
                  generalize hso : (rkp x j (selN S m)).sort = so at *
                  have HSX := Lib.hid hsx
                  have HSO := Lib.hid hso
                  clear hsx hso
                  go_upto_region 24 with (fail)
                  go_cut [] (fun wx => Blk wx wo.heap.size [.int .i64 (x j).id, .int .i64 (x j).mother, .int .i64 (x j).planted, .int .u8 (max sx (x m).sex), .int .i64 so] 43 ∧ Below wo.heap.size wo wx ∧ Row wx g 4 1 k (bf S))
                  case first =>
                    go_still_tail 9, (by kernel_rfl)
                    go_wp2_with fail
                    all_goals
                      go_meet
                      refine ⟨?_, (hE.setCell (Nat.le_refl _) _).drew, (HR'.out.setO (by omega) _ _)⟩
                      refine Blk.drew ?_
                      first
                        | (rw [show max sx (x m).sex = (x m).sex from by omega]; exact HB'.out.set 3 _)
                        | (rw [show max sx (x m).sex = sx from by omega]; exact HB'.out.set 3 _)
                  case rest =>
                    obtain ⟨hB2, hE2, hR2⟩ := hcut
                    have HB2 := Lib.hid hB2
                    have HR2 := Lib.hid hR2
                    clear hE q3 q4 f3 f4 hbl eW2 p3 p4 c1
                    have q4 := hB2.cell 4
                    have f4 := hB2.froz 4
                    have hbl := hB2.lt
                    have eW2 : Ext w wc := eW.trans (hE2.mono eW.size)
                    obtain ⟨-, -, -, -, p4⟩ := PCel.at (HCC.out.ext eW2) hml
                    clear hB2 hR2
                    go_upto_region 25 with (fail)
                    have hnew : rkp x j (selN S (m + 1)) = { rkp x j (selN S m) with sex := max sx (x m).sex, sort := max so (x m).sort } := by
                      rw [← HSX.out, ← HSO.out]
                      simp [rkp, selN, HT.out, maxL]
                    have HNEW := Lib.hid hnew
                    clear hnew
                    go_still_tail 9, (by kernel_rfl)
                    go_wp2_with fail
                    all_goals
                      go_roundw
                      case rel =>
                        refine ⟨m + 1, by omega, by go_num, (hE2.setCell (Nat.le_refl _) _).drew, (HR2.out.setO (by omega) _ _), ?_⟩
                        rw [HNEW.out]
                        refine Blk.drew ?_
                        first
                          | (simp only [show max so (x m).sort = (if so < (x m).sort then (x m).sort else so) from by split <;> omega]; exact HB2.out.set 4 _)
                          | (simp only [show max so (x m).sort = (x m).sort from by omega]; exact HB2.out.set 4 _)
                          | (simp only [show max so (x m).sort = so from by omega]; exact HB2.out.set 4 _)
                      case measure => simp [intOf]; omega
              · obtain rfl : m = k := by omega
                have hST : selN S m = selN (Tc x m j) m := selN_congr m (fun i hi => by
                  have h1 := HS.out i hi
                  have h2 := Tc_iff x m j i
                  cases hs : S i <;> cases ht : Tc x m j i <;> simp_all)
                rw [hST] at hB'
                have hq : rkp x j (selN (Tc x m j) m) = rky x m j := rfl
                rw [hq] at hB'
                have q0 := hB'.cell 0
                have q1 := hB'.cell 1
                have q2 := hB'.cell 2
                have q3 := hB'.cell 3
                have q4 := hB'.cell 4
                have eW2 : Ext w wr := eW.trans (hE.mono eW.size)
                have hown : wr.ownsRow w.heap.size 43 5 u9 j (flat 5 (pf (rky x m)) j) := HOWN.out.kept (row := none) ⟨hE.os, hE.tape, hE.output, hE.size, fun k hk _ => hE.block k hk⟩ (by cases hv : u9.ownBlock <;> simp)
                have hflat : ∀ W : World, ∀ i u, [Value.int .i64 (x j).id, .int .i64 (x j).mother, .int .i64 (x j).planted, .int .u8 (rky x m j).sex, .int .i64 (rky x m j).sort][i]? = some u →
                    (W.alloc (.cells #[.int .i64 (x j).id, .int .i64 (x j).mother, .int .i64 (x j).planted, .int .u8 (rky x m j).sex, .int .i64 (rky x m j).sort] 43)).cell? ((⟨W.heap.size, 0, none⟩ : Addr).add i) = some u := fun W i u hi => by
                  rw [addr_add, Nat.zero_add, (Blk.new W [_, _, _, _, _] 43).cell i]; exact hi
                have hfl : flat 5 (pf (rky x m)) (j + 1) = flat 5 (pf (rky x m)) j ++ [Value.int .i64 (x j).id, .int .i64 (x j).mother, .int .i64 (x j).planted, .int .u8 (rky x m j).sex, .int .i64 (rky x m j).sort] := rfl
                have HFL := Lib.hid hfl
                have HF := Lib.hid hflat
                have HRS := Lib.hid hST
                clear hST hq hfl hflat
                go_wp2_with (at_builtin; refine wpList_append_own _ rfl _ _ 22 rfl w.heap.size 43 i0 _ 5 40 Try.underlying22 hi0 hz0 hz1 hz2 rfl (by decide) _ _ _ rfl (hown.alloc _) ⟨wr.heap.size, 0, none⟩ 1 1 [Value.int .i64 (x j).id, .int .i64 (x j).mother, .int .i64 (x j).planted, .int .u8 (rky x m j).sex, .int .i64 (rky x m j).sort] rfl rfl ?c1 ?c2 ?c3 ?c4 ?c5 ?_; rotate_right; intro v' w4 hown' hgrow _)
                case c1 => exact HF.out wr
                case c2 => simp [Value.oneCell']
                case c3 => unfold maxLen; omega
                case c4 => omega
                case c5 => have := eW2.size; simp; omega
                go_roundw
                case rel => exact ⟨j + 1, by omega, by go_num, by rw [HFL.out]; exact hown', (eW2.alloc eW2.size _).grown hgrow (by have := eW2.size; simp; omega) (fun i hi => (World.ownsRow.lt hown i hi).1)⟩
                case measure => simp [intOf]; omega
          · obtain rfl : j = k := by omega
            have hO := OwnS.of_owns (by decide) hown (by unfold maxLen; omega)
            have HO := Lib.hid hO
            clear hO hown
            go_wp2_with fail
            go_ret3
            exact ⟨_, _, _, rfl, .ok HV'.out HCLA.out rfl rfl HO.out, eW⟩
  · go_wp2_with fail
    go_ret3
    exact ⟨_, _, _, rfl, .bad (fun h => hv ((valid_iff HU.out).1 h)) rfl rfl rfl, e1⟩
end Go.Proofs.Ytlapepdhkomijaa
