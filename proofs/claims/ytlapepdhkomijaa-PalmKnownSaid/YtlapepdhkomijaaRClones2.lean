/- aflajref07.Clones: as palm.Clones says. No condition. -/
import Derived.Test.YtlapepdhkomijaaPValid
namespace Go.Proofs.Ytlapepdhkomijaa
open Go Go.RowKit

theorem selN_len (T : Nat → Bool) : ∀ n, (selN T n).length ≤ n
  | 0 => Nat.le_refl _
  | n + 1 => by have := selN_len T n; unfold selN; split <;> simp <;> omega
def RClonesP (x : Nat → Pm) (n : Nat) (id : Int) (w : World) (e : Ending) (w' : World) : Prop := ∃ u r, e = .returned (.tuple #[u, .int .i64 r]) ∧ ClonesPost x n id w' u r ∧ Ext w w'

set_option maxRecDepth 100000 in
set_option maxHeartbeats 4000000 in
theorem rclones2_any (x : Nat → Pm) (n : Nat) (v : Value) (id : Int) (hu : ∀ i, 0 ≤ (x i).sex ∧ (x i).sex ≤ 255) (w : World) (hs : PSL w v n x) :
    Calls Try.prog 18 #[v, .int .i64 id] w (RClonesP x n id w) := by
  have hck := rcheck_any v n x hu w hs
  have hat := fun w' (h : Ext w w') => rat_any v n x id w' (hs.ext h)
  have hcl := fun i hi w' (e : Ext w w') hv h24 => rclones_any x n v i hi w' (hs.ext e) hv h24
  have HAT := Lib.hid hat
  have HCL := Lib.hid hcl
  clear hat hcl
  obtain ⟨a, c, rfl, hn, hc⟩ := hs
  have HC := Lib.hid hc
  have HU := Lib.hid hu
  obtain ⟨i0, hi0, hz0, hz1, hz2⟩ := info_parts info_int
  clear hc hu
  unfold maxLen at hn
  go_enter Try.func18, Try.ntmps18
  go_wp2_with fail
  refine hck.mono ?_
  clear hck
  rintro e w1 ⟨r, rfl, hr, e1⟩
  rcases hr with ⟨rfl, hv⟩ | ⟨rfl, hv⟩
  · have h24 := hv.1
    go_wp2_with fail
    refine (HAT.out _ e1).mono ?_
    rintro e w2 ⟨r, rfl, hr, rfl⟩
    rcases hr with ⟨rfl, hnone⟩ | ⟨i, hi, rfl, hid, hfst⟩
    · have HN := Lib.hid hnone
      clear hnone
      go_wp2_with fail
      go_ret2
      exact ⟨_, _, rfl, .none ((valid_iff HU.out).2 hv) HN.out rfl (SLI.nil _), e1⟩
    · have HID := Lib.hid hid
      clear hfst hid
      obtain ⟨b, off, rfl, hcc⟩ := HC.out (by omega)
      have HCC := Lib.hid hcc
      clear hcc
      go_wp2_with fail
      refine (HCL.out i hi _ e1 (RV_of hv) h24).mono ?_
      rintro e w3 ⟨g, c', S, rfl, hg, hR, hS, e3⟩
      have e13 := ext_trans e1 e3 (Nat.le_refl _)
      have hgl := hR.lt
      have HS := Lib.hid hS
      have HR := Lib.hid hR
      clear hS hR
      go_wp2_with fail
      go_loopw [9, 10] (fun u q wr => ∃ k : Nat, k ≤ n ∧ q = .int .i64 k ∧ OwnI w3.heap.size wr u ((selN S k).map fun k => (x k).id) ∧ Ext w3 wr) (fun _ q _ => n - (intOf q).toNat)
      case atStart => exact ⟨0, by omega, rfl, OwnI.nil _ _, Below.refl _ _⟩
      case round =>
        obtain ⟨k, hk, rfl, hown, eR⟩ := hrel
        have eR' := ext_trans e13 eR (Nat.le_refl _)
        by_cases hlt : k < n
        · have c1 := (HR.out.ext eR).cell hlt (show 0 < 1 by omega)
          simp only [Nat.mul_one, Nat.add_zero, bf] at c1
          have hlen := selN_len S k
          cases hT : S k with
          | false =>
            rw [hT] at c1
            have HT := Lib.hid hT
            clear hT
            go_wp2_with fail
            go_roundw
            case rel => exact ⟨k + 1, by omega, by go_num, by simpa [selN, HT.out] using hown, eR⟩
            case measure => simp [intOf]; omega
          | true =>
            rw [hT] at c1
            have HT := Lib.hid hT
            obtain ⟨p0, -, -, -, -⟩ := PCel.at (HCC.out.ext eR') hlt
            have hsz := eR.size
            clear hT
            go_wp2_with (at_builtin; refine wpList_append_own _ rfl _ _ 25 rfl w3.heap.size 3 i0 (.int .i64 0) 1 8 Try.underlying25 hi0 hz0 hz1 hz2 rfl (by decide) _ _ _ rfl (hown.alloc _) ⟨wr.heap.size, 0, none⟩ 1 1 [.int .i64 (x k).id] rfl rfl ?c1 ?c2 ?c3 ?c4 ?c5 ?_; rotate_right; intro v' w4 hown' hgrow _)
            case c1 => exact cell_one_new _ _ _
            case c2 => simp [Value.oneCell']
            case c3 => simp only [List.length_map]; unfold maxLen; omega
            case c4 => simp only [List.length_map]; omega
            case c5 => simp; omega
            go_roundw
            case rel =>
              refine ⟨k + 1, by omega, by go_num, by simpa [OwnI, selN, HT.out] using hown', (eR.alloc hsz _).grown hgrow (by simp; omega) (fun j hj => (World.ownsRow.lt hown j hj).1)⟩
            case measure => simp [intOf]; omega
        · obtain rfl : k = n := by omega
          have hlen := selN_len S k
          have hO := hown.owns (by simp only [List.length_map]; unfold maxLen; omega)
          have HO := Lib.hid hO
          clear hO hown
          go_wp2_with fail
          go_ret2
          have hST : selN S k = selN (Tc x k i) k := selN_congr k (fun j hj => by
            have h1 := HS.out j hj
            have h2 := Tc_iff x k i j
            cases hs : S j <;> cases ht : Tc x k i j <;> simp_all)
          exact ⟨_, _, rfl, .some ((valid_iff HU.out).2 hv) i hi HID.out (Tc x k i) (Tc_iff x k i) rfl (by rw [← hST]; exact HO.out.sl), eR'⟩
  · go_wp2_with fail
    go_ret2
    exact ⟨_, _, rfl, .bad (fun h => hv ((valid_iff HU.out).1 h)) rfl (SLI.nil _), e1⟩
end Go.Proofs.Ytlapepdhkomijaa
