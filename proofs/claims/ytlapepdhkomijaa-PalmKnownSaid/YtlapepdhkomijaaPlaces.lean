/- Palms as cells; the map of their places (palm.places). No condition. -/
import Derived.Test.YtlapepdhkomijaaProg
import Derived.Test.YtlapepdhkomijaaMap
namespace Go.Proofs.Ytlapepdhkomijaa
open Go Go.RowKit

structure Pm where
  id : Int
  mother : Int
  planted : Int
  sex : Int
  sort : Int
def pcell (p : Pm) : Nat → Value
  | 0 => .int .i64 p.id
  | 1 => .int .i64 p.mother
  | 2 => .int .i64 p.planted
  | 3 => .int .u8 p.sex
  | _ => .int .i64 p.sort
def pval (p : Pm) : Value := .agg #[.int .i64 p.id, .int .i64 p.mother, .int .i64 p.planted, .int .u8 p.sex, .int .i64 p.sort]
abbrev PCel (w : World) (b off n : Nat) (x : Nat → Pm) : Prop := Cel w b off 5 n (fun i j => pcell (x i) j)
abbrev PSL (w : World) (v : Value) (n : Nat) (x : Nat → Pm) : Prop := SL w v 5 n (fun i j => pcell (x i) j)
theorem PCel.at {w : World} {b off n : Nat} {x : Nat → Pm} (h : PCel w b off n x) {k : Nat} (hk : k < n) :
    w.cell? ⟨b, off + k * 5, none⟩ = some (.int .i64 (x k).id) ∧ w.cell? ⟨b, off + k * 5 + 1, none⟩ = some (.int .i64 (x k).mother) ∧ w.cell? ⟨b, off + k * 5 + 2, none⟩ = some (.int .i64 (x k).planted) ∧
    w.cell? ⟨b, off + k * 5 + 3, none⟩ = some (.int .u8 (x k).sex) ∧ w.cell? ⟨b, off + k * 5 + 4, none⟩ = some (.int .i64 (x k).sort) :=
  ⟨h k hk 0 (by omega), h k hk 1 (by omega), h k hk 2 (by omega), h k hk 3 (by omega), h k hk 4 (by omega)⟩

def lastIx (x : Nat → Pm) (k : Int) : Nat → Option Nat
  | 0 => none
  | n + 1 => if k = (x n).id then some n else lastIx x k n
def placesF (x : Nat → Pm) (n : Nat) (k : Int) : Option Value := (lastIx x k n).map fun i => .int .i64 i
theorem zero_int (w : World) : (zeroValue 3).run Try.prog w = .ok (.int .i64 0) w := by kernel_rfl

set_option maxHeartbeats 400000 in
theorem places_any (v : Value) (n : Nat) (x : Nat → Pm) (w : World) (hs : PSL w v n x) :
    Calls Try.prog 50 #[v] w fun e w' => e = .returned (.map (some w.heap.size)) ∧ MapF w' w.heap.size .i64 (placesF x n) ∧ Ext w w' := by
  obtain ⟨a, c, rfl, hn, hc⟩ := hs
  unfold maxLen at hn
  have hmm := @run_makeMap Try.prog
  go_enter Try.func50, Try.ntmps50
  go_wp2_with fail
  go_loopw [9] (fun i wr => ∃ k : Nat, k ≤ n ∧ i = .int .i64 k ∧ MapF wr w.heap.size .i64 (placesF x k) ∧ Ext w wr) (fun i _ => n - (intOf i).toNat)
  case atStart => exact ⟨0, by omega, rfl, MapF.new w _, (Below.refl _ _).alloc (Nat.le_refl _) _⟩
  case round =>
    obtain ⟨k, hk, rfl, hm, hb⟩ := hrel
    by_cases hlt : k < n
    · obtain ⟨b, off, rfl, hcc⟩ := hc (by omega)
      obtain ⟨h0, h1, h2, h3, h4⟩ := PCel.at (hcc.ext hb) hlt
      have hsz := hb.size
      have hml := hm.lt
      clear hc hcc hmm
      go_wp2_with (at_mapUpdate; refine wpList_mapUpdate_mapF rfl _ _ _ _ rfl 3 3 .i64 Try.underlying85 Try.underlying3 w.heap.size _ (hm.alloc _) rfl (x k).id rfl (.int .i64 k) rfl ?_; intro w1 hm1 hg1)
      go_roundw
      case rel =>
        refine ⟨k + 1, by omega, by go_num, ?_, ((hb.alloc hsz _).grown hg1 (by simp; omega) (by intro j hj; cases hj; omega))⟩
        exact hm1.congr fun j => by simp only [placesF, lastIx]; split <;> rfl
      case measure => simp [intOf]; omega
    · go_wp2_with fail
      go_ret
      obtain rfl : k = n := by omega
      exact ⟨rfl, hm, hb⟩
end Go.Proofs.Ytlapepdhkomijaa
