/- palm.clones: the indices of all that can be reached, in increasing order, in new memory. No condition. -/
import Derived.Test.YtlapepdhkomijaaClones
import Derived.Maps.AppendAt
import Derived.Laws.EntriesVeiled
namespace Go.Proofs.Ytlapepdhkomijaa
open Go Go.RowKit

theorem info_int : (Try.prog.info? 3).map (fun i => (i.zero, i.size, i.bytes)) = some (some (.int .i64 0), 1, 8) := by kernel_rfl
def sel (T : Nat → Bool) : Nat → List Int
  | 0 => []
  | n + 1 => sel T n ++ if T n then [(n : Int)] else []
theorem sel_len (T : Nat → Bool) : ∀ n, (sel T n).length ≤ n
  | 0 => Nat.le_refl _
  | n + 1 => by have := sel_len T n; unfold sel; split <;> simp <;> omega
/-- an int row of the call's own -/
def OwnI (base : Nat) (w : World) (v : Value) (l : List Int) : Prop := w.ownsRow base 3 1 v l.length (l.map fun i => Value.int .i64 i)
theorem OwnI.below {base : Nat} {w w' : World} {v : Value} {l : List Int} (h : OwnI base w v l) (e : Ext w w') : OwnI base w' v l := by
  have hl := World.ownsRow.lt h
  refine World.ownsRow.kept h (row := none) ⟨e.os, e.tape, e.output, e.size, fun k hk _ => e.block k hk⟩ ?_
  cases hv : v.ownBlock <;> simp
/-- no elements found yet -/
theorem OwnI.nil (base : Nat) (w : World) : OwnI base w (.slice none 0 0) [] := World.ownsRow_nil _ _ _ _

theorem OwnI.mono {base base' : Nat} {w : World} {v : Value} {l : List Int} (h : OwnI base w v l) (hb : base' ≤ base) : OwnI base' w v l := by
  refine ⟨h.1, ?_⟩
  rcases h.2 with h | ⟨g, cap, cur, a, b, c⟩
  · exact .inl h
  · exact .inr ⟨g, cap, cur, a, by omega, c⟩
theorem LookSt.below {x : Nat → Pm} {n : Nat} {w0 : World} {m b1 b2 b3 : Nat} {v : Value} {S : Nat → Bool} {w w' : World} (h : LookSt x n w0 m b1 b2 b3 v S w) {B : Nat} (e : Below B w w')
    (h1 : m < B) (h2 : b1 < B) (h3 : b2 < B) (h4 : b3 < B) (h0 : w0.heap.size ≤ B) : LookSt x n w0 m b1 b2 b3 v S w' :=
  ⟨h.hm.below e h1, h.h1.below e h2, h.h2.below e h3, h.h3.below e h4, h.ext.trans (e.mono h0)⟩
set_option maxRecDepth 100000 in
set_option maxHeartbeats 4000000 in
theorem clones_any (x : Nat → Pm) (n : Nat) (v : Value) (i : Nat) (hi : i < n) (w : World) (hs : PSL w v n x) (hn24 : n ≤ 24) :
    Calls Try.prog 48 #[v, .int .i64 i] w fun e w' => ∃ T u, e = .returned u ∧ Dfs x n (fun _ => false) i T ∧ OwnI w.heap.size w' u (sel T n) ∧ Ext w w' := by
  have hlook := look_any x n w (w.heap.size + 1) (w.heap.size + 2) w.heap.size (w.heap.size + 3) v hs (by omega) (by omega) (by omega) (by omega) (by omega) (cnt (fun _ => false) n) (fun _ => false) i
  have HLOOK := Lib.hid hlook
  clear hlook
  obtain ⟨a, c, rfl, hn, hc⟩ := hs
  clear hc
  unfold maxLen at hn
  have hmm := @run_makeMap Try.prog
  have ent := ent_look
  obtain ⟨i0, hi0, hz0, hz1, hz2⟩ := info_parts info_int
  go_enter Try.func48, Try.ntmps48
  go_wp2_with fail
  refine (HLOOK.out _ hi (Nat.le_refl _) ⟨?_, ?_, ?_, ?_, ?_⟩).mono ?_
  · exact (((MapF.new' (w.alloc _) .i64 (by simp)).congr (fun k => (if_neg (by simp)).symm)).alloc _).alloc _
  · exact (Blk.new' ((w.alloc _).alloc _) [_] _ (by simp)).alloc _
  · exact (((Blk.new w [_] _).alloc _).alloc _).alloc _
  · exact Blk.new' (((w.alloc _).alloc _).alloc _) [_] _ (by simp)
  · exact ((((Below.refl _ w).alloc (Nat.le_refl _) _).alloc (by simp) _).alloc (by simp; omega) _).alloc (by simp; omega) _
  rintro e w1 ⟨rfl, T, st, d⟩
  have q1 := st.h1.cell 0
  have q2 := st.h2.cell 0
  clear hmm ent
  go_wp2_with fail
  go_loopw [7, 16] (fun u q wr => ∃ k : Nat, k ≤ n ∧ q = .int .i64 k ∧ OwnI (w.heap.size + 4) wr u (sel T k) ∧ LookSt x n w (w.heap.size + 1) (w.heap.size + 2) w.heap.size (w.heap.size + 3) (.slice a n c) T wr) (fun _ q _ => n - (intOf q).toNat)
  case atStart => exact ⟨0, by omega, rfl, OwnI.nil _ _, st⟩
  case round =>
    obtain ⟨k, hk, rfl, hown, stk⟩ := hrel
    by_cases hlt : k < n
    · have hz := zero_bool wr
      have p1 := stk.h1.cell 0
      have hl := gS_look n T k hlt
      have HL := Lib.hid hl
      have hlen := sel_len T k
      clear hl q1 q2
      cases hT : T k with
      | false =>
        have hT' := hT
        rw [hT] at HL
        have HT := Lib.hid hT
        clear hT hT'
        go_wp2_with (at_lookup; refine wpList_lookup_mapF rfl _ _ _ _ rfl 3 4 .i64 Try.underlying129 Try.underlying3 (.bool false) hz (w.heap.size + 1) _ stk.hm rfl (k : Int) rfl ?_; rw [HL.out])
        go_roundw
        case rel => exact ⟨k + 1, by omega, by go_num, by simpa [sel, HT.out] using hown, stk⟩
        case measure => simp [intOf]; omega
      | true =>
        rw [hT] at HL
        have HT := Lib.hid hT
        clear hT
        have hsz := stk.ext.size
        go_wp2_with (first
          | (at_lookup; refine wpList_lookup_mapF rfl _ _ _ _ rfl 3 4 .i64 Try.underlying129 Try.underlying3 (.bool false) hz (w.heap.size + 1) _ stk.hm rfl (k : Int) rfl ?_; rw [HL.out])
          | (at_builtin; refine wpList_append_own _ rfl _ _ 25 rfl (w.heap.size + 4) 3 i0 (.int .i64 0) 1 8 Try.underlying25 hi0 hz0 hz1 hz2 rfl (by decide) _ _ _ rfl (hown.alloc _) ⟨wr.heap.size, 0, none⟩ 1 1 [.int .i64 k] rfl rfl ?c1 ?c2 ?c3 ?c4 ?c5 ?_; rotate_right; intro v' w2 hown' hgrow _))
        case c1 => exact cell_one_new _ _ _
        case c2 => simp [Value.oneCell']
        case c3 => unfold maxLen; omega
        case c4 => omega
        case c5 => have := stk.h3.lt; simp; omega
        go_roundw
        case rel =>
          have e : Below (w.heap.size + 4) (wr.alloc (.cells #[.int .i64 k] 3)) w2 := (Below.refl _ _).grown hgrow (by have := stk.h3.lt; simp; omega) (fun j hj => (World.ownsRow.lt hown j hj).1)
          refine ⟨k + 1, by omega, by go_num, by simpa [OwnI, sel, HT.out] using hown', (stk.of_ext ((Below.refl _ wr).alloc (Nat.le_refl _) _)).below e (by omega) (by omega) (by omega) (by omega) (by omega)⟩
        case measure => simp [intOf]; omega
    · go_wp2_with fail
      go_ret
      obtain rfl : k = n := by omega
      exact ⟨T, _, rfl, d, hown.mono (by omega), stk.ext⟩
end Go.Proofs.Ytlapepdhkomijaa
