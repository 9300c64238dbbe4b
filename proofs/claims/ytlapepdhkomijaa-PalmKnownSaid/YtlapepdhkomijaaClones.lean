/- palm.clones and its closure: the clones of a palm are what can be reached by mothers. No condition. -/
import Derived.Test.YtlapepdhkomijaaRPCheck
namespace Go.Proofs.Ytlapepdhkomijaa
open Go Go.RowKit

def adj (x : Nat → Pm) (i k : Nat) : Prop := (x k).mother = (x i).id ∨ (x k).id = (x i).mother
inductive Reach (x : Nat → Pm) (n : Nat) (i : Nat) : Nat → Prop
  | refl : Reach x n i i
  | step {j k : Nat} : Reach x n i j → adj x j k → k < n → Reach x n i k
theorem Reach.head {x : Nat → Pm} {n i j k : Nat} (h : adj x i j) (hj : j < n) (r : Reach x n j k) : Reach x n i k := by
  induction r with
  | refl => exact .step .refl h hj
  | step _ a b ih => exact .step ih a b
theorem Reach.trans {x : Nat → Pm} {n i j k : Nat} (a : Reach x n i j) (r : Reach x n j k) : Reach x n i k := by
  induction r with
  | refl => exact a
  | step _ h b ih => exact .step ih h b
def gS (n : Nat) (S : Nat → Bool) (k : Int) : Option Value := if 0 ≤ k ∧ k < n ∧ S k.toNat = true then some (.bool true) else none
theorem gS_look (n : Nat) (S : Nat → Bool) (i : Nat) (h : i < n) : (gS n S i).getD (.bool false) = .bool (S i) := by
  unfold gS
  cases hs : S i
  · rw [if_neg (by simp [hs])]; rfl
  · rw [if_pos ⟨by omega, by omega, by simpa using hs⟩]; rfl
def setS (S : Nat → Bool) (i : Nat) : Nat → Bool := fun k => S k || k == i
theorem gS_set (n : Nat) (S : Nat → Bool) (i : Nat) (h : i < n) (j : Int) : (if j = i then some (.bool true) else gS n S j) = gS n (setS S i) j := by
  unfold gS setS
  by_cases hj : j = i
  · subst hj; rw [if_pos rfl, if_pos ⟨by omega, by omega, by simp⟩]
  · rw [if_neg hj]
    by_cases h0 : 0 ≤ j ∧ j < n
    · have : (j.toNat == i) = false := by simp; omega
      simp [this]
    · rw [if_neg (by omega), if_neg (by omega)]
/-- how many are not found yet -/
def cnt (S : Nat → Bool) : Nat → Nat
  | 0 => 0
  | n + 1 => cnt S n + if S n then 0 else 1
theorem cnt_le (S T : Nat → Bool) (h : ∀ k, S k = true → T k = true) : ∀ n, cnt T n ≤ cnt S n
  | 0 => Nat.le_refl _
  | n + 1 => by
    have := cnt_le S T h n
    have := h n
    unfold cnt
    cases hs : S n <;> cases ht : T n <;> simp_all <;> omega
theorem cnt_set (S : Nat → Bool) (i : Nat) (hi : S i = false) : ∀ n, i < n → cnt (setS S i) n + 1 ≤ cnt S n
  | 0, h => by omega
  | n + 1, h => by
    unfold cnt
    by_cases e : i = n
    · subst e
      have := cnt_le S (setS S i) (fun k hk => by simp [setS, hk]) i
      have h1 : setS S i i = true := by simp [setS]
      simp [hi, h1]; omega
    · have := cnt_set S i hi n (by omega)
      have h1 : setS S i n = S n := by
        have : (n == i) = false := by simp; omega
        simp [setS, this]
      rw [h1]; omega
structure Dfs (x : Nat → Pm) (n : Nat) (S : Nat → Bool) (i : Nat) (T : Nat → Bool) : Prop where
  old : ∀ k, S k = true → T k = true
  me : T i = true
  reach : ∀ k, T k = true → S k = true ∨ Reach x n i k
  closed : ∀ k j, T k = true → S k = false → adj x k j → j < n → T j = true

structure Part (x : Nat → Pm) (n : Nat) (S : Nat → Bool) (i : Nat) (T : Nat → Bool) (m : Nat) : Prop where
  old : ∀ k, setS S i k = true → T k = true
  reach : ∀ k, T k = true → S k = true ∨ Reach x n i k
  closed : ∀ k j, T k = true → setS S i k = false → adj x k j → j < n → T j = true
  done : ∀ j, j < m → adj x i j → T j = true
theorem Part.start (x : Nat → Pm) (n : Nat) (S : Nat → Bool) (i : Nat) : Part x n S i (setS S i) 0 := by
  refine ⟨fun _ h => h, fun k h => ?_, fun k j h1 h2 => (by rw [h1] at h2; cases h2), fun j h => by omega⟩
  simp [setS] at h
  rcases h with h | h
  · exact .inl h
  · subst h; exact .inr .refl
theorem Part.skip {x : Nat → Pm} {n : Nat} {S : Nat → Bool} {i : Nat} {T : Nat → Bool} {m : Nat} (h : Part x n S i T m) (ha : ¬ adj x i m) : Part x n S i T (m + 1) :=
  ⟨h.old, h.reach, h.closed, fun j hj hadj => by
    rcases Nat.lt_or_ge j m with h' | h'
    · exact h.done j h' hadj
    · obtain rfl : j = m := by omega
      exact absurd hadj ha⟩
theorem Part.go {x : Nat → Pm} {n : Nat} {S : Nat → Bool} {i : Nat} {T T' : Nat → Bool} {m : Nat} (h : Part x n S i T m) (ha : adj x i m) (hm : m < n) (d : Dfs x n T m T') : Part x n S i T' (m + 1) := by
  refine ⟨fun k hk => d.old k (h.old k hk), fun k hk => ?_, fun k j h1 h2 h3 h4 => ?_, fun j hj hadj => ?_⟩
  · rcases d.reach k hk with h1 | h1
    · exact h.reach k h1
    · exact .inr (Reach.head ha hm h1)
  · cases hT : T k with
    | true => exact d.old j (h.closed k j hT h2 h3 h4)
    | false => exact d.closed k j h1 hT h3 h4
  · rcases Nat.lt_or_ge j m with h' | h'
    · exact d.old j (h.done j h' hadj)
    · obtain rfl : j = m := by omega
      exact d.me
theorem Part.finish {x : Nat → Pm} {n : Nat} {S : Nat → Bool} {i : Nat} {T : Nat → Bool} (h : Part x n S i T n) : Dfs x n S i T :=
  ⟨fun k hk => h.old k (by simp [setS, hk]), h.old i (by simp [setS]), h.reach, fun k j h1 h2 h3 h4 => by
    by_cases e : k = i
    · subst e; exact h.done j h4 h3
    · refine h.closed k j h1 ?_ h3 h4
      have : (k == i) = false := by simp [e]
      simp [setS, h2, this]⟩
structure LookSt (x : Nat → Pm) (n : Nat) (w0 : World) (m b1 b2 b3 : Nat) (v : Value) (S : Nat → Bool) (w : World) : Prop where
  hm : MapF w m .i64 (gS n S)
  h1 : Blk w b1 [.map (some m)] 129
  h2 : Blk w b2 [v] 22
  h3 : Blk w b3 [.func (.func 78) #[] #[.pointer (some ⟨b1, 0, none⟩), .pointer (some ⟨b2, 0, none⟩), .pointer (some ⟨b3, 0, none⟩)]] 140
  ext : Ext w0 w
theorem LookSt.of_ext {x : Nat → Pm} {n : Nat} {w0 : World} {m b1 b2 b3 : Nat} {v : Value} {S : Nat → Bool} {w w' : World} (h : LookSt x n w0 m b1 b2 b3 v S w) (e : Ext w w') : LookSt x n w0 m b1 b2 b3 v S w' :=
  ⟨h.hm.ext e, h.h1.ext e, h.h2.ext e, h.h3.ext e, ext_trans h.ext e (Nat.le_refl _)⟩
theorem LookSt.grown {x : Nat → Pm} {n : Nat} {w0 : World} {m b1 b2 b3 : Nat} {v : Value} {S T : Nat → Bool} {w w' : World} (h : LookSt x n w0 m b1 b2 b3 v S w) (hg : w.grownBy w' (some m))
    (n1 : m ≠ b1) (n2 : m ≠ b2) (n3 : m ≠ b3) (hm0 : w0.heap.size ≤ m) (hm : MapF w' m .i64 (gS n T)) : LookSt x n w0 m b1 b2 b3 v T w' :=
  ⟨hm, (hg.block b1 h.h1.lt (by simp; omega)).trans h.h1, (hg.block b2 h.h2.lt (by simp; omega)).trans h.h2, (hg.block b3 h.h3.lt (by simp; omega)).trans h.h3, h.ext.grown hg h.ext.size (fun k e => by cases e; exact hm0)⟩
theorem LookSt.grown1 {x : Nat → Pm} {n : Nat} {w0 : World} {m b1 b2 b3 : Nat} {v : Value} {S : Nat → Bool} {w w' : World} (h : LookSt x n w0 m b1 b2 b3 v S w) (hg : w.grownBy w' (some m))
    (n1 : m ≠ b1) (n2 : m ≠ b2) (n3 : m ≠ b3) (hm0 : w0.heap.size ≤ m) : w'.cell? ⟨b1, 0, none⟩ = some (.map (some m)) ∧ w'.cell? ⟨b2, 0, none⟩ = some v ∧ w.heap.size ≤ w'.heap.size :=
  ⟨Blk.cell (cs := [.map (some m)]) ((hg.block b1 h.h1.lt (by simp; omega)).trans h.h1) 0, Blk.cell (cs := [v]) ((hg.block b2 h.h2.lt (by simp; omega)).trans h.h2) 0, hg.size⟩
theorem zero_bool (w : World) : (zeroValue 4).run Try.prog w = .ok (.bool false) w := by kernel_rfl
theorem ent_look : ∀ args w, (callFunc 78 args).run Try.prog w = .ok (.enter 78 args) w := ent_of Try.func78 (by kernel_rfl) rfl

set_option maxRecDepth 100000 in
set_option maxHeartbeats 4000000 in
theorem look_any (x : Nat → Pm) (n : Nat) (w0 : World) (m b1 b2 b3 : Nat) (v : Value) (hs : PSL w0 v n x) (hm0 : w0.heap.size ≤ m) (hb1 : w0.heap.size ≤ b1) (hb2 : w0.heap.size ≤ b2) (hb3 : w0.heap.size ≤ b3)
    (hne : m ≠ b1 ∧ m ≠ b2 ∧ m ≠ b3) :
    ∀ (N : Nat) (S : Nat → Bool) (i : Nat) (w : World), i < n → cnt S n ≤ N → LookSt x n w0 m b1 b2 b3 v S w →
    Calls Try.prog 78 #[.int .i64 i, .pointer (some ⟨b1, 0, none⟩), .pointer (some ⟨b2, 0, none⟩), .pointer (some ⟨b3, 0, none⟩)] w fun e w' => e = .returned (.tuple #[]) ∧ ∃ T, LookSt x n w0 m b1 b2 b3 v T w' ∧ Dfs x n S i T := by
  obtain ⟨a, c, rfl, hn, hc⟩ := hs
  unfold maxLen at hn
  have hfound : ∀ (S : Nat → Bool) (i : Nat) (w : World), i < n → S i = true → LookSt x n w0 m b1 b2 b3 (.slice a n c) S w →
    Calls Try.prog 78 #[.int .i64 i, .pointer (some ⟨b1, 0, none⟩), .pointer (some ⟨b2, 0, none⟩), .pointer (some ⟨b3, 0, none⟩)] w fun e w' => e = .returned (.tuple #[]) ∧ ∃ T, LookSt x n w0 m b1 b2 b3 (.slice a n c) T w' ∧ Dfs x n S i T := by
    intro S i w hi hS st
    have q1 := st.h1.cell 0
    have hl := gS_look n S i hi
    rw [hS] at hl
    have HL := Lib.hid hl
    have HS := Lib.hid hS
    clear hl hS hc
    go_enter Try.func78, Try.ntmps78
    go_wp2_with (at_lookup; refine wpList_lookup_mapF rfl _ _ _ _ rfl 3 4 .i64 Try.underlying129 Try.underlying3 (.bool false) (zero_bool _) m _ st.hm rfl (i : Int) rfl ?_; rw [HL.out])
    refine bodyPost_ret (results_none rfl _ _ _) rfl ⟨rfl, S, st, ⟨fun _ h => h, HS.out, fun _ h => .inl h, fun k j h1 h2 _ _ => by rw [h1] at h2; cases h2⟩⟩
  have HF := Lib.hid hfound
  clear hfound
  have HC := Lib.hid hc
  clear hc
  intro N
  induction N with
  | zero =>
    intro S i w hi hN st
    refine HF.out S i w hi ?_ st
    cases h : S i
    · have := cnt_set S i h n hi; omega
    · rfl
  | succ N ih =>
    intro S i w hi hN st
    cases hS : S i with
    | true => exact HF.out S i w hi hS st
    | false =>
      have q1 := st.h1.cell 0
      have q2 := st.h2.cell 0
      have hl := gS_look n S i hi
      rw [hS] at hl
      have HL := Lib.hid hl
      have HS := Lib.hid hS
      have IH := Lib.hid ih
      have l1 := st.h1.lt
      have l2 := st.h2.lt
      have l3 := st.h3.lt
      obtain ⟨hne1, hne2, hne3⟩ := hne
      clear hl hS ih
      go_enter Try.func78, Try.ntmps78
      go_wp2_with (first
        | (at_lookup; refine wpList_lookup_mapF rfl _ _ _ _ rfl 3 4 .i64 Try.underlying129 Try.underlying3 (.bool false) (zero_bool _) m _ st.hm rfl (i : Int) rfl ?_; rw [HL.out])
        | (at_mapUpdate; refine wpList_mapUpdate_mapF rfl _ _ _ _ rfl 3 4 .i64 Try.underlying129 Try.underlying3 m _ st.hm rfl (i : Int) rfl (.bool true) rfl ?_; intro w1 hm1 hg1; have q2' := (st.grown1 hg1 hne1 hne2 hne3 hm0).1; have q3' := (st.grown1 hg1 hne1 hne2 hne3 hm0).2.1; have q4' := (st.grown1 hg1 hne1 hne2 hne3 hm0).2.2))
      have st1 : LookSt x n w0 m b1 b2 b3 (.slice a n c) (setS S i) w1 := st.grown hg1 hne1 hne2 hne3 hm0 (hm1.congr (gS_set n S i hi))
      have hcnt := cnt_set S i HS.out n hi
      clear hm1 hg1 q2' q3' q4' st q1 q2 HL l1 l2 l3
      go_loopw [14] (fun u wr => ∃ k : Nat, k ≤ n ∧ u = .int .i64 k ∧ ∃ T, LookSt x n w0 m b1 b2 b3 (.slice a n c) T wr ∧ Part x n S i T k) (fun u _ => n - (intOf u).toNat)
      case atStart => exact ⟨0, by omega, rfl, _, st1, Part.start x n S i⟩
      case round =>
        obtain ⟨k, hk, rfl, T, stk, pk⟩ := hrel
        by_cases hlt : k < n
        · obtain ⟨b, off, rfl, hcc⟩ := HC.out (by omega)
          have hcc' := hcc.ext stk.ext
          obtain ⟨h0, h1, h2, h3, h4⟩ := PCel.at hcc' hlt
          obtain ⟨s0, s1, -, -, -⟩ := PCel.at hcc' hi
          have hbl : b < wr.heap.size := cell_lt h0
          have l2 := stk.h2.lt
          have l3 := stk.h3.lt
          have q2 := stk.h2.cell 0
          have q3 := stk.h3.cell 0
          have hstk := stk.of_ext ((Below.refl _ wr).alloc (Nat.le_refl _) (.cells #[.int .i64 (x k).id, .int .i64 (x k).mother, .int .i64 (x k).planted, .int .u8 (x k).sex, .int .i64 (x k).sort] 43))
          have hT := cnt_le (setS S i) T pk.old n
          have hcall := IH.out T k
          have HCALL := Lib.hid hcall
          have ent := ent_look
          clear hcc hcc' hcall st1
          have e1 : (x k).mother = (x i).id ∨ (x k).mother ≠ (x i).id := Classical.em _
          have e2 : (x k).id = (x i).mother ∨ (x k).id ≠ (x i).mother := Classical.em _
          go_wp2_with fail
          refine wp_region_quiet_lit (by kernel_rfl) (by kernel_rfl) ?_
          rcases e1 with e1 | e1
          · have hq1 : ((x k).mother == (x i).id) = true := by simp [e1]
            have ha : adj x i k := .inl e1
            clear e1 e2
            repeat (first | go_big_quiet_step (fail) | quiet_step (fail))
            refine wpQuiet_nil ?_; intro _ hw'; obtain ⟨nq, hw''⟩ := hw'; subst hw''
            go_wp2_with fail
            refine (HCALL.out _ hlt (by omega) (hstk.of_ext (below_drewN (Below.refl _ _) _))).mono ?_
            rintro e w2 ⟨rfl, T', st', d'⟩
            go_wp2_with fail
            go_roundw
            case rel => exact ⟨k + 1, by omega, by go_num, T', st', pk.go ha hlt d'⟩
            case measure => simp [intOf]; omega
          · have hq1 : ((x k).mother == (x i).id) = false := by simp [e1]
            rcases e2 with e2 | e2
            · have hq2 : ((x k).id == (x i).mother) = true := by simp [e2]
              have ha : adj x i k := .inr e2
              clear e1 e2
              repeat (first | go_big_quiet_step (fail) | quiet_step (fail))
              refine wpQuiet_nil ?_; intro _ hw'; obtain ⟨nq, hw''⟩ := hw'; subst hw''
              go_wp2_with fail
              refine (HCALL.out _ hlt (by omega) (hstk.of_ext (below_drewN (Below.refl _ _) _))).mono ?_
              rintro e w2 ⟨rfl, T', st', d'⟩
              go_wp2_with fail
              go_roundw
              case rel => exact ⟨k + 1, by omega, by go_num, T', st', pk.go ha hlt d'⟩
              case measure => simp [intOf]; omega
            · have hq2 : ((x k).id == (x i).mother) = false := by simp [e2]
              have ha : ¬ adj x i k := by rintro (h | h); exact e1 h; exact e2 h
              clear e1 e2
              repeat (first | go_big_quiet_step (fail) | quiet_step (fail))
              refine wpQuiet_nil ?_; intro _ hw'; obtain ⟨nq, hw''⟩ := hw'; subst hw''
              go_wp2_with fail
              go_roundw
              case rel => exact ⟨k + 1, by omega, by go_num, T, hstk.of_ext (below_drewN (Below.refl _ _) _), pk.skip ha⟩
              case measure => simp [intOf]; omega
        · go_wp2_with fail
          obtain rfl : k = n := by omega
          refine bodyPost_end (results_none rfl _ _ _) rfl ⟨rfl, T, stk, pk.finish⟩
end Go.Proofs.Ytlapepdhkomijaa
