/- palm.Clones: the Ids of the clones of a palm, or the error. No condition. -/
import Derived.Test.YtlapepdhkomijaaPClone
namespace Go.Proofs.Ytlapepdhkomijaa
open Go Go.RowKit

theorem dfs_reach {x : Nat → Pm} {n i : Nat} {T : Nat → Bool} (d : Dfs x n (fun _ => false) i T) : ∀ k, T k = true ↔ Reach x n i k := by
  intro k
  constructor
  · intro h
    rcases d.reach k h with h' | h'
    · cases h'
    · exact h'
  · intro h
    induction h with
    | refl => exact d.me
    | step _ a b ih => exact d.closed _ _ ih rfl a b
def selN (T : Nat → Bool) : Nat → List Nat
  | 0 => []
  | n + 1 => selN T n ++ if T n then [n] else []
theorem sel_selN (T : Nat → Bool) : ∀ n, sel T n = (selN T n).map fun (k : Nat) => (k : Int)
  | 0 => rfl
  | n + 1 => by unfold sel selN; rw [sel_selN T n]; split <;> simp
theorem selN_lt (T : Nat → Bool) : ∀ n, ∀ k ∈ selN T n, k < n ∧ T k = true
  | 0, k, h => by simp [selN] at h
  | n + 1, k, h => by
    unfold selN at h
    rw [List.mem_append] at h
    rcases h with h | h
    · have := selN_lt T n k h; exact ⟨by omega, this.2⟩
    · split at h
      · simp at h; subst h; exact ⟨by omega, by assumption⟩
      · simp at h
theorem selN_mem (T : Nat → Bool) : ∀ n k, k < n → T k = true → k ∈ selN T n
  | 0, k, h, _ => by omega
  | n + 1, k, h, hT => by
    unfold selN
    rw [List.mem_append]
    rcases Nat.lt_or_ge k n with h' | h'
    · exact .inl (selN_mem T n k h' hT)
    · obtain rfl : k = n := by omega
      right; simp [hT]
theorem selN_congr {T T' : Nat → Bool} : ∀ n, (∀ k < n, T k = T' k) → selN T n = selN T' n
  | 0, _ => rfl
  | n + 1, h => by unfold selN; rw [selN_congr n (fun k hk => h k (by omega)), h n (by omega)]
theorem selN_get {T : Nat → Bool} {n i : Nat} (h : i < (selN T n).length) : (selN T n).getD i 0 < n ∧ T ((selN T n).getD i 0) = true := by
  have := selN_lt T n ((selN T n)[i]) (List.getElem_mem h)
  simpa [List.getD, List.getElem?_eq_getElem h] using this
/-- a slice of ints that reads as a list -/
def SLI (w : World) (u : Value) (l : List Int) : Prop := SL w u 1 l.length (fun i _ => .int .i64 (l.getD i 0))
theorem flat_one_list (l : List Int) : flat 1 (fun i _ => Value.int .i64 (l.getD i 0)) l.length = l.map fun i => Value.int .i64 i := by
  apply List.ext_getElem?
  intro m
  by_cases h : m < l.length
  · have := flat_get 1 (fun i _ => Value.int .i64 (l.getD i 0)) l.length m 0 h (by omega)
    simp only [Nat.mul_one, Nat.add_zero] at this
    rw [this]; simp [h]
  · rw [List.getElem?_eq_none (by rw [flat_len]; omega), List.getElem?_eq_none (by simp; omega)]
theorem OwnI.owns {base : Nat} {w : World} {v : Value} {l : List Int} (h : OwnI base w v l) (hl : l.length ≤ maxLen) : OwnS base w 3 1 v l.length (fun i _ => .int .i64 (l.getD i 0)) :=
  OwnS.of_owns (by omega) (by rw [flat_one_list]; exact h) hl

inductive ClonesPost (x : Nat → Pm) (n : Nat) (id : Int) (w' : World) (u : Value) (e : Int) : Prop
  | bad (h : ¬ PValid x n) (he : e = 70) (hu : SLI w' u [])
  | none (h : PValid x n) (hn : ∀ i < n, (x i).id ≠ id) (he : e = 6) (hu : SLI w' u [])
  | some (h : PValid x n) (i : Nat) (hi : i < n) (hid : (x i).id = id) (T : Nat → Bool) (hT : ∀ k, T k = true ↔ Reach x n i k) (he : e = 0) (hu : SLI w' u ((selN T n).map fun k => (x k).id))
theorem SLI.nil (w : World) : SLI w (.slice none 0 0) [] := ⟨none, 0, rfl, by decide, fun h => absurd h (by simp)⟩
theorem lastIx_some {x : Nat → Pm} {k : Int} {n m : Nat} (h : lastIx x k n = some m) : m < n ∧ (x m).id = k := by
  induction n with
  | zero => simp [lastIx] at h
  | succ n ih =>
    unfold lastIx at h
    split at h
    · simp at h; subst h; exact ⟨by omega, by symm; assumption⟩
    · have := ih h; exact ⟨by omega, this.2⟩
theorem lastIx_none {x : Nat → Pm} {k : Int} {n : Nat} (h : lastIx x k n = none) : ∀ i < n, (x i).id ≠ k := by
  induction n with
  | zero => intro i hi; omega
  | succ n ih =>
    unfold lastIx at h
    split at h
    · cases h
    · intro i hi
      rcases Nat.lt_or_ge i n with h' | h'
      · exact ih h i h'
      · obtain rfl : i = n := by omega
        intro e; exact absurd e.symm (by assumption)

set_option maxRecDepth 100000 in
set_option maxHeartbeats 4000000 in
theorem pclones_any (x : Nat → Pm) (n : Nat) (v : Value) (id : Int) (hu : ∀ i, 0 ≤ (x i).sex ∧ (x i).sex ≤ 255) (w : World) (hs : PSL w v n x) :
    Calls Try.prog 17 #[v, .int .i64 id] w fun e w' => ∃ u r, e = .returned (.tuple #[u, .int .i64 r]) ∧ ClonesPost x n id w' u r ∧ Ext w w' := by
  have hck := pcheck_any v n x hu w hs
  have hpl := fun w' (e : Ext w w') => places_any v n x w' (hs.ext e)
  have hcl := fun i hi w' (e : Ext w w') h24 => clones_any x n v i hi w' (hs.ext e) h24
  have HPL := Lib.hid hpl
  have HCL := Lib.hid hcl
  clear hpl hcl
  obtain ⟨a, c, rfl, hn, hc⟩ := hs
  have HC := Lib.hid hc
  clear hc
  unfold maxLen at hn
  go_enter Try.func17, Try.ntmps17
  go_wp2_with fail
  refine hck.mono ?_
  clear hck
  rintro e w1 ⟨r, rfl, hr, e1⟩
  rcases hr with ⟨rfl, hv⟩ | ⟨rfl, hv⟩
  · go_wp2_with fail
    refine (HPL.out _ e1).mono ?_
    rintro e w2 ⟨rfl, hm, e2⟩
    have e12 := ext_trans e1 e2 (Nat.le_refl _)
    obtain ⟨vi, ok, hv1, ho, hyes, hno⟩ := places_look x n id
    have HV := Lib.hid hv1
    have HO := Lib.hid ho
    have HY := Lib.hid hyes
    have HN := Lib.hid hno
    have hz := zero_int w2
    clear hv1 ho hyes hno
    cases ok with
    | false =>
      have hn0 := Lib.hid (lastIx_none (HN.out rfl))
      go_wp2_with (at_lookup; refine wpList_lookup_mapF rfl _ _ _ _ rfl 3 3 .i64 Try.underlying85 Try.underlying3 (.int .i64 0) hz w1.heap.size _ hm rfl id rfl ?_; rw [HV.out, HO.out])
      go_ret2
      exact ⟨_, _, rfl, .none hv hn0.out rfl (SLI.nil _), e12⟩
    | true =>
      obtain ⟨i, hli, rfl⟩ := HY.out rfl
      have hli' := lastIx_some hli
      have HLI := Lib.hid hli'
      have hi := hli'.1
      clear hli hli'
      go_wp2_with (at_lookup; refine wpList_lookup_mapF rfl _ _ _ _ rfl 3 3 .i64 Try.underlying85 Try.underlying3 (.int .i64 0) hz w1.heap.size _ hm rfl id rfl ?_; rw [HV.out, HO.out])
      refine (HCL.out i hi _ e12 hv.1).mono ?_
      rintro e w3 ⟨T, u, rfl, d, hown, e3⟩
      have e13 := ext_trans e12 e3 (Nat.le_refl _)
      have hlen := sel_len T n
      have h24 := hv.1
      have hO := OwnI.owns hown (by unfold maxLen; omega)
      have HD := Lib.hid (dfs_reach d)
      rw [sel_selN] at hO
      simp only [List.length_map] at hO
      have HLEN : (selN T n).length ≤ n := by rw [sel_selN] at hlen; simpa using hlen
      clear d hown hlen hm hz
      obtain ⟨a', c', rfl, hm1, hrow⟩ := hO
      have HR := Lib.hid hrow
      clear hrow
      generalize hL : (selN T n).length = L at *
      have HLL := Lib.hid hL
      clear hL
      go_wp2_with fail
      go_loopw [31] (fun q wr => ∃ k : Nat, k ≤ L ∧ q = .int .i64 k ∧ Ext w wr ∧ (0 < L → ∃ g, a' = some ⟨g, 0, none⟩ ∧ w2.heap.size ≤ g ∧ Row wr g 3 1 L (fun i _ => .int .i64 (if i < k then (x ((selN T n).getD i 0)).id else ((selN T n).getD i 0 : Nat))))) (fun q _ => L - (intOf q).toNat)
      case atStart =>
        refine ⟨0, by omega, rfl, e13, fun h0 => ?_⟩
        obtain ⟨g, h1, h2, h3⟩ := HR.out h0
        refine ⟨g, h1, h2, h3.congr fun i hi j hj => ?_⟩
        have : i < (selN T n).length := by rw [HLL.out]; exact hi
        simp [this]
      case round =>
        obtain ⟨k, hk, rfl, eR, hrow⟩ := hrel
        by_cases hlt : k < L
        · obtain ⟨g, rfl, hg, hR⟩ := hrow (by omega)
          have h1 := hR.cell hlt (show 0 < 1 by omega)
          simp only [Nat.mul_one, Nat.add_zero, Nat.lt_irrefl, if_false] at h1
          have hs := selN_get (T := T) (n := n) (i := k) (by rw [HLL.out]; exact hlt)
          generalize hsk : (selN T n).getD k 0 = s at *
          have HSK := Lib.hid hsk
          clear hsk
          obtain ⟨b, off, rfl, hcc⟩ := HC.out (by omega)
          have h2 := (PCel.at (hcc.ext eR) hs.1).1
          have hf := hR.froz k
          have hHR := Lib.hid hR
          have hs1 := hs.1
          have hgl := hR.lt
          clear hR hrow hcc hs
          go_wp2_with fail
          go_roundw
          case rel =>
            have hset := hHR.out.set hlt (show 0 < 1 by omega) (.int .i64 (x s).id)
            simp only [Nat.mul_one, Nat.add_zero] at hset
            refine ⟨k + 1, by omega, by go_num, eR.setCell (by have := e12.size; simp; omega) _, fun _ => ⟨g, rfl, hg, hset.congr fun i hi j hj => ?_⟩⟩
            by_cases e : i = k
            · subst e
              have : j = 0 := by omega
              subst this
              have h5 := HSK.out
              simp only [and_self, if_true, Nat.lt_succ_self]
              rw [h5]
            · simp only [e, false_and, if_false]
              by_cases e2 : i < k
              · rw [if_pos e2, if_pos (by omega)]
              · rw [if_neg e2, if_neg (by omega)]
          case measure => simp [intOf]; omega
        · obtain rfl : k = L := by omega
          go_wp2_with fail
          go_ret2
          have hLL := HLL.out
          subst hLL
          refine ⟨_, _, rfl, .some hv i hi HLI.out.2 T HD.out rfl ⟨a', c', by simp, by unfold maxLen; simp only [List.length_map]; omega, fun h0 => ?_⟩, eR⟩
          obtain ⟨g, h1, h2, h3⟩ := hrow (by simpa using h0)
          refine ⟨g, 0, h1, ?_⟩
          simp only [List.length_map]
          refine (h3.congr fun i hi j hj => ?_).cel
          rw [if_pos hi]
          simp [List.getD, List.getElem?_eq_getElem hi]
  · go_wp2_with fail
    go_ret2
    exact ⟨_, _, rfl, .bad hv rfl (SLI.nil _), e1⟩
end Go.Proofs.Ytlapepdhkomijaa
