/- aflajref07.clones: which palms can be reached, by rounds over all until nothing changes. No condition. -/
import Derived.Test.YtlapepdhkomijaaPKnown
namespace Go.Proofs.Ytlapepdhkomijaa
open Go Go.RowKit

theorem info_bool : (Try.prog.info? 4).map (fun i => (i.zero, i.size, i.bytes)) = some (some (.bool false), 1, 1) := by kernel_rfl
abbrev bf (S : Nat → Bool) : Nat → Nat → Value := fun i _ => .bool (S i)
/-- for valid palms: the mother of a palm, by its index -/
def MotherAt (x : Nat → Pm) (n : Nat) (k : Nat) (m : Nat) : Prop := m < n ∧ (x m).id = (x k).mother ∧ (x k).mother ≠ -1
def RV (x : Nat → Pm) (n : Nat) : Prop := (∀ i j, i < n → j < n → (x i).id = (x j).id → i = j) ∧ (∀ k < n, (x k).mother ≠ -1 → ∃ m, MotherAt x n k m) ∧ (∀ i < n, (x i).id ≠ -1)
theorem cnt_le_n (S : Nat → Bool) : ∀ n, cnt S n ≤ n
  | 0 => Nat.le_refl _
  | n + 1 => by have := cnt_le_n S n; unfold cnt; split <;> omega
structure RSt (x : Nat → Pm) (n i : Nat) (S : Nat → Bool) : Prop where
  me : S i = true
  reach : ∀ k < n, S k = true → Reach x n i k
/-- nothing changed so far in this round -/
def Calm (x : Nat → Pm) (n : Nat) (S : Nat → Bool) (q : Nat) : Prop := ∀ k < q, ∀ m, MotherAt x n k m → S k = S m
theorem MotherAt.adj {x : Nat → Pm} {n k m : Nat} (h : MotherAt x n k m) : adj x m k ∧ adj x k m := ⟨.inl h.2.1.symm, .inr h.2.1⟩
theorem MotherAt.uniq {x : Nat → Pm} {n k m m' : Nat} (hv : RV x n) (h : MotherAt x n k m) (h' : MotherAt x n k m') : m = m' := hv.1 _ _ h.1 h'.1 (h.2.1.trans h'.2.1.symm)
theorem RSt.add {x : Nat → Pm} {n i : Nat} {S : Nat → Bool} (h : RSt x n i S) {k m : Nat} (hk : k < n) (hm : MotherAt x n k m) (hd : S k ≠ S m) : RSt x n i (setS (setS S k) m) := by
  refine ⟨by simp [setS, h.me], fun j hj hS => ?_⟩
  simp only [setS, Bool.or_eq_true, beq_iff_eq] at hS
  cases hk' : S k with
  | true =>
    have r := h.reach k hk hk'
    rcases hS with (hS | rfl) | rfl
    · exact h.reach j hj hS
    · exact r
    · exact .step r hm.adj.2 hm.1
  | false =>
    have hm' : S m = true := by cases hs : S m; (rw [hk', hs] at hd; exact absurd rfl hd); rfl
    have r := h.reach m hm.1 hm'
    rcases hS with (hS | rfl) | rfl
    · exact h.reach j hj hS
    · exact .step r hm.adj.1 hk
    · exact r
theorem cnt_add {n : Nat} {S : Nat → Bool} {k m : Nat} (hk : k < n) (hm : m < n) (hd : S k ≠ S m) : cnt (setS (setS S k) m) n + 1 ≤ cnt S n := by
  cases hk' : S k with
  | true =>
    have hm' : S m = false := by cases hs : S m; rfl; (rw [hk', hs] at hd; exact absurd rfl hd)
    have h1 := cnt_le S (setS S k) (fun j hj => by simp [setS, hj]) n
    have h2 : setS S k m = false := by
      have : (m == k) = false := by simp; intro e; subst e; rw [hk'] at hm'; cases hm'
      simp [setS, hm', this]
    have := cnt_set (setS S k) m h2 n hm
    omega
  | false =>
    have h1 := cnt_set S k hk' n hk
    have h2 := cnt_le (setS S k) (setS (setS S k) m) (fun j hj => by simp only [setS, Bool.or_eq_true] at hj ⊢; exact .inl hj) n
    omega
theorem calm_closed {x : Nat → Pm} {n i : Nat} {S : Nat → Bool} (hv : RV x n) (hi : i < n) (h : RSt x n i S) (hc : Calm x n S n) : ∀ k < n, (S k = true ↔ Reach x n i k) := by
  intro k hk
  refine ⟨h.reach k hk, fun r => ?_⟩
  have key : ∀ k, Reach x n i k → k < n ∧ S k = true := by
    intro k r
    induction r with
    | refl => exact ⟨hi, h.me⟩
    | @step j k' r ha hk ih =>
      refine ⟨hk, ?_⟩
      rcases ha with ha | ha
      · have hne : (x k').mother ≠ -1 := by rw [ha]; exact hv.2.2 _ ih.1
        rw [hc _ hk _ ⟨ih.1, ha.symm, hne⟩]; exact ih.2
      · have hne : (x j).mother ≠ -1 := by rw [← ha]; exact hv.2.2 _ hk
        rw [← hc _ ih.1 _ ⟨hk, ha, hne⟩]; exact ih.2
  exact (key k r).2

def RClonesPost (x : Nat → Pm) (n i : Nat) (w : World) (e : Ending) (w' : World) : Prop :=
  ∃ g c S, e = .returned (.slice (some ⟨g, 0, none⟩) n c) ∧ w.heap.size ≤ g ∧ Row w' g 4 1 n (bf S) ∧ (∀ k < n, (S k = true ↔ Reach x n i k)) ∧ Ext w w'
theorem row_made {w : World} {g n : Nat} (h : w.ownsRow g 4 1 (.slice (some ⟨g, 0, none⟩) n n) n (madeCells (Value.bool false).cells (n * 1)).toList) : Row w g 4 1 n (bf fun _ => false) := by
  rcases h.2 with ⟨h1, _⟩ | ⟨g', cap, cur, h1, h2, h3, h4, h5, h6, h7⟩
  · cases h1
  · cases h1
    refine ⟨cur, h3, fun i hi j hj => ?_⟩
    obtain rfl : j = 0 := by omega
    have e : (madeCells (Value.bool false).cells (n * 1)).toList[i]? = some (.bool false) := by
      simp [madeCells, Value.cells, hi]
      simp [Nat.mod_one]
    rw [← h7, List.getElem?_take] at e
    split at e
    · simpa using e
    · cases e
theorem Row.drewN {w : World} {g : Nat} {t : TypeId} {k n : Nat} {f : Nat → Nat → Value} (h : Row w g t k n f) (m : Nat) : Row (w.drewN m) g t k n f := h
theorem Row.set2 {w : World} {g n : Nat} {T : Nat → Bool} (h : Row w g 4 1 n (bf T)) {k m : Nat} (hk : k < n) (hm : m < n) :
    Row ((w.setCell ⟨g, k, none⟩ (.bool true)).setCell ⟨g, m, none⟩ (.bool true)) g 4 1 n (bf (setS (setS T k) m)) := by
  have h1 := (h.set hk (show 0 < 1 by omega) (.bool true)).set hm (show 0 < 1 by omega) (.bool true)
  simp only [Nat.mul_one, Nat.add_zero] at h1
  refine h1.congr fun i hi j hj => ?_
  obtain rfl : j = 0 := by omega
  simp only [setS, bf, and_true]
  by_cases e : i = m
  · subst e; simp
  · by_cases e2 : i = k
    · subst e2; simp [e]
    · have h1 : (i == k) = false := by simp [e2]
      have h2 : (i == m) = false := by simp [e]
      simp [e, e2, h1, h2]
set_option maxRecDepth 100000 in
set_option maxHeartbeats 8000000 in
theorem rclones_any (x : Nat → Pm) (n : Nat) (v : Value) (i : Nat) (hi : i < n) (w : World) (hs : PSL w v n x) (hv : RV x n) (h24 : n ≤ 24) :
    Calls Try.prog 49 #[v, .int .i64 i] w (RClonesPost x n i w) := by
  have hat := fun id w' (h : Ext w w') => rat_any v n x id w' (hs.ext h)
  have HAT := Lib.hid hat
  clear hat
  obtain ⟨a, c, rfl, hn, hc⟩ := hs
  obtain ⟨b, off, rfl, hcc⟩ := hc (by omega)
  have HCC := Lib.hid hcc
  obtain ⟨i0, hi0, hz0, hz1, hz2⟩ := info_parts info_bool
  clear hc hcc
  unfold maxLen at hn
  go_enter Try.func49, Try.ntmps49
  go_wp2_with (at_make; refine wpList_make_full _ rfl _ _ _ rfl w.heap.size 4 i0 (.bool false) 1 Try.underlying102 hi0 hz0 hz1 _ _ _ _ n rfl rfl rfl rfl ?c1 ?c2 ?c3 ?_; rotate_right; intro w1 hown hg; have hfr := (row_made hown).froz i; have hce := (row_made hown).cell hi (show 0 < 1 by omega); simp only [Nat.mul_one, Nat.add_zero] at hce)
  case c1 => rw [hz2]; omega
  case c2 => unfold maxLen; omega
  case c3 => exact Nat.le_refl _
  have hR1 := (row_made hown).set hi (show 0 < 1 by omega) (.bool true)
  simp only [Nat.mul_one, Nat.add_zero] at hR1
  have hR2 : Row (w1.setCell ⟨w.heap.size, i, none⟩ (.bool true)) w.heap.size 4 1 n (bf (setS (fun _ => false) i)) := hR1.congr fun i' _ j' _ => by
    by_cases e : i' = i
    · subst e; simp [setS]; omega
    · simp [setS, e]
  have e1 : Ext w (w1.setCell ⟨w.heap.size, i, none⟩ (.bool true)) := ((Below.refl _ w).grown hg (Nat.le_refl _) (fun k hk => by cases hk)).setCell (Nat.le_refl _) _
  clear hown hg hfr hce hR1 hi0 hz0 hz1 hz2
  go_loopg [6] (2 * n + 2) (fun K ch wr => ∃ cb S, ch = .bool cb ∧ RSt x n i S ∧ Row wr w.heap.size 4 1 n (bf S) ∧ Ext w wr ∧ (cb = false → Calm x n S n) ∧ 2 * cnt S n + (if cb then 1 else 0) ≤ K)
  case atStart =>
    refine ⟨true, _, rfl, ⟨by simp [setS], fun k _ hk => ?_⟩, hR2, e1, fun h => (by cases h), ?_⟩
    · simp [setS] at hk; subst hk; exact .refl
    · have := cnt_le_n (setS (fun _ => false) i) n; simp; omega
  case round =>
    obtain ⟨cb, S, rfl, hS, hR, hE, hcalm, hK⟩ := hrel
    cases cb with
    | false =>
      have HCALM := Lib.hid (hcalm rfl)
      clear hcalm
      go_wp2_with fail
      go_ret
      exact ⟨_, _, S, rfl, Nat.le_refl _, hR, calm_closed hv hi hS HCALM.out, hE⟩
    | true =>
      clear hcalm
      go_wp2_with fail
      go_loopw [6, 7] (fun ch u W => ∃ k : Nat, k ≤ n ∧ u = .int .i64 k ∧ ∃ cb T, ch = .bool cb ∧ RSt x n i T ∧ Row W w.heap.size 4 1 n (bf T) ∧ Ext w W ∧ (cb = false → T = S ∧ Calm x n S k) ∧ (cb = true → cnt T n + 1 ≤ cnt S n)) (fun _ u _ => n - (intOf u).toNat)
      case atStart => exact ⟨0, by omega, rfl, false, S, rfl, hS, hR, hE, fun _ => ⟨rfl, fun k hk => absurd hk (by omega)⟩, by simp⟩
      case round =>
        obtain ⟨k, hk, rfl, cb, T, rfl, hT, hRT, hET, hf, ht⟩ := hrel
        have HF := Lib.hid hf
        have HT := Lib.hid ht
        clear hf ht
        by_cases hlt : k < n
        · obtain ⟨h0, h1, h2, h3, h4⟩ := PCel.at (HCC.out.ext hET) hlt
          have HRT := Lib.hid hRT
          have hgl := hRT.lt
          have HCA : Hid (Calm x n S k → ¬ (x k).mother ≠ -1 → Calm x n S (k + 1)) := fun hc hm j hj m hjm => by
            rcases Nat.lt_or_ge j k with h | h
            · exact hc j h m hjm
            · obtain rfl : j = k := by omega
              exact absurd hjm.2.2 hm
          rcases beq_cases (x k).mother (-1) with ⟨hq, HM⟩ | ⟨hq, HM⟩
          · clear hRT
            go_wp2_with fail
            go_roundw
            case rel =>
              refine ⟨k + 1, by omega, by go_num, cb, T, rfl, hT, HRT.out, hET, fun h => ⟨(HF.out h).1, HCA.out (HF.out h).2 (by rw [HM.out]; simp)⟩, HT.out⟩
            case measure => simp [intOf]; omega
          · obtain ⟨m, hm⟩ := hv.2.1 k hlt HM.out
            have hmn := hm.1
            have HMA := Lib.hid hm
            have c1 := hRT.cell hlt (show 0 < 1 by omega)
            have c2 := hRT.cell hmn (show 0 < 1 by omega)
            simp only [Nat.mul_one, Nat.add_zero, bf] at c1 c2
            clear hm hRT
            go_wp2_with fail
            refine (HAT.out (x k).mother _ hET).mono ?_
            rintro e w2 ⟨r, rfl, hr, rfl⟩
            have hrm : r = m := by
              rcases hr with ⟨_, h⟩ | ⟨m', h1, rfl, h3, _⟩
              · exact absurd HMA.out.2.1 (h m hmn)
              · rw [hv.1 m' m h1 hmn (h3.trans HMA.out.2.1.symm)]
            subst hrm
            clear hr
            cases hTk : T k <;> cases hTm : T m
            · rw [hTk] at c1
              rw [hTm] at c2
              have HTK := Lib.hid hTk
              have HTM := Lib.hid hTm
              have fk := HRT.out.froz k
              have fm := HRT.out.froz m
              clear hTk hTm
              go_wp2_with fail
              go_quiet (fail)
              go_wp2_with fail
              go_roundw
              case rel =>
                refine ⟨k + 1, by omega, by go_num, cb, T, rfl, hT, HRT.out, below_drewN hET _, fun h => ⟨(HF.out h).1, fun j hj m' hjm => ?_⟩, HT.out⟩
                rcases Nat.lt_or_ge j k with h' | h'
                · exact (HF.out h).2 j h' m' hjm
                · obtain rfl : j = k := by omega
                  obtain rfl : m' = m := MotherAt.uniq hv hjm HMA.out
                  rw [← (HF.out h).1, HTK.out, HTM.out]
              case measure => simp [intOf]; omega
            · rw [hTk] at c1
              rw [hTm] at c2
              have HTK := Lib.hid hTk
              have HTM := Lib.hid hTm
              have hkm : ¬ k = m := fun e => by subst e; rw [hTk] at hTm; cases hTm
              have hmk : ¬ m = k := fun e => hkm e.symm
              have fk := HRT.out.froz k
              have fm := HRT.out.froz m
              clear hTk hTm
              go_wp2_with fail
              go_quiet (fail)
              go_wp2_with fail
              go_roundw
              case rel =>
                have hd : T k ≠ T m := by rw [HTK.out, HTM.out]; simp
                refine ⟨k + 1, by omega, by go_num, true, setS (setS T k) m, rfl, hT.add hlt HMA.out hd, HRT.out.set2 hlt hmn, ((below_drewN hET _).setCell (Nat.le_refl _) _).setCell (Nat.le_refl _) _, fun h => (by cases h), fun _ => ?_⟩
                have h1 := cnt_add hlt hmn hd
                cases cb with
                | true => have := HT.out rfl; omega
                | false => rw [← (HF.out rfl).1]; omega
              case measure => simp [intOf]; omega
            · rw [hTk] at c1
              rw [hTm] at c2
              have HTK := Lib.hid hTk
              have HTM := Lib.hid hTm
              have hkm : ¬ k = m := fun e => by subst e; rw [hTk] at hTm; cases hTm
              have hmk : ¬ m = k := fun e => hkm e.symm
              have fk := HRT.out.froz k
              have fm := HRT.out.froz m
              clear hTk hTm
              go_wp2_with fail
              go_quiet (fail)
              go_wp2_with fail
              go_roundw
              case rel =>
                have hd : T k ≠ T m := by rw [HTK.out, HTM.out]; simp
                refine ⟨k + 1, by omega, by go_num, true, setS (setS T k) m, rfl, hT.add hlt HMA.out hd, HRT.out.set2 hlt hmn, ((below_drewN hET _).setCell (Nat.le_refl _) _).setCell (Nat.le_refl _) _, fun h => (by cases h), fun _ => ?_⟩
                have h1 := cnt_add hlt hmn hd
                cases cb with
                | true => have := HT.out rfl; omega
                | false => rw [← (HF.out rfl).1]; omega
              case measure => simp [intOf]; omega
            · rw [hTk] at c1
              rw [hTm] at c2
              have HTK := Lib.hid hTk
              have HTM := Lib.hid hTm
              have fk := HRT.out.froz k
              have fm := HRT.out.froz m
              clear hTk hTm
              go_wp2_with fail
              go_quiet (fail)
              go_wp2_with fail
              go_roundw
              case rel =>
                refine ⟨k + 1, by omega, by go_num, cb, T, rfl, hT, HRT.out, below_drewN hET _, fun h => ⟨(HF.out h).1, fun j hj m' hjm => ?_⟩, HT.out⟩
                rcases Nat.lt_or_ge j k with h' | h'
                · exact (HF.out h).2 j h' m' hjm
                · obtain rfl : j = k := by omega
                  obtain rfl : m' = m := MotherAt.uniq hv hjm HMA.out
                  rw [← (HF.out h).1, HTK.out, HTM.out]
              case measure => simp [intOf]; omega
        · go_wp2_with fail
          obtain rfl : k = n := by omega
          cases cb with
          | true =>
            have h1 := HT.out rfl
            go_roundg (2 * cnt T k + 1)
            case measure => simp at hK; omega
            case rel => exact ⟨true, T, rfl, hT, hRT, hET, fun h => (by cases h), by simp⟩
          | false =>
            obtain ⟨h1, h2⟩ := HF.out rfl
            go_roundg (2 * cnt T k)
            case measure => subst h1; simp at hK; omega
            case rel => exact ⟨false, T, rfl, hT, hRT, hET, fun _ => by rw [h1]; exact h2, by simp⟩
end Go.Proofs.Ytlapepdhkomijaa
