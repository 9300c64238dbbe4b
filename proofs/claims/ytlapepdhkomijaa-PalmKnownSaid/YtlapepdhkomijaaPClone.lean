/- slices.Clone of palms, and append([]api.Palm nil..): a copy in new memory. No condition. -/
import Derived.Test.YtlapepdhkomijaaRow
import Derived.Test.YtlapepdhkomijaaClones2
namespace Go.Proofs.Ytlapepdhkomijaa
open Go Go.RowKit

/-- a slice of the call's own: n rows of k cells -/
def OwnS (base : Nat) (w : World) (t : TypeId) (k : Nat) (u : Value) (n : Nat) (f : Nat → Nat → Value) : Prop :=
  ∃ a c, u = .slice a n c ∧ n ≤ maxLen ∧ (0 < n → ∃ g, a = some ⟨g, 0, none⟩ ∧ base ≤ g ∧ Row w g t k n f)
theorem OwnS.sl {base : Nat} {w : World} {t : TypeId} {k : Nat} {u : Value} {n : Nat} {f : Nat → Nat → Value} (h : OwnS base w t k u n f) : SL w u k n f := by
  obtain ⟨a, c, h1, h2, h3⟩ := h
  exact ⟨a, c, h1, h2, fun h0 => by obtain ⟨g, e, _, r⟩ := h3 h0; exact ⟨g, 0, e, r.cel⟩⟩
theorem OwnS.ext {base : Nat} {w w' : World} {t : TypeId} {k : Nat} {u : Value} {n : Nat} {f : Nat → Nat → Value} (h : OwnS base w t k u n f) (e : Ext w w') : OwnS base w' t k u n f := by
  obtain ⟨a, c, h1, h2, h3⟩ := h
  exact ⟨a, c, h1, h2, fun h0 => by obtain ⟨g, e', hb, r⟩ := h3 h0; exact ⟨g, e', hb, r.ext e⟩⟩
theorem OwnS.mono {base base' : Nat} {w : World} {t : TypeId} {k : Nat} {u : Value} {n : Nat} {f : Nat → Nat → Value} (h : OwnS base w t k u n f) (e : base' ≤ base) : OwnS base' w t k u n f := by
  obtain ⟨a, c, h1, h2, h3⟩ := h
  exact ⟨a, c, h1, h2, fun h0 => by obtain ⟨g, e', hb, r⟩ := h3 h0; exact ⟨g, e', by omega, r⟩⟩
theorem OwnS.of_owns {base : Nat} {w : World} {t : TypeId} {k : Nat} {u : Value} {n : Nat} {f : Nat → Nat → Value} (hk : 0 < k) (h : w.ownsRow base t k u n (flat k f n)) (hn : n ≤ maxLen) : OwnS base w t k u n f := by
  by_cases h0 : u = .slice none 0 0
  · subst h0
    have : n = 0 := by
      have h1 := h.2
      rcases h1 with ⟨_, h1⟩ | ⟨g, cap, cur, h1, _⟩
      · exact h1
      · cases h1
    subst this
    exact ⟨none, 0, rfl, hn, fun h => absurd h (by omega)⟩
  · obtain ⟨g, c, h1, h2, _, h3⟩ := Row.of_owns h h0
    exact ⟨_, c, h1, hn, fun _ => ⟨g, rfl, h2, h3⟩⟩
theorem info_palm : (Try.prog.info? 43).map (fun i => (i.zero, i.size, i.bytes)) = some (some (.agg #[.int .i64 0, .int .i64 0, .int .i64 0, .int .u8 0, .int .i64 0]), 5, 40) := by kernel_rfl
abbrev pf (x : Nat → Pm) : Nat → Nat → Value := fun i j => pcell (x i) j
theorem pf_one (x : Nat → Pm) (n : Nat) : ∀ u ∈ flat 5 (pf x) n, u.oneCell' = true := by
  intro u hu
  obtain ⟨m, hm⟩ := List.mem_iff_getElem?.1 hu
  obtain ⟨i, j, _, _, _, rfl⟩ := flat_inv hm
  unfold pf pcell
  split <;> rfl
theorem news_of {w : World} {b off k n : Nat} {f : Nat → Nat → Value} (h : Cel w b off k n f) : ∀ j u, (flat k f n)[j]? = some u → w.cell? ((⟨b, off, none⟩ : Addr).add j) = some u := by
  intro j u hj
  obtain ⟨i, r, hi, hr, rfl, rfl⟩ := flat_inv hj
  rw [addr_add]
  have := h i hi r hr
  rw [show off + (i * k + r) = off + i * k + r from by omega]; exact this
theorem owns_empty (w : World) (t : TypeId) (k : Nat) (B : Nat) (hB : B ≤ w.heap.size) : (w.alloc (.cells #[] t)).ownsRow B t k (.slice (some ⟨w.heap.size, 0, none⟩) 0 0) 0 [] :=
  ⟨by simp, .inr ⟨w.heap.size, 0, #[], rfl, hB, heap_new w _, Nat.le_refl _, by unfold maxLen; omega, by simp, by simp⟩⟩

set_option maxRecDepth 100000 in
set_option maxHeartbeats 1000000 in
theorem sclone_any (x : Nat → Pm) (n : Nat) (v : Value) (w : World) (hs : PSL w v n x) (h24 : n ≤ 1000) :
    Calls Try.prog 47 #[v] w fun e w' => ∃ u, e = .returned u ∧ OwnS w.heap.size w' 43 5 u n (pf x) ∧ Ext w w' := by
  obtain ⟨a, c, rfl, hn, hc⟩ := hs
  obtain ⟨i0, hi0, hz0, hz1, hz2⟩ := info_parts info_palm
  cases a with
  | none =>
    have hn0 : n = 0 := by
      rcases Nat.eq_zero_or_pos n with h | h
      · exact h
      · obtain ⟨b, off, h1, _⟩ := hc h; cases h1
    subst hn0
    have hnil := @Lib.run_eql_slice_nil Try.prog
    go_enter Try.func47, Try.ntmps47
    go_wp2_with fail
    go_ret
    exact ⟨_, rfl, ⟨none, 0, rfl, by decide, fun h => absurd h (by omega)⟩, Below.refl _ _⟩
  | some ad =>
    have hnil := @Lib.run_eql_slice_nil Try.prog
    have hnews : ∀ j u, (flat 5 (pf x) n)[j]? = some u → (w.alloc (.cells #[] 43)).cell? (ad.add j) = some u := by
      intro j u hj
      rcases Nat.eq_zero_or_pos n with h | h
      · subst h; simp [flat] at hj
      · obtain ⟨b, off, h1, h2⟩ := hc h
        cases h1
        exact news_of (h2.ext ((Below.refl _ w).alloc (Nat.le_refl _) _)) j u hj
    have HN := Lib.hid hnews
    have hl := flat_len 5 (pf x) n
    have HL := Lib.hid hl
    clear hnews hc hl
    go_enter Try.func47, Try.ntmps47
    go_wp2_with (at_builtin; refine wpList_append_own _ rfl _ _ 22 rfl w.heap.size 43 i0 _ 5 40 Try.underlying22 hi0 hz0 hz1 hz2 rfl (by decide) _ 0 [] rfl (owns_empty w _ _ _ (Nat.le_refl _)) ad n c (flat 5 (pf x) n) rfl HL.out HN.out (pf_one x n) ?c3 ?c4 ?c5 ?_; rotate_right; intro v' w2 hown' hgrow hnl)
    case c3 => unfold maxLen; omega
    case c4 => omega
    case c5 => simp
    go_ret
    simp only [Nat.zero_add, List.nil_append] at hown'
    exact ⟨_, rfl, OwnS.of_owns (by decide) hown' hn, ((Below.refl _ w).alloc (Nat.le_refl _) _).grown hgrow (by simp) (by intro k hk; cases hk; exact Nat.le_refl _)⟩
end Go.Proofs.Ytlapepdhkomijaa
