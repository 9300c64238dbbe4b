/- Groves: chains, plainly. No condition. -/
import Derived.Test.YtpknbojgkkmonaaWSoo
set_option linter.unusedSimpArgs false
set_option linter.unusedVariables false
namespace Go.Proofs.Ytpknbojgkkmonaa
open Go Go.RowKit
section
variable {g : Gv} {N D : Nat → Int} {i : Nat}
theorem First.tight (hg : GvOk g) (h : First g N D) (hi : i < g.palms.1) (h1 : D i > g.start) (h2 : D i < 100001) : ∃ k,k < g.palms.1 ∧ fromP g i (D i) k (D k) := by
  apply Classical.byContradiction
  intro hno
  have hM : Sat g N (fun z => if z = i then D i + 1 else D z) := by
    have hge : ∀ z,D z ≤ (if z = i then D i + 1 else D z) := fun z => by
      by_cases e : z = i
      · rw [if_pos e,e]; omega
      · rw [if_neg e]; omega
    refine ⟨fun z hz => ?_,fun z hz hs hN => ?_,fun z k hz hk hzk hD hn => ?_,fun z k hz hk hD hgi => ?_⟩
    · show (if z = i then D i + 1 else D z) ≤ 100001
      split
      · omega
      · exact h.1.top z hz
    · show (if z = i then D i + 1 else D z) ≤ g.start
      have := h.1.sus z hz hs hN
      split
      · next e => subst e; omega
      · exact this
    · show (if z = i then D i + 1 else D z) ≤ flyF g N z (if k = i then D i + 1 else D k)
      have hDk : D k < 100001 := by have := hge k; have hD : (if k = i then D i + 1 else D k) < 100001 := hD; omega
      have h3 := h.1.fly z k hz hk hzk hDk hn
      have h4 := hge k
      by_cases e : z = i
      · subst e
        rw [if_pos rfl,if_neg (fun e => hzk e.symm)]
        have : D z ≠ flyF g N z (D k) := fun e => hno ⟨k,hk,hzk,hDk,.inl ⟨by rw [e]; unfold flyF; omega,hn⟩⟩
        omega
      · rw [if_neg e]
        unfold flyF at h3 ⊢
        omega
    · show (if z = i then D i + 1 else D z) ≤ (g.palms.2 z).planted
      have h4 := hge k
      have hDk : D k < 100001 := by have hD : (if k = i then D i + 1 else D k) < 100001 := hD; omega
      have hgk : giftP g N z k (D k) := ⟨hgi.1,hgi.2.1,by have := hgi.2.2.1; have h5 : (if k = i then D i + 1 else D k) ≤ (g.palms.2 z).planted := this; omega,hgi.2.2.2⟩
      have h3 := h.1.gift z k hz hk hDk hgk
      by_cases e : z = i
      · subst e
        rw [if_pos rfl]
        have hzk : z ≠ k := by
          rintro rfl
          have hid := (hg.pms.id z hz).1
          have hm := (hg.mo hz (by rw [hgi.1]; omega))
          have : moF g z = z := by unfold moF; rw [hgi.1]; exact hg.pms.hit hz
          rw [this] at hm
          omega
        have : D z ≠ (g.palms.2 z).planted := fun e => hno ⟨k,hk,hzk,hDk,.inr ⟨hgk.1,e.symm,hgk.2.1,by rw [e]; exact hgk.2.2.1⟩⟩
        omega
      · rw [if_neg e]; exact h3
  have := h.2 _ hM i hi
  simp only [if_pos] at this
  omega
end
noncomputable def bstJ (g : Gv) (D : Nat → Int) (i : Nat) : Nat → Int
  | 0 => -1
  | j + 1 => @ite _ (fromP g i (D i) j (D j) ∧ (bstJ g D i j < 0 ∨ D j < D (bstJ g D i j).toNat)) (Classical.propDecidable _) j (bstJ g D i j)
theorem bstJ_spec {g : Gv} {D : Nat → Int} {i : Nat} : ∀ j,(bstJ g D i j = -1 ∧ ∀ k,k < j → ¬ fromP g i (D i) k (D k)) ∨ (∃ b : Nat,bstJ g D i j = b ∧ b < j ∧ fromP g i (D i) b (D b) ∧ ∀ k,k < j → fromP g i (D i) k (D k) → D b < D k ∨ (D b = D k ∧ b ≤ k)) := by
  intro j; induction j with
  | zero => exact .inl ⟨rfl,fun k h => absurd h (Nat.not_lt_zero _)⟩
  | succ j ih =>
    unfold bstJ
    by_cases hc : fromP g i (D i) j (D j) ∧ (bstJ g D i j < 0 ∨ D j < D (bstJ g D i j).toNat)
    · rw [@if_pos _ (Classical.propDecidable _) hc]
      refine .inr ⟨j,rfl,by omega,hc.1,fun k hk hf => ?_⟩
      rcases Nat.lt_or_ge k j with h1 | h1
      · rcases ih with ⟨e,h⟩ | ⟨b,e,hb,hfb,h⟩
        · exact absurd hf (h k h1)
        · have h2 := hc.2
          rw [e] at h2
          have h3 : D j < D b := by rcases h2 with h2 | h2; · omega
                                    · simpa using h2
          rcases h k h1 hf with h4 | ⟨h4,_⟩ <;> left <;> omega
      · obtain rfl : k = j := by omega
        exact .inr ⟨rfl,Nat.le_refl _⟩
    · rw [@if_neg _ (Classical.propDecidable _) hc]
      rcases ih with ⟨e,h⟩ | ⟨b,e,hb,hfb,h⟩
      · refine .inl ⟨e,fun k hk => ?_⟩
        rcases Nat.lt_or_ge k j with h1 | h1
        · exact h k h1
        · obtain rfl : k = j := by omega
          exact fun hf => hc ⟨hf,.inl (by omega)⟩
      · refine .inr ⟨b,e,by omega,hfb,fun k hk hf => ?_⟩
        rcases Nat.lt_or_ge k j with h1 | h1
        · exact h k h1 hf
        · obtain rfl : k = j := by omega
          have : ¬ D k < D b := fun h2 => hc ⟨hf,.inr (by rw [e]; simpa using h2)⟩
          rcases Int.lt_or_le (D b) (D k) with h3 | h3
          · exact .inl h3
          · exact .inr ⟨by omega,by omega⟩
def keyF (g : Gv) (D : Nat → Int) (i : Nat) : Int := 2 * D i + (if (g.palms.2 i).planted = D i then 1 else 0)
theorem key_lt {g : Gv} {D : Nat → Int} (hg : GvOk g) {i k : Nat} (hi : i < g.palms.1) (hk : k < g.palms.1) (h : fromP g i (D i) k (D k)) : keyF g D k < keyF g D i := by
  have hha := hg.hatch
  unfold keyF
  rcases h.2.2 with ⟨h1,_⟩ | ⟨h1,h2,h3,h4⟩
  · split <;> split <;> omega
  · have hid := (hg.pms.id k hk).1
    have hm := hg.mo hi (by rw [h1]; omega)
    have e : moF g i = k := (hg.mo_eq hi hk (by rw [h1]; omega)).2 h1
    rw [e] at hm
    rw [if_pos h2]
    split <;> omega
noncomputable def depF (g : Gv) (D : Nat → Int) (i : Nat) : Nat := cntN (fun k => keyF g D k < keyF g D i) g.palms.1
theorem dep_lt {g : Gv} {D : Nat → Int} (hg : GvOk g) {i k : Nat} (hi : i < g.palms.1) (hk : k < g.palms.1) (h : fromP g i (D i) k (D k)) : depF g D k < depF g D i := by
  have := key_lt hg hi hk h
  exact cntN_lt (i := k) (fun z _ hz => by omega) hk (by omega) this
theorem dep_n {g : Gv} {D : Nat → Int} {i : Nat} (hi : i < g.palms.1) : depF g D i < g.palms.1 := by
  have := cntN_lt (p := fun k => keyF g D k < keyF g D i) (q := fun _ => True) (n := g.palms.1) (i := i) (fun _ _ _ => trivial) hi (by omega) trivial
  rw [cntN_n] at this; exact this
noncomputable def chL (g : Gv) (D : Nat → Int) : Nat → Nat → List Nat
  | 0,i => [i]
  | d + 1,i => if D i = g.start then [i] else chL g D d (bstJ g D i g.palms.1).toNat ++ [i]
end Go.Proofs.Ytpknbojgkkmonaa
