/- What is known by the last and by the greatest is the same. No condition. -/
import Derived.Test.YtlapepdhkomijaaRKnown
namespace Go.Proofs.Ytlapepdhkomijaa
open Go Go.RowKit

theorem adj_symm {x : Nat → Pm} {i k : Nat} (h : adj x i k) : adj x k i := h.elim (fun h => .inr h.symm) (fun h => .inl h.symm)
theorem Reach.lt {x : Nat → Pm} {n i k : Nat} (h : Reach x n i k) (hi : i < n) : k < n := by
  cases h with
  | refl => exact hi
  | step _ _ h => exact h
theorem Reach.symm {x : Nat → Pm} {n i k : Nat} (h : Reach x n i k) (hi : i < n) : Reach x n k i := by
  induction h with
  | refl => exact .refl
  | @step j k r ha hk ih =>
    exact Reach.head (adj_symm ha) (r.lt hi) ih
theorem fold_same (v : Int) (hv : 0 ≤ v) : ∀ (l : List Int) (s : Int), (s = 0 ∨ s = v) → (∀ e ∈ l, e = 0 ∨ e = v) → lastNZ s l = maxL s l
  | [], s, _, _ => rfl
  | e :: l, s, hs, hl => by
    have he := hl e (by simp)
    have hm : nz s e = max s e := by
      unfold nz
      rcases hs with rfl | rfl <;> rcases he with rfl | rfl <;> (split <;> omega)
    have hn : nz s e = 0 ∨ nz s e = v := by
      unfold nz
      split
      · exact hs
      · exact he
    have ih := fold_same v hv l (nz s e) hn (fun e' h => hl e' (by simp [h]))
    show lastNZ (nz s e) l = maxL (max s e) l
    rw [ih, hm]
theorem common_of {f : Nat → Int} {x : Nat → Pm} {n i : Nat} (hi : i < n) (hpos : ∀ k < n, 0 ≤ f k) (h : ∀ j k, j < n → k < n → Reach x n i j → Reach x n i k → f j ≠ 0 → f k ≠ 0 → f j = f k) :
    ∃ v, 0 ≤ v ∧ ∀ k < n, Reach x n i k → f k = 0 ∨ f k = v := by
  by_cases he : ∃ k, k < n ∧ Reach x n i k ∧ f k ≠ 0
  · obtain ⟨k, hk, hr, hf⟩ := he
    refine ⟨f k, hpos k hk, fun j hj hr' => ?_⟩
    by_cases h0 : f j = 0
    · exact .inl h0
    · exact .inr (h j k hj hk hr' hr h0 hf)
  · refine ⟨0, Int.le_refl _, fun k hk hr => .inl ?_⟩
    apply Classical.byContradiction
    intro h0
    exact he ⟨k, hk, hr, h0⟩
theorem ky_rky {x : Nat → Pm} {n : Nat} (hp : PValid x n) (hc : ∀ j < n, ¬ Clash x n j) : ∀ i < n, ky x n i = rky x n i := by
  intro i hi
  have hn : ∀ j k, j < n → k < n → Reach x n i j → Reach x n i k → ¬ conf x j k := by
    intro j k hj hk hrj hrk hcf
    have hjk : Reach x n j k := (hrj.symm hi).trans hrk
    rcases Nat.lt_trichotomy j k with h | h | h
    · refine hc k hk ⟨j, h, hjk.symm hj, ?_⟩
      rcases hcf with ⟨a, b, c⟩ | ⟨a, b, c⟩
      · exact .inl ⟨b, a, fun e => c e.symm⟩
      · exact .inr ⟨b, a, fun e => c e.symm⟩
    · subst h
      rcases hcf with ⟨_, _, c⟩ | ⟨_, _, c⟩ <;> exact c rfl
    · exact hc j hj ⟨k, h, hjk, hcf⟩
  have hmem : ∀ k ∈ selN (Tc x n i) n, k < n ∧ Reach x n i k := fun k hk => ⟨(selN_lt _ n k hk).1, (Tc_iff x n i k).1 (selN_lt _ n k hk).2⟩
  obtain ⟨v1, p1, h1⟩ := common_of (f := fun k => (x k).sex) hi (fun k hk => (hp.2 k hk).2.2.1.1) (fun j k hj hk a b c d => Classical.byContradiction fun e => hn j k hj hk a b (.inl ⟨c, d, e⟩))
  obtain ⟨v2, p2, h2⟩ := common_of (f := fun k => (x k).sort) hi (fun k hk => (hp.2 k hk).2.2.2.1.1) (fun j k hj hk a b c d => Classical.byContradiction fun e => hn j k hj hk a b (.inr ⟨c, d, e⟩))
  have e1 := fold_same v1 p1 ((selN (Tc x n i) n).map fun k => (x k).sex) (x i).sex (h1 i hi .refl) (fun e he => by
    obtain ⟨k, hk, rfl⟩ := List.mem_map.1 he
    exact h1 k (hmem k hk).1 (hmem k hk).2)
  have e2 := fold_same v2 p2 ((selN (Tc x n i) n).map fun k => (x k).sort) (x i).sort (h2 i hi .refl) (fun e he => by
    obtain ⟨k, hk, rfl⟩ := List.mem_map.1 he
    exact h2 k (hmem k hk).1 (hmem k hk).2)
  unfold ky rky rkp
  rw [e1, e2]
end Go.Proofs.Ytlapepdhkomijaa
