/- The two texts' valid palms are the same. No condition. -/
import Derived.Test.YtlapepdhkomijaaRClones
namespace Go.Proofs.Ytlapepdhkomijaa
open Go Go.RowKit

theorem mono_of {x : Nat → Pm} {n : Nat} (h0 : ∀ i < n, 0 < i → (x (i - 1)).id < (x i).id) : ∀ i j, j < n → i < j → (x i).id < (x j).id := by
  intro i j
  induction j with
  | zero => intro _ h; omega
  | succ j ih =>
    intro hj hij
    have h1 := h0 (j + 1) hj (by omega)
    simp only [Nat.add_sub_cancel] at h1
    rcases Nat.lt_or_ge i j with h | h
    · have := ih (by omega) h; omega
    · obtain rfl : i = j := by omega
      exact h1
theorem inj_of {x : Nat → Pm} {n : Nat} (h0 : ∀ i < n, 0 < i → (x (i - 1)).id < (x i).id) : ∀ i j, i < n → j < n → (x i).id = (x j).id → i = j := by
  intro i j hi hj he
  rcases Nat.lt_trichotomy i j with h | h | h
  · have := mono_of h0 i j hj h; omega
  · exact h
  · have := mono_of h0 j i hi h; omega
theorem lastIx_inj {x : Nat → Pm} {k : Int} : ∀ {n m : Nat}, (∀ i j, i < n → j < n → (x i).id = (x j).id → i = j) → m < n → (x m).id = k → lastIx x k n = some m
  | 0, m, _, h, _ => by omega
  | n + 1, m, hinj, h, he => by
    unfold lastIx
    by_cases e : k = (x n).id
    · rw [if_pos e]
      have := hinj m n h (by omega) (he.trans e)
      rw [this]
    · rw [if_neg e]
      have : m ≠ n := fun e' => e (by rw [← he, e'])
      exact lastIx_inj (fun i j hi hj => hinj i j (by omega) (by omega)) (by omega) he
theorem isAt_inj {x : Nat → Pm} {n m : Nat} {k : Int} (hinj : ∀ i j, i < n → j < n → (x i).id = (x j).id → i = j) (h : m < n) (he : (x m).id = k) : IsAt x n k m :=
  .inr ⟨m, h, rfl, he, fun i hi e => by have := hinj i m (by omega) h (e.trans he.symm); omega⟩
theorem next_of {x : Nat → Pm} {n : Nat} (hp : ∀ i < n, nextOf x i ≤ (x i).id) : (∀ i < n, 0 ≤ (x i).id) ∧ ∀ i < n, 0 < i → (x (i - 1)).id < (x i).id := by
  have h2 : ∀ i < n, 0 < i → (x (i - 1)).id < (x i).id := by
    intro i hi h0
    have := hp i hi
    obtain ⟨j, rfl⟩ : ∃ j, i = j + 1 := ⟨i - 1, by omega⟩
    simp only [nextOf, Nat.add_sub_cancel] at *
    omega
  refine ⟨fun i => ?_, h2⟩
  induction i with
  | zero => intro h; have := hp 0 h; simpa [nextOf] using this
  | succ i ih => intro h; have := h2 (i + 1) h (by omega); have := ih (by omega); simp only [Nat.add_sub_cancel] at *; omega
theorem of_next {x : Nat → Pm} {n : Nat} (h1 : ∀ i < n, 0 ≤ (x i).id) (h2 : ∀ i < n, 0 < i → (x (i - 1)).id < (x i).id) : ∀ i < n, nextOf x i ≤ (x i).id := by
  intro i hi
  cases i with
  | zero => simpa [nextOf] using h1 0 hi
  | succ i => have := h2 (i + 1) hi (by omega); simp only [nextOf, Nat.add_sub_cancel] at *; omega
theorem valid_iff {x : Nat → Pm} {n : Nat} (hu : ∀ i, 0 ≤ (x i).sex ∧ (x i).sex ≤ 255) : PValid x n ↔ RValid x n := by
  constructor
  · rintro ⟨h24, hp⟩
    obtain ⟨h1, h2⟩ := next_of (fun i hi => (hp i hi).1.1)
    have hinj := inj_of h2
    refine ⟨h24, fun i hi => ?_⟩
    obtain ⟨⟨a1, a2⟩, a3, a4, a5, a6⟩ := hp i hi
    refine ⟨⟨⟨h1 i hi, a2⟩, h2 i hi, a3, a4.2, a5⟩, ?_⟩
    rcases a6 with h | ⟨m, hm, h⟩
    · exact .inl h
    · have := lastIx_some hm
      exact .inr ⟨m, this.1, isAt_inj hinj this.1 this.2, h⟩
  · rintro ⟨h24, hr⟩
    have h1 : ∀ i < n, 0 ≤ (x i).id := fun i hi => (hr i hi).1.1.1
    have h2 : ∀ i < n, 0 < i → (x (i - 1)).id < (x i).id := fun i hi => (hr i hi).1.2.1
    have hinj := inj_of h2
    refine ⟨h24, fun i hi => ?_⟩
    obtain ⟨⟨⟨a1, a2⟩, a3, a4, a5, a6⟩, a7⟩ := hr i hi
    refine ⟨⟨of_next h1 h2 i hi, a2⟩, a4, ⟨(hu i).1, a5⟩, a6, ?_⟩
    rcases a7 with h | ⟨m, hm, hat, h⟩
    · exact .inl h
    · rcases hat with ⟨h', _⟩ | ⟨m', b1, b2, b3, _⟩
      · omega
      · obtain rfl : m = m' := by omega
        exact .inr ⟨m, lastIx_inj hinj b1 b3, h⟩
theorem RV_of {x : Nat → Pm} {n : Nat} (h : RValid x n) : RV x n := by
  have h2 : ∀ i < n, 0 < i → (x (i - 1)).id < (x i).id := fun i hi => (h.2 i hi).1.2.1
  refine ⟨inj_of h2, fun k hk hm => ?_, fun i hi => by have := (h.2 i hi).1.1.1; omega⟩
  rcases (h.2 k hk).2 with h' | ⟨m, hm', hat, _⟩
  · exact absurd h' hm
  · rcases hat with ⟨h', _⟩ | ⟨m', b1, b2, b3, _⟩
    · omega
    · obtain rfl : m = m' := by omega
      exact ⟨m, b1, b3, hm⟩
end Go.Proofs.Ytlapepdhkomijaa
