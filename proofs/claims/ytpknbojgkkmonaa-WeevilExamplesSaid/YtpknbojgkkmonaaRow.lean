/- Rows of k cells in a block of the call's own: read, written; what append leaves. No condition. -/
import Derived.Test.YtpknbojgkkmonaaE1
import Derived.Maps.AppendAt
import Derived.Laws.EntriesVeiled
set_option linter.unusedSimpArgs false
set_option linter.unusedVariables false
namespace Go.Proofs.Ytpknbojgkkmonaa
open Go Go.RowKit
theorem addr_add (b off j : Nat) : (⟨b,off,none⟩ : Addr).add j = ⟨b,off + j,none⟩ := by
  unfold Addr.add; split <;> simp_all
def flat (k : Nat) (f : Nat → Nat → Value) : Nat → List Value
  | 0 => []
  | n + 1 => flat k f n ++ (List.range k).map (f n)
theorem flat_len (k : Nat) (f : Nat → Nat → Value) : ∀ n,(flat k f n).length = n * k
  | 0 => by simp [flat]
  | n + 1 => by simp [flat,flat_len k f n,Nat.succ_mul]
theorem flat_get (k : Nat) (f : Nat → Nat → Value) : ∀ n i j,i < n → j < k → (flat k f n)[i * k + j]? = some (f i j)
  | 0,i,j,h,_ => by omega
  | n + 1,i,j,h,hj => by
    unfold flat
    rcases Nat.lt_or_ge i n with h' | h'
    · have h2 := flat_get k f n i j h' hj
      have : i * k + j < (flat k f n).length := by
        rw [flat_len]
        have := Nat.mul_le_mul_right k (show i + 1 ≤ n from h')
        rw [Nat.succ_mul] at this; omega
      rw [List.getElem?_append_left this]; exact h2
    · obtain rfl : i = n := by omega
      rw [List.getElem?_append_right (by rw [flat_len]; omega),flat_len]
      have : i * k + j - i * k = j := by omega
      rw [this]
      simp [List.getElem?_range hj]
theorem flat_inv {k : Nat} {f : Nat → Nat → Value} {n : Nat} {m : Nat} {u : Value} (h : (flat k f n)[m]? = some u) : ∃ i j,i < n ∧ j < k ∧ m = i * k + j ∧ u = f i j := by
  have hlt : m < n * k := by
    have := (List.getElem?_eq_some_iff.1 h).1
    rwa [flat_len] at this
  have hk : 0 < k := by
    rcases Nat.eq_zero_or_pos k with h0 | h0
    · subst h0; simp at hlt
    · exact h0
  have hi : m / k < n := by rw [Nat.div_lt_iff_lt_mul hk]; exact hlt
  have hj : m % k < k := Nat.mod_lt _ hk
  have hm : m / k * k + m % k = m := by have := Nat.div_add_mod m k; rw [Nat.mul_comm] at this; exact this
  have := flat_get k f n (m / k) (m % k) hi hj
  rw [hm,h] at this
  exact ⟨_,_,hi,hj,hm.symm,by simpa using this⟩
def Row (w : World) (g : Nat) (t : TypeId) (k n : Nat) (f : Nat → Nat → Value) : Prop :=
  ∃ cur : Array Value,w.heap[g]? = some (.cells cur t (0,0)) ∧ ∀ i,i < n → ∀ j,j < k → cur[i * k + j]? = some (f i j)
section
variable {w w' : World} {g : Nat} {t : TypeId} {k n : Nat} {f : Nat → Nat → Value}
theorem Row.lt (h : Row w g t k n f) : g < w.heap.size := by obtain ⟨c,h1,_⟩ := h; exact lt_of_block h1
theorem Row.below {B : Nat} (h : Row w g t k n f) (hb : Below B w w') (hB : g < B) : Row w' g t k n f := by
  obtain ⟨c,h1,h2⟩ := h; exact ⟨c,(hb.block g hB).trans h1,h2⟩
theorem Row.ext (h : Row w g t k n f) (hb : Ext w w') : Row w' g t k n f := h.below hb h.lt
theorem Row.alloc (h : Row w g t k n f) (o : Obj) : Row (w.alloc o) g t k n f := by
  have hl := h.lt
  obtain ⟨c,h1,h2⟩ := h; exact ⟨c,(Below.heap_alloc w o g hl).trans h1,h2⟩
theorem Row.setO (h : Row w g t k n f) {b : Nat} (hne : g ≠ b) (i : Nat) (v : Value) : Row (w.setCell ⟨b,i,none⟩ v) g t k n f := by
  obtain ⟨c,h1,h2⟩ := h; exact ⟨c,(Below.heap_setCell w ⟨b,i,none⟩ v g hne).trans h1,h2⟩
theorem Row.cell (h : Row w g t k n f) {i j : Nat} (hi : i < n) (hj : j < k) : w.cell? ⟨g,i * k + j,none⟩ = some (f i j) := by
  obtain ⟨c,h1,h2⟩ := h
  simp [World.cell?,h1,h2 i hi j hj]
theorem Row.cel (h : Row w g t k n f) : Cel w g 0 k n f := fun i hi j hj => by
  have := h.cell hi hj
  simpa using this
theorem Row.froz (h : Row w g t k n f) (o : Nat) : w.frozen? ⟨g,o,none⟩ = false := by
  obtain ⟨c,h1,_⟩ := h
  simp [World.frozen?,h1]
theorem Row.sl (h : Row w g t k n f) (c : Nat) (hn : n ≤ maxLen) : SL w (.slice (some ⟨g,0,none⟩) n c) k n f := ⟨_,c,rfl,hn,fun _ => ⟨g,0,rfl,h.cel⟩⟩
theorem Row.congr {f' : Nat → Nat → Value} (h : Row w g t k n f) (e : ∀ i < n,∀ j < k,f i j = f' i j) : Row w g t k n f' := by
  obtain ⟨c,h1,h2⟩ := h
  exact ⟨c,h1,fun i hi j hj => by rw [h2 i hi j hj,e i hi j hj]⟩
theorem mul_add_inj {i j i' j' : Nat} (hj : j < k) (hj' : j' < k) (h : i * k + j = i' * k + j') : i = i' ∧ j = j' := by
  have hk : 0 < k := by omega
  have h1 : (i * k + j) / k = i := by rw [Nat.mul_comm,Nat.mul_add_div hk,Nat.div_eq_of_lt hj]; omega
  have h2 : (i' * k + j') / k = i' := by rw [Nat.mul_comm,Nat.mul_add_div hk,Nat.div_eq_of_lt hj']; omega
  have e : i = i' := by rw [← h1,h,h2]
  subst e
  exact ⟨rfl,by omega⟩
theorem Row.set (h : Row w g t k n f) {i j : Nat} (hi : i < n) (hj : j < k) (v : Value) : Row (w.setCell ⟨g,i * k + j,none⟩ v) g t k n (fun i' j' => if i' = i ∧ j' = j then v else f i' j') := by
  have hlt := h.lt
  obtain ⟨c,h1,h2⟩ := h
  have h' : w.heap[g] = .cells c t (0,0) := by simpa [Array.getElem?_eq_getElem hlt] using h1
  refine ⟨c.setIfInBounds (i * k + j) v,?_,?_⟩
  · show (w.heap.modify g _)[g]? = _
    rw [Array.getElem?_eq_getElem (by simpa using hlt),Array.getElem_modify_self,h']
    simp
  · intro i' hi' j' hj'
    rw [Array.getElem?_setIfInBounds]
    have hin : i * k + j < c.size := by
      have := h2 i hi j hj
      exact (Array.getElem?_eq_some_iff.1 this).1
    by_cases e : i' = i ∧ j' = j
    · obtain ⟨rfl,rfl⟩ := e
      simp [hin]
    · have hne : ¬ i * k + j = i' * k + j' := fun e' => e (by obtain ⟨a,b⟩ := mul_add_inj hj hj' e'; exact ⟨a.symm,b.symm⟩)
      rw [if_neg hne]
      simp [e,h2 i' hi' j' hj']
theorem Row.of_owns {base : Nat} {v : Value} (h : w.ownsRow base t k v n (flat k f n)) (h0 : v ≠ .slice none 0 0) : ∃ g c,v = .slice (some ⟨g,0,none⟩) n c ∧ base ≤ g ∧ n ≤ c ∧ Row w g t k n f := by
  rcases h.2 with ⟨h1,_⟩ | ⟨g,cap,cur,h1,h2,h3,h4,h5,h6,h7⟩
  · exact absurd h1 h0
  · refine ⟨g,cap,h1,h2,h4,cur,h3,fun i hi j hj => ?_⟩
    have := flat_get k f n i j hi hj
    rw [← h7,List.getElem?_take] at this
    split at this
    · simpa using this
    · cases this
end
end Go.Proofs.Ytpknbojgkkmonaa
