/- append([]T{}, src...): a copy of a slice in new memory, at the operation. No condition. -/
import Derived.Test.YtlapepdhkomijaaPClone
import Derived.Laws.AppendOwnNone
namespace Go.Proofs.Ytlapepdhkomijaa
open Go Go.RowKit

/-- how a slice value is written: nil, or somewhere -/
def Plain (v : Value) : Prop := v = .slice none 0 0 ∨ ∃ ad n c, v = .slice (some ad) n c
theorem flat_one {k : Nat} {f : Nat → Nat → Value} {n : Nat} (h : ∀ i j, (f i j).oneCell' = true) : ∀ u ∈ flat k f n, u.oneCell' = true := by
  intro u hu
  obtain ⟨m, hm⟩ := List.mem_iff_getElem?.1 hu
  obtain ⟨i, j, _, _, _, rfl⟩ := flat_inv hm
  exact h i j
theorem wpList_copy_all {P : Program} {w : World} {ops : Array Oper} {rest : List Oper} {o : Oper} {a : Act} {Q : Exit → Act → World → Prop} (hgd : o.guard = none) (s x : Operand) (t : TypeId)
    (ho : o.op = .call { callee := .builtin .append, args := #[s, x], argTypes := #[t, t] }) (e : TypeId) (i : TypeInfo) (z : Value) (size bytes : Nat) (ht : P.underlying t = some (.slice e)) (hi : P.info? e = some i) (hz : i.zero = some z)
    (hsize : i.size = size) (hby : i.bytes = bytes) (hzs : z.cells.size = size) (hsz : 0 < size)
    (hs : a.eval s = .slice (some ⟨w.heap.size, 0, none⟩) 0 0) (v : Value) (hx : a.eval x = v) (n : Nat) (f : Nat → Nat → Value) (hv : SL w v size n f) (hp : Plain v) (h1 : ∀ i j, (f i j).oneCell' = true) (hb : n * bytes ≤ 140737488355328)
    (h : ∀ u w', OwnS w.heap.size w' e size u n f → Plain u → Ext w w' → wpList P ops Q rest (a.put o.dst u) w') : wpList P ops Q (o :: rest) a (w.alloc (.cells #[] e)) := by
  obtain ⟨ad, c, rfl, hn, hc⟩ := hv
  rcases hp with hp | ⟨ad', n', c', hp⟩
  · cases hp
    refine wpList_append_own_none hgd s x t ho w.heap.size e i size ht hi _ 0 [] hs (owns_empty w e size _ (Nat.le_refl _)) hx ?_
    exact h _ _ ⟨_, _, rfl, hn, fun h => absurd h (by omega)⟩ (.inr ⟨_, _, _, rfl⟩) ((Below.refl _ w).alloc (Nat.le_refl _) _)
  · cases hp
    have hnews : ∀ j u, (flat size f n)[j]? = some u → (w.alloc (.cells #[] e)).cell? (ad'.add j) = some u := by
      intro j u hj
      rcases Nat.eq_zero_or_pos n with h | h
      · subst h; simp [flat] at hj
      · obtain ⟨b', off', h1, h2⟩ := hc h
        cases h1
        exact news_of (h2.ext ((Below.refl _ w).alloc (Nat.le_refl _) _)) j u hj
    refine wpList_append_own _ hgd s x t ho w.heap.size e i z size bytes ht hi hz hsize hby hzs hsz _ 0 [] hs (owns_empty w e size _ (Nat.le_refl _)) ad' n c (flat size f n) hx (flat_len size f n) hnews (flat_one h1) (by omega) (by rw [Nat.zero_add]; exact hb) (by simp) ?_
    intro v' w' hown hg hnl
    simp only [Nat.zero_add, List.nil_append] at hown
    refine h _ _ (OwnS.of_owns hsz hown hn) ?_ (((Below.refl _ w).alloc (Nat.le_refl _) _).grown hg (by simp) (by intro k hk; cases hk; exact Nat.le_refl _))
    rcases hown.2 with ⟨h1, _⟩ | ⟨g, cap, cur, h1, _⟩
    · exact .inl h1
    · exact .inr ⟨_, _, _, h1⟩
end Go.Proofs.Ytlapepdhkomijaa
