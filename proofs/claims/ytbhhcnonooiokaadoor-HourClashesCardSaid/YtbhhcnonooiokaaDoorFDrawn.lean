/- The engine, part 20: a region whose order is drawn: whatever the order, its first operations give what they give in the order of the text. No condition. -/
import Derived.Test.YtbhhcnonooiokaaDoorFMain2
namespace Go.Proofs.YtbhhcnonooiokaaDoor
open Go Go.RowKit
variable {P : Program} {E : Env} {A0 : Nat → Prop} {w0 : World} {Qf : Val → Bx → Prop}

/-! what reads more memory reads the same -/
theorem snap_mono {bx bx' : Bx} (h : ∀ b c, bget bx b = some c → bget bx' b = some c) : ∀ (d : Nat) (v : Val), snapOk bx d v = true → snapV bx' d v = snapV bx d v ∧ snapOk bx' d v = true := by
  intro d
  induction d with
  | zero => intro v hs; simp only [snapOk] at hs; exact ⟨by simp only [snapV], by simp only [snapOk]; exact hs⟩
  | succ d ihd =>
    intro v
    induction v with
    | cons a t ih1 ih2 =>
      intro hs
      simp only [snapOk, Bool.and_eq_true] at hs
      obtain ⟨e1, e2⟩ := ih1 hs.1
      obtain ⟨e3, e4⟩ := ih2 hs.2
      exact ⟨by simp only [snapV, e1, e3], by simp only [snapOk, e2, e4]; rfl⟩
    | agg l ih => intro hs; simp only [snapOk] at hs; obtain ⟨e1, e2⟩ := ih hs; exact ⟨by simp only [snapV, e1], by simp only [snapOk, e2]⟩
    | tup l ih => intro hs; simp only [snapOk] at hs; obtain ⟨e1, e2⟩ := ih hs; exact ⟨by simp only [snapV, e1], by simp only [snapOk, e2]⟩
    | func fn l ih => intro hs; simp only [snapOk] at hs; obtain ⟨e1, e2⟩ := ih hs; exact ⟨by simp only [snapV, e1], by simp only [snapOk, e2]⟩
    | own b =>
      intro hs
      simp only [snapOk] at hs
      split at hs
      · rename_i e k n c hb; exact ⟨by simp only [snapV, hb, h b _ hb], by simp only [snapOk, h b _ hb]⟩
      · cases hs
    | rptr b i off =>
      intro hs
      simp only [snapOk] at hs
      split at hs
      · rename_i e k n c hb; exact ⟨by simp only [snapV, hb, h b _ hb], by simp only [snapOk, h b _ hb]⟩
      · cases hs
    | ptr b off =>
      intro hs
      simp only [snapOk] at hs
      split at hs
      · rename_i l hb
        obtain ⟨e1, e2⟩ := ihd l hs
        exact ⟨by simp only [snapV, hb, h b _ hb, e1], by simp only [snapOk, h b _ hb, e2]⟩
      · cases hs
    | mapb b =>
      intro hs
      simp only [snapOk] at hs
      split at hs
      · rename_i kd has f hb
        have hs := @of_decide_eq_true _ (Classical.propDecidable _) hs
        refine ⟨?_, ?_⟩
        · simp only [snapV, hb, h b _ hb]
          congr 1
          funext k
          cases hk : has k with
          | false => rfl
          | true => exact (ihd (f k) (hs k hk)).1
        · simp only [snapOk, h b _ hb]
          exact @decide_eq_true _ (Classical.propDecidable _) fun k hk => (ihd (f k) (hs k hk)).2
      · cases hs
    | yld b => intro hs; simp [snapOk] at hs
    | _ => intro _; exact ⟨by simp only [snapV], by simp only [snapOk]⟩
theorem snapL_mono {bx bx' : Bx} (h : ∀ b c, bget bx b = some c → bget bx' b = some c) : ∀ (l : List Val), snapOks bx l = true → snapL bx' l = snapL bx l ∧ snapOks bx' l = true := by
  intro l; induction l with
  | nil => intro _; exact ⟨rfl, rfl⟩
  | cons v l ih =>
    intro hs
    simp only [snapOks, Bool.and_eq_true] at hs
    obtain ⟨e1, e2⟩ := snap_mono h 4 v hs.1
    obtain ⟨e3, e4⟩ := ih hs.2
    exact ⟨by simp only [snapL, e1, e3], by simp only [snapOks, e2, e4]; rfl⟩
theorem aop_mono {fr : Fr} {bx bx' : Bx} {nx : Nat} (h : ∀ b c, bget bx b = some c → bget bx' b = some c) (op : AOp) (hp : (aop E fr bx nx op).pre) : aop E fr bx' nx op = aop E fr bx nx op := by
  cases op <;> first | rfl | skip
  case load ag s x =>
    cases hv : ev E fr x <;> simp only [aop, hv] at hp ⊢
    · split at hp
      · rename_i l hb; simp only [h _ _ hb]
      · exact hp.elim
    · split at hp
      · rename_i e k n c hb; simp only [h _ _ hb]
      · exact hp.elim
  case idx k x i =>
    cases hv : ev E fr x <;> cases hu : ev E fr i <;> simp only [aop, hv, hu] at hp ⊢
    split at hp
    · rename_i e k' n c hb; simp only [h _ _ hb]
    · exact hp.elim
  case mget kd ok z x k =>
    cases hv : ev E fr x <;> cases hu : ev E fr k <;> simp only [aop, hv, hu] at hp ⊢
    split at hp
    · rename_i kd' has f hb; simp only [h _ _ hb]
    · exact hp.elim
  case len x =>
    cases hv : ev E fr x <;> simp only [aop, hv, lenV] at hp ⊢
    split at hp
    · rename_i e k n c hb; simp only [h _ _ hb]
    · exact hp.elim
  case call f args =>
    cases hv : ev E fr f <;> simp only [aop, hv] at hp ⊢
    rename_i fn caps
    cases fn <;> simp only at hp ⊢
    rename_i id
    cases hs : E.S id <;> simp only [hs] at hp ⊢
    simp only [specV] at hp ⊢
    split
    · rfl
    · rename_i hpu
      simp only [hpu] at hp
      obtain ⟨e1, e2⟩ := snapL_mono h _ hp.2.1
      simp only [e1, e2, hp.2.1]

/-! who lies ahead -/
theorem aheads_len : ∀ (l : List Oper) (acc : List Nat), (aheads acc l).length = acc.length + l.length := by
  intro l; induction l with
  | nil => intro acc; rfl
  | cons o l ih => intro acc; simp only [aheads, ih, List.length_append, List.length_cons, List.length_nil]; omega
theorem aheads_pre : ∀ (l : List Oper) (acc : List Nat) (k : Nat), k < acc.length → (aheads acc l)[k]? = acc[k]? := by
  intro l; induction l with
  | nil => intro acc k _; rfl
  | cons o l ih => intro acc k hk; simp only [aheads]; rw [ih _ _ (by simp; omega), List.getElem?_append_left hk]
theorem aheads_get : ∀ (l : List Oper) (acc : List Nat) (j : Nat) (o : Oper), l[j]? = some o → (aheads acc l)[acc.length + j]? = some (aheadOf ((aheads acc l).take (acc.length + j)) o) := by
  intro l; induction l with
  | nil => intro acc j o h; simp at h
  | cons q l ih =>
    intro acc j o h
    cases j with
    | zero =>
      simp at h; subst h
      simp only [aheads, Nat.add_zero]
      have h1 := aheads_pre l (acc ++ [aheadOf acc q]) acc.length (by simp)
      rw [h1, List.getElem?_append_right (Nat.le_refl _)]
      simp
      congr 1
      apply List.ext_getElem?
      intro k
      by_cases hk : k < acc.length
      · rw [List.getElem?_take_of_lt hk, aheads_pre _ _ _ (by simp; omega), List.getElem?_append_left hk]
      · rw [List.getElem?_eq_none (by omega), List.getElem?_eq_none (by simp; omega)]
    | succ j =>
      simp only [aheads]
      have := ih (acc ++ [aheadOf acc q]) j o (by simpa using h)
      rw [List.length_append, List.length_singleton, show acc.length + 1 + j = acc.length + (j + 1) from by omega] at this
      exact this
theorem aheadOf_bit (acc : List Nat) (o : Oper) (i : Nat) (h : (aheadOf acc o).testBit i = true) : ∃ e ∈ o.after.toList, Region.binds .any e = true ∧ (i = e.on ∨ (acc.getD e.on 0).testBit i = true) := by
  unfold aheadOf at h
  have gen : ∀ (l : List Edge) (s : Nat), (l.foldl (fun s e => if Region.binds .any e then s ||| 2 ^ e.on ||| acc.getD e.on 0 else s) s).testBit i = true → s.testBit i = true ∨ ∃ e ∈ l, Region.binds .any e = true ∧ (i = e.on ∨ (acc.getD e.on 0).testBit i = true) := by
    intro l; induction l with
    | nil => intro s h; exact .inl h
    | cons e l ih =>
      intro s h
      simp only [List.foldl_cons] at h
      rcases ih _ h with h | ⟨e', he', h'⟩
      · split at h
        · rename_i hb
          simp only [Nat.testBit_or, Bool.or_eq_true, Nat.testBit_two_pow] at h
          rcases h with (h | h) | h
          · exact .inl h
          · exact .inr ⟨e, by simp, hb, .inl (by have h' := h; simp at h'; omega)⟩
          · exact .inr ⟨e, by simp, hb, .inr h⟩
        · exact .inl h
      · exact .inr ⟨e', by simp [he'], h'⟩
  rcases gen _ 0 h with h | h
  · simp at h
  · exact h
/-- what lies ahead of one that is listed, or ready, is listed -/
theorem ahead_listed {ops : List Oper} {L : Nat → Bool} (hao : afterOk ops = true) (hcl : ∀ j o, ops[j]? = some o → L j = true → ∀ e ∈ o.after.toList, Region.binds .any e = true → L e.on = true) :
    ∀ (j : Nat) (o : Oper), ops[j]? = some o → (∀ e ∈ o.after.toList, Region.binds .any e = true → L e.on = true) → ∀ i, ((aheads [] ops).getD j 0).testBit i = true → L i = true := by
  intro j
  induction j using Nat.strongRecOn with
  | _ j ih =>
  intro o ho hr i hb
  have h1 := aheads_get ops [] j o ho
  simp only [List.length_nil, Nat.zero_add] at h1
  rw [List.getD_eq_getElem?_getD, h1] at hb
  obtain ⟨e, he, hbe, h2⟩ := aheadOf_bit _ o i hb
  have hlt : e.on < j := by
    have hj : j < ops.length := by rcases Nat.lt_or_ge j ops.length with h | h; exact h; simp [List.getElem?_eq_none h] at ho
    have := List.all_eq_true.1 hao j (by simpa using hj)
    simp only [ho] at this
    have := List.all_eq_true.1 this e he
    simpa [hbe] using this
  rcases h2 with rfl | h2
  · exact hr e he hbe
  · have hlen : e.on < ((aheads [] ops).take j).length := by
      rw [List.length_take, aheads_len]
      have hj : j < ops.length := by rcases Nat.lt_or_ge j ops.length with h | h; exact h; simp [List.getElem?_eq_none h] at ho
      simp; omega
    have h3 : ((aheads [] ops).take j).getD e.on 0 = (aheads [] ops).getD e.on 0 := by
      rw [List.getD_eq_getElem?_getD, List.getD_eq_getElem?_getD, List.getElem?_take_of_lt hlt]
    rw [h3] at h2
    have hj : j < ops.length := by rcases Nat.lt_or_ge j ops.length with h | h; exact h; simp [List.getElem?_eq_none h] at ho
    obtain ⟨o', ho'⟩ : ∃ o', ops[e.on]? = some o' := ⟨ops[e.on], List.getElem?_eq_getElem (by omega)⟩
    exact ih e.on hlt o' ho' (hcl e.on o' ho' (hr e he hbe)) i h2
theorem apart_spec {ops : List Oper} {m : List Nat} {gs : List (Option Nat)} (h : apartOk ops m gs = true) {i j : Nat} {x y : Oper} (hx : ops[i]? = some x) (hy : ops[j]? = some y) (hij : i ≠ j) {d : Nat} (hd : x.dst = some d) :
    y.dst ≠ some d ∧ ((d ∈ looks y ∨ gs.getD j none = some d) → (i < j ∧ (m.getD j 0).testBit i = true) ∨ (j < i ∧ (m.getD i 0).testBit j = true)) := by
  have hi : i < ops.length := by rcases Nat.lt_or_ge i ops.length with h | h; exact h; simp [List.getElem?_eq_none h] at hx
  have hj : j < ops.length := by rcases Nat.lt_or_ge j ops.length with h | h; exact h; simp [List.getElem?_eq_none h] at hy
  have h1 := List.all_eq_true.1 (List.all_eq_true.1 h i (by simpa using hi)) j (by simpa using hj)
  simp only [hx, hy, hd] at h1
  have hne : (i == j) = false := by simpa using hij
  simp only [hne, Bool.false_or, Bool.and_eq_true] at h1
  refine ⟨by simpa using h1.1, fun h2 => ?_⟩
  have h3 := h1.2
  simp only [Bool.or_eq_true, Bool.not_eq_true', Bool.or_eq_false_iff, Bool.and_eq_true, decide_eq_true_eq] at h3
  rcases h3 with (h3 | h3) | h3
  · rcases h2 with h2 | h2
    · have := h3.1
      rw [List.contains_iff_mem.2 h2] at this
      cases this
    · have := h3.2
      rw [h2] at this
      simp at this
  · exact .inl h3
  · exact .inr h3

end Go.Proofs.YtbhhcnonooiokaaDoor
