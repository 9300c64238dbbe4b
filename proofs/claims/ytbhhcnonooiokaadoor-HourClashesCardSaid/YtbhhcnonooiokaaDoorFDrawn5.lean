/- The engine, part 20e: a region whose order is drawn: the whole. No condition. -/
import Derived.Test.YtbhhcnonooiokaaDoorFDrawn4
namespace Go.Proofs.YtbhhcnonooiokaaDoor
open Go Go.RowKit
variable {P : Program} {E : Env} {A0 : Nat → Prop} {w0 : World} {Qf : Val → Bx → Prop}
section
variable {stk : List SFrame} {fr fr' : Fr} {bx bx' : Bx} {nx : Nat} {a : Act} {w w1 : World} {β β1 : Nat → Loc} {as : List Act}
theorem Rel.softN (h : Rel P A0 w0 β stk as fr bx nx a w) {nm : Nat} {new : Option Box} (hB : bget bx nm = none) (hlt : ∀ c, new = some c → nm < nx) (hs : Soft P A0 w0 β β1 (bget bx) nm new w w1) {v : Val} {x : Value} (hv : RepM A0 w0 β1 (extB (bget bx) nm new) w1 v x) (d : Option Nat) (hd : ∀ s, d = some s → s < a.tmps.size) :
    Rel P A0 w0 β1 stk as (fput fr d v) (addB nm new bx) nx (a.put d x) w1 := by
  refine ⟨?_, ?_, ?_, by rw [put_dfs, bget_addB]; exact h.df.mono hs.keep.size (hs.al h.mem hB), h.sn⟩
  · rw [bget_addB]; exact hs.mem h.mem hB (Nat.le_refl _) hlt
  · rw [bget_addB]; exact fr_put (fun t => hs.rep h.mem hB (h.fr t)) hv d hd
  · refine StkR.mono (A := fun _ => True) (A' := fun _ => True) (fun n v x hr => ?_) h.st
    rw [bget_addB]
    refine Rep.mono hs.keep.size (hs.al h.mem hB) (fun b c hb => ?_) v x hr
    simp only [Bres] at hb ⊢
    split at hb
    · rename_i hlt
      rw [if_pos hlt]
      exact ⟨c, extB_some hB hb, Kin.refl c, hs.loc b c hb⟩
    · cases hb
theorem Rel.more (h : Rel P A0 w0 β stk as fr bx nx a w) {nx' : Nat} (hn : nx ≤ nx') : Rel P A0 w0 β stk as fr bx nx' a w :=
  ⟨⟨h.mem.bx, h.mem.inj, fun b c hb => Nat.lt_of_lt_of_le (h.mem.nx b c hb) hn, h.mem.base, h.mem.below⟩, h.fr, h.st, h.df, fun f hf => Nat.le_trans (h.sn f hf) hn⟩
theorem Rel.putU (h : Rel P A0 w0 β stk as fr bx nx a w) (d : Option Nat) : Rel P A0 w0 β stk as (fput fr d .und) bx nx a w :=
  ⟨h.mem, fun t => by rw [fget_fput]; split; · trivial
                      · exact h.fr t, h.st, h.df, h.sn⟩
theorem Rel.congr (h : Rel P A0 w0 β stk as fr bx nx a w) (hf : ∀ t, fget fr' t = fget fr t) (hb : bget bx' = bget bx) : Rel P A0 w0 β stk as fr' bx' nx a w :=
  ⟨by rw [hb]; exact h.mem, fun t => by rw [hb, hf]; exact h.fr t, by rw [hb]; exact h.st, by rw [hb]; exact h.df, h.sn⟩
theorem Msk.un {D D' : Nat → Prop} {mf : Fr} {d : Option Nat} {v : Val} (h : Msk D fr mf) (hD : ∀ t, D t ↔ D' t ∨ d = some t) (hD2 : ∀ t, d = some t → ¬ D' t) (hv : ∀ t, d = some t → fget fr t = v) : Msk D' fr (fput mf d v) := by
  intro t
  rw [fget_fput]
  by_cases e : d = some t
  · rw [if_pos e]; exact ⟨fun ht => absurd ht (hD2 t e), fun _ => (hv t e).symm⟩
  · rw [if_neg e]; exact ⟨fun ht => (h t).1 ((hD t).2 (.inl ht)), fun ht => (h t).2 fun hd => ((hD t).1 hd).elim ht e⟩
theorem MskB.un {N N' : Nat → Prop} {mb : Bx} {nm : Nat} {new : Option Box} (h : MskB N bx mb) (hN : ∀ b, N b ↔ N' b ∨ ((∃ c, new = some c) ∧ b = nm)) (hN2 : ∀ c, new = some c → ¬ N' nm) (hv : ∀ c, new = some c → bget bx nm = some c) : MskB N' bx (addB nm new mb) := by
  intro b
  rw [bget_addB]
  cases hn : new with
  | none => exact ⟨fun hb => (h b).1 ((hN b).2 (.inl hb)), fun hb => (h b).2 fun hd => ((hN b).1 hd).elim hb fun ⟨⟨c, hc⟩, _⟩ => by rw [hn] at hc; cases hc⟩
  | some c =>
    simp only [extB]
    by_cases e : b = nm
    · subst e; rw [if_pos rfl]; exact ⟨fun hb => absurd hb (hN2 c hn), fun _ => (hv c hn).symm⟩
    · rw [if_neg e]; exact ⟨fun hb => (h b).1 ((hN b).2 (.inl hb)), fun hb => (h b).2 fun hd => ((hN b).1 hd).elim hb fun h => e h.2⟩
theorem step_lt {ao : AOper} {stk1 : List SFrame} {nx1 : Nat} (h : StepA E ao fr bx nx stk fr' bx' nx1 stk1) (hb : ∀ b c, bget bx b = some c → b < nx) : nx ≤ nx1 ∧ (∀ b c, bget bx' b = some c → b < nx1) ∧ stk1.map (fun f => (f.d, f.K, f.res, f.nx)) = stk.map fun f => (f.d, f.K, f.res, f.nx) := by
  have hset : ∀ {b0 : Nat} {c0 c1 : Box}, bget bx b0 = some c0 → ∀ b c, bget (bset bx b0 c1) b = some c → b < nx := by
    intro b0 c0 c1 h0 b c hc
    rw [bget_bset] at hc
    split at hc
    · rename_i e; subst e; exact hb _ _ h0
    · exact hb _ _ hc
  cases h with
  | skip => exact ⟨Nat.le_refl _, hb, rfl⟩
  | soft _ _ _ =>
    refine ⟨by cases (aop E fr bx nx ao.op).new <;> simp [addN], fun b c hc => ?_, rfl⟩
    rw [bget_addB] at hc
    rcases extB_cases hc with hc | ⟨rfl, hn⟩
    · have := hb b c hc; cases (aop E fr bx nx ao.op).new <;> simp [addN] <;> omega
    · rw [hn]; simp [addN]
  | store _ _ _ h0 => exact ⟨Nat.le_refl _, hset h0, rfl⟩
  | storeR _ _ _ h0 => exact ⟨Nat.le_refl _, hset h0, rfl⟩
  | appN =>
    refine ⟨by omega, fun b c hc => ?_, rfl⟩
    simp only [bget] at hc
    split at hc
    · omega
    · have := hb b c hc; omega
  | appO _ _ _ _ _ _ h0 =>
    refine ⟨Nat.le_refl _, fun b c hc => ?_, skel_sub _ _ _⟩
    rw [bget_bset] at hc
    split at hc
    · rename_i e; subst e; exact hb _ _ h0
    · rw [bget_subBx] at hc
      obtain ⟨c2, h2, _⟩ := Option.map_eq_some_iff.1 hc
      exact hb _ _ h2
  | mset _ _ _ _ h0 => exact ⟨Nat.le_refl _, hset h0, rfl⟩
end
theorem reOk_mem {fr : Fr} {bx : Bx} : ∀ {l : List (Option Nat × AOp × Option (Nat × Bool))} {d : Option Nat} {op : AOp} {g : Option (Nat × Bool)}, reOk E fr bx l → (d, op, g) ∈ l → match skipOp fr g with
    | some true => True
    | some false => (aop E fr bx 0 op).pre ∧ dstV fr d (aop E fr bx 0 op).v
    | none => False := by
  intro l; induction l with
  | nil => intro d op g _ h; cases h
  | cons x l ih =>
    obtain ⟨d', op', g'⟩ := x
    intro d op g h hm
    rcases List.mem_cons.1 hm with e | hm
    · cases e; exact h.1
    · exact ih h.2 hm
/-- what the check of the order says -/
structure DrO (ops : List Oper) (l : List AOper) (m : List Nat) (d : Nat) (ord : List Nat) : Prop where
  dn : d ≤ ops.length
  after : afterOk ops = true
  apart : apartOk ops m (gsOf ops) = true
  anti : ∀ i j t o, i < d → j < d → (ops[i]?).bind (·.dst) = some t → ops[j]? = some o → (t ∈ looks o ∨ (gsOf ops).getD j none = some t) → aheadB m i j = true
  tail : ∀ i, d ≤ i → i < ops.length → ∀ j, j < i → aheadB m j i = true
  len : ord.length = d
  lt : ∀ p, p < d → ord.getD p 0 < d
  sur : ∀ i, i < d → ∃ p, p < d ∧ ord.getD p 0 = i
  own : ∀ p, p < d → ∀ t, (l.getD (ord.getD p 0) dflt).dst = some t → t ∉ rdA (l.getD (ord.getD p 0) dflt).op ++ gRd (l.getD (ord.getD p 0) dflt).guard
  ne : ∀ q p, q < p → p < d → ord.getD q 0 ≠ ord.getD p 0
  mkb : ∀ q p, q < p → p < d → softI l (ord.getD q 0) = true → softI l (ord.getD p 0) = false → aheadB m (ord.getD q 0) (ord.getD p 0) = false → mkB (l.getD (ord.getD q 0) dflt).op = true → lateB (l.getD (ord.getD q 0) dflt).op = true
  eff : ∀ q p, q < p → p < d → softI l (ord.getD q 0) = false → aheadB m (ord.getD q 0) (ord.getD p 0) = true
  rd : ∀ q p, q < p → p < d → ∀ t, (l.getD (ord.getD p 0) dflt).dst = some t → t ∉ rdA (l.getD (ord.getD q 0) dflt).op ++ gRd (l.getD (ord.getD q 0) dflt).guard
theorem drO_of {ops : List Oper} {l l' : List AOper} {d : Nat} (h : cDraw ops l = some (d, l')) : ∃ ord, DrO ops l (aheads [] ops) d ord ∧ l' = drawnL l (aheads [] ops) ord ++ l.drop d := by
  unfold cDraw at h
  simp only at h
  generalize canon l (aheads [] ops) (tailS (aheads [] ops) ops.length) [] (List.range (tailS (aheads [] ops) ops.length)) = ord at h
  generalize tailS (aheads [] ops) ops.length = d' at h
  split at h
  · rename_i hc
    simp only [Option.some.injEq, Prod.mk.injEq] at h
    obtain ⟨rfl, rfl⟩ := h
    simp only [Bool.and_eq_true, decide_eq_true_eq] at hc
    obtain ⟨⟨⟨⟨⟨h1, h2⟩, h3⟩, h4⟩, h5⟩, h6⟩ := hc
    unfold ordOk at h5
    simp only [Bool.and_eq_true, beq_iff_eq] at h5
    obtain ⟨⟨g1, g2⟩, g3⟩ := h5
    have g3' := fun p (hp : p < d') => List.all_eq_true.1 g3 p (by simpa using hp)
    simp only [Bool.and_eq_true, decide_eq_true_eq] at g3'
    have g4 : ∀ q p, q < p → p < d' → _ := fun q p hq hp => List.all_eq_true.1 (g3' p hp).2 q (by simpa using hq)
    simp only [Bool.and_eq_true, Bool.not_eq_true'] at g4
    refine ⟨ord, ⟨h6, h1, h2, fun i j t o hi hj ht ho hl => ?_, fun i hi hi2 j hj => ?_, g1, fun p hp => (g3' p hp).1.1, fun i hi => ?_, fun p hp t ht hin => ?_, fun q p hq hp e => ?_, fun q p hq hp a1 a2 a3 a4 => ?_, fun q p hq hp a1 => ?_, fun q p hq hp t ht hin => ?_⟩, rfl⟩
    · have := List.all_eq_true.1 h3 i (by simpa using hi)
      simp only [ht] at this
      have := List.all_eq_true.1 this j (by simpa using hj)
      simp only [ho, Bool.or_eq_true, Bool.and_eq_true, Bool.not_eq_true'] at this
      rcases this with h | ⟨h, h'⟩
      · exact h
      · rcases hl with hl | hl
        · rw [List.contains_iff_mem.2 hl] at h; cases h
        · rw [hl] at h'; simp at h'
    · have := List.all_eq_true.1 h4 i (by simpa using hi2)
      have hid : (decide (i < d')) = false := by simp; omega
      simp only [hid, Bool.false_or] at this
      exact List.all_eq_true.1 this j (by simpa using hj)
    · have := List.all_eq_true.1 g2 i (by simpa using hi)
      have hmem : i ∈ ord := List.contains_iff_mem.1 this
      obtain ⟨p, hp, e⟩ := List.getElem_of_mem hmem
      refine ⟨p, by omega, ?_⟩
      rw [List.getD_eq_getElem?_getD, List.getElem?_eq_getElem hp]; simpa using e
    · have := (g3' p hp).1.2
      rw [ht] at this
      simp only [Bool.not_eq_true'] at this
      rw [List.contains_iff_mem.2 hin] at this; cases this
    · have := (g4 q p hq hp).1.1.1
      rw [e] at this; simp at this
    · have := (g4 q p hq hp).1.2
      rw [a1, a2, a3, a4] at this
      simpa using this
    · have := (g4 q p hq hp).1.2
      rw [a1] at this
      simpa using this
    · have := (g4 q p hq hp).2
      rw [ht] at this
      simp only [Bool.not_eq_true'] at this
      rw [List.contains_iff_mem.2 hin] at this; cases this
  · cases h
theorem drawnL_get {l : List AOper} {m ord : List Nat} {d : Nat} {r : List AOper} (hlen : ord.length = d) {p : Nat} (hp : p < d) : (drawnL l m ord ++ r)[p]? = some { l.getD (ord.getD p 0) dflt with re := reL l m ord p (ord.getD p 0) } := by
  have h1 : (drawnL l m ord).length = d := by simp [drawnL, hlen]
  rw [List.getElem?_append_left (by omega)]
  simp [drawnL, hlen, hp]
theorem reL_mem {l : List AOper} {m ord : List Nat} {p q i : Nat} (hq : q < p) (hqo : q < ord.length) (hs : softI l (ord.getD q 0) = true) (hm : mkB (l.getD (ord.getD q 0) dflt).op = false) (ha : aheadB m (ord.getD q 0) i = false) (he : softI l i = false) :
    ((l.getD (ord.getD q 0) dflt).dst, (l.getD (ord.getD q 0) dflt).op, (l.getD (ord.getD q 0) dflt).guard) ∈ reL l m ord p i := by
  unfold reL
  rw [he]
  simp only [Bool.false_eq_true, if_false, List.mem_filterMap]
  refine ⟨ord.getD q 0, ?_, by rw [hs, hm, ha]; rfl⟩
  rw [List.mem_take_iff_getElem]
  exact ⟨q, by omega, by rw [List.getD_eq_getElem?_getD, List.getElem?_eq_getElem hqo]; rfl⟩
end Go.Proofs.YtbhhcnonooiokaaDoor
