/- The engine, part 20c: what may come late in a drawn region, and what is written meanwhile. No condition. -/
import Derived.Test.YtbhhcnonooiokaaDoorFDrawn2
namespace Go.Proofs.YtbhhcnonooiokaaDoor
open Go Go.RowKit
variable {P : Program} {E : Env} {A0 : Nat → Prop} {w0 : World} {Qf : Val → Bx → Prop}

theorem fget_sub' (b : Nat) (r : Val) (fr : Fr) (t : Nat) : fget (subFr b r fr) t = subV b r (fget fr t) := by
  rw [fget_subFr]
  split
  · rfl
  · rename_i h
    have : fget fr t = .und := by
      induction fr with
      | nil => rfl
      | cons p l ih =>
        obtain ⟨s, v⟩ := p
        simp only [List.any_cons, Bool.or_eq_true, not_or, beq_iff_eq] at h
        simp only [fget, if_neg h.1]
        exact ih (by simpa using h.2)
    rw [this]; rfl
theorem subV_pure (b : Nat) (r : Val) : ∀ v : Val, pureB v = true → subV b r v = v := by
  intro v; induction v with
  | cons h t ih1 ih2 => intro hp; simp only [pureB, Bool.and_eq_true] at hp; simp only [subV, ih1 hp.1, ih2 hp.2]
  | agg l ih => intro hp; simp only [subV]; rw [ih (by simpa [pureB] using hp)]
  | tup l ih => intro hp; simp only [subV]; rw [ih (by simpa [pureB] using hp)]
  | func f l ih => intro hp; simp only [subV]; rw [ih (by simpa [pureB] using hp)]
  | own b' => intro hp; simp [pureB] at hp
  | ptr b' o => intro hp; simp [pureB] at hp
  | rptr b' i o => intro hp; simp [pureB] at hp
  | mapb b' => intro hp; simp [pureB] at hp
  | yld b' => intro hp; simp [pureB] at hp
  | _ => intro _; rfl

/-- late: what is to come yet gives what it gave -/
def Good (E : Env) (ao : AOper) (fr : Fr) (bx : Bx) (nm nm' : Nat) : Prop :=
  (skipOp fr ao.guard = some true ∧ (∀ t, ao.dst = some t → fget fr t = .tup .nil) ∧ nm' = nm) ∨
  (skipOp fr ao.guard = some false ∧ (aop E fr bx nm ao.op).pre ∧ (∀ t, ao.dst = some t → fget fr t = (aop E fr bx nm ao.op).v) ∧ (∀ c, (aop E fr bx nm ao.op).new = some c → bget bx nm = some c ∧ nm' = nm + 1) ∧ ((aop E fr bx nm ao.op).new = none → nm' = nm))
section
variable {ao ao2 : AOper} {fr fr1 : Fr} {bx bx1 : Bx} {nx nx1 nm nm' : Nat} {stk stk1 : List SFrame}
theorem step_soft (h : StepA E ao fr bx nx stk fr1 bx1 nx1 stk1) (hs : softA ao.op = true) : stk1 = stk ∧ ∃ v, fr1 = fput fr ao.dst v ∧
    ((skipOp fr ao.guard = some true ∧ v = .tup .nil ∧ bx1 = bx ∧ nx1 = nx) ∨ (skipOp fr ao.guard = some false ∧ (aop E fr bx nx ao.op).pre ∧ v = (aop E fr bx nx ao.op).v ∧ bx1 = addB nx (aop E fr bx nx ao.op).new bx ∧ nx1 = addN nx (aop E fr bx nx ao.op).new)) := by
  cases h with
  | skip h => exact ⟨rfl, _, rfl, .inl ⟨h, rfl, rfl, rfl⟩⟩
  | soft h1 h2 h3 => exact ⟨rfl, _, rfl, .inr ⟨h1, h3, rfl, rfl, rfl⟩⟩
  | store _ h => rw [h] at hs; cases hs
  | storeR _ h => rw [h] at hs; cases hs
  | appN _ h => rw [h] at hs; cases hs
  | appO _ h => rw [h] at hs; cases hs
  | mset _ h => rw [h] at hs; cases hs
theorem soft_mono (h : StepA E ao fr bx nx stk fr1 bx1 nx1 stk1) (hs : softA ao.op = true) (hnx : bget bx nx = none) : (∀ b c, bget bx b = some c → bget bx1 b = some c) ∧ nx ≤ nx1 ∧ (∀ b, b ≠ nx → bget bx1 b = bget bx b) ∧ (nx1 = nx → bget bx1 nx = none) ∧ (nx1 = nx ∨ nx1 = nx + 1) := by
  obtain ⟨_, v, _, h⟩ := step_soft h hs
  rcases h with ⟨_, _, rfl, rfl⟩ | ⟨_, _, _, rfl, rfl⟩
  · exact ⟨fun _ _ h => h, Nat.le_refl _, fun _ _ => rfl, fun _ => hnx, .inl rfl⟩
  · refine ⟨fun b c hb => by rw [bget_addB]; exact extB_some hnx hb, by cases (aop E fr bx nx ao.op).new <;> simp [addN], fun b hb => ?_, fun h => ?_, ?_⟩
    · rw [bget_addB]; cases (aop E fr bx nx ao.op).new <;> simp [extB, hb]
    · rw [bget_addB]
      cases hn : (aop E fr bx nx ao.op).new with
      | none => exact hnx
      | some c => rw [hn] at h; simp [addN] at h
    · cases (aop E fr bx nx ao.op).new <;> simp [addN]
theorem good_base (h : StepA E ao fr bx nx stk fr1 bx1 nx1 stk1) (hs : softA ao.op = true) (hnx : bget bx nx = none) (hown : ∀ t, ao.dst = some t → t ∉ rdA ao.op ++ gRd ao.guard) : Good E ao fr1 bx1 nx nx1 := by
  have hmono := (soft_mono h hs hnx).1
  obtain ⟨_, v, rfl, h'⟩ := step_soft h hs
  have hrd : ∀ t ∈ rdA ao.op ++ gRd ao.guard, fget (fput fr ao.dst v) t = fget fr t := by
    intro t ht
    rw [fget_fput, if_neg fun e => hown t e ht]
  have hsk := skip_congr (fr := fput fr ao.dst v) (fr' := fr) (g := ao.guard) fun t ht => hrd t (List.mem_append.2 (.inr ht))
  rcases h' with ⟨h1, rfl, rfl, rfl⟩ | ⟨h1, h2, rfl, rfl, rfl⟩
  · exact .inl ⟨by rw [hsk]; exact h1, fun t ht => by rw [fget_fput, if_pos ht], rfl⟩
  · have e1 : aop E (fput fr ao.dst (aop E fr bx nx ao.op).v) (addB nx (aop E fr bx nx ao.op).new bx) nx ao.op = aop E fr bx nx ao.op := by
      rw [aop_congr (fr' := fr) ao.op fun t ht => hrd t (List.mem_append.2 (.inl ht))]
      exact aop_mono hmono ao.op h2
    refine .inr ⟨by rw [hsk]; exact h1, by rw [e1]; exact h2, fun t ht => by rw [e1, fget_fput, if_pos ht], fun c hc => ?_, fun hn => ?_⟩
    · rw [e1] at hc; rw [hc]; exact ⟨by simp [addB, bget], rfl⟩
    · rw [e1] at hn; rw [hn]; rfl
theorem good_soft (hg : Good E ao fr bx nm nm') (h : StepA E ao2 fr bx nx stk fr1 bx1 nx1 stk1) (hs : softA ao2.op = true) (hnx : bget bx nx = none) (hrd : ∀ t, ao2.dst = some t → t ∉ rdA ao.op ++ gRd ao.guard ∧ ao.dst ≠ some t) : Good E ao fr1 bx1 nm nm' := by
  have hmono := (soft_mono h hs hnx).1
  obtain ⟨_, v, rfl, _⟩ := step_soft h hs
  have hr : ∀ t ∈ rdA ao.op ++ gRd ao.guard, fget (fput fr ao2.dst v) t = fget fr t := by
    intro t ht
    rw [fget_fput, if_neg fun e => (hrd t e).1 ht]
  have hd : ∀ t, ao.dst = some t → fget (fput fr ao2.dst v) t = fget fr t := by
    intro t ht
    rw [fget_fput, if_neg fun e => (hrd t e).2 ht]
  have hsk := skip_congr (fr := fput fr ao2.dst v) (fr' := fr) (g := ao.guard) fun t ht => hr t (List.mem_append.2 (.inr ht))
  rcases hg with ⟨h1, h2, h3⟩ | ⟨h1, h2, h3, h4, h5⟩
  · exact .inl ⟨by rw [hsk]; exact h1, fun t ht => by rw [hd t ht]; exact h2 t ht, h3⟩
  · have e1 : aop E (fput fr ao2.dst v) bx1 nm ao.op = aop E fr bx nm ao.op := by
      rw [aop_congr (fr' := fr) ao.op fun t ht => hr t (List.mem_append.2 (.inl ht))]
      exact aop_mono hmono ao.op h2
    exact .inr ⟨by rw [hsk]; exact h1, by rw [e1]; exact h2, fun t ht => by rw [e1, hd t ht]; exact h3 t ht, fun c hc => by rw [e1] at hc; exact ⟨hmono _ _ (h4 c hc).1, (h4 c hc).2⟩, fun hn => by rw [e1] at hn; exact h5 hn⟩
theorem skip_sub {g : Option (Nat × Bool)} {s : Bool} (h : ∀ t ∈ gRd g, fget fr1 t = fget fr t ∨ ∃ b, fget fr1 t = subV b .und (fget fr t)) (hs : skipOp fr g = some s) : skipOp fr1 g = some s := by
  cases g with
  | none => exact hs
  | some p =>
    obtain ⟨t, b⟩ := p
    rcases h t (by simp [gRd]) with e | ⟨b', e⟩
    · simp only [skipOp] at hs ⊢; rw [e]; exact hs
    · simp only [skipOp] at hs ⊢
      rw [e]
      split at hs
      · rename_i c hc; rw [hc]; exact hs
      · rename_i hc; rw [hc]; exact hs
      · cases hs
theorem rowsOk_pure {k len : Nat} : ∀ {l : List (Nat × Opd)}, rowsOk E fr k len l → ∀ t ∈ l.flatMap (fun p => rdO p.2), pureB (fget fr t) = true := by
  intro l; induction l with
  | nil => intro _ t ht; simp at ht
  | cons x l ih =>
    obtain ⟨off, x⟩ := x
    intro h t ht
    simp only [rowsOk] at h
    simp only [List.flatMap_cons, List.mem_append] at ht
    rcases ht with ht | ht
    · cases x with
      | t m => simp [rdO] at ht; subst ht; exact h.2.1
      | c v => simp [rdO] at ht
      | g m => simp [rdO] at ht
    · exact ih h.2.2.2.2 t ht
theorem good_eff (hg : Good E ao fr bx nm nm') (hs : softA ao.op = true) (hF : ∀ t, ao2.dst ≠ some t → fget fr1 t = fget fr t ∨ ∃ b, (mkB ao.op = true → nm' ≠ nm → b ≠ nm) ∧ fget fr1 t = subV b .und (fget fr t)) (hB : mkB ao.op = true → nm' ≠ nm → bget bx1 nm = bget bx nm ∨ ∃ b, bget bx1 nm = (bget bx nm).map (subBox b .und))
    (hrd : ∀ t, ao2.dst = some t → t ∉ rdA ao.op ++ gRd ao.guard ∧ ao.dst ≠ some t) (hmk : mkB ao.op = true → lateB ao.op = true)
    (hre : mkB ao.op = false → match skipOp fr1 ao.guard with
      | some true => True
      | some false => (aop E fr1 bx1 0 ao.op).pre ∧ dstV fr1 ao.dst (aop E fr1 bx1 0 ao.op).v
      | none => False) : Good E ao fr1 bx1 nm nm' := by
  have hg2 : ∀ t ∈ gRd ao.guard, fget fr1 t = fget fr t ∨ ∃ b, fget fr1 t = subV b .und (fget fr t) := by
    intro t ht
    rcases hF t (fun e => (hrd t e).1 (List.mem_append.2 (.inr ht))) with e | ⟨b, _, e⟩
    · exact .inl e
    · exact .inr ⟨b, e⟩
  have hd2 : ∀ t, ao.dst = some t → fget fr1 t = fget fr t ∨ ∃ b, (mkB ao.op = true → nm' ≠ nm → b ≠ nm) ∧ fget fr1 t = subV b .und (fget fr t) := fun t ht => hF t (fun e => (hrd t e).2 ht)
  rcases hg with ⟨h1, h2, h3⟩ | ⟨h1, h2, h3, h4, h5⟩
  · refine .inl ⟨skip_sub hg2 h1, fun t ht => ?_, h3⟩
    rcases hd2 t ht with e | ⟨b, _, e⟩
    · rw [e]; exact h2 t ht
    · rw [e, h2 t ht]; rfl
  · have hsk := skip_sub hg2 h1
    cases hb : mkB ao.op with
    | false =>
      have hre := hre hb
      rw [hsk] at hre
      simp only at hre
      have hn0 : (aop E fr1 bx1 0 ao.op).new = none := by
        cases hn : (aop E fr1 bx1 0 ao.op).new with
        | none => rfl
        | some c => have := (aop_mk ao.op hre.1).1 ⟨c, hn⟩; rw [hb] at this; cases this
      have hn1 : (aop E fr bx nm ao.op).new = none := by
        cases hn : (aop E fr bx nm ao.op).new with
        | none => rfl
        | some c => have := (aop_mk ao.op h2).1 ⟨c, hn⟩; rw [hb] at this; cases this
      have e1 : aop E fr1 bx1 nm ao.op = aop E fr1 bx1 0 ao.op := aop_nx ao.op hn0
      refine .inr ⟨hsk, by rw [e1]; exact hre.1, fun t ht => ?_, fun c hc => (by rw [e1, hn0] at hc; cases hc), fun _ => h5 hn1⟩
      have := hre.2
      rw [ht] at this
      rw [e1]; exact this.symm
    | true =>
      obtain ⟨c, hc⟩ := (aop_mk ao.op h2).2 hb
      obtain ⟨h6, h7⟩ := h4 c hc
      have hne : nm' ≠ nm := by omega
      have hmk := hmk hb
      -- what it reads stays
      have hr : ∀ t ∈ rdA ao.op, fget fr1 t = fget fr t := by
        intro t ht
        have key : pureB (fget fr t) = true → fget fr1 t = fget fr t := by
          intro hp
          rcases hF t (fun e => (hrd t e).1 (List.mem_append.2 (.inl ht))) with e | ⟨b, _, e⟩
          · exact e
          · rw [e, subV_pure _ _ _ hp]
        cases hop : ao.op <;> rw [hop] at hb ht h2 hmk <;> simp only [mkB] at hb <;> simp only [rdA, List.mem_append, List.not_mem_nil] at ht <;> first
          | (cases hb; done)
          | exact ht.elim
          | skip
        case box n x => simp [lateB] at hmk
        case bsl e k len z parts => exact key (rowsOk_pure h2.2.2.2.2.2 t ht)
        case mks e k bytes z n c =>
          refine key ?_
          simp only [aop] at h2
          split at h2
          · rename_i k1 a1 k2 b1 e1 e2
            rcases ht with ht | ht
            · cases n with
              | t m => simp [rdO] at ht; subst ht; simp only [ev] at e1; rw [e1]; rfl
              | c v => simp [rdO] at ht
              | g m => simp [rdO] at ht
            · cases c with
              | t m => simp [rdO] at ht; subst ht; simp only [ev] at e2; rw [e2]; rfl
              | c v => simp [rdO] at ht
              | g m => simp [rdO] at ht
          · exact h2.elim
      have e1 : aop E fr1 bx1 nm ao.op = aop E fr bx nm ao.op := by
        rw [aop_congr (fr' := fr) ao.op hr]
        cases hop : ao.op <;> rw [hop] at hb <;> simp only [mkB] at hb <;> first
          | (cases hb; done)
          | rfl
      have hv : ∀ b, b ≠ nm → subV b .und (aop E fr bx nm ao.op).v = (aop E fr bx nm ao.op).v := by
        intro b hbn
        have hbn' : ¬ nm = b := fun e => hbn e.symm
        cases hop : ao.op <;> rw [hop] at hb hc h2 <;> simp only [mkB] at hb <;> first
          | (cases hb; done)
          | (simp only [aop, subV]; rw [if_neg hbn']; done)
          | skip
        case mks e k bytes z n c =>
          simp only [aop] at h2 ⊢
          split at h2
          · simp only [subV]; rw [if_neg hbn']
          · exact h2.elim
      have hcb : ∀ b, subBox b .und c = c := by
        intro b
        cases hop : ao.op <;> rw [hop] at hb hc h2 hmk <;> simp only [mkB] at hb <;> first
          | (cases hb; done)
          | skip
        case alloc z => simp only [aop, Option.some.injEq] at hc; subst hc; simp only [subBox]; rw [subV_pure _ _ _ (by simpa [lateB] using hmk)]
        case box n x => simp [lateB] at hmk
        case bsl e k len z parts => simp only [aop, Option.some.injEq] at hc; subst hc; rfl
        case mks e k bytes z n c' =>
          simp only [aop] at h2 hc
          split at h2
          · rename_i q1 q2 q3 q4 q5 q6
            simp only [q5, q6, Option.some.injEq] at hc; subst hc; rfl
          · exact h2.elim
        case mkm kd => simp only [aop, Option.some.injEq] at hc; subst hc; rfl
      refine .inr ⟨hsk, by rw [e1]; exact h2, fun t ht => ?_, fun c' hc' => ?_, fun hn => (by rw [e1, hc] at hn; cases hn)⟩
      · rw [e1]
        rcases hd2 t ht with e | ⟨b, hbn, e⟩
        · rw [e]; exact h3 t ht
        · rw [e, h3 t ht]; exact hv b (hbn hb hne)
      · rw [e1, hc] at hc'
        cases hc'
        refine ⟨?_, h7⟩
        rcases hB hb hne with e | ⟨b, e⟩
        · rw [e]; exact h6
        · rw [e, h6]; simp only [Option.map_some, hcb]
end
end Go.Proofs.YtbhhcnonooiokaaDoor
