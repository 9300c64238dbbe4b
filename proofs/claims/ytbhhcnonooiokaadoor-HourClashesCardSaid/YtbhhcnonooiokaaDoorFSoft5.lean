/- The engine, part 10: new slices; slices cut. No condition. -/
import Derived.Test.YtbhhcnonooiokaaDoorFSoft4
namespace Go.Proofs.YtbhhcnonooiokaaDoor
open Go Go.RowKit
variable {P : Program} {E : Env} {A0 : Nat → Prop} {w0 : World} {β : Nat → Loc} {B : Bmap} {nx : Nat} {w : World} {a : Act} {o : Oper} {fr : Fr} {bx : Bx}

theorem Rep.pure {A : Nat → Prop} : ∀ (v : Val) (x : Value), pureB v = true → Rep w A B β v x → RepP w A v x := by
  intro v
  induction v with
  | cons h t ih1 ih2 =>
    rintro x hp ⟨y, ys, rfl, h1, h2⟩
    simp only [pureB, Bool.and_eq_true] at hp
    exact ⟨y, ys, rfl, ih1 y hp.1 h1, ih2 _ hp.2 h2⟩
  | agg l ih => rintro x hp ⟨ys, rfl, h⟩; exact ⟨ys, rfl, ih _ hp h⟩
  | tup l ih => rintro x hp ⟨ys, rfl, h⟩; exact ⟨ys, rfl, ih _ hp h⟩
  | func fn l ih => rintro x hp ⟨ys, rfl, h⟩; exact ⟨ys, rfl, ih _ hp h⟩
  | ptr b off => intro x hp; simp [pureB] at hp
  | own b => intro x hp; simp [pureB] at hp
  | rptr b i off => intro x hp; simp [pureB] at hp
  | mapb b => intro x hp; simp [pureB] at hp
  | yld b => intro x hp; simp [pureB] at hp
  | _ => intro x _ h; exact h
theorem ones_rep {A : Nat → Prop} : ∀ (v : Val) (ys : List Value), onesB v = true → Rep w A B β v (.tuple ⟨ys⟩) → isL v → ∀ y ∈ ys, y.oneCell' = true := by
  intro v
  induction v with
  | nil =>
    intro ys _ h _ y hy
    have e : Value.tuple ⟨ys⟩ = .tuple #[] := h
    have : ys = [] := by simpa using e
    subst this; cases hy
  | cons h t ih1 ih2 =>
    intro ys ho hr hl y hy
    obtain ⟨z, zs, he, h1, h2⟩ := hr
    have : ys = z :: zs := by simpa using he
    subst this
    simp only [onesB, Bool.and_eq_true] at ho
    rcases List.mem_cons.1 hy with rfl | hy
    · have ho1 := ho.1
      cases h <;> simp at ho1 <;> first
        | (obtain ⟨p, q, e, _⟩ := h1; subst e; rfl)
        | (obtain ⟨g, fr, ps, ca, cb, st, q, e⟩ := h1; subst e; rfl)
        | (obtain ⟨p, e, _⟩ := h1; subst e; rfl)
        | (obtain ⟨p, e⟩ := h1; subst e; rfl)
        | (obtain ⟨p, q, hq, e⟩ := h1; subst e; rfl)
        | (obtain ⟨e0, k, m, c, h1, h2, q, hq, e⟩ := h1; subst e; rfl)
        | (have e : y = _ := h1; subst e; rfl)
    · exact ih2 zs ho.2 h2 hl y hy
  | _ => intro ys _ _ hl; exact hl.elim
/-- rows of cells -/
def RowsR (w : World) (A : Nat → Prop) (len k : Nat) (R : Val) (us : List Value) : Prop :=
  vlen R = len ∧ us.length = len * k ∧ ∀ i, i < len → ∀ j, j < k → ∃ y, us[i * k + j]? = some y ∧ y.oneCell' = true ∧ RepP w A (vget (vget R i) j) y
theorem layList_get : ∀ (ys zs : List Value) (off p : Nat), off + ys.length ≤ zs.length → (layList zs off ys)[p]? = if off ≤ p ∧ p < off + ys.length then ys[p - off]? else zs[p]? := by
  intro ys; induction ys with
  | nil => intro zs off p _; simp [layList]; omega
  | cons y ys ih =>
    intro zs off p h
    simp only [List.length_cons] at h
    simp only [layList]
    rw [ih _ _ _ (by simp; omega)]
    by_cases h1 : off + 1 ≤ p ∧ p < off + 1 + ys.length
    · rw [if_pos h1, if_pos (by simp only [List.length_cons]; omega)]
      rw [show p - off = (p - (off + 1)) + 1 from by omega]; simp
    · rw [if_neg h1]
      by_cases h2 : p = off
      · subst h2
        rw [if_pos (by simp), List.getElem?_set_self (by omega)]; simp
      · rw [if_neg (by simp only [List.length_cons]; omega), List.getElem?_set_ne (by omega)]
theorem vget_vset (l : Val) (i j : Nat) (v : Val) (h : i < vlen l) : vget (vset l i v) j = if j = i then v else vget l j := by
  induction l generalizing i j with
  | cons a t ih1 ih2 =>
    cases i with
    | zero => cases j <;> simp [vset, vget]
    | succ i =>
      cases j with
      | zero => simp [vset, vget]
      | succ j =>
        simp only [vset, vget]
        rw [ih2 i j (by simpa [vlen] using h)]
        simp
  | _ => simp [vlen] at h
theorem vget_vrep (z : Val) : ∀ (n i : Nat), i < n → vget (vrep z n) i = z := by
  intro n; induction n with
  | zero => intro i h; omega
  | succ n ih => intro i h; cases i with
    | zero => rfl
    | succ i => exact ih i (by omega)
theorem vlen_vrep (z : Val) : ∀ n, vlen (vrep z n) = n := by intro n; induction n with | zero => rfl | succ n ih => simp [vrep, vlen, ih]
theorem partsR_spec : ∀ (l : List (Nat × Operand)) (r : List (Nat × Opd)), partsR l = some r → Two (fun p q => q.1 = p.1 ∧ cOpd p.2 = some q.2) l r := by
  intro l; induction l with
  | nil => intro r h; simp [partsR] at h; subst h; exact .nil
  | cons p l ih =>
    intro r h
    obtain ⟨i, x⟩ := p
    simp only [partsR] at h
    split at h
    · rename_i ox r' h1 h2
      simp at h; subst h
      exact .cons ⟨rfl, h1⟩ (ih _ h2)
    · cases h
theorem rows_rep {len k : Nat} : ∀ (parts : List (Nat × Operand)) (r : List (Nat × Opd)) (R : Val) (us : List Value), RowsR w (Al A0 w0 B β) len k R us →
    (∀ p ∈ parts, OpR E A0 w0 β B w fr a p.2) → Two (fun p q => q.1 = p.1 ∧ cOpd p.2 = some q.2) parts r → rowsOk E fr k len r →
    ∃ us', Instr.fill (fun i => some (i * k, k)) ⟨us⟩ (parts.map fun p => (p.1, a.eval p.2)) = some ⟨us'⟩ ∧ RowsR w (Al A0 w0 B β) len k (rowsV E fr R r) us' := by
  intro parts
  induction parts with
  | nil => intro r R us h _ hf _; cases hf; exact ⟨us, rfl, h⟩
  | cons p parts ih =>
    intro r R us h hp hf hok
    cases hf with
    | @cons _ q _ r' hpq hf =>
      obtain ⟨i, ox⟩ := q
      obtain ⟨h1, h2, h2', h3, h4⟩ := hok
      obtain ⟨hi, hc⟩ := hpq
      simp only at hi hc
      have hx := hp p (by simp) ox hc
      obtain ⟨e1, e2, e3, e4⟩ := cellsOf_rep h1 hx
      have hones := ones_rep _ _ h2' e3 (isLB_isL e1)
      have hlen : (a.eval p.2).cells.toList.length = k := by simpa using e4
      obtain ⟨g1, g2, g3⟩ := h
      have hik : i * k + k ≤ len * k := by rw [← Nat.succ_mul]; exact Nat.mul_le_mul_right k h3
      have hpc : pureB (cellsOf (ev E fr ox)) = true := by
        cases hv : ev E fr ox <;> rw [hv] at h2 <;> simp_all [cellsOf, pureB]
      have hcl := Rep.pure _ _ hpc e3
      have hnew : RowsR w (Al A0 w0 B β) len k (vset R i (cellsOf (ev E fr ox))) (layList us (i * k) (a.eval p.2).cells.toList) := by
        refine ⟨by rw [vlen_vset]; exact g1, by rw [layList_len]; exact g2, fun i' hi' j hj => ?_⟩
        have hij : i' * k + j < len * k := by
          have : i' * k + k ≤ len * k := by rw [← Nat.succ_mul]; exact Nat.mul_le_mul_right k hi'
          omega
        rw [layList_get _ _ _ _ (by rw [hlen, g2]; exact hik), hlen, vget_vset _ _ _ _ (by rw [g1]; exact h3)]
        by_cases hii : i' = i
        · subst hii
          rw [if_pos (by omega), if_pos rfl]
          obtain ⟨y, hy, hr⟩ := Rep.get1 e3 j (by omega)
          obtain ⟨y', hy', hr'⟩ := Rep.get1 (RepP.rep (B := fun _ => none) (β := β) _ _ hcl) j (by omega)
          rw [hy] at hy'; cases hy'
          refine ⟨y, by rw [Nat.add_sub_cancel_left]; exact hy, hones y (List.mem_of_getElem? hy), ?_⟩
          refine Rep.pure _ _ ?_ hr
          have : ∀ (l : Val) (j : Nat), pureB l = true → pureB (vget l j) = true := by
            intro l; induction l with
            | cons a b _ ih => intro j hb; simp only [pureB, Bool.and_eq_true] at hb; cases j with
              | zero => exact hb.1
              | succ j => exact ih j hb.2
            | _ => intro j hb; cases j <;> rfl
          exact this _ j hpc
        · rw [if_neg hii, if_neg ?_]
          · exact g3 i' hi' j hj
          · intro hc2
            rcases Nat.lt_or_gt_of_ne hii with h | h
            · have : (i' + 1) * k ≤ i * k := Nat.mul_le_mul_right k h
              rw [Nat.succ_mul] at this
              omega
            · have : (i + 1) * k ≤ i' * k := Nat.mul_le_mul_right k h
              rw [Nat.succ_mul] at this
              omega
      obtain ⟨us', hu1, hu2⟩ := ih r' _ _ hnew (fun p' h' => hp p' (by simp [h'])) hf h4
      refine ⟨us', ?_, hu2⟩
      have e5 : (a.eval p.2).cells.zipIdx.foldl (fun (cs : Array Value) (x : Value × Nat) => match x with | (c, j) => cs.setIfInBounds (i * k + j) c) ⟨us⟩ = ⟨layList us (i * k) (a.eval p.2).cells.toList⟩ := by
        rw [← Array.foldl_toList, Array.toList_zipIdx]
        exact foldl_lay _ 0 (i * k) us
      simp only [List.map_cons, Instr.fill, ← hi]
      rw [if_neg (by simp [e4, g2]; omega), e5]
      exact hu1
theorem rows_zero {len k : Nat} {z : Val} {zs : List Value} {A : Nat → Prop} (hz : RepP w A z (.tuple ⟨zs⟩)) (hl : isLB z = true) (ho : onesB z = true) (hk : vlen z = k) (h0 : 0 < k) :
    RowsR w A len k (vrep z len) ((List.range (len * k)).map fun p => (⟨zs⟩ : Array Value)[p % (⟨zs⟩ : Array Value).size]!) := by
  have hzl : zs.length = k := by rw [← hk]; exact Rep.len (B := fun _ => none) (β := fun _ => ⟨none, 0, 0⟩) (RepP.rep _ _ hz) (isLB_isL hl)
  refine ⟨vlen_vrep z len, by simp, fun i hi j hj => ?_⟩
  have hij : i * k + j < len * k := by
    have : i * k + k ≤ len * k := by rw [← Nat.succ_mul]; exact Nat.mul_le_mul_right k hi
    omega
  rw [vget_vrep z len i hi]
  obtain ⟨y, hy, hr⟩ := Rep.get1 (B := fun _ => none) (β := fun _ => ⟨none, 0, 0⟩) (RepP.rep _ _ hz) j (by omega)
  refine ⟨y, ?_, ones_rep (B := fun _ => none) (β := fun _ => ⟨none, 0, 0⟩) _ _ ho (RepP.rep _ _ hz) (isLB_isL hl) y (List.mem_of_getElem? hy), ?_⟩
  · have hm : (i * k + j) % k = j := by rw [Nat.add_comm, Nat.add_mul_mod_self_right]; exact Nat.mod_eq_of_lt hj
    simp [hij, hzl, hm, hy]
  · obtain ⟨y', hy', hr'⟩ : ∃ y', zs[j]? = some y' ∧ RepP w A (vget z j) y' := by
      have : ∀ (l : Val) (zs : List Value) (j : Nat), RepP w A l (.tuple ⟨zs⟩) → j < vlen l → ∃ y', zs[j]? = some y' ∧ RepP w A (vget l j) y' := by
        intro l; induction l with
        | cons a t _ ih =>
          intro zs j h hj
          obtain ⟨y, ys, he, h1, h2⟩ := h
          have : zs = y :: ys := by simpa using he
          subst this
          cases j with
          | zero => exact ⟨y, rfl, h1⟩
          | succ j => obtain ⟨y', e, hr⟩ := ih ys j h2 (by simpa [vlen] using hj); exact ⟨y', by simpa using e, hr⟩
        | _ => intro zs j _ hj; simp [vlen] at hj
      exact this z zs j hz (by omega)
    rw [hy] at hy'; cases hy'; exact hr'
theorem does_bsl {t e : TypeId} {len k : Nat} {z : Val} {parts : Array (Nat × Operand)} {r : List (Nat × Opd)} {N : Nat} (hm : Mem P A0 w0 β B N w) (hB : B nx = none) (ho : o.op = .buildSlice t len parts) (ht : P.underlying t = some (.slice e)) (hz : zeroT P e = some (k, z))
    (hlen : len * k ≤ 16777216) (hr : partsR parts.toList = some r) (hx : ∀ p ∈ parts.toList, OpR E A0 w0 β B w fr a p.2) (hp : (aop E fr bx nx (.bsl e k len z r)).pre) : Does P A0 w0 β B nx w a o (aop E fr bx nx (.bsl e k len z r)) := by
  obtain ⟨hp1, hp2, hp2', hp3, hp4, hp5⟩ := hp
  obtain ⟨v, h1, h2, h3, h4, h5⟩ := zeroT_rep hz w (Al A0 w0 B β)
  obtain ⟨us, hu1, hu2⟩ := rows_rep (E := E) (fr := fr) (a := a) parts.toList r _ _ (rows_zero (len := len) h3 hp1 hp2' hp3 hp4) hx (partsR_spec _ _ hr) hp5
  obtain ⟨inf, hinf, hsz⟩ : ∃ i, P.info? e = some i ∧ i.size = k := by obtain ⟨i, v', q1, q2, q3, q4, q5⟩ := zeroT_spec hz; exact ⟨i, q1, q3⟩
  have h6 : (sizeOf e).run P w = .ok k w := by simp [sizeOf, typeInfo, hinf, hsz]
  have hlm : len ≤ maxLen := by unfold maxLen; have : len * 1 ≤ len * k := Nat.mul_le_mul_left _ hp4; omega
  have hmap : (parts.map fun p => (p.1, a.eval p.2)).toList = parts.toList.map fun p => (p.1, a.eval p.2) := by simp
  refine ⟨.slice (some ⟨w.heap.size, 0, none⟩) len len, w.alloc (.cells ⟨us⟩ e), _, ?_, Soft.newRow hm hB hp4 hlm hu2.2.1 hu2.2.2, ?_⟩
  · have hbig : ¬ (len * k > 2 ^ 24) := by omega
    have hcells : ∀ (Z : Array Value), Z = v.cells ∨ len * k = 0 → Instr.fill (fun i => some (i * k, k)) ((Array.range (len * k)).map (Z[· % Z.size]!)) (parts.map fun p => (p.1, a.eval p.2)).toList = some ⟨us⟩ := by
      intro Z hZ
      rw [hmap, ← hu1]
      congr 1
      rcases hZ with rfl | h0
      · apply Array.toList_inj.1; simp
      · apply Array.toList_inj.1; simp [h0]
    simp only [execOp, ho, Instr.buildSlice, Sem.run_bind, run_underlying ht, Result.andThen_ok, h6]
    rw [if_neg hbig]
    simp only [Sem.run_pure, Result.andThen_ok, Sem.run_ite, Sem.run_bind]
    by_cases h0 : len * k = 0
    · simp only [h0, if_true]
      have := hcells #[] (.inr h0)
      simp only [h0] at this
      rw [show (fun (x : Nat × Operand) => match x with | (i, x) => (i, a.eval x)) = fun p => (p.1, a.eval p.2) from rfl]
      simp only [this, newRow, Sem.run_bind, run_newObj, Result.andThen_ok, Sem.run_pure]
      rfl
    · simp only [h0, if_false, h1, Result.andThen_ok]
      have := hcells v.cells (.inl rfl)
      rw [show (fun (x : Nat × Operand) => match x with | (i, x) => (i, a.eval x)) = fun p => (p.1, a.eval p.2) from rfl]
      simp only [this, newRow, Sem.run_bind, run_newObj, Result.andThen_ok, Sem.run_pure]
      rfl
  · refine ⟨⟨e, k, len, _, by simp [extB, aop]; rfl⟩, by rw [updL_new]; rfl⟩
end Go.Proofs.YtbhhcnonooiokaaDoor
