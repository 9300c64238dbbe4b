/- The engine, part 7: loads, places, numbers. No condition. -/
import Derived.Test.YtbhhcnonooiokaaDoorFSoft
namespace Go.Proofs.YtbhhcnonooiokaaDoor
open Go Go.RowKit
variable {P : Program} {E : Env} {A0 : Nat → Prop} {w0 : World} {β : Nat → Loc} {B : Bmap} {nx : Nat} {w : World} {a : Act} {o : Oper} {fr : Fr} {bx : Bx}

theorem shT_spec {t : TypeId} {ag : Bool} {s : List Sh} (h : shT P t = some (ag, s)) : isAggT P t = some ag ∧ ∃ i, P.info? t = some i ∧ i.size = s.length ∧ (ag = false → s.length = 1) := by
  unfold shT at h
  split at h
  · rename_i a' s' i h1 h2 h3
    split at h
    · rename_i hc
      simp at h
      obtain ⟨rfl, rfl⟩ := h
      exact ⟨h1, i, h3, hc.1, hc.2⟩
    · cases h
  · cases h
theorem run_isAgg {t : TypeId} {ag : Bool} (h : isAggT P t = some ag) (w : World) : (isAgg t).run P w = .ok ag w := by
  unfold isAggT at h
  split at h
  · rename_i hu; simp at h; subst h; simp [isAgg, run_underlying hu]
  · rename_i hu; simp at h; subst h; simp [isAgg, run_underlying hu]
  · rename_i d hn1 hn2 hu
    simp at h; subst h
    simp only [isAgg, Sem.run_bind, run_underlying hu, Result.andThen_ok]
    rfl
  · cases h
theorem add_lit (g off j : Nat) : (⟨g, off, none⟩ : Addr).add j = ⟨g, off + j, none⟩ := by unfold Addr.add; split <;> simp_all
/-- a variable read -/
theorem run_loadVar {t : TypeId} {ag : Bool} {s : List Sh} (h : shT P t = some (ag, s)) {g off : Nat} {zs : List Value} (hl : zs.length = s.length) (hz : ∀ j, j < zs.length → w.cell? ⟨g, off + j, none⟩ = zs[j]?) :
    (loadVar t ⟨g, off, none⟩).run P w = .ok (if ag then .agg ⟨zs⟩ else zs.getD 0 undef) w := by
  obtain ⟨h1, i, h2, h3, h4⟩ := shT_spec h
  have hlc := run_loadCells_list (P := P) w ⟨g, off, none⟩ zs (fun j v hv => by
    rw [add_lit, hz j (by rcases Nat.lt_or_ge j zs.length with h | h; exact h; simp [List.getElem?_eq_none h] at hv)]; exact hv)
  cases ag with
  | true =>
    simp [loadVar, run_isAgg h1, sizeOf, typeInfo, h2, h3, ← hl, hlc]
  | false =>
    have h5 := h4 rfl
    have h0 := hz 0 (by omega)
    simp only [Nat.add_zero] at h0
    cases zs with
    | nil => simp at hl; omega
    | cons y ys => simp [loadVar, run_isAgg h1, h0]
theorem casts_rep {A : Nat → Prop} : ∀ (s : List Sh) (f : Nat → Val) (j : Nat) (zs : List Value), zs.length = s.length → castOks s f j → (∀ i, i < zs.length → RepP w A (f (j + i)) (zs.getD i undef)) → RepP w A (casts s f j) (.tuple ⟨zs⟩) := by
  intro s
  induction s with
  | nil => intro f j zs hl _ _; have : zs = [] := List.eq_nil_of_length_eq_zero hl; subst this; rfl
  | cons c s ih =>
    intro f j zs hl hok hr
    cases zs with
    | nil => simp at hl
    | cons z zs =>
      refine ⟨z, zs, rfl, ?_, ih f (j + 1) zs (by simpa using hl) hok.2 fun i hi => ?_⟩
      · have h0 := hr 0 (by simp)
        simp only [Nat.add_zero, List.getD_cons_zero] at h0
        have hc := hok.1
        cases c with
        | int k => simp only [castOk] at hc; simp only [cast1]; rw [hc] at h0; exact h0
        | bool => simp only [castOk] at hc; simp only [cast1]; rw [hc] at h0; exact h0
        | slc k =>
          simp only [castOk] at hc
          simp only [cast1]
          rcases hc with hc | hc
          · rw [hc] at h0 ⊢
            have : z = .slice none 0 0 := h0
            subst this
            exact ⟨none, 0, rfl, by decide, Nat.le_refl _, fun h => absurd h (by simp [Val.slen])⟩
          · rw [hc] at h0; exact h0
        | any => exact h0
      · have := hr (i + 1) (by simpa using hi)
        rw [show j + 1 + i = j + (i + 1) from by omega]
        simpa using this
theorem casts_len : ∀ (s : List Sh) (f : Nat → Val) (j : Nat), vlen (casts s f j) = s.length := by
  intro s; induction s with
  | nil => intro f j; rfl
  | cons c s ih => intro f j; simp [casts, vlen, ih]
theorem mkv_rep {ag : Bool} {l : Val} {zs : List Value} (h : RepM A0 w0 β B w l (.tuple ⟨zs⟩)) (h1 : ag = false → 0 < vlen l) : RepM A0 w0 β B w (mkv ag l) (if ag then .agg ⟨zs⟩ else zs.getD 0 undef) := by
  cases ag with
  | true => exact ⟨zs, rfl, h⟩
  | false =>
    obtain ⟨y, hy, hr⟩ := Rep.get1 h 0 (h1 rfl)
    simp only [Bool.false_eq_true, if_false, mkv]
    rw [List.getD_eq_getElem?_getD, hy]
    exact hr
/-- the cells that a pointer leads to -/
theorem slice_rep {l : Val} {ys : List Value} (h : RepM A0 w0 β B w l (.tuple ⟨ys⟩)) (off n : Nat) (hn : off + n ≤ vlen l) : ∃ zs : List Value, zs.length = n ∧ (∀ j, j < n → zs[j]? = ys[off + j]?) ∧ (∀ j, j < n → (ys[off + j]?).isSome) ∧ RepM A0 w0 β B w (sliceV l off n) (.tuple ⟨zs⟩) := by
  have hall : ∀ j, j < n → ∃ y, ys[off + j]? = some y ∧ RepM A0 w0 β B w (vget l (off + j)) y := fun j hj => Rep.get1 h (off + j) (by omega)
  refine ⟨(List.range n).map fun j => ys.getD (off + j) undef, by simp, fun j hj => ?_, fun j hj => ?_, ?_⟩
  · obtain ⟨y, hy, _⟩ := hall j hj
    simp [hj, hy]
  · obtain ⟨y, hy, _⟩ := hall j hj
    simp [hy]
  · refine Rep.tab _ n 0 _ (by simp) fun i hi => ?_
    obtain ⟨y, hy, hr⟩ := hall i hi
    simp only [Nat.zero_add]
    simp [hi, hy]
    exact hr
theorem vptr_cells {A : Nat → Prop} {m : Nat} {c : Nat → Val} {g off : Nat} (h : ∀ j, j < m → ∃ y, w.cell? ⟨g, off + j, none⟩ = some y ∧ RepP w A (c j) y) (n : Nat) (hn : n ≤ m) :
    ∃ zs : List Value, zs.length = n ∧ (∀ j, j < zs.length → w.cell? ⟨g, off + j, none⟩ = zs[j]?) ∧ ∀ i, i < zs.length → RepP w A (c (0 + i)) (zs.getD i undef) := by
  refine ⟨(List.range n).map fun j => (w.cell? ⟨g, off + j, none⟩).getD undef, by simp, fun j hj => ?_, fun i hi => ?_⟩
  · simp at hj
    obtain ⟨y, hy, _⟩ := h j (by omega)
    simp [hj, hy]
  · simp at hi
    obtain ⟨y, hy, hr⟩ := h i (by omega)
    simp [hi, hy]
    exact hr
theorem cell_of_heap {g : Nat} {ys : List Value} {t : TypeId} {fz : Nat × Nat} (h : w.heap[g]? = some (.cells ⟨ys⟩ t fz)) (j : Nat) : w.cell? ⟨g, j, none⟩ = ys[j]? := by simp [World.cell?, h]
theorem does_load {N : Nat} (hm : Mem P A0 w0 β B N w) (hbx : ∀ b c, B b = some c → bget bx b = some c) {t : TypeId} {x : Operand} {ox : Opd} {ag : Bool} {s : List Sh} (ho : o.op = .load t x) (hs : shT P t = some (ag, s)) (hx : RepM A0 w0 β B w (ev E fr ox) (a.eval x))
    (hp : (aop E fr bx nx (.load ag s ox)).pre) : Does P A0 w0 β B nx w a o (aop E fr bx nx (.load ag s ox)) := by
  obtain ⟨_, _, _, _, h1⟩ := shT_spec hs
  cases hv : ev E fr ox <;> simp only [aop, hv] at hp hx ⊢ <;> first | exact hp.elim | skip
  · -- vptr
    rename_i m c
    obtain ⟨g, off, he, hg, hA, hc⟩ := hx
    obtain ⟨zs, hz1, hz2, hz3⟩ := vptr_cells hc s.length hp.1
    refine Does.plain rfl (x := if ag then .agg ⟨zs⟩ else zs.getD 0 undef) ?_ ?_
    · simp [execOp, ho, he, Instr.loadAt, Instr.sureAddr, run_loadVar hs hz1 hz2]
    · exact mkv_rep (RepP.rep _ _ (casts_rep s c 0 zs hz1 hp.2 hz3)) fun h => by rw [casts_len]; have := h1 h; omega
  · -- ptr
    rename_i b off
    obtain ⟨⟨l, hl⟩, g, hg, he⟩ := hx
    simp only [hbx b _ hl] at hp ⊢
    obtain ⟨hlb, g', ys, t', h2, h3, h4⟩ := hm.bx b _ hl
    rw [hg] at h2; cases h2
    obtain ⟨zs, hz1, hz2, hz3, hz4⟩ := slice_rep h4 off s.length hp
    refine Does.plain rfl (x := if ag then .agg ⟨zs⟩ else zs.getD 0 undef) ?_ ?_
    · have := run_loadVar (w := w) hs (g := g) (off := off) hz1 (fun j hj => by rw [cell_of_heap h3, hz2 j (by omega)])
      simp [execOp, ho, he, Instr.loadAt, Instr.sureAddr, this]
    · exact mkv_rep hz4 fun h => by rw [sliceV, vlen_tab]; have := h1 h; omega
  · -- rptr
    rename_i b i off
    obtain ⟨e, k, n, c, hl, hi, g, hg, he⟩ := hx
    simp only [hbx b _ hl] at hp ⊢
    obtain ⟨hn, hk, hmax, xs, ⟨hxl, how⟩, hc⟩ := hm.bx b _ hl
    have hcell : ∀ j, j < n * k → w.cell? ⟨g, j, none⟩ = xs[j]? := by
      intro j hj
      rcases how with ⟨he0, hn0⟩ | ⟨g', cap, cur, e1, e2, e3, e4, e5, e6, e7⟩
      · subst hn0; omega
      · rw [hg] at e1
        simp at e1
        rw [← e1.1] at e3
        rw [← e7, List.getElem?_take_of_lt hj]
        simp [World.cell?, e3]
    have hik : i * k + k ≤ n * k := by rw [← Nat.succ_mul]; exact Nat.mul_le_mul_right k hi
    obtain ⟨zs, hz1, hz2, hz3⟩ := vptr_cells (w := w) (A := Al A0 w0 B β) (m := s.length) (c := fun j => c i (off + j)) (g := g) (off := i * k + off) (fun j hj => by
      obtain ⟨y, hy, _, hr⟩ := hc i hi (off + j) (by omega)
      refine ⟨y, ?_, hr⟩
      rw [hcell _ (by omega), Nat.add_assoc]; exact hy) s.length (Nat.le_refl _)
    refine Does.plain rfl (x := if ag then .agg ⟨zs⟩ else zs.getD 0 undef) ?_ ?_
    · have := run_loadVar hs hz1 hz2
      simp [execOp, ho, he, Instr.loadAt, Instr.sureAddr, this]
    · exact mkv_rep (RepP.rep _ _ (casts_rep s _ 0 zs hz1 hp.2 hz3)) fun h => by rw [casts_len]; have := h1 h; omega
end Go.Proofs.YtbhhcnonooiokaaDoor
