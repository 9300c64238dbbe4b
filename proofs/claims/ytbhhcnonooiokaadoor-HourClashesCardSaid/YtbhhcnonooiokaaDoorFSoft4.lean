/- The engine, part 9: structs and slices that are built, slices cut. No condition. -/
import Derived.Test.YtbhhcnonooiokaaDoorFSoft3
namespace Go.Proofs.YtbhhcnonooiokaaDoor
open Go Go.RowKit
variable {P : Program} {E : Env} {A0 : Nat → Prop} {w0 : World} {β : Nat → Loc} {B : Bmap} {nx : Nat} {w : World} {a : Act} {o : Oper} {fr : Fr} {bx : Bx}

inductive Two {α γ : Type} (R : α → γ → Prop) : List α → List γ → Prop
  | nil : Two R [] []
  | cons {x y l r} (h : R x y) (t : Two R l r) : Two R (x :: l) (y :: r)
/-- cells laid one after the other into an array -/
def layList : List Value → Nat → List Value → List Value
  | zs, _, [] => zs
  | zs, off, y :: ys => layList (zs.set off y) (off + 1) ys
theorem layList_len : ∀ (ys zs : List Value) (off : Nat), (layList zs off ys).length = zs.length := by
  intro ys; induction ys with
  | nil => intro zs off; rfl
  | cons y ys ih => intro zs off; simp [layList, ih]
theorem foldl_lay : ∀ (ys : List Value) (j off : Nat) (zs : List Value), (ys.zipIdx j).foldl (fun (cs : Array Value) (p : Value × Nat) => cs.setIfInBounds (off + p.2) p.1) ⟨zs⟩ = ⟨layList zs (off + j) ys⟩ := by
  intro ys; induction ys with
  | nil => intro j off zs; rfl
  | cons y ys ih =>
    intro j off zs
    simp only [List.zipIdx_cons, List.foldl_cons, layList]
    have : (⟨zs⟩ : Array Value).setIfInBounds (off + j) y = ⟨zs.set (off + j) y⟩ := by simp
    rw [this, ih (j + 1) off]
    rfl
theorem vsets_rep {l v : Val} : ∀ {zs ys : List Value} {off : Nat}, RepM A0 w0 β B w l (.tuple ⟨zs⟩) → RepM A0 w0 β B w v (.tuple ⟨ys⟩) → isL v → off + vlen v ≤ vlen l → RepM A0 w0 β B w (vsets l off v) (.tuple ⟨layList zs off ys⟩) := by
  induction v generalizing l with
  | nil =>
    intro zs ys off hl hv _ _
    have : ys = [] := by have e : Value.tuple ⟨ys⟩ = .tuple #[] := hv; simpa using e
    subst this
    cases l <;> simpa [vsets, layList] using hl
  | cons h t ih1 ih2 =>
    intro zs ys off hl hv hL hn
    obtain ⟨y, ys', he, h1, h2⟩ := hv
    have : ys = y :: ys' := by simpa using he
    subst this
    simp only [vlen] at hn
    have hs := Rep.set1 hl h1 off (by omega)
    have := ih2 (off := off + 1) hs h2 hL (by rw [vlen_vset]; omega)
    exact this
  | _ => intro zs ys off hl hv hL; exact hL.elim
theorem vlen_vsets : ∀ (v l : Val) (off : Nat), vlen (vsets l off v) = vlen l := by
  intro v; induction v with
  | cons h t ih1 ih2 => intro l off; simp only [vsets]; rw [ih2, vlen_vset]
  | _ => intro l off; cases l <;> rfl
theorem isL_vsets : ∀ (v l : Val) (off : Nat), isL l → isL (vsets l off v) := by
  intro v; induction v with
  | cons h t ih1 ih2 => intro l off hl; simp only [vsets]; exact ih2 _ _ (isL_vset l off h hl)
  | _ => intro l off hl; cases l <;> exact hl
/-- parts laid: what the model's fill does -/
theorem fill_rep (place : Nat → Option (Nat × Nat)) : ∀ (parts : List (Nat × Operand)) (r : List (Nat × Nat × Opd)) (z : Val) (zs : List Value), RepM A0 w0 β B w z (.tuple ⟨zs⟩) → isL z →
    (∀ p ∈ parts, OpR E A0 w0 β B w fr a p.2) → Two (fun p q => place p.1 = some (q.1, q.2.1) ∧ cOpd p.2 = some q.2.2) parts r → fillOk E fr (vlen z) r →
    ∃ us, Instr.fill place ⟨zs⟩ (parts.map fun p => (p.1, a.eval p.2)) = some ⟨us⟩ ∧ us.length = zs.length ∧ RepM A0 w0 β B w (fillV E fr z r) (.tuple ⟨us⟩) := by
  intro parts
  induction parts with
  | nil =>
    intro r z zs hz hL _ hf _
    cases hf
    exact ⟨zs, rfl, rfl, hz⟩
  | cons p parts ih =>
    intro r z zs hz hL hp hf hok
    cases hf with
    | @cons _ q _ r' hpq hf =>
      obtain ⟨off, n, ox⟩ := q
      obtain ⟨h1, h2, h3⟩ := hok
      have hx := hp p (by simp) ox hpq.2
      obtain ⟨e1, e2, e3, e4⟩ := cellsOf_rep h1 hx
      have hv := vsets_rep hz e3 (isLB_isL e1) (off := off) (by omega)
      have hlen := Rep.len hz hL
      obtain ⟨us, hu1, hu2, hu3⟩ := ih r' _ _ hv (isL_vsets _ _ _ hL) (fun p' h' => hp p' (by simp [h'])) hf (by rw [vlen_vsets]; exact h3)
      refine ⟨us, ?_, by rw [hu2, layList_len], hu3⟩
      simp only [List.map_cons, Instr.fill, hpq.1]
      have e5 : (a.eval p.2).cells.zipIdx.foldl (fun (cs : Array Value) (p : Value × Nat) => cs.setIfInBounds (off + p.2) p.1) ⟨zs⟩ = ⟨layList zs off (a.eval p.2).cells.toList⟩ := by
        rw [← Array.foldl_toList, Array.toList_zipIdx]
        exact foldl_lay _ 0 off zs
      rw [if_neg (by simp [e4]; omega)]
      have e6 : (a.eval p.2).cells.zipIdx.foldl (fun (cs : Array Value) (x : Value × Nat) => match x with | (c, j) => cs.setIfInBounds (off + j) c) ⟨zs⟩ = ⟨layList zs off (a.eval p.2).cells.toList⟩ := e5
      rw [e6]
      exact hu1
theorem partsS_spec {fs : Array Field} : ∀ (l : List (Nat × Operand)) (r : List (Nat × Nat × Opd)), partsS P fs l = some r →
    Two (fun p q => (∃ f, fs[p.1]? = some f ∧ q.1 = f.offset ∧ sizeT P f.type = some q.2.1) ∧ cOpd p.2 = some q.2.2) l r := by
  intro l; induction l with
  | nil => intro r h; simp [partsS] at h; subst h; exact .nil
  | cons p l ih =>
    intro r h
    obtain ⟨i, x⟩ := p
    simp only [partsS] at h
    split at h
    · rename_i f ox r' h1 h2 h3
      split at h
      · rename_i n hn
        simp at h; subst h
        exact .cons ⟨⟨f, h1, rfl, hn⟩, h2⟩ (ih _ h3)
      · cases h
    · cases h
theorem partsA_spec {k : Nat} : ∀ (l : List (Nat × Operand)) (r : List (Nat × Nat × Opd)), partsA k l = some r → Two (fun p q => q.1 = p.1 * k ∧ q.2.1 = k ∧ cOpd p.2 = some q.2.2) l r := by
  intro l; induction l with
  | nil => intro r h; simp [partsA] at h; subst h; exact .nil
  | cons p l ih =>
    intro r h
    obtain ⟨i, x⟩ := p
    simp only [partsA] at h
    split at h
    · rename_i ox r' h1 h2
      simp at h; subst h
      exact .cons ⟨rfl, rfl, h1⟩ (ih _ h2)
    · cases h
theorem f2_mono {α γ : Type} {R S : α → γ → Prop} {l : List α} {r : List γ} (h : Two R l r) (hr : ∀ x y, R x y → S x y) : Two S l r := by
  induction h with
  | nil => exact .nil
  | cons h _ ih => exact .cons (hr _ _ h) ih
theorem zeroT_rep {t : TypeId} {n : Nat} {z : Val} (h : zeroT P t = some (n, z)) (w : World) (A : Nat → Prop) : ∃ v, (zeroValue t).run P w = .ok v w ∧ v.cells.size = n ∧ RepP w A z (.tuple ⟨v.cells.toList⟩) ∧ isLB z = true ∧ vlen z = n := by
  obtain ⟨i, v, h1, h2, h3, h4, h5⟩ := zeroT_spec h
  refine ⟨v, by simp [zeroValue, typeInfo, h1, h2], h4, cvs_rep (fun v u h => cv0_rep h w A) _ _ h5, (cvs_isLB _ _ h5).1, ?_⟩
  rw [(cvs_isLB _ _ h5).2]; simpa using h4
theorem run_mapM_sizes {w : World} : ∀ (fs : List Field), (∀ f ∈ fs, ∃ n, sizeT P f.type = some n) → (fs.mapM fun f => (do pure (f.offset, ← sizeOf f.type) : Sem (Nat × Nat))).run P w = .ok (fs.map fun f => (f.offset, (sizeT P f.type).getD 0)) w := by
  intro fs; induction fs with
  | nil => intro _; simp
  | cons f fs ih =>
    intro h
    obtain ⟨n, hn⟩ := h f (by simp)
    obtain ⟨i, hi, hi'⟩ := Option.map_eq_some_iff.1 hn
    have h2 := ih fun g hg => h g (by simp [hg])
    have h3 : (sizeOf f.type).run P w = .ok n w := by simp [sizeOf, typeInfo, hi, hi']
    simp only [List.mapM_cons, Sem.run_bind, h3, Result.andThen_ok, Sem.run_pure, h2, List.map_cons, hn, Option.getD_some]
theorem does_build_struct {t : TypeId} {parts : Array (Nat × Operand)} {fs : Array Field} {n : Nat} {z : Val} {r : List (Nat × Nat × Opd)} (ho : o.op = .build t parts) (ht : P.underlying t = some (.struct fs)) (hz : zeroT P t = some (n, z)) (hall : fs.toList.all (fun f => (sizeT P f.type).isSome) = true)
    (hr : partsS P fs parts.toList = some r) (hx : ∀ p ∈ parts.toList, OpR E A0 w0 β B w fr a p.2) (hp : (aop E fr bx nx (.build z r)).pre) : Does P A0 w0 β B nx w a o (aop E fr bx nx (.build z r)) := by
  obtain ⟨v, h1, h2, h3, h4, h5⟩ := zeroT_rep hz w (Al A0 w0 B β)
  obtain ⟨us, hu1, hu2, hu3⟩ := fill_rep (place := fun i => ((fs.toList.map fun f => (f.offset, (sizeT P f.type).getD 0)).toArray)[i]?) parts.toList r z v.cells.toList (RepP.rep _ _ h3) (isLB_isL h4) hx
    (f2_mono (partsS_spec _ _ hr) fun p q ⟨⟨f, e1, e2, e3⟩, e4⟩ => ⟨by simp [e1, e2, e3], e4⟩) hp.2
  refine Does.plain rfl (x := .agg ⟨us⟩) ?_ ⟨us, rfl, hu3⟩
  have hm : (fs.mapM fun f => (do pure (f.offset, ← sizeOf f.type) : Sem (Nat × Nat))).run P w = .ok (fs.toList.map fun f => (f.offset, (sizeT P f.type).getD 0)).toArray w := by
    rw [Array.mapM_eq_mapM_toList]
    have := run_mapM_sizes (P := P) (w := w) fs.toList fun f hf => by
      have := List.all_eq_true.1 hall f hf
      exact Option.isSome_iff_exists.1 this
    simp only [Sem.run_map, this, Result.andThen_ok]
  have hmap : (parts.map fun p => (p.1, a.eval p.2)).toList = parts.toList.map fun p => (p.1, a.eval p.2) := by simp
  have hu : Instr.fill (fun i => ((fs.toList.map fun f => (f.offset, (sizeT P f.type).getD 0)).toArray)[i]?) v.cells (parts.map fun p => (p.1, a.eval p.2)).toList = some ⟨us⟩ := by rw [hmap]; exact hu1
  simp only [execOp, ho, Instr.build, Sem.run_bind, h1, Result.andThen_ok, run_underlying ht, hm]
  rw [show (fun (x : Nat × Operand) => match x with | (i, x) => (i, a.eval x)) = fun p => (p.1, a.eval p.2) from rfl, hu]
  rfl
theorem does_build_array {t e : TypeId} {parts : Array (Nat × Operand)} {m k n : Nat} {z : Val} {r : List (Nat × Nat × Opd)} (ho : o.op = .build t parts) (ht : P.underlying t = some (.array m e)) (hk : sizeT P e = some k) (hz : zeroT P t = some (n, z))
    (hr : partsA k parts.toList = some r) (hx : ∀ p ∈ parts.toList, OpR E A0 w0 β B w fr a p.2) (hp : (aop E fr bx nx (.build z r)).pre) : Does P A0 w0 β B nx w a o (aop E fr bx nx (.build z r)) := by
  obtain ⟨v, h1, h2, h3, h4, h5⟩ := zeroT_rep hz w (Al A0 w0 B β)
  obtain ⟨us, hu1, hu2, hu3⟩ := fill_rep (place := fun i => some (i * k, k)) parts.toList r z v.cells.toList (RepP.rep _ _ h3) (isLB_isL h4) hx
    (f2_mono (partsA_spec _ _ hr) fun p q ⟨e1, e2, e4⟩ => ⟨by rw [e1, e2], e4⟩) hp.2
  refine Does.plain rfl (x := .agg ⟨us⟩) ?_ ⟨us, rfl, hu3⟩
  obtain ⟨i, hi, hi'⟩ := Option.map_eq_some_iff.1 hk
  have hmap : (parts.map fun p => (p.1, a.eval p.2)).toList = parts.toList.map fun p => (p.1, a.eval p.2) := by simp
  have hu : Instr.fill (fun i => some (i * k, k)) v.cells (parts.map fun p => (p.1, a.eval p.2)).toList = some ⟨us⟩ := by rw [hmap]; exact hu1
  have h6 : (sizeOf e).run P w = .ok k w := by simp [sizeOf, typeInfo, hi, hi']
  simp only [execOp, ho, Instr.build, Sem.run_bind, h1, Result.andThen_ok, run_underlying ht, h6]
  rw [show (fun (x : Nat × Operand) => match x with | (i, x) => (i, a.eval x)) = fun p => (p.1, a.eval p.2) from rfl, hu]
  rfl
end Go.Proofs.YtbhhcnonooiokaaDoor
