/- The engine, part 6: what an operation gives is what the model's operation does. No condition. -/
import Derived.Test.YtbhhcnonooiokaaDoorFMem
namespace Go.Proofs.YtbhhcnonooiokaaDoor
open Go Go.RowKit

theorem cv0_rep {v : Value} {u : Val} (h : cv0 v = some u) (w : World) (A : Nat → Prop) : RepP w A u v := by
  unfold cv0 at h
  split at h <;> simp at h <;> subst h <;> rfl
theorem cvs_rep {f : Value → Option Val} {w : World} {A : Nat → Prop} (hf : ∀ v u, f v = some u → RepP w A u v) : ∀ (l : List Value) (u : Val), cvs f l = some u → RepP w A u (.tuple ⟨l⟩) := by
  intro l
  induction l with
  | nil => intro u h; simp [cvs] at h; subst h; rfl
  | cons v l ih =>
    intro u h
    simp only [cvs] at h
    split at h
    · rename_i a t h1 h2
      simp at h; subst h
      exact ⟨v, l, rfl, hf _ _ h1, ih _ h2⟩
    · cases h
theorem cvs_isLB {f : Value → Option Val} : ∀ (l : List Value) (u : Val), cvs f l = some u → isLB u = true ∧ vlen u = l.length := by
  intro l
  induction l with
  | nil => intro u h; simp [cvs] at h; subst h; simp [isLB, vlen]
  | cons v l ih =>
    intro u h
    simp only [cvs] at h
    split at h
    · rename_i a t h1 h2
      simp at h; subst h
      obtain ⟨e1, e2⟩ := ih _ h2
      exact ⟨e1, by simp [vlen, e2]⟩
    · cases h
theorem cv_rep {v : Value} {u : Val} (h : cv v = some u) (w : World) (A : Nat → Prop) : RepP w A u v := by
  unfold cv at h
  split at h
  · rename_i cs
    simp at h
    obtain ⟨l, hl, rfl⟩ := h
    exact ⟨cs.toList, rfl, cvs_rep (fun v u h => cv0_rep h w A) _ _ hl⟩
  · exact cv0_rep h w A

/-- what a spec says of a function -/
structure PureOk (P : Program) (G : Nat → Option (Nat × (Nat → Val))) (id : FuncId) (s : Spec) : Prop where
  ent : ∀ args w, (callFunc id args).run P w = .ok (.enter id args) w
  run : ∀ (A : Nat → Prop) (w : World) (vs : List Val) (cs : List Value), (∀ n m c, G n = some (m, c) → RepP w A (.vptr m c) (.pointer (some ⟨n, 0, none⟩))) →
    RepP w A (vl vs) (.tuple ⟨cs⟩) → s.pre vs → Calls P id ⟨cs⟩ w fun e w' => ∃ x, e = .returned x ∧ RepP w' (fun g => A g ∨ w.heap.size ≤ g) (s.res vs) x ∧ Below w.heap.size w w'

variable {P : Program} {E : Env} {A0 : Nat → Prop} {w0 : World} {β : Nat → Loc} {B : Bmap} {nx : Nat} {w : World} {a : Act} {o : Oper} {fr : Fr} {bx : Bx}

/-- the operation runs, and gives what r says -/
def Does (P : Program) (A0 : Nat → Prop) (w0 : World) (β : Nat → Loc) (B : Bmap) (nx : Nat) (w : World) (a : Act) (o : Oper) (r : AR) : Prop :=
  ∃ x w1 β1, (execOp a.eval o).run P w = .ok (.value x) w1 ∧ Soft P A0 w0 β β1 B nx r.new w w1 ∧ RepM A0 w0 β1 (extB B nx r.new) w1 r.v x
theorem Does.plain {r : AR} {x : Value} (hn : r.new = none) (hr : (execOp a.eval o).run P w = .ok (.value x) w) (hv : RepM A0 w0 β B w r.v x) : Does P A0 w0 β B nx w a o r := by
  refine ⟨x, w, β, hr, ?_, ?_⟩
  · rw [hn]; exact Soft.refl ..
  · rw [hn]; exact hv
abbrev OpR (E : Env) (A0 : Nat → Prop) (w0 : World) (β : Nat → Loc) (B : Bmap) (w : World) (fr : Fr) (a : Act) (x : Operand) : Prop := ∀ ox, cOpd x = some ox → RepM A0 w0 β B w (ev E fr ox) (a.eval x)

theorem rep_int {v : Val} {x : Value} {k : IntKind} {n : Int} (h : RepM A0 w0 β B w v x) (e : v = .int k n) : x = .int k n := by subst e; exact h
theorem rep_bool {v : Val} {x : Value} {b : Bool} (h : RepM A0 w0 β B w v x) (e : v = .bool b) : x = .bool b := by subst e; exact h

theorem does_mv {x : Operand} {ox : Opd} (ho : o.op = .move x ∨ o.op = .assign x) (hx : RepM A0 w0 β B w (ev E fr ox) (a.eval x)) : Does P A0 w0 β B nx w a o (aop E fr bx nx (.mv ox)) := by
  refine Does.plain rfl (x := a.eval x) ?_ hx
  rcases ho with ho | ho <;> simp [execOp, ho]
theorem does_pick {c x y : Operand} {oc ox oy : Opd} (ho : o.op = .pick c x y) (hc : RepM A0 w0 β B w (ev E fr oc) (a.eval c)) (hx : RepM A0 w0 β B w (ev E fr ox) (a.eval x)) (hy : RepM A0 w0 β B w (ev E fr oy) (a.eval y))
    (hp : (aop E fr bx nx (.pick oc ox oy)).pre) : Does P A0 w0 β B nx w a o (aop E fr bx nx (.pick oc ox oy)) := by
  cases ht : ev E fr oc <;> simp only [aop, ht] at hp ⊢ <;> first | exact hp.elim | skip
  rename_i t
  have := rep_bool hc ht
  refine Does.plain rfl (x := if t then a.eval x else a.eval y) ?_ ?_
  · simp [execOp, ho, this, asBool]
  · cases t <;> simp [pickV, hx, hy]
theorem zeroT_spec {t : TypeId} {n : Nat} {z : Val} (h : zeroT P t = some (n, z)) : ∃ i v, P.info? t = some i ∧ i.zero = some v ∧ i.size = n ∧ v.cells.size = n ∧ cvs cv0 v.cells.toList = some z := by
  unfold zeroT at h
  split at h
  · rename_i i hi
    split at h
    · rename_i v hv
      split at h
      · rename_i hsz
        obtain ⟨l, hl, he⟩ := Option.map_eq_some_iff.1 h
        cases he
        exact ⟨i, v, hi, hv, rfl, hsz, hl⟩
      · cases h
    · cases h
  · cases h
theorem does_alloc {t : TypeId} {p : Nat × Val} {N : Nat} (hm : Mem P A0 w0 β B N w) (hB : B nx = none) (ho : o.op = .alloc t) (hz : zeroT P t = some p) : Does P A0 w0 β B nx w a o (aop E fr bx nx (.alloc p.2)) := by
  obtain ⟨n, z⟩ := p
  obtain ⟨i, v, hi, hv, hn, hs, hc⟩ := zeroT_spec hz
  refine ⟨.pointer (some ⟨w.heap.size, 0, none⟩), w.alloc (.cells ⟨v.cells.toList⟩ t), _, ?_, Soft.newCells hm hB (cvs_isLB _ _ hc).1 (RepP.rep _ _ (cvs_rep (fun v u h => cv0_rep h w _) _ _ hc)) t, ?_⟩
  · simp [execOp, ho, Instr.alloc, zeroValue, typeInfo, hi, hv, newVar, newRow]
  · exact ⟨⟨z, by simp [extB, aop]⟩, w.heap.size, by rw [updL_new], rfl⟩
theorem cellsOf_rep {n : Nat} {v : Val} {x : Value} (h : cellsN n v) (hr : RepM A0 w0 β B w v x) : isLB (cellsOf v) = true ∧ vlen (cellsOf v) = n ∧ RepM A0 w0 β B w (cellsOf v) (.tuple ⟨x.cells.toList⟩) ∧ x.cells.size = n := by
  cases v with
  | agg l =>
    obtain ⟨ys, rfl, h2⟩ := hr
    obtain ⟨h0, h1⟩ := h
    refine ⟨h0, h1, h2, ?_⟩
    have := Rep.len h2 (isLB_isL h0)
    simpa [Value.cells, h1] using this
  | und => exact h.elim
  | tup l => exact h.elim
  | cons a b => exact h.elim
  | nil => exact h.elim
  | int k m => simp only [cellsN] at h; subst h; have e : x = _ := hr; subst e; exact ⟨rfl, rfl, ⟨_, [], rfl, rfl, rfl⟩, rfl⟩
  | bool b => simp only [cellsN] at h; subst h; have e : x = _ := hr; subst e; exact ⟨rfl, rfl, ⟨_, [], rfl, rfl, rfl⟩, rfl⟩
  | nils => simp only [cellsN] at h; subst h; have e : x = _ := hr; subst e; exact ⟨rfl, rfl, ⟨_, [], rfl, rfl, rfl⟩, rfl⟩
  | nilp => simp only [cellsN] at h; subst h; have e : x = _ := hr; subst e; exact ⟨rfl, rfl, ⟨_, [], rfl, rfl, rfl⟩, rfl⟩
  | nilf => simp only [cellsN] at h; subst h; have e : x = _ := hr; subst e; exact ⟨rfl, rfl, ⟨_, [], rfl, rfl, rfl⟩, rfl⟩
  | nilm => simp only [cellsN] at h; subst h; have e : x = _ := hr; subst e; exact ⟨rfl, rfl, ⟨_, [], rfl, rfl, rfl⟩, rfl⟩
  | view k m c => simp only [cellsN] at h; subst h; obtain ⟨p, q, e, hr'⟩ := hr; subst e; exact ⟨rfl, rfl, ⟨_, [], rfl, ⟨p, q, rfl, hr'⟩, rfl⟩, rfl⟩
  | vptr m c => simp only [cellsN] at h; subst h; obtain ⟨p, q, e, hr'⟩ := hr; subst e; exact ⟨rfl, rfl, ⟨_, [], rfl, ⟨p, q, rfl, hr'⟩, rfl⟩, rfl⟩
  | ptr b off => simp only [cellsN] at h; subst h; obtain ⟨p, q, hq, e⟩ := hr; subst e; exact ⟨rfl, rfl, ⟨_, [], rfl, ⟨p, q, hq, rfl⟩, rfl⟩, rfl⟩
  | own b => simp only [cellsN] at h; subst h; obtain ⟨p, e⟩ := hr; subst e; exact ⟨rfl, rfl, ⟨_, [], rfl, ⟨p, rfl⟩, rfl⟩, rfl⟩
  | rptr b i off => simp only [cellsN] at h; subst h; obtain ⟨e0, k, m, c, h1, h2, q, hq, e⟩ := hr; subst e; exact ⟨rfl, rfl, ⟨_, [], rfl, ⟨e0, k, m, c, h1, h2, q, hq, rfl⟩, rfl⟩, rfl⟩
  | yld b => simp only [cellsN] at h; subst h; obtain ⟨g, fr, ps, ca, cb, st, q, e⟩ := hr; subst e; exact ⟨rfl, rfl, ⟨_, [], rfl, ⟨g, fr, ps, ca, cb, st, q, rfl⟩, rfl⟩, rfl⟩
  | mapb b => simp only [cellsN] at h; subst h; obtain ⟨p, q, hq, e⟩ := hr; subst e; exact ⟨rfl, rfl, ⟨_, [], rfl, ⟨p, q, hq, rfl⟩, rfl⟩, rfl⟩
  | mview kd has f => simp only [cellsN] at h; subst h; obtain ⟨g, m, e, hr'⟩ := hr; subst e; exact ⟨rfl, rfl, ⟨_, [], rfl, ⟨g, m, rfl, hr'⟩, rfl⟩, rfl⟩
  | func fn l => simp only [cellsN] at h; subst h; obtain ⟨ys, e, h2⟩ := hr; subst e; exact ⟨rfl, rfl, ⟨_, [], rfl, ⟨ys, rfl, h2⟩, rfl⟩, rfl⟩
theorem does_mkm {t k e : TypeId} {kd : IntKind} (hB : B nx = none) (ho : o.op = .makeMap t none) : Does P A0 w0 β B nx w a o (aop E fr bx nx (.mkm kd)) := by
  refine ⟨.map (some w.heap.size), w.alloc (.map #[] 0), _, ?_, Soft.newMap hB kd, ?_⟩
  · simp [execOp, ho, Instr.makeMap]
  · exact ⟨⟨kd, fun _ => false, fun _ => .und, by simp [extB, aop]⟩, w.heap.size, by rw [updL_new], rfl⟩
theorem does_box {t : TypeId} {x : Operand} {ox : Opd} {n : Nat} {N : Nat} (hm : Mem P A0 w0 β B N w) (hB : B nx = none) (ho : o.op = .box t x) (hx : RepM A0 w0 β B w (ev E fr ox) (a.eval x))
    (hp : (aop E fr bx nx (.box n ox)).pre) : Does P A0 w0 β B nx w a o (aop E fr bx nx (.box n ox)) := by
  obtain ⟨h1, h2, h3, h4⟩ := cellsOf_rep (n := n) hp hx
  refine ⟨.pointer (some ⟨w.heap.size, 0, none⟩), w.alloc (.cells ⟨(a.eval x).cells.toList⟩ t), _, ?_, Soft.newCells hm hB h1 h3 t, ?_⟩
  · simp [execOp, ho, Instr.box, newVar, newRow]
  · exact ⟨⟨cellsOf (ev E fr ox), by simp [extB, aop]⟩, w.heap.size, by rw [updL_new], rfl⟩
end Go.Proofs.YtbhhcnonooiokaaDoor
