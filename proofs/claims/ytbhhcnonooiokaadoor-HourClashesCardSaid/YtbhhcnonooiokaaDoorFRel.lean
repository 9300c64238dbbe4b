/- The engine, part 14: states that are related to worlds, and what keeps them so. No condition. -/
import Derived.Test.YtbhhcnonooiokaaDoorFSoft8
import Derived.Laws.CopyOwn
namespace Go.Proofs.YtbhhcnonooiokaaDoor
open Go Go.RowKit
variable {P : Program} {E : Env} {A0 : Nat → Prop} {w0 : World} {β β1 : Nat → Loc} {B : Bmap} {nx : Nat} {w w1 : World} {a : Act} {fr : Fr} {bx : Bx}

def Bres (B : Bmap) (n : Nat) : Bmap := fun b => if b < n then B b else none
def StkR (A0 : Nat → Prop) (w0 : World) (β : Nat → Loc) (B : Bmap) (w : World) : List SFrame → List Act → Prop
  | [], [] => True
  | f :: l, a :: as => (∀ t, Rep w (Al A0 w0 B β) (Bres B f.nx) β (fget f.fr t) (a.tmps.getD t undef)) ∧ StkR A0 w0 β B w l as
  | _, _ => False
/-- the marks of ranges over functions, to be taken at a return -/
def Marks (w0 w : World) (A : Nat → Prop) (ds : List Deferred) : Prop :=
  ds.Pairwise (fun d d' => d.target ≠ d'.target) ∧ ∀ d ∈ ds, ∃ r, d = { target := .collected r, args := #[] } ∧ w0.heap.size ≤ r ∧ r < w.heap.size ∧ A r ∧ w.heap[r]? = some (.deferred (some []))
theorem Marks.mono {A A' : Nat → Prop} {ds : List Deferred} (h : Marks w0 w A ds) (hs : w.heap.size ≤ w1.heap.size) (hA : ∀ g, g < w.heap.size → A g → A' g ∧ w1.heap[g]? = w.heap[g]?) : Marks w0 w1 A' ds :=
  ⟨h.1, fun d hd => by
    obtain ⟨r, h1, h2, h3, h4, h5⟩ := h.2 d hd
    obtain ⟨h6, h7⟩ := hA r h3 h4
    exact ⟨r, h1, h2, by omega, h6, h7.trans h5⟩⟩
def dfs (a : Act) (as : List Act) : List Deferred := a.defers ++ as.flatMap (·.defers)
structure Rel (P : Program) (A0 : Nat → Prop) (w0 : World) (β : Nat → Loc) (stk : List SFrame) (as : List Act) (fr : Fr) (bx : Bx) (nx : Nat) (a : Act) (w : World) : Prop where
  mem : Mem P A0 w0 β (bget bx) nx w
  fr : ∀ t, RepM A0 w0 β (bget bx) w (fget fr t) (a.tmps.getD t undef)
  st : StkR A0 w0 β (bget bx) w stk as
  df : Marks w0 w (Al A0 w0 (bget bx) β) (dfs a as)
  sn : ∀ f ∈ stk, f.nx ≤ nx

theorem bget_bset (bx : Bx) (b : Nat) (c : Box) (x : Nat) : bget (bset bx b c) x = if x = b then some c else bget bx x := by
  induction bx with
  | nil => simp [bset, bget]; by_cases h : b = x <;> simp [h]; intro e; exact absurd e.symm h
  | cons p l ih =>
    obtain ⟨t, v⟩ := p
    simp only [bset]
    by_cases h : t = b
    · subst h
      simp only [if_true, bget]
      by_cases h2 : t = x
      · simp [h2]
      · simp [h2]; intro e; exact absurd e.symm h2
    · simp only [if_neg h, bget, ih]
      by_cases h2 : t = x
      · subst h2; simp [h]
      · simp [h2]
theorem bget_bdel (bx : Bx) (b x : Nat) : bget (bdel bx b) x = if x = b then none else bget bx x := by
  induction bx with
  | nil => simp [bdel, bget]
  | cons p l ih =>
    obtain ⟨t, v⟩ := p
    simp only [bdel]
    by_cases h : t = b
    · subst h
      simp only [if_true, ih, bget]
      by_cases h2 : x = t
      · simp [h2]
      · simp only [if_neg h2]; rw [if_neg (fun e => h2 e.symm)]
    · simp only [if_neg h, bget, ih]
      by_cases h2 : t = x
      · subst h2; simp [h]
      · simp [h2]
def subBox (b : Nat) (r : Val) : Box → Box
  | .cells l => .cells (subV b r l)
  | .mp kd has f => .mp kd has fun k => subV b r (f k)
  | .row e k n c => .row e k n c
  | .lp g fr ps ca cb st => .lp g (subFr b r fr) ps ca cb st
theorem bget_subBx (b : Nat) (r : Val) (bx : Bx) (x : Nat) : bget (subBx b r bx) x = (bget bx x).map (subBox b r) := by
  induction bx with
  | nil => rfl
  | cons p l ih =>
    obtain ⟨t, v⟩ := p
    cases v <;> simp only [subBx, bget, ih] <;> split <;> simp [subBox]
theorem fget_subFr (b : Nat) (r : Val) (fr : Fr) (t : Nat) : fget (subFr b r fr) t = if (fr.any fun p => p.1 == t) then subV b r (fget fr t) else .und := by
  induction fr with
  | nil => rfl
  | cons p l ih =>
    obtain ⟨s, v⟩ := p
    simp only [subFr, fget, ih, List.any_cons]
    by_cases h : s = t
    · simp [h]
    · have : (s == t) = false := by simp [h]
      simp only [if_neg h, this, Bool.false_or]
theorem fget_fput (fr : Fr) (d : Option Nat) (v : Val) (t : Nat) : fget (fput fr d v) t = if d = some t then v else fget fr t := by
  cases d with
  | none => simp [fput]
  | some s => simp [fput, fget]
theorem getD_put (a : Act) (d : Option Nat) (x : Value) (t : Nat) (hd : ∀ s, d = some s → s < a.tmps.size) : (a.put d x).tmps.getD t undef = if d = some t then x else a.tmps.getD t undef := by
  cases d with
  | none => simp [Act.put]
  | some s =>
    have := hd s rfl
    by_cases h : s = t
    · subst h; simp [Act.put, this]
    · simp [Act.put, Array.getElem?_setIfInBounds_ne h, h]
theorem put_size (a : Act) (d : Option Nat) (x : Value) : (a.put d x).tmps.size = a.tmps.size := by cases d <;> simp [Act.put]
theorem put_df (a : Act) (d : Option Nat) (x : Value) : (a.put d x).defers = a.defers := by cases d <;> simp [Act.put]
theorem put_dfs (a : Act) (as : List Act) (d : Option Nat) (x : Value) : dfs (a.put d x) as = dfs a as := by simp only [dfs, put_df]
theorem fr_put {A : Nat → Prop} {B : Bmap} (hf : ∀ t, Rep w A B β (fget fr t) (a.tmps.getD t undef)) {v : Val} {x : Value} (hv : Rep w A B β v x) (d : Option Nat) (hd : ∀ s, d = some s → s < a.tmps.size) (t : Nat) :
    Rep w A B β (fget (fput fr d v) t) ((a.put d x).tmps.getD t undef) := by
  rw [fget_fput, getD_put _ _ _ _ hd]
  split
  · exact hv
  · exact hf t
theorem Rep.und {A : Nat → Prop} {B : Bmap} (x : Value) : Rep w A B β .und x := trivial

theorem StkR.mono {A A' : Nat → Prop} (h : ∀ n v x, Rep w (Al A0 w0 B β) (Bres B n) β v x → Rep w1 (Al A0 w0 (bget bx) β1) (Bres (bget bx) n) β1 v x) : ∀ {stk as}, StkR A0 w0 β B w stk as → StkR A0 w0 β1 (bget bx) w1 stk as := by
  intro stk; induction stk with
  | nil => intro as hs; cases as <;> exact hs
  | cons f l ih =>
    intro as hs
    cases as with
    | nil => exact hs
    | cons a as => exact ⟨fun t => h _ _ _ (hs.1 t), ih hs.2⟩
theorem bget_addB (bx : Bx) (nx : Nat) (new : Option Box) : bget (addB nx new bx) = extB (bget bx) nx new := by
  cases new with
  | none => rfl
  | some c =>
    funext x
    simp only [addB, bget, extB]
    by_cases h : nx = x
    · simp [h]
    · simp [h]; intro e; exact absurd e.symm h
/-- behind an operation that stores nothing -/
theorem Rel.soft {stk : List SFrame} {as : List Act} {new : Option Box} (h : Rel P A0 w0 β stk as fr bx nx a w) (hs : Soft P A0 w0 β β1 (bget bx) nx new w w1) {v : Val} {x : Value} (hv : RepM A0 w0 β1 (extB (bget bx) nx new) w1 v x) (d : Option Nat) (hd : ∀ s, d = some s → s < a.tmps.size) :
    Rel P A0 w0 β1 stk as (fput fr d v) (addB nx new bx) (addN nx new) (a.put d x) w1 := by
  have hB : bget bx nx = none := by
    cases hb : bget bx nx with
    | none => rfl
    | some c => exact absurd (h.mem.nx nx c hb) (Nat.lt_irrefl _)
  refine ⟨?_, ?_, ?_, by rw [put_dfs, bget_addB]; exact h.df.mono hs.keep.size (hs.al h.mem hB), fun f hf => Nat.le_trans (h.sn f hf) (by cases new <;> simp [addN])⟩
  · rw [bget_addB]; exact hs.mem h.mem hB (by cases new <;> simp [addN]) (fun c hc => by subst hc; simp [addN])
  · rw [bget_addB]; exact fr_put (fun t => hs.rep h.mem hB (h.fr t)) hv d hd
  · refine StkR.mono (A := fun _ => True) (A' := fun _ => True) (fun n v x hr => ?_) h.st
    rw [bget_addB]
    refine Rep.mono hs.keep.size (hs.al h.mem hB) (fun b c hb => ?_) v x hr
    simp only [Bres] at hb ⊢
    split at hb
    · rename_i hlt
      rw [if_pos hlt]
      exact ⟨c, extB_some hB hb, Kin.refl c, hs.loc b c hb⟩
    · cases hb
/-- nothing happened but that a temporary is void -/
theorem Rel.void {stk : List SFrame} {as : List Act} (h : Rel P A0 w0 β stk as fr bx nx a w) (d : Option Nat) (hd : ∀ s, d = some s → s < a.tmps.size) : Rel P A0 w0 β stk as (fput fr d (.tup .nil)) bx nx (a.put d undef) w :=
  ⟨h.mem, fr_put h.fr (v := .tup .nil) (x := undef) ⟨[], rfl, rfl⟩ d hd, h.st, by rw [put_dfs]; exact h.df, h.sn⟩

/-- one box is written, or laid anew -/
structure Upd (A0 : Nat → Prop) (w0 : World) (β β1 : Nat → Loc) (b : Nat) (w w1 : World) : Prop where
  size : w.heap.size ≤ w1.heap.size
  blk : ∀ k, k < w.heap.size → (β b).a ≠ some k → w1.heap[k]? = w.heap[k]?
  loc : ∀ x, x ≠ b → β1 x = β x
  fresh : ∀ g, (β1 b).a = some g → ((β b).a = some g ∨ w.heap.size ≤ g) ∧ g < w1.heap.size
  below : Below w0.heap.size w0 w1
def setB (B : Bmap) (b : Nat) (c : Box) : Bmap := fun x => if x = b then some c else B x
theorem Upd.al {b : Nat} {c0 : Box} (h : Upd A0 w0 β β1 b w w1) (hb : B b = some c0) {B1 : Bmap} (hd : ∀ x c, B1 x = some c → ∃ c', B x = some c') : ∀ g, g < w.heap.size → Al A0 w0 B β g → Al A0 w0 B1 β1 g ∧ w1.heap[g]? = w.heap[g]? := by
  rintro g hg ⟨hA, hn⟩
  refine ⟨⟨hA, fun x c hx e => ?_⟩, h.blk g hg (hn b c0 hb)⟩
  by_cases hxb : x = b
  · subst hxb
    rcases (h.fresh g e).1 with e2 | e2
    · exact hn x c0 hb e2
    · omega
  · rw [h.loc x hxb] at e
    obtain ⟨c', hc'⟩ := hd x c hx
    exact hn x c' hc' e
/-- a box's name stands no more in a value -/
theorem subV_rep {A A' : Nat → Prop} {B B' : Bmap} {b : Nat} {r : Val} (hr : ∀ x, Rep w A B β (.own b) x → Rep w1 A' B' β1 r x) (hs : w.heap.size ≤ w1.heap.size)
    (hA : ∀ g, g < w.heap.size → A g → A' g ∧ w1.heap[g]? = w.heap[g]?) (hx : ∀ x c, x ≠ b → B x = some c → ∃ c', B' x = some c' ∧ Kin c c' ∧ β1 x = β x) :
    ∀ (v : Val) (x : Value), Rep w A B β v x → Rep w1 A' B' β1 (subV b r v) x := by
  intro v
  induction v with
  | cons h t ih1 ih2 => rintro x ⟨y, ys, rfl, h1, h2⟩; exact ⟨y, ys, rfl, ih1 y h1, ih2 _ h2⟩
  | agg l ih => rintro x ⟨ys, rfl, h⟩; exact ⟨ys, rfl, ih _ h⟩
  | tup l ih => rintro x ⟨ys, rfl, h⟩; exact ⟨ys, rfl, ih _ h⟩
  | func fn l ih => rintro x ⟨ys, rfl, h⟩; exact ⟨ys, rfl, ih _ h⟩
  | ptr b' off =>
    rintro x ⟨⟨l, hB⟩, g, hg, rfl⟩
    simp only [subV]
    split
    · trivial
    · rename_i hne
      obtain ⟨c', hc, hk, hβ⟩ := hx b' _ hne hB
      cases c' with
      | cells l' => exact ⟨⟨l', hc⟩, g, by rw [hβ]; exact hg, rfl⟩
      | row => simp [Kin] at hk
      | mp => simp [Kin] at hk
      | lp => simp [Kin] at hk
  | mapb b' =>
    rintro x ⟨⟨kd, has, f, hB⟩, g, hg, rfl⟩
    simp only [subV]
    split
    · trivial
    · rename_i hne
      obtain ⟨c', hc, hk, hβ⟩ := hx b' _ hne hB
      cases c' with
      | mp kd' has' f' => exact ⟨⟨kd', has', f', hc⟩, g, by rw [hβ]; exact hg, rfl⟩
      | row => simp [Kin] at hk
      | cells => simp [Kin] at hk
      | lp => simp [Kin] at hk
  | own b' =>
    intro x h
    simp only [subV]
    split
    · rename_i he; subst he; exact hr x h
    · rename_i hne
      obtain ⟨⟨e, k, n, cell, hB⟩, rfl⟩ := h
      obtain ⟨c', hc, hk, hβ⟩ := hx b' _ hne hB
      cases c' with
      | cells l' => simp [Kin] at hk
      | mp => simp [Kin] at hk
      | lp => simp [Kin] at hk
      | row e' k' n' cell' => exact ⟨⟨e', k', n', cell', hc⟩, by rw [hβ]⟩
  | rptr b' i off =>
    rintro x ⟨e, k, n, cell, hB, hi, g, hg, rfl⟩
    simp only [subV]
    split
    · trivial
    · rename_i hne
      obtain ⟨c', hc, hk, hβ⟩ := hx b' _ hne hB
      cases c' with
      | cells l' => simp [Kin] at hk
      | mp => simp [Kin] at hk
      | lp => simp [Kin] at hk
      | row e' k' n' cell' =>
        obtain ⟨rfl, rfl⟩ := hk
        exact ⟨e', k, n, cell', hc, hi, g, by rw [hβ]; exact hg, rfl⟩
  | yld b' =>
    rintro x ⟨g, fr, ps, ca, cb, st, hB, rfl⟩
    simp only [subV]
    split
    · trivial
    · rename_i hne
      obtain ⟨c', hc, hk, hβ⟩ := hx b' _ hne hB
      cases c' with
      | lp g' fr' ps' ca' cb' st' => obtain ⟨rfl, _⟩ := hk; exact ⟨g, fr', ps', ca', cb', st', hc, rfl⟩
      | row => simp [Kin] at hk
      | cells => simp [Kin] at hk
      | mp => simp [Kin] at hk
  | nil => intro x h; exact h
  | und => intro x h; trivial
  | _ => intro x h; exact RepP.mono hs hA _ x h
theorem isLB_subV (b : Nat) (r : Val) : ∀ l, isLB l = true → isLB (subV b r l) = true ∧ vlen (subV b r l) = vlen l := by
  intro l; induction l with
  | cons h t _ ih => intro hl; obtain ⟨e1, e2⟩ := ih hl; exact ⟨e1, by simp [subV, vlen, e2]⟩
  | nil => intro _; exact ⟨rfl, rfl⟩
  | _ => intro hl; simp [isLB] at hl
theorem isLB_vsets : ∀ (v l : Val) (off : Nat), isLB l = true → isLB (vsets l off v) = true := by
  have h1 : ∀ (l : Val) (j : Nat) (v : Val), isLB l = true → isLB (vset l j v) = true := by
    intro l; induction l with
    | cons a t _ ih => intro j v h; cases j with
      | zero => exact h
      | succ j => exact ih j v h
    | nil => intro j v h; cases j <;> exact h
    | _ => intro j v h; simp [isLB] at h
  intro v; induction v with
  | cons h t ih1 ih2 => intro l off hl; simp only [vsets]; exact ih2 _ _ (h1 l off h hl)
  | _ => intro l off hl; cases l <;> first | exact hl | (simp [isLB] at hl; done)
theorem frs_sub {A A' : Nat → Prop} {B B' : Bmap} {b : Nat} {r : Val} {x : Nat → Value} (hr : ∀ v x, Rep w A B β v x → Rep w1 A' B' β1 (subV b r v) x) (hf : ∀ t, Rep w A B β (fget fr t) (x t)) (t : Nat) : Rep w1 A' B' β1 (fget (subFr b r fr) t) (x t) := by
  rw [fget_subFr]
  split
  · exact hr _ _ (hf t)
  · trivial
theorem fr_sub {A A' : Nat → Prop} {B B' : Bmap} {b : Nat} {r : Val} (hr : ∀ v x, Rep w A B β v x → Rep w1 A' B' β1 (subV b r v) x) (hf : ∀ t, Rep w A B β (fget fr t) (a.tmps.getD t undef)) (t : Nat) : Rep w1 A' B' β1 (fget (subFr b r fr) t) (a.tmps.getD t undef) := by
  rw [fget_subFr]
  split
  · exact hr _ _ (hf t)
  · trivial
theorem StkR.sub {b : Nat} {r : Val} {B1 : Bmap} (hr : ∀ n v x, Rep w (Al A0 w0 B β) (Bres B n) β v x → Rep w1 (Al A0 w0 B1 β1) (Bres B1 n) β1 (subV b r v) x) : ∀ {stk as}, StkR A0 w0 β B w stk as → StkR A0 w0 β1 B1 w1 (subStk b r stk) as := by
  intro stk; induction stk with
  | nil => intro as hs; cases as <;> exact hs
  | cons f l ih =>
    intro as hs
    cases as with
    | nil => exact hs
    | cons a as => exact ⟨fun t => fr_sub (hr _) hs.1 t, ih hs.2⟩
theorem Rel.nxn {stk : List SFrame} {as : List Act} (h : Rel P A0 w0 β stk as fr bx nx a w) : bget bx nx = none := by
  cases hb : bget bx nx with
  | none => rfl
  | some c => exact absurd (h.mem.nx nx c hb) (Nat.lt_irrefl _)
theorem Mem.upd {b : Nat} {c0 c1 : Box} {B1 : Bmap} (hm : Mem P A0 w0 β B nx w) (hu : Upd A0 w0 β β1 b w w1) (hb : B b = some c0) (h1 : B1 b = some c1) (hd : ∀ x c, x ≠ b → B1 x = some c → ∃ c', B x = some c') (hbox : BoxOk P w1 (Al A0 w0 B1 β1) B1 β1 w0.heap.size b c1)
    (hothers : ∀ x c, x ≠ b → B1 x = some c → BoxOk P w1 (Al A0 w0 B1 β1) B1 β1 w0.heap.size x c) : Mem P A0 w0 β1 B1 nx w1 where
  bx := by
    intro x c hx
    by_cases hxb : x = b
    · subst hxb; rw [h1] at hx; cases hx; exact hbox
    · exact hothers x c hxb hx
  inj := by
    intro x c x' c' g hx hx' hne hg hg'
    by_cases hxb : x = b
    · subst hxb
      have hne' : x' ≠ x := fun e => hne e.symm
      obtain ⟨c2, hc2⟩ := hd x' c' hne' hx'
      rw [hu.loc x' hne'] at hg'
      rcases (hu.fresh g hg).1 with e | e
      · exact hm.inj x c0 x' c2 g hb hc2 hne e hg'
      · have := (hm.base x' c2 g hc2 hg').2; omega
    · obtain ⟨c2, hc2⟩ := hd x c hxb hx
      rw [hu.loc x hxb] at hg
      by_cases hxb' : x' = b
      · subst hxb'
        rcases (hu.fresh g hg').1 with e | e
        · exact hm.inj x c2 x' c0 g hc2 hb hne hg e
        · have := (hm.base x c2 g hc2 hg).2; omega
      · obtain ⟨c3, hc3⟩ := hd x' c' hxb' hx'
        rw [hu.loc x' hxb'] at hg'
        exact hm.inj x c2 x' c3 g hc2 hc3 hne hg hg'
  nx := by
    intro x c hx
    by_cases hxb : x = b
    · subst hxb; exact hm.nx x c0 hb
    · obtain ⟨c2, hc2⟩ := hd x c hxb hx; exact hm.nx x c2 hc2
  base := by
    intro x c g hx hg
    by_cases hxb : x = b
    · subst hxb
      obtain ⟨e, h2⟩ := hu.fresh g hg
      rcases e with e | e
      · exact ⟨(hm.base x c0 g hb e).1, h2⟩
      · have := hm.below.size; omega
    · obtain ⟨c2, hc2⟩ := hd x c hxb hx
      rw [hu.loc x hxb] at hg
      have := hm.base x c2 g hc2 hg
      have := hu.size
      omega
  below := hu.below
theorem Upd.row {b : Nat} {c0 : Box} {g : Nat} {cs : Array Value} (hm : Mem P A0 w0 β B nx w) (hb : B b = some c0) (hg : (β b).a = some g) : Upd A0 w0 β β b w (w.setRow g cs) where
  size := by simp
  blk k _ hk := setRow_other w g k cs (fun e => hk (by rw [e]; exact hg))
  loc _ _ := rfl
  fresh g' hg' := ⟨.inl hg', by simp; exact (hm.base b c0 g' hb hg').2⟩
  below := below_setRow hm.below (hm.base b c0 g hb hg).1 cs
theorem layList_eq (ys zs : List Value) (off : Nat) (h : off + ys.length ≤ zs.length) : layList zs off ys = zs.take off ++ ys ++ zs.drop (off + ys.length) := by
  apply List.ext_getElem?
  intro p
  rw [layList_get _ _ _ _ h]
  by_cases h1 : p < off
  · rw [if_neg (by omega), List.append_assoc, List.getElem?_append_left (by simp; omega), List.getElem?_take_of_lt h1]
  · by_cases h2 : p < off + ys.length
    · rw [if_pos (by omega), List.getElem?_append_left (by simp; omega), List.getElem?_append_right (by simp; omega)]
      congr 1
      simp; omega
    · rw [if_neg (by omega), List.getElem?_append_right (by simp; omega), List.getElem?_drop]
      congr 1
      simp; omega
theorem run_storeAt {t : TypeId} {n : Nat} {x : Value} {g off : Nat} {ys : List Value} {ty : TypeId} (hn : sizeT P t = some n) (hx : x.cells.size = n) (hone : ∀ y ∈ x.cells.toList, y.oneCell' = true) (hg : w.heap[g]? = some (.cells ⟨ys⟩ ty (0, 0))) (hl : off + n ≤ ys.length) :
    (Instr.storeAt t (.pointer (some ⟨g, off, none⟩)) x).run P w = .ok () (w.setRow g ⟨layList ys off x.cells.toList⟩) := by
  obtain ⟨i, hi, hi'⟩ := Option.map_eq_some_iff.1 hn
  have h6 : (sizeOf t).run P w = .ok n w := by simp [sizeOf, typeInfo, hi, hi']
  have hxl : x.cells.toList.length = n := by simpa using hx
  have hs := run_storeCells_at P g off ty x.cells.toList 0 ⟨ys⟩ w hg (by simp; omega) hone
  rw [layList_eq _ _ _ (by omega)]
  simp only [Instr.storeAt, Instr.sureAddr, storeVar, Sem.run_bind, Sem.run_pure, Result.andThen_ok, h6]
  rw [if_neg (by simp [hx])]
  simpa using hs
theorem setB_bset (bx : Bx) (b : Nat) (c : Box) : bget (bset bx b c) = setB (bget bx) b c := by funext y; rw [bget_bset]; rfl
/-- behind a write into one box that keeps its shape -/
theorem Rel.updK {stk : List SFrame} {as : List Act} (h : Rel P A0 w0 β stk as fr bx nx a w) {b : Nat} {c0 c1 : Box} (hb : bget bx b = some c0) (hk : Kin c0 c1) (hu : Upd A0 w0 β β b w w1)
    (hbox : (∀ v' x', RepM A0 w0 β (bget bx) w v' x' → RepM A0 w0 β (setB (bget bx) b c1) w1 v' x') → (∀ v' x', RepQ A0 w0 β (bget bx) w v' x' → RepQ A0 w0 β (setB (bget bx) b c1) w1 v' x') → BoxOk P w1 (Al A0 w0 (setB (bget bx) b c1) β) (setB (bget bx) b c1) β w0.heap.size b c1)
    (d : Option Nat) (hd : ∀ s, d = some s → s < a.tmps.size) (u : Value) : Rel P A0 w0 β stk as (fput fr d .und) (bset bx b c1) nx (a.put d u) w1 := by
  have hdom : ∀ y c, setB (bget bx) b c1 y = some c → ∃ c', bget bx y = some c' := by
    intro y c hy
    by_cases hyb : y = b
    · subst hyb; exact ⟨_, hb⟩
    · simp [setB, hyb] at hy; exact ⟨c, hy⟩
  have hal := hu.al hb hdom
  have hkin : ∀ y c, bget bx y = some c → ∃ c', setB (bget bx) b c1 y = some c' ∧ Kin c c' ∧ β y = β y := by
    intro y c hy
    by_cases hyb : y = b
    · subst hyb; rw [hb] at hy; cases hy; exact ⟨c1, by simp [setB], hk, rfl⟩
    · exact ⟨c, by simp [setB, hyb]; exact hy, Kin.refl c, rfl⟩
  have hmono : ∀ v' x', RepM A0 w0 β (bget bx) w v' x' → RepM A0 w0 β (setB (bget bx) b c1) w1 v' x' := fun v' x' hr' => Rep.mono hu.size hal hkin v' x' hr'
  refine ⟨?_, ?_, ?_, by rw [put_dfs, setB_bset]; exact h.df.mono hu.size hal, h.sn⟩
  · rw [setB_bset]
    refine h.mem.upd (c1 := c1) hu hb (by simp [setB]) (fun y c _ hy => hdom y c hy) (hbox hmono fun v' x' hr' => RepP.mono hu.size hal v' x' hr') fun y c hyb hy => ?_
    simp [setB, hyb] at hy
    refine (h.mem.bx y c hy).mono hu.size hal hkin rfl fun g' hg' => hu.blk g' (h.mem.base y c g' hy hg').2 fun e => h.mem.inj y c b _ g' hy hb hyb hg' e
  · rw [setB_bset]; exact fr_put (fun t => hmono _ _ (h.fr t)) (Rep.und u) d hd
  · have hst := h.st
    rw [← setB_bset] at hal hkin
    refine StkR.mono (A := fun _ => True) (A' := fun _ => True) (fun n' v' x' hr' => Rep.mono hu.size hal (fun y c hy => ?_) v' x' hr') hst
    unfold Bres at hy ⊢
    split at hy
    · rename_i hlt
      obtain ⟨c', q1, q2, q3⟩ := hkin y c hy
      exact ⟨c', by rw [if_pos hlt]; exact q1, q2, q3⟩
    · cases hy
/-- behind a store into a box of cells -/
theorem Rel.store {stk : List SFrame} {as : List Act} (h : Rel P A0 w0 β stk as fr bx nx a w) {b g : Nat} {l v : Val} {x : Value} {off n : Nat} (hb : bget bx b = some (.cells l)) (hg : (β b).a = some g) (hcn : cellsN n v) (hv : RepM A0 w0 β (bget bx) w v x) (hoff : off + n ≤ vlen l)
    {ys : List Value} {ty : TypeId} (hh : w.heap[g]? = some (.cells ⟨ys⟩ ty (0, 0))) (hr : RepM A0 w0 β (bget bx) w l (.tuple ⟨ys⟩)) (d : Option Nat) (hd : ∀ s, d = some s → s < a.tmps.size) (u : Value) :
    Rel P A0 w0 β stk as (fput fr d .und) (bset bx b (.cells (vsets l off (cellsOf v)))) nx (a.put d u) (w.setRow g ⟨layList ys off x.cells.toList⟩) := by
  obtain ⟨e1, e2, e3, e4⟩ := cellsOf_rep hcn hv
  have hlb := (h.mem.bx b _ hb).1
  refine h.updK (c1 := .cells (vsets l off (cellsOf v))) hb trivial (Upd.row h.mem hb hg) (fun hmono _ => ?_) d hd u
  exact ⟨isLB_vsets _ _ _ hlb, g, _, ty, hg, setRow_heap w g _ _ ty _ hh, hmono _ _ (vsets_rep (off := off) hr e3 (isLB_isL e1) (by omega))⟩
/-- behind a store into a map -/
theorem Rel.mapset {stk : List SFrame} {as : List Act} (h : Rel P A0 w0 β stk as fr bx nx a w) {b g : Nat} {kd : IntKind} {has : Int → Bool} {f : Int → Val} {v : Val} {x : Value} {z : Int} (hb : bget bx b = some (.mp kd has f)) (hg : (β b).a = some g) (hv : RepM A0 w0 β (bget bx) w v x)
    {T K Et : TypeId} (hT : P.underlying T = some (.map K Et)) (hK : P.underlying K = some (.int kd)) (d : Option Nat) (hd : ∀ s, d = some s → s < a.tmps.size) (u : Value) :
    ∃ w1, (Instr.mapUpdate T (.map (some g)) (.int kd z) x).run P w = .ok () w1 ∧
    Rel P A0 w0 β stk as (fput fr d .und) (bset bx b (.mp kd (fun j => if j = z then true else has j) fun j => if j = z then v else f j)) nx (a.put d u) w1 := by
  obtain ⟨g', m, e1, hm, hc⟩ := h.mem.bx b _ hb
  rw [hg] at e1; cases e1
  obtain ⟨w1, hrun, hm1, hgr⟩ := run_mapUpdate_mapF hm hT hK z x
  have hbase := h.mem.base b _ g hb hg
  have hbl : Below w0.heap.size w0 w1 := h.mem.below.grown hgr h.mem.below.size (fun k hk => by cases hk; exact hbase.1)
  have hgr' := hgr
  obtain ⟨_, _, _, hsz, hoth⟩ := hgr'
  refine ⟨w1, hrun, h.updK (c1 := .mp kd (fun j => if j = z then true else has j) fun j => if j = z then v else f j) hb rfl ⟨by omega, fun k hk hne => hoth k hk (fun e => hne (by rw [hg]; exact e.symm)), fun _ _ => rfl, fun g' hg' => ⟨.inl hg', by have := (h.mem.base b _ g' hb hg').2; omega⟩, hbl⟩ (fun hmono _ => ?_) d hd u⟩
  refine ⟨g, _, hg, hm1, fun k => ?_⟩
  by_cases hk : k = z
  · subst hk
    exact ⟨fun h => by simp at h, fun _ => ⟨x, by simp, by simpa using hmono _ _ hv⟩⟩
  · refine ⟨fun h2 => ?_, fun h2 => ?_⟩ <;> simp only [if_neg hk] at h2 ⊢
    · exact (hc k).1 h2
    · obtain ⟨y, hy, hr⟩ := (hc k).2 h2
      exact ⟨y, hy, hmono _ _ hr⟩
/-- behind a store into a row -/
theorem Rel.storeR {stk : List SFrame} {as : List Act} (h : Rel P A0 w0 β stk as fr bx nx a w) {b g : Nat} {e : TypeId} {k m : Nat} {c : Nat → Nat → Val} {v : Val} {x : Value} {i off n : Nat} (hb : bget bx b = some (.row e k m c)) (hi : i < m) (hg : (β b).a = some g) (hcn : cellsN n v) (hone : onesB (cellsOf v) = true) (hpu : pureB v = true) (hv : RepM A0 w0 β (bget bx) w v x) (hoff : off + n ≤ k) {t : TypeId} (hn : sizeT P t = some n) (d : Option Nat) (hd : ∀ s, d = some s → s < a.tmps.size) (u : Value) :
    ∃ w1, (Instr.storeAt t (.pointer (some ⟨g, i * k + off, none⟩)) x).run P w = .ok () w1 ∧
    Rel P A0 w0 β stk as (fput fr d .und) (bset bx b (.row e k m fun i' j' => if i' = i ∧ off ≤ j' ∧ j' < off + n then vget (cellsOf v) (j' - off) else c i' j')) nx (a.put d u) w1 := by
  obtain ⟨e1, e2, e3, e4⟩ := cellsOf_rep hcn hv
  obtain ⟨hn1, hk, hmax, xs, ⟨hxl, how⟩, hc⟩ := h.mem.bx b _ hb
  rcases how with ⟨e0, hn0⟩ | ⟨g', cap, cur, f1, f2, f3, f4, f5, f6, f7⟩
  · omega
  rw [hg] at f1
  simp at f1
  obtain ⟨rfl, hcap⟩ := f1
  have hik : i * k + k ≤ m * k := by rw [← Nat.succ_mul]; exact Nat.mul_le_mul_right k hi
  have hmc : m * k ≤ cap * k := Nat.mul_le_mul_right k f4
  have hxlen : x.cells.toList.length = n := by simpa using e4
  have hcl : cur.toList.length = cap * k := by simpa using f6
  have hrun := run_storeAt (w := w) (ys := cur.toList) (off := i * k + off) hn e4 (ones_rep _ _ hone e3 (isLB_isL e1)) f3 (by omega)
  have hpc : pureB (cellsOf v) = true := by cases hv' : v <;> rw [hv'] at hpu <;> simp_all [cellsOf, pureB]
  have hpg : ∀ (l : Val) (j : Nat), pureB l = true → pureB (vget l j) = true := by
    intro l; induction l with
    | cons a b _ ih => intro j hb; simp only [pureB, Bool.and_eq_true] at hb; cases j with
      | zero => exact hb.1
      | succ j => exact ih j hb.2
    | _ => intro j hb; cases j <;> rfl
  refine ⟨_, hrun, h.updK (c1 := .row e k m fun i' j' => if i' = i ∧ off ≤ j' ∧ j' < off + n then vget (cellsOf v) (j' - off) else c i' j') hb ⟨rfl, rfl⟩ (Upd.row h.mem hb hg) (fun _ hmono => ?_) d hd u⟩
  refine ⟨hn1, hk, hmax, (layList cur.toList (i * k + off) x.cells.toList).take (m * k), ⟨by rw [List.length_take, layList_len, hcl]; omega, .inr ⟨g, cap, ⟨layList cur.toList (i * k + off) x.cells.toList⟩, by rw [hg, hcap]; rfl, f2, setRow_heap w g _ _ e _ f3, f4, f5, by simp [layList_len, hcl], rfl⟩⟩, fun i' hi' j hj => ?_⟩
  have hik' : i' * k + k ≤ m * k := by rw [← Nat.succ_mul]; exact Nat.mul_le_mul_right k hi'
  rw [List.getElem?_take_of_lt (by omega), layList_get _ _ _ _ (by omega), hxlen]
  by_cases hcond : i' = i ∧ off ≤ j ∧ j < off + n
  · obtain ⟨rfl, q1, q2⟩ := hcond
    rw [if_pos (by omega)]
    simp only [q1, q2, and_self, if_true]
    obtain ⟨y, hy, hry⟩ := Rep.get1 e3 (j - off) (by omega)
    refine ⟨y, by rw [← hy]; congr 1; omega, ones_rep _ _ hone e3 (isLB_isL e1) y (List.mem_of_getElem? hy), hmono _ _ (Rep.pure _ _ (hpg _ _ hpc) hry)⟩
  · simp only [if_neg hcond]
    rw [if_neg ?_]
    · obtain ⟨y, hy, ho, hry⟩ := hc i' hi' j hj
      refine ⟨y, ?_, ho, hmono _ _ hry⟩
      rw [← hy, ← f7, List.getElem?_take_of_lt (by omega)]
    · intro hc2
      apply hcond
      have : i' = i := by
        rcases Nat.lt_trichotomy i' i with h | h | h
        · have : (i' + 1) * k ≤ i * k := Nat.mul_le_mul_right k h
          rw [Nat.succ_mul] at this; omega
        · exact h
        · have : (i + 1) * k ≤ i' * k := Nat.mul_le_mul_right k h
          rw [Nat.succ_mul] at this; omega
      subst this
      exact ⟨rfl, by omega, by omega⟩
end Go.Proofs.YtbhhcnonooiokaaDoor
