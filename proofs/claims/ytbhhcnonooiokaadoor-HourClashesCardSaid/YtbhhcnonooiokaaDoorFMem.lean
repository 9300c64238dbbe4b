/- The engine, part 5: own boxes in a world, and what keeps them. No condition. -/
import Derived.Test.YtbhhcnonooiokaaDoorFComp
namespace Go.Proofs.YtbhhcnonooiokaaDoor
open Go Go.RowKit
variable {P : Program}

/-- blocks that nobody writes -/
def Al (A0 : Nat → Prop) (w0 : World) (B : Bmap) (β : Nat → Loc) (g : Nat) : Prop := (A0 g ∨ w0.heap.size ≤ g) ∧ ∀ b c, B b = some c → (β b).a ≠ some g

/-- a record's fixed parts, as they are compiled -/
def LpOk (P : Program) (rec : Loop) (nt : Nat) (ps : List Nat) (ca cb : ACode) : Prop := rec.params.toList = ps ∧ (∀ t ∈ ps, t < nt) ∧ nt ≤ rec.tmps.size ∧ cCode P nt rec.assign = some ca ∧ cCode P nt rec.body = some cb
def StOk (rec : Loop) : Lst → Prop
  | .ready => rec.state = .ready ∧ rec.pending = none
  | .busy => rec.state = .busy
  | .done c => rec.state = .done ∧ rec.pending = some c.code
  | .over => True
def BoxOk (P : Program) (w : World) (A : Nat → Prop) (B : Bmap) (β : Nat → Loc) (base b : Nat) : Box → Prop
  | .cells l => isLB l = true ∧ ∃ g ys t, (β b).a = some g ∧ w.heap[g]? = some (.cells ⟨ys⟩ t (0, 0)) ∧ Rep w A B β l (.tuple ⟨ys⟩)
  | .row e k n c => (β b).n = n ∧ 0 < k ∧ n ≤ maxLen ∧ ∃ xs, w.ownsRow base e k (.slice ((β b).a.map fun g => ⟨g, 0, none⟩) n (β b).cap) n xs ∧ ∀ i, i < n → ∀ j, j < k → ∃ y, xs[i * k + j]? = some y ∧ y.oneCell' = true ∧ RepP w A (c i j) y
  | .lp g fr ps ca cb st => (β b).a = some g ∧ ∃ rec nt, w.heap[g]? = some (.loop rec) ∧ LpOk P rec nt ps ca cb ∧ StOk rec st ∧ ∀ t, Rep w A B β (fget fr t) (rec.tmps.getD t undef)
  | .mp kd has f => ∃ g h, (β b).a = some g ∧ MapF w g kd h ∧ ∀ k, (has k = false → h k = none) ∧ (has k = true → ∃ y, h k = some y ∧ Rep w A B β (f k) y)

structure Mem (P : Program) (A0 : Nat → Prop) (w0 : World) (β : Nat → Loc) (B : Bmap) (nx : Nat) (w : World) : Prop where
  bx : ∀ b c, B b = some c → BoxOk P w (Al A0 w0 B β) B β w0.heap.size b c
  inj : ∀ b c b' c' g, B b = some c → B b' = some c' → b ≠ b' → (β b).a = some g → (β b').a ≠ some g
  nx : ∀ b c, B b = some c → b < nx
  base : ∀ b c g, B b = some c → (β b).a = some g → w0.heap.size ≤ g ∧ g < w.heap.size
  below : Below w0.heap.size w0 w

abbrev RepM (A0 : Nat → Prop) (w0 : World) (β : Nat → Loc) (B : Bmap) (w : World) : Val → Value → Prop := Rep w (Al A0 w0 B β) B β
abbrev RepQ (A0 : Nat → Prop) (w0 : World) (β : Nat → Loc) (B : Bmap) (w : World) : Val → Value → Prop := RepP w (Al A0 w0 B β)

theorem isLB_isL {l : Val} (h : isLB l = true) : isL l := by
  induction l with
  | cons a t _ ih => exact ih h
  | nil => trivial
  | _ => simp [isLB] at h

def extB (B : Bmap) (nx : Nat) : Option Box → Bmap
  | none => B
  | some c => fun b => if b = nx then some c else B b
/-- a new box, or none, was made; the rest stays -/
structure Soft (P : Program) (A0 : Nat → Prop) (w0 : World) (β β1 : Nat → Loc) (B : Bmap) (nx : Nat) (new : Option Box) (w w1 : World) : Prop where
  keep : Below w.heap.size w w1
  loc : ∀ b c, B b = some c → β1 b = β b
  box : ∀ c, new = some c → BoxOk P w1 (Al A0 w0 (extB B nx new) β1) (extB B nx new) β1 w0.heap.size nx c ∧ ∀ g, (β1 nx).a = some g → w.heap.size ≤ g ∧ g < w1.heap.size

section
variable {A0 : Nat → Prop} {w0 : World} {β β1 : Nat → Loc} {B : Bmap} {nx : Nat} {new : Option Box} {w w1 : World}
theorem extB_some (h : B nx = none) {b : Nat} {c : Box} (hb : B b = some c) : extB B nx new b = some c := by
  cases new with
  | none => exact hb
  | some d =>
    by_cases e : b = nx
    · subst e; rw [h] at hb; cases hb
    · simp [extB, e, hb]
theorem extB_cases {b : Nat} {c : Box} (hb : extB B nx new b = some c) : B b = some c ∨ (b = nx ∧ new = some c) := by
  cases new with
  | none => exact .inl hb
  | some d =>
    by_cases e : b = nx
    · simp [extB, e] at hb; exact .inr ⟨e, by rw [hb]⟩
    · simp [extB, e] at hb; exact .inl hb
theorem Soft.al (h : Soft P A0 w0 β β1 B nx new w w1) {N : Nat} (hm : Mem P A0 w0 β B N w) (hB : B nx = none) : ∀ g, g < w.heap.size → Al A0 w0 B β g → Al A0 w0 (extB B nx new) β1 g ∧ w1.heap[g]? = w.heap[g]? := by
  rintro g hg ⟨ha, hn⟩
  refine ⟨⟨ha, fun b c hb e => ?_⟩, h.keep.block g hg⟩
  rcases extB_cases hb with hb | ⟨rfl, hc⟩
  · rw [h.loc b c hb] at e; exact hn b c hb e
  · have := ((h.box c hc).2 g e).1; omega
theorem Soft.rep (h : Soft P A0 w0 β β1 B nx new w w1) {N : Nat} (hm : Mem P A0 w0 β B N w) (hB : B nx = none) {v : Val} {x : Value} (hr : RepM A0 w0 β B w v x) : RepM A0 w0 β1 (extB B nx new) w1 v x :=
  Rep.mono h.keep.size (h.al hm hB) (fun b c hb => ⟨c, extB_some hB hb, Kin.refl c, h.loc b c hb⟩) v x hr
theorem Soft.repP (h : Soft P A0 w0 β β1 B nx new w w1) {N : Nat} (hm : Mem P A0 w0 β B N w) (hB : B nx = none) {v : Val} {x : Value} (hr : RepQ A0 w0 β B w v x) : RepQ A0 w0 β1 (extB B nx new) w1 v x :=
  RepP.mono h.keep.size (h.al hm hB) v x hr
theorem BoxOk.mono {w w1 : World} {A A' : Nat → Prop} {B B' : Bmap} {β β' : Nat → Loc} {base b : Nat} {c : Box} (h : BoxOk P w A B β base b c) (hs : w.heap.size ≤ w1.heap.size)
    (hA : ∀ g, g < w.heap.size → A g → A' g ∧ w1.heap[g]? = w.heap[g]?) (hx : ∀ b c, B b = some c → ∃ c', B' b = some c' ∧ Kin c c' ∧ β' b = β b) (hloc : β' b = β b)
    (hg : ∀ g, (β b).a = some g → w1.heap[g]? = w.heap[g]?) : BoxOk P w1 A' B' β' base b c := by
  cases c with
  | cells l =>
    obtain ⟨hl, g, ys, t, h1, h2, h3⟩ := h
    exact ⟨hl, g, ys, t, by rw [hloc]; exact h1, by rw [hg g h1]; exact h2, Rep.mono hs hA hx _ _ h3⟩
  | lp g fr ps ca cb st =>
    obtain ⟨h1, rec, nt, h2, h3, h4, h5⟩ := h
    exact ⟨by rw [hloc]; exact h1, rec, nt, by rw [hg g h1]; exact h2, h3, h4, fun t => Rep.mono hs hA hx _ _ (h5 t)⟩
  | mp kd has f =>
    obtain ⟨g, m, h1, h2, h3⟩ := h
    refine ⟨g, m, by rw [hloc]; exact h1, h2.heap (hg g h1), fun k => ⟨(h3 k).1, fun hk => ?_⟩⟩
    obtain ⟨y, hy, hr⟩ := (h3 k).2 hk
    exact ⟨y, hy, Rep.mono hs hA hx _ _ hr⟩
  | row e k n cc =>
    obtain ⟨h1, hk, hn, xs, ho, hc⟩ := h
    refine ⟨by rw [hloc]; exact h1, hk, hn, xs, ?_, fun i hi j hj => ?_⟩
    · rw [hloc]
      obtain ⟨hl, ho⟩ := ho
      refine ⟨hl, ?_⟩
      rcases ho with ho | ⟨g, cap, cur, e1, e2, e3, e4⟩
      · exact .inl ho
      · refine .inr ⟨g, cap, cur, e1, e2, ?_, e4⟩
        have : (β b).a = some g := by
          cases ha : (β b).a with
          | none => simp [ha] at e1
          | some g' => simp [ha] at e1; rw [e1.1]
        rw [hg g this]; exact e3
    · obtain ⟨y, hy, ho1, hr⟩ := hc i hi j hj
      exact ⟨y, hy, ho1, RepP.mono hs hA _ _ hr⟩
theorem Soft.mem (h : Soft P A0 w0 β β1 B nx new w w1) {N : Nat} (hm : Mem P A0 w0 β B N w) (hB : B nx = none) {N' : Nat} (hN : N ≤ N') (hn : ∀ c, new = some c → nx < N') : Mem P A0 w0 β1 (extB B nx new) N' w1 where
  bx := by
    intro b c hb
    rcases extB_cases hb with hb | ⟨rfl, hc⟩
    · exact (hm.bx b c hb).mono h.keep.size (h.al hm hB) (fun b c hb => ⟨c, extB_some hB hb, Kin.refl c, h.loc b c hb⟩) (h.loc b c hb) fun g hg => h.keep.block g (hm.base b c g hb hg).2
    · exact (h.box c hc).1
  inj := by
    intro b c b' c' g hb hb' hne hg hg'
    rcases extB_cases hb with k | ⟨e, hc⟩ <;> rcases extB_cases hb' with k' | ⟨e', hc'⟩
    · rw [h.loc b c k] at hg; rw [h.loc b' c' k'] at hg'; exact hm.inj b c b' c' g k k' hne hg hg'
    · rw [h.loc b c k] at hg
      have h1 := (hm.base b c g k hg).2
      rw [e'] at hg'
      have h2 := ((h.box c' hc').2 g hg').1
      omega
    · rw [h.loc b' c' k'] at hg'
      have h1 := (hm.base b' c' g k' hg').2
      rw [e] at hg
      have h2 := ((h.box c hc).2 g hg).1
      omega
    · exact hne (e.trans e'.symm)
  nx := by
    intro b c hb
    rcases extB_cases hb with hb | ⟨rfl, hc⟩
    · exact Nat.lt_of_lt_of_le (hm.nx b c hb) hN
    · exact hn c hc
  base := by
    intro b c g hb hg
    rcases extB_cases hb with hb | ⟨rfl, hc⟩
    · rw [h.loc b c hb] at hg
      have := hm.base b c g hb hg
      have := h.keep.size
      omega
    · have h2 := (h.box c hc).2 g hg
      have := hm.below.size
      omega
  below := hm.below.trans (h.keep.mono hm.below.size)
/-- nothing was made -/
theorem Soft.refl (A0 : Nat → Prop) (w0 : World) (β : Nat → Loc) (B : Bmap) (nx : Nat) (w : World) : Soft P A0 w0 β β B nx none w w := ⟨Below.refl _ _, fun _ _ _ => rfl, fun c hc => by cases hc⟩
theorem Soft.none (hk : Below w.heap.size w w1) : Soft P A0 w0 β β B nx none w w1 := ⟨hk, fun _ _ _ => rfl, fun c hc => by cases hc⟩
end
def updL (β : Nat → Loc) (nx : Nat) (l : Loc) : Nat → Loc := fun b => if b = nx then l else β b
theorem updL_new (β : Nat → Loc) (nx : Nat) (l : Loc) : updL β nx l nx = l := by simp [updL]
theorem updL_old {B : Bmap} {nx : Nat} (h : B nx = none) (β : Nat → Loc) (l : Loc) {b : Nat} {c : Box} (hb : B b = some c) : updL β nx l b = β b := by
  have : b ≠ nx := fun e => by subst e; rw [h] at hb; cases hb
  simp [updL, this]
/-- a new box of cells -/
theorem Soft.newCells {A0 : Nat → Prop} {w0 : World} {β : Nat → Loc} {B : Bmap} {nx : Nat} {w : World} {N : Nat} (hm : Mem P A0 w0 β B N w) (hB : B nx = Option.none) {l : Val} (hl : isLB l = true) {ys : List Value} (hr : RepM A0 w0 β B w l (.tuple ⟨ys⟩)) (t : TypeId) :
    Soft P A0 w0 β (updL β nx ⟨some w.heap.size, 0, 0⟩) B nx (some (.cells l)) w (w.alloc (.cells ⟨ys⟩ t)) where
  keep := (Below.refl _ _).alloc (Nat.le_refl _) _
  loc b c hb := updL_old hB _ _ hb
  box := by
    rintro c ⟨⟩
    refine ⟨⟨hl, w.heap.size, ys, t, by rw [updL_new], heap_new w _, ?_⟩, fun g hg => ?_⟩
    · refine Rep.mono (by simp) (fun g hg hA => ⟨⟨hA.1, fun b c hb e => ?_⟩, Below.heap_alloc w _ g hg⟩) (fun b c hb => ⟨c, extB_some hB hb, Kin.refl c, updL_old hB _ _ hb⟩) _ _ hr
      rcases extB_cases hb with hb | ⟨rfl, _⟩
      · rw [updL_old hB _ _ hb] at e; exact hA.2 b c hb e
      · rw [updL_new] at e; simp at e; omega
    · rw [updL_new] at hg; simp at hg; subst hg; simp
/-- a new map -/
theorem Soft.newMap {A0 : Nat → Prop} {w0 : World} {β : Nat → Loc} {B : Bmap} {nx : Nat} {w : World} (hB : B nx = Option.none) (kd : IntKind) :
    Soft P A0 w0 β (updL β nx ⟨some w.heap.size, 0, 0⟩) B nx (some (.mp kd (fun _ => false) fun _ => .und)) w (w.alloc (.map #[] 0)) where
  keep := (Below.refl _ _).alloc (Nat.le_refl _) _
  loc b c hb := updL_old hB _ _ hb
  box := by
    rintro c ⟨⟩
    refine ⟨⟨w.heap.size, _, by rw [updL_new], MapF.new w kd, fun k => ⟨fun _ => rfl, fun h => by cases h⟩⟩, fun g hg => ?_⟩
    rw [updL_new] at hg; simp at hg; subst hg; simp
/-- a new row -/
theorem Soft.newRow {A0 : Nat → Prop} {w0 : World} {β : Nat → Loc} {B : Bmap} {nx : Nat} {w : World} {N : Nat} (hm : Mem P A0 w0 β B N w) (hB : B nx = Option.none) {e : TypeId} {k n : Nat} (hk : 0 < k) (hn : n ≤ maxLen) {c : Nat → Nat → Val} {ys : List Value} (hl : ys.length = n * k)
    (hr : ∀ i, i < n → ∀ j, j < k → ∃ y, ys[i * k + j]? = some y ∧ y.oneCell' = true ∧ RepQ A0 w0 β B w (c i j) y) :
    Soft P A0 w0 β (updL β nx ⟨some w.heap.size, n, n⟩) B nx (some (.row e k n c)) w (w.alloc (.cells ⟨ys⟩ e)) where
  keep := (Below.refl _ _).alloc (Nat.le_refl _) _
  loc b c hb := updL_old hB _ _ hb
  box := by
    rintro c ⟨⟩
    refine ⟨⟨by rw [updL_new], hk, hn, ys, ⟨hl, ?_⟩, fun i hi j hj => ?_⟩, fun g hg => ?_⟩
    · rw [updL_new]
      exact .inr ⟨w.heap.size, n, ⟨ys⟩, rfl, hm.below.size, heap_new w _, Nat.le_refl _, hn, by simpa using hl, by simp [← hl]⟩
    · obtain ⟨y, hy, ho, hr⟩ := hr i hi j hj
      refine ⟨y, hy, ho, RepP.mono (by simp) (fun g hg hA => ⟨⟨hA.1, fun b c hb e => ?_⟩, Below.heap_alloc w _ g hg⟩) _ _ hr⟩
      rcases extB_cases hb with hb | ⟨rfl, _⟩
      · rw [updL_old hB _ _ hb] at e; exact hA.2 b c hb e
      · rw [updL_new] at e; simp at e; omega
    · rw [updL_new] at hg; simp at hg; subst hg; simp
end Go.Proofs.YtbhhcnonooiokaaDoor
