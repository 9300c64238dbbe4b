/- The engine, part 1: abstract values, boxes, and how they are held in a world. No condition. -/
import Derived.Test.YtbhhcnonooiokaaDoorMap
import Derived.Orders
namespace Go.Proofs.YtbhhcnonooiokaaDoor
open Go Go.RowKit

inductive Val where
  | und
  | int (k : IntKind) (n : Int)
  | bool (b : Bool)
  | nils | nilp | nilf | nilm
  | view (k n : Nat) (cell : Nat → Nat → Val)
  | vptr (m : Nat) (cell : Nat → Val)
  | ptr (b off : Nat)
  | own (b : Nat)
  | rptr (b i off : Nat)
  | nil
  | cons (h t : Val)
  | agg (l : Val)
  | tup (l : Val)
  | func (fn : Fn) (l : Val)
  | mapb (b : Nat)
  | yld (b : Nat)
  | mview (kd : IntKind) (has : Int → Bool) (f : Int → Val)
  deriving Inhabited
inductive Opd where
  | t (n : Nat)
  | c (v : Val)
  | g (n : Nat)
inductive Sh where
  | int (k : IntKind)
  | bool
  | slc (k : Nat)
  | any
inductive AOp where
  | mv (x : Opd)
  | pick (c a b : Opd)
  | alloc (zero : Val)
  | box (n : Nat) (x : Opd)
  | build (zero : Val) (parts : List (Nat × Nat × Opd))
  | bsl (e : TypeId) (k len : Nat) (zero : Val) (parts : List (Nat × Opd))
  | load (agg : Bool) (shs : List Sh) (x : Opd)
  | store (n : Nat) (a x : Opd)
  | bin (op : BinOp) (x y : Opd)
  | binb (neg : Bool) (x y : Opd)
  | eqa (neg : Bool) (shs : List Sh) (x y : Opd)
  | un (op : UnOp) (x : Opd)
  | conv (k : IntKind) (x : Opd)
  | mkf (fn : Fn) (caps : List Opd)
  | fld (off : Nat) (x : Opd)
  | idx (k : Nat) (x i : Opd)
  | idxA (k len : Nat) (x i : Opd)
  | sl (k : Nat) (x : Opd) (lo hi : Option Opd)
  | ext (i : Nat) (x : Opd)
  | call (f : Opd) (args : List (List Sh × Opd))
  | len (x : Opd)
  | mm (mx : Bool) (x y : Opd)
  | app (e : TypeId) (k bytes : Nat) (x y : Opd)
  | nilc (x : Opd)
  | mks (e : TypeId) (k bytes : Nat) (zero : Val) (n c : Opd)
  | mkm (kd : IntKind)
  | mget (kd : IntKind) (ok : Bool) (zero : Val) (x k : Opd)
  | mset (kd : IntKind) (x k v : Opd)
structure AOper where
  dst : Option Nat
  op : AOp
  /-- the temporary that is asked, and what it has to say -/
  guard : Option (Nat × Bool)
  /-- part on the bool that it gives -/
  br : Bool
  /-- what may come behind it as well, and has to give then what it gave ahead of it -/
  re : List (Option Nat × AOp × Option (Nat × Bool))
inductive ACode where
  | skip
  /-- the first d operations may come in any order -/
  | reg (d : Nat) (ops : List AOper)
  | seq (a b : ACode)
  | cond (c : Opd) (a b : ACode)
  | block (id : Nat) (a : ACode)
  | loop (a : ACode)
  /-- a range over a function: its loop variables, and the temporaries that its rounds read -/
  | rng (f : Opd) (ps keep : List Nat) (a b : ACode)
  | exit (id : Nat)
  | scope (a : ACode)
  | ret
/-- how a round left its loop -/
inductive Jmp where
  | ret
  | exit (id : Nat)
def Jmp.code : Jmp → Code
  | .ret => .ret
  | .exit id => .exit id
def Jmp.acode : Jmp → ACode
  | .ret => .ret
  | .exit id => .exit id
inductive Lst where
  | ready
  | busy
  | done (c : Jmp)
  | over
abbrev Fr := List (Nat × Val)
inductive Box where
  | cells (l : Val)
  | row (e : TypeId) (k n : Nat) (cell : Nat → Nat → Val)
  | mp (kd : IntKind) (has : Int → Bool) (f : Int → Val)
  /-- the record of a range over a function: its block, the frame around it, its loop variables, assignments and body -/
  | lp (g : Nat) (fr : Fr) (ps : List Nat) (ca cb : ACode) (st : Lst)
structure Loc where
  a : Option Nat
  n : Nat
  cap : Nat
abbrev Bmap := Nat → Option Box

def RepP (w : World) (A : Nat → Prop) : Val → Value → Prop
  | .und, _ => True
  | .int k n, x => x = .int k n
  | .bool b, x => x = .bool b
  | .nils, x => x = .slice none 0 0
  | .nilp, x => x = .pointer none
  | .nilf, x => x = .nilFunc
  | .nilm, x => x = .map none
  | .view k n cell, x => ∃ a c, x = .slice a n c ∧ n ≤ maxLen ∧ n ≤ c ∧ (0 < n → ∃ g off, a = some ⟨g, off, none⟩ ∧ g < w.heap.size ∧ A g ∧ ∀ i, i < n → ∀ j, j < k → ∃ y, w.cell? ⟨g, off + i * k + j, none⟩ = some y ∧ y.oneCell' = true ∧ RepP w A (cell i j) y)
  | .vptr m cell, x => ∃ g off, x = .pointer (some ⟨g, off, none⟩) ∧ g < w.heap.size ∧ A g ∧ ∀ j, j < m → ∃ y, w.cell? ⟨g, off + j, none⟩ = some y ∧ RepP w A (cell j) y
  | .nil, x => x = .tuple #[]
  | .cons h t, x => ∃ y ys, x = .tuple ⟨y :: ys⟩ ∧ RepP w A h y ∧ RepP w A t (.tuple ⟨ys⟩)
  | .agg l, x => ∃ ys, x = .agg ⟨ys⟩ ∧ RepP w A l (.tuple ⟨ys⟩)
  | .tup l, x => ∃ ys, x = .tuple ⟨ys⟩ ∧ RepP w A l (.tuple ⟨ys⟩)
  | .func fn l, x => ∃ ys, x = .func fn #[] ⟨ys⟩ ∧ RepP w A l (.tuple ⟨ys⟩)
  | .mview kd has f, x => ∃ g h, x = .map (some g) ∧ g < w.heap.size ∧ A g ∧ MapF w g kd h ∧ ∀ k, (has k = false → h k = none) ∧ (has k = true → ∃ y, h k = some y ∧ RepP w A (f k) y)
  | _, _ => False

def Rep (w : World) (A : Nat → Prop) (B : Bmap) (β : Nat → Loc) : Val → Value → Prop
  | .ptr b off, x => (∃ l, B b = some (.cells l)) ∧ ∃ g, (β b).a = some g ∧ x = .pointer (some ⟨g, off, none⟩)
  | .own b, x => (∃ e k n cell, B b = some (.row e k n cell)) ∧ x = .slice ((β b).a.map fun g => ⟨g, 0, none⟩) (β b).n (β b).cap
  | .rptr b i off, x => ∃ e k n cell, B b = some (.row e k n cell) ∧ i < n ∧ ∃ g, (β b).a = some g ∧ x = .pointer (some ⟨g, i * k + off, none⟩)
  | .nil, x => x = .tuple #[]
  | .cons h t, x => ∃ y ys, x = .tuple ⟨y :: ys⟩ ∧ Rep w A B β h y ∧ Rep w A B β t (.tuple ⟨ys⟩)
  | .agg l, x => ∃ ys, x = .agg ⟨ys⟩ ∧ Rep w A B β l (.tuple ⟨ys⟩)
  | .tup l, x => ∃ ys, x = .tuple ⟨ys⟩ ∧ Rep w A B β l (.tuple ⟨ys⟩)
  | .func fn l, x => ∃ ys, x = .func fn #[] ⟨ys⟩ ∧ Rep w A B β l (.tuple ⟨ys⟩)
  | .mapb b, x => (∃ kd has f, B b = some (.mp kd has f)) ∧ ∃ g, (β b).a = some g ∧ x = .map (some g)
  | .yld b, x => ∃ g fr ps ca cb st, B b = some (.lp g fr ps ca cb st) ∧ x = .func (.yield g) #[] #[]
  | .und, _ => True
  | v@(.mview ..), x | v@(.int ..), x | v@(.bool ..), x | v@.nils, x | v@.nilp, x | v@.nilf, x | v@.nilm, x | v@(.view ..), x | v@(.vptr ..), x => RepP w A v x

/-- same kind of box, same shape -/
def Kin : Box → Box → Prop
  | .cells _, .cells _ => True
  | .row _ k n _, .row _ k' n' _ => k = k' ∧ n = n'
  | .mp kd _ _, .mp kd' _ _ => kd = kd'
  | .lp g _ ps ca cb _, .lp g' _ ps' ca' cb' _ => g = g' ∧ ps = ps' ∧ ca = ca' ∧ cb = cb'
  | _, _ => False
theorem Kin.refl (c : Box) : Kin c c := by cases c <;> simp [Kin]

theorem cell_heap {w w' : World} {g : Nat} (h : w'.heap[g]? = w.heap[g]?) (o : Nat) : w'.cell? ⟨g, o, none⟩ = w.cell? ⟨g, o, none⟩ := World.cell?_of_block (w := w) h

theorem MapF.heap {w w' : World} {b : Nat} {kd : IntKind} {g : Int → Option Value} (h : MapF w b kd g) (hh : w'.heap[b]? = w.heap[b]?) : MapF w' b kd g := by
  obtain ⟨es, c, h1, h2⟩ := h; exact ⟨es, c, hh.trans h1, h2⟩
theorem RepP.mono {w w' : World} {A A' : Nat → Prop} (hs : w.heap.size ≤ w'.heap.size) (hb : ∀ g, g < w.heap.size → A g → A' g ∧ w'.heap[g]? = w.heap[g]?) :
    ∀ (v : Val) (x : Value), RepP w A v x → RepP w' A' v x := by
  intro v
  induction v with
  | view k n cell ih =>
    rintro x ⟨a, c, rfl, hn, hnc, h⟩
    refine ⟨a, c, rfl, hn, hnc, fun h0 => ?_⟩
    obtain ⟨g, off, rfl, hg, hA, hc⟩ := h h0
    obtain ⟨hA', hh⟩ := hb g hg hA
    refine ⟨g, off, rfl, by omega, hA', fun i hi j hj => ?_⟩
    obtain ⟨y, hy, ho, hr⟩ := hc i hi j hj
    exact ⟨y, by rw [cell_heap hh]; exact hy, ho, ih i j y hr⟩
  | vptr m cell ih =>
    rintro x ⟨g, off, rfl, hg, hA, hc⟩
    obtain ⟨hA', hh⟩ := hb g hg hA
    refine ⟨g, off, rfl, by omega, hA', fun j hj => ?_⟩
    obtain ⟨y, hy, hr⟩ := hc j hj
    exact ⟨y, by rw [cell_heap hh]; exact hy, ih j y hr⟩
  | cons h t ih1 ih2 => rintro x ⟨y, ys, rfl, h1, h2⟩; exact ⟨y, ys, rfl, ih1 y h1, ih2 _ h2⟩
  | agg l ih => rintro x ⟨ys, rfl, h⟩; exact ⟨ys, rfl, ih _ h⟩
  | tup l ih => rintro x ⟨ys, rfl, h⟩; exact ⟨ys, rfl, ih _ h⟩
  | func fn l ih => rintro x ⟨ys, rfl, h⟩; exact ⟨ys, rfl, ih _ h⟩
  | mview kd has f ih =>
    rintro x ⟨g, h, rfl, hg, hA, hm, hc⟩
    obtain ⟨hA', hh⟩ := hb g hg hA
    refine ⟨g, h, rfl, by omega, hA', hm.heap hh, fun k => ⟨(hc k).1, fun hk => ?_⟩⟩
    obtain ⟨y, hy, hr⟩ := (hc k).2 hk
    exact ⟨y, hy, ih k y hr⟩
  | _ => intro x h; exact h

theorem RepP.rep {w : World} {A : Nat → Prop} {B : Bmap} {β : Nat → Loc} : ∀ (v : Val) (x : Value), RepP w A v x → Rep w A B β v x := by
  intro v
  induction v with
  | cons h t ih1 ih2 => rintro x ⟨y, ys, rfl, h1, h2⟩; exact ⟨y, ys, rfl, ih1 y h1, ih2 _ h2⟩
  | agg l ih => rintro x ⟨ys, rfl, h⟩; exact ⟨ys, rfl, ih _ h⟩
  | tup l ih => rintro x ⟨ys, rfl, h⟩; exact ⟨ys, rfl, ih _ h⟩
  | func fn l ih => rintro x ⟨ys, rfl, h⟩; exact ⟨ys, rfl, ih _ h⟩
  | ptr b off => intro x h; exact h.elim
  | own b => intro x h; exact h.elim
  | rptr b i off => intro x h; exact h.elim
  | mapb b => intro x h; exact h.elim
  | yld b => intro x h; exact h.elim
  | _ => intro x h; exact h

theorem Rep.mono {w w' : World} {A A' : Nat → Prop} {B B' : Bmap} {β β' : Nat → Loc} (hs : w.heap.size ≤ w'.heap.size)
    (hb : ∀ g, g < w.heap.size → A g → A' g ∧ w'.heap[g]? = w.heap[g]?) (hx : ∀ b c, B b = some c → ∃ c', B' b = some c' ∧ Kin c c' ∧ β' b = β b) :
    ∀ (v : Val) (x : Value), Rep w A B β v x → Rep w' A' B' β' v x := by
  intro v
  induction v with
  | cons h t ih1 ih2 => rintro x ⟨y, ys, rfl, h1, h2⟩; exact ⟨y, ys, rfl, ih1 y h1, ih2 _ h2⟩
  | agg l ih => rintro x ⟨ys, rfl, h⟩; exact ⟨ys, rfl, ih _ h⟩
  | tup l ih => rintro x ⟨ys, rfl, h⟩; exact ⟨ys, rfl, ih _ h⟩
  | func fn l ih => rintro x ⟨ys, rfl, h⟩; exact ⟨ys, rfl, ih _ h⟩
  | ptr b off =>
    rintro x ⟨⟨l, hB⟩, g, hg, rfl⟩
    obtain ⟨c', hc, hk, hβ⟩ := hx b _ hB
    cases c' with
    | cells l' => exact ⟨⟨l', hc⟩, g, by rw [hβ]; exact hg, rfl⟩
    | row => simp [Kin] at hk
    | mp => simp [Kin] at hk
    | lp => simp [Kin] at hk
  | mapb b =>
    rintro x ⟨⟨kd, has, f, hB⟩, g, hg, rfl⟩
    obtain ⟨c', hc, hk, hβ⟩ := hx b _ hB
    cases c' with
    | mp kd' has' f' => exact ⟨⟨kd', has', f', hc⟩, g, by rw [hβ]; exact hg, rfl⟩
    | row => simp [Kin] at hk
    | cells => simp [Kin] at hk
    | lp => simp [Kin] at hk
  | own b =>
    rintro x ⟨⟨e, k, n, cell, hB⟩, rfl⟩
    obtain ⟨c', hc, hk, hβ⟩ := hx b _ hB
    cases c' with
    | cells l' => simp [Kin] at hk
    | mp => simp [Kin] at hk
    | lp => simp [Kin] at hk
    | row e' k' n' cell' => exact ⟨⟨e', k', n', cell', hc⟩, by rw [hβ]⟩
  | rptr b i off =>
    rintro x ⟨e, k, n, cell, hB, hi, g, hg, rfl⟩
    obtain ⟨c', hc, hk, hβ⟩ := hx b _ hB
    cases c' with
    | cells l' => simp [Kin] at hk
    | mp => simp [Kin] at hk
    | lp => simp [Kin] at hk
    | row e' k' n' cell' =>
      obtain ⟨rfl, rfl⟩ := hk
      exact ⟨e', k, n, cell', hc, hi, g, by rw [hβ]; exact hg, rfl⟩
  | yld b =>
    rintro x ⟨g, fr, ps, ca, cb, st, hB, rfl⟩
    obtain ⟨c', hc, hk, hβ⟩ := hx b _ hB
    cases c' with
    | lp g' fr' ps' ca' cb' st' => obtain ⟨rfl, _⟩ := hk; exact ⟨g, fr', ps', ca', cb', st', hc, rfl⟩
    | row => simp [Kin] at hk
    | cells => simp [Kin] at hk
    | mp => simp [Kin] at hk
  | nil => intro x h; exact h
  | und => intro x h; exact h
  | _ => intro x h; exact RepP.mono hs hb _ x h

/-! lists -/
def vl : List Val → Val
  | [] => .nil
  | v :: l => .cons v (vl l)
def vget : Val → Nat → Val
  | .cons h _, 0 => h
  | .cons _ t, n + 1 => vget t n
  | _, _ => .und
def vset : Val → Nat → Val → Val
  | .cons _ t, 0, v => .cons v t
  | .cons h t, n + 1, v => .cons h (vset t n v)
  | l, _, _ => l
def vlen : Val → Nat
  | .cons _ t => vlen t + 1
  | _ => 0
def vsets : Val → Nat → Val → Val
  | l, off, .cons v t => vsets (vset l off v) (off + 1) t
  | l, _, _ => l
def vapp : Val → Val → Val
  | .cons h t, r => .cons h (vapp t r)
  | _, r => r
/-- j-th to last of n values of a function -/
def vtab (f : Nat → Val) : Nat → Nat → Val
  | _, 0 => .nil
  | j, n + 1 => .cons (f j) (vtab f (j + 1) n)

section
variable {w : World} {A : Nat → Prop} {B : Bmap} {β : Nat → Loc}
/-- a list of values -/
def isL : Val → Prop
  | .nil => True
  | .cons _ t => isL t
  | _ => False
theorem Rep.gets : ∀ (l : Val) (ys : List Value), Rep w A B β l (.tuple ⟨ys⟩) → isL l → vlen l = ys.length ∧ ∀ j, j < ys.length → Rep w A B β (vget l j) (ys.getD j undef) := by
  intro l
  induction l with
  | nil =>
    intro ys h _
    have : ys = [] := by simpa [Rep] using h
    subst this
    simp [vlen]
  | cons h t ih1 ih2 =>
    rintro ys ⟨y, zs, he, h1, h2⟩ hl
    have : ys = y :: zs := by simpa using he
    subst this
    obtain ⟨e1, e2⟩ := ih2 zs h2 hl
    refine ⟨by simp [vlen, e1], fun j hj => ?_⟩
    cases j with
    | zero => simpa [vget] using h1
    | succ j => simpa [vget] using e2 j (by simpa using hj)
  | _ => intro ys h hl; exact hl.elim
theorem Rep.get1 {l : Val} {ys : List Value} (h : Rep w A B β l (.tuple ⟨ys⟩)) (j : Nat) (hj : j < vlen l) : ∃ y, ys[j]? = some y ∧ Rep w A B β (vget l j) y := by
  induction l generalizing ys j with
  | cons a t ih1 ih2 =>
    obtain ⟨y, zs, he, h1, h2⟩ := h
    have : ys = y :: zs := by simpa using he
    subst this
    cases j with
    | zero => exact ⟨y, rfl, h1⟩
    | succ j =>
      obtain ⟨y', e, hr⟩ := ih2 h2 j (by simpa [vlen] using hj)
      exact ⟨y', by simpa using e, hr⟩
  | _ => simp [vlen] at hj
theorem Rep.len {l : Val} {ys : List Value} (h : Rep w A B β l (.tuple ⟨ys⟩)) (hl : isL l) : ys.length = vlen l := (Rep.gets l ys h hl).1.symm
theorem Rep.tab (f : Nat → Val) : ∀ (n j : Nat) (ys : List Value), ys.length = n → (∀ i, i < n → Rep w A B β (f (j + i)) (ys.getD i undef)) → Rep w A B β (vtab f j n) (.tuple ⟨ys⟩) := by
  intro n
  induction n with
  | zero => intro j ys hl _; have : ys = [] := List.eq_nil_of_length_eq_zero hl; subst this; simp [vtab, Rep]
  | succ n ih =>
    intro j ys hl h
    cases ys with
    | nil => simp at hl
    | cons y zs =>
      refine ⟨y, zs, rfl, by simpa using h 0 (by omega), ih (j + 1) zs (by simpa using hl) fun i hi => ?_⟩
      have := h (i + 1) (by omega)
      rw [show j + 1 + i = j + (i + 1) from by omega]; simpa using this
theorem RepP.tab (f : Nat → Val) : ∀ (n j : Nat) (ys : List Value), ys.length = n → (∀ i, i < n → RepP w A (f (j + i)) (ys.getD i undef)) → RepP w A (vtab f j n) (.tuple ⟨ys⟩) := by
  intro n
  induction n with
  | zero => intro j ys hl _; have : ys = [] := List.eq_nil_of_length_eq_zero hl; subst this; simp [vtab, RepP]
  | succ n ih =>
    intro j ys hl h
    cases ys with
    | nil => simp at hl
    | cons y zs =>
      refine ⟨y, zs, rfl, by simpa using h 0 (by omega), ih (j + 1) zs (by simpa using hl) fun i hi => ?_⟩
      have := h (i + 1) (by omega)
      rw [show j + 1 + i = j + (i + 1) from by omega]; simpa using this
theorem isL_tab (f : Nat → Val) : ∀ (n j : Nat), isL (vtab f j n) := by
  intro n; induction n with
  | zero => intro j; trivial
  | succ n ih => intro j; exact ih (j + 1)
theorem vlen_tab (f : Nat → Val) : ∀ (n j : Nat), vlen (vtab f j n) = n := by
  intro n; induction n with
  | zero => intro j; rfl
  | succ n ih => intro j; simp [vtab, vlen, ih]
theorem vget_tab (f : Nat → Val) : ∀ (n j i : Nat), i < n → vget (vtab f j n) i = f (j + i) := by
  intro n; induction n with
  | zero => intro j i hi; omega
  | succ n ih =>
    intro j i hi
    cases i with
    | zero => rfl
    | succ i => show vget (vtab f (j + 1) n) i = _; rw [ih (j + 1) i (by omega)]; congr 1; omega
theorem Rep.set1 {l : Val} {ys : List Value} (h : Rep w A B β l (.tuple ⟨ys⟩)) {v : Val} {y : Value} (hv : Rep w A B β v y) (j : Nat) (hj : j < vlen l) : Rep w A B β (vset l j v) (.tuple ⟨ys.set j y⟩) := by
  induction l generalizing ys j with
  | cons a t ih1 ih2 =>
    obtain ⟨z, zs, he, h1, h2⟩ := h
    have : ys = z :: zs := by simpa using he
    subst this
    cases j with
    | zero => exact ⟨y, zs, rfl, hv, h2⟩
    | succ j => exact ⟨z, _, rfl, h1, ih2 h2 j (by simpa [vlen] using hj)⟩
  | _ => simp [vlen] at hj
theorem vlen_vset (l : Val) (j : Nat) (v : Val) : vlen (vset l j v) = vlen l := by
  induction l generalizing j with
  | cons h t ih1 ih2 => cases j <;> simp [vset, vlen, ih2]
  | _ => simp [vset]
theorem isL_vset (l : Val) (j : Nat) (v : Val) (h : isL l) : isL (vset l j v) := by
  induction l generalizing j with
  | cons h' t ih1 ih2 =>
    cases j with
    | zero => exact h
    | succ j => exact ih2 j h
  | _ => cases j <;> exact h
theorem Rep.app {l r : Val} {ys zs : List Value} (h : Rep w A B β l (.tuple ⟨ys⟩)) (hl : isL l) (h' : Rep w A B β r (.tuple ⟨zs⟩)) : Rep w A B β (vapp l r) (.tuple ⟨ys ++ zs⟩) := by
  induction l generalizing ys with
  | nil =>
    have : ys = [] := by simpa [Rep] using h
    subst this
    exact h'
  | cons a t ih1 ih2 =>
    obtain ⟨z, us, he, h1, h2⟩ := h
    have : ys = z :: us := by simpa using he
    subst this
    exact ⟨z, _, rfl, h1, ih2 h2 hl⟩
  | _ => exact hl.elim
end
end Go.Proofs.YtbhhcnonooiokaaDoor
