/- The engine, part 2: compiled code, what an operation gives, and the run of code on abstract states. No condition. -/
import Derived.Test.YtbhhcnonooiokaaDoorFVal
namespace Go.Proofs.YtbhhcnonooiokaaDoor
open Go Go.RowKit

inductive ARes where
  | t (n : Nat)
  | cell (n : Nat) (agg : Bool) (shs : List Sh)
structure AFun where
  code : ACode
  res : List ARes

abbrev Bx := List (Nat × Box)
def fget : Fr → Nat → Val
  | [], _ => .und
  | (t, v) :: l, s => if t = s then v else fget l s
def bget : Bx → Nat → Option Box
  | [], _ => none
  | (t, v) :: l, s => if t = s then some v else bget l s
def bset : Bx → Nat → Box → Bx
  | [], b, c => [(b, c)]
  | (t, v) :: l, b, c => if t = b then (b, c) :: l else (t, v) :: bset l b c
def bdel : Bx → Nat → Bx
  | [], _ => []
  | (t, v) :: l, b => if t = b then bdel l b else (t, v) :: bdel l b
def fput (fr : Fr) (d : Option Nat) (v : Val) : Fr := match d with | some t => (t, v) :: fr | none => fr

def Val.toInt : Val → Int
  | .int _ n => n
  | _ => 0
def Val.toBool : Val → Bool
  | .bool b => b
  | _ => false
def Val.slen : Val → Nat
  | .view _ n _ => n
  | _ => 0
def Val.scell : Val → Nat → Nat → Val
  | .view _ _ c => c
  | _ => fun _ _ => .und
def cast1 : Sh → Val → Val
  | .int k, v => .int k v.toInt
  | .bool, v => .bool v.toBool
  | .slc k, v => .view k v.slen v.scell
  | .any, v => v
def castOk : Sh → Val → Prop
  | .int k, v => v = .int k v.toInt
  | .bool, v => v = .bool v.toBool
  | .slc k, v => v = .nils ∨ v = .view k v.slen v.scell
  | .any, _ => True
def casts : List Sh → (Nat → Val) → Nat → Val
  | [], _, _ => .nil
  | s :: l, f, j => .cons (cast1 s (f j)) (casts l f (j + 1))
def castOks : List Sh → (Nat → Val) → Nat → Prop
  | [], _, _ => True
  | s :: l, f, j => castOk s (f j) ∧ castOks l f (j + 1)
def mkv (agg : Bool) (l : Val) : Val := match agg with | true => .agg l | false => vget l 0
/-- nil slices as views, by the shapes -/
def norm1 : Sh → Val → Val
  | .slc k, .nils => .view k 0 fun _ _ => .und
  | _, v => v
def norms : List Sh → Val → Val
  | s :: l, .cons h t => .cons (norm1 s h) (norms l t)
  | _, v => v
def norm : List Sh → Val → Val
  | shs, .agg l => .agg (norms shs l)
  | [s], v => norm1 s v
  | _, v => v
def cellsOf : Val → Val
  | .agg l => l
  | v => .cons v .nil
def isLB : Val → Bool
  | .nil => true
  | .cons _ t => isLB t
  | _ => false
/-- the value has just n cells -/
def cellsN (n : Nat) : Val → Prop
  | .agg l => isLB l = true ∧ vlen l = n
  | .und | .tup _ | .cons _ _ | .nil => False
  | _ => n = 1
def pureB : Val → Bool
  | .own _ | .ptr _ _ | .rptr _ _ _ | .mapb _ | .yld _ => false
  | .cons h t => pureB h && pureB t
  | .agg l | .tup l | .func _ l => pureB l
  | _ => true
def flatB : Val → Bool
  | .own _ | .ptr _ _ | .rptr _ _ _ | .view _ _ _ | .vptr _ _ | .func _ _ | .mapb _ | .yld _ | .mview _ _ _ => false
  | .cons h t => flatB h && flatB t
  | .agg l | .tup l => flatB l
  | _ => true
/-- cells that a store may lay -/
def onesB : Val → Bool
  | .cons h t => (match h with | .und | .agg _ | .tup _ | .cons _ _ | .nil => false | _ => true) && onesB t
  | _ => true
def pickV : Bool → Val → Val → Val
  | true, a, _ => a
  | false, _, b => b
/-- what own memory reads as now -/
def snapV (bx : Bx) : Nat → Val → Val
  | 0, v => v
  | d + 1, .own b => match bget bx b with | some (.row _ k n c) => .view k n c | _ => .own b
  | d + 1, .ptr b off => match bget bx b with | some (.cells l) => .vptr (vlen l - off) fun j => vget (snapV bx d l) (off + j) | _ => .ptr b off
  | d + 1, .rptr b i off => match bget bx b with | some (.row _ k n c) => .vptr (k - off) fun j => c i (off + j) | _ => .rptr b i off
  | d + 1, .mapb b => match bget bx b with | some (.mp kd has f) => .mview kd has fun k => pickV (has k) (snapV bx d (f k)) .und | _ => .mapb b
  | d + 1, .cons h t => .cons (snapV bx (d + 1) h) (snapV bx (d + 1) t)
  | d + 1, .agg l => .agg (snapV bx (d + 1) l)
  | d + 1, .tup l => .tup (snapV bx (d + 1) l)
  | d + 1, .func fn l => .func fn (snapV bx (d + 1) l)
  | _ + 1, v => v
noncomputable def snapOk (bx : Bx) : Nat → Val → Bool
  | 0, v => pureB v
  | _ + 1, .own b => match bget bx b with | some (.row _ _ _ _) => true | _ => false
  | d + 1, .ptr b _ => match bget bx b with | some (.cells l) => snapOk bx d l | _ => false
  | _ + 1, .rptr b _ _ => match bget bx b with | some (.row _ _ _ _) => true | _ => false
  | d + 1, .mapb b => match bget bx b with | some (.mp _ has f) => @decide (∀ k, has k = true → snapOk bx d (f k) = true) (Classical.propDecidable _) | _ => false
  | d + 1, .cons h t => snapOk bx (d + 1) h && snapOk bx (d + 1) t
  | _ + 1, .yld _ => false
  | d + 1, .agg l => snapOk bx (d + 1) l
  | d + 1, .tup l => snapOk bx (d + 1) l
  | d + 1, .func _ l => snapOk bx (d + 1) l
  | _ + 1, _ => true
/-- a box's name replaced -/
def subV (b : Nat) (r : Val) : Val → Val
  | .own b' => if b' = b then r else .own b'
  | .ptr b' o => if b' = b then .und else .ptr b' o
  | .rptr b' i o => if b' = b then .und else .rptr b' i o
  | .mapb b' => if b' = b then .und else .mapb b'
  | .yld b' => if b' = b then .und else .yld b'
  | .cons h t => .cons (subV b r h) (subV b r t)
  | .agg l => .agg (subV b r l)
  | .tup l => .tup (subV b r l)
  | .func fn l => .func fn (subV b r l)
  | v => v
def subFr (b : Nat) (r : Val) : Fr → Fr
  | [] => []
  | (t, v) :: l => (t, subV b r v) :: subFr b r l
def subBx (b : Nat) (r : Val) : Bx → Bx
  | [] => []
  | (t, .cells l) :: m => (t, .cells (subV b r l)) :: subBx b r m
  | (t, .mp kd has f) :: m => (t, .mp kd has fun k => subV b r (f k)) :: subBx b r m
  | (t, .lp g fr ps ca cb st) :: m => (t, .lp g (subFr b r fr) ps ca cb st) :: subBx b r m
  | (t, c) :: m => (t, c) :: subBx b r m

structure Spec where
  pre : List Val → Prop
  res : List Val → Val
/-- what an operation owes, what it gives, and what it makes -/
structure AR where
  pre : Prop
  v : Val
  new : Option Box
abbrev bad : AR := ⟨False, .und, none⟩
abbrev ok1 (v : Val) : AR := ⟨True, v, none⟩
structure Env where
  G : Nat → Option (Nat × (Nat → Val))
  S : FuncId → Option Spec
  I : FuncId → Option AFun

def ev (E : Env) (fr : Fr) : Opd → Val
  | .t n => fget fr n
  | .c v => v
  | .g n => match E.G n with | some (m, c) => .vptr m c | none => .und
def evs (E : Env) (fr : Fr) : List Opd → Val
  | [] => .nil
  | x :: l => .cons (ev E fr x) (evs E fr l)
/-- parts laid into cells -/
def fillV (E : Env) (fr : Fr) : Val → List (Nat × Nat × Opd) → Val
  | z, [] => z
  | z, (off, _, x) :: l => fillV E fr (vsets z off (cellsOf (ev E fr x))) l
def fillOk (E : Env) (fr : Fr) (len : Nat) : List (Nat × Nat × Opd) → Prop
  | [] => True
  | (off, n, x) :: l => cellsN n (ev E fr x) ∧ off + n ≤ len ∧ fillOk E fr len l
def rowsV (E : Env) (fr : Fr) : Val → List (Nat × Opd) → Val
  | z, [] => z
  | z, (i, x) :: l => rowsV E fr (vset z i (cellsOf (ev E fr x))) l
def rowsOk (E : Env) (fr : Fr) (k len : Nat) : List (Nat × Opd) → Prop
  | [] => True
  | (i, x) :: l => cellsN k (ev E fr x) ∧ pureB (ev E fr x) = true ∧ onesB (cellsOf (ev E fr x)) = true ∧ i < len ∧ rowsOk E fr k len l
def vrep (z : Val) : Nat → Val
  | 0 => .nil
  | n + 1 => .cons z (vrep z n)
def sliceV : Val → Nat → Nat → Val
  | l, off, n => vtab (fun j => vget l (off + j)) 0 n
/-- flat cells are equal -/
def eqCells : List Sh → Val → Val → Bool
  | .int _ :: s, .cons a l, .cons b m => a.toInt == b.toInt && eqCells s l m
  | .bool :: s, .cons a l, .cons b m => a.toBool == b.toBool && eqCells s l m
  | _, _, _ => true
def eqOk : List Sh → Val → Prop
  | [], .nil => True
  | .int k :: s, .cons a l => castOk (.int k) a ∧ eqOk s l
  | .bool :: s, .cons a l => castOk .bool a ∧ eqOk s l
  | _, _ => False
def binV (op : BinOp) (k : IntKind) (a b : Int) : AR :=
  match op with
  | .add => ok1 (.int k (k.wrap (a + b)))
  | .sub => ok1 (.int k (k.wrap (a - b)))
  | .mul => ok1 (.int k (k.wrap (a * b)))
  | .quo => ⟨b ≠ 0, .int k (k.wrap (a.tdiv b)), none⟩
  | .rem => ⟨b ≠ 0, .int k (a.tmod b), none⟩
  | .eql => ok1 (.bool (a == b))
  | .neq => ok1 (.bool (a != b))
  | .lss => ok1 (.bool (decide (a < b)))
  | .leq => ok1 (.bool (decide (a ≤ b)))
  | .gtr => ok1 (.bool (decide (a > b)))
  | .geq => ok1 (.bool (decide (a ≥ b)))
  | _ => bad
def optInt (E : Env) (fr : Fr) (d : Int) : Option Opd → Option Int
  | none => some d
  | some x => match ev E fr x with | .int _ z => some z | _ => none
def lenV (bx : Bx) : Val → AR
  | .view _ n _ => ok1 (.int .i64 n)
  | .nils => ok1 (.int .i64 0)
  | .own b => match bget bx b with | some (.row _ _ n _) => ok1 (.int .i64 n) | _ => bad
  | _ => bad
/-- the arguments as a callee with a spec reads them -/
def argsL (E : Env) (fr : Fr) : List (List Sh × Opd) → List Val
  | [] => []
  | (_, x) :: l => ev E fr x :: argsL E fr l
def capsL : Val → List Val
  | .cons h t => h :: capsL t
  | _ => []
def snapL (bx : Bx) : List Val → List Val
  | [] => []
  | v :: l => snapV bx 4 v :: snapL bx l
noncomputable def snapOks (bx : Bx) : List Val → Bool
  | [] => true
  | v :: l => snapOk bx 4 v && snapOks bx l
def normL : List (List Sh × Opd) → List Val → List Val
  | (s, _) :: a, v :: l => norm s v :: normL a l
  | _, l => l
def pureL : List Val → Bool
  | [] => true
  | v :: l => pureB v && pureL l
noncomputable def specV (bx : Bx) (s : Spec) (args : List (List Sh × Opd)) (vs : List Val) : AR :=
  match pureL vs with
  | true => ⟨s.pre (normL args vs), s.res (normL args vs), none⟩
  | false => ⟨snapOks bx vs = true ∧ s.pre (normL args (snapL bx vs)) ∧ flatB (s.res (normL args (snapL bx vs))) = true, s.res (normL args (snapL bx vs)), none⟩

/-- what a look-up gives -/
def mgetV (ok has : Bool) (v z : Val) : Val := match ok with
  | true => .tup (.cons (pickV has v z) (.cons (.bool has) .nil))
  | false => pickV has v z

noncomputable def aop (E : Env) (fr : Fr) (bx : Bx) (nx : Nat) : AOp → AR
  | .mv x => ok1 (ev E fr x)
  | .pick c a b => match ev E fr c with | .bool t => ok1 (pickV t (ev E fr a) (ev E fr b)) | _ => bad
  | .alloc z => ⟨isLB z = true, .ptr nx 0, some (.cells z)⟩
  | .box n x => ⟨cellsN n (ev E fr x), .ptr nx 0, some (.cells (cellsOf (ev E fr x)))⟩
  | .build z parts => ⟨isLB z = true ∧ fillOk E fr (vlen z) parts, .agg (fillV E fr z parts), none⟩
  | .bsl e k len z parts => ⟨isLB z = true ∧ pureB z = true ∧ onesB z = true ∧ vlen z = k ∧ 0 < k ∧ rowsOk E fr k len parts, .own nx, some (.row e k len fun i j => vget (vget (rowsV E fr (vrep z len) parts) i) j)⟩
  | .load agg shs x => match ev E fr x with
    | .ptr b off => match bget bx b with
      | some (.cells l) => ⟨off + shs.length ≤ vlen l, mkv agg (sliceV l off shs.length), none⟩
      | _ => bad
    | .vptr m c => ⟨shs.length ≤ m ∧ castOks shs c 0, mkv agg (casts shs c 0), none⟩
    | .rptr b i off => match bget bx b with
      | some (.row _ k _ c) => ⟨off + shs.length ≤ k ∧ castOks shs (fun j => c i (off + j)) 0, mkv agg (casts shs (fun j => c i (off + j)) 0), none⟩
      | _ => bad
    | _ => bad
  | .bin op x y => match ev E fr x, ev E fr y with
    | .int k a, .int k' b => match binV op k a b with | ⟨p, v, n⟩ => ⟨k = k' ∧ p, v, n⟩
    | _, _ => bad
  | .binb neg x y => match ev E fr x, ev E fr y with
    | .bool a, .bool b => ok1 (.bool (match neg with | true => a != b | false => a == b))
    | _, _ => bad
  | .eqa neg shs x y => match ev E fr x, ev E fr y with
    | .agg l, .agg m => ⟨eqOk shs l ∧ eqOk shs m, .bool (match neg with | true => !eqCells shs l m | false => eqCells shs l m), none⟩
    | _, _ => bad
  | .un op x => match op, ev E fr x with
    | .neg, .int k a => ok1 (.int k (k.wrap (0 - a)))
    | .not, .bool b => ok1 (.bool !b)
    | _, _ => bad
  | .conv k x => match ev E fr x with | .int _ n => ok1 (.int k (k.wrap n)) | _ => bad
  | .mkf fn caps => ok1 (.func fn (evs E fr caps))
  | .fld off x => match ev E fr x with
    | .ptr b o => ok1 (.ptr b (o + off))
    | .vptr m c => ok1 (.vptr (m - off) fun j => c (off + j))
    | .rptr b i o => ok1 (.rptr b i (o + off))
    | _ => bad
  | .idx k x i => match ev E fr x, ev E fr i with
    | .view k' n c, .int _ z => ⟨k = k' ∧ 0 ≤ z ∧ z < n, .vptr k (c z.toNat), none⟩
    | .own b, .int _ z => match bget bx b with
      | some (.row _ k' n _) => ⟨k = k' ∧ 0 ≤ z ∧ z < n, .rptr b z.toNat 0, none⟩
      | _ => bad
    | _, _ => bad
  | .idxA k len x i => match ev E fr x, ev E fr i with
    | .ptr b o, .int _ z => ⟨0 ≤ z ∧ z < len, .ptr b (o + z.toNat * k), none⟩
    | .vptr m c, .int _ z => ⟨0 ≤ z ∧ z < len, .vptr (m - z.toNat * k) fun j => c (z.toNat * k + j), none⟩
    | .rptr b i' o, .int _ z => ⟨0 ≤ z ∧ z < len, .rptr b i' (o + z.toNat * k), none⟩
    | _, _ => bad
  | .sl k x lo hi => match ev E fr x with
    | .view k' n c => match optInt E fr 0 lo, optInt E fr n hi with
      | some l, some h => ⟨k = k' ∧ 0 ≤ l ∧ l ≤ h ∧ h ≤ n, .view k (h - l).toNat fun i => c (l.toNat + i), none⟩
      | _, _ => bad
    | _ => bad
  | .ext i x => match ev E fr x with | .tup l => ⟨i < vlen l, vget l i, none⟩ | _ => bad
  | .call f args => match ev E fr f with
    | .func (.func id) caps => match E.S id with
      | some s => match specV bx s args (argsL E fr args ++ capsL caps) with | ⟨p, v, n⟩ => ⟨isLB caps = true ∧ p, v, n⟩
      | none => bad
    | _ => bad
  | .len x => lenV bx (ev E fr x)
  | .mm mx x y => match ev E fr x, ev E fr y with
    | .int k a, .int k' b => ⟨k = k', .int k (match mx with | true => max a b | false => min a b), none⟩
    | _, _ => bad
  | .nilc x => match ev E fr x with
    | .ptr b o => ok1 (.ptr b o)
    | .vptr m c => ok1 (.vptr m c)
    | .rptr b i o => ok1 (.rptr b i o)
    | _ => bad
  | .mks e k bytes z n c => match ev E fr n, ev E fr c with
    | .int _ a, .int _ b => ⟨isLB z = true ∧ pureB z = true ∧ onesB z = true ∧ vlen z = k ∧ 0 < k ∧ a = b ∧ 0 ≤ a ∧ a ≤ 4611686018427387904 ∧ a * bytes ≤ 140737488355328, .own nx, some (.row e k a.toNat fun _ j => vget z j)⟩
    | _, _ => bad
  | .mkm kd => ⟨True, .mapb nx, some (.mp kd (fun _ => false) fun _ => .und)⟩
  | .mget kd ok z x k => match ev E fr x, ev E fr k with
    | .mview kd' has f, .int kk n => ⟨kd' = kd ∧ kk = kd, mgetV ok (has n) (f n) z, none⟩
    | .mapb b, .int kk n => match bget bx b with
      | some (.mp kd' has f) => ⟨kd' = kd ∧ kk = kd, mgetV ok (has n) (f n) z, none⟩
      | _ => bad
    | _, _ => bad
  | .mset _ _ _ _ => bad
  | .store _ _ _ => bad
  | .app _ _ _ _ _ => bad
def addB (nx : Nat) : Option Box → Bx → Bx
  | none, bx => bx
  | some c, bx => (nx, c) :: bx
def addN (nx : Nat) : Option Box → Nat
  | none => nx
  | some _ => nx + 1
end Go.Proofs.YtbhhcnonooiokaaDoor
