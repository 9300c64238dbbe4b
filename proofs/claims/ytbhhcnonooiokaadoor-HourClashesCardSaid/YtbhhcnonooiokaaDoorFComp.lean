/- The engine, part 4: the model's code compiled. No condition. -/
import Derived.Test.YtbhhcnonooiokaaDoorFRun
namespace Go.Proofs.YtbhhcnonooiokaaDoor
open Go Go.RowKit

def cvs (f : Value → Option Val) : List Value → Option Val
  | [] => some .nil
  | v :: l => match f v, cvs f l with | some a, some t => some (.cons a t) | _, _ => none
def cv0 : Value → Option Val
  | .int k n => some (.int k n)
  | .bool b => some (.bool b)
  | .slice none 0 0 => some .nils
  | .pointer none => some .nilp
  | .nilFunc => some .nilf
  | .map none => some .nilm
  | _ => none
def cv : Value → Option Val
  | .agg cs => (cvs cv0 cs.toList).map .agg
  | v => cv0 v
def cOpd : Operand → Option Opd
  | .tmp t => some (.t t)
  | .const v => (cv v).map .c
  | .global g => some (.g g)
  | .func f => some (.c (.func (.func f) .nil))
def shOf (P : Program) : Nat → TypeId → Option (List Sh)
  | 0, _ => none
  | d + 1, t => match P.underlying t with
    | some (.int k) => some [.int k]
    | some .bool => some [.bool]
    | some (.slice e) => some [.slc (P.cellsOf e)]
    | some (.func _ _ _) | some (.pointer _) | some (.map _ _) => some [.any]
    | some (.struct fs) => fs.toList.foldr (fun f acc => match shOf P d f.type, acc with | some a, some b => some (a ++ b) | _, _ => none) (some [])
    | some (.array n e) => (shOf P d e).map fun s => (List.replicate n s).flatten
    | _ => none
def isAggT (P : Program) (t : TypeId) : Option Bool := match P.underlying t with
  | some (.struct _) | some (.array _ _) => some true
  | some _ => some false
  | none => none
def shT (P : Program) (t : TypeId) : Option (Bool × List Sh) := match isAggT P t, shOf P 6 t, P.info? t with
  | some a, some s, some i => if i.size = s.length ∧ (a = false → s.length = 1) then some (a, s) else none
  | _, _, _ => none
def zeroT (P : Program) (t : TypeId) : Option (Nat × Val) := match P.info? t with
  | some i => match i.zero with
    | some z => if z.cells.size = i.size then (cvs cv0 z.cells.toList).map fun l => (i.size, l) else none
    | none => none
  | none => none
/-- the zero of a type, as a value -/
def zero1 (P : Program) (t : TypeId) : Option Val := match P.info? t with
  | some i => i.zero.bind cv
  | none => none
def sizeT (P : Program) (t : TypeId) : Option Nat := (P.info? t).map (·.size)
def partsS (P : Program) (fs : Array Field) : List (Nat × Operand) → Option (List (Nat × Nat × Opd))
  | [] => some []
  | (i, x) :: l => match fs[i]?, cOpd x, partsS P fs l with
    | some f, some o, some r => match sizeT P f.type with | some n => some ((f.offset, n, o) :: r) | none => none
    | _, _, _ => none
def partsA (k : Nat) : List (Nat × Operand) → Option (List (Nat × Nat × Opd))
  | [] => some []
  | (i, x) :: l => match cOpd x, partsA k l with
    | some o, some r => some ((i * k, k, o) :: r)
    | _, _ => none
def partsR : List (Nat × Operand) → Option (List (Nat × Opd))
  | [] => some []
  | (i, x) :: l => match cOpd x, partsR l with
    | some o, some r => some ((i, o) :: r)
    | _, _ => none
def cOpds : List Operand → Option (List Opd)
  | [] => some []
  | x :: l => match cOpd x, cOpds l with | some o, some r => some (o :: r) | _, _ => none
def cArgs (P : Program) : List Operand → List TypeId → Option (List (List Sh × Opd))
  | [], _ => some []
  | x :: l, ts => match cOpd x, cArgs P l ts.tail with
    | some o, some r => some (((match ts with | t :: _ => ((shT P t).map (·.2)).getD [] | [] => []), o) :: r)
    | _, _ => none
def optOpd : Option Operand → Option (Option Opd)
  | none => some none
  | some x => (cOpd x).map some
def flatSh : List Sh → Bool
  | [] => true
  | .int _ :: l | .bool :: l => flatSh l
  | _ => false

/-- '==' at this type compares all cells in order -/
def eqFs (P : Program) (E : TypeId → Bool) (S : TypeId → Option (List Sh)) : Nat → List Field → Bool
  | _, [] => true
  | off, f :: fs => f.name != "_" && f.offset == off && E f.type && (match S f.type with
    | some s => sizeT P f.type == some s.length && (isAggT P f.type == some true || (isAggT P f.type == some false && s.length == 1)) && eqFs P E S (off + s.length) fs
    | none => false)
def eqPlan (P : Program) : Nat → TypeId → Bool
  | 0, _ => false
  | d + 1, t => match P.underlying t with
    | some (.int _) | some .bool => true
    | some (.struct fs) => !P.stoodInHeld t && eqFs P (eqPlan P d) (shOf P d) 0 fs.toList
    | some (.array _ e) => eqPlan P d e && (match shOf P d e with
      | some s => sizeT P e == some s.length && P.cellsOf e == s.length && (isAggT P e == some true || (isAggT P e == some false && s.length == 1))
      | none => false)
    | _ => false

def cOp (P : Program) : Op → Option AOp
  | .move x | .assign x => (cOpd x).map .mv
  | .pick c a b => match cOpd c, cOpd a, cOpd b with | some c, some a, some b => some (.pick c a b) | _, _, _ => none
  | .alloc t => (zeroT P t).map fun p => .alloc p.2
  | .box t x => match sizeT P t, cOpd x with | some n, some x => some (.box n x) | _, _ => none
  | .build t parts => match P.underlying t, zeroT P t with
    | some (.struct fs), some (_, z) => if fs.toList.all (fun f => (sizeT P f.type).isSome) = true then (partsS P fs parts.toList).map fun l => .build z l else none
    | some (.array _ e), some (_, z) => match sizeT P e with | some k => (partsA k parts.toList).map fun l => .build z l | none => none
    | _, _ => none
  | .buildSlice t len parts => match P.underlying t with
    | some (.slice e) => match zeroT P e, partsR parts.toList with
      | some (k, z), some l => if len * k ≤ 16777216 then some (.bsl e k len z l) else none
      | _, _ => none
    | _ => none
  | .load t x => match shT P t, cOpd x with | some (a, s), some x => some (.load a s x) | _, _ => none
  | .store t a x => match sizeT P t, cOpd a, cOpd x with | some n, some a, some x => some (.store n a x) | _, _, _ => none
  | .binOp op t x y _ => match cOpd x, cOpd y with
    | some x, some y => match isAggT P t with
      | some false => (match P.underlying t with
        | some (.int _) => some (.bin op x y)
        | some .bool => (match op with | .eql => some (.binb false x y) | .neq => some (.binb true x y) | _ => none)
        | _ => none)
      | some true => match shT P t with
        | some (_, s) => if flatSh s = true ∧ eqPlan P 6 t = true ∧ P.eqGuardType P.depth t = false then (match op with | .eql => some (.eqa false s x y) | .neq => some (.eqa true s x y) | _ => none) else none
        | none => none
      | none => none
    | _, _ => none
  | .unOp op _ x => (cOpd x).map fun x => .un op x
  | .convert s d x => match P.underlying s, P.underlying d with
    | some (.int _), some (.int k) => (cOpd x).map fun x => .conv k x
    | _, _ => none
  | .makeFunc fn first caps => if first.size = 0 then (cOpds caps.toList).map fun l => .mkf fn l else none
  | .fieldAddr t x f => match P.underlying t, cOpd x with
    | some (.struct fs), some x => match fs[f]? with
      | some f => (match sizeT P f.type with | some (_ + 1) => some (.fld f.offset x) | _ => none)
      | none => none
    | _, _ => none
  | .indexAddr t x i => match P.underlying t, cOpd x, cOpd i with
    | some (.slice e), some x, some i => (sizeT P e).map fun k => .idx k x i
    | some (.array n e), some x, some i => (sizeT P e).map fun k => .idxA k n x i
    | _, _, _ => none
  | .slice t x lo hi none => match P.underlying t, cOpd x, optOpd lo, optOpd hi with
    | some (.slice e), some x, some lo, some hi => (sizeT P e).map fun k => .sl k x lo hi
    | _, _, _, _ => none
  | .extract x i => (cOpd x).map fun x => .ext i x
  | .call c => match c.callee with
    | .value f => match cOpd f, cArgs P c.args.toList c.argTypes.toList with | some f, some l => some (.call f l) | _, _ => none
    | .builtin .len => match c.args.toList, c.argTypes.toList with
      | [x], [t] => (match P.underlying t with | some (.slice _) => (cOpd x).map .len | _ => none)
      | _, _ => none
    | .builtin .max => match c.args.toList with | [x, y] => (match cOpd x, cOpd y with | some x, some y => some (.mm true x y) | _, _ => none) | _ => none
    | .builtin .min => match c.args.toList with | [x, y] => (match cOpd x, cOpd y with | some x, some y => some (.mm false x y) | _, _ => none) | _ => none
    | .builtin .append => match c.args.toList, c.argTypes.toList with
      | [x, y], [t, u] => if t = u then (match P.underlying t, cOpd x, cOpd y with
        | some (.slice e), some x, some y => (match zeroT P e, P.info? e with | some (k, _), some i => some (.app e k i.bytes x y) | _, _ => none)
        | _, _, _ => none) else none
      | _, _ => none
    | _ => none
  | .nilCheck x => (cOpd x).map .nilc
  | .makeMap t none => match P.underlying t with
    | some (.map k _) => (match P.underlying k with | some (.int kd) => some (.mkm kd) | _ => none)
    | _ => none
  | .lookup t m x ok => match P.underlying t with
    | some (.map k e) => (match P.underlying k, zero1 P e, cOpd m, cOpd x with | some (.int kd), some z, some m, some x => some (.mget kd ok z m x) | _, _, _, _ => none)
    | _ => none
  | .insert t m x v | .mapUpdate t m x v => match P.underlying t with
    | some (.map k _) => (match P.underlying k, cOpd m, cOpd x, cOpd v with | some (.int kd), some m, some x, some v => some (.mset kd m x v) | _, _, _, _ => none)
    | _ => none
  | .makeSlice t n c => match P.underlying t with
    | some (.slice e) => match zeroT P e, P.info? e, cOpd n, cOpd c with
      | some (k, z), some i, some n, some c => some (.mks e k i.bytes z n c)
      | _, _, _, _ => none
    | _ => none
  | _ => none

/-! the order of a drawn region -/
def softA : AOp → Bool
  | .store _ _ _ | .app _ _ _ _ _ | .mset _ _ _ _ => false
  | _ => true
/-- who lies ahead of each operation, as bits -/
def aheadOf (acc : List Nat) (o : Oper) : Nat := o.after.toList.foldl (fun s e => if Region.binds .any e then s ||| 2 ^ e.on ||| acc.getD e.on 0 else s) 0
def aheads : List Nat → List Oper → List Nat
  | acc, [] => acc
  | acc, o :: l => aheads (acc ++ [aheadOf acc o]) l
def looks (o : Oper) : List Nat := o.op.operands.toList.filterMap fun | .tmp t => some t | _ => none
/-- what o looks at, and where it lays, stand apart from all that is not ordered with it -/
def apartOk (ops : List Oper) (m : List Nat) (gs : List (Option Nat)) : Bool :=
  (List.range ops.length).all fun i => (List.range ops.length).all fun j =>
    match ops[i]?, ops[j]? with
    | some x, some y => i == j || (match x.dst with
      | none => true
      | some d => y.dst != some d && (!((looks y).contains d || gs.getD j none == some d) || (i < j && (m.getD j 0).testBit i) || (j < i && (m.getD i 0).testBit j)))
    | _, _ => true
def afterOk (ops : List Oper) : Bool :=
  (List.range ops.length).all fun i => match ops[i]? with
    | some o => o.after.toList.all fun e => !Region.binds .any e || e.on < i
    | none => true
def tailOk (n d : Nat) (m : List Nat) : Bool :=
  (List.range n).all fun i => i < d || (List.range i).all fun j => (m.getD i 0).testBit j
def guardT (ops : List Oper) (o : Oper) : Option (Option (Nat × Bool)) := match o.guard with
  | none => some none
  | some (j, w) => match ops[j]? with
    | some p => p.dst.map fun t => some (t, w)
    | none => none
def dstOk (nt : Nat) : Option Tmp → Bool
  | some d => decide (d < nt)
  | none => true
def cOper (P : Program) (ops : List Oper) (nt : Nat) (o : Oper) : Option AOper :=
  match cOp P o.op, guardT ops o with
  | some a, some g =>
    if dstOk nt o.dst = true then
      some { dst := o.dst, op := a, guard := g,
             br := match o.dst with | some d => ops.any fun p => (match guardT ops p with | some (some (t, _)) => t == d | _ => false) || (match p.op with | .pick (.tmp t) _ _ => t == d | _ => false) | none => false,
             re := [] }
    else none
  | _, _ => none
def cOpers (P : Program) (ops : List Oper) (nt : Nat) : List Oper → Option (List AOper)
  | [] => some []
  | o :: l => match cOper P ops nt o, cOpers P ops nt l with | some a, some r => some (a :: r) | _, _ => none
/-- the temporaries that a code reads -/
def rdO : Opd → List Nat
  | .t n => [n]
  | _ => []
def rdOs (l : List Opd) : List Nat := l.flatMap rdO
def rdA : AOp → List Nat
  | .mv x | .box _ x | .load _ _ x | .un _ x | .conv _ x | .fld _ x | .ext _ x | .len x | .nilc x => rdO x
  | .pick a b c => rdO a ++ rdO b ++ rdO c
  | .alloc _ | .mkm _ => []
  | .build _ l => l.flatMap fun p => rdO p.2.2
  | .bsl _ _ _ _ l => l.flatMap fun p => rdO p.2
  | .store _ a x | .bin _ a x | .binb _ a x | .eqa _ _ a x | .idx _ a x | .idxA _ _ a x | .mm _ a x | .app _ _ _ a x | .mks _ _ _ _ a x | .mget _ _ _ a x => rdO a ++ rdO x
  | .mkf _ l => rdOs l
  | .sl _ x lo hi => rdO x ++ (match lo with | some y => rdO y | none => []) ++ (match hi with | some y => rdO y | none => [])
  | .call f l => rdO f ++ l.flatMap fun p => rdO p.2
  | .mset _ a b c => rdO a ++ rdO b ++ rdO c
def mkB : AOp → Bool
  | .alloc _ | .box _ _ | .bsl _ _ _ _ _ | .mks _ _ _ _ _ _ | .mkm _ => true
  | _ => false
def lateB : AOp → Bool
  | .box _ _ => false
  | .alloc z => pureB z
  | _ => true
def aheadB (m : List Nat) (i j : Nat) : Bool := (m.getD j 0).testBit i
/-- all behind d come behind all ahead of them -/
def tailS (m : List Nat) : Nat → Nat
  | 0 => 0
  | i + 1 => if (List.range i).all (fun j => aheadB m j i) then tailS m i else i + 1
def dflt : AOper := ⟨none, .mv (.t 0), none, false, []⟩
def softI (l : List AOper) (i : Nat) : Bool := softA (l.getD i dflt).op
/-- an order of the text's first d: what stores nothing as soon as it may -/
def canon (l : List AOper) (m : List Nat) : Nat → List Nat → List Nat → List Nat
  | 0, _, _ => []
  | n + 1, done, rest =>
    let rdy := rest.filter fun i => rest.all fun j => !aheadB m j i
    match rdy.find? (softI l) with
    | some i => i :: canon l m n (i :: done) (rest.filter (· != i))
    | none => match rdy with
      | i :: _ => i :: canon l m n (i :: done) (rest.filter (· != i))
      | [] => []
def reL (l : List AOper) (m : List Nat) (ord : List Nat) (p i : Nat) : List (Option Nat × AOp × Option (Nat × Bool)) :=
  if softI l i then [] else (ord.take p).filterMap fun j => if softI l j && !mkB (l.getD j dflt).op && !aheadB m j i then some ((l.getD j dflt).dst, (l.getD j dflt).op, (l.getD j dflt).guard) else none
def drawnL (l : List AOper) (m : List Nat) (ord : List Nat) : List AOper := (List.range ord.length).map fun p => { l.getD (ord.getD p 0) dflt with re := reL l m ord p (ord.getD p 0) }
def gRd : Option (Nat × Bool) → List Nat
  | some (t, _) => [t]
  | none => []
/-- the order, checked -/
def ordOk (l : List AOper) (m : List Nat) (d : Nat) (ord : List Nat) : Bool :=
  ord.length == d && (List.range d).all (fun i => ord.contains i) &&
  (List.range d).all fun p => decide (ord.getD p 0 < d) && (match (l.getD (ord.getD p 0) dflt).dst with | none => true | some t => !(rdA (l.getD (ord.getD p 0) dflt).op ++ gRd (l.getD (ord.getD p 0) dflt).guard).contains t) && (List.range p).all fun q =>
    ord.getD q 0 != ord.getD p 0 && !aheadB m (ord.getD p 0) (ord.getD q 0) &&
    (if softI l (ord.getD q 0) then (softI l (ord.getD p 0) || aheadB m (ord.getD q 0) (ord.getD p 0) || !mkB (l.getD (ord.getD q 0) dflt).op || lateB (l.getD (ord.getD q 0) dflt).op) else aheadB m (ord.getD q 0) (ord.getD p 0)) &&
    (match (l.getD (ord.getD p 0) dflt).dst with | none => true | some t => !(rdA (l.getD (ord.getD q 0) dflt).op ++ gRd (l.getD (ord.getD q 0) dflt).guard).contains t)
def tailOk2 (m : List Nat) (n d : Nat) : Bool := (List.range n).all fun i => i < d || (List.range i).all fun j => aheadB m j i
/-- no operation of the first d looks at what one that need not come ahead of it lays, nor at what it lays itself -/
def antiOk (ops : List Oper) (m : List Nat) (gs : List (Option Nat)) (d : Nat) : Bool :=
  (List.range d).all fun i => match (ops[i]?).bind (·.dst) with
    | none => true
    | some t => (List.range d).all fun j => aheadB m i j || (!((match ops[j]? with | some y => looks y | none => []).contains t) && gs.getD j none != some t)
def gsOf (ops : List Oper) : List (Option Nat) := ops.map fun o => match guardT ops o with | some (some (t, _)) => some t | _ => none
def cDraw (ops : List Oper) (l : List AOper) : Option (Nat × List AOper) :=
  let m := aheads [] ops
  let d := tailS m ops.length
  let ord := canon l m d [] (List.range d)
  if afterOk ops && apartOk ops m (gsOf ops) && antiOk ops m (gsOf ops) d && tailOk2 m ops.length d && ordOk l m d ord && decide (d ≤ ops.length) then some (d, drawnL l m ord ++ l.drop d) else none
def rdC : ACode → List Nat
  | .skip | .exit _ | .ret => []
  | .reg _ l => l.flatMap fun o => rdA o.op ++ (match o.guard with | some (t, _) => [t] | none => [])
  | .seq a b => rdC a ++ rdC b
  | .cond c a b => rdO c ++ rdC a ++ rdC b
  | .block _ a | .loop a | .scope a => rdC a
  | .rng f _ ks _ _ => rdO f ++ ks
def cCode (P : Program) (nt : Nat) : Code → Option ACode
  | .skip | .label _ => some .skip
  | .region _ ops draw => match cOpers P ops.toList nt ops.toList with
    | some l => if draw then (cDraw ops.toList l).map fun p => .reg p.1 p.2 else some (.reg 0 l)
    | none => none
  | .seq a b => match cCode P nt a, cCode P nt b with | some a, some b => some (.seq a b) | _, _ => none
  | .cond c a b => match cOpd c, cCode P nt a, cCode P nt b with | some c, some a, some b => some (.cond c a b) | _, _, _ => none
  | .block id a => (cCode P nt a).map (.block id)
  | .loop a => (cCode P nt a).map .loop
  | .exit id => some (.exit id)
  | .ret => some .ret
  | .scope a => (cCode P nt a).map .scope
  | .rangeFunc f ps a b => match cOpd f, cCode P nt a, cCode P nt b with
    | some f, some a, some b => if ps.toList.all (fun t => decide (t < nt)) = true then some (.rng f ps.toList ((rdC a ++ rdC b).eraseDups) a b) else none
    | _, _, _ => none
  | _ => none
def cRes (P : Program) : ResultVar → Option ARes
  | .tmp t => some (.t t)
  | .cell a t => (shT P t).map fun p => .cell a p.1 p.2
def cRess (P : Program) : List ResultVar → Option (List ARes)
  | [] => some []
  | r :: l => match cRes P r, cRess P l with | some a, some r => some (a :: r) | _, _ => none
def cFun (P : Program) (fn : Func) : Option AFun := match fn.body with
  | some c => match cCode P fn.ntmps c, cRess P fn.results.toList with
    | some c, some r => if fn.params.size + fn.nfree ≤ fn.ntmps ∧ (fn.name == "runtime.NumGoroutine") = false then some ⟨c, r⟩ else none
    | _, _ => none
  | none => none
end Go.Proofs.YtbhhcnonooiokaaDoor
