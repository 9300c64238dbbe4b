/- The engine, part 3: the run of compiled code on abstract states. No condition. -/
import Derived.Test.YtbhhcnonooiokaaDoorECode
namespace Go.Proofs.YtbhhcnonooiokaaDoor
open Go Go.RowKit

/-- lengths of what is seen at once are those of slices -/
def WfT : Val → Prop
  | .view _ n _ => n ≤ maxLen
  | .cons h t => WfT h ∧ WfT t
  | .agg l | .tup l => WfT l
  | _ => True

inductive Item where
  | code (c : ACode)
  | ops (d : Nat) (l : List AOper)
  | blk (id : Nat)
  | inv (J : List Fr → Fr → Bx → Prop)
structure SFrame where
  d : Option Nat
  K : List Item
  res : List ARes
  fr : Fr
  nx : Nat
def popTo (id : Nat) : List Item → Option (List Item)
  | [] => none
  | .blk i :: K => if i = id then some K else popTo id K
  | _ :: K => popTo id K
def subStk (b : Nat) (r : Val) : List SFrame → List SFrame
  | [] => []
  | f :: l => { f with fr := subFr b r f.fr } :: subStk b r l
/-- own slices among values -/
def owns : Val → List Nat
  | .own b => [b]
  | .cons h t => owns h ++ owns t
  | .agg l | .tup l | .func _ l => owns l
  | _ => []
def res1 (fr : Fr) (bx : Bx) : ARes → AR
  | .t n => ok1 (fget fr n)
  | .cell n agg shs => match fget fr n with
    | .ptr b off => match bget bx b with
      | some (.cells l) => ⟨off + shs.length ≤ vlen l, mkv agg (sliceV l off shs.length), none⟩
      | _ => bad
    | _ => bad
def resL (fr : Fr) (bx : Bx) : List ARes → Prop × Val
  | [] => (True, .nil)
  | r :: l => match res1 fr bx r, resL fr bx l with | ⟨p, v, _⟩, (q, t) => (p ∧ q, .cons v t)
def resV (fr : Fr) (bx : Bx) : List ARes → Prop × Val
  | [r] => match res1 fr bx r with | ⟨p, v, _⟩ => (p, v)
  | l => match resL fr bx l with | (p, t) => (p, .tup t)
/-- the elements of an appended slice: cells each, how many, and which -/
def elemsV (bx : Bx) : Val → Option (Option Nat × Nat × (Nat → Nat → Val))
  | .view k n c => some (some k, n, c)
  | .nils => some (none, 0, fun _ _ => .und)
  | .own b => match bget bx b with | some (.row _ k n c) => some (some k, n, c) | _ => none
  | _ => none
def params : Nat → List Val → Fr
  | _, [] => []
  | t, v :: l => (t, v) :: params (t + 1) l

/-- v may stand where v' is said -/
def vsubP : Val → Val → Prop
  | .und, _ => True
  | .cons h t, v => ∃ h' t', v = .cons h' t' ∧ vsubP h h' ∧ vsubP t t'
  | .agg l, v => ∃ l', v = .agg l' ∧ vsubP l l'
  | .tup l, v => ∃ l', v = .tup l' ∧ vsubP l l'
  | .func fn l, v => ∃ l', v = .func fn l' ∧ vsubP l l'
  | .view k n c, v => (v = .nils ∧ n = 0) ∨ ∃ c', v = .view k n c' ∧ ∀ i, i < n → ∀ j, j < k → vsubP (c i j) (c' i j)
  | .vptr m c, v => ∃ c', v = .vptr m c' ∧ ∀ j, j < m → vsubP (c j) (c' j)
  | .mview kd has f, v => ∃ has' f', v = .mview kd has' f' ∧ ∀ k, has' k = has k ∧ (has k = true → vsubP (f k) (f' k))
  | u, v => v = u
/-- the same; boxes of N are nil slices still, and only boxes of D may be named -/
def vsub (N D : Nat → Prop) : Val → Val → Prop
  | .und, _ => True
  | .own b, v => (v = .own b ∧ D b) ∨ (v = .nils ∧ N b)
  | .ptr b off, v => v = .ptr b off ∧ D b
  | .rptr b i off, v => v = .rptr b i off ∧ D b
  | .mapb b, v => v = .mapb b ∧ D b
  | .cons h t, v => ∃ h' t', v = .cons h' t' ∧ vsub N D h h' ∧ vsub N D t t'
  | .agg l, v => ∃ l', v = .agg l' ∧ vsub N D l l'
  | .tup l, v => ∃ l', v = .tup l' ∧ vsub N D l l'
  | .func fn l, v => ∃ l', v = .func fn l' ∧ vsub N D l l'
  | .view k n c, v => (v = .nils ∧ n = 0) ∨ ∃ c', v = .view k n c' ∧ ∀ i, i < n → ∀ j, j < k → vsubP (c i j) (c' i j)
  | .vptr m c, v => ∃ c', v = .vptr m c' ∧ ∀ j, j < m → vsubP (c j) (c' j)
  | .mview kd has f, v => ∃ has' f', v = .mview kd has' f' ∧ ∀ k, has' k = has k ∧ (has k = true → vsubP (f k) (f' k))
  | u, v => v = u
def chkFr (N D : Nat → Prop) (fr : Fr) : Fr → Prop
  | [] => True
  | (t, v) :: l => vsub N D v (fget fr t) ∧ chkFr N D fr l
def chkBx1 (N D : Nat → Prop) : Option Box → Box → Prop
  | some (.cells l), .cells l' => isLB l' = true ∧ vsub N D l' l
  | some (.row e k n c), .row e' k' n' c' => e = e' ∧ k = k' ∧ n = n' ∧ ∀ i, i < n → ∀ j, j < k → vsubP (c' i j) (c i j)
  | some (.mp kd has f), .mp kd' has' f' => kd = kd' ∧ ∀ k, has' k = has k ∧ (has k = true → vsub N D (f' k) (f k))
  | none, .row _ k n _ => n = 0 ∧ 0 < k
  | _, _ => False
def chkBx (N D : Nat → Prop) (bx : Bx) : Bx → Prop
  | [] => True
  | (b, c) :: l => chkBx1 N D (bget bx b) c ∧ chkBx N D bx l
def hasB (bx : Bx) (b : Nat) : Prop := ∃ c, bget bx b = some c
def newIn (bx bx' : Bx) (b : Nat) : Prop := bget bx b = none ∧ ∃ c, bget bx' b = some c
def idsLt (nx : Nat) : Bx → Prop
  | [] => True
  | (b, _) :: l => b < nx ∧ idsLt nx l
def kept (nx : Nat) (bx' : Bx) : Bx → Prop
  | [] => True
  | (b, _) :: l => (b < nx → ∃ c, bget bx' b = some c) ∧ kept nx bx' l
/-- a state may stand where fr', bx' are said -/
def Chk (fr : Fr) (bx : Bx) (fr' : Fr) (bx' : Bx) (nx nx' : Nat) : Prop :=
  chkFr (newIn bx bx') (hasB bx') fr fr' ∧ chkBx (newIn bx bx') (hasB bx') bx bx' ∧ idsLt nx' bx' ∧ kept nx bx' bx
def stkFr : List SFrame → List Fr
  | [] => []
  | f :: l => f.fr :: stkFr l

variable (E : Env) (Q : Val → Bx → Prop)
/-- own slices among some values are seen as views from here on -/
def frz : List Nat → Fr × Bx × List SFrame → Option (Fr × Bx × List SFrame)
  | [], s => some s
  | b :: l, (fr, bx, stk) => match bget bx b with
    | some (.row _ k n c) => frz l (subFr b (.view k n c) fr, subBx b (.view k n c) (bdel bx b), subStk b (.view k n c) stk)
    | none => frz l (fr, bx, stk)
    | _ => none
def opOwns (fr : Fr) : AOp → List Nat
  | .bsl _ _ _ _ parts => parts.flatMap fun p => owns (ev E fr p.2)
  | _ => []
def skipOp (fr : Fr) : Option (Nat × Bool) → Option Bool
  | none => some false
  | some (t, w) => match fget fr t with | .bool b => some (b != w) | .tup .nil => some true | _ => none

/-- a loop: some states stand at its head, and a round leads from one to a lower one, or on -/
def LoopP (R : List Item → List SFrame → List ARes → Fr → Bx → Nat → Prop) (c : ACode) (K : List Item) (stk : List SFrame) (res : List ARes) (fr : Fr) (bx : Bx) (nx : Nat) : Prop :=
    ∃ d : Nat, ∃ T : Nat → Fr → Bx → Prop, (∃ m fr' bx', T m fr' bx' ∧ Chk fr bx fr' bx' nx (nx + d)) ∧
      ∀ m fr' bx', T m fr' bx' → R (.code c :: .inv (fun s fr1 bx1 => s = stkFr stk ∧ ∃ m', m' < m ∧ ∃ fr'' bx'', T m' fr'' bx'' ∧ Chk fr1 bx1 fr'' bx'' nx (nx + d)) :: K) stk res fr' bx' (nx + d)
noncomputable def run : Nat → List Item → List SFrame → List ARes → Fr → Bx → Nat → Prop
  | 0, _, _, _, _, _, _ => False
  | n + 1, [], stk, res, fr, bx, nx => match resV fr bx res with
    | (p, v) => p ∧ match stk with
      | [] => Q v bx
      | f :: stk => run n f.K stk f.res (fput f.fr f.d v) bx nx
  | n + 1, .code .ret :: _, stk, res, fr, bx, nx => match resV fr bx res with
    | (p, v) => p ∧ match stk with
      | [] => Q v bx
      | f :: stk => run n f.K stk f.res (fput f.fr f.d v) bx nx
  | n + 1, .code .skip :: K, stk, res, fr, bx, nx => run n K stk res fr bx nx
  | n + 1, .code (.seq a b) :: K, stk, res, fr, bx, nx => run n (.code a :: .code b :: K) stk res fr bx nx
  | n + 1, .code (.block id a) :: K, stk, res, fr, bx, nx => run n (.code a :: .blk id :: K) stk res fr bx nx
  | n + 1, .blk _ :: K, stk, res, fr, bx, nx => run n K stk res fr bx nx
  | n + 1, .code (.exit id) :: K, stk, res, fr, bx, nx => match popTo id K with | some K' => run n K' stk res fr bx nx | none => False
  | n + 1, .code (.cond c a b) :: K, stk, res, fr, bx, nx => match ev E fr c with
    | .bool t => (t = true → run n (.code a :: K) stk res fr bx nx) ∧ (t = false → run n (.code b :: K) stk res fr bx nx)
    | _ => False
  | n + 1, .code (.loop c) :: K, stk, res, fr, bx, nx =>
    LoopP (run n) c K stk res fr bx nx
  | _ + 1, .inv J :: _, stk, _, fr, bx, _ => J (stkFr stk) fr bx
  | n + 1, .code (.reg d l) :: K, stk, res, fr, bx, nx => run n (.ops d l :: K) stk res fr bx nx
  | n + 1, .ops _ [] :: K, stk, res, fr, bx, nx => run n K stk res fr bx nx
  | n + 1, .ops d (o :: l) :: K, stk, res, fr, bx, nx => match skipOp fr o.guard with
    | none => False
    | some true => run n (.ops (d - 1) l :: K) stk res (fput fr o.dst (.tup .nil)) bx nx
    | some false => match d, o.op with
      | 0, .store m a x => match ev E fr a with
        | .ptr b off => match bget bx b with
          | some (.cells c) => cellsN m (ev E fr x) ∧ onesB (cellsOf (ev E fr x)) = true ∧ off + m ≤ vlen c ∧ run n (.ops 0 l :: K) stk res (fput fr o.dst .und) (bset bx b (.cells (vsets c off (cellsOf (ev E fr x))))) nx
          | _ => False
        | .rptr b i off => match bget bx b with
          | some (.row e k m' c) => cellsN m (ev E fr x) ∧ onesB (cellsOf (ev E fr x)) = true ∧ pureB (ev E fr x) = true ∧ off + m ≤ k ∧
              run n (.ops 0 l :: K) stk res (fput fr o.dst .und) (bset bx b (.row e k m' fun i' j' => if i' = i ∧ off ≤ j' ∧ j' < off + m then vget (cellsOf (ev E fr x)) (j' - off) else c i' j')) nx
          | _ => False
        | _ => False
      | 0, .app e k bytes x y => match elemsV bx (ev E fr y) with
        | none => False
        | some (k', m, c') => (k' = some k ∨ k' = none) ∧ 0 < k ∧ match ev E fr x with
          | .nils => m ≤ maxLen ∧ m * bytes ≤ 140737488355328 ∧ run n (.ops 0 l :: K) stk res (fput fr o.dst (.own nx)) ((nx, .row e k m c') :: bx) (nx + 1)
          | .own b => match bget bx b with
            | some (.row e' k'' n' c) => e' = e ∧ k'' = k ∧ n' + m ≤ maxLen ∧ (n' + m) * bytes ≤ 140737488355328 ∧
                run n (.ops 0 l :: K) (subStk b .und stk) res (fput (subFr b .und fr) o.dst (.own b)) (bset (subBx b .und bx) b (.row e k (n' + m) fun i j => if i < n' then c i j else c' (i - n') j)) nx
            | _ => False
          | _ => False
      | 0, .mset kd m k v => match ev E fr m, ev E fr k with
        | .mapb b, .int kk z => match bget bx b with
          | some (.mp kd' has f) => kd' = kd ∧ kk = kd ∧
              run n (.ops 0 l :: K) stk res (fput fr o.dst .und) (bset bx b (.mp kd (fun j => if j = z then true else has j) fun j => if j = z then ev E fr v else f j)) nx
          | _ => False
        | _, _ => False
      | 0, op => match op, frz (opOwns E fr op) (fr, bx, stk) with
        | .call f args, _ => match ev E fr f with
          | .func (.func id) caps => match E.S id with
            | some s => match specV bx s args (argsL E fr args ++ capsL caps) with
              | ⟨p, v, _⟩ => (isLB caps = true ∧ p) ∧ (WfT v → run n (.ops 0 l :: K) stk res (fput fr o.dst v) bx nx)
            | none => match E.I id with
              | some af => isLB caps = true ∧ run n [.code af.code] (⟨o.dst, .ops 0 l :: K, res, fr, nx⟩ :: stk) af.res (params 0 (argsL E fr args ++ capsL caps)) bx nx
              | none => False
          | _ => False
        | _, none => False
        | _, some (fr, bx, stk) => match aop E fr bx nx op with
          | ⟨p, v, new⟩ => p ∧ (WfT v → match o.br with
            | false => run n (.ops 0 l :: K) stk res (fput fr o.dst v) (addB nx new bx) (addN nx new)
            | true => match v with
              | .bool t => (t = true → run n (.ops 0 l :: K) stk res (fput fr o.dst (.bool true)) (addB nx new bx) (addN nx new)) ∧ (t = false → run n (.ops 0 l :: K) stk res (fput fr o.dst (.bool false)) (addB nx new bx) (addN nx new))
              | _ => False)
      | d + 1, op => match aop E fr bx nx op with
        | ⟨p, v, new⟩ => p ∧ match o.br with
          | false => run n (.ops d l :: K) stk res (fput fr o.dst v) (addB nx new bx) (addN nx new)
          | true => match v with
            | .bool t => (t = true → run n (.ops d l :: K) stk res (fput fr o.dst (.bool true)) (addB nx new bx) (addN nx new)) ∧ (t = false → run n (.ops d l :: K) stk res (fput fr o.dst (.bool false)) (addB nx new bx) (addN nx new))
            | _ => False
end Go.Proofs.YtbhhcnonooiokaaDoor
