/- The engine, part 3: the run of compiled code on abstract states. No condition. -/
import Derived.Test.YtbhhcnonooiokaaDoorFCode
namespace Go.Proofs.YtbhhcnonooiokaaDoor
open Go Go.RowKit

/-- lengths of what is seen at once are those of slices -/
def WfT : Val → Prop
  | .view _ n _ => n ≤ maxLen
  | .cons h t => WfT h ∧ WfT t
  | .agg l | .tup l => WfT l
  | _ => True

inductive Item where
  | code (c : ACode)
  | ops (d : Nat) (l : List AOper)
  | blk (id : Nat)
  | inv (J : List Fr → Fr → Bx → Prop)
  /-- behind the call of a range over a function -/
  | lend (b g : Nat)
  /-- a round: behind its assignments; its end -/
  | rbeg (b g : Nat)
  | rend (b g : Nat)
structure SFrame where
  d : Option Nat
  K : List Item
  res : List ARes
  fr : Fr
  nx : Nat
def popTo (id : Nat) : List Item → Option (List Item)
  | [] => none
  | .rbeg _ _ :: _ => none
  | .blk i :: K => if i = id then some K else popTo id K
  | _ :: K => popTo id K
/-- the round that these items are of -/
def ends : List Item → Option (Nat × Nat)
  | [] => none
  | .rend b g :: _ => some (b, g)
  | .code _ :: K | .ops _ _ :: K | .blk _ :: K | .inv _ :: K | .lend _ _ :: K | .rbeg _ _ :: K => ends K
/-- these items are of a round's assignments -/
def asgB : List Item → Bool
  | [] => false
  | .rbeg _ _ :: _ => true
  | .code _ :: K | .ops _ _ :: K | .blk _ :: K | .inv _ :: K | .lend _ _ :: K | .rend _ _ :: K => asgB K
def keepS (ks : List Nat) (fr : Fr) : Fr := ks.map fun t => (t, fget fr t)
def putL : Fr → List Nat → List Val → Fr
  | fr, t :: ts, v :: vs => putL ((t, v) :: fr) ts vs
  | fr, _, _ => fr
def subStk (b : Nat) (r : Val) : List SFrame → List SFrame
  | [] => []
  | f :: l => { f with fr := subFr b r f.fr } :: subStk b r l
/-- own slices among values -/
def owns : Val → List Nat
  | .own b => [b]
  | .cons h t => owns h ++ owns t
  | .agg l | .tup l | .func _ l => owns l
  | _ => []
def res1 (fr : Fr) (bx : Bx) : ARes → AR
  | .t n => ok1 (fget fr n)
  | .cell n agg shs => match fget fr n with
    | .ptr b off => match bget bx b with
      | some (.cells l) => ⟨off + shs.length ≤ vlen l, mkv agg (sliceV l off shs.length), none⟩
      | _ => bad
    | _ => bad
def resL (fr : Fr) (bx : Bx) : List ARes → Prop × Val
  | [] => (True, .nil)
  | r :: l => match res1 fr bx r, resL fr bx l with | ⟨p, v, _⟩, (q, t) => (p ∧ q, .cons v t)
def resV (fr : Fr) (bx : Bx) : List ARes → Prop × Val
  | [r] => match res1 fr bx r with | ⟨p, v, _⟩ => (p, v)
  | l => match resL fr bx l with | (p, t) => (p, .tup t)
/-- the elements of an appended slice: cells each, how many, and which -/
def elemsV (bx : Bx) : Val → Option (Option Nat × Nat × (Nat → Nat → Val))
  | .view k n c => some (some k, n, c)
  | .nils => some (none, 0, fun _ _ => .und)
  | .own b => match bget bx b with | some (.row _ k n c) => some (some k, n, c) | _ => none
  | _ => none
def params : Nat → List Val → Fr
  | _, [] => []
  | t, v :: l => (t, v) :: params (t + 1) l

/-- v may stand where v' is said -/
def vsubP : Val → Val → Prop
  | .und, _ => True
  | .cons h t, v => ∃ h' t', v = .cons h' t' ∧ vsubP h h' ∧ vsubP t t'
  | .agg l, v => ∃ l', v = .agg l' ∧ vsubP l l'
  | .tup l, v => ∃ l', v = .tup l' ∧ vsubP l l'
  | .func fn l, v => ∃ l', v = .func fn l' ∧ vsubP l l'
  | .view k n c, v => (v = .nils ∧ n = 0) ∨ ∃ c', v = .view k n c' ∧ ∀ i, i < n → ∀ j, j < k → vsubP (c i j) (c' i j)
  | .vptr m c, v => ∃ c', v = .vptr m c' ∧ ∀ j, j < m → vsubP (c j) (c' j)
  | .mview kd has f, v => ∃ has' f', v = .mview kd has' f' ∧ ∀ k, has' k = has k ∧ (has k = true → vsubP (f k) (f' k))
  | u, v => v = u
/-- the same; boxes of N are nil slices still, and only boxes of D may be named -/
def vsub (N D : Nat → Prop) : Val → Val → Prop
  | .und, _ => True
  | .own b, v => (v = .own b ∧ D b) ∨ (v = .nils ∧ N b)
  | .ptr b off, v => v = .ptr b off ∧ D b
  | .rptr b i off, v => v = .rptr b i off ∧ D b
  | .mapb b, v => v = .mapb b ∧ D b
  | .yld b, v => v = .yld b ∧ D b
  | .cons h t, v => ∃ h' t', v = .cons h' t' ∧ vsub N D h h' ∧ vsub N D t t'
  | .agg l, v => ∃ l', v = .agg l' ∧ vsub N D l l'
  | .tup l, v => ∃ l', v = .tup l' ∧ vsub N D l l'
  | .func fn l, v => ∃ l', v = .func fn l' ∧ vsub N D l l'
  | .view k n c, v => (v = .nils ∧ n = 0) ∨ ∃ c', v = .view k n c' ∧ ∀ i, i < n → ∀ j, j < k → vsubP (c i j) (c' i j)
  | .vptr m c, v => ∃ c', v = .vptr m c' ∧ ∀ j, j < m → vsubP (c j) (c' j)
  | .mview kd has f, v => ∃ has' f', v = .mview kd has' f' ∧ ∀ k, has' k = has k ∧ (has k = true → vsubP (f k) (f' k))
  | u, v => v = u
def chkFr (N D : Nat → Prop) (fr : Fr) : Fr → Prop
  | [] => True
  | (t, v) :: l => vsub N D v (fget fr t) ∧ chkFr N D fr l
def chkBx1 (N D : Nat → Prop) : Option Box → Box → Prop
  | some (.cells l), .cells l' => isLB l' = true ∧ vsub N D l' l
  | some (.row e k n c), .row e' k' n' c' => e = e' ∧ k = k' ∧ n = n' ∧ ∀ i, i < n → ∀ j, j < k → vsubP (c' i j) (c i j)
  | some (.mp kd has f), .mp kd' has' f' => kd = kd' ∧ ∀ k, has' k = has k ∧ (has k = true → vsub N D (f' k) (f k))
  | some (.lp g fr ps ca cb st), .lp g' fr' ps' ca' cb' st' => g = g' ∧ ps = ps' ∧ ca = ca' ∧ cb = cb' ∧ st = st' ∧ chkFr N D fr fr'
  | none, .row _ k n _ => n = 0 ∧ 0 < k
  | _, _ => False
def chkBx (N D : Nat → Prop) (bx : Bx) : Bx → Prop
  | [] => True
  | (b, c) :: l => chkBx1 N D (bget bx b) c ∧ chkBx N D bx l
def hasB (bx : Bx) (b : Nat) : Prop := ∃ c, bget bx b = some c
def newIn (bx bx' : Bx) (b : Nat) : Prop := bget bx b = none ∧ ∃ c, bget bx' b = some c
def idsLt (nx : Nat) : Bx → Prop
  | [] => True
  | (b, _) :: l => b < nx ∧ idsLt nx l
def kept (nx : Nat) (bx' : Bx) : Bx → Prop
  | [] => True
  | (b, _) :: l => (b < nx → ∃ c, bget bx' b = some c) ∧ kept nx bx' l
/-- a state may stand where fr', bx' are said -/
def Chk (fr : Fr) (bx : Bx) (fr' : Fr) (bx' : Bx) (nx nx' : Nat) : Prop :=
  chkFr (newIn bx bx') (hasB bx') fr fr' ∧ chkBx (newIn bx bx') (hasB bx') bx bx' ∧ idsLt nx' bx' ∧ kept nx bx' bx
def stkFr : List SFrame → List Fr
  | [] => []
  | f :: l => f.fr :: stkFr l

variable (E : Env) (Q : Val → Bx → Prop)
/-- own slices among some values are seen as views from here on -/
def frz : List Nat → Fr × Bx × List SFrame → Option (Fr × Bx × List SFrame)
  | [], s => some s
  | b :: l, (fr, bx, stk) => match bget bx b with
    | some (.row _ k n c) => frz l (subFr b (.view k n c) fr, subBx b (.view k n c) (bdel bx b), subStk b (.view k n c) stk)
    | none => frz l (fr, bx, stk)
    | _ => none
def opOwns (fr : Fr) : AOp → List Nat
  | .bsl _ _ _ _ parts => parts.flatMap fun p => owns (ev E fr p.2)
  | _ => []
def skipOp (fr : Fr) : Option (Nat × Bool) → Option Bool
  | none => some false
  | some (t, w) => match fget fr t with | .bool b => some (b != w) | .tup .nil => some true | _ => none

/-- a loop: some states stand at its head, and a round leads from one to a lower one, or on -/
def LoopP (R : List Item → List SFrame → List ARes → Fr → Bx → Nat → Prop) (c : ACode) (K : List Item) (stk : List SFrame) (res : List ARes) (fr : Fr) (bx : Bx) (nx : Nat) : Prop :=
    ∃ d : Nat, ∃ T : Nat → Fr → Bx → Prop, (∃ m fr' bx', T m fr' bx' ∧ Chk fr bx fr' bx' nx (nx + d)) ∧
      ∀ m fr' bx', T m fr' bx' → R (.code c :: .inv (fun s fr1 bx1 => s = stkFr stk ∧ ∃ m', m' < m ∧ ∃ fr'' bx'', T m' fr'' bx'' ∧ Chk fr1 bx1 fr'' bx'' nx (nx + d)) :: K) stk res fr' bx' (nx + d)
def dstV (fr : Fr) : Option Nat → Val → Prop
  | none, _ => True
  | some t, v => v = fget fr t
noncomputable def reOk (fr : Fr) (bx : Bx) : List (Option Nat × AOp × Option (Nat × Bool)) → Prop
  | [] => True
  | (d, op, g) :: l => (match skipOp fr g with
    | some true => True
    | some false => (aop E fr bx 0 op).pre ∧ dstV fr d (aop E fr bx 0 op).v
    | none => False) ∧ reOk fr bx l
/-- a round ends -/
def RoundP (R : List Item → List SFrame → List ARes → Fr → Bx → Nat → Prop) (b g : Nat) (st : Lst) (v : Bool) (stk : List SFrame) (bx : Bx) (nx : Nat) : Prop := match bget bx b with
  | some (.lp g' fr ps ca cb .busy) => g' = g ∧ match stk with
    | [] => False
    | f :: stk => R f.K stk f.res (fput f.fr f.d (.bool v)) (bset bx b (.lp g fr ps ca cb st)) nx
  | _ => False
/-- the round around lies there -/
def roundIn (bx : Bx) : Option (Nat × Nat) → Prop
  | none => True
  | some (b, g) => match bget bx b with
    | some (.lp g' _ _ _ _ _) => g' = g
    | _ => False
noncomputable def run : Nat → List Item → List SFrame → List ARes → Fr → Bx → Nat → Prop
  | 0, _, _, _, _, _, _ => False
  | n + 1, [], stk, res, fr, bx, nx => match resV fr bx res with
    | (p, v) => p ∧ match stk with
      | [] => Q v bx
      | f :: stk => run n f.K stk f.res (fput f.fr f.d v) bx nx
  | n + 1, .code .ret :: K, stk, res, fr, bx, nx => match ends K with
    | some (b, g) => asgB K = false ∧ RoundP (run n) b g (.done .ret) false stk bx nx
    | none => match resV fr bx res with
    | (p, v) => p ∧ match stk with
      | [] => Q v bx
      | f :: stk => run n f.K stk f.res (fput f.fr f.d v) bx nx
  | n + 1, .code .skip :: K, stk, res, fr, bx, nx => run n K stk res fr bx nx
  | n + 1, .code (.seq a b) :: K, stk, res, fr, bx, nx => run n (.code a :: .code b :: K) stk res fr bx nx
  | n + 1, .code (.block id a) :: K, stk, res, fr, bx, nx => run n (.code a :: .blk id :: K) stk res fr bx nx
  | n + 1, .code (.scope a) :: K, stk, res, fr, bx, nx => run n (.code a :: K) stk res fr bx nx
  | n + 1, .blk _ :: K, stk, res, fr, bx, nx => run n K stk res fr bx nx
  | n + 1, .code (.exit id) :: K, stk, res, fr, bx, nx => match popTo id K with
    | some K' => run n K' stk res fr bx nx
    | none => match ends K with
      | some (b, g) => asgB K = false ∧ RoundP (run n) b g (.done (.exit id)) false stk bx nx
      | none => False
  | n + 1, .code (.rng f ps ks ca cb) :: K, stk, res, fr, bx, nx => roundIn bx (ends K) ∧ match ev E fr f with
    | .func (.func id) caps => match E.I id with
      | some af => isLB caps = true ∧ ∀ g : Nat, run n [.code af.code] (⟨none, .lend nx g :: K, res, fr, nx + 1⟩ :: stk) af.res (params 0 (.yld nx :: capsL caps)) ((nx, .lp g (keepS ks fr) ps ca cb .ready) :: bx) (nx + 1)
      | none => False
    | _ => False
  | n + 1, .lend b g :: K, stk, res, fr, bx, nx => match bget bx b with
    | some (.lp g' _ _ _ _ st) => g' = g ∧ match st with
      | .ready => run n K (subStk b .und stk) res (subFr b .und fr) (subBx b .und (bdel bx b)) nx
      | .busy => False
      | .over => False
      | .done c => run n (.code c.acode :: K) (subStk b .und stk) res (subFr b .und fr) (subBx b .und (bdel bx b)) nx
    | _ => False
  | n + 1, .rbeg b g :: K, stk, res, fr, bx, nx => match bget bx b with
    | some (.lp g' fr' ps ca cb .ready) => g' = g ∧ run n K stk res fr (bset bx b (.lp g fr' ps ca cb .busy)) nx
    | _ => False
  | n + 1, .rend b g :: _, stk, _, _, bx, nx => RoundP (run n) b g .ready true stk bx nx
  | n + 1, .code (.cond c a b) :: K, stk, res, fr, bx, nx => match ev E fr c with
    | .bool t => (t = true → run n (.code a :: K) stk res fr bx nx) ∧ (t = false → run n (.code b :: K) stk res fr bx nx)
    | _ => False
  | n + 1, .code (.loop c) :: K, stk, res, fr, bx, nx =>
    LoopP (run n) c K stk res fr bx nx
  | _ + 1, .inv J :: _, stk, _, fr, bx, _ => J (stkFr stk) fr bx
  | n + 1, .code (.reg d l) :: K, stk, res, fr, bx, nx => run n (.ops d l :: K) stk res fr bx nx
  | n + 1, .ops _ [] :: K, stk, res, fr, bx, nx => run n K stk res fr bx nx
  | n + 1, .ops d (o :: l) :: K, stk, res, fr, bx, nx => match skipOp fr o.guard with
    | none => False
    | some true => run n (.ops (d - 1) l :: K) stk res (fput fr o.dst (.tup .nil)) bx nx
    | some false => match d, o.op with
      | d, .store m a x => match ev E fr a with
        | .ptr b off => match bget bx b with
          | some (.cells c) => cellsN m (ev E fr x) ∧ onesB (cellsOf (ev E fr x)) = true ∧ off + m ≤ vlen c ∧ reOk E (fput fr o.dst .und) (bset bx b (.cells (vsets c off (cellsOf (ev E fr x))))) o.re ∧ run n (.ops (d - 1) l :: K) stk res (fput fr o.dst .und) (bset bx b (.cells (vsets c off (cellsOf (ev E fr x))))) nx
          | _ => False
        | .rptr b i off => match bget bx b with
          | some (.row e k m' c) => cellsN m (ev E fr x) ∧ onesB (cellsOf (ev E fr x)) = true ∧ pureB (ev E fr x) = true ∧ off + m ≤ k ∧
              reOk E (fput fr o.dst .und) (bset bx b (.row e k m' fun i' j' => if i' = i ∧ off ≤ j' ∧ j' < off + m then vget (cellsOf (ev E fr x)) (j' - off) else c i' j')) o.re ∧
              run n (.ops (d - 1) l :: K) stk res (fput fr o.dst .und) (bset bx b (.row e k m' fun i' j' => if i' = i ∧ off ≤ j' ∧ j' < off + m then vget (cellsOf (ev E fr x)) (j' - off) else c i' j')) nx
          | _ => False
        | _ => False
      | d, .app e k bytes x y => match elemsV bx (ev E fr y) with
        | none => False
        | some (k', m, c') => (k' = some k ∨ k' = none) ∧ 0 < k ∧ match ev E fr x with
          | .nils => m ≤ maxLen ∧ m * bytes ≤ 140737488355328 ∧ reOk E (fput fr o.dst (.own nx)) ((nx, .row e k m c') :: bx) o.re ∧ run n (.ops (d - 1) l :: K) stk res (fput fr o.dst (.own nx)) ((nx, .row e k m c') :: bx) (nx + 1)
          | .own b => match bget bx b with
            | some (.row e' k'' n' c) => e' = e ∧ k'' = k ∧ n' + m ≤ maxLen ∧ (n' + m) * bytes ≤ 140737488355328 ∧
                reOk E (fput (subFr b .und fr) o.dst (.own b)) (bset (subBx b .und bx) b (.row e k (n' + m) fun i j => if i < n' then c i j else c' (i - n') j)) o.re ∧
                run n (.ops (d - 1) l :: K) (subStk b .und stk) res (fput (subFr b .und fr) o.dst (.own b)) (bset (subBx b .und bx) b (.row e k (n' + m) fun i j => if i < n' then c i j else c' (i - n') j)) nx
            | _ => False
          | _ => False
      | d, .mset kd m k v => match ev E fr m, ev E fr k with
        | .mapb b, .int kk z => match bget bx b with
          | some (.mp kd' has f) => kd' = kd ∧ kk = kd ∧
              reOk E (fput fr o.dst .und) (bset bx b (.mp kd (fun j => if j = z then true else has j) fun j => if j = z then ev E fr v else f j)) o.re ∧
              run n (.ops (d - 1) l :: K) stk res (fput fr o.dst .und) (bset bx b (.mp kd (fun j => if j = z then true else has j) fun j => if j = z then ev E fr v else f j)) nx
          | _ => False
        | _, _ => False
      | 0, op => match op, frz (opOwns E fr op) (fr, bx, stk) with
        | .call f args, _ => match ev E fr f with
          | .func (.func id) caps => match E.S id with
            | some s => match specV bx s args (argsL E fr args ++ capsL caps) with
              | ⟨p, v, _⟩ => (isLB caps = true ∧ p) ∧ (WfT v → run n (.ops 0 l :: K) stk res (fput fr o.dst v) bx nx)
            | none => match E.I id with
              | some af => isLB caps = true ∧ run n [.code af.code] (⟨o.dst, .ops 0 l :: K, res, fr, nx⟩ :: stk) af.res (params 0 (argsL E fr args ++ capsL caps)) bx nx
              | none => False
          | .yld b => match bget bx b with
            | some (.lp g fr' ps ca cb .ready) => ps.length = args.length ∧ run n [.code ca, .rbeg b g, .code cb, .rend b g] (⟨o.dst, .ops 0 l :: K, res, fr, nx⟩ :: stk) [] (putL fr' ps (argsL E fr args)) bx nx
            | _ => False
          | _ => False
        | _, none => False
        | _, some (fr, bx, stk) => match aop E fr bx nx op with
          | ⟨p, v, new⟩ => p ∧ (WfT v → match o.br with
            | false => run n (.ops 0 l :: K) stk res (fput fr o.dst v) (addB nx new bx) (addN nx new)
            | true => match v with
              | .bool t => (t = true → run n (.ops 0 l :: K) stk res (fput fr o.dst (.bool true)) (addB nx new bx) (addN nx new)) ∧ (t = false → run n (.ops 0 l :: K) stk res (fput fr o.dst (.bool false)) (addB nx new bx) (addN nx new))
              | _ => False)
      | d + 1, op => match aop E fr bx nx op with
        | ⟨p, v, new⟩ => p ∧ match o.br with
          | false => run n (.ops d l :: K) stk res (fput fr o.dst v) (addB nx new bx) (addN nx new)
          | true => match v with
            | .bool t => (t = true → run n (.ops d l :: K) stk res (fput fr o.dst (.bool true)) (addB nx new bx) (addN nx new)) ∧ (t = false → run n (.ops d l :: K) stk res (fput fr o.dst (.bool false)) (addB nx new bx) (addN nx new))
            | _ => False
end Go.Proofs.YtbhhcnonooiokaaDoor
