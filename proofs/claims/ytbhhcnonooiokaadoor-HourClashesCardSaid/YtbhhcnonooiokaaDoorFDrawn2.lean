/- The engine, part 20b: a region whose order is drawn: what the checked order gives, step by step. No condition. -/
import Derived.Test.YtbhhcnonooiokaaDoorFDrawn
namespace Go.Proofs.YtbhhcnonooiokaaDoor
open Go Go.RowKit
variable {P : Program} {E : Env} {A0 : Nat → Prop} {w0 : World} {Qf : Val → Bx → Prop}

theorem cOpers_get {ops : List Oper} {nt : Nat} : ∀ (q : List Oper) (l : List AOper), cOpers P ops nt q = some l → l.length = q.length ∧ ∀ (i : Nat) (o : Oper), q[i]? = some o → ∃ ao, l[i]? = some ao ∧ cOper P ops nt o = some ao := by
  intro q; induction q with
  | nil => intro l h; simp [cOpers] at h; subst h; exact ⟨rfl, fun i o h => by simp at h⟩
  | cons o q ih =>
    intro l h
    simp only [cOpers] at h
    split at h
    · rename_i a r h1 h2
      simp at h; subst h
      obtain ⟨e1, e2⟩ := ih r h2
      refine ⟨by simp [e1], fun i o' ho => ?_⟩
      cases i with
      | zero => simp at ho; subst ho; exact ⟨a, rfl, h1⟩
      | succ i => exact e2 i o' (by simpa using ho)
    · cases h
theorem mem_ready {ops : Array Oper} {listed : Array Bool} {i : Nat} : i ∈ Region.ready .any ops listed ↔ i < ops.size ∧ listed.getD i true = false ∧ ∃ o, ops[i]? = some o ∧ ∀ e ∈ o.after.toList, Region.binds .any e = true → listed.getD e.on false = true := by
  unfold Region.ready
  simp only [List.mem_filter, List.mem_range, Bool.and_eq_true, Bool.not_eq_true']
  constructor
  · rintro ⟨h1, h2, h3⟩
    refine ⟨h1, h2, ops[i], Array.getElem?_eq_getElem h1, fun e he hb => ?_⟩
    rw [Array.getElem?_eq_getElem h1] at h3
    simp only [Option.map_some, Option.getD_some] at h3
    have := (Array.all_eq_true'.1 h3) e (Array.mem_toList_iff.1 he)
    simpa [hb] using this
  · rintro ⟨h1, h2, o, ho, h3⟩
    refine ⟨h1, h2, ?_⟩
    rw [ho]
    simp only [Option.map_some, Option.getD_some]
    refine Array.all_eq_true'.2 fun e he => ?_
    cases hb : Region.binds .any e
    · rfl
    · simpa [hb] using h3 e (Array.mem_toList_iff.2 he) hb
def cnt (listed : Array Bool) (N : Nat) : Nat := (List.range N).countP fun k => !listed.getD k false
theorem cnt_set {listed : Array Bool} {i : Nat} (hi : i < listed.size) (hl : listed.getD i false = false) : ∀ N, cnt (listed.setIfInBounds i true) N + (if i < N then 1 else 0) = cnt listed N := by
  intro N; induction N with
  | zero => simp [cnt]
  | succ N ih =>
    simp only [cnt, List.range_succ, List.countP_append, List.countP_singleton] at ih ⊢
    have hg : ∀ k, (listed.setIfInBounds i true).getD k false = if k = i then true else listed.getD k false := by
      intro k
      simp only [Array.getD_eq_getD_getElem?]
      by_cases h : k = i
      · subst h; simp [hi]
      · rw [if_neg h, Array.getElem?_setIfInBounds_ne (fun e => h e.symm)]
    rw [hg N]
    generalize List.countP (fun k => !(listed.setIfInBounds i true).getD k false) (List.range N) = c1 at *
    generalize List.countP (fun k => !listed.getD k false) (List.range N) = c0 at *
    by_cases h : N = i
    · subst h
      rw [if_neg (Nat.lt_irrefl _)] at ih
      rw [if_pos rfl, hl, if_pos (Nat.lt_succ_self _)]
      simp
      omega
    · rw [if_neg h]
      by_cases h2 : i < N
      · rw [if_pos h2] at ih
        rw [if_pos (show i < N + 1 from by omega)]
        omega
      · rw [if_neg h2] at ih
        rw [if_neg (show ¬ i < N + 1 from by omega)]
        omega
theorem cnt_zero {listed : Array Bool} {N : Nat} (h : cnt listed N = 0) : ∀ k, k < N → listed.getD k false = true := by
  intro k hk
  unfold cnt at h
  rw [List.countP_eq_zero] at h
  have := h k (by simpa using hk)
  simpa using this
theorem aop_nx {fr : Fr} {bx : Bx} {nx nx' : Nat} (op : AOp) (hn : (aop E fr bx nx op).new = none) : aop E fr bx nx' op = aop E fr bx nx op := by
  cases op <;> first | rfl | skip
  case alloc z => simp [aop] at hn
  case mkm kd => simp [aop] at hn
  case box n x => simp [aop] at hn
  case bsl e k len z parts => simp [aop] at hn
  case mks e k bytes z n c =>
    cases hv : ev E fr n <;> cases hu : ev E fr c <;> simp only [aop, hv, hu] at hn ⊢
    simp at hn
theorem ev_repB {β : Nat → Loc} {w : World} {B : Bmap} {N : Nat} {a : Act} {fr : Fr} (he : EnvOk P E A0 w0) (hm : Mem P A0 w0 β B N w) {x : Operand} (hf : ∀ t, x = .tmp t → RepM A0 w0 β B w (fget fr t) (a.tmps.getD t undef)) : OpR E A0 w0 β B w fr a x := by
  intro ox hx
  cases x with
  | tmp t => simp [cOpd] at hx; subst hx; exact hf t rfl
  | const v =>
    obtain ⟨u, hu, rfl⟩ := Option.map_eq_some_iff.1 hx
    exact RepP.rep _ _ (cv_rep hu _ _)
  | global g =>
    simp [cOpd] at hx; subst hx
    simp only [ev]
    split
    · rename_i m c hg
      exact RepP.rep _ _ (RepP.mono hm.below.size (fun g hg hA => ⟨⟨.inl hA, fun b c hb e => by have := (hm.base b c g hb e).1; omega⟩, hm.below.block g hg⟩) _ _ (he.G _ _ _ hg))
    · trivial
  | func f => simp [cOpd] at hx; subst hx; exact ⟨[], rfl, rfl⟩

/-! what is read -/
section
variable {fr fr' : Fr} {bx : Bx} {nx : Nat}
theorem ev_congr {x : Opd} (h : ∀ t ∈ rdO x, fget fr t = fget fr' t) : ev E fr x = ev E fr' x := by
  cases x with
  | t n => exact h n (by simp [rdO])
  | c v => rfl
  | g n => rfl
theorem evs_congr : ∀ {l : List Opd}, (∀ t ∈ rdOs l, fget fr t = fget fr' t) → evs E fr l = evs E fr' l := by
  intro l; induction l with
  | nil => intro _; rfl
  | cons x l ih =>
    intro h
    simp only [rdOs, List.flatMap_cons, List.mem_append] at h
    simp only [evs]
    rw [ev_congr fun t ht => h t (.inl ht), ih fun t ht => h t (.inr ht)]
theorem fillV_congr : ∀ {l : List (Nat × Nat × Opd)} {z : Val}, (∀ t ∈ l.flatMap (fun p => rdO p.2.2), fget fr t = fget fr' t) → fillV E fr z l = fillV E fr' z l := by
  intro l; induction l with
  | nil => intro z _; rfl
  | cons x l ih =>
    obtain ⟨off, n, x⟩ := x
    intro z h
    simp only [List.flatMap_cons, List.mem_append] at h
    simp only [fillV]
    rw [ev_congr (x := x) fun t ht => h t (.inl ht), ih fun t ht => h t (.inr ht)]
theorem fillOk_congr {len : Nat} : ∀ {l : List (Nat × Nat × Opd)}, (∀ t ∈ l.flatMap (fun p => rdO p.2.2), fget fr t = fget fr' t) → fillOk E fr len l = fillOk E fr' len l := by
  intro l; induction l with
  | nil => intro _; rfl
  | cons x l ih =>
    obtain ⟨off, n, x⟩ := x
    intro h
    simp only [List.flatMap_cons, List.mem_append] at h
    simp only [fillOk]
    rw [ev_congr (x := x) fun t ht => h t (.inl ht), ih fun t ht => h t (.inr ht)]
theorem rowsV_congr : ∀ {l : List (Nat × Opd)} {z : Val}, (∀ t ∈ l.flatMap (fun p => rdO p.2), fget fr t = fget fr' t) → rowsV E fr z l = rowsV E fr' z l := by
  intro l; induction l with
  | nil => intro z _; rfl
  | cons x l ih =>
    obtain ⟨off, x⟩ := x
    intro z h
    simp only [List.flatMap_cons, List.mem_append] at h
    simp only [rowsV]
    rw [ev_congr (x := x) fun t ht => h t (.inl ht), ih fun t ht => h t (.inr ht)]
theorem rowsOk_congr {k len : Nat} : ∀ {l : List (Nat × Opd)}, (∀ t ∈ l.flatMap (fun p => rdO p.2), fget fr t = fget fr' t) → rowsOk E fr k len l = rowsOk E fr' k len l := by
  intro l; induction l with
  | nil => intro _; rfl
  | cons x l ih =>
    obtain ⟨off, x⟩ := x
    intro h
    simp only [List.flatMap_cons, List.mem_append] at h
    simp only [rowsOk]
    rw [ev_congr (x := x) fun t ht => h t (.inl ht), ih fun t ht => h t (.inr ht)]
theorem argsL_congr : ∀ {l : List (List Sh × Opd)}, (∀ t ∈ l.flatMap (fun p => rdO p.2), fget fr t = fget fr' t) → argsL E fr l = argsL E fr' l := by
  intro l; induction l with
  | nil => intro _; rfl
  | cons x l ih =>
    obtain ⟨off, x⟩ := x
    intro h
    simp only [List.flatMap_cons, List.mem_append] at h
    simp only [argsL]
    rw [ev_congr (x := x) fun t ht => h t (.inl ht), ih fun t ht => h t (.inr ht)]
theorem optInt_congr {d : Int} {x : Option Opd} (h : ∀ t ∈ (match x with | some y => rdO y | none => []), fget fr t = fget fr' t) : optInt E fr d x = optInt E fr' d x := by
  cases x with
  | none => rfl
  | some x => simp only [optInt]; rw [ev_congr (x := x) fun t ht => h t ht]
theorem aop_congr (op : AOp) (h : ∀ t ∈ rdA op, fget fr t = fget fr' t) : aop E fr bx nx op = aop E fr' bx nx op := by
  cases op <;> simp only [rdA, List.mem_append, List.not_mem_nil] at h <;> simp only [aop] <;> first
    | rfl
    | (rename_i x; rw [ev_congr (x := x) h]; done)
    | skip
  case pick c a b => rw [ev_congr (x := c) fun t ht => h t (.inl (.inl ht)), ev_congr (x := a) fun t ht => h t (.inl (.inr ht)), ev_congr (x := b) fun t ht => h t (.inr ht)]
  case build z l => rw [fillV_congr h, fillOk_congr h]
  case bsl e k len z l => rw [rowsV_congr h, rowsOk_congr h]
  case bin op x y => rw [ev_congr (x := x) fun t ht => h t (.inl ht), ev_congr (x := y) fun t ht => h t (.inr ht)]
  case binb op x y => rw [ev_congr (x := x) fun t ht => h t (.inl ht), ev_congr (x := y) fun t ht => h t (.inr ht)]
  case eqa neg s x y => rw [ev_congr (x := x) fun t ht => h t (.inl ht), ev_congr (x := y) fun t ht => h t (.inr ht)]
  case mkf fn l => rw [evs_congr h]
  case idx k x y => rw [ev_congr (x := x) fun t ht => h t (.inl ht), ev_congr (x := y) fun t ht => h t (.inr ht)]
  case idxA k n x y => rw [ev_congr (x := x) fun t ht => h t (.inl ht), ev_congr (x := y) fun t ht => h t (.inr ht)]
  case sl k x lo hi =>
    rw [ev_congr (x := x) fun t ht => h t (.inl (.inl ht)), optInt_congr fun t ht => h t (.inl (.inr ht))]
    cases ev E fr' x <;> first | rfl | (simp only []; rw [optInt_congr (x := hi) fun t ht => h t (.inr ht)])
  case call f l => rw [ev_congr (x := f) fun t ht => h t (.inl ht), argsL_congr fun t ht => h t (.inr ht)]
  case mm mx x y => rw [ev_congr (x := x) fun t ht => h t (.inl ht), ev_congr (x := y) fun t ht => h t (.inr ht)]
  case mks e k bytes z x y => rw [ev_congr (x := x) fun t ht => h t (.inl ht), ev_congr (x := y) fun t ht => h t (.inr ht)]
  case mget kd ok z x y => rw [ev_congr (x := x) fun t ht => h t (.inl ht), ev_congr (x := y) fun t ht => h t (.inr ht)]
theorem skip_congr {g : Option (Nat × Bool)} (h : ∀ t ∈ gRd g, fget fr t = fget fr' t) : skipOp fr g = skipOp fr' g := by
  cases g with
  | none => rfl
  | some p => obtain ⟨t, b⟩ := p; simp only [skipOp]; rw [h t (by simp [gRd])]
theorem specV_new (s : Spec) (l : List (List Sh × Opd)) (vs : List Val) : (specV bx s l vs).new = none := by simp only [specV]; split <;> rfl
theorem aop_mk (op : AOp) (hp : (aop E fr bx nx op).pre) : (∃ c, (aop E fr bx nx op).new = some c) ↔ mkB op = true := by
  cases op <;> simp only [mkB, aop] at hp ⊢ <;> first
    | (simp; done)
    | skip
  case pick => split <;> simp_all
  case load => (repeat' split) <;> simp_all
  case bin => (repeat' split) <;> simp_all [binV_new]
  case binb => (repeat' split) <;> simp_all
  case eqa => (repeat' split) <;> simp_all
  case un => (repeat' split) <;> simp_all
  case conv => (repeat' split) <;> simp_all
  case fld => (repeat' split) <;> simp_all
  case idx => (repeat' split) <;> simp_all
  case idxA => (repeat' split) <;> simp_all
  case sl => (repeat' split) <;> simp_all
  case ext => (repeat' split) <;> simp_all
  case call => (repeat' split) <;> simp_all [specV_new]
  case len => simp only [lenV] at *; (repeat' split) <;> simp_all
  case mm => (repeat' split) <;> simp_all
  case nilc => (repeat' split) <;> simp_all
  case mget => (repeat' split) <;> simp_all
  case mks => (repeat' split) <;> simp_all
end

/-- one step in the checked order -/
inductive StepA (E : Env) (ao : AOper) (fr : Fr) (bx : Bx) (nx : Nat) (stk : List SFrame) : Fr → Bx → Nat → List SFrame → Prop
  | skip : skipOp fr ao.guard = some true → StepA E ao fr bx nx stk (fput fr ao.dst (.tup .nil)) bx nx stk
  | soft : skipOp fr ao.guard = some false → softA ao.op = true → (aop E fr bx nx ao.op).pre → StepA E ao fr bx nx stk (fput fr ao.dst (aop E fr bx nx ao.op).v) (addB nx (aop E fr bx nx ao.op).new bx) (addN nx (aop E fr bx nx ao.op).new) stk
  | store {m a x b off c} : skipOp fr ao.guard = some false → ao.op = .store m a x → ev E fr a = .ptr b off → bget bx b = some (.cells c) → cellsN m (ev E fr x) → onesB (cellsOf (ev E fr x)) = true → off + m ≤ vlen c →
      reOk E (fput fr ao.dst .und) (bset bx b (.cells (vsets c off (cellsOf (ev E fr x))))) ao.re → StepA E ao fr bx nx stk (fput fr ao.dst .und) (bset bx b (.cells (vsets c off (cellsOf (ev E fr x))))) nx stk
  | storeR {m a x b i off e k m' c} : skipOp fr ao.guard = some false → ao.op = .store m a x → ev E fr a = .rptr b i off → bget bx b = some (.row e k m' c) → cellsN m (ev E fr x) → onesB (cellsOf (ev E fr x)) = true → pureB (ev E fr x) = true → off + m ≤ k →
      reOk E (fput fr ao.dst .und) (bset bx b (.row e k m' fun i' j' => if i' = i ∧ off ≤ j' ∧ j' < off + m then vget (cellsOf (ev E fr x)) (j' - off) else c i' j')) ao.re →
      StepA E ao fr bx nx stk (fput fr ao.dst .und) (bset bx b (.row e k m' fun i' j' => if i' = i ∧ off ≤ j' ∧ j' < off + m then vget (cellsOf (ev E fr x)) (j' - off) else c i' j')) nx stk
  | appN {e k bytes x y k' m c'} : skipOp fr ao.guard = some false → ao.op = .app e k bytes x y → elemsV bx (ev E fr y) = some (k', m, c') → (k' = some k ∨ k' = none) → 0 < k → ev E fr x = .nils → m ≤ maxLen → m * bytes ≤ 140737488355328 →
      reOk E (fput fr ao.dst (.own nx)) ((nx, .row e k m c') :: bx) ao.re → StepA E ao fr bx nx stk (fput fr ao.dst (.own nx)) ((nx, .row e k m c') :: bx) (nx + 1) stk
  | appO {e k bytes x y k' m c' b n' c} : skipOp fr ao.guard = some false → ao.op = .app e k bytes x y → elemsV bx (ev E fr y) = some (k', m, c') → (k' = some k ∨ k' = none) → 0 < k → ev E fr x = .own b → bget bx b = some (.row e k n' c) → n' + m ≤ maxLen → (n' + m) * bytes ≤ 140737488355328 →
      reOk E (fput (subFr b .und fr) ao.dst (.own b)) (bset (subBx b .und bx) b (.row e k (n' + m) fun i j => if i < n' then c i j else c' (i - n') j)) ao.re →
      StepA E ao fr bx nx stk (fput (subFr b .und fr) ao.dst (.own b)) (bset (subBx b .und bx) b (.row e k (n' + m) fun i j => if i < n' then c i j else c' (i - n') j)) nx (subStk b .und stk)
  | mset {kd m k v b z has f} : skipOp fr ao.guard = some false → ao.op = .mset kd m k v → ev E fr m = .mapb b → ev E fr k = .int kd z → bget bx b = some (.mp kd has f) →
      reOk E (fput fr ao.dst .und) (bset bx b (.mp kd (fun j => if j = z then true else has j) fun j => if j = z then ev E fr v else f j)) ao.re →
      StepA E ao fr bx nx stk (fput fr ao.dst .und) (bset bx b (.mp kd (fun j => if j = z then true else has j) fun j => if j = z then ev E fr v else f j)) nx stk
theorem trace2 {n : Nat} : ∀ (d : Nat) (m : Nat) (l : List AOper) (K : List Item) (stk : List SFrame) (res : List ARes) (fr : Fr) (bx : Bx) (nx : Nat), m ≤ n → d ≤ l.length → run E Qf m (.ops d l :: K) stk res fr bx nx →
    ∃ (FR : Nat → Fr) (BX : Nat → Bx) (NX : Nat → Nat) (ST : Nat → List SFrame), FR 0 = fr ∧ BX 0 = bx ∧ NX 0 = nx ∧ ST 0 = stk ∧
      (∀ i o, i < d → l[i]? = some o → StepA E o (FR i) (BX i) (NX i) (ST i) (FR (i + 1)) (BX (i + 1)) (NX (i + 1)) (ST (i + 1))) ∧
      ∃ m', m' ≤ n ∧ run E Qf m' (.ops 0 (l.drop d) :: K) (ST d) res (FR d) (BX d) (NX d) := by
  intro d
  induction d with
  | zero => intro m l K stk res fr bx nx hm _ h; exact ⟨fun _ => fr, fun _ => bx, fun _ => nx, fun _ => stk, rfl, rfl, rfl, rfl, fun i o hi => by omega, m, hm, h⟩
  | succ d ih =>
    intro m l K stk res fr bx nx hm hd h
    cases l with
    | nil => simp at hd
    | cons o l =>
      cases m with
      | zero => simp [run] at h
      | succ m =>
        have hcons : ∀ fr1 bx1 nx1 stk1, StepA E o fr bx nx stk fr1 bx1 nx1 stk1 → run E Qf m (.ops d l :: K) stk1 res fr1 bx1 nx1 → ∃ (FR : Nat → Fr) (BX : Nat → Bx) (NX : Nat → Nat) (ST : Nat → List SFrame), FR 0 = fr ∧ BX 0 = bx ∧ NX 0 = nx ∧ ST 0 = stk ∧
            (∀ i o', i < d + 1 → (o :: l)[i]? = some o' → StepA E o' (FR i) (BX i) (NX i) (ST i) (FR (i + 1)) (BX (i + 1)) (NX (i + 1)) (ST (i + 1))) ∧
            ∃ m', m' ≤ n ∧ run E Qf m' (.ops 0 ((o :: l).drop (d + 1)) :: K) (ST (d + 1)) res (FR (d + 1)) (BX (d + 1)) (NX (d + 1)) := by
          intro fr1 bx1 nx1 stk1 h0 hrun
          obtain ⟨FR, BX, NX, ST, e1, e2, e3, e4, hst, m', hm', hr⟩ := ih m l K stk1 res _ _ _ (by omega) (by simpa using hd) hrun
          refine ⟨fun | 0 => fr | i + 1 => FR i, fun | 0 => bx | i + 1 => BX i, fun | 0 => nx | i + 1 => NX i, fun | 0 => stk | i + 1 => ST i, rfl, rfl, rfl, rfl, fun i o' hi ho => ?_, m', hm', hr⟩
          cases i with
          | zero => simp at ho; subst ho; simp only [e1, e2, e3, e4]; exact h0
          | succ i => exact hst i o' (by omega) (by simpa using ho)
        cases hskip : skipOp fr o.guard with
        | none => simp only [run, hskip] at h
        | some s =>
          cases s with
          | true =>
            simp only [run, hskip] at h
            exact hcons _ _ _ _ (.skip hskip) h
          | false =>
            have soft : ∀ op, o.op = op → softA op = true → ((aop E fr bx nx op).pre ∧ match o.br with
                | false => run E Qf m (.ops d l :: K) stk res (fput fr o.dst (aop E fr bx nx op).v) (addB nx (aop E fr bx nx op).new bx) (addN nx (aop E fr bx nx op).new)
                | true => match (aop E fr bx nx op).v with
                  | .bool t => (t = true → run E Qf m (.ops d l :: K) stk res (fput fr o.dst (.bool true)) (addB nx (aop E fr bx nx op).new bx) (addN nx (aop E fr bx nx op).new)) ∧ (t = false → run E Qf m (.ops d l :: K) stk res (fput fr o.dst (.bool false)) (addB nx (aop E fr bx nx op).new bx) (addN nx (aop E fr bx nx op).new))
                  | _ => False) → ∃ (FR : Nat → Fr) (BX : Nat → Bx) (NX : Nat → Nat) (ST : Nat → List SFrame), FR 0 = fr ∧ BX 0 = bx ∧ NX 0 = nx ∧ ST 0 = stk ∧
            (∀ i o', i < d + 1 → (o :: l)[i]? = some o' → StepA E o' (FR i) (BX i) (NX i) (ST i) (FR (i + 1)) (BX (i + 1)) (NX (i + 1)) (ST (i + 1))) ∧
            ∃ m', m' ≤ n ∧ run E Qf m' (.ops 0 ((o :: l).drop (d + 1)) :: K) (ST (d + 1)) res (FR (d + 1)) (BX (d + 1)) (NX (d + 1)) := by
              rintro op rfl hs ⟨hp, h'⟩
              refine hcons _ _ _ _ (.soft hskip hs hp) ?_
              cases hbr : o.br
              · simp only [hbr] at h'; exact h'
              · simp only [hbr] at h'
                split at h'
                · rename_i t ht
                  rw [ht]
                  cases t
                  · exact h'.2 rfl
                  · exact h'.1 rfl
                · exact h'.elim
            cases hop : o.op with
            | store m0 a x =>
              simp only [run, hskip, hop] at h
              split at h
              · rename_i b off hv
                split at h
                · rename_i c hb
                  obtain ⟨q1, q2, q3, q4, h⟩ := h
                  exact hcons _ _ _ _ (.store hskip hop hv hb q1 q2 q3 q4) h
                · exact h.elim
              · rename_i b i off hv
                split at h
                · rename_i e k m' c hb
                  obtain ⟨q1, q2, q3, q4, q5, h⟩ := h
                  exact hcons _ _ _ _ (.storeR hskip hop hv hb q1 q2 q3 q4 q5) h
                · exact h.elim
              · exact h.elim
            | app e k bytes x y =>
              simp only [run, hskip, hop] at h
              split at h
              · exact h.elim
              · rename_i k' m' c' hel
                obtain ⟨q1, q2, h⟩ := h
                split at h
                · rename_i hv
                  obtain ⟨q3, q4, q5, h⟩ := h
                  exact hcons _ _ _ _ (.appN hskip hop hel q1 q2 hv q3 q4 q5) h
                · rename_i b hv
                  split at h
                  · rename_i e' k'' n' c hb
                    obtain ⟨rfl, rfl, q3, q4, q5, h⟩ := h
                    exact hcons _ _ _ _ (.appO hskip hop hel q1 q2 hv hb q3 q4 q5) h
                  · exact h.elim
                · exact h.elim
            | mset kd m0 k v =>
              simp only [run, hskip, hop] at h
              split at h
              · rename_i b kk z hv hk
                split at h
                · rename_i kd' has f hb
                  obtain ⟨rfl, rfl, q3, h⟩ := h
                  exact hcons _ _ _ _ (.mset hskip hop hv hk hb q3) h
                · exact h.elim
              · exact h.elim
            | _ => simp only [run, hskip, hop] at h; exact soft _ hop rfl h
end Go.Proofs.YtbhhcnonooiokaaDoor
