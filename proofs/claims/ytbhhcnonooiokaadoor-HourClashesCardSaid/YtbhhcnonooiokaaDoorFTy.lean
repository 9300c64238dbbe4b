/- The engine, part 23: types of values, and specs by types. No condition. -/
import Derived.Test.YtbhhcnonooiokaaDoorFFun
namespace Go.Proofs.YtbhhcnonooiokaaDoor
open Go Go.RowKit
variable {P : Program} {E : Env} {A0 : Nat → Prop} {w0 : World} {Qf : Val → Bx → Prop}

structure VT (α : Type) where
  Is : Val → Prop
  of : Val → α
  enc : α → Val
  h1 : ∀ v, Is v → vsubP (enc (of v)) v
  h2 : ∀ a, of (enc a) = a
/-- types of rows of cells -/
structure RT (α : Type) where
  k : Nat
  W : Nat → (Nat → Nat → Val) → Prop
  D : (Nat → Nat → Val) → Nat → α
  C : α → Nat → Val
  h1 : ∀ n c, W n c → ∀ i, i < n → ∀ j, j < k → vsubP (C (D c i) j) (c i j)
  h2 : ∀ x : Nat → α, D (fun i j => C (x i) j) = x
  w_enc : ∀ (n : Nat) (x : Nat → α), W n (fun i j => C (x i) j)
def IsInt (k : IntKind) : Val → Prop
  | .int k' _ => k = k'
  | _ => False
def IsBool : Val → Prop
  | .bool _ => True
  | _ => False
def TInt (k : IntKind) : VT Int where
  Is := IsInt k
  of := Val.toInt
  enc := fun n => .int k n
  h1 := by intro v h; cases v <;> simp [IsInt] at h; subst h; rfl
  h2 := fun _ => rfl
abbrev TI : VT Int := TInt .i64
def TBool : VT Bool where
  Is := IsBool
  of := Val.toBool
  enc := fun n => .bool n
  h1 := by intro v h; cases v <;> simp [IsBool] at h; rfl
  h2 := fun _ => rfl
def IsSl {α : Type} (R : RT α) : Val → Prop
  | .view k n c => k = R.k ∧ R.W n c
  | _ => False
def TSl {α : Type} (R : RT α) : VT (Nat × (Nat → α)) where
  Is := IsSl R
  of := fun v => (v.slen, R.D v.scell)
  enc := fun p => .view R.k p.1 fun i j => R.C (p.2 i) j
  h1 := by
    intro v h
    cases v <;> simp only [IsSl] at h
    rename_i k n c
    obtain ⟨rfl, h⟩ := h
    simp only [vp_view, Val.slen, Val.scell, true_and]
    exact R.h1 n c h
  h2 := fun p => by simp only [Val.slen, Val.scell]; rw [R.h2]
/-- one-cell rows -/
def RInt (k : IntKind) : RT Int where
  k := 1
  W := fun n c => ∀ i, i < n → c i 0 = .int k (c i 0).toInt
  D := fun c i => (c i 0).toInt
  C := fun x _ => .int k x
  h1 := by intro n c h i hi j hj; obtain rfl : j = 0 := by omega
           rw [h i hi]; rfl
  h2 := fun _ => rfl
  w_enc := fun _ _ _ _ => rfl
def RBool : RT Bool where
  k := 1
  W := fun n c => ∀ i, i < n → c i 0 = .bool (c i 0).toBool
  D := fun c i => (c i 0).toBool
  C := fun x _ => .bool x
  h1 := by intro n c h i hi j hj; obtain rfl : j = 0 := by omega
           rw [h i hi]; rfl
  h2 := fun _ => rfl
  w_enc := fun _ _ _ _ => rfl
theorem RInt_W (k : IntKind) (n : Nat) (x : Nat → Int) : (RInt k).W n (fun i _ => .int k (x i)) = True := eq_true fun _ _ => rfl
theorem RBool_W (n : Nat) (x : Nat → Bool) : RBool.W n (fun i _ => .bool (x i)) = True := eq_true fun _ _ => rfl
/-- rows of slices -/
def RSl {α : Type} (R : RT α) : RT (Nat × (Nat → α)) where
  k := 1
  W := fun n c => ∀ i, i < n → c i 0 = .view R.k (c i 0).slen (c i 0).scell ∧ R.W (c i 0).slen (c i 0).scell
  D := fun c i => ((c i 0).slen, R.D (c i 0).scell)
  C := fun x _ => .view R.k x.1 fun i j => R.C (x.2 i) j
  h1 := by
    intro n c h i hi j hj
    obtain rfl : j = 0 := by omega
    obtain ⟨h1, h2⟩ := h i hi
    rw [h1]
    simp only [vp_view, Val.slen, Val.scell, true_and]
    exact R.h1 _ _ h2
  h2 := fun x => by funext i; simp only [Val.slen, Val.scell]; rw [R.h2]
  w_enc := fun n x i _ => ⟨rfl, R.w_enc _ _⟩

theorem pure_okN {G : Nat → Option (Nat × (Nat → Val))} {S : List (FuncId × Spec)} {I : List (FuncId × AFun)} (hmix : P.follows .mixedOrders = true) (hS : SOk P G S) (hI : IOk P I) {id : FuncId} {fn : Func} {af : AFun} {s : Spec} (hfn : P.funcs[id]? = some fn) (hcf : cFun P fn = some af)
    (h : ∀ vs, s.pre vs → ∃ vs', vsubP (vl vs') (vl vs) ∧ s.res vs' = s.res vs ∧ (WfT (vl vs') → ∃ n, run (mkE G S I) (fun v bx => Fin v bx (s.res vs')) n [.code af.code] [] af.res (params 0 vs') [] 0)) : PureOk P G id s := by
  let s' : Spec := ⟨fun vs' => ∃ n, run (mkE G S I) (fun v bx => Fin v bx (s.res vs')) n [.code af.code] [] af.res (params 0 vs') [] 0, s.res⟩
  have hok : PureOk P G id ⟨fun vs' => WfT (vl vs') → ∃ n, run (mkE G S I) (fun v bx => Fin v bx (s.res vs')) n [.code af.code] [] af.res (params 0 vs') [] 0, s.res⟩ :=
    pure_ok hmix hS hI hfn hcf fun vs hp hw => hp hw
  refine ⟨hok.ent, fun A w vs cs hG hr hp => ?_⟩
  obtain ⟨vs', h1, h2, h3⟩ := h vs hp
  have := hok.run A w vs' cs hG (vsubP_rep _ _ _ h1 hr) h3
  simp only [h2] at this
  exact this
def spec1 {α1 : Type} (t1 : VT α1) (pre : α1 → Prop) (res : α1 → Val) : Spec :=
  ⟨fun | [a] => t1.Is a ∧ pre (t1.of a) | _ => False, fun | [a] => res (t1.of a) | _ => .und⟩
def spec0 (res : Val) : Spec := ⟨fun | [] => True | _ => False, fun _ => res⟩
def spec2 {α1 α2 : Type} (t1 : VT α1) (t2 : VT α2) (pre : α1 → α2 → Prop) (res : α1 → α2 → Val) : Spec :=
  ⟨fun | [a, b] => t1.Is a ∧ t2.Is b ∧ pre (t1.of a) (t2.of b) | _ => False, fun | [a, b] => res (t1.of a) (t2.of b) | _ => .und⟩
def spec3 {α1 α2 α3 : Type} (t1 : VT α1) (t2 : VT α2) (t3 : VT α3) (pre : α1 → α2 → α3 → Prop) (res : α1 → α2 → α3 → Val) : Spec :=
  ⟨fun | [a, b, c] => t1.Is a ∧ t2.Is b ∧ t3.Is c ∧ pre (t1.of a) (t2.of b) (t3.of c) | _ => False, fun | [a, b, c] => res (t1.of a) (t2.of b) (t3.of c) | _ => .und⟩
def spec4 {α1 α2 α3 α4 : Type} (t1 : VT α1) (t2 : VT α2) (t3 : VT α3) (t4 : VT α4) (pre : α1 → α2 → α3 → α4 → Prop) (res : α1 → α2 → α3 → α4 → Val) : Spec :=
  ⟨fun | [a, b, c, d] => t1.Is a ∧ t2.Is b ∧ t3.Is c ∧ t4.Is d ∧ pre (t1.of a) (t2.of b) (t3.of c) (t4.of d) | _ => False, fun | [a, b, c, d] => res (t1.of a) (t2.of b) (t3.of c) (t4.of d) | _ => .und⟩
def spec5 {α1 α2 α3 α4 α5 : Type} (t1 : VT α1) (t2 : VT α2) (t3 : VT α3) (t4 : VT α4) (t5 : VT α5) (pre : α1 → α2 → α3 → α4 → α5 → Prop) (res : α1 → α2 → α3 → α4 → α5 → Val) : Spec :=
  ⟨fun | [a, b, c, d, e] => t1.Is a ∧ t2.Is b ∧ t3.Is c ∧ t4.Is d ∧ t5.Is e ∧ pre (t1.of a) (t2.of b) (t3.of c) (t4.of d) (t5.of e) | _ => False, fun | [a, b, c, d, e] => res (t1.of a) (t2.of b) (t3.of c) (t4.of d) (t5.of e) | _ => .und⟩
section
variable {G : Nat → Option (Nat × (Nat → Val))} {S : List (FuncId × Spec)} {I : List (FuncId × AFun)} {id : FuncId} {fn : Func} {af : AFun} {α1 α2 α3 α4 α5 : Type} {t1 : VT α1} {t2 : VT α2} {t3 : VT α3} {t4 : VT α4} {t5 : VT α5}
abbrev RunTo (G : Nat → Option (Nat × (Nat → Val))) (S : List (FuncId × Spec)) (I : List (FuncId × AFun)) (af : AFun) (vs : List Val) (r : Val) : Prop := run (mkE G S I) (fun v bx => Fin v bx r) 5000 [.code af.code] [] af.res (params 0 vs) [] 0
theorem fn0 (hmix : P.follows .mixedOrders = true) (hS : SOk P G S) (hI : IOk P I) (hfn : P.funcs[id]? = some fn) (hcf : cFun P fn = some af) {res : Val}
    (h : RunTo G S I af [] res) : PureOk P G id (spec0 res) := by
  refine pure_okN hmix hS hI hfn hcf fun vs hp => ?_
  simp only [spec0] at hp
  split at hp
  · exact ⟨[], rfl, rfl, fun _ => ⟨5000, h⟩⟩
  · exact hp.elim
theorem fn1 (hmix : P.follows .mixedOrders = true) (hS : SOk P G S) (hI : IOk P I) (hfn : P.funcs[id]? = some fn) (hcf : cFun P fn = some af) {pre : α1 → Prop} {res : α1 → Val}
    (h : ∀ a, pre a → WfT (vl [t1.enc a]) → RunTo G S I af [t1.enc a] (res a)) : PureOk P G id (spec1 t1 pre res) := by
  refine pure_okN hmix hS hI hfn hcf fun vs hp => ?_
  simp only [spec1] at hp
  split at hp
  · rename_i a
    refine ⟨[t1.enc (t1.of a)], ?_, ?_, fun hw => ⟨5000, ?_⟩⟩
    · exact ⟨_, _, rfl, t1.h1 a hp.1, rfl⟩
    · simp only [spec1, t1.h2]
    · simp only [spec1, t1.h2]; exact h _ hp.2 hw
  · exact hp.elim
theorem fn2 (hmix : P.follows .mixedOrders = true) (hS : SOk P G S) (hI : IOk P I) (hfn : P.funcs[id]? = some fn) (hcf : cFun P fn = some af) {pre : α1 → α2 → Prop} {res : α1 → α2 → Val}
    (h : ∀ a b, pre a b → WfT (vl [t1.enc a, t2.enc b]) → RunTo G S I af [t1.enc a, t2.enc b] (res a b)) : PureOk P G id (spec2 t1 t2 pre res) := by
  refine pure_okN hmix hS hI hfn hcf fun vs hp => ?_
  simp only [spec2] at hp
  split at hp
  · rename_i a b
    obtain ⟨p1, p2, p⟩ := hp
    refine ⟨[t1.enc (t1.of a), t2.enc (t2.of b)], ?_, ?_, fun hw => ⟨5000, ?_⟩⟩
    · exact ⟨_, _, rfl, t1.h1 a p1, _, _, rfl, t2.h1 b p2, rfl⟩
    · simp only [spec2, t1.h2, t2.h2]
    · simp only [spec2, t1.h2, t2.h2]; exact h _ _ p hw
  · exact hp.elim
theorem fn3 (hmix : P.follows .mixedOrders = true) (hS : SOk P G S) (hI : IOk P I) (hfn : P.funcs[id]? = some fn) (hcf : cFun P fn = some af) {pre : α1 → α2 → α3 → Prop} {res : α1 → α2 → α3 → Val}
    (h : ∀ a b c, pre a b c → WfT (vl [t1.enc a, t2.enc b, t3.enc c]) → RunTo G S I af [t1.enc a, t2.enc b, t3.enc c] (res a b c)) : PureOk P G id (spec3 t1 t2 t3 pre res) := by
  refine pure_okN hmix hS hI hfn hcf fun vs hp => ?_
  simp only [spec3] at hp
  split at hp
  · rename_i a b c
    obtain ⟨p1, p2, p3, p⟩ := hp
    refine ⟨[t1.enc (t1.of a), t2.enc (t2.of b), t3.enc (t3.of c)], ?_, ?_, fun hw => ⟨5000, ?_⟩⟩
    · exact ⟨_, _, rfl, t1.h1 a p1, _, _, rfl, t2.h1 b p2, _, _, rfl, t3.h1 c p3, rfl⟩
    · simp only [spec3, t1.h2, t2.h2, t3.h2]
    · simp only [spec3, t1.h2, t2.h2, t3.h2]; exact h _ _ _ p hw
  · exact hp.elim
theorem fn4 (hmix : P.follows .mixedOrders = true) (hS : SOk P G S) (hI : IOk P I) (hfn : P.funcs[id]? = some fn) (hcf : cFun P fn = some af) {pre : α1 → α2 → α3 → α4 → Prop} {res : α1 → α2 → α3 → α4 → Val}
    (h : ∀ a b c d, pre a b c d → WfT (vl [t1.enc a, t2.enc b, t3.enc c, t4.enc d]) → RunTo G S I af [t1.enc a, t2.enc b, t3.enc c, t4.enc d] (res a b c d)) : PureOk P G id (spec4 t1 t2 t3 t4 pre res) := by
  refine pure_okN hmix hS hI hfn hcf fun vs hp => ?_
  simp only [spec4] at hp
  split at hp
  · rename_i a b c d
    obtain ⟨p1, p2, p3, p4, p⟩ := hp
    refine ⟨[t1.enc (t1.of a), t2.enc (t2.of b), t3.enc (t3.of c), t4.enc (t4.of d)], ?_, ?_, fun hw => ⟨5000, ?_⟩⟩
    · exact ⟨_, _, rfl, t1.h1 a p1, _, _, rfl, t2.h1 b p2, _, _, rfl, t3.h1 c p3, _, _, rfl, t4.h1 d p4, rfl⟩
    · simp only [spec4, t1.h2, t2.h2, t3.h2, t4.h2]
    · simp only [spec4, t1.h2, t2.h2, t3.h2, t4.h2]; exact h _ _ _ _ p hw
  · exact hp.elim
theorem fn5 (hmix : P.follows .mixedOrders = true) (hS : SOk P G S) (hI : IOk P I) (hfn : P.funcs[id]? = some fn) (hcf : cFun P fn = some af) {pre : α1 → α2 → α3 → α4 → α5 → Prop} {res : α1 → α2 → α3 → α4 → α5 → Val}
    (h : ∀ a b c d e, pre a b c d e → WfT (vl [t1.enc a, t2.enc b, t3.enc c, t4.enc d, t5.enc e]) → RunTo G S I af [t1.enc a, t2.enc b, t3.enc c, t4.enc d, t5.enc e] (res a b c d e)) : PureOk P G id (spec5 t1 t2 t3 t4 t5 pre res) := by
  refine pure_okN hmix hS hI hfn hcf fun vs hp => ?_
  simp only [spec5] at hp
  split at hp
  · rename_i a b c d e
    obtain ⟨p1, p2, p3, p4, p5, p⟩ := hp
    refine ⟨[t1.enc (t1.of a), t2.enc (t2.of b), t3.enc (t3.of c), t4.enc (t4.of d), t5.enc (t5.of e)], ?_, ?_, fun hw => ⟨5000, ?_⟩⟩
    · exact ⟨_, _, rfl, t1.h1 a p1, _, _, rfl, t2.h1 b p2, _, _, rfl, t3.h1 c p3, _, _, rfl, t4.h1 d p4, _, _, rfl, t5.h1 e p5, rfl⟩
    · simp only [spec5, t1.h2, t2.h2, t3.h2, t4.h2, t5.h2]
    · simp only [spec5, t1.h2, t2.h2, t3.h2, t4.h2, t5.h2]; exact h _ _ _ _ _ p hw
  · exact hp.elim
end
end Go.Proofs.YtbhhcnonooiokaaDoor
