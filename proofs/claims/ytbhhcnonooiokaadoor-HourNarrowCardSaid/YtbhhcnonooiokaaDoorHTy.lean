/- Hours: the types. No condition. -/
import Derived.Test.YtbhhcnonooiokaaDoorE4
set_option linter.unusedSimpArgs false
set_option linter.unusedVariables false
namespace Go.Proofs.YtbhhcnonooiokaaDoor
open Go Go.RowKit
structure Sp where
  lo : Int
  hi : Int
def Sp.L (x : Sp) : Val := .cons (.int .i64 x.lo) (.cons (.int .i64 x.hi) (.nil))
def Sp.c (x : Sp) : Nat → Val
  | 0 => .int .i64 x.lo
  | 1 => .int .i64 x.hi
  | _ => .und
theorem Sp.c0 (x : Sp) : Sp.c x 0 = .int .i64 x.lo := rfl
theorem Sp.c1 (x : Sp) : Sp.c x 1 = .int .i64 x.hi := rfl
def Sp.d (c : Nat → Val) : Sp := ⟨(c 0).toInt, (c 1).toInt⟩
def Sp.w (c : Nat → Val) : Prop := (c 0) = .int .i64 ((c 0).toInt) ∧ (c 1) = .int .i64 ((c 1).toInt)
theorem Sp.d_c (x : Sp) : Sp.d (Sp.c x) = x := by
  simp only [Sp.d, Sp.c, Val.toInt, Val.toBool, Val.slen, Val.scell]
theorem Sp.w_c (x : Sp) : Sp.w (Sp.c x) = True := by
  refine eq_true ?_
  simp only [Sp.w, Sp.c, Val.toInt, Val.toBool, Val.slen, Val.scell, and_self, true_and, and_true]
theorem Sp.v_c {c : Nat → Val} (h : Sp.w c) : ∀ j, j < 2 → vsubP (Sp.c (Sp.d c) j) (c j) := by
  simp only [Sp.w] at h
  obtain ⟨h0, h1⟩ := h
  intro j hj
  rcases (by omega : j = 0 ∨ j = 1) with rfl | rfl
  · rw [h0]; rfl
  · rw [h1]; rfl
def RSp : RT Sp where
  k := 2
  W := fun n c => ∀ i, i < n → Sp.w (c i)
  D := fun c i => Sp.d (c i)
  C := Sp.c
  h1 := fun n c h i hi j hj => Sp.v_c (h i hi) j hj
  h2 := fun x => funext fun i => Sp.d_c (x i)
  w_enc := fun n x i _ => of_eq_true (Sp.w_c (x i))
def Sp.Is : Val → Prop
  | .agg (.cons c0 (.cons c1 .nil)) => c0 = .int .i64 (c0.toInt) ∧ c1 = .int .i64 (c1.toInt)
  | _ => False
def Sp.of (v : Val) : Sp := Sp.d (vget (cellsOf v))
theorem Sp.eta (x : Sp) : (⟨x.lo, x.hi⟩ : Sp) = x := rfl
def TSp : VT Sp where
  Is := Sp.Is
  of := Sp.of
  enc := fun x => .agg (Sp.L x)
  h1 := by
    intro v h
    simp only [Sp.Is] at h
    split at h
    · rename_i c0 c1
      have hv := Sp.v_c (c := fun | 0 => c0 | 1 => c1 | _ => .und) h
      simp only [vp_agg, Sp.L, vp_cons, vp_nil]
      exact ⟨hv 0 (by omega), hv 1 (by omega), trivial⟩
    · exact h.elim
  h2 := fun x => Sp.d_c x
theorem Sp.is_enc (x : Sp) : Sp.Is (.agg (Sp.L x)) := of_eq_true (Sp.w_c x)
structure Sr where
  rise : Sp
  shift : Sp
def Sr.L (x : Sr) : Val := .cons (.int .i64 x.rise.lo) (.cons (.int .i64 x.rise.hi) (.cons (.int .i64 x.shift.lo) (.cons (.int .i64 x.shift.hi) (.nil))))
def Sr.c (x : Sr) : Nat → Val
  | 0 => .int .i64 x.rise.lo
  | 1 => .int .i64 x.rise.hi
  | 2 => .int .i64 x.shift.lo
  | 3 => .int .i64 x.shift.hi
  | _ => .und
theorem Sr.c0 (x : Sr) : Sr.c x 0 = .int .i64 x.rise.lo := rfl
theorem Sr.c1 (x : Sr) : Sr.c x 1 = .int .i64 x.rise.hi := rfl
theorem Sr.c2 (x : Sr) : Sr.c x 2 = .int .i64 x.shift.lo := rfl
theorem Sr.c3 (x : Sr) : Sr.c x 3 = .int .i64 x.shift.hi := rfl
def Sr.d (c : Nat → Val) : Sr := ⟨⟨(c 0).toInt, (c 1).toInt⟩, ⟨(c 2).toInt, (c 3).toInt⟩⟩
def Sr.w (c : Nat → Val) : Prop := (c 0) = .int .i64 ((c 0).toInt) ∧ (c 1) = .int .i64 ((c 1).toInt) ∧ (c 2) = .int .i64 ((c 2).toInt) ∧ (c 3) = .int .i64 ((c 3).toInt)
theorem Sr.d_c (x : Sr) : Sr.d (Sr.c x) = x := by
  simp only [Sr.d, Sr.c, Val.toInt, Val.toBool, Val.slen, Val.scell]
theorem Sr.w_c (x : Sr) : Sr.w (Sr.c x) = True := by
  refine eq_true ?_
  simp only [Sr.w, Sr.c, Val.toInt, Val.toBool, Val.slen, Val.scell, and_self, true_and, and_true]
theorem Sr.v_c {c : Nat → Val} (h : Sr.w c) : ∀ j, j < 4 → vsubP (Sr.c (Sr.d c) j) (c j) := by
  simp only [Sr.w] at h
  obtain ⟨h0, h1, h2, h3⟩ := h
  intro j hj
  rcases (by omega : j = 0 ∨ j = 1 ∨ j = 2 ∨ j = 3) with rfl | rfl | rfl | rfl
  · rw [h0]; rfl
  · rw [h1]; rfl
  · rw [h2]; rfl
  · rw [h3]; rfl
def RSr : RT Sr where
  k := 4
  W := fun n c => ∀ i, i < n → Sr.w (c i)
  D := fun c i => Sr.d (c i)
  C := Sr.c
  h1 := fun n c h i hi j hj => Sr.v_c (h i hi) j hj
  h2 := fun x => funext fun i => Sr.d_c (x i)
  w_enc := fun n x i _ => of_eq_true (Sr.w_c (x i))
def Sr.Is : Val → Prop
  | .agg (.cons c0 (.cons c1 (.cons c2 (.cons c3 .nil)))) => c0 = .int .i64 (c0.toInt) ∧ c1 = .int .i64 (c1.toInt) ∧ c2 = .int .i64 (c2.toInt) ∧ c3 = .int .i64 (c3.toInt)
  | _ => False
def Sr.of (v : Val) : Sr := Sr.d (vget (cellsOf v))
theorem Sr.eta (x : Sr) : (⟨x.rise, x.shift⟩ : Sr) = x := rfl
def TSr : VT Sr where
  Is := Sr.Is
  of := Sr.of
  enc := fun x => .agg (Sr.L x)
  h1 := by
    intro v h
    simp only [Sr.Is] at h
    split at h
    · rename_i c0 c1 c2 c3
      have hv := Sr.v_c (c := fun | 0 => c0 | 1 => c1 | 2 => c2 | 3 => c3 | _ => .und) h
      simp only [vp_agg, Sr.L, vp_cons, vp_nil]
      exact ⟨hv 0 (by omega), hv 1 (by omega), hv 2 (by omega), hv 3 (by omega), trivial⟩
    · exact h.elim
  h2 := fun x => Sr.d_c x
theorem Sr.is_enc (x : Sr) : Sr.Is (.agg (Sr.L x)) := of_eq_true (Sr.w_c x)
structure Tn where
  fr : Int
  till : Int
def Tn.L (x : Tn) : Val := .cons (.int .i64 x.fr) (.cons (.int .i64 x.till) (.nil))
def Tn.c (x : Tn) : Nat → Val
  | 0 => .int .i64 x.fr
  | 1 => .int .i64 x.till
  | _ => .und
theorem Tn.c0 (x : Tn) : Tn.c x 0 = .int .i64 x.fr := rfl
theorem Tn.c1 (x : Tn) : Tn.c x 1 = .int .i64 x.till := rfl
def Tn.d (c : Nat → Val) : Tn := ⟨(c 0).toInt, (c 1).toInt⟩
def Tn.w (c : Nat → Val) : Prop := (c 0) = .int .i64 ((c 0).toInt) ∧ (c 1) = .int .i64 ((c 1).toInt)
theorem Tn.d_c (x : Tn) : Tn.d (Tn.c x) = x := by
  simp only [Tn.d, Tn.c, Val.toInt, Val.toBool, Val.slen, Val.scell]
theorem Tn.w_c (x : Tn) : Tn.w (Tn.c x) = True := by
  refine eq_true ?_
  simp only [Tn.w, Tn.c, Val.toInt, Val.toBool, Val.slen, Val.scell, and_self, true_and, and_true]
theorem Tn.v_c {c : Nat → Val} (h : Tn.w c) : ∀ j, j < 2 → vsubP (Tn.c (Tn.d c) j) (c j) := by
  simp only [Tn.w] at h
  obtain ⟨h0, h1⟩ := h
  intro j hj
  rcases (by omega : j = 0 ∨ j = 1) with rfl | rfl
  · rw [h0]; rfl
  · rw [h1]; rfl
def RTn : RT Tn where
  k := 2
  W := fun n c => ∀ i, i < n → Tn.w (c i)
  D := fun c i => Tn.d (c i)
  C := Tn.c
  h1 := fun n c h i hi j hj => Tn.v_c (h i hi) j hj
  h2 := fun x => funext fun i => Tn.d_c (x i)
  w_enc := fun n x i _ => of_eq_true (Tn.w_c (x i))
def Tn.Is : Val → Prop
  | .agg (.cons c0 (.cons c1 .nil)) => c0 = .int .i64 (c0.toInt) ∧ c1 = .int .i64 (c1.toInt)
  | _ => False
def Tn.of (v : Val) : Tn := Tn.d (vget (cellsOf v))
theorem Tn.eta (x : Tn) : (⟨x.fr, x.till⟩ : Tn) = x := rfl
def TTn : VT Tn where
  Is := Tn.Is
  of := Tn.of
  enc := fun x => .agg (Tn.L x)
  h1 := by
    intro v h
    simp only [Tn.Is] at h
    split at h
    · rename_i c0 c1
      have hv := Tn.v_c (c := fun | 0 => c0 | 1 => c1 | _ => .und) h
      simp only [vp_agg, Tn.L, vp_cons, vp_nil]
      exact ⟨hv 0 (by omega), hv 1 (by omega), trivial⟩
    · exact h.elim
  h2 := fun x => Tn.d_c x
theorem Tn.is_enc (x : Tn) : Tn.Is (.agg (Tn.L x)) := of_eq_true (Tn.w_c x)
structure Tl where
  kind : Int
  which : Int
  hands : Int
  word : Sp
def Tl.L (x : Tl) : Val := .cons (.int .u8 x.kind) (.cons (.int .i64 x.which) (.cons (.int .i64 x.hands) (.cons (.int .i64 x.word.lo) (.cons (.int .i64 x.word.hi) (.nil)))))
def Tl.c (x : Tl) : Nat → Val
  | 0 => .int .u8 x.kind
  | 1 => .int .i64 x.which
  | 2 => .int .i64 x.hands
  | 3 => .int .i64 x.word.lo
  | 4 => .int .i64 x.word.hi
  | _ => .und
theorem Tl.c0 (x : Tl) : Tl.c x 0 = .int .u8 x.kind := rfl
theorem Tl.c1 (x : Tl) : Tl.c x 1 = .int .i64 x.which := rfl
theorem Tl.c2 (x : Tl) : Tl.c x 2 = .int .i64 x.hands := rfl
theorem Tl.c3 (x : Tl) : Tl.c x 3 = .int .i64 x.word.lo := rfl
theorem Tl.c4 (x : Tl) : Tl.c x 4 = .int .i64 x.word.hi := rfl
def Tl.d (c : Nat → Val) : Tl := ⟨(c 0).toInt, (c 1).toInt, (c 2).toInt, ⟨(c 3).toInt, (c 4).toInt⟩⟩
def Tl.w (c : Nat → Val) : Prop := (c 0) = .int .u8 ((c 0).toInt) ∧ (c 1) = .int .i64 ((c 1).toInt) ∧ (c 2) = .int .i64 ((c 2).toInt) ∧ (c 3) = .int .i64 ((c 3).toInt) ∧ (c 4) = .int .i64 ((c 4).toInt)
theorem Tl.d_c (x : Tl) : Tl.d (Tl.c x) = x := by
  simp only [Tl.d, Tl.c, Val.toInt, Val.toBool, Val.slen, Val.scell]
theorem Tl.w_c (x : Tl) : Tl.w (Tl.c x) = True := by
  refine eq_true ?_
  simp only [Tl.w, Tl.c, Val.toInt, Val.toBool, Val.slen, Val.scell, and_self, true_and, and_true]
theorem Tl.v_c {c : Nat → Val} (h : Tl.w c) : ∀ j, j < 5 → vsubP (Tl.c (Tl.d c) j) (c j) := by
  simp only [Tl.w] at h
  obtain ⟨h0, h1, h2, h3, h4⟩ := h
  intro j hj
  rcases (by omega : j = 0 ∨ j = 1 ∨ j = 2 ∨ j = 3 ∨ j = 4) with rfl | rfl | rfl | rfl | rfl
  · rw [h0]; rfl
  · rw [h1]; rfl
  · rw [h2]; rfl
  · rw [h3]; rfl
  · rw [h4]; rfl
def RTl : RT Tl where
  k := 5
  W := fun n c => ∀ i, i < n → Tl.w (c i)
  D := fun c i => Tl.d (c i)
  C := Tl.c
  h1 := fun n c h i hi j hj => Tl.v_c (h i hi) j hj
  h2 := fun x => funext fun i => Tl.d_c (x i)
  w_enc := fun n x i _ => of_eq_true (Tl.w_c (x i))
def Tl.Is : Val → Prop
  | .agg (.cons c0 (.cons c1 (.cons c2 (.cons c3 (.cons c4 .nil))))) => c0 = .int .u8 (c0.toInt) ∧ c1 = .int .i64 (c1.toInt) ∧ c2 = .int .i64 (c2.toInt) ∧ c3 = .int .i64 (c3.toInt) ∧ c4 = .int .i64 (c4.toInt)
  | _ => False
def Tl.of (v : Val) : Tl := Tl.d (vget (cellsOf v))
theorem Tl.eta (x : Tl) : (⟨x.kind, x.which, x.hands, x.word⟩ : Tl) = x := rfl
def TTl : VT Tl where
  Is := Tl.Is
  of := Tl.of
  enc := fun x => .agg (Tl.L x)
  h1 := by
    intro v h
    simp only [Tl.Is] at h
    split at h
    · rename_i c0 c1 c2 c3 c4
      have hv := Tl.v_c (c := fun | 0 => c0 | 1 => c1 | 2 => c2 | 3 => c3 | 4 => c4 | _ => .und) h
      simp only [vp_agg, Tl.L, vp_cons, vp_nil]
      exact ⟨hv 0 (by omega), hv 1 (by omega), hv 2 (by omega), hv 3 (by omega), hv 4 (by omega), trivial⟩
    · exact h.elim
  h2 := fun x => Tl.d_c x
theorem Tl.is_enc (x : Tl) : Tl.Is (.agg (Tl.L x)) := of_eq_true (Tl.w_c x)
structure Ch where
  told : Nat × (Nat → Tl)
  bowls : Int
  full : Bool
def Ch.L (x : Ch) : Val := .cons (.view RTl.k (x.told).1 fun a b => RTl.C ((x.told).2 a) b) (.cons (.int .i64 x.bowls) (.cons (.bool x.full) (.nil)))
def Ch.c (x : Ch) : Nat → Val
  | 0 => .view RTl.k (x.told).1 fun a b => RTl.C ((x.told).2 a) b
  | 1 => .int .i64 x.bowls
  | 2 => .bool x.full
  | _ => .und
theorem Ch.c0 (x : Ch) : Ch.c x 0 = .view RTl.k (x.told).1 fun a b => RTl.C ((x.told).2 a) b := rfl
theorem Ch.c1 (x : Ch) : Ch.c x 1 = .int .i64 x.bowls := rfl
theorem Ch.c2 (x : Ch) : Ch.c x 2 = .bool x.full := rfl
def Ch.d (c : Nat → Val) : Ch := ⟨((c 0).slen, RTl.D (c 0).scell), (c 1).toInt, (c 2).toBool⟩
def Ch.w (c : Nat → Val) : Prop := ((c 0) = .view RTl.k (c 0).slen (c 0).scell ∧ RTl.W (c 0).slen (c 0).scell) ∧ (c 1) = .int .i64 ((c 1).toInt) ∧ (c 2) = .bool ((c 2).toBool)
theorem Ch.d_c (x : Ch) : Ch.d (Ch.c x) = x := by
  simp only [Ch.d, Ch.c, Val.toInt, Val.toBool, Val.slen, Val.scell]
  try simp only [RT.h2]
theorem Ch.w_c (x : Ch) : Ch.w (Ch.c x) = True := by
  refine eq_true ?_
  simp only [Ch.w, Ch.c, Val.toInt, Val.toBool, Val.slen, Val.scell, and_self, true_and, and_true]
  exact RTl.w_enc _ _
theorem Ch.v_c {c : Nat → Val} (h : Ch.w c) : ∀ j, j < 3 → vsubP (Ch.c (Ch.d c) j) (c j) := by
  simp only [Ch.w] at h
  obtain ⟨h0, h1, h2⟩ := h
  intro j hj
  rcases (by omega : j = 0 ∨ j = 1 ∨ j = 2) with rfl | rfl | rfl
  · obtain ⟨e, h⟩ := h0; rw [e]; simp only [Ch.c, Ch.d, vp_view, Val.slen, Val.scell, true_and]; exact RTl.h1 _ _ h
  · rw [h1]; rfl
  · rw [h2]; rfl
def RCh : RT Ch where
  k := 3
  W := fun n c => ∀ i, i < n → Ch.w (c i)
  D := fun c i => Ch.d (c i)
  C := Ch.c
  h1 := fun n c h i hi j hj => Ch.v_c (h i hi) j hj
  h2 := fun x => funext fun i => Ch.d_c (x i)
  w_enc := fun n x i _ => of_eq_true (Ch.w_c (x i))
def Ch.Is : Val → Prop
  | .agg (.cons c0 (.cons c1 (.cons c2 .nil))) => (c0 = .view RTl.k c0.slen c0.scell ∧ RTl.W c0.slen c0.scell) ∧ c1 = .int .i64 (c1.toInt) ∧ c2 = .bool (c2.toBool)
  | _ => False
def Ch.of (v : Val) : Ch := Ch.d (vget (cellsOf v))
theorem Ch.eta (x : Ch) : (⟨x.told, x.bowls, x.full⟩ : Ch) = x := rfl
def TCh : VT Ch where
  Is := Ch.Is
  of := Ch.of
  enc := fun x => .agg (Ch.L x)
  h1 := by
    intro v h
    simp only [Ch.Is] at h
    split at h
    · rename_i c0 c1 c2
      have hv := Ch.v_c (c := fun | 0 => c0 | 1 => c1 | 2 => c2 | _ => .und) h
      simp only [vp_agg, Ch.L, vp_cons, vp_nil]
      exact ⟨hv 0 (by omega), hv 1 (by omega), hv 2 (by omega), trivial⟩
    · exact h.elim
  h2 := fun x => Ch.d_c x
theorem Ch.is_enc (x : Ch) : Ch.Is (.agg (Ch.L x)) := of_eq_true (Ch.w_c x)
structure Ck where
  mrk : Nat × (Nat → Sp)
  str : Nat × (Nat → Sr)
  hand : Sp
  sinks : Sp
def Ck.L (x : Ck) : Val := .cons (.view RSp.k (x.mrk).1 fun a b => RSp.C ((x.mrk).2 a) b) (.cons (.view RSr.k (x.str).1 fun a b => RSr.C ((x.str).2 a) b) (.cons (.int .i64 x.hand.lo) (.cons (.int .i64 x.hand.hi) (.cons (.int .i64 x.sinks.lo) (.cons (.int .i64 x.sinks.hi) (.nil))))))
def Ck.c (x : Ck) : Nat → Val
  | 0 => .view RSp.k (x.mrk).1 fun a b => RSp.C ((x.mrk).2 a) b
  | 1 => .view RSr.k (x.str).1 fun a b => RSr.C ((x.str).2 a) b
  | 2 => .int .i64 x.hand.lo
  | 3 => .int .i64 x.hand.hi
  | 4 => .int .i64 x.sinks.lo
  | 5 => .int .i64 x.sinks.hi
  | _ => .und
theorem Ck.c0 (x : Ck) : Ck.c x 0 = .view RSp.k (x.mrk).1 fun a b => RSp.C ((x.mrk).2 a) b := rfl
theorem Ck.c1 (x : Ck) : Ck.c x 1 = .view RSr.k (x.str).1 fun a b => RSr.C ((x.str).2 a) b := rfl
theorem Ck.c2 (x : Ck) : Ck.c x 2 = .int .i64 x.hand.lo := rfl
theorem Ck.c3 (x : Ck) : Ck.c x 3 = .int .i64 x.hand.hi := rfl
theorem Ck.c4 (x : Ck) : Ck.c x 4 = .int .i64 x.sinks.lo := rfl
theorem Ck.c5 (x : Ck) : Ck.c x 5 = .int .i64 x.sinks.hi := rfl
def Ck.d (c : Nat → Val) : Ck := ⟨((c 0).slen, RSp.D (c 0).scell), ((c 1).slen, RSr.D (c 1).scell), ⟨(c 2).toInt, (c 3).toInt⟩, ⟨(c 4).toInt, (c 5).toInt⟩⟩
def Ck.w (c : Nat → Val) : Prop := ((c 0) = .view RSp.k (c 0).slen (c 0).scell ∧ RSp.W (c 0).slen (c 0).scell) ∧ ((c 1) = .view RSr.k (c 1).slen (c 1).scell ∧ RSr.W (c 1).slen (c 1).scell) ∧ (c 2) = .int .i64 ((c 2).toInt) ∧ (c 3) = .int .i64 ((c 3).toInt) ∧ (c 4) = .int .i64 ((c 4).toInt) ∧ (c 5) = .int .i64 ((c 5).toInt)
theorem Ck.d_c (x : Ck) : Ck.d (Ck.c x) = x := by
  simp only [Ck.d, Ck.c, Val.toInt, Val.toBool, Val.slen, Val.scell]
  try simp only [RT.h2]
theorem Ck.w_c (x : Ck) : Ck.w (Ck.c x) = True := by
  refine eq_true ?_
  simp only [Ck.w, Ck.c, Val.toInt, Val.toBool, Val.slen, Val.scell, and_self, true_and, and_true]
  exact ⟨RSp.w_enc _ _, RSr.w_enc _ _⟩
theorem Ck.v_c {c : Nat → Val} (h : Ck.w c) : ∀ j, j < 6 → vsubP (Ck.c (Ck.d c) j) (c j) := by
  simp only [Ck.w] at h
  obtain ⟨h0, h1, h2, h3, h4, h5⟩ := h
  intro j hj
  rcases (by omega : j = 0 ∨ j = 1 ∨ j = 2 ∨ j = 3 ∨ j = 4 ∨ j = 5) with rfl | rfl | rfl | rfl | rfl | rfl
  · obtain ⟨e, h⟩ := h0; rw [e]; simp only [Ck.c, Ck.d, vp_view, Val.slen, Val.scell, true_and]; exact RSp.h1 _ _ h
  · obtain ⟨e, h⟩ := h1; rw [e]; simp only [Ck.c, Ck.d, vp_view, Val.slen, Val.scell, true_and]; exact RSr.h1 _ _ h
  · rw [h2]; rfl
  · rw [h3]; rfl
  · rw [h4]; rfl
  · rw [h5]; rfl
def RCk : RT Ck where
  k := 6
  W := fun n c => ∀ i, i < n → Ck.w (c i)
  D := fun c i => Ck.d (c i)
  C := Ck.c
  h1 := fun n c h i hi j hj => Ck.v_c (h i hi) j hj
  h2 := fun x => funext fun i => Ck.d_c (x i)
  w_enc := fun n x i _ => of_eq_true (Ck.w_c (x i))
def Ck.Is : Val → Prop
  | .agg (.cons c0 (.cons c1 (.cons c2 (.cons c3 (.cons c4 (.cons c5 .nil)))))) => (c0 = .view RSp.k c0.slen c0.scell ∧ RSp.W c0.slen c0.scell) ∧ (c1 = .view RSr.k c1.slen c1.scell ∧ RSr.W c1.slen c1.scell) ∧ c2 = .int .i64 (c2.toInt) ∧ c3 = .int .i64 (c3.toInt) ∧ c4 = .int .i64 (c4.toInt) ∧ c5 = .int .i64 (c5.toInt)
  | _ => False
def Ck.of (v : Val) : Ck := Ck.d (vget (cellsOf v))
theorem Ck.eta (x : Ck) : (⟨x.mrk, x.str, x.hand, x.sinks⟩ : Ck) = x := rfl
def TCk : VT Ck where
  Is := Ck.Is
  of := Ck.of
  enc := fun x => .agg (Ck.L x)
  h1 := by
    intro v h
    simp only [Ck.Is] at h
    split at h
    · rename_i c0 c1 c2 c3 c4 c5
      have hv := Ck.v_c (c := fun | 0 => c0 | 1 => c1 | 2 => c2 | 3 => c3 | 4 => c4 | 5 => c5 | _ => .und) h
      simp only [vp_agg, Ck.L, vp_cons, vp_nil]
      exact ⟨hv 0 (by omega), hv 1 (by omega), hv 2 (by omega), hv 3 (by omega), hv 4 (by omega), hv 5 (by omega), trivial⟩
    · exact h.elim
  h2 := fun x => Ck.d_c x
theorem Ck.is_enc (x : Ck) : Ck.Is (.agg (Ck.L x)) := of_eq_true (Ck.w_c x)
structure Kp where
  ck : Ck
  day : Int
def Kp.L (x : Kp) : Val := .cons (.view RSp.k (x.ck.mrk).1 fun a b => RSp.C ((x.ck.mrk).2 a) b) (.cons (.view RSr.k (x.ck.str).1 fun a b => RSr.C ((x.ck.str).2 a) b) (.cons (.int .i64 x.ck.hand.lo) (.cons (.int .i64 x.ck.hand.hi) (.cons (.int .i64 x.ck.sinks.lo) (.cons (.int .i64 x.ck.sinks.hi) (.cons (.int .i64 x.day) (.nil)))))))
def Kp.c (x : Kp) : Nat → Val
  | 0 => .view RSp.k (x.ck.mrk).1 fun a b => RSp.C ((x.ck.mrk).2 a) b
  | 1 => .view RSr.k (x.ck.str).1 fun a b => RSr.C ((x.ck.str).2 a) b
  | 2 => .int .i64 x.ck.hand.lo
  | 3 => .int .i64 x.ck.hand.hi
  | 4 => .int .i64 x.ck.sinks.lo
  | 5 => .int .i64 x.ck.sinks.hi
  | 6 => .int .i64 x.day
  | _ => .und
theorem Kp.c0 (x : Kp) : Kp.c x 0 = .view RSp.k (x.ck.mrk).1 fun a b => RSp.C ((x.ck.mrk).2 a) b := rfl
theorem Kp.c1 (x : Kp) : Kp.c x 1 = .view RSr.k (x.ck.str).1 fun a b => RSr.C ((x.ck.str).2 a) b := rfl
theorem Kp.c2 (x : Kp) : Kp.c x 2 = .int .i64 x.ck.hand.lo := rfl
theorem Kp.c3 (x : Kp) : Kp.c x 3 = .int .i64 x.ck.hand.hi := rfl
theorem Kp.c4 (x : Kp) : Kp.c x 4 = .int .i64 x.ck.sinks.lo := rfl
theorem Kp.c5 (x : Kp) : Kp.c x 5 = .int .i64 x.ck.sinks.hi := rfl
theorem Kp.c6 (x : Kp) : Kp.c x 6 = .int .i64 x.day := rfl
def Kp.d (c : Nat → Val) : Kp := ⟨⟨((c 0).slen, RSp.D (c 0).scell), ((c 1).slen, RSr.D (c 1).scell), ⟨(c 2).toInt, (c 3).toInt⟩, ⟨(c 4).toInt, (c 5).toInt⟩⟩, (c 6).toInt⟩
def Kp.w (c : Nat → Val) : Prop := ((c 0) = .view RSp.k (c 0).slen (c 0).scell ∧ RSp.W (c 0).slen (c 0).scell) ∧ ((c 1) = .view RSr.k (c 1).slen (c 1).scell ∧ RSr.W (c 1).slen (c 1).scell) ∧ (c 2) = .int .i64 ((c 2).toInt) ∧ (c 3) = .int .i64 ((c 3).toInt) ∧ (c 4) = .int .i64 ((c 4).toInt) ∧ (c 5) = .int .i64 ((c 5).toInt) ∧ (c 6) = .int .i64 ((c 6).toInt)
theorem Kp.d_c (x : Kp) : Kp.d (Kp.c x) = x := by
  simp only [Kp.d, Kp.c, Val.toInt, Val.toBool, Val.slen, Val.scell]
  try simp only [RT.h2]
theorem Kp.w_c (x : Kp) : Kp.w (Kp.c x) = True := by
  refine eq_true ?_
  simp only [Kp.w, Kp.c, Val.toInt, Val.toBool, Val.slen, Val.scell, and_self, true_and, and_true]
  exact ⟨RSp.w_enc _ _, RSr.w_enc _ _⟩
theorem Kp.v_c {c : Nat → Val} (h : Kp.w c) : ∀ j, j < 7 → vsubP (Kp.c (Kp.d c) j) (c j) := by
  simp only [Kp.w] at h
  obtain ⟨h0, h1, h2, h3, h4, h5, h6⟩ := h
  intro j hj
  rcases (by omega : j = 0 ∨ j = 1 ∨ j = 2 ∨ j = 3 ∨ j = 4 ∨ j = 5 ∨ j = 6) with rfl | rfl | rfl | rfl | rfl | rfl | rfl
  · obtain ⟨e, h⟩ := h0; rw [e]; simp only [Kp.c, Kp.d, vp_view, Val.slen, Val.scell, true_and]; exact RSp.h1 _ _ h
  · obtain ⟨e, h⟩ := h1; rw [e]; simp only [Kp.c, Kp.d, vp_view, Val.slen, Val.scell, true_and]; exact RSr.h1 _ _ h
  · rw [h2]; rfl
  · rw [h3]; rfl
  · rw [h4]; rfl
  · rw [h5]; rfl
  · rw [h6]; rfl
def RKp : RT Kp where
  k := 7
  W := fun n c => ∀ i, i < n → Kp.w (c i)
  D := fun c i => Kp.d (c i)
  C := Kp.c
  h1 := fun n c h i hi j hj => Kp.v_c (h i hi) j hj
  h2 := fun x => funext fun i => Kp.d_c (x i)
  w_enc := fun n x i _ => of_eq_true (Kp.w_c (x i))
def Kp.Is : Val → Prop
  | .agg (.cons c0 (.cons c1 (.cons c2 (.cons c3 (.cons c4 (.cons c5 (.cons c6 .nil))))))) => (c0 = .view RSp.k c0.slen c0.scell ∧ RSp.W c0.slen c0.scell) ∧ (c1 = .view RSr.k c1.slen c1.scell ∧ RSr.W c1.slen c1.scell) ∧ c2 = .int .i64 (c2.toInt) ∧ c3 = .int .i64 (c3.toInt) ∧ c4 = .int .i64 (c4.toInt) ∧ c5 = .int .i64 (c5.toInt) ∧ c6 = .int .i64 (c6.toInt)
  | _ => False
def Kp.of (v : Val) : Kp := Kp.d (vget (cellsOf v))
theorem Kp.eta (x : Kp) : (⟨x.ck, x.day⟩ : Kp) = x := rfl
def TKp : VT Kp where
  Is := Kp.Is
  of := Kp.of
  enc := fun x => .agg (Kp.L x)
  h1 := by
    intro v h
    simp only [Kp.Is] at h
    split at h
    · rename_i c0 c1 c2 c3 c4 c5 c6
      have hv := Kp.v_c (c := fun | 0 => c0 | 1 => c1 | 2 => c2 | 3 => c3 | 4 => c4 | 5 => c5 | 6 => c6 | _ => .und) h
      simp only [vp_agg, Kp.L, vp_cons, vp_nil]
      exact ⟨hv 0 (by omega), hv 1 (by omega), hv 2 (by omega), hv 3 (by omega), hv 4 (by omega), hv 5 (by omega), hv 6 (by omega), trivial⟩
    · exact h.elim
  h2 := fun x => Kp.d_c x
theorem Kp.is_enc (x : Kp) : Kp.Is (.agg (Kp.L x)) := of_eq_true (Kp.w_c x)
end Go.Proofs.YtbhhcnonooiokaaDoor
