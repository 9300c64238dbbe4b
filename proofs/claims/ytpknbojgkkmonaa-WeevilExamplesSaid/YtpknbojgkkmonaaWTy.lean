/- Groves: the types. No condition. -/
import Derived.Test.YtpknbojgkkmonaaE4
set_option linter.unusedSimpArgs false
set_option linter.unusedVariables false
namespace Go.Proofs.Ytpknbojgkkmonaa
open Go Go.RowKit
structure Pm where
  id : Int
  mother : Int
  planted : Int
  sex : (UI .u8)
  sort : Int
def Pm.L (x : Pm) : Val := .cons (.int .i64 x.id) (.cons (.int .i64 x.mother) (.cons (.int .i64 x.planted) (.cons (.int .u8 x.sex.1) (.cons (.int .i64 x.sort) (.nil)))))
def Pm.c (x : Pm) : Nat → Val
  | 0 => .int .i64 x.id
  | 1 => .int .i64 x.mother
  | 2 => .int .i64 x.planted
  | 3 => .int .u8 x.sex.1
  | 4 => .int .i64 x.sort
  | _ => .und
theorem Pm.c0 (x : Pm) : Pm.c x 0 = .int .i64 x.id := rfl
theorem Pm.c1 (x : Pm) : Pm.c x 1 = .int .i64 x.mother := rfl
theorem Pm.c2 (x : Pm) : Pm.c x 2 = .int .i64 x.planted := rfl
theorem Pm.c3 (x : Pm) : Pm.c x 3 = .int .u8 x.sex.1 := rfl
theorem Pm.c4 (x : Pm) : Pm.c x 4 = .int .i64 x.sort := rfl
def Pm.d (c : Nat → Val) : Pm := ⟨(c 0).toInt,(c 1).toInt,(c 2).toInt,toUI .u8 (c 3).toInt,(c 4).toInt⟩
def Pm.w (c : Nat → Val) : Prop := (c 0) = .int .i64 ((c 0).toInt) ∧ (c 1) = .int .i64 ((c 1).toInt) ∧ (c 2) = .int .i64 ((c 2).toInt) ∧ ((c 3) = .int .u8 (c 3).toInt ∧ IntKind.min .u8 ≤ (c 3).toInt ∧ (c 3).toInt ≤ IntKind.max .u8) ∧ (c 4) = .int .i64 ((c 4).toInt)
theorem Pm.d_c (x : Pm) : Pm.d (Pm.c x) = x := by
  simp only [Pm.d,Pm.c,Val.toInt,Val.toBool,Val.slen,Val.scell]
  try simp only [toUI_val]
theorem Pm.w_c (x : Pm) : Pm.w (Pm.c x) = True := by
  refine eq_true ?_
  simp only [Pm.w,Pm.c,Val.toInt,Val.toBool,Val.slen,Val.scell,and_self,true_and,and_true]
  exact x.sex.2
theorem Pm.v_c {c : Nat → Val} (h : Pm.w c) : ∀ j,j < 5 → vsubP (Pm.c (Pm.d c) j) (c j) := by
  simp only [Pm.w] at h
  obtain ⟨h0,h1,h2,h3,h4⟩ := h
  intro j hj
  rcases (by omega : j = 0 ∨ j = 1 ∨ j = 2 ∨ j = 3 ∨ j = 4) with rfl | rfl | rfl | rfl | rfl
  · rw [h0]; rfl
  · rw [h1]; rfl
  · rw [h2]; rfl
  · obtain ⟨e,h⟩ := h3; show vsubP (.int .u8 (toUI .u8 (c 3).toInt).1) (c 3); rw [toUI_in h,vp_int]; exact e
  · rw [h4]; rfl
def RPm : RT Pm where
  k := 5
  W := fun n c => ∀ i,i < n → Pm.w (c i)
  D := fun c i => Pm.d (c i)
  C := Pm.c
  h1 := fun n c h i hi j hj => Pm.v_c (h i hi) j hj
  h2 := fun x => funext fun i => Pm.d_c (x i)
  w_enc := fun n x i _ => of_eq_true (Pm.w_c (x i))
def Pm.Is : Val → Prop
  | .agg (.cons c0 (.cons c1 (.cons c2 (.cons c3 (.cons c4 .nil))))) => c0 = .int .i64 (c0.toInt) ∧ c1 = .int .i64 (c1.toInt) ∧ c2 = .int .i64 (c2.toInt) ∧ (c3 = .int .u8 c3.toInt ∧ IntKind.min .u8 ≤ c3.toInt ∧ c3.toInt ≤ IntKind.max .u8) ∧ c4 = .int .i64 (c4.toInt)
  | _ => False
def Pm.of (v : Val) : Pm := Pm.d (vget (cellsOf v))
theorem Pm.eta (x : Pm) : (⟨x.id,x.mother,x.planted,x.sex,x.sort⟩ : Pm) = x := rfl
def TPm : VT Pm where
  Is := Pm.Is
  of := Pm.of
  enc := fun x => .agg (Pm.L x)
  h1 := by
    intro v h
    simp only [Pm.Is] at h
    split at h
    · rename_i c0 c1 c2 c3 c4
      have hv := Pm.v_c (c := fun | 0 => c0 | 1 => c1 | 2 => c2 | 3 => c3 | 4 => c4 | _ => .und) h
      simp only [vp_agg,Pm.L,vp_cons,vp_nil]
      exact ⟨hv 0 (by omega),hv 1 (by omega),hv 2 (by omega),hv 3 (by omega),hv 4 (by omega),trivial⟩
    · exact h.elim
  h2 := fun x => Pm.d_c x
theorem Pm.is_enc (x : Pm) : Pm.Is (.agg (Pm.L x)) := of_eq_true (Pm.w_c x)
structure Pl where
  x : Int
  y : Int
def Pl.L (x : Pl) : Val := .cons (.int .i64 x.x) (.cons (.int .i64 x.y) (.nil))
def Pl.c (x : Pl) : Nat → Val
  | 0 => .int .i64 x.x
  | 1 => .int .i64 x.y
  | _ => .und
theorem Pl.c0 (x : Pl) : Pl.c x 0 = .int .i64 x.x := rfl
theorem Pl.c1 (x : Pl) : Pl.c x 1 = .int .i64 x.y := rfl
def Pl.d (c : Nat → Val) : Pl := ⟨(c 0).toInt,(c 1).toInt⟩
def Pl.w (c : Nat → Val) : Prop := (c 0) = .int .i64 ((c 0).toInt) ∧ (c 1) = .int .i64 ((c 1).toInt)
theorem Pl.d_c (x : Pl) : Pl.d (Pl.c x) = x := by
  simp only [Pl.d,Pl.c,Val.toInt,Val.toBool,Val.slen,Val.scell]
theorem Pl.w_c (x : Pl) : Pl.w (Pl.c x) = True := by
  refine eq_true ?_
  simp only [Pl.w,Pl.c,Val.toInt,Val.toBool,Val.slen,Val.scell,and_self,true_and,and_true]
theorem Pl.v_c {c : Nat → Val} (h : Pl.w c) : ∀ j,j < 2 → vsubP (Pl.c (Pl.d c) j) (c j) := by
  simp only [Pl.w] at h
  obtain ⟨h0,h1⟩ := h
  intro j hj
  rcases (by omega : j = 0 ∨ j = 1) with rfl | rfl
  · rw [h0]; rfl
  · rw [h1]; rfl
def RPl : RT Pl where
  k := 2
  W := fun n c => ∀ i,i < n → Pl.w (c i)
  D := fun c i => Pl.d (c i)
  C := Pl.c
  h1 := fun n c h i hi j hj => Pl.v_c (h i hi) j hj
  h2 := fun x => funext fun i => Pl.d_c (x i)
  w_enc := fun n x i _ => of_eq_true (Pl.w_c (x i))
def Pl.Is : Val → Prop
  | .agg (.cons c0 (.cons c1 .nil)) => c0 = .int .i64 (c0.toInt) ∧ c1 = .int .i64 (c1.toInt)
  | _ => False
def Pl.of (v : Val) : Pl := Pl.d (vget (cellsOf v))
theorem Pl.eta (x : Pl) : (⟨x.x,x.y⟩ : Pl) = x := rfl
def TPl : VT Pl where
  Is := Pl.Is
  of := Pl.of
  enc := fun x => .agg (Pl.L x)
  h1 := by
    intro v h
    simp only [Pl.Is] at h
    split at h
    · rename_i c0 c1
      have hv := Pl.v_c (c := fun | 0 => c0 | 1 => c1 | _ => .und) h
      simp only [vp_agg,Pl.L,vp_cons,vp_nil]
      exact ⟨hv 0 (by omega),hv 1 (by omega),trivial⟩
    · exact h.elim
  h2 := fun x => Pl.d_c x
theorem Pl.is_enc (x : Pl) : Pl.Is (.agg (Pl.L x)) := of_eq_true (Pl.w_c x)
structure Gv where
  palms : Nat × (Nat → Pm)
  places : Nat × (Nat → Pl)
  reach : Int
  hatch : Int
  shows : Int
  start : Int
  sus : Nat × (Nat → Int)
def Gv.L (x : Gv) : Val := .cons (.view RPm.k (x.palms).1 fun a b => RPm.C ((x.palms).2 a) b) (.cons (.view RPl.k (x.places).1 fun a b => RPl.C ((x.places).2 a) b) (.cons (.int .i64 x.reach) (.cons (.int .i64 x.hatch) (.cons (.int .i64 x.shows) (.cons (.int .i64 x.start) (.cons (.view (RInt .i64).k (x.sus).1 fun a b => (RInt .i64).C ((x.sus).2 a) b) (.nil)))))))
def Gv.c (x : Gv) : Nat → Val
  | 0 => .view RPm.k (x.palms).1 fun a b => RPm.C ((x.palms).2 a) b
  | 1 => .view RPl.k (x.places).1 fun a b => RPl.C ((x.places).2 a) b
  | 2 => .int .i64 x.reach
  | 3 => .int .i64 x.hatch
  | 4 => .int .i64 x.shows
  | 5 => .int .i64 x.start
  | 6 => .view (RInt .i64).k (x.sus).1 fun a b => (RInt .i64).C ((x.sus).2 a) b
  | _ => .und
theorem Gv.c0 (x : Gv) : Gv.c x 0 = .view RPm.k (x.palms).1 fun a b => RPm.C ((x.palms).2 a) b := rfl
theorem Gv.c1 (x : Gv) : Gv.c x 1 = .view RPl.k (x.places).1 fun a b => RPl.C ((x.places).2 a) b := rfl
theorem Gv.c2 (x : Gv) : Gv.c x 2 = .int .i64 x.reach := rfl
theorem Gv.c3 (x : Gv) : Gv.c x 3 = .int .i64 x.hatch := rfl
theorem Gv.c4 (x : Gv) : Gv.c x 4 = .int .i64 x.shows := rfl
theorem Gv.c5 (x : Gv) : Gv.c x 5 = .int .i64 x.start := rfl
theorem Gv.c6 (x : Gv) : Gv.c x 6 = .view (RInt .i64).k (x.sus).1 fun a b => (RInt .i64).C ((x.sus).2 a) b := rfl
def Gv.d (c : Nat → Val) : Gv := ⟨((c 0).slen,RPm.D (c 0).scell),((c 1).slen,RPl.D (c 1).scell),(c 2).toInt,(c 3).toInt,(c 4).toInt,(c 5).toInt,((c 6).slen,(RInt .i64).D (c 6).scell)⟩
def Gv.w (c : Nat → Val) : Prop := ((c 0) = .view RPm.k (c 0).slen (c 0).scell ∧ RPm.W (c 0).slen (c 0).scell) ∧ ((c 1) = .view RPl.k (c 1).slen (c 1).scell ∧ RPl.W (c 1).slen (c 1).scell) ∧ (c 2) = .int .i64 ((c 2).toInt) ∧ (c 3) = .int .i64 ((c 3).toInt) ∧ (c 4) = .int .i64 ((c 4).toInt) ∧ (c 5) = .int .i64 ((c 5).toInt) ∧ ((c 6) = .view (RInt .i64).k (c 6).slen (c 6).scell ∧ (RInt .i64).W (c 6).slen (c 6).scell)
theorem Gv.d_c (x : Gv) : Gv.d (Gv.c x) = x := by
  simp only [Gv.d,Gv.c,Val.toInt,Val.toBool,Val.slen,Val.scell]
  try simp only [RT.h2]
theorem Gv.w_c (x : Gv) : Gv.w (Gv.c x) = True := by
  refine eq_true ?_
  simp only [Gv.w,Gv.c,Val.toInt,Val.toBool,Val.slen,Val.scell,and_self,true_and,and_true]
  exact ⟨RPm.w_enc _ _,RPl.w_enc _ _,(RInt .i64).w_enc _ _⟩
theorem Gv.v_c {c : Nat → Val} (h : Gv.w c) : ∀ j,j < 7 → vsubP (Gv.c (Gv.d c) j) (c j) := by
  simp only [Gv.w] at h
  obtain ⟨h0,h1,h2,h3,h4,h5,h6⟩ := h
  intro j hj
  rcases (by omega : j = 0 ∨ j = 1 ∨ j = 2 ∨ j = 3 ∨ j = 4 ∨ j = 5 ∨ j = 6) with rfl | rfl | rfl | rfl | rfl | rfl | rfl
  · obtain ⟨e,h⟩ := h0; rw [e]; simp only [Gv.c,Gv.d,vp_view,Val.slen,Val.scell,true_and]; exact RPm.h1 _ _ h
  · obtain ⟨e,h⟩ := h1; rw [e]; simp only [Gv.c,Gv.d,vp_view,Val.slen,Val.scell,true_and]; exact RPl.h1 _ _ h
  · rw [h2]; rfl
  · rw [h3]; rfl
  · rw [h4]; rfl
  · rw [h5]; rfl
  · obtain ⟨e,h⟩ := h6; rw [e]; simp only [Gv.c,Gv.d,vp_view,Val.slen,Val.scell,true_and]; exact (RInt .i64).h1 _ _ h
def RGv : RT Gv where
  k := 7
  W := fun n c => ∀ i,i < n → Gv.w (c i)
  D := fun c i => Gv.d (c i)
  C := Gv.c
  h1 := fun n c h i hi j hj => Gv.v_c (h i hi) j hj
  h2 := fun x => funext fun i => Gv.d_c (x i)
  w_enc := fun n x i _ => of_eq_true (Gv.w_c (x i))
def Gv.Is : Val → Prop
  | .agg (.cons c0 (.cons c1 (.cons c2 (.cons c3 (.cons c4 (.cons c5 (.cons c6 .nil))))))) => (c0 = .view RPm.k c0.slen c0.scell ∧ RPm.W c0.slen c0.scell) ∧ (c1 = .view RPl.k c1.slen c1.scell ∧ RPl.W c1.slen c1.scell) ∧ c2 = .int .i64 (c2.toInt) ∧ c3 = .int .i64 (c3.toInt) ∧ c4 = .int .i64 (c4.toInt) ∧ c5 = .int .i64 (c5.toInt) ∧ (c6 = .view (RInt .i64).k c6.slen c6.scell ∧ (RInt .i64).W c6.slen c6.scell)
  | _ => False
def Gv.of (v : Val) : Gv := Gv.d (vget (cellsOf v))
theorem Gv.eta (x : Gv) : (⟨x.palms,x.places,x.reach,x.hatch,x.shows,x.start,x.sus⟩ : Gv) = x := rfl
def TGv : VT Gv where
  Is := Gv.Is
  of := Gv.of
  enc := fun x => .agg (Gv.L x)
  h1 := by
    intro v h
    simp only [Gv.Is] at h
    split at h
    · rename_i c0 c1 c2 c3 c4 c5 c6
      have hv := Gv.v_c (c := fun | 0 => c0 | 1 => c1 | 2 => c2 | 3 => c3 | 4 => c4 | 5 => c5 | 6 => c6 | _ => .und) h
      simp only [vp_agg,Gv.L,vp_cons,vp_nil]
      exact ⟨hv 0 (by omega),hv 1 (by omega),hv 2 (by omega),hv 3 (by omega),hv 4 (by omega),hv 5 (by omega),hv 6 (by omega),trivial⟩
    · exact h.elim
  h2 := fun x => Gv.d_c x
theorem Gv.is_enc (x : Gv) : Gv.Is (.agg (Gv.L x)) := of_eq_true (Gv.w_c x)
structure Sg where
  kind : Int
  palm : Int
  day : Int
  trap : Pl
  near : Int
def Sg.L (x : Sg) : Val := .cons (.int .u8 x.kind) (.cons (.int .i64 x.palm) (.cons (.int .i64 x.day) (.cons (.int .i64 x.trap.x) (.cons (.int .i64 x.trap.y) (.cons (.int .i64 x.near) (.nil))))))
def Sg.c (x : Sg) : Nat → Val
  | 0 => .int .u8 x.kind
  | 1 => .int .i64 x.palm
  | 2 => .int .i64 x.day
  | 3 => .int .i64 x.trap.x
  | 4 => .int .i64 x.trap.y
  | 5 => .int .i64 x.near
  | _ => .und
theorem Sg.c0 (x : Sg) : Sg.c x 0 = .int .u8 x.kind := rfl
theorem Sg.c1 (x : Sg) : Sg.c x 1 = .int .i64 x.palm := rfl
theorem Sg.c2 (x : Sg) : Sg.c x 2 = .int .i64 x.day := rfl
theorem Sg.c3 (x : Sg) : Sg.c x 3 = .int .i64 x.trap.x := rfl
theorem Sg.c4 (x : Sg) : Sg.c x 4 = .int .i64 x.trap.y := rfl
theorem Sg.c5 (x : Sg) : Sg.c x 5 = .int .i64 x.near := rfl
def Sg.d (c : Nat → Val) : Sg := ⟨(c 0).toInt,(c 1).toInt,(c 2).toInt,⟨(c 3).toInt,(c 4).toInt⟩,(c 5).toInt⟩
def Sg.w (c : Nat → Val) : Prop := (c 0) = .int .u8 ((c 0).toInt) ∧ (c 1) = .int .i64 ((c 1).toInt) ∧ (c 2) = .int .i64 ((c 2).toInt) ∧ (c 3) = .int .i64 ((c 3).toInt) ∧ (c 4) = .int .i64 ((c 4).toInt) ∧ (c 5) = .int .i64 ((c 5).toInt)
theorem Sg.d_c (x : Sg) : Sg.d (Sg.c x) = x := by
  simp only [Sg.d,Sg.c,Val.toInt,Val.toBool,Val.slen,Val.scell]
theorem Sg.w_c (x : Sg) : Sg.w (Sg.c x) = True := by
  refine eq_true ?_
  simp only [Sg.w,Sg.c,Val.toInt,Val.toBool,Val.slen,Val.scell,and_self,true_and,and_true]
theorem Sg.v_c {c : Nat → Val} (h : Sg.w c) : ∀ j,j < 6 → vsubP (Sg.c (Sg.d c) j) (c j) := by
  simp only [Sg.w] at h
  obtain ⟨h0,h1,h2,h3,h4,h5⟩ := h
  intro j hj
  rcases (by omega : j = 0 ∨ j = 1 ∨ j = 2 ∨ j = 3 ∨ j = 4 ∨ j = 5) with rfl | rfl | rfl | rfl | rfl | rfl
  · rw [h0]; rfl
  · rw [h1]; rfl
  · rw [h2]; rfl
  · rw [h3]; rfl
  · rw [h4]; rfl
  · rw [h5]; rfl
def RSg : RT Sg where
  k := 6
  W := fun n c => ∀ i,i < n → Sg.w (c i)
  D := fun c i => Sg.d (c i)
  C := Sg.c
  h1 := fun n c h i hi j hj => Sg.v_c (h i hi) j hj
  h2 := fun x => funext fun i => Sg.d_c (x i)
  w_enc := fun n x i _ => of_eq_true (Sg.w_c (x i))
def Sg.Is : Val → Prop
  | .agg (.cons c0 (.cons c1 (.cons c2 (.cons c3 (.cons c4 (.cons c5 .nil)))))) => c0 = .int .u8 (c0.toInt) ∧ c1 = .int .i64 (c1.toInt) ∧ c2 = .int .i64 (c2.toInt) ∧ c3 = .int .i64 (c3.toInt) ∧ c4 = .int .i64 (c4.toInt) ∧ c5 = .int .i64 (c5.toInt)
  | _ => False
def Sg.of (v : Val) : Sg := Sg.d (vget (cellsOf v))
theorem Sg.eta (x : Sg) : (⟨x.kind,x.palm,x.day,x.trap,x.near⟩ : Sg) = x := rfl
def TSg : VT Sg where
  Is := Sg.Is
  of := Sg.of
  enc := fun x => .agg (Sg.L x)
  h1 := by
    intro v h
    simp only [Sg.Is] at h
    split at h
    · rename_i c0 c1 c2 c3 c4 c5
      have hv := Sg.v_c (c := fun | 0 => c0 | 1 => c1 | 2 => c2 | 3 => c3 | 4 => c4 | 5 => c5 | _ => .und) h
      simp only [vp_agg,Sg.L,vp_cons,vp_nil]
      exact ⟨hv 0 (by omega),hv 1 (by omega),hv 2 (by omega),hv 3 (by omega),hv 4 (by omega),hv 5 (by omega),trivial⟩
    · exact h.elim
  h2 := fun x => Sg.d_c x
theorem Sg.is_enc (x : Sg) : Sg.Is (.agg (Sg.L x)) := of_eq_true (Sg.w_c x)
end Go.Proofs.Ytpknbojgkkmonaa
