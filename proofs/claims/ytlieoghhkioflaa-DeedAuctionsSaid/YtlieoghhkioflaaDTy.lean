/- Auctions: the types. No condition. -/
import Derived.Test.YtlieoghhkioflaaE4
set_option linter.unusedSimpArgs false
set_option linter.unusedVariables false
namespace Go.Proofs.Ytlieoghhkioflaa
open Go Go.RowKit
structure Tu where
 fro : Int
 til : Int
def Tu.L (x : Tu) : Val := .cons (.int .i64 x.fro) (.cons (.int .i64 x.til) (.nil))
def Tu.c (x : Tu) : Nat → Val
 | 0 => .int .i64 x.fro
 | 1 => .int .i64 x.til
 | _ => .und
theorem Tu.c0 (x : Tu) : Tu.c x 0 = .int .i64 x.fro := rfl
theorem Tu.c1 (x : Tu) : Tu.c x 1 = .int .i64 x.til := rfl
def Tu.d (c : Nat → Val) : Tu := ⟨(c 0).toInt,(c 1).toInt⟩
def Tu.w (c : Nat → Val) : Prop := (c 0) = .int .i64 ((c 0).toInt) ∧ (c 1) = .int .i64 ((c 1).toInt)
theorem Tu.d_c (x : Tu) : Tu.d (Tu.c x) = x := by
 simp only [Tu.d,Tu.c,Val.toInt,Val.toBool,Val.slen,Val.scell]
theorem Tu.w_c (x : Tu) : Tu.w (Tu.c x) = True := by
 refine eq_true ?_
 simp only [Tu.w,Tu.c,Val.toInt,Val.toBool,Val.slen,Val.scell,and_self,true_and,and_true]
theorem Tu.v_c {c : Nat → Val} (h : Tu.w c) : ∀ j,j < 2 → vsubP (Tu.c (Tu.d c) j) (c j) := by
 simp only [Tu.w] at h
 obtain ⟨h0,h1⟩ := h
 intro j hj
 rcases (by omega : j = 0 ∨ j = 1) with rfl | rfl
 ·rw [h0]; rfl
 ·rw [h1]; rfl
def RTu : RT Tu where
 k := 2
 W := fun n c => ∀ i,i < n → Tu.w (c i)
 D := fun c i => Tu.d (c i)
 C := Tu.c
 h1 := fun n c h i hi j hj => Tu.v_c (h i hi) j hj
 h2 := fun x => funext fun i => Tu.d_c (x i)
 w_enc := fun n x i _ => of_eq_true (Tu.w_c (x i))
def Tu.Is : Val → Prop
 | .agg (.cons c0 (.cons c1 .nil)) => c0 = .int .i64 (c0.toInt) ∧ c1 = .int .i64 (c1.toInt)
 | _ => False
def Tu.of (v : Val) : Tu := Tu.d (vget (cellsOf v))
theorem Tu.eta (x : Tu) : (⟨x.fro,x.til⟩ : Tu) = x := rfl
def TTu : VT Tu where
 Is := Tu.Is
 of := Tu.of
 enc := fun x => .agg (Tu.L x)
 h1 := by
  intro v h
  simp only [Tu.Is] at h
  split at h
  ·rename_i c0 c1
   have hv := Tu.v_c (c := fun | 0 => c0 | 1 => c1 | _ => .und) h
   simp only [vp_agg,Tu.L,vp_cons,vp_nil]
   exact ⟨hv 0 (by omega),hv 1 (by omega),trivial⟩
  ·exact h.elim
 h2 := fun x => Tu.d_c x
theorem Tu.is_enc (x : Tu) : Tu.Is (.agg (Tu.L x)) := of_eq_true (Tu.w_c x)
structure Bd where
 who : Int
 turn : Tu
 baisa : Int
def Bd.L (x : Bd) : Val := .cons (.int .i64 x.who) (.cons (.int .i64 x.turn.fro) (.cons (.int .i64 x.turn.til) (.cons (.int .i64 x.baisa) (.nil))))
def Bd.c (x : Bd) : Nat → Val
 | 0 => .int .i64 x.who
 | 1 => .int .i64 x.turn.fro
 | 2 => .int .i64 x.turn.til
 | 3 => .int .i64 x.baisa
 | _ => .und
theorem Bd.c0 (x : Bd) : Bd.c x 0 = .int .i64 x.who := rfl
theorem Bd.c1 (x : Bd) : Bd.c x 1 = .int .i64 x.turn.fro := rfl
theorem Bd.c2 (x : Bd) : Bd.c x 2 = .int .i64 x.turn.til := rfl
theorem Bd.c3 (x : Bd) : Bd.c x 3 = .int .i64 x.baisa := rfl
def Bd.d (c : Nat → Val) : Bd := ⟨(c 0).toInt,⟨(c 1).toInt,(c 2).toInt⟩,(c 3).toInt⟩
def Bd.w (c : Nat → Val) : Prop := (c 0) = .int .i64 ((c 0).toInt) ∧ (c 1) = .int .i64 ((c 1).toInt) ∧ (c 2) = .int .i64 ((c 2).toInt) ∧ (c 3) = .int .i64 ((c 3).toInt)
theorem Bd.d_c (x : Bd) : Bd.d (Bd.c x) = x := by
 simp only [Bd.d,Bd.c,Val.toInt,Val.toBool,Val.slen,Val.scell]
theorem Bd.w_c (x : Bd) : Bd.w (Bd.c x) = True := by
 refine eq_true ?_
 simp only [Bd.w,Bd.c,Val.toInt,Val.toBool,Val.slen,Val.scell,and_self,true_and,and_true]
theorem Bd.v_c {c : Nat → Val} (h : Bd.w c) : ∀ j,j < 4 → vsubP (Bd.c (Bd.d c) j) (c j) := by
 simp only [Bd.w] at h
 obtain ⟨h0,h1,h2,h3⟩ := h
 intro j hj
 rcases (by omega : j = 0 ∨ j = 1 ∨ j = 2 ∨ j = 3) with rfl | rfl | rfl | rfl
 ·rw [h0]; rfl
 ·rw [h1]; rfl
 ·rw [h2]; rfl
 ·rw [h3]; rfl
def RBd : RT Bd where
 k := 4
 W := fun n c => ∀ i,i < n → Bd.w (c i)
 D := fun c i => Bd.d (c i)
 C := Bd.c
 h1 := fun n c h i hi j hj => Bd.v_c (h i hi) j hj
 h2 := fun x => funext fun i => Bd.d_c (x i)
 w_enc := fun n x i _ => of_eq_true (Bd.w_c (x i))
def Bd.Is : Val → Prop
 | .agg (.cons c0 (.cons c1 (.cons c2 (.cons c3 .nil)))) => c0 = .int .i64 (c0.toInt) ∧ c1 = .int .i64 (c1.toInt) ∧ c2 = .int .i64 (c2.toInt) ∧ c3 = .int .i64 (c3.toInt)
 | _ => False
def Bd.of (v : Val) : Bd := Bd.d (vget (cellsOf v))
theorem Bd.eta (x : Bd) : (⟨x.who,x.turn,x.baisa⟩ : Bd) = x := rfl
def TBd : VT Bd where
 Is := Bd.Is
 of := Bd.of
 enc := fun x => .agg (Bd.L x)
 h1 := by
  intro v h
  simp only [Bd.Is] at h
  split at h
  ·rename_i c0 c1 c2 c3
   have hv := Bd.v_c (c := fun | 0 => c0 | 1 => c1 | 2 => c2 | 3 => c3 | _ => .und) h
   simp only [vp_agg,Bd.L,vp_cons,vp_nil]
   exact ⟨hv 0 (by omega),hv 1 (by omega),hv 2 (by omega),hv 3 (by omega),trivial⟩
  ·exact h.elim
 h2 := fun x => Bd.d_c x
theorem Bd.is_enc (x : Bd) : Bd.Is (.agg (Bd.L x)) := of_eq_true (Bd.w_c x)
structure Pc where
 turn : Tu
 baisa : Int
def Pc.L (x : Pc) : Val := .cons (.int .i64 x.turn.fro) (.cons (.int .i64 x.turn.til) (.cons (.int .i64 x.baisa) (.nil)))
def Pc.c (x : Pc) : Nat → Val
 | 0 => .int .i64 x.turn.fro
 | 1 => .int .i64 x.turn.til
 | 2 => .int .i64 x.baisa
 | _ => .und
theorem Pc.c0 (x : Pc) : Pc.c x 0 = .int .i64 x.turn.fro := rfl
theorem Pc.c1 (x : Pc) : Pc.c x 1 = .int .i64 x.turn.til := rfl
theorem Pc.c2 (x : Pc) : Pc.c x 2 = .int .i64 x.baisa := rfl
def Pc.d (c : Nat → Val) : Pc := ⟨⟨(c 0).toInt,(c 1).toInt⟩,(c 2).toInt⟩
def Pc.w (c : Nat → Val) : Prop := (c 0) = .int .i64 ((c 0).toInt) ∧ (c 1) = .int .i64 ((c 1).toInt) ∧ (c 2) = .int .i64 ((c 2).toInt)
theorem Pc.d_c (x : Pc) : Pc.d (Pc.c x) = x := by
 simp only [Pc.d,Pc.c,Val.toInt,Val.toBool,Val.slen,Val.scell]
theorem Pc.w_c (x : Pc) : Pc.w (Pc.c x) = True := by
 refine eq_true ?_
 simp only [Pc.w,Pc.c,Val.toInt,Val.toBool,Val.slen,Val.scell,and_self,true_and,and_true]
theorem Pc.v_c {c : Nat → Val} (h : Pc.w c) : ∀ j,j < 3 → vsubP (Pc.c (Pc.d c) j) (c j) := by
 simp only [Pc.w] at h
 obtain ⟨h0,h1,h2⟩ := h
 intro j hj
 rcases (by omega : j = 0 ∨ j = 1 ∨ j = 2) with rfl | rfl | rfl
 ·rw [h0]; rfl
 ·rw [h1]; rfl
 ·rw [h2]; rfl
def RPc : RT Pc where
 k := 3
 W := fun n c => ∀ i,i < n → Pc.w (c i)
 D := fun c i => Pc.d (c i)
 C := Pc.c
 h1 := fun n c h i hi j hj => Pc.v_c (h i hi) j hj
 h2 := fun x => funext fun i => Pc.d_c (x i)
 w_enc := fun n x i _ => of_eq_true (Pc.w_c (x i))
def Pc.Is : Val → Prop
 | .agg (.cons c0 (.cons c1 (.cons c2 .nil))) => c0 = .int .i64 (c0.toInt) ∧ c1 = .int .i64 (c1.toInt) ∧ c2 = .int .i64 (c2.toInt)
 | _ => False
def Pc.of (v : Val) : Pc := Pc.d (vget (cellsOf v))
theorem Pc.eta (x : Pc) : (⟨x.turn,x.baisa⟩ : Pc) = x := rfl
def TPc : VT Pc where
 Is := Pc.Is
 of := Pc.of
 enc := fun x => .agg (Pc.L x)
 h1 := by
  intro v h
  simp only [Pc.Is] at h
  split at h
  ·rename_i c0 c1 c2
   have hv := Pc.v_c (c := fun | 0 => c0 | 1 => c1 | 2 => c2 | _ => .und) h
   simp only [vp_agg,Pc.L,vp_cons,vp_nil]
   exact ⟨hv 0 (by omega),hv 1 (by omega),hv 2 (by omega),trivial⟩
  ·exact h.elim
 h2 := fun x => Pc.d_c x
theorem Pc.is_enc (x : Pc) : Pc.Is (.agg (Pc.L x)) := of_eq_true (Pc.w_c x)
attribute [go_sem] spec0 spec1 spec2 spec3 spec4 spec5 TSl IsSl TInt IsInt TBool IsBool RInt RBool RSl Prod.eta Tu.L Tu.c0 Tu.c1 Tu.Is Tu.of TTu RTu Tu.w_c Tu.d_c Tu.d Tu.eta Bd.L Bd.c0 Bd.c1 Bd.c2 Bd.c3 Bd.Is Bd.of TBd RBd Bd.w_c Bd.d_c Bd.d Bd.eta Pc.L Pc.c0 Pc.c1 Pc.c2 Pc.Is Pc.of TPc RPc Pc.w_c Pc.d_c Pc.d Pc.eta
end Go.Proofs.Ytlieoghhkioflaa
