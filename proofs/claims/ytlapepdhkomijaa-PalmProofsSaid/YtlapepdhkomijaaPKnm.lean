/- The program's net, as its boxes. No condition. -/
import Derived.Test.YtlapepdhkomijaaPEdg2
import Derived.Test.YtlapepdhkomijaaPNp
set_option linter.unusedSimpArgs false
set_option linter.unusedVariables false
namespace Go.Proofs.Ytlapepdhkomijaa
open Go Go.RowKit
def leftL (f : Int) (tk : Nat → Bool) (us : Nat → Int) : Val := .cons (.int .i64 f) (.cons (.bool (tk 0)) (.cons (.bool (tk 1)) (.cons (.bool (tk 2)) (.cons (.bool (tk 3)) (.cons (.bool (tk 4)) (.cons (.bool (tk 5)) (.cons (.bool (tk 6)) (.cons (.bool (tk 7)) (.cons (.bool (tk 8)) (.cons (.bool (tk 9)) (.cons (.bool (tk 10)) (.cons (.bool (tk 11)) (.cons (.bool (tk 12)) (.cons (.bool (tk 13)) (.cons (.bool (tk 14)) (.cons (.bool (tk 15)) (.cons (.int .i64 (us 0)) (.cons (.int .i64 (us 1)) (.cons (.int .i64 (us 2)) (.cons (.int .i64 (us 3)) .nil))))))))))))))))))))
theorem vlen_left {f : Int} {tk : Nat → Bool} {us : Nat → Int} : vlen (leftL f tk us) = 21 := rfl
theorem isLB_left {f : Int} {tk : Nat → Bool} {us : Nat → Int} : isLB (leftL f tk us) = true := rfl
theorem renV_left {f : Int} {tk : Nat → Bool} {us : Nat → Int} {a b : Bn} : renV a b (leftL f tk us) = leftL f tk us := rfl
theorem subV_left {f : Int} {tk : Nat → Bool} {us : Nat → Int} {a : Bn} {v : Val} : subV a v (leftL f tk us) = leftL f tk us := rfl
theorem vsub_left {N D : Bn → Prop} {f : Int} {tk : Nat → Bool} {us : Nat → Int} : vsub N D (leftL f tk us) (leftL f tk us) = True := eq_true (by simp [leftL,vsub])
theorem vget_left0 {f : Int} {tk : Nat → Bool} {us : Nat → Int} : vget (leftL f tk us) 0 = .int .i64 f := rfl
theorem vget_leftT {f : Int} {tk : Nat → Bool} {us : Nat → Int} {z : Nat} (h : z < 16) : vget (leftL f tk us) (1 + z) = .bool (tk z) := by
 rcases z with _ | _ | _ | _ | _ | _ | _ | _ | _ | _ | _ | _ | _ | _ | _ | _ | z
 all_goals first | rfl | (exfalso; omega)
theorem vget_leftU {f : Int} {tk : Nat → Bool} {us : Nat → Int} {z : Nat} (h : z < 4) : vget (leftL f tk us) (17 + z) = .int .i64 (us z) := by
 match z,h with
 | 0,_ | 1,_ | 2,_ | 3,_ => rfl
def edgC (T : KSt) (i j : Nat) : Val := if j = 0 then .int .i64 (T.tw i) else .int .i64 (T.lf i)
def netL (w : Wk) (E M : Nat) (z : Val) : Val := .cons (.int .i64 w.day) (.cons (.view 3 w.spathes.1 fun a b => (w.spathes.2 a).c b) (.cons (.view 1 w.hours.1 fun a b => .int .i64 (w.hours.2 a)) (.cons (.view 4 w.lots.1 fun a b => (w.lots.2 a).c b) (.cons (.int .i64 w.opn) (.cons (.own (.n E)) (.cons (.mapb (.n M)) (.cons z .nil)))))))
theorem subBox_ite {b : Bn} {v : Val} {c : Prop} [Decidable c] {x y : Box} : subBox b v (if c then x else y) = if c then subBox b v x else subBox b v y := by split <;> rfl
theorem noIt1_ite {b : Bn} {c : Prop} [Decidable c] {x y : Box} : noIt1 b (if c then x else y) = if c then noIt1 b x else noIt1 b y := by split <;> rfl
theorem subV_ite {b : Bn} {v : Val} {c : Prop} [Decidable c] {x y : Val} : subV b v (if c then x else y) = if c then subV b v x else subV b v y := by split <;> rfl
theorem edg_link {T : KSt} {u v : Nat} {c V U : Int} (hV : V = (v : Int)) (hU : U = (u : Int)) : ∀ i,i < T.m + 2 → ∀ b,b < 2 → vsubP (edgC (linkT T u v c) i b) (if i < T.m then edgC T i b else vget (vget (.cons (.cons (.int .i64 V) (.cons (.int .i64 c) .nil)) (.cons (.cons (.int .i64 U) (.cons (.int .i64 0) .nil)) .nil)) (i - T.m)) b) := by
 subst hV; subst hU
 intro i hi b hb
 unfold edgC linkT
 by_cases h : i < T.m
 ·rw [if_pos h]
  simp only [if_neg (show ¬ i = T.m by omega),if_neg (show ¬ i = T.m + 1 by omega)]
  split <;> (rw [vsubP_self]; trivial)
 ·rw [if_neg h]
  by_cases h2 : i = T.m
  ·subst h2
   rw [Nat.sub_self]
   match b,hb with
   | 0,_ => simp [vget,vsubP_self]
   | 1,_ => simp [vget,vsubP_self]
  ·obtain rfl : i = T.m + 1 := by omega
   rw [Nat.add_sub_cancel_left]
   match b,hb with
   | 0,_ => simp [vget,vsubP_self]
   | 1,_ => simp [vget,vsubP_self]
theorem fam_link {N D : Bn → Prop} {bx : Bx} {F : Nat} {e : TypeId} {T : KSt} {u v : Nat} {c V U : Int} (hV : V = (v : Int)) (hU : U = (u : Int)) (huv : u ≠ v)
  (h : ∀ z,bget bx (.f F z) = some (if z = V then .row e 1 (T.ln V + 1) (fun i j => if i < T.ln V then .int .i64 (T.ix V i) else vget (vget (.cons (.cons (.int .i64 ((T.m + 1 : Nat) : Int)) .nil) .nil) (i - T.ln V)) j) else if z = U then .row e 1 (T.ln U + 1) (fun i j => if i < T.ln U then .int .i64 (T.ix U i) else vget (vget (.cons (.cons (.int .i64 (T.m : Int)) .nil) .nil) (i - T.ln U)) j) else .row e 1 (T.ln z) fun i _ => .int .i64 (T.ix z i))) :
  chkFam N D bx F (fun _ => true) (fun z => .row e 1 ((linkT T u v c).ln z) fun i _ => .int .i64 ((linkT T u v c).ix z i)) := by
 subst hV; subst hU
 intro z _
 rw [h z]
 unfold linkT
 by_cases h1 : z = (v : Int)
 ·subst h1
  simp only [if_true]
  refine ⟨rfl,rfl,rfl,fun i hi j hj => ?_⟩
  obtain rfl : j = 0 := by omega
  dsimp only
  by_cases h3 : i < T.ln (v : Int)
  ·rw [if_pos h3,if_pos h3,vsubP_self]; trivial
  ·obtain rfl : i = T.ln (v : Int) := by omega
   rw [if_neg h3,if_neg h3,Nat.sub_self]; simp [vget,vsubP_self]
 ·simp only [if_neg h1]
  by_cases h2 : z = (u : Int)
  ·subst h2
   simp only [if_true]
   refine ⟨rfl,rfl,rfl,fun i hi j hj => ?_⟩
   obtain rfl : j = 0 := by omega
   dsimp only
   by_cases h3 : i < T.ln (u : Int)
   ·rw [if_pos h3,if_pos h3,vsubP_self]; trivial
   ·obtain rfl : i = T.ln (u : Int) := by omega
    rw [if_neg h3,if_neg h3,Nat.sub_self]; simp [vget,vsubP_self]
  ·simp only [if_neg h2]
   exact ⟨rfl,rfl,rfl,fun i hi j hj => by rw [vsubP_self]; trivial⟩
theorem vsub_nilm {N D : Bn → Prop} : vsub N D .nilm .nilm = True := eq_true rfl
theorem chkFam_cell {N D : Bn → Prop} {bx : Bx} {F : Nat} {i : Int} {n : Int} (h : bget bx (.f F i) = some (.cells (.cons (.int .i64 n) .nil))) : chkFam N D bx F (fun z => decide (z = i)) fun _ => .cells (.cons (.int .i64 n) .nil) := by
 intro z hz
 obtain rfl := of_decide_eq_true hz
 rw [h]
 exact ⟨rfl,_,_,rfl,rfl,rfl⟩
theorem ChkF.renM {ns : List Nat} {fr fr' : Fr} {bx bx' : Bx} {nx nx' : Nat} (la : List (Bn × Bn)) (hl : ∀ p ∈ la,∀ n ∈ ns,n ≤ p.1.id) (hc : match rens la (fr,bx) with | some (fr2,bx2) => Chk fr2 bx2 fr' bx' nx nx' | none => False) : ChkF ns fr bx fr' bx' nx nx' := by
 split at hc
 ·rename_i fr2 bx2 h
  exact ⟨[],la,fun _ h => (by cases h),hl,fr,bx,rfl,fr2,bx2,h,hc⟩
 ·exact hc.elim
theorem chkFam_self {N D : Bn → Prop} {bx : Bx} {F : Nat} {e : TypeId} {n : Int → Nat} {c : Int → Nat → Nat} (h : ∀ z : Int,True → bget bx (.f F z) = some (.row e 1 (n z) fun i _ => .int .i64 (c z i))) : chkFam N D bx F (fun _ => true) (fun z => .row e 1 (n z) fun i _ => .int .i64 (c z i)) := by
 intro z _
 rw [h z trivial]
 exact ⟨rfl,rfl,rfl,fun i _ j _ => by rw [vsubP_self]; trivial⟩
theorem edg_at {T : KSt} {m : Nat} {tw : Nat → Nat} {lf : Nat → Int} {ce : Nat → Nat → Val} (h : ∀ k,k < m → ce k 0 = .int .i64 (tw k) ∧ ce k 1 = .int .i64 (lf k)) {i j : Nat} (hi : i < m) (hj : j < 2) : vsubP (edgC ⟨m,tw,lf,T.ln,T.ix⟩ i j) (ce i j) := by
 obtain ⟨h1,h2⟩ := h i hi
 match j,hj with
 | 0,_ => rw [h1]; exact rfl
 | 1,_ => rw [h2]; exact rfl
end Go.Proofs.Ytlapepdhkomijaa
