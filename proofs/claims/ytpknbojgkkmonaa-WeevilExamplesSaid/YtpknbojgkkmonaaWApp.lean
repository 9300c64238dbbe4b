/- Groves: a sign appended. No condition. -/
import Derived.Test.YtpknbojgkkmonaaWRdy
set_option linter.unusedSimpArgs false
set_option linter.unusedVariables false
namespace Go.Proofs.Ytpknbojgkkmonaa
open Go Go.RowKit
def snocF (l : Sgs) (s : Sg) (k : Nat) : Sg := if k < l.1 then l.2 k else if k = l.1 then s else ⟨0,0,0,⟨0,0⟩,0⟩
theorem snoc_l {l : Sgs} {s : Sg} {k : Nat} (h : k < l.1) : snocF l s k = l.2 k := if_pos h
theorem snoc_r {l : Sgs} {s : Sg} : snocF l s l.1 = s := by unfold snocF; rw [if_neg (Nat.lt_irrefl _),if_pos rfl]
abbrev sgV (a b c d e f : Int) : Val := .cons (.int .u8 a) (.cons (.int .i64 b) (.cons (.int .i64 c) (.cons (.int .i64 d) (.cons (.int .i64 e) (.cons (.int .i64 f) .nil)))))
theorem vget_z (v : Val) (k : Nat) (h : 0 < k) : vget (.cons v .nil) k = .und := by
  cases k with
  | zero => exact absurd h (Nat.lt_irrefl _)
  | succ k => rfl
theorem ap_all (l : Sgs) (a b c d e f : Int) :
    (∀ k,Val.toInt (if k < l.1 then (if k < 0 then .und else .int .u8 (l.2 k).kind) else vget (vget (.cons (sgV a b c d e f) .nil) (k - l.1)) 0) = (snocF l ⟨a,b,c,⟨d,e⟩,f⟩ k).kind) ∧
    (∀ k,Val.toInt (if k < l.1 then (if k < 0 then .und else .int .i64 (l.2 k).palm) else vget (vget (.cons (sgV a b c d e f) .nil) (k - l.1)) 1) = (snocF l ⟨a,b,c,⟨d,e⟩,f⟩ k).palm) ∧
    (∀ k,Val.toInt (if k < l.1 then (if k < 0 then .und else .int .i64 (l.2 k).day) else vget (vget (.cons (sgV a b c d e f) .nil) (k - l.1)) 2) = (snocF l ⟨a,b,c,⟨d,e⟩,f⟩ k).day) ∧
    (∀ k,Val.toInt (if k < l.1 then (if k < 0 then .und else .int .i64 (l.2 k).trap.x) else vget (vget (.cons (sgV a b c d e f) .nil) (k - l.1)) 3) = (snocF l ⟨a,b,c,⟨d,e⟩,f⟩ k).trap.x) ∧
    (∀ k,Val.toInt (if k < l.1 then (if k < 0 then .und else .int .i64 (l.2 k).trap.y) else vget (vget (.cons (sgV a b c d e f) .nil) (k - l.1)) 4) = (snocF l ⟨a,b,c,⟨d,e⟩,f⟩ k).trap.y) ∧
    (∀ k,Val.toInt (if k < l.1 then (if k < 0 then .und else .int .i64 (l.2 k).near) else vget (vget (.cons (sgV a b c d e f) .nil) (k - l.1)) 5) = (snocF l ⟨a,b,c,⟨d,e⟩,f⟩ k).near) := by
  refine ⟨?_,?_,?_,?_,?_,?_⟩
  all_goals
    intro k
    by_cases h1 : k < l.1
    · rw [if_pos h1,if_neg (Nat.not_lt_zero _),snoc_l h1]; rfl
    · by_cases h2 : k = l.1
      · subst h2; rw [if_neg h1,snoc_r,Nat.sub_self]; rfl
      · rw [if_neg h1,vget_z _ _ (by omega)]; unfold snocF; rw [if_neg h1,if_neg h2]; rfl
theorem ap_w (l : Sgs) (a b c d e f : Int) : ∀ k,k < l.1 + 1 → Sg.w fun j => if k < l.1 then (if k < 0 then .und else (l.2 k).c j) else vget (vget (.cons (sgV a b c d e f) .nil) (k - l.1)) j := by
  intro k hk
  by_cases h1 : k < l.1
  · simp only [if_pos h1,Nat.not_lt_zero,if_false]; exact of_eq_true (Sg.w_c _)
  · obtain rfl : k = l.1 := by omega
    simp only [Nat.lt_irrefl,if_false,Nat.sub_self]; exact ⟨rfl,rfl,rfl,rfl,rfl,rfl⟩
section
variable {G : Nat → Option (Nat × (Nat → Val))} {P : Program} {id : FuncId}
theorem PureOk.weak {s s' : Spec} (h : PureOk P G id s) (ho : s'.own = none) (hp : ∀ vs,s'.pre vs → s.pre vs ∧ vsubP (s'.res vs) (s.res vs)) : PureOk P G id s' :=
  ⟨h.ent,fun A w vs cs hG hr hq => (h.run A w vs cs hG hr (hp vs hq).1).mono fun _ _ ⟨x,h1,h2,h3,_⟩ => ⟨x,h1,vsubP_rep _ _ _ (hp vs hq).2 h2,h3,fun e' he => by rw [ho] at he; cases he⟩⟩
noncomputable def sSoonEr : Spec := spec2 TGv (TSl RSg) (fun _ _ => True) fun g l => .tup (.cons .und (.cons (.int .i64 (stA g l)) (.cons (.int .i64 (stE g l)) .nil)))
theorem pSoonEr : PureOk Try.prog G 22 sSoonEr := by
  refine pSoonest.weak rfl fun vs hp => ?_
  simp only [sSoonEr,sSoonest,spec2] at hp ⊢
  split at hp
  · exact ⟨hp,⟨_,rfl,_,_,rfl,trivial,_,_,rfl,rfl,_,_,rfl,rfl,rfl⟩⟩
  · exact hp.elim
end
end Go.Proofs.Ytpknbojgkkmonaa
