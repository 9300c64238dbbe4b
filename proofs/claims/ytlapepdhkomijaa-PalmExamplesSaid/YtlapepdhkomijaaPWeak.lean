/- Contracts that say less; what is known, in one form. No condition. -/
import Derived.Test.YtlapepdhkomijaaPAlv
set_option linter.unusedSimpArgs false
set_option linter.unusedVariables false
namespace Go.Proofs.Ytlapepdhkomijaa
open Go Go.RowKit
variable {G : Nat → Option (Nat × (Nat → Val))}
section
variable {P : Program} {id : FuncId}
theorem PureOk.weak {s s' : Spec} (h : PureOk P G id s) (ho : s'.own = none) (hp : ∀ vs,s'.pre vs → s.pre vs ∧ vsubP (s'.res vs) (s.res vs)) : PureOk P G id s' :=
 ⟨h.ent,fun A w vs cs hG hr hq => (h.run A w vs cs hG hr (hp vs hq).1).mono fun _ _ ⟨x,h1,h2,h3,_⟩ => ⟨x,h1,vsubP_rep _ _ _ (hp vs hq).2 h2,h3,fun e' he => by rw [ho] at he; cases he⟩⟩
end
noncomputable def knX (l : Pms) : Int := if pmE l = 0 then (if badI l < l.1 then 71 else 0) else 70
noncomputable def knL (l : Pms) : Nat := if knX l = 0 then l.1 else 0
noncomputable def knI (l : Pms) : Int := if knX l = 71 then badI l else 0
noncomputable def knU (l : Pms) : Val := .tup (.cons (.view 5 (knL l) fun i j => (knP l i).c j) (.cons (.int .i64 (knI l)) (.cons (.int .i64 (knX l)) .nil)))
noncomputable def sKnU : Spec := spec1 (TSl RPm) (fun _ => True) knU
theorem knU_sub (l : Pms) : vsubP (knU l) (knQ l) := by
 by_cases h : pmE l = 0
 ·by_cases hb : badI l < l.1
  ·have e1 : knX l = 71 := by unfold knX; rw [if_pos h,if_pos hb]
   have e2 : knL l = 0 := by unfold knL; rw [e1]; rfl
   have e3 : knI l = badI l := by unfold knI; rw [if_pos e1]
   unfold knU knQ
   rw [if_pos h,if_pos hb,e1,e2,e3]
   exact ⟨_,rfl,_,_,rfl,.inl ⟨rfl,rfl⟩,_,_,rfl,rfl,_,_,rfl,rfl,rfl⟩
  ·have e1 : knX l = 0 := by unfold knX; rw [if_pos h,if_neg hb]
   have e2 : knL l = l.1 := by unfold knL; rw [if_pos e1]
   have e3 : knI l = 0 := by unfold knI; rw [e1]; rfl
   unfold knU knQ
   rw [if_pos h,if_neg hb,e1,e2,e3]
   rw [vsubP_self]; trivial
 ·have e1 : knX l = 70 := by unfold knX; rw [if_neg h]
  have e2 : knL l = 0 := by unfold knL; rw [e1]; rfl
  have e3 : knI l = 0 := by unfold knI; rw [e1]; rfl
  unfold knU knQ
  rw [if_neg h,e1,e2,e3]
  exact ⟨_,rfl,_,_,rfl,.inl ⟨rfl,rfl⟩,_,_,rfl,rfl,_,_,rfl,rfl,rfl⟩
theorem pKnU : PureOk Try.prog G 15 sKnU := by
 refine PureOk.weak (show PureOk Try.prog G _ sKnQ from pKnownP) rfl fun vs hp => ?_
 simp only [sKnU,sKnQ,spec1] at hp ⊢
 split at hp
 ·exact ⟨hp,knU_sub _⟩
 ·exact hp.elim
theorem kn_1 {l : Pms} (hp : PmsOk l) (hb : ¬ badI l < l.1) : knX l = 0 ∧ knL l = l.1 ∧ knI l = 0 := by
 have e1 : knX l = 0 := by unfold knX; rw [if_pos (pmE_ok hp),if_neg hb]
 exact ⟨e1,by unfold knL; rw [if_pos e1],by unfold knI; rw [e1]; rfl⟩
theorem kn_2 {l : Pms} (hp : PmsOk l) (hb : badI l < l.1) : knX l = 71 ∧ knL l = 0 ∧ knI l = badI l := by
 have e1 : knX l = 71 := by unfold knX; rw [if_pos (pmE_ok hp),if_pos hb]
 exact ⟨e1,by unfold knL; rw [e1]; rfl,by unfold knI; rw [if_pos e1]⟩
end Go.Proofs.Ytlapepdhkomijaa
