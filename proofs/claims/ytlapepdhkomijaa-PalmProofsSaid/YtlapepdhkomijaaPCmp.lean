/- Palms, the reference: comparisons. No condition. -/
import Derived.Test.YtlapepdhkomijaaPRef1
set_option linter.unusedSimpArgs false
set_option linter.unusedVariables false
namespace Go.Proofs.Ytlapepdhkomijaa
open Go Go.RowKit
variable {G : Nat → Option (Nat × (Nat → Val))}
noncomputable def sSameI : Spec := spec2 (TSl (RInt .i64)) (TSl (RInt .i64)) (fun _ _ => True) fun a b => .bool (sameB a b)
set_option maxRecDepth 100000 in
theorem pSameI : PureOk Try.prog G 22 sSameI := by
 refine fn2 (S := []) (I := []) mixed .nil .nil Try.func22 c22 fun a b _ hw => ?_
 simp only [Nat.reduceSub,Nat.reducePow,TSl,RInt,go_sem] at hw
 obtain ⟨w1,w2⟩ := hw
 simp only [RunTo,a22,w1,w2,↓reduceIte,reduceCtorEq,Nat.reduceEqDiff,Nat.reduceSub,Nat.reducePow,TSl,RInt,go_sem]
 refine ⟨fun h => (decP_f fun k => h (by omega)).symm,fun h => ?_⟩
 refine loopI (ι := Nat) (fun j => j ≤ a.1 ∧ ∀ i,i < j → a.2 i = b.2 i) (fun j => a.1 - j) [0,1] (fun j => [(5,.int .i64 j)]) (fun _ => []) 0 ⟨by omega,fun i h => by omega⟩ (by simp only [↓reduceIte,reduceCtorEq,Nat.reduceEqDiff,go_sem]; try rfl) fun j hj => ?_
 obtain ⟨hj1,hj2⟩ := hj
 simp only [w1,↓reduceIte,reduceCtorEq,Nat.reduceEqDiff,Nat.reduceSub,Nat.reducePow,go_sem]
 refine ⟨fun hlt => ⟨by omega,by omega,by omega,by omega,fun h1 => (decP_f fun k => ?_).symm,fun h1 => inv_intro (j + 1) ⟨by omega,fun i hi => ?_⟩ (by omega) ?_⟩,fun hge => ?_⟩
 ·exact h1 (k.2 j (by omega))
 ·rcases Nat.lt_or_ge i j with h5 | h5
  ·exact hj2 i h5
  ·obtain rfl : i = j := by omega
   exact h1
 ·simp only [↓reduceIte,reduceCtorEq,Nat.reduceEqDiff,go_sem]
  rw [wrS (by omega)]
 ·exact (decP_t ⟨by omega,fun i hi => hj2 i (by omega)⟩).symm
noncomputable def sHas : Spec := spec2 (TSl (RInt .i64)) TI (fun _ _ => True) fun l n => .bool (decP (∃ i,i < l.1 ∧ l.2 i = n))
set_option maxRecDepth 100000 in
theorem pHas : PureOk Try.prog G 76 sHas := by
 refine fn2 (S := []) (I := []) mixed .nil .nil Try.func76 c76 fun l n _ hw => ?_
 simp only [Nat.reduceSub,Nat.reducePow,TSl,TInt,RInt,go_sem] at hw
 simp only [RunTo,a76,TSl,TInt,RInt,go_sem]
 refine loopI (ι := Nat) (fun j => j ≤ l.1 ∧ ∀ i,i < j → l.2 i ≠ n) (fun j => l.1 - j) [0,1] (fun j => [(5,.int .i64 j)]) (fun _ => []) 0 ⟨by omega,fun i h => by omega⟩ (by simp only [↓reduceIte,reduceCtorEq,Nat.reduceEqDiff,go_sem]; try rfl) fun j hj => ?_
 obtain ⟨hj1,hj2⟩ := hj
 simp only [hw,↓reduceIte,reduceCtorEq,Nat.reduceEqDiff,Nat.reduceSub,Nat.reducePow,go_sem]
 refine ⟨fun hlt => ⟨by omega,by omega,fun h1 => (decP_t ⟨j,by omega,h1⟩).symm,fun h1 => inv_intro (j + 1) ⟨by omega,fun i hi => ?_⟩ (by omega) ?_⟩,fun hge => (decP_f ?_).symm⟩
 ·rcases Nat.lt_or_ge i j with h5 | h5
  ·exact hj2 i h5
  ·obtain rfl : i = j := by omega
   exact h1
 ·simp only [↓reduceIte,reduceCtorEq,Nat.reduceEqDiff,go_sem]
  rw [wrS (by omega)]
 ·rintro ⟨i,h1,h2⟩
  exact hj2 i (by omega) h2
end Go.Proofs.Ytlapepdhkomijaa
