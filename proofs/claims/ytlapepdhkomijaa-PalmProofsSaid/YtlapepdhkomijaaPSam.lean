/- Palms, the reference: Twin, and comparisons of works and lists. No condition. -/
import Derived.Test.YtlapepdhkomijaaPCmp2
import Derived.Test.YtlapepdhkomijaaPOpn
set_option linter.unusedSimpArgs false
set_option linter.unusedVariables false
namespace Go.Proofs.Ytlapepdhkomijaa
open Go Go.RowKit
variable {G : Nat → Option (Nat × (Nat → Val))}
def sTwin7 : Spec := spec1 TWk (fun w => w.spathes.1 ≤ 1000 ∧ w.hours.1 ≤ 1000 ∧ w.lots.1 ≤ 1000) fun w => .agg (dayL w)
set_option maxHeartbeats 4000000 in
set_option maxRecDepth 100000 in
theorem pTwin7 : PureOk Try.prog G 23 sTwin7 := by
 refine fn1 (S := []) (I := []) mixed .nil .nil Try.func23 c23 fun w hp hw => ?_
 simp only [Nat.reduceSub,Nat.reducePow,RInt,RSp,Sp.d,RLt,Lt.d,Wk.L,TWk,go_sem] at hw
 simp only [RunTo,a23,dayL,hw,↓reduceIte,reduceCtorEq,Nat.reduceEqDiff,Nat.reduceAdd,Nat.reduceSub,Nat.reduceLeDiff,Nat.reduceLT,Nat.reducePow,RInt,RSp,Sp.d,RLt,Lt.d,Wk.L,TWk,go_sem]
 exact ⟨by omega,by omega,by omega,fun i _ j _ => by rw [if_neg (Nat.not_lt_zero _),vsubP_self]; trivial,fun i _ j _ => if_neg (Nat.not_lt_zero _),fun i _ j _ => by rw [if_neg (Nat.not_lt_zero _),vsubP_self]; trivial⟩
theorem spEq {a b : Sp} : (a.palm == b.palm && (a.cracks.lo == b.cracks.lo && a.cracks.hi == b.cracks.hi)) = true ↔ a = b := by
 obtain ⟨a1,⟨a2,a3⟩⟩ := a; obtain ⟨b1,⟨b2,b3⟩⟩ := b; simp
theorem ltEq {a b : Lt} : (a.palm == b.palm && (a.units == b.units && (a.fro == b.fro && a.til == b.til))) = true ↔ a = b := by
 obtain ⟨a1,a2,a3,a4⟩ := a; obtain ⟨b1,b2,b3,b4⟩ := b; simp
def wkSame (a b : Wk) : Prop := a.day = b.day ∧ a.opn = b.opn ∧ sameB a.spathes b.spathes = true ∧ sameB a.hours b.hours = true ∧ sameB a.lots b.lots = true
noncomputable def sSameWk : Spec := spec2 TWk TWk (fun _ _ => True) fun a b => .bool (decP (wkSame a b))
set_option maxHeartbeats 4000000 in
set_option maxRecDepth 100000 in
theorem pSameWk : PureOk Try.prog G 30 sSameWk := by
 refine fn2 (S := [(22,sSameI)]) (I := []) mixed (.cons pSameI .nil) .nil Try.func30 c30 fun a b _ hw => ?_
 simp only [Nat.reduceSub,Nat.reducePow,RInt,RSp,Sp.d,RLt,Lt.d,Wk.L,TWk,go_sem] at hw
 simp only [RunTo,a30,sSameI,hw,↓imp_tt,↓imp_tf,↓reduceIte,reduceCtorEq,Nat.reduceEqDiff,Nat.reduceAdd,Nat.reduceSub,Nat.reduceLeDiff,Nat.reducePow,spec2,TSl,IsSl,RInt,Prod.eta,RSp,Sp.d,RLt,Lt.d,Wk.L,TWk,go_sem]
 have hno : ¬ wkSame a b → false = decP (wkSame a b) := fun h => (decP_f h).symm
 refine ⟨fun h => hno fun k => h k.1,fun h1 => ⟨fun h => hno fun k => h k.2.1,fun h2 => ⟨fun h => hno fun k => h (by have := (decP_true.1 k.2.2.1).1; omega),fun h3 => ⟨fun h => hno fun k => h (by have := (decP_true.1 k.2.2.2.2).1; omega),fun h4 => ⟨fun h => hno fun k => (by have := k.2.2.2.1; rw [h] at this; cases this),fun h5 => ?_⟩⟩⟩⟩⟩
 refine loopI (ι := Nat) (fun j => j ≤ a.spathes.1 ∧ ∀ i,i < j → a.spathes.2 i = b.spathes.2 i) (fun j => a.spathes.1 - j) [2,3] (fun j => [(5,.int .i64 j)]) (fun _ => []) 0 ⟨by omega,fun i h => by omega⟩ (by simp only [↓reduceIte,reduceCtorEq,Nat.reduceEqDiff,Nat.reduceLT,go_sem]; try rfl) fun j hj => ?_
 obtain ⟨hj1,hj2⟩ := hj
 simp only [hw,↓reduceIte,reduceCtorEq,Nat.reduceEqDiff,Nat.reduceAdd,Nat.reduceSub,Nat.reduceLeDiff,Nat.reducePow,Sp.c0,Sp.c1,Sp.c2,go_sem]
 refine ⟨fun hlt => ⟨by omega,by omega,by omega,by omega,fun h1 => (decP_f fun k => ?_).symm,fun h1 => inv_intro (j + 1) ⟨by omega,fun i hi => ?_⟩ (by omega) ?_⟩,fun hge => ?_⟩
 ·have := (decP_true.1 k.2.2.1).2 j (by omega); rw [this] at h1; simp at h1
 ·rcases Nat.lt_or_ge i j with h5 | h5
  ·exact hj2 i h5
  ·obtain rfl : i = j := by omega
   exact spEq.1 h1
 ·simp only [↓reduceIte,reduceCtorEq,Nat.reduceEqDiff,Nat.reduceLT,go_sem]
  rw [wrS (by omega)]
 ·have hsp : sameB a.spathes b.spathes = true := decP_t ⟨by omega,fun i hi => hj2 i (by omega)⟩
  refine loopI (ι := Nat) (fun j => j ≤ a.lots.1 ∧ ∀ i,i < j → a.lots.2 i = b.lots.2 i) (fun j => a.lots.1 - j) [2,3] (fun j => [(6,.int .i64 j)]) (fun _ => []) 0 ⟨by omega,fun i h => by omega⟩ (by simp only [↓reduceIte,reduceCtorEq,Nat.reduceEqDiff,Nat.reduceLT,go_sem]; try rfl) fun j hj => ?_
  obtain ⟨hj1,hj2⟩ := hj
  simp only [hw,↓reduceIte,reduceCtorEq,Nat.reduceEqDiff,Nat.reduceAdd,Nat.reduceSub,Nat.reduceLeDiff,Nat.reducePow,Lt.c0,Lt.c1,Lt.c2,Lt.c3,go_sem]
  refine ⟨fun hlt => ⟨by omega,by omega,by omega,by omega,fun h1 => (decP_f fun k => ?_).symm,fun h1 => inv_intro (j + 1) ⟨by omega,fun i hi => ?_⟩ (by omega) ?_⟩,fun hge => ?_⟩
  ·have := (decP_true.1 k.2.2.2.2).2 j (by omega); rw [this] at h1; simp at h1
  ·rcases Nat.lt_or_ge i j with h5 | h5
   ·exact hj2 i h5
   ·obtain rfl : i = j := by omega
    exact ltEq.1 h1
  ·simp only [↓reduceIte,reduceCtorEq,Nat.reduceEqDiff,Nat.reduceLT,go_sem]
   rw [wrS (by omega)]
  ·exact (decP_t ⟨h1,h2,hsp,h5,decP_t ⟨by omega,fun i hi => hj2 i (by omega)⟩⟩).symm
end Go.Proofs.Ytlapepdhkomijaa
