/- Palms, the reference: comparisons of covers and works, sizes, indices. No condition but bounds. -/
import Derived.Test.YtlapepdhkomijaaPCmp
set_option linter.unusedSimpArgs false
set_option linter.unusedVariables false
namespace Go.Proofs.Ytlapepdhkomijaa
open Go Go.RowKit
variable {G : Nat → Option (Nat × (Nat → Val))}
noncomputable def sGreat7 : Spec := spec2 (TSl RPm) TWk (fun _ _ => True) fun l w => .bool (decP (l.1 > 30 ∨ w.spathes.1 > 12 ∨ w.hours.1 > 20 ∨ w.lots.1 > 8))
set_option maxRecDepth 100000 in
theorem pGreat7 : PureOk Try.prog G 14 sGreat7 := by
 refine fn2 (S := []) (I := []) mixed .nil .nil Try.func14 c14 fun l w _ hw => ?_
 simp only [Nat.reduceSub,Nat.reducePow,TSl,RInt,RPm,Pm.d,RSp,Sp.d,RLt,Lt.d,Wk.L,TWk,go_sem] at hw
 simp only [RunTo,a14,hw,↓imp_tt,↓imp_tf,↓reduceIte,reduceCtorEq,Nat.reduceEqDiff,Nat.reduceAdd,Nat.reduceSub,Nat.reduceLeDiff,Nat.reducePow,TSl,RInt,RPm,Pm.d,RSp,Sp.d,RLt,Lt.d,Wk.L,TWk,go_sem]
 repeat' (first | omega | (with_reducible apply And.intro) | intro _)
 all_goals first
  | exact (decP_t (by omega)).symm
  | exact (decP_f (by omega)).symm
  | (rw [Bool.eq_iff_iff,decP_true]; simp; omega)
noncomputable def sSameCv : Spec := spec2 TCv TCv (fun _ _ => True) fun a b => .bool (sameB a.spathes b.spathes && (sameB a.hours b.hours && sameB a.lots b.lots))
set_option maxRecDepth 100000 in
theorem pSameCv : PureOk Try.prog G 35 sSameCv := by
 refine fn2 (S := [(22,sSameI)]) (I := []) mixed (.cons pSameI .nil) .nil Try.func35 c35 fun a b _ hw => ?_
 simp only [Nat.reduceSub,Nat.reducePow,RInt,Cv.L,TCv,go_sem] at hw
 simp only [RunTo,a35,sSameI,hw,↓imp_ft,↓imp_ff,↓reduceIte,reduceCtorEq,Nat.reduceEqDiff,Nat.reduceAdd,Nat.reduceSub,Nat.reduceLeDiff,Nat.reducePow,spec2,TSl,IsSl,RInt,Prod.eta,Cv.L,TCv,go_sem]
 cases sameB a.spathes b.spathes <;> cases sameB a.hours b.hours <;> cases sameB a.lots b.lots <;> simp
noncomputable def idxB (l : Ints) (n : Int) : Bool := decP (∀ i,i < l.1 → 0 ≤ l.2 i ∧ l.2 i < n ∧ (0 < i → l.2 (i - 1) < l.2 i))
noncomputable def sIndices : Spec := spec2 (TSl (RInt .i64)) TI (fun _ n => 0 ≤ n ∧ n ≤ 1000) fun l n => .bool (idxB l n)
set_option maxRecDepth 100000 in
theorem pIndices : PureOk Try.prog G 75 sIndices := by
  refine fn2 (S := [(52,sIn)]) (I := []) mixed (.cons pWithin7 .nil) .nil Try.func75 c75 fun l n hp hw => ?_
  simp only [Nat.reduceSub,Nat.reducePow,TSl,TInt,RInt,go_sem] at hw
  have en : IntKind.i64.wrap (n - 1) = n - 1 := wr64 (by omega) (by omega)
  simp only [RunTo,a75,sIn,spec3,TSl,TInt,IsInt,RInt,go_sem]
  refine loopI (ι := Nat) (fun j => j ≤ l.1 ∧ ∀ i,i < j → 0 ≤ l.2 i ∧ l.2 i < n ∧ (0 < i → l.2 (i - 1) < l.2 i)) (fun j => l.1 - j) [0,1] (fun j => [(5,.int .i64 j)]) (fun _ => []) 0 ⟨by omega,fun i h => by omega⟩ (by simp only [↓reduceIte,reduceCtorEq,Nat.reduceEqDiff,go_sem]; try rfl) fun j hj => ?_
  obtain ⟨hj1,hj2⟩ := hj
  have e1 : IntKind.i64.wrap ((j : Int) - 1) = (j : Int) - 1 := wr64 (by omega) (by omega)
  have e2 : ((j : Int) - 1).toNat = j - 1 := by omega
  simp only [hw,en,e1,e2,↓imp_tt,↓imp_tf,↓imp_ft,↓imp_ff,↓reduceIte,reduceCtorEq,Nat.reduceEqDiff,Nat.reduceSub,Nat.reducePow,go_sem]
  have hno : ∀ k : ¬ (0 ≤ l.2 j ∧ l.2 j < n ∧ (0 < j → l.2 (j - 1) < l.2 j)),j < l.1 → false = idxB l n := fun k hj => (decP_f fun h => k (h j hj)).symm
  repeat' (first | omega | (with_reducible apply And.intro) | intro _)
  all_goals first
    | (refine hno (fun k => ?_) (by omega)
       obtain ⟨k1,k3,k2⟩ := k
       try have k2 := k2 (by omega)
       omega)
    | (refine inv_intro (j + 1) ⟨by omega,fun i hi => ?_⟩ (by omega) ?_
       · rcases Nat.lt_or_ge i j with h5 | h5
         · exact hj2 i h5
         · obtain rfl : i = j := by omega
           exact ⟨by omega,by omega,fun _ => by omega⟩
       · simp only [↓reduceIte,reduceCtorEq,Nat.reduceEqDiff,go_sem]
         rw [wrS (by omega)])
    | exact (decP_t fun i hi => hj2 i (by omega)).symm
end Go.Proofs.Ytlapepdhkomijaa
