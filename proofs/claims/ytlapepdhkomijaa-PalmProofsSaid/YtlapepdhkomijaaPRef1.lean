/- Palms, the reference: within, At, Check. No condition. -/
import Derived.Test.YtlapepdhkomijaaPRpu
import Derived.Test.YtlapepdhkomijaaPVal
set_option linter.unusedSimpArgs false
set_option linter.unusedVariables false
namespace Go.Proofs.Ytlapepdhkomijaa
open Go Go.RowKit
variable {G : Nat → Option (Nat × (Nat → Val))}
def sIn : Spec := spec3 TI TI TI (fun _ _ _ => True) fun n lo hi => .bool (decide (lo ≤ n ∧ n ≤ hi))
set_option maxRecDepth 100000 in
theorem pWithin7 : PureOk Try.prog G 52 sIn := by
 refine fn3 (S := []) (I := []) mixed .nil .nil Try.func52 c52 fun n lo hi _ _ => ?_
 simp only [RunTo,a52,↓reduceIte,reduceCtorEq,Nat.reduceEqDiff,Nat.reduceAdd,TInt,go_sem]
 refine ⟨fun h => ?_,fun h => ?_⟩ <;> simp <;> omega
noncomputable def sAt : Spec := spec2 (TSl RPm) TI (fun _ _ => True) fun l id => .int .i64 (atF l id)
set_option maxRecDepth 100000 in
theorem pAt : PureOk Try.prog G 44 sAt := by
 refine fn2 (S := []) (I := []) mixed .nil .nil Try.func44 c44 fun l id _ hw => ?_
 simp only [Nat.reduceSub,Nat.reducePow,TSl,TInt,RPm,Pm.d,go_sem] at hw
 simp only [RunTo,a44,Int.reduceNeg,TSl,TInt,RPm,Pm.d,go_sem]
 refine loopI (ι := Nat) (fun j => j ≤ l.1 ∧ ∀ i,i < j → (l.2 i).id ≠ id) (fun j => l.1 - j) [0,1] (fun j => [(5,.int .i64 j)]) (fun _ => []) 0 ⟨by omega,fun i h => by omega⟩ (by simp only [↓reduceIte,reduceCtorEq,Nat.reduceEqDiff,go_sem]; try rfl) fun j hj => ?_
 obtain ⟨hj1,hj2⟩ := hj
 simp only [hw,↓reduceIte,reduceCtorEq,Nat.reduceEqDiff,Nat.reduceSub,Nat.reduceLeDiff,Int.reduceNeg,Nat.reducePow,Pm.c0,go_sem]
 refine ⟨fun hlt => ⟨by omega,by omega,fun h1 => ?_,fun h1 => inv_intro (j + 1) ⟨by omega,fun i hi => ?_⟩ (by omega) ?_⟩,fun hge => ?_⟩
 ·unfold atF hitN; rw [fstI_at (by omega) h1 hj2,if_pos (by omega)]
 ·rcases Nat.lt_or_ge i j with h5 | h5
  ·exact hj2 i h5
  ·obtain rfl : i = j := by omega
   exact h1
 ·simp only [↓reduceIte,reduceCtorEq,Nat.reduceEqDiff,go_sem]
  rw [wrS (by omega)]
 ·unfold atF hitN; rw [fstI_no (fun k hk => hj2 k (by omega)),if_neg (Nat.lt_irrefl _)]
noncomputable def sCheck7 : Spec := spec1 (TSl RPm) (fun _ => True) fun l => .int .i64 (pmE l)
set_option maxRecDepth 100000 in
theorem pCheck7 : PureOk Try.prog G 20 sCheck7 := by
  refine fn1 (S := [(52,sIn),(44,sAt)]) (I := []) mixed (.cons pWithin7 (.cons pAt .nil)) .nil Try.func20 c20 fun l _ hw => ?_
  simp only [Nat.reduceSub,Nat.reducePow,TSl,RPm,Pm.d,go_sem] at hw
  simp only [RunTo,a20,sIn,sAt,hw,↓reduceIte,reduceCtorEq,Nat.reduceSub,Int.reduceNeg,Nat.reducePow,spec2,spec3,TSl,IsSl,TInt,IsInt,RPm,Pm.d,go_sem]
  refine ⟨fun h => (pmE_no fun k => by have := k.n; omega).symm,fun h24 => ?_⟩
  have hall := pm_all (l := l) (by omega)
  have hno : ∀ j,j < l.1 → ¬ PmAt l j → (70 : Int) = pmE l := fun j hj hn => (pmE_no fun k => hn (hall.1 k j hj)).symm
  refine loopI (ι := Nat) (fun j => j ≤ l.1 ∧ ∀ i,i < j → PmAt l i) (fun j => l.1 - j) [0] (fun j => [(3,.int .i64 j)]) (fun _ => []) 0 ⟨by omega,fun i h => by omega⟩ (by simp only [↓reduceIte,reduceCtorEq,go_sem]; try rfl) fun j hj => ?_
  obtain ⟨hj1,hj2⟩ := hj
  have e1 : IntKind.i64.wrap ((j : Int) - 1) = (j : Int) - 1 := wr64 (by omega) (by omega)
  have e2 : ((j : Int) - 1).toNat = j - 1 := by omega
  by_cases hm : hitN l (l.2 j).mother < l.1
  · have ea := atF_pos hm
    simp only [e1,e2,ea,hw,↓imp_tt,↓imp_tf,↓imp_ft,↓imp_ff,↓reduceIte,reduceCtorEq,Nat.reduceEqDiff,Nat.reduceAdd,Nat.reduceSub,Nat.reduceLeDiff,Int.reduceNeg,Nat.reducePow,Prod.eta,Pm.c0,Pm.c1,Pm.c2,Pm.c3,Pm.c4,Pm.w_c,Pm.eta,toUI_val,go_sem]
    repeat' (first | omega | (with_reducible apply And.intro) | intro _)
    all_goals first
      | exact (pmE_ok (hall.2 fun i hi => hj2 i (by omega))).symm
      | (refine hno j (by omega) fun k => ?_
         obtain ⟨k1,k2,k3,k4,k5,k6⟩ := k
         try have k2 := k2 (by omega)
         omega)
      | (refine inv_intro (j + 1) ⟨by omega,fun i hi => ?_⟩ (by omega) ?_
         · rcases Nat.lt_or_ge i j with h5 | h5
           · exact hj2 i h5
           · obtain rfl : i = j := by omega
             exact ⟨by omega,fun _ => by omega,by omega,by omega,by omega,by first | (left; omega) | (right; exact ⟨hm,by omega⟩)⟩
         · simp only [↓reduceIte,reduceCtorEq,go_sem]
           rw [wrS (by omega)])
  · have ea : (atF l (l.2 j).mother < 0) = True := eq_true (atF_neg.2 hm)
    simp only [e1,e2,ea,hw,↓imp_tt,↓imp_tf,↓imp_ft,↓imp_ff,↓reduceIte,reduceCtorEq,Nat.reduceEqDiff,Nat.reduceAdd,Nat.reduceSub,Nat.reduceLeDiff,Int.reduceNeg,Nat.reducePow,Prod.eta,Pm.c0,Pm.c1,Pm.c2,Pm.c3,Pm.c4,Pm.w_c,Pm.eta,toUI_val,go_sem]
    repeat' (first | omega | (with_reducible apply And.intro) | intro _)
    all_goals first
      | exact (pmE_ok (hall.2 fun i hi => hj2 i (by omega))).symm
      | (refine hno j (by omega) fun k => ?_
         obtain ⟨k1,k2,k3,k4,k5,k6⟩ := k
         try have k2 := k2 (by omega)
         omega)
      | (refine inv_intro (j + 1) ⟨by omega,fun i hi => ?_⟩ (by omega) ?_
         · rcases Nat.lt_or_ge i j with h5 | h5
           · exact hj2 i h5
           · obtain rfl : i = j := by omega
             exact ⟨by omega,fun _ => by omega,by omega,by omega,by omega,by first | (left; omega) | (right; exact ⟨hm,by omega⟩)⟩
         · simp only [↓reduceIte,reduceCtorEq,go_sem]
           rw [wrS (by omega)])
end Go.Proofs.Ytlapepdhkomijaa
