/- Palms, the program: in, places, Check. No condition. -/
import Derived.Test.YtlapepdhkomijaaPRef1
set_option linter.unusedSimpArgs false
set_option linter.unusedVariables false
namespace Go.Proofs.Ytlapepdhkomijaa
open Go Go.RowKit
variable {G : Nat → Option (Nat × (Nat → Val))}
noncomputable def sInP : Spec := spec3 TI TI (TSl (RInt .i64)) (fun _ _ _ => True) fun lo hi l => .bool (allB l.1 l.2 fun n => lo ≤ n ∧ n ≤ hi)
set_option maxRecDepth 100000 in
theorem pInPalm : PureOk Try.prog G 51 sInP := by
 refine fn3 (S := []) (I := [(79,a79),(80,a80),(88,a88)]) mixed .nil (.cons Try.func79 c79 (.cons Try.func80 c80 (.cons Try.func88 c88 .nil))) Try.func51 c51 fun lo hi l _ hw => ?_
 simp only [Nat.reduceSub,Nat.reducePow,TSl,TInt,RInt,go_sem] at hw
 simp only [RunTo,a51,a79,a80,a88,↓reduceIte,reduceCtorEq,Nat.reduceEqDiff,Nat.reduceAdd,Nat.reduceSub,Int.reduceNeg,Nat.reducePow,TSl,TInt,RInt,go_sem]
 intro w1 _ _
 refine loopI (ι := Nat) (fun j => j ≤ l.1 ∧ ∀ i < j,lo ≤ l.2 i ∧ l.2 i ≤ hi) (fun j => l.1 - j) [0,1,7] (fun j => [(8,.int .i64 j)]) (fun _ => []) 0 ⟨by omega,fun i h => by omega⟩ (by simp only [↓reduceIte,reduceCtorEq,Nat.reduceEqDiff,Nat.reduceLT,go_sem]; try rfl) fun j hj => ?_
 obtain ⟨hj1,hj2⟩ := hj
 simp only [w1,↓imp_tt,↓imp_tf,↓reduceIte,reduceCtorEq,Nat.reduceEqDiff,Nat.reduceAdd,Nat.reduceSub,Int.reduceNeg,Nat.reducePow,go_sem]
 refine ⟨fun h => ⟨by omega,by omega,fun h1 => allB_no (by omega) (by omega),fun h1 => ⟨fun h2 => allB_no (by omega) (by omega),fun h2 => inv_intro (j + 1) ⟨by omega,fun i hi => ?_⟩ (by omega) ?_⟩⟩,fun h => allB_yes fun i hi => hj2 i (by omega)⟩
 ·rcases Nat.lt_or_ge i j with h5 | h5
  ·exact hj2 i h5
  ·obtain rfl : i = j := by omega
   omega
 ·simp only [↓reduceIte,reduceCtorEq,Nat.reduceEqDiff,Nat.reduceLT,go_sem]
  rw [wrS (by omega)]
noncomputable def sPlaces : Spec := spec1 (TSl RPm) (fun _ => True) fun l => .mview .i64 (hasP l) fun k => .int .i64 (lstP l k)
set_option maxRecDepth 100000 in
theorem pPlaces : PureOk Try.prog G 50 sPlaces := by
  refine fn1 (S := []) (I := []) mixed .nil .nil Try.func50 c50 fun l _ hw => ?_
  simp only [Nat.reduceSub,Nat.reducePow,TSl,RPm,Pm.d,go_sem] at hw
  simp only [RunTo,a50,hw,↓reduceIte,reduceCtorEq,Nat.reduceSub,Nat.reducePow,TSl,RPm,Pm.d,go_sem]
  refine loopI (ι := Nat) (fun j => j ≤ l.1) (fun j => l.1 - j) [3,7,8] (fun j => [(9,.int .i64 j)]) (fun j => [(0,.mp .i64 (hasF l.2 j) fun k => .int .i64 (lstF l.2 j k))]) 0 (by omega) (by simp only [hasF,lstF,↓reduceIte,reduceCtorEq,Nat.reduceEqDiff,Nat.reduceLT,go_sem]; try simp) fun j hj => ?_
  simp only [↓reduceIte,reduceCtorEq,Nat.reduceEqDiff,Nat.reduceAdd,Nat.reduceLeDiff,Pm.c0,Pm.c1,Pm.c2,Pm.c3,Pm.c4,go_sem]
  refine ⟨fun hlt => ?_,fun hge => ?_⟩
  · repeat' (first | omega | (with_reducible apply And.intro) | intro _)
    all_goals first
      | (refine inv_intro (j + 1) (by omega) (by omega) ?_
         simp only [hasF,lstF,↓reduceIte,reduceCtorEq,Nat.reduceEqDiff,Nat.reduceLT,go_sem]
         rw [wrS (by omega)]
         refine ⟨rfl,fun k => ?_⟩
         by_cases e : k = (l.2 j).id
         · simp [e]
         · simp [e])
      | skip
  · obtain rfl : j = l.1 := by omega
    repeat' (first | omega | (with_reducible apply And.intro) | intro _)
    all_goals simp_all [hasP,lstP]
set_option maxRecDepth 100000 in
theorem pPalmCheck : PureOk Try.prog G 19 sCheck7 := by
  refine fn1 (S := [(50,sPlaces),(51,sInP)]) (I := []) mixed (.cons pPlaces (.cons pInPalm .nil)) .nil Try.func19 c19 fun l _ hw => ?_
  simp only [Nat.reduceSub,Nat.reducePow,TSl,RPm,Pm.d,go_sem] at hw
  simp only [RunTo,a19,sPlaces,sInP,hw,↓reduceIte,reduceCtorEq,Nat.reduceSub,Int.reduceNeg,Nat.reducePow,spec1,spec3,TSl,IsSl,TInt,IsInt,RInt,Prod.eta,Pm.c0,Pm.c1,Pm.c2,Pm.c3,Pm.c4,RPm,Pm.w_c,Pm.d,Pm.eta,toUI_val,go_sem]
  refine ⟨fun h => (pmE_no fun k => by have := k.n; omega).symm,fun h24 => ?_⟩
  have hall := pmLk_all (l := l) (by omega)
  have hno : ∀ j,j < l.1 → ¬ PmLk l j → (70 : Int) = pmE l := fun j hj hn => (pmE_no fun k => hn (hall.1 k j hj)).symm
  repeat' (first | omega | (with_reducible apply And.intro) | intro _)
  refine loopI (ι := Nat) (fun j => j ≤ l.1 ∧ ∀ i,i < j → PmLk l i) (fun j => l.1 - j) [0,3,14,15] (fun j => [(4,.int .i64 (if j = 0 then 0 else (l.2 (j - 1)).id + 1)),(16,.int .i64 j)]) (fun _ => []) 0 ⟨by omega,fun i h => by omega⟩ (by simp only [↓reduceIte,reduceCtorEq,Nat.reduceEqDiff,go_sem]; try simp) fun j hj => ?_
  obtain ⟨hj1,hj2⟩ := hj
  by_cases hjl : j < l.1
  · have fj : ((j : Int) < (l.1 : Int)) = True := eq_true (by omega)
    have hnx : (if j = 0 then (0 : Int) else (l.2 (j - 1)).id + 1) ≤ (l.2 j).id ↔ (0 ≤ (l.2 j).id ∧ (0 < j → (l.2 (j - 1)).id < (l.2 j).id)) ∨ (¬ 0 ≤ (l.2 j).id ∧ (if j = 0 then (0 : Int) else (l.2 (j - 1)).id + 1) ≤ (l.2 j).id) := by
      split
      · omega
      · have := (hj2 (j - 1) (by omega)).1
        omega
    have hid0 : (if j = 0 then (0 : Int) else (l.2 (j - 1)).id + 1) ≤ (l.2 j).id → 0 ≤ (l.2 j).id := by
      split
      · omega
      · have := (hj2 (j - 1) (by omega)).1
        omega
    generalize hnxt : (if j = 0 then (0 : Int) else (l.2 (j - 1)).id + 1) = nxt at hnx hid0 ⊢
    have hup : nxt ≤ (l.2 j).id ↔ 0 ≤ (l.2 j).id ∧ (0 < j → (l.2 (j - 1)).id < (l.2 j).id) := ⟨fun h => by have := hid0 h; rcases hnx.1 h with h1 | h1 <;> omega,fun h => hnx.2 (.inl h)⟩
    have hS0 : (0 : Int) ≤ (l.2 j).sex.1 ∧ (l.2 j).sex.1 ≤ 255 := (l.2 j).sex.2
    have eS : IntKind.i64.wrap (l.2 j).sex.1 = (l.2 j).sex.1 := by
      exact wr64 (by omega) (by omega)
    cases hm : hasP l (l.2 j).mother with
    | true =>
      have hlt := (lstP_spec hm).1
      have hlk : PmLk l j ↔ (0 ≤ (l.2 j).id ∧ (l.2 j).id ≤ 9999) ∧ (0 < j → (l.2 (j - 1)).id < (l.2 j).id) ∧ (0 ≤ (l.2 j).planted ∧ (l.2 j).planted ≤ 100000) ∧ (l.2 j).sex.1 ≤ 2 ∧ (0 ≤ (l.2 j).sort ∧ (l.2 j).sort ≤ 99) ∧
          ((l.2 j).mother = -1 ∨ IntKind.i64.wrap ((l.2 (lstP l (l.2 j).mother)).planted + 1000) ≤ (l.2 j).planted) := by unfold PmLk; rw [hm]; simp only [true_and]
      simp only [fj,hm,eS,↓imp_tt,↓imp_tf,↓imp_ft,↓imp_ff,↓reduceIte,reduceCtorEq,Nat.reduceEqDiff,Nat.reduceAdd,Nat.reduceSub,Nat.reduceLeDiff,Nat.reduceLT,Int.reduceNeg,Pm.c0,Pm.c1,Pm.c2,Pm.c3,Pm.c4,go_sem]
      simp only [lt1,allB_1,vget,Int.reduceNeg,true_and,decide_eq_true_eq,decide_eq_false_iff_not]
      repeat' (first | omega | (with_reducible apply And.intro) | intro _)
      all_goals first
        | (refine hno j (by omega) fun k => ?_
           rw [hlk] at k
           omega)
        | (refine inv_intro (j + 1) ⟨by omega,fun i hi => ?_⟩ (by omega) ?_
           · rcases Nat.lt_or_ge i j with h5 | h5
             · exact hj2 i h5
             · obtain rfl : i = j := by omega
               rw [hlk]; omega
           · simp only [↓reduceIte,reduceCtorEq,Nat.reduceEqDiff,Nat.reduceLT,go_sem]
             rw [wrS (by omega),wr64 (e := (l.2 j).id + 1) (by omega) (by omega)]
             simp)
        | exact Int.ofNat_lt.2 hlt
        | trace_state
    | false =>
      have hlk : PmLk l j ↔ (0 ≤ (l.2 j).id ∧ (l.2 j).id ≤ 9999) ∧ (0 < j → (l.2 (j - 1)).id < (l.2 j).id) ∧ (0 ≤ (l.2 j).planted ∧ (l.2 j).planted ≤ 100000) ∧ (l.2 j).sex.1 ≤ 2 ∧ (0 ≤ (l.2 j).sort ∧ (l.2 j).sort ≤ 99) ∧
          (l.2 j).mother = -1 := by unfold PmLk; rw [hm]; simp only [Bool.false_eq_true,false_and,or_false]
      simp only [fj,hm,eS,↓imp_tt,↓imp_tf,↓imp_ft,↓imp_ff,↓reduceIte,reduceCtorEq,Nat.reduceEqDiff,Nat.reduceAdd,Nat.reduceSub,Nat.reduceLeDiff,Nat.reduceLT,Int.reduceNeg,Pm.c0,Pm.c1,Pm.c2,Pm.c3,Pm.c4,go_sem]
      simp only [lt1,allB_1,vget,Int.reduceNeg,true_and,decide_eq_true_eq,decide_eq_false_iff_not]
      repeat' (first | omega | (with_reducible apply And.intro) | intro _)
      all_goals first
        | (refine hno j (by omega) fun k => ?_
           rw [hlk] at k
           omega)
        | (refine inv_intro (j + 1) ⟨by omega,fun i hi => ?_⟩ (by omega) ?_
           · rcases Nat.lt_or_ge i j with h5 | h5
             · exact hj2 i h5
             · obtain rfl : i = j := by omega
               rw [hlk]; omega
           · simp only [↓reduceIte,reduceCtorEq,Nat.reduceEqDiff,Nat.reduceLT,go_sem]
             rw [wrS (by omega),wr64 (e := (l.2 j).id + 1) (by omega) (by omega)]
             simp)
  · have fj : ((j : Int) < (l.1 : Int)) = False := eq_false (by omega)
    simp only [fj,↓imp_ft,↓imp_ff,↓reduceIte,reduceCtorEq,Nat.reduceEqDiff,Int.reduceNeg,go_sem]
    exact (pmE_ok (hall.2 fun i hi => hj2 i (by omega))).symm
end Go.Proofs.Ytlapepdhkomijaa
