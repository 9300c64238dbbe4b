/- Auctions: valid turns and bids, the program's. No condition. -/
import Derived.Test.YtlieoghhkioflaaDBid
set_option linter.unusedSimpArgs false
set_option linter.unusedVariables false
namespace Go.Proofs.Ytlieoghhkioflaa
open Go Go.RowKit
variable {G : Nat → Option (Nat × (Nat → Val))}
set_option maxRecDepth 100000 in
theorem pOffered : PureOk Try.prog G 20 sOff := by
  refine fn2 (S := []) (I := [(32,a32),(33,a33),(45,a45)]) mixed .nil (.cons Try.func32 c32 (.cons Try.func33 c33 (.cons Try.func45 c45 .nil))) Try.func20 c20 fun t l _ hw => ?_
  simp only [↓reduceIte,reduceCtorEq,Nat.reduceEqDiff,Nat.reduceAdd,Nat.reduceSub,Nat.reduceLeDiff,Nat.reduceMul,Nat.reduceLT,Int.reduceToNat,Int.reduceLT,Int.reduceLE,Int.reduceEq,Int.reduceNeg,Int.reduceMul,Int.reduceAdd,Int.reduceSub,Int.reduceNe,Int.reduceBEq,Int.reduceBNe,Nat.reducePow,go_sem] at hw
  simp only [RunTo,a20,a32,a33,a45,↓reduceIte,reduceCtorEq,Nat.reduceEqDiff,Nat.reduceAdd,Nat.reduceSub,Nat.reduceLeDiff,Nat.reduceMul,Nat.reduceLT,Int.reduceToNat,Int.reduceLT,Int.reduceLE,Int.reduceEq,Int.reduceNeg,Int.reduceMul,Int.reduceAdd,Int.reduceSub,Int.reduceNe,Int.reduceBEq,Int.reduceBNe,Nat.reducePow,go_sem]
  by_cases ht : TuOk t
  · rw [offB,decP_t ht]
    obtain ⟨h1,h2,h3⟩ := ht
    refine ⟨fun _ => ⟨fun _ => ⟨fun h => absurd h3 h,fun _ _ => ⟨fun h4 => ?_,fun h4 _ => ?_⟩⟩,fun h => absurd h2 h⟩,fun h => absurd h1 h⟩
    · rw [if_pos rfl,if_pos (by omega)]
    · rw [if_pos rfl,if_neg (by omega)]
      refine loopI (ι := Nat) (fun j => j ≤ l.1 ∧ ∀ i,i < j → BdOk t (l.2 i)) (fun j => l.1 - j) [2,13,14] (fun j => [(15,.int .i64 j)]) (fun _ => []) 0 ⟨by omega,fun i h => by omega⟩ (by simp only [↓reduceIte,reduceCtorEq,Nat.reduceEqDiff,Nat.reduceAdd,Nat.reduceSub,Nat.reduceLeDiff,Nat.reduceMul,Nat.reduceLT,Int.reduceToNat,Int.reduceLT,Int.reduceLE,Int.reduceEq,Int.reduceNeg,Int.reduceMul,Int.reduceAdd,Int.reduceSub,Int.reduceNe,Int.reduceBEq,Int.reduceBNe,Nat.reducePow,go_sem]; try rfl) fun j hj => ?_
      obtain ⟨hj1,hj2⟩ := hj
      simp only [hw,a32,a33,a45,↓reduceIte,reduceCtorEq,Nat.reduceEqDiff,Nat.reduceAdd,Nat.reduceSub,Nat.reduceLeDiff,Nat.reduceMul,Nat.reduceLT,Int.reduceToNat,Int.reduceLT,Int.reduceLE,Int.reduceEq,Int.reduceNeg,Int.reduceMul,Int.reduceAdd,Int.reduceSub,Int.reduceNe,Int.reduceBEq,Int.reduceBNe,Nat.reducePow,go_sem]
      refine ⟨fun hlt => ?_,fun hge => ?_⟩
      · have no : ¬ BdOk t (l.2 j) → 43 = if decP (∀ i,i < l.1 → BdOk t (l.2 i)) = true then 0 else (43 : Int) := fun h => by
          rw [decP_f fun k => h (k j (by omega))]; rfl
        repeat' (first | omega | (with_reducible apply And.intro) | intro _)
        all_goals first
          | (refine no fun h => ?_
             obtain ⟨⟨_,_⟩,⟨_,_,_⟩,_,_⟩ := h
             omega)
          | skip
        refine inv_intro (j + 1) ⟨by omega,fun i hi => ?_⟩ (by omega) ?_
        · rcases Nat.lt_or_ge i j with h5 | h5
          · exact hj2 i h5
          · obtain rfl : i = j := by omega
            refine ⟨⟨?_,?_⟩,⟨?_,?_,?_⟩,?_,?_⟩ <;> omega
        · simp only [↓reduceIte,reduceCtorEq,Nat.reduceEqDiff,Nat.reduceAdd,Nat.reduceSub,Nat.reduceLeDiff,Nat.reduceMul,Nat.reduceLT,Int.reduceToNat,Int.reduceLT,Int.reduceLE,Int.reduceEq,Int.reduceNeg,Int.reduceMul,Int.reduceAdd,Int.reduceSub,Int.reduceNe,Int.reduceBEq,Int.reduceBNe,Nat.reducePow,go_sem]
          rw [wrS (by omega)]
      · rw [decP_t fun i hi => hj2 i (by omega)]; rfl
  · have e : offB t l = 2 := by rw [offB,decP_f ht]; rfl
    rw [e]
    refine ⟨fun h1 => ⟨fun h2 => ⟨fun _ => rfl,fun h3 => absurd ⟨h1,h2,h3⟩ ht⟩,fun _ => rfl⟩,fun _ => rfl⟩
end Go.Proofs.Ytlieoghhkioflaa
