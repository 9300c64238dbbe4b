/- Auctions: valid turns and bids, the reference's and the program's. No condition. -/
import Derived.Test.YtlieoghhkioflaaDBas
set_option linter.unusedSimpArgs false
set_option linter.unusedVariables false
namespace Go.Proofs.Ytlieoghhkioflaa
open Go Go.RowKit
variable {G : Nat → Option (Nat × (Nat → Val))}
def TuOk (t : Tu) : Prop := 0 ≤ t.fro ∧ t.fro < t.til ∧ t.til ≤ 23040
def BdOk (t : Tu) (b : Bd) : Prop := (1 ≤ b.who ∧ b.who ≤ 9999) ∧ (t.fro ≤ b.turn.fro ∧ b.turn.fro < b.turn.til ∧ b.turn.til ≤ t.til) ∧ 0 ≤ b.baisa ∧ b.baisa ≤ 1000000000
noncomputable def offB (t : Tu) (l : Nat × (Nat → Bd)) : Int := if decP (TuOk t) = true then (if 12 < l.1 then 4 else if decP (∀ i,i < l.1 → BdOk t (l.2 i)) = true then 0 else 43) else 2
noncomputable def sOff : Spec := spec2 TTu (TSl RBd) (fun _ _ => True) fun t l => .int .i64 (offB t l)
set_option maxRecDepth 100000 in
theorem pBids4 : PureOk Try.prog G 27 sOff := by
  refine fn2 (S := []) (I := [(47,a47),(48,a48),(49,a49)]) mixed .nil (.cons Try.func47 c47 (.cons Try.func48 c48 (.cons Try.func49 c49 .nil))) Try.func27 c27 fun t l _ hw => ?_
  simp only [↓reduceIte,reduceCtorEq,Nat.reduceEqDiff,Nat.reduceAdd,Nat.reduceSub,Nat.reduceLeDiff,Nat.reduceMul,Nat.reduceLT,Int.reduceToNat,Int.reduceLT,Int.reduceLE,Int.reduceEq,Int.reduceNeg,Int.reduceMul,Int.reduceAdd,Int.reduceSub,Int.reduceNe,Int.reduceBEq,Int.reduceBNe,Nat.reducePow,go_sem] at hw
  simp only [RunTo,a27,a47,a48,a49,↓reduceIte,reduceCtorEq,Nat.reduceEqDiff,Nat.reduceAdd,Nat.reduceSub,Nat.reduceLeDiff,Nat.reduceMul,Nat.reduceLT,Int.reduceToNat,Int.reduceLT,Int.reduceLE,Int.reduceEq,Int.reduceNeg,Int.reduceMul,Int.reduceAdd,Int.reduceSub,Int.reduceNe,Int.reduceBEq,Int.reduceBNe,Nat.reducePow,go_sem]
  by_cases ht : TuOk t
  · rw [offB,decP_t ht]
    obtain ⟨h1,h2,h3⟩ := ht
    refine ⟨fun _ => ⟨fun _ => ⟨fun h => absurd h3 h,fun _ _ => ⟨fun h4 => ?_,fun h4 => ?_⟩⟩,fun h => absurd h2 h⟩,fun h => absurd h1 h⟩
    · rw [if_pos rfl,if_pos (by omega)]
    · rw [if_pos rfl,if_neg (by omega)]
      refine loopI (ι := Nat) (fun j => j ≤ l.1 ∧ ∀ i,i < j → BdOk t (l.2 i)) (fun j => l.1 - j) [1,2] (fun j => [(5,.int .i64 j)]) (fun _ => []) 0 ⟨by omega,fun i h => by omega⟩ (by simp only [↓reduceIte,reduceCtorEq,Nat.reduceEqDiff,Nat.reduceAdd,Nat.reduceSub,Nat.reduceLeDiff,Nat.reduceMul,Nat.reduceLT,Int.reduceToNat,Int.reduceLT,Int.reduceLE,Int.reduceEq,Int.reduceNeg,Int.reduceMul,Int.reduceAdd,Int.reduceSub,Int.reduceNe,Int.reduceBEq,Int.reduceBNe,Nat.reducePow,go_sem]; try rfl) fun j hj => ?_
      obtain ⟨hj1,hj2⟩ := hj
      simp only [hw,a48,a49,↓reduceIte,reduceCtorEq,Nat.reduceEqDiff,Nat.reduceAdd,Nat.reduceSub,Nat.reduceLeDiff,Nat.reduceMul,Nat.reduceLT,Int.reduceToNat,Int.reduceLT,Int.reduceLE,Int.reduceEq,Int.reduceNeg,Int.reduceMul,Int.reduceAdd,Int.reduceSub,Int.reduceNe,Int.reduceBEq,Int.reduceBNe,Nat.reducePow,go_sem]
      refine ⟨fun hlt => ?_,fun hge => ?_⟩
      · have no : ¬ BdOk t (l.2 j) → 43 = if decP (∀ i,i < l.1 → BdOk t (l.2 i)) = true then 0 else (43 : Int) := fun h => by
          rw [decP_f fun k => h (k j (by omega))]; rfl
        repeat' (first | omega | (with_reducible apply And.intro) | intro _)
        all_goals first
          | (refine no fun h => ?_
             obtain ⟨⟨_,_⟩,⟨_,_,_⟩,_,_⟩ := h
             omega)
          | skip
        refine inv_intro (j + 1) ⟨by omega,fun i hi => ?_⟩ (by omega) ?_
        · rcases Nat.lt_or_ge i j with h5 | h5
          · exact hj2 i h5
          · obtain rfl : i = j := by omega
            refine ⟨⟨?_,?_⟩,⟨?_,?_,?_⟩,?_,?_⟩ <;> omega
        · simp only [↓reduceIte,reduceCtorEq,Nat.reduceEqDiff,Nat.reduceAdd,Nat.reduceSub,Nat.reduceLeDiff,Nat.reduceMul,Nat.reduceLT,Int.reduceToNat,Int.reduceLT,Int.reduceLE,Int.reduceEq,Int.reduceNeg,Int.reduceMul,Int.reduceAdd,Int.reduceSub,Int.reduceNe,Int.reduceBEq,Int.reduceBNe,Nat.reducePow,go_sem]
          rw [wrS (by omega)]
      · rw [decP_t fun i hi => hj2 i (by omega)]; rfl
  · have e : offB t l = 2 := by rw [offB,decP_f ht]; rfl
    rw [e]
    refine ⟨fun h1 => ⟨fun h2 => ⟨fun _ => rfl,fun h3 => absurd ⟨h1,h2,h3⟩ ht⟩,fun _ => rfl⟩,fun _ => rfl⟩
end Go.Proofs.Ytlieoghhkioflaa
