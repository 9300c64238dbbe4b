/- Auctions: the reference's Auction and Prices. No condition. -/
import Derived.Test.YtlieoghhkioflaaDPcs
set_option linter.unusedSimpArgs false
set_option linter.unusedVariables false
namespace Go.Proofs.Ytlieoghhkioflaa
open Go Go.RowKit
variable {G : Nat → Option (Nat × (Nat → Val))}
noncomputable def aucB (t : Tu) (b : Nat × (Nat → Bd)) : Val := if offB t b = 0 then .tup (.cons (lV (bestB b t.til).1) (.cons (.int .i64 (bestB b t.til).2) (.cons (.int .i64 0) .nil))) else .tup (.cons .nils (.cons (.int .i64 0) (.cons (.int .i64 (offB t b)) .nil)))
noncomputable def sAuc : Spec := spec2 TTu (TSl RBd) (fun _ _ => True) aucB
set_option maxRecDepth 100000 in
theorem pAuctionR : PureOk Try.prog G 6 sAuc := by
 refine fn2 (S := [(27,sOff),(28,sBest)]) (I := []) mixed (.cons pBids4 (.cons pBest .nil)) .nil Try.func6 c6 fun t b _ hw => ?_
 simp only [↓reduceIte,reduceCtorEq,Nat.reduceEqDiff,Nat.reduceAdd,Nat.reduceSub,Nat.reduceLeDiff,Nat.reduceMul,Nat.reduceLT,Int.reduceToNat,Int.reduceLT,Int.reduceLE,Int.reduceEq,Int.reduceNeg,Int.reduceMul,Int.reduceAdd,Int.reduceSub,Int.reduceNe,Int.reduceBEq,Int.reduceBNe,Nat.reducePow,go_sem] at hw
 unfold aucB
 by_cases h0 : offB t b = 0
 ·rw [if_pos h0]
  have hb := (auOk h0).best
  have hbt : (b.1 ≤ 12 ∧ ∀ i,i < b.1 → (b.2 i).turn.fro < (b.2 i).turn.til ∧ 0 ≤ (b.2 i).baisa ∧ (b.2 i).baisa ≤ 1000000000) = True := eq_true hb
  generalize hB : bestB b t.til = B
  simp only [RunTo,a6,sOff,sBest,h0,hbt,hB,hw,↓reduceIte,reduceCtorEq,Nat.reduceEqDiff,Nat.reduceAdd,Nat.reduceSub,Nat.reduceLeDiff,Nat.reduceMul,Nat.reduceLT,Int.reduceToNat,Int.reduceLT,Int.reduceLE,Int.reduceEq,Int.reduceNeg,Int.reduceMul,Int.reduceAdd,Int.reduceSub,Int.reduceNe,Int.reduceBEq,Int.reduceBNe,Nat.reducePow,go_sem]
 ·rw [if_neg h0]
  simp only [RunTo,a6,sOff,h0,hw,↓reduceIte,reduceCtorEq,Nat.reduceEqDiff,Nat.reduceAdd,Nat.reduceSub,Nat.reduceLeDiff,Nat.reduceMul,Nat.reduceLT,Int.reduceToNat,Int.reduceLT,Int.reduceLE,Int.reduceEq,Int.reduceNeg,Int.reduceMul,Int.reduceAdd,Int.reduceSub,Int.reduceNe,Int.reduceBEq,Int.reduceBNe,Nat.reducePow,go_sem]
noncomputable def prsB (t : Tu) (b : Nat × (Nat → Bd)) : Val := if offB t b = 0 then .tup (.cons (.view 3 (prcB t b).1 fun i j => ((prcB t b).2 i).c j) (.cons (.int .i64 0) .nil)) else .tup (.cons .nils (.cons (.int .i64 (offB t b)) .nil))
noncomputable def sPrs : Spec := spec2 TTu (TSl RBd) (fun _ _ => True) prsB
set_option maxRecDepth 100000 in
theorem pPricesR : PureOk Try.prog G 8 sPrs := by
 refine fn2 (S := [(27,sOff),(28,sBest),(31,sEnds)]) (I := []) mixed (.cons pBids4 (.cons pBest (.cons pEnds .nil))) .nil Try.func8 c8 fun t b _ hw => ?_
 simp only [↓reduceIte,reduceCtorEq,Nat.reduceEqDiff,Nat.reduceAdd,Nat.reduceSub,Nat.reduceLeDiff,Nat.reduceMul,Nat.reduceLT,Int.reduceToNat,Int.reduceLT,Int.reduceLE,Int.reduceEq,Int.reduceNeg,Int.reduceMul,Int.reduceAdd,Int.reduceSub,Int.reduceNe,Int.reduceBEq,Int.reduceBNe,Nat.reducePow,go_sem] at hw
 unfold prsB
 by_cases h0 : offB t b = 0
 ·rw [if_pos h0]
  have hA := auOk h0
  have hbt : (b.1 ≤ 12 ∧ ∀ i,i < b.1 → (b.2 i).turn.fro < (b.2 i).turn.til ∧ 0 ≤ (b.2 i).baisa ∧ (b.2 i).baisa ≤ 1000000000) = True := eq_true hA.best
  have het : (TuOk t ∧ b.1 ≤ 12 ∧ ∀ i,i < b.1 → BdOk t (b.2 i)) = True := eq_true (offB_zero.1 h0)
  have e0 := tpB_0 hA
  have hbn := tpB_le hA
  have hrl := hA.len
  have hprc : prcB t b = ((endsL t b).length - 1,fun i => ⟨⟨ln (endsL t b) i,ln (endsL t b) (i + 1)⟩,tpB b (ln (endsL t b) (i + 1)) - tpB b (ln (endsL t b) i)⟩) := rfl
  generalize hL : endsL t b = L at *
  have htp : ∀ x,(bestB b x).2 = tpB b x := fun _ => rfl
  simp only [RunTo,a8,sOff,sEnds,hL,h0,het,hw,↓reduceIte,reduceCtorEq,Nat.reduceEqDiff,Nat.reduceAdd,Nat.reduceSub,Nat.reduceLeDiff,Nat.reduceMul,Nat.reduceLT,Int.reduceToNat,Int.reduceLT,Int.reduceLE,Int.reduceEq,Int.reduceNeg,Int.reduceMul,Int.reduceAdd,Int.reduceSub,Int.reduceNe,Int.reduceBEq,Int.reduceBNe,Nat.reducePow,go_sem]
  intro _ _
  refine loopJ (ι := Nat) (fun i => i + 1 ≤ L.length) (fun i => L.length - i) [1,8] (fun i => [(7,.own (.n 1)),(9,.int .i64 (tpB b (ln L i))),(10,.int .i64 ((i + 1 : Nat) : Int))]) (fun i => [(1,.row 76 3 i fun a c => ((prcB t b).2 a).c c)]) 1 0 (by omega) (by rw [e0]; simp only [↓reduceIte,reduceCtorEq,Nat.reduceEqDiff,Nat.reduceAdd,Nat.reduceSub,Nat.reduceLeDiff,Nat.reduceMul,Nat.reduceLT,Int.reduceToNat,Int.reduceLT,Int.reduceLE,Int.reduceEq,Int.reduceNeg,Int.reduceMul,Int.reduceAdd,Int.reduceSub,Int.reduceNe,Int.reduceBEq,Int.reduceBNe,Nat.reducePow,go_sem]; try trace_state) fun i hi => ?_
  by_cases hil : i + 1 < L.length
  ·have fi : (((i + 1 : Nat) : Int) < (L.length : Int)) = True := eq_true (by omega)
   have hs1 : IntKind.i64.wrap (((i + 1 : Nat) : Int) - 1) = (i : Int) := by rw [wr64 (by omega) (by omega)]; omega
   have b1 := hbn (ln L (i + 1))
   have b2 := hbn (ln L i)
   have hs2 : IntKind.i64.wrap (tpB b (ln L (i + 1)) - tpB b (ln L i)) = tpB b (ln L (i + 1)) - tpB b (ln L i) := wr64 (by omega) (by omega)
   have hp : (prcB t b).2 i = ⟨⟨ln L i,ln L (i + 1)⟩,tpB b (ln L (i + 1)) - tpB b (ln L i)⟩ := by rw [hprc]
   simp only [fi,sBest,hbt,htp,hs1,hs2,Int.toNat_natCast,hw,↓reduceIte,reduceCtorEq,Nat.reduceEqDiff,Nat.reduceAdd,Nat.reduceSub,Nat.reduceLeDiff,Nat.reduceMul,Nat.reduceLT,Int.reduceToNat,Int.reduceLT,Int.reduceLE,Int.reduceEq,Int.reduceNeg,Int.reduceMul,Int.reduceAdd,Int.reduceSub,Int.reduceNe,Int.reduceBEq,Int.reduceBNe,Nat.reducePow,go_sem]
   intro _ _
   refine ⟨by omega,fun _ _ _ _ => ⟨by omega,by omega,by omega,by omega,by omega,inv_intro (i + 1) (by omega) (by omega) ?_⟩⟩
   simp only [↓reduceIte,reduceCtorEq,Nat.reduceEqDiff,Nat.reduceAdd,Nat.reduceSub,Nat.reduceLeDiff,Nat.reduceMul,Nat.reduceLT,Int.reduceToNat,Int.reduceLT,Int.reduceLE,Int.reduceEq,Int.reduceNeg,Int.reduceMul,Int.reduceAdd,Int.reduceSub,Int.reduceNe,Int.reduceBEq,Int.reduceBNe,Nat.reducePow,go_sem]
   refine ⟨wrS (by omega),fun a ha c hc => ?_⟩
   by_cases e : a < i
   ·rw [if_pos e,vsubP_self]; trivial
   ·obtain rfl : a = i := by omega
    rw [if_neg e,Nat.sub_self,hp]
    match c,hc with
    | 0,_ | 1,_ | 2,_ => exact rfl
  ·have fi : (((i + 1 : Nat) : Int) < (L.length : Int)) = False := eq_false (by omega)
   simp only [fi,hw,↓reduceIte,reduceCtorEq,Nat.reduceEqDiff,Nat.reduceAdd,Nat.reduceSub,Nat.reduceLeDiff,Nat.reduceMul,Nat.reduceLT,Int.reduceToNat,Int.reduceLT,Int.reduceLE,Int.reduceEq,Int.reduceNeg,Int.reduceMul,Int.reduceAdd,Int.reduceSub,Int.reduceNe,Int.reduceBEq,Int.reduceBNe,Nat.reducePow,go_sem]
   intro _
   rw [hprc]
   show i = L.length - 1
   omega
 ·rw [if_neg h0]
  simp only [RunTo,a8,sOff,h0,hw,↓reduceIte,reduceCtorEq,Nat.reduceEqDiff,Nat.reduceAdd,Nat.reduceSub,Nat.reduceLeDiff,Nat.reduceMul,Nat.reduceLT,Int.reduceToNat,Int.reduceLT,Int.reduceLE,Int.reduceEq,Int.reduceNeg,Int.reduceMul,Int.reduceAdd,Int.reduceSub,Int.reduceNe,Int.reduceBEq,Int.reduceBNe,Nat.reducePow,go_sem]
end Go.Proofs.Ytlieoghhkioflaa
