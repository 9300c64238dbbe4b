/- Auctions: the statement DeedAuctions. No condition. -/
import Derived.Test.YtlieoghhkioflaaDAuP
import Derived.Test.YtlieoghhkioflaaDPvP
import Derived.Test.YtlieoghhkioflaaDCmp
import Derived.Test.YtlieoghhkioflaaACode1
set_option linter.unusedSimpArgs false
set_option linter.unusedVariables false
namespace Go.Proofs.Ytlieoghhkioflaa
open Go Go.RowKit
variable {G : Nat → Option (Nat × (Nat → Val))}
theorem sameB_self {α : Type} (a : Nat × (Nat → α)) : sameB a a = true := decP_t ⟨rfl,fun _ _ => rfl⟩
def sLawAuc : Spec := spec3 TTu (TSl RBd) (TSl RPc) (fun _ _ _ => True) fun _ _ _ => .bool true
set_option maxHeartbeats 4000000 in
set_option maxRecDepth 100000 in
theorem pLawAuc : PureOk Try.prog G 3 sLawAuc := by
 refine fn3 (S := [(5,sAuc),(6,sAuc),(7,sPrs),(8,sPrs),(9,sProves),(10,sProves),(11,sSameI),(12,sSamePc)]) (I := []) mixed
  (.cons pAuctionP (.cons pAuctionR (.cons pPricesP (.cons pPricesR (.cons pProvesP (.cons pProvesR (.cons pSameI (.cons pSamePc .nil)))))))) .nil Try.func3 c3 fun t b p _ hw => ?_
 simp only [↓reduceIte,reduceCtorEq,Nat.reduceEqDiff,Nat.reduceAdd,Nat.reduceSub,Nat.reduceLeDiff,Nat.reduceMul,Nat.reduceLT,Int.reduceToNat,Int.reduceLT,Int.reduceLE,Int.reduceEq,Int.reduceNeg,Int.reduceMul,Int.reduceAdd,Int.reduceSub,Int.reduceNe,Int.reduceBEq,Int.reduceBNe,Nat.reducePow,go_sem] at hw
 obtain ⟨w1,w2⟩ := hw
 by_cases hg : 20 < b.1
 ·have g1 : ((b.1 : Int) > 20) = True := eq_true (by omega)
  simp only [RunTo,a3,g1,w1,w2,↓reduceIte,reduceCtorEq,Nat.reduceEqDiff,Nat.reduceAdd,Nat.reduceSub,Nat.reduceLeDiff,Nat.reduceMul,Nat.reduceLT,Int.reduceToNat,Int.reduceLT,Int.reduceLE,Int.reduceEq,Int.reduceNeg,Int.reduceMul,Int.reduceAdd,Int.reduceSub,Int.reduceNe,Int.reduceBEq,Int.reduceBNe,Nat.reducePow,go_sem]
 ·have g1 : ((b.1 : Int) > 20) = False := eq_false (by omega)
  by_cases hg2 : 80 < p.1
  ·have g2 : ((p.1 : Int) > 80) = True := eq_true (by omega)
   simp only [RunTo,a3,g1,g2,w1,w2,↓reduceIte,reduceCtorEq,Nat.reduceEqDiff,Nat.reduceAdd,Nat.reduceSub,Nat.reduceLeDiff,Nat.reduceMul,Nat.reduceLT,Int.reduceToNat,Int.reduceLT,Int.reduceLE,Int.reduceEq,Int.reduceNeg,Int.reduceMul,Int.reduceAdd,Int.reduceSub,Int.reduceNe,Int.reduceBEq,Int.reduceBNe,Nat.reducePow,go_sem]
  ·have g2 : ((p.1 : Int) > 80) = False := eq_false (by omega)
   have n0 : ∀ i : Nat,(i < 0) = False := fun i => eq_false (Nat.not_lt_zero i)
   have nz : ∀ i : Nat,i - 0 = i := fun i => Nat.sub_zero i
   have bl : (b.1 * 32 ≤ 140737488355328) = True := eq_true (by omega)
   by_cases h0 : offB t b = 0
   ·have ha : aucB t b = .tup (.cons (lV (bestB b t.til).1) (.cons (.int .i64 (bestB b t.til).2) (.cons (.int .i64 0) .nil))) := by rw [aucB,if_pos h0]
    have hp : prsB t b = .tup (.cons (.view 3 (prcB t b).1 fun i j => ((prcB t b).2 i).c j) (.cons (.int .i64 0) .nil)) := by rw [prsB,if_pos h0]
    generalize bestB b t.til = R at *
    generalize prcB t b = Pr at *
    generalize prvR t b p = V at *
    simp only [RunTo,a3,g1,g2,n0,nz,bl,sAuc,sPrs,sProves,sSameI,sSamePc,sameB_self,ha,hp,w1,w2,↓reduceIte,reduceCtorEq,Nat.reduceEqDiff,Nat.reduceAdd,Nat.reduceSub,Nat.reduceLeDiff,Nat.reduceMul,Nat.reduceLT,Int.reduceToNat,Int.reduceLT,Int.reduceLE,Int.reduceEq,Int.reduceNeg,Int.reduceMul,Int.reduceAdd,Int.reduceSub,Int.reduceNe,Int.reduceBEq,Int.reduceBNe,Nat.reducePow,go_sem]
    repeat' intro _
    refine loopI (ι := Nat) (fun z => z ≤ b.1) (fun z => b.1 - z) [1,7,109] (fun z => [(22,.bool true),(110,.int .i64 z)]) (fun _ => []) 0 (Nat.zero_le _) (by simp only [↓reduceIte,reduceCtorEq,Nat.reduceEqDiff,Nat.reduceAdd,Nat.reduceSub,Nat.reduceLeDiff,Nat.reduceMul,Nat.reduceLT,Int.reduceToNat,Int.reduceLT,Int.reduceLE,Int.reduceEq,Int.reduceNeg,Int.reduceMul,Int.reduceAdd,Int.reduceSub,Int.reduceNe,Int.reduceBEq,Int.reduceBNe,Nat.reducePow,go_sem]) fun z hz => ?_
    by_cases hzl : z < b.1
    ·have fz : ((z : Int) < (b.1 : Int)) = True := eq_true (by omega)
     simp only [fz,w1,w2,↓reduceIte,reduceCtorEq,Nat.reduceEqDiff,Nat.reduceAdd,Nat.reduceSub,Nat.reduceLeDiff,Nat.reduceMul,Nat.reduceLT,Int.reduceToNat,Int.reduceLT,Int.reduceLE,Int.reduceEq,Int.reduceNeg,Int.reduceMul,Int.reduceAdd,Int.reduceSub,Int.reduceNe,Int.reduceBEq,Int.reduceBNe,Nat.reducePow,go_sem]
     refine ⟨by omega,by omega,inv_intro (z + 1) hzl (by omega) ?_⟩
     simp only [↓reduceIte,reduceCtorEq,Nat.reduceEqDiff,Nat.reduceAdd,Nat.reduceSub,Nat.reduceLeDiff,Nat.reduceMul,Nat.reduceLT,Int.reduceToNat,Int.reduceLT,Int.reduceLE,Int.reduceEq,Int.reduceNeg,Int.reduceMul,Int.reduceAdd,Int.reduceSub,Int.reduceNe,Int.reduceBEq,Int.reduceBNe,Nat.reducePow,go_sem]
     exact wrS (by omega)
    ·have fz : ((z : Int) < (b.1 : Int)) = False := eq_false (by omega)
     simp only [fz,w1,w2,↓reduceIte,reduceCtorEq,Nat.reduceEqDiff,Nat.reduceAdd,Nat.reduceSub,Nat.reduceLeDiff,Nat.reduceMul,Nat.reduceLT,Int.reduceToNat,Int.reduceLT,Int.reduceLE,Int.reduceEq,Int.reduceNeg,Int.reduceMul,Int.reduceAdd,Int.reduceSub,Int.reduceNe,Int.reduceBEq,Int.reduceBNe,Nat.reducePow,go_sem]
   ·have ha : aucB t b = .tup (.cons .nils (.cons (.int .i64 0) (.cons (.int .i64 (offB t b)) .nil))) := by rw [aucB,if_neg h0]
    have hp : prsB t b = .tup (.cons .nils (.cons (.int .i64 (offB t b)) .nil)) := by rw [prsB,if_neg h0]
    generalize offB t b = e at *
    generalize prvR t b p = V at *
    simp only [RunTo,a3,g1,g2,n0,nz,bl,sAuc,sPrs,sProves,sSameI,sSamePc,sameB_self,ha,hp,w1,w2,↓reduceIte,reduceCtorEq,Nat.reduceEqDiff,Nat.reduceAdd,Nat.reduceSub,Nat.reduceLeDiff,Nat.reduceMul,Nat.reduceLT,Int.reduceToNat,Int.reduceLT,Int.reduceLE,Int.reduceEq,Int.reduceNeg,Int.reduceMul,Int.reduceAdd,Int.reduceSub,Int.reduceNe,Int.reduceBEq,Int.reduceBNe,Nat.reducePow,go_sem]
    repeat' intro _
    refine loopI (ι := Nat) (fun z => z ≤ b.1) (fun z => b.1 - z) [1,7,109] (fun z => [(22,.bool true),(110,.int .i64 z)]) (fun _ => []) 0 (Nat.zero_le _) (by simp only [↓reduceIte,reduceCtorEq,Nat.reduceEqDiff,Nat.reduceAdd,Nat.reduceSub,Nat.reduceLeDiff,Nat.reduceMul,Nat.reduceLT,Int.reduceToNat,Int.reduceLT,Int.reduceLE,Int.reduceEq,Int.reduceNeg,Int.reduceMul,Int.reduceAdd,Int.reduceSub,Int.reduceNe,Int.reduceBEq,Int.reduceBNe,Nat.reducePow,go_sem]) fun z hz => ?_
    by_cases hzl : z < b.1
    ·have fz : ((z : Int) < (b.1 : Int)) = True := eq_true (by omega)
     simp only [fz,w1,w2,↓reduceIte,reduceCtorEq,Nat.reduceEqDiff,Nat.reduceAdd,Nat.reduceSub,Nat.reduceLeDiff,Nat.reduceMul,Nat.reduceLT,Int.reduceToNat,Int.reduceLT,Int.reduceLE,Int.reduceEq,Int.reduceNeg,Int.reduceMul,Int.reduceAdd,Int.reduceSub,Int.reduceNe,Int.reduceBEq,Int.reduceBNe,Nat.reducePow,go_sem]
     refine ⟨by omega,by omega,inv_intro (z + 1) hzl (by omega) ?_⟩
     simp only [↓reduceIte,reduceCtorEq,Nat.reduceEqDiff,Nat.reduceAdd,Nat.reduceSub,Nat.reduceLeDiff,Nat.reduceMul,Nat.reduceLT,Int.reduceToNat,Int.reduceLT,Int.reduceLE,Int.reduceEq,Int.reduceNeg,Int.reduceMul,Int.reduceAdd,Int.reduceSub,Int.reduceNe,Int.reduceBEq,Int.reduceBNe,Nat.reducePow,go_sem]
     exact wrS (by omega)
    ·have fz : ((z : Int) < (b.1 : Int)) = False := eq_false (by omega)
     simp only [fz,w1,w2,↓reduceIte,reduceCtorEq,Nat.reduceEqDiff,Nat.reduceAdd,Nat.reduceSub,Nat.reduceLeDiff,Nat.reduceMul,Nat.reduceLT,Int.reduceToNat,Int.reduceLT,Int.reduceLE,Int.reduceEq,Int.reduceNeg,Int.reduceMul,Int.reduceAdd,Int.reduceSub,Int.reduceNe,Int.reduceBEq,Int.reduceBNe,Nat.reducePow,go_sem]
end Go.Proofs.Ytlieoghhkioflaa
