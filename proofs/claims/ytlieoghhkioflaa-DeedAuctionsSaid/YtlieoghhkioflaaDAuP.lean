/- Auctions: the program's Auction. No condition. -/
import Derived.Test.YtlieoghhkioflaaDAon
import Derived.Test.YtlieoghhkioflaaDPrP
set_option linter.unusedSimpArgs false
set_option linter.unusedVariables false
namespace Go.Proofs.Ytlieoghhkioflaa
open Go Go.RowKit
variable {G : Nat → Option (Nat × (Nat → Val))}
theorem onF_all {t : Tu} {b : Nat × (Nat → Bd)} (h : AuOk t b) : onF b b.1 [] ([],0) = bestB b t.til := by
 have := srch_auction (bF b) (bT b) (bV b) b.1 t.til (fun i hi => by obtain ⟨_,⟨_,_,h1⟩,_⟩ := h.bd i hi; exact h1)
 rw [bestB,← this,srch,onF]
 congr 1
set_option maxRecDepth 100000 in
theorem pAuctionP : PureOk Try.prog G 5 sAuc := by
 refine toSpec2 (fnT (S := SAc) (I := IAc) (X := []) (N := []) (C := [(21,none)]) mixed (.cons pOffered (.cons pClip (.cons pCloneV (.cons pApart .nil)))) (.cons Try.func21 c21 (.cons Try.func23 c23 (.cons Try.func46 c46 (.cons Try.func24 c24 .nil)))) .nil Try.func5 c5 fun a _ hw => ?_)
 obtain ⟨t,b,⟨⟩⟩ := a
 simp only [TAnd,TNo,↓reduceIte,reduceCtorEq,Nat.reduceEqDiff,Nat.reduceAdd,Nat.reduceSub,Nat.reduceLeDiff,Nat.reduceMul,Nat.reduceLT,Int.reduceToNat,Int.reduceLT,Int.reduceLE,Int.reduceEq,Int.reduceNeg,Int.reduceMul,Int.reduceAdd,Int.reduceSub,Int.reduceNe,Int.reduceBEq,Int.reduceBNe,Nat.reducePow,go_sem] at hw
 unfold aucB
 by_cases h0 : offB t b = 0
 ·rw [if_pos h0]
  have hA := auOk h0
  have hbest := hA.best.2
  have hn := hA.n
  simp only [a5,TAnd,TNo,specT,sOff,h0,hw,↓reduceIte,reduceCtorEq,Nat.reduceEqDiff,Nat.reduceAdd,Nat.reduceSub,Nat.reduceLeDiff,Nat.reduceMul,Nat.reduceLT,Int.reduceToNat,Int.reduceLT,Int.reduceLE,Int.reduceEq,Int.reduceNeg,Int.reduceMul,Int.reduceAdd,Int.reduceSub,Int.reduceNe,Int.reduceBEq,Int.reduceBNe,Nat.reducePow,go_sem]
  refine aon_run hn (fun i hi => (hbest i hi).2) b.1 (Nat.le_refl _) [] [] 0 .nils .nils _ 5 _ _ [] (by omega) (.inr ⟨rfl,rfl⟩) (.inl ⟨rfl,rfl⟩) (fun i hi => by cases hi) (by show 0 + b.1 ≤ b.1; omega) (Int.le_refl _) rfl rfl (fun N D => (by show vsub N D (lV []) .nils; rw [vs_viewn]; rfl)) rfl rfl (by omega) (fun y hy => ?_) (fun y c hc z v hz => ?_) (fun z v hz => ?_) (fun z v hz => rfl) fun bx' B' hB' r2 r3 rold => ?_
  ·rw [bget_cons1,if_neg (fun e => by cases e; omega),bget_cons1,if_neg (fun e => by cases e; omega),bget_cons1,if_neg (fun e => by cases e; omega),bget_cons1,if_neg (fun e => by cases e; omega),bget_cons1,if_neg (fun e => by cases e; omega)]; rfl
  ·have z1 : (1 = z) = False := eq_false (by omega)
   have z2 : (2 = z) = False := eq_false (by omega)
   have z3 : (3 = z) = False := eq_false (by omega)
   have z4 : (4 = z) = False := eq_false (by omega)
   simp only [bget_cons1] at hc
   split at hc
   ·cases hc; simp only [z1,z2,z3,z4,subBox,↓reduceIte,reduceCtorEq,Nat.reduceEqDiff,Nat.reduceAdd,Nat.reduceSub,Nat.reduceLeDiff,Nat.reduceMul,Nat.reduceLT,Int.reduceToNat,Int.reduceLT,Int.reduceLE,Int.reduceEq,Int.reduceNeg,Int.reduceMul,Int.reduceAdd,Int.reduceSub,Int.reduceNe,Int.reduceBEq,Int.reduceBNe,Nat.reducePow,go_sem]
   split at hc
   ·cases hc; rfl
   split at hc
   ·cases hc; rfl
   split at hc
   ·cases hc; rfl
   split at hc
   ·cases hc; rfl
   ·cases hc
  ·have z0 : (0 = z) = False := eq_false (by omega)
   have z1 : (1 = z) = False := eq_false (by omega)
   have z2 : (2 = z) = False := eq_false (by omega)
   have z3 : (3 = z) = False := eq_false (by omega)
   have z4 : (4 = z) = False := eq_false (by omega)
   simp only [z0,z1,z2,z3,z4,↓reduceIte,reduceCtorEq,Nat.reduceEqDiff,Nat.reduceAdd,Nat.reduceSub,Nat.reduceLeDiff,Nat.reduceMul,Nat.reduceLT,Int.reduceToNat,Int.reduceLT,Int.reduceLE,Int.reduceEq,Int.reduceNeg,Int.reduceMul,Int.reduceAdd,Int.reduceSub,Int.reduceNe,Int.reduceBEq,Int.reduceBNe,Nat.reducePow,go_sem]
  ·rw [onF_all hA] at r2 r3
   obtain ⟨B',rfl⟩ : ∃ q,B' = q + 100 := ⟨B' - 100,by omega⟩
   generalize bestB b t.til = R at *
   simp only [r2,r3,bget_bset,↓reduceIte,reduceCtorEq,Nat.reduceEqDiff,Nat.reduceAdd,Nat.reduceSub,Nat.reduceLeDiff,Nat.reduceMul,Nat.reduceLT,Int.reduceToNat,Int.reduceLT,Int.reduceLE,Int.reduceEq,Int.reduceNeg,Int.reduceMul,Int.reduceAdd,Int.reduceSub,Int.reduceNe,Int.reduceBEq,Int.reduceBNe,Nat.reducePow,go_sem]
 ·rw [if_neg h0]
  simp only [a5,TAnd,TNo,specT,sOff,h0,hw,↓reduceIte,reduceCtorEq,Nat.reduceEqDiff,Nat.reduceAdd,Nat.reduceSub,Nat.reduceLeDiff,Nat.reduceMul,Nat.reduceLT,Int.reduceToNat,Int.reduceLT,Int.reduceLE,Int.reduceEq,Int.reduceNeg,Int.reduceMul,Int.reduceAdd,Int.reduceSub,Int.reduceNe,Int.reduceBEq,Int.reduceBNe,Nat.reducePow,go_sem]
end Go.Proofs.Ytlieoghhkioflaa
