/- Palms, the statement PalmProofs. No condition. -/
import Derived.Test.YtlapepdhkomijaaPSam
import Derived.Test.YtlapepdhkomijaaPPrR
import Derived.Test.YtlapepdhkomijaaPPrP
import Derived.Test.YtlapepdhkomijaaPCov
import Derived.Test.YtlapepdhkomijaaPPvP
import Derived.Test.YtlapepdhkomijaaACode1
set_option linter.unusedSimpArgs false
set_option linter.unusedVariables false
namespace Go.Proofs.Ytlapepdhkomijaa
open Go Go.RowKit
variable {G : Nat → Option (Nat × (Nat → Val))}
theorem sameB_refl {α : Type} (a : Nat × (Nat → α)) : sameB a a = true := decP_t ⟨rfl,fun _ _ => rfl⟩
theorem wkSame_refl (w : Wk) : wkSame w w := ⟨rfl,rfl,sameB_refl _,sameB_refl _,sameB_refl _⟩
noncomputable def sLawProofs : Spec := spec3 (TSl RPm) TWk TCv (fun _ _ _ => True) fun _ _ _ => .bool true
noncomputable def prV (l : Pms) (w : Wk) : Val := if workE l w = 0 then .tup (.cons (cvV w) (.cons (.int .i64 0) .nil)) else .tup (.cons (.agg (.cons cvE (.cons cvE (.cons cvE .nil)))) (.cons (.int .i64 (workE l w)) .nil))
noncomputable def sProofQ : Spec := spec2 (TSl RPm) TWk (fun _ _ => True) prV
theorem prV_ex (l : Pms) (w : Wk) (hS : w.spathes.1 ≤ 12) (hH : w.hours.1 ≤ 20) (hL : w.lots.1 ≤ 8) : ∃ (k1 k2 k3 : Nat) (f1 f2 f3 : Nat → Int) (e : Int),prV l w = .tup (.cons (.agg (.cons (.view 1 k1 fun a _ => .int .i64 (f1 a)) (.cons (.view 1 k2 fun a _ => .int .i64 (f2 a)) (.cons (.view 1 k3 fun a _ => .int .i64 (f3 a)) .nil)))) (.cons (.int .i64 e) .nil)) ∧ k1 ≤ 20 ∧ k2 ≤ 20 ∧ k3 ≤ 20 := by
 unfold prV
 by_cases he : workE l w = 0
 ·rw [if_pos he]
  have a1 := cntN_le (fun i => !lcB w (.sp i)) w.spathes.1
  have a2 := cntN_le (fun h => lcB w (.hi h) && !lcB w (.ho h)) w.hours.1
  have a3 := cntN_le (fun j => lcB w (.lt j)) w.lots.1
  exact ⟨_,_,_,_,_,_,_,rfl,by omega,by omega,by omega⟩
 ·rw [if_neg he]
  exact ⟨0,0,0,fun _ => 0,fun _ => 0,fun _ => 0,_,rfl,by omega,by omega,by omega⟩
theorem pvV_ex (l : Pms) (w : Wk) (c : Cv) : ∃ n e : Int,pvV l w c = .tup (.cons (.int .i64 n) (.cons (.int .i64 e) .nil)) := by
 unfold pvV
 split
 ·split <;> exact ⟨_,_,rfl⟩
 ·exact ⟨_,_,rfl⟩
set_option maxHeartbeats 4000000 in
set_option maxRecDepth 100000 in
theorem pLawProofs : PureOk Try.prog G 5 sLawProofs := by
 refine fn3 (S := [(14,sGreat7),(23,sTwin7),(31,sProofQ),(32,sProofQ),(33,sProves),(34,sProves),(35,sSameCv),(30,sSameWk)]) (I := []) mixed
  (.cons pGreat7 (.cons pTwin7 (.cons (show PureOk Try.prog G _ sProofQ from pProofP) (.cons (show PureOk Try.prog G _ sProofQ from pProof7) (.cons pProvesP (.cons pProves7 (.cons pSameCv (.cons pSameWk .nil)))))))) .nil Try.func5 c5 fun l w c _ hw => ?_
 simp only [Nat.reduceSub,Nat.reducePow,TSl,RInt,RPm,Pm.d,RSp,Sp.d,RLt,Lt.d,Wk.L,TWk,Cv.L,TCv,go_sem] at hw
 have hT : decP True = true := decP_t trivial
 by_cases hg : l.1 > 30 ∨ w.spathes.1 > 12 ∨ w.hours.1 > 20 ∨ w.lots.1 > 8
 ·have eg := decP_t hg
  simp only [RunTo,a5,sGreat7,eg,hw,↓imp_tt,↓imp_tf,↓reduceIte,reduceCtorEq,Nat.reduceEqDiff,Nat.reduceAdd,Nat.reduceSub,Nat.reducePow,spec2,TSl,IsSl,RInt,RPm,Pm.w_c,Pm.d,RSp,Sp.w_c,Sp.d,RLt,Lt.w_c,Lt.d,Wk.L,Wk.Is,Wk.of,TWk,Wk.d,Cv.L,TCv,go_sem]
 have eg := decP_f hg
 have q1 : (w.spathes.1 ≤ 1000) = True := eq_true (by omega)
 have q2 : (w.hours.1 ≤ 1000) = True := eq_true (by omega)
 have q3 : (w.lots.1 ≤ 1000) = True := eq_true (by omega)
 by_cases g1 : (c.spathes.1 : Int) > 30
 ·have g1 := eq_true g1
  simp only [RunTo,a5,sGreat7,eg,g1,hw,↓imp_tt,↓imp_tf,↓imp_ft,↓imp_ff,↓reduceIte,reduceCtorEq,Nat.reduceEqDiff,Nat.reduceAdd,Nat.reduceSub,Nat.reduceLeDiff,Nat.reducePow,spec2,TSl,IsSl,RInt,RPm,Pm.w_c,Pm.d,RSp,Sp.w_c,Sp.d,RLt,Lt.w_c,Lt.d,Wk.L,Wk.Is,Wk.of,TWk,Wk.d,Cv.L,TCv,go_sem]
 have g1 := eq_false g1
 by_cases g2 : (c.hours.1 : Int) > 30
 ·have g2 := eq_true g2
  simp only [RunTo,a5,sGreat7,eg,g1,g2,hw,↓imp_tt,↓imp_tf,↓imp_ft,↓imp_ff,↓reduceIte,reduceCtorEq,Nat.reduceEqDiff,Nat.reduceAdd,Nat.reduceSub,Nat.reduceLeDiff,Nat.reducePow,spec2,TSl,IsSl,RInt,RPm,Pm.w_c,Pm.d,RSp,Sp.w_c,Sp.d,RLt,Lt.w_c,Lt.d,Wk.L,Wk.Is,Wk.of,TWk,Wk.d,Cv.L,TCv,go_sem]
 have g2 := eq_false g2
 by_cases g3 : (c.lots.1 : Int) > 30
 ·have g3 := eq_true g3
  simp only [RunTo,a5,sGreat7,eg,g1,g2,g3,hw,↓imp_tt,↓imp_tf,↓imp_ft,↓imp_ff,↓reduceIte,reduceCtorEq,Nat.reduceEqDiff,Nat.reduceAdd,Nat.reduceSub,Nat.reduceLeDiff,Nat.reducePow,spec2,TSl,IsSl,RInt,RPm,Pm.w_c,Pm.d,RSp,Sp.w_c,Sp.d,RLt,Lt.w_c,Lt.d,Wk.L,Wk.Is,Wk.of,TWk,Wk.d,Cv.L,TCv,go_sem]
 have g3 := eq_false g3
 obtain ⟨k1,k2,k3,f1,f2,f3,e0,hpr,m1,m2,m3⟩ := prV_ex l w (by omega) (by omega) (by omega)
 obtain ⟨n0,e1,hpv⟩ := pvV_ex l w c
 have y1 : (k1 ≤ 9223372036854775807) = True := eq_true (by omega)
 have y2 : (k2 ≤ 9223372036854775807) = True := eq_true (by omega)
 have y3 : (k3 ≤ 9223372036854775807) = True := eq_true (by omega)
 have s1 : sameB (k1,f1) (k1,f1) = true := sameB_refl _
 have s2 : sameB (k2,f2) (k2,f2) = true := sameB_refl _
 have s3 : sameB (k3,f3) (k3,f3) = true := sameB_refl _
 simp only [RunTo,a5,sGreat7,sTwin7,dayL,sProofQ,sProves,hpr,hpv,sSameCv,sSameWk,sameB_refl,wkSame_refl,y1,y2,y3,q1,q2,q3,eg,g1,g2,g3,hw,↓imp_tt,↓imp_tf,↓imp_ft,↓imp_ff,↓reduceIte,reduceCtorEq,Nat.reduceEqDiff,Nat.reduceAdd,Nat.reduceSub,Nat.reduceLeDiff,Nat.reduceLT,Nat.reducePow,spec1,spec2,spec3,TSl,IsSl,RInt,Prod.eta,Pm.c0,Pm.c1,Pm.c2,Pm.c3,Pm.c4,RPm,Pm.w_c,Pm.d,Pm.eta,Sn.eta,Sp.c0,Sp.c1,Sp.c2,RSp,Sp.w_c,Sp.d,Sp.eta,Lt.c0,Lt.c1,Lt.c2,Lt.c3,RLt,Lt.w_c,Lt.d,Lt.eta,Wk.L,Wk.Is,Wk.of,TWk,Wk.d,Wk.eta,Cv.L,Cv.Is,Cv.of,TCv,Cv.d,Cv.eta,toUI_val,go_sem]
 exact hT
end Go.Proofs.Ytlapepdhkomijaa
