/- Palms, the statement PalmBound. No condition. -/
import Derived.Test.YtlapepdhkomijaaPSom
import Derived.Test.YtlapepdhkomijaaACodeL10
set_option linter.unusedSimpArgs false
set_option linter.unusedVariables false
namespace Go.Proofs.Ytlapepdhkomijaa
open Go Go.RowKit
variable {G : Nat → Option (Nat × (Nat → Val))}
def sLawBound : Spec := spec4 (TSl RPm) TWk TCv (TSl (RU .u32)) (fun _ _ _ _ => True) fun _ _ _ _ => .bool true
set_option maxHeartbeats 4000000 in
set_option maxRecDepth 100000 in
theorem pLawBound : PureOk Try.prog G 10 sLawBound := by
 refine fn4 (S := [(36,sAliveP),(39,sRdyP),(26,sMoQ),(33,sProves),(41,sCovers),(42,sSome)]) (I := []) mixed
  (.cons pAliveP (.cons pRdyP (.cons (show PureOk Try.prog G _ sMoQ from pMostP) (.cons pProvesP (.cons pCovers (.cons pSome .nil)))))) .nil Try.func10 c10 fun l w c b _ hw => ?_
 simp only [RU_k,RU_C,Nat.reduceSub,Nat.reducePow,go_sem] at hw
 cases hr : rdyB l w
 ·simp only [RunTo,a10,sAliveP,sRdyP,hr,RU_k,RU_C,hw,↓imp_tt,↓imp_tf,↓reduceIte,reduceCtorEq,Nat.reduceEqDiff,Nat.reduceAdd,Nat.reduceSub,Nat.reducePow,go_sem]
 by_cases g1 : (c.spathes.1 : Int) > 30
 ·have g1 := eq_true g1
  simp only [RunTo,a10,sAliveP,sRdyP,hr,g1,RU_k,RU_C,hw,↓imp_tt,↓imp_tf,↓imp_ft,↓imp_ff,↓reduceIte,reduceCtorEq,Nat.reduceEqDiff,Nat.reduceAdd,Nat.reduceSub,Nat.reduceLeDiff,Nat.reducePow,go_sem]
 have g1 := eq_false g1
 by_cases g2 : (c.hours.1 : Int) > 30
 ·have g2 := eq_true g2
  simp only [RunTo,a10,sAliveP,sRdyP,hr,g1,g2,RU_k,RU_C,hw,↓imp_tt,↓imp_tf,↓imp_ft,↓imp_ff,↓reduceIte,reduceCtorEq,Nat.reduceEqDiff,Nat.reduceAdd,Nat.reduceSub,Nat.reduceLeDiff,Nat.reducePow,go_sem]
 have g2 := eq_false g2
 by_cases g3 : (c.lots.1 : Int) > 30
 ·have g3 := eq_true g3
  simp only [RunTo,a10,sAliveP,sRdyP,hr,g1,g2,g3,RU_k,RU_C,hw,↓imp_tt,↓imp_tf,↓imp_ft,↓imp_ff,↓reduceIte,reduceCtorEq,Nat.reduceEqDiff,Nat.reduceAdd,Nat.reduceSub,Nat.reduceLeDiff,Nat.reducePow,go_sem]
 have g3 := eq_false g3
 have he := rdy_1 hr
 have hb := rdy_b hr
 have hbt : WkB w = True := eq_true hb
 obtain ⟨n,f,e1,en,ef⟩ := mo_ex he
 have hS := hb.s
 have hlen := (most_pl hb).len
 have hlen : n ≤ w.spathes.1 := by rw [en]; exact hlen
 have hso := (some_pl w b w.spathes.1).1
 have y4 : (n ≤ 9223372036854775807) = True := eq_true (by omega)
 cases hc : covB w c
 ·have e4 : pvV l w c = .tup (.cons (.int .i64 0) (.cons (.int .i64 73) .nil)) := by
   unfold pvV; rw [if_pos he,hc]; rfl
  simp (config := { maxSteps := 1000000 }) only [RunTo,a10,sAliveP,sRdyP,sMoQ,sProves,sCovers,sSome,hr,g1,g2,g3,hbt,e4,hc,RU_k,RU_C,hw,↓imp_tt,↓imp_tf,↓imp_ft,↓imp_ff,↓reduceIte,reduceCtorEq,Nat.reduceEqDiff,Nat.reduceAdd,Nat.reduceSub,Nat.reduceLeDiff,Nat.reduceLT,Int.reduceBNe,Nat.reducePow,go_sem]
 ·have e4 : pvV l w c = .tup (.cons (.int .i64 (numC w c)) (.cons (.int .i64 0) .nil)) := by
   unfold pvV; rw [if_pos he,hc]; rfl
  have b1 := bound_cov hb hc (most_pl hb)
  have b1 : ((plD w).cnt : Int) ≤ numC w c := b1
  rw [← en] at b1
  have b2 := bound_cov hb hc hso
  have y5 : (numC w c ≥ (n : Int)) = True := eq_true b1
  have y6 : (numC w c ≥ ((someF w b w.spathes.1).1 : Int)) = True := eq_true b2
  simp (config := { maxSteps := 1000000 }) only [RunTo,a10,sAliveP,sRdyP,sMoQ,sProves,sCovers,sSome,hr,g1,g2,g3,hbt,e1,e4,hc,y4,y5,y6,RU_k,RU_C,RU_W,RU_D,hw,↓imp_tt,↓imp_tf,↓imp_ft,↓imp_ff,↓reduceIte,reduceCtorEq,Nat.reduceEqDiff,Nat.reduceAdd,Nat.reduceSub,Nat.reduceLeDiff,Nat.reduceLT,Nat.reducePow,go_sem]
end Go.Proofs.Ytlapepdhkomijaa
