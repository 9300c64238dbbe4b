/- Palms, the statement PalmFirst. No condition. -/
import Derived.Test.YtlapepdhkomijaaPSom
import Derived.Test.YtlapepdhkomijaaACodeL8
set_option linter.unusedSimpArgs false
set_option linter.unusedVariables false
namespace Go.Proofs.Ytlapepdhkomijaa
open Go Go.RowKit
variable {G : Nat → Option (Nat × (Nat → Val))}
def sLawFirst : Spec := spec3 (TSl RPm) TWk (TSl (RU .u32)) (fun _ _ _ => True) fun _ _ _ => .bool true
set_option maxHeartbeats 4000000 in
set_option maxRecDepth 100000 in
theorem pLawFirst : PureOk Try.prog G 8 sLawFirst := by
 refine fn3 (S := [(36,sAliveP),(39,sRdyP),(26,sMoQ),(40,sPlanL),(42,sSome)]) (I := []) mixed
  (.cons pAliveP (.cons pRdyP (.cons (show PureOk Try.prog G _ sMoQ from pMostP) (.cons pPlanL (.cons pSome .nil))))) .nil Try.func8 c8 fun l w b _ hw => ?_
 simp only [RU_k,RU_C,Nat.reduceSub,Nat.reducePow,go_sem] at hw
 cases hr : rdyB l w
 ·simp only [RunTo,a8,sAliveP,sRdyP,hr,RU_k,RU_C,hw,↓imp_tt,↓imp_tf,↓reduceIte,reduceCtorEq,Nat.reduceEqDiff,Nat.reduceAdd,Nat.reduceSub,Nat.reducePow,go_sem]
 have he := rdy_1 hr
 have hb := rdy_b hr
 have hbt : WkB w = True := eq_true hb
 obtain ⟨n,f,e1,en,ef⟩ := mo_ex he
 have hS := hb.s
 have hpl : planB w (n,f) = true := decP_t (by rw [en,ef]; exact most_pl hb)
 have hlen := (decP_true.1 hpl).len
 have hlen : n ≤ w.spathes.1 := hlen
 have y4 : (n ≤ 1000) = True := eq_true (by omega)
 have y4' : (n ≤ 9223372036854775807) = True := eq_true (by omega)
 have hso := (some_pl w b w.spathes.1).1
 have hsg := most_ge hb hso
 have hfi := fun k => most_first (k := k) hb hso
 rw [← en] at hsg
 rw [← en,← ef] at hfi
 obtain ⟨o,ho⟩ : ∃ o,someF w b w.spathes.1 = o := ⟨_,rfl⟩
 rw [ho] at hso hsg hfi
 have y7 : (o.1 ≤ 9223372036854775807) = True := eq_true (by omega)
 by_cases hn : ¬ o.1 = n
 ·have y5 : ((o.1 : Int) = (n : Int)) = False := eq_false (by omega)
  have y6 : ((o.1 : Int) < (n : Int)) = True := eq_true (by omega)
  simp (config := { maxSteps := 1000000 }) only [RunTo,a8,sAliveP,sRdyP,sMoQ,sPlanL,sSome,hr,hbt,e1,hpl,y4,y4',y5,y6,y7,ho,RU_k,RU_C,RU_W,RU_D,hw,↓imp_tt,↓imp_tf,↓imp_ft,↓imp_ff,↓reduceIte,reduceCtorEq,Nat.reduceEqDiff,Nat.reduceAdd,Nat.reduceSub,Nat.reduceLT,Nat.reducePow,go_sem]
 have hn := Classical.not_not.1 hn
 have y5 : ((o.1 : Int) = (n : Int)) = True := eq_true (by omega)
 simp (config := { maxSteps := 1000000 }) only [RunTo,a8,sAliveP,sRdyP,sMoQ,sPlanL,sSome,hr,hbt,e1,hpl,y4,y4',y5,y7,ho,RU_k,RU_C,RU_W,RU_D,hw,↓imp_tt,↓imp_tf,↓imp_ft,↓imp_ff,↓reduceIte,reduceCtorEq,Nat.reduceEqDiff,Nat.reduceAdd,Nat.reduceSub,Nat.reduceLT,Nat.reducePow,go_sem]
 refine loopI (ι := Nat) (fun k => k ≤ n ∧ ∀ a,a < k → f a = o.2 a) (fun k => n - k) [7,8,10,55] (fun k => [(56,.int .i64 k)]) (fun _ => []) 0 ⟨Nat.zero_le _,fun a ha => absurd ha (Nat.not_lt_zero _)⟩ (by simp only [↓reduceIte,Nat.reduceEqDiff,Nat.reduceLT,go_sem]; try simp) fun k hk => ?_
 obtain ⟨hk1,hk2⟩ := hk
 by_cases hkn : k < n
 ·have fk : ((k : Int) < (n : Int)) = True := eq_true (by omega)
  have fo : ((k : Int) < (o.1 : Int)) = True := eq_true (by omega)
  simp only [fk,fo,↓imp_tt,↓imp_tf,↓reduceIte,reduceCtorEq,Nat.reduceEqDiff,Nat.reduceAdd,Nat.reduceSub,Nat.reduceLeDiff,go_sem]
  refine ⟨by omega,by omega,by omega,fun e => ?_,fun e => ?_⟩
  ·refine inv_intro (k + 1) ⟨hkn,fun a ha => ?_⟩ (by omega) ?_
   ·by_cases ea : a = k
    ·subst ea; exact duEq.1 e
    ·exact hk2 a (by omega)
   ·simp only [↓reduceIte,reduceCtorEq,Nat.reduceEqDiff,Nat.reduceLT,go_sem]
    exact wrS (by omega)
  ·have hne : f k ≠ o.2 k := fun q => by rw [duEq.2 q] at e; cases e
   have := hfi k hn (by omega) hk2 hne
   omega
 ·have fk : ((k : Int) < (n : Int)) = False := eq_false (by omega)
  simp only [fk,↓imp_ft,↓imp_ff,↓reduceIte,reduceCtorEq,Nat.reduceEqDiff,go_sem]
end Go.Proofs.Ytlapepdhkomijaa
