/- Palms, the statement PalmMost. No condition. -/
import Derived.Test.YtlapepdhkomijaaPSom
import Derived.Test.YtlapepdhkomijaaACodeL7
set_option linter.unusedSimpArgs false
set_option linter.unusedVariables false
namespace Go.Proofs.Ytlapepdhkomijaa
open Go Go.RowKit
variable {G : Nat → Option (Nat × (Nat → Val))}
def sLawMost : Spec := spec3 (TSl RPm) TWk (TSl (RU .u32)) (fun _ _ _ => True) fun _ _ _ => .bool true
set_option maxHeartbeats 4000000 in
set_option maxRecDepth 100000 in
theorem pLawMost : PureOk Try.prog G 7 sLawMost := by
 refine fn3 (S := [(36,sAliveP),(39,sRdyP),(26,sMoQ),(31,sPrQ),(33,sProves),(40,sPlanL),(41,sCovers),(42,sSome)]) (I := []) mixed
  (.cons pAliveP (.cons pRdyP (.cons (show PureOk Try.prog G _ sMoQ from pMostP) (.cons (show PureOk Try.prog G _ sPrQ from pProofP) (.cons pProvesP (.cons pPlanL (.cons pCovers (.cons pSome .nil)))))))) .nil Try.func7 c7 fun l w b _ hw => ?_
 simp only [RU_k,RU_C,Nat.reduceSub,Nat.reducePow,go_sem] at hw
 cases hr : rdyB l w
 ·simp only [RunTo,a7,sAliveP,sRdyP,hr,RU_k,RU_C,hw,↓imp_tt,↓imp_tf,↓reduceIte,reduceCtorEq,Nat.reduceEqDiff,Nat.reduceAdd,Nat.reduceSub,Nat.reducePow,go_sem]
 have he := rdy_1 hr
 have hb := rdy_b hr
 have hbt : WkB w = True := eq_true hb
 obtain ⟨n,f,e1,en,ef⟩ := mo_ex he
 obtain ⟨k1,k2,k3,f1,f2,f3,e2,⟨m1,m2,m3⟩,e3,e4⟩ := pr_ex he
 have hS := hb.s
 have hpl : planB w (n,f) = true := decP_t (by rw [en,ef]; exact most_pl hb)
 have hlen := (decP_true.1 hpl).len
 have hlen : n ≤ w.spathes.1 := hlen
 rw [← en] at e4
 have y1 : (k1 ≤ 9223372036854775807) = True := eq_true (by omega)
 have y2 : (k2 ≤ 9223372036854775807) = True := eq_true (by omega)
 have y3 : (k3 ≤ 9223372036854775807) = True := eq_true (by omega)
 have y4 : (n ≤ 1000) = True := eq_true (by omega)
 have hso := (some_pl w b w.spathes.1).1
 have hsg := most_ge hb hso
 rw [← en] at hsg
 have y5 : (((someF w b w.spathes.1).1 : Int) ≤ (n : Int)) = True := eq_true (by omega)
 simp (config := { maxSteps := 1000000 }) only [RunTo,a7,sAliveP,sRdyP,sMoQ,sPrQ,sProves,sPlanL,sCovers,sSome,hr,hbt,e1,e2,e3,e4,hpl,y1,y2,y3,y4,y5,RU_k,RU_C,RU_W,RU_D,hw,↓imp_tt,↓imp_tf,↓imp_ft,↓imp_ff,↓reduceIte,reduceCtorEq,Nat.reduceEqDiff,Nat.reduceAdd,Nat.reduceSub,Nat.reduceLT,Nat.reducePow,go_sem]
end Go.Proofs.Ytlapepdhkomijaa
