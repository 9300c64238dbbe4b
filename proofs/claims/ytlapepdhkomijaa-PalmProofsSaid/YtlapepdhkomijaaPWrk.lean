/- Palms: valid works; the reference's Work. No condition. -/
import Derived.Test.YtlapepdhkomijaaPKno
import Derived.Test.YtlapepdhkomijaaPBea
import Derived.Test.YtlapepdhkomijaaPMath
set_option linter.unusedSimpArgs false
set_option linter.unusedVariables false
namespace Go.Proofs.Ytlapepdhkomijaa
open Go Go.RowKit
variable {G : Nat → Option (Nat × (Nat → Val))}
noncomputable def knF (l : Pms) : Pms := (l.1,knP l)
def SpOk (k : Pms) (day : Int) (s : Sp) : Prop := bearsP k s.palm day 1 ∧ 0 ≤ s.cracks.lo ∧ s.cracks.lo ≤ s.cracks.hi ∧ s.cracks.hi ≤ 1000000
def LtOk (k : Pms) (day : Int) (x : Lt) : Prop := bearsP k x.palm day 2 ∧ (0 ≤ x.units ∧ x.units ≤ 100) ∧ 0 ≤ x.fro ∧ x.fro ≤ x.til ∧ x.til ≤ 1000000
def HrOk (h : Ints) (i : Nat) : Prop := 0 ≤ h.2 i ∧ h.2 i ≤ 1000000 ∧ (0 < i → h.2 (i - 1) < h.2 i)
structure WkOk (k : Pms) (w : Wk) : Prop where
 d : 0 ≤ w.day ∧ w.day ≤ 100000
 o : 1 ≤ w.opn ∧ w.opn ≤ 500
 s : w.spathes.1 ≤ 8
 h : w.hours.1 ≤ 16
 l : w.lots.1 ≤ 4
 sp : ∀ i,i < w.spathes.1 → SpOk k w.day (w.spathes.2 i)
 hr : ∀ i,i < w.hours.1 → HrOk w.hours i
 lt : ∀ i,i < w.lots.1 → LtOk k w.day (w.lots.2 i)
noncomputable def workE (l : Pms) (w : Wk) : Int := if pmE l = 0 then (if badI l < l.1 then 71 else if decP (WkOk (knF l) w) = true then 0 else 72) else 70
theorem WkOk.b {k : Pms} {w : Wk} (h : WkOk k w) : WkB w :=
 ⟨h.s,h.h,h.l,⟨by have := h.o; omega,h.o.2⟩,fun i hi => by obtain ⟨_,h1,h2,h3⟩ := h.sp i hi; omega,fun j hj => by obtain ⟨_,h1,_⟩ := h.lt j hj; exact h1⟩
noncomputable def sWork7 : Spec := spec2 (TSl RPm) TWk (fun _ _ => True) fun l w => .int .i64 (workE l w)
theorem knF_pl {l : Pms} (h : PmsOk l) : ∀ i,i < (knF l).1 → 0 ≤ ((knF l).2 i).planted ∧ ((knF l).2 i).planted ≤ 100000 := fun i hi => h.pl i hi
theorem tuIs {n : Int} (h : 0 ≤ n ∧ n ≤ 255) : (TU .u8).Is (.int .u8 n) = True := eq_true ⟨rfl,h⟩
theorem tuOf {n : Int} (h : 0 ≤ n ∧ n ≤ 255) : ((TU .u8).of (.int .u8 n)).1 = n := toUI_in h
set_option maxHeartbeats 4000000 in
set_option maxRecDepth 100000 in
theorem pWork7 : PureOk Try.prog G 45 sWork7 := by
 refine fn2 (S := [(16,sKnown7),(52,sIn),(77,sBears)]) (I := []) mixed (.cons pKnown7 (.cons pWithin7 (.cons pBears .nil))) .nil Try.func45 c45 fun l w _ hw => ?_
 simp only [Nat.reduceSub,Nat.reducePow,TSl,RInt,RPm,Pm.d,RSp,Sp.d,RLt,Lt.d,Wk.L,TWk,go_sem] at hw
 by_cases hp : PmsOk l
 ·have ep := pmE_ok hp
  by_cases hb : badI l < l.1
  ·have hE : workE l w = 71 := by unfold workE; rw [if_pos ep,if_pos hb]
   rw [hE]
   have fb : (badI l < l.1) = True := eq_true hb
   simp only [RunTo,a45,sKnown7,ep,fb,hw,↓imp_tt,↓imp_tf,↓reduceIte,reduceCtorEq,Nat.reduceEqDiff,Nat.reduceAdd,Nat.reduceSub,Nat.reduceLT,Int.reduceBNe,Nat.reducePow,spec1,TSl,IsSl,RInt,Prod.eta,Pm.c0,Pm.c1,Pm.c2,Pm.c3,Pm.c4,RPm,Pm.w_c,Pm.d,Pm.eta,RSp,Sp.d,RLt,Lt.d,Wk.L,TWk,toUI_val,go_sem]
  ·have fb : (badI l < l.1) = False := eq_false hb
   have hE : workE l w = if decP (WkOk (knF l) w) = true then 0 else 72 := by unfold workE; rw [if_pos ep,if_neg hb]
   rw [hE]
   have hno : ¬ WkOk (knF l) w → (72 : Int) = if decP (WkOk (knF l) w) = true then 0 else 72 := fun h => by rw [decP_f h]; rfl
   simp only [RunTo,a45,sKnown7,sIn,ep,fb,hw,↓imp_tt,↓imp_tf,↓imp_ft,↓imp_ff,↓reduceIte,reduceCtorEq,Nat.reduceEqDiff,Nat.reduceAdd,Nat.reduceSub,Nat.reduceLeDiff,Nat.reduceLT,Nat.reducePow,spec1,spec3,TSl,IsSl,TInt,IsInt,RInt,Prod.eta,Pm.c0,Pm.c1,Pm.c2,Pm.c3,Pm.c4,RPm,Pm.w_c,Pm.d,Pm.eta,RSp,Sp.d,RLt,Lt.d,Wk.L,TWk,toUI_val,go_sem]
   refine ⟨fun h => hno fun k => h k.d,fun h1 => ⟨fun h => hno fun k => h k.o,fun h2 => ⟨fun h => hno fun k => by have := k.s; omega,fun h3 => ⟨fun h => hno fun k => by have := k.h; omega,fun h4 => ⟨fun h => hno fun k => by have := k.l; omega,fun h5 => ?_⟩⟩⟩⟩⟩
   refine loopI (ι := Nat) (fun i => i ≤ w.spathes.1 ∧ ∀ i',i' < i → SpOk (knF l) w.day (w.spathes.2 i')) (fun i => w.spathes.1 - i) [3,5] (fun i => [(8,.int .i64 i)]) (fun _ => []) 0 ⟨Nat.zero_le _,fun i hi => absurd hi (Nat.not_lt_zero _)⟩ (by simp only [↓reduceIte,Nat.reduceEqDiff,Nat.reduceLT,go_sem]; try simp) fun i hi => ?_
   obtain ⟨hi1,hi2⟩ := hi
   by_cases hil : i < w.spathes.1
   ·have fi : ((i : Int) < (w.spathes.1 : Int)) = True := eq_true (by omega)
    have hpl := knF_pl hp
    simp only [fi,sBears,tuIs (n := 1) ⟨by decide,by decide⟩,tuOf (n := 1) ⟨by decide,by decide⟩,hw,↓imp_tt,↓imp_tf,↓reduceIte,reduceCtorEq,Nat.reduceEqDiff,Nat.reduceAdd,Nat.reduceSub,Nat.reduceLeDiff,Int.reduceNeg,Nat.reducePow,spec4,TSl,IsSl,TInt,IsInt,Pm.c0,Pm.c1,Pm.c2,Pm.c3,Pm.c4,RPm,Pm.w_c,Pm.d,Pm.eta,Sp.c0,Sp.c1,Sp.c2,toUI_val,go_sem]
    refine ⟨by omega,hpl,by omega,by omega,fun q => hno fun k => ?_,fun q => ⟨fun q2 => hno fun k => q2 ?_,fun q2 => ⟨fun q3 => hno fun k => ?_,fun q3 => ?_⟩⟩⟩
    ·exact decP_false.1 q (k.sp i hil).1
    ·exact ⟨(k.sp i hil).2.1,(k.sp i hil).2.2.1⟩
    ·have := (k.sp i hil).2.2.2; omega
    ·refine inv_intro (i + 1) ⟨hil,fun i' hi' => ?_⟩ (by omega) ?_
     ·by_cases e : i' = i
      ·subst e; exact ⟨decP_true.1 q,q2.1,q2.2,by omega⟩
      ·exact hi2 i' (by omega)
     ·simp only [↓reduceIte,reduceCtorEq,Nat.reduceEqDiff,Nat.reduceLT,go_sem]
      exact wrS (by omega)
   ·have fi : ((i : Int) < (w.spathes.1 : Int)) = False := eq_false (by omega)
    simp only [fi,hw,↓imp_ft,↓imp_ff,↓reduceIte,Nat.reduceEqDiff,Nat.reduceAdd,Nat.reduceSub,Nat.reduceLeDiff,Nat.reducePow,go_sem]
    obtain rfl : i = w.spathes.1 := by omega
    refine loopI (ι := Nat) (fun i => i ≤ w.hours.1 ∧ ∀ i',i' < i → HrOk w.hours i') (fun i => w.hours.1 - i) [3,5] (fun i => [(10,.int .i64 i)]) (fun _ => []) 0 ⟨Nat.zero_le _,fun i hi => absurd hi (Nat.not_lt_zero _)⟩ (by simp only [↓reduceIte,Nat.reduceEqDiff,Nat.reduceLT,go_sem]; try simp) fun i hi => ?_
    obtain ⟨hi1,hi3⟩ := hi
    by_cases hil : i < w.hours.1
    ·have fi : ((i : Int) < (w.hours.1 : Int)) = True := eq_true (by omega)
     have wi : 0 < i → IntKind.i64.wrap ((i : Int) - 1) = ((i - 1 : Nat) : Int) := fun h => by rw [wr64 (by omega) (by omega)]; omega
     simp only [fi,hw,↓imp_tt,↓imp_tf,↓imp_ft,↓imp_ff,↓reduceIte,Nat.reduceEqDiff,Nat.reduceAdd,Nat.reduceSub,Nat.reduceLeDiff,Nat.reducePow,go_sem]
     have hnew : HrOk w.hours i → i + 1 ≤ w.hours.1 ∧ ∀ i',i' < i + 1 → HrOk w.hours i' := fun hk => ⟨hil,fun i' hi' => by
      by_cases e : i' = i
      ·subst e; exact hk
      ·exact hi3 i' (by omega)⟩
     refine ⟨by omega,fun q => hno fun k => q ⟨(k.hr i hil).1,(k.hr i hil).2.1⟩,fun q => ⟨fun g => ⟨by omega,?_⟩,fun g => ?_⟩⟩
     ·rw [wi (by omega),Int.toNat_natCast]
      refine ⟨by omega,by omega,fun q2 => hno fun k => ?_,fun q2 => ?_⟩
      ·have := (k.hr i hil).2.2 (by omega); omega
      ·refine inv_intro (i + 1) (hnew ⟨q.1,q.2,fun _ => by omega⟩) (by omega) ?_
       simp only [↓reduceIte,Nat.reduceEqDiff,Nat.reduceLT,go_sem]
       exact wrS (by omega)
     ·refine inv_intro (i + 1) (hnew ⟨q.1,q.2,fun h => by omega⟩) (by omega) ?_
      simp only [↓reduceIte,Nat.reduceEqDiff,Nat.reduceLT,go_sem]
      exact wrS (by omega)
    ·have fi : ((i : Int) < (w.hours.1 : Int)) = False := eq_false (by omega)
     obtain rfl : i = w.hours.1 := by omega
     simp only [fi,hw,↓imp_ft,↓imp_ff,↓reduceIte,Nat.reduceEqDiff,Nat.reduceAdd,Nat.reduceSub,Nat.reduceLeDiff,Nat.reducePow,go_sem]
     refine loopI (ι := Nat) (fun i => i ≤ w.lots.1 ∧ ∀ i',i' < i → LtOk (knF l) w.day (w.lots.2 i')) (fun i => w.lots.1 - i) [3,5] (fun i => [(11,.int .i64 i)]) (fun _ => []) 0 ⟨Nat.zero_le _,fun i hi => absurd hi (Nat.not_lt_zero _)⟩ (by simp only [↓reduceIte,Nat.reduceEqDiff,Nat.reduceLT,go_sem]; try simp) fun i hi => ?_
     obtain ⟨hi1,hi4⟩ := hi
     by_cases hil : i < w.lots.1
     ·have fi : ((i : Int) < (w.lots.1 : Int)) = True := eq_true (by omega)
      have hpl := knF_pl hp
      simp only [fi,sBears,tuIs (n := 2) ⟨by decide,by decide⟩,tuOf (n := 2) ⟨by decide,by decide⟩,hw,↓imp_tt,↓imp_tf,↓reduceIte,reduceCtorEq,Nat.reduceEqDiff,Nat.reduceAdd,Nat.reduceSub,Nat.reduceLeDiff,Int.reduceNeg,Nat.reducePow,spec4,TSl,IsSl,TInt,IsInt,Pm.c0,Pm.c1,Pm.c2,Pm.c3,Pm.c4,RPm,Pm.w_c,Pm.d,Pm.eta,Lt.c0,Lt.c1,Lt.c2,Lt.c3,toUI_val,go_sem]
      refine ⟨by omega,hpl,by omega,by omega,fun q => hno fun k => ?_,fun q => ⟨fun q2 => hno fun k => q2 ?_,fun q2 => ⟨fun q3 => hno fun k => q3 ?_,fun q3 => ⟨fun q4 => hno fun k => ?_,fun q4 => ?_⟩⟩⟩⟩
      ·exact decP_false.1 q (k.lt i hil).1
      ·exact (k.lt i hil).2.1
      ·exact ⟨(k.lt i hil).2.2.1,(k.lt i hil).2.2.2.1⟩
      ·have := (k.lt i hil).2.2.2.2; omega
      ·refine inv_intro (i + 1) ⟨hil,fun i' hi' => ?_⟩ (by omega) ?_
       ·by_cases e : i' = i
        ·subst e; exact ⟨decP_true.1 q,q2,q3.1,q3.2,by omega⟩
        ·exact hi4 i' (by omega)
       ·simp only [↓reduceIte,reduceCtorEq,Nat.reduceEqDiff,Nat.reduceLT,go_sem]
        exact wrS (by omega)
     ·have fi : ((i : Int) < (w.lots.1 : Int)) = False := eq_false (by omega)
      obtain rfl : i = w.lots.1 := by omega
      simp only [fi,hw,↓imp_ft,↓imp_ff,↓reduceIte,Nat.reduceEqDiff,Nat.reduceAdd,Nat.reduceSub,Nat.reduceLeDiff,Nat.reducePow,go_sem]
      rw [decP_t ⟨h1,h2,by omega,by omega,by omega,hi2,hi3,hi4⟩]; rfl
 ·have ep := pmE_no hp
  have hE : workE l w = 70 := by unfold workE; rw [if_neg (by rw [ep]; decide)]
  rw [hE]
  simp only [RunTo,a45,sKnown7,ep,hw,↓imp_tt,↓imp_tf,↓reduceIte,reduceCtorEq,Nat.reduceEqDiff,Nat.reduceAdd,Nat.reduceSub,Nat.reduceLT,Int.reduceEq,Int.reduceBNe,Nat.reducePow,spec1,TSl,IsSl,RInt,Prod.eta,Pm.c0,Pm.c1,Pm.c2,Pm.c3,Pm.c4,RPm,Pm.w_c,Pm.d,Pm.eta,RSp,Sp.d,RLt,Lt.d,Wk.L,TWk,toUI_val,go_sem]
end Go.Proofs.Ytlapepdhkomijaa
