/- Palms, the reference: most, Most. No condition but bounds. -/
import Derived.Test.YtlapepdhkomijaaPWrk
import Derived.Test.YtlapepdhkomijaaPRgr
import Derived.Test.YtlapepdhkomijaaPSt
import Derived.Test.YtlapepdhkomijaaPSl7
set_option linter.unusedSimpArgs false
set_option linter.unusedVariables false
namespace Go.Proofs.Ytlapepdhkomijaa
open Go Go.RowKit
variable {G : Nat → Option (Nat × (Nat → Val))}
theorem bool_ite {c : Prop} [Decidable c] {a b : Bool} : (if c then Val.bool a else Val.bool b) = Val.bool (if c then a else b) := by split <;> rfl
theorem int_ite {c : Prop} [Decidable c] {k : IntKind} {a b : Int} : (if c then Val.int k a else Val.int k b) = Val.int k (if c then a else b) := by split <;> rfl
noncomputable def plD (w : Wk) : PS := stD w (fun _ => true) (fun j => (w.lots.2 j).units) w.spathes.1
noncomputable def sMostR : Spec := spec1 TWk (fun w => WkB w) fun w => .view 3 (plD w).cnt fun a b => ((plD w).pl a).c b
set_option maxHeartbeats 4000000 in
set_option maxRecDepth 100000 in
theorem pMostR : PureOk Try.prog G 60 sMostR := by
 refine fn1 (S := [(87,sGrtst),(56,sTakes),(69,sGood)]) (I := [(86,a86)]) mixed (.cons pGrtst (.cons pTakesR (.cons pGoodR .nil))) (.cons Try.func86 c86 .nil) Try.func60 c60 fun w hb hw => ?_
 simp only [Nat.reduceSub,Nat.reducePow,RInt,RSp,Sp.d,RLt,Lt.d,Wk.L,TWk,go_sem] at hw
 have hS := hb.s
 have hH := hb.h
 have hL := hb.l
 simp only [RunTo,a60,a86,hw,↓reduceIte,Nat.reduceEqDiff,Nat.reduceAdd,Nat.reduceSub,Nat.reduceLeDiff,Nat.reduceLT,Nat.reducePow,RInt,RSp,Sp.d,RLt,Lt.d,Wk.L,TWk,go_sem]
 refine ⟨by omega,by omega,by omega,?_⟩
 refine loopI (ι := Nat) (fun i => i ≤ w.hours.1) (fun i => w.hours.1 - i) [1,4] (fun i => [(5,.int .i64 i)]) (fun i => [(2,.row 4 1 w.hours.1 fun a _ => .bool (decide (a < i)))]) 0 (Nat.zero_le _) (by
  simp only [↓reduceIte,reduceCtorEq,Nat.reduceEqDiff,Nat.reduceLT,go_sem]
  intro a ha b hb
  obtain rfl : b = 0 := by omega
  simp [vget]) fun i hi => ?_
 by_cases hil : i < w.hours.1
 ·have fi : ((i : Int) < (w.hours.1 : Int)) = True := eq_true (by omega)
  simp only [fi,↓imp_tt,↓imp_tf,↓reduceIte,Nat.reduceEqDiff,go_sem]
  refine ⟨by omega,inv_intro (i + 1) hil (by omega) ?_⟩
  simp only [↓reduceIte,reduceCtorEq,Nat.reduceEqDiff,Nat.reduceLT,go_sem]
  refine ⟨wrS (by omega),fun a ha b hb => ?_⟩
  obtain rfl : b = 0 := by omega
  by_cases e : a = i
  ·subst e; simp [vget]
  ·have : (a < i + 1) = (a < i) := propext ⟨fun h => by omega,fun h => by omega⟩
   simp [e,this]
 have fi : ((i : Int) < (w.hours.1 : Int)) = False := eq_false (by omega)
 obtain rfl : i = w.hours.1 := by omega
 simp only [fi,↓imp_ft,↓imp_ff,↓reduceIte,Nat.reduceEqDiff,go_sem]
 refine loopJ (ι := Nat) (fun i => i ≤ w.lots.1) (fun i => w.lots.1 - i) [1,4] (fun i => [(7,.int .i64 i),(6,.own (.n 3))]) (fun i => [(3,.row 3 1 i fun a _ => .int .i64 (w.lots.2 a).units)]) 1 0 (Nat.zero_le _) (by simp only [↓reduceIte,reduceCtorEq,Nat.reduceEqDiff,Nat.reduceAdd,Nat.reduceLT,go_sem]; try simp) fun i hi => ?_
 by_cases hil : i < w.lots.1
 ·have fi : ((i : Int) < (w.lots.1 : Int)) = True := eq_true (by omega)
  simp only [fi,hw,↓imp_tt,↓imp_tf,↓reduceIte,reduceCtorEq,Nat.reduceEqDiff,Nat.reduceAdd,Nat.reduceSub,Nat.reduceLeDiff,Nat.reduceLT,Nat.reducePow,Lt.c1,go_sem]
  refine ⟨by omega,by omega,by omega,inv_intro (i + 1) hil (by omega) ?_⟩
  simp only [↓reduceIte,reduceCtorEq,Nat.reduceEqDiff,Nat.reduceLT,go_sem]
  refine ⟨wrS (by omega),fun a ha b hb => ?_⟩
  obtain rfl : b = 0 := by omega
  by_cases e : a = i
  ·subst e; simp [vget]
  ·have : a < i := by omega
   simp [this]
 have fi : ((i : Int) < (w.lots.1 : Int)) = False := eq_false (by omega)
 obtain rfl : i = w.lots.1 := by omega
 have hu : ∀ j,j < w.lots.1 → 0 ≤ (w.lots.2 j).units ∧ (w.lots.2 j).units ≤ 100 := hb.u
 have hbt : WkB w = True := eq_true hb
 simp only [fi,sGrtst,hbt,hw,↓imp_ft,↓imp_ff,↓reduceIte,reduceCtorEq,Nat.reduceEqDiff,Nat.reduceAdd,Nat.reduceSub,Nat.reduceLeDiff,Nat.reduceLT,Int.reduceToNat,Int.reduceLE,Nat.reducePow,spec4,TSl,IsSl,TInt,IsInt,RInt,RBool,Prod.eta,Sn.eta,Sp.c0,Sp.c1,Sp.c2,RSp,Sp.w_c,Sp.d,Sp.eta,Lt.c0,Lt.c1,Lt.c2,Lt.c3,RLt,Lt.w_c,Lt.d,Lt.eta,Wk.L,Wk.Is,Wk.of,TWk,Wk.d,Wk.eta,go_sem]
 refine ⟨by omega,hu,?_⟩
 refine loopJ (ι := Nat) (fun i => i ≤ w.spathes.1) (fun i => w.spathes.1 - i) [1,3,4] (fun i => [(7,.int .i64 i),(6,.own (.n 4)),(5,.int .i64 (stD w (fun _ => true) (fun j => (w.lots.2 j).units) i).need)])
  (fun i => [(4,.row 84 3 (stD w (fun _ => true) (fun j => (w.lots.2 j).units) i).cnt fun a b => ((stD w (fun _ => true) (fun j => (w.lots.2 j).units) i).pl a).c b),(3,.row 3 1 w.lots.1 fun a _ => .int .i64 ((stD w (fun _ => true) (fun j => (w.lots.2 j).units) i).un a)),(2,.row 4 1 w.hours.1 fun a _ => .bool ((stD w (fun _ => true) (fun j => (w.lots.2 j).units) i).fr a))]) 1 0 (Nat.zero_le _) (by
   simp only [stD,↓reduceIte,reduceCtorEq,Nat.reduceEqDiff,Nat.reduceAdd,Nat.reduceLT,go_sem]
   refine ⟨maxP_congr (fun h hh => decide_eq_true hh) (fun _ _ => rfl) fun j hj => (hu j hj).1,fun a ha b hb => ?_⟩
   simp [ha]) fun i hi => ?_
 have hok := st_ok hb (fr := fun _ => true) hu i
 have hnx : stD w (fun _ => true) (fun j => (w.lots.2 j).units) (i + 1) = stepD w i (stD w (fun _ => true) (fun j => (w.lots.2 j).units) i) := rfl
 by_cases hil : i < w.spathes.1
 ·have fi : ((i : Int) < (w.spathes.1 : Int)) = True := eq_true (by omega)
  generalize hs : stD w (fun _ => true) (fun j => (w.lots.2 j).units) i = s at hok hnx
  simp only [fi,hw,↓imp_tt,↓imp_tf,↓reduceIte,reduceCtorEq,Nat.reduceEqDiff,Nat.reduceAdd,Nat.reduceSub,Nat.reduceLeDiff,Nat.reducePow,go_sem]
  have hcn := hok.cn
  refine loopI (ι := Nat × Bool) (fun q => q.1 ≤ w.hours.1 ∧ (q.2 = false → ∀ h',h' < q.1 → ∀ j',j' < w.lots.1 → ¬ canD w i s h' j')) (fun q => w.hours.1 - q.1) [1,3,4,7] (fun q => [(9,.int .i64 q.1),(8,.bool q.2),(6,.own (.n 4)),(5,.int .i64 (if q.2 = true then stepD w i s else s).need)])
   (fun q => [(4,.row 84 3 (if q.2 = true then stepD w i s else s).cnt fun a b => ((if q.2 = true then stepD w i s else s).pl a).c b),(3,.row 3 1 w.lots.1 fun a _ => .int .i64 ((if q.2 = true then stepD w i s else s).un a)),(2,.row 4 1 w.hours.1 fun a _ => .bool ((if q.2 = true then stepD w i s else s).fr a))]) (0,false) ⟨Nat.zero_le _,fun _ h hh => absurd hh (Nat.not_lt_zero _)⟩ (by
    simp only [↓reduceIte,reduceCtorEq,Nat.reduceEqDiff,Nat.reduceLT,go_sem]) fun q hq => ?_
  obtain ⟨h,fd⟩ := q
  obtain ⟨hh1,hh2⟩ := hq
  simp only at hh1 hh2
  cases fd with
  | true =>
   simp only [hw,↓imp_ft,↓imp_ff,↓reduceIte,reduceCtorEq,Nat.reduceEqDiff,Nat.reduceAdd,Nat.reduceSub,Nat.reduceLeDiff,Nat.reducePow,go_sem]
   refine ⟨fun _ => ?_,fun _ => ?_⟩ <;>
   ·refine inv_intro (i + 1) hil (by omega) ?_
    simp only [hnx,↓reduceIte,reduceCtorEq,Nat.reduceEqDiff,Nat.reduceLT,go_sem]
    exact wrS (by omega)
  | false =>
   by_cases hhl : h < w.hours.1
   ·have fh : ((h : Int) < (w.hours.1 : Int)) = True := eq_true (by omega)
    simp only [fh,hw,↓imp_tt,↓imp_tf,↓reduceIte,reduceCtorEq,Nat.reduceEqDiff,Nat.reduceAdd,Nat.reduceSub,Nat.reduceLeDiff,Nat.reducePow,go_sem]
    refine loopI (ι := Nat × Bool) (fun q => q.1 ≤ w.lots.1 ∧ (q.2 = false → ∀ j',j' < q.1 → ¬ canD w i s h j')) (fun q => w.lots.1 - q.1) [1,3,4,7,9] (fun q => [(10,.int .i64 q.1),(8,.bool q.2),(6,.own (.n 4)),(5,.int .i64 (if q.2 = true then stepD w i s else s).need)])
     (fun q => [(4,.row 84 3 (if q.2 = true then stepD w i s else s).cnt fun a b => ((if q.2 = true then stepD w i s else s).pl a).c b),(3,.row 3 1 w.lots.1 fun a _ => .int .i64 ((if q.2 = true then stepD w i s else s).un a)),(2,.row 4 1 w.hours.1 fun a _ => .bool ((if q.2 = true then stepD w i s else s).fr a))]) (0,false) ⟨Nat.zero_le _,fun _ h hh => absurd hh (Nat.not_lt_zero _)⟩ (by
      simp only [↓reduceIte,reduceCtorEq,Nat.reduceEqDiff,Nat.reduceLT,go_sem]) fun q hq => ?_
    obtain ⟨j,fd⟩ := q
    obtain ⟨hj1,hj2⟩ := hq
    simp only at hj1 hj2
    cases fd with
    | true =>
     simp only [hw,↓imp_ft,↓imp_ff,↓reduceIte,reduceCtorEq,Nat.reduceEqDiff,Nat.reduceAdd,Nat.reduceSub,Nat.reduceLeDiff,Nat.reducePow,go_sem]
     refine ⟨fun _ => ?_,fun _ => ?_⟩ <;>
     ·refine inv_intro (h + 1,true) ⟨hhl,fun e => by cases e⟩ (by simp only; omega) ?_
      simp only [↓reduceIte,reduceCtorEq,Nat.reduceEqDiff,Nat.reduceLT,go_sem]
      exact wrS (by omega)
    | false =>
     by_cases hjl : j < w.lots.1
     ·have fj : ((j : Int) < (w.lots.1 : Int)) = True := eq_true (by omega)
      have pi1 : (0 ≤ (i : Int)) = True := eq_true (by omega)
      have ph1 : (0 ≤ (h : Int)) = True := eq_true (by omega)
      have pj1 : (0 ≤ (j : Int)) = True := eq_true (by omega)
      have hjn : ¬ canD w i s h j → j + 1 ≤ w.lots.1 ∧ ((false : Bool) = false → ∀ j',j' < j + 1 → ¬ canD w i s h j') := fun hn => ⟨hjl,fun _ j' hj' => by
       by_cases e : j' = j
       ·subst e; exact hn
       ·exact hj2 rfl j' (by omega)⟩
      cases hf : s.fr h with
      | false =>
       simp only [fj,fh,hf,hw,↓imp_tt,↓imp_tf,↓reduceIte,reduceCtorEq,Nat.reduceEqDiff,Nat.reduceAdd,Nat.reduceSub,Nat.reduceLeDiff,Nat.reducePow,go_sem]
       refine ⟨by omega,?_⟩
       refine inv_intro (j + 1,false) (hjn fun hc => ?_) (by simp only; omega) ?_
       ·obtain ⟨c1,c2,c3,c4,_⟩ := hc
        simp_all
       ·simp only [↓reduceIte,reduceCtorEq,Nat.reduceEqDiff,Nat.reduceLT,go_sem]
        exact wrS (by omega)
      | true =>
       by_cases hun : s.un j = 0
       ·have hun' : (s.un j = 0) = True := eq_true hun
        simp (config := { maxSteps := 200000 }) only [fj,fh,fi,pi1,ph1,pj1,hf,hun',hbt,sTakes,sGood,Int.toNat_natCast,hw,↓imp_tt,↓imp_tf,↓imp_ft,↓imp_ff,↓reduceIte,reduceCtorEq,Nat.reduceEqDiff,Nat.reduceAdd,Nat.reduceSub,Nat.reduceLeDiff,Nat.reduceLT,Nat.reducePow,spec3,TInt,IsInt,RInt,Prod.eta,Sn.eta,Sp.c0,Sp.c1,Sp.c2,RSp,Sp.w_c,Sp.d,Sp.eta,Lt.c0,Lt.c1,Lt.c2,Lt.c3,RLt,Lt.w_c,Lt.d,Lt.eta,Wk.L,Wk.Is,Wk.of,TWk,Wk.d,Wk.eta,go_sem]
        refine inv_intro (j + 1,false) (hjn fun hc => ?_) (by simp only; omega) ?_
        ·obtain ⟨c1,c2,c3,c4,_⟩ := hc
         simp_all
        ·simp only [↓reduceIte,reduceCtorEq,Nat.reduceEqDiff,Nat.reduceLT,go_sem]
         exact wrS (by omega)
       ·have hun' : (s.un j = 0) = False := eq_false hun
        cases ht : takesF w i h with
        | false =>
         simp (config := { maxSteps := 1000000 }) only [fj,fh,fi,pi1,ph1,pj1,hf,hun',hbt,sTakes,ht,Int.toNat_natCast,hw,↓imp_tt,↓imp_tf,↓imp_ft,↓imp_ff,↓reduceIte,reduceCtorEq,Nat.reduceEqDiff,Nat.reduceAdd,Nat.reduceSub,Nat.reduceLeDiff,Nat.reducePow,spec3,TInt,IsInt,RInt,Prod.eta,Sn.eta,Sp.c0,Sp.c1,Sp.c2,RSp,Sp.w_c,Sp.d,Sp.eta,Lt.c0,Lt.c1,Lt.c2,Lt.c3,RLt,Lt.w_c,Lt.d,Lt.eta,Wk.L,Wk.Is,Wk.of,TWk,Wk.d,Wk.eta,go_sem]
         refine inv_intro (j + 1,false) (hjn fun hc => ?_) (by simp only; omega) ?_
         ·obtain ⟨c1,c2,c3,c4,_⟩ := hc
          simp_all
         ·simp only [↓reduceIte,reduceCtorEq,Nat.reduceEqDiff,Nat.reduceLT,go_sem]
          exact wrS (by omega)
        | true =>
         cases hg : goodF w h j with
         | false =>
          simp (config := { maxSteps := 1000000 }) only [fj,fh,fi,pi1,ph1,pj1,hf,hun',hbt,sTakes,sGood,ht,hg,Int.toNat_natCast,hw,↓imp_tt,↓imp_tf,↓imp_ft,↓imp_ff,↓reduceIte,reduceCtorEq,Nat.reduceEqDiff,Nat.reduceAdd,Nat.reduceSub,Nat.reduceLeDiff,Nat.reducePow,spec3,TInt,IsInt,RInt,Prod.eta,Sn.eta,Sp.c0,Sp.c1,Sp.c2,RSp,Sp.w_c,Sp.d,Sp.eta,Lt.c0,Lt.c1,Lt.c2,Lt.c3,RLt,Lt.w_c,Lt.d,Lt.eta,Wk.L,Wk.Is,Wk.of,TWk,Wk.d,Wk.eta,go_sem]
          refine inv_intro (j + 1,false) (hjn fun hc => ?_) (by simp only; omega) ?_
          ·obtain ⟨c1,c2,c3,c4,_⟩ := hc
           simp_all
          ·simp only [↓reduceIte,reduceCtorEq,Nat.reduceEqDiff,Nat.reduceLT,go_sem]
           exact wrS (by omega)
         | true =>
          have h0 := hok.un j hjl
          have hnd := hok.nd
          have hu2 := useD_un hok.un hjl hun
          have hu3 := ntF_un (w := w) (a := i + 1) (fr := takD s.fr h) (un := useD s.un j) fun b hb => (hu2 b hb).1
          have m1 := maxP_nn hu3
          have m2 := maxP_le hu3
          have m3 : ((ntF w (i + 1) (takD s.fr h) (useD s.un j)).S : Int) ≤ 8 := by show (w.spathes.1 : Int) ≤ 8; omega
          have w6 : IntKind.i64.wrap ((i : Int) + 1) = ((i + 1 : Nat) : Int) := wrS (by omega)
          have w7 : IntKind.i64.wrap (s.un j - 1) = s.un j - 1 := wr64 (by omega) (by omega)
          have w8 : IntKind.i64.wrap (1 + maxP (ntF w (i + 1) (fun a => if a = h then false else s.fr a) fun b => if b = j then s.un b - 1 else s.un b)) = 1 + maxP (ntF w (i + 1) (takD s.fr h) (useD s.un j)) := wr64 (e := 1 + maxP (ntF w (i + 1) (takD s.fr h) (useD s.un j))) (by omega) (by omega)
          have w9 : IntKind.i64.wrap (s.need - 1) = s.need - 1 := wr64 (by omega) (by omega)
          have wa : IntKind.i64.wrap (s.un j - 1 + 1) = s.un j := by rw [wr64 (by omega) (by omega)]; omega
          have hjj : (fun b => if b = j then s.un j - 1 else s.un b) = fun b => if b = j then s.un b - 1 else s.un b := by
           funext b; split
           ·rename_i e; rw [e]
           ·rfl
          simp (config := { maxSteps := 1000000 }) only [fj,fh,fi,pi1,ph1,pj1,hf,hun',hbt,sTakes,sGood,ht,hg,w6,w7,w9,wa,hjj,bool_ite,int_ite,Int.toNat_natCast,hw,↓imp_tt,↓imp_tf,↓imp_ft,↓imp_ff,↓reduceIte,reduceCtorEq,Nat.reduceEqDiff,Nat.reduceAdd,Nat.reduceSub,Nat.reduceLeDiff,Nat.reduceLT,Nat.reducePow,spec3,TInt,IsInt,RInt,Prod.eta,Sn.eta,Sp.c0,Sp.c1,Sp.c2,RSp,Sp.w_c,Sp.d,Sp.eta,Lt.c0,Lt.c1,Lt.c2,Lt.c3,RLt,Lt.w_c,Lt.d,Lt.eta,Wk.L,Wk.Is,Wk.of,TWk,Wk.d,Wk.eta,go_sem]
          simp only [w8]
          refine ⟨by omega,by omega,fun b hb => ?_,fun q => ?_,fun q => ?_⟩
          ·have := hu2 b hb
           unfold useD at this
           by_cases e : b = j
           ·subst e; rw [if_pos rfl] at this ⊢; exact this
           ·rw [if_neg e] at this ⊢; exact this
          ·have hc : canD w i s h j := ⟨hf,hun,ht,hg,q⟩
           have hst := step_at hhl hjl hc (hh2 rfl) (hj2 rfl)
           refine ⟨by omega,by omega,?_⟩
           refine inv_intro (j + 1,true) ⟨hjl,fun e => by cases e⟩ (by simp only; omega) ?_
           simp only [hst,putD,↓reduceIte,reduceCtorEq,Nat.reduceEqDiff,Nat.reduceLT,go_sem]
           refine ⟨wrS (by omega),fun a ha b hb => ?_,fun a ha b hb => ?_,fun a ha b hb => ?_⟩
           ·obtain rfl : b = 0 := by omega
            unfold takD
            by_cases e : a = h
            ·subst e; simp [vget]
            ·simp [e]
           ·obtain rfl : b = 0 := by omega
            unfold useD
            by_cases e : a = j
            ·subst e; simp [vget]
            ·simp [e]
           ·by_cases e : a = s.cnt
            ·subst e
             rw [if_pos rfl,if_neg (Nat.lt_irrefl _),Nat.sub_self]
             match b,hb with
             | 0,_ | 1,_ | 2,_ => exact rfl
            ·rw [if_neg e,if_pos (by omega),vsubP_self]; trivial
          ·refine inv_intro (j + 1,false) (hjn fun hc => q hc.2.2.2.2) (by simp only; omega) ?_
           simp only [↓reduceIte,reduceCtorEq,Nat.reduceEqDiff,Nat.reduceLT,go_sem]
           refine ⟨wrS (by omega),fun a ha b hb => ?_,fun a ha b hb => ?_⟩
           ·obtain rfl : b = 0 := by omega
            by_cases e : a = h
            ·subst e; simp [vget,hf]
            ·simp [e]
           ·obtain rfl : b = 0 := by omega
            by_cases e : a = j
            ·subst e; simp [vget]
            ·simp [e]
     ·have fj : ((j : Int) < (w.lots.1 : Int)) = False := eq_false (by omega)
      obtain rfl : j = w.lots.1 := by omega
      simp only [fj,hw,↓imp_ft,↓imp_ff,↓reduceIte,reduceCtorEq,Nat.reduceEqDiff,Nat.reduceAdd,Nat.reduceSub,Nat.reduceLeDiff,Nat.reducePow,go_sem]
      refine inv_intro (h + 1,false) ⟨hhl,fun _ h' hh' j' hj' => ?_⟩ (by simp only; omega) ?_
      ·by_cases e : h' = h
       ·subst e; exact hj2 rfl j' hj'
       ·exact hh2 rfl h' (by simp only at hh'; omega) j' hj'
      ·simp only [↓reduceIte,reduceCtorEq,Nat.reduceEqDiff,Nat.reduceLT,go_sem]
       exact wrS (by omega)
   ·have fh : ((h : Int) < (w.hours.1 : Int)) = False := eq_false (by omega)
    obtain rfl : h = w.hours.1 := by omega
    have hst := step_no (hh2 rfl)
    simp only [fh,hw,↓imp_ft,↓imp_ff,↓reduceIte,reduceCtorEq,Nat.reduceEqDiff,Nat.reduceAdd,Nat.reduceSub,Nat.reduceLeDiff,Nat.reducePow,go_sem]
    refine inv_intro (i + 1) hil (by omega) ?_
    simp only [hnx,hst,↓reduceIte,reduceCtorEq,Nat.reduceEqDiff,Nat.reduceLT,go_sem]
    exact wrS (by omega)
 have fi : ((i : Int) < (w.spathes.1 : Int)) = False := eq_false (by omega)
 obtain rfl : i = w.spathes.1 := by omega
 simp only [fi,plD,hw,↓imp_ft,↓imp_ff,↓reduceIte,reduceCtorEq,Nat.reduceEqDiff,Nat.reduceAdd,Nat.reduceSub,Nat.reduceLeDiff,Nat.reducePow,go_sem]
end Go.Proofs.Ytlapepdhkomijaa
