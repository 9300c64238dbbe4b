/- The program's net: knot, in any place. No condition but bounds. -/
import Derived.Test.YtlapepdhkomijaaPSlP
import Derived.Test.YtlapepdhkomijaaPSt
set_option linter.unusedSimpArgs false
set_option linter.unusedVariables false
namespace Go.Proofs.Ytlapepdhkomijaa
open Go Go.RowKit
variable {G : Nat → Option (Nat × (Nat → Val))}
set_option maxHeartbeats 4000000 in
set_option maxRecDepth 100000 in
theorem knot_run3 {S : List (FuncId × Spec)} {I : List (FuncId × AFun)} {Q : Val → Bx → Prop} {f : SFrame} {stk : List SFrame} {tl : Bx} (hT : Tl 0 3 tl) (hSk : Sk 3 f stk) (hs1 : lkp S 63 = some sSpN) (hs2 : lkp S 65 = some sInN) (hs3 : lkp S 66 = some sOutN) (hs4 : lkp S 68 = some sLotN) (hs5 : lkp S 59 = some sGoodN)
  (hi1 : lkp I 55 = some a55) (hi2 : lkp I 83 = some a83) (hi3 : lkp I 84 = some a84) (hi4 : lkp S 55 = none) (hi5 : lkp S 83 = none) (hi6 : lkp S 84 = none) (hi7 : lkp I 59 = none)
  (w : Wk) (hb : WkB w) (w1 : w.spathes.1 ≤ 9223372036854775807) (w2 : w.hours.1 ≤ 9223372036854775807) (w3 : w.lots.1 ≤ 9223372036854775807) (first : Nat) (hf : first ≤ w.spathes.1) (tk : Nat → Bool) (us : Nat → Int) (hU : ∀ q,q < w.lots.1 → 0 ≤ us q ∧ us q ≤ (w.lots.2 q).units) (M0 : Nat)
  (hK : ∀ (T : KSt) (M' : Nat),M0 ≤ M' → T.m ≤ 34 * w.spathes.1 + 10 * w.hours.1 + 2 * w.lots.1 → Knt (ntP w first tk us) (pdec w.spathes.1 w.hours.1) (P5 w first tk w.lots.1) T → runO (mkN G S I []) Q M' f.K stk f.res (fput f.fr f.d (.ptr (.n 6) 0)) ([(11,.fam (fun z => decide (z = (w.spathes.1 : Int))) fun _ => .cells (.cons (.int .i64 w.spathes.1) .nil)),(9,.row 150 2 T.m (edgC T)),(10,.fam (fun _ => true) fun z => .row 3 1 (T.ln z) fun i _ => .int .i64 (T.ix z i)),(7,.cells (.cons (.ptr (.n 6) 0) .nil)),(6,.cells (netL w 9 5 .nilm)),(5,.mz .i64 fun z => .own (.f 10 z)),(4,.cells (leftL (first : Int) tk us)),(3,.cells (.cons (.int .i64 w.day) (.cons (.view 3 w.spathes.1 fun a b => (w.spathes.2 a).c b) (.cons (.view 1 w.hours.1 fun a b => .int .i64 (w.hours.2 a)) (.cons (.view 4 w.lots.1 fun a b => (w.lots.2 a).c b) (.cons (.int .i64 w.opn) .nil))))))] ++ tl) 12) :
  runO (mkN G S I []) Q (M0 + 4000) [.code a57.code] (f :: stk) a57.res (params 0 [TWk.enc w,.agg (leftL first tk us)]) tl 3 := by
 simp only [a57,w1,w2,w3,vlen_left,isLB_left,vget_left0,↓reduceIte,reduceCtorEq,Nat.reduceEqDiff,Nat.reduceAdd,Nat.reduceSub,Nat.reduceLeDiff,Nat.reducePow,go_sem]
 have hS := hb.s
 have hH := hb.h
 have hL := hb.l
 refine loop_intro (ι := Nat × KSt) (fun s => first ≤ s.1 ∧ s.1 ≤ w.spathes.1 ∧ s.2.m ≤ 34 * s.1 ∧ Knt (ntP w first tk us) (pdec w.spathes.1 w.hours.1) (P1 w first s.1) s.2) (fun s => w.spathes.1 - s.1) (fun s => [(6,.ptr (.f 11 s.1) 0),(2,.ptr (.n 3) 0),(3,.ptr (.n 4) 0),(5,.ptr (.n 7) 0)])
  (fun s => [(11,.fam (fun z => decide (z = (s.1 : Int))) fun _ => .cells (.cons (.int .i64 s.1) .nil)),(9,.row 150 2 s.2.m (edgC s.2)),(10,.fam (fun _ => true) fun z => .row 3 1 (s.2.ln z) fun i _ => .int .i64 (s.2.ix z i)),(7,.cells (.cons (.ptr (.n 6) 0) .nil)),(6,.cells (netL w 9 5 .nilm)),(5,.mz .i64 fun z => .own (.f 10 z)),(4,.cells (leftL (first : Int) tk us)),(3,.cells (.cons (.int .i64 w.day) (.cons (.view 3 w.spathes.1 fun a b => (w.spathes.2 a).c b) (.cons (.view 1 w.hours.1 fun a b => .int .i64 (w.hours.2 a)) (.cons (.view 4 w.lots.1 fun a b => (w.lots.2 a).c b) (.cons (.int .i64 w.opn) .nil))))))] ++ tl) 3 (first,⟨0,fun _ => 0,fun _ => 0,fun _ => 0,fun _ _ => 0⟩) ⟨Nat.le_refl _,hf,Nat.zero_le _,Knt.start _ _ (P1_0 (Nat.le_refl _))⟩ (.inl ?_) fun s hs => ?_
 ·refine ChkF.renM [(.n 8,.f 11 first)] (fun p hp m hm => ?_) ?_
  ·skip
   obtain rfl := List.mem_singleton.1 hp
   first | exact Nat.le_trans (hSk.nx _ hm) (Nat.le_of_ble_eq_true rfl) | (simp only [stkNx,List.not_mem_nil] at hm; done) | (simp only [stkNx,List.mem_cons,List.not_mem_nil,or_false] at hm; first | (subst hm; exact Nat.le_of_ble_eq_true rfl) | (rcases hm with rfl | rfl <;> exact Nat.le_of_ble_eq_true rfl) | (rcases hm with rfl | rfl | rfl <;> exact Nat.le_of_ble_eq_true rfl) | (rcases hm with rfl | rfl | rfl | rfl <;> exact Nat.le_of_ble_eq_true rfl))
  ·simp only [netL,renV_left,vsub_left,isLB_left,vsub_nilm,false_and,List.cons_append,List.nil_append,Nat.not_lt_zero,hT.nf,hT.ck,hT.il,hT.kp,hT.rn,hT.dn,hT.bf,hT.an,hT.af,hT.xb,hT.xa,hT.xc,kept_app,↓reduceIte,reduceCtorEq,Nat.reduceEqDiff,Nat.reduceAdd,Nat.reduceLeDiff,Nat.reduceLT,go_sem]
   exact ⟨chkFam_cell (by simp only [hT.af,↓reduceIte,Nat.reduceLeDiff,go_sem]),chkFam_new fun z _ => ⟨by simp only [false_and,hT.af,↓reduceIte,Nat.reduceEqDiff,Nat.reduceLeDiff,go_sem],_,_,_,rfl,Nat.one_pos⟩⟩
 obtain ⟨j,T⟩ := s
 obtain ⟨hj1,hj2,hm,hKn⟩ := hs
 simp only at hj1 hj2 hm hKn
 have hln := hKn.le
 have hl0 := hln 0
 have hlj := hln (2 + (j : Int))
 have wm : IntKind.i64.wrap ((T.m : Int) + 1) = ((T.m + 1 : Nat) : Int) := by rw [wrS (by omega)]
 by_cases hjS : j < w.spathes.1
 ·have fj : ((j : Int) < (w.spathes.1 : Int)) = True := eq_true (by omega)
  have z3 : (2 + (j : Int) = 0) = False := eq_false (by omega)
  have z4 : (0 = 2 + (j : Int)) = False := eq_false (by omega)
  simp only [fj,z3,z4,wm,a55,a83,sSpN,a84,↓subBox_ite,subV_ite,↓noIt1_ite,ite_self,TNp,Np.Is,netL,subV_left,false_and,snapV,snapOk,snapL,snapOks,w1,w2,w3,hT.sn,hT.sf,hT.ni,hSk.fn,hSk.ff,hSk.sn,hSk.sf,hs1,hi1,hi2,hi3,hi4,hi6,↓imp_tt,↓imp_tf,↓reduceIte,reduceCtorEq,Nat.reduceEqDiff,Nat.reduceAdd,Nat.reduceSub,Nat.reduceLeDiff,Nat.reduceLT,Nat.reducePow,go_sem]
  refine ⟨by omega,by omega,by omega,by omega,by omega,by omega,by omega,by omega,fun g => ⟨by omega,?_⟩⟩
  refine loopI (ι := Nat × KSt) (fun s => s.1 ≤ w.hours.1 ∧ s.2.m ≤ 34 * j + 2 + 2 * s.1 ∧ Knt (ntP w first tk us) (pdec w.spathes.1 w.hours.1) (P2 w first j s.1) s.2) (fun s => w.hours.1 - s.1) [17,16,4,0,1] (fun s => [(18,.int .i64 s.1)])
   (fun s => [(9,.row 150 2 s.2.m (edgC s.2)),(10,.fam (fun _ => true) fun z => .row 3 1 (s.2.ln z) fun i _ => .int .i64 (s.2.ix z i)),(5,.mz .i64 fun z => .own (.f 10 z))]) (0,linkT T 0 (2 + j) 1) ⟨Nat.zero_le _,?_,?_⟩ ?_ fun s hs => ?_
  ·show T.m + 2 ≤ _; omega
  ·exact hKn.link (pcod (ntP w first tk us)) (x := .src) (y := .sp j) trivial (show j < w.spathes.1 from hjS) (fun e => by cases e) (by simp [P1,edgG]) rfl (by simp only [ntP,Nt.cap]; exact (if_pos ⟨hj1,hjS⟩).symm) (P2_0 hj1)
  ·skip
   simp only [vsub_left,isLB_left,vsub_nilm,false_and,Nat.not_lt_zero,hT.nf,hT.ck,hT.il,hT.kp,hT.xb,hT.xc,↓imp_tt,↓reduceIte,reduceCtorEq,Nat.reduceEqDiff,Nat.reduceLeDiff,Nat.reduceLT,go_sem]
   refine ⟨chkFam_cell (by simp only [↓reduceIte,go_sem]),rfl,edg_link (by omega) (by omega),fam_link (v := 2 + j) (V := 2 + (j : Int)) (u := 0) (U := 0) (by omega) (by omega) (by omega) fun z => ?_,fun k => ?_,?_⟩
   ·simp only [false_and,↓reduceIte,Nat.reduceEqDiff,go_sem]
   ·by_cases e1 : k = 2 + (j : Int)
    ·rw [if_pos e1,e1]; exact .inl rfl
    ·rw [if_neg e1]
     by_cases e2 : k = 0
     ·rw [if_pos e2,e2]; exact .inl rfl
     ·rw [if_neg e2,if_neg e2,if_neg e1]; exact .inl rfl
   ·exact fun z hz => ⟨_,if_pos hz⟩
  ·obtain ⟨h,T⟩ := s
   obtain ⟨hh1,hm,hKn⟩ := hs
   simp only at hh1 hm hKn
   have hln := hKn.le
   have hla := hln (2 + (j : Int))
   have hlb := hln (2 + (w.spathes.1 : Int) + 2 * (h : Int))
   by_cases hhH : h < w.hours.1
   ·have fh : ((h : Int) < (w.hours.1 : Int)) = True := eq_true (by omega)
    have wm : IntKind.i64.wrap ((T.m : Int) + 1) = ((T.m + 1 : Nat) : Int) := by rw [wrS (by omega)]
    have y1 : (2 + (w.spathes.1 : Int) + 2 * (h : Int) = 2 + (j : Int)) = False := eq_false (by omega)
    have y2 : (2 + (j : Int) = 2 + (w.spathes.1 : Int) + 2 * (h : Int)) = False := eq_false (by omega)
    have wo : IntKind.i64.wrap ((w.spathes.2 j).cracks.lo + w.opn) = (w.spathes.2 j).cracks.lo + w.opn := wr64 (by have := hb.c j (by omega); have := hb.o; omega) (by have := hb.c j (by omega); have := hb.o; omega)
    by_cases t1 : (w.spathes.2 j).cracks.hi ≤ w.hours.2 h
    ·have g1 : ((w.spathes.2 j).cracks.hi ≤ w.hours.2 h) = True := eq_true t1
     by_cases t2 : w.hours.2 h < (w.spathes.2 j).cracks.lo + w.opn
     ·have g2 : (w.hours.2 h < (w.spathes.2 j).cracks.lo + w.opn) = True := eq_true t2
      have ht : takesF w j h = true := decide_eq_true ⟨t1,t2⟩
      simp only [fh,g1,g2,wo,wm,y1,y2,sSpN,sInN,a84,↓subBox_ite,subV_ite,↓noIt1_ite,ite_self,TNp,Np.Is,Np.of,subV_left,false_and,snapV,snapOk,snapL,snapOks,hT.sn,hT.sf,hT.ni,hSk.fn,hSk.ff,hSk.sn,hSk.sf,hs1,hs2,hi3,hi6,↓imp_tt,↓imp_tf,↓imp_ft,↓imp_ff,↓reduceIte,reduceCtorEq,Nat.reduceEqDiff,Nat.reduceAdd,Nat.reduceSub,Nat.reduceLeDiff,Nat.reduceLT,Nat.reducePow,go_sem]
      refine ⟨by omega,by omega,by omega,by omega,by omega,by omega,by omega,by omega,by omega,by omega,by omega,by omega,?_⟩
      refine inv_intro (h + 1,linkT T (2 + j) (2 + w.spathes.1 + 2 * h) 1) ⟨hhH,?_,?_⟩ (by simp only; omega) ?_
      ·show T.m + 2 ≤ _; omega
      ·exact hKn.link (pcod (ntP w first tk us)) (x := .sp j) (y := .hi h) (show j < w.spathes.1 from hjS) (show h < w.hours.1 from hhH) (fun e => by cases e) (by simp [P2,edgG]) rfl (by simp only [ntP,Nt.cap]; exact (if_pos ⟨hj1,hjS,hhH,ht⟩).symm) (P2_t ht)
      ·skip
       simp only [vsub_left,isLB_left,vsub_nilm,false_and,Nat.not_lt_zero,hT.nn,hT.nf,hT.ck,hT.il,hT.kp,hT.xb,hT.xc,↓imp_tt,↓reduceIte,reduceCtorEq,Nat.reduceEqDiff,Nat.reduceLeDiff,Nat.reduceLT,go_sem]
       refine ⟨wrS (by omega),chkFam_cell (by simp only [↓reduceIte,go_sem]),rfl,edg_link (by omega) (by omega),fam_link (v := 2 + w.spathes.1 + 2 * h) (V := 2 + (w.spathes.1 : Int) + 2 * (h : Int)) (u := 2 + j) (U := 2 + (j : Int)) (by omega) (by omega) (by omega) fun z => ?_,fun k => ?_,?_⟩
       ·simp only [false_and,↓reduceIte,Nat.reduceEqDiff,go_sem]
       ·by_cases e1 : k = 2 + (w.spathes.1 : Int) + 2 * (h : Int)
        ·rw [if_pos e1,e1]; exact .inl rfl
        ·rw [if_neg e1]
         by_cases e2 : k = 2 + (j : Int)
         ·rw [if_pos e2,e2]; exact .inl rfl
         ·rw [if_neg e2,if_neg e2,if_neg e1]; exact .inl rfl
       ·exact fun z hz => ⟨_,if_pos hz⟩
     ·have g2 : (w.hours.2 h < (w.spathes.2 j).cracks.lo + w.opn) = False := eq_false t2
      have ht : takesF w j h = false := decide_eq_false fun e => t2 e.2
      simp only [fh,g1,g2,wo,↓imp_tt,↓imp_tf,↓imp_ft,↓imp_ff,↓reduceIte,reduceCtorEq,Nat.reduceEqDiff,Nat.reduceAdd,Nat.reduceLeDiff,go_sem]
      refine ⟨by omega,?_⟩
      refine inv_intro (h + 1,T) ⟨hhH,by simp only; omega,hKn.same (P2_f ht)⟩ (by simp only; omega) ?_
      simp only [vsub_left,isLB_left,vsub_nilm,false_and,Nat.not_lt_zero,hT.nf,hT.ck,hT.il,hT.kp,hT.xb,hT.xc,↓imp_tt,↓reduceIte,reduceCtorEq,Nat.reduceEqDiff,Nat.reduceLeDiff,Nat.reduceLT,go_sem]
      exact ⟨wrS (by omega),chkFam_cell (by simp only [↓reduceIte,go_sem]),chkFam_self fun z _ => by simp only [false_and,↓reduceIte,Nat.reduceEqDiff,go_sem],fun z hz => ⟨_,if_pos hz⟩⟩
    ·have g1 : ((w.spathes.2 j).cracks.hi ≤ w.hours.2 h) = False := eq_false t1
     have ht : takesF w j h = false := decide_eq_false fun e => t1 e.1
     simp only [fh,g1,↓imp_tt,↓imp_tf,↓imp_ft,↓imp_ff,↓reduceIte,reduceCtorEq,Nat.reduceEqDiff,Nat.reduceAdd,go_sem]
     refine ⟨by omega,?_⟩
     refine inv_intro (h + 1,T) ⟨hhH,by simp only; omega,hKn.same (P2_f ht)⟩ (by simp only; omega) ?_
     simp only [vsub_left,isLB_left,vsub_nilm,false_and,Nat.not_lt_zero,hT.nf,hT.ck,hT.il,hT.kp,hT.xb,hT.xc,↓imp_tt,↓reduceIte,reduceCtorEq,Nat.reduceEqDiff,Nat.reduceLeDiff,Nat.reduceLT,go_sem]
     exact ⟨wrS (by omega),chkFam_cell (by simp only [↓reduceIte,go_sem]),chkFam_self fun z _ => by simp only [false_and,↓reduceIte,Nat.reduceEqDiff,go_sem],fun z hz => ⟨_,if_pos hz⟩⟩
   ·have fh : ((h : Int) < (w.hours.1 : Int)) = False := eq_false (by omega)
    obtain rfl : h = w.hours.1 := by omega
    simp only [fh,subV_left,hT.sn,hT.dn,hSk.fn,hSk.sn,↓imp_ft,↓imp_ff,↓reduceIte,reduceCtorEq,Nat.reduceEqDiff,Nat.reduceAdd,Nat.reduceLeDiff,go_sem]
    refine inv_renM [(.n 19,.f 11 (j + 1 : Nat))] (j + 1,T) (fun p hp m hm => ?_) ⟨by omega,by omega,by simp only; omega,hKn.same (P1_s hj1)⟩ (by simp only; omega) ?_
    ·skip
     obtain rfl := List.mem_singleton.1 hp
     first | exact Nat.le_trans (hSk.nx _ hm) (Nat.le_of_ble_eq_true rfl) | (simp only [stkNx,List.not_mem_nil] at hm; done) | (simp only [stkNx,List.mem_cons,List.not_mem_nil,or_false] at hm; first | (subst hm; exact Nat.le_of_ble_eq_true rfl) | (rcases hm with rfl | rfl <;> exact Nat.le_of_ble_eq_true rfl) | (rcases hm with rfl | rfl | rfl <;> exact Nat.le_of_ble_eq_true rfl) | (rcases hm with rfl | rfl | rfl | rfl <;> exact Nat.le_of_ble_eq_true rfl))
    ·have hjj : (((j + 1 : Nat) : Int) = (j : Int)) = False := eq_false (by omega)
     have hjk : ((j : Int) = ((j + 1 : Nat) : Int)) = False := eq_false (by omega)
     have wj : IntKind.i64.wrap ((j : Int) + 1) = ((j + 1 : Nat) : Int) := by rw [wrS (by omega)]
     simp only [wj,hjj,renV_left,vsub_left,isLB_left,vsub_nilm,false_and,Nat.not_lt_zero,hT.nn,hT.nf,hT.ck,hT.il,hT.kp,hT.rn,hT.dn,hT.xb,hT.xc,↓imp_tt,↓reduceIte,reduceCtorEq,Nat.reduceEqDiff,Nat.reduceLeDiff,Nat.reduceLT,go_sem]
     exact ⟨chkFam_cell (by simp only [↓reduceIte,go_sem]),chkFam_self fun z _ => by simp only [false_and,↓reduceIte,Nat.reduceEqDiff,go_sem]⟩
 ·have fj : ((j : Int) < (w.spathes.1 : Int)) = False := eq_false (by omega)
  obtain rfl : j = w.spathes.1 := by omega
  simp only [fj,netL,w1,w2,↓imp_ft,↓imp_ff,↓reduceIte,Nat.reduceEqDiff,Nat.reduceAdd,Nat.reduceSub,Nat.reduceLeDiff,Nat.reducePow,go_sem]
  refine loopI (ι := Nat × KSt) (fun s => s.1 ≤ w.hours.1 ∧ s.2.m ≤ 34 * w.spathes.1 + 10 * s.1 ∧ Knt (ntP w first tk us) (pdec w.spathes.1 w.hours.1) (P3 w first tk s.1) s.2) (fun s => w.hours.1 - s.1) [2,3,5,47] (fun s => [(48,.int .i64 s.1)])
   (fun s => [(9,.row 150 2 s.2.m (edgC s.2)),(10,.fam (fun _ => true) fun z => .row 3 1 (s.2.ln z) fun i _ => .int .i64 (s.2.ix z i)),(5,.mz .i64 fun z => .own (.f 10 z))]) (0,T) ⟨Nat.zero_le _,by simp only; omega,hKn.same P3_0⟩ ?_ fun s hs => ?_
  ·skip
   simp only [vsub_left,isLB_left,vsub_nilm,false_and,Nat.not_lt_zero,hT.nf,hT.ck,hT.il,hT.kp,hT.xb,hT.xc,↓imp_tt,↓reduceIte,reduceCtorEq,Nat.reduceEqDiff,Nat.reduceLeDiff,Nat.reduceLT,go_sem]
   exact ⟨chkFam_cell (by simp only [↓reduceIte,go_sem]),chkFam_self fun z _ => by simp only [false_and,↓reduceIte,Nat.reduceEqDiff,go_sem],fun z hz => ⟨_,if_pos hz⟩⟩
  obtain ⟨h,T⟩ := s
  obtain ⟨hh1,hm,hKn⟩ := hs
  simp only at hh1 hm hKn
  have wm : IntKind.i64.wrap ((T.m : Int) + 1) = ((T.m + 1 : Nat) : Int) := by rw [wrS (by omega)]
  by_cases hhH : h < w.hours.1
  ·have fh : ((h : Int) < (w.hours.1 : Int)) = True := eq_true (by omega)
   have htk : vget (leftL (first : Int) tk us) (1 + h) = .bool (tk h) := vget_leftT (by have := hb.h; omega)
   have htk2 : vget (leftL (first : Int) tk us) (h + 1) = .bool (tk h) := by rw [Nat.add_comm]; exact htk
   cases hk : tk h with
   | true =>
    rw [hk] at htk htk2
    simp only [fh,htk,vlen_left,↓imp_tt,↓imp_tf,↓reduceIte,Nat.reduceEqDiff,Nat.reduceLeDiff,go_sem]
    refine ⟨by omega,by have := hb.h; omega,by have := hb.h; omega,?_⟩
    refine inv_intro (h + 1,T) ⟨hhH,by simp only; omega,hKn.same (P3_f hk)⟩ (by simp only; omega) ?_
    simp only [vsub_left,isLB_left,vsub_nilm,false_and,Nat.not_lt_zero,hT.nf,hT.ck,hT.il,hT.kp,hT.xb,hT.xc,↓imp_tt,↓reduceIte,reduceCtorEq,Nat.reduceEqDiff,Nat.reduceLeDiff,Nat.reduceLT,go_sem]
    exact ⟨wrS (by omega),chkFam_cell (by simp only [↓reduceIte,go_sem]),chkFam_self fun z _ => by simp only [false_and,↓reduceIte,Nat.reduceEqDiff,go_sem],fun z hz => ⟨_,if_pos hz⟩⟩
   | false =>
    rw [hk] at htk htk2
    have hln := hKn.le
    have hla := hln (2 + (w.spathes.1 : Int) + 2 * (h : Int))
    have hlb := hln (2 + (w.spathes.1 : Int) + 2 * (h : Int) + 1)
    have y1 : (2 + (w.spathes.1 : Int) + 2 * (h : Int) + 1 = 2 + (w.spathes.1 : Int) + 2 * (h : Int)) = False := eq_false (by omega)
    have y2 : (2 + (w.spathes.1 : Int) + 2 * (h : Int) = 2 + (w.spathes.1 : Int) + 2 * (h : Int) + 1) = False := eq_false (by omega)
    simp only [fh,htk,wm,y1,y2,sInN,sOutN,a84,↓subBox_ite,subV_ite,↓noIt1_ite,ite_self,TNp,Np.Is,Np.of,vlen_left,subV_left,false_and,snapV,snapOk,snapL,snapOks,w3,hT.sn,hT.sf,hT.ni,hSk.fn,hSk.ff,hSk.sn,hSk.sf,hs2,hs3,hi3,hi6,↓imp_tt,↓imp_tf,↓imp_ft,↓imp_ff,↓reduceIte,reduceCtorEq,Nat.reduceEqDiff,Nat.reduceAdd,Nat.reduceSub,Nat.reduceLeDiff,Nat.reduceLT,Nat.reducePow,go_sem]
    have hb1 := hb.h
    have hb2 := hb.s
    have hb3 := hb.l
    refine ⟨by omega,by omega,by omega,by omega,by omega,by omega,by omega,by omega,by omega,by omega,by omega,by omega,by omega,by omega,by omega,?_⟩
    refine loopI (ι := Nat × KSt) (fun s => s.1 ≤ w.lots.1 ∧ s.2.m ≤ 34 * w.spathes.1 + 10 * h + 2 + 2 * s.1 ∧ Knt (ntP w first tk us) (pdec w.spathes.1 w.hours.1) (P4 w first tk h s.1) s.2) (fun s => w.lots.1 - s.1) [2,3,5,8,47,48,66] (fun s => [(67,.int .i64 s.1)])
     (fun s => [(9,.row 150 2 s.2.m (edgC s.2)),(10,.fam (fun _ => true) fun z => .row 3 1 (s.2.ln z) fun i _ => .int .i64 (s.2.ix z i)),(5,.mz .i64 fun z => .own (.f 10 z))]) (0,linkT T (2 + w.spathes.1 + 2 * h) (2 + w.spathes.1 + 2 * h + 1) 1) ⟨Nat.zero_le _,?_,?_⟩ ?_ fun s hs => ?_
    ·show T.m + 2 ≤ _; omega
    ·exact hKn.link (pcod (ntP w first tk us)) (x := .hi h) (y := .ho h) (show h < w.hours.1 from hhH) (show h < w.hours.1 from hhH) (fun e => by cases e) (by simp [P3,edgG]) rfl (by simp [ntP,Nt.cap,hhH,hk]) (P4_0 hk)
    ·skip
     simp only [vsub_left,isLB_left,vsub_nilm,false_and,Nat.not_lt_zero,hT.nf,hT.ck,hT.il,hT.kp,hT.xb,hT.xc,↓imp_tt,↓reduceIte,reduceCtorEq,Nat.reduceEqDiff,Nat.reduceLeDiff,Nat.reduceLT,go_sem]
     refine ⟨chkFam_cell (by simp only [↓reduceIte,go_sem]),rfl,edg_link (by omega) (by omega),fam_link (v := 2 + w.spathes.1 + 2 * h + 1) (V := 2 + (w.spathes.1 : Int) + 2 * (h : Int) + 1) (u := 2 + w.spathes.1 + 2 * h) (U := 2 + (w.spathes.1 : Int) + 2 * (h : Int)) (by omega) (by omega) (by omega) fun z => ?_,fun k => ?_,?_⟩
     ·simp only [false_and,↓reduceIte,Nat.reduceEqDiff,go_sem]
     ·by_cases e1 : k = 2 + (w.spathes.1 : Int) + 2 * (h : Int) + 1
      ·rw [if_pos e1,e1]; exact .inl rfl
      ·rw [if_neg e1]
       by_cases e2 : k = 2 + (w.spathes.1 : Int) + 2 * (h : Int)
       ·rw [if_pos e2,e2]; exact .inl rfl
       ·rw [if_neg e2,if_neg e2,if_neg e1]; exact .inl rfl
     ·exact fun z hz => ⟨_,if_pos hz⟩
    ·obtain ⟨q,T⟩ := s
     obtain ⟨hq1,hm,hKn⟩ := hs
     simp only at hq1 hm hKn
     have hln := hKn.le
     have hla := hln (2 + (w.spathes.1 : Int) + 2 * (h : Int) + 1)
     have hlb := hln (2 + (w.spathes.1 : Int) + 2 * (w.hours.1 : Int) + (q : Int))
     have wm : IntKind.i64.wrap ((T.m : Int) + 1) = ((T.m + 1 : Nat) : Int) := by rw [wrS (by omega)]
     by_cases hqL : q < w.lots.1
     ·have fq : ((q : Int) < (w.lots.1 : Int)) = True := eq_true (by omega)
      have y1 : (2 + (w.spathes.1 : Int) + 2 * (w.hours.1 : Int) + (q : Int) = 2 + (w.spathes.1 : Int) + 2 * (h : Int) + 1) = False := eq_false (by omega)
      have y2 : (2 + (w.spathes.1 : Int) + 2 * (h : Int) + 1 = 2 + (w.spathes.1 : Int) + 2 * (w.hours.1 : Int) + (q : Int)) = False := eq_false (by omega)
      cases hg : goodF w h q with
      | true =>
       simp only [fq,hg,wm,y1,y2,sOutN,sLotN,sGoodN,Int.toNat_natCast,a84,↓subBox_ite,subV_ite,↓noIt1_ite,ite_self,TNp,Np.Is,Np.of,subV_left,false_and,snapV,snapOk,snapL,snapOks,w1,w2,w3,hT.sn,hT.sf,hT.ni,hSk.fn,hSk.ff,hSk.sn,hSk.sf,hs3,hs4,hs5,hi3,hi6,hi7,↓imp_tt,↓imp_tf,↓reduceIte,reduceCtorEq,Nat.reduceEqDiff,Nat.reduceAdd,Nat.reduceSub,Nat.reduceLeDiff,Nat.reduceLT,Nat.reducePow,go_sem]
       refine ⟨by omega,by omega,by omega,by omega,by omega,by omega,by omega,by omega,by omega,by omega,by omega,by omega,by omega,by omega,by omega,by omega,?_⟩
       refine inv_intro (q + 1,linkT T (2 + w.spathes.1 + 2 * h + 1) (2 + w.spathes.1 + 2 * w.hours.1 + q) 1) ⟨hqL,?_,?_⟩ (by simp only; omega) ?_
       ·show T.m + 2 ≤ _; omega
       ·exact hKn.link (pcod (ntP w first tk us)) (x := .ho h) (y := .lt q) (show h < w.hours.1 from hhH) (show q < w.lots.1 from hqL) (fun e => by cases e) (by simp [P4,edgG]) rfl (by simp [ntP,Nt.cap,hhH,hqL,hk,hg]) (P4_t hg)
       ·skip
        simp only [vsub_left,isLB_left,vsub_nilm,false_and,Nat.not_lt_zero,hT.nn,hT.nf,hT.ck,hT.il,hT.kp,hT.xb,hT.xc,↓imp_tt,↓reduceIte,reduceCtorEq,Nat.reduceEqDiff,Nat.reduceLeDiff,Nat.reduceLT,go_sem]
        refine ⟨wrS (by omega),chkFam_cell (by simp only [↓reduceIte,go_sem]),rfl,edg_link (by omega) (by omega),fam_link (v := 2 + w.spathes.1 + 2 * w.hours.1 + q) (V := 2 + (w.spathes.1 : Int) + 2 * (w.hours.1 : Int) + (q : Int)) (u := 2 + w.spathes.1 + 2 * h + 1) (U := 2 + (w.spathes.1 : Int) + 2 * (h : Int) + 1) (by omega) (by omega) (by omega) fun z => ?_,fun k => ?_,?_⟩
        ·simp only [false_and,↓reduceIte,Nat.reduceEqDiff,go_sem]
        ·by_cases e1 : k = 2 + (w.spathes.1 : Int) + 2 * (w.hours.1 : Int) + (q : Int)
         ·rw [if_pos e1,e1]; exact .inl rfl
         ·rw [if_neg e1]
          by_cases e2 : k = 2 + (w.spathes.1 : Int) + 2 * (h : Int) + 1
          ·rw [if_pos e2,e2]; exact .inl rfl
          ·rw [if_neg e2,if_neg e2,if_neg e1]; exact .inl rfl
        ·exact fun z hz => ⟨_,if_pos hz⟩
      | false =>
       simp only [fq,hg,sGoodN,Int.toNat_natCast,w1,w2,w3,hs5,hi7,↓imp_tt,↓imp_tf,↓imp_ft,↓imp_ff,↓reduceIte,reduceCtorEq,Nat.reduceEqDiff,Nat.reduceAdd,Nat.reduceSub,Nat.reducePow,go_sem]
       refine ⟨by omega,by omega,by omega,?_⟩
       refine inv_intro (q + 1,T) ⟨hqL,by simp only; omega,hKn.same (P4_f hg)⟩ (by simp only; omega) ?_
       simp only [vsub_left,isLB_left,vsub_nilm,false_and,Nat.not_lt_zero,hT.nf,hT.ck,hT.il,hT.kp,hT.xb,hT.xc,↓imp_tt,↓reduceIte,reduceCtorEq,Nat.reduceEqDiff,Nat.reduceLeDiff,Nat.reduceLT,go_sem]
       exact ⟨wrS (by omega),chkFam_cell (by simp only [↓reduceIte,go_sem]),chkFam_self fun z _ => by simp only [false_and,↓reduceIte,Nat.reduceEqDiff,go_sem],fun z hz => ⟨_,if_pos hz⟩⟩
     ·have fq : ((q : Int) < (w.lots.1 : Int)) = False := eq_false (by omega)
      obtain rfl : q = w.lots.1 := by omega
      simp only [fq,↓imp_ft,↓imp_ff,↓reduceIte,Nat.reduceEqDiff,go_sem]
      refine inv_intro (h + 1,T) ⟨hhH,by simp only; omega,hKn.same (P3_s hk)⟩ (by simp only; omega) ?_
      simp only [vsub_left,isLB_left,vsub_nilm,false_and,Nat.not_lt_zero,hT.nn,hT.nf,hT.ck,hT.il,hT.kp,hT.xb,hT.xc,↓imp_tt,↓reduceIte,reduceCtorEq,Nat.reduceEqDiff,Nat.reduceLeDiff,Nat.reduceLT,go_sem]
      exact ⟨wrS (by omega),chkFam_cell (by simp only [↓reduceIte,go_sem]),chkFam_self fun z _ => by simp only [false_and,↓reduceIte,Nat.reduceEqDiff,go_sem],fun z hz => ⟨_,if_pos hz⟩⟩
  ·have fh : ((h : Int) < (w.hours.1 : Int)) = False := eq_false (by omega)
   obtain rfl : h = w.hours.1 := by omega
   simp only [fh,w3,↓imp_ft,↓imp_ff,↓reduceIte,Nat.reduceEqDiff,Nat.reduceAdd,Nat.reduceSub,Nat.reduceLeDiff,Nat.reducePow,go_sem]
   refine loopI (ι := Nat × KSt) (fun s => s.1 ≤ w.lots.1 ∧ s.2.m ≤ 34 * w.spathes.1 + 10 * w.hours.1 + 2 * s.1 ∧ Knt (ntP w first tk us) (pdec w.spathes.1 w.hours.1) (P5 w first tk s.1) s.2) (fun s => w.lots.1 - s.1) [2,3,5,86,87] (fun s => [(88,.int .i64 s.1)])
    (fun s => [(9,.row 150 2 s.2.m (edgC s.2)),(10,.fam (fun _ => true) fun z => .row 3 1 (s.2.ln z) fun i _ => .int .i64 (s.2.ix z i)),(5,.mz .i64 fun z => .own (.f 10 z))]) (0,T) ⟨Nat.zero_le _,by simp only; omega,hKn.same P5_0⟩ ?_ fun s hs => ?_
   ·skip
    simp only [vsub_left,isLB_left,vsub_nilm,false_and,Nat.not_lt_zero,hT.nf,hT.ck,hT.il,hT.kp,hT.xb,hT.xc,↓imp_tt,↓reduceIte,reduceCtorEq,Nat.reduceEqDiff,Nat.reduceLeDiff,Nat.reduceLT,go_sem]
    exact ⟨chkFam_cell (by simp only [↓reduceIte,go_sem]),chkFam_self fun z _ => by simp only [false_and,↓reduceIte,Nat.reduceEqDiff,go_sem],fun z hz => ⟨_,if_pos hz⟩⟩
   obtain ⟨q,T⟩ := s
   obtain ⟨hq1,hm,hKn⟩ := hs
   simp only at hq1 hm hKn
   have hln := hKn.le
   have hla := hln 1
   have hlb := hln (2 + (w.spathes.1 : Int) + 2 * (w.hours.1 : Int) + (q : Int))
   have wm : IntKind.i64.wrap ((T.m : Int) + 1) = ((T.m + 1 : Nat) : Int) := by rw [wrS (by omega)]
   by_cases hqL : q < w.lots.1
   ·have fq : ((q : Int) < (w.lots.1 : Int)) = True := eq_true (by omega)
    have y1 : (2 + (w.spathes.1 : Int) + 2 * (w.hours.1 : Int) + (q : Int) = 1) = False := eq_false (by omega)
    have y2 : (1 = 2 + (w.spathes.1 : Int) + 2 * (w.hours.1 : Int) + (q : Int)) = False := eq_false (by omega)
    have hus : vget (leftL (first : Int) tk us) (17 + q) = .int .i64 (us q) := vget_leftU (by have := hb.l; omega)
    have hus2 : vget (leftL (first : Int) tk us) (q + 17) = .int .i64 (us q) := by rw [Nat.add_comm]; exact hus
    have wu : IntKind.i64.wrap ((w.lots.2 q).units - us q) = (w.lots.2 q).units - us q := wr64 (by have := hb.u q hqL; have := hU q hqL; omega) (by have := hb.u q hqL; have := hU q hqL; omega)
    simp only [fq,hus,wu,wm,y1,y2,sLotN,a84,↓subBox_ite,subV_ite,↓noIt1_ite,ite_self,TNp,Np.Is,Np.of,vlen_left,subV_left,false_and,snapV,snapOk,snapL,snapOks,hT.sn,hT.sf,hT.ni,hSk.fn,hSk.ff,hSk.sn,hSk.sf,hs4,hi3,hi6,↓imp_tt,↓imp_tf,↓reduceIte,reduceCtorEq,Nat.reduceEqDiff,Nat.reduceAdd,Nat.reduceSub,Nat.reduceLeDiff,Nat.reduceLT,Nat.reducePow,go_sem]
    have hb1 := hb.h
    have hb2 := hb.s
    have hb3 := hb.l
    refine ⟨by omega,by omega,by omega,by omega,by omega,by omega,by omega,by omega,by omega,by omega,by omega,by omega,by omega,by omega,?_⟩
    refine inv_intro (q + 1,linkT T (2 + w.spathes.1 + 2 * w.hours.1 + q) 1 ((w.lots.2 q).units - us q)) ⟨hqL,?_,?_⟩ (by simp only; omega) ?_
    ·show T.m + 2 ≤ _; omega
    ·exact hKn.link (pcod (ntP w first tk us)) (x := .lt q) (y := .snk) (show q < w.lots.1 from hqL) trivial (fun e => by cases e) (by simp [P5,edgG]) rfl (by simp [ntP,Nt.cap,hqL]) P5_s
    ·skip
     simp only [vsub_left,isLB_left,vsub_nilm,false_and,Nat.not_lt_zero,hT.nn,hT.nf,hT.ck,hT.il,hT.kp,hT.xb,hT.xc,↓imp_tt,↓reduceIte,reduceCtorEq,Nat.reduceEqDiff,Nat.reduceLeDiff,Nat.reduceLT,go_sem]
     refine ⟨wrS (by omega),chkFam_cell (by simp only [↓reduceIte,go_sem]),rfl,edg_link (by omega) (by omega),fam_link (v := 1) (V := 1) (u := 2 + w.spathes.1 + 2 * w.hours.1 + q) (U := 2 + (w.spathes.1 : Int) + 2 * (w.hours.1 : Int) + (q : Int)) (by omega) (by omega) (by omega) fun z => ?_,fun k => ?_,?_⟩
     ·simp only [false_and,↓reduceIte,Nat.reduceEqDiff,go_sem]
     ·by_cases e1 : k = 1
      ·rw [if_pos e1,e1]; exact .inl rfl
      ·rw [if_neg e1]
       by_cases e2 : k = 2 + (w.spathes.1 : Int) + 2 * (w.hours.1 : Int) + (q : Int)
       ·rw [if_pos e2,e2]; exact .inl rfl
       ·rw [if_neg e2,if_neg e2,if_neg e1]; exact .inl rfl
     ·exact fun z hz => ⟨_,if_pos hz⟩
   ·have fq : ((q : Int) < (w.lots.1 : Int)) = False := eq_false (by omega)
    obtain rfl : q = w.lots.1 := by omega
    simp only [fq,↓imp_ft,↓imp_ff,↓reduceIte,Nat.reduceEqDiff,go_sem]
    exact hK T _ (by omega) (by omega) hKn
end Go.Proofs.Ytlapepdhkomijaa
namespace Go.Proofs.Ytlapepdhkomijaa
open Go Go.RowKit
variable {G : Nat → Option (Nat × (Nat → Val))}
set_option maxHeartbeats 4000000 in
set_option maxRecDepth 100000 in
theorem most_run3 {S : List (FuncId × Spec)} {I : List (FuncId × AFun)} {Q : Val → Bx → Prop} {f : SFrame} {stk : List SFrame} {tl : Bx} (hT : Tl 0 3 tl) (hi1 : lkp I 85 = some a85) (hi2 : lkp S 85 = none)
  (w : Wk) (hb : WkB w) (w1 : w.spathes.1 ≤ 9223372036854775807) (w2 : w.hours.1 ≤ 9223372036854775807) (w3 : w.lots.1 ≤ 9223372036854775807) (first : Nat) (hf : first ≤ w.spathes.1) (tk : Nat → Bool) (us : Nat → Int) (hU : ∀ q,q < w.lots.1 → 0 ≤ us q ∧ us q ≤ (w.lots.2 q).units) (M0 : Nat) (T : KSt) (hm : T.m ≤ 34 * w.spathes.1 + 10 * w.hours.1 + 2 * w.lots.1) (hKn : Knt (ntP w first tk us) (pdec w.spathes.1 w.hours.1) (P5 w first tk w.lots.1) T)
  (hK : ∀ (v : Int) (bx' : Bx) (M' : Nat) (sn' : Nat → Bool) (lf' : Nat → Int),M0 ≤ M' → IsMost (ntP w first tk us) v → 0 ≤ v → v ≤ w.spathes.1 → (∀ b,b.id < 3 → bget bx' b = bget tl b) → PNet (2 + w.spathes.1 + 2 * w.hours.1 + w.lots.1) T.m 6 9 5 10 12 (.int .i64 w.day) (.view 3 w.spathes.1 fun a b => (w.spathes.2 a).c b) (.view 1 w.hours.1 fun a b => .int .i64 (w.hours.2 a)) (.view 4 w.lots.1 fun a b => (w.lots.2 a).c b) (.int .i64 w.opn) T.tw lf' (fun u => T.ln u) (fun u => T.ix u) sn' bx' → (∀ b,b ≠ .n 6 → b ≠ .n 9 → b ≠ .n 12 → bget bx' b = bget ([(11,.fam (fun z => decide (z = (w.spathes.1 : Int))) fun _ => .cells (.cons (.int .i64 w.spathes.1) .nil)),(9,.row 150 2 T.m (edgC T)),(10,.fam (fun _ => true) fun z => .row 3 1 (T.ln z) fun i _ => .int .i64 (T.ix z i)),(7,.cells (.cons (.ptr (.n 6) 0) .nil)),(6,.cells (netL w 9 5 .nilm)),(5,.mz .i64 fun z => .own (.f 10 z)),(4,.cells (leftL (first : Int) tk us)),(3,.cells (.cons (.int .i64 w.day) (.cons (.view 3 w.spathes.1 fun a b => (w.spathes.2 a).c b) (.cons (.view 1 w.hours.1 fun a b => .int .i64 (w.hours.2 a)) (.cons (.view 4 w.lots.1 fun a b => (w.lots.2 a).c b) (.cons (.int .i64 w.opn) .nil))))))] ++ tl) b) → runO (mkN G S I []) Q M' f.K stk f.res (fput f.fr f.d (.int .i64 v)) bx' 13) :
  runO (mkN G S I []) Q (M0 + 17000) [.code a58.code] (f :: stk) a58.res (params 0 [.ptr (.n 6) 0]) ([(11,.fam (fun z => decide (z = (w.spathes.1 : Int))) fun _ => .cells (.cons (.int .i64 w.spathes.1) .nil)),(9,.row 150 2 T.m (edgC T)),(10,.fam (fun _ => true) fun z => .row 3 1 (T.ln z) fun i _ => .int .i64 (T.ix z i)),(7,.cells (.cons (.ptr (.n 6) 0) .nil)),(6,.cells (netL w 9 5 .nilm)),(5,.mz .i64 fun z => .own (.f 10 z)),(4,.cells (leftL (first : Int) tk us)),(3,.cells (.cons (.int .i64 w.day) (.cons (.view 3 w.spathes.1 fun a b => (w.spathes.2 a).c b) (.cons (.view 1 w.hours.1 fun a b => .int .i64 (w.hours.2 a)) (.cons (.view 4 w.lots.1 fun a b => (w.lots.2 a).c b) (.cons (.int .i64 w.opn) .nil))))))] ++ tl) 12 := by
 simp only [a58,netL,go_sem]
 have hC := pcod (ntP w first tk us)
 have hTm : T.m < 1000 := by have := hb.h; have := hb.s; have := hb.l; omega
 have hA := hKn.adj hC (by omega)
 have hRes := hKn.res hC P5_cap
 obtain ⟨n,hn⟩ : ∃ n : Nat,n = 2 + w.spathes.1 + 2 * w.hours.1 + w.lots.1 := ⟨_,rfl⟩
 have hNn : Nt.n (ntP w first tk us) = n := by rw [hn]; rfl
 have hn50 : n ≤ 50 := by have := hb.h; have := hb.s; have := hb.l; omega
 have hun : ∀ j,0 ≤ ((ntP w first tk us)).un j ∧ ((ntP w first tk us)).un j ≤ 100 := fun j => by
  show 0 ≤ (if j < w.lots.1 then (w.lots.2 j).units - us j else 0) ∧ (if j < w.lots.1 then (w.lots.2 j).units - us j else 0) ≤ 100
  split
  ·rename_i hj
   have := hb.u j hj; have := hU j hj; omega
  ·omega
 have hc0 : ∀ x y,0 ≤ ((ntP w first tk us)).cap x y ∧ ((ntP w first tk us)).cap x y ≤ 100 := fun x y => by
  rcases x with _ | _ | a | a | a | a <;> rcases y with _ | _ | b | b | b | b <;> simp only [Nt.cap] <;> first | omega | (split <;> omega) | (split; exact hun _; omega)
 have hgf : ∀ h,((ntP w first tk us)).fr h = true → ((ntP w first tk us)).gf h = true := fun h e => e
 rw [hNn] at hA hRes
 refine loopI (ι := Int × (Nat → Nat → Int) × (Nat → Int)) (fun s => 0 ≤ s.1 ∧ FlowOk (ntP w first tk us) (pdec w.spathes.1 w.hours.1) s.2.1 s.1 ∧ Res n T.m T.tw s.2.2 s.2.1) (fun s => 9 - s.1.toNat) [0] (fun s => [(3,.int .i64 s.1)])
  (fun s => [(6,.cells (netL w 9 5 .und)),(9,.row 150 2 T.m (edgC ⟨T.m,T.tw,s.2.2,T.ln,T.ix⟩))]) (0,(fun u v => ((ntP w first tk us)).cap (pdec w.spathes.1 w.hours.1 u) (pdec w.spathes.1 w.hours.1 v)),T.lf) ⟨Int.le_refl _,.start (fun _ _ _ _ => rfl) fun x y => (hc0 x y).1,hRes⟩ ?_ fun s hs => ?_
 ·simp only [netL,vsub_left,isLB_left,false_and,Nat.not_lt_zero,hT.nf,hT.ck,hT.il,hT.kp,hT.xb,hT.xc,↓imp_tt,↓reduceIte,reduceCtorEq,Nat.reduceEqDiff,Nat.reduceLeDiff,Nat.reduceLT,go_sem]
  exact ⟨chkFam_cell (by simp only [↓reduceIte,go_sem]),chkFam_self fun z _ => by simp only [false_and,↓reduceIte,Nat.reduceEqDiff,go_sem],fun z hz => ⟨_,if_pos hz⟩⟩
 obtain ⟨v,R,lf⟩ := s
 obtain ⟨hv0,hF,hRes⟩ := hs
 simp only at hv0 hF hRes
 have hvS : v ≤ w.spathes.1 := by
  obtain ⟨g,_,e⟩ := hF.plan hC hgf (fun j => (hun j).1)
  have := Pla.size_le g ((ntP w first tk us)).S
  rw [e] at this
  exact this
 simp only [netL,hi1,hi2,↓reduceIte,reduceCtorEq,Nat.reduceEqDiff,Nat.reduceAdd,go_sem]
 refine ppush_run hi2 hi1 (n := n) (m := T.m) (X := 6) (E := 9) (M := 5) (F := 10) (Z := 12) hTm (by omega) (by omega) hA n 0 R lf (fun _ => false) _ _ _ _ _ (by omega) (uns_le _ _) (by omega) rfl rfl (fun a ha b hb' => ?_) hRes ⟨by simp only [↓reduceIte,Nat.reduceEqDiff,go_sem]; rfl,⟨_,by simp only [↓reduceIte,Nat.reduceEqDiff,go_sem]; rfl,fun k hk => ⟨rfl,rfl⟩⟩,⟨_,by simp only [↓reduceIte,Nat.reduceEqDiff,go_sem]; rfl,fun u hu => rfl⟩,fun u hu => ⟨_,by simp only [false_and,↓reduceIte,Nat.reduceEqDiff,go_sem]; rfl,fun i hi => rfl⟩,⟨fun _ => false,fun _ => .und,by simp only [↓reduceIte,go_sem],fun u hu => rfl,fun k hk => (by cases hk)⟩,by simp only [hT.ni,↓imp_tt,Nat.reduceLeDiff,go_sem]⟩ fun b r' lf' sn' bx' B' hM' hpost hres' hnet hold hkeep => ?_
 ·have e1 := hF.nn a (by rw [hNn]; exact ha) b (by rw [hNn]; exact hb')
  have e2 := hF.sk a (by rw [hNn]; exact ha) b (by rw [hNn]; exact hb')
  have e3 := (hc0 (pdec w.spathes.1 w.hours.1 a) (pdec w.spathes.1 w.hours.1 b)).2
  have e4 := (hc0 (pdec w.spathes.1 w.hours.1 b) (pdec w.spathes.1 w.hours.1 a)).2
  omega
 obtain ⟨B',rfl⟩ : ∃ m,B' = m + 100 := ⟨B' - 100,by omega⟩
 cases b with
 | false =>
  obtain ⟨c1,c2,c3,c4⟩ := hpost.ff rfl
  have hMost : IsMost (ntP w first tk us) v := hF.most hC hgf (fun j => (hun j).1) (s := sn') c2 c3 fun u hu hs x hx h0 => c4 u (by rw [← hNn]; exact hu) hs rfl x (by rw [← hNn]; exact hx) h0
  simp only [↓imp_tt,↓imp_tf,↓reduceIte,Nat.reduceEqDiff,go_sem]
  exact hK v bx' _ sn' lf' (by omega) hMost hv0 hvS (fun b hb => (hold b (by intro e; subst e; simp [Bn.id] at hb) (by intro e; subst e; simp [Bn.id] at hb)).trans (by
   cases b with
   | n k => simp only [Bn.id] at hb; simp only [bget]; repeat rw [if_neg (by omega)]
   | f k z => simp only [Bn.id] at hb; simp only [bget]; repeat rw [if_neg (fun q => by have := q.1; omega)])) (by rw [← hn]; exact hnet) fun b e1 e2 e3 => (hold b e3 e2).trans (by
   cases b with
   | n k => simp only [bget,List.cons_append,List.nil_append,if_neg (show ¬ 6 = k from fun e => e1 (by rw [e])),if_neg (show ¬ 9 = k from fun e => e2 (by rw [e])),if_neg (show ¬ 12 = k from fun e => e3 (by rw [e]))]
   | f k z => simp only [bget,List.cons_append,List.nil_append])
 | true =>
  have w6 : IntKind.i64.wrap (v + 1) = v + 1 := wr64 (by omega) (by have := hb.s; omega)
  simp only [w6,↓imp_ft,↓imp_ff,↓reduceIte,Nat.reduceEqDiff,go_sem]
  obtain ⟨ce,he1,he2⟩ := hnet.e
  have hx1 := hnet.x
  have h8 := fun z : Int => hold (.f 11 z) (by simp) (by simp)
  have h7 := fun z : Int => hold (.f 10 z) (by simp) (by simp)
  refine inv_chkG (v + 1,r',lf') ⟨by simp only; omega,hF.push ?_,hres'⟩ (by have := hb.s; simp only; omega) ?_
  ·rw [hNn]; exact (hpost.tt rfl).1
  refine chkG_tl (B := 3) (pre := [(11,.fam (fun z => decide (z = (w.spathes.1 : Int))) fun _ => .cells (.cons (.int .i64 w.spathes.1) .nil)),(9,.row 150 2 T.m (edgC ⟨T.m,T.tw,lf',T.ln,T.ix⟩)),(10,.fam (fun _ => true) fun z => .row 3 1 (T.ln z) fun i _ => .int .i64 (T.ix z i)),(7,.cells (.cons (.ptr (.n 6) 0) .nil)),(6,.cells (netL w 9 5 .und)),(5,.mz .i64 fun z => .own (.f 10 z)),(4,.cells (leftL (first : Int) tk us)),(3,.cells (.cons (.int .i64 w.day) (.cons (.view 3 w.spathes.1 fun a b => (w.spathes.2 a).c b) (.cons (.view 1 w.hours.1 fun a b => .int .i64 (w.hours.2 a)) (.cons (.view 4 w.lots.1 fun a b => (w.lots.2 a).c b) (.cons (.int .i64 w.opn) .nil))))))]) (pre0 := [(11,.fam (fun z => decide (z = (w.spathes.1 : Int))) fun _ => .cells (.cons (.int .i64 w.spathes.1) .nil)),(9,.row 150 2 T.m (edgC T)),(10,.fam (fun _ => true) fun z => .row 3 1 (T.ln z) fun i _ => .int .i64 (T.ix z i)),(7,.cells (.cons (.ptr (.n 6) 0) .nil)),(6,.cells (netL w 9 5 .nilm)),(5,.mz .i64 fun z => .own (.f 10 z)),(4,.cells (leftL (first : Int) tk us)),(3,.cells (.cons (.int .i64 w.day) (.cons (.view 3 w.spathes.1 fun a b => (w.spathes.2 a).c b) (.cons (.view 1 w.hours.1 fun a b => .int .i64 (w.hours.2 a)) (.cons (.view 4 w.lots.1 fun a b => (w.lots.2 a).c b) (.cons (.int .i64 w.opn) .nil))))))]) hT (by simp) (by simp) (fun b hb => ?_) (Nat.le_refl _) ?_ ?_ ?_ ?_
  ·rw [hold b (by intro e; subst e; simp [Bn.id] at hb) (by intro e; subst e; simp [Bn.id] at hb)]
   exact (by
   cases b with
   | n k => simp only [Bn.id] at hb; simp only [bget]; repeat rw [if_neg (by omega)]
   | f k z => simp only [Bn.id] at hb; simp only [bget]; repeat rw [if_neg (fun q => by have := q.1; omega)])
  ·simp only [List.cons_append,List.nil_append,↓reduceIte,reduceCtorEq,Nat.reduceEqDiff,go_sem]
  ·simp only [AllB,hx1,he1,h7,h8,hold (.n 7) (by simp) (by simp),hold (.n 5) (by simp) (by simp),hold (.n 4) (by simp) (by simp),hold (.n 3) (by simp) (by simp),false_and,vsub_left,isLB_left,forall_eq,implies_true,netL,List.cons_append,List.nil_append,Nat.not_lt_zero,hT.nf,↓imp_tt,↓reduceIte,reduceCtorEq,Nat.reduceEqDiff,Nat.reduceLeDiff,go_sem]
   exact .inr fun i hi j hj => edg_at he2 hi hj
  ·simp only [AllB,false_and,forall_eq,implies_true,netL,List.cons_append,List.nil_append,Nat.not_lt_zero,hT.nf,↓imp_tt,↓reduceIte,Nat.reduceEqDiff,Nat.reduceLeDiff,go_sem]
  ·simp only [AllB,hx1,he1,h7,h8,hold (.n 7) (by simp) (by simp),hold (.n 5) (by simp) (by simp),hold (.n 4) (by simp) (by simp),hold (.n 3) (by simp) (by simp),false_and,forall_eq,forall_eq',implies_true,netL,List.cons_append,List.nil_append,Nat.not_lt_zero,hT.nf,Kin,↓imp_tt,↓reduceIte,Nat.reduceEqDiff,Nat.reduceLeDiff,go_sem]
end Go.Proofs.Ytlapepdhkomijaa
