/- Palms, the program: Slots. No condition. -/
import Derived.Test.YtlapepdhkomijaaPOpn
import Derived.Test.YtlapepdhkomijaaPSl7
set_option linter.unusedSimpArgs false
set_option linter.unusedVariables false
namespace Go.Proofs.Ytlapepdhkomijaa
open Go Go.RowKit
variable {G : Nat → Option (Nat × (Nat → Val))}
set_option maxHeartbeats 4000000 in
set_option maxRecDepth 100000 in
theorem pSlotsP : PureOk Try.prog G 24 sSlots7 := by
 refine fnN2 (N := [25]) (S := [(53,sOpen)]) (I := [(55,a55),(83,a83),(54,a54),(82,a82)]) mixed (.cons pOpen .nil) (.cons Try.func55 c55 (.cons Try.func83 c83 (.cons Try.func54 c54 (.cons Try.func82 c82 .nil)))) Try.func24 c24 fun l w _ hw => ?_
 simp only [vl,WfT,Val.toInt,Val.slen,Val.scell,Nat.reduceSub,and_true,true_and,and_self,maxLen,Nat.reducePow,TSl,RInt,RPm,Pm.d,RSp,Sp.d,RLt,Lt.d,Wk.L,TWk] at hw
 by_cases he : workE l w = 0
 ·have hb := (workE_0 he).2.2.b
  have hS := hb.s
  have hH := hb.h
  rw [if_pos he]
  simp only [RunToN,a24,sOpen,dayL,he,hw,mkN_S,mkN_I,↓imp_ft,↓imp_ff,runO_4,runO_5,runO_6,runO_14,runO_15,runO_17,runO_18,runO_19,aop,binV,reOk,Nat.zero_sub,ev,fget,fput,params,cellsOf,cellsN,isLB,vget,vset,vsets,vlen,bget,bset,addB,addN,mkv,sliceV,vtab,frz,opOwns,preFz,callFz,skipOp,WfT,norm,norms,norm1,normL,pureB,pureL,onesB,specV,argsL,capsL,lkp,lenV,Fin,Val.toInt,Val.slen,Val.scell,↓reduceIte,reduceCtorEq,Nat.reduceEqDiff,Nat.reduceAdd,Nat.reduceSub,Nat.reduceLeDiff,Nat.reduceLT,Nat.zero_add,List.length_cons,List.length_nil,List.append_nil,Bool.and_self,bne_self_eq_false,and_true,true_and,and_self,and_assoc,forall_const,imp_self,implies_true,Nat.le_refl,maxLen,Nat.reducePow,spec2,TSl,IsSl,RInt,Prod.eta,Pm.c0,Pm.c1,Pm.c2,Pm.c3,Pm.c4,RPm,Pm.w_c,Pm.d,Pm.eta,Sn.eta,Sp.c0,Sp.c1,Sp.c2,RSp,Sp.w_c,Sp.d,Sp.eta,Lt.c0,Lt.c1,Lt.c2,Lt.c3,RLt,Lt.w_c,Lt.d,Lt.eta,Wk.L,Wk.Is,Wk.of,TWk,Wk.d,Wk.eta,toUI_val]
  refine loopJ (ι := Nat) (fun i => i ≤ w.spathes.1) (fun i => w.spathes.1 - i) [6,21] (fun i => [(22,.int .i64 i),(8,.own (.n 2))]) (fun i => [(2,.rown 25 1 i fun a _ => .own (.f 3 a)),(3,.fam (fun z => decide (0 ≤ z ∧ z < (i : Int))) fun z => .row 3 1 (slN w z.toNat) fun b _ => .int .i64 (slH w z.toNat b))]) 2 0 (Nat.zero_le _) (by
   simp only [bsetF,Chk,chkFr,chkBx,chkBx1,newIn,hasB,idsLt,kept,vs_int,vs_nil,vs_own,vs_ptr,vs_cons,vs_view,fget,isLB,bget,bset,vsubP_self,↓reduceIte,reduceCtorEq,Nat.reduceEqDiff,Nat.reduceAdd,Nat.reduceLT,Int.cast_ofNat_Int,and_true,true_and,and_self,forall_const,implies_true,Option.some.injEq,exists_eq',or_true,keepF,appF,updB]
   refine chkFam_new fun z hz => ?_
   have := of_decide_eq_true hz
   omega) fun i hi => ?_
  by_cases hil : i < w.spathes.1
  ·have fi : ((i : Int) < (w.spathes.1 : Int)) = True := eq_true (by omega)
   have pi1 : (0 ≤ (i : Int)) = True := eq_true (by omega)
   simp only [fi,pi1,a55,a83,a54,a82,hw,bsetF,mkN_S,mkN_I,↓imp_tt,↓imp_tf,runO_3,runO_4,runO_5,runO_6,runO_10,runO_14,runO_15,runO_17,runO_18,runO_19,aop,binV,ends,roundIn,keepS,reOk,List.map_cons,List.map_nil,Nat.zero_sub,ev,evs,fget,fput,params,cellsOf,cellsN,isLB,vget,vset,vsets,vlen,bget,bset,addB,addN,mkv,sliceV,vtab,frz,opOwns,preFz,skipOp,WfT,resV,res1,casts,castOks,cast1,castOk,onesB,argsL,capsL,lkp,lenV,stkFr,stkNx,Val.toInt,↓reduceIte,reduceCtorEq,Nat.reduceEqDiff,Nat.reduceAdd,Nat.reduceSub,Nat.reduceLeDiff,Nat.zero_add,Nat.add_zero,decide_true,List.length_cons,List.length_nil,List.append_nil,Bool.and_self,and_true,true_and,and_self,forall_const,imp_self,implies_true,Nat.le_refl,maxLen,Nat.reducePow,keepF,appF,updB,inat,Sp.c1,Sp.c2]
   intro g
   refine loopJ (ι := Nat) (fun h => h ≤ w.hours.1) (fun h => w.hours.1 - h) [0,1,2,4,16,17] (fun h => [(18,.int .i64 h)]) (fun h => [(6,.cells (.cons (.own (.n 9)) .nil)),(9,.row 3 1 (cntN (takesF w i) h) fun a _ => .int .i64 (selN (takesF w i) h a))]) 1 0 (Nat.zero_le _) (by
    simp only [cntN,vs_yld,Chk,chkFr,chkBx,chkBx1,newIn,hasB,idsLt,kept,vs_und,vs_int,vs_nil,vs_own,vs_ptr,vs_cons,vs_view,fget,isLB,bget,bset,vsubP_self,↓reduceIte,reduceCtorEq,Nat.reduceEqDiff,Nat.reduceAdd,Nat.reduceLT,Int.cast_ofNat_Int,and_true,true_and,and_self,and_assoc,forall_const,implies_true,decide_eq_true_eq,Option.some.injEq,exists_eq',or_true,keepF,appF,updB,inat]
    exact ⟨chkFam_same fun z hz => by simp only [bget,true_and,decide_eq_true_eq]; exact if_pos (of_decide_eq_true hz),fun a ha j hj => .inl ⟨_,if_pos ⟨by omega,by omega⟩⟩,fun z hz => ⟨_,if_pos hz⟩⟩) fun h hh => ?_
   by_cases hhl : h < w.hours.1
   ·have fh : ((h : Int) < (w.hours.1 : Int)) = True := eq_true (by omega)
    have ph1 : (0 ≤ (h : Int)) = True := eq_true (by omega)
    have hc := cntN_le (takesF w i) h
    have wo : IntKind.i64.wrap ((w.spathes.2 i).cracks.lo + w.opn) = (w.spathes.2 i).cracks.lo + w.opn := wr64 (by have := hb.c i (by omega); have := hb.o; omega) (by have := hb.c i (by omega); have := hb.o; omega)
    by_cases t1 : (w.spathes.2 i).cracks.hi ≤ w.hours.2 h
    ·have g1 : ((w.spathes.2 i).cracks.hi ≤ w.hours.2 h) = True := eq_true t1
     by_cases t2 : w.hours.2 h < (w.spathes.2 i).cracks.lo + w.opn
     ·have g2 : (w.hours.2 h < (w.spathes.2 i).cracks.lo + w.opn) = True := eq_true t2
      have ht : takesF w i h = true := decide_eq_true ⟨t1,t2⟩
      simp only [fh,ph1,g1,g2,wo,memN,subBox,mkN_G,mkN_N,Bn.n.injEq,↓imp_tt,↓imp_tf,↓imp_ft,↓imp_ff,runO_4,runO_5,runO_6,runO_8,runO_12,runO_13,runO_14,runO_16,runO_17,runO_18,runO_19,aop,binV,RoundP,putL,reOk,Nat.zero_sub,ev,fget,fput,cellsOf,cellsN,isLB,vget,vset,vsets,vlen,bget,bset,addB,addN,mkv,sliceV,vtab,rowsV,rowsOk,vrep,frz,opOwns,preFz,owns,skipOp,WfT,casts,castOks,cast1,castOk,pureB,onesB,argsL,pickV,subFr,subV,subBx,subStk,elemsV,stkFr,stkNx,Val.toInt,↓reduceIte,reduceCtorEq,Nat.reduceEqDiff,Nat.reduceAdd,Nat.reduceSub,Nat.reduceLeDiff,Nat.reduceLT,Nat.zero_add,Nat.add_zero,decide_true,List.length_cons,List.length_nil,List.append_nil,List.flatMap_cons,List.flatMap_nil,Bool.and_self,bne_self_eq_false,Bool.not_true,and_true,true_and,and_self,forall_const,imp_self,implies_true,Nat.le_refl,or_false,maxLen,Nat.reducePow,keepF,appF,updB,inat]
      refine ⟨by omega,by omega,?_⟩
      refine inv_intro (h + 1) (by omega) (by omega) ?_
      have hcn : cntN (takesF w i) (h + 1) = cntN (takesF w i) h + 1 := by simp only [cntN,ht,if_true]
      simp only [hcn,vs_yld,Chk,chkFr,chkBx,chkBx1,newIn,hasB,idsLt,kept,vs_und,vs_int,vs_nil,vs_own,vs_ptr,vs_cons,vs_view,Nat.lt_irrefl,fget,isLB,bget,vp_int,vsubP_self,↓reduceIte,reduceCtorEq,Nat.reduceEqDiff,Nat.reduceLT,and_true,true_and,and_self,and_assoc,forall_const,implies_true,decide_eq_true_eq,Option.some.injEq,Val.int.injEq,exists_eq',false_implies,or_false,inat]
      refine ⟨wrS (by omega),chkFam_same fun z hz => by simp only [bget,true_and,decide_eq_true_eq]; exact if_pos (of_decide_eq_true hz),fun a ha j hj => .inl ⟨_,if_pos ⟨by omega,by omega⟩⟩,fun a ha b hb' => ?_,fun z hz => ⟨_,if_pos hz⟩⟩
      obtain rfl : b = 0 := by omega
      simp only [selN,ht,true_and]
      by_cases e : a = cntN (takesF w i) h
      ·subst e; simp [vget]
      ·have : a < cntN (takesF w i) h := by omega
       simp [e,this]
     ·have g2 : (w.hours.2 h < (w.spathes.2 i).cracks.lo + w.opn) = False := eq_false t2
      have ht : takesF w i h = false := decide_eq_false fun e => t2 e.2
      simp only [fh,ph1,g1,g2,wo,↓imp_tt,↓imp_tf,↓imp_ft,↓imp_ff,runO_4,runO_5,runO_6,runO_8,runO_14,runO_16,runO_17,runO_18,runO_19,aop,binV,reOk,Nat.zero_sub,ev,fget,fput,vget,vlen,bget,bset,addB,addN,mkv,sliceV,vtab,frz,opOwns,preFz,skipOp,WfT,casts,castOks,cast1,castOk,pickV,stkFr,stkNx,Val.toInt,↓reduceIte,reduceCtorEq,Nat.reduceEqDiff,Nat.reduceAdd,Nat.reduceLeDiff,Nat.zero_add,Nat.add_zero,decide_true,decide_false,List.length_cons,List.length_nil,Bool.bne_true,bne_self_eq_false,Bool.not_false,and_true,true_and,and_self,forall_const,imp_self,implies_true,Nat.le_refl,keepF,appF,updB,inat]
      refine inv_intro (h + 1) (by omega) (by omega) ?_
      have hcn : cntN (takesF w i) (h + 1) = cntN (takesF w i) h := by simp [cntN,ht]
      have hse : ∀ a,selN (takesF w i) (h + 1) a = selN (takesF w i) h a := fun a => by simp [selN,ht]
      simp only [hcn,hse,vs_yld,Chk,chkFr,chkBx,chkBx1,newIn,hasB,idsLt,kept,vs_und,vs_int,vs_nil,vs_own,vs_ptr,vs_cons,vs_view,Nat.lt_irrefl,fget,isLB,bget,vsubP_self,↓reduceIte,reduceCtorEq,Nat.reduceEqDiff,Nat.reduceLT,and_true,true_and,and_self,and_assoc,forall_const,implies_true,decide_eq_true_eq,Option.some.injEq,Val.int.injEq,exists_eq',or_false,inat]
      exact ⟨wrS (by omega),chkFam_same fun z hz => by simp only [bget,true_and,decide_eq_true_eq]; exact if_pos (of_decide_eq_true hz),fun a ha j hj => .inl ⟨_,if_pos ⟨by omega,by omega⟩⟩,fun z hz => ⟨_,if_pos hz⟩⟩
    ·have g1 : ((w.spathes.2 i).cracks.hi ≤ w.hours.2 h) = False := eq_false t1
     have ht : takesF w i h = false := decide_eq_false fun e => t1 e.1
     simp only [fh,ph1,g1,↓imp_tt,↓imp_tf,↓imp_ft,↓imp_ff,runO_4,runO_5,runO_6,runO_8,runO_14,runO_16,runO_17,runO_18,runO_19,aop,binV,reOk,Nat.zero_sub,ev,fget,fput,vget,vlen,bget,bset,addB,addN,mkv,sliceV,vtab,frz,opOwns,preFz,skipOp,WfT,casts,castOks,cast1,castOk,pickV,stkFr,stkNx,Val.toInt,↓reduceIte,reduceCtorEq,Nat.reduceEqDiff,Nat.reduceAdd,Nat.zero_add,decide_true,decide_false,List.length_cons,List.length_nil,Bool.bne_true,Bool.not_false,and_true,true_and,and_self,forall_const,imp_self,implies_true,Nat.le_refl,keepF,appF,updB,inat]
     refine inv_intro (h + 1) (by omega) (by omega) ?_
     have hcn : cntN (takesF w i) (h + 1) = cntN (takesF w i) h := by simp [cntN,ht]
     have hse : ∀ a,selN (takesF w i) (h + 1) a = selN (takesF w i) h a := fun a => by simp [selN,ht]
     simp only [hcn,hse,vs_yld,Chk,chkFr,chkBx,chkBx1,newIn,hasB,idsLt,kept,vs_und,vs_int,vs_nil,vs_own,vs_ptr,vs_cons,vs_view,Nat.lt_irrefl,fget,isLB,bget,vsubP_self,↓reduceIte,reduceCtorEq,Nat.reduceEqDiff,Nat.reduceLT,and_true,true_and,and_self,and_assoc,forall_const,implies_true,decide_eq_true_eq,Option.some.injEq,Val.int.injEq,exists_eq',or_false,inat]
     exact ⟨wrS (by omega),chkFam_same fun z hz => by simp only [bget,true_and,decide_eq_true_eq]; exact if_pos (of_decide_eq_true hz),fun a ha j hj => .inl ⟨_,if_pos ⟨by omega,by omega⟩⟩,fun z hz => ⟨_,if_pos hz⟩⟩
   ·have fh : ((h : Int) < (w.hours.1 : Int)) = False := eq_false (by omega)
    obtain rfl : h = w.hours.1 := by omega
    simp only [fh,memN,subBox,rowsOkN,hasNil,mkN_N,Bn.n.injEq,↓imp_ft,↓imp_ff,runO_2,runO_3,runO_5,runO_8,runO_9,runO_11,runO_14,runO_16,runO_17,runO_18,runO_19,aop,binV,ends,reOk,Nat.zero_sub,ev,fget,fput,cellsOf,cellsN,isLB,vget,vset,vlen,bget,bset,bdel,addB,addN,mkv,sliceV,vtab,rowsV,vrep,frz,opOwns,preFz,skipOp,WfT,resV,resL,res1,pureB,onesB,subFr,subV,subBx,subStk,popTo,stkFr,stkNx,↓reduceIte,reduceCtorEq,Nat.reduceEqDiff,Nat.reduceAdd,Nat.reduceSub,Nat.reduceLeDiff,Nat.reduceLT,Nat.zero_add,decide_false,List.length_cons,List.length_nil,Bool.and_self,true_and,and_self,forall_const,imp_self,implies_true,Nat.le_refl,maxLen,Nat.reducePow,keepF,appF,updB]
    refine ⟨by omega,by omega,?_⟩
    refine inv_renM [(.n 9,.f 3 i)] (i + 1) (fun p hp m hm => ?_) hil (by omega) ?_
    ·simp only [List.mem_singleton] at hp hm
     subst hp; first | (subst hm; exact Nat.le_of_ble_eq_true rfl) | cases hm
    ·have hvac : ((i : Int) < (i : Int)) = False := eq_false (by omega)
     simp only [renV,renFr,renBox,renBx,rens,Bn.n.injEq,Chk,chkFr,chkBx,chkBx1,newIn,hasB,idsLt,kept,vs_int,vs_nil,vs_own,vs_ptr,vs_cons,vs_view,Nat.lt_irrefl,fget,isLB,bget,bset,bdel,vsubP_self,↓reduceIte,reduceCtorEq,Nat.reduceEqDiff,Nat.reduceLT,decide_false,Bool.false_eq_true,and_true,true_and,and_self,forall_const,implies_true,decide_eq_true_eq,Option.some.injEq,Val.int.injEq,exists_eq',false_implies,or_false,inat,hvac,and_false]
     refine ⟨wrS (by omega),chkFam_same fun z hz => ?_,fun a ha j hj => ?_⟩
     ·have hz := of_decide_eq_true hz
      simp only [bget,true_and]
      by_cases e : z = (i : Int)
      ·subst e; simp [slN,slH]
      ·rw [if_pos (by simp [e]; omega),if_neg e]
     ·obtain rfl : j = 0 := by omega
      refine .inl ⟨?_,_,if_pos ⟨by omega,by omega⟩⟩
      by_cases e : a < i
      ·rw [if_pos e]; simp only [renV,subV,↓reduceIte,reduceCtorEq]
      ·obtain rfl : a = i := by omega
       rw [if_neg (Nat.lt_irrefl _),Nat.sub_self]; simp only [renV,Bn.n.injEq,vget,subV,↓reduceIte,Nat.reduceEqDiff]
  ·have fi : ((i : Int) < (w.spathes.1 : Int)) = False := eq_false (by omega)
   obtain rfl : i = w.spathes.1 := by omega
   simp only [fi,bsetF,↓imp_ft,↓imp_ff,runO_3,runO_5,runO_9,runO_14,runO_17,runO_18,runO_19,aop,binV,ends,reOk,ev,fget,fput,bget,bset,addB,addN,frz,opOwns,preFz,skipOp,WfT,resV,resL,res1,snapV,snapOk,pickV,popTo,stkFr,stkNx,vp_cons,vp_tup,vp_view,vsubP_self,↓reduceIte,reduceCtorEq,Nat.reduceEqDiff,Nat.reduceAdd,decide_false,Bool.and_true,Bool.and_self,and_true,true_and,and_self,forall_const,imp_self,implies_true,decide_eq_true_eq,keepF,appF,updB,inat]
   refine ⟨fun i hi j hj => ?_,fun i hi j hj => ?_⟩
   ·rw [if_pos ⟨by omega,by omega⟩]
   ·have e1 : decide (i < w.spathes.1 ∧ j < 1) = true := decide_eq_true ⟨hi,hj⟩
    have e2 : (0 ≤ (i : Int) ∧ (i : Int) < (w.spathes.1 : Int)) = True := eq_true ⟨by omega,by omega⟩
    simp only [e1,e2,vsubP_self,↓reduceIte]
 ·have hz : (workE l w = 0) = False := eq_false he
  rw [if_neg he]
  simp only [RunToN,a24,sOpen,hz,hw,mkN_S,mkN_I,runO_3,runO_4,runO_5,runO_6,runO_14,runO_15,runO_17,runO_18,runO_19,aop,binV,ends,reOk,Nat.zero_sub,ev,fget,fput,params,cellsOf,cellsN,isLB,vget,vset,vsets,vlen,bget,bset,addB,addN,mkv,sliceV,vtab,frz,opOwns,preFz,callFz,skipOp,WfT,resV,resL,res1,norm,norms,norm1,normL,pureB,pureL,onesB,snapV,snapOk,specV,argsL,capsL,lkp,lenV,Fin,vsubP_self,Val.toInt,Val.slen,Val.scell,↓reduceIte,reduceCtorEq,Nat.reduceEqDiff,Nat.reduceAdd,Nat.reduceSub,Nat.reduceLeDiff,Nat.reduceLT,Nat.zero_add,bne_iff_ne,bne_eq_false_iff_eq,List.length_cons,List.length_nil,List.append_nil,Bool.and_self,and_true,true_and,and_self,and_assoc,forall_const,imp_self,implies_true,Nat.le_refl,ne_eq,not_false_eq_true,false_implies,not_false_eq_true,maxLen,Nat.reducePow,spec2,TSl,IsSl,RInt,Prod.eta,Pm.c0,Pm.c1,Pm.c2,Pm.c3,Pm.c4,RPm,Pm.w_c,Pm.d,Pm.eta,Sn.eta,Sp.c0,Sp.c1,Sp.c2,RSp,Sp.w_c,Sp.d,Sp.eta,Lt.c0,Lt.c1,Lt.c2,Lt.c3,RLt,Lt.w_c,Lt.d,Lt.eta,Wk.L,Wk.Is,Wk.of,TWk,Wk.d,Wk.eta,toUI_val]
end Go.Proofs.Ytlapepdhkomijaa
