/- Palms, the reference: Slots. No condition. -/
import Derived.Test.YtlapepdhkomijaaPWrk
import Derived.Test.YtlapepdhkomijaaPRgr
import Derived.Test.YtlapepdhkomijaaPKnm
set_option linter.unusedSimpArgs false
set_option linter.unusedVariables false
namespace Go.Proofs.Ytlapepdhkomijaa
open Go Go.RowKit
variable {G : Nat → Option (Nat × (Nat → Val))}
def slN (w : Wk) (i : Nat) : Nat := cntN (takesF w i) w.hours.1
def slH (w : Wk) (i j : Nat) : Nat := selN (takesF w i) w.hours.1 j
theorem workE_0 {l : Pms} {w : Wk} (h : workE l w = 0) : PmsOk l ∧ ¬ badI l < l.1 ∧ WkOk (knF l) w := by
 unfold workE at h
 split at h
 ·rename_i h1
  split at h
  ·cases h
  ·rename_i h2
   split at h
   ·rename_i h3; exact ⟨pmE_0 h1,h2,decP_true.1 h3⟩
   ·cases h
 ·cases h
theorem chkFam_same {N D : Bn → Prop} {bx : Bx} {F : Nat} {d : Int → Bool} {e : TypeId} {n : Int → Nat} {c : Int → Nat → Nat → Val} (h : ∀ z,d z = true → bget bx (.f F z) = some (.row e 1 (n z) (c z))) : chkFam N D bx F d (fun z => .row e 1 (n z) (c z)) := by
 intro z hz
 rw [h z hz]
 exact ⟨rfl,rfl,rfl,fun i _ j _ => by rw [vsubP_self]; trivial⟩
noncomputable def sSlots7 : Spec := spec2 (TSl RPm) TWk (fun _ _ => True) fun l w => if workE l w = 0 then .tup (.cons (.view 1 w.spathes.1 fun i _ => .view 1 (slN w i) fun j _ => .int .i64 (slH w i j)) (.cons (.int .i64 0) .nil)) else .tup (.cons .nils (.cons (.int .i64 (workE l w)) .nil))
set_option maxHeartbeats 4000000 in
set_option maxRecDepth 100000 in
theorem pSlots7 : PureOk Try.prog G 25 sSlots7 := by
 refine fnN2 (N := [25]) (S := [(45,sWork7),(56,sTakes)]) (I := []) mixed (.cons pWork7 (.cons pTakesR .nil)) .nil Try.func25 c25 fun l w _ hw => ?_
 simp only [vl,WfT,Val.toInt,Val.slen,Val.scell,Nat.reduceSub,and_true,true_and,and_self,maxLen,Nat.reducePow,TSl,RInt,RPm,Pm.d,RSp,Sp.d,RLt,Lt.d,Wk.L,TWk] at hw
 by_cases he : workE l w = 0
 ·have hb := (workE_0 he).2.2.b
  have hS := hb.s
  have hH := hb.h
  have fb : WkB w = True := eq_true hb
  rw [if_pos he]
  simp only [RunToN,a25,sWork7,he,hw,mkN_S,mkN_I,↓imp_ft,↓imp_ff,runO_4,runO_5,runO_6,runO_14,runO_15,runO_17,runO_18,runO_19,aop,binV,reOk,ev,fget,fput,params,cellsOf,cellsN,isLB,vget,vlen,bget,addB,addN,mkv,sliceV,vtab,frz,opOwns,preFz,callFz,skipOp,WfT,norm,norms,norm1,normL,pureB,pureL,specV,argsL,capsL,lkp,Fin,Val.toInt,Val.slen,Val.scell,↓reduceIte,reduceCtorEq,Nat.reduceEqDiff,Nat.reduceAdd,Nat.reduceSub,Nat.zero_add,List.length_cons,List.length_nil,List.append_nil,Bool.and_self,bne_self_eq_false,and_true,true_and,and_self,and_assoc,forall_const,imp_self,implies_true,Nat.le_refl,maxLen,Nat.reducePow,spec2,TSl,IsSl,RInt,Prod.eta,Pm.c0,Pm.c1,Pm.c2,Pm.c3,Pm.c4,RPm,Pm.w_c,Pm.d,Pm.eta,Sn.eta,Sp.c0,Sp.c1,Sp.c2,RSp,Sp.w_c,Sp.d,Sp.eta,Lt.c0,Lt.c1,Lt.c2,Lt.c3,RLt,Lt.w_c,Lt.d,Lt.eta,Wk.L,Wk.Is,Wk.of,TWk,Wk.d,Wk.eta,toUI_val]
  refine loopJ (ι := Nat) (fun i => i ≤ w.spathes.1) (fun i => w.spathes.1 - i) [3] (fun i => [(8,.int .i64 i),(7,.own (.n 1))]) (fun i => [(1,.rown 25 1 i fun a _ => .own (.f 2 a)),(2,.fam (fun z => decide (0 ≤ z ∧ z < (i : Int))) fun z => .row 3 1 (slN w z.toNat) fun b _ => .int .i64 (slH w z.toNat b))]) 2 0 (Nat.zero_le _) (by
   simp only [bsetF,Chk,chkFr,chkBx,chkBx1,newIn,hasB,idsLt,kept,vs_int,vs_nil,vs_own,vs_ptr,vs_cons,vs_view,fget,isLB,bget,bset,vsubP_self,↓reduceIte,reduceCtorEq,Nat.reduceEqDiff,Nat.reduceAdd,Nat.reduceLT,Int.cast_ofNat_Int,and_true,true_and,and_self,forall_const,implies_true,Option.some.injEq,exists_eq',or_true,keepF,appF,updB]
   refine chkFam_new fun z hz => ?_
   have := of_decide_eq_true hz
   omega) fun i hi => ?_
  by_cases hil : i < w.spathes.1
  ·have fi : ((i : Int) < (w.spathes.1 : Int)) = True := eq_true (by omega)
   have pi1 : (0 ≤ (i : Int)) = True := eq_true (by omega)
   simp only [fi,hw,bsetF,↓imp_tt,↓imp_tf,runO_4,runO_5,runO_6,runO_14,runO_15,runO_17,runO_18,runO_19,aop,binV,reOk,ev,fget,fput,vget,vlen,bget,bset,addB,addN,mkv,sliceV,vtab,frz,opOwns,preFz,skipOp,WfT,lenV,stkFr,stkNx,↓reduceIte,reduceCtorEq,Nat.reduceEqDiff,Nat.reduceAdd,Nat.reduceSub,Nat.reduceLeDiff,Nat.zero_add,decide_true,List.length_cons,List.length_nil,and_true,true_and,and_self,forall_const,imp_self,implies_true,maxLen,Nat.reducePow,keepF,appF,updB]
   refine loopJ (ι := Nat) (fun h => h ≤ w.hours.1) (fun h => w.hours.1 - h) [3,7,8] (fun h => [(10,.int .i64 h),(9,.own (.n 3))]) (fun h => [(3,.row 3 1 (cntN (takesF w i) h) fun a _ => .int .i64 (selN (takesF w i) h a))]) 1 0 (Nat.zero_le _) (by
    simp only [cntN,Chk,chkFr,chkBx,chkBx1,newIn,hasB,idsLt,kept,vs_int,vs_nil,vs_own,vs_ptr,vs_cons,vs_view,fget,isLB,bget,bset,vsubP_self,↓reduceIte,reduceCtorEq,Nat.reduceEqDiff,Nat.reduceAdd,Nat.reduceLT,Int.cast_ofNat_Int,and_true,true_and,and_self,and_assoc,forall_const,implies_true,decide_eq_true_eq,Option.some.injEq,exists_eq',or_true,or_false,keepF,appF,updB,inat]
    exact ⟨chkFam_same fun z hz => by simp only [bget,true_and,decide_eq_true_eq]; exact if_pos (of_decide_eq_true hz),fun a ha j hj => .inl ⟨_,if_pos ⟨by omega,by omega⟩⟩,fun z hz => ⟨_,if_pos hz⟩⟩) fun h hh => ?_
   by_cases hhl : h < w.hours.1
   ·have fh : ((h : Int) < (w.hours.1 : Int)) = True := eq_true (by omega)
    have ph1 : (0 ≤ (h : Int)) = True := eq_true (by omega)
    have hc := cntN_le (takesF w i) h
    cases ht : takesF w i h with
    | true =>
     simp only [fi,fh,pi1,ph1,fb,sTakes,ht,Int.toNat_natCast,hw,memN,subBox,mkN_S,mkN_I,mkN_G,mkN_N,Bn.n.injEq,↓imp_tt,↓imp_tf,runO_4,runO_5,runO_6,runO_8,runO_14,runO_16,runO_17,runO_18,runO_19,aop,binV,reOk,Nat.zero_sub,ev,fget,fput,cellsOf,cellsN,isLB,vget,vset,vlen,bget,bset,addB,addN,mkv,sliceV,vtab,rowsV,rowsOk,vrep,frz,opOwns,preFz,callFz,owns,skipOp,WfT,norm,norms,norm1,normL,pureB,pureL,onesB,specV,argsL,capsL,lkp,lenV,subFr,subV,subBx,subStk,elemsV,stkFr,stkNx,Val.toInt,Val.slen,Val.scell,↓reduceIte,reduceCtorEq,Nat.reduceEqDiff,Nat.reduceAdd,Nat.reduceSub,Nat.reduceLeDiff,Nat.reduceLT,Nat.zero_add,decide_true,List.length_cons,List.length_nil,List.append_nil,List.flatMap_cons,List.flatMap_nil,Bool.and_self,and_true,true_and,and_self,and_assoc,forall_const,imp_self,implies_true,Nat.le_refl,or_false,maxLen,Nat.reducePow,keepF,appF,updB,spec3,TInt,IsInt,RInt,Prod.eta,Sn.eta,Sp.c0,Sp.c1,Sp.c2,RSp,Sp.w_c,Sp.d,Sp.eta,Lt.c0,Lt.c1,Lt.c2,Lt.c3,RLt,Lt.w_c,Lt.d,Lt.eta,Wk.L,Wk.Is,Wk.of,TWk,Wk.d,Wk.eta]
     refine ⟨by omega,by omega,?_⟩
     refine inv_intro (h + 1) (by omega) (by omega) ?_
     have hcn : cntN (takesF w i) (h + 1) = cntN (takesF w i) h + 1 := by simp only [cntN,ht,if_true]
     simp only [hcn,Chk,chkFr,chkBx,chkBx1,newIn,hasB,idsLt,kept,vs_int,vs_nil,vs_own,vs_ptr,vs_cons,vs_view,Nat.lt_irrefl,fget,isLB,bget,vp_int,vsubP_self,↓reduceIte,reduceCtorEq,Nat.reduceEqDiff,Nat.reduceLT,and_true,true_and,and_self,and_assoc,forall_const,implies_true,decide_eq_true_eq,Option.some.injEq,Val.int.injEq,exists_eq',false_implies,or_false,inat]
     refine ⟨wrS (by omega),chkFam_same fun z hz => by simp only [bget,true_and,decide_eq_true_eq]; exact if_pos (of_decide_eq_true hz),fun a ha j hj => .inl ⟨_,if_pos ⟨by omega,by omega⟩⟩,fun a ha b hb' => ?_,fun z hz => ⟨_,if_pos hz⟩⟩
     obtain rfl : b = 0 := by omega
     simp only [selN,ht,true_and]
     by_cases e : a = cntN (takesF w i) h
     ·subst e; simp [vget]
     ·have : a < cntN (takesF w i) h := by omega
      simp [e,this]
    | false =>
     simp only [fi,fh,pi1,ph1,fb,sTakes,ht,Int.toNat_natCast,hw,mkN_S,mkN_I,↓imp_tt,↓imp_tf,↓imp_ft,↓imp_ff,runO_4,runO_5,runO_6,runO_8,runO_14,runO_16,runO_17,runO_18,runO_19,aop,binV,reOk,ev,fget,fput,cellsOf,isLB,vget,vlen,bget,bset,addB,addN,mkv,sliceV,vtab,frz,opOwns,preFz,callFz,skipOp,WfT,norm,norms,norm1,normL,pureB,pureL,specV,argsL,capsL,lkp,lenV,stkFr,stkNx,Val.toInt,Val.slen,Val.scell,↓reduceIte,reduceCtorEq,Nat.reduceEqDiff,Nat.reduceAdd,Nat.reduceSub,Nat.reduceLeDiff,Nat.zero_add,decide_true,List.length_cons,List.length_nil,List.append_nil,Bool.and_self,and_true,true_and,and_self,and_assoc,forall_const,imp_self,implies_true,Nat.le_refl,maxLen,Nat.reducePow,keepF,appF,updB,spec3,TInt,IsInt,RInt,Prod.eta,Sn.eta,Sp.c0,Sp.c1,Sp.c2,RSp,Sp.w_c,Sp.d,Sp.eta,Lt.c0,Lt.c1,Lt.c2,Lt.c3,RLt,Lt.w_c,Lt.d,Lt.eta,Wk.L,Wk.Is,Wk.of,TWk,Wk.d,Wk.eta]
     refine inv_intro (h + 1) (by omega) (by omega) ?_
     have hcn : cntN (takesF w i) (h + 1) = cntN (takesF w i) h := by simp [cntN,ht]
     have hse : ∀ a,selN (takesF w i) (h + 1) a = selN (takesF w i) h a := fun a => by simp [selN,ht]
     simp only [hcn,hse,Chk,chkFr,chkBx,chkBx1,newIn,hasB,idsLt,kept,vs_int,vs_nil,vs_own,vs_ptr,vs_cons,vs_view,Nat.lt_irrefl,fget,isLB,bget,vsubP_self,↓reduceIte,reduceCtorEq,Nat.reduceEqDiff,Nat.reduceLT,and_true,true_and,and_self,and_assoc,forall_const,implies_true,decide_eq_true_eq,Option.some.injEq,Val.int.injEq,exists_eq',or_false,inat]
     exact ⟨wrS (by omega),chkFam_same fun z hz => by simp only [bget,true_and,decide_eq_true_eq]; exact if_pos (of_decide_eq_true hz),fun a ha j hj => .inl ⟨_,if_pos ⟨by omega,by omega⟩⟩,fun z hz => ⟨_,if_pos hz⟩⟩
   ·have fh : ((h : Int) < (w.hours.1 : Int)) = False := eq_false (by omega)
    obtain rfl : h = w.hours.1 := by omega
    simp only [fh,hw,memN,subBox,rowsOkN,hasNil,mkN_N,Bn.n.injEq,↓imp_ft,↓imp_ff,runO_5,runO_8,runO_9,runO_14,runO_16,runO_17,runO_18,runO_19,aop,binV,reOk,Nat.zero_sub,ev,fget,fput,cellsOf,cellsN,isLB,vget,vset,vlen,bget,bset,addB,addN,mkv,sliceV,vtab,rowsV,vrep,frz,opOwns,preFz,skipOp,WfT,pureB,onesB,lenV,subFr,subV,subBx,subStk,popTo,stkFr,stkNx,↓reduceIte,reduceCtorEq,Nat.reduceEqDiff,Nat.reduceAdd,Nat.reduceSub,Nat.reduceLeDiff,Nat.reduceLT,Nat.zero_add,decide_false,List.length_cons,List.length_nil,Bool.and_self,true_and,and_self,forall_const,imp_self,implies_true,maxLen,Nat.reducePow,keepF,appF,updB]
    refine ⟨by omega,by omega,?_⟩
    refine inv_renM [(.n 3,.f 2 i)] (i + 1) (fun p hp m hm => ?_) hil (by omega) ?_
    ·simp only [List.mem_singleton] at hp hm
     subst hp; first | (subst hm; exact Nat.le_of_ble_eq_true rfl) | cases hm
    ·have hvac : ((i : Int) < (i : Int)) = False := eq_false (by omega)
     simp only [renV,renFr,renBox,renBx,rens,Bn.n.injEq,Chk,chkFr,chkBx,chkBx1,newIn,hasB,idsLt,kept,vs_int,vs_nil,vs_own,vs_ptr,vs_cons,vs_view,Nat.lt_irrefl,fget,isLB,bget,bset,bdel,vsubP_self,↓reduceIte,reduceCtorEq,Nat.reduceEqDiff,Nat.reduceLT,decide_false,Bool.false_eq_true,and_true,true_and,and_self,forall_const,implies_true,decide_eq_true_eq,Option.some.injEq,Val.int.injEq,exists_eq',false_implies,or_false,inat,hvac,and_false]
     refine ⟨wrS (by omega),chkFam_same fun z hz => ?_,fun a ha j hj => ?_⟩
     ·have hz := of_decide_eq_true hz
      simp only [bget,true_and]
      by_cases e : z = (i : Int)
      ·subst e; simp [slN,slH]
      ·rw [if_pos (by simp [e]; omega),if_neg e]
     ·obtain rfl : j = 0 := by omega
      refine .inl ⟨?_,_,if_pos ⟨by omega,by omega⟩⟩
      by_cases e : a < i
      ·rw [if_pos e]; simp only [renV,subV,↓reduceIte,reduceCtorEq]
      ·obtain rfl : a = i := by omega
       rw [if_neg (Nat.lt_irrefl _),Nat.sub_self]; simp only [renV,Bn.n.injEq,vget,subV,↓reduceIte,Nat.reduceEqDiff]
  ·have fi : ((i : Int) < (w.spathes.1 : Int)) = False := eq_false (by omega)
   obtain rfl : i = w.spathes.1 := by omega
   simp only [fi,hw,bsetF,↓imp_ft,↓imp_ff,runO_3,runO_5,runO_9,runO_14,runO_17,runO_18,runO_19,aop,binV,ends,reOk,ev,fget,fput,vget,vlen,bget,bset,addB,addN,mkv,sliceV,vtab,frz,opOwns,preFz,skipOp,WfT,resV,resL,res1,snapV,snapOk,pickV,lenV,popTo,stkFr,stkNx,vp_cons,vp_tup,vp_view,vsubP_self,↓reduceIte,reduceCtorEq,Nat.reduceEqDiff,Nat.reduceAdd,Nat.reduceSub,Nat.reduceLeDiff,Nat.zero_add,decide_false,List.length_cons,List.length_nil,Bool.and_true,Bool.and_self,and_true,true_and,and_self,forall_const,imp_self,implies_true,decide_eq_true_eq,maxLen,Nat.reducePow,keepF,appF,updB,inat]
   refine ⟨fun i hi j hj => ?_,fun i hi j hj => ?_⟩
   ·rw [if_pos ⟨by omega,by omega⟩]
   ·have e1 : decide (i < w.spathes.1 ∧ j < 1) = true := decide_eq_true ⟨hi,hj⟩
    have e2 : (0 ≤ (i : Int) ∧ (i : Int) < (w.spathes.1 : Int)) = True := eq_true ⟨by omega,by omega⟩
    simp only [e1,e2,vsubP_self,↓reduceIte]
 ·have hz : (workE l w = 0) = False := eq_false he
  rw [if_neg he]
  simp only [RunToN,a25,sWork7,hz,hw,mkN_S,mkN_I,runO_3,runO_4,runO_5,runO_6,runO_14,runO_15,runO_17,runO_18,runO_19,aop,binV,ends,reOk,ev,fget,fput,params,cellsOf,cellsN,isLB,vget,vlen,bget,addB,addN,mkv,sliceV,vtab,frz,opOwns,preFz,callFz,skipOp,WfT,resV,resL,res1,norm,norms,norm1,normL,pureB,pureL,snapV,snapOk,specV,argsL,capsL,lkp,Fin,vsubP_self,Val.toInt,Val.slen,Val.scell,↓reduceIte,reduceCtorEq,Nat.reduceEqDiff,Nat.reduceAdd,Nat.reduceSub,Nat.zero_add,bne_iff_ne,bne_eq_false_iff_eq,List.length_cons,List.length_nil,List.append_nil,Bool.and_self,and_true,true_and,and_self,and_assoc,forall_const,imp_self,implies_true,Nat.le_refl,ne_eq,not_false_eq_true,false_implies,not_false_eq_true,maxLen,Nat.reducePow,spec2,TSl,IsSl,RInt,Prod.eta,Pm.c0,Pm.c1,Pm.c2,Pm.c3,Pm.c4,RPm,Pm.w_c,Pm.d,Pm.eta,Sn.eta,Sp.c0,Sp.c1,Sp.c2,RSp,Sp.w_c,Sp.d,Sp.eta,Lt.c0,Lt.c1,Lt.c2,Lt.c3,RLt,Lt.w_c,Lt.d,Lt.eta,Wk.L,Wk.Is,Wk.of,TWk,Wk.d,Wk.eta,toUI_val]
end Go.Proofs.Ytlapepdhkomijaa
