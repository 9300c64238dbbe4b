/- Palms, the statement PalmPlans. No condition. -/
import Derived.Test.YtlapepdhkomijaaPSam
import Derived.Test.YtlapepdhkomijaaPSlP
import Derived.Test.YtlapepdhkomijaaPMsP
import Derived.Test.YtlapepdhkomijaaACode2
set_option linter.unusedSimpArgs false
set_option linter.unusedVariables false
namespace Go.Proofs.Ytlapepdhkomijaa
open Go Go.RowKit
variable {G : Nat → Option (Nat × (Nat → Val))}
theorem sameB_self {α : Type} (a : Nat × (Nat → α)) : sameB a a = true := decP_t ⟨rfl,fun _ _ => rfl⟩
theorem wkSame_self (w : Wk) : wkSame w w := ⟨rfl,rfl,sameB_self _,sameB_self _,sameB_self _⟩
def sLawPlans : Spec := spec2 (TSl RPm) TWk (fun _ _ => True) fun _ _ => .bool true
set_option maxHeartbeats 4000000 in
set_option maxRecDepth 100000 in
theorem pLawPlans : PureOk Try.prog G 4 sLawPlans := by
 refine fn2 (S := [(14,sGreat7),(23,sTwin7),(24,sSlots7),(25,sSlots7),(26,sMost7),(27,sMost7),(28,sSameLs),(29,sSameDu),(30,sSameWk)]) (I := []) mixed
  (.cons pGreat7 (.cons pTwin7 (.cons pSlotsP (.cons pSlots7 (.cons pMostP (.cons pMost7 (.cons pSameLs (.cons pSameDu (.cons pSameWk .nil))))))))) .nil Try.func4 c4 fun l w _ hw => ?_
 simp only [vl,WfT,Val.toInt,Val.slen,Val.scell,Nat.reduceSub,and_true,true_and,and_self,maxLen,Nat.reducePow,TSl,RInt,RPm,Pm.d,RSp,Sp.d,RLt,Lt.d,Wk.L,TWk] at hw
 have hT : decP True = true := decP_t trivial
 by_cases hg : l.1 > 30 ∨ w.spathes.1 > 12 ∨ w.hours.1 > 20 ∨ w.lots.1 > 8
 ·have eg := decP_t hg
  simp only [RunTo,a4,sGreat7,eg,hw,↓imp_tt,↓imp_tf,runO_3,runO_5,runO_14,runO_17,runO_18,runO_19,aop,ends,reOk,ev,fget,fput,params,cellsOf,cellsN,isLB,vget,vlen,bget,addB,addN,mkv,sliceV,vtab,frz,opOwns,preFz,callFz,skipOp,WfT,resV,res1,norm,norms,norm1,normL,pureB,pureL,snapV,snapOk,specV,argsL,capsL,mkE_S,mkE_I,lkp,Fin,vp_bool,Val.toInt,Val.slen,Val.scell,↓reduceIte,reduceCtorEq,Nat.reduceEqDiff,Nat.reduceAdd,Nat.reduceSub,Nat.zero_add,List.length_cons,List.length_nil,List.append_nil,Bool.and_self,and_true,and_self,and_assoc,forall_const,imp_self,implies_true,Nat.le_refl,maxLen,Nat.reducePow,spec2,TSl,IsSl,RInt,RPm,Pm.w_c,Pm.d,RSp,Sp.w_c,Sp.d,RLt,Lt.w_c,Lt.d,Wk.L,Wk.Is,Wk.of,TWk,Wk.d]
 ·have eg := decP_f hg
  have q1 : (w.spathes.1 ≤ 1000) = True := eq_true (by omega)
  have q2 : (w.hours.1 ≤ 1000) = True := eq_true (by omega)
  have q3 : (w.lots.1 ≤ 1000) = True := eq_true (by omega)
  by_cases he : workE l w = 0
  ·simp only [RunTo,a4,sGreat7,sTwin7,dayL,sSlots7,sMost7,sSameLs,sSameDu,sSameWk,sameB_self,wkSame_self,q1,q2,q3,eg,he,hw,↓imp_tt,↓imp_tf,↓imp_ft,↓imp_ff,runO_3,runO_4,runO_5,runO_14,runO_17,runO_18,runO_19,aop,binV,ends,reOk,Nat.zero_sub,ev,fget,fput,params,cellsOf,cellsN,isLB,vget,vset,vsets,vlen,bget,bset,addB,addN,mkv,sliceV,vtab,frz,opOwns,preFz,callFz,skipOp,WfT,resV,res1,norm,norms,norm1,normL,pureB,pureL,onesB,snapV,snapOk,specV,argsL,capsL,mkE_S,mkE_I,lkp,pickV,Fin,vp_bool,Val.toInt,Val.slen,Val.scell,↓reduceIte,reduceCtorEq,Nat.reduceEqDiff,Nat.reduceAdd,Nat.reduceSub,Nat.reduceLT,Nat.zero_add,List.length_cons,List.length_nil,List.append_nil,Bool.and_self,Bool.bne_true,bne_self_eq_false,Bool.not_false,Bool.false_eq_true,beq_self_eq_true,and_true,true_and,and_self,and_assoc,forall_const,imp_self,implies_true,Nat.le_refl,Val.bool.injEq,maxLen,Nat.reducePow,spec1,spec2,TSl,IsSl,RInt,RSl,Prod.eta,Pm.c0,Pm.c1,Pm.c2,Pm.c3,Pm.c4,RPm,Pm.w_c,Pm.d,Pm.eta,Sn.eta,Sp.c0,Sp.c1,Sp.c2,RSp,Sp.w_c,Sp.d,Sp.eta,Lt.c0,Lt.c1,Lt.c2,Lt.c3,RLt,Lt.w_c,Lt.d,Lt.eta,Wk.L,Wk.Is,Wk.of,TWk,Wk.d,Wk.eta,Du.c0,Du.c1,Du.c2,RDu,Du.w_c,Du.d,Du.eta,toUI_val]
   repeat' intro _
   exact ⟨fun _ _ _ => hT,fun h => by rw [hT] at h; cases h⟩
  ·have hz : (workE l w = 0) = False := eq_false he
   simp only [RunTo,a4,sGreat7,sTwin7,dayL,sSlots7,sMost7,sSameLs,sSameDu,sSameWk,sameB_self,wkSame_self,q1,q2,q3,eg,hz,hw,↓imp_tt,↓imp_tf,↓imp_ft,↓imp_ff,runO_3,runO_4,runO_5,runO_14,runO_17,runO_18,runO_19,aop,binV,ends,reOk,Nat.zero_sub,ev,fget,fput,params,cellsOf,cellsN,isLB,vget,vset,vsets,vlen,bget,bset,addB,addN,mkv,sliceV,vtab,frz,opOwns,preFz,callFz,skipOp,WfT,resV,res1,norm,norms,norm1,normL,pureB,pureL,onesB,snapV,snapOk,specV,argsL,capsL,mkE_S,mkE_I,lkp,pickV,Fin,vp_bool,Val.toInt,Val.slen,Val.scell,↓reduceIte,reduceCtorEq,Nat.reduceEqDiff,Nat.reduceAdd,Nat.reduceSub,Nat.reduceLT,Nat.zero_add,List.length_cons,List.length_nil,List.append_nil,Bool.and_self,Bool.bne_true,bne_self_eq_false,Bool.not_false,Bool.false_eq_true,beq_self_eq_true,and_true,true_and,and_self,and_assoc,forall_const,imp_self,implies_true,Nat.le_refl,Val.bool.injEq,maxLen,Nat.reducePow,spec1,spec2,TSl,IsSl,RInt,RSl,Prod.eta,Pm.c0,Pm.c1,Pm.c2,Pm.c3,Pm.c4,RPm,Pm.w_c,Pm.d,Pm.eta,Sn.eta,Sp.c0,Sp.c1,Sp.c2,RSp,Sp.w_c,Sp.d,Sp.eta,Lt.c0,Lt.c1,Lt.c2,Lt.c3,RLt,Lt.w_c,Lt.d,Lt.eta,Wk.L,Wk.Is,Wk.of,TWk,Wk.d,Wk.eta,RDu,Du.d,toUI_val]
   exact ⟨fun i hi => absurd hi (Nat.not_lt_zero _),fun _ => ⟨fun i hi => absurd hi (Nat.not_lt_zero _),hT⟩,fun h => by rw [hT] at h; cases h⟩
end Go.Proofs.Ytlapepdhkomijaa
