/- Palms, the reference: Twin, and comparisons of works and lists. No condition. -/
import Derived.Test.YtlapepdhkomijaaPCmp2
import Derived.Test.YtlapepdhkomijaaPOpn
set_option linter.unusedSimpArgs false
set_option linter.unusedVariables false
namespace Go.Proofs.Ytlapepdhkomijaa
open Go Go.RowKit
variable {G : Nat → Option (Nat × (Nat → Val))}
def sTwin7 : Spec := spec1 TWk (fun w => w.spathes.1 ≤ 1000 ∧ w.hours.1 ≤ 1000 ∧ w.lots.1 ≤ 1000) fun w => .agg (dayL w)
set_option maxHeartbeats 4000000 in
set_option maxRecDepth 100000 in
theorem pTwin7 : PureOk Try.prog G 23 sTwin7 := by
 refine fn1 (S := []) (I := []) mixed .nil .nil Try.func23 c23 fun w hp hw => ?_
 simp only [vl,WfT,Val.toInt,Nat.reduceSub,and_true,true_and,and_self,maxLen,Nat.reducePow,RInt,RSp,Sp.d,RLt,Lt.d,Wk.L,TWk] at hw
 simp only [RunTo,a23,dayL,hw,subBox,mkE_N,Bn.n.injEq,runO_3,runO_5,runO_17,runO_18,runO_19,aop,ends,reOk,Nat.zero_sub,ev,fget,fput,params,cellsOf,cellsN,isLB,vget,vset,vsets,vlen,bget,bset,addB,addN,mkv,sliceV,vtab,rowsV,rowsOk,vrep,frz,opOwns,preFz,skipOp,WfT,resV,res1,pureB,onesB,snapV,snapOk,mkE_G,subFr,subV,subBx,subStk,elemsV,Fin,vp_int,vp_cons,vp_agg,vp_view,vsubP_self,Val.toInt,↓reduceIte,reduceCtorEq,Nat.reduceEqDiff,Nat.reduceAdd,Nat.reduceSub,Nat.reduceLeDiff,Nat.reduceLT,Nat.zero_add,Nat.sub_zero,List.length_cons,List.length_nil,List.flatMap_nil,Bool.and_self,and_true,true_and,and_self,forall_const,Nat.le_refl,or_false,maxLen,Nat.reducePow,RInt,RSp,Sp.d,RLt,Lt.d,Wk.L,TWk]
 exact ⟨by omega,by omega,by omega,fun i _ j _ => by rw [if_neg (Nat.not_lt_zero _),vsubP_self]; trivial,fun i _ j _ => if_neg (Nat.not_lt_zero _),fun i _ j _ => by rw [if_neg (Nat.not_lt_zero _),vsubP_self]; trivial⟩
noncomputable def sSameLs : Spec := spec2 (TSl (RSl (RInt .i64))) (TSl (RSl (RInt .i64))) (fun _ _ => True) fun a b => .bool (decP (a.1 = b.1 ∧ ∀ i,i < a.1 → sameB (a.2 i) (b.2 i) = true))
set_option maxHeartbeats 4000000 in
set_option maxRecDepth 100000 in
theorem pSameLs : PureOk Try.prog G 28 sSameLs := by
 refine fn2 (S := [(22,sSameI)]) (I := []) mixed (.cons pSameI .nil) .nil Try.func28 c28 fun a b _ hw => ?_
 simp only [vl,WfT,Val.toInt,Val.slen,Val.scell,Nat.reduceSub,and_true,maxLen,Nat.reducePow,TSl,RInt,RSl] at hw
 simp only [RunTo,a28,sSameI,hw,runO_3,runO_4,runO_5,runO_6,runO_14,runO_15,runO_17,runO_18,runO_19,aop,binV,ends,reOk,ev,fget,fput,params,addB,addN,frz,opOwns,preFz,skipOp,WfT,resV,res1,snapV,snapOk,lenV,Fin,vp_bool,Val.toInt,Val.slen,Val.scell,↓reduceIte,reduceCtorEq,Nat.reduceEqDiff,Nat.reduceSub,Nat.zero_add,bne_iff_ne,bne_eq_false_iff_eq,and_true,true_and,and_self,forall_const,Val.bool.injEq,ne_eq,maxLen,Nat.reducePow,spec2,TSl,IsSl,RInt,RSl]
 refine ⟨fun h => (decP_f fun k => h (by omega)).symm,fun h => ?_⟩
 refine loopI (ι := Nat) (fun j => j ≤ a.1 ∧ ∀ i,i < j → sameB (a.2 i) (b.2 i) = true) (fun j => a.1 - j) [0,1] (fun j => [(5,.int .i64 j)]) (fun _ => []) 0 ⟨by omega,fun i h => by omega⟩ (by simp only [Chk,chkFr,chkBx,idsLt,kept,vs_int,vs_view,fget,vsubP_self,↓reduceIte,reduceCtorEq,Nat.reduceEqDiff,Int.cast_ofNat_Int,and_self,forall_const,implies_true,keepF,appF,updB]; try rfl) fun j hj => ?_
 obtain ⟨hj1,hj2⟩ := hj
 simp only [hw,runO_3,runO_4,runO_5,runO_6,runO_8,runO_9,runO_14,runO_16,runO_17,runO_18,runO_19,aop,binV,ends,reOk,ev,fget,fput,isLB,vget,addB,addN,mkv,frz,opOwns,preFz,callFz,skipOp,WfT,resV,res1,casts,castOks,cast1,castOk,norm,norm1,normL,pureB,pureL,snapV,snapOk,specV,argsL,capsL,mkE_S,mkE_I,lkp,lenV,popTo,stkFr,stkNx,Val.slen,Val.scell,↓reduceIte,reduceCtorEq,Nat.reduceEqDiff,Nat.reduceSub,Nat.zero_add,List.length_cons,List.length_nil,List.append_nil,Bool.not_eq_true',Bool.not_eq_false',Bool.and_self,true_and,and_self,and_assoc,forall_const,implies_true,Nat.le_refl,decide_eq_true_eq,decide_eq_false_iff_not,Val.bool.injEq,or_true,maxLen,Nat.reducePow,keepF,appF,updB,inat,Prod.eta]
 refine ⟨fun hlt => ⟨by omega,by omega,by omega,by omega,fun h1 => (decP_f fun k => ?_).symm,fun h1 => inv_intro (j + 1) ⟨by omega,fun i hi => ?_⟩ (by omega) ?_⟩,fun hge => ?_⟩
 ·have := k.2 j (by omega); rw [h1] at this; cases this
 ·rcases Nat.lt_or_ge i j with h5 | h5
  ·exact hj2 i h5
  ·obtain rfl : i = j := by omega
   exact h1
 ·simp only [Chk,chkFr,chkBx,idsLt,kept,vs_int,vs_view,fget,vsubP_self,↓reduceIte,reduceCtorEq,Nat.reduceEqDiff,and_true,true_and,and_self,forall_const,implies_true,Val.int.injEq]
  rw [wrS (by omega)]
 ·exact (decP_t ⟨by omega,fun i hi => hj2 i (by omega)⟩).symm
theorem spEq {a b : Sp} : (a.palm == b.palm && (a.cracks.lo == b.cracks.lo && a.cracks.hi == b.cracks.hi)) = true ↔ a = b := by
 obtain ⟨a1,⟨a2,a3⟩⟩ := a; obtain ⟨b1,⟨b2,b3⟩⟩ := b; simp
theorem ltEq {a b : Lt} : (a.palm == b.palm && (a.units == b.units && (a.fro == b.fro && a.til == b.til))) = true ↔ a = b := by
 obtain ⟨a1,a2,a3,a4⟩ := a; obtain ⟨b1,b2,b3,b4⟩ := b; simp
def wkSame (a b : Wk) : Prop := a.day = b.day ∧ a.opn = b.opn ∧ sameB a.spathes b.spathes = true ∧ sameB a.hours b.hours = true ∧ sameB a.lots b.lots = true
noncomputable def sSameWk : Spec := spec2 TWk TWk (fun _ _ => True) fun a b => .bool (decP (wkSame a b))
set_option maxHeartbeats 4000000 in
set_option maxRecDepth 100000 in
theorem pSameWk : PureOk Try.prog G 30 sSameWk := by
 refine fn2 (S := [(22,sSameI)]) (I := []) mixed (.cons pSameI .nil) .nil Try.func30 c30 fun a b _ hw => ?_
 simp only [vl,WfT,Val.toInt,Nat.reduceSub,and_true,true_and,and_self,and_assoc,maxLen,Nat.reducePow,RInt,RSp,Sp.d,RLt,Lt.d,Wk.L,TWk] at hw
 simp only [RunTo,a30,sSameI,hw,↓imp_tt,↓imp_tf,runO_3,runO_4,runO_5,runO_6,runO_14,runO_15,runO_17,runO_18,runO_19,aop,binV,ends,reOk,Nat.zero_sub,ev,fget,fput,params,cellsOf,cellsN,isLB,vget,vlen,bget,addB,addN,mkv,sliceV,vtab,frz,opOwns,preFz,callFz,skipOp,WfT,resV,res1,norm,norm1,normL,pureB,pureL,snapV,snapOk,specV,argsL,capsL,mkE_S,mkE_I,lkp,pickV,lenV,Fin,vp_bool,Val.toInt,Val.slen,Val.scell,↓reduceIte,reduceCtorEq,Nat.reduceEqDiff,Nat.reduceAdd,Nat.reduceSub,Nat.reduceLeDiff,Nat.zero_add,Nat.add_zero,bne_iff_ne,bne_eq_false_iff_eq,List.length_cons,List.length_nil,List.append_nil,Bool.not_eq_true',Bool.not_eq_false',Bool.and_self,Bool.bne_false,bne_self_eq_false,and_true,true_and,and_self,forall_const,implies_true,Nat.le_refl,Val.bool.injEq,ne_eq,maxLen,Nat.reducePow,spec2,TSl,IsSl,RInt,Prod.eta,RSp,Sp.d,RLt,Lt.d,Wk.L,TWk]
 have hno : ¬ wkSame a b → false = decP (wkSame a b) := fun h => (decP_f h).symm
 refine ⟨fun h => hno fun k => h k.1,fun h1 => ⟨fun h => hno fun k => h k.2.1,fun h2 => ⟨fun h => hno fun k => h (by have := (decP_true.1 k.2.2.1).1; omega),fun h3 => ⟨fun h => hno fun k => h (by have := (decP_true.1 k.2.2.2.2).1; omega),fun h4 => ⟨fun h => hno fun k => (by have := k.2.2.2.1; rw [h] at this; cases this),fun h5 => ?_⟩⟩⟩⟩⟩
 refine loopI (ι := Nat) (fun j => j ≤ a.spathes.1 ∧ ∀ i,i < j → a.spathes.2 i = b.spathes.2 i) (fun j => a.spathes.1 - j) [2,3] (fun j => [(5,.int .i64 j)]) (fun _ => []) 0 ⟨by omega,fun i h => by omega⟩ (by simp only [Chk,chkFr,chkBx,chkBx1,hasB,idsLt,kept,vs_int,vs_nil,vs_ptr,vs_cons,vs_view,fget,isLB,bget,vsubP_self,↓reduceIte,reduceCtorEq,Nat.reduceEqDiff,Nat.reduceLT,Int.cast_ofNat_Int,and_self,forall_const,implies_true,Option.some.injEq,exists_eq',keepF,appF,updB]; try rfl) fun j hj => ?_
 obtain ⟨hj1,hj2⟩ := hj
 simp only [hw,runO_3,runO_4,runO_5,runO_6,runO_8,runO_9,runO_14,runO_15,runO_16,runO_17,runO_18,runO_19,aop,binV,ends,reOk,ev,fget,fput,vget,vlen,bget,addB,addN,mkv,sliceV,vtab,frz,opOwns,preFz,skipOp,WfT,resV,res1,casts,castOks,cast1,castOk,snapV,snapOk,eqCells,eqOk,lenV,popTo,stkFr,stkNx,Val.toInt,↓reduceIte,reduceCtorEq,Nat.reduceEqDiff,Nat.reduceAdd,Nat.reduceSub,Nat.reduceLeDiff,Nat.zero_add,List.length_cons,List.length_nil,Bool.not_eq_true',Bool.not_eq_false',Bool.and_true,true_and,and_self,and_assoc,forall_const,Nat.le_refl,decide_eq_true_eq,decide_eq_false_iff_not,Val.bool.injEq,maxLen,Nat.reducePow,keepF,appF,updB,inat,Sp.c0,Sp.c1,Sp.c2]
 refine ⟨fun hlt => ⟨by omega,by omega,by omega,by omega,fun h1 => (decP_f fun k => ?_).symm,fun h1 => inv_intro (j + 1) ⟨by omega,fun i hi => ?_⟩ (by omega) ?_⟩,fun hge => ?_⟩
 ·have := (decP_true.1 k.2.2.1).2 j (by omega); rw [this] at h1; simp at h1
 ·rcases Nat.lt_or_ge i j with h5 | h5
  ·exact hj2 i h5
  ·obtain rfl : i = j := by omega
   exact spEq.1 h1
 ·simp only [Chk,chkFr,chkBx,chkBx1,hasB,idsLt,kept,vs_int,vs_nil,vs_ptr,vs_cons,vs_view,fget,isLB,bget,vsubP_self,↓reduceIte,reduceCtorEq,Nat.reduceEqDiff,Nat.reduceLT,and_true,true_and,and_self,forall_const,implies_true,Option.some.injEq,Val.int.injEq,exists_eq']
  rw [wrS (by omega)]
 ·have hsp : sameB a.spathes b.spathes = true := decP_t ⟨by omega,fun i hi => hj2 i (by omega)⟩
  refine loopI (ι := Nat) (fun j => j ≤ a.lots.1 ∧ ∀ i,i < j → a.lots.2 i = b.lots.2 i) (fun j => a.lots.1 - j) [2,3] (fun j => [(6,.int .i64 j)]) (fun _ => []) 0 ⟨by omega,fun i h => by omega⟩ (by simp only [Chk,chkFr,chkBx,chkBx1,hasB,idsLt,kept,vs_int,vs_nil,vs_ptr,vs_cons,vs_view,fget,isLB,bget,vsubP_self,↓reduceIte,reduceCtorEq,Nat.reduceEqDiff,Nat.reduceLT,Int.cast_ofNat_Int,and_self,forall_const,implies_true,Option.some.injEq,exists_eq',keepF,appF,updB]; try rfl) fun j hj => ?_
  obtain ⟨hj1,hj2⟩ := hj
  simp only [hw,runO_3,runO_4,runO_5,runO_6,runO_8,runO_9,runO_14,runO_16,runO_17,runO_18,runO_19,aop,binV,ends,reOk,ev,fget,fput,vget,vlen,bget,addB,addN,mkv,sliceV,vtab,frz,opOwns,preFz,skipOp,WfT,resV,res1,casts,castOks,cast1,castOk,snapV,snapOk,eqCells,eqOk,lenV,popTo,stkFr,stkNx,Val.toInt,↓reduceIte,reduceCtorEq,Nat.reduceEqDiff,Nat.reduceAdd,Nat.reduceSub,Nat.reduceLeDiff,Nat.zero_add,List.length_cons,List.length_nil,Bool.not_eq_true',Bool.not_eq_false',Bool.and_true,true_and,and_self,and_assoc,forall_const,Nat.le_refl,decide_eq_true_eq,decide_eq_false_iff_not,Val.bool.injEq,maxLen,Nat.reducePow,keepF,appF,updB,inat,Lt.c0,Lt.c1,Lt.c2,Lt.c3]
  refine ⟨fun hlt => ⟨by omega,by omega,by omega,by omega,fun h1 => (decP_f fun k => ?_).symm,fun h1 => inv_intro (j + 1) ⟨by omega,fun i hi => ?_⟩ (by omega) ?_⟩,fun hge => ?_⟩
  ·have := (decP_true.1 k.2.2.2.2).2 j (by omega); rw [this] at h1; simp at h1
  ·rcases Nat.lt_or_ge i j with h5 | h5
   ·exact hj2 i h5
   ·obtain rfl : i = j := by omega
    exact ltEq.1 h1
  ·simp only [Chk,chkFr,chkBx,chkBx1,hasB,idsLt,kept,vs_int,vs_nil,vs_ptr,vs_cons,vs_view,fget,isLB,bget,vsubP_self,↓reduceIte,reduceCtorEq,Nat.reduceEqDiff,Nat.reduceLT,and_true,true_and,and_self,forall_const,implies_true,Option.some.injEq,Val.int.injEq,exists_eq']
   rw [wrS (by omega)]
  ·exact (decP_t ⟨h1,h2,hsp,h5,decP_t ⟨by omega,fun i hi => hj2 i (by omega)⟩⟩).symm
end Go.Proofs.Ytlapepdhkomijaa
