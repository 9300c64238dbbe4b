/- Palms, the reference: comparisons. No condition. -/
import Derived.Test.YtlapepdhkomijaaPRef1
set_option linter.unusedSimpArgs false
set_option linter.unusedVariables false
namespace Go.Proofs.Ytlapepdhkomijaa
open Go Go.RowKit
variable {G : Nat → Option (Nat × (Nat → Val))}
noncomputable def sSameI : Spec := spec2 (TSl (RInt .i64)) (TSl (RInt .i64)) (fun _ _ => True) fun a b => .bool (sameB a b)
set_option maxRecDepth 100000 in
theorem pSameI : PureOk Try.prog G 22 sSameI := by
 refine fn2 (S := []) (I := []) mixed .nil .nil Try.func22 c22 fun a b _ hw => ?_
 simp only [vl,WfT,Val.toInt,Val.slen,Val.scell,Nat.reduceSub,and_true,maxLen,Nat.reducePow,TSl,RInt] at hw
 obtain ⟨w1,w2⟩ := hw
 simp only [RunTo,a22,w1,w2,runO_3,runO_4,runO_5,runO_6,runO_14,runO_15,runO_17,runO_18,runO_19,aop,binV,ends,reOk,ev,fget,fput,params,addB,addN,frz,opOwns,preFz,skipOp,WfT,resV,res1,snapV,snapOk,lenV,Fin,vp_bool,Val.toInt,Val.slen,Val.scell,↓reduceIte,reduceCtorEq,Nat.reduceEqDiff,Nat.reduceSub,Nat.zero_add,bne_iff_ne,bne_eq_false_iff_eq,true_and,and_self,forall_const,Val.bool.injEq,ne_eq,maxLen,Nat.reducePow,TSl,RInt]
 refine ⟨fun h => (decP_f fun k => h (by omega)).symm,fun h => ?_⟩
 refine loopI (ι := Nat) (fun j => j ≤ a.1 ∧ ∀ i,i < j → a.2 i = b.2 i) (fun j => a.1 - j) [0,1] (fun j => [(5,.int .i64 j)]) (fun _ => []) 0 ⟨by omega,fun i h => by omega⟩ (by simp only [Chk,chkFr,chkBx,idsLt,kept,vs_int,vs_view,fget,vsubP_self,↓reduceIte,reduceCtorEq,Nat.reduceEqDiff,Int.cast_ofNat_Int,and_self,forall_const,implies_true,keepF,appF,updB]; try rfl) fun j hj => ?_
 obtain ⟨hj1,hj2⟩ := hj
 simp only [w1,runO_3,runO_4,runO_5,runO_6,runO_8,runO_9,runO_14,runO_16,runO_17,runO_18,runO_19,aop,binV,ends,reOk,ev,fget,fput,vget,addB,addN,mkv,frz,opOwns,preFz,skipOp,WfT,resV,res1,casts,castOks,cast1,castOk,snapV,snapOk,lenV,popTo,stkFr,stkNx,Val.toInt,↓reduceIte,reduceCtorEq,Nat.reduceEqDiff,Nat.reduceSub,Nat.zero_add,bne_iff_ne,bne_eq_false_iff_eq,List.length_cons,List.length_nil,true_and,and_self,and_assoc,forall_const,Nat.le_refl,decide_eq_true_eq,decide_eq_false_iff_not,Val.bool.injEq,ne_eq,maxLen,Nat.reducePow,keepF,appF,updB,inat]
 refine ⟨fun hlt => ⟨by omega,by omega,by omega,by omega,fun h1 => (decP_f fun k => ?_).symm,fun h1 => inv_intro (j + 1) ⟨by omega,fun i hi => ?_⟩ (by omega) ?_⟩,fun hge => ?_⟩
 ·exact h1 (k.2 j (by omega))
 ·rcases Nat.lt_or_ge i j with h5 | h5
  ·exact hj2 i h5
  ·obtain rfl : i = j := by omega
   exact h1
 ·simp only [Chk,chkFr,chkBx,idsLt,kept,vs_int,vs_view,fget,vsubP_self,↓reduceIte,reduceCtorEq,Nat.reduceEqDiff,and_true,true_and,and_self,forall_const,implies_true,Val.int.injEq]
  rw [wrS (by omega)]
 ·exact (decP_t ⟨by omega,fun i hi => hj2 i (by omega)⟩).symm
theorem duEq {a b : Du} : (a.spathe == b.spathe && (a.hour == b.hour && a.lot == b.lot)) = true ↔ a = b := by
 obtain ⟨a1,a2,a3⟩ := a; obtain ⟨b1,b2,b3⟩ := b; simp
noncomputable def sSameDu : Spec := spec2 (TSl RDu) (TSl RDu) (fun _ _ => True) fun a b => .bool (sameB a b)
set_option maxRecDepth 100000 in
theorem pSameDu : PureOk Try.prog G 29 sSameDu := by
 refine fn2 (S := []) (I := []) mixed .nil .nil Try.func29 c29 fun a b _ hw => ?_
 simp only [vl,WfT,Val.toInt,Val.slen,Val.scell,Nat.reduceSub,and_true,maxLen,Nat.reducePow,TSl,RDu,Du.d] at hw
 obtain ⟨w1,w2⟩ := hw
 simp only [RunTo,a29,w1,w2,runO_3,runO_4,runO_5,runO_6,runO_14,runO_15,runO_17,runO_18,runO_19,aop,binV,ends,reOk,ev,fget,fput,params,addB,addN,frz,opOwns,preFz,skipOp,WfT,resV,res1,snapV,snapOk,lenV,Fin,vp_bool,Val.toInt,Val.slen,Val.scell,↓reduceIte,reduceCtorEq,Nat.reduceEqDiff,Nat.reduceSub,Nat.zero_add,bne_iff_ne,bne_eq_false_iff_eq,true_and,and_self,forall_const,Val.bool.injEq,ne_eq,maxLen,Nat.reducePow,TSl,RDu,Du.d]
 refine ⟨fun h => (decP_f fun k => h (by omega)).symm,fun h => ?_⟩
 refine loopI (ι := Nat) (fun j => j ≤ a.1 ∧ ∀ i,i < j → a.2 i = b.2 i) (fun j => a.1 - j) [0,1] (fun j => [(5,.int .i64 j)]) (fun _ => []) 0 ⟨by omega,fun i h => by omega⟩ (by simp only [Chk,chkFr,chkBx,idsLt,kept,vs_int,vs_view,fget,vsubP_self,↓reduceIte,reduceCtorEq,Nat.reduceEqDiff,Int.cast_ofNat_Int,and_self,forall_const,implies_true,keepF,appF,updB]; try rfl) fun j hj => ?_
 obtain ⟨hj1,hj2⟩ := hj
 simp only [w1,runO_3,runO_4,runO_5,runO_6,runO_8,runO_9,runO_14,runO_16,runO_17,runO_18,runO_19,aop,binV,ends,reOk,ev,fget,fput,addB,addN,mkv,frz,opOwns,preFz,skipOp,WfT,resV,res1,casts,castOks,cast1,castOk,snapV,snapOk,eqCells,eqOk,lenV,popTo,stkFr,stkNx,Val.toInt,↓reduceIte,reduceCtorEq,Nat.reduceEqDiff,Nat.reduceAdd,Nat.reduceSub,Nat.zero_add,List.length_cons,List.length_nil,Bool.not_eq_true',Bool.not_eq_false',Bool.and_true,true_and,and_self,and_assoc,forall_const,Nat.le_refl,decide_eq_true_eq,decide_eq_false_iff_not,Val.bool.injEq,maxLen,Nat.reducePow,keepF,appF,updB,inat,Du.c0,Du.c1,Du.c2]
 refine ⟨fun hlt => ⟨by omega,by omega,by omega,by omega,fun h1 => (decP_f fun k => ?_).symm,fun h1 => inv_intro (j + 1) ⟨by omega,fun i hi => ?_⟩ (by omega) ?_⟩,fun hge => ?_⟩
 ·rw [k.2 j (by omega)] at h1; simp at h1
 ·rcases Nat.lt_or_ge i j with h5 | h5
  ·exact hj2 i h5
  ·obtain rfl : i = j := by omega
   exact duEq.1 h1
 ·simp only [Chk,chkFr,chkBx,idsLt,kept,vs_int,vs_view,fget,vsubP_self,↓reduceIte,reduceCtorEq,Nat.reduceEqDiff,and_true,true_and,and_self,forall_const,implies_true,Val.int.injEq]
  rw [wrS (by omega)]
 ·exact (decP_t ⟨by omega,fun i hi => hj2 i (by omega)⟩).symm
end Go.Proofs.Ytlapepdhkomijaa
