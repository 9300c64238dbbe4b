/- Palms, the reference: within, At, Check. No condition. -/
import Derived.Test.YtlapepdhkomijaaPRpu
import Derived.Test.YtlapepdhkomijaaPVal
set_option linter.unusedSimpArgs false
set_option linter.unusedVariables false
namespace Go.Proofs.Ytlapepdhkomijaa
open Go Go.RowKit
variable {G : Nat → Option (Nat × (Nat → Val))}
def sIn : Spec := spec3 TI TI TI (fun _ _ _ => True) fun n lo hi => .bool (decide (lo ≤ n ∧ n ≤ hi))
set_option maxRecDepth 100000 in
theorem pWithin7 : PureOk Try.prog G 52 sIn := by
 refine fn3 (S := []) (I := []) mixed .nil .nil Try.func52 c52 fun n lo hi _ _ => ?_
 simp only [RunTo,a52,runO_3,runO_5,runO_17,runO_18,runO_19,aop,binV,ends,reOk,Nat.zero_sub,ev,fget,fput,params,addB,addN,frz,opOwns,preFz,skipOp,WfT,resV,res1,snapV,snapOk,pickV,Fin,vp_bool,↓reduceIte,reduceCtorEq,Nat.reduceEqDiff,Nat.reduceAdd,Nat.zero_add,Bool.bne_true,bne_self_eq_false,Bool.not_false,true_and,and_self,forall_const,decide_eq_true_eq,decide_eq_false_iff_not,Val.bool.injEq,TInt]
 refine ⟨fun h => ?_,fun h => ?_⟩ <;> simp <;> omega
noncomputable def sAt : Spec := spec2 (TSl RPm) TI (fun _ _ => True) fun l id => .int .i64 (atF l id)
set_option maxRecDepth 100000 in
theorem pAt : PureOk Try.prog G 44 sAt := by
 refine fn2 (S := []) (I := []) mixed .nil .nil Try.func44 c44 fun l id _ hw => ?_
 simp only [vl,WfT,Val.toInt,Val.slen,Val.scell,Nat.reduceSub,and_true,and_self,maxLen,Nat.reducePow,TSl,TInt,RPm,Pm.d] at hw
 simp only [RunTo,a44,runO_5,runO_6,runO_15,runO_17,runO_18,runO_19,aop,reOk,ev,fput,params,addB,addN,frz,opOwns,preFz,skipOp,WfT,Fin,vp_int,Val.toInt,Val.slen,Val.scell,Nat.zero_add,Int.reduceNeg,true_and,forall_const,TSl,TInt,RPm,Pm.d]
 refine loopI (ι := Nat) (fun j => j ≤ l.1 ∧ ∀ i,i < j → (l.2 i).id ≠ id) (fun j => l.1 - j) [0,1] (fun j => [(5,.int .i64 j)]) (fun _ => []) 0 ⟨by omega,fun i h => by omega⟩ (by simp only [Chk,chkFr,chkBx,idsLt,kept,vs_int,vs_view,fget,vsubP_self,↓reduceIte,reduceCtorEq,Nat.reduceEqDiff,Int.cast_ofNat_Int,and_self,forall_const,implies_true,keepF,appF,updB]; try rfl) fun j hj => ?_
 obtain ⟨hj1,hj2⟩ := hj
 simp only [hw,runO_3,runO_4,runO_5,runO_6,runO_8,runO_9,runO_14,runO_16,runO_17,runO_18,runO_19,aop,binV,ends,reOk,ev,fget,fput,vget,addB,addN,mkv,frz,opOwns,preFz,skipOp,WfT,resV,res1,casts,castOks,cast1,castOk,snapV,snapOk,lenV,popTo,stkFr,stkNx,Val.toInt,↓reduceIte,reduceCtorEq,Nat.reduceEqDiff,Nat.reduceSub,Nat.reduceLeDiff,Nat.zero_add,Nat.sub_zero,Int.reduceNeg,beq_iff_eq,beq_eq_false_iff_ne,List.length_cons,List.length_nil,true_and,and_self,and_assoc,forall_const,decide_eq_true_eq,decide_eq_false_iff_not,Val.int.injEq,ne_eq,maxLen,Nat.reducePow,keepF,appF,updB,inat,Pm.c0]
 refine ⟨fun hlt => ⟨by omega,by omega,fun h1 => ?_,fun h1 => inv_intro (j + 1) ⟨by omega,fun i hi => ?_⟩ (by omega) ?_⟩,fun hge => ?_⟩
 ·unfold atF hitN; rw [fstI_at (by omega) h1 hj2,if_pos (by omega)]
 ·rcases Nat.lt_or_ge i j with h5 | h5
  ·exact hj2 i h5
  ·obtain rfl : i = j := by omega
   exact h1
 ·simp only [Chk,chkFr,chkBx,idsLt,kept,vs_int,vs_view,fget,vsubP_self,↓reduceIte,reduceCtorEq,Nat.reduceEqDiff,and_true,true_and,and_self,forall_const,implies_true,Val.int.injEq]
  rw [wrS (by omega)]
 ·unfold atF hitN; rw [fstI_no (fun k hk => hj2 k (by omega)),if_neg (Nat.lt_irrefl _)]
noncomputable def sCheck7 : Spec := spec1 (TSl RPm) (fun _ => True) fun l => .int .i64 (pmE l)
set_option maxRecDepth 100000 in
theorem pCheck7 : PureOk Try.prog G 20 sCheck7 := by
  refine fn1 (S := [(52,sIn),(44,sAt)]) (I := []) mixed (.cons pWithin7 (.cons pAt .nil)) .nil Try.func20 c20 fun l _ hw => ?_
  simp only [vl,WfT,Val.toInt,Val.slen,Val.scell,Nat.reduceSub,and_true,maxLen,Nat.reducePow,TSl,RPm,Pm.d] at hw
  simp only [RunTo,a20,sIn,sAt,hw,runO_3,runO_4,runO_5,runO_6,runO_14,runO_15,runO_17,runO_18,runO_19,aop,binV,ends,reOk,ev,fget,fput,params,addB,addN,frz,opOwns,preFz,skipOp,WfT,resV,res1,snapV,snapOk,lenV,Fin,vp_int,Val.toInt,Val.slen,Val.scell,↓reduceIte,reduceCtorEq,Nat.reduceSub,Int.reduceNeg,and_true,true_and,and_self,forall_const,decide_eq_true_eq,decide_eq_false_iff_not,Val.int.injEq,maxLen,Nat.reducePow,spec2,spec3,TSl,IsSl,TInt,IsInt,RPm,Pm.d]
  refine ⟨fun h => (pmE_no fun k => by have := k.n; omega).symm,fun h24 => ?_⟩
  have hall := pm_all (l := l) (by omega)
  have hno : ∀ j,j < l.1 → ¬ PmAt l j → (70 : Int) = pmE l := fun j hj hn => (pmE_no fun k => hn (hall.1 k j hj)).symm
  refine loopI (ι := Nat) (fun j => j ≤ l.1 ∧ ∀ i,i < j → PmAt l i) (fun j => l.1 - j) [0] (fun j => [(3,.int .i64 j)]) (fun _ => []) 0 ⟨by omega,fun i h => by omega⟩ (by simp only [Chk,chkFr,chkBx,idsLt,kept,vs_int,vs_view,fget,vsubP_self,↓reduceIte,reduceCtorEq,Int.cast_ofNat_Int,and_self,forall_const,implies_true,keepF,appF,updB]; try rfl) fun j hj => ?_
  obtain ⟨hj1,hj2⟩ := hj
  have e1 : IntKind.i64.wrap ((j : Int) - 1) = (j : Int) - 1 := wr64 (by omega) (by omega)
  have e2 : ((j : Int) - 1).toNat = j - 1 := by omega
  by_cases hm : hitN l (l.2 j).mother < l.1
  · have ea := atF_pos hm
    simp only [e1,e2,ea,hw,↓imp_tt,↓imp_tf,↓imp_ft,↓imp_ff,runO_3,runO_4,runO_5,runO_6,runO_8,runO_9,runO_14,runO_16,runO_17,runO_18,runO_19,aop,binV,ends,reOk,Nat.zero_sub,ev,fget,fput,cellsOf,cellsN,isLB,vget,vset,vsets,vlen,bget,bset,addB,addN,mkv,sliceV,vtab,frz,opOwns,preFz,callFz,skipOp,WfT,resV,res1,casts,castOks,cast1,castOk,norm,norm1,normL,pureB,pureL,onesB,snapV,snapOk,specV,argsL,capsL,mkE_S,mkE_I,lkp,pickV,lenV,popTo,stkFr,stkNx,Val.toInt,↓reduceIte,reduceCtorEq,Nat.reduceEqDiff,Nat.reduceAdd,Nat.reduceSub,Nat.reduceLeDiff,Nat.zero_add,Nat.add_zero,Nat.sub_zero,Int.reduceNeg,beq_iff_eq,beq_eq_false_iff_ne,List.length_cons,List.length_nil,List.append_nil,Bool.not_eq_true',Bool.not_eq_false',Bool.and_self,Bool.bne_true,Bool.bne_false,bne_self_eq_false,Bool.not_false,and_true,true_and,and_self,and_assoc,forall_const,implies_true,Nat.le_refl,decide_eq_true_eq,decide_eq_false_iff_not,Val.int.injEq,ne_eq,maxLen,Nat.reducePow,keepF,appF,updB,inat,Prod.eta,Pm.c0,Pm.c1,Pm.c2,Pm.c3,Pm.c4,Pm.w_c,Pm.eta,toUI_val]
    repeat' (first | omega | (with_reducible apply And.intro) | intro _)
    all_goals first
      | exact (pmE_ok (hall.2 fun i hi => hj2 i (by omega))).symm
      | (refine hno j (by omega) fun k => ?_
         obtain ⟨k1,k2,k3,k4,k5,k6⟩ := k
         try have k2 := k2 (by omega)
         omega)
      | (refine inv_intro (j + 1) ⟨by omega,fun i hi => ?_⟩ (by omega) ?_
         · rcases Nat.lt_or_ge i j with h5 | h5
           · exact hj2 i h5
           · obtain rfl : i = j := by omega
             exact ⟨by omega,fun _ => by omega,by omega,by omega,by omega,by first | (left; omega) | (right; exact ⟨hm,by omega⟩)⟩
         · simp only [Chk,chkFr,chkBx,idsLt,kept,vs_int,vs_view,Nat.lt_irrefl,fget,bget,vsubP_self,↓reduceIte,reduceCtorEq,and_true,true_and,and_self,forall_const,implies_true,Val.int.injEq,false_implies]
           rw [wrS (by omega)])
  · have ea : (atF l (l.2 j).mother < 0) = True := eq_true (atF_neg.2 hm)
    simp only [e1,e2,ea,hw,↓imp_tt,↓imp_tf,↓imp_ft,↓imp_ff,runO_3,runO_4,runO_5,runO_6,runO_9,runO_14,runO_16,runO_17,runO_18,runO_19,aop,binV,ends,reOk,Nat.zero_sub,ev,fget,fput,cellsOf,cellsN,isLB,vget,vset,vsets,vlen,bget,bset,addB,addN,mkv,sliceV,vtab,frz,opOwns,preFz,callFz,skipOp,WfT,resV,res1,casts,castOks,cast1,castOk,norm,norm1,normL,pureB,pureL,onesB,snapV,snapOk,specV,argsL,capsL,mkE_S,mkE_I,lkp,pickV,lenV,popTo,stkFr,stkNx,Val.toInt,↓reduceIte,reduceCtorEq,Nat.reduceEqDiff,Nat.reduceAdd,Nat.reduceSub,Nat.reduceLeDiff,Nat.zero_add,Nat.add_zero,Nat.sub_zero,Int.reduceNeg,decide_true,beq_iff_eq,beq_eq_false_iff_ne,List.length_cons,List.length_nil,List.append_nil,Bool.not_eq_true',Bool.not_eq_false',Bool.and_self,Bool.bne_true,Bool.bne_false,bne_self_eq_false,Bool.not_false,and_true,true_and,and_self,and_assoc,forall_const,implies_true,Nat.le_refl,decide_eq_true_eq,decide_eq_false_iff_not,Val.int.injEq,ne_eq,maxLen,Nat.reducePow,keepF,appF,updB,inat,Prod.eta,Pm.c0,Pm.c1,Pm.c2,Pm.c3,Pm.c4,Pm.w_c,Pm.eta,toUI_val]
    repeat' (first | omega | (with_reducible apply And.intro) | intro _)
    all_goals first
      | exact (pmE_ok (hall.2 fun i hi => hj2 i (by omega))).symm
      | (refine hno j (by omega) fun k => ?_
         obtain ⟨k1,k2,k3,k4,k5,k6⟩ := k
         try have k2 := k2 (by omega)
         omega)
      | (refine inv_intro (j + 1) ⟨by omega,fun i hi => ?_⟩ (by omega) ?_
         · rcases Nat.lt_or_ge i j with h5 | h5
           · exact hj2 i h5
           · obtain rfl : i = j := by omega
             exact ⟨by omega,fun _ => by omega,by omega,by omega,by omega,by first | (left; omega) | (right; exact ⟨hm,by omega⟩)⟩
         · simp only [Chk,chkFr,chkBx,idsLt,kept,vs_int,vs_view,Nat.lt_irrefl,fget,bget,vsubP_self,↓reduceIte,reduceCtorEq,and_true,true_and,and_self,forall_const,implies_true,Val.int.injEq,false_implies]
           rw [wrS (by omega)])
end Go.Proofs.Ytlapepdhkomijaa
