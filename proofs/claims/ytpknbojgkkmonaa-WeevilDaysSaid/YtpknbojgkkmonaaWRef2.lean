/- Groves, the reference: which palms, groves and signs are valid. No condition. -/
import Derived.Test.YtpknbojgkkmonaaWRef1
set_option linter.unusedSimpArgs false
set_option linter.unusedVariables false
namespace Go.Proofs.Ytpknbojgkkmonaa
open Go Go.RowKit
variable {G : Nat → Option (Nat × (Nat → Val))}
noncomputable def pmE (l : Pms) : Int := @ite _ (PmsOk l) (Classical.propDecidable _) 0 70
theorem pmE_ok {l : Pms} (h : PmsOk l) : pmE l = 0 := @if_pos _ (Classical.propDecidable _) h _ _ _
theorem pmE_no {l : Pms} (h : ¬ PmsOk l) : pmE l = 70 := @if_neg _ (Classical.propDecidable _) h _ _ _
theorem pmE_0 {l : Pms} (h : pmE l = 0) : PmsOk l := by
  by_cases h2 : PmsOk l
  · exact h2
  · rw [pmE_no h2] at h; cases h
def PmAt (l : Pms) (i : Nat) : Prop := (0 ≤ (l.2 i).id ∧ (l.2 i).id ≤ 9999) ∧ (0 < i → (l.2 (i - 1)).id < (l.2 i).id) ∧ (0 ≤ (l.2 i).planted ∧ (l.2 i).planted ≤ 100000) ∧ (l.2 i).sex.1 ≤ 2 ∧ (0 ≤ (l.2 i).sort ∧ (l.2 i).sort ≤ 99) ∧
  ((l.2 i).mother = -1 ∨ (hitN l (l.2 i).mother < l.1 ∧ IntKind.i64.wrap ((l.2 (hitN l (l.2 i).mother)).planted + 1000) ≤ (l.2 i).planted))
theorem pm_all {l : Pms} (h : l.1 ≤ 24) : PmsOk l ↔ ∀ i,i < l.1 → PmAt l i := by
  have wr : ∀ i,i < l.1 → 0 ≤ (l.2 i).planted → (l.2 i).planted ≤ 100000 → IntKind.i64.wrap ((l.2 i).planted + 1000) = (l.2 i).planted + 1000 := fun i _ h1 h2 => wr64 (by omega) (by omega)
  constructor
  · intro k i hi
    refine ⟨k.id i hi,k.up i hi,k.pl i hi,k.sex i hi,k.sort i hi,?_⟩
    rcases k.mo i hi with h1 | ⟨h1,h2⟩
    · exact .inl h1
    · have := k.pl _ h1
      exact .inr ⟨h1,by rw [wr _ h1 this.1 this.2]; exact h2⟩
  · intro k
    refine ⟨h,fun i hi => (k i hi).1,fun i hi => (k i hi).2.1,fun i hi => (k i hi).2.2.1,fun i hi => (k i hi).2.2.2.1,fun i hi => (k i hi).2.2.2.2.1,fun i hi => ?_⟩
    rcases (k i hi).2.2.2.2.2 with h1 | ⟨h1,h2⟩
    · exact .inl h1
    · have := (k _ h1).2.2.1
      exact .inr ⟨h1,by rw [wr _ h1 this.1 this.2] at h2; exact h2⟩
theorem atF_neg {l : Pms} {id : Int} : atF l id < 0 ↔ ¬ hitN l id < l.1 := by unfold atF; split <;> omega
theorem atF_pos {l : Pms} {id : Int} (h : hitN l id < l.1) : atF l id = (hitN l id : Int) := if_pos h
noncomputable def sCheck7 : Spec := spec1 (TSl RPm) (fun _ => True) fun l => .int .i64 (pmE l)
set_option maxRecDepth 100000 in
theorem pCheck7 : PureOk Try.prog G 56 sCheck7 := by
  refine fn1 (S := [(80,sIn),(36,sAt)]) (I := []) mixed (.cons pWithin7 (.cons pAt .nil)) .nil Try.func56 c56 fun l _ hw => ?_
  simp only [vl,WfT,Val.toInt,Val.slen,Val.scell,Nat.reduceSub,and_true,maxLen,Nat.reducePow,TSl,RPm,Pm.d] at hw
  simp only [RunTo,a56,sIn,sAt,hw,runO_3,runO_4,runO_5,runO_6,runO_14,runO_15,runO_17,runO_18,runO_19,aop,binV,ends,ev,fget,fput,params,addB,addN,frz,opOwns,preFz,skipOp,WfT,resV,res1,snapV,snapOk,lenV,Fin,vp_int,Val.toInt,Val.slen,Val.scell,↓reduceIte,reduceCtorEq,Nat.reduceSub,Int.reduceNeg,and_true,true_and,and_self,forall_const,decide_eq_true_eq,decide_eq_false_iff_not,Val.int.injEq,maxLen,Nat.reducePow,spec2,spec3,TSl,IsSl,TInt,IsInt,RPm,Pm.d]
  refine ⟨fun h => (pmE_no fun k => by have := k.n; omega).symm,fun h24 => ?_⟩
  have hall := pm_all (l := l) (by omega)
  have hno : ∀ j,j < l.1 → ¬ PmAt l j → (70 : Int) = pmE l := fun j hj hn => (pmE_no fun k => hn (hall.1 k j hj)).symm
  refine loopI (ι := Nat) (fun j => j ≤ l.1 ∧ ∀ i,i < j → PmAt l i) (fun j => l.1 - j) [0] (fun j => [(3,.int .i64 j)]) (fun _ => []) 0 ⟨by omega,fun i h => by omega⟩ (by simp only [Chk,chkFr,chkBx,idsLt,kept,vs_int,vs_view,fget,vsubP_self,↓reduceIte,reduceCtorEq,Int.cast_ofNat_Int,and_self,forall_const,implies_true,keepF,appF,updB]; try rfl) fun j hj => ?_
  obtain ⟨hj1,hj2⟩ := hj
  have e1 : IntKind.i64.wrap ((j : Int) - 1) = (j : Int) - 1 := wr64 (by omega) (by omega)
  have e2 : ((j : Int) - 1).toNat = j - 1 := by omega
  by_cases hm : hitN l (l.2 j).mother < l.1
  · have ea := atF_pos hm
    simp only [e1,e2,ea,hw,↓imp_tt,↓imp_tf,↓imp_ft,↓imp_ff,runO_3,runO_4,runO_5,runO_6,runO_8,runO_9,runO_14,runO_16,runO_17,runO_18,runO_19,aop,binV,ends,reOk,Nat.zero_sub,ev,fget,fput,cellsOf,cellsN,isLB,vget,vset,vsets,vlen,bget,bset,addB,addN,mkv,sliceV,vtab,frz,opOwns,preFz,callFz,skipOp,WfT,resV,res1,casts,castOks,cast1,castOk,norm,norm1,normL,pureB,pureL,onesB,snapV,snapOk,specV,argsL,capsL,mkE_S,mkE_I,lkp,pickV,lenV,popTo,stkFr,stkNx,Val.toInt,↓reduceIte,reduceCtorEq,Nat.reduceEqDiff,Nat.reduceAdd,Nat.reduceSub,Nat.reduceLeDiff,Nat.zero_add,Nat.add_zero,Nat.sub_zero,Int.reduceNeg,beq_iff_eq,beq_eq_false_iff_ne,List.length_cons,List.length_nil,List.append_nil,Bool.not_eq_true',Bool.not_eq_false',Bool.and_self,Bool.bne_true,Bool.bne_false,bne_self_eq_false,Bool.not_false,and_true,true_and,and_self,and_assoc,forall_const,implies_true,Nat.le_refl,decide_eq_true_eq,decide_eq_false_iff_not,Val.int.injEq,ne_eq,maxLen,Nat.reducePow,keepF,appF,updB,inat,Prod.eta,Pm.c0,Pm.c1,Pm.c2,Pm.c3,Pm.c4,Pm.w_c,Pm.eta,toUI_val]
    repeat' (first | omega | (with_reducible apply And.intro) | intro _)
    all_goals first
      | exact (pmE_ok (hall.2 fun i hi => hj2 i (by omega))).symm
      | (refine hno j (by omega) fun k => ?_
         obtain ⟨k1,k2,k3,k4,k5,k6⟩ := k
         try have k2 := k2 (by omega)
         omega)
      | (refine inv_intro (j + 1) ⟨by omega,fun i hi => ?_⟩ (by omega) ?_
         · rcases Nat.lt_or_ge i j with h5 | h5
           · exact hj2 i h5
           · obtain rfl : i = j := by omega
             exact ⟨by omega,fun _ => by omega,by omega,by omega,by omega,by first | (left; omega) | (right; exact ⟨hm,by omega⟩)⟩
         · simp only [Chk,chkFr,chkBx,idsLt,kept,vs_int,vs_view,Nat.lt_irrefl,fget,bget,vsubP_self,↓reduceIte,reduceCtorEq,and_true,true_and,and_self,forall_const,implies_true,Val.int.injEq,false_implies]
           rw [wrS (by omega)])
  · have ea : (atF l (l.2 j).mother < 0) = True := eq_true (atF_neg.2 hm)
    simp only [e1,e2,ea,hw,↓imp_tt,↓imp_tf,↓imp_ft,↓imp_ff,runO_3,runO_4,runO_5,runO_6,runO_9,runO_14,runO_16,runO_17,runO_18,runO_19,aop,binV,ends,reOk,Nat.zero_sub,ev,fget,fput,cellsOf,cellsN,isLB,vget,vset,vsets,vlen,bget,bset,addB,addN,mkv,sliceV,vtab,frz,opOwns,preFz,callFz,skipOp,WfT,resV,res1,casts,castOks,cast1,castOk,norm,norm1,normL,pureB,pureL,onesB,snapV,snapOk,specV,argsL,capsL,mkE_S,mkE_I,lkp,pickV,lenV,popTo,stkFr,stkNx,Val.toInt,↓reduceIte,reduceCtorEq,Nat.reduceEqDiff,Nat.reduceAdd,Nat.reduceSub,Nat.reduceLeDiff,Nat.zero_add,Nat.add_zero,Nat.sub_zero,Int.reduceNeg,decide_true,beq_iff_eq,beq_eq_false_iff_ne,List.length_cons,List.length_nil,List.append_nil,Bool.not_eq_true',Bool.not_eq_false',Bool.and_self,Bool.bne_true,Bool.bne_false,bne_self_eq_false,Bool.not_false,and_true,true_and,and_self,and_assoc,forall_const,implies_true,Nat.le_refl,decide_eq_true_eq,decide_eq_false_iff_not,Val.int.injEq,ne_eq,maxLen,Nat.reducePow,keepF,appF,updB,inat,Prod.eta,Pm.c0,Pm.c1,Pm.c2,Pm.c3,Pm.c4,Pm.w_c,Pm.eta,toUI_val]
    repeat' (first | omega | (with_reducible apply And.intro) | intro _)
    all_goals first
      | exact (pmE_ok (hall.2 fun i hi => hj2 i (by omega))).symm
      | (refine hno j (by omega) fun k => ?_
         obtain ⟨k1,k2,k3,k4,k5,k6⟩ := k
         try have k2 := k2 (by omega)
         omega)
      | (refine inv_intro (j + 1) ⟨by omega,fun i hi => ?_⟩ (by omega) ?_
         · rcases Nat.lt_or_ge i j with h5 | h5
           · exact hj2 i h5
           · obtain rfl : i = j := by omega
             exact ⟨by omega,fun _ => by omega,by omega,by omega,by omega,by first | (left; omega) | (right; exact ⟨hm,by omega⟩)⟩
         · simp only [Chk,chkFr,chkBx,idsLt,kept,vs_int,vs_view,Nat.lt_irrefl,fget,bget,vsubP_self,↓reduceIte,reduceCtorEq,and_true,true_and,and_self,forall_const,implies_true,Val.int.injEq,false_implies]
           rw [wrS (by omega)])
end Go.Proofs.Ytpknbojgkkmonaa
