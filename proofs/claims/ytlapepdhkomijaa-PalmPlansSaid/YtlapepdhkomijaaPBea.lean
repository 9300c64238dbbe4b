/- Palms, the reference: which palms bear. No condition but bounds. -/
import Derived.Test.YtlapepdhkomijaaPRef1
set_option linter.unusedSimpArgs false
set_option linter.unusedVariables false
namespace Go.Proofs.Ytlapepdhkomijaa
open Go Go.RowKit
variable {G : Nat → Option (Nat × (Nat → Val))}
theorem tu_enc {k : IntKind} (a : UI k) : (TU k).enc a = .int k a.1 := rfl
def bearsP (l : Pms) (id day sex : Int) : Prop := hitN l id < l.1 ∧ (l.2 (hitN l id)).sex.1 = sex ∧ 1500 ≤ day - (l.2 (hitN l id)).planted
noncomputable def sBears : Spec := spec4 (TSl RPm) TI TI (TU .u8) (fun l _ day _ => (∀ i,i < l.1 → 0 ≤ (l.2 i).planted ∧ (l.2 i).planted ≤ 100000) ∧ -1000000 ≤ day ∧ day ≤ 1000000) fun l id day sex => .bool (decP (bearsP l id day sex.1))
set_option maxRecDepth 100000 in
theorem pBears : PureOk Try.prog G 77 sBears := by
 refine fn4 (S := [(44,sAt)]) (I := []) mixed (.cons pAt .nil) .nil Try.func77 c77 fun l id day sex hp hw => ?_
 obtain ⟨hpl,hd1,hd2⟩ := hp
 simp only [tu_enc,vl,WfT,Val.toInt,Val.slen,Val.scell,Nat.reduceSub,and_true,and_self,maxLen,Nat.reducePow,TSl,TInt,RPm,Pm.d] at hw
 by_cases hm : hitN l id < l.1
 ·have ea := atF_pos hm
  have hh := hpl _ hm
  have e1 : IntKind.i64.wrap (day - (l.2 (hitN l id)).planted) = day - (l.2 (hitN l id)).planted := wr64 (by omega) (by omega)
  simp only [RunTo,a77,sAt,tu_enc,ea,e1,hw,↓imp_ft,↓imp_ff,runO_3,runO_5,runO_17,runO_18,runO_19,aop,binV,ends,reOk,Nat.zero_sub,ev,fget,fput,params,isLB,vget,addB,addN,mkv,frz,opOwns,preFz,callFz,skipOp,WfT,resV,res1,casts,castOks,cast1,castOk,norm,norm1,normL,pureB,pureL,snapV,snapOk,specV,argsL,capsL,mkE_S,mkE_I,lkp,pickV,Fin,vp_bool,Val.toInt,Val.slen,Val.scell,↓reduceIte,reduceCtorEq,Nat.reduceEqDiff,Nat.reduceAdd,Nat.reduceSub,Nat.reduceLeDiff,Nat.zero_add,Nat.add_zero,beq_iff_eq,beq_eq_false_iff_ne,List.length_cons,List.length_nil,List.append_nil,Bool.and_self,Bool.bne_true,bne_self_eq_false,Bool.not_false,and_true,true_and,and_self,and_assoc,forall_const,implies_true,decide_eq_true_eq,decide_eq_false_iff_not,Val.bool.injEq,ne_eq,maxLen,Nat.reducePow,inat,spec2,TSl,IsSl,TInt,IsInt,Prod.eta,Pm.c0,Pm.c1,Pm.c2,Pm.c3,Pm.c4,RPm,Pm.w_c,Pm.d,Pm.eta,toUI_val]
  repeat' (first | omega | (with_reducible apply And.intro) | intro _)
  all_goals first
   | (refine (decP_f ?_).symm; unfold bearsP; omega)
   | (rw [Bool.eq_iff_iff,decP_true]; unfold bearsP; simp; omega)
 ·have ea : (0 ≤ atF l id) = False := eq_false (by have := atF_neg.2 hm; omega)
  simp only [RunTo,a77,sAt,tu_enc,ea,hw,↓imp_ft,↓imp_ff,runO_3,runO_5,runO_17,runO_18,runO_19,aop,binV,ends,reOk,Nat.zero_sub,ev,fget,fput,params,isLB,addB,addN,frz,opOwns,preFz,callFz,skipOp,WfT,resV,res1,norm,norm1,normL,pureB,pureL,snapV,snapOk,specV,argsL,capsL,mkE_S,mkE_I,lkp,pickV,Fin,vp_bool,Val.toInt,Val.slen,Val.scell,↓reduceIte,reduceCtorEq,Nat.reduceEqDiff,Nat.reduceAdd,Nat.reduceSub,Nat.zero_add,decide_false,List.append_nil,Bool.and_self,Bool.bne_true,Bool.not_false,and_true,true_and,and_self,forall_const,implies_true,Val.bool.injEq,maxLen,Nat.reducePow,spec2,TSl,IsSl,TInt,IsInt,Prod.eta,Pm.c0,Pm.c1,Pm.c2,Pm.c3,Pm.c4,RPm,Pm.w_c,Pm.d,Pm.eta,toUI_val]
  repeat' (first | omega | (with_reducible apply And.intro) | intro _)
  all_goals first
   | (refine (decP_f ?_).symm; unfold bearsP; omega)
end Go.Proofs.Ytlapepdhkomijaa
