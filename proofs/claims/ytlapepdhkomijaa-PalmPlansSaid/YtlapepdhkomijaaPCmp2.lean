/- Palms, the reference: comparisons of covers and works, sizes, indices. No condition but bounds. -/
import Derived.Test.YtlapepdhkomijaaPCmp
set_option linter.unusedSimpArgs false
set_option linter.unusedVariables false
namespace Go.Proofs.Ytlapepdhkomijaa
open Go Go.RowKit
variable {G : Nat → Option (Nat × (Nat → Val))}
noncomputable def sGreat7 : Spec := spec2 (TSl RPm) TWk (fun _ _ => True) fun l w => .bool (decP (l.1 > 30 ∨ w.spathes.1 > 12 ∨ w.hours.1 > 20 ∨ w.lots.1 > 8))
set_option maxRecDepth 100000 in
theorem pGreat7 : PureOk Try.prog G 14 sGreat7 := by
 refine fn2 (S := []) (I := []) mixed .nil .nil Try.func14 c14 fun l w _ hw => ?_
 simp only [vl,WfT,Val.toInt,Val.slen,Val.scell,Nat.reduceSub,and_true,true_and,and_self,maxLen,Nat.reducePow,TSl,RInt,RPm,Pm.d,RSp,Sp.d,RLt,Lt.d,Wk.L,TWk] at hw
 simp only [RunTo,a14,hw,↓imp_tt,↓imp_tf,runO_3,runO_5,runO_17,runO_18,runO_19,aop,binV,ends,reOk,Nat.zero_sub,ev,fget,fput,params,cellsOf,cellsN,isLB,vget,vlen,bget,addB,addN,mkv,sliceV,vtab,frz,opOwns,preFz,skipOp,WfT,resV,res1,snapV,snapOk,pickV,lenV,Fin,vp_bool,Val.toInt,Val.slen,Val.scell,↓reduceIte,reduceCtorEq,Nat.reduceEqDiff,Nat.reduceAdd,Nat.reduceSub,Nat.reduceLeDiff,Nat.zero_add,List.length_cons,List.length_nil,Bool.bne_false,bne_self_eq_false,and_true,true_and,and_self,forall_const,decide_eq_true_eq,decide_eq_false_iff_not,Val.bool.injEq,maxLen,Nat.reducePow,TSl,RInt,RPm,Pm.d,RSp,Sp.d,RLt,Lt.d,Wk.L,TWk]
 repeat' (first | omega | (with_reducible apply And.intro) | intro _)
 all_goals first
  | exact (decP_t (by omega)).symm
  | exact (decP_f (by omega)).symm
  | (rw [Bool.eq_iff_iff,decP_true]; simp; omega)
end Go.Proofs.Ytlapepdhkomijaa
