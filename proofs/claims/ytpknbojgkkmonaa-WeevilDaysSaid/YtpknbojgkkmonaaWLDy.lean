/- WeevilDays: groves, first days and chains are the reference's. No condition. -/
import Derived.Test.YtpknbojgkkmonaaWRs4
import Derived.Test.YtpknbojgkkmonaaWSam
import Derived.Test.YtpknbojgkkmonaaACodeL4
set_option linter.unusedSimpArgs false
set_option linter.unusedVariables false
namespace Go.Proofs.Ytpknbojgkkmonaa
open Go Go.RowKit
variable {G : Nat → Option (Nat × (Nat → Val))}
theorem sooE_cases (g : Gv) (l : Sgs) : sooE g l = 0 ∨ sooE g l = 92 := by unfold sooE; split <;> omega
noncomputable def sLawDays : Spec := spec3 TGv (TSl RSg) TI (fun _ _ _ => True) fun _ _ _ => .bool true
set_option maxHeartbeats 4000000 in
set_option maxRecDepth 100000 in
theorem pLawDays : PureOk Try.prog G 4 sLawDays := by
  refine fn3 (S := [(13,sGreat),(14,sTwinV),(22,sSoonest),(23,sSoonest),(24,sChain),(25,sChain),(26,sCheckW),(27,sCheck9),(19,sSameI),(20,sSameGv),(21,sSameSg)]) (I := []) mixed
    (.cons pGreat (.cons pTwinV (.cons pSoonest (.cons pSoonR (.cons pChain (.cons pChainR (.cons pCheckW (.cons pCheck9 (.cons pSameI (.cons pSameGv (.cons pSameSg .nil))))))))))) .nil Try.func4 c4 fun g l id _ hw => ?_
  simp only [vl,WfT,Val.toInt,Val.slen,Val.scell,Nat.reduceSub,and_true,true_and,and_self,and_assoc,maxLen,Nat.reducePow,TSl,TInt,RInt,RPm,Pm.d,RPl,Pl.d,Gv.L,TGv,RSg,Sg.d] at hw
  obtain ⟨w1,w2,w3,w4⟩ := hw
  by_cases hgr : g.palms.1 > 30 ∨ g.places.1 > 40 ∨ g.sus.1 > 40 ∨ l.1 > 40
  · have fg := decP_t hgr
    simp only [RunTo,a4,sGreat,fg,w1,w2,w3,w4,↓imp_tt,↓imp_tf,runO_3,runO_5,runO_14,runO_17,runO_18,runO_19,aop,ends,ev,fget,fput,params,cellsOf,cellsN,isLB,vget,vlen,bget,addB,addN,mkv,sliceV,vtab,frz,opOwns,preFz,callFz,skipOp,WfT,resV,res1,norm,norms,norm1,normL,pureB,pureL,snapV,snapOk,specV,argsL,capsL,mkE_S,mkE_I,lkp,Fin,vp_bool,Val.toInt,Val.slen,Val.scell,↓reduceIte,reduceCtorEq,Nat.reduceEqDiff,Nat.reduceAdd,Nat.reduceSub,Nat.zero_add,List.length_cons,List.length_nil,List.append_nil,Bool.and_self,and_true,and_self,and_assoc,forall_const,imp_self,implies_true,Nat.le_refl,maxLen,Nat.reducePow,spec2,TSl,IsSl,TInt,RInt,RPm,Pm.w_c,Pm.d,RPl,Pl.w_c,Pl.d,Gv.L,Gv.Is,Gv.of,TGv,Gv.d,RSg,Sg.w_c,Sg.d]
  have fg := decP_f hgr
  have hst : stD g l = .nils ∨ stD g l = .view 1 g.palms.1 fun i _ => .int .i64 (dyF g l l.1 i) := by
    unfold stD sooD
    split
    · split
      · exact .inr rfl
      · exact .inl rfl
    · exact .inl rfl
  have hcw : chW g l id = .nils ∨ chW g l id = chV g (dyF g l l.1) (hitN g.palms id) := by
    unfold chW
    split
    · exact .inr rfl
    · exact .inl rfl
  rcases hst with r1 | r1 <;> rcases hcw with r2 | r2
  all_goals
    simp only [RunTo,a4,sGreat,sTwinV,sSoonest,sChain,sCheckW,sCheck9,chV,sSameI,sSameGv,sSameSg,sameB_self,GvEq.self,Nat.not_lt_zero,fg,r1,r2,w1,w2,w3,w4,flatO,↓imp_tt,↓imp_tf,↓imp_ft,↓imp_ff,runO_3,runO_4,runO_5,runO_14,runO_17,runO_18,runO_19,aop,binV,ends,reOk,Nat.zero_sub,ev,fget,fput,params,cellsOf,cellsN,isLB,vget,vset,vsets,vlen,bget,bset,bdel,addB,addN,mkv,sliceV,vtab,rowsV,rowsOk,vrep,frz,opOwns,preFz,callFz,ownsL,owns,skipOp,WfT,resV,res1,norm,norms,norm1,normL,pureB,pureL,flatB,onesB,snapV,snapOk,snapL,snapOks,specV,argsL,capsL,mkE_S,mkE_I,mkE_G,lkp,pickV,subFr,subV,subBx,subStk,elemsV,Fin,vp_bool,Val.toInt,Val.slen,Val.scell,↓reduceIte,reduceCtorEq,Nat.reduceEqDiff,Nat.reduceAdd,Nat.reduceSub,Nat.reduceLT,Nat.zero_add,Nat.sub_zero,List.length_cons,List.length_nil,List.nil_append,List.append_nil,List.flatMap_nil,Bool.and_true,Bool.and_false,Bool.and_self,bne_self_eq_false,Bool.not_true,Bool.not_false,beq_self_eq_true,and_true,true_and,and_self,and_assoc,forall_const,imp_self,implies_true,Nat.le_refl,or_false,maxLen,Nat.reducePow,spec1,spec2,spec3,TSl,IsSl,TInt,IsInt,RInt,Prod.eta,Pm.c0,Pm.c1,Pm.c2,Pm.c3,Pm.c4,RPm,Pm.w_c,Pm.d,Pm.eta,Pl.c0,Pl.c1,RPl,Pl.w_c,Pl.d,Pl.eta,Gv.L,Gv.Is,Gv.of,TGv,Gv.d,Gv.eta,Sg.c0,Sg.c1,Sg.c2,Sg.c3,Sg.c4,Sg.c5,RSg,Sg.w_c,Sg.d,Sg.eta,toUI_val]
    exact ⟨by omega,by omega,by omega,by omega⟩
end Go.Proofs.Ytpknbojgkkmonaa
