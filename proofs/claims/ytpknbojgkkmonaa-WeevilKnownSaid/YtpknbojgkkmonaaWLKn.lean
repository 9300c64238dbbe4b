/- WeevilKnown: what is known of whether palms are ill, and which ones may give offshoots away, are the reference's. No condition. -/
import Derived.Test.YtpknbojgkkmonaaWRs3
import Derived.Test.YtpknbojgkkmonaaWSam
import Derived.Test.YtpknbojgkkmonaaACodeL3
set_option linter.unusedSimpArgs false
set_option linter.unusedVariables false
namespace Go.Proofs.Ytpknbojgkkmonaa
open Go Go.RowKit
variable {G : Nat → Option (Nat × (Nat → Val))}
theorem strEq_self (n : Nat) (f : Nat → Int) : strEq n f n f = true := @decide_eq_true _ (Classical.propDecidable _) ⟨rfl,fun _ _ => rfl⟩
theorem ill_bd (g : Gv) (l : Sgs) (day : Int) (i : Nat) : 0 ≤ illF g l day i ∧ illF g l day i ≤ 255 := by
  unfold illF
  split
  · omega
  · by_cases h : okI g l day i
    · rw [@if_pos _ (Classical.propDecidable _) h]; omega
    · rw [@if_neg _ (Classical.propDecidable _) h]; omega
noncomputable def sLawKnown : Spec := spec3 TGv (TSl RSg) TI (fun _ _ _ => True) fun _ _ _ => .bool true
set_option maxHeartbeats 4000000 in
set_option maxRecDepth 100000 in
theorem pLawKnown : PureOk Try.prog G 3 sLawKnown := by
  refine fn3 (S := [(13,sGreat),(14,sTwinV),(15,sIll),(16,sIll),(17,sGifts),(18,sGifts),(19,sSameI),(20,sSameGv),(21,sSameSg)]) (I := []) mixed
    (.cons pGreat (.cons pTwinV (.cons pIll (.cons pIllR (.cons pGifts (.cons pGiftsR (.cons pSameI (.cons pSameGv (.cons pSameSg .nil))))))))) .nil Try.func3 c3 fun g l day _ hw => ?_
  simp only [vl,WfT,Val.toInt,Val.slen,Val.scell,Nat.reduceSub,and_true,true_and,and_self,and_assoc,maxLen,Nat.reducePow,TSl,TInt,RInt,RPm,Pm.d,RPl,Pl.d,Gv.L,TGv,RSg,Sg.d] at hw
  obtain ⟨w1,w2,w3,w4⟩ := hw
  by_cases hgr : g.palms.1 > 30 ∨ g.places.1 > 40 ∨ g.sus.1 > 40 ∨ l.1 > 40
  · have fg := decP_t hgr
    simp only [RunTo,a3,sGreat,fg,w1,w2,w3,w4,↓imp_tt,↓imp_tf,runO_3,runO_5,runO_14,runO_17,runO_18,runO_19,aop,ends,ev,fget,fput,params,cellsOf,cellsN,isLB,vget,vlen,bget,addB,addN,mkv,sliceV,vtab,frz,opOwns,preFz,callFz,skipOp,WfT,resV,res1,norm,norms,norm1,normL,pureB,pureL,snapV,snapOk,specV,argsL,capsL,mkE_S,mkE_I,lkp,Fin,vp_bool,Val.toInt,Val.slen,Val.scell,↓reduceIte,reduceCtorEq,Nat.reduceEqDiff,Nat.reduceAdd,Nat.reduceSub,Nat.zero_add,List.length_cons,List.length_nil,List.append_nil,Bool.and_self,and_true,and_self,and_assoc,forall_const,imp_self,implies_true,Nat.le_refl,maxLen,Nat.reducePow,spec2,TSl,IsSl,TInt,RInt,RPm,Pm.w_c,Pm.d,RPl,Pl.w_c,Pl.d,Gv.L,Gv.Is,Gv.of,TGv,Gv.d,RSg,Sg.w_c,Sg.d]
  have fg := decP_f hgr
  by_cases h0 : asE g l day = 0
  · have r2 : illD g l day = .view 1 g.palms.1 fun i _ => .int .u8 (illF g l day i) := if_pos h0
    have r3 : gfD g l day = .view 1 (gfF g l day g.palms.1).1 fun i _ => .int .i64 ((gfF g l day g.palms.1).2 i) := if_pos h0
    simp only [RunTo,a3,sGreat,sTwinV,sIll,sGifts,sSameI,sSameGv,sSameSg,sameB_self,GvEq.self,strEq_self,Nat.not_lt_zero,fg,h0,r2,r3,w1,w2,w3,w4,flatO,↓imp_tt,↓imp_tf,↓imp_ft,↓imp_ff,runO_3,runO_4,runO_5,runO_14,runO_17,runO_18,runO_19,aop,binV,ends,reOk,Nat.zero_sub,ev,fget,fput,params,cellsOf,cellsN,isLB,vget,vset,vsets,vlen,bget,bset,bdel,addB,addN,mkv,sliceV,vtab,rowsV,rowsOk,vrep,frz,opOwns,preFz,callFz,ownsL,owns,skipOp,WfT,resV,res1,norm,norms,norm1,normL,pureB,pureL,flatB,onesB,snapV,snapOk,snapL,specV,argsL,capsL,mkE_S,mkE_I,mkE_G,lkp,pickV,subFr,subV,subBx,subStk,elemsV,Fin,vp_bool,Val.toInt,Val.slen,Val.scell,↓reduceIte,reduceCtorEq,Nat.reduceEqDiff,Nat.reduceAdd,Nat.reduceSub,Nat.reduceLT,Nat.zero_add,Nat.sub_zero,List.length_cons,List.length_nil,List.nil_append,List.append_nil,List.flatMap_nil,Bool.and_true,Bool.and_false,Bool.and_self,bne_self_eq_false,Bool.not_false,beq_self_eq_true,and_true,true_and,and_self,and_assoc,forall_const,imp_self,implies_true,Nat.le_refl,or_false,maxLen,Nat.reducePow,spec1,spec2,spec3,TSl,IsSl,TInt,IsInt,RInt,Prod.eta,Pm.c0,Pm.c1,Pm.c2,Pm.c3,Pm.c4,RPm,Pm.w_c,Pm.d,Pm.eta,Pl.c0,Pl.c1,RPl,Pl.w_c,Pl.d,Pl.eta,Gv.L,Gv.Is,Gv.of,TGv,Gv.d,Gv.eta,Sg.c0,Sg.c1,Sg.c2,Sg.c3,Sg.c4,Sg.c5,RSg,Sg.w_c,Sg.d,Sg.eta,toUI_val]
    exact ⟨by omega,by omega,by omega,by omega,fun _ _ _ _ _ _ _ _ i _ => ill_bd g l day i⟩
  · have r2 : illD g l day = .nils := if_neg h0
    have r3 : gfD g l day = .nils := if_neg h0
    simp only [RunTo,a3,sGreat,sTwinV,sIll,sGifts,sSameI,sSameGv,sSameSg,sameB_self,GvEq.self,strEq_self,Nat.not_lt_zero,fg,r2,r3,w1,w2,w3,w4,flatO,↓imp_tt,↓imp_tf,↓imp_ft,↓imp_ff,runO_3,runO_4,runO_5,runO_14,runO_17,runO_18,runO_19,aop,binV,ends,reOk,Nat.zero_sub,ev,fget,fput,params,cellsOf,cellsN,isLB,vget,vset,vsets,vlen,bget,bset,addB,addN,mkv,sliceV,vtab,rowsV,rowsOk,vrep,frz,opOwns,preFz,callFz,skipOp,WfT,resV,res1,norm,norms,norm1,normL,pureB,pureL,flatB,onesB,snapV,snapOk,snapL,snapOks,specV,argsL,capsL,mkE_S,mkE_I,mkE_G,lkp,pickV,subFr,subV,subBx,subStk,elemsV,Fin,vp_bool,Val.toInt,Val.slen,Val.scell,↓reduceIte,reduceCtorEq,Nat.reduceEqDiff,Nat.reduceAdd,Nat.reduceSub,Nat.reduceLT,Nat.zero_add,Nat.sub_zero,List.length_cons,List.length_nil,List.append_nil,List.flatMap_nil,Bool.and_true,Bool.and_false,Bool.and_self,bne_self_eq_false,Bool.not_true,beq_self_eq_true,and_true,true_and,and_self,and_assoc,forall_const,imp_self,implies_true,Nat.le_refl,or_false,maxLen,Nat.reducePow,spec1,spec2,spec3,TSl,IsSl,TInt,IsInt,RInt,Prod.eta,Pm.c0,Pm.c1,Pm.c2,Pm.c3,Pm.c4,RPm,Pm.w_c,Pm.d,Pm.eta,Pl.c0,Pl.c1,RPl,Pl.w_c,Pl.d,Pl.eta,Gv.L,Gv.Is,Gv.of,TGv,Gv.d,Gv.eta,Sg.c0,Sg.c1,Sg.c2,Sg.c3,Sg.c4,Sg.c5,RSg,Sg.w_c,Sg.d,Sg.eta,toUI_val]
    exact ⟨by omega,by omega,by omega,by omega⟩
end Go.Proofs.Ytpknbojgkkmonaa
