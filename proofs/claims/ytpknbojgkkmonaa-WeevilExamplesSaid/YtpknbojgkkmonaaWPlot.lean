/- Groves, the program: a plot is a grove with the index of each palm; late. No condition but bounds. -/
import Derived.Test.YtpknbojgkkmonaaWProg3
import Derived.Test.YtpknbojgkkmonaaWMath3
set_option linter.unusedSimpArgs false
set_option linter.unusedVariables false
namespace Go.Proofs.Ytpknbojgkkmonaa
open Go Go.RowKit
variable {G : Nat → Option (Nat × (Nat → Val))}
def ptM (l : Pms) : Val := .mview .i64 (hasP l) fun k => .int .i64 (lstP l k)
def Pt.L (x : Gv) : Val := .cons (.view RPm.k (x.palms).1 fun a b => RPm.C ((x.palms).2 a) b) (.cons (.view RPl.k (x.places).1 fun a b => RPl.C ((x.places).2 a) b) (.cons (.int .i64 x.reach) (.cons (.int .i64 x.hatch) (.cons (.int .i64 x.shows) (.cons (.int .i64 x.start) (.cons (.view (RInt .i64).k (x.sus).1 fun a b => (RInt .i64).C ((x.sus).2 a) b) (.cons (.mview .i64 (hasP x.palms) fun k => .int .i64 (lstP x.palms k)) (.nil))))))))
def IsAt (l : Pms) : Val → Prop
  | .mview kd has f => kd = .i64 ∧ ∀ k,has k = hasP l k ∧ (hasP l k = true → f k = .int .i64 (lstP l k))
  | _ => False
def Pt.Is : Val → Prop
  | .agg (.cons c0 (.cons c1 (.cons c2 (.cons c3 (.cons c4 (.cons c5 (.cons c6 (.cons c7 .nil)))))))) => Gv.Is (.agg (.cons c0 (.cons c1 (.cons c2 (.cons c3 (.cons c4 (.cons c5 (.cons c6 .nil)))))))) ∧ IsAt (Gv.of (.agg (.cons c0 (.cons c1 (.cons c2 (.cons c3 (.cons c4 (.cons c5 (.cons c6 .nil))))))))).palms c7
  | _ => False
def Pt.of : Val → Gv
  | .agg (.cons c0 (.cons c1 (.cons c2 (.cons c3 (.cons c4 (.cons c5 (.cons c6 (.cons _ .nil)))))))) => Gv.of (.agg (.cons c0 (.cons c1 (.cons c2 (.cons c3 (.cons c4 (.cons c5 (.cons c6 .nil))))))))
  | _ => Gv.of .und
def TPt : VT Gv where
  Is := Pt.Is
  of := Pt.of
  enc := fun x => .agg (Pt.L x)
  h1 := by
    intro v h
    unfold Pt.Is at h
    split at h
    · rename_i c0 c1 c2 c3 c4 c5 c6 c7
      obtain ⟨h,hm⟩ := h
      have hv : vsubP (.agg (Gv.L (Gv.of (.agg (.cons c0 (.cons c1 (.cons c2 (.cons c3 (.cons c4 (.cons c5 (.cons c6 .nil)))))))) ))) (.agg (.cons c0 (.cons c1 (.cons c2 (.cons c3 (.cons c4 (.cons c5 (.cons c6 .nil)))))))) := TGv.h1 (.agg (.cons c0 (.cons c1 (.cons c2 (.cons c3 (.cons c4 (.cons c5 (.cons c6 .nil)))))))) h
      simp only [Pt.of]
      generalize Gv.of (.agg (.cons c0 (.cons c1 (.cons c2 (.cons c3 (.cons c4 (.cons c5 (.cons c6 .nil)))))))) = g at *
      simp only [vp_agg,Gv.L,Pt.L,vp_cons] at hv ⊢
      obtain ⟨v0,v1,v2,v3,v4,v5,v6,_⟩ := hv
      refine ⟨v0,v1,v2,v3,v4,v5,v6,?_,rfl⟩
      unfold IsAt at hm
      split at hm
      · obtain ⟨rfl,hm⟩ := hm
        rw [vp_mview]
        exact ⟨rfl,fun k => ⟨(hm k).1,fun hk => by rw [vp_int]; exact (hm k).2 hk⟩⟩
      · exact hm.elim
    · exact h.elim
  h2 := fun x => by
    show Gv.of _ = x
    exact TGv.h2 x
theorem Pt.is_enc (x : Gv) : Pt.Is (.agg (Pt.L x)) := ⟨Gv.is_enc x,by
  have e : Gv.of (.agg (Gv.L x)) = x := TGv.h2 x
  show IsAt (Gv.of (.agg (Gv.L x))).palms _
  rw [e]
  exact ⟨rfl,fun k => ⟨rfl,fun _ => rfl⟩⟩⟩
noncomputable def sLate : Spec := spec2 TPt TI (fun g i => 0 ≤ i ∧ i < g.palms.1) fun g i => .bool (decP (lateP g i.toNat))
set_option maxRecDepth 100000 in
theorem pLate : PureOk Try.prog G 72 sLate := by
  refine fn2 (S := []) (I := []) mixed .nil .nil Try.func72 c72 fun g i hp hw => ?_
  obtain ⟨i,rfl⟩ := Int.eq_ofNat_of_zero_le hp.1
  simp only [TPt,Pt.L,flatO,noIt,FinS,Spec.mine,↓imp_tt,↓imp_tf,↓imp_ft,↓imp_ff,runO_1,runO_2,runO_3,runO_4,runO_5,runO_6,runO_7,runO_8,runO_9,runO_10,runO_11,runO_12,runO_13,runO_14,runO_15,runO_16,runO_17,runO_18,runO_19,aop,binV,ends,asgB,RoundP,roundIn,keepS,putL,reOk,dstV,Jmp.acode,List.map_cons,List.map_nil,Nat.zero_sub,ev,evs,fget,fput,params,vl,cellsOf,cellsN,isLB,vget,vset,vsets,vlen,bget,bset,bdel,addB,addN,mkv,sliceV,vtab,fillV,fillOk,rowsV,rowsOk,vrep,frz,opOwns,preFz,callFz,ownsL,owns,skipOp,WfT,resV,resL,res1,casts,castOks,cast1,castOk,norm,norms,norm1,normL,pureB,pureL,flatB,onesB,snapV,snapOk,snapL,snapOks,specV,argsL,capsL,mkE_S,mkE_I,mkE_G,mkE_X,mkX_S,mkX_I,mkX_G,mkX_X,eatR,eatB,eatI,lkp,eqCells,eqOk,pickV,mgetV,optInt,lenV,subFr,subV,subBx,subStk,elemsV,popTo,stkFr,stkNx,Fin,vp_und,vp_int,vp_bool,vp_nil,vp_nils,vp_nilf,vp_nilp,vp_cons,vp_agg,vp_tup,vp_func,vp_view,vp_viewn,vp_vptr,vp_mview,vsubP_self,Val.toInt,Val.toBool,Val.slen,Val.scell,↓reduceIte,reduceCtorEq,Nat.reduceEqDiff,Nat.reduceAdd,Nat.reduceSub,Nat.reduceLeDiff,Nat.reduceMul,Nat.reduceLT,Nat.zero_add,Nat.add_zero,Nat.mul_one,Nat.zero_mul,Nat.sub_zero,Int.reduceToNat,Int.cast_ofNat_Int,Int.reduceLT,Int.reduceLE,Int.reduceEq,Int.reduceNeg,Int.reduceMul,Int.reduceAdd,Int.reduceSub,Int.reduceNe,Int.reduceBEq,Int.reduceBNe,decide_true,decide_false,beq_iff_eq,beq_eq_false_iff_ne,bne_iff_ne,bne_eq_false_iff_eq,List.length_cons,List.length_nil,List.nil_append,List.cons_append,List.append_nil,List.flatMap_cons,List.flatMap_nil,Bool.not_eq_true',Bool.not_eq_false',Bool.and_true,Bool.and_false,Bool.true_and,Bool.false_and,Bool.and_self,Bool.bne_true,Bool.bne_false,bne_self_eq_false,Bool.not_true,Bool.not_false,Bool.true_eq_false,Bool.false_eq_true,beq_self_eq_true,and_true,true_and,and_self,and_assoc,forall_const,imp_self,implies_true,Nat.le_refl,decide_eq_true_eq,decide_eq_false_iff_not,Option.some.injEq,Val.int.injEq,Val.bool.injEq,Val.cons.injEq,Val.agg.injEq,Val.tup.injEq,exists_eq_left',exists_eq',exists_eq_right,exists_eq_right',exists_const,exists_and_left,exists_and_right,ne_eq,not_false_eq_true,true_implies,false_implies,or_true,true_or,or_false,false_or,not_true_eq_false,not_false_eq_true,maxLen,Nat.reducePow,keepF,appF,updB,inat,inat1,spec0,spec1,spec2,spec3,spec4,spec5,TSl,IsSl,TInt,IsInt,TBool,IsBool,RInt,RBool,RSl,Prod.eta,Pm.L,Pm.c0,Pm.c1,Pm.c2,Pm.c3,Pm.c4,Pm.Is,Pm.of,TPm,RPm,Pm.w_c,Pm.d_c,Pm.d,Pm.eta,Pl.L,Pl.c0,Pl.c1,Pl.Is,Pl.of,TPl,RPl,Pl.w_c,Pl.d_c,Pl.d,Pl.eta,Gv.L,Gv.c0,Gv.c1,Gv.c2,Gv.c3,Gv.c4,Gv.c5,Gv.c6,Gv.Is,Gv.of,TGv,RGv,Gv.w_c,Gv.d_c,Gv.d,Gv.eta,Sg.L,Sg.c0,Sg.c1,Sg.c2,Sg.c3,Sg.c4,Sg.c5,Sg.Is,Sg.of,TSg,RSg,Sg.w_c,Sg.d_c,Sg.d,Sg.eta,toUI_val] at hw
  simp only [RunTo,a72,TPt,Pt.L,hw,flatO,noIt,FinS,Spec.mine,↓imp_tt,↓imp_tf,↓imp_ft,↓imp_ff,runO_1,runO_2,runO_3,runO_4,runO_5,runO_6,runO_7,runO_8,runO_9,runO_10,runO_11,runO_12,runO_13,runO_14,runO_15,runO_16,runO_17,runO_18,runO_19,aop,binV,ends,asgB,RoundP,roundIn,keepS,putL,reOk,dstV,Jmp.acode,List.map_cons,List.map_nil,Nat.zero_sub,ev,evs,fget,fput,params,vl,cellsOf,cellsN,isLB,vget,vset,vsets,vlen,bget,bset,bdel,addB,addN,mkv,sliceV,vtab,fillV,fillOk,rowsV,rowsOk,vrep,frz,opOwns,preFz,callFz,ownsL,owns,skipOp,WfT,resV,resL,res1,casts,castOks,cast1,castOk,norm,norms,norm1,normL,pureB,pureL,flatB,onesB,snapV,snapOk,snapL,snapOks,specV,argsL,capsL,mkE_S,mkE_I,mkE_G,mkE_X,mkX_S,mkX_I,mkX_G,mkX_X,eatR,eatB,eatI,lkp,eqCells,eqOk,pickV,mgetV,optInt,lenV,subFr,subV,subBx,subStk,elemsV,popTo,stkFr,stkNx,Fin,vp_und,vp_int,vp_bool,vp_nil,vp_nils,vp_nilf,vp_nilp,vp_cons,vp_agg,vp_tup,vp_func,vp_view,vp_viewn,vp_vptr,vp_mview,vsubP_self,Val.toInt,Val.toBool,Val.slen,Val.scell,↓reduceIte,reduceCtorEq,Nat.reduceEqDiff,Nat.reduceAdd,Nat.reduceSub,Nat.reduceLeDiff,Nat.reduceMul,Nat.reduceLT,Nat.zero_add,Nat.add_zero,Nat.mul_one,Nat.zero_mul,Nat.sub_zero,Int.reduceToNat,Int.cast_ofNat_Int,Int.reduceLT,Int.reduceLE,Int.reduceEq,Int.reduceNeg,Int.reduceMul,Int.reduceAdd,Int.reduceSub,Int.reduceNe,Int.reduceBEq,Int.reduceBNe,decide_true,decide_false,beq_iff_eq,beq_eq_false_iff_ne,bne_iff_ne,bne_eq_false_iff_eq,List.length_cons,List.length_nil,List.nil_append,List.cons_append,List.append_nil,List.flatMap_cons,List.flatMap_nil,Bool.not_eq_true',Bool.not_eq_false',Bool.and_true,Bool.and_false,Bool.true_and,Bool.false_and,Bool.and_self,Bool.bne_true,Bool.bne_false,bne_self_eq_false,Bool.not_true,Bool.not_false,Bool.true_eq_false,Bool.false_eq_true,beq_self_eq_true,and_true,true_and,and_self,and_assoc,forall_const,imp_self,implies_true,Nat.le_refl,decide_eq_true_eq,decide_eq_false_iff_not,Option.some.injEq,Val.int.injEq,Val.bool.injEq,Val.cons.injEq,Val.agg.injEq,Val.tup.injEq,exists_eq_left',exists_eq',exists_eq_right,exists_eq_right',exists_const,exists_and_left,exists_and_right,ne_eq,not_false_eq_true,true_implies,false_implies,or_true,true_or,or_false,false_or,not_true_eq_false,not_false_eq_true,maxLen,Nat.reducePow,keepF,appF,updB,inat,inat1,spec0,spec1,spec2,spec3,spec4,spec5,TSl,IsSl,TInt,IsInt,TBool,IsBool,RInt,RBool,RSl,Prod.eta,Pm.L,Pm.c0,Pm.c1,Pm.c2,Pm.c3,Pm.c4,Pm.Is,Pm.of,TPm,RPm,Pm.w_c,Pm.d_c,Pm.d,Pm.eta,Pl.L,Pl.c0,Pl.c1,Pl.Is,Pl.of,TPl,RPl,Pl.w_c,Pl.d_c,Pl.d,Pl.eta,Gv.L,Gv.c0,Gv.c1,Gv.c2,Gv.c3,Gv.c4,Gv.c5,Gv.c6,Gv.Is,Gv.of,TGv,RGv,Gv.w_c,Gv.d_c,Gv.d,Gv.eta,Sg.L,Sg.c0,Sg.c1,Sg.c2,Sg.c3,Sg.c4,Sg.c5,Sg.Is,Sg.of,TSg,RSg,Sg.w_c,Sg.d_c,Sg.d,Sg.eta,toUI_val]
  repeat' (first | omega | (with_reducible apply And.intro) | intro _)
  all_goals first
    | (refine (decP_t ?_).symm; unfold lateP; omega)
    | (refine (decP_f ?_).symm; unfold lateP; omega)
    | (rw [Bool.eq_iff_iff,decide_eq_true_iff,decP_true]; unfold lateP; omega)
end Go.Proofs.Ytpknbojgkkmonaa
