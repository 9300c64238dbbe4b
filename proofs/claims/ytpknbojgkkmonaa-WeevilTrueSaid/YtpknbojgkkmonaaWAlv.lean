/- Groves, outright: alive. No condition. -/
import Derived.Test.YtpknbojgkkmonaaWEx2
import Derived.Test.YtpknbojgkkmonaaACodeA
import Derived.Test.YtpknbojgkkmonaaWRef4
set_option linter.unusedSimpArgs false
set_option linter.unusedVariables false
namespace Go.Proofs.Ytpknbojgkkmonaa
open Go Go.RowKit
variable {G : Nat → Option (Nat × (Nat → Val))}
def sGrove : Spec := spec0 (.agg gvC.L)
set_option maxRecDepth 100000 in
theorem pGrove : PureOk Try.prog G 40 sGrove := by
  refine fn0 (S := []) (I := []) mixed .nil .nil Try.func40 c40 ?_
  simp only [RunTo,a40,gvC,runO_3,runO_5,runO_17,runO_18,runO_19,aop,ends,reOk,Nat.zero_sub,ev,fget,fput,params,cellsOf,cellsN,isLB,vget,vset,vsets,vlen,bget,bset,addB,addN,mkv,sliceV,vtab,fillV,fillOk,rowsV,rowsOk,vrep,frz,opOwns,preFz,owns,skipOp,WfT,resV,res1,pureB,onesB,snapV,snapOk,mkE_G,Fin,vp_int,vp_cons,vp_agg,vp_view,vsubP_self,Val.toInt,↓reduceIte,reduceCtorEq,Nat.reduceEqDiff,Nat.reduceAdd,Nat.reduceLeDiff,Nat.reduceLT,Nat.zero_add,Int.reduceNeg,List.length_cons,List.length_nil,List.append_nil,List.flatMap_cons,List.flatMap_nil,Bool.and_self,and_true,true_and,and_self,forall_const,Nat.le_refl,RInt,RPm,Pm.d,RPl,Pl.d,Gv.L]
  refine ⟨lt4e ?_ ?_ ?_ ?_,lt4e ?_ ?_ ?_ ?_,fun i hi j hj => ?_⟩
  all_goals first
    | (intro j hj
       rcases (by omega : j = 0 ∨ j = 1 ∨ j = 2 ∨ j = 3 ∨ j = 4) with rfl | rfl | rfl | rfl | rfl <;> first | omega | rfl)
    | (obtain rfl : i = 0 := by omega
       obtain rfl : j = 0 := by omega
       rfl)
def sIllL : Spec := spec2 TI TI (fun _ _ => True) fun id day => .agg (Sg.L ⟨2,id,day,⟨0,0⟩,0⟩)
set_option maxRecDepth 100000 in
theorem pIllL : PureOk Try.prog G 34 sIllL := by
  refine fn2 (S := []) (I := []) mixed .nil .nil Try.func34 c34 fun id day _ _ => ?_
  simp only [RunTo,a34,runO_3,runO_5,runO_17,runO_18,runO_19,aop,ends,reOk,Nat.zero_sub,ev,fget,fput,params,cellsOf,cellsN,isLB,vget,vset,vsets,vlen,bget,bset,addB,addN,mkv,sliceV,vtab,fillV,fillOk,frz,opOwns,preFz,skipOp,WfT,resV,res1,onesB,snapV,snapOk,Fin,vsubP_self,↓reduceIte,reduceCtorEq,Nat.reduceEqDiff,Nat.reduceAdd,Nat.reduceLeDiff,Nat.zero_add,List.length_cons,List.length_nil,Bool.and_self,and_self,forall_const,Nat.le_refl,TInt,Sg.L]
def sCleanL : Spec := spec2 TI TI (fun _ _ => True) fun id day => .agg (Sg.L ⟨1,id,day,⟨0,0⟩,0⟩)
set_option maxRecDepth 100000 in
theorem pCleanL : PureOk Try.prog G 35 sCleanL := by
  refine fn2 (S := []) (I := []) mixed .nil .nil Try.func35 c35 fun id day _ _ => ?_
  simp only [RunTo,a35,runO_3,runO_5,runO_17,runO_18,runO_19,aop,ends,reOk,Nat.zero_sub,ev,fget,fput,params,cellsOf,cellsN,isLB,vget,vset,vsets,vlen,bget,bset,addB,addN,mkv,sliceV,vtab,fillV,fillOk,frz,opOwns,preFz,skipOp,WfT,resV,res1,onesB,snapV,snapOk,Fin,vsubP_self,↓reduceIte,reduceCtorEq,Nat.reduceEqDiff,Nat.reduceAdd,Nat.reduceLeDiff,Nat.zero_add,List.length_cons,List.length_nil,Bool.and_self,and_self,forall_const,Nat.le_refl,TInt,Sg.L]
def sAlive : Spec := spec0 (.bool true)
set_option maxHeartbeats 8000000 in
set_option maxRecDepth 100000 in
theorem pAlive : PureOk Try.prog G 28 sAlive := by
  refine fn0 (S := [(40,sGrove),(34,sIllL),(35,sCleanL),(22,sSoonest),(15,sIll),(24,sChain),(17,sGifts),(19,sSameI)]) (I := []) mixed
    (.cons pGrove (.cons pIllL (.cons pCleanL (.cons pSoonest (.cons pIll (.cons pChain (.cons pGifts (.cons pSameI .nil)))))))) .nil Try.func28 c28 ?_
  obtain ⟨A,B,X,qA,qB,qX,qa,qb,qx,qi⟩ := exFacts
  simp (config := { maxSteps := 4000000 }) only [RunTo,a28,sGrove,sIllL,sCleanL,sSoonest,sIll,sChain,sGifts,sSameI,fA_E,fB_E,fF_E,fF_A,fF_D,fG_E,fC_E,fC_D,fC_S,fD_E,fD_D,fD_S,qA,qB,qX,qa,qb,flatO,↓imp_tt,↓imp_tf,↓imp_ft,↓imp_ff,runO_3,runO_5,runO_17,runO_18,runO_19,aop,binV,ends,Nat.zero_sub,ev,fget,fput,params,cellsOf,cellsN,isLB,vget,vset,vlen,bget,bdel,addB,addN,rowsV,rowsOk,vrep,frz,opOwns,preFz,callFz,ownsL,owns,skipOp,WfT,resV,res1,norm,norms,norm1,normL,pureB,pureL,flatB,onesB,snapV,snapOk,snapL,snapOks,specV,argsL,capsL,mkE_S,mkE_I,mkE_G,lkp,pickV,subFr,subV,subBx,subStk,Fin,vp_bool,Val.toInt,Val.slen,Val.scell,↓reduceIte,reduceCtorEq,Nat.reduceEqDiff,Nat.reduceAdd,Nat.reduceSub,Nat.reduceLeDiff,Nat.reduceLT,Nat.zero_add,List.nil_append,List.append_nil,List.flatMap_cons,List.flatMap_nil,Bool.and_true,Bool.and_false,Bool.and_self,Bool.bne_true,bne_self_eq_false,Bool.not_true,Bool.not_false,Bool.false_eq_true,beq_self_eq_true,and_true,true_and,and_self,and_assoc,forall_const,imp_self,implies_true,Val.bool.injEq,maxLen,Nat.reducePow,spec0,spec2,spec3,TSl,IsSl,TInt,IsInt,RInt,Prod.eta,Pm.c0,Pm.c1,Pm.c2,Pm.c3,Pm.c4,RPm,Pm.w_c,Pm.d,Pm.eta,Pl.c0,Pl.c1,RPl,Pl.w_c,Pl.d,Pl.eta,Gv.L,Gv.Is,Gv.of,TGv,Gv.d,Gv.eta,Sg.L,RSg,Sg.d,toUI_val]
  have qs := qx (fun i => ([2,2,0,0] : List Int).getD i 0) rfl rfl rfl rfl
  have s1 : ∀ {k p d : Int},Sg.w (fun j => vget (.cons (.int .u8 k) (.cons (.int .i64 p) (.cons (.int .i64 d) (.cons (.int .i64 0) (.cons (.int .i64 0) (.cons (.int .i64 0) .nil)))))) j) := fun {k p d} => ⟨rfl,rfl,rfl,rfl,rfl,rfl⟩
  refine fun _ => ⟨fun i h => absurd h (Nat.not_lt_zero _),fun _ => ⟨lt1e s1,fun _ => ⟨lt1e s1,fun _ => ⟨fun i h => absurd h (Nat.not_lt_zero _),fun _ => ⟨fun i h => absurd h (Nat.not_lt_zero _),fun _ => ⟨lt2e s1 s1,lt4e rfl rfl rfl rfl,lt4e rfl rfl rfl rfl,qi,fun _ => ⟨lt4e rfl rfl rfl rfl,lt2e rfl rfl⟩,fun h => ?_⟩⟩⟩⟩⟩⟩
  exact Bool.noConfusion (h.symm.trans qs)
end Go.Proofs.Ytpknbojgkkmonaa
