/- WeevilExamples: the chapter's examples, limits and numbers. No condition. -/
import Derived.Test.YtpknbojgkkmonaaWEy
import Derived.Test.YtpknbojgkkmonaaWApp
import Derived.Test.YtpknbojgkkmonaaACodeL12
set_option linter.unusedSimpArgs false
set_option linter.unusedVariables false
namespace Go.Proofs.Ytpknbojgkkmonaa
open Go Go.RowKit
variable {G : Nat → Option (Nat × (Nat → Val))}
def sGroveY : Spec := spec0 (.agg Ey.gvC.L)
set_option maxRecDepth 100000 in
theorem pGroveY : PureOk Try.prog G 40 sGroveY := by
  refine fn0 (S := []) (I := []) mixed .nil .nil Try.func40 c40 ?_
  simp only [RunTo,a40,Ey.gvC,runO_3,runO_5,runO_17,runO_18,runO_19,aop,ends,reOk,Nat.zero_sub,ev,fget,fput,params,cellsOf,cellsN,isLB,vget,vset,vsets,vlen,bget,bset,addB,addN,mkv,sliceV,vtab,fillV,fillOk,rowsV,rowsOk,vrep,frz,opOwns,preFz,owns,skipOp,WfT,resV,res1,pureB,onesB,snapV,snapOk,mkE_G,Fin,vp_int,vp_cons,vp_agg,vp_view,vsubP_self,Val.toInt,↓reduceIte,reduceCtorEq,Nat.reduceEqDiff,Nat.reduceAdd,Nat.reduceLeDiff,Nat.reduceLT,Nat.zero_add,Int.reduceNeg,List.length_cons,List.length_nil,List.append_nil,List.flatMap_cons,List.flatMap_nil,Bool.and_self,and_true,true_and,and_self,forall_const,Nat.le_refl,RInt,RPm,Pm.d,RPl,Pl.d,Gv.L]
  refine ⟨lt4e ?_ ?_ ?_ ?_,lt4e ?_ ?_ ?_ ?_,fun i hi j hj => ?_⟩
  all_goals first
    | (intro j hj
       rcases (by omega : j = 0 ∨ j = 1 ∨ j = 2 ∨ j = 3 ∨ j = 4) with rfl | rfl | rfl | rfl | rfl <;> first | omega | rfl)
    | (obtain rfl : i = 0 := by omega
       obtain rfl : j = 0 := by omega
       rfl)
noncomputable def sLawExamples : Spec := spec0 (.bool true)
set_option maxHeartbeats 16000000 in
set_option maxRecDepth 100000 in
theorem pLawExamples : PureOk Try.prog G 12 sLawExamples := by
  refine fn0 (S := [(40,sGroveY),(28,sAlive),(34,sIllL),(35,sCleanL),(22,sSoonEr),(15,sIll),(24,sChain),(17,sGifts),(26,sCheckW)]) (I := [(40,a40)]) mixed
    (.cons pGroveY (.cons pAlive (.cons pIllL (.cons pCleanL (.cons pSoonEr (.cons pIll (.cons pChain (.cons pGifts (.cons pCheckW .nil))))))))) (.cons Try.func40 c40 .nil) Try.func12 c12 ?_
  obtain ⟨X,qX,qx,qi⟩ := Ey.exX
  have qa := fun f => (qX f).1
  have qb := fun f => (qX f).2
  obtain ⟨y0,y1,y2,y3,y4,y5,y6⟩ := Ey.lay
  have y7 := Ey.lay1
  simp only [Ey.PLs,Ey.QLs,pmV,plV,Val.toInt] at y0 y1 y2 y3 y4 y5 y6 y7
  have y8 := Ey.lay2
  have y9 := Ey.lay3
  simp only [Ey.PLs,pmV,Val.toInt] at y8 y9
  have eg : (⟨(4,fun i => Ey.gvC.palms.2 i),(4,fun i => Ey.gvC.places.2 i),60,50,20,1000,(1,fun i => Ey.gvC.sus.2 i)⟩ : Gv) = Ey.gvC := rfl
  have ew := Ey.ewild
  have ey := Ey.eyoung
  have k1 := fun (f : Nat → Sg) => (Ey.no5 (f := f)).1
  have k2 := fun (f : Nat → Sg) => (Ey.no5 (f := f)).2
  have k3 := fun (f : Nat → Sg) h0 h1 => (Ey.clash (f := f) h0 h1).1
  have k4 := fun (f : Nat → Sg) h0 h1 => (Ey.clash (f := f) h0 h1).2
  have k5 := fun (f : Nat → Sg) h0 => (Ey.trap (f := f) h0).1
  have k6 := fun (f : Nat → Sg) h0 => (Ey.trap (f := f) h0).2
  have qs := qx (fun i => ([1,1,0,0] : List Int).getD i 0) rfl rfl rfl rfl
  simp (maxSteps := 16000000) only [RunTo,a12,a40,sGroveY,sAlive,sIllL,sCleanL,sSoonEr,sIll,sChain,sGifts,sCheckW,y0,y1,y2,y3,y4,y5,y6,y7,y8,y9,eg,ew,ey,qa,qb,qs,k1,k2,k3,k4,k5,k6,Ey.elone,Ey.elone',Ey.many31,Ey.noSign,Ey.early,Ey.earlyD,Nat.not_lt_zero,and_false,flatO,↓imp_tt,↓imp_tf,↓imp_ft,↓imp_ff,runO_3,runO_4,runO_5,runO_14,runO_17,runO_18,runO_19,aop,binV,ends,reOk,Nat.zero_sub,ev,fget,fput,params,cellsOf,cellsN,isLB,vget,vset,vsets,vlen,bget,bset,bdel,addB,addN,mkv,sliceV,vtab,fillV,fillOk,rowsV,rowsOk,vrep,frz,opOwns,preFz,callFz,ownsL,owns,skipOp,WfT,resV,res1,norm,norms,norm1,normL,pureB,pureL,flatB,onesB,snapV,snapOk,snapL,snapOks,specV,argsL,capsL,mkE_S,mkE_I,mkE_G,lkp,pickV,subFr,subV,subBx,subStk,Fin,vp_bool,Val.toInt,Val.slen,Val.scell,↓reduceIte,reduceCtorEq,Nat.reduceEqDiff,Nat.reduceAdd,Nat.reduceSub,Nat.reduceLeDiff,Nat.reduceLT,Nat.zero_add,Nat.add_zero,Int.reduceToNat,Int.cast_ofNat_Int,Int.reduceLT,Int.reduceLE,Int.reduceNeg,Int.reduceMul,List.length_cons,List.length_nil,List.nil_append,List.cons_append,List.append_nil,List.flatMap_cons,List.flatMap_nil,Bool.and_true,Bool.and_false,Bool.and_self,bne_self_eq_false,Bool.not_true,Bool.not_false,beq_self_eq_true,and_true,true_and,and_self,and_assoc,forall_const,imp_self,implies_true,Nat.le_refl,false_implies,maxLen,Nat.reducePow,spec0,spec1,spec2,spec3,TSl,IsSl,TInt,IsInt,RInt,Prod.eta,Pm.c0,Pm.c1,Pm.c2,Pm.c3,Pm.c4,RPm,Pm.w_c,Pm.d,Pm.eta,Pl.c0,Pl.c1,RPl,Pl.w_c,Pl.d,Pl.eta,Gv.L,Gv.Is,Gv.of,TGv,Gv.d,Gv.eta,Sg.L,RSg,Sg.d,toUI_val]
  repeat' (with_reducible apply And.intro)
  all_goals intro i hi
  all_goals first
    | exact qi i hi
    | (simp only [Sg.w]
       repeat' apply And.intro
       all_goals first | rfl | decide)
    | (rcases (by omega : i = 0 ∨ i = 1 ∨ i = 2 ∨ i = 3) with rfl | rfl | rfl | rfl
       all_goals first
         | (exfalso; omega)
         | rfl
         | (simp only [Pm.w,Pl.w,Sg.w]
            repeat' apply And.intro
            all_goals first | rfl | decide))
end Go.Proofs.Ytpknbojgkkmonaa
