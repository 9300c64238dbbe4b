/- Groves, the program: told. No condition but bounds. -/
import Derived.Test.YtpknbojgkkmonaaWProg5
set_option linter.unusedSimpArgs false
set_option linter.unusedVariables false
namespace Go.Proofs.Ytpknbojgkkmonaa
open Go Go.RowKit
variable {G : Nat → Option (Nat × (Nat → Val))}
noncomputable def sTold : Spec := spec2 TPt (TSl RSg) (fun g _ => GvOk g) fun g l => .int .i64 (sgsE g l)
set_option maxHeartbeats 2000000 in
set_option maxRecDepth 100000 in
theorem pTold : PureOk Try.prog G 70 sTold := by
  refine fn2 (S := [(63,sInP),(77,sPlaced)]) (I := [(64,a64),(65,a65),(82,a82),(83,a83),(84,a84),(85,a85),(86,a86),(91,a91),(92,a92)]) mixed (.cons pInP (.cons pPlaced .nil)) (.cons Try.func64 c64 (.cons Try.func65 c65 (.cons Try.func82 c82 (.cons Try.func83 c83 (.cons Try.func84 c84 (.cons Try.func85 c85 (.cons Try.func86 c86 (.cons Try.func91 c91 (.cons Try.func92 c92 .nil))))))))) Try.func70 c70 fun g l hg hw => ?_
  simp only [TPt,Pt.L,vl,WfT,Val.toInt,Val.slen,Val.scell,Nat.reduceSub,and_true,true_and,and_self,and_assoc,maxLen,Nat.reducePow,TSl,RInt,RPm,Pm.d,RPl,Pl.d,RSg,Sg.d] at hw
  have h0 := gvE_ok hg
  simp only [RunTo,a70,a64,a65,a92,TPt,Pt.L,hw,noIt,runO_3,runO_4,runO_5,runO_6,runO_14,runO_15,runO_17,runO_18,runO_19,aop,binV,ends,reOk,Nat.zero_sub,ev,evs,fget,fput,params,cellsOf,cellsN,isLB,vget,vset,vsets,vlen,bget,bset,addB,addN,mkv,sliceV,vtab,fillV,fillOk,frz,opOwns,preFz,skipOp,WfT,resV,res1,onesB,snapV,snapOk,argsL,capsL,mkE_S,mkE_I,lkp,lenV,Fin,vp_int,Val.toInt,Val.slen,Val.scell,↓reduceIte,reduceCtorEq,Nat.reduceEqDiff,Nat.reduceAdd,Nat.reduceSub,Nat.reduceLeDiff,Nat.zero_add,Int.reduceNeg,List.length_cons,List.length_nil,List.append_nil,Bool.and_self,true_and,and_self,forall_const,Nat.le_refl,decide_eq_true_eq,decide_eq_false_iff_not,Val.int.injEq,maxLen,Nat.reducePow,TSl,RInt,RPm,Pm.d,RPl,Pl.d,RSg,Sg.d]
  refine ⟨fun h => (sgsE_many h0 (by omega)).symm,fun h => ?_⟩
  have h2 : ¬ l.1 > 30 := by omega
  repeat' (first | omega | (with_reducible apply And.intro) | intro _)
  refine loopI (ι := Nat) (fun j => j ≤ l.1 ∧ ∀ i,i < j → SgOk g (l.2 i)) (fun j => l.1 - j) [0,1,7] (fun j => [(8,.int .i64 j)]) (fun _ => []) 0 ⟨by omega,fun i h => by omega⟩ (by
    simp only [Chk,chkFr,chkBx,chkBx1,hasB,idsLt,kept,vs_int,vs_nil,vs_ptr,vs_cons,vs_func,vs_view,vs_mview,vs_mapb,fget,isLB,bget,vsubP_self,↓reduceIte,reduceCtorEq,Nat.reduceEqDiff,Nat.reduceLT,Int.cast_ofNat_Int,and_true,true_and,and_self,forall_const,implies_true,Option.some.injEq,exists_eq',keepF,appF,updB]
    intro k _
    by_cases e3 : k = 3
    · simp only [e3,hasB,vs_nil,vs_ptr,vs_cons,vs_agg,vs_func,bget,↓reduceIte,Nat.reduceEqDiff,and_self,Option.some.injEq,exists_eq']
    · by_cases e2 : k = 2
      · simp only [e2,hasB,vs_nil,vs_ptr,vs_cons,vs_agg,vs_func,bget,↓reduceIte,Nat.reduceEqDiff,Int.reduceEq,and_self,Option.some.injEq,exists_eq']
      · by_cases e1 : k = 1
        · simp only [e1,hasB,vs_nil,vs_ptr,vs_cons,vs_agg,vs_func,bget,↓reduceIte,Nat.reduceEqDiff,Int.reduceEq,and_self,Option.some.injEq,exists_eq']
        · simp only [e1,e2,e3,vs_und,↓reduceIte]) fun j hj => ?_
  obtain ⟨hj1,hj2⟩ := hj
  by_cases hjl : j < l.1
  · have fj : ((j : Int) < (l.1 : Int)) = True := eq_true (by omega)
    have fg : ((j : Int) ≥ 0) = True := eq_true (by omega)
    by_cases hS : SgOk g (l.2 j)
    · have nx : ∀ i,i < j + 1 → SgOk g (l.2 i) := fun i hi => by
        rcases Nat.lt_or_ge i j with h5 | h5
        · exact hj2 i h5
        · obtain rfl : i = j := by omega
          exact hS
      have f1 := eq_true hS.1
      rcases hS.2 with ⟨hk,hm,hpl⟩ | ⟨hk,ht,hne⟩
      · have hk1 := hasP_hit.2 hm
        have hk2 := hg.pms.lst hk1
        have f2 := eq_true hpl
        rcases hk with hk | hk
        all_goals
          simp only [sInP,sPlaced,a82,a85,a91,fj,hk,hk1,hk2,f2,hw,flatO,↓imp_tt,↓imp_tf,↓imp_ft,↓imp_ff,runO_3,runO_4,runO_5,runO_6,runO_8,runO_14,runO_16,runO_17,runO_18,runO_19,aop,binV,ends,reOk,Nat.zero_sub,ev,fget,fput,params,cellsOf,cellsN,isLB,vget,vset,vsets,vlen,bget,bset,addB,addN,mkv,sliceV,vtab,rowsV,rowsOk,vrep,frz,opOwns,preFz,callFz,owns,skipOp,WfT,resV,res1,casts,castOks,cast1,castOk,norm,norm1,normL,pureB,pureL,flatB,onesB,snapV,snapOk,snapL,snapOks,specV,argsL,capsL,mkE_S,mkE_I,mkE_G,lkp,pickV,mgetV,stkFr,stkNx,Val.toInt,Val.slen,Val.scell,↓reduceIte,reduceCtorEq,Nat.reduceEqDiff,Nat.reduceAdd,Nat.reduceSub,Nat.reduceLeDiff,Nat.reduceLT,Nat.zero_add,Nat.add_zero,Int.reduceEq,Int.reduceNeg,decide_true,List.length_cons,List.length_nil,List.nil_append,List.cons_append,List.append_nil,List.flatMap_cons,List.flatMap_nil,Bool.not_eq_true',Bool.not_eq_false',Bool.and_true,Bool.and_false,Bool.and_self,Bool.bne_false,bne_self_eq_false,Bool.not_true,and_true,true_and,and_self,and_assoc,forall_const,imp_self,implies_true,Nat.le_refl,decide_eq_true_eq,decide_eq_false_iff_not,Val.int.injEq,maxLen,Nat.reducePow,keepF,appF,updB,inat,spec1,spec3,TSl,IsSl,TInt,IsInt,RInt,Pm.c2,Pl.L,Pl.Is,Pl.of,TPl,Pl.d,Sg.c0,Sg.c1,Sg.c2,Sg.c3,Sg.c4,Sg.c5]
          simp only [lt1,allB_1,f1,vget,decide_true,Bool.true_eq_false,true_and,forall_const,false_implies]
          refine ⟨by omega,by omega,by omega,?_⟩
          refine inv_intro (j + 1) ⟨by omega,nx⟩ (by omega) ?_
          simp only [Chk,chkFr,chkBx,chkBx1,hasB,idsLt,kept,vs_int,vs_nil,vs_ptr,vs_cons,vs_func,vs_view,vs_mview,vs_mapb,Nat.lt_irrefl,fget,isLB,bget,vsubP_self,↓reduceIte,reduceCtorEq,Nat.reduceEqDiff,Nat.reduceLT,and_true,true_and,and_self,forall_const,implies_true,Option.some.injEq,Val.int.injEq,exists_eq',false_implies]
          rw [wrS (by omega)]
          refine ⟨rfl,?_⟩
          intro k _
          by_cases e3 : k = 3
          · simp only [e3,hasB,vs_nil,vs_ptr,vs_cons,vs_agg,vs_func,bget,↓reduceIte,Nat.reduceEqDiff,and_self,Option.some.injEq,exists_eq']
          · by_cases e2 : k = 2
            · simp only [e2,hasB,vs_nil,vs_ptr,vs_cons,vs_agg,vs_func,bget,↓reduceIte,Nat.reduceEqDiff,Int.reduceEq,and_self,Option.some.injEq,exists_eq']
            · by_cases e1 : k = 1
              · simp only [e1,hasB,vs_nil,vs_ptr,vs_cons,vs_agg,vs_func,bget,↓reduceIte,Nat.reduceEqDiff,Int.reduceEq,and_self,Option.some.injEq,exists_eq']
              · simp only [e1,e2,e3,vs_und,↓reduceIte]
      · have e1 := decP_t ht
        have f2 := eq_true hne
        simp only [sInP,sPlaced,a82,a85,a91,fj,hk,e1,hw,flatO,↓imp_tt,↓imp_tf,↓imp_ft,↓imp_ff,runO_3,runO_4,runO_5,runO_6,runO_8,runO_14,runO_16,runO_17,runO_18,runO_19,aop,binV,ends,reOk,Nat.zero_sub,ev,fget,fput,params,cellsOf,cellsN,isLB,vget,vset,vsets,vlen,bget,bset,addB,addN,mkv,sliceV,vtab,rowsV,rowsOk,vrep,frz,opOwns,preFz,callFz,owns,skipOp,WfT,resV,res1,casts,castOks,cast1,castOk,norm,norms,norm1,normL,pureB,pureL,flatB,onesB,snapV,snapOk,snapL,snapOks,specV,argsL,capsL,mkE_S,mkE_I,mkE_G,lkp,pickV,mgetV,stkFr,stkNx,Val.toInt,Val.slen,Val.scell,↓reduceIte,reduceCtorEq,Nat.reduceEqDiff,Nat.reduceAdd,Nat.reduceSub,Nat.reduceLeDiff,Nat.reduceLT,Nat.zero_add,Nat.add_zero,Int.reduceNeg,decide_true,List.length_cons,List.length_nil,List.nil_append,List.cons_append,List.append_nil,List.flatMap_cons,List.flatMap_nil,Bool.not_eq_true',Bool.not_eq_false',Bool.and_true,Bool.and_false,Bool.and_self,Bool.bne_false,bne_self_eq_false,Bool.not_true,and_true,true_and,and_self,forall_const,imp_self,implies_true,Nat.le_refl,decide_eq_true_eq,decide_eq_false_iff_not,Val.int.injEq,maxLen,Nat.reducePow,keepF,appF,updB,inat,spec1,spec3,TSl,IsSl,TInt,IsInt,RInt,Pl.L,Pl.Is,Pl.of,TPl,Pl.d,Pl.eta,Sg.c0,Sg.c1,Sg.c2,Sg.c3,Sg.c4,Sg.c5]
        simp only [lt1,allB_1,f1,f2,vget,decide_true,Bool.not_true,Bool.true_eq_false,true_and,forall_const,false_implies]
        refine ⟨by omega,?_⟩
        refine inv_intro (j + 1) ⟨by omega,nx⟩ (by omega) ?_
        simp only [Chk,chkFr,chkBx,chkBx1,hasB,idsLt,kept,vs_int,vs_nil,vs_ptr,vs_cons,vs_func,vs_view,vs_mview,vs_mapb,Nat.lt_irrefl,fget,isLB,bget,vsubP_self,↓reduceIte,reduceCtorEq,Nat.reduceEqDiff,Nat.reduceLT,and_true,true_and,and_self,forall_const,implies_true,Option.some.injEq,Val.int.injEq,exists_eq',false_implies]
        rw [wrS (by omega)]
        refine ⟨rfl,?_⟩
        intro k _
        by_cases e3 : k = 3
        · simp only [e3,hasB,vs_nil,vs_ptr,vs_cons,vs_agg,vs_func,bget,↓reduceIte,Nat.reduceEqDiff,and_self,Option.some.injEq,exists_eq']
        · by_cases e2 : k = 2
          · simp only [e2,hasB,vs_nil,vs_ptr,vs_cons,vs_agg,vs_func,bget,↓reduceIte,Nat.reduceEqDiff,Int.reduceEq,and_self,Option.some.injEq,exists_eq']
          · by_cases e1 : k = 1
            · simp only [e1,hasB,vs_nil,vs_ptr,vs_cons,vs_agg,vs_func,bget,↓reduceIte,Nat.reduceEqDiff,Int.reduceEq,and_self,Option.some.injEq,exists_eq']
            · simp only [e1,e2,e3,vs_und,↓reduceIte]
    · have eg : sgsE g l = 91 := sgsE_no h0 h2 fun k => hS (k j hjl)
      by_cases hd : g.start ≤ (l.2 j).day ∧ (l.2 j).day ≤ 100000
      · have f1 := eq_true hd
        by_cases hk : (l.2 j).kind = 1 ∨ (l.2 j).kind = 2
        · have hno : hitN g.palms (l.2 j).palm < g.palms.1 → ¬ (g.palms.2 (hitN g.palms (l.2 j).palm)).planted ≤ (l.2 j).day := fun h1 h3 => hS ⟨hd,.inl ⟨hk,h1,h3⟩⟩
          cases hm : hasP g.palms (l.2 j).palm with
          | true =>
            have hm2 := hasP_hit.1 hm
            have hk2 := hg.pms.lst hm
            have f2 := eq_false (hno hm2)
            rcases hk with hk | hk
            all_goals
              simp only [sInP,sPlaced,a82,a85,a91,fj,fg,eg,f2,hm,hk2,hk,hw,flatO,↓imp_tt,↓imp_tf,↓imp_ft,↓imp_ff,runO_3,runO_4,runO_5,runO_6,runO_14,runO_17,runO_18,runO_19,aop,binV,ends,reOk,Nat.zero_sub,ev,fget,fput,params,cellsOf,cellsN,isLB,vget,vset,vsets,vlen,bget,bset,addB,addN,mkv,sliceV,vtab,rowsV,rowsOk,vrep,frz,opOwns,preFz,callFz,owns,skipOp,WfT,resV,res1,casts,castOks,cast1,castOk,norm,norm1,normL,pureB,pureL,flatB,onesB,snapV,snapOk,snapL,snapOks,specV,argsL,capsL,mkE_S,mkE_I,mkE_G,lkp,pickV,mgetV,stkFr,stkNx,Val.toInt,Val.slen,Val.scell,↓reduceIte,reduceCtorEq,Nat.reduceEqDiff,Nat.reduceAdd,Nat.reduceSub,Nat.reduceLeDiff,Nat.reduceLT,Nat.zero_add,Nat.add_zero,Int.reduceEq,Int.reduceNeg,decide_true,decide_false,List.length_cons,List.length_nil,List.nil_append,List.cons_append,List.append_nil,List.flatMap_cons,List.flatMap_nil,Bool.not_eq_true',Bool.not_eq_false',Bool.and_true,Bool.and_false,Bool.and_self,Bool.bne_false,bne_self_eq_false,Bool.not_true,Bool.not_false,and_true,true_and,and_self,forall_const,imp_self,implies_true,Nat.le_refl,maxLen,Nat.reducePow,keepF,appF,updB,inat,spec1,spec3,TSl,IsSl,TInt,IsInt,RInt,Pm.c2,Pl.L,Pl.Is,Pl.of,TPl,Pl.d,Sg.c0,Sg.c1,Sg.c2,Sg.c3,Sg.c4,Sg.c5]
              try simp only [lt1,allB_1,f1,vget,decide_true,true_and,forall_const]
              try omega
          | false =>
            rcases hk with hk | hk
            all_goals
              simp only [sInP,sPlaced,a82,a85,a91,fj,fg,eg,hm,hk,hw,flatO,↓imp_tt,↓imp_tf,↓imp_ft,↓imp_ff,runO_3,runO_4,runO_5,runO_6,runO_14,runO_17,runO_18,runO_19,aop,binV,ends,reOk,Nat.zero_sub,ev,fget,fput,params,cellsOf,cellsN,isLB,vget,vset,vsets,vlen,bget,bset,addB,addN,mkv,sliceV,vtab,rowsV,rowsOk,vrep,frz,opOwns,preFz,callFz,owns,skipOp,WfT,resV,res1,casts,castOks,cast1,castOk,norm,norm1,normL,pureB,pureL,flatB,onesB,snapV,snapOk,snapL,snapOks,specV,argsL,capsL,mkE_S,mkE_I,mkE_G,lkp,pickV,mgetV,stkFr,stkNx,Val.toInt,Val.slen,Val.scell,↓reduceIte,reduceCtorEq,Nat.reduceEqDiff,Nat.reduceAdd,Nat.reduceSub,Nat.reduceLeDiff,Nat.reduceLT,Nat.zero_add,Nat.add_zero,Int.reduceEq,Int.reduceNeg,decide_true,List.length_cons,List.length_nil,List.nil_append,List.cons_append,List.append_nil,List.flatMap_cons,List.flatMap_nil,Bool.not_eq_true',Bool.not_eq_false',Bool.and_true,Bool.and_false,Bool.and_self,Bool.bne_true,Bool.bne_false,bne_self_eq_false,Bool.not_true,Bool.not_false,and_true,true_and,and_self,forall_const,imp_self,implies_true,Nat.le_refl,maxLen,Nat.reducePow,keepF,appF,updB,inat,spec1,spec3,TSl,IsSl,TInt,IsInt,RInt,Pl.L,Pl.Is,Pl.of,TPl,Pl.d,Sg.c0,Sg.c1,Sg.c2,Sg.c3,Sg.c4,Sg.c5]
              try simp only [lt1,vget]
              try omega
        · by_cases hk3 : (l.2 j).kind = 3
          · by_cases hp : PlOk (l.2 j).trap
            · have f2 : (0 ≤ (l.2 j).near ∧ (l.2 j).near ≤ 10000) = False := eq_false fun h => hS ⟨hd,.inr ⟨hk3,hp,h⟩⟩
              have e1 := decP_t hp
              simp only [sInP,sPlaced,a82,a85,a91,fj,fg,eg,hk3,e1,hw,flatO,↓imp_tt,↓imp_tf,↓imp_ft,↓imp_ff,runO_3,runO_4,runO_5,runO_6,runO_8,runO_14,runO_16,runO_17,runO_18,runO_19,aop,binV,ends,reOk,Nat.zero_sub,ev,fget,fput,params,cellsOf,cellsN,isLB,vget,vset,vsets,vlen,bget,bset,addB,addN,mkv,sliceV,vtab,rowsV,rowsOk,vrep,frz,opOwns,preFz,callFz,owns,skipOp,WfT,resV,res1,casts,castOks,cast1,castOk,norm,norms,norm1,normL,pureB,pureL,flatB,onesB,snapV,snapOk,snapL,snapOks,specV,argsL,capsL,mkE_S,mkE_I,mkE_G,lkp,pickV,mgetV,stkFr,stkNx,Val.toInt,Val.slen,Val.scell,↓reduceIte,reduceCtorEq,Nat.reduceEqDiff,Nat.reduceAdd,Nat.reduceSub,Nat.reduceLeDiff,Nat.reduceLT,Nat.zero_add,Nat.add_zero,Int.reduceNeg,decide_true,List.length_cons,List.length_nil,List.nil_append,List.cons_append,List.append_nil,List.flatMap_cons,List.flatMap_nil,Bool.not_eq_true',Bool.not_eq_false',Bool.and_true,Bool.and_false,Bool.and_self,Bool.bne_false,bne_self_eq_false,Bool.not_true,and_true,true_and,and_self,forall_const,imp_self,implies_true,Nat.le_refl,maxLen,Nat.reducePow,keepF,appF,updB,inat,spec1,spec3,TSl,IsSl,TInt,IsInt,RInt,Pl.L,Pl.Is,Pl.of,TPl,Pl.d,Pl.eta,Sg.c0,Sg.c1,Sg.c2,Sg.c3,Sg.c4,Sg.c5]
              try simp only [lt1,allB_1,f1,f2,vget,decide_true,decide_false,Bool.not_false,Bool.false_eq_true,and_self,forall_const,false_implies]
              try omega
            · have e1 := decP_f hp
              simp only [sInP,sPlaced,a82,a85,a91,fj,fg,eg,hk3,e1,hw,flatO,↓imp_tt,↓imp_tf,↓imp_ft,↓imp_ff,runO_3,runO_4,runO_5,runO_6,runO_14,runO_17,runO_18,runO_19,aop,binV,ends,reOk,Nat.zero_sub,ev,fget,fput,params,cellsOf,cellsN,isLB,vget,vset,vsets,vlen,bget,bset,addB,addN,mkv,sliceV,vtab,rowsV,rowsOk,vrep,frz,opOwns,preFz,callFz,owns,skipOp,WfT,resV,res1,casts,castOks,cast1,castOk,norm,norms,norm1,normL,pureB,pureL,flatB,onesB,snapV,snapOk,snapL,snapOks,specV,argsL,capsL,mkE_S,mkE_I,mkE_G,lkp,pickV,mgetV,stkFr,stkNx,Val.toInt,Val.slen,Val.scell,↓reduceIte,reduceCtorEq,Nat.reduceEqDiff,Nat.reduceAdd,Nat.reduceSub,Nat.reduceLeDiff,Nat.reduceLT,Nat.zero_add,Nat.add_zero,Int.reduceNeg,decide_true,List.length_cons,List.length_nil,List.nil_append,List.cons_append,List.append_nil,List.flatMap_cons,List.flatMap_nil,Bool.not_eq_true',Bool.not_eq_false',Bool.and_true,Bool.and_false,Bool.and_self,Bool.bne_true,Bool.bne_false,bne_self_eq_false,Bool.not_true,Bool.not_false,and_true,true_and,and_self,forall_const,imp_self,implies_true,Nat.le_refl,maxLen,Nat.reducePow,keepF,appF,updB,inat,spec1,spec3,TSl,IsSl,TInt,IsInt,RInt,Pl.L,Pl.Is,Pl.of,TPl,Pl.d,Pl.eta,Sg.c0,Sg.c1,Sg.c2,Sg.c3,Sg.c4,Sg.c5]
              try simp only [lt1,vget]
              try omega
          · have k1 : ((l.2 j).kind = 1) = False := eq_false fun h => hk (.inl h)
            have k2 : ((l.2 j).kind = 2) = False := eq_false fun h => hk (.inr h)
            have k3 : ((l.2 j).kind = 3) = False := eq_false hk3
            simp only [sInP,sPlaced,a82,a85,a91,fj,fg,eg,k1,k2,k3,hw,↓imp_tt,↓imp_tf,runO_3,runO_4,runO_5,runO_6,runO_14,runO_17,runO_18,runO_19,aop,binV,ends,reOk,Nat.zero_sub,ev,fget,fput,params,cellsOf,cellsN,isLB,vget,vset,vsets,vlen,bget,bset,addB,addN,mkv,sliceV,vtab,frz,opOwns,preFz,skipOp,WfT,resV,res1,casts,castOks,cast1,castOk,onesB,snapV,snapOk,argsL,capsL,mkE_S,mkE_I,lkp,pickV,mgetV,stkFr,stkNx,Val.toInt,Val.slen,Val.scell,↓reduceIte,reduceCtorEq,Nat.reduceEqDiff,Nat.reduceAdd,Nat.reduceSub,Nat.reduceLeDiff,Nat.reduceLT,Nat.zero_add,Nat.add_zero,Int.reduceNeg,decide_true,List.length_cons,List.length_nil,List.nil_append,List.cons_append,Bool.and_self,Bool.bne_false,Bool.not_false,and_true,and_self,forall_const,imp_self,implies_true,Nat.le_refl,maxLen,Nat.reducePow,keepF,appF,updB,inat,spec1,spec3,TSl,IsSl,TInt,IsInt,RInt,Pl.L,Pl.Is,Pl.of,TPl,Pl.d,Sg.c0,Sg.c1,Sg.c2,Sg.c3,Sg.c4,Sg.c5]
            try simp only [lt1,allB_1,a82,a85,sInP,sPlaced,fj,fg,eg,f1,k1,k2,k3,flatO,noIt,FinS,Spec.mine,↓imp_tt,↓imp_tf,↓imp_ft,↓imp_ff,runO_1,runO_2,runO_3,runO_4,runO_5,runO_6,runO_7,runO_8,runO_9,runO_10,runO_11,runO_12,runO_13,runO_14,runO_15,runO_16,runO_17,runO_18,runO_19,aop,binV,ends,asgB,RoundP,roundIn,keepS,putL,reOk,dstV,Jmp.acode,List.map_cons,List.map_nil,Nat.zero_sub,ev,evs,fget,fput,params,vl,cellsOf,cellsN,isLB,vget,vset,vsets,vlen,bget,bset,bdel,addB,addN,mkv,sliceV,vtab,fillV,fillOk,rowsV,rowsOk,vrep,frz,opOwns,preFz,callFz,ownsL,owns,skipOp,WfT,resV,resL,res1,casts,castOks,cast1,castOk,norm,norms,norm1,normL,pureB,pureL,flatB,onesB,snapV,snapOk,snapL,snapOks,specV,argsL,capsL,mkE_S,mkE_I,mkE_G,mkE_X,mkX_S,mkX_I,mkX_G,mkX_X,eatR,eatB,eatI,lkp,eqCells,eqOk,pickV,mgetV,optInt,lenV,subFr,subV,subBx,subStk,elemsV,popTo,stkFr,stkNx,Fin,vp_und,vp_int,vp_bool,vp_nil,vp_nils,vp_nilf,vp_nilp,vp_cons,vp_agg,vp_tup,vp_func,vp_view,vp_viewn,vp_vptr,vp_mview,vsubP_self,Val.toInt,Val.toBool,Val.slen,Val.scell,↓reduceIte,reduceCtorEq,Nat.reduceEqDiff,Nat.reduceAdd,Nat.reduceSub,Nat.reduceLeDiff,Nat.reduceMul,Nat.reduceLT,Nat.zero_add,Nat.add_zero,Nat.mul_one,Nat.zero_mul,Nat.sub_zero,Int.reduceToNat,Int.cast_ofNat_Int,Int.reduceLT,Int.reduceLE,Int.reduceEq,Int.reduceNeg,Int.reduceMul,Int.reduceAdd,Int.reduceSub,Int.reduceNe,Int.reduceBEq,Int.reduceBNe,decide_true,decide_false,beq_iff_eq,beq_eq_false_iff_ne,bne_iff_ne,bne_eq_false_iff_eq,List.length_cons,List.length_nil,List.nil_append,List.cons_append,List.append_nil,List.flatMap_cons,List.flatMap_nil,Bool.not_eq_true',Bool.not_eq_false',Bool.and_true,Bool.and_false,Bool.true_and,Bool.false_and,Bool.and_self,Bool.bne_true,Bool.bne_false,bne_self_eq_false,Bool.not_true,Bool.not_false,Bool.true_eq_false,Bool.false_eq_true,beq_self_eq_true,and_true,true_and,and_self,and_assoc,forall_const,imp_self,implies_true,Nat.le_refl,decide_eq_true_eq,decide_eq_false_iff_not,Option.some.injEq,Val.int.injEq,Val.bool.injEq,Val.cons.injEq,Val.agg.injEq,Val.tup.injEq,exists_eq_left',exists_eq',exists_eq_right,exists_eq_right',exists_const,exists_and_left,exists_and_right,ne_eq,not_false_eq_true,true_implies,false_implies,or_true,true_or,or_false,false_or,not_true_eq_false,not_false_eq_true,maxLen,Nat.reducePow,keepF,appF,updB,inat,inat1,spec0,spec1,spec2,spec3,spec4,spec5,TSl,IsSl,TInt,IsInt,TBool,IsBool,RInt,RBool,RSl,Prod.eta,Pm.L,Pm.c0,Pm.c1,Pm.c2,Pm.c3,Pm.c4,Pm.Is,Pm.of,TPm,RPm,Pm.w_c,Pm.d_c,Pm.d,Pm.eta,Pl.L,Pl.c0,Pl.c1,Pl.Is,Pl.of,TPl,RPl,Pl.w_c,Pl.d_c,Pl.d,Pl.eta,Gv.L,Gv.c0,Gv.c1,Gv.c2,Gv.c3,Gv.c4,Gv.c5,Gv.c6,Gv.Is,Gv.of,TGv,RGv,Gv.w_c,Gv.d_c,Gv.d,Gv.eta,Sg.L,Sg.c0,Sg.c1,Sg.c2,Sg.c3,Sg.c4,Sg.c5,Sg.Is,Sg.of,TSg,RSg,Sg.w_c,Sg.d_c,Sg.d,Sg.eta,toUI_val]
            try omega
      · have f1 := eq_false hd
        by_cases hk1 : (l.2 j).kind = 1
        · simp only [sInP,sPlaced,a82,a85,a91,fj,fg,eg,hk1,hw,flatO,↓imp_tt,↓imp_tf,↓imp_ft,↓imp_ff,runO_3,runO_4,runO_5,runO_6,runO_8,runO_14,runO_16,runO_17,runO_18,runO_19,aop,binV,ends,reOk,Nat.zero_sub,ev,fget,fput,params,cellsOf,cellsN,isLB,vget,vset,vsets,vlen,bget,bset,addB,addN,mkv,sliceV,vtab,rowsV,rowsOk,vrep,frz,opOwns,preFz,callFz,owns,skipOp,WfT,resV,res1,casts,castOks,cast1,castOk,norm,norm1,normL,pureB,pureL,flatB,onesB,snapV,snapOk,snapL,snapOks,specV,argsL,capsL,mkE_S,mkE_I,mkE_G,lkp,pickV,mgetV,stkFr,stkNx,Val.toInt,Val.slen,Val.scell,↓reduceIte,reduceCtorEq,Nat.reduceEqDiff,Nat.reduceAdd,Nat.reduceSub,Nat.reduceLeDiff,Nat.reduceLT,Nat.zero_add,Nat.add_zero,Int.reduceEq,Int.reduceNeg,decide_true,List.length_cons,List.length_nil,List.nil_append,List.cons_append,List.append_nil,List.flatMap_cons,List.flatMap_nil,Bool.not_eq_true',Bool.not_eq_false',Bool.and_true,Bool.and_false,Bool.and_self,Bool.bne_true,Bool.bne_false,bne_self_eq_false,Bool.not_true,Bool.not_false,and_true,true_and,and_self,forall_const,imp_self,implies_true,Nat.le_refl,maxLen,Nat.reducePow,keepF,appF,updB,inat,spec1,spec3,TSl,IsSl,TInt,IsInt,RInt,Pl.L,Pl.Is,Pl.of,TPl,Pl.d,Sg.c0,Sg.c1,Sg.c2,Sg.c3,Sg.c4,Sg.c5]
          try simp only [lt1,allB_1,f1,vget,decide_false,Bool.false_eq_true,and_self,false_implies]
          try omega
        · by_cases hk2 : (l.2 j).kind = 2
          · simp only [sInP,sPlaced,a82,a85,a91,fj,fg,eg,hk2,hw,flatO,↓imp_tt,↓imp_tf,↓imp_ft,↓imp_ff,runO_3,runO_4,runO_5,runO_6,runO_8,runO_14,runO_16,runO_17,runO_18,runO_19,aop,binV,ends,reOk,Nat.zero_sub,ev,fget,fput,params,cellsOf,cellsN,isLB,vget,vset,vsets,vlen,bget,bset,addB,addN,mkv,sliceV,vtab,rowsV,rowsOk,vrep,frz,opOwns,preFz,callFz,owns,skipOp,WfT,resV,res1,casts,castOks,cast1,castOk,norm,norm1,normL,pureB,pureL,flatB,onesB,snapV,snapOk,snapL,snapOks,specV,argsL,capsL,mkE_S,mkE_I,mkE_G,lkp,pickV,mgetV,stkFr,stkNx,Val.toInt,Val.slen,Val.scell,↓reduceIte,reduceCtorEq,Nat.reduceEqDiff,Nat.reduceAdd,Nat.reduceSub,Nat.reduceLeDiff,Nat.reduceLT,Nat.zero_add,Nat.add_zero,Int.reduceEq,Int.reduceNeg,decide_true,List.length_cons,List.length_nil,List.nil_append,List.cons_append,List.append_nil,List.flatMap_cons,List.flatMap_nil,Bool.not_eq_true',Bool.not_eq_false',Bool.and_true,Bool.and_false,Bool.and_self,Bool.bne_true,Bool.bne_false,bne_self_eq_false,Bool.not_true,Bool.not_false,and_true,true_and,and_self,forall_const,imp_self,implies_true,Nat.le_refl,maxLen,Nat.reducePow,keepF,appF,updB,inat,spec1,spec3,TSl,IsSl,TInt,IsInt,RInt,Pl.L,Pl.Is,Pl.of,TPl,Pl.d,Sg.c0,Sg.c1,Sg.c2,Sg.c3,Sg.c4,Sg.c5]
            try simp only [lt1,allB_1,f1,vget,decide_false,Bool.false_eq_true,and_self,false_implies]
            try omega
          · by_cases hk3 : (l.2 j).kind = 3
            · simp only [sInP,sPlaced,a82,a85,a91,fj,fg,eg,hk3,hw,flatO,↓imp_tt,↓imp_tf,↓imp_ft,↓imp_ff,runO_3,runO_4,runO_5,runO_6,runO_8,runO_14,runO_16,runO_17,runO_18,runO_19,aop,binV,ends,reOk,Nat.zero_sub,ev,fget,fput,params,cellsOf,cellsN,isLB,vget,vset,vsets,vlen,bget,bset,addB,addN,mkv,sliceV,vtab,rowsV,rowsOk,vrep,frz,opOwns,preFz,callFz,owns,skipOp,WfT,resV,res1,casts,castOks,cast1,castOk,norm,norms,norm1,normL,pureB,pureL,flatB,onesB,snapV,snapOk,snapL,snapOks,specV,argsL,capsL,mkE_S,mkE_I,mkE_G,lkp,pickV,mgetV,stkFr,stkNx,Val.toInt,Val.slen,Val.scell,↓reduceIte,reduceCtorEq,Nat.reduceEqDiff,Nat.reduceAdd,Nat.reduceSub,Nat.reduceLeDiff,Nat.reduceLT,Nat.zero_add,Nat.add_zero,Int.reduceNeg,decide_true,List.length_cons,List.length_nil,List.nil_append,List.cons_append,List.append_nil,List.flatMap_cons,List.flatMap_nil,Bool.not_eq_true',Bool.not_eq_false',Bool.and_true,Bool.and_false,Bool.and_self,Bool.bne_true,Bool.bne_false,bne_self_eq_false,Bool.not_true,Bool.not_false,and_true,true_and,and_self,forall_const,imp_self,implies_true,Nat.le_refl,maxLen,Nat.reducePow,keepF,appF,updB,inat,spec1,spec3,TSl,IsSl,TInt,IsInt,RInt,Pl.L,Pl.Is,Pl.of,TPl,Pl.d,Pl.eta,Sg.c0,Sg.c1,Sg.c2,Sg.c3,Sg.c4,Sg.c5]
              try simp only [lt1,allB_1,f1,vget,decide_false,Bool.false_eq_true,true_and,and_self,decide_eq_true_eq,false_implies]
              try omega
            · have k1 := eq_false hk1
              have k2 := eq_false hk2
              have k3 := eq_false hk3
              simp only [sInP,sPlaced,a82,a85,a91,fj,fg,eg,k1,k2,k3,hw,↓imp_tt,↓imp_tf,runO_3,runO_4,runO_5,runO_6,runO_14,runO_17,runO_18,runO_19,aop,binV,ends,reOk,Nat.zero_sub,ev,fget,fput,params,cellsOf,cellsN,isLB,vget,vset,vsets,vlen,bget,bset,addB,addN,mkv,sliceV,vtab,frz,opOwns,preFz,skipOp,WfT,resV,res1,casts,castOks,cast1,castOk,onesB,snapV,snapOk,argsL,capsL,mkE_S,mkE_I,lkp,pickV,mgetV,stkFr,stkNx,Val.toInt,Val.slen,Val.scell,↓reduceIte,reduceCtorEq,Nat.reduceEqDiff,Nat.reduceAdd,Nat.reduceSub,Nat.reduceLeDiff,Nat.reduceLT,Nat.zero_add,Nat.add_zero,Int.reduceNeg,decide_true,List.length_cons,List.length_nil,List.nil_append,List.cons_append,Bool.and_self,Bool.bne_false,Bool.not_false,and_true,and_self,forall_const,imp_self,implies_true,Nat.le_refl,maxLen,Nat.reducePow,keepF,appF,updB,inat,spec1,spec3,TSl,IsSl,TInt,IsInt,RInt,Pl.L,Pl.Is,Pl.of,TPl,Pl.d,Sg.c0,Sg.c1,Sg.c2,Sg.c3,Sg.c4,Sg.c5]
              try simp only [lt1,allB_1,a82,a85,sInP,sPlaced,fj,fg,eg,f1,k1,k2,k3,flatO,noIt,FinS,Spec.mine,↓imp_tt,↓imp_tf,↓imp_ft,↓imp_ff,runO_1,runO_2,runO_3,runO_4,runO_5,runO_6,runO_7,runO_8,runO_9,runO_10,runO_11,runO_12,runO_13,runO_14,runO_15,runO_16,runO_17,runO_18,runO_19,aop,binV,ends,asgB,RoundP,roundIn,keepS,putL,reOk,dstV,Jmp.acode,List.map_cons,List.map_nil,Nat.zero_sub,ev,evs,fget,fput,params,vl,cellsOf,cellsN,isLB,vget,vset,vsets,vlen,bget,bset,bdel,addB,addN,mkv,sliceV,vtab,fillV,fillOk,rowsV,rowsOk,vrep,frz,opOwns,preFz,callFz,ownsL,owns,skipOp,WfT,resV,resL,res1,casts,castOks,cast1,castOk,norm,norms,norm1,normL,pureB,pureL,flatB,onesB,snapV,snapOk,snapL,snapOks,specV,argsL,capsL,mkE_S,mkE_I,mkE_G,mkE_X,mkX_S,mkX_I,mkX_G,mkX_X,eatR,eatB,eatI,lkp,eqCells,eqOk,pickV,mgetV,optInt,lenV,subFr,subV,subBx,subStk,elemsV,popTo,stkFr,stkNx,Fin,vp_und,vp_int,vp_bool,vp_nil,vp_nils,vp_nilf,vp_nilp,vp_cons,vp_agg,vp_tup,vp_func,vp_view,vp_viewn,vp_vptr,vp_mview,vsubP_self,Val.toInt,Val.toBool,Val.slen,Val.scell,↓reduceIte,reduceCtorEq,Nat.reduceEqDiff,Nat.reduceAdd,Nat.reduceSub,Nat.reduceLeDiff,Nat.reduceMul,Nat.reduceLT,Nat.zero_add,Nat.add_zero,Nat.mul_one,Nat.zero_mul,Nat.sub_zero,Int.reduceToNat,Int.cast_ofNat_Int,Int.reduceLT,Int.reduceLE,Int.reduceEq,Int.reduceNeg,Int.reduceMul,Int.reduceAdd,Int.reduceSub,Int.reduceNe,Int.reduceBEq,Int.reduceBNe,decide_true,decide_false,beq_iff_eq,beq_eq_false_iff_ne,bne_iff_ne,bne_eq_false_iff_eq,List.length_cons,List.length_nil,List.nil_append,List.cons_append,List.append_nil,List.flatMap_cons,List.flatMap_nil,Bool.not_eq_true',Bool.not_eq_false',Bool.and_true,Bool.and_false,Bool.true_and,Bool.false_and,Bool.and_self,Bool.bne_true,Bool.bne_false,bne_self_eq_false,Bool.not_true,Bool.not_false,Bool.true_eq_false,Bool.false_eq_true,beq_self_eq_true,and_true,true_and,and_self,and_assoc,forall_const,imp_self,implies_true,Nat.le_refl,decide_eq_true_eq,decide_eq_false_iff_not,Option.some.injEq,Val.int.injEq,Val.bool.injEq,Val.cons.injEq,Val.agg.injEq,Val.tup.injEq,exists_eq_left',exists_eq',exists_eq_right,exists_eq_right',exists_const,exists_and_left,exists_and_right,ne_eq,not_false_eq_true,true_implies,false_implies,or_true,true_or,or_false,false_or,not_true_eq_false,not_false_eq_true,maxLen,Nat.reducePow,keepF,appF,updB,inat,inat1,spec0,spec1,spec2,spec3,spec4,spec5,TSl,IsSl,TInt,IsInt,TBool,IsBool,RInt,RBool,RSl,Prod.eta,Pm.L,Pm.c0,Pm.c1,Pm.c2,Pm.c3,Pm.c4,Pm.Is,Pm.of,TPm,RPm,Pm.w_c,Pm.d_c,Pm.d,Pm.eta,Pl.L,Pl.c0,Pl.c1,Pl.Is,Pl.of,TPl,RPl,Pl.w_c,Pl.d_c,Pl.d,Pl.eta,Gv.L,Gv.c0,Gv.c1,Gv.c2,Gv.c3,Gv.c4,Gv.c5,Gv.c6,Gv.Is,Gv.of,TGv,RGv,Gv.w_c,Gv.d_c,Gv.d,Gv.eta,Sg.L,Sg.c0,Sg.c1,Sg.c2,Sg.c3,Sg.c4,Sg.c5,Sg.Is,Sg.of,TSg,RSg,Sg.w_c,Sg.d_c,Sg.d,Sg.eta,toUI_val]
              try omega
  · have fj : ((j : Int) < (l.1 : Int)) = False := eq_false (by omega)
    have fm : ((-1 : Int) ≥ 0) = False := eq_false (by omega)
    simp only [fj,fm,↓imp_ft,↓imp_ff,runO_3,runO_4,runO_5,runO_9,runO_14,runO_17,runO_18,runO_19,aop,binV,ends,ev,fget,fput,addB,addN,frz,opOwns,preFz,skipOp,WfT,resV,res1,snapV,snapOk,popTo,stkFr,stkNx,↓reduceIte,reduceCtorEq,Nat.reduceEqDiff,Int.reduceNeg,decide_false,true_and,and_self,forall_const,Val.int.injEq,keepF,appF,updB]
    exact (sgsE_ok h0 h2 fun i hi => hj2 i (by omega)).symm
end Go.Proofs.Ytpknbojgkkmonaa
