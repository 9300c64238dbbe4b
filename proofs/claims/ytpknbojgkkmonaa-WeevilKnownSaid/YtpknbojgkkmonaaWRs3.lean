/- Groves, the reference: asked, Gifts, Ill. No condition. -/
import Derived.Test.YtpknbojgkkmonaaWRs2
import Derived.Test.YtpknbojgkkmonaaWIll
import Derived.Test.YtpknbojgkkmonaaWGft
set_option linter.unusedSimpArgs false
set_option linter.unusedVariables false
namespace Go.Proofs.Ytpknbojgkkmonaa
open Go Go.RowKit
variable {G : Nat → Option (Nat × (Nat → Val))}
noncomputable def sAskR : Spec := spec3 TGv (TSl RSg) TI (fun _ _ _ => True) fun g l day => .tup (.cons (asD g l day) (.cons (.int .i64 (asE g l day)) .nil))
set_option maxRecDepth 100000 in
theorem pAskR : PureOk Try.prog G 46 sAskR := by
  refine fn3 (S := [(38,sSigns),(57,sIn),(23,sSoonest)]) (I := []) mixed (.cons pSigns (.cons pWithin9 (.cons pSoonR .nil))) .nil Try.func46 c46 fun g l day _ hw => ?_
  simp only [vl,WfT,Val.toInt,Val.slen,Val.scell,Nat.reduceSub,and_true,true_and,and_self,and_assoc,maxLen,Nat.reducePow,TSl,TInt,RInt,RPm,Pm.d,RPl,Pl.d,Gv.L,TGv,RSg,Sg.d] at hw
  obtain ⟨w1,w2,w3,w4⟩ := hw
  by_cases h0 : sgsE g l = 0
  · by_cases hd : g.start ≤ day ∧ day ≤ 100000
    · have r1 : asE g l day = sooE g l := by unfold asE; rw [if_pos h0,if_pos hd]
      have r2 : stE g l = sooE g l := if_pos h0
      have r3 : stD g l = asD g l day := by
        unfold stD sooD asD
        rw [if_pos h0,r1]
        unfold sooE
        by_cases hb : okB g l = true
        · rw [if_pos hb,if_pos hb,if_pos rfl]
        · rw [if_neg hb,if_neg hb,if_neg (by decide)]
      obtain ⟨v,hv⟩ : ∃ v,asD g l day = v := ⟨_,rfl⟩
      have hvv : v = .nils ∨ v = .view 1 g.palms.1 fun i _ => .int .i64 (dyF g l l.1 i) := by
        rw [← hv]; unfold asD
        split
        · exact .inr rfl
        · exact .inl rfl
      have fd := eq_true hd
      rcases hvv with rfl | rfl
      all_goals
        simp only [RunTo,a46,sSigns,sIn,sSoonest,h0,fd,hv,r1,r2,r3,w1,w2,w3,w4,↓imp_ft,↓imp_ff,runO_3,runO_4,runO_5,runO_14,runO_17,runO_18,runO_19,aop,binV,ends,ev,fget,fput,params,cellsOf,cellsN,isLB,vget,vlen,bget,addB,addN,mkv,sliceV,vtab,frz,opOwns,preFz,callFz,skipOp,WfT,resV,resL,res1,norm,norms,norm1,normL,pureB,pureL,snapV,snapOk,specV,argsL,capsL,mkE_S,mkE_I,lkp,Fin,vsubP_self,Val.toInt,Val.slen,Val.scell,↓reduceIte,reduceCtorEq,Nat.reduceEqDiff,Nat.reduceAdd,Nat.reduceSub,Nat.reduceLeDiff,Nat.reduceLT,Nat.zero_add,decide_true,List.length_cons,List.length_nil,List.append_nil,Bool.and_self,bne_self_eq_false,Bool.not_true,and_true,and_self,and_assoc,forall_const,imp_self,implies_true,Nat.le_refl,maxLen,Nat.reducePow,spec2,spec3,TSl,IsSl,TInt,IsInt,RInt,Prod.eta,Pm.c0,Pm.c1,Pm.c2,Pm.c3,Pm.c4,RPm,Pm.w_c,Pm.d,Pm.eta,Pl.c0,Pl.c1,RPl,Pl.w_c,Pl.d,Pl.eta,Gv.L,Gv.Is,Gv.of,TGv,Gv.d,Gv.eta,Sg.c0,Sg.c1,Sg.c2,Sg.c3,Sg.c4,Sg.c5,RSg,Sg.w_c,Sg.d,Sg.eta,toUI_val]
    · have r1 : asE g l day = 2 := by unfold asE; rw [if_pos h0,if_neg hd]
      have r3 : asD g l day = .nils := if_neg (by rw [r1]; omega)
      have fd := eq_false hd
      simp only [RunTo,a46,sSigns,sIn,h0,fd,r1,r3,w1,w2,w3,w4,↓imp_tt,↓imp_tf,↓imp_ft,↓imp_ff,runO_3,runO_4,runO_5,runO_14,runO_17,runO_18,runO_19,aop,binV,ends,ev,fget,fput,params,cellsOf,cellsN,isLB,vget,vlen,bget,addB,addN,mkv,sliceV,vtab,frz,opOwns,preFz,callFz,skipOp,WfT,resV,resL,res1,norm,norms,norm1,normL,pureB,pureL,snapV,snapOk,specV,argsL,capsL,mkE_S,mkE_I,lkp,Fin,vsubP_self,Val.toInt,Val.slen,Val.scell,↓reduceIte,reduceCtorEq,Nat.reduceEqDiff,Nat.reduceAdd,Nat.reduceSub,Nat.reduceLeDiff,Nat.zero_add,decide_false,List.length_cons,List.length_nil,List.append_nil,Bool.and_self,bne_self_eq_false,Bool.not_false,and_true,and_self,and_assoc,forall_const,imp_self,implies_true,Nat.le_refl,maxLen,Nat.reducePow,spec2,spec3,TSl,IsSl,TInt,IsInt,RInt,Prod.eta,Pm.c0,Pm.c1,Pm.c2,Pm.c3,Pm.c4,RPm,Pm.w_c,Pm.d,Pm.eta,Pl.c0,Pl.c1,RPl,Pl.w_c,Pl.d,Pl.eta,Gv.L,Gv.Is,Gv.of,TGv,Gv.d,Gv.eta,Sg.c0,Sg.c1,Sg.c2,Sg.c3,Sg.c4,Sg.c5,RSg,Sg.w_c,Sg.d,Sg.eta,toUI_val]
  · have r1 : asE g l day = sgsE g l := if_neg h0
    have r3 : asD g l day = .nils := if_neg (by rw [r1]; exact h0)
    simp only [RunTo,a46,sSigns,h0,r1,r3,w1,w2,w3,w4,flatO,runO_3,runO_4,runO_5,runO_14,runO_17,runO_18,runO_19,aop,binV,ends,ev,fget,fput,params,cellsOf,cellsN,isLB,vget,vlen,bget,addB,addN,mkv,sliceV,vtab,frz,opOwns,preFz,callFz,ownsL,owns,skipOp,WfT,resV,resL,res1,norm,norms,norm1,normL,pureB,pureL,snapV,snapOk,snapL,snapOks,specV,argsL,capsL,mkE_S,mkE_I,lkp,Fin,vp_int,vp_nils,vp_cons,vp_tup,vsubP_self,Val.toInt,Val.slen,Val.scell,↓reduceIte,reduceCtorEq,Nat.reduceEqDiff,Nat.reduceAdd,Nat.reduceSub,Nat.reduceLeDiff,Nat.zero_add,bne_iff_ne,bne_eq_false_iff_eq,List.length_cons,List.length_nil,List.append_nil,Bool.and_true,Bool.and_self,and_true,true_and,and_self,and_assoc,forall_const,imp_self,implies_true,Nat.le_refl,Val.int.injEq,ne_eq,not_false_eq_true,false_implies,not_false_eq_true,maxLen,Nat.reducePow,spec2,TSl,IsSl,TInt,RInt,Prod.eta,Pm.c0,Pm.c1,Pm.c2,Pm.c3,Pm.c4,RPm,Pm.w_c,Pm.d,Pm.eta,Pl.c0,Pl.c1,RPl,Pl.w_c,Pl.d,Pl.eta,Gv.L,Gv.Is,Gv.of,TGv,Gv.d,Gv.eta,Sg.c0,Sg.c1,Sg.c2,Sg.c3,Sg.c4,Sg.c5,RSg,Sg.w_c,Sg.d,Sg.eta,toUI_val]
set_option maxHeartbeats 2000000 in
set_option maxRecDepth 100000 in
theorem pGiftsR : PureOk Try.prog G 18 sGifts := by
  refine fn3 (S := [(46,sAskR)]) (I := []) mixed (.cons pAskR .nil) .nil Try.func18 c18 fun g l day _ hw => ?_
  simp only [vl,WfT,Val.toInt,Val.slen,Val.scell,Nat.reduceSub,and_true,true_and,and_self,and_assoc,maxLen,Nat.reducePow,TSl,TInt,RInt,RPm,Pm.d,RPl,Pl.d,Gv.L,TGv,RSg,Sg.d] at hw
  obtain ⟨w1,w2,w3,w4⟩ := hw
  by_cases h0 : asE g l day = 0
  · obtain ⟨hg,⟨hl30,hl⟩,hd,hb⟩ := asE_0 h0
    have hg0 := gvE_ok hg
    have hn24 := hg.pms.n
    have hst := hg.start
    have r1 : asD g l day = .view 1 g.palms.1 fun i _ => .int .i64 (dyF g l l.1 i) := if_pos h0
    have r2 : gfD g l day = .view 1 (gfF g l day g.palms.1).1 fun i _ => .int .i64 ((gfF g l day g.palms.1).2 i) := if_pos h0
    obtain ⟨F,hF⟩ : ∃ F,gfF g l day = F := ⟨_,rfl⟩
    have hFn : ∀ j,(F j).1 ≤ j := fun j => by rw [← hF]; exact sel_le j
    have hF0 : F 0 = (0,fun _ => 0) := by rw [← hF]; rfl
    rw [hF] at r2
    simp only [RunTo,a18,sAskR,h0,r1,r2,w1,w2,w3,w4,↓imp_ft,↓imp_ff,runO_4,runO_5,runO_6,runO_14,runO_15,runO_17,runO_18,runO_19,aop,binV,ev,fget,fput,params,cellsOf,cellsN,isLB,vget,vlen,bget,addB,addN,mkv,sliceV,vtab,frz,opOwns,preFz,callFz,skipOp,WfT,norm,norms,norm1,normL,pureB,pureL,specV,argsL,capsL,mkE_S,mkE_I,lkp,Fin,Val.toInt,Val.slen,Val.scell,↓reduceIte,reduceCtorEq,Nat.reduceEqDiff,Nat.reduceAdd,Nat.reduceSub,Nat.reduceLT,Nat.zero_add,List.length_cons,List.length_nil,List.append_nil,Bool.and_self,bne_self_eq_false,and_true,true_and,and_self,and_assoc,forall_const,imp_self,implies_true,Nat.le_refl,maxLen,Nat.reducePow,spec3,TSl,IsSl,TInt,IsInt,RInt,Prod.eta,Pm.c0,Pm.c1,Pm.c2,Pm.c3,Pm.c4,RPm,Pm.w_c,Pm.d,Pm.eta,Pl.c0,Pl.c1,RPl,Pl.w_c,Pl.d,Pl.eta,Gv.L,Gv.Is,Gv.of,TGv,Gv.d,Gv.eta,Sg.c0,Sg.c1,Sg.c2,Sg.c3,Sg.c4,Sg.c5,RSg,Sg.w_c,Sg.d,Sg.eta,toUI_val]
    refine loopJ (ι := Nat) (fun j => j ≤ g.palms.1) (fun j => g.palms.1 - j) [2,3,8] (fun j => [(10,.own 1),(11,.int .i64 j)]) (fun j => [(1,.row 3 1 (F j).1 fun i _ => .int .i64 ((F j).2 i))]) 1 0 (by omega) (by simp only [hF0,Chk,chkFr,chkBx,chkBx1,newIn,hasB,idsLt,kept,vs_int,vs_nil,vs_own,vs_ptr,vs_cons,vs_view,fget,isLB,bget,bset,vsubP_self,↓reduceIte,reduceCtorEq,Nat.reduceEqDiff,Nat.reduceAdd,Nat.reduceLT,Int.cast_ofNat_Int,and_true,and_self,forall_const,implies_true,Option.some.injEq,exists_eq',or_true,keepF,appF,updB]) fun j hj => ?_
    by_cases hjl : j < g.palms.1
    · have fj : ((j : Int) < (g.palms.1 : Int)) = True := eq_true (by omega)
      have hpl := hg.pms.pl j hjl
      have e1 : IntKind.i64.wrap (day - (g.palms.2 j).planted) = day - (g.palms.2 j).planted := wr64 (by omega) (by omega)
      have hFj := hFn j
      by_cases h1 : dyF g l l.1 j > day
      · have f1 := eq_true h1
        by_cases h2 : day - (g.palms.2 j).planted ≥ 1000
        · have f2 := eq_true h2
          have en : F (j + 1) = ((F j).1 + 1,fun k => if k < (F j).1 then (F j).2 k else (g.palms.2 j).id) := by rw [← hF]; exact sel_t ⟨h1,h2⟩
          simp only [fj,f1,f2,e1,w1,↓imp_tt,↓imp_tf,runO_4,runO_5,runO_6,runO_8,runO_14,runO_16,runO_17,runO_18,runO_19,aop,binV,reOk,Nat.zero_sub,ev,fget,fput,cellsOf,cellsN,isLB,vget,vset,vlen,bget,bset,addB,addN,mkv,sliceV,vtab,rowsV,rowsOk,vrep,frz,opOwns,preFz,owns,skipOp,WfT,casts,castOks,cast1,castOk,pureB,onesB,mkE_G,pickV,lenV,subFr,subV,subBx,subStk,elemsV,stkFr,stkNx,Val.toInt,↓reduceIte,reduceCtorEq,Nat.reduceEqDiff,Nat.reduceAdd,Nat.reduceSub,Nat.reduceLeDiff,Nat.reduceLT,Nat.zero_add,Nat.add_zero,Nat.sub_zero,decide_true,List.length_cons,List.length_nil,List.append_nil,List.flatMap_cons,List.flatMap_nil,Bool.and_self,bne_self_eq_false,and_true,true_and,and_self,forall_const,imp_self,implies_true,Nat.le_refl,or_false,maxLen,Nat.reducePow,keepF,appF,updB,inat,Pm.c0,Pm.c2]
          repeat' (first | omega | (with_reducible apply And.intro) | intro _)
          refine inv_intro (j + 1) (by omega) (by omega) ?_
          simp only [en,Chk,chkFr,chkBx,chkBx1,newIn,hasB,idsLt,kept,vs_int,vs_nil,vs_own,vs_ptr,vs_cons,vs_view,Nat.lt_irrefl,fget,isLB,bget,vp_int,vsubP_self,↓reduceIte,reduceCtorEq,Nat.reduceEqDiff,Nat.reduceLT,and_true,true_and,and_self,forall_const,implies_true,Option.some.injEq,Val.int.injEq,exists_eq',false_implies,or_false]
          rw [wrS (by omega)]
          refine ⟨rfl,fun i hi b hb => ?_⟩
          obtain rfl : b = 0 := by omega
          by_cases h5 : i < (F j).1
          · rw [if_pos h5,if_pos h5]
          · obtain rfl : i = (F j).1 := by omega
            rw [if_neg h5,if_neg h5,Nat.sub_self]; rfl
        · have f2 := eq_false h2
          have en : F (j + 1) = F j := by rw [← hF]; exact sel_f fun h => h2 h.2
          simp only [fj,f1,f2,e1,w1,↓imp_tt,↓imp_tf,↓imp_ft,↓imp_ff,runO_4,runO_5,runO_6,runO_8,runO_14,runO_16,runO_17,runO_18,runO_19,aop,binV,ev,fget,fput,vget,vlen,bget,bset,addB,addN,mkv,sliceV,vtab,frz,opOwns,preFz,skipOp,WfT,casts,castOks,cast1,castOk,pickV,lenV,stkFr,stkNx,Val.toInt,↓reduceIte,reduceCtorEq,Nat.reduceEqDiff,Nat.reduceAdd,Nat.reduceSub,Nat.reduceLeDiff,Nat.zero_add,Nat.add_zero,decide_true,decide_false,List.length_cons,List.length_nil,bne_self_eq_false,and_true,true_and,and_self,forall_const,imp_self,implies_true,Nat.le_refl,maxLen,Nat.reducePow,keepF,appF,updB,inat,Pm.c2]
          repeat' (first | omega | (with_reducible apply And.intro) | intro _)
          refine inv_intro (j + 1) (by omega) (by omega) ?_
          simp only [en,Chk,chkFr,chkBx,chkBx1,newIn,hasB,idsLt,kept,vs_int,vs_nil,vs_own,vs_ptr,vs_cons,vs_view,Nat.lt_irrefl,fget,isLB,bget,vsubP_self,↓reduceIte,reduceCtorEq,Nat.reduceEqDiff,Nat.reduceLT,and_true,true_and,and_self,forall_const,implies_true,Option.some.injEq,Val.int.injEq,exists_eq',or_false]
          rw [wrS (by omega)]
      · have f1 := eq_false h1
        have en : F (j + 1) = F j := by rw [← hF]; exact sel_f fun h => h1 h.1
        simp only [fj,f1,w1,↓imp_tt,↓imp_tf,↓imp_ft,↓imp_ff,runO_4,runO_5,runO_6,runO_8,runO_14,runO_16,runO_17,runO_18,runO_19,aop,binV,Nat.zero_sub,ev,fget,fput,vget,bset,addB,addN,mkv,frz,opOwns,preFz,skipOp,WfT,casts,castOks,cast1,castOk,pickV,lenV,stkFr,stkNx,Val.toInt,↓reduceIte,reduceCtorEq,Nat.reduceEqDiff,Nat.reduceAdd,Nat.reduceSub,Nat.zero_add,decide_true,decide_false,List.length_cons,List.length_nil,Bool.bne_true,Bool.not_false,and_true,true_and,and_self,forall_const,imp_self,implies_true,Nat.le_refl,maxLen,Nat.reducePow,keepF,appF,updB,inat]
        repeat' (first | omega | (with_reducible apply And.intro) | intro _)
        refine inv_intro (j + 1) (by omega) (by omega) ?_
        simp only [en,Chk,chkFr,chkBx,chkBx1,newIn,hasB,idsLt,kept,vs_int,vs_nil,vs_own,vs_ptr,vs_cons,vs_view,Nat.lt_irrefl,fget,isLB,bget,vsubP_self,↓reduceIte,reduceCtorEq,Nat.reduceEqDiff,Nat.reduceLT,and_true,true_and,and_self,forall_const,implies_true,Option.some.injEq,Val.int.injEq,exists_eq',or_false]
        rw [wrS (by omega)]
    · have fj : ((j : Int) < (g.palms.1 : Int)) = False := eq_false (by omega)
      obtain rfl : j = g.palms.1 := by omega
      simp only [fj,w1,↓imp_ft,↓imp_ff,runO_3,runO_5,runO_9,runO_14,runO_17,runO_18,runO_19,aop,binV,ends,ev,fget,fput,bget,bset,addB,addN,frz,opOwns,preFz,skipOp,WfT,resV,resL,res1,snapV,snapOk,lenV,popTo,stkFr,stkNx,vsubP_self,↓reduceIte,reduceCtorEq,Nat.reduceEqDiff,Nat.reduceAdd,Nat.reduceSub,decide_false,Bool.and_self,and_self,forall_const,imp_self,implies_true,maxLen,Nat.reducePow,keepF,appF,updB]
  · have r1 : asD g l day = .nils := if_neg h0
    have r2 : gfD g l day = .nils := if_neg h0
    by_cases hg0 : gvE g = 0
    · simp only [RunTo,a18,sAskR,h0,r1,r2,w1,w2,w3,w4,runO_3,runO_4,runO_5,runO_6,runO_14,runO_15,runO_17,runO_18,runO_19,aop,binV,ends,ev,fget,fput,params,cellsOf,cellsN,isLB,vget,vlen,bget,addB,addN,mkv,sliceV,vtab,frz,opOwns,preFz,callFz,skipOp,WfT,resV,resL,res1,norm,norms,norm1,normL,pureB,pureL,snapV,snapOk,specV,argsL,capsL,mkE_S,mkE_I,lkp,Fin,vsubP_self,Val.toInt,Val.slen,Val.scell,↓reduceIte,reduceCtorEq,Nat.reduceEqDiff,Nat.reduceAdd,Nat.reduceSub,Nat.reduceLT,Nat.zero_add,bne_iff_ne,bne_eq_false_iff_eq,List.length_cons,List.length_nil,List.append_nil,Bool.and_self,and_true,true_and,and_self,and_assoc,forall_const,imp_self,implies_true,Nat.le_refl,ne_eq,not_false_eq_true,false_implies,not_false_eq_true,maxLen,Nat.reducePow,spec3,TSl,IsSl,TInt,IsInt,RInt,Prod.eta,Pm.c0,Pm.c1,Pm.c2,Pm.c3,Pm.c4,RPm,Pm.w_c,Pm.d,Pm.eta,Pl.c0,Pl.c1,RPl,Pl.w_c,Pl.d,Pl.eta,Gv.L,Gv.Is,Gv.of,TGv,Gv.d,Gv.eta,Sg.c0,Sg.c1,Sg.c2,Sg.c3,Sg.c4,Sg.c5,RSg,Sg.w_c,Sg.d,Sg.eta,toUI_val]
    · have ez := ptV_no (g := g) hg0
      simp only [RunTo,a18,sAskR,h0,r1,r2,w1,w2,w3,w4,runO_3,runO_4,runO_5,runO_6,runO_14,runO_15,runO_17,runO_18,runO_19,aop,binV,ends,ev,fget,fput,params,cellsOf,cellsN,isLB,vget,vlen,bget,addB,addN,mkv,sliceV,vtab,frz,opOwns,preFz,callFz,skipOp,WfT,resV,resL,res1,norm,norms,norm1,normL,pureB,pureL,snapV,snapOk,specV,argsL,capsL,mkE_S,mkE_I,lkp,Fin,vsubP_self,Val.toInt,Val.slen,Val.scell,↓reduceIte,reduceCtorEq,Nat.reduceEqDiff,Nat.reduceAdd,Nat.reduceSub,Nat.reduceLT,Nat.zero_add,bne_iff_ne,bne_eq_false_iff_eq,List.length_cons,List.length_nil,List.append_nil,Bool.and_self,and_true,true_and,and_self,and_assoc,forall_const,imp_self,implies_true,Nat.le_refl,ne_eq,not_false_eq_true,false_implies,not_false_eq_true,maxLen,Nat.reducePow,spec3,TSl,IsSl,TInt,IsInt,RInt,Prod.eta,Pm.c0,Pm.c1,Pm.c2,Pm.c3,Pm.c4,RPm,Pm.w_c,Pm.d,Pm.eta,Pl.c0,Pl.c1,RPl,Pl.w_c,Pl.d,Pl.eta,Gv.L,Gv.Is,Gv.of,TGv,Gv.d,Gv.eta,Sg.c0,Sg.c1,Sg.c2,Sg.c3,Sg.c4,Sg.c5,RSg,Sg.w_c,Sg.d,Sg.eta,toUI_val]
set_option maxHeartbeats 4000000 in
set_option maxRecDepth 100000 in
theorem pIllR : PureOk Try.prog G 16 sIll := by
  refine fnX3 (S := [(46,sAskR),(47,sLower),(48,sFit)]) (I := []) (X := [(49,sSoon9)]) mixed (.cons pAskR (.cons pLower (.cons pFit .nil))) .nil (.cons pSoon9 .nil) Try.func16 c16 fun g l day _ hw => ?_
  simp only [vl,WfT,Val.toInt,Val.slen,Val.scell,Nat.reduceSub,and_true,true_and,and_self,and_assoc,maxLen,Nat.reducePow,TSl,TInt,RInt,RPm,Pm.d,RPl,Pl.d,Gv.L,TGv,RSg,Sg.d] at hw
  obtain ⟨w1,w2,w3,w4⟩ := hw
  by_cases h0 : asE g l day = 0
  · obtain ⟨hg,⟨hl30,hl⟩,hd,hb⟩ := asE_0 h0
    have hn24 := hg.pms.n
    have hst := hg.start
    have r1 : asD g l day = .view 1 g.palms.1 fun i _ => .int .i64 (dyF g l l.1 i) := if_pos h0
    have r2 : illD g l day = .view 1 g.palms.1 fun i _ => .int .u8 (illF g l day i) := if_pos h0
    have hlow : ∀ i,i < g.palms.1 → 0 ≤ lowF g l.2 l.1 i ∧ lowF g l.2 l.1 i ≤ 100001 := fun i _ => lowF_bd hg hl l.1 (Nat.le_refl _) i
    simp only [RunToX,a16,sAskR,h0,r1,r2,w1,w2,w3,w4,↓imp_ft,↓imp_ff,runO_4,runO_5,runO_6,runO_14,runO_15,runO_17,runO_18,runO_19,aop,binV,ev,fget,fput,params,cellsOf,cellsN,isLB,vget,vlen,bget,addB,addN,mkv,sliceV,vtab,frz,opOwns,preFz,callFz,skipOp,WfT,norm,norms,norm1,normL,pureB,pureL,specV,argsL,capsL,mkX_S,mkX_I,lkp,Fin,Val.toInt,Val.slen,Val.scell,↓reduceIte,reduceCtorEq,Nat.reduceEqDiff,Nat.reduceAdd,Nat.reduceSub,Nat.reduceLT,Nat.zero_add,List.length_cons,List.length_nil,List.append_nil,Bool.and_self,bne_self_eq_false,and_true,true_and,and_self,and_assoc,forall_const,imp_self,implies_true,Nat.le_refl,maxLen,Nat.reducePow,spec3,TSl,IsSl,TInt,IsInt,RInt,Prod.eta,Pm.c0,Pm.c1,Pm.c2,Pm.c3,Pm.c4,RPm,Pm.w_c,Pm.d,Pm.eta,Pl.c0,Pl.c1,RPl,Pl.w_c,Pl.d,Pl.eta,Gv.L,Gv.Is,Gv.of,TGv,Gv.d,Gv.eta,Sg.c0,Sg.c1,Sg.c2,Sg.c3,Sg.c4,Sg.c5,RSg,Sg.w_c,Sg.d,Sg.eta,toUI_val]
    refine loopJ (ι := Nat) (fun j => j ≤ g.palms.1) (fun j => g.palms.1 - j) [1,2,3,8] (fun j => [(10,.own 1),(11,.int .i64 j)]) (fun j => [(1,.row 5 1 j fun i _ => .int .u8 (illF g l day i))]) 1 0 (by omega) (by simp only [Chk,chkFr,chkBx,chkBx1,newIn,hasB,idsLt,kept,vs_int,vs_nil,vs_own,vs_ptr,vs_cons,vs_view,fget,isLB,bget,bset,vsubP_self,↓reduceIte,reduceCtorEq,Nat.reduceEqDiff,Nat.reduceAdd,Nat.reduceLT,Int.cast_ofNat_Int,and_true,and_self,forall_const,implies_true,Option.some.injEq,exists_eq',or_true,keepF,appF,updB]) fun j hj => ?_
    by_cases hjl : j < g.palms.1
    · have fj : ((j : Int) < (g.palms.1 : Int)) = True := eq_true (by omega)
      by_cases hgt : dyF g l l.1 j > day
      · have f1 := eq_true hgt
        have ei : illF g l day j = 0 := if_pos hgt
        simp only [fj,f1,w1,↓imp_tt,↓imp_tf,runO_4,runO_5,runO_6,runO_9,runO_14,runO_16,runO_17,runO_18,runO_19,aop,binV,reOk,Nat.zero_sub,ev,fget,fput,cellsOf,cellsN,isLB,vget,vset,vlen,bget,bset,addB,addN,mkv,rowsV,rowsOk,vrep,frz,opOwns,preFz,owns,skipOp,WfT,casts,castOks,cast1,castOk,pureB,onesB,mkX_G,lenV,subFr,subV,subBx,subStk,elemsV,popTo,stkFr,stkNx,Val.toInt,↓reduceIte,reduceCtorEq,Nat.reduceEqDiff,Nat.reduceAdd,Nat.reduceSub,Nat.reduceLeDiff,Nat.reduceLT,Nat.zero_add,Nat.mul_one,decide_true,List.length_cons,List.length_nil,List.append_nil,List.flatMap_cons,List.flatMap_nil,Bool.and_self,and_true,true_and,and_self,forall_const,imp_self,implies_true,Nat.le_refl,or_false,maxLen,Nat.reducePow,keepF,appF,updB,inat]
        repeat' (first | omega | (with_reducible apply And.intro) | intro _)
        refine inv_intro (j + 1) (by omega) (by omega) ?_
        simp only [Chk,chkFr,chkBx,chkBx1,newIn,hasB,idsLt,kept,vs_int,vs_nil,vs_own,vs_ptr,vs_cons,vs_view,Nat.lt_irrefl,fget,isLB,bget,vp_int,vsubP_self,↓reduceIte,reduceCtorEq,Nat.reduceEqDiff,Nat.reduceLT,and_true,true_and,and_self,forall_const,implies_true,Option.some.injEq,Val.int.injEq,exists_eq',false_implies,or_false]
        rw [wrS (by omega)]
        refine ⟨rfl,fun i hi b hb => ?_⟩
        by_cases h5 : i < j
        · rw [if_pos h5]
        · obtain rfl : i = j := by omega
          obtain rfl : b = 0 := by omega
          rw [if_neg h5,ei,Nat.sub_self]; rfl
      · have f1 := eq_false hgt
        have e1 : IntKind.i64.wrap (day + 1) = day + 1 := wr64 (by omega) (by omega)
        have em : ∀ i : Nat,Val.toInt (if i = j then Val.int .i64 (max (lowF g (fun i => l.2 i) l.1 j) (day + 1)) else Val.int .i64 (lowF g (fun i => l.2 i) l.1 i)) = bmpF g l day j i := fun i => by
          unfold bmpF; split
          · next e => subst e; rfl
          · rfl
        have ec : ∀ i : Nat,(if i = j then Val.int .i64 (max (lowF g (fun i => l.2 i) l.1 j) (day + 1)) else Val.int .i64 (lowF g (fun i => l.2 i) l.1 i)) = .int .i64 (bmpF g l day j i) := fun i => by
          unfold bmpF; split
          · next e => subst e; rfl
          · rfl
        simp only [Val.toInt] at em
        have hb2 : ∀ i,i < g.palms.1 → 0 ≤ bmpF g l day j i ∧ bmpF g l day j i ≤ 100001 := fun i _ => bmp_bd hg hl ⟨by omega,hd.2⟩ j i
        obtain ⟨D,hD⟩ : ∃ D,daysF g (bmpF g l day j) = D := ⟨_,rfl⟩
        have hfit : (∀ z,z < l.1 → fitP g (l.2 z) D) ↔ okI g l day j := by rw [← hD]; exact Iff.rfl
        by_cases hok : okI g l day j
        · have f2 : decP (∀ z,z < l.1 → fitP g (l.2 z) D) = true := decP_t (hfit.2 hok)
          have ei : illF g l day j = 1 := by unfold illF; rw [if_neg hgt,@if_pos _ (Classical.propDecidable _) hok]
          simp only [sLower,sFit,sSoon9,hg,fj,f1,e1,ec,hD,f2,w1,w2,w3,w4,flatO,Spec.mine,↓imp_tt,↓imp_tf,↓imp_ft,↓imp_ff,runO_4,runO_5,runO_6,runO_8,runO_14,runO_16,runO_17,runO_18,runO_19,aop,binV,reOk,dstV,Nat.zero_sub,ev,fget,fput,cellsOf,cellsN,isLB,vget,vset,vlen,bget,bset,addB,addN,mkv,sliceV,vtab,rowsV,rowsOk,vrep,frz,opOwns,preFz,callFz,owns,skipOp,WfT,casts,castOks,cast1,castOk,norm,norms,norm1,normL,pureB,pureL,flatB,onesB,snapV,snapOk,snapL,snapOks,specV,argsL,capsL,mkX_S,mkX_I,mkX_G,mkX_X,eatR,eatB,eatI,lkp,lenV,subFr,subV,subBx,subStk,elemsV,stkFr,stkNx,Val.toInt,Val.slen,Val.scell,↓reduceIte,reduceCtorEq,Nat.reduceEqDiff,Nat.reduceAdd,Nat.reduceSub,Nat.reduceLeDiff,Nat.reduceLT,Nat.zero_add,Nat.mul_one,Nat.sub_zero,decide_true,decide_false,List.length_cons,List.length_nil,List.nil_append,List.cons_append,List.append_nil,List.flatMap_cons,List.flatMap_nil,Bool.and_true,Bool.and_false,Bool.and_self,Bool.not_true,and_true,true_and,and_self,and_assoc,forall_const,imp_self,implies_true,Nat.le_refl,or_false,maxLen,Nat.reducePow,keepF,appF,updB,inat,spec2,spec3,TSl,IsSl,RInt,Prod.eta,Pm.c0,Pm.c1,Pm.c2,Pm.c3,Pm.c4,RPm,Pm.w_c,Pm.d,Pm.eta,Pl.c0,Pl.c1,RPl,Pl.w_c,Pl.d,Pl.eta,Gv.L,Gv.Is,Gv.of,TGv,Gv.d,Gv.eta,Sg.c0,Sg.c1,Sg.c2,Sg.c3,Sg.c4,Sg.c5,RSg,Sg.w_c,Sg.d,Sg.eta,toUI_val]
          repeat' (first | omega | (with_reducible apply And.intro) | intro _)
          all_goals first
            | exact hl _ (by assumption)
            | exact (hb2 _ (by assumption)).1
            | exact (hb2 _ (by assumption)).2
            | (refine inv_intro (j + 1) (by omega) (by omega) ?_
               simp only [Chk,chkFr,chkBx,chkBx1,newIn,hasB,idsLt,kept,vs_int,vs_nil,vs_own,vs_ptr,vs_cons,vs_view,Nat.lt_irrefl,fget,isLB,bget,vp_int,vsubP_self,↓reduceIte,reduceCtorEq,Nat.reduceEqDiff,Nat.reduceLT,and_true,true_and,and_self,forall_const,implies_true,Option.some.injEq,Val.int.injEq,exists_eq',false_implies,or_false]
               rw [wrS (by omega)]
               refine ⟨rfl,fun i hi b hb => ?_⟩
               by_cases h5 : i < j
               · rw [if_pos h5]
               · obtain rfl : i = j := by omega
                 obtain rfl : b = 0 := by omega
                 rw [if_neg h5,ei,Nat.sub_self]; rfl)
        · have f2 : decP (∀ z,z < l.1 → fitP g (l.2 z) D) = false := decP_f fun h => hok (hfit.1 h)
          have ei : illF g l day j = 2 := by unfold illF; rw [if_neg hgt,@if_neg _ (Classical.propDecidable _) hok]
          simp only [sLower,sFit,sSoon9,hg,fj,f1,e1,ec,hD,f2,w1,w2,w3,w4,flatO,Spec.mine,↓imp_tt,↓imp_tf,↓imp_ft,↓imp_ff,runO_4,runO_5,runO_6,runO_8,runO_14,runO_16,runO_17,runO_18,runO_19,aop,binV,reOk,dstV,Nat.zero_sub,ev,fget,fput,cellsOf,cellsN,isLB,vget,vset,vlen,bget,bset,addB,addN,mkv,sliceV,vtab,rowsV,rowsOk,vrep,frz,opOwns,preFz,callFz,owns,skipOp,WfT,casts,castOks,cast1,castOk,norm,norms,norm1,normL,pureB,pureL,flatB,onesB,snapV,snapOk,snapL,snapOks,specV,argsL,capsL,mkX_S,mkX_I,mkX_G,mkX_X,eatR,eatB,eatI,lkp,lenV,subFr,subV,subBx,subStk,elemsV,stkFr,stkNx,Val.toInt,Val.slen,Val.scell,↓reduceIte,reduceCtorEq,Nat.reduceEqDiff,Nat.reduceAdd,Nat.reduceSub,Nat.reduceLeDiff,Nat.reduceLT,Nat.zero_add,Nat.mul_one,Nat.sub_zero,decide_true,decide_false,List.length_cons,List.length_nil,List.nil_append,List.cons_append,List.append_nil,List.flatMap_cons,List.flatMap_nil,Bool.and_true,Bool.and_false,Bool.and_self,Bool.not_true,and_true,true_and,and_self,and_assoc,forall_const,imp_self,implies_true,Nat.le_refl,or_false,maxLen,Nat.reducePow,keepF,appF,updB,inat,spec2,spec3,TSl,IsSl,RInt,Prod.eta,Pm.c0,Pm.c1,Pm.c2,Pm.c3,Pm.c4,RPm,Pm.w_c,Pm.d,Pm.eta,Pl.c0,Pl.c1,RPl,Pl.w_c,Pl.d,Pl.eta,Gv.L,Gv.Is,Gv.of,TGv,Gv.d,Gv.eta,Sg.c0,Sg.c1,Sg.c2,Sg.c3,Sg.c4,Sg.c5,RSg,Sg.w_c,Sg.d,Sg.eta,toUI_val]
          repeat' (first | omega | (with_reducible apply And.intro) | intro _)
          all_goals first
            | exact hl _ (by assumption)
            | exact (hb2 _ (by assumption)).1
            | exact (hb2 _ (by assumption)).2
            | (refine inv_intro (j + 1) (by omega) (by omega) ?_
               simp only [Chk,chkFr,chkBx,chkBx1,newIn,hasB,idsLt,kept,vs_int,vs_nil,vs_own,vs_ptr,vs_cons,vs_view,Nat.lt_irrefl,fget,isLB,bget,vp_int,vsubP_self,↓reduceIte,reduceCtorEq,Nat.reduceEqDiff,Nat.reduceLT,and_true,true_and,and_self,forall_const,implies_true,Option.some.injEq,Val.int.injEq,exists_eq',false_implies,or_false]
               rw [wrS (by omega)]
               refine ⟨rfl,fun i hi b hb => ?_⟩
               by_cases h5 : i < j
               · rw [if_pos h5]
               · obtain rfl : i = j := by omega
                 obtain rfl : b = 0 := by omega
                 rw [if_neg h5,ei,Nat.sub_self]; rfl)
    · have fj : ((j : Int) < (g.palms.1 : Int)) = False := eq_false (by omega)
      obtain rfl : j = g.palms.1 := by omega
      simp only [fj,w1,↓imp_ft,↓imp_ff,runO_3,runO_5,runO_9,runO_14,runO_17,runO_18,runO_19,aop,binV,ends,ev,fget,fput,bget,bset,addB,addN,frz,opOwns,preFz,skipOp,WfT,resV,resL,res1,snapV,snapOk,lenV,popTo,stkFr,stkNx,vsubP_self,↓reduceIte,reduceCtorEq,Nat.reduceEqDiff,Nat.reduceAdd,Nat.reduceSub,decide_false,Bool.and_self,and_self,forall_const,imp_self,implies_true,maxLen,Nat.reducePow,keepF,appF,updB]
  · have r1 : asD g l day = .nils := if_neg h0
    have r2 : illD g l day = .nils := if_neg h0
    simp only [RunToX,a16,sAskR,h0,r1,r2,w1,w2,w3,w4,runO_3,runO_4,runO_5,runO_6,runO_14,runO_15,runO_17,runO_18,runO_19,aop,binV,ends,ev,fget,fput,params,cellsOf,cellsN,isLB,vget,vlen,bget,addB,addN,mkv,sliceV,vtab,frz,opOwns,preFz,callFz,skipOp,WfT,resV,resL,res1,norm,norms,norm1,normL,pureB,pureL,snapV,snapOk,specV,argsL,capsL,mkX_S,mkX_I,lkp,Fin,vsubP_self,Val.toInt,Val.slen,Val.scell,↓reduceIte,reduceCtorEq,Nat.reduceEqDiff,Nat.reduceAdd,Nat.reduceSub,Nat.reduceLT,Nat.zero_add,bne_iff_ne,bne_eq_false_iff_eq,List.length_cons,List.length_nil,List.append_nil,Bool.and_self,and_true,true_and,and_self,and_assoc,forall_const,imp_self,implies_true,Nat.le_refl,ne_eq,not_false_eq_true,false_implies,not_false_eq_true,maxLen,Nat.reducePow,spec3,TSl,IsSl,TInt,IsInt,RInt,Prod.eta,Pm.c0,Pm.c1,Pm.c2,Pm.c3,Pm.c4,RPm,Pm.w_c,Pm.d,Pm.eta,Pl.c0,Pl.c1,RPl,Pl.w_c,Pl.d,Pl.eta,Gv.L,Gv.Is,Gv.of,TGv,Gv.d,Gv.eta,Sg.c0,Sg.c1,Sg.c2,Sg.c3,Sg.c4,Sg.c5,RSg,Sg.w_c,Sg.d,Sg.eta,toUI_val]
end Go.Proofs.Ytpknbojgkkmonaa
