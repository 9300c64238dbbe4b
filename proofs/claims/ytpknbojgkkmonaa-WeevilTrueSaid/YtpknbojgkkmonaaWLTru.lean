/- WeevilTrue: whatever history is true, what is known is so, and no palm of Gifts is ill. No condition. -/
import Derived.Test.YtpknbojgkkmonaaWRdy
import Derived.Test.YtpknbojgkkmonaaACodeL5
import Derived.Test.YtpknbojgkkmonaaWHsr
import Derived.Test.YtpknbojgkkmonaaACodeV
set_option linter.unusedSimpArgs false
set_option linter.unusedVariables false
namespace Go.Proofs.Ytpknbojgkkmonaa
open Go Go.RowKit
variable {G : Nat → Option (Nat × (Nat → Val))}
noncomputable def sLawTrue : Spec := spec4 TGv (TSl RSg) TI (TSl (RU .u32)) (fun _ _ _ _ => True) fun _ _ _ _ => .bool true
set_option maxHeartbeats 8000000 in
set_option maxRecDepth 100000 in
theorem pLawTrue : PureOk Try.prog G 5 sLawTrue := by
  refine fn4 (S := [(28,sAlive),(29,sReadyW),(22,sSoonest),(15,sIll),(17,sGifts),(31,sHist),(32,sFits),(36,sAt),(37,sFrom),(59,sChooseW)]) (I := [(30,a30),(60,a60)]) mixed (.cons pAlive (.cons pReadyW (.cons pSoonest (.cons pIll (.cons pGifts (.cons pHist (.cons pFits (.cons pAt (.cons pFrom (.cons pChooseW .nil)))))))))) (.cons Try.func30 c30 (.cons Try.func60 c60 .nil)) Try.func5 c5 fun g l day by' _ hw => ?_
  simp only [vl,WfT,Val.toInt,Val.slen,Val.scell,Nat.reduceSub,and_true,true_and,and_assoc,maxLen,Nat.reducePow,RU_k,RU_C,TSl,TInt,RInt,RPm,Pm.d,RPl,Pl.d,Gv.L,TGv,RSg,Sg.d] at hw
  obtain ⟨w1,w2,w3,w4,w5⟩ := hw
  by_cases hr : rdyP g l
  case neg =>
    have fr := decP_f hr
    simp (config := { maxSteps := 4000000 }) only [RunTo,a5,sAlive,sReadyW,fr,w1,w2,w3,w4,↓imp_tt,↓imp_tf,runO_3,runO_5,runO_14,runO_17,runO_18,runO_19,aop,ends,Nat.zero_sub,ev,fget,fput,params,cellsOf,cellsN,isLB,vget,vlen,bget,addB,addN,mkv,sliceV,vtab,frz,opOwns,preFz,callFz,skipOp,WfT,resV,res1,norm,norms,norm1,normL,pureB,pureL,snapV,snapOk,specV,argsL,capsL,mkE_S,mkE_I,lkp,pickV,Fin,vp_bool,Val.toInt,Val.slen,Val.scell,↓reduceIte,reduceCtorEq,Nat.reduceEqDiff,Nat.reduceAdd,Nat.reduceSub,Nat.zero_add,List.length_cons,List.length_nil,List.append_nil,Bool.and_self,Bool.bne_false,Bool.not_false,and_true,and_self,and_assoc,forall_const,imp_self,implies_true,Nat.le_refl,maxLen,Nat.reducePow,RU_k,RU_C,spec0,spec2,TSl,IsSl,TInt,RInt,Prod.eta,Pm.c0,Pm.c1,Pm.c2,Pm.c3,Pm.c4,RPm,Pm.w_c,Pm.d,Pm.eta,Pl.c0,Pl.c1,RPl,Pl.w_c,Pl.d,Pl.eta,Gv.L,Gv.Is,Gv.of,TGv,Gv.d,Gv.eta,Sg.c0,Sg.c1,Sg.c2,Sg.c3,Sg.c4,Sg.c5,RSg,Sg.w_c,Sg.d,Sg.eta,toUI_val]
  have fr := decP_t hr
  obtain ⟨hg,hl⟩ := rdy_ok hr
  have hn24 := hg.pms.n
  by_cases hp0 : (g.palms.1 : Int) = 0
  · have fp : ((g.palms.1 : Int) == 0) = true := beq_iff_eq.2 hp0
    simp (config := { maxSteps := 4000000 }) only [RunTo,a5,sAlive,sReadyW,fr,fp,w1,w2,w3,w4,↓imp_tt,↓imp_tf,↓imp_ft,↓imp_ff,runO_3,runO_5,runO_14,runO_17,runO_18,runO_19,aop,binV,ends,Nat.zero_sub,ev,fget,fput,params,cellsOf,cellsN,isLB,vget,vlen,bget,addB,addN,mkv,sliceV,vtab,frz,opOwns,preFz,callFz,skipOp,WfT,resV,res1,norm,norms,norm1,normL,pureB,pureL,snapV,snapOk,specV,argsL,capsL,mkE_S,mkE_I,lkp,pickV,lenV,Fin,vp_bool,Val.toInt,Val.slen,Val.scell,↓reduceIte,reduceCtorEq,Nat.reduceEqDiff,Nat.reduceAdd,Nat.reduceSub,Nat.reduceLeDiff,Nat.zero_add,Nat.add_zero,List.length_cons,List.length_nil,List.append_nil,Bool.and_self,Bool.bne_false,bne_self_eq_false,Bool.not_true,and_true,and_self,and_assoc,forall_const,imp_self,implies_true,Nat.le_refl,maxLen,Nat.reducePow,RU_k,RU_C,spec0,spec2,TSl,IsSl,TInt,RInt,Prod.eta,Pm.c0,Pm.c1,Pm.c2,Pm.c3,Pm.c4,RPm,Pm.w_c,Pm.d,Pm.eta,Pl.c0,Pl.c1,RPl,Pl.w_c,Pl.d,Pl.eta,Gv.L,Gv.Is,Gv.of,TGv,Gv.d,Gv.eta,Sg.c0,Sg.c1,Sg.c2,Sg.c3,Sg.c4,Sg.c5,RSg,Sg.w_c,Sg.d,Sg.eta,toUI_val]
  have fp : ((g.palms.1 : Int) == 0) = false := beq_eq_false_iff_ne.2 hp0
  by_cases hd1 : day < g.start
  · have f1 := eq_true hd1
    simp (config := { maxSteps := 4000000 }) only [RunTo,a5,sAlive,sReadyW,fr,fp,f1,w1,w2,w3,w4,↓imp_tt,↓imp_tf,↓imp_ft,↓imp_ff,runO_3,runO_5,runO_14,runO_17,runO_18,runO_19,aop,binV,ends,Nat.zero_sub,ev,fget,fput,params,cellsOf,cellsN,isLB,vget,vlen,bget,addB,addN,mkv,sliceV,vtab,frz,opOwns,preFz,callFz,skipOp,WfT,resV,res1,norm,norms,norm1,normL,pureB,pureL,snapV,snapOk,specV,argsL,capsL,mkE_S,mkE_I,lkp,pickV,lenV,Fin,vp_bool,Val.toInt,Val.slen,Val.scell,↓reduceIte,reduceCtorEq,Nat.reduceEqDiff,Nat.reduceAdd,Nat.reduceSub,Nat.reduceLeDiff,Nat.zero_add,Nat.add_zero,decide_true,List.length_cons,List.length_nil,List.append_nil,Bool.and_self,Bool.bne_false,bne_self_eq_false,Bool.not_true,and_true,and_self,and_assoc,forall_const,imp_self,implies_true,Nat.le_refl,maxLen,Nat.reducePow,RU_k,RU_C,spec0,spec2,TSl,IsSl,TInt,RInt,Prod.eta,Pm.c0,Pm.c1,Pm.c2,Pm.c3,Pm.c4,RPm,Pm.w_c,Pm.d,Pm.eta,Pl.c0,Pl.c1,RPl,Pl.w_c,Pl.d,Pl.eta,Gv.L,Gv.Is,Gv.of,TGv,Gv.d,Gv.eta,Sg.c0,Sg.c1,Sg.c2,Sg.c3,Sg.c4,Sg.c5,RSg,Sg.w_c,Sg.d,Sg.eta,toUI_val]
  have f1 := eq_false hd1
  by_cases hd2 : day > 100000
  · have f2 := eq_true hd2
    simp (config := { maxSteps := 4000000 }) only [RunTo,a5,sAlive,sReadyW,fr,fp,f1,f2,w1,w2,w3,w4,↓imp_tt,↓imp_tf,↓imp_ft,↓imp_ff,runO_3,runO_5,runO_14,runO_17,runO_18,runO_19,aop,binV,ends,Nat.zero_sub,ev,fget,fput,params,cellsOf,cellsN,isLB,vget,vlen,bget,addB,addN,mkv,sliceV,vtab,frz,opOwns,preFz,callFz,skipOp,WfT,resV,res1,norm,norms,norm1,normL,pureB,pureL,snapV,snapOk,specV,argsL,capsL,mkE_S,mkE_I,lkp,pickV,lenV,Fin,vp_bool,Val.toInt,Val.slen,Val.scell,↓reduceIte,reduceCtorEq,Nat.reduceEqDiff,Nat.reduceAdd,Nat.reduceSub,Nat.reduceLeDiff,Nat.zero_add,Nat.add_zero,decide_true,decide_false,List.length_cons,List.length_nil,List.append_nil,Bool.and_self,Bool.bne_false,bne_self_eq_false,Bool.not_true,and_true,and_self,and_assoc,forall_const,imp_self,implies_true,Nat.le_refl,maxLen,Nat.reducePow,RU_k,RU_C,spec0,spec2,TSl,IsSl,TInt,RInt,Prod.eta,Pm.c0,Pm.c1,Pm.c2,Pm.c3,Pm.c4,RPm,Pm.w_c,Pm.d,Pm.eta,Pl.c0,Pl.c1,RPl,Pl.w_c,Pl.d,Pl.eta,Gv.L,Gv.Is,Gv.of,TGv,Gv.d,Gv.eta,Sg.c0,Sg.c1,Sg.c2,Sg.c3,Sg.c4,Sg.c5,RSg,Sg.w_c,Sg.d,Sg.eta,toUI_val]
  have f2 := eq_false hd2
  have hd : g.start ≤ day ∧ day ≤ 100000 := by omega
  have hgr : ¬ (g.palms.1 > 30 ∨ g.places.1 > 40 ∨ g.sus.1 > 40 ∨ l.1 > 40) := hr.1
  have hst := hg.start
  have hha := hg.hatch
  simp (config := { maxSteps := 4000000 }) only [RunTo,a5,a30,sAlive,sReadyW,sSoonest,sIll,sGifts,sHist,sFits,sAt,sFrom,sChooseW, fr,fp,f1,f2,w1,w2,w3,w4,w5,↓imp_ft,↓imp_ff,runO_4,runO_5,runO_6,runO_14,runO_15,runO_17,runO_18,runO_19,aop,binV,ev,fget,fput,params,cellsOf,cellsN,isLB,vget,vlen,bget,addB,addN,mkv,sliceV,vtab,frz,opOwns,preFz,callFz,skipOp,WfT,norm,norms,norm1,normL,pureB,pureL,onesB,specV,argsL,capsL,mkE_S,mkE_I,lkp,pickV,lenV,Fin,vp_bool,Val.toInt,Val.slen,Val.scell,↓reduceIte,reduceCtorEq,Nat.reduceEqDiff,Nat.reduceAdd,Nat.reduceSub,Nat.reduceLeDiff,Nat.reduceLT,Nat.zero_add,Nat.add_zero,Int.cast_ofNat_Int,decide_false,List.length_cons,List.length_nil,List.append_nil,Bool.and_self,bne_self_eq_false,Bool.not_true,and_true,true_and,and_self,and_assoc,forall_const,imp_self,implies_true,Nat.le_refl,maxLen,Nat.reducePow,inat,RU_k,RU_C,spec0,spec2,spec3,spec5,TSl,IsSl,TInt,IsInt,RInt,Prod.eta,Pm.c0,Pm.c1,Pm.c2,Pm.c3,Pm.c4,RPm,Pm.w_c,Pm.d,Pm.eta,Pl.c0,Pl.c1,RPl,Pl.w_c,Pl.d,Pl.eta,Gv.L,Gv.Is,Gv.of,TGv,Gv.d,Gv.eta,Sg.L,Sg.c0,Sg.c1,Sg.c2,Sg.c3,Sg.c4,Sg.c5,Sg.Is,Sg.of,TSg,RSg,Sg.w_c,Sg.d,Sg.eta,toUI_val]
  refine ⟨by omega,by omega,by omega,?_⟩
  refine loopI (ι := Nat × (Nat → Int)) (fun s => s.1 ≤ g.palms.1 ∧ ∀ z,z < g.palms.1 → 0 ≤ s.2 z ∧ s.2 z ≤ 100001) (fun s => g.palms.1 - s.1) [1,2,5,18] (fun s => [(19,.int .i64 s.1)]) (fun s => [(2,.row 3 1 g.palms.1 fun z _ => .int .i64 (s.2 z))]) (0,fun _ => 0) ⟨Nat.zero_le _,fun z hz => by simp only; omega⟩ (by simp only [Chk,chkFr,chkBx,chkBx1,newIn,hasB,idsLt,kept,vs_int,vs_nil,vs_own,vs_ptr,vs_cons,vs_view,fget,isLB,bget,bset,vp_int,vsubP_self,↓reduceIte,reduceCtorEq,Nat.reduceEqDiff,Nat.reduceLT,Int.cast_ofNat_Int,and_true,true_and,and_self,forall_const,implies_true,Option.some.injEq,exists_eq',or_false,keepF,appF,updB]; exact fun z hz b hb => by (obtain rfl : b = 0 := by omega); rfl) fun s hs => ?_
  obtain ⟨j,X⟩ := s
  obtain ⟨hj1,hX⟩ := hs
  simp only at hj1 hX
  by_cases hjl : j < g.palms.1
  · have fj : ((j : Int) < (g.palms.1 : Int)) = True := eq_true (by omega)
    simp (config := { maxSteps := 4000000 }) only [fj,↓imp_tt,↓imp_tf,runO_4,runO_5,runO_6,runO_8,runO_14,runO_16,runO_17,runO_18,runO_19,aop,binV,reOk,Nat.zero_sub,ev,fget,fput,cellsOf,cellsN,bget,bset,addB,addN,frz,opOwns,preFz,owns,skipOp,WfT,pureB,onesB,stkFr,stkNx,↓reduceIte,reduceCtorEq,Nat.reduceEqDiff,Nat.zero_add,Nat.sub_zero,decide_true,Bool.and_self,and_true,true_and,and_self,forall_const,imp_self,implies_true,Nat.le_refl,keepF,appF,updB,inat]
    repeat' (first | omega | (with_reducible apply And.intro) | intro _)
    refine inv_intro (j + 1,fun z => if z = j then 100001 else X z) ⟨by show j + 1 ≤ _; omega,fun z hz => ?_⟩ (by simp only; omega) ?_
    · simp only
      have := hX z hz
      split <;> omega
    · simp only [Chk,chkFr,chkBx,chkBx1,newIn,hasB,idsLt,kept,vs_int,vs_nil,vs_own,vs_ptr,vs_cons,vs_view,fget,isLB,bget,vp_int,vsubP_self,↓reduceIte,reduceCtorEq,Nat.reduceEqDiff,Nat.reduceLT,and_true,true_and,and_self,forall_const,implies_true,Option.some.injEq,Val.int.injEq,exists_eq',or_false]
      rw [wrS (by omega)]
      first
        | refine ⟨rfl,rfl,fun z hz b hb => ?_⟩
        | refine ⟨rfl,fun z hz b hb => ?_⟩
        | refine fun z hz b hb => ?_
      obtain rfl : b = 0 := by omega
      by_cases h5 : z = j
      · subst h5; simp [vget]
      · simp [h5]
  have fj : ((j : Int) < (g.palms.1 : Int)) = False := eq_false (by omega)
  simp (config := { maxSteps := 4000000 }) only [fj,w3,↓imp_ft,↓imp_ff,runO_5,runO_6,runO_9,runO_14,runO_15,runO_17,runO_18,runO_19,aop,binV,ev,fget,fput,vget,vlen,bget,bset,addB,addN,mkv,sliceV,vtab,frz,opOwns,preFz,skipOp,WfT,lenV,popTo,stkFr,stkNx,↓reduceIte,reduceCtorEq,Nat.reduceEqDiff,Nat.reduceAdd,Nat.reduceSub,Nat.zero_add,decide_false,List.length_cons,List.length_nil,true_and,and_self,forall_const,imp_self,implies_true,Nat.le_refl,maxLen,Nat.reducePow,keepF,appF,updB]
  clear fj hjl hj1
  refine loopI (ι := Nat × (Nat → Int)) (fun s => s.1 ≤ g.sus.1 ∧ ∀ z,z < g.palms.1 → 0 ≤ s.2 z ∧ s.2 z ≤ 100001) (fun s => g.sus.1 - s.1) [1,2,5,27,28] (fun s => [(29,.int .i64 s.1)]) (fun s => [(2,.row 3 1 g.palms.1 fun z _ => .int .i64 (s.2 z))]) (0,X) ⟨Nat.zero_le _,hX⟩ (by simp only [Chk,chkFr,chkBx,chkBx1,newIn,hasB,idsLt,kept,vs_int,vs_nil,vs_own,vs_ptr,vs_cons,vs_view,fget,isLB,bget,bset,vsubP_self,↓reduceIte,reduceCtorEq,Nat.reduceEqDiff,Nat.reduceLT,Int.cast_ofNat_Int,and_true,and_self,forall_const,implies_true,Option.some.injEq,exists_eq',or_false,keepF,appF,updB]; try rfl) fun s hs => ?_
  clear hX
  obtain ⟨j',X'⟩ := s
  obtain ⟨hj1,hX⟩ := hs
  simp only at hj1 hX
  by_cases hjl : j' < g.sus.1
  · have fj : ((j' : Int) < (g.sus.1 : Int)) = True := eq_true (by omega)
    have hsj := (hg.sus j' hjl).1
    have ea := atF_pos hsj
    have hcb := chsF_bd by' j'
    obtain ⟨v,hv⟩ : ∃ v,chsF by' j' = v := ⟨_,rfl⟩
    rw [hv] at hcb
    by_cases hgt : v.tmod 4 > 0
    · have g1 := eq_true hgt
      simp (config := { maxSteps := 4000000 }) only [fj,ea,hv,g1,w5,↓imp_tt,↓imp_tf,runO_4,runO_5,runO_6,runO_8,runO_14,runO_16,runO_17,runO_18,runO_19,aop,binV,reOk,Nat.zero_sub,ev,fget,fput,cellsOf,cellsN,isLB,vget,vlen,bget,bset,addB,addN,mkv,sliceV,vtab,frz,opOwns,preFz,callFz,owns,skipOp,WfT,casts,castOks,cast1,castOk,norm,norm1,normL,pureB,pureL,onesB,specV,argsL,capsL,mkE_S,mkE_I,lkp,stkFr,stkNx,Val.toInt,↓reduceIte,reduceCtorEq,Nat.reduceEqDiff,Nat.reduceAdd,Nat.reduceSub,Nat.reduceLeDiff,Nat.zero_add,Nat.add_zero,Nat.sub_zero,Int.reduceEq,decide_true,List.length_cons,List.length_nil,List.append_nil,Bool.and_self,and_true,true_and,and_self,and_assoc,forall_const,imp_self,implies_true,Nat.le_refl,ne_eq,not_false_eq_true,not_false_eq_true,maxLen,Nat.reducePow,keepF,appF,updB,inat,RU_W,RU_D,Prod.eta,Pm.c0,Pm.c1,Pm.c2,Pm.c3,Pm.c4,Pm.w_c,Pm.eta,toUI_val]
      repeat' (first | omega | (with_reducible apply And.intro) | intro _)
      refine inv_intro (j' + 1,fun z => if z = hitN g.palms (g.sus.2 j') then g.start else X' z) ⟨by show j' + 1 ≤ _; omega,fun z hz => ?_⟩ (by simp only; omega) ?_
      · simp only
        have := hX z hz
        split <;> omega
      · simp only [Chk,chkFr,chkBx,chkBx1,newIn,hasB,idsLt,kept,vs_int,vs_nil,vs_own,vs_ptr,vs_cons,vs_view,fget,isLB,bget,vp_int,vsubP_self,↓reduceIte,reduceCtorEq,Nat.reduceEqDiff,Nat.reduceLT,and_true,true_and,and_self,forall_const,implies_true,Option.some.injEq,Val.int.injEq,exists_eq',or_false]
        rw [wrS (by omega)]
        first
          | refine ⟨rfl,rfl,fun z hz b hb => ?_⟩
          | refine ⟨rfl,fun z hz b hb => ?_⟩
          | refine fun z hz b hb => ?_
        obtain rfl : b = 0 := by omega
        by_cases h5 : z = hitN g.palms (g.sus.2 j')
        · subst h5; simp [vget]
        · simp [h5]
    · have g1 := eq_false hgt
      simp (config := { maxSteps := 4000000 }) only [fj,hv,g1,w5,↓imp_tt,↓imp_tf,↓imp_ft,↓imp_ff,runO_4,runO_5,runO_6,runO_8,runO_14,runO_16,runO_17,runO_18,runO_19,aop,binV,ev,fget,fput,isLB,vget,bset,addB,addN,mkv,frz,opOwns,preFz,callFz,skipOp,WfT,casts,castOks,cast1,castOk,norm,norm1,normL,pureB,pureL,specV,argsL,capsL,mkE_S,mkE_I,lkp,stkFr,stkNx,Val.toInt,↓reduceIte,reduceCtorEq,Nat.reduceEqDiff,Nat.reduceSub,Nat.zero_add,Int.reduceEq,decide_true,decide_false,List.length_cons,List.length_nil,List.append_nil,Bool.and_self,and_true,true_and,and_self,forall_const,imp_self,implies_true,Nat.le_refl,ne_eq,not_false_eq_true,not_false_eq_true,maxLen,Nat.reducePow,keepF,appF,updB,inat,RU_W,RU_D,Prod.eta]
      repeat' (first | omega | (with_reducible apply And.intro) | intro _)
      refine inv_intro (j' + 1,X') ⟨by show j' + 1 ≤ _; omega,hX⟩ (by simp only; omega) ?_
      simp only [Chk,chkFr,chkBx,chkBx1,newIn,hasB,idsLt,kept,vs_int,vs_nil,vs_own,vs_ptr,vs_cons,vs_view,fget,isLB,bget,vsubP_self,↓reduceIte,reduceCtorEq,Nat.reduceEqDiff,Nat.reduceLT,and_true,true_and,and_self,forall_const,implies_true,Option.some.injEq,Val.int.injEq,exists_eq',or_false]
      rw [wrS (by omega)]
      try exact ⟨rfl,rfl⟩
  have fj : ((j' : Int) < (g.sus.1 : Int)) = False := eq_false (by omega)
  simp (config := { maxSteps := 4000000 }) only [a60,fj,w1,w2,w3,↓imp_ft,↓imp_ff,runO_5,runO_6,runO_9,runO_14,runO_15,runO_17,runO_18,runO_19,aop,binV,ev,fget,fput,params,cellsOf,cellsN,isLB,vget,vlen,bget,bset,addB,addN,mkv,sliceV,vtab,frz,opOwns,preFz,skipOp,WfT,argsL,capsL,mkE_S,mkE_I,lkp,lenV,popTo,stkFr,stkNx,↓reduceIte,reduceCtorEq,Nat.reduceEqDiff,Nat.reduceAdd,Nat.reduceSub,Nat.reduceLeDiff,Nat.zero_add,Nat.add_zero,Int.reduceNeg,decide_false,List.length_cons,List.length_nil,List.append_nil,true_and,and_self,forall_const,imp_self,implies_true,Nat.le_refl,maxLen,Nat.reducePow,keepF,appF,updB]
  clear fj hjl hj1
  refine loopI (ι := Nat × (Nat → Int)) (fun s => s.1 ≤ g.palms.1 ∧ ∀ z,z < g.palms.1 → 0 ≤ s.2 z ∧ s.2 z ≤ 100001) (fun s => g.palms.1 - s.1) [1,2,8] (fun s => [(9,.int .i64 s.1)]) (fun s => [(2,.row 3 1 g.palms.1 fun z _ => .int .i64 (s.2 z))]) (0,X') ⟨Nat.zero_le _,hX⟩ (by simp only [Chk,chkFr,chkBx,chkBx1,newIn,hasB,idsLt,kept,vs_int,vs_nil,vs_own,vs_ptr,vs_cons,vs_view,fget,isLB,bget,bset,vsubP_self,↓reduceIte,reduceCtorEq,Nat.reduceEqDiff,Nat.reduceLT,Int.cast_ofNat_Int,and_true,and_self,forall_const,implies_true,Option.some.injEq,exists_eq',or_false,keepF,appF,updB]; try rfl) fun s hs => ?_
  obtain ⟨r,X1⟩ := s
  obtain ⟨hr1,hX1⟩ := hs
  simp only at hr1 hX1
  by_cases hrl : r < g.palms.1
  · have fr1 : ((r : Int) < (g.palms.1 : Int)) = True := eq_true (by omega)
    simp (config := { maxSteps := 4000000 }) only [fr1,w1,↓imp_tt,↓imp_tf,runO_4,runO_5,runO_6,runO_14,runO_15,runO_17,runO_18,runO_19,aop,binV,ev,fget,fput,vget,vlen,bget,bset,addB,addN,mkv,sliceV,vtab,frz,opOwns,preFz,skipOp,WfT,lenV,stkFr,stkNx,↓reduceIte,reduceCtorEq,Nat.reduceEqDiff,Nat.reduceAdd,Nat.reduceSub,Nat.reduceLeDiff,Nat.zero_add,Nat.add_zero,Int.reduceNeg,decide_true,List.length_cons,List.length_nil,and_true,true_and,and_self,forall_const,imp_self,implies_true,maxLen,Nat.reducePow,keepF,appF,updB]
    refine loopI (ι := Nat × (Nat → Int)) (fun s => s.1 ≤ g.palms.1 ∧ ∀ z,z < g.palms.1 → 0 ≤ s.2 z ∧ s.2 z ≤ 100001) (fun s => g.palms.1 - s.1) [1,2,8,9,12,13] (fun s => [(14,.int .i64 s.1)]) (fun s => [(2,.row 3 1 g.palms.1 fun z _ => .int .i64 (s.2 z))]) (0,X1) ⟨Nat.zero_le _,hX1⟩ (by simp only [Chk,chkFr,chkBx,chkBx1,newIn,hasB,idsLt,kept,vs_int,vs_nil,vs_own,vs_ptr,vs_cons,vs_view,fget,isLB,bget,bset,vsubP_self,↓reduceIte,reduceCtorEq,Nat.reduceEqDiff,Nat.reduceLT,Int.cast_ofNat_Int,and_true,and_self,forall_const,implies_true,Option.some.injEq,exists_eq',or_false,keepF,appF,updB]; try rfl) fun s hs => ?_
    obtain ⟨j,X2⟩ := s
    obtain ⟨hj1,hX2⟩ := hs
    simp only at hj1 hX2
    by_cases hjl : j < g.palms.1
    · have fj : ((j : Int) < (g.palms.1 : Int)) = True := eq_true (by omega)
      have hpl := hg.pms.pl j hjl
      by_cases hm : (g.palms.2 j).mother = -1
      · have fm := eq_true hm
        simp (config := { maxSteps := 4000000 }) only [fj,fm,↓imp_tt,↓imp_tf,↓imp_ft,↓imp_ff,runO_4,runO_5,runO_6,runO_8,runO_14,runO_16,runO_17,runO_18,runO_19,aop,binV,reOk,Nat.zero_sub,ev,fget,fput,cellsOf,cellsN,isLB,vget,vset,vsets,vlen,bget,bset,addB,addN,mkv,sliceV,vtab,frz,opOwns,preFz,owns,skipOp,WfT,casts,castOks,cast1,castOk,norm,norm1,normL,pureB,pureL,onesB,specV,argsL,capsL,mkE_S,lkp,pickV,stkFr,stkNx,Val.toInt,↓reduceIte,reduceCtorEq,Nat.reduceEqDiff,Nat.reduceAdd,Nat.reduceSub,Nat.reduceLeDiff,Nat.zero_add,Nat.add_zero,Nat.sub_zero,Int.reduceNeg,decide_true,bne_iff_ne,bne_eq_false_iff_eq,List.length_cons,List.length_nil,List.append_nil,Bool.and_self,Bool.bne_true,bne_self_eq_false,Bool.not_false,and_true,true_and,and_self,and_assoc,forall_const,imp_self,implies_true,Nat.le_refl,decide_eq_true_eq,decide_eq_false_iff_not,ne_eq,false_implies,not_true_eq_false,keepF,appF,updB,inat,Prod.eta,Pm.c0,Pm.c1,Pm.c2,Pm.c3,Pm.c4,Pm.w_c,Pm.eta,toUI_val]
        repeat' (first | omega | (with_reducible apply And.intro) | intro _)
        refine inv_intro (j + 1,X2) ⟨by show j + 1 ≤ _; omega,hX2⟩ (by simp only; omega) ?_
        simp only [Chk,chkFr,chkBx,chkBx1,newIn,hasB,idsLt,kept,vs_int,vs_nil,vs_own,vs_ptr,vs_cons,vs_view,Nat.lt_irrefl,fget,isLB,bget,vsubP_self,↓reduceIte,reduceCtorEq,Nat.reduceEqDiff,Nat.reduceLT,and_true,true_and,and_self,forall_const,implies_true,Option.some.injEq,Val.int.injEq,exists_eq',false_implies,or_false]
        rw [wrS (by omega)]
        try exact ⟨rfl,rfl⟩
      · have fm := eq_false hm
        obtain ⟨hmn,_,_⟩ := hg.mo hjl hm
        have ea : atF g.palms (g.palms.2 j).mother = (moF g j : Int) := atF_pos hmn
        by_cases hp2 : (g.palms.2 j).planted > g.start
        · have fp := eq_true hp2
          by_cases hdm : X2 (moF g j) ≤ (g.palms.2 j).planted
          · have fd := eq_true hdm
            simp (config := { maxSteps := 4000000 }) only [fj,fm,fp,fd,ea,↓imp_tt,↓imp_tf,↓imp_ft,↓imp_ff,runO_4,runO_5,runO_6,runO_8,runO_14,runO_16,runO_17,runO_18,runO_19,aop,binV,reOk,Nat.zero_sub,ev,fget,fput,cellsOf,cellsN,isLB,vget,vset,vsets,vlen,bget,bset,addB,addN,mkv,sliceV,vtab,frz,opOwns,preFz,owns,skipOp,WfT,casts,castOks,cast1,castOk,norm,norm1,normL,pureB,pureL,onesB,specV,argsL,capsL,mkE_S,lkp,pickV,stkFr,stkNx,Val.toInt,↓reduceIte,reduceCtorEq,Nat.reduceEqDiff,Nat.reduceAdd,Nat.reduceSub,Nat.reduceLeDiff,Nat.zero_add,Nat.add_zero,Nat.sub_zero,Int.reduceNeg,decide_true,bne_iff_ne,bne_eq_false_iff_eq,List.length_cons,List.length_nil,List.append_nil,Bool.and_self,Bool.bne_true,bne_self_eq_false,Bool.not_false,and_true,true_and,and_self,and_assoc,forall_const,imp_self,implies_true,Nat.le_refl,ne_eq,not_false_eq_true,false_implies,not_false_eq_true,keepF,appF,updB,inat,Prod.eta,Pm.c0,Pm.c1,Pm.c2,Pm.c3,Pm.c4,Pm.w_c,Pm.eta,toUI_val]
            repeat' (first | omega | (with_reducible apply And.intro) | intro _)
            refine inv_intro (j + 1,fun z => if z = j then (g.palms.2 j).planted else X2 z) ⟨by show j + 1 ≤ _; omega,fun z hz => ?_⟩ (by simp only; omega) ?_
            · simp only
              have := hX2 z hz
              split <;> omega
            · simp only [Chk,chkFr,chkBx,chkBx1,newIn,hasB,idsLt,kept,vs_int,vs_nil,vs_own,vs_ptr,vs_cons,vs_view,Nat.lt_irrefl,fget,isLB,bget,vp_int,vsubP_self,↓reduceIte,reduceCtorEq,Nat.reduceEqDiff,Nat.reduceLT,and_true,true_and,and_self,forall_const,implies_true,Option.some.injEq,Val.int.injEq,exists_eq',false_implies,or_false]
              rw [wrS (by omega)]
              first
                | refine ⟨rfl,rfl,fun z hz b hb => ?_⟩
                | refine ⟨rfl,fun z hz b hb => ?_⟩
                | refine fun z hz b hb => ?_
              obtain rfl : b = 0 := by omega
              by_cases h5 : z = j
              · subst h5; simp [vget]
              · simp [h5]
          · have fd := eq_false hdm
            simp (config := { maxSteps := 4000000 }) only [fj,fm,fp,fd,ea,↓imp_tt,↓imp_tf,↓imp_ft,↓imp_ff,runO_4,runO_5,runO_6,runO_8,runO_14,runO_16,runO_17,runO_18,runO_19,aop,binV,reOk,Nat.zero_sub,ev,fget,fput,cellsOf,cellsN,isLB,vget,vset,vsets,vlen,bget,bset,addB,addN,mkv,sliceV,vtab,frz,opOwns,preFz,skipOp,WfT,casts,castOks,cast1,castOk,norm,norm1,normL,pureB,pureL,onesB,specV,argsL,capsL,mkE_S,lkp,pickV,stkFr,stkNx,Val.toInt,↓reduceIte,reduceCtorEq,Nat.reduceEqDiff,Nat.reduceAdd,Nat.reduceSub,Nat.reduceLeDiff,Nat.zero_add,Nat.add_zero,Int.reduceNeg,decide_true,decide_false,bne_iff_ne,bne_eq_false_iff_eq,List.length_cons,List.length_nil,List.append_nil,Bool.and_self,Bool.bne_true,bne_self_eq_false,Bool.not_false,and_true,true_and,and_self,and_assoc,forall_const,imp_self,implies_true,Nat.le_refl,ne_eq,not_false_eq_true,false_implies,not_false_eq_true,keepF,appF,updB,inat,Prod.eta,Pm.c0,Pm.c1,Pm.c2,Pm.c3,Pm.c4,Pm.w_c,Pm.eta,toUI_val]
            repeat' (first | omega | (with_reducible apply And.intro) | intro _)
            refine inv_intro (j + 1,X2) ⟨by show j + 1 ≤ _; omega,hX2⟩ (by simp only; omega) ?_
            simp only [Chk,chkFr,chkBx,chkBx1,newIn,hasB,idsLt,kept,vs_int,vs_nil,vs_own,vs_ptr,vs_cons,vs_view,Nat.lt_irrefl,fget,isLB,bget,vsubP_self,↓reduceIte,reduceCtorEq,Nat.reduceEqDiff,Nat.reduceLT,and_true,true_and,and_self,forall_const,implies_true,Option.some.injEq,Val.int.injEq,exists_eq',false_implies,or_false]
            rw [wrS (by omega)]
            try exact ⟨rfl,rfl⟩
        · have fp := eq_false hp2
          simp (config := { maxSteps := 4000000 }) only [fj,fm,fp,↓imp_tt,↓imp_tf,↓imp_ft,↓imp_ff,runO_4,runO_5,runO_6,runO_8,runO_14,runO_16,runO_17,runO_18,runO_19,aop,binV,reOk,Nat.zero_sub,ev,fget,fput,cellsOf,cellsN,isLB,vget,vset,vsets,vlen,bget,bset,addB,addN,mkv,sliceV,vtab,frz,opOwns,preFz,skipOp,WfT,casts,castOks,cast1,castOk,onesB,pickV,stkFr,stkNx,Val.toInt,↓reduceIte,reduceCtorEq,Nat.reduceEqDiff,Nat.reduceAdd,Nat.reduceSub,Nat.reduceLeDiff,Nat.zero_add,Int.reduceNeg,decide_true,decide_false,bne_iff_ne,bne_eq_false_iff_eq,List.length_cons,List.length_nil,Bool.and_self,Bool.bne_true,bne_self_eq_false,Bool.not_false,and_true,true_and,and_self,forall_const,imp_self,implies_true,Nat.le_refl,ne_eq,not_false_eq_true,false_implies,not_false_eq_true,keepF,appF,updB,inat,Pm.c0,Pm.c1,Pm.c2,Pm.c3,Pm.c4]
          repeat' (first | omega | (with_reducible apply And.intro) | intro _)
          refine inv_intro (j + 1,X2) ⟨by show j + 1 ≤ _; omega,hX2⟩ (by simp only; omega) ?_
          simp only [Chk,chkFr,chkBx,chkBx1,newIn,hasB,idsLt,kept,vs_int,vs_nil,vs_own,vs_ptr,vs_cons,vs_view,Nat.lt_irrefl,fget,isLB,bget,vsubP_self,↓reduceIte,reduceCtorEq,Nat.reduceEqDiff,Nat.reduceLT,and_true,true_and,and_self,forall_const,implies_true,Option.some.injEq,Val.int.injEq,exists_eq',false_implies,or_false]
          rw [wrS (by omega)]
          try exact ⟨rfl,rfl⟩
    · have fj : ((j : Int) < (g.palms.1 : Int)) = False := eq_false (by omega)
      simp (config := { maxSteps := 4000000 }) only [fj,↓imp_ft,↓imp_ff,runO_5,runO_8,runO_9,runO_14,runO_16,runO_17,runO_18,runO_19,aop,binV,ev,fget,fput,bset,addB,addN,frz,opOwns,preFz,skipOp,WfT,popTo,stkFr,stkNx,↓reduceIte,reduceCtorEq,Nat.reduceEqDiff,Int.reduceNeg,decide_false,true_and,and_self,forall_const,imp_self,implies_true,keepF,appF,updB]
      refine inv_intro (r + 1,X2) ⟨by show r + 1 ≤ _; omega,hX2⟩ (by simp only; omega) ?_
      simp only [Chk,chkFr,chkBx,chkBx1,newIn,hasB,idsLt,kept,vs_int,vs_nil,vs_own,vs_ptr,vs_cons,vs_view,fget,isLB,bget,vsubP_self,↓reduceIte,reduceCtorEq,Nat.reduceEqDiff,Nat.reduceLT,and_true,true_and,and_self,forall_const,implies_true,Option.some.injEq,Val.int.injEq,exists_eq',or_false]
      rw [wrS (by omega)]
      try exact ⟨rfl,rfl⟩
  have fr1 : ((r : Int) < (g.palms.1 : Int)) = False := eq_false (by omega)
  have e0 : IntKind.i64.wrap (3 * (g.palms.1 : Int)) = ((3 * g.palms.1 : Nat) : Int) := by rw [wr64 (by omega) (by omega)]; omega
  simp (config := { maxSteps := 4000000 }) only [fr1,e0,w1,↓imp_ft,↓imp_ff,runO_2,runO_5,runO_6,runO_9,runO_14,runO_15,runO_17,runO_18,runO_19,aop,binV,ev,fget,fput,vget,vlen,bget,bset,addB,addN,mkv,sliceV,vtab,frz,opOwns,preFz,skipOp,WfT,resV,resL,lenV,popTo,stkFr,stkNx,↓reduceIte,reduceCtorEq,Nat.reduceEqDiff,Nat.reduceAdd,Nat.reduceSub,Nat.reduceLeDiff,Nat.zero_add,Nat.add_zero,Int.reduceNeg,decide_false,List.length_cons,List.length_nil,true_and,and_self,forall_const,imp_self,implies_true,maxLen,Nat.reducePow,keepF,appF,updB]
  clear fr1 hrl hr1 hX
  refine loopI (ι := Nat × (Nat → Int)) (fun s => s.1 ≤ 3 * g.palms.1 ∧ ∀ z,z < g.palms.1 → 0 ≤ s.2 z ∧ s.2 z ≤ 100001) (fun s => 3 * g.palms.1 - s.1) [1,2,5,54] (fun s => [(55,.int .i64 s.1)]) (fun s => [(2,.row 3 1 g.palms.1 fun z _ => .int .i64 (s.2 z))]) (0,X1) ⟨Nat.zero_le _,hX1⟩ (by simp only [Chk,chkFr,chkBx,chkBx1,newIn,hasB,idsLt,kept,vs_int,vs_nil,vs_own,vs_ptr,vs_cons,vs_view,fget,isLB,bget,bset,vsubP_self,↓reduceIte,reduceCtorEq,Nat.reduceEqDiff,Nat.reduceLT,Int.cast_ofNat_Int,and_true,and_self,forall_const,implies_true,Option.some.injEq,exists_eq',or_false,keepF,appF,updB]; try rfl) fun s hs => ?_
  clear hX1
  obtain ⟨t,X0⟩ := s
  obtain ⟨ht1,hX⟩ := hs
  simp only at ht1 hX
  by_cases htl : t < 3 * g.palms.1
  · have ft : ((t : Int) < ((3 * g.palms.1 : Nat) : Int)) = True := eq_true (by omega)
    have e1 : IntKind.i64.wrap (2 * (t : Int)) = 2 * t := wr64 (by omega) (by omega)
    have e2 : IntKind.i64.wrap (30 + 2 * (t : Int)) = 30 + 2 * t := wr64 (by omega) (by omega)
    have e3 : IntKind.i64.wrap (31 + 2 * (t : Int)) = 31 + 2 * t := wr64 (by omega) (by omega)
    have e4 : IntKind.i64.wrap (32 + 2 * (t : Int)) = 32 + 2 * t := wr64 (by omega) (by omega)
    have cb1 := chsF_bd by' (30 + 2 * t)
    have cb2 := chsF_bd by' (31 + 2 * t)
    have cb3 := chsF_bd by' (32 + 2 * t)
    obtain ⟨c1,hc1⟩ : ∃ c,chsF by' (30 + 2 * t) = c := ⟨_,rfl⟩
    obtain ⟨c2,hc2⟩ : ∃ c,chsF by' (31 + 2 * t) = c := ⟨_,rfl⟩
    obtain ⟨c3,hc3⟩ : ∃ c,chsF by' (32 + 2 * t) = c := ⟨_,rfl⟩
    rw [hc1] at cb1
    rw [hc2] at cb2
    rw [hc3] at cb3
    have u1 : IntKind.i64.wrap c1 = c1 := wr64 (by omega) (by omega)
    have u2 : IntKind.i64.wrap c2 = c2 := wr64 (by omega) (by omega)
    obtain ⟨i,ei,hi⟩ : ∃ i : Nat,c1.tmod (g.palms.1 : Int) = i ∧ i < g.palms.1 := by
      have h3 := Int.tmod_nonneg (g.palms.1 : Int) cb1.1
      have h4 := Int.tmod_lt_of_pos c1 (show (0 : Int) < g.palms.1 by omega)
      exact ⟨(c1.tmod g.palms.1).toNat,by omega,by omega⟩
    obtain ⟨k,ek,hk⟩ : ∃ k : Nat,c2.tmod (g.palms.1 : Int) = k ∧ k < g.palms.1 := by
      have h3 := Int.tmod_nonneg (g.palms.1 : Int) cb2.1
      have h4 := Int.tmod_lt_of_pos c2 (show (0 : Int) < g.palms.1 by omega)
      exact ⟨(c2.tmod g.palms.1).toNat,by omega,by omega⟩
    have hXi := hX i hi
    have hXk := hX k hk
    have next : ∀ {P : Prop},P → P := fun h => h
    by_cases hk1 : X0 k = 100001
    · have g1 : (X0 k == 100001) = true := beq_iff_eq.2 hk1
      simp (config := { maxSteps := 4000000 }) only [ft,e1,e2,e3,hc1,hc2,u1,u2,ei,ek,g1,↓imp_tt,↓imp_tf,runO_4,runO_5,runO_6,runO_9,runO_14,runO_16,runO_17,runO_18,runO_19,aop,binV,Nat.zero_sub,ev,fget,fput,isLB,vget,bget,bset,addB,addN,mkv,frz,opOwns,preFz,skipOp,WfT,casts,castOks,cast1,castOk,norm,norm1,normL,pureB,pureL,specV,argsL,capsL,mkE_S,lkp,pickV,lenV,popTo,stkFr,stkNx,Val.toInt,↓reduceIte,reduceCtorEq,Nat.reduceEqDiff,Nat.zero_add,Int.reduceNeg,decide_true,List.length_cons,List.length_nil,List.append_nil,Bool.and_self,Bool.bne_false,and_true,true_and,and_self,and_assoc,forall_const,imp_self,implies_true,Nat.le_refl,ne_eq,keepF,appF,updB,inat,RU_W,RU_D,Prod.eta]
      repeat' (first | omega | (with_reducible apply And.intro) | intro _)
      refine inv_intro (t + 1,X0) ⟨by show t + 1 ≤ _; omega,hX⟩ (by simp only; omega) ?_
      simp only [Chk,chkFr,chkBx,chkBx1,newIn,hasB,idsLt,kept,vs_int,vs_nil,vs_own,vs_ptr,vs_cons,vs_view,fget,isLB,bget,vsubP_self,↓reduceIte,reduceCtorEq,Nat.reduceEqDiff,Nat.reduceLT,and_true,true_and,and_self,forall_const,implies_true,Option.some.injEq,Val.int.injEq,exists_eq',or_false]
      rw [wrS (by omega)]
      try exact ⟨rfl,rfl⟩
    have g1 : (X0 k == 100001) = false := beq_eq_false_iff_ne.2 hk1
    by_cases hi1 : X0 i = 100001
    case neg =>
      have g2 : (X0 i = 100001) = False := eq_false hi1
      simp (config := { maxSteps := 4000000 }) only [ft,e1,e2,e3,hc1,hc2,u1,u2,ei,ek,g1,g2,w1,w2,w3,↓imp_tt,↓imp_tf,↓imp_ft,↓imp_ff,runO_4,runO_5,runO_6,runO_8,runO_9,runO_14,runO_15,runO_16,runO_17,runO_18,runO_19,aop,binV,reOk,Nat.zero_sub,ev,fget,fput,params,cellsOf,cellsN,isLB,vget,vlen,bget,bset,addB,addN,mkv,sliceV,vtab,frz,opOwns,preFz,callFz,owns,skipOp,WfT,casts,castOks,cast1,castOk,norm,norms,norm1,normL,pureB,pureL,onesB,specV,argsL,capsL,mkE_S,mkE_I,lkp,pickV,lenV,popTo,stkFr,stkNx,Val.toInt,↓reduceIte,reduceCtorEq,Nat.reduceEqDiff,Nat.reduceAdd,Nat.reduceSub,Nat.reduceLeDiff,Nat.zero_add,Nat.add_zero,Nat.sub_zero,Int.reduceEq,Int.reduceNeg,decide_true,bne_iff_ne,bne_eq_false_iff_eq,List.length_cons,List.length_nil,List.append_nil,Bool.and_self,Bool.bne_true,bne_self_eq_false,Bool.not_false,and_true,true_and,and_self,and_assoc,forall_const,imp_self,implies_true,Nat.le_refl,decide_eq_true_eq,decide_eq_false_iff_not,ne_eq,not_false_eq_true,false_implies,not_false_eq_true,maxLen,Nat.reducePow,keepF,appF,updB,inat,RU_W,RU_D,Prod.eta,Pm.c0,Pm.c1,Pm.c2,Pm.c3,Pm.c4,Pm.w_c,Pm.eta,Pl.c0,Pl.c1,Pl.w_c,Pl.eta,Gv.eta,toUI_val]
      repeat' (first | omega | (with_reducible apply And.intro) | intro _)
      refine inv_intro (t + 1,X0) ⟨by show t + 1 ≤ _; omega,hX⟩ (by simp only; omega) ?_
      simp only [Chk,chkFr,chkBx,chkBx1,newIn,hasB,idsLt,kept,vs_int,vs_nil,vs_own,vs_ptr,vs_cons,vs_view,fget,isLB,bget,vsubP_self,↓reduceIte,reduceCtorEq,Nat.reduceEqDiff,Nat.reduceLT,and_true,true_and,and_self,forall_const,implies_true,Option.some.injEq,Val.int.injEq,exists_eq',or_false]
      rw [wrS (by omega)]
      try exact ⟨rfl,rfl⟩
    have g2 : (X0 i = 100001) = True := eq_true hi1
    have hpl := hg.pms.pl i hi
    have e5 : IntKind.i64.wrap (X0 k + g.hatch) = X0 k + g.hatch := wr64 (by omega) (by omega)
    obtain ⟨t3,et3⟩ : ∃ t3,c3.tmod 40 = t3 := ⟨_,rfl⟩
    have ht3 : 0 ≤ t3 ∧ t3 < 40 := by rw [← et3]; exact ⟨Int.tmod_nonneg _ cb3.1,Int.tmod_lt_of_pos _ (by omega)⟩
    have u3 : IntKind.i64.wrap t3 = t3 := wr64 (by omega) (by omega)
    obtain ⟨d,hd0⟩ : ∃ d,max (X0 k + g.hatch) (g.palms.2 i).planted + t3 = d := ⟨_,rfl⟩
    have hdb : 0 ≤ d ∧ d ≤ 200000 := by omega
    have e6 : IntKind.i64.wrap (max (X0 k + g.hatch) (g.palms.2 i).planted + t3) = d := by rw [hd0]; exact wr64 (by omega) (by omega)
    by_cases hdd : d ≤ 100000
    case neg =>
      have g3 := eq_false hdd
      simp (config := { maxSteps := 4000000 }) only [ft,e1,e2,e3,e4,e5,e6,hc1,hc2,hc3,u1,u2,u3,et3,ei,ek,g1,g2,g3,↓imp_tt,↓imp_tf,↓imp_ft,↓imp_ff,runO_4,runO_5,runO_6,runO_8,runO_9,runO_14,runO_16,runO_17,runO_18,runO_19,aop,binV,Nat.zero_sub,ev,fget,fput,isLB,vget,vlen,bget,bset,addB,addN,mkv,sliceV,vtab,frz,opOwns,preFz,skipOp,WfT,casts,castOks,cast1,castOk,norm,norm1,normL,pureB,pureL,specV,argsL,capsL,mkE_S,lkp,pickV,lenV,popTo,stkFr,stkNx,Val.toInt,↓reduceIte,reduceCtorEq,Nat.reduceEqDiff,Nat.reduceAdd,Nat.reduceSub,Nat.reduceLeDiff,Nat.zero_add,Nat.add_zero,Int.reduceEq,Int.reduceNeg,decide_true,decide_false,bne_iff_ne,bne_eq_false_iff_eq,List.length_cons,List.length_nil,List.append_nil,Bool.and_self,Bool.bne_true,bne_self_eq_false,Bool.not_false,and_true,true_and,and_self,and_assoc,forall_const,imp_self,implies_true,Nat.le_refl,ne_eq,not_false_eq_true,false_implies,not_true_eq_false,not_false_eq_true,keepF,appF,updB,inat,RU_W,RU_D,Prod.eta,Pm.c2]
      repeat' (first | omega | (with_reducible apply And.intro) | intro _)
      refine inv_intro (t + 1,X0) ⟨by show t + 1 ≤ _; omega,hX⟩ (by simp only; omega) ?_
      simp only [Chk,chkFr,chkBx,chkBx1,newIn,hasB,idsLt,kept,vs_int,vs_nil,vs_own,vs_ptr,vs_cons,vs_view,fget,isLB,bget,vsubP_self,↓reduceIte,reduceCtorEq,Nat.reduceEqDiff,Nat.reduceLT,and_true,true_and,and_self,forall_const,implies_true,Option.some.injEq,Val.int.injEq,exists_eq',or_false]
      rw [wrS (by omega)]
      try exact ⟨rfl,rfl⟩
    have g3 := eq_true hdd
    by_cases hff : fromP g i d k (X0 k)
    case neg =>
      have g4 := decP_f hff
      simp (config := { maxSteps := 4000000 }) only [ft,e1,e2,e3,e4,e5,e6,hc1,hc2,hc3,u1,u2,u3,et3,ei,ek,g1,g2,g3,g4,hg,↓imp_tt,↓imp_tf,↓imp_ft,↓imp_ff,runO_4,runO_5,runO_6,runO_8,runO_9,runO_14,runO_16,runO_17,runO_18,runO_19,aop,binV,ev,fget,fput,isLB,vget,vlen,bget,bset,addB,addN,mkv,sliceV,vtab,frz,opOwns,preFz,callFz,skipOp,WfT,casts,castOks,cast1,castOk,norm,norms,norm1,normL,pureB,pureL,specV,argsL,capsL,mkE_S,mkE_I,lkp,pickV,lenV,popTo,stkFr,stkNx,Val.toInt,↓reduceIte,reduceCtorEq,Nat.reduceEqDiff,Nat.reduceAdd,Nat.reduceSub,Nat.reduceLeDiff,Nat.zero_add,Nat.add_zero,Int.reduceEq,Int.reduceNeg,decide_true,bne_iff_ne,bne_eq_false_iff_eq,List.length_cons,List.length_nil,List.append_nil,Bool.and_self,bne_self_eq_false,and_true,true_and,and_self,and_assoc,forall_const,imp_self,implies_true,Nat.le_refl,ne_eq,not_false_eq_true,false_implies,not_true_eq_false,not_false_eq_true,keepF,appF,updB,inat,RU_W,RU_D,Prod.eta,Pm.c0,Pm.c1,Pm.c2,Pm.c3,Pm.c4,Pm.w_c,Pm.eta,Pl.c0,Pl.c1,Pl.w_c,Pl.eta,Gv.eta,toUI_val]
      repeat' (first | omega | (with_reducible apply And.intro) | intro _)
      refine inv_intro (t + 1,X0) ⟨by show t + 1 ≤ _; omega,hX⟩ (by simp only; omega) ?_
      simp only [Chk,chkFr,chkBx,chkBx1,newIn,hasB,idsLt,kept,vs_int,vs_nil,vs_own,vs_ptr,vs_cons,vs_view,fget,isLB,bget,vsubP_self,↓reduceIte,reduceCtorEq,Nat.reduceEqDiff,Nat.reduceLT,and_true,true_and,and_self,forall_const,implies_true,Option.some.injEq,Val.int.injEq,exists_eq',or_false]
      rw [wrS (by omega)]
      try exact ⟨rfl,rfl⟩
    have g4 := decP_t hff
    simp (config := { maxSteps := 4000000 }) only [ft,e1,e2,e3,e4,e5,e6,hc1,hc2,hc3,u1,u2,u3,et3,ei,ek,g1,g2,g3,g4,hg,w1,w2,w3,↓imp_tt,↓imp_tf,↓imp_ft,↓imp_ff,runO_4,runO_5,runO_6,runO_9,runO_14,runO_15,runO_16,runO_17,runO_18,runO_19,aop,binV,reOk,Nat.zero_sub,ev,fget,fput,params,cellsOf,cellsN,isLB,vget,vlen,bget,bset,addB,addN,mkv,sliceV,vtab,frz,opOwns,preFz,callFz,owns,skipOp,WfT,casts,castOks,cast1,castOk,norm,norms,norm1,normL,pureB,pureL,onesB,specV,argsL,capsL,mkE_S,mkE_I,lkp,pickV,lenV,popTo,stkFr,stkNx,Val.toInt,↓reduceIte,reduceCtorEq,Nat.reduceEqDiff,Nat.reduceAdd,Nat.reduceSub,Nat.reduceLeDiff,Nat.zero_add,Nat.add_zero,Nat.sub_zero,Int.reduceEq,Int.reduceNeg,decide_true,bne_iff_ne,bne_eq_false_iff_eq,List.length_cons,List.length_nil,List.append_nil,Bool.and_self,bne_self_eq_false,and_true,true_and,and_self,and_assoc,forall_const,imp_self,implies_true,Nat.le_refl,ne_eq,not_false_eq_true,false_implies,not_true_eq_false,not_false_eq_true,maxLen,Nat.reducePow,keepF,appF,updB,inat,RU_W,RU_D,Prod.eta,Pm.c0,Pm.c1,Pm.c2,Pm.c3,Pm.c4,Pm.w_c,Pm.eta,Pl.c0,Pl.c1,Pl.w_c,Pl.eta,Gv.eta,toUI_val]
    repeat' (first | omega | (with_reducible apply And.intro) | intro _)
    have hXd : ∀ z,z < g.palms.1 → 0 ≤ (if z = i then d else X0 z) ∧ (if z = i then d else X0 z) ≤ 100001 := fun z hz => by
      have := hX z hz
      split <;> omega
    refine loopI (ι := Nat × (Nat → Int)) (fun s => s.1 ≤ g.palms.1 ∧ ∀ z,z < g.palms.1 → 0 ≤ s.2 z ∧ s.2 z ≤ 100001) (fun s => g.palms.1 - s.1) [1,2,8] (fun s => [(9,.int .i64 s.1)]) (fun s => [(2,.row 3 1 g.palms.1 fun z _ => .int .i64 (s.2 z))]) (0,fun z => if z = i then d else X0 z) ⟨Nat.zero_le _,hXd⟩ (by simp only [Chk,chkFr,chkBx,chkBx1,newIn,hasB,idsLt,kept,vs_int,vs_nil,vs_own,vs_ptr,vs_cons,vs_view,fget,isLB,bget,bset,vp_int,vsubP_self,↓reduceIte,reduceCtorEq,Nat.reduceEqDiff,Nat.reduceLT,Int.cast_ofNat_Int,and_true,true_and,and_self,forall_const,implies_true,Option.some.injEq,exists_eq',or_false,keepF,appF,updB]; exact fun z hz b hb => by (obtain rfl : b = 0 := by omega); (by_cases h5 : z = i); (subst h5; simp [vget]); (simp [h5])) fun s hs => ?_
    obtain ⟨r,X1⟩ := s
    obtain ⟨hr1,hX1⟩ := hs
    simp only at hr1 hX1
    by_cases hrl : r < g.palms.1
    · have fr1 : ((r : Int) < (g.palms.1 : Int)) = True := eq_true (by omega)
      simp (config := { maxSteps := 4000000 }) only [fr1,w1,↓imp_tt,↓imp_tf,runO_4,runO_5,runO_6,runO_14,runO_15,runO_17,runO_18,runO_19,aop,binV,ev,fget,fput,vget,vlen,bget,bset,addB,addN,mkv,sliceV,vtab,frz,opOwns,preFz,skipOp,WfT,lenV,stkFr,stkNx,↓reduceIte,reduceCtorEq,Nat.reduceEqDiff,Nat.reduceAdd,Nat.reduceSub,Nat.reduceLeDiff,Nat.zero_add,Nat.add_zero,Int.reduceNeg,decide_true,List.length_cons,List.length_nil,and_true,true_and,and_self,forall_const,imp_self,implies_true,maxLen,Nat.reducePow,keepF,appF,updB]
      refine loopI (ι := Nat × (Nat → Int)) (fun s => s.1 ≤ g.palms.1 ∧ ∀ z,z < g.palms.1 → 0 ≤ s.2 z ∧ s.2 z ≤ 100001) (fun s => g.palms.1 - s.1) [1,2,8,9,12,13] (fun s => [(14,.int .i64 s.1)]) (fun s => [(2,.row 3 1 g.palms.1 fun z _ => .int .i64 (s.2 z))]) (0,X1) ⟨Nat.zero_le _,hX1⟩ (by simp only [Chk,chkFr,chkBx,chkBx1,newIn,hasB,idsLt,kept,vs_int,vs_nil,vs_own,vs_ptr,vs_cons,vs_view,fget,isLB,bget,bset,vsubP_self,↓reduceIte,reduceCtorEq,Nat.reduceEqDiff,Nat.reduceLT,Int.cast_ofNat_Int,and_true,and_self,forall_const,implies_true,Option.some.injEq,exists_eq',or_false,keepF,appF,updB]; try rfl) fun s hs => ?_
      obtain ⟨j,X2⟩ := s
      obtain ⟨hj1,hX2⟩ := hs
      simp only at hj1 hX2
      by_cases hjl : j < g.palms.1
      · have fj : ((j : Int) < (g.palms.1 : Int)) = True := eq_true (by omega)
        have hpl := hg.pms.pl j hjl
        by_cases hm : (g.palms.2 j).mother = -1
        · have fm := eq_true hm
          simp (config := { maxSteps := 4000000 }) only [fj,fm,↓imp_tt,↓imp_tf,↓imp_ft,↓imp_ff,runO_4,runO_5,runO_6,runO_8,runO_14,runO_16,runO_17,runO_18,runO_19,aop,binV,reOk,Nat.zero_sub,ev,fget,fput,cellsOf,cellsN,isLB,vget,vset,vsets,vlen,bget,bset,addB,addN,mkv,sliceV,vtab,frz,opOwns,preFz,owns,skipOp,WfT,casts,castOks,cast1,castOk,norm,norm1,normL,pureB,pureL,onesB,specV,argsL,capsL,mkE_S,lkp,pickV,stkFr,stkNx,Val.toInt,↓reduceIte,reduceCtorEq,Nat.reduceEqDiff,Nat.reduceAdd,Nat.reduceSub,Nat.reduceLeDiff,Nat.zero_add,Nat.add_zero,Nat.sub_zero,Int.reduceNeg,decide_true,bne_iff_ne,bne_eq_false_iff_eq,List.length_cons,List.length_nil,List.append_nil,Bool.and_self,Bool.bne_true,bne_self_eq_false,Bool.not_false,and_true,true_and,and_self,and_assoc,forall_const,imp_self,implies_true,Nat.le_refl,decide_eq_true_eq,decide_eq_false_iff_not,ne_eq,false_implies,not_true_eq_false,keepF,appF,updB,inat,Prod.eta,Pm.c0,Pm.c1,Pm.c2,Pm.c3,Pm.c4,Pm.w_c,Pm.eta,toUI_val]
          repeat' (first | omega | (with_reducible apply And.intro) | intro _)
          refine inv_intro (j + 1,X2) ⟨by show j + 1 ≤ _; omega,hX2⟩ (by simp only; omega) ?_
          simp only [Chk,chkFr,chkBx,chkBx1,newIn,hasB,idsLt,kept,vs_int,vs_nil,vs_own,vs_ptr,vs_cons,vs_view,Nat.lt_irrefl,fget,isLB,bget,vsubP_self,↓reduceIte,reduceCtorEq,Nat.reduceEqDiff,Nat.reduceLT,and_true,true_and,and_self,forall_const,implies_true,Option.some.injEq,Val.int.injEq,exists_eq',false_implies,or_false]
          rw [wrS (by omega)]
          try exact ⟨rfl,rfl⟩
        · have fm := eq_false hm
          obtain ⟨hmn,_,_⟩ := hg.mo hjl hm
          have ea : atF g.palms (g.palms.2 j).mother = (moF g j : Int) := atF_pos hmn
          by_cases hp2 : (g.palms.2 j).planted > g.start
          · have fp := eq_true hp2
            by_cases hdm : X2 (moF g j) ≤ (g.palms.2 j).planted
            · have fd := eq_true hdm
              simp (config := { maxSteps := 4000000 }) only [fj,fm,fp,fd,ea,↓imp_tt,↓imp_tf,↓imp_ft,↓imp_ff,runO_4,runO_5,runO_6,runO_8,runO_14,runO_16,runO_17,runO_18,runO_19,aop,binV,reOk,Nat.zero_sub,ev,fget,fput,cellsOf,cellsN,isLB,vget,vset,vsets,vlen,bget,bset,addB,addN,mkv,sliceV,vtab,frz,opOwns,preFz,owns,skipOp,WfT,casts,castOks,cast1,castOk,norm,norm1,normL,pureB,pureL,onesB,specV,argsL,capsL,mkE_S,lkp,pickV,stkFr,stkNx,Val.toInt,↓reduceIte,reduceCtorEq,Nat.reduceEqDiff,Nat.reduceAdd,Nat.reduceSub,Nat.reduceLeDiff,Nat.zero_add,Nat.add_zero,Nat.sub_zero,Int.reduceNeg,decide_true,bne_iff_ne,bne_eq_false_iff_eq,List.length_cons,List.length_nil,List.append_nil,Bool.and_self,Bool.bne_true,bne_self_eq_false,Bool.not_false,and_true,true_and,and_self,and_assoc,forall_const,imp_self,implies_true,Nat.le_refl,ne_eq,not_false_eq_true,false_implies,not_false_eq_true,keepF,appF,updB,inat,Prod.eta,Pm.c0,Pm.c1,Pm.c2,Pm.c3,Pm.c4,Pm.w_c,Pm.eta,toUI_val]
              repeat' (first | omega | (with_reducible apply And.intro) | intro _)
              refine inv_intro (j + 1,fun z => if z = j then (g.palms.2 j).planted else X2 z) ⟨by show j + 1 ≤ _; omega,fun z hz => ?_⟩ (by simp only; omega) ?_
              · simp only
                have := hX2 z hz
                split <;> omega
              · simp only [Chk,chkFr,chkBx,chkBx1,newIn,hasB,idsLt,kept,vs_int,vs_nil,vs_own,vs_ptr,vs_cons,vs_view,Nat.lt_irrefl,fget,isLB,bget,vp_int,vsubP_self,↓reduceIte,reduceCtorEq,Nat.reduceEqDiff,Nat.reduceLT,and_true,true_and,and_self,forall_const,implies_true,Option.some.injEq,Val.int.injEq,exists_eq',false_implies,or_false]
                rw [wrS (by omega)]
                first
                  | refine ⟨rfl,rfl,fun z hz b hb => ?_⟩
                  | refine ⟨rfl,fun z hz b hb => ?_⟩
                  | refine fun z hz b hb => ?_
                obtain rfl : b = 0 := by omega
                by_cases h5 : z = j
                · subst h5; simp [vget]
                · simp [h5]
            · have fd := eq_false hdm
              simp (config := { maxSteps := 4000000 }) only [fj,fm,fp,fd,ea,↓imp_tt,↓imp_tf,↓imp_ft,↓imp_ff,runO_4,runO_5,runO_6,runO_8,runO_14,runO_16,runO_17,runO_18,runO_19,aop,binV,reOk,Nat.zero_sub,ev,fget,fput,cellsOf,cellsN,isLB,vget,vset,vsets,vlen,bget,bset,addB,addN,mkv,sliceV,vtab,frz,opOwns,preFz,skipOp,WfT,casts,castOks,cast1,castOk,norm,norm1,normL,pureB,pureL,onesB,specV,argsL,capsL,mkE_S,lkp,pickV,stkFr,stkNx,Val.toInt,↓reduceIte,reduceCtorEq,Nat.reduceEqDiff,Nat.reduceAdd,Nat.reduceSub,Nat.reduceLeDiff,Nat.zero_add,Nat.add_zero,Int.reduceNeg,decide_true,decide_false,bne_iff_ne,bne_eq_false_iff_eq,List.length_cons,List.length_nil,List.append_nil,Bool.and_self,Bool.bne_true,bne_self_eq_false,Bool.not_false,and_true,true_and,and_self,and_assoc,forall_const,imp_self,implies_true,Nat.le_refl,ne_eq,not_false_eq_true,false_implies,not_false_eq_true,keepF,appF,updB,inat,Prod.eta,Pm.c0,Pm.c1,Pm.c2,Pm.c3,Pm.c4,Pm.w_c,Pm.eta,toUI_val]
              repeat' (first | omega | (with_reducible apply And.intro) | intro _)
              refine inv_intro (j + 1,X2) ⟨by show j + 1 ≤ _; omega,hX2⟩ (by simp only; omega) ?_
              simp only [Chk,chkFr,chkBx,chkBx1,newIn,hasB,idsLt,kept,vs_int,vs_nil,vs_own,vs_ptr,vs_cons,vs_view,Nat.lt_irrefl,fget,isLB,bget,vsubP_self,↓reduceIte,reduceCtorEq,Nat.reduceEqDiff,Nat.reduceLT,and_true,true_and,and_self,forall_const,implies_true,Option.some.injEq,Val.int.injEq,exists_eq',false_implies,or_false]
              rw [wrS (by omega)]
              try exact ⟨rfl,rfl⟩
          · have fp := eq_false hp2
            simp (config := { maxSteps := 4000000 }) only [fj,fm,fp,↓imp_tt,↓imp_tf,↓imp_ft,↓imp_ff,runO_4,runO_5,runO_6,runO_8,runO_14,runO_16,runO_17,runO_18,runO_19,aop,binV,reOk,Nat.zero_sub,ev,fget,fput,cellsOf,cellsN,isLB,vget,vset,vsets,vlen,bget,bset,addB,addN,mkv,sliceV,vtab,frz,opOwns,preFz,skipOp,WfT,casts,castOks,cast1,castOk,onesB,pickV,stkFr,stkNx,Val.toInt,↓reduceIte,reduceCtorEq,Nat.reduceEqDiff,Nat.reduceAdd,Nat.reduceSub,Nat.reduceLeDiff,Nat.zero_add,Int.reduceNeg,decide_true,decide_false,bne_iff_ne,bne_eq_false_iff_eq,List.length_cons,List.length_nil,Bool.and_self,Bool.bne_true,bne_self_eq_false,Bool.not_false,and_true,true_and,and_self,forall_const,imp_self,implies_true,Nat.le_refl,ne_eq,not_false_eq_true,false_implies,not_false_eq_true,keepF,appF,updB,inat,Pm.c0,Pm.c1,Pm.c2,Pm.c3,Pm.c4]
            repeat' (first | omega | (with_reducible apply And.intro) | intro _)
            refine inv_intro (j + 1,X2) ⟨by show j + 1 ≤ _; omega,hX2⟩ (by simp only; omega) ?_
            simp only [Chk,chkFr,chkBx,chkBx1,newIn,hasB,idsLt,kept,vs_int,vs_nil,vs_own,vs_ptr,vs_cons,vs_view,Nat.lt_irrefl,fget,isLB,bget,vsubP_self,↓reduceIte,reduceCtorEq,Nat.reduceEqDiff,Nat.reduceLT,and_true,true_and,and_self,forall_const,implies_true,Option.some.injEq,Val.int.injEq,exists_eq',false_implies,or_false]
            rw [wrS (by omega)]
            try exact ⟨rfl,rfl⟩
      · have fj : ((j : Int) < (g.palms.1 : Int)) = False := eq_false (by omega)
        simp (config := { maxSteps := 4000000 }) only [fj,↓imp_ft,↓imp_ff,runO_5,runO_8,runO_9,runO_14,runO_16,runO_17,runO_18,runO_19,aop,binV,ev,fget,fput,bset,addB,addN,frz,opOwns,preFz,skipOp,WfT,popTo,stkFr,stkNx,↓reduceIte,reduceCtorEq,Nat.reduceEqDiff,Int.reduceNeg,decide_false,true_and,and_self,forall_const,imp_self,implies_true,keepF,appF,updB]
        refine inv_intro (r + 1,X2) ⟨by show r + 1 ≤ _; omega,hX2⟩ (by simp only; omega) ?_
        simp only [Chk,chkFr,chkBx,chkBx1,newIn,hasB,idsLt,kept,vs_int,vs_nil,vs_own,vs_ptr,vs_cons,vs_view,fget,isLB,bget,vsubP_self,↓reduceIte,reduceCtorEq,Nat.reduceEqDiff,Nat.reduceLT,and_true,true_and,and_self,forall_const,implies_true,Option.some.injEq,Val.int.injEq,exists_eq',or_false]
        rw [wrS (by omega)]
        try exact ⟨rfl,rfl⟩
    have fr1 : ((r : Int) < (g.palms.1 : Int)) = False := eq_false (by omega)
    simp (config := { maxSteps := 4000000 }) only [fr1,↓imp_ft,↓imp_ff,runO_2,runO_5,runO_8,runO_9,runO_14,runO_16,runO_17,runO_18,runO_19,aop,binV,ev,fget,fput,bset,addB,addN,frz,opOwns,preFz,skipOp,WfT,resV,resL,popTo,stkFr,stkNx,↓reduceIte,reduceCtorEq,Nat.reduceEqDiff,Int.reduceNeg,decide_false,true_and,and_self,forall_const,imp_self,implies_true,keepF,appF,updB]
    repeat' (first | omega | (with_reducible apply And.intro) | intro _)
    refine inv_intro (t + 1,X1) ⟨by show t + 1 ≤ _; omega,hX1⟩ (by simp only; omega) ?_
    simp only [Chk,chkFr,chkBx,chkBx1,newIn,hasB,idsLt,kept,vs_int,vs_nil,vs_own,vs_ptr,vs_cons,vs_view,Nat.lt_irrefl,fget,isLB,bget,vsubP_self,↓reduceIte,reduceCtorEq,Nat.reduceEqDiff,Nat.reduceLT,and_true,true_and,and_self,forall_const,implies_true,Option.some.injEq,Val.int.injEq,exists_eq',false_implies,or_false]
    rw [wrS (by omega)]
    try exact ⟨rfl,rfl⟩
  have ft : ((t : Int) < ((3 * g.palms.1 : Nat) : Int)) = False := eq_false (by omega)
  have hX00 : ∀ z,z < g.palms.1 → 0 ≤ X0 z := fun z hz => (hX z hz).1
  by_cases hH : HistP g X0
  case neg =>
    have fH := decP_f hH
    simp (config := { maxSteps := 4000000 }) only [ft,fH,hg,w1,w2,w3,flatO,↓imp_tt,↓imp_tf,↓imp_ft,↓imp_ff,runO_3,runO_5,runO_9,runO_14,runO_17,runO_18,runO_19,aop,binV,ends,ev,fget,fput,isLB,vget,vlen,bget,bset,addB,addN,mkv,sliceV,vtab,frz,opOwns,preFz,callFz,skipOp,WfT,resV,res1,norm,norms,norm1,normL,pureB,pureL,flatB,snapV,snapOk,snapL,snapOks,specV,argsL,capsL,mkE_S,mkE_I,lkp,popTo,stkFr,stkNx,↓reduceIte,reduceCtorEq,Nat.reduceEqDiff,Nat.reduceAdd,Nat.reduceSub,Nat.zero_add,Int.reduceNeg,decide_false,List.length_cons,List.length_nil,List.append_nil,Bool.and_true,Bool.and_false,Bool.and_self,Bool.not_true,Bool.not_false,and_true,true_and,and_self,forall_const,imp_self,implies_true,Nat.le_refl,maxLen,Nat.reducePow,keepF,appF,updB,Prod.eta,Pm.c0,Pm.c1,Pm.c2,Pm.c3,Pm.c4,Pm.w_c,Pm.eta,Pl.c0,Pl.c1,Pl.w_c,Pl.eta,Gv.eta,toUI_val]
    repeat' (first | omega | (with_reducible apply And.intro) | intro _)
    all_goals exact hX00 _ (by assumption)
  have fH := decP_t hH
  obtain ⟨T,hT⟩ : ∃ T,selF (fun j => fitP g (l.2 j) X0) l.2 ⟨0,0,0,⟨0,0⟩,0⟩ = T := ⟨_,rfl⟩
  have hT0 : T 0 = (0,fun _ => ⟨0,0,0,⟨0,0⟩,0⟩) := by rw [← hT]; rfl
  have hTle : ∀ j,(T j).1 ≤ j := fun j => by rw [← hT]; exact sel_le j
  have hTt : ∀ j,fitP g (l.2 j) X0 → T (j + 1) = ((T j).1 + 1,fun k => if k < (T j).1 then (T j).2 k else l.2 j) := fun j h => by rw [← hT]; exact sel_t h
  have hTf : ∀ j,¬ fitP g (l.2 j) X0 → T (j + 1) = T j := fun j h => by rw [← hT]; exact sel_f h
  have hTm : ∀ k,k < (T l.1).1 → ∃ i,i < l.1 ∧ fitP g (l.2 i) X0 ∧ (T l.1).2 k = l.2 i := fun k hk => by rw [← hT] at hk ⊢; exact sel_mem l.1 k hk
  simp (config := { maxSteps := 4000000 }) only [ft,fH,hg,w1,w2,w3,w4,flatO,↓imp_ft,↓imp_ff,runO_3,runO_4,runO_5,runO_6,runO_9,runO_14,runO_15,runO_17,runO_18,runO_19,aop,binV,ends,ev,fget,fput,isLB,vget,vlen,bget,bset,addB,addN,mkv,sliceV,vtab,frz,opOwns,preFz,callFz,skipOp,WfT,resV,res1,norm,norms,norm1,normL,pureB,pureL,flatB,snapV,snapOk,snapL,snapOks,specV,argsL,capsL,mkE_S,mkE_I,lkp,lenV,popTo,stkFr,stkNx,↓reduceIte,reduceCtorEq,Nat.reduceEqDiff,Nat.reduceAdd,Nat.reduceSub,Nat.zero_add,Int.reduceNeg,decide_false,List.length_cons,List.length_nil,List.append_nil,Bool.and_true,Bool.and_false,Bool.and_self,Bool.not_true,and_true,true_and,and_self,forall_const,imp_self,implies_true,Nat.le_refl,maxLen,Nat.reducePow,keepF,appF,updB,Prod.eta,Pm.c0,Pm.c1,Pm.c2,Pm.c3,Pm.c4,Pm.w_c,Pm.eta,Pl.c0,Pl.c1,Pl.w_c,Pl.eta,Gv.eta,toUI_val]
  repeat' (first | omega | (with_reducible apply And.intro) | intro _)
  refine loopJ (ι := Nat) (fun j => j ≤ l.1) (fun j => l.1 - j) [2,4,9,10,59,60] (fun j => [(11,.own 4),(61,.int .i64 j)]) (fun j => [(4,.row 57 6 (T j).1 fun a b => ((T j).2 a).c b)]) 1 0 (by omega) (by simp only [hT0,Chk,chkFr,chkBx,chkBx1,newIn,hasB,idsLt,kept,vs_int,vs_bool,vs_nil,vs_own,vs_ptr,vs_cons,vs_view,fget,isLB,bget,bset,vsubP_self,↓reduceIte,reduceCtorEq,Nat.reduceEqDiff,Nat.reduceAdd,Nat.reduceLT,Int.cast_ofNat_Int,and_true,and_self,forall_const,implies_true,Option.some.injEq,exists_eq',or_true,or_false,keepF,appF,updB]) fun j hj => ?_
  by_cases hjl : j < l.1
  · have fj : ((j : Int) < (l.1 : Int)) = True := eq_true (by omega)
    have hs := hl.2 j hjl
    have hTj := hTle j
    by_cases hF : fitP g (l.2 j) X0
    · have g1 := decP_t hF
      have en := hTt j hF
      obtain ⟨⟨m,f⟩,hTT⟩ : ∃ p,T j = p := ⟨_,rfl⟩
      rw [hTT] at en hTj
      simp only at en hTj
      simp (config := { maxSteps := 4000000 }) only [fj,g1,hg,hs,hTT,w1,w2,w3,flatO,↓imp_tt,↓imp_tf,runO_4,runO_5,runO_6,runO_8,runO_14,runO_16,runO_17,runO_18,runO_19,aop,binV,reOk,Nat.zero_sub,ev,fget,fput,cellsOf,cellsN,isLB,vget,vset,vsets,vlen,bget,bset,addB,addN,mkv,sliceV,vtab,rowsV,rowsOk,vrep,frz,opOwns,preFz,callFz,owns,skipOp,WfT,casts,castOks,cast1,castOk,norm,norms,norm1,normL,pureB,pureL,flatB,onesB,snapV,snapOk,snapL,snapOks,specV,argsL,capsL,mkE_S,mkE_I,mkE_G,lkp,subFr,subV,subBx,subStk,elemsV,stkFr,stkNx,Val.toInt,↓reduceIte,reduceCtorEq,Nat.reduceEqDiff,Nat.reduceAdd,Nat.reduceSub,Nat.reduceLeDiff,Nat.reduceLT,Nat.zero_add,Int.reduceNeg,decide_true,List.length_cons,List.length_nil,List.append_nil,List.flatMap_cons,List.flatMap_nil,Bool.and_true,Bool.and_false,Bool.and_self,Bool.not_true,and_true,true_and,and_self,forall_const,imp_self,implies_true,Nat.le_refl,or_false,maxLen,Nat.reducePow,keepF,appF,updB,inat,Prod.eta,Pm.c0,Pm.c1,Pm.c2,Pm.c3,Pm.c4,Pm.w_c,Pm.eta,Pl.c0,Pl.c1,Pl.w_c,Pl.eta,Gv.eta,Sg.c0,Sg.c1,Sg.c2,Sg.c3,Sg.c4,Sg.c5,Sg.eta,toUI_val]
      repeat' (first | omega | (with_reducible apply And.intro) | intro _)
      refine inv_intro (j + 1) (by omega) (by omega) ?_
      simp only [en,Chk,chkFr,chkBx,chkBx1,newIn,hasB,idsLt,kept,vs_int,vs_bool,vs_nil,vs_own,vs_ptr,vs_cons,vs_view,Nat.lt_irrefl,fget,isLB,bget,vsubP_self,↓reduceIte,reduceCtorEq,Nat.reduceEqDiff,Nat.reduceLT,and_true,true_and,and_self,forall_const,implies_true,Option.some.injEq,Val.int.injEq,exists_eq',false_implies,or_false]
      rw [wrS (by omega)]
      first
        | refine ⟨rfl,rfl,fun a ha b hb => ?_⟩
        | refine ⟨rfl,fun a ha b hb => ?_⟩
        | refine fun a ha b hb => ?_
      by_cases h5 : a < m
      · simp only [if_pos h5]; exact (vsubP_self _).mpr trivial
      · obtain rfl : a = m := by omega
        simp only [if_neg h5,Nat.sub_self]
        rcases (by omega : b = 0 ∨ b = 1 ∨ b = 2 ∨ b = 3 ∨ b = 4 ∨ b = 5) with rfl | rfl | rfl | rfl | rfl | rfl <;> rfl
    · have g1 := decP_f hF
      have en := hTf j hF
      simp (config := { maxSteps := 4000000 }) only [fj,g1,hg,hs,w1,w2,w3,flatO,↓imp_tt,↓imp_tf,↓imp_ft,↓imp_ff,runO_4,runO_5,runO_6,runO_8,runO_14,runO_16,runO_17,runO_18,runO_19,aop,binV,reOk,Nat.zero_sub,ev,fget,fput,cellsOf,cellsN,isLB,vget,vset,vsets,vlen,bget,bset,addB,addN,mkv,sliceV,vtab,frz,opOwns,preFz,callFz,skipOp,WfT,casts,castOks,cast1,castOk,norm,norms,norm1,normL,pureB,pureL,flatB,onesB,snapV,snapOk,snapL,snapOks,specV,argsL,capsL,mkE_S,mkE_I,lkp,stkFr,stkNx,Val.toInt,↓reduceIte,reduceCtorEq,Nat.reduceEqDiff,Nat.reduceAdd,Nat.reduceSub,Nat.zero_add,Int.reduceNeg,decide_true,List.length_cons,List.length_nil,List.append_nil,Bool.and_true,Bool.and_false,Bool.and_self,Bool.not_true,and_true,true_and,and_self,forall_const,imp_self,implies_true,Nat.le_refl,maxLen,Nat.reducePow,keepF,appF,updB,inat,Prod.eta,Pm.c0,Pm.c1,Pm.c2,Pm.c3,Pm.c4,Pm.w_c,Pm.eta,Pl.c0,Pl.c1,Pl.w_c,Pl.eta,Gv.eta,Sg.c0,Sg.c1,Sg.c2,Sg.c3,Sg.c4,Sg.c5,Sg.eta,toUI_val]
      repeat' (first | omega | (with_reducible apply And.intro) | intro _)
      refine inv_intro (j + 1) (by omega) (by omega) ?_
      simp only [en,Chk,chkFr,chkBx,chkBx1,newIn,hasB,idsLt,kept,vs_int,vs_bool,vs_nil,vs_own,vs_ptr,vs_cons,vs_view,Nat.lt_irrefl,fget,isLB,bget,vsubP_self,↓reduceIte,reduceCtorEq,Nat.reduceEqDiff,Nat.reduceLT,and_true,true_and,and_self,forall_const,implies_true,Option.some.injEq,Val.int.injEq,exists_eq',false_implies,or_false]
      rw [wrS (by omega)]
      try exact ⟨rfl,rfl⟩
  have fj : ((j : Int) < (l.1 : Int)) = False := eq_false (by omega)
  obtain rfl : j = l.1 := by omega
  have hTn := hTle l.1
  obtain ⟨⟨m,f⟩,hTT⟩ : ∃ p,T l.1 = p := ⟨_,rfl⟩
  rw [hTT] at hTn hTm
  simp only at hTn hTm
  have hlt : SgsOk g (m,f) := ⟨by have := hl.1; show m ≤ 30; omega,fun k hk => by
    obtain ⟨z,h1,h2,h3⟩ := hTm k hk
    show SgOk g (f k)
    rw [h3]; exact hl.2 z h1⟩
  have hft : ∀ k,k < (m,f).1 → fitP g ((m,f).2 k) X0 := fun k hk => by
    obtain ⟨z,h1,h2,h3⟩ := hTm k hk
    show fitP g (f k) X0
    rw [h3]; exact h2
  have hok : okP g (m,f) m := dy_fit hg hlt.2 hH hft
  obtain ⟨q1,q2,q3⟩ := st_ok hg hlt hok
  have q4 := asE_ok hg hlt hd hok
  have q5 := il_ok hg hlt hd hok
  have q6 := gf_ok hg hlt hd hok
  have hkn := fun i hi => known (day := day) (i := i) hg hlt.2 (by omega) hH hft hi
  have hgm : ∀ k,k < (gfF g (m,f) day g.palms.1).1 → ∃ i,i < g.palms.1 ∧ giftOk g (m,f) day i ∧ (gfF g (m,f) day g.palms.1).2 k = (g.palms.2 i).id := fun k hk => sel_mem g.palms.1 k hk
  obtain ⟨D,hD⟩ : ∃ D,dyF g (m,f) (m,f).1 = D := ⟨_,rfl⟩
  obtain ⟨K,hK⟩ : ∃ K,illF g (m,f) day = K := ⟨_,rfl⟩
  have hgd : ∀ i,giftOk g (m,f) day i → D i > day ∧ day - (g.palms.2 i).planted ≥ 1000 := fun i h => by rw [← hD]; exact h
  obtain ⟨⟨mg,gf⟩,hGF⟩ : ∃ p,gfF g (m,f) day g.palms.1 = p := ⟨_,rfl⟩
  rw [hD] at q3
  rw [hK] at q5
  rw [hGF] at q6 hgm
  simp only [hD,hK] at hkn
  simp only at q6 hgm
  simp (config := { maxSteps := 4000000 }) only [fj,hTT,q1,q2,q3,q4,q5,q6,w1,w2,w3,flatO,↓imp_ft,↓imp_ff,runO_4,runO_5,runO_6,runO_9,runO_14,runO_15,runO_17,runO_18,runO_19,aop,binV,ev,fget,fput,isLB,vget,vlen,bget,bset,bdel,addB,addN,mkv,sliceV,vtab,frz,opOwns,preFz,callFz,ownsL,owns,skipOp,WfT,norm,norms,norm1,normL,pureB,pureL,flatB,snapV,snapL,specV,argsL,capsL,mkE_S,mkE_I,lkp,pickV,lenV,subFr,subV,subBx,subStk,popTo,stkFr,stkNx,↓reduceIte,reduceCtorEq,Nat.reduceEqDiff,Nat.reduceAdd,Nat.reduceSub,Nat.reduceLT,Nat.zero_add,Int.reduceNeg,decide_false,List.length_cons,List.length_nil,List.nil_append,List.append_nil,Bool.and_true,Bool.and_false,Bool.and_self,bne_self_eq_false,Bool.not_false,and_true,true_and,and_self,forall_const,imp_self,implies_true,Nat.le_refl,maxLen,Nat.reducePow,keepF,appF,updB,Prod.eta,Pm.c0,Pm.c1,Pm.c2,Pm.c3,Pm.c4,Pm.w_c,Pm.eta,Pl.c0,Pl.c1,Pl.w_c,Pl.eta,Gv.eta,Sg.c0,Sg.c1,Sg.c2,Sg.c3,Sg.c4,Sg.c5,Sg.w_c,Sg.eta,toUI_val]
  repeat' (first | omega | (with_reducible apply And.intro) | intro _)
  have hmg : mg ≤ g.palms.1 := by
    have : (gfF g (m,f) day g.palms.1).1 ≤ g.palms.1 := sel_le _
    rw [hGF] at this; exact this
  refine loopI (ι := Nat) (fun j => j ≤ g.palms.1) (fun j => g.palms.1 - j) [2,4,9,14,17,19,119,120] (fun j => [(121,.int .i64 j)]) (fun _ => []) 0 (by omega) (by simp only [Chk,chkFr,chkBx,chkBx1,newIn,hasB,idsLt,kept,vs_int,vs_bool,vs_nil,vs_own,vs_ptr,vs_cons,vs_view,fget,isLB,bget,vsubP_self,↓reduceIte,reduceCtorEq,Nat.reduceEqDiff,Nat.reduceLT,Int.cast_ofNat_Int,and_true,and_self,forall_const,implies_true,Option.some.injEq,exists_eq',or_false,keepF,appF,updB]; try rfl) fun j hj => ?_
  by_cases hjl : j < g.palms.1
  case neg =>
    have fj : ((j : Int) < (g.palms.1 : Int)) = False := eq_false (by omega)
    simp (config := { maxSteps := 4000000 }) only [fj,↓imp_ft,↓imp_ff,runO_3,runO_5,runO_9,runO_14,runO_17,runO_18,runO_19,aop,binV,ends,ev,fget,fput,addB,addN,frz,opOwns,preFz,skipOp,WfT,resV,res1,snapV,snapOk,popTo,stkFr,stkNx,↓reduceIte,reduceCtorEq,Nat.reduceEqDiff,Int.reduceNeg,decide_false,and_self,forall_const,imp_self,implies_true,keepF,appF,updB]
  have fj : ((j : Int) < (g.palms.1 : Int)) = True := eq_true (by omega)
  obtain ⟨o1,o2,o3,o4,o5⟩ := hkn j hjl
  have hXj := hX j hjl
  have hpj := hg.pms.pl j hjl
  have g1 : (X0 j < D j) = False := eq_false (by omega)
  have g2 : (K j > 2) = False := eq_false (by omega)
  have key : ((K j == 0) = true ∧ (K j == 2) = false ∧ (X0 j ≤ day) = False ∧ (X0 j < D j) = False) ∨ ((K j == 0) = false ∧ (K j == 2) = true ∧ (X0 j < D j) = False ∧ (X0 j > day) = False) ∨ ((K j == 0) = false ∧ (K j == 2) = false ∧ (X0 j < D j) = False ∧ (X0 j < D j) = False) := by
    by_cases h0 : K j = 0
    · exact .inl ⟨beq_iff_eq.2 h0,beq_eq_false_iff_ne.2 (by omega),eq_false (by have := o4 h0; omega),g1⟩
    · by_cases h2 : K j = 2
      · exact .inr (.inl ⟨beq_eq_false_iff_ne.2 h0,beq_iff_eq.2 h2,g1,eq_false (by have := o5 h2; omega)⟩)
      · exact .inr (.inr ⟨beq_eq_false_iff_ne.2 h0,beq_eq_false_iff_ne.2 h2,g1,g1⟩)
  rcases key with ⟨gx,gy,g5,g6⟩ | ⟨gx,gy,g5,g6⟩ | ⟨gx,gy,g5,g6⟩
  all_goals
    simp (config := { maxSteps := 4000000 }) only [fj,g1,g2,gx,gy,g5,g6,w1,↓imp_tt,↓imp_tf,↓imp_ft,↓imp_ff,runO_4,runO_5,runO_6,runO_14,runO_15,runO_17,runO_18,runO_19,aop,binV,Nat.zero_sub,ev,fget,fput,vget,bget,addB,addN,mkv,frz,opOwns,preFz,skipOp,WfT,casts,castOks,cast1,castOk,pickV,lenV,stkFr,stkNx,Val.toInt,↓reduceIte,reduceCtorEq,Nat.reduceEqDiff,Nat.reduceSub,Nat.zero_add,Int.reduceNeg,decide_true,decide_false,List.length_cons,List.length_nil,Bool.bne_true,bne_self_eq_false,Bool.not_false,and_true,true_and,and_self,forall_const,imp_self,implies_true,Nat.le_refl,maxLen,Nat.reducePow,keepF,appF,updB,inat]
    repeat' (first | omega | (with_reducible apply And.intro) | intro _)
    refine loopI (ι := Nat) (fun z => z ≤ mg) (fun z => mg - z) [2,4,9,14,17,19,21,22,119,120,121,163,164] (fun z => [(165,.int .i64 z)]) (fun _ => []) 0 (by omega) (by simp only [Chk,chkFr,chkBx,chkBx1,newIn,hasB,idsLt,kept,vs_int,vs_bool,vs_nil,vs_own,vs_ptr,vs_cons,vs_view,fget,isLB,bget,vsubP_self,↓reduceIte,reduceCtorEq,Nat.reduceEqDiff,Nat.reduceLT,Int.cast_ofNat_Int,and_true,and_self,forall_const,implies_true,Option.some.injEq,exists_eq',or_false,keepF,appF,updB]; try rfl) fun z hz => ?_
    by_cases hzl : z < mg
    · have fz : ((z : Int) < (mg : Int)) = True := eq_true (by omega)
      obtain ⟨mi,k1,k2,k3⟩ := hgm z hzl
      by_cases hid : gf z = (g.palms.2 j).id
      · have hmj : mi = j := hg.pms.inj k1 hjl (by rw [← k3]; exact hid)
        subst hmj
        have h8 := hgd _ k2
        have g7 : (X0 mi ≤ day) = False := eq_false (by omega)
        have g8 : (day - (g.palms.2 mi).planted < 1000) = False := eq_false (by omega)
        have e9 : IntKind.i64.wrap (day - (g.palms.2 mi).planted) = day - (g.palms.2 mi).planted := wr64 (by omega) (by omega)
        simp (config := { maxSteps := 4000000 }) only [fz,hid,g7,g8,e9,w1,↓imp_tt,↓imp_tf,↓imp_ft,↓imp_ff,runO_4,runO_5,runO_6,runO_8,runO_14,runO_16,runO_17,runO_18,runO_19,aop,binV,ev,fget,fput,vget,vlen,bget,addB,addN,mkv,sliceV,vtab,frz,opOwns,preFz,skipOp,WfT,casts,castOks,cast1,castOk,pickV,stkFr,stkNx,Val.toInt,↓reduceIte,reduceCtorEq,Nat.reduceEqDiff,Nat.reduceAdd,Nat.reduceSub,Nat.reduceLeDiff,Nat.zero_add,Nat.add_zero,Nat.sub_zero,Int.reduceNeg,decide_true,decide_false,List.length_cons,List.length_nil,bne_self_eq_false,beq_self_eq_true,and_true,true_and,and_self,and_assoc,forall_const,imp_self,implies_true,Nat.le_refl,maxLen,Nat.reducePow,keepF,appF,updB,inat,Pm.c0,Pm.c2]
        repeat' (first | omega | (with_reducible apply And.intro) | intro _)
        refine inv_intro (z + 1) (by omega) (by omega) ?_
        simp only [Chk,chkFr,chkBx,chkBx1,newIn,hasB,idsLt,kept,vs_int,vs_bool,vs_nil,vs_own,vs_ptr,vs_cons,vs_view,fget,isLB,bget,vsubP_self,↓reduceIte,reduceCtorEq,Nat.reduceEqDiff,Nat.reduceLT,and_true,true_and,and_self,forall_const,implies_true,Option.some.injEq,Val.int.injEq,exists_eq',or_false]
        rw [wrS (by omega)]
        try exact ⟨rfl,rfl⟩
      · have g9 : (gf z == (g.palms.2 j).id) = false := beq_eq_false_iff_ne.2 hid
        simp (config := { maxSteps := 4000000 }) only [fz,g9,w1,↓imp_tt,↓imp_tf,↓imp_ft,↓imp_ff,runO_4,runO_5,runO_6,runO_8,runO_14,runO_16,runO_17,runO_18,runO_19,aop,binV,Nat.zero_sub,ev,fget,fput,vget,vlen,bget,addB,addN,mkv,sliceV,vtab,frz,opOwns,preFz,skipOp,WfT,casts,castOks,cast1,castOk,pickV,stkFr,stkNx,Val.toInt,↓reduceIte,reduceCtorEq,Nat.reduceEqDiff,Nat.reduceAdd,Nat.reduceSub,Nat.reduceLeDiff,Nat.zero_add,Nat.add_zero,Nat.sub_zero,Int.reduceNeg,decide_true,List.length_cons,List.length_nil,Bool.bne_true,Bool.not_false,and_true,true_and,and_self,and_assoc,forall_const,imp_self,implies_true,Nat.le_refl,maxLen,Nat.reducePow,keepF,appF,updB,inat,Pm.c0]
        repeat' (first | omega | (with_reducible apply And.intro) | intro _)
        refine inv_intro (z + 1) (by omega) (by omega) ?_
        simp only [Chk,chkFr,chkBx,chkBx1,newIn,hasB,idsLt,kept,vs_int,vs_bool,vs_nil,vs_own,vs_ptr,vs_cons,vs_view,fget,isLB,bget,vsubP_self,↓reduceIte,reduceCtorEq,Nat.reduceEqDiff,Nat.reduceLT,and_true,true_and,and_self,forall_const,implies_true,Option.some.injEq,Val.int.injEq,exists_eq',or_false]
        rw [wrS (by omega)]
        try exact ⟨rfl,rfl⟩
    · have fz : ((z : Int) < (mg : Int)) = False := eq_false (by omega)
      simp (config := { maxSteps := 4000000 }) only [fz,↓imp_ft,↓imp_ff,runO_5,runO_8,runO_9,runO_14,runO_16,runO_17,runO_18,runO_19,aop,binV,ev,fget,fput,addB,addN,frz,opOwns,preFz,skipOp,WfT,popTo,stkFr,stkNx,↓reduceIte,reduceCtorEq,Nat.reduceEqDiff,Int.reduceNeg,decide_false,true_and,and_self,forall_const,imp_self,implies_true,keepF,appF,updB]
      repeat' (first | omega | (with_reducible apply And.intro) | intro _)
      refine inv_intro (j + 1) (by omega) (by omega) ?_
      simp only [Chk,chkFr,chkBx,chkBx1,newIn,hasB,idsLt,kept,vs_int,vs_bool,vs_nil,vs_own,vs_ptr,vs_cons,vs_view,fget,isLB,bget,vsubP_self,↓reduceIte,reduceCtorEq,Nat.reduceEqDiff,Nat.reduceLT,and_true,true_and,and_self,forall_const,implies_true,Option.some.injEq,Val.int.injEq,exists_eq',or_false]
      rw [wrS (by omega)]
      try exact ⟨rfl,rfl⟩
end Go.Proofs.Ytpknbojgkkmonaa
