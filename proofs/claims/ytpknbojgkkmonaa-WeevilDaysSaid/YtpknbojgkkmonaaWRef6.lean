/- Groves, the reference: comparisons, lower, fit. No condition but bounds. -/
import Derived.Test.YtpknbojgkkmonaaWRef5
import Derived.Test.YtpknbojgkkmonaaACodeB
set_option linter.unusedSimpArgs false
set_option linter.unusedVariables false
namespace Go.Proofs.Ytpknbojgkkmonaa
open Go Go.RowKit
variable {G : Nat → Option (Nat × (Nat → Val))}
noncomputable def sSamePm : Spec := spec2 (TSl RPm) (TSl RPm) (fun _ _ => True) fun a b => .bool (sameB a b)
set_option maxRecDepth 100000 in
theorem pSamePm : PureOk Try.prog G 50 sSamePm := by
  refine fn2 (S := []) (I := []) mixed .nil .nil Try.func50 c50 fun a b _ hw => ?_
  simp only [vl,WfT,Val.toInt,Val.slen,Val.scell,Nat.reduceSub,and_true,maxLen,Nat.reducePow,TSl,RPm,Pm.d] at hw
  obtain ⟨w1,w2⟩ := hw
  simp only [RunTo,a50,w1,w2,runO_3,runO_4,runO_5,runO_6,runO_14,runO_15,runO_17,runO_18,runO_19,aop,binV,ends,ev,fget,fput,params,addB,addN,frz,opOwns,preFz,skipOp,WfT,resV,res1,snapV,snapOk,lenV,Fin,vp_bool,Val.toInt,Val.slen,Val.scell,↓reduceIte,reduceCtorEq,Nat.reduceEqDiff,Nat.reduceSub,Nat.zero_add,bne_iff_ne,bne_eq_false_iff_eq,true_and,and_self,forall_const,Val.bool.injEq,ne_eq,maxLen,Nat.reducePow,TSl,RPm,Pm.d]
  refine ⟨fun h => (decP_f fun k => h (by omega)).symm,fun h => ?_⟩
  refine loopI (ι := Nat) (fun j => j ≤ a.1 ∧ ∀ i,i < j → a.2 i = b.2 i) (fun j => a.1 - j) [0,1] (fun j => [(5,.int .i64 j)]) (fun _ => []) 0 ⟨by omega,fun i h => by omega⟩ (by simp only [Chk,chkFr,chkBx,idsLt,kept,vs_int,vs_view,fget,vsubP_self,↓reduceIte,reduceCtorEq,Nat.reduceEqDiff,Int.cast_ofNat_Int,and_self,forall_const,implies_true,keepF,appF,updB]; try rfl) fun j hj => ?_
  obtain ⟨hj1,hj2⟩ := hj
  simp only [w1,runO_3,runO_4,runO_5,runO_6,runO_8,runO_9,runO_14,runO_16,runO_17,runO_18,runO_19,aop,binV,ends,ev,fget,fput,addB,addN,mkv,frz,opOwns,preFz,skipOp,WfT,resV,res1,casts,castOks,cast1,castOk,snapV,snapOk,eqCells,eqOk,lenV,popTo,stkFr,stkNx,Val.toInt,↓reduceIte,reduceCtorEq,Nat.reduceEqDiff,Nat.reduceAdd,Nat.reduceSub,Nat.zero_add,List.length_cons,List.length_nil,Bool.not_eq_true',Bool.not_eq_false',Bool.and_true,true_and,and_self,and_assoc,forall_const,Nat.le_refl,decide_eq_true_eq,decide_eq_false_iff_not,Val.bool.injEq,maxLen,Nat.reducePow,keepF,appF,updB,inat,Pm.c0,Pm.c1,Pm.c2,Pm.c3,Pm.c4]
  refine ⟨fun hlt => ⟨by omega,by omega,by omega,by omega,fun h1 => (decP_f fun k => ?_).symm,fun h1 => inv_intro (j + 1) ⟨by omega,fun i hi => ?_⟩ (by omega) ?_⟩,fun hge => ?_⟩
  · rw [k.2 j (by omega)] at h1; simp at h1
  · rcases Nat.lt_or_ge i j with h5 | h5
    · exact hj2 i h5
    · obtain rfl : i = j := by omega
      exact pmEq.1 h1
  · simp only [Chk,chkFr,chkBx,idsLt,kept,vs_int,vs_view,fget,vsubP_self,↓reduceIte,reduceCtorEq,Nat.reduceEqDiff,and_true,true_and,and_self,forall_const,implies_true,Val.int.injEq]
    rw [wrS (by omega)]
  · exact (decP_t ⟨by omega,fun i hi => hj2 i (by omega)⟩).symm
noncomputable def sSameSg : Spec := spec2 (TSl RSg) (TSl RSg) (fun _ _ => True) fun a b => .bool (sameB a b)
set_option maxRecDepth 100000 in
theorem pSameSg : PureOk Try.prog G 21 sSameSg := by
  refine fn2 (S := []) (I := []) mixed .nil .nil Try.func21 c21 fun a b _ hw => ?_
  simp only [vl,WfT,Val.toInt,Val.slen,Val.scell,Nat.reduceSub,and_true,maxLen,Nat.reducePow,TSl,RSg,Sg.d] at hw
  obtain ⟨w1,w2⟩ := hw
  simp only [RunTo,a21,w1,w2,runO_3,runO_4,runO_5,runO_6,runO_14,runO_15,runO_17,runO_18,runO_19,aop,binV,ends,ev,fget,fput,params,addB,addN,frz,opOwns,preFz,skipOp,WfT,resV,res1,snapV,snapOk,lenV,Fin,vp_bool,Val.toInt,Val.slen,Val.scell,↓reduceIte,reduceCtorEq,Nat.reduceEqDiff,Nat.reduceSub,Nat.zero_add,bne_iff_ne,bne_eq_false_iff_eq,true_and,and_self,forall_const,Val.bool.injEq,ne_eq,maxLen,Nat.reducePow,TSl,RSg,Sg.d]
  refine ⟨fun h => (decP_f fun k => h (by omega)).symm,fun h => ?_⟩
  refine loopI (ι := Nat) (fun j => j ≤ a.1 ∧ ∀ i,i < j → a.2 i = b.2 i) (fun j => a.1 - j) [0,1] (fun j => [(5,.int .i64 j)]) (fun _ => []) 0 ⟨by omega,fun i h => by omega⟩ (by simp only [Chk,chkFr,chkBx,idsLt,kept,vs_int,vs_view,fget,vsubP_self,↓reduceIte,reduceCtorEq,Nat.reduceEqDiff,Int.cast_ofNat_Int,and_self,forall_const,implies_true,keepF,appF,updB]; try rfl) fun j hj => ?_
  obtain ⟨hj1,hj2⟩ := hj
  simp only [w1,runO_3,runO_4,runO_5,runO_6,runO_8,runO_9,runO_14,runO_16,runO_17,runO_18,runO_19,aop,binV,ends,ev,fget,fput,addB,addN,mkv,frz,opOwns,preFz,skipOp,WfT,resV,res1,casts,castOks,cast1,castOk,snapV,snapOk,eqCells,eqOk,lenV,popTo,stkFr,stkNx,Val.toInt,↓reduceIte,reduceCtorEq,Nat.reduceEqDiff,Nat.reduceAdd,Nat.reduceSub,Nat.zero_add,List.length_cons,List.length_nil,Bool.not_eq_true',Bool.not_eq_false',Bool.and_true,true_and,and_self,and_assoc,forall_const,Nat.le_refl,decide_eq_true_eq,decide_eq_false_iff_not,Val.bool.injEq,maxLen,Nat.reducePow,keepF,appF,updB,inat,Sg.c0,Sg.c1,Sg.c2,Sg.c3,Sg.c4,Sg.c5]
  refine ⟨fun hlt => ⟨by omega,by omega,by omega,by omega,fun h1 => (decP_f fun k => ?_).symm,fun h1 => inv_intro (j + 1) ⟨by omega,fun i hi => ?_⟩ (by omega) ?_⟩,fun hge => ?_⟩
  · rw [k.2 j (by omega)] at h1; simp at h1
  · rcases Nat.lt_or_ge i j with h5 | h5
    · exact hj2 i h5
    · obtain rfl : i = j := by omega
      exact sgEq.1 h1
  · simp only [Chk,chkFr,chkBx,idsLt,kept,vs_int,vs_view,fget,vsubP_self,↓reduceIte,reduceCtorEq,Nat.reduceEqDiff,and_true,true_and,and_self,forall_const,implies_true,Val.int.injEq]
    rw [wrS (by omega)]
  · exact (decP_t ⟨by omega,fun i hi => hj2 i (by omega)⟩).symm
noncomputable def sLower : Spec := (spec2 TGv (TSl RSg) (fun g l => GvOk g ∧ ∀ j,j < l.1 → SgOk g (l.2 j)) fun g l => .view 1 g.palms.1 fun i _ => .int .i64 (lowF g l.2 l.1 i)).mine 3
set_option maxRecDepth 100000 in
theorem pLower : PureOk Try.prog G 47 sLower := by
  refine fo2 (S := [(36,sAt)]) (I := []) mixed (.cons pAt .nil) .nil Try.func47 c47 fun g l hp hw => ?_
  obtain ⟨hg,hl⟩ := hp
  simp only [vl,WfT,Val.toInt,Val.slen,Val.scell,Nat.reduceSub,and_true,true_and,and_assoc,maxLen,Nat.reducePow,TSl,RInt,RPm,Pm.d,RPl,Pl.d,Gv.L,TGv,RSg,Sg.d] at hw
  simp only [RunOwn,a47,sAt,hw,FinS,runO_5,runO_6,runO_15,runO_17,runO_18,runO_19,aop,ev,fget,fput,params,cellsOf,cellsN,isLB,vget,vlen,bget,addB,addN,mkv,sliceV,vtab,frz,opOwns,preFz,skipOp,WfT,pureB,onesB,lenV,Fin,Val.toInt,Val.slen,Val.scell,↓reduceIte,Nat.reduceEqDiff,Nat.reduceAdd,Nat.reduceSub,Nat.reduceLeDiff,Nat.reduceLT,Nat.zero_add,Nat.add_zero,Int.cast_ofNat_Int,List.length_cons,List.length_nil,Bool.and_self,and_true,true_and,and_self,and_assoc,forall_const,exists_and_left,maxLen,Nat.reducePow,inat,spec2,TSl,IsSl,TInt,IsInt,RInt,RPm,Pm.d,RPl,Pl.d,Gv.L,TGv,RSg,Sg.d]
  have hn := hg.pms.n
  refine ⟨by omega,by omega,by omega,?_⟩
  refine loopI (ι := Nat) (fun j => j ≤ l.1) (fun j => l.1 - j) [1,2,5] (fun j => [(6,.int .i64 j)]) (fun j => [(1,.row 3 1 g.palms.1 fun i _ => .int .i64 (lowF g l.2 j i))]) 0 (by omega) (by simp only [lowF,Chk,chkFr,chkBx,chkBx1,newIn,hasB,idsLt,kept,vs_int,vs_nil,vs_own,vs_ptr,vs_cons,vs_view,fget,isLB,bget,bset,vp_int,vsubP_self,↓reduceIte,reduceCtorEq,Nat.reduceEqDiff,Nat.reduceLT,Int.cast_ofNat_Int,and_true,true_and,and_self,forall_const,implies_true,Option.some.injEq,exists_eq',or_false,keepF,appF,updB]; exact fun i hi j hj => by (obtain rfl : j = 0 := by omega); rfl) fun j hj => ?_
  by_cases hjl : j < l.1
  · have fj : ((j : Int) < (l.1 : Int)) = True := eq_true (by omega)
    have hs := hl j hjl
    have hb := lowF_bd hg hl j (by omega)
    have hsh := hg.shows
    have hday := hs.1
    have hst := hg.start
    have e1 : IntKind.i64.wrap ((l.2 j).day - g.shows) = (l.2 j).day - g.shows := wr64 (by omega) (by omega)
    have e2 : IntKind.i64.wrap ((l.2 j).day - g.shows + 1) = (l.2 j).day - g.shows + 1 := wr64 (by omega) (by omega)
    by_cases hk : (l.2 j).kind = 1
    · have hm : hitN g.palms (l.2 j).palm < g.palms.1 := by
        rcases hs.2 with h | h
        · exact h.2.1
        · have := h.1; omega
      have ea := atF_pos hm
      simp only [fj,hk,ea,e1,e2,hw,↓imp_tt,↓imp_tf,runO_4,runO_5,runO_6,runO_8,runO_14,runO_16,runO_17,runO_18,runO_19,aop,binV,reOk,Nat.zero_sub,ev,fget,fput,cellsOf,cellsN,isLB,vget,vlen,bget,bset,addB,addN,mkv,sliceV,vtab,frz,opOwns,preFz,callFz,owns,skipOp,WfT,casts,castOks,cast1,castOk,norm,norm1,normL,pureB,pureL,onesB,specV,argsL,capsL,mkE_S,mkE_I,lkp,lenV,stkFr,stkNx,Val.toInt,↓reduceIte,reduceCtorEq,Nat.reduceEqDiff,Nat.reduceAdd,Nat.reduceSub,Nat.reduceLeDiff,Nat.zero_add,Nat.add_zero,Nat.sub_zero,decide_true,List.length_cons,List.length_nil,List.append_nil,Bool.and_self,beq_self_eq_true,and_true,true_and,and_self,and_assoc,forall_const,implies_true,Nat.le_refl,maxLen,Nat.reducePow,keepF,appF,updB,inat,Prod.eta,Pm.c0,Pm.c1,Pm.c2,Pm.c3,Pm.c4,Pm.w_c,Pm.eta,Sg.c0,Sg.c1,Sg.c2,toUI_val]
      repeat' (first | omega | (with_reducible apply And.intro) | intro _)
      refine inv_intro (j + 1) (by omega) (by omega) ?_
      simp only [Chk,chkFr,chkBx,chkBx1,newIn,hasB,idsLt,kept,vs_int,vs_nil,vs_own,vs_ptr,vs_cons,vs_view,fget,isLB,bget,vp_int,vsubP_self,↓reduceIte,reduceCtorEq,Nat.reduceEqDiff,Nat.reduceLT,and_true,true_and,and_self,forall_const,implies_true,Option.some.injEq,Val.int.injEq,exists_eq',or_false]
      rw [wrS (by omega)]
      refine ⟨rfl,fun i hi b hb => ?_⟩
      obtain rfl : b = 0 := by omega
      simp only [lowF,hk,true_and]
      by_cases h5 : i = hitN g.palms (l.2 j).palm
      · subst h5; simp [vget]
      · have h6 : ¬ hitN g.palms (l.2 j).palm = i := fun e => h5 e.symm
        simp [h5,h6]
    · simp only [fj,hk,e1,e2,hw,↓imp_tt,↓imp_tf,runO_4,runO_5,runO_6,runO_8,runO_14,runO_16,runO_17,runO_18,runO_19,aop,binV,reOk,Nat.zero_sub,ev,fget,fput,cellsOf,cellsN,isLB,vget,vlen,bget,bset,addB,addN,mkv,sliceV,vtab,frz,opOwns,preFz,callFz,owns,skipOp,WfT,casts,castOks,cast1,castOk,norm,norm1,normL,pureB,pureL,onesB,specV,argsL,capsL,mkE_S,mkE_I,lkp,lenV,stkFr,stkNx,Val.toInt,↓reduceIte,reduceCtorEq,Nat.reduceEqDiff,Nat.reduceAdd,Nat.reduceSub,Nat.reduceLeDiff,Nat.zero_add,Nat.add_zero,Nat.sub_zero,decide_true,beq_iff_eq,beq_eq_false_iff_ne,List.length_cons,List.length_nil,List.append_nil,Bool.and_self,and_true,true_and,and_self,and_assoc,forall_const,implies_true,Nat.le_refl,ne_eq,not_false_eq_true,false_implies,not_false_eq_true,maxLen,Nat.reducePow,keepF,appF,updB,inat,Prod.eta,Pm.c0,Pm.c1,Pm.c2,Pm.c3,Pm.c4,Pm.w_c,Pm.eta,Sg.c0,Sg.c1,Sg.c2,toUI_val]
      refine ⟨by omega,inv_intro (j + 1) (by omega) (by omega) ?_⟩
      simp only [lowF,hk,false_and,Chk,chkFr,chkBx,chkBx1,newIn,hasB,idsLt,kept,vs_int,vs_nil,vs_own,vs_ptr,vs_cons,vs_view,fget,isLB,bget,vsubP_self,↓reduceIte,reduceCtorEq,Nat.reduceEqDiff,Nat.reduceLT,and_true,true_and,and_self,forall_const,implies_true,Option.some.injEq,Val.int.injEq,exists_eq',or_false]
      rw [wrS (by omega)]
  · have fj : ((j : Int) < (l.1 : Int)) = False := eq_false (by omega)
    obtain rfl : j = l.1 := by omega
    simp only [fj,hw,↓imp_ft,↓imp_ff,runO_3,runO_5,runO_9,runO_14,runO_17,runO_18,runO_19,aop,binV,ends,ev,fget,fput,bget,bset,addB,addN,frz,opOwns,preFz,skipOp,WfT,resV,res1,snapV,snapOk,lenV,popTo,stkFr,stkNx,vsubP_self,↓reduceIte,reduceCtorEq,Nat.reduceEqDiff,Nat.reduceSub,decide_false,true_and,and_self,forall_const,maxLen,Nat.reducePow,keepF,appF,updB]
    exact ⟨1,rfl,1,g.palms.1,_,rfl,_,rfl,fun i hi b hb => ⟨rfl,rfl⟩⟩
noncomputable def sFit : Spec := spec3 TGv (TSl RSg) (TSl (RInt .i64)) (fun g l d => GvOk g ∧ (∀ j,j < l.1 → SgOk g (l.2 j)) ∧ d.1 = g.palms.1) fun g l d => .bool (decP (∀ j,j < l.1 → fitP g (l.2 j) d.2))
set_option maxRecDepth 100000 in
theorem pFit : PureOk Try.prog G 48 sFit := by
  refine fn3 (S := [(32,sFits)]) (I := []) mixed (.cons pFits .nil) .nil Try.func48 c48 fun g l d hp hw => ?_
  obtain ⟨hg,hl,hd⟩ := hp
  simp only [vl,WfT,Val.toInt,Val.slen,Val.scell,Nat.reduceSub,and_true,true_and,and_assoc,maxLen,Nat.reducePow,TSl,RInt,RPm,Pm.d,RPl,Pl.d,Gv.L,TGv,RSg,Sg.d] at hw
  obtain ⟨w1,w2,w3⟩ := hw
  simp only [RunTo,a48,runO_5,runO_6,runO_15,runO_17,runO_18,runO_19,aop,ev,fget,fput,params,cellsOf,cellsN,isLB,vlen,addB,addN,frz,opOwns,preFz,skipOp,WfT,Fin,vp_bool,Val.toInt,Val.slen,Val.scell,↓reduceIte,Nat.reduceAdd,Nat.zero_add,true_and,and_self,forall_const,TSl,RInt,RPm,Pm.d,RPl,Pl.d,Gv.L,TGv,RSg,Sg.d]
  refine loopI (ι := Nat) (fun j => j ≤ l.1 ∧ ∀ i,i < j → fitP g (l.2 i) d.2) (fun j => l.1 - j) [1,2,3] (fun j => [(7,.int .i64 j)]) (fun _ => []) 0 ⟨by omega,fun i h => by omega⟩ (by simp only [Chk,chkFr,chkBx,chkBx1,hasB,idsLt,kept,vs_int,vs_nil,vs_ptr,vs_cons,vs_view,fget,isLB,bget,vsubP_self,↓reduceIte,reduceCtorEq,Nat.reduceEqDiff,Nat.reduceLT,Int.cast_ofNat_Int,and_self,forall_const,implies_true,Option.some.injEq,exists_eq',keepF,appF,updB]; try rfl) fun j hj => ?_
  obtain ⟨hj1,hj2⟩ := hj
  by_cases hjl : j < l.1
  · have fj : ((j : Int) < (l.1 : Int)) = True := eq_true (by omega)
    have hs := hl j hjl
    by_cases hF : fitP g (l.2 j) d.2
    · have e1 := decP_t hF
      simp only [sFits,fj,e1,hg,hs,hd,w3,↓imp_tt,↓imp_tf,↓imp_ft,↓imp_ff,runO_4,runO_5,runO_6,runO_8,runO_14,runO_16,runO_17,runO_18,runO_19,aop,binV,ev,fget,fput,cellsOf,isLB,vget,vlen,bget,addB,addN,mkv,sliceV,vtab,frz,opOwns,preFz,callFz,skipOp,WfT,casts,castOks,cast1,castOk,norm,norms,norm1,normL,pureB,pureL,specV,argsL,capsL,mkE_S,mkE_I,lkp,lenV,stkFr,stkNx,Val.toInt,Val.slen,Val.scell,↓reduceIte,reduceCtorEq,Nat.reduceEqDiff,Nat.reduceAdd,Nat.reduceSub,Nat.zero_add,decide_true,List.length_cons,List.length_nil,List.append_nil,Bool.and_self,Bool.not_true,and_true,true_and,and_self,and_assoc,forall_const,imp_self,implies_true,Nat.le_refl,maxLen,Nat.reducePow,keepF,appF,updB,inat,spec3,TSl,IsSl,RInt,Prod.eta,Pm.c0,Pm.c1,Pm.c2,Pm.c3,Pm.c4,RPm,Pm.w_c,Pm.d,Pm.eta,Pl.c0,Pl.c1,RPl,Pl.w_c,Pl.d,Pl.eta,Gv.L,Gv.Is,Gv.of,TGv,Gv.d,Gv.eta,Sg.L,Sg.c0,Sg.c1,Sg.c2,Sg.c3,Sg.c4,Sg.c5,Sg.Is,Sg.of,TSg,Sg.d,Sg.eta,toUI_val]
      refine ⟨by omega,inv_intro (j + 1) ⟨by omega,fun i hi => ?_⟩ (by omega) ?_⟩
      · rcases Nat.lt_or_ge i j with h5 | h5
        · exact hj2 i h5
        · obtain rfl : i = j := by omega
          exact hF
      · simp only [Chk,chkFr,chkBx,chkBx1,hasB,idsLt,kept,vs_int,vs_nil,vs_ptr,vs_cons,vs_view,fget,isLB,bget,vsubP_self,↓reduceIte,Nat.reduceEqDiff,Nat.reduceLT,and_true,true_and,and_self,forall_const,implies_true,Option.some.injEq,Val.int.injEq,exists_eq']
        rw [wrS (by omega)]
    · have e1 := decP_f hF
      simp only [sFits,fj,e1,hg,hs,hd,w3,↓imp_tt,↓imp_tf,runO_3,runO_4,runO_5,runO_6,runO_14,runO_17,runO_18,runO_19,aop,binV,ends,ev,fget,fput,cellsOf,isLB,vget,vlen,bget,addB,addN,mkv,sliceV,vtab,frz,opOwns,preFz,callFz,skipOp,WfT,resV,res1,casts,castOks,cast1,castOk,norm,norms,norm1,normL,pureB,pureL,snapV,snapOk,specV,argsL,capsL,mkE_S,mkE_I,lkp,lenV,stkFr,stkNx,Val.toInt,Val.slen,Val.scell,↓reduceIte,reduceCtorEq,Nat.reduceEqDiff,Nat.reduceAdd,Nat.reduceSub,Nat.zero_add,decide_true,List.length_cons,List.length_nil,List.append_nil,Bool.and_self,Bool.not_false,and_true,true_and,and_self,and_assoc,forall_const,imp_self,implies_true,Nat.le_refl,Val.bool.injEq,maxLen,Nat.reducePow,keepF,appF,updB,inat,spec3,TSl,IsSl,RInt,Prod.eta,Pm.c0,Pm.c1,Pm.c2,Pm.c3,Pm.c4,RPm,Pm.w_c,Pm.d,Pm.eta,Pl.c0,Pl.c1,RPl,Pl.w_c,Pl.d,Pl.eta,Gv.L,Gv.Is,Gv.of,TGv,Gv.d,Gv.eta,Sg.L,Sg.c0,Sg.c1,Sg.c2,Sg.c3,Sg.c4,Sg.c5,Sg.Is,Sg.of,TSg,Sg.d,Sg.eta,toUI_val]
      exact ⟨by omega,(decP_f fun k => hF (k j hjl)).symm⟩
  · have fj : ((j : Int) < (l.1 : Int)) = False := eq_false (by omega)
    simp only [fj,w3,↓imp_ft,↓imp_ff,runO_3,runO_5,runO_9,runO_14,runO_17,runO_18,runO_19,aop,binV,ends,ev,fget,fput,addB,addN,frz,opOwns,preFz,skipOp,WfT,resV,res1,snapV,snapOk,lenV,popTo,stkFr,stkNx,↓reduceIte,reduceCtorEq,Nat.reduceEqDiff,Nat.reduceSub,decide_false,true_and,and_self,forall_const,Val.bool.injEq,maxLen,Nat.reducePow,keepF,appF,updB]
    exact (decP_t fun i hi => hj2 i (by omega)).symm
end Go.Proofs.Ytpknbojgkkmonaa
