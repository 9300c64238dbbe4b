/- Groves, the reference: valid signs, from whom, what fits. No condition but bounds. -/
import Derived.Test.YtpknbojgkkmonaaWRef4
set_option linter.unusedSimpArgs false
set_option linter.unusedVariables false
namespace Go.Proofs.Ytpknbojgkkmonaa
open Go Go.RowKit
variable {G : Nat → Option (Nat × (Nat → Val))}
def SgsOk (g : Gv) (l : Sgs) : Prop := l.1 ≤ 30 ∧ ∀ j,j < l.1 → SgOk g (l.2 j)
noncomputable def sgsE (g : Gv) (l : Sgs) : Int := if gvE g = 0 then (if l.1 > 30 then 4 else @ite _ (∀ j,j < l.1 → SgOk g (l.2 j)) (Classical.propDecidable _) 0 91) else gvE g
theorem sgsE_g {g : Gv} {l : Sgs} (h : gvE g ≠ 0) : sgsE g l = gvE g := by unfold sgsE; rw [if_neg h]
theorem sgsE_many {g : Gv} {l : Sgs} (h : gvE g = 0) (h2 : l.1 > 30) : sgsE g l = 4 := by unfold sgsE; rw [if_pos h,if_pos h2]
theorem sgsE_ok {g : Gv} {l : Sgs} (h : gvE g = 0) (h2 : ¬ l.1 > 30) (h3 : ∀ j,j < l.1 → SgOk g (l.2 j)) : sgsE g l = 0 := by unfold sgsE; rw [if_pos h,if_neg h2,@if_pos _ (Classical.propDecidable _) h3]
theorem sgsE_no {g : Gv} {l : Sgs} (h : gvE g = 0) (h2 : ¬ l.1 > 30) (h3 : ¬ ∀ j,j < l.1 → SgOk g (l.2 j)) : sgsE g l = 91 := by unfold sgsE; rw [if_pos h,if_neg h2,@if_neg _ (Classical.propDecidable _) h3]
theorem sgsE_0 {g : Gv} {l : Sgs} (h : sgsE g l = 0) : GvOk g ∧ SgsOk g l := by
  by_cases h0 : gvE g = 0
  · by_cases h2 : l.1 > 30
    · rw [sgsE_many h0 h2] at h; cases h
    · by_cases h3 : ∀ j,j < l.1 → SgOk g (l.2 j)
      · exact ⟨gvE_0 h0,by omega,h3⟩
      · rw [sgsE_no h0 h2 h3] at h; cases h
  · rw [sgsE_g h0] at h; exact absurd h h0
noncomputable def sSigns : Spec := spec2 TGv (TSl RSg) (fun _ _ => True) fun g l => .int .i64 (sgsE g l)
set_option maxRecDepth 100000 in
theorem pSigns : PureOk Try.prog G 38 sSigns := by
  refine fn2 (S := [(27,sCheck9),(62,sSign)]) (I := []) mixed (.cons pCheck9 (.cons pSign .nil)) .nil Try.func38 c38 fun g l _ hw => ?_
  simp only [vl,WfT,Val.toInt,Val.slen,Val.scell,Nat.reduceSub,and_true,true_and,and_assoc,maxLen,Nat.reducePow,TSl,RInt,RPm,Pm.d,RPl,Pl.d,Gv.L,TGv,RSg,Sg.d] at hw
  by_cases h0 : gvE g = 0
  · simp only [RunTo,a38,sCheck9,h0,hw,↓imp_ft,↓imp_ff,runO_3,runO_4,runO_5,runO_6,runO_14,runO_15,runO_17,runO_18,runO_19,aop,binV,ends,ev,fget,fput,params,cellsOf,cellsN,isLB,vget,vlen,bget,addB,addN,mkv,sliceV,vtab,frz,opOwns,preFz,callFz,skipOp,WfT,resV,res1,norm,norms,norm1,normL,pureB,pureL,snapV,snapOk,specV,argsL,capsL,mkE_S,mkE_I,lkp,lenV,Fin,vp_int,Val.toInt,Val.slen,Val.scell,↓reduceIte,reduceCtorEq,Nat.reduceEqDiff,Nat.reduceAdd,Nat.reduceSub,Nat.zero_add,List.length_cons,List.length_nil,List.append_nil,Bool.and_self,bne_self_eq_false,and_true,true_and,and_self,and_assoc,forall_const,imp_self,implies_true,Nat.le_refl,decide_eq_true_eq,decide_eq_false_iff_not,Val.int.injEq,maxLen,Nat.reducePow,spec1,TSl,RInt,Prod.eta,Pm.c0,Pm.c1,Pm.c2,Pm.c3,Pm.c4,RPm,Pm.w_c,Pm.d,Pm.eta,Pl.c0,Pl.c1,RPl,Pl.w_c,Pl.d,Pl.eta,Gv.L,Gv.Is,Gv.of,TGv,Gv.d,Gv.eta,RSg,Sg.d,toUI_val]
    refine ⟨fun h => (sgsE_many h0 (by omega)).symm,fun h => ?_⟩
    have h2 : ¬ l.1 > 30 := by omega
    refine loopI (ι := Nat) (fun j => j ≤ l.1 ∧ ∀ i,i < j → SgOk g (l.2 i)) (fun j => l.1 - j) [1,2] (fun j => [(6,.int .i64 j)]) (fun _ => []) 0 ⟨by omega,fun i h => by omega⟩ (by simp only [Chk,chkFr,chkBx,chkBx1,hasB,idsLt,kept,vs_int,vs_nil,vs_ptr,vs_cons,vs_view,fget,isLB,bget,vsubP_self,↓reduceIte,reduceCtorEq,Nat.reduceEqDiff,Nat.reduceLT,Int.cast_ofNat_Int,and_self,forall_const,implies_true,Option.some.injEq,exists_eq',keepF,appF,updB]; try rfl) fun j hj => ?_
    obtain ⟨hj1,hj2⟩ := hj
    by_cases hjl : j < l.1
    · have fj : ((j : Int) < (l.1 : Int)) = True := eq_true (by omega)
      by_cases hs : SgOk g (l.2 j)
      · have e1 := decP_t hs
        simp only [sSign,e1,fj,hw,↓imp_tt,↓imp_tf,↓imp_ft,↓imp_ff,runO_4,runO_5,runO_6,runO_8,runO_14,runO_16,runO_17,runO_18,runO_19,aop,binV,ev,fget,fput,cellsOf,isLB,vget,vlen,bget,addB,addN,mkv,sliceV,vtab,frz,opOwns,preFz,callFz,skipOp,WfT,casts,castOks,cast1,castOk,norm,norms,norm1,normL,pureB,pureL,specV,argsL,capsL,mkE_S,mkE_I,lkp,lenV,stkFr,stkNx,Val.toInt,Val.slen,Val.scell,↓reduceIte,reduceCtorEq,Nat.reduceEqDiff,Nat.reduceAdd,Nat.reduceSub,Nat.zero_add,decide_true,List.length_cons,List.length_nil,List.append_nil,Bool.and_self,Bool.not_true,and_true,true_and,and_self,and_assoc,forall_const,imp_self,implies_true,Nat.le_refl,maxLen,Nat.reducePow,keepF,appF,updB,inat,spec2,RInt,Prod.eta,Pm.c0,Pm.c1,Pm.c2,Pm.c3,Pm.c4,RPm,Pm.w_c,Pm.d,Pm.eta,Pl.c0,Pl.c1,RPl,Pl.w_c,Pl.d,Pl.eta,Gv.L,Gv.Is,Gv.of,TGv,Gv.d,Gv.eta,Sg.L,Sg.c0,Sg.c1,Sg.c2,Sg.c3,Sg.c4,Sg.c5,Sg.Is,Sg.of,TSg,Sg.d,Sg.eta,toUI_val]
        refine ⟨by omega,inv_intro (j + 1) ⟨by omega,fun i hi => ?_⟩ (by omega) ?_⟩
        · rcases Nat.lt_or_ge i j with h5 | h5
          · exact hj2 i h5
          · obtain rfl : i = j := by omega
            exact hs
        · simp only [Chk,chkFr,chkBx,chkBx1,hasB,idsLt,kept,vs_int,vs_nil,vs_ptr,vs_cons,vs_view,fget,isLB,bget,vsubP_self,↓reduceIte,Nat.reduceEqDiff,Nat.reduceLT,and_true,true_and,and_self,forall_const,implies_true,Option.some.injEq,Val.int.injEq,exists_eq']
          rw [wrS (by omega)]
      · have e1 := decP_f hs
        simp only [sSign,e1,fj,hw,↓imp_tt,↓imp_tf,runO_3,runO_4,runO_5,runO_6,runO_14,runO_17,runO_18,runO_19,aop,binV,ends,ev,fget,fput,cellsOf,isLB,vget,vlen,bget,addB,addN,mkv,sliceV,vtab,frz,opOwns,preFz,callFz,skipOp,WfT,resV,res1,casts,castOks,cast1,castOk,norm,norms,norm1,normL,pureB,pureL,snapV,snapOk,specV,argsL,capsL,mkE_S,mkE_I,lkp,lenV,stkFr,stkNx,Val.toInt,Val.slen,Val.scell,↓reduceIte,reduceCtorEq,Nat.reduceEqDiff,Nat.reduceAdd,Nat.reduceSub,Nat.zero_add,decide_true,List.length_cons,List.length_nil,List.append_nil,Bool.and_self,Bool.not_false,and_true,true_and,and_self,and_assoc,forall_const,imp_self,implies_true,Nat.le_refl,Val.int.injEq,maxLen,Nat.reducePow,keepF,appF,updB,inat,spec2,RInt,Prod.eta,Pm.c0,Pm.c1,Pm.c2,Pm.c3,Pm.c4,RPm,Pm.w_c,Pm.d,Pm.eta,Pl.c0,Pl.c1,RPl,Pl.w_c,Pl.d,Pl.eta,Gv.L,Gv.Is,Gv.of,TGv,Gv.d,Gv.eta,Sg.L,Sg.c0,Sg.c1,Sg.c2,Sg.c3,Sg.c4,Sg.c5,Sg.Is,Sg.of,TSg,Sg.d,Sg.eta,toUI_val]
        exact ⟨by omega,(sgsE_no h0 h2 fun k => hs (k j hjl)).symm⟩
    · have fj : ((j : Int) < (l.1 : Int)) = False := eq_false (by omega)
      simp only [sSign,fj,hw,↓imp_ft,↓imp_ff,runO_3,runO_5,runO_9,runO_14,runO_17,runO_18,runO_19,aop,binV,ends,ev,fget,fput,cellsOf,addB,addN,frz,opOwns,preFz,skipOp,WfT,resV,res1,snapV,snapOk,lenV,popTo,stkFr,stkNx,Val.toInt,Val.slen,Val.scell,↓reduceIte,reduceCtorEq,Nat.reduceEqDiff,Nat.reduceSub,decide_false,and_true,true_and,and_self,and_assoc,forall_const,imp_self,implies_true,Val.int.injEq,maxLen,Nat.reducePow,keepF,appF,updB,spec2,RInt,RPm,Pm.d,RPl,Pl.d,Gv.L,Gv.Is,Gv.of,TGv,Gv.d,Sg.L,Sg.Is,Sg.of,TSg,Sg.d]
      exact (sgsE_ok h0 h2 fun i hi => hj2 i (by omega)).symm
  · have e := sgsE_g (l := l) h0
    simp only [RunTo,a38,sCheck9,h0,e,hw,runO_3,runO_4,runO_5,runO_6,runO_14,runO_15,runO_17,runO_18,runO_19,aop,binV,ends,ev,fget,fput,params,cellsOf,cellsN,isLB,vget,vlen,bget,addB,addN,mkv,sliceV,vtab,frz,opOwns,preFz,callFz,skipOp,WfT,resV,res1,norm,norms,norm1,normL,pureB,pureL,snapV,snapOk,specV,argsL,capsL,mkE_S,mkE_I,lkp,lenV,Fin,vp_int,Val.toInt,Val.slen,Val.scell,↓reduceIte,reduceCtorEq,Nat.reduceEqDiff,Nat.reduceAdd,Nat.reduceSub,Nat.zero_add,bne_iff_ne,bne_eq_false_iff_eq,List.length_cons,List.length_nil,List.append_nil,Bool.and_self,and_true,true_and,and_self,and_assoc,forall_const,imp_self,implies_true,Nat.le_refl,decide_eq_true_eq,decide_eq_false_iff_not,Val.int.injEq,ne_eq,not_false_eq_true,false_implies,not_false_eq_true,maxLen,Nat.reducePow,spec1,TSl,RInt,Prod.eta,Pm.c0,Pm.c1,Pm.c2,Pm.c3,Pm.c4,RPm,Pm.w_c,Pm.d,Pm.eta,Pl.c0,Pl.c1,RPl,Pl.w_c,Pl.d,Pl.eta,Gv.L,Gv.Is,Gv.of,TGv,Gv.d,Gv.eta,RSg,Sg.d,toUI_val]
def fromP (g : Gv) (i : Nat) (day : Int) (k : Nat) (since : Int) : Prop := i ≠ k ∧ since < 100001 ∧
  ((since + g.hatch ≤ day ∧ nearP (g.places.2 i) (g.places.2 k) g.reach) ∨ ((g.palms.2 i).mother = (g.palms.2 k).id ∧ (g.palms.2 i).planted = day ∧ (g.palms.2 i).planted > g.start ∧ since ≤ day))
noncomputable def sFrom : Spec := spec5 TGv TI TI TI TI (fun g i day k since => GvOk g ∧ (0 ≤ i ∧ i < g.palms.1) ∧ (0 ≤ k ∧ k < g.palms.1) ∧ 0 ≤ since) fun g i day k since => .bool (decP (fromP g i.toNat day k.toNat since))
set_option maxRecDepth 100000 in
theorem pFrom : PureOk Try.prog G 37 sFrom := by
  refine fn5 (S := [(39,sNear)]) (I := []) mixed (.cons pNear .nil) .nil Try.func37 c37 fun g i day k since hp hw => ?_
  obtain ⟨hg,hi,hk,hs⟩ := hp
  simp only [vl,WfT,Val.toInt,Nat.reduceSub,and_true,true_and,and_self,maxLen,Nat.reducePow,TInt,RInt,RPm,Pm.d,RPl,Pl.d,Gv.L,TGv] at hw
  obtain ⟨i,rfl⟩ := Int.eq_ofNat_of_zero_le hi.1
  obtain ⟨k,rfl⟩ := Int.eq_ofNat_of_zero_le hk.1
  have hn := hg.n
  have hha := hg.hatch
  have hre := hg.reach
  have p1 : PlOk (g.places.2 i) := hg.pl i (by omega)
  have p2 : PlOk (g.places.2 k) := hg.pl k (by omega)
  by_cases h0 : i = k ∨ since ≥ 100001
  · have e : decP (fromP g i day k since) = false := decP_f fun h => by have := h.1; have := h.2.1; omega
    rcases h0 with h0 | h0
    · simp only [RunTo,a37,h0,↓imp_tt,↓imp_tf,runO_3,runO_5,runO_14,runO_17,runO_18,runO_19,aop,binV,ends,Nat.zero_sub,ev,fget,fput,params,cellsOf,cellsN,isLB,vlen,addB,addN,frz,opOwns,preFz,skipOp,WfT,resV,res1,snapV,snapOk,pickV,Fin,vp_bool,Val.toInt,↓reduceIte,reduceCtorEq,Nat.reduceEqDiff,Nat.reduceAdd,Nat.zero_add,Bool.bne_false,beq_self_eq_true,and_true,true_and,and_self,forall_const,Val.bool.injEq,inat,TInt,RInt,RPm,Pm.d,RPl,Pl.d,Gv.L,TGv]
      subst h0
      first | exact e.symm | simp [e]
    · simp only [RunTo,a37,h0,↓imp_tt,↓imp_tf,runO_3,runO_5,runO_14,runO_17,runO_18,runO_19,aop,binV,ends,Nat.zero_sub,ev,fget,fput,params,cellsOf,cellsN,isLB,vlen,addB,addN,frz,opOwns,preFz,skipOp,WfT,resV,res1,snapV,snapOk,pickV,Fin,vp_bool,Val.toInt,↓reduceIte,reduceCtorEq,Nat.reduceEqDiff,Nat.reduceAdd,Nat.zero_add,decide_true,beq_iff_eq,beq_eq_false_iff_ne,Bool.bne_false,bne_self_eq_false,and_true,true_and,and_self,forall_const,Val.bool.injEq,ne_eq,inat,TInt,RInt,RPm,Pm.d,RPl,Pl.d,Gv.L,TGv]
      first | exact e.symm | simp [e]
  · have f1 : ((i : Int) = (k : Int)) = False := eq_false (by omega)
    have f2 : (since ≥ 100001) = False := eq_false (by omega)
    have e1 : IntKind.i64.wrap (since + g.hatch) = since + g.hatch := wr64 (by omega) (by omega)
    have hF : fromP g i day k since ↔ ((since + g.hatch ≤ day ∧ nearP (g.places.2 i) (g.places.2 k) g.reach) ∨ ((g.palms.2 i).mother = (g.palms.2 k).id ∧ (g.palms.2 i).planted = day ∧ (g.palms.2 i).planted > g.start ∧ since ≤ day)) := by
      unfold fromP; exact ⟨fun h => h.2.2,fun h => ⟨by omega,by omega,h⟩⟩
    by_cases hN : nearP (g.places.2 i) (g.places.2 k) g.reach
    · have e2 := decP_t hN
      simp only [RunTo,a37,sNear,f1,f2,e1,e2,p1,p2,hw,↓imp_tt,↓imp_tf,↓imp_ft,↓imp_ff,runO_3,runO_4,runO_5,runO_14,runO_17,runO_18,runO_19,aop,binV,ends,reOk,Nat.zero_sub,ev,fget,fput,params,cellsOf,cellsN,isLB,vget,vset,vsets,vlen,bget,bset,addB,addN,mkv,sliceV,vtab,frz,opOwns,preFz,callFz,skipOp,WfT,resV,res1,casts,castOks,cast1,castOk,norm,norms,norm1,normL,pureB,pureL,onesB,snapV,snapOk,specV,argsL,capsL,mkE_S,mkE_I,lkp,pickV,Fin,vp_bool,Val.toInt,↓reduceIte,reduceCtorEq,Nat.reduceEqDiff,Nat.reduceAdd,Nat.reduceSub,Nat.reduceLeDiff,Nat.zero_add,Nat.add_zero,Nat.sub_zero,decide_false,beq_iff_eq,beq_eq_false_iff_ne,List.length_cons,List.length_nil,List.append_nil,Bool.and_self,Bool.bne_true,Bool.bne_false,bne_self_eq_false,Bool.not_false,and_true,true_and,and_self,and_assoc,forall_const,imp_self,implies_true,Nat.le_refl,decide_eq_true_eq,decide_eq_false_iff_not,Val.bool.injEq,ne_eq,not_false_eq_true,false_implies,not_false_eq_true,maxLen,Nat.reducePow,inat,spec3,TInt,IsInt,RInt,Pm.c0,Pm.c1,Pm.c2,Pm.c3,Pm.c4,RPm,Pm.d,Pl.L,Pl.c0,Pl.c1,Pl.Is,Pl.of,TPl,RPl,Pl.d,Pl.eta,Gv.L,TGv]
      repeat' (first | omega | (with_reducible apply And.intro) | intro _)
      all_goals first
        | (refine (decP_t ?_).symm; rw [hF]; first | (left; exact ⟨by omega,hN⟩) | (right; omega))
        | (refine (decP_f fun h => ?_).symm; rw [hF] at h; omega)
        | (rw [Bool.eq_iff_iff,decide_eq_true_iff,decP_true,hF]; simp only [hN,and_true]; omega)
    · have e2 := decP_f hN
      simp only [RunTo,a37,sNear,f1,f2,e1,e2,p1,p2,hw,↓imp_tt,↓imp_tf,↓imp_ft,↓imp_ff,runO_3,runO_4,runO_5,runO_14,runO_17,runO_18,runO_19,aop,binV,ends,reOk,Nat.zero_sub,ev,fget,fput,params,cellsOf,cellsN,isLB,vget,vset,vsets,vlen,bget,bset,addB,addN,mkv,sliceV,vtab,frz,opOwns,preFz,callFz,skipOp,WfT,resV,res1,casts,castOks,cast1,castOk,norm,norms,norm1,normL,pureB,pureL,onesB,snapV,snapOk,specV,argsL,capsL,mkE_S,mkE_I,lkp,pickV,Fin,vp_bool,Val.toInt,↓reduceIte,reduceCtorEq,Nat.reduceEqDiff,Nat.reduceAdd,Nat.reduceSub,Nat.reduceLeDiff,Nat.zero_add,Nat.add_zero,Nat.sub_zero,decide_false,beq_iff_eq,beq_eq_false_iff_ne,List.length_cons,List.length_nil,List.append_nil,Bool.and_self,Bool.bne_true,Bool.bne_false,bne_self_eq_false,Bool.not_false,and_true,true_and,and_self,and_assoc,forall_const,imp_self,implies_true,Nat.le_refl,decide_eq_true_eq,decide_eq_false_iff_not,Val.bool.injEq,ne_eq,not_false_eq_true,false_implies,not_false_eq_true,maxLen,Nat.reducePow,inat,spec3,TInt,IsInt,RInt,Pm.c0,Pm.c1,Pm.c2,Pm.c3,Pm.c4,RPm,Pm.d,Pl.L,Pl.c0,Pl.c1,Pl.Is,Pl.of,TPl,RPl,Pl.d,Pl.eta,Gv.L,TGv]
      repeat' (first | omega | (with_reducible apply And.intro) | intro _)
      all_goals first
        | (refine (decP_t ?_).symm; rw [hF]; right; omega)
        | (refine (decP_f fun h => ?_).symm; rw [hF] at h; simp only [hN,and_false,false_or] at h; omega)
        | (rw [Bool.eq_iff_iff,decide_eq_true_iff,decP_true,hF]; simp only [hN,and_false,false_or]; omega)
def fitP (g : Gv) (s : Sg) (d : Nat → Int) : Prop :=
  if s.kind = 1 then d (hitN g.palms s.palm) > s.day - g.shows else if s.kind = 2 then d (hitN g.palms s.palm) ≤ s.day
  else ∃ i,i < g.palms.1 ∧ d i ≤ s.day - g.hatch ∧ nearP (g.places.2 i) s.trap s.near
noncomputable def sFits : Spec := spec3 TGv TSg (TSl (RInt .i64)) (fun g s d => GvOk g ∧ SgOk g s ∧ d.1 = g.palms.1) fun g s d => .bool (decP (fitP g s d.2))
set_option maxRecDepth 100000 in
theorem pFits : PureOk Try.prog G 32 sFits := by
  refine fn3 (S := [(36,sAt),(39,sNear)]) (I := []) mixed (.cons pAt (.cons pNear .nil)) .nil Try.func32 c32 fun g s d hp hw => ?_
  obtain ⟨hg,hs,hd⟩ := hp
  simp only [vl,WfT,Val.toInt,Val.slen,Val.scell,Nat.reduceSub,and_true,true_and,and_self,and_assoc,maxLen,Nat.reducePow,TSl,RInt,RPm,Pm.d,RPl,Pl.d,Gv.L,TGv,Sg.L,TSg] at hw
  obtain ⟨w1,w2⟩ := hw
  have hn := hg.n
  have hsh := hg.shows
  have hst := hg.start
  have hha := hg.hatch
  have hday := hs.1
  have e1 : IntKind.i64.wrap (s.day - g.shows) = s.day - g.shows := wr64 (by omega) (by omega)
  have e2 : IntKind.i64.wrap (s.day - g.hatch) = s.day - g.hatch := wr64 (by omega) (by omega)
  rcases hs.2 with ⟨h1,h2,_⟩ | ⟨h1,h2,h3,h4⟩
  · have ea := atF_pos h2
    rcases h1 with h1 | h1
    · have hF : fitP g s d.2 ↔ d.2 (hitN g.palms s.palm) > s.day - g.shows := by unfold fitP; rw [if_pos h1]
      simp only [RunTo,a32,sAt,ea,h1,e1,w1,↓imp_tt,↓imp_tf,runO_3,runO_5,runO_6,runO_14,runO_17,runO_18,runO_19,aop,binV,ends,ev,fget,fput,params,cellsOf,cellsN,isLB,vget,vlen,bget,addB,addN,mkv,sliceV,vtab,frz,opOwns,preFz,callFz,skipOp,WfT,resV,res1,casts,castOks,cast1,castOk,norm,norm1,normL,pureB,pureL,snapV,snapOk,specV,argsL,capsL,mkE_S,mkE_I,lkp,Fin,vp_bool,Val.toInt,Val.slen,Val.scell,↓reduceIte,reduceCtorEq,Nat.reduceEqDiff,Nat.reduceAdd,Nat.reduceSub,Nat.reduceLeDiff,Nat.zero_add,Nat.add_zero,List.length_cons,List.length_nil,List.append_nil,Bool.and_self,beq_self_eq_true,and_true,true_and,and_self,and_assoc,forall_const,implies_true,Nat.le_refl,Val.bool.injEq,maxLen,Nat.reducePow,inat,spec2,TSl,IsSl,TInt,IsInt,RInt,Prod.eta,Pm.c0,Pm.c1,Pm.c2,Pm.c3,Pm.c4,RPm,Pm.w_c,Pm.d,Pm.eta,RPl,Pl.d,Gv.L,TGv,Sg.L,TSg,toUI_val]
      rw [Bool.eq_iff_iff,decide_eq_true_iff,decP_true,hF]
      exact ⟨by omega,by omega,Iff.rfl⟩
    · have hF : fitP g s d.2 ↔ d.2 (hitN g.palms s.palm) ≤ s.day := by unfold fitP; rw [if_neg (by omega),if_pos h1]
      simp only [RunTo,a32,sAt,ea,h1,w1,↓imp_tt,↓imp_tf,↓imp_ft,↓imp_ff,runO_3,runO_5,runO_6,runO_14,runO_17,runO_18,runO_19,aop,binV,ends,ev,fget,fput,params,cellsOf,cellsN,isLB,vget,vlen,bget,addB,addN,mkv,sliceV,vtab,frz,opOwns,preFz,callFz,skipOp,WfT,resV,res1,casts,castOks,cast1,castOk,norm,norm1,normL,pureB,pureL,snapV,snapOk,specV,argsL,capsL,mkE_S,mkE_I,lkp,Fin,vp_bool,Val.toInt,Val.slen,Val.scell,↓reduceIte,reduceCtorEq,Nat.reduceEqDiff,Nat.reduceAdd,Nat.reduceSub,Nat.reduceLeDiff,Nat.zero_add,Nat.add_zero,Int.reduceBEq,List.length_cons,List.length_nil,List.append_nil,Bool.and_self,beq_self_eq_true,and_true,true_and,and_self,and_assoc,forall_const,implies_true,Nat.le_refl,Val.bool.injEq,maxLen,Nat.reducePow,inat,spec2,TSl,IsSl,TInt,IsInt,RInt,Prod.eta,Pm.c0,Pm.c1,Pm.c2,Pm.c3,Pm.c4,RPm,Pm.w_c,Pm.d,Pm.eta,RPl,Pl.d,Gv.L,TGv,Sg.L,TSg,toUI_val]
      rw [Bool.eq_iff_iff,decide_eq_true_iff,decP_true,hF]
      exact ⟨by omega,by omega,Iff.rfl⟩
  · have hF : fitP g s d.2 ↔ ∃ i,i < g.palms.1 ∧ d.2 i ≤ s.day - g.hatch ∧ nearP (g.places.2 i) s.trap s.near := by unfold fitP; rw [if_neg (by omega),if_neg (by omega)]
    simp only [RunTo,a32,sAt,h1,w1,↓imp_ft,↓imp_ff,runO_4,runO_5,runO_6,runO_8,runO_14,runO_15,runO_17,runO_18,runO_19,aop,binV,ev,fget,fput,params,cellsOf,cellsN,isLB,vget,vlen,bget,addB,addN,mkv,sliceV,vtab,frz,opOwns,preFz,callFz,skipOp,WfT,norm,norm1,normL,pureB,pureL,specV,argsL,capsL,mkE_S,mkE_I,lkp,Fin,vp_bool,Val.toInt,Val.slen,Val.scell,↓reduceIte,reduceCtorEq,Nat.reduceEqDiff,Nat.reduceAdd,Nat.reduceSub,Nat.reduceLeDiff,Nat.zero_add,Nat.add_zero,Int.reduceBEq,List.length_cons,List.length_nil,List.append_nil,Bool.and_self,and_true,true_and,and_self,forall_const,implies_true,maxLen,Nat.reducePow,spec2,TSl,IsSl,TInt,IsInt,RInt,Prod.eta,Pm.c0,Pm.c1,Pm.c2,Pm.c3,Pm.c4,RPm,Pm.w_c,Pm.d,Pm.eta,RPl,Pl.d,Gv.L,TGv,Sg.L,TSg,toUI_val]
    refine loopI (ι := Nat) (fun j => j ≤ d.1 ∧ ∀ i,i < j → ¬ (d.2 i ≤ s.day - g.hatch ∧ nearP (g.places.2 i) s.trap s.near)) (fun j => d.1 - j) [2,3,4] (fun j => [(8,.int .i64 j)]) (fun _ => []) 0 ⟨by omega,fun i h => by omega⟩ (by simp only [Chk,chkFr,chkBx,chkBx1,hasB,idsLt,kept,vs_int,vs_nil,vs_ptr,vs_cons,vs_view,fget,isLB,bget,vsubP_self,↓reduceIte,reduceCtorEq,Nat.reduceEqDiff,Nat.reduceLT,Int.cast_ofNat_Int,and_self,forall_const,implies_true,Option.some.injEq,exists_eq',keepF,appF,updB]; try rfl) fun j hj => ?_
    obtain ⟨hj1,hj2⟩ := hj
    by_cases hjl : j < d.1
    · have fj : ((j : Int) < (d.1 : Int)) = True := eq_true (by omega)
      have p1 : PlOk (g.places.2 j) := hg.pl j (by omega)
      have nx : ¬ (d.2 j ≤ s.day - g.hatch ∧ nearP (g.places.2 j) s.trap s.near) → ∀ i,i < j + 1 → ¬ (d.2 i ≤ s.day - g.hatch ∧ nearP (g.places.2 i) s.trap s.near) := fun h i hi => by
        rcases Nat.lt_or_ge i j with h5 | h5
        · exact hj2 i h5
        · obtain rfl : i = j := by omega
          exact h
      by_cases hN : nearP (g.places.2 j) s.trap s.near
      · have e3 := decP_t hN
        simp only [sNear,fj,e2,e3,p1,h2,w2,↓imp_tt,↓imp_tf,↓imp_ft,↓imp_ff,runO_3,runO_4,runO_5,runO_6,runO_8,runO_14,runO_16,runO_17,runO_18,runO_19,aop,binV,ends,Nat.zero_sub,ev,fget,fput,cellsOf,isLB,vget,vlen,bget,addB,addN,mkv,sliceV,vtab,frz,opOwns,preFz,callFz,skipOp,WfT,resV,res1,casts,castOks,cast1,castOk,norm,norms,norm1,normL,pureB,pureL,snapV,snapOk,specV,argsL,capsL,mkE_S,mkE_I,lkp,pickV,lenV,stkFr,stkNx,Val.toInt,↓reduceIte,reduceCtorEq,Nat.reduceEqDiff,Nat.reduceAdd,Nat.reduceSub,Nat.reduceLeDiff,Nat.zero_add,decide_true,List.length_cons,List.length_nil,List.append_nil,Bool.and_self,Bool.bne_true,bne_self_eq_false,Bool.not_false,and_true,true_and,and_self,and_assoc,forall_const,imp_self,implies_true,Nat.le_refl,decide_eq_true_eq,decide_eq_false_iff_not,Val.bool.injEq,maxLen,Nat.reducePow,keepF,appF,updB,inat,spec3,TInt,IsInt,Pl.L,Pl.c0,Pl.c1,Pl.Is,Pl.of,TPl,Pl.d,Pl.eta]
        repeat' (first | omega | (with_reducible apply And.intro) | intro _)
        all_goals first
          | (refine (decP_t ?_).symm; rw [hF]; exact ⟨j,by omega,by omega,hN⟩)
          | (refine inv_intro (j + 1) ⟨by omega,nx (by omega)⟩ (by omega) ?_
             simp only [Chk,chkFr,chkBx,chkBx1,hasB,idsLt,kept,vs_int,vs_nil,vs_ptr,vs_cons,vs_view,fget,isLB,bget,vsubP_self,↓reduceIte,reduceCtorEq,Nat.reduceEqDiff,Nat.reduceLT,and_true,true_and,and_self,forall_const,implies_true,Option.some.injEq,Val.int.injEq,exists_eq']
             rw [wrS (by omega)])
      · have e3 := decP_f hN
        simp only [sNear,fj,e2,e3,p1,h2,w2,↓imp_tt,↓imp_tf,↓imp_ft,↓imp_ff,runO_4,runO_5,runO_6,runO_8,runO_14,runO_16,runO_17,runO_18,runO_19,aop,binV,Nat.zero_sub,ev,fget,fput,cellsOf,isLB,vget,vlen,bget,addB,addN,mkv,sliceV,vtab,frz,opOwns,preFz,callFz,skipOp,WfT,casts,castOks,cast1,castOk,norm,norms,norm1,normL,pureB,pureL,specV,argsL,capsL,mkE_S,mkE_I,lkp,pickV,lenV,stkFr,stkNx,Val.toInt,↓reduceIte,reduceCtorEq,Nat.reduceEqDiff,Nat.reduceAdd,Nat.reduceSub,Nat.reduceLeDiff,Nat.zero_add,decide_true,List.length_cons,List.length_nil,List.append_nil,Bool.and_self,Bool.bne_true,bne_self_eq_false,Bool.not_false,and_true,true_and,and_self,and_assoc,forall_const,imp_self,implies_true,Nat.le_refl,decide_eq_true_eq,decide_eq_false_iff_not,maxLen,Nat.reducePow,keepF,appF,updB,inat,spec3,TInt,IsInt,Pl.L,Pl.c0,Pl.c1,Pl.Is,Pl.of,TPl,Pl.d,Pl.eta]
        repeat' (first | omega | (with_reducible apply And.intro) | intro _)
        all_goals
          refine inv_intro (j + 1) ⟨by omega,nx fun h => hN h.2⟩ (by omega) ?_
          simp only [Chk,chkFr,chkBx,chkBx1,hasB,idsLt,kept,vs_int,vs_nil,vs_ptr,vs_cons,vs_view,fget,isLB,bget,vsubP_self,↓reduceIte,reduceCtorEq,Nat.reduceEqDiff,Nat.reduceLT,and_true,true_and,and_self,forall_const,implies_true,Option.some.injEq,Val.int.injEq,exists_eq']
          rw [wrS (by omega)]
    · have fj : ((j : Int) < (d.1 : Int)) = False := eq_false (by omega)
      simp only [fj,w2,↓imp_ft,↓imp_ff,runO_3,runO_5,runO_9,runO_14,runO_17,runO_18,runO_19,aop,binV,ends,ev,fget,fput,addB,addN,frz,opOwns,preFz,skipOp,WfT,resV,res1,snapV,snapOk,lenV,popTo,stkFr,stkNx,↓reduceIte,reduceCtorEq,Nat.reduceEqDiff,Nat.reduceSub,decide_false,true_and,and_self,forall_const,Val.bool.injEq,maxLen,Nat.reducePow,keepF,appF,updB]
      refine (decP_f ?_).symm
      rw [hF]
      rintro ⟨i,h5,h6⟩
      exact hj2 i (by omega) h6
end Go.Proofs.Ytpknbojgkkmonaa
