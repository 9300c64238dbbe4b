/- Groves, the reference: which groves and signs are valid. No condition. -/
import Derived.Test.YtpknbojgkkmonaaWRef2
set_option linter.unusedSimpArgs false
set_option linter.unusedVariables false
namespace Go.Proofs.Ytpknbojgkkmonaa
open Go Go.RowKit
variable {G : Nat → Option (Nat × (Nat → Val))}
noncomputable def gvE (g : Gv) : Int := if pmE g.palms = 0 then (@ite _ (GvOk g) (Classical.propDecidable _) 0 90) else 70
theorem gvE_ok {g : Gv} (h : GvOk g) : gvE g = 0 := by unfold gvE; rw [if_pos (pmE_ok h.pms)]; exact @if_pos _ (Classical.propDecidable _) h _ _ _
theorem gvE_no {g : Gv} (h0 : PmsOk g.palms) (h : ¬ GvOk g) : gvE g = 90 := by unfold gvE; rw [if_pos (pmE_ok h0)]; exact @if_neg _ (Classical.propDecidable _) h _ _ _
theorem gvE_pm {g : Gv} (h0 : ¬ PmsOk g.palms) : gvE g = 70 := by unfold gvE; rw [if_neg (by rw [pmE_no h0]; decide)]
theorem gvE_0 {g : Gv} (h : gvE g = 0) : GvOk g := by
  by_cases h0 : PmsOk g.palms
  · by_cases h2 : GvOk g
    · exact h2
    · rw [gvE_no h0 h2] at h; cases h
  · rw [gvE_pm h0] at h; cases h
noncomputable def sCheck9 : Spec := spec1 TGv (fun _ => True) fun g => .int .i64 (gvE g)
set_option maxRecDepth 100000 in
theorem pCheck9 : PureOk Try.prog G 27 sCheck9 := by
  refine fn1 (S := [(56,sCheck7),(57,sIn),(58,sPlace),(36,sAt)]) (I := []) mixed (.cons pCheck7 (.cons pWithin9 (.cons pPlace (.cons pAt .nil)))) .nil Try.func27 c27 fun g _ hw => ?_
  simp only [vl,WfT,Val.toInt,Nat.reduceSub,and_true,true_and,maxLen,Nat.reducePow,RInt,RPm,Pm.d,RPl,Pl.d,Gv.L,TGv] at hw
  by_cases hp : ¬ PmsOk g.palms
  · have ep := pmE_no hp
    have eg := gvE_pm hp
    simp only [RunTo,a27,sCheck7,ep,eg,hw,↓imp_tt,↓imp_tf,runO_3,runO_5,runO_14,runO_17,runO_18,runO_19,aop,binV,ends,ev,fget,fput,params,cellsOf,cellsN,isLB,vget,vlen,bget,addB,addN,mkv,sliceV,vtab,frz,opOwns,preFz,callFz,skipOp,WfT,resV,res1,norm,norm1,normL,pureB,pureL,snapV,snapOk,specV,argsL,capsL,mkE_S,mkE_I,lkp,Fin,vp_int,Val.toInt,Val.slen,Val.scell,↓reduceIte,Nat.reduceEqDiff,Nat.reduceAdd,Nat.reduceSub,Nat.reduceLeDiff,Nat.zero_add,Nat.add_zero,Int.reduceBNe,List.length_cons,List.length_nil,List.append_nil,Bool.and_self,and_true,and_self,forall_const,implies_true,maxLen,Nat.reducePow,spec1,TSl,IsSl,RInt,Prod.eta,Pm.c0,Pm.c1,Pm.c2,Pm.c3,Pm.c4,RPm,Pm.w_c,Pm.d,Pm.eta,RPl,Pl.d,Gv.L,TGv,toUI_val]
  replace hp := Classical.not_not.1 hp
  have ep := pmE_ok hp
  have hno : ¬ GvOk g → (90 : Int) = gvE g := fun h => (gvE_no hp h).symm
  simp only [RunTo,a27,sCheck7,sIn,ep,hw,↓imp_tt,↓imp_tf,↓imp_ft,↓imp_ff,runO_3,runO_4,runO_5,runO_6,runO_14,runO_15,runO_17,runO_18,runO_19,aop,binV,ends,Nat.zero_sub,ev,fget,fput,params,cellsOf,cellsN,isLB,vget,vlen,bget,addB,addN,mkv,sliceV,vtab,frz,opOwns,preFz,callFz,skipOp,WfT,resV,res1,norm,norm1,normL,pureB,pureL,snapV,snapOk,specV,argsL,capsL,mkE_S,mkE_I,lkp,pickV,lenV,Fin,vp_int,Val.toInt,Val.slen,Val.scell,↓reduceIte,Nat.reduceEqDiff,Nat.reduceAdd,Nat.reduceSub,Nat.reduceLeDiff,Nat.zero_add,Nat.add_zero,bne_iff_ne,bne_eq_false_iff_eq,List.length_cons,List.length_nil,List.append_nil,Bool.not_eq_true',Bool.not_eq_false',Bool.and_self,Bool.bne_false,bne_self_eq_false,and_true,true_and,and_self,forall_const,implies_true,decide_eq_true_eq,decide_eq_false_iff_not,Val.int.injEq,ne_eq,maxLen,Nat.reducePow,spec1,spec3,TSl,IsSl,TInt,IsInt,RInt,Prod.eta,Pm.c0,Pm.c1,Pm.c2,Pm.c3,Pm.c4,RPm,Pm.w_c,Pm.d,Pm.eta,RPl,Pl.d,Gv.L,TGv,toUI_val]
  repeat' (first | omega | (with_reducible apply And.intro) | intro _)
  all_goals first
    | (refine hno fun k => ?_
       have := k.n; have := k.reach; have := k.hatch; have := k.shows; have := k.start
       omega)
    | skip
  refine loopI (ι := Nat) (fun j => j ≤ g.places.1 ∧ ∀ i,i < j → PlOk (g.places.2 i)) (fun j => g.places.1 - j) [1] (fun j => [(4,.int .i64 j)]) (fun _ => []) 0 ⟨by omega,fun i h => by omega⟩ (by simp only [Chk,chkFr,chkBx,chkBx1,hasB,idsLt,kept,vs_int,vs_nil,vs_ptr,vs_cons,vs_view,fget,isLB,bget,vsubP_self,↓reduceIte,Nat.reduceEqDiff,Nat.reduceLT,Int.cast_ofNat_Int,and_self,forall_const,implies_true,Option.some.injEq,exists_eq',keepF,appF,updB]; try rfl) fun j hj => ?_
  obtain ⟨hj1,hj2⟩ := hj
  by_cases hjl : j < g.places.1
  · have fj : ((j : Int) < (g.places.1 : Int)) = True := eq_true (by omega)
    by_cases hpl : PlOk (g.places.2 j)
    · have e1 := decP_t hpl
      simp only [sPlace,e1,fj,hw,↓imp_tt,↓imp_tf,↓imp_ft,↓imp_ff,runO_4,runO_5,runO_6,runO_8,runO_14,runO_16,runO_17,runO_18,runO_19,aop,binV,ev,fget,fput,cellsOf,isLB,vget,vlen,bget,addB,addN,mkv,sliceV,vtab,frz,opOwns,preFz,callFz,skipOp,WfT,casts,castOks,cast1,castOk,norm,norms,norm1,normL,pureB,pureL,specV,argsL,capsL,mkE_S,mkE_I,lkp,lenV,stkFr,stkNx,Val.toInt,↓reduceIte,reduceCtorEq,Nat.reduceEqDiff,Nat.reduceAdd,Nat.reduceSub,Nat.reduceLeDiff,Nat.zero_add,decide_true,List.length_cons,List.length_nil,List.append_nil,Bool.and_self,Bool.not_true,and_true,true_and,and_self,forall_const,imp_self,implies_true,Nat.le_refl,maxLen,Nat.reducePow,keepF,appF,updB,inat,spec1,Pl.L,Pl.c0,Pl.c1,Pl.Is,Pl.of,TPl,Pl.d,Pl.eta]
      refine ⟨by omega,inv_intro (j + 1) ⟨by omega,fun i hi => ?_⟩ (by omega) ?_⟩
      · rcases Nat.lt_or_ge i j with h5 | h5
        · exact hj2 i h5
        · obtain rfl : i = j := by omega
          exact hpl
      · simp only [Chk,chkFr,chkBx,chkBx1,hasB,idsLt,kept,vs_int,vs_nil,vs_ptr,vs_cons,vs_view,fget,isLB,bget,vsubP_self,↓reduceIte,Nat.reduceEqDiff,Nat.reduceLT,and_true,true_and,and_self,forall_const,implies_true,Option.some.injEq,Val.int.injEq,exists_eq']
        rw [wrS (by omega)]
    · have e1 := decP_f hpl
      simp only [sPlace,e1,fj,hw,↓imp_tt,↓imp_tf,runO_3,runO_4,runO_5,runO_6,runO_14,runO_17,runO_18,runO_19,aop,binV,ends,ev,fget,fput,cellsOf,isLB,vget,vlen,bget,addB,addN,mkv,sliceV,vtab,frz,opOwns,preFz,callFz,skipOp,WfT,resV,res1,casts,castOks,cast1,castOk,norm,norms,norm1,normL,pureB,pureL,snapV,snapOk,specV,argsL,capsL,mkE_S,mkE_I,lkp,lenV,stkFr,stkNx,Val.toInt,↓reduceIte,reduceCtorEq,Nat.reduceEqDiff,Nat.reduceAdd,Nat.reduceSub,Nat.reduceLeDiff,Nat.zero_add,decide_true,List.length_cons,List.length_nil,List.append_nil,Bool.and_self,Bool.not_false,and_true,true_and,and_self,forall_const,imp_self,implies_true,Nat.le_refl,Val.int.injEq,maxLen,Nat.reducePow,keepF,appF,updB,inat,spec1,Pl.L,Pl.c0,Pl.c1,Pl.Is,Pl.of,TPl,Pl.d,Pl.eta]
      exact ⟨by omega,hno fun k => hpl (k.pl j hjl)⟩
  · have fj : ((j : Int) < (g.places.1 : Int)) = False := eq_false (by omega)
    simp only [sPlace,fj,hw,↓imp_ft,↓imp_ff,runO_5,runO_6,runO_9,runO_14,runO_15,runO_17,runO_18,runO_19,aop,binV,ev,fget,fput,cellsOf,vget,vlen,bget,addB,addN,mkv,sliceV,vtab,frz,opOwns,preFz,skipOp,WfT,lenV,popTo,stkFr,stkNx,Val.toInt,↓reduceIte,reduceCtorEq,Nat.reduceEqDiff,Nat.reduceAdd,Nat.reduceSub,Nat.reduceLeDiff,Nat.zero_add,decide_false,List.length_cons,List.length_nil,and_true,true_and,and_self,forall_const,imp_self,implies_true,maxLen,Nat.reducePow,keepF,appF,updB,spec1,Pl.L,Pl.Is,Pl.of,TPl,Pl.d]
    refine loopI (ι := Nat) (fun z => z ≤ g.sus.1 ∧ ∀ i,i < z → hitN g.palms (g.sus.2 i) < g.palms.1 ∧ (g.palms.2 (hitN g.palms (g.sus.2 i))).planted ≤ g.start ∧ (0 < i → g.sus.2 (i - 1) < g.sus.2 i)) (fun z => g.sus.1 - z) [1] (fun z => [(5,.int .i64 z)]) (fun _ => []) 0 ⟨by omega,fun i h => by omega⟩ (by simp only [Chk,chkFr,chkBx,chkBx1,hasB,idsLt,kept,vs_int,vs_nil,vs_ptr,vs_cons,vs_view,fget,isLB,bget,vsubP_self,↓reduceIte,Nat.reduceEqDiff,Nat.reduceLT,Int.cast_ofNat_Int,and_self,forall_const,implies_true,Option.some.injEq,exists_eq',keepF,appF,updB]; try rfl) fun z hz => ?_
    obtain ⟨hz1,hz2⟩ := hz
    have e1 : IntKind.i64.wrap ((z : Int) - 1) = (z : Int) - 1 := wr64 (by omega) (by omega)
    have e2 : ((z : Int) - 1).toNat = z - 1 := by omega
    by_cases hm : hitN g.palms (g.sus.2 z) < g.palms.1
    · have ea := atF_pos hm
      simp only [sAt,e1,e2,ea,hw,↓imp_tt,↓imp_tf,↓imp_ft,↓imp_ff,runO_3,runO_4,runO_5,runO_6,runO_8,runO_9,runO_14,runO_16,runO_17,runO_18,runO_19,aop,binV,ends,Nat.zero_sub,ev,fget,fput,isLB,vget,vlen,bget,addB,addN,mkv,sliceV,vtab,frz,opOwns,preFz,callFz,skipOp,WfT,resV,res1,casts,castOks,cast1,castOk,norm,norm1,normL,pureB,pureL,snapV,snapOk,specV,argsL,capsL,mkE_S,mkE_I,lkp,pickV,lenV,popTo,stkFr,stkNx,Val.toInt,Val.slen,Val.scell,↓reduceIte,reduceCtorEq,Nat.reduceEqDiff,Nat.reduceAdd,Nat.reduceSub,Nat.reduceLeDiff,Nat.zero_add,Nat.add_zero,List.length_cons,List.length_nil,List.append_nil,Bool.and_self,Bool.bne_true,Bool.bne_false,bne_self_eq_false,Bool.not_false,and_true,true_and,and_self,and_assoc,forall_const,imp_self,implies_true,Nat.le_refl,decide_eq_true_eq,decide_eq_false_iff_not,Val.int.injEq,maxLen,Nat.reducePow,keepF,appF,updB,inat,spec2,TSl,IsSl,TInt,IsInt,Prod.eta,Pm.c0,Pm.c1,Pm.c2,Pm.c3,Pm.c4,RPm,Pm.w_c,Pm.d,Pm.eta,toUI_val]
      repeat' (first | omega | (with_reducible apply And.intro) | intro _)
      all_goals first
        | (refine hno fun k => ?_
           obtain ⟨k1,k2,k3⟩ := k.sus z (by omega)
           try have k3 := k3 (by omega)
           omega)
        | (refine inv_intro (z + 1) ⟨by omega,fun i hi => ?_⟩ (by omega) ?_
           · rcases Nat.lt_or_ge i z with h5 | h5
             · exact hz2 i h5
             · obtain rfl : i = z := by omega
               exact ⟨hm,by omega,fun _ => by omega⟩
           · simp only [Chk,chkFr,chkBx,chkBx1,hasB,idsLt,kept,vs_int,vs_nil,vs_ptr,vs_cons,vs_view,fget,isLB,bget,vsubP_self,↓reduceIte,Nat.reduceEqDiff,Nat.reduceLT,and_true,true_and,and_self,forall_const,implies_true,Option.some.injEq,Val.int.injEq,exists_eq']
             rw [wrS (by omega)])
        | exact (gvE_ok ⟨hp,by omega,by omega,by omega,by omega,by omega,fun i hi => hj2 i (by omega),fun i hi => hz2 i (by omega)⟩).symm
    · have ea : (atF g.palms (g.sus.2 z) < 0) = True := eq_true (atF_neg.2 hm)
      simp only [sAt,ea,hw,↓imp_tt,↓imp_tf,runO_3,runO_4,runO_5,runO_6,runO_9,runO_14,runO_17,runO_18,runO_19,aop,binV,ends,Nat.zero_sub,ev,fget,fput,isLB,vget,vlen,bget,addB,addN,mkv,sliceV,vtab,frz,opOwns,preFz,callFz,skipOp,WfT,resV,res1,casts,castOks,cast1,castOk,norm,norm1,normL,pureB,pureL,snapV,snapOk,specV,argsL,capsL,mkE_S,mkE_I,lkp,pickV,lenV,popTo,stkFr,stkNx,Val.toInt,Val.slen,Val.scell,↓reduceIte,reduceCtorEq,Nat.reduceEqDiff,Nat.reduceAdd,Nat.reduceSub,Nat.reduceLeDiff,Nat.zero_add,Nat.add_zero,decide_true,List.length_cons,List.length_nil,List.append_nil,Bool.and_self,Bool.bne_false,and_true,true_and,and_self,and_assoc,forall_const,imp_self,implies_true,Nat.le_refl,decide_eq_true_eq,decide_eq_false_iff_not,Val.int.injEq,maxLen,Nat.reducePow,keepF,appF,updB,inat,spec2,TSl,IsSl,TInt,IsInt,Prod.eta,Pm.c0,Pm.c1,Pm.c2,Pm.c3,Pm.c4,RPm,Pm.w_c,Pm.d,Pm.eta,toUI_val]
      repeat' (first | omega | (with_reducible apply And.intro) | intro _)
      all_goals first
        | (refine hno fun k => ?_
           obtain ⟨k1,k2,k3⟩ := k.sus z (by omega)
           exact hm k1)
        | exact (gvE_ok ⟨hp,by omega,by omega,by omega,by omega,by omega,fun i hi => hj2 i (by omega),fun i hi => hz2 i (by omega)⟩).symm
noncomputable def sSign : Spec := spec2 TGv TSg (fun _ _ => True) fun g s => .bool (decP (SgOk g s))
set_option maxRecDepth 100000 in
theorem pSign : PureOk Try.prog G 62 sSign := by
  refine fn2 (S := [(57,sIn),(58,sPlace),(36,sAt)]) (I := []) mixed (.cons pWithin9 (.cons pPlace (.cons pAt .nil))) .nil Try.func62 c62 fun g s _ hw => ?_
  simp only [vl,WfT,Val.toInt,Nat.reduceSub,and_true,true_and,and_self,maxLen,Nat.reducePow,RInt,RPm,Pm.d,RPl,Pl.d,Gv.L,TGv,Sg.L,TSg] at hw
  by_cases hm : hitN g.palms s.palm < g.palms.1
  · by_cases hpl : PlOk s.trap
    · have ea := atF_pos hm
      have e1 := decP_t hpl
      have hS : SgOk g s ↔ (g.start ≤ s.day ∧ s.day ≤ 100000) ∧ (((s.kind = 1 ∨ s.kind = 2) ∧ (g.palms.2 (hitN g.palms s.palm)).planted ≤ s.day) ∨ (s.kind = 3 ∧ 0 ≤ s.near ∧ s.near ≤ 10000)) := by unfold SgOk; simp only [hm,hpl,true_and]
      simp only [RunTo,a62,sIn,sPlace,sAt,ea,e1,hw,↓imp_tt,↓imp_tf,runO_3,runO_4,runO_5,runO_6,runO_8,runO_14,runO_17,runO_18,runO_19,aop,binV,ends,Nat.zero_sub,ev,fget,fput,params,cellsOf,cellsN,isLB,vget,vlen,bget,addB,addN,mkv,sliceV,vtab,frz,opOwns,preFz,callFz,skipOp,WfT,resV,res1,casts,castOks,cast1,castOk,norm,norms,norm1,normL,pureB,pureL,snapV,snapOk,specV,argsL,capsL,mkE_S,mkE_I,lkp,pickV,Fin,vp_bool,Val.toInt,Val.slen,Val.scell,↓reduceIte,reduceCtorEq,Nat.reduceEqDiff,Nat.reduceAdd,Nat.reduceSub,Nat.reduceLeDiff,Nat.zero_add,Nat.add_zero,beq_iff_eq,beq_eq_false_iff_ne,List.length_cons,List.length_nil,List.append_nil,Bool.not_eq_true',Bool.not_eq_false',Bool.and_self,Bool.bne_true,bne_self_eq_false,Bool.not_false,and_true,true_and,and_self,and_assoc,forall_const,imp_self,implies_true,Nat.le_refl,decide_eq_true_eq,decide_eq_false_iff_not,Val.bool.injEq,ne_eq,maxLen,Nat.reducePow,inat,spec1,spec2,spec3,TSl,IsSl,TInt,IsInt,RInt,Prod.eta,Pm.c0,Pm.c1,Pm.c2,Pm.c3,Pm.c4,RPm,Pm.w_c,Pm.d,Pm.eta,Pl.L,Pl.Is,Pl.of,TPl,RPl,Pl.d,Pl.eta,Gv.L,TGv,Sg.L,TSg,toUI_val]
      repeat' (first | omega | (with_reducible apply And.intro) | intro _)
      all_goals first
        | (refine (decP_f fun k => ?_).symm; rw [hS] at k; omega)
        | (refine (decP_f fun k => ?_).symm; exact (hS.1 k).2.elim)
        | (rw [Bool.eq_iff_iff,decide_eq_true_iff,decP_true,hS]; omega)
    · have ea := atF_pos hm
      have e1 := decP_f hpl
      have hS : SgOk g s ↔ (g.start ≤ s.day ∧ s.day ≤ 100000) ∧ ((s.kind = 1 ∨ s.kind = 2) ∧ (g.palms.2 (hitN g.palms s.palm)).planted ≤ s.day) := by unfold SgOk; simp only [hm,hpl,true_and,false_and,and_false,or_false]
      simp only [RunTo,a62,sIn,sPlace,sAt,ea,e1,hw,↓imp_ft,↓imp_ff,runO_3,runO_4,runO_5,runO_6,runO_8,runO_14,runO_17,runO_18,runO_19,aop,binV,ends,Nat.zero_sub,ev,fget,fput,params,cellsOf,cellsN,isLB,vget,vlen,bget,addB,addN,mkv,sliceV,vtab,frz,opOwns,preFz,callFz,skipOp,WfT,resV,res1,casts,castOks,cast1,castOk,norm,norms,norm1,normL,pureB,pureL,snapV,snapOk,specV,argsL,capsL,mkE_S,mkE_I,lkp,pickV,Fin,vp_bool,Val.toInt,Val.slen,Val.scell,↓reduceIte,reduceCtorEq,Nat.reduceEqDiff,Nat.reduceAdd,Nat.reduceSub,Nat.reduceLeDiff,Nat.zero_add,Nat.add_zero,beq_iff_eq,beq_eq_false_iff_ne,List.length_cons,List.length_nil,List.append_nil,Bool.not_eq_true',Bool.not_eq_false',Bool.and_self,Bool.bne_true,bne_self_eq_false,Bool.not_false,and_true,true_and,and_self,and_assoc,forall_const,imp_self,implies_true,decide_eq_true_eq,decide_eq_false_iff_not,Val.bool.injEq,ne_eq,maxLen,Nat.reducePow,inat,spec1,spec2,spec3,TSl,IsSl,TInt,IsInt,RInt,Prod.eta,Pm.c0,Pm.c1,Pm.c2,Pm.c3,Pm.c4,RPm,Pm.w_c,Pm.d,Pm.eta,Pl.L,Pl.Is,Pl.of,TPl,RPl,Pl.d,Pl.eta,Gv.L,TGv,Sg.L,TSg,toUI_val]
      repeat' (first | omega | (with_reducible apply And.intro) | intro _)
      all_goals first
        | (refine (decP_f fun k => ?_).symm; rw [hS] at k; omega)
        | (refine (decP_f fun k => ?_).symm; exact (hS.1 k).2.elim)
        | (rw [Bool.eq_iff_iff,decide_eq_true_iff,decP_true,hS]; omega)
  · by_cases hpl : PlOk s.trap
    · have ea : (atF g.palms s.palm ≥ 0) = False := eq_false fun h => by have := atF_neg.2 hm; omega
      have e1 := decP_t hpl
      have hS : SgOk g s ↔ (g.start ≤ s.day ∧ s.day ≤ 100000) ∧ (s.kind = 3 ∧ 0 ≤ s.near ∧ s.near ≤ 10000) := by unfold SgOk; simp only [hm,hpl,true_and,false_and,and_false,false_or]
      simp only [RunTo,a62,sIn,sPlace,sAt,ea,e1,hw,↓imp_tt,↓imp_tf,↓imp_ft,↓imp_ff,runO_3,runO_4,runO_5,runO_6,runO_8,runO_14,runO_17,runO_18,runO_19,aop,binV,ends,Nat.zero_sub,ev,fget,fput,params,cellsOf,cellsN,isLB,vget,vlen,bget,addB,addN,mkv,sliceV,vtab,frz,opOwns,preFz,callFz,skipOp,WfT,resV,res1,norm,norms,norm1,normL,pureB,pureL,snapV,snapOk,specV,argsL,capsL,mkE_S,mkE_I,lkp,pickV,Fin,vp_bool,Val.toInt,Val.slen,Val.scell,↓reduceIte,reduceCtorEq,Nat.reduceEqDiff,Nat.reduceAdd,Nat.reduceSub,Nat.reduceLeDiff,Nat.zero_add,Nat.add_zero,decide_false,beq_iff_eq,beq_eq_false_iff_ne,List.length_cons,List.length_nil,List.append_nil,Bool.not_eq_true',Bool.not_eq_false',Bool.and_self,Bool.bne_true,bne_self_eq_false,Bool.not_false,and_true,true_and,and_self,forall_const,imp_self,implies_true,Nat.le_refl,decide_eq_true_eq,decide_eq_false_iff_not,Val.bool.injEq,ne_eq,maxLen,Nat.reducePow,spec1,spec2,spec3,TSl,IsSl,TInt,IsInt,RInt,Prod.eta,Pm.c0,Pm.c1,Pm.c2,Pm.c3,Pm.c4,RPm,Pm.w_c,Pm.d,Pm.eta,Pl.L,Pl.Is,Pl.of,TPl,RPl,Pl.d,Pl.eta,Gv.L,TGv,Sg.L,TSg,toUI_val]
      repeat' (first | omega | (with_reducible apply And.intro) | intro _)
      all_goals first
        | (refine (decP_f fun k => ?_).symm; rw [hS] at k; omega)
        | (refine (decP_f fun k => ?_).symm; exact (hS.1 k).2.elim)
        | (rw [Bool.eq_iff_iff,decide_eq_true_iff,decP_true,hS]; omega)
    · have ea : (atF g.palms s.palm ≥ 0) = False := eq_false fun h => by have := atF_neg.2 hm; omega
      have e1 := decP_f hpl
      have hS : SgOk g s ↔ (g.start ≤ s.day ∧ s.day ≤ 100000) ∧ False := by unfold SgOk; simp only [hm,hpl,false_and,and_false,or_false]
      simp only [RunTo,a62,sIn,sPlace,sAt,ea,e1,hw,↓imp_ft,↓imp_ff,runO_3,runO_4,runO_5,runO_6,runO_8,runO_14,runO_17,runO_18,runO_19,aop,binV,ends,Nat.zero_sub,ev,fget,fput,params,cellsOf,cellsN,isLB,vget,vlen,bget,addB,addN,mkv,sliceV,vtab,frz,opOwns,preFz,callFz,skipOp,WfT,resV,res1,norm,norms,norm1,normL,pureB,pureL,snapV,snapOk,specV,argsL,capsL,mkE_S,mkE_I,lkp,pickV,Fin,vp_bool,Val.toInt,Val.slen,Val.scell,↓reduceIte,reduceCtorEq,Nat.reduceEqDiff,Nat.reduceAdd,Nat.reduceSub,Nat.reduceLeDiff,Nat.zero_add,Nat.add_zero,decide_false,beq_iff_eq,beq_eq_false_iff_ne,List.length_cons,List.length_nil,List.append_nil,Bool.not_eq_true',Bool.not_eq_false',Bool.and_self,Bool.bne_true,Bool.not_false,and_true,true_and,and_self,forall_const,imp_self,implies_true,decide_eq_true_eq,decide_eq_false_iff_not,Val.bool.injEq,ne_eq,maxLen,Nat.reducePow,spec1,spec2,spec3,TSl,IsSl,TInt,IsInt,RInt,Prod.eta,Pm.c0,Pm.c1,Pm.c2,Pm.c3,Pm.c4,RPm,Pm.w_c,Pm.d,Pm.eta,Pl.L,Pl.Is,Pl.of,TPl,RPl,Pl.d,Pl.eta,Gv.L,TGv,Sg.L,TSg,toUI_val]
      repeat' (first | omega | (with_reducible apply And.intro) | intro _)
      all_goals first
        | (refine (decP_f fun k => ?_).symm; rw [hS] at k; omega)
        | (refine (decP_f fun k => ?_).symm; exact (hS.1 k).2.elim)
        | (rw [Bool.eq_iff_iff,decide_eq_true_iff,decP_true,hS]; omega)
end Go.Proofs.Ytpknbojgkkmonaa
