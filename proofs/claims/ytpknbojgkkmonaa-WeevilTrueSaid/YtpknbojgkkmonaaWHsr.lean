/- Groves, the reference: History. No condition but bounds. -/
import Derived.Test.YtpknbojgkkmonaaWHis
import Derived.Test.YtpknbojgkkmonaaACodeH
set_option linter.unusedSimpArgs false
set_option linter.unusedVariables false
namespace Go.Proofs.Ytpknbojgkkmonaa
open Go Go.RowKit
variable {G : Nat → Option (Nat × (Nat → Val))}
noncomputable def sHist : Spec := spec2 TGv (TSl (RInt .i64)) (fun g d => GvOk g ∧ d.1 = g.palms.1 ∧ ∀ i,i < g.palms.1 → 0 ≤ d.2 i) fun g d => .bool (decP (HistP g d.2))
theorem at_neg {l : Pms} {id : Int} (h : ¬ hitN l id < l.1) : atF l id = -1 := if_neg h
set_option maxHeartbeats 4000000 in
set_option maxRecDepth 100000 in
theorem pHist : PureOk Try.prog G 31 sHist := by
  refine fn2 (S := [(36,sAt),(61,sSus),(37,sFrom)]) (I := []) mixed (.cons pAt (.cons pSus (.cons pFrom .nil))) .nil Try.func31 c31 fun g d hp hw => ?_
  obtain ⟨hg,hdn,hd0⟩ := hp
  simp only [vl,WfT,Val.toInt,Val.slen,Val.scell,Nat.reduceSub,and_true,true_and,and_assoc,maxLen,Nat.reducePow,TSl,RInt,RPm,Pm.d,RPl,Pl.d,Gv.L,TGv] at hw
  obtain ⟨w1,w2⟩ := hw
  simp only [RunTo,a31,runO_5,runO_6,runO_15,runO_17,runO_18,runO_19,aop,ev,fget,fput,params,cellsOf,cellsN,isLB,vlen,addB,addN,frz,opOwns,preFz,skipOp,WfT,Fin,vp_bool,Val.toInt,Val.slen,Val.scell,↓reduceIte,Nat.reduceAdd,Nat.zero_add,Int.reduceNeg,true_and,and_self,forall_const,TSl,RInt,RPm,Pm.d,RPl,Pl.d,Gv.L,TGv]
  have hn24 := hg.pms.n
  have hst := hg.start
  refine loopI (ι := Nat) (fun j => j ≤ d.1 ∧ ∀ i,i < j → HisAt g d.2 i) (fun j => d.1 - j) [1,2] (fun j => [(5,.int .i64 j)]) (fun _ => []) 0 ⟨by omega,fun i h => by omega⟩ (by simp only [Chk,chkFr,chkBx,chkBx1,hasB,idsLt,kept,vs_int,vs_nil,vs_ptr,vs_cons,vs_view,fget,isLB,bget,vsubP_self,↓reduceIte,reduceCtorEq,Nat.reduceEqDiff,Nat.reduceLT,Int.cast_ofNat_Int,and_self,forall_const,implies_true,Option.some.injEq,exists_eq',keepF,appF,updB]; try rfl) fun j hj => ?_
  obtain ⟨hj1,hj2⟩ := hj
  by_cases hjl : j < d.1
  · have fj : ((j : Int) < (d.1 : Int)) = True := eq_true (by omega)
    have hjg : j < g.palms.1 := by omega
    have next : HisAt g d.2 j → ∀ i,i < j + 1 → HisAt g d.2 i := fun h i hi => by
      rcases Nat.lt_or_ge i j with h5 | h5
      · exact hj2 i h5
      · obtain rfl : i = j := by omega
        exact h
    have bad : ¬ HisAt g d.2 j → decP (HistP g d.2) = false := fun h => decP_f fun k => h (k j hjg)
    have hpl := hg.pms.pl j hjg
    by_cases hbad : lateP g j ∧ d.2 (moF g j) ≤ (g.palms.2 j).planted ∧ ¬ d.2 j = (g.palms.2 j).planted
    · obtain ⟨hl,hdm,hde⟩ := hbad
      have fm := eq_false hl.1
      have fp := eq_true hl.2
      have fd := eq_true hdm
      have fe := eq_false hde
      obtain ⟨hmn,_,_⟩ := hg.mo hjg hl.1
      have ea : atF g.palms (g.palms.2 j).mother = (moF g j : Int) := atF_pos hmn
      simp only [sAt,sSus,sFrom,fm,fp,ea,fd,fe,fj,w1,w2,↓imp_tt,↓imp_tf,↓imp_ft,↓imp_ff,runO_3,runO_4,runO_5,runO_6,runO_9,runO_14,runO_15,runO_16,runO_17,runO_18,runO_19,aop,binV,ends,reOk,Nat.zero_sub,ev,fget,fput,cellsOf,cellsN,isLB,vget,vset,vsets,vlen,bget,bset,addB,addN,mkv,sliceV,vtab,frz,opOwns,preFz,callFz,skipOp,WfT,resV,res1,casts,castOks,cast1,castOk,norm,norms,norm1,normL,pureB,pureL,onesB,snapV,snapOk,specV,argsL,capsL,mkE_S,mkE_I,lkp,pickV,lenV,popTo,stkFr,stkNx,Val.toInt,Val.slen,Val.scell,↓reduceIte,reduceCtorEq,Nat.reduceEqDiff,Nat.reduceAdd,Nat.reduceSub,Nat.reduceLeDiff,Nat.zero_add,Nat.add_zero,Int.reduceNeg,decide_true,beq_iff_eq,beq_eq_false_iff_ne,bne_iff_ne,bne_eq_false_iff_eq,List.length_cons,List.length_nil,List.append_nil,Bool.not_eq_true',Bool.not_eq_false',Bool.and_self,Bool.bne_true,Bool.bne_false,bne_self_eq_false,Bool.not_false,and_true,true_and,and_self,and_assoc,forall_const,imp_self,implies_true,Nat.le_refl,decide_eq_true_eq,decide_eq_false_iff_not,Val.bool.injEq,ne_eq,not_false_eq_true,false_implies,not_false_eq_true,maxLen,Nat.reducePow,keepF,appF,updB,inat,spec2,spec5,TSl,IsSl,TInt,IsInt,RInt,Prod.eta,Pm.c0,Pm.c1,Pm.c2,Pm.c3,Pm.c4,RPm,Pm.w_c,Pm.d,Pm.eta,Pl.c0,Pl.c1,RPl,Pl.w_c,Pl.d,Pl.eta,Gv.L,Gv.Is,Gv.of,TGv,Gv.d,Gv.eta,toUI_val]
      repeat' (first | omega | (with_reducible apply And.intro) | intro _)
      all_goals exact (bad fun h => hde (h.1 hl hdm)).symm
    have hc1 : (lateP g j → d.2 (moF g j) ≤ (g.palms.2 j).planted → d.2 j = (g.palms.2 j).planted) := fun h1 h2 => Classical.byContradiction fun h3 => hbad ⟨h1,h2,h3⟩
    have cs : ((((g.palms.2 j).mother = -1) = True) ∧ (((g.palms.2 j).mother = -1) = True) ∧ (((g.palms.2 j).mother = -1) = True) ∧ (((g.palms.2 j).mother = -1) = True) ∧ (((g.palms.2 j).mother = -1) = True) ∧ j < g.palms.1) ∨ ((((g.palms.2 j).mother = -1) = False) ∧ (((g.palms.2 j).planted > g.start) = False) ∧ (((g.palms.2 j).planted > g.start) = False) ∧ (((g.palms.2 j).planted > g.start) = False) ∧ (((g.palms.2 j).planted > g.start) = False) ∧ j < g.palms.1) ∨ ((((g.palms.2 j).mother = -1) = False) ∧ (((g.palms.2 j).planted > g.start) = True) ∧ atF g.palms (g.palms.2 j).mother = (moF g j : Int) ∧ ((d.2 (moF g j) ≤ (g.palms.2 j).planted) = True) ∧ ((d.2 j = (g.palms.2 j).planted) = True) ∧ moF g j < g.palms.1) ∨ ((((g.palms.2 j).mother = -1) = False) ∧ (((g.palms.2 j).planted > g.start) = True) ∧ atF g.palms (g.palms.2 j).mother = (moF g j : Int) ∧ ((d.2 (moF g j) ≤ (g.palms.2 j).planted) = False) ∧ ((d.2 (moF g j) ≤ (g.palms.2 j).planted) = False) ∧ moF g j < g.palms.1) := by
      by_cases hm : ((g.palms.2 j).mother = -1)
      · have := eq_true hm; exact .inl ⟨this,this,this,this,this,hjg⟩
      · have fm := eq_false hm
        by_cases hp2 : ((g.palms.2 j).planted > g.start)
        · have fp := eq_true hp2
          obtain ⟨hmn,_,_⟩ := hg.mo hjg hm
          have ea : atF g.palms (g.palms.2 j).mother = (moF g j : Int) := atF_pos hmn
          by_cases hdm : (d.2 (moF g j) ≤ (g.palms.2 j).planted)
          · exact .inr (.inr (.inl ⟨fm,fp,ea,eq_true hdm,eq_true (hc1 ⟨hm,hp2⟩ hdm),hmn⟩))
          · exact .inr (.inr (.inr ⟨fm,fp,ea,eq_false hdm,eq_false hdm,hmn⟩))
        · have := eq_false hp2; exact .inr (.inl ⟨fm,this,this,this,this,hjg⟩)
    rcases cs with ⟨fm,fp,ea,fd,fe,hmn⟩ | ⟨fm,fp,ea,fd,fe,hmn⟩ | ⟨fm,fp,ea,fd,fe,hmn⟩ | ⟨fm,fp,ea,fd,fe,hmn⟩
    all_goals
      have qm := fm
      have qp := fp
      have qd := fd
      have qe := fe
      simp only [eq_iff_iff,iff_true,iff_false] at qm qp qd qe
      by_cases hB : d.2 j ≥ 100001
      · have fB := eq_true hB
        first
          | (exfalso; omega)
          | (simp only [sAt,sSus,sFrom,fm,fp,ea,fd,fB,fj,w1,w2,↓imp_tt,↓imp_tf,↓imp_ft,↓imp_ff,runO_3,runO_4,runO_5,runO_6,runO_9,runO_14,runO_16,runO_17,runO_18,runO_19,aop,binV,ends,reOk,Nat.zero_sub,ev,fget,fput,cellsOf,cellsN,isLB,vget,vset,vsets,vlen,bget,bset,addB,addN,mkv,sliceV,vtab,frz,opOwns,preFz,callFz,skipOp,WfT,resV,res1,casts,castOks,cast1,castOk,norm,norm1,normL,pureB,pureL,onesB,snapV,snapOk,specV,argsL,capsL,mkE_S,mkE_I,lkp,pickV,lenV,popTo,stkFr,stkNx,Val.toInt,Val.slen,Val.scell,↓reduceIte,reduceCtorEq,Nat.reduceEqDiff,Nat.reduceAdd,Nat.reduceSub,Nat.reduceLeDiff,Nat.zero_add,Nat.add_zero,Int.reduceNeg,decide_true,decide_false,bne_iff_ne,bne_eq_false_iff_eq,List.length_cons,List.length_nil,List.append_nil,Bool.and_self,Bool.bne_true,bne_self_eq_false,Bool.not_false,and_true,true_and,and_self,and_assoc,forall_const,imp_self,implies_true,Nat.le_refl,decide_eq_true_eq,decide_eq_false_iff_not,Val.bool.injEq,ne_eq,not_false_eq_true,false_implies,not_true_eq_false,not_false_eq_true,maxLen,Nat.reducePow,keepF,appF,updB,inat,spec2,spec5,TSl,IsSl,TInt,IsInt,RInt,Prod.eta,Pm.c0,Pm.c1,Pm.c2,Pm.c3,Pm.c4,RPm,Pm.w_c,Pm.d,Pm.eta,RPl,Pl.d,Gv.L,Gv.Is,Gv.of,TGv,Gv.d,toUI_val]
             repeat' (first | omega | (with_reducible apply And.intro) | intro _)
             refine inv_intro (j + 1) ⟨by omega,next ?_⟩ (by omega) ?_
             rotate_left
             · simp only [Chk,chkFr,chkBx,chkBx1,hasB,idsLt,kept,vs_int,vs_nil,vs_ptr,vs_cons,vs_view,Nat.lt_irrefl,fget,isLB,bget,vsubP_self,↓reduceIte,reduceCtorEq,Nat.reduceEqDiff,Nat.reduceLT,and_true,true_and,and_self,forall_const,implies_true,Option.some.injEq,Val.int.injEq,exists_eq',false_implies]
               rw [wrS (by omega)]
             exact ⟨hc1,fun h => by omega⟩)
      have fB := eq_false hB
      by_cases hC : d.2 j < g.start
      · have fC := eq_true hC
        first
          | (exfalso; omega)
          | (simp only [sAt,sSus,sFrom,fm,fp,ea,fd,fB,fC,fj,w1,w2,↓imp_tt,↓imp_tf,↓imp_ft,↓imp_ff,runO_3,runO_4,runO_5,runO_6,runO_14,runO_17,runO_18,runO_19,aop,binV,ends,reOk,Nat.zero_sub,ev,fget,fput,cellsOf,cellsN,isLB,vget,vset,vsets,vlen,bget,bset,addB,addN,mkv,sliceV,vtab,frz,opOwns,preFz,callFz,skipOp,WfT,resV,res1,casts,castOks,cast1,castOk,norm,norm1,normL,pureB,pureL,onesB,snapV,snapOk,specV,argsL,capsL,mkE_S,mkE_I,lkp,pickV,lenV,stkFr,stkNx,Val.toInt,Val.slen,Val.scell,↓reduceIte,reduceCtorEq,Nat.reduceEqDiff,Nat.reduceAdd,Nat.reduceSub,Nat.reduceLeDiff,Nat.zero_add,Nat.add_zero,Int.reduceNeg,decide_true,decide_false,bne_iff_ne,bne_eq_false_iff_eq,List.length_cons,List.length_nil,List.append_nil,Bool.and_self,Bool.bne_true,Bool.bne_false,bne_self_eq_false,Bool.not_false,and_true,true_and,and_self,and_assoc,forall_const,imp_self,implies_true,Nat.le_refl,decide_eq_true_eq,decide_eq_false_iff_not,Val.bool.injEq,ne_eq,not_false_eq_true,false_implies,not_true_eq_false,not_false_eq_true,maxLen,Nat.reducePow,keepF,appF,updB,inat,spec2,spec5,TSl,IsSl,TInt,IsInt,RInt,Prod.eta,Pm.c0,Pm.c1,Pm.c2,Pm.c3,Pm.c4,RPm,Pm.w_c,Pm.d,Pm.eta,RPl,Pl.d,Gv.L,Gv.Is,Gv.of,TGv,Gv.d,toUI_val]
             repeat' (first | omega | (with_reducible apply And.intro) | intro _)
             all_goals exact (bad fun h => by have := (h.2 (by omega)).1.1; omega).symm)
      have fC := eq_false hC
      by_cases hE : d.2 j = g.start
      · have fE := eq_true hE
        first
          | (exfalso; omega)
          | (by_cases hs : susP g (g.palms.2 j).id
             · have fs := decP_t hs
               simp only [sAt,sSus,sFrom,fm,fp,ea,fd,fB,fC,fE,fs,fj,w1,w2,↓imp_tt,↓imp_tf,↓imp_ft,↓imp_ff,runO_3,runO_4,runO_5,runO_6,runO_9,runO_14,runO_15,runO_16,runO_17,runO_18,runO_19,aop,binV,ends,reOk,Nat.zero_sub,ev,fget,fput,cellsOf,cellsN,isLB,vget,vset,vsets,vlen,bget,bset,addB,addN,mkv,sliceV,vtab,frz,opOwns,preFz,callFz,skipOp,WfT,resV,res1,casts,castOks,cast1,castOk,norm,norms,norm1,normL,pureB,pureL,onesB,snapV,snapOk,specV,argsL,capsL,mkE_S,mkE_I,lkp,pickV,lenV,popTo,stkFr,stkNx,Val.toInt,Val.slen,Val.scell,↓reduceIte,reduceCtorEq,Nat.reduceEqDiff,Nat.reduceAdd,Nat.reduceSub,Nat.reduceLeDiff,Nat.zero_add,Nat.add_zero,Int.reduceNeg,decide_true,decide_false,beq_iff_eq,beq_eq_false_iff_ne,bne_iff_ne,bne_eq_false_iff_eq,List.length_cons,List.length_nil,List.append_nil,Bool.and_self,Bool.bne_true,bne_self_eq_false,Bool.not_true,Bool.not_false,and_true,true_and,and_self,and_assoc,forall_const,imp_self,implies_true,Nat.le_refl,decide_eq_true_eq,decide_eq_false_iff_not,Val.bool.injEq,ne_eq,not_false_eq_true,false_implies,not_true_eq_false,not_false_eq_true,maxLen,Nat.reducePow,keepF,appF,updB,inat,spec2,spec5,TSl,IsSl,TInt,IsInt,RInt,Prod.eta,Pm.c0,Pm.c1,Pm.c2,Pm.c3,Pm.c4,RPm,Pm.w_c,Pm.d,Pm.eta,Pl.c0,Pl.c1,RPl,Pl.w_c,Pl.d,Pl.eta,Gv.L,Gv.Is,Gv.of,TGv,Gv.d,Gv.eta,toUI_val]
               repeat' (first | omega | (with_reducible apply And.intro) | intro _)
               refine inv_intro (j + 1) ⟨by omega,next ?_⟩ (by omega) ?_
               rotate_left
               · simp only [Chk,chkFr,chkBx,chkBx1,hasB,idsLt,kept,vs_int,vs_nil,vs_ptr,vs_cons,vs_view,Nat.lt_irrefl,fget,isLB,bget,vsubP_self,↓reduceIte,reduceCtorEq,Nat.reduceEqDiff,Nat.reduceLT,and_true,true_and,and_self,forall_const,implies_true,Option.some.injEq,Val.int.injEq,exists_eq',false_implies]
                 rw [wrS (by omega)]
               exact ⟨hc1,fun h => ⟨⟨by omega,fun _ => hs⟩,fun h => absurd hE h⟩⟩
             · have fs := decP_f hs
               simp only [sAt,sSus,sFrom,fm,fp,ea,fd,fB,fC,fE,fs,fj,w1,w2,↓imp_tt,↓imp_tf,↓imp_ft,↓imp_ff,runO_3,runO_4,runO_5,runO_6,runO_9,runO_14,runO_15,runO_16,runO_17,runO_18,runO_19,aop,binV,ends,reOk,Nat.zero_sub,ev,fget,fput,cellsOf,cellsN,isLB,vget,vset,vsets,vlen,bget,bset,addB,addN,mkv,sliceV,vtab,frz,opOwns,preFz,callFz,skipOp,WfT,resV,res1,casts,castOks,cast1,castOk,norm,norms,norm1,normL,pureB,pureL,onesB,snapV,snapOk,specV,argsL,capsL,mkE_S,mkE_I,lkp,pickV,lenV,popTo,stkFr,stkNx,Val.toInt,Val.slen,Val.scell,↓reduceIte,reduceCtorEq,Nat.reduceEqDiff,Nat.reduceAdd,Nat.reduceSub,Nat.reduceLeDiff,Nat.zero_add,Nat.add_zero,Int.reduceNeg,decide_true,decide_false,beq_iff_eq,beq_eq_false_iff_ne,bne_iff_ne,bne_eq_false_iff_eq,List.length_cons,List.length_nil,List.append_nil,Bool.and_self,Bool.bne_true,bne_self_eq_false,Bool.not_false,and_true,true_and,and_self,and_assoc,forall_const,imp_self,implies_true,Nat.le_refl,decide_eq_true_eq,decide_eq_false_iff_not,Val.bool.injEq,ne_eq,not_false_eq_true,false_implies,not_true_eq_false,not_false_eq_true,maxLen,Nat.reducePow,keepF,appF,updB,inat,spec2,spec5,TSl,IsSl,TInt,IsInt,RInt,Prod.eta,Pm.c0,Pm.c1,Pm.c2,Pm.c3,Pm.c4,RPm,Pm.w_c,Pm.d,Pm.eta,Pl.c0,Pl.c1,RPl,Pl.w_c,Pl.d,Pl.eta,Gv.L,Gv.Is,Gv.of,TGv,Gv.d,Gv.eta,toUI_val]
               repeat' (first | omega | (with_reducible apply And.intro) | intro _)
               all_goals exact (bad fun h => hs ((h.2 (by omega)).1.2 hE)).symm)
      have fE := eq_false hE
      simp only [sAt,sSus,sFrom,fm,fp,ea,fd,fe,fB,fC,fE,fj,w1,w2,↓imp_tt,↓imp_tf,↓imp_ft,↓imp_ff,runO_3,runO_4,runO_5,runO_6,runO_9,runO_14,runO_15,runO_16,runO_17,runO_18,runO_19,aop,binV,ends,reOk,Nat.zero_sub,ev,fget,fput,cellsOf,cellsN,isLB,vget,vset,vsets,vlen,bget,bset,addB,addN,mkv,sliceV,vtab,frz,opOwns,preFz,callFz,skipOp,WfT,resV,res1,casts,castOks,cast1,castOk,norm,norms,norm1,normL,pureB,pureL,onesB,snapV,snapOk,specV,argsL,capsL,mkE_S,mkE_I,lkp,pickV,lenV,popTo,stkFr,stkNx,Val.toInt,Val.slen,Val.scell,↓reduceIte,reduceCtorEq,Nat.reduceEqDiff,Nat.reduceAdd,Nat.reduceSub,Nat.reduceLeDiff,Nat.zero_add,Nat.add_zero,Int.reduceNeg,decide_true,decide_false,beq_iff_eq,beq_eq_false_iff_ne,bne_iff_ne,bne_eq_false_iff_eq,List.length_cons,List.length_nil,List.append_nil,Bool.not_eq_true',Bool.not_eq_false',Bool.and_self,Bool.bne_true,bne_self_eq_false,Bool.not_false,and_true,true_and,and_self,and_assoc,forall_const,imp_self,implies_true,Nat.le_refl,decide_eq_true_eq,decide_eq_false_iff_not,Val.bool.injEq,ne_eq,not_false_eq_true,false_implies,not_true_eq_false,not_false_eq_true,maxLen,Nat.reducePow,keepF,appF,updB,inat,spec2,spec5,TSl,IsSl,TInt,IsInt,RInt,Prod.eta,Pm.c0,Pm.c1,Pm.c2,Pm.c3,Pm.c4,RPm,Pm.w_c,Pm.d,Pm.eta,Pl.c0,Pl.c1,RPl,Pl.w_c,Pl.d,Pl.eta,Gv.L,Gv.Is,Gv.of,TGv,Gv.d,Gv.eta,toUI_val]
      repeat' (first | omega | (with_reducible apply And.intro) | intro _)
      refine loopI (ι := Nat) (fun z => z ≤ d.1) (fun z => d.1 - z) [1,2,5,6] (fun z => [(8,.bool (decP (∃ k,k < z ∧ fromP g j (d.2 j) k (d.2 k)))),(9,.int .i64 z)]) (fun _ => []) 0 (by omega) (by simp only [Chk,chkFr,chkBx,chkBx1,hasB,idsLt,kept,vs_int,vs_bool,vs_nil,vs_ptr,vs_cons,vs_view,fget,isLB,bget,vsubP_self,↓reduceIte,reduceCtorEq,Nat.reduceEqDiff,Nat.reduceLT,Int.cast_ofNat_Int,Int.reduceNeg,and_true,and_self,forall_const,implies_true,Option.some.injEq,Val.bool.injEq,exists_eq',keepF,appF,updB]; exact (decP_f fun ⟨k,h,_⟩ => absurd h (Nat.not_lt_zero _)).symm) fun z hz => ?_
      by_cases hzl : z < d.1
      · have fz : ((z : Int) < (d.1 : Int)) = True := eq_true (by omega)
        have hz0 := hd0 z (by omega)
        obtain ⟨b1,hb1⟩ : ∃ b,decP (∃ k,k < z ∧ fromP g j (d.2 j) k (d.2 k)) = b := ⟨_,rfl⟩
        obtain ⟨b2,hb2⟩ : ∃ b,decP (fromP g j (d.2 j) z (d.2 z)) = b := ⟨_,rfl⟩
        have en : decP (∃ k,k < z + 1 ∧ fromP g j (d.2 j) k (d.2 k)) = (b1 || b2) := by
          rw [← hb1,← hb2,Bool.eq_iff_iff,decP_true,Bool.or_eq_true,decP_true,decP_true]
          constructor
          · rintro ⟨k,h1,h2⟩
            rcases Nat.lt_or_ge k z with h5 | h5
            · exact .inl ⟨k,h5,h2⟩
            · obtain rfl : k = z := by omega
              exact .inr h2
          · rintro (⟨k,h1,h2⟩ | h2)
            · exact ⟨k,by omega,h2⟩
            · exact ⟨z,by omega,h2⟩
        cases b1
        all_goals
          simp only [hb1,hb2,fz,hg,w2,↓imp_tt,↓imp_tf,↓imp_ft,↓imp_ff,runO_4,runO_5,runO_6,runO_8,runO_14,runO_16,runO_17,runO_18,runO_19,aop,binV,Nat.zero_sub,ev,fget,fput,isLB,vget,vlen,bget,addB,addN,mkv,sliceV,vtab,frz,opOwns,preFz,callFz,skipOp,WfT,casts,castOks,cast1,castOk,norm,norms,norm1,normL,pureB,pureL,specV,argsL,capsL,mkE_S,mkE_I,lkp,pickV,lenV,stkFr,stkNx,Val.toInt,↓reduceIte,reduceCtorEq,Nat.reduceEqDiff,Nat.reduceAdd,Nat.reduceSub,Nat.zero_add,decide_true,List.length_cons,List.length_nil,List.append_nil,Bool.and_self,Bool.bne_false,bne_self_eq_false,and_true,true_and,and_self,and_assoc,forall_const,imp_self,implies_true,Nat.le_refl,maxLen,Nat.reducePow,keepF,appF,updB,inat,Prod.eta,Pm.c0,Pm.c1,Pm.c2,Pm.c3,Pm.c4,Pm.w_c,Pm.eta,Pl.c0,Pl.c1,Pl.w_c,Pl.eta,Gv.eta,toUI_val]
          repeat' (first | omega | (with_reducible apply And.intro) | intro _)
          refine inv_intro (z + 1) (by omega) (by omega) ?_
          simp only [en,Bool.false_or,Bool.true_or,Chk,chkFr,chkBx,chkBx1,hasB,idsLt,kept,vs_int,vs_bool,vs_nil,vs_ptr,vs_cons,vs_view,fget,isLB,bget,vsubP_self,↓reduceIte,reduceCtorEq,Nat.reduceEqDiff,Nat.reduceLT,and_true,true_and,and_self,forall_const,implies_true,Option.some.injEq,Val.int.injEq,exists_eq']
          rw [wrS (by omega)]
      · have fz : ((z : Int) < (d.1 : Int)) = False := eq_false (by omega)
        obtain rfl : z = d.1 := by omega
        by_cases hh : ∃ k,k < d.1 ∧ fromP g j (d.2 j) k (d.2 k)
        · have fh := decP_t hh
          by_cases hpd : (g.palms.2 j).planted > d.2 j
          · have fp2 := eq_true hpd
            simp only [fh,fz,fp2,w2,↓imp_tt,↓imp_tf,↓imp_ft,↓imp_ff,runO_3,runO_5,runO_9,runO_14,runO_17,runO_18,runO_19,aop,binV,ends,ev,fget,fput,vget,vlen,bget,addB,addN,mkv,sliceV,vtab,frz,opOwns,preFz,skipOp,WfT,resV,res1,casts,castOks,cast1,castOk,snapV,snapOk,pickV,lenV,popTo,stkFr,stkNx,Val.toInt,↓reduceIte,reduceCtorEq,Nat.reduceEqDiff,Nat.reduceAdd,Nat.reduceSub,Nat.reduceLeDiff,Nat.zero_add,decide_true,decide_false,List.length_cons,List.length_nil,bne_self_eq_false,Bool.not_true,and_true,true_and,and_self,and_assoc,forall_const,imp_self,implies_true,Nat.le_refl,Val.bool.injEq,maxLen,Nat.reducePow,keepF,appF,updB,inat]
            repeat' (first | omega | (with_reducible apply And.intro) | intro _)
            all_goals exact (bad fun h => by have := ((h.2 (by omega)).2 hE).2; omega).symm
          · have fp2 := eq_false hpd
            simp only [fh,fz,fp2,w2,↓imp_ft,↓imp_ff,runO_4,runO_5,runO_8,runO_9,runO_14,runO_16,runO_17,runO_18,runO_19,aop,binV,ev,fget,fput,vget,vlen,bget,addB,addN,mkv,sliceV,vtab,frz,opOwns,preFz,skipOp,WfT,casts,castOks,cast1,castOk,pickV,lenV,popTo,stkFr,stkNx,Val.toInt,↓reduceIte,reduceCtorEq,Nat.reduceEqDiff,Nat.reduceAdd,Nat.reduceSub,Nat.reduceLeDiff,Nat.zero_add,decide_false,List.length_cons,List.length_nil,bne_self_eq_false,Bool.not_true,true_and,and_self,and_assoc,forall_const,imp_self,implies_true,Nat.le_refl,maxLen,Nat.reducePow,keepF,appF,updB,inat]
            repeat' (first | omega | (with_reducible apply And.intro) | intro _)
            refine inv_intro (j + 1) ⟨by omega,next ?_⟩ (by omega) ?_
            rotate_left
            · simp only [Chk,chkFr,chkBx,chkBx1,hasB,idsLt,kept,vs_int,vs_nil,vs_ptr,vs_cons,vs_view,Nat.lt_irrefl,fget,isLB,bget,vsubP_self,↓reduceIte,reduceCtorEq,Nat.reduceEqDiff,Nat.reduceLT,and_true,true_and,and_self,forall_const,implies_true,Option.some.injEq,Val.int.injEq,exists_eq',false_implies]
              rw [wrS (by omega)]
            obtain ⟨k,h1,h2⟩ := hh
            exact ⟨hc1,fun h => ⟨⟨by omega,fun h => absurd h hE⟩,fun _ => ⟨⟨k,by omega,h2⟩,by omega⟩⟩⟩
        · have fh := decP_f hh
          simp only [fh,fz,w2,↓imp_tt,↓imp_tf,↓imp_ft,↓imp_ff,runO_3,runO_5,runO_9,runO_14,runO_17,runO_18,runO_19,aop,binV,ends,Nat.zero_sub,ev,fget,fput,addB,addN,frz,opOwns,preFz,skipOp,WfT,resV,res1,snapV,snapOk,pickV,lenV,popTo,stkFr,stkNx,↓reduceIte,reduceCtorEq,Nat.reduceEqDiff,Nat.reduceSub,decide_false,Bool.bne_false,Bool.not_false,and_true,true_and,and_self,forall_const,imp_self,implies_true,Val.bool.injEq,maxLen,Nat.reducePow,keepF,appF,updB]
          repeat' (first | omega | (with_reducible apply And.intro) | intro _)
          all_goals exact (bad fun h => by
            obtain ⟨k,h1,h2⟩ := ((h.2 (by omega)).2 hE).1
            exact hh ⟨k,by omega,h2⟩).symm
  · have fj : ((j : Int) < (d.1 : Int)) = False := eq_false (by omega)
    simp only [fj,w2,↓imp_ft,↓imp_ff,runO_3,runO_5,runO_9,runO_14,runO_17,runO_18,runO_19,aop,binV,ends,ev,fget,fput,addB,addN,frz,opOwns,preFz,skipOp,WfT,resV,res1,snapV,snapOk,lenV,popTo,stkFr,stkNx,↓reduceIte,reduceCtorEq,Nat.reduceEqDiff,Nat.reduceSub,Int.reduceNeg,decide_false,true_and,and_self,forall_const,Val.bool.injEq,maxLen,Nat.reducePow,keepF,appF,updB]
    exact (decP_t fun i hi => hj2 i (by omega)).symm
end Go.Proofs.Ytpknbojgkkmonaa
