/- Groves, the reference: soonest's run. No condition but bounds. -/
import Derived.Test.YtpknbojgkkmonaaWRs
set_option linter.unusedSimpArgs false
set_option linter.unusedVariables false
namespace Go.Proofs.Ytpknbojgkkmonaa
open Go Go.RowKit
variable {G : Nat → Option (Nat × (Nat → Val))}
noncomputable def sSoon9 : Spec := (spec2 TGv (TSl (RInt .i64)) (fun g b => GvOk g ∧ b.1 = g.palms.1 ∧ ∀ i,i < g.palms.1 → 0 ≤ b.2 i ∧ b.2 i ≤ 100001) fun g b => .view 1 g.palms.1 fun i _ => .int .i64 (daysF g b.2 i)).mine 3
set_option maxHeartbeats 4000000 in
set_option maxRecDepth 100000 in
theorem pSoon9 : EatOk Try.prog G 49 sSoon9 := by
  refine fe2 (S := [(36,sAt),(61,sSus),(37,sFrom)]) (I := []) mixed (.cons pAt (.cons pSus (.cons pFrom .nil))) .nil Try.func49 c49 fun g b e0 hp hw hb24 => ?_
  obtain ⟨hg,hbn,hb⟩ := hp
  simp only [vl,WfT,Val.toInt,Nat.reduceSub,and_true,true_and,maxLen,Nat.reducePow,RInt,RPm,Pm.d,RPl,Pl.d,Gv.L,TGv] at hw
  obtain ⟨w1,w2,w3⟩ := hw
  have hn24 := hg.pms.n
  have hst := hg.start
  have hha := hg.hatch
  obtain ⟨L,hL⟩ := raised_ex (n0 := b.2) hg fun i hi => by have := (hb i hi).2; omega
  have hL1 : ∀ i,i < g.palms.1 → L i ≤ 300001 := fun i hi => by
    refine hL.2 (fun _ => 300001) ⟨fun i hi => ?_,fun i hi _ _ => ?_⟩ i hi
    · have := (hb i hi).2; show b.2 i ≤ 300001; omega
    · have := (hg.pms.pl i hi).2; show (300001 : Int) > _; omega
  simp only [a49,hbn,w1,FinS,runO_5,runO_6,runO_15,runO_17,runO_18,runO_19,aop,ev,fget,fput,params,cellsOf,cellsN,isLB,vget,vlen,bget,addB,addN,mkv,sliceV,vtab,frz,opOwns,preFz,skipOp,WfT,lenV,Fin,Val.toInt,↓reduceIte,Nat.reduceEqDiff,Nat.reduceAdd,Nat.reduceSub,Nat.reduceLeDiff,Nat.zero_add,Nat.add_zero,Int.reduceNeg,List.length_cons,List.length_nil,true_and,and_self,and_assoc,forall_const,exists_and_left,maxLen,Nat.reducePow,RInt,RPm,Pm.d,RPl,Pl.d,Gv.L,TGv]
  -- the rounds of what is not yet
  refine loopI (ι := Nat × (Nat → Int)) (fun p => p.1 ≤ g.palms.1 + 1 ∧ Rnd g b.2 L p.2 p.1 0) (fun p => g.palms.1 + 1 - p.1) [1,2,5] (fun p => [(6,.int .i64 p.1)]) (fun p => [(0,.row e0 1 g.palms.1 fun i _ => .int .i64 (p.2 i))]) (0,b.2) ⟨by omega,Rnd.start hL⟩ (by simp only [Chk,chkFr,chkBx,chkBx1,newIn,hasB,idsLt,kept,vs_int,vs_nil,vs_own,vs_ptr,vs_cons,vs_view,fget,isLB,bget,bset,vsubP_self,↓reduceIte,reduceCtorEq,Nat.reduceEqDiff,Nat.reduceLT,Int.cast_ofNat_Int,and_true,and_self,forall_const,implies_true,Option.some.injEq,exists_eq',or_false,keepF,appF,updB]; try rfl) fun p hp => ?_
  obtain ⟨r,X⟩ := p
  obtain ⟨hr1,hR⟩ := hp
  simp only at hr1 hR
  by_cases hrl : r ≤ g.palms.1
  · have fr : ((r : Int) ≤ (g.palms.1 : Int)) = True := eq_true (by omega)
    simp only [fr,↓imp_tt,↓imp_tf,runO_4,runO_5,runO_6,runO_14,runO_15,runO_17,runO_18,runO_19,aop,binV,ev,fget,fput,bset,addB,addN,frz,opOwns,preFz,skipOp,WfT,stkFr,stkNx,↓reduceIte,reduceCtorEq,Nat.reduceEqDiff,Int.reduceNeg,decide_true,and_true,true_and,and_self,forall_const,keepF,appF,updB]
    refine loopI (ι := Nat × (Nat → Int)) (fun p => p.1 ≤ g.palms.1 ∧ Rnd g b.2 L p.2 r p.1) (fun p => g.palms.1 - p.1) [1,2,5,6] (fun p => [(7,.int .i64 p.1)]) (fun p => [(0,.row e0 1 g.palms.1 fun i _ => .int .i64 (p.2 i))]) (0,X) ⟨by omega,hR⟩ (by simp only [Chk,chkFr,chkBx,chkBx1,newIn,hasB,idsLt,kept,vs_int,vs_nil,vs_own,vs_ptr,vs_cons,vs_view,fget,isLB,bget,bset,vsubP_self,↓reduceIte,reduceCtorEq,Nat.reduceEqDiff,Nat.reduceLT,Int.cast_ofNat_Int,and_true,and_self,forall_const,implies_true,Option.some.injEq,exists_eq',or_false,keepF,appF,updB]; try rfl) fun p hp => ?_
    obtain ⟨j,Y⟩ := p
    obtain ⟨hj1,hY⟩ := hp
    simp only at hj1 hY
    by_cases hjl : j < g.palms.1
    · have fj : ((j : Int) < (g.palms.1 : Int)) = True := eq_true (by omega)
      have hpl := hg.pms.pl j hjl
      by_cases hup : lateP g j ∧ Y j > (g.palms.2 j).planted
      · obtain ⟨hl,hY2⟩ := hup
        have fm := eq_false hl.1
        have fp := eq_true hl.2
        have fY := eq_true hY2
        obtain ⟨hmn,_,_⟩ := hg.mo hjl hl.1
        have ea : atF g.palms (g.palms.2 j).mother = (moF g j : Int) := atF_pos hmn
        have e1 : IntKind.i64.wrap ((g.palms.2 j).planted + 1) = (g.palms.2 j).planted + 1 := wr64 (by omega) (by omega)
        simp only [sAt,fj,fm,fp,fY,ea,e1,w1,↓imp_tt,↓imp_tf,↓imp_ft,↓imp_ff,runO_4,runO_5,runO_6,runO_8,runO_14,runO_16,runO_17,runO_18,runO_19,aop,binV,reOk,Nat.zero_sub,ev,fget,fput,cellsOf,cellsN,isLB,vget,vset,vsets,vlen,bget,bset,addB,addN,mkv,sliceV,vtab,frz,opOwns,preFz,callFz,owns,skipOp,WfT,casts,castOks,cast1,castOk,norm,norm1,normL,pureB,pureL,onesB,specV,argsL,capsL,mkE_S,mkE_I,lkp,pickV,stkFr,stkNx,Val.toInt,Val.slen,Val.scell,↓reduceIte,reduceCtorEq,Nat.reduceEqDiff,Nat.reduceAdd,Nat.reduceSub,Nat.reduceLeDiff,Nat.zero_add,Nat.add_zero,Nat.sub_zero,Int.reduceNeg,decide_true,bne_iff_ne,bne_eq_false_iff_eq,List.length_cons,List.length_nil,List.append_nil,Bool.and_self,Bool.bne_true,bne_self_eq_false,Bool.not_false,and_true,true_and,and_self,and_assoc,forall_const,implies_true,Nat.le_refl,ne_eq,not_false_eq_true,false_implies,not_false_eq_true,maxLen,Nat.reducePow,keepF,appF,updB,inat,spec2,TSl,IsSl,TInt,IsInt,Prod.eta,Pm.c0,Pm.c1,Pm.c2,Pm.c3,Pm.c4,RPm,Pm.w_c,Pm.d,Pm.eta,toUI_val]
        refine ⟨by omega,by omega,by omega,by omega,by omega,by omega,inv_intro (j + 1,rsd g Y j) ⟨by show j + 1 ≤ _; omega,hY.step hL hjl hl hY2⟩ (by show g.palms.1 - (j + 1) < _; omega) ?_⟩
        simp only [Chk,chkFr,chkBx,chkBx1,newIn,hasB,idsLt,kept,vs_int,vs_nil,vs_own,vs_ptr,vs_cons,vs_view,Nat.lt_irrefl,fget,isLB,bget,vp_int,vsubP_self,↓reduceIte,reduceCtorEq,Nat.reduceEqDiff,Nat.reduceLT,and_true,true_and,and_self,forall_const,implies_true,Option.some.injEq,Val.int.injEq,exists_eq',false_implies,or_false]
        rw [wrS (by omega)]
        refine ⟨rfl,fun i hi b hb => ?_⟩
        obtain rfl : b = 0 := by omega
        unfold rsd
        by_cases h5 : i = moF g j
        · subst h5; simp [vget]
        · simp [h5]
      · have hk := hY.keep hup
        have cs : ((((g.palms.2 j).mother = -1) = True) ∧ (((g.palms.2 j).mother = -1) = True) ∧ (((g.palms.2 j).mother = -1) = True)) ∨ ((((g.palms.2 j).mother = -1) = False) ∧ (((g.palms.2 j).planted > g.start) = False) ∧ (((g.palms.2 j).planted > g.start) = False)) ∨ ((((g.palms.2 j).mother = -1) = False) ∧ (((g.palms.2 j).planted > g.start) = True) ∧ ((Y j > (g.palms.2 j).planted) = False)) := by
          by_cases hm : (g.palms.2 j).mother = -1
          · exact .inl ⟨eq_true hm,eq_true hm,eq_true hm⟩
          · by_cases hp2 : (g.palms.2 j).planted > g.start
            · exact .inr (.inr ⟨eq_false hm,eq_true hp2,eq_false fun h => hup ⟨⟨hm,hp2⟩,h⟩⟩)
            · exact .inr (.inl ⟨eq_false hm,eq_false hp2,eq_false hp2⟩)
        rcases cs with ⟨fm,fp,fY⟩ | ⟨fm,fp,fY⟩ | ⟨fm,fp,fY⟩
        all_goals
          simp only [sAt,fj,fm,fp,fY,w1,↓imp_tt,↓imp_tf,↓imp_ft,↓imp_ff,runO_4,runO_5,runO_6,runO_8,runO_14,runO_16,runO_17,runO_18,runO_19,aop,binV,reOk,Nat.zero_sub,ev,fget,fput,cellsOf,cellsN,isLB,vget,vset,vsets,vlen,bget,bset,addB,addN,mkv,sliceV,vtab,frz,opOwns,preFz,callFz,owns,skipOp,WfT,casts,castOks,cast1,castOk,norm,norm1,normL,pureB,pureL,onesB,specV,argsL,capsL,mkE_S,mkE_I,lkp,pickV,stkFr,stkNx,Val.toInt,Val.slen,Val.scell,↓reduceIte,reduceCtorEq,Nat.reduceEqDiff,Nat.reduceAdd,Nat.reduceSub,Nat.reduceLeDiff,Nat.zero_add,Nat.add_zero,Nat.sub_zero,Int.reduceNeg,decide_true,decide_false,bne_iff_ne,bne_eq_false_iff_eq,List.length_cons,List.length_nil,List.append_nil,Bool.and_self,Bool.bne_true,bne_self_eq_false,Bool.not_false,and_true,true_and,and_self,and_assoc,forall_const,implies_true,Nat.le_refl,decide_eq_true_eq,decide_eq_false_iff_not,ne_eq,not_false_eq_true,false_implies,not_true_eq_false,not_false_eq_true,maxLen,Nat.reducePow,keepF,appF,updB,inat,spec2,TSl,IsSl,TInt,IsInt,Prod.eta,Pm.c0,Pm.c1,Pm.c2,Pm.c3,Pm.c4,RPm,Pm.w_c,Pm.d,Pm.eta,toUI_val]
          repeat' (first | omega | (with_reducible apply And.intro) | intro _)
          refine inv_intro (j + 1,Y) ⟨by show j + 1 ≤ _; omega,hk⟩ (by show g.palms.1 - (j + 1) < _; omega) ?_
          simp only [Chk,chkFr,chkBx,chkBx1,newIn,hasB,idsLt,kept,vs_int,vs_nil,vs_own,vs_ptr,vs_cons,vs_view,Nat.lt_irrefl,fget,isLB,bget,vsubP_self,↓reduceIte,reduceCtorEq,Nat.reduceEqDiff,Nat.reduceLT,and_true,true_and,and_self,forall_const,implies_true,Option.some.injEq,Val.int.injEq,exists_eq',false_implies,or_false]
          rw [wrS (by omega)]
    · have fj : ((j : Int) < (g.palms.1 : Int)) = False := eq_false (by omega)
      obtain rfl : j = g.palms.1 := by omega
      simp only [fj,↓imp_ft,↓imp_ff,runO_5,runO_8,runO_9,runO_14,runO_16,runO_17,runO_18,runO_19,aop,binV,ev,fget,fput,bset,addB,addN,frz,opOwns,preFz,skipOp,WfT,popTo,stkFr,stkNx,↓reduceIte,reduceCtorEq,Nat.reduceEqDiff,Int.reduceNeg,decide_false,true_and,and_self,forall_const,keepF,appF,updB]
      refine inv_intro (r + 1,Y) ⟨by show r + 1 ≤ _; omega,hY.next hg hL⟩ (by show g.palms.1 + 1 - (r + 1) < _; omega) ?_
      simp only [Chk,chkFr,chkBx,chkBx1,newIn,hasB,idsLt,kept,vs_int,vs_nil,vs_own,vs_ptr,vs_cons,vs_view,fget,isLB,bget,vsubP_self,↓reduceIte,reduceCtorEq,Nat.reduceEqDiff,Nat.reduceLT,and_true,true_and,and_self,forall_const,implies_true,Option.some.injEq,Val.int.injEq,exists_eq',or_false]
      rw [wrS (by omega)]
  · have fr : ((r : Int) ≤ (g.palms.1 : Int)) = False := eq_false (by omega)
    have hXL := hR.last hL (by omega)
    simp only [fr,↓imp_ft,↓imp_ff,runO_5,runO_6,runO_9,runO_14,runO_15,runO_17,runO_18,runO_19,aop,binV,ev,fget,fput,isLB,vlen,bset,addB,addN,frz,opOwns,preFz,skipOp,WfT,pureB,onesB,popTo,stkFr,stkNx,↓reduceIte,reduceCtorEq,Nat.reduceEqDiff,Nat.reduceAdd,Nat.reduceLT,Nat.zero_add,Int.cast_ofNat_Int,Int.reduceNeg,decide_false,Bool.and_self,true_and,and_self,and_assoc,forall_const,keepF,appF,updB,inat]
    refine ⟨by omega,by omega,by omega,?_⟩
    -- the first days at first
    refine loopI (ι := Nat) (fun j => j ≤ g.palms.1) (fun j => g.palms.1 - j) [1,2,5,10] (fun j => [(11,.int .i64 j)]) (fun j => [(2,.row 3 1 g.palms.1 fun i _ => .int .i64 (if i < j then dy0 g X i else 0))]) 0 (by omega) (by simp only [Nat.not_lt_zero,Chk,chkFr,chkBx,chkBx1,newIn,hasB,idsLt,kept,vs_int,vs_nil,vs_own,vs_ptr,vs_cons,vs_view,fget,isLB,bget,bset,vp_int,vsubP_self,↓reduceIte,reduceCtorEq,Nat.reduceEqDiff,Nat.reduceLT,Int.cast_ofNat_Int,and_true,true_and,and_self,forall_const,implies_true,Option.some.injEq,exists_eq',or_false,keepF,appF,updB]; exact fun i hi b hb => by (obtain rfl : b = 0 := by omega); rfl) fun j hj => ?_
    by_cases hjl : j < g.palms.1
    · have fj : ((j : Int) < (g.palms.1 : Int)) = True := eq_true (by omega)
      have same : ∀ i,i ≠ j → (if i < j + 1 then dy0 g X i else 0) = if i < j then dy0 g X i else 0 := fun i h => by
        by_cases h1 : i < j
        · rw [if_pos (by omega),if_pos h1]
        · rw [if_neg (by omega),if_neg h1]
      have here : (if j < j + 1 then dy0 g X j else 0) = dy0 g X j := if_pos (by omega)
      by_cases hs : susP g (g.palms.2 j).id
      · have fs := decP_t hs
        by_cases hx : X j ≤ g.start
        · have fx := eq_true hx
          have ed : dy0 g X j = g.start := @if_pos _ (Classical.propDecidable _) ⟨hs,hx⟩ _ _ _
          simp only [sSus,fj,fs,fx,↓imp_tt,↓imp_tf,runO_4,runO_5,runO_6,runO_8,runO_14,runO_16,runO_17,runO_18,runO_19,aop,binV,reOk,Nat.zero_sub,ev,fget,fput,cellsOf,cellsN,isLB,vget,vlen,bget,bset,addB,addN,mkv,sliceV,vtab,frz,opOwns,preFz,owns,skipOp,WfT,casts,castOks,cast1,castOk,norm,norms,norm1,normL,pureB,pureL,onesB,specV,argsL,capsL,mkE_S,lkp,pickV,stkFr,stkNx,Val.toInt,Val.slen,Val.scell,↓reduceIte,reduceCtorEq,Nat.reduceEqDiff,Nat.reduceAdd,Nat.reduceLeDiff,Nat.zero_add,Nat.add_zero,Nat.sub_zero,decide_true,List.length_cons,List.length_nil,List.append_nil,Bool.and_self,bne_self_eq_false,and_true,true_and,and_self,and_assoc,forall_const,imp_self,implies_true,Nat.le_refl,keepF,appF,updB,inat,spec2,TInt,IsInt,RInt,Prod.eta,Pm.c0,Pm.c1,Pm.c2,Pm.c3,Pm.c4,RPm,Pm.w_c,Pm.d,Pm.eta,Pl.c0,Pl.c1,RPl,Pl.w_c,Pl.d,Pl.eta,Gv.L,Gv.Is,Gv.of,TGv,Gv.d,Gv.eta,toUI_val]
          repeat' (first | omega | (with_reducible apply And.intro) | intro _)
          refine inv_intro (j + 1) (by omega) (by omega) ?_
          simp only [Chk,chkFr,chkBx,chkBx1,newIn,hasB,idsLt,kept,vs_int,vs_nil,vs_own,vs_ptr,vs_cons,vs_view,fget,isLB,bget,vp_int,vsubP_self,↓reduceIte,reduceCtorEq,Nat.reduceEqDiff,Nat.reduceLT,and_true,true_and,and_self,forall_const,implies_true,Option.some.injEq,Val.int.injEq,exists_eq',or_false]
          rw [wrS (by omega)]
          refine ⟨rfl,fun i hi b hb => ?_⟩
          obtain rfl : b = 0 := by omega
          by_cases h5 : i = j
          · subst h5; rw [here,ed]; simp [vget]
          · rw [same i h5]; simp [h5]
        · have fx := eq_false hx
          have ed : dy0 g X j = 100001 := @if_neg _ (Classical.propDecidable _) (fun h => hx h.2) _ _ _
          simp only [sSus,fj,fs,fx,↓imp_tt,↓imp_tf,↓imp_ft,↓imp_ff,runO_4,runO_5,runO_6,runO_8,runO_14,runO_16,runO_17,runO_18,runO_19,aop,binV,reOk,Nat.zero_sub,ev,fget,fput,cellsOf,cellsN,isLB,vget,vlen,bget,bset,addB,addN,mkv,sliceV,vtab,frz,opOwns,preFz,owns,skipOp,WfT,casts,castOks,cast1,castOk,norm,norms,norm1,normL,pureB,pureL,onesB,specV,argsL,capsL,mkE_S,lkp,pickV,stkFr,stkNx,Val.toInt,Val.slen,Val.scell,↓reduceIte,reduceCtorEq,Nat.reduceEqDiff,Nat.reduceAdd,Nat.reduceLeDiff,Nat.zero_add,Nat.add_zero,Nat.sub_zero,decide_true,decide_false,List.length_cons,List.length_nil,List.append_nil,Bool.and_self,bne_self_eq_false,and_true,true_and,and_self,and_assoc,forall_const,imp_self,implies_true,Nat.le_refl,keepF,appF,updB,inat,spec2,TInt,IsInt,RInt,Prod.eta,Pm.c0,Pm.c1,Pm.c2,Pm.c3,Pm.c4,RPm,Pm.w_c,Pm.d,Pm.eta,Pl.c0,Pl.c1,RPl,Pl.w_c,Pl.d,Pl.eta,Gv.L,Gv.Is,Gv.of,TGv,Gv.d,Gv.eta,toUI_val]
          repeat' (first | omega | (with_reducible apply And.intro) | intro _)
          refine inv_intro (j + 1) (by omega) (by omega) ?_
          simp only [Chk,chkFr,chkBx,chkBx1,newIn,hasB,idsLt,kept,vs_int,vs_nil,vs_own,vs_ptr,vs_cons,vs_view,fget,isLB,bget,vp_int,vsubP_self,↓reduceIte,reduceCtorEq,Nat.reduceEqDiff,Nat.reduceLT,and_true,true_and,and_self,forall_const,implies_true,Option.some.injEq,Val.int.injEq,exists_eq',or_false]
          rw [wrS (by omega)]
          refine ⟨rfl,fun i hi b hb => ?_⟩
          obtain rfl : b = 0 := by omega
          by_cases h5 : i = j
          · subst h5; rw [here,ed]; simp [vget]
          · rw [same i h5]; simp [h5]
      · have fs := decP_f hs
        have ed : dy0 g X j = 100001 := @if_neg _ (Classical.propDecidable _) (fun h => hs h.1) _ _ _
        simp only [sSus,fj,fs,↓imp_tt,↓imp_tf,↓imp_ft,↓imp_ff,runO_4,runO_5,runO_6,runO_8,runO_14,runO_16,runO_17,runO_18,runO_19,aop,binV,reOk,Nat.zero_sub,ev,fget,fput,cellsOf,cellsN,isLB,vget,vlen,bget,bset,addB,addN,mkv,sliceV,vtab,frz,opOwns,preFz,owns,skipOp,WfT,casts,castOks,cast1,castOk,norm,norms,norm1,normL,pureB,pureL,onesB,specV,argsL,capsL,mkE_S,lkp,pickV,stkFr,stkNx,Val.toInt,Val.slen,Val.scell,↓reduceIte,reduceCtorEq,Nat.reduceEqDiff,Nat.reduceAdd,Nat.reduceSub,Nat.reduceLeDiff,Nat.zero_add,Nat.add_zero,Nat.sub_zero,decide_true,List.length_cons,List.length_nil,List.append_nil,Bool.and_self,Bool.bne_true,Bool.not_false,and_true,true_and,and_self,and_assoc,forall_const,imp_self,implies_true,Nat.le_refl,keepF,appF,updB,inat,spec2,TInt,IsInt,RInt,Prod.eta,Pm.c0,Pm.c1,Pm.c2,Pm.c3,Pm.c4,RPm,Pm.w_c,Pm.d,Pm.eta,Pl.c0,Pl.c1,RPl,Pl.w_c,Pl.d,Pl.eta,Gv.L,Gv.Is,Gv.of,TGv,Gv.d,Gv.eta,toUI_val]
        repeat' (first | omega | (with_reducible apply And.intro) | intro _)
        refine inv_intro (j + 1) (by omega) (by omega) ?_
        simp only [Chk,chkFr,chkBx,chkBx1,newIn,hasB,idsLt,kept,vs_int,vs_nil,vs_own,vs_ptr,vs_cons,vs_view,fget,isLB,bget,vp_int,vsubP_self,↓reduceIte,reduceCtorEq,Nat.reduceEqDiff,Nat.reduceLT,and_true,true_and,and_self,forall_const,implies_true,Option.some.injEq,Val.int.injEq,exists_eq',or_false]
        rw [wrS (by omega)]
        refine ⟨rfl,fun i hi b hb => ?_⟩
        obtain rfl : b = 0 := by omega
        by_cases h5 : i = j
        · subst h5; rw [here,ed]; simp [vget]
        · rw [same i h5]; simp [h5]
    · have fj : ((j : Int) < (g.palms.1 : Int)) = False := eq_false (by omega)
      obtain rfl : j = g.palms.1 := by omega
      simp only [fj,↓imp_ft,↓imp_ff,runO_5,runO_6,runO_9,runO_14,runO_15,runO_17,runO_18,runO_19,aop,binV,ev,fget,fput,bset,addB,addN,frz,opOwns,preFz,skipOp,WfT,popTo,stkFr,stkNx,↓reduceIte,Nat.reduceEqDiff,decide_false,true_and,and_self,forall_const,keepF,appF,updB]
      -- the rounds of the first days
      refine loopI (ι := Bool × (Nat → Int)) (fun p => Dn g X p.2 ∧ (p.1 = false → ∀ i k,i < g.palms.1 → k < g.palms.1 → Pok g X p.2 i k)) (fun p => 2 * muF p.2 g.palms.1 + p.1.toNat) [1,2,5,10] (fun p => [(12,.bool p.1)]) (fun p => [(2,.row 3 1 g.palms.1 fun i _ => .int .i64 (p.2 i))]) (true,dy0 g X) ⟨dy0_ok hg,fun h => absurd h.symm Bool.false_ne_true⟩ (by
        simp only [Chk,chkFr,chkBx,chkBx1,newIn,hasB,idsLt,kept,vs_int,vs_bool,vs_nil,vs_own,vs_ptr,vs_cons,vs_view,fget,isLB,bget,bset,vp_int,vsubP_self,↓reduceIte,reduceCtorEq,Nat.reduceEqDiff,Nat.reduceLT,and_true,true_and,and_self,forall_const,implies_true,Option.some.injEq,Val.int.injEq,exists_eq',or_false,keepF,appF,updB]
        exact fun i hi b hb => if_pos hi) fun p hp => ?_
      obtain ⟨c,D⟩ := p
      obtain ⟨hD,hc⟩ := hp
      simp only at hD hc
      cases c
      · simp only [↓imp_ft,↓imp_ff,runO_3,runO_5,runO_9,runO_14,runO_17,runO_18,runO_19,aop,ends,ev,fget,fput,bget,bset,addB,addN,frz,opOwns,preFz,skipOp,WfT,resV,res1,snapV,snapOk,popTo,stkFr,stkNx,vp_int,vp_view,↓reduceIte,Nat.reduceEqDiff,true_and,forall_const,Val.int.injEq,keepF,appF,updB]
        have hfirst : First g L D := (hD.first (hc rfl)).ext hXL
        have e := daysF_eq (n0 := b.2) ⟨L,hL,hfirst⟩
        refine ⟨fun i hi b hb => ?_,2,rfl,1,g.palms.1,_,rfl,_,rfl,fun i hi b hb => ⟨?_,rfl⟩⟩
        · rw [e i hi]
        · rw [e i hi]
      · simp only [↓imp_tt,↓imp_tf,runO_4,runO_5,runO_6,runO_14,runO_15,runO_17,runO_18,runO_19,aop,ev,fget,fput,bset,addB,addN,frz,opOwns,preFz,skipOp,WfT,stkFr,stkNx,↓reduceIte,Nat.reduceEqDiff,and_true,true_and,forall_const,keepF,appF,updB]
        clear hc
        obtain ⟨D0,hD0⟩ : ∃ D0,D0 = D := ⟨_,rfl⟩
        refine loopI (ι := Nat × Bool × (Nat → Int)) (fun p => p.1 ≤ g.palms.1 ∧ Dn g X p.2.2 ∧ muF p.2.2 g.palms.1 ≤ muF D0 g.palms.1 ∧ (p.2.1 = true → muF p.2.2 g.palms.1 < muF D0 g.palms.1) ∧ (p.2.1 = false → ∀ i k,i < p.1 → k < g.palms.1 → Pok g X p.2.2 i k)) (fun p => g.palms.1 - p.1) [1,2,5,10] (fun p => [(12,.bool p.2.1),(13,.int .i64 p.1)]) (fun p => [(2,.row 3 1 g.palms.1 fun i _ => .int .i64 (p.2.2 i))]) (0,false,D) ⟨by omega,hD,by rw [hD0]; exact Nat.le_refl _,fun h => absurd h Bool.false_ne_true,fun _ i k h => absurd h (Nat.not_lt_zero _)⟩ (by simp only [Chk,chkFr,chkBx,chkBx1,newIn,hasB,idsLt,kept,vs_int,vs_bool,vs_nil,vs_own,vs_ptr,vs_cons,vs_view,fget,isLB,bget,bset,vsubP_self,↓reduceIte,reduceCtorEq,Nat.reduceEqDiff,Nat.reduceLT,Int.cast_ofNat_Int,and_true,and_self,forall_const,implies_true,Option.some.injEq,exists_eq',or_false,keepF,appF,updB]; try rfl) fun p hp => ?_
        clear hD
        obtain ⟨j,c,D⟩ := p
        obtain ⟨hj1,hD,hm1,hm2,hm3⟩ := hp
        simp only at hj1 hD hm1 hm2 hm3
        by_cases hjl : j < g.palms.1
        · have fj : ((j : Int) < (g.palms.1 : Int)) = True := eq_true (by omega)
          simp only [fj,↓imp_tt,↓imp_tf,runO_4,runO_5,runO_6,runO_14,runO_15,runO_17,runO_18,runO_19,aop,binV,ev,fget,fput,bset,addB,addN,frz,opOwns,preFz,skipOp,WfT,stkFr,stkNx,↓reduceIte,Nat.reduceEqDiff,decide_true,and_true,true_and,and_self,forall_const,keepF,appF,updB]
          refine loopI (ι := Nat × Bool × (Nat → Int)) (fun p => p.1 ≤ g.palms.1 ∧ Dn g X p.2.2 ∧ muF p.2.2 g.palms.1 ≤ muF D0 g.palms.1 ∧ (p.2.1 = true → muF p.2.2 g.palms.1 < muF D0 g.palms.1) ∧ (p.2.1 = false → (∀ i k,i < j → k < g.palms.1 → Pok g X p.2.2 i k) ∧ ∀ k,k < p.1 → Pok g X p.2.2 j k)) (fun p => g.palms.1 - p.1) [1,2,5,10,13] (fun p => [(12,.bool p.2.1),(14,.int .i64 p.1)]) (fun p => [(2,.row 3 1 g.palms.1 fun i _ => .int .i64 (p.2.2 i))]) (0,c,D) ⟨by omega,hD,hm1,hm2,fun h => ⟨hm3 h,fun k h => absurd h (Nat.not_lt_zero _)⟩⟩ (by simp only [Chk,chkFr,chkBx,chkBx1,newIn,hasB,idsLt,kept,vs_int,vs_bool,vs_nil,vs_own,vs_ptr,vs_cons,vs_view,fget,isLB,bget,bset,vsubP_self,↓reduceIte,reduceCtorEq,Nat.reduceEqDiff,Nat.reduceLT,Int.cast_ofNat_Int,and_true,and_self,forall_const,implies_true,Option.some.injEq,exists_eq',or_false,keepF,appF,updB]; try rfl) fun p hp => ?_
          clear hD hm1 hm2 hm3
          obtain ⟨z,c,D⟩ := p
          obtain ⟨hz1,hD,hm1,hm2,hm3⟩ := hp
          simp only at hz1 hD hm1 hm2 hm3
          by_cases hzl : z < g.palms.1
          · have fz : ((z : Int) < (g.palms.1 : Int)) = True := eq_true (by omega)
            have next : c = false → Pok g X D j z → ∀ k,k < z + 1 → Pok g X D j k := fun h hp k hk => by
              rcases Nat.lt_or_ge k z with h5 | h5
              · exact (hm3 h).2 k h5
              · obtain rfl : k = z := by omega
                exact hp
            have hpl := hg.pms.pl j hjl
            have hlz := hD.lo z hzl
            have htz := hD.top z hzl
            by_cases hk : D z < 100001
            · have fk : (D z ≥ 100001) = False := eq_false (by omega)
              have e1 : IntKind.i64.wrap (D z + g.hatch) = D z + g.hatch := wr64 (by omega) (by omega)
              have hmu : tryF g X j z (D z) < D j → fromP g j (tryF g X j z (D z)) z (D z) → muF (fun q => if q = j then tryF g X j z (D z) else D q) g.palms.1 < muF D0 g.palms.1 := fun hlt hfr => by
                have h1 := muF_lt (D := D) (D' := fun q => if q = j then tryF g X j z (D z) else D q) (n := g.palms.1) (i := j) (fun q _ => by
                  show (if q = j then tryF g X j z (D z) else D q) ≤ D q
                  by_cases e : q = j
                  · subst e; rw [if_pos rfl]; omega
                  · rw [if_neg e]; omega) hjl (by
                  have := (hD.step hg hjl hzl hk hlt hfr).lo j hjl
                  show 0 ≤ (if j = j then tryF g X j z (D z) else D j)
                  simp only [if_true] at this ⊢
                  omega) (by show (if j = j then tryF g X j z (D z) else D j) < D j; rw [if_pos rfl]; exact hlt)
                omega
              by_cases hgi : giftP g X j z (D z)
              · have ht : tryF g X j z (D z) = (g.palms.2 j).planted := @if_pos _ (Classical.propDecidable _) hgi _ _ _
                have f1 := eq_true hgi.1
                have f2 := eq_true hgi.2.1
                have f3 := eq_true hgi.2.2.1
                have f4 := eq_true hgi.2.2.2
                have e2 := e1
                by_cases hlt : tryF g X j z (D z) < D j
                · by_cases hfr : fromP g j (tryF g X j z (D z)) z (D z)
                  · replace hmu := hmu hlt hfr
                    have fl := eq_true hlt
                    have ff := decP_t hfr
                    rw [ht] at fl ff
                    simp only [sFrom,fj,fk,fz,f1,f2,f3,f4,e1,fl,ff,hg,w1,↓imp_tt,↓imp_tf,↓imp_ft,↓imp_ff,runO_4,runO_5,runO_6,runO_8,runO_14,runO_16,runO_17,runO_18,runO_19,aop,binV,reOk,Nat.zero_sub,ev,fget,fput,cellsOf,cellsN,isLB,vget,vset,vsets,vlen,bget,bset,addB,addN,mkv,sliceV,vtab,frz,opOwns,preFz,callFz,owns,skipOp,WfT,casts,castOks,cast1,castOk,norm,norms,norm1,normL,pureB,pureL,onesB,specV,argsL,capsL,mkE_S,mkE_I,lkp,pickV,stkFr,stkNx,Val.toInt,Val.slen,Val.scell,↓reduceIte,reduceCtorEq,Nat.reduceEqDiff,Nat.reduceAdd,Nat.reduceSub,Nat.reduceLeDiff,Nat.zero_add,Nat.add_zero,Nat.sub_zero,decide_true,decide_false,beq_iff_eq,beq_eq_false_iff_ne,List.length_cons,List.length_nil,List.append_nil,Bool.and_self,Bool.bne_true,bne_self_eq_false,Bool.not_false,and_true,true_and,and_self,and_assoc,forall_const,imp_self,implies_true,Nat.le_refl,decide_eq_true_eq,decide_eq_false_iff_not,ne_eq,false_implies,not_true_eq_false,maxLen,Nat.reducePow,keepF,appF,updB,inat,spec5,TInt,IsInt,RInt,Prod.eta,Pm.c0,Pm.c1,Pm.c2,Pm.c3,Pm.c4,RPm,Pm.w_c,Pm.d,Pm.eta,Pl.c0,Pl.c1,RPl,Pl.w_c,Pl.d,Pl.eta,Gv.L,Gv.Is,Gv.of,TGv,Gv.d,Gv.eta,toUI_val]
                    repeat' (first | omega | (with_reducible apply And.intro) | intro _)
                    refine inv_intro (z + 1,true,fun q => if q = j then tryF g X j z (D z) else D q) ⟨by show z + 1 ≤ _; omega,hD.step hg hjl hzl hk hlt hfr,?_,fun _ => ?_,fun h => absurd h.symm Bool.false_ne_true⟩ (by show g.palms.1 - (z + 1) < _; omega) ?_
                    · exact Nat.le_of_lt hmu
                    · exact hmu
                    · simp only [Chk,chkFr,chkBx,chkBx1,newIn,hasB,idsLt,kept,vs_int,vs_bool,vs_nil,vs_own,vs_ptr,vs_cons,vs_view,Nat.lt_irrefl,fget,isLB,bget,vp_int,vsubP_self,↓reduceIte,reduceCtorEq,Nat.reduceEqDiff,Nat.reduceLT,and_true,true_and,and_self,forall_const,implies_true,Option.some.injEq,Val.int.injEq,exists_eq',false_implies,or_false]
                      rw [wrS (by omega)]
                      refine ⟨rfl,fun i hi b hb => ?_⟩
                      obtain rfl : b = 0 := by omega
                      rw [ht]
                      by_cases h5 : i = j
                      · subst h5; simp [vget]
                      · simp [h5]
                  · have hno : Pok g X D j z := Pok.of hg hjl hzl fun h => hfr h.2
                    have fl := eq_true hlt
                    have ff := decP_f hfr
                    rw [ht] at fl ff
                    simp only [sFrom,fj,fk,fz,f1,f2,f3,f4,e1,fl,ff,hg,w1,↓imp_tt,↓imp_tf,↓imp_ft,↓imp_ff,runO_4,runO_5,runO_6,runO_8,runO_14,runO_16,runO_17,runO_18,runO_19,aop,binV,reOk,Nat.zero_sub,ev,fget,fput,cellsOf,cellsN,isLB,vget,vset,vsets,vlen,bget,bset,addB,addN,mkv,sliceV,vtab,frz,opOwns,preFz,callFz,owns,skipOp,WfT,casts,castOks,cast1,castOk,norm,norms,norm1,normL,pureB,pureL,onesB,specV,argsL,capsL,mkE_S,mkE_I,lkp,pickV,stkFr,stkNx,Val.toInt,Val.slen,Val.scell,↓reduceIte,reduceCtorEq,Nat.reduceEqDiff,Nat.reduceAdd,Nat.reduceSub,Nat.reduceLeDiff,Nat.zero_add,Nat.add_zero,Nat.sub_zero,decide_true,decide_false,beq_iff_eq,beq_eq_false_iff_ne,List.length_cons,List.length_nil,List.append_nil,Bool.and_self,Bool.bne_true,bne_self_eq_false,Bool.not_false,and_true,true_and,and_self,and_assoc,forall_const,imp_self,implies_true,Nat.le_refl,decide_eq_true_eq,decide_eq_false_iff_not,ne_eq,false_implies,not_true_eq_false,maxLen,Nat.reducePow,keepF,appF,updB,inat,spec5,TInt,IsInt,RInt,Prod.eta,Pm.c0,Pm.c1,Pm.c2,Pm.c3,Pm.c4,RPm,Pm.w_c,Pm.d,Pm.eta,Pl.c0,Pl.c1,RPl,Pl.w_c,Pl.d,Pl.eta,Gv.L,Gv.Is,Gv.of,TGv,Gv.d,Gv.eta,toUI_val]
                    repeat' (first | omega | (with_reducible apply And.intro) | intro _)
                    refine inv_intro (z + 1,c,D) ⟨by show z + 1 ≤ _; omega,hD,hm1,hm2,fun h => ⟨(hm3 h).1,next h hno⟩⟩ (by show g.palms.1 - (z + 1) < _; omega) ?_
                    simp only [Chk,chkFr,chkBx,chkBx1,newIn,hasB,idsLt,kept,vs_int,vs_bool,vs_nil,vs_own,vs_ptr,vs_cons,vs_view,Nat.lt_irrefl,fget,isLB,bget,vsubP_self,↓reduceIte,reduceCtorEq,Nat.reduceEqDiff,Nat.reduceLT,and_true,true_and,and_self,forall_const,implies_true,Option.some.injEq,Val.int.injEq,exists_eq',false_implies,or_false]
                    rw [wrS (by omega)]
                · have hno : Pok g X D j z := Pok.of hg hjl hzl fun h => hlt h.1
                  have fl := eq_false hlt
                  have ff := e1
                  rw [ht] at fl
                  simp only [sFrom,fj,fk,fz,f1,f2,f3,f4,e1,fl,hg,w1,↓imp_tt,↓imp_tf,↓imp_ft,↓imp_ff,runO_4,runO_5,runO_6,runO_8,runO_14,runO_16,runO_17,runO_18,runO_19,aop,binV,reOk,Nat.zero_sub,ev,fget,fput,cellsOf,cellsN,isLB,vget,vset,vsets,vlen,bget,bset,addB,addN,mkv,sliceV,vtab,frz,opOwns,preFz,callFz,owns,skipOp,WfT,casts,castOks,cast1,castOk,norm,norms,norm1,normL,pureB,pureL,onesB,specV,argsL,capsL,mkE_S,mkE_I,lkp,pickV,stkFr,stkNx,Val.toInt,Val.slen,Val.scell,↓reduceIte,reduceCtorEq,Nat.reduceEqDiff,Nat.reduceAdd,Nat.reduceSub,Nat.reduceLeDiff,Nat.zero_add,Nat.add_zero,Nat.sub_zero,decide_true,decide_false,beq_iff_eq,beq_eq_false_iff_ne,List.length_cons,List.length_nil,List.append_nil,Bool.and_self,Bool.bne_true,bne_self_eq_false,Bool.not_false,and_true,true_and,and_self,and_assoc,forall_const,imp_self,implies_true,Nat.le_refl,decide_eq_true_eq,decide_eq_false_iff_not,ne_eq,false_implies,not_true_eq_false,maxLen,Nat.reducePow,keepF,appF,updB,inat,spec5,TInt,IsInt,RInt,Prod.eta,Pm.c0,Pm.c1,Pm.c2,Pm.c3,Pm.c4,RPm,Pm.w_c,Pm.d,Pm.eta,Pl.c0,Pl.c1,RPl,Pl.w_c,Pl.d,Pl.eta,Gv.L,Gv.Is,Gv.of,TGv,Gv.d,Gv.eta,toUI_val]
                  repeat' (first | omega | (with_reducible apply And.intro) | intro _)
                  refine inv_intro (z + 1,c,D) ⟨by show z + 1 ≤ _; omega,hD,hm1,hm2,fun h => ⟨(hm3 h).1,next h hno⟩⟩ (by show g.palms.1 - (z + 1) < _; omega) ?_
                  simp only [Chk,chkFr,chkBx,chkBx1,newIn,hasB,idsLt,kept,vs_int,vs_bool,vs_nil,vs_own,vs_ptr,vs_cons,vs_view,Nat.lt_irrefl,fget,isLB,bget,vsubP_self,↓reduceIte,reduceCtorEq,Nat.reduceEqDiff,Nat.reduceLT,and_true,true_and,and_self,forall_const,implies_true,Option.some.injEq,Val.int.injEq,exists_eq',false_implies,or_false]
                  rw [wrS (by omega)]
              · have ht : tryF g X j z (D z) = max (max (D z + g.hatch) (g.palms.2 j).planted) (X j) := @if_neg _ (Classical.propDecidable _) hgi _ _ _
                obtain ⟨dd,e2⟩ : ∃ dd,max (max (D z + g.hatch) (g.palms.2 j).planted) (X j) = dd := ⟨_,rfl⟩
                rw [e2] at ht
                have cs : ((((g.palms.2 j).mother = (g.palms.2 z).id) = False) ∧ (((g.palms.2 j).mother = (g.palms.2 z).id) = False) ∧ (((g.palms.2 j).mother = (g.palms.2 z).id) = False) ∧ (((g.palms.2 j).mother = (g.palms.2 z).id) = False)) ∨ ((((g.palms.2 j).mother = (g.palms.2 z).id) = True) ∧ (((g.palms.2 j).planted > g.start) = False) ∧ (((g.palms.2 j).planted > g.start) = False) ∧ (((g.palms.2 j).planted > g.start) = False)) ∨ ((((g.palms.2 j).mother = (g.palms.2 z).id) = True) ∧ (((g.palms.2 j).planted > g.start) = True) ∧ ((D z ≤ (g.palms.2 j).planted) = False) ∧ ((D z ≤ (g.palms.2 j).planted) = False)) ∨ ((((g.palms.2 j).mother = (g.palms.2 z).id) = True) ∧ (((g.palms.2 j).planted > g.start) = True) ∧ ((D z ≤ (g.palms.2 j).planted) = True) ∧ ((X j ≤ (g.palms.2 j).planted) = False)) := by
                  by_cases g1 : (g.palms.2 j).mother = (g.palms.2 z).id
                  · by_cases g2 : (g.palms.2 j).planted > g.start
                    · by_cases g3 : D z ≤ (g.palms.2 j).planted
                      · exact .inr (.inr (.inr ⟨eq_true g1,eq_true g2,eq_true g3,eq_false fun g4 => hgi ⟨g1,g2,g3,g4⟩⟩))
                      · exact .inr (.inr (.inl ⟨eq_true g1,eq_true g2,eq_false g3,eq_false g3⟩))
                    · exact .inr (.inl ⟨eq_true g1,eq_false g2,eq_false g2,eq_false g2⟩)
                  · exact .inl ⟨eq_false g1,eq_false g1,eq_false g1,eq_false g1⟩
                by_cases hlt : tryF g X j z (D z) < D j
                · by_cases hfr : fromP g j (tryF g X j z (D z)) z (D z)
                  · replace hmu := hmu hlt hfr
                    have fl := eq_true hlt
                    have ff := decP_t hfr
                    rw [ht] at fl ff
                    rcases cs with ⟨f1,f2,f3,f4⟩ | ⟨f1,f2,f3,f4⟩ | ⟨f1,f2,f3,f4⟩ | ⟨f1,f2,f3,f4⟩
                    all_goals
                      simp only [sFrom,fj,fk,fz,f1,f2,f3,f4,e1,e2,fl,ff,hg,w1,↓imp_tt,↓imp_tf,↓imp_ft,↓imp_ff,runO_4,runO_5,runO_6,runO_8,runO_14,runO_16,runO_17,runO_18,runO_19,aop,binV,reOk,Nat.zero_sub,ev,fget,fput,cellsOf,cellsN,isLB,vget,vset,vsets,vlen,bget,bset,addB,addN,mkv,sliceV,vtab,frz,opOwns,preFz,callFz,owns,skipOp,WfT,casts,castOks,cast1,castOk,norm,norms,norm1,normL,pureB,pureL,onesB,specV,argsL,capsL,mkE_S,mkE_I,lkp,pickV,stkFr,stkNx,Val.toInt,Val.slen,Val.scell,↓reduceIte,reduceCtorEq,Nat.reduceEqDiff,Nat.reduceAdd,Nat.reduceSub,Nat.reduceLeDiff,Nat.zero_add,Nat.add_zero,Nat.sub_zero,decide_true,decide_false,beq_iff_eq,beq_eq_false_iff_ne,List.length_cons,List.length_nil,List.append_nil,Bool.and_self,Bool.bne_true,bne_self_eq_false,Bool.not_false,and_true,true_and,and_self,and_assoc,forall_const,imp_self,implies_true,Nat.le_refl,decide_eq_true_eq,decide_eq_false_iff_not,ne_eq,not_false_eq_true,false_implies,not_true_eq_false,not_false_eq_true,maxLen,Nat.reducePow,keepF,appF,updB,inat,spec5,TInt,IsInt,RInt,Prod.eta,Pm.c0,Pm.c1,Pm.c2,Pm.c3,Pm.c4,RPm,Pm.w_c,Pm.d,Pm.eta,Pl.c0,Pl.c1,RPl,Pl.w_c,Pl.d,Pl.eta,Gv.L,Gv.Is,Gv.of,TGv,Gv.d,Gv.eta,toUI_val]
                      repeat' (first | omega | (with_reducible apply And.intro) | intro _)
                      refine inv_intro (z + 1,true,fun q => if q = j then tryF g X j z (D z) else D q) ⟨by show z + 1 ≤ _; omega,hD.step hg hjl hzl hk hlt hfr,?_,fun _ => ?_,fun h => absurd h.symm Bool.false_ne_true⟩ (by show g.palms.1 - (z + 1) < _; omega) ?_
                      · exact Nat.le_of_lt hmu
                      · exact hmu
                      · simp only [Chk,chkFr,chkBx,chkBx1,newIn,hasB,idsLt,kept,vs_int,vs_bool,vs_nil,vs_own,vs_ptr,vs_cons,vs_view,Nat.lt_irrefl,fget,isLB,bget,vp_int,vsubP_self,↓reduceIte,reduceCtorEq,Nat.reduceEqDiff,Nat.reduceLT,and_true,true_and,and_self,forall_const,implies_true,Option.some.injEq,Val.int.injEq,exists_eq',false_implies,or_false]
                        rw [wrS (by omega)]
                        refine ⟨rfl,fun i hi b hb => ?_⟩
                        obtain rfl : b = 0 := by omega
                        rw [ht]
                        by_cases h5 : i = j
                        · subst h5; simp [vget]
                        · simp [h5]
                  · have hno : Pok g X D j z := Pok.of hg hjl hzl fun h => hfr h.2
                    have fl := eq_true hlt
                    have ff := decP_f hfr
                    rw [ht] at fl ff
                    rcases cs with ⟨f1,f2,f3,f4⟩ | ⟨f1,f2,f3,f4⟩ | ⟨f1,f2,f3,f4⟩ | ⟨f1,f2,f3,f4⟩
                    all_goals
                      simp only [sFrom,fj,fk,fz,f1,f2,f3,f4,e1,e2,fl,ff,hg,w1,↓imp_tt,↓imp_tf,↓imp_ft,↓imp_ff,runO_4,runO_5,runO_6,runO_8,runO_14,runO_16,runO_17,runO_18,runO_19,aop,binV,reOk,Nat.zero_sub,ev,fget,fput,cellsOf,cellsN,isLB,vget,vset,vsets,vlen,bget,bset,addB,addN,mkv,sliceV,vtab,frz,opOwns,preFz,callFz,owns,skipOp,WfT,casts,castOks,cast1,castOk,norm,norms,norm1,normL,pureB,pureL,onesB,specV,argsL,capsL,mkE_S,mkE_I,lkp,pickV,stkFr,stkNx,Val.toInt,Val.slen,Val.scell,↓reduceIte,reduceCtorEq,Nat.reduceEqDiff,Nat.reduceAdd,Nat.reduceSub,Nat.reduceLeDiff,Nat.zero_add,Nat.add_zero,Nat.sub_zero,decide_true,decide_false,beq_iff_eq,beq_eq_false_iff_ne,List.length_cons,List.length_nil,List.append_nil,Bool.and_self,Bool.bne_true,bne_self_eq_false,Bool.not_false,and_true,true_and,and_self,and_assoc,forall_const,imp_self,implies_true,Nat.le_refl,decide_eq_true_eq,decide_eq_false_iff_not,ne_eq,not_false_eq_true,false_implies,not_true_eq_false,not_false_eq_true,maxLen,Nat.reducePow,keepF,appF,updB,inat,spec5,TInt,IsInt,RInt,Prod.eta,Pm.c0,Pm.c1,Pm.c2,Pm.c3,Pm.c4,RPm,Pm.w_c,Pm.d,Pm.eta,Pl.c0,Pl.c1,RPl,Pl.w_c,Pl.d,Pl.eta,Gv.L,Gv.Is,Gv.of,TGv,Gv.d,Gv.eta,toUI_val]
                      repeat' (first | omega | (with_reducible apply And.intro) | intro _)
                      refine inv_intro (z + 1,c,D) ⟨by show z + 1 ≤ _; omega,hD,hm1,hm2,fun h => ⟨(hm3 h).1,next h hno⟩⟩ (by show g.palms.1 - (z + 1) < _; omega) ?_
                      simp only [Chk,chkFr,chkBx,chkBx1,newIn,hasB,idsLt,kept,vs_int,vs_bool,vs_nil,vs_own,vs_ptr,vs_cons,vs_view,Nat.lt_irrefl,fget,isLB,bget,vsubP_self,↓reduceIte,reduceCtorEq,Nat.reduceEqDiff,Nat.reduceLT,and_true,true_and,and_self,forall_const,implies_true,Option.some.injEq,Val.int.injEq,exists_eq',false_implies,or_false]
                      rw [wrS (by omega)]
                · have hno : Pok g X D j z := Pok.of hg hjl hzl fun h => hlt h.1
                  have fl := eq_false hlt
                  have ff := e1
                  rw [ht] at fl
                  rcases cs with ⟨f1,f2,f3,f4⟩ | ⟨f1,f2,f3,f4⟩ | ⟨f1,f2,f3,f4⟩ | ⟨f1,f2,f3,f4⟩
                  all_goals
                    simp only [sFrom,fj,fk,fz,f1,f2,f3,f4,e1,e2,fl,hg,w1,↓imp_tt,↓imp_tf,↓imp_ft,↓imp_ff,runO_4,runO_5,runO_6,runO_8,runO_14,runO_16,runO_17,runO_18,runO_19,aop,binV,reOk,Nat.zero_sub,ev,fget,fput,cellsOf,cellsN,isLB,vget,vset,vsets,vlen,bget,bset,addB,addN,mkv,sliceV,vtab,frz,opOwns,preFz,callFz,owns,skipOp,WfT,casts,castOks,cast1,castOk,norm,norms,norm1,normL,pureB,pureL,onesB,specV,argsL,capsL,mkE_S,mkE_I,lkp,pickV,stkFr,stkNx,Val.toInt,Val.slen,Val.scell,↓reduceIte,reduceCtorEq,Nat.reduceEqDiff,Nat.reduceAdd,Nat.reduceSub,Nat.reduceLeDiff,Nat.zero_add,Nat.add_zero,Nat.sub_zero,decide_true,decide_false,beq_iff_eq,beq_eq_false_iff_ne,List.length_cons,List.length_nil,List.append_nil,Bool.and_self,Bool.bne_true,bne_self_eq_false,Bool.not_false,and_true,true_and,and_self,and_assoc,forall_const,imp_self,implies_true,Nat.le_refl,decide_eq_true_eq,decide_eq_false_iff_not,ne_eq,not_false_eq_true,false_implies,not_true_eq_false,not_false_eq_true,maxLen,Nat.reducePow,keepF,appF,updB,inat,spec5,TInt,IsInt,RInt,Prod.eta,Pm.c0,Pm.c1,Pm.c2,Pm.c3,Pm.c4,RPm,Pm.w_c,Pm.d,Pm.eta,Pl.c0,Pl.c1,RPl,Pl.w_c,Pl.d,Pl.eta,Gv.L,Gv.Is,Gv.of,TGv,Gv.d,Gv.eta,toUI_val]
                    repeat' (first | omega | (with_reducible apply And.intro) | intro _)
                    refine inv_intro (z + 1,c,D) ⟨by show z + 1 ≤ _; omega,hD,hm1,hm2,fun h => ⟨(hm3 h).1,next h hno⟩⟩ (by show g.palms.1 - (z + 1) < _; omega) ?_
                    simp only [Chk,chkFr,chkBx,chkBx1,newIn,hasB,idsLt,kept,vs_int,vs_bool,vs_nil,vs_own,vs_ptr,vs_cons,vs_view,Nat.lt_irrefl,fget,isLB,bget,vsubP_self,↓reduceIte,reduceCtorEq,Nat.reduceEqDiff,Nat.reduceLT,and_true,true_and,and_self,forall_const,implies_true,Option.some.injEq,Val.int.injEq,exists_eq',false_implies,or_false]
                    rw [wrS (by omega)]
            · have fk : (D z ≥ 100001) = True := eq_true (by omega)
              have hno : Pok g X D j z := Pok.no hk
              simp only [fk,fz,↓imp_tt,↓imp_tf,runO_4,runO_5,runO_6,runO_9,runO_14,runO_16,runO_17,runO_18,runO_19,aop,binV,ev,fget,fput,vget,bget,bset,addB,addN,mkv,frz,opOwns,preFz,skipOp,WfT,casts,castOks,cast1,castOk,popTo,stkFr,stkNx,Val.toInt,↓reduceIte,Nat.reduceEqDiff,Nat.zero_add,decide_true,List.length_cons,List.length_nil,and_true,true_and,and_self,forall_const,Nat.le_refl,keepF,appF,updB,inat]
              repeat' (first | omega | (with_reducible apply And.intro) | intro _)
              refine inv_intro (z + 1,c,D) ⟨by show z + 1 ≤ _; omega,hD,hm1,hm2,fun h => ⟨(hm3 h).1,next h hno⟩⟩ (by show g.palms.1 - (z + 1) < _; omega) ?_
              simp only [Chk,chkFr,chkBx,chkBx1,newIn,hasB,idsLt,kept,vs_int,vs_bool,vs_nil,vs_own,vs_ptr,vs_cons,vs_view,fget,isLB,bget,vsubP_self,↓reduceIte,reduceCtorEq,Nat.reduceEqDiff,Nat.reduceLT,and_true,true_and,and_self,forall_const,implies_true,Option.some.injEq,Val.int.injEq,exists_eq',or_false]
              rw [wrS (by omega)]
          · have fz : ((z : Int) < (g.palms.1 : Int)) = False := eq_false (by omega)
            obtain rfl : z = g.palms.1 := by omega
            simp only [fz,↓imp_ft,↓imp_ff,runO_5,runO_8,runO_9,runO_14,runO_16,runO_17,runO_18,runO_19,aop,binV,ev,fget,fput,bset,addB,addN,frz,opOwns,preFz,skipOp,WfT,popTo,stkFr,stkNx,↓reduceIte,Nat.reduceEqDiff,decide_false,true_and,and_self,forall_const,keepF,appF,updB]
            refine inv_intro (j + 1,c,D) ⟨by show j + 1 ≤ _; omega,hD,hm1,hm2,fun h i k hi hk => ?_⟩ (by show g.palms.1 - (j + 1) < _; omega) ?_
            · rcases Nat.lt_or_ge i j with h5 | h5
              · exact (hm3 h).1 i k h5 hk
              · obtain rfl : i = j := by omega
                exact (hm3 h).2 k hk
            · simp only [Chk,chkFr,chkBx,chkBx1,newIn,hasB,idsLt,kept,vs_int,vs_bool,vs_nil,vs_own,vs_ptr,vs_cons,vs_view,fget,isLB,bget,vsubP_self,↓reduceIte,reduceCtorEq,Nat.reduceEqDiff,Nat.reduceLT,and_true,true_and,and_self,forall_const,implies_true,Option.some.injEq,Val.int.injEq,exists_eq',or_false]
              rw [wrS (by omega)]
        · have fj : ((j : Int) < (g.palms.1 : Int)) = False := eq_false (by omega)
          obtain rfl : j = g.palms.1 := by omega
          simp only [fj,↓imp_ft,↓imp_ff,runO_5,runO_8,runO_9,runO_14,runO_16,runO_17,runO_18,runO_19,aop,binV,ev,fget,fput,bset,addB,addN,frz,opOwns,preFz,skipOp,WfT,popTo,stkFr,stkNx,↓reduceIte,Nat.reduceEqDiff,decide_false,true_and,and_self,forall_const,keepF,appF,updB]
          refine inv_intro (c,D) ⟨hD,fun h i k hi hk => hm3 h i k hi hk⟩ ?_ ?_
          · show 2 * muF D g.palms.1 + c.toNat < 2 * muF _ g.palms.1 + 1
            rw [← hD0]
            cases c
            · show 2 * _ + 0 < _; omega
            · have := hm2 rfl; show 2 * _ + 1 < _; omega
          · simp only [Chk,chkFr,chkBx,chkBx1,newIn,hasB,idsLt,kept,vs_int,vs_bool,vs_nil,vs_own,vs_ptr,vs_cons,vs_view,fget,isLB,bget,vsubP_self,↓reduceIte,reduceCtorEq,Nat.reduceEqDiff,Nat.reduceLT,and_true,and_self,forall_const,implies_true,Option.some.injEq,exists_eq',or_false]
            try rfl
end Go.Proofs.Ytpknbojgkkmonaa
