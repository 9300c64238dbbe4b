/- Groves, the program: Ill, Gifts. No condition. -/
import Derived.Test.YtpknbojgkkmonaaWSoo
set_option linter.unusedSimpArgs false
set_option linter.unusedVariables false
namespace Go.Proofs.Ytpknbojgkkmonaa
open Go Go.RowKit
variable {G : Nat → Option (Nat × (Nat → Val))}
noncomputable def bmpF (g : Gv) (l : Sgs) (day : Int) (i z : Nat) : Int := if z = i then max (lowF g l.2 l.1 z) (day + 1) else lowF g l.2 l.1 z
def okI (g : Gv) (l : Sgs) (day : Int) (i : Nat) : Prop := ∀ z,z < l.1 → fitP g (l.2 z) (daysF g (bmpF g l day i))
noncomputable def illF (g : Gv) (l : Sgs) (day : Int) (i : Nat) : Int := if dyF g l l.1 i > day then 0 else @ite _ (okI g l day i) (Classical.propDecidable _) 1 2
noncomputable def illD (g : Gv) (l : Sgs) (day : Int) : Val := if asE g l day = 0 then .view 1 g.palms.1 fun i _ => .int .u8 (illF g l day i) else .nils
noncomputable def sIll : Spec := spec3 TGv (TSl RSg) TI (fun _ _ _ => True) fun g l day => .tup (.cons (illD g l day) (.cons (.int .i64 (asE g l day)) .nil))
theorem asE_0 {g : Gv} {l : Sgs} {day : Int} (h : asE g l day = 0) : GvOk g ∧ SgsOk g l ∧ (g.start ≤ day ∧ day ≤ 100000) ∧ okB g l = true := by
  unfold asE at h
  split at h
  · next h0 =>
    obtain ⟨hg,hl⟩ := sgsE_0 h0
    split at h
    · next hd =>
      refine ⟨hg,hl,hd,?_⟩
      unfold sooE at h
      split at h
      · assumption
      · cases h
    · cases h
  · next h0 => exact absurd h h0
theorem bmp_bd {g : Gv} {l : Sgs} (hg : GvOk g) (hl : ∀ j,j < l.1 → SgOk g (l.2 j)) {day : Int} (hd : 0 ≤ day ∧ day ≤ 100000) (i z : Nat) : 0 ≤ bmpF g l day i z ∧ bmpF g l day i z ≤ 100001 := by
  have := lowF_bd hg hl l.1 (Nat.le_refl _) z
  unfold bmpF; split <;> omega
noncomputable def ill1 (g : Gv) (l : Sgs) (day : Int) (j i : Nat) : Int := if i < j then illF g l day i else 0
set_option maxHeartbeats 4000000 in
set_option maxRecDepth 100000 in
theorem pIll : PureOk Try.prog G 15 sIll := by
  refine fn3 (S := [(41,sAsked),(42,sBefore),(43,sGreatest),(44,sMisfit),(45,sSpread)]) (I := []) mixed (.cons pAsked (.cons pBefore (.cons pGreatest (.cons pMisfit (.cons pSpread .nil))))) .nil Try.func15 c15 fun g l day _ hw => ?_
  simp only [vl,WfT,Val.toInt,Val.slen,Val.scell,Nat.reduceSub,and_true,true_and,and_self,and_assoc,maxLen,Nat.reducePow,TSl,TInt,RInt,RPm,Pm.d,RPl,Pl.d,Gv.L,TGv,RSg,Sg.d] at hw
  obtain ⟨w1,w2,w3,w4⟩ := hw
  by_cases h0 : asE g l day = 0
  · obtain ⟨hg,⟨hl30,hl⟩,hd,hb⟩ := asE_0 h0
    have hg0 := gvE_ok hg
    have hn24 := hg.pms.n
    have hst := hg.start
    have r1 : asD g l day = .view 1 g.palms.1 fun i _ => .int .i64 (dyF g l l.1 i) := if_pos h0
    have r2 : illD g l day = .view 1 g.palms.1 fun i _ => .int .u8 (illF g l day i) := if_pos h0
    have hlow : ∀ i,i < g.palms.1 → 0 ≤ lowF g l.2 l.1 i ∧ lowF g l.2 l.1 i ≤ 100001 := fun i _ => lowF_bd hg hl l.1 (Nat.le_refl _) i
    simp only [RunTo,a15,sAsked,h0,hg0,ptV_0,Pt.L,r1,r2,w1,w2,w3,w4,↓imp_ft,↓imp_ff,runO_4,runO_5,runO_6,runO_14,runO_15,runO_17,runO_18,runO_19,aop,binV,reOk,Nat.zero_sub,ev,fget,fput,params,cellsOf,cellsN,isLB,vget,vset,vsets,vlen,bget,bset,addB,addN,mkv,sliceV,vtab,frz,opOwns,preFz,callFz,skipOp,WfT,norm,norms,norm1,normL,pureB,pureL,onesB,specV,argsL,capsL,mkE_S,mkE_I,lkp,lenV,Fin,Val.toInt,Val.slen,Val.scell,↓reduceIte,reduceCtorEq,Nat.reduceEqDiff,Nat.reduceAdd,Nat.reduceSub,Nat.reduceLT,Nat.zero_add,Int.cast_ofNat_Int,List.length_cons,List.length_nil,List.append_nil,Bool.and_self,bne_self_eq_false,and_true,true_and,and_self,and_assoc,forall_const,imp_self,implies_true,Nat.le_refl,maxLen,Nat.reducePow,inat,spec3,TSl,IsSl,TInt,IsInt,RInt,Prod.eta,Pm.c0,Pm.c1,Pm.c2,Pm.c3,Pm.c4,RPm,Pm.w_c,Pm.d,Pm.eta,Pl.c0,Pl.c1,RPl,Pl.w_c,Pl.d,Pl.eta,Gv.L,Gv.Is,Gv.of,TGv,Gv.d,Gv.eta,Sg.c0,Sg.c1,Sg.c2,Sg.c3,Sg.c4,Sg.c5,RSg,Sg.w_c,Sg.d,Sg.eta,toUI_val]
    refine ⟨by omega,by omega,by omega,?_⟩
    obtain ⟨dy,hdy⟩ : ∃ dy,dyF g l l.1 = dy := ⟨_,rfl⟩
    refine loopI (ι := Nat) (fun j => j ≤ g.palms.1) (fun j => g.palms.1 - j) [1,2,8,11,29,30] (fun j => [(31,.int .i64 j)]) (fun j => [(2,.row 5 1 g.palms.1 fun i _ => .int .u8 (ill1 g l day j i))]) 0 (by omega) (by simp only [ill1,Chk,chkFr,chkBx,chkBx1,newIn,hasB,idsLt,kept,vs_int,vs_nil,vs_own,vs_ptr,vs_cons,vs_view,vs_mview,fget,isLB,bget,bset,vp_int,vsubP_self,↓reduceIte,reduceCtorEq,Nat.reduceEqDiff,Nat.reduceLT,Int.cast_ofNat_Int,and_true,true_and,and_self,forall_const,implies_true,Option.some.injEq,exists_eq',or_false,keepF,appF,updB]; exact fun i hi b hb => by (obtain rfl : b = 0 := by omega); rfl) fun j hj => ?_
    by_cases hjl : j < g.palms.1
    · have fj : ((j : Int) < (g.palms.1 : Int)) = True := eq_true (by omega)
      have same : ∀ i,i ≠ j → ill1 g l day (j + 1) i = ill1 g l day j i := fun i h => by
        unfold ill1
        by_cases h1 : i < j
        · rw [if_pos (by omega),if_pos h1]
        · rw [if_neg (by omega),if_neg h1]
      have here : ill1 g l day (j + 1) j = illF g l day j := by unfold ill1; rw [if_pos (by omega)]
      have here0 : ill1 g l day j j = 0 := by unfold ill1; rw [if_neg (by omega)]
      by_cases hgt : dyF g l l.1 j > day
      · have f1 := eq_true hgt
        have ei : illF g l day j = 0 := if_pos hgt
        simp only [fj,f1,↓imp_tt,↓imp_tf,runO_4,runO_5,runO_6,runO_9,runO_14,runO_16,runO_17,runO_18,runO_19,aop,binV,ev,fget,fput,vget,bset,addB,addN,mkv,frz,opOwns,preFz,skipOp,WfT,casts,castOks,cast1,castOk,popTo,stkFr,stkNx,Val.toInt,↓reduceIte,reduceCtorEq,Nat.reduceEqDiff,Nat.zero_add,decide_true,List.length_cons,List.length_nil,and_true,true_and,and_self,forall_const,imp_self,implies_true,Nat.le_refl,keepF,appF,updB,inat]
        repeat' (first | omega | (with_reducible apply And.intro) | intro _)
        refine inv_intro (j + 1) (by omega) (by omega) ?_
        simp only [Chk,chkFr,chkBx,chkBx1,newIn,hasB,idsLt,kept,vs_int,vs_nil,vs_own,vs_ptr,vs_cons,vs_view,vs_mview,fget,isLB,bget,vp_int,vsubP_self,↓reduceIte,reduceCtorEq,Nat.reduceEqDiff,Nat.reduceLT,and_true,true_and,and_self,forall_const,implies_true,Option.some.injEq,Val.int.injEq,exists_eq',or_false]
        rw [wrS (by omega)]
        refine ⟨rfl,fun i hi b hb => ?_⟩
        by_cases h5 : i = j
        · subst h5; rw [here,here0,ei]
        · rw [same i h5]
      · have f1 := eq_false hgt
        have e1 : IntKind.i64.wrap (day + 1) = day + 1 := wr64 (by omega) (by omega)
        have em : ∀ i : Nat,Val.toInt (if i = j then Val.int .i64 (max (lowF g (fun i => l.2 i) l.1 j) (day + 1)) else Val.int .i64 (lowF g (fun i => l.2 i) l.1 i)) = bmpF g l day j i := fun i => by
          unfold bmpF; split
          · next e => subst e; rfl
          · rfl
        have ec : ∀ i : Nat,(if i = j then Val.int .i64 (max (lowF g (fun i => l.2 i) l.1 j) (day + 1)) else Val.int .i64 (lowF g (fun i => l.2 i) l.1 i)) = .int .i64 (bmpF g l day j i) := fun i => by
          unfold bmpF; split
          · next e => subst e; rfl
          · rfl
        simp only [Val.toInt] at em
        have hb2 : ∀ i,i < g.palms.1 → 0 ≤ bmpF g l day j i ∧ bmpF g l day j i ≤ 100001 := fun i _ => bmp_bd hg hl ⟨by omega,hd.2⟩ j i
        have hdb := days_bd hg fun i hi => (hb2 i hi).2
        obtain ⟨D,hD⟩ : ∃ D,daysF g (bmpF g l day j) = D := ⟨_,rfl⟩
        rw [hD] at hdb
        have hmis : misF g l D < 0 ↔ okI g l day j := by rw [mis_neg,← hD]; exact Iff.rfl
        by_cases hok : okI g l day j
        · have f2 := eq_true (hmis.2 hok)
          have ei : illF g l day j = 1 := by unfold illF; rw [if_neg hgt,@if_pos _ (Classical.propDecidable _) hok]
          simp only [sBefore,sGreatest,sMisfit,sSpread,maxF,TPt,Pt.L,Pt.Is,Pt.of,isAt_self,hg,fj,f1,e1,ec,hD,f2,w1,w2,w3,w4,flatO,Spec.mine,↓imp_tt,↓imp_tf,↓imp_ft,↓imp_ff,runO_4,runO_5,runO_6,runO_8,runO_14,runO_16,runO_17,runO_18,runO_19,aop,binV,reOk,Nat.zero_sub,ev,fget,fput,cellsOf,cellsN,isLB,vget,vset,vlen,bget,bset,addB,addN,mkv,sliceV,vtab,rowsV,rowsOk,vrep,frz,opOwns,preFz,callFz,owns,skipOp,WfT,casts,castOks,cast1,castOk,norm,norms,norm1,normL,pureB,pureL,flatB,onesB,snapV,snapOk,snapL,snapOks,specV,argsL,capsL,mkE_S,mkE_I,mkE_G,lkp,stkFr,stkNx,Val.toInt,Val.slen,Val.scell,↓reduceIte,reduceCtorEq,Nat.reduceEqDiff,Nat.reduceAdd,Nat.reduceSub,Nat.reduceLT,Nat.zero_add,Nat.sub_zero,decide_true,decide_false,List.length_cons,List.length_nil,List.append_nil,List.flatMap_cons,List.flatMap_nil,Bool.and_true,Bool.and_false,Bool.and_self,Bool.not_true,and_true,true_and,and_self,and_assoc,forall_const,imp_self,implies_true,Nat.le_refl,maxLen,Nat.reducePow,keepF,appF,updB,inat,spec2,spec3,TSl,IsSl,TInt,IsInt,RInt,Prod.eta,Pm.c0,Pm.c1,Pm.c2,Pm.c3,Pm.c4,RPm,Pm.w_c,Pm.d,Pm.eta,Pl.c0,Pl.c1,RPl,Pl.w_c,Pl.d,Pl.eta,Gv.Is,Gv.of,Gv.d,Gv.eta,Sg.c0,Sg.c1,Sg.c2,Sg.c3,Sg.c4,Sg.c5,RSg,Sg.w_c,Sg.d,Sg.eta,toUI_val]
          repeat' (first | omega | (with_reducible apply And.intro) | intro _)
          all_goals first
            | exact hl _ (by assumption)
            | exact (hb2 _ (by assumption)).1
            | exact (hb2 _ (by assumption)).2
            | (have := hdb _ (by assumption); omega)
            | (rename_i i hi; obtain rfl : i = 0 := by omega
               rfl)
            | (refine inv_intro (j + 1) (by omega) (by omega) ?_
               simp only [Chk,chkFr,chkBx,chkBx1,newIn,hasB,idsLt,kept,vs_int,vs_nil,vs_own,vs_ptr,vs_cons,vs_view,vs_mview,Nat.lt_irrefl,fget,isLB,bget,vp_int,vsubP_self,↓reduceIte,reduceCtorEq,Nat.reduceEqDiff,Nat.reduceLT,and_true,true_and,and_self,forall_const,implies_true,Option.some.injEq,Val.int.injEq,exists_eq',false_implies,or_false]
               rw [wrS (by omega)]
               refine ⟨rfl,fun i hi b hb => ?_⟩
               obtain rfl : b = 0 := by omega
               by_cases h5 : i = j
               · subst h5; rw [here,ei]; simp [vget]
               · rw [same i h5]; simp [h5])
        · have f2 := eq_false fun h => hok (hmis.1 h)
          have ei : illF g l day j = 2 := by unfold illF; rw [if_neg hgt,@if_neg _ (Classical.propDecidable _) hok]
          simp only [sBefore,sGreatest,sMisfit,sSpread,maxF,TPt,Pt.L,Pt.Is,Pt.of,isAt_self,hg,fj,f1,e1,ec,hD,f2,w1,w2,w3,w4,flatO,Spec.mine,↓imp_tt,↓imp_tf,↓imp_ft,↓imp_ff,runO_4,runO_5,runO_6,runO_8,runO_14,runO_16,runO_17,runO_18,runO_19,aop,binV,reOk,Nat.zero_sub,ev,fget,fput,cellsOf,cellsN,isLB,vget,vset,vlen,bget,bset,addB,addN,mkv,sliceV,vtab,rowsV,rowsOk,vrep,frz,opOwns,preFz,callFz,owns,skipOp,WfT,casts,castOks,cast1,castOk,norm,norms,norm1,normL,pureB,pureL,flatB,onesB,snapV,snapOk,snapL,snapOks,specV,argsL,capsL,mkE_S,mkE_I,mkE_G,lkp,stkFr,stkNx,Val.toInt,Val.slen,Val.scell,↓reduceIte,reduceCtorEq,Nat.reduceEqDiff,Nat.reduceAdd,Nat.reduceSub,Nat.reduceLT,Nat.zero_add,Nat.sub_zero,decide_true,decide_false,List.length_cons,List.length_nil,List.append_nil,List.flatMap_cons,List.flatMap_nil,Bool.and_true,Bool.and_false,Bool.and_self,Bool.not_true,and_true,true_and,and_self,and_assoc,forall_const,imp_self,implies_true,Nat.le_refl,maxLen,Nat.reducePow,keepF,appF,updB,inat,spec2,spec3,TSl,IsSl,TInt,IsInt,RInt,Prod.eta,Pm.c0,Pm.c1,Pm.c2,Pm.c3,Pm.c4,RPm,Pm.w_c,Pm.d,Pm.eta,Pl.c0,Pl.c1,RPl,Pl.w_c,Pl.d,Pl.eta,Gv.Is,Gv.of,Gv.d,Gv.eta,Sg.c0,Sg.c1,Sg.c2,Sg.c3,Sg.c4,Sg.c5,RSg,Sg.w_c,Sg.d,Sg.eta,toUI_val]
          repeat' (first | omega | (with_reducible apply And.intro) | intro _)
          all_goals first
            | exact hl _ (by assumption)
            | exact (hb2 _ (by assumption)).1
            | exact (hb2 _ (by assumption)).2
            | (have := hdb _ (by assumption); omega)
            | (rename_i i hi; obtain rfl : i = 0 := by omega
               rfl)
            | (refine inv_intro (j + 1) (by omega) (by omega) ?_
               simp only [Chk,chkFr,chkBx,chkBx1,newIn,hasB,idsLt,kept,vs_int,vs_nil,vs_own,vs_ptr,vs_cons,vs_view,vs_mview,Nat.lt_irrefl,fget,isLB,bget,vp_int,vsubP_self,↓reduceIte,reduceCtorEq,Nat.reduceEqDiff,Nat.reduceLT,and_true,true_and,and_self,forall_const,implies_true,Option.some.injEq,Val.int.injEq,exists_eq',false_implies,or_false]
               rw [wrS (by omega)]
               refine ⟨rfl,fun i hi b hb => ?_⟩
               obtain rfl : b = 0 := by omega
               by_cases h5 : i = j
               · subst h5; rw [here,ei]; simp [vget]
               · rw [same i h5]; simp [h5])
    · have fj : ((j : Int) < (g.palms.1 : Int)) = False := eq_false (by omega)
      obtain rfl : j = g.palms.1 := by omega
      simp only [fj,↓imp_ft,↓imp_ff,runO_3,runO_5,runO_9,runO_14,runO_17,runO_18,runO_19,aop,binV,ends,ev,fget,fput,bget,bset,addB,addN,frz,opOwns,preFz,skipOp,WfT,resV,resL,res1,snapV,snapOk,popTo,stkFr,stkNx,vp_int,vp_cons,vp_tup,vp_view,vsubP_self,↓reduceIte,reduceCtorEq,Nat.reduceEqDiff,Nat.reduceAdd,decide_false,Bool.and_self,and_true,true_and,and_self,forall_const,imp_self,implies_true,Val.int.injEq,keepF,appF,updB]
      refine fun i hi b hb => ?_
      unfold ill1
      rw [if_pos hi]
  · have r1 : asD g l day = .nils := if_neg h0
    have r2 : illD g l day = .nils := if_neg h0
    by_cases hg0 : gvE g = 0
    · simp only [RunTo,a15,sAsked,h0,hg0,ptV_0,Pt.L,r1,r2,w1,w2,w3,w4,runO_3,runO_4,runO_5,runO_6,runO_14,runO_15,runO_17,runO_18,runO_19,aop,binV,ends,reOk,Nat.zero_sub,ev,fget,fput,params,cellsOf,cellsN,isLB,vget,vset,vsets,vlen,bget,bset,addB,addN,mkv,sliceV,vtab,frz,opOwns,preFz,callFz,skipOp,WfT,resV,resL,res1,norm,norms,norm1,normL,pureB,pureL,onesB,snapV,snapOk,specV,argsL,capsL,mkE_S,mkE_I,lkp,lenV,Fin,vsubP_self,Val.toInt,Val.slen,Val.scell,↓reduceIte,reduceCtorEq,Nat.reduceEqDiff,Nat.reduceAdd,Nat.reduceSub,Nat.reduceLT,Nat.zero_add,Int.reduceToNat,Int.cast_ofNat_Int,Int.reduceLE,Int.reduceMul,bne_iff_ne,bne_eq_false_iff_eq,List.length_cons,List.length_nil,List.append_nil,Bool.and_self,and_true,true_and,and_self,and_assoc,forall_const,imp_self,implies_true,Nat.le_refl,ne_eq,not_false_eq_true,false_implies,not_false_eq_true,maxLen,Nat.reducePow,spec3,TSl,IsSl,TInt,IsInt,RInt,Prod.eta,Pm.c0,Pm.c1,Pm.c2,Pm.c3,Pm.c4,RPm,Pm.w_c,Pm.d,Pm.eta,Pl.c0,Pl.c1,RPl,Pl.w_c,Pl.d,Pl.eta,Gv.L,Gv.Is,Gv.of,TGv,Gv.d,Gv.eta,Sg.c0,Sg.c1,Sg.c2,Sg.c3,Sg.c4,Sg.c5,RSg,Sg.w_c,Sg.d,Sg.eta,toUI_val]
    · have ez := ptV_no (g := g) hg0
      simp only [RunTo,a15,sAsked,h0,ez,ptZ,r1,r2,w1,w2,w3,w4,runO_3,runO_4,runO_5,runO_6,runO_14,runO_15,runO_17,runO_18,runO_19,aop,binV,ends,reOk,Nat.zero_sub,ev,fget,fput,params,cellsOf,cellsN,isLB,vget,vset,vsets,vlen,bget,bset,addB,addN,mkv,sliceV,vtab,frz,opOwns,preFz,callFz,skipOp,WfT,resV,resL,res1,norm,norms,norm1,normL,pureB,pureL,onesB,snapV,snapOk,specV,argsL,capsL,mkE_S,mkE_I,lkp,lenV,Fin,vsubP_self,Val.toInt,Val.slen,Val.scell,↓reduceIte,reduceCtorEq,Nat.reduceEqDiff,Nat.reduceAdd,Nat.reduceSub,Nat.reduceLT,Nat.zero_add,Int.reduceToNat,Int.cast_ofNat_Int,Int.reduceLE,Int.reduceMul,bne_iff_ne,bne_eq_false_iff_eq,List.length_cons,List.length_nil,List.append_nil,Bool.and_self,and_true,true_and,and_self,and_assoc,forall_const,imp_self,implies_true,Nat.le_refl,ne_eq,not_false_eq_true,false_implies,not_false_eq_true,maxLen,Nat.reducePow,spec3,TSl,IsSl,TInt,IsInt,RInt,Prod.eta,Pm.c0,Pm.c1,Pm.c2,Pm.c3,Pm.c4,RPm,Pm.w_c,Pm.d,Pm.eta,Pl.c0,Pl.c1,RPl,Pl.w_c,Pl.d,Pl.eta,Gv.L,Gv.Is,Gv.of,TGv,Gv.d,Gv.eta,Sg.c0,Sg.c1,Sg.c2,Sg.c3,Sg.c4,Sg.c5,RSg,Sg.w_c,Sg.d,Sg.eta,toUI_val]
end Go.Proofs.Ytpknbojgkkmonaa
