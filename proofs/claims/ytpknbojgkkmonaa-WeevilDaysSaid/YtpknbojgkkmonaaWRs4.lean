/- Groves, the reference: Chain. No condition. -/
import Derived.Test.YtpknbojgkkmonaaWRs2
import Derived.Test.YtpknbojgkkmonaaWChn
set_option linter.unusedSimpArgs false
set_option linter.unusedVariables false
namespace Go.Proofs.Ytpknbojgkkmonaa
open Go Go.RowKit
variable {G : Nat → Option (Nat × (Nat → Val))}
theorem best_t {g : Gv} {D : Nat → Int} {i j : Nat} (h : fromP g i (D i) j (D j) ∧ (bstJ g D i j < 0 ∨ D j < D (bstJ g D i j).toNat)) : bstJ g D i (j + 1) = j := by
  unfold bstJ; rw [@if_pos _ (Classical.propDecidable _) h]
theorem best_f {g : Gv} {D : Nat → Int} {i j : Nat} (h : ¬ (fromP g i (D i) j (D j) ∧ (bstJ g D i j < 0 ∨ D j < D (bstJ g D i j).toNat))) : bstJ g D i (j + 1) = bstJ g D i j := by
  rw [bstJ,@if_neg _ (Classical.propDecidable _) h]
set_option maxHeartbeats 4000000 in
set_option maxRecDepth 100000 in
theorem pChainR : PureOk Try.prog G 25 sChain := by
  refine fn3 (S := [(38,sSigns),(36,sAt),(23,sSoonest),(37,sFrom)]) (I := []) mixed (.cons pSigns (.cons pAt (.cons pSoonR (.cons pFrom .nil)))) .nil Try.func25 c25 fun g l id _ hw => ?_
  simp only [vl,WfT,Val.toInt,Val.slen,Val.scell,Nat.reduceSub,and_true,true_and,and_self,and_assoc,maxLen,Nat.reducePow,TSl,TInt,RInt,RPm,Pm.d,RPl,Pl.d,Gv.L,TGv,RSg,Sg.d] at hw
  obtain ⟨w1,w2,w3,w4⟩ := hw
  have fneg : ((-1 : Int) < 0) = True := eq_true (by decide)
  by_cases h0 : sgsE g l = 0
  case neg =>
    have r1 : chE g l id = sgsE g l := if_neg h0
    have r2 : chW g l id = .nils := if_neg (by rw [r1]; exact h0)
    simp only [RunTo,a25,sSigns,h0,r1,r2,w1,w2,w3,w4,flatO,runO_3,runO_4,runO_5,runO_6,runO_14,runO_15,runO_17,runO_18,runO_19,aop,binV,ends,ev,fget,fput,params,cellsOf,cellsN,isLB,vget,vset,vlen,bget,addB,addN,mkv,sliceV,vtab,rowsV,rowsOk,vrep,frz,opOwns,preFz,callFz,ownsL,owns,skipOp,WfT,resV,resL,res1,casts,castOks,cast1,castOk,norm,norms,norm1,normL,pureB,pureL,onesB,snapV,snapOk,snapL,snapOks,specV,argsL,capsL,mkE_S,mkE_I,mkE_G,lkp,Fin,vp_int,vp_cons,vp_tup,vsubP_self,Val.toInt,Val.slen,Val.scell,↓reduceIte,reduceCtorEq,Nat.reduceEqDiff,Nat.reduceAdd,Nat.reduceSub,Nat.reduceLeDiff,Nat.reduceLT,Nat.zero_add,Nat.add_zero,Int.reduceNeg,bne_iff_ne,bne_eq_false_iff_eq,List.length_cons,List.length_nil,List.append_nil,List.flatMap_cons,List.flatMap_nil,Bool.and_true,Bool.true_and,Bool.and_self,and_true,true_and,and_self,and_assoc,forall_const,imp_self,implies_true,Nat.le_refl,Val.int.injEq,ne_eq,not_false_eq_true,false_implies,not_false_eq_true,maxLen,Nat.reducePow,spec2,TSl,IsSl,TInt,RInt,Prod.eta,Pm.c0,Pm.c1,Pm.c2,Pm.c3,Pm.c4,RPm,Pm.w_c,Pm.d,Pm.eta,Pl.c0,Pl.c1,RPl,Pl.w_c,Pl.d,Pl.eta,Gv.L,Gv.Is,Gv.of,TGv,Gv.d,Gv.eta,Sg.c0,Sg.c1,Sg.c2,Sg.c3,Sg.c4,Sg.c5,RSg,Sg.w_c,Sg.d,Sg.eta,toUI_val]
  obtain ⟨hg,hl⟩ := sgsE_0 h0
  have hn24 := hg.pms.n
  have hD : DayOk g (dyF g l l.1) := by
    obtain ⟨N,_,hF⟩ := days_ok hg (n0 := lowF g l.2 l.1) fun i _ => (lowF_bd hg hl.2 l.1 (Nat.le_refl _) i).2
    exact hF.dayOk hg
  have q1 : stE g l = sooE g l := if_pos h0
  have q3 : stD g l = sooD g l := if_pos h0
  have q2 : stA g l = sooA g l := if_pos h0
  by_cases hi : hitN g.palms id < g.palms.1
  case neg =>
    have ea : atF g.palms id = -1 := if_neg hi
    have r1 : chE g l id = 6 := by unfold chE; rw [if_pos h0,if_neg hi]
    have r2 : chW g l id = .nils := if_neg (by omega)
    simp only [RunTo,a25,sSigns,sAt,ea,fneg,h0,r1,r2,w1,w2,w3,w4,↓imp_tt,↓imp_tf,↓imp_ft,↓imp_ff,runO_3,runO_4,runO_5,runO_14,runO_17,runO_18,runO_19,aop,binV,ends,ev,fget,fput,params,cellsOf,cellsN,isLB,vget,vlen,bget,addB,addN,mkv,sliceV,vtab,frz,opOwns,preFz,callFz,skipOp,WfT,resV,resL,res1,norm,norms,norm1,normL,pureB,pureL,snapV,snapOk,specV,argsL,capsL,mkE_S,mkE_I,lkp,Fin,vsubP_self,Val.toInt,Val.slen,Val.scell,↓reduceIte,reduceCtorEq,Nat.reduceEqDiff,Nat.reduceAdd,Nat.reduceSub,Nat.reduceLeDiff,Nat.zero_add,Nat.add_zero,Int.reduceNeg,decide_true,List.length_cons,List.length_nil,List.append_nil,Bool.and_self,bne_self_eq_false,and_true,and_self,and_assoc,forall_const,imp_self,implies_true,Nat.le_refl,maxLen,Nat.reducePow,spec2,TSl,IsSl,TInt,IsInt,RInt,Prod.eta,Pm.c0,Pm.c1,Pm.c2,Pm.c3,Pm.c4,RPm,Pm.w_c,Pm.d,Pm.eta,Pl.c0,Pl.c1,RPl,Pl.w_c,Pl.d,Pl.eta,Gv.L,Gv.Is,Gv.of,TGv,Gv.d,Gv.eta,Sg.c0,Sg.c1,Sg.c2,Sg.c3,Sg.c4,Sg.c5,RSg,Sg.w_c,Sg.d,Sg.eta,toUI_val]
  have ea := atF_pos hi
  obtain ⟨h,hh⟩ : ∃ h,hitN g.palms id = h := ⟨_,rfl⟩
  have hid : (g.palms.2 h).id = id := by
    rcases hit_spec g.palms id with h3 | h3
    · rw [← hh]; exact h3.2
    · omega
  rw [hh] at ea hi
  have fh : ((h : Int) < 0) = False := eq_false (by omega)
  by_cases hb : okB g l = true
  case neg =>
    have r4 : sooD g l = .nils := if_neg hb
    have r5 : sooE g l = 92 := if_neg hb
    have r1 : chE g l id = 92 := by unfold chE; rw [hh,if_pos h0,if_pos hi,if_neg (by omega),r5]
    have r2 : chW g l id = .nils := if_neg (by omega)
    simp only [RunTo,a25,sSigns,sAt,sSoonest,ea,fh,h0,q1,q2,q3,r1,r2,r4,r5,w1,w2,w3,w4,↓imp_tt,↓imp_tf,↓imp_ft,↓imp_ff,runO_3,runO_4,runO_5,runO_14,runO_17,runO_18,runO_19,aop,binV,ends,ev,fget,fput,params,cellsOf,cellsN,isLB,vget,vlen,bget,addB,addN,mkv,sliceV,vtab,frz,opOwns,preFz,callFz,skipOp,WfT,resV,resL,res1,norm,norms,norm1,normL,pureB,pureL,snapV,snapOk,specV,argsL,capsL,mkE_S,mkE_I,lkp,Fin,vsubP_self,Val.toInt,Val.slen,Val.scell,↓reduceIte,reduceCtorEq,Nat.reduceEqDiff,Nat.reduceAdd,Nat.reduceSub,Nat.reduceLeDiff,Nat.reduceLT,Nat.zero_add,Nat.add_zero,Int.reduceNeg,Int.reduceBNe,decide_false,List.length_cons,List.length_nil,List.append_nil,Bool.and_self,bne_self_eq_false,and_true,and_self,and_assoc,forall_const,imp_self,implies_true,Nat.le_refl,maxLen,Nat.reducePow,spec2,TSl,IsSl,TInt,IsInt,RInt,Prod.eta,Pm.c0,Pm.c1,Pm.c2,Pm.c3,Pm.c4,RPm,Pm.w_c,Pm.d,Pm.eta,Pl.c0,Pl.c1,RPl,Pl.w_c,Pl.d,Pl.eta,Gv.L,Gv.Is,Gv.of,TGv,Gv.d,Gv.eta,Sg.c0,Sg.c1,Sg.c2,Sg.c3,Sg.c4,Sg.c5,RSg,Sg.w_c,Sg.d,Sg.eta,toUI_val]
  have r4 : sooD g l = .view 1 g.palms.1 fun i _ => .int .i64 (dyF g l l.1 i) := if_pos hb
  have r5 : sooE g l = 0 := if_pos hb
  obtain ⟨D,hDD⟩ : ∃ D,dyF g l l.1 = D := ⟨_,rfl⟩
  rw [hDD] at hD r4
  have hlo := hD.low _ hi
  by_cases hn : D h = 100001
  · have r1 : chE g l id = 6 := by unfold chE; rw [hh,hDD,if_pos h0,if_pos hi,if_pos r5,if_pos hn]
    have r2 : chW g l id = .nils := if_neg (by omega)
    simp only [RunTo,a25,sSigns,sAt,sSoonest,ea,fh,h0,q1,q2,q3,r1,r2,r4,r5,hn,w1,w2,w3,w4,↓imp_ft,↓imp_ff,runO_3,runO_4,runO_5,runO_6,runO_14,runO_15,runO_17,runO_18,runO_19,aop,binV,ends,ev,fget,fput,params,cellsOf,cellsN,isLB,vget,vset,vlen,bget,addB,addN,mkv,sliceV,vtab,rowsV,rowsOk,vrep,frz,opOwns,preFz,callFz,owns,skipOp,WfT,resV,resL,res1,casts,castOks,cast1,castOk,norm,norms,norm1,normL,pureB,pureL,onesB,snapV,snapOk,specV,argsL,capsL,mkE_S,mkE_I,mkE_G,lkp,Fin,vsubP_self,Val.toInt,Val.slen,Val.scell,↓reduceIte,reduceCtorEq,Nat.reduceEqDiff,Nat.reduceAdd,Nat.reduceSub,Nat.reduceLeDiff,Nat.reduceLT,Nat.zero_add,Nat.add_zero,Int.reduceNeg,decide_false,List.length_cons,List.length_nil,List.append_nil,List.flatMap_cons,List.flatMap_nil,Bool.and_self,bne_self_eq_false,and_true,true_and,and_self,and_assoc,forall_const,imp_self,implies_true,Nat.le_refl,decide_eq_true_eq,decide_eq_false_iff_not,maxLen,Nat.reducePow,inat,spec2,TSl,IsSl,TInt,IsInt,RInt,Prod.eta,Pm.c0,Pm.c1,Pm.c2,Pm.c3,Pm.c4,RPm,Pm.w_c,Pm.d,Pm.eta,Pl.c0,Pl.c1,RPl,Pl.w_c,Pl.d,Pl.eta,Gv.L,Gv.Is,Gv.of,TGv,Gv.d,Gv.eta,Sg.c0,Sg.c1,Sg.c2,Sg.c3,Sg.c4,Sg.c5,RSg,Sg.w_c,Sg.d,Sg.eta,toUI_val]
    repeat' (first | omega | (with_reducible apply And.intro) | intro _)
  have r1 : chE g l id = 0 := by unfold chE; rw [hh,hDD,if_pos h0,if_pos hi,if_pos r5,if_neg hn]
  have r2 : chW g l id = chV g D h := by unfold chW; rw [if_pos r1,hh,hDD]
  have fn : (D h ≥ 100001) = False := eq_false (by omega)
  simp only [RunTo,a25,sSigns,sAt,sSoonest,ea,fh,h0,q1,q2,q3,r1,r2,r4,r5,fn,w1,w2,w3,w4,↓imp_ft,↓imp_ff,runO_4,runO_5,runO_6,runO_14,runO_15,runO_17,runO_18,runO_19,aop,binV,ev,fget,fput,params,cellsOf,cellsN,isLB,vget,vset,vlen,bget,addB,addN,mkv,sliceV,vtab,rowsV,rowsOk,vrep,frz,opOwns,preFz,callFz,owns,skipOp,WfT,casts,castOks,cast1,castOk,norm,norms,norm1,normL,pureB,pureL,onesB,specV,argsL,capsL,mkE_S,mkE_I,mkE_G,lkp,Fin,Val.toInt,Val.slen,Val.scell,↓reduceIte,reduceCtorEq,Nat.reduceEqDiff,Nat.reduceAdd,Nat.reduceSub,Nat.reduceLeDiff,Nat.reduceLT,Nat.zero_add,Nat.add_zero,Int.reduceNeg,decide_false,List.length_cons,List.length_nil,List.append_nil,List.flatMap_cons,List.flatMap_nil,Bool.and_self,bne_self_eq_false,and_true,true_and,and_self,and_assoc,forall_const,imp_self,implies_true,Nat.le_refl,maxLen,Nat.reducePow,inat,spec2,TSl,IsSl,TInt,IsInt,RInt,Prod.eta,Pm.c0,Pm.c1,Pm.c2,Pm.c3,Pm.c4,RPm,Pm.w_c,Pm.d,Pm.eta,Pl.c0,Pl.c1,RPl,Pl.w_c,Pl.d,Pl.eta,Gv.L,Gv.Is,Gv.of,TGv,Gv.d,Gv.eta,Sg.c0,Sg.c1,Sg.c2,Sg.c3,Sg.c4,Sg.c5,RSg,Sg.w_c,Sg.d,Sg.eta,toUI_val]
  repeat' (first | omega | (with_reducible apply And.intro) | intro _)
  refine loopG (ι := Nat × List Nat) (fun p => p.1 < g.palms.1 ∧ D p.1 < 100001 ∧ chI g D h = chI g D p.1 ++ p.2) (fun p => depF g D p.1) [3,10] (fun p => [(9,.int .i64 p.1),(13,.view 1 (p.2.length + 1) fun i _ => .int .i64 (g.palms.2 ((p.1 :: p.2).getD i 0)).id)]) (fun _ => []) [1] 0 (h,[]) rfl (by simp only [stkNx]; intro b _ n hn; cases hn) ⟨hi,show D h < 100001 by omega,show chI g D h = chI g D h ++ [] by simp⟩ ?_ fun p hp => ?_
  · simp only [Chk,chkFr,chkBx,chkBx1,hasB,idsLt,kept,vs_int,vs_nil,vs_ptr,vs_cons,vs_view,fget,isLB,bget,bdel,subFr,subV,subBx,vp_int,vsubP_self,↓reduceIte,reduceCtorEq,Nat.reduceEqDiff,Nat.reduceLT,Nat.zero_add,Nat.add_zero,List.length_nil,and_true,true_and,and_self,forall_const,implies_true,Option.some.injEq,exists_eq',keepF,appF,updB]
    intro i hi b hb
    obtain rfl : i = 0 := by omega
    obtain rfl : b = 0 := by omega
    show Val.int .i64 id = Val.int .i64 (g.palms.2 h).id
    rw [hid]
  · obtain ⟨k,tl⟩ := p
    obtain ⟨hk,hkn,hch⟩ := hp
    simp only at hk hkn hch
    have hlk := hD.low k hk
    by_cases hs : D k = g.start
    · have fs : (D k > g.start) = False := eq_false (by omega)
      simp only [fs,↓imp_ft,↓imp_ff,runO_3,runO_5,runO_9,runO_14,runO_17,runO_18,runO_19,aop,binV,ends,ev,fget,fput,vget,vlen,bget,bdel,addB,addN,mkv,sliceV,vtab,frz,opOwns,preFz,skipOp,WfT,resV,resL,res1,casts,castOks,cast1,castOk,snapV,snapOk,subFr,subV,subBx,popTo,stkFr,stkNx,vp_cons,vp_tup,vsubP_self,Val.toInt,↓reduceIte,reduceCtorEq,Nat.reduceEqDiff,Nat.reduceAdd,Nat.reduceSub,Nat.reduceLeDiff,Nat.zero_add,Nat.add_zero,Int.reduceNeg,decide_false,List.length_cons,List.length_nil,Bool.and_self,and_true,true_and,and_self,and_assoc,forall_const,imp_self,implies_true,Nat.le_refl,maxLen,Nat.reducePow,keepF,appF,updB,inat]
      have e1 : chI g D h = k :: tl := by rw [hch,chI_start (by omega) hs]; rfl
      refine ⟨by omega,by omega,fun _ _ => ?_⟩
      simp only [chV,e1,List.length_cons,vsubP_self,List.length_cons]
      try exact fun i hi b hb => rfl
    · have fs : (D k > g.start) = True := eq_true (by omega)
      obtain ⟨hb1,hb2,hb3,_⟩ := hD.best hk hs hkn
      simp only [fs,↓imp_tt,↓imp_tf,runO_4,runO_5,runO_6,runO_14,runO_15,runO_17,runO_18,runO_19,aop,binV,ev,fget,fput,vget,vlen,bget,bdel,addB,addN,mkv,sliceV,vtab,frz,opOwns,preFz,skipOp,WfT,casts,castOks,cast1,castOk,subFr,subV,subBx,stkFr,stkNx,Val.toInt,↓reduceIte,reduceCtorEq,Nat.reduceEqDiff,Nat.reduceAdd,Nat.reduceLeDiff,Nat.zero_add,Nat.add_zero,Int.reduceNeg,decide_true,List.length_cons,List.length_nil,and_true,true_and,and_self,and_assoc,forall_const,imp_self,implies_true,Nat.le_refl,keepF,appF,updB,inat]
      refine ⟨by omega,by omega,?_⟩
      refine loopI (ι := Nat) (fun j => j ≤ g.palms.1) (fun j => g.palms.1 - j) [3,9,10,13] (fun j => [(14,.int .i64 (bstJ g D k j)),(15,.int .i64 j)]) (fun _ => []) 0 (by omega) (by simp only [bstJ,Chk,chkFr,chkBx,chkBx1,hasB,idsLt,kept,vs_int,vs_nil,vs_ptr,vs_cons,vs_view,fget,isLB,bget,vsubP_self,↓reduceIte,Nat.reduceEqDiff,Nat.reduceLT,Int.cast_ofNat_Int,Int.reduceNeg,and_self,forall_const,implies_true,Option.some.injEq,exists_eq',keepF,appF,updB]; try rfl) fun j hj => ?_
      by_cases hjl : j < g.palms.1
      · have fj : ((j : Int) < (g.palms.1 : Int)) = True := eq_true (by omega)
        have hlj := hD.low j hjl
        have hst := hg.start
        by_cases hf : fromP g k (D k) j (D j)
        · have ff := decP_t hf
          rcases bstJ_spec (g := g) (D := D) (i := k) j with ⟨e,_⟩ | ⟨b,e,hbj,_,_⟩
          · have en := best_t ⟨hf,.inl (by rw [e]; decide)⟩
            simp only [sFrom,hg,fj,ff,e,fneg,w1,↓imp_tt,↓imp_tf,runO_4,runO_5,runO_6,runO_8,runO_14,runO_16,runO_17,runO_18,runO_19,aop,binV,Nat.zero_sub,ev,fget,fput,cellsOf,isLB,vget,vlen,bget,addB,addN,mkv,sliceV,vtab,frz,opOwns,preFz,skipOp,WfT,casts,castOks,cast1,castOk,norm,norms,norm1,normL,pureB,pureL,specV,argsL,capsL,mkE_S,lkp,pickV,lenV,stkFr,stkNx,Val.toInt,Val.slen,Val.scell,↓reduceIte,reduceCtorEq,Nat.reduceEqDiff,Nat.reduceAdd,Nat.reduceSub,Nat.zero_add,Int.reduceNeg,decide_true,List.length_cons,List.length_nil,List.append_nil,Bool.and_self,Bool.bne_false,bne_self_eq_false,and_true,true_and,and_self,and_assoc,forall_const,imp_self,implies_true,Nat.le_refl,maxLen,Nat.reducePow,keepF,appF,updB,inat,spec5,TInt,IsInt,RInt,Prod.eta,Pm.c0,Pm.c1,Pm.c2,Pm.c3,Pm.c4,RPm,Pm.w_c,Pm.d,Pm.eta,Pl.c0,Pl.c1,RPl,Pl.w_c,Pl.d,Pl.eta,Gv.L,Gv.Is,Gv.of,TGv,Gv.d,Gv.eta,toUI_val]
            repeat' (first | omega | (with_reducible apply And.intro) | intro _)
            refine inv_intro (j + 1) (by omega) (by omega) ?_
            simp only [en,Chk,chkFr,chkBx,chkBx1,hasB,idsLt,kept,vs_int,vs_nil,vs_ptr,vs_cons,vs_view,fget,isLB,bget,vsubP_self,↓reduceIte,Nat.reduceEqDiff,Nat.reduceLT,and_true,true_and,and_self,forall_const,implies_true,Option.some.injEq,Val.int.injEq,exists_eq']
            rw [wrS (by omega)]
          · have fb : ((b : Int) < 0) = False := eq_false (by omega)
            by_cases hd : D j < D b
            · have fd := eq_true hd
              have en := best_t ⟨hf,.inr (by rw [e,Int.toNat_natCast]; exact hd)⟩
              simp only [sFrom,hg,fj,ff,e,fb,fd,w1,↓imp_tt,↓imp_tf,↓imp_ft,↓imp_ff,runO_4,runO_5,runO_6,runO_8,runO_14,runO_16,runO_17,runO_18,runO_19,aop,binV,ev,fget,fput,cellsOf,isLB,vget,vlen,bget,addB,addN,mkv,sliceV,vtab,frz,opOwns,preFz,skipOp,WfT,casts,castOks,cast1,castOk,norm,norms,norm1,normL,pureB,pureL,specV,argsL,capsL,mkE_S,lkp,pickV,lenV,stkFr,stkNx,Val.toInt,Val.slen,Val.scell,↓reduceIte,reduceCtorEq,Nat.reduceEqDiff,Nat.reduceAdd,Nat.reduceSub,Nat.zero_add,decide_true,decide_false,List.length_cons,List.length_nil,List.append_nil,Bool.and_self,bne_self_eq_false,and_true,true_and,and_self,and_assoc,forall_const,imp_self,implies_true,Nat.le_refl,maxLen,Nat.reducePow,keepF,appF,updB,inat,spec5,TInt,IsInt,RInt,Prod.eta,Pm.c0,Pm.c1,Pm.c2,Pm.c3,Pm.c4,RPm,Pm.w_c,Pm.d,Pm.eta,Pl.c0,Pl.c1,RPl,Pl.w_c,Pl.d,Pl.eta,Gv.L,Gv.Is,Gv.of,TGv,Gv.d,Gv.eta,toUI_val]
              repeat' (first | omega | (with_reducible apply And.intro) | intro _)
              refine inv_intro (j + 1) (by omega) (by omega) ?_
              simp only [en,Chk,chkFr,chkBx,chkBx1,hasB,idsLt,kept,vs_int,vs_nil,vs_ptr,vs_cons,vs_view,fget,isLB,bget,vsubP_self,↓reduceIte,Nat.reduceEqDiff,Nat.reduceLT,and_true,true_and,and_self,forall_const,implies_true,Option.some.injEq,Val.int.injEq,exists_eq']
              rw [wrS (by omega)]
            · have fd := eq_false hd
              have en : bstJ g D k (j + 1) = b := by
                rw [best_f fun h => ?_,e]
                rcases h.2 with h2 | h2
                · rw [e] at h2; omega
                · rw [e,Int.toNat_natCast] at h2; exact hd h2
              simp only [sFrom,hg,fj,ff,e,fb,fd,w1,↓imp_tt,↓imp_tf,↓imp_ft,↓imp_ff,runO_4,runO_5,runO_6,runO_8,runO_14,runO_16,runO_17,runO_18,runO_19,aop,binV,ev,fget,fput,cellsOf,isLB,vget,vlen,bget,addB,addN,mkv,sliceV,vtab,frz,opOwns,preFz,skipOp,WfT,casts,castOks,cast1,castOk,norm,norms,norm1,normL,pureB,pureL,specV,argsL,capsL,mkE_S,lkp,pickV,lenV,stkFr,stkNx,Val.toInt,Val.slen,Val.scell,↓reduceIte,reduceCtorEq,Nat.reduceEqDiff,Nat.reduceAdd,Nat.reduceSub,Nat.zero_add,decide_true,decide_false,List.length_cons,List.length_nil,List.append_nil,Bool.and_self,bne_self_eq_false,and_true,true_and,and_self,and_assoc,forall_const,imp_self,implies_true,Nat.le_refl,maxLen,Nat.reducePow,keepF,appF,updB,inat,spec5,TInt,IsInt,RInt,Prod.eta,Pm.c0,Pm.c1,Pm.c2,Pm.c3,Pm.c4,RPm,Pm.w_c,Pm.d,Pm.eta,Pl.c0,Pl.c1,RPl,Pl.w_c,Pl.d,Pl.eta,Gv.L,Gv.Is,Gv.of,TGv,Gv.d,Gv.eta,toUI_val]
              repeat' (first | omega | (with_reducible apply And.intro) | intro _)
              refine inv_intro (j + 1) (by omega) (by omega) ?_
              simp only [en,Chk,chkFr,chkBx,chkBx1,hasB,idsLt,kept,vs_int,vs_nil,vs_ptr,vs_cons,vs_view,fget,isLB,bget,vsubP_self,↓reduceIte,Nat.reduceEqDiff,Nat.reduceLT,and_true,true_and,and_self,forall_const,implies_true,Option.some.injEq,Val.int.injEq,exists_eq']
              rw [wrS (by omega)]
        · have ff := decP_f hf
          have en := best_f (g := g) (D := D) (i := k) (j := j) fun h => hf h.1
          simp only [sFrom,hg,fj,ff,w1,↓imp_tt,↓imp_tf,↓imp_ft,↓imp_ff,runO_4,runO_5,runO_6,runO_8,runO_14,runO_16,runO_17,runO_18,runO_19,aop,binV,Nat.zero_sub,ev,fget,fput,cellsOf,isLB,vget,vlen,bget,addB,addN,mkv,sliceV,vtab,frz,opOwns,preFz,skipOp,WfT,casts,castOks,cast1,castOk,norm,norms,norm1,normL,pureB,pureL,specV,argsL,capsL,mkE_S,lkp,pickV,lenV,stkFr,stkNx,Val.toInt,Val.slen,Val.scell,↓reduceIte,reduceCtorEq,Nat.reduceEqDiff,Nat.reduceAdd,Nat.reduceSub,Nat.zero_add,decide_true,List.length_cons,List.length_nil,List.append_nil,Bool.and_self,Bool.bne_true,Bool.not_false,and_true,true_and,and_self,and_assoc,forall_const,imp_self,implies_true,Nat.le_refl,maxLen,Nat.reducePow,keepF,appF,updB,inat,spec5,TInt,IsInt,RInt,Prod.eta,Pm.c0,Pm.c1,Pm.c2,Pm.c3,Pm.c4,RPm,Pm.w_c,Pm.d,Pm.eta,Pl.c0,Pl.c1,RPl,Pl.w_c,Pl.d,Pl.eta,Gv.L,Gv.Is,Gv.of,TGv,Gv.d,Gv.eta,toUI_val]
          repeat' (first | omega | (with_reducible apply And.intro) | intro _)
          refine inv_intro (j + 1) (by omega) (by omega) ?_
          simp only [en,Chk,chkFr,chkBx,chkBx1,hasB,idsLt,kept,vs_int,vs_nil,vs_ptr,vs_cons,vs_view,fget,isLB,bget,vsubP_self,↓reduceIte,Nat.reduceEqDiff,Nat.reduceLT,and_true,true_and,and_self,forall_const,implies_true,Option.some.injEq,Val.int.injEq,exists_eq']
          rw [wrS (by omega)]
      · have fj : ((j : Int) < (g.palms.1 : Int)) = False := eq_false (by omega)
        obtain rfl : j = g.palms.1 := by omega
        have hlen := chI_len g D h
        have hl2 : tl.length ≤ g.palms.1 + 1 := by rw [hch,List.length_append] at hlen; omega
        simp only [fj,hb1,w1,↓imp_ft,↓imp_ff,runO_5,runO_8,runO_9,runO_14,runO_16,runO_17,runO_18,runO_19,aop,binV,reOk,Nat.zero_sub,ev,fget,fput,cellsOf,cellsN,isLB,vget,vset,vlen,bget,bset,addB,addN,mkv,sliceV,vtab,rowsV,rowsOk,vrep,frz,opOwns,preFz,owns,skipOp,WfT,casts,castOks,cast1,castOk,pureB,onesB,mkE_G,lenV,subFr,subV,subBx,subStk,elemsV,popTo,stkFr,stkNx,Val.toInt,↓reduceIte,reduceCtorEq,Nat.reduceEqDiff,Nat.reduceAdd,Nat.reduceSub,Nat.reduceLeDiff,Nat.reduceLT,Nat.zero_add,Nat.add_zero,Nat.sub_zero,decide_false,List.length_cons,List.length_nil,List.append_nil,List.flatMap_cons,List.flatMap_nil,Bool.and_self,true_and,and_self,and_assoc,forall_const,imp_self,implies_true,or_false,maxLen,Nat.reducePow,keepF,appF,updB,inat,Pm.c0]
        repeat' (first | omega | (with_reducible apply And.intro) | intro _)
        refine inv_frz [2] (preI g D k,k :: tl) rfl (by intro b _ n hn; cases hn) ⟨hb2,hb3.2.1,?_⟩ (dep_lt hg hk hb2 hb3) ?_
        · show chI g D h = chI g D (preI g D k) ++ (k :: tl)
          rw [hch,chI_step hg hD hk hs hkn,List.append_assoc]; rfl
        · simp only [Chk,chkFr,chkBx,chkBx1,hasB,idsLt,kept,vs_int,vs_nil,vs_ptr,vs_cons,vs_view,fget,isLB,bget,bdel,subFr,subV,subBx,vp_int,vsubP_self,↓reduceIte,reduceCtorEq,Nat.reduceEqDiff,Nat.reduceLT,List.length_cons,and_true,true_and,and_self,forall_const,implies_true,Option.some.injEq,exists_eq']
          refine ⟨by omega,fun i hi b hb => ?_⟩
          cases i with
          | zero => obtain rfl : b = 0 := by omega
                    rfl
          | succ i => rw [if_neg (by omega)]; rfl
end Go.Proofs.Ytpknbojgkkmonaa
