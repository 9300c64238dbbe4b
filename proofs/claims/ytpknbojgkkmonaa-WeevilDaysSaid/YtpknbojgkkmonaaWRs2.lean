/- Groves, the reference: Soonest, asked, Gifts. No condition. -/
import Derived.Test.YtpknbojgkkmonaaWRsP
import Derived.Test.YtpknbojgkkmonaaWSem
import Derived.Test.YtpknbojgkkmonaaWPln2
set_option linter.unusedSimpArgs false
set_option linter.unusedVariables false
namespace Go.Proofs.Ytpknbojgkkmonaa
open Go Go.RowKit
variable {G : Nat → Option (Nat × (Nat → Val))}
set_option maxHeartbeats 4000000 in
set_option maxRecDepth 100000 in
theorem pSoonR : PureOk Try.prog G 23 sSoonest := by
  refine fnX2 (S := [(38,sSigns),(47,sLower),(48,sFit)]) (I := []) (X := [(49,sSoon9)]) mixed (.cons pSigns (.cons pLower (.cons pFit .nil))) .nil (.cons pSoon9 .nil) Try.func23 c23 fun g l _ hw => ?_
  simp only [vl,WfT,Val.toInt,Val.slen,Val.scell,Nat.reduceSub,and_true,true_and,and_assoc,maxLen,Nat.reducePow,TSl,RInt,RPm,Pm.d,RPl,Pl.d,Gv.L,TGv,RSg,Sg.d] at hw
  obtain ⟨w1,w2,w3,w4⟩ := hw
  by_cases h0 : sgsE g l = 0
  · obtain ⟨hg,hl30,hl⟩ := sgsE_0 h0
    have hn24 := hg.pms.n
    have hst := hg.start
    have hlow : ∀ m,m ≤ l.1 → ∀ i,i < g.palms.1 → 0 ≤ lowF g l.2 m i ∧ lowF g l.2 m i ≤ 100001 := fun m hm i _ => lowF_bd hg hl m hm i
    obtain ⟨dy,hdy⟩ : ∃ dy,dyF g l = dy := ⟨_,rfl⟩
    have hdy' : ∀ m,daysF g (lowF g l.2 m) = dy m := fun m => by rw [← hdy]; rfl
    have hfit : ∀ m,(∀ j,j < m → fitP g (l.2 j) (dy m)) ↔ okP g l m := fun m => by unfold okP; rw [hdy]
    have r1 : stE g l = sooE g l := if_pos h0
    have r2 : stA g l = sooA g l := if_pos h0
    have r3 : stD g l = sooD g l := if_pos h0
    simp only [RunToX,a23,sSigns,h0,r1,r2,r3,w1,w2,w3,w4,↓imp_ft,↓imp_ff,runO_4,runO_5,runO_6,runO_14,runO_15,runO_17,runO_18,runO_19,aop,binV,ev,fget,fput,params,cellsOf,cellsN,isLB,vget,vlen,bget,addB,addN,mkv,sliceV,vtab,frz,opOwns,preFz,callFz,skipOp,WfT,norm,norms,norm1,normL,pureB,pureL,specV,argsL,capsL,mkX_S,mkX_I,lkp,Fin,Val.toInt,Val.slen,Val.scell,↓reduceIte,reduceCtorEq,Nat.reduceEqDiff,Nat.reduceAdd,Nat.reduceSub,Nat.zero_add,List.length_cons,List.length_nil,List.append_nil,Bool.and_self,bne_self_eq_false,and_true,true_and,and_self,and_assoc,forall_const,imp_self,implies_true,Nat.le_refl,maxLen,Nat.reducePow,spec2,TSl,IsSl,RInt,Prod.eta,Pm.c0,Pm.c1,Pm.c2,Pm.c3,Pm.c4,RPm,Pm.w_c,Pm.d,Pm.eta,Pl.c0,Pl.c1,RPl,Pl.w_c,Pl.d,Pl.eta,Gv.L,Gv.Is,Gv.of,TGv,Gv.d,Gv.eta,Sg.c0,Sg.c1,Sg.c2,Sg.c3,Sg.c4,Sg.c5,RSg,Sg.w_c,Sg.d,Sg.eta,toUI_val]
    refine loopI (ι := Nat) (fun j => j ≤ l.1 ∧ ∀ i,i < j → okP g l (i + 1)) (fun j => l.1 - j) [1,2] (fun j => [(8,.int .i64 j)]) (fun _ => []) 0 ⟨by omega,fun i h => by omega⟩ (by simp only [Chk,chkFr,chkBx,chkBx1,hasB,idsLt,kept,vs_int,vs_nil,vs_ptr,vs_cons,vs_view,fget,isLB,bget,vsubP_self,↓reduceIte,reduceCtorEq,Nat.reduceEqDiff,Nat.reduceLT,Int.cast_ofNat_Int,and_self,forall_const,implies_true,Option.some.injEq,exists_eq',keepF,appF,updB]; try rfl) fun j hj => ?_
    obtain ⟨hj1,hj2⟩ := hj
    by_cases hjl : j < l.1
    · have fj : ((j : Int) < (l.1 : Int)) = True := eq_true (by omega)
      have e1 : IntKind.i64.wrap ((j : Int) + 1) = ((j + 1 : Nat) : Int) := by rw [wr64 (by omega) (by omega)]; omega
      by_cases hok : okP g l (j + 1)
      · have f2 : decP (∀ i,i < j + 1 → fitP g (l.2 i) (dy (j + 1))) = true := decP_t ((hfit (j + 1)).2 hok)
        simp only [sLower,sFit,sSoon9,hg,hdy',fj,e1,f2,w4,Int.sub_zero,Int.toNat_natCast,flatO,Spec.mine,↓imp_tt,↓imp_tf,↓imp_ft,↓imp_ff,runO_4,runO_5,runO_6,runO_8,runO_14,runO_16,runO_17,runO_18,runO_19,aop,binV,reOk,dstV,ev,fget,fput,cellsOf,isLB,vget,vlen,bget,bset,addB,addN,mkv,sliceV,vtab,frz,opOwns,preFz,callFz,skipOp,WfT,norm,norms,norm1,normL,pureB,pureL,flatB,snapV,snapOk,snapL,snapOks,specV,argsL,capsL,mkX_S,mkX_I,mkX_X,eatR,eatB,eatI,lkp,optInt,lenV,subFr,subV,subBx,subStk,stkFr,stkNx,Val.toInt,Val.slen,Val.scell,↓reduceIte,reduceCtorEq,Nat.reduceEqDiff,Nat.reduceAdd,Nat.reduceSub,Nat.reduceLT,Nat.zero_add,Int.reduceToNat,Int.reduceLE,decide_true,List.length_cons,List.length_nil,List.nil_append,List.cons_append,List.append_nil,Bool.and_true,Bool.and_false,Bool.and_self,Bool.not_true,and_true,true_and,and_self,and_assoc,forall_const,imp_self,implies_true,Nat.le_refl,maxLen,Nat.reducePow,keepF,appF,updB,spec2,spec3,TSl,IsSl,RInt,Prod.eta,Pm.c0,Pm.c1,Pm.c2,Pm.c3,Pm.c4,RPm,Pm.w_c,Pm.d,Pm.eta,Pl.c0,Pl.c1,RPl,Pl.w_c,Pl.d,Pl.eta,Gv.L,Gv.Is,Gv.of,TGv,Gv.d,Gv.eta,Sg.c0,Sg.c1,Sg.c2,Sg.c3,Sg.c4,Sg.c5,RSg,Sg.w_c,Sg.d,Sg.eta,toUI_val]
        repeat' (first | omega | (with_reducible apply And.intro) | intro _)
        all_goals first
          | exact hl _ (by omega)
          | exact (hlow (j + 1) (by omega) _ (by assumption)).1
          | exact (hlow (j + 1) (by omega) _ (by assumption)).2
          | (refine inv_intro (j + 1) ⟨by omega,fun i hi => ?_⟩ (by omega) ?_
             rotate_left
             · simp only [Chk,chkFr,chkBx,chkBx1,hasB,idsLt,kept,vs_int,vs_nil,vs_ptr,vs_cons,vs_view,Nat.lt_irrefl,fget,isLB,bget,vsubP_self,↓reduceIte,reduceCtorEq,Nat.reduceEqDiff,Nat.reduceLT,and_self,forall_const,implies_true,Option.some.injEq,exists_eq',false_implies]
               try rfl
             rcases Nat.lt_or_ge i j with h5 | h5
             · exact hj2 i h5
             · obtain rfl : i = j := by omega
               exact hok)
      · have f2 : decP (∀ i,i < j + 1 → fitP g (l.2 i) (dy (j + 1))) = false := decP_f fun h => hok ((hfit (j + 1)).1 h)
        have hno : ¬ okP g l l.1 := fun h => hok (ok_less hg hl h (by omega))
        have hbad : badI g l = j := badI_at hjl hok hj2
        have q1 : sooE g l = 92 := sooE_92 hno
        have q2 : sooA g l = j := by rw [sooA_92 hno,hbad]
        have q3 : sooD g l = .nils := by unfold sooD; rw [show okB g l = false from decP_f hno]; rfl
        simp only [sLower,sFit,sSoon9,hg,hdy',fj,e1,f2,q1,q2,q3,w4,Int.sub_zero,Int.toNat_natCast,flatO,Spec.mine,↓imp_tt,↓imp_tf,runO_3,runO_4,runO_5,runO_6,runO_14,runO_17,runO_18,runO_19,aop,binV,ends,reOk,dstV,ev,fget,fput,cellsOf,isLB,vget,vlen,bget,bset,addB,addN,mkv,sliceV,vtab,frz,opOwns,preFz,callFz,skipOp,WfT,resV,resL,res1,norm,norms,norm1,normL,pureB,pureL,flatB,snapV,snapOk,snapL,snapOks,specV,argsL,capsL,mkX_S,mkX_I,mkX_X,eatR,eatB,eatI,lkp,optInt,lenV,subFr,subV,subBx,subStk,stkFr,stkNx,vsubP_self,Val.toInt,Val.slen,Val.scell,↓reduceIte,reduceCtorEq,Nat.reduceEqDiff,Nat.reduceAdd,Nat.reduceSub,Nat.reduceLT,Nat.zero_add,Int.reduceToNat,Int.reduceLE,decide_true,List.length_cons,List.length_nil,List.nil_append,List.cons_append,List.append_nil,Bool.and_true,Bool.and_false,Bool.and_self,Bool.not_true,Bool.not_false,and_true,true_and,and_self,and_assoc,forall_const,imp_self,implies_true,Nat.le_refl,maxLen,Nat.reducePow,keepF,appF,updB,spec2,spec3,TSl,IsSl,RInt,Prod.eta,Pm.c0,Pm.c1,Pm.c2,Pm.c3,Pm.c4,RPm,Pm.w_c,Pm.d,Pm.eta,Pl.c0,Pl.c1,RPl,Pl.w_c,Pl.d,Pl.eta,Gv.L,Gv.Is,Gv.of,TGv,Gv.d,Gv.eta,Sg.c0,Sg.c1,Sg.c2,Sg.c3,Sg.c4,Sg.c5,RSg,Sg.w_c,Sg.d,Sg.eta,toUI_val]
        repeat' (first | omega | (with_reducible apply And.intro) | intro _)
        all_goals first
          | exact hl _ (by omega)
          | exact (hlow (j + 1) (by omega) _ (by assumption)).1
          | exact (hlow (j + 1) (by omega) _ (by assumption)).2
    · have fj : ((j : Int) < (l.1 : Int)) = False := eq_false (by omega)
      obtain rfl : j = l.1 := by omega
      have hok : okP g l l.1 := by
        rcases Nat.eq_zero_or_pos l.1 with h1 | h1
        · intro i hi; omega
        · have := hj2 (l.1 - 1) (by omega)
          rw [Nat.sub_add_cancel h1] at this
          exact this
      have q1 : sooE g l = 0 := sooE_0 hok
      have q2 : sooA g l = 0 := sooA_0 hok
      have q3 : sooD g l = .view 1 g.palms.1 fun i _ => .int .i64 (dy l.1 i) := by rw [← hdy]; exact if_pos (decP_t hok)
      simp only [sLower,sFit,sSoon9,hg,hdy',fj,q1,q2,q3,w4,Spec.mine,↓imp_ft,↓imp_ff,runO_3,runO_5,runO_9,runO_14,runO_17,runO_18,runO_19,aop,binV,ends,reOk,dstV,ev,fget,fput,cellsOf,isLB,vget,vlen,bget,bset,addB,addN,mkv,sliceV,vtab,frz,opOwns,preFz,skipOp,WfT,resV,resL,res1,norm,norms,norm1,normL,pureB,pureL,snapV,snapOk,specV,argsL,capsL,mkX_S,mkX_I,mkX_X,eatR,eatB,eatI,lkp,lenV,subFr,subV,subBx,subStk,popTo,stkFr,stkNx,vsubP_self,Val.toInt,Val.slen,Val.scell,↓reduceIte,reduceCtorEq,Nat.reduceEqDiff,Nat.reduceAdd,Nat.reduceSub,Nat.reduceLT,Nat.zero_add,decide_false,List.length_cons,List.length_nil,List.nil_append,List.cons_append,List.append_nil,Bool.and_self,and_true,true_and,and_self,and_assoc,forall_const,imp_self,implies_true,Nat.le_refl,maxLen,Nat.reducePow,keepF,appF,updB,spec2,spec3,TSl,IsSl,RInt,Prod.eta,Pm.c0,Pm.c1,Pm.c2,Pm.c3,Pm.c4,RPm,Pm.w_c,Pm.d,Pm.eta,Pl.c0,Pl.c1,RPl,Pl.w_c,Pl.d,Pl.eta,Gv.L,Gv.Is,Gv.of,TGv,Gv.d,Gv.eta,Sg.c0,Sg.c1,Sg.c2,Sg.c3,Sg.c4,Sg.c5,RSg,Sg.w_c,Sg.d,Sg.eta,toUI_val]
      repeat' (first | omega | (with_reducible apply And.intro) | intro _)
      all_goals first
        | exact hl _ (by omega)
        | exact (hlow l.1 (by omega) _ (by assumption)).1
        | exact (hlow l.1 (by omega) _ (by assumption)).2
        | rfl
  · have r1 : stE g l = sgsE g l := if_neg h0
    have r2 : stA g l = 0 := if_neg h0
    have r3 : stD g l = .nils := if_neg h0
    simp only [RunToX,a23,sSigns,h0,r1,r2,r3,w1,w2,w3,w4,runO_3,runO_4,runO_5,runO_6,runO_14,runO_15,runO_17,runO_18,runO_19,aop,binV,ends,ev,fget,fput,params,cellsOf,cellsN,isLB,vget,vlen,bget,addB,addN,mkv,sliceV,vtab,frz,opOwns,preFz,callFz,skipOp,WfT,resV,resL,res1,norm,norms,norm1,normL,pureB,pureL,snapV,snapOk,specV,argsL,capsL,mkX_S,mkX_I,lkp,Fin,vsubP_self,Val.toInt,Val.slen,Val.scell,↓reduceIte,reduceCtorEq,Nat.reduceEqDiff,Nat.reduceAdd,Nat.reduceSub,Nat.zero_add,bne_iff_ne,bne_eq_false_iff_eq,List.length_cons,List.length_nil,List.append_nil,Bool.and_self,and_true,true_and,and_self,and_assoc,forall_const,imp_self,implies_true,Nat.le_refl,ne_eq,not_false_eq_true,false_implies,not_false_eq_true,maxLen,Nat.reducePow,spec2,TSl,IsSl,RInt,Prod.eta,Pm.c0,Pm.c1,Pm.c2,Pm.c3,Pm.c4,RPm,Pm.w_c,Pm.d,Pm.eta,Pl.c0,Pl.c1,RPl,Pl.w_c,Pl.d,Pl.eta,Gv.L,Gv.Is,Gv.of,TGv,Gv.d,Gv.eta,Sg.c0,Sg.c1,Sg.c2,Sg.c3,Sg.c4,Sg.c5,RSg,Sg.w_c,Sg.d,Sg.eta,toUI_val]
end Go.Proofs.Ytpknbojgkkmonaa
