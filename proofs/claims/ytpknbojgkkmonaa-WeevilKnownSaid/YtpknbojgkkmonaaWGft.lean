/- Groves, the program: Gifts. No condition. -/
import Derived.Test.YtpknbojgkkmonaaWIll
import Derived.Test.YtpknbojgkkmonaaWHis
set_option linter.unusedSimpArgs false
set_option linter.unusedVariables false
namespace Go.Proofs.Ytpknbojgkkmonaa
open Go Go.RowKit
variable {G : Nat → Option (Nat × (Nat → Val))}
noncomputable def selF {α : Type} (p : Nat → Prop) (f : Nat → α) (z : α) : Nat → Nat × (Nat → α)
  | 0 => (0,fun _ => z)
  | j + 1 => @ite _ (p j) (Classical.propDecidable _) ((selF p f z j).1 + 1,fun k => if k < (selF p f z j).1 then (selF p f z j).2 k else f j) (selF p f z j)
theorem sel_t {α : Type} {p : Nat → Prop} {f : Nat → α} {z : α} {j : Nat} (h : p j) : selF p f z (j + 1) = ((selF p f z j).1 + 1,fun k => if k < (selF p f z j).1 then (selF p f z j).2 k else f j) := by
  rw [selF,@if_pos _ (Classical.propDecidable _) h]
theorem sel_f {α : Type} {p : Nat → Prop} {f : Nat → α} {z : α} {j : Nat} (h : ¬ p j) : selF p f z (j + 1) = selF p f z j := by
  rw [selF,@if_neg _ (Classical.propDecidable _) h]
theorem sel_le {α : Type} {p : Nat → Prop} {f : Nat → α} {z : α} (j : Nat) : (selF p f z j).1 ≤ j := by
  induction j with
  | zero => exact Nat.le_refl _
  | succ j ih =>
    by_cases h : p j
    · rw [sel_t h]; show (selF p f z j).1 + 1 ≤ j + 1; omega
    · rw [sel_f h]; omega
theorem sel_mem {α : Type} {p : Nat → Prop} {f : Nat → α} {z : α} (j : Nat) : ∀ k,k < (selF p f z j).1 → ∃ i,i < j ∧ p i ∧ (selF p f z j).2 k = f i := by
  induction j with
  | zero => intro k h; exact absurd h (Nat.not_lt_zero _)
  | succ j ih =>
    intro k hk
    by_cases h : p j
    · rw [sel_t h] at hk ⊢
      by_cases h2 : k < (selF p f z j).1
      · obtain ⟨i,h3,h4,h5⟩ := ih k h2
        exact ⟨i,by omega,h4,by show (if k < (selF p f z j).1 then _ else _) = _; rw [if_pos h2]; exact h5⟩
      · exact ⟨j,by omega,h,by show (if k < (selF p f z j).1 then _ else _) = _; rw [if_neg h2]⟩
    · rw [sel_f h] at hk ⊢
      obtain ⟨i,h3,h4,h5⟩ := ih k hk
      exact ⟨i,by omega,h4,h5⟩
def giftOk (g : Gv) (l : Sgs) (day : Int) (i : Nat) : Prop := dyF g l l.1 i > day ∧ day - (g.palms.2 i).planted ≥ 1000
noncomputable def gfF (g : Gv) (l : Sgs) (day : Int) (j : Nat) : Nat × (Nat → Int) := selF (giftOk g l day) (fun i => (g.palms.2 i).id) 0 j
noncomputable def gfD (g : Gv) (l : Sgs) (day : Int) : Val := if asE g l day = 0 then .view 1 (gfF g l day g.palms.1).1 fun i _ => .int .i64 ((gfF g l day g.palms.1).2 i) else .nils
noncomputable def sGifts : Spec := spec3 TGv (TSl RSg) TI (fun _ _ _ => True) fun g l day => .tup (.cons (gfD g l day) (.cons (.int .i64 (asE g l day)) .nil))
set_option maxHeartbeats 2000000 in
set_option maxRecDepth 100000 in
theorem pGifts : PureOk Try.prog G 17 sGifts := by
  refine fn3 (S := [(41,sAsked)]) (I := []) mixed (.cons pAsked .nil) .nil Try.func17 c17 fun g l day _ hw => ?_
  simp only [vl,WfT,Val.toInt,Val.slen,Val.scell,Nat.reduceSub,and_true,true_and,and_self,and_assoc,maxLen,Nat.reducePow,TSl,TInt,RInt,RPm,Pm.d,RPl,Pl.d,Gv.L,TGv,RSg,Sg.d] at hw
  obtain ⟨w1,w2,w3,w4⟩ := hw
  by_cases h0 : asE g l day = 0
  · obtain ⟨hg,⟨hl30,hl⟩,hd,hb⟩ := asE_0 h0
    have hg0 := gvE_ok hg
    have hn24 := hg.pms.n
    have hst := hg.start
    have r1 : asD g l day = .view 1 g.palms.1 fun i _ => .int .i64 (dyF g l l.1 i) := if_pos h0
    have r2 : gfD g l day = .view 1 (gfF g l day g.palms.1).1 fun i _ => .int .i64 ((gfF g l day g.palms.1).2 i) := if_pos h0
    obtain ⟨F,hF⟩ : ∃ F,gfF g l day = F := ⟨_,rfl⟩
    have hFn : ∀ j,(F j).1 ≤ j := fun j => by rw [← hF]; exact sel_le j
    have hF0 : F 0 = (0,fun _ => 0) := by rw [← hF]; rfl
    rw [hF] at r2
    simp only [RunTo,a17,sAsked,h0,hg0,ptV_0,Pt.L,r1,r2,w1,w2,w3,w4,↓imp_ft,↓imp_ff,runO_4,runO_5,runO_6,runO_14,runO_15,runO_17,runO_18,runO_19,aop,binV,reOk,Nat.zero_sub,ev,fget,fput,params,cellsOf,cellsN,isLB,vget,vset,vsets,vlen,bget,bset,addB,addN,mkv,sliceV,vtab,frz,opOwns,preFz,callFz,skipOp,WfT,norm,norms,norm1,normL,pureB,pureL,onesB,specV,argsL,capsL,mkE_S,mkE_I,lkp,lenV,Fin,Val.toInt,Val.slen,Val.scell,↓reduceIte,reduceCtorEq,Nat.reduceEqDiff,Nat.reduceAdd,Nat.reduceSub,Nat.reduceLeDiff,Nat.reduceLT,Nat.zero_add,Nat.add_zero,List.length_cons,List.length_nil,List.append_nil,Bool.and_self,bne_self_eq_false,and_true,true_and,and_self,and_assoc,forall_const,imp_self,implies_true,Nat.le_refl,maxLen,Nat.reducePow,spec3,TSl,IsSl,TInt,IsInt,RInt,Prod.eta,Pm.c0,Pm.c1,Pm.c2,Pm.c3,Pm.c4,RPm,Pm.w_c,Pm.d,Pm.eta,Pl.c0,Pl.c1,RPl,Pl.w_c,Pl.d,Pl.eta,Gv.L,Gv.Is,Gv.of,TGv,Gv.d,Gv.eta,Sg.c0,Sg.c1,Sg.c2,Sg.c3,Sg.c4,Sg.c5,RSg,Sg.w_c,Sg.d,Sg.eta,toUI_val]
    refine loopJ (ι := Nat) (fun j => j ≤ g.palms.1) (fun j => g.palms.1 - j) [2,9,27,28] (fun j => [(11,.own 2),(29,.int .i64 j)]) (fun j => [(2,.row 3 1 (F j).1 fun i _ => .int .i64 ((F j).2 i))]) 1 0 (by omega) (by simp only [hF0,Chk,chkFr,chkBx,chkBx1,newIn,hasB,idsLt,kept,vs_int,vs_nil,vs_own,vs_cons,vs_view,vs_mview,fget,isLB,bget,bset,vsubP_self,↓reduceIte,reduceCtorEq,Nat.reduceEqDiff,Nat.reduceAdd,Nat.reduceLT,Int.cast_ofNat_Int,and_true,and_self,forall_const,implies_true,Option.some.injEq,exists_eq',or_true,keepF,appF,updB]) fun j hj => ?_
    by_cases hjl : j < g.palms.1
    · have fj : ((j : Int) < (g.palms.1 : Int)) = True := eq_true (by omega)
      have hpl := hg.pms.pl j hjl
      have e1 : IntKind.i64.wrap (day - (g.palms.2 j).planted) = day - (g.palms.2 j).planted := wr64 (by omega) (by omega)
      have hFj := hFn j
      by_cases h1 : dyF g l l.1 j > day
      · have f1 := eq_true h1
        by_cases h2 : day - (g.palms.2 j).planted ≥ 1000
        · have f2 := eq_true h2
          have en : F (j + 1) = ((F j).1 + 1,fun k => if k < (F j).1 then (F j).2 k else (g.palms.2 j).id) := by rw [← hF]; exact sel_t ⟨h1,h2⟩
          simp only [fj,f1,f2,e1,w1,↓imp_tt,↓imp_tf,runO_4,runO_5,runO_6,runO_8,runO_14,runO_16,runO_17,runO_18,runO_19,aop,binV,reOk,Nat.zero_sub,ev,fget,fput,cellsOf,cellsN,isLB,vget,vset,vsets,vlen,bget,bset,addB,addN,mkv,sliceV,vtab,rowsV,rowsOk,vrep,frz,opOwns,preFz,owns,skipOp,WfT,casts,castOks,cast1,castOk,pureB,onesB,mkE_G,pickV,subFr,subV,subBx,subStk,elemsV,stkFr,stkNx,Val.toInt,↓reduceIte,reduceCtorEq,Nat.reduceEqDiff,Nat.reduceAdd,Nat.reduceSub,Nat.reduceLeDiff,Nat.reduceLT,Nat.zero_add,Nat.add_zero,decide_true,List.length_cons,List.length_nil,List.append_nil,List.flatMap_cons,List.flatMap_nil,Bool.and_self,bne_self_eq_false,and_true,true_and,and_self,forall_const,imp_self,implies_true,Nat.le_refl,or_false,maxLen,Nat.reducePow,keepF,appF,updB,inat,Pm.c0,Pm.c1,Pm.c2,Pm.c3,Pm.c4]
          repeat' (first | omega | (with_reducible apply And.intro) | intro _)
          refine inv_intro (j + 1) (by omega) (by omega) ?_
          simp only [en,Chk,chkFr,chkBx,chkBx1,newIn,hasB,idsLt,kept,vs_int,vs_nil,vs_own,vs_cons,vs_view,vs_mview,Nat.lt_irrefl,fget,isLB,bget,vp_int,vsubP_self,↓reduceIte,reduceCtorEq,Nat.reduceEqDiff,Nat.reduceLT,and_true,true_and,and_self,forall_const,implies_true,Option.some.injEq,Val.int.injEq,exists_eq',false_implies,or_false]
          rw [wrS (by omega)]
          refine ⟨rfl,fun i hi b hb => ?_⟩
          obtain rfl : b = 0 := by omega
          by_cases h5 : i < (F j).1
          · rw [if_pos h5,if_pos h5]
          · obtain rfl : i = (F j).1 := by omega
            rw [if_neg h5,if_neg h5,Nat.sub_self]; rfl
        · have f2 := eq_false h2
          have en : F (j + 1) = F j := by rw [← hF]; exact sel_f fun h => h2 h.2
          simp only [fj,f1,f2,e1,w1,↓imp_tt,↓imp_tf,↓imp_ft,↓imp_ff,runO_4,runO_5,runO_6,runO_8,runO_14,runO_16,runO_17,runO_18,runO_19,aop,binV,reOk,Nat.zero_sub,ev,fget,fput,cellsOf,cellsN,isLB,vget,vset,vsets,vlen,bget,bset,addB,addN,mkv,sliceV,vtab,frz,opOwns,preFz,skipOp,WfT,casts,castOks,cast1,castOk,onesB,pickV,stkFr,stkNx,Val.toInt,↓reduceIte,reduceCtorEq,Nat.reduceEqDiff,Nat.reduceAdd,Nat.reduceSub,Nat.reduceLeDiff,Nat.zero_add,decide_true,decide_false,List.length_cons,List.length_nil,Bool.and_self,bne_self_eq_false,and_true,true_and,and_self,forall_const,imp_self,implies_true,Nat.le_refl,maxLen,Nat.reducePow,keepF,appF,updB,inat,Pm.c0,Pm.c1,Pm.c2,Pm.c3,Pm.c4]
          repeat' (first | omega | (with_reducible apply And.intro) | intro _)
          refine inv_intro (j + 1) (by omega) (by omega) ?_
          simp only [en,Chk,chkFr,chkBx,chkBx1,newIn,hasB,idsLt,kept,vs_int,vs_nil,vs_own,vs_cons,vs_view,vs_mview,Nat.lt_irrefl,fget,isLB,bget,vsubP_self,↓reduceIte,reduceCtorEq,Nat.reduceEqDiff,Nat.reduceLT,and_true,true_and,and_self,forall_const,implies_true,Option.some.injEq,Val.int.injEq,exists_eq',false_implies,or_false]
          rw [wrS (by omega)]
      · have f1 := eq_false h1
        have en : F (j + 1) = F j := by rw [← hF]; exact sel_f fun h => h1 h.1
        simp only [fj,f1,w1,↓imp_tt,↓imp_tf,↓imp_ft,↓imp_ff,runO_4,runO_5,runO_6,runO_8,runO_14,runO_16,runO_17,runO_18,runO_19,aop,binV,reOk,Nat.zero_sub,ev,fget,fput,cellsOf,cellsN,isLB,vget,vset,vsets,vlen,bget,bset,addB,addN,mkv,frz,opOwns,preFz,skipOp,WfT,casts,castOks,cast1,castOk,onesB,pickV,stkFr,stkNx,Val.toInt,↓reduceIte,reduceCtorEq,Nat.reduceEqDiff,Nat.reduceAdd,Nat.reduceSub,Nat.zero_add,decide_true,decide_false,List.length_cons,List.length_nil,Bool.and_self,Bool.bne_true,Bool.not_false,and_true,true_and,and_self,forall_const,imp_self,implies_true,Nat.le_refl,maxLen,Nat.reducePow,keepF,appF,updB,inat,Pm.c0,Pm.c1,Pm.c2,Pm.c3,Pm.c4]
        repeat' (first | omega | (with_reducible apply And.intro) | intro _)
        refine inv_intro (j + 1) (by omega) (by omega) ?_
        simp only [en,Chk,chkFr,chkBx,chkBx1,newIn,hasB,idsLt,kept,vs_int,vs_nil,vs_own,vs_cons,vs_view,vs_mview,Nat.lt_irrefl,fget,isLB,bget,vsubP_self,↓reduceIte,reduceCtorEq,Nat.reduceEqDiff,Nat.reduceLT,and_true,true_and,and_self,forall_const,implies_true,Option.some.injEq,Val.int.injEq,exists_eq',false_implies,or_false]
        rw [wrS (by omega)]
    · have fj : ((j : Int) < (g.palms.1 : Int)) = False := eq_false (by omega)
      obtain rfl : j = g.palms.1 := by omega
      simp only [fj,↓imp_ft,↓imp_ff,runO_3,runO_5,runO_9,runO_14,runO_17,runO_18,runO_19,aop,binV,ends,ev,fget,fput,bget,bset,addB,addN,frz,opOwns,preFz,skipOp,WfT,resV,resL,res1,snapV,snapOk,popTo,stkFr,stkNx,vsubP_self,↓reduceIte,reduceCtorEq,Nat.reduceEqDiff,Nat.reduceAdd,decide_false,Bool.and_self,and_self,forall_const,imp_self,implies_true,keepF,appF,updB]
  · have r1 : asD g l day = .nils := if_neg h0
    have r2 : gfD g l day = .nils := if_neg h0
    by_cases hg0 : gvE g = 0
    · simp only [RunTo,a17,sAsked,h0,hg0,ptV_0,Pt.L,r1,r2,w1,w2,w3,w4,runO_3,runO_4,runO_5,runO_6,runO_14,runO_15,runO_17,runO_18,runO_19,aop,binV,ends,reOk,Nat.zero_sub,ev,fget,fput,params,cellsOf,cellsN,isLB,vget,vset,vsets,vlen,bget,bset,addB,addN,mkv,sliceV,vtab,frz,opOwns,preFz,callFz,skipOp,WfT,resV,resL,res1,norm,norms,norm1,normL,pureB,pureL,onesB,snapV,snapOk,specV,argsL,capsL,mkE_S,mkE_I,lkp,lenV,Fin,vsubP_self,Val.toInt,Val.slen,Val.scell,↓reduceIte,reduceCtorEq,Nat.reduceEqDiff,Nat.reduceAdd,Nat.reduceSub,Nat.reduceLeDiff,Nat.reduceLT,Nat.zero_add,Nat.add_zero,bne_iff_ne,bne_eq_false_iff_eq,List.length_cons,List.length_nil,List.append_nil,Bool.and_self,and_true,true_and,and_self,and_assoc,forall_const,imp_self,implies_true,Nat.le_refl,ne_eq,not_false_eq_true,false_implies,not_false_eq_true,maxLen,Nat.reducePow,spec3,TSl,IsSl,TInt,IsInt,RInt,Prod.eta,Pm.c0,Pm.c1,Pm.c2,Pm.c3,Pm.c4,RPm,Pm.w_c,Pm.d,Pm.eta,Pl.c0,Pl.c1,RPl,Pl.w_c,Pl.d,Pl.eta,Gv.L,Gv.Is,Gv.of,TGv,Gv.d,Gv.eta,Sg.c0,Sg.c1,Sg.c2,Sg.c3,Sg.c4,Sg.c5,RSg,Sg.w_c,Sg.d,Sg.eta,toUI_val]
    · have ez := ptV_no (g := g) hg0
      simp only [RunTo,a17,sAsked,h0,ez,ptZ,r1,r2,w1,w2,w3,w4,runO_3,runO_4,runO_5,runO_6,runO_14,runO_15,runO_17,runO_18,runO_19,aop,binV,ends,reOk,Nat.zero_sub,ev,fget,fput,params,cellsOf,cellsN,isLB,vget,vset,vsets,vlen,bget,bset,addB,addN,mkv,sliceV,vtab,frz,opOwns,preFz,callFz,skipOp,WfT,resV,resL,res1,norm,norms,norm1,normL,pureB,pureL,onesB,snapV,snapOk,specV,argsL,capsL,mkE_S,mkE_I,lkp,lenV,Fin,vsubP_self,Val.toInt,Val.slen,Val.scell,↓reduceIte,reduceCtorEq,Nat.reduceEqDiff,Nat.reduceAdd,Nat.reduceSub,Nat.reduceLeDiff,Nat.reduceLT,Nat.zero_add,Nat.add_zero,bne_iff_ne,bne_eq_false_iff_eq,List.length_cons,List.length_nil,List.append_nil,Bool.and_self,and_true,true_and,and_self,and_assoc,forall_const,imp_self,implies_true,Nat.le_refl,ne_eq,not_false_eq_true,false_implies,not_false_eq_true,maxLen,Nat.reducePow,spec3,TSl,IsSl,TInt,IsInt,RInt,Prod.eta,Pm.c0,Pm.c1,Pm.c2,Pm.c3,Pm.c4,RPm,Pm.w_c,Pm.d,Pm.eta,Pl.c0,Pl.c1,RPl,Pl.w_c,Pl.d,Pl.eta,Gv.L,Gv.Is,Gv.of,TGv,Gv.d,Gv.eta,Sg.c0,Sg.c1,Sg.c2,Sg.c3,Sg.c4,Sg.c5,RSg,Sg.w_c,Sg.d,Sg.eta,toUI_val]
end Go.Proofs.Ytpknbojgkkmonaa
