/- Palms: what is known; the reference's Known. No condition. -/
import Derived.Test.YtlapepdhkomijaaPSel
set_option linter.unusedSimpArgs false
set_option linter.unusedVariables false
namespace Go.Proofs.Ytlapepdhkomijaa
open Go Go.RowKit
variable {G : Nat → Option (Nat × (Nat → Val))}
def mxF (p : Nat → Bool) (f : Nat → Int) : Nat → Int → Int
 | 0,x => x
 | n + 1,x => if p n = true then max (mxF p f n x) (f n) else mxF p f n x
def ctrP (l : Pms) (i k : Nat) : Prop := ((l.2 i).sex.1 ≠ 0 ∧ (l.2 k).sex.1 ≠ 0 ∧ (l.2 i).sex.1 ≠ (l.2 k).sex.1) ∨ ((l.2 i).sort ≠ 0 ∧ (l.2 k).sort ≠ 0 ∧ (l.2 i).sort ≠ (l.2 k).sort)
noncomputable def badI (l : Pms) : Nat := fstI (fun i => ∃ k,k < i ∧ clnB l i k = true ∧ ctrP l i k) l.1
noncomputable def sexF (l : Pms) (i : Nat) : Int := mxF (clnB l i) (fun k => (l.2 k).sex.1) l.1 (l.2 i).sex.1
noncomputable def sortF (l : Pms) (i : Nat) : Int := mxF (clnB l i) (fun k => (l.2 k).sort) l.1 (l.2 i).sort
noncomputable def knP (l : Pms) (i : Nat) : Pm := ⟨(l.2 i).id,(l.2 i).mother,(l.2 i).planted,toUI .u8 (sexF l i),sortF l i⟩
theorem mxF_in {p : Nat → Bool} {f : Nat → Int} {a b : Int} : ∀ {n : Nat} {x : Int},(a ≤ x ∧ x ≤ b) → (∀ i,i < n → a ≤ f i ∧ f i ≤ b) → a ≤ mxF p f n x ∧ mxF p f n x ≤ b := by
 intro n
 induction n with
 | zero => intro x hx _; exact hx
 | succ n ih =>
  intro x hx h
  have h1 := ih hx fun i hi => h i (by omega)
  have h2 := h n (by omega)
  simp only [mxF]; split
  ·omega
  ·exact h1
noncomputable def sKnown7 : Spec := spec1 (TSl RPm) (fun _ => True) fun l => if pmE l = 0 then (if badI l < l.1 then .tup (.cons .nils (.cons (.int .i64 (badI l : Nat)) (.cons (.int .i64 71) .nil))) else .tup (.cons (.view 5 l.1 fun i j => (knP l i).c j) (.cons (.int .i64 0) (.cons (.int .i64 0) .nil)))) else .tup (.cons .nils (.cons (.int .i64 0) (.cons (.int .i64 70) .nil)))
set_option maxHeartbeats 4000000 in
set_option maxRecDepth 100000 in
theorem pKnown7 : PureOk Try.prog G 16 sKnown7 := by
  refine fn1 (S := [(20,sCheck7),(49,sClonesR)]) (I := []) mixed (.cons pCheck7 (.cons pClonesR .nil)) .nil Try.func16 c16 fun l _ hw => ?_
  simp only [vl,WfT,Val.toInt,Val.slen,Val.scell,Nat.reduceSub,and_true,maxLen,Nat.reducePow,TSl,RPm,Pm.d] at hw
  by_cases hp : PmsOk l
  · have ep := pmE_ok hp
    rw [if_pos ep]
    have hn24 := hp.n
    have hpt : PmsOk l = True := eq_true hp
    simp only [RunTo,a16,sCheck7,ep,hw,↓imp_ft,↓imp_ff,runO_4,runO_5,runO_6,runO_14,runO_15,runO_17,runO_18,runO_19,aop,binV,reOk,ev,fget,fput,params,isLB,addB,addN,frz,opOwns,preFz,callFz,skipOp,WfT,norm,norm1,normL,pureB,pureL,specV,argsL,capsL,mkE_S,mkE_I,lkp,Fin,Val.toInt,Val.slen,Val.scell,↓reduceIte,reduceCtorEq,Nat.reduceSub,List.append_nil,Bool.and_self,bne_self_eq_false,and_true,true_and,and_self,forall_const,implies_true,maxLen,Nat.reducePow,spec1,TSl,IsSl,Prod.eta,Pm.c0,Pm.c1,Pm.c2,Pm.c3,Pm.c4,RPm,Pm.w_c,Pm.d,Pm.eta,toUI_val]
    refine loopI (ι := Nat) (fun i => i ≤ l.1 ∧ ∀ i',i' < i → ¬ ∃ k,k < i' ∧ clnB l i' k = true ∧ ctrP l i' k) (fun i => l.1 - i) [0] (fun i => [(6,.int .i64 i)]) (fun _ => []) 0 ⟨Nat.zero_le _,fun i hi => absurd hi (Nat.not_lt_zero _)⟩ (by simp only [Chk,chkFr,chkBx,idsLt,kept,vs_int,vs_view,fget,vsubP_self,↓reduceIte,reduceCtorEq,Int.cast_ofNat_Int,and_self,forall_const,implies_true,keepF,appF,updB]; try rfl) fun i hi => ?_
    obtain ⟨hi1,hi2⟩ := hi
    by_cases hil : i < l.1
    · have fi : ((i : Int) < (l.1 : Int)) = True := eq_true (by omega)
      have pi1 : (0 ≤ (i : Int)) = True := eq_true (by omega)
      simp only [fi,pi1,hpt,sClonesR,Int.toNat_natCast,hw,↓imp_tt,↓imp_tf,runO_4,runO_5,runO_6,runO_14,runO_15,runO_17,runO_18,runO_19,aop,binV,reOk,ev,fget,fput,isLB,addB,addN,frz,opOwns,preFz,callFz,skipOp,WfT,norm,norm1,normL,pureB,pureL,specV,argsL,capsL,mkE_S,mkE_I,lkp,lenV,stkFr,stkNx,Val.toInt,Val.slen,Val.scell,↓reduceIte,reduceCtorEq,Nat.reduceEqDiff,Nat.reduceSub,decide_true,List.append_nil,Bool.and_self,and_true,true_and,and_self,forall_const,implies_true,maxLen,Nat.reducePow,keepF,appF,updB,spec2,TSl,IsSl,TInt,IsInt,Prod.eta,Pm.c0,Pm.c1,Pm.c2,Pm.c3,Pm.c4,RPm,Pm.w_c,Pm.d,Pm.eta,toUI_val]
      refine loopI (ι := Nat) (fun k => k ≤ i ∧ ∀ k',k' < k → ¬ (clnB l i k' = true ∧ ctrP l i k')) (fun k => i - k) [0,6,7] (fun k => [(8,.int .i64 k)]) (fun _ => []) 0 ⟨Nat.zero_le _,fun k hk => absurd hk (Nat.not_lt_zero _)⟩ (by simp only [Chk,chkFr,chkBx,idsLt,kept,vs_int,vs_view,fget,vsubP_self,↓reduceIte,reduceCtorEq,Nat.reduceEqDiff,Int.cast_ofNat_Int,and_self,forall_const,implies_true,keepF,appF,updB]; try rfl) fun k hk => ?_
      obtain ⟨hk1,hk2⟩ := hk
      by_cases hki : k < i
      · have fk : ((k : Int) < (i : Int)) = True := eq_true (by omega)
        have fkl : ((k : Int) < (l.1 : Int)) = True := eq_true (by omega)
        have pk1 : (0 ≤ (k : Int)) = True := eq_true (by omega)
        cases hb : clnB l i k with
        | false =>
          simp only [fk,fkl,pk1,hb,hw,↓imp_tt,↓imp_tf,runO_4,runO_5,runO_6,runO_9,runO_14,runO_16,runO_17,runO_18,runO_19,aop,binV,reOk,ev,fget,fput,vget,addB,addN,mkv,frz,opOwns,preFz,skipOp,WfT,casts,castOks,cast1,castOk,popTo,stkFr,stkNx,Val.toBool,↓reduceIte,reduceCtorEq,Nat.reduceEqDiff,Nat.reduceSub,Nat.zero_add,decide_true,List.length_cons,List.length_nil,Bool.not_false,and_true,true_and,and_self,forall_const,Nat.le_refl,maxLen,Nat.reducePow,keepF,appF,updB,inat]
          refine inv_intro (k + 1) ⟨hki,fun k' hk' => ?_⟩ (by omega) ?_
          · by_cases e : k' = k
            · subst e; rw [hb]; rintro ⟨h1,_⟩; cases h1
            · exact hk2 k' (by omega)
          · simp only [Chk,chkFr,chkBx,idsLt,kept,vs_int,vs_view,fget,vsubP_self,↓reduceIte,reduceCtorEq,Nat.reduceEqDiff,and_true,true_and,and_self,forall_const,implies_true,Val.int.injEq]
            rw [wrS (by omega)]
        | true =>
          by_cases hc : ctrP l i k
          · have hbe : badI l = i := fstI_at hil ⟨k,hki,hb,hc⟩ hi2
            rw [if_pos (by omega),hbe]
            unfold ctrP at hc
            simp only [fk,fkl,fi,pk1,pi1,hb,hw,↓imp_tt,↓imp_tf,↓imp_ft,↓imp_ff,runO_3,runO_4,runO_5,runO_6,runO_8,runO_14,runO_16,runO_17,runO_18,runO_19,aop,binV,ends,reOk,Nat.zero_sub,ev,fget,fput,vget,addB,addN,mkv,frz,opOwns,preFz,skipOp,WfT,resV,resL,res1,casts,castOks,cast1,castOk,snapV,snapOk,pickV,stkFr,stkNx,vsubP_self,Val.toInt,Val.toBool,↓reduceIte,reduceCtorEq,Nat.reduceEqDiff,Nat.reduceAdd,Nat.reduceSub,Nat.reduceLeDiff,Nat.zero_add,Nat.add_zero,decide_true,bne_iff_ne,bne_eq_false_iff_eq,List.length_cons,List.length_nil,Bool.and_self,Bool.bne_true,Bool.bne_false,bne_self_eq_false,Bool.not_true,Bool.not_false,and_true,true_and,and_self,forall_const,implies_true,Nat.le_refl,ne_eq,maxLen,Nat.reducePow,keepF,appF,updB,inat,Pm.c3,Pm.c4]
            repeat' (first | omega | (with_reducible apply And.intro) | intro _)
          · have hnc := hc
            unfold ctrP at hnc
            simp only [fk,fkl,fi,pk1,pi1,hb,hw,↓imp_tt,↓imp_tf,↓imp_ft,↓imp_ff,runO_3,runO_4,runO_5,runO_6,runO_8,runO_14,runO_16,runO_17,runO_18,runO_19,aop,binV,ends,reOk,Nat.zero_sub,ev,fget,fput,vget,addB,addN,mkv,frz,opOwns,preFz,skipOp,WfT,resV,resL,res1,casts,castOks,cast1,castOk,snapV,snapOk,pickV,stkFr,stkNx,Val.toInt,Val.toBool,↓reduceIte,reduceCtorEq,Nat.reduceEqDiff,Nat.reduceAdd,Nat.reduceSub,Nat.reduceLeDiff,Nat.zero_add,Nat.add_zero,decide_true,bne_iff_ne,bne_eq_false_iff_eq,List.length_cons,List.length_nil,Bool.and_self,Bool.bne_true,Bool.bne_false,bne_self_eq_false,Bool.not_true,Bool.not_false,and_true,true_and,and_self,forall_const,Nat.le_refl,ne_eq,maxLen,Nat.reducePow,keepF,appF,updB,inat,Pm.c3,Pm.c4]
            repeat' (first | omega | (with_reducible apply And.intro) | intro _)
            all_goals first
              | omega
              | (refine inv_intro (k + 1) ⟨hki,fun k' hk' => ?_⟩ (by omega) ?_
                 · by_cases e : k' = k
                   · subst e; exact fun h => hc h.2
                   · exact hk2 k' (by omega)
                 · simp only [Chk,chkFr,chkBx,idsLt,kept,vs_int,vs_view,fget,vsubP_self,↓reduceIte,reduceCtorEq,Nat.reduceEqDiff,and_true,true_and,and_self,forall_const,implies_true,Val.int.injEq]
                   rw [wrS (by omega)])
              | (exfalso; omega)
      · have fk : ((k : Int) < (i : Int)) = False := eq_false (by omega)
        obtain rfl : k = i := by omega
        simp only [fk,↓imp_ft,↓imp_ff,runO_5,runO_8,runO_9,runO_14,runO_16,runO_17,runO_18,runO_19,aop,binV,reOk,ev,fget,fput,addB,addN,frz,opOwns,preFz,skipOp,WfT,popTo,stkFr,stkNx,↓reduceIte,reduceCtorEq,Nat.reduceEqDiff,decide_false,true_and,and_self,forall_const,keepF,appF,updB]
        refine inv_intro (k + 1) ⟨hil,fun i' hi' => ?_⟩ (by omega) ?_
        · by_cases e : i' = k
          · subst e; rintro ⟨k',h1,h2,h3⟩; exact hk2 k' h1 ⟨h2,h3⟩
          · exact hi2 i' (by omega)
        · simp only [Chk,chkFr,chkBx,idsLt,kept,vs_int,vs_view,fget,vsubP_self,↓reduceIte,reduceCtorEq,and_true,true_and,and_self,forall_const,implies_true,Val.int.injEq]
          rw [wrS (by omega)]
    · have fi : ((i : Int) < (l.1 : Int)) = False := eq_false (by omega)
      obtain rfl : i = l.1 := by omega
      have hbad : ¬ badI l < l.1 := by unfold badI; rw [fstI_no fun j hj => hi2 j hj]; exact Nat.lt_irrefl _
      rw [if_neg hbad]
      simp only [fi,hw,↓imp_ft,↓imp_ff,runO_5,runO_6,runO_9,runO_14,runO_15,runO_17,runO_18,runO_19,aop,binV,reOk,ev,fget,fput,addB,addN,frz,opOwns,preFz,skipOp,WfT,lenV,popTo,stkFr,stkNx,↓reduceIte,reduceCtorEq,Nat.reduceEqDiff,Nat.reduceSub,decide_false,true_and,and_self,forall_const,maxLen,Nat.reducePow,keepF,appF,updB]
      refine loopJ (ι := Nat) (fun j => j ≤ l.1) (fun j => l.1 - j) [0] (fun j => [(10,.int .i64 j),(9,.own (.n 0))]) (fun j => [(0,.row 43 5 j fun a b => (knP l a).c b)]) 1 0 (Nat.zero_le _) (by simp only [Chk,chkFr,chkBx,chkBx1,newIn,hasB,idsLt,kept,vs_int,vs_own,vs_view,fget,bget,bset,vsubP_self,↓reduceIte,reduceCtorEq,Nat.reduceEqDiff,Nat.reduceLT,Nat.zero_add,Int.cast_ofNat_Int,and_true,and_self,forall_const,implies_true,Option.some.injEq,exists_eq',or_true,keepF,appF,updB]; try simp) fun j hj => ?_
      by_cases hjl : j < l.1
      · have fj : ((j : Int) < (l.1 : Int)) = True := eq_true (by omega)
        have pj1 : (0 ≤ (j : Int)) = True := eq_true (by omega)
        simp only [fj,pj1,hpt,sClonesR,Int.toNat_natCast,hw,↓imp_tt,↓imp_tf,runO_4,runO_5,runO_6,runO_14,runO_15,runO_17,runO_18,runO_19,aop,binV,reOk,Nat.zero_sub,ev,fget,fput,cellsOf,cellsN,isLB,vset,vsets,vlen,bget,bset,addB,addN,mkv,frz,opOwns,preFz,callFz,skipOp,WfT,casts,castOks,cast1,castOk,norm,norm1,normL,pureB,pureL,onesB,specV,argsL,capsL,mkE_S,mkE_I,lkp,lenV,stkFr,stkNx,Val.toInt,Val.slen,Val.scell,↓reduceIte,reduceCtorEq,Nat.reduceEqDiff,Nat.reduceAdd,Nat.reduceSub,Nat.zero_add,decide_true,List.length_cons,List.length_nil,List.append_nil,Bool.and_self,and_true,true_and,and_self,forall_const,implies_true,Nat.le_refl,maxLen,Nat.reducePow,keepF,appF,updB,spec2,TSl,IsSl,TInt,IsInt,Prod.eta,Pm.c0,Pm.c1,Pm.c2,Pm.c3,Pm.c4,RPm,Pm.w_c,Pm.d,Pm.eta,toUI_val]
        have hsx : ∀ k,k < l.1 → (0 : Int) ≤ (l.2 k).sex.1 ∧ (l.2 k).sex.1 ≤ 255 := fun k _ => (l.2 k).sex.2
        refine loopI (ι := Nat) (fun k => k ≤ l.1) (fun k => l.1 - k) [0,9,10,11,12] (fun k => [(13,.int .i64 k)]) (fun k => [(1,.cells (.cons (.int .i64 (l.2 j).id) (.cons (.int .i64 (l.2 j).mother) (.cons (.int .i64 (l.2 j).planted) (.cons (.int .u8 (mxF (clnB l j) (fun k => (l.2 k).sex.1) k (l.2 j).sex.1)) (.cons (.int .i64 (mxF (clnB l j) (fun k => (l.2 k).sort) k (l.2 j).sort)) .nil))))))]) 0 (Nat.zero_le _) (by simp only [mxF,Chk,chkFr,chkBx,chkBx1,newIn,hasB,idsLt,kept,vs_int,vs_nil,vs_own,vs_ptr,vs_cons,vs_view,fget,isLB,bget,bset,vsubP_self,↓reduceIte,reduceCtorEq,Nat.reduceEqDiff,Nat.reduceLT,Int.cast_ofNat_Int,and_true,and_self,forall_const,implies_true,Option.some.injEq,exists_eq',or_false,keepF,appF,updB]; try rfl) fun k hk => ?_
        by_cases hkl : k < l.1
        · have fk : ((k : Int) < (l.1 : Int)) = True := eq_true (by omega)
          cases hb : clnB l j k with
          | true =>
            simp only [fk,hb,hw,↓imp_tt,↓imp_tf,↓imp_ft,↓imp_ff,runO_4,runO_5,runO_6,runO_8,runO_14,runO_16,runO_17,runO_18,runO_19,aop,binV,reOk,Nat.zero_sub,ev,fget,fput,cellsOf,cellsN,vget,vset,vsets,vlen,bget,bset,addB,addN,mkv,sliceV,vtab,frz,opOwns,preFz,skipOp,WfT,casts,castOks,cast1,castOk,onesB,lenV,stkFr,stkNx,Val.toInt,Val.toBool,↓reduceIte,reduceCtorEq,Nat.reduceEqDiff,Nat.reduceAdd,Nat.reduceSub,Nat.reduceLeDiff,Nat.zero_add,Nat.add_zero,decide_true,List.length_cons,List.length_nil,Bool.and_self,Bool.not_true,and_true,true_and,and_self,forall_const,Nat.le_refl,maxLen,Nat.reducePow,keepF,appF,updB,inat,Pm.c3,Pm.c4]
            refine ⟨by omega,by omega,by omega,inv_intro (k + 1) (by omega) (by omega) ?_⟩
            simp only [mxF,hb,Chk,chkFr,chkBx,chkBx1,newIn,hasB,idsLt,kept,vs_int,vs_nil,vs_own,vs_ptr,vs_cons,vs_view,fget,isLB,bget,vsubP_self,↓reduceIte,reduceCtorEq,Nat.reduceEqDiff,Nat.reduceLT,and_true,true_and,and_self,forall_const,implies_true,Option.some.injEq,Val.int.injEq,exists_eq',or_false]
            exact wrS (by omega)
          | false =>
            simp only [fk,hb,hw,↓imp_tt,↓imp_tf,runO_4,runO_5,runO_6,runO_9,runO_14,runO_16,runO_17,runO_18,runO_19,aop,binV,reOk,ev,fget,fput,vget,bset,addB,addN,mkv,frz,opOwns,preFz,skipOp,WfT,casts,castOks,cast1,castOk,lenV,popTo,stkFr,stkNx,Val.toBool,↓reduceIte,reduceCtorEq,Nat.reduceEqDiff,Nat.reduceSub,Nat.zero_add,decide_true,List.length_cons,List.length_nil,Bool.not_false,and_true,true_and,and_self,forall_const,Nat.le_refl,maxLen,Nat.reducePow,keepF,appF,updB,inat]
            refine ⟨by omega,inv_intro (k + 1) (by omega) (by omega) ?_⟩
            simp only [mxF,hb,Bool.false_eq_true,Chk,chkFr,chkBx,chkBx1,newIn,hasB,idsLt,kept,vs_int,vs_nil,vs_own,vs_ptr,vs_cons,vs_view,fget,isLB,bget,vsubP_self,↓reduceIte,reduceCtorEq,Nat.reduceEqDiff,Nat.reduceLT,Bool.false_eq_true,and_true,true_and,and_self,forall_const,implies_true,Option.some.injEq,Val.int.injEq,exists_eq',or_false]
            exact wrS (by omega)
        · have fk : ((k : Int) < (l.1 : Int)) = False := eq_false (by omega)
          obtain rfl : k = l.1 := by omega
          simp only [fk,hw,subBox,mkE_N,Bn.n.injEq,↓imp_ft,↓imp_ff,runO_5,runO_8,runO_9,runO_14,runO_16,runO_17,runO_18,runO_19,aop,binV,reOk,Nat.zero_sub,ev,fget,fput,cellsOf,cellsN,isLB,vget,vset,vlen,bget,bset,addB,addN,mkv,sliceV,vtab,rowsV,rowsOk,vrep,frz,opOwns,preFz,owns,skipOp,WfT,pureB,onesB,mkE_G,lenV,subFr,subV,subBx,subStk,elemsV,popTo,stkFr,stkNx,↓reduceIte,reduceCtorEq,Nat.reduceEqDiff,Nat.reduceAdd,Nat.reduceSub,Nat.reduceLeDiff,Nat.reduceLT,Nat.zero_add,decide_false,List.length_cons,List.length_nil,List.append_nil,List.flatMap_cons,List.flatMap_nil,Bool.and_self,true_and,and_self,forall_const,Nat.le_refl,or_false,maxLen,Nat.reducePow,keepF,appF,updB]
          refine ⟨by omega,by omega,inv_intro (j + 1) (by omega) (by omega) ?_⟩
          simp only [Chk,chkFr,chkBx,chkBx1,newIn,hasB,idsLt,kept,vs_int,vs_own,vs_view,Nat.lt_irrefl,fget,bget,vsubP_self,↓reduceIte,reduceCtorEq,Nat.reduceEqDiff,Nat.reduceLT,and_true,true_and,and_self,forall_const,implies_true,Option.some.injEq,Val.int.injEq,exists_eq',false_implies,or_false]
          refine ⟨wrS (by omega),fun a ha b hb => ?_⟩
          by_cases e : a < j
          · rw [if_pos e,vsubP_self]; trivial
          · obtain rfl : a = j := by omega
            have hse : (knP l a).sex.1 = sexF l a := toUI_in (mxF_in (a := 0) (b := 255) (hsx a (by omega)) hsx)
            rw [if_neg e,Nat.sub_self]
            match b,hb with
            | 0,_ => exact rfl
            | 1,_ => exact rfl
            | 2,_ => exact rfl
            | 3,_ => show vsubP (.int .u8 (knP l a).sex.1) _; rw [hse]; exact rfl
            | 4,_ => exact rfl
      · have fj : ((j : Int) < (l.1 : Int)) = False := eq_false (by omega)
        obtain rfl : j = l.1 := by omega
        simp only [fj,hw,↓imp_ft,↓imp_ff,runO_3,runO_5,runO_9,runO_14,runO_17,runO_18,runO_19,aop,binV,ends,reOk,ev,fget,fput,bget,bset,addB,addN,frz,opOwns,preFz,skipOp,WfT,resV,resL,res1,snapV,snapOk,lenV,popTo,stkFr,stkNx,vsubP_self,↓reduceIte,reduceCtorEq,Nat.reduceEqDiff,Nat.reduceAdd,Nat.reduceSub,Nat.zero_add,decide_false,Bool.and_self,and_self,forall_const,maxLen,Nat.reducePow,keepF,appF,updB]
  · have ep := pmE_no hp
    rw [if_neg (by rw [ep]; decide)]
    simp only [RunTo,a16,sCheck7,ep,hw,↓imp_tt,↓imp_tf,runO_3,runO_5,runO_14,runO_17,runO_18,runO_19,aop,binV,ends,reOk,ev,fget,fput,params,isLB,addB,addN,frz,opOwns,preFz,callFz,skipOp,WfT,resV,resL,res1,norm,norm1,normL,pureB,pureL,snapV,snapOk,specV,argsL,capsL,mkE_S,mkE_I,lkp,Fin,vsubP_self,Val.toInt,Val.slen,Val.scell,↓reduceIte,reduceCtorEq,Nat.reduceEqDiff,Nat.reduceAdd,Nat.reduceSub,Int.reduceBNe,List.append_nil,Bool.and_self,and_true,and_self,forall_const,implies_true,maxLen,Nat.reducePow,spec1,TSl,IsSl,Prod.eta,Pm.c0,Pm.c1,Pm.c2,Pm.c3,Pm.c4,RPm,Pm.w_c,Pm.d,Pm.eta,toUI_val]
end Go.Proofs.Ytlapepdhkomijaa
