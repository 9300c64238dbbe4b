/- Groves, the program: spread. No condition but bounds. -/
import Derived.Test.YtpknbojgkkmonaaWDij
set_option linter.unusedSimpArgs false
set_option linter.unusedVariables false
namespace Go.Proofs.Ytpknbojgkkmonaa
open Go Go.RowKit
variable {G : Nat → Option (Nat × (Nat → Val))}
noncomputable def sSpread : Spec := (spec2 TPt (TSl (RInt .i64)) (fun g n => GvOk g ∧ n.1 = g.palms.1 ∧ ∀ i,i < g.palms.1 → 0 ≤ n.2 i ∧ n.2 i ≤ 100001) fun g n => .view 1 g.palms.1 fun i _ => .int .i64 (daysF g n.2 i)).mine 3
set_option maxHeartbeats 4000000 in
set_option maxRecDepth 100000 in
theorem pSpread : PureOk Try.prog G 45 sSpread := by
  refine fo2 (S := [(67,sRaised),(68,sRepeat),(43,sGreatest),(71,sNear),(72,sLate)]) (I := [(69,a69),(90,a90)]) mixed (.cons pRaised (.cons pRepeat (.cons pGreatest (.cons pNearP (.cons pLate .nil))))) (.cons Try.func69 c69 (.cons Try.func90 c90 .nil)) Try.func45 c45 fun g n hp hw => ?_
  obtain ⟨hg,hn,hb⟩ := hp
  simp only [TPt,Pt.L,vl,WfT,Val.toInt,Val.slen,Val.scell,Nat.reduceSub,and_true,true_and,and_self,and_assoc,maxLen,Nat.reducePow,TSl,RInt,RPm,Pm.d,RPl,Pl.d] at hw
  obtain ⟨w1,w2,w3,w4⟩ := hw
  have hn24 := hg.pms.n
  obtain ⟨N,hN⟩ : ∃ N,raiF g n.2 = N := ⟨_,rfl⟩
  simp only [RunOwn,a45,sRaised,sRepeat,TPt,Pt.L,Pt.Is,Pt.of,isAt_self,hn,hN,w1,w2,w3,flatO,FinS,Spec.mine,runO_5,runO_6,runO_15,runO_17,runO_18,runO_19,aop,reOk,Nat.zero_sub,ev,fget,fput,params,cellsOf,cellsN,isLB,vget,vset,vsets,vlen,bget,bset,addB,addN,mkv,sliceV,vtab,rowsV,rowsOk,vrep,frz,opOwns,preFz,callFz,owns,skipOp,WfT,norm,norms,norm1,normL,pureB,pureL,onesB,snapV,snapOk,snapL,snapOks,specV,argsL,capsL,mkE_S,mkE_I,mkE_G,lkp,lenV,Fin,Val.toInt,Val.slen,Val.scell,↓reduceIte,reduceCtorEq,Nat.reduceEqDiff,Nat.reduceAdd,Nat.reduceSub,Nat.reduceLeDiff,Nat.reduceLT,Nat.zero_add,Nat.add_zero,Int.reduceNeg,List.length_cons,List.length_nil,List.append_nil,List.flatMap_cons,List.flatMap_nil,Bool.and_true,Bool.and_self,Bool.not_true,and_true,true_and,and_self,and_assoc,forall_const,implies_true,Nat.le_refl,exists_and_left,maxLen,Nat.reducePow,inat,spec2,TSl,IsSl,TInt,IsInt,RInt,Prod.eta,Pm.c0,Pm.c1,Pm.c2,Pm.c3,Pm.c4,RPm,Pm.w_c,Pm.d,Pm.eta,Pl.c0,Pl.c1,RPl,Pl.w_c,Pl.d,Pl.eta,Gv.Is,Gv.of,Gv.d,Gv.eta,toUI_val]
  have hb3 : ∀ i,i < g.palms.1 → 0 ≤ n.2 i ∧ n.2 i ≤ 300000 := fun i hi => by have := hb i hi; omega
  have hR : Raised g n.2 N := hN ▸ raiF_ok hg fun i hi => (hb3 i hi).2
  have hNb : ∀ i,i < g.palms.1 → 0 ≤ N i ∧ N i ≤ 100001 := fun i hi => by
    have h1 := raiF_le1 hg (n0 := n.2) (fun i hi => (hb i hi).2) i hi
    have h2 := raiF_ge hg (n0 := n.2) (fun i hi => (hb i hi).2) i hi
    have := hb i hi
    rw [hN] at h1 h2
    omega
  refine ⟨hg,hb3,fun i hi => by (obtain rfl : i = 0 := by omega); rfl,by omega,by omega,?_⟩
  refine loopI (ι := Nat) (fun j => j ≤ g.sus.1) (fun j => g.sus.1 - j) [1,2,5,24,25] (fun j => [(26,.int .i64 j)]) (fun j => [(2,.row 3 1 g.palms.1 fun i _ => .int .i64 (susF g N j i))]) 0 (by omega) (by simp only [susF,Chk,chkFr,chkBx,chkBx1,newIn,hasB,idsLt,kept,vs_int,vs_nil,vs_own,vs_ptr,vs_cons,vs_view,vs_mview,fget,isLB,bget,bset,vsubP_self,↓reduceIte,reduceCtorEq,Nat.reduceEqDiff,Nat.reduceLT,Int.cast_ofNat_Int,and_true,and_self,forall_const,implies_true,Option.some.injEq,exists_eq',or_false,keepF,appF,updB]; try simp) fun j hj => ?_
  by_cases hjl : j < g.sus.1
  · have fj : ((j : Int) < (g.sus.1 : Int)) = True := eq_true (by omega)
    obtain ⟨hs1,hs2,_⟩ := hg.sus j hjl
    have hk1 := hasP_hit.2 hs1
    have hk2 := hg.pms.lst hk1
    by_cases hNs : N (hitN g.palms (g.sus.2 j)) ≤ g.start
    · have f1 := eq_true hNs
      simp only [fj,f1,hk1,hk2,↓imp_tt,↓imp_tf,runO_4,runO_5,runO_6,runO_8,runO_14,runO_16,runO_17,runO_18,runO_19,aop,binV,reOk,Nat.zero_sub,ev,fget,fput,cellsOf,cellsN,vget,vlen,bget,bset,addB,addN,mkv,sliceV,vtab,frz,opOwns,preFz,owns,skipOp,WfT,casts,castOks,cast1,castOk,pureB,onesB,pickV,mgetV,stkFr,stkNx,Val.toInt,↓reduceIte,reduceCtorEq,Nat.reduceEqDiff,Nat.reduceAdd,Nat.reduceLeDiff,Nat.zero_add,Nat.add_zero,Nat.sub_zero,Int.reduceNeg,decide_true,List.length_cons,List.length_nil,Bool.and_self,and_true,true_and,and_self,and_assoc,forall_const,Nat.le_refl,keepF,appF,updB,inat]
      repeat' (first | omega | (with_reducible apply And.intro) | intro _)
      refine inv_intro (j + 1) (by omega) (by omega) ?_
      simp only [Chk,chkFr,chkBx,chkBx1,newIn,hasB,idsLt,kept,vs_int,vs_nil,vs_own,vs_ptr,vs_cons,vs_view,vs_mview,fget,isLB,bget,vp_int,vsubP_self,↓reduceIte,reduceCtorEq,Nat.reduceEqDiff,Nat.reduceLT,and_true,true_and,and_self,forall_const,implies_true,Option.some.injEq,Val.int.injEq,exists_eq',or_false]
      rw [wrS (by omega)]
      refine ⟨rfl,fun i hi b hb => ?_⟩
      obtain rfl : b = 0 := by omega
      simp only [susF]
      by_cases h5 : i = hitN g.palms (g.sus.2 j)
      · subst h5; simp [vget,hNs]
      · have h6 : ¬ hitN g.palms (g.sus.2 j) = i := fun e => h5 e.symm
        simp [h5,h6]
    · have f1 := eq_false hNs
      simp only [fj,f1,hk1,hk2,↓imp_tt,↓imp_tf,↓imp_ft,↓imp_ff,runO_4,runO_5,runO_6,runO_8,runO_14,runO_16,runO_17,runO_18,runO_19,aop,binV,ev,fget,fput,vget,vlen,bget,bset,addB,addN,mkv,sliceV,vtab,frz,opOwns,preFz,skipOp,WfT,casts,castOks,cast1,castOk,pickV,mgetV,stkFr,stkNx,Val.toInt,↓reduceIte,reduceCtorEq,Nat.reduceEqDiff,Nat.reduceAdd,Nat.reduceLeDiff,Nat.zero_add,Nat.add_zero,Int.reduceNeg,decide_true,decide_false,List.length_cons,List.length_nil,and_true,true_and,and_self,and_assoc,forall_const,Nat.le_refl,keepF,appF,updB,inat]
      repeat' (first | omega | (with_reducible apply And.intro) | intro _)
      refine inv_intro (j + 1) (by omega) (by omega) ?_
      simp only [Chk,chkFr,chkBx,chkBx1,newIn,hasB,idsLt,kept,vs_int,vs_nil,vs_own,vs_ptr,vs_cons,vs_view,vs_mview,fget,isLB,bget,vp_int,vsubP_self,↓reduceIte,reduceCtorEq,Nat.reduceEqDiff,Nat.reduceLT,and_true,true_and,and_self,forall_const,implies_true,Option.some.injEq,Val.int.injEq,exists_eq',or_false]
      rw [wrS (by omega)]
      refine ⟨rfl,fun i hi b hb => ?_⟩
      obtain rfl : b = 0 := by omega
      simp only [susF]
      by_cases h5 : hitN g.palms (g.sus.2 j) = i
      · subst h5; simp [hNs]
      · simp [h5]
  have fj : ((j : Int) < (g.sus.1 : Int)) = False := eq_false (by omega)
  obtain rfl : j = g.sus.1 := by omega
  simp only [fj,↓imp_ft,↓imp_ff,runO_5,runO_6,runO_9,runO_14,runO_15,runO_17,runO_18,runO_19,aop,binV,ev,fget,fput,vget,vlen,bget,bset,addB,addN,mkv,sliceV,vtab,frz,opOwns,preFz,skipOp,WfT,lenV,popTo,stkFr,stkNx,↓reduceIte,Nat.reduceEqDiff,Nat.reduceAdd,Nat.zero_add,Int.reduceNeg,decide_false,List.length_cons,List.length_nil,true_and,and_self,forall_const,Nat.le_refl,keepF,appF,updB]
  refine loopI (ι := Nat) (fun j => j ≤ g.palms.1) (fun j => g.palms.1 - j) [1,2,5,9,51] (fun j => [(52,.int .i64 j)]) (fun j => [(4,.mp .i64 (fun k => decide (0 ≤ k ∧ k < j)) fun _ => .bool true)]) 0 (by omega) (by simp only [Chk,chkFr,chkBx,chkBx1,newIn,hasB,idsLt,kept,vs_int,vs_bool,vs_nil,vs_own,vs_ptr,vs_cons,vs_view,vs_mview,vs_mapb,fget,isLB,bget,bset,vsubP_self,↓reduceIte,reduceCtorEq,Nat.reduceEqDiff,Nat.reduceLT,Int.cast_ofNat_Int,Bool.false_eq_true,and_true,true_and,and_self,forall_const,imp_self,implies_true,decide_eq_false_iff_not,Option.some.injEq,exists_eq',or_false,keepF,appF,updB]; try (simp; try omega)) fun j hj => ?_
  by_cases hjl : j < g.palms.1
  · have fj : ((j : Int) < (g.palms.1 : Int)) = True := eq_true (by omega)
    simp only [fj,noIt,↓imp_tt,↓imp_tf,runO_4,runO_5,runO_6,runO_8,runO_14,runO_16,runO_17,runO_18,runO_19,aop,binV,reOk,Nat.zero_sub,ev,fget,fput,bget,bset,addB,addN,frz,opOwns,preFz,skipOp,WfT,stkFr,stkNx,↓reduceIte,Nat.reduceEqDiff,Int.reduceNeg,decide_true,and_true,true_and,and_self,forall_const,keepF,appF,updB]
    repeat' (first | omega | (with_reducible apply And.intro) | intro _)
    refine inv_intro (j + 1) (by omega) (by omega) ?_
    simp only [Chk,chkFr,chkBx,chkBx1,newIn,hasB,idsLt,kept,vs_int,vs_bool,vs_nil,vs_own,vs_ptr,vs_cons,vs_view,vs_mview,vs_mapb,fget,isLB,bget,vsubP_self,↓reduceIte,reduceCtorEq,Nat.reduceEqDiff,Nat.reduceLT,and_true,true_and,and_self,forall_const,implies_true,Option.some.injEq,Val.int.injEq,exists_eq',or_false]
    rw [wrS (by omega)]
    refine ⟨rfl,fun k => ?_⟩
    by_cases e : k = (j : Int)
    · subst e; simp; omega
    · simp only [if_neg e,implies_true,and_true]
      rw [Bool.eq_iff_iff,decide_eq_true_iff,decide_eq_true_iff]; omega
  have fj : ((j : Int) < (g.palms.1 : Int)) = False := eq_false (by omega)
  obtain rfl : j = g.palms.1 := by omega
  have hDj := Dj.start (N := N) hg
  simp only [fj,↓imp_ft,↓imp_ff,runO_5,runO_6,runO_9,runO_14,runO_15,runO_17,runO_18,runO_19,aop,binV,ev,fget,fput,bset,addB,addN,frz,opOwns,preFz,skipOp,WfT,popTo,stkFr,stkNx,↓reduceIte,Nat.reduceEqDiff,Int.reduceNeg,decide_false,true_and,and_self,forall_const,keepF,appF,updB]
  refine loopI (ι := (Nat → Int) × (Int → Bool)) (fun s => Dj g N s.1 (fun k => s.2 k = true) ∧ ∀ k,s.2 k = true → 0 ≤ k ∧ k < g.palms.1) (fun s => cntN (fun k => s.2 k = true) g.palms.1) [1,2,5,9] (fun _ => []) (fun s => [(4,.mp .i64 s.2 fun _ => .bool true),(2,.row 3 1 g.palms.1 fun i _ => .int .i64 (s.1 i))]) (susF g N g.sus.1,fun k => decide (0 ≤ k ∧ k < (g.palms.1 : Int))) ⟨?_,fun k hk => by simpa using hk⟩ (by simp only [Chk,chkFr,chkBx,chkBx1,newIn,hasB,idsLt,kept,vs_int,vs_bool,vs_nil,vs_own,vs_ptr,vs_cons,vs_view,vs_mview,vs_mapb,fget,isLB,bget,bset,vsubP_self,↓reduceIte,reduceCtorEq,Nat.reduceEqDiff,Nat.reduceLT,and_true,and_self,forall_const,implies_true,decide_eq_true_eq,Option.some.injEq,exists_eq',or_false,keepF,appF,updB]; try simp) fun s hs => ?_
  · exact hDj.congr fun k hk => ⟨fun _ => by simp; omega,fun _ => trivial⟩
  obtain ⟨D,has⟩ := s
  obtain ⟨hDj,hhas⟩ := hs
  simp only at hDj hhas
  simp only [runO_3,runO_4,runO_5,runO_6,runO_9,runO_14,runO_15,runO_17,runO_18,runO_19,aop,binV,ends,ev,fget,fput,vget,vlen,bget,bset,addB,addN,mkv,sliceV,vtab,frz,opOwns,preFz,skipOp,WfT,resV,res1,snapV,snapOk,popTo,stkFr,stkNx,vp_int,vp_view,↓reduceIte,Nat.reduceEqDiff,Nat.reduceAdd,Nat.zero_add,Int.reduceNeg,List.length_cons,List.length_nil,true_and,and_self,forall_const,Nat.le_refl,decide_eq_true_eq,decide_eq_false_iff_not,Val.int.injEq,keepF,appF,updB]
  intro c hc
  have hfin : First g N D → ∀ i,i < g.palms.1 → D i = daysF g n.2 i := fun hF i hi => daysF_eq ⟨N,hR,hF⟩ i hi
  refine ⟨fun hc0 => ?_,fun hc0 => ?_⟩
  rotate_left
  · have hF := hfin (hDj.last hg fun k _ _ hk => by
      have := hc.1 (by omega) k
      rw [this] at hk; cases hk)
    exact ⟨fun i hi _ _ => hF i hi,2,rfl,1,g.palms.1,_,rfl,_,rfl,fun i hi b hb => ⟨by rw [hF i hi],rfl⟩⟩
  refine loopI (ι := Int × (Int → Bool) × Option Int) (fun s => ((s.1 = -1 ∧ ∀ k,s.2.1 k = false) ∨ ∃ x : Nat,s.1 = x ∧ x < g.palms.1 ∧ has x = true ∧ ∀ k : Nat,k < g.palms.1 → s.2.1 k = true → D x ≤ D k)) (fun s => cntN (fun k => has k = true ∧ s.2.1 k = false) g.palms.1) [1,2,5,9,62] (fun s => [(11,.int .i64 s.1)]) (fun s => [(5,.it (some 4) .i64 s.2.1 s.2.2)]) (-1,(fun _ => false),none) (.inl ⟨rfl,fun _ => rfl⟩) (by simp only [Chk,chkFr,chkBx,chkBx1,newIn,hasB,idsLt,kept,vs_int,vs_bool,vs_nil,vs_own,vs_ptr,vs_cons,vs_view,vs_mview,vs_mapb,fget,isLB,bget,bset,vsubP_self,↓reduceIte,reduceCtorEq,Nat.reduceEqDiff,Nat.reduceLT,Int.reduceNeg,and_true,and_self,forall_const,implies_true,Option.some.injEq,exists_eq',or_false,keepF,appF,updB]; try simp) fun s hs => ?_
  obtain ⟨nxt,seen,last⟩ := s
  simp only at hs
  have hmeas : ∀ k,has k = true → seen k = false → cntN (fun z : Nat => has z = true ∧ (if (z : Int) = k then true else seen z) = false) g.palms.1 < cntN (fun z : Nat => has z = true ∧ seen z = false) g.palms.1 := fun k hk hs' => by
    obtain ⟨h0,h1⟩ := hhas k hk
    refine cntN_lt (i := k.toNat) (fun z hz ⟨h2,h3⟩ => ⟨h2,?_⟩) (by omega) (fun ⟨_,h3⟩ => ?_) ?_
    · split at h3
      · cases h3
      · exact h3
    · rw [if_pos (by omega)] at h3; cases h3
    · rw [show ((k.toNat : Nat) : Int) = k from by omega]; exact ⟨hk,hs'⟩
  have hsome : 0 < c → ∃ k,has k = true := fun h => by
    false_or_by_contra
    rename_i hno
    have : c = 0 := hc.2 fun k => by
      cases hk : has k with
      | false => rfl
      | true => exact absurd ⟨k,hk⟩ hno
    omega
  rcases hs with ⟨rfl,hs⟩ | ⟨x,rfl,hx,hxh,hxm⟩
  · have f1 : ((-1 : Int) < 0) = True := eq_true (by omega)
    simp only [f1,noIt,↓imp_tt,↓imp_tf,↓imp_ft,↓imp_ff,runO_3,runO_4,runO_5,runO_6,runO_8,runO_9,runO_14,runO_16,runO_17,runO_18,runO_19,aop,binV,ends,Nat.zero_sub,ev,fget,fput,params,isLB,vget,vlen,bget,bset,addB,addN,mkv,sliceV,vtab,frz,opOwns,preFz,skipOp,WfT,resV,res1,casts,castOks,cast1,castOk,snapV,snapOk,argsL,capsL,mkE_S,mkE_I,lkp,pickV,popTo,stkFr,stkNx,vp_int,vp_view,Val.toInt,↓reduceIte,reduceCtorEq,Nat.reduceEqDiff,Nat.reduceAdd,Nat.reduceSub,Nat.reduceLT,Nat.zero_add,Int.reduceToNat,Int.reduceLE,Int.reduceNeg,decide_true,beq_iff_eq,beq_eq_false_iff_ne,List.length_cons,List.length_nil,List.append_nil,Bool.bne_false,and_true,true_and,and_self,and_assoc,forall_const,Nat.le_refl,Val.int.injEq,ne_eq,keepF,appF,updB]
    refine ⟨fun k hk hs' => ⟨hk,?_⟩,fun hall => ?_⟩
    · obtain ⟨h0,h1⟩ := hhas k hk
      refine inv_intro (k,(fun j => if j = k then true else seen j),some k) (.inr ⟨k.toNat,by simp only; omega,by omega,by rw [show ((k.toNat : Nat) : Int) = k from by omega]; exact hk,fun z hz hz' => ?_⟩) (hmeas k hk hs') ?_
      · simp only at hz'
        split at hz'
        · next e => rw [show k.toNat = z from by omega]; exact Int.le_refl _
        · rw [hs] at hz'; cases hz'
      · simp only [Chk,chkFr,chkBx,chkBx1,newIn,hasB,idsLt,kept,vs_int,vs_bool,vs_nil,vs_own,vs_ptr,vs_cons,vs_view,vs_mview,vs_mapb,fget,isLB,bget,vsubP_self,↓reduceIte,reduceCtorEq,Nat.reduceEqDiff,Nat.reduceLT,and_true,and_self,forall_const,implies_true,Option.some.injEq,exists_eq',or_false]
        try simp
    · exfalso
      obtain ⟨k,hk⟩ := hsome (by omega)
      have := hall k hk
      rw [hs] at this; cases this
  have f1 : ((x : Int) < 0) = False := eq_false (by omega)
  have fx := hhas x hxh
  by_cases hD : D x = 100001
  · simp only [f1,hD,noIt,↓imp_tt,↓imp_tf,↓imp_ft,↓imp_ff,runO_3,runO_4,runO_5,runO_6,runO_8,runO_9,runO_14,runO_16,runO_17,runO_18,runO_19,aop,binV,ends,ev,fget,fput,vget,vlen,bget,bset,addB,addN,mkv,sliceV,vtab,frz,opOwns,preFz,skipOp,WfT,resV,res1,casts,castOks,cast1,castOk,snapV,snapOk,pickV,popTo,stkFr,stkNx,vp_int,vp_view,Val.toInt,↓reduceIte,Nat.reduceEqDiff,Nat.reduceAdd,Nat.reduceLT,Nat.zero_add,Int.reduceNeg,decide_false,List.length_cons,List.length_nil,bne_self_eq_false,beq_self_eq_true,and_true,true_and,and_self,and_assoc,forall_const,Nat.le_refl,decide_eq_true_eq,decide_eq_false_iff_not,Val.int.injEq,keepF,appF,updB,inat]
    refine ⟨fun k hk hs' => ?_,fun hall => ⟨by omega,by omega,?_⟩⟩
    · have hkr := hhas k hk
      refine ⟨hk,by omega,by omega,by omega,by omega,fun hlt => ?_,fun hge => ?_⟩
      · refine inv_intro (k,(fun j => if j = k then true else seen j),some k) (.inr ⟨k.toNat,by simp only; omega,by omega,by rw [show ((k.toNat : Nat) : Int) = k from by omega]; exact hk,fun z hz hz' => ?_⟩) (hmeas k hk hs') ?_
        · simp only at hz'
          split at hz'
          · next e => rw [show k.toNat = z from by omega]; exact Int.le_refl _
          · have := hxm z hz hz'; omega
        · simp only [Chk,chkFr,chkBx,chkBx1,newIn,hasB,idsLt,kept,vs_int,vs_bool,vs_nil,vs_own,vs_ptr,vs_cons,vs_view,vs_mview,vs_mapb,fget,isLB,bget,vsubP_self,↓reduceIte,reduceCtorEq,Nat.reduceEqDiff,Nat.reduceLT,and_true,and_self,forall_const,implies_true,Option.some.injEq,exists_eq',or_false]
          try simp
      · refine inv_intro (x,(fun j => if j = k then true else seen j),some k) (.inr ⟨x,rfl,hx,hxh,fun z hz hz' => ?_⟩) (hmeas k hk hs') ?_
        · simp only at hz'
          split at hz'
          · next e => rw [show z = k.toNat from by omega]; omega
          · exact hxm z hz hz'
        · simp only [Chk,chkFr,chkBx,chkBx1,newIn,hasB,idsLt,kept,vs_int,vs_bool,vs_nil,vs_own,vs_ptr,vs_cons,vs_view,vs_mview,vs_mapb,fget,isLB,bget,vsubP_self,↓reduceIte,reduceCtorEq,Nat.reduceEqDiff,Nat.reduceLT,and_true,and_self,forall_const,implies_true,Option.some.injEq,exists_eq',or_false]
          try simp
    · have hF := hfin (hDj.last hg fun k hk hlt hh => by
        have := hxm k hk (hall k hh)
        omega)
      exact ⟨fun i hi _ _ => hF i hi,2,rfl,1,g.palms.1,_,rfl,_,rfl,fun i hi b hb => ⟨by rw [hF i hi],rfl⟩⟩
  · have fD := eq_false hD
    have hD1 : D x < 100001 := by have := hDj.top x hx; omega
    have hD0 := hDj.low x hx
    have hst := hg.start
    have hha := hg.hatch
    have hre := hg.reach
    have hpn := hg.n
    simp only [f1,fD,a69,a90,w1,noIt,↓imp_tt,↓imp_tf,↓imp_ft,↓imp_ff,runO_3,runO_4,runO_5,runO_6,runO_8,runO_9,runO_10,runO_14,runO_15,runO_16,runO_17,runO_18,runO_19,aop,binV,ends,roundIn,keepS,List.map_cons,List.map_nil,ev,evs,fget,fput,params,cellsOf,cellsN,isLB,vget,vlen,bget,bset,addB,addN,mkv,sliceV,vtab,frz,opOwns,preFz,skipOp,WfT,resV,res1,casts,castOks,cast1,castOk,snapV,snapOk,argsL,capsL,mkE_S,mkE_I,lkp,pickV,lenV,popTo,stkFr,stkNx,vp_int,vp_view,Val.toInt,↓reduceIte,reduceCtorEq,Nat.reduceEqDiff,Nat.reduceAdd,Nat.reduceSub,Nat.reduceLeDiff,Nat.reduceLT,Nat.zero_add,Nat.add_zero,Int.reduceNeg,decide_false,beq_iff_eq,beq_eq_false_iff_ne,List.length_cons,List.length_nil,List.append_nil,bne_self_eq_false,and_true,true_and,and_self,and_assoc,forall_const,Nat.le_refl,decide_eq_true_eq,decide_eq_false_iff_not,Val.int.injEq,ne_eq,not_false_eq_true,false_implies,not_false_eq_true,maxLen,Nat.reducePow,keepF,appF,updB,inat]
    refine ⟨fun k hk hs' => ?_,fun hall => ⟨by omega,by omega,by omega,by omega,fun gg => ?_⟩⟩
    · have hkr := hhas k hk
      refine ⟨hk,by omega,by omega,by omega,by omega,fun hlt => ?_,fun hge => ?_⟩
      · refine inv_intro (k,(fun j => if j = k then true else seen j),some k) (.inr ⟨k.toNat,by simp only; omega,by omega,by rw [show ((k.toNat : Nat) : Int) = k from by omega]; exact hk,fun z hz hz' => ?_⟩) (hmeas k hk hs') ?_
        · simp only at hz'
          split at hz'
          · next e => rw [show k.toNat = z from by omega]; exact Int.le_refl _
          · have := hxm z hz hz'; omega
        · simp only [Chk,chkFr,chkBx,chkBx1,newIn,hasB,idsLt,kept,vs_int,vs_bool,vs_nil,vs_own,vs_ptr,vs_cons,vs_view,vs_mview,vs_mapb,fget,isLB,bget,vsubP_self,↓reduceIte,reduceCtorEq,Nat.reduceEqDiff,Nat.reduceLT,and_true,and_self,forall_const,implies_true,Option.some.injEq,exists_eq',or_false]
          try simp
      · refine inv_intro (x,(fun j => if j = k then true else seen j),some k) (.inr ⟨x,rfl,hx,hxh,fun z hz hz' => ?_⟩) (hmeas k hk hs') ?_
        · simp only at hz'
          split at hz'
          · next e => rw [show z = k.toNat from by omega]; omega
          · exact hxm z hz hz'
        · simp only [Chk,chkFr,chkBx,chkBx1,newIn,hasB,idsLt,kept,vs_int,vs_bool,vs_nil,vs_own,vs_ptr,vs_cons,vs_view,vs_mview,vs_mapb,fget,isLB,bget,vsubP_self,↓reduceIte,reduceCtorEq,Nat.reduceEqDiff,Nat.reduceLT,and_true,and_self,forall_const,implies_true,Option.some.injEq,exists_eq',or_false]
          try simp
    refine loopI (ι := Nat) (fun j => j ≤ g.palms.1) (fun j => g.palms.1 - j) [0,1,2,3,4,11,12] (fun j => [(13,.int .i64 j)]) (fun j => [(2,.row 3 1 g.palms.1 fun i _ => .int .i64 (rlJ g N x (D x) D j i))]) 0 (by omega) (by simp only [rlJ_0,vs_yld,Chk,chkFr,chkBx,chkBx1,newIn,hasB,idsLt,kept,vs_und,vs_int,vs_bool,vs_nil,vs_own,vs_ptr,vs_cons,vs_view,vs_mview,fget,isLB,bget,bset,vsubP_self,↓reduceIte,reduceCtorEq,Nat.reduceEqDiff,Nat.reduceLT,Int.cast_ofNat_Int,and_true,and_self,forall_const,implies_true,Option.some.injEq,exists_eq',or_false,keepF,appF,updB]; try simp) fun j hj => ?_
    have e1 : IntKind.i64.wrap (D x + g.hatch) = D x + g.hatch := wr64 (by omega) (by omega)
    by_cases hjl : j < g.palms.1
    · have fj : ((j : Int) < (g.palms.1 : Int)) = True := eq_true (by omega)
      have p1 : PlOk (g.places.2 j) := hg.pl j (by omega)
      have p2 : PlOk (g.places.2 x) := hg.pl x (by omega)
      have htop := hDj.top j hjl
      have hpl := hg.pms.pl j hjl
      by_cases hl : lateP g j
      · have fl0 := decP_t hl
        obtain ⟨hk1,hk2⟩ := hg.lst hjl hl.1
        by_cases hmx : moF g j = x
        · have fm : ((moF g j : Int) = (x : Int)) = True := eq_true (by omega)
          by_cases hdp : D x ≤ (g.palms.2 j).planted
          · have fd := eq_true hdp
            by_cases hnp : N j ≤ (g.palms.2 j).planted
            · have fnp := eq_true hnp
              have hgi : lateP g j ∧ moF g j = x ∧ D x ≤ (g.palms.2 j).planted ∧ N j ≤ (g.palms.2 j).planted := ⟨hl,hmx,hdp,hnp⟩
              have et := then_gift hgi
              have fl : ((g.palms.2 j).planted < 100001) = True := eq_true (by omega)
              by_cases hjx : j = x
              · have fx1 : ((j : Int) = (x : Int)) = True := eq_true (by omega)
                simp only [sNear,sLate,sGreatest,maxF,Pt.Is,Pt.of,isAt_self,fj,p1,p2,hre,e1,rlJ_at,fx1,fl,fl0,hk1,hk2,fm,fd,fnp,TPt,Pt.L,flatO,↓imp_tt,↓imp_tf,↓imp_ft,↓imp_ff,runO_4,runO_5,runO_6,runO_8,runO_12,runO_13,runO_14,runO_16,runO_17,runO_18,runO_19,aop,binV,RoundP,putL,reOk,Nat.zero_sub,ev,fget,fput,cellsOf,cellsN,isLB,vget,vset,vsets,vlen,bget,bset,addB,addN,mkv,sliceV,vtab,rowsV,rowsOk,vrep,frz,opOwns,preFz,callFz,owns,skipOp,WfT,casts,castOks,cast1,castOk,norm,norms,norm1,normL,pureB,pureL,flatB,onesB,snapV,snapOk,snapL,snapOks,specV,argsL,capsL,mkE_S,mkE_I,lkp,pickV,mgetV,stkFr,stkNx,Val.toInt,Val.slen,Val.scell,↓reduceIte,reduceCtorEq,Nat.reduceEqDiff,Nat.reduceAdd,Nat.reduceSub,Nat.reduceLeDiff,Nat.reduceLT,Nat.zero_add,Nat.add_zero,Nat.sub_zero,Int.reduceLT,decide_true,decide_false,beq_iff_eq,beq_eq_false_iff_ne,bne_iff_ne,bne_eq_false_iff_eq,List.length_cons,List.length_nil,List.append_nil,Bool.and_true,Bool.and_false,Bool.and_self,Bool.bne_true,bne_self_eq_false,Bool.not_true,Bool.not_false,and_true,true_and,and_self,and_assoc,forall_const,imp_self,implies_true,Nat.le_refl,decide_eq_true_eq,decide_eq_false_iff_not,ne_eq,false_implies,not_true_eq_false,keepF,appF,updB,inat,spec2,spec3,TSl,IsSl,TInt,IsInt,RInt,Prod.eta,Pm.c0,Pm.c1,Pm.c2,Pm.c3,Pm.c4,RPm,Pm.w_c,Pm.d,Pm.eta,Pl.L,Pl.c0,Pl.c1,Pl.Is,Pl.of,TPl,RPl,Pl.w_c,Pl.d,Pl.eta,Gv.Is,Gv.of,Gv.d,Gv.eta,toUI_val]
                repeat' (first | omega | (with_reducible apply And.intro) | intro _)
                all_goals first
                  | (refine inv_intro (j + 1) (by omega) (by omega) ?_
                     simp only [vs_yld,Chk,chkFr,chkBx,chkBx1,newIn,hasB,idsLt,kept,vs_und,vs_int,vs_bool,vs_nil,vs_own,vs_ptr,vs_cons,vs_view,vs_mview,Nat.lt_irrefl,fget,isLB,bget,vp_int,vsubP_self,↓reduceIte,reduceCtorEq,Nat.reduceEqDiff,Nat.reduceLT,and_true,true_and,and_self,forall_const,implies_true,Option.some.injEq,Val.int.injEq,exists_eq',false_implies,or_false]
                     rw [wrS (by omega)]
                     refine ⟨rfl,fun i hi b hb => ?_⟩
                     obtain rfl : b = 0 := by omega
                     by_cases h5 : i = j
                     · subst h5; rw [rlJ_eq,et]; simp [vget]
                     · rw [rlJ_ne h5]; simp [h5])
                  | (rename_i i hi
                     rcases (by omega : i = 0 ∨ i = 1) with rfl | rfl <;> rfl)
              · have fx1 : ((j : Int) = (x : Int)) = False := eq_false (by omega)
                by_cases hnr : nearP (g.places.2 j) (g.places.2 x) g.reach
                · have fn := decP_t hnr
                  simp only [sNear,sLate,sGreatest,maxF,Pt.Is,Pt.of,isAt_self,fj,p1,p2,hre,e1,rlJ_at,fx1,fn,fl,fl0,hk1,hk2,fm,fd,fnp,TPt,Pt.L,flatO,↓imp_tt,↓imp_tf,↓imp_ft,↓imp_ff,runO_4,runO_5,runO_6,runO_8,runO_12,runO_13,runO_14,runO_16,runO_17,runO_18,runO_19,aop,binV,RoundP,putL,reOk,Nat.zero_sub,ev,fget,fput,cellsOf,cellsN,isLB,vget,vset,vsets,vlen,bget,bset,addB,addN,mkv,sliceV,vtab,rowsV,rowsOk,vrep,frz,opOwns,preFz,callFz,owns,skipOp,WfT,casts,castOks,cast1,castOk,norm,norms,norm1,normL,pureB,pureL,flatB,onesB,snapV,snapOk,snapL,snapOks,specV,argsL,capsL,mkE_S,mkE_I,lkp,pickV,mgetV,stkFr,stkNx,Val.toInt,Val.slen,Val.scell,↓reduceIte,reduceCtorEq,Nat.reduceEqDiff,Nat.reduceAdd,Nat.reduceSub,Nat.reduceLeDiff,Nat.reduceLT,Nat.zero_add,Nat.add_zero,Nat.sub_zero,Int.reduceLT,decide_true,decide_false,beq_iff_eq,beq_eq_false_iff_ne,bne_iff_ne,bne_eq_false_iff_eq,List.length_cons,List.length_nil,List.append_nil,Bool.and_true,Bool.and_false,Bool.and_self,Bool.bne_true,bne_self_eq_false,Bool.not_true,Bool.not_false,and_true,true_and,and_self,and_assoc,forall_const,imp_self,implies_true,Nat.le_refl,decide_eq_true_eq,decide_eq_false_iff_not,ne_eq,not_false_eq_true,false_implies,not_true_eq_false,not_false_eq_true,keepF,appF,updB,inat,spec2,spec3,TSl,IsSl,TInt,IsInt,RInt,Prod.eta,Pm.c0,Pm.c1,Pm.c2,Pm.c3,Pm.c4,RPm,Pm.w_c,Pm.d,Pm.eta,Pl.L,Pl.c0,Pl.c1,Pl.Is,Pl.of,TPl,RPl,Pl.w_c,Pl.d,Pl.eta,Gv.Is,Gv.of,Gv.d,Gv.eta,toUI_val]
                  repeat' (first | omega | (with_reducible apply And.intro) | intro _)
                  all_goals first
                    | (refine inv_intro (j + 1) (by omega) (by omega) ?_
                       simp only [vs_yld,Chk,chkFr,chkBx,chkBx1,newIn,hasB,idsLt,kept,vs_und,vs_int,vs_bool,vs_nil,vs_own,vs_ptr,vs_cons,vs_view,vs_mview,Nat.lt_irrefl,fget,isLB,bget,vp_int,vsubP_self,↓reduceIte,reduceCtorEq,Nat.reduceEqDiff,Nat.reduceLT,and_true,true_and,and_self,forall_const,implies_true,Option.some.injEq,Val.int.injEq,exists_eq',false_implies,or_false]
                       rw [wrS (by omega)]
                       refine ⟨rfl,fun i hi b hb => ?_⟩
                       obtain rfl : b = 0 := by omega
                       by_cases h5 : i = j
                       · subst h5; rw [rlJ_eq,et]; simp [vget]
                       · rw [rlJ_ne h5]; simp [h5])
                    | (rename_i i hi
                       rcases (by omega : i = 0 ∨ i = 1) with rfl | rfl <;> rfl)
                · have fn := decP_f hnr
                  simp only [sNear,sLate,sGreatest,Pt.Is,Pt.of,isAt_self,fj,p1,p2,hre,rlJ_at,fx1,fn,fl,fl0,hk1,hk2,fm,fd,fnp,TPt,Pt.L,↓imp_tt,↓imp_tf,↓imp_ft,↓imp_ff,runO_4,runO_5,runO_6,runO_8,runO_12,runO_13,runO_14,runO_16,runO_17,runO_18,runO_19,aop,binV,RoundP,putL,reOk,Nat.zero_sub,ev,fget,fput,cellsOf,cellsN,isLB,vget,vset,vsets,vlen,bget,bset,addB,addN,mkv,sliceV,vtab,frz,opOwns,preFz,callFz,owns,skipOp,WfT,casts,castOks,cast1,castOk,norm,norms,norm1,normL,pureB,pureL,onesB,specV,argsL,capsL,mkE_S,mkE_I,lkp,pickV,mgetV,stkFr,stkNx,Val.toInt,Val.slen,Val.scell,↓reduceIte,reduceCtorEq,Nat.reduceEqDiff,Nat.reduceAdd,Nat.reduceSub,Nat.reduceLeDiff,Nat.zero_add,Nat.add_zero,Nat.sub_zero,Int.reduceLT,decide_true,decide_false,beq_iff_eq,beq_eq_false_iff_ne,bne_iff_ne,bne_eq_false_iff_eq,List.length_cons,List.length_nil,List.append_nil,Bool.and_self,Bool.bne_true,bne_self_eq_false,Bool.not_true,Bool.not_false,and_true,true_and,and_self,and_assoc,forall_const,imp_self,implies_true,Nat.le_refl,ne_eq,not_false_eq_true,false_implies,not_true_eq_false,not_false_eq_true,keepF,appF,updB,inat,spec2,spec3,TSl,IsSl,TInt,IsInt,RInt,Prod.eta,Pm.c0,Pm.c1,Pm.c2,Pm.c3,Pm.c4,RPm,Pm.w_c,Pm.d,Pm.eta,Pl.L,Pl.c0,Pl.c1,Pl.Is,Pl.of,TPl,RPl,Pl.w_c,Pl.d,Pl.eta,Gv.Is,Gv.of,Gv.d,Gv.eta,toUI_val]
                  repeat' (first | omega | (with_reducible apply And.intro) | intro _)
                  all_goals first
                    | (refine inv_intro (j + 1) (by omega) (by omega) ?_
                       simp only [vs_yld,Chk,chkFr,chkBx,chkBx1,newIn,hasB,idsLt,kept,vs_und,vs_int,vs_bool,vs_nil,vs_own,vs_ptr,vs_cons,vs_view,vs_mview,Nat.lt_irrefl,fget,isLB,bget,vp_int,vsubP_self,↓reduceIte,reduceCtorEq,Nat.reduceEqDiff,Nat.reduceLT,and_true,true_and,and_self,forall_const,implies_true,Option.some.injEq,Val.int.injEq,exists_eq',false_implies,or_false]
                       rw [wrS (by omega)]
                       refine ⟨rfl,fun i hi b hb => ?_⟩
                       obtain rfl : b = 0 := by omega
                       by_cases h5 : i = j
                       · subst h5; rw [rlJ_eq,et]; simp [vget]
                       · rw [rlJ_ne h5]; simp [h5])
                    | (rename_i i hi
                       rcases (by omega : i = 0 ∨ i = 1) with rfl | rfl <;> rfl)
            · have fnp := eq_false hnp
              have hgi : ¬ (lateP g j ∧ moF g j = x ∧ D x ≤ (g.palms.2 j).planted ∧ N j ≤ (g.palms.2 j).planted) := fun h => hnp h.2.2.2
              by_cases hjx : j = x
              · have fx1 : ((j : Int) = (x : Int)) = True := eq_true (by omega)
                have et : thenF g N x (D x) j = 100001 := then_no hgi fun h => h.1 hjx
                simp only [sNear,sLate,sGreatest,maxF,Pt.Is,Pt.of,isAt_self,fj,p1,p2,hre,e1,rlJ_at,fx1,fl0,hk1,hk2,fm,fd,fnp,TPt,Pt.L,flatO,↓imp_tt,↓imp_tf,↓imp_ft,↓imp_ff,runO_4,runO_5,runO_6,runO_8,runO_12,runO_13,runO_14,runO_16,runO_17,runO_18,runO_19,aop,binV,RoundP,putL,reOk,Nat.zero_sub,ev,fget,fput,cellsOf,cellsN,isLB,vget,vset,vsets,vlen,bget,bset,addB,addN,mkv,sliceV,vtab,rowsV,rowsOk,vrep,frz,opOwns,preFz,callFz,owns,skipOp,WfT,casts,castOks,cast1,castOk,norm,norms,norm1,normL,pureB,pureL,flatB,onesB,snapV,snapOk,snapL,snapOks,specV,argsL,capsL,mkE_S,mkE_I,lkp,pickV,mgetV,stkFr,stkNx,Val.toInt,Val.slen,Val.scell,↓reduceIte,reduceCtorEq,Nat.reduceEqDiff,Nat.reduceAdd,Nat.reduceSub,Nat.reduceLeDiff,Nat.reduceLT,Nat.zero_add,Nat.add_zero,Nat.sub_zero,Int.reduceLT,decide_true,decide_false,beq_iff_eq,beq_eq_false_iff_ne,bne_iff_ne,bne_eq_false_iff_eq,List.length_cons,List.length_nil,List.append_nil,Bool.and_true,Bool.and_false,Bool.and_self,Bool.bne_true,bne_self_eq_false,Bool.not_true,Bool.not_false,and_true,true_and,and_self,and_assoc,forall_const,imp_self,implies_true,Nat.le_refl,decide_eq_true_eq,decide_eq_false_iff_not,ne_eq,false_implies,not_true_eq_false,keepF,appF,updB,inat,spec2,spec3,TSl,IsSl,TInt,IsInt,RInt,Prod.eta,Pm.c0,Pm.c1,Pm.c2,Pm.c3,Pm.c4,RPm,Pm.w_c,Pm.d,Pm.eta,Pl.L,Pl.c0,Pl.c1,Pl.Is,Pl.of,TPl,RPl,Pl.w_c,Pl.d,Pl.eta,Gv.Is,Gv.of,Gv.d,Gv.eta,toUI_val]
                repeat' (first | omega | (with_reducible apply And.intro) | intro _)
                all_goals first
                  | (refine inv_intro (j + 1) (by omega) (by omega) ?_
                     simp only [vs_yld,Chk,chkFr,chkBx,chkBx1,newIn,hasB,idsLt,kept,vs_und,vs_int,vs_bool,vs_nil,vs_own,vs_ptr,vs_cons,vs_view,vs_mview,Nat.lt_irrefl,fget,isLB,bget,vp_int,vsubP_self,↓reduceIte,reduceCtorEq,Nat.reduceEqDiff,Nat.reduceLT,and_true,true_and,and_self,forall_const,implies_true,Option.some.injEq,Val.int.injEq,exists_eq',false_implies,or_false]
                     rw [wrS (by omega)]
                     refine ⟨rfl,fun i hi b hb => ?_⟩
                     by_cases h5 : i = j
                     · subst h5; rw [rlJ_eq,rlJ_at,et,Int.min_eq_left (by omega)]
                     · rw [rlJ_ne h5])
                  | (rename_i i hi
                     rcases (by omega : i = 0 ∨ i = 1) with rfl | rfl <;> rfl)
              · have fx1 : ((j : Int) = (x : Int)) = False := eq_false (by omega)
                by_cases hnr : nearP (g.places.2 j) (g.places.2 x) g.reach
                · have fn := decP_t hnr
                  have et : thenF g N x (D x) j = flyF g N j (D x) := then_fly hgi ⟨hjx,hnr⟩
                  unfold flyF at et
                  by_cases hlt : max (max (D x + g.hatch) (g.palms.2 j).planted) (N j) < 100001
                  · have fl := eq_true hlt
                    simp only [sNear,sLate,sGreatest,maxF,Pt.Is,Pt.of,isAt_self,fj,p1,p2,hre,e1,rlJ_at,fx1,fn,fl,fl0,hk1,hk2,fm,fd,fnp,TPt,Pt.L,flatO,↓imp_tt,↓imp_tf,↓imp_ft,↓imp_ff,runO_4,runO_5,runO_6,runO_8,runO_12,runO_13,runO_14,runO_16,runO_17,runO_18,runO_19,aop,binV,RoundP,putL,reOk,Nat.zero_sub,ev,fget,fput,cellsOf,cellsN,isLB,vget,vset,vsets,vlen,bget,bset,addB,addN,mkv,sliceV,vtab,rowsV,rowsOk,vrep,frz,opOwns,preFz,callFz,owns,skipOp,WfT,casts,castOks,cast1,castOk,norm,norms,norm1,normL,pureB,pureL,flatB,onesB,snapV,snapOk,snapL,snapOks,specV,argsL,capsL,mkE_S,mkE_I,lkp,pickV,mgetV,stkFr,stkNx,Val.toInt,Val.slen,Val.scell,↓reduceIte,reduceCtorEq,Nat.reduceEqDiff,Nat.reduceAdd,Nat.reduceSub,Nat.reduceLeDiff,Nat.reduceLT,Nat.zero_add,Nat.add_zero,Nat.sub_zero,Int.reduceLT,decide_true,decide_false,beq_iff_eq,beq_eq_false_iff_ne,bne_iff_ne,bne_eq_false_iff_eq,List.length_cons,List.length_nil,List.append_nil,Bool.and_true,Bool.and_false,Bool.and_self,Bool.bne_true,bne_self_eq_false,Bool.not_true,Bool.not_false,and_true,true_and,and_self,and_assoc,forall_const,imp_self,implies_true,Nat.le_refl,ne_eq,not_false_eq_true,false_implies,not_true_eq_false,not_false_eq_true,keepF,appF,updB,inat,spec2,spec3,TSl,IsSl,TInt,IsInt,RInt,Prod.eta,Pm.c0,Pm.c1,Pm.c2,Pm.c3,Pm.c4,RPm,Pm.w_c,Pm.d,Pm.eta,Pl.L,Pl.c0,Pl.c1,Pl.Is,Pl.of,TPl,RPl,Pl.w_c,Pl.d,Pl.eta,Gv.Is,Gv.of,Gv.d,Gv.eta,toUI_val]
                    repeat' (first | omega | (with_reducible apply And.intro) | intro _)
                    all_goals first
                      | (refine inv_intro (j + 1) (by omega) (by omega) ?_
                         simp only [vs_yld,Chk,chkFr,chkBx,chkBx1,newIn,hasB,idsLt,kept,vs_und,vs_int,vs_bool,vs_nil,vs_own,vs_ptr,vs_cons,vs_view,vs_mview,Nat.lt_irrefl,fget,isLB,bget,vp_int,vsubP_self,↓reduceIte,reduceCtorEq,Nat.reduceEqDiff,Nat.reduceLT,and_true,true_and,and_self,forall_const,implies_true,Option.some.injEq,Val.int.injEq,exists_eq',false_implies,or_false]
                         rw [wrS (by omega)]
                         refine ⟨rfl,fun i hi b hb => ?_⟩
                         obtain rfl : b = 0 := by omega
                         by_cases h5 : i = j
                         · subst h5; rw [rlJ_eq,et]; simp [vget]
                         · rw [rlJ_ne h5]; simp [h5])
                      | (rename_i i hi
                         rcases (by omega : i = 0 ∨ i = 1) with rfl | rfl <;> rfl)
                  · have fl := eq_false hlt
                    simp only [sNear,sLate,sGreatest,maxF,Pt.Is,Pt.of,isAt_self,fj,p1,p2,hre,e1,fx1,fn,fl,fl0,hk1,hk2,fm,fd,fnp,TPt,Pt.L,flatO,↓imp_tt,↓imp_tf,↓imp_ft,↓imp_ff,runO_4,runO_5,runO_6,runO_8,runO_14,runO_16,runO_17,runO_18,runO_19,aop,binV,reOk,Nat.zero_sub,ev,fget,fput,cellsOf,cellsN,isLB,vget,vset,vsets,vlen,bget,bset,addB,addN,mkv,sliceV,vtab,rowsV,rowsOk,vrep,frz,opOwns,preFz,callFz,skipOp,WfT,casts,castOks,cast1,castOk,norm,norms,norm1,normL,pureB,pureL,flatB,onesB,snapV,snapOk,snapL,snapOks,specV,argsL,capsL,mkE_S,mkE_I,lkp,pickV,mgetV,stkFr,stkNx,Val.toInt,Val.slen,Val.scell,↓reduceIte,reduceCtorEq,Nat.reduceEqDiff,Nat.reduceAdd,Nat.reduceSub,Nat.reduceLeDiff,Nat.reduceLT,Nat.zero_add,Nat.add_zero,Int.reduceLT,decide_true,decide_false,beq_iff_eq,beq_eq_false_iff_ne,bne_iff_ne,bne_eq_false_iff_eq,List.length_cons,List.length_nil,List.append_nil,Bool.and_true,Bool.and_false,Bool.and_self,Bool.bne_true,bne_self_eq_false,Bool.not_true,Bool.not_false,and_true,true_and,and_self,and_assoc,forall_const,imp_self,implies_true,Nat.le_refl,ne_eq,not_false_eq_true,false_implies,not_true_eq_false,not_false_eq_true,keepF,appF,updB,inat,spec2,spec3,TSl,IsSl,TInt,IsInt,RInt,Prod.eta,Pm.c0,Pm.c1,Pm.c2,Pm.c3,Pm.c4,RPm,Pm.w_c,Pm.d,Pm.eta,Pl.L,Pl.c0,Pl.c1,Pl.Is,Pl.of,TPl,RPl,Pl.w_c,Pl.d,Pl.eta,Gv.Is,Gv.of,Gv.d,Gv.eta,toUI_val]
                    repeat' (first | omega | (with_reducible apply And.intro) | intro _)
                    all_goals first
                      | (refine inv_intro (j + 1) (by omega) (by omega) ?_
                         simp only [vs_yld,Chk,chkFr,chkBx,chkBx1,newIn,hasB,idsLt,kept,vs_und,vs_int,vs_bool,vs_nil,vs_own,vs_ptr,vs_cons,vs_view,vs_mview,Nat.lt_irrefl,fget,isLB,bget,vp_int,vsubP_self,↓reduceIte,reduceCtorEq,Nat.reduceEqDiff,Nat.reduceLT,and_true,true_and,and_self,forall_const,implies_true,Option.some.injEq,Val.int.injEq,exists_eq',false_implies,or_false]
                         rw [wrS (by omega)]
                         refine ⟨rfl,fun i hi b hb => ?_⟩
                         by_cases h5 : i = j
                         · subst h5; rw [rlJ_eq,rlJ_at,et,Int.min_eq_left (by omega)]
                         · rw [rlJ_ne h5])
                      | (rename_i i hi
                         rcases (by omega : i = 0 ∨ i = 1) with rfl | rfl <;> rfl)
                · have fn := decP_f hnr
                  have et : thenF g N x (D x) j = 100001 := then_no hgi fun h => hnr h.2
                  simp only [sNear,sLate,sGreatest,Pt.Is,Pt.of,isAt_self,fj,p1,p2,hre,fx1,fn,fl0,hk1,hk2,fm,fd,fnp,TPt,Pt.L,↓imp_tt,↓imp_tf,↓imp_ft,↓imp_ff,runO_4,runO_5,runO_6,runO_8,runO_14,runO_16,runO_17,runO_18,runO_19,aop,binV,reOk,Nat.zero_sub,ev,fget,fput,cellsOf,cellsN,isLB,vget,vset,vsets,vlen,bget,bset,addB,addN,mkv,sliceV,vtab,frz,opOwns,preFz,callFz,skipOp,WfT,casts,castOks,cast1,castOk,norm,norms,norm1,normL,pureB,pureL,onesB,specV,argsL,capsL,mkE_S,mkE_I,lkp,pickV,mgetV,stkFr,stkNx,Val.toInt,Val.slen,Val.scell,↓reduceIte,reduceCtorEq,Nat.reduceEqDiff,Nat.reduceAdd,Nat.reduceSub,Nat.reduceLeDiff,Nat.zero_add,Nat.add_zero,Int.reduceLT,decide_true,decide_false,beq_iff_eq,beq_eq_false_iff_ne,bne_iff_ne,bne_eq_false_iff_eq,List.length_cons,List.length_nil,List.append_nil,Bool.and_self,Bool.bne_true,bne_self_eq_false,Bool.not_false,and_true,true_and,and_self,and_assoc,forall_const,imp_self,implies_true,Nat.le_refl,ne_eq,not_false_eq_true,false_implies,not_true_eq_false,not_false_eq_true,keepF,appF,updB,inat,spec2,spec3,TSl,IsSl,TInt,IsInt,RInt,Prod.eta,Pm.c0,Pm.c1,Pm.c2,Pm.c3,Pm.c4,RPm,Pm.w_c,Pm.d,Pm.eta,Pl.L,Pl.c0,Pl.c1,Pl.Is,Pl.of,TPl,RPl,Pl.w_c,Pl.d,Pl.eta,Gv.Is,Gv.of,Gv.d,Gv.eta,toUI_val]
                  repeat' (first | omega | (with_reducible apply And.intro) | intro _)
                  all_goals first
                    | (refine inv_intro (j + 1) (by omega) (by omega) ?_
                       simp only [vs_yld,Chk,chkFr,chkBx,chkBx1,newIn,hasB,idsLt,kept,vs_und,vs_int,vs_bool,vs_nil,vs_own,vs_ptr,vs_cons,vs_view,vs_mview,Nat.lt_irrefl,fget,isLB,bget,vp_int,vsubP_self,↓reduceIte,reduceCtorEq,Nat.reduceEqDiff,Nat.reduceLT,and_true,true_and,and_self,forall_const,implies_true,Option.some.injEq,Val.int.injEq,exists_eq',false_implies,or_false]
                       rw [wrS (by omega)]
                       refine ⟨rfl,fun i hi b hb => ?_⟩
                       by_cases h5 : i = j
                       · subst h5; rw [rlJ_eq,rlJ_at,et,Int.min_eq_left (by omega)]
                       · rw [rlJ_ne h5])
                    | (rename_i i hi
                       rcases (by omega : i = 0 ∨ i = 1) with rfl | rfl <;> rfl)
          · have fd := eq_false hdp
            have hgi : ¬ (lateP g j ∧ moF g j = x ∧ D x ≤ (g.palms.2 j).planted ∧ N j ≤ (g.palms.2 j).planted) := fun h => hdp h.2.2.1
            by_cases hjx : j = x
            · have fx1 : ((j : Int) = (x : Int)) = True := eq_true (by omega)
              have et : thenF g N x (D x) j = 100001 := then_no hgi fun h => h.1 hjx
              simp only [sNear,sLate,sGreatest,maxF,Pt.Is,Pt.of,isAt_self,fj,p1,p2,hre,e1,rlJ_at,fx1,fl0,hk1,hk2,fm,fd,TPt,Pt.L,flatO,↓imp_tt,↓imp_tf,↓imp_ft,↓imp_ff,runO_4,runO_5,runO_6,runO_8,runO_12,runO_13,runO_14,runO_16,runO_17,runO_18,runO_19,aop,binV,RoundP,putL,reOk,Nat.zero_sub,ev,fget,fput,cellsOf,cellsN,isLB,vget,vset,vsets,vlen,bget,bset,addB,addN,mkv,sliceV,vtab,rowsV,rowsOk,vrep,frz,opOwns,preFz,callFz,owns,skipOp,WfT,casts,castOks,cast1,castOk,norm,norms,norm1,normL,pureB,pureL,flatB,onesB,snapV,snapOk,snapL,snapOks,specV,argsL,capsL,mkE_S,mkE_I,lkp,pickV,mgetV,stkFr,stkNx,Val.toInt,Val.slen,Val.scell,↓reduceIte,reduceCtorEq,Nat.reduceEqDiff,Nat.reduceAdd,Nat.reduceSub,Nat.reduceLeDiff,Nat.reduceLT,Nat.zero_add,Nat.add_zero,Nat.sub_zero,Int.reduceLT,decide_true,decide_false,beq_iff_eq,beq_eq_false_iff_ne,bne_iff_ne,bne_eq_false_iff_eq,List.length_cons,List.length_nil,List.append_nil,Bool.and_true,Bool.and_false,Bool.and_self,Bool.bne_true,bne_self_eq_false,Bool.not_true,Bool.not_false,and_true,true_and,and_self,and_assoc,forall_const,imp_self,implies_true,Nat.le_refl,decide_eq_true_eq,decide_eq_false_iff_not,ne_eq,false_implies,not_true_eq_false,keepF,appF,updB,inat,spec2,spec3,TSl,IsSl,TInt,IsInt,RInt,Prod.eta,Pm.c0,Pm.c1,Pm.c2,Pm.c3,Pm.c4,RPm,Pm.w_c,Pm.d,Pm.eta,Pl.L,Pl.c0,Pl.c1,Pl.Is,Pl.of,TPl,RPl,Pl.w_c,Pl.d,Pl.eta,Gv.Is,Gv.of,Gv.d,Gv.eta,toUI_val]
              repeat' (first | omega | (with_reducible apply And.intro) | intro _)
              all_goals first
                | (refine inv_intro (j + 1) (by omega) (by omega) ?_
                   simp only [vs_yld,Chk,chkFr,chkBx,chkBx1,newIn,hasB,idsLt,kept,vs_und,vs_int,vs_bool,vs_nil,vs_own,vs_ptr,vs_cons,vs_view,vs_mview,Nat.lt_irrefl,fget,isLB,bget,vp_int,vsubP_self,↓reduceIte,reduceCtorEq,Nat.reduceEqDiff,Nat.reduceLT,and_true,true_and,and_self,forall_const,implies_true,Option.some.injEq,Val.int.injEq,exists_eq',false_implies,or_false]
                   rw [wrS (by omega)]
                   refine ⟨rfl,fun i hi b hb => ?_⟩
                   by_cases h5 : i = j
                   · subst h5; rw [rlJ_eq,rlJ_at,et,Int.min_eq_left (by omega)]
                   · rw [rlJ_ne h5])
                | (rename_i i hi
                   rcases (by omega : i = 0 ∨ i = 1) with rfl | rfl <;> rfl)
            · have fx1 : ((j : Int) = (x : Int)) = False := eq_false (by omega)
              by_cases hnr : nearP (g.places.2 j) (g.places.2 x) g.reach
              · have fn := decP_t hnr
                have et : thenF g N x (D x) j = flyF g N j (D x) := then_fly hgi ⟨hjx,hnr⟩
                unfold flyF at et
                by_cases hlt : max (max (D x + g.hatch) (g.palms.2 j).planted) (N j) < 100001
                · have fl := eq_true hlt
                  simp only [sNear,sLate,sGreatest,maxF,Pt.Is,Pt.of,isAt_self,fj,p1,p2,hre,e1,rlJ_at,fx1,fn,fl,fl0,hk1,hk2,fm,fd,TPt,Pt.L,flatO,↓imp_tt,↓imp_tf,↓imp_ft,↓imp_ff,runO_4,runO_5,runO_6,runO_8,runO_12,runO_13,runO_14,runO_16,runO_17,runO_18,runO_19,aop,binV,RoundP,putL,reOk,Nat.zero_sub,ev,fget,fput,cellsOf,cellsN,isLB,vget,vset,vsets,vlen,bget,bset,addB,addN,mkv,sliceV,vtab,rowsV,rowsOk,vrep,frz,opOwns,preFz,callFz,owns,skipOp,WfT,casts,castOks,cast1,castOk,norm,norms,norm1,normL,pureB,pureL,flatB,onesB,snapV,snapOk,snapL,snapOks,specV,argsL,capsL,mkE_S,mkE_I,lkp,pickV,mgetV,stkFr,stkNx,Val.toInt,Val.slen,Val.scell,↓reduceIte,reduceCtorEq,Nat.reduceEqDiff,Nat.reduceAdd,Nat.reduceSub,Nat.reduceLeDiff,Nat.reduceLT,Nat.zero_add,Nat.add_zero,Nat.sub_zero,Int.reduceLT,decide_true,decide_false,beq_iff_eq,beq_eq_false_iff_ne,bne_iff_ne,bne_eq_false_iff_eq,List.length_cons,List.length_nil,List.append_nil,Bool.and_true,Bool.and_false,Bool.and_self,Bool.bne_true,bne_self_eq_false,Bool.not_true,Bool.not_false,and_true,true_and,and_self,and_assoc,forall_const,imp_self,implies_true,Nat.le_refl,ne_eq,not_false_eq_true,false_implies,not_true_eq_false,not_false_eq_true,keepF,appF,updB,inat,spec2,spec3,TSl,IsSl,TInt,IsInt,RInt,Prod.eta,Pm.c0,Pm.c1,Pm.c2,Pm.c3,Pm.c4,RPm,Pm.w_c,Pm.d,Pm.eta,Pl.L,Pl.c0,Pl.c1,Pl.Is,Pl.of,TPl,RPl,Pl.w_c,Pl.d,Pl.eta,Gv.Is,Gv.of,Gv.d,Gv.eta,toUI_val]
                  repeat' (first | omega | (with_reducible apply And.intro) | intro _)
                  all_goals first
                    | (refine inv_intro (j + 1) (by omega) (by omega) ?_
                       simp only [vs_yld,Chk,chkFr,chkBx,chkBx1,newIn,hasB,idsLt,kept,vs_und,vs_int,vs_bool,vs_nil,vs_own,vs_ptr,vs_cons,vs_view,vs_mview,Nat.lt_irrefl,fget,isLB,bget,vp_int,vsubP_self,↓reduceIte,reduceCtorEq,Nat.reduceEqDiff,Nat.reduceLT,and_true,true_and,and_self,forall_const,implies_true,Option.some.injEq,Val.int.injEq,exists_eq',false_implies,or_false]
                       rw [wrS (by omega)]
                       refine ⟨rfl,fun i hi b hb => ?_⟩
                       obtain rfl : b = 0 := by omega
                       by_cases h5 : i = j
                       · subst h5; rw [rlJ_eq,et]; simp [vget]
                       · rw [rlJ_ne h5]; simp [h5])
                    | (rename_i i hi
                       rcases (by omega : i = 0 ∨ i = 1) with rfl | rfl <;> rfl)
                · have fl := eq_false hlt
                  simp only [sNear,sLate,sGreatest,maxF,Pt.Is,Pt.of,isAt_self,fj,p1,p2,hre,e1,fx1,fn,fl,fl0,hk1,hk2,fm,fd,TPt,Pt.L,flatO,↓imp_tt,↓imp_tf,↓imp_ft,↓imp_ff,runO_4,runO_5,runO_6,runO_8,runO_14,runO_16,runO_17,runO_18,runO_19,aop,binV,reOk,Nat.zero_sub,ev,fget,fput,cellsOf,cellsN,isLB,vget,vset,vsets,vlen,bget,bset,addB,addN,mkv,sliceV,vtab,rowsV,rowsOk,vrep,frz,opOwns,preFz,callFz,skipOp,WfT,casts,castOks,cast1,castOk,norm,norms,norm1,normL,pureB,pureL,flatB,onesB,snapV,snapOk,snapL,snapOks,specV,argsL,capsL,mkE_S,mkE_I,lkp,pickV,mgetV,stkFr,stkNx,Val.toInt,Val.slen,Val.scell,↓reduceIte,reduceCtorEq,Nat.reduceEqDiff,Nat.reduceAdd,Nat.reduceSub,Nat.reduceLeDiff,Nat.reduceLT,Nat.zero_add,Nat.add_zero,Int.reduceLT,decide_true,decide_false,beq_iff_eq,beq_eq_false_iff_ne,bne_iff_ne,bne_eq_false_iff_eq,List.length_cons,List.length_nil,List.append_nil,Bool.and_true,Bool.and_false,Bool.and_self,Bool.bne_true,bne_self_eq_false,Bool.not_true,Bool.not_false,and_true,true_and,and_self,and_assoc,forall_const,imp_self,implies_true,Nat.le_refl,ne_eq,not_false_eq_true,false_implies,not_true_eq_false,not_false_eq_true,keepF,appF,updB,inat,spec2,spec3,TSl,IsSl,TInt,IsInt,RInt,Prod.eta,Pm.c0,Pm.c1,Pm.c2,Pm.c3,Pm.c4,RPm,Pm.w_c,Pm.d,Pm.eta,Pl.L,Pl.c0,Pl.c1,Pl.Is,Pl.of,TPl,RPl,Pl.w_c,Pl.d,Pl.eta,Gv.Is,Gv.of,Gv.d,Gv.eta,toUI_val]
                  repeat' (first | omega | (with_reducible apply And.intro) | intro _)
                  all_goals first
                    | (refine inv_intro (j + 1) (by omega) (by omega) ?_
                       simp only [vs_yld,Chk,chkFr,chkBx,chkBx1,newIn,hasB,idsLt,kept,vs_und,vs_int,vs_bool,vs_nil,vs_own,vs_ptr,vs_cons,vs_view,vs_mview,Nat.lt_irrefl,fget,isLB,bget,vp_int,vsubP_self,↓reduceIte,reduceCtorEq,Nat.reduceEqDiff,Nat.reduceLT,and_true,true_and,and_self,forall_const,implies_true,Option.some.injEq,Val.int.injEq,exists_eq',false_implies,or_false]
                       rw [wrS (by omega)]
                       refine ⟨rfl,fun i hi b hb => ?_⟩
                       by_cases h5 : i = j
                       · subst h5; rw [rlJ_eq,rlJ_at,et,Int.min_eq_left (by omega)]
                       · rw [rlJ_ne h5])
                    | (rename_i i hi
                       rcases (by omega : i = 0 ∨ i = 1) with rfl | rfl <;> rfl)
              · have fn := decP_f hnr
                have et : thenF g N x (D x) j = 100001 := then_no hgi fun h => hnr h.2
                simp only [sNear,sLate,sGreatest,Pt.Is,Pt.of,isAt_self,fj,p1,p2,hre,fx1,fn,fl0,hk1,hk2,fm,fd,TPt,Pt.L,↓imp_tt,↓imp_tf,↓imp_ft,↓imp_ff,runO_4,runO_5,runO_6,runO_8,runO_14,runO_16,runO_17,runO_18,runO_19,aop,binV,reOk,Nat.zero_sub,ev,fget,fput,cellsOf,cellsN,isLB,vget,vset,vsets,vlen,bget,bset,addB,addN,mkv,sliceV,vtab,frz,opOwns,preFz,callFz,skipOp,WfT,casts,castOks,cast1,castOk,norm,norms,norm1,normL,pureB,pureL,onesB,specV,argsL,capsL,mkE_S,mkE_I,lkp,pickV,mgetV,stkFr,stkNx,Val.toInt,Val.slen,Val.scell,↓reduceIte,reduceCtorEq,Nat.reduceEqDiff,Nat.reduceAdd,Nat.reduceSub,Nat.reduceLeDiff,Nat.zero_add,Nat.add_zero,Int.reduceLT,decide_true,decide_false,beq_iff_eq,beq_eq_false_iff_ne,bne_iff_ne,bne_eq_false_iff_eq,List.length_cons,List.length_nil,List.append_nil,Bool.and_self,Bool.bne_true,bne_self_eq_false,Bool.not_false,and_true,true_and,and_self,and_assoc,forall_const,imp_self,implies_true,Nat.le_refl,ne_eq,not_false_eq_true,false_implies,not_true_eq_false,not_false_eq_true,keepF,appF,updB,inat,spec2,spec3,TSl,IsSl,TInt,IsInt,RInt,Prod.eta,Pm.c0,Pm.c1,Pm.c2,Pm.c3,Pm.c4,RPm,Pm.w_c,Pm.d,Pm.eta,Pl.L,Pl.c0,Pl.c1,Pl.Is,Pl.of,TPl,RPl,Pl.w_c,Pl.d,Pl.eta,Gv.Is,Gv.of,Gv.d,Gv.eta,toUI_val]
                repeat' (first | omega | (with_reducible apply And.intro) | intro _)
                all_goals first
                  | (refine inv_intro (j + 1) (by omega) (by omega) ?_
                     simp only [vs_yld,Chk,chkFr,chkBx,chkBx1,newIn,hasB,idsLt,kept,vs_und,vs_int,vs_bool,vs_nil,vs_own,vs_ptr,vs_cons,vs_view,vs_mview,Nat.lt_irrefl,fget,isLB,bget,vp_int,vsubP_self,↓reduceIte,reduceCtorEq,Nat.reduceEqDiff,Nat.reduceLT,and_true,true_and,and_self,forall_const,implies_true,Option.some.injEq,Val.int.injEq,exists_eq',false_implies,or_false]
                     rw [wrS (by omega)]
                     refine ⟨rfl,fun i hi b hb => ?_⟩
                     by_cases h5 : i = j
                     · subst h5; rw [rlJ_eq,rlJ_at,et,Int.min_eq_left (by omega)]
                     · rw [rlJ_ne h5])
                  | (rename_i i hi
                     rcases (by omega : i = 0 ∨ i = 1) with rfl | rfl <;> rfl)
        · have fm : ((moF g j : Int) = (x : Int)) = False := eq_false (by omega)
          have hgi : ¬ (lateP g j ∧ moF g j = x ∧ D x ≤ (g.palms.2 j).planted ∧ N j ≤ (g.palms.2 j).planted) := fun h => hmx h.2.1
          by_cases hjx : j = x
          · have fx1 : ((j : Int) = (x : Int)) = True := eq_true (by omega)
            have et : thenF g N x (D x) j = 100001 := then_no hgi fun h => h.1 hjx
            simp only [sNear,sLate,sGreatest,maxF,Pt.Is,Pt.of,isAt_self,fj,p1,p2,hre,e1,rlJ_at,fx1,fl0,hk1,hk2,fm,TPt,Pt.L,flatO,↓imp_tt,↓imp_tf,↓imp_ft,↓imp_ff,runO_4,runO_5,runO_6,runO_8,runO_12,runO_13,runO_14,runO_16,runO_17,runO_18,runO_19,aop,binV,RoundP,putL,reOk,Nat.zero_sub,ev,fget,fput,cellsOf,cellsN,isLB,vget,vset,vsets,vlen,bget,bset,addB,addN,mkv,sliceV,vtab,rowsV,rowsOk,vrep,frz,opOwns,preFz,callFz,owns,skipOp,WfT,casts,castOks,cast1,castOk,norm,norms,norm1,normL,pureB,pureL,flatB,onesB,snapV,snapOk,snapL,snapOks,specV,argsL,capsL,mkE_S,mkE_I,lkp,pickV,mgetV,stkFr,stkNx,Val.toInt,Val.slen,Val.scell,↓reduceIte,reduceCtorEq,Nat.reduceEqDiff,Nat.reduceAdd,Nat.reduceSub,Nat.reduceLeDiff,Nat.reduceLT,Nat.zero_add,Nat.add_zero,Nat.sub_zero,Int.reduceLT,decide_true,decide_false,beq_iff_eq,beq_eq_false_iff_ne,bne_iff_ne,bne_eq_false_iff_eq,List.length_cons,List.length_nil,List.append_nil,Bool.and_true,Bool.and_false,Bool.and_self,Bool.bne_true,bne_self_eq_false,Bool.not_true,Bool.not_false,and_true,true_and,and_self,and_assoc,forall_const,imp_self,implies_true,Nat.le_refl,decide_eq_true_eq,decide_eq_false_iff_not,ne_eq,not_false_eq_true,false_implies,not_true_eq_false,not_false_eq_true,keepF,appF,updB,inat,spec2,spec3,TSl,IsSl,TInt,IsInt,RInt,Prod.eta,Pm.c0,Pm.c1,Pm.c2,Pm.c3,Pm.c4,RPm,Pm.w_c,Pm.d,Pm.eta,Pl.L,Pl.c0,Pl.c1,Pl.Is,Pl.of,TPl,RPl,Pl.w_c,Pl.d,Pl.eta,Gv.Is,Gv.of,Gv.d,Gv.eta,toUI_val]
            repeat' (first | omega | (with_reducible apply And.intro) | intro _)
            all_goals first
              | (refine inv_intro (j + 1) (by omega) (by omega) ?_
                 simp only [vs_yld,Chk,chkFr,chkBx,chkBx1,newIn,hasB,idsLt,kept,vs_und,vs_int,vs_bool,vs_nil,vs_own,vs_ptr,vs_cons,vs_view,vs_mview,Nat.lt_irrefl,fget,isLB,bget,vp_int,vsubP_self,↓reduceIte,reduceCtorEq,Nat.reduceEqDiff,Nat.reduceLT,and_true,true_and,and_self,forall_const,implies_true,Option.some.injEq,Val.int.injEq,exists_eq',false_implies,or_false]
                 rw [wrS (by omega)]
                 refine ⟨rfl,fun i hi b hb => ?_⟩
                 by_cases h5 : i = j
                 · subst h5; rw [rlJ_eq,rlJ_at,et,Int.min_eq_left (by omega)]
                 · rw [rlJ_ne h5])
              | (rename_i i hi
                 rcases (by omega : i = 0 ∨ i = 1) with rfl | rfl <;> rfl)
          · have fx1 : ((j : Int) = (x : Int)) = False := eq_false (by omega)
            by_cases hnr : nearP (g.places.2 j) (g.places.2 x) g.reach
            · have fn := decP_t hnr
              have et : thenF g N x (D x) j = flyF g N j (D x) := then_fly hgi ⟨hjx,hnr⟩
              unfold flyF at et
              by_cases hlt : max (max (D x + g.hatch) (g.palms.2 j).planted) (N j) < 100001
              · have fl := eq_true hlt
                simp only [sNear,sLate,sGreatest,maxF,Pt.Is,Pt.of,isAt_self,fj,p1,p2,hre,e1,rlJ_at,fx1,fn,fl,fl0,hk1,hk2,fm,TPt,Pt.L,flatO,↓imp_tt,↓imp_tf,↓imp_ft,↓imp_ff,runO_4,runO_5,runO_6,runO_8,runO_12,runO_13,runO_14,runO_16,runO_17,runO_18,runO_19,aop,binV,RoundP,putL,reOk,Nat.zero_sub,ev,fget,fput,cellsOf,cellsN,isLB,vget,vset,vsets,vlen,bget,bset,addB,addN,mkv,sliceV,vtab,rowsV,rowsOk,vrep,frz,opOwns,preFz,callFz,owns,skipOp,WfT,casts,castOks,cast1,castOk,norm,norms,norm1,normL,pureB,pureL,flatB,onesB,snapV,snapOk,snapL,snapOks,specV,argsL,capsL,mkE_S,mkE_I,lkp,pickV,mgetV,stkFr,stkNx,Val.toInt,Val.slen,Val.scell,↓reduceIte,reduceCtorEq,Nat.reduceEqDiff,Nat.reduceAdd,Nat.reduceSub,Nat.reduceLeDiff,Nat.reduceLT,Nat.zero_add,Nat.add_zero,Nat.sub_zero,Int.reduceLT,decide_true,decide_false,beq_iff_eq,beq_eq_false_iff_ne,bne_iff_ne,bne_eq_false_iff_eq,List.length_cons,List.length_nil,List.append_nil,Bool.and_true,Bool.and_false,Bool.and_self,Bool.bne_true,bne_self_eq_false,Bool.not_true,Bool.not_false,and_true,true_and,and_self,and_assoc,forall_const,imp_self,implies_true,Nat.le_refl,decide_eq_true_eq,decide_eq_false_iff_not,ne_eq,not_false_eq_true,false_implies,not_false_eq_true,keepF,appF,updB,inat,spec2,spec3,TSl,IsSl,TInt,IsInt,RInt,Prod.eta,Pm.c0,Pm.c1,Pm.c2,Pm.c3,Pm.c4,RPm,Pm.w_c,Pm.d,Pm.eta,Pl.L,Pl.c0,Pl.c1,Pl.Is,Pl.of,TPl,RPl,Pl.w_c,Pl.d,Pl.eta,Gv.Is,Gv.of,Gv.d,Gv.eta,toUI_val]
                repeat' (first | omega | (with_reducible apply And.intro) | intro _)
                all_goals first
                  | (refine inv_intro (j + 1) (by omega) (by omega) ?_
                     simp only [vs_yld,Chk,chkFr,chkBx,chkBx1,newIn,hasB,idsLt,kept,vs_und,vs_int,vs_bool,vs_nil,vs_own,vs_ptr,vs_cons,vs_view,vs_mview,Nat.lt_irrefl,fget,isLB,bget,vp_int,vsubP_self,↓reduceIte,reduceCtorEq,Nat.reduceEqDiff,Nat.reduceLT,and_true,true_and,and_self,forall_const,implies_true,Option.some.injEq,Val.int.injEq,exists_eq',false_implies,or_false]
                     rw [wrS (by omega)]
                     refine ⟨rfl,fun i hi b hb => ?_⟩
                     obtain rfl : b = 0 := by omega
                     by_cases h5 : i = j
                     · subst h5; rw [rlJ_eq,et]; simp [vget]
                     · rw [rlJ_ne h5]; simp [h5])
                  | (rename_i i hi
                     rcases (by omega : i = 0 ∨ i = 1) with rfl | rfl <;> rfl)
              · have fl := eq_false hlt
                simp only [sNear,sLate,sGreatest,maxF,Pt.Is,Pt.of,isAt_self,fj,p1,p2,hre,e1,rlJ_at,fx1,fn,fl,fl0,hk1,hk2,fm,TPt,Pt.L,flatO,↓imp_tt,↓imp_tf,↓imp_ft,↓imp_ff,runO_4,runO_5,runO_6,runO_8,runO_12,runO_13,runO_14,runO_16,runO_17,runO_18,runO_19,aop,binV,RoundP,putL,reOk,Nat.zero_sub,ev,fget,fput,cellsOf,cellsN,isLB,vget,vset,vsets,vlen,bget,bset,addB,addN,mkv,sliceV,vtab,rowsV,rowsOk,vrep,frz,opOwns,preFz,callFz,owns,skipOp,WfT,casts,castOks,cast1,castOk,norm,norms,norm1,normL,pureB,pureL,flatB,onesB,snapV,snapOk,snapL,snapOks,specV,argsL,capsL,mkE_S,mkE_I,lkp,pickV,mgetV,stkFr,stkNx,Val.toInt,Val.slen,Val.scell,↓reduceIte,reduceCtorEq,Nat.reduceEqDiff,Nat.reduceAdd,Nat.reduceSub,Nat.reduceLeDiff,Nat.reduceLT,Nat.zero_add,Nat.add_zero,Nat.sub_zero,Int.reduceLT,decide_true,decide_false,beq_iff_eq,beq_eq_false_iff_ne,bne_iff_ne,bne_eq_false_iff_eq,List.length_cons,List.length_nil,List.append_nil,Bool.and_true,Bool.and_false,Bool.and_self,Bool.bne_true,bne_self_eq_false,Bool.not_true,Bool.not_false,and_true,true_and,and_self,and_assoc,forall_const,imp_self,implies_true,Nat.le_refl,decide_eq_true_eq,decide_eq_false_iff_not,ne_eq,not_false_eq_true,false_implies,not_false_eq_true,keepF,appF,updB,inat,spec2,spec3,TSl,IsSl,TInt,IsInt,RInt,Prod.eta,Pm.c0,Pm.c1,Pm.c2,Pm.c3,Pm.c4,RPm,Pm.w_c,Pm.d,Pm.eta,Pl.L,Pl.c0,Pl.c1,Pl.Is,Pl.of,TPl,RPl,Pl.w_c,Pl.d,Pl.eta,Gv.Is,Gv.of,Gv.d,Gv.eta,toUI_val]
                repeat' (first | omega | (with_reducible apply And.intro) | intro _)
                all_goals first
                  | (refine inv_intro (j + 1) (by omega) (by omega) ?_
                     simp only [vs_yld,Chk,chkFr,chkBx,chkBx1,newIn,hasB,idsLt,kept,vs_und,vs_int,vs_bool,vs_nil,vs_own,vs_ptr,vs_cons,vs_view,vs_mview,Nat.lt_irrefl,fget,isLB,bget,vp_int,vsubP_self,↓reduceIte,reduceCtorEq,Nat.reduceEqDiff,Nat.reduceLT,and_true,true_and,and_self,forall_const,implies_true,Option.some.injEq,Val.int.injEq,exists_eq',false_implies,or_false]
                     rw [wrS (by omega)]
                     refine ⟨rfl,fun i hi b hb => ?_⟩
                     by_cases h5 : i = j
                     · subst h5; rw [rlJ_eq,rlJ_at,et,Int.min_eq_left (by omega)]
                     · rw [rlJ_ne h5])
                  | (rename_i i hi
                     rcases (by omega : i = 0 ∨ i = 1) with rfl | rfl <;> rfl)
            · have fn := decP_f hnr
              have et : thenF g N x (D x) j = 100001 := then_no hgi fun h => hnr h.2
              simp only [sNear,sLate,sGreatest,Pt.Is,Pt.of,isAt_self,fj,p1,p2,hre,rlJ_at,fx1,fn,fl0,hk1,hk2,fm,TPt,Pt.L,↓imp_tt,↓imp_tf,↓imp_ft,↓imp_ff,runO_4,runO_5,runO_6,runO_8,runO_12,runO_13,runO_14,runO_16,runO_17,runO_18,runO_19,aop,binV,RoundP,putL,reOk,Nat.zero_sub,ev,fget,fput,cellsOf,cellsN,isLB,vget,vset,vsets,vlen,bget,bset,addB,addN,mkv,sliceV,vtab,frz,opOwns,preFz,callFz,owns,skipOp,WfT,casts,castOks,cast1,castOk,norm,norms,norm1,normL,pureB,pureL,onesB,specV,argsL,capsL,mkE_S,mkE_I,lkp,pickV,mgetV,stkFr,stkNx,Val.toInt,Val.slen,Val.scell,↓reduceIte,reduceCtorEq,Nat.reduceEqDiff,Nat.reduceAdd,Nat.reduceSub,Nat.reduceLeDiff,Nat.zero_add,Nat.add_zero,Nat.sub_zero,Int.reduceLT,decide_true,decide_false,beq_iff_eq,beq_eq_false_iff_ne,bne_iff_ne,bne_eq_false_iff_eq,List.length_cons,List.length_nil,List.append_nil,Bool.and_self,Bool.bne_true,bne_self_eq_false,Bool.not_true,Bool.not_false,and_true,true_and,and_self,and_assoc,forall_const,imp_self,implies_true,Nat.le_refl,decide_eq_true_eq,decide_eq_false_iff_not,ne_eq,not_false_eq_true,false_implies,not_false_eq_true,keepF,appF,updB,inat,spec2,spec3,TSl,IsSl,TInt,IsInt,RInt,Prod.eta,Pm.c0,Pm.c1,Pm.c2,Pm.c3,Pm.c4,RPm,Pm.w_c,Pm.d,Pm.eta,Pl.L,Pl.c0,Pl.c1,Pl.Is,Pl.of,TPl,RPl,Pl.w_c,Pl.d,Pl.eta,Gv.Is,Gv.of,Gv.d,Gv.eta,toUI_val]
              repeat' (first | omega | (with_reducible apply And.intro) | intro _)
              all_goals first
                | (refine inv_intro (j + 1) (by omega) (by omega) ?_
                   simp only [vs_yld,Chk,chkFr,chkBx,chkBx1,newIn,hasB,idsLt,kept,vs_und,vs_int,vs_bool,vs_nil,vs_own,vs_ptr,vs_cons,vs_view,vs_mview,Nat.lt_irrefl,fget,isLB,bget,vp_int,vsubP_self,↓reduceIte,reduceCtorEq,Nat.reduceEqDiff,Nat.reduceLT,and_true,true_and,and_self,forall_const,implies_true,Option.some.injEq,Val.int.injEq,exists_eq',false_implies,or_false]
                   rw [wrS (by omega)]
                   refine ⟨rfl,fun i hi b hb => ?_⟩
                   by_cases h5 : i = j
                   · subst h5; rw [rlJ_eq,rlJ_at,et,Int.min_eq_left (by omega)]
                   · rw [rlJ_ne h5])
                | (rename_i i hi
                   rcases (by omega : i = 0 ∨ i = 1) with rfl | rfl <;> rfl)
      · have fl0 := decP_f hl
        have hgi : ¬ (lateP g j ∧ moF g j = x ∧ D x ≤ (g.palms.2 j).planted ∧ N j ≤ (g.palms.2 j).planted) := fun h => hl h.1
        by_cases hjx : j = x
        · have fx1 : ((j : Int) = (x : Int)) = True := eq_true (by omega)
          have et : thenF g N x (D x) j = 100001 := then_no hgi fun h => h.1 hjx
          simp only [sNear,sLate,sGreatest,maxF,Pt.Is,Pt.of,isAt_self,fj,p1,p2,hre,e1,rlJ_at,fx1,fl0,TPt,Pt.L,flatO,↓imp_tt,↓imp_tf,↓imp_ft,↓imp_ff,runO_4,runO_5,runO_6,runO_8,runO_12,runO_13,runO_14,runO_16,runO_17,runO_18,runO_19,aop,binV,RoundP,putL,reOk,Nat.zero_sub,ev,fget,fput,cellsOf,cellsN,isLB,vget,vset,vsets,vlen,bget,bset,addB,addN,mkv,sliceV,vtab,rowsV,rowsOk,vrep,frz,opOwns,preFz,callFz,owns,skipOp,WfT,casts,castOks,cast1,castOk,norm,norms,norm1,normL,pureB,pureL,flatB,onesB,snapV,snapOk,snapL,snapOks,specV,argsL,capsL,mkE_S,mkE_I,lkp,pickV,stkFr,stkNx,Val.toInt,Val.slen,Val.scell,↓reduceIte,reduceCtorEq,Nat.reduceEqDiff,Nat.reduceAdd,Nat.reduceSub,Nat.reduceLeDiff,Nat.reduceLT,Nat.zero_add,Nat.add_zero,Nat.sub_zero,Int.reduceLT,decide_true,decide_false,bne_iff_ne,bne_eq_false_iff_eq,List.length_cons,List.length_nil,List.append_nil,Bool.and_true,Bool.and_false,Bool.and_self,Bool.bne_true,bne_self_eq_false,Bool.not_true,Bool.not_false,and_true,true_and,and_self,and_assoc,forall_const,imp_self,implies_true,Nat.le_refl,decide_eq_true_eq,decide_eq_false_iff_not,ne_eq,false_implies,not_true_eq_false,keepF,appF,updB,inat,spec2,spec3,TSl,IsSl,TInt,IsInt,RInt,Prod.eta,Pm.c0,Pm.c1,Pm.c2,Pm.c3,Pm.c4,RPm,Pm.w_c,Pm.d,Pm.eta,Pl.L,Pl.c0,Pl.c1,Pl.Is,Pl.of,TPl,RPl,Pl.w_c,Pl.d,Pl.eta,Gv.Is,Gv.of,Gv.d,Gv.eta,toUI_val]
          repeat' (first | omega | (with_reducible apply And.intro) | intro _)
          all_goals first
            | (refine inv_intro (j + 1) (by omega) (by omega) ?_
               simp only [vs_yld,Chk,chkFr,chkBx,chkBx1,newIn,hasB,idsLt,kept,vs_und,vs_int,vs_bool,vs_nil,vs_own,vs_ptr,vs_cons,vs_view,vs_mview,Nat.lt_irrefl,fget,isLB,bget,vp_int,vsubP_self,↓reduceIte,reduceCtorEq,Nat.reduceEqDiff,Nat.reduceLT,and_true,true_and,and_self,forall_const,implies_true,Option.some.injEq,Val.int.injEq,exists_eq',false_implies,or_false]
               rw [wrS (by omega)]
               refine ⟨rfl,fun i hi b hb => ?_⟩
               by_cases h5 : i = j
               · subst h5; rw [rlJ_eq,rlJ_at,et,Int.min_eq_left (by omega)]
               · rw [rlJ_ne h5])
            | (rename_i i hi
               rcases (by omega : i = 0 ∨ i = 1) with rfl | rfl <;> rfl)
        · have fx1 : ((j : Int) = (x : Int)) = False := eq_false (by omega)
          by_cases hnr : nearP (g.places.2 j) (g.places.2 x) g.reach
          · have fn := decP_t hnr
            have et : thenF g N x (D x) j = flyF g N j (D x) := then_fly hgi ⟨hjx,hnr⟩
            unfold flyF at et
            by_cases hlt : max (max (D x + g.hatch) (g.palms.2 j).planted) (N j) < 100001
            · have fl := eq_true hlt
              simp only [sNear,sLate,sGreatest,maxF,Pt.Is,Pt.of,isAt_self,fj,p1,p2,hre,e1,rlJ_at,fx1,fn,fl,fl0,TPt,Pt.L,flatO,↓imp_tt,↓imp_tf,↓imp_ft,↓imp_ff,runO_4,runO_5,runO_6,runO_8,runO_12,runO_13,runO_14,runO_16,runO_17,runO_18,runO_19,aop,binV,RoundP,putL,reOk,Nat.zero_sub,ev,fget,fput,cellsOf,cellsN,isLB,vget,vset,vsets,vlen,bget,bset,addB,addN,mkv,sliceV,vtab,rowsV,rowsOk,vrep,frz,opOwns,preFz,callFz,owns,skipOp,WfT,casts,castOks,cast1,castOk,norm,norms,norm1,normL,pureB,pureL,flatB,onesB,snapV,snapOk,snapL,snapOks,specV,argsL,capsL,mkE_S,mkE_I,lkp,pickV,stkFr,stkNx,Val.toInt,Val.slen,Val.scell,↓reduceIte,reduceCtorEq,Nat.reduceEqDiff,Nat.reduceAdd,Nat.reduceSub,Nat.reduceLeDiff,Nat.reduceLT,Nat.zero_add,Nat.add_zero,Nat.sub_zero,Int.reduceLT,decide_true,decide_false,bne_iff_ne,bne_eq_false_iff_eq,List.length_cons,List.length_nil,List.append_nil,Bool.and_true,Bool.and_false,Bool.and_self,Bool.bne_true,bne_self_eq_false,Bool.not_true,Bool.not_false,and_true,true_and,and_self,and_assoc,forall_const,imp_self,implies_true,Nat.le_refl,ne_eq,not_false_eq_true,false_implies,not_false_eq_true,keepF,appF,updB,inat,spec2,spec3,TSl,IsSl,TInt,IsInt,RInt,Prod.eta,Pm.c0,Pm.c1,Pm.c2,Pm.c3,Pm.c4,RPm,Pm.w_c,Pm.d,Pm.eta,Pl.L,Pl.c0,Pl.c1,Pl.Is,Pl.of,TPl,RPl,Pl.w_c,Pl.d,Pl.eta,Gv.Is,Gv.of,Gv.d,Gv.eta,toUI_val]
              repeat' (first | omega | (with_reducible apply And.intro) | intro _)
              all_goals first
                | (refine inv_intro (j + 1) (by omega) (by omega) ?_
                   simp only [vs_yld,Chk,chkFr,chkBx,chkBx1,newIn,hasB,idsLt,kept,vs_und,vs_int,vs_bool,vs_nil,vs_own,vs_ptr,vs_cons,vs_view,vs_mview,Nat.lt_irrefl,fget,isLB,bget,vp_int,vsubP_self,↓reduceIte,reduceCtorEq,Nat.reduceEqDiff,Nat.reduceLT,and_true,true_and,and_self,forall_const,implies_true,Option.some.injEq,Val.int.injEq,exists_eq',false_implies,or_false]
                   rw [wrS (by omega)]
                   refine ⟨rfl,fun i hi b hb => ?_⟩
                   obtain rfl : b = 0 := by omega
                   by_cases h5 : i = j
                   · subst h5; rw [rlJ_eq,et]; simp [vget]
                   · rw [rlJ_ne h5]; simp [h5])
                | (rename_i i hi
                   rcases (by omega : i = 0 ∨ i = 1) with rfl | rfl <;> rfl)
            · have fl := eq_false hlt
              simp only [sNear,sLate,sGreatest,maxF,Pt.Is,Pt.of,isAt_self,fj,p1,p2,hre,e1,fx1,fn,fl,fl0,TPt,Pt.L,flatO,↓imp_tt,↓imp_tf,↓imp_ft,↓imp_ff,runO_4,runO_5,runO_6,runO_8,runO_14,runO_16,runO_17,runO_18,runO_19,aop,binV,reOk,Nat.zero_sub,ev,fget,fput,cellsOf,cellsN,isLB,vget,vset,vsets,vlen,bget,bset,addB,addN,mkv,sliceV,vtab,rowsV,rowsOk,vrep,frz,opOwns,preFz,callFz,skipOp,WfT,casts,castOks,cast1,castOk,norm,norms,norm1,normL,pureB,pureL,flatB,onesB,snapV,snapOk,snapL,snapOks,specV,argsL,capsL,mkE_S,mkE_I,lkp,pickV,stkFr,stkNx,Val.toInt,Val.slen,Val.scell,↓reduceIte,reduceCtorEq,Nat.reduceEqDiff,Nat.reduceAdd,Nat.reduceSub,Nat.reduceLeDiff,Nat.reduceLT,Nat.zero_add,Nat.add_zero,Int.reduceLT,decide_true,decide_false,bne_iff_ne,bne_eq_false_iff_eq,List.length_cons,List.length_nil,List.append_nil,Bool.and_true,Bool.and_false,Bool.and_self,Bool.bne_true,bne_self_eq_false,Bool.not_true,Bool.not_false,and_true,true_and,and_self,and_assoc,forall_const,imp_self,implies_true,Nat.le_refl,ne_eq,not_false_eq_true,false_implies,not_false_eq_true,keepF,appF,updB,inat,spec2,spec3,TSl,IsSl,TInt,IsInt,RInt,Prod.eta,Pm.c0,Pm.c1,Pm.c2,Pm.c3,Pm.c4,RPm,Pm.w_c,Pm.d,Pm.eta,Pl.L,Pl.c0,Pl.c1,Pl.Is,Pl.of,TPl,RPl,Pl.w_c,Pl.d,Pl.eta,Gv.Is,Gv.of,Gv.d,Gv.eta,toUI_val]
              repeat' (first | omega | (with_reducible apply And.intro) | intro _)
              all_goals first
                | (refine inv_intro (j + 1) (by omega) (by omega) ?_
                   simp only [vs_yld,Chk,chkFr,chkBx,chkBx1,newIn,hasB,idsLt,kept,vs_und,vs_int,vs_bool,vs_nil,vs_own,vs_ptr,vs_cons,vs_view,vs_mview,Nat.lt_irrefl,fget,isLB,bget,vp_int,vsubP_self,↓reduceIte,reduceCtorEq,Nat.reduceEqDiff,Nat.reduceLT,and_true,true_and,and_self,forall_const,implies_true,Option.some.injEq,Val.int.injEq,exists_eq',false_implies,or_false]
                   rw [wrS (by omega)]
                   refine ⟨rfl,fun i hi b hb => ?_⟩
                   by_cases h5 : i = j
                   · subst h5; rw [rlJ_eq,rlJ_at,et,Int.min_eq_left (by omega)]
                   · rw [rlJ_ne h5])
                | (rename_i i hi
                   rcases (by omega : i = 0 ∨ i = 1) with rfl | rfl <;> rfl)
          · have fn := decP_f hnr
            have et : thenF g N x (D x) j = 100001 := then_no hgi fun h => hnr h.2
            simp only [sNear,sLate,sGreatest,Pt.Is,Pt.of,isAt_self,fj,p1,p2,hre,fx1,fn,fl0,TPt,Pt.L,↓imp_tt,↓imp_tf,↓imp_ft,↓imp_ff,runO_4,runO_5,runO_6,runO_8,runO_14,runO_16,runO_17,runO_18,runO_19,aop,binV,reOk,Nat.zero_sub,ev,fget,fput,cellsOf,cellsN,isLB,vget,vset,vsets,vlen,bget,bset,addB,addN,mkv,sliceV,vtab,frz,opOwns,preFz,callFz,skipOp,WfT,casts,castOks,cast1,castOk,norm,norms,norm1,normL,pureB,pureL,onesB,specV,argsL,capsL,mkE_S,mkE_I,lkp,pickV,stkFr,stkNx,Val.toInt,Val.slen,Val.scell,↓reduceIte,reduceCtorEq,Nat.reduceEqDiff,Nat.reduceAdd,Nat.reduceSub,Nat.reduceLeDiff,Nat.zero_add,Nat.add_zero,Int.reduceLT,decide_true,decide_false,bne_iff_ne,bne_eq_false_iff_eq,List.length_cons,List.length_nil,List.append_nil,Bool.and_self,Bool.bne_true,bne_self_eq_false,Bool.not_false,and_true,true_and,and_self,and_assoc,forall_const,imp_self,implies_true,Nat.le_refl,ne_eq,not_false_eq_true,false_implies,not_false_eq_true,keepF,appF,updB,inat,spec2,spec3,TSl,IsSl,TInt,IsInt,RInt,Prod.eta,Pm.c0,Pm.c1,Pm.c2,Pm.c3,Pm.c4,RPm,Pm.w_c,Pm.d,Pm.eta,Pl.L,Pl.c0,Pl.c1,Pl.Is,Pl.of,TPl,RPl,Pl.w_c,Pl.d,Pl.eta,Gv.Is,Gv.of,Gv.d,Gv.eta,toUI_val]
            repeat' (first | omega | (with_reducible apply And.intro) | intro _)
            all_goals first
              | (refine inv_intro (j + 1) (by omega) (by omega) ?_
                 simp only [vs_yld,Chk,chkFr,chkBx,chkBx1,newIn,hasB,idsLt,kept,vs_und,vs_int,vs_bool,vs_nil,vs_own,vs_ptr,vs_cons,vs_view,vs_mview,Nat.lt_irrefl,fget,isLB,bget,vp_int,vsubP_self,↓reduceIte,reduceCtorEq,Nat.reduceEqDiff,Nat.reduceLT,and_true,true_and,and_self,forall_const,implies_true,Option.some.injEq,Val.int.injEq,exists_eq',false_implies,or_false]
                 rw [wrS (by omega)]
                 refine ⟨rfl,fun i hi b hb => ?_⟩
                 by_cases h5 : i = j
                 · subst h5; rw [rlJ_eq,rlJ_at,et,Int.min_eq_left (by omega)]
                 · rw [rlJ_ne h5])
              | (rename_i i hi
                 rcases (by omega : i = 0 ∨ i = 1) with rfl | rfl <;> rfl)
    · have fj : ((j : Int) < (g.palms.1 : Int)) = False := eq_false (by omega)
      obtain rfl : j = g.palms.1 := by omega
      simp only [fj,↓imp_ft,↓imp_ff,runO_2,runO_5,runO_8,runO_9,runO_11,runO_14,runO_16,runO_17,runO_18,runO_19,aop,binV,ev,fget,fput,bget,bset,bdel,addB,addN,frz,opOwns,preFz,skipOp,WfT,resV,resL,subFr,subV,subBx,subStk,popTo,stkFr,stkNx,↓reduceIte,reduceCtorEq,Nat.reduceEqDiff,decide_false,true_and,and_self,forall_const,keepF,appF,updB]
      refine inv_intro (relF g N x (D x) D,fun k => if k = (x : Int) then false else has k) ⟨(hDj.next hg hx hxh (fun k _ hh => hxm k (by assumption) (hall k hh)) hD1).congr fun k hk => ?_,fun k hk => ?_⟩ ?_ ?_
      · simp only
        by_cases e : k = x
        · subst e; simp
        · rw [if_neg (by omega)]; exact ⟨fun h => h.1,fun h => ⟨h,e⟩⟩
      · simp only at hk
        split at hk
        · cases hk
        · exact hhas k hk
      · refine cntN_lt (i := x) (fun z hz h => ?_) hx (fun h => ?_) hxh
        · simp only at h
          split at h
          · cases h
          · exact h
        · simp at h
      · simp only [Chk,chkFr,chkBx,chkBx1,newIn,hasB,idsLt,kept,vs_int,vs_bool,vs_nil,vs_own,vs_ptr,vs_cons,vs_view,vs_mview,vs_mapb,Nat.lt_irrefl,fget,isLB,bget,vp_int,vsubP_self,↓reduceIte,reduceCtorEq,Nat.reduceEqDiff,Nat.reduceLT,and_true,true_and,and_self,forall_const,implies_true,Option.some.injEq,Val.int.injEq,exists_eq',false_implies,or_false]
        exact fun i hi _ _ => rlJ_n hi
end Go.Proofs.Ytpknbojgkkmonaa
