/- Groves, the reference: Same. No condition. -/
import Derived.Test.YtpknbojgkkmonaaWRef6
set_option linter.unusedSimpArgs false
set_option linter.unusedVariables false
namespace Go.Proofs.Ytpknbojgkkmonaa
open Go Go.RowKit
variable {G : Nat → Option (Nat × (Nat → Val))}
def GvEq (a b : Gv) : Prop := (sameB a.palms b.palms = true ∧ a.places.1 = b.places.1 ∧ a.reach = b.reach ∧ a.hatch = b.hatch ∧ a.shows = b.shows ∧ a.start = b.start ∧ sameB a.sus b.sus = true) ∧ ∀ i,i < a.places.1 → a.places.2 i = b.places.2 i
theorem sameB_self {α : Type} (a : Nat × (Nat → α)) : sameB a a = true := decP_t ⟨rfl,fun _ _ => rfl⟩
theorem GvEq.self (a : Gv) : decP (GvEq a a) = true := decP_t ⟨⟨sameB_self _,rfl,rfl,rfl,rfl,rfl,sameB_self _⟩,fun _ _ => rfl⟩
noncomputable def sSameGv : Spec := spec2 TGv TGv (fun _ _ => True) fun a b => .bool (decP (GvEq a b))
set_option maxHeartbeats 2000000 in
set_option maxRecDepth 100000 in
theorem pSameGv : PureOk Try.prog G 20 sSameGv := by
  refine fn2 (S := [(50,sSamePm),(19,sSameI)]) (I := []) mixed (.cons pSamePm (.cons pSameI .nil)) .nil Try.func20 c20 fun a b _ hw => ?_
  simp only [vl,WfT,Val.toInt,Nat.reduceSub,and_true,true_and,and_assoc,maxLen,Nat.reducePow,RInt,RPm,Pm.d,RPl,Pl.d,Gv.L,TGv] at hw
  obtain ⟨w1,w2,w3,w4,w5,w6⟩ := hw
  obtain ⟨b1,hb1⟩ : ∃ x,sameB a.palms b.palms = x := ⟨_,rfl⟩
  obtain ⟨b2,hb2⟩ : ∃ x,sameB a.sus b.sus = x := ⟨_,rfl⟩
  by_cases hall : sameB a.palms b.palms = true ∧ a.places.1 = b.places.1 ∧ a.reach = b.reach ∧ a.hatch = b.hatch ∧ a.shows = b.shows ∧ a.start = b.start ∧ sameB a.sus b.sus = true
  · obtain ⟨h1,h2,h3,h4,h5,h6,h7⟩ := id hall
    simp only [RunTo,a20,sSamePm,sSameI,h1,h2,h3,h4,h5,h6,h7,w1,w3,w4,w5,w6,↓imp_ft,↓imp_ff,runO_4,runO_5,runO_6,runO_14,runO_15,runO_17,runO_18,runO_19,aop,binV,ev,fget,fput,params,cellsOf,cellsN,isLB,vget,vlen,bget,addB,addN,mkv,sliceV,vtab,frz,opOwns,preFz,callFz,skipOp,WfT,norm,norm1,normL,pureB,pureL,specV,argsL,capsL,mkE_S,mkE_I,lkp,pickV,lenV,Fin,vp_bool,Val.toInt,Val.slen,Val.scell,↓reduceIte,reduceCtorEq,Nat.reduceEqDiff,Nat.reduceAdd,Nat.reduceSub,Nat.reduceLeDiff,Nat.zero_add,Nat.add_zero,List.length_cons,List.length_nil,List.append_nil,Bool.and_self,bne_self_eq_false,Bool.not_true,and_true,true_and,and_self,forall_const,implies_true,Nat.le_refl,maxLen,Nat.reducePow,spec2,TSl,IsSl,RInt,Prod.eta,Pm.c0,Pm.c1,Pm.c2,Pm.c3,Pm.c4,RPm,Pm.w_c,Pm.d,Pm.eta,RPl,Pl.d,Gv.L,TGv,toUI_val]
    refine loopI (ι := Nat) (fun j => j ≤ b.places.1 ∧ ∀ i,i < j → a.places.2 i = b.places.2 i) (fun j => b.places.1 - j) [2,3] (fun j => [(5,.int .i64 j)]) (fun _ => []) 0 ⟨by omega,fun i h => by omega⟩ (by simp only [Chk,chkFr,chkBx,chkBx1,hasB,idsLt,kept,vs_int,vs_nil,vs_ptr,vs_cons,vs_view,fget,isLB,bget,vsubP_self,↓reduceIte,reduceCtorEq,Nat.reduceEqDiff,Nat.reduceLT,Int.cast_ofNat_Int,and_self,forall_const,implies_true,Option.some.injEq,exists_eq',keepF,appF,updB]; try rfl) fun j hj => ?_
    obtain ⟨hj1,hj2⟩ := hj
    simp only [w5,runO_3,runO_4,runO_5,runO_6,runO_8,runO_9,runO_14,runO_16,runO_17,runO_18,runO_19,aop,binV,ends,ev,fget,fput,vget,vlen,bget,addB,addN,mkv,sliceV,vtab,frz,opOwns,preFz,skipOp,WfT,resV,res1,casts,castOks,cast1,castOk,snapV,snapOk,eqCells,eqOk,lenV,popTo,stkFr,stkNx,Val.toInt,↓reduceIte,reduceCtorEq,Nat.reduceEqDiff,Nat.reduceAdd,Nat.reduceSub,Nat.reduceLeDiff,Nat.zero_add,List.length_cons,List.length_nil,Bool.not_eq_true',Bool.not_eq_false',Bool.and_true,true_and,and_self,and_assoc,forall_const,Nat.le_refl,decide_eq_true_eq,decide_eq_false_iff_not,Val.bool.injEq,maxLen,Nat.reducePow,keepF,appF,updB,inat,Pl.c0,Pl.c1]
    refine ⟨fun hlt => ⟨by omega,by omega,by omega,by omega,fun h1 => (decP_f fun k => ?_).symm,fun h1 => inv_intro (j + 1) ⟨by omega,fun i hi => ?_⟩ (by omega) ?_⟩,fun hge => ?_⟩
    · rw [k.2 j (by omega)] at h1; simp at h1
    · rcases Nat.lt_or_ge i j with h5 | h5
      · exact hj2 i h5
      · obtain rfl : i = j := by omega
        exact plEq.1 h1
    · simp only [Chk,chkFr,chkBx,chkBx1,hasB,idsLt,kept,vs_int,vs_nil,vs_ptr,vs_cons,vs_view,fget,isLB,bget,vsubP_self,↓reduceIte,reduceCtorEq,Nat.reduceEqDiff,Nat.reduceLT,and_true,true_and,and_self,forall_const,implies_true,Option.some.injEq,Val.int.injEq,exists_eq']
      rw [wrS (by omega)]
    · exact (decP_t ⟨hall,fun i hi => hj2 i (by omega)⟩).symm
  · have hno : decP (GvEq a b) = false := decP_f fun k => hall k.1
    rw [hb1,hb2] at hall
    cases b1 <;> cases b2 <;> simp only [RunTo,a20,sSamePm,sSameI,hb1,hb2,hno,w1,w2,w3,w4,w5,w6,↓imp_tt,↓imp_tf,↓imp_ft,↓imp_ff,runO_3,runO_4,runO_5,runO_6,runO_14,runO_15,runO_17,runO_18,runO_19,aop,binV,ends,Nat.zero_sub,ev,fget,fput,params,cellsOf,cellsN,isLB,vget,vlen,bget,addB,addN,mkv,sliceV,vtab,frz,opOwns,preFz,callFz,skipOp,WfT,resV,res1,norm,norm1,normL,pureB,pureL,snapV,snapOk,specV,argsL,capsL,mkE_S,mkE_I,lkp,pickV,lenV,Fin,vp_bool,Val.toInt,Val.slen,Val.scell,↓reduceIte,reduceCtorEq,Nat.reduceEqDiff,Nat.reduceAdd,Nat.reduceSub,Nat.reduceLeDiff,Nat.zero_add,Nat.add_zero,bne_iff_ne,bne_eq_false_iff_eq,List.length_cons,List.length_nil,List.append_nil,Bool.and_self,Bool.bne_false,bne_self_eq_false,Bool.not_true,Bool.not_false,and_true,true_and,and_self,forall_const,implies_true,Nat.le_refl,ne_eq,maxLen,Nat.reducePow,spec2,TSl,IsSl,RInt,Prod.eta,Pm.c0,Pm.c1,Pm.c2,Pm.c3,Pm.c4,RPm,Pm.w_c,Pm.d,Pm.eta,RPl,Pl.d,Gv.L,TGv,toUI_val]
    intro e2 e3 e4 e5 e6
    exact absurd ⟨rfl,by omega,e3,e4,e5,e6,rfl⟩ hall
def sTwinV : Spec := spec1 TGv (fun g => g.palms.1 ≤ 1000 ∧ g.places.1 ≤ 1000 ∧ g.sus.1 ≤ 1000) fun g => .agg (Gv.L g)
set_option maxRecDepth 100000 in
theorem pTwinV : PureOk Try.prog G 14 sTwinV := by
  refine fn1 (S := []) (I := []) mixed .nil .nil Try.func14 c14 fun g hp hw => ?_
  obtain ⟨p1,p2,p3⟩ := hp
  simp only [vl,WfT,Val.toInt,Nat.reduceSub,and_true,true_and,maxLen,Nat.reducePow,RInt,RPm,Pm.d,RPl,Pl.d,Gv.L,TGv] at hw
  simp only [RunTo,a14,hw,Nat.not_lt_zero,runO_3,runO_5,runO_17,runO_18,runO_19,aop,ends,reOk,Nat.zero_sub,ev,fget,fput,params,cellsOf,cellsN,isLB,vget,vset,vsets,vlen,bget,bset,addB,addN,mkv,sliceV,vtab,rowsV,rowsOk,vrep,frz,opOwns,preFz,skipOp,WfT,resV,res1,pureB,onesB,snapV,snapOk,mkE_G,subFr,subV,subBx,subStk,elemsV,Fin,vsubP_self,Val.toInt,↓reduceIte,reduceCtorEq,Nat.reduceEqDiff,Nat.reduceAdd,Nat.reduceSub,Nat.reduceLeDiff,Nat.reduceLT,Nat.zero_add,Nat.add_zero,Nat.sub_zero,List.length_cons,List.length_nil,List.flatMap_nil,Bool.and_self,and_true,true_and,and_self,forall_const,Nat.le_refl,or_false,maxLen,Nat.reducePow,RInt,RPm,Pm.d,RPl,Pl.d,Gv.L,TGv]
  repeat' (first | omega | (with_reducible apply And.intro) | intro _)
  all_goals trace_state
end Go.Proofs.Ytpknbojgkkmonaa
