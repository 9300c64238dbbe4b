/- Groves, the program: palm.Check. No condition. -/
import Derived.Test.YtpknbojgkkmonaaWProg2
set_option linter.unusedSimpArgs false
set_option linter.unusedVariables false
namespace Go.Proofs.Ytpknbojgkkmonaa
open Go Go.RowKit
variable {G : Nat → Option (Nat × (Nat → Val))}
def PmLk (l : Pms) (i : Nat) : Prop := (0 ≤ (l.2 i).id ∧ (l.2 i).id ≤ 9999) ∧ (0 < i → (l.2 (i - 1)).id < (l.2 i).id) ∧ (0 ≤ (l.2 i).planted ∧ (l.2 i).planted ≤ 100000) ∧ (l.2 i).sex.1 ≤ 2 ∧ (0 ≤ (l.2 i).sort ∧ (l.2 i).sort ≤ 99) ∧
  ((l.2 i).mother = -1 ∨ (hasP l (l.2 i).mother = true ∧ IntKind.i64.wrap ((l.2 (lstP l (l.2 i).mother)).planted + 1000) ≤ (l.2 i).planted))
theorem pmLk_all {l : Pms} (h : l.1 ≤ 24) : PmsOk l ↔ ∀ i,i < l.1 → PmLk l i := by
  constructor
  · intro k i hi
    obtain ⟨h1,h2,h3,h4,h5,h6⟩ := (pm_all h).1 k i hi
    refine ⟨h1,h2,h3,h4,h5,?_⟩
    rcases h6 with h6 | ⟨h6,h7⟩
    · exact .inl h6
    · have hk := hasP_hit.2 h6
      exact .inr ⟨hk,by rw [k.lst hk]; exact h7⟩
  · intro k
    have up : ∀ j,j < l.1 → ∀ i,i < j → (l.2 i).id < (l.2 j).id := by
      intro j
      induction j with
      | zero => intro _ i hi; omega
      | succ j ih =>
        intro hj i hi
        have h1 := (k (j + 1) hj).2.1 (by omega)
        rw [Nat.add_sub_cancel] at h1
        rcases Nat.lt_or_ge i j with h2 | h2
        · have := ih (by omega) i h2; omega
        · obtain rfl : i = j := by omega
          exact h1
    refine (pm_all h).2 fun i hi => ?_
    obtain ⟨h1,h2,h3,h4,h5,h6⟩ := k i hi
    refine ⟨h1,h2,h3,h4,h5,?_⟩
    rcases h6 with h6 | ⟨h6,h7⟩
    · exact .inl h6
    · obtain ⟨g1,g2⟩ := lstP_spec h6
      have h8 := hasP_hit.1 h6
      have e : lstP l (l.2 i).mother = hitN l (l.2 i).mother := by
        rcases hit_spec l (l.2 i).mother with ⟨g3,g4⟩ | ⟨g3,_⟩
        · rcases Nat.lt_trichotomy (lstP l (l.2 i).mother) (hitN l (l.2 i).mother) with h9 | h9 | h9
          · have := up _ g3 _ h9; omega
          · exact h9
          · have := up _ g1 _ h9; omega
        · omega
      exact .inr ⟨h8,by rw [← e]; exact h7⟩
set_option maxRecDepth 100000 in
theorem pPalmCheck : PureOk Try.prog G 73 sCheck7 := by
  refine fn1 (S := [(93,sPlaces),(94,sInP)]) (I := []) mixed (.cons pPlaces (.cons pInPalm .nil)) .nil Try.func73 c73 fun l _ hw => ?_
  simp only [vl,WfT,Val.toInt,Val.slen,Val.scell,Nat.reduceSub,and_true,maxLen,Nat.reducePow,TSl,RPm,Pm.d] at hw
  simp only [RunTo,a73,sPlaces,sInP,hw,runO_3,runO_4,runO_5,runO_6,runO_14,runO_15,runO_17,runO_18,runO_19,aop,binV,ends,ev,fget,fput,params,isLB,addB,addN,frz,opOwns,preFz,callFz,skipOp,WfT,resV,res1,norm,norm1,normL,pureB,pureL,snapV,snapOk,specV,argsL,capsL,mkE_S,mkE_I,lkp,lenV,Fin,vp_int,Val.toInt,Val.slen,Val.scell,↓reduceIte,reduceCtorEq,Nat.reduceSub,Int.reduceNeg,List.append_nil,Bool.and_self,and_true,true_and,and_self,forall_const,implies_true,decide_eq_true_eq,decide_eq_false_iff_not,Val.int.injEq,maxLen,Nat.reducePow,spec1,spec3,TSl,IsSl,TInt,IsInt,RInt,Prod.eta,Pm.c0,Pm.c1,Pm.c2,Pm.c3,Pm.c4,RPm,Pm.w_c,Pm.d,Pm.eta,toUI_val]
  refine ⟨fun h => (pmE_no fun k => by have := k.n; omega).symm,fun h24 => ?_⟩
  have hall := pmLk_all (l := l) (by omega)
  have hno : ∀ j,j < l.1 → ¬ PmLk l j → (70 : Int) = pmE l := fun j hj hn => (pmE_no fun k => hn (hall.1 k j hj)).symm
  repeat' (first | omega | (with_reducible apply And.intro) | intro _)
  refine loopI (ι := Nat) (fun j => j ≤ l.1 ∧ ∀ i,i < j → PmLk l i) (fun j => l.1 - j) [0,3,14,15] (fun j => [(4,.int .i64 (if j = 0 then 0 else (l.2 (j - 1)).id + 1)),(16,.int .i64 j)]) (fun _ => []) 0 ⟨by omega,fun i h => by omega⟩ (by simp only [Chk,chkFr,chkBx,idsLt,kept,vs_int,vs_view,vs_mview,fget,vsubP_self,↓reduceIte,reduceCtorEq,Nat.reduceEqDiff,Int.cast_ofNat_Int,and_self,forall_const,implies_true,keepF,appF,updB]; try simp) fun j hj => ?_
  obtain ⟨hj1,hj2⟩ := hj
  by_cases hjl : j < l.1
  · have fj : ((j : Int) < (l.1 : Int)) = True := eq_true (by omega)
    have hnx : (if j = 0 then (0 : Int) else (l.2 (j - 1)).id + 1) ≤ (l.2 j).id ↔ (0 ≤ (l.2 j).id ∧ (0 < j → (l.2 (j - 1)).id < (l.2 j).id)) ∨ (¬ 0 ≤ (l.2 j).id ∧ (if j = 0 then (0 : Int) else (l.2 (j - 1)).id + 1) ≤ (l.2 j).id) := by
      split
      · omega
      · have := (hj2 (j - 1) (by omega)).1
        omega
    have hid0 : (if j = 0 then (0 : Int) else (l.2 (j - 1)).id + 1) ≤ (l.2 j).id → 0 ≤ (l.2 j).id := by
      split
      · omega
      · have := (hj2 (j - 1) (by omega)).1
        omega
    generalize hnxt : (if j = 0 then (0 : Int) else (l.2 (j - 1)).id + 1) = nxt at hnx hid0 ⊢
    have hup : nxt ≤ (l.2 j).id ↔ 0 ≤ (l.2 j).id ∧ (0 < j → (l.2 (j - 1)).id < (l.2 j).id) := ⟨fun h => by have := hid0 h; rcases hnx.1 h with h1 | h1 <;> omega,fun h => hnx.2 (.inl h)⟩
    have hS0 : (0 : Int) ≤ (l.2 j).sex.1 ∧ (l.2 j).sex.1 ≤ 255 := (l.2 j).sex.2
    have eS : IntKind.i64.wrap (l.2 j).sex.1 = (l.2 j).sex.1 := by
      exact wr64 (by omega) (by omega)
    cases hm : hasP l (l.2 j).mother with
    | true =>
      have hlt := (lstP_spec hm).1
      have hlk : PmLk l j ↔ (0 ≤ (l.2 j).id ∧ (l.2 j).id ≤ 9999) ∧ (0 < j → (l.2 (j - 1)).id < (l.2 j).id) ∧ (0 ≤ (l.2 j).planted ∧ (l.2 j).planted ≤ 100000) ∧ (l.2 j).sex.1 ≤ 2 ∧ (0 ≤ (l.2 j).sort ∧ (l.2 j).sort ≤ 99) ∧
          ((l.2 j).mother = -1 ∨ IntKind.i64.wrap ((l.2 (lstP l (l.2 j).mother)).planted + 1000) ≤ (l.2 j).planted) := by unfold PmLk; rw [hm]; simp only [true_and]
      simp only [fj,hm,eS,flatO,↓imp_tt,↓imp_tf,↓imp_ft,↓imp_ff,runO_3,runO_4,runO_5,runO_6,runO_8,runO_14,runO_16,runO_17,runO_18,runO_19,aop,binV,ends,reOk,Nat.zero_sub,ev,fget,fput,cellsOf,cellsN,isLB,vget,vset,vsets,vlen,bget,bset,addB,addN,mkv,sliceV,vtab,rowsV,rowsOk,vrep,frz,opOwns,preFz,callFz,owns,skipOp,WfT,resV,res1,casts,castOks,cast1,castOk,norm,norm1,normL,pureB,pureL,flatB,onesB,snapV,snapOk,snapL,snapOks,specV,argsL,capsL,mkE_S,mkE_I,mkE_G,lkp,pickV,mgetV,stkFr,stkNx,Val.toInt,↓reduceIte,reduceCtorEq,Nat.reduceEqDiff,Nat.reduceAdd,Nat.reduceSub,Nat.reduceLeDiff,Nat.reduceLT,Nat.zero_add,Nat.add_zero,Int.reduceNeg,decide_true,bne_iff_ne,bne_eq_false_iff_eq,List.length_cons,List.length_nil,List.append_nil,List.flatMap_cons,List.flatMap_nil,Bool.not_eq_true',Bool.not_eq_false',Bool.and_true,Bool.and_false,Bool.and_self,Bool.bne_true,Bool.bne_false,bne_self_eq_false,Bool.not_true,Bool.not_false,and_true,true_and,and_self,and_assoc,forall_const,Nat.le_refl,decide_eq_true_eq,decide_eq_false_iff_not,Val.int.injEq,ne_eq,keepF,appF,updB,inat,Pm.c0,Pm.c1,Pm.c2,Pm.c3,Pm.c4]
      simp only [lt1,allB_1,vget,Int.reduceNeg,true_and,decide_eq_true_eq,decide_eq_false_iff_not]
      repeat' (first | omega | (with_reducible apply And.intro) | intro _)
      all_goals first
        | (refine hno j (by omega) fun k => ?_
           rw [hlk] at k
           omega)
        | (refine inv_intro (j + 1) ⟨by omega,fun i hi => ?_⟩ (by omega) ?_
           · rcases Nat.lt_or_ge i j with h5 | h5
             · exact hj2 i h5
             · obtain rfl : i = j := by omega
               rw [hlk]; omega
           · simp only [Chk,chkFr,chkBx,idsLt,kept,vs_int,vs_view,vs_mview,Nat.lt_irrefl,fget,bget,vsubP_self,↓reduceIte,reduceCtorEq,Nat.reduceEqDiff,Nat.reduceLT,and_true,true_and,and_self,forall_const,implies_true,Val.int.injEq,false_implies]
             rw [wrS (by omega),wr64 (e := (l.2 j).id + 1) (by omega) (by omega)]
             simp)
        | exact Int.ofNat_lt.2 hlt
        | trace_state
    | false =>
      have hlk : PmLk l j ↔ (0 ≤ (l.2 j).id ∧ (l.2 j).id ≤ 9999) ∧ (0 < j → (l.2 (j - 1)).id < (l.2 j).id) ∧ (0 ≤ (l.2 j).planted ∧ (l.2 j).planted ≤ 100000) ∧ (l.2 j).sex.1 ≤ 2 ∧ (0 ≤ (l.2 j).sort ∧ (l.2 j).sort ≤ 99) ∧
          (l.2 j).mother = -1 := by unfold PmLk; rw [hm]; simp only [Bool.false_eq_true,false_and,or_false]
      simp only [fj,hm,eS,flatO,↓imp_tt,↓imp_tf,↓imp_ft,↓imp_ff,runO_3,runO_4,runO_5,runO_6,runO_8,runO_14,runO_16,runO_17,runO_18,runO_19,aop,binV,ends,reOk,Nat.zero_sub,ev,fget,fput,cellsOf,cellsN,isLB,vget,vset,vsets,vlen,bget,bset,addB,addN,mkv,sliceV,vtab,rowsV,rowsOk,vrep,frz,opOwns,preFz,callFz,owns,skipOp,WfT,resV,res1,casts,castOks,cast1,castOk,norm,norm1,normL,pureB,pureL,flatB,onesB,snapV,snapOk,snapL,snapOks,specV,argsL,capsL,mkE_S,mkE_I,mkE_G,lkp,pickV,mgetV,stkFr,stkNx,Val.toInt,↓reduceIte,reduceCtorEq,Nat.reduceEqDiff,Nat.reduceAdd,Nat.reduceSub,Nat.reduceLeDiff,Nat.reduceLT,Nat.zero_add,Nat.add_zero,Int.reduceNeg,decide_true,bne_iff_ne,bne_eq_false_iff_eq,List.length_cons,List.length_nil,List.append_nil,List.flatMap_cons,List.flatMap_nil,Bool.not_eq_true',Bool.not_eq_false',Bool.and_true,Bool.and_false,Bool.and_self,Bool.bne_true,Bool.bne_false,bne_self_eq_false,Bool.not_true,Bool.not_false,and_true,true_and,and_self,forall_const,Nat.le_refl,Val.int.injEq,ne_eq,keepF,appF,updB,inat,Pm.c0,Pm.c1,Pm.c2,Pm.c3,Pm.c4]
      simp only [lt1,allB_1,vget,Int.reduceNeg,true_and,decide_eq_true_eq,decide_eq_false_iff_not]
      repeat' (first | omega | (with_reducible apply And.intro) | intro _)
      all_goals first
        | (refine hno j (by omega) fun k => ?_
           rw [hlk] at k
           omega)
        | (refine inv_intro (j + 1) ⟨by omega,fun i hi => ?_⟩ (by omega) ?_
           · rcases Nat.lt_or_ge i j with h5 | h5
             · exact hj2 i h5
             · obtain rfl : i = j := by omega
               rw [hlk]; omega
           · simp only [Chk,chkFr,chkBx,idsLt,kept,vs_int,vs_view,vs_mview,Nat.lt_irrefl,fget,bget,vsubP_self,↓reduceIte,reduceCtorEq,Nat.reduceEqDiff,Nat.reduceLT,and_true,true_and,and_self,forall_const,implies_true,Val.int.injEq,false_implies]
             rw [wrS (by omega),wr64 (e := (l.2 j).id + 1) (by omega) (by omega)]
             simp)
  · have fj : ((j : Int) < (l.1 : Int)) = False := eq_false (by omega)
    simp only [fj,↓imp_ft,↓imp_ff,runO_3,runO_5,runO_9,runO_14,runO_17,runO_18,runO_19,aop,binV,ends,ev,fget,fput,addB,addN,frz,opOwns,preFz,skipOp,WfT,resV,res1,snapV,snapOk,popTo,stkFr,stkNx,↓reduceIte,reduceCtorEq,Nat.reduceEqDiff,Int.reduceNeg,decide_false,true_and,and_self,forall_const,Val.int.injEq,keepF,appF,updB]
    exact (pmE_ok (hall.2 fun i hi => hj2 i (by omega))).symm
end Go.Proofs.Ytpknbojgkkmonaa
