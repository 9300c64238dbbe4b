/- Groves, the program: in, placed, near, greatest, palm.in. No condition but bounds. -/
import Derived.Test.YtpknbojgkkmonaaWRef5
set_option linter.unusedSimpArgs false
set_option linter.unusedVariables false
namespace Go.Proofs.Ytpknbojgkkmonaa
open Go Go.RowKit
variable {G : Nat → Option (Nat × (Nat → Val))}
noncomputable def allB {α : Type} (n : Nat) (f : Nat → α) (P : α → Prop) : Bool := @decide (∀ i,i < n → P (f i)) (Classical.propDecidable _)
theorem allB_no {α : Type} {n : Nat} {f : Nat → α} {P : α → Prop} {j : Nat} (hj : j < n) (h : ¬ P (f j)) : (!decide ((j : Int) ≥ 0)) = allB n f P := by
  have h1 : decide ((j : Int) ≥ 0) = true := decide_eq_true (by omega)
  have h2 : allB n f P = false := @decide_eq_false _ (Classical.propDecidable _) fun h' => h (h' j hj)
  rw [h1,h2]; rfl
theorem allB_yes {α : Type} {n : Nat} {f : Nat → α} {P : α → Prop} (h : ∀ i,i < n → P (f i)) : (!decide ((-1 : Int) ≥ 0)) = allB n f P := by
  have h2 : allB n f P = true := @decide_eq_true _ (Classical.propDecidable _) h
  rw [h2]; rfl
theorem allB_iff {α : Type} {n : Nat} {f : Nat → α} {P : α → Prop} : allB n f P = true ↔ ∀ i,i < n → P (f i) := by
  unfold allB; exact @decide_eq_true_iff _ (Classical.propDecidable _)
theorem lt1 (p : Nat → Prop) : (∀ i,i < 1 → p i) = p 0 := propext ⟨fun h => h 0 (by omega),fun h i hi => by
  obtain rfl : i = 0 := by omega
  exact h⟩
theorem lt2 (p : Nat → Prop) : (∀ i,i < 2 → p i) = (p 0 ∧ p 1) := propext ⟨fun h => ⟨h 0 (by omega),h 1 (by omega)⟩,fun h i hi => by
  rcases Nat.lt_or_ge i 1 with h1 | h1
  · obtain rfl : i = 0 := by omega
    exact h.1
  · obtain rfl : i = 1 := by omega
    exact h.2⟩
theorem allB_1 {α : Type} {f : Nat → α} {P : α → Prop} [Decidable (P (f 0))] : allB 1 f P = decide (P (f 0)) := Bool.eq_iff_iff.2 (by rw [allB_iff,lt1,decide_eq_true_iff])
theorem allB_2 {α : Type} {f : Nat → α} {P : α → Prop} [Decidable (P (f 0))] [Decidable (P (f 1))] : allB 2 f P = decide (P (f 0) ∧ P (f 1)) := Bool.eq_iff_iff.2 (by rw [allB_iff,lt2,decide_eq_true_iff])
noncomputable def sInP : Spec := spec3 TI TI (TSl (RInt .i64)) (fun _ _ _ => True) fun lo hi l => .bool (allB l.1 l.2 fun n => lo ≤ n ∧ n ≤ hi)
set_option maxRecDepth 100000 in
theorem pInP : PureOk Try.prog G 63 sInP := by
  refine fn3 (S := []) (I := [(78,a78),(81,a81),(96,a96)]) mixed .nil (.cons Try.func78 c78 (.cons Try.func81 c81 (.cons Try.func96 c96 .nil))) Try.func63 c63 fun lo hi l _ hw => ?_
  simp only [vl,WfT,Val.toInt,Val.slen,Val.scell,Nat.reduceSub,and_true,true_and,maxLen,Nat.reducePow,TSl,TInt,RInt] at hw
  simp only [RunTo,a63,a78,a81,a96,runO_5,runO_6,runO_15,runO_17,runO_18,runO_19,aop,ev,evs,fget,fput,params,cellsOf,cellsN,isLB,addB,addN,frz,opOwns,preFz,skipOp,WfT,argsL,capsL,mkE_S,mkE_I,lkp,lenV,Fin,vp_bool,Val.toInt,Val.slen,Val.scell,↓reduceIte,reduceCtorEq,Nat.reduceEqDiff,Nat.reduceAdd,Nat.reduceSub,Nat.zero_add,Int.reduceNeg,List.append_nil,true_and,forall_const,maxLen,Nat.reducePow,TSl,TInt,RInt]
  intro w1 _ _
  refine loopI (ι := Nat) (fun j => j ≤ l.1 ∧ ∀ i < j,lo ≤ l.2 i ∧ l.2 i ≤ hi) (fun j => l.1 - j) [0,1,7] (fun j => [(8,.int .i64 j)]) (fun _ => []) 0 ⟨by omega,fun i h => by omega⟩ (by simp only [Chk,chkFr,chkBx,chkBx1,hasB,idsLt,kept,vs_int,vs_nil,vs_ptr,vs_cons,vs_func,vs_view,fget,isLB,bget,vsubP_self,↓reduceIte,reduceCtorEq,Nat.reduceEqDiff,Nat.reduceLT,Int.cast_ofNat_Int,and_self,forall_const,implies_true,Option.some.injEq,exists_eq',keepF,appF,updB]; try rfl) fun j hj => ?_
  obtain ⟨hj1,hj2⟩ := hj
  simp only [w1,↓imp_tt,↓imp_tf,runO_3,runO_4,runO_5,runO_6,runO_8,runO_9,runO_14,runO_16,runO_17,runO_18,runO_19,aop,binV,ends,Nat.zero_sub,ev,fget,fput,params,isLB,vget,vlen,bget,addB,addN,mkv,sliceV,vtab,frz,opOwns,preFz,skipOp,WfT,resV,res1,casts,castOks,cast1,castOk,snapV,snapOk,argsL,capsL,mkE_S,mkE_I,lkp,pickV,popTo,stkFr,stkNx,Val.toInt,↓reduceIte,reduceCtorEq,Nat.reduceEqDiff,Nat.reduceAdd,Nat.reduceSub,Nat.zero_add,Int.reduceNeg,List.length_cons,List.length_nil,List.nil_append,List.cons_append,Bool.bne_false,bne_self_eq_false,and_true,true_and,and_self,and_assoc,forall_const,Nat.le_refl,decide_eq_true_eq,decide_eq_false_iff_not,Val.bool.injEq,maxLen,Nat.reducePow,keepF,appF,updB,inat]
  refine ⟨fun h => ⟨by omega,by omega,fun h1 => allB_no (by omega) (by omega),fun h1 => ⟨fun h2 => allB_no (by omega) (by omega),fun h2 => inv_intro (j + 1) ⟨by omega,fun i hi => ?_⟩ (by omega) ?_⟩⟩,fun h => allB_yes fun i hi => hj2 i (by omega)⟩
  · rcases Nat.lt_or_ge i j with h5 | h5
    · exact hj2 i h5
    · obtain rfl : i = j := by omega
      omega
  · simp only [Chk,chkFr,chkBx,chkBx1,hasB,idsLt,kept,vs_int,vs_nil,vs_ptr,vs_cons,vs_func,vs_view,fget,isLB,bget,vsubP_self,↓reduceIte,reduceCtorEq,Nat.reduceEqDiff,Nat.reduceLT,and_true,true_and,and_self,forall_const,implies_true,Option.some.injEq,Val.int.injEq,exists_eq']
    rw [wrS (by omega)]
set_option maxRecDepth 100000 in
theorem pInPalm : PureOk Try.prog G 94 sInP := by
  refine fn3 (S := []) (I := [(78,a78),(99,a99),(96,a96)]) mixed .nil (.cons Try.func78 c78 (.cons Try.func99 c99 (.cons Try.func96 c96 .nil))) Try.func94 c94 fun lo hi l _ hw => ?_
  simp only [vl,WfT,Val.toInt,Val.slen,Val.scell,Nat.reduceSub,and_true,true_and,maxLen,Nat.reducePow,TSl,TInt,RInt] at hw
  simp only [RunTo,a94,a78,a99,a96,runO_5,runO_6,runO_15,runO_17,runO_18,runO_19,aop,ev,evs,fget,fput,params,cellsOf,cellsN,isLB,addB,addN,frz,opOwns,preFz,skipOp,WfT,argsL,capsL,mkE_S,mkE_I,lkp,lenV,Fin,vp_bool,Val.toInt,Val.slen,Val.scell,↓reduceIte,reduceCtorEq,Nat.reduceEqDiff,Nat.reduceAdd,Nat.reduceSub,Nat.zero_add,Int.reduceNeg,List.append_nil,true_and,forall_const,maxLen,Nat.reducePow,TSl,TInt,RInt]
  intro w1 _ _
  refine loopI (ι := Nat) (fun j => j ≤ l.1 ∧ ∀ i < j,lo ≤ l.2 i ∧ l.2 i ≤ hi) (fun j => l.1 - j) [0,1,7] (fun j => [(8,.int .i64 j)]) (fun _ => []) 0 ⟨by omega,fun i h => by omega⟩ (by simp only [Chk,chkFr,chkBx,chkBx1,hasB,idsLt,kept,vs_int,vs_nil,vs_ptr,vs_cons,vs_func,vs_view,fget,isLB,bget,vsubP_self,↓reduceIte,reduceCtorEq,Nat.reduceEqDiff,Nat.reduceLT,Int.cast_ofNat_Int,and_self,forall_const,implies_true,Option.some.injEq,exists_eq',keepF,appF,updB]; try rfl) fun j hj => ?_
  obtain ⟨hj1,hj2⟩ := hj
  simp only [w1,↓imp_tt,↓imp_tf,runO_3,runO_4,runO_5,runO_6,runO_8,runO_9,runO_14,runO_16,runO_17,runO_18,runO_19,aop,binV,ends,Nat.zero_sub,ev,fget,fput,params,isLB,vget,vlen,bget,addB,addN,mkv,sliceV,vtab,frz,opOwns,preFz,skipOp,WfT,resV,res1,casts,castOks,cast1,castOk,snapV,snapOk,argsL,capsL,mkE_S,mkE_I,lkp,pickV,popTo,stkFr,stkNx,Val.toInt,↓reduceIte,reduceCtorEq,Nat.reduceEqDiff,Nat.reduceAdd,Nat.reduceSub,Nat.zero_add,Int.reduceNeg,List.length_cons,List.length_nil,List.nil_append,List.cons_append,Bool.bne_false,bne_self_eq_false,and_true,true_and,and_self,and_assoc,forall_const,Nat.le_refl,decide_eq_true_eq,decide_eq_false_iff_not,Val.bool.injEq,maxLen,Nat.reducePow,keepF,appF,updB,inat]
  refine ⟨fun h => ⟨by omega,by omega,fun h1 => allB_no (by omega) (by omega),fun h1 => ⟨fun h2 => allB_no (by omega) (by omega),fun h2 => inv_intro (j + 1) ⟨by omega,fun i hi => ?_⟩ (by omega) ?_⟩⟩,fun h => allB_yes fun i hi => hj2 i (by omega)⟩
  · rcases Nat.lt_or_ge i j with h5 | h5
    · exact hj2 i h5
    · obtain rfl : i = j := by omega
      omega
  · simp only [Chk,chkFr,chkBx,chkBx1,hasB,idsLt,kept,vs_int,vs_nil,vs_ptr,vs_cons,vs_func,vs_view,fget,isLB,bget,vsubP_self,↓reduceIte,reduceCtorEq,Nat.reduceEqDiff,Nat.reduceLT,and_true,true_and,and_self,forall_const,implies_true,Option.some.injEq,Val.int.injEq,exists_eq']
    rw [wrS (by omega)]
noncomputable def sPlaced : Spec := spec1 TPl (fun _ => True) fun p => .bool (decP (PlOk p))
set_option maxRecDepth 100000 in
theorem pPlaced : PureOk Try.prog G 77 sPlaced := by
  refine fn1 (S := [(63,sInP)]) (I := []) mixed (.cons pInP .nil) .nil Try.func77 c77 fun p _ _ => ?_
  simp only [RunTo,a77,sInP,flatO,runO_3,runO_5,runO_17,runO_18,runO_19,aop,ends,ev,fget,fput,params,cellsOf,cellsN,isLB,vget,vset,vlen,bget,addB,addN,mkv,sliceV,vtab,rowsV,rowsOk,vrep,frz,opOwns,preFz,callFz,owns,skipOp,WfT,resV,res1,norm,norm1,normL,pureB,pureL,flatB,onesB,snapV,snapOk,snapL,snapOks,specV,argsL,capsL,mkE_S,mkE_I,mkE_G,lkp,Fin,vp_bool,Val.toInt,Val.slen,Val.scell,↓reduceIte,Nat.reduceEqDiff,Nat.reduceAdd,Nat.reduceLeDiff,Nat.reduceLT,Nat.zero_add,Nat.add_zero,Int.reduceNeg,List.length_cons,List.length_nil,List.append_nil,List.flatMap_cons,List.flatMap_nil,Bool.and_true,Bool.and_false,Bool.and_self,Bool.not_true,and_true,true_and,and_self,forall_const,Nat.le_refl,Val.bool.injEq,spec3,TSl,IsSl,TInt,IsInt,RInt,Pl.L,TPl]
  simp only [lt2,allB_2,vget,Int.reduceNeg,true_and,and_self,and_assoc]
  rw [Bool.eq_iff_iff,decide_eq_true_iff,decP_true]; unfold PlOk; omega
theorem near_refl {a : Pl} {far : Int} (h0 : 0 ≤ far) : nearP a a far := by
  unfold nearP
  rw [Int.sub_self,Int.sub_self]
  have := Int.mul_nonneg h0 h0
  omega
set_option maxRecDepth 100000 in
theorem pNearP : PureOk Try.prog G 71 sNear := by
  refine fn3 (S := []) (I := []) mixed .nil .nil Try.func71 c71 fun a b far hp _ => ?_
  obtain ⟨q1,q2,q3,q4,q5,q6⟩ := near_wr hp.1 hp.2.1 hp.2.2.1 hp.2.2.2
  have hr : (a.x == b.x && a.y == b.y) = true → nearP a b far := fun h => by rw [plEq.1 h]; exact near_refl hp.2.2.1
  simp only [RunTo,a71,q1,q2,q3,q4,q5,q6,runO_3,runO_4,runO_5,runO_14,runO_17,runO_18,runO_19,aop,binV,ends,reOk,Nat.zero_sub,ev,fget,fput,params,cellsOf,cellsN,isLB,vget,vset,vsets,vlen,bget,bset,addB,addN,mkv,sliceV,vtab,fillV,fillOk,frz,opOwns,preFz,skipOp,WfT,resV,res1,castOk,onesB,snapV,snapOk,eqCells,eqOk,Fin,vp_bool,Val.toInt,↓reduceIte,reduceCtorEq,Nat.reduceEqDiff,Nat.reduceAdd,Nat.reduceLeDiff,Nat.zero_add,Nat.add_zero,List.length_cons,List.length_nil,Bool.and_true,Bool.and_self,true_and,and_self,forall_const,Nat.le_refl,Val.bool.injEq,TInt,Pl.L,TPl]
  refine ⟨fun h => (decP_t (hr (by simpa using h))).symm,fun _ => ?_⟩
  rw [Bool.eq_iff_iff,decide_eq_true_iff,decP_true]; rfl
def maxF (x : Int) (f : Nat → Int) : Nat → Int
  | 0 => x
  | n + 1 => max (maxF x f n) (f n)
noncomputable def sGreatest : Spec := spec2 TI (TSl (RInt .i64)) (fun _ _ => True) fun x l => .int .i64 (maxF x l.2 l.1)
set_option maxRecDepth 100000 in
theorem pGreatest : PureOk Try.prog G 43 sGreatest := by
  refine fn2 (S := []) (I := []) mixed .nil .nil Try.func43 c43 fun x l _ hw => ?_
  simp only [vl,WfT,Val.toInt,Val.slen,Val.scell,Nat.reduceSub,and_true,true_and,maxLen,Nat.reducePow,TSl,TInt,RInt] at hw
  simp only [RunTo,a43,hw,runO_5,runO_6,runO_15,runO_17,runO_18,runO_19,aop,ev,fget,fput,params,addB,addN,frz,opOwns,preFz,skipOp,WfT,lenV,Fin,vp_int,Val.toInt,Val.slen,Val.scell,↓reduceIte,reduceCtorEq,Nat.reduceEqDiff,Nat.reduceSub,Nat.zero_add,true_and,forall_const,maxLen,Nat.reducePow,TSl,TInt,RInt]
  refine loopI (ι := Nat) (fun j => j ≤ l.1) (fun j => l.1 - j) [7,8] (fun j => [(0,.int .i64 (maxF x l.2 j)),(9,.int .i64 j)]) (fun _ => []) 0 (by omega) (by simp only [maxF,Chk,chkFr,chkBx,idsLt,kept,vs_int,vs_view,fget,vsubP_self,↓reduceIte,reduceCtorEq,Nat.reduceEqDiff,Int.cast_ofNat_Int,and_self,forall_const,implies_true,keepF,appF,updB]; try rfl) fun j hj => ?_
  simp only [runO_3,runO_4,runO_5,runO_6,runO_8,runO_9,runO_14,runO_16,runO_17,runO_18,runO_19,aop,binV,ends,ev,fget,fput,vget,addB,addN,mkv,frz,opOwns,preFz,skipOp,WfT,resV,res1,casts,castOks,cast1,castOk,snapV,snapOk,popTo,stkFr,stkNx,Val.toInt,↓reduceIte,reduceCtorEq,Nat.reduceEqDiff,Nat.zero_add,List.length_cons,List.length_nil,true_and,and_self,and_assoc,forall_const,Nat.le_refl,decide_eq_true_eq,decide_eq_false_iff_not,Val.int.injEq,keepF,appF,updB,inat]
  refine ⟨fun hlt => ⟨by omega,by omega,inv_intro (j + 1) (by omega) (by omega) ?_⟩,fun hge => ?_⟩
  · simp only [maxF,Chk,chkFr,chkBx,idsLt,kept,vs_int,vs_view,fget,vsubP_self,↓reduceIte,reduceCtorEq,Nat.reduceEqDiff,and_true,true_and,and_self,forall_const,implies_true,Val.int.injEq]
    rw [wrS (by omega)]
    try rfl
  · obtain rfl : j = l.1 := by omega
    rfl
end Go.Proofs.Ytpknbojgkkmonaa
