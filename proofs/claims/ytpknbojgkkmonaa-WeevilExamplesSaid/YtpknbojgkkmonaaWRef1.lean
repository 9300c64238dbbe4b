/- Groves, the reference: small functions. No condition but bounds. -/
import Derived.Test.YtpknbojgkkmonaaWMath
import Derived.Test.YtpknbojgkkmonaaACode1
set_option linter.unusedSimpArgs false
set_option linter.unusedVariables false
namespace Go.Proofs.Ytpknbojgkkmonaa
open Go Go.RowKit
theorem mixed : Try.prog.follows .mixedOrders = true := by kernel_rfl
variable {G : Nat → Option (Nat × (Nat → Val))}
def sIn : Spec := spec3 TI TI TI (fun _ _ _ => True) fun n lo hi => .bool (decide (lo ≤ n ∧ n ≤ hi))
set_option maxRecDepth 100000 in
theorem pWithin7 : PureOk Try.prog G 80 sIn := by
  refine fn3 (S := []) (I := []) mixed .nil .nil Try.func80 c80 fun n lo hi _ _ => ?_
  simp only [RunTo,a80,runO_3,runO_5,runO_17,runO_18,runO_19,aop,binV,ends,Nat.zero_sub,ev,fget,fput,params,addB,addN,frz,opOwns,preFz,skipOp,WfT,resV,res1,snapV,snapOk,pickV,Fin,vp_bool,↓reduceIte,reduceCtorEq,Nat.reduceEqDiff,Nat.reduceAdd,Nat.zero_add,Bool.bne_true,bne_self_eq_false,Bool.not_false,true_and,and_self,forall_const,decide_eq_true_eq,decide_eq_false_iff_not,Val.bool.injEq,TInt]
  refine ⟨fun h => ?_,fun h => ?_⟩ <;> simp <;> omega
set_option maxRecDepth 100000 in
theorem pWithin9 : PureOk Try.prog G 57 sIn := by
  refine fn3 (S := []) (I := []) mixed .nil .nil Try.func57 c57 fun n lo hi _ _ => ?_
  simp only [RunTo,a57,runO_3,runO_5,runO_17,runO_18,runO_19,aop,binV,ends,Nat.zero_sub,ev,fget,fput,params,addB,addN,frz,opOwns,preFz,skipOp,WfT,resV,res1,snapV,snapOk,pickV,Fin,vp_bool,↓reduceIte,reduceCtorEq,Nat.reduceEqDiff,Nat.reduceAdd,Nat.zero_add,Bool.bne_true,bne_self_eq_false,Bool.not_false,true_and,and_self,forall_const,decide_eq_true_eq,decide_eq_false_iff_not,Val.bool.injEq,TInt]
  refine ⟨fun h => ?_,fun h => ?_⟩ <;> simp <;> omega
noncomputable def sAt : Spec := spec2 (TSl RPm) TI (fun _ _ => True) fun l id => .int .i64 (atF l id)
set_option maxRecDepth 100000 in
theorem pAt : PureOk Try.prog G 36 sAt := by
  refine fn2 (S := []) (I := []) mixed .nil .nil Try.func36 c36 fun l id _ hw => ?_
  simp only [vl,WfT,Val.toInt,Val.slen,Val.scell,Nat.reduceSub,and_true,and_self,maxLen,Nat.reducePow,TSl,TInt,RPm,Pm.d] at hw
  simp only [RunTo,a36,runO_5,runO_6,runO_15,runO_17,runO_18,runO_19,aop,ev,fput,params,addB,addN,frz,opOwns,preFz,skipOp,WfT,Fin,vp_int,Val.toInt,Val.slen,Val.scell,Nat.zero_add,Int.reduceNeg,true_and,forall_const,TSl,TInt,RPm,Pm.d]
  refine loopI (ι := Nat) (fun j => j ≤ l.1 ∧ ∀ i,i < j → (l.2 i).id ≠ id) (fun j => l.1 - j) [0,1] (fun j => [(5,.int .i64 j)]) (fun _ => []) 0 ⟨by omega,fun i h => by omega⟩ (by simp only [Chk,chkFr,chkBx,idsLt,kept,vs_int,vs_view,fget,vsubP_self,↓reduceIte,reduceCtorEq,Nat.reduceEqDiff,Int.cast_ofNat_Int,and_self,forall_const,implies_true,keepF,appF,updB]; try rfl) fun j hj => ?_
  obtain ⟨hj1,hj2⟩ := hj
  simp only [hw,runO_3,runO_4,runO_5,runO_6,runO_8,runO_9,runO_14,runO_16,runO_17,runO_18,runO_19,aop,binV,ends,ev,fget,fput,vget,addB,addN,mkv,frz,opOwns,preFz,skipOp,WfT,resV,res1,casts,castOks,cast1,castOk,snapV,snapOk,lenV,popTo,stkFr,stkNx,Val.toInt,↓reduceIte,reduceCtorEq,Nat.reduceEqDiff,Nat.reduceSub,Nat.reduceLeDiff,Nat.zero_add,Nat.sub_zero,Int.reduceNeg,beq_iff_eq,beq_eq_false_iff_ne,List.length_cons,List.length_nil,true_and,and_self,and_assoc,forall_const,decide_eq_true_eq,decide_eq_false_iff_not,Val.int.injEq,ne_eq,maxLen,Nat.reducePow,keepF,appF,updB,inat,Pm.c0]
  refine ⟨fun hlt => ⟨by omega,by omega,fun h1 => ?_,fun h1 => inv_intro (j + 1) ⟨by omega,fun i hi => ?_⟩ (by omega) ?_⟩,fun hge => ?_⟩
  · unfold atF hitN; rw [fstI_at (by omega) h1 hj2,if_pos (by omega)]
  · rcases Nat.lt_or_ge i j with h5 | h5
    · exact hj2 i h5
    · obtain rfl : i = j := by omega
      exact h1
  · simp only [Chk,chkFr,chkBx,idsLt,kept,vs_int,vs_view,fget,vsubP_self,↓reduceIte,reduceCtorEq,Nat.reduceEqDiff,and_true,true_and,and_self,forall_const,implies_true,Val.int.injEq]
    rw [wrS (by omega)]
  · unfold atF hitN; rw [fstI_no (fun k hk => hj2 k (by omega)),if_neg (Nat.lt_irrefl _)]
noncomputable def sPlace : Spec := spec1 TPl (fun _ => True) fun p => .bool (decP (PlOk p))
set_option maxRecDepth 100000 in
theorem pPlace : PureOk Try.prog G 58 sPlace := by
  refine fn1 (S := [(57,sIn)]) (I := []) mixed (.cons pWithin9 .nil) .nil Try.func58 c58 fun p _ _ => ?_
  simp only [RunTo,a58,sIn,runO_3,runO_5,runO_17,runO_18,runO_19,aop,ends,Nat.zero_sub,ev,fget,fput,params,cellsOf,cellsN,isLB,vget,vlen,bget,addB,addN,mkv,sliceV,vtab,frz,opOwns,preFz,callFz,skipOp,WfT,resV,res1,norm,norm1,normL,pureB,pureL,snapV,snapOk,specV,argsL,capsL,mkE_S,mkE_I,lkp,pickV,Fin,vp_bool,Val.toInt,↓reduceIte,Nat.reduceEqDiff,Nat.reduceAdd,Nat.reduceLeDiff,Nat.zero_add,Nat.add_zero,Int.reduceNeg,List.length_cons,List.length_nil,List.append_nil,Bool.and_self,Bool.bne_true,bne_self_eq_false,Bool.not_false,and_true,true_and,and_self,forall_const,Nat.le_refl,decide_eq_true_eq,decide_eq_false_iff_not,Val.bool.injEq,spec3,TInt,IsInt,Pl.L,TPl]
  refine ⟨fun h => ?_,fun h => ?_⟩
  · rw [Bool.eq_iff_iff,decide_eq_true_iff,decP_true]; unfold PlOk; omega
  · refine (decP_f ?_).symm; unfold PlOk; omega
noncomputable def sNear : Spec := spec3 TPl TPl TI (fun a b far => PlOk a ∧ PlOk b ∧ 0 ≤ far ∧ far ≤ 10000) fun a b far => .bool (decP (nearP a b far))
theorem near_wr {a b : Pl} {far : Int} (ha : PlOk a) (hb : PlOk b) (h0 : 0 ≤ far) (h1 : far ≤ 10000) :
    IntKind.i64.wrap (a.x - b.x) = a.x - b.x ∧ IntKind.i64.wrap (a.y - b.y) = a.y - b.y ∧ IntKind.i64.wrap ((a.x - b.x) * (a.x - b.x)) = (a.x - b.x) * (a.x - b.x) ∧ IntKind.i64.wrap ((a.y - b.y) * (a.y - b.y)) = (a.y - b.y) * (a.y - b.y) ∧ IntKind.i64.wrap ((a.x - b.x) * (a.x - b.x) + (a.y - b.y) * (a.y - b.y)) = (a.x - b.x) * (a.x - b.x) + (a.y - b.y) * (a.y - b.y) ∧ IntKind.i64.wrap (far * far) = far * far := by
  unfold PlOk at ha hb
  have b1 := sq_bd (u := a.x - b.x) (A := 200000) (by omega) (by omega)
  have b2 := sq_bd (u := a.y - b.y) (A := 200000) (by omega) (by omega)
  have b3 := sq_bd (u := far) (A := 10000) (by omega) (by omega)
  refine ⟨wr64 (by omega) (by omega),wr64 (by omega) (by omega),wr64 (by omega) (by omega),wr64 (by omega) (by omega),wr64 (by omega) (by omega),wr64 (by omega) (by omega)⟩
set_option maxRecDepth 100000 in
theorem pNear : PureOk Try.prog G 39 sNear := by
  refine fn3 (S := []) (I := []) mixed .nil .nil Try.func39 c39 fun a b far hp _ => ?_
  obtain ⟨q1,q2,q3,q4,q5,q6⟩ := near_wr hp.1 hp.2.1 hp.2.2.1 hp.2.2.2
  simp only [RunTo,a39,q1,q2,q3,q4,q5,q6,runO_3,runO_5,runO_17,runO_18,runO_19,aop,binV,ends,ev,fget,fput,params,cellsOf,cellsN,isLB,vget,vlen,bget,addB,addN,mkv,sliceV,vtab,frz,opOwns,preFz,skipOp,WfT,resV,res1,snapV,snapOk,Fin,vp_bool,↓reduceIte,reduceCtorEq,Nat.reduceEqDiff,Nat.reduceAdd,Nat.reduceLeDiff,Nat.zero_add,Nat.add_zero,List.length_cons,List.length_nil,true_and,and_self,forall_const,Nat.le_refl,Val.bool.injEq,TInt,Pl.L,TPl]
  rw [Bool.eq_iff_iff,decide_eq_true_iff,decP_true]; rfl
noncomputable def sSus : Spec := spec2 TGv TI (fun _ _ => True) fun g id => .bool (decP (susP g id))
set_option maxRecDepth 100000 in
theorem pSus : PureOk Try.prog G 61 sSus := by
  refine fn2 (S := []) (I := []) mixed .nil .nil Try.func61 c61 fun g id _ hw => ?_
  simp only [vl,WfT,Val.toInt,Nat.reduceSub,and_true,true_and,and_self,maxLen,Nat.reducePow,TInt,RInt,RPm,Pm.d,RPl,Pl.d,Gv.L,TGv] at hw
  simp only [RunTo,a61,runO_5,runO_6,runO_15,runO_17,runO_18,runO_19,aop,ev,fget,fput,params,cellsOf,cellsN,isLB,vlen,addB,addN,frz,opOwns,preFz,skipOp,WfT,Fin,vp_bool,Val.toInt,↓reduceIte,Nat.reduceAdd,Nat.zero_add,true_and,and_self,forall_const,TInt,RInt,RPm,Pm.d,RPl,Pl.d,Gv.L,TGv]
  refine loopI (ι := Nat) (fun j => j ≤ g.sus.1 ∧ ∀ i,i < j → g.sus.2 i ≠ id) (fun j => g.sus.1 - j) [1,2] (fun j => [(5,.int .i64 j)]) (fun _ => []) 0 ⟨by omega,fun i h => by omega⟩ (by simp only [Chk,chkFr,chkBx,chkBx1,hasB,idsLt,kept,vs_int,vs_nil,vs_ptr,vs_cons,vs_view,fget,isLB,bget,vsubP_self,↓reduceIte,reduceCtorEq,Nat.reduceEqDiff,Nat.reduceLT,Int.cast_ofNat_Int,and_self,forall_const,implies_true,Option.some.injEq,exists_eq',keepF,appF,updB]; try rfl) fun j hj => ?_
  obtain ⟨hj1,hj2⟩ := hj
  simp only [hw,runO_3,runO_4,runO_5,runO_6,runO_8,runO_9,runO_14,runO_16,runO_17,runO_18,runO_19,aop,binV,ends,ev,fget,fput,vget,vlen,bget,addB,addN,mkv,sliceV,vtab,frz,opOwns,preFz,skipOp,WfT,resV,res1,casts,castOks,cast1,castOk,snapV,snapOk,lenV,popTo,stkFr,stkNx,Val.toInt,↓reduceIte,reduceCtorEq,Nat.reduceEqDiff,Nat.reduceAdd,Nat.reduceSub,Nat.zero_add,beq_iff_eq,beq_eq_false_iff_ne,List.length_cons,List.length_nil,true_and,and_self,and_assoc,forall_const,Nat.le_refl,decide_eq_true_eq,decide_eq_false_iff_not,Val.bool.injEq,ne_eq,maxLen,Nat.reducePow,keepF,appF,updB,inat]
  refine ⟨fun hlt => ⟨by omega,by omega,fun h1 => (decP_t ⟨j,by omega,h1⟩).symm,fun h1 => inv_intro (j + 1) ⟨by omega,fun i hi => ?_⟩ (by omega) ?_⟩,fun hge => ?_⟩
  · rcases Nat.lt_or_ge i j with h5 | h5
    · exact hj2 i h5
    · obtain rfl : i = j := by omega
      exact h1
  · simp only [Chk,chkFr,chkBx,chkBx1,hasB,idsLt,kept,vs_int,vs_nil,vs_ptr,vs_cons,vs_view,fget,isLB,bget,vsubP_self,↓reduceIte,Nat.reduceEqDiff,Nat.reduceLT,and_true,true_and,and_self,forall_const,implies_true,Option.some.injEq,Val.int.injEq,exists_eq']
    rw [wrS (by omega)]
  · refine (decP_f ?_).symm
    rintro ⟨i,hi,he⟩
    exact hj2 i (by omega) he
noncomputable def sSameI : Spec := spec2 (TSl (RInt .i64)) (TSl (RInt .i64)) (fun _ _ => True) fun a b => .bool (sameB a b)
set_option maxRecDepth 100000 in
theorem pSameI : PureOk Try.prog G 19 sSameI := by
  refine fn2 (S := []) (I := []) mixed .nil .nil Try.func19 c19 fun a b _ hw => ?_
  simp only [vl,WfT,Val.toInt,Val.slen,Val.scell,Nat.reduceSub,and_true,maxLen,Nat.reducePow,TSl,RInt] at hw
  obtain ⟨w1,w2⟩ := hw
  simp only [RunTo,a19,w1,w2,runO_3,runO_4,runO_5,runO_6,runO_14,runO_15,runO_17,runO_18,runO_19,aop,binV,ends,ev,fget,fput,params,addB,addN,frz,opOwns,preFz,skipOp,WfT,resV,res1,snapV,snapOk,lenV,Fin,vp_bool,Val.toInt,Val.slen,Val.scell,↓reduceIte,reduceCtorEq,Nat.reduceEqDiff,Nat.reduceSub,Nat.zero_add,bne_iff_ne,bne_eq_false_iff_eq,true_and,and_self,forall_const,Val.bool.injEq,ne_eq,maxLen,Nat.reducePow,TSl,RInt]
  refine ⟨fun h => (decP_f fun k => h (by omega)).symm,fun h => ?_⟩
  refine loopI (ι := Nat) (fun j => j ≤ a.1 ∧ ∀ i,i < j → a.2 i = b.2 i) (fun j => a.1 - j) [0,1] (fun j => [(5,.int .i64 j)]) (fun _ => []) 0 ⟨by omega,fun i h => by omega⟩ (by simp only [Chk,chkFr,chkBx,idsLt,kept,vs_int,vs_view,fget,vsubP_self,↓reduceIte,reduceCtorEq,Nat.reduceEqDiff,Int.cast_ofNat_Int,and_self,forall_const,implies_true,keepF,appF,updB]; try rfl) fun j hj => ?_
  obtain ⟨hj1,hj2⟩ := hj
  simp only [w1,runO_3,runO_4,runO_5,runO_6,runO_8,runO_9,runO_14,runO_16,runO_17,runO_18,runO_19,aop,binV,ends,ev,fget,fput,vget,addB,addN,mkv,frz,opOwns,preFz,skipOp,WfT,resV,res1,casts,castOks,cast1,castOk,snapV,snapOk,lenV,popTo,stkFr,stkNx,Val.toInt,↓reduceIte,reduceCtorEq,Nat.reduceEqDiff,Nat.reduceSub,Nat.zero_add,bne_iff_ne,bne_eq_false_iff_eq,List.length_cons,List.length_nil,true_and,and_self,and_assoc,forall_const,Nat.le_refl,decide_eq_true_eq,decide_eq_false_iff_not,Val.bool.injEq,ne_eq,maxLen,Nat.reducePow,keepF,appF,updB,inat]
  refine ⟨fun hlt => ⟨by omega,by omega,by omega,by omega,fun h1 => (decP_f fun k => h1 (k.2 j (by omega))).symm,fun h1 => inv_intro (j + 1) ⟨by omega,fun i hi => ?_⟩ (by omega) ?_⟩,fun hge => ?_⟩
  · rcases Nat.lt_or_ge i j with h5 | h5
    · exact hj2 i h5
    · obtain rfl : i = j := by omega
      exact h1
  · simp only [Chk,chkFr,chkBx,idsLt,kept,vs_int,vs_view,fget,vsubP_self,↓reduceIte,reduceCtorEq,Nat.reduceEqDiff,and_true,true_and,and_self,forall_const,implies_true,Val.int.injEq]
    rw [wrS (by omega)]
  · exact (decP_t ⟨by omega,fun i hi => hj2 i (by omega)⟩).symm
end Go.Proofs.Ytpknbojgkkmonaa
