/- Groves, the program: before. No condition but bounds. -/
import Derived.Test.YtpknbojgkkmonaaWProg4
set_option linter.unusedSimpArgs false
set_option linter.unusedVariables false
namespace Go.Proofs.Ytpknbojgkkmonaa
open Go Go.RowKit
variable {G : Nat → Option (Nat × (Nat → Val))}
theorem maxF_1 (x y : Int) (f : Nat → Int) (h : f 0 = y) : maxF x f 1 = max x y := by simp [maxF,h]
noncomputable def sBefore : Spec := (spec2 TPt (TSl RSg) (fun g l => GvOk g ∧ ∀ j,j < l.1 → SgOk g (l.2 j)) fun g l => .view 1 g.palms.1 fun i _ => .int .i64 (lowF g l.2 l.1 i)).mine 3
set_option maxRecDepth 100000 in
theorem pBefore : PureOk Try.prog G 42 sBefore := by
  refine fo2 (S := [(43,sGreatest)]) (I := []) mixed (.cons pGreatest .nil) .nil Try.func42 c42 fun g l hp hw => ?_
  obtain ⟨hg,hl⟩ := hp
  simp only [TPt,Pt.L,vl,WfT,Val.toInt,Val.slen,Val.scell,Nat.reduceSub,and_true,true_and,and_self,and_assoc,maxLen,Nat.reducePow,TSl,RInt,RPm,Pm.d,RPl,Pl.d,RSg,Sg.d] at hw
  simp only [RunOwn,a42,TPt,Pt.L,hw,FinS,runO_5,runO_6,runO_15,runO_17,runO_18,runO_19,aop,ev,fget,fput,params,cellsOf,cellsN,isLB,vget,vlen,bget,addB,addN,mkv,sliceV,vtab,frz,opOwns,preFz,skipOp,WfT,pureB,onesB,lenV,Fin,Val.toInt,Val.slen,Val.scell,↓reduceIte,reduceCtorEq,Nat.reduceEqDiff,Nat.reduceAdd,Nat.reduceSub,Nat.reduceLeDiff,Nat.reduceLT,Nat.zero_add,Nat.add_zero,Int.cast_ofNat_Int,List.length_cons,List.length_nil,Bool.and_self,true_and,and_self,and_assoc,forall_const,exists_and_left,maxLen,Nat.reducePow,inat,TSl,RInt,RPm,Pm.d,RPl,Pl.d,RSg,Sg.d]
  have hn := hg.pms.n
  refine ⟨by omega,by omega,by omega,?_⟩
  refine loopI (ι := Nat) (fun j => j ≤ l.1) (fun j => l.1 - j) [2,5,14,15] (fun j => [(16,.int .i64 j)]) (fun j => [(1,.row 3 1 g.palms.1 fun i _ => .int .i64 (lowF g l.2 j i))]) 0 (by omega) (by simp only [lowF,Chk,chkFr,chkBx,chkBx1,newIn,hasB,idsLt,kept,vs_int,vs_nil,vs_own,vs_ptr,vs_cons,vs_view,vs_mview,fget,isLB,bget,bset,vp_int,vsubP_self,↓reduceIte,reduceCtorEq,Nat.reduceEqDiff,Nat.reduceLT,Int.cast_ofNat_Int,and_true,true_and,and_self,forall_const,implies_true,Option.some.injEq,exists_eq',or_false,keepF,appF,updB]; exact fun i hi j hj => by (obtain rfl : j = 0 := by omega); rfl) fun j hj => ?_
  by_cases hjl : j < l.1
  · have fj : ((j : Int) < (l.1 : Int)) = True := eq_true (by omega)
    have hs := hl j hjl
    have hb := lowF_bd hg hl j (by omega)
    have hsh := hg.shows
    have hday := hs.1
    have hst := hg.start
    have e1 : IntKind.i64.wrap ((l.2 j).day - g.shows) = (l.2 j).day - g.shows := wr64 (by omega) (by omega)
    have e2 : IntKind.i64.wrap ((l.2 j).day - g.shows + 1) = (l.2 j).day - g.shows + 1 := wr64 (by omega) (by omega)
    by_cases hk : (l.2 j).kind = 1
    · have hm : hitN g.palms (l.2 j).palm < g.palms.1 := by
        rcases hs.2 with h | h
        · exact h.2.1
        · have := h.1; omega
      have hk1 := hasP_hit.2 hm
      have hk2 := hg.pms.lst hk1
      simp only [sGreatest,maxF,fj,hk,hk1,hk2,e1,e2,flatO,↓imp_tt,↓imp_tf,runO_4,runO_5,runO_6,runO_8,runO_14,runO_16,runO_17,runO_18,runO_19,aop,binV,reOk,Nat.zero_sub,ev,fget,fput,cellsOf,cellsN,isLB,vget,vset,vsets,vlen,bget,bset,addB,addN,mkv,sliceV,vtab,rowsV,rowsOk,vrep,frz,opOwns,preFz,owns,skipOp,WfT,casts,castOks,cast1,castOk,norm,norm1,normL,pureB,pureL,flatB,onesB,snapV,snapOk,snapL,snapOks,specV,argsL,capsL,mkE_S,lkp,pickV,mgetV,stkFr,stkNx,Val.toInt,Val.slen,Val.scell,↓reduceIte,reduceCtorEq,Nat.reduceEqDiff,Nat.reduceAdd,Nat.reduceLeDiff,Nat.reduceLT,Nat.zero_add,Nat.add_zero,Nat.sub_zero,decide_true,List.length_cons,List.length_nil,List.append_nil,Bool.and_true,Bool.and_false,Bool.and_self,beq_self_eq_true,and_true,true_and,and_self,and_assoc,forall_const,Nat.le_refl,keepF,appF,updB,inat,spec2,TSl,IsSl,TInt,IsInt,RInt,Sg.c0,Sg.c1,Sg.c2,Sg.c3,Sg.c4,Sg.c5]
      repeat' (first | omega | (with_reducible apply And.intro) | intro _)
      · rename_i i hi
        obtain rfl : i = 0 := by omega
        rfl
      refine inv_intro (j + 1) (by omega) (by omega) ?_
      simp only [Chk,chkFr,chkBx,chkBx1,newIn,hasB,idsLt,kept,vs_int,vs_nil,vs_own,vs_ptr,vs_cons,vs_view,vs_mview,Nat.lt_irrefl,fget,isLB,bget,vp_int,vsubP_self,↓reduceIte,reduceCtorEq,Nat.reduceEqDiff,Nat.reduceLT,and_true,true_and,and_self,forall_const,implies_true,Option.some.injEq,Val.int.injEq,exists_eq',false_implies,or_false]
      rw [wrS (by omega)]
      refine ⟨rfl,fun i hi b hb => ?_⟩
      obtain rfl : b = 0 := by omega
      simp only [lowF,hk,true_and]
      by_cases h5 : i = hitN g.palms (l.2 j).palm
      · subst h5; simp [vget]
      · have h6 : ¬ hitN g.palms (l.2 j).palm = i := fun e => h5 e.symm
        simp [h5,h6]
    · simp only [fj,hk,flatO,↓imp_tt,↓imp_tf,runO_4,runO_5,runO_6,runO_8,runO_14,runO_16,runO_17,runO_18,runO_19,aop,binV,reOk,Nat.zero_sub,ev,fget,fput,cellsOf,cellsN,isLB,vget,vset,vsets,vlen,bget,bset,addB,addN,mkv,sliceV,vtab,rowsV,rowsOk,vrep,frz,opOwns,preFz,skipOp,WfT,casts,castOks,cast1,castOk,norm,norm1,normL,pureB,pureL,onesB,snapV,snapOk,snapL,snapOks,specV,argsL,capsL,mkE_S,lkp,pickV,mgetV,stkFr,stkNx,Val.toInt,↓reduceIte,reduceCtorEq,Nat.reduceEqDiff,Nat.reduceAdd,Nat.reduceLeDiff,Nat.reduceLT,Nat.zero_add,Nat.add_zero,decide_true,beq_iff_eq,beq_eq_false_iff_ne,List.length_cons,List.length_nil,List.append_nil,Bool.and_true,Bool.and_false,Bool.and_self,and_true,true_and,and_self,and_assoc,forall_const,Nat.le_refl,ne_eq,not_false_eq_true,false_implies,not_false_eq_true,keepF,appF,updB,inat,Sg.c0,Sg.c1,Sg.c2,Sg.c3,Sg.c4,Sg.c5]
      refine ⟨by omega,inv_intro (j + 1) (by omega) (by omega) ?_⟩
      simp only [lowF,hk,false_and,Chk,chkFr,chkBx,chkBx1,newIn,hasB,idsLt,kept,vs_int,vs_nil,vs_own,vs_ptr,vs_cons,vs_view,vs_mview,Nat.lt_irrefl,fget,isLB,bget,vsubP_self,↓reduceIte,reduceCtorEq,Nat.reduceEqDiff,Nat.reduceLT,and_true,true_and,and_self,forall_const,implies_true,Option.some.injEq,Val.int.injEq,exists_eq',false_implies,or_false]
      rw [wrS (by omega)]
  · have fj : ((j : Int) < (l.1 : Int)) = False := eq_false (by omega)
    obtain rfl : j = l.1 := by omega
    simp only [fj,↓imp_ft,↓imp_ff,runO_3,runO_5,runO_9,runO_14,runO_17,runO_18,runO_19,aop,binV,ends,ev,fget,fput,bget,bset,addB,addN,frz,opOwns,preFz,skipOp,WfT,resV,res1,snapV,snapOk,popTo,stkFr,stkNx,vsubP_self,↓reduceIte,Nat.reduceEqDiff,decide_false,true_and,and_self,forall_const,keepF,appF,updB]
    exact ⟨1,rfl,1,g.palms.1,_,rfl,_,rfl,fun i hi b hb => ⟨rfl,rfl⟩⟩
end Go.Proofs.Ytpknbojgkkmonaa
