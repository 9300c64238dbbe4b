/- Groves, the program: misfit. No condition but bounds. -/
import Derived.Test.YtpknbojgkkmonaaWTold
set_option linter.unusedSimpArgs false
set_option linter.unusedVariables false
namespace Go.Proofs.Ytpknbojgkkmonaa
open Go Go.RowKit
variable {G : Nat → Option (Nat × (Nat → Val))}
noncomputable def misF (g : Gv) (l : Sgs) (d : Nat → Int) : Int := if fstI (fun j => ¬ fitP g (l.2 j) d) l.1 < l.1 then (fstI (fun j => ¬ fitP g (l.2 j) d) l.1 : Int) else -1
theorem mis_at {g : Gv} {l : Sgs} {d : Nat → Int} {j : Nat} (hj : j < l.1) (hn : ¬ fitP g (l.2 j) d) (h : ∀ i,i < j → fitP g (l.2 i) d) : misF g l d = j := by
  unfold misF; rw [fstI_at hj hn fun i hi h' => h' (h i hi),if_pos hj]
theorem mis_no {g : Gv} {l : Sgs} {d : Nat → Int} (h : ∀ i,i < l.1 → fitP g (l.2 i) d) : misF g l d = -1 := by
  unfold misF; rw [fstI_no fun i hi h' => h' (h i hi),if_neg (Nat.lt_irrefl _)]
theorem mis_neg {g : Gv} {l : Sgs} {d : Nat → Int} : misF g l d < 0 ↔ ∀ i,i < l.1 → fitP g (l.2 i) d := by
  constructor
  · intro h i hi
    false_or_by_contra
    rename_i hn
    obtain ⟨j,h1,h2,h3⟩ := fst_ex (p := fun j => ¬ fitP g (l.2 j) d) ⟨i,hi,hn⟩
    rw [mis_at h1 h2 fun i hi => Classical.not_not.1 (h3 i hi)] at h
    omega
  · intro h; rw [mis_no h]; omega
noncomputable def sMisfit : Spec := spec3 TPt (TSl RSg) (TSl (RInt .i64)) (fun g l d => GvOk g ∧ (∀ j,j < l.1 → SgOk g (l.2 j)) ∧ d.1 = g.palms.1 ∧ ∀ i,i < d.1 → 0 ≤ d.2 i ∧ d.2 i ≤ 100001) fun g l d => .int .i64 (misF g l d.2)
set_option maxHeartbeats 2000000 in
set_option maxRecDepth 100000 in
theorem pMisfit : PureOk Try.prog G 44 sMisfit := by
  refine fn3 (S := [(71,sNear)]) (I := [(64,a64),(65,a65),(66,a66),(82,a82),(83,a83),(84,a84),(85,a85),(86,a86)]) mixed (.cons pNearP .nil) (.cons Try.func64 c64 (.cons Try.func65 c65 (.cons Try.func66 c66 (.cons Try.func82 c82 (.cons Try.func83 c83 (.cons Try.func84 c84 (.cons Try.func85 c85 (.cons Try.func86 c86 .nil)))))))) Try.func44 c44 fun g l d hp hw => ?_
  obtain ⟨hg,hl,hd,hb⟩ := hp
  simp only [TPt,Pt.L,vl,WfT,Val.toInt,Val.slen,Val.scell,Nat.reduceSub,and_true,true_and,and_self,and_assoc,maxLen,Nat.reducePow,TSl,RInt,RPm,Pm.d,RPl,Pl.d,RSg,Sg.d] at hw
  simp only [RunTo,a44,a64,a65,TPt,Pt.L,hw,noIt,runO_3,runO_5,runO_6,runO_15,runO_17,runO_18,runO_19,aop,ends,reOk,Nat.zero_sub,ev,evs,fget,fput,params,cellsOf,cellsN,isLB,vget,vset,vsets,vlen,bget,bset,addB,addN,mkv,sliceV,vtab,fillV,fillOk,frz,opOwns,preFz,skipOp,WfT,resV,res1,onesB,argsL,capsL,mkE_S,mkE_I,lkp,lenV,Fin,vp_int,Val.toInt,Val.slen,Val.scell,↓reduceIte,reduceCtorEq,Nat.reduceEqDiff,Nat.reduceAdd,Nat.reduceSub,Nat.reduceLeDiff,Nat.zero_add,Int.reduceNeg,List.length_cons,List.length_nil,List.append_nil,Bool.and_self,true_and,and_self,forall_const,Nat.le_refl,maxLen,Nat.reducePow,TSl,RInt,RPm,Pm.d,RPl,Pl.d,RSg,Sg.d]
  have hn := hg.n
  have hha := hg.hatch
  have hsh := hg.shows
  have hst := hg.start
  refine loopI (ι := Nat) (fun j => j ≤ l.1 ∧ ∀ i,i < j → fitP g (l.2 i) d.2) (fun j => l.1 - j) [0,1,7] (fun j => [(8,.int .i64 j)]) (fun _ => []) 0 ⟨by omega,fun i h => by omega⟩ (by
    simp only [Chk,chkFr,chkBx,chkBx1,hasB,idsLt,kept,vs_int,vs_nil,vs_ptr,vs_cons,vs_func,vs_view,vs_mview,vs_mapb,fget,isLB,bget,vsubP_self,↓reduceIte,reduceCtorEq,Nat.reduceEqDiff,Nat.reduceLT,Int.cast_ofNat_Int,and_true,true_and,and_self,forall_const,implies_true,Option.some.injEq,exists_eq',keepF,appF,updB]
    intro k _
    by_cases e3 : k = 3
    · simp only [e3,hasB,vs_nil,vs_ptr,vs_cons,vs_agg,vs_func,bget,↓reduceIte,Nat.reduceEqDiff,and_self,Option.some.injEq,exists_eq']
    · by_cases e2 : k = 2
      · simp only [e2,hasB,vs_nil,vs_ptr,vs_cons,vs_agg,vs_func,bget,↓reduceIte,Nat.reduceEqDiff,Int.reduceEq,and_self,Option.some.injEq,exists_eq']
      · by_cases e1 : k = 1
        · simp only [e1,hasB,vs_nil,vs_ptr,vs_cons,vs_agg,vs_func,bget,↓reduceIte,Nat.reduceEqDiff,Int.reduceEq,and_self,Option.some.injEq,exists_eq']
        · simp only [e1,e2,e3,vs_und,↓reduceIte]) fun j hj => ?_
  obtain ⟨hj1,hj2⟩ := hj
  by_cases hjl : j < l.1
  · have fj : ((j : Int) < (l.1 : Int)) = True := eq_true (by omega)
    obtain ⟨hday,hS⟩ := hl j hjl
    have nx0 : fitP g (l.2 j) d.2 → ∀ i,i < j + 1 → fitP g (l.2 i) d.2 := fun hF i hi => by
      rcases Nat.lt_or_ge i j with h5 | h5
      · exact hj2 i h5
      · obtain rfl : i = j := by omega
        exact hF
    have no : ¬ fitP g (l.2 j) d.2 → misF g l d.2 = j := fun h => mis_at hjl h hj2
    have e1 : IntKind.i64.wrap ((l.2 j).day - g.shows) = (l.2 j).day - g.shows := wr64 (by omega) (by omega)
    rcases hS with ⟨hk,hm,hpl⟩ | ⟨hk,ht,hne⟩
    · have hk1 := hasP_hit.2 hm
      have hk2 := hg.pms.lst hk1
      have hbm := hb (hitN g.palms (l.2 j).palm) (by omega)
      rcases hk with hk | hk
      · have hF : fitP g (l.2 j) d.2 ↔ d.2 (hitN g.palms (l.2 j).palm) > (l.2 j).day - g.shows := by unfold fitP; rw [if_pos hk]
        by_cases hf : fitP g (l.2 j) d.2
        · have nx := nx0 hf
          have f2 := eq_true (hF.1 hf)
          simp only [a66,a83,fj,hk,hk1,hk2,e1,f2,hw,↓imp_tt,↓imp_tf,↓imp_ft,↓imp_ff,runO_3,runO_4,runO_5,runO_6,runO_8,runO_14,runO_16,runO_17,runO_18,runO_19,aop,binV,ends,ev,fget,fput,params,cellsOf,cellsN,isLB,vget,vlen,bget,addB,addN,mkv,sliceV,vtab,frz,opOwns,preFz,skipOp,WfT,resV,res1,casts,castOks,cast1,castOk,argsL,capsL,mkE_S,mkE_I,lkp,pickV,mgetV,stkFr,stkNx,Val.toInt,↓reduceIte,reduceCtorEq,Nat.reduceEqDiff,Nat.reduceAdd,Nat.reduceSub,Nat.reduceLeDiff,Nat.zero_add,Nat.add_zero,Int.reduceEq,Int.reduceNeg,decide_true,List.length_cons,List.length_nil,List.nil_append,List.cons_append,Bool.not_true,and_true,true_and,and_self,and_assoc,forall_const,Nat.le_refl,maxLen,Nat.reducePow,keepF,appF,updB,inat,Sg.c0,Sg.c1,Sg.c2,Sg.c3,Sg.c4,Sg.c5]
          repeat' (first | omega | (with_reducible apply And.intro) | intro _)
          refine inv_intro (j + 1) ⟨by omega,nx⟩ (by omega) ?_
          simp only [Chk,chkFr,chkBx,chkBx1,hasB,idsLt,kept,vs_int,vs_nil,vs_ptr,vs_cons,vs_func,vs_view,vs_mview,vs_mapb,Nat.lt_irrefl,fget,isLB,bget,vsubP_self,↓reduceIte,reduceCtorEq,Nat.reduceEqDiff,Nat.reduceLT,and_true,true_and,and_self,forall_const,implies_true,Option.some.injEq,Val.int.injEq,exists_eq',false_implies]
          rw [wrS (by omega)]
          refine ⟨rfl,?_⟩
          intro k _
          by_cases e3 : k = 3
          · simp only [e3,hasB,vs_nil,vs_ptr,vs_cons,vs_agg,vs_func,bget,↓reduceIte,Nat.reduceEqDiff,and_self,Option.some.injEq,exists_eq']
          · by_cases e2 : k = 2
            · simp only [e2,hasB,vs_nil,vs_ptr,vs_cons,vs_agg,vs_func,bget,↓reduceIte,Nat.reduceEqDiff,Int.reduceEq,and_self,Option.some.injEq,exists_eq']
            · by_cases e1 : k = 1
              · simp only [e1,hasB,vs_nil,vs_ptr,vs_cons,vs_agg,vs_func,bget,↓reduceIte,Nat.reduceEqDiff,Int.reduceEq,and_self,Option.some.injEq,exists_eq']
              · simp only [e1,e2,e3,vs_und,↓reduceIte]
        · have f2 := eq_false (fun h => hf (hF.2 h))
          have em := no hf
          simp only [a66,a83,fj,hk,hk1,hk2,e1,f2,em,hw,↓imp_tt,↓imp_tf,runO_3,runO_4,runO_5,runO_6,runO_14,runO_17,runO_18,runO_19,aop,binV,ends,ev,fget,fput,params,cellsOf,cellsN,isLB,vget,vlen,bget,addB,addN,mkv,sliceV,vtab,frz,opOwns,preFz,skipOp,WfT,resV,res1,casts,castOks,cast1,castOk,snapV,snapOk,argsL,capsL,mkE_S,mkE_I,lkp,pickV,mgetV,stkFr,stkNx,Val.toInt,↓reduceIte,reduceCtorEq,Nat.reduceEqDiff,Nat.reduceAdd,Nat.reduceSub,Nat.reduceLeDiff,Nat.zero_add,Nat.add_zero,Int.reduceEq,Int.reduceNeg,decide_true,decide_false,List.length_cons,List.length_nil,List.nil_append,List.cons_append,Bool.not_false,and_true,true_and,and_self,forall_const,Nat.le_refl,maxLen,Nat.reducePow,keepF,appF,updB,inat,Sg.c0,Sg.c1,Sg.c2,Sg.c3,Sg.c4,Sg.c5]
          repeat' (first | omega | (with_reducible apply And.intro) | intro _)
      · have hF : fitP g (l.2 j) d.2 ↔ d.2 (hitN g.palms (l.2 j).palm) ≤ (l.2 j).day := by unfold fitP; rw [if_neg (by omega),if_pos hk]
        by_cases hf : fitP g (l.2 j) d.2
        · have nx := nx0 hf
          have f2 := eq_true (hF.1 hf)
          simp only [a66,a84,fj,hk,hk1,hk2,f2,hw,↓imp_tt,↓imp_tf,↓imp_ft,↓imp_ff,runO_3,runO_4,runO_5,runO_6,runO_8,runO_14,runO_16,runO_17,runO_18,runO_19,aop,binV,ends,ev,fget,fput,params,cellsOf,cellsN,isLB,vget,vlen,bget,addB,addN,mkv,sliceV,vtab,frz,opOwns,preFz,skipOp,WfT,resV,res1,casts,castOks,cast1,castOk,argsL,capsL,mkE_S,mkE_I,lkp,pickV,mgetV,stkFr,stkNx,Val.toInt,↓reduceIte,reduceCtorEq,Nat.reduceEqDiff,Nat.reduceAdd,Nat.reduceSub,Nat.reduceLeDiff,Nat.zero_add,Nat.add_zero,Int.reduceEq,Int.reduceNeg,decide_true,List.length_cons,List.length_nil,List.nil_append,List.cons_append,Bool.not_true,and_true,true_and,and_self,and_assoc,forall_const,Nat.le_refl,maxLen,Nat.reducePow,keepF,appF,updB,inat,Sg.c0,Sg.c1,Sg.c2,Sg.c3,Sg.c4,Sg.c5]
          repeat' (first | omega | (with_reducible apply And.intro) | intro _)
          refine inv_intro (j + 1) ⟨by omega,nx⟩ (by omega) ?_
          simp only [Chk,chkFr,chkBx,chkBx1,hasB,idsLt,kept,vs_int,vs_nil,vs_ptr,vs_cons,vs_func,vs_view,vs_mview,vs_mapb,Nat.lt_irrefl,fget,isLB,bget,vsubP_self,↓reduceIte,reduceCtorEq,Nat.reduceEqDiff,Nat.reduceLT,and_true,true_and,and_self,forall_const,implies_true,Option.some.injEq,Val.int.injEq,exists_eq',false_implies]
          rw [wrS (by omega)]
          refine ⟨rfl,?_⟩
          intro k _
          by_cases e3 : k = 3
          · simp only [e3,hasB,vs_nil,vs_ptr,vs_cons,vs_agg,vs_func,bget,↓reduceIte,Nat.reduceEqDiff,and_self,Option.some.injEq,exists_eq']
          · by_cases e2 : k = 2
            · simp only [e2,hasB,vs_nil,vs_ptr,vs_cons,vs_agg,vs_func,bget,↓reduceIte,Nat.reduceEqDiff,Int.reduceEq,and_self,Option.some.injEq,exists_eq']
            · by_cases e1 : k = 1
              · simp only [e1,hasB,vs_nil,vs_ptr,vs_cons,vs_agg,vs_func,bget,↓reduceIte,Nat.reduceEqDiff,Int.reduceEq,and_self,Option.some.injEq,exists_eq']
              · simp only [e1,e2,e3,vs_und,↓reduceIte]
        · have f2 := eq_false (fun h => hf (hF.2 h))
          have em := no hf
          simp only [a66,a84,fj,hk,hk1,hk2,f2,em,hw,↓imp_tt,↓imp_tf,runO_3,runO_4,runO_5,runO_6,runO_14,runO_17,runO_18,runO_19,aop,binV,ends,ev,fget,fput,params,cellsOf,cellsN,isLB,vget,vlen,bget,addB,addN,mkv,sliceV,vtab,frz,opOwns,preFz,skipOp,WfT,resV,res1,casts,castOks,cast1,castOk,snapV,snapOk,argsL,capsL,mkE_S,mkE_I,lkp,pickV,mgetV,stkFr,stkNx,Val.toInt,↓reduceIte,reduceCtorEq,Nat.reduceEqDiff,Nat.reduceAdd,Nat.reduceSub,Nat.reduceLeDiff,Nat.zero_add,Nat.add_zero,Int.reduceEq,Int.reduceNeg,decide_true,decide_false,List.length_cons,List.length_nil,List.nil_append,List.cons_append,Bool.not_false,and_true,true_and,and_self,forall_const,Nat.le_refl,maxLen,Nat.reducePow,keepF,appF,updB,inat,Sg.c0,Sg.c1,Sg.c2,Sg.c3,Sg.c4,Sg.c5]
          repeat' (first | omega | (with_reducible apply And.intro) | intro _)
    · have hF : fitP g (l.2 j) d.2 ↔ ∃ i,i < g.palms.1 ∧ d.2 i ≤ (l.2 j).day - g.hatch ∧ nearP (g.places.2 i) (l.2 j).trap (l.2 j).near := by unfold fitP; rw [if_neg (by omega),if_neg (by omega)]
      simp only [a66,a86,fj,hk,hw,↓imp_tt,↓imp_tf,runO_4,runO_5,runO_6,runO_14,runO_15,runO_17,runO_18,runO_19,aop,binV,ev,fget,fput,params,cellsOf,cellsN,isLB,vget,vlen,bget,addB,addN,mkv,sliceV,vtab,frz,opOwns,preFz,skipOp,WfT,casts,castOks,cast1,castOk,argsL,capsL,mkE_S,mkE_I,lkp,pickV,mgetV,lenV,stkFr,stkNx,Val.toInt,↓reduceIte,reduceCtorEq,Nat.reduceEqDiff,Nat.reduceAdd,Nat.reduceSub,Nat.reduceLeDiff,Nat.zero_add,Nat.add_zero,Int.reduceNeg,decide_true,List.length_cons,List.length_nil,List.nil_append,List.cons_append,and_true,true_and,and_self,forall_const,Nat.le_refl,maxLen,Nat.reducePow,keepF,appF,updB,inat,Sg.c0,Sg.c1,Sg.c2,Sg.c3,Sg.c4,Sg.c5]
      repeat' (first | omega | (with_reducible apply And.intro) | intro _)
      refine loopI (ι := Nat) (fun z => z ≤ d.1 ∧ ∀ i,i < z → ¬ (d.2 i ≤ (l.2 j).day - g.hatch ∧ nearP (g.places.2 i) (l.2 j).trap (l.2 j).near)) (fun z => d.1 - z) [2,3,8,9] (fun z => [(10,.int .i64 z)]) (fun _ => []) 0 ⟨by omega,fun i h => by omega⟩ (by
        simp only [Chk,chkFr,chkBx,chkBx1,hasB,idsLt,kept,vs_int,vs_nil,vs_ptr,vs_cons,vs_view,vs_mview,vs_mapb,fget,isLB,bget,vsubP_self,↓reduceIte,reduceCtorEq,Nat.reduceEqDiff,Nat.reduceLT,Int.cast_ofNat_Int,and_true,true_and,and_self,forall_const,implies_true,Option.some.injEq,exists_eq',keepF,appF,updB]
        try
          intro k _
          by_cases e3 : k = 3
          · simp only [e3,hasB,vs_nil,vs_ptr,vs_cons,vs_agg,vs_func,bget,↓reduceIte,Nat.reduceEqDiff,and_self,Option.some.injEq,exists_eq']
          · by_cases e2 : k = 2
            · simp only [e2,hasB,vs_nil,vs_ptr,vs_cons,vs_agg,vs_func,bget,↓reduceIte,Nat.reduceEqDiff,Int.reduceEq,and_self,Option.some.injEq,exists_eq']
            · by_cases e1 : k = 1
              · simp only [e1,hasB,vs_nil,vs_ptr,vs_cons,vs_agg,vs_func,bget,↓reduceIte,Nat.reduceEqDiff,Int.reduceEq,and_self,Option.some.injEq,exists_eq']
              · simp only [e1,e2,e3,vs_und,↓reduceIte]) fun z hz => ?_
      obtain ⟨hz1,hz2⟩ := hz
      by_cases hzl : z < d.1
      · have fz : ((z : Int) < (d.1 : Int)) = True := eq_true (by omega)
        have hbz := hb z hzl
        have e2 : IntKind.i64.wrap (d.2 z + g.hatch) = d.2 z + g.hatch := wr64 (by omega) (by omega)
        have p1 : PlOk (g.places.2 z) := hg.pl z (by omega)
        have hgo : ¬ (d.2 z ≤ (l.2 j).day - g.hatch ∧ nearP (g.places.2 z) (l.2 j).trap (l.2 j).near) → ∀ i,i < z + 1 → ¬ (d.2 i ≤ (l.2 j).day - g.hatch ∧ nearP (g.places.2 i) (l.2 j).trap (l.2 j).near) := fun h i hi => by
          rcases Nat.lt_or_ge i z with h5 | h5
          · exact hz2 i h5
          · obtain rfl : i = z := by omega
            exact h
        by_cases hda : d.2 z + g.hatch ≤ (l.2 j).day
        · have f3 := eq_true hda
          by_cases hN : nearP (g.places.2 z) (l.2 j).trap (l.2 j).near
          · have f4 := decP_t hN
            have nx := nx0 (hF.2 ⟨z,by omega,by omega,hN⟩)
            simp only [sNear,fz,e2,f3,f4,p1,ht,hne,↓imp_tt,↓imp_tf,↓imp_ft,↓imp_ff,runO_3,runO_4,runO_5,runO_6,runO_8,runO_14,runO_16,runO_17,runO_18,runO_19,aop,binV,ends,ev,fget,fput,cellsOf,isLB,vget,vlen,bget,addB,addN,mkv,sliceV,vtab,frz,opOwns,preFz,callFz,skipOp,WfT,resV,res1,casts,castOks,cast1,castOk,norm,norms,norm1,normL,pureB,pureL,specV,argsL,capsL,mkE_S,mkE_I,lkp,pickV,stkFr,stkNx,Val.toInt,↓reduceIte,reduceCtorEq,Nat.reduceEqDiff,Nat.reduceAdd,Nat.reduceLeDiff,Nat.zero_add,Nat.add_zero,Int.reduceNeg,decide_true,List.length_cons,List.length_nil,List.append_nil,Bool.and_self,bne_self_eq_false,Bool.not_true,and_true,true_and,and_self,and_assoc,forall_const,imp_self,implies_true,Nat.le_refl,keepF,appF,updB,inat,spec3,TInt,IsInt,Pl.L,Pl.c0,Pl.c1,Pl.Is,Pl.of,TPl,Pl.d,Pl.eta]
            repeat' (first | omega | (with_reducible apply And.intro) | intro _)
            refine inv_intro (j + 1) ⟨by omega,nx⟩ (by omega) ?_
            simp only [Chk,chkFr,chkBx,chkBx1,hasB,idsLt,kept,vs_int,vs_nil,vs_ptr,vs_cons,vs_func,vs_view,vs_mview,vs_mapb,Nat.lt_irrefl,fget,isLB,bget,vsubP_self,↓reduceIte,reduceCtorEq,Nat.reduceEqDiff,Nat.reduceLT,and_true,true_and,and_self,forall_const,implies_true,Option.some.injEq,Val.int.injEq,exists_eq',false_implies]
            rw [wrS (by omega)]
            refine ⟨rfl,?_⟩
            intro k _
            by_cases e3 : k = 3
            · simp only [e3,hasB,vs_nil,vs_ptr,vs_cons,vs_agg,vs_func,bget,↓reduceIte,Nat.reduceEqDiff,and_self,Option.some.injEq,exists_eq']
            · by_cases e2 : k = 2
              · simp only [e2,hasB,vs_nil,vs_ptr,vs_cons,vs_agg,vs_func,bget,↓reduceIte,Nat.reduceEqDiff,Int.reduceEq,and_self,Option.some.injEq,exists_eq']
              · by_cases e1 : k = 1
                · simp only [e1,hasB,vs_nil,vs_ptr,vs_cons,vs_agg,vs_func,bget,↓reduceIte,Nat.reduceEqDiff,Int.reduceEq,and_self,Option.some.injEq,exists_eq']
                · simp only [e1,e2,e3,vs_und,↓reduceIte]
          · have f4 := decP_f hN
            simp only [sNear,fz,e2,f3,f4,p1,ht,hne,↓imp_tt,↓imp_tf,↓imp_ft,↓imp_ff,runO_4,runO_5,runO_6,runO_8,runO_14,runO_16,runO_17,runO_18,runO_19,aop,binV,ev,fget,fput,cellsOf,isLB,vget,vlen,bget,addB,addN,mkv,sliceV,vtab,frz,opOwns,preFz,callFz,skipOp,WfT,casts,castOks,cast1,castOk,norm,norms,norm1,normL,pureB,pureL,specV,argsL,capsL,mkE_S,mkE_I,lkp,pickV,stkFr,stkNx,Val.toInt,↓reduceIte,reduceCtorEq,Nat.reduceEqDiff,Nat.reduceAdd,Nat.reduceLeDiff,Nat.zero_add,Nat.add_zero,Int.reduceNeg,decide_true,List.length_cons,List.length_nil,List.append_nil,Bool.and_self,bne_self_eq_false,and_true,true_and,and_self,and_assoc,forall_const,imp_self,implies_true,Nat.le_refl,keepF,appF,updB,inat,spec3,TInt,IsInt,Pl.L,Pl.c0,Pl.c1,Pl.Is,Pl.of,TPl,Pl.d,Pl.eta]
            repeat' (first | omega | (with_reducible apply And.intro) | intro _)
            refine inv_intro (z + 1) ⟨by omega,hgo fun h => hN h.2⟩ (by omega) ?_
            simp only [Chk,chkFr,chkBx,chkBx1,hasB,idsLt,kept,vs_int,vs_nil,vs_ptr,vs_cons,vs_view,vs_mview,vs_mapb,fget,isLB,bget,vsubP_self,↓reduceIte,reduceCtorEq,Nat.reduceEqDiff,Nat.reduceLT,and_true,true_and,and_self,forall_const,implies_true,Option.some.injEq,Val.int.injEq,exists_eq']
            rw [wrS (by omega)]
            try (refine ⟨rfl,?_⟩)
            try
              intro k _
              by_cases e3 : k = 3
              · simp only [e3,hasB,vs_nil,vs_ptr,vs_cons,vs_agg,vs_func,bget,↓reduceIte,Nat.reduceEqDiff,and_self,Option.some.injEq,exists_eq']
              · by_cases e2 : k = 2
                · simp only [e2,hasB,vs_nil,vs_ptr,vs_cons,vs_agg,vs_func,bget,↓reduceIte,Nat.reduceEqDiff,Int.reduceEq,and_self,Option.some.injEq,exists_eq']
                · by_cases e1 : k = 1
                  · simp only [e1,hasB,vs_nil,vs_ptr,vs_cons,vs_agg,vs_func,bget,↓reduceIte,Nat.reduceEqDiff,Int.reduceEq,and_self,Option.some.injEq,exists_eq']
                  · simp only [e1,e2,e3,vs_und,↓reduceIte]
        · have f3 := eq_false hda
          simp only [fz,e2,f3,↓imp_tt,↓imp_tf,↓imp_ft,↓imp_ff,runO_4,runO_5,runO_6,runO_8,runO_14,runO_16,runO_17,runO_18,runO_19,aop,binV,Nat.zero_sub,ev,fget,fput,vget,vlen,bget,addB,addN,mkv,sliceV,vtab,frz,opOwns,preFz,skipOp,WfT,casts,castOks,cast1,castOk,pickV,stkFr,stkNx,Val.toInt,↓reduceIte,reduceCtorEq,Nat.reduceEqDiff,Nat.reduceAdd,Nat.reduceSub,Nat.reduceLeDiff,Nat.zero_add,Nat.add_zero,Int.reduceNeg,decide_true,decide_false,List.length_cons,List.length_nil,Bool.bne_true,Bool.not_false,and_true,true_and,and_self,forall_const,Nat.le_refl,keepF,appF,updB,inat]
          repeat' (first | omega | (with_reducible apply And.intro) | intro _)
          refine inv_intro (z + 1) ⟨by omega,hgo fun h => hda (by omega)⟩ (by omega) ?_
          simp only [Chk,chkFr,chkBx,chkBx1,hasB,idsLt,kept,vs_int,vs_nil,vs_ptr,vs_cons,vs_view,vs_mview,vs_mapb,fget,isLB,bget,vsubP_self,↓reduceIte,reduceCtorEq,Nat.reduceEqDiff,Nat.reduceLT,and_true,true_and,and_self,forall_const,implies_true,Option.some.injEq,Val.int.injEq,exists_eq']
          rw [wrS (by omega)]
          try (refine ⟨rfl,?_⟩)
          try
            intro k _
            by_cases e3 : k = 3
            · simp only [e3,hasB,vs_nil,vs_ptr,vs_cons,vs_agg,vs_func,bget,↓reduceIte,Nat.reduceEqDiff,and_self,Option.some.injEq,exists_eq']
            · by_cases e2 : k = 2
              · simp only [e2,hasB,vs_nil,vs_ptr,vs_cons,vs_agg,vs_func,bget,↓reduceIte,Nat.reduceEqDiff,Int.reduceEq,and_self,Option.some.injEq,exists_eq']
              · by_cases e1 : k = 1
                · simp only [e1,hasB,vs_nil,vs_ptr,vs_cons,vs_agg,vs_func,bget,↓reduceIte,Nat.reduceEqDiff,Int.reduceEq,and_self,Option.some.injEq,exists_eq']
                · simp only [e1,e2,e3,vs_und,↓reduceIte]
      · have fz : ((z : Int) < (d.1 : Int)) = False := eq_false (by omega)
        have em := no fun h => by
          obtain ⟨i,h1,h2,h3⟩ := hF.1 h
          exact hz2 i (by omega) ⟨h2,h3⟩
        simp only [fz,em,↓imp_tt,↓imp_tf,↓imp_ft,↓imp_ff,runO_3,runO_5,runO_9,runO_14,runO_17,runO_18,runO_19,aop,binV,ends,ev,fget,fput,addB,addN,frz,opOwns,preFz,skipOp,WfT,resV,res1,snapV,snapOk,popTo,stkFr,stkNx,↓reduceIte,reduceCtorEq,Nat.reduceEqDiff,Int.reduceNeg,decide_false,Bool.not_false,and_self,forall_const,keepF,appF,updB]
        try omega
  · have fj : ((j : Int) < (l.1 : Int)) = False := eq_false (by omega)
    have em := mis_no (g := g) (l := l) (d := d.2) fun i hi => hj2 i (by omega)
    simp only [fj,em,↓imp_ft,↓imp_ff,runO_3,runO_5,runO_9,runO_14,runO_17,runO_18,runO_19,aop,binV,ends,ev,fget,fput,addB,addN,frz,opOwns,preFz,skipOp,WfT,resV,res1,snapV,snapOk,popTo,stkFr,stkNx,↓reduceIte,reduceCtorEq,Nat.reduceEqDiff,Int.reduceNeg,decide_false,and_self,forall_const,keepF,appF,updB]
end Go.Proofs.Ytpknbojgkkmonaa
