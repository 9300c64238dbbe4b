/- Groves, the program: open. No condition. -/
import Derived.Test.YtpknbojgkkmonaaWPlot
set_option linter.unusedSimpArgs false
set_option linter.unusedVariables false
namespace Go.Proofs.Ytpknbojgkkmonaa
open Go Go.RowKit
variable {G : Nat → Option (Nat × (Nat → Val))}
theorem vs_nilm (N D : Nat → Prop) (v : Val) : vsub N D .nilm v = (v = .nilm) := rfl
theorem vp_nilm (v : Val) : vsubP .nilm v = (v = .nilm) := rfl
def ptZ : Val := .agg (.cons .nils (.cons .nils (.cons (.int .i64 0) (.cons (.int .i64 0) (.cons (.int .i64 0) (.cons (.int .i64 0) (.cons .nils (.cons .nilm .nil))))))))
noncomputable def ptV (g : Gv) (e : Int) : Val := if e = 0 then .agg (Pt.L g) else ptZ
theorem ptV_0 (g : Gv) : ptV g 0 = .agg (Pt.L g) := rfl
theorem ptV_no {g : Gv} {e : Int} (h : e ≠ 0) : ptV g e = ptZ := if_neg h
def NumP (g : Gv) : Prop := g.places.1 = g.palms.1 ∧ (0 ≤ g.reach ∧ g.reach ≤ 10000) ∧ (1 ≤ g.hatch ∧ g.hatch ≤ 1000) ∧ (0 ≤ g.shows ∧ g.shows ≤ 1000) ∧ 0 ≤ g.start ∧ g.start ≤ 100000
noncomputable def sOpen : Spec := spec1 TGv (fun _ => True) fun g => .tup (.cons (ptV g (gvE g)) (.cons (.int .i64 (gvE g)) .nil))
set_option maxHeartbeats 2000000 in
set_option maxRecDepth 100000 in
theorem pOpen : PureOk Try.prog G 55 sOpen := by
  refine fn1 (S := [(73,sCheck7),(63,sInP),(77,sPlaced)]) (I := [(74,a74),(75,a75),(76,a76),(78,a78),(79,a79),(95,a95),(96,a96)]) mixed (.cons pPalmCheck (.cons pInP (.cons pPlaced .nil))) (.cons Try.func74 c74 (.cons Try.func75 c75 (.cons Try.func76 c76 (.cons Try.func78 c78 (.cons Try.func79 c79 (.cons Try.func95 c95 (.cons Try.func96 c96 .nil))))))) Try.func55 c55 fun g _ hw => ?_
  simp only [vl,WfT,Val.toInt,Nat.reduceSub,and_true,true_and,maxLen,Nat.reducePow,RInt,RPm,Pm.d,RPl,Pl.d,Gv.L,TGv] at hw
  obtain ⟨w1,w2,w3⟩ := hw
  by_cases hp : ¬ PmsOk g.palms
  · have ep := pmE_no hp
    have eg := gvE_pm hp
    have ez := ptV_no (g := g) (e := 70) (by omega)
    simp only [RunTo,a55,sCheck7,ep,eg,ez,ptZ,w1,↓imp_tt,↓imp_tf,runO_3,runO_5,runO_14,runO_17,runO_18,runO_19,aop,binV,ends,reOk,Nat.zero_sub,ev,fget,fput,params,cellsOf,cellsN,isLB,vget,vset,vsets,vlen,bget,bset,addB,addN,mkv,sliceV,vtab,fillV,fillOk,frz,opOwns,preFz,callFz,skipOp,WfT,resV,resL,res1,norm,norm1,normL,pureB,pureL,onesB,snapV,snapOk,specV,argsL,capsL,mkE_S,mkE_I,lkp,Fin,vsubP_self,Val.toInt,Val.slen,Val.scell,↓reduceIte,reduceCtorEq,Nat.reduceEqDiff,Nat.reduceAdd,Nat.reduceSub,Nat.reduceLeDiff,Nat.zero_add,Nat.add_zero,Int.reduceNeg,Int.reduceBNe,List.length_cons,List.length_nil,List.append_nil,Bool.and_self,and_true,and_self,forall_const,implies_true,Nat.le_refl,maxLen,Nat.reducePow,spec1,TSl,IsSl,RInt,Prod.eta,Pm.c0,Pm.c1,Pm.c2,Pm.c3,Pm.c4,RPm,Pm.w_c,Pm.d,Pm.eta,RPl,Pl.d,Gv.L,TGv,toUI_val]
  replace hp := Classical.not_not.1 hp
  have ep := pmE_ok hp
  have hn := hp.n
  have hno : ¬ GvOk g → gvE g = 90 := fun h => gvE_no hp h
  simp only [RunTo,a55,sCheck7,ep,w1,w2,w3,↓imp_ft,↓imp_ff,runO_4,runO_5,runO_6,runO_14,runO_15,runO_17,runO_18,runO_19,aop,binV,reOk,Nat.zero_sub,ev,fget,fput,params,cellsOf,cellsN,isLB,vget,vset,vsets,vlen,bget,bset,addB,addN,mkv,sliceV,vtab,fillV,fillOk,frz,opOwns,preFz,callFz,skipOp,WfT,norm,norm1,normL,pureB,pureL,onesB,specV,argsL,capsL,mkE_S,mkE_I,lkp,lenV,Fin,Val.toInt,Val.slen,Val.scell,↓reduceIte,reduceCtorEq,Nat.reduceEqDiff,Nat.reduceAdd,Nat.reduceSub,Nat.reduceLeDiff,Nat.zero_add,Nat.add_zero,Int.reduceNeg,List.length_cons,List.length_nil,List.append_nil,Bool.and_self,bne_self_eq_false,and_true,true_and,and_self,forall_const,implies_true,Nat.le_refl,maxLen,Nat.reducePow,spec1,TSl,IsSl,RInt,Prod.eta,Pm.c0,Pm.c1,Pm.c2,Pm.c3,Pm.c4,RPm,Pm.w_c,Pm.d,Pm.eta,RPl,Pl.d,Gv.L,TGv,toUI_val]
  refine loopI (ι := Nat) (fun j => j ≤ g.palms.1) (fun j => g.palms.1 - j) [1,2,5,22,23] (fun j => [(24,.int .i64 j)]) (fun j => [(2,.mp .i64 (hasF g.palms.2 j) fun k => .int .i64 (lstF g.palms.2 j k))]) 0 (by omega) (by simp only [hasF,lstF,vs_nilm,Chk,chkFr,chkBx,chkBx1,hasB,idsLt,kept,vs_int,vs_nil,vs_nils,vs_ptr,vs_cons,vs_view,vs_mapb,fget,isLB,bget,bset,vsubP_self,↓reduceIte,reduceCtorEq,Nat.reduceEqDiff,Nat.reduceLT,Int.cast_ofNat_Int,Bool.false_eq_true,and_self,forall_const,imp_self,implies_true,Option.some.injEq,exists_eq',keepF,appF,updB]; try simp) fun j hj => ?_
  by_cases hjl : j < g.palms.1
  · have fj : ((j : Int) < (g.palms.1 : Int)) = True := eq_true (by omega)
    simp only [fj,noIt,↓imp_tt,↓imp_tf,runO_4,runO_5,runO_6,runO_8,runO_14,runO_16,runO_17,runO_18,runO_19,aop,binV,reOk,Nat.zero_sub,ev,fget,fput,cellsOf,cellsN,isLB,vget,vset,vsets,vlen,bget,bset,addB,addN,mkv,sliceV,vtab,frz,opOwns,preFz,skipOp,WfT,casts,castOks,cast1,castOk,onesB,stkFr,stkNx,Val.toInt,↓reduceIte,Nat.reduceEqDiff,Nat.reduceAdd,Nat.reduceLeDiff,Nat.zero_add,Nat.add_zero,Int.reduceNeg,decide_true,List.length_cons,List.length_nil,Bool.and_self,and_true,true_and,and_self,forall_const,Nat.le_refl,keepF,appF,updB,inat,Pm.c0,Pm.c1,Pm.c2,Pm.c3,Pm.c4]
    refine ⟨by omega,inv_intro (j + 1) (by omega) (by omega) ?_⟩
    simp only [hasF,lstF,vs_nilm,Chk,chkFr,chkBx,chkBx1,hasB,idsLt,kept,vs_int,vs_nil,vs_nils,vs_ptr,vs_cons,vs_view,vs_mapb,Nat.lt_irrefl,fget,isLB,bget,vsubP_self,↓reduceIte,reduceCtorEq,Nat.reduceEqDiff,Nat.reduceLT,and_true,true_and,and_self,forall_const,implies_true,Option.some.injEq,Val.int.injEq,exists_eq',false_implies]
    rw [wrS (by omega)]
    repeat' (first | omega | (with_reducible apply And.intro) | intro _)
    all_goals first
      | rfl
      | (split <;> rfl)
  have fj : ((j : Int) < (g.palms.1 : Int)) = False := eq_false (by omega)
  obtain rfl : j = g.palms.1 := by omega
  by_cases hN : NumP g
  · obtain ⟨n1,n2,n3,n4,n5⟩ := hN
    have f1 : ((g.places.1 : Int) = (g.palms.1 : Int)) = True := eq_true (by omega)
    have f2 : (0 ≤ g.reach ∧ g.reach ≤ 10000) = True := eq_true n2
    have f3 : (1 ≤ g.hatch ∧ g.hatch ≤ 1000) = True := eq_true n3
    have f4 : (0 ≤ g.shows ∧ g.shows ≤ 1000) = True := eq_true n4
    have f5 : (0 ≤ g.start ∧ g.start ≤ 100000) = True := eq_true n5
    simp only [sInP,fj,f1,w1,w2,flatO,↓imp_tt,↓imp_tf,↓imp_ft,↓imp_ff,runO_3,runO_5,runO_9,runO_14,runO_17,runO_18,runO_19,aop,binV,ends,reOk,Nat.zero_sub,ev,evs,fget,fput,params,cellsOf,cellsN,isLB,vget,vset,vsets,vlen,bget,bset,addB,addN,mkv,sliceV,vtab,fillV,fillOk,rowsV,rowsOk,vrep,frz,opOwns,preFz,callFz,owns,skipOp,WfT,resV,resL,res1,norm,norm1,normL,pureB,pureL,flatB,onesB,snapV,snapOk,snapL,snapOks,specV,argsL,capsL,mkE_S,mkE_I,mkE_G,lkp,pickV,lenV,popTo,stkFr,stkNx,vp_int,vp_cons,vp_tup,vsubP_self,Val.toInt,Val.slen,Val.scell,↓reduceIte,reduceCtorEq,Nat.reduceEqDiff,Nat.reduceAdd,Nat.reduceSub,Nat.reduceLeDiff,Nat.reduceLT,Nat.zero_add,Nat.add_zero,Int.reduceNeg,decide_false,beq_iff_eq,beq_eq_false_iff_ne,List.length_cons,List.length_nil,List.append_nil,List.flatMap_cons,List.flatMap_nil,Bool.not_eq_true',Bool.not_eq_false',Bool.and_true,Bool.and_false,Bool.and_self,Bool.bne_true,Bool.bne_false,bne_self_eq_false,Bool.not_true,Bool.not_false,and_true,true_and,and_self,forall_const,Nat.le_refl,Val.int.injEq,ne_eq,false_implies,not_true_eq_false,maxLen,Nat.reducePow,keepF,appF,updB,spec3,TSl,IsSl,TInt,IsInt,RInt]
    simp only [lt1,allB_1,f2,f3,f4,f5,a75,a95,w2,runO_5,runO_6,runO_15,runO_17,runO_18,runO_19,aop,ev,fget,fput,params,isLB,vget,addB,addN,frz,opOwns,preFz,skipOp,WfT,argsL,capsL,mkE_S,mkE_I,lkp,lenV,↓reduceIte,reduceCtorEq,Nat.reduceEqDiff,Nat.reduceSub,Nat.zero_add,Int.reduceNeg,decide_true,List.append_nil,Bool.not_true,Bool.true_eq_false,and_true,true_and,forall_const,false_implies,maxLen,Nat.reducePow]
    refine loopI (ι := Nat) (fun j => j ≤ g.places.1 ∧ ∀ i,i < j → PlOk (g.places.2 i)) (fun j => g.places.1 - j) [0,1,7] (fun j => [(8,.int .i64 j)]) (fun _ => []) 0 ⟨by omega,fun i h => by omega⟩ (by simp only [vs_nilm,Chk,chkFr,chkBx,chkBx1,hasB,idsLt,kept,vs_int,vs_nil,vs_nils,vs_ptr,vs_cons,vs_func,vs_view,vs_mapb,fget,isLB,bget,vsubP_self,↓reduceIte,reduceCtorEq,Nat.reduceEqDiff,Nat.reduceLT,Int.cast_ofNat_Int,Int.reduceNeg,and_self,forall_const,implies_true,Option.some.injEq,exists_eq',keepF,appF,updB]; try simp) fun j hj => ?_
    obtain ⟨hj1,hj2⟩ := hj
    by_cases hjl : j < g.places.1
    · have fj : ((j : Int) < (g.places.1 : Int)) = True := eq_true (by omega)
      by_cases hpl : PlOk (g.places.2 j)
      · have e1 := decP_t hpl
        simp only [a76,sPlaced,e1,fj,w2,↓imp_tt,↓imp_tf,↓imp_ft,↓imp_ff,runO_3,runO_4,runO_5,runO_6,runO_8,runO_14,runO_16,runO_17,runO_18,runO_19,aop,binV,ends,ev,fget,fput,params,cellsOf,cellsN,isLB,vget,vlen,bget,addB,addN,mkv,sliceV,vtab,frz,opOwns,preFz,callFz,skipOp,WfT,resV,res1,casts,castOks,cast1,castOk,norm,norms,norm1,normL,pureB,pureL,specV,argsL,capsL,mkE_S,mkE_I,lkp,stkFr,stkNx,Val.toInt,↓reduceIte,reduceCtorEq,Nat.reduceEqDiff,Nat.reduceAdd,Nat.reduceSub,Nat.zero_add,Int.reduceNeg,decide_true,List.length_cons,List.length_nil,List.append_nil,Bool.and_self,Bool.not_true,and_true,true_and,and_self,forall_const,imp_self,implies_true,Nat.le_refl,maxLen,Nat.reducePow,keepF,appF,updB,inat,spec1,Pl.L,Pl.c0,Pl.c1,Pl.Is,Pl.of,TPl,Pl.d,Pl.eta]
        refine ⟨by omega,inv_intro (j + 1) ⟨by omega,fun i hi => ?_⟩ (by omega) ?_⟩
        · rcases Nat.lt_or_ge i j with h5 | h5
          · exact hj2 i h5
          · obtain rfl : i = j := by omega
            exact hpl
        · simp only [vs_nilm,Chk,chkFr,chkBx,chkBx1,hasB,idsLt,kept,vs_int,vs_nil,vs_nils,vs_ptr,vs_cons,vs_func,vs_view,vs_mapb,Nat.lt_irrefl,fget,isLB,bget,vsubP_self,↓reduceIte,reduceCtorEq,Nat.reduceEqDiff,Nat.reduceLT,Int.reduceNeg,and_true,true_and,and_self,forall_const,implies_true,Option.some.injEq,Val.int.injEq,exists_eq',false_implies]
          rw [wrS (by omega)]
      · have e1 := decP_f hpl
        have eg : gvE g = 90 := hno fun k => hpl (k.pl j hjl)
        have ez := ptV_no (g := g) (e := 90) (by omega)
        have fg : ((j : Int) ≥ 0) = True := eq_true (by omega)
        simp only [a76,sPlaced,e1,fj,eg,ez,fg,ptZ,w2,↓imp_tt,↓imp_tf,runO_3,runO_4,runO_5,runO_6,runO_14,runO_17,runO_18,runO_19,aop,binV,ends,reOk,Nat.zero_sub,ev,fget,fput,params,cellsOf,cellsN,isLB,vget,vset,vsets,vlen,bget,bset,addB,addN,mkv,sliceV,vtab,fillV,fillOk,frz,opOwns,preFz,callFz,skipOp,WfT,resV,resL,res1,casts,castOks,cast1,castOk,norm,norms,norm1,normL,pureB,pureL,onesB,snapV,snapOk,specV,argsL,capsL,mkE_S,mkE_I,lkp,pickV,stkFr,stkNx,vsubP_self,Val.toInt,↓reduceIte,reduceCtorEq,Nat.reduceEqDiff,Nat.reduceAdd,Nat.reduceSub,Nat.zero_add,Int.reduceNeg,decide_true,List.length_cons,List.length_nil,List.append_nil,Bool.and_self,Bool.bne_false,Bool.not_false,and_true,and_self,forall_const,imp_self,implies_true,Nat.le_refl,maxLen,Nat.reducePow,keepF,appF,updB,inat,spec1,Pl.L,Pl.c0,Pl.c1,Pl.Is,Pl.of,TPl,Pl.d,Pl.eta]
        try omega
    · have fj : ((j : Int) < (g.places.1 : Int)) = False := eq_false (by omega)
      have hpls : ∀ i,i < g.places.1 → PlOk (g.places.2 i) := fun i hi => hj2 i (by omega)
      have fm : ((-1 : Int) ≥ 0) = False := eq_false (by omega)
      simp only [fj,fm,a78,a96,w3,↓imp_ft,↓imp_ff,runO_3,runO_5,runO_6,runO_9,runO_14,runO_15,runO_17,runO_18,runO_19,aop,binV,ends,ev,evs,fget,fput,params,isLB,vget,vlen,bget,addB,addN,mkv,sliceV,vtab,frz,opOwns,preFz,skipOp,WfT,resV,res1,argsL,capsL,mkE_S,mkE_I,lkp,pickV,lenV,popTo,stkFr,stkNx,↓reduceIte,reduceCtorEq,Nat.reduceEqDiff,Nat.reduceAdd,Nat.reduceSub,Nat.zero_add,Int.reduceNeg,decide_false,List.length_cons,List.length_nil,List.append_nil,bne_self_eq_false,true_and,and_self,forall_const,Nat.le_refl,maxLen,Nat.reducePow,keepF,appF,updB]
      refine loopI (ι := Nat) (fun z => z ≤ g.sus.1 ∧ ∀ i,i < z → hitN g.palms (g.sus.2 i) < g.palms.1 ∧ (g.palms.2 (hitN g.palms (g.sus.2 i))).planted ≤ g.start ∧ (0 < i → g.sus.2 (i - 1) < g.sus.2 i)) (fun z => g.sus.1 - z) [0,1,7] (fun z => [(8,.int .i64 z)]) (fun z => [(4,.cells (.cons (.int .i64 (if z = 0 then -1 else g.sus.2 (z - 1))) .nil))]) 0 ⟨by omega,fun i h => by omega⟩ (by simp only [vs_nilm,Chk,chkFr,chkBx,chkBx1,hasB,idsLt,kept,vs_int,vs_nil,vs_nils,vs_ptr,vs_cons,vs_func,vs_view,vs_mapb,fget,isLB,bget,bset,vsubP_self,↓reduceIte,reduceCtorEq,Nat.reduceEqDiff,Nat.reduceLT,Int.cast_ofNat_Int,Int.reduceNeg,and_self,forall_const,implies_true,Option.some.injEq,exists_eq',keepF,appF,updB]; try simp) fun z hz => ?_
      obtain ⟨hz1,hz2⟩ := hz
      by_cases hzl : z < g.sus.1
      · have fz : ((z : Int) < (g.sus.1 : Int)) = True := eq_true (by omega)
        have fz0 : ((z : Int) ≥ 0) = True := eq_true (by omega)
        have hlast : hitN g.palms (g.sus.2 z) < g.palms.1 → ((if z = 0 then (-1 : Int) else g.sus.2 (z - 1)) < g.sus.2 z ↔ (0 < z → g.sus.2 (z - 1) < g.sus.2 z)) := fun h => by
          rcases hit_spec g.palms (g.sus.2 z) with ⟨h1,h2⟩ | ⟨h1,_⟩
          · have := (hp.id _ h1).1
            split <;> omega
          · omega
        generalize hla : (if z = 0 then (-1 : Int) else g.sus.2 (z - 1)) = last at hlast ⊢
        have ez := ptV_no (g := g) (e := 90) (by omega)
        cases hm : hasF g.palms.2 g.palms.1 (g.sus.2 z) with
        | true =>
          have hh : hitN g.palms (g.sus.2 z) < g.palms.1 := hasP_hit.1 hm
          have el : lstF g.palms.2 g.palms.1 (g.sus.2 z) = hitN g.palms (g.sus.2 z) := hp.lst hm
          have hl := hlast hh
          by_cases hg : (0 < z → g.sus.2 (z - 1) < g.sus.2 z) ∧ (g.palms.2 (hitN g.palms (g.sus.2 z))).planted ≤ g.start
          · have f6 : (g.sus.2 z > last) = True := eq_true (hl.2 hg.1)
            have f7 : ((g.palms.2 (hitN g.palms (g.sus.2 z))).planted ≤ g.start) = True := eq_true hg.2
            simp only [a79,a74,hm,el,fz,f6,f7,w3,↓imp_tt,↓imp_tf,↓imp_ft,↓imp_ff,runO_3,runO_4,runO_5,runO_6,runO_8,runO_14,runO_16,runO_17,runO_18,runO_19,aop,binV,ends,reOk,Nat.zero_sub,ev,fget,fput,params,cellsOf,cellsN,isLB,vget,vset,vsets,vlen,bget,bset,addB,addN,mkv,sliceV,vtab,frz,opOwns,preFz,skipOp,WfT,resV,res1,casts,castOks,cast1,castOk,onesB,argsL,capsL,mkE_S,mkE_I,lkp,pickV,mgetV,stkFr,stkNx,Val.toInt,↓reduceIte,reduceCtorEq,Nat.reduceEqDiff,Nat.reduceAdd,Nat.reduceSub,Nat.reduceLeDiff,Nat.reduceLT,Nat.zero_add,Nat.add_zero,Int.reduceNeg,decide_true,List.length_cons,List.length_nil,List.nil_append,List.cons_append,Bool.and_self,bne_self_eq_false,Bool.not_true,and_true,true_and,and_self,and_assoc,forall_const,Nat.le_refl,maxLen,Nat.reducePow,keepF,appF,updB,inat,Pm.c2]
            refine ⟨by omega,by omega,by omega,inv_intro (z + 1) ⟨by omega,fun i hi => ?_⟩ (by omega) ?_⟩
            · rcases Nat.lt_or_ge i z with h5 | h5
              · exact hz2 i h5
              · obtain rfl : i = z := by omega
                exact ⟨hh,hg.2,hg.1⟩
            · simp only [vs_nilm,Chk,chkFr,chkBx,chkBx1,hasB,idsLt,kept,vs_int,vs_nil,vs_nils,vs_ptr,vs_cons,vs_func,vs_view,vs_mapb,fget,isLB,bget,vsubP_self,↓reduceIte,reduceCtorEq,Nat.reduceEqDiff,Nat.reduceLT,and_true,true_and,and_self,forall_const,implies_true,Option.some.injEq,Val.int.injEq,exists_eq']
              rw [wrS (by omega)]
              first | done | simp
          · have eg : gvE g = 90 := hno fun k => hg ⟨(k.sus z hzl).2.2,(k.sus z hzl).2.1⟩
            have h67 : g.sus.2 z > last → (g.palms.2 (hitN g.palms (g.sus.2 z))).planted ≤ g.start → False := fun h6 h7 => hg ⟨hl.1 h6,h7⟩
            by_cases h6 : g.sus.2 z > last
            · have f6 : (g.sus.2 z > last) = True := eq_true h6
              have f7 : ((g.palms.2 (hitN g.palms (g.sus.2 z))).planted ≤ g.start) = False := eq_false fun h7 => h67 h6 h7
              simp only [a79,a74,hm,el,fz,fz0,f6,f7,eg,ez,ptZ,w3,↓imp_tt,↓imp_tf,runO_3,runO_4,runO_5,runO_6,runO_14,runO_17,runO_18,runO_19,aop,binV,ends,reOk,Nat.zero_sub,ev,fget,fput,params,cellsOf,cellsN,isLB,vget,vset,vsets,vlen,bget,bset,addB,addN,mkv,sliceV,vtab,fillV,fillOk,frz,opOwns,preFz,skipOp,WfT,resV,resL,res1,casts,castOks,cast1,castOk,onesB,snapV,snapOk,argsL,capsL,mkE_S,mkE_I,lkp,pickV,mgetV,stkFr,stkNx,vsubP_self,Val.toInt,↓reduceIte,reduceCtorEq,Nat.reduceEqDiff,Nat.reduceAdd,Nat.reduceSub,Nat.reduceLeDiff,Nat.reduceLT,Nat.zero_add,Nat.add_zero,Int.reduceNeg,decide_true,decide_false,List.length_cons,List.length_nil,List.nil_append,List.cons_append,Bool.and_self,bne_self_eq_false,Bool.not_false,and_true,true_and,and_self,forall_const,Nat.le_refl,maxLen,Nat.reducePow,keepF,appF,updB,inat,Pm.c2]
              try omega
            · have f6 : (g.sus.2 z > last) = False := eq_false h6
              simp only [a79,a74,hm,el,fz,fz0,f6,eg,ez,ptZ,w3,↓imp_tt,↓imp_tf,↓imp_ft,↓imp_ff,runO_3,runO_4,runO_5,runO_6,runO_14,runO_17,runO_18,runO_19,aop,binV,ends,reOk,Nat.zero_sub,ev,fget,fput,params,cellsOf,cellsN,isLB,vget,vset,vsets,vlen,bget,bset,addB,addN,mkv,sliceV,vtab,fillV,fillOk,frz,opOwns,preFz,skipOp,WfT,resV,resL,res1,casts,castOks,cast1,castOk,onesB,snapV,snapOk,argsL,capsL,mkE_S,mkE_I,lkp,pickV,mgetV,stkFr,stkNx,vsubP_self,Val.toInt,↓reduceIte,reduceCtorEq,Nat.reduceEqDiff,Nat.reduceAdd,Nat.reduceSub,Nat.reduceLT,Nat.zero_add,Int.reduceNeg,decide_true,decide_false,List.length_cons,List.length_nil,List.nil_append,List.cons_append,Bool.and_self,Bool.bne_true,bne_self_eq_false,Bool.not_false,and_self,forall_const,Nat.le_refl,maxLen,Nat.reducePow,keepF,appF,updB,inat]
              try omega
        | false =>
          have hh : ¬ hitN g.palms (g.sus.2 z) < g.palms.1 := fun h => by have := hasP_hit.2 h; unfold hasP at this; rw [hm] at this; cases this
          have eg : gvE g = 90 := hno fun k => hh (k.sus z hzl).1
          simp only [a79,a74,hm,fz,fz0,eg,ez,ptZ,w3,↓imp_tt,↓imp_tf,↓imp_ft,↓imp_ff,runO_3,runO_4,runO_5,runO_6,runO_14,runO_17,runO_18,runO_19,aop,binV,ends,reOk,Nat.zero_sub,ev,fget,fput,params,cellsOf,cellsN,isLB,vget,vset,vsets,vlen,bget,bset,addB,addN,mkv,sliceV,vtab,fillV,fillOk,frz,opOwns,preFz,skipOp,WfT,resV,resL,res1,casts,castOks,cast1,castOk,onesB,snapV,snapOk,argsL,capsL,mkE_S,mkE_I,lkp,pickV,mgetV,stkFr,stkNx,vsubP_self,Val.toInt,↓reduceIte,reduceCtorEq,Nat.reduceEqDiff,Nat.reduceAdd,Nat.reduceSub,Nat.reduceLT,Nat.zero_add,Int.reduceNeg,decide_true,List.length_cons,List.length_nil,List.nil_append,List.cons_append,Bool.and_self,Bool.bne_true,Bool.not_false,and_self,forall_const,Nat.le_refl,maxLen,Nat.reducePow,keepF,appF,updB,inat]
          try omega
      · have fz : ((z : Int) < (g.sus.1 : Int)) = False := eq_false (by omega)
        have eg : gvE g = 0 := gvE_ok ⟨hp,n1,n2,n3,n4,n5,hpls,fun i hi => hz2 i (by omega)⟩
        simp only [fz,fm,eg,ptV_0,Pt.L,w1,w2,w3,↓imp_ft,↓imp_ff,runO_3,runO_4,runO_5,runO_9,runO_14,runO_17,runO_18,runO_19,aop,binV,ends,reOk,Nat.zero_sub,ev,fget,fput,cellsOf,cellsN,isLB,vget,vset,vsets,vlen,bget,bset,addB,addN,mkv,sliceV,vtab,frz,opOwns,preFz,skipOp,WfT,resV,resL,res1,onesB,snapV,snapOk,pickV,popTo,stkFr,stkNx,vp_int,vp_cons,vp_agg,vp_tup,vp_mview,vsubP_self,Val.toInt,↓reduceIte,reduceCtorEq,Nat.reduceEqDiff,Nat.reduceAdd,Nat.reduceSub,Nat.zero_add,Int.reduceNeg,decide_true,decide_false,List.length_cons,List.length_nil,Bool.and_self,and_true,true_and,and_self,forall_const,implies_true,Nat.le_refl,maxLen,Nat.reducePow,keepF,appF,updB,RInt,RPm,Pm.d,RPl,Pl.d]
        refine fun k => ⟨rfl,fun hk => ?_⟩
        have hk2 : hasF g.palms.2 g.palms.1 k = true := hk
        rw [hk2]
        rfl
  · have eg : gvE g = 90 := hno fun k => hN ⟨k.n,k.reach,k.hatch,k.shows,k.start⟩
    have ez := ptV_no (g := g) (e := 90) (by omega)
    by_cases h1 : g.places.1 = g.palms.1
    · have f1 : ((g.places.1 : Int) = (g.palms.1 : Int)) = True := eq_true (by omega)
      by_cases h2 : 0 ≤ g.reach ∧ g.reach ≤ 10000
      · by_cases h3 : 1 ≤ g.hatch ∧ g.hatch ≤ 1000
        · by_cases h4 : 0 ≤ g.shows ∧ g.shows ≤ 1000
          · have h5 : ¬ (0 ≤ g.start ∧ g.start ≤ 100000) := fun h5 => hN ⟨h1,h2,h3,h4,h5⟩
            simp only [sInP,fj,f1,w1,w2,flatO,↓imp_tt,↓imp_tf,↓imp_ft,↓imp_ff,runO_3,runO_5,runO_9,runO_14,runO_17,runO_18,runO_19,aop,binV,ends,reOk,Nat.zero_sub,ev,evs,fget,fput,params,cellsOf,cellsN,isLB,vget,vset,vsets,vlen,bget,bset,addB,addN,mkv,sliceV,vtab,fillV,fillOk,rowsV,rowsOk,vrep,frz,opOwns,preFz,callFz,owns,skipOp,WfT,resV,resL,res1,norm,norm1,normL,pureB,pureL,flatB,onesB,snapV,snapOk,snapL,snapOks,specV,argsL,capsL,mkE_S,mkE_I,mkE_G,lkp,pickV,lenV,popTo,stkFr,stkNx,vp_int,vp_cons,vp_tup,vsubP_self,Val.toInt,Val.slen,Val.scell,↓reduceIte,reduceCtorEq,Nat.reduceEqDiff,Nat.reduceAdd,Nat.reduceSub,Nat.reduceLeDiff,Nat.reduceLT,Nat.zero_add,Nat.add_zero,Int.reduceNeg,decide_false,beq_iff_eq,beq_eq_false_iff_ne,List.length_cons,List.length_nil,List.append_nil,List.flatMap_cons,List.flatMap_nil,Bool.not_eq_true',Bool.not_eq_false',Bool.and_true,Bool.and_false,Bool.and_self,Bool.bne_true,Bool.bne_false,bne_self_eq_false,Bool.not_true,Bool.not_false,and_true,true_and,and_self,forall_const,Nat.le_refl,Val.int.injEq,ne_eq,false_implies,not_true_eq_false,maxLen,Nat.reducePow,keepF,appF,updB,spec3,TSl,IsSl,TInt,IsInt,RInt]
            simp only [lt1,allB_1,eq_true h2,eq_true h3,eq_true h4,eq_false h5,eg,ez,ptZ,vget,vsubP_self,Int.reduceNeg,decide_true,decide_false,Bool.not_false,Bool.true_eq_false,Bool.false_eq_true,and_self,forall_const,implies_true,false_implies]
          · simp only [sInP,fj,f1,w1,w2,flatO,↓imp_tt,↓imp_tf,↓imp_ft,↓imp_ff,runO_3,runO_5,runO_9,runO_14,runO_17,runO_18,runO_19,aop,binV,ends,reOk,Nat.zero_sub,ev,evs,fget,fput,params,cellsOf,cellsN,isLB,vget,vset,vsets,vlen,bget,bset,addB,addN,mkv,sliceV,vtab,fillV,fillOk,rowsV,rowsOk,vrep,frz,opOwns,preFz,callFz,owns,skipOp,WfT,resV,resL,res1,norm,norm1,normL,pureB,pureL,flatB,onesB,snapV,snapOk,snapL,snapOks,specV,argsL,capsL,mkE_S,mkE_I,mkE_G,lkp,pickV,lenV,popTo,stkFr,stkNx,vp_int,vp_cons,vp_tup,vsubP_self,Val.toInt,Val.slen,Val.scell,↓reduceIte,reduceCtorEq,Nat.reduceEqDiff,Nat.reduceAdd,Nat.reduceSub,Nat.reduceLeDiff,Nat.reduceLT,Nat.zero_add,Nat.add_zero,Int.reduceNeg,decide_false,beq_iff_eq,beq_eq_false_iff_ne,List.length_cons,List.length_nil,List.append_nil,List.flatMap_cons,List.flatMap_nil,Bool.not_eq_true',Bool.not_eq_false',Bool.and_true,Bool.and_false,Bool.and_self,Bool.bne_true,Bool.bne_false,bne_self_eq_false,Bool.not_true,Bool.not_false,and_true,true_and,and_self,forall_const,Nat.le_refl,Val.int.injEq,ne_eq,false_implies,not_true_eq_false,maxLen,Nat.reducePow,keepF,appF,updB,spec3,TSl,IsSl,TInt,IsInt,RInt]
            simp only [lt1,allB_1,eq_true h2,eq_true h3,eq_false h4,eg,ez,ptZ,vget,vsubP_self,Int.reduceNeg,decide_true,decide_false,Bool.true_eq_false,Bool.false_eq_true,true_and,and_self,forall_const,implies_true,decide_eq_true_eq,decide_eq_false_iff_not,false_implies]
        · simp only [sInP,fj,f1,w1,w2,flatO,↓imp_tt,↓imp_tf,↓imp_ft,↓imp_ff,runO_3,runO_5,runO_9,runO_14,runO_17,runO_18,runO_19,aop,binV,ends,reOk,Nat.zero_sub,ev,evs,fget,fput,params,cellsOf,cellsN,isLB,vget,vset,vsets,vlen,bget,bset,addB,addN,mkv,sliceV,vtab,fillV,fillOk,rowsV,rowsOk,vrep,frz,opOwns,preFz,callFz,owns,skipOp,WfT,resV,resL,res1,norm,norm1,normL,pureB,pureL,flatB,onesB,snapV,snapOk,snapL,snapOks,specV,argsL,capsL,mkE_S,mkE_I,mkE_G,lkp,pickV,lenV,popTo,stkFr,stkNx,vp_int,vp_cons,vp_tup,vsubP_self,Val.toInt,Val.slen,Val.scell,↓reduceIte,reduceCtorEq,Nat.reduceEqDiff,Nat.reduceAdd,Nat.reduceSub,Nat.reduceLeDiff,Nat.reduceLT,Nat.zero_add,Nat.add_zero,Int.reduceNeg,decide_false,beq_iff_eq,beq_eq_false_iff_ne,List.length_cons,List.length_nil,List.append_nil,List.flatMap_cons,List.flatMap_nil,Bool.not_eq_true',Bool.not_eq_false',Bool.and_true,Bool.and_false,Bool.and_self,Bool.bne_true,Bool.bne_false,bne_self_eq_false,Bool.not_true,Bool.not_false,and_true,true_and,and_self,forall_const,Nat.le_refl,Val.int.injEq,ne_eq,false_implies,not_true_eq_false,maxLen,Nat.reducePow,keepF,appF,updB,spec3,TSl,IsSl,TInt,IsInt,RInt]
          simp only [lt1,allB_1,eq_true h2,eq_false h3,eg,ez,ptZ,vget,vsubP_self,Int.reduceNeg,decide_true,decide_false,Bool.true_eq_false,Bool.false_eq_true,and_true,true_and,and_self,forall_const,implies_true,decide_eq_true_eq,decide_eq_false_iff_not,false_implies]
      · simp only [sInP,fj,f1,w1,w2,flatO,↓imp_tt,↓imp_tf,↓imp_ft,↓imp_ff,runO_3,runO_5,runO_9,runO_14,runO_17,runO_18,runO_19,aop,binV,ends,reOk,Nat.zero_sub,ev,evs,fget,fput,params,cellsOf,cellsN,isLB,vget,vset,vsets,vlen,bget,bset,addB,addN,mkv,sliceV,vtab,fillV,fillOk,rowsV,rowsOk,vrep,frz,opOwns,preFz,callFz,owns,skipOp,WfT,resV,resL,res1,norm,norm1,normL,pureB,pureL,flatB,onesB,snapV,snapOk,snapL,snapOks,specV,argsL,capsL,mkE_S,mkE_I,mkE_G,lkp,pickV,lenV,popTo,stkFr,stkNx,vp_int,vp_cons,vp_tup,vsubP_self,Val.toInt,Val.slen,Val.scell,↓reduceIte,reduceCtorEq,Nat.reduceEqDiff,Nat.reduceAdd,Nat.reduceSub,Nat.reduceLeDiff,Nat.reduceLT,Nat.zero_add,Nat.add_zero,Int.reduceNeg,decide_false,beq_iff_eq,beq_eq_false_iff_ne,List.length_cons,List.length_nil,List.append_nil,List.flatMap_cons,List.flatMap_nil,Bool.not_eq_true',Bool.not_eq_false',Bool.and_true,Bool.and_false,Bool.and_self,Bool.bne_true,Bool.bne_false,bne_self_eq_false,Bool.not_true,Bool.not_false,and_true,true_and,and_self,forall_const,Nat.le_refl,Val.int.injEq,ne_eq,false_implies,not_true_eq_false,maxLen,Nat.reducePow,keepF,appF,updB,spec3,TSl,IsSl,TInt,IsInt,RInt]
        simp only [lt1,allB_1,eq_false h2,eg,ez,ptZ,vget,vsubP_self,Int.reduceNeg,decide_false,Bool.false_eq_true,and_true,true_and,and_self,forall_const,implies_true,decide_eq_true_eq,decide_eq_false_iff_not,false_implies]
    · have f1 : ((g.places.1 : Int) = (g.palms.1 : Int)) = False := eq_false (by omega)
      simp only [sInP,fj,f1,eg,ez,ptZ,w1,w2,flatO,↓imp_tt,↓imp_tf,↓imp_ft,↓imp_ff,runO_3,runO_5,runO_9,runO_14,runO_17,runO_18,runO_19,aop,binV,ends,reOk,Nat.zero_sub,ev,evs,fget,fput,params,cellsOf,cellsN,isLB,vget,vset,vsets,vlen,bget,bset,addB,addN,mkv,sliceV,vtab,fillV,fillOk,rowsV,rowsOk,vrep,frz,opOwns,preFz,callFz,owns,skipOp,WfT,resV,resL,res1,norm,norm1,normL,pureB,pureL,flatB,onesB,snapV,snapOk,snapL,snapOks,specV,argsL,capsL,mkE_S,mkE_I,mkE_G,lkp,pickV,lenV,popTo,stkFr,stkNx,vsubP_self,Val.toInt,Val.slen,Val.scell,↓reduceIte,reduceCtorEq,Nat.reduceEqDiff,Nat.reduceAdd,Nat.reduceSub,Nat.reduceLeDiff,Nat.reduceLT,Nat.zero_add,Nat.add_zero,Int.reduceNeg,decide_false,beq_iff_eq,beq_eq_false_iff_ne,List.length_cons,List.length_nil,List.append_nil,List.flatMap_cons,List.flatMap_nil,Bool.not_eq_true',Bool.not_eq_false',Bool.and_true,Bool.and_false,Bool.and_self,Bool.bne_true,Bool.bne_false,bne_self_eq_false,Bool.not_true,Bool.not_false,and_true,true_and,and_self,forall_const,implies_true,Nat.le_refl,ne_eq,not_false_eq_true,false_implies,not_false_eq_true,maxLen,Nat.reducePow,keepF,appF,updB,spec3,TSl,IsSl,TInt,IsInt,RInt]
end Go.Proofs.Ytpknbojgkkmonaa
