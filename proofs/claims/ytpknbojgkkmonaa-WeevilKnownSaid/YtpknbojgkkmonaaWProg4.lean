/- Groves, the program: Check, gives. No condition but bounds. -/
import Derived.Test.YtpknbojgkkmonaaWOpen
set_option linter.unusedSimpArgs false
set_option linter.unusedVariables false
namespace Go.Proofs.Ytpknbojgkkmonaa
open Go Go.RowKit
variable {G : Nat → Option (Nat × (Nat → Val))}
noncomputable def sCheckW : Spec := spec1 TGv (fun _ => True) fun g => .int .i64 (gvE g)
set_option maxRecDepth 100000 in
theorem pCheckW : PureOk Try.prog G 26 sCheckW := by
  refine fn1 (S := [(55,sOpen)]) (I := []) mixed (.cons pOpen .nil) .nil Try.func26 c26 fun g _ hw => ?_
  simp only [vl,WfT,Val.toInt,Nat.reduceSub,and_true,true_and,maxLen,Nat.reducePow,RInt,RPm,Pm.d,RPl,Pl.d,Gv.L,TGv] at hw
  by_cases h0 : gvE g = 0
  · simp only [RunTo,a26,sOpen,h0,ptV_0,Pt.L,hw,runO_3,runO_5,runO_17,runO_18,runO_19,aop,ends,reOk,Nat.zero_sub,ev,fget,fput,params,cellsOf,cellsN,isLB,vget,vset,vsets,vlen,bget,bset,addB,addN,mkv,sliceV,vtab,frz,opOwns,preFz,callFz,skipOp,WfT,resV,res1,norm,norms,norm1,normL,pureB,pureL,onesB,snapV,snapOk,specV,argsL,capsL,mkE_S,mkE_I,lkp,Fin,vp_int,Val.toInt,Val.slen,Val.scell,↓reduceIte,reduceCtorEq,Nat.reduceEqDiff,Nat.reduceAdd,Nat.reduceSub,Nat.reduceLT,Nat.zero_add,List.length_cons,List.length_nil,List.append_nil,Bool.and_self,and_true,and_self,and_assoc,forall_const,imp_self,implies_true,Nat.le_refl,maxLen,Nat.reducePow,spec1,RInt,Prod.eta,Pm.c0,Pm.c1,Pm.c2,Pm.c3,Pm.c4,RPm,Pm.w_c,Pm.d,Pm.eta,Pl.c0,Pl.c1,RPl,Pl.w_c,Pl.d,Pl.eta,Gv.L,Gv.Is,Gv.of,TGv,Gv.d,Gv.eta,toUI_val]
  · have ez := ptV_no (g := g) h0
    simp only [RunTo,a26,sOpen,ez,ptZ,hw,runO_3,runO_5,runO_17,runO_18,runO_19,aop,ends,reOk,Nat.zero_sub,ev,fget,fput,params,cellsOf,cellsN,isLB,vget,vset,vsets,vlen,bget,bset,addB,addN,mkv,sliceV,vtab,frz,opOwns,preFz,callFz,skipOp,WfT,resV,res1,norm,norms,norm1,normL,pureB,pureL,onesB,snapV,snapOk,specV,argsL,capsL,mkE_S,mkE_I,lkp,Fin,vp_int,Val.toInt,Val.slen,Val.scell,↓reduceIte,reduceCtorEq,Nat.reduceEqDiff,Nat.reduceAdd,Nat.reduceSub,Nat.reduceLT,Nat.zero_add,List.length_cons,List.length_nil,List.append_nil,Bool.and_self,and_true,and_self,and_assoc,forall_const,imp_self,implies_true,Nat.le_refl,maxLen,Nat.reducePow,spec1,RInt,Prod.eta,Pm.c0,Pm.c1,Pm.c2,Pm.c3,Pm.c4,RPm,Pm.w_c,Pm.d,Pm.eta,Pl.c0,Pl.c1,RPl,Pl.w_c,Pl.d,Pl.eta,Gv.L,Gv.Is,Gv.of,TGv,Gv.d,Gv.eta,toUI_val]
theorem near_comm {a b : Pl} {far : Int} : nearP a b far ↔ nearP b a far := by
  unfold nearP
  have e1 : (a.x - b.x) * (a.x - b.x) = (b.x - a.x) * (b.x - a.x) := by rw [← Int.neg_mul_neg,Int.neg_sub]
  have e2 : (a.y - b.y) * (a.y - b.y) = (b.y - a.y) * (b.y - a.y) := by rw [← Int.neg_mul_neg,Int.neg_sub]
  rw [e1,e2]
theorem GvOk.lst {g : Gv} (h : GvOk g) {i : Nat} (hi : i < g.palms.1) (hl : (g.palms.2 i).mother ≠ -1) : hasP g.palms (g.palms.2 i).mother = true ∧ lstP g.palms (g.palms.2 i).mother = moF g i := by
  have hk := hasP_hit.2 (h.mo hi hl).1
  exact ⟨hk,h.pms.lst hk⟩
theorem GvOk.mo_eq {g : Gv} (h : GvOk g) {i k : Nat} (hi : i < g.palms.1) (hk : k < g.palms.1) (hl : (g.palms.2 i).mother ≠ -1) : moF g i = k ↔ (g.palms.2 i).mother = (g.palms.2 k).id := by
  obtain ⟨h1,h2,_⟩ := h.mo hi hl
  constructor
  · rintro rfl; exact h2.symm
  · intro e; exact h.pms.inj h1 hk (by rw [h2,e])
noncomputable def sGives : Spec := spec5 TPt TI TI TI TI (fun g k since i day => GvOk g ∧ (0 ≤ i ∧ i < g.palms.1) ∧ (0 ≤ k ∧ k < g.palms.1) ∧ 0 ≤ since ∧ since ≤ 100001) fun g k since i day => .bool (decP (fromP g i.toNat day k.toNat since))
set_option maxRecDepth 100000 in
theorem pGives : PureOk Try.prog G 54 sGives := by
  refine fn5 (S := [(71,sNear),(72,sLate)]) (I := []) mixed (.cons pNearP (.cons pLate .nil)) .nil Try.func54 c54 fun g k since i day hp hw => ?_
  obtain ⟨hg,hi,hk,hs⟩ := hp
  simp only [TPt,Pt.L,vl,WfT,Val.toInt,Nat.reduceSub,and_true,true_and,and_self,maxLen,Nat.reducePow,TInt,RInt,RPm,Pm.d,RPl,Pl.d] at hw
  obtain ⟨i,rfl⟩ := Int.eq_ofNat_of_zero_le hi.1
  obtain ⟨k,rfl⟩ := Int.eq_ofNat_of_zero_le hk.1
  have hn := hg.n
  have hha := hg.hatch
  have hre := hg.reach
  have p1 : PlOk (g.places.2 i) := hg.pl i (by omega)
  have p2 : PlOk (g.places.2 k) := hg.pl k (by omega)
  have e1 : IntKind.i64.wrap (since + g.hatch) = since + g.hatch := wr64 (by omega) (by omega)
  by_cases h0 : since = 100001 ∨ k = i
  · have e : decP (fromP g i day k since) = false := decP_f fun h => by have := h.1; have := h.2.1; omega
    rcases h0 with h0 | h0
    · subst h0
      simp only [RunTo,a54,TPt,Pt.L,↓imp_tt,↓imp_tf,runO_3,runO_5,runO_14,runO_17,runO_18,runO_19,aop,binV,ends,Nat.zero_sub,ev,fget,fput,params,cellsOf,cellsN,isLB,vlen,addB,addN,frz,opOwns,preFz,skipOp,WfT,resV,res1,snapV,snapOk,pickV,Fin,vp_bool,Val.toInt,↓reduceIte,reduceCtorEq,Nat.reduceEqDiff,Nat.reduceAdd,Nat.zero_add,Bool.bne_false,beq_self_eq_true,and_true,true_and,and_self,forall_const,Val.bool.injEq,inat,TInt,RInt,RPm,Pm.d,RPl,Pl.d]
      exact e.symm
    · subst h0
      simp only [RunTo,a54,TPt,Pt.L,↓imp_tt,↓imp_tf,runO_3,runO_5,runO_14,runO_17,runO_18,runO_19,aop,binV,ends,Nat.zero_sub,ev,fget,fput,params,cellsOf,cellsN,isLB,vlen,addB,addN,frz,opOwns,preFz,skipOp,WfT,resV,res1,snapV,snapOk,pickV,Fin,vp_bool,Val.toInt,↓reduceIte,reduceCtorEq,Nat.reduceEqDiff,Nat.reduceAdd,Nat.zero_add,beq_iff_eq,beq_eq_false_iff_ne,Bool.bne_false,bne_self_eq_false,beq_self_eq_true,and_true,true_and,and_self,forall_const,Val.bool.injEq,ne_eq,inat,TInt,RInt,RPm,Pm.d,RPl,Pl.d]
      first
        | exact e.symm
        | (rw [e]; simp)
  · have f1 : ((k : Int) = (i : Int)) = False := eq_false (by omega)
    have f2 : (since = 100001) = False := eq_false (by omega)
    have hF : fromP g i day k since ↔ ((since + g.hatch ≤ day ∧ nearP (g.places.2 i) (g.places.2 k) g.reach) ∨ ((g.palms.2 i).mother = (g.palms.2 k).id ∧ (g.palms.2 i).planted = day ∧ (g.palms.2 i).planted > g.start ∧ since ≤ day)) := by
      unfold fromP; exact ⟨fun h => h.2.2,fun h => ⟨by omega,by omega,h⟩⟩
    have hid := (hg.pms.id k (by omega)).1
    by_cases hN : nearP (g.places.2 k) (g.places.2 i) g.reach
    · have e2 := decP_t hN
      by_cases hl : lateP g i
      · have e3 := decP_t hl
        obtain ⟨hk1,hk2⟩ := hg.lst (by omega) hl.1
        have hq := hg.mo_eq (by omega) (k := k) (by omega) hl.1
        rw [← hq] at hF
        have hl2 := hl.2
        simp only [RunTo,a54,sNear,sLate,TPt,Pt.L,Pt.Is,Pt.of,IsAt,f1,f2,e1,e2,e3,p1,p2,hk1,hk2,↓imp_tt,↓imp_tf,↓imp_ft,↓imp_ff,runO_3,runO_4,runO_5,runO_14,runO_17,runO_18,runO_19,aop,binV,ends,Nat.zero_sub,ev,fget,fput,params,cellsOf,cellsN,isLB,vget,vlen,bget,addB,addN,mkv,sliceV,vtab,frz,opOwns,preFz,callFz,skipOp,WfT,resV,res1,casts,castOks,cast1,castOk,norm,norms,norm1,normL,pureB,pureL,snapV,snapOk,specV,argsL,capsL,mkE_S,mkE_I,lkp,pickV,mgetV,Fin,vp_bool,Val.toInt,Val.slen,Val.scell,↓reduceIte,reduceCtorEq,Nat.reduceEqDiff,Nat.reduceAdd,Nat.reduceSub,Nat.reduceLeDiff,Nat.zero_add,Nat.add_zero,beq_iff_eq,beq_eq_false_iff_ne,List.length_cons,List.length_nil,List.append_nil,Bool.and_self,Bool.bne_true,Bool.bne_false,bne_self_eq_false,Bool.not_false,and_true,true_and,and_self,and_assoc,forall_const,imp_self,implies_true,Nat.le_refl,decide_eq_true_eq,decide_eq_false_iff_not,Val.bool.injEq,ne_eq,not_false_eq_true,false_implies,not_false_eq_true,inat,spec2,spec3,TInt,IsInt,RInt,Prod.eta,Pm.c0,Pm.c1,Pm.c2,Pm.c3,Pm.c4,RPm,Pm.w_c,Pm.d,Pm.eta,Pl.L,Pl.c0,Pl.c1,Pl.Is,Pl.of,TPl,RPl,Pl.w_c,Pl.d,Pl.eta,Gv.Is,Gv.of,Gv.d,Gv.eta,toUI_val]
        repeat' (first | omega | (with_reducible apply And.intro) | intro _)
        all_goals first
          | (refine (decP_t ?_).symm; rw [hF]; first | (left; exact ⟨by omega,near_comm.1 hN⟩) | (right; omega))
          | (refine (decP_f fun h => ?_).symm; rw [hF] at h; rcases h with ⟨h,h'⟩ | h <;> first | omega | exact absurd (near_comm.1 h') hN | exact absurd ⟨by omega,by omega⟩ hl)
          | (rw [Bool.eq_iff_iff,decide_eq_true_iff,decP_true,hF]
             exact ⟨fun h => .inr (by omega),fun h => by rcases h with ⟨h,h'⟩ | h <;> first | omega | exact absurd (near_comm.1 h') hN⟩)
      · have e3 := decP_f hl
        simp only [RunTo,a54,sNear,sLate,TPt,Pt.L,Pt.Is,Pt.of,IsAt,f1,f2,e1,e2,e3,p1,p2,↓imp_tt,↓imp_tf,↓imp_ft,↓imp_ff,runO_3,runO_4,runO_5,runO_14,runO_17,runO_18,runO_19,aop,binV,ends,Nat.zero_sub,ev,fget,fput,params,cellsOf,cellsN,isLB,vget,vlen,bget,addB,addN,mkv,sliceV,vtab,frz,opOwns,preFz,callFz,skipOp,WfT,resV,res1,casts,castOks,cast1,castOk,norm,norms,norm1,normL,pureB,pureL,snapV,snapOk,specV,argsL,capsL,mkE_S,mkE_I,lkp,pickV,Fin,vp_bool,Val.toInt,Val.slen,Val.scell,↓reduceIte,reduceCtorEq,Nat.reduceEqDiff,Nat.reduceAdd,Nat.reduceSub,Nat.reduceLeDiff,Nat.zero_add,Nat.add_zero,beq_iff_eq,beq_eq_false_iff_ne,List.length_cons,List.length_nil,List.append_nil,Bool.and_self,Bool.bne_true,Bool.bne_false,bne_self_eq_false,Bool.not_false,and_true,true_and,and_self,and_assoc,forall_const,imp_self,implies_true,Nat.le_refl,decide_eq_true_eq,decide_eq_false_iff_not,Val.bool.injEq,ne_eq,not_false_eq_true,false_implies,not_false_eq_true,inat,spec2,spec3,TInt,IsInt,RInt,Prod.eta,Pm.c0,Pm.c1,Pm.c2,Pm.c3,Pm.c4,RPm,Pm.w_c,Pm.d,Pm.eta,Pl.L,Pl.c0,Pl.c1,Pl.Is,Pl.of,TPl,RPl,Pl.w_c,Pl.d,Pl.eta,Gv.Is,Gv.of,Gv.d,Gv.eta,toUI_val]
        repeat' (first | omega | (with_reducible apply And.intro) | intro _)
        all_goals first
          | (refine (decP_t ?_).symm; rw [hF]; first | (left; exact ⟨by omega,near_comm.1 hN⟩) | (right; omega))
          | (refine (decP_f fun h => ?_).symm; rw [hF] at h; rcases h with ⟨h,h'⟩ | h <;> first | omega | exact absurd (near_comm.1 h') hN | exact absurd ⟨by omega,by omega⟩ hl)
          | (rw [Bool.eq_iff_iff,decide_eq_true_iff,decP_true,hF]
             exact ⟨fun h => .inr (by omega),fun h => by rcases h with ⟨h,h'⟩ | h <;> first | omega | exact absurd (near_comm.1 h') hN⟩)
    · have e2 := decP_f hN
      by_cases hl : lateP g i
      · have e3 := decP_t hl
        obtain ⟨hk1,hk2⟩ := hg.lst (by omega) hl.1
        have hq := hg.mo_eq (by omega) (k := k) (by omega) hl.1
        rw [← hq] at hF
        have hl2 := hl.2
        simp only [RunTo,a54,sNear,sLate,TPt,Pt.L,Pt.Is,Pt.of,IsAt,f1,f2,e1,e2,e3,p1,p2,hk1,hk2,↓imp_tt,↓imp_tf,↓imp_ft,↓imp_ff,runO_3,runO_4,runO_5,runO_14,runO_17,runO_18,runO_19,aop,binV,ends,Nat.zero_sub,ev,fget,fput,params,cellsOf,cellsN,isLB,vget,vlen,bget,addB,addN,mkv,sliceV,vtab,frz,opOwns,preFz,callFz,skipOp,WfT,resV,res1,casts,castOks,cast1,castOk,norm,norms,norm1,normL,pureB,pureL,snapV,snapOk,specV,argsL,capsL,mkE_S,mkE_I,lkp,pickV,mgetV,Fin,vp_bool,Val.toInt,Val.slen,Val.scell,↓reduceIte,reduceCtorEq,Nat.reduceEqDiff,Nat.reduceAdd,Nat.reduceSub,Nat.reduceLeDiff,Nat.zero_add,Nat.add_zero,beq_iff_eq,beq_eq_false_iff_ne,List.length_cons,List.length_nil,List.append_nil,Bool.and_self,Bool.bne_true,Bool.bne_false,bne_self_eq_false,Bool.not_false,and_true,true_and,and_self,and_assoc,forall_const,imp_self,implies_true,Nat.le_refl,decide_eq_true_eq,decide_eq_false_iff_not,Val.bool.injEq,ne_eq,not_false_eq_true,false_implies,not_false_eq_true,inat,spec2,spec3,TInt,IsInt,RInt,Prod.eta,Pm.c0,Pm.c1,Pm.c2,Pm.c3,Pm.c4,RPm,Pm.w_c,Pm.d,Pm.eta,Pl.L,Pl.c0,Pl.c1,Pl.Is,Pl.of,TPl,RPl,Pl.w_c,Pl.d,Pl.eta,Gv.Is,Gv.of,Gv.d,Gv.eta,toUI_val]
        repeat' (first | omega | (with_reducible apply And.intro) | intro _)
        all_goals first
          | (refine (decP_t ?_).symm; rw [hF]; first | (left; exact ⟨by omega,near_comm.1 hN⟩) | (right; omega))
          | (refine (decP_f fun h => ?_).symm; rw [hF] at h; rcases h with ⟨h,h'⟩ | h <;> first | omega | exact absurd (near_comm.1 h') hN | exact absurd ⟨by omega,by omega⟩ hl)
          | (rw [Bool.eq_iff_iff,decide_eq_true_iff,decP_true,hF]
             exact ⟨fun h => .inr (by omega),fun h => by rcases h with ⟨h,h'⟩ | h <;> first | omega | exact absurd (near_comm.1 h') hN⟩)
      · have e3 := decP_f hl
        simp only [RunTo,a54,sNear,sLate,TPt,Pt.L,Pt.Is,Pt.of,IsAt,f1,f2,e1,e2,e3,p1,p2,↓imp_tt,↓imp_tf,↓imp_ft,↓imp_ff,runO_3,runO_4,runO_5,runO_14,runO_17,runO_18,runO_19,aop,binV,ends,Nat.zero_sub,ev,fget,fput,params,cellsOf,cellsN,isLB,vget,vlen,bget,addB,addN,mkv,sliceV,vtab,frz,opOwns,preFz,callFz,skipOp,WfT,resV,res1,casts,castOks,cast1,castOk,norm,norms,norm1,normL,pureB,pureL,snapV,snapOk,specV,argsL,capsL,mkE_S,mkE_I,lkp,pickV,Fin,vp_bool,Val.toInt,Val.slen,Val.scell,↓reduceIte,reduceCtorEq,Nat.reduceEqDiff,Nat.reduceAdd,Nat.reduceSub,Nat.reduceLeDiff,Nat.zero_add,Nat.add_zero,beq_iff_eq,beq_eq_false_iff_ne,List.length_cons,List.length_nil,List.append_nil,Bool.and_self,Bool.bne_true,Bool.bne_false,bne_self_eq_false,Bool.not_false,and_true,true_and,and_self,and_assoc,forall_const,imp_self,implies_true,Nat.le_refl,decide_eq_true_eq,decide_eq_false_iff_not,Val.bool.injEq,ne_eq,not_false_eq_true,false_implies,not_false_eq_true,inat,spec2,spec3,TInt,IsInt,RInt,Prod.eta,Pm.c0,Pm.c1,Pm.c2,Pm.c3,Pm.c4,RPm,Pm.w_c,Pm.d,Pm.eta,Pl.L,Pl.c0,Pl.c1,Pl.Is,Pl.of,TPl,RPl,Pl.w_c,Pl.d,Pl.eta,Gv.Is,Gv.of,Gv.d,Gv.eta,toUI_val]
        repeat' (first | omega | (with_reducible apply And.intro) | intro _)
        all_goals first
          | (refine (decP_t ?_).symm; rw [hF]; first | (left; exact ⟨by omega,near_comm.1 hN⟩) | (right; omega))
          | (refine (decP_f fun h => ?_).symm; rw [hF] at h; rcases h with ⟨h,h'⟩ | h <;> first | omega | exact absurd (near_comm.1 h') hN | exact absurd ⟨by omega,by omega⟩ hl)
          | (rw [Bool.eq_iff_iff,decide_eq_true_iff,decP_true,hF]
             exact ⟨fun h => .inr (by omega),fun h => by rcases h with ⟨h,h'⟩ | h <;> first | omega | exact absurd (near_comm.1 h') hN⟩)
end Go.Proofs.Ytpknbojgkkmonaa
