/- Groves, outright: ready, choose, and what the program answers if signs do, or do not, contradict each other. No condition. -/
import Derived.Test.YtpknbojgkkmonaaWAlv
import Derived.Test.YtpknbojgkkmonaaWPln2
set_option linter.unusedSimpArgs false
set_option linter.unusedVariables false
namespace Go.Proofs.Ytpknbojgkkmonaa
open Go Go.RowKit
variable {G : Nat → Option (Nat × (Nat → Val))}
def rdyP (g : Gv) (l : Sgs) : Prop := ¬ (g.palms.1 > 30 ∨ g.places.1 > 40 ∨ g.sus.1 > 40 ∨ l.1 > 40) ∧ sgsE g l = 0
noncomputable def sReadyW : Spec := spec2 TGv (TSl RSg) (fun _ _ => True) fun g l => .bool (decP (rdyP g l))
set_option maxRecDepth 100000 in
theorem pReadyW : PureOk Try.prog G 29 sReadyW := by
  refine fn2 (S := [(13,sGreat),(38,sSigns)]) (I := []) mixed (.cons pGreat (.cons pSigns .nil)) .nil Try.func29 c29 fun g l _ hw => ?_
  simp only [vl,WfT,Val.toInt,Val.slen,Val.scell,Nat.reduceSub,and_true,true_and,and_assoc,maxLen,Nat.reducePow,TSl,RInt,RPm,Pm.d,RPl,Pl.d,Gv.L,TGv,RSg,Sg.d] at hw
  by_cases h0 : (g.palms.1 > 30 ∨ g.places.1 > 40 ∨ g.sus.1 > 40 ∨ l.1 > 40)
  · have e0 := decP_t h0
    have e1 : decP (rdyP g l) = false := decP_f fun h => h.1 h0
    simp only [RunTo,a29,sGreat,sSigns,e0,e1,hw,↓imp_ft,↓imp_ff,runO_3,runO_5,runO_17,runO_18,runO_19,aop,ends,Nat.zero_sub,ev,fget,fput,params,cellsOf,cellsN,isLB,vget,vlen,bget,addB,addN,mkv,sliceV,vtab,frz,opOwns,preFz,callFz,skipOp,WfT,resV,res1,norm,norms,norm1,normL,pureB,pureL,snapV,snapOk,specV,argsL,capsL,mkE_S,mkE_I,lkp,pickV,Fin,vp_bool,Val.toInt,Val.slen,Val.scell,↓reduceIte,reduceCtorEq,Nat.reduceEqDiff,Nat.reduceAdd,Nat.reduceSub,Nat.zero_add,List.length_cons,List.length_nil,List.append_nil,Bool.and_self,Bool.bne_true,Bool.not_true,Bool.not_false,and_true,and_self,and_assoc,forall_const,imp_self,implies_true,Nat.le_refl,maxLen,Nat.reducePow,spec2,TSl,IsSl,RInt,RPm,Pm.w_c,Pm.d,RPl,Pl.w_c,Pl.d,Gv.L,Gv.Is,Gv.of,TGv,Gv.d,RSg,Sg.w_c,Sg.d]
  · have e0 := decP_f h0
    by_cases h2 : sgsE g l = 0
    · have e1 : decP (rdyP g l) = true := decP_t ⟨h0,h2⟩
      simp only [RunTo,a29,sGreat,sSigns,e0,e1,h2,hw,↓imp_tt,↓imp_tf,runO_3,runO_5,runO_17,runO_18,runO_19,aop,binV,ends,ev,fget,fput,params,cellsOf,cellsN,isLB,vget,vlen,bget,addB,addN,mkv,sliceV,vtab,frz,opOwns,preFz,callFz,skipOp,WfT,resV,res1,norm,norms,norm1,normL,pureB,pureL,snapV,snapOk,specV,argsL,capsL,mkE_S,mkE_I,lkp,pickV,Fin,vp_bool,Val.toInt,Val.slen,Val.scell,↓reduceIte,reduceCtorEq,Nat.reduceEqDiff,Nat.reduceAdd,Nat.reduceSub,Nat.zero_add,List.length_cons,List.length_nil,List.append_nil,Bool.and_self,bne_self_eq_false,Bool.not_false,beq_self_eq_true,and_true,and_self,and_assoc,forall_const,imp_self,implies_true,Nat.le_refl,maxLen,Nat.reducePow,spec2,TSl,IsSl,RInt,Prod.eta,Pm.c0,Pm.c1,Pm.c2,Pm.c3,Pm.c4,RPm,Pm.w_c,Pm.d,Pm.eta,Pl.c0,Pl.c1,RPl,Pl.w_c,Pl.d,Pl.eta,Gv.L,Gv.Is,Gv.of,TGv,Gv.d,Gv.eta,Sg.c0,Sg.c1,Sg.c2,Sg.c3,Sg.c4,Sg.c5,RSg,Sg.w_c,Sg.d,Sg.eta,toUI_val]
    · have e1 : decP (rdyP g l) = false := decP_f fun h => h2 h.2
      have e2 := eq_false h2
      simp only [RunTo,a29,sGreat,sSigns,e0,e1,e2,hw,↓imp_tt,↓imp_tf,runO_3,runO_5,runO_17,runO_18,runO_19,aop,binV,ends,ev,fget,fput,params,cellsOf,cellsN,isLB,vget,vlen,bget,addB,addN,mkv,sliceV,vtab,frz,opOwns,preFz,callFz,skipOp,WfT,resV,res1,norm,norms,norm1,normL,pureB,pureL,snapV,snapOk,specV,argsL,capsL,mkE_S,mkE_I,lkp,pickV,Fin,vp_bool,Val.toInt,Val.slen,Val.scell,↓reduceIte,reduceCtorEq,Nat.reduceEqDiff,Nat.reduceAdd,Nat.reduceSub,Nat.zero_add,beq_eq_false_iff_ne,List.length_cons,List.length_nil,List.append_nil,Bool.and_self,bne_self_eq_false,Bool.not_false,and_true,and_self,and_assoc,forall_const,imp_self,implies_true,Nat.le_refl,Val.bool.injEq,ne_eq,not_false_eq_true,not_false_eq_true,maxLen,Nat.reducePow,spec2,TSl,IsSl,RInt,Prod.eta,Pm.c0,Pm.c1,Pm.c2,Pm.c3,Pm.c4,RPm,Pm.w_c,Pm.d,Pm.eta,Pl.c0,Pl.c1,RPl,Pl.w_c,Pl.d,Pl.eta,Gv.L,Gv.Is,Gv.of,TGv,Gv.d,Gv.eta,Sg.c0,Sg.c1,Sg.c2,Sg.c3,Sg.c4,Sg.c5,RSg,Sg.w_c,Sg.d,Sg.eta,toUI_val]
      try simp [h2]
section
variable {g : Gv} {l : Sgs} {day : Int}
theorem st_ok (hg : GvOk g) (hl : SgsOk g l) (h : okP g l l.1) : stE g l = 0 ∧ stA g l = 0 ∧ stD g l = .view 1 g.palms.1 fun i _ => .int .i64 (dyF g l l.1 i) := by
  have h0 := sgsE_00 hg hl
  refine ⟨?_,?_,?_⟩
  · unfold stE; rw [if_pos h0]; exact sooE_0 h
  · unfold stA; rw [if_pos h0]; exact sooA_0 h
  · unfold stD; rw [if_pos h0]; exact if_pos (decP_t h)
theorem st_no (hg : GvOk g) (hl : SgsOk g l) (h : ¬ okP g l l.1) : stE g l = 92 ∧ stA g l = badI g l ∧ stD g l = .nils := by
  have h0 := sgsE_00 hg hl
  refine ⟨?_,?_,?_⟩
  · unfold stE; rw [if_pos h0]; exact sooE_92 h
  · unfold stA; rw [if_pos h0]; exact sooA_92 h
  · unfold stD; rw [if_pos h0]; exact if_neg (by rw [show okB g l = false from decP_f h]; decide)
theorem as_no (hg : GvOk g) (hl : SgsOk g l) (hd : g.start ≤ day ∧ day ≤ 100000) (h : ¬ okP g l l.1) : asE g l day = 92 := by
  unfold asE; rw [if_pos (sgsE_00 hg hl),if_pos hd]; exact sooE_92 h
theorem il_ok (hg : GvOk g) (hl : SgsOk g l) (hd : g.start ≤ day ∧ day ≤ 100000) (h : okP g l l.1) : illD g l day = .view 1 g.palms.1 fun i _ => .int .u8 (illF g l day i) := if_pos (asE_ok hg hl hd h)
theorem il_no (hg : GvOk g) (hl : SgsOk g l) (hd : g.start ≤ day ∧ day ≤ 100000) (h : ¬ okP g l l.1) : illD g l day = .nils := if_neg (by rw [as_no hg hl hd h]; decide)
theorem gf_ok (hg : GvOk g) (hl : SgsOk g l) (hd : g.start ≤ day ∧ day ≤ 100000) (h : okP g l l.1) : gfD g l day = .view 1 (gfF g l day g.palms.1).1 fun i _ => .int .i64 ((gfF g l day g.palms.1).2 i) := if_pos (asE_ok hg hl hd h)
theorem gf_no (hg : GvOk g) (hl : SgsOk g l) (hd : g.start ≤ day ∧ day ≤ 100000) (h : ¬ okP g l l.1) : gfD g l day = .nils := if_neg (by rw [as_no hg hl hd h]; decide)
theorem rdy_ok (h : rdyP g l) : GvOk g ∧ SgsOk g l := sgsE_0 h.2
end
def chsF (by' : Nat × (Nat → UI .u32)) (i : Int) : Int := if i < by'.1 then (by'.2 i.toNat).1 else 0
def sChooseW : Spec := spec2 (TSl (RU .u32)) TI (fun _ i => 0 ≤ i) fun b i => .int .u32 (chsF b i)
set_option maxRecDepth 100000 in
theorem pChooseW : PureOk Try.prog G 59 sChooseW := by
  refine fn2 (S := []) (I := []) mixed .nil .nil Try.func59 c59 fun b i h0 hw => ?_
  simp only [vl,WfT,Val.slen,Val.scell,Nat.reduceSub,and_true,and_self,maxLen,Nat.reducePow,RU_k,RU_C,TSl,TInt] at hw
  by_cases h : i < b.1
  · have f1 := eq_true h
    have e : chsF b i = (b.2 i.toNat).1 := if_pos h
    simp only [RunTo,a59,e,f1,hw,↓imp_tt,↓imp_tf,runO_3,runO_5,runO_14,runO_17,runO_18,runO_19,aop,binV,ends,ev,fget,fput,params,vget,addB,addN,mkv,frz,opOwns,preFz,skipOp,WfT,resV,res1,casts,castOks,cast1,castOk,snapV,snapOk,lenV,Fin,vp_int,Val.toInt,Val.slen,Val.scell,↓reduceIte,reduceCtorEq,Nat.reduceEqDiff,Nat.reduceSub,Nat.zero_add,decide_true,List.length_cons,List.length_nil,and_true,true_and,and_self,forall_const,Nat.le_refl,maxLen,Nat.reducePow,RU_k,RU_C,TSl,TInt]
    repeat' (first | omega | (with_reducible apply And.intro) | intro _)
  · have f1 := eq_false h
    have e : chsF b i = 0 := if_neg h
    simp only [RunTo,a59,e,f1,hw,↓imp_ft,↓imp_ff,runO_3,runO_4,runO_5,runO_14,runO_17,runO_18,runO_19,aop,binV,ends,ev,fget,fput,params,addB,addN,frz,opOwns,preFz,skipOp,WfT,resV,res1,snapV,snapOk,lenV,Fin,vp_int,Val.slen,Val.scell,↓reduceIte,reduceCtorEq,Nat.reduceEqDiff,Nat.reduceSub,Nat.zero_add,decide_false,and_self,forall_const,maxLen,Nat.reducePow,RU_k,RU_C,TSl,TInt]
theorem chsF_bd (b : Nat × (Nat → UI .u32)) (i : Int) : 0 ≤ chsF b i ∧ chsF b i ≤ 4294967295 := by
  unfold chsF; split
  · have := (b.2 i.toNat).2
    have e1 : IntKind.min .u32 = 0 := by decide
    have e2 : IntKind.max .u32 = 4294967295 := by decide
    omega
  · omega
end Go.Proofs.Ytpknbojgkkmonaa
