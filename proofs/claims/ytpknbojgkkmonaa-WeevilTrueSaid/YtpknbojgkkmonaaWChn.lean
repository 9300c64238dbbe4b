/- Groves, the program: Chain, Gifts. No condition. -/
import Derived.Test.YtpknbojgkkmonaaWBck
import Derived.Test.YtpknbojgkkmonaaWHis
set_option linter.unusedSimpArgs false
set_option linter.unusedVariables false
namespace Go.Proofs.Ytpknbojgkkmonaa
open Go Go.RowKit
variable {G : Nat → Option (Nat × (Nat → Val))}
section
variable {P : Program} {I : List (FuncId × AFun)} {id : FuncId} {fn : Func} {af : AFun} {α1 α2 α3 : Type} {t1 : VT α1} {t2 : VT α2} {t3 : VT α3}
theorem PureOk.each {s : Spec} (hent : ∀ args w,(callFunc id args).run P w = .ok (.enter id args) w) (h : ∀ vs,s.pre vs → PureOk P G id ⟨fun ws => ws = vs,s.res,s.own⟩) : PureOk P G id s :=
  ⟨hent,fun A w vs cs hG hr hp => (h vs hp).run A w vs cs hG hr rfl⟩
theorem fn3d (hmix : P.follows .mixedOrders = true) (hI : IOk P I) (hfn : P.funcs[id]? = some fn) (hcf : cFun P fn = some af) {pre : α1 → α2 → α3 → Prop} {res : α1 → α2 → α3 → Val}
    (h : ∀ a b c,pre a b c → ∃ S,SOk P G S ∧ (WfT (vl [t1.enc a,t2.enc b,t3.enc c]) → RunTo G S I af [t1.enc a,t2.enc b,t3.enc c] (res a b c))) : PureOk P G id (spec3 t1 t2 t3 pre res) := by
  have hent := (pure_okN (G := G) (s := ⟨fun _ => False,fun _ => .und,none⟩) hmix .nil hI hfn hcf rfl fun vs hp => hp.elim).ent
  refine PureOk.each hent fun vs hp => ?_
  simp only [spec3] at hp
  split at hp
  · rename_i a b c
    obtain ⟨p1,p2,p3,p⟩ := hp
    obtain ⟨S,hS,h⟩ := h _ _ _ p
    refine pure_okN hmix hS hI hfn hcf rfl fun ws hw => ?_
    obtain rfl : ws = [a,b,c] := hw
    refine ⟨[t1.enc (t1.of a),t2.enc (t2.of b),t3.enc (t3.of c)],⟨_,_,rfl,t1.h1 a p1,_,_,rfl,t2.h1 b p2,_,_,rfl,t3.h1 c p3,rfl⟩,?_,fun hw => ⟨5000,?_⟩⟩
    · simp only [spec3,t1.h2,t2.h2,t3.h2]
    · simp only [spec3,t1.h2,t2.h2,t3.h2]; exact h hw
  · exact hp.elim
end
theorem snapV_3 (bx : Bx) (d : Nat) (f : Fn) (a b c : Val) : snapV bx d (.cons (.func f (.cons a (.cons b (.cons c .nil)))) .nil) = .cons (.func f (.cons (snapV bx d a) (.cons (snapV bx d b) (.cons (snapV bx d c) .nil)))) .nil := by simp only [snapV]
theorem bk_snap {g : Gv} {D : Nat → Int} {bx : Bx} {b1 b2 b3 : Nat} (h1 : bget bx b1 = some (.cells (.cons (.view 1 g.palms.1 fun i _ => .int .i64 (D i)) .nil))) (h2 : bget bx b2 = some (.cells (Pt.L g)))
    (h3 : bget bx b3 = some (.cells (.cons (.func (.func 53) (.cons (.ptr b1 0) (.cons (.ptr b2 0) (.cons (.ptr b3 0) .nil)))) .nil))) :
    ∀ k,vsubP (bkD g D) (snapV bx (k + 1) (.ptr b1 0)) ∧ vsubP (bkP g) (snapV bx (k + 1) (.ptr b2 0)) ∧ vsubP (bkC g D k) (snapV bx (k + 1) (.ptr b3 0)) := by
  have e1 : ∀ k,vsubP (bkD g D) (snapV bx (k + 1) (.ptr b1 0)) := fun k => by
    simp only [snapV,h1,bkD,vlen,Nat.sub_zero,Nat.zero_add,vp_vptr]
    intro j hj
    obtain rfl : j = 0 := by omega
    simp only [vget]; exact (vsubP_self _).mpr trivial
  have e2 : ∀ k,vsubP (bkP g) (snapV bx (k + 1) (.ptr b2 0)) := fun k => by
    simp only [snapV,h2,bkP,Pt.L,vlen,Nat.sub_zero,Nat.zero_add,vp_vptr]
    intro j hj
    exact (vsubP_self _).mpr trivial
  intro k
  refine ⟨e1 k,e2 k,?_⟩
  induction k with
  | zero => exact trivial
  | succ k ih =>
    rw [bkC_s]
    have : snapV bx (k + 1 + 1) (.ptr b3 0) = .vptr 1 fun j => vget (.cons (.func (.func 53) (.cons (snapV bx (k + 1) (.ptr b1 0)) (.cons (snapV bx (k + 1) (.ptr b2 0)) (.cons (snapV bx (k + 1) (.ptr b3 0)) .nil)))) .nil) (0 + j) := by
      rw [snapV]
      simp only [h3,snapV_3]
      rfl
    rw [this,vp_vptr]
    intro j hj
    obtain rfl : j = 0 := by omega
    simp only [vget,vp_func,vp_cons,vp_nil]
    exact ⟨e1 k,e2 k,ih,trivial⟩
theorem bk_ok {g : Gv} {D : Nat → Int} {bx : Bx} {b1 b2 b3 : Nat} (h1 : bget bx b1 = some (.cells (.cons (.view 1 g.palms.1 fun i _ => .int .i64 (D i)) .nil))) (h2 : bget bx b2 = some (.cells (Pt.L g)))
    (h3 : bget bx b3 = some (.cells (.cons (.func (.func 53) (.cons (.ptr b1 0) (.cons (.ptr b2 0) (.cons (.ptr b3 0) .nil)))) .nil))) :
    ∀ k,snapOk bx k (.ptr b1 0) = true ∧ snapOk bx k (.ptr b2 0) = true ∧ snapOk bx k (.ptr b3 0) = true := by
  intro k
  induction k with
  | zero => simp only [snapOk,and_self]
  | succ k ih =>
    obtain ⟨i1,i2,i3⟩ := ih
    simp only [snapOk,h1,h2,h3]
    cases k with
    | zero => simp only [snapOk,and_self]
    | succ k =>
      refine ⟨?_,?_,?_⟩
      · simp only [snapOk,Bool.and_self]
      · simp only [snapOk,Pt.L,Bool.and_self]
      · simp only [snapOk] at i1 i2 i3 ⊢
        simp only [i1,i2,i3,Bool.and_self]
theorem snapV_int (bx : Bx) (d : Nat) (k : IntKind) (n : Int) : snapV bx d (.int k n) = .int k n := by cases d <;> simp only [snapV]
theorem snapOk_int (bx : Bx) (d : Nat) (k : IntKind) (n : Int) : snapOk bx d (.int k n) = true := by cases d <;> simp only [snapOk]
theorem bk_ok' {g : Gv} {D : Nat → Int} {bx : Bx} {b1 b2 b3 : Nat} (h1 : bget bx b1 = some (.cells (.cons (.view 1 g.palms.1 fun i _ => .int .i64 (D i)) .nil))) (h2 : bget bx b2 = some (.cells (Pt.L g)))
    (h3 : bget bx b3 = some (.cells (.cons (.func (.func 53) (.cons (.ptr b1 0) (.cons (.ptr b2 0) (.cons (.ptr b3 0) .nil)))) .nil))) : (snapOk bx 40 (.ptr b1 0) && (snapOk bx 40 (.ptr b2 0) && snapOk bx 40 (.ptr b3 0))) = true := by
  obtain ⟨e1,e2,e3⟩ := bk_ok h1 h2 h3 40
  rw [e1,e2,e3]; rfl
theorem bk_pre {g : Gv} {D : Nat → Int} {bx : Bx} {b1 b2 b3 i : Nat} (hi : i < g.palms.1) (hlt : D i < 100001) (hn : g.palms.1 ≤ 24) (h1 : bget bx b1 = some (.cells (.cons (.view 1 g.palms.1 fun i _ => .int .i64 (D i)) .nil))) (h2 : bget bx b2 = some (.cells (Pt.L g)))
    (h3 : bget bx b3 = some (.cells (.cons (.func (.func 53) (.cons (.ptr b1 0) (.cons (.ptr b2 0) (.cons (.ptr b3 0) .nil)))) .nil))) : (sBack g D 39).pre [.int .i64 i,snapV bx 40 (.ptr b1 0),snapV bx 40 (.ptr b2 0),snapV bx 40 (.ptr b3 0)] := by
  obtain ⟨e1,e2,e3⟩ := bk_snap h1 h2 h3 39
  refine ⟨i,hi,hlt,by have := dep_n (D := D) hi; omega,?_⟩
  simp only [bkA,vl,vp_cons,vp_int,vp_nil]
  exact ⟨trivial,e1,e2,e3,trivial⟩
noncomputable def chE (g : Gv) (l : Sgs) (id : Int) : Int := if sgsE g l = 0 then (if hitN g.palms id < g.palms.1 then (if sooE g l = 0 then (if dyF g l l.1 (hitN g.palms id) = 100001 then 6 else 0) else sooE g l) else 6) else sgsE g l
noncomputable def chW (g : Gv) (l : Sgs) (id : Int) : Val := if chE g l id = 0 then chV g (dyF g l l.1) (hitN g.palms id) else .nils
noncomputable def sChain : Spec := spec3 TGv (TSl RSg) TI (fun _ _ _ => True) fun g l id => .tup (.cons (chW g l id) (.cons (.int .i64 (chE g l id)) .nil))
set_option maxHeartbeats 2000000 in
set_option maxRecDepth 100000 in
theorem pChain : PureOk Try.prog G 24 sChain := by
  refine fn3d (I := []) mixed .nil Try.func24 c24 fun g l id _ => ?_
  by_cases h0 : sgsE g l = 0
  · obtain ⟨hg,hl⟩ := sgsE_0 h0
    have hg0 := gvE_ok hg
    have hD : DayOk g (dyF g l l.1) := by
      obtain ⟨N,_,hF⟩ := days_ok hg (n0 := lowF g l.2 l.1) fun i _ => (lowF_bd hg hl.2 l.1 (Nat.le_refl _) i).2
      exact hF.dayOk hg
    refine ⟨[(51,sRead),(52,sSoon),(53,sBack g (dyF g l l.1) 39)],.cons pRead (.cons pSoon (.cons (pBack hg hD 39) .nil)),fun hw => ?_⟩
    simp only [vl,WfT,Val.toInt,Val.slen,Val.scell,Nat.reduceSub,and_true,true_and,and_self,and_assoc,maxLen,Nat.reducePow,TSl,TInt,RInt,RPm,Pm.d,RPl,Pl.d,Gv.L,TGv,RSg,Sg.d] at hw
    obtain ⟨w1,w2,w3,w4⟩ := hw
    by_cases hi : hitN g.palms id < g.palms.1
    · have hk1 := hasP_hit.2 hi
      have hk2 := hg.pms.lst hk1
      by_cases hb : okB g l = true
      · have r4 : sooD g l = .view 1 g.palms.1 fun i _ => .int .i64 (dyF g l l.1 i) := if_pos hb
        have r5 : sooE g l = 0 := if_pos hb
        have hlo := hD.low _ hi
        by_cases hn : dyF g l l.1 (hitN g.palms id) = 100001
        · have r1 : chE g l id = 6 := by unfold chE; rw [if_pos h0,if_pos hi,if_pos r5,if_pos hn]
          have r2 : chW g l id = .nils := if_neg (by omega)
          simp only [RunTo,a24,sRead,sSoon,h0,hg0,ptV_0,TPt,Pt.L,Pt.Is,Pt.of,isAt_self,hg,hk1,hk2,hn,r1,r2,r4,r5,w1,w2,w3,w4,↓imp_tt,↓imp_tf,↓imp_ft,↓imp_ff,runO_3,runO_4,runO_5,runO_14,runO_17,runO_18,runO_19,aop,binV,ends,reOk,Nat.zero_sub,ev,fget,fput,params,cellsOf,cellsN,isLB,vget,vset,vsets,vlen,bget,bset,addB,addN,mkv,sliceV,vtab,frz,opOwns,preFz,callFz,skipOp,WfT,resV,resL,res1,casts,castOks,cast1,castOk,norm,norms,norm1,normL,pureB,pureL,onesB,snapV,snapOk,specV,argsL,capsL,mkE_S,mkE_I,lkp,pickV,mgetV,Fin,vsubP_self,Val.toInt,Val.slen,Val.scell,↓reduceIte,reduceCtorEq,Nat.reduceEqDiff,Nat.reduceAdd,Nat.reduceSub,Nat.reduceLT,Nat.zero_add,List.length_cons,List.length_nil,List.append_nil,Bool.and_self,bne_self_eq_false,Bool.not_true,beq_self_eq_true,and_true,true_and,and_self,and_assoc,forall_const,imp_self,implies_true,Nat.le_refl,maxLen,Nat.reducePow,inat,spec2,TSl,IsSl,TInt,RInt,Prod.eta,Pm.c0,Pm.c1,Pm.c2,Pm.c3,Pm.c4,RPm,Pm.w_c,Pm.d,Pm.eta,Pl.c0,Pl.c1,RPl,Pl.w_c,Pl.d,Pl.eta,Gv.L,Gv.Is,Gv.of,TGv,Gv.d,Gv.eta,Sg.c0,Sg.c1,Sg.c2,Sg.c3,Sg.c4,Sg.c5,RSg,Sg.w_c,Sg.d,Sg.eta,toUI_val]
          exact ⟨hl,by omega,by omega⟩
        · have r1 : chE g l id = 0 := by unfold chE; rw [if_pos h0,if_pos hi,if_pos r5,if_neg hn]
          have r2 : chW g l id = chV g (dyF g l l.1) (hitN g.palms id) := if_pos r1
          simp only [RunTo,a24,sRead,sSoon,h0,hg0,ptV_0,TPt,Pt.L,Pt.Is,Pt.of,isAt_self,hg,hk1,hk2,hn,r1,r2,r4,r5,sBack_own,sBack_res,snapV_int,snapOk_int,w1,w2,w3,w4,flatO,↓imp_ft,↓imp_ff,runO_3,runO_4,runO_5,runO_14,runO_17,runO_18,runO_19,aop,binV,ends,reOk,Nat.zero_sub,ev,evs,fget,fput,params,cellsOf,cellsN,isLB,vget,vset,vsets,vlen,bget,bset,addB,addN,mkv,sliceV,vtab,frz,opOwns,preFz,callFz,skipOp,WfT,resV,resL,res1,casts,castOks,cast1,castOk,norm,norms,norm1,normL,pureB,pureL,onesB,snapL,snapOks,specV,argsL,capsL,mkE_S,mkE_I,lkp,pickV,mgetV,Fin,Val.toInt,Val.slen,Val.scell,↓reduceIte,reduceCtorEq,Nat.reduceEqDiff,Nat.reduceAdd,Nat.reduceSub,Nat.reduceLT,Nat.zero_add,beq_iff_eq,beq_eq_false_iff_ne,List.length_cons,List.length_nil,List.nil_append,List.cons_append,List.append_nil,Bool.and_true,Bool.and_false,Bool.true_and,Bool.and_self,bne_self_eq_false,Bool.not_true,and_true,true_and,and_self,and_assoc,forall_const,imp_self,implies_true,Nat.le_refl,ne_eq,not_false_eq_true,false_implies,not_false_eq_true,maxLen,Nat.reducePow,inat,spec2,TSl,IsSl,TInt,RInt,Prod.eta,Pm.c0,Pm.c1,Pm.c2,Pm.c3,Pm.c4,RPm,Pm.w_c,Pm.d,Pm.eta,Pl.c0,Pl.c1,RPl,Pl.w_c,Pl.d,Pl.eta,Gv.L,Gv.Is,Gv.of,TGv,Gv.d,Gv.eta,Sg.c0,Sg.c1,Sg.c2,Sg.c3,Sg.c4,Sg.c5,RSg,Sg.w_c,Sg.d,Sg.eta,toUI_val]
          refine ⟨hl,by omega,by omega,bk_ok' (g := g) (D := dyF g l l.1) rfl rfl rfl,bk_pre hi (by omega) hg.pms.n rfl rfl rfl,?_⟩
          intro _
          simp only [chV,bget,snapV,snapOk,vsubP_self,↓reduceIte,Nat.reduceAdd,Bool.and_self,and_self]
      · have r4 : sooD g l = .nils := if_neg hb
        have r5 : sooE g l = 92 := if_neg hb
        have r1 : chE g l id = 92 := by unfold chE; rw [if_pos h0,if_pos hi,if_neg (by omega),r5]
        have r2 : chW g l id = .nils := if_neg (by omega)
        simp only [RunTo,a24,sRead,sSoon,h0,hg0,ptV_0,TPt,Pt.L,Pt.Is,Pt.of,isAt_self,hg,hk1,hk2,r1,r2,r4,r5,w1,w2,w3,w4,↓imp_tt,↓imp_tf,↓imp_ft,↓imp_ff,runO_3,runO_4,runO_5,runO_14,runO_17,runO_18,runO_19,aop,binV,ends,reOk,Nat.zero_sub,ev,fget,fput,params,cellsOf,cellsN,isLB,vget,vset,vsets,vlen,bget,bset,addB,addN,mkv,sliceV,vtab,frz,opOwns,preFz,callFz,skipOp,WfT,resV,resL,res1,norm,norms,norm1,normL,pureB,pureL,onesB,snapV,snapOk,specV,argsL,capsL,mkE_S,mkE_I,lkp,pickV,mgetV,Fin,vsubP_self,Val.toInt,Val.slen,Val.scell,↓reduceIte,reduceCtorEq,Nat.reduceEqDiff,Nat.reduceAdd,Nat.reduceSub,Nat.reduceLT,Nat.zero_add,Int.reduceBNe,List.length_cons,List.length_nil,List.append_nil,Bool.and_self,bne_self_eq_false,Bool.not_true,and_true,true_and,and_self,and_assoc,forall_const,imp_self,implies_true,Nat.le_refl,maxLen,Nat.reducePow,spec2,TSl,IsSl,TInt,RInt,Prod.eta,Pm.c0,Pm.c1,Pm.c2,Pm.c3,Pm.c4,RPm,Pm.w_c,Pm.d,Pm.eta,Pl.c0,Pl.c1,RPl,Pl.w_c,Pl.d,Pl.eta,Gv.L,Gv.Is,Gv.of,TGv,Gv.d,Gv.eta,Sg.c0,Sg.c1,Sg.c2,Sg.c3,Sg.c4,Sg.c5,RSg,Sg.w_c,Sg.d,Sg.eta,toUI_val]
        exact hl
    · have hk1 : hasP g.palms id = false := by
        cases hc : hasP g.palms id with
        | false => rfl
        | true => exact absurd (hasP_hit.1 hc) hi
      have r1 : chE g l id = 6 := by unfold chE; rw [if_pos h0,if_neg hi]
      have r2 : chW g l id = .nils := if_neg (by omega)
      simp only [RunTo,a24,sRead,h0,hg0,ptV_0,Pt.L,hk1,r1,r2,w1,w2,w3,w4,↓imp_tt,↓imp_tf,↓imp_ft,↓imp_ff,runO_3,runO_4,runO_5,runO_14,runO_17,runO_18,runO_19,aop,binV,ends,reOk,Nat.zero_sub,ev,fget,fput,params,cellsOf,cellsN,isLB,vget,vset,vsets,vlen,bget,bset,addB,addN,mkv,sliceV,vtab,frz,opOwns,preFz,callFz,skipOp,WfT,resV,resL,res1,norm,norms,norm1,normL,pureB,pureL,onesB,snapV,snapOk,specV,argsL,capsL,mkE_S,mkE_I,lkp,pickV,mgetV,Fin,vsubP_self,Val.toInt,Val.slen,Val.scell,↓reduceIte,reduceCtorEq,Nat.reduceEqDiff,Nat.reduceAdd,Nat.reduceSub,Nat.reduceLT,Nat.zero_add,List.length_cons,List.length_nil,List.append_nil,Bool.and_self,bne_self_eq_false,Bool.not_false,and_true,and_self,and_assoc,forall_const,imp_self,implies_true,Nat.le_refl,maxLen,Nat.reducePow,spec2,TSl,IsSl,TInt,RInt,Prod.eta,Pm.c0,Pm.c1,Pm.c2,Pm.c3,Pm.c4,RPm,Pm.w_c,Pm.d,Pm.eta,Pl.c0,Pl.c1,RPl,Pl.w_c,Pl.d,Pl.eta,Gv.L,Gv.Is,Gv.of,TGv,Gv.d,Gv.eta,Sg.c0,Sg.c1,Sg.c2,Sg.c3,Sg.c4,Sg.c5,RSg,Sg.w_c,Sg.d,Sg.eta,toUI_val]
  · refine ⟨[(51,sRead)],.cons pRead .nil,fun hw => ?_⟩
    simp only [vl,WfT,Val.toInt,Val.slen,Val.scell,Nat.reduceSub,and_true,true_and,and_self,and_assoc,maxLen,Nat.reducePow,TSl,TInt,RInt,RPm,Pm.d,RPl,Pl.d,Gv.L,TGv,RSg,Sg.d] at hw
    obtain ⟨w1,w2,w3,w4⟩ := hw
    have r1 : chE g l id = sgsE g l := if_neg h0
    have r2 : chW g l id = .nils := if_neg (by rw [r1]; exact h0)
    by_cases hg0 : gvE g = 0
    · simp only [RunTo,a24,sRead,h0,hg0,ptV_0,Pt.L,r1,r2,w1,w2,w3,w4,runO_3,runO_4,runO_5,runO_14,runO_17,runO_18,runO_19,aop,binV,ends,reOk,Nat.zero_sub,ev,fget,fput,params,cellsOf,cellsN,isLB,vget,vset,vsets,vlen,bget,bset,addB,addN,mkv,sliceV,vtab,frz,opOwns,preFz,callFz,skipOp,WfT,resV,resL,res1,norm,norms,norm1,normL,pureB,pureL,onesB,snapV,snapOk,specV,argsL,capsL,mkE_S,mkE_I,lkp,pickV,mgetV,Fin,vp_int,vp_cons,vp_tup,vsubP_self,Val.toInt,Val.slen,Val.scell,↓reduceIte,reduceCtorEq,Nat.reduceEqDiff,Nat.reduceAdd,Nat.reduceSub,Nat.reduceLT,Nat.zero_add,bne_iff_ne,bne_eq_false_iff_eq,List.length_cons,List.length_nil,List.append_nil,Bool.not_eq_true',Bool.not_eq_false',Bool.and_self,and_true,true_and,and_self,and_assoc,forall_const,imp_self,implies_true,Nat.le_refl,Val.int.injEq,ne_eq,not_false_eq_true,false_implies,not_false_eq_true,maxLen,Nat.reducePow,spec2,TSl,IsSl,TInt,RInt,Prod.eta,Pm.c0,Pm.c1,Pm.c2,Pm.c3,Pm.c4,RPm,Pm.w_c,Pm.d,Pm.eta,Pl.c0,Pl.c1,RPl,Pl.w_c,Pl.d,Pl.eta,Gv.L,Gv.Is,Gv.of,TGv,Gv.d,Gv.eta,Sg.c0,Sg.c1,Sg.c2,Sg.c3,Sg.c4,Sg.c5,RSg,Sg.w_c,Sg.d,Sg.eta,toUI_val]
    · have ez := ptV_no (g := g) hg0
      simp only [RunTo,a24,sRead,h0,ez,ptZ,r1,r2,w1,w2,w3,w4,runO_3,runO_4,runO_5,runO_14,runO_17,runO_18,runO_19,aop,binV,ends,reOk,Nat.zero_sub,ev,fget,fput,params,cellsOf,cellsN,isLB,vget,vset,vsets,vlen,bget,bset,addB,addN,mkv,sliceV,vtab,frz,opOwns,preFz,callFz,skipOp,WfT,resV,resL,res1,norm,norms,norm1,normL,pureB,pureL,onesB,snapV,snapOk,specV,argsL,capsL,mkE_S,mkE_I,lkp,Fin,vsubP_self,Val.toInt,Val.slen,Val.scell,↓reduceIte,reduceCtorEq,Nat.reduceEqDiff,Nat.reduceAdd,Nat.reduceSub,Nat.reduceLT,Nat.zero_add,bne_iff_ne,bne_eq_false_iff_eq,List.length_cons,List.length_nil,List.append_nil,Bool.and_self,and_true,true_and,and_self,and_assoc,forall_const,imp_self,implies_true,Nat.le_refl,ne_eq,not_false_eq_true,not_false_eq_true,maxLen,Nat.reducePow,spec2,TSl,IsSl,TInt,RInt,Prod.eta,Pm.c0,Pm.c1,Pm.c2,Pm.c3,Pm.c4,RPm,Pm.w_c,Pm.d,Pm.eta,Pl.c0,Pl.c1,RPl,Pl.w_c,Pl.d,Pl.eta,Gv.L,Gv.Is,Gv.of,TGv,Gv.d,Gv.eta,Sg.c0,Sg.c1,Sg.c2,Sg.c3,Sg.c4,Sg.c5,RSg,Sg.w_c,Sg.d,Sg.eta,toUI_val]
end Go.Proofs.Ytpknbojgkkmonaa
