/- Groves, the program: raised. No condition but bounds. -/
import Derived.Test.YtpknbojgkkmonaaWMis
set_option linter.unusedSimpArgs false
set_option linter.unusedVariables false
namespace Go.Proofs.Ytpknbojgkkmonaa
open Go Go.RowKit
variable {G : Nat → Option (Nat × (Nat → Val))}
def Clo (g : Gv) (X : Nat → Int) (i : Nat) : Prop := lateP g i → X i > (g.palms.2 i).planted → X (moF g i) > (g.palms.2 i).planted
structure UpPost (g : Gv) (L X X' : Nat → Int) (i : Nat) : Prop where
  lo : ∀ z,z < g.palms.1 → X z ≤ X' z
  hi : ∀ z,z < g.palms.1 → X' z ≤ L z
  here : Clo g X' i
  mono : ∀ z,z < g.palms.1 → Clo g X z → Clo g X' z
theorem UpPost.none {g : Gv} {L X : Nat → Int} {i : Nat} (hh : ∀ z,z < g.palms.1 → X z ≤ L z) (h : ¬ (lateP g i ∧ X i > (g.palms.2 i).planted)) : UpPost g L X X i :=
  ⟨fun _ _ => Int.le_refl _,hh,fun h1 h2 => absurd ⟨h1,h2⟩ h,fun _ _ h => h⟩
theorem UpPost.some {g : Gv} {L X X' : Nat → Int} {i : Nat} (hg : GvOk g) (hi : i < g.palms.1) (hl : lateP g i) (h : UpPost g L (rsd g X i) X' (moF g i)) : UpPost g L X X' i := by
  have hm := (hg.mo hi hl.1).1
  refine ⟨fun z hz => Int.le_trans (rsd_ge g X i z) (h.lo z hz),h.hi,h.mono i hi ?_,fun z hz hc => ?_⟩
  · intro _ _
    exact rsd_mo g X i
  · by_cases hzm : z = moF g i
    · subst hzm; exact h.here
    · refine h.mono z hz fun h1 h2 => ?_
      have e : rsd g X i z = X z := by unfold rsd; rw [if_neg hzm]
      rw [e] at h2
      have h3 := hc h1 h2
      have := rsd_ge g X i (moF g z)
      omega
noncomputable def raiF (g : Gv) (n0 : Nat → Int) : Nat → Int := @dite _ (∃ N,Raised g n0 N) (Classical.propDecidable _) (fun h => Classical.choose h) fun _ _ => 0
theorem raiF_ok {g : Gv} (hg : GvOk g) {n0 : Nat → Int} (hn : ∀ i,i < g.palms.1 → n0 i ≤ 300000) : Raised g n0 (raiF g n0) := by
  have hx := raised_ex hg hn
  have e : raiF g n0 = Classical.choose hx := by unfold raiF; exact @dif_pos _ (Classical.propDecidable _) hx _ _ _
  rw [e]; exact Classical.choose_spec hx
theorem raiF_le {g : Gv} (hg : GvOk g) {n0 : Nat → Int} (hn : ∀ i,i < g.palms.1 → n0 i ≤ 300000) : ∀ i,i < g.palms.1 → raiF g n0 i ≤ 300001 := by
  have hM : Upw g n0 fun _ => 300001 := ⟨fun i hi => by have := hn i hi; show n0 i ≤ 300001; omega,fun i hi _ _ => by
    have := (hg.pms.pl i hi).2
    show (300001 : Int) > _; omega⟩
  exact fun i hi => (raiF_ok hg hn).2 _ hM i hi
structure Grown (g : Gv) (bx bx' : Bx) (nx : Nat) (X' : Nat → Int) : Prop where
  here : ∃ c,bget bx' 2 = some (.row 3 1 g.palms.1 c) ∧ ∀ z,z < g.palms.1 → c z 0 = .int .i64 (X' z)
  old : ∀ y,y < nx → y ≠ 2 → bget bx' y = bget bx y
theorem kept_of {nx : Nat} {T : Bx} : ∀ {bx : Bx},(∀ y,y < nx → (∃ c,bget bx y = some c) → ∃ c,bget T y = some c) → kept nx T bx := by
  intro bx
  induction bx with
  | nil => intro _; trivial
  | cons p l ih =>
    obtain ⟨b,c⟩ := p
    intro h
    refine ⟨fun hb => h b hb ⟨c,by simp [bget]⟩,ih fun y hy ⟨c',hc'⟩ => h y hy ?_⟩
    by_cases e : b = y
    · exact ⟨c,by simp [bget,e]⟩
    · exact ⟨c',by simp only [bget,if_neg e]; exact hc'⟩
theorem isAt_self (l : Pms) : IsAt l (.mview .i64 (hasP l) fun k => .int .i64 (lstP l k)) = True := eq_true ⟨rfl,fun _ => ⟨rfl,fun _ => rfl⟩⟩
set_option maxHeartbeats 2000000 in
set_option maxRecDepth 100000 in
theorem up_run {S : List (FuncId × Spec)} {I : List (FuncId × AFun)} {Q : Val → Bx → Prop} (h72 : lkp S 72 = some sLate) (h43 : lkp S 43 = some sGreatest) (h88 : lkp S 88 = none) (h88' : lkp I 88 = some a88) (h72' : lkp I 72 = none) (h43' : lkp I 43 = none) {g : Gv} (hg : GvOk g) {n0 L : Nat → Int} (hL : Upw g n0 L) (hLb : ∀ i,i < g.palms.1 → L i ≤ 300001) :
    ∀ (d i : Nat) (X : Nat → Int) (c : Nat → Nat → Val) (bx : Bx) (nx N : Nat) (f : SFrame) (stk : List SFrame),i < g.palms.1 → g.palms.1 ≤ rankF g i + d → 20 + 100 * d ≤ N → 4 ≤ nx →
      bget bx 0 = some (.cells (Pt.L g)) → bget bx 1 = some (.cells (.cons (.own 2) .nil)) → bget bx 2 = some (.row 3 1 g.palms.1 c) → (∀ z,z < g.palms.1 → c z 0 = .int .i64 (X z)) → bget bx 3 = some (.cells (.cons (.func (.func 88) (.cons (.ptr 0 0) (.cons (.ptr 1 0) (.cons (.ptr 3 0) .nil)))) .nil)) →
      (∀ z,z < g.palms.1 → 0 ≤ X z ∧ X z ≤ L z) →
      (∀ X' bx' nx' M,N ≤ M + 100 * d → nx ≤ nx' → UpPost g L X X' i → Grown g bx bx' nx X' → runO (mkE G S I) Q M f.K stk f.res (fput f.fr f.d (.tup .nil)) bx' nx') →
      runO (mkE G S I) Q N [.code a88.code] (f :: stk) a88.res (params 0 [.int .i64 i,.ptr 0 0,.ptr 1 0,.ptr 3 0]) bx nx := by
  intro d
  induction d with
  | zero => intro i X c bx nx N f stk hi hr; have := rank_n hi; omega
  | succ d ih =>
    intro i X c bx nx N f stk hi hr hN hnx b0 b1 b2 hc2 b3 hX hK
    have ci := hc2 i hi
    obtain ⟨N,rfl⟩ : ∃ m,N = m + 100 := ⟨N - 100,by omega⟩
    by_cases hc : lateP g i ∧ X i > (g.palms.2 i).planted
    · obtain ⟨hl,hx⟩ := hc
      have e3 := decP_t hl
      have f1 : (X i ≤ (g.palms.2 i).planted) = False := eq_false (by omega)
      obtain ⟨hk1,hk2⟩ := hg.lst hi hl.1
      obtain ⟨hm1,hm2,hm3⟩ := hg.mo hi hl.1
      have hpl := hg.pms.pl i hi
      have e1 : IntKind.i64.wrap ((g.palms.2 i).planted + 1) = (g.palms.2 i).planted + 1 := wr64 (by omega) (by omega)
      have g0 : (nx = 0) = False := eq_false (by omega)
      have g1 : (nx = 1) = False := eq_false (by omega)
      have g2 : (nx = 2) = False := eq_false (by omega)
      have g3 : (nx = 3) = False := eq_false (by omega)
      have cm := hc2 _ hm1
      simp only [a88]
      simp only [h72,h43,h88,h88',sLate,sGreatest,maxF,TPt,Pt.L,Pt.Is,Pt.of,isAt_self,b0,b1,b2,ci,b3,e3,f1,hk1,hk2,e1,g2,g3,cm,bget_bset,flatO,↓imp_ft,↓imp_ff,runO_4,runO_5,runO_14,runO_17,runO_18,runO_19,aop,binV,reOk,Nat.zero_sub,ev,fget,fput,params,cellsOf,cellsN,isLB,vget,vset,vlen,bget,bset,addB,addN,mkv,sliceV,vtab,rowsV,rowsOk,vrep,frz,opOwns,preFz,owns,skipOp,WfT,casts,castOks,cast1,castOk,norm,norms,norm1,normL,pureB,pureL,flatB,onesB,snapV,snapOk,snapL,snapOks,specV,argsL,capsL,mkE_S,mkE_I,pickV,mgetV,Val.toInt,Val.slen,Val.scell,↓reduceIte,reduceCtorEq,Nat.reduceEqDiff,Nat.reduceAdd,Nat.reduceSub,Nat.reduceLeDiff,Nat.reduceLT,Nat.zero_add,Nat.add_zero,Nat.sub_zero,decide_false,List.length_cons,List.length_nil,List.nil_append,List.cons_append,List.append_nil,Bool.and_true,Bool.and_false,Bool.and_self,bne_self_eq_false,Bool.not_true,and_true,true_and,and_self,and_assoc,forall_const,implies_true,Nat.le_refl,inat,spec2,TSl,IsSl,TInt,IsInt,RInt,Prod.eta,Pm.c0,Pm.c1,Pm.c2,Pm.c3,Pm.c4,RPm,Pm.w_c,Pm.d,Pm.eta,Pl.c0,Pl.c1,RPl,Pl.w_c,Pl.d,Pl.eta,Gv.Is,Gv.of,Gv.d,Gv.eta,toUI_val]
      refine ⟨by omega,by omega,by omega,by omega,by omega,by omega,by omega,by omega,by omega,by omega,by omega,by omega,fun z hz => ?_,by omega,by omega,?_⟩
      · obtain rfl : z = 0 := by omega
        rfl
      have hrl := rsd_le hL (fun z hz => (hX z hz).2) hi hl hx
      refine ih (moF g i) (rsd g X i) (fun i' j' => if i' = moF g i ∧ 0 ≤ j' ∧ j' < 1 then vget (.cons (.int .i64 (max (X (moF g i)) ((g.palms.2 i).planted + 1))) .nil) j' else c i' j') _ _ _ _ _ hm1 (by have := rank_mo hg hi hl.1; omega) (by omega) (by omega) ?_ ?_ ?_ ?_ ?_ ?_ ?_
      · simp only [bget,g0,bget_bset,if_false]; exact b0
      · simp only [bget,g1,bget_bset,if_false]; exact b1
      · simp only [bget,g2,bget_bset,if_false]; rfl
      · intro z hz
        by_cases hzm : z = moF g i
        · subst hzm
          simp [vget,rsd]
        · simp only [hzm,false_and,if_false,rsd]
          exact hc2 z hz
      · simp only [bget,g3,bget_bset,if_false]; exact b3
      · intro z hz
        exact ⟨Int.le_trans (hX z hz).1 (rsd_ge g X i z),hrl z hz⟩
      · intro X' bx' nx' M hM hn' hpost hgr
        obtain ⟨M,rfl⟩ : ∃ m,M = m + 20 := ⟨M - 20,by omega⟩
        simp only [runO_2,runO_18,fput,resV,resL,true_and]
        refine hK X' bx' nx' _ (by omega) (by omega) (hpost.some hg hi hl) ⟨hgr.here,fun y hy h2 => ?_⟩
        rw [hgr.old y (by omega) h2]
        simp only [bget,if_neg (show ¬ nx = y from by omega),bget_bset,if_neg h2]
    · by_cases hl : lateP g i
      · have e3 := decP_t hl
        have f1 : (X i ≤ (g.palms.2 i).planted) = True := eq_true (by have : ¬ X i > (g.palms.2 i).planted := fun h => hc ⟨hl,h⟩; omega)
        simp only [a88]
        simp only [h72,sLate,TPt,Pt.L,Pt.Is,Pt.of,isAt_self,b0,b1,b2,ci,e3,f1,↓imp_tt,↓imp_tf,↓imp_ft,↓imp_ff,runO_3,runO_5,runO_14,runO_17,runO_18,runO_19,aop,binV,ends,ev,fget,fput,params,cellsOf,isLB,vget,vlen,addB,addN,mkv,sliceV,vtab,frz,opOwns,preFz,skipOp,WfT,resV,resL,casts,castOks,cast1,castOk,norm,norms,norm1,normL,pureB,pureL,specV,argsL,capsL,mkE_S,pickV,Val.toInt,Val.slen,Val.scell,↓reduceIte,reduceCtorEq,Nat.reduceEqDiff,Nat.reduceAdd,Nat.reduceSub,Nat.reduceLeDiff,Nat.zero_add,Nat.add_zero,decide_true,List.length_cons,List.length_nil,List.append_nil,Bool.and_self,bne_self_eq_false,Bool.not_true,and_true,true_and,and_self,and_assoc,forall_const,implies_true,Nat.le_refl,inat,spec2,TInt,IsInt,RInt,Prod.eta,Pm.c0,Pm.c1,Pm.c2,Pm.c3,Pm.c4,RPm,Pm.w_c,Pm.d,Pm.eta,Pl.c0,Pl.c1,RPl,Pl.w_c,Pl.d,Pl.eta,Gv.Is,Gv.of,Gv.d,Gv.eta,toUI_val]
        refine ⟨by omega,by omega,by omega,by omega,by omega,by omega,hK X bx nx _ (by omega) (Nat.le_refl _) (.none (fun z hz => (hX z hz).2) hc) ⟨⟨c,b2,hc2⟩,fun _ _ _ => rfl⟩⟩
      · have e3 := decP_f hl
        simp only [a88]
        simp only [h72,sLate,TPt,Pt.L,Pt.Is,Pt.of,isAt_self,b0,e3,↓imp_tt,↓imp_tf,runO_3,runO_5,runO_14,runO_17,runO_18,runO_19,aop,ends,Nat.zero_sub,ev,fget,fput,params,cellsOf,isLB,vget,vlen,addB,addN,mkv,sliceV,vtab,frz,opOwns,preFz,skipOp,WfT,resV,resL,norm,norms,norm1,normL,pureB,pureL,specV,argsL,capsL,mkE_S,pickV,Val.toInt,Val.slen,Val.scell,↓reduceIte,reduceCtorEq,Nat.reduceEqDiff,Nat.reduceAdd,Nat.reduceSub,Nat.zero_add,List.length_cons,List.length_nil,List.append_nil,Bool.and_self,Bool.bne_false,Bool.not_false,and_true,true_and,and_self,and_assoc,forall_const,implies_true,Nat.le_refl,inat,spec2,TInt,IsInt,RInt,Prod.eta,Pm.c0,Pm.c1,Pm.c2,Pm.c3,Pm.c4,RPm,Pm.w_c,Pm.d,Pm.eta,Pl.c0,Pl.c1,RPl,Pl.w_c,Pl.d,Pl.eta,Gv.Is,Gv.of,Gv.d,Gv.eta,toUI_val]
        refine ⟨by omega,by omega,hK X bx nx _ (by omega) (Nat.le_refl _) (.none (fun z hz => (hX z hz).2) hc) ⟨⟨c,b2,hc2⟩,fun _ _ _ => rfl⟩⟩
theorem clo_raised {g : Gv} {n0 L X : Nat → Int} (hL : Raised g n0 L) (h1 : ∀ i,i < g.palms.1 → n0 i ≤ X i) (h2 : ∀ i,i < g.palms.1 → X i ≤ L i) (h3 : ∀ i,i < g.palms.1 → Clo g X i) : ∀ i,i < g.palms.1 → X i = L i := fun i hi => by
  have := hL.2 X ⟨h1,fun i hi => h3 i hi⟩ i hi
  have := h2 i hi
  omega
noncomputable def sRaised : Spec := spec2 TPt (TSl (RInt .i64)) (fun g n => GvOk g ∧ n.1 = g.palms.1 ∧ ∀ i,i < g.palms.1 → 0 ≤ n.2 i ∧ n.2 i ≤ 300000) fun g n => .view 1 g.palms.1 fun i _ => .int .i64 (raiF g n.2 i)
set_option maxHeartbeats 2000000 in
set_option maxRecDepth 100000 in
theorem pRaised : PureOk Try.prog G 67 sRaised := by
  refine fn2 (S := [(72,sLate),(43,sGreatest)]) (I := [(87,a87),(88,a88)]) mixed (.cons pLate (.cons pGreatest .nil)) (.cons Try.func87 c87 (.cons Try.func88 c88 .nil)) Try.func67 c67 fun g n hp hw => ?_
  obtain ⟨hg,hn,hb⟩ := hp
  simp only [TPt,Pt.L,vl,WfT,Val.toInt,Val.slen,Val.scell,Nat.reduceSub,and_true,true_and,and_self,and_assoc,maxLen,Nat.reducePow,TSl,RInt,RPm,Pm.d,RPl,Pl.d] at hw
  obtain ⟨w1,w2,w3,w4⟩ := hw
  simp only [RunTo,a67,a87,TPt,Pt.L,hn,w1,runO_3,runO_4,runO_5,runO_6,runO_14,runO_15,runO_17,runO_18,runO_19,aop,ends,reOk,Nat.zero_sub,ev,evs,fget,fput,params,cellsOf,cellsN,isLB,vget,vset,vsets,vlen,bget,bset,addB,addN,mkv,sliceV,vtab,rowsV,rowsOk,vrep,frz,opOwns,preFz,skipOp,WfT,resV,res1,pureB,onesB,argsL,capsL,mkE_S,mkE_I,mkE_G,lkp,lenV,subFr,subV,subBx,subStk,elemsV,Fin,Val.toInt,Val.slen,Val.scell,↓reduceIte,reduceCtorEq,Nat.reduceEqDiff,Nat.reduceAdd,Nat.reduceSub,Nat.reduceLT,Nat.zero_add,Nat.sub_zero,List.length_cons,List.length_nil,List.append_nil,List.flatMap_nil,Bool.and_self,Bool.bne_false,true_and,and_self,forall_const,Nat.le_refl,or_false,maxLen,Nat.reducePow,TSl,RInt,RPm,Pm.d,RPl,Pl.d]
  have hn24 := hg.pms.n
  have hL := raiF_ok hg fun i hi => (hb i hi).2
  have hLb := raiF_le hg fun i hi => (hb i hi).2
  refine fun t ht => ⟨fun h => ?_,fun h => ⟨by omega,?_⟩⟩
  · have h0 : g.palms.1 = 0 := by
      rcases Nat.eq_zero_or_pos g.palms.1 with h0 | h0
      · exact h0
      · have := ht h0; rw [h] at this; cases this
    refine loopI (ι := Nat) (fun j => j = 0) (fun j => 0) [3,5,11] (fun j => [(12,.int .i64 j)]) (fun _ => []) 0 rfl (by simp only [Chk,chkFr,chkBx,chkBx1,hasB,idsLt,kept,vs_int,vs_nil,vs_nils,vs_ptr,vs_cons,vs_func,vs_view,vs_mview,fget,isLB,bget,vsubP_self,↓reduceIte,reduceCtorEq,Nat.reduceEqDiff,Nat.reduceLT,Int.cast_ofNat_Int,and_self,forall_const,implies_true,Option.some.injEq,exists_eq',keepF,appF,updB]; try rfl) fun j hj => ?_
    subst hj
    simp only [h0,↓imp_ft,↓imp_ff,runO_3,runO_5,runO_9,runO_14,runO_17,runO_18,runO_19,aop,binV,ends,ev,fget,fput,vget,vlen,bget,addB,addN,mkv,sliceV,vtab,frz,opOwns,preFz,skipOp,WfT,resV,res1,snapV,snapOk,popTo,stkFr,stkNx,vp_viewn,↓reduceIte,Nat.reduceEqDiff,Nat.zero_add,Int.cast_ofNat_Int,Int.reduceLT,decide_false,List.length_cons,List.length_nil,and_self,forall_const,Nat.le_refl,keepF,appF,updB]
    try simp [h0]
  · refine loopI (ι := Nat × (Nat → Int) × (Nat → Nat → Val)) (fun s => s.1 ≤ g.palms.1 ∧ (∀ z,z < g.palms.1 → n.2 z ≤ s.2.1 z ∧ s.2.1 z ≤ raiF g n.2 z ∧ s.2.2 z 0 = .int .i64 (s.2.1 z)) ∧ ∀ z,z < s.1 → Clo g s.2.1 z) (fun s => g.palms.1 - s.1) [3,5,11] (fun s => [(12,.int .i64 s.1)]) (fun s => [(2,.row 3 1 g.palms.1 s.2.2)]) (0,n.2,fun i _ => .int .i64 (n.2 i)) ⟨by omega,fun z hz => ⟨Int.le_refl _,hL.1.1 z hz,rfl⟩,fun z h => by omega⟩ (by simp only [Chk,chkFr,chkBx,chkBx1,newIn,hasB,idsLt,kept,vs_int,vs_nil,vs_own,vs_ptr,vs_cons,vs_func,vs_view,vs_mview,fget,isLB,bget,bset,vp_int,vsubP_self,↓reduceIte,reduceCtorEq,Nat.reduceEqDiff,Nat.reduceLT,Int.cast_ofNat_Int,and_true,true_and,and_self,forall_const,implies_true,Option.some.injEq,exists_eq',or_false,keepF,appF,updB]; try simp) fun s hs => ?_
    obtain ⟨j,X,c⟩ := s
    obtain ⟨hj1,hj2,hj3⟩ := hs
    simp only at hj1 hj2 hj3
    by_cases hjl : j < g.palms.1
    · have fj : ((j : Int) < (g.palms.1 : Int)) = True := eq_true (by omega)
      simp only [fj,↓imp_tt,↓imp_tf,runO_4,runO_5,runO_6,runO_14,runO_17,runO_18,runO_19,aop,binV,ev,fget,fput,params,isLB,vget,vlen,bget,bset,addB,addN,mkv,sliceV,vtab,frz,opOwns,preFz,skipOp,WfT,argsL,capsL,mkE_S,mkE_I,lkp,stkFr,stkNx,↓reduceIte,Nat.reduceEqDiff,Nat.reduceAdd,Nat.zero_add,decide_true,List.length_cons,List.length_nil,List.nil_append,List.cons_append,and_true,true_and,and_self,forall_const,Nat.le_refl,keepF,appF,updB]
      have hX0 : ∀ z,z < g.palms.1 → 0 ≤ X z ∧ X z ≤ raiF g n.2 z := fun z hz => by
        have := hj2 z hz; have := hb z hz; omega
      refine up_run rfl rfl rfl rfl rfl rfl hg hL.1 hLb (g.palms.1 - rankF g j) j X c _ _ _ _ _ hjl (by omega) (by omega) (by omega) rfl rfl rfl (fun z hz => (hj2 z hz).2.2) rfl hX0 fun X' bx' nx' M hM hnx hpost hgr => ?_
      obtain ⟨M,rfl⟩ : ∃ m,M = m + 50 := ⟨M - 50,by omega⟩
      obtain ⟨⟨c',hc1,hc2⟩,hold⟩ := hgr
      have o0 := hold 0 (by omega) (by omega)
      have o1 := hold 1 (by omega) (by omega)
      have o3 := hold 3 (by omega) (by omega)
      simp only [bget,↓reduceIte,reduceCtorEq,Nat.reduceEqDiff] at o0 o1 o3
      simp only [runO_8,runO_16,runO_17,runO_18,runO_19,aop,binV,ev,fget,fput,addB,addN,frz,opOwns,preFz,skipOp,WfT,stkFr,↓reduceIte,Nat.reduceEqDiff,true_and,and_self,forall_const]
      refine inv_intro (j + 1,X',c') ⟨hjl,fun z hz => ⟨Int.le_trans (hj2 z hz).1 (hpost.lo z hz),hpost.hi z hz,hc2 z hz⟩,fun z hz => ?_⟩ (by simp only; omega) ?_
      · rcases Nat.lt_or_ge z j with h5 | h5
        · exact hpost.mono z (by omega) (hj3 z h5)
        · obtain rfl : z = j := by omega
          exact hpost.here
      · simp only [o0,o1,o3,hc1,Chk,chkFr,chkBx,chkBx1,newIn,hasB,idsLt,vs_int,vs_nil,vs_own,vs_ptr,vs_cons,vs_func,vs_view,vs_mview,fget,isLB,bget,vsubP_self,↓reduceIte,reduceCtorEq,Nat.reduceEqDiff,Nat.reduceLT,and_true,true_and,and_self,forall_const,implies_true,Option.some.injEq,Val.int.injEq,exists_eq',or_false]
        rw [wrS (by omega)]
        refine ⟨rfl,kept_of fun y hy _ => ?_⟩
        rcases (by omega : y = 0 ∨ y = 1 ∨ y = 2 ∨ y = 3) with rfl | rfl | rfl | rfl <;> exact ⟨_,rfl⟩
    · have fj : ((j : Int) < (g.palms.1 : Int)) = False := eq_false (by omega)
      simp only [fj,↓imp_ft,↓imp_ff,runO_3,runO_5,runO_9,runO_14,runO_17,runO_18,runO_19,aop,binV,ends,ev,fget,fput,vget,vlen,bget,bset,addB,addN,mkv,sliceV,vtab,frz,opOwns,preFz,skipOp,WfT,resV,res1,snapV,snapOk,popTo,stkFr,stkNx,vp_int,vp_view,↓reduceIte,Nat.reduceEqDiff,Nat.zero_add,decide_false,List.length_cons,List.length_nil,true_and,and_self,forall_const,Nat.le_refl,keepF,appF,updB]
      have he := clo_raised hL (fun z hz => (hj2 z hz).1) (fun z hz => (hj2 z hz).2.1) fun z hz => hj3 z (by omega)
      intro z hz b hb
      obtain rfl : b = 0 := by omega
      rw [(hj2 z hz).2.2,he z hz]
end Go.Proofs.Ytpknbojgkkmonaa
