/- Groves, the program: soonest, read, Soonest, asked. No condition but bounds. -/
import Derived.Test.YtpknbojgkkmonaaWSpr
set_option linter.unusedSimpArgs false
set_option linter.unusedVariables false
namespace Go.Proofs.Ytpknbojgkkmonaa
open Go Go.RowKit
variable {G : Nat → Option (Nat × (Nat → Val))}
theorem least_nat {n : Nat} {p : Nat → Prop} {f : Nat → Int} (h : ∃ i,i < n ∧ p i) : ∃ i,i < n ∧ p i ∧ ∀ j,j < n → p j → f i ≤ f j := by
  have hb : ∃ b : Int,∀ j,j < n → b ≤ f j := by
    induction n with
    | zero => exact ⟨0,fun j h => absurd h (Nat.not_lt_zero _)⟩
    | succ n ih =>
      by_cases h2 : ∃ i,i < n ∧ p i
      · obtain ⟨b,hb⟩ := ih h2
        exact ⟨min b (f n),fun j hj => by
          rcases Nat.lt_or_ge j n with h3 | h3
          · have := hb j h3; omega
          · obtain rfl : j = n := by omega
            omega⟩
      · clear ih h h2
        have : ∀ n,∃ b : Int,∀ j,j < n → b ≤ f j := by
          intro n; induction n with
          | zero => exact ⟨0,fun j h => absurd h (Nat.not_lt_zero _)⟩
          | succ n ih =>
            obtain ⟨b,hb⟩ := ih
            exact ⟨min b (f n),fun j hj => by
              rcases Nat.lt_or_ge j n with h3 | h3
              · have := hb j h3; omega
              · obtain rfl : j = n := by omega
                omega⟩
        exact this _
  obtain ⟨b,hb⟩ := hb
  obtain ⟨i,hi,hp⟩ := h
  obtain ⟨z,⟨x,h1,h2,h3⟩,h4⟩ := leastInt (p := fun z => ∃ i,i < n ∧ p i ∧ f i = z) (b := b) (fun z ⟨i,h1,_,h2⟩ => by rw [← h2]; exact hb i h1) ⟨_,i,hi,hp,rfl⟩
  exact ⟨x,h1,h2,fun j hj hpj => by rw [h3]; exact h4 _ ⟨j,hj,hpj,rfl⟩⟩
section
variable {g : Gv} {N n0 : Nat → Int}
theorem first_ex (hg : GvOk g) : ∃ D,First g N D := by
  have key : ∀ m : Nat,∀ D has,Dj g N D has → cntN has g.palms.1 = m → ∃ D,First g N D := by
    intro m
    induction m using Nat.strongRecOn with
    | ind m ih =>
      intro D has hDj hm
      by_cases hx : ∃ k,k < g.palms.1 ∧ (has k ∧ D k < 100001)
      · obtain ⟨k,hk1,hk2,hk3⟩ := hx
        obtain ⟨x,h1,h2,h3⟩ := least_nat (f := D) ⟨k,hk1,hk2⟩
        have := h3 k hk1 hk2
        refine ih _ ?_ _ _ (hDj.next hg h1 h2 h3 (by omega)) rfl
        rw [← hm]
        exact cntN_lt (i := x) (fun j _ h => h.1) h1 (fun h => h.2 rfl) h2
      · exact ⟨D,hDj.last hg fun k hk hD hh => hx ⟨k,hk,hh,hD⟩⟩
  exact key _ _ _ (Dj.start hg) rfl
theorem days_ok (hg : GvOk g) (hn : ∀ i,i < g.palms.1 → n0 i ≤ 100001) : DaysP g n0 (daysF g n0) := by
  obtain ⟨D,hD⟩ := first_ex (N := raiF g n0) hg
  exact daysF_ok ⟨_,raiF_ok hg fun i hi => by have := hn i hi; omega,hD⟩
theorem First.low (hg : GvOk g) {D : Nat → Int} (h : First g N D) : ∀ i,i < g.palms.1 → g.start ≤ D i ∧ D i ≤ 100001 := by
  have hha := hg.hatch
  have hst := hg.start
  intro i hi
  refine ⟨h.2 (fun _ => g.start) ⟨fun i _ => ?_,fun i _ _ _ => Int.le_refl _,fun i k _ _ _ _ _ => ?_,fun i k _ _ _ h => ?_⟩ i hi,h.1.top i hi⟩
  · show g.start ≤ _; omega
  · show g.start ≤ _; unfold flyF; omega
  · have := h.2.1; show g.start ≤ _; omega
theorem days_bd (hg : GvOk g) (hn : ∀ i,i < g.palms.1 → n0 i ≤ 100001) : ∀ i,i < g.palms.1 → g.start ≤ daysF g n0 i ∧ daysF g n0 i ≤ 100001 := by
  obtain ⟨N,_,h⟩ := days_ok hg hn
  exact h.low hg
end
noncomputable def dyF (g : Gv) (l : Sgs) (m : Nat) : Nat → Int := daysF g (lowF g l.2 m)
def okP (g : Gv) (l : Sgs) (m : Nat) : Prop := ∀ i,i < m → fitP g (l.2 i) (dyF g l m)
noncomputable def okB (g : Gv) (l : Sgs) : Bool := decP (okP g l l.1)
noncomputable def badI (g : Gv) (l : Sgs) : Nat := fstI (fun n => ¬ okP g l (n + 1)) l.1
noncomputable def sooE (g : Gv) (l : Sgs) : Int := if okB g l = true then 0 else 92
noncomputable def sooA (g : Gv) (l : Sgs) : Int := if okB g l = true then 0 else badI g l
noncomputable def sooD (g : Gv) (l : Sgs) : Val := if okB g l = true then .view 1 g.palms.1 fun i _ => .int .i64 (dyF g l l.1 i) else .nils
noncomputable def sSoon : Spec := spec2 TPt (TSl RSg) (fun g l => GvOk g ∧ SgsOk g l) fun g l => .tup (.cons (sooD g l) (.cons (.int .i64 (sooA g l)) (.cons (.int .i64 (sooE g l)) .nil)))
set_option maxHeartbeats 4000000 in
set_option maxRecDepth 100000 in
theorem pSoon : PureOk Try.prog G 52 sSoon := by
  refine fn2 (S := [(42,sBefore),(45,sSpread),(44,sMisfit)]) (I := []) mixed (.cons pBefore (.cons pSpread (.cons pMisfit .nil))) .nil Try.func52 c52 fun g l hp hw => ?_
  obtain ⟨hg,hl30,hl⟩ := hp
  simp only [TPt,Pt.L,vl,WfT,Val.toInt,Val.slen,Val.scell,Nat.reduceSub,and_true,true_and,and_self,and_assoc,maxLen,Nat.reducePow,TSl,RInt,RPm,Pm.d,RPl,Pl.d,RSg,Sg.d] at hw
  obtain ⟨w1,w2,w3,w4⟩ := hw
  have hn24 := hg.pms.n
  have hlow : ∀ m,m ≤ l.1 → ∀ i,i < g.palms.1 → 0 ≤ lowF g l.2 m i ∧ lowF g l.2 m i ≤ 100001 := fun m hm i _ => lowF_bd hg hl m hm i
  have hst := hg.start
  have hday : ∀ m,m ≤ l.1 → ∀ i,i < g.palms.1 → 0 ≤ dyF g l m i ∧ dyF g l m i ≤ 100001 := fun m hm i hi => by
    have := days_bd hg (n0 := lowF g l.2 m) (fun i hi => (hlow m hm i hi).2) i hi
    unfold dyF; omega
  obtain ⟨dy,hdy⟩ : ∃ dy,dyF g l = dy := ⟨_,rfl⟩
  have hdy' : ∀ m,daysF g (lowF g l.2 m) = dy m := fun m => by rw [← hdy]; rfl
  have hday' : ∀ m,m ≤ l.1 → ∀ i,i < g.palms.1 → 0 ≤ dy m i ∧ dy m i ≤ 100001 := fun m hm i hi => by rw [← hdy]; exact hday m hm i hi
  have hmis : ∀ m,misF g (m,l.2) (dy m) < 0 ↔ okP g l m := fun m => by rw [mis_neg]; unfold okP; rw [hdy]
  by_cases h0 : okP g l l.1
  · have b0 : okB g l = true := decP_t h0
    have f0 : (misF g l (dy l.1) < 0) = True := eq_true ((hmis l.1).2 h0)
    have r1 : sooE g l = 0 := if_pos b0
    have r2 : sooA g l = 0 := if_pos b0
    have r3 : sooD g l = .view 1 g.palms.1 fun i _ => .int .i64 (dy l.1 i) := by unfold sooD; rw [if_pos b0,hdy]
    simp only [RunTo,a52,sBefore,sSpread,sMisfit,TPt,Pt.L,Pt.Is,Pt.of,isAt_self,hg,hdy',f0,r1,r2,r3,w1,w2,w3,w4,flatO,Spec.mine,↓imp_tt,↓imp_tf,runO_3,runO_5,runO_7,runO_14,runO_17,runO_18,runO_19,aop,binV,ends,ev,fget,fput,params,cellsOf,cellsN,isLB,vget,vlen,bget,addB,addN,mkv,sliceV,vtab,frz,opOwns,preFz,callFz,skipOp,WfT,resV,resL,res1,norm,norms,norm1,normL,pureB,pureL,flatB,snapV,snapOk,snapL,snapOks,specV,argsL,capsL,mkE_S,mkE_I,lkp,Fin,vsubP_self,Val.toInt,Val.slen,Val.scell,↓reduceIte,reduceCtorEq,Nat.reduceEqDiff,Nat.reduceAdd,Nat.reduceSub,Nat.reduceLT,Nat.zero_add,decide_true,List.length_cons,List.length_nil,List.append_nil,Bool.and_true,Bool.and_false,Bool.and_self,Bool.not_true,and_true,true_and,and_self,and_assoc,forall_const,implies_true,Nat.le_refl,maxLen,Nat.reducePow,spec2,spec3,TSl,IsSl,RInt,Prod.eta,Pm.c0,Pm.c1,Pm.c2,Pm.c3,Pm.c4,RPm,Pm.w_c,Pm.d,Pm.eta,Pl.c0,Pl.c1,RPl,Pl.w_c,Pl.d,Pl.eta,Gv.Is,Gv.of,Gv.d,Gv.eta,Sg.c0,Sg.c1,Sg.c2,Sg.c3,Sg.c4,Sg.c5,RSg,Sg.w_c,Sg.d,Sg.eta,toUI_val]
    exact ⟨hl,fun i hi => hlow l.1 (Nat.le_refl _) i hi,hl,fun i hi => hday' l.1 (Nat.le_refl _) i hi⟩
  · have b0 : okB g l = false := decP_f h0
    have f0 : (misF g l (dy l.1) < 0) = False := eq_false fun h => h0 ((hmis l.1).1 h)
    have r1 : sooE g l = 92 := by unfold sooE; rw [b0]; rfl
    have r2 : sooA g l = badI g l := by unfold sooA; rw [b0]; rfl
    have r3 : sooD g l = .nils := by unfold sooD; rw [b0]; rfl
    simp only [RunTo,a52,sBefore,sSpread,sMisfit,TPt,Pt.L,Pt.Is,Pt.of,isAt_self,hg,hdy',f0,r1,r2,r3,w1,w2,w3,w4,flatO,Spec.mine,↓imp_ft,↓imp_ff,runO_4,runO_5,runO_6,runO_7,runO_14,runO_15,runO_17,runO_18,runO_19,aop,binV,ev,fget,fput,params,cellsOf,cellsN,isLB,vget,vlen,bget,addB,addN,mkv,sliceV,vtab,frz,opOwns,preFz,callFz,skipOp,WfT,norm,norms,norm1,normL,pureB,pureL,flatB,snapV,snapOk,snapL,snapOks,specV,argsL,capsL,mkE_S,mkE_I,lkp,lenV,Fin,Val.toInt,Val.slen,Val.scell,↓reduceIte,reduceCtorEq,Nat.reduceEqDiff,Nat.reduceAdd,Nat.reduceSub,Nat.reduceLT,Nat.zero_add,decide_false,List.length_cons,List.length_nil,List.append_nil,Bool.and_true,Bool.and_false,Bool.and_self,Bool.not_true,and_true,true_and,and_self,and_assoc,forall_const,implies_true,Nat.le_refl,maxLen,Nat.reducePow,spec2,spec3,TSl,IsSl,RInt,Prod.eta,Pm.c0,Pm.c1,Pm.c2,Pm.c3,Pm.c4,RPm,Pm.w_c,Pm.d,Pm.eta,Pl.c0,Pl.c1,RPl,Pl.w_c,Pl.d,Pl.eta,Gv.Is,Gv.of,Gv.d,Gv.eta,Sg.c0,Sg.c1,Sg.c2,Sg.c3,Sg.c4,Sg.c5,RSg,Sg.w_c,Sg.d,Sg.eta,toUI_val]
    refine ⟨hl,fun i hi => hlow l.1 (Nat.le_refl _) i hi,hl,fun i hi => hday' l.1 (Nat.le_refl _) i hi,?_⟩
    refine loopI (ι := Nat) (fun j => j ≤ l.1 ∧ ∀ i,i < j → okP g l (i + 1)) (fun j => l.1 - j) [1,2,21] (fun j => [(22,.int .i64 j)]) (fun _ => []) 0 ⟨by omega,fun i h => by omega⟩ (by simp only [Chk,chkFr,chkBx,chkBx1,hasB,idsLt,kept,vs_int,vs_nil,vs_ptr,vs_cons,vs_view,vs_mview,fget,isLB,bget,vsubP_self,↓reduceIte,reduceCtorEq,Nat.reduceEqDiff,Nat.reduceLT,Int.cast_ofNat_Int,and_self,forall_const,implies_true,Option.some.injEq,exists_eq',keepF,appF,updB]; try rfl) fun j hj => ?_
    obtain ⟨hj1,hj2⟩ := hj
    by_cases hjl : j < l.1
    · have fj : ((j : Int) < (l.1 : Int)) = True := eq_true (by omega)
      have e1 : IntKind.i64.wrap ((j : Int) + 1) = ((j + 1 : Nat) : Int) := by rw [wr64 (by omega) (by omega)]; omega
      by_cases hok : okP g l (j + 1)
      · have f2 : (misF g (j + 1,l.2) (dy (j + 1)) < 0) = True := eq_true ((hmis (j + 1)).2 hok)
        simp only [isAt_self,hg,hdy',fj,e1,f2,w4,Int.sub_zero,Int.toNat_natCast,↓imp_tt,↓imp_tf,runO_4,runO_5,runO_6,runO_9,runO_14,runO_16,runO_17,runO_18,runO_19,aop,binV,ev,fget,fput,isLB,vget,vlen,bget,addB,addN,mkv,sliceV,vtab,frz,opOwns,preFz,callFz,skipOp,WfT,norm,norms,norm1,normL,pureB,pureL,specV,argsL,capsL,mkE_S,mkE_I,lkp,optInt,popTo,stkFr,stkNx,↓reduceIte,reduceCtorEq,Nat.reduceEqDiff,Nat.reduceAdd,Nat.reduceSub,Nat.reduceLeDiff,Nat.zero_add,Int.reduceToNat,Int.reduceLE,decide_true,List.length_cons,List.length_nil,List.append_nil,Bool.and_self,and_true,true_and,and_self,and_assoc,forall_const,implies_true,Nat.le_refl,maxLen,Nat.reducePow,keepF,appF,updB,Prod.eta,Pm.c0,Pm.c1,Pm.c2,Pm.c3,Pm.c4,Pm.w_c,Pm.eta,Pl.c0,Pl.c1,Pl.w_c,Pl.eta,Gv.eta,Sg.c0,Sg.c1,Sg.c2,Sg.c3,Sg.c4,Sg.c5,Sg.w_c,Sg.eta,toUI_val]
        refine ⟨by omega,by omega,fun _ _ => ⟨fun i hi => hl i (by omega),fun i hi => hlow (j + 1) (by omega) i hi,fun i hi => hl i (by omega),fun i hi => hday' (j + 1) (by omega) i hi,inv_intro (j + 1) ⟨by omega,fun i hi => ?_⟩ (by omega) ?_⟩⟩
        · rcases Nat.lt_or_ge i j with h5 | h5
          · exact hj2 i h5
          · obtain rfl : i = j := by omega
            exact hok
        · simp only [Chk,chkFr,chkBx,chkBx1,hasB,idsLt,kept,vs_int,vs_nil,vs_ptr,vs_cons,vs_view,vs_mview,fget,isLB,bget,vsubP_self,↓reduceIte,reduceCtorEq,Nat.reduceEqDiff,Nat.reduceLT,and_self,forall_const,implies_true,Option.some.injEq,exists_eq']
          try rfl
      · have f2 : (misF g (j + 1,l.2) (dy (j + 1)) < 0) = False := eq_false fun h => hok ((hmis (j + 1)).1 h)
        simp only [isAt_self,hg,hdy',fj,e1,f2,w4,Int.sub_zero,Int.toNat_natCast,↓imp_tt,↓imp_tf,↓imp_ft,↓imp_ff,runO_3,runO_4,runO_5,runO_6,runO_14,runO_17,runO_18,runO_19,aop,binV,ends,ev,fget,fput,isLB,vget,vlen,bget,addB,addN,mkv,sliceV,vtab,frz,opOwns,preFz,callFz,skipOp,WfT,resV,resL,res1,norm,norms,norm1,normL,pureB,pureL,snapV,snapOk,specV,argsL,capsL,mkE_S,mkE_I,lkp,optInt,stkFr,stkNx,vp_int,vp_cons,vp_tup,vsubP_self,↓reduceIte,reduceCtorEq,Nat.reduceEqDiff,Nat.reduceAdd,Nat.reduceSub,Nat.reduceLeDiff,Nat.zero_add,Int.reduceToNat,Int.reduceLE,decide_true,decide_false,List.length_cons,List.length_nil,List.append_nil,Bool.and_self,and_true,true_and,and_self,and_assoc,forall_const,implies_true,Nat.le_refl,Val.int.injEq,maxLen,Nat.reducePow,keepF,appF,updB,Prod.eta,Pm.c0,Pm.c1,Pm.c2,Pm.c3,Pm.c4,Pm.w_c,Pm.eta,Pl.c0,Pl.c1,Pl.w_c,Pl.eta,Gv.eta,Sg.c0,Sg.c1,Sg.c2,Sg.c3,Sg.c4,Sg.c5,Sg.w_c,Sg.eta,toUI_val]
        refine ⟨by omega,by omega,fun _ _ => ⟨fun i hi => hl i (by omega),fun i hi => hlow (j + 1) (by omega) i hi,fun i hi => hl i (by omega),fun i hi => hday' (j + 1) (by omega) i hi,?_⟩⟩
        have : badI g l = j := fstI_at hjl hok fun i hi h => h (hj2 i hi)
        rw [this]
    · exfalso
      rcases Nat.eq_zero_or_pos l.1 with h1 | h1
      · exact h0 fun i hi => by omega
      · have := hj2 (l.1 - 1) (by omega)
        rw [Nat.sub_add_cancel h1] at this
        exact h0 this
noncomputable def sRead : Spec := spec2 TGv (TSl RSg) (fun _ _ => True) fun g l => .tup (.cons (ptV g (gvE g)) (.cons (.int .i64 (sgsE g l)) .nil))
set_option maxRecDepth 100000 in
theorem pRead : PureOk Try.prog G 51 sRead := by
  refine fn2 (S := [(55,sOpen),(70,sTold)]) (I := []) mixed (.cons pOpen (.cons pTold .nil)) .nil Try.func51 c51 fun g l _ hw => ?_
  simp only [vl,WfT,Val.toInt,Val.slen,Val.scell,Nat.reduceSub,and_true,true_and,and_assoc,maxLen,Nat.reducePow,TSl,RInt,RPm,Pm.d,RPl,Pl.d,Gv.L,TGv,RSg,Sg.d] at hw
  obtain ⟨w1,w2,w3,w4⟩ := hw
  by_cases h0 : gvE g = 0
  · have hg := gvE_0 h0
    simp only [RunTo,a51,sOpen,sTold,h0,ptV_0,TPt,Pt.L,Pt.Is,Pt.of,isAt_self,hg,w1,w2,w3,↓imp_ft,↓imp_ff,runO_3,runO_4,runO_5,runO_14,runO_17,runO_18,runO_19,aop,binV,ends,reOk,Nat.zero_sub,ev,fget,fput,params,cellsOf,cellsN,isLB,vget,vset,vsets,vlen,bget,bset,addB,addN,mkv,sliceV,vtab,frz,opOwns,preFz,callFz,skipOp,WfT,resV,resL,res1,norm,norms,norm1,normL,pureB,pureL,onesB,snapV,snapOk,specV,argsL,capsL,mkE_S,mkE_I,lkp,Fin,vsubP_self,Val.toInt,Val.slen,Val.scell,↓reduceIte,reduceCtorEq,Nat.reduceEqDiff,Nat.reduceAdd,Nat.reduceSub,Nat.reduceLT,Nat.zero_add,List.length_cons,List.length_nil,List.append_nil,Bool.and_self,bne_self_eq_false,and_true,and_self,and_assoc,forall_const,imp_self,implies_true,Nat.le_refl,maxLen,Nat.reducePow,spec1,spec2,TSl,IsSl,RInt,Prod.eta,Pm.c0,Pm.c1,Pm.c2,Pm.c3,Pm.c4,RPm,Pm.w_c,Pm.d,Pm.eta,Pl.c0,Pl.c1,RPl,Pl.w_c,Pl.d,Pl.eta,Gv.L,Gv.Is,Gv.of,TGv,Gv.d,Gv.eta,Sg.c0,Sg.c1,Sg.c2,Sg.c3,Sg.c4,Sg.c5,RSg,Sg.w_c,Sg.d,Sg.eta,toUI_val]
    try (refine fun k => ⟨rfl,fun _ => rfl⟩)
  · have ez := ptV_no (g := g) h0
    have es := sgsE_g (l := l) h0
    simp only [RunTo,a51,sOpen,ez,es,ptZ,h0,w1,w2,w3,runO_3,runO_4,runO_5,runO_14,runO_17,runO_18,runO_19,aop,binV,ends,reOk,Nat.zero_sub,ev,fget,fput,params,cellsOf,cellsN,isLB,vget,vset,vsets,vlen,bget,bset,addB,addN,mkv,sliceV,vtab,frz,opOwns,preFz,callFz,skipOp,WfT,resV,resL,res1,norm,norms,norm1,normL,pureB,pureL,onesB,snapV,snapOk,specV,argsL,capsL,mkE_S,mkE_I,lkp,Fin,vp_int,vp_cons,vp_tup,vsubP_self,Val.toInt,Val.slen,Val.scell,↓reduceIte,reduceCtorEq,Nat.reduceEqDiff,Nat.reduceAdd,Nat.reduceSub,Nat.reduceLT,Nat.zero_add,bne_iff_ne,bne_eq_false_iff_eq,List.length_cons,List.length_nil,List.append_nil,Bool.and_true,Bool.true_and,Bool.and_self,and_true,true_and,and_self,and_assoc,forall_const,imp_self,implies_true,Nat.le_refl,ne_eq,not_false_eq_true,false_implies,not_false_eq_true,maxLen,Nat.reducePow,spec1,TSl,RInt,Prod.eta,Pm.c0,Pm.c1,Pm.c2,Pm.c3,Pm.c4,RPm,Pm.w_c,Pm.d,Pm.eta,Pl.c0,Pl.c1,RPl,Pl.w_c,Pl.d,Pl.eta,Gv.L,Gv.Is,Gv.of,TGv,Gv.d,Gv.eta,RSg,Sg.d,toUI_val]
noncomputable def stE (g : Gv) (l : Sgs) : Int := if sgsE g l = 0 then sooE g l else sgsE g l
noncomputable def stA (g : Gv) (l : Sgs) : Int := if sgsE g l = 0 then sooA g l else 0
noncomputable def stD (g : Gv) (l : Sgs) : Val := if sgsE g l = 0 then sooD g l else .nils
noncomputable def sSoonest : Spec := spec2 TGv (TSl RSg) (fun _ _ => True) fun g l => .tup (.cons (stD g l) (.cons (.int .i64 (stA g l)) (.cons (.int .i64 (stE g l)) .nil)))
set_option maxRecDepth 100000 in
theorem pSoonest : PureOk Try.prog G 22 sSoonest := by
  refine fn2 (S := [(51,sRead),(52,sSoon)]) (I := []) mixed (.cons pRead (.cons pSoon .nil)) .nil Try.func22 c22 fun g l _ hw => ?_
  simp only [vl,WfT,Val.toInt,Val.slen,Val.scell,Nat.reduceSub,and_true,true_and,and_assoc,maxLen,Nat.reducePow,TSl,RInt,RPm,Pm.d,RPl,Pl.d,Gv.L,TGv,RSg,Sg.d] at hw
  obtain ⟨w1,w2,w3,w4⟩ := hw
  by_cases h0 : sgsE g l = 0
  · obtain ⟨hg,hl⟩ := sgsE_0 h0
    have hg0 := gvE_ok hg
    have r1 : stE g l = sooE g l := if_pos h0
    have r2 : stA g l = sooA g l := if_pos h0
    have r3 : stD g l = sooD g l := if_pos h0
    by_cases hb : okB g l = true
    · have r4 : sooD g l = .view 1 g.palms.1 fun i _ => .int .i64 (dyF g l l.1 i) := if_pos hb
      simp only [RunTo,a22,sRead,sSoon,h0,hg0,ptV_0,TPt,Pt.L,Pt.Is,Pt.of,isAt_self,hg,r1,r2,r3,r4,w1,w2,w3,w4,↓imp_ft,↓imp_ff,runO_3,runO_4,runO_5,runO_14,runO_17,runO_18,runO_19,aop,binV,ends,reOk,Nat.zero_sub,ev,fget,fput,params,cellsOf,cellsN,isLB,vget,vset,vsets,vlen,bget,bset,addB,addN,mkv,sliceV,vtab,frz,opOwns,preFz,callFz,skipOp,WfT,resV,resL,res1,norm,norms,norm1,normL,pureB,pureL,onesB,snapV,snapOk,specV,argsL,capsL,mkE_S,mkE_I,lkp,Fin,vsubP_self,Val.toInt,Val.slen,Val.scell,↓reduceIte,reduceCtorEq,Nat.reduceEqDiff,Nat.reduceAdd,Nat.reduceSub,Nat.reduceLT,Nat.zero_add,List.length_cons,List.length_nil,List.append_nil,Bool.and_self,bne_self_eq_false,and_true,true_and,and_self,and_assoc,forall_const,imp_self,implies_true,Nat.le_refl,maxLen,Nat.reducePow,spec2,TSl,IsSl,RInt,Prod.eta,Pm.c0,Pm.c1,Pm.c2,Pm.c3,Pm.c4,RPm,Pm.w_c,Pm.d,Pm.eta,Pl.c0,Pl.c1,RPl,Pl.w_c,Pl.d,Pl.eta,Gv.L,Gv.Is,Gv.of,TGv,Gv.d,Gv.eta,Sg.c0,Sg.c1,Sg.c2,Sg.c3,Sg.c4,Sg.c5,RSg,Sg.w_c,Sg.d,Sg.eta,toUI_val]
      exact hl
    · have r4 : sooD g l = .nils := if_neg hb
      simp only [RunTo,a22,sRead,sSoon,h0,hg0,ptV_0,TPt,Pt.L,Pt.Is,Pt.of,isAt_self,hg,r1,r2,r3,r4,w1,w2,w3,w4,↓imp_ft,↓imp_ff,runO_3,runO_4,runO_5,runO_14,runO_17,runO_18,runO_19,aop,binV,ends,reOk,Nat.zero_sub,ev,fget,fput,params,cellsOf,cellsN,isLB,vget,vset,vsets,vlen,bget,bset,addB,addN,mkv,sliceV,vtab,frz,opOwns,preFz,callFz,skipOp,WfT,resV,resL,res1,norm,norms,norm1,normL,pureB,pureL,onesB,snapV,snapOk,specV,argsL,capsL,mkE_S,mkE_I,lkp,Fin,vsubP_self,Val.toInt,Val.slen,Val.scell,↓reduceIte,reduceCtorEq,Nat.reduceEqDiff,Nat.reduceAdd,Nat.reduceSub,Nat.reduceLT,Nat.zero_add,List.length_cons,List.length_nil,List.append_nil,Bool.and_self,bne_self_eq_false,and_true,true_and,and_self,and_assoc,forall_const,imp_self,implies_true,Nat.le_refl,maxLen,Nat.reducePow,spec2,TSl,IsSl,RInt,Prod.eta,Pm.c0,Pm.c1,Pm.c2,Pm.c3,Pm.c4,RPm,Pm.w_c,Pm.d,Pm.eta,Pl.c0,Pl.c1,RPl,Pl.w_c,Pl.d,Pl.eta,Gv.L,Gv.Is,Gv.of,TGv,Gv.d,Gv.eta,Sg.c0,Sg.c1,Sg.c2,Sg.c3,Sg.c4,Sg.c5,RSg,Sg.w_c,Sg.d,Sg.eta,toUI_val]
      exact hl
  · have r1 : stE g l = sgsE g l := if_neg h0
    have r2 : stA g l = 0 := if_neg h0
    have r3 : stD g l = .nils := if_neg h0
    by_cases hg0 : gvE g = 0
    · simp only [RunTo,a22,sRead,sSoon,h0,hg0,ptV_0,TPt,Pt.L,r1,r2,r3,w1,w2,w3,w4,runO_3,runO_4,runO_5,runO_14,runO_17,runO_18,runO_19,aop,binV,ends,reOk,Nat.zero_sub,ev,fget,fput,params,cellsOf,cellsN,isLB,vget,vset,vsets,vlen,bget,bset,addB,addN,mkv,sliceV,vtab,frz,opOwns,preFz,callFz,skipOp,WfT,resV,resL,res1,norm,norms,norm1,normL,pureB,pureL,onesB,snapV,snapOk,specV,argsL,capsL,mkE_S,mkE_I,lkp,Fin,vp_int,vp_nils,vp_cons,vp_tup,vsubP_self,Val.toInt,Val.slen,Val.scell,↓reduceIte,reduceCtorEq,Nat.reduceEqDiff,Nat.reduceAdd,Nat.reduceSub,Nat.reduceLT,Nat.zero_add,bne_iff_ne,bne_eq_false_iff_eq,List.length_cons,List.length_nil,List.append_nil,Bool.and_true,Bool.and_self,and_true,true_and,and_self,and_assoc,forall_const,imp_self,implies_true,Nat.le_refl,Val.int.injEq,ne_eq,not_false_eq_true,false_implies,not_false_eq_true,maxLen,Nat.reducePow,spec2,TSl,IsSl,RInt,Prod.eta,Pm.c0,Pm.c1,Pm.c2,Pm.c3,Pm.c4,RPm,Pm.w_c,Pm.d,Pm.eta,Pl.c0,Pl.c1,RPl,Pl.w_c,Pl.d,Pl.eta,Gv.L,Gv.Is,Gv.of,TGv,Gv.d,Gv.eta,Sg.c0,Sg.c1,Sg.c2,Sg.c3,Sg.c4,Sg.c5,RSg,Sg.w_c,Sg.d,Sg.eta,toUI_val]
    · have ez := ptV_no (g := g) hg0
      simp only [RunTo,a22,sRead,sSoon,h0,ez,ptZ,r1,r2,r3,w1,w2,w3,w4,runO_3,runO_4,runO_5,runO_14,runO_17,runO_18,runO_19,aop,binV,ends,reOk,Nat.zero_sub,ev,fget,fput,params,cellsOf,cellsN,isLB,vget,vset,vsets,vlen,bget,bset,addB,addN,mkv,sliceV,vtab,frz,opOwns,preFz,callFz,skipOp,WfT,resV,resL,res1,norm,norms,norm1,normL,pureB,pureL,onesB,snapV,snapOk,specV,argsL,capsL,mkE_S,mkE_I,lkp,Fin,vp_int,vp_nils,vp_cons,vp_tup,vsubP_self,Val.toInt,Val.slen,Val.scell,↓reduceIte,reduceCtorEq,Nat.reduceEqDiff,Nat.reduceAdd,Nat.reduceSub,Nat.reduceLT,Nat.zero_add,bne_iff_ne,bne_eq_false_iff_eq,List.length_cons,List.length_nil,List.append_nil,Bool.and_true,Bool.and_self,and_true,true_and,and_self,and_assoc,forall_const,imp_self,implies_true,Nat.le_refl,Val.int.injEq,ne_eq,not_false_eq_true,false_implies,not_false_eq_true,maxLen,Nat.reducePow,spec2,TSl,IsSl,RInt,Prod.eta,Pm.c0,Pm.c1,Pm.c2,Pm.c3,Pm.c4,RPm,Pm.w_c,Pm.d,Pm.eta,Pl.c0,Pl.c1,RPl,Pl.w_c,Pl.d,Pl.eta,Gv.L,Gv.Is,Gv.of,TGv,Gv.d,Gv.eta,Sg.c0,Sg.c1,Sg.c2,Sg.c3,Sg.c4,Sg.c5,RSg,Sg.w_c,Sg.d,Sg.eta,toUI_val]
noncomputable def asE (g : Gv) (l : Sgs) (day : Int) : Int := if sgsE g l = 0 then (if g.start ≤ day ∧ day ≤ 100000 then sooE g l else 2) else sgsE g l
noncomputable def asD (g : Gv) (l : Sgs) (day : Int) : Val := if asE g l day = 0 then .view 1 g.palms.1 fun i _ => .int .i64 (dyF g l l.1 i) else .nils
noncomputable def sAsked : Spec := spec3 TGv (TSl RSg) TI (fun _ _ _ => True) fun g l day => .tup (.cons (ptV g (gvE g)) (.cons (asD g l day) (.cons (.int .i64 (asE g l day)) .nil)))
set_option maxRecDepth 100000 in
theorem pAsked : PureOk Try.prog G 41 sAsked := by
  refine fn3 (S := [(51,sRead),(52,sSoon),(63,sInP)]) (I := []) mixed (.cons pRead (.cons pSoon (.cons pInP .nil))) .nil Try.func41 c41 fun g l day _ hw => ?_
  simp only [vl,WfT,Val.toInt,Val.slen,Val.scell,Nat.reduceSub,and_true,true_and,and_self,and_assoc,maxLen,Nat.reducePow,TSl,TInt,RInt,RPm,Pm.d,RPl,Pl.d,Gv.L,TGv,RSg,Sg.d] at hw
  obtain ⟨w1,w2,w3,w4⟩ := hw
  by_cases h0 : sgsE g l = 0
  · obtain ⟨hg,hl⟩ := sgsE_0 h0
    have hg0 := gvE_ok hg
    by_cases hd : g.start ≤ day ∧ day ≤ 100000
    · have fd := eq_true hd
      have r1 : asE g l day = sooE g l := by unfold asE; rw [if_pos h0,if_pos hd]
      by_cases hb : okB g l = true
      · have r4 : sooD g l = .view 1 g.palms.1 fun i _ => .int .i64 (dyF g l l.1 i) := if_pos hb
        have r5 : sooE g l = 0 := if_pos hb
        have r3 : asD g l day = .view 1 g.palms.1 fun i _ => .int .i64 (dyF g l l.1 i) := if_pos (by rw [r1,r5])
        simp only [RunTo,a41,sRead,sSoon,sInP,h0,hg0,ptV_0,TPt,Pt.L,Pt.Is,Pt.of,isAt_self,hg,r1,r3,r4,r5,w1,w2,w3,w4,flatO,↓imp_ft,↓imp_ff,runO_3,runO_4,runO_5,runO_14,runO_17,runO_18,runO_19,aop,binV,ends,reOk,Nat.zero_sub,ev,fget,fput,params,cellsOf,cellsN,isLB,vget,vset,vsets,vlen,bget,bset,addB,addN,mkv,sliceV,vtab,rowsV,rowsOk,vrep,frz,opOwns,preFz,callFz,owns,skipOp,WfT,resV,resL,res1,norm,norms,norm1,normL,pureB,pureL,flatB,onesB,snapV,snapOk,snapL,snapOks,specV,argsL,capsL,mkE_S,mkE_I,mkE_G,lkp,Fin,vp_int,vp_cons,vp_tup,vp_viewn,vsubP_self,Val.toInt,Val.slen,Val.scell,↓reduceIte,reduceCtorEq,Nat.reduceEqDiff,Nat.reduceAdd,Nat.reduceSub,Nat.reduceLeDiff,Nat.reduceLT,Nat.zero_add,Int.reduceEq,List.length_cons,List.length_nil,List.append_nil,List.flatMap_cons,List.flatMap_nil,Bool.not_eq_true',Bool.not_eq_false',Bool.and_true,Bool.and_false,Bool.and_self,bne_self_eq_false,Bool.not_true,and_true,true_and,and_self,and_assoc,forall_const,imp_self,implies_true,Nat.le_refl,Val.int.injEq,maxLen,Nat.reducePow,spec2,spec3,TSl,IsSl,TInt,IsInt,RInt,Prod.eta,Pm.c0,Pm.c1,Pm.c2,Pm.c3,Pm.c4,RPm,Pm.w_c,Pm.d,Pm.eta,Pl.c0,Pl.c1,RPl,Pl.w_c,Pl.d,Pl.eta,Gv.L,Gv.Is,Gv.of,TGv,Gv.d,Gv.eta,Sg.c0,Sg.c1,Sg.c2,Sg.c3,Sg.c4,Sg.c5,RSg,Sg.w_c,Sg.d,Sg.eta,toUI_val]
        simp only [lt1,allB_1,fd,vget,decide_true,Bool.true_eq_false,true_and,forall_const,false_implies]
        exact hl
      · have r4 : sooD g l = .nils := if_neg hb
        have r5 : sooE g l = 92 := if_neg hb
        have r3 : asD g l day = .nils := if_neg (by rw [r1,r5]; omega)
        simp only [RunTo,a41,sRead,sSoon,sInP,h0,hg0,ptV_0,TPt,Pt.L,Pt.Is,Pt.of,isAt_self,hg,r1,r3,r4,r5,w1,w2,w3,w4,flatO,↓imp_ft,↓imp_ff,runO_3,runO_4,runO_5,runO_14,runO_17,runO_18,runO_19,aop,binV,ends,reOk,Nat.zero_sub,ev,fget,fput,params,cellsOf,cellsN,isLB,vget,vset,vsets,vlen,bget,bset,addB,addN,mkv,sliceV,vtab,rowsV,rowsOk,vrep,frz,opOwns,preFz,callFz,owns,skipOp,WfT,resV,resL,res1,norm,norms,norm1,normL,pureB,pureL,flatB,onesB,snapV,snapOk,snapL,snapOks,specV,argsL,capsL,mkE_S,mkE_I,mkE_G,lkp,Fin,vp_int,vp_cons,vp_tup,vsubP_self,Val.toInt,Val.slen,Val.scell,↓reduceIte,reduceCtorEq,Nat.reduceEqDiff,Nat.reduceAdd,Nat.reduceSub,Nat.reduceLeDiff,Nat.reduceLT,Nat.zero_add,Int.reduceEq,List.length_cons,List.length_nil,List.append_nil,List.flatMap_cons,List.flatMap_nil,Bool.not_eq_true',Bool.not_eq_false',Bool.and_true,Bool.and_false,Bool.and_self,bne_self_eq_false,Bool.not_true,and_true,true_and,and_self,and_assoc,forall_const,imp_self,implies_true,Nat.le_refl,Val.int.injEq,maxLen,Nat.reducePow,spec2,spec3,TSl,IsSl,TInt,IsInt,RInt,Prod.eta,Pm.c0,Pm.c1,Pm.c2,Pm.c3,Pm.c4,RPm,Pm.w_c,Pm.d,Pm.eta,Pl.c0,Pl.c1,RPl,Pl.w_c,Pl.d,Pl.eta,Gv.L,Gv.Is,Gv.of,TGv,Gv.d,Gv.eta,Sg.c0,Sg.c1,Sg.c2,Sg.c3,Sg.c4,Sg.c5,RSg,Sg.w_c,Sg.d,Sg.eta,toUI_val]
        simp only [lt1,allB_1,fd,vget,decide_true,Bool.true_eq_false,true_and,forall_const,imp_self]
        exact hl
    · have fd := eq_false hd
      have r1 : asE g l day = 2 := by unfold asE; rw [if_pos h0,if_neg hd]
      have r3 : asD g l day = .nils := if_neg (by rw [r1]; omega)
      simp only [RunTo,a41,sRead,sSoon,sInP,h0,hg0,ptV_0,TPt,Pt.L,Pt.Is,Pt.of,isAt_self,hg,r1,r3,w1,w2,w3,w4,flatO,↓imp_ft,↓imp_ff,runO_3,runO_4,runO_5,runO_14,runO_17,runO_18,runO_19,aop,binV,ends,reOk,Nat.zero_sub,ev,fget,fput,params,cellsOf,cellsN,isLB,vget,vset,vsets,vlen,bget,bset,addB,addN,mkv,sliceV,vtab,rowsV,rowsOk,vrep,frz,opOwns,preFz,callFz,owns,skipOp,WfT,resV,resL,res1,norm,norms,norm1,normL,pureB,pureL,flatB,onesB,snapV,snapOk,snapL,snapOks,specV,argsL,capsL,mkE_S,mkE_I,mkE_G,lkp,Fin,vp_int,vp_nils,vp_cons,vp_tup,vsubP_self,Val.toInt,Val.slen,Val.scell,↓reduceIte,reduceCtorEq,Nat.reduceEqDiff,Nat.reduceAdd,Nat.reduceSub,Nat.reduceLeDiff,Nat.reduceLT,Nat.zero_add,List.length_cons,List.length_nil,List.append_nil,List.flatMap_cons,List.flatMap_nil,Bool.not_eq_true',Bool.not_eq_false',Bool.and_true,Bool.and_false,Bool.true_and,Bool.and_self,bne_self_eq_false,Bool.not_true,and_true,true_and,and_self,and_assoc,forall_const,imp_self,implies_true,Nat.le_refl,Val.int.injEq,maxLen,Nat.reducePow,spec2,spec3,TSl,IsSl,TInt,IsInt,RInt,Prod.eta,Pm.c0,Pm.c1,Pm.c2,Pm.c3,Pm.c4,RPm,Pm.w_c,Pm.d,Pm.eta,Pl.c0,Pl.c1,RPl,Pl.w_c,Pl.d,Pl.eta,Gv.L,Gv.Is,Gv.of,TGv,Gv.d,Gv.eta,Sg.c0,Sg.c1,Sg.c2,Sg.c3,Sg.c4,Sg.c5,RSg,Sg.w_c,Sg.d,Sg.eta,toUI_val]
      simp only [lt1,allB_1,fd,vget,decide_false,Bool.false_eq_true,and_self,false_implies]
  · have r1 : asE g l day = sgsE g l := if_neg h0
    have r3 : asD g l day = .nils := if_neg (by rw [r1]; exact h0)
    by_cases hg0 : gvE g = 0
    · simp only [RunTo,a41,sRead,sSoon,sInP,h0,hg0,ptV_0,TPt,Pt.L,r1,r3,w1,w2,w3,w4,flatO,runO_3,runO_4,runO_5,runO_14,runO_17,runO_18,runO_19,aop,binV,ends,reOk,Nat.zero_sub,ev,fget,fput,params,cellsOf,cellsN,isLB,vget,vset,vsets,vlen,bget,bset,addB,addN,mkv,sliceV,vtab,rowsV,rowsOk,vrep,frz,opOwns,preFz,callFz,owns,skipOp,WfT,resV,resL,res1,norm,norms,norm1,normL,pureB,pureL,flatB,onesB,snapV,snapOk,snapL,snapOks,specV,argsL,capsL,mkE_S,mkE_I,mkE_G,lkp,Fin,vp_int,vp_nils,vp_cons,vp_tup,vsubP_self,Val.toInt,Val.slen,Val.scell,↓reduceIte,reduceCtorEq,Nat.reduceEqDiff,Nat.reduceAdd,Nat.reduceSub,Nat.reduceLeDiff,Nat.reduceLT,Nat.zero_add,bne_iff_ne,bne_eq_false_iff_eq,List.length_cons,List.length_nil,List.append_nil,List.flatMap_cons,List.flatMap_nil,Bool.not_eq_true',Bool.not_eq_false',Bool.and_true,Bool.and_false,Bool.true_and,Bool.and_self,Bool.not_true,and_true,true_and,and_self,and_assoc,forall_const,imp_self,implies_true,Nat.le_refl,Val.int.injEq,ne_eq,not_false_eq_true,false_implies,not_false_eq_true,maxLen,Nat.reducePow,spec2,spec3,TSl,IsSl,TInt,IsInt,RInt,Prod.eta,Pm.c0,Pm.c1,Pm.c2,Pm.c3,Pm.c4,RPm,Pm.w_c,Pm.d,Pm.eta,Pl.c0,Pl.c1,RPl,Pl.w_c,Pl.d,Pl.eta,Gv.L,Gv.Is,Gv.of,TGv,Gv.d,Gv.eta,Sg.c0,Sg.c1,Sg.c2,Sg.c3,Sg.c4,Sg.c5,RSg,Sg.w_c,Sg.d,Sg.eta,toUI_val]
    · have ez := ptV_no (g := g) hg0
      simp only [RunTo,a41,sRead,sSoon,sInP,h0,ez,ptZ,r1,r3,w1,w2,w3,w4,flatO,runO_3,runO_4,runO_5,runO_14,runO_17,runO_18,runO_19,aop,binV,ends,reOk,Nat.zero_sub,ev,fget,fput,params,cellsOf,cellsN,isLB,vget,vset,vsets,vlen,bget,bset,addB,addN,mkv,sliceV,vtab,rowsV,rowsOk,vrep,frz,opOwns,preFz,callFz,owns,skipOp,WfT,resV,resL,res1,norm,norms,norm1,normL,pureB,pureL,flatB,onesB,snapV,snapOk,snapL,snapOks,specV,argsL,capsL,mkE_S,mkE_I,mkE_G,lkp,Fin,vp_int,vp_nils,vp_cons,vp_tup,vsubP_self,Val.toInt,Val.slen,Val.scell,↓reduceIte,reduceCtorEq,Nat.reduceEqDiff,Nat.reduceAdd,Nat.reduceSub,Nat.reduceLeDiff,Nat.reduceLT,Nat.zero_add,bne_iff_ne,bne_eq_false_iff_eq,List.length_cons,List.length_nil,List.append_nil,List.flatMap_cons,List.flatMap_nil,Bool.not_eq_true',Bool.not_eq_false',Bool.and_true,Bool.and_false,Bool.true_and,Bool.and_self,Bool.not_true,and_true,true_and,and_self,and_assoc,forall_const,imp_self,implies_true,Nat.le_refl,Val.int.injEq,ne_eq,not_false_eq_true,false_implies,not_false_eq_true,maxLen,Nat.reducePow,spec2,spec3,TSl,IsSl,TInt,IsInt,RInt,Prod.eta,Pm.c0,Pm.c1,Pm.c2,Pm.c3,Pm.c4,RPm,Pm.w_c,Pm.d,Pm.eta,Pl.c0,Pl.c1,RPl,Pl.w_c,Pl.d,Pl.eta,Gv.L,Gv.Is,Gv.of,TGv,Gv.d,Gv.eta,Sg.c0,Sg.c1,Sg.c2,Sg.c3,Sg.c4,Sg.c5,RSg,Sg.w_c,Sg.d,Sg.eta,toUI_val]
end Go.Proofs.Ytpknbojgkkmonaa
