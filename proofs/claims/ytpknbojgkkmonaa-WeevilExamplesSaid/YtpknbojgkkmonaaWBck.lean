/- Groves, the program: the way back (Chain's closure). No condition but bounds. -/
import Derived.Test.YtpknbojgkkmonaaWChm
set_option linter.unusedSimpArgs false
set_option linter.unusedVariables false
namespace Go.Proofs.Ytpknbojgkkmonaa
open Go Go.RowKit
variable {G : Nat → Option (Nat × (Nat → Val))}
structure DayOk (g : Gv) (D : Nat → Int) : Prop where
  low : ∀ i,i < g.palms.1 → g.start ≤ D i ∧ D i ≤ 100001
  tight : ∀ i,i < g.palms.1 → D i > g.start → D i < 100001 → ∃ k,k < g.palms.1 ∧ fromP g i (D i) k (D k)
theorem First.dayOk {g : Gv} (hg : GvOk g) {N D : Nat → Int} (h : First g N D) : DayOk g D := ⟨h.low hg,fun _ hi h1 h2 => h.tight hg hi h1 h2⟩
noncomputable def preI (g : Gv) (D : Nat → Int) (i : Nat) : Nat := (bstJ g D i g.palms.1).toNat
theorem DayOk.best {g : Gv} {D : Nat → Int} (h : DayOk g D) {i : Nat} (hi : i < g.palms.1) (h1 : D i ≠ g.start) (h2 : D i < 100001) :
    bstJ g D i g.palms.1 = (preI g D i : Int) ∧ preI g D i < g.palms.1 ∧ fromP g i (D i) (preI g D i) (D (preI g D i)) ∧ ∀ k,k < g.palms.1 → fromP g i (D i) k (D k) → D (preI g D i) < D k ∨ (D (preI g D i) = D k ∧ preI g D i ≤ k) := by
  have hl := h.low i hi
  obtain ⟨k,hk,hf⟩ := h.tight i hi (by omega) h2
  unfold preI
  rcases bstJ_spec (g := g) (D := D) (i := i) g.palms.1 with ⟨_,h3⟩ | ⟨b,e,hb,hfb,h4⟩
  · exact absurd hf (h3 k hk)
  · rw [e]; exact ⟨rfl,hb,hfb,h4⟩
theorem chL_fuel {g : Gv} (hg : GvOk g) {D : Nat → Int} (h : DayOk g D) : ∀ (d d' i : Nat),i < g.palms.1 → D i < 100001 → depF g D i ≤ d → depF g D i ≤ d' → chL g D d i = chL g D d' i := by
  intro d
  induction d with
  | zero =>
    intro d' i hi h2 hd hd'
    have hs : D i = g.start := by
      apply Classical.byContradiction
      intro hne
      obtain ⟨_,hb,hf,_⟩ := h.best hi hne h2
      have := dep_lt hg hi hb hf
      omega
    cases d' with
    | zero => rfl
    | succ d' => simp only [chL,if_pos hs]
  | succ d ih =>
    intro d' i hi h2 hd hd'
    by_cases hs : D i = g.start
    · cases d' with
      | zero => simp only [chL,if_pos hs]
      | succ d' => simp only [chL,if_pos hs]
    · obtain ⟨_,hb,hf,_⟩ := h.best hi hs h2
      have h3 := dep_lt hg hi hb hf
      cases d' with
      | zero => omega
      | succ d' =>
        simp only [chL,if_neg hs]
        rw [show (bstJ g D i g.palms.1).toNat = preI g D i from rfl,ih d' _ hb hf.2.1 (by omega) (by omega)]
noncomputable def chI (g : Gv) (D : Nat → Int) (i : Nat) : List Nat := chL g D g.palms.1 i
theorem chI_start {g : Gv} {D : Nat → Int} {i : Nat} (hn : 0 < g.palms.1) (h : D i = g.start) : chI g D i = [i] := by
  unfold chI
  obtain ⟨m,hm⟩ : ∃ m,g.palms.1 = m + 1 := ⟨g.palms.1 - 1,by omega⟩
  rw [hm]; simp only [chL,if_pos h]
theorem chI_step {g : Gv} (hg : GvOk g) {D : Nat → Int} (h : DayOk g D) {i : Nat} (hi : i < g.palms.1) (hs : D i ≠ g.start) (h2 : D i < 100001) : chI g D i = chI g D (preI g D i) ++ [i] := by
  obtain ⟨_,hb,hf,_⟩ := h.best hi hs h2
  unfold chI
  obtain ⟨m,hm⟩ : ∃ m,g.palms.1 = m + 1 := ⟨g.palms.1 - 1,by omega⟩
  have h3 := dep_n (D := D) hi
  have h4 := dep_lt hg hi hb hf
  have e : chL g D g.palms.1 i = chL g D m (preI g D i) ++ [i] := by
    rw [hm]; simp only [chL,if_neg hs]; rfl
  rw [e,chL_fuel hg h m g.palms.1 _ hb hf.2.1 (by omega) (by omega)]
theorem getD_l {l : List Nat} {x k : Nat} (h : k < l.length) : (l ++ [x]).getD k 0 = l.getD k 0 := by simp [List.getD,List.getElem?_append,h]
theorem getD_r {l : List Nat} {x : Nat} : (l ++ [x]).getD l.length 0 = x := by simp [List.getD]
theorem chL_len (g : Gv) (D : Nat → Int) : ∀ d i,(chL g D d i).length ≤ d + 1 := by
  intro d
  induction d with
  | zero => intro i; simp [chL]
  | succ d ih =>
    intro i
    unfold chL
    split
    · simp
    · have := ih (bstJ g D i g.palms.1).toNat
      simp only [List.length_append,List.length_cons,List.length_nil]; omega
theorem chI_len (g : Gv) (D : Nat → Int) (i : Nat) : (chI g D i).length ≤ g.palms.1 + 1 := chL_len g D _ i
noncomputable def chV (g : Gv) (D : Nat → Int) (i : Nat) : Val := .view 1 (chI g D i).length fun k _ => .int .i64 (g.palms.2 ((chI g D i).getD k 0)).id
def bkD (g : Gv) (D : Nat → Int) : Val := .vptr 1 fun _ => .view 1 g.palms.1 fun i _ => .int .i64 (D i)
def bkP (g : Gv) : Val := .vptr 8 fun j => vget (Pt.L g) j
def bkC (g : Gv) (D : Nat → Int) : Nat → Val
  | 0 => .und
  | d + 1 => .vptr 1 fun _ => .func (.func 53) (.cons (bkD g D) (.cons (bkP g) (.cons (bkC g D d) .nil)))
theorem bkC_s (g : Gv) (D : Nat → Int) (d : Nat) : bkC g D (d + 1) = .vptr 1 fun _ => .func (.func 53) (.cons (bkD g D) (.cons (bkP g) (.cons (bkC g D d) .nil))) := rfl
theorem bkC_pure (g : Gv) (D : Nat → Int) (d : Nat) : pureB (bkC g D d) = true := by cases d <;> rfl
def bkA (g : Gv) (D : Nat → Int) (d i : Nat) : List Val := [.int .i64 i,bkD g D,bkP g,bkC g D d]
noncomputable def sBack (g : Gv) (D : Nat → Int) (d : Nat) : Spec :=
  ⟨fun vs => ∃ i : Nat,i < g.palms.1 ∧ D i < 100001 ∧ depF g D i < d ∧ vsubP (vl (bkA g D d i)) (vl vs),fun vs => match vs with | .int _ z :: _ => chV g D z.toNat | _ => .und,some 3⟩
theorem sBack_own (g : Gv) (D : Nat → Int) (d : Nat) : (sBack g D d).own = some 3 := rfl
theorem sBack_res (g : Gv) (D : Nat → Int) (d i : Nat) (l : List Val) : (sBack g D d).res (.int .i64 i :: l) = .view 1 (chI g D i).length fun k _ => .int .i64 (g.palms.2 ((chI g D i).getD k 0)).id := rfl
set_option maxHeartbeats 4000000 in
set_option maxRecDepth 100000 in
theorem pBack {g : Gv} (hg : GvOk g) {D : Nat → Int} (hD : DayOk g D) : ∀ d,PureOk Try.prog G 53 (sBack g D d) := by
  intro d
  induction d with
  | zero =>
    refine pure_okO (S := []) (I := []) mixed .nil .nil Try.func53 c53 fun vs hp => ?_
    obtain ⟨i,_,_,h,_⟩ := hp
    omega
  | succ d ih =>
    refine pure_okO (S := [(54,sGives),(53,sBack g D d)]) (I := []) mixed (.cons pGives (.cons ih .nil)) .nil Try.func53 c53 fun vs hp => ?_
    obtain ⟨i,hi,hlt,hdep,hv⟩ := hp
    refine ⟨bkA g D (d + 1) i,hv,?_,fun hw => ⟨5000,?_⟩⟩
    · obtain ⟨a,b,e,h1,_⟩ := hv
      cases vs with
      | nil => cases e
      | cons v vs =>
        obtain ⟨e1,e2⟩ := Val.cons.inj e
        rw [← e1,vp_int] at h1
        subst h1
        rfl
    · have hn24 := hg.pms.n
      have hlo := hD.low i hi
      have er : (sBack g D (d + 1)).res (bkA g D (d + 1) i) = chV g D i := rfl
      rw [er]
      by_cases hs : D i = g.start
      · have ec := chI_start (g := g) (by omega) hs
        simp only [a53,bkA,bkC_s,bkD,bkP,Pt.L,chV,ec,hs,sBack_own,FinS,↓imp_tt,↓imp_tf,runO_3,runO_5,runO_14,runO_17,runO_18,runO_19,aop,binV,ends,ev,fget,fput,params,cellsOf,cellsN,isLB,vget,vset,vlen,bget,addB,addN,mkv,rowsV,rowsOk,vrep,frz,opOwns,preFz,owns,skipOp,WfT,resV,res1,casts,castOks,cast1,castOk,pureB,onesB,snapV,snapOk,mkE_G,Fin,vp_int,vp_view,Val.toInt,Val.slen,Val.scell,↓reduceIte,reduceCtorEq,Nat.reduceEqDiff,Nat.reduceAdd,Nat.reduceSub,Nat.reduceLeDiff,Nat.reduceLT,Nat.zero_add,Nat.sub_zero,Int.reduceNeg,List.length_cons,List.length_nil,List.append_nil,List.flatMap_cons,List.flatMap_nil,Bool.and_self,beq_self_eq_true,and_true,true_and,and_self,and_assoc,forall_const,Nat.le_refl,exists_and_left,or_true,maxLen,Nat.reducePow,inat,RInt,Pm.c0,RPm,Pm.d,RPl,Pl.d]
        refine ⟨by omega,by omega,fun _ => ⟨by omega,by omega,fun a ha b hb => ?_,0,rfl,1,1,_,rfl,_,rfl,fun a ha b hb => ⟨?_,?_⟩⟩⟩
        all_goals
          obtain rfl : a = 0 := by omega
          obtain rfl : b = 0 := by omega
          rfl
      · have fs := eq_false hs
        have ec := chI_step hg hD hi hs hlt
        obtain ⟨hbe,hbn,hbf,_⟩ := hD.best hi hs hlt
        have hdl := dep_lt hg hi hbn hbf
        have hlen := chI_len g D (preI g D i)
        simp only [a53,bkA,bkC_s,bkD,bkP,Pt.L,chV,fs,sBack_own,FinS,runO_3,runO_4,runO_5,runO_6,runO_14,runO_15,runO_17,runO_18,runO_19,aop,binV,ends,ev,fget,fput,params,cellsOf,cellsN,isLB,vget,vset,vlen,bget,addB,addN,mkv,rowsV,rowsOk,vrep,frz,opOwns,preFz,owns,skipOp,WfT,resV,res1,casts,castOks,cast1,castOk,pureB,onesB,snapV,snapOk,mkE_G,lenV,Fin,vp_int,vp_view,Val.toInt,Val.slen,Val.scell,↓reduceIte,reduceCtorEq,Nat.reduceEqDiff,Nat.reduceAdd,Nat.reduceSub,Nat.reduceLeDiff,Nat.reduceLT,Nat.zero_add,Nat.sub_zero,Int.reduceNeg,beq_iff_eq,beq_eq_false_iff_ne,List.length_cons,List.length_nil,List.append_nil,List.flatMap_cons,List.flatMap_nil,Bool.and_self,true_and,and_self,and_assoc,forall_const,Nat.le_refl,exists_and_left,ne_eq,not_false_eq_true,false_implies,or_true,not_false_eq_true,maxLen,Nat.reducePow,inat,RInt,Pm.c0,RPm,Pm.d,RPl,Pl.d]
        refine ⟨by omega,by omega,fun _ => ?_⟩
        refine loopI (ι := Nat) (fun j => j ≤ g.palms.1) (fun j => g.palms.1 - j) [0,1,2,3,25,26] (fun j => [(6,.int .i64 (bstJ g D i j)),(27,.int .i64 j)]) (fun j => []) 0 (by omega) (by simp only [bstJ,Chk,chkFr,chkBx,idsLt,kept,vs_int,vs_view,vs_vptr,fget,vsubP_self,↓reduceIte,reduceCtorEq,Nat.reduceEqDiff,Int.cast_ofNat_Int,Int.reduceNeg,and_self,forall_const,implies_true,keepF,appF,updB]; try rfl) fun j hj => ?_
        by_cases hjl : j < g.palms.1
        · have fj : ((j : Int) < (g.palms.1 : Int)) = True := eq_true (by omega)
          have hjd := hD.low j hjl
          have hst := hg.start
          by_cases hf : fromP g i (D i) j (D j)
          · have e1 := decP_t hf
            rcases bstJ_spec (g := g) (D := D) (i := i) j with ⟨hb,_⟩ | ⟨b,hb,hbj,_,_⟩
            · have en : bstJ g D i (j + 1) = j := by rw [bstJ,@if_pos _ (Classical.propDecidable _) (⟨hf,.inl (by omega)⟩ : fromP g i (D i) j (D j) ∧ (bstJ g D i j < 0 ∨ D j < D (bstJ g D i j).toNat))]
              simp only [sGives,hb,e1,fj,TPt,Pt.L,Pt.Is,Pt.of,isAt_self,hg,↓imp_tt,↓imp_tf,runO_4,runO_5,runO_6,runO_8,runO_14,runO_16,runO_17,runO_18,runO_19,aop,binV,Nat.zero_sub,ev,fget,fput,cellsOf,isLB,vget,addB,addN,mkv,frz,opOwns,preFz,skipOp,WfT,casts,castOks,cast1,castOk,norm,norms,norm1,normL,pureB,pureL,specV,argsL,capsL,mkE_S,lkp,pickV,stkFr,stkNx,Val.toInt,Val.slen,Val.scell,↓reduceIte,reduceCtorEq,Nat.reduceEqDiff,Nat.reduceAdd,Nat.reduceSub,Nat.zero_add,Int.reduceLT,Int.reduceNeg,decide_true,List.length_cons,List.length_nil,List.append_nil,Bool.and_self,Bool.bne_false,bne_self_eq_false,and_true,true_and,and_self,and_assoc,forall_const,implies_true,Nat.le_refl,or_true,keepF,appF,updB,inat,spec5,TInt,IsInt,RInt,Prod.eta,Pm.c0,Pm.c1,Pm.c2,Pm.c3,Pm.c4,RPm,Pm.w_c,Pm.d,Pm.eta,Pl.c0,Pl.c1,RPl,Pl.w_c,Pl.d,Pl.eta,Gv.Is,Gv.of,Gv.d,Gv.eta,toUI_val]
              repeat' (first | omega | (with_reducible apply And.intro) | intro _)
              refine inv_intro (j + 1) (by omega) (by omega) ?_
              simp only [en,Chk,chkFr,chkBx,idsLt,kept,vs_int,vs_view,vs_vptr,fget,vsubP_self,↓reduceIte,reduceCtorEq,Nat.reduceEqDiff,and_true,true_and,and_self,forall_const,implies_true,Val.int.injEq]
              rw [wrS (by omega)]
            · by_cases hlt2 : D j < D b
              · have en : bstJ g D i (j + 1) = j := by rw [bstJ,@if_pos _ (Classical.propDecidable _) (⟨hf,.inr (by rw [hb]; simpa using hlt2)⟩ : fromP g i (D i) j (D j) ∧ (bstJ g D i j < 0 ∨ D j < D (bstJ g D i j).toNat))]
                have f2 := eq_true hlt2
                simp only [sGives,hb,e1,fj,f2,TPt,Pt.L,Pt.Is,Pt.of,isAt_self,hg,↓imp_tt,↓imp_tf,runO_4,runO_5,runO_6,runO_8,runO_14,runO_16,runO_17,runO_18,runO_19,aop,binV,Nat.zero_sub,ev,fget,fput,cellsOf,isLB,vget,addB,addN,mkv,frz,opOwns,preFz,skipOp,WfT,casts,castOks,cast1,castOk,norm,norms,norm1,normL,pureB,pureL,specV,argsL,capsL,mkE_S,lkp,pickV,stkFr,stkNx,Val.toInt,Val.slen,Val.scell,↓reduceIte,reduceCtorEq,Nat.reduceEqDiff,Nat.reduceAdd,Nat.reduceSub,Nat.zero_add,decide_true,List.length_cons,List.length_nil,List.append_nil,Bool.and_self,Bool.bne_false,bne_self_eq_false,and_true,true_and,and_self,and_assoc,forall_const,implies_true,Nat.le_refl,decide_eq_true_eq,decide_eq_false_iff_not,or_true,keepF,appF,updB,inat,spec5,TInt,IsInt,RInt,Prod.eta,Pm.c0,Pm.c1,Pm.c2,Pm.c3,Pm.c4,RPm,Pm.w_c,Pm.d,Pm.eta,Pl.c0,Pl.c1,RPl,Pl.w_c,Pl.d,Pl.eta,Gv.Is,Gv.of,Gv.d,Gv.eta,toUI_val]
                repeat' (first | omega | (with_reducible apply And.intro) | intro _)
                refine inv_intro (j + 1) (by omega) (by omega) ?_
                simp only [en,Chk,chkFr,chkBx,idsLt,kept,vs_int,vs_view,vs_vptr,fget,vsubP_self,↓reduceIte,reduceCtorEq,Nat.reduceEqDiff,and_true,true_and,and_self,forall_const,implies_true,Val.int.injEq]
                rw [wrS (by omega)]
              · have en : bstJ g D i (j + 1) = b := by rw [bstJ,@if_neg _ (Classical.propDecidable _) (fun h => by
                  rcases h.2 with h | h
                  · omega
                  · rw [hb] at h; exact hlt2 (by simpa using h))]; exact hb
                have f2 := eq_false hlt2
                simp only [sGives,hb,e1,fj,f2,TPt,Pt.L,Pt.Is,Pt.of,isAt_self,hg,↓imp_tt,↓imp_tf,↓imp_ft,↓imp_ff,runO_4,runO_5,runO_6,runO_8,runO_14,runO_16,runO_17,runO_18,runO_19,aop,binV,Nat.zero_sub,ev,fget,fput,cellsOf,isLB,vget,addB,addN,mkv,frz,opOwns,preFz,skipOp,WfT,casts,castOks,cast1,castOk,norm,norms,norm1,normL,pureB,pureL,specV,argsL,capsL,mkE_S,lkp,pickV,stkFr,stkNx,Val.toInt,Val.slen,Val.scell,↓reduceIte,reduceCtorEq,Nat.reduceEqDiff,Nat.reduceAdd,Nat.reduceSub,Nat.zero_add,decide_true,decide_false,List.length_cons,List.length_nil,List.append_nil,Bool.and_self,Bool.bne_false,bne_self_eq_false,and_true,true_and,and_self,and_assoc,forall_const,implies_true,Nat.le_refl,decide_eq_true_eq,decide_eq_false_iff_not,or_true,keepF,appF,updB,inat,spec5,TInt,IsInt,RInt,Prod.eta,Pm.c0,Pm.c1,Pm.c2,Pm.c3,Pm.c4,RPm,Pm.w_c,Pm.d,Pm.eta,Pl.c0,Pl.c1,RPl,Pl.w_c,Pl.d,Pl.eta,Gv.Is,Gv.of,Gv.d,Gv.eta,toUI_val]
                repeat' (first | omega | (with_reducible apply And.intro) | intro _)
                refine inv_intro (j + 1) (by omega) (by omega) ?_
                simp only [en,Chk,chkFr,chkBx,idsLt,kept,vs_int,vs_view,vs_vptr,fget,vsubP_self,↓reduceIte,reduceCtorEq,Nat.reduceEqDiff,and_true,true_and,and_self,forall_const,implies_true,Val.int.injEq]
                rw [wrS (by omega)]
          · have e1 := decP_f hf
            have en : bstJ g D i (j + 1) = bstJ g D i j := by rw [bstJ,@if_neg _ (Classical.propDecidable _) (fun h => hf h.1)]
            simp only [sGives,e1,fj,TPt,Pt.L,Pt.Is,Pt.of,isAt_self,hg,↓imp_tt,↓imp_tf,↓imp_ft,↓imp_ff,runO_4,runO_5,runO_6,runO_8,runO_14,runO_16,runO_17,runO_18,runO_19,aop,binV,Nat.zero_sub,ev,fget,fput,cellsOf,isLB,vget,addB,addN,mkv,frz,opOwns,preFz,skipOp,WfT,casts,castOks,cast1,castOk,norm,norms,norm1,normL,pureB,pureL,specV,argsL,capsL,mkE_S,lkp,pickV,stkFr,stkNx,Val.toInt,Val.slen,Val.scell,↓reduceIte,reduceCtorEq,Nat.reduceEqDiff,Nat.reduceAdd,Nat.reduceSub,Nat.zero_add,decide_true,List.length_cons,List.length_nil,List.append_nil,Bool.and_self,Bool.bne_true,Bool.not_false,and_true,true_and,and_self,and_assoc,forall_const,implies_true,Nat.le_refl,or_true,keepF,appF,updB,inat,spec5,TInt,IsInt,RInt,Prod.eta,Pm.c0,Pm.c1,Pm.c2,Pm.c3,Pm.c4,RPm,Pm.w_c,Pm.d,Pm.eta,Pl.c0,Pl.c1,RPl,Pl.w_c,Pl.d,Pl.eta,Gv.Is,Gv.of,Gv.d,Gv.eta,toUI_val]
            repeat' (first | omega | (with_reducible apply And.intro) | intro _)
            refine inv_intro (j + 1) (by omega) (by omega) ?_
            simp only [en,Chk,chkFr,chkBx,idsLt,kept,vs_int,vs_view,vs_vptr,fget,vsubP_self,↓reduceIte,reduceCtorEq,Nat.reduceEqDiff,and_true,true_and,and_self,forall_const,implies_true,Val.int.injEq]
            rw [wrS (by omega)]
        · have fj : ((j : Int) < (g.palms.1 : Int)) = False := eq_false (by omega)
          obtain rfl : j = g.palms.1 := by omega
          have hl2 : (chI g D i).length = (chI g D (preI g D i)).length + 1 := by rw [ec]; simp
          simp only [fj,hbe,bkC_pure,sBack_own,sBack_res,↓imp_ft,↓imp_ff,runO_3,runO_5,runO_9,runO_14,runO_17,runO_18,runO_19,aop,binV,ends,reOk,dstV,Nat.zero_sub,ev,fget,fput,cellsOf,cellsN,isLB,vget,vset,vlen,bget,bset,addB,addN,mkv,rowsV,rowsOk,vrep,frz,opOwns,preFz,skipOp,WfT,resV,res1,casts,castOks,cast1,castOk,norm,norm1,normL,pureB,pureL,onesB,snapV,snapOk,specV,argsL,capsL,mkE_S,lkp,subFr,subV,subBx,subStk,elemsV,popTo,stkFr,stkNx,vp_int,vp_view,Val.toInt,Val.slen,Val.scell,↓reduceIte,reduceCtorEq,Nat.reduceEqDiff,Nat.reduceAdd,Nat.reduceSub,Nat.reduceLeDiff,Nat.reduceLT,Nat.zero_add,Nat.sub_zero,decide_false,List.length_cons,List.length_nil,List.nil_append,List.cons_append,Bool.and_self,and_true,true_and,and_self,and_assoc,forall_const,Nat.le_refl,or_true,or_false,maxLen,Nat.reducePow,keepF,appF,updB,inat,Pm.c0]
          repeat' (first | omega | (with_reducible apply And.intro) | intro _)
          · exact ⟨preI g D i,hbn,hbf.2.1,by omega,(vsubP_self _).mpr trivial⟩
          · rename_i k hk b hb
            obtain rfl : b = 0 := by omega
            rw [ec]
            by_cases h5 : k < (chI g D (preI g D i)).length
            · rw [if_pos h5,getD_l h5]
            · obtain rfl : k = (chI g D (preI g D i)).length := by omega
              rw [if_neg h5,getD_r]; simp [vget]
          · refine ⟨1,rfl,1,_,_,rfl,fun k _ => .int .i64 (g.palms.2 ((chI g D i).getD k 0)).id,by rw [hl2],fun k hk b hb => ?_⟩
            · obtain rfl : b = 0 := by omega
              simp only
              rw [ec]
              by_cases h5 : k < (chI g D (preI g D i)).length
              · rw [if_pos h5,getD_l h5]; exact ⟨rfl,rfl⟩
              · obtain rfl : k = (chI g D (preI g D i)).length := by omega
                rw [if_neg h5,getD_r,Nat.sub_self]; exact ⟨rfl,rfl⟩
end Go.Proofs.Ytpknbojgkkmonaa
