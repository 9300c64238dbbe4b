/- Palms, the program: open. No condition. -/
import Derived.Test.YtlapepdhkomijaaPKwp
import Derived.Test.YtlapepdhkomijaaPWrk
set_option linter.unusedSimpArgs false
set_option linter.unusedVariables false
namespace Go.Proofs.Ytlapepdhkomijaa
open Go Go.RowKit
variable {G : Nat → Option (Nat × (Nat → Val))}
def dayL (w : Wk) : Val := .cons (.int .i64 w.day) (.cons (.view 3 w.spathes.1 fun a b => (w.spathes.2 a).c b) (.cons (.view 1 w.hours.1 fun a b => .int .i64 (w.hours.2 a)) (.cons (.view 4 w.lots.1 fun a b => (w.lots.2 a).c b) (.cons (.int .i64 w.opn) .nil))))
noncomputable def sOpen : Spec := spec2 (TSl RPm) TWk (fun _ _ => True) fun l w => if workE l w = 0 then .tup (.cons (.agg (dayL w)) (.cons (.int .i64 0) .nil)) else .tup (.cons (.agg (.cons (.int .i64 0) (.cons .nils (.cons .nils (.cons .nils (.cons (.int .i64 0) .nil)))))) (.cons (.int .i64 (workE l w)) .nil))
def WBase (w : Wk) : Prop := (0 ≤ w.day ∧ w.day ≤ 100000) ∧ (1 ≤ w.opn ∧ w.opn ≤ 500) ∧ w.spathes.1 ≤ 8 ∧ w.hours.1 ≤ 16 ∧ w.lots.1 ≤ 4
def RB1 (k : Pms) (w : Wk) (i : Nat) : Prop := WBase w ∧ ∀ i',i' < i → SpOk k w.day (w.spathes.2 i')
def RB2 (k : Pms) (w : Wk) (i : Nat) : Prop := RB1 k w w.spathes.1 ∧ ∀ i',i' < i → LtOk k w.day (w.lots.2 i')
def RB3 (k : Pms) (w : Wk) (i : Nat) : Prop := RB2 k w w.lots.1 ∧ ∀ i',i' < i → HrOk w.hours i'
theorem RB1.step {k : Pms} {w : Wk} {i : Nat} : RB1 k w (i + 1) ↔ RB1 k w i ∧ SpOk k w.day (w.spathes.2 i) :=
 ⟨fun h => ⟨⟨h.1,fun i' hi => h.2 i' (by omega)⟩,h.2 i (by omega)⟩,fun h => ⟨h.1.1,fun i' hi => (Nat.lt_or_ge i' i).elim (fun h1 => h.1.2 i' h1) fun h1 => by
  obtain rfl : i' = i := by omega
  exact h.2⟩⟩
theorem RB2.step {k : Pms} {w : Wk} {i : Nat} : RB2 k w (i + 1) ↔ RB2 k w i ∧ LtOk k w.day (w.lots.2 i) :=
 ⟨fun h => ⟨⟨h.1,fun i' hi => h.2 i' (by omega)⟩,h.2 i (by omega)⟩,fun h => ⟨h.1.1,fun i' hi => (Nat.lt_or_ge i' i).elim (fun h1 => h.1.2 i' h1) fun h1 => by
  obtain rfl : i' = i := by omega
  exact h.2⟩⟩
theorem RB3.step {k : Pms} {w : Wk} {i : Nat} : RB3 k w (i + 1) ↔ RB3 k w i ∧ HrOk w.hours i :=
 ⟨fun h => ⟨⟨h.1,fun i' hi => h.2 i' (by omega)⟩,h.2 i (by omega)⟩,fun h => ⟨h.1.1,fun i' hi => (Nat.lt_or_ge i' i).elim (fun h1 => h.1.2 i' h1) fun h1 => by
  obtain rfl : i' = i := by omega
  exact h.2⟩⟩
theorem RB3.all {k : Pms} {w : Wk} : RB3 k w w.hours.1 ↔ WkOk k w :=
 ⟨fun h => ⟨h.1.1.1.1,h.1.1.1.2.1,h.1.1.1.2.2.1,h.1.1.1.2.2.2.1,h.1.1.1.2.2.2.2,h.1.1.2,h.2,h.1.2⟩,fun h => ⟨⟨⟨⟨h.d,h.o,h.s,h.h,h.l⟩,h.sp⟩,h.lt⟩,h.hr⟩⟩
theorem bears_no {l : Pms} {id day sex : Int} (h : hasP l id = false) : bearsP (knF l) id day sex = False := eq_false fun hb => by
 have : hitN l id < l.1 := hb.1
 rw [hasP_hit.2 this] at h; cases h
theorem bears_at {l : Pms} (hp : PmsOk l) {id day sex : Int} (h : hasP l id = true) : bearsP (knF l) id day sex = ((knP l (lstP l id)).sex.1 = sex ∧ 1500 ≤ day - (knP l (lstP l id)).planted) := by
 rw [hp.lst h]
 exact propext ⟨fun hb => hb.2,fun hb => ⟨(hasP_hit (l := l)).1 h,hb⟩⟩
set_option maxHeartbeats 4000000 in
set_option maxRecDepth 100000 in
theorem pOpen : PureOk Try.prog G 53 sOpen := by
  refine fn2 (S := [(15,sKnown7),(50,sPlaces),(51,sInP)]) (I := [(81,a81)]) mixed (.cons pKnownP (.cons pPlaces (.cons pInPalm .nil))) (.cons Try.func81 c81 .nil) Try.func53 c53 fun l w _ hw => ?_
  simp only [Nat.reduceSub,Nat.reducePow,TSl,RInt,RPm,Pm.d,RSp,Sp.d,RLt,Lt.d,Wk.L,TWk,go_sem] at hw
  by_cases hp : PmsOk l
  · have ep := pmE_ok hp
    by_cases hb : badI l < l.1
    · have hE : workE l w = 71 := by unfold workE; rw [if_pos ep,if_pos hb]
      rw [hE]
      have fb : (badI l < l.1) = True := eq_true hb
      simp only [RunTo,a53,sKnown7,ep,fb,hw,↓imp_tt,↓imp_tf,↓reduceIte,reduceCtorEq,Nat.reduceEqDiff,Nat.reduceAdd,Nat.reduceSub,Nat.reduceLT,Int.reduceEq,Int.reduceBNe,Nat.reducePow,spec1,TSl,IsSl,RInt,Prod.eta,Pm.c0,Pm.c1,Pm.c2,Pm.c3,Pm.c4,RPm,Pm.w_c,Pm.d,Pm.eta,RSp,Sp.d,RLt,Lt.d,Wk.L,TWk,toUI_val,go_sem]
    · have fb : (badI l < l.1) = False := eq_false hb
      have hE : workE l w = if decP (WkOk (knF l) w) = true then 0 else 72 := by unfold workE; rw [if_pos ep,if_neg hb]
      rw [hE]
      have hn24 := hp.n
      simp only [RunTo,a53,sKnown7,sPlaces,sInP,ep,fb,hw,↓imp_ft,↓imp_ff,↓reduceIte,reduceCtorEq,Nat.reduceEqDiff,Nat.reduceAdd,Nat.reduceSub,Nat.reduceLeDiff,Nat.reduceLT,Nat.reducePow,spec1,spec3,TSl,IsSl,TInt,IsInt,RInt,Prod.eta,Pm.c0,Pm.c1,Pm.c2,Pm.c3,Pm.c4,RPm,Pm.w_c,Pm.d,Pm.eta,RSp,Sp.d,RLt,Lt.d,Wk.L,TWk,toUI_val,go_sem]
      simp only [lt1,allB_1,vget,true_and,decide_eq_true_eq,decide_eq_false_iff_not]
      repeat' (first | (with_reducible apply And.intro) | intro _)
      all_goals
        refine loopI (ι := Nat × Bool) (fun q => q.1 ≤ w.spathes.1 ∧ q.2 = decP (RB1 (knF l) w q.1)) (fun q => w.spathes.1 - q.1) [3,4,10,60,61] (fun q => [(62,.int .i64 q.1),(11,.bool q.2)]) (fun _ => []) (0,decP (RB1 (knF l) w 0)) ⟨Nat.zero_le _,rfl⟩ (by
          simp only [↓reduceIte,reduceCtorEq,Nat.reduceEqDiff,Nat.reduceLT,go_sem]
          first
            | exact (decP_f fun h => by have := h.1; unfold WBase at this; omega).symm
            | (rw [Bool.eq_iff_iff,decP_true,decide_eq_true_iff]; exact ⟨fun h => ⟨by unfold WBase; omega,fun i' hi => absurd hi (Nat.not_lt_zero _)⟩,fun h => by have := h.1; unfold WBase at this; omega⟩)) fun q hq => ?_
        obtain ⟨i,b⟩ := q
        obtain ⟨hi1,hi2⟩ := hq
        simp only at hi1 hi2
        by_cases hil : i < w.spathes.1
        · have fi : ((i : Int) < (w.spathes.1 : Int)) = True := eq_true (by omega)
          cases b with
          | false =>
            simp only [fi,↓imp_tt,↓imp_tf,↓imp_ft,↓imp_ff,↓reduceIte,Nat.reduceEqDiff,Nat.reduceAdd,Sp.c0,Sp.c1,Sp.c2,go_sem]
            refine ⟨by omega,inv_intro (i + 1,false) ⟨hil,(decP_f fun h => ?_).symm⟩ (by simp only; omega) ?_⟩
            · exact absurd (RB1.step.1 h).1 (decP_false.1 hi2.symm)
            · simp only [↓reduceIte,reduceCtorEq,Nat.reduceEqDiff,Nat.reduceLT,go_sem]
              exact wrS (by omega)
          | true =>
            have hr := decP_true.1 hi2.symm
            have hbs := hr.1
            unfold WBase at hbs
            first
              | (exfalso; omega)
              | (cases hm : hasP l (w.spathes.2 i).palm with
                 | false =>
                   have hbe := bears_no (day := w.day) (sex := 1) hm
                   simp only [fi,hm,a81,↓imp_tt,↓imp_tf,↓imp_ft,↓imp_ff,↓reduceIte,reduceCtorEq,Nat.reduceEqDiff,Nat.reduceAdd,Nat.reduceSub,Nat.reduceLeDiff,Nat.reduceLT,Sp.c0,Sp.c1,Sp.c2,go_sem]
                   refine ⟨by omega,inv_intro (i + 1,decP (RB1 (knF l) w (i + 1))) ⟨hil,rfl⟩ (by simp only; omega) ?_⟩
                   simp only [↓reduceIte,reduceCtorEq,Nat.reduceEqDiff,Nat.reduceLT,go_sem]
                   refine ⟨wrS (by omega),(decP_f fun h => ?_).symm⟩
                   have := (RB1.step.1 h).2
                   unfold SpOk at this; rw [hbe] at this; exact this.1
                 | true =>
                   have hbe := bears_at (day := w.day) (sex := 1) hp hm
                   have hkl := (lstP_spec hm).1
                   have hpl : 0 ≤ (knP l (lstP l (w.spathes.2 i).palm)).planted ∧ (knP l (lstP l (w.spathes.2 i).palm)).planted ≤ 100000 := hp.pl _ hkl
                   obtain ⟨pm,hpm⟩ : ∃ pm,knP l (lstP l (w.spathes.2 i).palm) = pm := ⟨_,rfl⟩
                   rw [hpm] at hbe hpl
                   have wd : IntKind.i64.wrap (w.day - pm.planted) = w.day - pm.planted := wr64 (by omega) (by omega)
                   simp only [fi,hm,a81,↓imp_tt,↓imp_tf,↓imp_ft,↓imp_ff,↓reduceIte,reduceCtorEq,Nat.reduceEqDiff,Nat.reduceAdd,Nat.reduceSub,Nat.reduceLeDiff,Nat.reduceLT,Pm.c2,Pm.c3,Sp.c0,Sp.c1,Sp.c2,go_sem]
                   simp only [lt2,allB_2,wd,hpm,ge_iff_le,vget,true_and,and_self,and_assoc,decide_eq_true_eq,decide_eq_false_iff_not]
                   repeat' (first | omega | (with_reducible apply And.intro) | intro _)
                   all_goals
                     refine inv_intro (i + 1,decP (RB1 (knF l) w (i + 1))) ⟨hil,rfl⟩ (by simp only; omega) ?_
                     simp only [↓reduceIte,reduceCtorEq,Nat.reduceEqDiff,Nat.reduceLT,go_sem]
                     refine ⟨wrS (by omega),?_⟩
                     first
                       | exact (decP_f fun h => by have := (RB1.step.1 h).2; unfold SpOk at this; rw [hbe] at this; omega).symm
                       | (rw [Bool.eq_iff_iff,decide_eq_true_iff,decP_true,RB1.step]; exact ⟨fun h => ⟨hr,by unfold SpOk; rw [hbe]; omega⟩,fun h => by have := h.2; unfold SpOk at this; rw [hbe] at this; omega⟩))
        · have fi : ((i : Int) < (w.spathes.1 : Int)) = False := eq_false (by omega)
          obtain rfl : i = w.spathes.1 := by omega
          simp only [fi,hw,↓imp_ft,↓imp_ff,↓reduceIte,reduceCtorEq,Nat.reduceEqDiff,Nat.reduceAdd,Nat.reduceSub,Nat.reduceLeDiff,Nat.reducePow,go_sem]
          refine loopI (ι := Nat × Bool) (fun q => q.1 ≤ w.lots.1 ∧ q.2 = decP (RB2 (knF l) w q.1)) (fun q => w.lots.1 - q.1) [3,4,10,94,95] (fun q => [(96,.int .i64 q.1),(11,.bool q.2)]) (fun _ => []) (0,decP (RB2 (knF l) w 0)) ⟨Nat.zero_le _,rfl⟩ (by
            simp only [↓reduceIte,reduceCtorEq,Nat.reduceEqDiff,Nat.reduceLT,go_sem]
            rw [hi2]; exact decP_ext ⟨fun h => ⟨h,fun i' hi => absurd hi (Nat.not_lt_zero _)⟩,fun h => h.1⟩) fun q hq => ?_
          obtain ⟨i,b⟩ := q
          obtain ⟨hi1,hi2⟩ := hq
          simp only at hi1 hi2
          by_cases hil : i < w.lots.1
          · have fi : ((i : Int) < (w.lots.1 : Int)) = True := eq_true (by omega)
            cases b with
            | false =>
              simp only [fi,↓imp_tt,↓imp_tf,↓imp_ft,↓imp_ff,↓reduceIte,Nat.reduceEqDiff,Nat.reduceAdd,Lt.c0,Lt.c1,Lt.c2,Lt.c3,go_sem]
              refine ⟨by omega,inv_intro (i + 1,false) ⟨hil,(decP_f fun h => ?_).symm⟩ (by simp only; omega) ?_⟩
              · exact absurd (RB2.step.1 h).1 (decP_false.1 hi2.symm)
              · simp only [↓reduceIte,reduceCtorEq,Nat.reduceEqDiff,Nat.reduceLT,go_sem]
                exact wrS (by omega)
            | true =>
              have hr := decP_true.1 hi2.symm
              have hbs := hr.1.1
              unfold WBase at hbs
              first
                | (exfalso; omega)
                | (cases hm : hasP l (w.lots.2 i).palm with
                   | false =>
                     have hbe := bears_no (day := w.day) (sex := 2) hm
                     simp only [fi,hm,a81,↓imp_tt,↓imp_tf,↓imp_ft,↓imp_ff,↓reduceIte,reduceCtorEq,Nat.reduceEqDiff,Nat.reduceAdd,Nat.reduceSub,Nat.reduceLeDiff,Nat.reduceLT,Lt.c0,Lt.c1,Lt.c2,Lt.c3,go_sem]
                     refine ⟨by omega,inv_intro (i + 1,decP (RB2 (knF l) w (i + 1))) ⟨hil,rfl⟩ (by simp only; omega) ?_⟩
                     simp only [↓reduceIte,reduceCtorEq,Nat.reduceEqDiff,Nat.reduceLT,go_sem]
                     refine ⟨wrS (by omega),(decP_f fun h => ?_).symm⟩
                     have := (RB2.step.1 h).2
                     unfold LtOk at this; rw [hbe] at this; exact this.1
                   | true =>
                     have hbe := bears_at (day := w.day) (sex := 2) hp hm
                     have hkl := (lstP_spec hm).1
                     have hpl : 0 ≤ (knP l (lstP l (w.lots.2 i).palm)).planted ∧ (knP l (lstP l (w.lots.2 i).palm)).planted ≤ 100000 := hp.pl _ hkl
                     obtain ⟨pm,hpm⟩ : ∃ pm,knP l (lstP l (w.lots.2 i).palm) = pm := ⟨_,rfl⟩
                     rw [hpm] at hbe hpl
                     have wd : IntKind.i64.wrap (w.day - pm.planted) = w.day - pm.planted := wr64 (by omega) (by omega)
                     simp only [fi,hm,a81,↓imp_tt,↓imp_tf,↓imp_ft,↓imp_ff,↓reduceIte,reduceCtorEq,Nat.reduceEqDiff,Nat.reduceAdd,Nat.reduceSub,Nat.reduceLeDiff,Nat.reduceLT,Pm.c2,Pm.c3,Lt.c0,Lt.c1,Lt.c2,Lt.c3,go_sem]
                     simp only [lt1,lt2,allB_1,allB_2,wd,hpm,ge_iff_le,vget,true_and,and_self,and_assoc,decide_eq_true_eq,decide_eq_false_iff_not]
                     repeat' (first | omega | (with_reducible apply And.intro) | intro _)
                     all_goals
                       refine inv_intro (i + 1,decP (RB2 (knF l) w (i + 1))) ⟨hil,rfl⟩ (by simp only; omega) ?_
                       simp only [↓reduceIte,reduceCtorEq,Nat.reduceEqDiff,Nat.reduceLT,go_sem]
                       refine ⟨wrS (by omega),?_⟩
                       first
                         | exact (decP_f fun h => by have := (RB2.step.1 h).2; unfold LtOk at this; rw [hbe] at this; omega).symm
                         | (rw [Bool.eq_iff_iff,decide_eq_true_iff,decP_true,RB2.step]; exact ⟨fun h => ⟨hr,by unfold LtOk; rw [hbe]; omega⟩,fun h => by have := h.2; unfold LtOk at this; rw [hbe] at this; omega⟩))
          · have fi : ((i : Int) < (w.lots.1 : Int)) = False := eq_false (by omega)
            obtain rfl : i = w.lots.1 := by omega
            simp only [fi,hw,↓imp_ft,↓imp_ff,↓reduceIte,reduceCtorEq,Nat.reduceEqDiff,Nat.reduceAdd,Nat.reduceSub,Nat.reduceLeDiff,Nat.reducePow,go_sem]
            refine loopI (ι := Nat × Bool) (fun q => q.1 ≤ w.hours.1 ∧ q.2 = decP (RB3 (knF l) w q.1)) (fun q => w.hours.1 - q.1) [3,4,130,131] (fun q => [(132,.int .i64 q.1),(11,.bool q.2)]) (fun _ => []) (0,decP (RB3 (knF l) w 0)) ⟨Nat.zero_le _,rfl⟩ (by
              simp only [↓reduceIte,reduceCtorEq,Nat.reduceEqDiff,Nat.reduceLT,go_sem]
              rw [hi2]; exact decP_ext ⟨fun h => ⟨h,fun i' hi => absurd hi (Nat.not_lt_zero _)⟩,fun h => h.1⟩) fun q hq => ?_
            obtain ⟨i,b⟩ := q
            obtain ⟨hi1,hi2⟩ := hq
            simp only at hi1 hi2
            by_cases hil : i < w.hours.1
            · have fi : ((i : Int) < (w.hours.1 : Int)) = True := eq_true (by omega)
              cases b with
              | false =>
                simp only [fi,↓imp_tt,↓imp_tf,↓imp_ft,↓imp_ff,↓reduceIte,Nat.reduceEqDiff,go_sem]
                refine ⟨by omega,inv_intro (i + 1,false) ⟨hil,(decP_f fun h => ?_).symm⟩ (by simp only; omega) ?_⟩
                · exact absurd (RB3.step.1 h).1 (decP_false.1 hi2.symm)
                · simp only [↓reduceIte,reduceCtorEq,Nat.reduceEqDiff,Nat.reduceLT,go_sem]
                  exact wrS (by omega)
              | true =>
                have hr := decP_true.1 hi2.symm
                have hbs := hr.1.1.1
                unfold WBase at hbs
                first
                  | (exfalso; omega)
                  | (rcases Nat.eq_zero_or_pos i with h0 | h0
                     · have f0 : ((i : Int) = 0) = True := eq_true (by omega)
                       simp only [fi,f0,hw,↓imp_tt,↓imp_tf,↓reduceIte,reduceCtorEq,Nat.reduceEqDiff,Nat.reduceAdd,Nat.reduceSub,Nat.reduceLeDiff,Nat.reduceLT,Nat.reducePow,go_sem]
                       simp only [lt1,allB_1,vget,true_and,decide_eq_true_eq,decide_eq_false_iff_not]
                       repeat' (first | omega | (with_reducible apply And.intro) | intro _)
                       all_goals
                          refine inv_intro (i + 1,decP (RB3 (knF l) w (i + 1))) ⟨hil,rfl⟩ (by simp only; omega) ?_
                          simp only [↓reduceIte,reduceCtorEq,Nat.reduceEqDiff,Nat.reduceLT,go_sem]
                          refine ⟨wrS (by omega),?_⟩
                          first
                            | exact (decP_f fun h => by have := (RB3.step.1 h).2; unfold HrOk at this; omega).symm
                            | exact (decP_t (RB3.step.2 ⟨hr,by unfold HrOk; omega⟩)).symm
                            | (rw [Bool.eq_iff_iff,decide_eq_true_iff,decP_true,RB3.step]; exact ⟨fun h => ⟨hr,by unfold HrOk; omega⟩,fun h => by have := h.2; unfold HrOk at this; omega⟩)
                     · have f0 : ((i : Int) = 0) = False := eq_false (by omega)
                       have wi : IntKind.i64.wrap ((i : Int) - 1) = ((i - 1 : Nat) : Int) := by rw [wr64 (by omega) (by omega)]; omega
                       simp only [fi,f0,hw,↓imp_tt,↓imp_tf,↓reduceIte,reduceCtorEq,Nat.reduceEqDiff,Nat.reduceAdd,Nat.reduceSub,Nat.reduceLeDiff,Nat.reduceLT,Nat.reducePow,go_sem]
                       simp only [lt1,allB_1,wi,gt_iff_lt,Int.toNat_natCast,vget,true_and,decide_eq_true_eq,decide_eq_false_iff_not]
                       repeat' (first | omega | (with_reducible apply And.intro) | intro _)
                       all_goals
                          refine inv_intro (i + 1,decP (RB3 (knF l) w (i + 1))) ⟨hil,rfl⟩ (by simp only; omega) ?_
                          simp only [↓reduceIte,reduceCtorEq,Nat.reduceEqDiff,Nat.reduceLT,go_sem]
                          refine ⟨wrS (by omega),?_⟩
                          first
                            | exact (decP_f fun h => by have := (RB3.step.1 h).2; unfold HrOk at this; omega).symm
                            | exact (decP_t (RB3.step.2 ⟨hr,by unfold HrOk; omega⟩)).symm
                            | (rw [Bool.eq_iff_iff,decide_eq_true_iff,decP_true,RB3.step]; exact ⟨fun h => ⟨hr,by unfold HrOk; omega⟩,fun h => by have := h.2; unfold HrOk at this; omega⟩))
            · have fi : ((i : Int) < (w.hours.1 : Int)) = False := eq_false (by omega)
              obtain rfl : i = w.hours.1 := by omega
              have e3 : b = decP (WkOk (knF l) w) := hi2.trans (decP_ext RB3.all)
              cases b with
              | true =>
                have e4 : decP (WkOk (knF l) w) = true := e3.symm
                simp only [fi,e4,dayL,hw,↓imp_ft,↓imp_ff,↓reduceIte,reduceCtorEq,Nat.reduceEqDiff,Nat.reduceAdd,Nat.reduceSub,Nat.reducePow,go_sem]
              | false =>
                have e4 : decP (WkOk (knF l) w) = false := e3.symm
                simp only [fi,e4,↓imp_tt,↓imp_tf,↓imp_ft,↓imp_ff,↓reduceIte,Nat.reduceEqDiff,Nat.reduceAdd,Int.reduceEq,go_sem]
  · have ep := pmE_no hp
    have hE : workE l w = 70 := by unfold workE; rw [if_neg (by rw [ep]; decide)]
    rw [hE]
    simp only [RunTo,a53,sKnown7,ep,hw,↓imp_tt,↓imp_tf,↓reduceIte,reduceCtorEq,Nat.reduceEqDiff,Nat.reduceAdd,Nat.reduceSub,Nat.reduceLT,Int.reduceEq,Int.reduceBNe,Nat.reducePow,spec1,TSl,IsSl,RInt,Prod.eta,Pm.c0,Pm.c1,Pm.c2,Pm.c3,Pm.c4,RPm,Pm.w_c,Pm.d,Pm.eta,RSp,Sp.d,RLt,Lt.d,Wk.L,TWk,toUI_val,go_sem]
end Go.Proofs.Ytlapepdhkomijaa
