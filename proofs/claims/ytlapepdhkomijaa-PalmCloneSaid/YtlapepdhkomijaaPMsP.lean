/- Palms, the program: Most. No condition. -/
import Derived.Test.YtlapepdhkomijaaPKn2
import Derived.Test.YtlapepdhkomijaaPSlP
import Derived.Test.YtlapepdhkomijaaPKr3
import Derived.Test.YtlapepdhkomijaaPTl2
import Derived.Test.YtlapepdhkomijaaPMr23
import Derived.Test.YtlapepdhkomijaaPEdg2
import Derived.Test.YtlapepdhkomijaaPCut2
set_option linter.unusedSimpArgs false
set_option linter.unusedVariables false
namespace Go.Proofs.Ytlapepdhkomijaa
open Go Go.RowKit
variable {G : Nat → Option (Nat × (Nat → Val))}
theorem st_le (w : Wk) (fr : Nat → Bool) (un : Nat → Int) : ∀ i j,(stD w fr un i).un j ≤ un j := by
 intro i
 induction i with
 | zero => intro j; exact Int.le_refl _
 | succ i ih =>
  intro j
  show (stepD w i (stD w fr un i)).un j ≤ un j
  rcases step_cases w i (stD w fr un i) with ⟨h,k,_,_,_,_,_,e⟩ | ⟨_,e⟩
  ·rw [e]
   show useD (stD w fr un i).un k j ≤ un j
   have := ih j
   unfold useD; split <;> omega
  ·rw [e]; exact ih j
set_option maxHeartbeats 4000000 in
set_option maxRecDepth 100000 in
theorem pMostP : PureOk Try.prog G 26 sMost7 := by
 refine fnN2 (N := []) (S := [(53,sOpen),(63,sSpN),(65,sInN),(66,sOutN),(68,sLotN),(59,sGoodN)]) (I := [(55,a55),(83,a83),(84,a84),(85,a85),(57,a57),(58,a58)])
  mixed (.cons pOpen (.cons pSpN (.cons pInN (.cons pOutN (.cons pLotN (.cons pGoodN .nil)))))) (.cons Try.func55 c55 (.cons Try.func83 c83 (.cons Try.func84 c84 (.cons Try.func85 c85 (.cons Try.func57 c57 (.cons Try.func58 c58 .nil)))))) Try.func26 c26 fun l w _ hw => ?_
 simp only [Nat.reduceSub,Nat.reducePow,go_sem] at hw
 by_cases he : workE l w = 0
 ·have hb := (workE_0 he).2.2.b
  have hS := hb.s
  have hH := hb.h
  have hL := hb.l
  obtain ⟨w0,w1,w2,w3⟩ := hw
  rw [if_pos he]
  simp only [RunToN]
  generalize hSd : [(53,sOpen),(63,sSpN),(65,sInN),(66,sOutN),(68,sLotN),(59,sGoodN)] = S
  generalize hId : [(55,a55),(83,a83),(84,a84),(85,a85),(57,a57),(58,a58)] = I
  have hs0 : lkp S 53 = some sOpen := by rw [← hSd]; rfl
  have hs1 : lkp S 63 = some sSpN := by rw [← hSd]; rfl
  have hs2 : lkp S 65 = some sInN := by rw [← hSd]; rfl
  have hs3 : lkp S 66 = some sOutN := by rw [← hSd]; rfl
  have hs4 : lkp S 68 = some sLotN := by rw [← hSd]; rfl
  have hs5 : lkp S 59 = some sGoodN := by rw [← hSd]; rfl
  have hi1 : lkp I 55 = some a55 := by rw [← hId]; rfl
  have hi2 : lkp I 83 = some a83 := by rw [← hId]; rfl
  have hi3 : lkp I 84 = some a84 := by rw [← hId]; rfl
  have hi4 : lkp S 55 = none := by rw [← hSd]; rfl
  have hi5 : lkp S 83 = none := by rw [← hSd]; rfl
  have hi6 : lkp S 84 = none := by rw [← hSd]; rfl
  have hi7 : lkp I 59 = none := by rw [← hId]; rfl
  have hi8 : lkp I 85 = some a85 := by rw [← hId]; rfl
  have hi9 : lkp S 85 = none := by rw [← hSd]; rfl
  have hia : lkp I 57 = some a57 := by rw [← hId]; rfl
  have hib : lkp I 58 = some a58 := by rw [← hId]; rfl
  have hid : lkp S 57 = none := by rw [← hSd]; rfl
  have hie : lkp S 58 = none := by rw [← hSd]; rfl
  have hic : lkp I 53 = none := by rw [← hId]; rfl
  simp only [a26,hs0,hia,hic,hid,sOpen,dayL,he,w0,w1,w2,w3,↓imp_ft,↓imp_ff,↓reduceIte,reduceCtorEq,Nat.reduceEqDiff,Nat.reduceAdd,Nat.reduceSub,Nat.reduceLT,Nat.reducePow,go_sem]
  refine knot_run3 (first := 0) (tk := fun _ => false) (us := fun _ => 0) (Tl.of ?_ ?_ ?_) (Sk.of ?_) hs1 hs2 hs3 hs4 hs5 hi1 hi2 hi3 hi4 hi5 hi6 hi7 w hb w1 w2 w3 (Nat.zero_le _) (fun q hq => ⟨Int.le_refl _,(hb.u q hq).1⟩) _ fun T M' hM hTm hKn => ?_
  ·simp only [idsLt]; decide
  ·simp only [idsGe]; decide
  ·refine ⟨⟨.cells rfl,fun N D _ => ⟨rfl,vsub_nm _ ?_⟩⟩,⟨.cells rfl,fun N D _ => ⟨rfl,vsub_nm _ ?_⟩⟩,⟨.cells rfl,fun N D _ => ⟨rfl,vsub_nm _ ?_⟩⟩,trivial⟩ <;> simp only [nmD,and_self]
  ·rfl
  obtain ⟨M',rfl⟩ : ∃ m,M' = m + 60000 := ⟨M' - 60000,by omega⟩
  simp only [hib,hie,↓reduceIte,go_sem]
  refine most_run3 (Tl.of ?_ ?_ ?_) hi8 hi9 w hb w1 w2 w3 0 (Nat.zero_le _) (fun _ => false) (fun _ => 0) (fun q hq => ⟨Int.le_refl _,(hb.u q hq).1⟩) _ T hTm hKn fun v bx' M'' sn' lf' hM'' hMost hv0 hvS hlow hnet hold => ?_
  ·simp only [idsLt]; decide
  ·simp only [idsGe]; decide
  ·refine ⟨⟨.cells rfl,fun N D _ => ⟨rfl,vsub_nm _ ?_⟩⟩,⟨.cells rfl,fun N D _ => ⟨rfl,vsub_nm _ ?_⟩⟩,⟨.cells rfl,fun N D _ => ⟨rfl,vsub_nm _ ?_⟩⟩,trivial⟩ <;> simp only [nmD,and_self]
  obtain ⟨M'',rfl⟩ : ∃ m,M'' = m + 40000 := ⟨M'' - 40000,by omega⟩
  have e0 := hlow (.n 0) (by decide)
  have e1 := hlow (.n 1) (by decide)
  have e2 := hlow (.n 2) (by decide)
  have e3 := hold (.n 3) (by simp) (by simp) (by simp)
  have e4 := hold (.n 4) (by simp) (by simp) (by simp)
  have e5 := hold (.n 5) (by simp) (by simp) (by simp)
  have e7 := hold (.n 7) (by simp) (by simp) (by simp)
  have e10 := fun z : Int => hold (.f 10 z) (by simp) (by simp) (by simp)
  have e11 := fun z : Int => hold (.f 11 z) (by simp) (by simp) (by simp)
  have e6 := hnet.x
  obtain ⟨ce,e9,_⟩ := hnet.e
  obtain ⟨zh,zf,e12,_,hzf⟩ := hnet.z
  simp only [List.cons_append,List.nil_append,↓reduceIte,reduceCtorEq,Nat.reduceEqDiff,go_sem] at e0 e1 e2 e3 e4 e5 e7 e10 e11
  have hdom : ∀ b,(∀ k,b = .n k → k ≠ 0 ∧ k ≠ 1 ∧ k ≠ 2 ∧ k ≠ 3 ∧ k ≠ 4 ∧ k ≠ 5 ∧ k ≠ 6 ∧ k ≠ 7 ∧ k ≠ 9 ∧ k ≠ 12) → (∀ k z,b = .f k z → k ≠ 10 ∧ (k = 11 → z ≠ (w.spathes.1 : Int))) → bget bx' b = none := fun b h1 h2 => by
   rw [hold b (fun e => by have := h1 _ e; omega) (fun e => by have := h1 _ e; omega) (fun e => by have := h1 _ e; omega)]
   cases b with
   | n k =>
    have := h1 k rfl
    simp only [bget,List.cons_append,List.nil_append]
    repeat rw [if_neg (by omega)]
   | f k z =>
    obtain ⟨g1,g2⟩ := h2 k z rfl
    simp only [bget,List.cons_append,List.nil_append]
    rw [if_neg (fun q => g2 q.1.symm (of_decide_eq_true q.2)),if_neg (fun q => g1 q.1.symm)]
  have e13 : bget bx' (.n 13) = none := hdom _ (fun k e => by cases e; omega) (fun k z e => by cases e)
  have e14 : bget bx' (.n 14) = none := hdom _ (fun k e => by cases e; omega) (fun k z e => by cases e)
  have e15 : bget bx' (.n 15) = none := hdom _ (fun k e => by cases e; omega) (fun k z e => by cases e)
  obtain ⟨dd,hdd⟩ : ∃ dd : Bx,dd = [(3,.cells (.cons (.int .i64 w.day) (.cons (.view 3 w.spathes.1 fun a b => (w.spathes.2 a).c b) (.cons (.view 1 w.hours.1 fun a b => .int .i64 (w.hours.2 a)) (.cons (.view 4 w.lots.1 fun a b => (w.lots.2 a).c b) (.cons (.int .i64 w.opn) .nil)))))),(4,.cells (leftL ((0 : Nat) : Int) (fun _ => false) fun _ => 0)),(5,.mz .i64 fun z => .own (.f 10 z)),(6,.cells (netL w 9 5 (.mapb (.n 12)))),(7,.cells (.cons (.ptr (.n 6) 0) .nil)),(9,.row 150 2 T.m ce),(10,.fam (fun _ => true) fun z => .row 3 1 (T.ln z) fun i _ => .int .i64 (T.ix z i)),(11,.fam (fun z => decide (z = (w.spathes.1 : Int))) fun _ => .cells (.cons (.int .i64 w.spathes.1) .nil)),(12,.mp .i64 zh fun _ => .bool true)] := ⟨_,rfl⟩
  simp only [e1,w1,↓reduceIte,Nat.reduceEqDiff,Nat.reduceAdd,Nat.reduceSub,Nat.reduceLeDiff,Nat.reducePow,go_sem]
  have hun : (fun j : Nat => (w.lots.2 j).units - 0) = fun j => (w.lots.2 j).units := by funext j; omega
  have hv : maxP (ntF w 0 (fun _ => true) fun j => (w.lots.2 j).units) = v := by
   have := ntP_max hMost
   rw [hun] at this
   exact this
  have hu : ∀ j,j < w.lots.1 → 0 ≤ (w.lots.2 j).units ∧ (w.lots.2 j).units ≤ 100 := hb.u
  have hdomH : ∀ (i : Nat) b,bget ([(15,.row 84 3 (stD w (fun _ => true) (fun j => (w.lots.2 j).units) i).cnt fun a b => ((stD w (fun _ => true) (fun j => (w.lots.2 j).units) i).pl a).c b),(14,.cells (.cons (.own (.n 15)) .nil)),(13,.cells (.cons (.int .i64 (stD w (fun _ => true) (fun j => (w.lots.2 j).units) i).need) .nil)),(2,.cells (leftL (i : Int) (fun h => !(stD w (fun _ => true) (fun j => (w.lots.2 j).units) i).fr h) fun j => (w.lots.2 j).units - (stD w (fun _ => true) (fun j => (w.lots.2 j).units) i).un j)),(1,.cells (.cons (.int .i64 w.day) (.cons (.view 3 w.spathes.1 fun a b => (w.spathes.2 a).c b) (.cons (.view 1 w.hours.1 fun a b => .int .i64 (w.hours.2 a)) (.cons (.view 4 w.lots.1 fun a b => (w.lots.2 a).c b) (.cons (.int .i64 w.opn) .nil)))))),(0,.cells (.cons (.int .i64 w.day) (.cons (.view 3 w.spathes.1 fun a b => (w.spathes.2 a).c b) (.cons (.view 1 w.hours.1 fun a b => .int .i64 (w.hours.2 a)) (.cons (.view 4 w.lots.1 fun a b => (w.lots.2 a).c b) (.cons (.int .i64 w.opn) .nil))))))] ++ dd) b = none → bget ((14,.one (.cells (.cons .nils .nil))) :: (13,.one (.cells (.cons (.int .i64 v) .nil))) :: bx') b = none := fun i b hb => by
   rw [hdd] at hb
   cases b with
   | n k =>
    have n15 : k ≠ 15 := fun e => by subst e; simp [bget] at hb
    have n14 : k ≠ 14 := fun e => by subst e; simp [bget] at hb
    have n13 : k ≠ 13 := fun e => by subst e; simp [bget] at hb
    have n2 : k ≠ 2 := fun e => by subst e; simp [bget] at hb
    have n1 : k ≠ 1 := fun e => by subst e; simp [bget] at hb
    have n0 : k ≠ 0 := fun e => by subst e; simp [bget] at hb
    have n3 : k ≠ 3 := fun e => by subst e; simp [bget] at hb
    have n4 : k ≠ 4 := fun e => by subst e; simp [bget] at hb
    have n5 : k ≠ 5 := fun e => by subst e; simp [bget] at hb
    have n6 : k ≠ 6 := fun e => by subst e; simp [bget] at hb
    have n7 : k ≠ 7 := fun e => by subst e; simp [bget] at hb
    have n9 : k ≠ 9 := fun e => by subst e; simp [bget] at hb
    have n12 : k ≠ 12 := fun e => by subst e; simp [bget] at hb
    simp only [bget]
    rw [if_neg (fun e => n14 e.symm),if_neg (fun e => n13 e.symm)]
    exact hdom _ (fun k' e => by cases e; exact ⟨n0,n1,n2,n3,n4,n5,n6,n7,n9,n12⟩) (fun _ _ e => by cases e)
   | f k z =>
    simp only [bget]
    refine hdom _ (fun _ e => by cases e) fun k' z' e => ?_
    cases e
    exact ⟨fun e => by subst e; simp [bget] at hb,fun e e2 => by subst e; subst e2; simp [bget] at hb⟩
  refine loop_intro (ι := Nat) (fun i => i ≤ w.spathes.1) (fun i => w.spathes.1 - i) (fun i => [(33,.int .i64 i),(32,.int .i64 w.spathes.1),(10,.ptr (.n 14) 0),(9,.ptr (.n 13) 0),(8,.ptr (.n 2) 0),(6,.ptr (.n 1) 0)])
   (fun i => [(15,.row 84 3 (stD w (fun _ => true) (fun j => (w.lots.2 j).units) i).cnt fun a b => ((stD w (fun _ => true) (fun j => (w.lots.2 j).units) i).pl a).c b),(14,.cells (.cons (.own (.n 15)) .nil)),(13,.cells (.cons (.int .i64 (stD w (fun _ => true) (fun j => (w.lots.2 j).units) i).need) .nil)),(2,.cells (leftL (i : Int) (fun h => !(stD w (fun _ => true) (fun j => (w.lots.2 j).units) i).fr h) fun j => (w.lots.2 j).units - (stD w (fun _ => true) (fun j => (w.lots.2 j).units) i).un j)),(1,.cells (.cons (.int .i64 w.day) (.cons (.view 3 w.spathes.1 fun a b => (w.spathes.2 a).c b) (.cons (.view 1 w.hours.1 fun a b => .int .i64 (w.hours.2 a)) (.cons (.view 4 w.lots.1 fun a b => (w.lots.2 a).c b) (.cons (.int .i64 w.opn) .nil)))))),(0,.cells (.cons (.int .i64 w.day) (.cons (.view 3 w.spathes.1 fun a b => (w.spathes.2 a).c b) (.cons (.view 1 w.hours.1 fun a b => .int .i64 (w.hours.2 a)) (.cons (.view 4 w.lots.1 fun a b => (w.lots.2 a).c b) (.cons (.int .i64 w.opn) .nil))))))] ++ dd) 1 0 (Nat.zero_le _) (.inr (chkG_in (by omega) ?_ ?_ ?_ fun b hb => ?_)) fun i hi => ?_
  ·simp only [hdd,List.cons_append,List.nil_append,↓reduceIte,Nat.reduceEqDiff,go_sem]
  ·simp only [AllB,hdd,e0,e1,e2,e3,e4,e5,e6,e7,e9,e10,e11,e12,e15,newIn,stD,hv,List.cons_append,List.nil_append,↓imp_tt,↓reduceIte,reduceCtorEq,Nat.reduceEqDiff,Nat.reduceLT,go_sem]
   exact ⟨.inl (by simp [leftL]),.inl rfl,fun z => .inl (by simp),fun z hz => .inl (if_pos hz),.inr hzf⟩
  ·simp only [AllB,hdd,e0,e1,e2,e3,e4,e5,e6,e7,e9,e10,e11,e12,e15,List.cons_append,List.nil_append,↓imp_tt,↓reduceIte,reduceCtorEq,Nat.reduceEqDiff,Nat.reduceAdd,go_sem]
   exact ⟨.inr (by decide),fun z => .inr (by show 10 < 16; decide),fun z _ => .inr (by show 11 < 16; decide)⟩
  ·exact hdomH 0 b hb
  ·have hde : ∀ B whole,13 ≤ B → ExtB dd whole → EntsOk B whole dd := by
    rw [hdd]
    intro B whole hB hx
    have g3 := hx (.n 3) _ rfl
    have g4 := hx (.n 4) _ rfl
    have g5 := hx (.n 5) _ rfl
    have g6 := hx (.n 6) _ rfl
    have g7 := hx (.n 7) _ rfl
    have g9 := hx (.n 9) _ rfl
    have g10 := fun z : Int => hx (.f 10 z) (.row 3 1 (T.ln z) fun i _ => .int .i64 (T.ix z i)) (by simp [bget])
    have g11 := fun (z : Int) (hz : decide (z = (w.spathes.1 : Int)) = true) => hx (.f 11 z) (.cells (.cons (.int .i64 w.spathes.1) .nil)) (by simp only [bget]; simp [of_decide_eq_true hz])
    have g12 := hx (.n 12) _ rfl
    refine ⟨⟨(BxUp.cells (B := 13) rfl).mono hB,fun N D hD => ?_⟩,⟨(BxUp.cells (B := 13) rfl).mono hB,fun N D hD => ?_⟩,⟨(BxUp.mz (B := 13) fun z => rfl).mono hB,fun N D hD => ?_⟩,⟨(BxUp.cells (B := 13) rfl).mono hB,fun N D hD => ?_⟩,⟨(BxUp.cells (B := 13) rfl).mono hB,fun N D hD => ?_⟩,⟨BxUp.row,fun N D hD => ?_⟩,⟨fun z => BxUp.row,fun N D hD z hz => ?_⟩,⟨fun z => (BxUp.cells (B := 13) rfl).mono hB,fun N D hD z hz => ?_⟩,⟨(BxUp.mp (B := 13) fun z => rfl).mono hB,fun N D hD => ?_⟩,trivial⟩
    ·rw [g3]; exact ⟨rfl,vsub_nm _ (by simp only [nmD,and_self])⟩
    ·rw [g4]; exact ⟨rfl,vsub_nm _ (by simp only [leftL,nmD,and_self])⟩
    ·rw [g5]; exact ⟨rfl,fun k => .inl ⟨rfl,hD _ _ (g10 k)⟩⟩
    ·rw [g6]; exact ⟨rfl,vsub_nm _ (by simp only [netL,nmD,true_and,and_true]; exact ⟨hD _ _ g9,hD _ _ g5,hD _ _ g12⟩)⟩
    ·rw [g7]; exact ⟨rfl,vsub_nm _ ⟨hD _ _ g6,trivial⟩⟩
    ·rw [g9]; exact ⟨rfl,rfl,rfl,fun i _ j _ => by rw [vsubP_self]; trivial⟩
    ·rw [g10 z]; exact ⟨rfl,rfl,rfl,fun i _ j _ => by rw [vsubP_self]; trivial⟩
    ·rw [g11 z hz]; exact ⟨rfl,vsub_nm _ (by simp only [nmD,and_self])⟩
    ·rw [g12]; exact ⟨rfl,fun k => ⟨rfl,fun _ => rfl⟩⟩
   have hTd : Tl 3 13 dd := Tl.of (by rw [hdd]; simp only [idsLt]; decide) (by rw [hdd]; simp only [idsGe]; decide) (hde 13 dd (Nat.le_refl _) fun _ _ h => h)
   have hok := st_ok hb (fr := fun _ => true) hu i
   have hnx : stD w (fun _ => true) (fun j => (w.lots.2 j).units) (i + 1) = stepD w i (stD w (fun _ => true) (fun j => (w.lots.2 j).units) i) := rfl
   by_cases hil : i < w.spathes.1
   ·have fi : ((i : Int) < (w.spathes.1 : Int)) = True := eq_true (by omega)
    have hle := st_le w (fun _ => true) (fun j => (w.lots.2 j).units) i
    generalize hs : stD w (fun _ => true) (fun j => (w.lots.2 j).units) i = s at hok hnx hle
    simp only [fi,vset_left0,vlen_left,List.cons_append,List.nil_append,hi1,hi2,hi4,w1,w2,w3,a55,a83,↓imp_tt,↓imp_tf,↓reduceIte,reduceCtorEq,Nat.reduceEqDiff,Nat.reduceAdd,Nat.reduceSub,Nat.reduceLeDiff,Nat.reducePow,go_sem]
    refine fun g => ⟨by omega,?_⟩
    have wi : IntKind.i64.wrap ((i : Int) + 1) = ((i + 1 : Nat) : Int) := wrS (by omega)
    have hcnt := hok.cn
    simp only [wi]
    refine loopI (ι := Nat) (fun h => h ≤ w.hours.1 ∧ ∀ h',h' < h → ∀ j',j' < w.lots.1 → ¬ canD w i s h' j') (fun h => w.hours.1 - h) [0,1,2,4,16,17] (fun h => [(18,.int .i64 h)]) (fun _ => []) 0 ⟨Nat.zero_le _,fun h hh => absurd hh (Nat.not_lt_zero _)⟩ (by
     simp only [hTd.ck,hTd.il,hTd.kp,hTd.xb,hTd.xc,vsub_left,isLB_left,↓reduceIte,reduceCtorEq,Nat.reduceEqDiff,Nat.reduceLeDiff,Nat.reduceLT,go_sem]) fun h hh => ?_
    obtain ⟨hh1,hh2⟩ := hh
    by_cases hhl : h < w.hours.1
    ·have fh : ((h : Int) < (w.hours.1 : Int)) = True := eq_true (by omega)
     have ph1 : (0 ≤ (h : Int)) = True := eq_true (by omega)
     have wo : IntKind.i64.wrap ((w.spathes.2 i).cracks.lo + w.opn) = (w.spathes.2 i).cracks.lo + w.opn := wr64 (by have := hb.c i (by omega); have := hb.o; omega) (by have := hb.c i (by omega); have := hb.o; omega)
     by_cases t1 : (w.spathes.2 i).cracks.hi ≤ w.hours.2 h
     ·have g1 : ((w.spathes.2 i).cracks.hi ≤ w.hours.2 h) = True := eq_true t1
      by_cases t2 : w.hours.2 h < (w.spathes.2 i).cracks.lo + w.opn
      ·have g2 : (w.hours.2 h < (w.spathes.2 i).cracks.lo + w.opn) = True := eq_true t2
       have ht : takesF w i h = true := decide_eq_true ⟨t1,t2⟩
       simp only [fh,ph1,g1,g2,wo,w3,↓imp_tt,↓imp_tf,↓reduceIte,reduceCtorEq,Nat.reduceEqDiff,Nat.reduceAdd,Nat.reduceSub,Nat.reduceLeDiff,Nat.reducePow,go_sem]
       refine loopI (ι := Nat) (fun j => j ≤ w.lots.1 ∧ ∀ j',j' < j → ¬ canD w i s h j') (fun j => w.lots.1 - j) [6,8,9,10,11,12,45,46] (fun j => [(47,.int .i64 j)]) (fun _ => []) 0 ⟨Nat.zero_le _,fun j hj => absurd hj (Nat.not_lt_zero _)⟩ (by
        simp only [hTd.ck,hTd.il,hTd.kp,hTd.xb,hTd.xc,vsub_left,isLB_left,↓reduceIte,reduceCtorEq,Nat.reduceEqDiff,Nat.reduceLeDiff,Nat.reduceLT,go_sem]) fun j hj => ?_
       obtain ⟨hj1,hj2⟩ := hj
       by_cases hjl : j < w.lots.1
       ·have fj : ((j : Int) < (w.lots.1 : Int)) = True := eq_true (by omega)
        have pj1 : (0 ≤ (j : Int)) = True := eq_true (by omega)
        have h0 := hok.un j hjl
        have hux := hu j hjl
        have vt1 : vget (leftL ((i + 1 : Nat) : Int) (fun h => !s.fr h) fun j => (w.lots.2 j).units - s.un j) (1 + h) = .bool (!s.fr h) := vget_leftT (by omega)
        have vt2 : vget (leftL ((i + 1 : Nat) : Int) (fun h => !s.fr h) fun j => (w.lots.2 j).units - s.un j) (h + 1) = .bool (!s.fr h) := by rw [Nat.add_comm h 1]; exact vt1
        have vu1 : vget (leftL ((i + 1 : Nat) : Int) (fun h => !s.fr h) fun j => (w.lots.2 j).units - s.un j) (17 + j) = .int .i64 ((w.lots.2 j).units - s.un j) := vget_leftU (by omega)
        have vu2 : vget (leftL ((i + 1 : Nat) : Int) (fun h => !s.fr h) fun j => (w.lots.2 j).units - s.un j) (j + 17) = .int .i64 ((w.lots.2 j).units - s.un j) := by rw [Nat.add_comm j 17]; exact vu1
        have hjn : ¬ canD w i s h j → j + 1 ≤ w.lots.1 ∧ ∀ j',j' < j + 1 → ¬ canD w i s h j' := fun hn => ⟨hjl,fun j' hj' => by
         by_cases e : j' = j
         ·subst e; exact hn
         ·exact hj2 j' (by omega)⟩
        cases hf : s.fr h with
        | false =>
         simp only [fj,ph1,pj1,vt1,hf,vlen_left,↓imp_tt,↓imp_tf,↓reduceIte,Nat.reduceEqDiff,Nat.reduceAdd,Nat.reduceSub,Nat.reduceLeDiff,go_sem]
         refine ⟨by omega,by omega,inv_intro (j + 1) (hjn fun hc => ?_) (by omega) ?_⟩
         ·have := hc.1; rw [hf] at this; cases this
         ·simp only [hTd.nn,hTd.ck,hTd.il,hTd.kp,hTd.xb,hTd.xc,vsub_left,isLB_left,↓reduceIte,reduceCtorEq,Nat.reduceEqDiff,Nat.reduceLeDiff,Nat.reduceLT,go_sem]
          exact wrS (by omega)
        | true =>
         by_cases hun : s.un j = 0
         ·have hun' : ((w.lots.2 j).units - s.un j = (w.lots.2 j).units) = True := eq_true (by omega)
          simp only [fj,ph1,pj1,vt1,vu1,hf,hun',vlen_left,hs5,hi7,hia,hid,↓imp_tt,↓imp_tf,↓imp_ft,↓imp_ff,↓reduceIte,Nat.reduceEqDiff,Nat.reduceAdd,Nat.reduceSub,Nat.reduceLeDiff,go_sem]
          refine ⟨by omega,by omega,by omega,by omega,inv_intro (j + 1) (hjn fun hc => ?_) (by omega) ?_⟩
          ·exact hc.2.1 hun
          ·simp only [hTd.nn,hTd.ck,hTd.il,hTd.kp,hTd.xb,hTd.xc,vsub_left,isLB_left,↓reduceIte,reduceCtorEq,Nat.reduceEqDiff,Nat.reduceLeDiff,Nat.reduceLT,go_sem]
           exact wrS (by omega)
         ·have hun' : ((w.lots.2 j).units - s.un j = (w.lots.2 j).units) = False := eq_false (by omega)
          cases hg : goodF w h j with
          | false =>
           simp only [fh,fj,ph1,pj1,vt1,vu1,hf,hun',hg,sGoodN,Int.toNat_natCast,vlen_left,hs5,hi7,↓imp_tt,↓imp_tf,↓imp_ft,↓imp_ff,↓reduceIte,reduceCtorEq,Nat.reduceEqDiff,Nat.reduceAdd,Nat.reduceSub,Nat.reduceLeDiff,go_sem]
           refine ⟨by omega,by omega,by omega,by omega,inv_intro (j + 1) (hjn fun hc => ?_) (by omega) ?_⟩
           ·have := hc.2.2.2.1; rw [hg] at this; cases this
           ·simp only [hTd.nn,hTd.ck,hTd.il,hTd.kp,hTd.xb,hTd.xc,vsub_left,isLB_left,↓reduceIte,reduceCtorEq,Nat.reduceEqDiff,Nat.reduceLeDiff,Nat.reduceLT,go_sem]
            exact wrS (by omega)
          | true =>
           have wu : IntKind.i64.wrap ((w.lots.2 j).units - s.un j + 1) = (w.lots.2 j).units - s.un j + 1 := wr64 (by omega) (by omega)
           obtain ⟨us1,hus1⟩ : ∃ us1 : Nat → Int,us1 = fun j => (w.lots.2 j).units - s.un j := ⟨_,rfl⟩
           obtain ⟨tk2,htk2⟩ : ∃ tk2 : Nat → Bool,tk2 = fun a => if a = h then true else !s.fr a := ⟨_,rfl⟩
           obtain ⟨us2,hus2⟩ : ∃ us2 : Nat → Int,us2 = fun b => if b = j then (w.lots.2 j).units - s.un j + 1 else us1 b := ⟨_,rfl⟩
           have hv1 : vset (leftL ((i + 1 : Nat) : Int) (fun h => !s.fr h) us1) (1 + h) (.bool true) = leftL ((i + 1 : Nat) : Int) tk2 us1 := by rw [htk2]; exact vset_leftT (by omega)
           have hv2 : vget (leftL ((i + 1 : Nat) : Int) tk2 us1) (17 + j) = .int .i64 ((w.lots.2 j).units - s.un j) := by rw [hus1]; exact vget_leftU (by omega)
           have hv3 : vset (leftL ((i + 1 : Nat) : Int) tk2 us1) (17 + j) (.int .i64 ((w.lots.2 j).units - s.un j + 1)) = leftL ((i + 1 : Nat) : Int) tk2 us2 := by rw [hus2]; exact vset_leftU (by omega)
           rw [← hus1] at vt1 vu1 ⊢
           simp only [fh,fj,ph1,pj1,vt1,vu1,hv1,hv2,hv3,hf,hun',hg,wu,sGoodN,↓sliceV_left,onesB_left,vsets_left0,Int.toNat_natCast,vlen_left,isLB_left,hs5,hi7,hia,hid,w1,w2,w3,↓imp_tt,↓imp_tf,↓imp_ft,↓imp_ff,↓reduceIte,reduceCtorEq,Nat.reduceEqDiff,Nat.reduceAdd,Nat.reduceSub,Nat.reduceLeDiff,Nat.reducePow,go_sem]
           refine ⟨by omega,by omega,by omega,by omega,fun _ => ⟨by omega,by omega,by omega,by omega,by omega,by omega,fun _ => ?_⟩⟩
           have hU2 : ∀ q,q < w.lots.1 → 0 ≤ us2 q ∧ us2 q ≤ (w.lots.2 q).units := fun q hq => by
            rw [hus2,hus1]
            have := hok.un q hq
            have := hu q hq
            have hleq := hle q
            simp only
            split
            ·rename_i e; subst e; omega
            ·omega
           refine knot_run23 (first := i + 1) (tk := tk2) (us := us2) (Tl.of ?_ (idsGe0 _) ?_) (Sk.of ?_) hs1 hs2 hs3 hs4 hs5 hi1 hi2 hi3 hi4 hi5 hi6 hi7 w hb w1 w2 w3 (by omega) hU2 _ fun T2 N' hN hTm2 hKn2 => ?_
           ·simp only [idsLt]
            repeat' (first | exact hTd.ids 23 (by decide) | (with_reducible apply And.intro) | decide)
           ·refine ⟨⟨.cells rfl,fun N D hD => ⟨rfl,vsub_nm _ (by simp only [leftL,nmD,and_self])⟩⟩,⟨.cells rfl,fun N D hD => ⟨rfl,vsub_nm _ (by simp only [nmD,and_self])⟩⟩,⟨.cells rfl,fun N D hD => ⟨rfl,vsub_nm _ (by simp only [nmD,and_self])⟩⟩,⟨.lp rfl,fun N D hD => ⟨rfl,rfl,rfl,rfl,rfl,?_⟩⟩,⟨.cells rfl,fun N D hD => ⟨rfl,vsub_nm _ (by simp only [nmD,and_self])⟩⟩,⟨.cells rfl,fun N D hD => ⟨rfl,vsub_nm _ (by simp only [nmD,and_self])⟩⟩,⟨.cells rfl,fun N D hD => ⟨rfl,vsub_nm _ (by simp only [nmD,and_self])⟩⟩,⟨.row,fun N D hD => ⟨rfl,rfl,rfl,fun i _ j _ => by rw [vsubP_self]; trivial⟩⟩,⟨.cells rfl,fun N D hD => ⟨rfl,vsub_nm _ ⟨hD (.n 15) _ rfl,trivial⟩⟩⟩,⟨.cells rfl,fun N D hD => ⟨rfl,vsub_nm _ (by simp only [nmD,and_self])⟩⟩,⟨.cells rfl,fun N D hD => ⟨rfl,vsub_nm _ (by simp only [leftL,nmD,and_self])⟩⟩,⟨.cells rfl,fun N D hD => ⟨rfl,vsub_nm _ (by simp only [nmD,and_self])⟩⟩,⟨.cells rfl,fun N D hD => ⟨rfl,vsub_nm _ (by simp only [nmD,and_self])⟩⟩,hde 23 _ (by decide) (by simp only [hTd.xb,hTd.xc,Nat.reduceLT,Nat.reduceLeDiff,or_true,true_or])⟩
            simp only [fget,↓reduceIte,Nat.reduceEqDiff,go_sem]
            exact ⟨hD (.n 1) _ rfl,hD (.n 2) _ rfl,hD (.n 13) _ rfl,hD (.n 14) _ rfl,hD (.n 16) _ rfl⟩
           ·rfl
           obtain ⟨N',rfl⟩ : ∃ m,N' = m + 25000 := ⟨N' - 25000,by omega⟩
           simp only [hib,hie,List.cons_append,List.nil_append,↓reduceIte,Nat.reduceEqDiff,go_sem]
           refine most_run23 (Tl.of ?_ (idsGe0 _) ?_) hi8 hi9 w hb w1 w2 w3 (i + 1) (by omega) tk2 us2 hU2 _ T2 hTm2 hKn2 fun v2 bx2 N2 sn2 lf2 hN2 hMost2 hv20 hv2S hlow2 hnet2 hold2 => ?_
           ·simp only [idsLt]
            repeat' (first | exact hTd.ids 23 (by decide) | (with_reducible apply And.intro) | decide)
           ·refine ⟨⟨.cells rfl,fun N D hD => ⟨rfl,vsub_nm _ (by simp only [leftL,nmD,and_self])⟩⟩,⟨.cells rfl,fun N D hD => ⟨rfl,vsub_nm _ (by simp only [nmD,and_self])⟩⟩,⟨.cells rfl,fun N D hD => ⟨rfl,vsub_nm _ (by simp only [nmD,and_self])⟩⟩,⟨.lp rfl,fun N D hD => ⟨rfl,rfl,rfl,rfl,rfl,?_⟩⟩,⟨.cells rfl,fun N D hD => ⟨rfl,vsub_nm _ (by simp only [nmD,and_self])⟩⟩,⟨.cells rfl,fun N D hD => ⟨rfl,vsub_nm _ (by simp only [nmD,and_self])⟩⟩,⟨.cells rfl,fun N D hD => ⟨rfl,vsub_nm _ (by simp only [nmD,and_self])⟩⟩,⟨.row,fun N D hD => ⟨rfl,rfl,rfl,fun i _ j _ => by rw [vsubP_self]; trivial⟩⟩,⟨.cells rfl,fun N D hD => ⟨rfl,vsub_nm _ ⟨hD (.n 15) _ rfl,trivial⟩⟩⟩,⟨.cells rfl,fun N D hD => ⟨rfl,vsub_nm _ (by simp only [nmD,and_self])⟩⟩,⟨.cells rfl,fun N D hD => ⟨rfl,vsub_nm _ (by simp only [leftL,nmD,and_self])⟩⟩,⟨.cells rfl,fun N D hD => ⟨rfl,vsub_nm _ (by simp only [nmD,and_self])⟩⟩,⟨.cells rfl,fun N D hD => ⟨rfl,vsub_nm _ (by simp only [nmD,and_self])⟩⟩,hde 23 _ (by decide) (by simp only [hTd.xb,hTd.xc,Nat.reduceLT,Nat.reduceLeDiff,or_true,true_or])⟩
            simp only [fget,↓reduceIte,Nat.reduceEqDiff,go_sem]
            exact ⟨hD (.n 1) _ rfl,hD (.n 2) _ rfl,hD (.n 13) _ rfl,hD (.n 14) _ rfl,hD (.n 16) _ rfl⟩
           obtain ⟨N2,rfl⟩ : ∃ m,N2 = m + 1000 := ⟨N2 - 1000,by omega⟩
           have f13 := hlow2 (.n 13) (by decide)
           simp only [↓reduceIte,Nat.reduceEqDiff,go_sem] at f13
           have wn : IntKind.i64.wrap (s.need - 1) = s.need - 1 := wr64 (by have := hok.nd; omega) (by have := hok.nd; omega)
           simp only [f13,wn,↓reduceIte,reduceCtorEq,Nat.reduceEqDiff,Nat.reduceAdd,Nat.reduceSub,Nat.reduceLeDiff,Nat.reduceMul,Nat.reduceLT,Nat.reducePow,go_sem]
           have f := fun k (hk : k < 23) => hlow2 (.n k) hk
           have f0 := f 0 (by decide)
           have f1 := f 1 (by decide)
           have f2 := f 2 (by decide)
           have f14 := f 14 (by decide)
           have f15 := f 15 (by decide)
           have f16 := f 16 (by decide)
           have f19 := f 19 (by decide)
           have f22 := f 22 (by decide)
           simp only [↓reduceIte,reduceCtorEq,Nat.reduceEqDiff,go_sem] at f0 f1 f2 f14 f15 f16 f19 f22
           have hmx : v2 = maxP (ntF w (i + 1) (takD s.fr h) (useD s.un j)) := by
            have := ntP_max hMost2
            rw [← this]
            congr 2
            ·funext a
             rw [htk2]
             unfold takD
             by_cases e : a = h
             ·simp [e]
             ·simp [e]
            ·funext a
             rw [hus2,hus1]
             unfold useD
             by_cases e : a = j
             ·subst e; simp; omega
             ·simp [e]; omega
           refine ⟨fun q => ?_,fun q => ?_⟩
           ·have hc : canD w i s h j := ⟨hf,hun,ht,hg,by rw [← hmx]; omega⟩
            have hst := step_at hhl hjl hc hh2 hj2
            simp only [f2,f13,f14,f15,f16,f19,f22,wn,bget_bset,bget_subBx,Bn.n.injEq,Option.map_some,vlen_left,subV_left,List.nil_append,↓imp_tt,↓imp_tf,↓reduceIte,reduceCtorEq,Nat.reduceEqDiff,Nat.reduceAdd,go_sem]
            refine ⟨rfl,by omega,by omega,inv_chkG (i + 1) hil (by omega) (chkG_dom (by omega) ?_ ?_ ?_ (hdomH (i + 1)))⟩
            ·simp only [↓reduceIte,reduceCtorEq,Nat.reduceEqDiff,go_sem]
             exact wrS (by omega)
            ·simp only [hnx,hst,putD,f0,f1,bget_bset,bget_subBx,bget_bdel,Bn.n.injEq,Option.map_some,isLB_left,↓reduceIte,reduceCtorEq,Nat.reduceEqDiff,go_sem]
             have g1 : (fun a => !takD s.fr h a) = tk2 := by
              rw [htk2]; funext a; unfold takD; by_cases e : a = h <;> simp [e]
             have g2 : (fun b => (w.lots.2 b).units - useD s.un j b) = us2 := by
              rw [hus2,hus1]; funext b; unfold useD
              by_cases e : b = j
              ·subst e; simp; omega
              ·simp [e]
             refine ⟨fun a ha b hb' => ?_,?_,?_⟩
             ·by_cases e : a = s.cnt
              ·subst e
               rw [if_pos rfl,if_neg (Nat.lt_irrefl _),Nat.sub_self]
               match b,hb' with
               | 0,_ | 1,_ | 2,_ => exact rfl
              ·rw [if_neg e,if_pos (by omega),vsubP_self]; trivial
             ·rw [vset_all,g1,g2,subV_left,subV_left,vsub_left]; trivial
             ·refine hTd.chk _ _ _ (fun b c hbc => ?_) fun b c hbc => ?_
              ·have hlt := hTd.lt hbc
               have hup := ents_up (hde 13 dd (Nat.le_refl _) fun _ _ h => h) hbc
               have hne : ∀ k,13 ≤ k ∨ k < 3 → ¬ b = .n k := fun k hk e => by subst e; simp only [Bn.id] at hlt; omega
               have hb2 : bget bx2 b = some c := by
                rw [hlow2 b (by omega),← hbc]
                cases b with
                | n k => simp only [Bn.id] at hlt; simp only [bget]; repeat rw [if_neg (by omega)]
                | f k z => simp only [bget]
               have hcut : ∀ (m : Bx) (e : Ent),bget ((33,e) :: m) b = bget m b := fun m e => by
                cases b <;> cases e <;> simp only [Bn.id] at hlt <;> simp only [bget]
                ·rw [if_neg (by omega)]
                ·rw [if_neg (fun q => by have := q.1; omega)]
               rw [hcut]
               simp only [bget_bset,bget_subBx,bget_bdel,if_neg (hne 19 (by decide)),if_neg (hne 15 (by decide)),if_neg (hne 14 (by decide)),if_neg (hne 13 (by decide)),if_neg (hne 2 (by decide)),hb2,Option.map_some,hup.sn 19 _ (by decide),hup.sn 15 _ (by decide)]
              ·refine ⟨c,?_⟩
               have hlt := hTd.lt hbc
               rw [← hbc]
               cases b with
               | n k => simp only [Bn.id] at hlt; simp only [bget]; repeat rw [if_neg (by omega)]
               | f k z => simp only [bget]
            ·simp only [idsLt]
             repeat' (first | exact hTd.ids 16 (by decide) | (with_reducible apply And.intro) | decide)
           ·refine inv_chkG (j + 1) (hjn fun hc => q (by have := hc.2.2.2.2; rw [hmx]; omega)) (by omega) (chkG_same (Nat.le_refl _) ?_ fun b c hb => ?_)
            ·simp only [↓reduceIte,Nat.reduceEqDiff,go_sem]
             exact wrS (by omega)
            ·have hid : b.id < 21 := by
              refine idsLt_get (nx := 21) ?_ _ _ hb
              simp only [idsLt]
              repeat' (first | exact hTd.ids 21 (by decide) | (with_reducible apply And.intro) | decide)
             rw [hlow2 b (by omega),← hb]
             cases b with
             | n k => simp only [Bn.id] at hid; simp only [bget]; rw [if_neg (by omega),if_neg (by omega)]
             | f k z => simp only [bget]
       ·have fj : ((j : Int) < (w.lots.1 : Int)) = False := eq_false (by omega)
        obtain rfl : j = w.lots.1 := by omega
        simp only [fj,↓imp_ft,↓imp_ff,↓reduceIte,Nat.reduceEqDiff,go_sem]
        refine inv_intro (h + 1) ⟨hhl,fun h' hh' j' hj' => ?_⟩ (by omega) ?_
        ·by_cases e : h' = h
         ·subst e; exact hj2 j' hj'
         ·exact hh2 h' (by omega) j' hj'
        ·simp only [hTd.ck,hTd.il,hTd.kp,hTd.xb,hTd.xc,vsub_left,isLB_left,↓reduceIte,reduceCtorEq,Nat.reduceEqDiff,Nat.reduceLeDiff,Nat.reduceLT,go_sem]
         exact wrS (by omega)
      ·have g2 : (w.hours.2 h < (w.spathes.2 i).cracks.lo + w.opn) = False := eq_false t2
       have ht : takesF w i h = false := decide_eq_false fun e => t2 e.2
       simp only [fh,ph1,g1,g2,wo,↓imp_tt,↓imp_tf,↓imp_ft,↓imp_ff,↓reduceIte,reduceCtorEq,Nat.reduceEqDiff,Nat.reduceAdd,Nat.reduceLeDiff,go_sem]
       refine inv_intro (h + 1) ⟨hhl,fun h' hh' j' hj' hc => ?_⟩ (by omega) ?_
       ·by_cases e : h' = h
        ·subst e; have := hc.2.2.1; rw [ht] at this; cases this
        ·exact hh2 h' (by omega) j' hj' hc
       ·simp only [hTd.ck,hTd.il,hTd.kp,hTd.xb,hTd.xc,vsub_left,isLB_left,↓reduceIte,reduceCtorEq,Nat.reduceEqDiff,Nat.reduceLeDiff,Nat.reduceLT,go_sem]
        exact wrS (by omega)
     ·have g1 : ((w.spathes.2 i).cracks.hi ≤ w.hours.2 h) = False := eq_false t1
      have ht : takesF w i h = false := decide_eq_false fun e => t1 e.1
      simp only [fh,ph1,g1,↓imp_tt,↓imp_tf,↓imp_ft,↓imp_ff,↓reduceIte,reduceCtorEq,Nat.reduceEqDiff,Nat.reduceAdd,go_sem]
      refine inv_intro (h + 1) ⟨hhl,fun h' hh' j' hj' hc => ?_⟩ (by omega) ?_
      ·by_cases e : h' = h
       ·subst e; have := hc.2.2.1; rw [ht] at this; cases this
       ·exact hh2 h' (by omega) j' hj' hc
      ·simp only [hTd.ck,hTd.il,hTd.kp,hTd.xb,hTd.xc,vsub_left,isLB_left,↓reduceIte,reduceCtorEq,Nat.reduceEqDiff,Nat.reduceLeDiff,Nat.reduceLT,go_sem]
       exact wrS (by omega)
    ·have fh : ((h : Int) < (w.hours.1 : Int)) = False := eq_false (by omega)
     obtain rfl : h = w.hours.1 := by omega
     have hst := step_no hh2
     simp only [fh,hTd.sn,hTd.dn,subV_left,↓imp_ft,↓imp_ff,↓reduceIte,reduceCtorEq,Nat.reduceEqDiff,Nat.reduceLeDiff,go_sem]
     refine inv_intro (i + 1) hil (by omega) ?_
     simp only [hnx,hst,hTd.nn,hTd.ck,hTd.il,hTd.kp,hTd.xb,hTd.xc,vsub_left,isLB_left,↓reduceIte,reduceCtorEq,Nat.reduceEqDiff,Nat.reduceLeDiff,Nat.reduceLT,go_sem]
     exact wrS (by omega)
   ·have fi : ((i : Int) < (w.spathes.1 : Int)) = False := eq_false (by omega)
    obtain rfl : i = w.spathes.1 := by omega
    simp only [fi,plD,List.cons_append,List.nil_append,↓imp_ft,↓imp_ff,↓reduceIte,Nat.reduceEqDiff,Nat.reduceAdd,go_sem]
 ·have hz : (workE l w = 0) = False := eq_false he
  rw [if_neg he]
  simp only [RunToN,a26,sOpen,hz,hw,↓reduceIte,reduceCtorEq,Nat.reduceEqDiff,Nat.reduceAdd,Nat.reduceSub,Nat.reduceLT,Nat.reducePow,go_sem]
end Go.Proofs.Ytlapepdhkomijaa
namespace Go.Proofs.Ytlapepdhkomijaa
open Go Go.RowKit
variable {G : Nat → Option (Nat × (Nat → Val))}
def selV (p : Nat → Bool) (n : Nat) : Val := .view 1 (cntN p n) fun a _ => .int .i64 (selN p n a)
def cvE : Val := .view 1 0 fun _ _ => .int .i64 0
noncomputable def cvV (w : Wk) : Val := .agg (.cons (selV (fun i => !lcB w (.sp i)) w.spathes.1) (.cons (selV (fun h => lcB w (.hi h) && !lcB w (.ho h)) w.hours.1) (.cons (selV (fun j => lcB w (.lt j)) w.lots.1) .nil)))
noncomputable def sProof7 : Spec := spec2 (TSl RPm) TWk (fun _ _ => True) fun l w => if workE l w = 0 then .tup (.cons (cvV w) (.cons (.int .i64 0) .nil)) else .tup (.cons (.agg (.cons cvE (.cons cvE (.cons cvE .nil)))) (.cons (.int .i64 (workE l w)) .nil))
end Go.Proofs.Ytlapepdhkomijaa
