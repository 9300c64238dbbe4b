/- Palms, the program: in, places, Check. No condition. -/
import Derived.Test.YtlapepdhkomijaaPFlw
import Derived.Test.YtlapepdhkomijaaPCut2
import Derived.Test.YtlapepdhkomijaaPSt
import Derived.Test.YtlapepdhkomijaaPNet
set_option linter.unusedSimpArgs false
set_option linter.unusedVariables false
namespace Go.Proofs.Ytlapepdhkomijaa
open Go Go.RowKit
variable {G : Nat → Option (Nat × (Nat → Val))}
noncomputable def sInP : Spec := spec3 TI TI (TSl (RInt .i64)) (fun _ _ _ => True) fun lo hi l => .bool (allB l.1 l.2 fun n => lo ≤ n ∧ n ≤ hi)
set_option maxRecDepth 100000 in
theorem pInPalm : PureOk Try.prog G 51 sInP := by
 refine fn3 (S := []) (I := [(79,a79),(80,a80),(88,a88)]) mixed .nil (.cons Try.func79 c79 (.cons Try.func80 c80 (.cons Try.func88 c88 .nil))) Try.func51 c51 fun lo hi l _ hw => ?_
 simp only [Nat.reduceSub,Nat.reducePow,go_sem] at hw
 simp only [RunTo,a51,a79,a80,a88,↓reduceIte,reduceCtorEq,Nat.reduceEqDiff,Nat.reduceAdd,Nat.reduceSub,Int.reduceNeg,Nat.reducePow,go_sem]
 intro w1 _ _
 refine loopI (ι := Nat) (fun j => j ≤ l.1 ∧ ∀ i < j,lo ≤ l.2 i ∧ l.2 i ≤ hi) (fun j => l.1 - j) [0,1,7] (fun j => [(8,.int .i64 j)]) (fun _ => []) 0 ⟨by omega,fun i h => by omega⟩ (by simp only [↓reduceIte,reduceCtorEq,Nat.reduceEqDiff,Nat.reduceLT,go_sem]; try rfl) fun j hj => ?_
 obtain ⟨hj1,hj2⟩ := hj
 simp only [w1,↓imp_tt,↓imp_tf,↓reduceIte,reduceCtorEq,Nat.reduceEqDiff,Nat.reduceAdd,Nat.reduceSub,Int.reduceNeg,Nat.reducePow,go_sem]
 refine ⟨fun h => ⟨by omega,by omega,fun h1 => allB_no (by omega) (by omega),fun h1 => ⟨fun h2 => allB_no (by omega) (by omega),fun h2 => inv_intro (j + 1) ⟨by omega,fun i hi => ?_⟩ (by omega) ?_⟩⟩,fun h => allB_yes fun i hi => hj2 i (by omega)⟩
 ·rcases Nat.lt_or_ge i j with h5 | h5
  ·exact hj2 i h5
  ·obtain rfl : i = j := by omega
   omega
 ·simp only [↓reduceIte,reduceCtorEq,Nat.reduceEqDiff,Nat.reduceLT,go_sem]
  rw [wrS (by omega)]
noncomputable def sPlaces : Spec := spec1 (TSl RPm) (fun _ => True) fun l => .mview .i64 (hasP l) fun k => .int .i64 (lstP l k)
set_option maxRecDepth 100000 in
theorem pPlaces : PureOk Try.prog G 50 sPlaces := by
  refine fn1 (S := []) (I := []) mixed .nil .nil Try.func50 c50 fun l _ hw => ?_
  simp only [Nat.reduceSub,Nat.reducePow,go_sem] at hw
  simp only [RunTo,a50,hw,↓reduceIte,reduceCtorEq,Nat.reduceSub,Nat.reducePow,go_sem]
  refine loopI (ι := Nat) (fun j => j ≤ l.1) (fun j => l.1 - j) [3,7,8] (fun j => [(9,.int .i64 j)]) (fun j => [(0,.mp .i64 (hasF l.2 j) fun k => .int .i64 (lstF l.2 j k))]) 0 (by omega) (by simp only [hasF,lstF,↓imp_ft,↓reduceIte,Nat.reduceEqDiff,Nat.reduceLT,go_sem]; try simp) fun j hj => ?_
  simp only [↓reduceIte,reduceCtorEq,Nat.reduceEqDiff,Nat.reduceAdd,Nat.reduceLeDiff,go_sem]
  refine ⟨fun hlt => ?_,fun hge => ?_⟩
  · repeat' (first | omega | (with_reducible apply And.intro) | intro _)
    all_goals first
      | (refine inv_intro (j + 1) (by omega) (by omega) ?_
         simp only [hasF,lstF,↓reduceIte,reduceCtorEq,Nat.reduceEqDiff,Nat.reduceLT,go_sem]
         rw [wrS (by omega)]
         refine ⟨rfl,fun k => ?_⟩
         by_cases e : k = (l.2 j).id
         · simp [e]
         · simp [e])
      | skip
  · obtain rfl : j = l.1 := by omega
    repeat' (first | omega | (with_reducible apply And.intro) | intro _)
    all_goals simp_all [hasP,lstP]
set_option maxRecDepth 100000 in
theorem pPalmCheck : PureOk Try.prog G 19 sCheck7 := by
  refine fn1 (S := [(50,sPlaces),(51,sInP)]) (I := []) mixed (.cons pPlaces (.cons pInPalm .nil)) .nil Try.func19 c19 fun l _ hw => ?_
  simp only [Nat.reduceSub,Nat.reducePow,go_sem] at hw
  simp only [RunTo,a19,sPlaces,sInP,hw,↓reduceIte,reduceCtorEq,Nat.reduceSub,Int.reduceNeg,Nat.reducePow,go_sem]
  refine ⟨fun h => (pmE_no fun k => by have := k.n; omega).symm,fun h24 => ?_⟩
  have hall := pmLk_all (l := l) (by omega)
  have hno : ∀ j,j < l.1 → ¬ PmLk l j → (70 : Int) = pmE l := fun j hj hn => (pmE_no fun k => hn (hall.1 k j hj)).symm
  repeat' (first | omega | (with_reducible apply And.intro) | intro _)
  refine loopI (ι := Nat) (fun j => j ≤ l.1 ∧ ∀ i,i < j → PmLk l i) (fun j => l.1 - j) [0,3,14,15] (fun j => [(4,.int .i64 (if j = 0 then 0 else (l.2 (j - 1)).id + 1)),(16,.int .i64 j)]) (fun _ => []) 0 ⟨by omega,fun i h => by omega⟩ (by simp only [↓reduceIte,reduceCtorEq,Nat.reduceEqDiff,go_sem]; try simp) fun j hj => ?_
  obtain ⟨hj1,hj2⟩ := hj
  by_cases hjl : j < l.1
  · have fj : ((j : Int) < (l.1 : Int)) = True := eq_true (by omega)
    have hnx : (if j = 0 then (0 : Int) else (l.2 (j - 1)).id + 1) ≤ (l.2 j).id ↔ (0 ≤ (l.2 j).id ∧ (0 < j → (l.2 (j - 1)).id < (l.2 j).id)) ∨ (¬ 0 ≤ (l.2 j).id ∧ (if j = 0 then (0 : Int) else (l.2 (j - 1)).id + 1) ≤ (l.2 j).id) := by
      split
      · omega
      · have := (hj2 (j - 1) (by omega)).1
        omega
    have hid0 : (if j = 0 then (0 : Int) else (l.2 (j - 1)).id + 1) ≤ (l.2 j).id → 0 ≤ (l.2 j).id := by
      split
      · omega
      · have := (hj2 (j - 1) (by omega)).1
        omega
    generalize hnxt : (if j = 0 then (0 : Int) else (l.2 (j - 1)).id + 1) = nxt at hnx hid0 ⊢
    have hup : nxt ≤ (l.2 j).id ↔ 0 ≤ (l.2 j).id ∧ (0 < j → (l.2 (j - 1)).id < (l.2 j).id) := ⟨fun h => by have := hid0 h; rcases hnx.1 h with h1 | h1 <;> omega,fun h => hnx.2 (.inl h)⟩
    have hS0 : (0 : Int) ≤ (l.2 j).sex.1 ∧ (l.2 j).sex.1 ≤ 255 := (l.2 j).sex.2
    have eS : IntKind.i64.wrap (l.2 j).sex.1 = (l.2 j).sex.1 := by
      exact wr64 (by omega) (by omega)
    cases hm : hasP l (l.2 j).mother with
    | true =>
      have hlt := (lstP_spec hm).1
      have hlk : PmLk l j ↔ (0 ≤ (l.2 j).id ∧ (l.2 j).id ≤ 9999) ∧ (0 < j → (l.2 (j - 1)).id < (l.2 j).id) ∧ (0 ≤ (l.2 j).planted ∧ (l.2 j).planted ≤ 100000) ∧ (l.2 j).sex.1 ≤ 2 ∧ (0 ≤ (l.2 j).sort ∧ (l.2 j).sort ≤ 99) ∧
          ((l.2 j).mother = -1 ∨ IntKind.i64.wrap ((l.2 (lstP l (l.2 j).mother)).planted + 1000) ≤ (l.2 j).planted) := by unfold PmLk; rw [hm]; simp only [true_and]
      simp only [fj,hm,eS,↓imp_tt,↓imp_tf,↓imp_ft,↓imp_ff,↓reduceIte,reduceCtorEq,Nat.reduceEqDiff,Nat.reduceAdd,Nat.reduceSub,Nat.reduceLeDiff,Nat.reduceLT,Int.reduceNeg,go_sem]
      simp only [lt1,allB_1,Int.reduceNeg,go_sem]
      repeat' (first | omega | (with_reducible apply And.intro) | intro _)
      all_goals first
        | (refine hno j (by omega) fun k => ?_
           rw [hlk] at k
           omega)
        | (refine inv_intro (j + 1) ⟨by omega,fun i hi => ?_⟩ (by omega) ?_
           · rcases Nat.lt_or_ge i j with h5 | h5
             · exact hj2 i h5
             · obtain rfl : i = j := by omega
               rw [hlk]; omega
           · simp only [↓reduceIte,reduceCtorEq,Nat.reduceEqDiff,Nat.reduceLT,go_sem]
             rw [wrS (by omega),wr64 (e := (l.2 j).id + 1) (by omega) (by omega)]
             simp)
        | exact Int.ofNat_lt.2 hlt
    | false =>
      have hlk : PmLk l j ↔ (0 ≤ (l.2 j).id ∧ (l.2 j).id ≤ 9999) ∧ (0 < j → (l.2 (j - 1)).id < (l.2 j).id) ∧ (0 ≤ (l.2 j).planted ∧ (l.2 j).planted ≤ 100000) ∧ (l.2 j).sex.1 ≤ 2 ∧ (0 ≤ (l.2 j).sort ∧ (l.2 j).sort ≤ 99) ∧
          (l.2 j).mother = -1 := by unfold PmLk; rw [hm]; simp only [Bool.false_eq_true,false_and,or_false]
      simp only [fj,hm,eS,↓imp_tt,↓imp_tf,↓imp_ft,↓imp_ff,↓reduceIte,reduceCtorEq,Nat.reduceEqDiff,Nat.reduceAdd,Nat.reduceSub,Nat.reduceLeDiff,Nat.reduceLT,Int.reduceNeg,go_sem]
      simp only [lt1,allB_1,Int.reduceNeg,go_sem]
      repeat' (first | omega | (with_reducible apply And.intro) | intro _)
      all_goals first
        | (refine hno j (by omega) fun k => ?_
           rw [hlk] at k
           omega)
        | (refine inv_intro (j + 1) ⟨by omega,fun i hi => ?_⟩ (by omega) ?_
           · rcases Nat.lt_or_ge i j with h5 | h5
             · exact hj2 i h5
             · obtain rfl : i = j := by omega
               rw [hlk]; omega
           · simp only [↓reduceIte,reduceCtorEq,Nat.reduceEqDiff,Nat.reduceLT,go_sem]
             rw [wrS (by omega),wr64 (e := (l.2 j).id + 1) (by omega) (by omega)]
             simp)
  · have fj : ((j : Int) < (l.1 : Int)) = False := eq_false (by omega)
    simp only [fj,↓imp_ft,↓imp_ff,↓reduceIte,reduceCtorEq,Nat.reduceEqDiff,Int.reduceNeg,go_sem]
    exact (pmE_ok (hall.2 fun i hi => hj2 i (by omega))).symm
end Go.Proofs.Ytlapepdhkomijaa
namespace Go.Proofs.Ytlapepdhkomijaa
open Go Go.RowKit
variable {G : Nat → Option (Nat × (Nat → Val))}
theorem chkG_setN {bx0 bx1 : Bx} {nx nx' : Nat} {fr1 fr' : Fr} {b : Bn} {c0 c1 c' : Box} (hn : nx ≤ nx') (h0 : bget bx0 b = some c0) (h1 : bget bx1 b = some c1) (hold : ∀ y,y ≠ b → ∀ c,bget bx0 y = some c → bget bx1 y = some c)
  (hbox : chkBx1 (newIn bx1 (bset bx0 b c')) (hasB (bset bx0 b c')) (some c1) c') (hfr : chkFr (newIn bx1 (bset bx0 b c')) (hasB (bset bx0 b c')) fr1 fr') : ChkG bx0 nx fr1 bx1 fr' (bset bx0 b c') nx' := by
 refine ⟨none,trivial,hn,hfr,fun y c hy => ?_,fun y c hy => ?_,fun y d0 d1 q0 q1 => ?_⟩
 ·rw [bget_bset] at hy
  split at hy
  ·rename_i e; subst e; cases hy
   right
   show chkBx1 _ _ (bget bx1 y) _
   rw [h1]; exact hbox
  ·rename_i e; exact .inl ⟨hy,hold y e _ hy⟩
 ·rw [bget_bset] at hy
  split at hy
  ·rename_i e; subst e; exact .inl ⟨_,h0⟩
  ·exact .inl ⟨_,hy⟩
 ·rw [bget_bset]
  split
  ·rename_i e; subst e; rw [h1] at q1; cases q1; exact ⟨_,rfl,chk_kin hbox⟩
  ·rename_i e; rw [hold y e _ q0] at q1; cases q1; exact ⟨_,q0,Kin.refl _⟩
def lookV (Cf Cl Ck : Nat) : Val := .func (.func 78) (.cons (.ptr (.n Cf) 0) (.cons (.ptr (.n Cl) 0) (.cons (.ptr (.n Ck) 0) .nil)))
structure PLook (l : Pms) (Cf Cl Ck Z : Nat) (s : Nat → Bool) (bx : Bx) : Prop where
 f : bget bx (.n Cf) = some (.cells (.cons (.mapb (.n Z)) .nil))
 lb : bget bx (.n Cl) = some (.cells (.cons (.view 5 l.1 fun a b => (l.2 a).c b) .nil))
 k : bget bx (.n Ck) = some (.cells (.cons (lookV Cf Cl Ck) .nil))
 z : ∃ has f,bget bx (.n Z) = some (.mp .i64 has f) ∧ (∀ u : Nat,u < l.1 → has u = s u) ∧ ∀ k,has k = true → f k = .bool true
 ni : noIt (.n Z) bx
set_option maxHeartbeats 4000000 in
set_option maxRecDepth 100000 in
theorem look_run {S : List (FuncId × Spec)} {I : List (FuncId × AFun)} {N : List TypeId} {Q : Val → Bx → Prop} (h78 : lkp S 78 = none) (h78' : lkp I 78 = some a78) {l : Pms} (hl : PmsOk l) (hw : l.1 ≤ 9223372036854775807) {Cf Cl Ck Z : Nat} :
  ∀ (d i : Nat) (s : Nat → Bool) (bx : Bx) (nx B : Nat) (f : SFrame) (stk : List SFrame),i < l.1 → uns s l.1 ≤ d → 300 + 300 * d ≤ B → PLook l Cf Cl Ck Z s bx → Z < nx → Cf < nx → Cl < nx → Ck < nx → (∀ m,nx ≤ m → bget bx (.n m) = none) →
   (∀ t bx' B',B ≤ B' + 300 * d + 200 → LkPost l s i t → PLook l Cf Cl Ck Z t bx' → (∀ y,y ≠ .n Z → bget bx' y = bget bx y) → runO (mkN G S I N) Q B' f.K stk f.res (fput f.fr f.d (.tup .nil)) bx' nx) →
   runO (mkN G S I N) Q B [.code a78.code] (f :: stk) a78.res [(0,.int .i64 i),(1,.ptr (.n Cf) 0),(2,.ptr (.n Cl) 0),(3,.ptr (.n Ck) 0)] bx nx := by
 intro d
 induction d with
 | zero =>
  intro i s bx nx B f stk hi hd hM hnet _ _ _ _ _ hK
  obtain ⟨B,rfl⟩ : ∃ m,B = m + 250 := ⟨B - 250,by omega⟩
  have hf := hnet.f
  obtain ⟨has,fz,hz,hhas,hfz⟩ := hnet.z
  have hsi : s i = true := by
   cases e : s i with
   | true => rfl
   | false => have := uns_upd e hi; omega
  have hhi := hhas i hi
  rw [hsi] at hhi
  have hfi := hfz i hhi
  simp only [a78,hf,hz,hhi,hfi,↓imp_tt,↓imp_tf,↓reduceIte,reduceCtorEq,Nat.reduceEqDiff,go_sem]
  exact hK s bx _ (by omega) (.same hsi) hnet fun _ _ => rfl
 | succ d ih =>
  intro i s bx nx B f stk hi hd hM hnet hZn hfn hln hkn hN hK
  obtain ⟨B,rfl⟩ : ∃ m,B = m + 250 := ⟨B - 250,by omega⟩
  have hf := hnet.f
  have hlb := hnet.lb
  have hk := hnet.k
  obtain ⟨has,fz,hz,hhas,hfz⟩ := hnet.z
  have hni : noIt (.n Z) bx = True := eq_true hnet.ni
  have hfZ : (Cf = Z) = False := eq_false fun e => by subst e; rw [hf] at hz; cases hz
  have hlZ : (Cl = Z) = False := eq_false fun e => by subst e; rw [hlb] at hz; cases hz
  have hkZ : (Ck = Z) = False := eq_false fun e => by subst e; rw [hk] at hz; cases hz
  have hhi := hhas i hi
  cases hsi : s i with
  | true =>
   rw [hsi] at hhi
   have hfi := hfz i hhi
   simp only [a78,hf,hz,hhi,hfi,↓imp_tt,↓imp_tf,↓reduceIte,reduceCtorEq,Nat.reduceEqDiff,go_sem]
   exact hK s bx _ (by omega) (.same hsi) hnet fun _ _ => rfl
  | false =>
   rw [hsi] at hhi
   simp only [a78]
   simp only [hf,hlb,hz,hhi,hni,hlZ,hw,bget_bset,↓imp_ft,↓imp_ff,↓reduceIte,reduceCtorEq,Nat.reduceEqDiff,Nat.reduceSub,Nat.reducePow,go_sem]
   generalize hbs : bset bx (.n Z) (.mp .i64 (fun j => if j = (i : Int) then true else has j) fun j => if j = (i : Int) then .bool true else fz j) = bxs
   have hg : ∀ y,bget bxs y = if y = .n Z then some (.mp .i64 (fun j => if j = (i : Int) then true else has j) fun j => if j = (i : Int) then .bool true else fz j) else bget bx y := fun y => by rw [← hbs,bget_bset]
   have hsni : noIt (.n Z) bxs := by rw [← hbs]; exact noIt_bset (show noIt1 (.n Z) (.mp .i64 _ _) from trivial) hnet.ni
   have hsz : bget bxs (.n Z) = some (.mp .i64 (fun j => if j = (i : Int) then true else has j) fun j => if j = (i : Int) then .bool true else fz j) := by rw [hg,if_pos rfl]
   have hsf : bget bxs (.n Cf) = some (.cells (.cons (.mapb (.n Z)) .nil)) := by rw [hg,if_neg (by simp [hfZ]),hf]
   have hsl : bget bxs (.n Cl) = some (.cells (.cons (.view 5 l.1 fun a b => (l.2 a).c b) .nil)) := by rw [hg,if_neg (by simp [hlZ]),hlb]
   have hsk : bget bxs (.n Ck) = some (.cells (.cons (lookV Cf Cl Ck) .nil)) := by rw [hg,if_neg (by simp [hkZ]),hk]
   have n1 : (Z = nx) = False := eq_false (by omega)
   have n2 : (Cf = nx) = False := eq_false (by omega)
   have n3 : (Cl = nx) = False := eq_false (by omega)
   have n4 : (Ck = nx) = False := eq_false (by omega)
   have n5 : (nx = Z) = False := eq_false (by omega)
   have n6 : (nx = Cf) = False := eq_false (by omega)
   have n7 : (nx = Cl) = False := eq_false (by omega)
   have n8 : (nx = Ck) = False := eq_false (by omega)
   have hu := uns_upd hsi hi
   refine loop_intro (ι := Nat × (Nat → Bool) × (Int → Bool)) (fun q => q.1 ≤ l.1 ∧ LkAt l s i q.1 q.2.1 ∧ ∀ j : Nat,j < l.1 → q.2.2 j = q.2.1 j) (fun q => l.1 - q.1) (fun q => [(14,.int .i64 q.1),(0,.int .i64 i),(2,.ptr (.n Cl) 0),(3,.ptr (.n Ck) 0),(12,.view 5 l.1 fun a b => (l.2 a).c b),(13,.int .i64 l.1)]) (fun q => bset bxs (.n Z) (.mp .i64 q.2.2 fun _ => .bool true)) 0
    (0,updS s i,fun j => if j = (i : Int) then true else has j) ⟨Nat.zero_le _,LkAt.begin,fun j hj => ?_⟩ (.inr (chkG_set (Nat.le_refl _) hsz hsz (fun _ _ => rfl) ⟨rfl,fun k => ⟨rfl,fun hk0 => ?_⟩⟩ ⟨rfl,rfl,⟨rfl,hasB_bset hsl⟩,⟨rfl,hasB_bset hsk⟩,by first | rfl | exact trivial | (simp only [↓reduceIte,Nat.reduceEqDiff,go_sem]),rfl,trivial⟩)) fun q hq => ?_
   ·simp only [updS]
    by_cases e : j = i
    ·subst e; simp
    ·rw [if_neg (by omega),if_neg e]; exact hhas j hj
   ·show (if k = (i : Int) then Val.bool true else fz k) = Val.bool true
    have hk1 : (if k = (i : Int) then true else has k) = true := hk0
    split
    ·rfl
    ·rename_i e; rw [if_neg e] at hk1; exact hfz k hk1
   ·obtain ⟨k,t,h⟩ := q
    obtain ⟨hk1,hat,hh⟩ := hq
    simp only at hk1 hat hh
    have hni2 : noIt (.n Z) (bset bxs (.n Z) (.mp .i64 h fun _ => .bool true)) = True := eq_true (noIt_bset (show noIt1 (.n Z) (.mp .i64 _ _) from trivial) hsni)
    by_cases hkl : k < l.1
    ·have fk : ((k : Int) < (l.1 : Int)) = True := eq_true (by omega)
     have fi : ((i : Int) < (l.1 : Int)) = True := eq_true (by omega)
     have hnet1 : PLook l Cf Cl Ck Z t ((nx,.one (.cells (.cons (.int .i64 (l.2 k).id) (.cons (.int .i64 (l.2 k).mother) (.cons (.int .i64 (l.2 k).planted) (.cons (.int .u8 (l.2 k).sex.val) (.cons (.int .i64 (l.2 k).sort) .nil))))))) :: bset bxs (.n Z) (.mp .i64 h fun _ => .bool true)) := by
      refine ⟨?_,?_,?_,⟨h,fun _ => .bool true,?_,hh,fun _ _ => rfl⟩,⟨trivial,by rw [hni2]; trivial⟩⟩
      ·simp only [bget]; rw [if_neg (by omega),bget_bset,if_neg (by simp [hfZ]),hsf]
      ·simp only [bget]; rw [if_neg (by omega),bget_bset,if_neg (by simp [hlZ]),hsl]
      ·simp only [bget]; rw [if_neg (by omega),bget_bset,if_neg (by simp [hkZ]),hsk]
      ·simp only [bget]; rw [if_neg (by omega),bget_bset,if_pos rfl]
     have hns : ∀ m,nx ≤ m → bget bxs (.n m) = none := fun m hm => by rw [hg,if_neg (by simp; omega),hN m hm]
     have hN1 : ∀ m,nx + 1 ≤ m → bget ((nx,.one (.cells (.cons (.int .i64 (l.2 k).id) (.cons (.int .i64 (l.2 k).mother) (.cons (.int .i64 (l.2 k).planted) (.cons (.int .u8 (l.2 k).sex.val) (.cons (.int .i64 (l.2 k).sort) .nil))))))) :: bset bxs (.n Z) (.mp .i64 h fun _ => .bool true)) (.n m) = none := fun m hm => by
      simp only [bget]; rw [if_neg (by omega),bget_bset,if_neg (by simp; omega),hns m (by omega)]
     have hnone : ∀ y,y = nx → ∀ c,bget bxs (.n y) = some c → False := fun y e c hc => by subst e; rw [hns y (Nat.le_refl _)] at hc; cases hc
     have hback : ¬ nbP l i k → LkAt l s i (k + 1) t := fun hn => hat.skip hn
     by_cases e1 : (l.2 k).mother = (l.2 i).id
     ·have g1 : ((l.2 k).mother = (l.2 i).id) = True := eq_true e1
      have hnb : nbP l i k := .inl e1
      simp only [fk,fi,g1,hsl,hsk,hlZ,hkZ,n7,n8,lookV,h78,h78',bget_bset,↓imp_tt,↓imp_tf,↓reduceIte,reduceCtorEq,Nat.reduceEqDiff,Nat.reduceAdd,Nat.reduceSub,Nat.reduceLeDiff,go_sem]
      refine ⟨by omega,by omega,?_⟩
      refine ih k t _ _ _ _ _ hkl ?_ (by omega) hnet1 (by omega) (by omega) (by omega) (by omega) hN1 fun u bx' B' hM' hpost hnet' hold => ?_
      ·have := uns_mono (n := l.1) (s := updS s i) (t := t) fun a ha h => by
        simp only [updS] at h
        split at h
        ·rename_i e; subst e; exact hat.here
        ·exact hat.mono a ha h
       omega
      ·obtain ⟨B',rfl⟩ : ∃ m,B' = m + 100 := ⟨B' - 100,by omega⟩
       obtain ⟨hz',fz',hz1,hz2,hz3⟩ := hnet'.z
       simp only [↓reduceIte,Nat.reduceEqDiff,go_sem]
       refine inv_chkG (k + 1,u,hz') ⟨hkl,hat.step hl hi hkl hnb hpost,hz2⟩ (by simp only; omega) (chkG_setN (c1 := .mp .i64 hz' fz') (Nat.le_refl _) hsz hz1 (fun y hy c hc => ?_) ⟨rfl,fun k => ⟨rfl,fun hk0 => hz3 k hk0⟩⟩ ⟨?_,rfl,⟨rfl,hasB_bset hsl⟩,⟨rfl,hasB_bset hsk⟩,by first | rfl | exact trivial | (simp only [↓reduceIte,reduceCtorEq,Nat.reduceEqDiff,go_sem]),rfl,trivial⟩)
       ·rw [hold y hy]
        cases y with
        | n y =>
         have hyn : y ≠ nx := fun e => hnone y e c hc
         simp only [bget]
         rw [if_neg (fun e => hyn e.symm),bget_bset,if_neg hy]; exact hc
        | f y z => simp only [bget]; rw [bget_bset,if_neg hy]; exact hc
       ·show Val.int .i64 _ = _
        rw [wrS (by omega)]
     ·have g1 : ((l.2 k).mother = (l.2 i).id) = False := eq_false e1
      by_cases e2 : (l.2 k).id = (l.2 i).mother
      ·have g2 : ((l.2 k).id = (l.2 i).mother) = True := eq_true e2
       have hnb : nbP l i k := .inr e2
       simp only [fk,fi,g1,g2,hsl,hsk,hlZ,hkZ,n7,n8,lookV,h78,h78',bget_bset,↓imp_tt,↓imp_tf,↓reduceIte,reduceCtorEq,Nat.reduceEqDiff,Nat.reduceAdd,Nat.reduceSub,Nat.reduceLeDiff,go_sem]
       refine ⟨by omega,by omega,by omega,?_⟩
       refine ih k t _ _ _ _ _ hkl ?_ (by omega) hnet1 (by omega) (by omega) (by omega) (by omega) hN1 fun u bx' B' hM' hpost hnet' hold => ?_
       ·have := uns_mono (n := l.1) (s := updS s i) (t := t) fun a ha h => by
         simp only [updS] at h
         split at h
         ·rename_i e; subst e; exact hat.here
         ·exact hat.mono a ha h
        omega
       ·obtain ⟨B',rfl⟩ : ∃ m,B' = m + 100 := ⟨B' - 100,by omega⟩
        obtain ⟨hz',fz',hz1,hz2,hz3⟩ := hnet'.z
        simp only [↓reduceIte,Nat.reduceEqDiff,go_sem]
        refine inv_chkG (k + 1,u,hz') ⟨hkl,hat.step hl hi hkl hnb hpost,hz2⟩ (by simp only; omega) (chkG_setN (c1 := .mp .i64 hz' fz') (Nat.le_refl _) hsz hz1 (fun y hy c hc => ?_) ⟨rfl,fun k => ⟨rfl,fun hk0 => hz3 k hk0⟩⟩ ⟨?_,rfl,⟨rfl,hasB_bset hsl⟩,⟨rfl,hasB_bset hsk⟩,by first | rfl | exact trivial | (simp only [↓reduceIte,reduceCtorEq,Nat.reduceEqDiff,go_sem]),rfl,trivial⟩)
        ·rw [hold y hy]
         cases y with
         | n y =>
          have hyn : y ≠ nx := fun e => hnone y e c hc
          simp only [bget]
          rw [if_neg (fun e => hyn e.symm),bget_bset,if_neg hy]; exact hc
         | f y z => simp only [bget]; rw [bget_bset,if_neg hy]; exact hc
        ·show Val.int .i64 _ = _
         rw [wrS (by omega)]
      ·have g2 : ((l.2 k).id = (l.2 i).mother) = False := eq_false e2
       simp only [fk,fi,g1,g2,hsl,hsk,hlZ,hkZ,n7,n8,lookV,h78,h78',bget_bset,↓imp_tt,↓imp_tf,↓reduceIte,reduceCtorEq,Nat.reduceEqDiff,Nat.reduceAdd,Nat.reduceSub,Nat.reduceLeDiff,go_sem]
       refine ⟨by omega,by omega,by omega,?_⟩
       refine inv_chkG (k + 1,t,h) ⟨hkl,hback (by rintro (e | e); exact e1 e; exact e2 e),hh⟩ (by simp only; omega) (chkG_setN (c1 := .mp .i64 h fun _ => .bool true) (Nat.le_refl _) hsz (by simp only [bget]; rw [if_neg (by omega),bget_bset,if_pos rfl]) (fun y hy c hc => ?_) ⟨rfl,fun k => ⟨rfl,fun hk0 => rfl⟩⟩ ⟨?_,rfl,⟨rfl,hasB_bset hsl⟩,⟨rfl,hasB_bset hsk⟩,by first | rfl | exact trivial | (simp only [↓reduceIte,reduceCtorEq,Nat.reduceEqDiff,go_sem]),rfl,trivial⟩)
       ·cases y with
        | n y =>
         have hyn : y ≠ nx := fun e => hnone y e c hc
         simp only [bget]
         rw [if_neg (fun e => hyn e.symm),bget_bset,if_neg hy]; exact hc
        | f y z => simp only [bget]; rw [bget_bset,if_neg hy]; exact hc
       ·show Val.int .i64 _ = _
        rw [wrS (by omega)]
    ·have fk : ((k : Int) < (l.1 : Int)) = False := eq_false (by omega)
     obtain rfl : k = l.1 := by omega
     simp only [fk,↓imp_ft,↓imp_ff,↓reduceIte,reduceCtorEq,Nat.reduceEqDiff,go_sem]
     refine hK t _ _ (by omega) hat.post ⟨?_,?_,?_,⟨h,fun _ => .bool true,by rw [bget_bset,if_pos rfl],hh,fun _ _ => rfl⟩,by rw [hni2]; trivial⟩ fun y hy => by rw [bget_bset,if_neg hy,hg,if_neg hy]
     ·rw [bget_bset,if_neg (by simp [hfZ]),hsf]
     ·rw [bget_bset,if_neg (by simp [hlZ]),hsl]
     ·rw [bget_bset,if_neg (by simp [hkZ]),hsk]
noncomputable def sClonesP : Spec := spec2 (TSl RPm) TI (fun l i => PmsOk l ∧ 0 ≤ i ∧ i < l.1) fun l i => .view 1 (cntN (clnB l i.toNat) l.1) fun j _ => .int .i64 (selN (clnB l i.toNat) l.1 j)
set_option maxHeartbeats 4000000 in
set_option maxRecDepth 100000 in
theorem pClonesP : PureOk Try.prog G 48 sClonesP := by
 refine fnN2 (N := []) (S := []) (I := [(78,a78)]) mixed .nil (.cons Try.func78 c78 .nil) Try.func48 c48 fun l i hp hw => ?_
 obtain ⟨hl,h1,h2⟩ := hp
 obtain ⟨i,rfl⟩ : ∃ m : Nat,i = m := ⟨i.toNat,by omega⟩
 have hi : i < l.1 := by omega
 rw [Int.toNat_natCast]
 simp only [Nat.reduceSub,Nat.reducePow,go_sem] at hw
 have hn24 := hl.n
 simp only [RunToN,a48,↓reduceIte,reduceCtorEq,Nat.reduceEqDiff,Nat.reduceAdd,go_sem]
 refine look_run rfl rfl hl hw l.1 i (fun _ => false) _ _ _ _ _ hi ?_ ?_ ⟨rfl,rfl,rfl,⟨_,_,rfl,fun _ _ => rfl,fun _ h => (by cases h)⟩,by simp [noIt,noIt1]⟩ (by omega) (by omega) (by omega) (by omega) (fun m hm => ?_) fun t bx' B' hB hpost hnet hold => ?_
 ·exact uns_le _ _
 ·omega
 ·simp only [bget]
  rw [if_neg (by omega),if_neg (by omega),if_neg (by omega),if_neg (by omega)]
 ·obtain ⟨B',rfl⟩ : ∃ m,B' = m + 1000 := ⟨B' - 1000,by omega⟩
  obtain ⟨h,fz,hz,hh,hfz⟩ := hnet.z
  have x0 := hnet.lb
  have x2 := hnet.f
  have x3 := hnet.k
  have x4 : bget bx' (.n 4) = none := hold _ (by simp)
  have hcl := hpost.cln hl hi
  simp only [x0,hw,↓reduceIte,Nat.reduceEqDiff,Nat.reduceSub,Nat.reducePow,go_sem]
  refine loop_intro (ι := Nat) (fun j => j ≤ l.1) (fun j => l.1 - j) (fun j => [(16,.int .i64 j),(7,.own (.n 4)),(5,.ptr (.n 2) 0),(15,.int .i64 l.1)]) (fun j => [(4,.row 3 1 (cntN (clnB l i) j) fun a _ => .int .i64 (selN (clnB l i) j a)),(3,.cells (.cons (lookV 2 0 3) .nil)),(2,.cells (.cons (.mapb (.n 1)) .nil)),(1,.mp .i64 h fun _ => .bool true),(0,.cells (.cons (.view 5 l.1 fun a b => (l.2 a).c b) .nil))]) 1 0 (Nat.zero_le _) (.inr ⟨none,trivial,by omega,?_,AllB.get ?_,AllB.get ?_,fun b c0 c1 h0 h1 => ?_⟩) fun j hj => ?_
  ·simp only [x4,newIn,cntN,renSt,↓reduceIte,reduceCtorEq,Nat.reduceEqDiff,go_sem]
  ·simp only [AllB,x0,x2,x3,x4,hz,cntN,lookV,renSt,↓reduceIte,reduceCtorEq,Nat.reduceEqDiff,Nat.reduceLT,go_sem]
   exact .inr hfz
  ·simp only [AllB,x0,x2,x3,x4,hz,reduceCtorEq,Nat.reduceAdd,go_sem]
   exact .inr (by decide)
  ·by_cases e1 : b = .n 1
   ·subst e1
    rw [hz] at h1; cases h1
    exact ⟨_,rfl,chk_kin (N := fun _ => True) (D := fun _ => True) (c := .mp .i64 h fz) (c' := .mp .i64 h fun _ => .bool true) ⟨rfl,fun k => ⟨rfl,fun hk => hfz k hk⟩⟩⟩
   ·by_cases e4 : b = .n 4
    ·subst e4; rw [x4] at h0; cases h0
    ·have h3 := hold b e1
     rw [h0] at h1 h3
     cases h1
     refine ⟨c0,?_,Kin.refl _⟩
     rw [h3]
     cases b with
     | n y =>
      have e1' : ¬ 1 = y := fun e => e1 (by rw [e])
      have e4' : ¬ 4 = y := fun e => e4 (by rw [e])
      simp only [bget,if_neg e1',if_neg e4',lookV]
     | f y z => rfl
  ·by_cases hjl : j < l.1
   ·have fj : ((j : Int) < (l.1 : Int)) = True := eq_true (by omega)
    have hc := cntN_le (clnB l i) j
    have hhj := hh j hjl
    rw [hcl j hjl] at hhj
    cases hb : clnB l i j with
    | true =>
     rw [hb] at hhj
     simp only [fj,hhj,lookV,↓imp_tt,↓imp_tf,↓reduceIte,reduceCtorEq,Nat.reduceEqDiff,Nat.reduceAdd,Nat.reduceSub,Nat.reduceLeDiff,Nat.reduceLT,Nat.reducePow,go_sem]
     refine ⟨by omega,by omega,?_⟩
     refine inv_intro (j + 1) (by omega) (by omega) ?_
     have hcn : cntN (clnB l i) (j + 1) = cntN (clnB l i) j + 1 := by simp only [cntN,hb,if_true]
     simp only [hcn,↓reduceIte,reduceCtorEq,Nat.reduceEqDiff,Nat.reduceLT,go_sem]
     refine ⟨wrS (by omega),fun a ha b hb' => ?_⟩
     obtain rfl : b = 0 := by omega
     simp only [selN,hb,true_and]
     by_cases e : a = cntN (clnB l i) j
     ·subst e; simp [vget]
     ·have : a < cntN (clnB l i) j := by omega
      simp [e,this]
    | false =>
     rw [hb] at hhj
     simp only [fj,hhj,lookV,↓imp_tt,↓imp_tf,↓imp_ft,↓imp_ff,↓reduceIte,Nat.reduceEqDiff,Nat.reduceAdd,go_sem]
     refine inv_intro (j + 1) (by omega) (by omega) ?_
     have hcn : cntN (clnB l i) (j + 1) = cntN (clnB l i) j := by simp [cntN,hb]
     have hse : ∀ a,selN (clnB l i) (j + 1) a = selN (clnB l i) j a := fun a => by simp [selN,hb]
     simp only [hcn,hse,↓reduceIte,reduceCtorEq,Nat.reduceEqDiff,Nat.reduceLT,go_sem]
     exact wrS (by omega)
   ·have fj : ((j : Int) < (l.1 : Int)) = False := eq_false (by omega)
    obtain rfl : j = l.1 := by omega
    simp only [fj,↓imp_ft,↓imp_ff,↓reduceIte,Nat.reduceEqDiff,Nat.reduceAdd,go_sem]
    done
end Go.Proofs.Ytlapepdhkomijaa
namespace Go.Proofs.Ytlapepdhkomijaa
open Go Go.RowKit
section
variable {P : Program} {G : Nat → Option (Nat × (Nat → Val))} {S : List (FuncId × Spec)} {I : List (FuncId × AFun)} {id : FuncId} {fn : Func} {af : AFun} {α1 α2 : Type} {t1 : VT α1} {t2 : VT α2}
theorem foN2 {N : List TypeId} (hmix : P.follows .mixedOrders = true) (hS : SOk P G S) (hI : IOk P I) (hfn : P.funcs[id]? = some fn) (hcf : cFun P fn = some af) {e : TypeId} {pre : α1 → α2 → Prop} {res : α1 → α2 → Val}
  (h : ∀ a b,pre a b → WfT (vl [t1.enc a,t2.enc b]) → runO (mkN G S I N) (fun v bx => FinS (some e) v bx (res a b)) 100000 [.code af.code] [] af.res (params 0 [t1.enc a,t2.enc b]) [] 0) : PureOk P G id ((spec2 t1 t2 pre res).mine e) := by
 have hok : PureOk P G id ⟨fun vs' => ∃ a b,vs' = [t1.enc a,t2.enc b] ∧ pre a b,((spec2 t1 t2 pre res).mine e).res,some e⟩ := by
  refine pure_okE (E := mkN G S I N) hmix hS.get hI.get (fun _ _ h => by cases h) hfn hcf fun vs hp hw => ?_
  obtain ⟨a,b,rfl,p⟩ := hp
  simp only [Spec.mine,spec2,t1.h2,t2.h2]
  have := h a b p hw
  simp only [runO_eq] at this
  exact ⟨100000,this⟩
 refine ⟨hok.ent,fun A w vs cs hG hr hp => ?_⟩
 simp only [Spec.mine,spec2] at hp
 split at hp
 ·rename_i a b
  obtain ⟨p1,p2,p⟩ := hp
  have h3 := hok.run A w [t1.enc (t1.of a),t2.enc (t2.of b)] cs hG (vsubP_rep _ _ _ ⟨_,_,rfl,t1.h1 a p1,_,_,rfl,t2.h1 b p2,rfl⟩ hr) ⟨_,_,rfl,p⟩
  simp only [Spec.mine,spec2,t1.h2,t2.h2] at h3 ⊢
  exact h3
 ·exact hp.elim
end
variable {G : Nat → Option (Nat × (Nat → Val))}
noncomputable def sClonesO : Spec := (spec2 (TSl RPm) TI (fun l i => PmsOk l ∧ 0 ≤ i ∧ i < l.1) fun l i => .view 1 (cntN (clnB l i.toNat) l.1) fun j _ => .int .i64 (selN (clnB l i.toNat) l.1 j)).mine 3
set_option maxHeartbeats 4000000 in
set_option maxRecDepth 100000 in
theorem pClonesO : PureOk Try.prog G 48 sClonesO := by
 refine foN2 (N := []) (S := []) (I := [(78,a78)]) mixed .nil (.cons Try.func78 c78 .nil) Try.func48 c48 fun l i hp hw => ?_
 obtain ⟨hl,h1,h2⟩ := hp
 obtain ⟨i,rfl⟩ : ∃ m : Nat,i = m := ⟨i.toNat,by omega⟩
 have hi : i < l.1 := by omega
 rw [Int.toNat_natCast]
 simp only [Nat.reduceSub,Nat.reducePow,go_sem] at hw
 have hn24 := hl.n
 simp only [a48,↓reduceIte,reduceCtorEq,Nat.reduceEqDiff,Nat.reduceAdd,go_sem]
 refine look_run rfl rfl hl hw l.1 i (fun _ => false) _ _ _ _ _ hi ?_ ?_ ⟨rfl,rfl,rfl,⟨_,_,rfl,fun _ _ => rfl,fun _ h => (by cases h)⟩,by simp [noIt,noIt1]⟩ (by omega) (by omega) (by omega) (by omega) (fun m hm => ?_) fun t bx' B' hB hpost hnet hold => ?_
 ·exact uns_le _ _
 ·omega
 ·simp only [bget]
  rw [if_neg (by omega),if_neg (by omega),if_neg (by omega),if_neg (by omega)]
 ·obtain ⟨B',rfl⟩ : ∃ m,B' = m + 1000 := ⟨B' - 1000,by omega⟩
  obtain ⟨h,fz,hz,hh,hfz⟩ := hnet.z
  have x0 := hnet.lb
  have x2 := hnet.f
  have x3 := hnet.k
  have x4 : bget bx' (.n 4) = none := hold _ (by simp)
  have hcl := hpost.cln hl hi
  simp only [x0,hw,↓reduceIte,Nat.reduceEqDiff,Nat.reduceSub,Nat.reducePow,go_sem]
  refine loop_intro (ι := Nat) (fun j => j ≤ l.1) (fun j => l.1 - j) (fun j => [(16,.int .i64 j),(7,.own (.n 4)),(5,.ptr (.n 2) 0),(15,.int .i64 l.1)]) (fun j => [(4,.row 3 1 (cntN (clnB l i) j) fun a _ => .int .i64 (selN (clnB l i) j a)),(3,.cells (.cons (lookV 2 0 3) .nil)),(2,.cells (.cons (.mapb (.n 1)) .nil)),(1,.mp .i64 h fun _ => .bool true),(0,.cells (.cons (.view 5 l.1 fun a b => (l.2 a).c b) .nil))]) 1 0 (Nat.zero_le _) (.inr ⟨none,trivial,by omega,?_,AllB.get ?_,AllB.get ?_,fun b c0 c1 h0 h1 => ?_⟩) fun j hj => ?_
  ·simp only [x4,newIn,cntN,renSt,↓reduceIte,reduceCtorEq,Nat.reduceEqDiff,go_sem]
  ·simp only [AllB,x0,x2,x3,x4,hz,cntN,lookV,renSt,↓reduceIte,reduceCtorEq,Nat.reduceEqDiff,Nat.reduceLT,go_sem]
   exact .inr hfz
  ·simp only [AllB,x0,x2,x3,x4,hz,reduceCtorEq,Nat.reduceAdd,go_sem]
   exact .inr (by decide)
  ·by_cases e1 : b = .n 1
   ·subst e1
    rw [hz] at h1; cases h1
    exact ⟨_,rfl,chk_kin (N := fun _ => True) (D := fun _ => True) (c := .mp .i64 h fz) (c' := .mp .i64 h fun _ => .bool true) ⟨rfl,fun k => ⟨rfl,fun hk => hfz k hk⟩⟩⟩
   ·by_cases e4 : b = .n 4
    ·subst e4; rw [x4] at h0; cases h0
    ·have h3 := hold b e1
     rw [h0] at h1 h3
     cases h1
     refine ⟨c0,?_,Kin.refl _⟩
     rw [h3]
     cases b with
     | n y =>
      have e1' : ¬ 1 = y := fun e => e1 (by rw [e])
      have e4' : ¬ 4 = y := fun e => e4 (by rw [e])
      simp only [bget,if_neg e1',if_neg e4',lookV]
     | f y z => rfl
  ·by_cases hjl : j < l.1
   ·have fj : ((j : Int) < (l.1 : Int)) = True := eq_true (by omega)
    have hc := cntN_le (clnB l i) j
    have hhj := hh j hjl
    rw [hcl j hjl] at hhj
    cases hb : clnB l i j with
    | true =>
     rw [hb] at hhj
     simp only [fj,hhj,lookV,↓imp_tt,↓imp_tf,↓reduceIte,reduceCtorEq,Nat.reduceEqDiff,Nat.reduceAdd,Nat.reduceSub,Nat.reduceLeDiff,Nat.reduceLT,Nat.reducePow,go_sem]
     refine ⟨by omega,by omega,?_⟩
     refine inv_intro (j + 1) (by omega) (by omega) ?_
     have hcn : cntN (clnB l i) (j + 1) = cntN (clnB l i) j + 1 := by simp only [cntN,hb,if_true]
     simp only [hcn,↓reduceIte,reduceCtorEq,Nat.reduceEqDiff,Nat.reduceLT,go_sem]
     refine ⟨wrS (by omega),fun a ha b hb' => ?_⟩
     obtain rfl : b = 0 := by omega
     simp only [selN,hb,true_and]
     by_cases e : a = cntN (clnB l i) j
     ·subst e; simp [vget]
     ·have : a < cntN (clnB l i) j := by omega
      simp [e,this]
    | false =>
     rw [hb] at hhj
     simp only [fj,hhj,lookV,↓imp_tt,↓imp_tf,↓imp_ft,↓imp_ff,↓reduceIte,Nat.reduceEqDiff,Nat.reduceAdd,go_sem]
     refine inv_intro (j + 1) (by omega) (by omega) ?_
     have hcn : cntN (clnB l i) (j + 1) = cntN (clnB l i) j := by simp [cntN,hb]
     have hse : ∀ a,selN (clnB l i) (j + 1) a = selN (clnB l i) j a := fun a => by simp [selN,hb]
     simp only [hcn,hse,↓reduceIte,reduceCtorEq,Nat.reduceEqDiff,Nat.reduceLT,go_sem]
     exact wrS (by omega)
   ·have fj : ((j : Int) < (l.1 : Int)) = False := eq_false (by omega)
    obtain rfl : j = l.1 := by omega
    simp only [fj,↓imp_ft,↓imp_ff,↓reduceIte,Nat.reduceEqDiff,Nat.reduceAdd,go_sem]
    exact ⟨_,rfl,_,_,_,rfl,_,rfl,fun _ _ _ _ => ⟨rfl,rfl⟩⟩
theorem hit_lst {l : Pms} {k : Int} (hp : PmsOk l) (h : hasP l k = true) : hitN l k = lstP l k := by
 obtain ⟨a1,a2⟩ := lstP_spec h
 rcases fstI_spec (fun i => (l.2 i).id = k) l.1 with ⟨b1,b2,_⟩ | ⟨b1,b2⟩
 ·have b2 : (l.2 (hitN l k)).id = k := b2
  have b1 : hitN l k < l.1 := b1
  rcases Nat.lt_trichotomy (hitN l k) (lstP l k) with c | c | c
  ·have := hp.lt c a1; omega
  ·exact c
  ·have := hp.lt c b1; omega
 ·exact absurd a2 (b2 _ a1)
set_option maxHeartbeats 4000000 in
set_option maxRecDepth 100000 in
theorem pClonesPr : PureOk Try.prog G 17 sClones7 := by
 refine fn2 (S := [(19,sCheck7),(50,sPlaces),(48,sClonesO)]) (I := []) mixed (.cons pPalmCheck (.cons pPlaces (.cons pClonesO .nil))) .nil Try.func17 c17 fun l id _ hw => ?_
 simp only [Nat.reduceSub,Nat.reducePow,go_sem] at hw
 by_cases hp : PmsOk l
 ·have ep := pmE_ok hp
  have hpt : PmsOk l = True := eq_true hp
  rw [if_pos ep]
  cases hk : hasP l id
  ·have hn : ¬ hitN l id < l.1 := fun h => by rw [hasP_hit.2 h] at hk; cases hk
   rw [if_neg hn]
   simp only [RunTo,a17,sCheck7,sPlaces,ep,hk,hw,↓imp_tt,↓imp_tf,↓imp_ft,↓imp_ff,↓reduceIte,reduceCtorEq,Nat.reduceEqDiff,Nat.reduceAdd,Nat.reduceSub,Nat.reduceLT,Nat.reducePow,go_sem]
  ·obtain ⟨a1,a2⟩ := lstP_spec hk
   rw [if_pos (hasP_hit.1 hk),hit_lst hp hk]
   obtain ⟨i,hi⟩ : ∃ i,i = lstP l id := ⟨_,rfl⟩
   rw [← hi] at a1 a2 ⊢
   have p1 : (0 ≤ (i : Int)) = True := eq_true (by omega)
   have p2 : ((i : Int) < (l.1 : Int)) = True := eq_true (by omega)
   have hcn := cntN_le (clnB l i) l.1
   have hn24 := hp.n
   have y1 : (cntN (clnB l i) l.1 ≤ 9223372036854775807) = True := eq_true (by omega)
   simp only [RunTo,a17,sCheck7,sPlaces,sClonesO,ep,hk,← hi,p1,p2,y1,hpt,clonesF,Int.toNat_natCast,hw,↓imp_ft,↓imp_ff,↓reduceIte,reduceCtorEq,Nat.reduceEqDiff,Nat.reduceAdd,Nat.reduceSub,Nat.reduceLT,Nat.reducePow,go_sem]
   refine loopI (ι := Nat) (fun j => j ≤ cntN (clnB l i) l.1) (fun j => cntN (clnB l i) l.1 - j) [0,9,29,30] (fun j => [(31,.int .i64 j)]) (fun j => [(0,.row 3 1 (cntN (clnB l i) l.1) fun a _ => .int .i64 (if a < j then (l.2 (selN (clnB l i) l.1 a)).id else selN (clnB l i) l.1 a))]) 0 (Nat.zero_le _) (by simp only [Nat.not_lt_zero,↓reduceIte,reduceCtorEq,Nat.reduceEqDiff,Nat.reduceLT,go_sem]; try simp) fun j hj => ?_
   by_cases hjl : j < cntN (clnB l i) l.1
   ·have fj : ((j : Int) < (cntN (clnB l i) l.1 : Int)) = True := eq_true (by omega)
    obtain ⟨s1,_⟩ := selN_lt hjl
    have p3 : (0 ≤ (selN (clnB l i) l.1 j : Int)) = True := eq_true (by omega)
    have p4 : ((selN (clnB l i) l.1 j : Int) < (l.1 : Int)) = True := eq_true (by omega)
    have p5 : (0 ≤ (j : Int)) = True := eq_true (by omega)
    simp only [fj,p3,p4,p5,Nat.lt_irrefl,Int.toNat_natCast,hw,↓imp_tt,↓imp_tf,↓reduceIte,reduceCtorEq,Nat.reduceEqDiff,Nat.reduceSub,Nat.reduceLeDiff,Nat.reducePow,go_sem]
    refine inv_intro (j + 1) hjl (by omega) ?_
    simp only [↓reduceIte,reduceCtorEq,Nat.reduceEqDiff,Nat.reduceLT,go_sem]
    refine ⟨wrS (by omega),fun a ha b hb => ?_⟩
    obtain rfl : b = 0 := by omega
    by_cases e : a = j
    ·subst e; simp [vget]
    ·have : (a < j + 1) = (a < j) := propext ⟨fun h => by omega,fun h => by omega⟩
     simp [e,this]
   have fj : ((j : Int) < (cntN (clnB l i) l.1 : Int)) = False := eq_false (by omega)
   obtain rfl : j = cntN (clnB l i) l.1 := by omega
   simp only [fj,↓imp_ft,↓imp_ff,↓reduceIte,reduceCtorEq,Nat.reduceEqDiff,Nat.reduceAdd,go_sem]
   exact fun a ha _ _ => if_pos ha
 ·have ep := pmE_no hp
  have hz : ((70 : Int) = 0) = False := eq_false (by decide)
  rw [if_neg (by rw [ep]; decide)]
  simp only [RunTo,a17,sCheck7,ep,hw,↓imp_tt,↓imp_tf,↓reduceIte,reduceCtorEq,Nat.reduceEqDiff,Nat.reduceAdd,Nat.reduceSub,Int.reduceBNe,Nat.reducePow,go_sem]
end Go.Proofs.Ytlapepdhkomijaa
