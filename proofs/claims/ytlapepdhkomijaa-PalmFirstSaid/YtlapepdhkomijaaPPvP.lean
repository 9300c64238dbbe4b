/- Palms, the program: Proves. No condition. -/
import Derived.Test.YtlapepdhkomijaaPCmp
import Derived.Test.YtlapepdhkomijaaPKwp
import Derived.Test.YtlapepdhkomijaaPEdg2
import Derived.Test.YtlapepdhkomijaaPEx
import Derived.Test.YtlapepdhkomijaaPPcl
import Derived.Test.YtlapepdhkomijaaPSlP
import Derived.Test.YtlapepdhkomijaaPMsP
import Derived.Test.YtlapepdhkomijaaPMv3
import Derived.Test.YtlapepdhkomijaaACode1
import Derived.Test.YtlapepdhkomijaaPNet2
set_option linter.unusedSimpArgs false
set_option linter.unusedVariables false
namespace Go.Proofs.Ytlapepdhkomijaa
open Go Go.RowKit
variable {G : Nat → Option (Nat × (Nat → Val))}
theorem nmV_t {l : Ints} {n : Nat} (h : idxB l n = true) : nmV l n = .tup (.cons (.view 1 n fun a _ => .bool (hasL l a)) (.cons (.bool true) .nil)) := by unfold nmV; rw [if_pos h]
theorem nmV_f {l : Ints} {n : Nat} (h : idxB l n = false) : nmV l n = .tup (.cons (.view 1 0 fun _ _ => .bool false) (.cons (.bool false) .nil)) := by unfold nmV; rw [h,if_neg (by decide)]
theorem cnt_0 {p : Nat → Bool} : ∀ {n : Nat},cntN p n = 0 → ∀ i,i < n → p i = false := by
 intro n; induction n with
 | zero => intro _ i hi; exact absurd hi (Nat.not_lt_zero _)
 | succ n ih =>
  intro h i hi
  simp only [cntN] at h
  by_cases e : i = n
  ·subst e
   cases q : p i with
   | false => rfl
   | true => rw [q,if_pos rfl] at h; omega
  ·exact ih (by omega) i (by omega)
theorem nmV_ex {l : Ints} {n : Nat} : ∃ (k : Nat) (f : Nat → Nat → Val) (b : Bool),nmV l n = .tup (.cons (.view 1 k f) (.cons (.bool b) .nil)) ∧ b = idxB l n ∧ k ≤ n := by
 cases h : idxB l n
 ·exact ⟨0,_,false,nmV_f h,rfl,Nat.zero_le _⟩
 ·exact ⟨n,_,true,nmV_t h,rfl,Nat.le_refl _⟩
set_option maxHeartbeats 4000000 in
set_option maxRecDepth 100000 in
theorem pProvesP : PureOk Try.prog G 33 sProves := by
 refine fn3 (S := [(53,sOpen),(70,sNmdS),(71,sNmdH),(72,sNmdL),(59,sGoodN)]) (I := [(55,a55),(83,a83),(61,a61),(73,a73)])
  mixed (.cons pOpen (.cons pNmdS (.cons pNmdH (.cons pNmdL (.cons pGoodN .nil))))) (.cons Try.func55 c55 (.cons Try.func83 c83 (.cons Try.func61 c61 (.cons Try.func73 c73 .nil)))) Try.func33 c33 fun l w c _ hw => ?_
 simp only [Nat.reduceSub,Nat.reducePow,go_sem] at hw
 unfold pvV
 by_cases he : ¬ workE l w = 0
 ·have hz : (workE l w = 0) = False := eq_false he
  rw [if_neg he]
  obtain ⟨w0,w1,w2,w3,w4,w5,w6⟩ := hw
  simp (config := { maxSteps := 3000000 }) only [RunTo,a33,sOpen,dayL,hz,w0,w1,w2,w3,w4,w5,w6,↓imp_tt,↓imp_tf,↓reduceIte,reduceCtorEq,Nat.reduceEqDiff,Nat.reduceAdd,Nat.reduceSub,Nat.reduceLeDiff,Nat.reduceLT,Nat.reducePow,go_sem]
 have he := Classical.not_not.1 he
 have hb : WkB w := (workE_0 he).2.2.b
 have hS := hb.s
 have hH := hb.h
 have hL := hb.l
 rw [if_pos he]
 obtain ⟨w0,w1,w2,w3,w4,w5,w6⟩ := hw
 have n1 : (w.spathes.1 ≤ 1000) = True := eq_true (by omega)
 have n2 : (w.hours.1 ≤ 1000) = True := eq_true (by omega)
 have n3 : (w.lots.1 ≤ 1000) = True := eq_true (by omega)
 by_cases hx : ¬ (idxB c.spathes w.spathes.1 = true ∧ idxB c.hours w.hours.1 = true ∧ idxB c.lots w.lots.1 = true)
 ·have hc : covB w c = false := by
   cases e : covB w c with
   | false => rfl
   | true => exact absurd (cov_idx e) hx
  rw [hc,if_neg (by decide)]
  obtain ⟨k1,f1,b1,nm1,q1,m1⟩ := nmV_ex (l := c.spathes) (n := w.spathes.1)
  obtain ⟨k2,f2,b2,nm2,q2,m2⟩ := nmV_ex (l := c.hours) (n := w.hours.1)
  obtain ⟨k3,f3,b3,nm3,q3,m3⟩ := nmV_ex (l := c.lots) (n := w.lots.1)
  rw [← q1,← q2,← q3] at hx
  have y1 : (k1 ≤ 9223372036854775807) = True := eq_true (by omega)
  have y2 : (k2 ≤ 9223372036854775807) = True := eq_true (by omega)
  have y3 : (k3 ≤ 9223372036854775807) = True := eq_true (by omega)
  simp only [RunTo,a33,sOpen,dayL,he,sNmdS,sNmdH,sNmdL,nm1,nm2,nm3,y1,y2,y3,n1,n2,n3,w0,w1,w2,w3,w4,w5,w6,↓imp_tt,↓imp_tf,↓imp_ft,↓imp_ff,↓reduceIte,reduceCtorEq,Nat.reduceEqDiff,Nat.reduceAdd,Nat.reduceSub,Nat.reduceLeDiff,Nat.reduceLT,Nat.reducePow,go_sem]
  exact fun h1 h2 h3 => absurd ⟨h1,h2,h3⟩ hx
 obtain ⟨x1,x2,x3⟩ := Classical.not_not.1 hx
 have l1 := idx_len x1
 have l2 := idx_len x2
 have l3 := idx_len x3
 have nm1 := nmV_t x1
 have nm2 := nmV_t x2
 have nm3 := nmV_t x3
 have ew : IntKind.i64.wrap ((c.spathes.1 : Int) + (c.hours.1 : Int)) = (c.spathes.1 : Int) + (c.hours.1 : Int) := wr64 (by omega) (by omega)
 simp only [RunTo,a33,sOpen,dayL,he,sNmdS,sNmdH,sNmdL,nm1,nm2,nm3,ew,n1,n2,n3,w0,w1,w2,w3,w4,w5,w6,↓imp_ft,↓imp_ff,↓reduceIte,reduceCtorEq,Nat.reduceEqDiff,Nat.reduceAdd,Nat.reduceSub,Nat.reduceLeDiff,Nat.reduceLT,Nat.reducePow,go_sem]
 refine loopI (ι := Nat) (fun i => i ≤ w.lots.1) (fun i => w.lots.1 - i) [4,6,7,8,10,12,14,73,74,98] (fun i => [(75,.int .i64 i),(16,.int .i64 ((c.spathes.1 : Int) + (c.hours.1 : Int) + sumU w c.lots i))]) (fun _ => []) 0 (Nat.zero_le _) (by simp only [sumU,sumN,↓reduceIte,reduceCtorEq,Nat.reduceEqDiff,Nat.reduceLT,go_sem]; try simp) fun i hi => ?_
 obtain ⟨s1,s2⟩ := sumU_le (l := c.lots) hb i hi
 by_cases hil : i < w.lots.1
 ·have fi : ((i : Int) < (w.lots.1 : Int)) = True := eq_true (by omega)
  have p1 : (0 ≤ (i : Int)) = True := eq_true (by omega)
  have hu := hb.u i hil
  have es : sumU w c.lots (i + 1) = sumU w c.lots i + if hasL c.lots i = true then (w.lots.2 i).units else 0 := rfl
  cases hv : hasL c.lots i <;> rw [hv] at es <;> simp only [fi,p1,hv,w3,↓imp_tt,↓imp_tf,↓imp_ft,↓imp_ff,↓reduceIte,reduceCtorEq,Nat.reduceEqDiff,Nat.reduceAdd,Nat.reduceSub,Nat.reduceLeDiff,Nat.reducePow,go_sem]
  all_goals
   refine inv_intro (i + 1) hil (by omega) ?_
   simp only [↓reduceIte,reduceCtorEq,Nat.reduceEqDiff,Nat.reduceLT,go_sem]
  ·exact ⟨wrS (by omega),by rw [es]; simp⟩
  ·exact ⟨wrS (by omega),(wr64 (by omega) (by omega)).trans (by rw [es,if_pos rfl]; omega)⟩
 have fi : ((i : Int) < (w.lots.1 : Int)) = False := eq_false (by omega)
 obtain rfl : i = w.lots.1 := by omega
 simp only [fi,w1,↓imp_ft,↓imp_ff,↓reduceIte,reduceCtorEq,Nat.reduceEqDiff,Nat.reduceAdd,Nat.reduceSub,Nat.reduceLeDiff,Nat.reducePow,go_sem]
 -- what is left of a spathe's hours
 refine loopI (ι := Nat) (fun i => i ≤ w.spathes.1 ∧ ∀ i',i' < i → ∀ h,h < w.hours.1 → ∀ j,j < w.lots.1 → lefB w c i' h j = false) (fun i => w.spathes.1 - i) [6,7,8,10,12,14,16,91,98] (fun i => [(92,.int .i64 i)]) (fun _ => []) 0 ⟨Nat.zero_le _,fun _ h => absurd h (Nat.not_lt_zero _)⟩ (by simp only [↓reduceIte,reduceCtorEq,Nat.reduceEqDiff,Nat.reduceLT,go_sem]) fun i hi => ?_
 obtain ⟨hi1,hi2⟩ := hi
 by_cases hil : ¬ i < w.spathes.1
 ·have fi : ((i : Int) < (w.spathes.1 : Int)) = False := eq_false (by omega)
  obtain rfl : i = w.spathes.1 := by omega
  have e : covB w c = true := by
   unfold covB
   rw [x1,x2,x3,decP_t hi2]; rfl
  rw [e,if_pos rfl]
  simp only [fi,numC,↓imp_ft,↓imp_ff,↓reduceIte,reduceCtorEq,Nat.reduceEqDiff,Nat.reduceAdd,go_sem]
 have hil := Classical.not_not.1 hil
 have fi : ((i : Int) < (w.spathes.1 : Int)) = True := eq_true (by omega)
 have pi1 : (0 ≤ (i : Int)) = True := eq_true (by omega)
 simp only [fi,pi1,w1,w2,w3,a55,a83,↓imp_tt,↓imp_tf,↓reduceIte,reduceCtorEq,Nat.reduceEqDiff,Nat.reduceAdd,Nat.reduceSub,Nat.reduceLeDiff,Nat.reducePow,go_sem]
 refine fun g => ?_
 refine loopI (ι := Nat) (fun h => h ≤ w.hours.1 ∧ ∀ h',h' < h → ∀ j,j < w.lots.1 → lefB w c i h' j = false) (fun h => w.hours.1 - h) [0,1,4,16,17] (fun h => [(18,.int .i64 h)]) (fun _ => []) 0 ⟨Nat.zero_le _,fun h hh => absurd hh (Nat.not_lt_zero _)⟩ (by
  simp only [↓reduceIte,reduceCtorEq,Nat.reduceEqDiff,Nat.reduceLT,go_sem]) fun h hh => ?_
 obtain ⟨hh1,hh2⟩ := hh
 by_cases hhl : ¬ h < w.hours.1
 ·have fh : ((h : Int) < (w.hours.1 : Int)) = False := eq_false (by omega)
  obtain rfl : h = w.hours.1 := by omega
  simp only [fh,↓imp_ft,↓imp_ff,↓reduceIte,reduceCtorEq,Nat.reduceEqDiff,go_sem]
  refine inv_intro (i + 1) ⟨hil,fun i' hi' => ?_⟩ (by omega) ?_
  ·by_cases e : i' = i
   ·subst e; exact hh2
   ·exact hi2 i' (by omega)
  ·simp only [↓reduceIte,reduceCtorEq,Nat.reduceEqDiff,Nat.reduceLT,go_sem]
   exact wrS (by omega)
 have hhl := Classical.not_not.1 hhl
 have fh : ((h : Int) < (w.hours.1 : Int)) = True := eq_true (by omega)
 have ph1 : (0 ≤ (h : Int)) = True := eq_true (by omega)
 have wo : IntKind.i64.wrap ((w.spathes.2 i).cracks.lo + w.opn) = (w.spathes.2 i).cracks.lo + w.opn := wr64 (by have := hb.c i (by omega); have := hb.o; omega) (by have := hb.c i (by omega); have := hb.o; omega)
 have hgo : (∀ j,j < w.lots.1 → lefB w c i h j = false) → h + 1 ≤ w.hours.1 ∧ ∀ h',h' < h + 1 → ∀ j,j < w.lots.1 → lefB w c i h' j = false := fun e => ⟨hhl,fun h' hh' => by
  by_cases q : h' = h
  ·subst q; exact e
  ·exact hh2 h' (by omega)⟩
 have hno : (∃ j,j < w.lots.1 ∧ lefB w c i h j = true) → covB w c = false := fun ⟨j,hj,e⟩ => by
  unfold covB
  rw [decP_f fun q => by rw [q i hil h hhl j hj] at e; cases e]; simp
 by_cases t1 : ¬ (w.spathes.2 i).cracks.hi ≤ w.hours.2 h
 ·have g1 : ((w.spathes.2 i).cracks.hi ≤ w.hours.2 h) = False := eq_false t1
  have ht : takesF w i h = false := decide_eq_false fun q => t1 q.1
  simp only [fh,ph1,g1,↓imp_tt,↓imp_tf,↓imp_ft,↓imp_ff,↓reduceIte,reduceCtorEq,Nat.reduceEqDiff,Nat.reduceAdd,go_sem]
  refine inv_intro (h + 1) (hgo fun j _ => by unfold lefB; rw [ht]; rfl) (by omega) ?_
  simp only [↓reduceIte,reduceCtorEq,Nat.reduceEqDiff,Nat.reduceLT,go_sem]
  exact wrS (by omega)
 have t1 := Classical.not_not.1 t1
 have g1 : ((w.spathes.2 i).cracks.hi ≤ w.hours.2 h) = True := eq_true t1
 by_cases t2 : ¬ w.hours.2 h < (w.spathes.2 i).cracks.lo + w.opn
 ·have g2 : (w.hours.2 h < (w.spathes.2 i).cracks.lo + w.opn) = False := eq_false t2
  have ht : takesF w i h = false := decide_eq_false fun q => t2 q.2
  simp only [fh,ph1,g1,g2,wo,↓imp_tt,↓imp_tf,↓imp_ft,↓imp_ff,↓reduceIte,reduceCtorEq,Nat.reduceEqDiff,Nat.reduceAdd,Nat.reduceLeDiff,go_sem]
  refine inv_intro (h + 1) (hgo fun j _ => by unfold lefB; rw [ht]; rfl) (by omega) ?_
  simp only [↓reduceIte,reduceCtorEq,Nat.reduceEqDiff,Nat.reduceLT,go_sem]
  exact wrS (by omega)
 have t2 := Classical.not_not.1 t2
 have g2 : (w.hours.2 h < (w.spathes.2 i).cracks.lo + w.opn) = True := eq_true t2
 have ht : takesF w i h = true := decide_eq_true ⟨t1,t2⟩
 by_cases v1 : hasL c.spathes i = true
 ·simp only [fi,pi1,fh,ph1,g1,g2,wo,v1,w1,↓imp_tt,↓imp_tf,↓imp_ft,↓imp_ff,↓reduceIte,reduceCtorEq,Nat.reduceEqDiff,Nat.reduceAdd,Nat.reduceSub,Nat.reduceLeDiff,Nat.reducePow,go_sem]
  refine inv_intro (h + 1) (hgo fun j _ => by unfold lefB; rw [v1]; simp) (by omega) ?_
  simp only [↓reduceIte,reduceCtorEq,Nat.reduceEqDiff,Nat.reduceLT,go_sem]
  exact wrS (by omega)
 have v1 : hasL c.spathes i = false := by simpa using v1
 by_cases v2 : hasL c.hours h = true
 ·simp only [fi,pi1,fh,ph1,g1,g2,wo,v1,v2,w1,w2,↓imp_tt,↓imp_tf,↓imp_ft,↓imp_ff,↓reduceIte,reduceCtorEq,Nat.reduceEqDiff,Nat.reduceAdd,Nat.reduceSub,Nat.reduceLeDiff,Nat.reducePow,go_sem]
  refine inv_intro (h + 1) (hgo fun j _ => by unfold lefB; rw [v2]; simp) (by omega) ?_
  simp only [↓reduceIte,reduceCtorEq,Nat.reduceEqDiff,Nat.reduceLT,go_sem]
  exact wrS (by omega)
 have v2 : hasL c.hours h = false := by simpa using v2
 simp only [fi,pi1,fh,ph1,g1,g2,wo,v1,v2,w1,w2,w3,a61,↓imp_tt,↓imp_tf,↓reduceIte,reduceCtorEq,Nat.reduceEqDiff,Nat.reduceAdd,Nat.reduceSub,Nat.reduceLeDiff,Nat.reducePow,go_sem]
 obtain ⟨P,hP⟩ : ∃ P : Nat → Bool,P = fun k => goodF w h k && !hasL c.lots k := ⟨_,rfl⟩
 have hlP : ∀ j,lefB w c i h j = P j := fun j => by rw [hP]; unfold lefB; rw [ht,v1,v2]; rfl
 refine loopJ (ι := Nat) (fun k => k ≤ w.lots.1) (fun k => w.lots.1 - k) [1,7] (fun k => [(8,.int .i64 k),(5,.own (.n 14))]) (fun k => [(14,.row 3 1 (cntN P k) fun a _ => .int .i64 (selN P k a))]) 1 0 (Nat.zero_le _) (by simp only [cntN,↓reduceIte,reduceCtorEq,Nat.reduceEqDiff,Nat.reduceAdd,Nat.reduceLT,go_sem]; try simp) fun k hk => ?_
 by_cases hkl : k < w.lots.1
 ·have fk : ((k : Int) < (w.lots.1 : Int)) = True := eq_true (by omega)
  have pk : (0 ≤ (k : Int)) = True := eq_true (by omega)
  have hcn := cntN_le P k
  have hPk : P k = (goodF w h k && !hasL c.lots k) := by rw [hP]
  cases v3 : goodF w h k
  ·rw [v3] at hPk
   have e2 : P k = false := hPk
   simp only [fk,pk,fh,ph1,v3,sGoodN,Int.toNat_natCast,a73,w1,w2,w3,↓imp_tt,↓imp_tf,↓imp_ft,↓imp_ff,↓reduceIte,reduceCtorEq,Nat.reduceEqDiff,Nat.reduceAdd,Nat.reduceSub,Nat.reducePow,go_sem]
   refine inv_intro (k + 1) hkl (by omega) ?_
   have hcs : cntN P (k + 1) = cntN P k := by simp [cntN,e2]
   have hse : ∀ a,selN P (k + 1) a = selN P k a := fun a => by simp [selN,e2]
   simp only [hcs,hse,↓reduceIte,reduceCtorEq,Nat.reduceEqDiff,Nat.reduceLT,go_sem]
   exact wrS (by omega)
  cases v4 : hasL c.lots k <;> rw [v3,v4] at hPk
  ·have e2 : P k = true := hPk
   simp only [fk,pk,fh,ph1,v3,v4,sGoodN,Int.toNat_natCast,a73,w1,w2,w3,↓imp_tt,↓imp_tf,↓reduceIte,reduceCtorEq,Nat.reduceEqDiff,Nat.reduceAdd,Nat.reduceSub,Nat.reduceLeDiff,Nat.reduceLT,Nat.reducePow,go_sem]
   repeat with_reducible refine And.intro (by omega) ?_
   refine inv_intro (k + 1) hkl (by omega) ?_
   have hcs : cntN P (k + 1) = cntN P k + 1 := by simp only [cntN,e2,if_true]
   simp only [hcs,↓reduceIte,reduceCtorEq,Nat.reduceEqDiff,Nat.reduceLT,go_sem]
   refine ⟨wrS (by omega),fun a ha b hb' => ?_⟩
   obtain rfl : b = 0 := by omega
   simp only [selN,e2,true_and]
   by_cases e : a = cntN P k
   ·subst e; simp [vget]
   ·have : a < cntN P k := by omega
    simp [e,this]
  ·have e2 : P k = false := hPk
   simp only [fk,pk,fh,ph1,v3,v4,sGoodN,Int.toNat_natCast,a73,w1,w2,w3,↓imp_tt,↓imp_tf,↓imp_ft,↓imp_ff,↓reduceIte,reduceCtorEq,Nat.reduceEqDiff,Nat.reduceAdd,Nat.reduceSub,Nat.reducePow,go_sem]
   refine inv_intro (k + 1) hkl (by omega) ?_
   have hcs : cntN P (k + 1) = cntN P k := by simp [cntN,e2]
   have hse : ∀ a,selN P (k + 1) a = selN P k a := fun a => by simp [selN,e2]
   simp only [hcs,hse,↓reduceIte,reduceCtorEq,Nat.reduceEqDiff,Nat.reduceLT,go_sem]
   exact wrS (by omega)
 have fk : ((k : Int) < (w.lots.1 : Int)) = False := eq_false (by omega)
 obtain rfl : k = w.lots.1 := by omega
 by_cases hz : cntN P w.lots.1 = 0
 ·have f0 : ((cntN P w.lots.1 : Int) > 0) = False := eq_false (by omega)
  simp only [fk,f0,↓imp_ft,↓imp_ff,↓reduceIte,reduceCtorEq,Nat.reduceEqDiff,Nat.reduceAdd,go_sem]
  refine inv_intro (h + 1) (hgo fun j hj => (hlP j).trans (cnt_0 hz j hj)) (by omega) ?_
  simp only [↓reduceIte,reduceCtorEq,Nat.reduceEqDiff,Nat.reduceLT,go_sem]
  exact wrS (by omega)
 ·have f0 : ((cntN P w.lots.1 : Int) > 0) = True := eq_true (by omega)
  obtain ⟨a1,a2⟩ := selN_lt (p := P) (n := w.lots.1) (j := 0) (by omega)
  rw [hno ⟨_,a1,(hlP _).trans a2⟩,if_neg (by decide)]
  simp only [fk,f0,↓imp_tt,↓imp_tf,↓imp_ft,↓imp_ff,↓reduceIte,reduceCtorEq,Nat.reduceEqDiff,Nat.reduceAdd,go_sem]
end Go.Proofs.Ytlapepdhkomijaa
namespace Go.Proofs.Ytlapepdhkomijaa
open Go Go.RowKit
variable {G : Nat → Option (Nat × (Nat → Val))}
noncomputable def sSameLs : Spec := spec2 (TSl (RSl (RInt .i64))) (TSl (RSl (RInt .i64))) (fun _ _ => True) fun a b => .bool (decP (a.1 = b.1 ∧ ∀ i,i < a.1 → sameB (a.2 i) (b.2 i) = true))
set_option maxHeartbeats 4000000 in
set_option maxRecDepth 100000 in
theorem pSameLs : PureOk Try.prog G 28 sSameLs := by
 refine fn2 (S := [(22,sSameI)]) (I := []) mixed (.cons pSameI .nil) .nil Try.func28 c28 fun a b _ hw => ?_
 simp only [Nat.reduceSub,Nat.reducePow,go_sem] at hw
 simp only [RunTo,a28,sSameI,hw,↓reduceIte,reduceCtorEq,Nat.reduceEqDiff,Nat.reduceSub,Nat.reducePow,go_sem]
 refine ⟨fun h => (decP_f fun k => h (by omega)).symm,fun h => ?_⟩
 refine loopI (ι := Nat) (fun j => j ≤ a.1 ∧ ∀ i,i < j → sameB (a.2 i) (b.2 i) = true) (fun j => a.1 - j) [0,1] (fun j => [(5,.int .i64 j)]) (fun _ => []) 0 ⟨by omega,fun i h => by omega⟩ (by simp only [↓reduceIte,reduceCtorEq,Nat.reduceEqDiff,go_sem]; try rfl) fun j hj => ?_
 obtain ⟨hj1,hj2⟩ := hj
 simp only [hw,↓reduceIte,reduceCtorEq,Nat.reduceEqDiff,Nat.reduceSub,Nat.reducePow,go_sem]
 refine ⟨fun hlt => ⟨by omega,by omega,by omega,by omega,fun h1 => (decP_f fun k => ?_).symm,fun h1 => inv_intro (j + 1) ⟨by omega,fun i hi => ?_⟩ (by omega) ?_⟩,fun hge => ?_⟩
 ·have := k.2 j (by omega); rw [h1] at this; cases this
 ·rcases Nat.lt_or_ge i j with h5 | h5
  ·exact hj2 i h5
  ·obtain rfl : i = j := by omega
   exact h1
 ·simp only [↓reduceIte,reduceCtorEq,Nat.reduceEqDiff,go_sem]
  rw [wrS (by omega)]
 ·exact (decP_t ⟨by omega,fun i hi => hj2 i (by omega)⟩).symm
end Go.Proofs.Ytlapepdhkomijaa
namespace Go.Proofs.Ytlapepdhkomijaa
open Go Go.RowKit
variable {G : Nat → Option (Nat × (Nat → Val))}
def sGroveP : Spec := spec0 (.view 5 grC.1 fun i j => (grC.2 i).c j)
set_option maxRecDepth 100000 in
theorem pGroveP : PureOk Try.prog G 37 sGroveP := by
 refine fn0 (S := []) (I := []) mixed .nil .nil Try.func37 c37 ?_
 simp only [RunTo,a37,↓reduceIte,Nat.reduceEqDiff,Nat.reduceAdd,Nat.reduceLeDiff,Nat.reduceLT,Int.reduceNeg,go_sem]
 refine ⟨rfl,fun i hi j hj => ?_⟩
 rcases lt3 hi with rfl | rfl | rfl <;> rcases (by omega : j = 0 ∨ j = 1 ∨ j = 2 ∨ j = 3 ∨ j = 4) with rfl | rfl | rfl | rfl | rfl <;> exact rfl
def sSpanP : Spec := spec2 TI TI (fun _ _ => True) fun a b => .agg (Sn.L ⟨a,b⟩)
set_option maxRecDepth 100000 in
theorem pSpanP : PureOk Try.prog G 74 sSpanP := by
 refine fn2 (S := []) (I := []) mixed .nil .nil Try.func74 c74 fun a b _ _ => ?_
 simp only [RunTo,a74,↓reduceIte,reduceCtorEq,Nat.reduceEqDiff,Nat.reduceAdd,Nat.reduceLeDiff,go_sem]
def sWkP : Spec := spec0 (.agg (Wk.L wkC))
set_option maxRecDepth 100000 in
theorem pWkP : PureOk Try.prog G 38 sWkP := by
 refine fn0 (S := [(74,sSpanP)]) (I := []) mixed (.cons pSpanP .nil) .nil Try.func38 c38 ?_
 simp only [RunTo,a38,sSpanP,↓reduceIte,reduceCtorEq,Nat.reduceEqDiff,Nat.reduceAdd,Nat.reduceLeDiff,Nat.reduceLT,go_sem]
 refine ⟨rfl,rfl,fun i hi j hj => ?_,rfl,fun i hi j hj => ?_,rfl,fun i hi j hj => ?_,rfl⟩
 ·rcases lt3 hi with rfl | rfl | rfl <;> rcases lt3 hj with rfl | rfl | rfl <;> exact rfl
 ·obtain rfl : j = 0 := by omega
  rcases lt4 hi with rfl | rfl | rfl | rfl <;> exact rfl
 ·have hi : i < 1 := hi
  obtain rfl : i = 0 := by omega
  rcases lt4 hj with rfl | rfl | rfl | rfl <;> exact rfl
theorem pvC (f g h : Nat → Int) (f0 : f 0 = 0) (f1 : f 1 = 1) (f2 : f 2 = 2) : pvV grC wkC ⟨(3,f),(0,g),(0,h)⟩ = .tup (.cons (.int .i64 3) (.cons (.int .i64 0) .nil)) := by
 have hf : ∀ i,i < 3 → f i = i := fun i hi => by rcases lt3 hi with rfl | rfl | rfl <;> assumption
 have h1 : idxB (3,f) wkC.spathes.1 = true := decP_t fun i hi => by
  have hi : i < 3 := hi
  show 0 ≤ f i ∧ f i < 3 ∧ (0 < i → f (i - 1) < f i)
  rw [hf i hi]
  refine ⟨by omega,by omega,fun h0 => ?_⟩
  rw [hf (i - 1) (by omega)]; omega
 have h2 : idxB (0,g) wkC.hours.1 = true := decP_t fun i hi => absurd hi (Nat.not_lt_zero _)
 have h3 : idxB (0,h) wkC.lots.1 = true := decP_t fun i hi => absurd hi (Nat.not_lt_zero _)
 have hc : covB wkC ⟨(3,f),(0,g),(0,h)⟩ = true := by
  unfold covB
  rw [h1,h2,h3,decP_t fun i hi h' hh j hj => ?_]
  ·rfl
  ·have : hasL (3,f) i = true := hasL_t.2 ⟨i,hi,hf i hi⟩
   unfold lefB
   show (takesF wkC i h' && (goodF wkC h' j && (!hasL (3,f) i && _))) = false
   rw [this]; simp
 have hn : numC wkC ⟨(3,f),(0,g),(0,h)⟩ = 3 := by
  have h0 : hasL (0,h) (0 : Nat) = false := decP_f fun ⟨k,hk,_⟩ => absurd hk (Nat.not_lt_zero _)
  show ((3 : Nat) : Int) + ((0 : Nat) : Int) + sumN (fun i => if hasL (0,h) i = true then (wkC.lots.2 i).units else 0) 1 = 3
  simp only [sumN]
  rw [h0]; rfl
 unfold pvV
 rw [if_pos workC,if_pos hc,hn]
noncomputable def knQ (l : Pms) : Val := if pmE l = 0 then (if badI l < l.1 then .tup (.cons .nils (.cons (.int .i64 (badI l : Nat)) (.cons (.int .i64 71) .nil))) else .tup (.cons (.view 5 l.1 fun i j => (knP l i).c j) (.cons (.int .i64 0) (.cons (.int .i64 0) .nil)))) else .tup (.cons .nils (.cons (.int .i64 0) (.cons (.int .i64 70) .nil)))
noncomputable def sKnQ : Spec := spec1 (TSl RPm) (fun _ => True) knQ
noncomputable def clQ (l : Pms) (id : Int) : Val := if pmE l = 0 then (if hitN l id < l.1 then .tup (.cons (.view 1 (clonesF l (hitN l id)).1 fun j _ => .int .i64 ((clonesF l (hitN l id)).2 j)) (.cons (.int .i64 0) .nil)) else .tup (.cons .nils (.cons (.int .i64 6) .nil))) else .tup (.cons .nils (.cons (.int .i64 70) .nil))
noncomputable def sClQ : Spec := spec2 (TSl RPm) TI (fun _ _ => True) clQ
noncomputable def slQ (l : Pms) (w : Wk) : Val := if workE l w = 0 then .tup (.cons (.view 1 w.spathes.1 fun i _ => .view 1 (slN w i) fun j _ => .int .i64 (slH w i j)) (.cons (.int .i64 0) .nil)) else .tup (.cons .nils (.cons (.int .i64 (workE l w)) .nil))
noncomputable def sSlQ : Spec := spec2 (TSl RPm) TWk (fun _ _ => True) slQ
noncomputable def moQ (l : Pms) (w : Wk) : Val := if workE l w = 0 then .tup (.cons (.view 3 (plD w).cnt fun a b => ((plD w).pl a).c b) (.cons (.int .i64 0) .nil)) else .tup (.cons .nils (.cons (.int .i64 (workE l w)) .nil))
noncomputable def sMoQ : Spec := spec2 (TSl RPm) TWk (fun _ _ => True) moQ
noncomputable def prQ (l : Pms) (w : Wk) : Val := if workE l w = 0 then .tup (.cons (cvV w) (.cons (.int .i64 0) .nil)) else .tup (.cons (.agg (.cons cvE (.cons cvE (.cons cvE .nil)))) (.cons (.int .i64 (workE l w)) .nil))
noncomputable def sPrQ : Spec := spec2 (TSl RPm) TWk (fun _ _ => True) prQ
noncomputable def kC (i : Nat) : Pm := knP grC i
noncomputable def clC (j : Nat) : Int := (clonesF grC 1).2 j
noncomputable def slC2 (i j : Nat) : Val := (fun i _ => Val.view 1 (slN wkC i) fun j _ => .int .i64 (slH wkC i j)) i j
noncomputable def duC (a : Nat) : Du := (plD wkC).pl a
noncomputable def lC1 (a : Nat) : Int := selN (fun i => !lcB wkC (.sp i)) wkC.spathes.1 a
noncomputable def lC2 (a : Nat) : Int := selN (fun h => lcB wkC (.hi h) && !lcB wkC (.ho h)) wkC.hours.1 a
noncomputable def lC3 (a : Nat) : Int := selN (fun j => lcB wkC (.lt j)) wkC.lots.1 a
theorem knQC : knQ grC = .tup (.cons (.view 5 3 fun i j => (kC i).c j) (.cons (.int .i64 0) (.cons (.int .i64 0) .nil))) := by
 unfold knQ
 rw [if_pos (pmE_ok pmsC),if_neg (by rw [badC]; decide)]; rfl
theorem clQC : clQ grC 2 = .tup (.cons (.view 1 2 fun j _ => .int .i64 (clC j)) (.cons (.int .i64 0) .nil)) := by
 have h : hitN grC 2 = 1 := hit2 rfl rfl rfl
 have hc : (clonesF grC 1).1 = 2 := by
  show cntN (clnB grC 1) 3 = 2
  simp [cntN,cln10,cln11,cln12]
 unfold clQ
 rw [if_pos (pmE_ok pmsC),if_pos (by rw [h]; decide),h,hc]; rfl
theorem slQC : slQ grC wkC = .tup (.cons (.view 1 3 slC2) (.cons (.int .i64 0) .nil)) := by
 unfold slQ
 rw [if_pos workC]; rfl
theorem moQC : moQ grC wkC = .tup (.cons (.view 3 2 fun a b => (duC a).c b) (.cons (.int .i64 0) .nil)) := by
 have h : (plD wkC).cnt = 2 := by rw [stC3]; rfl
 unfold moQ
 rw [if_pos workC,h]; rfl
theorem prQC : prQ grC wkC = .tup (.cons (.agg (.cons (.view 1 0 fun a _ => .int .i64 (lC1 a)) (.cons (.view 1 0 fun a _ => .int .i64 (lC2 a)) (.cons (.view 1 1 fun a _ => .int .i64 (lC3 a)) .nil)))) (.cons (.int .i64 0) .nil)) := by
 have h1 : cntN (fun i => !lcB wkC (.sp i)) wkC.spathes.1 = 0 := cvC1
 have h2 : cntN (fun h => lcB wkC (.hi h) && !lcB wkC (.ho h)) wkC.hours.1 = 0 := cvC2
 have h3 : cntN (fun j => lcB wkC (.lt j)) wkC.lots.1 = 1 := cvC3.1
 unfold prQ cvV selV
 rw [if_pos workC,h1,h2,h3]; rfl
theorem clC_0 : clC 0 = 1 ∧ clC 1 = 2 := by
 have h0 : selN (clnB grC 1) 3 0 = 0 := by simp [selN,cntN,cln10,cln11,cln12]
 have h1 : selN (clnB grC 1) 3 1 = 1 := by simp [selN,cntN,cln10,cln11,cln12]
 constructor
 ·show (palC (selN (clnB grC 1) 3 0)).id = 1
  rw [h0]; rfl
 ·show (palC (selN (clnB grC 1) 3 1)).id = 2
  rw [h1]; rfl
theorem duC_0 : duC 0 = ⟨0,1,0⟩ ∧ duC 1 = ⟨1,0,0⟩ := by
 unfold duC; rw [stC3]; exact ⟨rfl,rfl⟩
theorem lC3_0 : lC3 0 = 0 := by
 show ((selN (fun j => lcB wkC (.lt j)) 1 0 : Nat) : Int) = 0
 rw [cvC3.2]; rfl
theorem same_no {α : Type} {a b : Nat × (Nat → α)} (h : sameB a b = false) (h1 : a.1 = b.1) (h2 : ∀ i,i < a.1 → a.2 i = b.2 i) : False := by
 have := h.symm.trans (decP_t ⟨h1,h2⟩); cases this
theorem same_yes {α : Type} {a b : Nat × (Nat → α)} (h1 : a.1 = b.1) (h2 : ∀ i,i < a.1 → a.2 i = b.2 i) : sameB a b = true := decP_t ⟨h1,h2⟩
def sAliveP : Spec := spec0 (.bool true)
set_option maxHeartbeats 8000000 in
set_option maxRecDepth 100000 in
theorem pAliveP : PureOk Try.prog G 36 sAliveP := by
 refine fn0 (S := [(37,sGroveP),(38,sWkP),(15,sKnQ),(17,sClQ),(24,sSlQ),(26,sMoQ),(31,sPrQ),(33,sProves),(22,sSameI),(28,sSameLs),(29,sSameDu),(35,sSameCv)]) (I := []) mixed
  (.cons pGroveP (.cons pWkP (.cons (show PureOk Try.prog G _ sKnQ from pKnownP) (.cons (show PureOk Try.prog G _ sClQ from pClonesPr) (.cons (show PureOk Try.prog G _ sSlQ from pSlotsP) (.cons (show PureOk Try.prog G _ sMoQ from pMostP) (.cons (show PureOk Try.prog G _ sPrQ from pProofP) (.cons pProvesP (.cons pSameI (.cons pSameLs (.cons pSameDu (.cons pSameCv .nil)))))))))))) .nil Try.func36 c36 ?_
 have g1 : (grC.1 ≤ 9223372036854775807) = True := eq_true (by decide)
 have g2 : (wkC.spathes.1 ≤ 9223372036854775807) = True := eq_true (by decide)
 have g3 : (wkC.hours.1 ≤ 9223372036854775807) = True := eq_true (by decide)
 have g4 : (wkC.lots.1 ≤ 9223372036854775807) = True := eq_true (by decide)
 have k0 : kC 0 = ⟨1,-1,0,oneU,7⟩ := knC0
 have k1 : kC 1 = ⟨2,1,1200,oneU,7⟩ := knC1
 have k2 : kC 2 = ⟨5,-1,0,twoU,0⟩ := knC2
 have hu : oneU.1 = 1 := rfl
 have n1 := knQC
 have n2 := clQC
 have n3 := slQC
 have n4 := moQC
 have n5 := prQC
 simp (config := { maxSteps := 1000000 }) only [RunTo,a36,sGroveP,sWkP,sKnQ,sClQ,sSlQ,sMoQ,sPrQ,sProves,sSameI,sSameLs,sSameDu,sSameCv,g1,g2,g3,g4,k0,k1,k2,hu,n1,n2,n3,n4,n5,pvC,↓imp_tt,↓imp_tf,↓imp_ft,↓imp_ff,↓reduceIte,reduceCtorEq,Nat.reduceEqDiff,Nat.reduceAdd,Nat.reduceSub,Nat.reduceLeDiff,Nat.reduceLT,Int.reduceToNat,Int.reduceLT,Int.reduceLE,Int.reduceNeg,Nat.reducePow,go_sem]
 have lt2 : ∀ {i : Nat},i < 2 → i = 0 ∨ i = 1 := fun h => by omega
 have lt1 : ∀ {i : Nat},i < 1 → i = 0 := fun h => by omega
 refine ⟨fun i hi => by rcases lt3 hi with rfl | rfl | rfl <;> exact rfl,fun i hi => absurd hi (Nat.not_lt_zero _),fun i hi => by rcases lt2 hi with rfl | rfl <;> exact rfl,fun _ => ⟨fun i hi => ⟨rfl,fun _ _ => rfl⟩,fun i hi => ?_,fun _ => ⟨fun i hi => ?_,fun _ => ⟨?_,?_⟩,fun h => ?_⟩,fun h => ?_⟩,fun h => same_no h rfl fun i hi => ?_⟩
 ·rcases lt3 hi with rfl | rfl | rfl
  ·exact ⟨rfl,fun k hk => by
    have hk : k < 1 := hk
    obtain rfl := lt1 hk; rfl⟩
  ·exact ⟨rfl,fun k hk => by
    have hk : k < 2 := hk
    rcases lt2 hk with rfl | rfl <;> rfl⟩
  ·exact ⟨rfl,fun k hk => by
    have hk : k < 1 := hk
    obtain rfl := lt1 hk; rfl⟩
 ·rcases lt2 hi with rfl | rfl <;> exact ⟨rfl,rfl,rfl⟩
 ·exact fun i hi => absurd hi (Nat.not_lt_zero _)
 ·refine ⟨fun i hi => absurd hi (Nat.not_lt_zero _),fun i hi => by obtain rfl := lt1 hi; rfl,fun h => ?_⟩
  have d1 : sameB (0,fun i => lC1 i) (0,fun _ => (0 : Int)) = true := same_yes rfl fun i hi => absurd hi (Nat.not_lt_zero _)
  have d2 : sameB (0,fun i => lC2 i) (0,fun _ => (0 : Int)) = true := same_yes rfl fun i hi => absurd hi (Nat.not_lt_zero _)
  rw [d1,d2,Bool.true_and,Bool.true_and] at h
  refine same_no h rfl fun i hi => ?_
  have hi : i < 1 := hi
  obtain rfl := lt1 hi
  exact lC3_0
 ·refine same_no h rfl fun i hi => ?_
  have hi : i < 2 := hi
  rcases lt2 hi with rfl | rfl
  ·exact duC_0.1
  ·exact duC_0.2
 ·obtain ⟨z1,z2,z3,z4,z5,z6,z7⟩ := slC
  refine absurd (h.symm.trans (decP_t fun i hi => ?_)) (by decide)
  have hi : i < 3 := hi
  rcases lt3 hi with rfl | rfl | rfl
  ·refine same_yes z1 fun k hk => ?_
   have hk : k < slN wkC 0 := hk
   rw [z1] at hk
   obtain rfl := lt1 hk
   exact congrArg Int.ofNat z2
  ·refine same_yes z3 fun k hk => ?_
   have hk : k < slN wkC 1 := hk
   rw [z3] at hk
   rcases lt2 hk with rfl | rfl
   ·exact congrArg Int.ofNat z4
   ·exact congrArg Int.ofNat z5
  ·refine same_yes z6 fun k hk => ?_
   have hk : k < slN wkC 2 := hk
   rw [z6] at hk
   obtain rfl := lt1 hk
   exact congrArg Int.ofNat z7
 ·have hi : i < 2 := hi
  rcases lt2 hi with rfl | rfl
  ·exact clC_0.1
  ·exact clC_0.2
end Go.Proofs.Ytlapepdhkomijaa
namespace Go.Proofs.Ytlapepdhkomijaa
open Go Go.RowKit
variable {G : Nat → Option (Nat × (Nat → Val))}
noncomputable def rdyB (l : Pms) (w : Wk) : Bool := decP (¬ (l.1 > 30 ∨ w.spathes.1 > 12 ∨ w.hours.1 > 20 ∨ w.lots.1 > 8) ∧ workE l w = 0)
noncomputable def sRdyP : Spec := spec2 (TSl RPm) TWk (fun _ _ => True) fun l w => .bool (rdyB l w)
set_option maxRecDepth 100000 in
theorem pRdyP : PureOk Try.prog G 39 sRdyP := by
 refine fn2 (S := [(14,sGreat7),(45,sWork7)]) (I := []) mixed (.cons pGreat7 (.cons pWork7 .nil)) .nil Try.func39 c39 fun l w _ hw => ?_
 simp only [Nat.reduceSub,Nat.reducePow,go_sem] at hw
 by_cases hg : l.1 > 30 ∨ w.spathes.1 > 12 ∨ w.hours.1 > 20 ∨ w.lots.1 > 8
 ·have eg := decP_t hg
  have er : rdyB l w = false := decP_f fun h => h.1 hg
  simp only [RunTo,a39,sGreat7,eg,er,hw,↓imp_ft,↓imp_ff,↓reduceIte,reduceCtorEq,Nat.reduceEqDiff,Nat.reduceAdd,Nat.reduceSub,Nat.reducePow,go_sem]
 ·have eg := decP_f hg
  by_cases he : workE l w = 0
  ·have er : rdyB l w = true := decP_t ⟨hg,he⟩
   simp only [RunTo,a39,sGreat7,sWork7,eg,er,he,hw,↓imp_tt,↓imp_tf,↓reduceIte,reduceCtorEq,Nat.reduceEqDiff,Nat.reduceAdd,Nat.reduceSub,Nat.reducePow,go_sem]
  ·have er : rdyB l w = false := decP_f fun h => he h.2
   have hz : (workE l w = 0) = False := eq_false he
   simp only [RunTo,a39,sGreat7,sWork7,eg,er,hz,hw,↓imp_tt,↓imp_tf,↓reduceIte,reduceCtorEq,Nat.reduceEqDiff,Nat.reduceAdd,Nat.reduceSub,Nat.reducePow,go_sem]
def choU (b : Nat × (Nat → UI .u32)) (i : Int) : Int := if i < (b.1 : Int) then (b.2 i.toNat).1 else 0
def sChooseP : Spec := spec2 (TSl (RU .u32)) TI (fun _ i => 0 ≤ i) fun b i => .int .u32 (choU b i)
set_option maxRecDepth 100000 in
theorem pChooseP : PureOk Try.prog G 43 sChooseP := by
 refine fn2 (S := []) (I := []) mixed .nil .nil Try.func43 c43 fun b i h0 hw => ?_
 simp only [RU_k,RU_C,Nat.reduceSub,Nat.reducePow,go_sem] at hw
 simp only [RunTo,a43,RU_k,RU_C,hw,↓reduceIte,reduceCtorEq,Nat.reduceEqDiff,Nat.reduceSub,Nat.reducePow,go_sem]
 unfold choU
 exact ⟨fun h => ⟨h0,h,by rw [if_pos h]⟩,fun h => by rw [if_neg h]⟩
end Go.Proofs.Ytlapepdhkomijaa
