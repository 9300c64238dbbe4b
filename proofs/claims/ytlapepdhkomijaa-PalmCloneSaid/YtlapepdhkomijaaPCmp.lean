/- Palms, the reference: comparisons. No condition. -/
import Derived.Test.YtlapepdhkomijaaPFlw
import Derived.Test.YtlapepdhkomijaaPNet
import Derived.Test.YtlapepdhkomijaaPEdg2
import Derived.Test.YtlapepdhkomijaaACode1
import Derived.Test.YtlapepdhkomijaaPKn2
set_option linter.unusedSimpArgs false
set_option linter.unusedVariables false
namespace Go.Proofs.Ytlapepdhkomijaa
open Go Go.RowKit
variable {G : Nat → Option (Nat × (Nat → Val))}
noncomputable def sSameI : Spec := spec2 (TSl (RInt .i64)) (TSl (RInt .i64)) (fun _ _ => True) fun a b => .bool (sameB a b)
set_option maxRecDepth 100000 in
theorem pSameI : PureOk Try.prog G 22 sSameI := by
 refine fn2 (S := []) (I := []) mixed .nil .nil Try.func22 c22 fun a b _ hw => ?_
 simp only [Nat.reduceSub,Nat.reducePow,go_sem] at hw
 obtain ⟨w1,w2⟩ := hw
 simp only [RunTo,a22,w1,w2,↓reduceIte,reduceCtorEq,Nat.reduceEqDiff,Nat.reduceSub,Nat.reducePow,go_sem]
 refine ⟨fun h => (decP_f fun k => h (by omega)).symm,fun h => ?_⟩
 refine loopI (ι := Nat) (fun j => j ≤ a.1 ∧ ∀ i,i < j → a.2 i = b.2 i) (fun j => a.1 - j) [0,1] (fun j => [(5,.int .i64 j)]) (fun _ => []) 0 ⟨by omega,fun i h => by omega⟩ (by simp only [↓reduceIte,reduceCtorEq,Nat.reduceEqDiff,go_sem]; try rfl) fun j hj => ?_
 obtain ⟨hj1,hj2⟩ := hj
 simp only [w1,↓reduceIte,reduceCtorEq,Nat.reduceEqDiff,Nat.reduceSub,Nat.reducePow,go_sem]
 refine ⟨fun hlt => ⟨by omega,by omega,by omega,by omega,fun h1 => (decP_f fun k => ?_).symm,fun h1 => inv_intro (j + 1) ⟨by omega,fun i hi => ?_⟩ (by omega) ?_⟩,fun hge => ?_⟩
 ·exact h1 (k.2 j (by omega))
 ·rcases Nat.lt_or_ge i j with h5 | h5
  ·exact hj2 i h5
  ·obtain rfl : i = j := by omega
   exact h1
 ·simp only [↓reduceIte,reduceCtorEq,Nat.reduceEqDiff,go_sem]
  rw [wrS (by omega)]
 ·exact (decP_t ⟨by omega,fun i hi => hj2 i (by omega)⟩).symm
theorem duEq {a b : Du} : (a.spathe == b.spathe && (a.hour == b.hour && a.lot == b.lot)) = true ↔ a = b := by
 obtain ⟨a1,a2,a3⟩ := a; obtain ⟨b1,b2,b3⟩ := b; simp
noncomputable def sSameDu : Spec := spec2 (TSl RDu) (TSl RDu) (fun _ _ => True) fun a b => .bool (sameB a b)
set_option maxRecDepth 100000 in
theorem pSameDu : PureOk Try.prog G 29 sSameDu := by
 refine fn2 (S := []) (I := []) mixed .nil .nil Try.func29 c29 fun a b _ hw => ?_
 simp only [Nat.reduceSub,Nat.reducePow,go_sem] at hw
 obtain ⟨w1,w2⟩ := hw
 simp only [RunTo,a29,w1,w2,↓reduceIte,reduceCtorEq,Nat.reduceEqDiff,Nat.reduceSub,Nat.reducePow,go_sem]
 refine ⟨fun h => (decP_f fun k => h (by omega)).symm,fun h => ?_⟩
 refine loopI (ι := Nat) (fun j => j ≤ a.1 ∧ ∀ i,i < j → a.2 i = b.2 i) (fun j => a.1 - j) [0,1] (fun j => [(5,.int .i64 j)]) (fun _ => []) 0 ⟨by omega,fun i h => by omega⟩ (by simp only [↓reduceIte,reduceCtorEq,Nat.reduceEqDiff,go_sem]; try rfl) fun j hj => ?_
 obtain ⟨hj1,hj2⟩ := hj
 simp only [w1,↓reduceIte,reduceCtorEq,Nat.reduceEqDiff,Nat.reduceAdd,Nat.reduceSub,Nat.reducePow,go_sem]
 refine ⟨fun hlt => ⟨by omega,by omega,by omega,by omega,fun h1 => (decP_f fun k => ?_).symm,fun h1 => inv_intro (j + 1) ⟨by omega,fun i hi => ?_⟩ (by omega) ?_⟩,fun hge => ?_⟩
 ·rw [k.2 j (by omega)] at h1; simp at h1
 ·rcases Nat.lt_or_ge i j with h5 | h5
  ·exact hj2 i h5
  ·obtain rfl : i = j := by omega
   exact duEq.1 h1
 ·simp only [↓reduceIte,reduceCtorEq,Nat.reduceEqDiff,go_sem]
  rw [wrS (by omega)]
 ·exact (decP_t ⟨by omega,fun i hi => hj2 i (by omega)⟩).symm
end Go.Proofs.Ytlapepdhkomijaa
namespace Go.Proofs.Ytlapepdhkomijaa
open Go Go.RowKit
variable {G : Nat → Option (Nat × (Nat → Val))}
noncomputable def sGreat7 : Spec := spec2 (TSl RPm) TWk (fun _ _ => True) fun l w => .bool (decP (l.1 > 30 ∨ w.spathes.1 > 12 ∨ w.hours.1 > 20 ∨ w.lots.1 > 8))
set_option maxRecDepth 100000 in
theorem pGreat7 : PureOk Try.prog G 14 sGreat7 := by
 refine fn2 (S := []) (I := []) mixed .nil .nil Try.func14 c14 fun l w _ hw => ?_
 simp only [Nat.reduceSub,Nat.reducePow,go_sem] at hw
 simp only [RunTo,a14,hw,↓imp_tt,↓imp_tf,↓reduceIte,reduceCtorEq,Nat.reduceEqDiff,Nat.reduceAdd,Nat.reduceSub,Nat.reduceLeDiff,Nat.reducePow,go_sem]
 repeat' (first | omega | (with_reducible apply And.intro) | intro _)
 all_goals first
  | exact (decP_t (by omega)).symm
  | exact (decP_f (by omega)).symm
  | (rw [Bool.eq_iff_iff,decP_true]; simp; omega)
noncomputable def sSameCv : Spec := spec2 TCv TCv (fun _ _ => True) fun a b => .bool (sameB a.spathes b.spathes && (sameB a.hours b.hours && sameB a.lots b.lots))
set_option maxRecDepth 100000 in
theorem pSameCv : PureOk Try.prog G 35 sSameCv := by
 refine fn2 (S := [(22,sSameI)]) (I := []) mixed (.cons pSameI .nil) .nil Try.func35 c35 fun a b _ hw => ?_
 simp only [Nat.reduceSub,Nat.reducePow,go_sem] at hw
 simp only [RunTo,a35,sSameI,hw,↓imp_ft,↓imp_ff,↓reduceIte,reduceCtorEq,Nat.reduceEqDiff,Nat.reduceAdd,Nat.reduceSub,Nat.reduceLeDiff,Nat.reducePow,go_sem]
 cases sameB a.spathes b.spathes <;> cases sameB a.hours b.hours <;> cases sameB a.lots b.lots <;> simp
noncomputable def idxB (l : Ints) (n : Int) : Bool := decP (∀ i,i < l.1 → 0 ≤ l.2 i ∧ l.2 i < n ∧ (0 < i → l.2 (i - 1) < l.2 i))
end Go.Proofs.Ytlapepdhkomijaa
namespace Go.Proofs.Ytlapepdhkomijaa
open Go Go.RowKit
variable {G : Nat → Option (Nat × (Nat → Val))}
noncomputable def hasL (l : Ints) (n : Int) : Bool := decP (∃ i,i < l.1 ∧ l.2 i = n)
theorem hasL_t {l : Ints} {n : Int} : hasL l n = true ↔ ∃ i,i < l.1 ∧ l.2 i = n := decP_true
noncomputable def lefB (w : Wk) (c : Cv) (i h j : Nat) : Bool := takesF w i h && (goodF w h j && (!hasL c.spathes i && (!hasL c.hours h && !hasL c.lots j)))
noncomputable def covB (w : Wk) (c : Cv) : Bool := idxB c.spathes w.spathes.1 && (idxB c.hours w.hours.1 && (idxB c.lots w.lots.1 && decP (∀ i,i < w.spathes.1 → ∀ h,h < w.hours.1 → ∀ j,j < w.lots.1 → lefB w c i h j = false)))
theorem idx_at {l : Ints} {n : Int} (h : idxB l n = true) : ∀ i,i < l.1 → 0 ≤ l.2 i ∧ l.2 i < n ∧ (0 < i → l.2 (i - 1) < l.2 i) := decP_true.1 h
theorem idx_ge {l : Ints} {n : Int} (h : idxB l n = true) : ∀ i,i < l.1 → (i : Int) ≤ l.2 i := by
 intro i; induction i with
 | zero => intro hi; exact (idx_at h 0 hi).1
 | succ i ih =>
  intro hi
  have h1 := ih (by omega)
  have h2 := (idx_at h (i + 1) hi).2.2 (by omega)
  have : i + 1 - 1 = i := by omega
  rw [this] at h2
  omega
theorem idx_len {l : Ints} {n : Nat} (h : idxB l n = true) : l.1 ≤ n := by
 rcases Nat.eq_zero_or_pos l.1 with e | e
 ·omega
 ·have h1 := idx_ge h (l.1 - 1) (by omega)
  have h2 := (idx_at h (l.1 - 1) (by omega)).2.1
  omega
noncomputable def sumU (w : Wk) (l : Ints) (n : Nat) : Int := sumN (fun i => if hasL l i = true then (w.lots.2 i).units else 0) n
theorem sumU_le {w : Wk} {l : Ints} (hb : WkB w) : ∀ k,k ≤ w.lots.1 → 0 ≤ sumU w l k ∧ sumU w l k ≤ 100 * k := by
 intro k; induction k with
 | zero => intro _; exact ⟨Int.le_refl _,Int.le_refl _⟩
 | succ k ih =>
  intro hk
  obtain ⟨a,b⟩ := ih (by omega)
  have := hb.u k (by omega)
  have e : sumU w l (k + 1) = sumU w l k + if hasL l k = true then (w.lots.2 k).units else 0 := rfl
  split at e <;> omega
noncomputable def numC (w : Wk) (c : Cv) : Int := c.spathes.1 + c.hours.1 + sumU w c.lots w.lots.1
noncomputable def pvV (l : Pms) (w : Wk) (c : Cv) : Val := if workE l w = 0 then (if covB w c = true then .tup (.cons (.int .i64 (numC w c)) (.cons (.int .i64 0) .nil)) else .tup (.cons (.int .i64 0) (.cons (.int .i64 73) .nil))) else .tup (.cons (.int .i64 0) (.cons (.int .i64 (workE l w)) .nil))
noncomputable def sProves : Spec := spec3 (TSl RPm) TWk TCv (fun _ _ _ => True) fun l w c => pvV l w c
theorem cov_idx {w : Wk} {c : Cv} (h : covB w c = true) : idxB c.spathes w.spathes.1 = true ∧ idxB c.hours w.hours.1 = true ∧ idxB c.lots w.lots.1 = true := by
 simp only [covB,Bool.and_eq_true] at h; exact ⟨h.1,h.2.1,h.2.2.1⟩
end Go.Proofs.Ytlapepdhkomijaa
namespace Go.Proofs.Ytlapepdhkomijaa
open Go Go.RowKit
variable {G : Nat → Option (Nat × (Nat → Val))}
noncomputable def nmV (l : Ints) (n : Nat) : Val := if idxB l n = true then .tup (.cons (.view 1 n fun a _ => .bool (hasL l a)) (.cons (.bool true) .nil)) else .tup (.cons (.view 1 0 fun _ _ => .bool false) (.cons (.bool false) .nil))
def lastI (l : Ints) (j : Nat) : Int := if j = 0 then -1 else l.2 (j - 1)
noncomputable def hasJ (l : Ints) (j : Nat) (a : Nat) : Bool := decP (∃ k,k < j ∧ l.2 k = (a : Int))
theorem hasJ_s {l : Ints} {j a : Nat} : hasJ l (j + 1) a = if l.2 j = (a : Int) then true else hasJ l j a := by
 by_cases e : l.2 j = (a : Int)
 ·rw [if_pos e]; exact decP_t ⟨j,by omega,e⟩
 ·rw [if_neg e,Bool.eq_iff_iff]
  unfold hasJ
  rw [decP_true,decP_true]
  constructor
  ·rintro ⟨k,hk,ek⟩
   exact ⟨k,by rcases Nat.eq_or_lt_of_le (Nat.le_of_lt_succ hk) with q | q; subst q; exact absurd ek e; exact q,ek⟩
  ·rintro ⟨k,hk,ek⟩
   exact ⟨k,by omega,ek⟩
theorem idx_upto {l : Ints} {n : Int} {j : Nat} (h : ∀ i,i < j → 0 ≤ l.2 i ∧ l.2 i < n ∧ (0 < i → l.2 (i - 1) < l.2 i)) (hl : lastI l j < l.2 j) (hn : l.2 j < n) : ∀ i,i < j + 1 → 0 ≤ l.2 i ∧ l.2 i < n ∧ (0 < i → l.2 (i - 1) < l.2 i) := by
 intro i hi
 by_cases e : i = j
 ·subst e
  unfold lastI at hl
  split at hl
  ·exact ⟨by omega,hn,fun q => by omega⟩
  ·have := h (i - 1) (by omega)
   exact ⟨by omega,hn,fun _ => hl⟩
 ·exact h i (by omega)
theorem idx_not {l : Ints} {n : Int} {j : Nat} (hj : j < l.1) (h : l.2 j ≤ lastI l j ∨ n ≤ l.2 j) : idxB l n = false := decP_f fun q => by
 obtain ⟨a,b,c⟩ := q j hj
 unfold lastI at h
 split at h
 ·omega
 ·have := c (by omega); omega
noncomputable def sNmdS : Spec := spec2 (TSl RSp) (TSl (RInt .i64)) (fun x _ => x.1 ≤ 1000) fun x l => nmV l x.1
set_option maxHeartbeats 4000000 in
set_option maxRecDepth 100000 in
theorem pNmdS : PureOk Try.prog G 70 sNmdS := by
 refine fn2 (S := []) (I := []) mixed .nil .nil Try.func70 c70 fun x l hp hw => ?_
 simp only [Nat.reduceSub,Nat.reducePow,go_sem] at hw
 simp only [RunTo,a70,hw,↓reduceIte,reduceCtorEq,Nat.reduceEqDiff,Nat.reduceSub,Nat.reduceLT,Int.reduceNeg,Nat.reducePow,go_sem]
 refine ⟨by omega,by omega,by omega,?_⟩
 refine loopI (ι := Nat) (fun j => j ≤ l.1 ∧ ∀ i,i < j → 0 ≤ l.2 i ∧ l.2 i < x.1 ∧ (0 < i → l.2 (i - 1) < l.2 i)) (fun j => l.1 - j) [0,6,13,14] (fun j => [(15,.int .i64 j),(7,.int .i64 (lastI l j))]) (fun j => [(0,.row 4 1 x.1 fun a _ => .bool (hasJ l j a))]) 0 ⟨Nat.zero_le _,fun _ h => absurd h (Nat.not_lt_zero _)⟩ (by
  simp only [lastI,↓reduceIte,reduceCtorEq,Nat.reduceEqDiff,Nat.reduceLT,Int.reduceNeg,go_sem]
  intro a ha b hb
  obtain rfl : b = 0 := by omega
  have : hasJ l 0 a = false := decP_f fun ⟨k,hk,_⟩ => absurd hk (Nat.not_lt_zero _)
  simp [vget,this]) fun j hj => ?_
 obtain ⟨hj1,hj2⟩ := hj
 by_cases hjl : j < l.1
 ·have fj : ((j : Int) < (l.1 : Int)) = True := eq_true (by omega)
  by_cases q1 : l.2 j ≤ lastI l j
  ·have f1 : (l.2 j ≤ lastI l j) = True := eq_true q1
   unfold nmV
   rw [idx_not hjl (.inl q1),if_neg (by decide)]
   simp only [fj,f1,↓imp_tt,↓imp_tf,↓reduceIte,reduceCtorEq,Nat.reduceEqDiff,Nat.reduceAdd,go_sem]
   omega
  ·have f1 : (l.2 j ≤ lastI l j) = False := eq_false q1
   by_cases q2 : l.2 j ≥ (x.1 : Int)
   ·have f2 : (l.2 j ≥ (x.1 : Int)) = True := eq_true q2
    unfold nmV
    rw [idx_not hjl (.inr q2),if_neg (by decide)]
    simp only [fj,f1,f2,hw,↓imp_tt,↓imp_tf,↓imp_ft,↓imp_ff,↓reduceIte,reduceCtorEq,Nat.reduceEqDiff,Nat.reduceAdd,Nat.reduceSub,Nat.reducePow,go_sem]
    omega
   ·have f2 : (l.2 j ≥ (x.1 : Int)) = False := eq_false q2
    have hup := idx_upto hj2 (by omega) (by omega)
    have h0 := (hup j (by omega)).1
    simp only [fj,f1,f2,hw,↓imp_tt,↓imp_tf,↓imp_ft,↓imp_ff,↓reduceIte,reduceCtorEq,Nat.reduceEqDiff,Nat.reduceSub,Nat.reducePow,go_sem]
    refine ⟨by omega,h0,by omega,inv_intro (j + 1) ⟨hjl,hup⟩ (by omega) ?_⟩
    have el : lastI l (j + 1) = l.2 j := by simp [lastI]
    simp only [el,↓reduceIte,reduceCtorEq,Nat.reduceEqDiff,Nat.reduceLT,go_sem]
    refine ⟨wrS (by omega),fun a ha b hb => ?_⟩
    obtain rfl : b = 0 := by omega
    rw [hasJ_s]
    by_cases e : a = (l.2 j).toNat
    ·rw [if_pos ⟨e,Nat.le_refl _,Nat.one_pos⟩,if_pos (by omega)]; rfl
    ·rw [if_neg (fun q => e q.1),if_neg (by omega)]
 have fj : ((j : Int) < (l.1 : Int)) = False := eq_false (by omega)
 obtain rfl : j = l.1 := by omega
 have hi : idxB l x.1 = true := decP_t hj2
 unfold nmV
 rw [if_pos hi]
 simp only [fj,↓imp_ft,↓imp_ff,↓reduceIte,reduceCtorEq,Nat.reduceEqDiff,Nat.reduceAdd,go_sem]
 exact fun _ _ _ _ => rfl
noncomputable def sNmdH : Spec := spec2 (TSl (RInt .i64)) (TSl (RInt .i64)) (fun x _ => x.1 ≤ 1000) fun x l => nmV l x.1
set_option maxHeartbeats 4000000 in
set_option maxRecDepth 100000 in
theorem pNmdH : PureOk Try.prog G 71 sNmdH := by
 refine fn2 (S := []) (I := []) mixed .nil .nil Try.func71 c71 fun x l hp hw => ?_
 simp only [Nat.reduceSub,Nat.reducePow,go_sem] at hw
 simp only [RunTo,a71,hw,↓reduceIte,reduceCtorEq,Nat.reduceEqDiff,Nat.reduceSub,Nat.reduceLT,Int.reduceNeg,Nat.reducePow,go_sem]
 refine ⟨by omega,by omega,by omega,?_⟩
 refine loopI (ι := Nat) (fun j => j ≤ l.1 ∧ ∀ i,i < j → 0 ≤ l.2 i ∧ l.2 i < x.1 ∧ (0 < i → l.2 (i - 1) < l.2 i)) (fun j => l.1 - j) [0,6,13,14] (fun j => [(15,.int .i64 j),(7,.int .i64 (lastI l j))]) (fun j => [(0,.row 4 1 x.1 fun a _ => .bool (hasJ l j a))]) 0 ⟨Nat.zero_le _,fun _ h => absurd h (Nat.not_lt_zero _)⟩ (by
  simp only [lastI,↓reduceIte,reduceCtorEq,Nat.reduceEqDiff,Nat.reduceLT,Int.reduceNeg,go_sem]
  intro a ha b hb
  obtain rfl : b = 0 := by omega
  have : hasJ l 0 a = false := decP_f fun ⟨k,hk,_⟩ => absurd hk (Nat.not_lt_zero _)
  simp [vget,this]) fun j hj => ?_
 obtain ⟨hj1,hj2⟩ := hj
 by_cases hjl : j < l.1
 ·have fj : ((j : Int) < (l.1 : Int)) = True := eq_true (by omega)
  by_cases q1 : l.2 j ≤ lastI l j
  ·have f1 : (l.2 j ≤ lastI l j) = True := eq_true q1
   unfold nmV
   rw [idx_not hjl (.inl q1),if_neg (by decide)]
   simp only [fj,f1,↓imp_tt,↓imp_tf,↓reduceIte,reduceCtorEq,Nat.reduceEqDiff,Nat.reduceAdd,go_sem]
   omega
  ·have f1 : (l.2 j ≤ lastI l j) = False := eq_false q1
   by_cases q2 : l.2 j ≥ (x.1 : Int)
   ·have f2 : (l.2 j ≥ (x.1 : Int)) = True := eq_true q2
    unfold nmV
    rw [idx_not hjl (.inr q2),if_neg (by decide)]
    simp only [fj,f1,f2,hw,↓imp_tt,↓imp_tf,↓imp_ft,↓imp_ff,↓reduceIte,reduceCtorEq,Nat.reduceEqDiff,Nat.reduceAdd,Nat.reduceSub,Nat.reducePow,go_sem]
    omega
   ·have f2 : (l.2 j ≥ (x.1 : Int)) = False := eq_false q2
    have hup := idx_upto hj2 (by omega) (by omega)
    have h0 := (hup j (by omega)).1
    simp only [fj,f1,f2,hw,↓imp_tt,↓imp_tf,↓imp_ft,↓imp_ff,↓reduceIte,reduceCtorEq,Nat.reduceEqDiff,Nat.reduceSub,Nat.reducePow,go_sem]
    refine ⟨by omega,h0,by omega,inv_intro (j + 1) ⟨hjl,hup⟩ (by omega) ?_⟩
    have el : lastI l (j + 1) = l.2 j := by simp [lastI]
    simp only [el,↓reduceIte,reduceCtorEq,Nat.reduceEqDiff,Nat.reduceLT,go_sem]
    refine ⟨wrS (by omega),fun a ha b hb => ?_⟩
    obtain rfl : b = 0 := by omega
    rw [hasJ_s]
    by_cases e : a = (l.2 j).toNat
    ·rw [if_pos ⟨e,Nat.le_refl _,Nat.one_pos⟩,if_pos (by omega)]; rfl
    ·rw [if_neg (fun q => e q.1),if_neg (by omega)]
 have fj : ((j : Int) < (l.1 : Int)) = False := eq_false (by omega)
 obtain rfl : j = l.1 := by omega
 have hi : idxB l x.1 = true := decP_t hj2
 unfold nmV
 rw [if_pos hi]
 simp only [fj,↓imp_ft,↓imp_ff,↓reduceIte,reduceCtorEq,Nat.reduceEqDiff,Nat.reduceAdd,go_sem]
 exact fun _ _ _ _ => rfl
noncomputable def sNmdL : Spec := spec2 (TSl RLt) (TSl (RInt .i64)) (fun x _ => x.1 ≤ 1000) fun x l => nmV l x.1
set_option maxHeartbeats 4000000 in
set_option maxRecDepth 100000 in
theorem pNmdL : PureOk Try.prog G 72 sNmdL := by
 refine fn2 (S := []) (I := []) mixed .nil .nil Try.func72 c72 fun x l hp hw => ?_
 simp only [Nat.reduceSub,Nat.reducePow,go_sem] at hw
 simp only [RunTo,a72,hw,↓reduceIte,reduceCtorEq,Nat.reduceEqDiff,Nat.reduceSub,Nat.reduceLT,Int.reduceNeg,Nat.reducePow,go_sem]
 refine ⟨by omega,by omega,by omega,?_⟩
 refine loopI (ι := Nat) (fun j => j ≤ l.1 ∧ ∀ i,i < j → 0 ≤ l.2 i ∧ l.2 i < x.1 ∧ (0 < i → l.2 (i - 1) < l.2 i)) (fun j => l.1 - j) [0,6,13,14] (fun j => [(15,.int .i64 j),(7,.int .i64 (lastI l j))]) (fun j => [(0,.row 4 1 x.1 fun a _ => .bool (hasJ l j a))]) 0 ⟨Nat.zero_le _,fun _ h => absurd h (Nat.not_lt_zero _)⟩ (by
  simp only [lastI,↓reduceIte,reduceCtorEq,Nat.reduceEqDiff,Nat.reduceLT,Int.reduceNeg,go_sem]
  intro a ha b hb
  obtain rfl : b = 0 := by omega
  have : hasJ l 0 a = false := decP_f fun ⟨k,hk,_⟩ => absurd hk (Nat.not_lt_zero _)
  simp [vget,this]) fun j hj => ?_
 obtain ⟨hj1,hj2⟩ := hj
 by_cases hjl : j < l.1
 ·have fj : ((j : Int) < (l.1 : Int)) = True := eq_true (by omega)
  by_cases q1 : l.2 j ≤ lastI l j
  ·have f1 : (l.2 j ≤ lastI l j) = True := eq_true q1
   unfold nmV
   rw [idx_not hjl (.inl q1),if_neg (by decide)]
   simp only [fj,f1,↓imp_tt,↓imp_tf,↓reduceIte,reduceCtorEq,Nat.reduceEqDiff,Nat.reduceAdd,go_sem]
   omega
  ·have f1 : (l.2 j ≤ lastI l j) = False := eq_false q1
   by_cases q2 : l.2 j ≥ (x.1 : Int)
   ·have f2 : (l.2 j ≥ (x.1 : Int)) = True := eq_true q2
    unfold nmV
    rw [idx_not hjl (.inr q2),if_neg (by decide)]
    simp only [fj,f1,f2,hw,↓imp_tt,↓imp_tf,↓imp_ft,↓imp_ff,↓reduceIte,reduceCtorEq,Nat.reduceEqDiff,Nat.reduceAdd,Nat.reduceSub,Nat.reducePow,go_sem]
    omega
   ·have f2 : (l.2 j ≥ (x.1 : Int)) = False := eq_false q2
    have hup := idx_upto hj2 (by omega) (by omega)
    have h0 := (hup j (by omega)).1
    simp only [fj,f1,f2,hw,↓imp_tt,↓imp_tf,↓imp_ft,↓imp_ff,↓reduceIte,reduceCtorEq,Nat.reduceEqDiff,Nat.reduceSub,Nat.reducePow,go_sem]
    refine ⟨by omega,h0,by omega,inv_intro (j + 1) ⟨hjl,hup⟩ (by omega) ?_⟩
    have el : lastI l (j + 1) = l.2 j := by simp [lastI]
    simp only [el,↓reduceIte,reduceCtorEq,Nat.reduceEqDiff,Nat.reduceLT,go_sem]
    refine ⟨wrS (by omega),fun a ha b hb => ?_⟩
    obtain rfl : b = 0 := by omega
    rw [hasJ_s]
    by_cases e : a = (l.2 j).toNat
    ·rw [if_pos ⟨e,Nat.le_refl _,Nat.one_pos⟩,if_pos (by omega)]; rfl
    ·rw [if_neg (fun q => e q.1),if_neg (by omega)]
 have fj : ((j : Int) < (l.1 : Int)) = False := eq_false (by omega)
 obtain rfl : j = l.1 := by omega
 have hi : idxB l x.1 = true := decP_t hj2
 unfold nmV
 rw [if_pos hi]
 simp only [fj,↓imp_ft,↓imp_ff,↓reduceIte,reduceCtorEq,Nat.reduceEqDiff,Nat.reduceAdd,go_sem]
 exact fun _ _ _ _ => rfl
end Go.Proofs.Ytlapepdhkomijaa
namespace Go.Proofs.Ytlapepdhkomijaa
open Go Go.RowKit
variable {G : Nat → Option (Nat × (Nat → Val))}
theorem nmV_t {l : Ints} {n : Nat} (h : idxB l n = true) : nmV l n = .tup (.cons (.view 1 n fun a _ => .bool (hasL l a)) (.cons (.bool true) .nil)) := by unfold nmV; rw [if_pos h]
theorem nmV_f {l : Ints} {n : Nat} (h : idxB l n = false) : nmV l n = .tup (.cons (.view 1 0 fun _ _ => .bool false) (.cons (.bool false) .nil)) := by unfold nmV; rw [h,if_neg (by decide)]
theorem cnt_0 {p : Nat → Bool} : ∀ {n : Nat},cntN p n = 0 → ∀ i,i < n → p i = false := by
 intro n; induction n with
 | zero => intro _ i hi; exact absurd hi (Nat.not_lt_zero _)
 | succ n ih =>
  intro h i hi
  simp only [cntN] at h
  by_cases e : i = n
  ·subst e
   cases q : p i with
   | false => rfl
   | true => rw [q,if_pos rfl] at h; omega
  ·exact ih (by omega) i (by omega)
theorem nmV_ex {l : Ints} {n : Nat} : ∃ (k : Nat) (f : Nat → Nat → Val) (b : Bool),nmV l n = .tup (.cons (.view 1 k f) (.cons (.bool b) .nil)) ∧ b = idxB l n ∧ k ≤ n := by
 cases h : idxB l n
 ·exact ⟨0,_,false,nmV_f h,rfl,Nat.zero_le _⟩
 ·exact ⟨n,_,true,nmV_t h,rfl,Nat.le_refl _⟩
set_option maxHeartbeats 4000000 in
set_option maxRecDepth 100000 in
theorem pProvesP : PureOk Try.prog G 33 sProves := by
 refine fn3 (S := [(53,sOpen),(70,sNmdS),(71,sNmdH),(72,sNmdL),(59,sGoodN)]) (I := [(55,a55),(83,a83),(61,a61),(73,a73)])
  mixed (.cons pOpen (.cons pNmdS (.cons pNmdH (.cons pNmdL (.cons pGoodN .nil))))) (.cons Try.func55 c55 (.cons Try.func83 c83 (.cons Try.func61 c61 (.cons Try.func73 c73 .nil)))) Try.func33 c33 fun l w c _ hw => ?_
 simp only [Nat.reduceSub,Nat.reducePow,go_sem] at hw
 unfold pvV
 by_cases he : ¬ workE l w = 0
 ·have hz : (workE l w = 0) = False := eq_false he
  rw [if_neg he]
  obtain ⟨w0,w1,w2,w3,w4,w5,w6⟩ := hw
  simp (config := { maxSteps := 3000000 }) only [RunTo,a33,sOpen,dayL,hz,w0,w1,w2,w3,w4,w5,w6,↓imp_tt,↓imp_tf,↓reduceIte,reduceCtorEq,Nat.reduceEqDiff,Nat.reduceAdd,Nat.reduceSub,Nat.reduceLeDiff,Nat.reduceLT,Nat.reducePow,go_sem]
 have he := Classical.not_not.1 he
 have hb : WkB w := (workE_0 he).2.2.b
 have hS := hb.s
 have hH := hb.h
 have hL := hb.l
 rw [if_pos he]
 obtain ⟨w0,w1,w2,w3,w4,w5,w6⟩ := hw
 have n1 : (w.spathes.1 ≤ 1000) = True := eq_true (by omega)
 have n2 : (w.hours.1 ≤ 1000) = True := eq_true (by omega)
 have n3 : (w.lots.1 ≤ 1000) = True := eq_true (by omega)
 by_cases hx : ¬ (idxB c.spathes w.spathes.1 = true ∧ idxB c.hours w.hours.1 = true ∧ idxB c.lots w.lots.1 = true)
 ·have hc : covB w c = false := by
   cases e : covB w c with
   | false => rfl
   | true => exact absurd (cov_idx e) hx
  rw [hc,if_neg (by decide)]
  obtain ⟨k1,f1,b1,nm1,q1,m1⟩ := nmV_ex (l := c.spathes) (n := w.spathes.1)
  obtain ⟨k2,f2,b2,nm2,q2,m2⟩ := nmV_ex (l := c.hours) (n := w.hours.1)
  obtain ⟨k3,f3,b3,nm3,q3,m3⟩ := nmV_ex (l := c.lots) (n := w.lots.1)
  rw [← q1,← q2,← q3] at hx
  have y1 : (k1 ≤ 9223372036854775807) = True := eq_true (by omega)
  have y2 : (k2 ≤ 9223372036854775807) = True := eq_true (by omega)
  have y3 : (k3 ≤ 9223372036854775807) = True := eq_true (by omega)
  simp only [RunTo,a33,sOpen,dayL,he,sNmdS,sNmdH,sNmdL,nm1,nm2,nm3,y1,y2,y3,n1,n2,n3,w0,w1,w2,w3,w4,w5,w6,↓imp_tt,↓imp_tf,↓imp_ft,↓imp_ff,↓reduceIte,reduceCtorEq,Nat.reduceEqDiff,Nat.reduceAdd,Nat.reduceSub,Nat.reduceLeDiff,Nat.reduceLT,Nat.reducePow,go_sem]
  exact fun h1 h2 h3 => absurd ⟨h1,h2,h3⟩ hx
 obtain ⟨x1,x2,x3⟩ := Classical.not_not.1 hx
 have l1 := idx_len x1
 have l2 := idx_len x2
 have l3 := idx_len x3
 have nm1 := nmV_t x1
 have nm2 := nmV_t x2
 have nm3 := nmV_t x3
 have ew : IntKind.i64.wrap ((c.spathes.1 : Int) + (c.hours.1 : Int)) = (c.spathes.1 : Int) + (c.hours.1 : Int) := wr64 (by omega) (by omega)
 simp only [RunTo,a33,sOpen,dayL,he,sNmdS,sNmdH,sNmdL,nm1,nm2,nm3,ew,n1,n2,n3,w0,w1,w2,w3,w4,w5,w6,↓imp_ft,↓imp_ff,↓reduceIte,reduceCtorEq,Nat.reduceEqDiff,Nat.reduceAdd,Nat.reduceSub,Nat.reduceLeDiff,Nat.reduceLT,Nat.reducePow,go_sem]
 refine loopI (ι := Nat) (fun i => i ≤ w.lots.1) (fun i => w.lots.1 - i) [4,6,7,8,10,12,14,73,74,98] (fun i => [(75,.int .i64 i),(16,.int .i64 ((c.spathes.1 : Int) + (c.hours.1 : Int) + sumU w c.lots i))]) (fun _ => []) 0 (Nat.zero_le _) (by simp only [sumU,sumN,↓reduceIte,reduceCtorEq,Nat.reduceEqDiff,Nat.reduceLT,go_sem]; try simp) fun i hi => ?_
 obtain ⟨s1,s2⟩ := sumU_le (l := c.lots) hb i hi
 by_cases hil : i < w.lots.1
 ·have fi : ((i : Int) < (w.lots.1 : Int)) = True := eq_true (by omega)
  have p1 : (0 ≤ (i : Int)) = True := eq_true (by omega)
  have hu := hb.u i hil
  have es : sumU w c.lots (i + 1) = sumU w c.lots i + if hasL c.lots i = true then (w.lots.2 i).units else 0 := rfl
  cases hv : hasL c.lots i <;> rw [hv] at es <;> simp only [fi,p1,hv,w3,↓imp_tt,↓imp_tf,↓imp_ft,↓imp_ff,↓reduceIte,reduceCtorEq,Nat.reduceEqDiff,Nat.reduceAdd,Nat.reduceSub,Nat.reduceLeDiff,Nat.reducePow,go_sem]
  all_goals
   refine inv_intro (i + 1) hil (by omega) ?_
   simp only [↓reduceIte,reduceCtorEq,Nat.reduceEqDiff,Nat.reduceLT,go_sem]
  ·exact ⟨wrS (by omega),by rw [es]; simp⟩
  ·exact ⟨wrS (by omega),(wr64 (by omega) (by omega)).trans (by rw [es,if_pos rfl]; omega)⟩
 have fi : ((i : Int) < (w.lots.1 : Int)) = False := eq_false (by omega)
 obtain rfl : i = w.lots.1 := by omega
 simp only [fi,w1,↓imp_ft,↓imp_ff,↓reduceIte,reduceCtorEq,Nat.reduceEqDiff,Nat.reduceAdd,Nat.reduceSub,Nat.reduceLeDiff,Nat.reducePow,go_sem]
 -- what is left of a spathe's hours
 refine loopI (ι := Nat) (fun i => i ≤ w.spathes.1 ∧ ∀ i',i' < i → ∀ h,h < w.hours.1 → ∀ j,j < w.lots.1 → lefB w c i' h j = false) (fun i => w.spathes.1 - i) [6,7,8,10,12,14,16,91,98] (fun i => [(92,.int .i64 i)]) (fun _ => []) 0 ⟨Nat.zero_le _,fun _ h => absurd h (Nat.not_lt_zero _)⟩ (by simp only [↓reduceIte,reduceCtorEq,Nat.reduceEqDiff,Nat.reduceLT,go_sem]) fun i hi => ?_
 obtain ⟨hi1,hi2⟩ := hi
 by_cases hil : ¬ i < w.spathes.1
 ·have fi : ((i : Int) < (w.spathes.1 : Int)) = False := eq_false (by omega)
  obtain rfl : i = w.spathes.1 := by omega
  have e : covB w c = true := by
   unfold covB
   rw [x1,x2,x3,decP_t hi2]; rfl
  rw [e,if_pos rfl]
  simp only [fi,numC,↓imp_ft,↓imp_ff,↓reduceIte,reduceCtorEq,Nat.reduceEqDiff,Nat.reduceAdd,go_sem]
 have hil := Classical.not_not.1 hil
 have fi : ((i : Int) < (w.spathes.1 : Int)) = True := eq_true (by omega)
 have pi1 : (0 ≤ (i : Int)) = True := eq_true (by omega)
 simp only [fi,pi1,w1,w2,w3,a55,a83,↓imp_tt,↓imp_tf,↓reduceIte,reduceCtorEq,Nat.reduceEqDiff,Nat.reduceAdd,Nat.reduceSub,Nat.reduceLeDiff,Nat.reducePow,go_sem]
 refine fun g => ?_
 refine loopI (ι := Nat) (fun h => h ≤ w.hours.1 ∧ ∀ h',h' < h → ∀ j,j < w.lots.1 → lefB w c i h' j = false) (fun h => w.hours.1 - h) [0,1,4,16,17] (fun h => [(18,.int .i64 h)]) (fun _ => []) 0 ⟨Nat.zero_le _,fun h hh => absurd hh (Nat.not_lt_zero _)⟩ (by
  simp only [↓reduceIte,reduceCtorEq,Nat.reduceEqDiff,Nat.reduceLT,go_sem]) fun h hh => ?_
 obtain ⟨hh1,hh2⟩ := hh
 by_cases hhl : ¬ h < w.hours.1
 ·have fh : ((h : Int) < (w.hours.1 : Int)) = False := eq_false (by omega)
  obtain rfl : h = w.hours.1 := by omega
  simp only [fh,↓imp_ft,↓imp_ff,↓reduceIte,reduceCtorEq,Nat.reduceEqDiff,go_sem]
  refine inv_intro (i + 1) ⟨hil,fun i' hi' => ?_⟩ (by omega) ?_
  ·by_cases e : i' = i
   ·subst e; exact hh2
   ·exact hi2 i' (by omega)
  ·simp only [↓reduceIte,reduceCtorEq,Nat.reduceEqDiff,Nat.reduceLT,go_sem]
   exact wrS (by omega)
 have hhl := Classical.not_not.1 hhl
 have fh : ((h : Int) < (w.hours.1 : Int)) = True := eq_true (by omega)
 have ph1 : (0 ≤ (h : Int)) = True := eq_true (by omega)
 have wo : IntKind.i64.wrap ((w.spathes.2 i).cracks.lo + w.opn) = (w.spathes.2 i).cracks.lo + w.opn := wr64 (by have := hb.c i (by omega); have := hb.o; omega) (by have := hb.c i (by omega); have := hb.o; omega)
 have hgo : (∀ j,j < w.lots.1 → lefB w c i h j = false) → h + 1 ≤ w.hours.1 ∧ ∀ h',h' < h + 1 → ∀ j,j < w.lots.1 → lefB w c i h' j = false := fun e => ⟨hhl,fun h' hh' => by
  by_cases q : h' = h
  ·subst q; exact e
  ·exact hh2 h' (by omega)⟩
 have hno : (∃ j,j < w.lots.1 ∧ lefB w c i h j = true) → covB w c = false := fun ⟨j,hj,e⟩ => by
  unfold covB
  rw [decP_f fun q => by rw [q i hil h hhl j hj] at e; cases e]; simp
 by_cases t1 : ¬ (w.spathes.2 i).cracks.hi ≤ w.hours.2 h
 ·have g1 : ((w.spathes.2 i).cracks.hi ≤ w.hours.2 h) = False := eq_false t1
  have ht : takesF w i h = false := decide_eq_false fun q => t1 q.1
  simp only [fh,ph1,g1,↓imp_tt,↓imp_tf,↓imp_ft,↓imp_ff,↓reduceIte,reduceCtorEq,Nat.reduceEqDiff,Nat.reduceAdd,go_sem]
  refine inv_intro (h + 1) (hgo fun j _ => by unfold lefB; rw [ht]; rfl) (by omega) ?_
  simp only [↓reduceIte,reduceCtorEq,Nat.reduceEqDiff,Nat.reduceLT,go_sem]
  exact wrS (by omega)
 have t1 := Classical.not_not.1 t1
 have g1 : ((w.spathes.2 i).cracks.hi ≤ w.hours.2 h) = True := eq_true t1
 by_cases t2 : ¬ w.hours.2 h < (w.spathes.2 i).cracks.lo + w.opn
 ·have g2 : (w.hours.2 h < (w.spathes.2 i).cracks.lo + w.opn) = False := eq_false t2
  have ht : takesF w i h = false := decide_eq_false fun q => t2 q.2
  simp only [fh,ph1,g1,g2,wo,↓imp_tt,↓imp_tf,↓imp_ft,↓imp_ff,↓reduceIte,reduceCtorEq,Nat.reduceEqDiff,Nat.reduceAdd,Nat.reduceLeDiff,go_sem]
  refine inv_intro (h + 1) (hgo fun j _ => by unfold lefB; rw [ht]; rfl) (by omega) ?_
  simp only [↓reduceIte,reduceCtorEq,Nat.reduceEqDiff,Nat.reduceLT,go_sem]
  exact wrS (by omega)
 have t2 := Classical.not_not.1 t2
 have g2 : (w.hours.2 h < (w.spathes.2 i).cracks.lo + w.opn) = True := eq_true t2
 have ht : takesF w i h = true := decide_eq_true ⟨t1,t2⟩
 by_cases v1 : hasL c.spathes i = true
 ·simp only [fi,pi1,fh,ph1,g1,g2,wo,v1,w1,↓imp_tt,↓imp_tf,↓imp_ft,↓imp_ff,↓reduceIte,reduceCtorEq,Nat.reduceEqDiff,Nat.reduceAdd,Nat.reduceSub,Nat.reduceLeDiff,Nat.reducePow,go_sem]
  refine inv_intro (h + 1) (hgo fun j _ => by unfold lefB; rw [v1]; simp) (by omega) ?_
  simp only [↓reduceIte,reduceCtorEq,Nat.reduceEqDiff,Nat.reduceLT,go_sem]
  exact wrS (by omega)
 have v1 : hasL c.spathes i = false := by simpa using v1
 by_cases v2 : hasL c.hours h = true
 ·simp only [fi,pi1,fh,ph1,g1,g2,wo,v1,v2,w1,w2,↓imp_tt,↓imp_tf,↓imp_ft,↓imp_ff,↓reduceIte,reduceCtorEq,Nat.reduceEqDiff,Nat.reduceAdd,Nat.reduceSub,Nat.reduceLeDiff,Nat.reducePow,go_sem]
  refine inv_intro (h + 1) (hgo fun j _ => by unfold lefB; rw [v2]; simp) (by omega) ?_
  simp only [↓reduceIte,reduceCtorEq,Nat.reduceEqDiff,Nat.reduceLT,go_sem]
  exact wrS (by omega)
 have v2 : hasL c.hours h = false := by simpa using v2
 simp only [fi,pi1,fh,ph1,g1,g2,wo,v1,v2,w1,w2,w3,a61,↓imp_tt,↓imp_tf,↓reduceIte,reduceCtorEq,Nat.reduceEqDiff,Nat.reduceAdd,Nat.reduceSub,Nat.reduceLeDiff,Nat.reducePow,go_sem]
 obtain ⟨P,hP⟩ : ∃ P : Nat → Bool,P = fun k => goodF w h k && !hasL c.lots k := ⟨_,rfl⟩
 have hlP : ∀ j,lefB w c i h j = P j := fun j => by rw [hP]; unfold lefB; rw [ht,v1,v2]; rfl
 refine loopJ (ι := Nat) (fun k => k ≤ w.lots.1) (fun k => w.lots.1 - k) [1,7] (fun k => [(8,.int .i64 k),(5,.own (.n 14))]) (fun k => [(14,.row 3 1 (cntN P k) fun a _ => .int .i64 (selN P k a))]) 1 0 (Nat.zero_le _) (by simp only [cntN,↓reduceIte,reduceCtorEq,Nat.reduceEqDiff,Nat.reduceAdd,Nat.reduceLT,go_sem]; try simp) fun k hk => ?_
 by_cases hkl : k < w.lots.1
 ·have fk : ((k : Int) < (w.lots.1 : Int)) = True := eq_true (by omega)
  have pk : (0 ≤ (k : Int)) = True := eq_true (by omega)
  have hcn := cntN_le P k
  have hPk : P k = (goodF w h k && !hasL c.lots k) := by rw [hP]
  cases v3 : goodF w h k
  ·rw [v3] at hPk
   have e2 : P k = false := hPk
   simp only [fk,pk,fh,ph1,v3,sGoodN,Int.toNat_natCast,a73,w1,w2,w3,↓imp_tt,↓imp_tf,↓imp_ft,↓imp_ff,↓reduceIte,reduceCtorEq,Nat.reduceEqDiff,Nat.reduceAdd,Nat.reduceSub,Nat.reducePow,go_sem]
   refine inv_intro (k + 1) hkl (by omega) ?_
   have hcs : cntN P (k + 1) = cntN P k := by simp [cntN,e2]
   have hse : ∀ a,selN P (k + 1) a = selN P k a := fun a => by simp [selN,e2]
   simp only [hcs,hse,↓reduceIte,reduceCtorEq,Nat.reduceEqDiff,Nat.reduceLT,go_sem]
   exact wrS (by omega)
  cases v4 : hasL c.lots k <;> rw [v3,v4] at hPk
  ·have e2 : P k = true := hPk
   simp only [fk,pk,fh,ph1,v3,v4,sGoodN,Int.toNat_natCast,a73,w1,w2,w3,↓imp_tt,↓imp_tf,↓reduceIte,reduceCtorEq,Nat.reduceEqDiff,Nat.reduceAdd,Nat.reduceSub,Nat.reduceLeDiff,Nat.reduceLT,Nat.reducePow,go_sem]
   repeat with_reducible refine And.intro (by omega) ?_
   refine inv_intro (k + 1) hkl (by omega) ?_
   have hcs : cntN P (k + 1) = cntN P k + 1 := by simp only [cntN,e2,if_true]
   simp only [hcs,↓reduceIte,reduceCtorEq,Nat.reduceEqDiff,Nat.reduceLT,go_sem]
   refine ⟨wrS (by omega),fun a ha b hb' => ?_⟩
   obtain rfl : b = 0 := by omega
   simp only [selN,e2,true_and]
   by_cases e : a = cntN P k
   ·subst e; simp [vget]
   ·have : a < cntN P k := by omega
    simp [e,this]
  ·have e2 : P k = false := hPk
   simp only [fk,pk,fh,ph1,v3,v4,sGoodN,Int.toNat_natCast,a73,w1,w2,w3,↓imp_tt,↓imp_tf,↓imp_ft,↓imp_ff,↓reduceIte,reduceCtorEq,Nat.reduceEqDiff,Nat.reduceAdd,Nat.reduceSub,Nat.reducePow,go_sem]
   refine inv_intro (k + 1) hkl (by omega) ?_
   have hcs : cntN P (k + 1) = cntN P k := by simp [cntN,e2]
   have hse : ∀ a,selN P (k + 1) a = selN P k a := fun a => by simp [selN,e2]
   simp only [hcs,hse,↓reduceIte,reduceCtorEq,Nat.reduceEqDiff,Nat.reduceLT,go_sem]
   exact wrS (by omega)
 have fk : ((k : Int) < (w.lots.1 : Int)) = False := eq_false (by omega)
 obtain rfl : k = w.lots.1 := by omega
 by_cases hz : cntN P w.lots.1 = 0
 ·have f0 : ((cntN P w.lots.1 : Int) > 0) = False := eq_false (by omega)
  simp only [fk,f0,↓imp_ft,↓imp_ff,↓reduceIte,reduceCtorEq,Nat.reduceEqDiff,Nat.reduceAdd,go_sem]
  refine inv_intro (h + 1) (hgo fun j hj => (hlP j).trans (cnt_0 hz j hj)) (by omega) ?_
  simp only [↓reduceIte,reduceCtorEq,Nat.reduceEqDiff,Nat.reduceLT,go_sem]
  exact wrS (by omega)
 ·have f0 : ((cntN P w.lots.1 : Int) > 0) = True := eq_true (by omega)
  obtain ⟨a1,a2⟩ := selN_lt (p := P) (n := w.lots.1) (j := 0) (by omega)
  rw [hno ⟨_,a1,(hlP _).trans a2⟩,if_neg (by decide)]
  simp only [fk,f0,↓imp_tt,↓imp_tf,↓imp_ft,↓imp_ff,↓reduceIte,reduceCtorEq,Nat.reduceEqDiff,Nat.reduceAdd,go_sem]
end Go.Proofs.Ytlapepdhkomijaa
namespace Go.Proofs.Ytlapepdhkomijaa
open Go Go.RowKit
variable {G : Nat → Option (Nat × (Nat → Val))}
noncomputable def sSameLs : Spec := spec2 (TSl (RSl (RInt .i64))) (TSl (RSl (RInt .i64))) (fun _ _ => True) fun a b => .bool (decP (a.1 = b.1 ∧ ∀ i,i < a.1 → sameB (a.2 i) (b.2 i) = true))
set_option maxHeartbeats 4000000 in
set_option maxRecDepth 100000 in
theorem pSameLs : PureOk Try.prog G 28 sSameLs := by
 refine fn2 (S := [(22,sSameI)]) (I := []) mixed (.cons pSameI .nil) .nil Try.func28 c28 fun a b _ hw => ?_
 simp only [Nat.reduceSub,Nat.reducePow,go_sem] at hw
 simp only [RunTo,a28,sSameI,hw,↓reduceIte,reduceCtorEq,Nat.reduceEqDiff,Nat.reduceSub,Nat.reducePow,go_sem]
 refine ⟨fun h => (decP_f fun k => h (by omega)).symm,fun h => ?_⟩
 refine loopI (ι := Nat) (fun j => j ≤ a.1 ∧ ∀ i,i < j → sameB (a.2 i) (b.2 i) = true) (fun j => a.1 - j) [0,1] (fun j => [(5,.int .i64 j)]) (fun _ => []) 0 ⟨by omega,fun i h => by omega⟩ (by simp only [↓reduceIte,reduceCtorEq,Nat.reduceEqDiff,go_sem]; try rfl) fun j hj => ?_
 obtain ⟨hj1,hj2⟩ := hj
 simp only [hw,↓reduceIte,reduceCtorEq,Nat.reduceEqDiff,Nat.reduceSub,Nat.reducePow,go_sem]
 refine ⟨fun hlt => ⟨by omega,by omega,by omega,by omega,fun h1 => (decP_f fun k => ?_).symm,fun h1 => inv_intro (j + 1) ⟨by omega,fun i hi => ?_⟩ (by omega) ?_⟩,fun hge => ?_⟩
 ·have := k.2 j (by omega); rw [h1] at this; cases this
 ·rcases Nat.lt_or_ge i j with h5 | h5
  ·exact hj2 i h5
  ·obtain rfl : i = j := by omega
   exact h1
 ·simp only [↓reduceIte,reduceCtorEq,Nat.reduceEqDiff,go_sem]
  rw [wrS (by omega)]
 ·exact (decP_t ⟨by omega,fun i hi => hj2 i (by omega)⟩).symm
end Go.Proofs.Ytlapepdhkomijaa
