/- Palms, the program: things named by their indices. No condition but bounds. -/
import Derived.Test.YtlapepdhkomijaaPCov
set_option linter.unusedSimpArgs false
set_option linter.unusedVariables false
namespace Go.Proofs.Ytlapepdhkomijaa
open Go Go.RowKit
variable {G : Nat → Option (Nat × (Nat → Val))}
noncomputable def nmV (l : Ints) (n : Nat) : Val := if idxB l n = true then .tup (.cons (.view 1 n fun a _ => .bool (hasL l a)) (.cons (.bool true) .nil)) else .tup (.cons (.view 1 0 fun _ _ => .bool false) (.cons (.bool false) .nil))
def lastI (l : Ints) (j : Nat) : Int := if j = 0 then -1 else l.2 (j - 1)
noncomputable def hasJ (l : Ints) (j : Nat) (a : Nat) : Bool := decP (∃ k,k < j ∧ l.2 k = (a : Int))
theorem hasJ_s {l : Ints} {j a : Nat} : hasJ l (j + 1) a = if l.2 j = (a : Int) then true else hasJ l j a := by
 by_cases e : l.2 j = (a : Int)
 ·rw [if_pos e]; exact decP_t ⟨j,by omega,e⟩
 ·rw [if_neg e,Bool.eq_iff_iff]
  unfold hasJ
  rw [decP_true,decP_true]
  constructor
  ·rintro ⟨k,hk,ek⟩
   exact ⟨k,by rcases Nat.eq_or_lt_of_le (Nat.le_of_lt_succ hk) with q | q; subst q; exact absurd ek e; exact q,ek⟩
  ·rintro ⟨k,hk,ek⟩
   exact ⟨k,by omega,ek⟩
theorem idx_upto {l : Ints} {n : Int} {j : Nat} (h : ∀ i,i < j → 0 ≤ l.2 i ∧ l.2 i < n ∧ (0 < i → l.2 (i - 1) < l.2 i)) (hl : lastI l j < l.2 j) (hn : l.2 j < n) : ∀ i,i < j + 1 → 0 ≤ l.2 i ∧ l.2 i < n ∧ (0 < i → l.2 (i - 1) < l.2 i) := by
 intro i hi
 by_cases e : i = j
 ·subst e
  unfold lastI at hl
  split at hl
  ·exact ⟨by omega,hn,fun q => by omega⟩
  ·have := h (i - 1) (by omega)
   exact ⟨by omega,hn,fun _ => hl⟩
 ·exact h i (by omega)
theorem idx_not {l : Ints} {n : Int} {j : Nat} (hj : j < l.1) (h : l.2 j ≤ lastI l j ∨ n ≤ l.2 j) : idxB l n = false := decP_f fun q => by
 obtain ⟨a,b,c⟩ := q j hj
 unfold lastI at h
 split at h
 ·omega
 ·have := c (by omega); omega
noncomputable def sNmdS : Spec := spec2 (TSl RSp) (TSl (RInt .i64)) (fun x _ => x.1 ≤ 1000) fun x l => nmV l x.1
set_option maxHeartbeats 4000000 in
set_option maxRecDepth 100000 in
theorem pNmdS : PureOk Try.prog G 70 sNmdS := by
 refine fn2 (S := []) (I := []) mixed .nil .nil Try.func70 c70 fun x l hp hw => ?_
 simp only [Nat.reduceSub,Nat.reducePow,TSl,RInt,RSp,Sp.d,go_sem] at hw
 simp only [RunTo,a70,hw,↓reduceIte,reduceCtorEq,Nat.reduceEqDiff,Nat.reduceSub,Nat.reduceLT,Int.reduceNeg,Nat.reducePow,TSl,RInt,RSp,Sp.d,go_sem]
 refine ⟨by omega,by omega,by omega,?_⟩
 refine loopI (ι := Nat) (fun j => j ≤ l.1 ∧ ∀ i,i < j → 0 ≤ l.2 i ∧ l.2 i < x.1 ∧ (0 < i → l.2 (i - 1) < l.2 i)) (fun j => l.1 - j) [0,6,13,14] (fun j => [(15,.int .i64 j),(7,.int .i64 (lastI l j))]) (fun j => [(0,.row 4 1 x.1 fun a _ => .bool (hasJ l j a))]) 0 ⟨Nat.zero_le _,fun _ h => absurd h (Nat.not_lt_zero _)⟩ (by
  simp only [lastI,↓reduceIte,reduceCtorEq,Nat.reduceEqDiff,Nat.reduceLT,Int.reduceNeg,go_sem]
  intro a ha b hb
  obtain rfl : b = 0 := by omega
  have : hasJ l 0 a = false := decP_f fun ⟨k,hk,_⟩ => absurd hk (Nat.not_lt_zero _)
  simp [vget,this]) fun j hj => ?_
 obtain ⟨hj1,hj2⟩ := hj
 by_cases hjl : j < l.1
 ·have fj : ((j : Int) < (l.1 : Int)) = True := eq_true (by omega)
  by_cases q1 : l.2 j ≤ lastI l j
  ·have f1 : (l.2 j ≤ lastI l j) = True := eq_true q1
   unfold nmV
   rw [idx_not hjl (.inl q1),if_neg (by decide)]
   simp only [fj,f1,↓imp_tt,↓imp_tf,↓reduceIte,reduceCtorEq,Nat.reduceEqDiff,Nat.reduceAdd,go_sem]
   omega
  ·have f1 : (l.2 j ≤ lastI l j) = False := eq_false q1
   by_cases q2 : l.2 j ≥ (x.1 : Int)
   ·have f2 : (l.2 j ≥ (x.1 : Int)) = True := eq_true q2
    unfold nmV
    rw [idx_not hjl (.inr q2),if_neg (by decide)]
    simp only [fj,f1,f2,hw,↓imp_tt,↓imp_tf,↓imp_ft,↓imp_ff,↓reduceIte,reduceCtorEq,Nat.reduceEqDiff,Nat.reduceAdd,Nat.reduceSub,Nat.reducePow,go_sem]
    omega
   ·have f2 : (l.2 j ≥ (x.1 : Int)) = False := eq_false q2
    have hup := idx_upto hj2 (by omega) (by omega)
    have h0 := (hup j (by omega)).1
    simp only [fj,f1,f2,hw,↓imp_tt,↓imp_tf,↓imp_ft,↓imp_ff,↓reduceIte,reduceCtorEq,Nat.reduceEqDiff,Nat.reduceSub,Nat.reducePow,go_sem]
    refine ⟨by omega,h0,by omega,inv_intro (j + 1) ⟨hjl,hup⟩ (by omega) ?_⟩
    have el : lastI l (j + 1) = l.2 j := by simp [lastI]
    simp only [el,↓reduceIte,reduceCtorEq,Nat.reduceEqDiff,Nat.reduceLT,go_sem]
    refine ⟨wrS (by omega),fun a ha b hb => ?_⟩
    obtain rfl : b = 0 := by omega
    rw [hasJ_s]
    by_cases e : a = (l.2 j).toNat
    ·rw [if_pos ⟨e,Nat.le_refl _,Nat.one_pos⟩,if_pos (by omega)]; rfl
    ·rw [if_neg (fun q => e q.1),if_neg (by omega)]
 have fj : ((j : Int) < (l.1 : Int)) = False := eq_false (by omega)
 obtain rfl : j = l.1 := by omega
 have hi : idxB l x.1 = true := decP_t hj2
 unfold nmV
 rw [if_pos hi]
 simp only [fj,↓imp_ft,↓imp_ff,↓reduceIte,reduceCtorEq,Nat.reduceEqDiff,Nat.reduceAdd,go_sem]
 exact fun _ _ _ _ => rfl
noncomputable def sNmdH : Spec := spec2 (TSl (RInt .i64)) (TSl (RInt .i64)) (fun x _ => x.1 ≤ 1000) fun x l => nmV l x.1
set_option maxHeartbeats 4000000 in
set_option maxRecDepth 100000 in
theorem pNmdH : PureOk Try.prog G 71 sNmdH := by
 refine fn2 (S := []) (I := []) mixed .nil .nil Try.func71 c71 fun x l hp hw => ?_
 simp only [Nat.reduceSub,Nat.reducePow,TSl,RInt,go_sem] at hw
 simp only [RunTo,a71,hw,↓reduceIte,reduceCtorEq,Nat.reduceEqDiff,Nat.reduceSub,Nat.reduceLT,Int.reduceNeg,Nat.reducePow,TSl,RInt,go_sem]
 refine ⟨by omega,by omega,by omega,?_⟩
 refine loopI (ι := Nat) (fun j => j ≤ l.1 ∧ ∀ i,i < j → 0 ≤ l.2 i ∧ l.2 i < x.1 ∧ (0 < i → l.2 (i - 1) < l.2 i)) (fun j => l.1 - j) [0,6,13,14] (fun j => [(15,.int .i64 j),(7,.int .i64 (lastI l j))]) (fun j => [(0,.row 4 1 x.1 fun a _ => .bool (hasJ l j a))]) 0 ⟨Nat.zero_le _,fun _ h => absurd h (Nat.not_lt_zero _)⟩ (by
  simp only [lastI,↓reduceIte,reduceCtorEq,Nat.reduceEqDiff,Nat.reduceLT,Int.reduceNeg,go_sem]
  intro a ha b hb
  obtain rfl : b = 0 := by omega
  have : hasJ l 0 a = false := decP_f fun ⟨k,hk,_⟩ => absurd hk (Nat.not_lt_zero _)
  simp [vget,this]) fun j hj => ?_
 obtain ⟨hj1,hj2⟩ := hj
 by_cases hjl : j < l.1
 ·have fj : ((j : Int) < (l.1 : Int)) = True := eq_true (by omega)
  by_cases q1 : l.2 j ≤ lastI l j
  ·have f1 : (l.2 j ≤ lastI l j) = True := eq_true q1
   unfold nmV
   rw [idx_not hjl (.inl q1),if_neg (by decide)]
   simp only [fj,f1,↓imp_tt,↓imp_tf,↓reduceIte,reduceCtorEq,Nat.reduceEqDiff,Nat.reduceAdd,go_sem]
   omega
  ·have f1 : (l.2 j ≤ lastI l j) = False := eq_false q1
   by_cases q2 : l.2 j ≥ (x.1 : Int)
   ·have f2 : (l.2 j ≥ (x.1 : Int)) = True := eq_true q2
    unfold nmV
    rw [idx_not hjl (.inr q2),if_neg (by decide)]
    simp only [fj,f1,f2,hw,↓imp_tt,↓imp_tf,↓imp_ft,↓imp_ff,↓reduceIte,reduceCtorEq,Nat.reduceEqDiff,Nat.reduceAdd,Nat.reduceSub,Nat.reducePow,go_sem]
    omega
   ·have f2 : (l.2 j ≥ (x.1 : Int)) = False := eq_false q2
    have hup := idx_upto hj2 (by omega) (by omega)
    have h0 := (hup j (by omega)).1
    simp only [fj,f1,f2,hw,↓imp_tt,↓imp_tf,↓imp_ft,↓imp_ff,↓reduceIte,reduceCtorEq,Nat.reduceEqDiff,Nat.reduceSub,Nat.reducePow,go_sem]
    refine ⟨by omega,h0,by omega,inv_intro (j + 1) ⟨hjl,hup⟩ (by omega) ?_⟩
    have el : lastI l (j + 1) = l.2 j := by simp [lastI]
    simp only [el,↓reduceIte,reduceCtorEq,Nat.reduceEqDiff,Nat.reduceLT,go_sem]
    refine ⟨wrS (by omega),fun a ha b hb => ?_⟩
    obtain rfl : b = 0 := by omega
    rw [hasJ_s]
    by_cases e : a = (l.2 j).toNat
    ·rw [if_pos ⟨e,Nat.le_refl _,Nat.one_pos⟩,if_pos (by omega)]; rfl
    ·rw [if_neg (fun q => e q.1),if_neg (by omega)]
 have fj : ((j : Int) < (l.1 : Int)) = False := eq_false (by omega)
 obtain rfl : j = l.1 := by omega
 have hi : idxB l x.1 = true := decP_t hj2
 unfold nmV
 rw [if_pos hi]
 simp only [fj,↓imp_ft,↓imp_ff,↓reduceIte,reduceCtorEq,Nat.reduceEqDiff,Nat.reduceAdd,go_sem]
 exact fun _ _ _ _ => rfl
noncomputable def sNmdL : Spec := spec2 (TSl RLt) (TSl (RInt .i64)) (fun x _ => x.1 ≤ 1000) fun x l => nmV l x.1
set_option maxHeartbeats 4000000 in
set_option maxRecDepth 100000 in
theorem pNmdL : PureOk Try.prog G 72 sNmdL := by
 refine fn2 (S := []) (I := []) mixed .nil .nil Try.func72 c72 fun x l hp hw => ?_
 simp only [Nat.reduceSub,Nat.reducePow,TSl,RInt,RLt,Lt.d,go_sem] at hw
 simp only [RunTo,a72,hw,↓reduceIte,reduceCtorEq,Nat.reduceEqDiff,Nat.reduceSub,Nat.reduceLT,Int.reduceNeg,Nat.reducePow,TSl,RInt,RLt,Lt.d,go_sem]
 refine ⟨by omega,by omega,by omega,?_⟩
 refine loopI (ι := Nat) (fun j => j ≤ l.1 ∧ ∀ i,i < j → 0 ≤ l.2 i ∧ l.2 i < x.1 ∧ (0 < i → l.2 (i - 1) < l.2 i)) (fun j => l.1 - j) [0,6,13,14] (fun j => [(15,.int .i64 j),(7,.int .i64 (lastI l j))]) (fun j => [(0,.row 4 1 x.1 fun a _ => .bool (hasJ l j a))]) 0 ⟨Nat.zero_le _,fun _ h => absurd h (Nat.not_lt_zero _)⟩ (by
  simp only [lastI,↓reduceIte,reduceCtorEq,Nat.reduceEqDiff,Nat.reduceLT,Int.reduceNeg,go_sem]
  intro a ha b hb
  obtain rfl : b = 0 := by omega
  have : hasJ l 0 a = false := decP_f fun ⟨k,hk,_⟩ => absurd hk (Nat.not_lt_zero _)
  simp [vget,this]) fun j hj => ?_
 obtain ⟨hj1,hj2⟩ := hj
 by_cases hjl : j < l.1
 ·have fj : ((j : Int) < (l.1 : Int)) = True := eq_true (by omega)
  by_cases q1 : l.2 j ≤ lastI l j
  ·have f1 : (l.2 j ≤ lastI l j) = True := eq_true q1
   unfold nmV
   rw [idx_not hjl (.inl q1),if_neg (by decide)]
   simp only [fj,f1,↓imp_tt,↓imp_tf,↓reduceIte,reduceCtorEq,Nat.reduceEqDiff,Nat.reduceAdd,go_sem]
   omega
  ·have f1 : (l.2 j ≤ lastI l j) = False := eq_false q1
   by_cases q2 : l.2 j ≥ (x.1 : Int)
   ·have f2 : (l.2 j ≥ (x.1 : Int)) = True := eq_true q2
    unfold nmV
    rw [idx_not hjl (.inr q2),if_neg (by decide)]
    simp only [fj,f1,f2,hw,↓imp_tt,↓imp_tf,↓imp_ft,↓imp_ff,↓reduceIte,reduceCtorEq,Nat.reduceEqDiff,Nat.reduceAdd,Nat.reduceSub,Nat.reducePow,go_sem]
    omega
   ·have f2 : (l.2 j ≥ (x.1 : Int)) = False := eq_false q2
    have hup := idx_upto hj2 (by omega) (by omega)
    have h0 := (hup j (by omega)).1
    simp only [fj,f1,f2,hw,↓imp_tt,↓imp_tf,↓imp_ft,↓imp_ff,↓reduceIte,reduceCtorEq,Nat.reduceEqDiff,Nat.reduceSub,Nat.reducePow,go_sem]
    refine ⟨by omega,h0,by omega,inv_intro (j + 1) ⟨hjl,hup⟩ (by omega) ?_⟩
    have el : lastI l (j + 1) = l.2 j := by simp [lastI]
    simp only [el,↓reduceIte,reduceCtorEq,Nat.reduceEqDiff,Nat.reduceLT,go_sem]
    refine ⟨wrS (by omega),fun a ha b hb => ?_⟩
    obtain rfl : b = 0 := by omega
    rw [hasJ_s]
    by_cases e : a = (l.2 j).toNat
    ·rw [if_pos ⟨e,Nat.le_refl _,Nat.one_pos⟩,if_pos (by omega)]; rfl
    ·rw [if_neg (fun q => e q.1),if_neg (by omega)]
 have fj : ((j : Int) < (l.1 : Int)) = False := eq_false (by omega)
 obtain rfl : j = l.1 := by omega
 have hi : idxB l x.1 = true := decP_t hj2
 unfold nmV
 rw [if_pos hi]
 simp only [fj,↓imp_ft,↓imp_ff,↓reduceIte,reduceCtorEq,Nat.reduceEqDiff,Nat.reduceAdd,go_sem]
 exact fun _ _ _ _ => rfl
end Go.Proofs.Ytlapepdhkomijaa
