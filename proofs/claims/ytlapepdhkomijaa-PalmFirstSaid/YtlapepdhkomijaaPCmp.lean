/- Palms, the reference: comparisons. No condition. -/
import Derived.Test.YtlapepdhkomijaaPFlw
import Derived.Test.YtlapepdhkomijaaPNet2
import Derived.Test.YtlapepdhkomijaaPEdg2
import Derived.Test.YtlapepdhkomijaaACode1
set_option linter.unusedSimpArgs false
set_option linter.unusedVariables false
namespace Go.Proofs.Ytlapepdhkomijaa
open Go Go.RowKit
variable {G : Nat → Option (Nat × (Nat → Val))}
noncomputable def sSameI : Spec := spec2 (TSl (RInt .i64)) (TSl (RInt .i64)) (fun _ _ => True) fun a b => .bool (sameB a b)
set_option maxRecDepth 100000 in
theorem pSameI : PureOk Try.prog G 22 sSameI := by
 refine fn2 (S := []) (I := []) mixed .nil .nil Try.func22 c22 fun a b _ hw => ?_
 simp only [Nat.reduceSub,Nat.reducePow,go_sem] at hw
 obtain ⟨w1,w2⟩ := hw
 simp only [RunTo,a22,w1,w2,↓reduceIte,reduceCtorEq,Nat.reduceEqDiff,Nat.reduceSub,Nat.reducePow,go_sem]
 refine ⟨fun h => (decP_f fun k => h (by omega)).symm,fun h => ?_⟩
 refine loopI (ι := Nat) (fun j => j ≤ a.1 ∧ ∀ i,i < j → a.2 i = b.2 i) (fun j => a.1 - j) [0,1] (fun j => [(5,.int .i64 j)]) (fun _ => []) 0 ⟨by omega,fun i h => by omega⟩ (by simp only [↓reduceIte,reduceCtorEq,Nat.reduceEqDiff,go_sem]; try rfl) fun j hj => ?_
 obtain ⟨hj1,hj2⟩ := hj
 simp only [w1,↓reduceIte,reduceCtorEq,Nat.reduceEqDiff,Nat.reduceSub,Nat.reducePow,go_sem]
 refine ⟨fun hlt => ⟨by omega,by omega,by omega,by omega,fun h1 => (decP_f fun k => ?_).symm,fun h1 => inv_intro (j + 1) ⟨by omega,fun i hi => ?_⟩ (by omega) ?_⟩,fun hge => ?_⟩
 ·exact h1 (k.2 j (by omega))
 ·rcases Nat.lt_or_ge i j with h5 | h5
  ·exact hj2 i h5
  ·obtain rfl : i = j := by omega
   exact h1
 ·simp only [↓reduceIte,reduceCtorEq,Nat.reduceEqDiff,go_sem]
  rw [wrS (by omega)]
 ·exact (decP_t ⟨by omega,fun i hi => hj2 i (by omega)⟩).symm
theorem duEq {a b : Du} : (a.spathe == b.spathe && (a.hour == b.hour && a.lot == b.lot)) = true ↔ a = b := by
 obtain ⟨a1,a2,a3⟩ := a; obtain ⟨b1,b2,b3⟩ := b; simp
noncomputable def sSameDu : Spec := spec2 (TSl RDu) (TSl RDu) (fun _ _ => True) fun a b => .bool (sameB a b)
set_option maxRecDepth 100000 in
theorem pSameDu : PureOk Try.prog G 29 sSameDu := by
 refine fn2 (S := []) (I := []) mixed .nil .nil Try.func29 c29 fun a b _ hw => ?_
 simp only [Nat.reduceSub,Nat.reducePow,go_sem] at hw
 obtain ⟨w1,w2⟩ := hw
 simp only [RunTo,a29,w1,w2,↓reduceIte,reduceCtorEq,Nat.reduceEqDiff,Nat.reduceSub,Nat.reducePow,go_sem]
 refine ⟨fun h => (decP_f fun k => h (by omega)).symm,fun h => ?_⟩
 refine loopI (ι := Nat) (fun j => j ≤ a.1 ∧ ∀ i,i < j → a.2 i = b.2 i) (fun j => a.1 - j) [0,1] (fun j => [(5,.int .i64 j)]) (fun _ => []) 0 ⟨by omega,fun i h => by omega⟩ (by simp only [↓reduceIte,reduceCtorEq,Nat.reduceEqDiff,go_sem]; try rfl) fun j hj => ?_
 obtain ⟨hj1,hj2⟩ := hj
 simp only [w1,↓reduceIte,reduceCtorEq,Nat.reduceEqDiff,Nat.reduceAdd,Nat.reduceSub,Nat.reducePow,go_sem]
 refine ⟨fun hlt => ⟨by omega,by omega,by omega,by omega,fun h1 => (decP_f fun k => ?_).symm,fun h1 => inv_intro (j + 1) ⟨by omega,fun i hi => ?_⟩ (by omega) ?_⟩,fun hge => ?_⟩
 ·rw [k.2 j (by omega)] at h1; simp at h1
 ·rcases Nat.lt_or_ge i j with h5 | h5
  ·exact hj2 i h5
  ·obtain rfl : i = j := by omega
   exact duEq.1 h1
 ·simp only [↓reduceIte,reduceCtorEq,Nat.reduceEqDiff,go_sem]
  rw [wrS (by omega)]
 ·exact (decP_t ⟨by omega,fun i hi => hj2 i (by omega)⟩).symm
noncomputable def sHas : Spec := spec2 (TSl (RInt .i64)) TI (fun _ _ => True) fun l n => .bool (decP (∃ i,i < l.1 ∧ l.2 i = n))
set_option maxRecDepth 100000 in
theorem pHas : PureOk Try.prog G 76 sHas := by
 refine fn2 (S := []) (I := []) mixed .nil .nil Try.func76 c76 fun l n _ hw => ?_
 simp only [Nat.reduceSub,Nat.reducePow,go_sem] at hw
 simp only [RunTo,a76,go_sem]
 refine loopI (ι := Nat) (fun j => j ≤ l.1 ∧ ∀ i,i < j → l.2 i ≠ n) (fun j => l.1 - j) [0,1] (fun j => [(5,.int .i64 j)]) (fun _ => []) 0 ⟨by omega,fun i h => by omega⟩ (by simp only [↓reduceIte,reduceCtorEq,Nat.reduceEqDiff,go_sem]; try rfl) fun j hj => ?_
 obtain ⟨hj1,hj2⟩ := hj
 simp only [hw,↓reduceIte,reduceCtorEq,Nat.reduceEqDiff,Nat.reduceSub,Nat.reducePow,go_sem]
 refine ⟨fun hlt => ⟨by omega,by omega,fun h1 => (decP_t ⟨j,by omega,h1⟩).symm,fun h1 => inv_intro (j + 1) ⟨by omega,fun i hi => ?_⟩ (by omega) ?_⟩,fun hge => (decP_f ?_).symm⟩
 ·rcases Nat.lt_or_ge i j with h5 | h5
  ·exact hj2 i h5
  ·obtain rfl : i = j := by omega
   exact h1
 ·simp only [↓reduceIte,reduceCtorEq,Nat.reduceEqDiff,go_sem]
  rw [wrS (by omega)]
 ·rintro ⟨i,h1,h2⟩
  exact hj2 i (by omega) h2
end Go.Proofs.Ytlapepdhkomijaa
namespace Go.Proofs.Ytlapepdhkomijaa
open Go Go.RowKit
variable {G : Nat → Option (Nat × (Nat → Val))}
noncomputable def sGreat7 : Spec := spec2 (TSl RPm) TWk (fun _ _ => True) fun l w => .bool (decP (l.1 > 30 ∨ w.spathes.1 > 12 ∨ w.hours.1 > 20 ∨ w.lots.1 > 8))
set_option maxRecDepth 100000 in
theorem pGreat7 : PureOk Try.prog G 14 sGreat7 := by
 refine fn2 (S := []) (I := []) mixed .nil .nil Try.func14 c14 fun l w _ hw => ?_
 simp only [Nat.reduceSub,Nat.reducePow,go_sem] at hw
 simp only [RunTo,a14,hw,↓imp_tt,↓imp_tf,↓reduceIte,reduceCtorEq,Nat.reduceEqDiff,Nat.reduceAdd,Nat.reduceSub,Nat.reduceLeDiff,Nat.reducePow,go_sem]
 repeat' (first | omega | (with_reducible apply And.intro) | intro _)
 all_goals first
  | exact (decP_t (by omega)).symm
  | exact (decP_f (by omega)).symm
  | (rw [Bool.eq_iff_iff,decP_true]; simp; omega)
noncomputable def sSameCv : Spec := spec2 TCv TCv (fun _ _ => True) fun a b => .bool (sameB a.spathes b.spathes && (sameB a.hours b.hours && sameB a.lots b.lots))
set_option maxRecDepth 100000 in
theorem pSameCv : PureOk Try.prog G 35 sSameCv := by
 refine fn2 (S := [(22,sSameI)]) (I := []) mixed (.cons pSameI .nil) .nil Try.func35 c35 fun a b _ hw => ?_
 simp only [Nat.reduceSub,Nat.reducePow,go_sem] at hw
 simp only [RunTo,a35,sSameI,hw,↓imp_ft,↓imp_ff,↓reduceIte,reduceCtorEq,Nat.reduceEqDiff,Nat.reduceAdd,Nat.reduceSub,Nat.reduceLeDiff,Nat.reducePow,go_sem]
 cases sameB a.spathes b.spathes <;> cases sameB a.hours b.hours <;> cases sameB a.lots b.lots <;> simp
noncomputable def idxB (l : Ints) (n : Int) : Bool := decP (∀ i,i < l.1 → 0 ≤ l.2 i ∧ l.2 i < n ∧ (0 < i → l.2 (i - 1) < l.2 i))
noncomputable def sIndices : Spec := spec2 (TSl (RInt .i64)) TI (fun _ n => 0 ≤ n ∧ n ≤ 1000) fun l n => .bool (idxB l n)
set_option maxRecDepth 100000 in
theorem pIndices : PureOk Try.prog G 75 sIndices := by
  refine fn2 (S := [(52,sIn)]) (I := []) mixed (.cons pWithin7 .nil) .nil Try.func75 c75 fun l n hp hw => ?_
  simp only [Nat.reduceSub,Nat.reducePow,go_sem] at hw
  have en : IntKind.i64.wrap (n - 1) = n - 1 := wr64 (by omega) (by omega)
  simp only [RunTo,a75,sIn,go_sem]
  refine loopI (ι := Nat) (fun j => j ≤ l.1 ∧ ∀ i,i < j → 0 ≤ l.2 i ∧ l.2 i < n ∧ (0 < i → l.2 (i - 1) < l.2 i)) (fun j => l.1 - j) [0,1] (fun j => [(5,.int .i64 j)]) (fun _ => []) 0 ⟨by omega,fun i h => by omega⟩ (by simp only [↓reduceIte,reduceCtorEq,Nat.reduceEqDiff,go_sem]; try rfl) fun j hj => ?_
  obtain ⟨hj1,hj2⟩ := hj
  have e1 : IntKind.i64.wrap ((j : Int) - 1) = (j : Int) - 1 := wr64 (by omega) (by omega)
  have e2 : ((j : Int) - 1).toNat = j - 1 := by omega
  simp only [hw,en,e1,e2,↓imp_tt,↓imp_tf,↓imp_ft,↓imp_ff,↓reduceIte,reduceCtorEq,Nat.reduceEqDiff,Nat.reduceSub,Nat.reducePow,go_sem]
  have hno : ∀ k : ¬ (0 ≤ l.2 j ∧ l.2 j < n ∧ (0 < j → l.2 (j - 1) < l.2 j)),j < l.1 → false = idxB l n := fun k hj => (decP_f fun h => k (h j hj)).symm
  repeat' (first | omega | (with_reducible apply And.intro) | intro _)
  all_goals first
    | (refine hno (fun k => ?_) (by omega)
       obtain ⟨k1,k3,k2⟩ := k
       try have k2 := k2 (by omega)
       omega)
    | (refine inv_intro (j + 1) ⟨by omega,fun i hi => ?_⟩ (by omega) ?_
       · rcases Nat.lt_or_ge i j with h5 | h5
         · exact hj2 i h5
         · obtain rfl : i = j := by omega
           exact ⟨by omega,by omega,fun _ => by omega⟩
       · simp only [↓reduceIte,reduceCtorEq,Nat.reduceEqDiff,go_sem]
         rw [wrS (by omega)])
    | exact (decP_t fun i hi => hj2 i (by omega)).symm
end Go.Proofs.Ytlapepdhkomijaa
namespace Go.Proofs.Ytlapepdhkomijaa
open Go Go.RowKit
variable {G : Nat → Option (Nat × (Nat → Val))}
noncomputable def hasL (l : Ints) (n : Int) : Bool := decP (∃ i,i < l.1 ∧ l.2 i = n)
theorem hasL_t {l : Ints} {n : Int} : hasL l n = true ↔ ∃ i,i < l.1 ∧ l.2 i = n := decP_true
noncomputable def lefB (w : Wk) (c : Cv) (i h j : Nat) : Bool := takesF w i h && (goodF w h j && (!hasL c.spathes i && (!hasL c.hours h && !hasL c.lots j)))
noncomputable def covB (w : Wk) (c : Cv) : Bool := idxB c.spathes w.spathes.1 && (idxB c.hours w.hours.1 && (idxB c.lots w.lots.1 && decP (∀ i,i < w.spathes.1 → ∀ h,h < w.hours.1 → ∀ j,j < w.lots.1 → lefB w c i h j = false)))
noncomputable def sCovers : Spec := spec2 TWk TCv (fun w _ => WkB w) fun w c => .bool (covB w c)
theorem idx_at {l : Ints} {n : Int} (h : idxB l n = true) : ∀ i,i < l.1 → 0 ≤ l.2 i ∧ l.2 i < n ∧ (0 < i → l.2 (i - 1) < l.2 i) := decP_true.1 h
theorem idx_ge {l : Ints} {n : Int} (h : idxB l n = true) : ∀ i,i < l.1 → (i : Int) ≤ l.2 i := by
 intro i; induction i with
 | zero => intro hi; exact (idx_at h 0 hi).1
 | succ i ih =>
  intro hi
  have h1 := ih (by omega)
  have h2 := (idx_at h (i + 1) hi).2.2 (by omega)
  have : i + 1 - 1 = i := by omega
  rw [this] at h2
  omega
theorem idx_len {l : Ints} {n : Nat} (h : idxB l n = true) : l.1 ≤ n := by
 rcases Nat.eq_zero_or_pos l.1 with e | e
 ·omega
 ·have h1 := idx_ge h (l.1 - 1) (by omega)
  have h2 := (idx_at h (l.1 - 1) (by omega)).2.1
  omega
noncomputable def sumU (w : Wk) (l : Ints) (n : Nat) : Int := sumN (fun i => if hasL l i = true then (w.lots.2 i).units else 0) n
theorem sumU_le {w : Wk} {l : Ints} (hb : WkB w) : ∀ k,k ≤ w.lots.1 → 0 ≤ sumU w l k ∧ sumU w l k ≤ 100 * k := by
 intro k; induction k with
 | zero => intro _; exact ⟨Int.le_refl _,Int.le_refl _⟩
 | succ k ih =>
  intro hk
  obtain ⟨a,b⟩ := ih (by omega)
  have := hb.u k (by omega)
  have e : sumU w l (k + 1) = sumU w l k + if hasL l k = true then (w.lots.2 k).units else 0 := rfl
  split at e <;> omega
set_option maxHeartbeats 4000000 in
set_option maxRecDepth 100000 in
theorem pCovers : PureOk Try.prog G 41 sCovers := by
  refine fn2 (S := [(75,sIndices),(56,sTakes),(69,sGood),(76,sHas)]) (I := []) mixed (.cons pIndices (.cons pTakesR (.cons pGoodR (.cons pHas .nil)))) .nil Try.func41 c41 fun w c hb hw => ?_
  simp only [Nat.reduceSub,Nat.reducePow,go_sem] at hw
  have hbt : WkB w = True := eq_true hb
  have hS := hb.s
  have hH := hb.h
  have hL := hb.l
  have b0 : (0 ≤ (w.spathes.1 : Int) ∧ (w.spathes.1 : Int) ≤ 1000) = True := eq_true (by omega)
  have b1 : (0 ≤ (w.hours.1 : Int) ∧ (w.hours.1 : Int) ≤ 1000) = True := eq_true (by omega)
  have b2 : (0 ≤ (w.lots.1 : Int) ∧ (w.lots.1 : Int) ≤ 1000) = True := eq_true (by omega)
  unfold covB
  cases x1 : idxB c.spathes w.spathes.1
  · simp only [RunTo,a41,sIndices,b0,x1,hw,↓imp_tt,↓imp_tf,↓reduceIte,reduceCtorEq,Nat.reduceEqDiff,Nat.reduceAdd,Nat.reduceSub,Nat.reduceLeDiff,Nat.reducePow,go_sem]
  cases x2 : idxB c.hours w.hours.1
  · simp only [RunTo,a41,sIndices,b0,b1,x1,x2,hw,↓imp_tt,↓imp_tf,↓imp_ft,↓imp_ff,↓reduceIte,reduceCtorEq,Nat.reduceEqDiff,Nat.reduceAdd,Nat.reduceSub,Nat.reduceLeDiff,Nat.reducePow,go_sem]
  cases x3 : idxB c.lots w.lots.1
  · simp only [RunTo,a41,sIndices,b0,b1,b2,x1,x2,x3,hw,↓imp_tt,↓imp_tf,↓imp_ft,↓imp_ff,↓reduceIte,reduceCtorEq,Nat.reduceEqDiff,Nat.reduceAdd,Nat.reduceSub,Nat.reduceLeDiff,Nat.reducePow,go_sem]
  simp only [RunTo,a41,sIndices,b0,b1,b2,x1,x2,x3,hw,↓imp_ft,↓imp_ff,↓reduceIte,reduceCtorEq,Nat.reduceEqDiff,Nat.reduceAdd,Nat.reduceSub,Nat.reduceLeDiff,Nat.reducePow,go_sem]
  refine loopI (ι := Nat) (fun i => i ≤ w.spathes.1 ∧ ∀ i',i' < i → ∀ h,h < w.hours.1 → ∀ j,j < w.lots.1 → lefB w c i' h j = false) (fun i => w.spathes.1 - i) [2,3] (fun i => [(5,.int .i64 i)]) (fun _ => []) 0 ⟨Nat.zero_le _,fun _ h => absurd h (Nat.not_lt_zero _)⟩ (by simp only [↓reduceIte,reduceCtorEq,Nat.reduceEqDiff,Nat.reduceLT,go_sem]) fun i hi => ?_
  obtain ⟨hi1,hi2⟩ := hi
  by_cases hil : ¬ i < w.spathes.1
  · have fi : ((i : Int) < (w.spathes.1 : Int)) = False := eq_false (by omega)
    obtain rfl : i = w.spathes.1 := by omega
    have e : decP (∀ i,i < w.spathes.1 → ∀ h,h < w.hours.1 → ∀ j,j < w.lots.1 → lefB w c i h j = false) = true := decP_t hi2
    simp only [fi,e,hw,↓imp_ft,↓imp_ff,↓reduceIte,reduceCtorEq,Nat.reduceEqDiff,Nat.reduceAdd,Nat.reduceSub,Nat.reduceLeDiff,Nat.reducePow,go_sem]
  have hil := Classical.not_not.1 hil
  have fi : ((i : Int) < (w.spathes.1 : Int)) = True := eq_true (by omega)
  have p1 : (0 ≤ (i : Int)) = True := eq_true (by omega)
  simp only [fi,hw,↓imp_tt,↓imp_tf,↓reduceIte,reduceCtorEq,Nat.reduceEqDiff,Nat.reduceAdd,Nat.reduceSub,Nat.reduceLeDiff,Nat.reducePow,go_sem]
  refine loopI (ι := Nat) (fun h => h ≤ w.hours.1 ∧ ∀ h',h' < h → ∀ j,j < w.lots.1 → lefB w c i h' j = false) (fun h => w.hours.1 - h) [2,3,5] (fun h => [(6,.int .i64 h)]) (fun _ => []) 0 ⟨Nat.zero_le _,fun _ h => absurd h (Nat.not_lt_zero _)⟩ (by simp only [↓reduceIte,reduceCtorEq,Nat.reduceEqDiff,Nat.reduceLT,go_sem]) fun h hh => ?_
  obtain ⟨hh1,hh2⟩ := hh
  by_cases hhl : ¬ h < w.hours.1
  · have fh : ((h : Int) < (w.hours.1 : Int)) = False := eq_false (by omega)
    obtain rfl : h = w.hours.1 := by omega
    simp only [fh,hw,↓imp_ft,↓imp_ff,↓reduceIte,reduceCtorEq,Nat.reduceEqDiff,Nat.reduceAdd,Nat.reduceSub,Nat.reduceLeDiff,Nat.reducePow,go_sem]
    refine inv_intro (i + 1) ⟨hil,fun i' hi' => ?_⟩ (by omega) ?_
    · by_cases e : i' = i
      · subst e; exact hh2
      · exact hi2 i' (by omega)
    · simp only [↓reduceIte,reduceCtorEq,Nat.reduceEqDiff,Nat.reduceLT,go_sem]
      exact wrS (by omega)
  have hhl := Classical.not_not.1 hhl
  have fh : ((h : Int) < (w.hours.1 : Int)) = True := eq_true (by omega)
  have p2 : (0 ≤ (h : Int)) = True := eq_true (by omega)
  simp only [fh,hw,↓imp_tt,↓imp_tf,↓reduceIte,reduceCtorEq,Nat.reduceEqDiff,Nat.reduceAdd,Nat.reduceSub,Nat.reduceLeDiff,Nat.reducePow,go_sem]
  refine loopI (ι := Nat) (fun j => j ≤ w.lots.1 ∧ ∀ j',j' < j → lefB w c i h j' = false) (fun j => w.lots.1 - j) [2,3,5,6] (fun j => [(7,.int .i64 j)]) (fun _ => []) 0 ⟨Nat.zero_le _,fun _ h => absurd h (Nat.not_lt_zero _)⟩ (by simp only [↓reduceIte,reduceCtorEq,Nat.reduceEqDiff,Nat.reduceLT,go_sem]) fun j hj => ?_
  obtain ⟨hj1,hj2⟩ := hj
  by_cases hjl : ¬ j < w.lots.1
  · have fj : ((j : Int) < (w.lots.1 : Int)) = False := eq_false (by omega)
    obtain rfl : j = w.lots.1 := by omega
    simp only [fj,hw,↓imp_ft,↓imp_ff,↓reduceIte,reduceCtorEq,Nat.reduceEqDiff,Nat.reduceAdd,Nat.reduceSub,Nat.reduceLeDiff,Nat.reducePow,go_sem]
    refine inv_intro (h + 1) ⟨hhl,fun h' hh' => ?_⟩ (by omega) ?_
    · by_cases e : h' = h
      · subst e; exact hj2
      · exact hh2 h' (by omega)
    · simp only [↓reduceIte,reduceCtorEq,Nat.reduceEqDiff,Nat.reduceLT,go_sem]
      exact wrS (by omega)
  have hjl := Classical.not_not.1 hjl
  have fj : ((j : Int) < (w.lots.1 : Int)) = True := eq_true (by omega)
  have p3 : (0 ≤ (j : Int)) = True := eq_true (by omega)
  have y1 : decP (∃ a,a < c.spathes.1 ∧ c.spathes.2 a = (i : Int)) = hasL c.spathes i := rfl
  have y2 : decP (∃ a,a < c.hours.1 ∧ c.hours.2 a = (h : Int)) = hasL c.hours h := rfl
  have y3 : decP (∃ a,a < c.lots.1 ∧ c.lots.2 a = (j : Int)) = hasL c.lots j := rfl
  have hlf : lefB w c i h j = (takesF w i h && (goodF w h j && (!hasL c.spathes i && (!hasL c.hours h && !hasL c.lots j)))) := rfl
  have hno : lefB w c i h j = true → false = decP (∀ i,i < w.spathes.1 → ∀ h,h < w.hours.1 → ∀ j,j < w.lots.1 → lefB w c i h j = false) := fun e => (decP_f fun q => by rw [q i hil h hhl j hjl] at e; cases e).symm
  have hgo : lefB w c i h j = false → j + 1 ≤ w.lots.1 ∧ ∀ j',j' < j + 1 → lefB w c i h j' = false := fun e => ⟨hjl,fun j' hj' => by
    by_cases q : j' = j
    · subst q; exact e
    · exact hj2 j' (by omega)⟩
  generalize lefB w c i h j = lv at hlf hno hgo
  cases v1 : takesF w i h <;> cases v2 : goodF w h j <;> cases v3 : hasL c.spathes i <;> cases v4 : hasL c.hours h <;> cases v5 : hasL c.lots j <;> rw [v1,v2,v3,v4,v5] at hlf <;> rw [v3] at y1 <;> rw [v4] at y2 <;> rw [v5] at y3 <;> simp only [fi,fh,fj,p1,p2,p3,hbt,sTakes,sGood,sHas,v1,v2,y1,y2,y3,Int.toNat_natCast,hw,↓imp_tt,↓imp_tf,↓imp_ft,↓imp_ff,↓reduceIte,reduceCtorEq,Nat.reduceEqDiff,Nat.reduceAdd,Nat.reduceSub,Nat.reduceLeDiff,Nat.reducePow,go_sem]
  all_goals first
    | exact hno hlf
    | (refine inv_intro (j + 1) (hgo hlf) (by omega) ?_
       simp only [↓reduceIte,reduceCtorEq,Nat.reduceEqDiff,Nat.reduceLT,go_sem]
       exact wrS (by omega))
noncomputable def numC (w : Wk) (c : Cv) : Int := c.spathes.1 + c.hours.1 + sumU w c.lots w.lots.1
noncomputable def pvV (l : Pms) (w : Wk) (c : Cv) : Val := if workE l w = 0 then (if covB w c = true then .tup (.cons (.int .i64 (numC w c)) (.cons (.int .i64 0) .nil)) else .tup (.cons (.int .i64 0) (.cons (.int .i64 73) .nil))) else .tup (.cons (.int .i64 0) (.cons (.int .i64 (workE l w)) .nil))
noncomputable def sProves : Spec := spec3 (TSl RPm) TWk TCv (fun _ _ _ => True) fun l w c => pvV l w c
theorem cov_idx {w : Wk} {c : Cv} (h : covB w c = true) : idxB c.spathes w.spathes.1 = true ∧ idxB c.hours w.hours.1 = true ∧ idxB c.lots w.lots.1 = true := by
 simp only [covB,Bool.and_eq_true] at h; exact ⟨h.1,h.2.1,h.2.2.1⟩
end Go.Proofs.Ytlapepdhkomijaa
namespace Go.Proofs.Ytlapepdhkomijaa
open Go Go.RowKit
variable {G : Nat → Option (Nat × (Nat → Val))}
noncomputable def nmV (l : Ints) (n : Nat) : Val := if idxB l n = true then .tup (.cons (.view 1 n fun a _ => .bool (hasL l a)) (.cons (.bool true) .nil)) else .tup (.cons (.view 1 0 fun _ _ => .bool false) (.cons (.bool false) .nil))
def lastI (l : Ints) (j : Nat) : Int := if j = 0 then -1 else l.2 (j - 1)
noncomputable def hasJ (l : Ints) (j : Nat) (a : Nat) : Bool := decP (∃ k,k < j ∧ l.2 k = (a : Int))
theorem hasJ_s {l : Ints} {j a : Nat} : hasJ l (j + 1) a = if l.2 j = (a : Int) then true else hasJ l j a := by
 by_cases e : l.2 j = (a : Int)
 ·rw [if_pos e]; exact decP_t ⟨j,by omega,e⟩
 ·rw [if_neg e,Bool.eq_iff_iff]
  unfold hasJ
  rw [decP_true,decP_true]
  constructor
  ·rintro ⟨k,hk,ek⟩
   exact ⟨k,by rcases Nat.eq_or_lt_of_le (Nat.le_of_lt_succ hk) with q | q; subst q; exact absurd ek e; exact q,ek⟩
  ·rintro ⟨k,hk,ek⟩
   exact ⟨k,by omega,ek⟩
theorem idx_upto {l : Ints} {n : Int} {j : Nat} (h : ∀ i,i < j → 0 ≤ l.2 i ∧ l.2 i < n ∧ (0 < i → l.2 (i - 1) < l.2 i)) (hl : lastI l j < l.2 j) (hn : l.2 j < n) : ∀ i,i < j + 1 → 0 ≤ l.2 i ∧ l.2 i < n ∧ (0 < i → l.2 (i - 1) < l.2 i) := by
 intro i hi
 by_cases e : i = j
 ·subst e
  unfold lastI at hl
  split at hl
  ·exact ⟨by omega,hn,fun q => by omega⟩
  ·have := h (i - 1) (by omega)
   exact ⟨by omega,hn,fun _ => hl⟩
 ·exact h i (by omega)
theorem idx_not {l : Ints} {n : Int} {j : Nat} (hj : j < l.1) (h : l.2 j ≤ lastI l j ∨ n ≤ l.2 j) : idxB l n = false := decP_f fun q => by
 obtain ⟨a,b,c⟩ := q j hj
 unfold lastI at h
 split at h
 ·omega
 ·have := c (by omega); omega
noncomputable def sNmdS : Spec := spec2 (TSl RSp) (TSl (RInt .i64)) (fun x _ => x.1 ≤ 1000) fun x l => nmV l x.1
set_option maxHeartbeats 4000000 in
set_option maxRecDepth 100000 in
theorem pNmdS : PureOk Try.prog G 70 sNmdS := by
 refine fn2 (S := []) (I := []) mixed .nil .nil Try.func70 c70 fun x l hp hw => ?_
 simp only [Nat.reduceSub,Nat.reducePow,go_sem] at hw
 simp only [RunTo,a70,hw,↓reduceIte,reduceCtorEq,Nat.reduceEqDiff,Nat.reduceSub,Nat.reduceLT,Int.reduceNeg,Nat.reducePow,go_sem]
 refine ⟨by omega,by omega,by omega,?_⟩
 refine loopI (ι := Nat) (fun j => j ≤ l.1 ∧ ∀ i,i < j → 0 ≤ l.2 i ∧ l.2 i < x.1 ∧ (0 < i → l.2 (i - 1) < l.2 i)) (fun j => l.1 - j) [0,6,13,14] (fun j => [(15,.int .i64 j),(7,.int .i64 (lastI l j))]) (fun j => [(0,.row 4 1 x.1 fun a _ => .bool (hasJ l j a))]) 0 ⟨Nat.zero_le _,fun _ h => absurd h (Nat.not_lt_zero _)⟩ (by
  simp only [lastI,↓reduceIte,reduceCtorEq,Nat.reduceEqDiff,Nat.reduceLT,Int.reduceNeg,go_sem]
  intro a ha b hb
  obtain rfl : b = 0 := by omega
  have : hasJ l 0 a = false := decP_f fun ⟨k,hk,_⟩ => absurd hk (Nat.not_lt_zero _)
  simp [vget,this]) fun j hj => ?_
 obtain ⟨hj1,hj2⟩ := hj
 by_cases hjl : j < l.1
 ·have fj : ((j : Int) < (l.1 : Int)) = True := eq_true (by omega)
  by_cases q1 : l.2 j ≤ lastI l j
  ·have f1 : (l.2 j ≤ lastI l j) = True := eq_true q1
   unfold nmV
   rw [idx_not hjl (.inl q1),if_neg (by decide)]
   simp only [fj,f1,↓imp_tt,↓imp_tf,↓reduceIte,reduceCtorEq,Nat.reduceEqDiff,Nat.reduceAdd,go_sem]
   omega
  ·have f1 : (l.2 j ≤ lastI l j) = False := eq_false q1
   by_cases q2 : l.2 j ≥ (x.1 : Int)
   ·have f2 : (l.2 j ≥ (x.1 : Int)) = True := eq_true q2
    unfold nmV
    rw [idx_not hjl (.inr q2),if_neg (by decide)]
    simp only [fj,f1,f2,hw,↓imp_tt,↓imp_tf,↓imp_ft,↓imp_ff,↓reduceIte,reduceCtorEq,Nat.reduceEqDiff,Nat.reduceAdd,Nat.reduceSub,Nat.reducePow,go_sem]
    omega
   ·have f2 : (l.2 j ≥ (x.1 : Int)) = False := eq_false q2
    have hup := idx_upto hj2 (by omega) (by omega)
    have h0 := (hup j (by omega)).1
    simp only [fj,f1,f2,hw,↓imp_tt,↓imp_tf,↓imp_ft,↓imp_ff,↓reduceIte,reduceCtorEq,Nat.reduceEqDiff,Nat.reduceSub,Nat.reducePow,go_sem]
    refine ⟨by omega,h0,by omega,inv_intro (j + 1) ⟨hjl,hup⟩ (by omega) ?_⟩
    have el : lastI l (j + 1) = l.2 j := by simp [lastI]
    simp only [el,↓reduceIte,reduceCtorEq,Nat.reduceEqDiff,Nat.reduceLT,go_sem]
    refine ⟨wrS (by omega),fun a ha b hb => ?_⟩
    obtain rfl : b = 0 := by omega
    rw [hasJ_s]
    by_cases e : a = (l.2 j).toNat
    ·rw [if_pos ⟨e,Nat.le_refl _,Nat.one_pos⟩,if_pos (by omega)]; rfl
    ·rw [if_neg (fun q => e q.1),if_neg (by omega)]
 have fj : ((j : Int) < (l.1 : Int)) = False := eq_false (by omega)
 obtain rfl : j = l.1 := by omega
 have hi : idxB l x.1 = true := decP_t hj2
 unfold nmV
 rw [if_pos hi]
 simp only [fj,↓imp_ft,↓imp_ff,↓reduceIte,reduceCtorEq,Nat.reduceEqDiff,Nat.reduceAdd,go_sem]
 exact fun _ _ _ _ => rfl
noncomputable def sNmdH : Spec := spec2 (TSl (RInt .i64)) (TSl (RInt .i64)) (fun x _ => x.1 ≤ 1000) fun x l => nmV l x.1
set_option maxHeartbeats 4000000 in
set_option maxRecDepth 100000 in
theorem pNmdH : PureOk Try.prog G 71 sNmdH := by
 refine fn2 (S := []) (I := []) mixed .nil .nil Try.func71 c71 fun x l hp hw => ?_
 simp only [Nat.reduceSub,Nat.reducePow,go_sem] at hw
 simp only [RunTo,a71,hw,↓reduceIte,reduceCtorEq,Nat.reduceEqDiff,Nat.reduceSub,Nat.reduceLT,Int.reduceNeg,Nat.reducePow,go_sem]
 refine ⟨by omega,by omega,by omega,?_⟩
 refine loopI (ι := Nat) (fun j => j ≤ l.1 ∧ ∀ i,i < j → 0 ≤ l.2 i ∧ l.2 i < x.1 ∧ (0 < i → l.2 (i - 1) < l.2 i)) (fun j => l.1 - j) [0,6,13,14] (fun j => [(15,.int .i64 j),(7,.int .i64 (lastI l j))]) (fun j => [(0,.row 4 1 x.1 fun a _ => .bool (hasJ l j a))]) 0 ⟨Nat.zero_le _,fun _ h => absurd h (Nat.not_lt_zero _)⟩ (by
  simp only [lastI,↓reduceIte,reduceCtorEq,Nat.reduceEqDiff,Nat.reduceLT,Int.reduceNeg,go_sem]
  intro a ha b hb
  obtain rfl : b = 0 := by omega
  have : hasJ l 0 a = false := decP_f fun ⟨k,hk,_⟩ => absurd hk (Nat.not_lt_zero _)
  simp [vget,this]) fun j hj => ?_
 obtain ⟨hj1,hj2⟩ := hj
 by_cases hjl : j < l.1
 ·have fj : ((j : Int) < (l.1 : Int)) = True := eq_true (by omega)
  by_cases q1 : l.2 j ≤ lastI l j
  ·have f1 : (l.2 j ≤ lastI l j) = True := eq_true q1
   unfold nmV
   rw [idx_not hjl (.inl q1),if_neg (by decide)]
   simp only [fj,f1,↓imp_tt,↓imp_tf,↓reduceIte,reduceCtorEq,Nat.reduceEqDiff,Nat.reduceAdd,go_sem]
   omega
  ·have f1 : (l.2 j ≤ lastI l j) = False := eq_false q1
   by_cases q2 : l.2 j ≥ (x.1 : Int)
   ·have f2 : (l.2 j ≥ (x.1 : Int)) = True := eq_true q2
    unfold nmV
    rw [idx_not hjl (.inr q2),if_neg (by decide)]
    simp only [fj,f1,f2,hw,↓imp_tt,↓imp_tf,↓imp_ft,↓imp_ff,↓reduceIte,reduceCtorEq,Nat.reduceEqDiff,Nat.reduceAdd,Nat.reduceSub,Nat.reducePow,go_sem]
    omega
   ·have f2 : (l.2 j ≥ (x.1 : Int)) = False := eq_false q2
    have hup := idx_upto hj2 (by omega) (by omega)
    have h0 := (hup j (by omega)).1
    simp only [fj,f1,f2,hw,↓imp_tt,↓imp_tf,↓imp_ft,↓imp_ff,↓reduceIte,reduceCtorEq,Nat.reduceEqDiff,Nat.reduceSub,Nat.reducePow,go_sem]
    refine ⟨by omega,h0,by omega,inv_intro (j + 1) ⟨hjl,hup⟩ (by omega) ?_⟩
    have el : lastI l (j + 1) = l.2 j := by simp [lastI]
    simp only [el,↓reduceIte,reduceCtorEq,Nat.reduceEqDiff,Nat.reduceLT,go_sem]
    refine ⟨wrS (by omega),fun a ha b hb => ?_⟩
    obtain rfl : b = 0 := by omega
    rw [hasJ_s]
    by_cases e : a = (l.2 j).toNat
    ·rw [if_pos ⟨e,Nat.le_refl _,Nat.one_pos⟩,if_pos (by omega)]; rfl
    ·rw [if_neg (fun q => e q.1),if_neg (by omega)]
 have fj : ((j : Int) < (l.1 : Int)) = False := eq_false (by omega)
 obtain rfl : j = l.1 := by omega
 have hi : idxB l x.1 = true := decP_t hj2
 unfold nmV
 rw [if_pos hi]
 simp only [fj,↓imp_ft,↓imp_ff,↓reduceIte,reduceCtorEq,Nat.reduceEqDiff,Nat.reduceAdd,go_sem]
 exact fun _ _ _ _ => rfl
noncomputable def sNmdL : Spec := spec2 (TSl RLt) (TSl (RInt .i64)) (fun x _ => x.1 ≤ 1000) fun x l => nmV l x.1
set_option maxHeartbeats 4000000 in
set_option maxRecDepth 100000 in
theorem pNmdL : PureOk Try.prog G 72 sNmdL := by
 refine fn2 (S := []) (I := []) mixed .nil .nil Try.func72 c72 fun x l hp hw => ?_
 simp only [Nat.reduceSub,Nat.reducePow,go_sem] at hw
 simp only [RunTo,a72,hw,↓reduceIte,reduceCtorEq,Nat.reduceEqDiff,Nat.reduceSub,Nat.reduceLT,Int.reduceNeg,Nat.reducePow,go_sem]
 refine ⟨by omega,by omega,by omega,?_⟩
 refine loopI (ι := Nat) (fun j => j ≤ l.1 ∧ ∀ i,i < j → 0 ≤ l.2 i ∧ l.2 i < x.1 ∧ (0 < i → l.2 (i - 1) < l.2 i)) (fun j => l.1 - j) [0,6,13,14] (fun j => [(15,.int .i64 j),(7,.int .i64 (lastI l j))]) (fun j => [(0,.row 4 1 x.1 fun a _ => .bool (hasJ l j a))]) 0 ⟨Nat.zero_le _,fun _ h => absurd h (Nat.not_lt_zero _)⟩ (by
  simp only [lastI,↓reduceIte,reduceCtorEq,Nat.reduceEqDiff,Nat.reduceLT,Int.reduceNeg,go_sem]
  intro a ha b hb
  obtain rfl : b = 0 := by omega
  have : hasJ l 0 a = false := decP_f fun ⟨k,hk,_⟩ => absurd hk (Nat.not_lt_zero _)
  simp [vget,this]) fun j hj => ?_
 obtain ⟨hj1,hj2⟩ := hj
 by_cases hjl : j < l.1
 ·have fj : ((j : Int) < (l.1 : Int)) = True := eq_true (by omega)
  by_cases q1 : l.2 j ≤ lastI l j
  ·have f1 : (l.2 j ≤ lastI l j) = True := eq_true q1
   unfold nmV
   rw [idx_not hjl (.inl q1),if_neg (by decide)]
   simp only [fj,f1,↓imp_tt,↓imp_tf,↓reduceIte,reduceCtorEq,Nat.reduceEqDiff,Nat.reduceAdd,go_sem]
   omega
  ·have f1 : (l.2 j ≤ lastI l j) = False := eq_false q1
   by_cases q2 : l.2 j ≥ (x.1 : Int)
   ·have f2 : (l.2 j ≥ (x.1 : Int)) = True := eq_true q2
    unfold nmV
    rw [idx_not hjl (.inr q2),if_neg (by decide)]
    simp only [fj,f1,f2,hw,↓imp_tt,↓imp_tf,↓imp_ft,↓imp_ff,↓reduceIte,reduceCtorEq,Nat.reduceEqDiff,Nat.reduceAdd,Nat.reduceSub,Nat.reducePow,go_sem]
    omega
   ·have f2 : (l.2 j ≥ (x.1 : Int)) = False := eq_false q2
    have hup := idx_upto hj2 (by omega) (by omega)
    have h0 := (hup j (by omega)).1
    simp only [fj,f1,f2,hw,↓imp_tt,↓imp_tf,↓imp_ft,↓imp_ff,↓reduceIte,reduceCtorEq,Nat.reduceEqDiff,Nat.reduceSub,Nat.reducePow,go_sem]
    refine ⟨by omega,h0,by omega,inv_intro (j + 1) ⟨hjl,hup⟩ (by omega) ?_⟩
    have el : lastI l (j + 1) = l.2 j := by simp [lastI]
    simp only [el,↓reduceIte,reduceCtorEq,Nat.reduceEqDiff,Nat.reduceLT,go_sem]
    refine ⟨wrS (by omega),fun a ha b hb => ?_⟩
    obtain rfl : b = 0 := by omega
    rw [hasJ_s]
    by_cases e : a = (l.2 j).toNat
    ·rw [if_pos ⟨e,Nat.le_refl _,Nat.one_pos⟩,if_pos (by omega)]; rfl
    ·rw [if_neg (fun q => e q.1),if_neg (by omega)]
 have fj : ((j : Int) < (l.1 : Int)) = False := eq_false (by omega)
 obtain rfl : j = l.1 := by omega
 have hi : idxB l x.1 = true := decP_t hj2
 unfold nmV
 rw [if_pos hi]
 simp only [fj,↓imp_ft,↓imp_ff,↓reduceIte,reduceCtorEq,Nat.reduceEqDiff,Nat.reduceAdd,go_sem]
 exact fun _ _ _ _ => rfl
end Go.Proofs.Ytlapepdhkomijaa
