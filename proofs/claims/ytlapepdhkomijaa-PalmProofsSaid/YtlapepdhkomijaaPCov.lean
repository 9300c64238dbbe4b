/- Palms, the reference: covers, and what they prove. No condition but bounds. -/
import Derived.Test.YtlapepdhkomijaaPWrk
import Derived.Test.YtlapepdhkomijaaPRgr
import Derived.Test.YtlapepdhkomijaaPCmp2
import Derived.Test.YtlapepdhkomijaaPSl7
import Derived.Test.YtlapepdhkomijaaACode1
set_option linter.unusedSimpArgs false
set_option linter.unusedVariables false
namespace Go.Proofs.Ytlapepdhkomijaa
open Go Go.RowKit
variable {G : Nat → Option (Nat × (Nat → Val))}
noncomputable def hasL (l : Ints) (n : Int) : Bool := decP (∃ i,i < l.1 ∧ l.2 i = n)
theorem hasL_t {l : Ints} {n : Int} : hasL l n = true ↔ ∃ i,i < l.1 ∧ l.2 i = n := decP_true
noncomputable def lefB (w : Wk) (c : Cv) (i h j : Nat) : Bool := takesF w i h && (goodF w h j && (!hasL c.spathes i && (!hasL c.hours h && !hasL c.lots j)))
noncomputable def covB (w : Wk) (c : Cv) : Bool := idxB c.spathes w.spathes.1 && (idxB c.hours w.hours.1 && (idxB c.lots w.lots.1 && decP (∀ i,i < w.spathes.1 → ∀ h,h < w.hours.1 → ∀ j,j < w.lots.1 → lefB w c i h j = false)))
noncomputable def sCovers : Spec := spec2 TWk TCv (fun w _ => WkB w) fun w c => .bool (covB w c)
theorem idx_at {l : Ints} {n : Int} (h : idxB l n = true) : ∀ i,i < l.1 → 0 ≤ l.2 i ∧ l.2 i < n ∧ (0 < i → l.2 (i - 1) < l.2 i) := decP_true.1 h
theorem idx_ge {l : Ints} {n : Int} (h : idxB l n = true) : ∀ i,i < l.1 → (i : Int) ≤ l.2 i := by
 intro i; induction i with
 | zero => intro hi; exact (idx_at h 0 hi).1
 | succ i ih =>
  intro hi
  have h1 := ih (by omega)
  have h2 := (idx_at h (i + 1) hi).2.2 (by omega)
  have : i + 1 - 1 = i := by omega
  rw [this] at h2
  omega
theorem idx_len {l : Ints} {n : Nat} (h : idxB l n = true) : l.1 ≤ n := by
 rcases Nat.eq_zero_or_pos l.1 with e | e
 ·omega
 ·have h1 := idx_ge h (l.1 - 1) (by omega)
  have h2 := (idx_at h (l.1 - 1) (by omega)).2.1
  omega
theorem idx_mono {l : Ints} {n : Int} (h : idxB l n = true) : ∀ {i j : Nat},i < j → j < l.1 → l.2 i < l.2 j := by
 intro i j hij
 induction j with
 | zero => omega
 | succ j ih =>
  intro hj
  have h2 := (idx_at h (j + 1) hj).2.2 (by omega)
  have e : j + 1 - 1 = j := by omega
  rw [e] at h2
  by_cases q : i = j
  ·subst q; exact h2
  ·have := ih (by omega) (by omega); omega
def sumL (w : Wk) (l : Ints) (k : Nat) : Int := sumN (fun a => (w.lots.2 (l.2 a).toNat).units) k
noncomputable def sumU (w : Wk) (l : Ints) (n : Nat) : Int := sumN (fun i => if hasL l i = true then (w.lots.2 i).units else 0) n
theorem sumL_U {w : Wk} {l : Ints} (h : idxB l w.lots.1 = true) : sumU w l w.lots.1 = sumL w l l.1 := by
 have e1 : sumU w l w.lots.1 = sumN (fun i => sumN (fun k => if l.2 k = (i : Int) then (w.lots.2 i).units else 0) l.1) w.lots.1 := by
  refine sumN_congr fun i _ => ?_
  by_cases hx : hasL l i = true
  ·rw [if_pos hx]
   obtain ⟨k0,hk0,ek⟩ := hasL_t.1 hx
   have : sumN (fun k => if l.2 k = (i : Int) then (w.lots.2 i).units else 0) l.1 = sumN (fun k => if k = k0 then (w.lots.2 i).units else 0) l.1 := sumN_congr fun k hk => by
    by_cases e : k = k0
    ·subst e; rw [if_pos ek,if_pos rfl]
    ·rw [if_neg e,if_neg]
     intro q
     rcases Nat.lt_or_gt_of_ne e with a | a
     ·have := idx_mono h a hk0; omega
     ·have := idx_mono h a hk; omega
   rw [this,sumN_one,if_pos hk0]
  ·rw [if_neg hx]
   refine ((sumN_congr fun k hk => ?_).trans (sumN_zero l.1)).symm
   exact if_neg fun q => hx (hasL_t.2 ⟨k,hk,q⟩)
 rw [e1,sumN_swap (fun i k => if l.2 k = (i : Int) then (w.lots.2 i).units else 0)]
 refine sumN_congr fun k hk => ?_
 obtain ⟨a1,a2,_⟩ := idx_at h k hk
 have : sumN (fun i => if l.2 k = (i : Int) then (w.lots.2 i).units else 0) w.lots.1 = sumN (fun i => if i = (l.2 k).toNat then (w.lots.2 (l.2 k).toNat).units else 0) w.lots.1 := sumN_congr fun i _ => by
  by_cases e : i = (l.2 k).toNat
  ·subst e; rw [if_pos (by omega),if_pos rfl]
  ·rw [if_neg e,if_neg (by omega)]
 rw [this,sumN_one,if_pos (by omega)]
theorem sumL_le {w : Wk} {l : Ints} (hb : WkB w) (h : idxB l w.lots.1 = true) : ∀ k,k ≤ l.1 → 0 ≤ sumL w l k ∧ sumL w l k ≤ 100 * k := by
 intro k; induction k with
 | zero => intro _; exact ⟨Int.le_refl _,Int.le_refl _⟩
 | succ k ih =>
  intro hk
  obtain ⟨a,b⟩ := ih (by omega)
  obtain ⟨a1,a2,_⟩ := idx_at h k (by omega)
  have := hb.u (l.2 k).toNat (by omega)
  have e : sumL w l (k + 1) = sumL w l k + (w.lots.2 (l.2 k).toNat).units := rfl
  omega
theorem sumU_le {w : Wk} {l : Ints} (hb : WkB w) : ∀ k,k ≤ w.lots.1 → 0 ≤ sumU w l k ∧ sumU w l k ≤ 100 * k := by
 intro k; induction k with
 | zero => intro _; exact ⟨Int.le_refl _,Int.le_refl _⟩
 | succ k ih =>
  intro hk
  obtain ⟨a,b⟩ := ih (by omega)
  have := hb.u k (by omega)
  have e : sumU w l (k + 1) = sumU w l k + if hasL l k = true then (w.lots.2 k).units else 0 := rfl
  split at e <;> omega
set_option maxHeartbeats 4000000 in
set_option maxRecDepth 100000 in
theorem pCovers : PureOk Try.prog G 41 sCovers := by
  refine fn2 (S := [(75,sIndices),(56,sTakes),(69,sGood),(76,sHas)]) (I := []) mixed (.cons pIndices (.cons pTakesR (.cons pGoodR (.cons pHas .nil)))) .nil Try.func41 c41 fun w c hb hw => ?_
  simp only [Nat.reduceSub,Nat.reducePow,RInt,RSp,Sp.d,RLt,Lt.d,Wk.L,TWk,Cv.L,TCv,go_sem] at hw
  have hbt : WkB w = True := eq_true hb
  have hS := hb.s
  have hH := hb.h
  have hL := hb.l
  have b0 : (0 ≤ (w.spathes.1 : Int) ∧ (w.spathes.1 : Int) ≤ 1000) = True := eq_true (by omega)
  have b1 : (0 ≤ (w.hours.1 : Int) ∧ (w.hours.1 : Int) ≤ 1000) = True := eq_true (by omega)
  have b2 : (0 ≤ (w.lots.1 : Int) ∧ (w.lots.1 : Int) ≤ 1000) = True := eq_true (by omega)
  unfold covB
  cases x1 : idxB c.spathes w.spathes.1
  · simp only [RunTo,a41,sIndices,b0,x1,hw,↓imp_tt,↓imp_tf,↓reduceIte,reduceCtorEq,Nat.reduceEqDiff,Nat.reduceAdd,Nat.reduceSub,Nat.reduceLeDiff,Nat.reducePow,spec2,TSl,IsSl,TInt,IsInt,RInt,Prod.eta,RSp,Sp.d,RLt,Lt.d,Wk.L,TWk,Cv.L,TCv,go_sem]
  cases x2 : idxB c.hours w.hours.1
  · simp only [RunTo,a41,sIndices,b0,b1,x1,x2,hw,↓imp_tt,↓imp_tf,↓imp_ft,↓imp_ff,↓reduceIte,reduceCtorEq,Nat.reduceEqDiff,Nat.reduceAdd,Nat.reduceSub,Nat.reduceLeDiff,Nat.reducePow,spec2,TSl,IsSl,TInt,IsInt,RInt,Prod.eta,RSp,Sp.d,RLt,Lt.d,Wk.L,TWk,Cv.L,TCv,go_sem]
  cases x3 : idxB c.lots w.lots.1
  · simp only [RunTo,a41,sIndices,b0,b1,b2,x1,x2,x3,hw,↓imp_tt,↓imp_tf,↓imp_ft,↓imp_ff,↓reduceIte,reduceCtorEq,Nat.reduceEqDiff,Nat.reduceAdd,Nat.reduceSub,Nat.reduceLeDiff,Nat.reducePow,spec2,TSl,IsSl,TInt,IsInt,RInt,Prod.eta,RSp,Sp.d,RLt,Lt.d,Wk.L,TWk,Cv.L,TCv,go_sem]
  simp only [RunTo,a41,sIndices,b0,b1,b2,x1,x2,x3,hw,↓imp_ft,↓imp_ff,↓reduceIte,reduceCtorEq,Nat.reduceEqDiff,Nat.reduceAdd,Nat.reduceSub,Nat.reduceLeDiff,Nat.reducePow,spec2,TSl,IsSl,TInt,IsInt,RInt,Prod.eta,RSp,Sp.d,RLt,Lt.d,Wk.L,TWk,Cv.L,TCv,go_sem]
  refine loopI (ι := Nat) (fun i => i ≤ w.spathes.1 ∧ ∀ i',i' < i → ∀ h,h < w.hours.1 → ∀ j,j < w.lots.1 → lefB w c i' h j = false) (fun i => w.spathes.1 - i) [2,3] (fun i => [(5,.int .i64 i)]) (fun _ => []) 0 ⟨Nat.zero_le _,fun _ h => absurd h (Nat.not_lt_zero _)⟩ (by simp only [↓reduceIte,reduceCtorEq,Nat.reduceEqDiff,Nat.reduceLT,go_sem]) fun i hi => ?_
  obtain ⟨hi1,hi2⟩ := hi
  by_cases hil : ¬ i < w.spathes.1
  · have fi : ((i : Int) < (w.spathes.1 : Int)) = False := eq_false (by omega)
    obtain rfl : i = w.spathes.1 := by omega
    have e : decP (∀ i,i < w.spathes.1 → ∀ h,h < w.hours.1 → ∀ j,j < w.lots.1 → lefB w c i h j = false) = true := decP_t hi2
    simp only [fi,e,hw,↓imp_ft,↓imp_ff,↓reduceIte,reduceCtorEq,Nat.reduceEqDiff,Nat.reduceAdd,Nat.reduceSub,Nat.reduceLeDiff,Nat.reducePow,go_sem]
  have hil := Classical.not_not.1 hil
  have fi : ((i : Int) < (w.spathes.1 : Int)) = True := eq_true (by omega)
  have p1 : (0 ≤ (i : Int)) = True := eq_true (by omega)
  simp only [fi,hw,↓imp_tt,↓imp_tf,↓reduceIte,reduceCtorEq,Nat.reduceEqDiff,Nat.reduceAdd,Nat.reduceSub,Nat.reduceLeDiff,Nat.reducePow,go_sem]
  refine loopI (ι := Nat) (fun h => h ≤ w.hours.1 ∧ ∀ h',h' < h → ∀ j,j < w.lots.1 → lefB w c i h' j = false) (fun h => w.hours.1 - h) [2,3,5] (fun h => [(6,.int .i64 h)]) (fun _ => []) 0 ⟨Nat.zero_le _,fun _ h => absurd h (Nat.not_lt_zero _)⟩ (by simp only [↓reduceIte,reduceCtorEq,Nat.reduceEqDiff,Nat.reduceLT,go_sem]) fun h hh => ?_
  obtain ⟨hh1,hh2⟩ := hh
  by_cases hhl : ¬ h < w.hours.1
  · have fh : ((h : Int) < (w.hours.1 : Int)) = False := eq_false (by omega)
    obtain rfl : h = w.hours.1 := by omega
    simp only [fh,hw,↓imp_ft,↓imp_ff,↓reduceIte,reduceCtorEq,Nat.reduceEqDiff,Nat.reduceAdd,Nat.reduceSub,Nat.reduceLeDiff,Nat.reducePow,go_sem]
    refine inv_intro (i + 1) ⟨hil,fun i' hi' => ?_⟩ (by omega) ?_
    · by_cases e : i' = i
      · subst e; exact hh2
      · exact hi2 i' (by omega)
    · simp only [↓reduceIte,reduceCtorEq,Nat.reduceEqDiff,Nat.reduceLT,go_sem]
      exact wrS (by omega)
  have hhl := Classical.not_not.1 hhl
  have fh : ((h : Int) < (w.hours.1 : Int)) = True := eq_true (by omega)
  have p2 : (0 ≤ (h : Int)) = True := eq_true (by omega)
  simp only [fh,hw,↓imp_tt,↓imp_tf,↓reduceIte,reduceCtorEq,Nat.reduceEqDiff,Nat.reduceAdd,Nat.reduceSub,Nat.reduceLeDiff,Nat.reducePow,go_sem]
  refine loopI (ι := Nat) (fun j => j ≤ w.lots.1 ∧ ∀ j',j' < j → lefB w c i h j' = false) (fun j => w.lots.1 - j) [2,3,5,6] (fun j => [(7,.int .i64 j)]) (fun _ => []) 0 ⟨Nat.zero_le _,fun _ h => absurd h (Nat.not_lt_zero _)⟩ (by simp only [↓reduceIte,reduceCtorEq,Nat.reduceEqDiff,Nat.reduceLT,go_sem]) fun j hj => ?_
  obtain ⟨hj1,hj2⟩ := hj
  by_cases hjl : ¬ j < w.lots.1
  · have fj : ((j : Int) < (w.lots.1 : Int)) = False := eq_false (by omega)
    obtain rfl : j = w.lots.1 := by omega
    simp only [fj,hw,↓imp_ft,↓imp_ff,↓reduceIte,reduceCtorEq,Nat.reduceEqDiff,Nat.reduceAdd,Nat.reduceSub,Nat.reduceLeDiff,Nat.reducePow,go_sem]
    refine inv_intro (h + 1) ⟨hhl,fun h' hh' => ?_⟩ (by omega) ?_
    · by_cases e : h' = h
      · subst e; exact hj2
      · exact hh2 h' (by omega)
    · simp only [↓reduceIte,reduceCtorEq,Nat.reduceEqDiff,Nat.reduceLT,go_sem]
      exact wrS (by omega)
  have hjl := Classical.not_not.1 hjl
  have fj : ((j : Int) < (w.lots.1 : Int)) = True := eq_true (by omega)
  have p3 : (0 ≤ (j : Int)) = True := eq_true (by omega)
  have y1 : decP (∃ a,a < c.spathes.1 ∧ c.spathes.2 a = (i : Int)) = hasL c.spathes i := rfl
  have y2 : decP (∃ a,a < c.hours.1 ∧ c.hours.2 a = (h : Int)) = hasL c.hours h := rfl
  have y3 : decP (∃ a,a < c.lots.1 ∧ c.lots.2 a = (j : Int)) = hasL c.lots j := rfl
  have hlf : lefB w c i h j = (takesF w i h && (goodF w h j && (!hasL c.spathes i && (!hasL c.hours h && !hasL c.lots j)))) := rfl
  have hno : lefB w c i h j = true → false = decP (∀ i,i < w.spathes.1 → ∀ h,h < w.hours.1 → ∀ j,j < w.lots.1 → lefB w c i h j = false) := fun e => (decP_f fun q => by rw [q i hil h hhl j hjl] at e; cases e).symm
  have hgo : lefB w c i h j = false → j + 1 ≤ w.lots.1 ∧ ∀ j',j' < j + 1 → lefB w c i h j' = false := fun e => ⟨hjl,fun j' hj' => by
    by_cases q : j' = j
    · subst q; exact e
    · exact hj2 j' (by omega)⟩
  generalize lefB w c i h j = lv at hlf hno hgo
  cases v1 : takesF w i h <;> cases v2 : goodF w h j <;> cases v3 : hasL c.spathes i <;> cases v4 : hasL c.hours h <;> cases v5 : hasL c.lots j <;> rw [v1,v2,v3,v4,v5] at hlf <;> rw [v3] at y1 <;> rw [v4] at y2 <;> rw [v5] at y3 <;> simp only [fi,fh,fj,p1,p2,p3,hbt,sTakes,sGood,sHas,v1,v2,y1,y2,y3,Int.toNat_natCast,hw,↓imp_tt,↓imp_tf,↓imp_ft,↓imp_ff,↓reduceIte,reduceCtorEq,Nat.reduceEqDiff,Nat.reduceAdd,Nat.reduceSub,Nat.reduceLeDiff,Nat.reducePow,spec2,spec3,TSl,IsSl,TInt,IsInt,RInt,Prod.eta,Sn.eta,Sp.c0,Sp.c1,Sp.c2,RSp,Sp.w_c,Sp.d,Sp.eta,Lt.c0,Lt.c1,Lt.c2,Lt.c3,RLt,Lt.w_c,Lt.d,Lt.eta,Wk.L,Wk.Is,Wk.of,TWk,Wk.d,Wk.eta,go_sem]
  all_goals first
    | exact hno hlf
    | (refine inv_intro (j + 1) (hgo hlf) (by omega) ?_
       simp only [↓reduceIte,reduceCtorEq,Nat.reduceEqDiff,Nat.reduceLT,go_sem]
       exact wrS (by omega))
noncomputable def numC (w : Wk) (c : Cv) : Int := c.spathes.1 + c.hours.1 + sumU w c.lots w.lots.1
noncomputable def pvV (l : Pms) (w : Wk) (c : Cv) : Val := if workE l w = 0 then (if covB w c = true then .tup (.cons (.int .i64 (numC w c)) (.cons (.int .i64 0) .nil)) else .tup (.cons (.int .i64 0) (.cons (.int .i64 73) .nil))) else .tup (.cons (.int .i64 0) (.cons (.int .i64 (workE l w)) .nil))
noncomputable def sProves : Spec := spec3 (TSl RPm) TWk TCv (fun _ _ _ => True) fun l w c => pvV l w c
theorem cov_idx {w : Wk} {c : Cv} (h : covB w c = true) : idxB c.spathes w.spathes.1 = true ∧ idxB c.hours w.hours.1 = true ∧ idxB c.lots w.lots.1 = true := by
 simp only [covB,Bool.and_eq_true] at h; exact ⟨h.1,h.2.1,h.2.2.1⟩
set_option maxHeartbeats 4000000 in
set_option maxRecDepth 100000 in
theorem pProves7 : PureOk Try.prog G 34 sProves := by
 refine fn3 (S := [(45,sWork7),(41,sCovers)]) (I := []) mixed (.cons pWork7 (.cons pCovers .nil)) .nil Try.func34 c34 fun l w c _ hw => ?_
 simp only [Nat.reduceSub,Nat.reducePow,TSl,RInt,RPm,Pm.d,RSp,Sp.d,RLt,Lt.d,Wk.L,TWk,Cv.L,TCv,go_sem] at hw
 unfold pvV
 by_cases he : ¬ workE l w = 0
 ·have hz : (workE l w = 0) = False := eq_false he
  rw [if_neg he]
  simp only [RunTo,a34,sWork7,hz,hw,↓reduceIte,reduceCtorEq,Nat.reduceEqDiff,Nat.reduceAdd,Nat.reduceSub,Nat.reducePow,spec2,TSl,IsSl,RInt,Prod.eta,Pm.c0,Pm.c1,Pm.c2,Pm.c3,Pm.c4,RPm,Pm.w_c,Pm.d,Pm.eta,Sn.eta,Sp.c0,Sp.c1,Sp.c2,RSp,Sp.w_c,Sp.d,Sp.eta,Lt.c0,Lt.c1,Lt.c2,Lt.c3,RLt,Lt.w_c,Lt.d,Lt.eta,Wk.L,Wk.Is,Wk.of,TWk,Wk.d,Wk.eta,Cv.L,TCv,toUI_val,go_sem]
 have he := Classical.not_not.1 he
 have hb : WkB w := (workE_0 he).2.2.b
 have hbt : WkB w = True := eq_true hb
 have hS := hb.s
 have hH := hb.h
 have hL := hb.l
 rw [if_pos he]
 cases hc : covB w c
 ·rw [if_neg (by decide)]
  simp only [RunTo,a34,sWork7,sCovers,he,hbt,hc,hw,↓imp_tt,↓imp_tf,↓imp_ft,↓imp_ff,↓reduceIte,reduceCtorEq,Nat.reduceEqDiff,Nat.reduceAdd,Nat.reduceSub,Nat.reducePow,spec2,TSl,IsSl,RInt,Prod.eta,Pm.c0,Pm.c1,Pm.c2,Pm.c3,Pm.c4,RPm,Pm.w_c,Pm.d,Pm.eta,Sn.eta,Sp.c0,Sp.c1,Sp.c2,RSp,Sp.w_c,Sp.d,Sp.eta,Lt.c0,Lt.c1,Lt.c2,Lt.c3,RLt,Lt.w_c,Lt.d,Lt.eta,Wk.L,Wk.Is,Wk.of,TWk,Wk.d,Wk.eta,Cv.L,Cv.Is,Cv.of,TCv,Cv.d,Cv.eta,toUI_val,go_sem]
 rw [if_pos rfl]
 obtain ⟨i1,i2,i3⟩ := cov_idx hc
 have l1 := idx_len i1
 have l2 := idx_len i2
 have l3 := idx_len i3
 have ew : IntKind.i64.wrap ((c.spathes.1 : Int) + (c.hours.1 : Int)) = (c.spathes.1 : Int) + (c.hours.1 : Int) := wr64 (by omega) (by omega)
 simp only [RunTo,a34,sWork7,sCovers,he,hbt,hc,ew,hw,↓imp_ft,↓imp_ff,↓reduceIte,reduceCtorEq,Nat.reduceEqDiff,Nat.reduceAdd,Nat.reduceSub,Nat.reduceLeDiff,Nat.reducePow,spec2,TSl,IsSl,RInt,Prod.eta,Pm.c0,Pm.c1,Pm.c2,Pm.c3,Pm.c4,RPm,Pm.w_c,Pm.d,Pm.eta,Sn.eta,Sp.c0,Sp.c1,Sp.c2,RSp,Sp.w_c,Sp.d,Sp.eta,Lt.c0,Lt.c1,Lt.c2,Lt.c3,RLt,Lt.w_c,Lt.d,Lt.eta,Wk.L,Wk.Is,Wk.of,TWk,Wk.d,Wk.eta,Cv.L,Cv.Is,Cv.of,TCv,Cv.d,Cv.eta,toUI_val,go_sem]
 refine loopI (ι := Nat) (fun k => k ≤ c.lots.1) (fun k => c.lots.1 - k) [4,5] (fun k => [(10,.int .i64 k),(9,.int .i64 ((c.spathes.1 : Int) + (c.hours.1 : Int) + sumL w c.lots k))]) (fun _ => []) 0 (Nat.zero_le _) (by simp only [sumL,sumN,↓reduceIte,reduceCtorEq,Nat.reduceEqDiff,Nat.reduceLT,go_sem]; try simp) fun k hk => ?_
 by_cases hkl : k < c.lots.1
 ·have fk : ((k : Int) < (c.lots.1 : Int)) = True := eq_true (by omega)
  obtain ⟨a1,a2,_⟩ := idx_at i3 k hkl
  obtain ⟨s1,s2⟩ := sumL_le hb i3 k hk
  have hu := hb.u (c.lots.2 k).toNat (by omega)
  simp only [fk,hw,↓imp_tt,↓imp_tf,↓reduceIte,reduceCtorEq,Nat.reduceEqDiff,Nat.reduceAdd,Nat.reduceSub,Nat.reduceLeDiff,Nat.reducePow,Lt.c1,go_sem]
  have es : sumL w c.lots (k + 1) = sumL w c.lots k + (w.lots.2 (c.lots.2 k).toNat).units := rfl
  refine ⟨by omega,a1,a2,inv_intro (k + 1) hkl (by omega) ?_⟩
  simp only [↓reduceIte,reduceCtorEq,Nat.reduceEqDiff,Nat.reduceLT,go_sem]
  exact ⟨wrS (by omega),(wr64 (by omega) (by omega)).trans (by rw [es]; omega)⟩
 have fk : ((k : Int) < (c.lots.1 : Int)) = False := eq_false (by omega)
 obtain rfl : k = c.lots.1 := by omega
 have es : sumL w c.lots c.lots.1 = sumU w c.lots w.lots.1 := (sumL_U i3).symm
 simp only [fk,es,numC,hw,↓imp_ft,↓imp_ff,↓reduceIte,reduceCtorEq,Nat.reduceEqDiff,Nat.reduceAdd,Nat.reduceSub,Nat.reducePow,go_sem]
end Go.Proofs.Ytlapepdhkomijaa
