/- Palms, outright: alive. No condition. -/
import Derived.Test.YtlapepdhkomijaaPCut2
import Derived.Test.YtlapepdhkomijaaPProg1
import Derived.Test.YtlapepdhkomijaaPKn2
import Derived.Test.YtlapepdhkomijaaPSlP
import Derived.Test.YtlapepdhkomijaaPMsP
import Derived.Test.YtlapepdhkomijaaPMv3
import Derived.Test.YtlapepdhkomijaaPCmp
import Derived.Test.YtlapepdhkomijaaACode1
import Derived.Test.YtlapepdhkomijaaPNet
set_option linter.unusedSimpArgs false
set_option linter.unusedVariables false
namespace Go.Proofs.Ytlapepdhkomijaa
open Go Go.RowKit
variable {G : Nat → Option (Nat × (Nat → Val))}
def sGroveP : Spec := spec0 (.view 5 grC.1 fun i j => (grC.2 i).c j)
set_option maxRecDepth 100000 in
theorem pGroveP : PureOk Try.prog G 37 sGroveP := by
 refine fn0 (S := []) (I := []) mixed .nil .nil Try.func37 c37 ?_
 simp only [RunTo,a37,↓reduceIte,Nat.reduceEqDiff,Nat.reduceAdd,Nat.reduceLeDiff,Nat.reduceLT,Int.reduceNeg,go_sem]
 refine ⟨rfl,fun i hi j hj => ?_⟩
 rcases lt3 hi with rfl | rfl | rfl <;> rcases (by omega : j = 0 ∨ j = 1 ∨ j = 2 ∨ j = 3 ∨ j = 4) with rfl | rfl | rfl | rfl | rfl <;> exact rfl
def sSpanP : Spec := spec2 TI TI (fun _ _ => True) fun a b => .agg (Sn.L ⟨a,b⟩)
set_option maxRecDepth 100000 in
theorem pSpanP : PureOk Try.prog G 74 sSpanP := by
 refine fn2 (S := []) (I := []) mixed .nil .nil Try.func74 c74 fun a b _ _ => ?_
 simp only [RunTo,a74,↓reduceIte,reduceCtorEq,Nat.reduceEqDiff,Nat.reduceAdd,Nat.reduceLeDiff,go_sem]
def sWkP : Spec := spec0 (.agg (Wk.L wkC))
set_option maxRecDepth 100000 in
theorem pWkP : PureOk Try.prog G 38 sWkP := by
 refine fn0 (S := [(74,sSpanP)]) (I := []) mixed (.cons pSpanP .nil) .nil Try.func38 c38 ?_
 simp only [RunTo,a38,sSpanP,↓reduceIte,reduceCtorEq,Nat.reduceEqDiff,Nat.reduceAdd,Nat.reduceLeDiff,Nat.reduceLT,go_sem]
 refine ⟨rfl,rfl,fun i hi j hj => ?_,rfl,fun i hi j hj => ?_,rfl,fun i hi j hj => ?_,rfl⟩
 ·rcases lt3 hi with rfl | rfl | rfl <;> rcases lt3 hj with rfl | rfl | rfl <;> exact rfl
 ·obtain rfl : j = 0 := by omega
  rcases lt4 hi with rfl | rfl | rfl | rfl <;> exact rfl
 ·have hi : i < 1 := hi
  obtain rfl : i = 0 := by omega
  rcases lt4 hj with rfl | rfl | rfl | rfl <;> exact rfl
theorem pvC (f g h : Nat → Int) (f0 : f 0 = 0) (f1 : f 1 = 1) (f2 : f 2 = 2) : pvV grC wkC ⟨(3,f),(0,g),(0,h)⟩ = .tup (.cons (.int .i64 3) (.cons (.int .i64 0) .nil)) := by
 have hf : ∀ i,i < 3 → f i = i := fun i hi => by rcases lt3 hi with rfl | rfl | rfl <;> assumption
 have h1 : idxB (3,f) wkC.spathes.1 = true := decP_t fun i hi => by
  have hi : i < 3 := hi
  show 0 ≤ f i ∧ f i < 3 ∧ (0 < i → f (i - 1) < f i)
  rw [hf i hi]
  refine ⟨by omega,by omega,fun h0 => ?_⟩
  rw [hf (i - 1) (by omega)]; omega
 have h2 : idxB (0,g) wkC.hours.1 = true := decP_t fun i hi => absurd hi (Nat.not_lt_zero _)
 have h3 : idxB (0,h) wkC.lots.1 = true := decP_t fun i hi => absurd hi (Nat.not_lt_zero _)
 have hc : covB wkC ⟨(3,f),(0,g),(0,h)⟩ = true := by
  unfold covB
  rw [h1,h2,h3,decP_t fun i hi h' hh j hj => ?_]
  ·rfl
  ·have : hasL (3,f) i = true := hasL_t.2 ⟨i,hi,hf i hi⟩
   unfold lefB
   show (takesF wkC i h' && (goodF wkC h' j && (!hasL (3,f) i && _))) = false
   rw [this]; simp
 have hn : numC wkC ⟨(3,f),(0,g),(0,h)⟩ = 3 := by
  have h0 : hasL (0,h) (0 : Nat) = false := decP_f fun ⟨k,hk,_⟩ => absurd hk (Nat.not_lt_zero _)
  show ((3 : Nat) : Int) + ((0 : Nat) : Int) + sumN (fun i => if hasL (0,h) i = true then (wkC.lots.2 i).units else 0) 1 = 3
  simp only [sumN]
  rw [h0]; rfl
 unfold pvV
 rw [if_pos workC,if_pos hc,hn]
noncomputable def knQ (l : Pms) : Val := if pmE l = 0 then (if badI l < l.1 then .tup (.cons .nils (.cons (.int .i64 (badI l : Nat)) (.cons (.int .i64 71) .nil))) else .tup (.cons (.view 5 l.1 fun i j => (knP l i).c j) (.cons (.int .i64 0) (.cons (.int .i64 0) .nil)))) else .tup (.cons .nils (.cons (.int .i64 0) (.cons (.int .i64 70) .nil)))
noncomputable def sKnQ : Spec := spec1 (TSl RPm) (fun _ => True) knQ
noncomputable def clQ (l : Pms) (id : Int) : Val := if pmE l = 0 then (if hitN l id < l.1 then .tup (.cons (.view 1 (clonesF l (hitN l id)).1 fun j _ => .int .i64 ((clonesF l (hitN l id)).2 j)) (.cons (.int .i64 0) .nil)) else .tup (.cons .nils (.cons (.int .i64 6) .nil))) else .tup (.cons .nils (.cons (.int .i64 70) .nil))
noncomputable def sClQ : Spec := spec2 (TSl RPm) TI (fun _ _ => True) clQ
noncomputable def slQ (l : Pms) (w : Wk) : Val := if workE l w = 0 then .tup (.cons (.view 1 w.spathes.1 fun i _ => .view 1 (slN w i) fun j _ => .int .i64 (slH w i j)) (.cons (.int .i64 0) .nil)) else .tup (.cons .nils (.cons (.int .i64 (workE l w)) .nil))
noncomputable def sSlQ : Spec := spec2 (TSl RPm) TWk (fun _ _ => True) slQ
noncomputable def moQ (l : Pms) (w : Wk) : Val := if workE l w = 0 then .tup (.cons (.view 3 (plD w).cnt fun a b => ((plD w).pl a).c b) (.cons (.int .i64 0) .nil)) else .tup (.cons .nils (.cons (.int .i64 (workE l w)) .nil))
noncomputable def sMoQ : Spec := spec2 (TSl RPm) TWk (fun _ _ => True) moQ
noncomputable def prQ (l : Pms) (w : Wk) : Val := if workE l w = 0 then .tup (.cons (cvV w) (.cons (.int .i64 0) .nil)) else .tup (.cons (.agg (.cons cvE (.cons cvE (.cons cvE .nil)))) (.cons (.int .i64 (workE l w)) .nil))
noncomputable def sPrQ : Spec := spec2 (TSl RPm) TWk (fun _ _ => True) prQ
noncomputable def kC (i : Nat) : Pm := knP grC i
noncomputable def clC (j : Nat) : Int := (clonesF grC 1).2 j
noncomputable def slC2 (i j : Nat) : Val := (fun i _ => Val.view 1 (slN wkC i) fun j _ => .int .i64 (slH wkC i j)) i j
noncomputable def duC (a : Nat) : Du := (plD wkC).pl a
noncomputable def lC1 (a : Nat) : Int := selN (fun i => !lcB wkC (.sp i)) wkC.spathes.1 a
noncomputable def lC2 (a : Nat) : Int := selN (fun h => lcB wkC (.hi h) && !lcB wkC (.ho h)) wkC.hours.1 a
noncomputable def lC3 (a : Nat) : Int := selN (fun j => lcB wkC (.lt j)) wkC.lots.1 a
theorem knQC : knQ grC = .tup (.cons (.view 5 3 fun i j => (kC i).c j) (.cons (.int .i64 0) (.cons (.int .i64 0) .nil))) := by
 unfold knQ
 rw [if_pos (pmE_ok pmsC),if_neg (by rw [badC]; decide)]; rfl
theorem clQC : clQ grC 2 = .tup (.cons (.view 1 2 fun j _ => .int .i64 (clC j)) (.cons (.int .i64 0) .nil)) := by
 have h : hitN grC 2 = 1 := hit2 rfl rfl rfl
 have hc : (clonesF grC 1).1 = 2 := by
  show cntN (clnB grC 1) 3 = 2
  simp [cntN,cln10,cln11,cln12]
 unfold clQ
 rw [if_pos (pmE_ok pmsC),if_pos (by rw [h]; decide),h,hc]; rfl
theorem slQC : slQ grC wkC = .tup (.cons (.view 1 3 slC2) (.cons (.int .i64 0) .nil)) := by
 unfold slQ
 rw [if_pos workC]; rfl
theorem moQC : moQ grC wkC = .tup (.cons (.view 3 2 fun a b => (duC a).c b) (.cons (.int .i64 0) .nil)) := by
 have h : (plD wkC).cnt = 2 := by rw [stC3]; rfl
 unfold moQ
 rw [if_pos workC,h]; rfl
theorem prQC : prQ grC wkC = .tup (.cons (.agg (.cons (.view 1 0 fun a _ => .int .i64 (lC1 a)) (.cons (.view 1 0 fun a _ => .int .i64 (lC2 a)) (.cons (.view 1 1 fun a _ => .int .i64 (lC3 a)) .nil)))) (.cons (.int .i64 0) .nil)) := by
 have h1 : cntN (fun i => !lcB wkC (.sp i)) wkC.spathes.1 = 0 := cvC1
 have h2 : cntN (fun h => lcB wkC (.hi h) && !lcB wkC (.ho h)) wkC.hours.1 = 0 := cvC2
 have h3 : cntN (fun j => lcB wkC (.lt j)) wkC.lots.1 = 1 := cvC3.1
 unfold prQ cvV selV
 rw [if_pos workC,h1,h2,h3]; rfl
theorem clC_0 : clC 0 = 1 ∧ clC 1 = 2 := by
 have h0 : selN (clnB grC 1) 3 0 = 0 := by simp [selN,cntN,cln10,cln11,cln12]
 have h1 : selN (clnB grC 1) 3 1 = 1 := by simp [selN,cntN,cln10,cln11,cln12]
 constructor
 ·show (palC (selN (clnB grC 1) 3 0)).id = 1
  rw [h0]; rfl
 ·show (palC (selN (clnB grC 1) 3 1)).id = 2
  rw [h1]; rfl
theorem duC_0 : duC 0 = ⟨0,1,0⟩ ∧ duC 1 = ⟨1,0,0⟩ := by
 unfold duC; rw [stC3]; exact ⟨rfl,rfl⟩
theorem lC3_0 : lC3 0 = 0 := by
 show ((selN (fun j => lcB wkC (.lt j)) 1 0 : Nat) : Int) = 0
 rw [cvC3.2]; rfl
theorem same_no {α : Type} {a b : Nat × (Nat → α)} (h : sameB a b = false) (h1 : a.1 = b.1) (h2 : ∀ i,i < a.1 → a.2 i = b.2 i) : False := by
 have := h.symm.trans (decP_t ⟨h1,h2⟩); cases this
theorem same_yes {α : Type} {a b : Nat × (Nat → α)} (h1 : a.1 = b.1) (h2 : ∀ i,i < a.1 → a.2 i = b.2 i) : sameB a b = true := decP_t ⟨h1,h2⟩
def sAliveP : Spec := spec0 (.bool true)
set_option maxHeartbeats 8000000 in
set_option maxRecDepth 100000 in
theorem pAliveP : PureOk Try.prog G 36 sAliveP := by
 refine fn0 (S := [(37,sGroveP),(38,sWkP),(15,sKnQ),(17,sClQ),(24,sSlQ),(26,sMoQ),(31,sPrQ),(33,sProves),(22,sSameI),(28,sSameLs),(29,sSameDu),(35,sSameCv)]) (I := []) mixed
  (.cons pGroveP (.cons pWkP (.cons (show PureOk Try.prog G _ sKnQ from pKnownP) (.cons (show PureOk Try.prog G _ sClQ from pClonesPr) (.cons (show PureOk Try.prog G _ sSlQ from pSlotsP) (.cons (show PureOk Try.prog G _ sMoQ from pMostP) (.cons (show PureOk Try.prog G _ sPrQ from pProofP) (.cons pProvesP (.cons pSameI (.cons pSameLs (.cons pSameDu (.cons pSameCv .nil)))))))))))) .nil Try.func36 c36 ?_
 have g1 : (grC.1 ≤ 9223372036854775807) = True := eq_true (by decide)
 have g2 : (wkC.spathes.1 ≤ 9223372036854775807) = True := eq_true (by decide)
 have g3 : (wkC.hours.1 ≤ 9223372036854775807) = True := eq_true (by decide)
 have g4 : (wkC.lots.1 ≤ 9223372036854775807) = True := eq_true (by decide)
 have k0 : kC 0 = ⟨1,-1,0,oneU,7⟩ := knC0
 have k1 : kC 1 = ⟨2,1,1200,oneU,7⟩ := knC1
 have k2 : kC 2 = ⟨5,-1,0,twoU,0⟩ := knC2
 have hu : oneU.1 = 1 := rfl
 have n1 := knQC
 have n2 := clQC
 have n3 := slQC
 have n4 := moQC
 have n5 := prQC
 simp (config := { maxSteps := 1000000 }) only [RunTo,a36,sGroveP,sWkP,sKnQ,sClQ,sSlQ,sMoQ,sPrQ,sProves,sSameI,sSameLs,sSameDu,sSameCv,g1,g2,g3,g4,k0,k1,k2,hu,n1,n2,n3,n4,n5,pvC,↓imp_tt,↓imp_tf,↓imp_ft,↓imp_ff,↓reduceIte,reduceCtorEq,Nat.reduceEqDiff,Nat.reduceAdd,Nat.reduceSub,Nat.reduceLeDiff,Nat.reduceLT,Int.reduceToNat,Int.reduceLT,Int.reduceLE,Int.reduceNeg,Nat.reducePow,go_sem]
 have lt2 : ∀ {i : Nat},i < 2 → i = 0 ∨ i = 1 := fun h => by omega
 have lt1 : ∀ {i : Nat},i < 1 → i = 0 := fun h => by omega
 refine ⟨fun i hi => by rcases lt3 hi with rfl | rfl | rfl <;> exact rfl,fun i hi => absurd hi (Nat.not_lt_zero _),fun i hi => by rcases lt2 hi with rfl | rfl <;> exact rfl,fun _ => ⟨fun i hi => ⟨rfl,fun _ _ => rfl⟩,fun i hi => ?_,fun _ => ⟨fun i hi => ?_,fun _ => ⟨?_,?_⟩,fun h => ?_⟩,fun h => ?_⟩,fun h => same_no h rfl fun i hi => ?_⟩
 ·rcases lt3 hi with rfl | rfl | rfl
  ·exact ⟨rfl,fun k hk => by
    have hk : k < 1 := hk
    obtain rfl := lt1 hk; rfl⟩
  ·exact ⟨rfl,fun k hk => by
    have hk : k < 2 := hk
    rcases lt2 hk with rfl | rfl <;> rfl⟩
  ·exact ⟨rfl,fun k hk => by
    have hk : k < 1 := hk
    obtain rfl := lt1 hk; rfl⟩
 ·rcases lt2 hi with rfl | rfl <;> exact ⟨rfl,rfl,rfl⟩
 ·exact fun i hi => absurd hi (Nat.not_lt_zero _)
 ·refine ⟨fun i hi => absurd hi (Nat.not_lt_zero _),fun i hi => by obtain rfl := lt1 hi; rfl,fun h => ?_⟩
  have d1 : sameB (0,fun i => lC1 i) (0,fun _ => (0 : Int)) = true := same_yes rfl fun i hi => absurd hi (Nat.not_lt_zero _)
  have d2 : sameB (0,fun i => lC2 i) (0,fun _ => (0 : Int)) = true := same_yes rfl fun i hi => absurd hi (Nat.not_lt_zero _)
  rw [d1,d2,Bool.true_and,Bool.true_and] at h
  refine same_no h rfl fun i hi => ?_
  have hi : i < 1 := hi
  obtain rfl := lt1 hi
  exact lC3_0
 ·refine same_no h rfl fun i hi => ?_
  have hi : i < 2 := hi
  rcases lt2 hi with rfl | rfl
  ·exact duC_0.1
  ·exact duC_0.2
 ·obtain ⟨z1,z2,z3,z4,z5,z6,z7⟩ := slC
  refine absurd (h.symm.trans (decP_t fun i hi => ?_)) (by decide)
  have hi : i < 3 := hi
  rcases lt3 hi with rfl | rfl | rfl
  ·refine same_yes z1 fun k hk => ?_
   have hk : k < slN wkC 0 := hk
   rw [z1] at hk
   obtain rfl := lt1 hk
   exact congrArg Int.ofNat z2
  ·refine same_yes z3 fun k hk => ?_
   have hk : k < slN wkC 1 := hk
   rw [z3] at hk
   rcases lt2 hk with rfl | rfl
   ·exact congrArg Int.ofNat z4
   ·exact congrArg Int.ofNat z5
  ·refine same_yes z6 fun k hk => ?_
   have hk : k < slN wkC 2 := hk
   rw [z6] at hk
   obtain rfl := lt1 hk
   exact congrArg Int.ofNat z7
 ·have hi : i < 2 := hi
  rcases lt2 hi with rfl | rfl
  ·exact clC_0.1
  ·exact clC_0.2
end Go.Proofs.Ytlapepdhkomijaa
namespace Go.Proofs.Ytlapepdhkomijaa
open Go Go.RowKit
structure SameIM (l m : Pms) : Prop where
 n : l.1 = m.1
 id : ∀ i,(l.2 i).id = (m.2 i).id
 mo : ∀ i,(l.2 i).mother = (m.2 i).mother
 pl : ∀ i,(l.2 i).planted = (m.2 i).planted
section
variable {l m : Pms}
theorem SameIM.hit (h : SameIM l m) (x : Int) : hitN m x = hitN l x := by
 unfold hitN
 have : (fun i => (m.2 i).id = x) = fun i => (l.2 i).id = x := funext fun i => by rw [h.id]
 rw [this,h.n]
theorem SameIM.rt (h : SameIM l m) : ∀ d k,rtN m d k = rtN l d k := by
 intro d; induction d with
 | zero => intro k; rfl
 | succ d ih => intro k; simp only [rtN,← h.mo,h.hit,ih]
theorem SameIM.cln (h : SameIM l m) : clnB m = clnB l := by
 funext i k
 unfold clnB rootF
 rw [h.rt,h.rt]
theorem SameIM.ok (h : SameIM l m) (hl : PmsOk l) (h1 : ∀ i,i < l.1 → (m.2 i).sex.1 ≤ 2) (h2 : ∀ i,i < l.1 → 0 ≤ (m.2 i).sort ∧ (m.2 i).sort ≤ 99) : PmsOk m where
 n := by rw [← h.n]; exact hl.n
 id i hi := by rw [← h.n] at hi; rw [← h.id]; exact hl.id i hi
 up i hi h0 := by rw [← h.n] at hi; rw [← h.id,← h.id]; exact hl.up i hi h0
 pl i hi := by rw [← h.n] at hi; rw [← h.pl]; exact hl.pl i hi
 sex i hi := by rw [← h.n] at hi; exact h1 i hi
 sort i hi := by rw [← h.n] at hi; exact h2 i hi
 mo i hi := by
  rw [← h.n] at hi
  rw [← h.mo,h.hit,← h.n,← h.pl,← h.pl]; exact hl.mo i hi
theorem bad_not (h : ∀ i k,k < i → i < l.1 → clnB l i k = true → ¬ ctrP l i k) : ¬ badI l < l.1 := by
 have : badI l = l.1 := fstI_no fun j hj ⟨k,h1,h2,h3⟩ => h j k h1 hj h2 h3
 omega
theorem cln_fn {i k : Nat} (h : clnB l i k = true) : clnB l k = clnB l i := by
 funext a
 have := of_decide_eq_true h
 unfold clnB; rw [this]
theorem cln_sym (l : Pms) (i k : Nat) : clnB l i k = clnB l k i := by
 unfold clnB
 by_cases e : rootF l k = rootF l i
 ·rw [decide_eq_true e,decide_eq_true e.symm]
 ·rw [decide_eq_false e,decide_eq_false fun q => e q.symm]
theorem sexF_le (hl : PmsOk l) (h : ¬ badI l < l.1) {i : Nat} (hi : i < l.1) : 0 ≤ sexF l i ∧ sexF l i ≤ 2 := by
 rcases (sex_gd h hi).1 with e | ⟨k,k1,_,e⟩
 ·omega
 ·have := hl.sex k k1
  have : (0 : Int) ≤ (l.2 k).sex.1 := (l.2 k).sex.2.1
  have e : (l.2 k).sex.1 = sexF l i := e
  omega
theorem kn_sex (hl : PmsOk l) (h : ¬ badI l < l.1) {i : Nat} (hi : i < l.1) : (knP l i).sex.1 = sexF l i := by
 have := sexF_le hl h hi
 exact toUI_in (show (0 : Int) ≤ sexF l i ∧ sexF l i ≤ 255 by omega)
theorem sexF_cln (h : ¬ badI l < l.1) {i k : Nat} (hi : i < l.1) (hk : k < l.1) (hc : clnB l i k = true) : sexF l k = sexF l i := by
 have h1 := sex_gd h hi
 have h2 := sex_gd h hk
 rw [cln_fn hc] at h2
 exact h2.eq h1
theorem sortF_cln (hl : PmsOk l) (h : ¬ badI l < l.1) {i k : Nat} (hi : i < l.1) (hk : k < l.1) (hc : clnB l i k = true) : sortF l k = sortF l i := by
 have h1 := sort_gd hl h hi
 have h2 := sort_gd hl h hk
 rw [cln_fn hc] at h2
 exact h2.eq h1
noncomputable def hasC (l : Pms) (i : Nat) (x : Int) : Bool := decP (∃ a,a < (clonesF l i).1 ∧ (clonesF l i).2 a = x)
theorem hasC_at (hl : PmsOk l) (i : Nat) {k : Nat} (hk : k < l.1) : hasC l i (l.2 k).id = clnB l i k := by
 rw [Bool.eq_iff_iff]
 unfold hasC
 rw [decP_true]
 constructor
 ·rintro ⟨a,ha,e⟩
  obtain ⟨h1,h2⟩ := selN_lt (p := clnB l i) (n := l.1) (j := a) ha
  have := hl.inj h1 hk e
  rw [this] at h2; exact h2
 ·intro h
  obtain ⟨j,h1,h2⟩ := sel_surj hk h
  exact ⟨j,h1,by show (l.2 (selN (clnB l i) l.1 j)).id = _; rw [h2]⟩
theorem hasC_mo (hl : PmsOk l) (i : Nat) {k : Nat} (hk : k < l.1) (hm : (l.2 k).mother ≠ -1) : hasC l i (l.2 k).mother = clnB l i k := by
 obtain ⟨h1,_⟩ := hl.mo2 hk hm
 have e : (l.2 (hitN l (l.2 k).mother)).id = (l.2 k).mother := by
  rcases hit_spec l (l.2 k).mother with ⟨_,h⟩ | ⟨h,_⟩
  ·exact h
  ·omega
 rw [← e,hasC_at hl i h1]
 unfold clnB
 rw [root_mo hl hk hm]
def detP (l : Pms) (k : Nat) (sx : UI .u8) (so : Int) : Pms := (l.1,fun i => if i = k then ⟨(l.2 i).id,(l.2 i).mother,(l.2 i).planted,sx,so⟩ else l.2 i)
structure DetOk (l : Pms) (k : Nat) (sx : UI .u8) (so : Int) : Prop where
 lt : k < l.1
 s : (l.2 k).sex.1 ≠ 0 → sx.1 = (l.2 k).sex.1
 t : (l.2 k).sort ≠ 0 → so = (l.2 k).sort
 s2 : sx.1 ≤ 2
 t2 : 0 ≤ so ∧ so ≤ 99
def detX (l : Pms) (k : Nat) (sx : UI .u8) (so : Int) : Prop := (sx.1 ≠ 0 ∧ sexF l k ≠ 0 ∧ sx.1 ≠ sexF l k) ∨ (so ≠ 0 ∧ sortF l k ≠ 0 ∧ so ≠ sortF l k)
end
section
variable {l : Pms} {k : Nat} {sx : UI .u8} {so : Int}
theorem det_same (l : Pms) (k : Nat) (sx : UI .u8) (so : Int) : SameIM l (detP l k sx so) :=
 ⟨rfl,fun i => by show _ = (if i = k then _ else _ : Pm).id; split <;> rfl,fun i => by show _ = (if i = k then _ else _ : Pm).mother; split <;> rfl,fun i => by show _ = (if i = k then _ else _ : Pm).planted; split <;> rfl⟩
theorem det_k : (detP l k sx so).2 k = ⟨(l.2 k).id,(l.2 k).mother,(l.2 k).planted,sx,so⟩ := if_pos rfl
theorem det_n {i : Nat} (h : i ≠ k) : (detP l k sx so).2 i = l.2 i := if_neg h
theorem DetOk.ok (d : DetOk l k sx so) (hl : PmsOk l) : PmsOk (detP l k sx so) := (det_same l k sx so).ok hl (fun i hi => by
  by_cases e : i = k
  ·subst e; rw [det_k]; exact d.s2
  ·rw [det_n e]; exact hl.sex i hi) fun i hi => by
  by_cases e : i = k
  ·subst e; rw [det_k]; exact d.t2
  ·rw [det_n e]; exact hl.sort i hi
theorem DetOk.sex (d : DetOk l k sx so) (i : Nat) (h : (l.2 i).sex.1 ≠ 0) : ((detP l k sx so).2 i).sex.1 = (l.2 i).sex.1 := by
 by_cases e : i = k
 ·subst e; rw [det_k]; exact d.s h
 ·rw [det_n e]
theorem DetOk.sort (d : DetOk l k sx so) (i : Nat) (h : (l.2 i).sort ≠ 0) : ((detP l k sx so).2 i).sort = (l.2 i).sort := by
 by_cases e : i = k
 ·subst e; rw [det_k]; exact d.t h
 ·rw [det_n e]
theorem ctr_sym {l : Pms} {i k : Nat} (h : ctrP l i k) : ctrP l k i := by unfold ctrP at h ⊢; omega
theorem DetOk.free (d : DetOk l k sx so) (hl : PmsOk l) (h : ¬ badI l < l.1) (hx : ¬ detX l k sx so) : ¬ badI (detP l k sx so) < l.1 := by
 have hc := (det_same l k sx so).cln
 have key : ∀ j,j < l.1 → j ≠ k → clnB l k j = true → ¬ ctrP (detP l k sx so) k j := fun j hj hne hcl hp => hx (by
  unfold ctrP at hp
  rw [det_k,det_n hne] at hp
  rcases hp with ⟨p1,p2,p3⟩ | ⟨p1,p2,p3⟩
  ·have := (sex_gd h d.lt).2 j hj hcl
   have p2 : (l.2 j).sex.1 ≠ 0 := p2
   have this : (l.2 j).sex.1 = 0 ∨ (l.2 j).sex.1 = sexF l k := this
   have p3 : sx.1 ≠ (l.2 j).sex.1 := p3
   exact .inl ⟨p1,by omega,by omega⟩
  ·have := (sort_gd hl h d.lt).2 j hj hcl
   have p2 : (l.2 j).sort ≠ 0 := p2
   have this : (l.2 j).sort = 0 ∨ (l.2 j).sort = sortF l k := this
   have p3 : so ≠ (l.2 j).sort := p3
   exact .inr ⟨p1,by omega,by omega⟩)
 refine bad_not (l := detP l k sx so) fun i j hji hi hcl hp => ?_
 have hi : i < l.1 := hi
 rw [hc] at hcl
 by_cases e : i = k
 ·subst e; exact key j (by omega) (by omega) hcl hp
 ·by_cases e2 : j = k
  ·subst e2
   exact key i hi e (by rw [cln_sym]; exact hcl) (ctr_sym hp)
  ·refine bad_no h hi hji hcl ?_
   unfold ctrP at hp ⊢
   rw [det_n e,det_n e2] at hp
   exact hp
theorem DetOk.known (d : DetOk l k sx so) (hl : PmsOk l) (h : ¬ badI l < l.1) (hn : ¬ badI (detP l k sx so) < l.1) {i : Nat} (hi : i < l.1) : (sexF l i ≠ 0 → sexF (detP l k sx so) i = sexF l i) ∧ (sortF l i ≠ 0 → sortF (detP l k sx so) i = sortF l i) := by
 have hc := (det_same l k sx so).cln
 constructor
 ·intro h0
  rcases (sex_gd h hi).1 with e | ⟨j,j1,j2,j3⟩
  ·exact absurd e h0
  ·have j3 : (l.2 j).sex.1 = sexF l i := j3
   have e1 := d.sex j (by omega)
   rw [← hc] at j2
   have := (sex_gd (l := detP l k sx so) hn hi).2 j j1 j2
   have this : ((detP l k sx so).2 j).sex.1 = 0 ∨ ((detP l k sx so).2 j).sex.1 = sexF (detP l k sx so) i := this
   omega
 ·intro h0
  rcases (sort_gd hl h hi).1 with e | ⟨j,j1,j2,j3⟩
  ·exact absurd e h0
  ·have j3 : (l.2 j).sort = sortF l i := j3
   have e1 := d.sort j (by omega)
   rw [← hc] at j2
   have := (sort_gd (l := detP l k sx so) (d.ok hl) hn hi).2 j j1 j2
   have this : ((detP l k sx so).2 j).sort = 0 ∨ ((detP l k sx so).2 j).sort = sortF (detP l k sx so) i := this
   omega
end
end Go.Proofs.Ytlapepdhkomijaa
namespace Go.Proofs.Ytlapepdhkomijaa
open Go Go.RowKit
variable {G : Nat → Option (Nat × (Nat → Val))}
section
variable {P : Program} {id : FuncId}
theorem PureOk.weak {s s' : Spec} (h : PureOk P G id s) (ho : s'.own = none) (hp : ∀ vs,s'.pre vs → s.pre vs ∧ vsubP (s'.res vs) (s.res vs)) : PureOk P G id s' :=
 ⟨h.ent,fun A w vs cs hG hr hq => (h.run A w vs cs hG hr (hp vs hq).1).mono fun _ _ ⟨x,h1,h2,h3,_⟩ => ⟨x,h1,vsubP_rep _ _ _ (hp vs hq).2 h2,h3,fun e' he => by rw [ho] at he; cases he⟩⟩
end
noncomputable def knX (l : Pms) : Int := if pmE l = 0 then (if badI l < l.1 then 71 else 0) else 70
noncomputable def knL (l : Pms) : Nat := if knX l = 0 then l.1 else 0
noncomputable def knI (l : Pms) : Int := if knX l = 71 then badI l else 0
noncomputable def knU (l : Pms) : Val := .tup (.cons (.view 5 (knL l) fun i j => (knP l i).c j) (.cons (.int .i64 (knI l)) (.cons (.int .i64 (knX l)) .nil)))
noncomputable def sKnU : Spec := spec1 (TSl RPm) (fun _ => True) knU
theorem knU_sub (l : Pms) : vsubP (knU l) (knQ l) := by
 by_cases h : pmE l = 0
 ·by_cases hb : badI l < l.1
  ·have e1 : knX l = 71 := by unfold knX; rw [if_pos h,if_pos hb]
   have e2 : knL l = 0 := by unfold knL; rw [e1]; rfl
   have e3 : knI l = badI l := by unfold knI; rw [if_pos e1]
   unfold knU knQ
   rw [if_pos h,if_pos hb,e1,e2,e3]
   exact ⟨_,rfl,_,_,rfl,.inl ⟨rfl,rfl⟩,_,_,rfl,rfl,_,_,rfl,rfl,rfl⟩
  ·have e1 : knX l = 0 := by unfold knX; rw [if_pos h,if_neg hb]
   have e2 : knL l = l.1 := by unfold knL; rw [if_pos e1]
   have e3 : knI l = 0 := by unfold knI; rw [e1]; rfl
   unfold knU knQ
   rw [if_pos h,if_neg hb,e1,e2,e3]
   rw [vsubP_self]; trivial
 ·have e1 : knX l = 70 := by unfold knX; rw [if_neg h]
  have e2 : knL l = 0 := by unfold knL; rw [e1]; rfl
  have e3 : knI l = 0 := by unfold knI; rw [e1]; rfl
  unfold knU knQ
  rw [if_neg h,e1,e2,e3]
  exact ⟨_,rfl,_,_,rfl,.inl ⟨rfl,rfl⟩,_,_,rfl,rfl,_,_,rfl,rfl,rfl⟩
theorem pKnU : PureOk Try.prog G 15 sKnU := by
 refine PureOk.weak (show PureOk Try.prog G _ sKnQ from pKnownP) rfl fun vs hp => ?_
 simp only [sKnU,sKnQ,spec1] at hp ⊢
 split at hp
 ·exact ⟨hp,knU_sub _⟩
 ·exact hp.elim
theorem kn_1 {l : Pms} (hp : PmsOk l) (hb : ¬ badI l < l.1) : knX l = 0 ∧ knL l = l.1 ∧ knI l = 0 := by
 have e1 : knX l = 0 := by unfold knX; rw [if_pos (pmE_ok hp),if_neg hb]
 exact ⟨e1,by unfold knL; rw [if_pos e1],by unfold knI; rw [e1]; rfl⟩
theorem kn_2 {l : Pms} (hp : PmsOk l) (hb : badI l < l.1) : knX l = 71 ∧ knL l = 0 ∧ knI l = badI l := by
 have e1 : knX l = 71 := by unfold knX; rw [if_pos (pmE_ok hp),if_pos hb]
 exact ⟨e1,by unfold knL; rw [e1]; rfl,by unfold knI; rw [if_pos e1]⟩
end Go.Proofs.Ytlapepdhkomijaa
