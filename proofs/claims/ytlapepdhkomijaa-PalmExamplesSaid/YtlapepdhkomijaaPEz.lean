/- Palms: the chapter's examples, for lists that read as they do. No condition. -/
import Derived.Test.YtlapepdhkomijaaPCut2
import Derived.Test.YtlapepdhkomijaaPAlv
import Derived.Test.YtlapepdhkomijaaPCmp
import Derived.Test.YtlapepdhkomijaaPWeak
import Derived.Test.YtlapepdhkomijaaACodeL6
set_option linter.unusedSimpArgs false
set_option linter.unusedVariables false
namespace Go.Proofs.Ytlapepdhkomijaa
open Go Go.RowKit
structure Gr3 (L : Pms) (s : UI .u8) (p : Int) : Prop where
 n : L.1 = 3
 a : L.2 0 = ⟨1,-1,0,oneU,0⟩
 b : L.2 1 = ⟨2,1,p,s,7⟩
 c : L.2 2 = ⟨5,-1,0,twoU,0⟩
section
variable {L : Pms} {s : UI .u8} {p : Int}
theorem Gr3.h1 (g : Gr3 L s p) : hitN L 1 = 0 := hit1 g.n (by rw [g.a])
theorem Gr3.h2 (g : Gr3 L s p) : hitN L 2 = 1 := hit2 g.n (by rw [g.a]) (by rw [g.b])
theorem Gr3.h5 (g : Gr3 L s p) : hitN L 5 = 2 := hit5 g.n (by rw [g.a]) (by rw [g.b]) (by rw [g.c])
theorem Gr3.young (g : Gr3 L s 999) : pmE L = 70 := pmE_no fun k => by
 rcases k.mo 1 (by rw [g.n]; decide) with h | ⟨_,h⟩
 ·rw [g.b] at h; exact absurd (show (1 : Int) = -1 from h) (by decide)
 ·rw [g.b] at h
  have h : (L.2 (hitN L 1)).planted + 1000 ≤ 999 := h
  rw [g.h1,g.a] at h
  exact absurd h (by decide)
theorem Gr3.ok (g : Gr3 L s 1200) (hs : s.1 ≤ 2) : PmsOk L where
 n := by rw [g.n]; decide
 id i hi := by
  rw [g.n] at hi
  rcases lt3 hi with rfl | rfl | rfl
  ·rw [g.a]; exact ⟨by decide,by decide⟩
  ·rw [g.b]; exact ⟨show (0 : Int) ≤ 2 by decide,show (2 : Int) ≤ 9999 by decide⟩
  ·rw [g.c]; exact ⟨by decide,by decide⟩
 up i hi h0 := by
  rw [g.n] at hi
  rcases lt3 hi with rfl | rfl | rfl
  ·omega
  ·rw [g.a,g.b]; exact (show (1 : Int) < 2 by decide)
  ·show (L.2 1).id < _; rw [g.b,g.c]; exact (show (2 : Int) < 5 by decide)
 pl i hi := by
  rw [g.n] at hi
  rcases lt3 hi with rfl | rfl | rfl
  ·rw [g.a]; exact ⟨by decide,by decide⟩
  ·rw [g.b]; exact ⟨show (0 : Int) ≤ 1200 by decide,show (1200 : Int) ≤ 100000 by decide⟩
  ·rw [g.c]; exact ⟨by decide,by decide⟩
 sex i hi := by
  rw [g.n] at hi
  rcases lt3 hi with rfl | rfl | rfl
  ·rw [g.a]; decide
  ·rw [g.b]; exact hs
  ·rw [g.c]; decide
 sort i hi := by
  rw [g.n] at hi
  rcases lt3 hi with rfl | rfl | rfl
  ·rw [g.a]; exact ⟨by decide,by decide⟩
  ·rw [g.b]; exact ⟨show (0 : Int) ≤ 7 by decide,show (7 : Int) ≤ 99 by decide⟩
  ·rw [g.c]; exact ⟨by decide,by decide⟩
 mo i hi := by
  rw [g.n] at hi
  rcases lt3 hi with rfl | rfl | rfl
  ·rw [g.a]; exact .inl rfl
  ·right
   rw [g.b]
   show hitN L 1 < L.1 ∧ (L.2 (hitN L 1)).planted + 1000 ≤ 1200
   rw [g.h1,g.n,g.a]; exact ⟨by decide,by decide⟩
  ·rw [g.c]; exact .inl rfl
theorem Gr3.r0 (g : Gr3 L s p) : rootF L 0 = 0 := by unfold rootF; rw [rtN]; exact if_pos (by rw [g.a])
theorem Gr3.r2 (g : Gr3 L s p) : rootF L 2 = 2 := by unfold rootF; rw [rtN]; exact if_pos (by rw [g.c])
theorem Gr3.r1 (g : Gr3 L s 1200) (hs : s.1 ≤ 2) : rootF L 1 = 0 := by
 have := root_mo (g.ok hs) (k := 1) (by rw [g.n]; decide) (by rw [g.b]; exact (show ¬ (1 : Int) = -1 by decide))
 rw [g.b] at this
 have this : rootF L (hitN L 1) = _ := this
 rw [g.h1,g.r0] at this
 exact this.symm
theorem Gr3.mixed (g : Gr3 L twoU 1200) : badI L = 1 := fstI_at (by rw [g.n]; decide) ⟨0,by decide,by
  unfold clnB; rw [g.r0,g.r1 (by decide)]; rfl,by
  unfold ctrP; rw [g.a,g.b]; exact .inl ⟨by decide,by decide,by decide⟩⟩ fun j hj ⟨k,hk,_⟩ => by omega
theorem Gr3.good (g : Gr3 L zeroU 1200) : ¬ badI L < L.1 := bad_not fun i k hki hi hc => by
 rw [g.n] at hi
 unfold ctrP
 rcases lt3 hi with rfl | rfl | rfl
 ·omega
 ·obtain rfl : k = 0 := by omega
  rw [g.a,g.b]; rintro (⟨h,_⟩ | ⟨_,h,_⟩)
  ·exact h rfl
  ·exact h rfl
 ·have hc := of_decide_eq_true hc
  rw [g.r2] at hc
  rcases (by omega : k = 0 ∨ k = 1) with rfl | rfl
  ·rw [g.r0] at hc; omega
  ·rw [g.r1 (by decide)] at hc; omega
theorem Gr3.s0 (g : Gr3 L zeroU 1200) : (knP L 0).sex.1 = 1 := by
 have h0 : 0 < L.1 := by rw [g.n]; decide
 rw [kn_sex (g.ok (by decide)) g.good h0]
 have := (sex_gd g.good h0).2 0 h0 (cln_self _ _)
 have this : (L.2 0).sex.1 = 0 ∨ (L.2 0).sex.1 = sexF L 0 := this
 rw [g.a] at this
 rcases this with h | h
 ·exact absurd h (by decide)
 ·exact h.symm
theorem Gr3.s1 (g : Gr3 L zeroU 1200) : (knP L 1).sex.1 = 1 := by
 have h1 : 1 < L.1 := by rw [g.n]; decide
 rw [kn_sex (g.ok (by decide)) g.good h1]
 have := (sex_gd g.good h1).2 0 (by rw [g.n]; decide) (by unfold clnB; rw [g.r0,g.r1 (by decide)]; rfl)
 have this : (L.2 0).sex.1 = 0 ∨ (L.2 0).sex.1 = sexF L 1 := this
 rw [g.a] at this
 rcases this with h | h
 ·exact absurd h (by decide)
 ·exact h.symm
theorem Gr3.s2 (g : Gr3 L zeroU 1200) : (knP L 2).sex.1 = 2 := by
 have h2 : 2 < L.1 := by rw [g.n]; decide
 rw [kn_sex (g.ok (by decide)) g.good h2]
 have := (sex_gd g.good h2).2 2 h2 (cln_self _ _)
 have this : (L.2 2).sex.1 = 0 ∨ (L.2 2).sex.1 = sexF L 2 := this
 rw [g.c] at this
 rcases this with h | h
 ·exact absurd h (by decide)
 ·exact h.symm
theorem Gr3.hk (_g : Gr3 L zeroU 1200) (x : Int) : hitN (knF L) x = hitN L x := (knF_same L).hit x
structure Wk3 (W : Wk) (q : Int) : Prop where
 d : W.day = 4000
 o : W.opn = 30
 sn : W.spathes.1 = 3
 s0 : W.spathes.2 0 = ⟨q,⟨10,20⟩⟩
 s1 : W.spathes.2 1 = ⟨1,⟨12,14⟩⟩
 s2 : W.spathes.2 2 = ⟨2,⟨25,40⟩⟩
 hn : W.hours.1 = 4
 h0 : W.hours.2 0 = 15
 h1 : W.hours.2 1 = 22
 h2 : W.hours.2 2 = 45
 h3 : W.hours.2 3 = 60
 ln : W.lots.1 = 1
 l0 : W.lots.2 0 = ⟨5,2,0,50⟩
variable {W : Wk}
theorem wild_72 (g : Gr3 L zeroU 1200) (k : Wk3 W 5) : workE L W = 72 := by
 unfold workE
 rw [if_pos (pmE_ok (g.ok (by decide))),if_neg g.good,decP_f fun h => ?_]
 ·rfl
 ·have := (h.sp 0 (by rw [k.sn]; decide)).1
  rw [k.s0] at this
  obtain ⟨_,h2,_⟩ := this
  have h2 : (knP L (hitN (knF L) 5)).sex.1 = 1 := h2
  rw [g.hk,g.h5,g.s2] at h2
  exact absurd h2 (by decide)
theorem zero_72 (g : Gr3 L zeroU 1200) (h0 : W.opn = 0) : workE L W = 72 := by
 unfold workE
 rw [if_pos (pmE_ok (g.ok (by decide))),if_neg g.good,decP_f fun h => ?_]
 ·rfl
 ·have := h.o.1; omega
theorem mixed_71 (g : Gr3 L twoU 1200) : workE L W = 71 := by
 unfold workE
 rw [if_pos (pmE_ok (g.ok (by decide))),if_pos (by rw [g.mixed,g.n]; decide)]
theorem work_0 (g : Gr3 L zeroU 1200) (k : Wk3 W 1) : workE L W = 0 := by
 have b1 : bearsP (knF L) 1 4000 1 := by
  unfold bearsP; rw [g.hk,g.h1]
  exact ⟨by show 0 < L.1; rw [g.n]; decide,g.s0,by show 1500 ≤ 4000 - (L.2 0).planted; rw [g.a]; decide⟩
 have b2 : bearsP (knF L) 2 4000 1 := by
  unfold bearsP; rw [g.hk,g.h2]
  exact ⟨by show 1 < L.1; rw [g.n]; decide,g.s1,by show 1500 ≤ 4000 - (L.2 1).planted; rw [g.b]; decide⟩
 have b5 : bearsP (knF L) 5 4000 2 := by
  unfold bearsP; rw [g.hk,g.h5]
  exact ⟨by show 2 < L.1; rw [g.n]; decide,g.s2,by show 1500 ≤ 4000 - (L.2 2).planted; rw [g.c]; decide⟩
 have hk : WkOk (knF L) W := {
  d := by rw [k.d]; decide
  o := by rw [k.o]; decide
  s := by rw [k.sn]; decide
  h := by rw [k.hn]; decide
  l := by rw [k.ln]; decide
  sp := fun i hi => by
   rw [k.sn] at hi
   rw [k.d]
   rcases lt3 hi with rfl | rfl | rfl
   ·rw [k.s0]; exact ⟨b1,by decide,by decide,by decide⟩
   ·rw [k.s1]; exact ⟨b1,by decide,by decide,by decide⟩
   ·rw [k.s2]; exact ⟨b2,by decide,by decide,by decide⟩
  hr := fun i hi => by
   rw [k.hn] at hi
   unfold HrOk
   rcases lt4 hi with rfl | rfl | rfl | rfl
   ·rw [k.h0]; exact ⟨by decide,by decide,fun h => by omega⟩
   ·show 0 ≤ W.hours.2 1 ∧ W.hours.2 1 ≤ _ ∧ (0 < 1 → W.hours.2 0 < W.hours.2 1)
    rw [k.h1,k.h0]; decide
   ·show 0 ≤ W.hours.2 2 ∧ W.hours.2 2 ≤ _ ∧ (0 < 2 → W.hours.2 1 < W.hours.2 2)
    rw [k.h2,k.h1]; decide
   ·show 0 ≤ W.hours.2 3 ∧ W.hours.2 3 ≤ _ ∧ (0 < 3 → W.hours.2 2 < W.hours.2 3)
    rw [k.h3,k.h2]; decide
  lt := fun i hi => by
   rw [k.ln] at hi
   obtain rfl : i = 0 := by omega
   rw [k.l0,k.d]; exact ⟨b5,by decide,by decide,by decide,by decide⟩ }
 unfold workE
 rw [if_pos (pmE_ok (g.ok (by decide))),if_neg g.good,decP_t hk]; rfl
theorem cov_no {c : Cv} (k : Wk3 W 1) (h1 : c.spathes.1 = 0) (h2 : c.hours.1 = 1) (h3 : c.hours.2 0 = 0) (h4 : c.lots.1 = 0) : covB W c = false := by
 have e : lefB W c 0 1 0 = true := by
  have t : takesF W 0 1 = true := by unfold takesF; rw [k.s0,k.h1,k.o]; decide
  have g : goodF W 1 0 = true := by unfold goodF; rw [k.l0,k.h1]; decide
  have a : hasL c.spathes (0 : Nat) = false := decP_f fun ⟨i,hi,_⟩ => by omega
  have b : hasL c.hours (1 : Nat) = false := decP_f fun ⟨i,hi,e⟩ => by
   obtain rfl : i = 0 := by omega
   rw [h3] at e; exact absurd e (by decide)
  have d : hasL c.lots (0 : Nat) = false := decP_f fun ⟨i,hi,_⟩ => by omega
  unfold lefB
  rw [t,g,a,b,d]; rfl
 cases h : covB W c
 ·rfl
 ·have h := h
  simp only [covB,Bool.and_eq_true] at h
  have := decP_true.1 h.2.2.2 0 (by rw [k.sn]; decide) 1 (by rw [k.hn]; decide) 0 (by rw [k.ln]; decide)
  rw [e] at this; cases this
end
end Go.Proofs.Ytlapepdhkomijaa
namespace Go.Proofs.Ytlapepdhkomijaa
open Go Go.RowKit
variable {G : Nat → Option (Nat × (Nat → Val))}
noncomputable def clX (l : Pms) (id : Int) : Int := if pmE l = 0 then (if hitN l id < l.1 then 0 else 6) else 70
noncomputable def sClE : Spec := spec2 (TSl RPm) TI (fun _ _ => True) fun l id => .tup (.cons .und (.cons (.int .i64 (clX l id)) .nil))
theorem pClE : PureOk Try.prog G 17 sClE := by
 refine PureOk.weak (show PureOk Try.prog G _ sClQ from pClonesPr) rfl fun vs hp => ?_
 simp only [sClE,sClQ,spec2] at hp ⊢
 split at hp
 ·refine ⟨hp,?_⟩
  unfold clQ clX
  split
  ·split <;> exact ⟨_,rfl,_,_,rfl,trivial,_,_,rfl,rfl,rfl⟩
  ·exact ⟨_,rfl,_,_,rfl,trivial,_,_,rfl,rfl,rfl⟩
 ·exact hp.elim
noncomputable def wkX (l : Pms) (w : Wk) : Val := .tup (.cons .und (.cons (.int .i64 (workE l w)) .nil))
noncomputable def sWkX : Spec := spec2 (TSl RPm) TWk (fun _ _ => True) wkX
theorem wkX_mo (l : Pms) (w : Wk) : vsubP (wkX l w) (moQ l w) := by
 unfold wkX moQ
 split
 ·rename_i h; rw [h]; exact ⟨_,rfl,_,_,rfl,trivial,_,_,rfl,rfl,rfl⟩
 ·exact ⟨_,rfl,_,_,rfl,trivial,_,_,rfl,rfl,rfl⟩
theorem wkX_sl (l : Pms) (w : Wk) : vsubP (wkX l w) (slQ l w) := by
 unfold wkX slQ
 split
 ·rename_i h; rw [h]; exact ⟨_,rfl,_,_,rfl,trivial,_,_,rfl,rfl,rfl⟩
 ·exact ⟨_,rfl,_,_,rfl,trivial,_,_,rfl,rfl,rfl⟩
noncomputable def prC (l : Pms) (w : Wk) : Cv := if workE l w = 0 then ⟨(cntN (fun i => !lcB w (.sp i)) w.spathes.1,fun a => (selN (fun i => !lcB w (.sp i)) w.spathes.1 a : Int)),(cntN (fun h => lcB w (.hi h) && !lcB w (.ho h)) w.hours.1,fun a => (selN (fun h => lcB w (.hi h) && !lcB w (.ho h)) w.hours.1 a : Int)),(cntN (fun j => lcB w (.lt j)) w.lots.1,fun a => (selN (fun j => lcB w (.lt j)) w.lots.1 a : Int))⟩ else ⟨(0,fun _ => 0),(0,fun _ => 0),(0,fun _ => 0)⟩
noncomputable def prX (l : Pms) (w : Wk) : Val := .tup (.cons (.agg (.cons (.view 1 (prC l w).spathes.1 fun a _ => .int .i64 ((prC l w).spathes.2 a)) (.cons (.view 1 (prC l w).hours.1 fun a _ => .int .i64 ((prC l w).hours.2 a)) (.cons (.view 1 (prC l w).lots.1 fun a _ => .int .i64 ((prC l w).lots.2 a)) .nil)))) (.cons (.int .i64 (workE l w)) .nil))
noncomputable def sPrX : Spec := spec2 (TSl RPm) TWk (fun _ _ => True) prX
theorem prX_pr (l : Pms) (w : Wk) : vsubP (prX l w) (prQ l w) := by
 have : prX l w = prQ l w := by
  unfold prX prQ prC
  split
  ·rename_i h; rw [h]; rfl
  ·rfl
 rw [this,vsubP_self]; trivial
theorem pMoE : PureOk Try.prog G 26 sWkX := by
 refine PureOk.weak (show PureOk Try.prog G _ sMoQ from pMostP) rfl fun vs hp => ?_
 simp only [sWkX,sMoQ,spec2] at hp ⊢
 split at hp
 ·exact ⟨hp,wkX_mo _ _⟩
 ·exact hp.elim
theorem pSlE : PureOk Try.prog G 24 sWkX := by
 refine PureOk.weak (show PureOk Try.prog G _ sSlQ from pSlotsP) rfl fun vs hp => ?_
 simp only [sWkX,sSlQ,spec2] at hp ⊢
 split at hp
 ·exact ⟨hp,wkX_sl _ _⟩
 ·exact hp.elim
theorem pPrE : PureOk Try.prog G 31 sPrX := by
 refine PureOk.weak (show PureOk Try.prog G _ sPrQ from pProofP) rfl fun vs hp => ?_
 simp only [sPrX,sPrQ,spec2] at hp ⊢
 split at hp
 ·exact ⟨hp,prX_pr _ _⟩
 ·exact hp.elim
noncomputable def pvX (l : Pms) (w : Wk) (c : Cv) : Int := if workE l w = 0 then (if covB w c = true then 0 else 73) else workE l w
noncomputable def sPvX : Spec := spec3 (TSl RPm) TWk TCv (fun _ _ _ => True) fun l w c => .tup (.cons .und (.cons (.int .i64 (pvX l w c)) .nil))
theorem pPvE : PureOk Try.prog G 33 sPvX := by
 refine PureOk.weak pProvesP rfl fun vs hp => ?_
 simp only [sPvX,sProves,spec3] at hp ⊢
 split at hp
 ·refine ⟨hp,?_⟩
  unfold pvV pvX
  split
  ·split <;> exact ⟨_,rfl,_,_,rfl,trivial,_,_,rfl,rfl,rfl⟩
  ·exact ⟨_,rfl,_,_,rfl,trivial,_,_,rfl,rfl,rfl⟩
 ·exact hp.elim
noncomputable def sKnE : Spec := spec1 (TSl RPm) (fun _ => True) fun l => .tup (.cons .und (.cons (.int .i64 (knI l)) (.cons (.int .i64 (knX l)) .nil)))
theorem pKnE : PureOk Try.prog G 15 sKnE := by
 refine PureOk.weak pKnU rfl fun vs hp => ?_
 simp only [sKnE,sKnU,spec1] at hp ⊢
 split at hp
 ·exact ⟨hp,⟨_,rfl,_,_,rfl,trivial,_,_,rfl,rfl,_,_,rfl,rfl,rfl⟩⟩
 ·exact hp.elim
section
variable {L : Pms} {s : UI .u8} {p : Int}
theorem ex_none (g : Gr3 L zeroU 1200) : clX L 3 = 6 := by
 have h3 : hitN L 3 = L.1 := fstI_no fun j hj e => by
  rw [g.n] at hj
  rcases lt3 hj with rfl | rfl | rfl
  ·rw [g.a] at e; exact absurd e (by decide)
  ·rw [g.b] at e; exact absurd e (by decide)
  ·rw [g.c] at e; exact absurd e (by decide)
 unfold clX
 rw [if_pos (pmE_ok (g.ok (by decide))),if_neg (by rw [h3]; exact Nat.lt_irrefl _)]
theorem ex_mixX (g : Gr3 L twoU 1200) : knX L = 71 := (kn_2 (g.ok (by decide)) (by rw [g.mixed,g.n]; decide)).1
theorem ex_mixI (g : Gr3 L twoU 1200) : knI L = 1 := by
 rw [(kn_2 (g.ok (by decide)) (by rw [g.mixed,g.n]; decide)).2.2,g.mixed]; rfl
theorem ex_cov {W : Wk} {c : Cv} (g : Gr3 L zeroU 1200) (k : Wk3 W 1) (h1 : c.spathes.1 = 0) (h2 : c.hours.1 = 1) (h3 : c.hours.2 0 = 0) (h4 : c.lots.1 = 0) : pvX L W c = 73 := by
 unfold pvX
 rw [if_pos (work_0 g k),cov_no k h1 h2 h3 h4]; rfl
end
def sLawExamples : Spec := spec0 (.bool true)
set_option maxHeartbeats 4000000 in
set_option maxRecDepth 100000 in
theorem pLawExamples : PureOk Try.prog G 6 sLawExamples := by
  refine fn0 (S := [(36,sAliveP),(17,sClE),(15,sKnE),(26,sWkX),(24,sWkX),(31,sPrX),(33,sPvX),(19,sCheck7),(74,sSpanP),(37,sGroveP)]) (I := [(37,a37),(38,a38)]) mixed
    (.cons pAliveP (.cons pClE (.cons pKnE (.cons pMoE (.cons pSlE (.cons pPrE (.cons pPvE (.cons pPalmCheck (.cons pSpanP (.cons pGroveP .nil)))))))))) (.cons Try.func37 c37 (.cons Try.func38 c38 .nil)) Try.func6 c6 ?_
  simp (config := { maxSteps := 300000 }) only [RunTo,a6,a37,a38,sAliveP,sClE,sKnE,sWkX,wkX,sPrX,prX,sPvX,sCheck7,sSpanP,sGroveP,and_false,if_false,↓imp_tt,↓imp_tf,↓imp_ft,↓imp_ff,↓reduceIte,reduceCtorEq,Nat.reduceEqDiff,Nat.reduceAdd,Nat.reduceSub,Nat.reduceLeDiff,Nat.reduceMul,Nat.reduceLT,Int.reduceToNat,Int.reduceLT,Int.reduceLE,Int.reduceEq,Int.reduceNeg,Int.reduceMul,Int.reduceAdd,Int.reduceSub,Int.reduceNe,Int.reduceBEq,Int.reduceBNe,Nat.reducePow,go_sem]
  repeat' apply And.intro
  all_goals first
    | exact fun i hi => absurd hi (Nat.not_lt_zero i)
    | (intro i hi
       rcases lt3 hi with rfl | rfl | rfl <;> first | exact ⟨rfl,rfl,rfl,⟨rfl,by decide,by decide⟩,rfl⟩ | exact ⟨rfl,rfl,rfl⟩)
    | (intro i hi
       rcases lt4 hi with rfl | rfl | rfl | rfl <;> exact rfl)
    | (intro i hi
       obtain rfl : i = 0 := by omega
       first | exact ⟨rfl,rfl,rfl,rfl⟩ | exact rfl)
    | skip
  repeat' (first | (with_reducible apply And.intro) | intro _)
  all_goals (try (first
    | (rename_i h; exact h (Gr3.young (s := zeroU) ⟨rfl,rfl,rfl,rfl⟩))
    | (rename_i h; exact h (ex_none ⟨rfl,rfl,rfl,rfl⟩))
    | (rename_i h; exact h (ex_mixX ⟨rfl,rfl,rfl,rfl⟩))
    | (rename_i h; exact h (ex_mixI ⟨rfl,rfl,rfl,rfl⟩))
    | (rename_i h; exact h (mixed_71 ⟨rfl,rfl,rfl,rfl⟩))
    | (rename_i h; exact h (wild_72 ⟨rfl,rfl,rfl,rfl⟩ ⟨rfl,rfl,rfl,rfl,rfl,rfl,rfl,rfl,rfl,rfl,rfl,rfl,rfl⟩))
    | (rename_i h; exact h (zero_72 ⟨rfl,rfl,rfl,rfl⟩ rfl))
    | (rename_i h; exact h (ex_cov ⟨rfl,rfl,rfl,rfl⟩ ⟨rfl,rfl,rfl,rfl,rfl,rfl,rfl,rfl,rfl,rfl,rfl,rfl,rfl⟩ rfl rfl rfl rfl))
    | (rename_i i hi
       rcases lt3 hi with rfl | rfl | rfl <;> exact ⟨rfl,rfl,rfl,⟨rfl,by decide,by decide⟩,rfl⟩)
    | exact zero_72 ⟨rfl,rfl,rfl,rfl⟩ rfl
    | exact rfl))
end Go.Proofs.Ytlapepdhkomijaa
