/- Palms, outright: some plan, by choices. No condition but bounds. -/
import Derived.Test.YtlapepdhkomijaaPPla
import Derived.Test.YtlapepdhkomijaaPSel
import Derived.Test.YtlapepdhkomijaaPMrk
import Derived.Test.YtlapepdhkomijaaPEdg2
import Derived.Test.YtlapepdhkomijaaPCmp
import Derived.Test.YtlapepdhkomijaaPPvP
set_option linter.unusedSimpArgs false
set_option linter.unusedVariables false
namespace Go.Proofs.Ytlapepdhkomijaa
open Go Go.RowKit
variable {G : Nat → Option (Nat × (Nat → Val))}
def snocD (l : Dus) (d : Du) : Dus := (l.1 + 1,fun a => if a = l.1 then d else l.2 a)
def dusA (w : Wk) (i a : Nat) : Du := ⟨i,(a / w.lots.1 : Nat),(a % w.lots.1 : Nat)⟩
noncomputable def canA (w : Wk) (l : Dus) (i a : Nat) : Bool := planB w (snocD l (dusA w i a))
noncomputable def canC (w : Wk) (l : Dus) (i : Nat) : Nat := cntN (canA w l i) (w.hours.1 * w.lots.1)
noncomputable def pickD (w : Wk) (b : Nat × (Nat → UI .u32)) (l : Dus) (i : Nat) : Dus :=
 if (choU b i % ((canC w l i : Int) + 1)) < canC w l i then snocD l (dusA w i (selN (canA w l i) (w.hours.1 * w.lots.1) (choU b i % ((canC w l i : Int) + 1)).toNat)) else l
noncomputable def someF (w : Wk) (b : Nat × (Nat → UI .u32)) : Nat → Dus
 | 0 => (0,fun _ => ⟨0,0,0⟩)
 | i + 1 => pickD w b (someF w b i) i
theorem choU_nn (b : Nat × (Nat → UI .u32)) (i : Int) : 0 ≤ choU b i := by
 unfold choU; split
 ·exact (b.2 i.toNat).2.1
 ·exact Int.le_refl _
theorem some_pl (w : Wk) (b : Nat × (Nat → UI .u32)) : ∀ i,PlL w (someF w b i) ∧ (someF w b i).1 ≤ i := by
 intro i; induction i with
 | zero => exact ⟨fun k hk => absurd hk (Nat.not_lt_zero _),Nat.le_refl _⟩
 | succ i ih =>
  show PlL w (pickD w b (someF w b i) i) ∧ (pickD w b (someF w b i) i).1 ≤ i + 1
  unfold pickD
  split
  ·rename_i h
   have h0 : 0 ≤ choU b i % ((canC w (someF w b i) i : Int) + 1) := Int.emod_nonneg _ (by omega)
   have := (selN_lt (p := canA w (someF w b i) i) (n := w.hours.1 * w.lots.1) (j := (choU b i % ((canC w (someF w b i) i : Int) + 1)).toNat) (by show _ < canC w (someF w b i) i; omega)).2
   exact ⟨decP_true.1 this,by show (someF w b i).1 + 1 ≤ _; omega⟩
  ·exact ⟨ih.1,by omega⟩
theorem dusA_at {w : Wk} {i h j : Nat} (hj : j < w.lots.1) : dusA w i (h * w.lots.1 + j) = ⟨i,h,j⟩ := by
 have h1 : (h * w.lots.1 + j) / w.lots.1 = h := by
  rw [Nat.mul_comm,Nat.mul_add_div (by omega),Nat.div_eq_of_lt hj]; rfl
 have h2 : (h * w.lots.1 + j) % w.lots.1 = j := by
  rw [Nat.mul_comm,Nat.mul_add_mod,Nat.mod_eq_of_lt hj]
 unfold dusA; rw [h1,h2]
theorem apW (l : Dus) (d : Du) : ∀ a,a < l.1 + 1 → Du.w fun j => if a < l.1 then if a < 0 then .und else (l.2 a).c j else vget (vget (.cons d.L .nil) (a - l.1)) j := fun a ha => by
 by_cases e : a < l.1
 ·simp only [if_pos e,if_neg (Nat.not_lt_zero _)]; exact ⟨rfl,rfl,rfl⟩
 ·simp only [if_neg e]
  obtain rfl : a = l.1 := by omega
  rw [Nat.sub_self]; exact ⟨rfl,rfl,rfl⟩
theorem planB_snoc {w : Wk} {l : Dus} {d : Du} {f : Nat → Du} (h : ∀ k,k < l.1 + 1 → f k = (snocD l d).2 k) : planB w (l.1 + 1,f) = planB w (snocD l d) := decP_ext ⟨fun q k hk => (q k hk).congr fun a ha => h a (by have : k < l.1 + 1 := hk; omega),fun q k hk => (q k hk).congr fun a ha => (h a (by have : k < l.1 + 1 := hk; omega)).symm⟩
noncomputable def sSome : Spec := spec2 TWk (TSl (RU .u32)) (fun w _ => WkB w) fun w b => .view 3 (someF w b w.spathes.1).1 fun i j => ((someF w b w.spathes.1).2 i).c j
set_option maxHeartbeats 4000000 in
set_option maxRecDepth 100000 in
theorem pSome : PureOk Try.prog G 42 sSome := by
 refine fn2 (S := [(40,sPlanL),(43,sChooseP)]) (I := []) mixed (.cons pPlanL (.cons pChooseP .nil)) .nil Try.func42 c42 fun w b hb hw => ?_
 simp only [RU_k,RU_C,Nat.reduceSub,Nat.reducePow,go_sem] at hw
 have hbt : WkB w = True := eq_true hb
 have hS := hb.s
 have hH := hb.h
 have hL := hb.l
 simp only [RunTo,a42,RU_k,RU_C,hw,↓reduceIte,Nat.reduceEqDiff,Nat.reduceAdd,Nat.reduceSub,Nat.reduceLeDiff,Nat.reducePow,go_sem]
 refine loopJ (ι := Nat) (fun i => i ≤ w.spathes.1) (fun i => w.spathes.1 - i) [1,2,14] (fun i => [(5,.own (.n 1)),(15,.int .i64 i)]) (fun i => [(1,.row 84 3 (someF w b i).1 fun a c => ((someF w b i).2 a).c c)]) 1 0 (Nat.zero_le _) (by simp only [someF,↓reduceIte,reduceCtorEq,Nat.reduceEqDiff,Nat.reduceAdd,Nat.reduceLT,go_sem]; try simp) fun i hi => ?_
 have hsl := (some_pl w b i).2
 by_cases hil : i < w.spathes.1
 ·have fi : ((i : Int) < (w.spathes.1 : Int)) = True := eq_true (by omega)
  have pi : (0 ≤ (i : Int)) = True := eq_true (by omega)
  simp only [fi,hw,↓imp_tt,↓imp_tf,↓reduceIte,reduceCtorEq,Nat.reduceEqDiff,Nat.reduceAdd,Nat.reduceSub,Nat.reduceLeDiff,Nat.reducePow,go_sem]
  generalize hl : someF w b i = l at *
  refine loopJ (ι := Nat) (fun h => h ≤ w.hours.1) (fun h => w.hours.1 - h) [1,2,5,6,14,15,20] (fun h => [(7,.own (.n 2)),(21,.int .i64 h)]) (fun h => [(1,.row 84 3 l.1 fun a c => (l.2 a).c c),(2,.row 84 3 (cntN (canA w l i) (h * w.lots.1)) fun a c => (dusA w i (selN (canA w l i) (h * w.lots.1) a)).c c)]) 1 0 (Nat.zero_le _) (by simp only [cntN,Nat.zero_mul,↓reduceIte,reduceCtorEq,Nat.reduceEqDiff,Nat.reduceAdd,Nat.reduceLT,go_sem]; try simp) fun h hh => ?_
  by_cases hhl : h < w.hours.1
  ·have fh : ((h : Int) < (w.hours.1 : Int)) = True := eq_true (by omega)
   simp only [fh,hw,↓imp_tt,↓imp_tf,↓reduceIte,reduceCtorEq,Nat.reduceEqDiff,Nat.reduceAdd,Nat.reduceSub,Nat.reduceLeDiff,Nat.reducePow,go_sem]
   refine loopI (ι := Nat) (fun j => j ≤ w.lots.1) (fun j => w.lots.1 - j) [1,2,5,6,8,14,15,20,21,26] (fun j => [(7,.own (.n 2)),(27,.int .i64 j)]) (fun j => [(1,.row 84 3 l.1 fun a c => (l.2 a).c c),(2,.row 84 3 (cntN (canA w l i) (h * w.lots.1 + j)) fun a c => (dusA w i (selN (canA w l i) (h * w.lots.1 + j) a)).c c)]) 0 (Nat.zero_le _) (by simp only [Nat.add_zero,↓reduceIte,reduceCtorEq,Nat.reduceEqDiff,Nat.reduceLT,go_sem]; try simp) fun j hj => ?_
   by_cases hjl : j < w.lots.1
   ·have fj : ((j : Int) < (w.lots.1 : Int)) = True := eq_true (by omega)
    have hm : h * w.lots.1 ≤ 15 * 4 := Nat.mul_le_mul (by omega) (by omega)
    have hcl := cntN_le (canA w l i) (h * w.lots.1 + j)
    have hda := dusA_at (w := w) (i := i) (h := h) hjl
    have haw := apW l ⟨i,h,j⟩
    simp only [fj,sPlanL,hbt,↓imp_tt,↓imp_tf,↓reduceIte,reduceCtorEq,Nat.reduceEqDiff,Nat.reduceAdd,Nat.reduceSub,Nat.reduceLeDiff,Nat.reduceLT,Nat.reducePow,go_sem]
    refine ⟨by omega,by omega,by omega,by omega,haw,by omega,?_⟩
    rw [planB_snoc (l := l) (d := ⟨i,h,j⟩) (fun a ha => by
     show _ = if a = l.1 then _ else _
     by_cases e : a < l.1
     ·simp only [if_pos e,if_neg (Nat.not_lt_zero _),if_neg (show ¬ a = l.1 by omega)]
     ·obtain rfl : a = l.1 := by omega
      simp only [if_neg e,if_true,Nat.sub_self]; rfl)]
    have hca : canA w l i (h * w.lots.1 + j) = planB w (snocD l ⟨i,h,j⟩) := by unfold canA; rw [hda]
    rw [← hca]
    constructor
    ·intro hc
     have hcn : cntN (canA w l i) (h * w.lots.1 + (j + 1)) = cntN (canA w l i) (h * w.lots.1 + j) + 1 := by
      show cntN _ (h * w.lots.1 + j + 1) = _
      simp only [cntN,hc,if_true]
     refine ⟨by omega,by omega,inv_intro (j + 1) hjl (by omega) ?_⟩
     simp only [hcn,↓reduceIte,reduceCtorEq,Nat.reduceEqDiff,Nat.reduceLT,go_sem]
     refine ⟨wrS (by omega),fun a ha c hc' => ?_⟩
     have hs : selN (canA w l i) (h * w.lots.1 + (j + 1)) a = if a = cntN (canA w l i) (h * w.lots.1 + j) then h * w.lots.1 + j else selN (canA w l i) (h * w.lots.1 + j) a := by
      show selN _ (h * w.lots.1 + j + 1) a = _
      simp only [selN,hc,true_and]
     rw [hs]
     by_cases e : a = cntN (canA w l i) (h * w.lots.1 + j)
     ·subst e
      rw [if_pos rfl,if_neg (Nat.lt_irrefl _),hda,Nat.sub_self]
      match c,hc' with
      | 0,_ | 1,_ | 2,_ => exact rfl
     ·rw [if_neg e,if_pos (by omega),vsubP_self]; trivial
    ·intro hc
     have hcn : cntN (canA w l i) (h * w.lots.1 + (j + 1)) = cntN (canA w l i) (h * w.lots.1 + j) := by
      show cntN _ (h * w.lots.1 + j + 1) = _
      simp [cntN,hc]
     have hs : ∀ a,selN (canA w l i) (h * w.lots.1 + (j + 1)) a = selN (canA w l i) (h * w.lots.1 + j) a := fun a => by
      show selN _ (h * w.lots.1 + j + 1) a = _
      simp [selN,hc]
     refine inv_intro (j + 1) hjl (by omega) ?_
     simp only [hcn,hs,↓reduceIte,reduceCtorEq,Nat.reduceEqDiff,Nat.reduceLT,go_sem]
     exact wrS (by omega)
   ·have fj : ((j : Int) < (w.lots.1 : Int)) = False := eq_false (by omega)
    obtain rfl : j = w.lots.1 := by omega
    simp only [fj,↓imp_ft,↓imp_ff,↓reduceIte,reduceCtorEq,Nat.reduceEqDiff,go_sem]
    rw [show h * w.lots.1 + w.lots.1 = (h + 1) * w.lots.1 from (Nat.succ_mul _ _).symm]
    refine inv_intro (h + 1) hhl (by omega) ?_
    simp only [↓reduceIte,reduceCtorEq,Nat.reduceEqDiff,Nat.reduceLT,go_sem]
    exact wrS (by omega)
  ·have fh : ((h : Int) < (w.hours.1 : Int)) = False := eq_false (by omega)
   obtain rfl : h = w.hours.1 := by omega
   have hm : w.hours.1 * w.lots.1 ≤ 16 * 4 := Nat.mul_le_mul (by omega) (by omega)
   have hcl := cntN_le (canA w l i) (w.hours.1 * w.lots.1)
   have hcu := choU_nn b i
   have hcv : choU b i ≤ 4294967295 := by
    unfold choU; split
    ·exact (b.2 (i : Int).toNat).2.2
    ·decide
   have e1 : IntKind.i64.wrap (choU b i) = choU b i := wr64 (by omega) (by omega)
   have e2 : IntKind.i64.wrap ((cntN (canA w l i) (w.hours.1 * w.lots.1) : Int) + 1) = (cntN (canA w l i) (w.hours.1 * w.lots.1) : Int) + 1 := wr64 (by omega) (by omega)
   have e3 : (choU b i).tmod ((cntN (canA w l i) (w.hours.1 * w.lots.1) : Int) + 1) = choU b i % ((cntN (canA w l i) (w.hours.1 * w.lots.1) : Int) + 1) := Int.tmod_eq_emod_of_nonneg hcu
   have e4 := Int.emod_nonneg (choU b i) (show ((cntN (canA w l i) (w.hours.1 * w.lots.1) : Int) + 1) ≠ 0 by omega)
   have hst : someF w b (i + 1) = pickD w b l i := by rw [← hl]; rfl
   simp only [fh,sChooseP,pi,RU_k,RU_C,RU_W,RU_D,e1,e2,e3,hw,↓imp_ft,↓imp_ff,↓reduceIte,reduceCtorEq,Nat.reduceEqDiff,Nat.reduceAdd,Nat.reduceSub,Nat.reduceLeDiff,Nat.reduceLT,Nat.reducePow,go_sem]
   refine ⟨by omega,fun hq => ⟨e4,hq,by omega,by omega,?_⟩,fun hq => ?_⟩
   ·have hpk : pickD w b l i = snocD l (dusA w i (selN (canA w l i) (w.hours.1 * w.lots.1) (choU b i % ((cntN (canA w l i) (w.hours.1 * w.lots.1) : Int) + 1)).toNat)) := if_pos hq
    refine inv_intro (i + 1) hil (by omega) ?_
    simp only [hst,hpk,↓reduceIte,reduceCtorEq,Nat.reduceEqDiff,Nat.reduceLT,go_sem]
    refine ⟨wrS (by omega),rfl,fun a ha c hc => ?_⟩
    show vsubP ((if a = l.1 then _ else l.2 a : Du).c c) _
    by_cases e : a < l.1
    ·rw [if_pos e,if_neg (by omega),vsubP_self]; trivial
    ·obtain rfl : a = l.1 := by omega
     rw [if_pos rfl,if_neg e,Nat.sub_self]
     match c,hc with
     | 0,_ | 1,_ | 2,_ => exact rfl
   ·have hpk : pickD w b l i = l := if_neg hq
    refine inv_intro (i + 1) hil (by omega) ?_
    simp only [hst,hpk,↓reduceIte,reduceCtorEq,Nat.reduceEqDiff,Nat.reduceLT,go_sem]
    exact wrS (by omega)
 ·have fi : ((i : Int) < (w.spathes.1 : Int)) = False := eq_false (by omega)
  obtain rfl : i = w.spathes.1 := by omega
  simp only [fi,↓imp_ft,↓imp_ff,↓reduceIte,reduceCtorEq,Nat.reduceEqDiff,Nat.reduceAdd,go_sem]
end Go.Proofs.Ytlapepdhkomijaa
namespace Go.Proofs.Ytlapepdhkomijaa
open Go Go.RowKit
theorem sumN_app (f : Nat → Int) (a : Nat) : ∀ b,sumN f (a + b) = sumN f a + sumN (fun i => f (a + i)) b := by
 intro b; induction b with
 | zero => simp [sumN]
 | succ b ih =>
  show sumN f (a + b) + f (a + b) = _
  rw [ih]; simp only [sumN]; omega
theorem sumN_two (f : Nat → Int) : ∀ H,sumN f (2 * H) = sumN (fun h => f (2 * h) + f (2 * h + 1)) H := by
 intro H; induction H with
 | zero => rfl
 | succ H ih =>
  have e : 2 * (H + 1) = 2 * H + 1 + 1 := by omega
  rw [e]
  simp only [sumN]
  rw [ih]; omega
theorem sum_nodes (N : Nt) (f : Nd → Int) : sumN (fun u => f (pdec N.S N.H u)) N.n = f .src + f .snk + sumN (fun i => f (.sp i)) N.S + sumN (fun h => f (.hi h) + f (.ho h)) N.H + sumN (fun j => f (.lt j)) N.L := by
 have hC := pcod N
 have ed := fun (x : Nd) (hx : N.ok x) => (hC.ed x hx).2
 show sumN (fun u => f (pdec N.S N.H u)) (2 + N.S + 2 * N.H + N.L) = _
 rw [sumN_app,sumN_app,sumN_app,sumN_two]
 have e0 : sumN (fun u => f (pdec N.S N.H u)) 2 = f .src + f .snk := by
  have a := ed .src trivial; have b := ed .snk trivial
  have a : pdec N.S N.H 0 = .src := a
  have b : pdec N.S N.H 1 = .snk := b
  simp only [sumN,a,b]; omega
 have e1 : sumN (fun i => f (pdec N.S N.H (2 + i))) N.S = sumN (fun i => f (.sp i)) N.S := sumN_congr fun i hi => by
  have a : pdec N.S N.H (2 + i) = .sp i := ed (.sp i) hi
  rw [a]
 have e2 : sumN (fun h => f (pdec N.S N.H (2 + N.S + 2 * h)) + f (pdec N.S N.H (2 + N.S + (2 * h + 1)))) N.H = sumN (fun h => f (.hi h) + f (.ho h)) N.H := sumN_congr fun h hh => by
  have a : pdec N.S N.H (2 + N.S + 2 * h) = .hi h := ed (.hi h) hh
  have b : pdec N.S N.H (2 + N.S + 2 * h + 1) = .ho h := ed (.ho h) hh
  rw [a,show 2 + N.S + (2 * h + 1) = 2 + N.S + 2 * h + 1 by omega,b]
 have e3 : sumN (fun j => f (pdec N.S N.H (2 + N.S + 2 * N.H + j))) N.L = sumN (fun j => f (.lt j)) N.L := sumN_congr fun j hj => by
  have a : pdec N.S N.H (2 + N.S + 2 * N.H + j) = .lt j := ed (.lt j) hj
  rw [a]
 rw [e0,e1,e2,e3]
theorem lcut_clo {w : Wk} (hb : WkB w) {r : Nat → Nat → Int} (hF : FlowOk (ntW w) (pdec w.spathes.1 w.hours.1) r (maxP (ntW w))) {u v : Nat} (hu : u < (ntW w).n) (hv : v < (ntW w).n) (h : LCut (ntW w) (pdec w.spathes.1 w.hours.1) u) (h0 : 0 < r u v) : LCut (ntW w) (pdec w.spathes.1 w.hours.1) v := by
 intro r' s' hF' e0 e1 hc
 exact (hF'.closed hF e0 e1 hc) u hu (h r' s' hF' e0 e1 hc) v hv h0
theorem lcut_snk {w : Wk} (hb : WkB w) {r : Nat → Nat → Int} (hF : FlowOk (ntW w) (pdec w.spathes.1 w.hours.1) r (maxP (ntW w))) : ¬ LCut (ntW w) (pdec w.spathes.1 w.hours.1) 1 := by
 obtain ⟨hgf,hun⟩ := ntW_ok hb
 obtain ⟨r',s',f1,f2,f3,f4⟩ := flow_ex (pcod (ntW w)) hgf hun 0 r _ hF (by omega)
 intro h
 have := h r' s' f1 f2 f3 f4
 rw [f3] at this; cases this
structure LcR (w : Wk) : Prop where
 t : ∀ i,i < w.spathes.1 → ∀ h,h < w.hours.1 → lcB w (.sp i) = true → takesF w i h = true → lcB w (.hi h) = true
 g : ∀ h,h < w.hours.1 → ∀ j,j < w.lots.1 → lcB w (.ho h) = true → goodF w h j = true → lcB w (.lt j) = true
theorem lc_rules {w : Wk} (hb : WkB w) : LcR w := by
 obtain ⟨hg,_⟩ := gr_end hb
 obtain ⟨n,hn⟩ : ∃ n,w.spathes.1 + 2 * w.hours.1 + w.lots.1 < n := ⟨_,Nat.lt_succ_self _⟩
 have hS := splt_of hg
 have hend := fun {x : Nd} (hx : (ntW w).ok x) => end_lc hb hn hx
 have hfix := rds_end (lt := ltK (stD w (fun _ => true) (fun j => (w.lots.2 j).units) w.spathes.1).pl (stD w (fun _ => true) (fun j => (w.lots.2 j).units) w.spathes.1).cnt) (fun h hh => hS.sp hh) ⟨mkK (stD w (fun _ => true) (fun j => (w.lots.2 j).units) w.spathes.1).pl (stD w (fun _ => true) (fun j => (w.lots.2 j).units) w.spathes.1).cnt,fun _ => false,fun _ => false,fun _ => false⟩ hn
 change ∀ h,h < w.hours.1 → hrD w _ _ h (endM w (stD w (fun _ => true) (fun j => (w.lots.2 j).units) w.spathes.1) n) = endM w (stD w (fun _ => true) (fun j => (w.lots.2 j).units) w.spathes.1) n at hfix
 generalize endM w (stD w (fun _ => true) (fun j => (w.lots.2 j).units) w.spathes.1) n = M at hfix hend
 refine ⟨fun i hi h hh e1 e2 => ?_,fun h hh j hj e1 e2 => ?_⟩
 ·rw [← hend (x := .sp i) hi] at e1
  rw [← hend (x := .hi h) hh]
  have e1 : M.mk i = true := e1
  have ha : ask1 w h M = true := by
   unfold ask1
   rw [Bool.or_eq_true,anyN_true]
   exact .inr ⟨i,hi,by rw [e1,e2]; rfl⟩
  have := congrArg (fun M => MS.ask M h) (hfix h hh)
  simp only [hrD,if_true,ha,Bool.true_or] at this
  exact this.symm
 ·rw [← hend (x := .ho h) hh] at e1
  rw [← hend (x := .lt j) hj]
  have e1 : M.opn h = true := e1
  have h1 := congrArg (fun M => MS.opn M h) (hfix h hh)
  simp only [hrD,if_true,e1] at h1
  have := congrArg (fun M => MS.lo M j) (hfix h hh)
  simp only [hrD,h1,e2,decide_eq_true hj,Bool.and_self,Bool.or_true] at this
  exact this.symm
noncomputable def crC (w : Wk) (x y : Nd) : Int := if lcB w x = true ∧ lcB w y = false then (ntW w).cap x y else 0
theorem crC_0 {w : Wk} {x y : Nd} (h : (ntW w).cap x y = 0) : crC w x y = 0 := by unfold crC; rw [h]; split <;> rfl
noncomputable def crT (w : Wk) (x : Nd) : Int := crC w x .src + crC w x .snk + sumN (fun i => crC w x (.sp i)) w.spathes.1 + sumN (fun h => crC w x (.hi h) + crC w x (.ho h)) w.hours.1 + sumN (fun j => crC w x (.lt j)) w.lots.1
theorem sum_0 {f : Nat → Int} {n : Nat} (h : ∀ i,i < n → f i = 0) : sumN f n = 0 := (sumN_congr h).trans (sumN_zero n)
theorem lc_cut {w : Wk} (hb : WkB w) : maxP (ntW w) = sumN (fun i => if (!lcB w (.sp i)) = true then 1 else 0) w.spathes.1 + sumN (fun h => if (lcB w (.hi h) && !lcB w (.ho h)) = true then 1 else 0) w.hours.1 + sumN (fun j => if lcB w (.lt j) = true then (w.lots.2 j).units else 0) w.lots.1 := by
 obtain ⟨hg,hcn⟩ := gr_end hb
 obtain ⟨hgf,hun⟩ := ntW_ok hb
 have hC := pcod (ntW w)
 have hF : FlowOk (ntW w) (pdec w.spathes.1 w.hours.1) (resG (ntW w) (pdec w.spathes.1 w.hours.1) (plaK (stD w (fun _ => true) (fun j => (w.lots.2 j).units) w.spathes.1).pl (stD w (fun _ => true) (fun j => (w.lots.2 j).units) w.spathes.1).cnt)) (maxP (ntW w)) := by
  have := plan_flow hC (fun u hu => pdec_ok (ntW w) hu) hgf hun hg.pl
  have e : Pla.size (plaK (stD w (fun _ => true) (fun j => (w.lots.2 j).units) w.spathes.1).pl (stD w (fun _ => true) (fun j => (w.lots.2 j).units) w.spathes.1).cnt) (ntW w).S = maxP (ntW w) := hg.sz.trans hcn
  rw [e] at this; exact this
 have hs : ∀ u,u < (ntW w).n → (lcB w (pdec w.spathes.1 w.hours.1 u) = true ↔ LCut (ntW w) (pdec w.spathes.1 w.hours.1) u) := fun u hu => by
  have e : penc w.spathes.1 w.hours.1 (pdec w.spathes.1 w.hours.1 u) = u := hC.de u hu
  unfold lcB
  rw [e]; exact decP_true
 have hn0 : 0 < (ntW w).n := by simp only [Nt.n]; omega
 have hn1 : 1 < (ntW w).n := by simp only [Nt.n]; omega
 have t0 : lcB w (pdec w.spathes.1 w.hours.1 0) = true := (hs 0 hn0).2 fun r s _ h0 _ _ => h0
 have t1 : lcB w (pdec w.spathes.1 w.hours.1 1) = false := by
  cases e : lcB w (pdec w.spathes.1 w.hours.1 1) with
  | false => rfl
  | true => exact absurd ((hs 1 hn1).1 e) (lcut_snk hb hF)
 have d0 : pdec w.spathes.1 w.hours.1 0 = .src := (hC.ed .src trivial).2
 have d1 : pdec w.spathes.1 w.hours.1 1 = .snk := (hC.ed .snk trivial).2
 have cut := hF.cut (s := fun u => lcB w (pdec w.spathes.1 w.hours.1 u)) t0 t1 fun u hu e v hv h0 => (hs v hv).2 (lcut_clo hb hF hu hv ((hs u hu).1 e) h0)
 rw [d0] at t0; rw [d1] at t1
 have e1 : ∀ x : Nd,sumN (fun v => crC w x (pdec w.spathes.1 w.hours.1 v)) (ntW w).n = crT w x := fun x => sum_nodes (ntW w) (crC w x)
 have e2 : sumN (fun u => crT w (pdec w.spathes.1 w.hours.1 u)) (ntW w).n = _ := sum_nodes (ntW w) (crT w)
 have e3 : maxP (ntW w) = sumN (fun u => crT w (pdec w.spathes.1 w.hours.1 u)) (ntW w).n := by
  refine cut.trans (sumN_congr fun u _ => ?_)
  rw [← e1]; rfl
 rw [e3,e2]
 have R := lc_rules hb
 have a1 : crT w .src = sumN (fun i => if (!lcB w (.sp i)) = true then 1 else 0) w.spathes.1 := by
  unfold crT
  rw [crC_0 (x := .src) (y := .src) rfl,crC_0 (x := .src) (y := .snk) rfl,sum_0 (f := fun h => crC w .src (.hi h) + crC w .src (.ho h)) fun h _ => by rw [crC_0 (y := .hi h) rfl,crC_0 (y := .ho h) rfl]; rfl,sum_0 (f := fun j => crC w .src (.lt j)) fun j _ => crC_0 rfl]
  have : sumN (fun i => crC w .src (.sp i)) w.spathes.1 = sumN (fun i => if (!lcB w (.sp i)) = true then 1 else 0) w.spathes.1 := sumN_congr fun i hi => by
   have hc : (ntW w).cap .src (.sp i) = 1 := if_pos ⟨Nat.zero_le _,hi⟩
   unfold crC
   rw [hc,t0]
   cases lcB w (.sp i) <;> simp
  rw [this]; omega
 have a2 : crT w .snk = 0 := by
  have : ∀ y,crC w .snk y = 0 := fun y => by unfold crC; rw [t1]; simp
  unfold crT
  simp only [this]
  rw [sumN_zero,sumN_zero,show ((0 : Int) + 0) = 0 from rfl,sumN_zero]; rfl
 have a3 : sumN (fun i => crT w (.sp i)) (ntW w).S = 0 := sum_0 fun i hi => by
  have hi : i < w.spathes.1 := hi
  unfold crT
  rw [crC_0 (y := .src) rfl,crC_0 (y := .snk) rfl,sum_0 (f := fun k => crC w (.sp i) (.sp k)) fun k _ => crC_0 rfl,sum_0 (f := fun j => crC w (.sp i) (.lt j)) fun j _ => crC_0 rfl]
  rw [sum_0 fun h hh => ?_]
  ·rfl
  ·rw [crC_0 (y := .ho h) rfl]
   unfold crC
   split
   ·rename_i q
    have : (ntW w).cap (.sp i) (.hi h) = 0 := if_neg fun ⟨_,_,_,ht⟩ => by
     have := R.t i hi h hh q.1 ht
     rw [q.2] at this; cases this
    rw [this]; rfl
   ·rfl
 have a4 : sumN (fun h => crT w (.hi h) + crT w (.ho h)) (ntW w).H = sumN (fun h => if (lcB w (.hi h) && !lcB w (.ho h)) = true then 1 else 0) w.hours.1 := sumN_congr fun h hh => by
  have hh : h < w.hours.1 := hh
  have b1 : crT w (.hi h) = if (lcB w (.hi h) && !lcB w (.ho h)) = true then 1 else 0 := by
   unfold crT
   rw [crC_0 (y := .src) rfl,crC_0 (y := .snk) rfl,sum_0 (f := fun k => crC w (.hi h) (.sp k)) fun k _ => crC_0 rfl,sum_0 (f := fun j => crC w (.hi h) (.lt j)) fun j _ => crC_0 rfl]
   have : sumN (fun k => crC w (.hi h) (.hi k) + crC w (.hi h) (.ho k)) w.hours.1 = sumN (fun k => if k = h then (if (lcB w (.hi h) && !lcB w (.ho h)) = true then 1 else 0) else 0) w.hours.1 := sumN_congr fun k hk => by
    rw [crC_0 (y := .hi k) rfl]
    by_cases e : k = h
    ·subst e
     have hc : (ntW w).cap (.hi k) (.ho k) = 1 := if_pos ⟨by first | rfl | trivial,hk,rfl⟩
     rw [if_pos rfl]
     unfold crC
     rw [hc]
     cases lcB w (.hi k) <;> cases lcB w (.ho k) <;> simp
    ·have hc : (ntW w).cap (.hi h) (.ho k) = 0 := if_neg fun q => e q.1.symm
     rw [if_neg e,crC_0 hc]; rfl
   rw [this,sumN_one,if_pos hh]; omega
  have b2 : crT w (.ho h) = 0 := by
   unfold crT
   rw [crC_0 (y := .src) rfl,crC_0 (y := .snk) rfl,sum_0 (f := fun k => crC w (.ho h) (.sp k)) fun k _ => crC_0 rfl,sum_0 (f := fun k => crC w (.ho h) (.hi k) + crC w (.ho h) (.ho k)) fun k _ => by rw [crC_0 (y := .hi k) rfl,crC_0 (y := .ho k) rfl]; rfl]
   rw [sum_0 fun j hj => ?_]
   ·rfl
   ·unfold crC
    split
    ·rename_i q
     have : (ntW w).cap (.ho h) (.lt j) = 0 := if_neg fun ⟨_,_,hgd,_⟩ => by
      have := R.g h hh j hj q.1 hgd
      rw [q.2] at this; cases this
     exact this
    ·rfl
  rw [b1,b2]; omega
 have a5 : sumN (fun j => crT w (.lt j)) (ntW w).L = sumN (fun j => if lcB w (.lt j) = true then (w.lots.2 j).units else 0) w.lots.1 := sumN_congr fun j hj => by
  have hj : j < w.lots.1 := hj
  unfold crT
  rw [crC_0 (y := .src) rfl,sum_0 (f := fun k => crC w (.lt j) (.sp k)) fun k _ => crC_0 rfl,sum_0 (f := fun k => crC w (.lt j) (.hi k) + crC w (.lt j) (.ho k)) fun k _ => by rw [crC_0 (y := .hi k) rfl,crC_0 (y := .ho k) rfl]; rfl,sum_0 (f := fun k => crC w (.lt j) (.lt k)) fun k _ => crC_0 rfl]
  have hc : (ntW w).cap (.lt j) .snk = (w.lots.2 j).units := (if_pos hj).trans (if_pos hj)
  unfold crC
  rw [hc,t1]
  cases lcB w (.lt j) <;> simp
 rw [a1,a2,a3,a4,a5]; omega
end Go.Proofs.Ytlapepdhkomijaa
namespace Go.Proofs.Ytlapepdhkomijaa
open Go Go.RowKit
def selL (p : Nat → Bool) (n : Nat) : Ints := (cntN p n,fun a => (selN p n a : Int))
theorem selN_mono {p : Nat → Bool} : ∀ {n a b : Nat},a < b → b < cntN p n → selN p n a < selN p n b := by
 intro n; induction n with
 | zero => intro a b _ hb; exact absurd hb (Nat.not_lt_zero _)
 | succ n ih =>
  intro a b hab hb
  simp only [cntN] at hb
  simp only [selN]
  by_cases hp : p n = true
  ·rw [if_pos hp] at hb
   by_cases e : b = cntN p n
   ·rw [if_neg (fun q => by have := q.2; omega),if_pos ⟨hp,e⟩]
    exact (selN_lt (by omega)).1
   ·rw [if_neg (fun q => by have := q.2; omega),if_neg (fun q => e q.2)]
    exact ih hab (by omega)
  ·rw [if_neg hp] at hb
   rw [if_neg (fun q => hp q.1),if_neg (fun q => hp q.1)]
   exact ih hab (by omega)
theorem selN_onto {p : Nat → Bool} : ∀ {n i : Nat},i < n → p i = true → ∃ a,a < cntN p n ∧ selN p n a = i := by
 intro n; induction n with
 | zero => intro i hi; exact absurd hi (Nat.not_lt_zero _)
 | succ n ih =>
  intro i hi hp
  by_cases e : i = n
  ·subst e
   refine ⟨cntN p i,?_,?_⟩
   ·simp only [cntN,if_pos hp]; omega
   ·simp only [selN]; rw [if_pos ⟨hp,trivial⟩]
  ·obtain ⟨a,ha,ea⟩ := ih (by omega) hp
   refine ⟨a,?_,?_⟩
   ·simp only [cntN]; split <;> omega
   ·simp only [selN]; rw [if_neg (fun q => by omega)]; exact ea
theorem idx_sel (p : Nat → Bool) (n : Nat) : idxB (selL p n) n = true := decP_t fun i hi => by
 have hi : i < cntN p n := hi
 have h1 := (selN_lt hi).1
 show 0 ≤ ((selN p n i : Nat) : Int) ∧ ((selN p n i : Nat) : Int) < n ∧ (0 < i → ((selN p n (i - 1) : Nat) : Int) < ((selN p n i : Nat) : Int))
 refine ⟨by omega,by omega,fun h0 => ?_⟩
 have := selN_mono (p := p) (show i - 1 < i by omega) hi
 omega
theorem has_sel {p : Nat → Bool} {n i : Nat} (hi : i < n) : hasL (selL p n) i = p i := by
 rw [Bool.eq_iff_iff,hasL_t]
 constructor
 ·rintro ⟨a,ha,e⟩
  have e : ((selN p n a : Nat) : Int) = (i : Int) := e
  have := (selN_lt (p := p) (n := n) ha).2
  have e2 : selN p n a = i := by omega
  rw [e2] at this; exact this
 ·intro hp
  obtain ⟨a,ha,e⟩ := selN_onto hi hp
  exact ⟨a,ha,by show ((selN p n a : Nat) : Int) = _; rw [e]⟩
theorem cntN_sum (p : Nat → Bool) : ∀ n,((cntN p n : Nat) : Int) = sumN (fun i => if p i = true then 1 else 0) n := by
 intro n; induction n with
 | zero => rfl
 | succ n ih =>
  simp only [cntN,sumN]
  rw [← ih]
  split <;> simp
noncomputable def cvW (w : Wk) : Cv := ⟨selL (fun i => !lcB w (.sp i)) w.spathes.1,selL (fun h => lcB w (.hi h) && !lcB w (.ho h)) w.hours.1,selL (fun j => lcB w (.lt j)) w.lots.1⟩
theorem cv_cov {w : Wk} (hb : WkB w) : covB w (cvW w) = true := by
 have R := lc_rules hb
 have h1 : idxB (cvW w).spathes w.spathes.1 = true := idx_sel _ _
 have h2 : idxB (cvW w).hours w.hours.1 = true := idx_sel _ _
 have h3 : idxB (cvW w).lots w.lots.1 = true := idx_sel _ _
 unfold covB
 rw [h1,h2,h3,decP_t fun i hi h hh j hj => ?_]
 ·rfl
 ·have a1 : hasL (cvW w).spathes i = !lcB w (.sp i) := has_sel hi
  have a2 : hasL (cvW w).hours h = (lcB w (.hi h) && !lcB w (.ho h)) := has_sel hh
  have a3 : hasL (cvW w).lots j = lcB w (.lt j) := has_sel hj
  unfold lefB
  rw [a1,a2,a3]
  cases ht : takesF w i h
  ·rfl
  cases hg : goodF w h j
  ·rfl
  cases e1 : lcB w (.sp i)
  ·rfl
  rw [R.t i hi h hh e1 ht]
  cases e2 : lcB w (.ho h)
  ·rfl
  rw [R.g h hh j hj e2 hg]; rfl
theorem cv_num {w : Wk} (hb : WkB w) : numC w (cvW w) = maxP (ntW w) := by
 rw [lc_cut hb]
 show ((cntN (fun i => !lcB w (.sp i)) w.spathes.1 : Nat) : Int) + ((cntN (fun h => lcB w (.hi h) && !lcB w (.ho h)) w.hours.1 : Nat) : Int) + sumU w (cvW w).lots w.lots.1 = _
 rw [cntN_sum,cntN_sum]
 have : sumU w (cvW w).lots w.lots.1 = sumN (fun j => if lcB w (.lt j) = true then (w.lots.2 j).units else 0) w.lots.1 := sumN_congr fun j hj => by
  have a3 : hasL (cvW w).lots j = lcB w (.lt j) := has_sel hj
  rw [a3]
 rw [this]
end Go.Proofs.Ytlapepdhkomijaa
namespace Go.Proofs.Ytlapepdhkomijaa
open Go Go.RowKit
theorem rdy_1 {l : Pms} {w : Wk} (h : rdyB l w = true) : workE l w = 0 := (decP_true.1 h).2
theorem work_ok {l : Pms} {w : Wk} (h : workE l w = 0) : PmsOk l ∧ ¬ badI l < l.1 ∧ WkOk (knF l) w := by
 unfold workE at h
 split at h
 ·rename_i h1
  split at h
  ·cases h
  ·rename_i h2
   split at h
   ·rename_i h3; exact ⟨pmE_0 h1,h2,decP_true.1 h3⟩
   ·cases h
 ·cases h
theorem rdy_b {l : Pms} {w : Wk} (h : rdyB l w = true) : WkB w := (work_ok (rdy_1 h)).2.2.b
theorem mo_ex {l : Pms} {w : Wk} (h : workE l w = 0) : ∃ (n : Nat) (f : Nat → Du),moQ l w = .tup (.cons (.view 3 n fun a b => (f a).c b) (.cons (.int .i64 0) .nil)) ∧ n = (plD w).cnt ∧ f = (plD w).pl := by
 refine ⟨_,_,?_,rfl,rfl⟩
 unfold moQ; rw [if_pos h]
theorem pr_ex {l : Pms} {w : Wk} (h : workE l w = 0) : ∃ (k1 k2 k3 : Nat) (f1 f2 f3 : Nat → Int),prQ l w = .tup (.cons (.agg (.cons (.view 1 k1 fun a _ => .int .i64 (f1 a)) (.cons (.view 1 k2 fun a _ => .int .i64 (f2 a)) (.cons (.view 1 k3 fun a _ => .int .i64 (f3 a)) .nil)))) (.cons (.int .i64 0) .nil)) ∧ (k1 ≤ 20 ∧ k2 ≤ 20 ∧ k3 ≤ 20) ∧ covB w ⟨(k1,f1),(k2,f2),(k3,f3)⟩ = true ∧ pvV l w ⟨(k1,f1),(k2,f2),(k3,f3)⟩ = .tup (.cons (.int .i64 (plD w).cnt) (.cons (.int .i64 0) .nil)) := by
 have hb := (work_ok h).2.2.b
 have hS := hb.s
 have hH := hb.h
 have hL := hb.l
 have a1 := cntN_le (fun i => !lcB w (.sp i)) w.spathes.1
 have a2 := cntN_le (fun h => lcB w (.hi h) && !lcB w (.ho h)) w.hours.1
 have a3 := cntN_le (fun j => lcB w (.lt j)) w.lots.1
 refine ⟨(cvW w).spathes.1,(cvW w).hours.1,(cvW w).lots.1,(cvW w).spathes.2,(cvW w).hours.2,(cvW w).lots.2,?_,⟨?_,?_,?_⟩,?_,?_⟩
 ·unfold prQ; rw [if_pos h]; rfl
 ·show cntN _ _ ≤ 20; omega
 ·show cntN _ _ ≤ 20; omega
 ·show cntN _ _ ≤ 20; omega
 ·exact cv_cov hb
 ·show pvV l w (cvW w) = _
  unfold pvV
  rw [if_pos h,if_pos (cv_cov hb),cv_num hb,most_len hb]
theorem cov_all {w : Wk} {c : Cv} (h : covB w c = true) : ∀ i,i < w.spathes.1 → ∀ h,h < w.hours.1 → ∀ j,j < w.lots.1 → lefB w c i h j = false := by
 simp only [covB,Bool.and_eq_true] at h; exact decP_true.1 h.2.2.2
theorem has_cnt {l : Ints} {n : Nat} (h : idxB l n = true) : sumN (fun i => if hasL l (i : Nat) = true then 1 else 0) n ≤ l.1 := by
 have e1 : sumN (fun i => if hasL l (i : Nat) = true then (1 : Int) else 0) n ≤ sumN (fun i => sumN (fun a => if l.2 a = (i : Int) then 1 else 0) l.1) n := sumN_le fun i _ => by
  split
  ·rename_i e
   obtain ⟨a,ha,ea⟩ := hasL_t.1 e
   have := sumN_get (f := fun a => if l.2 a = (i : Int) then (1 : Int) else 0) (n := l.1) (k := a) (fun _ _ => by split <;> decide) ha
   rw [if_pos ea] at this; exact this
  ·exact sumN_nn fun _ _ => by split <;> decide
 rw [sumN_swap (fun i a => if l.2 a = ((i : Nat) : Int) then (1 : Int) else 0)] at e1
 refine Int.le_trans e1 ?_
 have e2 : sumN (fun a => sumN (fun i => if l.2 a = ((i : Nat) : Int) then (1 : Int) else 0) n) l.1 ≤ sumN (fun _ => 1) l.1 := sumN_le fun a _ => sumN_ind_le fun i i' _ _ e e' => by omega
 have e3 : ∀ m : Nat,sumN (fun _ => (1 : Int)) m = m := fun m => by
  induction m with
  | zero => rfl
  | succ m ih => simp only [sumN,ih]; omega
 rw [e3] at e2; exact e2
theorem bound_cov {w : Wk} {c : Cv} {o : Dus} (hb : WkB w) (hc : covB w c = true) (ho : PlL w o) : (o.1 : Int) ≤ numC w c := by
 obtain ⟨i1,i2,_⟩ := cov_idx hc
 have h1 := bound_pl (P := fun i => hasL c.spathes i) (Q := fun h => hasL c.hours h) (R := fun j => hasL c.lots j) hb ho fun i hi h hh j hj ht hg => by
  have := cov_all hc i hi h hh j hj
  unfold lefB at this
  rw [ht,hg] at this
  cases e1 : hasL c.spathes i
  ·cases e2 : hasL c.hours h
   ·cases e3 : hasL c.lots j
    ·rw [e1,e2,e3] at this; cases this
    ·exact .inr (.inr rfl)
   ·exact .inr (.inl rfl)
  ·exact .inl rfl
 have h2 := has_cnt i1
 have h3 := has_cnt i2
 unfold numC sumU
 omega
end Go.Proofs.Ytlapepdhkomijaa
