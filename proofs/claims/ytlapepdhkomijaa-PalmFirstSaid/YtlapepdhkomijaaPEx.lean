/- Palms: the chapter's example, as plain values; what is known, planned and proved of it. No condition. -/
import Derived.Test.YtlapepdhkomijaaPEdg2
import Derived.Test.YtlapepdhkomijaaPMrk
import Derived.Test.YtlapepdhkomijaaPFlw
set_option linter.unusedSimpArgs false
set_option linter.unusedVariables false
namespace Go.Proofs.Ytlapepdhkomijaa
open Go Go.RowKit
def zeroU : UI .u8 := ⟨0,by decide⟩
def palC : Nat → Pm
 | 0 => ⟨1,-1,0,oneU,0⟩
 | 1 => ⟨2,1,1200,zeroU,7⟩
 | _ => ⟨5,-1,0,twoU,0⟩
def grC : Pms := (3,palC)
def spaC : Nat → Sp
 | 0 => ⟨1,⟨10,20⟩⟩
 | 1 => ⟨1,⟨12,14⟩⟩
 | _ => ⟨2,⟨25,40⟩⟩
def hrsC : Nat → Int
 | 0 => 15
 | 1 => 22
 | 2 => 45
 | _ => 60
def wkC : Wk := ⟨4000,(3,spaC),(4,hrsC),(1,fun _ => ⟨5,2,0,50⟩),30⟩
theorem lt3 {i : Nat} (h : i < 3) : i = 0 ∨ i = 1 ∨ i = 2 := by omega
theorem lt4 {i : Nat} (h : i < 4) : i = 0 ∨ i = 1 ∨ i = 2 ∨ i = 3 := by omega
theorem hit1 {l : Pms} (hn : l.1 = 3) (h0 : (l.2 0).id = 1) : hitN l 1 = 0 := fstI_at (by omega) h0 fun j hj => absurd hj (Nat.not_lt_zero _)
theorem hit2 {l : Pms} (hn : l.1 = 3) (h0 : (l.2 0).id = 1) (h1 : (l.2 1).id = 2) : hitN l 2 = 1 := fstI_at (by omega) h1 fun j hj e => by
 obtain rfl : j = 0 := by omega
 rw [h0] at e; exact absurd e (by decide)
theorem hit5 {l : Pms} (hn : l.1 = 3) (h0 : (l.2 0).id = 1) (h1 : (l.2 1).id = 2) (h2 : (l.2 2).id = 5) : hitN l 5 = 2 := fstI_at (by omega) h2 fun j hj e => by
 rcases (by omega : j = 0 ∨ j = 1) with rfl | rfl
 ·rw [h0] at e; exact absurd e (by decide)
 ·rw [h1] at e; exact absurd e (by decide)
theorem hitC1 : hitN grC 1 = 0 := hit1 rfl rfl
theorem pmsC : PmsOk grC where
 n := by decide
 id i hi := by rcases lt3 hi with rfl | rfl | rfl <;> exact ⟨by decide,by decide⟩
 up i hi h0 := by rcases lt3 hi with rfl | rfl | rfl <;> first | omega | decide
 pl i hi := by rcases lt3 hi with rfl | rfl | rfl <;> exact ⟨by decide,by decide⟩
 sex i hi := by rcases lt3 hi with rfl | rfl | rfl <;> decide
 sort i hi := by rcases lt3 hi with rfl | rfl | rfl <;> exact ⟨by decide,by decide⟩
 mo i hi := by
  rcases lt3 hi with rfl | rfl | rfl
  ·exact .inl rfl
  ·right
   show hitN grC 1 < 3 ∧ (palC (hitN grC 1)).planted + 1000 ≤ 1200
   rw [hitC1]; exact ⟨by decide,by decide⟩
  ·exact .inl rfl
theorem rootC0 : rootF grC 0 = 0 := by unfold rootF; rw [rtN]; exact if_pos rfl
theorem rootC2 : rootF grC 2 = 2 := by unfold rootF; rw [rtN]; exact if_pos rfl
theorem rootC1 : rootF grC 1 = 0 := by
 have := root_mo pmsC (k := 1) (by decide) (by decide)
 rw [← this]
 show rootF grC (hitN grC 1) = 0
 rw [hitC1]; exact rootC0
theorem clnC (i k : Nat) : clnB grC i k = decide (rootF grC k = rootF grC i) := rfl
theorem badC : badI grC = 3 := fstI_no fun j hj => by
 rintro ⟨k,hk,hc,hp⟩
 rcases lt3 hj with rfl | rfl | rfl
 ·omega
 ·obtain rfl : k = 0 := by omega
  rcases hp with ⟨h,_⟩ | ⟨_,h,_⟩
  ·exact h rfl
  ·exact h rfl
 ·rcases (by omega : k = 0 ∨ k = 1) with rfl | rfl
  ·rw [clnC,rootC0,rootC2] at hc; exact absurd hc (by decide)
  ·rw [clnC,rootC1,rootC2] at hc; exact absurd hc (by decide)
theorem cln00 : clnB grC 0 0 = true := by rw [clnC,rootC0]; rfl
theorem cln01 : clnB grC 0 1 = true := by rw [clnC,rootC0,rootC1]; rfl
theorem cln02 : clnB grC 0 2 = false := by rw [clnC,rootC0,rootC2]; rfl
theorem cln10 : clnB grC 1 0 = true := by rw [clnC,rootC0,rootC1]; rfl
theorem cln11 : clnB grC 1 1 = true := by rw [clnC,rootC1]; rfl
theorem cln12 : clnB grC 1 2 = false := by rw [clnC,rootC1,rootC2]; rfl
theorem cln20 : clnB grC 2 0 = false := by rw [clnC,rootC0,rootC2]; rfl
theorem cln21 : clnB grC 2 1 = false := by rw [clnC,rootC1,rootC2]; rfl
theorem cln22 : clnB grC 2 2 = true := by rw [clnC,rootC2]; rfl
theorem sexC0 : sexF grC 0 = 1 := by
 show mxF (clnB grC 0) _ 3 _ = 1
 simp only [mxF,cln00,cln01,cln02,if_true]
 decide
theorem sexC1 : sexF grC 1 = 1 := by
 show mxF (clnB grC 1) _ 3 _ = 1
 simp only [mxF,cln10,cln11,cln12,if_true]
 decide
theorem sexC2 : sexF grC 2 = 2 := by
 show mxF (clnB grC 2) _ 3 _ = 2
 simp only [mxF,cln20,cln21,cln22,if_true]
 decide
theorem sortC0 : sortF grC 0 = 7 := by
 show mxF (clnB grC 0) _ 3 _ = 7
 simp only [mxF,cln00,cln01,cln02,if_true]
 decide
theorem sortC1 : sortF grC 1 = 7 := by
 show mxF (clnB grC 1) _ 3 _ = 7
 simp only [mxF,cln10,cln11,cln12,if_true]
 decide
theorem sortC2 : sortF grC 2 = 0 := by
 show mxF (clnB grC 2) _ 3 _ = 0
 simp only [mxF,cln20,cln21,cln22,if_true]
 decide
theorem knC0 : knP grC 0 = ⟨1,-1,0,oneU,7⟩ := by unfold knP; rw [sexC0,sortC0]; rfl
theorem knC1 : knP grC 1 = ⟨2,1,1200,oneU,7⟩ := by unfold knP; rw [sexC1,sortC1]; rfl
theorem knC2 : knP grC 2 = ⟨5,-1,0,twoU,0⟩ := by unfold knP; rw [sexC2,sortC2]; rfl
theorem hitK1 : hitN (knF grC) 1 = 0 := hit1 rfl rfl
theorem hitK2 : hitN (knF grC) 2 = 1 := hit2 rfl rfl rfl
theorem hitK5 : hitN (knF grC) 5 = 2 := hit5 rfl rfl rfl rfl
theorem wkOkC : WkOk (knF grC) wkC where
 d := by decide
 o := by decide
 s := by decide
 h := by decide
 l := by decide
 sp i hi := by
  have h1 : bearsP (knF grC) 1 4000 1 := by
   unfold bearsP; rw [hitK1]; show 0 < 3 ∧ (knP grC 0).sex.1 = 1 ∧ 1500 ≤ 4000 - (knP grC 0).planted
   rw [knC0]; decide
  have h2 : bearsP (knF grC) 2 4000 1 := by
   unfold bearsP; rw [hitK2]; show 1 < 3 ∧ (knP grC 1).sex.1 = 1 ∧ 1500 ≤ 4000 - (knP grC 1).planted
   rw [knC1]; decide
  rcases lt3 hi with rfl | rfl | rfl
  ·exact ⟨h1,by decide,by decide,by decide⟩
  ·exact ⟨h1,by decide,by decide,by decide⟩
  ·exact ⟨h2,by decide,by decide,by decide⟩
 hr i hi := by rcases lt4 hi with rfl | rfl | rfl | rfl <;> exact ⟨by decide,by decide,by decide⟩
 lt i hi := by
  have h5 : bearsP (knF grC) 5 4000 2 := by
   unfold bearsP; rw [hitK5]; show 2 < 3 ∧ (knP grC 2).sex.1 = 2 ∧ 1500 ≤ 4000 - (knP grC 2).planted
   rw [knC2]; decide
  have hi : i < 1 := hi
  obtain rfl : i = 0 := by omega
  exact ⟨h5,by decide,by decide,by decide,by decide⟩
theorem workC : workE grC wkC = 0 := by
 unfold workE
 rw [if_pos (pmE_ok pmsC),if_neg (by rw [badC]; decide),if_pos (decP_t wkOkC)]
theorem wkBC : WkB wkC := wkOkC.b
theorem one_lot {N : Nt} (hL : N.L = 1) {g : Pla} (hp : IsPlan N g) : Pla.size g N.S ≤ N.un 0 := by
 have h := hp.lots 0 (by omega)
 refine Int.le_trans ?_ h
 unfold Pla.size
 refine sumN_le fun i _ => ?_
 cases e : g i with
 | none => simp [lotIs]
 | some p =>
  obtain ⟨a,b⟩ := p
  have := (hp.at' i a b e).2.2.2.1
  obtain rfl : b = 0 := by omega
  simp [lotIs]
def gC : Pla := fun i => if i = 0 then some (1,0) else if i = 1 then some (0,0) else none
def g1C : Pla := fun i => if i = 1 then some (0,0) else none
abbrev uC : Nat → Int := fun j => (wkC.lots.2 j).units
theorem gC_at {i h j : Nat} (e : gC i = some (h,j)) : (i = 0 ∧ h = 1 ∧ j = 0) ∨ (i = 1 ∧ h = 0 ∧ j = 0) := by
 unfold gC at e
 split at e
 ·injection e with e; injection e with e1 e2; exact .inl ⟨by assumption,e1.symm,e2.symm⟩
 ·split at e
  ·injection e with e; injection e with e1 e2; exact .inr ⟨by assumption,e1.symm,e2.symm⟩
  ·cases e
theorem g1C_at {i h j : Nat} (e : g1C i = some (h,j)) : i = 1 ∧ h = 0 ∧ j = 0 := by
 unfold g1C at e
 split at e
 ·injection e with e; injection e with e1 e2; exact ⟨by assumption,e1.symm,e2.symm⟩
 ·cases e
theorem gC_plan : IsPlan (ntW wkC) gC := by
 refine ⟨fun i h j e => ?_,fun i i' h j j' e e' => ?_,fun j hj => ?_⟩
 ·rcases gC_at e with ⟨rfl,rfl,rfl⟩ | ⟨rfl,rfl,rfl⟩ <;> exact ⟨by decide,by decide,by decide,by decide,by decide,by decide,rfl⟩
 ·rcases gC_at e with ⟨rfl,rfl,rfl⟩ | ⟨rfl,rfl,rfl⟩ <;> rcases gC_at e' with ⟨rfl,h2,rfl⟩ | ⟨rfl,h2,rfl⟩ <;> first | rfl | exact absurd h2 (by decide)
 ·have hj : j < 1 := hj
  obtain rfl : j = 0 := by omega
  decide
theorem g1C_plan : IsPlan (ntF wkC 1 (takD (fun _ => true) 1) (useD uC 0)) g1C := by
 refine ⟨fun i h j e => ?_,fun i i' h j j' e e' => ?_,fun j hj => ?_⟩
 ·obtain ⟨rfl,rfl,rfl⟩ := g1C_at e; exact ⟨by decide,by decide,by decide,by decide,by decide,by decide,rfl⟩
 ·obtain ⟨rfl,rfl,rfl⟩ := g1C_at e; obtain ⟨rfl,h2,rfl⟩ := g1C_at e'; rfl
 ·have hj : j < 1 := hj
  obtain rfl : j = 0 := by omega
  decide
theorem maxC0 : maxP (ntW wkC) = 2 := maxP_eq ⟨⟨gC,gC_plan,by decide⟩,fun g hg => one_lot (N := ntW wkC) rfl hg⟩
theorem maxC1 : maxP (ntF wkC 1 (takD (fun _ => true) 1) (useD uC 0)) = 1 := maxP_eq ⟨⟨g1C,g1C_plan,by decide⟩,fun g hg => one_lot (N := ntF wkC 1 (takD (fun _ => true) 1) (useD uC 0)) rfl hg⟩
theorem maxC2 : maxP (ntF wkC 2 (takD (takD (fun _ => true) 1) 0) (useD (useD uC 0) 0)) = 0 := maxP_eq ⟨⟨fun _ => none,none_plan fun j => by
 show (0 : Int) ≤ if j < 1 then useD (useD uC 0) 0 j else 0
 split
 ·obtain rfl : j = 0 := by omega
  decide
 ·decide,none_size _⟩,fun g hg => one_lot (N := ntF wkC 2 (takD (takD (fun _ => true) 1) 0) (useD (useD uC 0) 0)) rfl hg⟩
def s0C : PS := ⟨fun _ => true,uC,2,0,fun _ => ⟨0,0,0⟩⟩
theorem stC0 : stD wkC (fun _ => true) uC 0 = s0C := by
 show (⟨fun _ => true,uC,maxP (ntW wkC),0,fun _ => ⟨0,0,0⟩⟩ : PS) = s0C
 rw [maxC0]; rfl
theorem stC1 : stD wkC (fun _ => true) uC 1 = putD s0C 0 1 0 := by
 show stepD wkC 0 (stD wkC (fun _ => true) uC 0) = _
 rw [stC0]
 refine step_at (by decide) (by decide) ⟨rfl,by decide,by decide,by decide,?_⟩ (fun h' hh j' _ hc => ?_) fun j' hj => absurd hj (Nat.not_lt_zero _)
 ·show 1 + maxP (ntF wkC 1 (takD (fun _ => true) 1) (useD uC 0)) = 2
  rw [maxC1]; rfl
 ·obtain rfl : h' = 0 := by omega
  exact absurd hc.2.2.1 (by decide)
theorem stC2 : stD wkC (fun _ => true) uC 2 = putD (putD s0C 0 1 0) 1 0 0 := by
 show stepD wkC 1 (stD wkC (fun _ => true) uC 1) = _
 rw [stC1]
 refine step_at (by decide) (by decide) ⟨rfl,by decide,by decide,by decide,?_⟩ (fun h' hh => absurd hh (Nat.not_lt_zero _)) fun j' hj => absurd hj (Nat.not_lt_zero _)
 show 1 + maxP (ntF wkC 2 (takD (takD (fun _ => true) 1) 0) (useD (useD uC 0) 0)) = 2 - 1
 rw [maxC2]; rfl
theorem stC3 : plD wkC = putD (putD s0C 0 1 0) 1 0 0 := by
 show stepD wkC 2 (stD wkC (fun _ => true) uC 2) = _
 rw [stC2]
 refine step_no fun h _ j hj hc => ?_
 have hj : j < 1 := hj
 obtain rfl : j = 0 := by omega
 exact absurd hc.2.1 (by decide)
abbrev decC : Nat → Nd := pdec 3 4
theorem gC_flow : FlowOk (ntW wkC) decC (resG (ntW wkC) decC gC) (maxP (ntW wkC)) := by
 obtain ⟨hgf,hun⟩ := ntW_ok wkBC
 have := plan_flow (pcod (ntW wkC)) (fun u hu => pdec_ok (ntW wkC) hu) hgf hun gC_plan
 rw [maxC0]; exact this
def setC (u : Nat) : Bool := match decC u with
 | .snk => false
 | .hi h => decide (h ≠ 3)
 | .ho h => decide (h ≠ 3)
 | _ => true
theorem setC_clo : Clo (ntW wkC).n setC (resG (ntW wkC) decC gC) := by
 have : ∀ u,u < 14 → setC u = true → ∀ v,v < 14 → 0 < resG (ntW wkC) decC gC u v → setC v = true := by decide +kernel
 exact this
theorem lc_no {x : Nd} (hx : setC (penc 3 4 x) = false) : lcB wkC x = false := decP_f fun h => by
 have := h _ setC gC_flow (by decide) (by decide) setC_clo
 exact absurd (this.symm.trans hx) (by decide)
theorem lc_yes {x : Nd} (h : ∀ s : Nat → Bool,Rul wkC gC (fun y => s (penc 3 4 y)) → s (penc 3 4 x) = true) : lcB wkC x = true := decP_t fun r s hF h0 h1 hc => by
 have hc2 := hF.closed gC_flow h0 h1 hc
 exact h s (rul_of wkBC gC_plan (pcod (ntW wkC)) h0 hc2)
theorem lcC : (∀ i,i < 3 → lcB wkC (.sp i) = true) ∧ (∀ h,h < 3 → lcB wkC (.ho h) = true) ∧ lcB wkC (.lt 0) = true ∧ lcB wkC (.hi 3) = false := by
 have key : ∀ s : Nat → Bool,Rul wkC gC (fun y => s (penc 3 4 y)) → (∀ i,i < 3 → s (penc 3 4 (.sp i)) = true) ∧ (∀ h,h < 3 → s (penc 3 4 (.ho h)) = true) ∧ s (penc 3 4 (.lt 0)) = true := fun s R => by
  have a2 := R.r0 2 (by decide) rfl
  have b2 := R.r1 2 2 (by decide) (by decide) a2 (by decide) (fun j e => by rcases gC_at e with ⟨h,_⟩ | ⟨h,_⟩ <;> exact absurd h (by decide))
  have c2 := R.r3 2 (by decide) b2 (fun i j e => by rcases gC_at e with ⟨_,h,_⟩ | ⟨_,h,_⟩ <;> exact absurd h (by decide))
  have d0 := R.r6 2 0 (by decide) (by decide) c2 (by decide) (fun i e => by rcases gC_at e with ⟨_,h,_⟩ | ⟨_,h,_⟩ <;> exact absurd h (by decide))
  have c1 := R.r4 0 1 0 (by decide) (by decide) (by decide) d0 rfl
  have c0 := R.r4 1 0 0 (by decide) (by decide) (by decide) d0 rfl
  have b1 := R.r5 0 1 0 (by decide) (by decide) c1 rfl
  have b0 := R.r5 1 0 0 (by decide) (by decide) c0 rfl
  have a0 := R.r2 0 1 0 (by decide) (by decide) b1 rfl
  have a1 := R.r2 1 0 0 (by decide) (by decide) b0 rfl
  exact ⟨fun i hi => by rcases lt3 hi with rfl | rfl | rfl <;> assumption,fun h hh => by rcases lt3 hh with rfl | rfl | rfl <;> assumption,d0⟩
 exact ⟨fun i hi => lc_yes fun s R => (key s R).1 i hi,fun h hh => lc_yes fun s R => (key s R).2.1 h hh,lc_yes fun s R => (key s R).2.2,lc_no (by decide)⟩
theorem cvC1 : cntN (fun i => !lcB wkC (.sp i)) 3 = 0 := by
 obtain ⟨h,_⟩ := lcC
 simp [cntN,h 0,h 1,h 2]
theorem cvC2 : cntN (fun h => lcB wkC (.hi h) && !lcB wkC (.ho h)) 4 = 0 := by
 obtain ⟨_,h,_,h3⟩ := lcC
 simp [cntN,h 0,h 1,h 2,h3]
theorem cvC3 : cntN (fun j => lcB wkC (.lt j)) 1 = 1 ∧ selN (fun j => lcB wkC (.lt j)) 1 0 = 0 := by
 obtain ⟨_,_,h,_⟩ := lcC
 simp [cntN,selN,h]
theorem slC : slN wkC 0 = 1 ∧ slH wkC 0 0 = 1 ∧ slN wkC 1 = 2 ∧ slH wkC 1 0 = 0 ∧ slH wkC 1 1 = 1 ∧ slN wkC 2 = 1 ∧ slH wkC 2 0 = 2 := by decide
end Go.Proofs.Ytlapepdhkomijaa
namespace Go.Proofs.Ytlapepdhkomijaa
open Go Go.RowKit
def nbP (l : Pms) (i k : Nat) : Prop := (l.2 k).mother = (l.2 i).id ∨ (l.2 k).id = (l.2 i).mother
structure LkPost (l : Pms) (s : Nat → Bool) (i : Nat) (t : Nat → Bool) : Prop where
 mono : ∀ a,a < l.1 → s a = true → t a = true
 here : t i = true
 clo : ∀ a,a < l.1 → t a = true → s a = false → ∀ b,b < l.1 → nbP l a b → t b = true
 cls : ∀ a,a < l.1 → t a = true → s a = false → rootF l a = rootF l i
structure LkAt (l : Pms) (s : Nat → Bool) (i k : Nat) (t : Nat → Bool) : Prop where
 mono : ∀ a,a < l.1 → s a = true → t a = true
 here : t i = true
 done : ∀ b,b < k → nbP l i b → t b = true
 clo : ∀ a,a < l.1 → a ≠ i → t a = true → s a = false → ∀ b,b < l.1 → nbP l a b → t b = true
 cls : ∀ a,a < l.1 → t a = true → s a = false → rootF l a = rootF l i
section
variable {l : Pms} {s t u : Nat → Bool} {i k : Nat}
theorem nb_root (h : PmsOk l) (hi : i < l.1) (hk : k < l.1) (hn : nbP l i k) : rootF l k = rootF l i := by
 rcases hn with e | e
 ·have hm : (l.2 k).mother ≠ -1 := by have := (h.id i hi).1; omega
  have := root_mo h hk hm
  rw [e,h.hit hi] at this
  exact this.symm
 ·have hm : (l.2 i).mother ≠ -1 := by have := (h.id k hk).1; omega
  have := root_mo h hi hm
  rw [← e,h.hit hk] at this
  exact this
theorem LkPost.same (h : s i = true) : LkPost l s i s := ⟨fun _ _ h => h,h,fun a _ h1 h2 => (by rw [h1] at h2; cases h2),fun a _ h1 h2 => (by rw [h1] at h2; cases h2)⟩
theorem LkAt.begin : LkAt l s i 0 (updS s i) := by
 refine ⟨fun a _ h => ?_,by simp [updS],fun b hb => absurd hb (Nat.not_lt_zero _),fun a _ hn h1 h2 => ?_,fun a _ h1 h2 => ?_⟩
 ·simp only [updS]; split
  ·rfl
  ·exact h
 ·simp only [updS,if_neg hn] at h1; rw [h1] at h2; cases h2
 ·simp only [updS] at h1
  split at h1
  ·rename_i e; rw [e]
  ·rw [h1] at h2; cases h2
theorem LkAt.skip (h : LkAt l s i k t) (hn : ¬ nbP l i k) : LkAt l s i (k + 1) t :=
 ⟨h.mono,h.here,fun b hb hb2 => (Nat.lt_or_ge b k).elim (fun h1 => h.done b h1 hb2) fun h1 => by
  obtain rfl : b = k := by omega
  exact absurd hb2 hn,h.clo,h.cls⟩
theorem LkAt.step (hl : PmsOk l) (hi : i < l.1) (hk : k < l.1) (h : LkAt l s i k t) (hn : nbP l i k) (hp : LkPost l t k u) : LkAt l s i (k + 1) u := by
 refine ⟨fun a ha hs => hp.mono a ha (h.mono a ha hs),hp.mono i hi h.here,fun b hb hb2 => ?_,fun a ha hne h1 h2 b hb hnb => ?_,fun a ha h1 h2 => ?_⟩
 ·rcases Nat.lt_or_ge b k with h1 | h1
  ·exact hp.mono b (by omega) (h.done b h1 hb2)
  ·obtain rfl : b = k := by omega
   exact hp.here
 ·cases e : t a with
  | true => exact hp.mono b hb (h.clo a ha hne e h2 b hb hnb)
  | false => exact hp.clo a ha h1 e b hb hnb
 ·cases e : t a with
  | true => exact h.cls a ha e h2
  | false => rw [hp.cls a ha h1 e]; exact nb_root hl hi hk hn
theorem LkAt.post (h : LkAt l s i l.1 t) : LkPost l s i t := by
 refine ⟨h.mono,h.here,fun a ha h1 h2 b hb hnb => ?_,h.cls⟩
 by_cases e : a = i
 ·subst e; exact h.done b hb hnb
 ·exact h.clo a ha e h1 h2 b hb hnb
theorem LkPost.cln (hl : PmsOk l) (hi : i < l.1) (h : LkPost l (fun _ => false) i t) : ∀ k,k < l.1 → t k = clnB l i k := by
 intro k hk
 unfold clnB
 cases e : t k with
 | true => exact (decide_eq_true (h.cls k hk e rfl)).symm
 | false =>
  refine (decide_eq_false fun he => ?_).symm
  have hc : ∀ k,k < l.1 → (l.2 k).mother ≠ -1 → t k = t (hitN l (l.2 k).mother) := fun k hk hm => by
   obtain ⟨m1,_⟩ := hl.mo2 hk hm
   have hid : (l.2 (hitN l (l.2 k).mother)).id = (l.2 k).mother := by
    rcases hit_spec l (l.2 k).mother with ⟨_,h2⟩ | ⟨h2,_⟩
    ·exact h2
    ·omega
   cases e1 : t k with
   | true => exact (h.clo k hk e1 rfl _ m1 (.inr hid)).symm
   | false =>
    cases e2 : t (hitN l (l.2 k).mother) with
    | false => rfl
    | true => have := h.clo _ m1 e2 rfl k hk (.inl hid.symm); rw [e1] at this; cases this
  have q1 := clo_root hl hc 101 k hk
  have q2 := clo_root hl hc 101 i hi
  have q3 : rtN l 101 k = rtN l 101 i := he
  rw [q3,q2,h.here,e] at q1
  cases q1
end
end Go.Proofs.Ytlapepdhkomijaa
namespace Go.Proofs.Ytlapepdhkomijaa
open Go Go.RowKit
variable {G : Nat → Option (Nat × (Nat → Val))}
noncomputable def sInP : Spec := spec3 TI TI (TSl (RInt .i64)) (fun _ _ _ => True) fun lo hi l => .bool (allB l.1 l.2 fun n => lo ≤ n ∧ n ≤ hi)
set_option maxRecDepth 100000 in
theorem pInPalm : PureOk Try.prog G 51 sInP := by
 refine fn3 (S := []) (I := [(79,a79),(80,a80),(88,a88)]) mixed .nil (.cons Try.func79 c79 (.cons Try.func80 c80 (.cons Try.func88 c88 .nil))) Try.func51 c51 fun lo hi l _ hw => ?_
 simp only [Nat.reduceSub,Nat.reducePow,go_sem] at hw
 simp only [RunTo,a51,a79,a80,a88,↓reduceIte,reduceCtorEq,Nat.reduceEqDiff,Nat.reduceAdd,Nat.reduceSub,Int.reduceNeg,Nat.reducePow,go_sem]
 intro w1 _ _
 refine loopI (ι := Nat) (fun j => j ≤ l.1 ∧ ∀ i < j,lo ≤ l.2 i ∧ l.2 i ≤ hi) (fun j => l.1 - j) [0,1,7] (fun j => [(8,.int .i64 j)]) (fun _ => []) 0 ⟨by omega,fun i h => by omega⟩ (by simp only [↓reduceIte,reduceCtorEq,Nat.reduceEqDiff,Nat.reduceLT,go_sem]; try rfl) fun j hj => ?_
 obtain ⟨hj1,hj2⟩ := hj
 simp only [w1,↓imp_tt,↓imp_tf,↓reduceIte,reduceCtorEq,Nat.reduceEqDiff,Nat.reduceAdd,Nat.reduceSub,Int.reduceNeg,Nat.reducePow,go_sem]
 refine ⟨fun h => ⟨by omega,by omega,fun h1 => allB_no (by omega) (by omega),fun h1 => ⟨fun h2 => allB_no (by omega) (by omega),fun h2 => inv_intro (j + 1) ⟨by omega,fun i hi => ?_⟩ (by omega) ?_⟩⟩,fun h => allB_yes fun i hi => hj2 i (by omega)⟩
 ·rcases Nat.lt_or_ge i j with h5 | h5
  ·exact hj2 i h5
  ·obtain rfl : i = j := by omega
   omega
 ·simp only [↓reduceIte,reduceCtorEq,Nat.reduceEqDiff,Nat.reduceLT,go_sem]
  rw [wrS (by omega)]
noncomputable def sPlaces : Spec := spec1 (TSl RPm) (fun _ => True) fun l => .mview .i64 (hasP l) fun k => .int .i64 (lstP l k)
set_option maxRecDepth 100000 in
theorem pPlaces : PureOk Try.prog G 50 sPlaces := by
  refine fn1 (S := []) (I := []) mixed .nil .nil Try.func50 c50 fun l _ hw => ?_
  simp only [Nat.reduceSub,Nat.reducePow,go_sem] at hw
  simp only [RunTo,a50,hw,↓reduceIte,reduceCtorEq,Nat.reduceSub,Nat.reducePow,go_sem]
  refine loopI (ι := Nat) (fun j => j ≤ l.1) (fun j => l.1 - j) [3,7,8] (fun j => [(9,.int .i64 j)]) (fun j => [(0,.mp .i64 (hasF l.2 j) fun k => .int .i64 (lstF l.2 j k))]) 0 (by omega) (by simp only [hasF,lstF,↓imp_ft,↓reduceIte,Nat.reduceEqDiff,Nat.reduceLT,go_sem]; try simp) fun j hj => ?_
  simp only [↓reduceIte,reduceCtorEq,Nat.reduceEqDiff,Nat.reduceAdd,Nat.reduceLeDiff,go_sem]
  refine ⟨fun hlt => ?_,fun hge => ?_⟩
  · repeat' (first | omega | (with_reducible apply And.intro) | intro _)
    all_goals first
      | (refine inv_intro (j + 1) (by omega) (by omega) ?_
         simp only [hasF,lstF,↓reduceIte,reduceCtorEq,Nat.reduceEqDiff,Nat.reduceLT,go_sem]
         rw [wrS (by omega)]
         refine ⟨rfl,fun k => ?_⟩
         by_cases e : k = (l.2 j).id
         · simp [e]
         · simp [e])
      | skip
  · obtain rfl : j = l.1 := by omega
    repeat' (first | omega | (with_reducible apply And.intro) | intro _)
    all_goals simp_all [hasP,lstP]
set_option maxRecDepth 100000 in
theorem pPalmCheck : PureOk Try.prog G 19 sCheck7 := by
  refine fn1 (S := [(50,sPlaces),(51,sInP)]) (I := []) mixed (.cons pPlaces (.cons pInPalm .nil)) .nil Try.func19 c19 fun l _ hw => ?_
  simp only [Nat.reduceSub,Nat.reducePow,go_sem] at hw
  simp only [RunTo,a19,sPlaces,sInP,hw,↓reduceIte,reduceCtorEq,Nat.reduceSub,Int.reduceNeg,Nat.reducePow,go_sem]
  refine ⟨fun h => (pmE_no fun k => by have := k.n; omega).symm,fun h24 => ?_⟩
  have hall := pmLk_all (l := l) (by omega)
  have hno : ∀ j,j < l.1 → ¬ PmLk l j → (70 : Int) = pmE l := fun j hj hn => (pmE_no fun k => hn (hall.1 k j hj)).symm
  repeat' (first | omega | (with_reducible apply And.intro) | intro _)
  refine loopI (ι := Nat) (fun j => j ≤ l.1 ∧ ∀ i,i < j → PmLk l i) (fun j => l.1 - j) [0,3,14,15] (fun j => [(4,.int .i64 (if j = 0 then 0 else (l.2 (j - 1)).id + 1)),(16,.int .i64 j)]) (fun _ => []) 0 ⟨by omega,fun i h => by omega⟩ (by simp only [↓reduceIte,reduceCtorEq,Nat.reduceEqDiff,go_sem]; try simp) fun j hj => ?_
  obtain ⟨hj1,hj2⟩ := hj
  by_cases hjl : j < l.1
  · have fj : ((j : Int) < (l.1 : Int)) = True := eq_true (by omega)
    have hnx : (if j = 0 then (0 : Int) else (l.2 (j - 1)).id + 1) ≤ (l.2 j).id ↔ (0 ≤ (l.2 j).id ∧ (0 < j → (l.2 (j - 1)).id < (l.2 j).id)) ∨ (¬ 0 ≤ (l.2 j).id ∧ (if j = 0 then (0 : Int) else (l.2 (j - 1)).id + 1) ≤ (l.2 j).id) := by
      split
      · omega
      · have := (hj2 (j - 1) (by omega)).1
        omega
    have hid0 : (if j = 0 then (0 : Int) else (l.2 (j - 1)).id + 1) ≤ (l.2 j).id → 0 ≤ (l.2 j).id := by
      split
      · omega
      · have := (hj2 (j - 1) (by omega)).1
        omega
    generalize hnxt : (if j = 0 then (0 : Int) else (l.2 (j - 1)).id + 1) = nxt at hnx hid0 ⊢
    have hup : nxt ≤ (l.2 j).id ↔ 0 ≤ (l.2 j).id ∧ (0 < j → (l.2 (j - 1)).id < (l.2 j).id) := ⟨fun h => by have := hid0 h; rcases hnx.1 h with h1 | h1 <;> omega,fun h => hnx.2 (.inl h)⟩
    have hS0 : (0 : Int) ≤ (l.2 j).sex.1 ∧ (l.2 j).sex.1 ≤ 255 := (l.2 j).sex.2
    have eS : IntKind.i64.wrap (l.2 j).sex.1 = (l.2 j).sex.1 := by
      exact wr64 (by omega) (by omega)
    cases hm : hasP l (l.2 j).mother with
    | true =>
      have hlt := (lstP_spec hm).1
      have hlk : PmLk l j ↔ (0 ≤ (l.2 j).id ∧ (l.2 j).id ≤ 9999) ∧ (0 < j → (l.2 (j - 1)).id < (l.2 j).id) ∧ (0 ≤ (l.2 j).planted ∧ (l.2 j).planted ≤ 100000) ∧ (l.2 j).sex.1 ≤ 2 ∧ (0 ≤ (l.2 j).sort ∧ (l.2 j).sort ≤ 99) ∧
          ((l.2 j).mother = -1 ∨ IntKind.i64.wrap ((l.2 (lstP l (l.2 j).mother)).planted + 1000) ≤ (l.2 j).planted) := by unfold PmLk; rw [hm]; simp only [true_and]
      simp only [fj,hm,eS,↓imp_tt,↓imp_tf,↓imp_ft,↓imp_ff,↓reduceIte,reduceCtorEq,Nat.reduceEqDiff,Nat.reduceAdd,Nat.reduceSub,Nat.reduceLeDiff,Nat.reduceLT,Int.reduceNeg,go_sem]
      simp only [lt1,allB_1,Int.reduceNeg,go_sem]
      repeat' (first | omega | (with_reducible apply And.intro) | intro _)
      all_goals first
        | (refine hno j (by omega) fun k => ?_
           rw [hlk] at k
           omega)
        | (refine inv_intro (j + 1) ⟨by omega,fun i hi => ?_⟩ (by omega) ?_
           · rcases Nat.lt_or_ge i j with h5 | h5
             · exact hj2 i h5
             · obtain rfl : i = j := by omega
               rw [hlk]; omega
           · simp only [↓reduceIte,reduceCtorEq,Nat.reduceEqDiff,Nat.reduceLT,go_sem]
             rw [wrS (by omega),wr64 (e := (l.2 j).id + 1) (by omega) (by omega)]
             simp)
        | exact Int.ofNat_lt.2 hlt
    | false =>
      have hlk : PmLk l j ↔ (0 ≤ (l.2 j).id ∧ (l.2 j).id ≤ 9999) ∧ (0 < j → (l.2 (j - 1)).id < (l.2 j).id) ∧ (0 ≤ (l.2 j).planted ∧ (l.2 j).planted ≤ 100000) ∧ (l.2 j).sex.1 ≤ 2 ∧ (0 ≤ (l.2 j).sort ∧ (l.2 j).sort ≤ 99) ∧
          (l.2 j).mother = -1 := by unfold PmLk; rw [hm]; simp only [Bool.false_eq_true,false_and,or_false]
      simp only [fj,hm,eS,↓imp_tt,↓imp_tf,↓imp_ft,↓imp_ff,↓reduceIte,reduceCtorEq,Nat.reduceEqDiff,Nat.reduceAdd,Nat.reduceSub,Nat.reduceLeDiff,Nat.reduceLT,Int.reduceNeg,go_sem]
      simp only [lt1,allB_1,Int.reduceNeg,go_sem]
      repeat' (first | omega | (with_reducible apply And.intro) | intro _)
      all_goals first
        | (refine hno j (by omega) fun k => ?_
           rw [hlk] at k
           omega)
        | (refine inv_intro (j + 1) ⟨by omega,fun i hi => ?_⟩ (by omega) ?_
           · rcases Nat.lt_or_ge i j with h5 | h5
             · exact hj2 i h5
             · obtain rfl : i = j := by omega
               rw [hlk]; omega
           · simp only [↓reduceIte,reduceCtorEq,Nat.reduceEqDiff,Nat.reduceLT,go_sem]
             rw [wrS (by omega),wr64 (e := (l.2 j).id + 1) (by omega) (by omega)]
             simp)
  · have fj : ((j : Int) < (l.1 : Int)) = False := eq_false (by omega)
    simp only [fj,↓imp_ft,↓imp_ff,↓reduceIte,reduceCtorEq,Nat.reduceEqDiff,Int.reduceNeg,go_sem]
    exact (pmE_ok (hall.2 fun i hi => hj2 i (by omega))).symm
end Go.Proofs.Ytlapepdhkomijaa
