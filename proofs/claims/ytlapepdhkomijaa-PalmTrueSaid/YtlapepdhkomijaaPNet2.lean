/- Nets: no plan has more dusts than a set's edges can bear; where no more can be pushed, the flow's number is the greatest. No condition. -/
import Derived.Test.YtlapepdhkomijaaPSel
import Derived.Test.YtlapepdhkomijaaLDoor
import Derived.Test.YtlapepdhkomijaaACode1
import Derived.Test.YtlapepdhkomijaaPFlw
set_option linter.unusedSimpArgs false
set_option linter.unusedVariables false
namespace Go.Proofs.Ytlapepdhkomijaa
section
variable {N : Nt} {dec : Nat → Nd} {enc : Nd → Nat} {r : Nat → Nat → Int} {val : Int}
def chg (enc : Nd → Nat) (s : Nat → Bool) (i h j : Nat) : Nat × Nat :=
 if s (enc (.sp i)) = false then (0,enc (.sp i)) else if s (enc (.hi h)) = false then (enc (.sp i),enc (.hi h)) else if s (enc (.ho h)) = false then (enc (.hi h),enc (.ho h)) else if s (enc (.lt j)) = false then (enc (.ho h),enc (.lt j)) else (enc (.lt j),1)
def cutN (N : Nt) (dec : Nat → Nd) (s : Nat → Bool) : Int := sumN (fun u => sumN (fun v => if s u = true ∧ s v = false then N.cap (dec u) (dec v) else 0) N.n) N.n
def chIs (enc : Nd → Nat) (s : Nat → Bool) (o : Option (Nat × Nat)) (i u v : Nat) : Prop := match o with
 | some p => chg enc s i p.1 p.2 = (u,v)
 | none => False
instance {enc : Nd → Nat} {s : Nat → Bool} {o : Option (Nat × Nat)} {i u v : Nat} : Decidable (chIs enc s o i u v) := by unfold chIs; split <;> infer_instance
theorem plan_cut (hC : Cod N dec enc) (hg : ∀ h,N.fr h = true → N.gf h = true) (hun : ∀ j,0 ≤ N.un j) {s : Nat → Bool} (h0 : s 0 = true) (h1 : s 1 = false) {g : Pla} (hp : IsPlan N g) : Pla.size g N.S ≤ cutN N dec s := by
 have hn : 1 < N.n := by simp only [Nt.n]; omega
 have d0 : dec 0 = .src := by have := (hC.ed .src trivial).2; rw [hC.e0] at this; exact this
 have d1 : dec 1 = .snk := by have := (hC.ed .snk trivial).2; rw [hC.e1] at this; exact this
 have inj : ∀ {x y},N.ok x → N.ok y → enc x = enc y → x = y := fun hx hy e => by rw [← (hC.ed _ hx).2,e,(hC.ed _ hy).2]
 have hne0 : ∀ {x},N.ok x → x ≠ .src → enc x ≠ 0 := fun hx hne e => hne (by rw [← (hC.ed _ hx).2,e,d0])
 have hne1 : ∀ {x},N.ok x → x ≠ .snk → enc x ≠ 1 := fun hx hne e => hne (by rw [← (hC.ed _ hx).2,e,d1])
 -- each dust's edge
 have hedge : ∀ i hh j,g i = some (hh,j) → (chg enc s i hh j).1 < N.n ∧ (chg enc s i hh j).2 < N.n ∧ s (chg enc s i hh j).1 = true ∧ s (chg enc s i hh j).2 = false := by
  intro i hh j hq
  obtain ⟨_,a1,a2,a3,_⟩ := hp.at' i hh j hq
  have b1 := (hC.ed (.sp i) a1).1
  have b2 := (hC.ed (.hi hh) a2).1
  have b3 := (hC.ed (.ho hh) a2).1
  have b4 := (hC.ed (.lt j) a3).1
  unfold chg
  split
  ·rename_i e1; exact ⟨by omega,b1,h0,e1⟩
  ·rename_i e1
   split
   ·rename_i e2; exact ⟨b1,b2,by simpa using e1,e2⟩
   ·rename_i e2
    split
    ·rename_i e3; exact ⟨b2,b3,by simpa using e2,e3⟩
    ·rename_i e3
     split
     ·rename_i e4; exact ⟨b3,b4,by simpa using e3,e4⟩
     ·rename_i e4; exact ⟨b4,hn,by simpa using e4,h1⟩
 have e1 : Pla.size g N.S = sumN (fun i => sumN (fun u => sumN (fun v => if chIs enc s (g i) i u v then 1 else 0) N.n) N.n) N.S := by
  refine sumN_congr fun i hi => ?_
  cases hq : g i with
  | none =>
   simp only [Option.isSome_none,chIs]
   exact ((sumN_congr fun u _ => (sumN_congr fun v _ => by simp).trans (sumN_zero _)).trans (sumN_zero _)).symm
  | some p =>
   obtain ⟨hh,j⟩ := p
   obtain ⟨q1,q2,_,_⟩ := hedge i hh j hq
   have : sumN (fun u => sumN (fun v => if chIs enc s (some (hh,j)) i u v then (1 : Int) else 0) N.n) N.n = sumN (fun u => if u = (chg enc s i hh j).1 then 1 else 0) N.n := by
    refine sumN_congr fun u hu => ?_
    by_cases eu : u = (chg enc s i hh j).1
    ·rw [if_pos eu]
     have : sumN (fun v => if chIs enc s (some (hh,j)) i u v then (1 : Int) else 0) N.n = sumN (fun v => if v = (chg enc s i hh j).2 then 1 else 0) N.n := sumN_congr fun v _ => by
      simp only [chIs,eu,Prod.ext_iff,true_and]
      by_cases e : v = (chg enc s i hh j).2
      ·rw [if_pos e,if_pos e.symm]
      ·rw [if_neg e,if_neg fun h => e h.symm]
     rw [this,sumN_one,if_pos q2]
    ·rw [if_neg eu]
     exact sumN_ind_none fun v _ hx => eu (by simp only [chIs,Prod.ext_iff] at hx; exact hx.1.symm)
   rw [this,sumN_one,if_pos q1]; rfl
 have e2 : sumN (fun i => sumN (fun u => sumN (fun v => if chIs enc s (g i) i u v then (1 : Int) else 0) N.n) N.n) N.S = sumN (fun u => sumN (fun v => sumN (fun i => if chIs enc s (g i) i u v then (1 : Int) else 0) N.S) N.n) N.n := by
  rw [← sumN_swap (fun u i => sumN (fun v => if chIs enc s (g i) i u v then (1 : Int) else 0) N.n) N.n N.S]
  exact sumN_congr fun u _ => (sumN_swap (fun v i => if chIs enc s (g i) i u v then (1 : Int) else 0) N.n N.S).symm
 rw [e1,e2]
 refine sumN_le fun u hu => sumN_le fun v hv => ?_
 -- how many dusts leave by one edge
 by_cases hx : ∃ i hh j,g i = some (hh,j) ∧ chg enc s i hh j = (u,v)
 ·obtain ⟨i,hh,j,hq,hc⟩ := hx
  obtain ⟨_,_,q3,q4⟩ := hedge i hh j hq
  rw [hc] at q3 q4
  rw [if_pos ⟨q3,q4⟩]
  obtain ⟨a0,a1,a2,a3,a4,a5,a6⟩ := hp.at' i hh j hq
  -- which edge it is,tells which spathe or hour
  have key : ∀ i' hh' j',g i' = some (hh',j') → chg enc s i' hh' j' = (u,v) → dec v ≠ .snk → i' = i := by
   intro i' hh' j' hq' hc' hns
   obtain ⟨_,b1,b2,b3,_⟩ := hp.at' i' hh' j' hq'
   have hcc : chg enc s i' hh' j' = chg enc s i hh j := hc'.trans hc.symm
   have hsamespoth : hh' = hh → i' = i := fun e => hp.inj i' i hh j' j (by rw [← e]; exact hq') hq
   have hend : ∀ {i hh j},chg enc s i hh j = (u,v) → ¬ (chg enc s i hh j = (enc (.lt j),1)) := by
    intro i hh j hc e
    rw [hc] at e
    injection e with _ e
    rw [e,d1] at hns; exact hns rfl
   have d1' := hend hc
   have d2' := hend hc'
   unfold chg at hcc d1' d2'
   repeat' split at hcc
   all_goals first
    | (exfalso; simp_all; done)
    | skip
   all_goals
    simp only [Prod.ext_iff] at hcc
    obtain ⟨c1,c2⟩ := hcc
    first
    | exact Nd.sp.inj (inj (x := .sp i') (y := .sp i) b1 a1 c2)
    | exact Nd.sp.inj (inj (x := .sp i') (y := .sp i) b1 a1 c1)
    | exact hsamespoth (Nd.hi.inj (inj (x := .hi hh') (y := .hi hh) b2 a2 c2))
    | exact hsamespoth (Nd.hi.inj (inj (x := .hi hh') (y := .hi hh) b2 a2 c1))
    | exact hsamespoth (Nd.ho.inj (inj (x := .ho hh') (y := .ho hh) b2 a2 c1))
    | exact hsamespoth (Nd.ho.inj (inj (x := .ho hh') (y := .ho hh) b2 a2 c2))
    | (exfalso; exact absurd c1 (Ne.symm (hne0 a1 (by simp))))
    | (exfalso; exact absurd c1 (Ne.symm (hne0 a2 (by simp))))
    | (exfalso; exact absurd c1 (hne0 b1 (by simp)))
    | (exfalso; exact absurd c1 (hne0 b2 (by simp)))
    | (exfalso; have := inj (x := .sp i') (y := .hi hh) b1 a2 c1; cases this; done)
    | (exfalso; have := inj (x := .sp i') (y := .ho hh) b1 a2 c1; cases this; done)
    | (exfalso; have := inj (x := .hi hh') (y := .sp i) b2 a1 c1; cases this; done)
    | (exfalso; have := inj (x := .hi hh') (y := .ho hh) b2 a2 c1; cases this; done)
    | (exfalso; have := inj (x := .ho hh') (y := .sp i) b2 a1 c1; cases this; done)
    | (exfalso; have := inj (x := .ho hh') (y := .hi hh) b2 a2 c1; cases this; done)
  by_cases hsn : dec v = .snk
  ·-- it is a lot's edge
   have hlast : ∀ i' hh' j',g i' = some (hh',j') → chg enc s i' hh' j' = (u,v) → u = enc (.lt j') := by
    intro i' hh' j' hq' hc'
    obtain ⟨_,b1,b2,b3,_⟩ := hp.at' i' hh' j' hq'
    unfold chg at hc'
    repeat' split at hc'
    all_goals
     simp only [Prod.ext_iff] at hc'
     obtain ⟨c1,c2⟩ := hc'
     first
     | exact c1.symm
     | (exfalso; rw [← c2,(hC.ed (.sp i') b1).2] at hsn; cases hsn; done)
     | (exfalso; rw [← c2,(hC.ed (.hi hh') b2).2] at hsn; cases hsn; done)
     | (exfalso; rw [← c2,(hC.ed (.ho hh') b2).2] at hsn; cases hsn; done)
     | (exfalso; rw [← c2,(hC.ed (.lt j') b3).2] at hsn; cases hsn; done)
   have eu := hlast i hh j hq hc
   have hcap : N.cap (dec u) (dec v) = N.un j := by rw [eu,(hC.ed (.lt j) a3).2,hsn]; simp only [Nt.cap]; rw [if_pos a3]
   rw [hcap]
   refine Int.le_trans (sumN_le fun i' _ => ?_) (hp.lots j a3)
   cases hq' : g i' with
   | none => simp [chIs,lotIs]
   | some p =>
    obtain ⟨hh',j'⟩ := p
    by_cases hc' : chIs enc s (some (hh',j')) i' u v
    ·have e3 := hlast i' hh' j' hq' hc'
     have := inj (x := .lt j') (y := .lt j) (hp.at' i' hh' j' hq').2.2.2.1 a3 (e3.symm.trans eu)
     injection this with this
     rw [if_pos hc',if_pos (by simp [lotIs,this])]; exact Int.le_refl _
    ·rw [if_neg hc']; split <;> omega
  ·have hone : sumN (fun i' => if chIs enc s (g i') i' u v then (1 : Int) else 0) N.S ≤ 1 := sumN_ind_le fun x y _ _ hx hy => by
    have kk : ∀ z,chIs enc s (g z) z u v → z = i := fun z hz => by
     cases hqz : g z with
     | none => rw [hqz] at hz; exact hz.elim
     | some p => rw [hqz] at hz; exact key z p.1 p.2 hqz hz hsn
    rw [kk x hx,kk y hy]
   have hcap : N.cap (dec u) (dec v) = 1 := by
    have hc2 := hc
    unfold chg at hc2
    repeat' split at hc2
    all_goals
     simp only [Prod.ext_iff] at hc2
     obtain ⟨c1,c2⟩ := hc2
     subst c1
     subst c2
    ·rw [d0,(hC.ed (.sp i) a1).2]; simp only [Nt.cap]; rw [if_pos ⟨a0,a1⟩]
    ·rw [(hC.ed (.sp i) a1).2,(hC.ed (.hi hh) a2).2]; simp only [Nt.cap]; rw [if_pos ⟨a0,a1,a2,a4⟩]
    ·rw [(hC.ed (.hi hh) a2).2,(hC.ed (.ho hh) a2).2]; simp only [Nt.cap]; rw [if_pos (by exact ⟨by first | rfl | trivial,a2,a6⟩)]
    ·rw [(hC.ed (.ho hh) a2).2,(hC.ed (.lt j) a3).2]; simp only [Nt.cap]; rw [if_pos ⟨a2,a3,a5,hg hh a6⟩]
    ·exact absurd d1 hsn
   rw [hcap]; exact hone
 ·have : sumN (fun i => if chIs enc s (g i) i u v then (1 : Int) else 0) N.S = 0 := sumN_ind_none fun i _ hi => hx (by
   cases hq : g i with
   | none => rw [hq] at hi; exact hi.elim
   | some p => rw [hq] at hi; exact ⟨i,p.1,p.2,hq,hi⟩)
  rw [this]
  split
  ·cases dec u <;> cases dec v <;> simp only [Nt.cap] <;> first | omega | (split <;> omega) | (split; exact hun _; omega)
  ·exact Int.le_refl _
theorem FlowOk.most (hC : Cod N dec enc) (hg : ∀ h,N.fr h = true → N.gf h = true) (hun : ∀ j,0 ≤ N.un j) (h : FlowOk N dec r val) {s : Nat → Bool} (h0 : s 0 = true) (h1 : s 1 = false) (hc : ∀ u,u < N.n → s u = true → ∀ v,v < N.n → 0 < r u v → s v = true) : IsMost N val :=
 ⟨h.plan hC hg hun,fun g hp => by
  have := plan_cut hC hg hun h0 h1 hp
  have e := h.cut h0 h1 hc
  unfold cutN at this
  omega⟩
end
end Go.Proofs.Ytlapepdhkomijaa
namespace Go.Proofs.Ytlapepdhkomijaa
open Go Go.RowKit
def takesF (w : Wk) (i h : Nat) : Bool := decide (w.hours.2 h ≥ (w.spathes.2 i).cracks.hi ∧ w.hours.2 h < (w.spathes.2 i).cracks.lo + w.opn)
def goodF (w : Wk) (h j : Nat) : Bool := decide (w.hours.2 h ≥ (w.lots.2 j).fro ∧ w.hours.2 h < (w.lots.2 j).til)
structure WkB (w : Wk) : Prop where
 s : w.spathes.1 ≤ 8
 h : w.hours.1 ≤ 16
 l : w.lots.1 ≤ 4
 o : 0 ≤ w.opn ∧ w.opn ≤ 500
 c : ∀ i,i < w.spathes.1 → 0 ≤ (w.spathes.2 i).cracks.lo ∧ (w.spathes.2 i).cracks.lo ≤ 1000000
 u : ∀ j,j < w.lots.1 → 0 ≤ (w.lots.2 j).units ∧ (w.lots.2 j).units ≤ 100
def ntF (w : Wk) (first : Nat) (fr : Nat → Bool) (un : Nat → Int) : Nt := ⟨w.spathes.1,w.hours.1,w.lots.1,first,takesF w,goodF w,fr,fun _ => true,fun j => if j < w.lots.1 then un j else 0⟩
theorem decP_and (p q : Prop) [Decidable p] [Decidable q] : decide (p ∧ q) = (decide p && decide q) := by by_cases p <;> by_cases q <;> simp [*]
def setR (R : Nat → Nat → Int) (u v : Nat) (x : Int) : Nat → Nat → Int := fun a b => if a = u ∧ b = v then x else R a b
theorem Pla.size_le (g : Pla) : ∀ S : Nat,Pla.size g S ≤ S := by
 intro S
 unfold Pla.size
 induction S with
 | zero => exact Int.le_refl _
 | succ S ih => simp only [sumN]; split <;> omega
def AllB (P : Bn → Box → Prop) : Bx → Prop
 | [] => True
 | (b,.one c) :: l => P (.n b) c ∧ AllB P l
 | (b,.fam d r) :: l => (∀ z,d z = true → P (.f b z) (r z)) ∧ AllB P l
theorem AllB.get {P : Bn → Box → Prop} : ∀ {bx : Bx},AllB P bx → ∀ b c,bget bx b = some c → P b c
 | [],_,b,c,hb => by cases hb
 | (b',.one c') :: l,h,.n m,c,hb => by
  obtain ⟨h1,h2⟩ := h
  simp only [bget] at hb
  split at hb
  ·rename_i e; cases hb; subst e; exact h1
  ·exact h2.get _ _ hb
 | (b',.one c') :: l,h,.f m z,c,hb => by
  obtain ⟨h1,h2⟩ := h
  exact h2.get _ _ (by simpa only [bget] using hb)
 | (b',.fam d r) :: l,h,.n m,c,hb => by
  obtain ⟨h1,h2⟩ := h
  exact h2.get _ _ (by simpa only [bget] using hb)
 | (b',.fam d r) :: l,h,.f m z,c,hb => by
  obtain ⟨h1,h2⟩ := h
  simp only [bget] at hb
  split at hb
  ·rename_i e; cases hb; obtain ⟨rfl,e⟩ := e; exact h1 z e
  ·exact h2.get _ _ hb
def MatIs (n : Nat) (dec : Nat → Nd) (R : Nat → Nat → Int) (c : Nd → Nd → Int) : Prop := ∀ a,a < n → ∀ b,b < n → R a b = c (dec a) (dec b)
theorem MatIs.set {N : Nt} {dec : Nat → Nd} {enc : Nd → Nat} (hC : Cod N dec enc) {R : Nat → Nat → Int} {c c' : Nd → Nd → Int} {v : Int} (h : MatIs N.n dec R c) {x y : Nd} (hx : N.ok x) (hy : N.ok y) (hc : ∀ p q,c' p q = if p = x ∧ q = y then v else c p q) : MatIs N.n dec (setR R (enc x) (enc y) v) c' := by
 intro a ha b hb
 unfold setR
 rw [hc]
 by_cases e : a = enc x ∧ b = enc y
 ·rw [if_pos e,if_pos ⟨by rw [e.1]; exact (hC.ed x hx).2,by rw [e.2]; exact (hC.ed y hy).2⟩]
 ·rw [if_neg e,if_neg fun ⟨h1,h2⟩ => e ⟨by rw [← h1]; exact (hC.de a ha).symm,by rw [← h2]; exact (hC.de b hb).symm⟩]
  exact h a ha b hb
theorem MatIs.same {n : Nat} {dec : Nat → Nd} {R : Nat → Nat → Int} {c c' : Nd → Nd → Int} (h : MatIs n dec R c) (hc : ∀ p q,c' p q = c p q) : MatIs n dec R c' := fun a ha b hb => by rw [hc]; exact h a ha b hb
theorem inv_renM {ι : Type} {Pi : ι → Prop} {μ : ι → Nat} {sl : ι → Fr} {bs : ι → Bx} {m : Nat} {ns : List Nat} {fr1 : Fr} {bx0 bx1 : Bx} {nx nx' : Nat} (la : List (Bn × Bn)) (j : ι) (hl : ∀ p ∈ la,∀ n ∈ ns,n ≤ p.1.id) (hj : Pi j) (hm : μ j < m) (hc : match rens la (fr1,bx1) with | some (fr2,bx2) => Chk fr2 bx2 (sl j) (bs j) nx nx' | none => False) :
  ∃ m',m' < m ∧ ∃ fr'' bx'',LoopT Pi μ sl bs m' fr'' bx'' ∧ ChkL ns bx0 fr1 bx1 fr'' bx'' nx nx' := by
 split at hc
 ·rename_i fr2 bx2 h; exact inv_ren la j h hl hj hm hc
 ·exact hc.elim
end Go.Proofs.Ytlapepdhkomijaa
namespace Go.Proofs.Ytlapepdhkomijaa
open Go Go.RowKit
variable {G : Nat → Option (Nat × (Nat → Val))}
noncomputable def knF (l : Pms) : Pms := (l.1,knP l)
def SpOk (k : Pms) (day : Int) (s : Sp) : Prop := bearsP k s.palm day 1 ∧ 0 ≤ s.cracks.lo ∧ s.cracks.lo ≤ s.cracks.hi ∧ s.cracks.hi ≤ 1000000
def LtOk (k : Pms) (day : Int) (x : Lt) : Prop := bearsP k x.palm day 2 ∧ (0 ≤ x.units ∧ x.units ≤ 100) ∧ 0 ≤ x.fro ∧ x.fro ≤ x.til ∧ x.til ≤ 1000000
def HrOk (h : Ints) (i : Nat) : Prop := 0 ≤ h.2 i ∧ h.2 i ≤ 1000000 ∧ (0 < i → h.2 (i - 1) < h.2 i)
structure WkOk (k : Pms) (w : Wk) : Prop where
 d : 0 ≤ w.day ∧ w.day ≤ 100000
 o : 1 ≤ w.opn ∧ w.opn ≤ 500
 s : w.spathes.1 ≤ 8
 h : w.hours.1 ≤ 16
 l : w.lots.1 ≤ 4
 sp : ∀ i,i < w.spathes.1 → SpOk k w.day (w.spathes.2 i)
 hr : ∀ i,i < w.hours.1 → HrOk w.hours i
 lt : ∀ i,i < w.lots.1 → LtOk k w.day (w.lots.2 i)
noncomputable def workE (l : Pms) (w : Wk) : Int := if pmE l = 0 then (if badI l < l.1 then 71 else if decP (WkOk (knF l) w) = true then 0 else 72) else 70
theorem WkOk.b {k : Pms} {w : Wk} (h : WkOk k w) : WkB w :=
 ⟨h.s,h.h,h.l,⟨by have := h.o; omega,h.o.2⟩,fun i hi => by obtain ⟨_,h1,h2,h3⟩ := h.sp i hi; omega,fun j hj => by obtain ⟨_,h1,_⟩ := h.lt j hj; exact h1⟩
noncomputable def sWork7 : Spec := spec2 (TSl RPm) TWk (fun _ _ => True) fun l w => .int .i64 (workE l w)
theorem knF_pl {l : Pms} (h : PmsOk l) : ∀ i,i < (knF l).1 → 0 ≤ ((knF l).2 i).planted ∧ ((knF l).2 i).planted ≤ 100000 := fun i hi => h.pl i hi
def oneU : UI .u8 := ⟨1,by decide⟩
def twoU : UI .u8 := ⟨2,by decide⟩
theorem tuIs {n : Int} (h : 0 ≤ n ∧ n ≤ 255) : (TU .u8).Is (.int .u8 n) = True := eq_true ⟨rfl,h⟩
theorem tuOf {n : Int} (h : 0 ≤ n ∧ n ≤ 255) : ((TU .u8).of (.int .u8 n)).1 = n := toUI_in h
set_option maxHeartbeats 4000000 in
set_option maxRecDepth 100000 in
theorem pWork7 : PureOk Try.prog G 45 sWork7 := by
 refine fn2 (S := [(16,sKnown7),(52,sIn),(77,sBears)]) (I := []) mixed (.cons pKnown7 (.cons pWithin7 (.cons pBears .nil))) .nil Try.func45 c45 fun l w _ hw => ?_
 simp only [Nat.reduceSub,Nat.reducePow,go_sem] at hw
 by_cases hp : PmsOk l
 ·have ep := pmE_ok hp
  by_cases hb : badI l < l.1
  ·have hE : workE l w = 71 := by unfold workE; rw [if_pos ep,if_pos hb]
   rw [hE]
   have fb : (badI l < l.1) = True := eq_true hb
   simp only [RunTo,a45,sKnown7,ep,fb,hw,↓imp_tt,↓imp_tf,↓reduceIte,reduceCtorEq,Nat.reduceEqDiff,Nat.reduceAdd,Nat.reduceSub,Nat.reduceLT,Int.reduceBNe,Nat.reducePow,go_sem]
  ·have fb : (badI l < l.1) = False := eq_false hb
   have hE : workE l w = if decP (WkOk (knF l) w) = true then 0 else 72 := by unfold workE; rw [if_pos ep,if_neg hb]
   rw [hE]
   have hno : ¬ WkOk (knF l) w → (72 : Int) = if decP (WkOk (knF l) w) = true then 0 else 72 := fun h => by rw [decP_f h]; rfl
   simp only [RunTo,a45,sKnown7,sIn,ep,fb,hw,↓imp_tt,↓imp_tf,↓imp_ft,↓imp_ff,↓reduceIte,reduceCtorEq,Nat.reduceEqDiff,Nat.reduceAdd,Nat.reduceSub,Nat.reduceLeDiff,Nat.reduceLT,Nat.reducePow,go_sem]
   refine ⟨fun h => hno fun k => h k.d,fun h1 => ⟨fun h => hno fun k => h k.o,fun h2 => ⟨fun h => hno fun k => by have := k.s; omega,fun h3 => ⟨fun h => hno fun k => by have := k.h; omega,fun h4 => ⟨fun h => hno fun k => by have := k.l; omega,fun h5 => ?_⟩⟩⟩⟩⟩
   refine loopI (ι := Nat) (fun i => i ≤ w.spathes.1 ∧ ∀ i',i' < i → SpOk (knF l) w.day (w.spathes.2 i')) (fun i => w.spathes.1 - i) [3,5] (fun i => [(8,.int .i64 i)]) (fun _ => []) 0 ⟨Nat.zero_le _,fun i hi => absurd hi (Nat.not_lt_zero _)⟩ (by simp only [↓reduceIte,Nat.reduceEqDiff,Nat.reduceLT,go_sem]; try simp) fun i hi => ?_
   obtain ⟨hi1,hi2⟩ := hi
   by_cases hil : i < w.spathes.1
   ·have fi : ((i : Int) < (w.spathes.1 : Int)) = True := eq_true (by omega)
    have hpl := knF_pl hp
    simp only [fi,sBears,tuIs (n := 1) ⟨by decide,by decide⟩,tuOf (n := 1) ⟨by decide,by decide⟩,hw,↓imp_tt,↓imp_tf,↓reduceIte,reduceCtorEq,Nat.reduceEqDiff,Nat.reduceAdd,Nat.reduceSub,Nat.reduceLeDiff,Int.reduceNeg,Nat.reducePow,go_sem]
    refine ⟨by omega,hpl,by omega,by omega,fun q => hno fun k => ?_,fun q => ⟨fun q2 => hno fun k => q2 ?_,fun q2 => ⟨fun q3 => hno fun k => ?_,fun q3 => ?_⟩⟩⟩
    ·exact decP_false.1 q (k.sp i hil).1
    ·exact ⟨(k.sp i hil).2.1,(k.sp i hil).2.2.1⟩
    ·have := (k.sp i hil).2.2.2; omega
    ·refine inv_intro (i + 1) ⟨hil,fun i' hi' => ?_⟩ (by omega) ?_
     ·by_cases e : i' = i
      ·subst e; exact ⟨decP_true.1 q,q2.1,q2.2,by omega⟩
      ·exact hi2 i' (by omega)
     ·simp only [↓reduceIte,reduceCtorEq,Nat.reduceEqDiff,Nat.reduceLT,go_sem]
      exact wrS (by omega)
   ·have fi : ((i : Int) < (w.spathes.1 : Int)) = False := eq_false (by omega)
    simp only [fi,hw,↓imp_ft,↓imp_ff,↓reduceIte,Nat.reduceEqDiff,Nat.reduceAdd,Nat.reduceSub,Nat.reduceLeDiff,Nat.reducePow,go_sem]
    obtain rfl : i = w.spathes.1 := by omega
    refine loopI (ι := Nat) (fun i => i ≤ w.hours.1 ∧ ∀ i',i' < i → HrOk w.hours i') (fun i => w.hours.1 - i) [3,5] (fun i => [(10,.int .i64 i)]) (fun _ => []) 0 ⟨Nat.zero_le _,fun i hi => absurd hi (Nat.not_lt_zero _)⟩ (by simp only [↓reduceIte,Nat.reduceEqDiff,Nat.reduceLT,go_sem]; try simp) fun i hi => ?_
    obtain ⟨hi1,hi3⟩ := hi
    by_cases hil : i < w.hours.1
    ·have fi : ((i : Int) < (w.hours.1 : Int)) = True := eq_true (by omega)
     have wi : 0 < i → IntKind.i64.wrap ((i : Int) - 1) = ((i - 1 : Nat) : Int) := fun h => by rw [wr64 (by omega) (by omega)]; omega
     simp only [fi,hw,↓imp_tt,↓imp_tf,↓imp_ft,↓imp_ff,↓reduceIte,Nat.reduceEqDiff,Nat.reduceAdd,Nat.reduceSub,Nat.reduceLeDiff,Nat.reducePow,go_sem]
     have hnew : HrOk w.hours i → i + 1 ≤ w.hours.1 ∧ ∀ i',i' < i + 1 → HrOk w.hours i' := fun hk => ⟨hil,fun i' hi' => by
      by_cases e : i' = i
      ·subst e; exact hk
      ·exact hi3 i' (by omega)⟩
     refine ⟨by omega,fun q => hno fun k => q ⟨(k.hr i hil).1,(k.hr i hil).2.1⟩,fun q => ⟨fun g => ⟨by omega,?_⟩,fun g => ?_⟩⟩
     ·rw [wi (by omega),Int.toNat_natCast]
      refine ⟨by omega,by omega,fun q2 => hno fun k => ?_,fun q2 => ?_⟩
      ·have := (k.hr i hil).2.2 (by omega); omega
      ·refine inv_intro (i + 1) (hnew ⟨q.1,q.2,fun _ => by omega⟩) (by omega) ?_
       simp only [↓reduceIte,Nat.reduceEqDiff,Nat.reduceLT,go_sem]
       exact wrS (by omega)
     ·refine inv_intro (i + 1) (hnew ⟨q.1,q.2,fun h => by omega⟩) (by omega) ?_
      simp only [↓reduceIte,Nat.reduceEqDiff,Nat.reduceLT,go_sem]
      exact wrS (by omega)
    ·have fi : ((i : Int) < (w.hours.1 : Int)) = False := eq_false (by omega)
     obtain rfl : i = w.hours.1 := by omega
     simp only [fi,hw,↓imp_ft,↓imp_ff,↓reduceIte,Nat.reduceEqDiff,Nat.reduceAdd,Nat.reduceSub,Nat.reduceLeDiff,Nat.reducePow,go_sem]
     refine loopI (ι := Nat) (fun i => i ≤ w.lots.1 ∧ ∀ i',i' < i → LtOk (knF l) w.day (w.lots.2 i')) (fun i => w.lots.1 - i) [3,5] (fun i => [(11,.int .i64 i)]) (fun _ => []) 0 ⟨Nat.zero_le _,fun i hi => absurd hi (Nat.not_lt_zero _)⟩ (by simp only [↓reduceIte,Nat.reduceEqDiff,Nat.reduceLT,go_sem]; try simp) fun i hi => ?_
     obtain ⟨hi1,hi4⟩ := hi
     by_cases hil : i < w.lots.1
     ·have fi : ((i : Int) < (w.lots.1 : Int)) = True := eq_true (by omega)
      have hpl := knF_pl hp
      simp only [fi,sBears,tuIs (n := 2) ⟨by decide,by decide⟩,tuOf (n := 2) ⟨by decide,by decide⟩,hw,↓imp_tt,↓imp_tf,↓reduceIte,reduceCtorEq,Nat.reduceEqDiff,Nat.reduceAdd,Nat.reduceSub,Nat.reduceLeDiff,Int.reduceNeg,Nat.reducePow,go_sem]
      refine ⟨by omega,hpl,by omega,by omega,fun q => hno fun k => ?_,fun q => ⟨fun q2 => hno fun k => q2 ?_,fun q2 => ⟨fun q3 => hno fun k => q3 ?_,fun q3 => ⟨fun q4 => hno fun k => ?_,fun q4 => ?_⟩⟩⟩⟩
      ·exact decP_false.1 q (k.lt i hil).1
      ·exact (k.lt i hil).2.1
      ·exact ⟨(k.lt i hil).2.2.1,(k.lt i hil).2.2.2.1⟩
      ·have := (k.lt i hil).2.2.2.2; omega
      ·refine inv_intro (i + 1) ⟨hil,fun i' hi' => ?_⟩ (by omega) ?_
       ·by_cases e : i' = i
        ·subst e; exact ⟨decP_true.1 q,q2,q3.1,q3.2,by omega⟩
        ·exact hi4 i' (by omega)
       ·simp only [↓reduceIte,reduceCtorEq,Nat.reduceEqDiff,Nat.reduceLT,go_sem]
        exact wrS (by omega)
     ·have fi : ((i : Int) < (w.lots.1 : Int)) = False := eq_false (by omega)
      obtain rfl : i = w.lots.1 := by omega
      simp only [fi,hw,↓imp_ft,↓imp_ff,↓reduceIte,Nat.reduceEqDiff,Nat.reduceAdd,Nat.reduceSub,Nat.reduceLeDiff,Nat.reducePow,go_sem]
      rw [decP_t ⟨h1,h2,by omega,by omega,by omega,hi2,hi3,hi4⟩]; rfl
 ·have ep := pmE_no hp
  have hE : workE l w = 70 := by unfold workE; rw [if_neg (by rw [ep]; decide)]
  rw [hE]
  simp only [RunTo,a45,sKnown7,ep,hw,↓imp_tt,↓imp_tf,↓reduceIte,reduceCtorEq,Nat.reduceEqDiff,Nat.reduceAdd,Nat.reduceSub,Nat.reduceLT,Int.reduceEq,Int.reduceBNe,Nat.reducePow,go_sem]
end Go.Proofs.Ytlapepdhkomijaa
namespace Go.Proofs.Ytlapepdhkomijaa
open Go Go.RowKit
variable {G : Nat → Option (Nat × (Nat → Val))}
section
variable {S H u : Nat}
end
end Go.Proofs.Ytlapepdhkomijaa
namespace Go.Proofs.Ytlapepdhkomijaa
open Go Go.RowKit
structure PS where
 fr : Nat → Bool
 un : Nat → Int
 need : Int
 cnt : Nat
 pl : Nat → Du
def takD (fr : Nat → Bool) (h : Nat) : Nat → Bool := fun a => if a = h then false else fr a
def useD (un : Nat → Int) (j : Nat) : Nat → Int := fun b => if b = j then un b - 1 else un b
def canD (w : Wk) (i : Nat) (s : PS) (h j : Nat) : Prop := s.fr h = true ∧ s.un j ≠ 0 ∧ takesF w i h = true ∧ goodF w h j = true ∧ 1 + maxP (ntF w (i + 1) (takD s.fr h) (useD s.un j)) = s.need
def putD (s : PS) (i h j : Nat) : PS := ⟨takD s.fr h,useD s.un j,s.need - 1,s.cnt + 1,fun a => if a = s.cnt then ⟨i,h,j⟩ else s.pl a⟩
noncomputable def hourD (w : Wk) (i : Nat) (s : PS) : Nat := fstI (fun h => ∃ j,j < w.lots.1 ∧ canD w i s h j) w.hours.1
noncomputable def lotD (w : Wk) (i : Nat) (s : PS) : Nat := fstI (canD w i s (hourD w i s)) w.lots.1
noncomputable def stepD (w : Wk) (i : Nat) (s : PS) : PS := if hourD w i s < w.hours.1 then putD s i (hourD w i s) (lotD w i s) else s
noncomputable def stD (w : Wk) (fr : Nat → Bool) (un : Nat → Int) : Nat → PS
 | 0 => ⟨fr,un,maxP (ntF w 0 fr un),0,fun _ => ⟨0,0,0⟩⟩
 | i + 1 => stepD w i (stD w fr un i)
section
variable {w : Wk} {i h j : Nat} {s : PS}
theorem step_no (hn : ∀ h,h < w.hours.1 → ∀ j,j < w.lots.1 → ¬ canD w i s h j) : stepD w i s = s := by
 have : hourD w i s = w.hours.1 := fstI_no fun h hh ⟨j,hj,hc⟩ => hn h hh j hj hc
 unfold stepD; rw [this,if_neg (Nat.lt_irrefl _)]
theorem step_at (hh : h < w.hours.1) (hj : j < w.lots.1) (hc : canD w i s h j) (hb : ∀ h',h' < h → ∀ j',j' < w.lots.1 → ¬ canD w i s h' j') (hb2 : ∀ j',j' < j → ¬ canD w i s h j') : stepD w i s = putD s i h j := by
 have e : hourD w i s = h := fstI_at hh ⟨j,hj,hc⟩ fun h' h1 ⟨j',h2,h3⟩ => hb h' h1 j' h2 h3
 have e2 : lotD w i s = j := by unfold lotD; rw [e]; exact fstI_at hj hc hb2
 unfold stepD; rw [e2,e,if_pos hh]
theorem step_cases (w : Wk) (i : Nat) (s : PS) : (∃ h j,h < w.hours.1 ∧ j < w.lots.1 ∧ canD w i s h j ∧ (∀ h',h' < h → ∀ j',j' < w.lots.1 → ¬ canD w i s h' j') ∧ (∀ j',j' < j → ¬ canD w i s h j') ∧ stepD w i s = putD s i h j) ∨ ((∀ h,h < w.hours.1 → ∀ j,j < w.lots.1 → ¬ canD w i s h j) ∧ stepD w i s = s) := by
 by_cases hx : ∃ h,h < w.hours.1 ∧ ∃ j,j < w.lots.1 ∧ canD w i s h j
 ·obtain ⟨h,h1,⟨j0,j1,j2⟩,h3⟩ := fst_ex hx
  obtain ⟨j,g1,g2,g3⟩ := fst_ex ⟨j0,j1,j2⟩
  have a := fun h' (hh : h' < h) j' (hj' : j' < w.lots.1) (hc : canD w i s h' j') => h3 h' hh ⟨j',hj',hc⟩
  exact .inl ⟨h,j,h1,g1,g2,a,g3,step_at h1 g1 g2 a g3⟩
 ·have : ∀ h,h < w.hours.1 → ∀ j,j < w.lots.1 → ¬ canD w i s h j := fun h hh j hj hc => hx ⟨h,hh,j,hj,hc⟩
  exact .inr ⟨this,step_no this⟩
end
theorem size_nn (g : Pla) (n : Nat) : 0 ≤ Pla.size g n := by
 unfold Pla.size
 induction n with
 | zero => exact Int.le_refl _
 | succ n ih => simp only [sumN]; split <;> omega
theorem none_plan {N : Nt} (hun : ∀ j,0 ≤ N.un j) : IsPlan N fun _ => none :=
 ⟨fun i h j e => (by cases e),fun i i' h j j' e => (by cases e),fun j _ => by
  have : sumN (fun i => if lotIs ((fun _ => none : Pla) i) j = true then (1 : Int) else 0) N.S = 0 := sumN_ind_none fun i _ h => (by cases h)
  rw [this]; exact hun j⟩
theorem most_ex {N : Nt} (hun : ∀ j,0 ≤ N.un j) : IsMost N (maxP N) := by
 have key : ∀ d : Nat,∀ g,IsPlan N g → N.S ≤ (Pla.size g N.S).toNat + d → ∃ v,IsMost N v := by
  intro d
  induction d with
  | zero =>
   intro g hg hd
   refine ⟨Pla.size g N.S,⟨g,hg,rfl⟩,fun g' _ => ?_⟩
   have := Pla.size_le g' N.S
   have := size_nn g N.S
   omega
  | succ d ih =>
   intro g hg hd
   by_cases hx : ∃ g',IsPlan N g' ∧ Pla.size g N.S < Pla.size g' N.S
   ·obtain ⟨g',h1,h2⟩ := hx
    have := size_nn g N.S
    exact ih g' h1 (by omega)
   ·refine ⟨Pla.size g N.S,⟨g,hg,rfl⟩,fun g' h1 => ?_⟩
    rcases Int.lt_or_le (Pla.size g N.S) (Pla.size g' N.S) with h | h
    ·exact absurd ⟨g',h1,h⟩ hx
    ·exact h
 obtain ⟨v,hv⟩ := key N.S _ (none_plan hun) (by omega)
 rw [maxP_eq hv]; exact hv
theorem maxP_nn {N : Nt} (hun : ∀ j,0 ≤ N.un j) : 0 ≤ maxP N := by
 obtain ⟨g,_,e⟩ := (most_ex hun).ex
 rw [← e]; exact size_nn _ _
theorem maxP_le {N : Nt} (hun : ∀ j,0 ≤ N.un j) : maxP N ≤ N.S := by
 obtain ⟨g,_,e⟩ := (most_ex hun).ex
 rw [← e]; exact Pla.size_le _ _
structure PlOk (w : Wk) (s : PS) (i : Nat) : Prop where
 un : ∀ j,j < w.lots.1 → 0 ≤ s.un j ∧ s.un j ≤ 100
 nd : 0 ≤ s.need ∧ s.need ≤ 8
 cn : s.cnt ≤ i
theorem ntF_un {w : Wk} {a : Nat} {fr : Nat → Bool} {un : Nat → Int} (h : ∀ j,j < w.lots.1 → 0 ≤ un j) : ∀ j,0 ≤ (ntF w a fr un).un j := fun j => by
 show (0 : Int) ≤ if j < w.lots.1 then un j else 0
 split
 ·rename_i e; exact h j e
 ·exact Int.le_refl _
theorem useD_un {w : Wk} {un : Nat → Int} {j : Nat} (h : ∀ j,j < w.lots.1 → 0 ≤ un j ∧ un j ≤ 100) (hj : j < w.lots.1) (hn : un j ≠ 0) : ∀ b,b < w.lots.1 → 0 ≤ useD un j b ∧ useD un j b ≤ 100 := fun b hb => by
 have h1 := h b hb
 unfold useD; split
 ·rename_i e; subst e; omega
 ·exact h1
theorem PlOk.put {w : Wk} {s : PS} {i h j : Nat} (hs : PlOk w s i) (hj : j < w.lots.1) (hc : canD w i s h j) : PlOk w (putD s i h j) (i + 1) := by
 obtain ⟨_,c2,_,_,c5⟩ := hc
 have hu := useD_un hs.un hj c2
 have := maxP_nn (ntF_un (w := w) (a := i + 1) (fr := takD s.fr h) (un := useD s.un j) fun b hb => (hu b hb).1)
 have hn := hs.nd
 have hc := hs.cn
 exact ⟨hu,⟨by show 0 ≤ s.need - 1; omega,by show s.need - 1 ≤ 8; omega⟩,by show s.cnt + 1 ≤ _; omega⟩
theorem st_ok {w : Wk} (hb : WkB w) {fr : Nat → Bool} {un : Nat → Int} (hu : ∀ j,j < w.lots.1 → 0 ≤ un j ∧ un j ≤ 100) : ∀ i,PlOk w (stD w fr un i) i := by
 intro i
 induction i with
 | zero =>
  have h1 := ntF_un (w := w) (a := 0) (fr := fr) fun j hj => (hu j hj).1
  have h2 := maxP_nn h1
  have h3 := maxP_le h1
  have h4 : ((ntF w 0 fr un).S : Int) ≤ 8 := by have := hb.s; show (w.spathes.1 : Int) ≤ 8; omega
  exact ⟨hu,⟨h2,by show maxP (ntF w 0 fr un) ≤ 8; omega⟩,Nat.le_refl _⟩
 | succ i ih =>
  show PlOk w (stepD w i (stD w fr un i)) (i + 1)
  rcases step_cases w i (stD w fr un i) with ⟨h,j,_,h2,h3,_,_,h6⟩ | ⟨_,h6⟩
  ·rw [h6]; exact ih.put h2 h3
  ·rw [h6]; exact ⟨ih.un,ih.nd,by have := ih.cn; omega⟩
end Go.Proofs.Ytlapepdhkomijaa
