/- Nets: no plan has more dusts than a set's edges can bear; where no more can be pushed, the flow's number is the greatest. No condition. -/
import Derived.Test.YtlapepdhkomijaaPNet
set_option linter.unusedSimpArgs false
set_option linter.unusedVariables false
namespace Go.Proofs.Ytlapepdhkomijaa
section
variable {N : Nt} {dec : Nat → Nd} {enc : Nd → Nat} {r : Nat → Nat → Int} {val : Int}
def chg (enc : Nd → Nat) (s : Nat → Bool) (i h j : Nat) : Nat × Nat :=
 if s (enc (.sp i)) = false then (0,enc (.sp i)) else if s (enc (.hi h)) = false then (enc (.sp i),enc (.hi h)) else if s (enc (.ho h)) = false then (enc (.hi h),enc (.ho h)) else if s (enc (.lt j)) = false then (enc (.ho h),enc (.lt j)) else (enc (.lt j),1)
def cutN (N : Nt) (dec : Nat → Nd) (s : Nat → Bool) : Int := sumN (fun u => sumN (fun v => if s u = true ∧ s v = false then N.cap (dec u) (dec v) else 0) N.n) N.n
def chIs (enc : Nd → Nat) (s : Nat → Bool) (o : Option (Nat × Nat)) (i u v : Nat) : Prop := match o with
 | some p => chg enc s i p.1 p.2 = (u,v)
 | none => False
instance {enc : Nd → Nat} {s : Nat → Bool} {o : Option (Nat × Nat)} {i u v : Nat} : Decidable (chIs enc s o i u v) := by unfold chIs; split <;> infer_instance
theorem plan_cut (hC : Cod N dec enc) (hg : ∀ h,N.fr h = true → N.gf h = true) (hun : ∀ j,0 ≤ N.un j) {s : Nat → Bool} (h0 : s 0 = true) (h1 : s 1 = false) {g : Pla} (hp : IsPlan N g) : Pla.size g N.S ≤ cutN N dec s := by
 have hn : 1 < N.n := by simp only [Nt.n]; omega
 have d0 : dec 0 = .src := by have := (hC.ed .src trivial).2; rw [hC.e0] at this; exact this
 have d1 : dec 1 = .snk := by have := (hC.ed .snk trivial).2; rw [hC.e1] at this; exact this
 have inj : ∀ {x y},N.ok x → N.ok y → enc x = enc y → x = y := fun hx hy e => by rw [← (hC.ed _ hx).2,e,(hC.ed _ hy).2]
 have hne0 : ∀ {x},N.ok x → x ≠ .src → enc x ≠ 0 := fun hx hne e => hne (by rw [← (hC.ed _ hx).2,e,d0])
 have hne1 : ∀ {x},N.ok x → x ≠ .snk → enc x ≠ 1 := fun hx hne e => hne (by rw [← (hC.ed _ hx).2,e,d1])
 -- each dust's edge
 have hedge : ∀ i hh j,g i = some (hh,j) → (chg enc s i hh j).1 < N.n ∧ (chg enc s i hh j).2 < N.n ∧ s (chg enc s i hh j).1 = true ∧ s (chg enc s i hh j).2 = false := by
  intro i hh j hq
  obtain ⟨_,a1,a2,a3,_⟩ := hp.at' i hh j hq
  have b1 := (hC.ed (.sp i) a1).1
  have b2 := (hC.ed (.hi hh) a2).1
  have b3 := (hC.ed (.ho hh) a2).1
  have b4 := (hC.ed (.lt j) a3).1
  unfold chg
  split
  ·rename_i e1; exact ⟨by omega,b1,h0,e1⟩
  ·rename_i e1
   split
   ·rename_i e2; exact ⟨b1,b2,by simpa using e1,e2⟩
   ·rename_i e2
    split
    ·rename_i e3; exact ⟨b2,b3,by simpa using e2,e3⟩
    ·rename_i e3
     split
     ·rename_i e4; exact ⟨b3,b4,by simpa using e3,e4⟩
     ·rename_i e4; exact ⟨b4,hn,by simpa using e4,h1⟩
 have e1 : Pla.size g N.S = sumN (fun i => sumN (fun u => sumN (fun v => if chIs enc s (g i) i u v then 1 else 0) N.n) N.n) N.S := by
  refine sumN_congr fun i hi => ?_
  cases hq : g i with
  | none =>
   simp only [Option.isSome_none,chIs]
   exact ((sumN_congr fun u _ => (sumN_congr fun v _ => by simp).trans (sumN_zero _)).trans (sumN_zero _)).symm
  | some p =>
   obtain ⟨hh,j⟩ := p
   obtain ⟨q1,q2,_,_⟩ := hedge i hh j hq
   have : sumN (fun u => sumN (fun v => if chIs enc s (some (hh,j)) i u v then (1 : Int) else 0) N.n) N.n = sumN (fun u => if u = (chg enc s i hh j).1 then 1 else 0) N.n := by
    refine sumN_congr fun u hu => ?_
    by_cases eu : u = (chg enc s i hh j).1
    ·rw [if_pos eu]
     have : sumN (fun v => if chIs enc s (some (hh,j)) i u v then (1 : Int) else 0) N.n = sumN (fun v => if v = (chg enc s i hh j).2 then 1 else 0) N.n := sumN_congr fun v _ => by
      simp only [chIs,eu,Prod.ext_iff,true_and]
      by_cases e : v = (chg enc s i hh j).2
      ·rw [if_pos e,if_pos e.symm]
      ·rw [if_neg e,if_neg fun h => e h.symm]
     rw [this,sumN_one,if_pos q2]
    ·rw [if_neg eu]
     exact sumN_ind_none fun v _ hx => eu (by simp only [chIs,Prod.ext_iff] at hx; exact hx.1.symm)
   rw [this,sumN_one,if_pos q1]; rfl
 have e2 : sumN (fun i => sumN (fun u => sumN (fun v => if chIs enc s (g i) i u v then (1 : Int) else 0) N.n) N.n) N.S = sumN (fun u => sumN (fun v => sumN (fun i => if chIs enc s (g i) i u v then (1 : Int) else 0) N.S) N.n) N.n := by
  rw [← sumN_swap (fun u i => sumN (fun v => if chIs enc s (g i) i u v then (1 : Int) else 0) N.n) N.n N.S]
  exact sumN_congr fun u _ => (sumN_swap (fun v i => if chIs enc s (g i) i u v then (1 : Int) else 0) N.n N.S).symm
 rw [e1,e2]
 refine sumN_le fun u hu => sumN_le fun v hv => ?_
 -- how many dusts leave by one edge
 by_cases hx : ∃ i hh j,g i = some (hh,j) ∧ chg enc s i hh j = (u,v)
 ·obtain ⟨i,hh,j,hq,hc⟩ := hx
  obtain ⟨_,_,q3,q4⟩ := hedge i hh j hq
  rw [hc] at q3 q4
  rw [if_pos ⟨q3,q4⟩]
  obtain ⟨a0,a1,a2,a3,a4,a5,a6⟩ := hp.at' i hh j hq
  -- which edge it is,tells which spathe or hour
  have key : ∀ i' hh' j',g i' = some (hh',j') → chg enc s i' hh' j' = (u,v) → dec v ≠ .snk → i' = i := by
   intro i' hh' j' hq' hc' hns
   obtain ⟨_,b1,b2,b3,_⟩ := hp.at' i' hh' j' hq'
   have hcc : chg enc s i' hh' j' = chg enc s i hh j := hc'.trans hc.symm
   have hsamespoth : hh' = hh → i' = i := fun e => hp.inj i' i hh j' j (by rw [← e]; exact hq') hq
   have hend : ∀ {i hh j},chg enc s i hh j = (u,v) → ¬ (chg enc s i hh j = (enc (.lt j),1)) := by
    intro i hh j hc e
    rw [hc] at e
    injection e with _ e
    rw [e,d1] at hns; exact hns rfl
   have d1' := hend hc
   have d2' := hend hc'
   unfold chg at hcc d1' d2'
   repeat' split at hcc
   all_goals first
    | (exfalso; simp_all; done)
    | skip
   all_goals
    simp only [Prod.ext_iff] at hcc
    obtain ⟨c1,c2⟩ := hcc
    first
    | exact Nd.sp.inj (inj (x := .sp i') (y := .sp i) b1 a1 c2)
    | exact Nd.sp.inj (inj (x := .sp i') (y := .sp i) b1 a1 c1)
    | exact hsamespoth (Nd.hi.inj (inj (x := .hi hh') (y := .hi hh) b2 a2 c2))
    | exact hsamespoth (Nd.hi.inj (inj (x := .hi hh') (y := .hi hh) b2 a2 c1))
    | exact hsamespoth (Nd.ho.inj (inj (x := .ho hh') (y := .ho hh) b2 a2 c1))
    | exact hsamespoth (Nd.ho.inj (inj (x := .ho hh') (y := .ho hh) b2 a2 c2))
    | (exfalso; exact absurd c1 (Ne.symm (hne0 a1 (by simp))))
    | (exfalso; exact absurd c1 (Ne.symm (hne0 a2 (by simp))))
    | (exfalso; exact absurd c1 (hne0 b1 (by simp)))
    | (exfalso; exact absurd c1 (hne0 b2 (by simp)))
    | (exfalso; have := inj (x := .sp i') (y := .hi hh) b1 a2 c1; cases this; done)
    | (exfalso; have := inj (x := .sp i') (y := .ho hh) b1 a2 c1; cases this; done)
    | (exfalso; have := inj (x := .hi hh') (y := .sp i) b2 a1 c1; cases this; done)
    | (exfalso; have := inj (x := .hi hh') (y := .ho hh) b2 a2 c1; cases this; done)
    | (exfalso; have := inj (x := .ho hh') (y := .sp i) b2 a1 c1; cases this; done)
    | (exfalso; have := inj (x := .ho hh') (y := .hi hh) b2 a2 c1; cases this; done)
  by_cases hsn : dec v = .snk
  ·-- it is a lot's edge
   have hlast : ∀ i' hh' j',g i' = some (hh',j') → chg enc s i' hh' j' = (u,v) → u = enc (.lt j') := by
    intro i' hh' j' hq' hc'
    obtain ⟨_,b1,b2,b3,_⟩ := hp.at' i' hh' j' hq'
    unfold chg at hc'
    repeat' split at hc'
    all_goals
     simp only [Prod.ext_iff] at hc'
     obtain ⟨c1,c2⟩ := hc'
     first
     | exact c1.symm
     | (exfalso; rw [← c2,(hC.ed (.sp i') b1).2] at hsn; cases hsn; done)
     | (exfalso; rw [← c2,(hC.ed (.hi hh') b2).2] at hsn; cases hsn; done)
     | (exfalso; rw [← c2,(hC.ed (.ho hh') b2).2] at hsn; cases hsn; done)
     | (exfalso; rw [← c2,(hC.ed (.lt j') b3).2] at hsn; cases hsn; done)
   have eu := hlast i hh j hq hc
   have hcap : N.cap (dec u) (dec v) = N.un j := by rw [eu,(hC.ed (.lt j) a3).2,hsn]; simp only [Nt.cap]; rw [if_pos a3]
   rw [hcap]
   refine Int.le_trans (sumN_le fun i' _ => ?_) (hp.lots j a3)
   cases hq' : g i' with
   | none => simp [chIs,lotIs]
   | some p =>
    obtain ⟨hh',j'⟩ := p
    by_cases hc' : chIs enc s (some (hh',j')) i' u v
    ·have e3 := hlast i' hh' j' hq' hc'
     have := inj (x := .lt j') (y := .lt j) (hp.at' i' hh' j' hq').2.2.2.1 a3 (e3.symm.trans eu)
     injection this with this
     rw [if_pos hc',if_pos (by simp [lotIs,this])]; exact Int.le_refl _
    ·rw [if_neg hc']; split <;> omega
  ·have hone : sumN (fun i' => if chIs enc s (g i') i' u v then (1 : Int) else 0) N.S ≤ 1 := sumN_ind_le fun x y _ _ hx hy => by
    have kk : ∀ z,chIs enc s (g z) z u v → z = i := fun z hz => by
     cases hqz : g z with
     | none => rw [hqz] at hz; exact hz.elim
     | some p => rw [hqz] at hz; exact key z p.1 p.2 hqz hz hsn
    rw [kk x hx,kk y hy]
   have hcap : N.cap (dec u) (dec v) = 1 := by
    have hc2 := hc
    unfold chg at hc2
    repeat' split at hc2
    all_goals
     simp only [Prod.ext_iff] at hc2
     obtain ⟨c1,c2⟩ := hc2
     subst c1
     subst c2
    ·rw [d0,(hC.ed (.sp i) a1).2]; simp only [Nt.cap]; rw [if_pos ⟨a0,a1⟩]
    ·rw [(hC.ed (.sp i) a1).2,(hC.ed (.hi hh) a2).2]; simp only [Nt.cap]; rw [if_pos ⟨a0,a1,a2,a4⟩]
    ·rw [(hC.ed (.hi hh) a2).2,(hC.ed (.ho hh) a2).2]; simp only [Nt.cap]; rw [if_pos (by exact ⟨by first | rfl | trivial,a2,a6⟩)]
    ·rw [(hC.ed (.ho hh) a2).2,(hC.ed (.lt j) a3).2]; simp only [Nt.cap]; rw [if_pos ⟨a2,a3,a5,hg hh a6⟩]
    ·exact absurd d1 hsn
   rw [hcap]; exact hone
 ·have : sumN (fun i => if chIs enc s (g i) i u v then (1 : Int) else 0) N.S = 0 := sumN_ind_none fun i _ hi => hx (by
   cases hq : g i with
   | none => rw [hq] at hi; exact hi.elim
   | some p => rw [hq] at hi; exact ⟨i,p.1,p.2,hq,hi⟩)
  rw [this]
  split
  ·cases dec u <;> cases dec v <;> simp only [Nt.cap] <;> first | omega | (split <;> omega) | (split; exact hun _; omega)
  ·exact Int.le_refl _
theorem FlowOk.most (hC : Cod N dec enc) (hg : ∀ h,N.fr h = true → N.gf h = true) (hun : ∀ j,0 ≤ N.un j) (h : FlowOk N dec r val) {s : Nat → Bool} (h0 : s 0 = true) (h1 : s 1 = false) (hc : ∀ u,u < N.n → s u = true → ∀ v,v < N.n → 0 < r u v → s v = true) : IsMost N val :=
 ⟨h.plan hC hg hun,fun g hp => by
  have := plan_cut hC hg hun h0 h1 hp
  have e := h.cut h0 h1 hc
  unfold cutN at this
  omega⟩
end
end Go.Proofs.Ytlapepdhkomijaa
