/- Nets: a plan is a flow. No condition. -/
import Derived.Test.YtlapepdhkomijaaPEdg2
import Derived.Test.YtlapepdhkomijaaPNet2
set_option linter.unusedSimpArgs false
set_option linter.unusedVariables false
namespace Go.Proofs.Ytlapepdhkomijaa
def hrIs (o : Option (Nat × Nat)) (h : Nat) : Bool := match o with
 | some p => p.1 == h
 | none => false
def wayI (g : Pla) (i : Nat) : Nd → Nd → Bool
 | .src,.sp k => k == i && (g i).isSome
 | .sp k,.hi h => k == i && hrIs (g i) h
 | .hi h,.ho k => k == h && hrIs (g i) h
 | .ho h,.lt j => hrIs (g i) h && lotIs (g i) j
 | .lt j,.snk => lotIs (g i) j
 | _,_ => false
def usedF (g : Pla) (S : Nat) (x y : Nd) : Int := sumN (fun i => if wayI g i x y = true then 1 else 0) S
def resG (N : Nt) (dec : Nat → Nd) (g : Pla) (u v : Nat) : Int := N.cap (dec u) (dec v) - usedF g N.S (dec u) (dec v) + usedF g N.S (dec v) (dec u)
theorem used_none {g : Pla} {S : Nat} {x y : Nd} (h : ∀ i,i < S → wayI g i x y = false) : usedF g S x y = 0 := sumN_ind_none fun i hi => by rw [h i hi]; decide
theorem used_nn (g : Pla) (S : Nat) (x y : Nd) : 0 ≤ usedF g S x y := sumN_nn fun i _ => by split <;> decide
theorem used_pos {g : Pla} {S : Nat} {x y : Nd} {i : Nat} (hi : i < S) (h : wayI g i x y = true) : 1 ≤ usedF g S x y := by
 have := sumN_get (f := fun i => if wayI g i x y = true then (1 : Int) else 0) (n := S) (fun i _ => by show (0 : Int) ≤ if _ then 1 else 0; split <;> decide) hi
 simp only [h,if_true] at this
 exact this
section
variable {N : Nt} {dec : Nat → Nd} {enc : Nd → Nat} {g : Pla}
theorem cap_nn (hun : ∀ j,0 ≤ N.un j) (x y : Nd) : 0 ≤ N.cap x y := by
 cases x <;> cases y <;> simp only [Nt.cap] <;> first | exact Int.le_refl _ | (split <;> first | exact hun _ | decide)
theorem way_at {i h : Nat} (e : hrIs (g i) h = true) : ∃ j,g i = some (h,j) := by
 cases hq : g i with
 | none => rw [hq] at e; cases e
 | some p => rw [hq] at e; obtain ⟨a,b⟩ := p; simp only [hrIs,beq_iff_eq] at e; subst e; exact ⟨b,rfl⟩
theorem lot_at {i j : Nat} (e : lotIs (g i) j = true) : ∃ h,g i = some (h,j) := by
 cases hq : g i with
 | none => rw [hq] at e; cases e
 | some p => rw [hq] at e; obtain ⟨a,b⟩ := p; simp only [lotIs,beq_iff_eq] at e; subst e; exact ⟨a,rfl⟩
theorem used_cap (hg : ∀ h,N.fr h = true → N.gf h = true) (hun : ∀ j,0 ≤ N.un j) (hp : IsPlan N g) (x y : Nd) : usedF g N.S x y ≤ N.cap x y := by
 have h0 := cap_nn hun x y
 have hz : (∀ i,i < N.S → wayI g i x y = false) → usedF g N.S x y ≤ N.cap x y := fun h => by rw [used_none h]; exact h0
 have hone : ∀ k,N.cap x y = 1 ∨ (∀ i,i < N.S → wayI g i x y = false) → (∀ i,wayI g i x y = true → i = k) → usedF g N.S x y ≤ N.cap x y := fun k h1 h2 => by
  rcases h1 with h1 | h1
  ·rw [h1]; exact sumN_ind_le fun i i' _ _ a b => (h2 i a).trans (h2 i' b).symm
  ·exact hz h1
 cases x with
 | src =>
  cases y with
  | sp k =>
   refine hone k ?_ fun i h => by simp only [wayI,Bool.and_eq_true,beq_iff_eq] at h; exact h.1.symm
   cases hq : g k with
   | none =>
    exact .inr fun i _ => by
     by_cases e : k = i
     ·subst e; simp [wayI,hq]
     ·simp [wayI,e]
   | some p => left; obtain ⟨a1,a2,_⟩ := hp.at' k p.1 p.2 hq; simp only [Nt.cap]; exact if_pos ⟨a1,a2⟩
  | _ => exact hz fun _ _ => rfl
 | sp k =>
  cases y with
  | hi h =>
   refine hone k ?_ fun i h => by simp only [wayI,Bool.and_eq_true,beq_iff_eq] at h; exact h.1.symm
   cases hq : hrIs (g k) h with
   | false =>
    exact .inr fun i _ => by
     by_cases e : k = i
     ·subst e; simp [wayI,hq]
     ·simp [wayI,e]
   | true =>
    left; obtain ⟨j,hj⟩ := way_at hq
    obtain ⟨a1,a2,a3,a4,a5,a6,a7⟩ := hp.at' k h j hj
    simp only [Nt.cap]; exact if_pos ⟨a1,a2,a3,a5⟩
  | _ => exact hz fun _ _ => rfl
 | hi h =>
  cases y with
  | ho k =>
   by_cases hx : ∃ i,wayI g i (.hi h) (.ho k) = true
   ·obtain ⟨i,hi⟩ := hx
    simp only [wayI,Bool.and_eq_true,beq_iff_eq] at hi
    obtain ⟨rfl,hi⟩ := hi
    obtain ⟨j,hj⟩ := way_at hi
    obtain ⟨a1,a2,a3,a4,a5,a6,a7⟩ := hp.at' i k j hj
    refine hone i (.inl ?_) fun i' h' => ?_
    ·simp only [Nt.cap]; exact if_pos (by exact ⟨by first | rfl | trivial,a3,a7⟩)
    ·simp only [wayI,Bool.and_eq_true] at h'
     obtain ⟨j',hj'⟩ := way_at h'.2
     exact hp.inj i' i k j' j hj' hj
   ·exact hz fun i _ => by cases e : wayI g i (.hi h) (.ho k) with | true => exact absurd ⟨i,e⟩ hx | false => rfl
  | _ => exact hz fun _ _ => rfl
 | ho h =>
  cases y with
  | lt j =>
   by_cases hx : ∃ i,wayI g i (.ho h) (.lt j) = true
   ·obtain ⟨i,hi⟩ := hx
    simp only [wayI,Bool.and_eq_true] at hi
    obtain ⟨j1,hj1⟩ := way_at hi.1
    obtain ⟨h2,hj2⟩ := lot_at hi.2
    rw [hj1] at hj2
    obtain ⟨rfl,rfl⟩ : h = h2 ∧ j1 = j := by injection hj2 with e; injection e with e1 e2; exact ⟨e1,e2⟩
    obtain ⟨a1,a2,a3,a4,a5,a6,a7⟩ := hp.at' i h j1 hj1
    refine hone i (.inl ?_) fun i' h' => ?_
    ·simp only [Nt.cap]; exact if_pos ⟨a3,a4,a6,hg h a7⟩
    ·simp only [wayI,Bool.and_eq_true] at h'
     obtain ⟨j',hj'⟩ := way_at h'.1
     exact hp.inj i' i h j' j1 hj' hj1
   ·exact hz fun i _ => by cases e : wayI g i (.ho h) (.lt j) with | true => exact absurd ⟨i,e⟩ hx | false => rfl
  | _ => exact hz fun _ _ => rfl
 | lt j =>
  cases y with
  | snk =>
   by_cases hj : j < N.L
   ·simp only [Nt.cap]; rw [if_pos hj]; exact hp.lots j hj
   ·exact hz fun i _ => by
     cases e : wayI g i (.lt j) .snk with
     | true => obtain ⟨h,hh⟩ := lot_at (show lotIs (g i) j = true from e); exact absurd (hp.at' i h j hh).2.2.2.1 hj
     | false => rfl
  | _ => exact hz fun _ _ => rfl
 | snk => exact hz fun _ _ => rfl
theorem sum_dec (hC : Cod N dec enc) {y0 : Nd} (h0 : N.ok y0) {c : Bool} {P : Nd → Bool} (h1 : P y0 = c) (h2 : ∀ y,y ≠ y0 → P y = false) : sumN (fun v => if P (dec v) = true then (1 : Int) else 0) N.n = if c = true then 1 else 0 := by
 have : sumN (fun v => if P (dec v) = true then (1 : Int) else 0) N.n = sumN (fun v => if v = enc y0 then (if c = true then 1 else 0) else 0) N.n := sumN_congr fun v hv => by
  by_cases e : v = enc y0
  ·rw [if_pos e,e,(hC.ed y0 h0).2,h1]
  ·rw [if_neg e,h2 _ fun e2 => e (by rw [← e2]; exact (hC.de v hv).symm)]; rfl
 rw [this,sumN_one,if_pos (hC.ed y0 h0).1]
theorem sum_dec0 {P : Nd → Bool} (h2 : ∀ y,P y = false) : sumN (fun v => if P (dec v) = true then (1 : Int) else 0) N.n = 0 := sumN_ind_none fun v _ => by rw [h2]; decide
theorem way_row (hC : Cod N dec enc) (hp : IsPlan N g) (i : Nat) {x : Nd} (hx : N.ok x) (h0 : x ≠ .src) (h1 : x ≠ .snk) : sumN (fun v => if wayI g i x (dec v) = true then (1 : Int) else 0) N.n = sumN (fun v => if wayI g i (dec v) x = true then (1 : Int) else 0) N.n := by
 cases hq : g i with
 | none =>
  rw [sum_dec0 (P := fun y => wayI g i x y) (fun y => by cases x <;> cases y <;> simp [wayI,hq,hrIs,lotIs]),sum_dec0 (P := fun y => wayI g i y x) (fun y => by cases x <;> cases y <;> simp [wayI,hq,hrIs,lotIs])]
 | some p =>
  obtain ⟨h,j⟩ := p
  obtain ⟨a1,a2,a3,a4,a5,a6,a7⟩ := hp.at' i h j hq
  cases x with
  | src => exact absurd rfl h0
  | snk => exact absurd rfl h1
  | sp k =>
   rw [sum_dec hC (P := fun y => wayI g i (.sp k) y) (y0 := .hi h) (c := k == i) a3 (by simp [wayI,hq,hrIs]) (fun y hy => by cases y <;> simp [wayI,hq,hrIs]; intro _ e; exact hy (by rw [e])),
    sum_dec hC (P := fun y => wayI g i y (.sp k)) (y0 := .src) (c := k == i) trivial (by simp [wayI,hq]) (fun y hy => by cases y <;> simp [wayI] at hy ⊢)]
  | hi k =>
   rw [sum_dec hC (P := fun y => wayI g i (.hi k) y) (y0 := .ho k) (c := h == k) hx (by simp [wayI,hq,hrIs]) (fun y hy => by cases y <;> simp [wayI,hq,hrIs]; intro e; exact absurd (by rw [e]) hy),
    sum_dec hC (P := fun y => wayI g i y (.hi k)) (y0 := .sp i) (c := h == k) a2 (by simp [wayI,hq,hrIs]) (fun y hy => by cases y <;> simp [wayI,hq,hrIs]; intro e; exact absurd (by rw [e]) hy)]
  | ho k =>
   rw [sum_dec hC (P := fun y => wayI g i (.ho k) y) (y0 := .lt j) (c := h == k) a4 (by simp [wayI,hq,hrIs,lotIs]) (fun y hy => by cases y <;> simp [wayI,hq,hrIs,lotIs]; intro _ e; exact hy (by rw [e])),
    sum_dec hC (P := fun y => wayI g i y (.ho k)) (y0 := .hi k) (c := h == k) hx (by simp [wayI,hq,hrIs]) (fun y hy => by cases y <;> simp [wayI,hq,hrIs]; intro e; exact absurd (by rw [e]) hy)]
  | lt k =>
   rw [sum_dec hC (P := fun y => wayI g i (.lt k) y) (y0 := .snk) (c := j == k) trivial (by simp [wayI,hq,lotIs]) (fun y hy => by cases y <;> simp [wayI] at hy ⊢),
    sum_dec hC (P := fun y => wayI g i y (.lt k)) (y0 := .ho h) (c := j == k) a3 (by simp [wayI,hq,hrIs,lotIs]) (fun y hy => by cases y <;> simp [wayI,hq,hrIs,lotIs]; intro e; exact absurd (by rw [e]) hy)]
theorem used_row (hC : Cod N dec enc) (hp : IsPlan N g) {x : Nd} (hx : N.ok x) (h0 : x ≠ .src) (h1 : x ≠ .snk) : sumN (fun v => usedF g N.S x (dec v)) N.n = sumN (fun v => usedF g N.S (dec v) x) N.n := by
 unfold usedF
 rw [sumN_swap (fun v i => if wayI g i x (dec v) = true then (1 : Int) else 0),sumN_swap (fun v i => if wayI g i (dec v) x = true then (1 : Int) else 0)]
 exact sumN_congr fun i _ => way_row hC hp i hx h0 h1
theorem plan_flow (hC : Cod N dec enc) (hok : ∀ u,u < N.n → N.ok (dec u)) (hg : ∀ h,N.fr h = true → N.gf h = true) (hun : ∀ j,0 ≤ N.un j) (hp : IsPlan N g) : FlowOk N dec (resG N dec g) (Pla.size g N.S) where
 nn i _ j _ := by
  have h1 := used_cap hg hun hp (dec i) (dec j)
  have h2 := used_nn g N.S (dec j) (dec i)
  unfold resG; omega
 sk i _ j _ := by unfold resG; omega
 row i hi h0 h1 := by
  have d0 : dec 0 = .src := by have := (hC.ed .src trivial).2; rw [hC.e0] at this; exact this
  have d1 : dec 1 = .snk := by have := (hC.ed .snk trivial).2; rw [hC.e1] at this; exact this
  have := used_row hC hp (hok i hi) (fun e => h0 (by have := hC.de i hi; rw [e,hC.e0] at this; exact this.symm)) (fun e => h1 (by have := hC.de i hi; rw [e,hC.e1] at this; exact this.symm))
  show sumN (fun v => N.cap (dec i) (dec v) - usedF g N.S (dec i) (dec v) + usedF g N.S (dec v) (dec i)) N.n = _
  rw [sumN_add,sumN_sub,this]; omega
 src := by
  have d0 : dec 0 = .src := by have := (hC.ed .src trivial).2; rw [hC.e0] at this; exact this
  show sumN (fun v => N.cap (dec 0) (dec v) - usedF g N.S (dec 0) (dec v) + usedF g N.S (dec v) (dec 0)) N.n = _
  rw [sumN_add,sumN_sub,d0]
  have e1 : sumN (fun v => usedF g N.S (dec v) .src) N.n = 0 := (sumN_congr fun v _ => used_none fun i _ => by cases dec v <;> rfl).trans (sumN_zero _)
  have e2 : sumN (fun v => usedF g N.S .src (dec v)) N.n = Pla.size g N.S := by
   unfold usedF Pla.size
   rw [sumN_swap (fun v i => if wayI g i .src (dec v) = true then (1 : Int) else 0)]
   refine sumN_congr fun i hi => ?_
   exact sum_dec hC (P := fun y => wayI g i .src y) (y0 := .sp i) (c := (g i).isSome) hi (by simp [wayI]) (fun y hy => by cases y <;> simp [wayI]; intro e; exact absurd (by rw [e]) hy)
  rw [e1,e2]; omega
theorem res_at (hC : Cod N dec enc) {x y : Nd} (hx : N.ok x) (hy : N.ok y) : resG N dec g (enc x) (enc y) = N.cap x y - usedF g N.S x y + usedF g N.S y x := by
 unfold resG; rw [(hC.ed x hx).2,(hC.ed y hy).2]
end
end Go.Proofs.Ytlapepdhkomijaa
namespace Go.Proofs.Ytlapepdhkomijaa
open Go Go.RowKit
abbrev ntW (w : Wk) : Nt := ntF w 0 (fun _ => true) fun j => (w.lots.2 j).units
def addP (g : Pla) (i h j : Nat) : Pla := fun a => if a = i then some (h,j) else g a
def plaK (pl : Nat → Du) : Nat → Pla
 | 0 => fun _ => none
 | k + 1 => addP (plaK pl k) (pl k).spathe.toNat (pl k).hour.toNat (pl k).lot.toNat
theorem plaK_congr {p q : Nat → Du} : ∀ {k : Nat},(∀ a,a < k → p a = q a) → plaK p k = plaK q k := by
 intro k; induction k with
 | zero => intro _; rfl
 | succ k ih => intro h; simp only [plaK,ih fun a ha => h a (by omega),h k (by omega)]
def lotN (g : Pla) (S j : Nat) : Int := sumN (fun a => if lotIs (g a) j = true then 1 else 0) S
theorem lotN_add {g : Pla} {S i h j : Nat} (hi : i < S) (hg : g i = none) (b : Nat) : lotN (addP g i h j) S b = lotN g S b + if b = j then 1 else 0 := by
 unfold lotN
 rw [← sumN_upd _ hi (if b = j then 1 else 0)]
 refine sumN_congr fun a _ => ?_
 unfold addP
 by_cases e : a = i
 ·subst e
  rw [if_pos rfl,if_pos rfl,hg]
  by_cases e2 : b = j
  ·subst e2; simp [lotIs]
  ·have : (j == b) = false := by simp only [beq_eq_false_iff_ne]; exact fun e => e2 e.symm
   simp [lotIs,e2,this]
 ·rw [if_neg e,if_neg e]
theorem size_add {g : Pla} {S i h j : Nat} (hi : i < S) (hg : g i = none) : Pla.size (addP g i h j) S = Pla.size g S + 1 := by
 unfold Pla.size
 rw [← sumN_upd _ hi 1]
 refine sumN_congr fun a _ => ?_
 unfold addP
 by_cases e : a = i
 ·subst e; rw [if_pos rfl,if_pos rfl,hg]; rfl
 ·rw [if_neg e,if_neg e]
section
variable {w : Wk} {i h j : Nat} {fr : Nat → Bool} {un : Nat → Int} {g : Pla}
theorem ntF_un_at {a b : Nat} (hb : b < w.lots.1) : (ntF w a fr un).un b = un b := if_pos hb
theorem plan_up (hp : IsPlan (ntF w (i + 1) fr un) g) : IsPlan (ntF w i fr un) g :=
 ⟨fun a x y e => by
  obtain ⟨b1,b2⟩ := hp.at' a x y e
  exact ⟨by have : i + 1 ≤ a := b1; show i ≤ a; omega,b2⟩,hp.inj,hp.lots⟩
theorem plan_down (hp : IsPlan (ntF w i fr un) g) (hg : g i = none) : IsPlan (ntF w (i + 1) fr un) g :=
 ⟨fun a x y e => by
  obtain ⟨b1,b2⟩ := hp.at' a x y e
  refine ⟨?_,b2⟩
  have h1 : i ≤ a := b1
  show i + 1 ≤ a
  rcases Nat.eq_or_lt_of_le h1 with e2 | e2
  ·subst e2; rw [hg] at e; cases e
  ·exact e2,hp.inj,hp.lots⟩
theorem plan_put (hi : i < w.spathes.1) (hh : h < w.hours.1) (hj : j < w.lots.1) (hf : fr h = true) (ht : takesF w i h = true) (hgd : goodF w h j = true) (hp : IsPlan (ntF w (i + 1) (takD fr h) (useD un j)) g) : IsPlan (ntF w i fr un) (addP g i h j) ∧ Pla.size (addP g i h j) w.spathes.1 = Pla.size g w.spathes.1 + 1 := by
 have hgi : g i = none := by
  cases e : g i with
  | none => rfl
  | some p => exact absurd (hp.at' i p.1 p.2 e).1 (by show ¬ i + 1 ≤ i; omega)
 have hno : ∀ a y,g a ≠ some (h,y) := fun a y e => by
  have := (hp.at' a h y e).2.2.2.2.2.2
  simp [ntF,takD] at this
 refine ⟨⟨fun a x y e => ?_,fun a a' x y y' e e' => ?_,fun b hb => ?_⟩,size_add hi hgi⟩
 ·unfold addP at e
  by_cases ea : a = i
  ·rw [if_pos ea] at e
   injection e with e; injection e with e1 e2
   subst ea; subst e1; subst e2
   exact ⟨Nat.le_refl _,hi,hh,hj,ht,hgd,hf⟩
  ·rw [if_neg ea] at e
   obtain ⟨b1,b2,b3,b4,b5,b6,b7⟩ := hp.at' a x y e
   refine ⟨by have : i + 1 ≤ a := b1; show i ≤ a; omega,b2,b3,b4,b5,b6,?_⟩
   have b7 : (if x = h then false else fr x) = true := b7
   split at b7
   ·cases b7
   ·exact b7
 ·unfold addP at e e'
  by_cases ea : a = i <;> by_cases eb : a' = i
  ·rw [ea,eb]
  ·rw [if_pos ea] at e; rw [if_neg eb] at e'
   injection e with e; injection e with e1 e2
   subst e1; exact absurd e' (hno _ _)
  ·rw [if_neg ea] at e; rw [if_pos eb] at e'
   injection e' with e'; injection e' with e1 e2
   subst e1; exact absurd e (hno _ _)
  ·rw [if_neg ea] at e; rw [if_neg eb] at e'
   exact hp.inj a a' x y y' e e'
 ·have hb : b < w.lots.1 := hb
  have := hp.lots b hb
  rw [ntF_un_at hb] at this ⊢
  show lotN (addP g i h j) w.spathes.1 b ≤ un b
  have h2 : lotN g w.spathes.1 b ≤ useD un j b := this
  rw [lotN_add hi hgi]
  unfold useD at h2
  by_cases e : b = j
  ·rw [if_pos e] at h2 ⊢; omega
  ·rw [if_neg e] at h2 ⊢; omega
theorem plan_take (hp : IsPlan (ntF w i fr un) g) (hg : g i = some (h,j)) : ∃ g',IsPlan (ntF w (i + 1) (takD fr h) (useD un j)) g' ∧ Pla.size g w.spathes.1 = Pla.size g' w.spathes.1 + 1 ∧ 1 ≤ un j := by
 obtain ⟨c1,c2,c3,c4,c5,c6,c7⟩ := hp.at' i h j hg
 have c2 : i < w.spathes.1 := c2
 have c4 : j < w.lots.1 := c4
 let g' : Pla := fun a => if a = i then none else g a
 have hi' : g' i = none := if_pos rfl
 have e : addP g' i h j = g := by
  funext a; unfold addP
  by_cases ea : a = i
  ·rw [if_pos ea,ea,hg]
  ·rw [if_neg ea]; exact if_neg ea
 have hsz := size_add (S := w.spathes.1) (h := h) (j := j) c2 hi'
 have hln := fun b => lotN_add (S := w.spathes.1) (h := h) (j := j) c2 hi' b
 rw [e] at hsz
 simp only [e] at hln
 have hat : ∀ {a x y},g' a = some (x,y) → a ≠ i ∧ g a = some (x,y) := fun {a x y} q => by
  by_cases ea : a = i
  ·rw [ea,hi'] at q; cases q
  ·exact ⟨ea,by rw [show g' a = g a from if_neg ea] at q; exact q⟩
 refine ⟨g',⟨fun a x y q => ?_,fun a a' x y y' q q' => hp.inj a a' x y y' (hat q).2 (hat q').2,fun b hb => ?_⟩,hsz,?_⟩
 ·obtain ⟨q1,q2⟩ := hat q
  obtain ⟨b1,b2,b3,b4,b5,b6,b7⟩ := hp.at' a x y q2
  refine ⟨by have : i ≤ a := b1; show i + 1 ≤ a; omega,b2,b3,b4,b5,b6,?_⟩
  show (if x = h then false else fr x) = true
  rw [if_neg fun ex => q1 (by subst ex; exact hp.inj a i x y j q2 hg)]
  exact b7
 ·have hb : b < w.lots.1 := hb
  have := hp.lots b hb
  rw [ntF_un_at hb] at this ⊢
  show lotN g' w.spathes.1 b ≤ useD un j b
  have h2 : lotN g w.spathes.1 b ≤ un b := this
  rw [hln b] at h2
  unfold useD
  by_cases e : b = j
  ·rw [if_pos e] at h2 ⊢; omega
  ·rw [if_neg e] at h2 ⊢; omega
 ·have := hp.lots j c4
  rw [ntF_un_at c4] at this
  have h2 : lotN g w.spathes.1 j ≤ un j := this
  rw [hln j,if_pos rfl] at h2
  have : 0 ≤ lotN g' w.spathes.1 j := sumN_nn fun a _ => by split <;> decide
  omega
theorem most_skip (hi : i < w.spathes.1) (hun : ∀ b,b < w.lots.1 → 0 ≤ un b ∧ un b ≤ 100) {s : PS} (e1 : s.fr = fr) (e2 : s.un = un) (e3 : s.need = maxP (ntF w i fr un)) (hn : ∀ h,h < w.hours.1 → ∀ j,j < w.lots.1 → ¬ canD w i s h j) : maxP (ntF w (i + 1) fr un) = maxP (ntF w i fr un) := by
 have hu := fun a => ntF_un (w := w) (a := a) (fr := fr) fun b hb => (hun b hb).1
 have hm := most_ex (hu i)
 have hm1 := most_ex (hu (i + 1))
 obtain ⟨g,hg,hs⟩ := hm.ex
 obtain ⟨g1,hg1,hs1⟩ := hm1.ex
 have l1 := hm.le g1 (plan_up hg1)
 have hs : Pla.size g w.spathes.1 = _ := hs
 have hs1 : Pla.size g1 w.spathes.1 = _ := hs1
 have l1 : Pla.size g1 w.spathes.1 ≤ _ := l1
 cases hq : g i with
 | none =>
  have l2 : Pla.size g w.spathes.1 ≤ _ := hm1.le g (plan_down hg hq)
  omega
 | some p =>
  obtain ⟨h,j⟩ := p
  exfalso
  obtain ⟨c1,c2,c3,c4,c5,c6,c7⟩ := hg.at' i h j hq
  obtain ⟨g',hg',hsz,hj1⟩ := plan_take hg hq
  have hu2 := useD_un (j := j) hun c4 (by omega)
  have hm2 := most_ex (ntF_un (w := w) (a := i + 1) (fr := takD fr h) (un := useD un j) fun b hb => (hu2 b hb).1)
  have l2 : Pla.size g' w.spathes.1 ≤ _ := hm2.le g' hg'
  obtain ⟨g2,hg2,hs2⟩ := hm2.ex
  have hs2 : Pla.size g2 w.spathes.1 = _ := hs2
  obtain ⟨p1,p2⟩ := plan_put hi c3 c4 c7 c5 c6 hg2
  have l3 : Pla.size (addP g2 i h j) w.spathes.1 ≤ _ := hm.le _ p1
  refine hn h c3 j c4 ⟨by rw [e1]; exact c7,by rw [e2]; omega,c5,c6,?_⟩
  rw [e1,e2,e3]
  omega
end
structure GrOk (w : Wk) (s : PS) (i : Nat) : Prop where
 pl : IsPlan (ntW w) (plaK s.pl s.cnt)
 rg : ∀ k,k < s.cnt → ∃ a h j : Nat,s.pl k = ⟨a,h,j⟩ ∧ a < i ∧ a < w.spathes.1 ∧ h < w.hours.1 ∧ j < w.lots.1
 up : ∀ k k',k < k' → k' < s.cnt → (s.pl k).spathe < (s.pl k').spathe
 fr : ∀ h,h < w.hours.1 → (s.fr h = true ↔ ∀ a j,plaK s.pl s.cnt a ≠ some (h,j))
 un : ∀ j,j < w.lots.1 → s.un j = (w.lots.2 j).units - lotN (plaK s.pl s.cnt) w.spathes.1 j
 top : ∀ a,i ≤ a → plaK s.pl s.cnt a = none
 need : s.need = maxP (ntF w i s.fr s.un)
 sz : Pla.size (plaK s.pl s.cnt) w.spathes.1 = s.cnt
 tot : s.cnt + s.need = maxP (ntW w)
theorem none_size (S : Nat) : Pla.size (fun _ => none) S = 0 := sumN_zero S
theorem none_lot (S j : Nat) : lotN (fun _ => none) S j = 0 := (sumN_congr fun a _ => by simp [lotIs]).trans (sumN_zero S)
theorem gr_ok {w : Wk} (hb : WkB w) : ∀ i,i ≤ w.spathes.1 → GrOk w (stD w (fun _ => true) (fun j => (w.lots.2 j).units) i) i := by
 intro i
 induction i with
 | zero =>
  intro _
  refine ⟨none_plan (ntF_un fun j hj => (hb.u j hj).1),fun k hk => absurd hk (Nat.not_lt_zero _),fun k k' _ hk => absurd hk (Nat.not_lt_zero _),fun h _ => ⟨fun _ _ _ e => (by cases e),fun _ => rfl⟩,fun j _ => ?_,fun _ _ => rfl,rfl,none_size _,?_⟩
  ·show (w.lots.2 j).units = (w.lots.2 j).units - lotN (fun _ => none) w.spathes.1 j
   rw [none_lot]; omega
  ·show ((0 : Nat) : Int) + maxP (ntW w) = _; omega
 | succ i ih =>
  intro hi
  have hg := ih (by omega)
  have hok := st_ok hb (fr := fun _ => true) hb.u i
  show GrOk w (stepD w i (stD w (fun _ => true) (fun j => (w.lots.2 j).units) i)) (i + 1)
  generalize stD w (fun _ => true) (fun j => (w.lots.2 j).units) i = s at hg hok
  rcases step_cases w i s with ⟨h,j,h1,h2,h3,_,_,h6⟩ | ⟨h5,h6⟩
  ·rw [h6]
   obtain ⟨c1,c2,c3,c4,c5⟩ := h3
   have htop := hg.top i (Nat.le_refl _)
   have ep : plaK (putD s i h j).pl (putD s i h j).cnt = addP (plaK s.pl s.cnt) i h j := by
    show plaK (fun a => if a = s.cnt then (⟨i,h,j⟩ : Du) else s.pl a) (s.cnt + 1) = _
    simp only [plaK,if_pos]
    rw [plaK_congr (q := s.pl) fun a ha => if_neg (by omega)]
    rfl
   have hin : i < w.spathes.1 := by omega
   have hfree := (hg.fr h h1).1 c1
   have hunj := hg.un j h2
   have hb0 := (hok.un j h2).1
   refine ⟨?_,fun k hk => ?_,fun k k' hk hk' => ?_,fun x hx => ?_,fun b hb' => ?_,fun a ha => ?_,?_,?_,?_⟩
   ·rw [ep]
    refine ⟨fun a x y e => ?_,fun a a' x y y' e e' => ?_,fun b hb => ?_⟩
    ·unfold addP at e
     by_cases ea : a = i
     ·rw [if_pos ea] at e
      injection e with e; injection e with e1 e2
      subst ea; subst e1; subst e2
      exact ⟨Nat.zero_le _,hin,h1,h2,c3,c4,rfl⟩
     ·rw [if_neg ea] at e; exact hg.pl.at' a x y e
    ·unfold addP at e e'
     by_cases ea : a = i <;> by_cases eb : a' = i
     ·rw [ea,eb]
     ·rw [if_pos ea] at e; rw [if_neg eb] at e'
      injection e with e; injection e with e1 e2
      subst e1; exact absurd e' (hfree _ _)
     ·rw [if_neg ea] at e; rw [if_pos eb] at e'
      injection e' with e'; injection e' with e1 e2
      subst e1; exact absurd e (hfree _ _)
     ·rw [if_neg ea] at e; rw [if_neg eb] at e'
      exact hg.pl.inj a a' x y y' e e'
    ·have hb : b < w.lots.1 := hb
     have := hg.pl.lots b hb
     have h9 : lotN (plaK s.pl s.cnt) w.spathes.1 b ≤ (ntW w).un b := this
     show lotN (addP _ i h j) w.spathes.1 b ≤ _
     rw [lotN_add hin htop]
     rw [ntF_un_at hb] at h9 ⊢
     by_cases e : b = j
     ·subst e; rw [if_pos rfl]; omega
     ·rw [if_neg e]; omega
   ·by_cases e : k = s.cnt
    ·exact ⟨i,h,j,if_pos e,by omega,hin,h1,h2⟩
    ·have hk : k < s.cnt + 1 := hk
     obtain ⟨a,x,y,r1,r2,r3⟩ := hg.rg k (by omega)
     exact ⟨a,x,y,(if_neg e).trans r1,by omega,r3⟩
   ·have hk' : k' < s.cnt + 1 := hk'
    by_cases e : k' = s.cnt
    ·obtain ⟨a,x,y,r1,r2,r3⟩ := hg.rg k (by omega)
     show (if k = s.cnt then (⟨i,h,j⟩ : Du) else s.pl k).spathe < (if k' = s.cnt then (⟨i,h,j⟩ : Du) else s.pl k').spathe
     rw [if_neg (by omega),if_pos e,r1]
     show (a : Int) < (i : Int); omega
    ·show (if k = s.cnt then (⟨i,h,j⟩ : Du) else s.pl k).spathe < (if k' = s.cnt then (⟨i,h,j⟩ : Du) else s.pl k').spathe
     rw [if_neg (by omega),if_neg e]; exact hg.up k k' hk (by omega)
   ·rw [ep]
    show (if x = h then false else s.fr x) = true ↔ _
    by_cases e : x = h
    ·subst e
     rw [if_pos rfl]
     exact ⟨fun q => (by cases q),fun q => absurd (show addP (plaK s.pl s.cnt) i x j i = some (x,j) from if_pos rfl) (q i j)⟩
    ·rw [if_neg e,hg.fr x hx]
     constructor
     ·intro q a y ea
      unfold addP at ea
      by_cases e2 : a = i
      ·rw [if_pos e2] at ea; injection ea with ea; injection ea with ea; exact e ea.symm
      ·rw [if_neg e2] at ea; exact q a y ea
     ·intro q a y ea
      refine q a y ?_
      unfold addP
      rw [if_neg fun e2 => by rw [e2,htop] at ea; cases ea]
      exact ea
   ·rw [ep,lotN_add hin htop]
    have := hg.un b hb'
    show (if b = j then s.un b - 1 else s.un b) = _
    by_cases e : b = j
    ·rw [if_pos e,if_pos e]; omega
    ·rw [if_neg e,if_neg e]; omega
   ·rw [ep]; unfold addP; rw [if_neg (by omega)]; exact hg.top a (by omega)
   ·show s.need - 1 = maxP (ntF w (i + 1) (takD s.fr h) (useD s.un j))
    omega
   ·rw [ep,size_add hin htop,hg.sz]; show _ = ((s.cnt + 1 : Nat) : Int); omega
   ·have := hg.tot
    show ((s.cnt + 1 : Nat) : Int) + (s.need - 1) = _; omega
  ·rw [h6]
   refine ⟨hg.pl,fun k hk => ?_,hg.up,hg.fr,hg.un,fun a ha => hg.top a (by omega),?_,hg.sz,hg.tot⟩
   ·obtain ⟨a,x,y,r1,r2,r3⟩ := hg.rg k hk
    exact ⟨a,x,y,r1,by omega,r3⟩
   ·rw [most_skip (by omega) hok.un rfl rfl hg.need h5]; exact hg.need
theorem gr_end {w : Wk} (hb : WkB w) : GrOk w (stD w (fun _ => true) (fun j => (w.lots.2 j).units) w.spathes.1) w.spathes.1 ∧ ((stD w (fun _ => true) (fun j => (w.lots.2 j).units) w.spathes.1).cnt : Int) = maxP (ntW w) := by
 have h := gr_ok hb w.spathes.1 (Nat.le_refl _)
 have hok := st_ok hb (fr := fun _ => true) hb.u w.spathes.1
 refine ⟨h,?_⟩
 have h1 := h.tot
 have h2 := h.need
 have h3 := most_ex (ntF_un (w := w) (a := w.spathes.1) (fr := (stD w (fun _ => true) (fun j => (w.lots.2 j).units) w.spathes.1).fr) (un := (stD w (fun _ => true) (fun j => (w.lots.2 j).units) w.spathes.1).un) fun j hj => (hok.un j hj).1)
 obtain ⟨g,hg,hs⟩ := h3.ex
 have : Pla.size g w.spathes.1 = 0 := by
  refine (sumN_congr fun a ha => ?_).trans (sumN_zero w.spathes.1)
  cases e : g a with
  | none => rfl
  | some p => exact absurd (hg.at' a p.1 p.2 e).1 (by show ¬ w.spathes.1 ≤ a; omega)
 have hs : Pla.size g w.spathes.1 = _ := hs
 omega
end Go.Proofs.Ytlapepdhkomijaa
