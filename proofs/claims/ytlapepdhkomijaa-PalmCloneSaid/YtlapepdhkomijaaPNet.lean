/- Nets of spathes, hours and lots; plans; the number that a flow without a way on has. No condition. -/
import Derived.Test.YtlapepdhkomijaaPFlw
import Derived.Test.YtlapepdhkomijaaLDoor
import Derived.Test.YtlapepdhkomijaaACode1
set_option linter.unusedSimpArgs false
set_option linter.unusedVariables false
namespace Go.Proofs.Ytlapepdhkomijaa
inductive Nd where
 | src | snk
 | sp (i : Nat)
 | hi (h : Nat)
 | ho (h : Nat)
 | lt (j : Nat)
 deriving DecidableEq
structure Nt where
 S : Nat
 H : Nat
 L : Nat
 first : Nat
 takes : Nat → Nat → Bool
 good : Nat → Nat → Bool
 fr : Nat → Bool
 gf : Nat → Bool
 un : Nat → Int
def Nt.ok (N : Nt) : Nd → Prop
 | .src | .snk => True
 | .sp i => i < N.S
 | .hi h | .ho h => h < N.H
 | .lt j => j < N.L
def Nt.cap (N : Nt) : Nd → Nd → Int
 | .src,.sp i => if N.first ≤ i ∧ i < N.S then 1 else 0
 | .sp i,.hi h => if N.first ≤ i ∧ i < N.S ∧ h < N.H ∧ N.takes i h = true then 1 else 0
 | .hi h,.ho h' => if h = h' ∧ h < N.H ∧ N.fr h = true then 1 else 0
 | .ho h,.lt j => if h < N.H ∧ j < N.L ∧ N.good h j = true ∧ N.gf h = true then 1 else 0
 | .lt j,.snk => if j < N.L then N.un j else 0
 | _,_ => 0
abbrev Nt.n (N : Nt) : Nat := 2 + N.S + 2 * N.H + N.L
structure Cod (N : Nt) (dec : Nat → Nd) (enc : Nd → Nat) : Prop where
 de : ∀ u,u < N.n → enc (dec u) = u
 ed : ∀ x,N.ok x → enc x < N.n ∧ dec (enc x) = x
 e0 : enc .src = 0
 e1 : enc .snk = 1
abbrev Pla := Nat → Option (Nat × Nat)
def Pla.size (g : Pla) (S : Nat) : Int := sumN (fun i => if (g i).isSome then 1 else 0) S
def lotIs (o : Option (Nat × Nat)) (j : Nat) : Bool := match o with
 | some p => p.2 == j
 | none => false
structure IsPlan (N : Nt) (g : Pla) : Prop where
 at' : ∀ i h j,g i = some (h,j) → N.first ≤ i ∧ i < N.S ∧ h < N.H ∧ j < N.L ∧ N.takes i h = true ∧ N.good h j = true ∧ N.fr h = true
 inj : ∀ i i' h j j',g i = some (h,j) → g i' = some (h,j') → i = i'
 lots : ∀ j,j < N.L → sumN (fun i => if lotIs (g i) j then 1 else 0) N.S ≤ N.un j
structure IsMost (N : Nt) (v : Int) : Prop where
 ex : ∃ g,IsPlan N g ∧ Pla.size g N.S = v
 le : ∀ g,IsPlan N g → Pla.size g N.S ≤ v
theorem IsMost.uniq {N : Nt} {v v' : Int} (h : IsMost N v) (h' : IsMost N v') : v = v' := by
 obtain ⟨g,hg,e⟩ := h.ex
 obtain ⟨g',hg',e'⟩ := h'.ex
 have := h.le g' hg'
 have := h'.le g hg
 omega
noncomputable def maxP (N : Nt) : Int := @dite _ (∃ v,IsMost N v) (Classical.propDecidable _) (fun h => Classical.choose h) fun _ => 0
theorem maxP_eq {N : Nt} {v : Int} (h : IsMost N v) : maxP N = v := by
 have hx : ∃ v,IsMost N v := ⟨v,h⟩
 have e : maxP N = Classical.choose hx := by unfold maxP; exact @dif_pos _ (Classical.propDecidable _) hx _ _ _
 rw [e]; exact (Classical.choose_spec hx).uniq h
theorem sumN_ind_le {P : Nat → Prop} [∀ i,Decidable (P i)] : ∀ {n : Nat},(∀ i i',i < n → i' < n → P i → P i' → i = i') → sumN (fun i => if P i then 1 else 0) n ≤ 1 := by
 intro n; induction n with
 | zero => intro _; simp [sumN]
 | succ n ih =>
  intro h
  simp only [sumN]
  by_cases hn : P n
  ·rw [if_pos hn]
   have : sumN (fun i => if P i then (1 : Int) else 0) n = sumN (fun _ => 0) n := sumN_congr fun i hi => by
    rw [if_neg fun hp => by have := h i n (by omega) (by omega) hp hn; omega]
   rw [this,sumN_zero]; omega
  ·rw [if_neg hn]
   have := ih fun i i' hi hi' => h i i' (by omega) (by omega)
   omega
theorem sumN_ind_none {P : Nat → Prop} [∀ i,Decidable (P i)] {n : Nat} (h : ∀ i,i < n → ¬ P i) : sumN (fun i => if P i then (1 : Int) else 0) n = 0 := by
 exact (sumN_congr fun i hi => by rw [if_neg (h i hi)]).trans (sumN_zero n)
theorem sumN_neg_pos {f : Nat → Int} {n k : Nat} (h0 : sumN f n = 0) (hk : k < n) (hf : f k < 0) : ∃ v,v < n ∧ 0 < f v := by
 apply Classical.byContradiction
 intro h
 have hle : ∀ v,v < n → f v ≤ 0 := fun v hv => by
  by_cases h2 : 0 < f v
  ·exact absurd ⟨v,hv,h2⟩ h
  ·omega
 have h1 : sumN f n ≤ sumN (fun v => if v = k then f k else 0) n := sumN_le fun v hv => by
  split
  ·rename_i e; subst e; exact Int.le_refl _
  ·exact hle v hv
 rw [sumN_one,if_pos hk] at h1
 omega
theorem sumN_skew {a : Nat → Nat → Int} {n : Nat} (h : ∀ i,i < n → ∀ j,j < n → a j i = - a i j) : sumN (fun i => sumN (a i) n) n = 0 := by
 have h1 := sumN_swap a n n
 have h2 : sumN (fun j => sumN (fun i => a i j) n) n = - sumN (fun i => sumN (a i) n) n := by
  have : sumN (fun j => sumN (fun i => a i j) n) n = sumN (fun j => 0 - sumN (a j) n) n := sumN_congr fun j hj => by
   have : sumN (fun i => a i j) n = sumN (fun i => 0 - a j i) n := sumN_congr fun i hi => by have := h j hj i hi; omega
   rw [this,sumN_sub,sumN_zero]
  rw [this,sumN_sub,sumN_zero]; omega
 omega
structure FlowOk (N : Nt) (dec : Nat → Nd) (r : Nat → Nat → Int) (val : Int) : Prop where
 nn : ∀ i,i < N.n → ∀ j,j < N.n → 0 ≤ r i j
 sk : ∀ i,i < N.n → ∀ j,j < N.n → r i j + r j i = N.cap (dec i) (dec j) + N.cap (dec j) (dec i)
 row : ∀ i,i < N.n → i ≠ 0 → i ≠ 1 → sumN (r i) N.n = sumN (fun j => N.cap (dec i) (dec j)) N.n
 src : sumN (r 0) N.n = sumN (fun j => N.cap (dec 0) (dec j)) N.n - val
theorem FlowOk.start {N : Nt} {dec : Nat → Nd} {r : Nat → Nat → Int} (h : ∀ i,i < N.n → ∀ j,j < N.n → r i j = N.cap (dec i) (dec j)) (h0 : ∀ x y,0 ≤ N.cap x y) : FlowOk N dec r 0 where
 nn i hi j hj := by rw [h i hi j hj]; exact h0 _ _
 sk i hi j hj := by rw [h i hi j hj,h j hj i hi]
 row i hi _ _ := sumN_congr fun j hj => h i hi j hj
 src := by rw [Int.sub_zero]; exact sumN_congr fun j hj => h 0 (by simp only [Nt.n]; omega) j hj
theorem FlowOk.push {N : Nt} {dec : Nat → Nd} {r r' : Nat → Nat → Int} {val : Int} (h : FlowOk N dec r val) (hp : Pushed N.n 0 r r') : FlowOk N dec r' (val + 1) where
 nn := hp.nn
 sk i hi j hj := (hp.sk i hi j hj).trans (h.sk i hi j hj)
 row i hi h0 h1 := by rw [hp.row i hi,if_neg h0,if_neg h1,h.row i hi h0 h1]; omega
 src := by rw [hp.row 0 (by simp only [Nt.n]; omega),if_pos rfl,if_neg (by decide),h.src]; omega
section
variable {N : Nt} {dec : Nat → Nd} {enc : Nd → Nat} {r : Nat → Nat → Int} {val : Int}
def flo (N : Nt) (dec : Nat → Nd) (r : Nat → Nat → Int) (u v : Nat) : Int := N.cap (dec u) (dec v) - r u v
theorem FlowOk.fsk (h : FlowOk N dec r val) {i j : Nat} (hi : i < N.n) (hj : j < N.n) : flo N dec r j i = - flo N dec r i j := by
 have := h.sk i hi j hj; simp only [flo]; omega
theorem FlowOk.fle (h : FlowOk N dec r val) {i j : Nat} (hi : i < N.n) (hj : j < N.n) : flo N dec r i j ≤ N.cap (dec i) (dec j) := by
 have := h.nn i hi j hj; simp only [flo]; omega
theorem FlowOk.frow (h : FlowOk N dec r val) {i : Nat} (hi : i < N.n) (h0 : i ≠ 0) (h1 : i ≠ 1) : sumN (flo N dec r i) N.n = 0 := by
 show sumN (fun j => N.cap (dec i) (dec j) - r i j) N.n = 0
 rw [sumN_sub,h.row i hi h0 h1]; omega
theorem FlowOk.fsrc (h : FlowOk N dec r val) : sumN (flo N dec r 0) N.n = val := by
 show sumN (fun j => N.cap (dec 0) (dec j) - r 0 j) N.n = val
 rw [sumN_sub,h.src]; omega
theorem FlowOk.cut (h : FlowOk N dec r val) {s : Nat → Bool} (h0 : s 0 = true) (h1 : s 1 = false) (hc : ∀ u,u < N.n → s u = true → ∀ v,v < N.n → 0 < r u v → s v = true) :
  val = sumN (fun u => sumN (fun v => if s u = true ∧ s v = false then N.cap (dec u) (dec v) else 0) N.n) N.n := by
 have hn : 1 < N.n := by simp only [Nt.n]; omega
 have e1 : sumN (fun u => sumN (fun v => if s u = true then flo N dec r u v else 0) N.n) N.n = val := by
  have : sumN (fun u => sumN (fun v => if s u = true then flo N dec r u v else 0) N.n) N.n = sumN (fun u => if u = 0 then val else 0) N.n := by
   refine sumN_congr fun u hu => ?_
   by_cases hs : s u = true
   ·simp only [hs,if_true]
    by_cases e0 : u = 0
    ·subst e0; rw [if_pos rfl]; exact h.fsrc
    ·rw [if_neg e0]; exact h.frow hu e0 fun e => by subst e; rw [h1] at hs; cases hs
   ·simp only [hs]
    rw [if_neg (fun e : u = 0 => hs (by rw [e]; exact h0))]
    exact sumN_zero _
  rw [this,sumN_one,if_pos (by omega)]
 have e2 : sumN (fun u => sumN (fun v => if s u = true ∧ s v = true then flo N dec r u v else 0) N.n) N.n = 0 := by
  refine sumN_skew fun i hi j hj => ?_
  have := h.fsk hi hj
  by_cases ha : s i = true <;> by_cases hb : s j = true <;> simp [ha,hb]
  exact this
 have e3 : sumN (fun u => sumN (fun v => if s u = true then flo N dec r u v else 0) N.n) N.n =
   sumN (fun u => sumN (fun v => if s u = true ∧ s v = true then flo N dec r u v else 0) N.n) N.n + sumN (fun u => sumN (fun v => if s u = true ∧ s v = false then N.cap (dec u) (dec v) else 0) N.n) N.n := by
  rw [← sumN_add]
  refine sumN_congr fun u hu => ?_
  rw [← sumN_add]
  refine sumN_congr fun v hv => ?_
  by_cases ha : s u = true
  ·by_cases hb : s v = true
   ·simp [ha,hb]
   ·have hb' : s v = false := by simpa using hb
    simp only [ha,hb',if_true,and_self,Bool.false_eq_true,and_false,if_false]
    have h2 := h.nn u hu v hv
    have h3 : ¬ 0 < r u v := fun h4 => hb (hc u hu ha v hv h4)
    simp only [flo]; omega
  ·simp [ha]
 omega
theorem FlowOk.dust (hC : Cod N dec enc) (hg : ∀ h,N.fr h = true → N.gf h = true) (h : FlowOk N dec r val) {i : Nat} (hi : i < N.S) (hf : 0 < flo N dec r 0 (enc (.sp i))) :
  ∃ p : Nat × Nat,(N.first ≤ i ∧ p.1 < N.H ∧ p.2 < N.L ∧ N.takes i p.1 = true ∧ N.good p.1 p.2 = true ∧ N.fr p.1 = true) ∧ 0 < flo N dec r (enc (.sp i)) (enc (.hi p.1)) ∧ 0 < flo N dec r (enc (.hi p.1)) (enc (.ho p.1)) ∧ 0 < flo N dec r (enc (.ho p.1)) (enc (.lt p.2)) := by
 have hn : 1 < N.n := by simp only [Nt.n]; omega
 obtain ⟨u1,u2⟩ := hC.ed (.sp i) hi
 have d0 : dec 0 = .src := by have := (hC.ed .src trivial).2; rw [hC.e0] at this; exact this
 have d1 : dec 1 = .snk := by have := (hC.ed .snk trivial).2; rw [hC.e1] at this; exact this
 have hU0 : enc (.sp i) ≠ 0 := fun e => by rw [e,d0] at u2; cases u2
 have hU1 : enc (.sp i) ≠ 1 := fun e => by rw [e,d1] at u2; cases u2
 have hfi : N.first ≤ i := by
  have := h.fle (show 0 < N.n from by omega) u1
  rw [d0,u2] at this
  simp only [Nt.cap] at this
  split at this
  ·rename_i hh; exact hh.1
  ·omega
 obtain ⟨v,hv,hfv⟩ := sumN_neg_pos (h.frow u1 hU0 hU1) (show 0 < N.n from by omega) (by have := h.fsk (show 0 < N.n from by omega) u1; omega)
 have hcv := h.fle u1 hv
 rw [u2] at hcv
 cases hd : dec v <;> rw [hd] at hcv <;> simp only [Nt.cap] at hcv <;> first | (exact absurd hfv (by omega)) | skip
 rename_i hh
 have hcv' : N.first ≤ i ∧ i < N.S ∧ hh < N.H ∧ N.takes i hh = true := by
  apply Classical.byContradiction; intro hx; rw [if_neg hx] at hcv; omega
 have hev : enc (.hi hh) = v := by rw [← hd]; exact hC.de v hv
 have hV0 : v ≠ 0 := fun e => by rw [e,d0] at hd; cases hd
 have hV1 : v ≠ 1 := fun e => by rw [e,d1] at hd; cases hd
 obtain ⟨v2,hv2,hfv2⟩ := sumN_neg_pos (h.frow hv hV0 hV1) u1 (by have := h.fsk u1 hv; omega)
 have hcv2 := h.fle hv hv2
 rw [hd] at hcv2
 cases hd2 : dec v2 <;> rw [hd2] at hcv2 <;> simp only [Nt.cap] at hcv2 <;> first | (exact absurd hfv2 (by omega)) | skip
 rename_i hh2
 have hcv2' : hh = hh2 ∧ hh < N.H ∧ N.fr hh = true := by
  apply Classical.byContradiction; intro hx; rw [if_neg hx] at hcv2; omega
 obtain ⟨rfl,_,hfr⟩ := hcv2'
 have hev2 : enc (.ho hh) = v2 := by rw [← hd2]; exact hC.de v2 hv2
 have hW0 : v2 ≠ 0 := fun e => by rw [e,d0] at hd2; cases hd2
 have hW1 : v2 ≠ 1 := fun e => by rw [e,d1] at hd2; cases hd2
 obtain ⟨v3,hv3,hfv3⟩ := sumN_neg_pos (h.frow hv2 hW0 hW1) hv (by have := h.fsk hv hv2; omega)
 have hcv3 := h.fle hv2 hv3
 rw [hd2] at hcv3
 cases hd3 : dec v3 <;> rw [hd3] at hcv3 <;> simp only [Nt.cap] at hcv3 <;> first | (exact absurd hfv3 (by omega)) | skip
 rename_i j
 have hcv3' : hh < N.H ∧ j < N.L ∧ N.good hh j = true ∧ N.gf hh = true := by
  apply Classical.byContradiction; intro hx; rw [if_neg hx] at hcv3; omega
 have hev3 : enc (.lt j) = v3 := by rw [← hd3]; exact hC.de v3 hv3
 exact ⟨(hh,j),⟨hfi,hcv'.2.2.1,hcv3'.2.1,hcv'.2.2.2,hcv3'.2.2.1,hfr⟩,by rw [hev]; exact hfv,by rw [hev,hev2]; exact hfv2,by rw [hev2,hev3]; exact hfv3⟩
theorem FlowOk.sps (hC : Cod N dec enc) (h : FlowOk N dec r val) : sumN (fun i => flo N dec r 0 (enc (.sp i))) N.S = val := by
 have hn : 1 < N.n := by simp only [Nt.n]; omega
 have d0 : dec 0 = .src := by have := (hC.ed .src trivial).2; rw [hC.e0] at this; exact this
 rw [← h.fsrc]
 have : sumN (flo N dec r 0) N.n = sumN (fun v => sumN (fun i => if v = enc (.sp i) then flo N dec r 0 v else 0) N.S) N.n := by
  refine sumN_congr fun v hv => ?_
  cases hd : dec v with
  | sp i =>
   by_cases hi : i < N.S
   ·have hev : enc (.sp i) = v := by rw [← hd]; exact hC.de v hv
    have : sumN (fun i' => if v = enc (.sp i') then flo N dec r 0 v else 0) N.S = sumN (fun i' => if i' = i then flo N dec r 0 v else 0) N.S := sumN_congr fun i' hi' => by
     by_cases e : i' = i
     ·subst e; rw [if_pos hev.symm,if_pos rfl]
     ·rw [if_neg e,if_neg fun e2 => e (by have := (hC.ed (.sp i') hi').2; rw [← e2,hd] at this; injection this with this; exact this.symm)]
    rw [this,sumN_one,if_pos hi]
   ·have h1 := h.fle (show 0 < N.n from by omega) hv
    have h2 := h.fle hv (show 0 < N.n from by omega)
    rw [h.fsk (show 0 < N.n from by omega) hv] at h2
    rw [d0,hd] at h1 h2
    simp only [Nt.cap] at h1 h2
    rw [if_neg fun e => hi e.2] at h1
    have h0 : flo N dec r 0 v = 0 := by omega
    rw [h0]
    exact ((sumN_congr fun i' hi' => by split <;> rfl).trans (sumN_zero _)).symm
  | _ =>
   have h1 := h.fle (show 0 < N.n from by omega) hv
   have h2 := h.fle hv (show 0 < N.n from by omega)
   rw [h.fsk (show 0 < N.n from by omega) hv] at h2
   rw [d0,hd] at h1 h2
   simp only [Nt.cap] at h1 h2
   have h0 : flo N dec r 0 v = 0 := by omega
   rw [h0]
   exact ((sumN_congr fun i' hi' => by split <;> rfl).trans (sumN_zero _)).symm
 rw [this,sumN_swap (fun v i => if v = enc (.sp i) then flo N dec r 0 v else 0) N.n N.S]
 refine sumN_congr fun i hi => ?_
 have : sumN (fun v => if v = enc (.sp i) then flo N dec r 0 v else 0) N.n = sumN (fun v => if v = enc (.sp i) then flo N dec r 0 (enc (.sp i)) else 0) N.n := sumN_congr fun v _ => by
  split
  ·rename_i e; rw [e]
  ·rfl
 rw [this,sumN_one,if_pos (hC.ed (.sp i) hi).1]
theorem FlowOk.plan (hC : Cod N dec enc) (hg : ∀ h,N.fr h = true → N.gf h = true) (hun : ∀ j,0 ≤ N.un j) (h : FlowOk N dec r val) : ∃ g,IsPlan N g ∧ Pla.size g N.S = val := by
 classical
 have hn : 1 < N.n := by simp only [Nt.n]; omega
 have d0 : dec 0 = .src := by have := (hC.ed .src trivial).2; rw [hC.e0] at this; exact this
 have d1 : dec 1 = .snk := by have := (hC.ed .snk trivial).2; rw [hC.e1] at this; exact this
 let on : Nat → Prop := fun i => i < N.S ∧ 0 < flo N dec r 0 (enc (.sp i))
 let g : Pla := fun i => if hi : on i then some (Classical.choose (h.dust hC hg hi.1 hi.2)) else none
 have hgs : ∀ i p,g i = some p → on i ∧ (N.first ≤ i ∧ p.1 < N.H ∧ p.2 < N.L ∧ N.takes i p.1 = true ∧ N.good p.1 p.2 = true ∧ N.fr p.1 = true) ∧ 0 < flo N dec r (enc (.sp i)) (enc (.hi p.1)) ∧ 0 < flo N dec r (enc (.hi p.1)) (enc (.ho p.1)) ∧ 0 < flo N dec r (enc (.ho p.1)) (enc (.lt p.2)) := by
  intro i p hp
  by_cases hi : on i
  ·simp only [g,dif_pos hi,Option.some.injEq] at hp
   subst hp
   exact ⟨hi,Classical.choose_spec (h.dust hC hg hi.1 hi.2)⟩
  ·simp only [g,dif_neg hi] at hp; cases hp
 have hinj : ∀ i i' hh j j',g i = some (hh,j) → g i' = some (hh,j') → i = i' := by
  intro i i' hh j j' h1 h2
  obtain ⟨⟨a1,_⟩,⟨_,a2,_⟩,a3,a4,_⟩ := hgs i _ h1
  obtain ⟨⟨b1,_⟩,_,b3,_⟩ := hgs i' _ h2
  simp only at a2 a3 a4 b3
  apply Classical.byContradiction
  intro hne
  obtain ⟨s1,s2⟩ := hC.ed (.sp i) a1
  obtain ⟨t1,t2⟩ := hC.ed (.sp i') b1
  obtain ⟨v1,v2⟩ := hC.ed (.hi hh) a2
  obtain ⟨o1,o2⟩ := hC.ed (.ho hh) a2
  have hV0 : enc (.hi hh) ≠ 0 := fun e => by rw [e,d0] at v2; cases v2
  have hV1 : enc (.hi hh) ≠ 1 := fun e => by rw [e,d1] at v2; cases v2
  have hrow := h.frow v1 hV0 hV1
  have k1 := h.fsk s1 v1
  have k2 := h.fsk t1 v1
  have est : enc (.sp i) ≠ enc (.sp i') := fun e => hne (by rw [e,t2] at s2; injection s2 with s2; exact s2.symm)
  have hle : sumN (flo N dec r (enc (.hi hh))) N.n ≤ sumN (fun v => (if v = enc (.ho hh) then 1 else 0) + ((if v = enc (.sp i) then (-1) else 0) + (if v = enc (.sp i') then (-1) else 0))) N.n := by
   refine sumN_le fun v hv => ?_
   have hc := h.fle v1 hv
   rw [v2] at hc
   by_cases e1 : v = enc (.ho hh)
   ·have n1 : v ≠ enc (.sp i) := fun e => by rw [e1] at e; rw [e,s2] at o2; cases o2
    have n2 : v ≠ enc (.sp i') := fun e => by rw [e1] at e; rw [e,t2] at o2; cases o2
    rw [if_pos e1,if_neg n1,if_neg n2]
    rw [e1,o2] at hc
    simp only [Nt.cap] at hc
    rw [← e1] at hc
    split at hc <;> omega
   ·rw [if_neg e1]
    by_cases e2 : v = enc (.sp i)
    ·have n2 : v ≠ enc (.sp i') := fun e => est (e2.symm.trans e)
     rw [if_pos e2,if_neg n2,e2]; omega
    ·rw [if_neg e2]
     by_cases e3 : v = enc (.sp i')
     ·rw [if_pos e3,e3]; omega
     ·rw [if_neg e3]
      cases hd : dec v <;> rw [hd] at hc <;> simp only [Nt.cap] at hc <;> first | omega | skip
      rename_i h'
      rw [if_neg fun hx => e1 (by rw [hx.1,← hd]; exact (hC.de v hv).symm)] at hc
      omega
  rw [hrow,sumN_add,sumN_add,sumN_one,sumN_one,sumN_one,if_pos o1,if_pos s1,if_pos t1] at hle
  omega
 refine ⟨g,⟨fun i hh j hp => ?_,hinj,fun j hj => ?_⟩,?_⟩
 ·obtain ⟨⟨a1,_⟩,⟨a2,a3,a4,a5,a6,a7⟩,_⟩ := hgs i _ hp
  exact ⟨a2,a1,a3,a4,a5,a6,a7⟩
 ·obtain ⟨w1,w2⟩ := hC.ed (.lt j) hj
  have hW0 : enc (.lt j) ≠ 0 := fun e => by rw [e,d0] at w2; cases w2
  have hW1 : enc (.lt j) ≠ 1 := fun e => by rw [e,d1] at w2; cases w2
  have hrow := h.frow w1 hW0 hW1
  let hit : Nat → Nat → Prop := fun v i => ∃ hh,g i = some (hh,j) ∧ v = enc (.ho hh)
  have hle : sumN (flo N dec r (enc (.lt j))) N.n ≤ sumN (fun v => (if v = 1 then N.un j else 0) - sumN (fun i => if hit v i then 1 else 0) N.S) N.n := by
   refine sumN_le fun v hv => ?_
   have hc := h.fle w1 hv
   rw [w2] at hc
   by_cases e1 : v = 1
   ·subst e1
    rw [if_pos rfl,sumN_ind_none fun i hi => ?_]
    ·rw [d1] at hc; simp only [Nt.cap] at hc; rw [if_pos hj] at hc; omega
    ·rintro ⟨hh,hp,e⟩
     obtain ⟨_,⟨_,a3,_⟩,_⟩ := hgs i _ hp
     have := (hC.ed (.ho hh) a3).2
     rw [← e,d1] at this; cases this
   ·rw [if_neg e1]
    have hone : sumN (fun i => if hit v i then (1 : Int) else 0) N.S ≤ 1 := sumN_ind_le fun i i' hi hi' => by
     rintro ⟨hh,hp,e⟩ ⟨hh',hp',e'⟩
     obtain ⟨_,⟨_,a3,_⟩,_⟩ := hgs i _ hp
     obtain ⟨_,⟨_,a3',_⟩,_⟩ := hgs i' _ hp'
     have q1 := (hC.ed (.ho hh) a3).2
     have q2 := (hC.ed (.ho hh') a3').2
     rw [← e] at q1
     rw [← e'] at q2
     rw [q1] at q2
     injection q2 with q2
     subst q2
     exact hinj i i' hh j j hp hp'
    by_cases hx : ∃ i,i < N.S ∧ hit v i
    ·obtain ⟨i,hi,hh,hp,e⟩ := hx
     obtain ⟨_,_,_,_,a⟩ := hgs i _ hp
     have := h.fsk (hC.ed (.ho hh) (hgs i _ hp).2.1.2.1).1 w1
     simp only at a
     rw [e] at hone ⊢
     omega
    ·rw [sumN_ind_none fun i hi hh => hx ⟨i,hi,hh⟩]
     cases hd : dec v <;> rw [hd] at hc <;> simp only [Nt.cap] at hc <;> first | omega | skip
     exact absurd (by have := hC.de v hv; rw [hd,hC.e1] at this; exact this.symm) e1
  rw [hrow,sumN_sub,sumN_one,if_pos hn,sumN_swap (fun v i => if hit v i then (1 : Int) else 0) N.n N.S] at hle
  have : sumN (fun i => if lotIs (g i) j = true then (1 : Int) else 0) N.S = sumN (fun i => sumN (fun v => if hit v i then 1 else 0) N.n) N.S := by
   refine sumN_congr fun i hi => ?_
   cases hp : g i with
   | none =>
    rw [if_neg (by simp [lotIs])]
    exact (sumN_ind_none fun v hv => by rintro ⟨hh,hq,_⟩; rw [hp] at hq; cases hq).symm
   | some p =>
    obtain ⟨hh,j'⟩ := p
    by_cases ej : j' = j
    ·subst ej
     have a3 := (hgs i _ hp).2.1.2.1
     rw [if_pos (by simp [lotIs])]
     have : sumN (fun v => if hit v i then (1 : Int) else 0) N.n = sumN (fun v => if v = enc (.ho hh) then 1 else 0) N.n := sumN_congr fun v hv => by
      have : hit v i ↔ v = enc (.ho hh) := ⟨fun ⟨h2,hq,e⟩ => by rw [hp] at hq; cases hq; exact e,fun e => ⟨hh,hp,e⟩⟩
      by_cases e : v = enc (.ho hh)
      ·rw [if_pos e,if_pos (this.2 e)]
      ·rw [if_neg e,if_neg fun hx => e (this.1 hx)]
     rw [this,sumN_one,if_pos (hC.ed (.ho hh) a3).1]
    ·rw [if_neg (by simp [lotIs,ej])]
     exact (sumN_ind_none fun v hv => by rintro ⟨h2,hq,_⟩; rw [hp] at hq; cases hq; exact ej rfl).symm
  rw [this]
  omega
 ·rw [← h.sps hC]
  refine sumN_congr fun i hi => ?_
  obtain ⟨s1,s2⟩ := hC.ed (.sp i) hi
  have h1 := h.fle (show 0 < N.n from by omega) s1
  have h2 := h.fle s1 (show 0 < N.n from by omega)
  rw [h.fsk (show 0 < N.n from by omega) s1] at h2
  rw [d0,s2] at h1 h2
  simp only [Nt.cap] at h1 h2
  by_cases ho : 0 < flo N dec r 0 (enc (.sp i))
  ·have : on i := ⟨hi,ho⟩
   simp only [g,dif_pos this,Option.isSome_some,if_true]
   split at h1 <;> omega
  ·have : ¬ on i := fun hx => ho hx.2
   simp only [g,dif_neg this,Option.isSome_none]
   simp; omega
end
end Go.Proofs.Ytlapepdhkomijaa
namespace Go.Proofs.Ytlapepdhkomijaa
section
variable {N : Nt} {dec : Nat → Nd} {enc : Nd → Nat} {r : Nat → Nat → Int} {val : Int}
def chg (enc : Nd → Nat) (s : Nat → Bool) (i h j : Nat) : Nat × Nat :=
 if s (enc (.sp i)) = false then (0,enc (.sp i)) else if s (enc (.hi h)) = false then (enc (.sp i),enc (.hi h)) else if s (enc (.ho h)) = false then (enc (.hi h),enc (.ho h)) else if s (enc (.lt j)) = false then (enc (.ho h),enc (.lt j)) else (enc (.lt j),1)
def cutN (N : Nt) (dec : Nat → Nd) (s : Nat → Bool) : Int := sumN (fun u => sumN (fun v => if s u = true ∧ s v = false then N.cap (dec u) (dec v) else 0) N.n) N.n
def chIs (enc : Nd → Nat) (s : Nat → Bool) (o : Option (Nat × Nat)) (i u v : Nat) : Prop := match o with
 | some p => chg enc s i p.1 p.2 = (u,v)
 | none => False
instance {enc : Nd → Nat} {s : Nat → Bool} {o : Option (Nat × Nat)} {i u v : Nat} : Decidable (chIs enc s o i u v) := by unfold chIs; split <;> infer_instance
theorem plan_cut (hC : Cod N dec enc) (hg : ∀ h,N.fr h = true → N.gf h = true) (hun : ∀ j,0 ≤ N.un j) {s : Nat → Bool} (h0 : s 0 = true) (h1 : s 1 = false) {g : Pla} (hp : IsPlan N g) : Pla.size g N.S ≤ cutN N dec s := by
 have hn : 1 < N.n := by simp only [Nt.n]; omega
 have d0 : dec 0 = .src := by have := (hC.ed .src trivial).2; rw [hC.e0] at this; exact this
 have d1 : dec 1 = .snk := by have := (hC.ed .snk trivial).2; rw [hC.e1] at this; exact this
 have inj : ∀ {x y},N.ok x → N.ok y → enc x = enc y → x = y := fun hx hy e => by rw [← (hC.ed _ hx).2,e,(hC.ed _ hy).2]
 have hne0 : ∀ {x},N.ok x → x ≠ .src → enc x ≠ 0 := fun hx hne e => hne (by rw [← (hC.ed _ hx).2,e,d0])
 have hne1 : ∀ {x},N.ok x → x ≠ .snk → enc x ≠ 1 := fun hx hne e => hne (by rw [← (hC.ed _ hx).2,e,d1])
 -- each dust's edge
 have hedge : ∀ i hh j,g i = some (hh,j) → (chg enc s i hh j).1 < N.n ∧ (chg enc s i hh j).2 < N.n ∧ s (chg enc s i hh j).1 = true ∧ s (chg enc s i hh j).2 = false := by
  intro i hh j hq
  obtain ⟨_,a1,a2,a3,_⟩ := hp.at' i hh j hq
  have b1 := (hC.ed (.sp i) a1).1
  have b2 := (hC.ed (.hi hh) a2).1
  have b3 := (hC.ed (.ho hh) a2).1
  have b4 := (hC.ed (.lt j) a3).1
  unfold chg
  split
  ·rename_i e1; exact ⟨by omega,b1,h0,e1⟩
  ·rename_i e1
   split
   ·rename_i e2; exact ⟨b1,b2,by simpa using e1,e2⟩
   ·rename_i e2
    split
    ·rename_i e3; exact ⟨b2,b3,by simpa using e2,e3⟩
    ·rename_i e3
     split
     ·rename_i e4; exact ⟨b3,b4,by simpa using e3,e4⟩
     ·rename_i e4; exact ⟨b4,hn,by simpa using e4,h1⟩
 have e1 : Pla.size g N.S = sumN (fun i => sumN (fun u => sumN (fun v => if chIs enc s (g i) i u v then 1 else 0) N.n) N.n) N.S := by
  refine sumN_congr fun i hi => ?_
  cases hq : g i with
  | none =>
   simp only [Option.isSome_none,chIs]
   exact ((sumN_congr fun u _ => (sumN_congr fun v _ => by simp).trans (sumN_zero _)).trans (sumN_zero _)).symm
  | some p =>
   obtain ⟨hh,j⟩ := p
   obtain ⟨q1,q2,_,_⟩ := hedge i hh j hq
   have : sumN (fun u => sumN (fun v => if chIs enc s (some (hh,j)) i u v then (1 : Int) else 0) N.n) N.n = sumN (fun u => if u = (chg enc s i hh j).1 then 1 else 0) N.n := by
    refine sumN_congr fun u hu => ?_
    by_cases eu : u = (chg enc s i hh j).1
    ·rw [if_pos eu]
     have : sumN (fun v => if chIs enc s (some (hh,j)) i u v then (1 : Int) else 0) N.n = sumN (fun v => if v = (chg enc s i hh j).2 then 1 else 0) N.n := sumN_congr fun v _ => by
      simp only [chIs,eu,Prod.ext_iff,true_and]
      by_cases e : v = (chg enc s i hh j).2
      ·rw [if_pos e,if_pos e.symm]
      ·rw [if_neg e,if_neg fun h => e h.symm]
     rw [this,sumN_one,if_pos q2]
    ·rw [if_neg eu]
     exact sumN_ind_none fun v _ hx => eu (by simp only [chIs,Prod.ext_iff] at hx; exact hx.1.symm)
   rw [this,sumN_one,if_pos q1]; rfl
 have e2 : sumN (fun i => sumN (fun u => sumN (fun v => if chIs enc s (g i) i u v then (1 : Int) else 0) N.n) N.n) N.S = sumN (fun u => sumN (fun v => sumN (fun i => if chIs enc s (g i) i u v then (1 : Int) else 0) N.S) N.n) N.n := by
  rw [← sumN_swap (fun u i => sumN (fun v => if chIs enc s (g i) i u v then (1 : Int) else 0) N.n) N.n N.S]
  exact sumN_congr fun u _ => (sumN_swap (fun v i => if chIs enc s (g i) i u v then (1 : Int) else 0) N.n N.S).symm
 rw [e1,e2]
 refine sumN_le fun u hu => sumN_le fun v hv => ?_
 -- how many dusts leave by one edge
 by_cases hx : ∃ i hh j,g i = some (hh,j) ∧ chg enc s i hh j = (u,v)
 ·obtain ⟨i,hh,j,hq,hc⟩ := hx
  obtain ⟨_,_,q3,q4⟩ := hedge i hh j hq
  rw [hc] at q3 q4
  rw [if_pos ⟨q3,q4⟩]
  obtain ⟨a0,a1,a2,a3,a4,a5,a6⟩ := hp.at' i hh j hq
  -- which edge it is,tells which spathe or hour
  have key : ∀ i' hh' j',g i' = some (hh',j') → chg enc s i' hh' j' = (u,v) → dec v ≠ .snk → i' = i := by
   intro i' hh' j' hq' hc' hns
   obtain ⟨_,b1,b2,b3,_⟩ := hp.at' i' hh' j' hq'
   have hcc : chg enc s i' hh' j' = chg enc s i hh j := hc'.trans hc.symm
   have hsamespoth : hh' = hh → i' = i := fun e => hp.inj i' i hh j' j (by rw [← e]; exact hq') hq
   have hend : ∀ {i hh j},chg enc s i hh j = (u,v) → ¬ (chg enc s i hh j = (enc (.lt j),1)) := by
    intro i hh j hc e
    rw [hc] at e
    injection e with _ e
    rw [e,d1] at hns; exact hns rfl
   have d1' := hend hc
   have d2' := hend hc'
   unfold chg at hcc d1' d2'
   repeat' split at hcc
   all_goals first
    | (exfalso; simp_all; done)
    | skip
   all_goals
    simp only [Prod.ext_iff] at hcc
    obtain ⟨c1,c2⟩ := hcc
    first
    | exact Nd.sp.inj (inj (x := .sp i') (y := .sp i) b1 a1 c2)
    | exact Nd.sp.inj (inj (x := .sp i') (y := .sp i) b1 a1 c1)
    | exact hsamespoth (Nd.hi.inj (inj (x := .hi hh') (y := .hi hh) b2 a2 c2))
    | exact hsamespoth (Nd.hi.inj (inj (x := .hi hh') (y := .hi hh) b2 a2 c1))
    | exact hsamespoth (Nd.ho.inj (inj (x := .ho hh') (y := .ho hh) b2 a2 c1))
    | exact hsamespoth (Nd.ho.inj (inj (x := .ho hh') (y := .ho hh) b2 a2 c2))
    | (exfalso; exact absurd c1 (Ne.symm (hne0 a1 (by simp))))
    | (exfalso; exact absurd c1 (Ne.symm (hne0 a2 (by simp))))
    | (exfalso; exact absurd c1 (hne0 b1 (by simp)))
    | (exfalso; exact absurd c1 (hne0 b2 (by simp)))
    | (exfalso; have := inj (x := .sp i') (y := .hi hh) b1 a2 c1; cases this; done)
    | (exfalso; have := inj (x := .sp i') (y := .ho hh) b1 a2 c1; cases this; done)
    | (exfalso; have := inj (x := .hi hh') (y := .sp i) b2 a1 c1; cases this; done)
    | (exfalso; have := inj (x := .hi hh') (y := .ho hh) b2 a2 c1; cases this; done)
    | (exfalso; have := inj (x := .ho hh') (y := .sp i) b2 a1 c1; cases this; done)
    | (exfalso; have := inj (x := .ho hh') (y := .hi hh) b2 a2 c1; cases this; done)
  by_cases hsn : dec v = .snk
  ·-- it is a lot's edge
   have hlast : ∀ i' hh' j',g i' = some (hh',j') → chg enc s i' hh' j' = (u,v) → u = enc (.lt j') := by
    intro i' hh' j' hq' hc'
    obtain ⟨_,b1,b2,b3,_⟩ := hp.at' i' hh' j' hq'
    unfold chg at hc'
    repeat' split at hc'
    all_goals
     simp only [Prod.ext_iff] at hc'
     obtain ⟨c1,c2⟩ := hc'
     first
     | exact c1.symm
     | (exfalso; rw [← c2,(hC.ed (.sp i') b1).2] at hsn; cases hsn; done)
     | (exfalso; rw [← c2,(hC.ed (.hi hh') b2).2] at hsn; cases hsn; done)
     | (exfalso; rw [← c2,(hC.ed (.ho hh') b2).2] at hsn; cases hsn; done)
     | (exfalso; rw [← c2,(hC.ed (.lt j') b3).2] at hsn; cases hsn; done)
   have eu := hlast i hh j hq hc
   have hcap : N.cap (dec u) (dec v) = N.un j := by rw [eu,(hC.ed (.lt j) a3).2,hsn]; simp only [Nt.cap]; rw [if_pos a3]
   rw [hcap]
   refine Int.le_trans (sumN_le fun i' _ => ?_) (hp.lots j a3)
   cases hq' : g i' with
   | none => simp [chIs,lotIs]
   | some p =>
    obtain ⟨hh',j'⟩ := p
    by_cases hc' : chIs enc s (some (hh',j')) i' u v
    ·have e3 := hlast i' hh' j' hq' hc'
     have := inj (x := .lt j') (y := .lt j) (hp.at' i' hh' j' hq').2.2.2.1 a3 (e3.symm.trans eu)
     injection this with this
     rw [if_pos hc',if_pos (by simp [lotIs,this])]; exact Int.le_refl _
    ·rw [if_neg hc']; split <;> omega
  ·have hone : sumN (fun i' => if chIs enc s (g i') i' u v then (1 : Int) else 0) N.S ≤ 1 := sumN_ind_le fun x y _ _ hx hy => by
    have kk : ∀ z,chIs enc s (g z) z u v → z = i := fun z hz => by
     cases hqz : g z with
     | none => rw [hqz] at hz; exact hz.elim
     | some p => rw [hqz] at hz; exact key z p.1 p.2 hqz hz hsn
    rw [kk x hx,kk y hy]
   have hcap : N.cap (dec u) (dec v) = 1 := by
    have hc2 := hc
    unfold chg at hc2
    repeat' split at hc2
    all_goals
     simp only [Prod.ext_iff] at hc2
     obtain ⟨c1,c2⟩ := hc2
     subst c1
     subst c2
    ·rw [d0,(hC.ed (.sp i) a1).2]; simp only [Nt.cap]; rw [if_pos ⟨a0,a1⟩]
    ·rw [(hC.ed (.sp i) a1).2,(hC.ed (.hi hh) a2).2]; simp only [Nt.cap]; rw [if_pos ⟨a0,a1,a2,a4⟩]
    ·rw [(hC.ed (.hi hh) a2).2,(hC.ed (.ho hh) a2).2]; simp only [Nt.cap]; rw [if_pos (by exact ⟨by first | rfl | trivial,a2,a6⟩)]
    ·rw [(hC.ed (.ho hh) a2).2,(hC.ed (.lt j) a3).2]; simp only [Nt.cap]; rw [if_pos ⟨a2,a3,a5,hg hh a6⟩]
    ·exact absurd d1 hsn
   rw [hcap]; exact hone
 ·have : sumN (fun i => if chIs enc s (g i) i u v then (1 : Int) else 0) N.S = 0 := sumN_ind_none fun i _ hi => hx (by
   cases hq : g i with
   | none => rw [hq] at hi; exact hi.elim
   | some p => rw [hq] at hi; exact ⟨i,p.1,p.2,hq,hi⟩)
  rw [this]
  split
  ·cases dec u <;> cases dec v <;> simp only [Nt.cap] <;> first | omega | (split <;> omega) | (split; exact hun _; omega)
  ·exact Int.le_refl _
theorem FlowOk.most (hC : Cod N dec enc) (hg : ∀ h,N.fr h = true → N.gf h = true) (hun : ∀ j,0 ≤ N.un j) (h : FlowOk N dec r val) {s : Nat → Bool} (h0 : s 0 = true) (h1 : s 1 = false) (hc : ∀ u,u < N.n → s u = true → ∀ v,v < N.n → 0 < r u v → s v = true) : IsMost N val :=
 ⟨h.plan hC hg hun,fun g hp => by
  have := plan_cut hC hg hun h0 h1 hp
  have e := h.cut h0 h1 hc
  unfold cutN at this
  omega⟩
end
end Go.Proofs.Ytlapepdhkomijaa
namespace Go.Proofs.Ytlapepdhkomijaa
open Go Go.RowKit
def takesF (w : Wk) (i h : Nat) : Bool := decide (w.hours.2 h ≥ (w.spathes.2 i).cracks.hi ∧ w.hours.2 h < (w.spathes.2 i).cracks.lo + w.opn)
def goodF (w : Wk) (h j : Nat) : Bool := decide (w.hours.2 h ≥ (w.lots.2 j).fro ∧ w.hours.2 h < (w.lots.2 j).til)
structure WkB (w : Wk) : Prop where
 s : w.spathes.1 ≤ 8
 h : w.hours.1 ≤ 16
 l : w.lots.1 ≤ 4
 o : 0 ≤ w.opn ∧ w.opn ≤ 500
 c : ∀ i,i < w.spathes.1 → 0 ≤ (w.spathes.2 i).cracks.lo ∧ (w.spathes.2 i).cracks.lo ≤ 1000000
 u : ∀ j,j < w.lots.1 → 0 ≤ (w.lots.2 j).units ∧ (w.lots.2 j).units ≤ 100
def ntF (w : Wk) (first : Nat) (fr : Nat → Bool) (un : Nat → Int) : Nt := ⟨w.spathes.1,w.hours.1,w.lots.1,first,takesF w,goodF w,fr,fun _ => true,fun j => if j < w.lots.1 then un j else 0⟩
theorem decP_and (p q : Prop) [Decidable p] [Decidable q] : decide (p ∧ q) = (decide p && decide q) := by by_cases p <;> by_cases q <;> simp [*]
def setR (R : Nat → Nat → Int) (u v : Nat) (x : Int) : Nat → Nat → Int := fun a b => if a = u ∧ b = v then x else R a b
theorem Pla.size_le (g : Pla) : ∀ S : Nat,Pla.size g S ≤ S := by
 intro S
 unfold Pla.size
 induction S with
 | zero => exact Int.le_refl _
 | succ S ih => simp only [sumN]; split <;> omega
def AllB (P : Bn → Box → Prop) : Bx → Prop
 | [] => True
 | (b,.one c) :: l => P (.n b) c ∧ AllB P l
 | (b,.fam d r) :: l => (∀ z,d z = true → P (.f b z) (r z)) ∧ AllB P l
theorem AllB.get {P : Bn → Box → Prop} : ∀ {bx : Bx},AllB P bx → ∀ b c,bget bx b = some c → P b c
 | [],_,b,c,hb => by cases hb
 | (b',.one c') :: l,h,.n m,c,hb => by
  obtain ⟨h1,h2⟩ := h
  simp only [bget] at hb
  split at hb
  ·rename_i e; cases hb; subst e; exact h1
  ·exact h2.get _ _ hb
 | (b',.one c') :: l,h,.f m z,c,hb => by
  obtain ⟨h1,h2⟩ := h
  exact h2.get _ _ (by simpa only [bget] using hb)
 | (b',.fam d r) :: l,h,.n m,c,hb => by
  obtain ⟨h1,h2⟩ := h
  exact h2.get _ _ (by simpa only [bget] using hb)
 | (b',.fam d r) :: l,h,.f m z,c,hb => by
  obtain ⟨h1,h2⟩ := h
  simp only [bget] at hb
  split at hb
  ·rename_i e; cases hb; obtain ⟨rfl,e⟩ := e; exact h1 z e
  ·exact h2.get _ _ hb
def MatIs (n : Nat) (dec : Nat → Nd) (R : Nat → Nat → Int) (c : Nd → Nd → Int) : Prop := ∀ a,a < n → ∀ b,b < n → R a b = c (dec a) (dec b)
theorem MatIs.set {N : Nt} {dec : Nat → Nd} {enc : Nd → Nat} (hC : Cod N dec enc) {R : Nat → Nat → Int} {c c' : Nd → Nd → Int} {v : Int} (h : MatIs N.n dec R c) {x y : Nd} (hx : N.ok x) (hy : N.ok y) (hc : ∀ p q,c' p q = if p = x ∧ q = y then v else c p q) : MatIs N.n dec (setR R (enc x) (enc y) v) c' := by
 intro a ha b hb
 unfold setR
 rw [hc]
 by_cases e : a = enc x ∧ b = enc y
 ·rw [if_pos e,if_pos ⟨by rw [e.1]; exact (hC.ed x hx).2,by rw [e.2]; exact (hC.ed y hy).2⟩]
 ·rw [if_neg e,if_neg fun ⟨h1,h2⟩ => e ⟨by rw [← h1]; exact (hC.de a ha).symm,by rw [← h2]; exact (hC.de b hb).symm⟩]
  exact h a ha b hb
theorem MatIs.same {n : Nat} {dec : Nat → Nd} {R : Nat → Nat → Int} {c c' : Nd → Nd → Int} (h : MatIs n dec R c) (hc : ∀ p q,c' p q = c p q) : MatIs n dec R c' := fun a ha b hb => by rw [hc]; exact h a ha b hb
theorem inv_renM {ι : Type} {Pi : ι → Prop} {μ : ι → Nat} {sl : ι → Fr} {bs : ι → Bx} {m : Nat} {ns : List Nat} {fr1 : Fr} {bx0 bx1 : Bx} {nx nx' : Nat} (la : List (Bn × Bn)) (j : ι) (hl : ∀ p ∈ la,∀ n ∈ ns,n ≤ p.1.id) (hj : Pi j) (hm : μ j < m) (hc : match rens la (fr1,bx1) with | some (fr2,bx2) => Chk fr2 bx2 (sl j) (bs j) nx nx' | none => False) :
  ∃ m',m' < m ∧ ∃ fr'' bx'',LoopT Pi μ sl bs m' fr'' bx'' ∧ ChkL ns bx0 fr1 bx1 fr'' bx'' nx nx' := by
 split at hc
 ·rename_i fr2 bx2 h; exact inv_ren la j h hl hj hm hc
 ·exact hc.elim
end Go.Proofs.Ytlapepdhkomijaa
namespace Go.Proofs.Ytlapepdhkomijaa
open Go Go.RowKit
variable {G : Nat → Option (Nat × (Nat → Val))}
noncomputable def knF (l : Pms) : Pms := (l.1,knP l)
def SpOk (k : Pms) (day : Int) (s : Sp) : Prop := bearsP k s.palm day 1 ∧ 0 ≤ s.cracks.lo ∧ s.cracks.lo ≤ s.cracks.hi ∧ s.cracks.hi ≤ 1000000
def LtOk (k : Pms) (day : Int) (x : Lt) : Prop := bearsP k x.palm day 2 ∧ (0 ≤ x.units ∧ x.units ≤ 100) ∧ 0 ≤ x.fro ∧ x.fro ≤ x.til ∧ x.til ≤ 1000000
def HrOk (h : Ints) (i : Nat) : Prop := 0 ≤ h.2 i ∧ h.2 i ≤ 1000000 ∧ (0 < i → h.2 (i - 1) < h.2 i)
structure WkOk (k : Pms) (w : Wk) : Prop where
 d : 0 ≤ w.day ∧ w.day ≤ 100000
 o : 1 ≤ w.opn ∧ w.opn ≤ 500
 s : w.spathes.1 ≤ 8
 h : w.hours.1 ≤ 16
 l : w.lots.1 ≤ 4
 sp : ∀ i,i < w.spathes.1 → SpOk k w.day (w.spathes.2 i)
 hr : ∀ i,i < w.hours.1 → HrOk w.hours i
 lt : ∀ i,i < w.lots.1 → LtOk k w.day (w.lots.2 i)
noncomputable def workE (l : Pms) (w : Wk) : Int := if pmE l = 0 then (if badI l < l.1 then 71 else if decP (WkOk (knF l) w) = true then 0 else 72) else 70
theorem WkOk.b {k : Pms} {w : Wk} (h : WkOk k w) : WkB w :=
 ⟨h.s,h.h,h.l,⟨by have := h.o; omega,h.o.2⟩,fun i hi => by obtain ⟨_,h1,h2,h3⟩ := h.sp i hi; omega,fun j hj => by obtain ⟨_,h1,_⟩ := h.lt j hj; exact h1⟩
def oneU : UI .u8 := ⟨1,by decide⟩
def twoU : UI .u8 := ⟨2,by decide⟩
end Go.Proofs.Ytlapepdhkomijaa
namespace Go.Proofs.Ytlapepdhkomijaa
open Go Go.RowKit
variable {G : Nat → Option (Nat × (Nat → Val))}
section
variable {S H u : Nat}
end
end Go.Proofs.Ytlapepdhkomijaa
