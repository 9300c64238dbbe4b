/- Nets: a plan is a flow. No condition. -/
import Derived.Test.YtlapepdhkomijaaPEdg2
import Derived.Test.YtlapepdhkomijaaPSt
import Derived.Test.YtlapepdhkomijaaPFlw
set_option linter.unusedSimpArgs false
set_option linter.unusedVariables false
namespace Go.Proofs.Ytlapepdhkomijaa
def hrIs (o : Option (Nat × Nat)) (h : Nat) : Bool := match o with
 | some p => p.1 == h
 | none => false
def wayI (g : Pla) (i : Nat) : Nd → Nd → Bool
 | .src,.sp k => k == i && (g i).isSome
 | .sp k,.hi h => k == i && hrIs (g i) h
 | .hi h,.ho k => k == h && hrIs (g i) h
 | .ho h,.lt j => hrIs (g i) h && lotIs (g i) j
 | .lt j,.snk => lotIs (g i) j
 | _,_ => false
def usedF (g : Pla) (S : Nat) (x y : Nd) : Int := sumN (fun i => if wayI g i x y = true then 1 else 0) S
def resG (N : Nt) (dec : Nat → Nd) (g : Pla) (u v : Nat) : Int := N.cap (dec u) (dec v) - usedF g N.S (dec u) (dec v) + usedF g N.S (dec v) (dec u)
theorem used_none {g : Pla} {S : Nat} {x y : Nd} (h : ∀ i,i < S → wayI g i x y = false) : usedF g S x y = 0 := sumN_ind_none fun i hi => by rw [h i hi]; decide
theorem used_nn (g : Pla) (S : Nat) (x y : Nd) : 0 ≤ usedF g S x y := sumN_nn fun i _ => by split <;> decide
theorem used_pos {g : Pla} {S : Nat} {x y : Nd} {i : Nat} (hi : i < S) (h : wayI g i x y = true) : 1 ≤ usedF g S x y := by
 have := sumN_get (f := fun i => if wayI g i x y = true then (1 : Int) else 0) (n := S) (fun i _ => by show (0 : Int) ≤ if _ then 1 else 0; split <;> decide) hi
 simp only [h,if_true] at this
 exact this
section
variable {N : Nt} {dec : Nat → Nd} {enc : Nd → Nat} {g : Pla}
theorem cap_nn (hun : ∀ j,0 ≤ N.un j) (x y : Nd) : 0 ≤ N.cap x y := by
 cases x <;> cases y <;> simp only [Nt.cap] <;> first | exact Int.le_refl _ | (split <;> first | exact hun _ | decide)
theorem way_at {i h : Nat} (e : hrIs (g i) h = true) : ∃ j,g i = some (h,j) := by
 cases hq : g i with
 | none => rw [hq] at e; cases e
 | some p => rw [hq] at e; obtain ⟨a,b⟩ := p; simp only [hrIs,beq_iff_eq] at e; subst e; exact ⟨b,rfl⟩
theorem lot_at {i j : Nat} (e : lotIs (g i) j = true) : ∃ h,g i = some (h,j) := by
 cases hq : g i with
 | none => rw [hq] at e; cases e
 | some p => rw [hq] at e; obtain ⟨a,b⟩ := p; simp only [lotIs,beq_iff_eq] at e; subst e; exact ⟨a,rfl⟩
theorem used_cap (hg : ∀ h,N.fr h = true → N.gf h = true) (hun : ∀ j,0 ≤ N.un j) (hp : IsPlan N g) (x y : Nd) : usedF g N.S x y ≤ N.cap x y := by
 have h0 := cap_nn hun x y
 have hz : (∀ i,i < N.S → wayI g i x y = false) → usedF g N.S x y ≤ N.cap x y := fun h => by rw [used_none h]; exact h0
 have hone : ∀ k,N.cap x y = 1 ∨ (∀ i,i < N.S → wayI g i x y = false) → (∀ i,wayI g i x y = true → i = k) → usedF g N.S x y ≤ N.cap x y := fun k h1 h2 => by
  rcases h1 with h1 | h1
  ·rw [h1]; exact sumN_ind_le fun i i' _ _ a b => (h2 i a).trans (h2 i' b).symm
  ·exact hz h1
 cases x with
 | src =>
  cases y with
  | sp k =>
   refine hone k ?_ fun i h => by simp only [wayI,Bool.and_eq_true,beq_iff_eq] at h; exact h.1.symm
   cases hq : g k with
   | none =>
    exact .inr fun i _ => by
     by_cases e : k = i
     ·subst e; simp [wayI,hq]
     ·simp [wayI,e]
   | some p => left; obtain ⟨a1,a2,_⟩ := hp.at' k p.1 p.2 hq; simp only [Nt.cap]; exact if_pos ⟨a1,a2⟩
  | _ => exact hz fun _ _ => rfl
 | sp k =>
  cases y with
  | hi h =>
   refine hone k ?_ fun i h => by simp only [wayI,Bool.and_eq_true,beq_iff_eq] at h; exact h.1.symm
   cases hq : hrIs (g k) h with
   | false =>
    exact .inr fun i _ => by
     by_cases e : k = i
     ·subst e; simp [wayI,hq]
     ·simp [wayI,e]
   | true =>
    left; obtain ⟨j,hj⟩ := way_at hq
    obtain ⟨a1,a2,a3,a4,a5,a6,a7⟩ := hp.at' k h j hj
    simp only [Nt.cap]; exact if_pos ⟨a1,a2,a3,a5⟩
  | _ => exact hz fun _ _ => rfl
 | hi h =>
  cases y with
  | ho k =>
   by_cases hx : ∃ i,wayI g i (.hi h) (.ho k) = true
   ·obtain ⟨i,hi⟩ := hx
    simp only [wayI,Bool.and_eq_true,beq_iff_eq] at hi
    obtain ⟨rfl,hi⟩ := hi
    obtain ⟨j,hj⟩ := way_at hi
    obtain ⟨a1,a2,a3,a4,a5,a6,a7⟩ := hp.at' i k j hj
    refine hone i (.inl ?_) fun i' h' => ?_
    ·simp only [Nt.cap]; exact if_pos (by exact ⟨by first | rfl | trivial,a3,a7⟩)
    ·simp only [wayI,Bool.and_eq_true] at h'
     obtain ⟨j',hj'⟩ := way_at h'.2
     exact hp.inj i' i k j' j hj' hj
   ·exact hz fun i _ => by cases e : wayI g i (.hi h) (.ho k) with | true => exact absurd ⟨i,e⟩ hx | false => rfl
  | _ => exact hz fun _ _ => rfl
 | ho h =>
  cases y with
  | lt j =>
   by_cases hx : ∃ i,wayI g i (.ho h) (.lt j) = true
   ·obtain ⟨i,hi⟩ := hx
    simp only [wayI,Bool.and_eq_true] at hi
    obtain ⟨j1,hj1⟩ := way_at hi.1
    obtain ⟨h2,hj2⟩ := lot_at hi.2
    rw [hj1] at hj2
    obtain ⟨rfl,rfl⟩ : h = h2 ∧ j1 = j := by injection hj2 with e; injection e with e1 e2; exact ⟨e1,e2⟩
    obtain ⟨a1,a2,a3,a4,a5,a6,a7⟩ := hp.at' i h j1 hj1
    refine hone i (.inl ?_) fun i' h' => ?_
    ·simp only [Nt.cap]; exact if_pos ⟨a3,a4,a6,hg h a7⟩
    ·simp only [wayI,Bool.and_eq_true] at h'
     obtain ⟨j',hj'⟩ := way_at h'.1
     exact hp.inj i' i h j' j1 hj' hj1
   ·exact hz fun i _ => by cases e : wayI g i (.ho h) (.lt j) with | true => exact absurd ⟨i,e⟩ hx | false => rfl
  | _ => exact hz fun _ _ => rfl
 | lt j =>
  cases y with
  | snk =>
   by_cases hj : j < N.L
   ·simp only [Nt.cap]; rw [if_pos hj]; exact hp.lots j hj
   ·exact hz fun i _ => by
     cases e : wayI g i (.lt j) .snk with
     | true => obtain ⟨h,hh⟩ := lot_at (show lotIs (g i) j = true from e); exact absurd (hp.at' i h j hh).2.2.2.1 hj
     | false => rfl
  | _ => exact hz fun _ _ => rfl
 | snk => exact hz fun _ _ => rfl
theorem sum_dec (hC : Cod N dec enc) {y0 : Nd} (h0 : N.ok y0) {c : Bool} {P : Nd → Bool} (h1 : P y0 = c) (h2 : ∀ y,y ≠ y0 → P y = false) : sumN (fun v => if P (dec v) = true then (1 : Int) else 0) N.n = if c = true then 1 else 0 := by
 have : sumN (fun v => if P (dec v) = true then (1 : Int) else 0) N.n = sumN (fun v => if v = enc y0 then (if c = true then 1 else 0) else 0) N.n := sumN_congr fun v hv => by
  by_cases e : v = enc y0
  ·rw [if_pos e,e,(hC.ed y0 h0).2,h1]
  ·rw [if_neg e,h2 _ fun e2 => e (by rw [← e2]; exact (hC.de v hv).symm)]; rfl
 rw [this,sumN_one,if_pos (hC.ed y0 h0).1]
theorem sum_dec0 {P : Nd → Bool} (h2 : ∀ y,P y = false) : sumN (fun v => if P (dec v) = true then (1 : Int) else 0) N.n = 0 := sumN_ind_none fun v _ => by rw [h2]; decide
theorem way_row (hC : Cod N dec enc) (hp : IsPlan N g) (i : Nat) {x : Nd} (hx : N.ok x) (h0 : x ≠ .src) (h1 : x ≠ .snk) : sumN (fun v => if wayI g i x (dec v) = true then (1 : Int) else 0) N.n = sumN (fun v => if wayI g i (dec v) x = true then (1 : Int) else 0) N.n := by
 cases hq : g i with
 | none =>
  rw [sum_dec0 (P := fun y => wayI g i x y) (fun y => by cases x <;> cases y <;> simp [wayI,hq,hrIs,lotIs]),sum_dec0 (P := fun y => wayI g i y x) (fun y => by cases x <;> cases y <;> simp [wayI,hq,hrIs,lotIs])]
 | some p =>
  obtain ⟨h,j⟩ := p
  obtain ⟨a1,a2,a3,a4,a5,a6,a7⟩ := hp.at' i h j hq
  cases x with
  | src => exact absurd rfl h0
  | snk => exact absurd rfl h1
  | sp k =>
   rw [sum_dec hC (P := fun y => wayI g i (.sp k) y) (y0 := .hi h) (c := k == i) a3 (by simp [wayI,hq,hrIs]) (fun y hy => by cases y <;> simp [wayI,hq,hrIs]; intro _ e; exact hy (by rw [e])),
    sum_dec hC (P := fun y => wayI g i y (.sp k)) (y0 := .src) (c := k == i) trivial (by simp [wayI,hq]) (fun y hy => by cases y <;> simp [wayI] at hy ⊢)]
  | hi k =>
   rw [sum_dec hC (P := fun y => wayI g i (.hi k) y) (y0 := .ho k) (c := h == k) hx (by simp [wayI,hq,hrIs]) (fun y hy => by cases y <;> simp [wayI,hq,hrIs]; intro e; exact absurd (by rw [e]) hy),
    sum_dec hC (P := fun y => wayI g i y (.hi k)) (y0 := .sp i) (c := h == k) a2 (by simp [wayI,hq,hrIs]) (fun y hy => by cases y <;> simp [wayI,hq,hrIs]; intro e; exact absurd (by rw [e]) hy)]
  | ho k =>
   rw [sum_dec hC (P := fun y => wayI g i (.ho k) y) (y0 := .lt j) (c := h == k) a4 (by simp [wayI,hq,hrIs,lotIs]) (fun y hy => by cases y <;> simp [wayI,hq,hrIs,lotIs]; intro _ e; exact hy (by rw [e])),
    sum_dec hC (P := fun y => wayI g i y (.ho k)) (y0 := .hi k) (c := h == k) hx (by simp [wayI,hq,hrIs]) (fun y hy => by cases y <;> simp [wayI,hq,hrIs]; intro e; exact absurd (by rw [e]) hy)]
  | lt k =>
   rw [sum_dec hC (P := fun y => wayI g i (.lt k) y) (y0 := .snk) (c := j == k) trivial (by simp [wayI,hq,lotIs]) (fun y hy => by cases y <;> simp [wayI] at hy ⊢),
    sum_dec hC (P := fun y => wayI g i y (.lt k)) (y0 := .ho h) (c := j == k) a3 (by simp [wayI,hq,hrIs,lotIs]) (fun y hy => by cases y <;> simp [wayI,hq,hrIs,lotIs]; intro e; exact absurd (by rw [e]) hy)]
theorem used_row (hC : Cod N dec enc) (hp : IsPlan N g) {x : Nd} (hx : N.ok x) (h0 : x ≠ .src) (h1 : x ≠ .snk) : sumN (fun v => usedF g N.S x (dec v)) N.n = sumN (fun v => usedF g N.S (dec v) x) N.n := by
 unfold usedF
 rw [sumN_swap (fun v i => if wayI g i x (dec v) = true then (1 : Int) else 0),sumN_swap (fun v i => if wayI g i (dec v) x = true then (1 : Int) else 0)]
 exact sumN_congr fun i _ => way_row hC hp i hx h0 h1
theorem plan_flow (hC : Cod N dec enc) (hok : ∀ u,u < N.n → N.ok (dec u)) (hg : ∀ h,N.fr h = true → N.gf h = true) (hun : ∀ j,0 ≤ N.un j) (hp : IsPlan N g) : FlowOk N dec (resG N dec g) (Pla.size g N.S) where
 nn i _ j _ := by
  have h1 := used_cap hg hun hp (dec i) (dec j)
  have h2 := used_nn g N.S (dec j) (dec i)
  unfold resG; omega
 sk i _ j _ := by unfold resG; omega
 row i hi h0 h1 := by
  have d0 : dec 0 = .src := by have := (hC.ed .src trivial).2; rw [hC.e0] at this; exact this
  have d1 : dec 1 = .snk := by have := (hC.ed .snk trivial).2; rw [hC.e1] at this; exact this
  have := used_row hC hp (hok i hi) (fun e => h0 (by have := hC.de i hi; rw [e,hC.e0] at this; exact this.symm)) (fun e => h1 (by have := hC.de i hi; rw [e,hC.e1] at this; exact this.symm))
  show sumN (fun v => N.cap (dec i) (dec v) - usedF g N.S (dec i) (dec v) + usedF g N.S (dec v) (dec i)) N.n = _
  rw [sumN_add,sumN_sub,this]; omega
 src := by
  have d0 : dec 0 = .src := by have := (hC.ed .src trivial).2; rw [hC.e0] at this; exact this
  show sumN (fun v => N.cap (dec 0) (dec v) - usedF g N.S (dec 0) (dec v) + usedF g N.S (dec v) (dec 0)) N.n = _
  rw [sumN_add,sumN_sub,d0]
  have e1 : sumN (fun v => usedF g N.S (dec v) .src) N.n = 0 := (sumN_congr fun v _ => used_none fun i _ => by cases dec v <;> rfl).trans (sumN_zero _)
  have e2 : sumN (fun v => usedF g N.S .src (dec v)) N.n = Pla.size g N.S := by
   unfold usedF Pla.size
   rw [sumN_swap (fun v i => if wayI g i .src (dec v) = true then (1 : Int) else 0)]
   refine sumN_congr fun i hi => ?_
   exact sum_dec hC (P := fun y => wayI g i .src y) (y0 := .sp i) (c := (g i).isSome) hi (by simp [wayI]) (fun y hy => by cases y <;> simp [wayI]; intro e; exact absurd (by rw [e]) hy)
  rw [e1,e2]; omega
theorem res_at (hC : Cod N dec enc) {x y : Nd} (hx : N.ok x) (hy : N.ok y) : resG N dec g (enc x) (enc y) = N.cap x y - usedF g N.S x y + usedF g N.S y x := by
 unfold resG; rw [(hC.ed x hx).2,(hC.ed y hy).2]
end
end Go.Proofs.Ytlapepdhkomijaa
namespace Go.Proofs.Ytlapepdhkomijaa
open Go Go.RowKit
abbrev ntW (w : Wk) : Nt := ntF w 0 (fun _ => true) fun j => (w.lots.2 j).units
def addP (g : Pla) (i h j : Nat) : Pla := fun a => if a = i then some (h,j) else g a
def plaK (pl : Nat → Du) : Nat → Pla
 | 0 => fun _ => none
 | k + 1 => addP (plaK pl k) (pl k).spathe.toNat (pl k).hour.toNat (pl k).lot.toNat
def lotN (g : Pla) (S j : Nat) : Int := sumN (fun a => if lotIs (g a) j = true then 1 else 0) S
section
variable {w : Wk} {i h j : Nat} {fr : Nat → Bool} {un : Nat → Int} {g : Pla}
end
structure GrOk (w : Wk) (s : PS) (i : Nat) : Prop where
 pl : IsPlan (ntW w) (plaK s.pl s.cnt)
 rg : ∀ k,k < s.cnt → ∃ a h j : Nat,s.pl k = ⟨a,h,j⟩ ∧ a < i ∧ a < w.spathes.1 ∧ h < w.hours.1 ∧ j < w.lots.1
 up : ∀ k k',k < k' → k' < s.cnt → (s.pl k).spathe < (s.pl k').spathe
 fr : ∀ h,h < w.hours.1 → (s.fr h = true ↔ ∀ a j,plaK s.pl s.cnt a ≠ some (h,j))
 un : ∀ j,j < w.lots.1 → s.un j = (w.lots.2 j).units - lotN (plaK s.pl s.cnt) w.spathes.1 j
 top : ∀ a,i ≤ a → plaK s.pl s.cnt a = none
 need : s.need = maxP (ntF w i s.fr s.un)
 sz : Pla.size (plaK s.pl s.cnt) w.spathes.1 = s.cnt
 tot : s.cnt + s.need = maxP (ntW w)
theorem none_size (S : Nat) : Pla.size (fun _ => none) S = 0 := sumN_zero S
end Go.Proofs.Ytlapepdhkomijaa
namespace Go.Proofs.Ytlapepdhkomijaa
open Go Go.RowKit
structure MS where make ::
 mk : Nat → Bool
 ask : Nat → Bool
 opn : Nat → Bool
 lo : Nat → Bool
theorem MS.ext' {a b : MS} (h1 : ∀ i,a.mk i = b.mk i) (h2 : ∀ i,a.ask i = b.ask i) (h3 : ∀ i,a.opn i = b.opn i) (h4 : ∀ i,a.lo i = b.lo i) : a = b := by
 cases a; cases b; simp only [MS.make.injEq]; exact ⟨funext h1,funext h2,funext h3,funext h4⟩
structure ExtM (w : Wk) (a b : MS) : Prop where make ::
 mk : ∀ i,(a.mk i = true → b.mk i = true) ∧ (w.spathes.1 ≤ i → b.mk i = a.mk i)
 ask : ∀ i,(a.ask i = true → b.ask i = true) ∧ (w.hours.1 ≤ i → b.ask i = a.ask i)
 opn : ∀ i,(a.opn i = true → b.opn i = true) ∧ (w.hours.1 ≤ i → b.opn i = a.opn i)
 lo : ∀ i,(a.lo i = true → b.lo i = true) ∧ (w.lots.1 ≤ i → b.lo i = a.lo i)
theorem ExtM.trans {w : Wk} {a b c : MS} (h : ExtM w a b) (k : ExtM w b c) : ExtM w a c :=
 ⟨fun i => ⟨fun e => (k.mk i).1 ((h.mk i).1 e),fun e => ((k.mk i).2 e).trans ((h.mk i).2 e)⟩,fun i => ⟨fun e => (k.ask i).1 ((h.ask i).1 e),fun e => ((k.ask i).2 e).trans ((h.ask i).2 e)⟩,fun i => ⟨fun e => (k.opn i).1 ((h.opn i).1 e),fun e => ((k.opn i).2 e).trans ((h.opn i).2 e)⟩,fun i => ⟨fun e => (k.lo i).1 ((h.lo i).1 e),fun e => ((k.lo i).2 e).trans ((h.lo i).2 e)⟩⟩
theorem bool_le2 {a b : Bool} (h : a = true → b = true) (k : b = true → a = true) : a = b := by cases a <;> cases b <;> simp_all
theorem ExtM.anti {w : Wk} {a b : MS} (h : ExtM w a b) (k : ExtM w b a) : b = a := MS.ext' (fun i => bool_le2 (k.mk i).1 (h.mk i).1) (fun i => bool_le2 (k.ask i).1 (h.ask i).1) (fun i => bool_le2 (k.opn i).1 (h.opn i).1) (fun i => bool_le2 (k.lo i).1 (h.lo i).1)
structure SpLt (w : Wk) (g : Pla) (sp lt : Nat → Int) : Prop where
 at' : ∀ h,h < w.hours.1 → (sp h = -1 ∧ lt h = -1 ∧ ∀ a j,g a ≠ some (h,j)) ∨ ∃ a j : Nat,g a = some (h,j) ∧ a < w.spathes.1 ∧ j < w.lots.1 ∧ sp h = a ∧ lt h = j
theorem SpLt.sp {w : Wk} {g : Pla} {sp lt : Nat → Int} (h : SpLt w g sp lt) {x : Nat} (hx : x < w.hours.1) : sp x < w.spathes.1 := by
 rcases h.at' x hx with ⟨e,_⟩ | ⟨a,j,_,h2,_,h4,_⟩ <;> omega
structure SoundM (w : Wk) (g : Pla) (s : Nd → Bool) (M : MS) : Prop where make ::
 mk : ∀ i,i < w.spathes.1 → M.mk i = true → s (.sp i) = true
 ask : ∀ h,h < w.hours.1 → M.ask h = true → s (.hi h) = true
 opn : ∀ h,h < w.hours.1 → M.opn h = true → s (.ho h) = true
 lo : ∀ j,j < w.lots.1 → M.lo j = true → s (.lt j) = true
 ma : ∀ i h j,h < w.hours.1 → M.mk i = true → g i = some (h,j) → M.ask h = true
 ol : ∀ i h j,h < w.hours.1 → M.opn h = true → g i = some (h,j) → M.lo j = true
structure Rul (w : Wk) (g : Pla) (s : Nd → Bool) : Prop where
 r0 : ∀ i,i < w.spathes.1 → g i = none → s (.sp i) = true
 r1 : ∀ i h,i < w.spathes.1 → h < w.hours.1 → s (.sp i) = true → takesF w i h = true → (∀ j,g i ≠ some (h,j)) → s (.hi h) = true
 r2 : ∀ i h j,i < w.spathes.1 → h < w.hours.1 → s (.hi h) = true → g i = some (h,j) → s (.sp i) = true
 r3 : ∀ h,h < w.hours.1 → s (.hi h) = true → (∀ i j,g i ≠ some (h,j)) → s (.ho h) = true
 r4 : ∀ i h j,i < w.spathes.1 → h < w.hours.1 → j < w.lots.1 → s (.lt j) = true → g i = some (h,j) → s (.ho h) = true
 r5 : ∀ i h j,i < w.spathes.1 → h < w.hours.1 → s (.ho h) = true → g i = some (h,j) → s (.hi h) = true
 r6 : ∀ h j,h < w.hours.1 → j < w.lots.1 → s (.ho h) = true → goodF w h j = true → (∀ i,g i ≠ some (h,j)) → s (.lt j) = true
end Go.Proofs.Ytlapepdhkomijaa
namespace Go.Proofs.Ytlapepdhkomijaa
open Go Go.RowKit
section
variable {w : Wk} {g : Pla} {dec : Nat → Nd} {enc : Nd → Nat}
theorem ntW_ok (hb : WkB w) : (∀ h,(ntW w).fr h = true → (ntW w).gf h = true) ∧ ∀ j,0 ≤ (ntW w).un j := ⟨fun _ _ => rfl,ntF_un fun j hj => (hb.u j hj).1⟩
theorem clo_fwd (hC : Cod (ntW w) dec enc) {s : Nat → Bool} (hc : Clo (ntW w).n s (resG (ntW w) dec g)) {x y : Nd} (hx : (ntW w).ok x) (hy : (ntW w).ok y) (hs : s (enc x) = true) (h1 : (ntW w).cap x y = 1) (h2 : ∀ i,i < w.spathes.1 → wayI g i x y = false) : s (enc y) = true := by
 refine hc _ (hC.ed x hx).1 hs _ (hC.ed y hy).1 ?_
 rw [res_at hC hx hy,h1,used_none (S := (ntW w).S) h2]
 have := used_nn g (ntW w).S y x
 omega
theorem clo_bwd (hb : WkB w) (hp : IsPlan (ntW w) g) (hC : Cod (ntW w) dec enc) {s : Nat → Bool} (hc : Clo (ntW w).n s (resG (ntW w) dec g)) {x y : Nd} (hx : (ntW w).ok x) (hy : (ntW w).ok y) (hs : s (enc x) = true) {i : Nat} (hi : i < w.spathes.1) (h2 : wayI g i y x = true) : s (enc y) = true := by
 refine hc _ (hC.ed x hx).1 hs _ (hC.ed y hy).1 ?_
 rw [res_at hC hx hy]
 have h3 := used_cap (ntW_ok hb).1 (ntW_ok hb).2 hp x y
 have h4 := used_pos (S := (ntW w).S) hi h2
 omega
theorem rul_of (hb : WkB w) (hp : IsPlan (ntW w) g) (hC : Cod (ntW w) dec enc) {s : Nat → Bool} (h0 : s 0 = true) (hc : Clo (ntW w).n s (resG (ntW w) dec g)) : Rul w g fun x => s (enc x) where
 r0 i hi hg := by
  refine clo_fwd hC hc (x := .src) (y := .sp i) trivial hi (by rw [hC.e0]; exact h0) (if_pos ⟨Nat.zero_le _,hi⟩) fun k _ => ?_
  by_cases e : i = k
  ·subst e; simp [wayI,hg]
  ·simp [wayI,e]
 r1 i h hi hh hs ht hn := by
  refine clo_fwd hC hc (x := .sp i) (y := .hi h) hi hh hs (if_pos ⟨Nat.zero_le _,hi,hh,ht⟩) fun k _ => ?_
  cases e : wayI g k (.sp i) (.hi h) with
  | false => rfl
  | true =>
   simp only [wayI,Bool.and_eq_true,beq_iff_eq] at e
   obtain ⟨rfl,e⟩ := e
   obtain ⟨j,hj⟩ := way_at e
   exact absurd hj (hn j)
 r2 i h j hi hh hs hg := clo_bwd hb hp hC hc (x := .hi h) (y := .sp i) hh hi hs hi (by simp [wayI,hg,hrIs])
 r3 h hh hs hn := by
  refine clo_fwd hC hc (x := .hi h) (y := .ho h) hh hh hs (if_pos (by exact ⟨by first | rfl | trivial,hh,rfl⟩)) fun k _ => ?_
  cases e : wayI g k (.hi h) (.ho h) with
  | false => rfl
  | true =>
   simp only [wayI,Bool.and_eq_true] at e
   obtain ⟨j,hj⟩ := way_at e.2
   exact absurd hj (hn k j)
 r4 i h j hi hh hj hs hg := clo_bwd hb hp hC hc (x := .lt j) (y := .ho h) hj hh hs hi (by simp [wayI,hg,hrIs,lotIs])
 r5 i h j hi hh hs hg := clo_bwd hb hp hC hc (x := .ho h) (y := .hi h) hh hh hs hi (by simp [wayI,hg,hrIs])
 r6 h j hh hj hs hgd hn := by
  refine clo_fwd hC hc (x := .ho h) (y := .lt j) hh hj hs (if_pos ⟨hh,hj,hgd,rfl⟩) fun k _ => ?_
  cases e : wayI g k (.ho h) (.lt j) with
  | false => rfl
  | true =>
   simp only [wayI,Bool.and_eq_true] at e
   obtain ⟨j',hj'⟩ := way_at e.1
   obtain ⟨h2,hj2⟩ := lot_at e.2
   rw [hj'] at hj2
   obtain rfl : j' = j := by injection hj2 with q; injection q with _ q
   exact absurd hj' (hn k)
end
theorem pdec_ok (N : Nt) {u : Nat} (hu : u < N.n) : N.ok (pdec N.S N.H u) := by
 have hn : u < 2 + N.S + 2 * N.H + N.L := hu
 unfold pdec
 split
 ·trivial
 ·split
  ·trivial
  ·split
   ·show u - 2 < N.S; omega
   ·split
    ·split
     ·show (u - (2 + N.S)) / 2 < N.H; omega
     ·show (u - (2 + N.S)) / 2 < N.H; omega
    ·show u - (2 + N.S + 2 * N.H) < N.L; omega
noncomputable def lcB (w : Wk) (x : Nd) : Bool := decP (LCut (ntW w) (pdec w.spathes.1 w.hours.1) (penc w.spathes.1 w.hours.1 x))
end Go.Proofs.Ytlapepdhkomijaa
namespace Go.Proofs.Ytlapepdhkomijaa
open Go Go.RowKit
def zeroU : UI .u8 := ⟨0,by decide⟩
def palC : Nat → Pm
 | 0 => ⟨1,-1,0,oneU,0⟩
 | 1 => ⟨2,1,1200,zeroU,7⟩
 | _ => ⟨5,-1,0,twoU,0⟩
def grC : Pms := (3,palC)
def spaC : Nat → Sp
 | 0 => ⟨1,⟨10,20⟩⟩
 | 1 => ⟨1,⟨12,14⟩⟩
 | _ => ⟨2,⟨25,40⟩⟩
def hrsC : Nat → Int
 | 0 => 15
 | 1 => 22
 | 2 => 45
 | _ => 60
def wkC : Wk := ⟨4000,(3,spaC),(4,hrsC),(1,fun _ => ⟨5,2,0,50⟩),30⟩
theorem lt3 {i : Nat} (h : i < 3) : i = 0 ∨ i = 1 ∨ i = 2 := by omega
theorem lt4 {i : Nat} (h : i < 4) : i = 0 ∨ i = 1 ∨ i = 2 ∨ i = 3 := by omega
theorem hit1 {l : Pms} (hn : l.1 = 3) (h0 : (l.2 0).id = 1) : hitN l 1 = 0 := fstI_at (by omega) h0 fun j hj => absurd hj (Nat.not_lt_zero _)
theorem hit2 {l : Pms} (hn : l.1 = 3) (h0 : (l.2 0).id = 1) (h1 : (l.2 1).id = 2) : hitN l 2 = 1 := fstI_at (by omega) h1 fun j hj e => by
 obtain rfl : j = 0 := by omega
 rw [h0] at e; exact absurd e (by decide)
theorem hit5 {l : Pms} (hn : l.1 = 3) (h0 : (l.2 0).id = 1) (h1 : (l.2 1).id = 2) (h2 : (l.2 2).id = 5) : hitN l 5 = 2 := fstI_at (by omega) h2 fun j hj e => by
 rcases (by omega : j = 0 ∨ j = 1) with rfl | rfl
 ·rw [h0] at e; exact absurd e (by decide)
 ·rw [h1] at e; exact absurd e (by decide)
theorem hitC1 : hitN grC 1 = 0 := hit1 rfl rfl
theorem pmsC : PmsOk grC where
 n := by decide
 id i hi := by rcases lt3 hi with rfl | rfl | rfl <;> exact ⟨by decide,by decide⟩
 up i hi h0 := by rcases lt3 hi with rfl | rfl | rfl <;> first | omega | decide
 pl i hi := by rcases lt3 hi with rfl | rfl | rfl <;> exact ⟨by decide,by decide⟩
 sex i hi := by rcases lt3 hi with rfl | rfl | rfl <;> decide
 sort i hi := by rcases lt3 hi with rfl | rfl | rfl <;> exact ⟨by decide,by decide⟩
 mo i hi := by
  rcases lt3 hi with rfl | rfl | rfl
  ·exact .inl rfl
  ·right
   show hitN grC 1 < 3 ∧ (palC (hitN grC 1)).planted + 1000 ≤ 1200
   rw [hitC1]; exact ⟨by decide,by decide⟩
  ·exact .inl rfl
theorem rootC0 : rootF grC 0 = 0 := by unfold rootF; rw [rtN]; exact if_pos rfl
theorem rootC2 : rootF grC 2 = 2 := by unfold rootF; rw [rtN]; exact if_pos rfl
theorem rootC1 : rootF grC 1 = 0 := by
 have := root_mo pmsC (k := 1) (by decide) (by decide)
 rw [← this]
 show rootF grC (hitN grC 1) = 0
 rw [hitC1]; exact rootC0
theorem clnC (i k : Nat) : clnB grC i k = decide (rootF grC k = rootF grC i) := rfl
theorem badC : badI grC = 3 := fstI_no fun j hj => by
 rintro ⟨k,hk,hc,hp⟩
 rcases lt3 hj with rfl | rfl | rfl
 ·omega
 ·obtain rfl : k = 0 := by omega
  rcases hp with ⟨h,_⟩ | ⟨_,h,_⟩
  ·exact h rfl
  ·exact h rfl
 ·rcases (by omega : k = 0 ∨ k = 1) with rfl | rfl
  ·rw [clnC,rootC0,rootC2] at hc; exact absurd hc (by decide)
  ·rw [clnC,rootC1,rootC2] at hc; exact absurd hc (by decide)
theorem cln00 : clnB grC 0 0 = true := by rw [clnC,rootC0]; rfl
theorem cln01 : clnB grC 0 1 = true := by rw [clnC,rootC0,rootC1]; rfl
theorem cln02 : clnB grC 0 2 = false := by rw [clnC,rootC0,rootC2]; rfl
theorem cln10 : clnB grC 1 0 = true := by rw [clnC,rootC0,rootC1]; rfl
theorem cln11 : clnB grC 1 1 = true := by rw [clnC,rootC1]; rfl
theorem cln12 : clnB grC 1 2 = false := by rw [clnC,rootC1,rootC2]; rfl
theorem cln20 : clnB grC 2 0 = false := by rw [clnC,rootC0,rootC2]; rfl
theorem cln21 : clnB grC 2 1 = false := by rw [clnC,rootC1,rootC2]; rfl
theorem cln22 : clnB grC 2 2 = true := by rw [clnC,rootC2]; rfl
theorem sexC0 : sexF grC 0 = 1 := by
 show mxF (clnB grC 0) _ 3 _ = 1
 simp only [mxF,cln00,cln01,cln02,if_true]
 decide
theorem sexC1 : sexF grC 1 = 1 := by
 show mxF (clnB grC 1) _ 3 _ = 1
 simp only [mxF,cln10,cln11,cln12,if_true]
 decide
theorem sexC2 : sexF grC 2 = 2 := by
 show mxF (clnB grC 2) _ 3 _ = 2
 simp only [mxF,cln20,cln21,cln22,if_true]
 decide
theorem sortC0 : sortF grC 0 = 7 := by
 show mxF (clnB grC 0) _ 3 _ = 7
 simp only [mxF,cln00,cln01,cln02,if_true]
 decide
theorem sortC1 : sortF grC 1 = 7 := by
 show mxF (clnB grC 1) _ 3 _ = 7
 simp only [mxF,cln10,cln11,cln12,if_true]
 decide
theorem sortC2 : sortF grC 2 = 0 := by
 show mxF (clnB grC 2) _ 3 _ = 0
 simp only [mxF,cln20,cln21,cln22,if_true]
 decide
theorem knC0 : knP grC 0 = ⟨1,-1,0,oneU,7⟩ := by unfold knP; rw [sexC0,sortC0]; rfl
theorem knC1 : knP grC 1 = ⟨2,1,1200,oneU,7⟩ := by unfold knP; rw [sexC1,sortC1]; rfl
theorem knC2 : knP grC 2 = ⟨5,-1,0,twoU,0⟩ := by unfold knP; rw [sexC2,sortC2]; rfl
theorem hitK1 : hitN (knF grC) 1 = 0 := hit1 rfl rfl
theorem hitK2 : hitN (knF grC) 2 = 1 := hit2 rfl rfl rfl
theorem hitK5 : hitN (knF grC) 5 = 2 := hit5 rfl rfl rfl rfl
theorem wkOkC : WkOk (knF grC) wkC where
 d := by decide
 o := by decide
 s := by decide
 h := by decide
 l := by decide
 sp i hi := by
  have h1 : bearsP (knF grC) 1 4000 1 := by
   unfold bearsP; rw [hitK1]; show 0 < 3 ∧ (knP grC 0).sex.1 = 1 ∧ 1500 ≤ 4000 - (knP grC 0).planted
   rw [knC0]; decide
  have h2 : bearsP (knF grC) 2 4000 1 := by
   unfold bearsP; rw [hitK2]; show 1 < 3 ∧ (knP grC 1).sex.1 = 1 ∧ 1500 ≤ 4000 - (knP grC 1).planted
   rw [knC1]; decide
  rcases lt3 hi with rfl | rfl | rfl
  ·exact ⟨h1,by decide,by decide,by decide⟩
  ·exact ⟨h1,by decide,by decide,by decide⟩
  ·exact ⟨h2,by decide,by decide,by decide⟩
 hr i hi := by rcases lt4 hi with rfl | rfl | rfl | rfl <;> exact ⟨by decide,by decide,by decide⟩
 lt i hi := by
  have h5 : bearsP (knF grC) 5 4000 2 := by
   unfold bearsP; rw [hitK5]; show 2 < 3 ∧ (knP grC 2).sex.1 = 2 ∧ 1500 ≤ 4000 - (knP grC 2).planted
   rw [knC2]; decide
  have hi : i < 1 := hi
  obtain rfl : i = 0 := by omega
  exact ⟨h5,by decide,by decide,by decide,by decide⟩
theorem workC : workE grC wkC = 0 := by
 unfold workE
 rw [if_pos (pmE_ok pmsC),if_neg (by rw [badC]; decide),if_pos (decP_t wkOkC)]
theorem wkBC : WkB wkC := wkOkC.b
theorem one_lot {N : Nt} (hL : N.L = 1) {g : Pla} (hp : IsPlan N g) : Pla.size g N.S ≤ N.un 0 := by
 have h := hp.lots 0 (by omega)
 refine Int.le_trans ?_ h
 unfold Pla.size
 refine sumN_le fun i _ => ?_
 cases e : g i with
 | none => simp [lotIs]
 | some p =>
  obtain ⟨a,b⟩ := p
  have := (hp.at' i a b e).2.2.2.1
  obtain rfl : b = 0 := by omega
  simp [lotIs]
def gC : Pla := fun i => if i = 0 then some (1,0) else if i = 1 then some (0,0) else none
def g1C : Pla := fun i => if i = 1 then some (0,0) else none
abbrev uC : Nat → Int := fun j => (wkC.lots.2 j).units
theorem gC_at {i h j : Nat} (e : gC i = some (h,j)) : (i = 0 ∧ h = 1 ∧ j = 0) ∨ (i = 1 ∧ h = 0 ∧ j = 0) := by
 unfold gC at e
 split at e
 ·injection e with e; injection e with e1 e2; exact .inl ⟨by assumption,e1.symm,e2.symm⟩
 ·split at e
  ·injection e with e; injection e with e1 e2; exact .inr ⟨by assumption,e1.symm,e2.symm⟩
  ·cases e
theorem g1C_at {i h j : Nat} (e : g1C i = some (h,j)) : i = 1 ∧ h = 0 ∧ j = 0 := by
 unfold g1C at e
 split at e
 ·injection e with e; injection e with e1 e2; exact ⟨by assumption,e1.symm,e2.symm⟩
 ·cases e
theorem gC_plan : IsPlan (ntW wkC) gC := by
 refine ⟨fun i h j e => ?_,fun i i' h j j' e e' => ?_,fun j hj => ?_⟩
 ·rcases gC_at e with ⟨rfl,rfl,rfl⟩ | ⟨rfl,rfl,rfl⟩ <;> exact ⟨by decide,by decide,by decide,by decide,by decide,by decide,rfl⟩
 ·rcases gC_at e with ⟨rfl,rfl,rfl⟩ | ⟨rfl,rfl,rfl⟩ <;> rcases gC_at e' with ⟨rfl,h2,rfl⟩ | ⟨rfl,h2,rfl⟩ <;> first | rfl | exact absurd h2 (by decide)
 ·have hj : j < 1 := hj
  obtain rfl : j = 0 := by omega
  decide
theorem g1C_plan : IsPlan (ntF wkC 1 (takD (fun _ => true) 1) (useD uC 0)) g1C := by
 refine ⟨fun i h j e => ?_,fun i i' h j j' e e' => ?_,fun j hj => ?_⟩
 ·obtain ⟨rfl,rfl,rfl⟩ := g1C_at e; exact ⟨by decide,by decide,by decide,by decide,by decide,by decide,rfl⟩
 ·obtain ⟨rfl,rfl,rfl⟩ := g1C_at e; obtain ⟨rfl,h2,rfl⟩ := g1C_at e'; rfl
 ·have hj : j < 1 := hj
  obtain rfl : j = 0 := by omega
  decide
theorem maxC0 : maxP (ntW wkC) = 2 := maxP_eq ⟨⟨gC,gC_plan,by decide⟩,fun g hg => one_lot (N := ntW wkC) rfl hg⟩
theorem maxC1 : maxP (ntF wkC 1 (takD (fun _ => true) 1) (useD uC 0)) = 1 := maxP_eq ⟨⟨g1C,g1C_plan,by decide⟩,fun g hg => one_lot (N := ntF wkC 1 (takD (fun _ => true) 1) (useD uC 0)) rfl hg⟩
theorem maxC2 : maxP (ntF wkC 2 (takD (takD (fun _ => true) 1) 0) (useD (useD uC 0) 0)) = 0 := maxP_eq ⟨⟨fun _ => none,none_plan fun j => by
 show (0 : Int) ≤ if j < 1 then useD (useD uC 0) 0 j else 0
 split
 ·obtain rfl : j = 0 := by omega
  decide
 ·decide,none_size _⟩,fun g hg => one_lot (N := ntF wkC 2 (takD (takD (fun _ => true) 1) 0) (useD (useD uC 0) 0)) rfl hg⟩
def s0C : PS := ⟨fun _ => true,uC,2,0,fun _ => ⟨0,0,0⟩⟩
theorem stC0 : stD wkC (fun _ => true) uC 0 = s0C := by
 show (⟨fun _ => true,uC,maxP (ntW wkC),0,fun _ => ⟨0,0,0⟩⟩ : PS) = s0C
 rw [maxC0]; rfl
theorem stC1 : stD wkC (fun _ => true) uC 1 = putD s0C 0 1 0 := by
 show stepD wkC 0 (stD wkC (fun _ => true) uC 0) = _
 rw [stC0]
 refine step_at (by decide) (by decide) ⟨rfl,by decide,by decide,by decide,?_⟩ (fun h' hh j' _ hc => ?_) fun j' hj => absurd hj (Nat.not_lt_zero _)
 ·show 1 + maxP (ntF wkC 1 (takD (fun _ => true) 1) (useD uC 0)) = 2
  rw [maxC1]; rfl
 ·obtain rfl : h' = 0 := by omega
  exact absurd hc.2.2.1 (by decide)
theorem stC2 : stD wkC (fun _ => true) uC 2 = putD (putD s0C 0 1 0) 1 0 0 := by
 show stepD wkC 1 (stD wkC (fun _ => true) uC 1) = _
 rw [stC1]
 refine step_at (by decide) (by decide) ⟨rfl,by decide,by decide,by decide,?_⟩ (fun h' hh => absurd hh (Nat.not_lt_zero _)) fun j' hj => absurd hj (Nat.not_lt_zero _)
 show 1 + maxP (ntF wkC 2 (takD (takD (fun _ => true) 1) 0) (useD (useD uC 0) 0)) = 2 - 1
 rw [maxC2]; rfl
theorem stC3 : plD wkC = putD (putD s0C 0 1 0) 1 0 0 := by
 show stepD wkC 2 (stD wkC (fun _ => true) uC 2) = _
 rw [stC2]
 refine step_no fun h _ j hj hc => ?_
 have hj : j < 1 := hj
 obtain rfl : j = 0 := by omega
 exact absurd hc.2.1 (by decide)
abbrev decC : Nat → Nd := pdec 3 4
theorem gC_flow : FlowOk (ntW wkC) decC (resG (ntW wkC) decC gC) (maxP (ntW wkC)) := by
 obtain ⟨hgf,hun⟩ := ntW_ok wkBC
 have := plan_flow (pcod (ntW wkC)) (fun u hu => pdec_ok (ntW wkC) hu) hgf hun gC_plan
 rw [maxC0]; exact this
def setC (u : Nat) : Bool := match decC u with
 | .snk => false
 | .hi h => decide (h ≠ 3)
 | .ho h => decide (h ≠ 3)
 | _ => true
theorem setC_clo : Clo (ntW wkC).n setC (resG (ntW wkC) decC gC) := by
 have : ∀ u,u < 14 → setC u = true → ∀ v,v < 14 → 0 < resG (ntW wkC) decC gC u v → setC v = true := by decide +kernel
 exact this
theorem lc_no {x : Nd} (hx : setC (penc 3 4 x) = false) : lcB wkC x = false := decP_f fun h => by
 have := h _ setC gC_flow (by decide) (by decide) setC_clo
 exact absurd (this.symm.trans hx) (by decide)
theorem lc_yes {x : Nd} (h : ∀ s : Nat → Bool,Rul wkC gC (fun y => s (penc 3 4 y)) → s (penc 3 4 x) = true) : lcB wkC x = true := decP_t fun r s hF h0 h1 hc => by
 have hc2 := hF.closed gC_flow h0 h1 hc
 exact h s (rul_of wkBC gC_plan (pcod (ntW wkC)) h0 hc2)
theorem lcC : (∀ i,i < 3 → lcB wkC (.sp i) = true) ∧ (∀ h,h < 3 → lcB wkC (.ho h) = true) ∧ lcB wkC (.lt 0) = true ∧ lcB wkC (.hi 3) = false := by
 have key : ∀ s : Nat → Bool,Rul wkC gC (fun y => s (penc 3 4 y)) → (∀ i,i < 3 → s (penc 3 4 (.sp i)) = true) ∧ (∀ h,h < 3 → s (penc 3 4 (.ho h)) = true) ∧ s (penc 3 4 (.lt 0)) = true := fun s R => by
  have a2 := R.r0 2 (by decide) rfl
  have b2 := R.r1 2 2 (by decide) (by decide) a2 (by decide) (fun j e => by rcases gC_at e with ⟨h,_⟩ | ⟨h,_⟩ <;> exact absurd h (by decide))
  have c2 := R.r3 2 (by decide) b2 (fun i j e => by rcases gC_at e with ⟨_,h,_⟩ | ⟨_,h,_⟩ <;> exact absurd h (by decide))
  have d0 := R.r6 2 0 (by decide) (by decide) c2 (by decide) (fun i e => by rcases gC_at e with ⟨_,h,_⟩ | ⟨_,h,_⟩ <;> exact absurd h (by decide))
  have c1 := R.r4 0 1 0 (by decide) (by decide) (by decide) d0 rfl
  have c0 := R.r4 1 0 0 (by decide) (by decide) (by decide) d0 rfl
  have b1 := R.r5 0 1 0 (by decide) (by decide) c1 rfl
  have b0 := R.r5 1 0 0 (by decide) (by decide) c0 rfl
  have a0 := R.r2 0 1 0 (by decide) (by decide) b1 rfl
  have a1 := R.r2 1 0 0 (by decide) (by decide) b0 rfl
  exact ⟨fun i hi => by rcases lt3 hi with rfl | rfl | rfl <;> assumption,fun h hh => by rcases lt3 hh with rfl | rfl | rfl <;> assumption,d0⟩
 exact ⟨fun i hi => lc_yes fun s R => (key s R).1 i hi,fun h hh => lc_yes fun s R => (key s R).2.1 h hh,lc_yes fun s R => (key s R).2.2,lc_no (by decide)⟩
theorem cvC1 : cntN (fun i => !lcB wkC (.sp i)) 3 = 0 := by
 obtain ⟨h,_⟩ := lcC
 simp [cntN,h 0,h 1,h 2]
theorem cvC2 : cntN (fun h => lcB wkC (.hi h) && !lcB wkC (.ho h)) 4 = 0 := by
 obtain ⟨_,h,_,h3⟩ := lcC
 simp [cntN,h 0,h 1,h 2,h3]
theorem cvC3 : cntN (fun j => lcB wkC (.lt j)) 1 = 1 ∧ selN (fun j => lcB wkC (.lt j)) 1 0 = 0 := by
 obtain ⟨_,_,h,_⟩ := lcC
 simp [cntN,selN,h]
theorem slC : slN wkC 0 = 1 ∧ slH wkC 0 0 = 1 ∧ slN wkC 1 = 2 ∧ slH wkC 1 0 = 0 ∧ slH wkC 1 1 = 1 ∧ slN wkC 2 = 1 ∧ slH wkC 2 0 = 2 := by decide
end Go.Proofs.Ytlapepdhkomijaa
namespace Go.Proofs.Ytlapepdhkomijaa
open Go Go.RowKit
def nbP (l : Pms) (i k : Nat) : Prop := (l.2 k).mother = (l.2 i).id ∨ (l.2 k).id = (l.2 i).mother
structure LkPost (l : Pms) (s : Nat → Bool) (i : Nat) (t : Nat → Bool) : Prop where
 mono : ∀ a,a < l.1 → s a = true → t a = true
 here : t i = true
 clo : ∀ a,a < l.1 → t a = true → s a = false → ∀ b,b < l.1 → nbP l a b → t b = true
 cls : ∀ a,a < l.1 → t a = true → s a = false → rootF l a = rootF l i
structure LkAt (l : Pms) (s : Nat → Bool) (i k : Nat) (t : Nat → Bool) : Prop where
 mono : ∀ a,a < l.1 → s a = true → t a = true
 here : t i = true
 done : ∀ b,b < k → nbP l i b → t b = true
 clo : ∀ a,a < l.1 → a ≠ i → t a = true → s a = false → ∀ b,b < l.1 → nbP l a b → t b = true
 cls : ∀ a,a < l.1 → t a = true → s a = false → rootF l a = rootF l i
section
variable {l : Pms} {s t u : Nat → Bool} {i k : Nat}
theorem nb_root (h : PmsOk l) (hi : i < l.1) (hk : k < l.1) (hn : nbP l i k) : rootF l k = rootF l i := by
 rcases hn with e | e
 ·have hm : (l.2 k).mother ≠ -1 := by have := (h.id i hi).1; omega
  have := root_mo h hk hm
  rw [e,h.hit hi] at this
  exact this.symm
 ·have hm : (l.2 i).mother ≠ -1 := by have := (h.id k hk).1; omega
  have := root_mo h hi hm
  rw [← e,h.hit hk] at this
  exact this
theorem LkPost.same (h : s i = true) : LkPost l s i s := ⟨fun _ _ h => h,h,fun a _ h1 h2 => (by rw [h1] at h2; cases h2),fun a _ h1 h2 => (by rw [h1] at h2; cases h2)⟩
theorem LkAt.begin : LkAt l s i 0 (updS s i) := by
 refine ⟨fun a _ h => ?_,by simp [updS],fun b hb => absurd hb (Nat.not_lt_zero _),fun a _ hn h1 h2 => ?_,fun a _ h1 h2 => ?_⟩
 ·simp only [updS]; split
  ·rfl
  ·exact h
 ·simp only [updS,if_neg hn] at h1; rw [h1] at h2; cases h2
 ·simp only [updS] at h1
  split at h1
  ·rename_i e; rw [e]
  ·rw [h1] at h2; cases h2
theorem LkAt.skip (h : LkAt l s i k t) (hn : ¬ nbP l i k) : LkAt l s i (k + 1) t :=
 ⟨h.mono,h.here,fun b hb hb2 => (Nat.lt_or_ge b k).elim (fun h1 => h.done b h1 hb2) fun h1 => by
  obtain rfl : b = k := by omega
  exact absurd hb2 hn,h.clo,h.cls⟩
theorem LkAt.step (hl : PmsOk l) (hi : i < l.1) (hk : k < l.1) (h : LkAt l s i k t) (hn : nbP l i k) (hp : LkPost l t k u) : LkAt l s i (k + 1) u := by
 refine ⟨fun a ha hs => hp.mono a ha (h.mono a ha hs),hp.mono i hi h.here,fun b hb hb2 => ?_,fun a ha hne h1 h2 b hb hnb => ?_,fun a ha h1 h2 => ?_⟩
 ·rcases Nat.lt_or_ge b k with h1 | h1
  ·exact hp.mono b (by omega) (h.done b h1 hb2)
  ·obtain rfl : b = k := by omega
   exact hp.here
 ·cases e : t a with
  | true => exact hp.mono b hb (h.clo a ha hne e h2 b hb hnb)
  | false => exact hp.clo a ha h1 e b hb hnb
 ·cases e : t a with
  | true => exact h.cls a ha e h2
  | false => rw [hp.cls a ha h1 e]; exact nb_root hl hi hk hn
theorem LkAt.post (h : LkAt l s i l.1 t) : LkPost l s i t := by
 refine ⟨h.mono,h.here,fun a ha h1 h2 b hb hnb => ?_,h.cls⟩
 by_cases e : a = i
 ·subst e; exact h.done b hb hnb
 ·exact h.clo a ha e h1 h2 b hb hnb
theorem LkPost.cln (hl : PmsOk l) (hi : i < l.1) (h : LkPost l (fun _ => false) i t) : ∀ k,k < l.1 → t k = clnB l i k := by
 intro k hk
 unfold clnB
 cases e : t k with
 | true => exact (decide_eq_true (h.cls k hk e rfl)).symm
 | false =>
  refine (decide_eq_false fun he => ?_).symm
  have hc : ∀ k,k < l.1 → (l.2 k).mother ≠ -1 → t k = t (hitN l (l.2 k).mother) := fun k hk hm => by
   obtain ⟨m1,_⟩ := hl.mo2 hk hm
   have hid : (l.2 (hitN l (l.2 k).mother)).id = (l.2 k).mother := by
    rcases hit_spec l (l.2 k).mother with ⟨_,h2⟩ | ⟨h2,_⟩
    ·exact h2
    ·omega
   cases e1 : t k with
   | true => exact (h.clo k hk e1 rfl _ m1 (.inr hid)).symm
   | false =>
    cases e2 : t (hitN l (l.2 k).mother) with
    | false => rfl
    | true => have := h.clo _ m1 e2 rfl k hk (.inl hid.symm); rw [e1] at this; cases this
  have q1 := clo_root hl hc 101 k hk
  have q2 := clo_root hl hc 101 i hi
  have q3 : rtN l 101 k = rtN l 101 i := he
  rw [q3,q2,h.here,e] at q1
  cases q1
end
end Go.Proofs.Ytlapepdhkomijaa
