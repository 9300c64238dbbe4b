/- Nets: a set that one greatest flow closes, all greatest flows close; there is one; a plan is a flow. No condition. -/
import Derived.Test.YtlapepdhkomijaaPSt
set_option linter.unusedSimpArgs false
set_option linter.unusedVariables false
namespace Go.Proofs.Ytlapepdhkomijaa
theorem sumN_lt {f g : Nat → Int} {n k : Nat} (h : ∀ i,i < n → f i ≤ g i) (hk : k < n) (hf : f k < g k) : sumN f n < sumN g n := by
 have h1 := sumN_get (f := fun i => g i - f i) (n := n) (fun i hi => by have := h i hi; show 0 ≤ g i - f i; omega) hk
 rw [sumN_sub] at h1
 omega
def Clo (n : Nat) (s : Nat → Bool) (r : Nat → Nat → Int) : Prop := ∀ u,u < n → s u = true → ∀ v,v < n → 0 < r u v → s v = true
section
variable {N : Nt} {dec : Nat → Nd} {enc : Nd → Nat} {r r' : Nat → Nat → Int} {val : Int}
theorem FlowOk.net (h : FlowOk N dec r val) {s : Nat → Bool} (h0 : s 0 = true) (h1 : s 1 = false) :
  val = sumN (fun u => sumN (fun v => if s u = true ∧ s v = false then flo N dec r u v else 0) N.n) N.n := by
 have hn : 1 < N.n := by simp only [Nt.n]; omega
 have e1 : sumN (fun u => sumN (fun v => if s u = true then flo N dec r u v else 0) N.n) N.n = val := by
  have : sumN (fun u => sumN (fun v => if s u = true then flo N dec r u v else 0) N.n) N.n = sumN (fun u => if u = 0 then val else 0) N.n := by
   refine sumN_congr fun u hu => ?_
   by_cases hs : s u = true
   ·simp only [hs,if_true]
    by_cases e0 : u = 0
    ·subst e0; rw [if_pos rfl]; exact h.fsrc
    ·rw [if_neg e0]; exact h.frow hu e0 fun e => by subst e; rw [h1] at hs; cases hs
   ·simp only [hs]
    rw [if_neg (fun e : u = 0 => hs (by rw [e]; exact h0))]
    exact sumN_zero _
  rw [this,sumN_one,if_pos (by omega)]
 have e2 : sumN (fun u => sumN (fun v => if s u = true ∧ s v = true then flo N dec r u v else 0) N.n) N.n = 0 := by
  refine sumN_skew fun i hi j hj => ?_
  have := h.fsk hi hj
  by_cases ha : s i = true <;> by_cases hb : s j = true <;> simp [ha,hb]
  exact this
 have e3 : sumN (fun u => sumN (fun v => if s u = true then flo N dec r u v else 0) N.n) N.n =
   sumN (fun u => sumN (fun v => if s u = true ∧ s v = true then flo N dec r u v else 0) N.n) N.n + sumN (fun u => sumN (fun v => if s u = true ∧ s v = false then flo N dec r u v else 0) N.n) N.n := by
  rw [← sumN_add]
  refine sumN_congr fun u hu => ?_
  rw [← sumN_add]
  refine sumN_congr fun v hv => ?_
  by_cases ha : s u = true <;> by_cases hb : s v = true <;> simp [ha,hb]
 omega
theorem FlowOk.closed (h : FlowOk N dec r val) (h' : FlowOk N dec r' val) {s : Nat → Bool} (h0 : s 0 = true) (h1 : s 1 = false) (hc : Clo N.n s r) : Clo N.n s r' := by
 intro u hu hsu v hv hr
 cases hsv : s v with
 | true => rfl
 | false =>
  exfalso
  have e1 := h.cut h0 h1 hc
  have e2 := h'.net h0 h1
  have hle : ∀ a,a < N.n → ∀ b,b < N.n → (if s a = true ∧ s b = false then flo N dec r' a b else 0) ≤ if s a = true ∧ s b = false then N.cap (dec a) (dec b) else 0 := by
   intro a ha b hb
   split
   ·exact h'.fle ha hb
   ·exact Int.le_refl _
  have hlt : sumN (fun b => if s u = true ∧ s b = false then flo N dec r' u b else 0) N.n < sumN (fun b => if s u = true ∧ s b = false then N.cap (dec u) (dec b) else 0) N.n := by
   refine sumN_lt (hle u hu) hv ?_
   rw [if_pos ⟨hsu,hsv⟩,if_pos ⟨hsu,hsv⟩]
   simp only [flo]; omega
  have := sumN_lt (f := fun a => sumN (fun b => if s a = true ∧ s b = false then flo N dec r' a b else 0) N.n) (g := fun a => sumN (fun b => if s a = true ∧ s b = false then N.cap (dec a) (dec b) else 0) N.n) (fun a ha => sumN_le (hle a ha)) hu hlt
  omega
end
theorem push_ex {n : Nat} {r : Nat → Nat → Int} (h1n : 1 < n) (hr : ∀ i,i < n → ∀ j,j < n → 0 ≤ r i j) : ∀ (d u : Nat) (sn : Nat → Bool),u < n → uns sn n ≤ d → sn u = false → sn 1 = false → ∃ b r' s',PushPost n sn u r b r' s' := by
 intro d
 induction d with
 | zero => intro u sn hu hd hsu _; have := uns_upd hsu hu; omega
 | succ d ih =>
  intro u sn hu hd hsu hs1
  by_cases hu1 : u = 1
  ·subst hu1; exact ⟨true,r,sn,.sink h1n hr⟩
  ·have key : ∀ k,k ≤ n → (∃ r' s',PushPost n sn u r true r' s') ∨ ∃ s,PushAt n sn u r (fun v => v < k) s := by
    intro k
    induction k with
    | zero =>
     intro _
     have hb := PushAt.begin (n := n) (r := r) hs1 hu1
     exact .inr ⟨_,hb.mono,hb.here,hb.snk,fun v _ h => absurd h (Nat.not_lt_zero _),hb.clo,hb.rch⟩
    | succ k ihk =>
     intro hk
     rcases ihk (by omega) with h | ⟨s,hs⟩
     ·exact .inl h
     ·by_cases hq : r u k ≤ 0 ∨ s k = true
      ·exact .inr ⟨s,hs.skip hq fun v _ hv => by omega⟩
      ·have hsk : s k = false := by cases e : s k with | true => exact absurd (.inr e) hq | false => rfl
       have h0 : 0 < r u k := by rcases Int.lt_or_le 0 (r u k) with e | e; exact e; exact absurd (.inl e) hq
       have hmu : uns s n ≤ d := by
        have e1 := uns_upd hsu hu
        have e2 := uns_mono (s := updS sn u) (t := s) (n := n) fun i hi he => by
         simp only [updS] at he
         split at he
         ·rename_i e; subst e; exact hs.here
         ·exact hs.mono i hi he
        omega
       obtain ⟨b,r',s',hp⟩ := ih k s (by omega) hmu hsk hs.snk
       cases b with
       | true => exact .inl ⟨_,_,hs.yes hu (by omega) hsu hsk h0 hp⟩
       | false =>
        have hrr := (hp.ff rfl).1
        exact .inr ⟨s',hs.no hu (by omega) h0 hp fun v _ hv => by omega⟩
   rcases key n (Nat.le_refl _) with ⟨r',s',h⟩ | ⟨s,hs⟩
   ·exact ⟨true,r',s',h⟩
   ·exact ⟨false,r,s,hs.fail fun v hv _ => hv⟩
section
variable {N : Nt} {dec : Nat → Nd} {enc : Nd → Nat}
theorem flow_ex (hC : Cod N dec enc) (hg : ∀ h,N.fr h = true → N.gf h = true) (hun : ∀ j,0 ≤ N.un j) : ∀ (d : Nat) (r : Nat → Nat → Int) (val : Int),FlowOk N dec r val → maxP N ≤ val + d → ∃ r s,FlowOk N dec r (maxP N) ∧ s 0 = true ∧ s 1 = false ∧ Clo N.n s r := by
 have hn : 1 < N.n := by simp only [Nt.n]; omega
 intro d
 induction d with
 | zero =>
  intro r val h hd
  obtain ⟨b,r',s',hp⟩ := push_ex hn h.nn N.n 0 (fun _ => false) (by omega) (uns_le _ _) rfl rfl
  cases b with
  | true =>
   have h' := h.push (hp.tt rfl).1
   obtain ⟨g,hg1,hg2⟩ := h'.plan hC hg hun
   have := (most_ex hun).le g hg1
   omega
  | false =>
   obtain ⟨_,a2,a3,a4⟩ := hp.ff rfl
   have hc : Clo N.n s' r := fun u hu hs v hv h0 => a4 u hu hs rfl v hv h0
   have := (h.most hC hg hun a2 a3 hc)
   exact ⟨r,s',by rw [maxP_eq this]; exact h,a2,a3,hc⟩
 | succ d ih =>
  intro r val h hd
  obtain ⟨b,r',s',hp⟩ := push_ex hn h.nn N.n 0 (fun _ => false) (by omega) (uns_le _ _) rfl rfl
  cases b with
  | true => exact ih r' (val + 1) (h.push (hp.tt rfl).1) (by omega)
  | false =>
   obtain ⟨_,a2,a3,a4⟩ := hp.ff rfl
   have hc : Clo N.n s' r := fun u hu hs v hv h0 => a4 u hu hs rfl v hv h0
   have := (h.most hC hg hun a2 a3 hc)
   exact ⟨r,s',by rw [maxP_eq this]; exact h,a2,a3,hc⟩
def LCut (N : Nt) (dec : Nat → Nd) (u : Nat) : Prop := ∀ r s,FlowOk N dec r (maxP N) → s 0 = true → s 1 = false → Clo N.n s r → s u = true
theorem lcut_sn {r : Nat → Nat → Int} {val : Int} {sn' : Nat → Bool} {r' : Nat → Nat → Int} (hC : Cod N dec enc) (hg : ∀ h,N.fr h = true → N.gf h = true) (hun : ∀ j,0 ≤ N.un j) (h : FlowOk N dec r val) {sn : Nat → Bool} (hs0 : ∀ u,u < N.n → sn u = false) (hp : PushPost N.n sn 0 r false r' sn') {u : Nat} (hu : u < N.n) : LCut N dec u ↔ sn' u = true := by
 have hn : 1 < N.n := by simp only [Nt.n]; omega
 obtain ⟨_,a2,a3,a4⟩ := hp.ff rfl
 have hc : Clo N.n sn' r := fun u hu hs v hv h0 => a4 u hu hs (hs0 u hu) v hv h0
 have hm := maxP_eq (h.most hC hg hun a2 a3 hc)
 have h' : FlowOk N dec r (maxP N) := by rw [hm]; exact h
 constructor
 ·intro hl; exact hl r sn' h' a2 a3 hc
 ·intro hs r2 s2 h2 e0 e1 hc2
  exact hp.rch rfl s2 e0 (h2.closed h' e0 e1 hc2) u hu hs (hs0 u hu)
end
end Go.Proofs.Ytlapepdhkomijaa
namespace Go.Proofs.Ytlapepdhkomijaa
def hrIs (o : Option (Nat × Nat)) (h : Nat) : Bool := match o with
 | some p => p.1 == h
 | none => false
def wayI (g : Pla) (i : Nat) : Nd → Nd → Bool
 | .src,.sp k => k == i && (g i).isSome
 | .sp k,.hi h => k == i && hrIs (g i) h
 | .hi h,.ho k => k == h && hrIs (g i) h
 | .ho h,.lt j => hrIs (g i) h && lotIs (g i) j
 | .lt j,.snk => lotIs (g i) j
 | _,_ => false
def usedF (g : Pla) (S : Nat) (x y : Nd) : Int := sumN (fun i => if wayI g i x y = true then 1 else 0) S
def resG (N : Nt) (dec : Nat → Nd) (g : Pla) (u v : Nat) : Int := N.cap (dec u) (dec v) - usedF g N.S (dec u) (dec v) + usedF g N.S (dec v) (dec u)
theorem used_none {g : Pla} {S : Nat} {x y : Nd} (h : ∀ i,i < S → wayI g i x y = false) : usedF g S x y = 0 := sumN_ind_none fun i hi => by rw [h i hi]; decide
theorem used_nn (g : Pla) (S : Nat) (x y : Nd) : 0 ≤ usedF g S x y := sumN_nn fun i _ => by split <;> decide
theorem used_pos {g : Pla} {S : Nat} {x y : Nd} {i : Nat} (hi : i < S) (h : wayI g i x y = true) : 1 ≤ usedF g S x y := by
 have := sumN_get (f := fun i => if wayI g i x y = true then (1 : Int) else 0) (n := S) (fun i _ => by show (0 : Int) ≤ if _ then 1 else 0; split <;> decide) hi
 simp only [h,if_true] at this
 exact this
section
variable {N : Nt} {dec : Nat → Nd} {enc : Nd → Nat} {g : Pla}
theorem cap_nn (hun : ∀ j,0 ≤ N.un j) (x y : Nd) : 0 ≤ N.cap x y := by
 cases x <;> cases y <;> simp only [Nt.cap] <;> first | exact Int.le_refl _ | (split <;> first | exact hun _ | decide)
theorem way_at {i h : Nat} (e : hrIs (g i) h = true) : ∃ j,g i = some (h,j) := by
 cases hq : g i with
 | none => rw [hq] at e; cases e
 | some p => rw [hq] at e; obtain ⟨a,b⟩ := p; simp only [hrIs,beq_iff_eq] at e; subst e; exact ⟨b,rfl⟩
theorem lot_at {i j : Nat} (e : lotIs (g i) j = true) : ∃ h,g i = some (h,j) := by
 cases hq : g i with
 | none => rw [hq] at e; cases e
 | some p => rw [hq] at e; obtain ⟨a,b⟩ := p; simp only [lotIs,beq_iff_eq] at e; subst e; exact ⟨a,rfl⟩
theorem used_cap (hg : ∀ h,N.fr h = true → N.gf h = true) (hun : ∀ j,0 ≤ N.un j) (hp : IsPlan N g) (x y : Nd) : usedF g N.S x y ≤ N.cap x y := by
 have h0 := cap_nn hun x y
 have hz : (∀ i,i < N.S → wayI g i x y = false) → usedF g N.S x y ≤ N.cap x y := fun h => by rw [used_none h]; exact h0
 have hone : ∀ k,N.cap x y = 1 ∨ (∀ i,i < N.S → wayI g i x y = false) → (∀ i,wayI g i x y = true → i = k) → usedF g N.S x y ≤ N.cap x y := fun k h1 h2 => by
  rcases h1 with h1 | h1
  ·rw [h1]; exact sumN_ind_le fun i i' _ _ a b => (h2 i a).trans (h2 i' b).symm
  ·exact hz h1
 cases x with
 | src =>
  cases y with
  | sp k =>
   refine hone k ?_ fun i h => by simp only [wayI,Bool.and_eq_true,beq_iff_eq] at h; exact h.1.symm
   cases hq : g k with
   | none =>
    exact .inr fun i _ => by
     by_cases e : k = i
     ·subst e; simp [wayI,hq]
     ·simp [wayI,e]
   | some p => left; obtain ⟨a1,a2,_⟩ := hp.at' k p.1 p.2 hq; simp only [Nt.cap]; exact if_pos ⟨a1,a2⟩
  | _ => exact hz fun _ _ => rfl
 | sp k =>
  cases y with
  | hi h =>
   refine hone k ?_ fun i h => by simp only [wayI,Bool.and_eq_true,beq_iff_eq] at h; exact h.1.symm
   cases hq : hrIs (g k) h with
   | false =>
    exact .inr fun i _ => by
     by_cases e : k = i
     ·subst e; simp [wayI,hq]
     ·simp [wayI,e]
   | true =>
    left; obtain ⟨j,hj⟩ := way_at hq
    obtain ⟨a1,a2,a3,a4,a5,a6,a7⟩ := hp.at' k h j hj
    simp only [Nt.cap]; exact if_pos ⟨a1,a2,a3,a5⟩
  | _ => exact hz fun _ _ => rfl
 | hi h =>
  cases y with
  | ho k =>
   by_cases hx : ∃ i,wayI g i (.hi h) (.ho k) = true
   ·obtain ⟨i,hi⟩ := hx
    simp only [wayI,Bool.and_eq_true,beq_iff_eq] at hi
    obtain ⟨rfl,hi⟩ := hi
    obtain ⟨j,hj⟩ := way_at hi
    obtain ⟨a1,a2,a3,a4,a5,a6,a7⟩ := hp.at' i k j hj
    refine hone i (.inl ?_) fun i' h' => ?_
    ·simp only [Nt.cap]; exact if_pos (by exact ⟨by first | rfl | trivial,a3,a7⟩)
    ·simp only [wayI,Bool.and_eq_true] at h'
     obtain ⟨j',hj'⟩ := way_at h'.2
     exact hp.inj i' i k j' j hj' hj
   ·exact hz fun i _ => by cases e : wayI g i (.hi h) (.ho k) with | true => exact absurd ⟨i,e⟩ hx | false => rfl
  | _ => exact hz fun _ _ => rfl
 | ho h =>
  cases y with
  | lt j =>
   by_cases hx : ∃ i,wayI g i (.ho h) (.lt j) = true
   ·obtain ⟨i,hi⟩ := hx
    simp only [wayI,Bool.and_eq_true] at hi
    obtain ⟨j1,hj1⟩ := way_at hi.1
    obtain ⟨h2,hj2⟩ := lot_at hi.2
    rw [hj1] at hj2
    obtain ⟨rfl,rfl⟩ : h = h2 ∧ j1 = j := by injection hj2 with e; injection e with e1 e2; exact ⟨e1,e2⟩
    obtain ⟨a1,a2,a3,a4,a5,a6,a7⟩ := hp.at' i h j1 hj1
    refine hone i (.inl ?_) fun i' h' => ?_
    ·simp only [Nt.cap]; exact if_pos ⟨a3,a4,a6,hg h a7⟩
    ·simp only [wayI,Bool.and_eq_true] at h'
     obtain ⟨j',hj'⟩ := way_at h'.1
     exact hp.inj i' i h j' j1 hj' hj1
   ·exact hz fun i _ => by cases e : wayI g i (.ho h) (.lt j) with | true => exact absurd ⟨i,e⟩ hx | false => rfl
  | _ => exact hz fun _ _ => rfl
 | lt j =>
  cases y with
  | snk =>
   by_cases hj : j < N.L
   ·simp only [Nt.cap]; rw [if_pos hj]; exact hp.lots j hj
   ·exact hz fun i _ => by
     cases e : wayI g i (.lt j) .snk with
     | true => obtain ⟨h,hh⟩ := lot_at (show lotIs (g i) j = true from e); exact absurd (hp.at' i h j hh).2.2.2.1 hj
     | false => rfl
  | _ => exact hz fun _ _ => rfl
 | snk => exact hz fun _ _ => rfl
theorem sum_dec (hC : Cod N dec enc) {y0 : Nd} (h0 : N.ok y0) {c : Bool} {P : Nd → Bool} (h1 : P y0 = c) (h2 : ∀ y,y ≠ y0 → P y = false) : sumN (fun v => if P (dec v) = true then (1 : Int) else 0) N.n = if c = true then 1 else 0 := by
 have : sumN (fun v => if P (dec v) = true then (1 : Int) else 0) N.n = sumN (fun v => if v = enc y0 then (if c = true then 1 else 0) else 0) N.n := sumN_congr fun v hv => by
  by_cases e : v = enc y0
  ·rw [if_pos e,e,(hC.ed y0 h0).2,h1]
  ·rw [if_neg e,h2 _ fun e2 => e (by rw [← e2]; exact (hC.de v hv).symm)]; rfl
 rw [this,sumN_one,if_pos (hC.ed y0 h0).1]
theorem sum_dec0 {P : Nd → Bool} (h2 : ∀ y,P y = false) : sumN (fun v => if P (dec v) = true then (1 : Int) else 0) N.n = 0 := sumN_ind_none fun v _ => by rw [h2]; decide
theorem way_row (hC : Cod N dec enc) (hp : IsPlan N g) (i : Nat) {x : Nd} (hx : N.ok x) (h0 : x ≠ .src) (h1 : x ≠ .snk) : sumN (fun v => if wayI g i x (dec v) = true then (1 : Int) else 0) N.n = sumN (fun v => if wayI g i (dec v) x = true then (1 : Int) else 0) N.n := by
 cases hq : g i with
 | none =>
  rw [sum_dec0 (P := fun y => wayI g i x y) (fun y => by cases x <;> cases y <;> simp [wayI,hq,hrIs,lotIs]),sum_dec0 (P := fun y => wayI g i y x) (fun y => by cases x <;> cases y <;> simp [wayI,hq,hrIs,lotIs])]
 | some p =>
  obtain ⟨h,j⟩ := p
  obtain ⟨a1,a2,a3,a4,a5,a6,a7⟩ := hp.at' i h j hq
  cases x with
  | src => exact absurd rfl h0
  | snk => exact absurd rfl h1
  | sp k =>
   rw [sum_dec hC (P := fun y => wayI g i (.sp k) y) (y0 := .hi h) (c := k == i) a3 (by simp [wayI,hq,hrIs]) (fun y hy => by cases y <;> simp [wayI,hq,hrIs]; intro _ e; exact hy (by rw [e])),
    sum_dec hC (P := fun y => wayI g i y (.sp k)) (y0 := .src) (c := k == i) trivial (by simp [wayI,hq]) (fun y hy => by cases y <;> simp [wayI] at hy ⊢)]
  | hi k =>
   rw [sum_dec hC (P := fun y => wayI g i (.hi k) y) (y0 := .ho k) (c := h == k) hx (by simp [wayI,hq,hrIs]) (fun y hy => by cases y <;> simp [wayI,hq,hrIs]; intro e; exact absurd (by rw [e]) hy),
    sum_dec hC (P := fun y => wayI g i y (.hi k)) (y0 := .sp i) (c := h == k) a2 (by simp [wayI,hq,hrIs]) (fun y hy => by cases y <;> simp [wayI,hq,hrIs]; intro e; exact absurd (by rw [e]) hy)]
  | ho k =>
   rw [sum_dec hC (P := fun y => wayI g i (.ho k) y) (y0 := .lt j) (c := h == k) a4 (by simp [wayI,hq,hrIs,lotIs]) (fun y hy => by cases y <;> simp [wayI,hq,hrIs,lotIs]; intro _ e; exact hy (by rw [e])),
    sum_dec hC (P := fun y => wayI g i y (.ho k)) (y0 := .hi k) (c := h == k) hx (by simp [wayI,hq,hrIs]) (fun y hy => by cases y <;> simp [wayI,hq,hrIs]; intro e; exact absurd (by rw [e]) hy)]
  | lt k =>
   rw [sum_dec hC (P := fun y => wayI g i (.lt k) y) (y0 := .snk) (c := j == k) trivial (by simp [wayI,hq,lotIs]) (fun y hy => by cases y <;> simp [wayI] at hy ⊢),
    sum_dec hC (P := fun y => wayI g i y (.lt k)) (y0 := .ho h) (c := j == k) a3 (by simp [wayI,hq,hrIs,lotIs]) (fun y hy => by cases y <;> simp [wayI,hq,hrIs,lotIs]; intro e; exact absurd (by rw [e]) hy)]
theorem used_row (hC : Cod N dec enc) (hp : IsPlan N g) {x : Nd} (hx : N.ok x) (h0 : x ≠ .src) (h1 : x ≠ .snk) : sumN (fun v => usedF g N.S x (dec v)) N.n = sumN (fun v => usedF g N.S (dec v) x) N.n := by
 unfold usedF
 rw [sumN_swap (fun v i => if wayI g i x (dec v) = true then (1 : Int) else 0),sumN_swap (fun v i => if wayI g i (dec v) x = true then (1 : Int) else 0)]
 exact sumN_congr fun i _ => way_row hC hp i hx h0 h1
theorem plan_flow (hC : Cod N dec enc) (hok : ∀ u,u < N.n → N.ok (dec u)) (hg : ∀ h,N.fr h = true → N.gf h = true) (hun : ∀ j,0 ≤ N.un j) (hp : IsPlan N g) : FlowOk N dec (resG N dec g) (Pla.size g N.S) where
 nn i _ j _ := by
  have h1 := used_cap hg hun hp (dec i) (dec j)
  have h2 := used_nn g N.S (dec j) (dec i)
  unfold resG; omega
 sk i _ j _ := by unfold resG; omega
 row i hi h0 h1 := by
  have d0 : dec 0 = .src := by have := (hC.ed .src trivial).2; rw [hC.e0] at this; exact this
  have d1 : dec 1 = .snk := by have := (hC.ed .snk trivial).2; rw [hC.e1] at this; exact this
  have := used_row hC hp (hok i hi) (fun e => h0 (by have := hC.de i hi; rw [e,hC.e0] at this; exact this.symm)) (fun e => h1 (by have := hC.de i hi; rw [e,hC.e1] at this; exact this.symm))
  show sumN (fun v => N.cap (dec i) (dec v) - usedF g N.S (dec i) (dec v) + usedF g N.S (dec v) (dec i)) N.n = _
  rw [sumN_add,sumN_sub,this]; omega
 src := by
  have d0 : dec 0 = .src := by have := (hC.ed .src trivial).2; rw [hC.e0] at this; exact this
  show sumN (fun v => N.cap (dec 0) (dec v) - usedF g N.S (dec 0) (dec v) + usedF g N.S (dec v) (dec 0)) N.n = _
  rw [sumN_add,sumN_sub,d0]
  have e1 : sumN (fun v => usedF g N.S (dec v) .src) N.n = 0 := (sumN_congr fun v _ => used_none fun i _ => by cases dec v <;> rfl).trans (sumN_zero _)
  have e2 : sumN (fun v => usedF g N.S .src (dec v)) N.n = Pla.size g N.S := by
   unfold usedF Pla.size
   rw [sumN_swap (fun v i => if wayI g i .src (dec v) = true then (1 : Int) else 0)]
   refine sumN_congr fun i hi => ?_
   exact sum_dec hC (P := fun y => wayI g i .src y) (y0 := .sp i) (c := (g i).isSome) hi (by simp [wayI]) (fun y hy => by cases y <;> simp [wayI]; intro e; exact absurd (by rw [e]) hy)
  rw [e1,e2]; omega
theorem res_at (hC : Cod N dec enc) {x y : Nd} (hx : N.ok x) (hy : N.ok y) : resG N dec g (enc x) (enc y) = N.cap x y - usedF g N.S x y + usedF g N.S y x := by
 unfold resG; rw [(hC.ed x hx).2,(hC.ed y hy).2]
end
end Go.Proofs.Ytlapepdhkomijaa
