/- Edges of a net as they are linked. No condition. -/
import Derived.Test.YtlapepdhkomijaaPPpu
import Derived.Test.YtlapepdhkomijaaPNet2
set_option linter.unusedSimpArgs false
set_option linter.unusedVariables false
namespace Go.Proofs.Ytlapepdhkomijaa
structure KSt where
 m : Nat
 tw : Nat → Nat
 lf : Nat → Int
 ln : Int → Nat
 ix : Int → Nat → Nat
def linkT (T : KSt) (u v : Nat) (c : Int) : KSt := ⟨T.m + 2,fun k => if k = T.m then v else if k = T.m + 1 then u else T.tw k,fun k => if k = T.m then c else if k = T.m + 1 then 0 else T.lf k,fun z => if z = (v : Int) then T.ln z + 1 else if z = (u : Int) then T.ln z + 1 else T.ln z,fun z i => if z = (v : Int) then (if i < T.ln z then T.ix z i else T.m + 1) else if z = (u : Int) then (if i < T.ln z then T.ix z i else T.m) else T.ix z i⟩
def pdec (S H : Nat) (u : Nat) : Nd := if u = 0 then .src else if u = 1 then .snk else if u < 2 + S then .sp (u - 2) else if u < 2 + S + 2 * H then (if (u - (2 + S)) % 2 = 0 then .hi ((u - (2 + S)) / 2) else .ho ((u - (2 + S)) / 2)) else .lt (u - (2 + S + 2 * H))
def penc (S H : Nat) : Nd → Nat
 | .src => 0
 | .snk => 1
 | .sp i => 2 + i
 | .hi h => 2 + S + 2 * h
 | .ho h => 2 + S + 2 * h + 1
 | .lt j => 2 + S + 2 * H + j
section
variable {S H u : Nat}
theorem pdec_sp {i : Nat} (e : u = 2 + i) (h : i < S) : pdec S H u = .sp i := by
 subst e; unfold pdec
 rw [if_neg (by omega),if_neg (by omega),if_pos (by omega),Nat.add_sub_cancel_left]
theorem pdec_hi {i : Nat} (e : u = 2 + S + 2 * i) (h : i < H) : pdec S H u = .hi i := by
 subst e; unfold pdec
 rw [if_neg (by omega),if_neg (by omega),if_neg (by omega),if_pos (by omega),if_pos (by omega)]; congr 1; omega
theorem pdec_ho {i : Nat} (e : u = 2 + S + 2 * i + 1) (h : i < H) : pdec S H u = .ho i := by
 subst e; unfold pdec
 rw [if_neg (by omega),if_neg (by omega),if_neg (by omega),if_pos (by omega),if_neg (by omega)]; congr 1; omega
theorem pdec_lt {i : Nat} (e : u = 2 + S + 2 * H + i) : pdec S H u = .lt i := by
 subst e; unfold pdec
 rw [if_neg (by omega),if_neg (by omega),if_neg (by omega),if_neg (by omega),Nat.add_sub_cancel_left]
end
theorem pcod (N : Nt) : Cod N (pdec N.S N.H) (penc N.S N.H) where
 de u hu := by
  have hn : u < 2 + N.S + 2 * N.H + N.L := hu
  by_cases a0 : u = 0
  ·subst a0; rfl
  by_cases a1 : u = 1
  ·subst a1; rfl
  by_cases a2 : u < 2 + N.S
  ·rw [pdec_sp (i := u - 2) (by omega) (by omega)]; simp only [penc]; omega
  by_cases a4 : u < 2 + N.S + 2 * N.H
  ·by_cases a5 : (u - (2 + N.S)) % 2 = 0
   ·rw [pdec_hi (i := (u - (2 + N.S)) / 2) (by omega) (by omega)]; simp only [penc]; omega
   ·rw [pdec_ho (i := (u - (2 + N.S)) / 2) (by omega) (by omega)]; simp only [penc]; omega
  ·rw [pdec_lt (i := u - (2 + N.S + 2 * N.H)) (by omega)]; simp only [penc]; omega
 ed x hx := by
  cases x with
  | src => exact ⟨by simp only [penc,Nt.n]; omega,rfl⟩
  | snk => exact ⟨by simp only [penc,Nt.n]; omega,rfl⟩
  | sp i =>
   have h1 : i < N.S := hx
   exact ⟨by simp only [penc,Nt.n]; omega,pdec_sp rfl h1⟩
  | hi h =>
   have h1 : h < N.H := hx
   exact ⟨by simp only [penc,Nt.n]; omega,pdec_hi rfl h1⟩
  | ho h =>
   have h1 : h < N.H := hx
   exact ⟨by simp only [penc,Nt.n]; omega,pdec_ho rfl h1⟩
  | lt j =>
   have h1 : j < N.L := hx
   exact ⟨by simp only [penc,Nt.n]; omega,pdec_lt rfl⟩
 e0 := rfl
 e1 := rfl
structure Knt (N : Nt) (dec : Nat → Nd) (P : Nd → Nd → Bool) (T : KSt) : Prop where
 ev : T.m % 2 = 0
 on : ∀ k,k < T.m → k % 2 = 0 → P (dec (T.tw (k + 1))) (dec (T.tw k)) = true ∧ T.lf k = N.cap (dec (T.tw (k + 1))) (dec (T.tw k)) ∧ T.lf (k + 1) = 0
 tn : ∀ k,k < T.m → T.tw k < N.n
 cov : ∀ x y,P x y = true → ∃ k,k < T.m ∧ k % 2 = 0 ∧ dec (T.tw (k + 1)) = x ∧ dec (T.tw k) = y
 uq : ∀ k k',k < T.m → k' < T.m → k % 2 = 0 → k' % 2 = 0 → T.tw k = T.tw k' → T.tw (k + 1) = T.tw (k' + 1) → k = k'
 asy : ∀ x y,P x y = true → P y x = false
 ls : ∀ u : Nat,u < N.n → ∀ i,i < T.ln u → T.ix u i < T.m ∧ T.tw (mate (T.ix u i)) = u
 lc : ∀ k,k < T.m → ∃ i,i < T.ln (T.tw (mate k)) ∧ T.ix (T.tw (mate k)) i = k
 le : ∀ z,T.ln z ≤ T.m
theorem mate_lt {k m : Nat} (hm : m % 2 = 0) (h : k < m) : mate k < m := by unfold mate; split <;> omega
theorem Knt.start (N : Nt) (dec : Nat → Nd) {P : Nd → Nd → Bool} (hP : ∀ x y,P x y = false) : Knt N dec P ⟨0,fun _ => 0,fun _ => 0,fun _ => 0,fun _ _ => 0⟩ :=
 ⟨rfl,fun k h => absurd h (Nat.not_lt_zero _),fun k h => absurd h (Nat.not_lt_zero _),fun x y h => (by rw [hP] at h; cases h),fun k _ h => absurd h (Nat.not_lt_zero _),fun x y h => (by rw [hP] at h; cases h),fun _ _ _ h => absurd h (Nat.not_lt_zero _),fun k h => absurd h (Nat.not_lt_zero _),fun _ => Nat.le_refl _⟩
theorem Knt.same {N : Nt} {dec : Nat → Nd} {P P' : Nd → Nd → Bool} {T : KSt} (h : Knt N dec P T) (hP : ∀ x y,P' x y = P x y) : Knt N dec P' T := by
 have : P' = P := funext fun x => funext fun y => hP x y
 rw [this]; exact h
theorem Knt.link {N : Nt} {dec : Nat → Nd} {enc : Nd → Nat} (hC : Cod N dec enc) {P P' : Nd → Nd → Bool} {T : KSt} (h : Knt N dec P T) {x y : Nd} {c : Int} (hx : N.ok x) (hy : N.ok y) (hxy : x ≠ y) (h1 : P x y = false) (h2 : P y x = false) (hc : c = N.cap x y)
  (hP : ∀ p q,P' p q = if p = x ∧ q = y then true else P p q) : Knt N dec P' (linkT T (enc x) (enc y) c) := by
 have hu := hC.ed x hx
 have hv := hC.ed y hy
 obtain ⟨u,eu⟩ : ∃ u,u = enc x := ⟨_,rfl⟩
 obtain ⟨v,ev⟩ : ∃ v,v = enc y := ⟨_,rfl⟩
 rw [← eu] at hu
 rw [← ev] at hv
 rw [← eu,← ev]
 have huv : u ≠ v := fun e => hxy (by rw [← hu.2,← hv.2,e])
 have tw0 : (linkT T u v c).tw T.m = v := by simp [linkT]
 have tw1 : (linkT T u v c).tw (T.m + 1) = u := by simp [linkT]
 have twl : ∀ k,k < T.m → (linkT T u v c).tw k = T.tw k := fun k hk => by simp only [linkT]; rw [if_neg (by omega),if_neg (by omega)]
 have lfl : ∀ k,k < T.m → (linkT T u v c).lf k = T.lf k := fun k hk => by simp only [linkT]; rw [if_neg (by omega),if_neg (by omega)]
 have hev := h.ev
 have m0 : mate T.m = T.m + 1 := by unfold mate; rw [if_pos hev]
 have m1 : mate (T.m + 1) = T.m := by unfold mate; rw [if_neg (by omega)]; omega
 have hm2 : (linkT T u v c).m = T.m + 2 := rfl
 have hmono : ∀ p q,P p q = true → P' p q = true := fun p q e => by rw [hP]; split <;> simp [e]
 have hgt : ∀ k,k < T.m + 2 → k % 2 = 0 → k < T.m ∨ k = T.m := fun k hk e => by omega
 have hnew : ∀ k,k < T.m → k % 2 = 0 → ¬ (dec (T.tw (k + 1)) = x ∧ dec (T.tw k) = y) := fun k hk e hh => by
  have := (h.on k hk e).1; rw [hh.1,hh.2,h1] at this; cases this
 refine ⟨by rw [hm2]; omega,fun k hk e => ?_,fun k hk => ?_,fun p q hpq => ?_,fun k k' hk hk' e e' q1 q2 => ?_,fun p q hpq => ?_,fun z hz i hi => ?_,fun k hk => ?_,fun z => ?_⟩
 ·rw [hm2] at hk
  rcases hgt k hk e with hk | rfl
  ·obtain ⟨a1,a2,a3⟩ := h.on k hk e
   rw [twl k hk,twl (k + 1) (by omega),lfl k hk,lfl (k + 1) (by omega)]
   exact ⟨hmono _ _ a1,a2,a3⟩
  ·rw [tw0,tw1,hu.2,hv.2]
   refine ⟨by rw [hP,if_pos ⟨rfl,rfl⟩],?_,?_⟩
   ·simp only [linkT,if_true]; exact hc
   ·simp [linkT]
 ·rw [hm2] at hk
  by_cases a : k < T.m
  ·rw [twl k a]; exact h.tn k a
  ·by_cases b : k = T.m
   ·subst b; rw [tw0]; exact hv.1
   ·obtain rfl : k = T.m + 1 := by omega
    rw [tw1]; exact hu.1
 ·rw [hP] at hpq
  by_cases a : p = x ∧ q = y
  ·exact ⟨T.m,by rw [hm2]; omega,hev,by rw [tw1,hu.2,a.1],by rw [tw0,hv.2,a.2]⟩
  ·rw [if_neg a] at hpq
   obtain ⟨k,b1,b2,b3,b4⟩ := h.cov p q hpq
   exact ⟨k,by rw [hm2]; omega,b2,by rw [twl _ (by omega)]; exact b3,by rw [twl _ b1]; exact b4⟩
 ·rw [hm2] at hk hk'
  rcases hgt k hk e with hk | rfl <;> rcases hgt k' hk' e' with hk' | rfl
  ·rw [twl k hk,twl k' hk'] at q1
   rw [twl (k + 1) (by omega),twl (k' + 1) (by omega)] at q2
   exact h.uq k k' hk hk' e e' q1 q2
  ·rw [twl k hk,tw0] at q1
   rw [twl (k + 1) (by omega),tw1] at q2
   exact absurd ⟨by rw [q2,hu.2],by rw [q1,hv.2]⟩ (hnew k hk e)
  ·rw [twl k' hk',tw0] at q1
   rw [twl (k' + 1) (by omega),tw1] at q2
   exact absurd ⟨by rw [← q2,hu.2],by rw [← q1,hv.2]⟩ (hnew k' hk' e')
  ·rfl
 ·rw [hP] at hpq ⊢
  by_cases a : p = x ∧ q = y
  ·obtain ⟨rfl,rfl⟩ := a
   rw [if_neg (fun e => hxy e.2)]; exact h2
  ·rw [if_neg a] at hpq
   have := h.asy p q hpq
   rw [if_neg]
   ·exact this
   ·rintro ⟨rfl,rfl⟩; rw [h2] at hpq; cases hpq
 ·simp only [linkT] at hi ⊢
  have mm : ∀ k,k < T.m → mate k < T.m := fun k hk => mate_lt hev hk
  have old : ∀ i,i < T.ln (z : Int) → T.ix z i < T.m + 2 ∧ (linkT T u v c).tw (mate (T.ix z i)) = z := fun i hi => by
   obtain ⟨b1,b2⟩ := h.ls z hz i hi
   exact ⟨by omega,by rw [twl _ (mm _ b1)]; exact b2⟩
  by_cases a : (z : Int) = (v : Int)
  ·simp only [if_pos a] at hi ⊢
   by_cases b : i < T.ln (z : Int)
   ·simp only [if_pos b]; exact old i b
   ·simp only [if_neg b]
    refine ⟨by omega,?_⟩
    show (linkT T u v c).tw (mate (T.m + 1)) = z
    rw [m1,tw0]; omega
  ·simp only [if_neg a] at hi ⊢
   by_cases a2 : (z : Int) = (u : Int)
   ·simp only [if_pos a2] at hi ⊢
    by_cases b : i < T.ln (z : Int)
    ·simp only [if_pos b]; exact old i b
    ·simp only [if_neg b]
     refine ⟨by omega,?_⟩
     show (linkT T u v c).tw (mate T.m) = z
     rw [m0,tw1]; omega
   ·simp only [if_neg a2] at hi ⊢
    exact old i hi
 ·rw [hm2] at hk
  by_cases a : k < T.m
  ·obtain ⟨i,b1,b2⟩ := h.lc k a
   rw [twl _ (mate_lt hev a)]
   refine ⟨i,?_,?_⟩
   ·simp only [linkT]; split <;> (try split) <;> omega
   ·simp only [linkT]; rw [if_pos b1,b2]; split <;> (try split) <;> rfl
  ·by_cases b : k = T.m
   ·subst b
    rw [m0,tw1]
    refine ⟨T.ln (u : Int),?_,?_⟩
    ·simp only [linkT]; rw [if_neg (by omega)]; simp
    ·simp only [linkT]; rw [if_neg (by omega)]; simp
   ·obtain rfl : k = T.m + 1 := by omega
    rw [m1,tw0]
    refine ⟨T.ln (v : Int),?_,?_⟩
    ·simp [linkT]
    ·simp [linkT]
 ·have := h.le z
  simp only [linkT]; split <;> (try split) <;> omega
def edgG (A : Nat → Bool) (B : Nat → Nat → Bool) (C : Nat → Bool) (D : Nat → Nat → Bool) (E : Nat → Bool) : Nd → Nd → Bool
 | .src,.sp i => A i
 | .sp i,.hi h => B i h
 | .hi h,.ho h' => decide (h = h') && C h
 | .ho h,.lt j => D h j
 | .lt j,.snk => E j
 | _,_ => false
theorem Knt.adj {N : Nt} {dec : Nat → Nd} {enc : Nd → Nat} {P : Nd → Nd → Bool} {T : KSt} (hC : Cod N dec enc) (h : Knt N dec P T) (hm : T.m < 2000) : Adj N.n T.m T.tw (fun u => T.ln (u : Int)) (fun u => T.ix (u : Int)) where
 ev k hk := mate_lt h.ev hk
 tn := h.tn
 lt u hu i hi := (h.ls u hu i hi).1
 fr u hu i hi := (h.ls u hu i hi).2
 cov := h.lc
 le u hu := by have := h.le (u : Int); omega
 uq k k' hk hk' e1 e2 := by
  have ev := h.ev
  unfold mate at e2
  by_cases a : k % 2 = 0 <;> by_cases b : k' % 2 = 0
  ·rw [if_pos a,if_pos b] at e2; exact h.uq k k' hk hk' a b e1 e2
  ·rw [if_pos a,if_neg b] at e2
   exfalso
   have q1 := (h.on k hk a).1
   have q2 := (h.on (k' - 1) (by omega) (by omega)).1
   rw [show k' - 1 + 1 = k' by omega,← e1,← e2] at q2
   have := h.asy _ _ q1
   rw [this] at q2; cases q2
  ·rw [if_neg a,if_pos b] at e2
   exfalso
   have q1 := (h.on k' hk' b).1
   have q2 := (h.on (k - 1) (by omega) (by omega)).1
   rw [show k - 1 + 1 = k by omega,e1,e2] at q2
   have := h.asy _ _ q1
   rw [this] at q2; cases q2
  ·rw [if_neg a,if_neg b] at e2
   have := h.uq (k - 1) (k' - 1) (by omega) (by omega) (by omega) (by omega) e2 (by rw [show k - 1 + 1 = k by omega,show k' - 1 + 1 = k' by omega]; exact e1)
   omega
theorem Knt.res {N : Nt} {dec : Nat → Nd} {enc : Nd → Nat} {P : Nd → Nd → Bool} {T : KSt} (hC : Cod N dec enc) (h : Knt N dec P T) (hP : ∀ x y,P x y = false → N.cap x y = 0) : Res N.n T.m T.tw T.lf (fun u v => N.cap (dec u) (dec v)) where
 on k hk := by
  have ev := h.ev
  unfold mate
  by_cases a : k % 2 = 0
  ·rw [if_pos a]; exact (h.on k hk a).2.1.symm
  ·rw [if_neg a]
   have q := h.on (k - 1) (by omega) (by omega)
   rw [show k - 1 + 1 = k by omega] at q
   rw [q.2.2]
   exact hP _ _ (h.asy _ _ q.1)
 off u hu v hv hno := hP _ _ (by
  cases hp : P (dec u) (dec v) with
  | false => rfl
  | true =>
   obtain ⟨k,k1,k2,k3,k4⟩ := h.cov _ _ hp
   exfalso
   refine hno k k1 ⟨?_,?_⟩
   ·unfold mate; rw [if_pos k2,← hC.de _ (h.tn (k + 1) (by have := h.ev; omega)),k3,hC.de u hu]
   ·rw [← hC.de _ (h.tn k k1),k4,hC.de v hv])
end Go.Proofs.Ytlapepdhkomijaa
