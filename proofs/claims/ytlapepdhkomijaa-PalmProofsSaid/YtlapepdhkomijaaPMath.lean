/- Palms: works, hours and lots that will do. No condition. -/
import Derived.Test.YtlapepdhkomijaaPTy
import Derived.Test.YtlapepdhkomijaaPNet2
import Derived.Test.YtlapepdhkomijaaACode1
set_option linter.unusedSimpArgs false
set_option linter.unusedVariables false
namespace Go.Proofs.Ytlapepdhkomijaa
open Go Go.RowKit
def takesF (w : Wk) (i h : Nat) : Bool := decide (w.hours.2 h ≥ (w.spathes.2 i).cracks.hi ∧ w.hours.2 h < (w.spathes.2 i).cracks.lo + w.opn)
def goodF (w : Wk) (h j : Nat) : Bool := decide (w.hours.2 h ≥ (w.lots.2 j).fro ∧ w.hours.2 h < (w.lots.2 j).til)
structure WkB (w : Wk) : Prop where
 s : w.spathes.1 ≤ 8
 h : w.hours.1 ≤ 16
 l : w.lots.1 ≤ 4
 o : 0 ≤ w.opn ∧ w.opn ≤ 500
 c : ∀ i,i < w.spathes.1 → 0 ≤ (w.spathes.2 i).cracks.lo ∧ (w.spathes.2 i).cracks.lo ≤ 1000000
 u : ∀ j,j < w.lots.1 → 0 ≤ (w.lots.2 j).units ∧ (w.lots.2 j).units ≤ 100
def ntF (w : Wk) (first : Nat) (fr : Nat → Bool) (un : Nat → Int) : Nt := ⟨w.spathes.1,w.hours.1,w.lots.1,first,takesF w,goodF w,fr,fun _ => true,fun j => if j < w.lots.1 then un j else 0⟩
theorem decP_and (p q : Prop) [Decidable p] [Decidable q] : decide (p ∧ q) = (decide p && decide q) := by by_cases p <;> by_cases q <;> simp [*]
theorem chkFam_mat {N D : Bn → Prop} {bx : Bx} {F n : Nat} {e : TypeId} {R' : Nat → Nat → Int} (h : ∀ z : Nat,z < n → ∃ c,bget bx (.f F z) = some (.row e 1 n c) ∧ ∀ i,i < n → c i 0 = .int .i64 (R' z i)) : chkFam N D bx F (fun z => decide (0 ≤ z ∧ z < (n : Int))) (fun z => .row e 1 n fun b _ => .int .i64 (R' z.toNat b)) := by
 refine chkFam_row (c' := fun z b _ => .int .i64 (R' z.toNat b)) fun z hz => ?_
 have := of_decide_eq_true hz
 obtain ⟨m,rfl⟩ : ∃ m : Nat,z = m := ⟨z.toNat,by omega⟩
 obtain ⟨c,h1,h2⟩ := h m (by omega)
 refine ⟨c,h1,fun i hi j hj => ?_⟩
 obtain rfl : j = 0 := by omega
 rw [h2 i hi,Int.toNat_natCast,vsubP_self]; trivial
def capG (A : Nat → Bool) (B : Nat → Nat → Bool) (C : Nat → Bool) (D : Nat → Nat → Bool) (E : Nat → Int) : Nd → Nd → Int
 | .src,.sp i => if A i then 1 else 0
 | .sp i,.hi h => if B i h then 1 else 0
 | .hi h,.ho h' => if h = h' ∧ C h = true then 1 else 0
 | .ho h,.lt j => if D h j then 1 else 0
 | .lt j,.snk => E j
 | _,_ => 0
def setR (R : Nat → Nat → Int) (u v : Nat) (x : Int) : Nat → Nat → Int := fun a b => if a = u ∧ b = v then x else R a b
theorem chkFam_matS {N D : Bn → Prop} {bx : Bx} {F n : Nat} {e : TypeId} {R : Nat → Nat → Int} (u v : Nat) (x U : Int) (hU : U = (u : Int)) (h : ∀ z : Nat,z < n → bget bx (.f F z) = (if (if (z : Int) = U then true else decide (0 ≤ (z : Int) ∧ (z : Int) < (n : Int))) = true then some (if (z : Int) = U then .row e 1 n (fun i' j' => if i' = v ∧ 0 ≤ j' ∧ j' < 1 then vget (.cons (.int .i64 x) .nil) j' else .int .i64 (R u i')) else .row e 1 n fun b _ => .int .i64 (R z b)) else none)) : chkFam N D bx F (fun z => decide (0 ≤ z ∧ z < (n : Int))) (fun z => .row e 1 n fun b _ => .int .i64 (setR R u v x z.toNat b)) := by
 subst hU
 refine chkFam_mat fun z hz => ?_
 rw [h z hz]
 by_cases ez : z = u
 ·subst ez
  refine ⟨_,by rw [if_pos (by simp),if_pos rfl],fun i hi => ?_⟩
  unfold setR
  by_cases ei : i = v
  ·subst ei; simp [vget]
  ·simp [ei]
 ·have ez' : ¬ ((z : Int) = (u : Int)) := by omega
  refine ⟨_,by rw [if_neg ez',if_pos (by simp; omega),if_neg ez'],fun i hi => ?_⟩
  unfold setR
  simp [ez]
theorem dset {n U z : Int} (h0 : 0 ≤ U) (h1 : U < n) (h : (if z = U then true else decide (0 ≤ z ∧ z < n)) = true) : 0 ≤ z ∧ z < n := by
 split at h
 ·omega
 ·exact of_decide_eq_true h
theorem if01 {P Q R : Prop} [Decidable P] [Decidable Q] [Decidable R] (h : P ↔ Q ∨ R) : (if P then (1 : Int) else 0) = if Q then 1 else if R then 1 else 0 := by
 by_cases q : Q
 ·rw [if_pos q,if_pos (h.2 (.inl q))]
 ·rw [if_neg q]
  by_cases r : R
  ·rw [if_pos r,if_pos (h.2 (.inr r))]
  ·rw [if_neg r,if_neg fun p => (h.1 p).elim q r]
theorem if00 {P Q : Prop} [Decidable P] [Decidable Q] (h : P ↔ Q) : (if P then (1 : Int) else 0) = if Q then 1 else 0 := by
 by_cases q : Q
 ·rw [if_pos q,if_pos (h.2 q)]
 ·rw [if_neg q,if_neg fun p => q (h.1 p)]
theorem Pla.size_le (g : Pla) : ∀ S : Nat,Pla.size g S ≤ S := by
 intro S
 unfold Pla.size
 induction S with
 | zero => exact Int.le_refl _
 | succ S ih => simp only [sumN]; split <;> omega
def AllB (P : Bn → Box → Prop) : Bx → Prop
 | [] => True
 | (b,.one c) :: l => P (.n b) c ∧ AllB P l
 | (b,.fam d r) :: l => (∀ z,d z = true → P (.f b z) (r z)) ∧ AllB P l
theorem AllB.get {P : Bn → Box → Prop} : ∀ {bx : Bx},AllB P bx → ∀ b c,bget bx b = some c → P b c
 | [],_,b,c,hb => by cases hb
 | (b',.one c') :: l,h,.n m,c,hb => by
  obtain ⟨h1,h2⟩ := h
  simp only [bget] at hb
  split at hb
  ·rename_i e; cases hb; subst e; exact h1
  ·exact h2.get _ _ hb
 | (b',.one c') :: l,h,.f m z,c,hb => by
  obtain ⟨h1,h2⟩ := h
  exact h2.get _ _ (by simpa only [bget] using hb)
 | (b',.fam d r) :: l,h,.n m,c,hb => by
  obtain ⟨h1,h2⟩ := h
  exact h2.get _ _ (by simpa only [bget] using hb)
 | (b',.fam d r) :: l,h,.f m z,c,hb => by
  obtain ⟨h1,h2⟩ := h
  simp only [bget] at hb
  split at hb
  ·rename_i e; cases hb; obtain ⟨rfl,e⟩ := e; exact h1 z e
  ·exact h2.get _ _ hb
theorem chkG_all {bx0 bx1 bx' : Bx} {nx nx' : Nat} {fr1 fr' : Fr} (hn : nx ≤ nx') (hfr : chkFr (newIn bx1 bx') (hasB bx') fr1 fr') (hbox : AllB (fun b c' => (bget bx0 b = some c' ∧ bget bx1 b = some c') ∨ chkBx1 (newIn bx1 bx') (hasB bx') (bget bx1 b) c') bx')
  (hid : AllB (fun b _ => (∃ c,bget bx0 b = some c) ∨ b.id < nx') bx') (hk : AllB (fun b _ => ∀ c1,bget bx1 b = some c1 → ∃ c',bget bx' b = some c' ∧ Kin c1 c') bx0) : ChkG bx0 nx fr1 bx1 fr' bx' nx' :=
 ⟨none,trivial,hn,hfr,hbox.get,hid.get,fun b c0 c1 h0 h1 => hk.get b c0 h0 c1 h1⟩
def MatIs (n : Nat) (dec : Nat → Nd) (R : Nat → Nat → Int) (c : Nd → Nd → Int) : Prop := ∀ a,a < n → ∀ b,b < n → R a b = c (dec a) (dec b)
theorem MatIs.set {N : Nt} {dec : Nat → Nd} {enc : Nd → Nat} (hC : Cod N dec enc) {R : Nat → Nat → Int} {c c' : Nd → Nd → Int} {v : Int} (h : MatIs N.n dec R c) {x y : Nd} (hx : N.ok x) (hy : N.ok y) (hc : ∀ p q,c' p q = if p = x ∧ q = y then v else c p q) : MatIs N.n dec (setR R (enc x) (enc y) v) c' := by
 intro a ha b hb
 unfold setR
 rw [hc]
 by_cases e : a = enc x ∧ b = enc y
 ·rw [if_pos e,if_pos ⟨by rw [e.1]; exact (hC.ed x hx).2,by rw [e.2]; exact (hC.ed y hy).2⟩]
 ·rw [if_neg e,if_neg fun ⟨h1,h2⟩ => e ⟨by rw [← h1]; exact (hC.de a ha).symm,by rw [← h2]; exact (hC.de b hb).symm⟩]
  exact h a ha b hb
theorem MatIs.same {n : Nat} {dec : Nat → Nd} {R : Nat → Nat → Int} {c c' : Nd → Nd → Int} (h : MatIs n dec R c) (hc : ∀ p q,c' p q = c p q) : MatIs n dec R c' := fun a ha b hb => by rw [hc]; exact h a ha b hb
theorem inv_renM {ι : Type} {Pi : ι → Prop} {μ : ι → Nat} {sl : ι → Fr} {bs : ι → Bx} {m : Nat} {ns : List Nat} {fr1 : Fr} {bx0 bx1 : Bx} {nx nx' : Nat} (la : List (Bn × Bn)) (j : ι) (hl : ∀ p ∈ la,∀ n ∈ ns,n ≤ p.1.id) (hj : Pi j) (hm : μ j < m) (hc : match rens la (fr1,bx1) with | some (fr2,bx2) => Chk fr2 bx2 (sl j) (bs j) nx nx' | none => False) :
  ∃ m',m' < m ∧ ∃ fr'' bx'',LoopT Pi μ sl bs m' fr'' bx'' ∧ ChkL ns bx0 fr1 bx1 fr'' bx'' nx nx' := by
 split at hc
 ·rename_i fr2 bx2 h; exact inv_ren la j h hl hj hm hc
 ·exact hc.elim
end Go.Proofs.Ytlapepdhkomijaa
