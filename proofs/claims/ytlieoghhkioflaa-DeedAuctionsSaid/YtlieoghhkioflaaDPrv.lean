/- Prices that prove, plain: the map of what all costs until an end, and the prices one by one. No condition. -/
import Derived.Test.YtlieoghhkioflaaE4
set_option linter.unusedSimpArgs false
set_option linter.unusedVariables false
namespace Go.Proofs.Ytlieoghhkioflaa
def pre (P : Nat → Int) : Nat → Int
 | 0 => 0
 | j + 1 => pre P j + P j
theorem rise_lt (E : Nat → Int) (m : Nat) (h : ∀ j,j < m → E j < E (j + 1)) (a : Nat) : ∀ b,a < b → b ≤ m → E a < E b
 | 0,q,_ => by omega
 | b + 1,q,hb => by
   have := h b (by omega)
   by_cases e : a = b
   ·subst e; exact this
   ·have := rise_lt E m h a b (by omega) (by omega); omega
theorem rise_le (E : Nat → Int) (m : Nat) (h : ∀ j,j < m → E j < E (j + 1)) {a b : Nat} (ha : a ≤ m) (hb : b ≤ m) :
  E a ≤ E b ↔ a ≤ b := by
 constructor
 ·intro q
  apply Nat.not_lt.1
  intro z
  have := rise_lt E m h b a z ha; omega
 ·intro q
  rcases Nat.lt_or_eq_of_le q with z | rfl
  ·have := rise_lt E m h a b z hb; omega
  ·exact Int.le_refl _
theorem rise_inj (E : Nat → Int) (m : Nat) (h : ∀ j,j < m → E j < E (j + 1)) {a b : Nat} (ha : a ≤ m) (hb : b ≤ m)
  (e : E a = E b) : a = b := by
 have h1 := (rise_le E m h ha hb).1 (by omega)
 have h2 := (rise_le E m h hb ha).1 (by omega)
 omega
def unt (E P : Nat → Int) : Nat → Int → Option Int
 | 0,k => if k = E 0 then some 0 else none
 | j + 1,k => if k = E (j + 1) then some ((unt E P j (E j)).getD 0 + P j) else unt E P j k
theorem unt_at (E P : Nat → Int) : ∀ j,unt E P j (E j) = some (pre P j)
 | 0 => by simp [unt,pre]
 | j + 1 => by rw [unt,if_pos rfl,unt_at E P j]; rfl
theorem unt_some (E P : Nat → Int) (m : Nat) (h : ∀ j,j < m → E j < E (j + 1)) :
  ∀ j,j ≤ m → ∀ a,a ≤ j → unt E P j (E a) = some (pre P a)
 | 0,_,a,ha => by
   have : a = 0 := by omega
   subst this; simp [unt,pre]
 | j + 1,hj,a,ha => by
   by_cases e : a = j + 1
   ·subst e; exact unt_at E P _
   ·have : ¬ E a = E (j + 1) := fun z => e (rise_inj E m h (by omega) hj z)
    rw [unt,if_neg this,unt_some E P m h j (by omega) a (by omega)]
theorem unt_none (E P : Nat → Int) (k : Int) : ∀ j,(∀ a,a ≤ j → k ≠ E a) → unt E P j k = none
 | 0,h => by rw [unt,if_neg (h 0 (Nat.le_refl _))]
 | j + 1,h => by rw [unt,if_neg (h _ (Nat.le_refl _)),unt_none E P k j (fun a ha => h a (by omega))]
def cst (E P : Nat → Int) (F T : Int) : Nat → Int
 | 0 => 0
 | i + 1 => cst E P F T i + if F ≤ E i ∧ E (i + 1) ≤ T then P i else 0
theorem cst_pre (E P : Nat → Int) (m : Nat) (h : ∀ j,j < m → E j < E (j + 1)) (a b : Nat) (hab : a ≤ b) (hb : b ≤ m) :
  ∀ i,i ≤ m → cst E P (E a) (E b) i = pre P (min i b) - pre P (min i a)
 | 0,_ => by simp [cst,pre]
 | i + 1,hi => by
   rw [cst,cst_pre E P m h a b hab hb i (by omega)]
   simp only [rise_le E m h (show a ≤ m by omega) (show i ≤ m by omega),rise_le E m h hi hb]
   by_cases h1 : a ≤ i
   ·by_cases h2 : i + 1 ≤ b
    ·rw [if_pos ⟨h1,h2⟩]
     have e1 : min i b = i := by omega
     have e2 : min (i + 1) b = i + 1 := by omega
     have e3 : min i a = a := by omega
     have e4 : min (i + 1) a = a := by omega
     rw [e1,e2,e3,e4,pre]; omega
    ·rw [if_neg (fun z => h2 z.2)]
     have e1 : min i b = b := by omega
     have e2 : min (i + 1) b = b := by omega
     have e3 : min i a = a := by omega
     have e4 : min (i + 1) a = a := by omega
     rw [e1,e2,e3,e4]; omega
   ·rw [if_neg (fun z => h1 z.1)]
    have e1 : min i b = i := by omega
    have e2 : min (i + 1) b = i + 1 := by omega
    have e3 : min i a = i := by omega
    have e4 : min (i + 1) a = i + 1 := by omega
    rw [e1,e2,e3,e4]; omega
theorem bid_same (E P : Nat → Int) (m : Nat) (h : ∀ j,j < m → E j < E (j + 1)) (F T B : Int)
  (hF : E 0 ≤ F) (hFT : F < T) (hT : T ≤ E m) :
  ((unt E P m F).isSome = true ∧ (unt E P m T).isSome = true ∧ B ≤ (unt E P m T).getD 0 - (unt E P m F).getD 0) ↔
  ((∃ i,i < m ∧ E i = F) ∧ (∃ i,i < m ∧ E (i + 1) = T) ∧ B ≤ cst E P F T m) := by
 by_cases hf : ∃ a,a ≤ m ∧ F = E a
 ·obtain ⟨a,ha,rfl⟩ := hf
  by_cases ht : ∃ b,b ≤ m ∧ T = E b
  ·obtain ⟨b,hb,rfl⟩ := ht
   have hab : ¬ b ≤ a := fun z => by
    have := (rise_le E m h hb ha).2 z; omega
   rw [unt_some E P m h m (Nat.le_refl _) a ha,unt_some E P m h m (Nat.le_refl _) b hb,
    cst_pre E P m h a b (by omega) hb m (Nat.le_refl _)]
   have e1 : min m b = b := by omega
   have e2 : min m a = a := by omega
   rw [e1,e2]
   constructor
   ·rintro ⟨_,_,q⟩
    exact ⟨⟨a,by omega,rfl⟩,⟨b - 1,by omega,by rw [show b - 1 + 1 = b by omega]⟩,q⟩
   ·rintro ⟨_,_,q⟩
    exact ⟨rfl,rfl,q⟩
  ·have : unt E P m T = none := unt_none E P T m fun a ha e => ht ⟨a,ha,e⟩
   rw [this]
   constructor
   ·rintro ⟨_,q,_⟩; cases q
   ·rintro ⟨_,⟨i,hi,e⟩,_⟩; exact absurd ⟨i + 1,by omega,e.symm⟩ ht
 ·have : unt E P m F = none := unt_none E P F m fun a ha e => hf ⟨a,ha,e⟩
  rw [this]
  constructor
  ·rintro ⟨q,_⟩; cases q
  ·rintro ⟨⟨i,hi,e⟩,_⟩; exact absurd ⟨i,by omega,e.symm⟩ hf
end Go.Proofs.Ytlieoghhkioflaa
