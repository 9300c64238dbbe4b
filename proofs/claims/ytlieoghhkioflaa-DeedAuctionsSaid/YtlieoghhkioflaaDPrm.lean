/- Prices, plain: the map of the greatest sums is what the trials of all sets give. No condition. -/
import Derived.Test.YtlieoghhkioflaaDTop
import Derived.Test.YtlieoghhkioflaaDPrv
set_option linter.unusedSimpArgs false
set_option linter.unusedVariables false
namespace Go.Proofs.Ytlieoghhkioflaa
def mpT (F T V : Nat → Int) (n : Nat) (E : Nat → Int) : Nat → Int → Int
 | 0,_ => 0
 | i + 1,k => if k = E (i + 1) then tp T V (E (i + 1)) (fun b => mpT F T V n E i (F b)) (mpT F T V n E i (E i)) n
   else mpT F T V n E i k
theorem mpT_top (F T V : Nat → Int) (n : Nat) (E : Nat → Int) (m : Nat) (h : ∀ j,j < m → E j < E (j + 1))
  (hF : ∀ b,b < n → F b < T b) (hFe : ∀ b,b < n → ∃ a,a ≤ m ∧ F b = E a) (hTe : ∀ b,b < n → ∃ a,a ≤ m ∧ T b = E a) :
  ∀ i,i ≤ m → ∀ a,a ≤ i → IsTop F T V n (E a) (mpT F T V n E i (E a))
 | 0,_,a,ha => by
   have : a = 0 := by omega
   subst this
   refine top_none F T V n _ fun b hb => ?_
   obtain ⟨a,ha,e⟩ := hFe b hb
   have := (rise_le E m h (show 0 ≤ m by omega) ha).2 (by omega)
   have := hF b hb
   omega
 | i + 1,hi,a,ha => by
   have ih := mpT_top F T V n E m h hF hFe hTe i (by omega)
   by_cases e : a = i + 1
   ·subst e
    rw [mpT,if_pos rfl]
    have hlt := h i (by omega)
    refine top_step F T V n (E i) (E (i + 1)) _ _ (by omega) hF (ih i (Nat.le_refl _)) ?_ ?_
    ·intro b hb hT
     obtain ⟨a,ha,e⟩ := hFe b hb
     have := hF b hb
     have hai : ¬ i + 1 ≤ a := fun z => by
      have := (rise_le E m h hi ha).2 z; omega
     have := ih a (by omega)
     rw [e]; exact this
    ·intro b hb hT
     obtain ⟨a,ha,e⟩ := hTe b hb
     have q := (rise_le E m h ha hi).1 (by omega)
     by_cases z : a = i + 1
     ·subst z; exact Or.inr e
     ·left
      have := (rise_le E m h ha (show i ≤ m by omega)).2 (by omega)
      omega
   ·have : ¬ E a = E (i + 1) := fun z => e (rise_inj E m h (by omega) hi z)
    rw [mpT,if_neg this]
    exact ih a (by omega)
theorem price_same (F T V : Nat → Int) (n : Nat) (E : Nat → Int) (m : Nat) (h : ∀ j,j < m → E j < E (j + 1))
  (hF : ∀ b,b < n → F b < T b) (hFe : ∀ b,b < n → ∃ a,a ≤ m ∧ F b = E a) (hTe : ∀ b,b < n → ∃ a,a ≤ m ∧ T b = E a)
  (i : Nat) (hi : i ≤ m) (a : Nat) (ha : a ≤ i) :
  mpT F T V n E i (E a) = (allS n (valL V) (sAt F T (E a))).2 :=
 (mpT_top F T V n E m h hF hFe hTe i hi a ha).uniq F T V n (allS_top F T V n (E a))
end Go.Proofs.Ytlieoghhkioflaa
