/- Prices, plain: the greatest sum until each end, round by round. No condition. -/
import Derived.Test.YtlieoghhkioflaaE4
set_option linter.unusedSimpArgs false
set_option linter.unusedVariables false
namespace Go.Proofs.Ytlieoghhkioflaa
def vS (V : Nat → Int) (c : Nat → Bool) : Nat → Int
 | 0 => 0
 | n + 1 => vS V c n + if c n then V n else 0
theorem vS_congr (V : Nat → Int) (c d : Nat → Bool) : ∀ n,(∀ i,i < n → c i = d i) → vS V c n = vS V d n
 | 0,_ => rfl
 | n + 1,h => by rw [vS,vS,vS_congr V c d n (fun i hi => h i (by omega)),h n (by omega)]
theorem vS_none (V : Nat → Int) (c : Nat → Bool) : ∀ n,(∀ i,i < n → c i = false) → vS V c n = 0
 | 0,_ => rfl
 | n + 1,h => by rw [vS,vS_none V c n (fun i hi => h i (by omega)),h n (by omega)]; rfl
theorem vS_add (V : Nat → Int) (c d : Nat → Bool) (b : Nat) (hb : c b = false) (hd : d b = true)
  (h : ∀ i,i ≠ b → d i = c i) : ∀ n,b < n → vS V d n = vS V c n + V b
 | 0,q => by omega
 | n + 1,q => by
   by_cases e : b = n
   ·subst e
    rw [vS,vS,vS_congr V d c b (fun i hi => h i (by omega)),hb,hd]; simp
   ·rw [vS,vS,vS_add V c d b hb hd h n (by omega),h n (fun z => e z.symm)]; omega
theorem vS_list (V : Nat → Int) (c : Nat → Bool) : ∀ n,(((List.range n).filter c).map V).sum = vS V c n
 | 0 => rfl
 | n + 1 => by
   rw [List.range_succ,List.filter_append,List.map_append,List.sum_append,vS_list V c n,vS]
   by_cases h : c n = true <;> simp [h]
variable (F T V : Nat → Int) (n : Nat)
structure GoodB (x : Int) (c : Nat → Bool) : Prop where
 end_ : ∀ i,i < n → c i = true → T i ≤ x
 apart : ∀ i k,i < n → k < n → c i = true → c k = true → i ≠ k → T i ≤ F k ∨ T k ≤ F i
structure IsTop (x m : Int) : Prop where
 ex : ∃ c,GoodB F T n x c ∧ vS V c n = m
 le : ∀ c,GoodB F T n x c → vS V c n ≤ m
theorem IsTop.uniq {x m k : Int} (h : IsTop F T V n x m) (g : IsTop F T V n x k) : m = k := by
 obtain ⟨c,hc,rfl⟩ := h.ex
 obtain ⟨d,hd,rfl⟩ := g.ex
 have := h.le d hd; have := g.le c hc; omega
theorem top_none (x : Int) (h : ∀ i,i < n → x < T i) : IsTop F T V n x 0 := by
 have key : ∀ c,GoodB F T n x c → vS V c n = 0 := by
  intro c hc
  refine vS_none V c n fun i hi => ?_
  cases q : c i with
  | false => rfl
  | true => have := hc.end_ i hi q; have := h i hi; omega
 refine ⟨⟨fun _ => false,⟨by simp,by simp⟩,vS_none V _ n (by simp)⟩,fun c hc => ?_⟩
 rw [key c hc]; exact Int.le_refl _
def tp (x : Int) (g : Nat → Int) (m0 : Int) : Nat → Int
 | 0 => m0
 | k + 1 => if T k = x then max (tp x g m0 k) (g k + V k) else tp x g m0 k
theorem tp_ge (x : Int) (g : Nat → Int) (m0 : Int) : ∀ k,m0 ≤ tp T V x g m0 k
 | 0 => Int.le_refl _
 | k + 1 => by
   have := tp_ge x g m0 k
   rw [tp]; split <;> omega
theorem tp_bid (x : Int) (g : Nat → Int) (m0 : Int) : ∀ k b,b < k → T b = x → g b + V b ≤ tp T V x g m0 k
 | 0,b,h,_ => by omega
 | k + 1,b,h,e => by
   by_cases q : b = k
   ·subst q; rw [tp,if_pos e]; omega
   ·have := tp_bid x g m0 k b (by omega) e
    rw [tp]; split <;> omega
theorem tp_is (x : Int) (g : Nat → Int) (m0 : Int) : ∀ k,tp T V x g m0 k = m0 ∨ ∃ b,b < k ∧ T b = x ∧ tp T V x g m0 k = g b + V b
 | 0 => Or.inl rfl
 | k + 1 => by
   rw [tp]
   split
   ·rename_i e
    by_cases q : tp T V x g m0 k ≤ g k + V k
    ·exact Or.inr ⟨k,by omega,e,by omega⟩
    ·rcases tp_is x g m0 k with h | ⟨b,h1,h2,h3⟩
     ·left; omega
     ·exact Or.inr ⟨b,by omega,h2,by omega⟩
   ·rcases tp_is x g m0 k with h | ⟨b,h1,h2,h3⟩
    ·exact Or.inl h
    ·exact Or.inr ⟨b,by omega,h2,h3⟩
theorem top_step (e x : Int) (g : Nat → Int) (m0 : Int) (hex : e ≤ x)
  (hF : ∀ i,i < n → F i < T i)
  (he : IsTop F T V n e m0)
  (hb : ∀ b,b < n → T b = x → IsTop F T V n (F b) (g b))
  (hn : ∀ b,b < n → T b ≤ x → T b ≤ e ∨ T b = x) :
  IsTop F T V n x (tp T V x g m0 n) := by
 constructor
 ·rcases tp_is T V x g m0 n with h | ⟨b,h1,h2,h3⟩
  ·obtain ⟨c,hc,hv⟩ := he.ex
   exact ⟨c,⟨fun i hi q => by have := hc.end_ i hi q; omega,hc.apart⟩,by rw [h]; exact hv⟩
  ·obtain ⟨c,hc,hv⟩ := (hb b h1 h2).ex
   have hF' := hF b h1
   have hcb : c b = false := by
    cases q : c b with
    | false => rfl
    | true => have := hc.end_ b h1 q; omega
   refine ⟨fun i => c i || decide (i = b),⟨?_,?_⟩,?_⟩
   ·intro i hi q
    simp only [Bool.or_eq_true,decide_eq_true_eq] at q
    rcases q with q | rfl
    ·have := hc.end_ i hi q; omega
    ·omega
   ·intro i k hi hk q r hik
    simp only [Bool.or_eq_true,decide_eq_true_eq] at q r
    rcases q with q | rfl
    ·rcases r with r | rfl
     ·exact hc.apart i k hi hk q r hik
     ·exact Or.inl (hc.end_ i hi q)
    ·rcases r with r | rfl
     ·exact Or.inr (hc.end_ k hk r)
     ·exact absurd rfl hik
   ·rw [vS_add V c _ b hcb (by simp) (fun i hi => by simp [hi]) n h1,hv,h3]
 ·intro c hc
  by_cases h : ∃ b,b < n ∧ c b = true ∧ T b = x
  ·obtain ⟨b,h1,h2,h3⟩ := h
   have hd : GoodB F T n (F b) (fun i => c i && !decide (i = b)) := by
    constructor
    ·intro i hi q
     simp only [Bool.and_eq_true,Bool.not_eq_true',decide_eq_false_iff_not] at q
     have := hF i hi
     have := hc.end_ i hi q.1
     rcases hc.apart i b hi h1 q.1 h2 q.2 with z | z <;> omega
    ·intro i k hi hk q r hik
     simp only [Bool.and_eq_true] at q r
     exact hc.apart i k hi hk q.1 r.1 hik
   have := (hb b h1 h3).le _ hd
   have := tp_bid T V x g m0 n b h1 h3
   have := vS_add V (fun i => c i && !decide (i = b)) c b (by simp) h2 (fun i hi => by simp [hi]) n h1
   omega
  ·have hd : GoodB F T n e c := by
    refine ⟨fun i hi q => ?_,hc.apart⟩
    rcases hn i hi (hc.end_ i hi q) with z | z
    ·exact z
    ·exact absurd ⟨i,hi,q,z⟩ h
   have := he.le c hd
   have := tp_ge T V x g m0 n
   omega
end Go.Proofs.Ytlieoghhkioflaa
