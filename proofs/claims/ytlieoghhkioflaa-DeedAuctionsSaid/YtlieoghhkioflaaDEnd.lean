/- Ends, plain: sorted and each one once, or the next one again and again. No condition. -/
import Derived.Test.YtlieoghhkioflaaE4
set_option linter.unusedSimpArgs false
set_option linter.unusedVariables false
namespace Go.Proofs.Ytlieoghhkioflaa
theorem rise_ext : ∀ (x y : List Int),x.Pairwise (fun a b => a < b) → y.Pairwise (fun a b => a < b) →
  (∀ i,i ∈ x ↔ i ∈ y) → x = y
 | [],[],_,_,_ => rfl
 | [],b :: y,_,_,h => by have := (h b).2 (List.mem_cons_self ..); simp at this
 | a :: x,[],_,_,h => by have := (h a).1 (List.mem_cons_self ..); simp at this
 | a :: x,b :: y,hx,hy,h => by
   rw [List.pairwise_cons] at hx hy
   have e : a = b := by
    rcases List.mem_cons.1 ((h a).1 (List.mem_cons_self ..)) with q | q
    ·exact q
    ·rcases List.mem_cons.1 ((h b).2 (List.mem_cons_self ..)) with p | p
     ·exact p.symm
     ·have := hy.1 a q; have := hx.1 b p; omega
   subst e
   rw [rise_ext x y hx.2 hy.2]
   intro i
   constructor
   ·intro q
    rcases List.mem_cons.1 ((h i).1 (List.mem_cons_of_mem _ q)) with p | p
    ·subst p; exact absurd (hx.1 _ q) (Int.lt_irrefl _)
    ·exact p
   ·intro q
    rcases List.mem_cons.1 ((h i).2 (List.mem_cons_of_mem _ q)) with p | p
    ·subst p; exact absurd (hy.1 _ q) (Int.lt_irrefl _)
    ·exact p
def nxt (last : Int) : List Int → Int → Int
 | [],nx => nx
 | a :: l,nx => nxt last l (if a > last ∧ a < nx then a else nx)
theorem nxt_spec (last : Int) : ∀ (l : List Int) (nx : Int),last < nx →
  last < nxt last l nx ∧ nxt last l nx ≤ nx ∧ (nxt last l nx = nx ∨ nxt last l nx ∈ l) ∧
  ∀ a,a ∈ l → last < a → nxt last l nx ≤ a
 | [],nx,h => by simp [nxt,h]
 | a :: l,nx,h => by
   rw [nxt]
   by_cases c : a > last ∧ a < nx
   ·rw [if_pos c]
    obtain ⟨h1,h2,h3,h4⟩ := nxt_spec last l a c.1
    refine ⟨h1,by omega,?_,?_⟩
    ·right
     rcases h3 with h3 | h3
     ·rw [h3]; exact List.mem_cons_self ..
     ·exact List.mem_cons_of_mem _ h3
    ·intro x hx hl
     rcases List.mem_cons.1 hx with rfl | hx
     ·exact h2
     ·exact h4 x hx hl
   ·rw [if_neg c]
    obtain ⟨h1,h2,h3,h4⟩ := nxt_spec last l nx h
    refine ⟨h1,h2,?_,?_⟩
    ·rcases h3 with h3 | h3
     ·exact Or.inl h3
     ·exact Or.inr (List.mem_cons_of_mem _ h3)
    ·intro x hx hl
     rcases List.mem_cons.1 hx with rfl | hx
     ·omega
     ·exact h4 x hx hl
def endsB (all : List Int) (hi : Int) : Nat → Int → List Int → List Int
 | 0,_,out => out
 | f + 1,last,out => if last < hi then endsB all hi f (nxt last all hi) (out ++ [nxt last all hi]) else out
theorem ends_spec (all : List Int) (hi : Int) (hh : hi ∈ all) (hin : ∀ a,a ∈ all → a ≤ hi) :
  ∀ (f : Nat) (last : Int) (out : List Int),(hi - last).toNat ≤ f → last ≤ hi →
  out.Pairwise (fun a b => a < b) → (∀ x,x ∈ out ↔ x ∈ all ∧ x ≤ last) →
  (endsB all hi f last out).Pairwise (fun a b => a < b) ∧ ∀ x,x ∈ endsB all hi f last out ↔ x ∈ all
 | 0,last,out,hf,hl,hp,hm => by
   have : last = hi := by omega
   subst this
   refine ⟨hp,fun x => ?_⟩
   rw [endsB,hm]
   exact ⟨fun q => q.1,fun q => ⟨q,hin x q⟩⟩
 | f + 1,last,out,hf,hl,hp,hm => by
   rw [endsB]
   by_cases c : last < hi
   ·rw [if_pos c]
    obtain ⟨h1,h2,h3,h4⟩ := nxt_spec last all hi c
    have hmem : nxt last all hi ∈ all := by
     rcases h3 with h3 | h3
     ·rw [h3]; exact hh
     ·exact h3
    refine ends_spec all hi hh hin f _ _ (by omega) h2 ?_ ?_
    ·rw [List.pairwise_append]
     refine ⟨hp,List.pairwise_singleton _ _,?_⟩
     intro a ha b hb
     have hb := List.mem_singleton.1 hb
     have := ((hm a).1 ha).2
     subst hb; omega
    ·intro x
     rw [List.mem_append,hm,List.mem_singleton]
     constructor
     ·rintro (⟨q,r⟩ | rfl)
      ·exact ⟨q,by omega⟩
      ·exact ⟨hmem,Int.le_refl _⟩
     ·rintro ⟨q,r⟩
      by_cases z : x ≤ last
      ·exact Or.inl ⟨q,z⟩
      ·have := h4 x q (by omega)
       exact Or.inr (by omega)
   ·rw [if_neg c]
    have : last = hi := by omega
    subst this
    refine ⟨hp,fun x => ?_⟩
    rw [hm]
    exact ⟨fun q => q.1,fun q => ⟨q,hin x q⟩⟩
end Go.Proofs.Ytlieoghhkioflaa
