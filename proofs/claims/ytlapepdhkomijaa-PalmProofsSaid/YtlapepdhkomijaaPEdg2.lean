/- Edges of a net, in the order in which they are linked. No condition. -/
import Derived.Test.YtlapepdhkomijaaPEdg
import Derived.Test.YtlapepdhkomijaaPMath
set_option linter.unusedSimpArgs false
set_option linter.unusedVariables false
namespace Go.Proofs.Ytlapepdhkomijaa
open Go Go.RowKit
def ntP (w : Wk) (first : Nat) (tk : Nat → Bool) (us : Nat → Int) : Nt := ⟨w.spathes.1,w.hours.1,w.lots.1,first,takesF w,goodF w,fun h => !tk h,fun h => !tk h,fun j => if j < w.lots.1 then (w.lots.2 j).units - us j else 0⟩
def P1 (w : Wk) (first j : Nat) : Nd → Nd → Bool := edgG (fun i => decide (first ≤ i ∧ i < j)) (fun i h => decide (first ≤ i ∧ i < j ∧ h < w.hours.1 ∧ takesF w i h = true)) (fun _ => false) (fun _ _ => false) (fun _ => false)
def P2 (w : Wk) (first j k : Nat) : Nd → Nd → Bool := edgG (fun i => decide (first ≤ i ∧ i < j + 1)) (fun i h => decide ((first ≤ i ∧ i < j ∧ h < w.hours.1 ∧ takesF w i h = true) ∨ (i = j ∧ h < k ∧ takesF w i h = true))) (fun _ => false) (fun _ _ => false) (fun _ => false)
def P3 (w : Wk) (first : Nat) (tk : Nat → Bool) (k : Nat) : Nd → Nd → Bool := edgG (fun i => decide (first ≤ i ∧ i < w.spathes.1)) (fun i h => decide (first ≤ i ∧ i < w.spathes.1 ∧ h < w.hours.1 ∧ takesF w i h = true)) (fun h => decide (h < k ∧ tk h = false)) (fun h q => decide (h < k ∧ tk h = false ∧ q < w.lots.1 ∧ goodF w h q = true)) (fun _ => false)
def P4 (w : Wk) (first : Nat) (tk : Nat → Bool) (k r : Nat) : Nd → Nd → Bool := edgG (fun i => decide (first ≤ i ∧ i < w.spathes.1)) (fun i h => decide (first ≤ i ∧ i < w.spathes.1 ∧ h < w.hours.1 ∧ takesF w i h = true)) (fun h => decide (h < k + 1 ∧ tk h = false)) (fun h q => decide ((h < k ∧ tk h = false ∧ q < w.lots.1 ∧ goodF w h q = true) ∨ (h = k ∧ q < r ∧ goodF w h q = true))) (fun _ => false)
def P5 (w : Wk) (first : Nat) (tk : Nat → Bool) (r : Nat) : Nd → Nd → Bool := edgG (fun i => decide (first ≤ i ∧ i < w.spathes.1)) (fun i h => decide (first ≤ i ∧ i < w.spathes.1 ∧ h < w.hours.1 ∧ takesF w i h = true)) (fun h => decide (h < w.hours.1 ∧ tk h = false)) (fun h q => decide (h < w.hours.1 ∧ tk h = false ∧ q < w.lots.1 ∧ goodF w h q = true)) (fun j => decide (j < r))
theorem ifb1 {P Q R : Prop} [Decidable P] [Decidable Q] [Decidable R] (h : P ↔ Q ∨ R) : decide P = if Q then true else decide R := by
 by_cases q : Q
 ·rw [if_pos q]; exact decide_eq_true (h.2 (.inl q))
 ·rw [if_neg q]; exact decide_eq_decide.2 ⟨fun p => (h.1 p).resolve_left q,fun r => h.2 (.inr r)⟩
section
variable {w : Wk} {first j k r : Nat} {tk : Nat → Bool}
theorem P1_0 (hf : j ≤ first) (x y : Nd) : P1 w first j x y = false := by
 cases x <;> cases y <;> simp only [P1,edgG] <;> try rfl
 ·exact decide_eq_false (by omega)
 ·exact decide_eq_false (by omega)
 ·simp
theorem P2_0 (hf : first ≤ j) (x y : Nd) : P2 w first j 0 x y = if x = .src ∧ y = .sp j then true else P1 w first j x y := by
 rcases x with _ | _ | a | a | a | a <;> rcases y with _ | _ | b | b | b | b <;> simp only [P1,P2,edgG,reduceCtorEq,false_and,and_false,if_false] <;> try rfl
 ·refine ifb1 ?_
  simp only [Nd.sp.injEq,true_and]
  omega
 ·exact decide_eq_decide.2 ⟨fun h => h.resolve_right fun h => absurd h.2.1 (Nat.not_lt_zero _),fun h => .inl h⟩
theorem P2_t (ht : takesF w j k = true) (x y : Nd) : P2 w first j (k + 1) x y = if x = .sp j ∧ y = .hi k then true else P2 w first j k x y := by
 rcases x with _ | _ | a | a | a | a <;> rcases y with _ | _ | b | b | b | b <;> simp only [P2,edgG,reduceCtorEq,false_and,and_false,if_false] <;> try rfl
 refine ifb1 ?_
 simp only [Nd.sp.injEq,Nd.hi.injEq]
 constructor
 ·rintro (h | ⟨rfl,h2,h3⟩)
  ·exact .inr (.inl h)
  ·by_cases e : b = k
   ·exact .inl ⟨rfl,e⟩
   ·exact .inr (.inr ⟨rfl,by omega,h3⟩)
 ·rintro (⟨rfl,rfl⟩ | h | ⟨rfl,h2,h3⟩)
  ·exact .inr ⟨rfl,by omega,ht⟩
  ·exact .inl h
  ·exact .inr ⟨rfl,by omega,h3⟩
theorem P2_f (ht : takesF w j k = false) (x y : Nd) : P2 w first j (k + 1) x y = P2 w first j k x y := by
 rcases x with _ | _ | a | a | a | a <;> rcases y with _ | _ | b | b | b | b <;> simp only [P2,edgG] <;> try rfl
 refine decide_eq_decide.2 (or_congr Iff.rfl ⟨fun ⟨e,h2,h3⟩ => ⟨e,?_,h3⟩,fun ⟨e,h2,h3⟩ => ⟨e,by omega,h3⟩⟩)
 by_cases e2 : b = k
 ·subst e; subst e2; rw [ht] at h3; cases h3
 ·omega
theorem P1_s (hf : first ≤ j) (x y : Nd) : P1 w first (j + 1) x y = P2 w first j w.hours.1 x y := by
 rcases x with _ | _ | a | a | a | a <;> rcases y with _ | _ | b | b | b | b <;> simp only [P1,P2,edgG] <;> try rfl
 refine decide_eq_decide.2 ⟨fun ⟨h1,h2,h3,h4⟩ => ?_,?_⟩
 ·by_cases e : a = j
  ·exact .inr ⟨e,h3,h4⟩
  ·exact .inl ⟨h1,by omega,h3,h4⟩
 ·rintro (⟨h1,h2,h3,h4⟩ | ⟨rfl,h2,h3⟩)
  ·exact ⟨h1,by omega,h3,h4⟩
  ·exact ⟨hf,by omega,h2,h3⟩
theorem P3_0 (x y : Nd) : P3 w first tk 0 x y = P1 w first w.spathes.1 x y := by
 rcases x with _ | _ | a | a | a | a <;> rcases y with _ | _ | b | b | b | b <;> simp only [P1,P3,edgG] <;> try rfl
 all_goals simp
theorem P3_f (ht : tk k = true) (x y : Nd) : P3 w first tk (k + 1) x y = P3 w first tk k x y := by
 rcases x with _ | _ | a | a | a | a <;> rcases y with _ | _ | b | b | b | b <;> simp only [P3,edgG] <;> try rfl
 ·congr 1
  refine decide_eq_decide.2 ⟨fun ⟨h2,h3⟩ => ⟨?_,h3⟩,fun ⟨h2,h3⟩ => ⟨by omega,h3⟩⟩
  by_cases e : a = k
  ·subst e; rw [ht] at h3; cases h3
  ·omega
 ·refine decide_eq_decide.2 ⟨fun ⟨h2,h3,h4⟩ => ⟨?_,h3,h4⟩,fun ⟨h2,h3,h4⟩ => ⟨by omega,h3,h4⟩⟩
  by_cases e : a = k
  ·subst e; rw [ht] at h3; cases h3
  ·omega
theorem P4_0 (ht : tk k = false) (x y : Nd) : P4 w first tk k 0 x y = if x = .hi k ∧ y = .ho k then true else P3 w first tk k x y := by
 rcases x with _ | _ | a | a | a | a <;> rcases y with _ | _ | b | b | b | b <;> simp only [P3,P4,edgG,reduceCtorEq,false_and,and_false,if_false] <;> try rfl
 ·rw [← decP_and,← decP_and]
  refine ifb1 ?_
  simp only [Nd.hi.injEq,Nd.ho.injEq]
  constructor
  ·rintro ⟨rfl,h2,h3⟩
   by_cases e : a = k
   ·exact .inl ⟨e,e⟩
   ·exact .inr ⟨rfl,by omega,h3⟩
  ·rintro (⟨rfl,rfl⟩ | ⟨rfl,h2,h3⟩)
   ·exact ⟨rfl,by omega,ht⟩
   ·exact ⟨rfl,by omega,h3⟩
 ·exact decide_eq_decide.2 ⟨fun h => h.resolve_right fun h => absurd h.2.1 (Nat.not_lt_zero _),fun h => .inl h⟩
theorem P4_t (hg : goodF w k r = true) (x y : Nd) : P4 w first tk k (r + 1) x y = if x = .ho k ∧ y = .lt r then true else P4 w first tk k r x y := by
 rcases x with _ | _ | a | a | a | a <;> rcases y with _ | _ | b | b | b | b <;> simp only [P4,edgG,reduceCtorEq,false_and,and_false,if_false] <;> try rfl
 refine ifb1 ?_
 simp only [Nd.ho.injEq,Nd.lt.injEq]
 constructor
 ·rintro (h | ⟨rfl,h2,h3⟩)
  ·exact .inr (.inl h)
  ·by_cases e : b = r
   ·exact .inl ⟨rfl,e⟩
   ·exact .inr (.inr ⟨rfl,by omega,h3⟩)
 ·rintro (⟨rfl,rfl⟩ | h | ⟨rfl,h2,h3⟩)
  ·exact .inr ⟨rfl,by omega,hg⟩
  ·exact .inl h
  ·exact .inr ⟨rfl,by omega,h3⟩
theorem P4_f (hg : goodF w k r = false) (x y : Nd) : P4 w first tk k (r + 1) x y = P4 w first tk k r x y := by
 rcases x with _ | _ | a | a | a | a <;> rcases y with _ | _ | b | b | b | b <;> simp only [P4,edgG] <;> try rfl
 refine decide_eq_decide.2 (or_congr Iff.rfl ⟨fun ⟨e,h2,h3⟩ => ⟨e,?_,h3⟩,fun ⟨e,h2,h3⟩ => ⟨e,by omega,h3⟩⟩)
 by_cases e2 : b = r
 ·subst e; subst e2; rw [hg] at h3; cases h3
 ·omega
theorem P3_s (ht : tk k = false) (x y : Nd) : P3 w first tk (k + 1) x y = P4 w first tk k w.lots.1 x y := by
 rcases x with _ | _ | a | a | a | a <;> rcases y with _ | _ | b | b | b | b <;> simp only [P3,P4,edgG] <;> try rfl
 refine decide_eq_decide.2 ⟨fun ⟨h2,h3,h4,h5⟩ => ?_,?_⟩
 ·by_cases e : a = k
  ·exact .inr ⟨e,h4,h5⟩
  ·exact .inl ⟨by omega,h3,h4,h5⟩
 ·rintro (⟨h2,h3,h4,h5⟩ | ⟨rfl,h2,h3⟩)
  ·exact ⟨by omega,h3,h4,h5⟩
  ·exact ⟨by omega,ht,h2,h3⟩
theorem P5_0 (x y : Nd) : P5 w first tk 0 x y = P3 w first tk w.hours.1 x y := by
 rcases x with _ | _ | a | a | a | a <;> rcases y with _ | _ | b | b | b | b <;> simp only [P5,P3,edgG] <;> try rfl
 all_goals simp
theorem P5_s (x y : Nd) : P5 w first tk (r + 1) x y = if x = .lt r ∧ y = .snk then true else P5 w first tk r x y := by
 rcases x with _ | _ | a | a | a | a <;> rcases y with _ | _ | b | b | b | b <;> simp only [P5,edgG,reduceCtorEq,false_and,and_false,if_false] <;> try rfl
 refine ifb1 ?_
 simp only [Nd.lt.injEq,and_true]
 omega
theorem P5_cap {us : Nat → Int} (x y : Nd) (h : P5 w first tk w.lots.1 x y = false) : (ntP w first tk us).cap x y = 0 := by
 rcases x with _ | _ | a | a | a | a <;> rcases y with _ | _ | b | b | b | b <;> simp only [P5,edgG,ntP,Nt.cap] at h ⊢ <;> try rfl
 ·exact if_neg (of_decide_eq_false h)
 ·exact if_neg (of_decide_eq_false h)
 ·refine if_neg ?_
  rintro ⟨rfl,h2,h3⟩
  simp only [Bool.not_eq_true',decide_true,Bool.true_and] at h h3
  exact of_decide_eq_false h ⟨h2,h3⟩
 ·refine if_neg ?_
  rintro ⟨h2,h3,h4,h5⟩
  simp only [Bool.not_eq_true'] at h5
  exact of_decide_eq_false h ⟨h2,h5,h3,h4⟩
 ·exact if_neg (of_decide_eq_false h)
end
end Go.Proofs.Ytlapepdhkomijaa
