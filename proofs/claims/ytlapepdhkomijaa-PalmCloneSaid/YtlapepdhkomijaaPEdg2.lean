/- Edges of a net, in the order in which they are linked. No condition. -/
import Derived.Test.YtlapepdhkomijaaPSt
import Derived.Test.YtlapepdhkomijaaPNet
set_option linter.unusedSimpArgs false
set_option linter.unusedVariables false
namespace Go.Proofs.Ytlapepdhkomijaa
open Go Go.RowKit
def ntP (w : Wk) (first : Nat) (tk : Nat → Bool) (us : Nat → Int) : Nt := ⟨w.spathes.1,w.hours.1,w.lots.1,first,takesF w,goodF w,fun h => !tk h,fun h => !tk h,fun j => if j < w.lots.1 then (w.lots.2 j).units - us j else 0⟩
def P1 (w : Wk) (first j : Nat) : Nd → Nd → Bool := edgG (fun i => decide (first ≤ i ∧ i < j)) (fun i h => decide (first ≤ i ∧ i < j ∧ h < w.hours.1 ∧ takesF w i h = true)) (fun _ => false) (fun _ _ => false) (fun _ => false)
def P2 (w : Wk) (first j k : Nat) : Nd → Nd → Bool := edgG (fun i => decide (first ≤ i ∧ i < j + 1)) (fun i h => decide ((first ≤ i ∧ i < j ∧ h < w.hours.1 ∧ takesF w i h = true) ∨ (i = j ∧ h < k ∧ takesF w i h = true))) (fun _ => false) (fun _ _ => false) (fun _ => false)
def P3 (w : Wk) (first : Nat) (tk : Nat → Bool) (k : Nat) : Nd → Nd → Bool := edgG (fun i => decide (first ≤ i ∧ i < w.spathes.1)) (fun i h => decide (first ≤ i ∧ i < w.spathes.1 ∧ h < w.hours.1 ∧ takesF w i h = true)) (fun h => decide (h < k ∧ tk h = false)) (fun h q => decide (h < k ∧ tk h = false ∧ q < w.lots.1 ∧ goodF w h q = true)) (fun _ => false)
def P4 (w : Wk) (first : Nat) (tk : Nat → Bool) (k r : Nat) : Nd → Nd → Bool := edgG (fun i => decide (first ≤ i ∧ i < w.spathes.1)) (fun i h => decide (first ≤ i ∧ i < w.spathes.1 ∧ h < w.hours.1 ∧ takesF w i h = true)) (fun h => decide (h < k + 1 ∧ tk h = false)) (fun h q => decide ((h < k ∧ tk h = false ∧ q < w.lots.1 ∧ goodF w h q = true) ∨ (h = k ∧ q < r ∧ goodF w h q = true))) (fun _ => false)
def P5 (w : Wk) (first : Nat) (tk : Nat → Bool) (r : Nat) : Nd → Nd → Bool := edgG (fun i => decide (first ≤ i ∧ i < w.spathes.1)) (fun i h => decide (first ≤ i ∧ i < w.spathes.1 ∧ h < w.hours.1 ∧ takesF w i h = true)) (fun h => decide (h < w.hours.1 ∧ tk h = false)) (fun h q => decide (h < w.hours.1 ∧ tk h = false ∧ q < w.lots.1 ∧ goodF w h q = true)) (fun j => decide (j < r))
theorem ifb1 {P Q R : Prop} [Decidable P] [Decidable Q] [Decidable R] (h : P ↔ Q ∨ R) : decide P = if Q then true else decide R := by
 by_cases q : Q
 ·rw [if_pos q]; exact decide_eq_true (h.2 (.inl q))
 ·rw [if_neg q]; exact decide_eq_decide.2 ⟨fun p => (h.1 p).resolve_left q,fun r => h.2 (.inr r)⟩
section
variable {w : Wk} {first j k r : Nat} {tk : Nat → Bool}
theorem P1_0 (hf : j ≤ first) (x y : Nd) : P1 w first j x y = false := by
 cases x <;> cases y <;> simp only [P1,edgG] <;> try rfl
 ·exact decide_eq_false (by omega)
 ·exact decide_eq_false (by omega)
 ·simp
theorem P2_0 (hf : first ≤ j) (x y : Nd) : P2 w first j 0 x y = if x = .src ∧ y = .sp j then true else P1 w first j x y := by
 rcases x with _ | _ | a | a | a | a <;> rcases y with _ | _ | b | b | b | b <;> simp only [P1,P2,edgG,reduceCtorEq,false_and,and_false,if_false] <;> try rfl
 ·refine ifb1 ?_
  simp only [Nd.sp.injEq,true_and]
  omega
 ·exact decide_eq_decide.2 ⟨fun h => h.resolve_right fun h => absurd h.2.1 (Nat.not_lt_zero _),fun h => .inl h⟩
theorem P2_t (ht : takesF w j k = true) (x y : Nd) : P2 w first j (k + 1) x y = if x = .sp j ∧ y = .hi k then true else P2 w first j k x y := by
 rcases x with _ | _ | a | a | a | a <;> rcases y with _ | _ | b | b | b | b <;> simp only [P2,edgG,reduceCtorEq,false_and,and_false,if_false] <;> try rfl
 refine ifb1 ?_
 simp only [Nd.sp.injEq,Nd.hi.injEq]
 constructor
 ·rintro (h | ⟨rfl,h2,h3⟩)
  ·exact .inr (.inl h)
  ·by_cases e : b = k
   ·exact .inl ⟨rfl,e⟩
   ·exact .inr (.inr ⟨rfl,by omega,h3⟩)
 ·rintro (⟨rfl,rfl⟩ | h | ⟨rfl,h2,h3⟩)
  ·exact .inr ⟨rfl,by omega,ht⟩
  ·exact .inl h
  ·exact .inr ⟨rfl,by omega,h3⟩
theorem P2_f (ht : takesF w j k = false) (x y : Nd) : P2 w first j (k + 1) x y = P2 w first j k x y := by
 rcases x with _ | _ | a | a | a | a <;> rcases y with _ | _ | b | b | b | b <;> simp only [P2,edgG] <;> try rfl
 refine decide_eq_decide.2 (or_congr Iff.rfl ⟨fun ⟨e,h2,h3⟩ => ⟨e,?_,h3⟩,fun ⟨e,h2,h3⟩ => ⟨e,by omega,h3⟩⟩)
 by_cases e2 : b = k
 ·subst e; subst e2; rw [ht] at h3; cases h3
 ·omega
theorem P1_s (hf : first ≤ j) (x y : Nd) : P1 w first (j + 1) x y = P2 w first j w.hours.1 x y := by
 rcases x with _ | _ | a | a | a | a <;> rcases y with _ | _ | b | b | b | b <;> simp only [P1,P2,edgG] <;> try rfl
 refine decide_eq_decide.2 ⟨fun ⟨h1,h2,h3,h4⟩ => ?_,?_⟩
 ·by_cases e : a = j
  ·exact .inr ⟨e,h3,h4⟩
  ·exact .inl ⟨h1,by omega,h3,h4⟩
 ·rintro (⟨h1,h2,h3,h4⟩ | ⟨rfl,h2,h3⟩)
  ·exact ⟨h1,by omega,h3,h4⟩
  ·exact ⟨hf,by omega,h2,h3⟩
theorem P3_0 (x y : Nd) : P3 w first tk 0 x y = P1 w first w.spathes.1 x y := by
 rcases x with _ | _ | a | a | a | a <;> rcases y with _ | _ | b | b | b | b <;> simp only [P1,P3,edgG] <;> try rfl
 all_goals simp
theorem P3_f (ht : tk k = true) (x y : Nd) : P3 w first tk (k + 1) x y = P3 w first tk k x y := by
 rcases x with _ | _ | a | a | a | a <;> rcases y with _ | _ | b | b | b | b <;> simp only [P3,edgG] <;> try rfl
 ·congr 1
  refine decide_eq_decide.2 ⟨fun ⟨h2,h3⟩ => ⟨?_,h3⟩,fun ⟨h2,h3⟩ => ⟨by omega,h3⟩⟩
  by_cases e : a = k
  ·subst e; rw [ht] at h3; cases h3
  ·omega
 ·refine decide_eq_decide.2 ⟨fun ⟨h2,h3,h4⟩ => ⟨?_,h3,h4⟩,fun ⟨h2,h3,h4⟩ => ⟨by omega,h3,h4⟩⟩
  by_cases e : a = k
  ·subst e; rw [ht] at h3; cases h3
  ·omega
theorem P4_0 (ht : tk k = false) (x y : Nd) : P4 w first tk k 0 x y = if x = .hi k ∧ y = .ho k then true else P3 w first tk k x y := by
 rcases x with _ | _ | a | a | a | a <;> rcases y with _ | _ | b | b | b | b <;> simp only [P3,P4,edgG,reduceCtorEq,false_and,and_false,if_false] <;> try rfl
 ·rw [← decP_and,← decP_and]
  refine ifb1 ?_
  simp only [Nd.hi.injEq,Nd.ho.injEq]
  constructor
  ·rintro ⟨rfl,h2,h3⟩
   by_cases e : a = k
   ·exact .inl ⟨e,e⟩
   ·exact .inr ⟨rfl,by omega,h3⟩
  ·rintro (⟨rfl,rfl⟩ | ⟨rfl,h2,h3⟩)
   ·exact ⟨rfl,by omega,ht⟩
   ·exact ⟨rfl,by omega,h3⟩
 ·exact decide_eq_decide.2 ⟨fun h => h.resolve_right fun h => absurd h.2.1 (Nat.not_lt_zero _),fun h => .inl h⟩
theorem P4_t (hg : goodF w k r = true) (x y : Nd) : P4 w first tk k (r + 1) x y = if x = .ho k ∧ y = .lt r then true else P4 w first tk k r x y := by
 rcases x with _ | _ | a | a | a | a <;> rcases y with _ | _ | b | b | b | b <;> simp only [P4,edgG,reduceCtorEq,false_and,and_false,if_false] <;> try rfl
 refine ifb1 ?_
 simp only [Nd.ho.injEq,Nd.lt.injEq]
 constructor
 ·rintro (h | ⟨rfl,h2,h3⟩)
  ·exact .inr (.inl h)
  ·by_cases e : b = r
   ·exact .inl ⟨rfl,e⟩
   ·exact .inr (.inr ⟨rfl,by omega,h3⟩)
 ·rintro (⟨rfl,rfl⟩ | h | ⟨rfl,h2,h3⟩)
  ·exact .inr ⟨rfl,by omega,hg⟩
  ·exact .inl h
  ·exact .inr ⟨rfl,by omega,h3⟩
theorem P4_f (hg : goodF w k r = false) (x y : Nd) : P4 w first tk k (r + 1) x y = P4 w first tk k r x y := by
 rcases x with _ | _ | a | a | a | a <;> rcases y with _ | _ | b | b | b | b <;> simp only [P4,edgG] <;> try rfl
 refine decide_eq_decide.2 (or_congr Iff.rfl ⟨fun ⟨e,h2,h3⟩ => ⟨e,?_,h3⟩,fun ⟨e,h2,h3⟩ => ⟨e,by omega,h3⟩⟩)
 by_cases e2 : b = r
 ·subst e; subst e2; rw [hg] at h3; cases h3
 ·omega
theorem P3_s (ht : tk k = false) (x y : Nd) : P3 w first tk (k + 1) x y = P4 w first tk k w.lots.1 x y := by
 rcases x with _ | _ | a | a | a | a <;> rcases y with _ | _ | b | b | b | b <;> simp only [P3,P4,edgG] <;> try rfl
 refine decide_eq_decide.2 ⟨fun ⟨h2,h3,h4,h5⟩ => ?_,?_⟩
 ·by_cases e : a = k
  ·exact .inr ⟨e,h4,h5⟩
  ·exact .inl ⟨by omega,h3,h4,h5⟩
 ·rintro (⟨h2,h3,h4,h5⟩ | ⟨rfl,h2,h3⟩)
  ·exact ⟨by omega,h3,h4,h5⟩
  ·exact ⟨by omega,ht,h2,h3⟩
theorem P5_0 (x y : Nd) : P5 w first tk 0 x y = P3 w first tk w.hours.1 x y := by
 rcases x with _ | _ | a | a | a | a <;> rcases y with _ | _ | b | b | b | b <;> simp only [P5,P3,edgG] <;> try rfl
 all_goals simp
theorem P5_s (x y : Nd) : P5 w first tk (r + 1) x y = if x = .lt r ∧ y = .snk then true else P5 w first tk r x y := by
 rcases x with _ | _ | a | a | a | a <;> rcases y with _ | _ | b | b | b | b <;> simp only [P5,edgG,reduceCtorEq,false_and,and_false,if_false] <;> try rfl
 refine ifb1 ?_
 simp only [Nd.lt.injEq,and_true]
 omega
theorem P5_cap {us : Nat → Int} (x y : Nd) (h : P5 w first tk w.lots.1 x y = false) : (ntP w first tk us).cap x y = 0 := by
 rcases x with _ | _ | a | a | a | a <;> rcases y with _ | _ | b | b | b | b <;> simp only [P5,edgG,ntP,Nt.cap] at h ⊢ <;> try rfl
 ·exact if_neg (of_decide_eq_false h)
 ·exact if_neg (of_decide_eq_false h)
 ·refine if_neg ?_
  rintro ⟨rfl,h2,h3⟩
  simp only [Bool.not_eq_true',decide_true,Bool.true_and] at h h3
  exact of_decide_eq_false h ⟨h2,h3⟩
 ·refine if_neg ?_
  rintro ⟨h2,h3,h4,h5⟩
  simp only [Bool.not_eq_true'] at h5
  exact of_decide_eq_false h ⟨h2,h5,h3,h4⟩
 ·exact if_neg (of_decide_eq_false h)
end
theorem most_gf {N : Nt} {g : Nat → Bool} {v : Int} (h : IsMost { N with gf := g } v) : IsMost N v := ⟨by obtain ⟨p,hp,e⟩ := h.ex; exact ⟨p,⟨hp.at',hp.inj,hp.lots⟩,e⟩,fun p hp => h.le p ⟨hp.at',hp.inj,hp.lots⟩⟩
theorem ntP_max {w : Wk} {first : Nat} {tk : Nat → Bool} {us : Nat → Int} {v : Int} (h : IsMost (ntP w first tk us) v) : maxP (ntF w first (fun h => !tk h) fun j => (w.lots.2 j).units - us j) = v :=
 maxP_eq (most_gf (N := ntF w first (fun h => !tk h) fun j => (w.lots.2 j).units - us j) (g := fun h => !tk h) h)
end Go.Proofs.Ytlapepdhkomijaa
namespace Go.Proofs.Ytlapepdhkomijaa
open Go Go.RowKit
variable {G : Nat → Option (Nat × (Nat → Val))}
theorem mixedP : Try.prog.follows .mixedOrders = true := by kernel_rfl
def Np.Is : Val → Prop
 | .vptr m c => m = 8 ∧ Wk.Is (.agg (.cons (c 0) (.cons (c 1) (.cons (c 2) (.cons (c 3) (.cons (c 4) .nil))))))
 | _ => False
def Np.of : Val → Wk
 | .vptr _ c => Wk.of (.agg (.cons (c 0) (.cons (c 1) (.cons (c 2) (.cons (c 3) (.cons (c 4) .nil))))))
 | _ => Wk.of .und
def Np.L (w : Wk) : Val := .cons (.int .i64 w.day) (.cons (.view 3 w.spathes.1 fun a b => (w.spathes.2 a).c b) (.cons (.view 1 w.hours.1 fun a b => .int .i64 (w.hours.2 a)) (.cons (.view 4 w.lots.1 fun a b => (w.lots.2 a).c b) (.cons (.int .i64 w.opn) (.cons .und (.cons .und (.cons .und .nil)))))))
def TNp : VT Wk where
 Is := Np.Is
 of := Np.of
 enc := fun w => .vptr 8 fun j => vget (Np.L w) j
 h1 := by
  intro v h
  unfold Np.Is at h
  split at h
  ·rename_i m c
   obtain ⟨rfl,h⟩ := h
   simp only [Np.of]
   rw [vp_vptr]
   intro j hj
   have hv' : vsubP (.agg (Wk.L (Wk.of (.agg (.cons (c 0) (.cons (c 1) (.cons (c 2) (.cons (c 3) (.cons (c 4) .nil))))))))) (.agg (.cons (c 0) (.cons (c 1) (.cons (c 2) (.cons (c 3) (.cons (c 4) .nil)))))) := TWk.h1 (.agg (.cons (c 0) (.cons (c 1) (.cons (c 2) (.cons (c 3) (.cons (c 4) .nil)))))) h
   generalize Wk.of (.agg (.cons (c 0) (.cons (c 1) (.cons (c 2) (.cons (c 3) (.cons (c 4) .nil)))))) = g at *
   simp only [vp_agg,Wk.L,vp_cons] at hv'
   obtain ⟨v0,v1,v2,v3,v4,_⟩ := hv'
   match j,hj with
   | 0,_ => exact v0
   | 1,_ => exact v1
   | 2,_ => exact v2
   | 3,_ => exact v3
   | 4,_ => exact v4
   | 5,_ | 6,_ | 7,_ => trivial
   | j + 8,h => omega
  ·exact h.elim
 h2 := fun w => TWk.h2 w
theorem Np.is_enc (w : Wk) : Np.Is (.vptr 8 fun j => vget (Np.L w) j) := ⟨rfl,Wk.is_enc w⟩
def sSpN : Spec := spec2 TNp TI (fun _ i => 0 ≤ i ∧ i ≤ 1000) fun _ i => .int .i64 (2 + i)
set_option maxRecDepth 100000 in
theorem pSpN : PureOk Try.prog G 63 sSpN := by
 refine fn2 (S := []) (I := []) mixedP .nil .nil Try.func63 c63 fun w i hp hw => ?_
 simp only [TNp,Np.L,go_sem] at hw
 simp only [RunTo,a63,TNp,Np.L,↓reduceIte,reduceCtorEq,Nat.reduceEqDiff,go_sem]
 exact wr64 (by omega) (by omega)
def sInN : Spec := spec2 TNp TI (fun w h => w.spathes.1 ≤ 1000 ∧ 0 ≤ h ∧ h ≤ 1000) fun w h => .int .i64 (2 + w.spathes.1 + 2 * h)
set_option maxRecDepth 100000 in
theorem pInN : PureOk Try.prog G 65 sInN := by
 refine fn2 (S := [(63,sSpN)]) (I := []) mixedP (.cons pSpN .nil) .nil Try.func65 c65 fun w h hp hw => ?_
 obtain ⟨h1,h2,h3⟩ := hp
 simp only [TNp,Np.L,go_sem] at hw
 have e1 : IntKind.i64.wrap (2 * h) = 2 * h := wr64 (by omega) (by omega)
 have e2 : IntKind.i64.wrap (2 + (w.spathes.1 : Int) + 2 * h) = 2 + (w.spathes.1 : Int) + 2 * h := wr64 (by omega) (by omega)
 simp only [RunTo,a65,TNp,Np.L,Np.Is,sSpN,e1,e2,↓reduceIte,reduceCtorEq,Nat.reduceEqDiff,Nat.reduceSub,Nat.reduceLeDiff,Nat.reducePow,go_sem]
 intro _; omega
def sOutN : Spec := spec2 TNp TI (fun w h => w.spathes.1 ≤ 1000 ∧ 0 ≤ h ∧ h ≤ 1000) fun w h => .int .i64 (2 + w.spathes.1 + 2 * h + 1)
set_option maxRecDepth 100000 in
theorem pOutN : PureOk Try.prog G 66 sOutN := by
 refine fn2 (S := [(65,sInN)]) (I := []) mixedP (.cons pInN .nil) .nil Try.func66 c66 fun w h hp hw => ?_
 obtain ⟨h1,h2,h3⟩ := hp
 simp only [TNp,Np.L,go_sem] at hw
 have e2 : IntKind.i64.wrap (2 + (w.spathes.1 : Int) + 2 * h + 1) = 2 + (w.spathes.1 : Int) + 2 * h + 1 := wr64 (by omega) (by omega)
 simp only [RunTo,a66,TNp,Np.L,Np.Is,Np.of,sInN,e2,↓reduceIte,reduceCtorEq,Nat.reduceEqDiff,go_sem]
 exact ⟨h1,h2,h3⟩
def sLotN : Spec := spec2 TNp TI (fun w i => w.spathes.1 ≤ 1000 ∧ w.hours.1 ≤ 1000 ∧ 0 ≤ i ∧ i ≤ 1000) fun w i => .int .i64 (2 + w.spathes.1 + 2 * w.hours.1 + i)
set_option maxRecDepth 100000 in
theorem pLotN : PureOk Try.prog G 68 sLotN := by
 refine fn2 (S := [(65,sInN)]) (I := []) mixedP (.cons pInN .nil) .nil Try.func68 c68 fun w i hp hw => ?_
 obtain ⟨h1,h2,h3,h4⟩ := hp
 simp only [TNp,Np.L,go_sem] at hw
 have e2 : IntKind.i64.wrap (2 + (w.spathes.1 : Int) + 2 * (w.hours.1 : Int) + i) = 2 + (w.spathes.1 : Int) + 2 * (w.hours.1 : Int) + i := wr64 (by omega) (by omega)
 simp only [RunTo,a68,TNp,Np.L,Np.Is,Np.of,sInN,e2,↓reduceIte,reduceCtorEq,Nat.reduceEqDiff,Nat.reduceSub,Nat.reduceLeDiff,Nat.reducePow,go_sem]
 intro _; omega
def sGoodN : Spec := spec3 TWk TI TI (fun w h j => 0 ≤ h ∧ h < w.hours.1 ∧ 0 ≤ j ∧ j < w.lots.1) fun w h j => .bool (goodF w h.toNat j.toNat)
set_option maxRecDepth 100000 in
theorem pGoodN : PureOk Try.prog G 59 sGoodN := by
 refine fn3 (S := []) (I := []) mixedP .nil .nil Try.func59 c59 fun w h j hp hw => ?_
 obtain ⟨h1,h2,h3,h4⟩ := hp
 simp only [Nat.reduceSub,Nat.reducePow,go_sem] at hw
 simp only [RunTo,a59,hw,↓reduceIte,reduceCtorEq,Nat.reduceEqDiff,Nat.reduceAdd,Nat.reduceSub,Nat.reduceLeDiff,Nat.reducePow,go_sem]
 refine ⟨h3,h4,h1,h2,fun q => ⟨h1,h2,?_⟩,fun q => ?_⟩
 ·unfold goodF; rw [decP_and,decide_eq_true q,Bool.true_and]
 ·unfold goodF; rw [decP_and,decide_eq_false q,Bool.false_and]
end Go.Proofs.Ytlapepdhkomijaa
namespace Go.Proofs.Ytlapepdhkomijaa
open Go Go.RowKit
def leftL (f : Int) (tk : Nat → Bool) (us : Nat → Int) : Val := .cons (.int .i64 f) (.cons (.bool (tk 0)) (.cons (.bool (tk 1)) (.cons (.bool (tk 2)) (.cons (.bool (tk 3)) (.cons (.bool (tk 4)) (.cons (.bool (tk 5)) (.cons (.bool (tk 6)) (.cons (.bool (tk 7)) (.cons (.bool (tk 8)) (.cons (.bool (tk 9)) (.cons (.bool (tk 10)) (.cons (.bool (tk 11)) (.cons (.bool (tk 12)) (.cons (.bool (tk 13)) (.cons (.bool (tk 14)) (.cons (.bool (tk 15)) (.cons (.int .i64 (us 0)) (.cons (.int .i64 (us 1)) (.cons (.int .i64 (us 2)) (.cons (.int .i64 (us 3)) .nil))))))))))))))))))))
theorem vlen_left {f : Int} {tk : Nat → Bool} {us : Nat → Int} : vlen (leftL f tk us) = 21 := rfl
theorem isLB_left {f : Int} {tk : Nat → Bool} {us : Nat → Int} : isLB (leftL f tk us) = true := rfl
theorem renV_left {f : Int} {tk : Nat → Bool} {us : Nat → Int} {a b : Bn} : renV a b (leftL f tk us) = leftL f tk us := rfl
theorem subV_left {f : Int} {tk : Nat → Bool} {us : Nat → Int} {a : Bn} {v : Val} : subV a v (leftL f tk us) = leftL f tk us := rfl
theorem vsub_left {N D : Bn → Prop} {f : Int} {tk : Nat → Bool} {us : Nat → Int} : vsub N D (leftL f tk us) (leftL f tk us) = True := eq_true (by simp [leftL,vsub])
theorem vget_left0 {f : Int} {tk : Nat → Bool} {us : Nat → Int} : vget (leftL f tk us) 0 = .int .i64 f := rfl
theorem vget_leftT {f : Int} {tk : Nat → Bool} {us : Nat → Int} {z : Nat} (h : z < 16) : vget (leftL f tk us) (1 + z) = .bool (tk z) := by
 rcases z with _ | _ | _ | _ | _ | _ | _ | _ | _ | _ | _ | _ | _ | _ | _ | _ | z
 all_goals first | rfl | (exfalso; omega)
theorem vget_leftU {f : Int} {tk : Nat → Bool} {us : Nat → Int} {z : Nat} (h : z < 4) : vget (leftL f tk us) (17 + z) = .int .i64 (us z) := by
 match z,h with
 | 0,_ | 1,_ | 2,_ | 3,_ => rfl
def edgC (T : KSt) (i j : Nat) : Val := if j = 0 then .int .i64 (T.tw i) else .int .i64 (T.lf i)
def netL (w : Wk) (E M : Nat) (z : Val) : Val := .cons (.int .i64 w.day) (.cons (.view 3 w.spathes.1 fun a b => (w.spathes.2 a).c b) (.cons (.view 1 w.hours.1 fun a b => .int .i64 (w.hours.2 a)) (.cons (.view 4 w.lots.1 fun a b => (w.lots.2 a).c b) (.cons (.int .i64 w.opn) (.cons (.own (.n E)) (.cons (.mapb (.n M)) (.cons z .nil)))))))
theorem subBox_ite {b : Bn} {v : Val} {c : Prop} [Decidable c] {x y : Box} : subBox b v (if c then x else y) = if c then subBox b v x else subBox b v y := by split <;> rfl
theorem noIt1_ite {b : Bn} {c : Prop} [Decidable c] {x y : Box} : noIt1 b (if c then x else y) = if c then noIt1 b x else noIt1 b y := by split <;> rfl
theorem subV_ite {b : Bn} {v : Val} {c : Prop} [Decidable c] {x y : Val} : subV b v (if c then x else y) = if c then subV b v x else subV b v y := by split <;> rfl
theorem edg_link {T : KSt} {u v : Nat} {c V U : Int} (hV : V = (v : Int)) (hU : U = (u : Int)) : ∀ i,i < T.m + 2 → ∀ b,b < 2 → vsubP (edgC (linkT T u v c) i b) (if i < T.m then edgC T i b else vget (vget (.cons (.cons (.int .i64 V) (.cons (.int .i64 c) .nil)) (.cons (.cons (.int .i64 U) (.cons (.int .i64 0) .nil)) .nil)) (i - T.m)) b) := by
 subst hV; subst hU
 intro i hi b hb
 unfold edgC linkT
 by_cases h : i < T.m
 ·rw [if_pos h]
  simp only [if_neg (show ¬ i = T.m by omega),if_neg (show ¬ i = T.m + 1 by omega)]
  split <;> (rw [vsubP_self]; trivial)
 ·rw [if_neg h]
  by_cases h2 : i = T.m
  ·subst h2
   rw [Nat.sub_self]
   match b,hb with
   | 0,_ => simp [vget,vsubP_self]
   | 1,_ => simp [vget,vsubP_self]
  ·obtain rfl : i = T.m + 1 := by omega
   rw [Nat.add_sub_cancel_left]
   match b,hb with
   | 0,_ => simp [vget,vsubP_self]
   | 1,_ => simp [vget,vsubP_self]
theorem fam_link {N D : Bn → Prop} {bx : Bx} {F : Nat} {e : TypeId} {T : KSt} {u v : Nat} {c V U : Int} (hV : V = (v : Int)) (hU : U = (u : Int)) (huv : u ≠ v)
  (h : ∀ z,bget bx (.f F z) = some (if z = V then .row e 1 (T.ln V + 1) (fun i j => if i < T.ln V then .int .i64 (T.ix V i) else vget (vget (.cons (.cons (.int .i64 ((T.m + 1 : Nat) : Int)) .nil) .nil) (i - T.ln V)) j) else if z = U then .row e 1 (T.ln U + 1) (fun i j => if i < T.ln U then .int .i64 (T.ix U i) else vget (vget (.cons (.cons (.int .i64 (T.m : Int)) .nil) .nil) (i - T.ln U)) j) else .row e 1 (T.ln z) fun i _ => .int .i64 (T.ix z i))) :
  chkFam N D bx F (fun _ => true) (fun z => .row e 1 ((linkT T u v c).ln z) fun i _ => .int .i64 ((linkT T u v c).ix z i)) := by
 subst hV; subst hU
 intro z _
 rw [h z]
 unfold linkT
 by_cases h1 : z = (v : Int)
 ·subst h1
  simp only [if_true]
  refine ⟨rfl,rfl,rfl,fun i hi j hj => ?_⟩
  obtain rfl : j = 0 := by omega
  dsimp only
  by_cases h3 : i < T.ln (v : Int)
  ·rw [if_pos h3,if_pos h3,vsubP_self]; trivial
  ·obtain rfl : i = T.ln (v : Int) := by omega
   rw [if_neg h3,if_neg h3,Nat.sub_self]; simp [vget,vsubP_self]
 ·simp only [if_neg h1]
  by_cases h2 : z = (u : Int)
  ·subst h2
   simp only [if_true]
   refine ⟨rfl,rfl,rfl,fun i hi j hj => ?_⟩
   obtain rfl : j = 0 := by omega
   dsimp only
   by_cases h3 : i < T.ln (u : Int)
   ·rw [if_pos h3,if_pos h3,vsubP_self]; trivial
   ·obtain rfl : i = T.ln (u : Int) := by omega
    rw [if_neg h3,if_neg h3,Nat.sub_self]; simp [vget,vsubP_self]
  ·simp only [if_neg h2]
   exact ⟨rfl,rfl,rfl,fun i hi j hj => by rw [vsubP_self]; trivial⟩
theorem vsub_nilm {N D : Bn → Prop} : vsub N D .nilm .nilm = True := eq_true rfl
theorem chkFam_cell {N D : Bn → Prop} {bx : Bx} {F : Nat} {i : Int} {n : Int} (h : bget bx (.f F i) = some (.cells (.cons (.int .i64 n) .nil))) : chkFam N D bx F (fun z => decide (z = i)) fun _ => .cells (.cons (.int .i64 n) .nil) := by
 intro z hz
 obtain rfl := of_decide_eq_true hz
 rw [h]
 exact ⟨rfl,_,_,rfl,rfl,rfl⟩
theorem ChkF.renM {ns : List Nat} {fr fr' : Fr} {bx bx' : Bx} {nx nx' : Nat} (la : List (Bn × Bn)) (hl : ∀ p ∈ la,∀ n ∈ ns,n ≤ p.1.id) (hc : match rens la (fr,bx) with | some (fr2,bx2) => Chk fr2 bx2 fr' bx' nx nx' | none => False) : ChkF ns fr bx fr' bx' nx nx' := by
 split at hc
 ·rename_i fr2 bx2 h
  exact ⟨[],la,fun _ h => (by cases h),hl,fr,bx,rfl,fr2,bx2,h,hc⟩
 ·exact hc.elim
theorem chkFam_self {N D : Bn → Prop} {bx : Bx} {F : Nat} {e : TypeId} {n : Int → Nat} {c : Int → Nat → Nat} (h : ∀ z : Int,True → bget bx (.f F z) = some (.row e 1 (n z) fun i _ => .int .i64 (c z i))) : chkFam N D bx F (fun _ => true) (fun z => .row e 1 (n z) fun i _ => .int .i64 (c z i)) := by
 intro z _
 rw [h z trivial]
 exact ⟨rfl,rfl,rfl,fun i _ j _ => by rw [vsubP_self]; trivial⟩
theorem edg_at {T : KSt} {m : Nat} {tw : Nat → Nat} {lf : Nat → Int} {ce : Nat → Nat → Val} (h : ∀ k,k < m → ce k 0 = .int .i64 (tw k) ∧ ce k 1 = .int .i64 (lf k)) {i j : Nat} (hi : i < m) (hj : j < 2) : vsubP (edgC ⟨m,tw,lf,T.ln,T.ix⟩ i j) (ce i j) := by
 obtain ⟨h1,h2⟩ := h i hi
 match j,hj with
 | 0,_ => rw [h1]; exact rfl
 | 1,_ => rw [h2]; exact rfl
end Go.Proofs.Ytlapepdhkomijaa
namespace Go.Proofs.Ytlapepdhkomijaa
open Go Go.RowKit
variable {G : Nat → Option (Nat × (Nat → Val))}
def slN (w : Wk) (i : Nat) : Nat := cntN (takesF w i) w.hours.1
def slH (w : Wk) (i j : Nat) : Nat := selN (takesF w i) w.hours.1 j
theorem workE_0 {l : Pms} {w : Wk} (h : workE l w = 0) : PmsOk l ∧ ¬ badI l < l.1 ∧ WkOk (knF l) w := by
 unfold workE at h
 split at h
 ·rename_i h1
  split at h
  ·cases h
  ·rename_i h2
   split at h
   ·rename_i h3; exact ⟨pmE_0 h1,h2,decP_true.1 h3⟩
   ·cases h
 ·cases h
theorem chkFam_same {N D : Bn → Prop} {bx : Bx} {F : Nat} {d : Int → Bool} {e : TypeId} {n : Int → Nat} {c : Int → Nat → Nat → Val} (h : ∀ z,d z = true → bget bx (.f F z) = some (.row e 1 (n z) (c z))) : chkFam N D bx F d (fun z => .row e 1 (n z) (c z)) := by
 intro z hz
 rw [h z hz]
 exact ⟨rfl,rfl,rfl,fun i _ j _ => by rw [vsubP_self]; trivial⟩
noncomputable def sSlots7 : Spec := spec2 (TSl RPm) TWk (fun _ _ => True) fun l w => if workE l w = 0 then .tup (.cons (.view 1 w.spathes.1 fun i _ => .view 1 (slN w i) fun j _ => .int .i64 (slH w i j)) (.cons (.int .i64 0) .nil)) else .tup (.cons .nils (.cons (.int .i64 (workE l w)) .nil))
end Go.Proofs.Ytlapepdhkomijaa
namespace Go.Proofs.Ytlapepdhkomijaa
open Go Go.RowKit
variable {G : Nat → Option (Nat × (Nat → Val))}
noncomputable def plD (w : Wk) : PS := stD w (fun _ => true) (fun j => (w.lots.2 j).units) w.spathes.1
end Go.Proofs.Ytlapepdhkomijaa
namespace Go.Proofs.Ytlapepdhkomijaa
theorem sumN_lt {f g : Nat → Int} {n k : Nat} (h : ∀ i,i < n → f i ≤ g i) (hk : k < n) (hf : f k < g k) : sumN f n < sumN g n := by
 have h1 := sumN_get (f := fun i => g i - f i) (n := n) (fun i hi => by have := h i hi; show 0 ≤ g i - f i; omega) hk
 rw [sumN_sub] at h1
 omega
def Clo (n : Nat) (s : Nat → Bool) (r : Nat → Nat → Int) : Prop := ∀ u,u < n → s u = true → ∀ v,v < n → 0 < r u v → s v = true
section
variable {N : Nt} {dec : Nat → Nd} {enc : Nd → Nat} {r r' : Nat → Nat → Int} {val : Int}
theorem FlowOk.net (h : FlowOk N dec r val) {s : Nat → Bool} (h0 : s 0 = true) (h1 : s 1 = false) :
  val = sumN (fun u => sumN (fun v => if s u = true ∧ s v = false then flo N dec r u v else 0) N.n) N.n := by
 have hn : 1 < N.n := by simp only [Nt.n]; omega
 have e1 : sumN (fun u => sumN (fun v => if s u = true then flo N dec r u v else 0) N.n) N.n = val := by
  have : sumN (fun u => sumN (fun v => if s u = true then flo N dec r u v else 0) N.n) N.n = sumN (fun u => if u = 0 then val else 0) N.n := by
   refine sumN_congr fun u hu => ?_
   by_cases hs : s u = true
   ·simp only [hs,if_true]
    by_cases e0 : u = 0
    ·subst e0; rw [if_pos rfl]; exact h.fsrc
    ·rw [if_neg e0]; exact h.frow hu e0 fun e => by subst e; rw [h1] at hs; cases hs
   ·simp only [hs]
    rw [if_neg (fun e : u = 0 => hs (by rw [e]; exact h0))]
    exact sumN_zero _
  rw [this,sumN_one,if_pos (by omega)]
 have e2 : sumN (fun u => sumN (fun v => if s u = true ∧ s v = true then flo N dec r u v else 0) N.n) N.n = 0 := by
  refine sumN_skew fun i hi j hj => ?_
  have := h.fsk hi hj
  by_cases ha : s i = true <;> by_cases hb : s j = true <;> simp [ha,hb]
  exact this
 have e3 : sumN (fun u => sumN (fun v => if s u = true then flo N dec r u v else 0) N.n) N.n =
   sumN (fun u => sumN (fun v => if s u = true ∧ s v = true then flo N dec r u v else 0) N.n) N.n + sumN (fun u => sumN (fun v => if s u = true ∧ s v = false then flo N dec r u v else 0) N.n) N.n := by
  rw [← sumN_add]
  refine sumN_congr fun u hu => ?_
  rw [← sumN_add]
  refine sumN_congr fun v hv => ?_
  by_cases ha : s u = true <;> by_cases hb : s v = true <;> simp [ha,hb]
 omega
theorem FlowOk.closed (h : FlowOk N dec r val) (h' : FlowOk N dec r' val) {s : Nat → Bool} (h0 : s 0 = true) (h1 : s 1 = false) (hc : Clo N.n s r) : Clo N.n s r' := by
 intro u hu hsu v hv hr
 cases hsv : s v with
 | true => rfl
 | false =>
  exfalso
  have e1 := h.cut h0 h1 hc
  have e2 := h'.net h0 h1
  have hle : ∀ a,a < N.n → ∀ b,b < N.n → (if s a = true ∧ s b = false then flo N dec r' a b else 0) ≤ if s a = true ∧ s b = false then N.cap (dec a) (dec b) else 0 := by
   intro a ha b hb
   split
   ·exact h'.fle ha hb
   ·exact Int.le_refl _
  have hlt : sumN (fun b => if s u = true ∧ s b = false then flo N dec r' u b else 0) N.n < sumN (fun b => if s u = true ∧ s b = false then N.cap (dec u) (dec b) else 0) N.n := by
   refine sumN_lt (hle u hu) hv ?_
   rw [if_pos ⟨hsu,hsv⟩,if_pos ⟨hsu,hsv⟩]
   simp only [flo]; omega
  have := sumN_lt (f := fun a => sumN (fun b => if s a = true ∧ s b = false then flo N dec r' a b else 0) N.n) (g := fun a => sumN (fun b => if s a = true ∧ s b = false then N.cap (dec a) (dec b) else 0) N.n) (fun a ha => sumN_le (hle a ha)) hu hlt
  omega
end
section
variable {N : Nt} {dec : Nat → Nd} {enc : Nd → Nat}
def LCut (N : Nt) (dec : Nat → Nd) (u : Nat) : Prop := ∀ r s,FlowOk N dec r (maxP N) → s 0 = true → s 1 = false → Clo N.n s r → s u = true
theorem lcut_sn {r : Nat → Nat → Int} {val : Int} {sn' : Nat → Bool} {r' : Nat → Nat → Int} (hC : Cod N dec enc) (hg : ∀ h,N.fr h = true → N.gf h = true) (hun : ∀ j,0 ≤ N.un j) (h : FlowOk N dec r val) {sn : Nat → Bool} (hs0 : ∀ u,u < N.n → sn u = false) (hp : PushPost N.n sn 0 r false r' sn') {u : Nat} (hu : u < N.n) : LCut N dec u ↔ sn' u = true := by
 have hn : 1 < N.n := by simp only [Nt.n]; omega
 obtain ⟨_,a2,a3,a4⟩ := hp.ff rfl
 have hc : Clo N.n sn' r := fun u hu hs v hv h0 => a4 u hu hs (hs0 u hu) v hv h0
 have hm := maxP_eq (h.most hC hg hun a2 a3 hc)
 have h' : FlowOk N dec r (maxP N) := by rw [hm]; exact h
 constructor
 ·intro hl; exact hl r sn' h' a2 a3 hc
 ·intro hs r2 s2 h2 e0 e1 hc2
  exact hp.rch rfl s2 e0 (h2.closed h' e0 e1 hc2) u hu hs (hs0 u hu)
end
end Go.Proofs.Ytlapepdhkomijaa
