/- Prices that prove a sum: the reference's Proof and Proves. No condition. -/
import Derived.Test.YtlieoghhkioflaaDBid
import Derived.Test.YtlieoghhkioflaaDPrv
set_option linter.unusedSimpArgs false
set_option linter.unusedVariables false
namespace Go.Proofs.Ytlieoghhkioflaa
open Go Go.RowKit
variable {G : Nat → Option (Nat × (Nat → Val))}
abbrev Bds' := Nat × (Nat → Bd)
abbrev Pcs := Nat × (Nat → Pc)
def anyN (c : Nat → Bool) : Nat → Bool
 | 0 => false
 | i + 1 => anyN c i || c i
theorem anyN_iff (c : Nat → Bool) : ∀ n,anyN c n = true ↔ ∃ i,i < n ∧ c i = true
 | 0 => by simp [anyN]
 | n + 1 => by
  rw [anyN,Bool.or_eq_true,anyN_iff c n]
  constructor
  ·rintro (⟨i,h,k⟩ | h)
   ·exact ⟨i,by omega,k⟩
   ·exact ⟨n,by omega,h⟩
  ·rintro ⟨i,h,k⟩
   by_cases e : i = n
   ·subst e; exact .inr k
   ·exact .inl ⟨i,by omega,k⟩
def eA (t : Tu) (p : Pcs) : Nat → Int
 | 0 => t.fro
 | j + 1 => (p.2 j).turn.til
abbrev pA (p : Pcs) (j : Nat) : Int := (p.2 j).baisa
def PstOk (t : Tu) (p : Pcs) (j : Nat) : Prop := (p.2 j).turn.fro = eA t p j ∧ eA t p j < (p.2 j).turn.til ∧ (p.2 j).turn.til ≤ t.til ∧ 0 ≤ pA p j ∧ pA p j ≤ 12000000000
def PchOk (t : Tu) (p : Pcs) : Prop := (∀ j,j < p.1 → PstOk t p j) ∧ eA t p p.1 = t.til
def hasF (p : Pcs) (x : Int) (i : Nat) : Bool := decide ((p.2 i).turn.fro = x)
def hasT (p : Pcs) (x : Int) (i : Nat) : Bool := decide ((p.2 i).turn.til = x)
def BpOk (t : Tu) (p : Pcs) (b : Bd) : Prop := anyN (hasF p b.turn.fro) p.1 = true ∧ anyN (hasT p b.turn.til) p.1 = true ∧ b.baisa ≤ cst (eA t p) (pA p) b.turn.fro b.turn.til p.1
def PrOk (t : Tu) (b : Bds') (p : Pcs) : Prop := p.1 ≤ 60 ∧ PchOk t p ∧ ∀ k,k < b.1 → BpOk t p (b.2 k)
noncomputable def prvB (t : Tu) (b : Bds') (p : Pcs) : Int × Bool := if decP (PrOk t b p) = true then (pre (pA p) p.1,true) else (0,false)
noncomputable def sProof : Spec := spec3 TTu (TSl RBd) (TSl RPc) (fun _ _ _ => True) fun t b p => .tup (.cons (.int .i64 (prvB t b p).1) (.cons (.bool (prvB t b p).2) .nil))
theorem pre_le (t : Tu) (p : Pcs) : ∀ j,(∀ i,i < j → PstOk t p i) → 0 ≤ pre (pA p) j ∧ pre (pA p) j ≤ j * 12000000000
 | 0,_ => by simp [pre]
 | j + 1,h => by
  have ih := pre_le t p j fun i hi => h i (by omega)
  obtain ⟨_,_,_,q1,q2⟩ := h j (by omega)
  rw [pre]; omega
theorem cst_le (t : Tu) (p : Pcs) (x y : Int) : ∀ j,(∀ i,i < j → PstOk t p i) → 0 ≤ cst (eA t p) (pA p) x y j ∧ cst (eA t p) (pA p) x y j ≤ j * 12000000000
 | 0,_ => by simp [cst]
 | j + 1,h => by
  have ih := cst_le t p x y j fun i hi => h i (by omega)
  obtain ⟨_,_,_,q1,q2⟩ := h j (by omega)
  rw [cst]
  split <;> omega
set_option maxRecDepth 100000 in
theorem pProof : PureOk Try.prog G 34 sProof := by
 refine fn3 (S := []) (I := [(49,a49)]) mixed .nil (.cons Try.func49 c49 .nil) Try.func34 c34 fun t b p _ hw => ?_
 simp only [↓reduceIte,reduceCtorEq,Nat.reduceEqDiff,Nat.reduceAdd,Nat.reduceSub,Nat.reduceLeDiff,Nat.reduceMul,Nat.reduceLT,Int.reduceToNat,Int.reduceLT,Int.reduceLE,Int.reduceEq,Int.reduceNeg,Int.reduceMul,Int.reduceAdd,Int.reduceSub,Int.reduceNe,Int.reduceBEq,Int.reduceBNe,Nat.reducePow,go_sem] at hw
 obtain ⟨w1,w2⟩ := hw
 have no : ¬ PrOk t b p → prvB t b p = (0,false) := fun h => by rw [prvB,decP_f h]; rfl
 by_cases hm : 60 < p.1
 ·have fm : ((p.1 : Int) > 60) = True := eq_true (by omega)
  rw [no (fun h => by have := h.1; omega)]
  simp only [RunTo,a34,fm,w1,w2,↓reduceIte,reduceCtorEq,Nat.reduceEqDiff,Nat.reduceAdd,Nat.reduceSub,Nat.reduceLeDiff,Nat.reduceMul,Nat.reduceLT,Int.reduceToNat,Int.reduceLT,Int.reduceLE,Int.reduceEq,Int.reduceNeg,Int.reduceMul,Int.reduceAdd,Int.reduceSub,Int.reduceNe,Int.reduceBEq,Int.reduceBNe,Nat.reducePow,go_sem]
 ·have fm : ((p.1 : Int) > 60) = False := eq_false (by omega)
  simp only [RunTo,a34,fm,w1,w2,↓reduceIte,reduceCtorEq,Nat.reduceEqDiff,Nat.reduceAdd,Nat.reduceSub,Nat.reduceLeDiff,Nat.reduceMul,Nat.reduceLT,Int.reduceToNat,Int.reduceLT,Int.reduceLE,Int.reduceEq,Int.reduceNeg,Int.reduceMul,Int.reduceAdd,Int.reduceSub,Int.reduceNe,Int.reduceBEq,Int.reduceBNe,Nat.reducePow,go_sem]
  refine loopI (ι := Nat) (fun j => j ≤ p.1 ∧ ∀ i,i < j → PstOk t p i) (fun j => p.1 - j) [1,2,3] (fun j => [(8,.int .i64 (eA t p j)),(9,.int .i64 (pre (pA p) j)),(10,.int .i64 j)]) (fun _ => []) 0 ⟨by omega,fun i h => by omega⟩ (by simp only [eA,pre,↓reduceIte,reduceCtorEq,Nat.reduceEqDiff,Nat.reduceAdd,Nat.reduceSub,Nat.reduceLeDiff,Nat.reduceMul,Nat.reduceLT,Int.reduceToNat,Int.reduceLT,Int.reduceLE,Int.reduceEq,Int.reduceNeg,Int.reduceMul,Int.reduceAdd,Int.reduceSub,Int.reduceNe,Int.reduceBEq,Int.reduceBNe,Nat.reducePow,go_sem]; try trace_state) fun j hj => ?_
  obtain ⟨hj1,hj2⟩ := hj
  by_cases hjl : j < p.1
  ·have fj : ((j : Int) < (p.1 : Int)) = True := eq_true (by omega)
   have hpre := pre_le t p j hj2
   have noj : ¬ PstOk t p j → prvB t b p = (0,false) := fun h => no fun h2 => h (h2.2.1.1 j hjl)
   simp only [fj,a49,w1,w2,↓reduceIte,reduceCtorEq,Nat.reduceEqDiff,Nat.reduceAdd,Nat.reduceSub,Nat.reduceLeDiff,Nat.reduceMul,Nat.reduceLT,Int.reduceToNat,Int.reduceLT,Int.reduceLE,Int.reduceEq,Int.reduceNeg,Int.reduceMul,Int.reduceAdd,Int.reduceSub,Int.reduceNe,Int.reduceBEq,Int.reduceBNe,Nat.reducePow,go_sem]
   refine ⟨by omega,?_⟩
   have hsuc : eA t p (j + 1) = (p.2 j).turn.til := rfl
   have hpr : pre (pA p) (j + 1) = pre (pA p) j + (p.2 j).baisa := rfl
   have out : ¬ PstOk t p j → (0 = (prvB t b p).1 ∧ false = (prvB t b p).2) := fun h => by rw [noj h]; exact ⟨rfl,rfl⟩
   refine ⟨fun c1 => out fun h => c1 h.1,fun c1 => ⟨fun c2 => out fun h => by have := h.2.1; omega,fun c2 => ⟨fun c3 => out fun h => by have := h.2.2.1; omega,fun c3 => ⟨fun c4 => ⟨fun c5 => out fun h => c5 h.2.2.2.2,fun c5 => ?_⟩,fun c4 => out fun h => by have := h.2.2.2.1; unfold pA at this; omega⟩⟩⟩⟩
   refine inv_intro (j + 1) ⟨hjl,fun i hi => ?_⟩ (by omega) ?_
   ·by_cases e : i = j
    ·subst e; exact ⟨c1,by omega,by omega,by unfold pA; omega,c5⟩
    ·exact hj2 i (by omega)
   ·rw [hsuc,hpr]
    simp only [↓reduceIte,reduceCtorEq,Nat.reduceEqDiff,Nat.reduceAdd,Nat.reduceSub,Nat.reduceLeDiff,Nat.reduceMul,Nat.reduceLT,Int.reduceToNat,Int.reduceLT,Int.reduceLE,Int.reduceEq,Int.reduceNeg,Int.reduceMul,Int.reduceAdd,Int.reduceSub,Int.reduceNe,Int.reduceBEq,Int.reduceBNe,Nat.reducePow,go_sem]
    exact ⟨wr64 (by omega) (by omega),wrS (by omega)⟩
  ·have fj : ((j : Int) < (p.1 : Int)) = False := eq_false (by omega)
   obtain rfl : j = p.1 := by omega
   by_cases hE : eA t p p.1 = t.til
   ·simp only [fj,hE,w1,w2,↓reduceIte,reduceCtorEq,Nat.reduceEqDiff,Nat.reduceAdd,Nat.reduceSub,Nat.reduceLeDiff,Nat.reduceMul,Nat.reduceLT,Int.reduceToNat,Int.reduceLT,Int.reduceLE,Int.reduceEq,Int.reduceNeg,Int.reduceMul,Int.reduceAdd,Int.reduceSub,Int.reduceNe,Int.reduceBEq,Int.reduceBNe,Nat.reducePow,go_sem]
    refine loopI (ι := Nat) (fun k => k ≤ b.1 ∧ ∀ i,i < k → BpOk t p (b.2 i)) (fun k => b.1 - k) [1,2,9] (fun k => [(12,.int .i64 k)]) (fun _ => []) 0 ⟨by omega,fun i h => by omega⟩ (by simp only [↓reduceIte,reduceCtorEq,Nat.reduceEqDiff,Nat.reduceAdd,Nat.reduceSub,Nat.reduceLeDiff,Nat.reduceMul,Nat.reduceLT,Int.reduceToNat,Int.reduceLT,Int.reduceLE,Int.reduceEq,Int.reduceNeg,Int.reduceMul,Int.reduceAdd,Int.reduceSub,Int.reduceNe,Int.reduceBEq,Int.reduceBNe,Nat.reducePow,go_sem]; try trace_state) fun k hk => ?_
    obtain ⟨hk1,hk2⟩ := hk
    by_cases hkl : k < b.1
    ·have fk : ((k : Int) < (b.1 : Int)) = True := eq_true (by omega)
     have nok : ¬ BpOk t p (b.2 k) → (0 = (prvB t b p).1 ∧ false = (prvB t b p).2) := fun h => by rw [no (fun h2 => h (h2.2.2 k hkl))]; exact ⟨rfl,rfl⟩
     simp only [fk,w1,w2,↓reduceIte,reduceCtorEq,Nat.reduceEqDiff,Nat.reduceAdd,Nat.reduceSub,Nat.reduceLeDiff,Nat.reduceMul,Nat.reduceLT,Int.reduceToNat,Int.reduceLT,Int.reduceLE,Int.reduceEq,Int.reduceNeg,Int.reduceMul,Int.reduceAdd,Int.reduceSub,Int.reduceNe,Int.reduceBEq,Int.reduceBNe,Nat.reducePow,go_sem]
     refine ⟨by omega,?_⟩
     refine loopI (ι := Nat) (fun i => i ≤ p.1) (fun i => p.1 - i) [1,2,9,12,13] (fun i => [(14,.bool (anyN (hasF p (b.2 k).turn.fro) i)),(15,.bool (anyN (hasT p (b.2 k).turn.til) i)),(16,.int .i64 (cst (eA t p) (pA p) (b.2 k).turn.fro (b.2 k).turn.til i)),(17,.int .i64 i)]) (fun _ => []) 0 (Nat.zero_le _) (by simp only [anyN,cst,↓reduceIte,reduceCtorEq,Nat.reduceEqDiff,Nat.reduceAdd,Nat.reduceSub,Nat.reduceLeDiff,Nat.reduceMul,Nat.reduceLT,Int.reduceToNat,Int.reduceLT,Int.reduceLE,Int.reduceEq,Int.reduceNeg,Int.reduceMul,Int.reduceAdd,Int.reduceSub,Int.reduceNe,Int.reduceBEq,Int.reduceBNe,Nat.reducePow,go_sem]; try trace_state) fun i hi => ?_
     by_cases hil : i < p.1
     ·have fi : ((i : Int) < (p.1 : Int)) = True := eq_true (by omega)
      have hc := cst_le t p (b.2 k).turn.fro (b.2 k).turn.til i (fun y hy => hj2 y (by omega))
      have hst := hj2 i hil
      obtain ⟨s1,s2,s3,s4,s5⟩ := hst
      have a1 : anyN (hasF p (b.2 k).turn.fro) (i + 1) = (anyN (hasF p (b.2 k).turn.fro) i || decide ((p.2 i).turn.fro = (b.2 k).turn.fro)) := rfl
      have a2 : anyN (hasT p (b.2 k).turn.til) (i + 1) = (anyN (hasT p (b.2 k).turn.til) i || decide ((p.2 i).turn.til = (b.2 k).turn.til)) := rfl
      have a3 : cst (eA t p) (pA p) (b.2 k).turn.fro (b.2 k).turn.til (i + 1) = cst (eA t p) (pA p) (b.2 k).turn.fro (b.2 k).turn.til i + (if (b.2 k).turn.fro ≤ (p.2 i).turn.fro ∧ (p.2 i).turn.til ≤ (b.2 k).turn.til then (p.2 i).baisa else 0) := by rw [s1]; rfl
      have s4' : 0 ≤ (p.2 i).baisa := s4
      have s5' : (p.2 i).baisa ≤ 12000000000 := s5
      generalize anyN (hasF p (b.2 k).turn.fro) i = A at *
      generalize anyN (hasT p (b.2 k).turn.til) i = B at *
      generalize cst (eA t p) (pA p) (b.2 k).turn.fro (b.2 k).turn.til i = C at *
      simp only [fi,w1,w2,↓reduceIte,reduceCtorEq,Nat.reduceEqDiff,Nat.reduceAdd,Nat.reduceSub,Nat.reduceLeDiff,Nat.reduceMul,Nat.reduceLT,Int.reduceToNat,Int.reduceLT,Int.reduceLE,Int.reduceEq,Int.reduceNeg,Int.reduceMul,Int.reduceAdd,Int.reduceSub,Int.reduceNe,Int.reduceBEq,Int.reduceBNe,Nat.reducePow,go_sem]
      repeat' (first | omega | (with_reducible apply And.intro) | intro _)
      all_goals
       refine inv_intro (i + 1) hil (by omega) ?_
       rw [a1,a2,a3]
       simp only [↓reduceIte,reduceCtorEq,Nat.reduceEqDiff,Nat.reduceAdd,Nat.reduceSub,Nat.reduceLeDiff,Nat.reduceMul,Nat.reduceLT,Int.reduceToNat,Int.reduceLT,Int.reduceLE,Int.reduceEq,Int.reduceNeg,Int.reduceMul,Int.reduceAdd,Int.reduceSub,Int.reduceNe,Int.reduceBEq,Int.reduceBNe,Nat.reducePow,go_sem]
       refine ⟨?_,?_,?_,wrS (by omega)⟩
       ·first
         | (simp [*]; done)
         | (show decide (_ = _) = _; simp [*]; done)
         | skip
       ·first
         | (simp [*]; done)
         | (show decide (_ = _) = _; simp [*]; done)
         | skip
       ·first
         | (rw [if_pos ⟨by omega,by omega⟩]; exact wr64 (by omega) (by omega))
         | (rw [if_neg (fun h => by omega)]; omega)
         | skip
     ·have fi : ((i : Int) < (p.1 : Int)) = False := eq_false (by omega)
      obtain rfl : i = p.1 := by omega
      by_cases hB : BpOk t p (b.2 k)
      ·obtain ⟨y1,y2,y3⟩ := hB
       have y3' : ((b.2 k).baisa > cst (eA t p) (pA p) (b.2 k).turn.fro (b.2 k).turn.til p.1) = False := eq_false (by omega)
       simp only [fi,y1,y2,y3',w1,w2,↓reduceIte,reduceCtorEq,Nat.reduceEqDiff,Nat.reduceAdd,Nat.reduceSub,Nat.reduceLeDiff,Nat.reduceMul,Nat.reduceLT,Int.reduceToNat,Int.reduceLT,Int.reduceLE,Int.reduceEq,Int.reduceNeg,Int.reduceMul,Int.reduceAdd,Int.reduceSub,Int.reduceNe,Int.reduceBEq,Int.reduceBNe,Nat.reducePow,go_sem]
       refine ⟨by omega,by omega,inv_intro (k + 1) ⟨hkl,fun i hi => ?_⟩ (by omega) ?_⟩
       ·by_cases e : i = k
        ·subst e; exact ⟨y1,y2,y3⟩
        ·exact hk2 i (by omega)
       ·simp only [↓reduceIte,reduceCtorEq,Nat.reduceEqDiff,Nat.reduceAdd,Nat.reduceSub,Nat.reduceLeDiff,Nat.reduceMul,Nat.reduceLT,Int.reduceToNat,Int.reduceLT,Int.reduceLE,Int.reduceEq,Int.reduceNeg,Int.reduceMul,Int.reduceAdd,Int.reduceSub,Int.reduceNe,Int.reduceBEq,Int.reduceBNe,Nat.reducePow,go_sem]
        exact wrS (by omega)
      ·have nk := nok hB
       have hn : ∀ (h1 : anyN (hasF p (b.2 k).turn.fro) p.1 = true) (h2 : anyN (hasT p (b.2 k).turn.til) p.1 = true),¬ (b.2 k).baisa ≤ cst (eA t p) (pA p) (b.2 k).turn.fro (b.2 k).turn.til p.1 := fun h1 h2 h3 => hB ⟨h1,h2,h3⟩
       simp only [fi,w1,w2,↓reduceIte,reduceCtorEq,Nat.reduceEqDiff,Nat.reduceAdd,Nat.reduceSub,Nat.reduceLeDiff,Nat.reduceMul,Nat.reduceLT,Int.reduceToNat,Int.reduceLT,Int.reduceLE,Int.reduceEq,Int.reduceNeg,Int.reduceMul,Int.reduceAdd,Int.reduceSub,Int.reduceNe,Int.reduceBEq,Int.reduceBNe,Nat.reducePow,go_sem]
       repeat' (first | exact nk | omega | (with_reducible apply And.intro) | intro _)
       all_goals exact absurd (by omega) (hn (by assumption) (by assumption))
    ·have fk : ((k : Int) < (b.1 : Int)) = False := eq_false (by omega)
     obtain rfl : k = b.1 := by omega
     have yes : prvB t b p = (pre (pA p) p.1,true) := by rw [prvB,decP_t ⟨by omega,⟨hj2,hE⟩,hk2⟩]; rfl
     rw [yes]
     simp only [fk,w1,w2,↓reduceIte,reduceCtorEq,Nat.reduceEqDiff,Nat.reduceAdd,Nat.reduceSub,Nat.reduceLeDiff,Nat.reduceMul,Nat.reduceLT,Int.reduceToNat,Int.reduceLT,Int.reduceLE,Int.reduceEq,Int.reduceNeg,Int.reduceMul,Int.reduceAdd,Int.reduceSub,Int.reduceNe,Int.reduceBEq,Int.reduceBNe,Nat.reducePow,go_sem]
   ·rw [no (fun h => hE h.2.1.2)]
    simp only [fj,hE,w1,w2,↓reduceIte,reduceCtorEq,Nat.reduceEqDiff,Nat.reduceAdd,Nat.reduceSub,Nat.reduceLeDiff,Nat.reduceMul,Nat.reduceLT,Int.reduceToNat,Int.reduceLT,Int.reduceLE,Int.reduceEq,Int.reduceNeg,Int.reduceMul,Int.reduceAdd,Int.reduceSub,Int.reduceNe,Int.reduceBEq,Int.reduceBNe,Nat.reducePow,go_sem]
noncomputable def prvR (t : Tu) (b : Bds') (p : Pcs) : Int × Int := if offB t b = 0 then (if (prvB t b p).2 = true then ((prvB t b p).1,0) else (0,44)) else (0,offB t b)
noncomputable def sProves : Spec := spec3 TTu (TSl RBd) (TSl RPc) (fun _ _ _ => True) fun t b p => .tup (.cons (.int .i64 (prvR t b p).1) (.cons (.int .i64 (prvR t b p).2) .nil))
set_option maxRecDepth 100000 in
theorem pProvesR : PureOk Try.prog G 10 sProves := by
 refine fn3 (S := [(27,sOff),(34,sProof)]) (I := []) mixed (.cons pBids4 (.cons pProof .nil)) .nil Try.func10 c10 fun t b p _ hw => ?_
 simp only [↓reduceIte,reduceCtorEq,Nat.reduceEqDiff,Nat.reduceAdd,Nat.reduceSub,Nat.reduceLeDiff,Nat.reduceMul,Nat.reduceLT,Int.reduceToNat,Int.reduceLT,Int.reduceLE,Int.reduceEq,Int.reduceNeg,Int.reduceMul,Int.reduceAdd,Int.reduceSub,Int.reduceNe,Int.reduceBEq,Int.reduceBNe,Nat.reducePow,go_sem] at hw
 obtain ⟨w1,w2⟩ := hw
 unfold prvR
 by_cases h0 : offB t b = 0
 ·rw [if_pos h0]
  cases h2 : (prvB t b p).2 with
  | true => simp only [RunTo,a10,sOff,sProof,h0,h2,w1,w2,↓reduceIte,reduceCtorEq,Nat.reduceEqDiff,Nat.reduceAdd,Nat.reduceSub,Nat.reduceLeDiff,Nat.reduceMul,Nat.reduceLT,Int.reduceToNat,Int.reduceLT,Int.reduceLE,Int.reduceEq,Int.reduceNeg,Int.reduceMul,Int.reduceAdd,Int.reduceSub,Int.reduceNe,Int.reduceBEq,Int.reduceBNe,Nat.reducePow,go_sem]
  | false => simp only [RunTo,a10,sOff,sProof,h0,h2,w1,w2,Bool.false_eq_true,if_false,↓reduceIte,reduceCtorEq,Nat.reduceEqDiff,Nat.reduceAdd,Nat.reduceSub,Nat.reduceLeDiff,Nat.reduceMul,Nat.reduceLT,Int.reduceToNat,Int.reduceLT,Int.reduceLE,Int.reduceEq,Int.reduceNeg,Int.reduceMul,Int.reduceAdd,Int.reduceSub,Int.reduceNe,Int.reduceBEq,Int.reduceBNe,Nat.reducePow,go_sem]
 ·rw [if_neg h0]
  simp only [RunTo,a10,sOff,sProof,h0,w1,w2,↓reduceIte,reduceCtorEq,Nat.reduceEqDiff,Nat.reduceAdd,Nat.reduceSub,Nat.reduceLeDiff,Nat.reduceMul,Nat.reduceLT,Int.reduceToNat,Int.reduceLT,Int.reduceLE,Int.reduceEq,Int.reduceNeg,Int.reduceMul,Int.reduceAdd,Int.reduceSub,Int.reduceNe,Int.reduceBEq,Int.reduceBNe,Nat.reducePow,go_sem]
end Go.Proofs.Ytlieoghhkioflaa
