/- Prices that prove a sum: the program's Proves. No condition. -/
import Derived.Test.YtlieoghhkioflaaDBid2
import Derived.Test.YtlieoghhkioflaaDPrf
set_option linter.unusedSimpArgs false
set_option linter.unusedVariables false
namespace Go.Proofs.Ytlieoghhkioflaa
open Go Go.RowKit
variable {G : Nat → Option (Nat × (Nat → Val))}
set_option maxRecDepth 100000 in
theorem pProvesP : PureOk Try.prog G 9 sProves := by
 refine fn3 (S := [(20,sOff)]) (I := [(32,a32),(33,a33)]) mixed (.cons pOffered .nil) (.cons Try.func32 c32 (.cons Try.func33 c33 .nil)) Try.func9 c9 fun t b p _ hw => ?_
 simp only [↓reduceIte,reduceCtorEq,Nat.reduceEqDiff,Nat.reduceAdd,Nat.reduceSub,Nat.reduceLeDiff,Nat.reduceMul,Nat.reduceLT,Int.reduceToNat,Int.reduceLT,Int.reduceLE,Int.reduceEq,Int.reduceNeg,Int.reduceMul,Int.reduceAdd,Int.reduceSub,Int.reduceNe,Int.reduceBEq,Int.reduceBNe,Nat.reducePow,go_sem] at hw
 obtain ⟨w1,w2⟩ := hw
 by_cases h0 : offB t b = 0
 ·have hoff : TuOk t ∧ ∀ i,i < b.1 → BdOk t (b.2 i) := by
   unfold offB at h0
   split at h0
   ·rename_i ht
    refine ⟨decP_true.1 ht,?_⟩
    split at h0
    ·exact absurd h0 (by decide)
    ·split at h0
     ·rename_i hb; exact decP_true.1 hb
     ·exact absurd h0 (by decide)
   ·exact absurd h0 (by decide)
  obtain ⟨ht,hb⟩ := hoff
  have hR : prvR t b p = if (prvB t b p).2 = true then ((prvB t b p).1,0) else (0,44) := by rw [prvR,if_pos h0]
  have no : ¬ PrOk t b p → prvR t b p = (0,44) := fun h => by rw [hR,prvB,decP_f h]; rfl
  have yes : PrOk t b p → prvR t b p = (pre (pA p) p.1,0) := fun h => by rw [hR,prvB,decP_t h]; rfl
  have bad : ¬ PrOk t b p → (0 = (prvR t b p).1 ∧ 44 = (prvR t b p).2) := fun h => by rw [no h]; exact ⟨rfl,rfl⟩
  by_cases hm : 60 < p.1
  ·have fm : ((p.1 : Int) > 60) = True := eq_true (by omega)
   rw [no (fun h => by have := h.1; omega)]
   simp only [RunTo,a9,sOff,h0,fm,w1,w2,↓reduceIte,reduceCtorEq,Nat.reduceEqDiff,Nat.reduceAdd,Nat.reduceSub,Nat.reduceLeDiff,Nat.reduceMul,Nat.reduceLT,Int.reduceToNat,Int.reduceLT,Int.reduceLE,Int.reduceEq,Int.reduceNeg,Int.reduceMul,Int.reduceAdd,Int.reduceSub,Int.reduceNe,Int.reduceBEq,Int.reduceBNe,Nat.reducePow,go_sem]
  ·have fm : ((p.1 : Int) > 60) = False := eq_false (by omega)
   simp only [RunTo,a9,a32,a33,sOff,h0,fm,w1,w2,↓reduceIte,reduceCtorEq,Nat.reduceEqDiff,Nat.reduceAdd,Nat.reduceSub,Nat.reduceLeDiff,Nat.reduceMul,Nat.reduceLT,Int.reduceToNat,Int.reduceLT,Int.reduceLE,Int.reduceEq,Int.reduceNeg,Int.reduceMul,Int.reduceAdd,Int.reduceSub,Int.reduceNe,Int.reduceBEq,Int.reduceBNe,Nat.reducePow,go_sem]
   refine loopI (ι := Nat) (fun j => j ≤ p.1 ∧ ∀ i,i < j → PstOk t p i) (fun j => p.1 - j) [1,3,9,10,37,38] (fun j => [(39,.int .i64 j)]) (fun j => [(1,.mp .i64 (fun k => (unt (eA t p) (pA p) j k).isSome) (fun k => .int .i64 ((unt (eA t p) (pA p) j k).getD 0))),(2,.cells (.cons (.int .i64 t.fro) (.cons (.int .i64 (eA t p j)) .nil)))]) 0 ⟨by omega,fun i h => by omega⟩ (by
    simp only [↓reduceIte,reduceCtorEq,Nat.reduceEqDiff,Nat.reduceAdd,Nat.reduceSub,Nat.reduceLeDiff,Nat.reduceMul,Nat.reduceLT,Int.reduceToNat,Int.reduceLT,Int.reduceLE,Int.reduceEq,Int.reduceNeg,Int.reduceMul,Int.reduceAdd,Int.reduceSub,Int.reduceNe,Int.reduceBEq,Int.reduceBNe,Nat.reducePow,go_sem]
    refine ⟨rfl,fun k => ?_⟩
    by_cases hk : k = t.fro
    ·subst hk
     have e : unt (eA t p) (pA p) 0 t.fro = some 0 := if_pos rfl
     rw [e]; simp
    ·have e : unt (eA t p) (pA p) 0 k = none := if_neg hk
     rw [e]; simp [hk]) fun j hj => ?_
   obtain ⟨hj1,hj2⟩ := hj
   have hun := unt_at (eA t p) (pA p) j
   by_cases hjl : j < p.1
   ·have fj : ((j : Int) < (p.1 : Int)) = True := eq_true (by omega)
    have hpre := pre_le t p j hj2
    simp only [fj,a32,a33,hun,Option.isSome_some,Option.getD_some,w1,w2,↓reduceIte,reduceCtorEq,Nat.reduceEqDiff,Nat.reduceAdd,Nat.reduceSub,Nat.reduceLeDiff,Nat.reduceMul,Nat.reduceLT,Int.reduceToNat,Int.reduceLT,Int.reduceLE,Int.reduceEq,Int.reduceNeg,Int.reduceMul,Int.reduceAdd,Int.reduceSub,Int.reduceNe,Int.reduceBEq,Int.reduceBNe,Nat.reducePow,go_sem]
    have hsuc : eA t p (j + 1) = (p.2 j).turn.til := rfl
    have bj : ¬ PstOk t p j → (0 = (prvR t b p).1 ∧ 44 = (prvR t b p).2) := fun h => bad fun h2 => h (h2.2.1.1 j hjl)
    refine ⟨by omega,fun c1 => bj fun h => c1 h.1,fun c1 => ⟨fun c2 => ⟨fun c3 => ⟨fun c4 => bj fun h => c4 h.2.2.1,fun c4 => ⟨fun c5 => ⟨fun c6 => bj fun h => c6 h.2.2.2.2,fun c6 => ?_⟩,fun c5 => bj fun h => c5 h.2.2.2.1⟩⟩,fun c3 => bj fun h => c3 (by rw [c1]; exact h.2.1)⟩,fun c2 => absurd (by omega) c2⟩⟩
    refine inv_intro (j + 1) ⟨hjl,fun i hi => ?_⟩ (by omega) ?_
    ·by_cases e : i = j
     ·subst e; exact ⟨c1,by omega,c4,c5,c6⟩
     ·exact hj2 i (by omega)
    ·have hw' : IntKind.i64.wrap (pre (pA p) j + (p.2 j).baisa) = pre (pA p) j + (p.2 j).baisa := wr64 (by omega) (by omega)
     simp only [hw',↓reduceIte,reduceCtorEq,Nat.reduceEqDiff,Nat.reduceAdd,Nat.reduceSub,Nat.reduceLeDiff,Nat.reduceMul,Nat.reduceLT,Int.reduceToNat,Int.reduceLT,Int.reduceLE,Int.reduceEq,Int.reduceNeg,Int.reduceMul,Int.reduceAdd,Int.reduceSub,Int.reduceNe,Int.reduceBEq,Int.reduceBNe,Nat.reducePow,go_sem]
     refine ⟨wrS (by omega),hsuc.symm,fun k => ?_⟩
     by_cases hk : k = (p.2 j).turn.til
     ·have e : unt (eA t p) (pA p) (j + 1) k = some (pre (pA p) j + (p.2 j).baisa) := by
       rw [unt,if_pos (by rw [hsuc]; exact hk),hun]; rfl
      rw [e,if_pos hk,if_pos hk]
      exact ⟨rfl,fun _ => rfl⟩
     ·have e : unt (eA t p) (pA p) (j + 1) k = unt (eA t p) (pA p) j k := by
       rw [unt,if_neg (by rw [hsuc]; exact hk)]
      rw [e,if_neg hk,if_neg hk]
      exact ⟨rfl,fun _ => rfl⟩
   ·have fj : ((j : Int) < (p.1 : Int)) = False := eq_false (by omega)
    obtain rfl : j = p.1 := by omega
    by_cases hE : eA t p p.1 = t.til
    ·rw [hE] at hun
     simp only [fj,hE,hun,Option.isSome_some,Option.getD_some,w1,w2,↓reduceIte,reduceCtorEq,Nat.reduceEqDiff,Nat.reduceAdd,Nat.reduceSub,Nat.reduceLeDiff,Nat.reduceMul,Nat.reduceLT,Int.reduceToNat,Int.reduceLT,Int.reduceLE,Int.reduceEq,Int.reduceNeg,Int.reduceMul,Int.reduceAdd,Int.reduceSub,Int.reduceNe,Int.reduceBEq,Int.reduceBNe,Nat.reducePow,go_sem]
     have hris : ∀ j,j < p.1 → eA t p j < eA t p (j + 1) := fun j hj => (hj2 j hj).2.1
     have hany : ∀ k,k < b.1 → (BpOk t p (b.2 k) ↔ ((unt (eA t p) (pA p) p.1 (b.2 k).turn.fro).isSome = true ∧ (unt (eA t p) (pA p) p.1 (b.2 k).turn.til).isSome = true ∧ (b.2 k).baisa ≤ (unt (eA t p) (pA p) p.1 (b.2 k).turn.til).getD 0 - (unt (eA t p) (pA p) p.1 (b.2 k).turn.fro).getD 0)) := fun k hk => by
      obtain ⟨_,⟨b1,b2,b3⟩,_⟩ := hb k hk
      rw [bid_same (eA t p) (pA p) p.1 hris _ _ _ b1 b2 (by rw [hE]; exact b3)]
      unfold BpOk
      rw [anyN_iff,anyN_iff]
      have q1 : (∃ i,i < p.1 ∧ hasF p (b.2 k).turn.fro i = true) ↔ ∃ i,i < p.1 ∧ eA t p i = (b.2 k).turn.fro := by
       constructor
       ·rintro ⟨i,hi,h⟩; exact ⟨i,hi,by rw [← (hj2 i hi).1]; exact of_decide_eq_true h⟩
       ·rintro ⟨i,hi,h⟩; exact ⟨i,hi,decide_eq_true (by rw [(hj2 i hi).1]; exact h)⟩
      have q2 : (∃ i,i < p.1 ∧ hasT p (b.2 k).turn.til i = true) ↔ ∃ i,i < p.1 ∧ eA t p (i + 1) = (b.2 k).turn.til := by
       constructor
       ·rintro ⟨i,hi,h⟩; exact ⟨i,hi,of_decide_eq_true h⟩
       ·rintro ⟨i,hi,h⟩; exact ⟨i,hi,decide_eq_true h⟩
      rw [q1,q2]
     have hbnd : ∀ x,0 ≤ (unt (eA t p) (pA p) p.1 x).getD 0 ∧ (unt (eA t p) (pA p) p.1 x).getD 0 ≤ 720000000000 := fun x => by
      by_cases hx : ∃ a,a ≤ p.1 ∧ x = eA t p a
      ·obtain ⟨a,ha,rfl⟩ := hx
       rw [unt_some _ _ p.1 hris p.1 (Nat.le_refl _) a ha]
       have := pre_le t p a (fun i hi => hj2 i (by omega))
       show 0 ≤ pre (pA p) a ∧ pre (pA p) a ≤ 720000000000
       omega
      ·rw [unt_none _ _ x p.1 fun a ha e => hx ⟨a,ha,e⟩]; exact ⟨by decide,by decide⟩
     refine loopI (ι := Nat) (fun k => k ≤ b.1 ∧ ∀ i,i < k → BpOk t p (b.2 i)) (fun k => b.1 - k) [3,9,84,85] (fun k => [(86,.int .i64 k)]) (fun _ => []) 0 ⟨by omega,fun i h => by omega⟩ (by simp only [↓reduceIte,reduceCtorEq,Nat.reduceEqDiff,Nat.reduceAdd,Nat.reduceSub,Nat.reduceLeDiff,Nat.reduceMul,Nat.reduceLT,Int.reduceToNat,Int.reduceLT,Int.reduceLE,Int.reduceEq,Int.reduceNeg,Int.reduceMul,Int.reduceAdd,Int.reduceSub,Int.reduceNe,Int.reduceBEq,Int.reduceBNe,Nat.reducePow,go_sem]; try trace_state) fun k hk => ?_
     obtain ⟨hk1,hk2⟩ := hk
     by_cases hkl : k < b.1
     ·have fk : ((k : Int) < (b.1 : Int)) = True := eq_true (by omega)
      have bk : ¬ BpOk t p (b.2 k) → (0 = (prvR t b p).1 ∧ 44 = (prvR t b p).2) := fun h => bad fun h2 => h (h2.2.2 k hkl)
      rw [hany k hkl] at bk
      have hok := hany k hkl
      have u1 := hbnd (b.2 k).turn.fro
      have u2 := hbnd (b.2 k).turn.til
      generalize hU : unt (eA t p) (pA p) p.1 (b.2 k).turn.fro = U at *
      generalize hV : unt (eA t p) (pA p) p.1 (b.2 k).turn.til = V at *
      cases U with
      | none =>
       simp only [fk,hU,hV,Option.isSome_some,Option.isSome_none,Option.getD_some,Option.getD_none,w1,w2,↓reduceIte,reduceCtorEq,Nat.reduceEqDiff,Nat.reduceAdd,Nat.reduceSub,Nat.reduceLeDiff,Nat.reduceMul,Nat.reduceLT,Int.reduceToNat,Int.reduceLT,Int.reduceLE,Int.reduceEq,Int.reduceNeg,Int.reduceMul,Int.reduceAdd,Int.reduceSub,Int.reduceNe,Int.reduceBEq,Int.reduceBNe,Nat.reducePow,go_sem]
       have q := bk fun h => by cases h.1
       cases V <;> simp only [hV,Option.isSome_some,Option.isSome_none,Option.getD_some,Option.getD_none,↓reduceIte,reduceCtorEq,Nat.reduceEqDiff,Nat.reduceAdd,Nat.reduceSub,Nat.reduceLeDiff,Nat.reduceMul,Nat.reduceLT,Int.reduceToNat,Int.reduceLT,Int.reduceLE,Int.reduceEq,Int.reduceNeg,Int.reduceMul,Int.reduceAdd,Int.reduceSub,Int.reduceNe,Int.reduceBEq,Int.reduceBNe,Nat.reducePow,go_sem] <;> exact ⟨by omega,q⟩
      | some u => cases V with
       | none =>
        simp only [fk,hU,hV,Option.isSome_some,Option.isSome_none,Option.getD_some,Option.getD_none,w1,w2,↓reduceIte,reduceCtorEq,Nat.reduceEqDiff,Nat.reduceAdd,Nat.reduceSub,Nat.reduceLeDiff,Nat.reduceMul,Nat.reduceLT,Int.reduceToNat,Int.reduceLT,Int.reduceLE,Int.reduceEq,Int.reduceNeg,Int.reduceMul,Int.reduceAdd,Int.reduceSub,Int.reduceNe,Int.reduceBEq,Int.reduceBNe,Nat.reducePow,go_sem]
        exact ⟨by omega,bk fun h => by cases h.2.1⟩
       | some v =>
        have u1' : 0 ≤ u ∧ u ≤ 720000000000 := u1
        have u2' : 0 ≤ v ∧ v ≤ 720000000000 := u2
        have hw' : IntKind.i64.wrap (v - u) = v - u := wr64 (by omega) (by omega)
        simp only [fk,hU,hV,hw',Option.isSome_some,Option.isSome_none,Option.getD_some,Option.getD_none,w1,w2,↓reduceIte,reduceCtorEq,Nat.reduceEqDiff,Nat.reduceAdd,Nat.reduceSub,Nat.reduceLeDiff,Nat.reduceMul,Nat.reduceLT,Int.reduceToNat,Int.reduceLT,Int.reduceLE,Int.reduceEq,Int.reduceNeg,Int.reduceMul,Int.reduceAdd,Int.reduceSub,Int.reduceNe,Int.reduceBEq,Int.reduceBNe,Nat.reducePow,go_sem]
        refine ⟨by omega,fun c => bk fun h => ?_,fun c => inv_intro (k + 1) ⟨hkl,fun i hi => ?_⟩ (by omega) ?_⟩
        ·have h3 : (b.2 k).baisa ≤ v - u := h.2.2
         omega
        ·by_cases e : i = k
         ·subst e
          exact hok.2 ⟨rfl,rfl,by show (b.2 i).baisa ≤ v - u; omega⟩
         ·exact hk2 i (by omega)
        ·simp only [↓reduceIte,reduceCtorEq,Nat.reduceEqDiff,Nat.reduceAdd,Nat.reduceSub,Nat.reduceLeDiff,Nat.reduceMul,Nat.reduceLT,Int.reduceToNat,Int.reduceLT,Int.reduceLE,Int.reduceEq,Int.reduceNeg,Int.reduceMul,Int.reduceAdd,Int.reduceSub,Int.reduceNe,Int.reduceBEq,Int.reduceBNe,Nat.reducePow,go_sem]
         exact wrS (by omega)
     ·have fk : ((k : Int) < (b.1 : Int)) = False := eq_false (by omega)
      obtain rfl : k = b.1 := by omega
      rw [yes ⟨by omega,⟨hj2,hE⟩,hk2⟩]
      simp only [fk,hun,Option.isSome_some,Option.getD_some,w1,w2,↓reduceIte,reduceCtorEq,Nat.reduceEqDiff,Nat.reduceAdd,Nat.reduceSub,Nat.reduceLeDiff,Nat.reduceMul,Nat.reduceLT,Int.reduceToNat,Int.reduceLT,Int.reduceLE,Int.reduceEq,Int.reduceNeg,Int.reduceMul,Int.reduceAdd,Int.reduceSub,Int.reduceNe,Int.reduceBEq,Int.reduceBNe,Nat.reducePow,go_sem]
    ·rw [no (fun h => hE h.2.1.2)]
     simp only [fj,hE,w1,w2,↓reduceIte,reduceCtorEq,Nat.reduceEqDiff,Nat.reduceAdd,Nat.reduceSub,Nat.reduceLeDiff,Nat.reduceMul,Nat.reduceLT,Int.reduceToNat,Int.reduceLT,Int.reduceLE,Int.reduceEq,Int.reduceNeg,Int.reduceMul,Int.reduceAdd,Int.reduceSub,Int.reduceNe,Int.reduceBEq,Int.reduceBNe,Nat.reducePow,go_sem]
 ·rw [prvR,if_neg h0]
  simp only [RunTo,a9,sOff,h0,w1,w2,↓reduceIte,reduceCtorEq,Nat.reduceEqDiff,Nat.reduceAdd,Nat.reduceSub,Nat.reduceLeDiff,Nat.reduceMul,Nat.reduceLT,Int.reduceToNat,Int.reduceLT,Int.reduceLE,Int.reduceEq,Int.reduceNeg,Int.reduceMul,Int.reduceAdd,Int.reduceSub,Int.reduceNe,Int.reduceBEq,Int.reduceBNe,Nat.reducePow,go_sem]
end Go.Proofs.Ytlieoghhkioflaa
