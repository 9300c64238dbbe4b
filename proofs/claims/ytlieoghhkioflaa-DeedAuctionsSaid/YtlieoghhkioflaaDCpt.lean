/- slices.Compact at []int: it eats its slice, and gives a part of it. No condition. -/
import Derived.Test.YtlieoghhkioflaaDSrt
import Derived.Test.YtlieoghhkioflaaACode1
set_option linter.unusedSimpArgs false
set_option linter.unusedVariables false
namespace Go.Proofs.Ytlieoghhkioflaa
open Go Go.RowKit
variable {G : Nat → Option (Nat × (Nat → Val))}
theorem vs_osl {N D : Bn → Prop} (b : Bn) (o n : Nat) (v : Val) : vsub N D (.osl b o n) v = (v = .osl b o n ∧ D b) := rfl
attribute [go_sem] vs_osl
def cpk (f : Nat → Int) : Nat → List Int
 | 0 => []
 | k + 1 => if 0 < k ∧ f k = f (k - 1) then cpk f k else cpk f k ++ [f k]
noncomputable def sCompact : Spec := (specT (TAnd (TSl (RInt .i64)) TNo) (fun _ => True) fun a => lW (cpk a.1.2 a.1.1)).mine 3
set_option maxRecDepth 100000 in
theorem pCompact : EatOk Try.prog G 30 0 sCompact := by
 refine feT (S := []) (I := []) (X := []) (N := []) (C := []) (R := RInt .i64) (t := TNo) mixed .nil .nil .nil Try.func30 c30 fun a b _ hw hn => ?_
 obtain ⟨n,f⟩ := a
 have hn' : n ≤ 9223372036854775807 := hn
 simp only [a30,TNo,RInt,↓reduceIte,reduceCtorEq,Nat.reduceEqDiff,Nat.reduceAdd,Nat.reduceSub,Nat.reduceLeDiff,Nat.reduceMul,Nat.reduceLT,Int.reduceToNat,Int.reduceLT,Int.reduceLE,Int.reduceEq,Int.reduceNeg,Int.reduceMul,Int.reduceAdd,Int.reduceSub,Int.reduceNe,Int.reduceBEq,Int.reduceBNe,Nat.reducePow,go_sem]
 have hmap : ∀ k,cpk f k = (List.range k).map f → (cpk f k).length = k ∧ ∀ i,i < k → ln (cpk f k) i = f i := fun k h => by
  rw [h]
  exact ⟨by simp,fun i hi => by simp [ln,hi]⟩
 refine ⟨fun hlt => ?_,fun hge => ?_⟩
 ·have hc : cpk f n = (List.range n).map f := by
   match n,hlt with
   | 0,_ => rfl
   | 1,_ => simp [cpk]
   | n + 2,h => omega
  obtain ⟨h1,h2⟩ := hmap n hc
  refine ⟨h1.symm,fun i hi j hj => (h2 i (by omega)).symm,.n 0,1,n,fun i _ => .int .i64 (f i),.inl ⟨rfl,rfl⟩,fun i _ => .int .i64 (ln (cpk f n) i),?_,fun i hi j hj => ⟨congrArg (Val.int .i64) (h2 i hi),rfl⟩⟩
  show Val.view 1 (cpk f n).length _ = _
  rw [h1]
 ·refine loopI (ι := Nat) (fun k => 1 ≤ k ∧ k ≤ n ∧ cpk f k = (List.range k).map f) (fun k => n - k) [0] (fun k => [(3,.int .i64 k)]) (fun _ => []) 1 ⟨by omega,by omega,by simp [cpk]⟩ (by simp only [↓reduceIte,reduceCtorEq,Nat.reduceEqDiff,Nat.reduceAdd,Nat.reduceSub,Nat.reduceLeDiff,Nat.reduceMul,Nat.reduceLT,Int.reduceToNat,Int.reduceLT,Int.reduceLE,Int.reduceEq,Int.reduceNeg,Int.reduceMul,Int.reduceAdd,Int.reduceSub,Int.reduceNe,Int.reduceBEq,Int.reduceBNe,Nat.reducePow,go_sem]; try trace_state) fun k hk => ?_
  obtain ⟨hk1,hk2,hk3⟩ := hk
  by_cases hkl : k < n
  ·have fk : ((k : Int) < (n : Int)) = True := eq_true (by omega)
   have hs1 : IntKind.i64.wrap ((k : Int) - 1) = ((k - 1 : Nat) : Int) := by rw [wr64 (by omega) (by omega)]; omega
   have hs2 : ((n : Int) - (k : Int)).toNat = n - k := by omega
   have hcs : cpk f (k + 1) = if 0 < k ∧ f k = f (k - 1) then cpk f k else cpk f k ++ [f k] := rfl
   obtain ⟨h1,h2⟩ := hmap k hk3
   simp only [fk,hs1,hs2,Int.toNat_natCast,↓reduceIte,reduceCtorEq,Nat.reduceEqDiff,Nat.reduceAdd,Nat.reduceSub,Nat.reduceLeDiff,Nat.reduceMul,Nat.reduceLT,Int.reduceToNat,Int.reduceLT,Int.reduceLE,Int.reduceEq,Int.reduceNeg,Int.reduceMul,Int.reduceAdd,Int.reduceSub,Int.reduceNe,Int.reduceBEq,Int.reduceBNe,Nat.reducePow,go_sem]
   refine ⟨by omega,by omega,by omega,fun heq => ⟨by omega,by omega,by omega,?_⟩,fun hne => ?_⟩
   ·rw [if_pos ⟨hk1,heq⟩] at hcs
    refine loopI (ι := Nat × (Nat → Int)) (fun q => 1 ≤ q.1 ∧ q.1 ≤ n - k ∧ (cpk f (k + q.1)).length + 1 ≤ k + q.1 ∧ (∀ i,i < (cpk f (k + q.1)).length → q.2 i = ln (cpk f (k + q.1)) i) ∧ ∀ i,k + q.1 ≤ i + 1 → q.2 i = f i) (fun q => n - k - q.1) [0,4] (fun q => [(3,.int .i64 (cpk f (k + q.1)).length),(5,.int .i64 q.1)]) (fun q => [(0,.row 3 1 n fun i _ => .int .i64 (q.2 i))]) (1,f) ⟨Nat.le_refl _,by show 1 ≤ n - k; omega,by show (cpk f (k + 1)).length + 1 ≤ k + 1; rw [hcs,h1]; exact Nat.le_refl _,fun i hi => by
     have hi : i < (cpk f (k + 1)).length := hi
     show f i = ln (cpk f (k + 1)) i
     rw [hcs] at hi ⊢
     exact (h2 i (by omega)).symm,fun i _ => rfl⟩ (by simp only [hcs,h1,↓reduceIte,reduceCtorEq,Nat.reduceEqDiff,Nat.reduceAdd,Nat.reduceSub,Nat.reduceLeDiff,Nat.reduceMul,Nat.reduceLT,Int.reduceToNat,Int.reduceLT,Int.reduceLE,Int.reduceEq,Int.reduceNeg,Int.reduceMul,Int.reduceAdd,Int.reduceSub,Int.reduceNe,Int.reduceBEq,Int.reduceBNe,Nat.reducePow,go_sem]; try trace_state) fun q hq => ?_
    obtain ⟨j,g⟩ := q
    obtain ⟨q1,q2,q3,q4,q5⟩ := hq
    simp only at q1 q2 q3 q4 q5
    have hcj : cpk f (k + (j + 1)) = if 0 < k + j ∧ f (k + j) = f (k + j - 1) then cpk f (k + j) else cpk f (k + j) ++ [f (k + j)] := rfl
    have happ := ln_app (cpk f (k + j)) (f (k + j))
    generalize hkk : cpk f (k + j) = ck at *
    by_cases hjl : j < n - k
    ·have fj : ((j : Int) < ((n - k : Nat) : Int)) = True := eq_true (by omega)
     have hs3 : IntKind.i64.wrap ((j : Int) - 1) = ((j - 1 : Nat) : Int) := by rw [wr64 (by omega) (by omega)]; omega
     have g1 := q5 (k + j) (by omega)
     have g2 := q5 (k + j - 1) (by omega)
     have e1 : k + (j - 1) = k + j - 1 := by omega
     simp only [fj,hs3,hkk,g1,g2,e1,Int.toNat_natCast,↓reduceIte,reduceCtorEq,Nat.reduceEqDiff,Nat.reduceAdd,Nat.reduceSub,Nat.reduceLeDiff,Nat.reduceMul,Nat.reduceLT,Int.reduceToNat,Int.reduceLT,Int.reduceLE,Int.reduceEq,Int.reduceNeg,Int.reduceMul,Int.reduceAdd,Int.reduceSub,Int.reduceNe,Int.reduceBEq,Int.reduceBNe,Nat.reducePow,go_sem]
     refine ⟨by omega,by omega,by omega,fun hne => ⟨by omega,by omega,by omega,?_⟩,fun heq' => ?_⟩
     ·rw [if_neg (fun h => hne h.2)] at hcj
      have hl : (cpk f (k + (j + 1))).length = ck.length + 1 := by rw [hcj,List.length_append]; rfl
      refine inv_intro (j + 1,fun i => if i = ck.length then f (k + j) else g i) ⟨by show 1 ≤ j + 1; omega,by show j + 1 ≤ n - k; omega,by show (cpk f (k + (j + 1))).length + 1 ≤ k + (j + 1); omega,fun i hi => ?_,fun i hi => ?_⟩ (by show n - k - (j + 1) < _; omega) ?_
      ·have hi : i < (cpk f (k + (j + 1))).length := hi
       show (if i = ck.length then f (k + j) else g i) = ln (cpk f (k + (j + 1))) i
       rw [hcj,happ]
       by_cases e : i = ck.length
       ·subst e; rw [if_pos rfl,if_neg (Nat.lt_irrefl _),if_pos rfl]
       ·rw [if_neg e,if_pos (by omega)]; exact q4 i (by omega)
      ·have hi : k + (j + 1) ≤ i + 1 := hi
       show (if i = ck.length then f (k + j) else g i) = f i
       rw [if_neg (by omega)]; exact q5 i (by omega)
      ·simp only [hl,↓reduceIte,reduceCtorEq,Nat.reduceEqDiff,Nat.reduceAdd,Nat.reduceSub,Nat.reduceLeDiff,Nat.reduceMul,Nat.reduceLT,Int.reduceToNat,Int.reduceLT,Int.reduceLE,Int.reduceEq,Int.reduceNeg,Int.reduceMul,Int.reduceAdd,Int.reduceSub,Int.reduceNe,Int.reduceBEq,Int.reduceBNe,Nat.reducePow,go_sem]
       refine ⟨wrS (by omega),wrS (by omega),fun i hi c hc => ?_⟩
       obtain rfl : c = 0 := by omega
       by_cases e : i = ck.length
       ·rw [if_pos ⟨e,by omega⟩,if_pos e]; rfl
       ·rw [if_neg (fun h => e h.1),if_neg e]
     ·rw [if_pos ⟨by omega,heq'⟩] at hcj
      refine inv_intro (j + 1,g) ⟨by show 1 ≤ j + 1; omega,by show j + 1 ≤ n - k; omega,by show (cpk f (k + (j + 1))).length + 1 ≤ k + (j + 1); rw [hcj]; omega,fun i hi => ?_,fun i hi => ?_⟩ (by show n - k - (j + 1) < _; omega) ?_
      ·have hi : i < (cpk f (k + (j + 1))).length := hi
       show g i = ln (cpk f (k + (j + 1))) i
       rw [hcj] at hi ⊢; exact q4 i hi
      ·have hi : k + (j + 1) ≤ i + 1 := hi
       exact q5 i (by omega)
      ·simp only [hcj,↓reduceIte,reduceCtorEq,Nat.reduceEqDiff,Nat.reduceAdd,Nat.reduceSub,Nat.reduceLeDiff,Nat.reduceMul,Nat.reduceLT,Int.reduceToNat,Int.reduceLT,Int.reduceLE,Int.reduceEq,Int.reduceNeg,Int.reduceMul,Int.reduceAdd,Int.reduceSub,Int.reduceNe,Int.reduceBEq,Int.reduceBNe,Nat.reducePow,go_sem]
       exact wrS (by omega)
    ·have fj : ((j : Int) < ((n - k : Nat) : Int)) = False := eq_false (by omega)
     obtain rfl : j = n - k := by omega
     have e1 : k + (n - k) = n := by omega
     rw [e1] at hkk
     simp only [fj,hkk,↓reduceIte,reduceCtorEq,Nat.reduceEqDiff,Nat.reduceAdd,Nat.reduceSub,Nat.reduceLeDiff,Nat.reduceMul,Nat.reduceLT,Int.reduceToNat,Int.reduceLT,Int.reduceLE,Int.reduceEq,Int.reduceNeg,Int.reduceMul,Int.reduceAdd,Int.reduceSub,Int.reduceNe,Int.reduceBEq,Int.reduceBNe,Nat.reducePow,go_sem]
     have hif : ∀ i,i < ck.length → (if ck.length ≤ i ∧ i < ck.length + ((n : Int) - (ck.length : Int)).toNat then vget (.cons (.int .i64 0) .nil) 0 else Val.int .i64 (g i)) = .int .i64 (ln ck i) := fun i hi => by
      rw [if_neg (fun h => by omega),q4 i hi]
     refine ⟨by omega,by omega,by omega,by omega,by omega,by omega,fun i hi c hc => ?_,.n 0,1,ck.length,_,.inr ⟨by rw [show ((ck.length : Int) - 0).toNat = ck.length by omega],n,by omega,rfl⟩,fun i _ => .int .i64 (ln ck i),rfl,fun i hi c hc => ⟨?_,?_⟩⟩
     ·obtain rfl : c = 0 := by omega
      exact hif i hi
     ·obtain rfl : c = 0 := by omega
      exact (hif i hi).symm
     ·obtain rfl : c = 0 := by omega
      rw [hif i hi]; rfl
   ·rw [if_neg (fun h => hne h.2)] at hcs
    refine inv_intro (k + 1) ⟨by omega,by omega,by rw [hcs,hk3,List.range_succ,List.map_append]; rfl⟩ (by omega) ?_
    simp only [↓reduceIte,reduceCtorEq,Nat.reduceEqDiff,Nat.reduceAdd,Nat.reduceSub,Nat.reduceLeDiff,Nat.reduceMul,Nat.reduceLT,Int.reduceToNat,Int.reduceLT,Int.reduceLE,Int.reduceEq,Int.reduceNeg,Int.reduceMul,Int.reduceAdd,Int.reduceSub,Int.reduceNe,Int.reduceBEq,Int.reduceBNe,Nat.reducePow,go_sem]
    exact wrS (by omega)
  ·have fk : ((k : Int) < (n : Int)) = False := eq_false (by omega)
   obtain rfl : k = n := by omega
   obtain ⟨h1,h2⟩ := hmap k hk3
   simp only [fk,↓reduceIte,reduceCtorEq,Nat.reduceEqDiff,Nat.reduceAdd,Nat.reduceSub,Nat.reduceLeDiff,Nat.reduceMul,Nat.reduceLT,Int.reduceToNat,Int.reduceLT,Int.reduceLE,Int.reduceEq,Int.reduceNeg,Int.reduceMul,Int.reduceAdd,Int.reduceSub,Int.reduceNe,Int.reduceBEq,Int.reduceBNe,Nat.reducePow,go_sem]
   refine ⟨h1.symm,fun i hi j hj => (h2 i (by omega)).symm,.n 0,1,k,fun i _ => .int .i64 (f i),.inl ⟨rfl,rfl⟩,fun i _ => .int .i64 (ln (cpk f k) i),?_,fun i hi j hj => ⟨congrArg (Val.int .i64) (h2 i hi),rfl⟩⟩
   show Val.view 1 (cpk f k).length _ = _
   rw [h1]
end Go.Proofs.Ytlieoghhkioflaa
