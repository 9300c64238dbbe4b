/- Auctions: the ends of turns, the reference's. No condition but bounds. -/
import Derived.Test.YtlieoghhkioflaaDBid
import Derived.Test.YtlieoghhkioflaaDEnd
set_option linter.unusedSimpArgs false
set_option linter.unusedVariables false
namespace Go.Proofs.Ytlieoghhkioflaa
open Go Go.RowKit
variable {G : Nat → Option (Nat × (Nat → Val))}
theorem nxt_app (last a : Int) (nx : Int) : ∀ (l : List Int) (m : Int),nxt last l m = nx → nxt last (l ++ [a]) m = if a > last ∧ a < nx then a else nx
 | [],m,h => by subst h; rfl
 | c :: l,m,h => by rw [nxt] at h; rw [List.cons_append,nxt]; exact nxt_app last a nx l _ h
def aF (t : Tu) (b : Nat × (Nat → Bd)) (a : Nat) : Int := if a = 0 then t.fro else if a = 1 then t.til else if a % 2 = 0 then (b.2 (a / 2 - 1)).turn.fro else (b.2 (a / 2 - 1)).turn.til
def allE (t : Tu) (b : Nat × (Nat → Bd)) : List Int := (List.range (2 * b.1 + 2)).map (aF t b)
theorem aF_e (t : Tu) (b : Nat × (Nat → Bd)) (j : Nat) : aF t b (2 * j + 2) = (b.2 j).turn.fro := by
 unfold aF
 rw [if_neg (by omega),if_neg (by omega),if_pos (by omega),show (2 * j + 2) / 2 - 1 = j by omega]
theorem aF_o (t : Tu) (b : Nat × (Nat → Bd)) (j : Nat) : aF t b (2 * j + 3) = (b.2 j).turn.til := by
 unfold aF
 rw [if_neg (by omega),if_neg (by omega),if_neg (by omega),show (2 * j + 3) / 2 - 1 = j by omega]
theorem aF_m (t : Tu) (b : Nat × (Nat → Bd)) (ht : TuOk t) (hb : ∀ i,i < b.1 → BdOk t (b.2 i)) (a : Nat) (ha : a < 2 * b.1 + 2) : t.fro ≤ aF t b a ∧ aF t b a ≤ t.til := by
 obtain ⟨h1,h2,h3⟩ := ht
 unfold aF
 split
 ·omega
 split
 ·omega
 obtain ⟨_,⟨_,_,_⟩,_⟩ := hb (a / 2 - 1) (by omega)
 split <;> omega
theorem allE_in (t : Tu) (b : Nat × (Nat → Bd)) (ht : TuOk t) (hb : ∀ i,i < b.1 → BdOk t (b.2 i)) : ∀ a,a ∈ allE t b → t.fro ≤ a ∧ a ≤ t.til := by
 intro a ha
 obtain ⟨i,hi,rfl⟩ := List.mem_map.1 ha
 exact aF_m t b ht hb i (List.mem_range.1 hi)
theorem allE_hi (t : Tu) (b : Nat × (Nat → Bd)) : t.til ∈ allE t b := List.mem_map.2 ⟨1,List.mem_range.2 (by omega),by simp [aF]⟩
def ln (l : List Int) (i : Nat) : Int := l.getD i 0
abbrev lW (l : List Int) : Val := .view 1 l.length fun i _ => .int .i64 (ln l i)
theorem ln_app (l : List Int) (j : Int) (i : Nat) : ln (l ++ [j]) i = if i < l.length then ln l i else if i = l.length then j else 0 := by
 unfold ln
 rcases Nat.lt_trichotomy i l.length with h | h | h
 ·rw [if_pos h]; simp [List.getElem?_append_left h]
 ·subst h; simp
 ·rw [if_neg (by omega),if_neg (by omega)]
  rw [List.getD_eq_getElem?_getD,List.getElem?_eq_none (by simp; omega)]; rfl
def endsL (t : Tu) (b : Nat × (Nat → Bd)) : List Int := endsB (allE t b) t.til ((t.til - t.fro).toNat + 1) (t.fro - 1) []
noncomputable def sEnds : Spec := spec2 TTu (TSl RBd) (fun t b => TuOk t ∧ b.1 ≤ 12 ∧ ∀ i,i < b.1 → BdOk t (b.2 i)) fun t b => lW (endsL t b)
set_option maxRecDepth 100000 in
theorem pEnds : PureOk Try.prog G 31 sEnds := by
 refine fn2 (S := []) (I := []) mixed .nil .nil Try.func31 c31 fun t b hp hw => ?_
 simp only [↓reduceIte,reduceCtorEq,Nat.reduceEqDiff,Nat.reduceAdd,Nat.reduceSub,Nat.reduceLeDiff,Nat.reduceMul,Nat.reduceLT,Int.reduceToNat,Int.reduceLT,Int.reduceLE,Int.reduceEq,Int.reduceNeg,Int.reduceMul,Int.reduceAdd,Int.reduceSub,Int.reduceNe,Int.reduceBEq,Int.reduceBNe,Nat.reducePow,go_sem] at hw
 obtain ⟨ht,p1,hb⟩ := hp
 have hin := allE_in t b ht hb
 have hhi := allE_hi t b
 have haF := aF_m t b ht hb
 have e0 : aF t b 0 = t.fro := rfl
 have e1 : aF t b 1 = t.til := rfl
 have ht' := ht
 obtain ⟨h1,h2,h3⟩ := ht
 simp only [RunTo,a31,hw,↓reduceIte,reduceCtorEq,Nat.reduceEqDiff,Nat.reduceAdd,Nat.reduceSub,Nat.reduceLeDiff,Nat.reduceMul,Nat.reduceLT,Int.reduceToNat,Int.reduceLT,Int.reduceLE,Int.reduceEq,Int.reduceNeg,Int.reduceMul,Int.reduceAdd,Int.reduceSub,Int.reduceNe,Int.reduceBEq,Int.reduceBNe,Nat.reducePow,go_sem]
 refine loopI (ι := Nat) (fun j => j ≤ b.1) (fun j => b.1 - j) [1,2] (fun j => [(5,.own (.n 1)),(6,.int .i64 j)]) (fun j => [(1,.row 3 1 (2 * j + 2) fun a _ => .int .i64 (aF t b a))]) 0 (Nat.zero_le _) (by
  simp only [↓reduceIte,reduceCtorEq,Nat.reduceEqDiff,Nat.reduceAdd,Nat.reduceSub,Nat.reduceLeDiff,Nat.reduceMul,Nat.reduceLT,Int.reduceToNat,Int.reduceLT,Int.reduceLE,Int.reduceEq,Int.reduceNeg,Int.reduceMul,Int.reduceAdd,Int.reduceSub,Int.reduceNe,Int.reduceBEq,Int.reduceBNe,Nat.reducePow,go_sem]
  intro i hi c hc
  obtain rfl : c = 0 := by omega
  match i,hi with
  | 0,_ | 1,_ => rfl) fun j hj => ?_
 by_cases hjl : j < b.1
 ·have fj : ((j : Int) < (b.1 : Int)) = True := eq_true (by omega)
  simp only [fj,hw,↓reduceIte,reduceCtorEq,Nat.reduceEqDiff,Nat.reduceAdd,Nat.reduceSub,Nat.reduceLeDiff,Nat.reduceMul,Nat.reduceLT,Int.reduceToNat,Int.reduceLT,Int.reduceLE,Int.reduceEq,Int.reduceNeg,Int.reduceMul,Int.reduceAdd,Int.reduceSub,Int.reduceNe,Int.reduceBEq,Int.reduceBNe,Nat.reducePow,go_sem]
  have a0 := aF_e t b j
  have a1 := aF_o t b j
  refine ⟨by omega,by omega,by omega,by omega,inv_intro (j + 1) hjl (by omega) ?_⟩
  simp only [↓reduceIte,reduceCtorEq,Nat.reduceEqDiff,Nat.reduceAdd,Nat.reduceSub,Nat.reduceLeDiff,Nat.reduceMul,Nat.reduceLT,Int.reduceToNat,Int.reduceLT,Int.reduceLE,Int.reduceEq,Int.reduceNeg,Int.reduceMul,Int.reduceAdd,Int.reduceSub,Int.reduceNe,Int.reduceBEq,Int.reduceBNe,Nat.reducePow,go_sem]
  refine ⟨wrS (by omega),by omega,fun a ha c hc => ?_⟩
  obtain rfl : c = 0 := by omega
  by_cases e : a < 2 * j + 2
  ·rw [if_pos e]
  ·rw [if_neg e]
   rcases (show a = 2 * j + 2 ∨ a = 2 * j + 3 by omega) with rfl | rfl
   ·rw [Nat.sub_self,a0]; rfl
   ·rw [show 2 * j + 3 - (2 * j + 2) = 1 by omega,a1]; rfl
 ·have fj : ((j : Int) < (b.1 : Int)) = False := eq_false (by omega)
  obtain rfl : j = b.1 := by omega
  simp only [fj,hw,↓reduceIte,reduceCtorEq,Nat.reduceEqDiff,Nat.reduceAdd,Nat.reduceSub,Nat.reduceLeDiff,Nat.reduceMul,Nat.reduceLT,Int.reduceToNat,Int.reduceLT,Int.reduceLE,Int.reduceEq,Int.reduceNeg,Int.reduceMul,Int.reduceAdd,Int.reduceSub,Int.reduceNe,Int.reduceBEq,Int.reduceBNe,Nat.reducePow,go_sem]
  refine loopJ (ι := List Int × Int) (fun q => t.fro - 1 ≤ q.2 ∧ q.2 ≤ t.til ∧ (q.1.length : Int) ≤ q.2 - t.fro + 1 ∧ ∃ f : Nat,t.til - q.2 ≤ f ∧ endsB (allE t b) t.til f q.2 q.1 = endsL t b) (fun q => (t.til - q.2).toNat) [2,5] (fun q => [(7,.own (.n 2)),(8,.int .i64 q.2)]) (fun q => [(2,.row 3 1 q.1.length fun a _ => .int .i64 (ln q.1 a))]) 1 ([],t.fro - 1) ⟨by omega,by show t.fro - 1 ≤ t.til; omega,by show ((0 : Nat) : Int) ≤ t.fro - 1 - t.fro + 1; omega,(t.til - t.fro).toNat + 1,by show t.til - (t.fro - 1) ≤ _; omega,rfl⟩ (by simp only [List.length_nil,↓reduceIte,reduceCtorEq,Nat.reduceEqDiff,Nat.reduceAdd,Nat.reduceSub,Nat.reduceLeDiff,Nat.reduceMul,Nat.reduceLT,Int.reduceToNat,Int.reduceLT,Int.reduceLE,Int.reduceEq,Int.reduceNeg,Int.reduceMul,Int.reduceAdd,Int.reduceSub,Int.reduceNe,Int.reduceBEq,Int.reduceBNe,Nat.reducePow,go_sem]; try exact wr64 (by omega) (by omega)) fun q hq => ?_
  obtain ⟨q1,q2,q3,f,q4,q5⟩ := hq
  obtain ⟨out,last⟩ := q
  simp only at q1 q2 q3 q4 q5
  by_cases hlt : last < t.til
  ·have fl : (last < t.til) = True := eq_true hlt
   simp only [fl,hw,↓reduceIte,reduceCtorEq,Nat.reduceEqDiff,Nat.reduceAdd,Nat.reduceSub,Nat.reduceLeDiff,Nat.reduceMul,Nat.reduceLT,Int.reduceToNat,Int.reduceLT,Int.reduceLE,Int.reduceEq,Int.reduceNeg,Int.reduceMul,Int.reduceAdd,Int.reduceSub,Int.reduceNe,Int.reduceBEq,Int.reduceBNe,Nat.reducePow,go_sem]
   refine loopI (ι := Nat) (fun i => i ≤ 2 * b.1 + 2) (fun i => 2 * b.1 + 2 - i) [2,5,7,8] (fun i => [(9,.int .i64 (nxt last ((allE t b).take i) t.til)),(10,.int .i64 i)]) (fun _ => []) 0 (Nat.zero_le _) (by simp only [List.take_zero,nxt,↓reduceIte,reduceCtorEq,Nat.reduceEqDiff,Nat.reduceAdd,Nat.reduceSub,Nat.reduceLeDiff,Nat.reduceMul,Nat.reduceLT,Int.reduceToNat,Int.reduceLT,Int.reduceLE,Int.reduceEq,Int.reduceNeg,Int.reduceMul,Int.reduceAdd,Int.reduceSub,Int.reduceNe,Int.reduceBEq,Int.reduceBNe,Nat.reducePow,go_sem]) fun i hi => ?_
   by_cases hil : i < 2 * b.1 + 2
   ·have fi : ((i : Int) < ((2 * b.1 + 2 : Nat) : Int)) = True := eq_true (by omega)
    have hlen : i < (allE t b).length := by rw [allE,List.length_map,List.length_range]; exact hil
    have hnx := nxt_app last (aF t b i) _ ((allE t b).take i) t.til rfl
    have htk : (allE t b).take (i + 1) = (allE t b).take i ++ [aF t b i] := by
     rw [List.take_add_one,List.getElem?_eq_getElem hlen]
     simp only [Option.toList,allE,List.getElem_map,List.getElem_range]
    have hai := haF i hil
    generalize nxt last ((allE t b).take i) t.til = nv at *
    simp only [fi,hw,↓reduceIte,reduceCtorEq,Nat.reduceEqDiff,Nat.reduceAdd,Nat.reduceSub,Nat.reduceLeDiff,Nat.reduceMul,Nat.reduceLT,Int.reduceToNat,Int.reduceLT,Int.reduceLE,Int.reduceEq,Int.reduceNeg,Int.reduceMul,Int.reduceAdd,Int.reduceSub,Int.reduceNe,Int.reduceBEq,Int.reduceBNe,Nat.reducePow,go_sem]
    have go : ∀ v,v = nxt last ((allE t b).take i ++ [aF t b i]) t.til → v = nxt last ((allE t b).take (i + 1)) t.til := fun v h => by rw [htk]; exact h
    refine ⟨by omega,fun g1 => ⟨by omega,fun g2 => ⟨by omega,?_⟩,fun g2 => ?_⟩,fun g1 => ?_⟩
    ·refine inv_intro (i + 1) hil (by omega) ?_
     simp only [↓reduceIte,reduceCtorEq,Nat.reduceEqDiff,Nat.reduceAdd,Nat.reduceSub,Nat.reduceLeDiff,Nat.reduceMul,Nat.reduceLT,Int.reduceToNat,Int.reduceLT,Int.reduceLE,Int.reduceEq,Int.reduceNeg,Int.reduceMul,Int.reduceAdd,Int.reduceSub,Int.reduceNe,Int.reduceBEq,Int.reduceBNe,Nat.reducePow,go_sem]
     exact ⟨go _ (by rw [hnx,if_pos ⟨g1,g2⟩]),wrS (by omega)⟩
    ·refine inv_intro (i + 1) hil (by omega) ?_
     simp only [↓reduceIte,reduceCtorEq,Nat.reduceEqDiff,Nat.reduceAdd,Nat.reduceSub,Nat.reduceLeDiff,Nat.reduceMul,Nat.reduceLT,Int.reduceToNat,Int.reduceLT,Int.reduceLE,Int.reduceEq,Int.reduceNeg,Int.reduceMul,Int.reduceAdd,Int.reduceSub,Int.reduceNe,Int.reduceBEq,Int.reduceBNe,Nat.reducePow,go_sem]
     exact ⟨go _ (by rw [hnx,if_neg (fun h => g2 h.2)]),wrS (by omega)⟩
    ·refine inv_intro (i + 1) hil (by omega) ?_
     simp only [↓reduceIte,reduceCtorEq,Nat.reduceEqDiff,Nat.reduceAdd,Nat.reduceSub,Nat.reduceLeDiff,Nat.reduceMul,Nat.reduceLT,Int.reduceToNat,Int.reduceLT,Int.reduceLE,Int.reduceEq,Int.reduceNeg,Int.reduceMul,Int.reduceAdd,Int.reduceSub,Int.reduceNe,Int.reduceBEq,Int.reduceBNe,Nat.reducePow,go_sem]
     exact ⟨go _ (by rw [hnx,if_neg (fun h => g1 h.1)]),wrS (by omega)⟩
   ·have fi : ((i : Int) < ((2 * b.1 + 2 : Nat) : Int)) = False := eq_false (by omega)
    obtain rfl : i = 2 * b.1 + 2 := by omega
    simp only [fi,hw,↓reduceIte,reduceCtorEq,Nat.reduceEqDiff,Nat.reduceAdd,Nat.reduceSub,Nat.reduceLeDiff,Nat.reduceMul,Nat.reduceLT,Int.reduceToNat,Int.reduceLT,Int.reduceLE,Int.reduceEq,Int.reduceNeg,Int.reduceMul,Int.reduceAdd,Int.reduceSub,Int.reduceNe,Int.reduceBEq,Int.reduceBNe,Nat.reducePow,go_sem]
    have htk : (allE t b).take (2 * b.1 + 2) = allE t b := List.take_of_length_le (by rw [allE,List.length_map,List.length_range]; exact Nat.le_refl _)
    rw [htk]
    obtain ⟨n1,n2,n3,n4⟩ := nxt_spec last (allE t b) t.til hlt
    cases f with
    | zero => omega
    | succ f =>
     rw [endsB,if_pos hlt] at q5
     have happ := ln_app out (nxt last (allE t b) t.til)
     generalize nxt last (allE t b) t.til = nv at *
     refine ⟨by omega,by omega,inv_intro (out ++ [nv],nv) ⟨by show t.fro - 1 ≤ nv; omega,n2,by rw [List.length_append]; show ((out.length + 1 : Nat) : Int) ≤ nv - t.fro + 1; omega,f,by show t.til - nv ≤ f; omega,q5⟩ (by show (t.til - nv).toNat < _; omega) ?_⟩
     simp only [List.length_append,List.length_cons,List.length_nil,↓reduceIte,reduceCtorEq,Nat.reduceEqDiff,Nat.reduceAdd,Nat.reduceSub,Nat.reduceLeDiff,Nat.reduceMul,Nat.reduceLT,Int.reduceToNat,Int.reduceLT,Int.reduceLE,Int.reduceEq,Int.reduceNeg,Int.reduceMul,Int.reduceAdd,Int.reduceSub,Int.reduceNe,Int.reduceBEq,Int.reduceBNe,Nat.reducePow,go_sem]
     intro a ha c hc
     obtain rfl : c = 0 := by omega
     rw [happ]
     by_cases e : a < out.length
     ·rw [if_pos e,if_pos e]
     ·obtain rfl : a = out.length := by omega
      rw [if_neg e,if_neg e,if_pos rfl,Nat.sub_self]; rfl
  ·have fl : (last < t.til) = False := eq_false hlt
   simp only [fl,hw,↓reduceIte,reduceCtorEq,Nat.reduceEqDiff,Nat.reduceAdd,Nat.reduceSub,Nat.reduceLeDiff,Nat.reduceMul,Nat.reduceLT,Int.reduceToNat,Int.reduceLT,Int.reduceLE,Int.reduceEq,Int.reduceNeg,Int.reduceMul,Int.reduceAdd,Int.reduceSub,Int.reduceNe,Int.reduceBEq,Int.reduceBNe,Nat.reducePow,go_sem]
   have : endsL t b = out := by
    rw [← q5]
    cases f with
    | zero => rfl
    | succ f => rw [endsB,if_neg hlt]
   rw [this]
   exact ⟨rfl,fun _ _ _ _ => rfl⟩
end Go.Proofs.Ytlieoghhkioflaa
