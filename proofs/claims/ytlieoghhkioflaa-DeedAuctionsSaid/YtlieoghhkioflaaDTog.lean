/- Auctions: bids that go together, the reference's. No condition but bounds. -/
import Derived.Test.YtlieoghhkioflaaDBas
set_option linter.unusedSimpArgs false
set_option linter.unusedVariables false
namespace Go.Proofs.Ytlieoghhkioflaa
open Go Go.RowKit
variable {G : Nat → Option (Nat × (Nat → Val))}
abbrev Bds := Nat × (Nat → Bd)
abbrev Ints := Nat × (Nat → Int)
def bdA (b : Bds) (l : Ints) (i : Nat) : Bd := b.2 (l.2 i).toNat
def meets (x y : Tu) : Prop := max x.fro y.fro < min x.til y.til
def Tog (b : Bds) (l : Ints) : Prop := ∀ i,i < l.1 → ∀ k,k < i → ¬ meets (bdA b l i).turn (bdA b l k).turn
def sumA (b : Bds) (l : Ints) : Nat → Int
 | 0 => 0
 | i + 1 => sumA b l i + (bdA b l i).baisa
theorem sumA_le {b : Bds} {l : Ints} (h2 : ∀ i,i < l.1 → 0 ≤ l.2 i ∧ l.2 i < b.1) (h3 : ∀ i,i < b.1 → 0 ≤ (b.2 i).baisa ∧ (b.2 i).baisa ≤ 1000000000) :
  ∀ i,i ≤ l.1 → 0 ≤ sumA b l i ∧ sumA b l i ≤ i * 1000000000
 | 0,_ => by simp [sumA]
 | i + 1,hi => by
  have ih := sumA_le h2 h3 i (by omega)
  have q := h2 i (by omega)
  have r := h3 (l.2 i).toNat (by omega)
  simp only [sumA,bdA]; omega
noncomputable def togB (b : Bds) (l : Ints) : Val := if decP (Tog b l) = true then .tup (.cons (.int .i64 (sumA b l l.1)) (.cons (.bool true) .nil)) else .tup (.cons (.int .i64 0) (.cons (.bool false) .nil))
def LOk (b : Bds) (l : Ints) : Prop := l.1 ≤ 12 ∧ (∀ i,i < l.1 → 0 ≤ l.2 i ∧ l.2 i < b.1) ∧ ∀ i,i < b.1 → 0 ≤ (b.2 i).baisa ∧ (b.2 i).baisa ≤ 1000000000
noncomputable def sTog : Spec := spec2 (TSl RBd) (TSl (RInt .i64)) LOk togB
set_option maxRecDepth 100000 in
theorem pTog : PureOk Try.prog G 50 sTog := by
 refine fn2 (S := []) (I := []) mixed .nil .nil Try.func50 c50 fun b l hp hw => ?_
 simp only [↓reduceIte,reduceCtorEq,Nat.reduceEqDiff,Nat.reduceAdd,Nat.reduceSub,Nat.reduceLeDiff,Nat.reduceMul,Nat.reduceLT,Int.reduceToNat,Int.reduceLT,Int.reduceLE,Int.reduceEq,Int.reduceNeg,Int.reduceMul,Int.reduceAdd,Int.reduceSub,Int.reduceNe,Int.reduceBEq,Int.reduceBNe,Nat.reducePow,go_sem] at hw
 obtain ⟨w1,w2⟩ := hw
 obtain ⟨p1,p2,p3⟩ := hp
 simp only [RunTo,a50,w1,w2,↓reduceIte,reduceCtorEq,Nat.reduceEqDiff,Nat.reduceAdd,Nat.reduceSub,Nat.reduceLeDiff,Nat.reduceMul,Nat.reduceLT,Int.reduceToNat,Int.reduceLT,Int.reduceLE,Int.reduceEq,Int.reduceNeg,Int.reduceMul,Int.reduceAdd,Int.reduceSub,Int.reduceNe,Int.reduceBEq,Int.reduceBNe,Nat.reducePow,go_sem]
 refine loopI (ι := Nat) (fun j => j ≤ l.1 ∧ ∀ i,i < j → ∀ k,k < i → ¬ meets (bdA b l i).turn (bdA b l k).turn) (fun j => l.1 - j) [0,1] (fun j => [(6,.int .i64 (sumA b l j)),(7,.int .i64 j)]) (fun _ => []) 0 ⟨by omega,fun i h => by omega⟩ (by simp only [sumA,↓reduceIte,reduceCtorEq,Nat.reduceEqDiff,Nat.reduceAdd,Nat.reduceSub,Nat.reduceLeDiff,Nat.reduceMul,Nat.reduceLT,Int.reduceToNat,Int.reduceLT,Int.reduceLE,Int.reduceEq,Int.reduceNeg,Int.reduceMul,Int.reduceAdd,Int.reduceSub,Int.reduceNe,Int.reduceBEq,Int.reduceBNe,Nat.reducePow,go_sem]; try rfl) fun j hj => ?_
 obtain ⟨hj1,hj2⟩ := hj
 simp only [w1,w2,↓reduceIte,reduceCtorEq,Nat.reduceEqDiff,Nat.reduceAdd,Nat.reduceSub,Nat.reduceLeDiff,Nat.reduceMul,Nat.reduceLT,Int.reduceToNat,Int.reduceLT,Int.reduceLE,Int.reduceEq,Int.reduceNeg,Int.reduceMul,Int.reduceAdd,Int.reduceSub,Int.reduceNe,Int.reduceBEq,Int.reduceBNe,Nat.reducePow,go_sem]
 refine ⟨fun hlt => ?_,fun hge => ?_⟩
 ·refine loopI (ι := Nat) (fun k => k ≤ j ∧ ∀ i,i < k → ¬ meets (bdA b l j).turn (bdA b l i).turn) (fun k => j - k) [0,1,6,7] (fun k => [(8,.int .i64 k)]) (fun _ => []) 0 ⟨by omega,fun i h => by omega⟩ (by simp only [↓reduceIte,reduceCtorEq,Nat.reduceEqDiff,Nat.reduceAdd,Nat.reduceSub,Nat.reduceLeDiff,Nat.reduceMul,Nat.reduceLT,Int.reduceToNat,Int.reduceLT,Int.reduceLE,Int.reduceEq,Int.reduceNeg,Int.reduceMul,Int.reduceAdd,Int.reduceSub,Int.reduceNe,Int.reduceBEq,Int.reduceBNe,Nat.reducePow,go_sem]; try rfl) fun k hk => ?_
  obtain ⟨hk1,hk2⟩ := hk
  simp only [w1,w2,↓reduceIte,reduceCtorEq,Nat.reduceEqDiff,Nat.reduceAdd,Nat.reduceSub,Nat.reduceLeDiff,Nat.reduceMul,Nat.reduceLT,Int.reduceToNat,Int.reduceLT,Int.reduceLE,Int.reduceEq,Int.reduceNeg,Int.reduceMul,Int.reduceAdd,Int.reduceSub,Int.reduceNe,Int.reduceBEq,Int.reduceBNe,Nat.reducePow,go_sem]
  have pj := p2 j (by omega)
  refine ⟨fun hk3 => ?_,fun hk3 => ?_⟩
  ·have pk := p2 k (by omega)
   repeat' (first | omega | (with_reducible apply And.intro) | intro _)
   ·rw [togB,if_neg]
    ·simp only [↓reduceIte,reduceCtorEq,Nat.reduceEqDiff,Nat.reduceAdd,Nat.reduceSub,Nat.reduceLeDiff,Nat.reduceMul,Nat.reduceLT,Int.reduceToNat,Int.reduceLT,Int.reduceLE,Int.reduceEq,Int.reduceNeg,Int.reduceMul,Int.reduceAdd,Int.reduceSub,Int.reduceNe,Int.reduceBEq,Int.reduceBNe,Nat.reducePow,go_sem]
    ·intro h
     refine decP_true.1 h j (by omega) k (by omega) ?_
     unfold meets bdA; assumption
   ·refine inv_intro (k + 1) ⟨by omega,fun i hi => ?_⟩ (by omega) ?_
    ·rcases Nat.lt_or_ge i k with h5 | h5
     ·exact hk2 i h5
     ·obtain rfl : i = k := by omega
      unfold meets bdA; assumption
    ·simp only [↓reduceIte,reduceCtorEq,Nat.reduceEqDiff,Nat.reduceAdd,Nat.reduceSub,Nat.reduceLeDiff,Nat.reduceMul,Nat.reduceLT,Int.reduceToNat,Int.reduceLT,Int.reduceLE,Int.reduceEq,Int.reduceNeg,Int.reduceMul,Int.reduceAdd,Int.reduceSub,Int.reduceNe,Int.reduceBEq,Int.reduceBNe,Nat.reducePow,go_sem]
     rw [wrS (by omega)]
  ·obtain rfl : k = j := by omega
   have q := sumA_le p2 p3 k hj1
   have r := p3 (l.2 k).toNat (by omega)
   repeat' (first | omega | (with_reducible apply And.intro) | intro _)
   refine inv_intro (k + 1) ⟨by omega,fun i hi m hm => ?_⟩ (by omega) ?_
   ·rcases Nat.lt_or_ge i k with h5 | h5
    ·exact hj2 i h5 m hm
    ·obtain rfl : i = k := by omega
     exact hk2 m hm
   ·simp only [sumA,bdA,↓reduceIte,reduceCtorEq,Nat.reduceEqDiff,Nat.reduceAdd,Nat.reduceSub,Nat.reduceLeDiff,Nat.reduceMul,Nat.reduceLT,Int.reduceToNat,Int.reduceLT,Int.reduceLE,Int.reduceEq,Int.reduceNeg,Int.reduceMul,Int.reduceAdd,Int.reduceSub,Int.reduceNe,Int.reduceBEq,Int.reduceBNe,Nat.reducePow,go_sem]
    rw [wrS (by omega),wr64 (by omega) (by omega)]
    exact ⟨rfl,rfl⟩
 ·have hT : Tog b l := fun i hi k hk => hj2 i (by omega) k hk
  obtain rfl : j = l.1 := by omega
  rw [togB,if_pos (decP_t hT)]
  simp only [↓reduceIte,reduceCtorEq,Nat.reduceEqDiff,Nat.reduceAdd,Nat.reduceSub,Nat.reduceLeDiff,Nat.reduceMul,Nat.reduceLT,Int.reduceToNat,Int.reduceLT,Int.reduceLE,Int.reduceEq,Int.reduceNeg,Int.reduceMul,Int.reduceAdd,Int.reduceSub,Int.reduceNe,Int.reduceBEq,Int.reduceBNe,Nat.reducePow,go_sem]
end Go.Proofs.Ytlieoghhkioflaa
