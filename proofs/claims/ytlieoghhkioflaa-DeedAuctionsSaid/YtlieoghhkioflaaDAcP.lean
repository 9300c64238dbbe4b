/- Auctions: the program's search. No condition but bounds. -/
import Derived.Test.YtlieoghhkioflaaDRef
import Derived.Test.YtlieoghhkioflaaDBid2
set_option linter.unusedSimpArgs false
set_option linter.unusedVariables false
namespace Go.Proofs.Ytlieoghhkioflaa
open Go Go.RowKit
variable {G : Nat → Option (Nat × (Nat → Val))}
noncomputable def sClip : Spec := spec1 (TSl (RInt .i64)) (fun _ => True) fun l => .tv 1 l.1 fun i _ => .int .i64 (l.2 i)
set_option maxRecDepth 100000 in
theorem pClip : PureOk Try.prog G 26 sClip := by
 refine fn1 (S := []) (I := []) mixed .nil .nil Try.func26 c26 fun l _ hw => ?_
 simp only [↓reduceIte,reduceCtorEq,Nat.reduceEqDiff,Nat.reduceAdd,Nat.reduceSub,Nat.reduceLeDiff,Nat.reduceMul,Nat.reduceLT,Int.reduceToNat,Int.reduceLT,Int.reduceLE,Int.reduceEq,Int.reduceNeg,Int.reduceMul,Int.reduceAdd,Int.reduceSub,Int.reduceNe,Int.reduceBEq,Int.reduceBNe,Nat.reducePow,go_sem] at hw
 simp only [RunTo,a26,hw,↓reduceIte,reduceCtorEq,Nat.reduceEqDiff,Nat.reduceAdd,Nat.reduceSub,Nat.reduceLeDiff,Nat.reduceMul,Nat.reduceLT,Int.reduceToNat,Int.reduceLT,Int.reduceLE,Int.reduceEq,Int.reduceNeg,Int.reduceMul,Int.reduceAdd,Int.reduceSub,Int.reduceNe,Int.reduceBEq,Int.reduceBNe,Nat.reducePow,go_sem]
 exact ⟨by omega,by omega⟩
noncomputable def sCloneV : Spec := spec1 (TSl (RInt .i64)) (fun l => l.1 ≤ 12) fun l => .view 1 l.1 fun i _ => .int .i64 (l.2 i)
set_option maxRecDepth 100000 in
theorem pCloneV : PureOk Try.prog G 22 sCloneV := by
 refine fn1 (S := []) (I := []) mixed .nil .nil Try.func22 c22 fun l hl hw => ?_
 simp only [↓reduceIte,reduceCtorEq,Nat.reduceEqDiff,Nat.reduceAdd,Nat.reduceSub,Nat.reduceLeDiff,Nat.reduceMul,Nat.reduceLT,Int.reduceToNat,Int.reduceLT,Int.reduceLE,Int.reduceEq,Int.reduceNeg,Int.reduceMul,Int.reduceAdd,Int.reduceSub,Int.reduceNe,Int.reduceBEq,Int.reduceBNe,Nat.reducePow,go_sem] at hw
 simp only [RunTo,a22,hw,↓reduceIte,reduceCtorEq,Nat.reduceEqDiff,Nat.reduceAdd,Nat.reduceSub,Nat.reduceLeDiff,Nat.reduceMul,Nat.reduceLT,Int.reduceToNat,Int.reduceLT,Int.reduceLE,Int.reduceEq,Int.reduceNeg,Int.reduceMul,Int.reduceAdd,Int.reduceSub,Int.reduceNe,Int.reduceBEq,Int.reduceBNe,Nat.reducePow,go_sem]
 refine fun t ht => ⟨fun h => ?_,fun _ => ⟨by omega,fun i hi j hj => by rw [if_neg (Nat.not_lt_zero _)]⟩⟩
 rcases Nat.eq_zero_or_pos l.1 with h0 | h0
 ·exact h0
 ·rw [ht h0] at h; cases h
theorem chkG_keep {bx0 bx1 : Bx} {nx nx' : Nat} {fr1 fr' : Fr} (hn : nx ≤ nx') (hfr : chkFr (newIn bx1 bx0) (hasB bx0) fr1 fr') (h : ∀ b c,bget bx0 b = some c → bget bx1 b = some c) : ChkG bx0 nx fr1 bx1 fr' bx0 nx' :=
 ⟨none,trivial,hn,hfr,fun b c hb => .inl ⟨hb,h b c hb⟩,fun b c hb => .inl ⟨c,hb⟩,fun b c0 c1 h0 h1 => ⟨c0,h0,by rw [h b c0 h0] at h1; cases h1; exact Kin.refl _⟩⟩
theorem chkG_two {bx0 bx1 : Bx} {nx nx' : Nat} {fr1 fr' : Fr} {b1 b2 : Bn} {l1 l2 m1 m2 n1 n2 : Val} (hn : nx ≤ nx') (hne : b1 ≠ b2) (h1 : bget bx0 b1 = some (.cells l1)) (h2 : bget bx0 b2 = some (.cells l2)) (g1 : bget bx1 b1 = some (.cells m1)) (g2 : bget bx1 b2 = some (.cells m2))
  (hold : ∀ y,y ≠ b1 → y ≠ b2 → ∀ c,bget bx0 y = some c → bget bx1 y = some c) (v1 : ∀ N D,chkBx1 N D (some (.cells m1)) (.cells n1)) (v2 : ∀ N D,chkBx1 N D (some (.cells m2)) (.cells n2))
  (hfr : chkFr (newIn bx1 (bset (bset bx0 b1 (.cells n1)) b2 (.cells n2))) (hasB (bset (bset bx0 b1 (.cells n1)) b2 (.cells n2))) fr1 fr') : ChkG bx0 nx fr1 bx1 fr' (bset (bset bx0 b1 (.cells n1)) b2 (.cells n2)) nx' := by
 have hg : ∀ y,bget (bset (bset bx0 b1 (.cells n1)) b2 (.cells n2)) y = if y = b2 then some (.cells n2) else if y = b1 then some (.cells n1) else bget bx0 y := fun y => by rw [bget_bset,bget_bset]
 refine ⟨none,trivial,hn,hfr,fun y c hy => ?_,fun y c hy => ?_,fun y c0 c1 q0 q1 => ?_⟩
 ·rw [hg] at hy
  by_cases e2 : y = b2
  ·subst e2; rw [if_pos rfl] at hy; cases hy
   right
   show chkBx1 _ _ (bget bx1 y) _
   rw [g2]; exact v2 _ _
  ·rw [if_neg e2] at hy
   by_cases e1 : y = b1
   ·subst e1; rw [if_pos rfl] at hy; cases hy
    right
    show chkBx1 _ _ (bget bx1 y) _
    rw [g1]; exact v1 _ _
   ·rw [if_neg e1] at hy; exact .inl ⟨hy,hold y e1 e2 c hy⟩
 ·rw [hg] at hy
  by_cases e2 : y = b2
  ·subst e2; exact .inl ⟨_,h2⟩
  ·rw [if_neg e2] at hy
   by_cases e1 : y = b1
   ·subst e1; exact .inl ⟨_,h1⟩
   ·rw [if_neg e1] at hy; exact .inl ⟨_,hy⟩
 ·rw [hg]
  by_cases e2 : y = b2
  ·subst e2; rw [g2] at q1; cases q1; rw [if_pos rfl]; exact ⟨_,rfl,chk_kin (v2 (fun _ => False) fun _ => False)⟩
  ·rw [if_neg e2]
   by_cases e1 : y = b1
   ·subst e1; rw [g1] at q1; cases q1; rw [if_pos rfl]; exact ⟨_,rfl,chk_kin (v1 (fun _ => False) fun _ => False)⟩
   ·rw [if_neg e1,q0]
    rw [hold y e1 e2 c0 q0] at q1; cases q1
    exact ⟨_,rfl,Kin.refl _⟩
noncomputable abbrev SAc : List (FuncId × Spec) := [(20,sOff),(26,sClip),(22,sCloneV),(25,sApart)]
abbrev IAc : List (FuncId × AFun) := [(21,a21),(23,a23),(46,a46),(24,a24)]
noncomputable abbrev EAc (G : Nat → Option (Nat × (Nat → Val))) : Env := mkA G SAc IAc [] [] [(21,none)]
abbrev bV4 (b : Bds) : Val := .view 4 b.1 fun i j => (b.2 i).c j
set_option maxRecDepth 100000 in
theorem cf_run {Q : Val → Bx → Prop} {b : Bds} {bx : Bx} {nx z i : Nat} {l : List Nat} {f : SFrame} {stk : List SFrame} {B : Nat} (hB : 200 ≤ B) (hn : b.1 ≤ 12) (hl : ∀ k ∈ l,k < b.1) (hll : l.length ≤ 12) (hi : i < b.1)
  (h1 : bget bx (.n 1) = some (.cells (.cons (bV4 b) .nil))) (hz : bget bx (.n z) = some (.cells (.cons (.int .i64 i) .nil)))
  (hK : ∀ B',B ≤ B' + 200 → runO (EAc G) Q B' f.K stk f.res (fput f.fr f.d (.bool (!okA (bF b) (bT b) l i))) bx nx) :
  runO (EAc G) Q B [.code a23.code] (f :: stk) a23.res (params 0 [lV l,.func (.func 24) (.cons (.ptr (.n 1) 0) (.cons (.ptr (.n z) 0) .nil))]) bx nx := by
 obtain ⟨B,rfl⟩ : ∃ m,B = m + 150 := ⟨B - 150,by omega⟩
 have hlw : (l.length ≤ 9223372036854775807) = True := eq_true (by omega)
 have hbw : (b.1 ≤ 9223372036854775807) = True := eq_true (by omega)
 simp only [a23,a46,hlw,↓reduceIte,reduceCtorEq,Nat.reduceEqDiff,Nat.reduceAdd,Nat.reduceSub,Nat.reduceLeDiff,Nat.reduceMul,Nat.reduceLT,Int.reduceToNat,Int.reduceLT,Int.reduceLE,Int.reduceEq,Int.reduceNeg,Int.reduceMul,Int.reduceAdd,Int.reduceSub,Int.reduceNe,Int.reduceBEq,Int.reduceBNe,Nat.reducePow,go_sem]
 have hli : ∀ j,j < l.length → lfn l j = ((l.getD j 0 : Nat) : Int) := fun j _ => rfl
 refine loop_intro (ι := Nat) (fun j => j ≤ l.length ∧ ∀ k,k < j → apt (bF b) (bT b) (l.getD k 0) i = true) (fun j => l.length - j) (fun j => [(8,.int .i64 j),(0,lV l),(1,.func (.func 24) (.cons (.ptr (.n 1) 0) (.cons (.ptr (.n z) 0) .nil))),(7,.int .i64 l.length)]) (fun _ => bx) 0 0 ⟨Nat.zero_le _,fun k hk => absurd hk (Nat.not_lt_zero _)⟩ (.inr (chkG_keep (Nat.le_refl _) (by simp only [h1,hz,↓reduceIte,reduceCtorEq,Nat.reduceEqDiff,Nat.reduceAdd,Nat.reduceSub,Nat.reduceLeDiff,Nat.reduceMul,Nat.reduceLT,Int.reduceToNat,Int.reduceLT,Int.reduceLE,Int.reduceEq,Int.reduceNeg,Int.reduceMul,Int.reduceAdd,Int.reduceSub,Int.reduceNe,Int.reduceBEq,Int.reduceBNe,Nat.reducePow,go_sem]; try trace_state) fun _ _ h => h)) fun j hj => ?_
 obtain ⟨hj1,hj2⟩ := hj
 by_cases hjl : j < l.length
 ·have fj : ((j : Int) < (l.length : Int)) = True := eq_true (by omega)
  have hlj := hli j hjl
  have hmem : l.getD j 0 < b.1 := hl _ (by rw [List.getD_eq_getElem?_getD,List.getElem?_eq_getElem hjl]; exact List.getElem_mem _)
  generalize hk : l.getD j 0 = k at *
  simp only [fj,hlj,hlw,a24,sApart,h1,hz,Int.toNat_natCast,↓reduceIte,reduceCtorEq,Nat.reduceEqDiff,Nat.reduceAdd,Nat.reduceSub,Nat.reduceLeDiff,Nat.reduceMul,Nat.reduceLT,Int.reduceToNat,Int.reduceLT,Int.reduceLE,Int.reduceEq,Int.reduceNeg,Int.reduceMul,Int.reduceAdd,Int.reduceSub,Int.reduceNe,Int.reduceBEq,Int.reduceBNe,Nat.reducePow,go_sem]
  refine ⟨by omega,by omega,by omega,by omega,by omega,fun hf => ?_,fun ht => ?_⟩
  ·have : okA (bF b) (bT b) l i = false := by
    rw [okA,Bool.eq_false_iff]
    intro h
    have := List.all_eq_true.1 h k (by rw [← hk,List.getD_eq_getElem?_getD,List.getElem?_eq_getElem hjl]; exact List.getElem_mem _)
    exact Bool.noConfusion (this.symm.trans hf)
   have hq := hK (B + 73) (by omega)
   rw [this] at hq
   rw [decide_eq_true (show (j : Int) ≥ 0 by omega)]
   exact hq
  ·refine inv_chkG (j + 1) ⟨hjl,fun q hq => ?_⟩ (by omega) (chkG_keep (Nat.le_refl _) (by simp only [h1,hz,↓reduceIte,reduceCtorEq,Nat.reduceEqDiff,Nat.reduceAdd,Nat.reduceSub,Nat.reduceLeDiff,Nat.reduceMul,Nat.reduceLT,Int.reduceToNat,Int.reduceLT,Int.reduceLE,Int.reduceEq,Int.reduceNeg,Int.reduceMul,Int.reduceAdd,Int.reduceSub,Int.reduceNe,Int.reduceBEq,Int.reduceBNe,Nat.reducePow,go_sem]; exact wrS (by omega)) fun _ _ h => h)
   by_cases e : q = j
   ·subst e; rw [hk]; exact ht
   ·exact hj2 q (by omega)
 ·have fj : ((j : Int) < (l.length : Int)) = False := eq_false (by omega)
  obtain rfl : j = l.length := by omega
  simp only [fj,↓reduceIte,reduceCtorEq,Nat.reduceEqDiff,Nat.reduceAdd,Nat.reduceSub,Nat.reduceLeDiff,Nat.reduceMul,Nat.reduceLT,Int.reduceToNat,Int.reduceLT,Int.reduceLE,Int.reduceEq,Int.reduceNeg,Int.reduceMul,Int.reduceAdd,Int.reduceSub,Int.reduceNe,Int.reduceBEq,Int.reduceBNe,Nat.reducePow,go_sem]
  have : okA (bF b) (bT b) l i = true := by
   rw [okA,List.all_eq_true]
   intro k hk
   obtain ⟨q,hq,rfl⟩ := List.getElem_of_mem hk
   have := hj2 q hq
   rwa [List.getD_eq_getElem?_getD,List.getElem?_eq_getElem hq] at this
  have hq := hK (B + 112) (by omega)
  rw [this] at hq
  exact hq
end Go.Proofs.Ytlieoghhkioflaa
