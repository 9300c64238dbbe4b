/- Lists of what is so; the reference's Clones. No condition. -/
import Derived.Test.YtlapepdhkomijaaPFlw
set_option linter.unusedSimpArgs false
set_option linter.unusedVariables false
namespace Go.Proofs.Ytlapepdhkomijaa
open Go Go.RowKit
variable {G : Nat → Option (Nat × (Nat → Val))}
def cntN (p : Nat → Bool) : Nat → Nat
 | 0 => 0
 | n + 1 => cntN p n + if p n = true then 1 else 0
def selN (p : Nat → Bool) : Nat → Nat → Nat
 | 0,_ => 0
 | n + 1,j => if p n = true ∧ j = cntN p n then n else selN p n j
theorem cntN_le (p : Nat → Bool) : ∀ n : Nat,cntN p n ≤ n := by
 intro n; induction n with
 | zero => exact Nat.le_refl _
 | succ n ih => simp only [cntN]; split <;> omega
theorem selN_lt {p : Nat → Bool} : ∀ {n j : Nat},j < cntN p n → selN p n j < n ∧ p (selN p n j) = true := by
 intro n; induction n with
 | zero => intro j h; exact absurd h (Nat.not_lt_zero _)
 | succ n ih =>
  intro j h
  simp only [cntN] at h
  simp only [selN]
  split
  ·rename_i e; exact ⟨by omega,e.1⟩
  ·rename_i e
   have : j < cntN p n := by
    by_cases hp : p n = true
    ·rw [if_pos hp] at h
     have : j ≠ cntN p n := fun e2 => e ⟨hp,e2⟩
     omega
    ·rw [if_neg hp] at h; omega
   obtain ⟨h1,h2⟩ := ih this
   exact ⟨by omega,h2⟩
noncomputable def clonesF (l : Pms) (i : Nat) : Ints := (cntN (clnB l i) l.1,fun j => (l.2 (selN (clnB l i) l.1 j)).id)
noncomputable def sClones7 : Spec := spec2 (TSl RPm) TI (fun _ _ => True) fun l id => if pmE l = 0 then (if hitN l id < l.1 then .tup (.cons (.view 1 (clonesF l (hitN l id)).1 fun j _ => .int .i64 ((clonesF l (hitN l id)).2 j)) (.cons (.int .i64 0) .nil)) else .tup (.cons .nils (.cons (.int .i64 6) .nil))) else .tup (.cons .nils (.cons (.int .i64 70) .nil))
end Go.Proofs.Ytlapepdhkomijaa
namespace Go.Proofs.Ytlapepdhkomijaa
open Go Go.RowKit
variable {G : Nat → Option (Nat × (Nat → Val))}
def mxF (p : Nat → Bool) (f : Nat → Int) : Nat → Int → Int
 | 0,x => x
 | n + 1,x => if p n = true then max (mxF p f n x) (f n) else mxF p f n x
def ctrP (l : Pms) (i k : Nat) : Prop := ((l.2 i).sex.1 ≠ 0 ∧ (l.2 k).sex.1 ≠ 0 ∧ (l.2 i).sex.1 ≠ (l.2 k).sex.1) ∨ ((l.2 i).sort ≠ 0 ∧ (l.2 k).sort ≠ 0 ∧ (l.2 i).sort ≠ (l.2 k).sort)
noncomputable def badI (l : Pms) : Nat := fstI (fun i => ∃ k,k < i ∧ clnB l i k = true ∧ ctrP l i k) l.1
noncomputable def sexF (l : Pms) (i : Nat) : Int := mxF (clnB l i) (fun k => (l.2 k).sex.1) l.1 (l.2 i).sex.1
noncomputable def sortF (l : Pms) (i : Nat) : Int := mxF (clnB l i) (fun k => (l.2 k).sort) l.1 (l.2 i).sort
noncomputable def knP (l : Pms) (i : Nat) : Pm := ⟨(l.2 i).id,(l.2 i).mother,(l.2 i).planted,toUI .u8 (sexF l i),sortF l i⟩
theorem mxF_in {p : Nat → Bool} {f : Nat → Int} {a b : Int} : ∀ {n : Nat} {x : Int},(a ≤ x ∧ x ≤ b) → (∀ i,i < n → a ≤ f i ∧ f i ≤ b) → a ≤ mxF p f n x ∧ mxF p f n x ≤ b := by
 intro n
 induction n with
 | zero => intro x hx _; exact hx
 | succ n ih =>
  intro x hx h
  have h1 := ih hx fun i hi => h i (by omega)
  have h2 := h n (by omega)
  simp only [mxF]; split
  ·omega
  ·exact h1
noncomputable def sKnown7 : Spec := spec1 (TSl RPm) (fun _ => True) fun l => if pmE l = 0 then (if badI l < l.1 then .tup (.cons .nils (.cons (.int .i64 (badI l : Nat)) (.cons (.int .i64 71) .nil))) else .tup (.cons (.view 5 l.1 fun i j => (knP l i).c j) (.cons (.int .i64 0) (.cons (.int .i64 0) .nil)))) else .tup (.cons .nils (.cons (.int .i64 0) (.cons (.int .i64 70) .nil)))
set_option maxHeartbeats 4000000 in
set_option maxRecDepth 100000 in
theorem pKnown7 : PureOk Try.prog G 16 sKnown7 := by
  refine fn1 (S := [(20,sCheck7),(49,sClonesR)]) (I := []) mixed (.cons pCheck7 (.cons pClonesR .nil)) .nil Try.func16 c16 fun l _ hw => ?_
  simp only [Nat.reduceSub,Nat.reducePow,go_sem] at hw
  by_cases hp : PmsOk l
  · have ep := pmE_ok hp
    rw [if_pos ep]
    have hn24 := hp.n
    have hpt : PmsOk l = True := eq_true hp
    simp only [RunTo,a16,sCheck7,ep,hw,↓imp_ft,↓imp_ff,↓reduceIte,reduceCtorEq,Nat.reduceSub,Nat.reducePow,go_sem]
    refine loopI (ι := Nat) (fun i => i ≤ l.1 ∧ ∀ i',i' < i → ¬ ∃ k,k < i' ∧ clnB l i' k = true ∧ ctrP l i' k) (fun i => l.1 - i) [0] (fun i => [(6,.int .i64 i)]) (fun _ => []) 0 ⟨Nat.zero_le _,fun i hi => absurd hi (Nat.not_lt_zero _)⟩ (by simp only [↓reduceIte,reduceCtorEq,go_sem]; try rfl) fun i hi => ?_
    obtain ⟨hi1,hi2⟩ := hi
    by_cases hil : i < l.1
    · have fi : ((i : Int) < (l.1 : Int)) = True := eq_true (by omega)
      have pi1 : (0 ≤ (i : Int)) = True := eq_true (by omega)
      simp only [fi,pi1,hpt,sClonesR,Int.toNat_natCast,hw,↓imp_tt,↓imp_tf,↓reduceIte,reduceCtorEq,Nat.reduceEqDiff,Nat.reduceSub,Nat.reducePow,go_sem]
      refine loopI (ι := Nat) (fun k => k ≤ i ∧ ∀ k',k' < k → ¬ (clnB l i k' = true ∧ ctrP l i k')) (fun k => i - k) [0,6,7] (fun k => [(8,.int .i64 k)]) (fun _ => []) 0 ⟨Nat.zero_le _,fun k hk => absurd hk (Nat.not_lt_zero _)⟩ (by simp only [↓reduceIte,reduceCtorEq,Nat.reduceEqDiff,go_sem]; try rfl) fun k hk => ?_
      obtain ⟨hk1,hk2⟩ := hk
      by_cases hki : k < i
      · have fk : ((k : Int) < (i : Int)) = True := eq_true (by omega)
        have fkl : ((k : Int) < (l.1 : Int)) = True := eq_true (by omega)
        have pk1 : (0 ≤ (k : Int)) = True := eq_true (by omega)
        cases hb : clnB l i k with
        | false =>
          simp only [fk,fkl,pk1,hb,hw,↓imp_tt,↓imp_tf,↓reduceIte,reduceCtorEq,Nat.reduceEqDiff,Nat.reduceSub,Nat.reducePow,go_sem]
          refine inv_intro (k + 1) ⟨hki,fun k' hk' => ?_⟩ (by omega) ?_
          · by_cases e : k' = k
            · subst e; rw [hb]; rintro ⟨h1,_⟩; cases h1
            · exact hk2 k' (by omega)
          · simp only [↓reduceIte,reduceCtorEq,Nat.reduceEqDiff,go_sem]
            rw [wrS (by omega)]
        | true =>
          by_cases hc : ctrP l i k
          · have hbe : badI l = i := fstI_at hil ⟨k,hki,hb,hc⟩ hi2
            rw [if_pos (by omega),hbe]
            unfold ctrP at hc
            simp only [fk,fkl,fi,pk1,pi1,hb,hw,↓imp_tt,↓imp_tf,↓imp_ft,↓imp_ff,↓reduceIte,reduceCtorEq,Nat.reduceEqDiff,Nat.reduceAdd,Nat.reduceSub,Nat.reduceLeDiff,Nat.reducePow,go_sem]
            repeat' (first | omega | (with_reducible apply And.intro) | intro _)
          · have hnc := hc
            unfold ctrP at hnc
            simp only [fk,fkl,fi,pk1,pi1,hb,hw,↓imp_tt,↓imp_tf,↓imp_ft,↓imp_ff,↓reduceIte,reduceCtorEq,Nat.reduceEqDiff,Nat.reduceAdd,Nat.reduceSub,Nat.reduceLeDiff,Nat.reducePow,go_sem]
            repeat' (first | omega | (with_reducible apply And.intro) | intro _)
            all_goals first
              | omega
              | (refine inv_intro (k + 1) ⟨hki,fun k' hk' => ?_⟩ (by omega) ?_
                 · by_cases e : k' = k
                   · subst e; exact fun h => hc h.2
                   · exact hk2 k' (by omega)
                 · simp only [↓reduceIte,reduceCtorEq,Nat.reduceEqDiff,go_sem]
                   rw [wrS (by omega)])
              | (exfalso; omega)
      · have fk : ((k : Int) < (i : Int)) = False := eq_false (by omega)
        obtain rfl : k = i := by omega
        simp only [fk,↓imp_ft,↓imp_ff,↓reduceIte,reduceCtorEq,Nat.reduceEqDiff,go_sem]
        refine inv_intro (k + 1) ⟨hil,fun i' hi' => ?_⟩ (by omega) ?_
        · by_cases e : i' = k
          · subst e; rintro ⟨k',h1,h2,h3⟩; exact hk2 k' h1 ⟨h2,h3⟩
          · exact hi2 i' (by omega)
        · simp only [↓reduceIte,reduceCtorEq,go_sem]
          rw [wrS (by omega)]
    · have fi : ((i : Int) < (l.1 : Int)) = False := eq_false (by omega)
      obtain rfl : i = l.1 := by omega
      have hbad : ¬ badI l < l.1 := by unfold badI; rw [fstI_no fun j hj => hi2 j hj]; exact Nat.lt_irrefl _
      rw [if_neg hbad]
      simp only [fi,hw,↓imp_ft,↓imp_ff,↓reduceIte,reduceCtorEq,Nat.reduceEqDiff,Nat.reduceSub,Nat.reducePow,go_sem]
      refine loopJ (ι := Nat) (fun j => j ≤ l.1) (fun j => l.1 - j) [0] (fun j => [(10,.int .i64 j),(9,.own (.n 0))]) (fun j => [(0,.row 43 5 j fun a b => (knP l a).c b)]) 1 0 (Nat.zero_le _) (by simp only [↓reduceIte,reduceCtorEq,Nat.reduceEqDiff,Nat.reduceLT,go_sem]; try simp) fun j hj => ?_
      by_cases hjl : j < l.1
      · have fj : ((j : Int) < (l.1 : Int)) = True := eq_true (by omega)
        have pj1 : (0 ≤ (j : Int)) = True := eq_true (by omega)
        simp only [fj,pj1,hpt,sClonesR,Int.toNat_natCast,hw,↓imp_tt,↓imp_tf,↓reduceIte,reduceCtorEq,Nat.reduceEqDiff,Nat.reduceAdd,Nat.reduceSub,Nat.reducePow,go_sem]
        have hsx : ∀ k,k < l.1 → (0 : Int) ≤ (l.2 k).sex.1 ∧ (l.2 k).sex.1 ≤ 255 := fun k _ => (l.2 k).sex.2
        refine loopI (ι := Nat) (fun k => k ≤ l.1) (fun k => l.1 - k) [0,9,10,11,12] (fun k => [(13,.int .i64 k)]) (fun k => [(1,.cells (.cons (.int .i64 (l.2 j).id) (.cons (.int .i64 (l.2 j).mother) (.cons (.int .i64 (l.2 j).planted) (.cons (.int .u8 (mxF (clnB l j) (fun k => (l.2 k).sex.1) k (l.2 j).sex.1)) (.cons (.int .i64 (mxF (clnB l j) (fun k => (l.2 k).sort) k (l.2 j).sort)) .nil))))))]) 0 (Nat.zero_le _) (by simp only [mxF,↓reduceIte,reduceCtorEq,Nat.reduceEqDiff,Nat.reduceLT,go_sem]; try rfl) fun k hk => ?_
        by_cases hkl : k < l.1
        · have fk : ((k : Int) < (l.1 : Int)) = True := eq_true (by omega)
          cases hb : clnB l j k with
          | true =>
            simp only [fk,hb,hw,↓imp_tt,↓imp_tf,↓imp_ft,↓imp_ff,↓reduceIte,reduceCtorEq,Nat.reduceEqDiff,Nat.reduceAdd,Nat.reduceSub,Nat.reduceLeDiff,Nat.reducePow,go_sem]
            refine ⟨by omega,by omega,by omega,inv_intro (k + 1) (by omega) (by omega) ?_⟩
            simp only [mxF,hb,↓reduceIte,reduceCtorEq,Nat.reduceEqDiff,Nat.reduceLT,go_sem]
            exact wrS (by omega)
          | false =>
            simp only [fk,hb,hw,↓imp_tt,↓imp_tf,↓reduceIte,reduceCtorEq,Nat.reduceEqDiff,Nat.reduceSub,Nat.reducePow,go_sem]
            refine ⟨by omega,inv_intro (k + 1) (by omega) (by omega) ?_⟩
            simp only [mxF,hb,Bool.false_eq_true,↓reduceIte,reduceCtorEq,Nat.reduceEqDiff,Nat.reduceLT,go_sem]
            exact wrS (by omega)
        · have fk : ((k : Int) < (l.1 : Int)) = False := eq_false (by omega)
          obtain rfl : k = l.1 := by omega
          simp only [fk,hw,↓imp_ft,↓imp_ff,↓reduceIte,reduceCtorEq,Nat.reduceEqDiff,Nat.reduceAdd,Nat.reduceSub,Nat.reduceLeDiff,Nat.reduceLT,Nat.reducePow,go_sem]
          refine ⟨by omega,by omega,inv_intro (j + 1) (by omega) (by omega) ?_⟩
          simp only [↓reduceIte,reduceCtorEq,Nat.reduceEqDiff,Nat.reduceLT,go_sem]
          refine ⟨wrS (by omega),fun a ha b hb => ?_⟩
          by_cases e : a < j
          · rw [if_pos e,vsubP_self]; trivial
          · obtain rfl : a = j := by omega
            have hse : (knP l a).sex.1 = sexF l a := toUI_in (mxF_in (a := 0) (b := 255) (hsx a (by omega)) hsx)
            rw [if_neg e,Nat.sub_self]
            match b,hb with
            | 0,_ => exact rfl
            | 1,_ => exact rfl
            | 2,_ => exact rfl
            | 3,_ => show vsubP (.int .u8 (knP l a).sex.1) _; rw [hse]; exact rfl
            | 4,_ => exact rfl
      · have fj : ((j : Int) < (l.1 : Int)) = False := eq_false (by omega)
        obtain rfl : j = l.1 := by omega
        simp only [fj,hw,↓imp_ft,↓imp_ff,↓reduceIte,reduceCtorEq,Nat.reduceEqDiff,Nat.reduceAdd,Nat.reduceSub,Nat.reducePow,go_sem]
  · have ep := pmE_no hp
    rw [if_neg (by rw [ep]; decide)]
    simp only [RunTo,a16,sCheck7,ep,hw,↓imp_tt,↓imp_tf,↓reduceIte,reduceCtorEq,Nat.reduceEqDiff,Nat.reduceAdd,Nat.reduceSub,Int.reduceBNe,Nat.reducePow,go_sem]
end Go.Proofs.Ytlapepdhkomijaa
namespace Go.Proofs.Ytlapepdhkomijaa
open Go Go.RowKit
variable {G : Nat → Option (Nat × (Nat → Val))}
theorem tu_enc {k : IntKind} (a : UI k) : (TU k).enc a = .int k a.1 := rfl
def bearsP (l : Pms) (id day sex : Int) : Prop := hitN l id < l.1 ∧ (l.2 (hitN l id)).sex.1 = sex ∧ 1500 ≤ day - (l.2 (hitN l id)).planted
noncomputable def sBears : Spec := spec4 (TSl RPm) TI TI (TU .u8) (fun l _ day _ => (∀ i,i < l.1 → 0 ≤ (l.2 i).planted ∧ (l.2 i).planted ≤ 100000) ∧ -1000000 ≤ day ∧ day ≤ 1000000) fun l id day sex => .bool (decP (bearsP l id day sex.1))
set_option maxRecDepth 100000 in
theorem pBears : PureOk Try.prog G 77 sBears := by
 refine fn4 (S := [(44,sAt)]) (I := []) mixed (.cons pAt .nil) .nil Try.func77 c77 fun l id day sex hp hw => ?_
 obtain ⟨hpl,hd1,hd2⟩ := hp
 simp only [tu_enc,Nat.reduceSub,Nat.reducePow,go_sem] at hw
 by_cases hm : hitN l id < l.1
 ·have ea := atF_pos hm
  have hh := hpl _ hm
  have e1 : IntKind.i64.wrap (day - (l.2 (hitN l id)).planted) = day - (l.2 (hitN l id)).planted := wr64 (by omega) (by omega)
  simp only [RunTo,a77,sAt,tu_enc,ea,e1,hw,↓imp_ft,↓imp_ff,↓reduceIte,reduceCtorEq,Nat.reduceEqDiff,Nat.reduceAdd,Nat.reduceSub,Nat.reduceLeDiff,Nat.reducePow,go_sem]
  repeat' (first | omega | (with_reducible apply And.intro) | intro _)
  all_goals first
   | (refine (decP_f ?_).symm; unfold bearsP; omega)
   | (rw [Bool.eq_iff_iff,decP_true]; unfold bearsP; simp; omega)
 ·have ea : (0 ≤ atF l id) = False := eq_false (by have := atF_neg.2 hm; omega)
  simp only [RunTo,a77,sAt,tu_enc,ea,hw,↓imp_ft,↓imp_ff,↓reduceIte,reduceCtorEq,Nat.reduceEqDiff,Nat.reduceAdd,Nat.reduceSub,Nat.reducePow,go_sem]
  repeat' (first | omega | (with_reducible apply And.intro) | intro _)
  all_goals first
   | (refine (decP_f ?_).symm; unfold bearsP; omega)
end Go.Proofs.Ytlapepdhkomijaa
namespace Go.Proofs.Ytlapepdhkomijaa
inductive Nd where
 | src | snk
 | sp (i : Nat)
 | hi (h : Nat)
 | ho (h : Nat)
 | lt (j : Nat)
 deriving DecidableEq
structure Nt where
 S : Nat
 H : Nat
 L : Nat
 first : Nat
 takes : Nat → Nat → Bool
 good : Nat → Nat → Bool
 fr : Nat → Bool
 gf : Nat → Bool
 un : Nat → Int
def Nt.ok (N : Nt) : Nd → Prop
 | .src | .snk => True
 | .sp i => i < N.S
 | .hi h | .ho h => h < N.H
 | .lt j => j < N.L
def Nt.cap (N : Nt) : Nd → Nd → Int
 | .src,.sp i => if N.first ≤ i ∧ i < N.S then 1 else 0
 | .sp i,.hi h => if N.first ≤ i ∧ i < N.S ∧ h < N.H ∧ N.takes i h = true then 1 else 0
 | .hi h,.ho h' => if h = h' ∧ h < N.H ∧ N.fr h = true then 1 else 0
 | .ho h,.lt j => if h < N.H ∧ j < N.L ∧ N.good h j = true ∧ N.gf h = true then 1 else 0
 | .lt j,.snk => if j < N.L then N.un j else 0
 | _,_ => 0
abbrev Nt.n (N : Nt) : Nat := 2 + N.S + 2 * N.H + N.L
structure Cod (N : Nt) (dec : Nat → Nd) (enc : Nd → Nat) : Prop where
 de : ∀ u,u < N.n → enc (dec u) = u
 ed : ∀ x,N.ok x → enc x < N.n ∧ dec (enc x) = x
 e0 : enc .src = 0
 e1 : enc .snk = 1
abbrev Pla := Nat → Option (Nat × Nat)
def Pla.size (g : Pla) (S : Nat) : Int := sumN (fun i => if (g i).isSome then 1 else 0) S
def lotIs (o : Option (Nat × Nat)) (j : Nat) : Bool := match o with
 | some p => p.2 == j
 | none => false
structure IsPlan (N : Nt) (g : Pla) : Prop where
 at' : ∀ i h j,g i = some (h,j) → N.first ≤ i ∧ i < N.S ∧ h < N.H ∧ j < N.L ∧ N.takes i h = true ∧ N.good h j = true ∧ N.fr h = true
 inj : ∀ i i' h j j',g i = some (h,j) → g i' = some (h,j') → i = i'
 lots : ∀ j,j < N.L → sumN (fun i => if lotIs (g i) j then 1 else 0) N.S ≤ N.un j
structure IsMost (N : Nt) (v : Int) : Prop where
 ex : ∃ g,IsPlan N g ∧ Pla.size g N.S = v
 le : ∀ g,IsPlan N g → Pla.size g N.S ≤ v
theorem IsMost.uniq {N : Nt} {v v' : Int} (h : IsMost N v) (h' : IsMost N v') : v = v' := by
 obtain ⟨g,hg,e⟩ := h.ex
 obtain ⟨g',hg',e'⟩ := h'.ex
 have := h.le g' hg'
 have := h'.le g hg
 omega
noncomputable def maxP (N : Nt) : Int := @dite _ (∃ v,IsMost N v) (Classical.propDecidable _) (fun h => Classical.choose h) fun _ => 0
theorem maxP_eq {N : Nt} {v : Int} (h : IsMost N v) : maxP N = v := by
 have hx : ∃ v,IsMost N v := ⟨v,h⟩
 have e : maxP N = Classical.choose hx := by unfold maxP; exact @dif_pos _ (Classical.propDecidable _) hx _ _ _
 rw [e]; exact (Classical.choose_spec hx).uniq h
theorem sumN_ind_le {P : Nat → Prop} [∀ i,Decidable (P i)] : ∀ {n : Nat},(∀ i i',i < n → i' < n → P i → P i' → i = i') → sumN (fun i => if P i then 1 else 0) n ≤ 1 := by
 intro n; induction n with
 | zero => intro _; simp [sumN]
 | succ n ih =>
  intro h
  simp only [sumN]
  by_cases hn : P n
  ·rw [if_pos hn]
   have : sumN (fun i => if P i then (1 : Int) else 0) n = sumN (fun _ => 0) n := sumN_congr fun i hi => by
    rw [if_neg fun hp => by have := h i n (by omega) (by omega) hp hn; omega]
   rw [this,sumN_zero]; omega
  ·rw [if_neg hn]
   have := ih fun i i' hi hi' => h i i' (by omega) (by omega)
   omega
theorem sumN_ind_none {P : Nat → Prop} [∀ i,Decidable (P i)] {n : Nat} (h : ∀ i,i < n → ¬ P i) : sumN (fun i => if P i then (1 : Int) else 0) n = 0 := by
 exact (sumN_congr fun i hi => by rw [if_neg (h i hi)]).trans (sumN_zero n)
theorem sumN_neg_pos {f : Nat → Int} {n k : Nat} (h0 : sumN f n = 0) (hk : k < n) (hf : f k < 0) : ∃ v,v < n ∧ 0 < f v := by
 apply Classical.byContradiction
 intro h
 have hle : ∀ v,v < n → f v ≤ 0 := fun v hv => by
  by_cases h2 : 0 < f v
  ·exact absurd ⟨v,hv,h2⟩ h
  ·omega
 have h1 : sumN f n ≤ sumN (fun v => if v = k then f k else 0) n := sumN_le fun v hv => by
  split
  ·rename_i e; subst e; exact Int.le_refl _
  ·exact hle v hv
 rw [sumN_one,if_pos hk] at h1
 omega
theorem sumN_skew {a : Nat → Nat → Int} {n : Nat} (h : ∀ i,i < n → ∀ j,j < n → a j i = - a i j) : sumN (fun i => sumN (a i) n) n = 0 := by
 have h1 := sumN_swap a n n
 have h2 : sumN (fun j => sumN (fun i => a i j) n) n = - sumN (fun i => sumN (a i) n) n := by
  have : sumN (fun j => sumN (fun i => a i j) n) n = sumN (fun j => 0 - sumN (a j) n) n := sumN_congr fun j hj => by
   have : sumN (fun i => a i j) n = sumN (fun i => 0 - a j i) n := sumN_congr fun i hi => by have := h j hj i hi; omega
   rw [this,sumN_sub,sumN_zero]
  rw [this,sumN_sub,sumN_zero]; omega
 omega
structure FlowOk (N : Nt) (dec : Nat → Nd) (r : Nat → Nat → Int) (val : Int) : Prop where
 nn : ∀ i,i < N.n → ∀ j,j < N.n → 0 ≤ r i j
 sk : ∀ i,i < N.n → ∀ j,j < N.n → r i j + r j i = N.cap (dec i) (dec j) + N.cap (dec j) (dec i)
 row : ∀ i,i < N.n → i ≠ 0 → i ≠ 1 → sumN (r i) N.n = sumN (fun j => N.cap (dec i) (dec j)) N.n
 src : sumN (r 0) N.n = sumN (fun j => N.cap (dec 0) (dec j)) N.n - val
theorem FlowOk.start {N : Nt} {dec : Nat → Nd} {r : Nat → Nat → Int} (h : ∀ i,i < N.n → ∀ j,j < N.n → r i j = N.cap (dec i) (dec j)) (h0 : ∀ x y,0 ≤ N.cap x y) : FlowOk N dec r 0 where
 nn i hi j hj := by rw [h i hi j hj]; exact h0 _ _
 sk i hi j hj := by rw [h i hi j hj,h j hj i hi]
 row i hi _ _ := sumN_congr fun j hj => h i hi j hj
 src := by rw [Int.sub_zero]; exact sumN_congr fun j hj => h 0 (by simp only [Nt.n]; omega) j hj
theorem FlowOk.push {N : Nt} {dec : Nat → Nd} {r r' : Nat → Nat → Int} {val : Int} (h : FlowOk N dec r val) (hp : Pushed N.n 0 r r') : FlowOk N dec r' (val + 1) where
 nn := hp.nn
 sk i hi j hj := (hp.sk i hi j hj).trans (h.sk i hi j hj)
 row i hi h0 h1 := by rw [hp.row i hi,if_neg h0,if_neg h1,h.row i hi h0 h1]; omega
 src := by rw [hp.row 0 (by simp only [Nt.n]; omega),if_pos rfl,if_neg (by decide),h.src]; omega
section
variable {N : Nt} {dec : Nat → Nd} {enc : Nd → Nat} {r : Nat → Nat → Int} {val : Int}
def flo (N : Nt) (dec : Nat → Nd) (r : Nat → Nat → Int) (u v : Nat) : Int := N.cap (dec u) (dec v) - r u v
theorem FlowOk.fsk (h : FlowOk N dec r val) {i j : Nat} (hi : i < N.n) (hj : j < N.n) : flo N dec r j i = - flo N dec r i j := by
 have := h.sk i hi j hj; simp only [flo]; omega
theorem FlowOk.fle (h : FlowOk N dec r val) {i j : Nat} (hi : i < N.n) (hj : j < N.n) : flo N dec r i j ≤ N.cap (dec i) (dec j) := by
 have := h.nn i hi j hj; simp only [flo]; omega
theorem FlowOk.frow (h : FlowOk N dec r val) {i : Nat} (hi : i < N.n) (h0 : i ≠ 0) (h1 : i ≠ 1) : sumN (flo N dec r i) N.n = 0 := by
 show sumN (fun j => N.cap (dec i) (dec j) - r i j) N.n = 0
 rw [sumN_sub,h.row i hi h0 h1]; omega
theorem FlowOk.fsrc (h : FlowOk N dec r val) : sumN (flo N dec r 0) N.n = val := by
 show sumN (fun j => N.cap (dec 0) (dec j) - r 0 j) N.n = val
 rw [sumN_sub,h.src]; omega
theorem FlowOk.cut (h : FlowOk N dec r val) {s : Nat → Bool} (h0 : s 0 = true) (h1 : s 1 = false) (hc : ∀ u,u < N.n → s u = true → ∀ v,v < N.n → 0 < r u v → s v = true) :
  val = sumN (fun u => sumN (fun v => if s u = true ∧ s v = false then N.cap (dec u) (dec v) else 0) N.n) N.n := by
 have hn : 1 < N.n := by simp only [Nt.n]; omega
 have e1 : sumN (fun u => sumN (fun v => if s u = true then flo N dec r u v else 0) N.n) N.n = val := by
  have : sumN (fun u => sumN (fun v => if s u = true then flo N dec r u v else 0) N.n) N.n = sumN (fun u => if u = 0 then val else 0) N.n := by
   refine sumN_congr fun u hu => ?_
   by_cases hs : s u = true
   ·simp only [hs,if_true]
    by_cases e0 : u = 0
    ·subst e0; rw [if_pos rfl]; exact h.fsrc
    ·rw [if_neg e0]; exact h.frow hu e0 fun e => by subst e; rw [h1] at hs; cases hs
   ·simp only [hs]
    rw [if_neg (fun e : u = 0 => hs (by rw [e]; exact h0))]
    exact sumN_zero _
  rw [this,sumN_one,if_pos (by omega)]
 have e2 : sumN (fun u => sumN (fun v => if s u = true ∧ s v = true then flo N dec r u v else 0) N.n) N.n = 0 := by
  refine sumN_skew fun i hi j hj => ?_
  have := h.fsk hi hj
  by_cases ha : s i = true <;> by_cases hb : s j = true <;> simp [ha,hb]
  exact this
 have e3 : sumN (fun u => sumN (fun v => if s u = true then flo N dec r u v else 0) N.n) N.n =
   sumN (fun u => sumN (fun v => if s u = true ∧ s v = true then flo N dec r u v else 0) N.n) N.n + sumN (fun u => sumN (fun v => if s u = true ∧ s v = false then N.cap (dec u) (dec v) else 0) N.n) N.n := by
  rw [← sumN_add]
  refine sumN_congr fun u hu => ?_
  rw [← sumN_add]
  refine sumN_congr fun v hv => ?_
  by_cases ha : s u = true
  ·by_cases hb : s v = true
   ·simp [ha,hb]
   ·have hb' : s v = false := by simpa using hb
    simp only [ha,hb',if_true,and_self,Bool.false_eq_true,and_false,if_false]
    have h2 := h.nn u hu v hv
    have h3 : ¬ 0 < r u v := fun h4 => hb (hc u hu ha v hv h4)
    simp only [flo]; omega
  ·simp [ha]
 omega
theorem FlowOk.dust (hC : Cod N dec enc) (hg : ∀ h,N.fr h = true → N.gf h = true) (h : FlowOk N dec r val) {i : Nat} (hi : i < N.S) (hf : 0 < flo N dec r 0 (enc (.sp i))) :
  ∃ p : Nat × Nat,(N.first ≤ i ∧ p.1 < N.H ∧ p.2 < N.L ∧ N.takes i p.1 = true ∧ N.good p.1 p.2 = true ∧ N.fr p.1 = true) ∧ 0 < flo N dec r (enc (.sp i)) (enc (.hi p.1)) ∧ 0 < flo N dec r (enc (.hi p.1)) (enc (.ho p.1)) ∧ 0 < flo N dec r (enc (.ho p.1)) (enc (.lt p.2)) := by
 have hn : 1 < N.n := by simp only [Nt.n]; omega
 obtain ⟨u1,u2⟩ := hC.ed (.sp i) hi
 have d0 : dec 0 = .src := by have := (hC.ed .src trivial).2; rw [hC.e0] at this; exact this
 have d1 : dec 1 = .snk := by have := (hC.ed .snk trivial).2; rw [hC.e1] at this; exact this
 have hU0 : enc (.sp i) ≠ 0 := fun e => by rw [e,d0] at u2; cases u2
 have hU1 : enc (.sp i) ≠ 1 := fun e => by rw [e,d1] at u2; cases u2
 have hfi : N.first ≤ i := by
  have := h.fle (show 0 < N.n from by omega) u1
  rw [d0,u2] at this
  simp only [Nt.cap] at this
  split at this
  ·rename_i hh; exact hh.1
  ·omega
 obtain ⟨v,hv,hfv⟩ := sumN_neg_pos (h.frow u1 hU0 hU1) (show 0 < N.n from by omega) (by have := h.fsk (show 0 < N.n from by omega) u1; omega)
 have hcv := h.fle u1 hv
 rw [u2] at hcv
 cases hd : dec v <;> rw [hd] at hcv <;> simp only [Nt.cap] at hcv <;> first | (exact absurd hfv (by omega)) | skip
 rename_i hh
 have hcv' : N.first ≤ i ∧ i < N.S ∧ hh < N.H ∧ N.takes i hh = true := by
  apply Classical.byContradiction; intro hx; rw [if_neg hx] at hcv; omega
 have hev : enc (.hi hh) = v := by rw [← hd]; exact hC.de v hv
 have hV0 : v ≠ 0 := fun e => by rw [e,d0] at hd; cases hd
 have hV1 : v ≠ 1 := fun e => by rw [e,d1] at hd; cases hd
 obtain ⟨v2,hv2,hfv2⟩ := sumN_neg_pos (h.frow hv hV0 hV1) u1 (by have := h.fsk u1 hv; omega)
 have hcv2 := h.fle hv hv2
 rw [hd] at hcv2
 cases hd2 : dec v2 <;> rw [hd2] at hcv2 <;> simp only [Nt.cap] at hcv2 <;> first | (exact absurd hfv2 (by omega)) | skip
 rename_i hh2
 have hcv2' : hh = hh2 ∧ hh < N.H ∧ N.fr hh = true := by
  apply Classical.byContradiction; intro hx; rw [if_neg hx] at hcv2; omega
 obtain ⟨rfl,_,hfr⟩ := hcv2'
 have hev2 : enc (.ho hh) = v2 := by rw [← hd2]; exact hC.de v2 hv2
 have hW0 : v2 ≠ 0 := fun e => by rw [e,d0] at hd2; cases hd2
 have hW1 : v2 ≠ 1 := fun e => by rw [e,d1] at hd2; cases hd2
 obtain ⟨v3,hv3,hfv3⟩ := sumN_neg_pos (h.frow hv2 hW0 hW1) hv (by have := h.fsk hv hv2; omega)
 have hcv3 := h.fle hv2 hv3
 rw [hd2] at hcv3
 cases hd3 : dec v3 <;> rw [hd3] at hcv3 <;> simp only [Nt.cap] at hcv3 <;> first | (exact absurd hfv3 (by omega)) | skip
 rename_i j
 have hcv3' : hh < N.H ∧ j < N.L ∧ N.good hh j = true ∧ N.gf hh = true := by
  apply Classical.byContradiction; intro hx; rw [if_neg hx] at hcv3; omega
 have hev3 : enc (.lt j) = v3 := by rw [← hd3]; exact hC.de v3 hv3
 exact ⟨(hh,j),⟨hfi,hcv'.2.2.1,hcv3'.2.1,hcv'.2.2.2,hcv3'.2.2.1,hfr⟩,by rw [hev]; exact hfv,by rw [hev,hev2]; exact hfv2,by rw [hev2,hev3]; exact hfv3⟩
theorem FlowOk.sps (hC : Cod N dec enc) (h : FlowOk N dec r val) : sumN (fun i => flo N dec r 0 (enc (.sp i))) N.S = val := by
 have hn : 1 < N.n := by simp only [Nt.n]; omega
 have d0 : dec 0 = .src := by have := (hC.ed .src trivial).2; rw [hC.e0] at this; exact this
 rw [← h.fsrc]
 have : sumN (flo N dec r 0) N.n = sumN (fun v => sumN (fun i => if v = enc (.sp i) then flo N dec r 0 v else 0) N.S) N.n := by
  refine sumN_congr fun v hv => ?_
  cases hd : dec v with
  | sp i =>
   by_cases hi : i < N.S
   ·have hev : enc (.sp i) = v := by rw [← hd]; exact hC.de v hv
    have : sumN (fun i' => if v = enc (.sp i') then flo N dec r 0 v else 0) N.S = sumN (fun i' => if i' = i then flo N dec r 0 v else 0) N.S := sumN_congr fun i' hi' => by
     by_cases e : i' = i
     ·subst e; rw [if_pos hev.symm,if_pos rfl]
     ·rw [if_neg e,if_neg fun e2 => e (by have := (hC.ed (.sp i') hi').2; rw [← e2,hd] at this; injection this with this; exact this.symm)]
    rw [this,sumN_one,if_pos hi]
   ·have h1 := h.fle (show 0 < N.n from by omega) hv
    have h2 := h.fle hv (show 0 < N.n from by omega)
    rw [h.fsk (show 0 < N.n from by omega) hv] at h2
    rw [d0,hd] at h1 h2
    simp only [Nt.cap] at h1 h2
    rw [if_neg fun e => hi e.2] at h1
    have h0 : flo N dec r 0 v = 0 := by omega
    rw [h0]
    exact ((sumN_congr fun i' hi' => by split <;> rfl).trans (sumN_zero _)).symm
  | _ =>
   have h1 := h.fle (show 0 < N.n from by omega) hv
   have h2 := h.fle hv (show 0 < N.n from by omega)
   rw [h.fsk (show 0 < N.n from by omega) hv] at h2
   rw [d0,hd] at h1 h2
   simp only [Nt.cap] at h1 h2
   have h0 : flo N dec r 0 v = 0 := by omega
   rw [h0]
   exact ((sumN_congr fun i' hi' => by split <;> rfl).trans (sumN_zero _)).symm
 rw [this,sumN_swap (fun v i => if v = enc (.sp i) then flo N dec r 0 v else 0) N.n N.S]
 refine sumN_congr fun i hi => ?_
 have : sumN (fun v => if v = enc (.sp i) then flo N dec r 0 v else 0) N.n = sumN (fun v => if v = enc (.sp i) then flo N dec r 0 (enc (.sp i)) else 0) N.n := sumN_congr fun v _ => by
  split
  ·rename_i e; rw [e]
  ·rfl
 rw [this,sumN_one,if_pos (hC.ed (.sp i) hi).1]
theorem FlowOk.plan (hC : Cod N dec enc) (hg : ∀ h,N.fr h = true → N.gf h = true) (hun : ∀ j,0 ≤ N.un j) (h : FlowOk N dec r val) : ∃ g,IsPlan N g ∧ Pla.size g N.S = val := by
 classical
 have hn : 1 < N.n := by simp only [Nt.n]; omega
 have d0 : dec 0 = .src := by have := (hC.ed .src trivial).2; rw [hC.e0] at this; exact this
 have d1 : dec 1 = .snk := by have := (hC.ed .snk trivial).2; rw [hC.e1] at this; exact this
 let on : Nat → Prop := fun i => i < N.S ∧ 0 < flo N dec r 0 (enc (.sp i))
 let g : Pla := fun i => if hi : on i then some (Classical.choose (h.dust hC hg hi.1 hi.2)) else none
 have hgs : ∀ i p,g i = some p → on i ∧ (N.first ≤ i ∧ p.1 < N.H ∧ p.2 < N.L ∧ N.takes i p.1 = true ∧ N.good p.1 p.2 = true ∧ N.fr p.1 = true) ∧ 0 < flo N dec r (enc (.sp i)) (enc (.hi p.1)) ∧ 0 < flo N dec r (enc (.hi p.1)) (enc (.ho p.1)) ∧ 0 < flo N dec r (enc (.ho p.1)) (enc (.lt p.2)) := by
  intro i p hp
  by_cases hi : on i
  ·simp only [g,dif_pos hi,Option.some.injEq] at hp
   subst hp
   exact ⟨hi,Classical.choose_spec (h.dust hC hg hi.1 hi.2)⟩
  ·simp only [g,dif_neg hi] at hp; cases hp
 have hinj : ∀ i i' hh j j',g i = some (hh,j) → g i' = some (hh,j') → i = i' := by
  intro i i' hh j j' h1 h2
  obtain ⟨⟨a1,_⟩,⟨_,a2,_⟩,a3,a4,_⟩ := hgs i _ h1
  obtain ⟨⟨b1,_⟩,_,b3,_⟩ := hgs i' _ h2
  simp only at a2 a3 a4 b3
  apply Classical.byContradiction
  intro hne
  obtain ⟨s1,s2⟩ := hC.ed (.sp i) a1
  obtain ⟨t1,t2⟩ := hC.ed (.sp i') b1
  obtain ⟨v1,v2⟩ := hC.ed (.hi hh) a2
  obtain ⟨o1,o2⟩ := hC.ed (.ho hh) a2
  have hV0 : enc (.hi hh) ≠ 0 := fun e => by rw [e,d0] at v2; cases v2
  have hV1 : enc (.hi hh) ≠ 1 := fun e => by rw [e,d1] at v2; cases v2
  have hrow := h.frow v1 hV0 hV1
  have k1 := h.fsk s1 v1
  have k2 := h.fsk t1 v1
  have est : enc (.sp i) ≠ enc (.sp i') := fun e => hne (by rw [e,t2] at s2; injection s2 with s2; exact s2.symm)
  have hle : sumN (flo N dec r (enc (.hi hh))) N.n ≤ sumN (fun v => (if v = enc (.ho hh) then 1 else 0) + ((if v = enc (.sp i) then (-1) else 0) + (if v = enc (.sp i') then (-1) else 0))) N.n := by
   refine sumN_le fun v hv => ?_
   have hc := h.fle v1 hv
   rw [v2] at hc
   by_cases e1 : v = enc (.ho hh)
   ·have n1 : v ≠ enc (.sp i) := fun e => by rw [e1] at e; rw [e,s2] at o2; cases o2
    have n2 : v ≠ enc (.sp i') := fun e => by rw [e1] at e; rw [e,t2] at o2; cases o2
    rw [if_pos e1,if_neg n1,if_neg n2]
    rw [e1,o2] at hc
    simp only [Nt.cap] at hc
    rw [← e1] at hc
    split at hc <;> omega
   ·rw [if_neg e1]
    by_cases e2 : v = enc (.sp i)
    ·have n2 : v ≠ enc (.sp i') := fun e => est (e2.symm.trans e)
     rw [if_pos e2,if_neg n2,e2]; omega
    ·rw [if_neg e2]
     by_cases e3 : v = enc (.sp i')
     ·rw [if_pos e3,e3]; omega
     ·rw [if_neg e3]
      cases hd : dec v <;> rw [hd] at hc <;> simp only [Nt.cap] at hc <;> first | omega | skip
      rename_i h'
      rw [if_neg fun hx => e1 (by rw [hx.1,← hd]; exact (hC.de v hv).symm)] at hc
      omega
  rw [hrow,sumN_add,sumN_add,sumN_one,sumN_one,sumN_one,if_pos o1,if_pos s1,if_pos t1] at hle
  omega
 refine ⟨g,⟨fun i hh j hp => ?_,hinj,fun j hj => ?_⟩,?_⟩
 ·obtain ⟨⟨a1,_⟩,⟨a2,a3,a4,a5,a6,a7⟩,_⟩ := hgs i _ hp
  exact ⟨a2,a1,a3,a4,a5,a6,a7⟩
 ·obtain ⟨w1,w2⟩ := hC.ed (.lt j) hj
  have hW0 : enc (.lt j) ≠ 0 := fun e => by rw [e,d0] at w2; cases w2
  have hW1 : enc (.lt j) ≠ 1 := fun e => by rw [e,d1] at w2; cases w2
  have hrow := h.frow w1 hW0 hW1
  let hit : Nat → Nat → Prop := fun v i => ∃ hh,g i = some (hh,j) ∧ v = enc (.ho hh)
  have hle : sumN (flo N dec r (enc (.lt j))) N.n ≤ sumN (fun v => (if v = 1 then N.un j else 0) - sumN (fun i => if hit v i then 1 else 0) N.S) N.n := by
   refine sumN_le fun v hv => ?_
   have hc := h.fle w1 hv
   rw [w2] at hc
   by_cases e1 : v = 1
   ·subst e1
    rw [if_pos rfl,sumN_ind_none fun i hi => ?_]
    ·rw [d1] at hc; simp only [Nt.cap] at hc; rw [if_pos hj] at hc; omega
    ·rintro ⟨hh,hp,e⟩
     obtain ⟨_,⟨_,a3,_⟩,_⟩ := hgs i _ hp
     have := (hC.ed (.ho hh) a3).2
     rw [← e,d1] at this; cases this
   ·rw [if_neg e1]
    have hone : sumN (fun i => if hit v i then (1 : Int) else 0) N.S ≤ 1 := sumN_ind_le fun i i' hi hi' => by
     rintro ⟨hh,hp,e⟩ ⟨hh',hp',e'⟩
     obtain ⟨_,⟨_,a3,_⟩,_⟩ := hgs i _ hp
     obtain ⟨_,⟨_,a3',_⟩,_⟩ := hgs i' _ hp'
     have q1 := (hC.ed (.ho hh) a3).2
     have q2 := (hC.ed (.ho hh') a3').2
     rw [← e] at q1
     rw [← e'] at q2
     rw [q1] at q2
     injection q2 with q2
     subst q2
     exact hinj i i' hh j j hp hp'
    by_cases hx : ∃ i,i < N.S ∧ hit v i
    ·obtain ⟨i,hi,hh,hp,e⟩ := hx
     obtain ⟨_,_,_,_,a⟩ := hgs i _ hp
     have := h.fsk (hC.ed (.ho hh) (hgs i _ hp).2.1.2.1).1 w1
     simp only at a
     rw [e] at hone ⊢
     omega
    ·rw [sumN_ind_none fun i hi hh => hx ⟨i,hi,hh⟩]
     cases hd : dec v <;> rw [hd] at hc <;> simp only [Nt.cap] at hc <;> first | omega | skip
     exact absurd (by have := hC.de v hv; rw [hd,hC.e1] at this; exact this.symm) e1
  rw [hrow,sumN_sub,sumN_one,if_pos hn,sumN_swap (fun v i => if hit v i then (1 : Int) else 0) N.n N.S] at hle
  have : sumN (fun i => if lotIs (g i) j = true then (1 : Int) else 0) N.S = sumN (fun i => sumN (fun v => if hit v i then 1 else 0) N.n) N.S := by
   refine sumN_congr fun i hi => ?_
   cases hp : g i with
   | none =>
    rw [if_neg (by simp [lotIs])]
    exact (sumN_ind_none fun v hv => by rintro ⟨hh,hq,_⟩; rw [hp] at hq; cases hq).symm
   | some p =>
    obtain ⟨hh,j'⟩ := p
    by_cases ej : j' = j
    ·subst ej
     have a3 := (hgs i _ hp).2.1.2.1
     rw [if_pos (by simp [lotIs])]
     have : sumN (fun v => if hit v i then (1 : Int) else 0) N.n = sumN (fun v => if v = enc (.ho hh) then 1 else 0) N.n := sumN_congr fun v hv => by
      have : hit v i ↔ v = enc (.ho hh) := ⟨fun ⟨h2,hq,e⟩ => by rw [hp] at hq; cases hq; exact e,fun e => ⟨hh,hp,e⟩⟩
      by_cases e : v = enc (.ho hh)
      ·rw [if_pos e,if_pos (this.2 e)]
      ·rw [if_neg e,if_neg fun hx => e (this.1 hx)]
     rw [this,sumN_one,if_pos (hC.ed (.ho hh) a3).1]
    ·rw [if_neg (by simp [lotIs,ej])]
     exact (sumN_ind_none fun v hv => by rintro ⟨h2,hq,_⟩; rw [hp] at hq; cases hq; exact ej rfl).symm
  rw [this]
  omega
 ·rw [← h.sps hC]
  refine sumN_congr fun i hi => ?_
  obtain ⟨s1,s2⟩ := hC.ed (.sp i) hi
  have h1 := h.fle (show 0 < N.n from by omega) s1
  have h2 := h.fle s1 (show 0 < N.n from by omega)
  rw [h.fsk (show 0 < N.n from by omega) s1] at h2
  rw [d0,s2] at h1 h2
  simp only [Nt.cap] at h1 h2
  by_cases ho : 0 < flo N dec r 0 (enc (.sp i))
  ·have : on i := ⟨hi,ho⟩
   simp only [g,dif_pos this,Option.isSome_some,if_true]
   split at h1 <;> omega
  ·have : ¬ on i := fun hx => ho hx.2
   simp only [g,dif_neg this,Option.isSome_none]
   simp; omega
end
end Go.Proofs.Ytlapepdhkomijaa
