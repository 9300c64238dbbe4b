/- Palms: what is known; the reference's Known. No condition. -/
import Derived.Test.YtlapepdhkomijaaPSel
set_option linter.unusedSimpArgs false
set_option linter.unusedVariables false
namespace Go.Proofs.Ytlapepdhkomijaa
open Go Go.RowKit
variable {G : Nat → Option (Nat × (Nat → Val))}
def mxF (p : Nat → Bool) (f : Nat → Int) : Nat → Int → Int
 | 0,x => x
 | n + 1,x => if p n = true then max (mxF p f n x) (f n) else mxF p f n x
def ctrP (l : Pms) (i k : Nat) : Prop := ((l.2 i).sex.1 ≠ 0 ∧ (l.2 k).sex.1 ≠ 0 ∧ (l.2 i).sex.1 ≠ (l.2 k).sex.1) ∨ ((l.2 i).sort ≠ 0 ∧ (l.2 k).sort ≠ 0 ∧ (l.2 i).sort ≠ (l.2 k).sort)
noncomputable def badI (l : Pms) : Nat := fstI (fun i => ∃ k,k < i ∧ clnB l i k = true ∧ ctrP l i k) l.1
noncomputable def sexF (l : Pms) (i : Nat) : Int := mxF (clnB l i) (fun k => (l.2 k).sex.1) l.1 (l.2 i).sex.1
noncomputable def sortF (l : Pms) (i : Nat) : Int := mxF (clnB l i) (fun k => (l.2 k).sort) l.1 (l.2 i).sort
noncomputable def knP (l : Pms) (i : Nat) : Pm := ⟨(l.2 i).id,(l.2 i).mother,(l.2 i).planted,toUI .u8 (sexF l i),sortF l i⟩
theorem mxF_in {p : Nat → Bool} {f : Nat → Int} {a b : Int} : ∀ {n : Nat} {x : Int},(a ≤ x ∧ x ≤ b) → (∀ i,i < n → a ≤ f i ∧ f i ≤ b) → a ≤ mxF p f n x ∧ mxF p f n x ≤ b := by
 intro n
 induction n with
 | zero => intro x hx _; exact hx
 | succ n ih =>
  intro x hx h
  have h1 := ih hx fun i hi => h i (by omega)
  have h2 := h n (by omega)
  simp only [mxF]; split
  ·omega
  ·exact h1
noncomputable def sKnown7 : Spec := spec1 (TSl RPm) (fun _ => True) fun l => if pmE l = 0 then (if badI l < l.1 then .tup (.cons .nils (.cons (.int .i64 (badI l : Nat)) (.cons (.int .i64 71) .nil))) else .tup (.cons (.view 5 l.1 fun i j => (knP l i).c j) (.cons (.int .i64 0) (.cons (.int .i64 0) .nil)))) else .tup (.cons .nils (.cons (.int .i64 0) (.cons (.int .i64 70) .nil)))
set_option maxHeartbeats 4000000 in
set_option maxRecDepth 100000 in
theorem pKnown7 : PureOk Try.prog G 16 sKnown7 := by
  refine fn1 (S := [(20,sCheck7),(49,sClonesR)]) (I := []) mixed (.cons pCheck7 (.cons pClonesR .nil)) .nil Try.func16 c16 fun l _ hw => ?_
  simp only [Nat.reduceSub,Nat.reducePow,TSl,RPm,Pm.d,go_sem] at hw
  by_cases hp : PmsOk l
  · have ep := pmE_ok hp
    rw [if_pos ep]
    have hn24 := hp.n
    have hpt : PmsOk l = True := eq_true hp
    simp only [RunTo,a16,sCheck7,ep,hw,↓imp_ft,↓imp_ff,↓reduceIte,reduceCtorEq,Nat.reduceSub,Nat.reducePow,spec1,TSl,IsSl,Prod.eta,Pm.c0,Pm.c1,Pm.c2,Pm.c3,Pm.c4,RPm,Pm.w_c,Pm.d,Pm.eta,toUI_val,go_sem]
    refine loopI (ι := Nat) (fun i => i ≤ l.1 ∧ ∀ i',i' < i → ¬ ∃ k,k < i' ∧ clnB l i' k = true ∧ ctrP l i' k) (fun i => l.1 - i) [0] (fun i => [(6,.int .i64 i)]) (fun _ => []) 0 ⟨Nat.zero_le _,fun i hi => absurd hi (Nat.not_lt_zero _)⟩ (by simp only [↓reduceIte,reduceCtorEq,go_sem]; try rfl) fun i hi => ?_
    obtain ⟨hi1,hi2⟩ := hi
    by_cases hil : i < l.1
    · have fi : ((i : Int) < (l.1 : Int)) = True := eq_true (by omega)
      have pi1 : (0 ≤ (i : Int)) = True := eq_true (by omega)
      simp only [fi,pi1,hpt,sClonesR,Int.toNat_natCast,hw,↓imp_tt,↓imp_tf,↓reduceIte,reduceCtorEq,Nat.reduceEqDiff,Nat.reduceSub,Nat.reducePow,spec2,TSl,IsSl,TInt,IsInt,Prod.eta,Pm.c0,Pm.c1,Pm.c2,Pm.c3,Pm.c4,RPm,Pm.w_c,Pm.d,Pm.eta,toUI_val,go_sem]
      refine loopI (ι := Nat) (fun k => k ≤ i ∧ ∀ k',k' < k → ¬ (clnB l i k' = true ∧ ctrP l i k')) (fun k => i - k) [0,6,7] (fun k => [(8,.int .i64 k)]) (fun _ => []) 0 ⟨Nat.zero_le _,fun k hk => absurd hk (Nat.not_lt_zero _)⟩ (by simp only [↓reduceIte,reduceCtorEq,Nat.reduceEqDiff,go_sem]; try rfl) fun k hk => ?_
      obtain ⟨hk1,hk2⟩ := hk
      by_cases hki : k < i
      · have fk : ((k : Int) < (i : Int)) = True := eq_true (by omega)
        have fkl : ((k : Int) < (l.1 : Int)) = True := eq_true (by omega)
        have pk1 : (0 ≤ (k : Int)) = True := eq_true (by omega)
        cases hb : clnB l i k with
        | false =>
          simp only [fk,fkl,pk1,hb,hw,↓imp_tt,↓imp_tf,↓reduceIte,reduceCtorEq,Nat.reduceEqDiff,Nat.reduceSub,Nat.reducePow,go_sem]
          refine inv_intro (k + 1) ⟨hki,fun k' hk' => ?_⟩ (by omega) ?_
          · by_cases e : k' = k
            · subst e; rw [hb]; rintro ⟨h1,_⟩; cases h1
            · exact hk2 k' (by omega)
          · simp only [↓reduceIte,reduceCtorEq,Nat.reduceEqDiff,go_sem]
            rw [wrS (by omega)]
        | true =>
          by_cases hc : ctrP l i k
          · have hbe : badI l = i := fstI_at hil ⟨k,hki,hb,hc⟩ hi2
            rw [if_pos (by omega),hbe]
            unfold ctrP at hc
            simp only [fk,fkl,fi,pk1,pi1,hb,hw,↓imp_tt,↓imp_tf,↓imp_ft,↓imp_ff,↓reduceIte,reduceCtorEq,Nat.reduceEqDiff,Nat.reduceAdd,Nat.reduceSub,Nat.reduceLeDiff,Nat.reducePow,Pm.c3,Pm.c4,go_sem]
            repeat' (first | omega | (with_reducible apply And.intro) | intro _)
          · have hnc := hc
            unfold ctrP at hnc
            simp only [fk,fkl,fi,pk1,pi1,hb,hw,↓imp_tt,↓imp_tf,↓imp_ft,↓imp_ff,↓reduceIte,reduceCtorEq,Nat.reduceEqDiff,Nat.reduceAdd,Nat.reduceSub,Nat.reduceLeDiff,Nat.reducePow,Pm.c3,Pm.c4,go_sem]
            repeat' (first | omega | (with_reducible apply And.intro) | intro _)
            all_goals first
              | omega
              | (refine inv_intro (k + 1) ⟨hki,fun k' hk' => ?_⟩ (by omega) ?_
                 · by_cases e : k' = k
                   · subst e; exact fun h => hc h.2
                   · exact hk2 k' (by omega)
                 · simp only [↓reduceIte,reduceCtorEq,Nat.reduceEqDiff,go_sem]
                   rw [wrS (by omega)])
              | (exfalso; omega)
      · have fk : ((k : Int) < (i : Int)) = False := eq_false (by omega)
        obtain rfl : k = i := by omega
        simp only [fk,↓imp_ft,↓imp_ff,↓reduceIte,reduceCtorEq,Nat.reduceEqDiff,go_sem]
        refine inv_intro (k + 1) ⟨hil,fun i' hi' => ?_⟩ (by omega) ?_
        · by_cases e : i' = k
          · subst e; rintro ⟨k',h1,h2,h3⟩; exact hk2 k' h1 ⟨h2,h3⟩
          · exact hi2 i' (by omega)
        · simp only [↓reduceIte,reduceCtorEq,go_sem]
          rw [wrS (by omega)]
    · have fi : ((i : Int) < (l.1 : Int)) = False := eq_false (by omega)
      obtain rfl : i = l.1 := by omega
      have hbad : ¬ badI l < l.1 := by unfold badI; rw [fstI_no fun j hj => hi2 j hj]; exact Nat.lt_irrefl _
      rw [if_neg hbad]
      simp only [fi,hw,↓imp_ft,↓imp_ff,↓reduceIte,reduceCtorEq,Nat.reduceEqDiff,Nat.reduceSub,Nat.reducePow,go_sem]
      refine loopJ (ι := Nat) (fun j => j ≤ l.1) (fun j => l.1 - j) [0] (fun j => [(10,.int .i64 j),(9,.own (.n 0))]) (fun j => [(0,.row 43 5 j fun a b => (knP l a).c b)]) 1 0 (Nat.zero_le _) (by simp only [↓reduceIte,reduceCtorEq,Nat.reduceEqDiff,Nat.reduceLT,go_sem]; try simp) fun j hj => ?_
      by_cases hjl : j < l.1
      · have fj : ((j : Int) < (l.1 : Int)) = True := eq_true (by omega)
        have pj1 : (0 ≤ (j : Int)) = True := eq_true (by omega)
        simp only [fj,pj1,hpt,sClonesR,Int.toNat_natCast,hw,↓imp_tt,↓imp_tf,↓reduceIte,reduceCtorEq,Nat.reduceEqDiff,Nat.reduceAdd,Nat.reduceSub,Nat.reducePow,spec2,TSl,IsSl,TInt,IsInt,Prod.eta,Pm.c0,Pm.c1,Pm.c2,Pm.c3,Pm.c4,RPm,Pm.w_c,Pm.d,Pm.eta,toUI_val,go_sem]
        have hsx : ∀ k,k < l.1 → (0 : Int) ≤ (l.2 k).sex.1 ∧ (l.2 k).sex.1 ≤ 255 := fun k _ => (l.2 k).sex.2
        refine loopI (ι := Nat) (fun k => k ≤ l.1) (fun k => l.1 - k) [0,9,10,11,12] (fun k => [(13,.int .i64 k)]) (fun k => [(1,.cells (.cons (.int .i64 (l.2 j).id) (.cons (.int .i64 (l.2 j).mother) (.cons (.int .i64 (l.2 j).planted) (.cons (.int .u8 (mxF (clnB l j) (fun k => (l.2 k).sex.1) k (l.2 j).sex.1)) (.cons (.int .i64 (mxF (clnB l j) (fun k => (l.2 k).sort) k (l.2 j).sort)) .nil))))))]) 0 (Nat.zero_le _) (by simp only [mxF,↓reduceIte,reduceCtorEq,Nat.reduceEqDiff,Nat.reduceLT,go_sem]; try rfl) fun k hk => ?_
        by_cases hkl : k < l.1
        · have fk : ((k : Int) < (l.1 : Int)) = True := eq_true (by omega)
          cases hb : clnB l j k with
          | true =>
            simp only [fk,hb,hw,↓imp_tt,↓imp_tf,↓imp_ft,↓imp_ff,↓reduceIte,reduceCtorEq,Nat.reduceEqDiff,Nat.reduceAdd,Nat.reduceSub,Nat.reduceLeDiff,Nat.reducePow,Pm.c3,Pm.c4,go_sem]
            refine ⟨by omega,by omega,by omega,inv_intro (k + 1) (by omega) (by omega) ?_⟩
            simp only [mxF,hb,↓reduceIte,reduceCtorEq,Nat.reduceEqDiff,Nat.reduceLT,go_sem]
            exact wrS (by omega)
          | false =>
            simp only [fk,hb,hw,↓imp_tt,↓imp_tf,↓reduceIte,reduceCtorEq,Nat.reduceEqDiff,Nat.reduceSub,Nat.reducePow,go_sem]
            refine ⟨by omega,inv_intro (k + 1) (by omega) (by omega) ?_⟩
            simp only [mxF,hb,↓reduceIte,reduceCtorEq,Nat.reduceEqDiff,Nat.reduceLT,go_sem]
            exact wrS (by omega)
        · have fk : ((k : Int) < (l.1 : Int)) = False := eq_false (by omega)
          obtain rfl : k = l.1 := by omega
          simp only [fk,hw,↓imp_ft,↓imp_ff,↓reduceIte,reduceCtorEq,Nat.reduceEqDiff,Nat.reduceAdd,Nat.reduceSub,Nat.reduceLeDiff,Nat.reduceLT,Nat.reducePow,go_sem]
          refine ⟨by omega,by omega,inv_intro (j + 1) (by omega) (by omega) ?_⟩
          simp only [↓reduceIte,reduceCtorEq,Nat.reduceEqDiff,Nat.reduceLT,go_sem]
          refine ⟨wrS (by omega),fun a ha b hb => ?_⟩
          by_cases e : a < j
          · rw [if_pos e,vsubP_self]; trivial
          · obtain rfl : a = j := by omega
            have hse : (knP l a).sex.1 = sexF l a := toUI_in (mxF_in (a := 0) (b := 255) (hsx a (by omega)) hsx)
            rw [if_neg e,Nat.sub_self]
            match b,hb with
            | 0,_ => exact rfl
            | 1,_ => exact rfl
            | 2,_ => exact rfl
            | 3,_ => show vsubP (.int .u8 (knP l a).sex.1) _; rw [hse]; exact rfl
            | 4,_ => exact rfl
      · have fj : ((j : Int) < (l.1 : Int)) = False := eq_false (by omega)
        obtain rfl : j = l.1 := by omega
        simp only [fj,hw,↓imp_ft,↓imp_ff,↓reduceIte,reduceCtorEq,Nat.reduceEqDiff,Nat.reduceAdd,Nat.reduceSub,Nat.reducePow,go_sem]
  · have ep := pmE_no hp
    rw [if_neg (by rw [ep]; decide)]
    simp only [RunTo,a16,sCheck7,ep,hw,↓imp_tt,↓imp_tf,↓reduceIte,reduceCtorEq,Nat.reduceEqDiff,Nat.reduceAdd,Nat.reduceSub,Int.reduceBNe,Nat.reducePow,spec1,TSl,IsSl,Prod.eta,Pm.c0,Pm.c1,Pm.c2,Pm.c3,Pm.c4,RPm,Pm.w_c,Pm.d,Pm.eta,toUI_val,go_sem]
end Go.Proofs.Ytlapepdhkomijaa
