/- Palms: clones; the reference's clones. No condition. -/
import Derived.Test.YtlapepdhkomijaaPRef1
import Derived.Test.YtlapepdhkomijaaPFlw
set_option linter.unusedSimpArgs false
set_option linter.unusedVariables false
namespace Go.Proofs.Ytlapepdhkomijaa
open Go Go.RowKit
variable {G : Nat → Option (Nat × (Nat → Val))}
noncomputable def rtN (l : Pms) : Nat → Nat → Nat
 | 0,k => k
 | d + 1,k => if (l.2 k).mother = -1 then k else rtN l d (hitN l (l.2 k).mother)
noncomputable def rootF (l : Pms) (k : Nat) : Nat := rtN l 101 k
section
variable {l : Pms}
theorem PmsOk.mo2 (h : PmsOk l) {k : Nat} (hk : k < l.1) (hm : (l.2 k).mother ≠ -1) : hitN l (l.2 k).mother < l.1 ∧ (l.2 (hitN l (l.2 k).mother)).planted + 1000 ≤ (l.2 k).planted := (h.mo k hk).resolve_left hm
theorem rt_more (h : PmsOk l) : ∀ (d : Nat) (k : Nat),k < l.1 → (l.2 k).planted < 1000 * (d : Int) → rtN l (d + 1) k = rtN l d k := by
 intro d
 induction d with
 | zero => intro k hk hp; have := h.pl k hk; omega
 | succ d ih =>
  intro k hk hp
  by_cases hm : (l.2 k).mother = -1
  ·simp only [rtN,if_pos hm]
  ·obtain ⟨h1,h2⟩ := h.mo2 hk hm
   have := ih _ h1 (by omega)
   rw [rtN,if_neg hm,this]
   conv => rhs; rw [rtN,if_neg hm]
theorem root_mo (h : PmsOk l) {k : Nat} (hk : k < l.1) (hm : (l.2 k).mother ≠ -1) : rootF l (hitN l (l.2 k).mother) = rootF l k := by
 obtain ⟨h1,h2⟩ := h.mo2 hk hm
 have hp := h.pl _ h1
 have hpk := h.pl k hk
 have e1 : rootF l k = rtN l 100 (hitN l (l.2 k).mother) := by unfold rootF; rw [rtN,if_neg hm]
 rw [e1]
 exact rt_more h 100 _ h1 (by omega)
theorem clo_root (h : PmsOk l) {o : Nat → Bool} (hc : ∀ k,k < l.1 → (l.2 k).mother ≠ -1 → o k = o (hitN l (l.2 k).mother)) : ∀ (d : Nat) (k : Nat),k < l.1 → o (rtN l d k) = o k := by
 intro d
 induction d with
 | zero => intro k _; rfl
 | succ d ih =>
  intro k hk
  unfold rtN
  split
  ·rfl
  ·rename_i hm
   rw [ih _ (h.mo2 hk hm).1,← hc k hk hm]
end
noncomputable def clnB (l : Pms) (i k : Nat) : Bool := decide (rootF l k = rootF l i)
noncomputable def sClonesR : Spec := spec2 (TSl RPm) TI (fun l i => PmsOk l ∧ 0 ≤ i ∧ i < l.1) fun l i => .view 1 l.1 fun k _ => .bool (clnB l i.toNat k)
def setK (o : Nat → Bool) (k m : Nat) : Nat → Bool := fun a => if a = m then true else if a = k then true else o a
theorem uns_setK {o : Nat → Bool} {k m n : Nat} (hk : k < n) (hm : m < n) (h : o k ≠ o m) : uns (setK o k m) n + 1 ≤ uns o n := by
 cases e : o k with
 | false =>
  have e2 : o m = true := by cases e3 : o m with | true => rfl | false => exact absurd (e.trans e3.symm) h
  have h1 := uns_upd e hk
  have := uns_mono (n := n) (s := updS o k) (t := setK o k m) fun i _ hi => by
   simp only [updS] at hi; simp only [setK]; split
   ·rfl
   ·split <;> simp_all
  omega
 | true =>
  have e2 : o m = false := by cases e3 : o m with | false => rfl | true => exact absurd (e.trans e3.symm) h
  have h1 := uns_upd e2 hm
  have := uns_mono (n := n) (s := updS o m) (t := setK o k m) fun i _ hi => by
   simp only [updS] at hi; simp only [setK]; split
   ·rfl
   ·split <;> simp_all
  omega
set_option maxHeartbeats 4000000 in
set_option maxRecDepth 100000 in
theorem pClonesR : PureOk Try.prog G 49 sClonesR := by
 refine fn2 (S := [(44,sAt)]) (I := []) mixed (.cons pAt .nil) .nil Try.func49 c49 fun l i hp hw => ?_
 obtain ⟨hl,h1,h2⟩ := hp
 obtain ⟨i,rfl⟩ : ∃ m : Nat,i = m := ⟨i.toNat,by omega⟩
 have hi : i < l.1 := by omega
 rw [Int.toNat_natCast]
 simp only [Nat.reduceSub,Nat.reducePow,TSl,TInt,RPm,Pm.d,go_sem] at hw
 have hn24 := hl.n
 simp only [RunTo,a49,hw,↓reduceIte,reduceCtorEq,Nat.reduceEqDiff,Nat.reduceSub,Nat.reduceLT,Int.reduceNeg,Nat.reducePow,TSl,TInt,RPm,Pm.d,go_sem]
 refine ⟨by omega,by omega,by omega,by omega,by omega,?_⟩
 refine loopI (ι := Bool × (Nat → Bool)) (fun s => s.2 i = true ∧ (∀ k,k < l.1 → s.2 k = true → rootF l k = rootF l i) ∧ (s.1 = false → ∀ k,k < l.1 → (l.2 k).mother ≠ -1 → s.2 k = s.2 (hitN l (l.2 k).mother))) (fun s => 2 * uns s.2 l.1 + if s.1 = true then 1 else 0) [0,5] (fun s => [(6,.bool s.1)])
  (fun s => [(0,.row 4 1 l.1 fun a _ => .bool (s.2 a))]) (true,fun a => decide (a = i)) ⟨by simp,fun k _ hk => by rw [of_decide_eq_true hk],fun h => by cases h⟩ (by
   simp only [↓reduceIte,reduceCtorEq,Nat.reduceEqDiff,Nat.reduceLT,go_sem]
   intro a ha j hj
   obtain rfl : j = 0 := by omega
   by_cases e : a = i
   ·simp [e,vget]
   ·simp [e,vget]) fun s hs => ?_
 obtain ⟨b,o⟩ := s
 obtain ⟨hoi,hor,hoc⟩ := hs
 simp only at hoi hor hoc
 cases b with
 | false =>
  simp only [↓imp_ft,↓imp_ff,↓reduceIte,reduceCtorEq,Nat.reduceEqDiff,Int.reduceNeg,go_sem]
  intro a ha j hj
  unfold clnB
  cases e : o a with
  | true => exact (decide_eq_true (hor a ha e)).symm
  | false =>
   refine (decide_eq_false fun he => ?_).symm
   have q := clo_root hl (hoc rfl) 101
   have q1 := q a ha
   have q2 := q i hi
   have q3 : rtN l 101 a = rtN l 101 i := he
   rw [q3,q2,hoi,e] at q1
   cases q1
 | true =>
  simp only [↓imp_tt,↓imp_tf,↓reduceIte,reduceCtorEq,Nat.reduceEqDiff,Int.reduceNeg,go_sem]
  refine loopI (ι := Nat × Bool × (Nat → Bool)) (fun s => s.1 ≤ l.1 ∧ s.2.2 i = true ∧ (∀ k,k < l.1 → s.2.2 k = true → rootF l k = rootF l i) ∧ (s.2.1 = true → uns s.2.2 l.1 + 1 ≤ uns o l.1) ∧ (s.2.1 = false → s.2.2 = o ∧ ∀ k,k < s.1 → (l.2 k).mother ≠ -1 → s.2.2 k = s.2.2 (hitN l (l.2 k).mother))) (fun s => l.1 - s.1) [0,5] (fun s => [(7,.int .i64 s.1),(6,.bool s.2.1)])
   (fun s => [(0,.row 4 1 l.1 fun a _ => .bool (s.2.2 a))]) (0,false,o) ⟨Nat.zero_le _,hoi,hor,fun h => (by cases h),fun _ => ⟨rfl,fun k hk => absurd hk (Nat.not_lt_zero _)⟩⟩ (by
    simp only [↓reduceIte,reduceCtorEq,Nat.reduceEqDiff,Nat.reduceLT,go_sem]) fun s hs => ?_
  obtain ⟨k,b,o2⟩ := s
  obtain ⟨hk1,hoi,hor,hb1,hb2⟩ := hs
  simp only at hk1 hoi hor hb1 hb2
  by_cases hkl : k < l.1
  ·have fk : ((k : Int) < (l.1 : Int)) = True := eq_true (by omega)
   by_cases hm : (l.2 k).mother = -1
   ·have fm : ((l.2 k).mother = -1) = True := eq_true hm
    simp only [fk,fm,hw,↓imp_tt,↓imp_tf,↓reduceIte,reduceCtorEq,Nat.reduceEqDiff,Nat.reduceAdd,Nat.reduceSub,Nat.reduceLeDiff,Int.reduceNeg,Nat.reducePow,Pm.c1,go_sem]
    refine ⟨by omega,?_⟩
    refine inv_intro (k + 1,b,o2) ⟨hkl,hoi,hor,hb1,fun hb => ⟨(hb2 hb).1,fun k' hk' hm' => ?_⟩⟩ (by simp only; omega) ?_
    ·by_cases e : k' = k
     ·subst e; exact absurd hm hm'
     ·exact (hb2 hb).2 k' (by omega) hm'
    ·simp only [↓reduceIte,reduceCtorEq,Nat.reduceEqDiff,Nat.reduceLT,go_sem]
     rw [wrS (by omega)]
   ·have fm : ((l.2 k).mother = -1) = False := eq_false hm
    obtain ⟨m1,m2⟩ := hl.mo2 hkl hm
    have ea : atF l (l.2 k).mother = (hitN l (l.2 k).mother : Int) := atF_pos m1
    generalize hmm : hitN l (l.2 k).mother = m at *
    have fmm : ((m : Int) < (l.1 : Int)) = True := eq_true (by omega)
    by_cases heq : o2 k = o2 m
    ·have fe : (o2 k = o2 m) = True := eq_true heq
     simp only [fk,fm,fmm,ea,fe,sAt,hw,↓imp_tt,↓imp_tf,↓reduceIte,reduceCtorEq,Nat.reduceEqDiff,Nat.reduceSub,Nat.reduceLeDiff,Int.reduceNeg,Nat.reducePow,spec2,TSl,IsSl,TInt,IsInt,Prod.eta,Pm.c0,Pm.c1,Pm.c2,Pm.c3,Pm.c4,RPm,Pm.w_c,Pm.d,Pm.eta,toUI_val,go_sem]
     refine ⟨by omega,by omega,by omega,by omega,?_⟩
     refine inv_intro (k + 1,b,o2) ⟨hkl,hoi,hor,hb1,fun hb => ⟨(hb2 hb).1,fun k' hk' hm' => ?_⟩⟩ (by simp only; omega) ?_
     ·by_cases e : k' = k
      ·subst e; rw [hmm]; exact heq
      ·exact (hb2 hb).2 k' (by omega) hm'
     ·simp only [↓reduceIte,reduceCtorEq,Nat.reduceEqDiff,Nat.reduceLT,go_sem]
      rw [wrS (by omega)]
    ·have fe : (o2 k = o2 m) = False := eq_false heq
     simp only [fk,fm,fmm,ea,fe,sAt,hw,↓imp_tt,↓imp_tf,↓reduceIte,reduceCtorEq,Nat.reduceEqDiff,Nat.reduceSub,Nat.reduceLeDiff,Int.reduceNeg,Nat.reducePow,spec2,TSl,IsSl,TInt,IsInt,Prod.eta,Pm.c0,Pm.c1,Pm.c2,Pm.c3,Pm.c4,RPm,Pm.w_c,Pm.d,Pm.eta,toUI_val,go_sem]
     refine ⟨by omega,by omega,by omega,by omega,by omega,by omega,?_⟩
     have hro : rootF l m = rootF l k := by rw [← hmm]; exact root_mo hl hkl hm
     have hkr : rootF l k = rootF l i := by
      cases e : o2 k with
      | true => exact hor k hkl e
      | false =>
       have : o2 m = true := by cases e3 : o2 m with | true => rfl | false => exact absurd (e.trans e3.symm) heq
       rw [← hro]; exact hor m m1 this
     have hu := uns_setK hkl m1 heq
     refine inv_intro (k + 1,true,setK o2 k m) ⟨hkl,?_,fun a ha he => ?_,fun _ => ?_,fun h => (by cases h)⟩ (by simp only; omega) ?_
     ·simp only [setK]; split
      ·rfl
      ·split
       ·rfl
       ·exact hoi
     ·simp only [setK] at he
      split at he
      ·rename_i e; rw [e,hro]; exact hkr
      ·split at he
       ·rename_i e; rw [e]; exact hkr
       ·exact hor a ha he
     ·cases hbb : b with
      | true => have := hb1 hbb; simp only; omega
      | false => have := (hb2 hbb).1; simp only; rw [this] at hu ⊢; omega
     ·simp only [↓reduceIte,reduceCtorEq,Nat.reduceEqDiff,Nat.reduceLT,go_sem]
      refine ⟨wrS (by omega),fun a ha j hj => ?_⟩
      obtain rfl : j = 0 := by omega
      simp only [setK]
      by_cases e1 : a = m
      ·simp [e1,vget]
      ·by_cases e2 : a = k
       ·simp [e2,vget]
       ·simp [e1,e2]
  ·have fk : ((k : Int) < (l.1 : Int)) = False := eq_false (by omega)
   obtain rfl : k = l.1 := by omega
   simp only [fk,hw,↓imp_ft,↓imp_ff,↓reduceIte,reduceCtorEq,Nat.reduceEqDiff,Nat.reduceSub,Int.reduceNeg,Nat.reducePow,go_sem]
   refine inv_intro (b,o2) ⟨hoi,hor,fun hb k' hk' hm' => (hb2 hb).2 k' hk' hm'⟩ ?_ ?_
   ·cases hbb : b with
    | true => have := hb1 hbb; simp only [if_true]; omega
    | false => have := (hb2 hbb).1; simp only; rw [this]; simp
   ·simp only [↓reduceIte,reduceCtorEq,Nat.reduceEqDiff,Nat.reduceLT,go_sem]
end Go.Proofs.Ytlapepdhkomijaa
