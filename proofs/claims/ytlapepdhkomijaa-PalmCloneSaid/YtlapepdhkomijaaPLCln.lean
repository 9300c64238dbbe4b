/- Palms, the statement PalmClone. No condition. -/
import Derived.Test.YtlapepdhkomijaaPAlv
import Derived.Test.YtlapepdhkomijaaACode1
import Derived.Test.YtlapepdhkomijaaACodeL12
set_option linter.unusedSimpArgs false
set_option linter.unusedVariables false
namespace Go.Proofs.Ytlapepdhkomijaa
open Go Go.RowKit
variable {G : Nat → Option (Nat × (Nat → Val))}
noncomputable def hasI (l : Ints) (n : Int) : Bool := decP (∃ i,i < l.1 ∧ l.2 i = n)
noncomputable def sHasC : Spec := spec2 (TSl (RInt .i64)) TI (fun _ _ => True) fun l n => .bool (hasI l n)
set_option maxRecDepth 100000 in
theorem pHasC : PureOk Try.prog G 46 sHasC := by
 refine fn2 (S := []) (I := []) mixed .nil .nil Try.func46 c46 fun l n _ hw => ?_
 simp only [↓reduceIte,reduceCtorEq,Nat.reduceEqDiff,Nat.reduceAdd,Nat.reduceSub,Nat.reduceLeDiff,Nat.reduceMul,Nat.reduceLT,Int.reduceToNat,Int.reduceLT,Int.reduceLE,Int.reduceEq,Int.reduceNeg,Int.reduceMul,Int.reduceAdd,Int.reduceSub,Int.reduceNe,Int.reduceBEq,Int.reduceBNe,Nat.reducePow,go_sem] at hw
 simp only [RunTo,a46,hw,↓reduceIte,reduceCtorEq,Nat.reduceEqDiff,Nat.reduceAdd,Nat.reduceSub,Nat.reduceLeDiff,Nat.reduceMul,Nat.reduceLT,Int.reduceToNat,Int.reduceLT,Int.reduceLE,Int.reduceEq,Int.reduceNeg,Int.reduceMul,Int.reduceAdd,Int.reduceSub,Int.reduceNe,Int.reduceBEq,Int.reduceBNe,Nat.reducePow,go_sem]
 refine loopI (ι := Nat) (fun j => j ≤ l.1 ∧ ∀ i,i < j → l.2 i ≠ n) (fun j => l.1 - j) [1,7,8] (fun j => [(9,.int .i64 j)]) (fun _ => []) 0 ⟨by omega,fun i h => by omega⟩ (by simp only [↓reduceIte,reduceCtorEq,Nat.reduceEqDiff,Nat.reduceAdd,Nat.reduceSub,Nat.reduceLeDiff,Nat.reduceMul,Nat.reduceLT,Int.reduceToNat,Int.reduceLT,Int.reduceLE,Int.reduceEq,Int.reduceNeg,Int.reduceMul,Int.reduceAdd,Int.reduceSub,Int.reduceNe,Int.reduceBEq,Int.reduceBNe,Nat.reducePow,go_sem]; try rfl) fun j hj => ?_
 obtain ⟨hj1,hj2⟩ := hj
 simp only [hw,↓reduceIte,reduceCtorEq,Nat.reduceEqDiff,Nat.reduceAdd,Nat.reduceSub,Nat.reduceLeDiff,Nat.reduceMul,Nat.reduceLT,Int.reduceToNat,Int.reduceLT,Int.reduceLE,Int.reduceEq,Int.reduceNeg,Int.reduceMul,Int.reduceAdd,Int.reduceSub,Int.reduceNe,Int.reduceBEq,Int.reduceBNe,Nat.reducePow,go_sem]
 refine ⟨fun hlt => ⟨by omega,by omega,fun h1 => (decP_t ⟨j,by omega,h1⟩).symm,fun h1 => inv_intro (j + 1) ⟨by omega,fun i hi => ?_⟩ (by omega) ?_⟩,fun hge => (decP_f ?_).symm⟩
 ·rcases Nat.lt_or_ge i j with h5 | h5
  ·exact hj2 i h5
  ·obtain rfl : i = j := by omega
   exact h1
 ·simp only [↓reduceIte,reduceCtorEq,Nat.reduceEqDiff,Nat.reduceAdd,Nat.reduceSub,Nat.reduceLeDiff,Nat.reduceMul,Nat.reduceLT,Int.reduceToNat,Int.reduceLT,Int.reduceLE,Int.reduceEq,Int.reduceNeg,Int.reduceMul,Int.reduceAdd,Int.reduceSub,Int.reduceNe,Int.reduceBEq,Int.reduceBNe,Nat.reducePow,go_sem]
  rw [wrS (by omega)]
 ·rintro ⟨i,h1,h2⟩
  exact hj2 i (by omega) h2
theorem cl_ex {l : Pms} (hp : PmsOk l) {i : Nat} (hi : i < l.1) : ∃ (n : Nat) (f : Nat → Int),clQ l (l.2 i).id = .tup (.cons (.view 1 n fun j _ => .int .i64 (f j)) (.cons (.int .i64 0) .nil)) ∧ n ≤ l.1 ∧ (n,f) = clonesF l i := by
 refine ⟨(clonesF l i).1,(clonesF l i).2,?_,cntN_le _ _,rfl⟩
 unfold clQ
 rw [if_pos (pmE_ok hp),hp.hit hi,if_pos hi]
def sLawClone : Spec := spec3 (TSl RPm) (TU .u8) (TU .u8) (fun _ _ _ => True) fun _ _ _ => .bool true
set_option maxHeartbeats 4000000 in
set_option maxRecDepth 100000 in
theorem pLawClone : PureOk Try.prog G 12 sLawClone := by
  refine fn3 (S := [(36,sAliveP),(14,sGreat7),(20,sCheck7),(17,sClQ),(46,sHasC),(22,sSameI),(15,sKnU)]) (I := []) mixed
    (.cons pAliveP (.cons pGreat7 (.cons pCheck7 (.cons (show PureOk Try.prog G _ sClQ from pClonesPr) (.cons pHasC (.cons pSameI (.cons pKnU .nil))))))) .nil Try.func12 c12 fun l one two _ hw => ?_
  simp only [TU_enc,↓reduceIte,reduceCtorEq,Nat.reduceEqDiff,Nat.reduceAdd,Nat.reduceSub,Nat.reduceLeDiff,Nat.reduceMul,Nat.reduceLT,Int.reduceToNat,Int.reduceLT,Int.reduceLE,Int.reduceEq,Int.reduceNeg,Int.reduceMul,Int.reduceAdd,Int.reduceSub,Int.reduceNe,Int.reduceBEq,Int.reduceBNe,Nat.reducePow,go_sem] at hw
  have hz0 : ∀ i : Nat,(i < 0) = False := fun i => eq_false (Nat.not_lt_zero i)
  by_cases hg : l.1 > 30
  · have eg : decP (l.1 > 30) = true := decP_t hg
    simp only [RunTo,a12,sAliveP,sGreat7,eg,hz0,or_false,TU_enc,hw,↓reduceIte,reduceCtorEq,Nat.reduceEqDiff,Nat.reduceAdd,Nat.reduceSub,Nat.reduceLeDiff,Nat.reduceMul,Nat.reduceLT,Int.reduceToNat,Int.reduceLT,Int.reduceLE,Int.reduceEq,Int.reduceNeg,Int.reduceMul,Int.reduceAdd,Int.reduceSub,Int.reduceNe,Int.reduceBEq,Int.reduceBNe,Nat.reducePow,go_sem]
  have eg : decP (l.1 > 30) = false := decP_f hg
  by_cases hp : ¬ PmsOk l
  · have ep := pmE_no hp
    simp only [RunTo,a12,sAliveP,sGreat7,sCheck7,eg,ep,hz0,or_false,TU_enc,hw,↓reduceIte,reduceCtorEq,Nat.reduceEqDiff,Nat.reduceAdd,Nat.reduceSub,Nat.reduceLeDiff,Nat.reduceMul,Nat.reduceLT,Int.reduceToNat,Int.reduceLT,Int.reduceLE,Int.reduceEq,Int.reduceNeg,Int.reduceMul,Int.reduceAdd,Int.reduceSub,Int.reduceNe,Int.reduceBEq,Int.reduceBNe,Nat.reducePow,go_sem]
  have hp := Classical.not_not.1 hp
  have ep := pmE_ok hp
  by_cases h0 : l.1 = 0
  · have f0 : ((l.1 : Int) == 0) = true := beq_iff_eq.2 (by omega)
    simp only [RunTo,a12,sAliveP,sGreat7,sCheck7,eg,ep,f0,hz0,or_false,TU_enc,hw,↓reduceIte,reduceCtorEq,Nat.reduceEqDiff,Nat.reduceAdd,Nat.reduceSub,Nat.reduceLeDiff,Nat.reduceMul,Nat.reduceLT,Int.reduceToNat,Int.reduceLT,Int.reduceLE,Int.reduceEq,Int.reduceNeg,Int.reduceMul,Int.reduceAdd,Int.reduceSub,Int.reduceNe,Int.reduceBEq,Int.reduceBNe,Nat.reducePow,go_sem]
  have f0 : ((l.1 : Int) == 0) = false := beq_eq_false_iff_ne.2 (by omega)
  have hn24 := hp.n
  have h1l : 0 ≤ one.1 ∧ one.1 ≤ 255 := one.2
  have h2l : 0 ≤ two.1 ∧ two.1 ≤ 255 := two.2
  have w1 : IntKind.i64.wrap one.1 = one.1 := wr64 (by omega) (by omega)
  have w2 : IntKind.i64.wrap two.1 = two.1 := wr64 (by omega) (by omega)
  obtain ⟨i,hi⟩ : ∃ k : Nat,one.1.tmod (l.1 : Int) = (k : Int) := ⟨(one.1.tmod (l.1 : Int)).toNat,by have := Int.tmod_nonneg (l.1 : Int) h1l.1; omega⟩
  obtain ⟨k,hk⟩ : ∃ k : Nat,two.1.tmod (l.1 : Int) = (k : Int) := ⟨(two.1.tmod (l.1 : Int)).toNat,by have := Int.tmod_nonneg (l.1 : Int) h2l.1; omega⟩
  have hil : i < l.1 := by
    have := Int.tmod_lt_of_pos one.1 (show (0 : Int) < (l.1 : Int) by omega)
    omega
  have hkl : k < l.1 := by
    have := Int.tmod_lt_of_pos two.1 (show (0 : Int) < (l.1 : Int) by omega)
    omega
  obtain ⟨n1,g1,c1,m1,q1⟩ := cl_ex hp hil
  obtain ⟨n2,g2,c2,m2,q2⟩ := cl_ex hp hkl
  have hc1 : ∀ q,q < l.1 → hasI (n1,g1) (l.2 q).id = clnB l i q := fun q hq => by rw [q1]; exact hasC_at hp i hq
  have hc2 : ∀ q,q < l.1 → hasI (n2,g2) (l.2 q).id = clnB l k q := fun q hq => by rw [q2]; exact hasC_at hp k hq
  have hm1 : ∀ q,q < l.1 → (l.2 q).mother ≠ -1 → hasI (n1,g1) (l.2 q).mother = clnB l i q := fun q hq hm => by rw [q1]; exact hasC_mo hp i hq hm
  have fa : hasI (n1,g1) (l.2 i).id = true := (hc1 i hil).trans (cln_self l i)
  have fb := hc1 k hkl
  have fc : hasI (n2,g2) (l.2 i).id = clnB l i k := (hc2 i hil).trans (cln_sym l k i)
  have y1 : (n1 ≤ 9223372036854775807) = True := eq_true (by omega)
  have y2 : (n2 ≤ 9223372036854775807) = True := eq_true (by omega)
  have y3 : (l.1 ≤ 9223372036854775807) = True := eq_true (by omega)
  have fsa : clnB l i k = true → sameB (n1,g1) (n2,g2) = true := fun h => by
    rw [q1,q2]
    unfold clonesF
    rw [cln_fn h]
    exact decP_t ⟨rfl,fun _ _ => rfl⟩
  have fmo : (l.2 i).mother = (l.2 k).id → clnB l i k = true := fun h => by
    have hne : (l.2 i).mother ≠ -1 := by have := (hp.id k hkl).1; omega
    have := root_mo hp hil hne
    rw [h,hp.hit hkl] at this
    exact decide_eq_true this
  have fa2 : (l.2 i).mother ≠ -1 → hasI (n1,g1) (l.2 i).mother = true := fun h => (hm1 i hil h).trans (cln_self l i)
  have F : (hasI (n1,g1) (l.2 k).id = true ∧ hasI (n2,g2) (l.2 i).id = true ∧ sameB (n1,g1) (n2,g2) = true ∧ clnB l i k = true) ∨ (hasI (n1,g1) (l.2 k).id = false ∧ hasI (n2,g2) (l.2 i).id = false ∧ ((l.2 i).mother == (l.2 k).id) = false ∧ clnB l i k = false) := by
    cases hB : clnB l i k
    · exact .inr ⟨fb.trans hB,fc.trans hB,beq_eq_false_iff_ne.2 (fun e => by rw [fmo e] at hB; cases hB),rfl⟩
    · exact .inl ⟨fb.trans hB,fc.trans hB,fsa hB,rfl⟩
  have M : (((l.2 i).mother != -1) = false ∧ ((l.2 i).mother == (l.2 k).id) = false) ∨ (((l.2 i).mother != -1) = true ∧ hasI (n1,g1) (l.2 i).mother = true) := by
    by_cases hm : (l.2 i).mother = -1
    · left; refine ⟨by rw [hm]; rfl,beq_eq_false_iff_ne.2 fun e => ?_⟩
      have := (hp.id k hkl).1; omega
    · exact .inr ⟨bne_iff_ne.2 hm,fa2 hm⟩
  have fi : ((i : Int) < (l.1 : Int)) = True := eq_true (by omega)
  have fk : ((k : Int) < (l.1 : Int)) = True := eq_true (by omega)
  have pi : (0 ≤ (i : Int)) = True := eq_true (by omega)
  have pk : (0 ≤ (k : Int)) = True := eq_true (by omega)
  rcases F with ⟨u1,u2,u3,u4⟩ | ⟨u1,u2,u3,u4⟩ <;> rcases M with ⟨v1,v2⟩ | ⟨v1,v2⟩
  all_goals
    simp (config := { maxSteps := 300000 }) only [RunTo,a12,sAliveP,sGreat7,sCheck7,sClQ,sHasC,sSameI,eg,ep,f0,w1,w2,hi,hk,fi,fk,pi,pk,c1,c2,y1,y2,y3,fa,u1,u2,u3,v1,v2,hz0,or_false,Int.toNat_natCast,TU_enc,hw,↓reduceIte,reduceCtorEq,Nat.reduceEqDiff,Nat.reduceAdd,Nat.reduceSub,Nat.reduceLeDiff,Nat.reduceMul,Nat.reduceLT,Int.reduceToNat,Int.reduceLT,Int.reduceLE,Int.reduceEq,Int.reduceNeg,Int.reduceMul,Int.reduceAdd,Int.reduceSub,Int.reduceNe,Int.reduceBEq,Int.reduceBNe,Nat.reducePow,go_sem]
    repeat' (first | omega | (with_reducible apply And.intro) | intro _)
  all_goals
    refine loopI (ι := Nat) (fun q => q ≤ l.1) (fun q => l.1 - q) [0,1,2,7,8,9,10,14,147,148] (fun q => [(149,.int .i64 q)]) (fun _ => []) 0 (Nat.zero_le _) (by simp only [↓reduceIte,reduceCtorEq,Nat.reduceEqDiff,Nat.reduceAdd,Nat.reduceSub,Nat.reduceLeDiff,Nat.reduceMul,Nat.reduceLT,Int.reduceToNat,Int.reduceLT,Int.reduceLE,Int.reduceEq,Int.reduceNeg,Int.reduceMul,Int.reduceAdd,Int.reduceSub,Int.reduceNe,Int.reduceBEq,Int.reduceBNe,Nat.reducePow,go_sem]; try simp) fun q hq => ?_
    by_cases hql : q < l.1
    · have fq : ((q : Int) < (l.1 : Int)) = True := eq_true (by omega)
      have pq : (0 ≤ (q : Int)) = True := eq_true (by omega)
      by_cases hmq : (l.2 q).mother = -1
      · have z1 : ((l.2 q).mother != -1) = false := by rw [hmq]; rfl
        simp only [fq,pq,z1,Int.toNat_natCast,TU_enc,hw,↓reduceIte,reduceCtorEq,Nat.reduceEqDiff,Nat.reduceAdd,Nat.reduceSub,Nat.reduceLeDiff,Nat.reduceMul,Nat.reduceLT,Int.reduceToNat,Int.reduceLT,Int.reduceLE,Int.reduceEq,Int.reduceNeg,Int.reduceMul,Int.reduceAdd,Int.reduceSub,Int.reduceNe,Int.reduceBEq,Int.reduceBNe,Nat.reducePow,go_sem]
        repeat' (first | omega | (with_reducible apply And.intro) | intro _)
        all_goals first
          | omega
          | (refine inv_intro (q + 1) hql (by omega) ?_
             simp only [↓reduceIte,reduceCtorEq,Nat.reduceEqDiff,Nat.reduceAdd,Nat.reduceSub,Nat.reduceLeDiff,Nat.reduceMul,Nat.reduceLT,Int.reduceToNat,Int.reduceLT,Int.reduceLE,Int.reduceEq,Int.reduceNeg,Int.reduceMul,Int.reduceAdd,Int.reduceSub,Int.reduceNe,Int.reduceBEq,Int.reduceBNe,Nat.reducePow,go_sem]
             exact wrS (by omega))
      · have z1 : ((l.2 q).mother != -1) = true := bne_iff_ne.2 hmq
        have z2 := hc1 q hql
        have z3 := hm1 q hql hmq
        simp only [sHasC,fq,pq,z1,z2,z3,y1,Int.toNat_natCast,TU_enc,hw,↓reduceIte,reduceCtorEq,Nat.reduceEqDiff,Nat.reduceAdd,Nat.reduceSub,Nat.reduceLeDiff,Nat.reduceMul,Nat.reduceLT,Int.reduceToNat,Int.reduceLT,Int.reduceLE,Int.reduceEq,Int.reduceNeg,Int.reduceMul,Int.reduceAdd,Int.reduceSub,Int.reduceNe,Int.reduceBEq,Int.reduceBNe,Nat.reducePow,go_sem]
        repeat' (first | omega | (with_reducible apply And.intro) | intro _)
        all_goals first
          | omega
          | (refine inv_intro (q + 1) hql (by omega) ?_
             simp only [↓reduceIte,reduceCtorEq,Nat.reduceEqDiff,Nat.reduceAdd,Nat.reduceSub,Nat.reduceLeDiff,Nat.reduceMul,Nat.reduceLT,Int.reduceToNat,Int.reduceLT,Int.reduceLE,Int.reduceEq,Int.reduceNeg,Int.reduceMul,Int.reduceAdd,Int.reduceSub,Int.reduceNe,Int.reduceBEq,Int.reduceBNe,Nat.reducePow,go_sem]
             exact wrS (by omega))
    · have fq : ((q : Int) < (l.1 : Int)) = False := eq_false (by omega)
      obtain rfl : q = l.1 := by omega
      by_cases hbad : badI l < l.1
      · obtain ⟨e1,e2,e3⟩ := kn_2 hp hbad
        obtain ⟨z,hz⟩ : ∃ z,badI l = z := ⟨_,rfl⟩
        have hzs : ∃ k,k < z ∧ clnB l z k = true ∧ ctrP l z k := by
          rcases fstI_spec (fun i => ∃ k,k < i ∧ clnB l i k = true ∧ ctrP l i k) l.1 with ⟨_,h,_⟩ | ⟨h,_⟩
          · have h : ∃ k,k < badI l ∧ clnB l (badI l) k = true ∧ ctrP l (badI l) k := h
            rw [hz] at h; exact h
          · have h : badI l = l.1 := h
            omega
        rw [hz] at e3 hbad
        have hz1 : 1 ≤ z := by obtain ⟨k,h,_⟩ := hzs; omega
        obtain ⟨n3,g3,c3,m3,q3⟩ := cl_ex hp hbad
        have hc3 : ∀ q,q < l.1 → hasI (n3,g3) (l.2 q).id = clnB l z q := fun q hq => by rw [q3]; exact hasC_at hp z hq
        have y4 : (n3 ≤ 9223372036854775807) = True := eq_true (by omega)
        have t1 : ((z : Int) < 1) = False := eq_false (by omega)
        have t2 : ((z : Int) ≥ (l.1 : Int)) = False := eq_false (by omega)
        have t3 : ((z : Int) < (l.1 : Int)) = True := eq_true (by omega)
        have t4 : (0 ≤ (z : Int)) = True := eq_true (by omega)
        simp (config := { maxSteps := 300000 }) only [sKnU,knU,sClQ,fq,e1,e2,e3,t1,t2,t3,t4,c3,y3,y4,Int.sub_zero,Int.toNat_natCast,TU_enc,hw,↓reduceIte,reduceCtorEq,Nat.reduceEqDiff,Nat.reduceAdd,Nat.reduceSub,Nat.reduceLeDiff,Nat.reduceMul,Nat.reduceLT,Int.reduceToNat,Int.reduceLT,Int.reduceLE,Int.reduceEq,Int.reduceNeg,Int.reduceMul,Int.reduceAdd,Int.reduceSub,Int.reduceNe,Int.reduceBEq,Int.reduceBNe,Nat.reducePow,go_sem]
        refine ⟨by omega,fun _ => ?_⟩
        refine loopI (ι := Nat × Bool) (fun s => s.1 ≤ z ∧ (s.2 = true ↔ ∃ q,q < s.1 ∧ clnB l z q = true ∧ ctrP l z q)) (fun s => z - s.1) [0,1,2,7,8,9,10,14,17,21,22,23,203,204] (fun s => [(20,.bool s.2),(205,.int .i64 s.1)]) (fun _ => []) (0,false) ⟨Nat.zero_le _,fun h => (by cases h),fun ⟨q,h,_⟩ => absurd h (Nat.not_lt_zero _)⟩ (by simp only [↓reduceIte,reduceCtorEq,Nat.reduceEqDiff,Nat.reduceAdd,Nat.reduceSub,Nat.reduceLeDiff,Nat.reduceMul,Nat.reduceLT,Int.reduceToNat,Int.reduceLT,Int.reduceLE,Int.reduceEq,Int.reduceNeg,Int.reduceMul,Int.reduceAdd,Int.reduceSub,Int.reduceNe,Int.reduceBEq,Int.reduceBNe,Nat.reducePow,go_sem]; try simp) fun s hs => ?_
        obtain ⟨q,b⟩ := s
        obtain ⟨hq1,hq2⟩ := hs
        simp only at hq1 hq2
        by_cases hqz : q < z
        · have fq : ((q : Int) < (z : Int)) = True := eq_true (by omega)
          have pq : (0 ≤ (q : Int)) = True := eq_true (by omega)
          have z2 := hc3 q (by omega)
          cases b with
          | true =>
            simp only [sHasC,fq,pq,z2,y4,Int.toNat_natCast,TU_enc,hw,↓reduceIte,reduceCtorEq,Nat.reduceEqDiff,Nat.reduceAdd,Nat.reduceSub,Nat.reduceLeDiff,Nat.reduceMul,Nat.reduceLT,Int.reduceToNat,Int.reduceLT,Int.reduceLE,Int.reduceEq,Int.reduceNeg,Int.reduceMul,Int.reduceAdd,Int.reduceSub,Int.reduceNe,Int.reduceBEq,Int.reduceBNe,Nat.reducePow,go_sem]
            repeat' (first | omega | (with_reducible apply And.intro) | intro _)
            all_goals first
              | omega
              | (refine inv_intro (q + 1,true) ⟨hqz,fun _ => ?_,fun _ => rfl⟩ (by simp only; omega) ?_
                 · obtain ⟨q',h1,h2⟩ := hq2.1 rfl
                   exact ⟨q',by simp only; omega,h2⟩
                 · simp only [↓reduceIte,reduceCtorEq,Nat.reduceEqDiff,Nat.reduceAdd,Nat.reduceSub,Nat.reduceLeDiff,Nat.reduceMul,Nat.reduceLT,Int.reduceToNat,Int.reduceLT,Int.reduceLE,Int.reduceEq,Int.reduceNeg,Int.reduceMul,Int.reduceAdd,Int.reduceSub,Int.reduceNe,Int.reduceBEq,Int.reduceBNe,Nat.reducePow,go_sem]
                   exact wrS (by omega))
          | false =>
            have hno : ∀ P : Prop,(¬ (clnB l z q = true ∧ ctrP l z q)) → ((false = true) ↔ ∃ q',q' < q + 1 ∧ clnB l z q' = true ∧ ctrP l z q') := fun _ h => ⟨fun e => (by cases e),fun ⟨q',h1,h2,h3⟩ => by
              by_cases e : q' = q
              · subst e; exact absurd ⟨h2,h3⟩ h
              · exact hq2.2 ⟨q',by omega,h2,h3⟩⟩
            cases hcl : clnB l z q
            · rw [hcl] at z2
              simp only [sHasC,fq,pq,z2,y4,Int.toNat_natCast,TU_enc,hw,↓reduceIte,reduceCtorEq,Nat.reduceEqDiff,Nat.reduceAdd,Nat.reduceSub,Nat.reduceLeDiff,Nat.reduceMul,Nat.reduceLT,Int.reduceToNat,Int.reduceLT,Int.reduceLE,Int.reduceEq,Int.reduceNeg,Int.reduceMul,Int.reduceAdd,Int.reduceSub,Int.reduceNe,Int.reduceBEq,Int.reduceBNe,Nat.reducePow,go_sem]
              repeat' (first | omega | (with_reducible apply And.intro) | intro _)
              all_goals first
                | omega
                | (refine inv_intro (q + 1,false) ⟨hqz,hno True fun h => (by rw [hcl] at h; cases h.1)⟩ (by simp only; omega) ?_
                   simp only [↓reduceIte,reduceCtorEq,Nat.reduceEqDiff,Nat.reduceAdd,Nat.reduceSub,Nat.reduceLeDiff,Nat.reduceMul,Nat.reduceLT,Int.reduceToNat,Int.reduceLT,Int.reduceLE,Int.reduceEq,Int.reduceNeg,Int.reduceMul,Int.reduceAdd,Int.reduceSub,Int.reduceNe,Int.reduceBEq,Int.reduceBNe,Nat.reducePow,go_sem]
                   exact wrS (by omega))
            · rw [hcl] at z2
              by_cases hx : ctrP l z q
              · have hx2 := hx
                unfold ctrP at hx2
                simp only [sHasC,fq,pq,t3,t4,z2,y4,Int.toNat_natCast,TU_enc,hw,↓reduceIte,reduceCtorEq,Nat.reduceEqDiff,Nat.reduceAdd,Nat.reduceSub,Nat.reduceLeDiff,Nat.reduceMul,Nat.reduceLT,Int.reduceToNat,Int.reduceLT,Int.reduceLE,Int.reduceEq,Int.reduceNeg,Int.reduceMul,Int.reduceAdd,Int.reduceSub,Int.reduceNe,Int.reduceBEq,Int.reduceBNe,Nat.reducePow,go_sem]
                repeat' (first | omega | (with_reducible apply And.intro) | intro _)
                all_goals first
                  | omega
                  | (refine inv_intro (q + 1,true) ⟨hqz,fun _ => ⟨q,Nat.lt_succ_self q,hcl,hx⟩,fun _ => rfl⟩ (by simp only; omega) ?_
                     simp only [Bool.true_or,Bool.false_or,↓reduceIte,reduceCtorEq,Nat.reduceEqDiff,Nat.reduceAdd,Nat.reduceSub,Nat.reduceLeDiff,Nat.reduceMul,Nat.reduceLT,Int.reduceToNat,Int.reduceLT,Int.reduceLE,Int.reduceEq,Int.reduceNeg,Int.reduceMul,Int.reduceAdd,Int.reduceSub,Int.reduceNe,Int.reduceBEq,Int.reduceBNe,Nat.reducePow,go_sem]
                     first
                       | exact wrS (by omega)
                       | (refine ⟨?_,wrS (by omega)⟩
                          first | omega | (rw [bne_iff_ne]; omega) | (rw [bne_eq_false_iff_eq]; omega) | (rw [beq_iff_eq]; omega) | (rw [beq_eq_false_iff_ne]; omega))
                       | (refine ⟨wrS (by omega),?_⟩
                          first | omega | (rw [bne_iff_ne]; omega) | (rw [bne_eq_false_iff_eq]; omega) | (rw [beq_iff_eq]; omega) | (rw [beq_eq_false_iff_ne]; omega)))
              · have hx2 := hx
                unfold ctrP at hx2
                simp only [sHasC,fq,pq,t3,t4,z2,y4,Int.toNat_natCast,TU_enc,hw,↓reduceIte,reduceCtorEq,Nat.reduceEqDiff,Nat.reduceAdd,Nat.reduceSub,Nat.reduceLeDiff,Nat.reduceMul,Nat.reduceLT,Int.reduceToNat,Int.reduceLT,Int.reduceLE,Int.reduceEq,Int.reduceNeg,Int.reduceMul,Int.reduceAdd,Int.reduceSub,Int.reduceNe,Int.reduceBEq,Int.reduceBNe,Nat.reducePow,go_sem]
                repeat' (first | omega | (with_reducible apply And.intro) | intro _)
                all_goals first
                  | omega
                  | (refine inv_intro (q + 1,false) ⟨hqz,hno True fun h => hx h.2⟩ (by simp only; omega) ?_
                     simp only [Bool.true_or,Bool.false_or,↓reduceIte,reduceCtorEq,Nat.reduceEqDiff,Nat.reduceAdd,Nat.reduceSub,Nat.reduceLeDiff,Nat.reduceMul,Nat.reduceLT,Int.reduceToNat,Int.reduceLT,Int.reduceLE,Int.reduceEq,Int.reduceNeg,Int.reduceMul,Int.reduceAdd,Int.reduceSub,Int.reduceNe,Int.reduceBEq,Int.reduceBNe,Nat.reducePow,go_sem]
                     first
                       | exact wrS (by omega)
                       | (refine ⟨?_,wrS (by omega)⟩
                          first | omega | (rw [bne_iff_ne]; omega) | (rw [bne_eq_false_iff_eq]; omega) | (rw [beq_iff_eq]; omega) | (rw [beq_eq_false_iff_ne]; omega))
                       | (refine ⟨wrS (by omega),?_⟩
                          first | omega | (rw [bne_iff_ne]; omega) | (rw [bne_eq_false_iff_eq]; omega) | (rw [beq_iff_eq]; omega) | (rw [beq_eq_false_iff_ne]; omega)))
        · have fq : ((q : Int) < (z : Int)) = False := eq_false (by omega)
          obtain rfl : q = z := by omega
          have hb : b = true := hq2.2 hzs
          simp only [fq,hb,Int.toNat_natCast,TU_enc,hw,↓reduceIte,reduceCtorEq,Nat.reduceEqDiff,Nat.reduceAdd,Nat.reduceSub,Nat.reduceLeDiff,Nat.reduceMul,Nat.reduceLT,Int.reduceToNat,Int.reduceLT,Int.reduceLE,Int.reduceEq,Int.reduceNeg,Int.reduceMul,Int.reduceAdd,Int.reduceSub,Int.reduceNe,Int.reduceBEq,Int.reduceBNe,Nat.reducePow,go_sem]
      · obtain ⟨e1,e2,e3⟩ := kn_1 hp hbad
        obtain ⟨kn,hkn⟩ : ∃ f,f = knP l := ⟨_,rfl⟩
        have e4 : knP l = kn := hkn.symm
        have kse : ∀ q,q < l.1 → (kn q).sex.1 = sexF l q := fun q hq => by rw [hkn]; exact kn_sex hp hbad hq
        have kso : ∀ q,(kn q).sort = sortF l q := fun q => by rw [hkn]; rfl
        have x1 : clnB l i k = true → ((kn i).sex.1 != (kn k).sex.1) = false ∧ ((kn i).sort != (kn k).sort) = false := fun h => by
          rw [kse i hil,kse k hkl,kso,kso,sexF_cln hbad hil hkl h,sortF_cln hp hbad hil hkl h]; simp
        have hgs := sex_gd hbad hil
        have hgt := sort_gd hp hbad hil
        rw [← kse i hil] at hgs
        rw [← kso i] at hgt
        have ki : (kn i).id = (l.2 i).id ∧ (kn i).mother = (l.2 i).mother ∧ (kn i).planted = (l.2 i).planted := by rw [hkn]; exact ⟨rfl,rfl,rfl⟩
        obtain ⟨k1,k2,k3⟩ := ki
        first
          | (have x23 := x1 (show clnB l i k = true by exact u4)
             obtain ⟨x2,x3⟩ := x23
             simp (config := { maxSteps := 300000 }) only [sKnU,knU,sHasC,fq,e1,e2,e3,e4,u1,w1,w2,hi,hk,fi,fk,pi,pk,x2,x3,y1,y3,Int.toNat_natCast,TU_enc,hw,↓reduceIte,reduceCtorEq,Nat.reduceEqDiff,Nat.reduceAdd,Nat.reduceSub,Nat.reduceLeDiff,Nat.reduceMul,Nat.reduceLT,Int.reduceToNat,Int.reduceLT,Int.reduceLE,Int.reduceEq,Int.reduceNeg,Int.reduceMul,Int.reduceAdd,Int.reduceSub,Int.reduceNe,Int.reduceBEq,Int.reduceBNe,Nat.reducePow,go_sem])
          | simp (config := { maxSteps := 300000 }) only [sKnU,knU,sHasC,fq,e1,e2,e3,e4,u1,w1,w2,hi,hk,fi,fk,pi,pk,y1,y3,Int.toNat_natCast,TU_enc,hw,↓reduceIte,reduceCtorEq,Nat.reduceEqDiff,Nat.reduceAdd,Nat.reduceSub,Nat.reduceLeDiff,Nat.reduceMul,Nat.reduceLT,Int.reduceToNat,Int.reduceLT,Int.reduceLE,Int.reduceEq,Int.reduceNeg,Int.reduceMul,Int.reduceAdd,Int.reduceSub,Int.reduceNe,Int.reduceBEq,Int.reduceBNe,Nat.reducePow,go_sem]
        refine ⟨by omega,by omega,?_⟩
        refine loopI (ι := Nat × Bool × Bool) (fun s => s.1 ≤ l.1 ∧ (s.2.1 = true ↔ (kn i).sex.1 = 0 ∨ ∃ q,q < s.1 ∧ clnB l i q = true ∧ (l.2 q).sex.1 = (kn i).sex.1) ∧ (s.2.2 = true ↔ (kn i).sort = 0 ∨ ∃ q,q < s.1 ∧ clnB l i q = true ∧ (l.2 q).sort = (kn i).sort)) (fun s => l.1 - s.1) [7,8,10,14,17,26,318,319] (fun s => [(28,.bool s.2.1),(29,.bool s.2.2),(320,.int .i64 s.1)]) (fun _ => []) (0,(kn i).sex.1 == 0,(kn i).sort == 0) ⟨Nat.zero_le _,⟨fun h => .inl (beq_iff_eq.1 h),fun h => h.elim (fun h => beq_iff_eq.2 h) fun ⟨q,h,_⟩ => absurd h (Nat.not_lt_zero _)⟩,⟨fun h => .inl (beq_iff_eq.1 h),fun h => h.elim (fun h => beq_iff_eq.2 h) fun ⟨q,h,_⟩ => absurd h (Nat.not_lt_zero _)⟩⟩ (by simp only [↓reduceIte,reduceCtorEq,Nat.reduceEqDiff,Nat.reduceAdd,Nat.reduceSub,Nat.reduceLeDiff,Nat.reduceMul,Nat.reduceLT,Int.reduceToNat,Int.reduceLT,Int.reduceLE,Int.reduceEq,Int.reduceNeg,Int.reduceMul,Int.reduceAdd,Int.reduceSub,Int.reduceNe,Int.reduceBEq,Int.reduceBNe,Nat.reducePow,go_sem]; try simp) fun s hs => ?_
        obtain ⟨q,sx,so⟩ := s
        obtain ⟨hq1,hq2,hq3⟩ := hs
        simp only at hq1 hq2 hq3
        by_cases hqz : q < l.1
        · have fq : ((q : Int) < (l.1 : Int)) = True := eq_true (by omega)
          have pq : (0 ≤ (q : Int)) = True := eq_true (by omega)
          have z2 := hc1 q hqz
          cases hcl : clnB l i q
          · rw [hcl] at z2
            have hl : ∀ R : Nat → Prop,(∃ q',q' < q ∧ clnB l i q' = true ∧ R q') ↔ ∃ q',q' < q + 1 ∧ clnB l i q' = true ∧ R q' := fun R => ⟨fun ⟨q',h1,h2⟩ => ⟨q',by omega,h2⟩,fun ⟨q',h1,h2,h3⟩ => ⟨q',(by
              rcases Nat.lt_or_ge q' q with h | h
              · exact h
              · obtain rfl : q' = q := by omega
                rw [hcl] at h2; cases h2),h2,h3⟩⟩
            simp only [sHasC,fq,pq,z2,y1,Int.toNat_natCast,TU_enc,hw,↓reduceIte,reduceCtorEq,Nat.reduceEqDiff,Nat.reduceAdd,Nat.reduceSub,Nat.reduceLeDiff,Nat.reduceMul,Nat.reduceLT,Int.reduceToNat,Int.reduceLT,Int.reduceLE,Int.reduceEq,Int.reduceNeg,Int.reduceMul,Int.reduceAdd,Int.reduceSub,Int.reduceNe,Int.reduceBEq,Int.reduceBNe,Nat.reducePow,go_sem]
            repeat' (first | omega | (with_reducible apply And.intro) | intro _)
            all_goals first
              | omega
              | (refine inv_intro (q + 1,sx,so) ⟨hqz,hq2.trans (or_congr Iff.rfl (hl _)),hq3.trans (or_congr Iff.rfl (hl _))⟩ (by simp only; omega) ?_
                 simp only [↓reduceIte,reduceCtorEq,Nat.reduceEqDiff,Nat.reduceAdd,Nat.reduceSub,Nat.reduceLeDiff,Nat.reduceMul,Nat.reduceLT,Int.reduceToNat,Int.reduceLT,Int.reduceLE,Int.reduceEq,Int.reduceNeg,Int.reduceMul,Int.reduceAdd,Int.reduceSub,Int.reduceNe,Int.reduceBEq,Int.reduceBNe,Nat.reducePow,go_sem]
                 exact wrS (by omega))
          · rw [hcl] at z2
            have d1 : (l.2 q).sex.1 = 0 ∨ (l.2 q).sex.1 = (kn i).sex.1 := hgs.2 q hqz hcl
            have d2 : (l.2 q).sort = 0 ∨ (l.2 q).sort = (kn i).sort := hgt.2 q hqz hcl
            have hl : ∀ (R : Nat → Prop) (b : Bool) (c v : Int) (f : Nat → Int),(b = true ↔ c = 0 ∨ ∃ q',q' < q ∧ clnB l i q' = true ∧ f q' = v) → ((b || (f q == v)) = true ↔ c = 0 ∨ ∃ q',q' < q + 1 ∧ clnB l i q' = true ∧ f q' = v) := fun _ b c v f h => by
              rw [Bool.or_eq_true,h,beq_iff_eq]
              constructor
              · rintro ((h | ⟨q',h1,h2⟩) | h)
                · exact .inl h
                · exact .inr ⟨q',by omega,h2⟩
                · exact .inr ⟨q,by omega,hcl,h⟩
              · rintro (h | ⟨q',h1,h2,h3⟩)
                · exact .inl (.inl h)
                · by_cases e : q' = q
                  · subst e; exact .inr h3
                  · exact .inl (.inr ⟨q',by omega,h2,h3⟩)
            have s1 := hl (fun _ => True) sx (kn i).sex.1 (kn i).sex.1 (fun q => (l.2 q).sex.1) hq2
            have s2 := hl (fun _ => True) so (kn i).sort (kn i).sort (fun q => (l.2 q).sort) hq3
            obtain ⟨sx',hsx⟩ : ∃ b,b = (sx || ((l.2 q).sex.1 == (kn i).sex.1)) := ⟨_,rfl⟩
            obtain ⟨so',hso⟩ : ∃ b,b = (so || ((l.2 q).sort == (kn i).sort)) := ⟨_,rfl⟩
            have r1 : sx' = true ↔ (kn i).sex.1 = 0 ∨ ∃ q',q' < q + 1 ∧ clnB l i q' = true ∧ (l.2 q').sex.1 = (kn i).sex.1 := by rw [hsx]; exact s1
            have r2 : so' = true ↔ (kn i).sort = 0 ∨ ∃ q',q' < q + 1 ∧ clnB l i q' = true ∧ (l.2 q').sort = (kn i).sort := by rw [hso]; exact s2
            cases sx <;> cases so
            all_goals
              simp only [sHasC,fq,pq,fi,pi,z2,y1,Int.toNat_natCast,TU_enc,hw,↓reduceIte,reduceCtorEq,Nat.reduceEqDiff,Nat.reduceAdd,Nat.reduceSub,Nat.reduceLeDiff,Nat.reduceMul,Nat.reduceLT,Int.reduceToNat,Int.reduceLT,Int.reduceLE,Int.reduceEq,Int.reduceNeg,Int.reduceMul,Int.reduceAdd,Int.reduceSub,Int.reduceNe,Int.reduceBEq,Int.reduceBNe,Nat.reducePow,go_sem]
              repeat' (first | omega | (with_reducible apply And.intro) | intro _)
              all_goals first
                | omega
                | (rcases d1 with h | h <;> rcases d2 with h' | h' <;> contradiction)
                | (refine inv_intro (q + 1,sx',so') ⟨hqz,r1,r2⟩ (by simp only; omega) ?_
                   simp only [hsx,hso,Bool.true_or,Bool.false_or,↓reduceIte,reduceCtorEq,Nat.reduceEqDiff,Nat.reduceAdd,Nat.reduceSub,Nat.reduceLeDiff,Nat.reduceMul,Nat.reduceLT,Int.reduceToNat,Int.reduceLT,Int.reduceLE,Int.reduceEq,Int.reduceNeg,Int.reduceMul,Int.reduceAdd,Int.reduceSub,Int.reduceNe,Int.reduceBEq,Int.reduceBNe,Nat.reducePow,go_sem]
                   first
                     | exact wrS (by omega)
                     | (refine ⟨?_,wrS (by omega)⟩
                        first | omega | (rw [bne_iff_ne]; omega) | (rw [bne_eq_false_iff_eq]; omega) | (rw [beq_iff_eq]; omega) | (rw [beq_eq_false_iff_ne]; omega))
                     | (refine ⟨wrS (by omega),?_⟩
                        first | omega | (rw [bne_iff_ne]; omega) | (rw [bne_eq_false_iff_eq]; omega) | (rw [beq_iff_eq]; omega) | (rw [beq_eq_false_iff_ne]; omega)))
        · have fq : ((q : Int) < (l.1 : Int)) = False := eq_false (by omega)
          obtain rfl : q = l.1 := by omega
          have hs1 : sx = true := hq2.2 hgs.1
          have hs2 : so = true := hq3.2 hgt.1
          simp only [fq,fi,pi,hs1,hs2,k1,k2,k3,Int.toNat_natCast,TU_enc,hw,↓reduceIte,reduceCtorEq,Nat.reduceEqDiff,Nat.reduceAdd,Nat.reduceSub,Nat.reduceLeDiff,Nat.reduceMul,Nat.reduceLT,Int.reduceToNat,Int.reduceLT,Int.reduceLE,Int.reduceEq,Int.reduceNeg,Int.reduceMul,Int.reduceAdd,Int.reduceSub,Int.reduceNe,Int.reduceBEq,Int.reduceBNe,Nat.reducePow,go_sem]
end Go.Proofs.Ytlapepdhkomijaa
