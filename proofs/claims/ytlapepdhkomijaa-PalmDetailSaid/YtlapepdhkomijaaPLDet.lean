/- Palms, the statement PalmDetail. No condition. -/
import Derived.Test.YtlapepdhkomijaaPAlv
import Derived.Test.YtlapepdhkomijaaPWeak
import Derived.Test.YtlapepdhkomijaaACodeL13
set_option linter.unusedSimpArgs false
set_option linter.unusedVariables false
namespace Go.Proofs.Ytlapepdhkomijaa
open Go Go.RowKit
variable {G : Nat → Option (Nat × (Nat → Val))}
def sLawDetail : Spec := spec4 (TSl RPm) (TU .u8) (TU .u8) (TU .u8) (fun _ _ _ _ => True) fun _ _ _ _ => .bool true
set_option maxHeartbeats 4000000 in
set_option maxRecDepth 100000 in
theorem pLawDetail : PureOk Try.prog G 13 sLawDetail := by
  refine fn4 (S := [(36,sAliveP),(14,sGreat7),(20,sCheck7),(15,sKnU),(21,sSamePm)]) (I := []) mixed
    (.cons pAliveP (.cons pGreat7 (.cons pCheck7 (.cons pKnU (.cons pSamePm .nil))))) .nil Try.func13 c13 fun l wh sx so _ hw => ?_
  simp only [↓imp_tt,↓imp_tf,↓imp_ft,↓imp_ff,↓reduceIte,reduceCtorEq,Nat.reduceEqDiff,Nat.reduceAdd,Nat.reduceSub,Nat.reduceLeDiff,Nat.reduceMul,Nat.reduceLT,Int.reduceToNat,Int.reduceLT,Int.reduceLE,Int.reduceEq,Int.reduceNeg,Int.reduceMul,Int.reduceAdd,Int.reduceSub,Int.reduceNe,Int.reduceBEq,Int.reduceBNe,Nat.reducePow,go_sem] at hw
  have hz0 : ∀ i : Nat,(i < 0) = False := fun i => eq_false (Nat.not_lt_zero i)
  have hz : (∀ i : Nat,i < 0 → Sp.w fun _ => Val.und) ∧ (∀ i : Nat,i < 0 → False) ∧ ∀ i : Nat,i < 0 → Lt.w fun _ => Val.und := ⟨fun i h => absurd h (Nat.not_lt_zero i),fun i h => Nat.not_lt_zero i h,fun i h => absurd h (Nat.not_lt_zero i)⟩
  by_cases hg : l.1 > 30
  · have eg : decP (l.1 > 30 ∨ 0 > 12 ∨ 0 > 20 ∨ 0 > 8) = true := decP_t (.inl hg)
    simp only [RunTo,a13,sAliveP,sGreat7,eg,hw,↓imp_tt,↓imp_tf,↓imp_ft,↓imp_ff,↓reduceIte,reduceCtorEq,Nat.reduceEqDiff,Nat.reduceAdd,Nat.reduceSub,Nat.reduceLeDiff,Nat.reduceMul,Nat.reduceLT,Int.reduceToNat,Int.reduceLT,Int.reduceLE,Int.reduceEq,Int.reduceNeg,Int.reduceMul,Int.reduceAdd,Int.reduceSub,Int.reduceNe,Int.reduceBEq,Int.reduceBNe,Nat.reducePow,go_sem]
    exact hz
  have eg : decP (l.1 > 30 ∨ 0 > 12 ∨ 0 > 20 ∨ 0 > 8) = false := decP_f (by omega)
  by_cases hp : ¬ PmsOk l
  · have ep := pmE_no hp
    simp only [RunTo,a13,sAliveP,sGreat7,sCheck7,eg,ep,hw,↓imp_tt,↓imp_tf,↓imp_ft,↓imp_ff,↓reduceIte,reduceCtorEq,Nat.reduceEqDiff,Nat.reduceAdd,Nat.reduceSub,Nat.reduceLeDiff,Nat.reduceMul,Nat.reduceLT,Int.reduceToNat,Int.reduceLT,Int.reduceLE,Int.reduceEq,Int.reduceNeg,Int.reduceMul,Int.reduceAdd,Int.reduceSub,Int.reduceNe,Int.reduceBEq,Int.reduceBNe,Nat.reducePow,go_sem]
    exact hz
  have hp := Classical.not_not.1 hp
  have ep := pmE_ok hp
  by_cases h0 : l.1 = 0
  · have f0 : ((l.1 : Int) == 0) = true := beq_iff_eq.2 (by omega)
    simp only [RunTo,a13,sAliveP,sGreat7,sCheck7,eg,ep,f0,hw,↓imp_tt,↓imp_tf,↓imp_ft,↓imp_ff,↓reduceIte,reduceCtorEq,Nat.reduceEqDiff,Nat.reduceAdd,Nat.reduceSub,Nat.reduceLeDiff,Nat.reduceMul,Nat.reduceLT,Int.reduceToNat,Int.reduceLT,Int.reduceLE,Int.reduceEq,Int.reduceNeg,Int.reduceMul,Int.reduceAdd,Int.reduceSub,Int.reduceNe,Int.reduceBEq,Int.reduceBNe,Nat.reducePow,go_sem]
    exact hz
  have f0 : ((l.1 : Int) == 0) = false := beq_eq_false_iff_ne.2 (by omega)
  by_cases hb : badI l < l.1
  · obtain ⟨e1,e2,e3⟩ := kn_2 hp hb
    simp only [RunTo,a13,sAliveP,sGreat7,sCheck7,sKnU,knU,eg,ep,f0,e1,e2,e3,hw,↓imp_tt,↓imp_tf,↓imp_ft,↓imp_ff,↓reduceIte,reduceCtorEq,Nat.reduceEqDiff,Nat.reduceAdd,Nat.reduceSub,Nat.reduceLeDiff,Nat.reduceMul,Nat.reduceLT,Int.reduceToNat,Int.reduceLT,Int.reduceLE,Int.reduceEq,Int.reduceNeg,Int.reduceMul,Int.reduceAdd,Int.reduceSub,Int.reduceNe,Int.reduceBEq,Int.reduceBNe,Nat.reducePow,go_sem]
    exact hz
  have hn24 := hp.n
  obtain ⟨kn,hkn⟩ : ∃ f,f = knP l := ⟨_,rfl⟩
  obtain ⟨kn2,hkn2⟩ : ∃ f,f = knP (knF l) := ⟨_,rfl⟩
  obtain ⟨e1,e2,e3⟩ := kn_1 hp hb
  obtain ⟨d1,d2,d3⟩ := kn_1 (knF_ok hp hb) (knF_bad hp hb)
  have hkf : knF l = (l.1,kn) := by rw [hkn]; rfl
  have e4 : knP l = kn := hkn.symm
  rw [hkf] at d1 d2 d3
  have d4 : knP (l.1,kn) = kn2 := by rw [← hkf,hkn2]
  have d2 : knL (l.1,kn) = l.1 := d2
  have hsm : sameB (l.1,kn2) (l.1,kn) = true := decP_t ⟨rfl,fun i hi => by rw [hkn,hkn2]; exact knF_kn hp hb hi⟩
  have y1 : (l.1 ≤ 9223372036854775807) = True := eq_true (by omega)
  have hwl : 0 ≤ wh.1 ∧ wh.1 ≤ 255 := wh.2
  have hsl : 0 ≤ sx.1 ∧ sx.1 ≤ 255 := sx.2
  have htl : 0 ≤ so.1 ∧ so.1 ≤ 255 := so.2
  have w1 : IntKind.i64.wrap wh.1 = wh.1 := wr64 (by omega) (by omega)
  have w2 : IntKind.i64.wrap so.1 = so.1 := wr64 (by omega) (by omega)
  obtain ⟨k,hk⟩ : ∃ k : Nat,wh.1.tmod (l.1 : Int) = (k : Int) := ⟨(wh.1.tmod (l.1 : Int)).toNat,by have := Int.tmod_nonneg (l.1 : Int) hwl.1; omega⟩
  have hkl : k < l.1 := by
    have := Int.tmod_lt_of_pos wh.1 (show (0 : Int) < (l.1 : Int) by omega)
    omega
  have fk : ((k : Int) < (l.1 : Int)) = True := eq_true (by omega)
  have pk : (0 ≤ (k : Int)) = True := eq_true (by omega)
  have nk : ¬ k < 0 := Nat.not_lt_zero k
  have eg' : decP (l.1 > 30) = false := decP_f hg
  have hkk : (kn k).sex.1 = sexF l k ∧ (kn k).sort = sortF l k := by rw [hkn]; exact ⟨kn_sex hp hb hkl,rfl⟩
  have mA : 0 ≤ sx.1.tmod 3 ∧ sx.1.tmod 3 ≤ 2 := ⟨Int.tmod_nonneg _ hsl.1,by have := Int.tmod_lt_of_pos sx.1 (show (0 : Int) < 3 by decide); omega⟩
  have mB : 0 ≤ so.1.tmod 100 ∧ so.1.tmod 100 ≤ 99 := ⟨Int.tmod_nonneg _ htl.1,by have := Int.tmod_lt_of_pos so.1 (show (0 : Int) < 100 by decide); omega⟩
  have mU : (toUI .u8 (sx.1.tmod 3)).1 = sx.1.tmod 3 := toUI_in (show (0 : Int) ≤ sx.1.tmod 3 ∧ sx.1.tmod 3 ≤ 255 by omega)
  have mV : IntKind.u8.min ≤ sx.1.tmod 3 ∧ sx.1.tmod 3 ≤ IntKind.u8.max := (show (0 : Int) ≤ sx.1.tmod 3 ∧ sx.1.tmod 3 ≤ 255 by omega)
  by_cases s0 : (l.2 k).sex.1 = 0
  · by_cases t0 : (l.2 k).sort = 0
    · have hD : DetOk l k (toUI .u8 (sx.1.tmod 3)) (so.1.tmod 100) := ⟨hkl,fun h => absurd s0 h,fun h => absurd t0 h,by rw [mU]; omega,mB⟩
      have hF : (l.1,fun i => Pm.d fun j => if i = k ∧ 4 ≤ j ∧ j < 5 then vget (.cons (.int .i64 (so.1.tmod 100)) .nil) (j - 4) else if i = k ∧ 3 ≤ j ∧ j < 4 then vget (.cons (.int .u8 (sx.1.tmod 3)) .nil) (j - 3) else (l.2 i).c j) = detP l k (toUI .u8 (sx.1.tmod 3)) (so.1.tmod 100) := by
        unfold detP; congr 1; funext i
        by_cases e : i = k
        · subst e; simp [Pm.d,Pm.c,vget,Val.toInt,toUI_val]
        · simp only [e,false_and,if_false]; exact Pm.d_c _
      have hW : ∀ i,i < l.1 → Pm.w fun j => if i = k ∧ 4 ≤ j ∧ j < 5 then vget (.cons (.int .i64 (so.1.tmod 100)) .nil) (j - 4) else if i = k ∧ 3 ≤ j ∧ j < 4 then vget (.cons (.int .u8 (sx.1.tmod 3)) .nil) (j - 3) else (l.2 i).c j := fun i _ => by
        by_cases e : i = k
        · subst e; simp only [Pm.w,Pm.c,vget,Val.toInt,true_and,Nat.reduceLeDiff,Nat.reduceLT,Nat.reduceSub,and_false,false_and,if_false,if_true,and_self,Nat.le_refl]; first | (have q := (l.2 i).sex.2; exact ⟨q.1,q.2⟩) | exact (l.2 i).sex.2 | exact ⟨(l.2 i).sex.2,trivial⟩ | exact mV | exact ⟨mV,trivial⟩ | exact ⟨mV.1,mV.2⟩
        · simp only [e,false_and,if_false]; exact of_eq_true (Pm.w_c _)
      have hX : ((sx.1.tmod 3 ≠ 0 ∧ (kn k).sex.1 ≠ 0 ∧ sx.1.tmod 3 ≠ (kn k).sex.1 ∨ so.1.tmod 100 ≠ 0 ∧ (kn k).sort ≠ 0 ∧ so.1.tmod 100 ≠ (kn k).sort) ∧ knX (detP l k (toUI .u8 (sx.1.tmod 3)) (so.1.tmod 100)) = 71) ∨ (¬ (sx.1.tmod 3 ≠ 0 ∧ (kn k).sex.1 ≠ 0 ∧ sx.1.tmod 3 ≠ (kn k).sex.1 ∨ so.1.tmod 100 ≠ 0 ∧ (kn k).sort ≠ 0 ∧ so.1.tmod 100 ≠ (kn k).sort) ∧ knX (detP l k (toUI .u8 (sx.1.tmod 3)) (so.1.tmod 100)) = 0 ∧ knL (detP l k (toUI .u8 (sx.1.tmod 3)) (so.1.tmod 100)) = l.1 ∧ ∀ i,i < l.1 → ((kn i).sex.1 ≠ 0 → (knP (detP l k (toUI .u8 (sx.1.tmod 3)) (so.1.tmod 100)) i).sex.1 = (kn i).sex.1) ∧ ((kn i).sort ≠ 0 → (knP (detP l k (toUI .u8 (sx.1.tmod 3)) (so.1.tmod 100)) i).sort = (kn i).sort)) := by
        by_cases hx : detX l k (toUI .u8 (sx.1.tmod 3)) (so.1.tmod 100)
        · refine .inl ⟨?_,(kn_2 (hD.ok hp) (hD.clash hp hb hx)).1⟩
          unfold detX at hx; rw [mU] at hx; rw [hkk.1,hkk.2]; exact hx
        · have hf := hD.free hp hb hx
          refine .inr ⟨?_,(kn_1 (hD.ok hp) hf).1,(kn_1 (hD.ok hp) hf).2.1,fun i hi => ?_⟩
          · unfold detX at hx; rw [mU] at hx; rw [hkk.1,hkk.2]; exact hx
          · have q := hD.known hp hb hf hi
            have q1 := kn_sex hp hb hi
            have q2 := kn_sex (hD.ok hp) hf (i := i) hi
            rw [hkn,q1,q2]; exact q
      obtain ⟨x3,hx3⟩ : ∃ x,knX (detP l k (toUI .u8 (sx.1.tmod 3)) (so.1.tmod 100)) = x := ⟨_,rfl⟩
      obtain ⟨n3,hn3⟩ : ∃ x,knL (detP l k (toUI .u8 (sx.1.tmod 3)) (so.1.tmod 100)) = x := ⟨_,rfl⟩
      obtain ⟨kn3,hk3⟩ : ∃ x,knP (detP l k (toUI .u8 (sx.1.tmod 3)) (so.1.tmod 100)) = x := ⟨_,rfl⟩
      rw [hx3,hn3,hk3] at hX
      rw [← hF] at hx3 hn3 hk3
      simp only [hz0,and_false,if_false,↓imp_tt,↓imp_tf,↓imp_ft,↓imp_ff,↓reduceIte,reduceCtorEq,Nat.reduceEqDiff,Nat.reduceAdd,Nat.reduceSub,Nat.reduceLeDiff,Nat.reduceMul,Nat.reduceLT,Int.reduceToNat,Int.reduceLT,Int.reduceLE,Int.reduceEq,Int.reduceNeg,Int.reduceMul,Int.reduceAdd,Int.reduceSub,Int.reduceNe,Int.reduceBEq,Int.reduceBNe,Nat.reducePow,go_sem] at hx3 hn3 hk3
      simp (config := { maxSteps := 300000 }) only [RunTo,a13,sAliveP,sGreat7,sCheck7,sKnU,knU,sSamePm,eg',ep,f0,e1,e2,e3,e4,d1,d2,d3,d4,hsm,y1,w1,w2,hk,fk,pk,s0,t0,hz0,hx3,hn3,hk3,and_false,if_false,Int.toNat_natCast,TU_enc,hw,↓imp_tt,↓imp_tf,↓imp_ft,↓imp_ff,↓reduceIte,reduceCtorEq,Nat.reduceEqDiff,Nat.reduceAdd,Nat.reduceSub,Nat.reduceLeDiff,Nat.reduceMul,Nat.reduceLT,Int.reduceToNat,Int.reduceLT,Int.reduceLE,Int.reduceEq,Int.reduceNeg,Int.reduceMul,Int.reduceAdd,Int.reduceSub,Int.reduceNe,Int.reduceBEq,Int.reduceBNe,Nat.reducePow,go_sem]
      repeat' (first | omega | exact hW | (with_reducible apply And.intro) | intro _)
      all_goals first
        | omega
        | (exfalso; omega)
        | (rcases hX with ⟨h1,h2⟩ | ⟨h1,h2,h3,hq⟩
           · exfalso; omega
           · refine loopI (ι := Nat) (fun i => i ≤ l.1) (fun i => l.1 - i) [9,10,18,193] (fun i => [(194,.int .i64 i)]) (fun _ => []) 0 (Nat.zero_le _) (by simp only [↓imp_tt,↓imp_tf,↓imp_ft,↓imp_ff,↓reduceIte,reduceCtorEq,Nat.reduceEqDiff,Nat.reduceAdd,Nat.reduceSub,Nat.reduceLeDiff,Nat.reduceMul,Nat.reduceLT,Int.reduceToNat,Int.reduceLT,Int.reduceLE,Int.reduceEq,Int.reduceNeg,Int.reduceMul,Int.reduceAdd,Int.reduceSub,Int.reduceNe,Int.reduceBEq,Int.reduceBNe,Nat.reducePow,go_sem]; try simp) fun i hi => ?_
             by_cases il : i < l.1
             · have fi : ((i : Int) < (l.1 : Int)) = True := eq_true (by omega)
               have fn : ((i : Int) < (n3 : Int)) = True := eq_true (by omega)
               have pi : (0 ≤ (i : Int)) = True := eq_true (by omega)
               obtain ⟨qa,qb⟩ := hq i il
               simp only [fi,fn,pi,Int.toNat_natCast,hw,↓imp_tt,↓imp_tf,↓imp_ft,↓imp_ff,↓reduceIte,reduceCtorEq,Nat.reduceEqDiff,Nat.reduceAdd,Nat.reduceSub,Nat.reduceLeDiff,Nat.reduceMul,Nat.reduceLT,Int.reduceToNat,Int.reduceLT,Int.reduceLE,Int.reduceEq,Int.reduceNeg,Int.reduceMul,Int.reduceAdd,Int.reduceSub,Int.reduceNe,Int.reduceBEq,Int.reduceBNe,Nat.reducePow,go_sem]
               repeat' (first | omega | (with_reducible apply And.intro) | intro _)
               all_goals first
                 | omega
                 | (refine inv_intro (i + 1) il (by omega) ?_
                    simp only [↓imp_tt,↓imp_tf,↓imp_ft,↓imp_ff,↓reduceIte,reduceCtorEq,Nat.reduceEqDiff,Nat.reduceAdd,Nat.reduceSub,Nat.reduceLeDiff,Nat.reduceMul,Nat.reduceLT,Int.reduceToNat,Int.reduceLT,Int.reduceLE,Int.reduceEq,Int.reduceNeg,Int.reduceMul,Int.reduceAdd,Int.reduceSub,Int.reduceNe,Int.reduceBEq,Int.reduceBNe,Nat.reducePow,go_sem]
                    exact wrS (by omega))
             · have fn : ((i : Int) < (n3 : Int)) = False := eq_false (by omega)
               simp only [fn,hw,↓imp_tt,↓imp_tf,↓imp_ft,↓imp_ff,↓reduceIte,reduceCtorEq,Nat.reduceEqDiff,Nat.reduceAdd,Nat.reduceSub,Nat.reduceLeDiff,Nat.reduceMul,Nat.reduceLT,Int.reduceToNat,Int.reduceLT,Int.reduceLE,Int.reduceEq,Int.reduceNeg,Int.reduceMul,Int.reduceAdd,Int.reduceSub,Int.reduceNe,Int.reduceBEq,Int.reduceBNe,Nat.reducePow,go_sem])
    · skip
      have hD : DetOk l k (toUI .u8 (sx.1.tmod 3)) (l.2 k).sort := ⟨hkl,fun h => absurd s0 h,fun _ => rfl,by rw [mU]; omega,hp.sort k hkl⟩
      have hF : (l.1,fun i => Pm.d fun j => if i = k ∧ 3 ≤ j ∧ j < 4 then vget (.cons (.int .u8 (sx.1.tmod 3)) .nil) (j - 3) else (l.2 i).c j) = detP l k (toUI .u8 (sx.1.tmod 3)) (l.2 k).sort := by
        unfold detP; congr 1; funext i
        by_cases e : i = k
        · subst e; simp [Pm.d,Pm.c,vget,Val.toInt,toUI_val]
        · simp only [e,false_and,if_false]; exact Pm.d_c _
      have hW : ∀ i,i < l.1 → Pm.w fun j => if i = k ∧ 3 ≤ j ∧ j < 4 then vget (.cons (.int .u8 (sx.1.tmod 3)) .nil) (j - 3) else (l.2 i).c j := fun i _ => by
        by_cases e : i = k
        · subst e; simp only [Pm.w,Pm.c,vget,Val.toInt,true_and,Nat.reduceLeDiff,Nat.reduceLT,Nat.reduceSub,and_false,false_and,if_false,if_true,and_self,Nat.le_refl]; first | (have q := (l.2 i).sex.2; exact ⟨q.1,q.2⟩) | exact (l.2 i).sex.2 | exact ⟨(l.2 i).sex.2,trivial⟩ | exact mV | exact ⟨mV,trivial⟩ | exact ⟨mV.1,mV.2⟩
        · simp only [e,false_and,if_false]; exact of_eq_true (Pm.w_c _)
      have hX : ((sx.1.tmod 3 ≠ 0 ∧ (kn k).sex.1 ≠ 0 ∧ sx.1.tmod 3 ≠ (kn k).sex.1 ∨ (l.2 k).sort ≠ 0 ∧ (kn k).sort ≠ 0 ∧ (l.2 k).sort ≠ (kn k).sort) ∧ knX (detP l k (toUI .u8 (sx.1.tmod 3)) (l.2 k).sort) = 71) ∨ (¬ (sx.1.tmod 3 ≠ 0 ∧ (kn k).sex.1 ≠ 0 ∧ sx.1.tmod 3 ≠ (kn k).sex.1 ∨ (l.2 k).sort ≠ 0 ∧ (kn k).sort ≠ 0 ∧ (l.2 k).sort ≠ (kn k).sort) ∧ knX (detP l k (toUI .u8 (sx.1.tmod 3)) (l.2 k).sort) = 0 ∧ knL (detP l k (toUI .u8 (sx.1.tmod 3)) (l.2 k).sort) = l.1 ∧ ∀ i,i < l.1 → ((kn i).sex.1 ≠ 0 → (knP (detP l k (toUI .u8 (sx.1.tmod 3)) (l.2 k).sort) i).sex.1 = (kn i).sex.1) ∧ ((kn i).sort ≠ 0 → (knP (detP l k (toUI .u8 (sx.1.tmod 3)) (l.2 k).sort) i).sort = (kn i).sort)) := by
        by_cases hx : detX l k (toUI .u8 (sx.1.tmod 3)) (l.2 k).sort
        · refine .inl ⟨?_,(kn_2 (hD.ok hp) (hD.clash hp hb hx)).1⟩
          unfold detX at hx; rw [mU] at hx; rw [hkk.1,hkk.2]; exact hx
        · have hf := hD.free hp hb hx
          refine .inr ⟨?_,(kn_1 (hD.ok hp) hf).1,(kn_1 (hD.ok hp) hf).2.1,fun i hi => ?_⟩
          · unfold detX at hx; rw [mU] at hx; rw [hkk.1,hkk.2]; exact hx
          · have q := hD.known hp hb hf hi
            have q1 := kn_sex hp hb hi
            have q2 := kn_sex (hD.ok hp) hf (i := i) hi
            rw [hkn,q1,q2]; exact q
      obtain ⟨x3,hx3⟩ : ∃ x,knX (detP l k (toUI .u8 (sx.1.tmod 3)) (l.2 k).sort) = x := ⟨_,rfl⟩
      obtain ⟨n3,hn3⟩ : ∃ x,knL (detP l k (toUI .u8 (sx.1.tmod 3)) (l.2 k).sort) = x := ⟨_,rfl⟩
      obtain ⟨kn3,hk3⟩ : ∃ x,knP (detP l k (toUI .u8 (sx.1.tmod 3)) (l.2 k).sort) = x := ⟨_,rfl⟩
      rw [hx3,hn3,hk3] at hX
      rw [← hF] at hx3 hn3 hk3
      simp only [hz0,and_false,if_false,↓imp_tt,↓imp_tf,↓imp_ft,↓imp_ff,↓reduceIte,reduceCtorEq,Nat.reduceEqDiff,Nat.reduceAdd,Nat.reduceSub,Nat.reduceLeDiff,Nat.reduceMul,Nat.reduceLT,Int.reduceToNat,Int.reduceLT,Int.reduceLE,Int.reduceEq,Int.reduceNeg,Int.reduceMul,Int.reduceAdd,Int.reduceSub,Int.reduceNe,Int.reduceBEq,Int.reduceBNe,Nat.reducePow,go_sem] at hx3 hn3 hk3
      simp (config := { maxSteps := 300000 }) only [RunTo,a13,sAliveP,sGreat7,sCheck7,sKnU,knU,sSamePm,eg',ep,f0,e1,e2,e3,e4,d1,d2,d3,d4,hsm,y1,w1,w2,hk,fk,pk,s0,t0,hz0,hx3,hn3,hk3,and_false,if_false,Int.toNat_natCast,TU_enc,hw,↓imp_tt,↓imp_tf,↓imp_ft,↓imp_ff,↓reduceIte,reduceCtorEq,Nat.reduceEqDiff,Nat.reduceAdd,Nat.reduceSub,Nat.reduceLeDiff,Nat.reduceMul,Nat.reduceLT,Int.reduceToNat,Int.reduceLT,Int.reduceLE,Int.reduceEq,Int.reduceNeg,Int.reduceMul,Int.reduceAdd,Int.reduceSub,Int.reduceNe,Int.reduceBEq,Int.reduceBNe,Nat.reducePow,go_sem]
      repeat' (first | omega | exact hW | (with_reducible apply And.intro) | intro _)
      all_goals first
        | omega
        | (exfalso; omega)
        | (rcases hX with ⟨h1,h2⟩ | ⟨h1,h2,h3,hq⟩
           · exfalso; omega
           · refine loopI (ι := Nat) (fun i => i ≤ l.1) (fun i => l.1 - i) [9,10,18,193] (fun i => [(194,.int .i64 i)]) (fun _ => []) 0 (Nat.zero_le _) (by simp only [↓imp_tt,↓imp_tf,↓imp_ft,↓imp_ff,↓reduceIte,reduceCtorEq,Nat.reduceEqDiff,Nat.reduceAdd,Nat.reduceSub,Nat.reduceLeDiff,Nat.reduceMul,Nat.reduceLT,Int.reduceToNat,Int.reduceLT,Int.reduceLE,Int.reduceEq,Int.reduceNeg,Int.reduceMul,Int.reduceAdd,Int.reduceSub,Int.reduceNe,Int.reduceBEq,Int.reduceBNe,Nat.reducePow,go_sem]; try simp) fun i hi => ?_
             by_cases il : i < l.1
             · have fi : ((i : Int) < (l.1 : Int)) = True := eq_true (by omega)
               have fn : ((i : Int) < (n3 : Int)) = True := eq_true (by omega)
               have pi : (0 ≤ (i : Int)) = True := eq_true (by omega)
               obtain ⟨qa,qb⟩ := hq i il
               simp only [fi,fn,pi,Int.toNat_natCast,hw,↓imp_tt,↓imp_tf,↓imp_ft,↓imp_ff,↓reduceIte,reduceCtorEq,Nat.reduceEqDiff,Nat.reduceAdd,Nat.reduceSub,Nat.reduceLeDiff,Nat.reduceMul,Nat.reduceLT,Int.reduceToNat,Int.reduceLT,Int.reduceLE,Int.reduceEq,Int.reduceNeg,Int.reduceMul,Int.reduceAdd,Int.reduceSub,Int.reduceNe,Int.reduceBEq,Int.reduceBNe,Nat.reducePow,go_sem]
               repeat' (first | omega | (with_reducible apply And.intro) | intro _)
               all_goals first
                 | omega
                 | (refine inv_intro (i + 1) il (by omega) ?_
                    simp only [↓imp_tt,↓imp_tf,↓imp_ft,↓imp_ff,↓reduceIte,reduceCtorEq,Nat.reduceEqDiff,Nat.reduceAdd,Nat.reduceSub,Nat.reduceLeDiff,Nat.reduceMul,Nat.reduceLT,Int.reduceToNat,Int.reduceLT,Int.reduceLE,Int.reduceEq,Int.reduceNeg,Int.reduceMul,Int.reduceAdd,Int.reduceSub,Int.reduceNe,Int.reduceBEq,Int.reduceBNe,Nat.reducePow,go_sem]
                    exact wrS (by omega))
             · have fn : ((i : Int) < (n3 : Int)) = False := eq_false (by omega)
               simp only [fn,hw,↓imp_tt,↓imp_tf,↓imp_ft,↓imp_ff,↓reduceIte,reduceCtorEq,Nat.reduceEqDiff,Nat.reduceAdd,Nat.reduceSub,Nat.reduceLeDiff,Nat.reduceMul,Nat.reduceLT,Int.reduceToNat,Int.reduceLT,Int.reduceLE,Int.reduceEq,Int.reduceNeg,Int.reduceMul,Int.reduceAdd,Int.reduceSub,Int.reduceNe,Int.reduceBEq,Int.reduceBNe,Nat.reducePow,go_sem])
  · by_cases t0 : (l.2 k).sort = 0
    · have hD : DetOk l k (l.2 k).sex (so.1.tmod 100) := ⟨hkl,fun _ => rfl,fun h => absurd t0 h,hp.sex k hkl,mB⟩
      have hF : (l.1,fun i => Pm.d fun j => if i = k ∧ 4 ≤ j ∧ j < 5 then vget (.cons (.int .i64 (so.1.tmod 100)) .nil) (j - 4) else (l.2 i).c j) = detP l k (l.2 k).sex (so.1.tmod 100) := by
        unfold detP; congr 1; funext i
        by_cases e : i = k
        · subst e; simp [Pm.d,Pm.c,vget,Val.toInt,toUI_val]
        · simp only [e,false_and,if_false]; exact Pm.d_c _
      have hW : ∀ i,i < l.1 → Pm.w fun j => if i = k ∧ 4 ≤ j ∧ j < 5 then vget (.cons (.int .i64 (so.1.tmod 100)) .nil) (j - 4) else (l.2 i).c j := fun i _ => by
        by_cases e : i = k
        · subst e; simp only [Pm.w,Pm.c,vget,Val.toInt,true_and,Nat.reduceLeDiff,Nat.reduceLT,Nat.reduceSub,and_false,false_and,if_false,if_true,and_self,Nat.le_refl]; first | (have q := (l.2 i).sex.2; exact ⟨q.1,q.2⟩) | exact (l.2 i).sex.2 | exact ⟨(l.2 i).sex.2,trivial⟩ | exact mV | exact ⟨mV,trivial⟩ | exact ⟨mV.1,mV.2⟩
        · simp only [e,false_and,if_false]; exact of_eq_true (Pm.w_c _)
      have hX : (((l.2 k).sex.1 ≠ 0 ∧ (kn k).sex.1 ≠ 0 ∧ (l.2 k).sex.1 ≠ (kn k).sex.1 ∨ so.1.tmod 100 ≠ 0 ∧ (kn k).sort ≠ 0 ∧ so.1.tmod 100 ≠ (kn k).sort) ∧ knX (detP l k (l.2 k).sex (so.1.tmod 100)) = 71) ∨ (¬ ((l.2 k).sex.1 ≠ 0 ∧ (kn k).sex.1 ≠ 0 ∧ (l.2 k).sex.1 ≠ (kn k).sex.1 ∨ so.1.tmod 100 ≠ 0 ∧ (kn k).sort ≠ 0 ∧ so.1.tmod 100 ≠ (kn k).sort) ∧ knX (detP l k (l.2 k).sex (so.1.tmod 100)) = 0 ∧ knL (detP l k (l.2 k).sex (so.1.tmod 100)) = l.1 ∧ ∀ i,i < l.1 → ((kn i).sex.1 ≠ 0 → (knP (detP l k (l.2 k).sex (so.1.tmod 100)) i).sex.1 = (kn i).sex.1) ∧ ((kn i).sort ≠ 0 → (knP (detP l k (l.2 k).sex (so.1.tmod 100)) i).sort = (kn i).sort)) := by
        by_cases hx : detX l k (l.2 k).sex (so.1.tmod 100)
        · refine .inl ⟨?_,(kn_2 (hD.ok hp) (hD.clash hp hb hx)).1⟩
          unfold detX at hx; rw [hkk.1,hkk.2]; exact hx
        · have hf := hD.free hp hb hx
          refine .inr ⟨?_,(kn_1 (hD.ok hp) hf).1,(kn_1 (hD.ok hp) hf).2.1,fun i hi => ?_⟩
          · unfold detX at hx; rw [hkk.1,hkk.2]; exact hx
          · have q := hD.known hp hb hf hi
            have q1 := kn_sex hp hb hi
            have q2 := kn_sex (hD.ok hp) hf (i := i) hi
            rw [hkn,q1,q2]; exact q
      obtain ⟨x3,hx3⟩ : ∃ x,knX (detP l k (l.2 k).sex (so.1.tmod 100)) = x := ⟨_,rfl⟩
      obtain ⟨n3,hn3⟩ : ∃ x,knL (detP l k (l.2 k).sex (so.1.tmod 100)) = x := ⟨_,rfl⟩
      obtain ⟨kn3,hk3⟩ : ∃ x,knP (detP l k (l.2 k).sex (so.1.tmod 100)) = x := ⟨_,rfl⟩
      rw [hx3,hn3,hk3] at hX
      rw [← hF] at hx3 hn3 hk3
      simp only [hz0,and_false,if_false,↓imp_tt,↓imp_tf,↓imp_ft,↓imp_ff,↓reduceIte,reduceCtorEq,Nat.reduceEqDiff,Nat.reduceAdd,Nat.reduceSub,Nat.reduceLeDiff,Nat.reduceMul,Nat.reduceLT,Int.reduceToNat,Int.reduceLT,Int.reduceLE,Int.reduceEq,Int.reduceNeg,Int.reduceMul,Int.reduceAdd,Int.reduceSub,Int.reduceNe,Int.reduceBEq,Int.reduceBNe,Nat.reducePow,go_sem] at hx3 hn3 hk3
      simp (config := { maxSteps := 300000 }) only [RunTo,a13,sAliveP,sGreat7,sCheck7,sKnU,knU,sSamePm,eg',ep,f0,e1,e2,e3,e4,d1,d2,d3,d4,hsm,y1,w1,w2,hk,fk,pk,s0,t0,hz0,hx3,hn3,hk3,and_false,if_false,Int.toNat_natCast,TU_enc,hw,↓imp_tt,↓imp_tf,↓imp_ft,↓imp_ff,↓reduceIte,reduceCtorEq,Nat.reduceEqDiff,Nat.reduceAdd,Nat.reduceSub,Nat.reduceLeDiff,Nat.reduceMul,Nat.reduceLT,Int.reduceToNat,Int.reduceLT,Int.reduceLE,Int.reduceEq,Int.reduceNeg,Int.reduceMul,Int.reduceAdd,Int.reduceSub,Int.reduceNe,Int.reduceBEq,Int.reduceBNe,Nat.reducePow,go_sem]
      repeat' (first | omega | exact hW | (with_reducible apply And.intro) | intro _)
      all_goals first
        | omega
        | (exfalso; omega)
        | (rcases hX with ⟨h1,h2⟩ | ⟨h1,h2,h3,hq⟩
           · exfalso; omega
           · refine loopI (ι := Nat) (fun i => i ≤ l.1) (fun i => l.1 - i) [9,10,18,193] (fun i => [(194,.int .i64 i)]) (fun _ => []) 0 (Nat.zero_le _) (by simp only [↓imp_tt,↓imp_tf,↓imp_ft,↓imp_ff,↓reduceIte,reduceCtorEq,Nat.reduceEqDiff,Nat.reduceAdd,Nat.reduceSub,Nat.reduceLeDiff,Nat.reduceMul,Nat.reduceLT,Int.reduceToNat,Int.reduceLT,Int.reduceLE,Int.reduceEq,Int.reduceNeg,Int.reduceMul,Int.reduceAdd,Int.reduceSub,Int.reduceNe,Int.reduceBEq,Int.reduceBNe,Nat.reducePow,go_sem]; try simp) fun i hi => ?_
             by_cases il : i < l.1
             · have fi : ((i : Int) < (l.1 : Int)) = True := eq_true (by omega)
               have fn : ((i : Int) < (n3 : Int)) = True := eq_true (by omega)
               have pi : (0 ≤ (i : Int)) = True := eq_true (by omega)
               obtain ⟨qa,qb⟩ := hq i il
               simp only [fi,fn,pi,Int.toNat_natCast,hw,↓imp_tt,↓imp_tf,↓imp_ft,↓imp_ff,↓reduceIte,reduceCtorEq,Nat.reduceEqDiff,Nat.reduceAdd,Nat.reduceSub,Nat.reduceLeDiff,Nat.reduceMul,Nat.reduceLT,Int.reduceToNat,Int.reduceLT,Int.reduceLE,Int.reduceEq,Int.reduceNeg,Int.reduceMul,Int.reduceAdd,Int.reduceSub,Int.reduceNe,Int.reduceBEq,Int.reduceBNe,Nat.reducePow,go_sem]
               repeat' (first | omega | (with_reducible apply And.intro) | intro _)
               all_goals first
                 | omega
                 | (refine inv_intro (i + 1) il (by omega) ?_
                    simp only [↓imp_tt,↓imp_tf,↓imp_ft,↓imp_ff,↓reduceIte,reduceCtorEq,Nat.reduceEqDiff,Nat.reduceAdd,Nat.reduceSub,Nat.reduceLeDiff,Nat.reduceMul,Nat.reduceLT,Int.reduceToNat,Int.reduceLT,Int.reduceLE,Int.reduceEq,Int.reduceNeg,Int.reduceMul,Int.reduceAdd,Int.reduceSub,Int.reduceNe,Int.reduceBEq,Int.reduceBNe,Nat.reducePow,go_sem]
                    exact wrS (by omega))
             · have fn : ((i : Int) < (n3 : Int)) = False := eq_false (by omega)
               simp only [fn,hw,↓imp_tt,↓imp_tf,↓imp_ft,↓imp_ff,↓reduceIte,reduceCtorEq,Nat.reduceEqDiff,Nat.reduceAdd,Nat.reduceSub,Nat.reduceLeDiff,Nat.reduceMul,Nat.reduceLT,Int.reduceToNat,Int.reduceLT,Int.reduceLE,Int.reduceEq,Int.reduceNeg,Int.reduceMul,Int.reduceAdd,Int.reduceSub,Int.reduceNe,Int.reduceBEq,Int.reduceBNe,Nat.reducePow,go_sem])
    · skip
      have hD : DetOk l k (l.2 k).sex (l.2 k).sort := ⟨hkl,fun _ => rfl,fun _ => rfl,hp.sex k hkl,hp.sort k hkl⟩
      have hF : (l.1,fun i => Pm.d fun j => (l.2 i).c j) = detP l k (l.2 k).sex (l.2 k).sort := by
        unfold detP; congr 1; funext i
        by_cases e : i = k
        · subst e; rw [if_pos rfl]; exact Pm.d_c _
        · simp only [e,false_and,if_false]; exact Pm.d_c _
      have hX : (((l.2 k).sex.1 ≠ 0 ∧ (kn k).sex.1 ≠ 0 ∧ (l.2 k).sex.1 ≠ (kn k).sex.1 ∨ (l.2 k).sort ≠ 0 ∧ (kn k).sort ≠ 0 ∧ (l.2 k).sort ≠ (kn k).sort) ∧ knX (detP l k (l.2 k).sex (l.2 k).sort) = 71) ∨ (¬ ((l.2 k).sex.1 ≠ 0 ∧ (kn k).sex.1 ≠ 0 ∧ (l.2 k).sex.1 ≠ (kn k).sex.1 ∨ (l.2 k).sort ≠ 0 ∧ (kn k).sort ≠ 0 ∧ (l.2 k).sort ≠ (kn k).sort) ∧ knX (detP l k (l.2 k).sex (l.2 k).sort) = 0 ∧ knL (detP l k (l.2 k).sex (l.2 k).sort) = l.1 ∧ ∀ i,i < l.1 → ((kn i).sex.1 ≠ 0 → (knP (detP l k (l.2 k).sex (l.2 k).sort) i).sex.1 = (kn i).sex.1) ∧ ((kn i).sort ≠ 0 → (knP (detP l k (l.2 k).sex (l.2 k).sort) i).sort = (kn i).sort)) := by
        by_cases hx : detX l k (l.2 k).sex (l.2 k).sort
        · refine .inl ⟨?_,(kn_2 (hD.ok hp) (hD.clash hp hb hx)).1⟩
          unfold detX at hx; rw [hkk.1,hkk.2]; exact hx
        · have hf := hD.free hp hb hx
          refine .inr ⟨?_,(kn_1 (hD.ok hp) hf).1,(kn_1 (hD.ok hp) hf).2.1,fun i hi => ?_⟩
          · unfold detX at hx; rw [hkk.1,hkk.2]; exact hx
          · have q := hD.known hp hb hf hi
            have q1 := kn_sex hp hb hi
            have q2 := kn_sex (hD.ok hp) hf (i := i) hi
            rw [hkn,q1,q2]; exact q
      have hS : detP l k (l.2 k).sex (l.2 k).sort = l := by
        rw [← hF]; exact Prod.ext rfl (funext fun i => Pm.d_c _)
      rw [hS] at hX
      rw [e1,e2,e4] at hX
      simp (config := { maxSteps := 300000 }) only [RunTo,a13,sAliveP,sGreat7,sCheck7,sKnU,knU,sSamePm,eg',ep,f0,e1,e2,e3,e4,d1,d2,d3,d4,hsm,y1,w1,w2,hk,fk,pk,s0,t0,hz0,and_false,if_false,Int.toNat_natCast,TU_enc,hw,↓imp_tt,↓imp_tf,↓imp_ft,↓imp_ff,↓reduceIte,reduceCtorEq,Nat.reduceEqDiff,Nat.reduceAdd,Nat.reduceSub,Nat.reduceLeDiff,Nat.reduceMul,Nat.reduceLT,Int.reduceToNat,Int.reduceLT,Int.reduceLE,Int.reduceEq,Int.reduceNeg,Int.reduceMul,Int.reduceAdd,Int.reduceSub,Int.reduceNe,Int.reduceBEq,Int.reduceBNe,Nat.reducePow,go_sem]
      repeat' (first | omega | exact hW | (with_reducible apply And.intro) | intro _)
      all_goals first
        | omega
        | (exfalso; omega)
        | (rcases hX with ⟨h1,h2⟩ | ⟨h1,h2,h3,hq⟩
           · exfalso; omega
           · refine loopI (ι := Nat) (fun i => i ≤ l.1) (fun i => l.1 - i) [9,10,18,193] (fun i => [(194,.int .i64 i)]) (fun _ => []) 0 (Nat.zero_le _) (by simp only [↓imp_tt,↓imp_tf,↓imp_ft,↓imp_ff,↓reduceIte,reduceCtorEq,Nat.reduceEqDiff,Nat.reduceAdd,Nat.reduceSub,Nat.reduceLeDiff,Nat.reduceMul,Nat.reduceLT,Int.reduceToNat,Int.reduceLT,Int.reduceLE,Int.reduceEq,Int.reduceNeg,Int.reduceMul,Int.reduceAdd,Int.reduceSub,Int.reduceNe,Int.reduceBEq,Int.reduceBNe,Nat.reducePow,go_sem]; try simp) fun i hi => ?_
             by_cases il : i < l.1
             · have fi : ((i : Int) < (l.1 : Int)) = True := eq_true (by omega)
               have fn : ((i : Int) < (l.1 : Int)) = True := eq_true (by omega)
               have pi : (0 ≤ (i : Int)) = True := eq_true (by omega)
               obtain ⟨qa,qb⟩ := hq i il
               simp only [fi,fn,pi,Int.toNat_natCast,hw,↓imp_tt,↓imp_tf,↓imp_ft,↓imp_ff,↓reduceIte,reduceCtorEq,Nat.reduceEqDiff,Nat.reduceAdd,Nat.reduceSub,Nat.reduceLeDiff,Nat.reduceMul,Nat.reduceLT,Int.reduceToNat,Int.reduceLT,Int.reduceLE,Int.reduceEq,Int.reduceNeg,Int.reduceMul,Int.reduceAdd,Int.reduceSub,Int.reduceNe,Int.reduceBEq,Int.reduceBNe,Nat.reducePow,go_sem]
               repeat' (first | omega | (with_reducible apply And.intro) | intro _)
               all_goals first
                 | omega
                 | (refine inv_intro (i + 1) il (by omega) ?_
                    simp only [↓imp_tt,↓imp_tf,↓imp_ft,↓imp_ff,↓reduceIte,reduceCtorEq,Nat.reduceEqDiff,Nat.reduceAdd,Nat.reduceSub,Nat.reduceLeDiff,Nat.reduceMul,Nat.reduceLT,Int.reduceToNat,Int.reduceLT,Int.reduceLE,Int.reduceEq,Int.reduceNeg,Int.reduceMul,Int.reduceAdd,Int.reduceSub,Int.reduceNe,Int.reduceBEq,Int.reduceBNe,Nat.reducePow,go_sem]
                    exact wrS (by omega))
             · have fn : ((i : Int) < (l.1 : Int)) = False := eq_false (by omega)
               simp only [fn,hw,↓imp_tt,↓imp_tf,↓imp_ft,↓imp_ff,↓reduceIte,reduceCtorEq,Nat.reduceEqDiff,Nat.reduceAdd,Nat.reduceSub,Nat.reduceLeDiff,Nat.reduceMul,Nat.reduceLT,Int.reduceToNat,Int.reduceLT,Int.reduceLE,Int.reduceEq,Int.reduceNeg,Int.reduceMul,Int.reduceAdd,Int.reduceSub,Int.reduceNe,Int.reduceBEq,Int.reduceBNe,Nat.reducePow,go_sem])
end Go.Proofs.Ytlapepdhkomijaa
