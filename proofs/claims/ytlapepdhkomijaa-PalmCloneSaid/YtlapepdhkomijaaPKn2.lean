/- Palms: what is known is told, and contradicts nothing that is told. No condition. -/
import Derived.Test.YtlapepdhkomijaaPFlw
import Derived.Test.YtlapepdhkomijaaPProg1
import Derived.Test.YtlapepdhkomijaaPNet
set_option linter.unusedSimpArgs false
set_option linter.unusedVariables false
namespace Go.Proofs.Ytlapepdhkomijaa
open Go Go.RowKit
theorem sel_surj {p : Nat → Bool} : ∀ {n k : Nat},k < n → p k = true → ∃ j,j < cntN p n ∧ selN p n j = k := by
 intro n
 induction n with
 | zero => intro k hk; exact absurd hk (Nat.not_lt_zero _)
 | succ n ih =>
  intro k hk hp
  by_cases e : k = n
  ·subst e
   exact ⟨cntN p k,by simp only [cntN,hp,if_true]; omega,by simp [selN,hp]⟩
  ·obtain ⟨j,h1,h2⟩ := ih (k := k) (by omega) hp
   refine ⟨j,?_,?_⟩
   ·simp only [cntN]; omega
   ·simp only [selN]; rw [if_neg fun e => by omega]; exact h2
def GdV (p : Nat → Bool) (f : Nat → Int) (n : Nat) (v : Int) : Prop := (v = 0 ∨ ∃ k,k < n ∧ p k = true ∧ f k = v) ∧ ∀ k,k < n → p k = true → f k = 0 ∨ f k = v
theorem GdV.eq {p : Nat → Bool} {f : Nat → Int} {n : Nat} {v v' : Int} (h : GdV p f n v) (h' : GdV p f n v') : v = v' := by
 obtain ⟨h1,h2⟩ := h
 obtain ⟨h3,h4⟩ := h'
 rcases h1 with h1 | ⟨k,k1,k2,k3⟩
 ·rcases h3 with h3 | ⟨k,k1,k2,k3⟩
  ·omega
  ·have := h2 k k1 k2; omega
 ·have := h4 k k1 k2
  rcases h3 with h3 | ⟨k',g1,g2,g3⟩
  ·omega
  ·have := h2 k' g1 g2; omega
theorem mx_all (p : Nat → Bool) (f : Nat → Int) (x : Int) : ∀ m : Nat,(mxF p f m x = x ∨ ∃ k,k < m ∧ p k = true ∧ f k = mxF p f m x) ∧ x ≤ mxF p f m x ∧ ∀ k,k < m → p k = true → f k ≤ mxF p f m x := by
 intro m
 induction m with
 | zero => exact ⟨.inl rfl,Int.le_refl _,fun k hk => absurd hk (Nat.not_lt_zero _)⟩
 | succ m ih =>
  obtain ⟨h1,h2,h3⟩ := ih
  simp only [mxF]
  split
  ·rename_i hp
   generalize mxF p f m x = y at *
   refine ⟨?_,by omega,fun k hk hpk => ?_⟩
   ·rcases Int.le_total y (f m) with h | h
    ·exact .inr ⟨m,by omega,hp,by omega⟩
    ·rcases h1 with h1 | ⟨k,k1,k2,k3⟩
     ·exact .inl (by omega)
     ·exact .inr ⟨k,by omega,k2,by omega⟩
   ·by_cases e : k = m
    ·subst e; omega
    ·have := h3 k (by omega) hpk; omega
  ·rename_i hp
   refine ⟨?_,h2,fun k hk hpk => ?_⟩
   ·rcases h1 with h1 | ⟨k,k1,k2,k3⟩
    ·exact .inl h1
    ·exact .inr ⟨k,by omega,k2,k3⟩
   ·by_cases e : k = m
    ·subst e; exact absurd hpk hp
    ·exact h3 k (by omega) hpk
theorem mx_gd {p : Nat → Bool} {f : Nat → Int} {n : Nat} (c : ∀ a b,a < n → b < n → p a = true → p b = true → f a = 0 ∨ f b = 0 ∨ f a = f b) (h0 : ∀ k,k < n → 0 ≤ f k) {i : Nat} (hi : i < n) (hp : p i = true) : GdV p f n (mxF p f n (f i)) := by
 obtain ⟨h1,h2,h3⟩ := mx_all p f (f i) n
 have ⟨k0,k1,k2,k3⟩ : ∃ k,k < n ∧ p k = true ∧ f k = mxF p f n (f i) := by
  rcases h1 with h1 | h1
  ·exact ⟨i,hi,hp,h1.symm⟩
  ·exact h1
 refine ⟨.inr ⟨k0,k1,k2,k3⟩,fun k hk hpk => ?_⟩
 have g1 := c k k0 hk k1 hpk k2
 have g2 := h0 k hk
 have g3 := h3 k hk hpk
 omega
theorem cln_self (l : Pms) (i : Nat) : clnB l i i = true := decide_eq_true rfl
theorem cln_tr {l : Pms} {i a b : Nat} (h1 : clnB l i a = true) (h2 : clnB l i b = true) : clnB l a b = true := decide_eq_true (by rw [of_decide_eq_true h1,of_decide_eq_true h2])
theorem bad_no {l : Pms} (h : ¬ badI l < l.1) {i k : Nat} (hi : i < l.1) (hk : k < i) (hc : clnB l i k = true) : ¬ ctrP l i k := by
 rcases fstI_spec (fun i => ∃ k,k < i ∧ clnB l i k = true ∧ ctrP l i k) l.1 with ⟨h1,_⟩ | ⟨_,h2⟩
 ·exact absurd h1 h
 ·exact fun hp => h2 i hi ⟨k,hk,hc,hp⟩
theorem bad_cons {l : Pms} (h : ¬ badI l < l.1) {i a b : Nat} (ha : a < l.1) (hb : b < l.1) (h1 : clnB l i a = true) (h2 : clnB l i b = true) :
  ((l.2 a).sex.1 = 0 ∨ (l.2 b).sex.1 = 0 ∨ (l.2 a).sex.1 = (l.2 b).sex.1) ∧ ((l.2 a).sort = 0 ∨ (l.2 b).sort = 0 ∨ (l.2 a).sort = (l.2 b).sort) := by
 rcases Nat.lt_trichotomy a b with e | e | e
 ·have := bad_no h hb e (cln_tr h2 h1)
  unfold ctrP at this; omega
 ·subst e; exact ⟨.inr (.inr rfl),.inr (.inr rfl)⟩
 ·have := bad_no h ha e (cln_tr h1 h2)
  unfold ctrP at this; omega
theorem sex_gd {l : Pms} (h : ¬ badI l < l.1) {i : Nat} (hi : i < l.1) : GdV (clnB l i) (fun k => (l.2 k).sex.1) l.1 (sexF l i) :=
 mx_gd (f := fun k => (l.2 k).sex.1) (fun _ _ ha hb h1 h2 => (bad_cons h ha hb h1 h2).1) (fun k _ => (l.2 k).sex.2.1) hi (cln_self l i)
theorem sort_gd {l : Pms} (hl : PmsOk l) (h : ¬ badI l < l.1) {i : Nat} (hi : i < l.1) : GdV (clnB l i) (fun k => (l.2 k).sort) l.1 (sortF l i) :=
 mx_gd (f := fun k => (l.2 k).sort) (fun _ _ ha hb h1 h2 => (bad_cons h ha hb h1 h2).2) (fun k hk => (hl.sort k hk).1) hi (cln_self l i)
def GdL (p : Nat → Bool) (f : Nat → Int) (n j : Nat) (v : Int) : Prop := (v = 0 ∨ ∃ k,k < n ∧ p k = true ∧ f k = v) ∧ ∀ j',j' < j → f (selN p n j') = 0 ∨ f (selN p n j') = v
theorem GdL.step {p : Nat → Bool} {f : Nat → Int} {n j : Nat} {v : Int} (c : ∀ a b,a < n → b < n → p a = true → p b = true → f a = 0 ∨ f b = 0 ∨ f a = f b) (h : GdL p f n j v) (hj : j < cntN p n) : GdL p f n (j + 1) (if f (selN p n j) = 0 then v else f (selN p n j)) := by
 obtain ⟨h1,h2⟩ := h
 obtain ⟨s1,s2⟩ := selN_lt hj
 split
 ·rename_i e
  refine ⟨h1,fun j' hj' => ?_⟩
  by_cases e2 : j' = j
  ·subst e2; exact .inl e
  ·exact h2 j' (by omega)
 ·rename_i e
  refine ⟨.inr ⟨_,s1,s2,rfl⟩,fun j' hj' => ?_⟩
  by_cases e2 : j' = j
  ·subst e2; exact .inr rfl
  ·obtain ⟨t1,t2⟩ := selN_lt (p := p) (n := n) (j := j') (by omega)
   have := c _ _ t1 s1 t2 s2
   omega
theorem GdL.all {p : Nat → Bool} {f : Nat → Int} {n : Nat} {v : Int} (h : GdL p f n (cntN p n) v) : GdV p f n v := by
 refine ⟨h.1,fun k hk hp => ?_⟩
 obtain ⟨j,h1,h2⟩ := sel_surj hk hp
 have := h.2 j h1
 rw [h2] at this; exact this
def knV (l : Pms) (sx : Nat → UI .u8) (so : Nat → Int) (i : Nat) : Pm := ⟨(l.2 i).id,(l.2 i).mother,(l.2 i).planted,sx i,so i⟩
end Go.Proofs.Ytlapepdhkomijaa
namespace Go.Proofs.Ytlapepdhkomijaa
open Go Go.RowKit
variable {G : Nat → Option (Nat × (Nat → Val))}
theorem mulS {a b : Int} (ha : 0 ≤ a ∧ a ≤ 2) (hb : 0 ≤ b ∧ b ≤ 2) : (0 < IntKind.u8.wrap (a * b)) = (a ≠ 0 ∧ b ≠ 0) := by
 have h1 : a = 0 ∨ a = 1 ∨ a = 2 := by omega
 have h2 : b = 0 ∨ b = 1 ∨ b = 2 := by omega
 rcases h1 with rfl | rfl | rfl <;> rcases h2 with rfl | rfl | rfl <;> decide
theorem mulT {a b : Int} (ha : 0 ≤ a ∧ a ≤ 99) (hb : 0 ≤ b ∧ b ≤ 99) : (0 < IntKind.i64.wrap (a * b)) = (a ≠ 0 ∧ b ≠ 0) := by
 have h0 : 0 ≤ a * b := Int.mul_nonneg ha.1 hb.1
 have h1 : a * b ≤ 99 * 99 := Int.mul_le_mul ha.2 hb.2 hb.1 (by decide)
 rw [wr64 (by omega) (by omega)]
 refine propext ⟨fun h => ⟨fun e => ?_,fun e => ?_⟩,fun ⟨e1,e2⟩ => Int.mul_pos (by omega) (by omega)⟩
 ·rw [e,Int.zero_mul] at h; omega
 ·rw [e,Int.mul_zero] at h; omega
set_option maxHeartbeats 4000000 in
set_option maxRecDepth 100000 in
theorem pKnownP : PureOk Try.prog G 15 sKnown7 := by
  refine fn1 (S := [(19,sCheck7),(48,sClonesP)]) (I := [(47,a47)]) mixed (.cons pPalmCheck (.cons pClonesP .nil)) (.cons Try.func47 c47 .nil) Try.func15 c15 fun l _ hw => ?_
  simp only [Nat.reduceSub,Nat.reducePow,go_sem] at hw
  by_cases hp : PmsOk l
  · have ep := pmE_ok hp
    rw [if_pos ep]
    have hn24 := hp.n
    have hpt : PmsOk l = True := eq_true hp
    simp only [RunTo,a15,a47,sCheck7,ep,hw,↓imp_ft,↓imp_ff,↓reduceIte,reduceCtorEq,Nat.reduceEqDiff,Nat.reduceAdd,Nat.reduceSub,Nat.reduceLT,Nat.reducePow,go_sem]
    refine fun t ht => ⟨fun e => ?_,fun e => ⟨by omega,?_⟩⟩
    · have h0 : l.1 = 0 := by
        rcases Nat.eq_zero_or_pos l.1 with h | h
        · exact h
        · have := ht (by omega); rw [e] at this; cases this
      rw [if_neg (by omega)]
      refine loopI (ι := Unit) (fun _ => True) (fun _ => 0) [0,2,18,19,20] (fun _ => []) (fun _ => []) () trivial (by simp only [↓reduceIte,reduceCtorEq,Nat.reduceEqDiff,go_sem]; try simp) fun _ _ => ?_
      simp only [h0,↓imp_ft,↓imp_ff,↓reduceIte,reduceCtorEq,Nat.reduceEqDiff,Nat.reduceAdd,Int.reduceLT,go_sem]
    · refine loopI (ι := Nat × (Nat → UI .u8) × (Nat → Int)) (fun q => q.1 ≤ l.1 ∧ (∀ i',i' < q.1 → ¬ ∃ k,k < i' ∧ clnB l i' k = true ∧ ctrP l i' k) ∧ (¬ badI l < l.1 → ∀ a,a < q.1 → (q.2.1 a).1 = sexF l a ∧ q.2.2 a = sortF l a) ∧ ∀ a,a < l.1 → q.1 ≤ a → q.2.1 a = (l.2 a).sex ∧ q.2.2 a = (l.2 a).sort) (fun q => l.1 - q.1) [0,18,19,2] (fun q => [(20,.int .i64 q.1)])
        (fun q => [(0,.row 43 5 l.1 fun a b => (knV l q.2.1 q.2.2 a).c b)]) (0,(fun a => (l.2 a).sex),fun a => (l.2 a).sort) ⟨Nat.zero_le _,fun i hi => absurd hi (Nat.not_lt_zero _),fun _ a ha => absurd ha (Nat.not_lt_zero _),fun a _ _ => ⟨rfl,rfl⟩⟩ (by
          simp only [↓reduceIte,reduceCtorEq,Nat.reduceEqDiff,Nat.reduceLT,go_sem]
          intro a ha b hb
          rw [if_neg (Nat.not_lt_zero _)]
          match b,hb with
          | 0,_ | 1,_ | 2,_ | 3,_ | 4,_ => exact rfl) fun q hq => ?_
      obtain ⟨i,sx,so⟩ := q
      obtain ⟨hi1,hi2,hi3,hi4⟩ := hq
      simp only at hi1 hi2 hi3 hi4
      by_cases hil : i < l.1
      · have fi : ((i : Int) < (l.1 : Int)) = True := eq_true (by omega)
        have pi1 : (0 ≤ (i : Int)) = True := eq_true (by omega)
        have hcn := cntN_le (clnB l i) l.1
        simp only [fi,pi1,hpt,sClonesP,Int.toNat_natCast,hw,↓imp_tt,↓imp_tf,↓reduceIte,reduceCtorEq,Nat.reduceEqDiff,Nat.reduceAdd,Nat.reduceSub,Nat.reducePow,go_sem]
        intro _
        refine loopI (ι := Nat × UI .u8 × Int) (fun q => q.1 ≤ cntN (clnB l i) l.1 ∧ (∀ j',j' < q.1 → selN (clnB l i) l.1 j' < i → ¬ ctrP l i (selN (clnB l i) l.1 j')) ∧ (¬ badI l < l.1 → GdL (clnB l i) (fun k => (l.2 k).sex.1) l.1 q.1 q.2.1.1 ∧ GdL (clnB l i) (fun k => (l.2 k).sort) l.1 q.1 q.2.2)) (fun q => cntN (clnB l i) l.1 - q.1) [0,2,6,7,18,19,20,27,28] (fun q => [(29,.int .i64 q.1)])
          (fun q => [(0,.row 43 5 l.1 fun a b => (knV l (fun a => if a = i then q.2.1 else sx a) (fun a => if a = i then q.2.2 else so a) a).c b)]) (0,(l.2 i).sex,(l.2 i).sort) ⟨Nat.zero_le _,fun j hj => absurd hj (Nat.not_lt_zero _),fun _ => ⟨⟨.inr ⟨i,hil,cln_self l i,rfl⟩,fun j hj => absurd hj (Nat.not_lt_zero _)⟩,⟨.inr ⟨i,hil,cln_self l i,rfl⟩,fun j hj => absurd hj (Nat.not_lt_zero _)⟩⟩⟩ (by
            simp only [↓reduceIte,reduceCtorEq,Nat.reduceEqDiff,Nat.reduceLT,go_sem]
            intro a ha b hb
            obtain ⟨g1,g2⟩ := hi4 i hil (Nat.le_refl _)
            by_cases e : a = i
            · subst e; simp only [knV,if_true,g1,g2]; rw [vsubP_self]; trivial
            · simp only [knV,if_neg e]; rw [vsubP_self]; trivial) fun q hq => ?_
        obtain ⟨j,v,s⟩ := q
        obtain ⟨hj1,hj2,hj3⟩ := hq
        simp only at hj1 hj2 hj3
        by_cases hjc : j < cntN (clnB l i) l.1
        · have fj : ((j : Int) < (cntN (clnB l i) l.1 : Int)) = True := eq_true (by omega)
          obtain ⟨sl1,sl2⟩ := selN_lt hjc
          generalize hk : selN (clnB l i) l.1 j = k at *
          have fk : ((k : Int) < (l.1 : Int)) = True := eq_true (by omega)
          have m1 := mulS (a := (l.2 i).sex.1) (b := (l.2 k).sex.1) ⟨(l.2 i).sex.2.1,hp.sex i hil⟩ ⟨(l.2 k).sex.2.1,hp.sex k sl1⟩
          have m2 := mulT (hp.sort i hil) (hp.sort k sl1)
          by_cases hc : k < i ∧ ctrP l i k
          · have hbe : badI l = i := fstI_at hil ⟨k,hc.1,sl2,hc.2⟩ hi2
            rw [if_pos (by omega),hbe]
            unfold ctrP at hc
            simp only [fj,fk,fi,pi1,hk,m1,m2,hw,↓imp_tt,↓imp_tf,↓imp_ft,↓imp_ff,↓reduceIte,reduceCtorEq,Nat.reduceEqDiff,Nat.reduceAdd,Nat.reduceSub,Nat.reduceLeDiff,Nat.reducePow,go_sem]
            repeat' (first | omega | (with_reducible apply And.intro) | intro _)
          · have hnew : j + 1 ≤ cntN (clnB l i) l.1 ∧ (∀ j',j' < j + 1 → selN (clnB l i) l.1 j' < i → ¬ ctrP l i (selN (clnB l i) l.1 j')) ∧ (¬ badI l < l.1 → GdL (clnB l i) (fun k => (l.2 k).sex.1) l.1 (j + 1) (if (l.2 k).sex.1 = 0 then v else (l.2 k).sex).1 ∧ GdL (clnB l i) (fun k => (l.2 k).sort) l.1 (j + 1) (if (l.2 k).sort = 0 then s else (l.2 k).sort)) := by
              refine ⟨hjc,fun j' hj' => ?_,fun hb => ?_⟩
              · by_cases e : j' = j
                · subst e; rw [hk]; exact fun h1 h2 => hc ⟨h1,h2⟩
                · exact hj2 j' (by omega)
              · have g1 := (hj3 hb).1.step (fun _ _ ha hb' h1 h2 => (bad_cons hb ha hb' h1 h2).1) hjc
                have g2 := (hj3 hb).2.step (fun _ _ ha hb' h1 h2 => (bad_cons hb ha hb' h1 h2).2) hjc
                simp only [hk] at g1 g2
                refine ⟨?_,g2⟩
                split <;> simp_all
            have hnc := hc
            unfold ctrP at hnc
            by_cases z1 : (l.2 k).sex.1 = 0
            · by_cases z2 : (l.2 k).sort = 0
              · have y1 : ((l.2 k).sex.1 = 0) = True := eq_true z1
                have y2 : ((l.2 k).sort = 0) = True := eq_true z2
                simp only [fj,fk,fi,pi1,hk,m1,m2,y1,y2,and_false,false_implies,hw,↓imp_tt,↓imp_tf,↓imp_ft,↓imp_ff,↓reduceIte,reduceCtorEq,Nat.reduceEqDiff,Nat.reduceAdd,Nat.reduceSub,Nat.reduceLeDiff,Nat.reducePow,go_sem]
                repeat' (first | omega | (with_reducible apply And.intro) | intro _)
                all_goals first
                  | (exfalso; omega)
                  | (refine inv_intro (j + 1,(if (l.2 k).sex.1 = 0 then v else (l.2 k).sex),if (l.2 k).sort = 0 then s else (l.2 k).sort) hnew (by simp only; omega) ?_
                     simp only [y1,y2,↓reduceIte,reduceCtorEq,Nat.reduceEqDiff,Nat.reduceLT,go_sem]
                     first
                       | exact wrS (by omega)
                       | (refine ⟨wrS (by omega),fun a ha b hb => ?_⟩
                          by_cases e : a = i
                          · subst e
                            match b,hb with
                            | 0,_ | 1,_ | 2,_ | 3,_ | 4,_ => simp [knV,Pm.c,vget,vsubP_self]
                          · simp [knV,e,vsubP_self]))
                  | (rename_i h _; exact h.2.elim)
              · have y1 : ((l.2 k).sex.1 = 0) = True := eq_true z1
                have y2 : ((l.2 k).sort = 0) = False := eq_false z2
                simp only [fj,fk,fi,pi1,hk,m1,m2,y1,y2,and_false,false_implies,hw,↓imp_tt,↓imp_tf,↓imp_ft,↓imp_ff,↓reduceIte,reduceCtorEq,Nat.reduceEqDiff,Nat.reduceAdd,Nat.reduceSub,Nat.reduceLeDiff,Nat.reducePow,go_sem]
                repeat' (first | omega | (with_reducible apply And.intro) | intro _)
                all_goals first
                  | (exfalso; omega)
                  | (refine inv_intro (j + 1,(if (l.2 k).sex.1 = 0 then v else (l.2 k).sex),if (l.2 k).sort = 0 then s else (l.2 k).sort) hnew (by simp only; omega) ?_
                     simp only [y1,y2,↓reduceIte,reduceCtorEq,Nat.reduceEqDiff,Nat.reduceLT,go_sem]
                     first
                       | exact wrS (by omega)
                       | (refine ⟨wrS (by omega),fun a ha b hb => ?_⟩
                          by_cases e : a = i
                          · subst e
                            match b,hb with
                            | 0,_ | 1,_ | 2,_ | 3,_ | 4,_ => simp [knV,Pm.c,vget,vsubP_self]
                          · simp [knV,e,vsubP_self]))
                  | (rename_i h _; exact h.2.elim)
            · by_cases z2 : (l.2 k).sort = 0
              · have y1 : ((l.2 k).sex.1 = 0) = False := eq_false z1
                have y2 : ((l.2 k).sort = 0) = True := eq_true z2
                simp only [fj,fk,fi,pi1,hk,m1,m2,y1,y2,and_false,false_implies,hw,↓imp_tt,↓imp_tf,↓imp_ft,↓imp_ff,↓reduceIte,reduceCtorEq,Nat.reduceEqDiff,Nat.reduceAdd,Nat.reduceSub,Nat.reduceLeDiff,Nat.reducePow,go_sem]
                repeat' (first | omega | (with_reducible apply And.intro) | intro _)
                all_goals first
                  | (exfalso; omega)
                  | (refine inv_intro (j + 1,(if (l.2 k).sex.1 = 0 then v else (l.2 k).sex),if (l.2 k).sort = 0 then s else (l.2 k).sort) hnew (by simp only; omega) ?_
                     simp only [y1,y2,↓reduceIte,reduceCtorEq,Nat.reduceEqDiff,Nat.reduceLT,go_sem]
                     first
                       | exact wrS (by omega)
                       | (refine ⟨wrS (by omega),fun a ha b hb => ?_⟩
                          by_cases e : a = i
                          · subst e
                            match b,hb with
                            | 0,_ | 1,_ | 2,_ | 3,_ | 4,_ => simp [knV,Pm.c,vget,vsubP_self]
                          · simp [knV,e,vsubP_self]))
                  | (rename_i h _; exact h.2.elim)
              · have y1 : ((l.2 k).sex.1 = 0) = False := eq_false z1
                have y2 : ((l.2 k).sort = 0) = False := eq_false z2
                simp only [fj,fk,fi,pi1,hk,m1,m2,y1,y2,false_implies,hw,↓imp_tt,↓imp_tf,↓imp_ft,↓imp_ff,↓reduceIte,reduceCtorEq,Nat.reduceEqDiff,Nat.reduceAdd,Nat.reduceSub,Nat.reduceLeDiff,Nat.reducePow,go_sem]
                repeat' (first | omega | (with_reducible apply And.intro) | intro _)
                all_goals first
                  | (exfalso; omega)
                  | (refine inv_intro (j + 1,(if (l.2 k).sex.1 = 0 then v else (l.2 k).sex),if (l.2 k).sort = 0 then s else (l.2 k).sort) hnew (by simp only; omega) ?_
                     simp only [y1,y2,↓reduceIte,reduceCtorEq,Nat.reduceEqDiff,Nat.reduceLT,go_sem]
                     first
                       | exact wrS (by omega)
                       | (refine ⟨wrS (by omega),fun a ha b hb => ?_⟩
                          by_cases e : a = i
                          · subst e
                            match b,hb with
                            | 0,_ | 1,_ | 2,_ | 3,_ | 4,_ => simp [knV,Pm.c,vget,vsubP_self]
                          · simp [knV,e,vsubP_self]))
                  | (rename_i h _; exact h.2.elim)
        · have fj : ((j : Int) < (cntN (clnB l i) l.1 : Int)) = False := eq_false (by omega)
          obtain rfl : j = cntN (clnB l i) l.1 := by omega
          simp only [fj,↓imp_ft,↓imp_ff,↓reduceIte,reduceCtorEq,Nat.reduceEqDiff,go_sem]
          refine inv_intro (i + 1,(fun a => if a = i then v else sx a),fun a => if a = i then s else so a) ⟨hil,fun i' hi' => ?_,fun hb a ha => ?_,fun a ha hia => ?_⟩ (by simp only; omega) ?_
          · by_cases e : i' = i
            · subst e
              rintro ⟨k,h1,h2,h3⟩
              obtain ⟨j,g1,g2⟩ := sel_surj (p := clnB l i') (n := l.1) (k := k) (by omega) h2
              have := hj2 j g1
              rw [g2] at this
              exact this h1 h3
            · exact hi2 i' (by omega)
          · simp only
            by_cases e : a = i
            · subst e
              rw [if_pos rfl,if_pos rfl]
              exact ⟨(hj3 hb).1.all.eq (sex_gd hb hil),(hj3 hb).2.all.eq (sort_gd hp hb hil)⟩
            · rw [if_neg e,if_neg e]; exact hi3 hb a (by simp only at ha; omega)
          · simp only at hia ⊢
            rw [if_neg (by omega),if_neg (by omega)]; exact hi4 a ha (by omega)
          · simp only [↓reduceIte,reduceCtorEq,Nat.reduceEqDiff,Nat.reduceLT,go_sem]
            exact wrS (by omega)
      · have fi : ((i : Int) < (l.1 : Int)) = False := eq_false (by omega)
        obtain rfl : i = l.1 := by omega
        have hbad : ¬ badI l < l.1 := by unfold badI; rw [fstI_no fun j hj => hi2 j hj]; exact Nat.lt_irrefl _
        rw [if_neg hbad]
        simp only [fi,↓imp_ft,↓imp_ff,↓reduceIte,reduceCtorEq,Nat.reduceEqDiff,Nat.reduceAdd,go_sem]
        intro a ha b hb
        obtain ⟨g1,g2⟩ := hi3 hbad a ha
        have hse : toUI .u8 (sexF l a) = sx a := by rw [← g1]; exact Subtype.ext (toUI_in (sx a).2)
        unfold knP knV
        rw [hse,g2,vsubP_self]; trivial
  · have ep := pmE_no hp
    rw [if_neg (by rw [ep]; decide)]
    simp only [RunTo,a15,sCheck7,ep,hw,↓imp_tt,↓imp_tf,↓reduceIte,reduceCtorEq,Nat.reduceEqDiff,Nat.reduceAdd,Nat.reduceSub,Int.reduceBNe,Nat.reducePow,go_sem]
end Go.Proofs.Ytlapepdhkomijaa
namespace Go.Proofs.Ytlapepdhkomijaa
open Go Go.RowKit
variable {G : Nat → Option (Nat × (Nat → Val))}
def dayL (w : Wk) : Val := .cons (.int .i64 w.day) (.cons (.view 3 w.spathes.1 fun a b => (w.spathes.2 a).c b) (.cons (.view 1 w.hours.1 fun a b => .int .i64 (w.hours.2 a)) (.cons (.view 4 w.lots.1 fun a b => (w.lots.2 a).c b) (.cons (.int .i64 w.opn) .nil))))
noncomputable def sOpen : Spec := spec2 (TSl RPm) TWk (fun _ _ => True) fun l w => if workE l w = 0 then .tup (.cons (.agg (dayL w)) (.cons (.int .i64 0) .nil)) else .tup (.cons (.agg (.cons (.int .i64 0) (.cons .nils (.cons .nils (.cons .nils (.cons (.int .i64 0) .nil)))))) (.cons (.int .i64 (workE l w)) .nil))
def WBase (w : Wk) : Prop := (0 ≤ w.day ∧ w.day ≤ 100000) ∧ (1 ≤ w.opn ∧ w.opn ≤ 500) ∧ w.spathes.1 ≤ 8 ∧ w.hours.1 ≤ 16 ∧ w.lots.1 ≤ 4
def RB1 (k : Pms) (w : Wk) (i : Nat) : Prop := WBase w ∧ ∀ i',i' < i → SpOk k w.day (w.spathes.2 i')
def RB2 (k : Pms) (w : Wk) (i : Nat) : Prop := RB1 k w w.spathes.1 ∧ ∀ i',i' < i → LtOk k w.day (w.lots.2 i')
def RB3 (k : Pms) (w : Wk) (i : Nat) : Prop := RB2 k w w.lots.1 ∧ ∀ i',i' < i → HrOk w.hours i'
theorem RB1.step {k : Pms} {w : Wk} {i : Nat} : RB1 k w (i + 1) ↔ RB1 k w i ∧ SpOk k w.day (w.spathes.2 i) :=
 ⟨fun h => ⟨⟨h.1,fun i' hi => h.2 i' (by omega)⟩,h.2 i (by omega)⟩,fun h => ⟨h.1.1,fun i' hi => (Nat.lt_or_ge i' i).elim (fun h1 => h.1.2 i' h1) fun h1 => by
  obtain rfl : i' = i := by omega
  exact h.2⟩⟩
theorem RB2.step {k : Pms} {w : Wk} {i : Nat} : RB2 k w (i + 1) ↔ RB2 k w i ∧ LtOk k w.day (w.lots.2 i) :=
 ⟨fun h => ⟨⟨h.1,fun i' hi => h.2 i' (by omega)⟩,h.2 i (by omega)⟩,fun h => ⟨h.1.1,fun i' hi => (Nat.lt_or_ge i' i).elim (fun h1 => h.1.2 i' h1) fun h1 => by
  obtain rfl : i' = i := by omega
  exact h.2⟩⟩
theorem RB3.step {k : Pms} {w : Wk} {i : Nat} : RB3 k w (i + 1) ↔ RB3 k w i ∧ HrOk w.hours i :=
 ⟨fun h => ⟨⟨h.1,fun i' hi => h.2 i' (by omega)⟩,h.2 i (by omega)⟩,fun h => ⟨h.1.1,fun i' hi => (Nat.lt_or_ge i' i).elim (fun h1 => h.1.2 i' h1) fun h1 => by
  obtain rfl : i' = i := by omega
  exact h.2⟩⟩
theorem RB3.all {k : Pms} {w : Wk} : RB3 k w w.hours.1 ↔ WkOk k w :=
 ⟨fun h => ⟨h.1.1.1.1,h.1.1.1.2.1,h.1.1.1.2.2.1,h.1.1.1.2.2.2.1,h.1.1.1.2.2.2.2,h.1.1.2,h.2,h.1.2⟩,fun h => ⟨⟨⟨⟨h.d,h.o,h.s,h.h,h.l⟩,h.sp⟩,h.lt⟩,h.hr⟩⟩
theorem bears_no {l : Pms} {id day sex : Int} (h : hasP l id = false) : bearsP (knF l) id day sex = False := eq_false fun hb => by
 have : hitN l id < l.1 := hb.1
 rw [hasP_hit.2 this] at h; cases h
theorem bears_at {l : Pms} (hp : PmsOk l) {id day sex : Int} (h : hasP l id = true) : bearsP (knF l) id day sex = ((knP l (lstP l id)).sex.1 = sex ∧ 1500 ≤ day - (knP l (lstP l id)).planted) := by
 rw [hp.lst h]
 exact propext ⟨fun hb => hb.2,fun hb => ⟨(hasP_hit (l := l)).1 h,hb⟩⟩
set_option maxHeartbeats 4000000 in
set_option maxRecDepth 100000 in
theorem pOpen : PureOk Try.prog G 53 sOpen := by
  refine fn2 (S := [(15,sKnown7),(50,sPlaces),(51,sInP)]) (I := [(81,a81)]) mixed (.cons pKnownP (.cons pPlaces (.cons pInPalm .nil))) (.cons Try.func81 c81 .nil) Try.func53 c53 fun l w _ hw => ?_
  simp only [Nat.reduceSub,Nat.reducePow,go_sem] at hw
  by_cases hp : PmsOk l
  · have ep := pmE_ok hp
    by_cases hb : badI l < l.1
    · have hE : workE l w = 71 := by unfold workE; rw [if_pos ep,if_pos hb]
      rw [hE]
      have fb : (badI l < l.1) = True := eq_true hb
      simp only [RunTo,a53,sKnown7,ep,fb,hw,↓imp_tt,↓imp_tf,↓reduceIte,reduceCtorEq,Nat.reduceEqDiff,Nat.reduceAdd,Nat.reduceSub,Nat.reduceLT,Int.reduceEq,Int.reduceBNe,Nat.reducePow,go_sem]
    · have fb : (badI l < l.1) = False := eq_false hb
      have hE : workE l w = if decP (WkOk (knF l) w) = true then 0 else 72 := by unfold workE; rw [if_pos ep,if_neg hb]
      rw [hE]
      have hn24 := hp.n
      simp only [RunTo,a53,sKnown7,sPlaces,sInP,ep,fb,hw,↓imp_ft,↓imp_ff,↓reduceIte,reduceCtorEq,Nat.reduceEqDiff,Nat.reduceAdd,Nat.reduceSub,Nat.reduceLeDiff,Nat.reduceLT,Nat.reducePow,go_sem]
      simp only [lt1,allB_1,go_sem]
      repeat' (first | (with_reducible apply And.intro) | intro _)
      all_goals
        refine loopI (ι := Nat × Bool) (fun q => q.1 ≤ w.spathes.1 ∧ q.2 = decP (RB1 (knF l) w q.1)) (fun q => w.spathes.1 - q.1) [3,4,10,60,61] (fun q => [(62,.int .i64 q.1),(11,.bool q.2)]) (fun _ => []) (0,decP (RB1 (knF l) w 0)) ⟨Nat.zero_le _,rfl⟩ (by
          simp only [↓reduceIte,reduceCtorEq,Nat.reduceEqDiff,Nat.reduceLT,go_sem]
          first
            | exact (decP_f fun h => by have := h.1; unfold WBase at this; omega).symm
            | (rw [Bool.eq_iff_iff,decP_true,decide_eq_true_iff]; exact ⟨fun h => ⟨by unfold WBase; omega,fun i' hi => absurd hi (Nat.not_lt_zero _)⟩,fun h => by have := h.1; unfold WBase at this; omega⟩)) fun q hq => ?_
        obtain ⟨i,b⟩ := q
        obtain ⟨hi1,hi2⟩ := hq
        simp only at hi1 hi2
        by_cases hil : i < w.spathes.1
        · have fi : ((i : Int) < (w.spathes.1 : Int)) = True := eq_true (by omega)
          cases b with
          | false =>
            simp only [fi,↓imp_tt,↓imp_tf,↓imp_ft,↓imp_ff,↓reduceIte,Nat.reduceEqDiff,Nat.reduceAdd,go_sem]
            refine ⟨by omega,inv_intro (i + 1,false) ⟨hil,(decP_f fun h => ?_).symm⟩ (by simp only; omega) ?_⟩
            · exact absurd (RB1.step.1 h).1 (decP_false.1 hi2.symm)
            · simp only [↓reduceIte,reduceCtorEq,Nat.reduceEqDiff,Nat.reduceLT,go_sem]
              exact wrS (by omega)
          | true =>
            have hr := decP_true.1 hi2.symm
            have hbs := hr.1
            unfold WBase at hbs
            first
              | (exfalso; omega)
              | (cases hm : hasP l (w.spathes.2 i).palm with
                 | false =>
                   have hbe := bears_no (day := w.day) (sex := 1) hm
                   simp only [fi,hm,a81,↓imp_tt,↓imp_tf,↓imp_ft,↓imp_ff,↓reduceIte,reduceCtorEq,Nat.reduceEqDiff,Nat.reduceAdd,Nat.reduceSub,Nat.reduceLeDiff,Nat.reduceLT,go_sem]
                   refine ⟨by omega,inv_intro (i + 1,decP (RB1 (knF l) w (i + 1))) ⟨hil,rfl⟩ (by simp only; omega) ?_⟩
                   simp only [↓reduceIte,reduceCtorEq,Nat.reduceEqDiff,Nat.reduceLT,go_sem]
                   refine ⟨wrS (by omega),(decP_f fun h => ?_).symm⟩
                   have := (RB1.step.1 h).2
                   unfold SpOk at this; rw [hbe] at this; exact this.1
                 | true =>
                   have hbe := bears_at (day := w.day) (sex := 1) hp hm
                   have hkl := (lstP_spec hm).1
                   have hpl : 0 ≤ (knP l (lstP l (w.spathes.2 i).palm)).planted ∧ (knP l (lstP l (w.spathes.2 i).palm)).planted ≤ 100000 := hp.pl _ hkl
                   obtain ⟨pm,hpm⟩ : ∃ pm,knP l (lstP l (w.spathes.2 i).palm) = pm := ⟨_,rfl⟩
                   rw [hpm] at hbe hpl
                   have wd : IntKind.i64.wrap (w.day - pm.planted) = w.day - pm.planted := wr64 (by omega) (by omega)
                   simp only [fi,hm,a81,↓imp_tt,↓imp_tf,↓imp_ft,↓imp_ff,↓reduceIte,reduceCtorEq,Nat.reduceEqDiff,Nat.reduceAdd,Nat.reduceSub,Nat.reduceLeDiff,Nat.reduceLT,go_sem]
                   simp only [lt2,allB_2,wd,hpm,ge_iff_le,go_sem]
                   repeat' (first | omega | (with_reducible apply And.intro) | intro _)
                   all_goals
                     refine inv_intro (i + 1,decP (RB1 (knF l) w (i + 1))) ⟨hil,rfl⟩ (by simp only; omega) ?_
                     simp only [↓reduceIte,reduceCtorEq,Nat.reduceEqDiff,Nat.reduceLT,go_sem]
                     refine ⟨wrS (by omega),?_⟩
                     first
                       | exact (decP_f fun h => by have := (RB1.step.1 h).2; unfold SpOk at this; rw [hbe] at this; omega).symm
                       | (rw [Bool.eq_iff_iff,decide_eq_true_iff,decP_true,RB1.step]; exact ⟨fun h => ⟨hr,by unfold SpOk; rw [hbe]; omega⟩,fun h => by have := h.2; unfold SpOk at this; rw [hbe] at this; omega⟩))
        · have fi : ((i : Int) < (w.spathes.1 : Int)) = False := eq_false (by omega)
          obtain rfl : i = w.spathes.1 := by omega
          simp only [fi,hw,↓imp_ft,↓imp_ff,↓reduceIte,reduceCtorEq,Nat.reduceEqDiff,Nat.reduceAdd,Nat.reduceSub,Nat.reduceLeDiff,Nat.reducePow,go_sem]
          refine loopI (ι := Nat × Bool) (fun q => q.1 ≤ w.lots.1 ∧ q.2 = decP (RB2 (knF l) w q.1)) (fun q => w.lots.1 - q.1) [3,4,10,94,95] (fun q => [(96,.int .i64 q.1),(11,.bool q.2)]) (fun _ => []) (0,decP (RB2 (knF l) w 0)) ⟨Nat.zero_le _,rfl⟩ (by
            simp only [↓reduceIte,reduceCtorEq,Nat.reduceEqDiff,Nat.reduceLT,go_sem]
            rw [hi2]; exact decP_ext ⟨fun h => ⟨h,fun i' hi => absurd hi (Nat.not_lt_zero _)⟩,fun h => h.1⟩) fun q hq => ?_
          obtain ⟨i,b⟩ := q
          obtain ⟨hi1,hi2⟩ := hq
          simp only at hi1 hi2
          by_cases hil : i < w.lots.1
          · have fi : ((i : Int) < (w.lots.1 : Int)) = True := eq_true (by omega)
            cases b with
            | false =>
              simp only [fi,↓imp_tt,↓imp_tf,↓imp_ft,↓imp_ff,↓reduceIte,Nat.reduceEqDiff,Nat.reduceAdd,go_sem]
              refine ⟨by omega,inv_intro (i + 1,false) ⟨hil,(decP_f fun h => ?_).symm⟩ (by simp only; omega) ?_⟩
              · exact absurd (RB2.step.1 h).1 (decP_false.1 hi2.symm)
              · simp only [↓reduceIte,reduceCtorEq,Nat.reduceEqDiff,Nat.reduceLT,go_sem]
                exact wrS (by omega)
            | true =>
              have hr := decP_true.1 hi2.symm
              have hbs := hr.1.1
              unfold WBase at hbs
              first
                | (exfalso; omega)
                | (cases hm : hasP l (w.lots.2 i).palm with
                   | false =>
                     have hbe := bears_no (day := w.day) (sex := 2) hm
                     simp only [fi,hm,a81,↓imp_tt,↓imp_tf,↓imp_ft,↓imp_ff,↓reduceIte,reduceCtorEq,Nat.reduceEqDiff,Nat.reduceAdd,Nat.reduceSub,Nat.reduceLeDiff,Nat.reduceLT,go_sem]
                     refine ⟨by omega,inv_intro (i + 1,decP (RB2 (knF l) w (i + 1))) ⟨hil,rfl⟩ (by simp only; omega) ?_⟩
                     simp only [↓reduceIte,reduceCtorEq,Nat.reduceEqDiff,Nat.reduceLT,go_sem]
                     refine ⟨wrS (by omega),(decP_f fun h => ?_).symm⟩
                     have := (RB2.step.1 h).2
                     unfold LtOk at this; rw [hbe] at this; exact this.1
                   | true =>
                     have hbe := bears_at (day := w.day) (sex := 2) hp hm
                     have hkl := (lstP_spec hm).1
                     have hpl : 0 ≤ (knP l (lstP l (w.lots.2 i).palm)).planted ∧ (knP l (lstP l (w.lots.2 i).palm)).planted ≤ 100000 := hp.pl _ hkl
                     obtain ⟨pm,hpm⟩ : ∃ pm,knP l (lstP l (w.lots.2 i).palm) = pm := ⟨_,rfl⟩
                     rw [hpm] at hbe hpl
                     have wd : IntKind.i64.wrap (w.day - pm.planted) = w.day - pm.planted := wr64 (by omega) (by omega)
                     simp only [fi,hm,a81,↓imp_tt,↓imp_tf,↓imp_ft,↓imp_ff,↓reduceIte,reduceCtorEq,Nat.reduceEqDiff,Nat.reduceAdd,Nat.reduceSub,Nat.reduceLeDiff,Nat.reduceLT,go_sem]
                     simp only [lt1,lt2,allB_1,allB_2,wd,hpm,ge_iff_le,go_sem]
                     repeat' (first | omega | (with_reducible apply And.intro) | intro _)
                     all_goals
                       refine inv_intro (i + 1,decP (RB2 (knF l) w (i + 1))) ⟨hil,rfl⟩ (by simp only; omega) ?_
                       simp only [↓reduceIte,reduceCtorEq,Nat.reduceEqDiff,Nat.reduceLT,go_sem]
                       refine ⟨wrS (by omega),?_⟩
                       first
                         | exact (decP_f fun h => by have := (RB2.step.1 h).2; unfold LtOk at this; rw [hbe] at this; omega).symm
                         | (rw [Bool.eq_iff_iff,decide_eq_true_iff,decP_true,RB2.step]; exact ⟨fun h => ⟨hr,by unfold LtOk; rw [hbe]; omega⟩,fun h => by have := h.2; unfold LtOk at this; rw [hbe] at this; omega⟩))
          · have fi : ((i : Int) < (w.lots.1 : Int)) = False := eq_false (by omega)
            obtain rfl : i = w.lots.1 := by omega
            simp only [fi,hw,↓imp_ft,↓imp_ff,↓reduceIte,reduceCtorEq,Nat.reduceEqDiff,Nat.reduceAdd,Nat.reduceSub,Nat.reduceLeDiff,Nat.reducePow,go_sem]
            refine loopI (ι := Nat × Bool) (fun q => q.1 ≤ w.hours.1 ∧ q.2 = decP (RB3 (knF l) w q.1)) (fun q => w.hours.1 - q.1) [3,4,130,131] (fun q => [(132,.int .i64 q.1),(11,.bool q.2)]) (fun _ => []) (0,decP (RB3 (knF l) w 0)) ⟨Nat.zero_le _,rfl⟩ (by
              simp only [↓reduceIte,reduceCtorEq,Nat.reduceEqDiff,Nat.reduceLT,go_sem]
              rw [hi2]; exact decP_ext ⟨fun h => ⟨h,fun i' hi => absurd hi (Nat.not_lt_zero _)⟩,fun h => h.1⟩) fun q hq => ?_
            obtain ⟨i,b⟩ := q
            obtain ⟨hi1,hi2⟩ := hq
            simp only at hi1 hi2
            by_cases hil : i < w.hours.1
            · have fi : ((i : Int) < (w.hours.1 : Int)) = True := eq_true (by omega)
              cases b with
              | false =>
                simp only [fi,↓imp_tt,↓imp_tf,↓imp_ft,↓imp_ff,↓reduceIte,Nat.reduceEqDiff,go_sem]
                refine ⟨by omega,inv_intro (i + 1,false) ⟨hil,(decP_f fun h => ?_).symm⟩ (by simp only; omega) ?_⟩
                · exact absurd (RB3.step.1 h).1 (decP_false.1 hi2.symm)
                · simp only [↓reduceIte,reduceCtorEq,Nat.reduceEqDiff,Nat.reduceLT,go_sem]
                  exact wrS (by omega)
              | true =>
                have hr := decP_true.1 hi2.symm
                have hbs := hr.1.1.1
                unfold WBase at hbs
                first
                  | (exfalso; omega)
                  | (rcases Nat.eq_zero_or_pos i with h0 | h0
                     · have f0 : ((i : Int) = 0) = True := eq_true (by omega)
                       simp only [fi,f0,hw,↓imp_tt,↓imp_tf,↓reduceIte,reduceCtorEq,Nat.reduceEqDiff,Nat.reduceAdd,Nat.reduceSub,Nat.reduceLeDiff,Nat.reduceLT,Nat.reducePow,go_sem]
                       simp only [lt1,allB_1,go_sem]
                       repeat' (first | omega | (with_reducible apply And.intro) | intro _)
                       all_goals
                          refine inv_intro (i + 1,decP (RB3 (knF l) w (i + 1))) ⟨hil,rfl⟩ (by simp only; omega) ?_
                          simp only [↓reduceIte,reduceCtorEq,Nat.reduceEqDiff,Nat.reduceLT,go_sem]
                          refine ⟨wrS (by omega),?_⟩
                          first
                            | exact (decP_f fun h => by have := (RB3.step.1 h).2; unfold HrOk at this; omega).symm
                            | exact (decP_t (RB3.step.2 ⟨hr,by unfold HrOk; omega⟩)).symm
                            | (rw [Bool.eq_iff_iff,decide_eq_true_iff,decP_true,RB3.step]; exact ⟨fun h => ⟨hr,by unfold HrOk; omega⟩,fun h => by have := h.2; unfold HrOk at this; omega⟩)
                     · have f0 : ((i : Int) = 0) = False := eq_false (by omega)
                       have wi : IntKind.i64.wrap ((i : Int) - 1) = ((i - 1 : Nat) : Int) := by rw [wr64 (by omega) (by omega)]; omega
                       simp only [fi,f0,hw,↓imp_tt,↓imp_tf,↓reduceIte,reduceCtorEq,Nat.reduceEqDiff,Nat.reduceAdd,Nat.reduceSub,Nat.reduceLeDiff,Nat.reduceLT,Nat.reducePow,go_sem]
                       simp only [lt1,allB_1,wi,gt_iff_lt,Int.toNat_natCast,go_sem]
                       repeat' (first | omega | (with_reducible apply And.intro) | intro _)
                       all_goals
                          refine inv_intro (i + 1,decP (RB3 (knF l) w (i + 1))) ⟨hil,rfl⟩ (by simp only; omega) ?_
                          simp only [↓reduceIte,reduceCtorEq,Nat.reduceEqDiff,Nat.reduceLT,go_sem]
                          refine ⟨wrS (by omega),?_⟩
                          first
                            | exact (decP_f fun h => by have := (RB3.step.1 h).2; unfold HrOk at this; omega).symm
                            | exact (decP_t (RB3.step.2 ⟨hr,by unfold HrOk; omega⟩)).symm
                            | (rw [Bool.eq_iff_iff,decide_eq_true_iff,decP_true,RB3.step]; exact ⟨fun h => ⟨hr,by unfold HrOk; omega⟩,fun h => by have := h.2; unfold HrOk at this; omega⟩))
            · have fi : ((i : Int) < (w.hours.1 : Int)) = False := eq_false (by omega)
              obtain rfl : i = w.hours.1 := by omega
              have e3 : b = decP (WkOk (knF l) w) := hi2.trans (decP_ext RB3.all)
              cases b with
              | true =>
                have e4 : decP (WkOk (knF l) w) = true := e3.symm
                simp only [fi,e4,dayL,hw,↓imp_ft,↓imp_ff,↓reduceIte,reduceCtorEq,Nat.reduceEqDiff,Nat.reduceAdd,Nat.reduceSub,Nat.reducePow,go_sem]
              | false =>
                have e4 : decP (WkOk (knF l) w) = false := e3.symm
                simp only [fi,e4,↓imp_tt,↓imp_tf,↓imp_ft,↓imp_ff,↓reduceIte,Nat.reduceEqDiff,Nat.reduceAdd,Int.reduceEq,go_sem]
  · have ep := pmE_no hp
    have hE : workE l w = 70 := by unfold workE; rw [if_neg (by rw [ep]; decide)]
    rw [hE]
    simp only [RunTo,a53,sKnown7,ep,hw,↓imp_tt,↓imp_tf,↓reduceIte,reduceCtorEq,Nat.reduceEqDiff,Nat.reduceAdd,Nat.reduceSub,Nat.reduceLT,Int.reduceEq,Int.reduceBNe,Nat.reducePow,go_sem]
end Go.Proofs.Ytlapepdhkomijaa
