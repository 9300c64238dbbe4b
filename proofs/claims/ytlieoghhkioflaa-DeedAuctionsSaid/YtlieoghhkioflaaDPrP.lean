/- Auctions: the program's Prices. No condition. -/
import Derived.Test.YtlieoghhkioflaaDRef
import Derived.Test.YtlieoghhkioflaaDBid2
import Derived.Test.YtlieoghhkioflaaDCpt
set_option linter.unusedSimpArgs false
set_option linter.unusedVariables false
namespace Go.Proofs.Ytlieoghhkioflaa
open Go Go.RowKit
variable {G : Nat → Option (Nat × (Nat → Val))}
theorem cpk_spec (f : Nat → Int) (n : Nat) (h : ∀ i j,i ≤ j → j < n → f i ≤ f j) : ∀ k,k ≤ n → (cpk f k).Pairwise (fun x y => x < y) ∧ ∀ x,x ∈ cpk f k ↔ ∃ i,i < k ∧ f i = x := by
 intro k
 induction k with
 | zero => intro _; exact ⟨List.Pairwise.nil,fun x => ⟨fun h => (by cases h),fun ⟨i,hi,_⟩ => absurd hi (Nat.not_lt_zero _)⟩⟩
 | succ k ih =>
  intro hk
  obtain ⟨h1,h2⟩ := ih (by omega)
  rw [cpk]
  by_cases c : 0 < k ∧ f k = f (k - 1)
  ·rw [if_pos c]
   refine ⟨h1,fun x => ?_⟩
   rw [h2]
   constructor
   ·rintro ⟨i,hi,e⟩; exact ⟨i,by omega,e⟩
   ·rintro ⟨i,hi,e⟩
    by_cases q : i = k
    ·subst q; exact ⟨i - 1,by omega,by rw [← c.2]; exact e⟩
    ·exact ⟨i,by omega,e⟩
  ·rw [if_neg c]
   constructor
   ·rw [List.pairwise_append]
    refine ⟨h1,List.pairwise_singleton _ _,fun a ha b hb => ?_⟩
    rw [List.mem_singleton] at hb; subst hb
    obtain ⟨i,hi,rfl⟩ := (h2 a).1 ha
    have q1 := h i (k - 1) (by omega) (by omega)
    have q2 := h (k - 1) k (by omega) (by omega)
    have : f k ≠ f (k - 1) := fun e => c ⟨by omega,e⟩
    omega
   ·intro x
    rw [List.mem_append,h2,List.mem_singleton]
    constructor
    ·rintro (⟨i,hi,e⟩ | rfl)
     ·exact ⟨i,by omega,e⟩
     ·exact ⟨k,by omega,rfl⟩
    ·rintro ⟨i,hi,e⟩
     by_cases q : i = k
     ·subst q; exact .inr e.symm
     ·exact .inl ⟨i,by omega,e⟩
theorem ends_prog {t : Tu} {b : Nat × (Nat → Bd)} (h : AuOk t b) : cpk (ln (srt (lstI (2 * b.1 + 2,aF t b)))) (2 * b.1 + 2) = endsL t b := by
 have hl : (srt (lstI (2 * b.1 + 2,aF t b))).length = 2 * b.1 + 2 := srt_len _
 have hs : (srt (lstI (2 * b.1 + 2,aF t b))).Pairwise (fun x y => x ≤ y) := by
  have := List.pairwise_mergeSort (le := fun x y : Int => decide (x ≤ y)) (fun a b c h1 h2 => by simp at *; omega) (fun a b => by simp; omega) (lstI (2 * b.1 + 2,aF t b))
  exact this.imp fun h => of_decide_eq_true h
 have hm : ∀ x,x ∈ srt (lstI (2 * b.1 + 2,aF t b)) ↔ x ∈ allE t b := fun x => List.mem_mergeSort
 obtain ⟨e1,e2⟩ := endsL_spec h
 obtain ⟨c1,c2⟩ := cpk_spec (ln (srt (lstI (2 * b.1 + 2,aF t b)))) (2 * b.1 + 2) (fun i j hij hj => by
  rw [ln_get (by omega),ln_get (by omega)]
  by_cases e : i = j
  ·subst e; exact Int.le_refl _
  ·exact List.pairwise_iff_getElem.1 hs _ _ _ _ (by omega)) _ (Nat.le_refl _)
 refine rise_ext _ _ c1 e1 fun x => ?_
 rw [c2,e2,← hm]
 constructor
 ·rintro ⟨i,hi,rfl⟩
  rw [ln_get (by omega)]; exact List.getElem_mem _
 ·intro hx
  obtain ⟨i,hi,e⟩ := List.getElem_of_mem hx
  exact ⟨i,by omega,by rw [ln_get hi,e]⟩
def hasE (E : Nat → Int) : Nat → Int → Bool
 | 0,_ => false
 | r + 1,k => if k = E (r + 1) then true else hasE E r k
theorem hasE_no (F T V : Nat → Int) (n : Nat) (E : Nat → Int) : ∀ r k,hasE E r k = false → mpT F T V n E r k = 0
 | 0,_,_ => rfl
 | r + 1,k,h => by
  rw [hasE] at h
  rw [mpT]
  split at h
  ·cases h
  ·rename_i e; rw [if_neg e]; exact hasE_no F T V n E r k h
theorem pick_mp (F T V : Nat → Int) (n : Nat) (E : Nat → Int) (r : Nat) (k : Int) : pickV (hasE E r k) (.int .i64 (mpT F T V n E r k)) (.int .i64 0) = .int .i64 (mpT F T V n E r k) := by
 cases h : hasE E r k with
 | true => rfl
 | false => rw [hasE_no F T V n E r k h]; rfl
theorem toSpec2 {P : Program} {id : FuncId} {α β : Type} {t1 : VT α} {t2 : VT β} {pre : α → β → Prop} {res : α → β → Val} (h : PureOk P G id (specT (TAnd t1 (TAnd t2 TNo)) (fun a => pre a.1 a.2.1) fun a => res a.1 a.2.1)) : PureOk P G id (spec2 t1 t2 pre res) := by
 refine ⟨h.ent,fun A w vs cs hG hr hp => ?_⟩
 match vs,hr,hp with
 | [a,b],hr,hp => exact h.run A w [a,b] cs hG hr ⟨⟨hp.1,hp.2.1,trivial⟩,hp.2.2⟩
set_option maxRecDepth 100000 in
theorem pPricesP : PureOk Try.prog G 7 sPrs := by
 refine toSpec2 (fnT (S := [(20,sOff)]) (I := []) (X := [(29,0,sSort),(30,0,sCompact)]) (N := []) (C := []) mixed (.cons pOffered .nil) .nil (.cons pSort (.cons pCompact .nil)) Try.func7 c7 fun a _ hw => ?_)
 obtain ⟨t,b,⟨⟩⟩ := a
 simp only [TAnd,TNo,↓reduceIte,reduceCtorEq,Nat.reduceEqDiff,Nat.reduceAdd,Nat.reduceSub,Nat.reduceLeDiff,Nat.reduceMul,Nat.reduceLT,Int.reduceToNat,Int.reduceLT,Int.reduceLE,Int.reduceEq,Int.reduceNeg,Int.reduceMul,Int.reduceAdd,Int.reduceSub,Int.reduceNe,Int.reduceBEq,Int.reduceBNe,Nat.reducePow,go_sem] at hw
 unfold prsB
 by_cases h0 : offB t b = 0
 ·rw [if_pos h0]
  have hA := auOk h0
  have e0 := tpB_0 hA
  have hbn := tpB_le hA
  have hrl := hA.len
  have hnn := hA.n
  have hbd := hA.bd
  have htp := tpB_mp hA
  have hep := ends_prog hA
  have hprc : prcB t b = ((endsL t b).length - 1,fun i => ⟨⟨ln (endsL t b) i,ln (endsL t b) (i + 1)⟩,tpB b (ln (endsL t b) (i + 1)) - tpB b (ln (endsL t b) i)⟩) := rfl
  generalize hL : endsL t b = L at *
  have hal : (2 * b.1 + 2 < 4611686018427387904) = True := eq_true (by omega)
  simp only [a7,TAnd,TNo,specT,sOff,sSort,sCompact,h0,hw,↓reduceIte,reduceCtorEq,Nat.reduceEqDiff,Nat.reduceAdd,Nat.reduceSub,Nat.reduceLeDiff,Nat.reduceMul,Nat.reduceLT,Int.reduceToNat,Int.reduceLT,Int.reduceLE,Int.reduceEq,Int.reduceNeg,Int.reduceMul,Int.reduceAdd,Int.reduceSub,Int.reduceNe,Int.reduceBEq,Int.reduceBNe,Nat.reducePow,go_sem]
  refine loopI (ι := Nat) (fun j => j ≤ b.1) (fun j => b.1 - j) [1,28,29] (fun j => [(7,.own (.n 1)),(30,.int .i64 j)]) (fun j => [(1,.row 3 1 (2 * j + 2) fun a _ => .int .i64 (aF t b a))]) 0 (Nat.zero_le _) (by
   simp only [↓reduceIte,reduceCtorEq,Nat.reduceEqDiff,Nat.reduceAdd,Nat.reduceSub,Nat.reduceLeDiff,Nat.reduceMul,Nat.reduceLT,Int.reduceToNat,Int.reduceLT,Int.reduceLE,Int.reduceEq,Int.reduceNeg,Int.reduceMul,Int.reduceAdd,Int.reduceSub,Int.reduceNe,Int.reduceBEq,Int.reduceBNe,Nat.reducePow,go_sem]
   intro i hi c hc
   obtain rfl : c = 0 := by omega
   match i,hi with
   | 0,_ | 1,_ => rfl) fun j hj => ?_
  by_cases hjl : j < b.1
  ·have fj : ((j : Int) < (b.1 : Int)) = True := eq_true (by omega)
   have a0 := aF_e t b j
   have a1 := aF_o t b j
   simp only [fj,hw,↓reduceIte,reduceCtorEq,Nat.reduceEqDiff,Nat.reduceAdd,Nat.reduceSub,Nat.reduceLeDiff,Nat.reduceMul,Nat.reduceLT,Int.reduceToNat,Int.reduceLT,Int.reduceLE,Int.reduceEq,Int.reduceNeg,Int.reduceMul,Int.reduceAdd,Int.reduceSub,Int.reduceNe,Int.reduceBEq,Int.reduceBNe,Nat.reducePow,go_sem]
   refine ⟨by omega,by omega,by omega,inv_intro (j + 1) hjl (by omega) ?_⟩
   simp only [↓reduceIte,reduceCtorEq,Nat.reduceEqDiff,Nat.reduceAdd,Nat.reduceSub,Nat.reduceLeDiff,Nat.reduceMul,Nat.reduceLT,Int.reduceToNat,Int.reduceLT,Int.reduceLE,Int.reduceEq,Int.reduceNeg,Int.reduceMul,Int.reduceAdd,Int.reduceSub,Int.reduceNe,Int.reduceBEq,Int.reduceBNe,Nat.reducePow,go_sem]
   refine ⟨wrS (by omega),by omega,fun a ha c hc => ?_⟩
   obtain rfl : c = 0 := by omega
   by_cases e : a < 2 * j + 2
   ·rw [if_pos e]
   ·rw [if_neg e]
    rcases (show a = 2 * j + 2 ∨ a = 2 * j + 3 by omega) with rfl | rfl
    ·rw [Nat.sub_self,a0]; rfl
    ·rw [show 2 * j + 3 - (2 * j + 2) = 1 by omega,a1]; rfl
  ·have fj : ((j : Int) < (b.1 : Int)) = False := eq_false (by omega)
   obtain rfl : j = b.1 := by omega
   have hep' : cpk (fun i => ln (srt (lstI (2 * b.1 + 2,fun i => aF t b i))) i) (2 * b.1 + 2) = L := hep
   simp only [fj,sSort,sCompact,specT,TAnd,TNo,hal,hep',hw,↓reduceIte,reduceCtorEq,Nat.reduceEqDiff,Nat.reduceAdd,Nat.reduceSub,Nat.reduceLeDiff,Nat.reduceMul,Nat.reduceLT,Int.reduceToNat,Int.reduceLT,Int.reduceLE,Int.reduceEq,Int.reduceNeg,Int.reduceMul,Int.reduceAdd,Int.reduceSub,Int.reduceNe,Int.reduceBEq,Int.reduceBNe,Nat.reducePow,go_sem]
   have hpk : ∀ r k,pickV (hasE (ln L) r k) (.int .i64 (mpT (bF b) (bT b) (bV b) b.1 (ln L) r k)) (.int .i64 0) = .int .i64 (mpT (bF b) (bT b) (bV b) b.1 (ln L) r k) := pick_mp _ _ _ _ _
   have hno : ∀ r k,hasE (ln L) r k = false → mpT (bF b) (bT b) (bV b) b.1 (ln L) r k = 0 := hasE_no _ _ _ _ _
   have hmz : ∀ r,mpT (bF b) (bT b) (bV b) b.1 (ln L) (r + 1) = fun k => if k = ln L (r + 1) then tp (bT b) (bV b) (ln L (r + 1)) (fun x => mpT (bF b) (bT b) (bV b) b.1 (ln L) r (bF b x)) (mpT (bF b) (bT b) (bV b) b.1 (ln L) r (ln L r)) b.1 else mpT (bF b) (bT b) (bV b) b.1 (ln L) r k := fun r => rfl
   have hm0 : ∀ k,mpT (bF b) (bT b) (bV b) b.1 (ln L) 0 k = 0 := fun k => rfl
   generalize mpT (bF b) (bT b) (bV b) b.1 (ln L) = M at *
   refine loopJ (ι := Nat) (fun i => i ≤ L.length) (fun i => L.length - i) [1,7,10,49,50] (fun i => [(11,.own (.n 3)),(51,.int .i64 i)]) (fun i => [(2,.mp .i64 (hasE (ln L) (i - 1)) (fun k => .int .i64 (M (i - 1) k))),(3,.row 76 3 (i - 1) fun a c => ((prcB t b).2 a).c c)]) 1 0 (Nat.zero_le _) (by simp only [hasE,Nat.zero_sub,↓reduceIte,reduceCtorEq,Nat.reduceEqDiff,Nat.reduceAdd,Nat.reduceSub,Nat.reduceLeDiff,Nat.reduceMul,Nat.reduceLT,Int.reduceToNat,Int.reduceLT,Int.reduceLE,Int.reduceEq,Int.reduceNeg,Int.reduceMul,Int.reduceAdd,Int.reduceSub,Int.reduceNe,Int.reduceBEq,Int.reduceBNe,Nat.reducePow,go_sem]; try trace_state) fun i hi => ?_
   by_cases hil : i < L.length
   ·have fi : ((i : Int) < (L.length : Int)) = True := eq_true (by omega)
    cases i with
    | zero =>
     have f0 : (0 < (L.length : Int)) = True := eq_true (by omega)
     simp only [f0,hw,↓reduceIte,reduceCtorEq,Nat.reduceEqDiff,Nat.reduceAdd,Nat.reduceSub,Nat.reduceLeDiff,Nat.reduceMul,Nat.reduceLT,Int.reduceToNat,Int.reduceLT,Int.reduceLE,Int.reduceEq,Int.reduceNeg,Int.reduceMul,Int.reduceAdd,Int.reduceSub,Int.reduceNe,Int.reduceBEq,Int.reduceBNe,Nat.reducePow,go_sem]
     refine inv_intro 1 (by show 1 ≤ L.length; omega) (by show L.length - 1 < _; omega) ?_
     simp only [hasE,hm0,Nat.sub_self,↓reduceIte,reduceCtorEq,Nat.reduceEqDiff,Nat.reduceAdd,Nat.reduceSub,Nat.reduceLeDiff,Nat.reduceMul,Nat.reduceLT,Int.reduceToNat,Int.reduceLT,Int.reduceLE,Int.reduceEq,Int.reduceNeg,Int.reduceMul,Int.reduceAdd,Int.reduceSub,Int.reduceNe,Int.reduceBEq,Int.reduceBNe,Nat.reducePow,go_sem]
     exact wr64 (by omega) (by omega)
    | succ r =>
     have fz : (((r + 1 : Nat) : Int) = 0) = False := eq_false (by omega)
     have hs1 : IntKind.i64.wrap (((r + 1 : Nat) : Int) - 1) = (r : Int) := by rw [wr64 (by omega) (by omega)]; omega
     have hpr := hpk r
     have hrise := hA.rise r (by rw [hL]; omega)
     rw [hL] at hrise
     have hx : (ln L r = ln L (r + 1)) = False := eq_false (by omega)
     have hris : ∀ j,j < L.length - 1 → ln L j < ln L (j + 1) := by have := hA.rise; rw [hL] at this; exact this
     have hfe : ∀ k,k < b.1 → ∃ a,a ≤ L.length - 1 ∧ bF b k = ln L a := by have := hA.fe; rw [hL] at this; exact this
     have hgb : ∀ k,k < b.1 → bT b k = ln L (r + 1) → bF b k ≠ ln L (r + 1) ∧ 0 ≤ M r (bF b k) ∧ M r (bF b k) ≤ 12000000000 := fun k hk hT => by
      obtain ⟨a,ha,e⟩ := hfe k hk
      have hlt := (hA.best.2 k hk).1
      have hT' : (b.2 k).turn.til = ln L (r + 1) := hT
      have e' : (b.2 k).turn.fro = ln L a := e
      have har : a ≤ r := by
       rcases Nat.lt_or_ge r a with q | q
       ·have := (rise_le (ln L) (L.length - 1) hris (show r + 1 ≤ L.length - 1 by omega) ha).2 q
        omega
       ·exact q
      rw [e,htp r (by omega) a har]
      exact ⟨by rw [← e',← hT']; omega,hbn _⟩
     have hm0' : 0 ≤ M r (ln L r) ∧ M r (ln L r) ≤ 12000000000 := by rw [htp r (by omega) r (Nat.le_refl _)]; exact hbn _
     have htb : ∀ k,k ≤ b.1 → 0 ≤ tp (bT b) (bV b) (ln L (r + 1)) (fun y => M r (bF b y)) (M r (ln L r)) k ∧ tp (bT b) (bV b) (ln L (r + 1)) (fun y => M r (bF b y)) (M r (ln L r)) k ≤ 13000000000 := fun k hk => by
      have h1 := tp_ge (bT b) (bV b) (ln L (r + 1)) (fun y => M r (bF b y)) (M r (ln L r)) k
      rcases tp_is (bT b) (bV b) (ln L (r + 1)) (fun y => M r (bF b y)) (M r (ln L r)) k with e | ⟨c,hc,hT,e⟩
      ·omega
      ·have := (hgb c (by omega) hT).2
       have h2 := (hA.best.2 c (by omega)).2
       have h3 : bV b c ≤ 1000000000 := h2.2
       omega
     have hts : ∀ k,tp (bT b) (bV b) (ln L (r + 1)) (fun y => M r (bF b y)) (M r (ln L r)) (k + 1) = if bT b k = ln L (r + 1) then max (tp (bT b) (bV b) (ln L (r + 1)) (fun y => M r (bF b y)) (M r (ln L r)) k) (M r (bF b k) + bV b k) else tp (bT b) (bV b) (ln L (r + 1)) (fun y => M r (bF b y)) (M r (ln L r)) k := fun k => rfl
     have hfin : M (r + 1) (ln L (r + 1)) = tp (bT b) (bV b) (ln L (r + 1)) (fun y => M r (bF b y)) (M r (ln L r)) b.1 := by rw [hmz r]; exact if_pos rfl
     have ht0 : tp (bT b) (bV b) (ln L (r + 1)) (fun y => M r (bF b y)) (M r (ln L r)) 0 = M r (ln L r) := rfl
     have hmz' := hmz r
     generalize tp (bT b) (bV b) (ln L (r + 1)) (fun y => M r (bF b y)) (M r (ln L r)) = tv at *
     simp only [fi,fz,hs1,hx,↓hpr,Int.toNat_natCast,Nat.add_sub_cancel,hw,↓reduceIte,reduceCtorEq,Nat.reduceEqDiff,Nat.reduceAdd,Nat.reduceSub,Nat.reduceLeDiff,Nat.reduceMul,Nat.reduceLT,Int.reduceToNat,Int.reduceLT,Int.reduceLE,Int.reduceEq,Int.reduceNeg,Int.reduceMul,Int.reduceAdd,Int.reduceSub,Int.reduceNe,Int.reduceBEq,Int.reduceBNe,Nat.reducePow,go_sem]
     refine ⟨by omega,by omega,by omega,?_⟩
     refine loopI (ι := Nat) (fun k => k ≤ b.1) (fun k => b.1 - k) [1,7,10,11,13,14,49,50,51,68,69] (fun k => [(70,.int .i64 k)]) (fun k => [(2,.mp .i64 (fun j => if j = ln L (r + 1) then true else hasE (ln L) r j) (fun j => if j = ln L (r + 1) then .int .i64 (tv k) else .int .i64 (M r j)))]) 0 (Nat.zero_le _) (by
      simp only [ht0,↓reduceIte,reduceCtorEq,Nat.reduceEqDiff,Nat.reduceAdd,Nat.reduceSub,Nat.reduceLeDiff,Nat.reduceMul,Nat.reduceLT,Int.reduceToNat,Int.reduceLT,Int.reduceLE,Int.reduceEq,Int.reduceNeg,Int.reduceMul,Int.reduceAdd,Int.reduceSub,Int.reduceNe,Int.reduceBEq,Int.reduceBNe,Nat.reducePow,go_sem]
      intro j _
      by_cases e : j = ln L (r + 1)
      ·rw [if_pos e]; exact rfl
      ·rw [if_neg e]; exact rfl) fun k hk => ?_
     by_cases hkl : k < b.1
     ·have fk : ((k : Int) < (b.1 : Int)) = True := eq_true (by omega)
      have hg := hgb k hkl
      have hv := (hA.best.2 k hkl).2
      have hb1 := htb k hk
      have hsk := hts k
      by_cases hT : bT b k = ln L (r + 1)
      ·have hT' : ((b.2 k).turn.til = ln L (r + 1)) = True := eq_true hT
       obtain ⟨g1,g2,g3⟩ := hg hT
       have hF' : ((b.2 k).turn.fro = ln L (r + 1)) = False := eq_false g1
       have hnx : tv (k + 1) = max (tv k) (M r (b.2 k).turn.fro + (b.2 k).baisa) := by rw [hsk,if_pos hT]
       have g2' : 0 ≤ M r (b.2 k).turn.fro := g2
       have g3' : M r (b.2 k).turn.fro ≤ 12000000000 := g3
       cases hh : hasE (ln L) r (b.2 k).turn.fro with
       | true =>
        simp only [fk,hT',hF',hh,hw,↓reduceIte,reduceCtorEq,Nat.reduceEqDiff,Nat.reduceAdd,Nat.reduceSub,Nat.reduceLeDiff,Nat.reduceMul,Nat.reduceLT,Int.reduceToNat,Int.reduceLT,Int.reduceLE,Int.reduceEq,Int.reduceNeg,Int.reduceMul,Int.reduceAdd,Int.reduceSub,Int.reduceNe,Int.reduceBEq,Int.reduceBNe,Nat.reducePow,go_sem]
        refine ⟨by omega,inv_intro (k + 1) hkl (by omega) ?_⟩
        rw [wr64 (e := M r (b.2 k).turn.fro + (b.2 k).baisa) (by omega) (by omega),← hnx]
        simp only [↓reduceIte,reduceCtorEq,Nat.reduceEqDiff,Nat.reduceAdd,Nat.reduceSub,Nat.reduceLeDiff,Nat.reduceMul,Nat.reduceLT,Int.reduceToNat,Int.reduceLT,Int.reduceLE,Int.reduceEq,Int.reduceNeg,Int.reduceMul,Int.reduceAdd,Int.reduceSub,Int.reduceNe,Int.reduceBEq,Int.reduceBNe,Nat.reducePow,go_sem]
        refine ⟨wrS (by omega),fun j => ?_⟩
        by_cases e : j = ln L (r + 1)
        ·simp only [if_pos e]; exact ⟨trivial,fun _ => rfl⟩
        ·simp only [if_neg e]; exact ⟨trivial,fun _ => rfl⟩
       | false =>
        have hz := hno r _ hh
        simp only [fk,hT',hF',hh,hw,↓reduceIte,reduceCtorEq,Nat.reduceEqDiff,Nat.reduceAdd,Nat.reduceSub,Nat.reduceLeDiff,Nat.reduceMul,Nat.reduceLT,Int.reduceToNat,Int.reduceLT,Int.reduceLE,Int.reduceEq,Int.reduceNeg,Int.reduceMul,Int.reduceAdd,Int.reduceSub,Int.reduceNe,Int.reduceBEq,Int.reduceBNe,Nat.reducePow,go_sem]
        refine ⟨by omega,inv_intro (k + 1) hkl (by omega) ?_⟩
        rw [hz] at hnx
        rw [wr64 (e := 0 + (b.2 k).baisa) (by omega) (by omega),← hnx]
        simp only [↓reduceIte,reduceCtorEq,Nat.reduceEqDiff,Nat.reduceAdd,Nat.reduceSub,Nat.reduceLeDiff,Nat.reduceMul,Nat.reduceLT,Int.reduceToNat,Int.reduceLT,Int.reduceLE,Int.reduceEq,Int.reduceNeg,Int.reduceMul,Int.reduceAdd,Int.reduceSub,Int.reduceNe,Int.reduceBEq,Int.reduceBNe,Nat.reducePow,go_sem]
        refine ⟨wrS (by omega),fun j => ?_⟩
        by_cases e : j = ln L (r + 1)
        ·simp only [if_pos e]; exact ⟨trivial,fun _ => rfl⟩
        ·simp only [if_neg e]; exact ⟨trivial,fun _ => rfl⟩
      ·have hT' : ((b.2 k).turn.til = ln L (r + 1)) = False := eq_false hT
       simp only [fk,hT',hw,↓reduceIte,reduceCtorEq,Nat.reduceEqDiff,Nat.reduceAdd,Nat.reduceSub,Nat.reduceLeDiff,Nat.reduceMul,Nat.reduceLT,Int.reduceToNat,Int.reduceLT,Int.reduceLE,Int.reduceEq,Int.reduceNeg,Int.reduceMul,Int.reduceAdd,Int.reduceSub,Int.reduceNe,Int.reduceBEq,Int.reduceBNe,Nat.reducePow,go_sem]
       refine ⟨by omega,inv_intro (k + 1) hkl (by omega) ?_⟩
       rw [if_neg hT] at hsk
       simp only [hsk,↓reduceIte,reduceCtorEq,Nat.reduceEqDiff,Nat.reduceAdd,Nat.reduceSub,Nat.reduceLeDiff,Nat.reduceMul,Nat.reduceLT,Int.reduceToNat,Int.reduceLT,Int.reduceLE,Int.reduceEq,Int.reduceNeg,Int.reduceMul,Int.reduceAdd,Int.reduceSub,Int.reduceNe,Int.reduceBEq,Int.reduceBNe,Nat.reducePow,go_sem]
       refine ⟨wrS (by omega),fun j _ => ?_⟩
       by_cases e : j = ln L (r + 1)
       ·rw [if_pos e]; exact rfl
       ·rw [if_neg e]; exact rfl
     ·have fk : ((k : Int) < (b.1 : Int)) = False := eq_false (by omega)
      obtain rfl : k = b.1 := by omega
      have hend : tpB b (ln L (r + 1)) = tv b.1 := by rw [← htp (r + 1) (by omega) (r + 1) (Nat.le_refl _),hfin]
      have hbeg : tpB b (ln L r) = M r (ln L r) := (htp r (by omega) r (Nat.le_refl _)).symm
      have htn := htb b.1 (Nat.le_refl _)
      have hp : (prcB t b).2 r = ⟨⟨ln L r,ln L (r + 1)⟩,tv b.1 - M r (ln L r)⟩ := by rw [hprc,← hend,← hbeg]
      have hmp : ∀ j,M (r + 1) j = if j = ln L (r + 1) then tv b.1 else M r j := fun j => by rw [hmz']
      have hs2 : IntKind.i64.wrap (tv b.1 - M r (ln L r)) = tv b.1 - M r (ln L r) := wr64 (by omega) (by omega)
      cases hh : hasE (ln L) r (ln L r) with
      | true =>
       simp only [fk,hx,hh,hs2,hw,↓reduceIte,reduceCtorEq,Nat.reduceEqDiff,Nat.reduceAdd,Nat.reduceSub,Nat.reduceLeDiff,Nat.reduceMul,Nat.reduceLT,Int.reduceToNat,Int.reduceLT,Int.reduceLE,Int.reduceEq,Int.reduceNeg,Int.reduceMul,Int.reduceAdd,Int.reduceSub,Int.reduceNe,Int.reduceBEq,Int.reduceBNe,Nat.reducePow,go_sem]
       refine ⟨by omega,by omega,inv_intro (r + 1 + 1) (by show r + 1 + 1 ≤ L.length; omega) (by show L.length - (r + 1 + 1) < _; omega) ?_⟩
       simp only [Nat.add_sub_cancel,↓reduceIte,reduceCtorEq,Nat.reduceEqDiff,Nat.reduceAdd,Nat.reduceSub,Nat.reduceLeDiff,Nat.reduceMul,Nat.reduceLT,Int.reduceToNat,Int.reduceLT,Int.reduceLE,Int.reduceEq,Int.reduceNeg,Int.reduceMul,Int.reduceAdd,Int.reduceSub,Int.reduceNe,Int.reduceBEq,Int.reduceBNe,Nat.reducePow,go_sem]
       refine ⟨wrS (by omega),fun j => ?_,fun a ha c hc => ?_⟩
       ·rw [hmp j,hasE]
        by_cases e : j = ln L (r + 1)
        ·simp only [if_pos e]; exact ⟨trivial,fun _ => rfl⟩
        ·simp only [if_neg e]; exact ⟨trivial,fun _ => rfl⟩
       ·by_cases e : a < r
        ·rw [if_pos e,vsubP_self]; trivial
        ·obtain rfl : a = r := by omega
         rw [if_neg e,Nat.sub_self,hp]
         match c,hc with
         | 0,_ | 1,_ | 2,_ => exact rfl
      | false =>
       have hz := hno r _ hh
       rw [hz] at hs2 hp
       simp only [fk,hx,hh,hs2,hw,↓reduceIte,reduceCtorEq,Nat.reduceEqDiff,Nat.reduceAdd,Nat.reduceSub,Nat.reduceLeDiff,Nat.reduceMul,Nat.reduceLT,Int.reduceToNat,Int.reduceLT,Int.reduceLE,Int.reduceEq,Int.reduceNeg,Int.reduceMul,Int.reduceAdd,Int.reduceSub,Int.reduceNe,Int.reduceBEq,Int.reduceBNe,Nat.reducePow,go_sem]
       refine ⟨by omega,by omega,inv_intro (r + 1 + 1) (by show r + 1 + 1 ≤ L.length; omega) (by show L.length - (r + 1 + 1) < _; omega) ?_⟩
       simp only [Nat.add_sub_cancel,↓reduceIte,reduceCtorEq,Nat.reduceEqDiff,Nat.reduceAdd,Nat.reduceSub,Nat.reduceLeDiff,Nat.reduceMul,Nat.reduceLT,Int.reduceToNat,Int.reduceLT,Int.reduceLE,Int.reduceEq,Int.reduceNeg,Int.reduceMul,Int.reduceAdd,Int.reduceSub,Int.reduceNe,Int.reduceBEq,Int.reduceBNe,Nat.reducePow,go_sem]
       refine ⟨wrS (by omega),fun j => ?_,fun a ha c hc => ?_⟩
       ·rw [hmp j,hasE]
        by_cases e : j = ln L (r + 1)
        ·simp only [if_pos e]; exact ⟨trivial,fun _ => rfl⟩
        ·simp only [if_neg e]; exact ⟨trivial,fun _ => rfl⟩
       ·by_cases e : a < r
        ·rw [if_pos e,vsubP_self]; trivial
        ·obtain rfl : a = r := by omega
         rw [if_neg e,Nat.sub_self,hp]
         match c,hc with
         | 0,_ | 1,_ | 2,_ => exact rfl
   ·have fi : ((i : Int) < (L.length : Int)) = False := eq_false (by omega)
    obtain rfl : i = L.length := by omega
    simp only [fi,hw,↓reduceIte,reduceCtorEq,Nat.reduceEqDiff,Nat.reduceAdd,Nat.reduceSub,Nat.reduceLeDiff,Nat.reduceMul,Nat.reduceLT,Int.reduceToNat,Int.reduceLT,Int.reduceLE,Int.reduceEq,Int.reduceNeg,Int.reduceMul,Int.reduceAdd,Int.reduceSub,Int.reduceNe,Int.reduceBEq,Int.reduceBNe,Nat.reducePow,go_sem]
    rw [hprc]
 ·rw [if_neg h0]
  simp only [a7,TAnd,TNo,specT,sOff,h0,hw,↓reduceIte,reduceCtorEq,Nat.reduceEqDiff,Nat.reduceAdd,Nat.reduceSub,Nat.reduceLeDiff,Nat.reduceMul,Nat.reduceLT,Int.reduceToNat,Int.reduceLT,Int.reduceLE,Int.reduceEq,Int.reduceNeg,Int.reduceMul,Int.reduceAdd,Int.reduceSub,Int.reduceNe,Int.reduceBEq,Int.reduceBNe,Nat.reducePow,go_sem]
end Go.Proofs.Ytlieoghhkioflaa
