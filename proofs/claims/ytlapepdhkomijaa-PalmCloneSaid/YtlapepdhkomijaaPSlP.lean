/- Palms, the program: Slots. No condition. -/
import Derived.Test.YtlapepdhkomijaaPKn2
import Derived.Test.YtlapepdhkomijaaPEdg2
set_option linter.unusedSimpArgs false
set_option linter.unusedVariables false
namespace Go.Proofs.Ytlapepdhkomijaa
open Go Go.RowKit
variable {G : Nat → Option (Nat × (Nat → Val))}
set_option maxHeartbeats 4000000 in
set_option maxRecDepth 100000 in
theorem pSlotsP : PureOk Try.prog G 24 sSlots7 := by
 refine fnN2 (N := [25]) (S := [(53,sOpen)]) (I := [(55,a55),(83,a83),(54,a54),(82,a82)]) mixed (.cons pOpen .nil) (.cons Try.func55 c55 (.cons Try.func83 c83 (.cons Try.func54 c54 (.cons Try.func82 c82 .nil)))) Try.func24 c24 fun l w _ hw => ?_
 simp only [Nat.reduceSub,Nat.reducePow,go_sem] at hw
 by_cases he : workE l w = 0
 ·have hb := (workE_0 he).2.2.b
  have hS := hb.s
  have hH := hb.h
  rw [if_pos he]
  simp only [RunToN,a24,sOpen,dayL,he,hw,↓imp_ft,↓imp_ff,↓reduceIte,reduceCtorEq,Nat.reduceEqDiff,Nat.reduceAdd,Nat.reduceSub,Nat.reduceLeDiff,Nat.reduceLT,Nat.reducePow,go_sem]
  refine loopJ (ι := Nat) (fun i => i ≤ w.spathes.1) (fun i => w.spathes.1 - i) [6,21] (fun i => [(22,.int .i64 i),(8,.own (.n 2))]) (fun i => [(2,.rown 25 1 i fun a _ => .own (.f 3 a)),(3,.fam (fun z => decide (0 ≤ z ∧ z < (i : Int))) fun z => .row 3 1 (slN w z.toNat) fun b _ => .int .i64 (slH w z.toNat b))]) 2 0 (Nat.zero_le _) (by
   simp only [↓reduceIte,reduceCtorEq,Nat.reduceEqDiff,Nat.reduceAdd,Nat.reduceLT,go_sem]
   refine chkFam_new fun z hz => ?_
   have := of_decide_eq_true hz
   omega) fun i hi => ?_
  by_cases hil : i < w.spathes.1
  ·have fi : ((i : Int) < (w.spathes.1 : Int)) = True := eq_true (by omega)
   have pi1 : (0 ≤ (i : Int)) = True := eq_true (by omega)
   simp only [fi,pi1,a55,a83,a54,a82,hw,↓imp_tt,↓imp_tf,↓reduceIte,reduceCtorEq,Nat.reduceEqDiff,Nat.reduceAdd,Nat.reduceSub,Nat.reduceLeDiff,Nat.reducePow,go_sem]
   intro g
   refine loopJ (ι := Nat) (fun h => h ≤ w.hours.1) (fun h => w.hours.1 - h) [0,1,2,4,16,17] (fun h => [(18,.int .i64 h)]) (fun h => [(6,.cells (.cons (.own (.n 9)) .nil)),(9,.row 3 1 (cntN (takesF w i) h) fun a _ => .int .i64 (selN (takesF w i) h a))]) 1 0 (Nat.zero_le _) (by
    simp only [cntN,↓reduceIte,reduceCtorEq,Nat.reduceEqDiff,Nat.reduceAdd,Nat.reduceLT,go_sem]
    exact ⟨chkFam_same fun z hz => by simp only [go_sem]; exact if_pos (of_decide_eq_true hz),fun a ha j hj => .inl ⟨_,if_pos ⟨by omega,by omega⟩⟩,fun z hz => ⟨_,if_pos hz⟩⟩) fun h hh => ?_
   by_cases hhl : h < w.hours.1
   ·have fh : ((h : Int) < (w.hours.1 : Int)) = True := eq_true (by omega)
    have ph1 : (0 ≤ (h : Int)) = True := eq_true (by omega)
    have hc := cntN_le (takesF w i) h
    have wo : IntKind.i64.wrap ((w.spathes.2 i).cracks.lo + w.opn) = (w.spathes.2 i).cracks.lo + w.opn := wr64 (by have := hb.c i (by omega); have := hb.o; omega) (by have := hb.c i (by omega); have := hb.o; omega)
    by_cases t1 : (w.spathes.2 i).cracks.hi ≤ w.hours.2 h
    ·have g1 : ((w.spathes.2 i).cracks.hi ≤ w.hours.2 h) = True := eq_true t1
     by_cases t2 : w.hours.2 h < (w.spathes.2 i).cracks.lo + w.opn
     ·have g2 : (w.hours.2 h < (w.spathes.2 i).cracks.lo + w.opn) = True := eq_true t2
      have ht : takesF w i h = true := decide_eq_true ⟨t1,t2⟩
      simp only [fh,ph1,g1,g2,wo,↓imp_tt,↓imp_tf,↓imp_ft,↓imp_ff,↓reduceIte,reduceCtorEq,Nat.reduceEqDiff,Nat.reduceAdd,Nat.reduceSub,Nat.reduceLeDiff,Nat.reduceLT,Nat.reducePow,go_sem]
      refine ⟨by omega,by omega,?_⟩
      refine inv_intro (h + 1) (by omega) (by omega) ?_
      have hcn : cntN (takesF w i) (h + 1) = cntN (takesF w i) h + 1 := by simp only [cntN,ht,if_true]
      simp only [hcn,↓reduceIte,reduceCtorEq,Nat.reduceEqDiff,Nat.reduceLT,go_sem]
      refine ⟨wrS (by omega),chkFam_same fun z hz => by simp only [go_sem]; exact if_pos (of_decide_eq_true hz),fun a ha j hj => .inl ⟨_,if_pos ⟨by omega,by omega⟩⟩,fun a ha b hb' => ?_,fun z hz => ⟨_,if_pos hz⟩⟩
      obtain rfl : b = 0 := by omega
      simp only [selN,ht,true_and]
      by_cases e : a = cntN (takesF w i) h
      ·subst e; simp [vget]
      ·have : a < cntN (takesF w i) h := by omega
       simp [e,this]
     ·have g2 : (w.hours.2 h < (w.spathes.2 i).cracks.lo + w.opn) = False := eq_false t2
      have ht : takesF w i h = false := decide_eq_false fun e => t2 e.2
      simp only [fh,ph1,g1,g2,wo,↓imp_tt,↓imp_tf,↓imp_ft,↓imp_ff,↓reduceIte,reduceCtorEq,Nat.reduceEqDiff,Nat.reduceAdd,Nat.reduceLeDiff,go_sem]
      refine inv_intro (h + 1) (by omega) (by omega) ?_
      have hcn : cntN (takesF w i) (h + 1) = cntN (takesF w i) h := by simp [cntN,ht]
      have hse : ∀ a,selN (takesF w i) (h + 1) a = selN (takesF w i) h a := fun a => by simp [selN,ht]
      simp only [hcn,hse,↓reduceIte,reduceCtorEq,Nat.reduceEqDiff,Nat.reduceLT,go_sem]
      exact ⟨wrS (by omega),chkFam_same fun z hz => by simp only [go_sem]; exact if_pos (of_decide_eq_true hz),fun a ha j hj => .inl ⟨_,if_pos ⟨by omega,by omega⟩⟩,fun z hz => ⟨_,if_pos hz⟩⟩
    ·have g1 : ((w.spathes.2 i).cracks.hi ≤ w.hours.2 h) = False := eq_false t1
     have ht : takesF w i h = false := decide_eq_false fun e => t1 e.1
     simp only [fh,ph1,g1,↓imp_tt,↓imp_tf,↓imp_ft,↓imp_ff,↓reduceIte,reduceCtorEq,Nat.reduceEqDiff,Nat.reduceAdd,go_sem]
     refine inv_intro (h + 1) (by omega) (by omega) ?_
     have hcn : cntN (takesF w i) (h + 1) = cntN (takesF w i) h := by simp [cntN,ht]
     have hse : ∀ a,selN (takesF w i) (h + 1) a = selN (takesF w i) h a := fun a => by simp [selN,ht]
     simp only [hcn,hse,↓reduceIte,reduceCtorEq,Nat.reduceEqDiff,Nat.reduceLT,go_sem]
     exact ⟨wrS (by omega),chkFam_same fun z hz => by simp only [go_sem]; exact if_pos (of_decide_eq_true hz),fun a ha j hj => .inl ⟨_,if_pos ⟨by omega,by omega⟩⟩,fun z hz => ⟨_,if_pos hz⟩⟩
   ·have fh : ((h : Int) < (w.hours.1 : Int)) = False := eq_false (by omega)
    obtain rfl : h = w.hours.1 := by omega
    simp only [fh,↓imp_ft,↓imp_ff,↓reduceIte,reduceCtorEq,Nat.reduceEqDiff,Nat.reduceAdd,Nat.reduceSub,Nat.reduceLeDiff,Nat.reduceLT,Nat.reducePow,go_sem]
    refine ⟨by omega,by omega,?_⟩
    refine inv_renM [(.n 9,.f 3 i)] (i + 1) (fun p hp m hm => ?_) hil (by omega) ?_
    ·simp only [List.mem_singleton] at hp hm
     subst hp; first | (subst hm; exact Nat.le_of_ble_eq_true rfl) | cases hm
    ·have hvac : ((i : Int) < (i : Int)) = False := eq_false (by omega)
     simp only [↓reduceIte,reduceCtorEq,Nat.reduceEqDiff,Nat.reduceLT,go_sem,hvac,and_false]
     refine ⟨wrS (by omega),chkFam_same fun z hz => ?_,fun a ha j hj => ?_⟩
     ·have hz := of_decide_eq_true hz
      simp only [go_sem]
      by_cases e : z = (i : Int)
      ·subst e; simp [slN,slH]
      ·rw [if_pos (by simp [e]; omega),if_neg e]
     ·obtain rfl : j = 0 := by omega
      refine .inl ⟨?_,_,if_pos ⟨by omega,by omega⟩⟩
      by_cases e : a < i
      ·rw [if_pos e]; simp only [↓reduceIte,reduceCtorEq,go_sem]
      ·obtain rfl : a = i := by omega
       rw [if_neg (Nat.lt_irrefl _),Nat.sub_self]; simp only [↓reduceIte,Nat.reduceEqDiff,go_sem]
  ·have fi : ((i : Int) < (w.spathes.1 : Int)) = False := eq_false (by omega)
   obtain rfl : i = w.spathes.1 := by omega
   simp only [fi,↓imp_ft,↓imp_ff,↓reduceIte,reduceCtorEq,Nat.reduceEqDiff,Nat.reduceAdd,go_sem]
   refine ⟨fun i hi j hj => ?_,fun i hi j hj => ?_⟩
   ·rw [if_pos ⟨by omega,by omega⟩]
   ·have e1 : decide (i < w.spathes.1 ∧ j < 1) = true := decide_eq_true ⟨hi,hj⟩
    have e2 : (0 ≤ (i : Int) ∧ (i : Int) < (w.spathes.1 : Int)) = True := eq_true ⟨by omega,by omega⟩
    simp only [e1,e2,↓reduceIte,go_sem]
 ·have hz : (workE l w = 0) = False := eq_false he
  rw [if_neg he]
  simp only [RunToN,a24,sOpen,hz,hw,↓reduceIte,reduceCtorEq,Nat.reduceEqDiff,Nat.reduceAdd,Nat.reduceSub,Nat.reduceLeDiff,Nat.reduceLT,Nat.reducePow,go_sem]
end Go.Proofs.Ytlapepdhkomijaa
namespace Go.Proofs.Ytlapepdhkomijaa
open Go Go.RowKit
variable {G : Nat → Option (Nat × (Nat → Val))}
noncomputable def sMost7 : Spec := spec2 (TSl RPm) TWk (fun _ _ => True) fun l w => if workE l w = 0 then .tup (.cons (.view 3 (plD w).cnt fun a b => ((plD w).pl a).c b) (.cons (.int .i64 0) .nil)) else .tup (.cons .nils (.cons (.int .i64 (workE l w)) .nil))
end Go.Proofs.Ytlapepdhkomijaa
namespace Go.Proofs.Ytlapepdhkomijaa
open Go Go.RowKit
theorem bget_app {l m : Bx} {b : Bn} {c : Box} (h : bget l b = some c) : bget (l ++ m) b = some c := by
 induction l with
 | nil => cases h
 | cons p l ih =>
  obtain ⟨k,e⟩ := p
  cases b <;> cases e <;> simp only [bget,List.cons_append] at h ⊢
  ·split
   ·rename_i q; rw [if_pos q] at h; exact h
   ·rename_i q; rw [if_neg q] at h; exact ih h
  ·exact ih h
  ·exact ih h
  ·split
   ·rename_i q; rw [if_pos q] at h; exact h
   ·rename_i q; rw [if_neg q] at h; exact ih h
theorem bget_app2 {l m : Bx} {b : Bn} (h : bget l b = none) : bget (l ++ m) b = bget m b := by
 induction l with
 | nil => rfl
 | cons p l ih =>
  obtain ⟨k,e⟩ := p
  cases b <;> cases e <;> simp only [bget,List.cons_append] at h ⊢
  ·split
   ·rename_i q; rw [if_pos q] at h; cases h
   ·rename_i q; rw [if_neg q] at h; exact ih h
  ·exact ih h
  ·exact ih h
  ·split
   ·rename_i q; rw [if_pos q] at h; cases h
   ·rename_i q; rw [if_neg q] at h; exact ih h
def ExtB (tl bx : Bx) : Prop := ∀ b c,bget tl b = some c → bget bx b = some c
structure Tl (A B : Nat) (tl : Bx) : Prop where
 nn : ∀ k,k < A ∨ B ≤ k → bget tl (.n k) = none
 nf : ∀ k z,k < A ∨ B ≤ k → bget tl (.f k z) = none
 chk : ∀ N D bx,ExtB tl bx → (∀ b c,bget tl b = some c → D b) → chkBx N D bx tl
 ids : ∀ nx,B ≤ nx → idsLt nx tl
 kpt : ∀ nx bx',ExtB tl bx' → kept nx bx' tl
 sn : ∀ k v,B ≤ k → subBx (.n k) v tl = tl
 sf : ∀ k z v,B ≤ k → subBx (.f k z) v tl = tl
 rn : ∀ k y,B ≤ k → renBx (.n k) y tl = tl
 dn : ∀ k,B ≤ k → bdel tl (.n k) = tl
 bf : ∀ k z c,B ≤ k → bset tl (.f k z) c = tl ++ [(k,.fam (fun j => decide (j = z)) fun _ => c)]
 nin : ∀ k,B ≤ k → noIt (.n k) tl
section
variable {A B k : Nat} {tl m bx bx' : Bx} {e : Ent}
theorem Tl.lt (hT : Tl A B tl) {b : Bn} {c : Box} (h : bget tl b = some c) : A ≤ b.id ∧ b.id < B := by
 cases b with
 | n k =>
  by_cases h1 : k < A ∨ B ≤ k
  ·rw [hT.nn k h1] at h; cases h
  ·simp only [Bn.id]; omega
 | f k z =>
  by_cases h1 : k < A ∨ B ≤ k
  ·rw [hT.nf k z h1] at h; cases h
  ·simp only [Bn.id]; omega
theorem Tl.xb (_ : Tl A B tl) : ExtB tl tl = True := eq_true fun _ _ h => h
theorem Tl.xa (_ : Tl A B tl) : ExtB tl (tl ++ m) = True := eq_true fun _ _ h => bget_app h
theorem Tl.xc (hT : Tl A B tl) (hk : k < A ∨ B ≤ k) : ExtB tl ((k,e) :: m) = ExtB tl m := by
 have key : ∀ b c,bget tl b = some c → bget ((k,e) :: m) b = bget m b := fun b c h => by
  have := hT.lt h
  cases b <;> cases e <;> simp only [bget] <;> simp only [Bn.id] at this
  ·rw [if_neg (by omega)]
  ·rw [if_neg fun q => by have := q.1; omega]
 exact propext ⟨fun h b c hb => by rw [← key b c hb]; exact h b c hb,fun h b c hb => by rw [key b c hb]; exact h b c hb⟩
theorem Tl.ck (hT : Tl A B tl) {N : Bn → Prop} (h1 : ExtB tl bx) (h2 : ExtB tl bx') : chkBx N (hasB bx') bx tl = True := eq_true (hT.chk _ _ _ h1 fun b c hb => ⟨c,h2 b c hb⟩)
theorem Tl.il (hT : Tl A B tl) {nx : Nat} (h : B ≤ nx) : idsLt nx tl = True := eq_true (hT.ids nx h)
theorem Tl.kp (hT : Tl A B tl) {nx : Nat} (h : ExtB tl bx') : kept nx bx' tl = True := eq_true (hT.kpt nx bx' h)
theorem kept_app {nx : Nat} {bx' : Bx} : ∀ {l m : Bx},kept nx bx' (l ++ m) = (kept nx bx' l ∧ kept nx bx' m)
 | [],m => by simp only [List.nil_append,kept,true_and]
 | (b,.one c) :: l,m => by simp only [List.cons_append,kept,kept_app (l := l),and_assoc]
 | (b,.fam d q) :: l,m => by simp only [List.cons_append,kept,kept_app (l := l),and_assoc]
theorem Tl.an (hT : Tl A B tl) (h : B ≤ k) : bget (tl ++ m) (.n k) = bget m (.n k) := bget_app2 (hT.nn k (.inr h))
theorem Tl.af (hT : Tl A B tl) {z : Int} (h : B ≤ k) : bget (tl ++ m) (.f k z) = bget m (.f k z) := bget_app2 (hT.nf k z (.inr h))
theorem Tl.ni (hT : Tl A B tl) (h : B ≤ k) : noIt (.n k) tl = True := eq_true (hT.nin k h)
end
structure BxUp (B : Nat) (c : Box) : Prop where
 sn : ∀ k v,B ≤ k → subBox (.n k) v c = c
 sf : ∀ k z v,B ≤ k → subBox (.f k z) v c = c
 rn : ∀ k y,B ≤ k → renBox (.n k) y c = c
 ni : ∀ k,B ≤ k → noIt1 (.n k) c
def EntOk (B : Nat) (l : Bx) : Nat × Ent → Prop
 | (k,.one c) => BxUp B c ∧ ∀ N D,(∀ b c,bget l b = some c → D b) → chkBx1 N D (bget l (.n k)) c
 | (k,.fam d r) => (∀ z,BxUp B (r z)) ∧ ∀ N D,(∀ b c,bget l b = some c → D b) → ∀ z,d z = true → chkBx1 N D (bget l (.f k z)) (r z)
def EntsOk (B : Nat) (l : Bx) : Bx → Prop
 | [] => True
 | e :: m => EntOk B l e ∧ EntsOk B l m
def idsGe (A : Nat) : Bx → Prop
 | [] => True
 | (b,_) :: l => A ≤ b ∧ idsGe A l
theorem one_mem {k : Nat} {c : Box} : ∀ {l : Bx},(k,Ent.one c) ∈ l → ∃ c',bget l (.n k) = some c' := by
 intro l
 induction l with
 | nil => intro h; cases h
 | cons p l ih =>
  intro h
  obtain ⟨k',e'⟩ := p
  rcases List.mem_cons.1 h with e | h
  ·cases e; exact ⟨c,by simp only [bget,if_true]⟩
  ·obtain ⟨c',h2⟩ := ih h
   cases e' <;> simp only [bget]
   ·split
    ·exact ⟨_,rfl⟩
    ·exact ⟨c',h2⟩
   ·exact ⟨c',h2⟩
theorem fam_mem {k : Nat} {d : Int → Bool} {r : Int → Box} {z : Int} (hz : d z = true) : ∀ {l : Bx},(k,Ent.fam d r) ∈ l → ∃ c',bget l (.f k z) = some c' := by
 intro l
 induction l with
 | nil => intro h; cases h
 | cons p l ih =>
  intro h
  obtain ⟨k',e'⟩ := p
  rcases List.mem_cons.1 h with e | h
  ·cases e; exact ⟨r z,by simp [bget,hz]⟩
  ·obtain ⟨c',h2⟩ := ih h
   cases e' <;> simp only [bget]
   ·exact ⟨c',h2⟩
   ·split
    ·exact ⟨_,rfl⟩
    ·exact ⟨c',h2⟩
theorem Tl.of {A B : Nat} {l : Bx} (h1 : idsLt B l) (h0 : idsGe A l) (h2 : EntsOk B l l) : Tl A B l := by
 have nb : ∀ {m : Bx},idsLt B m → idsGe A m → (∀ k,k < A ∨ B ≤ k → bget m (.n k) = none) ∧ (∀ k z,k < A ∨ B ≤ k → bget m (.f k z) = none) := by
  intro m
  induction m with
  | nil => intro _ _; exact ⟨fun _ _ => rfl,fun _ _ _ => rfl⟩
  | cons p m ih =>
   intro a b
   obtain ⟨k',e'⟩ := p
   obtain ⟨i1,i2⟩ := ih a.2 b.2
   have a1 : k' < B := a.1
   have b1 : A ≤ k' := b.1
   cases e' <;> refine ⟨fun k hk => ?_,fun k z hk => ?_⟩ <;> simp only [bget]
   ·rw [if_neg (by omega)]; exact i1 k hk
   ·exact i2 k z hk
   ·exact i1 k hk
   ·rw [if_neg fun q => by have := q.1; omega]; exact i2 k z hk
 obtain ⟨n1,n2⟩ := nb h1 h0
 have ids : ∀ {m : Bx},idsLt B m → ∀ nx,B ≤ nx → idsLt nx m := by
  intro m
  induction m with
  | nil => intro _ _ _; trivial
  | cons p m ih => intro a nx hn; exact ⟨Nat.lt_of_lt_of_le a.1 hn,ih a.2 nx hn⟩
 have bd : ∀ {m : Bx},idsLt B m → ∀ k,B ≤ k → bdel m (.n k) = m := by
  intro m
  induction m with
  | nil => intro _ _ _; rfl
  | cons p m ih =>
   intro a k hk
   obtain ⟨k',e'⟩ := p
   have a1 : k' < B := a.1
   cases e' <;> simp only [bdel,ih a.2 k hk]
   rw [if_neg (by omega)]
 have bf : ∀ {m : Bx},idsLt B m → ∀ k z c,B ≤ k → bset m (.f k z) c = m ++ [(k,.fam (fun j => decide (j = z)) fun _ => c)] := by
  intro m
  induction m with
  | nil => intro _ _ _ _ _; rfl
  | cons p m ih =>
   intro a k z c hk
   obtain ⟨k',e'⟩ := p
   have a1 : k' < B := a.1
   cases e' <;> simp only [bset,ih a.2 k z c hk,List.cons_append]
   rw [if_neg (by omega)]
 have key : ∀ {m : Bx},(∀ e ∈ m,e ∈ l) → EntsOk B l m → (∀ N D bx,ExtB l bx → (∀ b c,bget l b = some c → D b) → chkBx N D bx m) ∧ (∀ nx bx',ExtB l bx' → kept nx bx' m) ∧ (∀ k v,B ≤ k → subBx (.n k) v m = m) ∧ (∀ k z v,B ≤ k → subBx (.f k z) v m = m) ∧ (∀ k y,B ≤ k → renBx (.n k) y m = m) ∧ ∀ k,B ≤ k → noIt (.n k) m := by
  intro m
  induction m with
  | nil => intro _ _; exact ⟨fun _ _ _ _ _ => trivial,fun _ _ _ => trivial,fun _ _ _ => rfl,fun _ _ _ _ => rfl,fun _ _ _ => rfl,fun _ _ => trivial⟩
  | cons p m ih =>
   intro hm ⟨a1,a2⟩
   obtain ⟨i1,i2,i3,i4,i5,i6⟩ := ih (fun e he => hm e (List.mem_cons_of_mem _ he)) a2
   have hp := hm p (List.mem_cons_self ..)
   obtain ⟨k',e'⟩ := p
   cases e' with
   | one c =>
    obtain ⟨⟨o1,o2,o3,o4⟩,o5⟩ := a1
    obtain ⟨c',hc'⟩ := one_mem hp
    refine ⟨fun N D bx hx hD => ⟨?_,i1 N D bx hx hD⟩,fun nx bx' hx => ⟨fun _ => ⟨c',hx _ _ hc'⟩,i2 nx bx' hx⟩,fun k v hk => ?_,fun k z v hk => ?_,fun k y hk => ?_,fun k hk => ⟨o4 k hk,i6 k hk⟩⟩
    ·have := o5 N D hD
     rw [hc'] at this
     rw [hx _ _ hc']; exact this
    ·simp only [subBx,o1 k v hk,i3 k v hk]
    ·simp only [subBx,o2 k z v hk,i4 k z v hk]
    ·simp only [renBx,o3 k y hk,i5 k y hk]
   | fam d r =>
    obtain ⟨o0,o5⟩ := a1
    refine ⟨fun N D bx hx hD => ⟨fun z hz => ?_,i1 N D bx hx hD⟩,fun nx bx' hx => ⟨fun _ z hz => ?_,i2 nx bx' hx⟩,fun k v hk => ?_,fun k z v hk => ?_,fun k y hk => ?_,fun k hk => ⟨fun z _ => (o0 z).ni k hk,i6 k hk⟩⟩
    ·obtain ⟨c',hc'⟩ := fam_mem hz hp
     have := o5 N D hD z hz
     rw [hc'] at this
     rw [hx _ _ hc']; exact this
    ·obtain ⟨c',hc'⟩ := fam_mem hz hp
     exact ⟨c',hx _ _ hc'⟩
    ·simp only [subBx,(o0 _).sn k v hk,i3 k v hk]
    ·simp only [subBx,(o0 _).sf k z v hk,i4 k z v hk]
    ·simp only [renBx,(o0 _).rn k y hk,i5 k y hk]
 obtain ⟨q1,q2,q3,q4,q5,q6⟩ := key (fun _ h => h) h2
 exact ⟨n1,n2,q1,ids h1,q2,q3,q4,q5,bd h1,bf h1,q6⟩
theorem bget_low {B : Nat} {tl : Bx} : ∀ {pre : Bx},(∀ e ∈ pre,B ≤ e.1) → ∀ {b : Bn},b.id < B → bget (pre ++ tl) b = bget tl b := by
 intro pre
 induction pre with
 | nil => intro _ b _; rfl
 | cons p l ih =>
  intro h b hb
  have h1 := h p (by simp)
  have h2 := ih (fun e he => h e (by simp [he])) hb
  obtain ⟨k,e⟩ := p
  simp only at h1
  cases b <;> cases e <;> simp only [bget,List.cons_append,Bn.id] at hb h2 ⊢
  ·rw [if_neg (by omega)]; exact h2
  ·exact h2
  ·exact h2
  ·rw [if_neg fun q => by have := q.1; omega]; exact h2
theorem chkG_tl {B : Nat} {tl pre pre0 bx1 : Bx} {nx nx' : Nat} {fr1 fr' : Fr} {A : Nat} (hT : Tl A B tl) (hp : ∀ e ∈ pre,B ≤ e.1) (hp0 : ∀ e ∈ pre0,B ≤ e.1) (h1 : ∀ b,b.id < B → bget bx1 b = bget tl b) (hn : nx ≤ nx') (hfr : chkFr (newIn bx1 (pre ++ tl)) (hasB (pre ++ tl)) fr1 fr')
  (hbox : AllB (fun b c' => (bget (pre0 ++ tl) b = some c' ∧ bget bx1 b = some c') ∨ chkBx1 (newIn bx1 (pre ++ tl)) (hasB (pre ++ tl)) (bget bx1 b) c') pre)
  (hid : AllB (fun b _ => (∃ c,bget (pre0 ++ tl) b = some c) ∨ b.id < nx') pre) (hk : AllB (fun b _ => ∀ c1,bget bx1 b = some c1 → ∃ c',bget (pre ++ tl) b = some c' ∧ Kin c1 c') pre0) : ChkG (pre0 ++ tl) nx fr1 bx1 fr' (pre ++ tl) nx' := by
 have hi : ∀ {q : Bx} {b : Bn} {c : Box},¬ b.id < B → bget (q ++ tl) b = some c → bget q b = some c := fun {q b c} hb h => by
  have hn : bget tl b = none := by
   cases b with
   | n k => exact hT.nn k (.inr (by simp only [Bn.id] at hb; omega))
   | f k z => exact hT.nf k z (.inr (by simp only [Bn.id] at hb; omega))
  cases hq : bget q b with
  | none => rw [bget_app2 hq,hn] at h; cases h
  | some c2 => rw [bget_app hq] at h; exact h
 refine ⟨none,trivial,hn,hfr,fun b c' hb => ?_,fun b c' hb => ?_,fun b c0 c1 q0 q1 => ?_⟩
 ·by_cases hlt : b.id < B
  ·rw [bget_low hp hlt] at hb
   exact .inl ⟨by rw [bget_low hp0 hlt]; exact hb,by rw [h1 b hlt]; exact hb⟩
  ·exact hbox.get _ _ (hi hlt hb)
 ·by_cases hlt : b.id < B
  ·rw [bget_low hp hlt] at hb
   exact .inl ⟨c',by rw [bget_low hp0 hlt]; exact hb⟩
  ·exact hid.get _ _ (hi hlt hb)
 ·by_cases hlt : b.id < B
  ·rw [bget_low hp0 hlt] at q0
   rw [h1 b hlt,q0] at q1
   cases q1
   exact ⟨c0,by rw [bget_low hp hlt]; exact q0,Kin.refl _⟩
  ·exact hk.get _ _ (hi hlt q0) c1 q1
structure Sk (B : Nat) (f : SFrame) (stk : List SFrame) : Prop where
 fn : ∀ k v,B ≤ k → subFr (.n k) v f.fr = f.fr
 ff : ∀ k z v,B ≤ k → subFr (.f k z) v f.fr = f.fr
 sn : ∀ k v,B ≤ k → subStk (.n k) v stk = stk
 sf : ∀ k z v,B ≤ k → subStk (.f k z) v stk = stk
 nx : ∀ n ∈ f.nx :: stkNx stk,n ≤ B
end Go.Proofs.Ytlapepdhkomijaa
