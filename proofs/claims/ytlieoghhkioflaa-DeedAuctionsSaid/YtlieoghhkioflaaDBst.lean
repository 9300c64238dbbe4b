/- Auctions: the bids that win, by trial of all sets, the reference's. No condition but bounds. -/
import Derived.Test.YtlieoghhkioflaaDTog
import Derived.Test.YtlieoghhkioflaaDErl
import Derived.Test.YtlieoghhkioflaaDTop
import Derived.Test.YtlieoghhkioflaaDBid
set_option linter.unusedSimpArgs false
set_option linter.unusedVariables false
namespace Go.Proofs.Ytlieoghhkioflaa
open Go Go.RowKit
variable {G : Nat → Option (Nat × (Nat → Val))}
theorem bit_and (s j : Nat) (hs : s < 4096) : bits .and .i64 ((s : Int) / 2 ^ j) 1 = if s.testBit j then 1 else 0 := by
 have e1 : (s : Int) / 2 ^ j = ((s / 2 ^ j : Nat) : Int) := by simp
 rw [e1,Nat.testBit_eq_decide_div_mod_eq]
 have h2 : s / 2 ^ j < 4096 := Nat.lt_of_le_of_lt (Nat.div_le_self _ _) hs
 generalize s / 2 ^ j = q at h2
 have h1 : (BitVec.ofInt 64 (q : Int)).toNat = q := by
  rw [BitVec.ofInt_natCast,BitVec.toNat_ofNat]; exact Nat.mod_eq_of_lt (by omega)
 have h3 : (BitVec.ofInt 64 1).toNat = 1 := by decide
 show IntKind.i64.wrap ((BitVec.ofInt 64 (q : Int) &&& BitVec.ofInt 64 1).toNat : Int) = _
 rw [BitVec.toNat_and,h1,h3,Nat.and_one_is_mod,wr64 (by omega) (by omega)]
 simp only [decide_eq_true_eq]
 split <;> omega
theorem shl1 {n : Nat} (h : n ≤ 12) : IntKind.wrap .i64 (1 * 2 ^ n) = ((2 ^ n : Nat) : Int) := by
 have h1 : (2 : Nat) ^ n ≤ 2 ^ 12 := Nat.pow_le_pow_right (by omega) h
 have e : (1 : Int) * 2 ^ n = ((2 ^ n : Nat) : Int) := by simp
 rw [e]
 generalize 2 ^ n = m at h1 ⊢
 rw [wr64 (by omega) (by omega)]
def lfn (l : List Nat) (i : Nat) : Int := ((l.getD i 0 : Nat) : Int)
abbrev lv (l : List Nat) : Ints := (l.length,lfn l)
abbrev lV (l : List Nat) : Val := .view 1 l.length fun i _ => .int .i64 (lfn l i)
abbrev bF (b : Bds) (i : Nat) : Int := (b.2 i).turn.fro
abbrev bT (b : Bds) (i : Nat) : Int := (b.2 i).turn.til
abbrev bV (b : Bds) (i : Nat) : Int := (b.2 i).baisa
theorem sumA_val (b : Bds) (l : List Nat) : sumA b (lv l) l.length = valL (bV b) l := by
 have key : ∀ j,j ≤ l.length → sumA b (lv l) j = valL (bV b) (l.take j) := by
  intro j
  induction j with
  | zero => intro _; rfl
  | succ j ih =>
   intro hj
   have e : lfn l j = ((l[j] : Nat) : Int) := by simp [lfn,List.getElem?_eq_getElem (show j < l.length by omega)]
   rw [sumA,ih (by omega),List.take_add_one,List.getElem?_eq_getElem (show j < l.length by omega)]
   simp only [valL,List.map_append,List.sum_append,Option.toList,List.map_cons,List.map_nil,List.sum_cons,List.sum_nil,bdA,lv,e,Int.toNat_natCast,Int.add_zero]
 rw [key _ (Nat.le_refl _),List.take_length]
theorem tog_pw (b : Bds) (l : List Nat) (hl : l.Pairwise (fun x y => x < y)) (hb : ∀ i ∈ l,(b.2 i).turn.fro < (b.2 i).turn.til) : Tog b (lv l) ↔ pw (bF b) (bT b) l = true := by
 have hm : ∀ i k,i ∈ l → k ∈ l → (¬ meets (b.2 i).turn (b.2 k).turn ↔ apt (bF b) (bT b) i k = true) := by
  intro i k hi hk
  have h1 := hb i hi
  have h2 := hb k hk
  unfold meets apt
  simp only [Bool.or_eq_true,decide_eq_true_eq,bF,bT]
  omega
 have hbd : ∀ i (h : i < l.length),bdA b (lv l) i = b.2 l[i] := by
  intro i h; simp [bdA,lfn,List.getElem?_eq_getElem h]
 rw [pw_iff _ _ l hl]
 constructor
 ·intro h i k hi hk hik
  obtain ⟨p,hp,rfl⟩ := List.getElem_of_mem hi
  obtain ⟨q,hq,rfl⟩ := List.getElem_of_mem hk
  rcases Nat.lt_trichotomy p q with c | c | c
  ·rw [apt_sym]
   have := h q hq p c
   rw [hbd q hq,hbd p hp] at this
   exact (hm _ _ hk hi).1 this
  ·subst c; exact absurd rfl hik
  ·have := h p hp q c
   rw [hbd q hq,hbd p hp] at this
   exact (hm _ _ hi hk).1 this
 ·intro h i hi k hk
  have hk' : k < l.length := Nat.lt_trans hk hi
  rw [hbd i hi,hbd k hk']
  refine (hm _ _ (List.getElem_mem _) (List.getElem_mem _)).2 (h _ _ (List.getElem_mem _) (List.getElem_mem _) ?_)
  have := List.pairwise_iff_getElem.1 hl k i hk' hi hk
  omega
theorem erl_lv (x y : List Nat) : Erl (lv x) (lv y) ↔ earl x y = true := by
 have hg : ∀ (l : List Nat) (a : Nat) (i : Nat),lfn (a :: l) (i + 1) = lfn l i := fun l a i => by simp [lfn]
 have h0 : ∀ (l : List Nat) (a : Nat),lfn (a :: l) 0 = a := fun l a => by simp [lfn]
 induction x generalizing y with
 | nil =>
  cases y with
  | nil => simp [earl,Erl]
  | cons b y => simp only [earl,iff_true]; exact ⟨0,fun k hk => by omega,.inr ⟨rfl,by simp⟩⟩
 | cons a x ih =>
  cases y with
  | nil =>
   simp only [earl,Bool.false_eq_true,iff_false]
   rintro ⟨i,_,h⟩
   simp at h
  | cons b y =>
   by_cases hab : a = b
   ·subst hab
    have : earl (a :: x) (a :: y) = earl x y := by simp [earl]
    rw [this]
    refine Iff.trans ?_ (ih y)
    constructor
    ·rintro ⟨i,h1,h2⟩
     cases i with
     | zero => simp [h0] at h2
     | succ i =>
      refine ⟨i,fun k hk => ?_,?_⟩
      ·have : lfn (a :: x) (k + 1) = lfn (a :: y) (k + 1) := h1 (k + 1) (by omega)
       rw [hg,hg] at this
       exact this
      ·simp only [lv,hg,List.length_cons] at h2 ⊢
       omega
    ·rintro ⟨i,h1,h2⟩
     refine ⟨i + 1,fun k hk => ?_,?_⟩
     ·cases k with
      | zero => simp [h0]
      | succ k => simp only [hg]; exact h1 k (by omega)
     ·simp only [lv,hg,List.length_cons] at h2 ⊢
      omega
   ·have : earl (a :: x) (b :: y) = decide (a < b) := by simp [earl,hab]
    rw [this,decide_eq_true_eq]
    constructor
    ·rintro ⟨i,h1,h2⟩
     cases i with
     | zero => simp [h0] at h2; omega
     | succ i => have := h1 0 (by omega); simp only [h0] at this; omega
    ·intro h
     exact ⟨0,fun k hk => by omega,.inl ⟨by simp,by simp,by simp only [h0]; omega⟩⟩
def stS (n : Nat) (val : List Nat → Int) (S : List Nat → Bool) (s : Nat) : List Nat × Int := ((List.range' 1 (s - 1)).map (bl n)).foldl (upE val S) ([],0)
theorem stS_succ (n : Nat) (val : List Nat → Int) (S : List Nat → Bool) (s : Nat) (h : 1 ≤ s) : stS n val S (s + 1) = upE val S (stS n val S s) (bl n s) := by
 obtain ⟨t,rfl⟩ : ∃ t,s = t + 1 := ⟨s - 1,by omega⟩
 simp only [stS,Nat.add_sub_cancel,List.range'_1_concat,List.map_append,List.map_cons,List.map_nil,List.foldl_append,List.foldl_cons,List.foldl_nil]
 rw [Nat.add_comm 1 t]
theorem allS_st (n : Nat) (val : List Nat → Int) (S : List Nat → Bool) : stS n val S (2 ^ n) = allS n val S := rfl
def blp (s j : Nat) : List Nat := (List.range j).filter fun i => s.testBit i
theorem blp_succ (s j : Nat) : blp s (j + 1) = if s.testBit j then blp s j ++ [j] else blp s j := by
 simp only [blp,List.range_succ,List.filter_append,List.filter_cons,List.filter_nil]
 split <;> simp
theorem lfn_app (l : List Nat) (j i : Nat) : lfn (l ++ [j]) i = if i < l.length then lfn l i else if i = l.length then (j : Int) else 0 := by
 unfold lfn
 rcases Nat.lt_trichotomy i l.length with h | h | h
 ·rw [if_pos h]; simp [List.getElem?_append_left h]
 ·subst h; simp
 ·rw [if_neg (by omega),if_neg (by omega)]
  rw [List.getD_eq_getElem?_getD,List.getElem?_eq_none (by simp; omega)]; rfl
noncomputable def bestB (b : Bds) (x : Int) : List Nat × Int := allS b.1 (valL (bV b)) (sAt (bF b) (bT b) x)
noncomputable def sBest : Spec := spec2 (TSl RBd) TI (fun b _ => b.1 ≤ 12 ∧ ∀ i,i < b.1 → (b.2 i).turn.fro < (b.2 i).turn.til ∧ 0 ≤ (b.2 i).baisa ∧ (b.2 i).baisa ≤ 1000000000) fun b x => .tup (.cons (lV (bestB b x).1) (.cons (.int .i64 (bestB b x).2) .nil))
set_option maxRecDepth 100000 in
theorem pBest : PureOk Try.prog G 28 sBest := by
 refine fn2 (S := [(50,sTog),(51,sErl)]) (I := []) mixed (.cons pTog (.cons pErl .nil)) .nil Try.func28 c28 fun b x hp hw => ?_
 simp only [↓reduceIte,reduceCtorEq,Nat.reduceEqDiff,Nat.reduceAdd,Nat.reduceSub,Nat.reduceLeDiff,Nat.reduceMul,Nat.reduceLT,Int.reduceToNat,Int.reduceLT,Int.reduceLE,Int.reduceEq,Int.reduceNeg,Int.reduceMul,Int.reduceAdd,Int.reduceSub,Int.reduceNe,Int.reduceBEq,Int.reduceBNe,Nat.reducePow,go_sem] at hw
 obtain ⟨p1,p2⟩ := hp
 have hpow : (2 : Nat) ^ b.1 ≤ 2 ^ 12 := Nat.pow_le_pow_right (by omega) p1
 simp only [RunTo,a28,hw,↓reduceIte,reduceCtorEq,Nat.reduceEqDiff,Nat.reduceAdd,Nat.reduceSub,Nat.reduceLeDiff,Nat.reduceMul,Nat.reduceLT,Int.reduceToNat,Int.reduceLT,Int.reduceLE,Int.reduceEq,Int.reduceNeg,Int.reduceMul,Int.reduceAdd,Int.reduceSub,Int.reduceNe,Int.reduceBEq,Int.reduceBNe,Nat.reducePow,go_sem]
 generalize hV : valL (bV b) = V at *
 generalize hS : sAt (bF b) (bT b) x = S at *
 refine loopI (ι := Nat) (fun s => 1 ≤ s ∧ s ≤ 2 ^ b.1) (fun s => 2 ^ b.1 - s) [0,1] (fun s => [(6,lV (stS b.1 V S s).1),(7,.int .i64 (stS b.1 V S s).2),(8,.int .i64 s)]) (fun _ => []) 1 ⟨by omega,Nat.one_le_two_pow⟩ (by simp only [stS,List.range'_zero,List.map_nil,List.foldl_nil,List.length_nil,↓reduceIte,reduceCtorEq,Nat.reduceEqDiff,Nat.reduceAdd,Nat.reduceSub,Nat.reduceLeDiff,Nat.reduceMul,Nat.reduceLT,Int.reduceToNat,Int.reduceLT,Int.reduceLE,Int.reduceEq,Int.reduceNeg,Int.reduceMul,Int.reduceAdd,Int.reduceSub,Int.reduceNe,Int.reduceBEq,Int.reduceBNe,Nat.reducePow,go_sem]; try exact ⟨.inl ⟨rfl,rfl⟩,rfl,rfl⟩) fun s hs => ?_
 obtain ⟨hs1,hs2⟩ := hs
 have hst := stS_succ b.1 V S s hs1
 by_cases hsl : s < 2 ^ b.1
 ·have hsh := shl1 p1
  have f1 : ((s : Int) < ((2 ^ b.1 : Nat) : Int)) = True := eq_true (by omega)
  have f2 : (0 ≤ (b.1 : Int)) = True := eq_true (by omega)
  have f3 : ((b.1 : Int) ≤ 64) = True := eq_true (by omega)
  have hs4 : s < 4096 := by omega
  generalize stS b.1 V S s = q at *
  simp only [hsh,f1,f2,f3,hw,↓reduceIte,reduceCtorEq,Nat.reduceEqDiff,Nat.reduceAdd,Nat.reduceSub,Nat.reduceLeDiff,Nat.reduceMul,Nat.reduceLT,Int.reduceToNat,Int.reduceLT,Int.reduceLE,Int.reduceEq,Int.reduceNeg,Int.reduceMul,Int.reduceAdd,Int.reduceSub,Int.reduceNe,Int.reduceBEq,Int.reduceBNe,Nat.reducePow,go_sem]
  refine loopJ (ι := Nat) (fun j => j ≤ b.1) (fun j => b.1 - j) [0,1,6,7,8] (fun j => [(9,.own (.n 0)),(10,.bool ((blp s j).all fun i => decide (bT b i ≤ x))),(11,.int .i64 j)]) (fun j => [(0,.row 3 1 (blp s j).length fun a _ => .int .i64 (lfn (blp s j) a))]) 1 0 (Nat.zero_le _) (by simp only [blp,List.range_zero,List.filter_nil,List.all_nil,List.length_nil,↓reduceIte,reduceCtorEq,Nat.reduceEqDiff,Nat.reduceAdd,Nat.reduceSub,Nat.reduceLeDiff,Nat.reduceMul,Nat.reduceLT,Int.reduceToNat,Int.reduceLT,Int.reduceLE,Int.reduceEq,Int.reduceNeg,Int.reduceMul,Int.reduceAdd,Int.reduceSub,Int.reduceNe,Int.reduceBEq,Int.reduceBNe,Nat.reducePow,go_sem]; try simp) fun j hj => ?_
  by_cases hjl : j < b.1
  ·have fj : ((j : Int) < (b.1 : Int)) = True := eq_true (by omega)
   have g1 : (0 ≤ (j : Int)) = True := eq_true (by omega)
   have g2 : ((j : Int) ≤ 64) = True := eq_true (by omega)
   have hbit := bit_and s j hs4
   have hsuc := blp_succ s j
   have hlen : (blp s j).length ≤ j := by
    have := List.length_filter_le (fun i => s.testBit i) (List.range j)
    rw [List.length_range] at this; exact this
   have happ := lfn_app (blp s j) j
   generalize blp s j = l at *
   cases hb : s.testBit j with
   | true =>
    rw [hb,if_pos rfl] at hbit hsuc
    simp only [fj,g1,g2,hbit,hw,↓reduceIte,reduceCtorEq,Nat.reduceEqDiff,Nat.reduceAdd,Nat.reduceSub,Nat.reduceLeDiff,Nat.reduceMul,Nat.reduceLT,Int.reduceToNat,Int.reduceLT,Int.reduceLE,Int.reduceEq,Int.reduceNeg,Int.reduceMul,Int.reduceAdd,Int.reduceSub,Int.reduceNe,Int.reduceBEq,Int.reduceBNe,Nat.reducePow,go_sem]
    refine ⟨by omega,by omega,?_⟩
    have key : ∀ a,a < l.length + 1 → (if a < l.length then Val.int .i64 (lfn l a) else vget (vget (.cons (.cons (.int .i64 (j : Int)) .nil) .nil) (a - l.length)) 0) = .int .i64 (lfn (l ++ [j]) a) := fun a ha => by
     rw [happ]
     by_cases e : a < l.length
     ·rw [if_pos e,if_pos e]
     ·obtain rfl : a = l.length := by omega
      rw [if_neg e,if_neg e,if_pos rfl,Nat.sub_self]; rfl
    constructor
    all_goals
     intro hall
     refine inv_intro (j + 1) hjl (by omega) ?_
     simp only [hsuc,List.length_append,List.length_cons,List.length_nil,List.all_append,List.all_cons,List.all_nil,hall,Bool.true_and,Bool.false_and,Bool.and_true,↓reduceIte,reduceCtorEq,Nat.reduceEqDiff,Nat.reduceAdd,Nat.reduceSub,Nat.reduceLeDiff,Nat.reduceMul,Nat.reduceLT,Int.reduceToNat,Int.reduceLT,Int.reduceLE,Int.reduceEq,Int.reduceNeg,Int.reduceMul,Int.reduceAdd,Int.reduceSub,Int.reduceNe,Int.reduceBEq,Int.reduceBNe,Nat.reducePow,go_sem]
     refine ⟨wrS (by omega),fun a ha c hc => ?_⟩
     obtain rfl : c = 0 := by omega
     exact key a ha
   | false =>
    rw [hb,if_neg Bool.false_ne_true] at hbit hsuc
    simp only [fj,g1,g2,hbit,hw,↓reduceIte,reduceCtorEq,Nat.reduceEqDiff,Nat.reduceAdd,Nat.reduceSub,Nat.reduceLeDiff,Nat.reduceMul,Nat.reduceLT,Int.reduceToNat,Int.reduceLT,Int.reduceLE,Int.reduceEq,Int.reduceNeg,Int.reduceMul,Int.reduceAdd,Int.reduceSub,Int.reduceNe,Int.reduceBEq,Int.reduceBNe,Nat.reducePow,go_sem]
    refine inv_intro (j + 1) hjl (by omega) ?_
    simp only [hsuc,↓reduceIte,reduceCtorEq,Nat.reduceEqDiff,Nat.reduceAdd,Nat.reduceSub,Nat.reduceLeDiff,Nat.reduceMul,Nat.reduceLT,Int.reduceToNat,Int.reduceLT,Int.reduceLE,Int.reduceEq,Int.reduceNeg,Int.reduceMul,Int.reduceAdd,Int.reduceSub,Int.reduceNe,Int.reduceBEq,Int.reduceBNe,Nat.reducePow,go_sem]
    exact wrS (by omega)
  ·have fj : ((j : Int) < (b.1 : Int)) = False := eq_false (by omega)
   obtain rfl : j = b.1 := by omega
   have hup := hst
   rw [show bl b.1 s = blp s b.1 from rfl,upE] at hup
   have he1 : ∀ i ∈ blp s b.1,i < b.1 := fun i hi => List.mem_range.1 (List.mem_filter.1 hi).1
   have he2 : (blp s b.1).Pairwise (fun x y => x < y) := List.Pairwise.filter _ List.pairwise_lt_range
   have he3 : (blp s b.1).length ≤ b.1 := by
    have := List.length_filter_le (fun i => s.testBit i) (List.range b.1)
    rw [List.length_range] at this; exact this
   generalize blp s b.1 = e at *
   have hSe : S e = ((e.all fun i => decide (bT b i ≤ x)) && pw (bF b) (bT b) e) := by rw [← hS]; rfl
   have hL : LOk b (e.length,lfn e) = True := eq_true ⟨by show e.length ≤ 12; omega,fun i hi => by
    have hi' : i < e.length := hi
    have := he1 _ (List.getElem_mem hi')
    show 0 ≤ lfn e i ∧ lfn e i < b.1
    rw [show lfn e i = ((e[i] : Nat) : Int) by simp [lfn,List.getElem?_eq_getElem hi']]
    omega,fun i hi => (p2 i hi).2⟩
   cases hal : e.all fun i => decide (bT b i ≤ x) with
   | false =>
    rw [hSe,hal] at hup
    simp only [fj,hal,hw,↓reduceIte,reduceCtorEq,Nat.reduceEqDiff,Nat.reduceAdd,Nat.reduceSub,Nat.reduceLeDiff,Nat.reduceMul,Nat.reduceLT,Int.reduceToNat,Int.reduceLT,Int.reduceLE,Int.reduceEq,Int.reduceNeg,Int.reduceMul,Int.reduceAdd,Int.reduceSub,Int.reduceNe,Int.reduceBEq,Int.reduceBNe,Nat.reducePow,go_sem]
    refine inv_intro (s + 1) ⟨by omega,by omega⟩ (by omega) ?_
    rw [hup]
    simp only [Bool.false_and,Bool.false_eq_true,if_false,↓reduceIte,reduceCtorEq,Nat.reduceEqDiff,Nat.reduceAdd,Nat.reduceSub,Nat.reduceLeDiff,Nat.reduceMul,Nat.reduceLT,Int.reduceToNat,Int.reduceLT,Int.reduceLE,Int.reduceEq,Int.reduceNeg,Int.reduceMul,Int.reduceAdd,Int.reduceSub,Int.reduceNe,Int.reduceBEq,Int.reduceBNe,Nat.reducePow,go_sem]
    exact wrS (by omega)
   | true =>
    rw [hSe,hal,Bool.true_and] at hup
    have htg := tog_pw b e he2 (fun i hi => (p2 i (he1 i hi)).1)
    have hsm := sumA_val b e
    rw [hV] at hsm
    cases hpw : pw (bF b) (bT b) e with
    | false =>
     have hT : togB b (e.length,lfn e) = .tup (.cons (.int .i64 0) (.cons (.bool false) .nil)) := by
      rw [togB,decP_f (fun h => by rw [htg.1 h] at hpw; cases hpw)]; rfl
     rw [hpw] at hup
     simp only [fj,hal,sTog,hT,hL,hw,↓reduceIte,reduceCtorEq,Nat.reduceEqDiff,Nat.reduceAdd,Nat.reduceSub,Nat.reduceLeDiff,Nat.reduceMul,Nat.reduceLT,Int.reduceToNat,Int.reduceLT,Int.reduceLE,Int.reduceEq,Int.reduceNeg,Int.reduceMul,Int.reduceAdd,Int.reduceSub,Int.reduceNe,Int.reduceBEq,Int.reduceBNe,Nat.reducePow,go_sem]
     refine inv_intro (s + 1) ⟨by omega,by omega⟩ (by omega) ?_
     rw [hup]
     simp only [Bool.false_and,Bool.false_eq_true,if_false,↓reduceIte,reduceCtorEq,Nat.reduceEqDiff,Nat.reduceAdd,Nat.reduceSub,Nat.reduceLeDiff,Nat.reduceMul,Nat.reduceLT,Int.reduceToNat,Int.reduceLT,Int.reduceLE,Int.reduceEq,Int.reduceNeg,Int.reduceMul,Int.reduceAdd,Int.reduceSub,Int.reduceNe,Int.reduceBEq,Int.reduceBNe,Nat.reducePow,go_sem]
     exact wrS (by omega)
    | true =>
     have hT : togB b (e.length,lfn e) = .tup (.cons (.int .i64 (V e)) (.cons (.bool true) .nil)) := by
      rw [togB,decP_t (htg.2 hpw),if_pos rfl]
      simp only [hsm]
     have hE : decP (Erl (e.length,lfn e) (q.1.length,lfn q.1)) = earl e q.1 := by
      cases h : earl e q.1 with
      | true => exact decP_t ((erl_lv e q.1).2 h)
      | false => exact decP_f fun h2 => by rw [(erl_lv e q.1).1 h2] at h; cases h
     rw [hpw,Bool.true_and] at hup
     simp only [fj,hal,sTog,sErl,hT,hL,hE,hw,↓reduceIte,reduceCtorEq,Nat.reduceEqDiff,Nat.reduceAdd,Nat.reduceSub,Nat.reduceLeDiff,Nat.reduceMul,Nat.reduceLT,Int.reduceToNat,Int.reduceLT,Int.reduceLE,Int.reduceEq,Int.reduceNeg,Int.reduceMul,Int.reduceAdd,Int.reduceSub,Int.reduceNe,Int.reduceBEq,Int.reduceBNe,Nat.reducePow,go_sem]
     refine ⟨fun hg => ?_,fun hng => ⟨fun heq _ => ⟨fun hea => ?_,fun hea => ?_⟩,fun hne => ?_⟩⟩
     ·rw [decide_eq_true hg,Bool.true_or,if_pos rfl] at hup
      refine inv_frz [.n 0] (s + 1) rfl (fun _ _ _ h => by cases h) ⟨by omega,by omega⟩ (by omega) ?_
      rw [hup]
      simp only [↓reduceIte,reduceCtorEq,Nat.reduceEqDiff,Nat.reduceAdd,Nat.reduceSub,Nat.reduceLeDiff,Nat.reduceMul,Nat.reduceLT,Int.reduceToNat,Int.reduceLT,Int.reduceLE,Int.reduceEq,Int.reduceNeg,Int.reduceMul,Int.reduceAdd,Int.reduceSub,Int.reduceNe,Int.reduceBEq,Int.reduceBNe,Nat.reducePow,go_sem]
      exact wrS (by omega)
     ·rw [decide_eq_true heq,hea,Bool.true_and,Bool.or_true,if_pos rfl] at hup
      refine inv_frz [.n 0] (s + 1) rfl (fun _ _ _ h => by cases h) ⟨by omega,by omega⟩ (by omega) ?_
      rw [hup]
      simp only [↓reduceIte,reduceCtorEq,Nat.reduceEqDiff,Nat.reduceAdd,Nat.reduceSub,Nat.reduceLeDiff,Nat.reduceMul,Nat.reduceLT,Int.reduceToNat,Int.reduceLT,Int.reduceLE,Int.reduceEq,Int.reduceNeg,Int.reduceMul,Int.reduceAdd,Int.reduceSub,Int.reduceNe,Int.reduceBEq,Int.reduceBNe,Nat.reducePow,go_sem]
      exact wrS (by omega)
     ·rw [hea,Bool.and_false,Bool.or_false,decide_eq_false hng,if_neg Bool.false_ne_true] at hup
      refine inv_intro (s + 1) ⟨by omega,by omega⟩ (by omega) ?_
      rw [hup]
      simp only [↓reduceIte,reduceCtorEq,Nat.reduceEqDiff,Nat.reduceAdd,Nat.reduceSub,Nat.reduceLeDiff,Nat.reduceMul,Nat.reduceLT,Int.reduceToNat,Int.reduceLT,Int.reduceLE,Int.reduceEq,Int.reduceNeg,Int.reduceMul,Int.reduceAdd,Int.reduceSub,Int.reduceNe,Int.reduceBEq,Int.reduceBNe,Nat.reducePow,go_sem]
      exact wrS (by omega)
     ·rw [decide_eq_false hne,Bool.false_and,Bool.or_false,decide_eq_false hng,if_neg Bool.false_ne_true] at hup
      refine inv_intro (s + 1) ⟨by omega,by omega⟩ (by omega) ?_
      rw [hup]
      simp only [↓reduceIte,reduceCtorEq,Nat.reduceEqDiff,Nat.reduceAdd,Nat.reduceSub,Nat.reduceLeDiff,Nat.reduceMul,Nat.reduceLT,Int.reduceToNat,Int.reduceLT,Int.reduceLE,Int.reduceEq,Int.reduceNeg,Int.reduceMul,Int.reduceAdd,Int.reduceSub,Int.reduceNe,Int.reduceBEq,Int.reduceBNe,Nat.reducePow,go_sem]
      exact wrS (by omega)
 ·obtain rfl : s = 2 ^ b.1 := by omega
  have hsh := shl1 p1
  have f1 : (((2 ^ b.1 : Nat) : Int) < ((2 ^ b.1 : Nat) : Int)) = False := eq_false (by omega)
  have f2 : (0 ≤ (b.1 : Int)) = True := eq_true (by omega)
  have f3 : ((b.1 : Int) ≤ 64) = True := eq_true (by omega)
  have hB : stS b.1 V S (2 ^ b.1) = bestB b x := by rw [allS_st,← hV,← hS]; rfl
  rw [hB]
  simp only [hsh,f1,f2,f3,hw,↓reduceIte,reduceCtorEq,Nat.reduceEqDiff,Nat.reduceAdd,Nat.reduceSub,Nat.reduceLeDiff,Nat.reduceMul,Nat.reduceLT,Int.reduceToNat,Int.reduceLT,Int.reduceLE,Int.reduceEq,Int.reduceNeg,Int.reduceMul,Int.reduceAdd,Int.reduceSub,Int.reduceNe,Int.reduceBEq,Int.reduceBNe,Nat.reducePow,go_sem]
end Go.Proofs.Ytlieoghhkioflaa
