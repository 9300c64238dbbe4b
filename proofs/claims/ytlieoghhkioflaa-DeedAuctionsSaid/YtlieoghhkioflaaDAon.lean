/- Auctions: the program's search goes on from a list. No condition but bounds. -/
import Derived.Test.YtlieoghhkioflaaDAcP
set_option linter.unusedSimpArgs false
set_option linter.unusedVariables false
namespace Go.Proofs.Ytlieoghhkioflaa
open Go Go.RowKit
variable {G : Nat → Option (Nat × (Nat → Val))}
noncomputable abbrev okB (b : Bds) : List Nat → Nat → Bool := okA (bF b) (bT b)
noncomputable abbrev vaB (b : Bds) : List Nat → Int := valL (bV b)
noncomputable def onF (b : Bds) (k : Nat) (l : List Nat) (st : List Nat × Int) : List Nat × Int := (exts b.1 (okB b) k l).foldl (up (vaB b)) (up (vaB b) st l)
theorem valL_app (V : Nat → Int) (l : List Nat) (i : Nat) : valL V (l ++ [i]) = valL V l + V i := by simp [valL]
theorem valL_le (V : Nat → Int) : ∀ l : List Nat,(∀ i ∈ l,0 ≤ V i ∧ V i ≤ 1000000000) → 0 ≤ valL V l ∧ valL V l ≤ l.length * 1000000000
 | [],_ => by simp [valL]
 | a :: l,h => by
  have ih := valL_le V l fun i hi => h i (List.mem_cons_of_mem _ hi)
  have := h a (List.mem_cons_self ..)
  have e : valL V (a :: l) = V a + valL V l := by simp [valL]
  rw [e,List.length_cons]; omega
theorem up_ge (val : List Nat → Int) : ∀ (xs : List (List Nat)) (st : List Nat × Int),st.2 ≤ (xs.foldl (up val) st).2
 | [],_ => Int.le_refl _
 | x :: xs,st => by
  have h1 : st.2 ≤ (up val st x).2 := by
   unfold up; split
   ·rename_i h; show st.2 ≤ val x; omega
   ·exact Int.le_refl _
  exact Int.le_trans h1 (up_ge val xs _)
theorem bget_cons1 (n : Nat) (c : Box) (l : Bx) (y : Bn) : bget ((n,.one c) :: l) y = if y = .n n then some c else bget l y := by
 cases y with
 | n x =>
  simp only [bget,Bn.n.injEq]
  by_cases e : n = x
  ·subst e; simp
  ·rw [if_neg e,if_neg (fun h => e h.symm)]
 | f a z => simp [bget]
theorem cutO {E : Env} {Q : Val → Bx → Prop} {c : ACode} {K : List Item} {stk : List SFrame} {res : List ARes} {nx : Nat} {H : Nat → Fr → Bx → Prop} {C : Prop} (key : ∀ (m : Nat) (fr : Fr) (bx : Bx),H m fr bx → LoopP (runO E Q m) c K stk res fr bx nx) (main : (∀ (m : Nat) (fr : Fr) (bx : Bx),H m fr bx → LoopP (runO E Q m) c K stk res fr bx nx) → C) : C := main key
set_option maxHeartbeats 4000000 in
set_option maxRecDepth 100000 in
theorem aon_run {Q : Val → Bx → Prop} {b : Bds} (hn : b.1 ≤ 12) (hb : ∀ i,i < b.1 → 0 ≤ (b.2 i).baisa ∧ (b.2 i).baisa ≤ 1000000000) : ∀ (k : Nat),k ≤ b.1 → ∀ (l w : List Nat) (s : Int) (u wv : Val) (bx : Bx) (nx B : Nat) (f : SFrame) (stk : List SFrame),
  1000 * (k + 2) ≤ B → ((∃ c : Nat → Nat → Val,u = .view 1 l.length c ∧ ∀ a,a < l.length → c a 0 = .int .i64 (lfn l a)) ∨ u = .nils ∧ l = []) → (l = [] ∧ k = b.1 ∨ 0 < l.length ∧ l.getD (l.length - 1) 0 + 1 + k = b.1) → (∀ i ∈ l,i < b.1) → l.length + k ≤ b.1 → 0 ≤ s →
  bget bx (.n 1) = some (.cells (.cons (bV4 b) .nil)) → bget bx (.n 2) = some (.cells (.cons wv .nil)) → (∀ N D,vsub N D (lV w) wv) → bget bx (.n 3) = some (.cells (.cons (.int .i64 s) .nil)) →
  bget bx (.n 4) = some (.cells (.cons (.func (.func 21) (.cons (.ptr (.n 3) 0) (.cons (.ptr (.n 2) 0) (.cons (.ptr (.n 1) 0) (.cons (.ptr (.n 4) 0) .nil))))) .nil)) →
  4 < nx → (∀ y,nx ≤ y → bget bx (.n y) = none) → (∀ y c,bget bx y = some c → ∀ z v,nx ≤ z → subBox (.n z) v c = c) → (∀ z v,nx ≤ z → subFr (.n z) v f.fr = f.fr) → (∀ z v,nx ≤ z → subStk (.n z) v stk = stk) →
  (∀ bx' B',B ≤ B' + 1000 → bget bx' (.n 2) = some (.cells (.cons (lV (onF b k l (w,s)).1) .nil)) → bget bx' (.n 3) = some (.cells (.cons (.int .i64 (onF b k l (w,s)).2) .nil)) → (∀ y,y ≠ .n 2 → y ≠ .n 3 → ∀ c,bget bx y = some c → bget bx' y = some c) → runO (EAc G) Q B' f.K stk f.res (fput f.fr f.d (.tup .nil)) bx' nx) →
  runO (EAc G) Q B [.code a21.code] (f :: stk) a21.res (params 0 [u,.int .i64 (vaB b l),.ptr (.n 3) 0,.ptr (.n 2) 0,.ptr (.n 1) 0,.ptr (.n 4) 0]) bx nx := by
 intro k
 induction k using Nat.strongRecOn with
 | ind k ih =>
 intro hk l w s u wv bx nx B f stk hB hu hfst hl hll hs0 h1 h2 hwv h3 h4 hnx hfre HB HS1 HS2 hK
 obtain ⟨B,rfl⟩ : ∃ m,B = m + 990 := ⟨B - 990,by omega⟩
 have hlw : (l.length ≤ 9223372036854775807) = True := eq_true (by omega)
 have hbw : (b.1 ≤ 9223372036854775807) = True := eq_true (by omega)
 have hl12 : (l.length ≤ 12) = True := eq_true (by omega)
 have hvl := valL_le (bV b) l fun i hi => hb i (hl i hi)
 have n1 : (nx = 1) = False := eq_false (by omega)
 have n2 : (nx = 2) = False := eq_false (by omega)
 have n3 : (nx = 3) = False := eq_false (by omega)
 have n4 : (nx = 4) = False := eq_false (by omega)
 have hR : onF b k l (w,s) = (exts b.1 (okB b) k l).foldl (up (vaB b)) (up (vaB b) (w,s) l) := rfl
 generalize hRR : onF b k l (w,s) = R at *
 refine cutO (E := EAc G) (Q := Q) (c := ?c) (K := ?K) (stk := f :: stk) (res := ?res) (nx := nx) (H := fun m fr bx1 => B + 800 ≤ m ∧ ∃ st1 wv1,(exts b.1 (okB b) k l).foldl (up (vaB b)) st1 = R ∧ 0 ≤ st1.2 ∧ (∀ N D,vsub N D (lV st1.1) wv1) ∧ bget bx1 (.n 2) = some (.cells (.cons wv1 .nil)) ∧ bget bx1 (.n 3) = some (.cells (.cons (.int .i64 st1.2) .nil)) ∧ (∀ y,y ≠ .n 2 → y ≠ .n 3 → bget bx1 y = bget bx y) ∧ fget fr 30 = .int .i64 0 ∧ fget fr 29 = .int .i64 k ∧ fget fr 8 = .int .i64 ((b.1 - k : Nat) : Int) ∧ (∀ N D,vsub N D (lV l) (fget fr 0)) ∧ fget fr 1 = .int .i64 (vaB b l) ∧ fget fr 4 = .ptr (.n 1) 0 ∧ fget fr 5 = .ptr (.n 4) 0) ?key ?main
 case main =>
  intro key
  have g00 : ((0 : Int) > 0) = False := eq_false (by decide)
  have e29' : ∀ x : Int,x = ((b.1 - k : Nat) : Int) → Val.int .i64 (IntKind.i64.wrap ((b.1 : Int) - x)) = .int .i64 k := fun x hx => by
   rw [hx,wr64 (by omega) (by omega)]; exact congrArg _ (by omega)
  have hbx3 : ∀ v1 v2 y,y ≠ Bn.n 2 → y ≠ Bn.n 3 → bget (bset (bset bx (.n 2) v1) (.n 3) v2) y = bget bx y := fun v1 v2 y h2 h3 => by rw [bget_bset,if_neg h3,bget_bset,if_neg h2]
  have hbx1 : ∀ v1 v2,bget (bset (bset bx (.n 2) v1) (.n 3) v2) (.n 2) = some v1 := fun v1 v2 => by rw [bget_bset,if_neg (by simp),bget_bset,if_pos rfl]
  have hbx2 : ∀ v1 v2,bget (bset (bset bx (.n 2) v1) (.n 3) v2) (.n 3) = some v2 := fun v1 v2 => by rw [bget_bset,if_pos rfl]
  have hvc : ∀ (c : Nat → Nat → Val),(∀ a,a < l.length → c a 0 = .int .i64 (lfn l a)) → ∀ N D,vsub N D (lV l) (.view 1 l.length c) := fun c hc N D => .inr ⟨_,rfl,fun i hi j hj => by
   obtain rfl : j = 0 := by omega
   show vsubP (.int .i64 (lfn l i)) (c i 0)
   rw [hc i hi]; rfl⟩
  by_cases hl0 : l.length = 0
  ·have hl1 : l = [] := List.eq_nil_of_length_eq_zero hl0
   have hkb : k = b.1 := by
    rcases hfst with h | h
    ·exact h.2
    ·omega
   have fl : ((l.length : Int) > 0) = False := eq_false (by omega)
   have hvz : vaB b l = 0 := by rw [hl1]; rfl
   have hgt : ¬ vaB b l > s := by omega
   have fg : (vaB b l > s) = False := eq_false hgt
   have hup : up (vaB b) (w,s) l = (w,s) := by rw [up]; exact if_neg hgt
   rw [hup] at hR
   rcases hu with ⟨c,rfl,hc⟩ | ⟨rfl,hnil⟩
   ·simp only [a21,fg,fl,h1,h2,h3,h4,hlw,hl12,hbw,bget_bset,n1,n2,n3,n4,↓reduceIte,reduceCtorEq,Nat.reduceEqDiff,Nat.reduceAdd,Nat.reduceSub,Nat.reduceLeDiff,Nat.reduceMul,Nat.reduceLT,Int.reduceToNat,Int.reduceLT,Int.reduceLE,Int.reduceEq,Int.reduceNeg,Int.reduceMul,Int.reduceAdd,Int.reduceSub,Int.reduceNe,Int.reduceBEq,Int.reduceBNe,Nat.reducePow,go_sem]
    refine key _ _ _ ?_
    exact ⟨by omega,(w,s),wv,hR.symm,hs0,hwv,h2,h3,fun _ _ _ => rfl,rfl,e29' 0 (by omega),congrArg (Val.int .i64) (by omega),hvc c hc,rfl,rfl,rfl⟩
   ·simp only [a21,fg,fl,g00,h1,h2,h3,h4,hlw,hl12,hbw,bget_bset,n1,n2,n3,n4,↓reduceIte,reduceCtorEq,Nat.reduceEqDiff,Nat.reduceAdd,Nat.reduceSub,Nat.reduceLeDiff,Nat.reduceMul,Nat.reduceLT,Int.reduceToNat,Int.reduceLT,Int.reduceLE,Int.reduceEq,Int.reduceNeg,Int.reduceMul,Int.reduceAdd,Int.reduceSub,Int.reduceNe,Int.reduceBEq,Int.reduceBNe,Nat.reducePow,go_sem]
    refine key _ _ _ ?_
    exact ⟨by omega,(w,s),wv,hR.symm,hs0,hwv,h2,h3,fun _ _ _ => rfl,rfl,e29' 0 (by omega),congrArg (Val.int .i64) (by omega),fun N D => (by show vsub N D (lV l) .nils; rw [hnil,vs_viewn]; rfl),rfl,rfl,rfl⟩
  ·have hlast : lfn l (l.length - 1) + 1 = ((b.1 - k : Nat) : Int) := by
    rcases hfst with h | h
    ·rw [h.1] at hl0; exact absurd rfl hl0
    ·show ((l.getD (l.length - 1) 0 : Nat) : Int) + 1 = _
     omega
   have fl : ((l.length : Int) > 0) = True := eq_true (by omega)
   have w1 : IntKind.i64.wrap ((l.length : Int) - 1) = ((l.length - 1 : Nat) : Int) := by rw [wr64 (by omega) (by omega)]; omega
   have w2 : IntKind.i64.wrap (lfn l (l.length - 1) + 1) = ((b.1 - k : Nat) : Int) := by rw [hlast,wr64 (by omega) (by omega)]
   rcases hu with ⟨c,rfl,hc⟩ | ⟨rfl,hnil⟩
   ·have hcl := hc (l.length - 1) (by omega)
    by_cases hgt : vaB b l > s
    ·have fg : (vaB b l > s) = True := eq_true hgt
     have hup : up (vaB b) (w,s) l = (l,vaB b l) := by rw [up]; exact if_pos hgt
     rw [hup] at hR
     simp only [a21,fg,fl,hcl,w1,w2,h1,h2,h3,h4,hlw,hl12,hbw,sCloneV,bget_bset,Int.toNat_natCast,n1,n2,n3,n4,↓reduceIte,reduceCtorEq,Nat.reduceEqDiff,Nat.reduceAdd,Nat.reduceSub,Nat.reduceLeDiff,Nat.reduceMul,Nat.reduceLT,Int.reduceToNat,Int.reduceLT,Int.reduceLE,Int.reduceEq,Int.reduceNeg,Int.reduceMul,Int.reduceAdd,Int.reduceSub,Int.reduceNe,Int.reduceBEq,Int.reduceBNe,Nat.reducePow,go_sem]
     refine ⟨fun i hi => by rw [hc i hi],by omega,by omega,?_⟩
     refine key _ _ _ ?_
     exact ⟨by omega,(l,vaB b l),_,hR.symm,hvl.1,fun N D => .inr ⟨_,rfl,fun i hi j hj => (by
      show vsubP (.int .i64 (lfn l i)) (.int .i64 _)
      rw [hc i hi]; rfl)⟩,hbx1 _ _,hbx2 _ _,hbx3 _ _,rfl,e29' _ rfl,rfl,hvc c hc,rfl,rfl,rfl⟩
    ·have fg : (vaB b l > s) = False := eq_false hgt
     have hup : up (vaB b) (w,s) l = (w,s) := by rw [up]; exact if_neg hgt
     rw [hup] at hR
     simp only [a21,fg,fl,hcl,w1,w2,h1,h2,h3,h4,hlw,hl12,hbw,bget_bset,Int.toNat_natCast,n1,n2,n3,n4,↓reduceIte,reduceCtorEq,Nat.reduceEqDiff,Nat.reduceAdd,Nat.reduceSub,Nat.reduceLeDiff,Nat.reduceMul,Nat.reduceLT,Int.reduceToNat,Int.reduceLT,Int.reduceLE,Int.reduceEq,Int.reduceNeg,Int.reduceMul,Int.reduceAdd,Int.reduceSub,Int.reduceNe,Int.reduceBEq,Int.reduceBNe,Nat.reducePow,go_sem]
     refine ⟨by omega,by omega,?_⟩
     refine key _ _ _ ?_
     exact ⟨by omega,(w,s),wv,hR.symm,hs0,hwv,h2,h3,fun _ _ _ => rfl,rfl,e29' _ rfl,rfl,hvc c hc,rfl,rfl,rfl⟩
   ·rw [hnil] at hl0; exact absurd rfl hl0
 case key =>
  rintro m fr bx1 ⟨hm,st1,wv1,k1,k2,k4,k5,k6,k7,e30,e29,e8,e0,e1,e4,e5⟩
  obtain ⟨m,rfl⟩ : ∃ m',m = m' + 790 := ⟨m - 790,by omega⟩
  have g1 : bget bx1 (.n 1) = some (.cells (.cons (bV4 b) .nil)) := (k7 _ (by simp) (by simp)).trans h1
  have g4 := (k7 (.n 4) (by simp) (by simp)).trans h4
  have hB1 : ∀ v1 v2,hasB (bset (bset bx1 (.n 2) v1) (.n 3) v2) (.n 1) := fun v1 v2 => ⟨_,by rw [bget_bset,if_neg (by simp),bget_bset,if_neg (by simp),g1]⟩
  have hB4 : ∀ v1 v2,hasB (bset (bset bx1 (.n 2) v1) (.n 3) v2) (.n 4) := fun v1 v2 => ⟨_,by rw [bget_bset,if_neg (by simp),bget_bset,if_neg (by simp),g4]⟩
  refine loop_intro (ι := Nat × (List Nat × Int)) (fun q => q.1 ≤ k ∧ (exts b.1 (okB b) (k - q.1) l).foldl (up (vaB b)) q.2 = R ∧ 0 ≤ q.2.2) (fun q => k - q.1) (fun q => [(30,.int .i64 q.1),(0,lV l),(1,.int .i64 (vaB b l)),(4,.ptr (.n 1) 0),(5,.ptr (.n 4) 0),(8,.int .i64 ((b.1 - k : Nat) : Int)),(29,.int .i64 k)]) (fun q => bset (bset bx1 (.n 2) (.cells (.cons (lV q.2.1) .nil))) (.n 3) (.cells (.cons (.int .i64 q.2.2) .nil))) 0 (0,st1) ⟨Nat.zero_le _,k1,k2⟩ (.inr (chkG_two (Nat.le_refl _) (by simp) k5 k6 k5 k6 (fun _ _ _ _ h => h) ?_ ?_ ?_)) fun q hq => ?_
  ·intro N D
   exact ⟨rfl,_,_,rfl,k4 N D,rfl⟩
  ·intro N D
   exact ⟨rfl,_,_,rfl,rfl,rfl⟩
  ·exact ⟨e30,e0 _ _,e1,⟨e4,hB1 _ _⟩,⟨e5,hB4 _ _⟩,e8,e29,trivial⟩
  ·obtain ⟨r,st⟩ := q
   obtain ⟨q1,q2,q3⟩ := hq
   simp only at q1 q2 q3
   by_cases hr : r < k
   ·have fr' : ((r : Int) < (k : Int)) = True := eq_true (by omega)
    have w3 : IntKind.i64.wrap ((r : Int) + ((b.1 - k : Nat) : Int)) = ((b.1 - k + r : Nat) : Int) := by rw [wr64 (by omega) (by omega)]; omega
    have hex : exts b.1 (okB b) (k - r) l = (if okB b l (b.1 - k + r) = true then (l ++ [b.1 - k + r]) :: exts b.1 (okB b) (k - (r + 1)) (l ++ [b.1 - k + r]) else []) ++ exts b.1 (okB b) (k - (r + 1)) l := by
     rw [show k - r = (k - (r + 1)) + 1 by omega,exts,show b.1 - (k - (r + 1) + 1) = b.1 - k + r by omega]
    generalize hii : b.1 - k + r = i at *
    have hib : i < b.1 := by omega
    generalize hbs : bset (bset bx1 (.n 2) (.cells (.cons (lV st.1) .nil))) (.n 3) (.cells (.cons (.int .i64 st.2) .nil)) = bs
    have hbg : ∀ y,bget bs y = if y = .n 3 then some (.cells (.cons (.int .i64 st.2) .nil)) else if y = .n 2 then some (.cells (.cons (lV st.1) .nil)) else bget bx1 y := fun y => by rw [← hbs,bget_bset,bget_bset]
    have b1 : bget bs (.n 1) = some (.cells (.cons (bV4 b) .nil)) := by rw [hbg,if_neg (by simp),if_neg (by simp),g1]
    have b2 : bget bs (.n 2) = some (.cells (.cons (lV st.1) .nil)) := by rw [hbg,if_neg (by simp),if_pos rfl]
    have b3 : bget bs (.n 3) = some (.cells (.cons (.int .i64 st.2) .nil)) := by rw [hbg,if_pos rfl]
    have b4 := (show bget bs (.n 4) = bget bx1 (.n 4) by rw [hbg,if_neg (by simp),if_neg (by simp)]).trans g4
    simp only [fr',w3,n1,n2,n3,n4,↓reduceIte,reduceCtorEq,Nat.reduceEqDiff,Nat.reduceAdd,Nat.reduceSub,Nat.reduceLeDiff,Nat.reduceMul,Nat.reduceLT,Int.reduceToNat,Int.reduceLT,Int.reduceLE,Int.reduceEq,Int.reduceNeg,Int.reduceMul,Int.reduceAdd,Int.reduceSub,Int.reduceNe,Int.reduceBEq,Int.reduceBNe,Nat.reducePow,go_sem]
    intro _
    refine cf_run (z := nx) (i := i) (b := b) (l := l) (by omega) hn hl (by omega) hib ?_ ?_ fun B' hB' => ?_
    ·simp only [b1,n1,↓reduceIte,reduceCtorEq,Nat.reduceEqDiff,Nat.reduceAdd,Nat.reduceSub,Nat.reduceLeDiff,Nat.reduceMul,Nat.reduceLT,Int.reduceToNat,Int.reduceLT,Int.reduceLE,Int.reduceEq,Int.reduceNeg,Int.reduceMul,Int.reduceAdd,Int.reduceSub,Int.reduceNe,Int.reduceBEq,Int.reduceBNe,Nat.reducePow,go_sem]
    ·simp only [↓reduceIte,reduceCtorEq,Nat.reduceEqDiff,Nat.reduceAdd,Nat.reduceSub,Nat.reduceLeDiff,Nat.reduceMul,Nat.reduceLT,Int.reduceToNat,Int.reduceLT,Int.reduceLE,Int.reduceEq,Int.reduceNeg,Int.reduceMul,Int.reduceAdd,Int.reduceSub,Int.reduceNe,Int.reduceBEq,Int.reduceBNe,Nat.reducePow,go_sem]
    obtain ⟨B',rfl⟩ : ∃ q,B' = q + 300 := ⟨B' - 300,by omega⟩
    cases hok : okA (bF b) (bT b) l i with
    | false =>
     simp only [↓reduceIte,reduceCtorEq,Nat.reduceEqDiff,Nat.reduceAdd,Nat.reduceSub,Nat.reduceLeDiff,Nat.reduceMul,Nat.reduceLT,Int.reduceToNat,Int.reduceLT,Int.reduceLE,Int.reduceEq,Int.reduceNeg,Int.reduceMul,Int.reduceAdd,Int.reduceSub,Int.reduceNe,Int.reduceBEq,Int.reduceBNe,Nat.reducePow,go_sem]
     have hok' : okB b l i = false := hok
     rw [hok',if_neg Bool.false_ne_true,List.nil_append] at hex
     rw [hex] at q2
     refine inv_chkG (r + 1,st) ⟨hr,q2,q3⟩ (by show k - (r + 1) < _; omega) (chkG_two (Nat.le_refl _) (by simp) k5 k6 (m1 := .cons (lV st.1) .nil) (m2 := .cons (.int .i64 st.2) .nil) ?_ ?_ ?_ (fun N D => ⟨rfl,_,_,rfl,.inr ⟨_,rfl,fun i _ j _ => rfl⟩,rfl⟩) (fun N D => ⟨rfl,_,_,rfl,rfl,rfl⟩) ?_)
     ·simp only [b2,n2,↓reduceIte,reduceCtorEq,Nat.reduceEqDiff,Nat.reduceAdd,Nat.reduceSub,Nat.reduceLeDiff,Nat.reduceMul,Nat.reduceLT,Int.reduceToNat,Int.reduceLT,Int.reduceLE,Int.reduceEq,Int.reduceNeg,Int.reduceMul,Int.reduceAdd,Int.reduceSub,Int.reduceNe,Int.reduceBEq,Int.reduceBNe,Nat.reducePow,go_sem]
     ·simp only [b3,n3,↓reduceIte,reduceCtorEq,Nat.reduceEqDiff,Nat.reduceAdd,Nat.reduceSub,Nat.reduceLeDiff,Nat.reduceMul,Nat.reduceLT,Int.reduceToNat,Int.reduceLT,Int.reduceLE,Int.reduceEq,Int.reduceNeg,Int.reduceMul,Int.reduceAdd,Int.reduceSub,Int.reduceNe,Int.reduceBEq,Int.reduceBNe,Nat.reducePow,go_sem]
     ·intro y y2 y3 c hc
      rw [bget_cons1,if_neg (fun e => by rw [e,k7 _ (by simp [n2]) (by simp [n3]),hfre nx (Nat.le_refl _)] at hc; cases hc),hbg,if_neg y3,if_neg y2]
      exact hc
     ·refine ⟨congrArg (Val.int .i64) (wrS (by omega)),?_,rfl,⟨rfl,hB1 _ _⟩,⟨rfl,hB4 _ _⟩,rfl,rfl,trivial⟩
      simp only [↓reduceIte,reduceCtorEq,Nat.reduceEqDiff,Nat.reduceAdd,Nat.reduceSub,Nat.reduceLeDiff,Nat.reduceMul,Nat.reduceLT,Int.reduceToNat,Int.reduceLT,Int.reduceLE,Int.reduceEq,Int.reduceNeg,Int.reduceMul,Int.reduceAdd,Int.reduceSub,Int.reduceNe,Int.reduceBEq,Int.reduceBNe,Nat.reducePow,go_sem]
    | true =>
     have n0 : (nx = 0) = False := eq_false (by omega)
     have n5 : (nx + 1 = nx) = False := eq_false (by omega)
     have n6 : (nx + 1 + 1 = nx) = False := eq_false (by omega)
     have n7 : (nx + 1 + 1 = nx + 1) = False := eq_false (by omega)
     have hvi := hb i hib
     have w4 : IntKind.i64.wrap (vaB b l + (b.2 i).baisa) = vaB b (l ++ [i]) := by
      rw [vaB,valL_app,wr64 (by omega) (by omega)]
     have n8 : (nx = nx + 1) = False := eq_false (by omega)
     have n9 : (nx = nx + 1 + 1) = False := eq_false (by omega)
     have n10 : (nx + 1 = nx + 1 + 1) = False := eq_false (by omega)
     have hf1 : ∀ v,subFr (.n (nx + 1 + 1)) v f.fr = f.fr := fun v => HS1 _ v (by omega)
     have hf2 : ∀ v,subStk (.n (nx + 1 + 1)) v stk = stk := fun v => HS2 _ v (by omega)
     simp only [sClip,n8,n9,n10,hf1,hf2,b1,b4,n0,n1,n2,n3,n4,n5,n6,n7,hlw,hbw,w4,Int.toNat_natCast,↓reduceIte,reduceCtorEq,Nat.reduceEqDiff,Nat.reduceAdd,Nat.reduceSub,Nat.reduceLeDiff,Nat.reduceMul,Nat.reduceLT,Int.reduceToNat,Int.reduceLT,Int.reduceLE,Int.reduceEq,Int.reduceNeg,Int.reduceMul,Int.reduceAdd,Int.reduceSub,Int.reduceNe,Int.reduceBEq,Int.reduceBNe,Nat.reducePow,go_sem]
     have hok' : okB b l i = true := hok
     have hne : ∀ a c,a < nx → nx ≤ c → ¬ Bn.n a = Bn.n c := fun a c h1 h2 e => by cases e; omega
     rw [if_pos hok'] at hex
     rw [hex,List.foldl_append,List.foldl_cons] at q2
     have hlen : (l ++ [i]).length = l.length + 1 := by rw [List.length_append]; rfl
     refine ⟨by omega,by omega,by omega,by omega,by omega,by omega,?_⟩
     refine ih (k - (r + 1)) (by omega) (by omega) (l ++ [i]) st.1 st.2 _ (lV st.1) _ _ _ _ (f :: stk) (by omega) (.inl ⟨_,by rw [hlen],fun a ha => ?_⟩) (.inr ⟨by omega,?_⟩) ?_ (by omega) q3 ?_ ?_ ?_ ?_ ?_ (by omega) ?_ ?_ ?_ ?_ ?_
     ·rw [lfn_app]
      by_cases e : a < l.length
      ·rw [if_pos e,if_pos e]
      ·obtain rfl : a = l.length := by omega
       rw [if_neg e,if_neg e,if_pos rfl,Nat.sub_self]; rfl
     ·rw [hlen,List.getD_eq_getElem?_getD,show l.length + 1 - 1 = l.length by omega]
      simp
      omega
     ·intro j hj
      rcases List.mem_append.1 hj with h | h
      ·exact hl j h
      ·rw [List.mem_singleton.1 h]; exact hib
     ·rw [bget_cons1,if_neg (hne _ _ (by omega) (by omega)),bget_cons1,if_neg (hne _ _ (by omega) (by omega)),bget_subBx,bget_bdel,if_neg (hne _ _ (by omega) (by omega)),b1]
      exact congrArg some (HB _ _ h1 _ _ (by omega))
     ·rw [bget_cons1,if_neg (hne _ _ (by omega) (by omega)),bget_cons1,if_neg (hne _ _ (by omega) (by omega)),bget_subBx,bget_bdel,if_neg (hne _ _ (by omega) (by omega)),b2]
      rfl
     ·exact fun N D => .inr ⟨_,rfl,fun i hi j hj => rfl⟩
     ·rw [bget_cons1,if_neg (hne _ _ (by omega) (by omega)),bget_cons1,if_neg (hne _ _ (by omega) (by omega)),bget_subBx,bget_bdel,if_neg (hne _ _ (by omega) (by omega)),b3]
      rfl
     ·rw [bget_cons1,if_neg (hne _ _ (by omega) (by omega)),bget_cons1,if_neg (hne _ _ (by omega) (by omega)),bget_subBx,bget_bdel,if_neg (hne _ _ (by omega) (by omega)),b4]
      exact congrArg some (HB _ _ h4 _ _ (by omega))
     ·intro y hy
      rw [bget_cons1,if_neg (fun e => by cases e; omega),bget_cons1,if_neg (fun e => by cases e; omega),bget_subBx,bget_bdel,if_neg (fun e => by cases e; omega),hbg,if_neg (fun e => by cases e; omega),if_neg (fun e => by cases e; omega),k7 _ (fun e => by cases e; omega) (fun e => by cases e; omega),hfre y (by omega)]
      rfl
     ·intro y c hc z v hz
      rw [bget_cons1] at hc
      split at hc
      ·cases hc; rfl
      rw [bget_cons1] at hc
      split at hc
      ·cases hc; rfl
      rw [bget_subBx,bget_bdel] at hc
      split at hc
      ·cases hc
      rw [hbg] at hc
      split at hc
      ·cases hc; rfl
      split at hc
      ·cases hc; rfl
      rename_i y2 y3
      rw [k7 y (by assumption) (by assumption)] at hc
      cases hby : bget bx y with
      | none => rw [hby] at hc; cases hc
      | some c0 =>
       rw [hby] at hc
       simp only [Option.map_some,Option.some.injEq] at hc
       rw [HB y c0 hby _ _ (by omega)] at hc
       rw [← hc]
       exact HB y c0 hby z v (by omega)
     ·intro z v hz
      have z1 : (1 = z) = False := eq_false (by omega)
      have z2 : (2 = z) = False := eq_false (by omega)
      have z3 : (3 = z) = False := eq_false (by omega)
      have z4 : (4 = z) = False := eq_false (by omega)
      have z5 : (nx = z) = False := eq_false (by omega)
      have z6 : (nx + 1 = z) = False := eq_false (by omega)
      simp only [z1,z2,z3,z4,z5,z6,↓reduceIte,reduceCtorEq,Nat.reduceEqDiff,Nat.reduceAdd,Nat.reduceSub,Nat.reduceLeDiff,Nat.reduceMul,Nat.reduceLT,Int.reduceToNat,Int.reduceLT,Int.reduceLE,Int.reduceEq,Int.reduceNeg,Int.reduceMul,Int.reduceAdd,Int.reduceSub,Int.reduceNe,Int.reduceBEq,Int.reduceBNe,Nat.reducePow,go_sem]
     ·intro z v hz
      simp only [subStk,HS1 z v (by omega),HS2 z v (by omega)]
     ·intro bx' B2 hB2 r2 r3 rold
      obtain ⟨B2,rfl⟩ : ∃ q,B2 = q + 100 := ⟨B2 - 100,by omega⟩
      have hR2 : (exts b.1 (okB b) (k - (r + 1)) l).foldl (up (vaB b)) (onF b (k - (r + 1)) (l ++ [i]) (st.1,st.2)) = R := q2
      have hge : 0 ≤ (onF b (k - (r + 1)) (l ++ [i]) (st.1,st.2)).2 := by
       have g1 := up_ge (vaB b) (exts b.1 (okB b) (k - (r + 1)) (l ++ [i])) (up (vaB b) (st.1,st.2) (l ++ [i]))
       have g2 := up_ge (vaB b) [l ++ [i]] (st.1,st.2)
       exact Int.le_trans q3 (Int.le_trans g2 g1)
      generalize onF b (k - (r + 1)) (l ++ [i]) (st.1,st.2) = R2 at *
      simp only [↓reduceIte,reduceCtorEq,Nat.reduceEqDiff,Nat.reduceAdd,Nat.reduceSub,Nat.reduceLeDiff,Nat.reduceMul,Nat.reduceLT,Int.reduceToNat,Int.reduceLT,Int.reduceLE,Int.reduceEq,Int.reduceNeg,Int.reduceMul,Int.reduceAdd,Int.reduceSub,Int.reduceNe,Int.reduceBEq,Int.reduceBNe,Nat.reducePow,go_sem]
      refine inv_chkG (r + 1,R2) ⟨hr,hR2,hge⟩ (by show k - (r + 1) < _; omega) (chkG_two (Nat.le_refl _) (by simp) k5 k6 r2 r3 ?_ (fun N D => ⟨rfl,_,_,rfl,.inr ⟨_,rfl,fun i _ j _ => rfl⟩,rfl⟩) (fun N D => ⟨rfl,_,_,rfl,rfl,rfl⟩) ?_)
      ·intro y y2 y3 c hc
       refine rold y y2 y3 c ?_
       rw [k7 y y2 y3] at hc
       rw [bget_cons1,if_neg (fun e => by rw [e,hfre _ (by omega)] at hc; cases hc),bget_cons1,if_neg (fun e => by rw [e,hfre _ (by omega)] at hc; cases hc),bget_subBx,bget_bdel,if_neg (fun e => by rw [e,hfre _ (by omega)] at hc; cases hc),hbg,if_neg y3,if_neg y2,k7 y y2 y3,hc]
       exact congrArg some (HB y c hc _ _ (by omega))
      ·refine ⟨congrArg (Val.int .i64) (wrS (by omega)),?_,rfl,⟨rfl,hB1 _ _⟩,⟨rfl,hB4 _ _⟩,rfl,rfl,trivial⟩
       simp only [↓reduceIte,reduceCtorEq,Nat.reduceEqDiff,Nat.reduceAdd,Nat.reduceSub,Nat.reduceLeDiff,Nat.reduceMul,Nat.reduceLT,Int.reduceToNat,Int.reduceLT,Int.reduceLE,Int.reduceEq,Int.reduceNeg,Int.reduceMul,Int.reduceAdd,Int.reduceSub,Int.reduceNe,Int.reduceBEq,Int.reduceBNe,Nat.reducePow,go_sem]
   ·have fr' : ((r : Int) < (k : Int)) = False := eq_false (by omega)
    obtain rfl : r = k := by omega
    simp only [fr',↓reduceIte,reduceCtorEq,Nat.reduceEqDiff,Nat.reduceAdd,Nat.reduceSub,Nat.reduceLeDiff,Nat.reduceMul,Nat.reduceLT,Int.reduceToNat,Int.reduceLT,Int.reduceLE,Int.reduceEq,Int.reduceNeg,Int.reduceMul,Int.reduceAdd,Int.reduceSub,Int.reduceNe,Int.reduceBEq,Int.reduceBNe,Nat.reducePow,go_sem]
    rw [Nat.sub_self,exts,List.foldl_nil] at q2
    rw [← q2] at hK
    exact hK _ _ (by omega) (by rw [bget_bset,if_neg (by simp),bget_bset,if_pos rfl]) (by rw [bget_bset,if_pos rfl]) fun y y2 y3 c hc => by rw [bget_bset,if_neg y3,bget_bset,if_neg y2,k7 y y2 y3]; exact hc
end Go.Proofs.Ytlieoghhkioflaa
