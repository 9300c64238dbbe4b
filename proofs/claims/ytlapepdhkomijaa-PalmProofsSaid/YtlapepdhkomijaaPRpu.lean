/- The reference's net: push. No condition but bounds. -/
import Derived.Test.YtlapepdhkomijaaPFlw
import Derived.Test.YtlapepdhkomijaaPTy
import Derived.Test.YtlapepdhkomijaaACode1
set_option linter.unusedSimpArgs false
set_option linter.unusedVariables false
namespace Go.Proofs.Ytlapepdhkomijaa
open Go Go.RowKit
theorem mixed : Try.prog.follows .mixedOrders = true := by kernel_rfl
variable {G : Nat → Option (Nat × (Nat → Val))}
structure RNet (n X O F Z : Nat) (r : Nat → Nat → Int) (sn : Nat → Bool) (bx : Bx) : Prop where
 x : bget bx (.n X) = some (.cells (.cons (.own (.n O)) (.cons (.own (.n Z)) .nil)))
 o : bget bx (.n O) = some (.rown 25 1 n fun i _ => .own (.f F i))
 f : ∀ i,i < n → ∃ c,bget bx (.f F i) = some (.row 3 1 n c) ∧ ∀ j,j < n → c j 0 = .int .i64 (r i j)
 s : ∃ c,bget bx (.n Z) = some (.row 4 1 n c) ∧ ∀ j,j < n → c j 0 = .bool (sn j)
def ROld (n F Z : Nat) (bx bx' : Bx) : Prop := ∀ y,y ≠ .n Z → (∀ i : Nat,i < n → y ≠ .f F i) → bget bx' y = bget bx y
set_option maxHeartbeats 4000000 in
set_option maxRecDepth 100000 in
theorem rpush_run {S : List (FuncId × Spec)} {I : List (FuncId × AFun)} {N : List TypeId} {Q : Val → Bx → Prop} (h90 : lkp S 90 = none) (h90' : lkp I 90 = some a90) {n X O F Z : Nat} (hn : n < 1000) (h1n : 1 < n) :
  ∀ (d u : Nat) (r : Nat → Nat → Int) (sn : Nat → Bool) (bx : Bx) (nx M : Nat) (f : SFrame) (stk : List SFrame),u < n → uns sn n ≤ d → 300 + 300 * d ≤ M → sn u = false → sn 1 = false → (∀ i,i < n → ∀ j,j < n → 0 ≤ r i j ∧ r i j + r j i ≤ 1000) → RNet n X O F Z r sn bx →
   (∀ b r' sn' bx' M',M ≤ M' + 300 * d + 200 → PushPost n sn u r b r' sn' → RNet n X O F Z r' sn' bx' → ROld n F Z bx bx' → (b = false → ∀ y,y ≠ .n Z → bget bx' y = bget bx y) → runO (mkN G S I N) Q M' f.K stk f.res (fput f.fr f.d (.bool b)) bx' nx) →
   runO (mkN G S I N) Q M [.code a90.code] (f :: stk) a90.res (params 0 [.ptr (.n X) 0,.int .i64 u]) bx nx := by
 intro d
 induction d with
 | zero =>
  intro u r sn bx nx M f stk hu hd _ hsu
  have := uns_upd hsu hu
  omega
 | succ d ih =>
  intro u r sn bx nx M f stk hu hd hM hsu hs1 hr hnet hK
  obtain ⟨M,rfl⟩ : ∃ m,M = m + 250 := ⟨M - 250,by omega⟩
  have hx := hnet.x
  have ho := hnet.o
  obtain ⟨cs,hs,hsc⟩ := hnet.s
  have hXZ : (X = Z) = False := eq_false fun e => by subst e; rw [hx] at hs; cases hs
  have hOZ : (O = Z) = False := eq_false fun e => by subst e; rw [ho] at hs; cases hs
  by_cases h1 : u = 1
  ·subst h1
   simp only [a90,↓imp_tt,↓imp_tf,↓imp_ft,↓imp_ff,↓reduceIte,reduceCtorEq,Nat.reduceEqDiff,Nat.reduceAdd,Nat.reduceSub,Nat.reduceLeDiff,Nat.reduceMul,Nat.reduceLT,Int.reduceToNat,Int.reduceLT,Int.reduceLE,Int.reduceEq,Int.reduceNeg,Int.reduceMul,Int.reduceAdd,Int.reduceSub,Int.reduceNe,Int.reduceBEq,Int.reduceBNe,Nat.reducePow,spec0,spec1,spec2,spec3,spec4,spec5,TSl,IsSl,TInt,IsInt,TBool,IsBool,RInt,RBool,RSl,Prod.eta,Pm.L,Pm.c0,Pm.c1,Pm.c2,Pm.c3,Pm.c4,Pm.Is,Pm.of,TPm,RPm,Pm.w_c,Pm.d_c,Pm.d,Pm.eta,Sn.L,Sn.c0,Sn.c1,Sn.Is,Sn.of,TSn,RSn,Sn.w_c,Sn.d_c,Sn.d,Sn.eta,Sp.L,Sp.c0,Sp.c1,Sp.c2,Sp.Is,Sp.of,TSp,RSp,Sp.w_c,Sp.d_c,Sp.d,Sp.eta,Lt.L,Lt.c0,Lt.c1,Lt.c2,Lt.c3,Lt.Is,Lt.of,TLt,RLt,Lt.w_c,Lt.d_c,Lt.d,Lt.eta,Wk.L,Wk.c0,Wk.c1,Wk.c2,Wk.c3,Wk.c4,Wk.Is,Wk.of,TWk,RWk,Wk.w_c,Wk.d_c,Wk.d,Wk.eta,Du.L,Du.c0,Du.c1,Du.c2,Du.Is,Du.of,TDu,RDu,Du.w_c,Du.d_c,Du.d,Du.eta,Cv.L,Cv.c0,Cv.c1,Cv.c2,Cv.Is,Cv.of,TCv,RCv,Cv.w_c,Cv.d_c,Cv.d,Cv.eta,toUI_val,go_sem]
   exact hK true r sn bx _ (by omega) (.sink h1n fun i hi j hj => (hr i hi j hj).1) hnet (fun _ _ _ => rfl) fun h => (by cases h)
  ·have f1 : ((u : Int) = 1) = False := eq_false (by omega)
   simp only [a90]
   simp only [f1,hx,ho,hs,bget_bset,↓imp_tt,↓imp_tf,↓imp_ft,↓imp_ff,↓reduceIte,reduceCtorEq,Nat.reduceEqDiff,Nat.reduceAdd,Nat.reduceSub,Nat.reduceLeDiff,Nat.reduceMul,Nat.reduceLT,Int.reduceToNat,Int.reduceLT,Int.reduceLE,Int.reduceEq,Int.reduceNeg,Int.reduceMul,Int.reduceAdd,Int.reduceSub,Int.reduceNe,Int.reduceBEq,Int.reduceBNe,Nat.reducePow,spec0,spec1,spec2,spec3,spec4,spec5,TSl,IsSl,TInt,IsInt,TBool,IsBool,RInt,RBool,RSl,Prod.eta,Pm.L,Pm.c0,Pm.c1,Pm.c2,Pm.c3,Pm.c4,Pm.Is,Pm.of,TPm,RPm,Pm.w_c,Pm.d_c,Pm.d,Pm.eta,Sn.L,Sn.c0,Sn.c1,Sn.Is,Sn.of,TSn,RSn,Sn.w_c,Sn.d_c,Sn.d,Sn.eta,Sp.L,Sp.c0,Sp.c1,Sp.c2,Sp.Is,Sp.of,TSp,RSp,Sp.w_c,Sp.d_c,Sp.d,Sp.eta,Lt.L,Lt.c0,Lt.c1,Lt.c2,Lt.c3,Lt.Is,Lt.of,TLt,RLt,Lt.w_c,Lt.d_c,Lt.d,Lt.eta,Wk.L,Wk.c0,Wk.c1,Wk.c2,Wk.c3,Wk.c4,Wk.Is,Wk.of,TWk,RWk,Wk.w_c,Wk.d_c,Wk.d,Wk.eta,Du.L,Du.c0,Du.c1,Du.c2,Du.Is,Du.of,TDu,RDu,Du.w_c,Du.d_c,Du.d,Du.eta,Cv.L,Cv.c0,Cv.c1,Cv.c2,Cv.Is,Cv.of,TCv,RCv,Cv.w_c,Cv.d_c,Cv.d,Cv.eta,toUI_val,go_sem]
   refine ⟨by omega,by omega,?_⟩
   generalize hbs : bset bx (.n Z) (.row 4 1 n fun i' j' => if i' = u ∧ 0 ≤ j' ∧ j' < 1 then vget (.cons (.bool true) .nil) j' else cs i' j') = bxs
   have hg : ∀ y,bget bxs y = if y = .n Z then some (.row 4 1 n fun i' j' => if i' = u ∧ 0 ≤ j' ∧ j' < 1 then vget (.cons (.bool true) .nil) j' else cs i' j') else bget bx y := fun y => by rw [← hbs,bget_bset]
   have hsx : bget bxs (.n X) = some (.cells (.cons (.own (.n O)) (.cons (.own (.n Z)) .nil))) := by rw [hg,if_neg (by simp [hXZ]),hx]
   have hsz : bget bxs (.n Z) = some (.row 4 1 n fun i' j' => if i' = u ∧ 0 ≤ j' ∧ j' < 1 then vget (.cons (.bool true) .nil) j' else cs i' j') := by rw [hg,if_pos rfl]
   refine loop_intro (ι := Nat × (Nat → Bool) × (Nat → Nat → Val)) (fun s => s.1 ≤ n ∧ PushAt n sn u r (fun v => v < s.1) s.2.1 ∧ ∀ j,j < n → s.2.2 j 0 = .bool (s.2.1 j)) (fun s => n - s.1) (fun s => [(5,.int .i64 s.1),(0,.ptr (.n X) 0),(1,.int .i64 u)]) (fun s => bset bxs (.n Z) (.row 4 1 n s.2.2)) 0
    (0,updS sn u,fun i' j' => if i' = u ∧ 0 ≤ j' ∧ j' < 1 then vget (.cons (.bool true) .nil) j' else cs i' j') ⟨by omega,?_,fun j hj => ?_⟩ (.inr (chkG_set (Nat.le_refl _) hsz hsz (fun _ _ => rfl) ⟨rfl,rfl,rfl,fun i _ j _ => by rw [vsubP_self]; trivial⟩ ⟨rfl,⟨rfl,hasB_bset hsx⟩,rfl,trivial⟩)) fun s hs' => ?_
   ·have hb := PushAt.begin (n := n) (r := r) hs1 h1
    exact ⟨hb.mono,hb.here,hb.snk,fun v _ h => absurd h (Nat.not_lt_zero _),hb.clo,hb.rch⟩
   ·simp only [updS]
    by_cases e : j = u
    ·subst e; simp [vget]
    ·simp [e]; exact hsc j hj
   ·obtain ⟨j,s,c⟩ := s
    obtain ⟨hj,hat,hc⟩ := hs'
    simp only at hj hat hc
    obtain ⟨cu,hfu,hcu⟩ := hnet.f u hu
    by_cases hjn : j < n
    ·have fj : ((j : Int) < (n : Int)) = True := eq_true (by omega)
     have cj := hc j hjn
     have cuj := hcu j hjn
     have hrj := hr u hu j hjn
     have hback : ∀ fr1,fget fr1 5 = .int .i64 (IntKind.i64.wrap ((j : Int) + 1)) → fget fr1 0 = .ptr (.n X) 0 → fget fr1 1 = .int .i64 u → (r u j ≤ 0 ∨ s j = true) → ∃ m',m' < n - j ∧ ∃ fr'' bx'',LoopT (fun s : Nat × (Nat → Bool) × (Nat → Nat → Val) => s.1 ≤ n ∧ PushAt n sn u r (fun v => v < s.1) s.2.1 ∧ ∀ j,j < n → s.2.2 j 0 = .bool (s.2.1 j)) (fun s => n - s.1) (fun s => [(5,.int .i64 s.1),(0,.ptr (.n X) 0),(1,.int .i64 u)]) (fun s => bset bxs (.n Z) (.row 4 1 n s.2.2)) m' fr'' bx'' ∧ ChkL (f.nx :: stkNx stk) bxs fr1 (bset bxs (.n Z) (.row 4 1 n c)) fr'' bx'' nx nx := by
      intro fr1 e5 e0 e1 hsk
      refine inv_chkG (j + 1,s,c) ⟨hjn,hat.skip hsk (fun v hv h => by omega),hc⟩ (by simp only; omega) (chkG_set (c1 := .row 4 1 n c) (Nat.le_refl _) hsz (by rw [bget_bset,if_pos rfl]) (fun y hy => by rw [bget_bset,if_neg hy]) ⟨rfl,rfl,rfl,fun i _ j _ => by rw [vsubP_self]; trivial⟩ ⟨?_,⟨e0,hasB_bset hsx⟩,e1,trivial⟩)
      show fget fr1 5 = _
      rw [e5,wrS (by omega)]
     by_cases h0 : 0 < r u j
     ·have e0 : (0 < r u j) = True := eq_true h0
      cases hsj : s j with
      | true =>
       simp only [fj,hg,hx,ho,hfu,hXZ,hOZ,cj,cuj,e0,hsj,h90,h90',bget_bset,↓imp_tt,↓imp_tf,↓imp_ft,↓imp_ff,↓reduceIte,reduceCtorEq,Nat.reduceEqDiff,Nat.reduceAdd,Nat.reduceSub,Nat.reduceLeDiff,Nat.reduceMul,Nat.reduceLT,Int.reduceToNat,Int.reduceLT,Int.reduceLE,Int.reduceEq,Int.reduceNeg,Int.reduceMul,Int.reduceAdd,Int.reduceSub,Int.reduceNe,Int.reduceBEq,Int.reduceBNe,Nat.reducePow,spec0,spec1,spec2,spec3,spec4,spec5,TSl,IsSl,TInt,IsInt,TBool,IsBool,RInt,RBool,RSl,Prod.eta,Pm.L,Pm.c0,Pm.c1,Pm.c2,Pm.c3,Pm.c4,Pm.Is,Pm.of,TPm,RPm,Pm.w_c,Pm.d_c,Pm.d,Pm.eta,Sn.L,Sn.c0,Sn.c1,Sn.Is,Sn.of,TSn,RSn,Sn.w_c,Sn.d_c,Sn.d,Sn.eta,Sp.L,Sp.c0,Sp.c1,Sp.c2,Sp.Is,Sp.of,TSp,RSp,Sp.w_c,Sp.d_c,Sp.d,Sp.eta,Lt.L,Lt.c0,Lt.c1,Lt.c2,Lt.c3,Lt.Is,Lt.of,TLt,RLt,Lt.w_c,Lt.d_c,Lt.d,Lt.eta,Wk.L,Wk.c0,Wk.c1,Wk.c2,Wk.c3,Wk.c4,Wk.Is,Wk.of,TWk,RWk,Wk.w_c,Wk.d_c,Wk.d,Wk.eta,Du.L,Du.c0,Du.c1,Du.c2,Du.Is,Du.of,TDu,RDu,Du.w_c,Du.d_c,Du.d,Du.eta,Cv.L,Cv.c0,Cv.c1,Cv.c2,Cv.Is,Cv.of,TCv,RCv,Cv.w_c,Cv.d_c,Cv.d,Cv.eta,toUI_val,go_sem]
       exact ⟨by omega,by omega,by omega,by omega,hback _ rfl rfl rfl (.inr hsj)⟩
      | false =>
       simp only [fj,hg,hx,ho,hfu,hXZ,hOZ,cj,cuj,e0,hsj,h90,h90',bget_bset,↓imp_tt,↓imp_tf,↓imp_ft,↓imp_ff,↓reduceIte,reduceCtorEq,Nat.reduceEqDiff,Nat.reduceAdd,Nat.reduceSub,Nat.reduceLeDiff,Nat.reduceMul,Nat.reduceLT,Int.reduceToNat,Int.reduceLT,Int.reduceLE,Int.reduceEq,Int.reduceNeg,Int.reduceMul,Int.reduceAdd,Int.reduceSub,Int.reduceNe,Int.reduceBEq,Int.reduceBNe,Nat.reducePow,spec0,spec1,spec2,spec3,spec4,spec5,TSl,IsSl,TInt,IsInt,TBool,IsBool,RInt,RBool,RSl,Prod.eta,Pm.L,Pm.c0,Pm.c1,Pm.c2,Pm.c3,Pm.c4,Pm.Is,Pm.of,TPm,RPm,Pm.w_c,Pm.d_c,Pm.d,Pm.eta,Sn.L,Sn.c0,Sn.c1,Sn.Is,Sn.of,TSn,RSn,Sn.w_c,Sn.d_c,Sn.d,Sn.eta,Sp.L,Sp.c0,Sp.c1,Sp.c2,Sp.Is,Sp.of,TSp,RSp,Sp.w_c,Sp.d_c,Sp.d,Sp.eta,Lt.L,Lt.c0,Lt.c1,Lt.c2,Lt.c3,Lt.Is,Lt.of,TLt,RLt,Lt.w_c,Lt.d_c,Lt.d,Lt.eta,Wk.L,Wk.c0,Wk.c1,Wk.c2,Wk.c3,Wk.c4,Wk.Is,Wk.of,TWk,RWk,Wk.w_c,Wk.d_c,Wk.d,Wk.eta,Du.L,Du.c0,Du.c1,Du.c2,Du.Is,Du.of,TDu,RDu,Du.w_c,Du.d_c,Du.d,Du.eta,Cv.L,Cv.c0,Cv.c1,Cv.c2,Cv.Is,Cv.of,TCv,RCv,Cv.w_c,Cv.d_c,Cv.d,Cv.eta,toUI_val,go_sem]
       refine ⟨by omega,by omega,by omega,by omega,?_⟩
       have hnet1 : RNet n X O F Z r s (bset bxs (.n Z) (.row 4 1 n c)) := by
        refine ⟨by rw [bget_bset,if_neg (by simp [hXZ]),hsx],by rw [bget_bset,if_neg (by simp [hOZ]),hg,if_neg (by simp [hOZ]),ho],fun i hi => ?_,c,by rw [bget_bset,if_pos rfl],hc⟩
        obtain ⟨ci,q1,q2⟩ := hnet.f i hi
        exact ⟨ci,by rw [bget_bset,if_neg (by simp),hg,if_neg (by simp),q1],q2⟩
       refine ih j r s _ _ _ _ _ hjn ?_ (by omega) hsj hat.snk hr hnet1 fun b r' sn' bx' M' hM' hpost hnet' hold hkeep => ?_
       ·have := uns_mono (n := n) (s := updS sn u) (t := s) fun i hi h => by
         simp only [updS] at h
         split at h
         ·rename_i e; subst e; exact hat.here
         ·exact hat.mono i hi h
        have := uns_upd hsu hu
        omega
       obtain ⟨M',rfl⟩ : ∃ m,M' = m + 100 := ⟨M' - 100,by omega⟩
       have huj : u ≠ j := fun e => by have := hat.here; rw [e,hsj] at this; cases this
       have fuj : ((u : Int) = (j : Int)) = False := eq_false (by omega)
       have fju : ((j : Int) = (u : Int)) = False := eq_false (by omega)
       have hx' := hnet'.x
       have ho' := hnet'.o
       cases b with
       | false =>
        simp only [↓imp_tt,↓imp_tf,↓imp_ft,↓imp_ff,↓reduceIte,reduceCtorEq,Nat.reduceEqDiff,Nat.reduceAdd,Nat.reduceSub,Nat.reduceLeDiff,Nat.reduceMul,Nat.reduceLT,Int.reduceToNat,Int.reduceLT,Int.reduceLE,Int.reduceEq,Int.reduceNeg,Int.reduceMul,Int.reduceAdd,Int.reduceSub,Int.reduceNe,Int.reduceBEq,Int.reduceBNe,Nat.reducePow,spec0,spec1,spec2,spec3,spec4,spec5,TSl,IsSl,TInt,IsInt,TBool,IsBool,RInt,RBool,RSl,Prod.eta,Pm.L,Pm.c0,Pm.c1,Pm.c2,Pm.c3,Pm.c4,Pm.Is,Pm.of,TPm,RPm,Pm.w_c,Pm.d_c,Pm.d,Pm.eta,Sn.L,Sn.c0,Sn.c1,Sn.Is,Sn.of,TSn,RSn,Sn.w_c,Sn.d_c,Sn.d,Sn.eta,Sp.L,Sp.c0,Sp.c1,Sp.c2,Sp.Is,Sp.of,TSp,RSp,Sp.w_c,Sp.d_c,Sp.d,Sp.eta,Lt.L,Lt.c0,Lt.c1,Lt.c2,Lt.c3,Lt.Is,Lt.of,TLt,RLt,Lt.w_c,Lt.d_c,Lt.d,Lt.eta,Wk.L,Wk.c0,Wk.c1,Wk.c2,Wk.c3,Wk.c4,Wk.Is,Wk.of,TWk,RWk,Wk.w_c,Wk.d_c,Wk.d,Wk.eta,Du.L,Du.c0,Du.c1,Du.c2,Du.Is,Du.of,TDu,RDu,Du.w_c,Du.d_c,Du.d,Du.eta,Cv.L,Cv.c0,Cv.c1,Cv.c2,Cv.Is,Cv.of,TCv,RCv,Cv.w_c,Cv.d_c,Cv.d,Cv.eta,toUI_val,go_sem]
        obtain ⟨cz,hz1,hz2⟩ := hnet'.s
        refine inv_chkG (j + 1,sn',cz) ⟨hjn,hat.no hu hjn h0 hpost (fun v hv h => by omega),hz2⟩ (by simp only; omega) (chkG_set (c1 := .row 4 1 n cz) (Nat.le_refl _) hsz hz1 (fun y hy => by rw [hkeep rfl y hy,bget_bset,if_neg hy]) ⟨rfl,rfl,rfl,fun i _ j _ => by rw [vsubP_self]; trivial⟩ ⟨?_,⟨rfl,hasB_bset hsx⟩,rfl,trivial⟩)
        show Val.int .i64 _ = _
        rw [wrS (by omega)]
       | true =>
        obtain ⟨cu',hfu',hcu'⟩ := hnet'.f u hu
        obtain ⟨cj',hfj',hcj'⟩ := hnet'.f j hjn
        have d1 := hcu' j hjn
        have d2 := hcj' u hu
        obtain ⟨⟨p1,p2,p3⟩,p4⟩ := hpost.tt rfl
        have b1 := p1 u hu j hjn
        have b2 := p1 j hjn u hu
        have b3 := p2 u hu j hjn
        have w1 : IntKind.i64.wrap (r' u j - 1) = r' u j - 1 := wr64 (by omega) (by omega)
        have w2 : IntKind.i64.wrap (r' j u + 1) = r' j u + 1 := wr64 (by omega) (by omega)
        simp only [hx',ho',hfu',hfj',d1,d2,w1,w2,fuj,fju,bget_bset,↓imp_tt,↓imp_tf,↓imp_ft,↓imp_ff,↓reduceIte,reduceCtorEq,Nat.reduceEqDiff,Nat.reduceAdd,Nat.reduceSub,Nat.reduceLeDiff,Nat.reduceMul,Nat.reduceLT,Int.reduceToNat,Int.reduceLT,Int.reduceLE,Int.reduceEq,Int.reduceNeg,Int.reduceMul,Int.reduceAdd,Int.reduceSub,Int.reduceNe,Int.reduceBEq,Int.reduceBNe,Nat.reducePow,spec0,spec1,spec2,spec3,spec4,spec5,TSl,IsSl,TInt,IsInt,TBool,IsBool,RInt,RBool,RSl,Prod.eta,Pm.L,Pm.c0,Pm.c1,Pm.c2,Pm.c3,Pm.c4,Pm.Is,Pm.of,TPm,RPm,Pm.w_c,Pm.d_c,Pm.d,Pm.eta,Sn.L,Sn.c0,Sn.c1,Sn.Is,Sn.of,TSn,RSn,Sn.w_c,Sn.d_c,Sn.d,Sn.eta,Sp.L,Sp.c0,Sp.c1,Sp.c2,Sp.Is,Sp.of,TSp,RSp,Sp.w_c,Sp.d_c,Sp.d,Sp.eta,Lt.L,Lt.c0,Lt.c1,Lt.c2,Lt.c3,Lt.Is,Lt.of,TLt,RLt,Lt.w_c,Lt.d_c,Lt.d,Lt.eta,Wk.L,Wk.c0,Wk.c1,Wk.c2,Wk.c3,Wk.c4,Wk.Is,Wk.of,TWk,RWk,Wk.w_c,Wk.d_c,Wk.d,Wk.eta,Du.L,Du.c0,Du.c1,Du.c2,Du.Is,Du.of,TDu,RDu,Du.w_c,Du.d_c,Du.d,Du.eta,Cv.L,Cv.c0,Cv.c1,Cv.c2,Cv.Is,Cv.of,TCv,RCv,Cv.w_c,Cv.d_c,Cv.d,Cv.eta,toUI_val,go_sem]
        refine ⟨by omega,by omega,by omega,by omega,by omega,by omega,by omega,by omega,by omega,by omega,by omega,by omega,?_⟩
        refine hK true (updR r' u j) sn' _ _ (by omega) (hat.yes hu hjn hsu hsj h0 hpost) ⟨?_,?_,fun i hi => ?_,?_⟩ (fun y hy hyf => ?_) fun h => (by cases h)
        ·simp only [bget_bset,if_neg (show ¬ Bn.n X = Bn.f F ↑j from by simp),if_neg (show ¬ Bn.n X = Bn.f F ↑u from by simp)]; exact hx'
        ·simp only [bget_bset,if_neg (show ¬ Bn.n O = Bn.f F ↑j from by simp),if_neg (show ¬ Bn.n O = Bn.f F ↑u from by simp)]; exact ho'
        ·obtain ⟨ci,q1,q2⟩ := hnet'.f i hi
         by_cases ej : i = j
         ·subst ej
          refine ⟨_,by rw [bget_bset,if_pos rfl],fun k hk => ?_⟩
          simp only [updR]
          by_cases e : k = u
          ·subst e; simp [vget]
          ·simp only [e,false_and,and_false,if_false]
           rw [if_neg (fun h => huj h.1.symm)]; exact hcj' k hk
         ·by_cases eu : i = u
          ·subst eu
           refine ⟨_,by rw [bget_bset,if_neg (by simp [fuj]),bget_bset,if_pos rfl],fun k hk => ?_⟩
           simp only [updR]
           by_cases e : k = j
           ·subst e; simp [vget,ej]
           ·simp only [e,false_and,and_false,if_false,ej]; exact hcu' k hk
          ·refine ⟨ci,by rw [bget_bset,if_neg (by simp; omega),bget_bset,if_neg (by simp; omega),q1],fun k hk => ?_⟩
           simp only [updR,ej,eu,false_and,if_false]; exact q2 k hk
        ·obtain ⟨cz,hz1,hz2⟩ := hnet'.s
         exact ⟨cz,by rw [bget_bset,if_neg (by simp),bget_bset,if_neg (by simp),hz1],hz2⟩
        ·rw [bget_bset,if_neg (hyf j hjn),bget_bset,if_neg (hyf u hu),hold y hy hyf,bget_bset,if_neg hy,hg,if_neg hy]
     ·have e0 : (0 < r u j) = False := eq_false h0
      simp only [fj,hg,hx,ho,hfu,hXZ,hOZ,cj,cuj,e0,h90,h90',bget_bset,↓imp_tt,↓imp_tf,↓imp_ft,↓imp_ff,↓reduceIte,reduceCtorEq,Nat.reduceEqDiff,Nat.reduceAdd,Nat.reduceSub,Nat.reduceLeDiff,Nat.reduceMul,Nat.reduceLT,Int.reduceToNat,Int.reduceLT,Int.reduceLE,Int.reduceEq,Int.reduceNeg,Int.reduceMul,Int.reduceAdd,Int.reduceSub,Int.reduceNe,Int.reduceBEq,Int.reduceBNe,Nat.reducePow,spec0,spec1,spec2,spec3,spec4,spec5,TSl,IsSl,TInt,IsInt,TBool,IsBool,RInt,RBool,RSl,Prod.eta,Pm.L,Pm.c0,Pm.c1,Pm.c2,Pm.c3,Pm.c4,Pm.Is,Pm.of,TPm,RPm,Pm.w_c,Pm.d_c,Pm.d,Pm.eta,Sn.L,Sn.c0,Sn.c1,Sn.Is,Sn.of,TSn,RSn,Sn.w_c,Sn.d_c,Sn.d,Sn.eta,Sp.L,Sp.c0,Sp.c1,Sp.c2,Sp.Is,Sp.of,TSp,RSp,Sp.w_c,Sp.d_c,Sp.d,Sp.eta,Lt.L,Lt.c0,Lt.c1,Lt.c2,Lt.c3,Lt.Is,Lt.of,TLt,RLt,Lt.w_c,Lt.d_c,Lt.d,Lt.eta,Wk.L,Wk.c0,Wk.c1,Wk.c2,Wk.c3,Wk.c4,Wk.Is,Wk.of,TWk,RWk,Wk.w_c,Wk.d_c,Wk.d,Wk.eta,Du.L,Du.c0,Du.c1,Du.c2,Du.Is,Du.of,TDu,RDu,Du.w_c,Du.d_c,Du.d,Du.eta,Cv.L,Cv.c0,Cv.c1,Cv.c2,Cv.Is,Cv.of,TCv,RCv,Cv.w_c,Cv.d_c,Cv.d,Cv.eta,toUI_val,go_sem]
      exact ⟨by omega,by omega,by omega,hback _ rfl rfl rfl (.inl (by omega))⟩
    ·have fj : ((j : Int) < (n : Int)) = False := eq_false (by omega)
     simp only [fj,hg,hx,ho,hXZ,hOZ,bget_bset,↓imp_tt,↓imp_tf,↓imp_ft,↓imp_ff,↓reduceIte,reduceCtorEq,Nat.reduceEqDiff,Nat.reduceAdd,Nat.reduceSub,Nat.reduceLeDiff,Nat.reduceMul,Nat.reduceLT,Int.reduceToNat,Int.reduceLT,Int.reduceLE,Int.reduceEq,Int.reduceNeg,Int.reduceMul,Int.reduceAdd,Int.reduceSub,Int.reduceNe,Int.reduceBEq,Int.reduceBNe,Nat.reducePow,spec0,spec1,spec2,spec3,spec4,spec5,TSl,IsSl,TInt,IsInt,TBool,IsBool,RInt,RBool,RSl,Prod.eta,Pm.L,Pm.c0,Pm.c1,Pm.c2,Pm.c3,Pm.c4,Pm.Is,Pm.of,TPm,RPm,Pm.w_c,Pm.d_c,Pm.d,Pm.eta,Sn.L,Sn.c0,Sn.c1,Sn.Is,Sn.of,TSn,RSn,Sn.w_c,Sn.d_c,Sn.d,Sn.eta,Sp.L,Sp.c0,Sp.c1,Sp.c2,Sp.Is,Sp.of,TSp,RSp,Sp.w_c,Sp.d_c,Sp.d,Sp.eta,Lt.L,Lt.c0,Lt.c1,Lt.c2,Lt.c3,Lt.Is,Lt.of,TLt,RLt,Lt.w_c,Lt.d_c,Lt.d,Lt.eta,Wk.L,Wk.c0,Wk.c1,Wk.c2,Wk.c3,Wk.c4,Wk.Is,Wk.of,TWk,RWk,Wk.w_c,Wk.d_c,Wk.d,Wk.eta,Du.L,Du.c0,Du.c1,Du.c2,Du.Is,Du.of,TDu,RDu,Du.w_c,Du.d_c,Du.d,Du.eta,Cv.L,Cv.c0,Cv.c1,Cv.c2,Cv.Is,Cv.of,TCv,RCv,Cv.w_c,Cv.d_c,Cv.d,Cv.eta,toUI_val,go_sem]
     refine hK false r s _ _ (by omega) (hat.fail fun v hv _ => by omega) ⟨by rw [bget_bset,if_neg (by simp [hXZ]),hsx],by rw [bget_bset,if_neg (by simp [hOZ]),hg,if_neg (by simp [hOZ]),ho],fun i hi => ?_,c,by rw [bget_bset,if_pos rfl],hc⟩ (fun y hy _ => by rw [bget_bset,if_neg hy,hg,if_neg hy]) fun _ y hy => by rw [bget_bset,if_neg hy,hg,if_neg hy]
     obtain ⟨ci,q1,q2⟩ := hnet.f i hi
     exact ⟨ci,by rw [bget_bset,if_neg (by simp),hg,if_neg (by simp),q1],q2⟩
end Go.Proofs.Ytlapepdhkomijaa
