/- Palms, outright: ready, choose. No condition. -/
import Derived.Test.YtlapepdhkomijaaPNet2
import Derived.Test.YtlapepdhkomijaaPCmp
import Derived.Test.YtlapepdhkomijaaACode1
import Derived.Test.YtlapepdhkomijaaPCut2
import Derived.Test.YtlapepdhkomijaaPEdg2
import Derived.Test.YtlapepdhkomijaaPAlv
import Derived.Test.YtlapepdhkomijaaACodeL9
set_option linter.unusedSimpArgs false
set_option linter.unusedVariables false
namespace Go.Proofs.Ytlapepdhkomijaa
open Go Go.RowKit
variable {G : Nat → Option (Nat × (Nat → Val))}
noncomputable def rdyB (l : Pms) (w : Wk) : Bool := decP (¬ (l.1 > 30 ∨ w.spathes.1 > 12 ∨ w.hours.1 > 20 ∨ w.lots.1 > 8) ∧ workE l w = 0)
noncomputable def sRdyP : Spec := spec2 (TSl RPm) TWk (fun _ _ => True) fun l w => .bool (rdyB l w)
set_option maxRecDepth 100000 in
theorem pRdyP : PureOk Try.prog G 39 sRdyP := by
 refine fn2 (S := [(14,sGreat7),(45,sWork7)]) (I := []) mixed (.cons pGreat7 (.cons pWork7 .nil)) .nil Try.func39 c39 fun l w _ hw => ?_
 simp only [↓imp_tt,↓imp_tf,↓imp_ft,↓imp_ff,↓reduceIte,reduceCtorEq,Nat.reduceEqDiff,Nat.reduceAdd,Nat.reduceSub,Nat.reduceLeDiff,Nat.reduceMul,Nat.reduceLT,Int.reduceToNat,Int.reduceLT,Int.reduceLE,Int.reduceEq,Int.reduceNeg,Int.reduceMul,Int.reduceAdd,Int.reduceSub,Int.reduceNe,Int.reduceBEq,Int.reduceBNe,Nat.reducePow,go_sem] at hw
 by_cases hg : l.1 > 30 ∨ w.spathes.1 > 12 ∨ w.hours.1 > 20 ∨ w.lots.1 > 8
 ·have eg := decP_t hg
  have er : rdyB l w = false := decP_f fun h => h.1 hg
  simp only [RunTo,a39,sGreat7,eg,er,hw,↓imp_tt,↓imp_tf,↓imp_ft,↓imp_ff,↓reduceIte,reduceCtorEq,Nat.reduceEqDiff,Nat.reduceAdd,Nat.reduceSub,Nat.reduceLeDiff,Nat.reduceMul,Nat.reduceLT,Int.reduceToNat,Int.reduceLT,Int.reduceLE,Int.reduceEq,Int.reduceNeg,Int.reduceMul,Int.reduceAdd,Int.reduceSub,Int.reduceNe,Int.reduceBEq,Int.reduceBNe,Nat.reducePow,go_sem]
 ·have eg := decP_f hg
  by_cases he : workE l w = 0
  ·have er : rdyB l w = true := decP_t ⟨hg,he⟩
   simp only [RunTo,a39,sGreat7,sWork7,eg,er,he,hw,↓imp_tt,↓imp_tf,↓imp_ft,↓imp_ff,↓reduceIte,reduceCtorEq,Nat.reduceEqDiff,Nat.reduceAdd,Nat.reduceSub,Nat.reduceLeDiff,Nat.reduceMul,Nat.reduceLT,Int.reduceToNat,Int.reduceLT,Int.reduceLE,Int.reduceEq,Int.reduceNeg,Int.reduceMul,Int.reduceAdd,Int.reduceSub,Int.reduceNe,Int.reduceBEq,Int.reduceBNe,Nat.reducePow,go_sem]
  ·have er : rdyB l w = false := decP_f fun h => he h.2
   have hz : (workE l w = 0) = False := eq_false he
   simp only [RunTo,a39,sGreat7,sWork7,eg,er,hz,hw,↓imp_tt,↓imp_tf,↓imp_ft,↓imp_ff,↓reduceIte,reduceCtorEq,Nat.reduceEqDiff,Nat.reduceAdd,Nat.reduceSub,Nat.reduceLeDiff,Nat.reduceMul,Nat.reduceLT,Int.reduceToNat,Int.reduceLT,Int.reduceLE,Int.reduceEq,Int.reduceNeg,Int.reduceMul,Int.reduceAdd,Int.reduceSub,Int.reduceNe,Int.reduceBEq,Int.reduceBNe,Nat.reducePow,go_sem]
def choU (b : Nat × (Nat → UI .u32)) (i : Int) : Int := if i < (b.1 : Int) then (b.2 i.toNat).1 else 0
theorem choU_nn (b : Nat × (Nat → UI .u32)) (i : Int) : 0 ≤ choU b i := by
 unfold choU; split
 ·exact (b.2 i.toNat).2.1
 ·exact Int.le_refl _
def sChooseP : Spec := spec2 (TSl (RU .u32)) TI (fun _ i => 0 ≤ i) fun b i => .int .u32 (choU b i)
set_option maxRecDepth 100000 in
theorem pChooseP : PureOk Try.prog G 43 sChooseP := by
 refine fn2 (S := []) (I := []) mixed .nil .nil Try.func43 c43 fun b i h0 hw => ?_
 simp only [RU_k,RU_C,↓imp_tt,↓imp_tf,↓imp_ft,↓imp_ff,↓reduceIte,reduceCtorEq,Nat.reduceEqDiff,Nat.reduceAdd,Nat.reduceSub,Nat.reduceLeDiff,Nat.reduceMul,Nat.reduceLT,Int.reduceToNat,Int.reduceLT,Int.reduceLE,Int.reduceEq,Int.reduceNeg,Int.reduceMul,Int.reduceAdd,Int.reduceSub,Int.reduceNe,Int.reduceBEq,Int.reduceBNe,Nat.reducePow,go_sem] at hw
 simp only [RunTo,a43,RU_k,RU_C,hw,↓imp_tt,↓imp_tf,↓imp_ft,↓imp_ff,↓reduceIte,reduceCtorEq,Nat.reduceEqDiff,Nat.reduceAdd,Nat.reduceSub,Nat.reduceLeDiff,Nat.reduceMul,Nat.reduceLT,Int.reduceToNat,Int.reduceLT,Int.reduceLE,Int.reduceEq,Int.reduceNeg,Int.reduceMul,Int.reduceAdd,Int.reduceSub,Int.reduceNe,Int.reduceBEq,Int.reduceBNe,Nat.reducePow,go_sem]
 unfold choU
 exact ⟨fun h => ⟨h0,h,by rw [if_pos h]⟩,fun h => by rw [if_neg h]⟩
end Go.Proofs.Ytlapepdhkomijaa
namespace Go.Proofs.Ytlapepdhkomijaa
open Go Go.RowKit
abbrev Dus := Nat × (Nat → Du)
def lastD (l : Nat → Du) (k : Nat) : Int := if k = 0 then -1 else (l (k - 1)).spathe
def cntD (l : Nat → Du) : Nat → Int → Int
 | 0,_ => 0
 | k + 1,j => if j = (l k).lot then cntD l k j + 1 else cntD l k j
def usdD (l : Nat → Du) : Nat → Int → Bool
 | 0,_ => false
 | k + 1,h => if h = (l k).hour then true else usdD l k h
structure PlAt (w : Wk) (l : Nat → Du) (k : Nat) : Prop where
 s : lastD l k < (l k).spathe ∧ (l k).spathe < w.spathes.1
 h : 0 ≤ (l k).hour ∧ (l k).hour < w.hours.1
 j : 0 ≤ (l k).lot ∧ (l k).lot < w.lots.1
 fr : usdD l k (l k).hour = false
 t : takesF w (l k).spathe.toNat (l k).hour.toNat = true
 g : goodF w (l k).hour.toNat (l k).lot.toNat = true
 u : cntD l k (l k).lot + 1 ≤ (w.lots.2 (l k).lot.toNat).units
def PlL (w : Wk) (l : Dus) : Prop := ∀ k,k < l.1 → PlAt w l.2 k
section
variable {w : Wk} {l m : Nat → Du} {n k : Nat}
theorem lastD_congr (h : ∀ a,a < k → l a = m a) : lastD l k = lastD m k := by
 unfold lastD; split
 ·rfl
 ·rw [h (k - 1) (by omega)]
theorem cntD_congr : ∀ {k : Nat},(∀ a,a < k → l a = m a) → ∀ j,cntD l k j = cntD m k j := by
 intro k; induction k with
 | zero => intro _ _; rfl
 | succ k ih => intro h j; simp only [cntD,h k (by omega),ih fun a ha => h a (by omega)]
theorem usdD_congr : ∀ {k : Nat},(∀ a,a < k → l a = m a) → ∀ j,usdD l k j = usdD m k j := by
 intro k; induction k with
 | zero => intro _ _; rfl
 | succ k ih => intro h j; simp only [usdD,h k (by omega),ih fun a ha => h a (by omega)]
theorem PlAt.congr (h : ∀ a,a ≤ k → l a = m a) (p : PlAt w l k) : PlAt w m k := by
 have e := h k (Nat.le_refl _)
 have h' : ∀ a,a < k → l a = m a := fun a ha => h a (by omega)
 obtain ⟨p1,p2,p3,p4,p5,p6,p7⟩ := p
 rw [lastD_congr h',e] at p1
 rw [e] at p2 p3 p5 p6
 rw [usdD_congr h',e] at p4
 rw [cntD_congr h',e] at p7
 exact ⟨p1,p2,p3,p4,p5,p6,p7⟩
theorem cntD_nn : ∀ (k : Nat) (j : Int),0 ≤ cntD l k j ∧ cntD l k j ≤ k := by
 intro k; induction k with
 | zero => intro j; exact ⟨Int.le_refl _,Int.le_refl _⟩
 | succ k ih => intro j; have := ih j; simp only [cntD]; split <;> omega
theorem sp_mono (hp : ∀ a,a < n → PlAt w l a) : ∀ {a b : Nat},a < b → b < n → (l a).spathe < (l b).spathe := by
 intro a b hab
 induction b with
 | zero => omega
 | succ b ih =>
  intro hb
  have h1 := (hp (b + 1) hb).s.1
  have h2 : lastD l (b + 1) = (l b).spathe := if_neg (by omega)
  rw [h2] at h1
  by_cases e : a = b
  ·subst e; exact h1
  ·have := ih (by omega) (by omega); omega
theorem sp_ge (hp : ∀ a,a < n → PlAt w l a) : ∀ a,a < n → (a : Int) ≤ (l a).spathe := by
 intro a; induction a with
 | zero => intro ha; have := (hp 0 ha).s.1; have e : lastD l 0 = -1 := rfl; omega
 | succ a ih => intro ha; have := ih (by omega); have := sp_mono hp (show a < a + 1 by omega) ha; omega
theorem PlL.len {l : Dus} (h : PlL w l) : l.1 ≤ w.spathes.1 := by
 rcases Nat.eq_zero_or_pos l.1 with e | e
 ·omega
 ·have h1 := sp_ge h (l.1 - 1) (by omega)
  have h2 := (h (l.1 - 1) (by omega)).s.2
  omega
def frD (l : Nat → Du) (k h : Nat) : Bool := !usdD l k (h : Nat)
def unD (w : Wk) (l : Nat → Du) (k j : Nat) : Int := (w.lots.2 j).units - cntD l k j
theorem frD_s (h0 : 0 ≤ (l k).hour) : frD l (k + 1) = takD (frD l k) (l k).hour.toNat := by
 funext h
 unfold frD takD
 simp only [usdD]
 by_cases e : (h : Int) = (l k).hour
 ·rw [if_pos e,if_pos (by omega)]; rfl
 ·rw [if_neg e,if_neg (by omega)]
theorem unD_s (h0 : 0 ≤ (l k).lot) : unD w l (k + 1) = useD (unD w l k) (l k).lot.toNat := by
 funext j
 unfold unD useD
 simp only [cntD]
 by_cases e : (j : Int) = (l k).lot
 ·rw [if_pos e,if_pos (by omega)]; omega
 ·rw [if_neg e,if_neg (by omega)]
end
noncomputable abbrev stW (w : Wk) (i : Nat) : PS := stD w (fun _ => true) (fun j => (w.lots.2 j).units) i
section
variable {w : Wk}
theorem st_fu (w : Wk) : ∀ i,(∀ h,(stW w i).fr h = frD (stW w i).pl (stW w i).cnt h) ∧ ∀ j,(stW w i).un j = unD w (stW w i).pl (stW w i).cnt j := by
 intro i; induction i with
 | zero => exact ⟨fun _ => rfl,fun j => by show (w.lots.2 j).units = (w.lots.2 j).units - 0; omega⟩
 | succ i ih =>
  obtain ⟨i1,i2⟩ := ih
  show (∀ h,(stepD w i (stW w i)).fr h = _) ∧ _
  change (∀ h,(stepD w i (stW w i)).fr h = frD (stepD w i (stW w i)).pl (stepD w i (stW w i)).cnt h) ∧ ∀ j,(stepD w i (stW w i)).un j = unD w (stepD w i (stW w i)).pl (stepD w i (stW w i)).cnt j
  generalize stW w i = s at i1 i2
  rcases step_cases w i s with ⟨h,j,_,_,_,_,_,h6⟩ | ⟨_,h6⟩
  ·rw [h6]
   have ek : (putD s i h j).pl s.cnt = ⟨i,h,j⟩ := if_pos rfl
   have ec : ∀ a,a < s.cnt → (putD s i h j).pl a = s.pl a := fun a ha => if_neg (by omega)
   have hh : ((putD s i h j).pl s.cnt).hour = (h : Int) := by rw [ek]
   have hj : ((putD s i h j).pl s.cnt).lot = (j : Int) := by rw [ek]
   refine ⟨fun x => ?_,fun x => ?_⟩
   ·show takD s.fr h x = frD (putD s i h j).pl (s.cnt + 1) x
    rw [frD_s (by rw [hh]; omega),hh,Int.toNat_natCast]
    unfold takD; split
    ·rfl
    ·rw [i1 x]; unfold frD; rw [usdD_congr ec]
   ·show useD s.un j x = unD w (putD s i h j).pl (s.cnt + 1) x
    rw [unD_s (by rw [hj]; omega),hj,Int.toNat_natCast]
    unfold useD
    have : s.un x = unD w (putD s i h j).pl s.cnt x := by rw [i2 x]; unfold unD; rw [cntD_congr ec]
    rw [this]
  ·rw [h6]; exact ⟨i1,i2⟩
theorem st_pl (hb : WkB w) : ∀ i,i ≤ w.spathes.1 → (∀ k,k < (stW w i).cnt → PlAt w (stW w i).pl k) ∧ lastD (stW w i).pl (stW w i).cnt < i := by
 intro i; induction i with
 | zero => intro _; exact ⟨fun k hk => absurd hk (Nat.not_lt_zero _),by show (-1 : Int) < 0; decide⟩
 | succ i ih =>
  intro hi
  obtain ⟨i1,i2⟩ := ih (by omega)
  obtain ⟨f1,f2⟩ := st_fu w i
  have hok := st_ok hb (fr := fun _ => true) hb.u i
  change (∀ k,k < (stepD w i (stW w i)).cnt → PlAt w (stepD w i (stW w i)).pl k) ∧ lastD (stepD w i (stW w i)).pl (stepD w i (stW w i)).cnt < ((i + 1 : Nat) : Int)
  change PlOk w (stW w i) i at hok
  generalize stW w i = s at i1 i2 f1 f2 hok
  rcases step_cases w i s with ⟨h,j,h1,h2,h3,_,_,h6⟩ | ⟨_,h6⟩
  ·rw [h6]
   obtain ⟨c1,c2,c3,c4,_⟩ := h3
   have ek : (putD s i h j).pl s.cnt = ⟨i,h,j⟩ := if_pos rfl
   have ec : ∀ a,a < s.cnt → (putD s i h j).pl a = s.pl a := fun a ha => if_neg (by omega)
   refine ⟨fun k hk => ?_,?_⟩
   ·have hk : k < s.cnt + 1 := hk
    by_cases e : k = s.cnt
    ·subst e
     refine ⟨?_,?_,?_,?_,?_,?_,?_⟩
     ·rw [lastD_congr ec,ek]; exact ⟨i2,by show (i : Int) < _; omega⟩
     ·rw [ek]; exact ⟨by show (0 : Int) ≤ h; omega,by show (h : Int) < _; omega⟩
     ·rw [ek]; exact ⟨by show (0 : Int) ≤ j; omega,by show (j : Int) < _; omega⟩
     ·rw [usdD_congr ec,ek]
      have := f1 h
      rw [c1] at this
      unfold frD at this
      show usdD s.pl s.cnt (h : Int) = false
      cases e : usdD s.pl s.cnt (h : Int)
      ·rfl
      ·rw [e] at this; cases this
     ·rw [ek]; exact c3
     ·rw [ek]; exact c4
     ·rw [cntD_congr ec,ek]
      have h4 := f2 j
      unfold unD at h4
      have h5 := (hok.un j h2).1
      show cntD s.pl s.cnt (j : Int) + 1 ≤ (w.lots.2 j).units
      omega
    ·exact (i1 k (by omega)).congr fun a ha => (ec a (by omega)).symm
   ·have : lastD (putD s i h j).pl (s.cnt + 1) = ((putD s i h j).pl s.cnt).spathe := if_neg (by omega)
    show lastD (putD s i h j).pl (s.cnt + 1) < _
    rw [this,ek]; show (i : Int) < _; omega
  ·rw [h6]; exact ⟨i1,by omega⟩
noncomputable def mostL (w : Wk) : Dus := ((plD w).cnt,(plD w).pl)
theorem most_pl (hb : WkB w) : PlL w (mostL w) := (st_pl hb w.spathes.1 (Nat.le_refl _)).1
end
end Go.Proofs.Ytlapepdhkomijaa
namespace Go.Proofs.Ytlapepdhkomijaa
open Go Go.RowKit
theorem rdy_1 {l : Pms} {w : Wk} (h : rdyB l w = true) : workE l w = 0 := (decP_true.1 h).2
theorem work_ok {l : Pms} {w : Wk} (h : workE l w = 0) : PmsOk l ∧ ¬ badI l < l.1 ∧ WkOk (knF l) w := by
 unfold workE at h
 split at h
 ·rename_i h1
  split at h
  ·cases h
  ·rename_i h2
   split at h
   ·rename_i h3; exact ⟨pmE_0 h1,h2,decP_true.1 h3⟩
   ·cases h
 ·cases h
theorem rdy_b {l : Pms} {w : Wk} (h : rdyB l w = true) : WkB w := (work_ok (rdy_1 h)).2.2.b
theorem mo_ex {l : Pms} {w : Wk} (h : workE l w = 0) : ∃ (n : Nat) (f : Nat → Du),moQ l w = .tup (.cons (.view 3 n fun a b => (f a).c b) (.cons (.int .i64 0) .nil)) ∧ n = (plD w).cnt ∧ f = (plD w).pl := by
 refine ⟨_,_,?_,rfl,rfl⟩
 unfold moQ; rw [if_pos h]
end Go.Proofs.Ytlapepdhkomijaa
namespace Go.Proofs.Ytlapepdhkomijaa
open Go Go.RowKit
variable {G : Nat → Option (Nat × (Nat → Val))}
def lotH (l : Nat → Du) : Nat → Int → Bool
 | 0,_ => false
 | k + 1,j => if j = (l k).lot then true else lotH l k j
theorem lotH_f {l : Nat → Du} : ∀ {k : Nat} {j : Int},lotH l k j = false → cntD l k j = 0 := by
  intro k; induction k with
  | zero => intro _ _; rfl
  | succ k ih => intro j h; simp only [lotH] at h; simp only [cntD]; split at h
                 · cases h
                 · rename_i e; rw [if_neg e]; exact ih h
end Go.Proofs.Ytlapepdhkomijaa
namespace Go.Proofs.Ytlapepdhkomijaa
open Go Go.RowKit
variable {G : Nat → Option (Nat × (Nat → Val))}
def sLawTrue : Spec := spec3 (TSl RPm) TWk (TSl (RU .u32)) (fun _ _ _ => True) fun _ _ _ => .bool true
set_option maxHeartbeats 4000000 in
set_option maxRecDepth 100000 in
theorem pLawTrue : PureOk Try.prog G 9 sLawTrue := by
  refine fn3 (S := [(36,sAliveP),(39,sRdyP),(26,sMoQ),(15,sKnQ),(43,sChooseP),(44,sAt)]) (I := []) mixed
    (.cons pAliveP (.cons pRdyP (.cons (show PureOk Try.prog G _ sMoQ from pMostP) (.cons (show PureOk Try.prog G _ sKnQ from pKnownP) (.cons pChooseP (.cons pAt .nil)))))) .nil Try.func9 c9 fun l w b _ hw => ?_
  simp only [RU_k,RU_C,↓imp_tt,↓imp_tf,↓imp_ft,↓imp_ff,↓reduceIte,reduceCtorEq,Nat.reduceEqDiff,Nat.reduceAdd,Nat.reduceSub,Nat.reduceLeDiff,Nat.reduceMul,Nat.reduceLT,Int.reduceToNat,Int.reduceLT,Int.reduceLE,Int.reduceEq,Int.reduceNeg,Int.reduceMul,Int.reduceAdd,Int.reduceSub,Int.reduceNe,Int.reduceBEq,Int.reduceBNe,Nat.reducePow,go_sem] at hw
  cases hr : rdyB l w
  · simp only [RunTo,a9,sAliveP,sRdyP,hr,RU_k,RU_C,RU_W,RU_D,hw,↓imp_tt,↓imp_tf,↓imp_ft,↓imp_ff,↓reduceIte,reduceCtorEq,Nat.reduceEqDiff,Nat.reduceAdd,Nat.reduceSub,Nat.reduceLeDiff,Nat.reduceMul,Nat.reduceLT,Int.reduceToNat,Int.reduceLT,Int.reduceLE,Int.reduceEq,Int.reduceNeg,Int.reduceMul,Int.reduceAdd,Int.reduceSub,Int.reduceNe,Int.reduceBEq,Int.reduceBNe,Nat.reducePow,go_sem]
  have he := rdy_1 hr
  have hb := rdy_b hr
  obtain ⟨hp,hbad,hwk⟩ := work_ok he
  obtain ⟨n,f,e1,en,ef⟩ := mo_ex he
  have hS := hb.s
  have hH := hb.h
  have hL := hb.l
  have hn24 := hp.n
  have hpl : PlL w (n,f) := by rw [en,ef]; exact most_pl hb
  have hlen : n ≤ w.spathes.1 := hpl.len
  obtain ⟨kn,hkn⟩ : ∃ f,f = knP l := ⟨_,rfl⟩
  have e2 : knQ l = .tup (.cons (.view 5 l.1 fun i j => (kn i).c j) (.cons (.int .i64 0) (.cons (.int .i64 0) .nil))) := by
    unfold knQ; rw [if_pos (pmE_ok hp),if_neg hbad,hkn]
  have y4 : (n ≤ 9223372036854775807) = True := eq_true (by omega)
  have y5 : (l.1 ≤ 9223372036854775807) = True := eq_true (by omega)
  simp (config := { maxSteps := 1000000 }) only [RunTo,a9,sAliveP,sRdyP,sMoQ,sKnQ,hr,e1,e2,y4,y5,RU_k,RU_C,RU_W,RU_D,hw,↓imp_tt,↓imp_tf,↓imp_ft,↓imp_ff,↓reduceIte,reduceCtorEq,Nat.reduceEqDiff,Nat.reduceAdd,Nat.reduceSub,Nat.reduceLeDiff,Nat.reduceMul,Nat.reduceLT,Int.reduceToNat,Int.reduceLT,Int.reduceLE,Int.reduceEq,Int.reduceNeg,Int.reduceMul,Int.reduceAdd,Int.reduceSub,Int.reduceNe,Int.reduceBEq,Int.reduceBNe,Nat.reducePow,go_sem]
  refine loopI (ι := Nat) (fun k => k ≤ n) (fun k => n - k) [0,2,4,7,10,13,14,60,61] (fun k => [(62,.int .i64 k)]) (fun k => [(1,.mp .i64 (usdD f k) fun _ => .int .i64 1),(2,.mp .i64 (lotH f k) fun j => .int .i64 (cntD f k j))]) 0 (Nat.zero_le _) (by simp only [usdD,lotH,cntD,↓imp_tt,↓imp_tf,↓imp_ft,↓imp_ff,↓reduceIte,reduceCtorEq,Nat.reduceEqDiff,Nat.reduceAdd,Nat.reduceSub,Nat.reduceLeDiff,Nat.reduceMul,Nat.reduceLT,Int.reduceToNat,Int.reduceLT,Int.reduceLE,Int.reduceEq,Int.reduceNeg,Int.reduceMul,Int.reduceAdd,Int.reduceSub,Int.reduceNe,Int.reduceBEq,Int.reduceBNe,Nat.reducePow,go_sem]; try simp) fun k hk => ?_
  by_cases hkn' : ¬ k < n
  · have fk : ((k : Int) < (n : Int)) = False := eq_false (by omega)
    simp only [fk,RU_k,RU_C,RU_W,RU_D,hw,↓imp_tt,↓imp_tf,↓imp_ft,↓imp_ff,↓reduceIte,reduceCtorEq,Nat.reduceEqDiff,Nat.reduceAdd,Nat.reduceSub,Nat.reduceLeDiff,Nat.reduceMul,Nat.reduceLT,Int.reduceToNat,Int.reduceLT,Int.reduceLE,Int.reduceEq,Int.reduceNeg,Int.reduceMul,Int.reduceAdd,Int.reduceSub,Int.reduceNe,Int.reduceBEq,Int.reduceBNe,Nat.reducePow,go_sem]
  have hkl := Classical.not_not.1 hkn'
  have fk : ((k : Int) < (n : Int)) = True := eq_true (by omega)
  have pk : (0 ≤ (k : Int)) = True := eq_true (by omega)
  have hps := sp_ge hpl k hkl
  have hps : (k : Int) ≤ (f k).spathe := hps
  obtain ⟨⟨q1,q2⟩,⟨q3,q4⟩,⟨q5,q6⟩,q7,q8,q9,q10⟩ := hpl k hkl
  simp only at q1 q2 q3 q4 q5 q6 q7 q8 q9 q10
  obtain ⟨i,es⟩ : ∃ i : Nat,(f k).spathe = (i : Int) := ⟨(f k).spathe.toNat,by omega⟩
  obtain ⟨h,eh⟩ : ∃ h : Nat,(f k).hour = (h : Int) := ⟨(f k).hour.toNat,by omega⟩
  obtain ⟨j,ej⟩ : ∃ j : Nat,(f k).lot = (j : Int) := ⟨(f k).lot.toNat,by omega⟩
  rw [es] at q2 q8
  rw [eh] at q4 q7 q8 q9
  rw [ej] at q6 q9 q10
  rw [Int.toNat_natCast,Int.toNat_natCast] at q8 q9
  rw [Int.toNat_natCast] at q10
  have hi : i < w.spathes.1 := by omega
  have hh : h < w.hours.1 := by omega
  have hj : j < w.lots.1 := by omega
  have q8 := of_decide_eq_true q8
  have q9 := of_decide_eq_true q9
  obtain ⟨sb,sc⟩ := hwk.sp i hi
  obtain ⟨lb,lu,lf⟩ := hwk.lt j hj
  have hd := hwk.d
  have ho := hwk.o
  have hhr := hwk.hr h hh
  unfold HrOk at hhr
  unfold bearsP at sb lb
  rw [(knF_same l).hit] at sb lb
  have sb2 : (kn (hitN l (w.spathes.2 i).palm)).sex.1 = 1 := by rw [hkn]; exact sb.2.1
  have lb2 : (kn (hitN l (w.lots.2 j).palm)).sex.1 = 2 := by rw [hkn]; exact lb.2.1
  have sb3 : 1500 ≤ w.day - (l.2 (hitN l (w.spathes.2 i).palm)).planted := sb.2.2
  have lb3 : 1500 ≤ w.day - (l.2 (hitN l (w.lots.2 j).palm)).planted := lb.2.2
  have sb1 : hitN l (w.spathes.2 i).palm < l.1 := sb.1
  have lb1 : hitN l (w.lots.2 j).palm < l.1 := lb.1
  have ea := atF_pos sb1
  have eb := atF_pos lb1
  have sp := hp.pl _ sb1
  have lp := hp.pl _ lb1
  generalize hitN l (w.spathes.2 i).palm = a1 at *
  generalize hitN l (w.lots.2 j).palm = a2 at *
  have hcn := cntD_nn (l := f) k (j : Int)
  have hc0 := choU_nn b (i : Int)
  have hc1 : choU b (i : Int) ≤ 4294967295 := by
    unfold choU; split
    · exact (b.2 (i : Int).toNat).2.2
    · decide
  generalize hcu : choU b (i : Int) = cu at *
  obtain ⟨lo,hlo⟩ : ∃ x,(w.spathes.2 i).cracks.lo = x := ⟨_,rfl⟩
  obtain ⟨hi',hhi⟩ : ∃ x,(w.spathes.2 i).cracks.hi = x := ⟨_,rfl⟩
  rw [hlo,hhi] at q8 sc
  have v1 : IntKind.i64.wrap cu = cu := wr64 (by omega) (by omega)
  have v2 : IntKind.i64.wrap (hi' - lo) = hi' - lo := wr64 (by omega) (by omega)
  have v3 : IntKind.i64.wrap (hi' - lo + 1) = hi' - lo + 1 := wr64 (by omega) (by omega)
  have v4 : 0 ≤ cu.tmod (hi' - lo + 1) := Int.tmod_nonneg _ hc0
  have v5 : cu.tmod (hi' - lo + 1) < hi' - lo + 1 := Int.tmod_lt_of_pos _ (by omega)
  generalize hrm : cu.tmod (hi' - lo + 1) = rm at *
  have v6 : IntKind.i64.wrap (lo + rm) = lo + rm := wr64 (by omega) (by omega)
  have v7 : IntKind.i64.wrap (lo + rm + w.opn) = lo + rm + w.opn := wr64 (by omega) (by omega)
  have v8 : IntKind.i64.wrap (w.day - (l.2 a1).planted) = w.day - (l.2 a1).planted := wr64 (by omega) (by omega)
  have v9 : IntKind.i64.wrap (w.day - (l.2 a2).planted) = w.day - (l.2 a2).planted := wr64 (by omega) (by omega)
  have ew : IntKind.i64.wrap (cntD f k (j : Int) + 1) = cntD f k (j : Int) + 1 := wr64 (by omega) (by omega)
  have ew1 : IntKind.i64.wrap 1 = 1 := wr64 (by omega) (by omega)
  have f1 : ((i : Int) < 0) = False := eq_false (by omega)
  have f2 : ((i : Int) ≥ (w.spathes.1 : Int)) = False := eq_false (by omega)
  have f3 : ((h : Int) < 0) = False := eq_false (by omega)
  have f4 : ((h : Int) ≥ (w.hours.1 : Int)) = False := eq_false (by omega)
  have f5 : ((j : Int) < 0) = False := eq_false (by omega)
  have f6 : ((j : Int) ≥ (w.lots.1 : Int)) = False := eq_false (by omega)
  cases el : lotH f k (j : Int)
  · have ec := lotH_f el
    simp (config := { maxSteps := 1000000 }) only [sChooseP,sAt,fk,pk,es,eh,ej,f1,f2,f3,f4,f5,f6,q7,el,ea,eb,hcu,hrm,hlo,hhi,v1,v2,v3,v6,v7,v8,v9,ew,ew1,sb2,lb2,Int.toNat_natCast,RU_k,RU_C,RU_W,RU_D,hw,↓imp_tt,↓imp_tf,↓imp_ft,↓imp_ff,↓reduceIte,reduceCtorEq,Nat.reduceEqDiff,Nat.reduceAdd,Nat.reduceSub,Nat.reduceLeDiff,Nat.reduceMul,Nat.reduceLT,Int.reduceToNat,Int.reduceLT,Int.reduceLE,Int.reduceEq,Int.reduceNeg,Int.reduceMul,Int.reduceAdd,Int.reduceSub,Int.reduceNe,Int.reduceBEq,Int.reduceBNe,Nat.reducePow,go_sem]
    repeat' (first | omega | (with_reducible apply And.intro) | intro _)
    all_goals first
      | omega
      | (refine inv_intro (k + 1) hkl (by omega) ?_
         simp only [usdD,lotH,cntD,eh,ej,↓imp_tt,↓imp_tf,↓imp_ft,↓imp_ff,↓reduceIte,reduceCtorEq,Nat.reduceEqDiff,Nat.reduceAdd,Nat.reduceSub,Nat.reduceLeDiff,Nat.reduceMul,Nat.reduceLT,Int.reduceToNat,Int.reduceLT,Int.reduceLE,Int.reduceEq,Int.reduceNeg,Int.reduceMul,Int.reduceAdd,Int.reduceSub,Int.reduceNe,Int.reduceBEq,Int.reduceBNe,Nat.reducePow,go_sem]
         refine ⟨wrS (by omega),fun x hx => ?_,fun x _ => by split <;> rfl⟩
         by_cases e : x = (j : Int)
         · first | (rw [if_pos e,if_pos e,e,ec]; rfl) | rw [if_pos e,if_pos e,e]
         · rw [if_neg e,if_neg e])
  · simp (config := { maxSteps := 1000000 }) only [sChooseP,sAt,fk,pk,es,eh,ej,f1,f2,f3,f4,f5,f6,q7,el,ea,eb,hcu,hrm,hlo,hhi,v1,v2,v3,v6,v7,v8,v9,ew,ew1,sb2,lb2,Int.toNat_natCast,RU_k,RU_C,RU_W,RU_D,hw,↓imp_tt,↓imp_tf,↓imp_ft,↓imp_ff,↓reduceIte,reduceCtorEq,Nat.reduceEqDiff,Nat.reduceAdd,Nat.reduceSub,Nat.reduceLeDiff,Nat.reduceMul,Nat.reduceLT,Int.reduceToNat,Int.reduceLT,Int.reduceLE,Int.reduceEq,Int.reduceNeg,Int.reduceMul,Int.reduceAdd,Int.reduceSub,Int.reduceNe,Int.reduceBEq,Int.reduceBNe,Nat.reducePow,go_sem]
    repeat' (first | omega | (with_reducible apply And.intro) | intro _)
    all_goals first
      | omega
      | (refine inv_intro (k + 1) hkl (by omega) ?_
         simp only [usdD,lotH,cntD,eh,ej,↓imp_tt,↓imp_tf,↓imp_ft,↓imp_ff,↓reduceIte,reduceCtorEq,Nat.reduceEqDiff,Nat.reduceAdd,Nat.reduceSub,Nat.reduceLeDiff,Nat.reduceMul,Nat.reduceLT,Int.reduceToNat,Int.reduceLT,Int.reduceLE,Int.reduceEq,Int.reduceNeg,Int.reduceMul,Int.reduceAdd,Int.reduceSub,Int.reduceNe,Int.reduceBEq,Int.reduceBNe,Nat.reducePow,go_sem]
         refine ⟨wrS (by omega),fun x hx => ?_,fun x _ => by split <;> rfl⟩
         by_cases e : x = (j : Int)
         · first | (rw [if_pos e,if_pos e,e,ec]; rfl) | rw [if_pos e,if_pos e,e]
         · rw [if_neg e,if_neg e])
end Go.Proofs.Ytlapepdhkomijaa
