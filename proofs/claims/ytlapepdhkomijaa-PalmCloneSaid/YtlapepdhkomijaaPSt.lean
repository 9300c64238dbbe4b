/- The greatest plan that is first: how it grows; it is one, and it is the greatest. No condition but bounds. -/
import Derived.Test.YtlapepdhkomijaaPNet
import Derived.Test.YtlapepdhkomijaaPFlw
import Derived.Test.YtlapepdhkomijaaACode1
set_option linter.unusedSimpArgs false
set_option linter.unusedVariables false
namespace Go.Proofs.Ytlapepdhkomijaa
open Go Go.RowKit
structure PS where
 fr : Nat → Bool
 un : Nat → Int
 need : Int
 cnt : Nat
 pl : Nat → Du
def takD (fr : Nat → Bool) (h : Nat) : Nat → Bool := fun a => if a = h then false else fr a
def useD (un : Nat → Int) (j : Nat) : Nat → Int := fun b => if b = j then un b - 1 else un b
def canD (w : Wk) (i : Nat) (s : PS) (h j : Nat) : Prop := s.fr h = true ∧ s.un j ≠ 0 ∧ takesF w i h = true ∧ goodF w h j = true ∧ 1 + maxP (ntF w (i + 1) (takD s.fr h) (useD s.un j)) = s.need
def putD (s : PS) (i h j : Nat) : PS := ⟨takD s.fr h,useD s.un j,s.need - 1,s.cnt + 1,fun a => if a = s.cnt then ⟨i,h,j⟩ else s.pl a⟩
noncomputable def hourD (w : Wk) (i : Nat) (s : PS) : Nat := fstI (fun h => ∃ j,j < w.lots.1 ∧ canD w i s h j) w.hours.1
noncomputable def lotD (w : Wk) (i : Nat) (s : PS) : Nat := fstI (canD w i s (hourD w i s)) w.lots.1
noncomputable def stepD (w : Wk) (i : Nat) (s : PS) : PS := if hourD w i s < w.hours.1 then putD s i (hourD w i s) (lotD w i s) else s
noncomputable def stD (w : Wk) (fr : Nat → Bool) (un : Nat → Int) : Nat → PS
 | 0 => ⟨fr,un,maxP (ntF w 0 fr un),0,fun _ => ⟨0,0,0⟩⟩
 | i + 1 => stepD w i (stD w fr un i)
section
variable {w : Wk} {i h j : Nat} {s : PS}
theorem step_no (hn : ∀ h,h < w.hours.1 → ∀ j,j < w.lots.1 → ¬ canD w i s h j) : stepD w i s = s := by
 have : hourD w i s = w.hours.1 := fstI_no fun h hh ⟨j,hj,hc⟩ => hn h hh j hj hc
 unfold stepD; rw [this,if_neg (Nat.lt_irrefl _)]
theorem step_at (hh : h < w.hours.1) (hj : j < w.lots.1) (hc : canD w i s h j) (hb : ∀ h',h' < h → ∀ j',j' < w.lots.1 → ¬ canD w i s h' j') (hb2 : ∀ j',j' < j → ¬ canD w i s h j') : stepD w i s = putD s i h j := by
 have e : hourD w i s = h := fstI_at hh ⟨j,hj,hc⟩ fun h' h1 ⟨j',h2,h3⟩ => hb h' h1 j' h2 h3
 have e2 : lotD w i s = j := by unfold lotD; rw [e]; exact fstI_at hj hc hb2
 unfold stepD; rw [e2,e,if_pos hh]
theorem step_cases (w : Wk) (i : Nat) (s : PS) : (∃ h j,h < w.hours.1 ∧ j < w.lots.1 ∧ canD w i s h j ∧ (∀ h',h' < h → ∀ j',j' < w.lots.1 → ¬ canD w i s h' j') ∧ (∀ j',j' < j → ¬ canD w i s h j') ∧ stepD w i s = putD s i h j) ∨ ((∀ h,h < w.hours.1 → ∀ j,j < w.lots.1 → ¬ canD w i s h j) ∧ stepD w i s = s) := by
 by_cases hx : ∃ h,h < w.hours.1 ∧ ∃ j,j < w.lots.1 ∧ canD w i s h j
 ·obtain ⟨h,h1,⟨j0,j1,j2⟩,h3⟩ := fst_ex hx
  obtain ⟨j,g1,g2,g3⟩ := fst_ex ⟨j0,j1,j2⟩
  have a := fun h' (hh : h' < h) j' (hj' : j' < w.lots.1) (hc : canD w i s h' j') => h3 h' hh ⟨j',hj',hc⟩
  exact .inl ⟨h,j,h1,g1,g2,a,g3,step_at h1 g1 g2 a g3⟩
 ·have : ∀ h,h < w.hours.1 → ∀ j,j < w.lots.1 → ¬ canD w i s h j := fun h hh j hj hc => hx ⟨h,hh,j,hj,hc⟩
  exact .inr ⟨this,step_no this⟩
end
theorem size_nn (g : Pla) (n : Nat) : 0 ≤ Pla.size g n := by
 unfold Pla.size
 induction n with
 | zero => exact Int.le_refl _
 | succ n ih => simp only [sumN]; split <;> omega
theorem none_plan {N : Nt} (hun : ∀ j,0 ≤ N.un j) : IsPlan N fun _ => none :=
 ⟨fun i h j e => (by cases e),fun i i' h j j' e => (by cases e),fun j _ => by
  have : sumN (fun i => if lotIs ((fun _ => none : Pla) i) j = true then (1 : Int) else 0) N.S = 0 := sumN_ind_none fun i _ h => (by cases h)
  rw [this]; exact hun j⟩
theorem most_ex {N : Nt} (hun : ∀ j,0 ≤ N.un j) : IsMost N (maxP N) := by
 have key : ∀ d : Nat,∀ g,IsPlan N g → N.S ≤ (Pla.size g N.S).toNat + d → ∃ v,IsMost N v := by
  intro d
  induction d with
  | zero =>
   intro g hg hd
   refine ⟨Pla.size g N.S,⟨g,hg,rfl⟩,fun g' _ => ?_⟩
   have := Pla.size_le g' N.S
   have := size_nn g N.S
   omega
  | succ d ih =>
   intro g hg hd
   by_cases hx : ∃ g',IsPlan N g' ∧ Pla.size g N.S < Pla.size g' N.S
   ·obtain ⟨g',h1,h2⟩ := hx
    have := size_nn g N.S
    exact ih g' h1 (by omega)
   ·refine ⟨Pla.size g N.S,⟨g,hg,rfl⟩,fun g' h1 => ?_⟩
    rcases Int.lt_or_le (Pla.size g N.S) (Pla.size g' N.S) with h | h
    ·exact absurd ⟨g',h1,h⟩ hx
    ·exact h
 obtain ⟨v,hv⟩ := key N.S _ (none_plan hun) (by omega)
 rw [maxP_eq hv]; exact hv
theorem maxP_nn {N : Nt} (hun : ∀ j,0 ≤ N.un j) : 0 ≤ maxP N := by
 obtain ⟨g,_,e⟩ := (most_ex hun).ex
 rw [← e]; exact size_nn _ _
theorem maxP_le {N : Nt} (hun : ∀ j,0 ≤ N.un j) : maxP N ≤ N.S := by
 obtain ⟨g,_,e⟩ := (most_ex hun).ex
 rw [← e]; exact Pla.size_le _ _
structure PlOk (w : Wk) (s : PS) (i : Nat) : Prop where
 un : ∀ j,j < w.lots.1 → 0 ≤ s.un j ∧ s.un j ≤ 100
 nd : 0 ≤ s.need ∧ s.need ≤ 8
 cn : s.cnt ≤ i
theorem ntF_un {w : Wk} {a : Nat} {fr : Nat → Bool} {un : Nat → Int} (h : ∀ j,j < w.lots.1 → 0 ≤ un j) : ∀ j,0 ≤ (ntF w a fr un).un j := fun j => by
 show (0 : Int) ≤ if j < w.lots.1 then un j else 0
 split
 ·rename_i e; exact h j e
 ·exact Int.le_refl _
theorem useD_un {w : Wk} {un : Nat → Int} {j : Nat} (h : ∀ j,j < w.lots.1 → 0 ≤ un j ∧ un j ≤ 100) (hj : j < w.lots.1) (hn : un j ≠ 0) : ∀ b,b < w.lots.1 → 0 ≤ useD un j b ∧ useD un j b ≤ 100 := fun b hb => by
 have h1 := h b hb
 unfold useD; split
 ·rename_i e; subst e; omega
 ·exact h1
theorem PlOk.put {w : Wk} {s : PS} {i h j : Nat} (hs : PlOk w s i) (hj : j < w.lots.1) (hc : canD w i s h j) : PlOk w (putD s i h j) (i + 1) := by
 obtain ⟨_,c2,_,_,c5⟩ := hc
 have hu := useD_un hs.un hj c2
 have := maxP_nn (ntF_un (w := w) (a := i + 1) (fr := takD s.fr h) (un := useD s.un j) fun b hb => (hu b hb).1)
 have hn := hs.nd
 have hc := hs.cn
 exact ⟨hu,⟨by show 0 ≤ s.need - 1; omega,by show s.need - 1 ≤ 8; omega⟩,by show s.cnt + 1 ≤ _; omega⟩
theorem st_ok {w : Wk} (hb : WkB w) {fr : Nat → Bool} {un : Nat → Int} (hu : ∀ j,j < w.lots.1 → 0 ≤ un j ∧ un j ≤ 100) : ∀ i,PlOk w (stD w fr un i) i := by
 intro i
 induction i with
 | zero =>
  have h1 := ntF_un (w := w) (a := 0) (fr := fr) fun j hj => (hu j hj).1
  have h2 := maxP_nn h1
  have h3 := maxP_le h1
  have h4 : ((ntF w 0 fr un).S : Int) ≤ 8 := by have := hb.s; show (w.spathes.1 : Int) ≤ 8; omega
  exact ⟨hu,⟨h2,by show maxP (ntF w 0 fr un) ≤ 8; omega⟩,Nat.le_refl _⟩
 | succ i ih =>
  show PlOk w (stepD w i (stD w fr un i)) (i + 1)
  rcases step_cases w i (stD w fr un i) with ⟨h,j,_,h2,h3,_,_,h6⟩ | ⟨_,h6⟩
  ·rw [h6]; exact ih.put h2 h3
  ·rw [h6]; exact ⟨ih.un,ih.nd,by have := ih.cn; omega⟩
end Go.Proofs.Ytlapepdhkomijaa
namespace Go.Proofs.Ytlapepdhkomijaa
open Go Go.RowKit
variable {G : Nat → Option (Nat × (Nat → Val))}
def mate (k : Nat) : Nat := if k % 2 = 0 then k + 1 else k - 1
theorem mate_mate (k : Nat) : mate (mate k) = k := by unfold mate; split <;> split <;> omega
theorem mate_ne (k : Nat) : mate k ≠ k := by unfold mate; split <;> omega
set_option maxRecDepth 10000 in
theorem xor1 : ∀ k,k < 1024 → k ^^^ 1 = mate k := by decide
theorem bits_xor1 {k : Nat} (hk : k < 1024) : bits .xor .i64 (k : Int) 1 = ((mate k : Nat) : Int) := by
 have h1 : (BitVec.ofInt 64 (k : Int)).toNat = k := by
  rw [BitVec.ofInt_natCast,BitVec.toNat_ofNat]; exact Nat.mod_eq_of_lt (by omega)
 have h2 : (BitVec.ofInt 64 1).toNat = 1 := by decide
 have hm : mate k < 2000 := by unfold mate; split <;> omega
 show IntKind.i64.wrap ((BitVec.ofInt 64 (k : Int) ^^^ BitVec.ofInt 64 1).toNat : Int) = _
 rw [BitVec.toNat_xor,h1,h2,xor1 k hk]
 exact wr64 (by omega) (by omega)
theorem noIt_bset {b y : Bn} {c : Box} (hc : noIt1 b c) : ∀ {bx : Bx},noIt b bx → noIt b (bset bx y c) := by
 intro bx
 induction bx with
 | nil => intro _; cases y <;> simp only [bset,noIt] <;> first | exact ⟨hc,trivial⟩ | exact ⟨fun _ _ => hc,trivial⟩
 | cons p l ih =>
  obtain ⟨t,c'⟩ := p
  intro h
  cases c' with
  | one c' =>
   obtain ⟨h1,h2⟩ := h
   cases y <;> simp only [bset]
   ·split
    ·exact ⟨hc,h2⟩
    ·exact ⟨h1,ih h2⟩
   ·exact ⟨h1,ih h2⟩
  | fam d r =>
   obtain ⟨h1,h2⟩ := h
   cases y <;> simp only [bset]
   ·exact ⟨h1,ih h2⟩
   ·split
    ·refine ⟨fun z hz => ?_,h2⟩
     simp only at hz ⊢
     split
     ·exact hc
     ·rename_i e; rw [if_neg e] at hz; exact h1 z hz
    ·exact ⟨h1,ih h2⟩
structure Adj (n m : Nat) (tw : Nat → Nat) (ln : Nat → Nat) (ix : Nat → Nat → Nat) : Prop where
 ev : ∀ k,k < m → mate k < m
 tn : ∀ k,k < m → tw k < n
 lt : ∀ u,u < n → ∀ i,i < ln u → ix u i < m
 fr : ∀ u,u < n → ∀ i,i < ln u → tw (mate (ix u i)) = u
 cov : ∀ k,k < m → ∃ i,i < ln (tw (mate k)) ∧ ix (tw (mate k)) i = k
 le : ∀ u,u < n → ln u < 2000
 uq : ∀ k k',k < m → k' < m → tw k = tw k' → tw (mate k) = tw (mate k') → k = k'
theorem ln_le {n m : Nat} {tw : Nat → Nat} {ln : Nat → Nat} {ix : Nat → Nat → Nat} (h : Adj n m tw ln ix) {u : Nat} (hu : u < n) (hm : m < 1000) : ln u < 2000 := h.le u hu
structure Res (n m : Nat) (tw : Nat → Nat) (lf : Nat → Int) (r : Nat → Nat → Int) : Prop where
 on : ∀ k,k < m → r (tw (mate k)) (tw k) = lf k
 off : ∀ u,u < n → ∀ v,v < n → (∀ k,k < m → ¬ (tw (mate k) = u ∧ tw k = v)) → r u v = 0
theorem Res.upd {n m : Nat} {tw : Nat → Nat} {ln : Nat → Nat} {ix : Nat → Nat → Nat} {lf : Nat → Int} {r : Nat → Nat → Int} (hA : Adj n m tw ln ix) (h : Res n m tw lf r) {k : Nat} (hk : k < m) : Res n m tw (fun x => if x = mate k then lf x + 1 else if x = k then lf x - 1 else lf x) (updR r (tw (mate k)) (tw k)) := by
 refine ⟨fun x hx => ?_,fun u hu v hv hno => ?_⟩
 ·simp only [updR]
  by_cases e1 : x = mate k
  ·subst e1; rw [mate_mate,if_pos ⟨rfl,rfl⟩,if_pos rfl,← h.on _ hx,mate_mate]
  ·rw [if_neg e1,if_neg (fun e => e1 (hA.uq x (mate k) hx (hA.ev k hk) e.2 (by rw [mate_mate]; exact e.1)))]
   by_cases e2 : x = k
   ·subst e2; rw [if_pos ⟨rfl,rfl⟩,if_pos rfl,h.on _ hx]
   ·rw [if_neg e2,if_neg (fun e => e2 (hA.uq x k hx hk e.2 e.1)),h.on _ hx]
 ·simp only [updR]
  rw [if_neg fun e => hno (mate k) (hA.ev k hk) ⟨by rw [mate_mate]; exact e.1.symm,e.2.symm⟩,if_neg fun e => hno k hk ⟨e.1.symm,e.2.symm⟩]
  exact h.off u hu v hv hno
structure PNet (n m X E M F Z : Nat) (d1 d2 d3 d4 d5 : Val) (tw : Nat → Nat) (lf : Nat → Int) (ln : Nat → Nat) (ix : Nat → Nat → Nat) (sn : Nat → Bool) (bx : Bx) : Prop where
 x : bget bx (.n X) = some (.cells (.cons d1 (.cons d2 (.cons d3 (.cons d4 (.cons d5 (.cons (.own (.n E)) (.cons (.mapb (.n M)) (.cons (.mapb (.n Z)) .nil)))))))))
 e : ∃ c,bget bx (.n E) = some (.row 150 2 m c) ∧ ∀ k,k < m → c k 0 = .int .i64 (tw k) ∧ c k 1 = .int .i64 (lf k)
 mm : ∃ f,bget bx (.n M) = some (.mz .i64 f) ∧ ∀ u : Nat,u < n → f u = .own (.f F u)
 f : ∀ u : Nat,u < n → ∃ c,bget bx (.f F u) = some (.row 3 1 (ln u) c) ∧ ∀ i,i < ln u → c i 0 = .int .i64 (ix u i)
 z : ∃ has f,bget bx (.n Z) = some (.mp .i64 has f) ∧ (∀ u : Nat,u < n → has u = sn u) ∧ ∀ k,has k = true → f k = .bool true
 ni : noIt (.n Z) bx
def POld (E Z : Nat) (bx bx' : Bx) : Prop := ∀ y,y ≠ .n Z → y ≠ .n E → bget bx' y = bget bx y
set_option maxHeartbeats 4000000 in
set_option maxRecDepth 100000 in
theorem ppush_run {S : List (FuncId × Spec)} {I : List (FuncId × AFun)} {N : List TypeId} {Q : Val → Bx → Prop} (h90 : lkp S 85 = none) (h90' : lkp I 85 = some a85) {n m X E M F Z : Nat} {d1 d2 d3 d4 d5 : Val} {tw : Nat → Nat} {ln : Nat → Nat} {ix : Nat → Nat → Nat} (hm : m < 1000) (hn : n < 1000) (h1n : 1 < n) (hA : Adj n m tw ln ix) :
  ∀ (d u : Nat) (r : Nat → Nat → Int) (lf : Nat → Int) (sn : Nat → Bool) (bx : Bx) (nx B : Nat) (f : SFrame) (stk : List SFrame),u < n → uns sn n ≤ d → 300 + 300 * d ≤ B → sn u = false → sn 1 = false → (∀ i,i < n → ∀ j,j < n → 0 ≤ r i j ∧ r i j + r j i ≤ 1000) → Res n m tw lf r → PNet n m X E M F Z d1 d2 d3 d4 d5 tw lf ln ix sn bx →
   (∀ b r' lf' sn' bx' B',B ≤ B' + 300 * d + 200 → PushPost n sn u r b r' sn' → Res n m tw lf' r' → PNet n m X E M F Z d1 d2 d3 d4 d5 tw lf' ln ix sn' bx' → POld E Z bx bx' → (b = false → ∀ y,y ≠ .n Z → bget bx' y = bget bx y) → runO (mkN G S I N) Q B' f.K stk f.res (fput f.fr f.d (.bool b)) bx' nx) →
   runO (mkN G S I N) Q B [.code a85.code] (f :: stk) a85.res (params 0 [.ptr (.n X) 0,.int .i64 u]) bx nx := by
 intro d
 induction d with
 | zero =>
  intro u r lf sn bx nx B f stk hu hd _ hsu
  have := uns_upd hsu hu
  omega
 | succ d ih =>
  intro u r lf sn bx nx B f stk hu hd hM hsu hs1 hr hres hnet hK
  obtain ⟨B,rfl⟩ : ∃ m,B = m + 250 := ⟨B - 250,by omega⟩
  have hx := hnet.x
  obtain ⟨ce,he,hce⟩ := hnet.e
  obtain ⟨fm,hmm,hfm⟩ := hnet.mm
  obtain ⟨has,fz,hz,hhas,hfz⟩ := hnet.z
  have hni : noIt (.n Z) bx = True := eq_true hnet.ni
  have hXZ : (X = Z) = False := eq_false fun e => by subst e; rw [hx] at hz; cases hz
  have hXE : (X = E) = False := eq_false fun e => by subst e; rw [hx] at he; cases he
  have hME : (M = E) = False := eq_false fun e => by subst e; rw [hmm] at he; cases he
  have hZE : (Z = E) = False := eq_false fun e => by subst e; rw [hz] at he; cases he
  have hEZ : (E = Z) = False := eq_false fun e => by subst e; rw [he] at hz; cases hz
  have hMZ : (M = Z) = False := eq_false fun e => by subst e; rw [hmm] at hz; cases hz
  by_cases h1 : u = 1
  ·subst h1
   simp only [a85,↓imp_tt,↓imp_tf,↓reduceIte,reduceCtorEq,Nat.reduceEqDiff,go_sem]
   exact hK true r lf sn bx _ (by omega) (.sink h1n fun i hi j hj => (hr i hi j hj).1) hres hnet (fun _ _ _ => rfl) fun h => (by cases h)
  ·have f1 : ((u : Int) = 1) = False := eq_false (by omega)
   have hfu := hfm u hu
   obtain ⟨cu,hcu,hcu2⟩ := hnet.f u hu
   simp only [a85]
   simp only [f1,hx,hmm,hz,hni,hfu,hcu,hMZ,hXZ,bget_bset,↓reduceIte,reduceCtorEq,Nat.reduceEqDiff,Nat.reduceAdd,Nat.reduceLeDiff,go_sem]
   have hkj : ∀ k,k < m → k < 1024 := fun k hk => by omega
   generalize hbs : bset bx (.n Z) (.mp .i64 (fun j => if j = (u : Int) then true else has j) fun j => if j = (u : Int) then .bool true else fz j) = bxs
   have hg : ∀ y,bget bxs y = if y = .n Z then some (.mp .i64 (fun j => if j = (u : Int) then true else has j) fun j => if j = (u : Int) then .bool true else fz j) else bget bx y := fun y => by rw [← hbs,bget_bset]
   have hsni : noIt (.n Z) bxs := by rw [← hbs]; exact noIt_bset (show noIt1 (.n Z) (.mp .i64 _ _) from trivial) hnet.ni
   have hsx : bget bxs (.n X) = some (.cells (.cons d1 (.cons d2 (.cons d3 (.cons d4 (.cons d5 (.cons (.own (.n E)) (.cons (.mapb (.n M)) (.cons (.mapb (.n Z)) .nil))))))))) := by rw [hg,if_neg (by simp [hXZ]),hx]
   have hsz : bget bxs (.n Z) = some (.mp .i64 (fun j => if j = (u : Int) then true else has j) fun j => if j = (u : Int) then .bool true else fz j) := by rw [hg,if_pos rfl]
   have hsu2 : bget bxs (.f F u) = some (.row 3 1 (ln u) cu) := by rw [hg,if_neg (by simp),hcu]
   refine loop_intro (ι := Nat × (Nat → Bool) × (Int → Bool)) (fun s => s.1 ≤ ln u ∧ PushAt n sn u r (fun v => ∃ i',i' < s.1 ∧ tw (ix u i') = v) s.2.1 ∧ ∀ j : Nat,j < n → s.2.2 j = s.2.1 j) (fun s => ln u - s.1) (fun s => [(22,.int .i64 s.1),(0,.ptr (.n X) 0),(20,.own (.f F u)),(21,.int .i64 (ln u))]) (fun s => bset bxs (.n Z) (.mp .i64 s.2.2 fun _ => .bool true)) 0
    (0,updS sn u,fun j => if j = (u : Int) then true else has j) ⟨by omega,?_,fun j hj => ?_⟩ (.inr (chkG_set (Nat.le_refl _) hsz hsz (fun _ _ => rfl) ⟨rfl,fun k => ⟨rfl,fun hk0 => ?_⟩⟩ ⟨rfl,⟨rfl,hasB_bset hsx⟩,.inl ⟨rfl,hasB_bset hsu2⟩,rfl,trivial⟩)) fun s hs' => ?_
   ·have hb := PushAt.begin (n := n) (r := r) hs1 h1
    exact ⟨hb.mono,hb.here,hb.snk,fun v _ h => (by obtain ⟨i',hi',_⟩ := h; exact absurd hi' (Nat.not_lt_zero _)),hb.clo,hb.rch⟩
   ·simp only [updS]
    by_cases e : j = u
    ·subst e; simp
    ·rw [if_neg (by omega),if_neg e]; exact hhas j hj
   ·show (if k = (u : Int) then Val.bool true else fz k) = Val.bool true
    have hk1 : (if k = (u : Int) then true else has k) = true := hk0
    split
    ·rfl
    ·rename_i e; rw [if_neg e] at hk1; exact hfz k hk1
   ·obtain ⟨i,s,h⟩ := s
    obtain ⟨hi,hat,hh⟩ := hs'
    simp only at hi hat hh
    by_cases hil : i < ln u
    ·have fi : ((i : Int) < (ln u : Int)) = True := eq_true (by omega)
     have hkm := hA.lt u hu i hil
     obtain ⟨k,hk⟩ : ∃ k,k = ix u i := ⟨_,rfl⟩
     rw [← hk] at hkm
     have ci : cu i 0 = .int .i64 (k : Int) := by rw [hcu2 i hil,hk]
     have hfrk : tw (mate k) = u := by rw [hk]; exact hA.fr u hu i hil
     obtain ⟨j,hj⟩ : ∃ j,j = tw k := ⟨_,rfl⟩
     have hjn : j < n := by rw [hj]; exact hA.tn k hkm
     have ce0 : ce k 0 = .int .i64 (j : Int) := by rw [(hce k hkm).1,hj]
     have ce1 := (hce k hkm).2
     have hrk : r u j = lf k := by rw [← hfrk,hj]; exact hres.on k hkm
     have fk : ((k : Int) < (m : Int)) = True := eq_true (by omega)
     have hhj := hh j hjn
     have hni2 : noIt (.n Z) (bset bxs (.n Z) (.mp .i64 h fun _ => .bool true)) = True := eq_true (noIt_bset (show noIt1 (.n Z) (.mp .i64 _ _) from trivial) hsni)
     have hback : ∀ fr1,fget fr1 22 = .int .i64 (IntKind.i64.wrap ((i : Int) + 1)) → fget fr1 0 = .ptr (.n X) 0 → fget fr1 20 = .own (.f F u) → fget fr1 21 = .int .i64 (ln u) → (r u j ≤ 0 ∨ s j = true) → ∃ m',m' < ln u - i ∧ ∃ fr'' bx'',LoopT (fun s : Nat × (Nat → Bool) × (Int → Bool) => s.1 ≤ ln u ∧ PushAt n sn u r (fun v => ∃ i',i' < s.1 ∧ tw (ix u i') = v) s.2.1 ∧ ∀ j : Nat,j < n → s.2.2 j = s.2.1 j) (fun s => ln u - s.1) (fun s => [(22,.int .i64 s.1),(0,.ptr (.n X) 0),(20,.own (.f F u)),(21,.int .i64 (ln u))]) (fun s => bset bxs (.n Z) (.mp .i64 s.2.2 fun _ => .bool true)) m' fr'' bx'' ∧ ChkL (f.nx :: stkNx stk) bxs fr1 (bset bxs (.n Z) (.mp .i64 h fun _ => .bool true)) fr'' bx'' nx nx := by
      intro fr1 e5 e0 e1 e2 hsk
      refine inv_chkG (i + 1,s,h) ⟨hil,hat.skip hsk (fun v hv h => ?_),hh⟩ (by simp only; omega) (chkG_set (c1 := .mp .i64 h fun _ => .bool true) (Nat.le_refl _) hsz (by rw [bget_bset,if_pos rfl]) (fun y hy => by rw [bget_bset,if_neg hy]) ⟨rfl,fun k => ⟨rfl,fun _ => rfl⟩⟩ ⟨?_,⟨e0,hasB_bset hsx⟩,.inl ⟨e1,hasB_bset hsu2⟩,e2,trivial⟩)
      ·obtain ⟨i',h1,h2⟩ := h
       by_cases e : i' = i
       ·subst e; right; rw [← h2,hj,hk]
       ·exact .inl ⟨i',by simp only at h1; omega,h2⟩
      ·show fget fr1 22 = _
       rw [e5,wrS (by have := ln_le hA hu hm; omega)]
     by_cases h0 : 0 < lf k
     ·have e0 : (0 < lf k) = True := eq_true h0
      cases hsj : s j with
      | true =>
       simp only [fi,hg,hx,he,hcu,hXZ,hEZ,ci,ce0,ce1,fk,e0,hhj,hsj,bget_bset,↓imp_tt,↓imp_tf,↓imp_ft,↓imp_ff,↓reduceIte,reduceCtorEq,Nat.reduceEqDiff,Nat.reduceAdd,Nat.reduceSub,Nat.reduceLeDiff,go_sem]
       exact ⟨by omega,by omega,hback _ rfl rfl rfl rfl (.inr hsj)⟩
      | false =>
       simp only [fi,hg,hx,he,hcu,hXZ,hEZ,ci,ce0,ce1,fk,e0,hhj,hsj,h90,h90',bget_bset,↓imp_tt,↓imp_tf,↓reduceIte,reduceCtorEq,Nat.reduceEqDiff,Nat.reduceAdd,Nat.reduceLeDiff,go_sem]
       refine ⟨by omega,by omega,?_⟩
       have hnet1 : PNet n m X E M F Z d1 d2 d3 d4 d5 tw lf ln ix s (bset bxs (.n Z) (.mp .i64 h fun _ => .bool true)) := by
        refine ⟨by rw [bget_bset,if_neg (by simp [hXZ]),hsx],⟨ce,by rw [bget_bset,if_neg (by simp [hEZ]),hg,if_neg (by simp [hEZ]),he],hce⟩,⟨fm,by rw [bget_bset,if_neg (by simp [hMZ]),hg,if_neg (by simp [hMZ]),hmm],hfm⟩,fun a ha => ?_,⟨h,fun _ => .bool true,by rw [bget_bset,if_pos rfl],hh,fun _ _ => rfl⟩,by rw [hni2]; trivial⟩
        obtain ⟨ca,q1,q2⟩ := hnet.f a ha
        exact ⟨ca,by rw [bget_bset,if_neg (by simp),hg,if_neg (by simp),q1],q2⟩
       refine ih j r lf s _ _ _ _ _ hjn ?_ (by omega) hsj hat.snk hr hres hnet1 fun b r' lf' sn' bx' B' hM' hpost hres' hnet' hold hkeep => ?_
       ·have := uns_mono (n := n) (s := updS sn u) (t := s) fun i hi h => by
         simp only [updS] at h
         split at h
         ·rename_i e; subst e; exact hat.here
         ·exact hat.mono i hi h
        have := uns_upd hsu hu
        omega
       obtain ⟨B',rfl⟩ : ∃ m,B' = m + 100 := ⟨B' - 100,by omega⟩
       have huj : u ≠ j := fun e => by have := hat.here; rw [e,hsj] at this; cases this
       have hx' := hnet'.x
       cases b with
       | false =>
        simp only [↓imp_ft,↓imp_ff,↓reduceIte,Nat.reduceEqDiff,go_sem]
        obtain ⟨hz',fz',hz1,hz2,hz3⟩ := hnet'.z
        refine inv_chkG (i + 1,sn',hz') ⟨hil,hat.no hu hjn (by omega) hpost (fun v hv h => ?_),hz2⟩ (by simp only; omega) (chkG_set (c1 := .mp .i64 hz' fz') (Nat.le_refl _) hsz hz1 (fun y hy => by rw [hkeep rfl y hy,bget_bset,if_neg hy]) ⟨rfl,fun k => ⟨rfl,fun hk0 => hz3 k hk0⟩⟩ ⟨?_,⟨rfl,hasB_bset hsx⟩,.inl ⟨rfl,hasB_bset hsu2⟩,rfl,trivial⟩)
        ·obtain ⟨i',h1,h2⟩ := h
         by_cases e : i' = i
         ·subst e; right; rw [← h2,hj,hk]
         ·exact .inl ⟨i',by simp only at h1; omega,h2⟩
        ·show Val.int .i64 _ = _
         rw [wrS (by have := ln_le hA hu hm; omega)]
       | true =>
        obtain ⟨ce',he',hce'⟩ := hnet'.e
        have hmk := hA.ev k hkm
        have d1' := (hce' k hkm).2
        have d2' := (hce' (mate k) hmk).2
        obtain ⟨⟨p1,p2,p3⟩,p4⟩ := hpost.tt rfl
        have b1 := p1 u hu j hjn
        have b2 := p1 j hjn u hu
        have b3 := p2 u hu j hjn
        have b4 := hr u hu j hjn
        have l1 : r' u j = lf' k := by rw [← hfrk,hj]; exact hres'.on k hkm
        have l2 : r' j u = lf' (mate k) := by rw [← hres'.on (mate k) hmk,mate_mate,hfrk,hj]
        have w1 : IntKind.i64.wrap (lf' k - 1) = lf' k - 1 := wr64 (by omega) (by omega)
        have w2 : IntKind.i64.wrap (lf' (mate k) + 1) = lf' (mate k) + 1 := wr64 (by omega) (by omega)
        have wx := bits_xor1 (hkj k hkm)
        have fmk : ((mate k : Int) < (m : Int)) = True := eq_true (by omega)
        have fne : (mate k = k) = False := eq_false (mate_ne k)
        simp only [hx',he',fk,fmk,d1',d2',w1,w2,wx,fne,hXE,bget_bset,↓imp_tt,↓imp_tf,↓reduceIte,reduceCtorEq,Nat.reduceEqDiff,Nat.reduceAdd,Nat.reduceLeDiff,Nat.reduceLT,go_sem]
        refine ⟨by omega,by omega,by omega,by omega,?_⟩
        have hgg : ∀ y,bget (bset (bset bx' (.n E) (.row 150 2 m fun i' j' => if i' = k ∧ 1 ≤ j' ∧ j' < 2 then vget (.cons (.int .i64 (lf' k - 1)) .nil) (j' - 1) else ce' i' j')) (.n E) (.row 150 2 m fun i' j' => if i' = mate k ∧ 1 ≤ j' ∧ j' < 2 then vget (.cons (.int .i64 (lf' (mate k) + 1)) .nil) (j' - 1) else if i' = k ∧ 1 ≤ j' ∧ j' < 2 then vget (.cons (.int .i64 (lf' k - 1)) .nil) (j' - 1) else ce' i' j')) y = if y = .n E then some (.row 150 2 m fun i' j' => if i' = mate k ∧ 1 ≤ j' ∧ j' < 2 then vget (.cons (.int .i64 (lf' (mate k) + 1)) .nil) (j' - 1) else if i' = k ∧ 1 ≤ j' ∧ j' < 2 then vget (.cons (.int .i64 (lf' k - 1)) .nil) (j' - 1) else ce' i' j') else bget bx' y := fun y => by
         rw [bget_bset]; split
         ·rfl
         ·rename_i e; rw [bget_bset,if_neg e]
        have hup := Res.upd hA hres' hkm
        rw [hfrk,← hj] at hup
        obtain ⟨fm',hmm',hfm'⟩ := hnet'.mm
        obtain ⟨hz',fz',hz1,hz2,hz3⟩ := hnet'.z
        refine hK true (updR r' u j) _ sn' _ _ (by omega) (hat.yes hu hjn hsu hsj (by omega) hpost) hup ⟨?_,⟨_,by rw [hgg,if_pos rfl],fun x hx => ⟨?_,?_⟩⟩,⟨fm',by rw [hgg,if_neg (by simp [hME]),hmm'],hfm'⟩,fun a ha => ?_,⟨hz',fz',by rw [hgg,if_neg (by simp [hZE]),hz1],hz2,hz3⟩,noIt_bset (show noIt1 (.n Z) (.row _ _ _ _) from trivial) (noIt_bset (show noIt1 (.n Z) (.row _ _ _ _) from trivial) hnet'.ni)⟩ (fun y hy hye => ?_) fun h => (by cases h)
        ·rw [hgg,if_neg (by simp [hXE]),hx']
        ·rw [if_neg (by omega),if_neg (by omega)]; exact (hce' x hx).1
        ·by_cases e1 : x = mate k
         ·subst e1; simp [vget]
         ·by_cases e2 : x = k
          ·subst e2; simp [vget,e1]
          ·rw [if_neg fun e => e1 e.1,if_neg fun e => e2 e.1,if_neg e1,if_neg e2]; exact (hce' x hx).2
        ·obtain ⟨ca,q1,q2⟩ := hnet'.f a ha
         exact ⟨ca,by rw [hgg,if_neg (by simp),q1],q2⟩
        ·rw [hgg,if_neg hye,hold y hy hye,bget_bset,if_neg hy,hg,if_neg hy]
     ·have e0 : (0 < lf k) = False := eq_false h0
      simp only [fi,hg,hx,he,hcu,hXZ,hEZ,ci,ce1,fk,e0,bget_bset,↓imp_tt,↓imp_tf,↓imp_ft,↓imp_ff,↓reduceIte,reduceCtorEq,Nat.reduceEqDiff,Nat.reduceAdd,Nat.reduceSub,Nat.reduceLeDiff,go_sem]
      exact ⟨by omega,by omega,hback _ rfl rfl rfl rfl (.inl (by omega))⟩
    ·have fi : ((i : Int) < (ln u : Int)) = False := eq_false (by omega)
     simp only [fi,↓imp_ft,↓imp_ff,↓reduceIte,reduceCtorEq,Nat.reduceEqDiff,go_sem]
     refine hK false r lf s _ _ (by omega) (hat.fail fun v hv h0 => ?_) hres ⟨by rw [bget_bset,if_neg (by simp [hXZ]),hsx],⟨ce,by rw [bget_bset,if_neg (by simp [hEZ]),hg,if_neg (by simp [hEZ]),he],hce⟩,⟨fm,by rw [bget_bset,if_neg (by simp [hMZ]),hg,if_neg (by simp [hMZ]),hmm],hfm⟩,fun a ha => ?_,⟨h,fun _ => .bool true,by rw [bget_bset,if_pos rfl],hh,fun _ _ => rfl⟩,noIt_bset (show noIt1 (.n Z) (.mp .i64 _ _) from trivial) hsni⟩ (fun y hy _ => by rw [bget_bset,if_neg hy,hg,if_neg hy]) fun _ y hy => by rw [bget_bset,if_neg hy,hg,if_neg hy]
     ·apply Classical.byContradiction
      intro hno
      have := hres.off u hu v hv fun k hkm hk => hno (by
       obtain ⟨i',h1,h2⟩ := hA.cov k hkm
       rw [hk.1] at h1 h2
       exact ⟨i',by omega,by rw [h2]; exact hk.2⟩)
      omega
     ·obtain ⟨ca,q1,q2⟩ := hnet.f a ha
      exact ⟨ca,by rw [bget_bset,if_neg (by simp),hg,if_neg (by simp),q1],q2⟩
end Go.Proofs.Ytlapepdhkomijaa
namespace Go.Proofs.Ytlapepdhkomijaa
structure KSt where
 m : Nat
 tw : Nat → Nat
 lf : Nat → Int
 ln : Int → Nat
 ix : Int → Nat → Nat
def linkT (T : KSt) (u v : Nat) (c : Int) : KSt := ⟨T.m + 2,fun k => if k = T.m then v else if k = T.m + 1 then u else T.tw k,fun k => if k = T.m then c else if k = T.m + 1 then 0 else T.lf k,fun z => if z = (v : Int) then T.ln z + 1 else if z = (u : Int) then T.ln z + 1 else T.ln z,fun z i => if z = (v : Int) then (if i < T.ln z then T.ix z i else T.m + 1) else if z = (u : Int) then (if i < T.ln z then T.ix z i else T.m) else T.ix z i⟩
def pdec (S H : Nat) (u : Nat) : Nd := if u = 0 then .src else if u = 1 then .snk else if u < 2 + S then .sp (u - 2) else if u < 2 + S + 2 * H then (if (u - (2 + S)) % 2 = 0 then .hi ((u - (2 + S)) / 2) else .ho ((u - (2 + S)) / 2)) else .lt (u - (2 + S + 2 * H))
def penc (S H : Nat) : Nd → Nat
 | .src => 0
 | .snk => 1
 | .sp i => 2 + i
 | .hi h => 2 + S + 2 * h
 | .ho h => 2 + S + 2 * h + 1
 | .lt j => 2 + S + 2 * H + j
section
variable {S H u : Nat}
theorem pdec_sp {i : Nat} (e : u = 2 + i) (h : i < S) : pdec S H u = .sp i := by
 subst e; unfold pdec
 rw [if_neg (by omega),if_neg (by omega),if_pos (by omega),Nat.add_sub_cancel_left]
theorem pdec_hi {i : Nat} (e : u = 2 + S + 2 * i) (h : i < H) : pdec S H u = .hi i := by
 subst e; unfold pdec
 rw [if_neg (by omega),if_neg (by omega),if_neg (by omega),if_pos (by omega),if_pos (by omega)]; congr 1; omega
theorem pdec_ho {i : Nat} (e : u = 2 + S + 2 * i + 1) (h : i < H) : pdec S H u = .ho i := by
 subst e; unfold pdec
 rw [if_neg (by omega),if_neg (by omega),if_neg (by omega),if_pos (by omega),if_neg (by omega)]; congr 1; omega
theorem pdec_lt {i : Nat} (e : u = 2 + S + 2 * H + i) : pdec S H u = .lt i := by
 subst e; unfold pdec
 rw [if_neg (by omega),if_neg (by omega),if_neg (by omega),if_neg (by omega),Nat.add_sub_cancel_left]
end
theorem pcod (N : Nt) : Cod N (pdec N.S N.H) (penc N.S N.H) where
 de u hu := by
  have hn : u < 2 + N.S + 2 * N.H + N.L := hu
  by_cases a0 : u = 0
  ·subst a0; rfl
  by_cases a1 : u = 1
  ·subst a1; rfl
  by_cases a2 : u < 2 + N.S
  ·rw [pdec_sp (i := u - 2) (by omega) (by omega)]; simp only [penc]; omega
  by_cases a4 : u < 2 + N.S + 2 * N.H
  ·by_cases a5 : (u - (2 + N.S)) % 2 = 0
   ·rw [pdec_hi (i := (u - (2 + N.S)) / 2) (by omega) (by omega)]; simp only [penc]; omega
   ·rw [pdec_ho (i := (u - (2 + N.S)) / 2) (by omega) (by omega)]; simp only [penc]; omega
  ·rw [pdec_lt (i := u - (2 + N.S + 2 * N.H)) (by omega)]; simp only [penc]; omega
 ed x hx := by
  cases x with
  | src => exact ⟨by simp only [penc,Nt.n]; omega,rfl⟩
  | snk => exact ⟨by simp only [penc,Nt.n]; omega,rfl⟩
  | sp i =>
   have h1 : i < N.S := hx
   exact ⟨by simp only [penc,Nt.n]; omega,pdec_sp rfl h1⟩
  | hi h =>
   have h1 : h < N.H := hx
   exact ⟨by simp only [penc,Nt.n]; omega,pdec_hi rfl h1⟩
  | ho h =>
   have h1 : h < N.H := hx
   exact ⟨by simp only [penc,Nt.n]; omega,pdec_ho rfl h1⟩
  | lt j =>
   have h1 : j < N.L := hx
   exact ⟨by simp only [penc,Nt.n]; omega,pdec_lt rfl⟩
 e0 := rfl
 e1 := rfl
structure Knt (N : Nt) (dec : Nat → Nd) (P : Nd → Nd → Bool) (T : KSt) : Prop where
 ev : T.m % 2 = 0
 on : ∀ k,k < T.m → k % 2 = 0 → P (dec (T.tw (k + 1))) (dec (T.tw k)) = true ∧ T.lf k = N.cap (dec (T.tw (k + 1))) (dec (T.tw k)) ∧ T.lf (k + 1) = 0
 tn : ∀ k,k < T.m → T.tw k < N.n
 cov : ∀ x y,P x y = true → ∃ k,k < T.m ∧ k % 2 = 0 ∧ dec (T.tw (k + 1)) = x ∧ dec (T.tw k) = y
 uq : ∀ k k',k < T.m → k' < T.m → k % 2 = 0 → k' % 2 = 0 → T.tw k = T.tw k' → T.tw (k + 1) = T.tw (k' + 1) → k = k'
 asy : ∀ x y,P x y = true → P y x = false
 ls : ∀ u : Nat,u < N.n → ∀ i,i < T.ln u → T.ix u i < T.m ∧ T.tw (mate (T.ix u i)) = u
 lc : ∀ k,k < T.m → ∃ i,i < T.ln (T.tw (mate k)) ∧ T.ix (T.tw (mate k)) i = k
 le : ∀ z,T.ln z ≤ T.m
theorem mate_lt {k m : Nat} (hm : m % 2 = 0) (h : k < m) : mate k < m := by unfold mate; split <;> omega
theorem Knt.start (N : Nt) (dec : Nat → Nd) {P : Nd → Nd → Bool} (hP : ∀ x y,P x y = false) : Knt N dec P ⟨0,fun _ => 0,fun _ => 0,fun _ => 0,fun _ _ => 0⟩ :=
 ⟨rfl,fun k h => absurd h (Nat.not_lt_zero _),fun k h => absurd h (Nat.not_lt_zero _),fun x y h => (by rw [hP] at h; cases h),fun k _ h => absurd h (Nat.not_lt_zero _),fun x y h => (by rw [hP] at h; cases h),fun _ _ _ h => absurd h (Nat.not_lt_zero _),fun k h => absurd h (Nat.not_lt_zero _),fun _ => Nat.le_refl _⟩
theorem Knt.same {N : Nt} {dec : Nat → Nd} {P P' : Nd → Nd → Bool} {T : KSt} (h : Knt N dec P T) (hP : ∀ x y,P' x y = P x y) : Knt N dec P' T := by
 have : P' = P := funext fun x => funext fun y => hP x y
 rw [this]; exact h
theorem Knt.link {N : Nt} {dec : Nat → Nd} {enc : Nd → Nat} (hC : Cod N dec enc) {P P' : Nd → Nd → Bool} {T : KSt} (h : Knt N dec P T) {x y : Nd} {c : Int} (hx : N.ok x) (hy : N.ok y) (hxy : x ≠ y) (h1 : P x y = false) (h2 : P y x = false) (hc : c = N.cap x y)
  (hP : ∀ p q,P' p q = if p = x ∧ q = y then true else P p q) : Knt N dec P' (linkT T (enc x) (enc y) c) := by
 have hu := hC.ed x hx
 have hv := hC.ed y hy
 obtain ⟨u,eu⟩ : ∃ u,u = enc x := ⟨_,rfl⟩
 obtain ⟨v,ev⟩ : ∃ v,v = enc y := ⟨_,rfl⟩
 rw [← eu] at hu
 rw [← ev] at hv
 rw [← eu,← ev]
 have huv : u ≠ v := fun e => hxy (by rw [← hu.2,← hv.2,e])
 have tw0 : (linkT T u v c).tw T.m = v := by simp [linkT]
 have tw1 : (linkT T u v c).tw (T.m + 1) = u := by simp [linkT]
 have twl : ∀ k,k < T.m → (linkT T u v c).tw k = T.tw k := fun k hk => by simp only [linkT]; rw [if_neg (by omega),if_neg (by omega)]
 have lfl : ∀ k,k < T.m → (linkT T u v c).lf k = T.lf k := fun k hk => by simp only [linkT]; rw [if_neg (by omega),if_neg (by omega)]
 have hev := h.ev
 have m0 : mate T.m = T.m + 1 := by unfold mate; rw [if_pos hev]
 have m1 : mate (T.m + 1) = T.m := by unfold mate; rw [if_neg (by omega)]; omega
 have hm2 : (linkT T u v c).m = T.m + 2 := rfl
 have hmono : ∀ p q,P p q = true → P' p q = true := fun p q e => by rw [hP]; split <;> simp [e]
 have hgt : ∀ k,k < T.m + 2 → k % 2 = 0 → k < T.m ∨ k = T.m := fun k hk e => by omega
 have hnew : ∀ k,k < T.m → k % 2 = 0 → ¬ (dec (T.tw (k + 1)) = x ∧ dec (T.tw k) = y) := fun k hk e hh => by
  have := (h.on k hk e).1; rw [hh.1,hh.2,h1] at this; cases this
 refine ⟨by rw [hm2]; omega,fun k hk e => ?_,fun k hk => ?_,fun p q hpq => ?_,fun k k' hk hk' e e' q1 q2 => ?_,fun p q hpq => ?_,fun z hz i hi => ?_,fun k hk => ?_,fun z => ?_⟩
 ·rw [hm2] at hk
  rcases hgt k hk e with hk | rfl
  ·obtain ⟨a1,a2,a3⟩ := h.on k hk e
   rw [twl k hk,twl (k + 1) (by omega),lfl k hk,lfl (k + 1) (by omega)]
   exact ⟨hmono _ _ a1,a2,a3⟩
  ·rw [tw0,tw1,hu.2,hv.2]
   refine ⟨by rw [hP,if_pos ⟨rfl,rfl⟩],?_,?_⟩
   ·simp only [linkT,if_true]; exact hc
   ·simp [linkT]
 ·rw [hm2] at hk
  by_cases a : k < T.m
  ·rw [twl k a]; exact h.tn k a
  ·by_cases b : k = T.m
   ·subst b; rw [tw0]; exact hv.1
   ·obtain rfl : k = T.m + 1 := by omega
    rw [tw1]; exact hu.1
 ·rw [hP] at hpq
  by_cases a : p = x ∧ q = y
  ·exact ⟨T.m,by rw [hm2]; omega,hev,by rw [tw1,hu.2,a.1],by rw [tw0,hv.2,a.2]⟩
  ·rw [if_neg a] at hpq
   obtain ⟨k,b1,b2,b3,b4⟩ := h.cov p q hpq
   exact ⟨k,by rw [hm2]; omega,b2,by rw [twl _ (by omega)]; exact b3,by rw [twl _ b1]; exact b4⟩
 ·rw [hm2] at hk hk'
  rcases hgt k hk e with hk | rfl <;> rcases hgt k' hk' e' with hk' | rfl
  ·rw [twl k hk,twl k' hk'] at q1
   rw [twl (k + 1) (by omega),twl (k' + 1) (by omega)] at q2
   exact h.uq k k' hk hk' e e' q1 q2
  ·rw [twl k hk,tw0] at q1
   rw [twl (k + 1) (by omega),tw1] at q2
   exact absurd ⟨by rw [q2,hu.2],by rw [q1,hv.2]⟩ (hnew k hk e)
  ·rw [twl k' hk',tw0] at q1
   rw [twl (k' + 1) (by omega),tw1] at q2
   exact absurd ⟨by rw [← q2,hu.2],by rw [← q1,hv.2]⟩ (hnew k' hk' e')
  ·rfl
 ·rw [hP] at hpq ⊢
  by_cases a : p = x ∧ q = y
  ·obtain ⟨rfl,rfl⟩ := a
   rw [if_neg (fun e => hxy e.2)]; exact h2
  ·rw [if_neg a] at hpq
   have := h.asy p q hpq
   rw [if_neg]
   ·exact this
   ·rintro ⟨rfl,rfl⟩; rw [h2] at hpq; cases hpq
 ·simp only [linkT] at hi ⊢
  have mm : ∀ k,k < T.m → mate k < T.m := fun k hk => mate_lt hev hk
  have old : ∀ i,i < T.ln (z : Int) → T.ix z i < T.m + 2 ∧ (linkT T u v c).tw (mate (T.ix z i)) = z := fun i hi => by
   obtain ⟨b1,b2⟩ := h.ls z hz i hi
   exact ⟨by omega,by rw [twl _ (mm _ b1)]; exact b2⟩
  by_cases a : (z : Int) = (v : Int)
  ·simp only [if_pos a] at hi ⊢
   by_cases b : i < T.ln (z : Int)
   ·simp only [if_pos b]; exact old i b
   ·simp only [if_neg b]
    refine ⟨by omega,?_⟩
    show (linkT T u v c).tw (mate (T.m + 1)) = z
    rw [m1,tw0]; omega
  ·simp only [if_neg a] at hi ⊢
   by_cases a2 : (z : Int) = (u : Int)
   ·simp only [if_pos a2] at hi ⊢
    by_cases b : i < T.ln (z : Int)
    ·simp only [if_pos b]; exact old i b
    ·simp only [if_neg b]
     refine ⟨by omega,?_⟩
     show (linkT T u v c).tw (mate T.m) = z
     rw [m0,tw1]; omega
   ·simp only [if_neg a2] at hi ⊢
    exact old i hi
 ·rw [hm2] at hk
  by_cases a : k < T.m
  ·obtain ⟨i,b1,b2⟩ := h.lc k a
   rw [twl _ (mate_lt hev a)]
   refine ⟨i,?_,?_⟩
   ·simp only [linkT]; split <;> (try split) <;> omega
   ·simp only [linkT]; rw [if_pos b1,b2]; split <;> (try split) <;> rfl
  ·by_cases b : k = T.m
   ·subst b
    rw [m0,tw1]
    refine ⟨T.ln (u : Int),?_,?_⟩
    ·simp only [linkT]; rw [if_neg (by omega)]; simp
    ·simp only [linkT]; rw [if_neg (by omega)]; simp
   ·obtain rfl : k = T.m + 1 := by omega
    rw [m1,tw0]
    refine ⟨T.ln (v : Int),?_,?_⟩
    ·simp [linkT]
    ·simp [linkT]
 ·have := h.le z
  simp only [linkT]; split <;> (try split) <;> omega
def edgG (A : Nat → Bool) (B : Nat → Nat → Bool) (C : Nat → Bool) (D : Nat → Nat → Bool) (E : Nat → Bool) : Nd → Nd → Bool
 | .src,.sp i => A i
 | .sp i,.hi h => B i h
 | .hi h,.ho h' => decide (h = h') && C h
 | .ho h,.lt j => D h j
 | .lt j,.snk => E j
 | _,_ => false
theorem Knt.adj {N : Nt} {dec : Nat → Nd} {enc : Nd → Nat} {P : Nd → Nd → Bool} {T : KSt} (hC : Cod N dec enc) (h : Knt N dec P T) (hm : T.m < 2000) : Adj N.n T.m T.tw (fun u => T.ln (u : Int)) (fun u => T.ix (u : Int)) where
 ev k hk := mate_lt h.ev hk
 tn := h.tn
 lt u hu i hi := (h.ls u hu i hi).1
 fr u hu i hi := (h.ls u hu i hi).2
 cov := h.lc
 le u hu := by have := h.le (u : Int); omega
 uq k k' hk hk' e1 e2 := by
  have ev := h.ev
  unfold mate at e2
  by_cases a : k % 2 = 0 <;> by_cases b : k' % 2 = 0
  ·rw [if_pos a,if_pos b] at e2; exact h.uq k k' hk hk' a b e1 e2
  ·rw [if_pos a,if_neg b] at e2
   exfalso
   have q1 := (h.on k hk a).1
   have q2 := (h.on (k' - 1) (by omega) (by omega)).1
   rw [show k' - 1 + 1 = k' by omega,← e1,← e2] at q2
   have := h.asy _ _ q1
   rw [this] at q2; cases q2
  ·rw [if_neg a,if_pos b] at e2
   exfalso
   have q1 := (h.on k' hk' b).1
   have q2 := (h.on (k - 1) (by omega) (by omega)).1
   rw [show k - 1 + 1 = k by omega,e1,e2] at q2
   have := h.asy _ _ q1
   rw [this] at q2; cases q2
  ·rw [if_neg a,if_neg b] at e2
   have := h.uq (k - 1) (k' - 1) (by omega) (by omega) (by omega) (by omega) e2 (by rw [show k - 1 + 1 = k by omega,show k' - 1 + 1 = k' by omega]; exact e1)
   omega
theorem Knt.res {N : Nt} {dec : Nat → Nd} {enc : Nd → Nat} {P : Nd → Nd → Bool} {T : KSt} (hC : Cod N dec enc) (h : Knt N dec P T) (hP : ∀ x y,P x y = false → N.cap x y = 0) : Res N.n T.m T.tw T.lf (fun u v => N.cap (dec u) (dec v)) where
 on k hk := by
  have ev := h.ev
  unfold mate
  by_cases a : k % 2 = 0
  ·rw [if_pos a]; exact (h.on k hk a).2.1.symm
  ·rw [if_neg a]
   have q := h.on (k - 1) (by omega) (by omega)
   rw [show k - 1 + 1 = k by omega] at q
   rw [q.2.2]
   exact hP _ _ (h.asy _ _ q.1)
 off u hu v hv hno := hP _ _ (by
  cases hp : P (dec u) (dec v) with
  | false => rfl
  | true =>
   obtain ⟨k,k1,k2,k3,k4⟩ := h.cov _ _ hp
   exfalso
   refine hno k k1 ⟨?_,?_⟩
   ·unfold mate; rw [if_pos k2,← hC.de _ (h.tn (k + 1) (by have := h.ev; omega)),k3,hC.de u hu]
   ·rw [← hC.de _ (h.tn k k1),k4,hC.de v hv])
end Go.Proofs.Ytlapepdhkomijaa
