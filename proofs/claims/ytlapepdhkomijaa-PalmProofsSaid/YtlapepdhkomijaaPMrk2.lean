/- Marks: the rounds end in what one more could reach. No condition but bounds. -/
import Derived.Test.YtlapepdhkomijaaPMrk
import Derived.Test.YtlapepdhkomijaaPEdg2
import Derived.Test.YtlapepdhkomijaaPMsR
set_option linter.unusedSimpArgs false
set_option linter.unusedVariables false
namespace Go.Proofs.Ytlapepdhkomijaa
open Go Go.RowKit
section
variable {w : Wk} {g : Pla} {dec : Nat → Nd} {enc : Nd → Nat}
theorem ntW_ok (hb : WkB w) : (∀ h,(ntW w).fr h = true → (ntW w).gf h = true) ∧ ∀ j,0 ≤ (ntW w).un j := ⟨fun _ _ => rfl,ntF_un fun j hj => (hb.u j hj).1⟩
theorem clo_fwd (hC : Cod (ntW w) dec enc) {s : Nat → Bool} (hc : Clo (ntW w).n s (resG (ntW w) dec g)) {x y : Nd} (hx : (ntW w).ok x) (hy : (ntW w).ok y) (hs : s (enc x) = true) (h1 : (ntW w).cap x y = 1) (h2 : ∀ i,i < w.spathes.1 → wayI g i x y = false) : s (enc y) = true := by
 refine hc _ (hC.ed x hx).1 hs _ (hC.ed y hy).1 ?_
 rw [res_at hC hx hy,h1,used_none (S := (ntW w).S) h2]
 have := used_nn g (ntW w).S y x
 omega
theorem clo_bwd (hb : WkB w) (hp : IsPlan (ntW w) g) (hC : Cod (ntW w) dec enc) {s : Nat → Bool} (hc : Clo (ntW w).n s (resG (ntW w) dec g)) {x y : Nd} (hx : (ntW w).ok x) (hy : (ntW w).ok y) (hs : s (enc x) = true) {i : Nat} (hi : i < w.spathes.1) (h2 : wayI g i y x = true) : s (enc y) = true := by
 refine hc _ (hC.ed x hx).1 hs _ (hC.ed y hy).1 ?_
 rw [res_at hC hx hy]
 have h3 := used_cap (ntW_ok hb).1 (ntW_ok hb).2 hp x y
 have h4 := used_pos (S := (ntW w).S) hi h2
 omega
theorem rul_of (hb : WkB w) (hp : IsPlan (ntW w) g) (hC : Cod (ntW w) dec enc) {s : Nat → Bool} (h0 : s 0 = true) (hc : Clo (ntW w).n s (resG (ntW w) dec g)) : Rul w g fun x => s (enc x) where
 r0 i hi hg := by
  refine clo_fwd hC hc (x := .src) (y := .sp i) trivial hi (by rw [hC.e0]; exact h0) (if_pos ⟨Nat.zero_le _,hi⟩) fun k _ => ?_
  by_cases e : i = k
  ·subst e; simp [wayI,hg]
  ·simp [wayI,e]
 r1 i h hi hh hs ht hn := by
  refine clo_fwd hC hc (x := .sp i) (y := .hi h) hi hh hs (if_pos ⟨Nat.zero_le _,hi,hh,ht⟩) fun k _ => ?_
  cases e : wayI g k (.sp i) (.hi h) with
  | false => rfl
  | true =>
   simp only [wayI,Bool.and_eq_true,beq_iff_eq] at e
   obtain ⟨rfl,e⟩ := e
   obtain ⟨j,hj⟩ := way_at e
   exact absurd hj (hn j)
 r2 i h j hi hh hs hg := clo_bwd hb hp hC hc (x := .hi h) (y := .sp i) hh hi hs hi (by simp [wayI,hg,hrIs])
 r3 h hh hs hn := by
  refine clo_fwd hC hc (x := .hi h) (y := .ho h) hh hh hs (if_pos (by exact ⟨by first | rfl | trivial,hh,rfl⟩)) fun k _ => ?_
  cases e : wayI g k (.hi h) (.ho h) with
  | false => rfl
  | true =>
   simp only [wayI,Bool.and_eq_true] at e
   obtain ⟨j,hj⟩ := way_at e.2
   exact absurd hj (hn k j)
 r4 i h j hi hh hj hs hg := clo_bwd hb hp hC hc (x := .lt j) (y := .ho h) hj hh hs hi (by simp [wayI,hg,hrIs,lotIs])
 r5 i h j hi hh hs hg := clo_bwd hb hp hC hc (x := .ho h) (y := .hi h) hh hh hs hi (by simp [wayI,hg,hrIs])
 r6 h j hh hj hs hgd hn := by
  refine clo_fwd hC hc (x := .ho h) (y := .lt j) hh hj hs (if_pos ⟨hh,hj,hgd,rfl⟩) fun k _ => ?_
  cases e : wayI g k (.ho h) (.lt j) with
  | false => rfl
  | true =>
   simp only [wayI,Bool.and_eq_true] at e
   obtain ⟨j',hj'⟩ := way_at e.1
   obtain ⟨h2,hj2⟩ := lot_at e.2
   rw [hj'] at hj2
   obtain rfl : j' = j := by injection hj2 with q; injection q with _ q
   exact absurd hj' (hn k)
def nodeM (M : MS) : Nd → Bool
 | .src => true
 | .snk => false
 | .sp i => M.mk i
 | .hi h => M.ask h
 | .ho h => M.opn h
 | .lt j => M.lo j
theorem res_pos (N : Nt) {x y : Nd} (h : 0 < N.cap x y - usedF g N.S x y + usedF g N.S y x) : (0 < N.cap x y ∧ usedF g N.S x y < N.cap x y) ∨ ∃ i,i < N.S ∧ wayI g i y x = true := by
 by_cases hx : ∃ i,i < N.S ∧ wayI g i y x = true
 ·exact .inr hx
 ·left
  rw [used_none (x := y) (y := x) fun i hi => by cases e : wayI g i y x with | true => exact absurd ⟨i,hi,e⟩ hx | false => rfl] at h
  have := used_nn g N.S x y
  exact ⟨by omega,by omega⟩
theorem used_lt1 {S : Nat} {x y : Nd} (h : usedF g S x y < 1) {i : Nat} (hi : i < S) : wayI g i x y = false := by
 cases e : wayI g i x y with
 | false => rfl
 | true => have := used_pos hi e; omega
theorem clo_marks (hp : IsPlan (ntW w) g) (hok : ∀ u,u < (ntW w).n → (ntW w).ok (dec u)) {sp lt : Nat → Int} (hS : SpLt w g sp lt) {M : MS} (hM : ∀ h,h < w.hours.1 → hrD w sp lt h M = M) (h0 : ∀ i,i < w.spathes.1 → g i = none → M.mk i = true) (hf : ∀ j,j < w.lots.1 → M.lo j = true → (ntW w).un j ≤ usedF g (ntW w).S (.lt j) .snk) : Clo (ntW w).n (fun u => nodeM M (dec u)) (resG (ntW w) dec g) := by
 have hmk : ∀ h,h < w.hours.1 → ∀ i,(hrD w sp lt h M).mk i = M.mk i := fun h hh i => by rw [hM h hh]
 have hak : ∀ h,h < w.hours.1 → (hrD w sp lt h M).ask h = M.ask h := fun h hh => by rw [hM h hh]
 have hop : ∀ h,h < w.hours.1 → opn1 w sp lt h M = M.opn h := fun h hh => by
  have : (hrD w sp lt h M).opn h = M.opn h := by rw [hM h hh]
  simpa [hrD] using this
 have hlo : ∀ h,h < w.hours.1 → ∀ j,(hrD w sp lt h M).lo j = M.lo j := fun h hh j => by rw [hM h hh]
 have ha1 : ∀ h,h < w.hours.1 → ask1 w h M = true → M.ask h = true := fun h hh e => by
  rw [← hak h hh]; simp [hrD,e]
 have hlo2 : ∀ h,h < w.hours.1 → M.ask h = true → ask1 w h M = true := fun h _ e => by unfold ask1; rw [e]; rfl
 intro u hu hs v hv hr
 have hu := hok u hu
 have hv := hok v hv
 unfold resG at hr
 simp only at hs ⊢
 generalize dec u = x at *
 generalize dec v = y at *
 rcases res_pos (ntW w) hr with ⟨c1,c2⟩ | ⟨i,hi,c⟩
 ·cases x <;> cases y <;> simp only [Nt.cap] at c1 <;> first | (exact absurd c1 (by decide)) | skip
  ·rename_i i
   have : usedF g (ntW w).S .src (.sp i) < 1 := by
    simp only [Nt.cap] at c2; split at c2 <;> omega
   refine h0 i hv ?_
   have := used_lt1 this (i := i) hv
   simp only [wayI,beq_self_eq_true,Bool.true_and] at this
   cases e : g i with
   | none => rfl
   | some p => rw [e] at this; cases this
  ·rename_i i h
   split at c1
   ·rename_i q
    refine ha1 h q.2.2.1 ?_
    unfold ask1
    rw [Bool.or_eq_true,anyN_true]
    refine .inr ⟨i,q.2.1,?_⟩
    have hs : M.mk i = true := hs
    rw [hs]; exact q.2.2.2
   ·omega
  ·rename_i h k
   split at c1
   ·rename_i q
    obtain ⟨rfl,q1,_⟩ := q
    have hc : usedF g (ntW w).S (.hi h) (.ho h) < 1 := by
     simp only [Nt.cap] at c2; split at c2 <;> omega
    have hs : M.ask h = true := hs
    show M.opn h = true
    rw [← hop h q1]
    unfold opn1
    rw [hlo2 h q1 hs]
    rcases hS.at' h q1 with ⟨e1,_⟩ | ⟨a,j,e1,e2,_⟩
    ·rw [e1]; simp
    ·have := used_lt1 hc (i := a) e2
     simp [wayI,e1,hrIs] at this
   ·omega
  ·rename_i h j
   split at c1
   ·rename_i q
    have hs : M.opn h = true := hs
    show M.lo j = true
    rw [← hlo h q.1 j]
    simp only [hrD]
    rw [hop h q.1,hs,decide_eq_true (show j < w.lots.1 from q.2.1),show goodF w h j = true from q.2.2.1]
    simp
   ·omega
  ·rename_i j
   have hj : j < w.lots.1 := hu
   have := hf j hj hs
   simp only [Nt.cap] at c2
   split at c2
   ·omega
   ·have := used_nn g (ntW w).S (.lt j) .snk; omega
 ·cases x <;> cases y <;> simp only [wayI] at c <;> first | (cases c; done) | skip
  ·cases hs
  ·rfl
  ·rename_i h k
   simp only [Bool.and_eq_true,beq_iff_eq] at c
   obtain ⟨rfl,c⟩ := c
   obtain ⟨j,hj⟩ := way_at c
   have hh : h < w.hours.1 := hu
   have hs : M.ask h = true := hs
   show M.mk k = true
   rw [← hmk h hh k]
   simp only [hrD]
   rcases hS.at' h hh with ⟨_,_,e3⟩ | ⟨a,j',e1,e2,e3,e4,e5⟩
   ·exact absurd hj (e3 k j)
   ·obtain rfl := hp.inj k a h j j' hj e1
    rw [if_pos ⟨hlo2 h hh hs,by omega,by omega⟩]
  ·rename_i h k
   simp only [Bool.and_eq_true,beq_iff_eq] at c
   obtain ⟨rfl,c⟩ := c
   obtain ⟨j,hj⟩ := way_at c
   have hh : h < w.hours.1 := hu
   have hs : M.opn h = true := hs
   show M.ask h = true
   rw [← hak h hh]
   simp only [hrD,if_true]
   rcases hS.at' h hh with ⟨_,_,e3⟩ | ⟨a,j',e1,e2,e3,e4,e5⟩
   ·exact absurd hj (e3 i j)
   ·rw [hop h hh,hs,e4,decide_eq_true (by omega : (0 : Int) ≤ (a : Int))]; simp
  ·rename_i j h
   simp only [Bool.and_eq_true] at c
   obtain ⟨j1,hj1⟩ := way_at c.1
   obtain ⟨h2,hj2⟩ := lot_at c.2
   have hh : h < w.hours.1 := hv
   have hs : M.lo j = true := hs
   show M.opn h = true
   rw [← hop h hh]
   unfold opn1
   rcases hS.at' h hh with ⟨_,_,e3⟩ | ⟨a,j',e1,e2,e3,e4,e5⟩
   ·exact absurd hj1 (e3 i j1)
   ·obtain rfl := hp.inj i a h j1 j' hj1 e1
    rw [hj1] at hj2 e1
    obtain rfl : j1 = j := by injection hj2 with q; injection q with _ q
    obtain rfl : j1 = j' := by injection e1 with q; injection q with _ q
    rw [e5,Int.toNat_natCast,hs,decide_eq_true (by omega : (0 : Int) ≤ (j1 : Int))]; simp
theorem marks_lcut (hb : WkB w) (hC : Cod (ntW w) dec enc) (hok : ∀ u,u < (ntW w).n → (ntW w).ok (dec u)) (hp : IsPlan (ntW w) g) (hsz : Pla.size g w.spathes.1 = maxP (ntW w)) {sp lt : Nat → Int} (hS : SpLt w g sp lt) {M0 : MS} (m1 : ∀ i,i < w.spathes.1 → (M0.mk i = true ↔ g i = none)) (m1' : ∀ i,M0.mk i = true → g i = none) (m2 : ∀ h,M0.ask h = false) (m3 : ∀ h,M0.opn h = false) (m4 : ∀ j,M0.lo j = false) {n : Nat} (hn : w.spathes.1 + 2 * w.hours.1 + w.lots.1 < n) {x : Nd} (hx : (ntW w).ok x) :
  LCut (ntW w) dec (enc x) ↔ nodeM (rdsD w sp lt M0 n) x = true := by
 obtain ⟨hgf,hun⟩ := ntW_ok hb
 have hF : FlowOk (ntW w) dec (resG (ntW w) dec g) (maxP (ntW w)) := by
  have := plan_flow hC hok hgf hun hp
  have e : Pla.size g (ntW w).S = maxP (ntW w) := hsz
  rw [e] at this; exact this
 have d0 : dec 0 = .src := by have := (hC.ed .src trivial).2; rw [hC.e0] at this; exact this
 have d1 : dec 1 = .snk := by have := (hC.ed .snk trivial).2; rw [hC.e1] at this; exact this
 have hsnd : ∀ s : Nat → Bool,s 0 = true → Clo (ntW w).n s (resG (ntW w) dec g) → SoundM w g (fun x => s (enc x)) (rdsD w sp lt M0 n) := fun s h0 hc => by
  have hR := rul_of hb hp hC h0 hc
  refine sound_rds hp hR hS ⟨fun i hi e => hR.r0 i hi ((m1 i hi).1 e),fun h _ e => ?_,fun h _ e => ?_,fun j _ e => ?_,fun i h j _ e eg => ?_,fun i h j _ e _ => ?_⟩ n
  ·rw [m2] at e; cases e
  ·rw [m3] at e; cases e
  ·rw [m4] at e; cases e
  ·rw [m1' i e] at eg; cases eg
  ·rw [m3] at e; cases e
 have hfix := rds_end (lt := lt) (fun h hh => hS.sp hh) M0 hn
 have hext := ext_rds (lt := lt) (fun h hh => hS.sp hh) M0 n
 obtain ⟨r,s,f1,f2,f3,f4⟩ := flow_ex hC hgf hun 0 _ _ hF (by omega)
 have f5 := f1.closed hF f2 f3 f4
 have hfull : ∀ j,j < w.lots.1 → (rdsD w sp lt M0 n).lo j = true → (ntW w).un j ≤ usedF g (ntW w).S (.lt j) .snk := fun j hj e => by
  have h1 := (hsnd s f2 f5).lo j hj e
  have hn1 : 1 < (ntW w).n := by simp only [Nt.n]; omega
  have h2 : ¬ 0 < resG (ntW w) dec g (enc (.lt j)) (enc .snk) := fun h => by
   have := f5 _ (hC.ed (.lt j) hj).1 h1 _ (hC.ed .snk trivial).1 h
   rw [hC.e1,f3] at this; cases this
  rw [res_at hC (x := .lt j) (y := .snk) hj trivial] at h2
  have h3 := used_nn g (ntW w).S .snk (.lt j)
  simp only [Nt.cap] at h2
  rw [if_pos (show j < (ntW w).L from hj)] at h2
  omega
 have hcl := clo_marks hp hok hS hfix (fun i hi e => (hext.mk i).1 ((m1 i hi).2 e)) hfull
 constructor
 ·intro hl
  have := hl _ _ hF (show nodeM _ (dec 0) = true by rw [d0]; rfl) (show nodeM _ (dec 1) = false by rw [d1]; rfl) hcl
  simp only [(hC.ed x hx).2] at this
  exact this
 ·intro hm r2 s2 g1 g2 g3 g4
  have hs := hsnd s2 g2 (g1.closed hF g2 g3 g4)
  cases x with
  | src => rw [hC.e0]; exact g2
  | snk => cases hm
  | sp i => exact hs.mk i hx hm
  | hi h => exact hs.ask h hx hm
  | ho h => exact hs.opn h hx hm
  | lt j => exact hs.lo j hx hm
end
def spK (pl : Nat → Du) : Nat → Nat → Int
 | 0 => fun _ => -1
 | k + 1 => fun h => if h = (pl k).hour.toNat then (pl k).spathe else spK pl k h
def ltK (pl : Nat → Du) : Nat → Nat → Int
 | 0 => fun _ => -1
 | k + 1 => fun h => if h = (pl k).hour.toNat then (pl k).lot else ltK pl k h
def mkK (pl : Nat → Du) : Nat → Nat → Bool
 | 0 => fun _ => true
 | k + 1 => fun i => if i = (pl k).spathe.toNat then false else mkK pl k i
theorem mkK_iff {pl : Nat → Du} {i : Nat} : ∀ {k : Nat},mkK pl k i = true ↔ plaK pl k i = none := by
 intro k; induction k with
 | zero => exact ⟨fun _ => rfl,fun _ => rfl⟩
 | succ k ih =>
  simp only [mkK,plaK,addP]
  by_cases e : i = (pl k).spathe.toNat
  ·rw [if_pos e,if_pos e]; exact ⟨fun h => (by cases h),fun h => (by cases h)⟩
  ·rw [if_neg e,if_neg e]; exact ih
theorem spK_at {pl : Nat → Du} {h : Nat} : ∀ k : Nat,(spK pl k h = -1 ∧ ltK pl k h = -1 ∧ ∀ x,x < k → (pl x).hour.toNat ≠ h) ∨ ∃ x,x < k ∧ (pl x).hour.toNat = h ∧ spK pl k h = (pl x).spathe ∧ ltK pl k h = (pl x).lot := by
 intro k; induction k with
 | zero => exact .inl ⟨rfl,rfl,fun x hx => absurd hx (Nat.not_lt_zero _)⟩
 | succ k ih =>
  simp only [spK,ltK]
  by_cases e : h = (pl k).hour.toNat
  ·rw [if_pos e,if_pos e]; exact .inr ⟨k,by omega,e.symm,rfl,rfl⟩
  ·rw [if_neg e,if_neg e]
   rcases ih with ⟨a,b,c⟩ | ⟨x,a,b,c,d⟩
   ·refine .inl ⟨a,b,fun x hx => ?_⟩
    by_cases ex : x = k
    ·subst ex; exact fun q => e q.symm
    ·exact c x (by omega)
   ·exact .inr ⟨x,by omega,b,c,d⟩
theorem plaK_some {pl : Nat → Du} {a h j : Nat} : ∀ {k : Nat},plaK pl k a = some (h,j) → ∃ x,x < k ∧ (pl x).spathe.toNat = a ∧ (pl x).hour.toNat = h ∧ (pl x).lot.toNat = j := by
 intro k; induction k with
 | zero => intro e; cases e
 | succ k ih =>
  intro e
  simp only [plaK,addP] at e
  split at e
  ·rename_i q
   injection e with e; injection e with e1 e2
   exact ⟨k,by omega,q.symm,e1,e2⟩
  ·obtain ⟨x,hx,r⟩ := ih e
   exact ⟨x,by omega,r⟩
theorem plaK_at {pl : Nat → Du} : ∀ {k : Nat},(∀ x y,x < y → y < k → (pl x).spathe.toNat ≠ (pl y).spathe.toNat) → ∀ x,x < k → plaK pl k (pl x).spathe.toNat = some ((pl x).hour.toNat,(pl x).lot.toNat) := by
 intro k; induction k with
 | zero => intro _ x hx; exact absurd hx (Nat.not_lt_zero _)
 | succ k ih =>
  intro h x hx
  simp only [plaK,addP]
  by_cases e : x = k
  ·subst e; rw [if_pos rfl]
  ·rw [if_neg (h x k (by omega) (by omega))]
   exact ih (fun x y hxy hy => h x y hxy (by omega)) x (by omega)
theorem splt_of {w : Wk} {s : PS} {i : Nat} (hg : GrOk w s i) : SpLt w (plaK s.pl s.cnt) (spK s.pl s.cnt) (ltK s.pl s.cnt) := by
 have hne : ∀ x y,x < y → y < s.cnt → (s.pl x).spathe.toNat ≠ (s.pl y).spathe.toNat := fun x y hxy hy => by
  have := hg.up x y hxy hy
  obtain ⟨a,b,c,e,_⟩ := hg.rg x (by omega)
  obtain ⟨a',b',c',e',_⟩ := hg.rg y hy
  rw [e,e'] at this ⊢
  simp only at this ⊢
  omega
 refine ⟨fun h hh => ?_⟩
 rcases spK_at (pl := s.pl) (h := h) s.cnt with ⟨a,b,c⟩ | ⟨x,a,b,c,d⟩
 ·refine .inl ⟨a,b,fun u v e => ?_⟩
  obtain ⟨x,hx,_,e2,_⟩ := plaK_some e
  exact c x hx e2
 ·right
  obtain ⟨u,v,z,e,e1,e2,e3,e4⟩ := hg.rg x a
  have hat := plaK_at hne x a
  rw [e] at hat b c d
  simp only [Int.toNat_natCast] at hat b
  subst b
  exact ⟨u,z,hat,e2,e4,c,d⟩
theorem pdec_ok (N : Nt) {u : Nat} (hu : u < N.n) : N.ok (pdec N.S N.H u) := by
 have hn : u < 2 + N.S + 2 * N.H + N.L := hu
 unfold pdec
 split
 ·trivial
 ·split
  ·trivial
  ·split
   ·show u - 2 < N.S; omega
   ·split
    ·split
     ·show (u - (2 + N.S)) / 2 < N.H; omega
     ·show (u - (2 + N.S)) / 2 < N.H; omega
    ·show u - (2 + N.S + 2 * N.H) < N.L; omega
noncomputable def lcB (w : Wk) (x : Nd) : Bool := decP (LCut (ntW w) (pdec w.spathes.1 w.hours.1) (penc w.spathes.1 w.hours.1 x))
def endM (w : Wk) (s : PS) (n : Nat) : MS := rdsD w (spK s.pl s.cnt) (ltK s.pl s.cnt) ⟨mkK s.pl s.cnt,fun _ => false,fun _ => false,fun _ => false⟩ n
theorem end_lc {w : Wk} (hb : WkB w) {n : Nat} (hn : w.spathes.1 + 2 * w.hours.1 + w.lots.1 < n) {x : Nd} (hx : (ntW w).ok x) : nodeM (endM w (stD w (fun _ => true) (fun j => (w.lots.2 j).units) w.spathes.1) n) x = lcB w x := by
 obtain ⟨hg,hc⟩ := gr_end hb
 have := marks_lcut hb (pcod (ntW w)) (fun u hu => pdec_ok (ntW w) hu) hg.pl (hg.sz.trans hc) (splt_of hg) (M0 := ⟨mkK (stD w (fun _ => true) (fun j => (w.lots.2 j).units) w.spathes.1).pl (stD w (fun _ => true) (fun j => (w.lots.2 j).units) w.spathes.1).cnt,fun _ => false,fun _ => false,fun _ => false⟩) (fun i _ => mkK_iff) (fun i => mkK_iff.1) (fun _ => rfl) (fun _ => rfl) (fun _ => rfl) hn hx
 rw [Bool.eq_iff_iff]
 exact this.symm.trans decP_true.symm
end Go.Proofs.Ytlapepdhkomijaa
namespace Go.Proofs.Ytlapepdhkomijaa
open Go Go.RowKit
variable {G : Nat → Option (Nat × (Nat → Val))}
def selV (p : Nat → Bool) (n : Nat) : Val := .view 1 (cntN p n) fun a _ => .int .i64 (selN p n a)
def cvE : Val := .view 1 0 fun _ _ => .int .i64 0
noncomputable def cvV (w : Wk) : Val := .agg (.cons (selV (fun i => !lcB w (.sp i)) w.spathes.1) (.cons (selV (fun h => lcB w (.hi h) && !lcB w (.ho h)) w.hours.1) (.cons (selV (fun j => lcB w (.lt j)) w.lots.1) .nil)))
noncomputable def sProof7 : Spec := spec2 (TSl RPm) TWk (fun _ _ => True) fun l w => if workE l w = 0 then .tup (.cons (cvV w) (.cons (.int .i64 0) .nil)) else .tup (.cons (.agg (.cons cvE (.cons cvE (.cons cvE .nil)))) (.cons (.int .i64 (workE l w)) .nil))
end Go.Proofs.Ytlapepdhkomijaa
