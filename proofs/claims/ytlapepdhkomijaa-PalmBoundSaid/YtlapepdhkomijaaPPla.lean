/- Palms, outright: plans as lists of dusts; the plan that is told is one, as great as any, and the first; no plan has more than what is covered. No condition but bounds. -/
import Derived.Test.YtlapepdhkomijaaPCut2
import Derived.Test.YtlapepdhkomijaaPEdg2
import Derived.Test.YtlapepdhkomijaaPPvP
import Derived.Test.YtlapepdhkomijaaPNet2
set_option linter.unusedSimpArgs false
set_option linter.unusedVariables false
namespace Go.Proofs.Ytlapepdhkomijaa
open Go Go.RowKit
abbrev Dus := Nat × (Nat → Du)
def lastD (l : Nat → Du) (k : Nat) : Int := if k = 0 then -1 else (l (k - 1)).spathe
def cntD (l : Nat → Du) : Nat → Int → Int
 | 0,_ => 0
 | k + 1,j => if j = (l k).lot then cntD l k j + 1 else cntD l k j
def usdD (l : Nat → Du) : Nat → Int → Bool
 | 0,_ => false
 | k + 1,h => if h = (l k).hour then true else usdD l k h
structure PlAt (w : Wk) (l : Nat → Du) (k : Nat) : Prop where
 s : lastD l k < (l k).spathe ∧ (l k).spathe < w.spathes.1
 h : 0 ≤ (l k).hour ∧ (l k).hour < w.hours.1
 j : 0 ≤ (l k).lot ∧ (l k).lot < w.lots.1
 fr : usdD l k (l k).hour = false
 t : takesF w (l k).spathe.toNat (l k).hour.toNat = true
 g : goodF w (l k).hour.toNat (l k).lot.toNat = true
 u : cntD l k (l k).lot + 1 ≤ (w.lots.2 (l k).lot.toNat).units
def PlL (w : Wk) (l : Dus) : Prop := ∀ k,k < l.1 → PlAt w l.2 k
noncomputable def planB (w : Wk) (l : Dus) : Bool := decP (PlL w l)
section
variable {w : Wk} {l m : Nat → Du} {n k : Nat}
theorem lastD_congr (h : ∀ a,a < k → l a = m a) : lastD l k = lastD m k := by
 unfold lastD; split
 ·rfl
 ·rw [h (k - 1) (by omega)]
theorem cntD_congr : ∀ {k : Nat},(∀ a,a < k → l a = m a) → ∀ j,cntD l k j = cntD m k j := by
 intro k; induction k with
 | zero => intro _ _; rfl
 | succ k ih => intro h j; simp only [cntD,h k (by omega),ih fun a ha => h a (by omega)]
theorem usdD_congr : ∀ {k : Nat},(∀ a,a < k → l a = m a) → ∀ j,usdD l k j = usdD m k j := by
 intro k; induction k with
 | zero => intro _ _; rfl
 | succ k ih => intro h j; simp only [usdD,h k (by omega),ih fun a ha => h a (by omega)]
theorem PlAt.congr (h : ∀ a,a ≤ k → l a = m a) (p : PlAt w l k) : PlAt w m k := by
 have e := h k (Nat.le_refl _)
 have h' : ∀ a,a < k → l a = m a := fun a ha => h a (by omega)
 obtain ⟨p1,p2,p3,p4,p5,p6,p7⟩ := p
 rw [lastD_congr h',e] at p1
 rw [e] at p2 p3 p5 p6
 rw [usdD_congr h',e] at p4
 rw [cntD_congr h',e] at p7
 exact ⟨p1,p2,p3,p4,p5,p6,p7⟩
theorem cntD_nn : ∀ (k : Nat) (j : Int),0 ≤ cntD l k j ∧ cntD l k j ≤ k := by
 intro k; induction k with
 | zero => intro j; exact ⟨Int.le_refl _,Int.le_refl _⟩
 | succ k ih => intro j; have := ih j; simp only [cntD]; split <;> omega
theorem cntD_le (hb : WkB w) : ∀ k,(∀ a,a < k → PlAt w l a) → ∀ j : Nat,j < w.lots.1 → cntD l k j ≤ (w.lots.2 j).units := by
 intro k; induction k with
 | zero => intro _ j hj; exact (hb.u j hj).1
 | succ k ih =>
  intro h j hj
  have h1 := ih (fun a ha => h a (by omega)) j hj
  have h2 := (h k (by omega)).u
  simp only [cntD]; split
  ·rename_i e
   rw [← e,Int.toNat_natCast] at h2; exact h2
  ·exact h1
theorem usdD_t : ∀ {k : Nat} {h : Int},usdD l k h = true ↔ ∃ a,a < k ∧ (l a).hour = h := by
 intro k; induction k with
 | zero => intro h; exact ⟨fun q => (by cases q),fun ⟨a,ha,_⟩ => absurd ha (Nat.not_lt_zero _)⟩
 | succ k ih =>
  intro h; simp only [usdD]; split
  ·rename_i e; exact ⟨fun _ => ⟨k,by omega,e.symm⟩,fun _ => rfl⟩
  ·rename_i e
   rw [ih]
   exact ⟨fun ⟨a,ha,q⟩ => ⟨a,by omega,q⟩,fun ⟨a,ha,q⟩ => ⟨a,by
    rcases Nat.lt_or_ge a k with h1 | h1
    ·exact h1
    ·obtain rfl : a = k := by omega
     exact absurd q.symm e,q⟩⟩
theorem usdD_f {h : Int} (q : usdD l k h = false) : ∀ a,a < k → (l a).hour ≠ h := fun a ha e => by
 rw [usdD_t.2 ⟨a,ha,e⟩] at q; cases q
theorem sp_mono (hp : ∀ a,a < n → PlAt w l a) : ∀ {a b : Nat},a < b → b < n → (l a).spathe < (l b).spathe := by
 intro a b hab
 induction b with
 | zero => omega
 | succ b ih =>
  intro hb
  have h1 := (hp (b + 1) hb).s.1
  have h2 : lastD l (b + 1) = (l b).spathe := if_neg (by omega)
  rw [h2] at h1
  by_cases e : a = b
  ·subst e; exact h1
  ·have := ih (by omega) (by omega); omega
theorem sp_ge (hp : ∀ a,a < n → PlAt w l a) : ∀ a,a < n → (a : Int) ≤ (l a).spathe := by
 intro a; induction a with
 | zero => intro ha; have := (hp 0 ha).s.1; have e : lastD l 0 = -1 := rfl; omega
 | succ a ih => intro ha; have := ih (by omega); have := sp_mono hp (show a < a + 1 by omega) ha; omega
theorem PlL.len {l : Dus} (h : PlL w l) : l.1 ≤ w.spathes.1 := by
 rcases Nat.eq_zero_or_pos l.1 with e | e
 ·omega
 ·have h1 := sp_ge h (l.1 - 1) (by omega)
  have h2 := (h (l.1 - 1) (by omega)).s.2
  omega
def frD (l : Nat → Du) (k h : Nat) : Bool := !usdD l k (h : Nat)
def unD (w : Wk) (l : Nat → Du) (k j : Nat) : Int := (w.lots.2 j).units - cntD l k j
theorem frD_s (h0 : 0 ≤ (l k).hour) : frD l (k + 1) = takD (frD l k) (l k).hour.toNat := by
 funext h
 unfold frD takD
 simp only [usdD]
 by_cases e : (h : Int) = (l k).hour
 ·rw [if_pos e,if_pos (by omega)]; rfl
 ·rw [if_neg e,if_neg (by omega)]
theorem unD_s (h0 : 0 ≤ (l k).lot) : unD w l (k + 1) = useD (unD w l k) (l k).lot.toNat := by
 funext j
 unfold unD useD
 simp only [cntD]
 by_cases e : (j : Int) = (l k).lot
 ·rw [if_pos e,if_pos (by omega)]; omega
 ·rw [if_neg e,if_neg (by omega)]
theorem plan_low {a b : Nat} {fr : Nat → Bool} {un : Nat → Int} {g : Pla} (h : a ≤ b) (hp : IsPlan (ntF w b fr un) g) : IsPlan (ntF w a fr un) g :=
 ⟨fun i x y e => by
  obtain ⟨b1,b2⟩ := hp.at' i x y e
  exact ⟨by have : b ≤ i := b1; show a ≤ i; omega,b2⟩,hp.inj,hp.lots⟩
theorem pl_suf (hb : WkB w) (hp : ∀ a,a < n → PlAt w l a) : ∀ d k,k + d = n → ∃ g,IsPlan (ntF w (lastD l k + 1).toNat (frD l k) (unD w l k)) g ∧ Pla.size g w.spathes.1 = d := by
 intro d; induction d with
 | zero =>
  intro k hk
  refine ⟨fun _ => none,none_plan (ntF_un fun j hj => ?_),none_size _⟩
  have := cntD_le hb k (fun a ha => hp a (by omega)) j hj
  unfold unD; omega
 | succ d ih =>
  intro k hk
  obtain ⟨g,hg,hs⟩ := ih (k + 1) (by omega)
  obtain ⟨⟨p1,p2⟩,⟨p3,p4⟩,⟨p5,p6⟩,p7,p8,p9,p10⟩ := hp k (by omega)
  have e1 : lastD l (k + 1) = (l k).spathe := if_neg (by omega)
  have hl0 : -1 ≤ lastD l k := by
   unfold lastD; split
   ·omega
   ·have := sp_ge hp (k - 1) (by omega); omega
  rw [e1,frD_s p3,unD_s p5,show ((l k).spathe + 1).toNat = (l k).spathe.toNat + 1 by omega] at hg
  have hf : frD l k (l k).hour.toNat = true := by
   unfold frD
   rw [show (((l k).hour.toNat : Nat) : Int) = (l k).hour by omega,p7]; rfl
  obtain ⟨q1,q2⟩ := plan_put (i := (l k).spathe.toNat) (by omega) (by omega) (by omega) hf p8 p9 hg
  refine ⟨_,plan_low (by omega) q1,?_⟩
  rw [q2,hs]; omega
theorem ntW_0 : ntF w (lastD l 0 + 1).toNat (frD l 0) (unD w l 0) = ntW w := by
 have e1 : frD l 0 = fun _ => true := rfl
 have e2 : unD w l 0 = fun j => (w.lots.2 j).units := by
  funext j; show (w.lots.2 j).units - 0 = _; omega
 rw [e1,e2]; rfl
theorem suf_le (hb : WkB w) (hp : ∀ a,a < n → PlAt w l a) (hk : k ≤ n) : ((n - k : Nat) : Int) ≤ maxP (ntF w (lastD l k + 1).toNat (frD l k) (unD w l k)) := by
 obtain ⟨g,hg,hs⟩ := pl_suf hb hp (n - k) k (by omega)
 have hm := most_ex (ntF_un (w := w) (a := (lastD l k + 1).toNat) (fr := frD l k) (un := unD w l k) fun j hj => by
  have := cntD_le hb k (fun a ha => hp a (by omega)) j hj
  unfold unD; omega)
 have : Pla.size g w.spathes.1 ≤ _ := hm.le g hg
 omega
theorem plL_le {l : Dus} (hb : WkB w) (hp : PlL w l) : (l.1 : Int) ≤ maxP (ntW w) := by
 have := suf_le hb hp (Nat.zero_le _)
 rw [ntW_0,Nat.sub_zero] at this; exact this
end
noncomputable abbrev stW (w : Wk) (i : Nat) : PS := stD w (fun _ => true) (fun j => (w.lots.2 j).units) i
section
variable {w : Wk}
theorem st_fu (w : Wk) : ∀ i,(∀ h,(stW w i).fr h = frD (stW w i).pl (stW w i).cnt h) ∧ ∀ j,(stW w i).un j = unD w (stW w i).pl (stW w i).cnt j := by
 intro i; induction i with
 | zero => exact ⟨fun _ => rfl,fun j => by show (w.lots.2 j).units = (w.lots.2 j).units - 0; omega⟩
 | succ i ih =>
  obtain ⟨i1,i2⟩ := ih
  show (∀ h,(stepD w i (stW w i)).fr h = _) ∧ _
  change (∀ h,(stepD w i (stW w i)).fr h = frD (stepD w i (stW w i)).pl (stepD w i (stW w i)).cnt h) ∧ ∀ j,(stepD w i (stW w i)).un j = unD w (stepD w i (stW w i)).pl (stepD w i (stW w i)).cnt j
  generalize stW w i = s at i1 i2
  rcases step_cases w i s with ⟨h,j,_,_,_,_,_,h6⟩ | ⟨_,h6⟩
  ·rw [h6]
   have ek : (putD s i h j).pl s.cnt = ⟨i,h,j⟩ := if_pos rfl
   have ec : ∀ a,a < s.cnt → (putD s i h j).pl a = s.pl a := fun a ha => if_neg (by omega)
   have hh : ((putD s i h j).pl s.cnt).hour = (h : Int) := by rw [ek]
   have hj : ((putD s i h j).pl s.cnt).lot = (j : Int) := by rw [ek]
   refine ⟨fun x => ?_,fun x => ?_⟩
   ·show takD s.fr h x = frD (putD s i h j).pl (s.cnt + 1) x
    rw [frD_s (by rw [hh]; omega),hh,Int.toNat_natCast]
    unfold takD; split
    ·rfl
    ·rw [i1 x]; unfold frD; rw [usdD_congr ec]
   ·show useD s.un j x = unD w (putD s i h j).pl (s.cnt + 1) x
    rw [unD_s (by rw [hj]; omega),hj,Int.toNat_natCast]
    unfold useD
    have : s.un x = unD w (putD s i h j).pl s.cnt x := by rw [i2 x]; unfold unD; rw [cntD_congr ec]
    rw [this]
  ·rw [h6]; exact ⟨i1,i2⟩
theorem st_pl (hb : WkB w) : ∀ i,i ≤ w.spathes.1 → (∀ k,k < (stW w i).cnt → PlAt w (stW w i).pl k) ∧ lastD (stW w i).pl (stW w i).cnt < i := by
 intro i; induction i with
 | zero => intro _; exact ⟨fun k hk => absurd hk (Nat.not_lt_zero _),by show (-1 : Int) < 0; decide⟩
 | succ i ih =>
  intro hi
  obtain ⟨i1,i2⟩ := ih (by omega)
  obtain ⟨f1,f2⟩ := st_fu w i
  have hok := st_ok hb (fr := fun _ => true) hb.u i
  change (∀ k,k < (stepD w i (stW w i)).cnt → PlAt w (stepD w i (stW w i)).pl k) ∧ lastD (stepD w i (stW w i)).pl (stepD w i (stW w i)).cnt < ((i + 1 : Nat) : Int)
  change PlOk w (stW w i) i at hok
  generalize stW w i = s at i1 i2 f1 f2 hok
  rcases step_cases w i s with ⟨h,j,h1,h2,h3,_,_,h6⟩ | ⟨_,h6⟩
  ·rw [h6]
   obtain ⟨c1,c2,c3,c4,_⟩ := h3
   have ek : (putD s i h j).pl s.cnt = ⟨i,h,j⟩ := if_pos rfl
   have ec : ∀ a,a < s.cnt → (putD s i h j).pl a = s.pl a := fun a ha => if_neg (by omega)
   refine ⟨fun k hk => ?_,?_⟩
   ·have hk : k < s.cnt + 1 := hk
    by_cases e : k = s.cnt
    ·subst e
     refine ⟨?_,?_,?_,?_,?_,?_,?_⟩
     ·rw [lastD_congr ec,ek]; exact ⟨i2,by show (i : Int) < _; omega⟩
     ·rw [ek]; exact ⟨by show (0 : Int) ≤ h; omega,by show (h : Int) < _; omega⟩
     ·rw [ek]; exact ⟨by show (0 : Int) ≤ j; omega,by show (j : Int) < _; omega⟩
     ·rw [usdD_congr ec,ek]
      have := f1 h
      rw [c1] at this
      unfold frD at this
      show usdD s.pl s.cnt (h : Int) = false
      cases e : usdD s.pl s.cnt (h : Int)
      ·rfl
      ·rw [e] at this; cases this
     ·rw [ek]; exact c3
     ·rw [ek]; exact c4
     ·rw [cntD_congr ec,ek]
      have h4 := f2 j
      unfold unD at h4
      have h5 := (hok.un j h2).1
      show cntD s.pl s.cnt (j : Int) + 1 ≤ (w.lots.2 j).units
      omega
    ·exact (i1 k (by omega)).congr fun a ha => (ec a (by omega)).symm
   ·have : lastD (putD s i h j).pl (s.cnt + 1) = ((putD s i h j).pl s.cnt).spathe := if_neg (by omega)
    show lastD (putD s i h j).pl (s.cnt + 1) < _
    rw [this,ek]; show (i : Int) < _; omega
  ·rw [h6]; exact ⟨i1,by omega⟩
theorem st_grow (w : Wk) (i : Nat) : ∀ d,(stW w i).cnt ≤ (stW w (i + d)).cnt ∧ (∀ a,a < (stW w i).cnt → (stW w (i + d)).pl a = (stW w i).pl a) ∧ ∀ a,(stW w i).cnt ≤ a → a < (stW w (i + d)).cnt → (i : Int) ≤ ((stW w (i + d)).pl a).spathe := by
 intro d; induction d with
 | zero => exact ⟨Nat.le_refl _,fun _ _ => rfl,fun a h1 h2 => absurd h2 (by show ¬ a < (stW w i).cnt; omega)⟩
 | succ d ih =>
  obtain ⟨i1,i2,i3⟩ := ih
  change (stW w i).cnt ≤ (stepD w (i + d) (stW w (i + d))).cnt ∧ (∀ a,a < (stW w i).cnt → (stepD w (i + d) (stW w (i + d))).pl a = (stW w i).pl a) ∧ ∀ a,(stW w i).cnt ≤ a → a < (stepD w (i + d) (stW w (i + d))).cnt → (i : Int) ≤ ((stepD w (i + d) (stW w (i + d))).pl a).spathe
  generalize stW w (i + d) = s at i1 i2 i3
  rcases step_cases w (i + d) s with ⟨h,j,_,_,_,_,_,h6⟩ | ⟨_,h6⟩
  ·rw [h6]
   have ek : (putD s (i + d) h j).pl s.cnt = ⟨(i + d : Nat),h,j⟩ := if_pos rfl
   have ec : ∀ a,a < s.cnt → (putD s (i + d) h j).pl a = s.pl a := fun a ha => if_neg (by omega)
   refine ⟨by show _ ≤ s.cnt + 1; omega,fun a ha => (ec a (by omega)).trans (i2 a ha),fun a h1 h2 => ?_⟩
   have h2 : a < s.cnt + 1 := h2
   by_cases e : a = s.cnt
   ·subst e; rw [ek]; show (i : Int) ≤ ((i + d : Nat) : Int); omega
   ·rw [ec a (by omega)]; exact i3 a h1 (by omega)
  ·rw [h6]; exact ⟨i1,i2,i3⟩
noncomputable def mostL (w : Wk) : Dus := ((plD w).cnt,(plD w).pl)
theorem most_pl (hb : WkB w) : PlL w (mostL w) := (st_pl hb w.spathes.1 (Nat.le_refl _)).1
theorem most_len (hb : WkB w) : ((plD w).cnt : Int) = maxP (ntW w) := (gr_end hb).2
theorem most_ge {l : Dus} (hb : WkB w) (h : PlL w l) : l.1 ≤ (plD w).cnt := by
 have h1 := plL_le hb h
 have h2 := most_len hb
 omega
theorem most_first {o : Dus} {k : Nat} (hb : WkB w) (ho : PlL w o) (hn : o.1 = (plD w).cnt) (hk : k < o.1) (hs : ∀ a,a < k → (plD w).pl a = o.2 a) (hne : (plD w).pl k ≠ o.2 k) : ((plD w).pl k).spathe < (o.2 k).spathe ∨ (((plD w).pl k).spathe = (o.2 k).spathe ∧ (((plD w).pl k).hour < (o.2 k).hour ∨ (((plD w).pl k).hour = (o.2 k).hour ∧ ((plD w).pl k).lot < (o.2 k).lot))) := by
 by_cases hlt : ((plD w).pl k).spathe < (o.2 k).spathe
 ·exact .inl hlt
 right
 obtain ⟨⟨p1,p2⟩,⟨p3,p4⟩,⟨p5,p6⟩,p7,p8,p9,p10⟩ := ho k hk
 have hsp0 := sp_ge ho k hk
 obtain ⟨i,hi⟩ : ∃ i : Nat,(o.2 k).spathe = (i : Int) := ⟨(o.2 k).spathe.toNat,by omega⟩
 obtain ⟨h,hh⟩ : ∃ h : Nat,(o.2 k).hour = (h : Int) := ⟨(o.2 k).hour.toNat,by omega⟩
 obtain ⟨j,hj⟩ : ∃ j : Nat,(o.2 k).lot = (j : Int) := ⟨(o.2 k).lot.toNat,by omega⟩
 rw [hi] at p1 p2 p8
 rw [hh] at p3 p4 p7 p8 p9
 rw [hj] at p5 p6 p9 p10
 rw [Int.toNat_natCast,Int.toNat_natCast] at p8 p9
 rw [Int.toNat_natCast] at p10
 have hiS : i < w.spathes.1 := by omega
 have hhH : h < w.hours.1 := by omega
 have hjL : j < w.lots.1 := by omega
 obtain ⟨d,hd⟩ : ∃ d,w.spathes.1 = i + d := ⟨w.spathes.1 - i,by omega⟩
 obtain ⟨g1,g2,g3⟩ := st_grow w i d
 rw [← hd] at g1 g2 g3
 obtain ⟨s1,s2⟩ := st_pl hb i (by omega)
 have hmp := most_pl hb
 -- what stands at i are the first k
 have hcl : ¬ k < (stW w i).cnt := fun hc => by
  have e := g2 k hc
  have e : (plD w).pl k = (stW w i).pl k := e
  have h1 : ((stW w i).pl k).spathe ≤ lastD (stW w i).pl (stW w i).cnt := by
   have e2 : lastD (stW w i).pl (stW w i).cnt = ((stW w i).pl ((stW w i).cnt - 1)).spathe := if_neg (by omega)
   rw [e2]
   by_cases e3 : k = (stW w i).cnt - 1
   ·rw [← e3]; exact Int.le_refl _
   ·exact Int.le_of_lt (sp_mono s1 (by omega) (by omega))
  rw [e,hi] at hlt
  omega
 have hcg : ¬ (stW w i).cnt < k := fun hc => by
  have h1 := g3 (stW w i).cnt (Nat.le_refl _) (by show (stW w i).cnt < (plD w).cnt; omega)
  have h1 : (i : Int) ≤ ((plD w).pl (stW w i).cnt).spathe := h1
  rw [hs _ hc] at h1
  have h2 := sp_mono ho hc hk
  omega
 have hc : (stW w i).cnt = k := by omega
 have hpl : ∀ a,a < k → (stW w i).pl a = o.2 a := fun a ha => (g2 a (by omega)).symm.trans (hs a ha)
 obtain ⟨f1,f2⟩ := st_fu w i
 have hgr := gr_ok hb i (by omega)
 have hok := st_ok hb (fr := fun _ => true) hb.u i
 have hfr : ∀ x,(stW w i).fr x = frD o.2 k x := fun x => by rw [f1,hc]; unfold frD; rw [usdD_congr hpl]
 have hun : ∀ x,(stW w i).un x = unD w o.2 k x := fun x => by rw [f2,hc]; unfold unD; rw [cntD_congr hpl]
 have hfre : (stW w i).fr = frD o.2 k := funext hfr
 have hune : (stW w i).un = unD w o.2 k := funext hun
 have hfh : frD o.2 k h = true := by unfold frD; rw [p7]; rfl
 have huj : unD w o.2 k j ≠ 0 := by unfold unD; omega
 have hsuf := suf_le hb ho (k := k + 1) (by omega)
 have e1 : lastD o.2 (k + 1) = (i : Int) := (if_neg (by omega)).trans hi
 rw [e1,frD_s (by omega),unD_s (by omega),hh,hj,Int.toNat_natCast,Int.toNat_natCast,show ((i : Int) + 1).toNat = i + 1 by omega] at hsuf
 have hneed := hgr.need
 have htot := hgr.tot
 have hmx := most_len hb
 change (stW w i).need = maxP (ntF w i (stW w i).fr (stW w i).un) at hneed
 change ((stW w i).cnt : Int) + (stW w i).need = _ at htot
 have hu1 := useD_un (j := j) (w := w) (un := (stW w i).un) (fun b hb' => hok.un b hb') hjL (by rw [hune]; exact huj)
 have hup : 1 + maxP (ntF w (i + 1) (takD (frD o.2 k) h) (useD (unD w o.2 k) j)) ≤ (stW w i).need := by
  rw [← hfre,← hune,hneed]
  obtain ⟨g,hg,hgs⟩ := (most_ex (ntF_un (w := w) (a := i + 1) (fr := takD (stW w i).fr h) (un := useD (stW w i).un j) fun b hb' => (hu1 b hb').1)).ex
  obtain ⟨q1,q2⟩ := plan_put hiS hhH hjL ((hfr h).trans hfh) p8 p9 hg
  have hm := (most_ex (ntF_un (w := w) (a := i) (fr := (stW w i).fr) (un := (stW w i).un) fun b hb' => (hok.un b hb').1)).le _ q1
  have hm : Pla.size _ w.spathes.1 ≤ _ := hm
  have hgs : Pla.size g w.spathes.1 = _ := hgs
  omega
 have hcan : canD w i (stW w i) h j := by
  refine ⟨(hfr h).trans hfh,by rw [hune]; exact huj,p8,p9,?_⟩
  rw [hfre,hune]
  omega
 rcases step_cases w i (stW w i) with ⟨h',j',h1,h2,h3,h4,h5,h6⟩ | ⟨h5,_⟩
 ·obtain ⟨d',hd'⟩ : ∃ d',w.spathes.1 = (i + 1) + d' := ⟨w.spathes.1 - (i + 1),by omega⟩
  obtain ⟨_,g2',_⟩ := st_grow w (i + 1) d'
  rw [← hd'] at g2'
  have es : stW w (i + 1) = putD (stW w i) i h' j' := h6
  rw [es] at g2'
  have ek : (plD w).pl k = ⟨i,h',j'⟩ := (g2' k (by show k < (stW w i).cnt + 1; omega)).trans (if_pos hc.symm)
  have eo : o.2 k = ⟨i,h,j⟩ := by
   have : o.2 k = ⟨(o.2 k).spathe,(o.2 k).hour,(o.2 k).lot⟩ := rfl
   rw [this,hi,hh,hj]
  rw [ek,eo]
  refine ⟨rfl,?_⟩
  show (h' : Int) < (h : Int) ∨ ((h' : Int) = (h : Int) ∧ (j' : Int) < (j : Int))
  have hle : h' ≤ h := by
   rcases Nat.lt_or_ge h h' with q | q
   ·exact absurd hcan (h4 h q j hjL)
   ·exact q
  rcases Nat.lt_or_eq_of_le hle with q | q
  ·left; omega
  ·right
   subst q
   refine ⟨rfl,?_⟩
   rcases Nat.lt_or_ge j j' with q | q
   ·exact absurd hcan (h5 j q)
   ·have : j' ≠ j := fun e => hne (by rw [ek,eo,e])
    omega
 ·exact absurd hcan (h5 h hhH j hjL)
end
theorem ind_1 {P : Nat → Prop} [∀ i,Decidable (P i)] {n : Nat} (h : ∀ i i',i < n → i' < n → P i → P i' → i = i') : sumN (fun i => if P i then (1 : Int) else 0) n ≤ 1 := sumN_ind_le h
theorem cntD_sum (l : Nat → Du) (j : Int) : ∀ n,cntD l n j = sumN (fun k => if j = (l k).lot then 1 else 0) n := by
 intro n; induction n with
 | zero => rfl
 | succ n ih => simp only [cntD,sumN,ih]; split <;> omega
theorem ind_row {P : Nat → Bool} {n x : Nat} (hx : x < n) (h : P x = true) (v : Nat → Int) : sumN (fun i => if x = i then (if P i = true then v i else 0) else 0) n = v x := by
 have : sumN (fun i => if x = i then (if P i = true then v i else 0) else 0) n = sumN (fun i => if i = x then v x else 0) n := sumN_congr fun i _ => by
  by_cases e : x = i
  ·subst e; rw [if_pos rfl,if_pos h,if_pos rfl]
  ·rw [if_neg e,if_neg fun q => e q.symm]
 rw [this,sumN_one,if_pos hx]
theorem bound_pl {w : Wk} {l : Dus} {P Q R : Nat → Bool} (hb : WkB w) (hp : PlL w l) (hc : ∀ i,i < w.spathes.1 → ∀ h,h < w.hours.1 → ∀ j,j < w.lots.1 → takesF w i h = true → goodF w h j = true → P i = true ∨ Q h = true ∨ R j = true) :
  (l.1 : Int) ≤ sumN (fun i => if P i = true then 1 else 0) w.spathes.1 + sumN (fun h => if Q h = true then 1 else 0) w.hours.1 + sumN (fun j => if R j = true then (w.lots.2 j).units else 0) w.lots.1 := by
 have a0 : (l.1 : Int) = sumN (fun _ => 1) l.1 := by
  have : ∀ n : Nat,sumN (fun _ => (1 : Int)) n = n := fun n => by
   induction n with
   | zero => rfl
   | succ n ih => simp only [sumN,ih]; omega
  exact (this _).symm
 let A := fun k i => if (l.2 k).spathe.toNat = i then (if P i = true then (1 : Int) else 0) else 0
 let B := fun k h => if (l.2 k).hour.toNat = h then (if Q h = true then (1 : Int) else 0) else 0
 let C := fun k j => if (l.2 k).lot.toNat = j then (if R j = true then (1 : Int) else 0) else 0
 have nA : ∀ k,0 ≤ sumN (A k) w.spathes.1 := fun k => sumN_nn fun i _ => by show (0 : Int) ≤ if _ then _ else _; split <;> (try split) <;> omega
 have nB : ∀ k,0 ≤ sumN (B k) w.hours.1 := fun k => sumN_nn fun i _ => by show (0 : Int) ≤ if _ then _ else _; split <;> (try split) <;> omega
 have nC : ∀ k,0 ≤ sumN (C k) w.lots.1 := fun k => sumN_nn fun i _ => by show (0 : Int) ≤ if _ then _ else _; split <;> (try split) <;> omega
 have a1 : sumN (fun _ => (1 : Int)) l.1 ≤ sumN (fun k => sumN (A k) w.spathes.1 + sumN (B k) w.hours.1 + sumN (C k) w.lots.1) l.1 := sumN_le fun k hk => by
  obtain ⟨⟨p1,p2⟩,⟨p3,p4⟩,⟨p5,p6⟩,p7,p8,p9,p10⟩ := hp k hk
  have h0 := sp_ge hp k hk
  have z1 := nA k
  have z2 := nB k
  have z3 := nC k
  rcases hc _ (show (l.2 k).spathe.toNat < w.spathes.1 by omega) _ (show (l.2 k).hour.toNat < w.hours.1 by omega) _ (show (l.2 k).lot.toNat < w.lots.1 by omega) p8 p9 with h | h | h
  ·have : sumN (A k) w.spathes.1 = 1 := ind_row (by omega) h fun _ => 1
   omega
  ·have : sumN (B k) w.hours.1 = 1 := ind_row (by omega) h fun _ => 1
   omega
  ·have : sumN (C k) w.lots.1 = 1 := ind_row (by omega) h fun _ => 1
   omega
 have a2 : sumN (fun k => sumN (A k) w.spathes.1 + sumN (B k) w.hours.1 + sumN (C k) w.lots.1) l.1 = sumN (fun i => sumN (fun k => A k i) l.1) w.spathes.1 + sumN (fun i => sumN (fun k => B k i) l.1) w.hours.1 + sumN (fun i => sumN (fun k => C k i) l.1) w.lots.1 := by
  rw [sumN_add (fun k => sumN (A k) w.spathes.1 + sumN (B k) w.hours.1) (fun k => sumN (C k) w.lots.1),sumN_add,sumN_swap A,sumN_swap B,sumN_swap C]
 have b1 : sumN (fun i => sumN (fun k => A k i) l.1) w.spathes.1 ≤ sumN (fun i => if P i = true then 1 else 0) w.spathes.1 := sumN_le fun i _ => by
  by_cases e : P i = true
  ·rw [if_pos e]
   have : sumN (fun k => A k i) l.1 = sumN (fun k => if (l.2 k).spathe.toNat = i then (1 : Int) else 0) l.1 := sumN_congr fun k _ => by show (if _ then (if P i = true then (1 : Int) else 0) else 0) = _; rw [if_pos e]
   rw [this]
   refine ind_1 fun k k' hk hk' e1 e2 => ?_
   have g1 := sp_ge hp k hk
   have g2 := sp_ge hp k' hk'
   rcases Nat.lt_trichotomy k k' with q | q | q
   ·have := sp_mono hp q hk'; omega
   ·exact q
   ·have := sp_mono hp q hk; omega
  ·rw [if_neg e]
   refine Int.le_of_eq ((sumN_congr fun k _ => ?_).trans (sumN_zero l.1))
   show (if _ then (if P i = true then (1 : Int) else 0) else 0) = _
   rw [if_neg e]; split <;> rfl
 have b2 : sumN (fun i => sumN (fun k => B k i) l.1) w.hours.1 ≤ sumN (fun i => if Q i = true then 1 else 0) w.hours.1 := sumN_le fun i _ => by
  by_cases e : Q i = true
  ·rw [if_pos e]
   have : sumN (fun k => B k i) l.1 = sumN (fun k => if (l.2 k).hour.toNat = i then (1 : Int) else 0) l.1 := sumN_congr fun k _ => by show (if _ then (if Q i = true then (1 : Int) else 0) else 0) = _; rw [if_pos e]
   rw [this]
   refine ind_1 fun k k' hk hk' e1 e2 => ?_
   have g1 := (hp k hk).h
   have g2 := (hp k' hk').h
   rcases Nat.lt_trichotomy k k' with q | q | q
   ·exact absurd (by omega) (usdD_f (hp k' hk').fr k q)
   ·exact q
   ·exact absurd (by omega) (usdD_f (hp k hk).fr k' q)
  ·rw [if_neg e]
   refine Int.le_of_eq ((sumN_congr fun k _ => ?_).trans (sumN_zero l.1))
   show (if _ then (if Q i = true then (1 : Int) else 0) else 0) = _
   rw [if_neg e]; split <;> rfl
 have b3 : sumN (fun i => sumN (fun k => C k i) l.1) w.lots.1 ≤ sumN (fun j => if R j = true then (w.lots.2 j).units else 0) w.lots.1 := sumN_le fun j hj => by
  by_cases e : R j = true
  ·rw [if_pos e]
   have : sumN (fun k => C k j) l.1 = cntD l.2 l.1 j := by
    rw [cntD_sum]
    refine sumN_congr fun k hk => ?_
    have := (hp k hk).j
    show (if (l.2 k).lot.toNat = j then (if R j = true then (1 : Int) else 0) else 0) = _
    rw [if_pos e]
    by_cases q : (l.2 k).lot.toNat = j
    ·rw [if_pos q,if_pos (by omega)]
    ·rw [if_neg q,if_neg (by omega)]
   rw [this]
   exact cntD_le hb _ (fun a ha => hp a ha) j hj
  ·rw [if_neg e]
   refine Int.le_of_eq ((sumN_congr fun k _ => ?_).trans (sumN_zero l.1))
   show (if _ then (if R j = true then (1 : Int) else 0) else 0) = _
   rw [if_neg e]; split <;> rfl
 rw [a0]; omega
end Go.Proofs.Ytlapepdhkomijaa
namespace Go.Proofs.Ytlapepdhkomijaa
open Go Go.RowKit
variable {G : Nat → Option (Nat × (Nat → Val))}
def lotH (l : Nat → Du) : Nat → Int → Bool
 | 0,_ => false
 | k + 1,j => if j = (l k).lot then true else lotH l k j
theorem lotH_f {l : Nat → Du} : ∀ {k : Nat} {j : Int},lotH l k j = false → cntD l k j = 0 := by
  intro k; induction k with
  | zero => intro _ _; rfl
  | succ k ih => intro j h; simp only [lotH] at h; simp only [cntD]; split at h
                 · cases h
                 · rename_i e; rw [if_neg e]; exact ih h
noncomputable def sPlanL : Spec := spec2 TWk (TSl RDu) (fun w l => WkB w ∧ l.1 ≤ 1000) fun w l => .bool (planB w l)
set_option maxHeartbeats 4000000 in
set_option maxRecDepth 100000 in
theorem pPlanL : PureOk Try.prog G 40 sPlanL := by
  refine fn2 (S := [(56,sTakes),(69,sGood)]) (I := []) mixed (.cons pTakesR (.cons pGoodR .nil)) .nil Try.func40 c40 fun w l hp hw => ?_
  simp only [Nat.reduceSub,Nat.reducePow,go_sem] at hw
  obtain ⟨hb,hn⟩ := hp
  have hbt : WkB w = True := eq_true hb
  have hS := hb.s
  have hH := hb.h
  have hL := hb.l
  simp only [RunTo,a40,hw,↓reduceIte,reduceCtorEq,Nat.reduceEqDiff,Nat.reduceAdd,Nat.reduceSub,Int.reduceNeg,Nat.reducePow,go_sem]
  refine loopI (ι := Nat) (fun k => k ≤ l.1 ∧ ∀ a,a < k → PlAt w l.2 a) (fun k => l.1 - k) [2,5,6,12,13] (fun k => [(7,.int .i64 (lastD l.2 k)),(14,.int .i64 k)]) (fun k => [(1,.mp .i64 (usdD l.2 k) fun _ => .bool true),(2,.mp .i64 (lotH l.2 k) fun j => .int .i64 (cntD l.2 k j))]) 0 ⟨Nat.zero_le _,fun a ha => absurd ha (Nat.not_lt_zero _)⟩ (by simp only [usdD,lotH,cntD,lastD,↓imp_ft,↓reduceIte,reduceCtorEq,Nat.reduceEqDiff,Nat.reduceLT,Int.reduceNeg,go_sem]; try simp) fun k hk => ?_
  obtain ⟨hk1,hk2⟩ := hk
  by_cases hkl : k < l.1
  · have fk : ((k : Int) < (l.1 : Int)) = True := eq_true (by omega)
    have hno : ¬ PlAt w l.2 k → false = planB w l := fun h => (decP_f fun q => h (q k hkl)).symm
    have hcn := cntD_nn (l := l.2) k (l.2 k).lot
    have hla : lastD l.2 (k + 1) = (l.2 k).spathe := if_neg (by omega)
    have hl0 : -1 ≤ lastD l.2 k := by
      unfold lastD; split
      · omega
      · have := sp_ge hk2 (k - 1) (by omega); omega
    have ew : IntKind.i64.wrap (cntD l.2 k (l.2 k).lot + 1) = cntD l.2 k (l.2 k).lot + 1 := wr64 (by omega) (by omega)
    have ew1 : IntKind.i64.wrap 1 = 1 := wr64 (by omega) (by omega)
    cases eu : usdD l.2 k (l.2 k).hour
    · cases el : lotH l.2 k (l.2 k).lot
      · have ec := lotH_f el
        simp only [fk,sTakes,sGood,hbt,eu,el,ew1,hw,↓imp_tt,↓imp_tf,↓imp_ft,↓imp_ff,↓reduceIte,reduceCtorEq,Nat.reduceEqDiff,Nat.reduceAdd,Nat.reduceSub,Nat.reduceLeDiff,Int.reduceAdd,Nat.reducePow,go_sem]
        repeat' (first | omega | (with_reducible apply And.intro) | intro _)
        all_goals first
          | (refine hno fun q => ?_
             obtain ⟨⟨q1,q2⟩,⟨q3,q4⟩,⟨q5,q6⟩,q7,q8,q9,q10⟩ := q
             first | omega | (simp_all; done))
          | (refine inv_intro (k + 1) ⟨hkl,fun a ha => ?_⟩ (by omega) ?_
             · by_cases e : a = k
               · subst e; exact ⟨by omega,by omega,by omega,eu,by assumption,by assumption,by omega⟩
               · exact hk2 a (by omega)
             · simp only [usdD,lotH,cntD,hla,↓reduceIte,reduceCtorEq,Nat.reduceEqDiff,Nat.reduceLT,go_sem]
               refine ⟨wrS (by omega),fun j hj => ?_,fun j _ => by split <;> rfl⟩
               by_cases e : j = (l.2 k).lot
               · first | (rw [if_pos e,if_pos e,e,ec]; rfl) | rw [if_pos e,if_pos e,e]
               · rw [if_neg e,if_neg e])
      · simp only [fk,sTakes,sGood,hbt,eu,el,ew,hw,↓imp_tt,↓imp_tf,↓imp_ft,↓imp_ff,↓reduceIte,reduceCtorEq,Nat.reduceEqDiff,Nat.reduceAdd,Nat.reduceSub,Nat.reduceLeDiff,Nat.reducePow,go_sem]
        repeat' (first | omega | (with_reducible apply And.intro) | intro _)
        all_goals first
          | (refine hno fun q => ?_
             obtain ⟨⟨q1,q2⟩,⟨q3,q4⟩,⟨q5,q6⟩,q7,q8,q9,q10⟩ := q
             first | omega | (simp_all; done))
          | (refine inv_intro (k + 1) ⟨hkl,fun a ha => ?_⟩ (by omega) ?_
             · by_cases e : a = k
               · subst e; exact ⟨by omega,by omega,by omega,eu,by assumption,by assumption,by omega⟩
               · exact hk2 a (by omega)
             · simp only [usdD,lotH,cntD,hla,↓reduceIte,reduceCtorEq,Nat.reduceEqDiff,Nat.reduceLT,go_sem]
               refine ⟨wrS (by omega),fun j hj => ?_,fun j _ => by split <;> rfl⟩
               by_cases e : j = (l.2 k).lot
               · first | (rw [if_pos e,if_pos e,e,ec]; rfl) | rw [if_pos e,if_pos e,e]
               · rw [if_neg e,if_neg e])
    · simp only [fk,sTakes,sGood,eu,hw,↓imp_tt,↓imp_tf,↓reduceIte,reduceCtorEq,Nat.reduceEqDiff,Nat.reduceAdd,Nat.reduceSub,Nat.reduceLeDiff,Nat.reducePow,go_sem]
      repeat' (first | omega | (with_reducible apply And.intro) | intro _)
      all_goals first
        | (refine hno fun q => ?_
           obtain ⟨⟨q1,q2⟩,⟨q3,q4⟩,⟨q5,q6⟩,q7,q8,q9,q10⟩ := q
           first | omega | (simp_all; done))
        | (refine inv_intro (k + 1) ⟨hkl,fun a ha => ?_⟩ (by omega) ?_
           · by_cases e : a = k
             · subst e; exact ⟨by omega,by omega,by omega,eu,by assumption,by assumption,by omega⟩
             · exact hk2 a (by omega)
           · simp only [usdD,lotH,cntD,hla,↓imp_tt,↓imp_tf,↓imp_ft,↓imp_ff,↓reduceIte,reduceCtorEq,Nat.reduceEqDiff,Nat.reduceAdd,Nat.reduceSub,Nat.reduceLeDiff,Nat.reduceMul,Nat.reduceLT,Int.reduceToNat,Int.reduceLT,Int.reduceLE,Int.reduceEq,Int.reduceNeg,Int.reduceMul,Int.reduceAdd,Int.reduceSub,Int.reduceNe,Int.reduceBEq,Int.reduceBNe,Nat.reducePow,go_sem]
             refine ⟨wrS (by omega),fun j hj => ?_,fun j _ => by split <;> rfl⟩
             by_cases e : j = (l.2 k).lot
             · first | (rw [if_pos e,if_pos e,e,ec]; rfl) | rw [if_pos e,if_pos e,e]
             · rw [if_neg e,if_neg e])
  · have fk : ((k : Int) < (l.1 : Int)) = False := eq_false (by omega)
    obtain rfl : k = l.1 := by omega
    simp only [fk,↓imp_ft,↓imp_ff,↓reduceIte,Nat.reduceEqDiff,go_sem]
    exact (decP_t hk2).symm
end Go.Proofs.Ytlapepdhkomijaa
