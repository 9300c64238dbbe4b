/- Groves: the chapter's examples once more, as they are laid out. No condition. -/
import Derived.Test.YtpknbojgkkmonaaWRdy
import Derived.Test.YtpknbojgkkmonaaWApg
set_option linter.unusedSimpArgs false
set_option linter.unusedVariables false
namespace Go.Proofs.Ytpknbojgkkmonaa
open Go Go.RowKit
namespace Ey
theorem lt1e {p : Nat → Prop} (h0 : p 0) : ∀ i,i < 1 → p i := fun i hi => by
  obtain rfl : i = 0 := by omega
  exact h0
theorem lt2e {p : Nat → Prop} (h0 : p 0) (h1 : p 1) : ∀ i,i < 2 → p i := fun i hi => by
  obtain rfl | rfl : i = 0 ∨ i = 1 := by omega
  · exact h0
  · exact h1
theorem lt4e {p : Nat → Prop} (h0 : p 0) (h1 : p 1) (h2 : p 2) (h3 : p 3) : ∀ i,i < 4 → p i := fun i hi => by
  obtain rfl | rfl | rfl | rfl : i = 0 ∨ i = 1 ∨ i = 2 ∨ i = 3 := by omega
  · exact h0
  · exact h1
  · exact h2
  · exact h3
def pmC (id mo pl : Int) : Pm := ⟨id,mo,pl,⟨0,by decide⟩,0⟩
def gvC : Gv := ⟨(4,fun i => if i = 0 then pmC 1 (-1) 0 else if i = 1 then pmC 2 (-1) 0 else if i = 2 then pmC 3 (-1) 0 else if i = 3 then pmC 4 3 1200 else ⟨0,0,0,⟨0,by decide⟩,0⟩),
  (4,fun i => if i = 0 then ⟨0,0⟩ else if i = 1 then ⟨30,40⟩ else if i = 2 then ⟨90,40⟩ else if i = 3 then ⟨500,500⟩ else ⟨0,0⟩),60,50,20,1000,(1,fun i => if i = 0 then 1 else 0)⟩
theorem hitC1 : hitN gvC.palms 1 = 0 := fstI_at (by decide) rfl fun i hi => absurd hi (Nat.not_lt_zero _)
theorem hitC2 : hitN gvC.palms 2 = 1 := fstI_at (by decide) rfl (lt1e (by decide))
theorem hitC3 : hitN gvC.palms 3 = 2 := fstI_at (by decide) rfl (lt2e (by decide) (by decide))
theorem hitC4 : hitN gvC.palms 4 = 3 := fstI_at (by decide) rfl fun i hi => by
  obtain rfl | rfl | rfl : i = 0 ∨ i = 1 ∨ i = 2 := by omega
  all_goals decide
theorem gvC_ok : GvOk gvC := by
  refine ⟨⟨by decide,lt4e (by decide) (by decide) (by decide) (by decide),fun i hi h0 => ?_,lt4e (by decide) (by decide) (by decide) (by decide),lt4e (by decide) (by decide) (by decide) (by decide),lt4e (by decide) (by decide) (by decide) (by decide),lt4e (.inl rfl) (.inl rfl) (.inl rfl) (.inr ?_)⟩,rfl,by decide,by decide,by decide,by decide,lt4e ⟨by decide,by decide⟩ ⟨by decide,by decide⟩ ⟨by decide,by decide⟩ ⟨by decide,by decide⟩,lt1e ?_⟩
  · have hi : i < 4 := hi
    obtain rfl | rfl | rfl : i = 1 ∨ i = 2 ∨ i = 3 := by omega
    all_goals decide
  · show hitN gvC.palms 3 < 4 ∧ (gvC.palms.2 (hitN gvC.palms 3)).planted + 1000 ≤ _
    rw [hitC3]; exact ⟨by decide,by decide⟩
  · show hitN gvC.palms 1 < 4 ∧ (gvC.palms.2 (hitN gvC.palms 1)).planted ≤ _ ∧ _
    rw [hitC1]; exact ⟨by decide,by decide,fun h => absurd h (Nat.lt_irrefl _)⟩
def exD (N : Nat → Int) (i : Nat) : Int := if i = 0 then 1000 else if i = 1 then max 1050 (N 1) else if i = 2 then max (max 1050 (N 1) + 50) (N 2) else 1200
theorem susC {i : Nat} (hi : i < 4) : susP gvC (gvC.palms.2 i).id ↔ i = 0 := by
  constructor
  · rintro ⟨z,hz,h⟩
    obtain rfl : z = 0 := by have : z < 1 := hz; omega
    have h : (1 : Int) = (gvC.palms.2 i).id := h
    obtain rfl | rfl | rfl | rfl : i = 0 ∨ i = 1 ∨ i = 2 ∨ i = 3 := by omega
    · rfl
    · exact absurd h (by decide)
    · exact absurd h (by decide)
    · exact absurd h (by decide)
  · rintro rfl; exact ⟨0,by decide,rfl⟩
theorem plC0 {i : Nat} (hi : i < 3) : (gvC.palms.2 i).planted = 0 := by
  obtain rfl | rfl | rfl : i = 0 ∨ i = 1 ∨ i = 2 := by omega
  all_goals rfl
theorem nearC {i k : Nat} (hi : i < 4) (hk : k < 4) : i ≠ k → nearP (gvC.places.2 i) (gvC.places.2 k) gvC.reach → (i = 0 ∧ k = 1) ∨ (i = 1 ∧ k = 0) ∨ (i = 1 ∧ k = 2) ∨ (i = 2 ∧ k = 1) := by
  intro h1 h2
  obtain rfl | rfl | rfl | rfl : i = 0 ∨ i = 1 ∨ i = 2 ∨ i = 3 := by omega
  all_goals
    obtain rfl | rfl | rfl | rfl : k = 0 ∨ k = 1 ∨ k = 2 ∨ k = 3 := by omega
    all_goals first
      | omega
      | (exfalso; unfold nearP at h2; revert h2; decide)
theorem near01 : nearP (gvC.places.2 1) (gvC.places.2 0) gvC.reach := by unfold nearP; decide
theorem near12 : nearP (gvC.places.2 2) (gvC.places.2 1) gvC.reach := by unfold nearP; decide
theorem giftC {N : Nat → Int} {i k : Nat} {t : Int} (hi : i < 4) (hk : k < 4) (h : giftP gvC N i k t) : i = 3 ∧ k = 2 := by
  have h1 := h.2.1
  have : i = 3 := by
    apply Classical.byContradiction
    intro h2
    rw [plC0 (by omega)] at h1
    exact absurd h1 (by decide)
  subst this
  refine ⟨rfl,?_⟩
  have h3 := h.1
  obtain rfl | rfl | rfl | rfl : k = 0 ∨ k = 1 ∨ k = 2 ∨ k = 3 := by omega
  · exact absurd h3 (by decide)
  · exact absurd h3 (by decide)
  · rfl
  · exact absurd h3 (by decide)
theorem flyC {N : Nat → Int} {i : Nat} (hi : i < 3) (t : Int) : flyF gvC N i t = max (max (t + 50) 0) (N i) := by unfold flyF; rw [plC0 hi]; rfl
theorem exC {N : Nat → Int} (h0 : N 0 ≤ 1000) (h3 : N 3 ≤ 1200) (h2 : max (max 1050 (N 1) + 50) (N 2) ≤ 1200) : First gvC N (exD N) := by
  have d0 : exD N 0 = 1000 := rfl
  have d1 : exD N 1 = max 1050 (N 1) := rfl
  have d2 : exD N 2 = max (max 1050 (N 1) + 50) (N 2) := rfl
  have d3 : exD N 3 = 1200 := rfl
  refine ⟨⟨lt4e (by omega) (by omega) (by omega) (by omega),fun i hi hs _ => ?_,fun i k hi hk hik _ hn => ?_,fun i k hi hk _ hg => ?_⟩,fun M hM => ?_⟩
  · obtain rfl := (susC hi).1 hs
    rw [d0]; decide
  · rcases nearC hi hk hik hn with ⟨rfl,rfl⟩ | ⟨rfl,rfl⟩ | ⟨rfl,rfl⟩ | ⟨rfl,rfl⟩ <;> rw [flyC (by omega)] <;> omega
  · obtain ⟨rfl,rfl⟩ := giftC hi hk hg
    rw [d3]; decide
  · have m0 : M 0 ≤ 1000 := hM.sus 0 (by decide) ((susC (by decide)).2 rfl) h0
    have m1 := hM.fly 1 0 (by decide) (by decide) (by decide) (by omega) near01
    rw [flyC (by omega)] at m1
    have m2 := hM.fly 2 1 (by decide) (by decide) (by decide) (by omega) near12
    rw [flyC (by omega)] at m2
    have m3 : M 3 ≤ 1200 := hM.gift 3 2 (by decide) (by decide) (by omega) ⟨by decide,by decide,by show M 2 ≤ 1200; omega,h3⟩
    exact lt4e (by omega) (by omega) (by omega) (by omega)
theorem exC' {N : Nat → Int} (h0 : N 0 > 1000) : First gvC N (fun _ => 100001) := by
  refine ⟨⟨fun i _ => Int.le_refl _,fun i hi hs hn => ?_,fun i k hi hk _ h _ => absurd h (Int.lt_irrefl _),fun i k hi hk h _ => absurd h (Int.lt_irrefl _)⟩,fun M hM i hi => hM.top i hi⟩
  obtain rfl := (susC hi).1 hs
  have : gvC.start = 1000 := rfl
  omega
theorem raisedC {N : Nat → Int} (h3 : N 3 ≤ 1200) : Raised gvC N N := by
  refine ⟨⟨fun i _ => Int.le_refl _,fun i hi hl hx => ?_⟩,fun M hM => hM.1⟩
  have h1 := hl.2
  have : i = 3 := by
    apply Classical.byContradiction
    intro h2
    have hi : i < 4 := hi
    rw [plC0 (by omega)] at h1
    exact absurd h1 (by decide)
  subst this
  have : (gvC.palms.2 3).planted = 1200 := rfl
  omega
theorem daysC {N : Nat → Int} (h0 : N 0 ≤ 1000) (h3 : N 3 ≤ 1200) (h2 : max (max 1050 (N 1) + 50) (N 2) ≤ 1200) : ∀ i,i < 4 → daysF gvC N i = exD N i := fun i hi => (daysF_eq ⟨N,raisedC h3,exC h0 h3 h2⟩ i hi).symm
theorem daysC' {N : Nat → Int} (h0 : N 0 > 1000) (h3 : N 3 ≤ 1200) : ∀ i,i < 4 → daysF gvC N i = 100001 := fun i hi => (daysF_eq ⟨N,raisedC h3,exC' h0⟩ i hi).symm
section
variable {f : Nat → Sg}
theorem sgsN : SgsOk gvC (0,f) := ⟨Nat.zero_le _,fun j h => absurd h (Nat.not_lt_zero _)⟩
theorem okN : okP gvC (0,f) 0 := fun i h => absurd h (Nat.not_lt_zero _)
theorem dyN {n : Nat} : ∀ i,i < 4 → dyF gvC (n,f) 0 i = exD (fun _ => 0) i := daysC (N := fun _ => 0) (by decide) (by decide) (by decide)
theorem okIN {i : Nat} : okI gvC (0,f) 1090 i := fun z h => absurd h (Nat.not_lt_zero _)
theorem illN {i : Nat} (h : dyF gvC (0,f) 0 i ≤ 1090) : illF gvC (0,f) 1090 i = 1 := by
  unfold illF
  rw [if_neg (show ¬ dyF gvC (0,f) (0,f).1 i > 1090 by show ¬ dyF gvC (0,f) 0 i > 1090; omega),@if_pos _ (Classical.propDecidable _) okIN]
theorem exX : ∃ X : Nat → Int,(∀ f : Nat → Sg,asE gvC (0,f) 1090 = 0 ∧ illD gvC (0,f) 1090 = .view 1 4 fun i _ => .int .u8 (X i)) ∧ (∀ f' : Nat → Int,f' 0 = 1 → f' 1 = 1 → f' 2 = 0 → f' 3 = 0 → strEq 4 X 4 f' = true) ∧ (∀ i,i < 4 → 0 ≤ X i ∧ X i ≤ 255) := by
  let c : Nat → Sg := fun _ => ⟨0,0,0,⟨0,0⟩,0⟩
  have x0 : illF gvC (0,c) 1090 0 = 1 := illN (by rw [dyN 0 (by decide)]; decide)
  have x1 : illF gvC (0,c) 1090 1 = 1 := illN (by rw [dyN 1 (by decide)]; decide)
  have x2 : illF gvC (0,c) 1090 2 = 0 := ill_0.2 (by show dyF gvC (0,c) 0 2 > 1090; rw [dyN 2 (by decide)]; decide)
  have x3 : illF gvC (0,c) 1090 3 = 0 := ill_0.2 (by show dyF gvC (0,c) 0 3 > 1090; rw [dyN 3 (by decide)]; decide)
  refine ⟨illF gvC (0,c) 1090,fun f => ⟨asE_ok gvC_ok sgsN (by decide) okN,?_⟩,fun f' h0 h1 h2 h3 => @decide_eq_true _ (Classical.propDecidable _) ⟨rfl,lt4e (x0.trans h0.symm) (x1.trans h1.symm) (x2.trans h2.symm) (x3.trans h3.symm)⟩,lt4e ?_ ?_ ?_ ?_⟩
  · rw [il_ok gvC_ok sgsN (by decide) okN,ill_congr (l := (0,c)) (l' := (0,f)) rfl fun j h => absurd h (Nat.not_lt_zero _)]; rfl
  · rw [x0]; decide
  · rw [x1]; decide
  · rw [x2]; decide
  · rw [x3]; decide
theorem wild {sf : Nat → Int} (h : sf 0 = 4) : gvE ⟨gvC.palms,gvC.places,60,50,20,1000,(1,sf)⟩ = 90 := by
  refine gvE_no gvC_ok.pms fun k => ?_
  have h1 := (k.sus 0 (show 0 < 1 by decide)).2.1
  have h1 : (gvC.palms.2 (hitN gvC.palms (sf 0))).planted ≤ 1000 := h1
  rw [h,hitC4] at h1
  exact absurd h1 (by decide)
theorem young {pf : Nat → Pm} {q : Nat × (Nat → Pl)} {a b c d : Int} {s : Nat × (Nat → Int)} (h : ∀ i,i < 3 → pf i = gvC.palms.2 i) (h3 : (pf 3).mother = 3) (h4 : (pf 3).planted = 999) : gvE ⟨(4,pf),q,a,b,c,d,s⟩ = 70 := by
  refine gvE_pm fun k => ?_
  have k : PmsOk (4,pf) := k
  have e : hitN (4,pf) 3 = 2 := fstI_at (show 2 < 4 by decide) (by show (pf 2).id = 3; rw [h 2 (by decide)]; rfl) fun i hi => by
    show ¬ (pf i).id = 3
    rw [h i (by omega)]
    obtain rfl | rfl : i = 0 ∨ i = 1 := by omega
    · decide
    · decide
  rcases k.mo 3 (show 3 < 4 by decide) with h1 | ⟨_,h1⟩
  · have h1 : (pf 3).mother = -1 := h1
    omega
  · have h1 : (pf (hitN (4,pf) (pf 3).mother)).planted + 1000 ≤ (pf 3).planted := h1
    rw [h3,e,h4,h 2 (by decide)] at h1
    exact absurd h1 (by decide)
theorem manyE {n : Nat} (h : n = 31) : stE gvC (n,f) = 4 := by
  subst h
  have : sgsE gvC (31,f) = 4 := sgsE_many (gvE_ok gvC_ok) (show 31 > 30 by decide)
  unfold stE; rw [if_neg (by omega),this]
theorem noSign (h : (f 0).kind = 0) : stE gvC (1,f) = 91 := by
  have : sgsE gvC (1,f) = 91 := sgsE_no (gvE_ok gvC_ok) (show ¬ 1 > 30 by decide) fun k => by
    have := (k 0 (show 0 < 1 by decide)).2
    rcases this with h1 | h1
    · have := h1.1; have h : (f 0).kind = 0 := h; have : (f 0).kind = 1 ∨ (f 0).kind = 2 := h1.1; omega
    · have : (f 0).kind = 3 := h1.1; omega
  unfold stE; rw [if_neg (by omega),this]
theorem early : asE gvC (0,f) 999 = 2 := by
  unfold asE; rw [if_pos (sgsE_00 gvC_ok sgsN),if_neg (show ¬ (gvC.start ≤ 999 ∧ (999 : Int) ≤ 100000) by decide)]
theorem earlyD : illD gvC (0,f) 999 = .nils := if_neg (by rw [early]; decide)
theorem clash (h0 : f 0 = ⟨2,4,1200,⟨0,0⟩,0⟩) (h1 : f 1 = ⟨1,2,1300,⟨0,0⟩,0⟩) : asE gvC (2,f) 1040 = 92 ∧ gfD gvC (2,f) 1040 = .nils := by
  have hs : SgsOk gvC (2,f) := by
    refine ⟨(by decide : 2 ≤ 30),lt2e ?_ ?_⟩
    · show SgOk gvC (f 0)
      rw [h0]
      refine ⟨⟨by decide,by decide⟩,.inl ⟨.inr rfl,?_⟩⟩
      show hitN gvC.palms 4 < 4 ∧ (gvC.palms.2 (hitN gvC.palms 4)).planted ≤ 1200
      rw [hitC4]; exact ⟨by decide,by decide⟩
    · show SgOk gvC (f 1)
      rw [h1]
      refine ⟨⟨by decide,by decide⟩,.inl ⟨.inl rfl,?_⟩⟩
      show hitN gvC.palms 2 < 4 ∧ (gvC.palms.2 (hitN gvC.palms 2)).planted ≤ 1300
      rw [hitC2]; exact ⟨by decide,by decide⟩
  have hno : ¬ okP gvC (2,f) 2 := fun k => by
    have hH := dy_hist gvC_ok hs.2
    have k0 := k 0 (by decide)
    have k1 := k 1 (by decide)
    have hbd := dy_bd gvC_ok hs.2
    generalize dyF gvC (2,f) (2,f).1 = D at *
    have k0 : fitP gvC (f 0) D := k0
    have k1 : fitP gvC (f 1) D := k1
    rw [h0] at k0
    rw [h1] at k1
    unfold fitP at k0 k1
    rw [if_neg (by decide),if_pos rfl] at k0
    rw [if_pos rfl] at k1
    have k0 : D (hitN gvC.palms 4) ≤ 1200 := k0
    have k1 : D (hitN gvC.palms 2) > 1300 - 20 := k1
    rw [hitC4] at k0
    rw [hitC2] at k1
    obtain ⟨⟨a1,a2⟩,a3⟩ := (hH 3 (by decide)).2 (by omega)
    have n3 : D 3 ≠ gvC.start := fun e => by have := (susC (by decide)).1 (a2 e); omega
    obtain ⟨⟨k,hk,b1,b2,b3⟩,_⟩ := a3 n3
    have e2 : k = 2 ∧ D 2 ≤ 1200 := by
      rcases b3 with ⟨b3,b4⟩ | ⟨b3,b4,b5,b6⟩
      · rcases nearC (by decide) hk b1 b4 with h | h | h | h <;> omega
      · obtain ⟨_,rfl⟩ := giftC (N := fun _ => 0) (t := D k) (i := 3) (by decide) hk ⟨b3,b5,by rw [b4]; exact b6,by decide⟩
        exact ⟨rfl,by omega⟩
    obtain ⟨rfl,e2⟩ := e2
    obtain ⟨⟨c1,c2⟩,c3⟩ := (hH 2 (by decide)).2 (by omega)
    have n2 : D 2 ≠ gvC.start := fun e => by have := (susC (by decide)).1 (c2 e); omega
    obtain ⟨⟨k,hk,d1,d2,d3⟩,_⟩ := c3 n2
    rcases d3 with ⟨d3,d4⟩ | ⟨d3,d4,d5,d6⟩
    · have d3 : D k + 50 ≤ D 2 := d3
      rcases nearC (by decide) hk d1 d4 with h | h | h | h <;> first | omega | (obtain ⟨_,rfl⟩ := h; omega)
    · exact absurd d5 (by decide)
  exact ⟨as_no gvC_ok hs (by decide) hno,gf_no gvC_ok hs (by decide) hno⟩
theorem no5 : chE gvC (0,f) 5 = 6 ∧ chW gvC (0,f) 5 = .nils := by
  have h : ¬ hitN gvC.palms 5 < gvC.palms.1 := fun h => by
    rcases hit_spec gvC.palms 5 with h1 | h1
    · have h2 := h1.2
      generalize hitN gvC.palms 5 = z at *
      obtain rfl | rfl | rfl | rfl : z = 0 ∨ z = 1 ∨ z = 2 ∨ z = 3 := by have : z < 4 := h; omega
      all_goals exact absurd h2 (by decide)
    · omega
  have e : chE gvC (0,f) 5 = 6 := by unfold chE; rw [if_pos (sgsE_00 gvC_ok sgsN),if_neg h]
  exact ⟨e,if_neg (by rw [e]; decide)⟩
theorem lone {sf : Nat → Int} : chE ⟨gvC.palms,gvC.places,60,50,20,1000,(0,sf)⟩ (0,f) 1 = 6 ∧ chW ⟨gvC.palms,gvC.places,60,50,20,1000,(0,sf)⟩ (0,f) 1 = .nils := by
  obtain ⟨x,hx⟩ : ∃ x : Gv,x = ⟨gvC.palms,gvC.places,60,50,20,1000,(0,sf)⟩ := ⟨_,rfl⟩
  rw [← hx]
  have ok : GvOk x := by
    rw [hx]
    exact ⟨gvC_ok.pms,rfl,gvC_ok.reach,gvC_ok.hatch,gvC_ok.shows,gvC_ok.start,gvC_ok.pl,fun i h => absurd h (Nat.not_lt_zero _)⟩
  have hs : SgsOk x (0,f) := ⟨Nat.zero_le _,fun j h => absurd h (Nat.not_lt_zero _)⟩
  have hp : x.palms = gvC.palms := by rw [hx]
  have hn : ∀ id,¬ susP x id := fun id ⟨z,h,_⟩ => by rw [hx] at h; exact absurd h (Nat.not_lt_zero _)
  have hR : ∀ N : Nat → Int,First x N fun _ => 100001 := fun N => ⟨⟨fun i _ => Int.le_refl _,fun i hi h => absurd h (hn _),fun i k hi hk _ h _ => absurd h (Int.lt_irrefl _),fun i k hi hk h _ => absurd h (Int.lt_irrefl _)⟩,fun M hM i hi => hM.top i hi⟩
  have hd : dyF x (0,f) 0 0 = 100001 := by
    obtain ⟨N,h1,_⟩ := days_ok ok (n0 := lowF x f 0) fun i _ => by show (0 : Int) ≤ 100001; decide
    exact (daysF_eq (n0 := lowF x f 0) ⟨N,h1,hR N⟩ 0 (by rw [hp]; decide)).symm
  have e : chE x (0,f) 1 = 6 := by
    unfold chE
    rw [if_pos (sgsE_00 ok hs),hp,hitC1,if_pos (by decide),if_pos (sooE_0 fun i h => absurd h (Nat.not_lt_zero _)),if_pos hd]
  exact ⟨e,if_neg (by rw [e]; decide)⟩
theorem trap (h0 : f 0 = ⟨3,0,1100,⟨500,0⟩,99⟩) : stE gvC (1,f) = 92 ∧ stA gvC (1,f) = 0 := by
  have hs : SgsOk gvC (1,f) := by
    refine ⟨(by decide : 1 ≤ 30),lt1e ?_⟩
    show SgOk gvC (f 0)
    rw [h0]
    exact ⟨⟨by decide,by decide⟩,.inr ⟨rfl,⟨⟨by decide,by decide⟩,by decide,by decide⟩,by decide,by decide⟩⟩
  have hno : ¬ okP gvC (1,f) 1 := fun k => by
    have k0 : fitP gvC (f 0) (dyF gvC (1,f) 1) := k 0 (by decide)
    rw [h0] at k0
    unfold fitP at k0
    rw [if_neg (by decide),if_neg (by decide)] at k0
    obtain ⟨i,hi,_,h⟩ := k0
    obtain rfl | rfl | rfl | rfl : i = 0 ∨ i = 1 ∨ i = 2 ∨ i = 3 := by have : i < 4 := hi; omega
    all_goals
      unfold nearP at h
      revert h
      decide
  obtain ⟨q1,q2,_⟩ := st_no gvC_ok hs hno
  exact ⟨q1,by rw [q2,badI_at (k := 0) (show 0 < 1 by decide) hno fun i h => absurd h (Nat.not_lt_zero _)]; rfl⟩
end
def PLs : Val := .cons (pmV 1 (-1) 0) (.cons (pmV 2 (-1) 0) (.cons (pmV 3 (-1) 0) (.cons (pmV 4 3 1200) .nil)))
def QLs : Val := .cons (plV 0 0) (.cons (plV 30 40) (.cons (plV 90 40) (.cons (plV 500 500) .nil)))
theorem c5 {p : Nat → Prop} (h0 : p 0) (h1 : p 1) (h2 : p 2) (h3 : p 3) (h4 : ∀ i,p (i + 4)) : ∀ i,p i
  | 0 => h0
  | 1 => h1
  | 2 => h2
  | 3 => h3
  | i + 4 => h4 i
theorem z4 (i : Nat) : ¬ i + 4 = 0 ∧ ¬ i + 4 = 1 ∧ ¬ i + 4 = 2 ∧ ¬ i + 4 = 3 := by omega
theorem pz (i : Nat) : gvC.palms.2 (i + 4) = ⟨0,0,0,⟨0,by decide⟩,0⟩ := by
  obtain ⟨a,b,c,d⟩ := z4 i
  simp only [gvC,if_neg a,if_neg b,if_neg c,if_neg d]
theorem qz (i : Nat) : gvC.places.2 (i + 4) = ⟨0,0⟩ := by
  obtain ⟨a,b,c,d⟩ := z4 i
  simp only [gvC,if_neg a,if_neg b,if_neg c,if_neg d]
theorem lay :
    (∀ i,Val.toInt (vget (vget PLs i) 0) = (gvC.palms.2 i).id) ∧ (∀ i,Val.toInt (vget (vget PLs i) 1) = (gvC.palms.2 i).mother) ∧ (∀ i,Val.toInt (vget (vget PLs i) 2) = (gvC.palms.2 i).planted) ∧
    (∀ i,Val.toInt (vget (vget PLs i) 3) = (gvC.palms.2 i).sex.1) ∧ (∀ i,Val.toInt (vget (vget PLs i) 4) = (gvC.palms.2 i).sort) ∧ (∀ i,Val.toInt (vget (vget QLs i) 0) = (gvC.places.2 i).x) ∧ (∀ i,Val.toInt (vget (vget QLs i) 1) = (gvC.places.2 i).y) := by
  refine ⟨c5 rfl rfl rfl rfl fun i => ?_,c5 rfl rfl rfl rfl fun i => ?_,c5 rfl rfl rfl rfl fun i => ?_,c5 rfl rfl rfl rfl fun i => ?_,c5 rfl rfl rfl rfl fun i => ?_,c5 rfl rfl rfl rfl fun i => ?_,c5 rfl rfl rfl rfl fun i => ?_⟩
  all_goals first
    | (rw [pz]; rfl)
    | (rw [qz]; rfl)
theorem lay1 : ∀ i,Val.toInt (vget (vget (.cons (.cons (.int .i64 1) .nil) .nil) i) 0) = gvC.sus.2 i
  | 0 => rfl
  | i + 1 => by
    show (0 : Int) = if i + 1 = 0 then 1 else 0
    rw [if_neg (by omega)]
def yp (i : Nat) : Int := if i = 3 then 999 else (gvC.palms.2 i).planted
theorem lay2 : ∀ i,Val.toInt (if i = 3 then .int .i64 999 else vget (vget PLs i) 2) = yp i := fun i => by
  unfold yp
  by_cases h : i = 3
  · rw [if_pos h,if_pos h]; rfl
  · rw [if_neg h,if_neg h]; exact lay.2.2.1 i
def wf (i : Nat) : Int := if i = 0 then 4 else 0
theorem lay3 : ∀ i,Val.toInt (vget (vget (.cons (.cons (.int .i64 4) .nil) .nil) i) 0) = wf i
  | 0 => rfl
  | i + 1 => by
    show (0 : Int) = if i + 1 = 0 then 4 else 0
    rw [if_neg (by omega)]
theorem eyoung : gvE ⟨(4,fun i => ⟨(gvC.palms.2 i).id,(gvC.palms.2 i).mother,yp i,(gvC.palms.2 i).sex,(gvC.palms.2 i).sort⟩),(4,fun i => gvC.places.2 i),60,50,20,1000,(1,fun i => gvC.sus.2 i)⟩ = 70 :=
  young (fun i hi => by
    have : yp i = (gvC.palms.2 i).planted := if_neg (by omega)
    rw [this]) rfl rfl
theorem ewild : gvE ⟨(4,fun i => gvC.palms.2 i),(4,fun i => gvC.places.2 i),60,50,20,1000,(1,fun i => wf i)⟩ = 90 := wild rfl
theorem elone {f : Nat → Sg} : chE ⟨(4,fun i => gvC.palms.2 i),(4,fun i => gvC.places.2 i),60,50,20,1000,(0,fun _ => 0)⟩ (0,f) 1 = 6 := lone.1
theorem elone' {f : Nat → Sg} : chW ⟨(4,fun i => gvC.palms.2 i),(4,fun i => gvC.places.2 i),60,50,20,1000,(0,fun _ => 0)⟩ (0,f) 1 = .nils := lone.2
theorem many31 {f : Nat → Sg} : stE gvC (31,f) = 4 := manyE rfl
end Ey
end Go.Proofs.Ytpknbojgkkmonaa
