/- Groves: what is asked of the chapter's examples, plainly. No condition. -/
import Derived.Test.YtpknbojgkkmonaaWEx
set_option linter.unusedSimpArgs false
set_option linter.unusedVariables false
namespace Go.Proofs.Ytpknbojgkkmonaa
open Go Go.RowKit
theorem n4 : gvC.palms.1 = 4 := rfl
section
variable {f : Nat → Sg}
theorem sgsC0 : SgsOk gvC (0,f) := ⟨Nat.zero_le _,fun j h => absurd h (Nat.not_lt_zero _)⟩
theorem cleanC {s : Sg} (h : s = ⟨1,2,1100,⟨0,0⟩,0⟩) : SgOk gvC s := by
  subst h
  refine ⟨⟨by decide,by decide⟩,.inl ⟨.inl rfl,?_⟩⟩
  show hitN gvC.palms 2 < 4 ∧ (gvC.palms.2 (hitN gvC.palms 2)).planted ≤ 1100
  rw [hitC2]; exact ⟨by decide,by decide⟩
theorem illC {s : Sg} (h : s = ⟨2,3,1110,⟨0,0⟩,0⟩) : SgOk gvC s := by
  subst h
  refine ⟨⟨by decide,by decide⟩,.inl ⟨.inr rfl,?_⟩⟩
  show hitN gvC.palms 3 < 4 ∧ (gvC.palms.2 (hitN gvC.palms 3)).planted ≤ 1110
  rw [hitC3]; exact ⟨by decide,by decide⟩
theorem low0 (g : Gv) : lowF g f 0 = fun _ => 0 := rfl
theorem lowC (h : f 0 = ⟨1,2,1100,⟨0,0⟩,0⟩) : lowF gvC f 1 = fun i => if i = 1 then 1081 else 0 := by
  funext i
  simp only [lowF,h,hitC2,true_and,eq_comm (a := 1) (b := i)]
  rfl
theorem lowI {j : Nat} (h : (f j).kind ≠ 1) (g : Gv) : lowF g f (j + 1) = lowF g f j := by
  funext i
  simp only [lowF,h,false_and,if_false]
theorem dy0 {n : Nat} : ∀ i,i < 4 → dyF gvC (n,f) 0 i = exD (fun _ => 0) i := daysC (N := fun _ => 0) (by decide) (by decide) (by decide)
theorem dyC1 {n : Nat} (h : f 0 = ⟨1,2,1100,⟨0,0⟩,0⟩) : ∀ i,i < 4 → dyF gvC (n,f) 1 i = exD (fun i => if i = 1 then 1081 else 0) i := by
  unfold dyF; rw [lowC h]; exact daysC (by decide) (by decide) (by decide)
theorem dyC2 {n : Nat} (h : f 0 = ⟨1,2,1100,⟨0,0⟩,0⟩) (h1 : f 1 = ⟨2,3,1110,⟨0,0⟩,0⟩) : ∀ i,i < 4 → dyF gvC (n,f) 2 i = exD (fun i => if i = 1 then 1081 else 0) i := by
  unfold dyF; rw [lowI (show (f 1).kind ≠ 1 by rw [h1]; decide),lowC h]; exact daysC (by decide) (by decide) (by decide)
theorem dyI1 {n : Nat} (h : f 0 = ⟨2,3,1110,⟨0,0⟩,0⟩) : ∀ i,i < 4 → dyF gvC (n,f) 1 i = exD (fun _ => 0) i := by
  unfold dyF; rw [lowI (show (f 0).kind ≠ 1 by rw [h]; decide)]; exact daysC (N := fun _ => 0) (by decide) (by decide) (by decide)
theorem ok0 : okP gvC (0,f) 0 := fun i h => absurd h (Nat.not_lt_zero _)
theorem fitC {s : Sg} {d : Nat → Int} (h : s = ⟨1,2,1100,⟨0,0⟩,0⟩) : fitP gvC s d ↔ d 1 > 1080 := by
  subst h; unfold fitP; rw [if_pos rfl]
  show d (hitN gvC.palms 2) > 1100 - 20 ↔ _
  rw [hitC2]; exact Iff.rfl
theorem fitI {s : Sg} {d : Nat → Int} (h : s = ⟨2,3,1110,⟨0,0⟩,0⟩) : fitP gvC s d ↔ d 2 ≤ 1110 := by
  subst h; unfold fitP; rw [if_neg (by decide),if_pos rfl]
  show d (hitN gvC.palms 3) ≤ 1110 ↔ _
  rw [hitC3]
theorem okC1 {n : Nat} (h : f 0 = ⟨1,2,1100,⟨0,0⟩,0⟩) : okP gvC (n,f) 1 := lt1e (by rw [fitC h,dyC1 h 1 (by decide)]; decide)
theorem okI1 {n : Nat} (h : f 0 = ⟨2,3,1110,⟨0,0⟩,0⟩) : okP gvC (n,f) 1 := lt1e (by rw [fitI h,dyI1 h 2 (by decide)]; decide)
theorem okC2 {n : Nat} (h : f 0 = ⟨1,2,1100,⟨0,0⟩,0⟩) (h1 : f 1 = ⟨2,3,1110,⟨0,0⟩,0⟩) : ¬ okP gvC (n,f) 2 := fun k => by
  have := k 1 (show 1 < 2 by decide)
  rw [fitI h1,dyC2 h h1 2 (by decide)] at this
  exact absurd this (by decide)
theorem fA_E : stE gvC (0,f) = 0 := by unfold stE; rw [if_pos (sgsE_00 gvC_ok sgsC0)]; exact sooE_0 ok0
theorem fA_D : stD gvC (0,f) = .view 1 4 fun i _ => .int .i64 (dyF gvC (0,f) 0 i) := by
  unfold stD; rw [if_pos (sgsE_00 gvC_ok sgsC0)]
  exact if_pos (decP_t ok0)
theorem fA_S {f' : Nat → Int} (h0 : f' 0 = 1000) (h1 : f' 1 = 1050) (h2 : f' 2 = 1100) (h3 : f' 3 = 1200) : sameB (4,fun i => dyF gvC (0,f) 0 i) (4,f') = true :=
  decP_t ⟨rfl,lt4e ((dy0 0 (by decide)).trans h0.symm) ((dy0 1 (by decide)).trans h1.symm) ((dy0 2 (by decide)).trans h2.symm) ((dy0 3 (by decide)).trans h3.symm)⟩
theorem sgsC1 (h : f 0 = ⟨1,2,1100,⟨0,0⟩,0⟩) : SgsOk gvC (1,f) := ⟨(by decide : 1 ≤ 30),lt1e (cleanC h)⟩
theorem fB_E (h : f 0 = ⟨1,2,1100,⟨0,0⟩,0⟩) : stE gvC (1,f) = 0 := by unfold stE; rw [if_pos (sgsE_00 gvC_ok (sgsC1 h))]; exact sooE_0 (okC1 h)
theorem fB_D (h : f 0 = ⟨1,2,1100,⟨0,0⟩,0⟩) : stD gvC (1,f) = .view 1 4 fun i _ => .int .i64 (dyF gvC (1,f) 1 i) := by
  unfold stD; rw [if_pos (sgsE_00 gvC_ok (sgsC1 h))]
  exact if_pos (decP_t (okC1 h))
theorem fB_S (h : f 0 = ⟨1,2,1100,⟨0,0⟩,0⟩) {f' : Nat → Int} (h0 : f' 0 = 1000) (h1 : f' 1 = 1081) (h2 : f' 2 = 1131) (h3 : f' 3 = 1200) : sameB (4,fun i => dyF gvC (1,f) 1 i) (4,f') = true :=
  decP_t ⟨rfl,lt4e ((dyC1 h 0 (by decide)).trans h0.symm) ((dyC1 h 1 (by decide)).trans h1.symm) ((dyC1 h 2 (by decide)).trans h2.symm) ((dyC1 h 3 (by decide)).trans h3.symm)⟩
theorem sgsC2 (h : f 0 = ⟨1,2,1100,⟨0,0⟩,0⟩) (h1 : f 1 = ⟨2,3,1110,⟨0,0⟩,0⟩) : SgsOk gvC (2,f) := ⟨(by decide : 2 ≤ 30),lt2e (cleanC h) (illC h1)⟩
theorem fF_E (h : f 0 = ⟨1,2,1100,⟨0,0⟩,0⟩) (h1 : f 1 = ⟨2,3,1110,⟨0,0⟩,0⟩) : stE gvC (2,f) = 92 := by unfold stE; rw [if_pos (sgsE_00 gvC_ok (sgsC2 h h1))]; exact sooE_92 (okC2 h h1)
theorem fF_A (h : f 0 = ⟨1,2,1100,⟨0,0⟩,0⟩) (h1 : f 1 = ⟨2,3,1110,⟨0,0⟩,0⟩) : stA gvC (2,f) = 1 := by
  unfold stA; rw [if_pos (sgsE_00 gvC_ok (sgsC2 h h1)),sooA_92 (okC2 h h1)]
  rw [badI_at (k := 1) (show 1 < 2 by decide) (okC2 h h1) (lt1e (okC1 h))]; rfl
theorem sgsI (h : f 0 = ⟨2,3,1110,⟨0,0⟩,0⟩) : SgsOk gvC (1,f) := ⟨(by decide : 1 ≤ 30),lt1e (illC h)⟩
theorem asE_ok {g : Gv} {l : Sgs} {day : Int} (hg : GvOk g) (hl : SgsOk g l) (hd : g.start ≤ day ∧ day ≤ 100000) (hok : okP g l l.1) : asE g l day = 0 := by
  unfold asE; rw [if_pos (sgsE_00 hg hl),if_pos hd]; exact sooE_0 hok
theorem fG_E (h : f 0 = ⟨2,3,1110,⟨0,0⟩,0⟩) : asE gvC (1,f) 1090 = 0 := asE_ok gvC_ok (sgsI h) (by decide) (okI1 h)
theorem fG_D (h : f 0 = ⟨2,3,1110,⟨0,0⟩,0⟩) : illD gvC (1,f) 1090 = .view 1 4 fun i _ => .int .u8 (illF gvC (1,f) 1090 i) := if_pos (fG_E h)
theorem bmpC (h : f 0 = ⟨2,3,1110,⟨0,0⟩,0⟩) (i : Nat) : bmpF gvC (1,f) 1090 i = fun z => if z = i then 1091 else 0 := by
  funext z
  show (if z = i then max (lowF gvC f 1 z) (1090 + 1) else lowF gvC f 1 z) = _
  rw [lowI (show (f 0).kind ≠ 1 by rw [h]; decide)]; rfl
theorem okIC0 (h : f 0 = ⟨2,3,1110,⟨0,0⟩,0⟩) : ¬ okI gvC (1,f) 1090 0 := fun k => by
  have := k 0 (show 0 < 1 by decide)
  rw [fitI h,bmpC h,daysC' (by decide) (by decide) 2 (by decide)] at this
  exact absurd this (by decide)
theorem okIC1 (h : f 0 = ⟨2,3,1110,⟨0,0⟩,0⟩) : ¬ okI gvC (1,f) 1090 1 := fun k => by
  have := k 0 (show 0 < 1 by decide)
  rw [fitI h,bmpC h,daysC (by decide) (by decide) (by decide) 2 (by decide)] at this
  exact absurd this (by decide)
theorem illC0 (h : f 0 = ⟨2,3,1110,⟨0,0⟩,0⟩) : illF gvC (1,f) 1090 0 = 2 := (ill_2 (by rw [dyI1 h 0 (by decide)]; decide)).2 (okIC0 h)
theorem illC1 (h : f 0 = ⟨2,3,1110,⟨0,0⟩,0⟩) : illF gvC (1,f) 1090 1 = 2 := (ill_2 (by rw [dyI1 h 1 (by decide)]; decide)).2 (okIC1 h)
theorem illC2 (h : f 0 = ⟨2,3,1110,⟨0,0⟩,0⟩) : illF gvC (1,f) 1090 2 = 0 := ill_0.2 (by rw [dyI1 h 2 (by decide)]; decide)
theorem illC3 (h : f 0 = ⟨2,3,1110,⟨0,0⟩,0⟩) : illF gvC (1,f) 1090 3 = 0 := ill_0.2 (by rw [dyI1 h 3 (by decide)]; decide)
theorem fG_S (h : f 0 = ⟨2,3,1110,⟨0,0⟩,0⟩) {f' : Nat → Int} (h0 : f' 0 = 2) (h1 : f' 1 = 2) (h2 : f' 2 = 0) (h3 : f' 3 = 0) : strEq 4 (fun i => illF gvC (1,f) 1090 i) 4 f' = true :=
  @decide_eq_true _ (Classical.propDecidable _) ⟨rfl,lt4e ((illC0 h).trans h0.symm) ((illC1 h).trans h1.symm) ((illC2 h).trans h2.symm) ((illC3 h).trans h3.symm)⟩
theorem dayOk0 : DayOk gvC (dyF gvC (0,f) 0) := by
  obtain ⟨N,_,hF⟩ := days_ok gvC_ok (n0 := lowF gvC f 0) fun i _ => by show (0 : Int) ≤ 100001; decide
  exact hF.dayOk gvC_ok
theorem dy00 : dyF gvC (0,f) 0 0 = 1000 := dy0 0 (by decide)
theorem dy01 : dyF gvC (0,f) 0 1 = 1050 := dy0 1 (by decide)
theorem dy02 : dyF gvC (0,f) 0 2 = 1100 := dy0 2 (by decide)
theorem dy03 : dyF gvC (0,f) 0 3 = 1200 := dy0 3 (by decide)
theorem fromC {D : Nat → Int} {i k : Nat} (hi : i < 4) (hk : k < 4) (h : fromP gvC i (D i) k (D k)) : ((i = 0 ∧ k = 1) ∨ (i = 1 ∧ k = 0) ∨ (i = 1 ∧ k = 2) ∨ (i = 2 ∧ k = 1)) ∧ D k + 50 ≤ D i ∨ (i = 3 ∧ k = 2) := by
  rcases h.2.2 with ⟨h1,h2⟩ | ⟨h1,h2,h3,h4⟩
  · exact .inl ⟨nearC hi hk h.1 h2,h1⟩
  · refine .inr (giftC (N := fun _ => 0) (t := D k) hi hk ⟨h1,h3,by rw [h2]; exact h4,?_⟩)
    have := (gvC_ok.pms.pl i hi).1; omega
theorem chC0 : chI gvC (dyF gvC (0,f) 0) 0 = [0] := chI_start (by decide) dy00
theorem chC1 : chI gvC (dyF gvC (0,f) 0) 1 = [0,1] := by
  have hne : dyF gvC (0,f) 0 1 ≠ gvC.start := by rw [dy01]; decide
  have hlt : dyF gvC (0,f) 0 1 < 100001 := by rw [dy01]; decide
  obtain ⟨_,h1,h2,_⟩ := dayOk0.best (by decide) hne hlt
  have hp : preI gvC (dyF gvC (0,f) 0) 1 = 0 := by
    generalize preI gvC (dyF gvC (0,f) 0) 1 = k at *
    rcases fromC (by decide) h1 h2 with ⟨⟨h,_⟩ | ⟨_,h⟩ | ⟨_,h⟩ | ⟨h,_⟩,h3⟩ | ⟨h,_⟩
    · cases h
    · exact h
    · subst h; rw [dy01,dy02] at h3; omega
    · cases h
    · cases h
  rw [chI_step gvC_ok dayOk0 (by decide) hne hlt,hp,chC0]; rfl
theorem chC2 : chI gvC (dyF gvC (0,f) 0) 2 = [0,1,2] := by
  have hne : dyF gvC (0,f) 0 2 ≠ gvC.start := by rw [dy02]; decide
  have hlt : dyF gvC (0,f) 0 2 < 100001 := by rw [dy02]; decide
  obtain ⟨_,h1,h2,_⟩ := dayOk0.best (by decide) hne hlt
  have hp : preI gvC (dyF gvC (0,f) 0) 2 = 1 := by
    generalize preI gvC (dyF gvC (0,f) 0) 2 = k at *
    rcases fromC (by decide) h1 h2 with ⟨⟨h,_⟩ | ⟨h,_⟩ | ⟨h,_⟩ | ⟨_,h⟩,h3⟩ | ⟨h,_⟩
    · cases h
    · cases h
    · cases h
    · exact h
    · cases h
  rw [chI_step gvC_ok dayOk0 (by decide) hne hlt,hp,chC1]; rfl
theorem chC3 : chI gvC (dyF gvC (0,f) 0) 3 = [0,1,2,3] := by
  have hne : dyF gvC (0,f) 0 3 ≠ gvC.start := by rw [dy03]; decide
  have hlt : dyF gvC (0,f) 0 3 < 100001 := by rw [dy03]; decide
  obtain ⟨_,h1,h2,_⟩ := dayOk0.best (by decide) hne hlt
  have hp : preI gvC (dyF gvC (0,f) 0) 3 = 2 := by
    generalize preI gvC (dyF gvC (0,f) 0) 3 = k at *
    rcases fromC (by decide) h1 h2 with ⟨⟨h,_⟩ | ⟨h,_⟩ | ⟨h,_⟩ | ⟨h,_⟩,h3⟩ | ⟨_,h⟩
    · cases h
    · cases h
    · cases h
    · cases h
    · exact h
  rw [chI_step gvC_ok dayOk0 (by decide) hne hlt,hp,chC2]; rfl
theorem fC_E : chE gvC (0,f) 4 = 0 := by
  unfold chE
  rw [if_pos (sgsE_00 gvC_ok sgsC0),if_pos (by rw [hitC4]; decide),if_pos (sooE_0 ok0),if_neg (by rw [hitC4]; show ¬ dyF gvC (0,f) 0 3 = _; rw [dy03]; decide)]
theorem fC_D : chW gvC (0,f) 4 = .view 1 4 fun k _ => .int .i64 (gvC.palms.2 ([0,1,2,3].getD k 0)).id := by
  unfold chW
  rw [if_pos fC_E,hitC4]
  show chV gvC (dyF gvC (0,f) 0) 3 = _
  unfold chV; rw [chC3]; rfl
theorem fC_S {f' : Nat → Int} (h0 : f' 0 = 1) (h1 : f' 1 = 2) (h2 : f' 2 = 3) (h3 : f' 3 = 4) : sameB (4,fun k => (gvC.palms.2 ([0,1,2,3].getD k 0)).id) (4,f') = true :=
  decP_t ⟨rfl,lt4e h0.symm h1.symm h2.symm h3.symm⟩
theorem fD_E : asE gvC (0,f) 1040 = 0 := asE_ok gvC_ok sgsC0 (by decide) ok0
theorem gfC : gfF gvC (0,f) 1040 4 = (2,fun k => if k < 1 then (if k < 0 then 0 else 2) else 3) := by
  have g0 : ¬ giftOk gvC (0,f) 1040 0 := fun h => by have := h.1; rw [show dyF gvC (0,f) (0,f).1 0 = 1000 from dy00] at this; omega
  have g1 : giftOk gvC (0,f) 1040 1 := ⟨by rw [show dyF gvC (0,f) (0,f).1 1 = 1050 from dy01]; decide,by decide⟩
  have g2 : giftOk gvC (0,f) 1040 2 := ⟨by rw [show dyF gvC (0,f) (0,f).1 2 = 1100 from dy02]; decide,by decide⟩
  have g3 : ¬ giftOk gvC (0,f) 1040 3 := fun h => absurd h.2 (by decide)
  unfold gfF
  rw [sel_f g3,sel_t g2,sel_t g1,sel_f g0]; rfl
theorem fD_D : gfD gvC (0,f) 1040 = .view 1 2 fun k _ => .int .i64 (if k < 1 then (if k < 0 then 0 else 2) else 3) := by
  unfold gfD; rw [if_pos fD_E,show gvC.palms.1 = 4 from rfl,gfC]
theorem fD_S {f' : Nat → Int} (h0 : f' 0 = 2) (h1 : f' 1 = 3) : sameB (2,fun k => if k < 1 then (if k < 0 then (0 : Int) else 2) else 3) (2,f') = true :=
  decP_t ⟨rfl,lt2e h0.symm h1.symm⟩
theorem fF_D (h : f 0 = ⟨1,2,1100,⟨0,0⟩,0⟩) (h1 : f 1 = ⟨2,3,1110,⟨0,0⟩,0⟩) : stD gvC (2,f) = .nils := by
  unfold stD; rw [if_pos (sgsE_00 gvC_ok (sgsC2 h h1))]
  exact if_neg (by rw [show okB gvC (2,f) = false from decP_f (okC2 h h1)]; decide)
theorem ill_congr {g : Gv} {l l' : Sgs} {day : Int} (hn : l'.1 = l.1) (h : ∀ j,j < l.1 → l'.2 j = l.2 j) : illF g l' day = illF g l day := by
  funext i
  have e1 : lowF g l'.2 l'.1 = lowF g l.2 l.1 := by rw [hn]; exact low_congr _ h
  have e2 : bmpF g l' day i = bmpF g l day i := by unfold bmpF; rw [e1]
  have e3 : okI g l' day i ↔ okI g l day i := by
    unfold okI; rw [e2,hn]
    exact ⟨fun k z hz => by rw [← h z hz]; exact k z hz,fun k z hz => by rw [h z hz]; exact k z hz⟩
  have e4 : dyF g l' l'.1 = dyF g l l.1 := by unfold dyF; rw [e1]
  unfold illF
  rw [e4]
  by_cases c2 : okI g l day i
  · rw [@if_pos _ (Classical.propDecidable _) c2,@if_pos _ (Classical.propDecidable _) (e3.2 c2)]
  · rw [@if_neg _ (Classical.propDecidable _) c2,@if_neg _ (Classical.propDecidable _) fun h => c2 (e3.1 h)]
theorem exFacts : ∃ A B X : Nat → Int,(∀ f : Nat → Sg,stD gvC (0,f) = .view 1 4 fun i _ => .int .i64 (A i)) ∧
    (∀ f : Nat → Sg,f 0 = ⟨1,2,1100,⟨0,0⟩,0⟩ → stD gvC (1,f) = .view 1 4 fun i _ => .int .i64 (B i)) ∧
    (∀ f : Nat → Sg,f 0 = ⟨2,3,1110,⟨0,0⟩,0⟩ → illD gvC (1,f) 1090 = .view 1 4 fun i _ => .int .u8 (X i)) ∧
    (∀ f' : Nat → Int,f' 0 = 1000 → f' 1 = 1050 → f' 2 = 1100 → f' 3 = 1200 → sameB (4,A) (4,f') = true) ∧
    (∀ f' : Nat → Int,f' 0 = 1000 → f' 1 = 1081 → f' 2 = 1131 → f' 3 = 1200 → sameB (4,B) (4,f') = true) ∧
    (∀ f' : Nat → Int,f' 0 = 2 → f' 1 = 2 → f' 2 = 0 → f' 3 = 0 → strEq 4 X 4 f' = true) ∧ (∀ i,i < 4 → 0 ≤ X i ∧ X i ≤ 255) := by
  let c : Nat → Sg := fun _ => ⟨1,2,1100,⟨0,0⟩,0⟩
  let d : Nat → Sg := fun _ => ⟨2,3,1110,⟨0,0⟩,0⟩
  refine ⟨dyF gvC (0,c) 0,dyF gvC (1,c) 1,illF gvC (1,d) 1090,fun f => fA_D,fun f h => ?_,fun f h => ?_,fun f' h0 h1 h2 h3 => fA_S h0 h1 h2 h3,fun f' h0 h1 h2 h3 => fB_S rfl h0 h1 h2 h3,fun f' h0 h1 h2 h3 => fG_S rfl h0 h1 h2 h3,lt4e ?_ ?_ ?_ ?_⟩
  · rw [fB_D h,dy_congr (l := (1,f)) (l' := (1,c)) (lt1e h)]
  · rw [fG_D h,ill_congr (l := (1,d)) (l' := (1,f)) rfl (lt1e h)]
  · rw [illC0 rfl]; decide
  · rw [illC1 rfl]; decide
  · rw [illC2 rfl]; decide
  · rw [illC3 rfl]; decide
end
end Go.Proofs.Ytpknbojgkkmonaa
