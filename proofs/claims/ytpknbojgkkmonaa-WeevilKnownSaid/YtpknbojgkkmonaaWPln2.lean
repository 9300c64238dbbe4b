/- Groves: one sign more, fewer signs, plainly. No condition but bounds. -/
import Derived.Test.YtpknbojgkkmonaaWSem
set_option linter.unusedSimpArgs false
set_option linter.unusedVariables false
namespace Go.Proofs.Ytpknbojgkkmonaa
open Go Go.RowKit
section
variable {g : Gv} {H : Nat → Int} {l l' : Sgs} {m : Nat} {day : Int} {i : Nat}
theorem low_congr {f f' : Nat → Sg} : ∀ m,(∀ j,j < m → f j = f' j) → lowF g f m = lowF g f' m := by
  intro m
  induction m with
  | zero => intro _; rfl
  | succ m ih =>
    intro h
    have h1 := ih fun j hj => h j (by omega)
    funext i
    simp only [lowF,h1,h m (by omega)]
theorem dy_congr (h : ∀ j,j < m → l.2 j = l'.2 j) : dyF g l m = dyF g l' m := by unfold dyF; rw [low_congr m h]
theorem ok_congr (h : ∀ j,j < m → l.2 j = l'.2 j) : okP g l m ↔ okP g l' m := by
  unfold okP
  rw [dy_congr h]
  exact ⟨fun k j hj => by rw [← h j hj]; exact k j hj,fun k j hj => by rw [h j hj]; exact k j hj⟩
theorem sooE_0 (h : okP g l l.1) : sooE g l = 0 := if_pos (decP_t h)
theorem sooE_92 (h : ¬ okP g l l.1) : sooE g l = 92 := by unfold sooE; rw [show okB g l = false from decP_f h]; rfl
theorem sooA_0 (h : okP g l l.1) : sooA g l = 0 := if_pos (decP_t h)
theorem sooA_92 (h : ¬ okP g l l.1) : sooA g l = badI g l := by unfold sooA; rw [show okB g l = false from decP_f h]; rfl
theorem sgsE_00 (hg : GvOk g) (hl : SgsOk g l) : sgsE g l = 0 := sgsE_ok (gvE_ok hg) (by have := hl.1; omega) hl.2
theorem sure_ill (hg : GvOk g) (hl : ∀ j,j < l.1 → SgOk g (l.2 j)) (hl' : ∀ j,j < l.1 + 1 → SgOk g (l'.2 j)) (hs : ∀ j,j < l.1 → l'.2 j = l.2 j) (hk : (l'.2 l.1).kind = 2) (hp : hitN g.palms (l'.2 l.1).palm = i) (hi : i < g.palms.1) (hd : (l'.2 l.1).day = day)
    (hok : okP g l l.1) : okP g l' (l.1 + 1) ↔ ¬ dyF g l l.1 i > day := by
  have key : ∀ H,fitP g (l'.2 l.1) H ↔ H i ≤ day := fun H => by
    unfold fitP; rw [if_neg (by omega),if_pos hk,hp,hd]
  rw [ok_iff hg hl']
  constructor
  · rintro ⟨H,h1,h2⟩
    have h3 := (key H).1 (h2 l.1 (by omega))
    have h4 := dy_le hg hl h1 (fun j hj => by rw [← hs j hj]; exact h2 j (by omega)) i hi
    omega
  · intro h
    refine ⟨_,dy_hist hg hl,fun j hj => ?_⟩
    rcases Nat.lt_or_ge j l.1 with h1 | h1
    · rw [hs j h1]; exact hok j h1
    · obtain rfl : j = l.1 := by omega
      exact (key _).2 (by omega)
theorem sure_clean (hg : GvOk g) (hl : ∀ j,j < l.1 → SgOk g (l.2 j)) (hl' : ∀ j,j < l.1 + 1 → SgOk g (l'.2 j)) (hs : ∀ j,j < l.1 → l'.2 j = l.2 j) (hk : (l'.2 l.1).kind = 1) (hp : hitN g.palms (l'.2 l.1).palm = i) (hi : i < g.palms.1) (hd : (l'.2 l.1).day - g.shows = day)
    (hday : 0 ≤ day ∧ day ≤ 100000) : okP g l' (l.1 + 1) ↔ okI g l day i := by
  have key : ∀ H,fitP g (l'.2 l.1) H ↔ H i > day := fun H => by
    unfold fitP; rw [if_pos hk,hp,hd]
  rw [ok_iff hg hl',okI_iff hg hl hday hi]
  constructor
  · rintro ⟨H,h1,h2⟩
    exact ⟨H,h1,fun j hj => by rw [← hs j hj]; exact h2 j (by omega),(key H).1 (h2 l.1 (by omega))⟩
  · rintro ⟨H,h1,h2,h3⟩
    refine ⟨H,h1,fun j hj => ?_⟩
    rcases Nat.lt_or_ge j l.1 with h4 | h4
    · rw [hs j h4]; exact h2 j h4
    · obtain rfl : j = l.1 := by omega
      exact (key _).2 h3
theorem bad_last (hg : GvOk g) (hl : ∀ j,j < l.1 → SgOk g (l.2 j)) (hs : ∀ j,j < l.1 → l'.2 j = l.2 j) (hn : l'.1 = l.1 + 1) (hok : okP g l l.1) (hno : ¬ okP g l' (l.1 + 1)) : badI g l' = l.1 := by
  unfold badI
  refine fstI_at (by omega) hno fun i hi h => h ?_
  exact (ok_congr fun j hj => hs j (by omega)).2 (ok_less hg hl hok (by omega))
theorem dy_planted (hg : GvOk g) (hl : ∀ j,j < m → SgOk g (l.2 j)) (hi : i < g.palms.1) (hp : (g.palms.2 i).planted > g.start) : (g.palms.2 i).planted ≤ dyF g l m i := by
  have h := dy_hist hg hl i hi
  have hb := dy_bd hg hl i hi
  have hpl := (hg.pms.pl i hi).2
  rcases Int.lt_or_le (dyF g l m i) 100001 with h1 | h1
  · obtain ⟨⟨h2,h3⟩,h4⟩ := h.2 h1
    by_cases he : dyF g l m i = g.start
    · have := hg.susPl hi (h3 he); omega
    · exact (h4 he).2
  · omega
theorem bad_spec (hno : ¬ okP g l l.1) : badI g l < l.1 ∧ ¬ okP g l (badI g l + 1) ∧ okP g l (badI g l) := by
  rcases fstI_spec (fun n => ¬ okP g l (n + 1)) l.1 with ⟨h1,h2,h3⟩ | ⟨_,h2⟩
  · refine ⟨h1,h2,?_⟩
    show okP g l (badI g l)
    unfold badI
    generalize fstI (fun n => ¬ okP g l (n + 1)) l.1 = b at *
    rcases Nat.eq_zero_or_pos b with h4 | h4
    · subst h4; exact fun i hi => absurd hi (Nat.not_lt_zero _)
    · have := h3 (b - 1) (by omega)
      rw [Nat.sub_add_cancel h4] at this
      exact Classical.not_not.1 this
  · exfalso
    rcases Nat.eq_zero_or_pos l.1 with h4 | h4
    · exact hno fun i hi => by omega
    · have := h2 (l.1 - 1) (by omega)
      rw [Nat.sub_add_cancel h4] at this
      exact this hno
theorem badI_at {k : Nat} (hk : k < l.1) (hno : ¬ okP g l (k + 1)) (h : ∀ i,i < k → okP g l (i + 1)) : badI g l = k := by
  unfold badI; exact fstI_at hk hno fun i hi h' => h' (h i hi)
theorem few (hg : GvOk g) (hl : ∀ j,j < l.1 → SgOk g (l.2 j)) (hl' : ∀ j,j < l'.1 → SgOk g (l'.2 j)) (hs : ∀ j,j < l'.1 → ∃ k,k < l.1 ∧ l'.2 j = l.2 k) (hok : okP g l l.1) (hday : 0 ≤ day ∧ day ≤ 100000) :
    okP g l' l'.1 ∧ (∀ i,i < g.palms.1 → dyF g l' l'.1 i ≤ dyF g l l.1 i) ∧ ∀ i,i < g.palms.1 → illF g l' day i = 1 ∨ illF g l day i = illF g l' day i := by
  have hf : ∀ H,(∀ j,j < l.1 → fitP g (l.2 j) H) → ∀ j,j < l'.1 → fitP g (l'.2 j) H := fun H h j hj => by
    obtain ⟨k,hk,e⟩ := hs j hj
    rw [e]; exact h k hk
  have h1 := dy_hist hg hl
  have h2 := hf _ hok
  have h3 := dy_le hg hl' h1 h2
  refine ⟨dy_fit hg hl' h1 h2,h3,fun i hi => ?_⟩
  unfold illF
  by_cases c1 : dyF g l' l'.1 i > day
  · right; rw [if_pos c1,if_pos (by have := h3 i hi; omega)]
  · rw [if_neg c1]
    by_cases c2 : okI g l' day i
    · left; rw [@if_pos _ (Classical.propDecidable _) c2]
    · right
      rw [@if_neg _ (Classical.propDecidable _) c2]
      rw [okI_iff hg hl' hday hi] at c2
      rw [if_neg (fun h => c2 ⟨_,h1,h2,h⟩),@if_neg _ (Classical.propDecidable _)]
      rw [okI_iff hg hl hday hi]
      rintro ⟨H,a1,a2,a3⟩
      exact c2 ⟨H,a1,hf H a2,a3⟩
theorem known (hg : GvOk g) (hl : ∀ j,j < l.1 → SgOk g (l.2 j)) (hday : 0 ≤ day ∧ day ≤ 100000) (h : HistP g H) (hf : ∀ j,j < l.1 → fitP g (l.2 j) H) (hi : i < g.palms.1) :
    dyF g l l.1 i ≤ H i ∧ 0 ≤ illF g l day i ∧ illF g l day i ≤ 2 ∧ (illF g l day i = 0 → H i > day) ∧ (illF g l day i = 2 → H i ≤ day) := by
  have h1 := dy_le hg hl h hf i hi
  refine ⟨h1,?_⟩
  unfold illF
  by_cases c1 : dyF g l l.1 i > day
  · rw [if_pos c1]; exact ⟨by omega,by omega,fun _ => by omega,fun h => by cases h⟩
  · rw [if_neg c1]
    by_cases c2 : okI g l day i
    · rw [@if_pos _ (Classical.propDecidable _) c2]; exact ⟨by omega,by omega,fun h => by omega,fun h => by omega⟩
    · rw [@if_neg _ (Classical.propDecidable _) c2]
      refine ⟨by omega,by omega,fun h => by omega,fun _ => ?_⟩
      apply Classical.byContradiction
      intro h3
      exact c2 ((okI_iff hg hl hday hi).2 ⟨H,h,hf,by omega⟩)
theorem ill_0 : illF g l day i = 0 ↔ dyF g l l.1 i > day := by
  unfold illF
  by_cases c1 : dyF g l l.1 i > day
  · rw [if_pos c1]; simp [c1]
  · rw [if_neg c1]
    by_cases c2 : okI g l day i
    · rw [@if_pos _ (Classical.propDecidable _) c2]; simp [c1]
    · rw [@if_neg _ (Classical.propDecidable _) c2]; simp [c1]
theorem ill_2 (h : ¬ dyF g l l.1 i > day) : illF g l day i = 2 ↔ ¬ okI g l day i := by
  unfold illF
  rw [if_neg h]
  by_cases c2 : okI g l day i
  · rw [@if_pos _ (Classical.propDecidable _) c2]; simp [c2]
  · rw [@if_neg _ (Classical.propDecidable _) c2]; simp [c2]
end
end Go.Proofs.Ytpknbojgkkmonaa
