/- Groves: what the first days say of histories. No condition but bounds. -/
import Derived.Test.YtpknbojgkkmonaaWIll
import Derived.Test.YtpknbojgkkmonaaWHis
set_option linter.unusedSimpArgs false
set_option linter.unusedVariables false
namespace Go.Proofs.Ytpknbojgkkmonaa
open Go Go.RowKit
section
variable {g : Gv} {H n0 N D : Nat → Int}
theorem HistP.upw (h : HistP g H) (hn : ∀ i,i < g.palms.1 → n0 i ≤ H i) : Upw g n0 H := by
  refine ⟨hn,fun i hi hl hx => ?_⟩
  apply Classical.byContradiction
  intro hm
  have := (h i hi).1 hl (by omega)
  omega
theorem HistP.first (hg : GvOk g) (h : HistP g H) (hN : ∀ i,i < g.palms.1 → N i ≤ H i) (hF : First g N D) : ∀ i,i < g.palms.1 → D i ≤ H i := by
  have key : ∀ d i,i < g.palms.1 → depF g H i < d → D i ≤ H i := by
    intro d
    induction d with
    | zero => intro i _ h; omega
    | succ d ih =>
      intro i hi hd
      rcases Int.lt_or_le (H i) 100001 with h1 | h1
      · obtain ⟨⟨h2,h3⟩,h4⟩ := (h i hi).2 h1
        have h5 := hN i hi
        by_cases he : H i = g.start
        · have := hF.1.sus i hi (h3 he) (by omega)
          omega
        · obtain ⟨⟨k,hk,hf⟩,hp⟩ := h4 he
          have h6 := ih k hk (by have := dep_lt hg hi hk hf; omega)
          obtain ⟨f1,f2,f3⟩ := hf
          rcases f3 with ⟨f3,f4⟩ | ⟨f3,f4,f5,f6⟩
          · have := hF.1.fly i k hi hk f1 (by omega) f4
            unfold flyF at this
            omega
          · have := hF.1.gift i k hi hk (by omega) ⟨f3,f5,by omega,by omega⟩
            omega
      · have := hF.1.top i hi
        omega
  exact fun i hi => key _ i hi (Nat.lt_succ_self _)
theorem HistP.days (hg : GvOk g) (h : HistP g H) (hn : ∀ i,i < g.palms.1 → n0 i ≤ H i) (hD : DaysP g n0 D) : ∀ i,i < g.palms.1 → D i ≤ H i := by
  obtain ⟨N,hR,hF⟩ := hD
  exact h.first hg (fun i hi => hR.2 _ (h.upw hn) i hi) hF
theorem DaysP.ge (hg : GvOk g) (hn : ∀ i,i < g.palms.1 → n0 i ≤ 100001) (h : DaysP g n0 D) : ∀ i,i < g.palms.1 → n0 i ≤ D i := by
  obtain ⟨N,hR,hF⟩ := h
  have hN : ∀ i,i < g.palms.1 → N i ≤ 100001 := fun i hi => by
    have hM : Upw g n0 fun _ => 100001 := ⟨fun i hi => hn i hi,fun i hi _ _ => by
      have := (hg.pms.pl i hi).2
      show (100001 : Int) > _; omega⟩
    exact hR.2 _ hM i hi
  intro i hi
  have := hR.1.1 i hi
  have := hF.geN hN hi
  omega
end
section
variable {g : Gv} {l : Sgs} {H : Nat → Int} {m : Nat}
theorem SgOk.pm {s : Sg} (h : SgOk g s) (hk : s.kind = 1 ∨ s.kind = 2) : hitN g.palms s.palm < g.palms.1 := by
  rcases h.2 with h | h
  · exact h.2.1
  · have := h.1; omega
theorem low_le {f : Nat → Sg} (h0 : ∀ i,i < g.palms.1 → 0 ≤ H i) : ∀ m,(∀ j,j < m → fitP g (f j) H) → ∀ i,i < g.palms.1 → lowF g f m i ≤ H i := by
  intro m
  induction m with
  | zero => intro _ i hi; exact h0 i hi
  | succ m ih =>
    intro hf i hi
    have h1 := ih (fun j hj => hf j (by omega)) i hi
    simp only [lowF]
    split
    · next h2 =>
      have h3 := hf m (by omega)
      unfold fitP at h3
      rw [if_pos h2.1,h2.2] at h3
      omega
    · exact h1
theorem low_ge {f : Nat → Sg} : ∀ m j,j < m → (f j).kind = 1 → (f j).day - g.shows + 1 ≤ lowF g f m (hitN g.palms (f j).palm) := by
  intro m
  induction m with
  | zero => intro j h; omega
  | succ m ih =>
    intro j hj hk
    simp only [lowF]
    rcases Nat.lt_or_ge j m with h1 | h1
    · have := ih j h1 hk
      split <;> omega
    · obtain rfl : j = m := by omega
      rw [if_pos ⟨hk,rfl⟩]; omega
theorem fit_down {D : Nat → Int} {s : Sg} (hs : SgOk g s) (hD : ∀ i,i < g.palms.1 → D i ≤ H i) (h1 : s.kind = 1 → s.day - g.shows + 1 ≤ D (hitN g.palms s.palm)) (h : fitP g s H) : fitP g s D := by
  unfold fitP at h ⊢
  by_cases k1 : s.kind = 1
  · rw [if_pos k1]; have := h1 k1; omega
  · rw [if_neg k1] at h ⊢
    by_cases k2 : s.kind = 2
    · rw [if_pos k2] at h ⊢
      have := hD _ (hs.pm (.inr k2)); omega
    · rw [if_neg k2] at h ⊢
      obtain ⟨i,h2,h3,h4⟩ := h
      exact ⟨i,h2,by have := hD i h2; omega,h4⟩
theorem HistP.nn (hg : GvOk g) (h : HistP g H) : ∀ i,i < g.palms.1 → 0 ≤ H i := fun i hi => by
  have := hg.start
  rcases Int.lt_or_le (H i) 100001 with h1 | h1
  · have := ((h i hi).2 h1).1.1; omega
  · omega
theorem dy_days (hg : GvOk g) (hl : ∀ j,j < m → SgOk g (l.2 j)) : DaysP g (lowF g l.2 m) (dyF g l m) := days_ok hg fun i _ => (lowF_bd hg hl m (Nat.le_refl _) i).2
theorem dy_bd (hg : GvOk g) (hl : ∀ j,j < m → SgOk g (l.2 j)) : ∀ i,i < g.palms.1 → g.start ≤ dyF g l m i ∧ dyF g l m i ≤ 100001 := days_bd hg fun i _ => (lowF_bd hg hl m (Nat.le_refl _) i).2
theorem dy_hist (hg : GvOk g) (hl : ∀ j,j < m → SgOk g (l.2 j)) : HistP g (dyF g l m) := (dy_days hg hl).hist hg fun i _ => (lowF_bd hg hl m (Nat.le_refl _) i).2
theorem dy_le (hg : GvOk g) (hl : ∀ j,j < m → SgOk g (l.2 j)) (h : HistP g H) (hf : ∀ j,j < m → fitP g (l.2 j) H) : ∀ i,i < g.palms.1 → dyF g l m i ≤ H i :=
  h.days hg (low_le (h.nn hg) m hf) (dy_days hg hl)
theorem dy_fit (hg : GvOk g) (hl : ∀ j,j < m → SgOk g (l.2 j)) (h : HistP g H) (hf : ∀ j,j < m → fitP g (l.2 j) H) : okP g l m := fun j hj =>
  fit_down (hl j hj) (dy_le hg hl h hf) (fun hk => by
    have h1 := (dy_days hg hl).ge hg (fun i _ => (lowF_bd hg hl m (Nat.le_refl _) i).2) _ ((hl j hj).pm (.inl hk))
    have h2 := low_ge (g := g) m j hj hk
    omega) (hf j hj)
theorem ok_iff (hg : GvOk g) (hl : ∀ j,j < m → SgOk g (l.2 j)) : okP g l m ↔ ∃ H,HistP g H ∧ ∀ j,j < m → fitP g (l.2 j) H :=
  ⟨fun h => ⟨_,dy_hist hg hl,h⟩,fun ⟨_,h1,h2⟩ => dy_fit hg hl h1 h2⟩
theorem ok_less (hg : GvOk g) {m' : Nat} (hl : ∀ j,j < m → SgOk g (l.2 j)) (h : okP g l m) (hm : m' ≤ m) : okP g l m' := by
  obtain ⟨H,h1,h2⟩ := (ok_iff hg hl).1 h
  exact (ok_iff hg fun j hj => hl j (by omega)).2 ⟨H,h1,fun j hj => h2 j (by omega)⟩
theorem okI_iff (hg : GvOk g) (hl : ∀ j,j < l.1 → SgOk g (l.2 j)) {day : Int} (hd : 0 ≤ day ∧ day ≤ 100000) {i : Nat} (hi : i < g.palms.1) : okI g l day i ↔ ∃ H,HistP g H ∧ (∀ j,j < l.1 → fitP g (l.2 j) H) ∧ H i > day := by
  have hb : ∀ z,z < g.palms.1 → bmpF g l day i z ≤ 100001 := fun z _ => (bmp_bd hg hl hd i z).2
  have hD : DaysP g (bmpF g l day i) (daysF g (bmpF g l day i)) := days_ok hg hb
  have hge := hD.ge hg hb
  constructor
  · intro h
    refine ⟨_,hD.hist hg hb,h,?_⟩
    have := hge i hi
    unfold bmpF at this ⊢
    rw [if_pos rfl] at this
    omega
  · rintro ⟨H,h1,h2,h3⟩
    have hle : ∀ z,z < g.palms.1 → bmpF g l day i z ≤ H z := fun z hz => by
      have := low_le (h1.nn hg) l.1 h2 z hz
      unfold bmpF
      split
      · next e => subst e; omega
      · exact this
    have hd2 := h1.days hg hle hD
    intro j hj
    refine fit_down (hl j hj) hd2 (fun hk => ?_) (h2 j hj)
    have h4 := hge _ ((hl j hj).pm (.inl hk))
    have h5 := low_ge (g := g) l.1 j hj hk
    have h6 : lowF g l.2 l.1 (hitN g.palms (l.2 j).palm) ≤ bmpF g l day i (hitN g.palms (l.2 j).palm) := by
      unfold bmpF; split <;> omega
    omega
end
end Go.Proofs.Ytpknbojgkkmonaa
