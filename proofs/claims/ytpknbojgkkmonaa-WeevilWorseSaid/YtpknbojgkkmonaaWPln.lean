/- Groves: worse ones, and an offshoot more, plainly. No condition but bounds. -/
import Derived.Test.YtpknbojgkkmonaaWSem
set_option linter.unusedSimpArgs false
set_option linter.unusedVariables false
namespace Go.Proofs.Ytpknbojgkkmonaa
open Go Go.RowKit
section
variable {g x : Gv} {H : Nat → Int} {l : Sgs}
theorem near_more {a b : Pl} {r r' : Int} (h0 : 0 ≤ r) (h : r ≤ r') (hn : nearP a b r) : nearP a b r' := by
  unfold nearP at hn ⊢
  have := Int.mul_le_mul h h h0 (by omega : (0 : Int) ≤ r')
  omega
/-- a longer reach, a shorter time to hatch, more suspects -/
structure Worse (g x : Gv) : Prop where
  palms : x.palms = g.palms
  places : x.places = g.places
  reach : g.reach ≤ x.reach
  hatch : x.hatch ≤ g.hatch
  shows : x.shows = g.shows
  start : x.start = g.start
  sus : ∀ id, susP g id → susP x id
theorem Worse.hist (hg : GvOk g) (w : Worse g x) (h : HistP g H) : HistP x H := by
  obtain ⟨p1, p2, r1, r2, r3, r4, r5⟩ := w
  obtain ⟨xp, xl, xr, xh, xs, xb, xu⟩ := x
  simp only at p1 p2 r1 r2 r3 r4
  subst p1; subst p2; subst r3; subst r4
  intro i hi
  obtain ⟨h1, h2⟩ := h i hi
  refine ⟨h1, fun h3 => ?_⟩
  obtain ⟨⟨h4, h5⟩, h6⟩ := h2 h3
  refine ⟨⟨h4, fun e => r5 _ (h5 e)⟩, fun e => ?_⟩
  obtain ⟨⟨k, hk, f1, f2, f3⟩, h7⟩ := h6 e
  refine ⟨⟨k, hk, f1, f2, ?_⟩, h7⟩
  rcases f3 with ⟨f3, f4⟩ | f3
  · exact .inl ⟨by show H k + xh ≤ _; omega, near_more hg.reach.1 r1 f4⟩
  · exact .inr f3
theorem Worse.fit (w : Worse g x) {s : Sg} (h : fitP g s H) : fitP x s H := by
  obtain ⟨p1, p2, r1, r2, r3, r4, r5⟩ := w
  obtain ⟨xp, xl, xr, xh, xs, xb, xu⟩ := x
  simp only at p1 p2 r1 r2 r3 r4
  subst p1; subst p2; subst r3; subst r4
  unfold fitP at h ⊢
  split
  · next k => rw [if_pos k] at h; exact h
  · next k =>
    rw [if_neg k] at h
    split
    · next k2 => rw [if_pos k2] at h; exact h
    · next k2 =>
      rw [if_neg k2] at h
      obtain ⟨i, h1, h2, h3⟩ := h
      exact ⟨i, h1, by show H i ≤ s.day - xh; omega, h3⟩
theorem Worse.sg (w : Worse g x) {s : Sg} (h : SgOk g s) : SgOk x s := by
  obtain ⟨p1, p2, r1, r2, r3, r4, r5⟩ := w
  obtain ⟨xp, xl, xr, xh, xs, xb, xu⟩ := x
  simp only at p1 p2 r1 r2 r3 r4
  subst p1; subst p2; subst r3; subst r4
  exact h
/-- nobody becomes ill later -/
theorem Worse.days (hg : GvOk g) (hx : GvOk x) (w : Worse g x) (hl : ∀ j, j < l.1 → SgOk g (l.2 j)) (hok : okP g l l.1) : okP x l l.1 ∧ ∀ i, i < g.palms.1 → dyF x l l.1 i ≤ dyF g l l.1 i := by
  have h1 := w.hist hg (dy_hist hg hl)
  have hl' : ∀ j, j < l.1 → SgOk x (l.2 j) := fun j hj => w.sg (hl j hj)
  have h2 : ∀ j, j < l.1 → fitP x (l.2 j) (dyF g l l.1) := fun j hj => w.fit (hok j hj)
  exact ⟨dy_fit hx hl' h1 h2, fun i hi => dy_le hx hl' h1 h2 i (by rw [w.palms]; exact hi)⟩
variable {m : Nat} {day : Int}
/-- an offshoot more, far from all -/
structure Shoot (g x : Gv) (m : Nat) (day : Int) : Prop where
  n : x.palms.1 = g.palms.1 + 1
  old : ∀ i, i < g.palms.1 → x.palms.2 i = g.palms.2 i
  mo : (x.palms.2 g.palms.1).mother = (g.palms.2 m).id
  pday : (x.palms.2 g.palms.1).planted = day
  m : m < g.palms.1
  later : g.start < day
  top : day ≤ 100000
  pl : ∀ i, i < g.palms.1 → x.places.2 i = g.places.2 i
  reach : x.reach = g.reach
  hatch : x.hatch = g.hatch
  shows : x.shows = g.shows
  start : x.start = g.start
  sus : x.sus = g.sus
  far : ∀ i, i < g.palms.1 → ¬ nearP (g.places.2 i) (x.places.2 g.palms.1) g.reach
theorem Shoot.hit (hg : GvOk g) (hx : GvOk x) (s : Shoot g x m day) {id : Int} (h : hitN g.palms id < g.palms.1) : hitN x.palms id = hitN g.palms id := by
  rcases hit_spec g.palms id with ⟨h1, h2⟩ | ⟨h1, _⟩
  · have h3 := hx.pms.hit (i := hitN g.palms id) (by have := s.n; omega)
    rw [s.old _ h1, h2] at h3
    exact h3
  · omega
theorem Shoot.moOld (hg : GvOk g) (hx : GvOk x) (s : Shoot g x m day) {i : Nat} (hi : i < g.palms.1) (hl : (g.palms.2 i).mother ≠ -1) : moF x i = moF g i := by
  unfold moF
  rw [s.old i hi]
  exact s.hit hg hx (hg.mo hi hl).1
theorem Shoot.moNew (hg : GvOk g) (hx : GvOk x) (s : Shoot g x m day) : moF x g.palms.1 = m := by
  unfold moF
  rw [s.mo, s.hit hg hx (by rw [hg.pms.hit s.m]; exact s.m), hg.pms.hit s.m]
theorem Shoot.susE (s : Shoot g x m day) (id : Int) : susP x id ↔ susP g id := by unfold susP; rw [s.sus]
theorem Shoot.hist (hg : GvOk g) (hx : GvOk x) (s : Shoot g x m day) (h : HistP g H) (hm : H m > day) : HistP x (fun i => if i < g.palms.1 then H i else 100001) := by
  have hn := s.n
  intro i hi
  rcases Nat.lt_or_ge i g.palms.1 with h1 | h1
  · obtain ⟨a1, a2⟩ := h i h1
    refine ⟨fun hl hk => ?_, fun hk => ?_⟩
    · have hl' : lateP g i := by unfold lateP at hl ⊢; rw [s.old i h1, s.start] at hl; exact hl
      have e := s.moOld hg hx h1 hl'.1
      have hm1 := (hg.mo h1 hl'.1).1
      rw [e] at hk
      simp only [if_pos hm1, if_pos h1, s.old i h1] at hk ⊢
      exact a1 hl' hk
    · simp only [if_pos h1] at hk ⊢
      obtain ⟨⟨b1, b2⟩, b3⟩ := a2 hk
      rw [s.start, s.old i h1]
      refine ⟨⟨b1, fun e => (s.susE _).2 (b2 e)⟩, fun e => ?_⟩
      obtain ⟨⟨k, hk1, f1, f2, f3⟩, b4⟩ := b3 e
      refine ⟨⟨k, by omega, f1, by rw [if_pos hk1]; exact f2, ?_⟩, b4⟩
      rw [if_pos hk1, s.hatch, s.pl i h1, s.pl k hk1, s.reach, s.old i h1, s.old k hk1, s.start]
      exact f3
  · obtain rfl : i = g.palms.1 := by omega
    refine ⟨fun hl hk => ?_, fun hk => ?_⟩
    · rw [s.moNew hg hx, s.pday] at hk
      simp only [if_pos s.m] at hk
      omega
    · simp only [Nat.lt_irrefl, if_false] at hk
      omega
theorem Shoot.hist' (hg : GvOk g) (hx : GvOk x) (s : Shoot g x m day) (h : HistP x H) : HistP g H := by
  have hn := s.n
  intro i hi
  obtain ⟨a1, a2⟩ := h i (by omega)
  refine ⟨fun hl hk => ?_, fun hk => ?_⟩
  · have hl' : lateP x i := by unfold lateP at hl ⊢; rw [s.old i hi, s.start]; exact hl
    have := a1 hl' (by rw [s.moOld hg hx hi hl.1, s.old i hi]; exact hk)
    rw [s.old i hi] at this
    exact this
  · obtain ⟨⟨b1, b2⟩, b3⟩ := a2 hk
    rw [s.start, s.old i hi] at *
    refine ⟨⟨b1, fun e => (s.susE _).1 (b2 e)⟩, fun e => ?_⟩
    obtain ⟨⟨k, hk1, f1, f2, f3⟩, b4⟩ := b3 e
    have hk2 : k < g.palms.1 := by
      apply Classical.byContradiction
      intro hk2
      obtain rfl : k = g.palms.1 := by omega
      rcases f3 with ⟨_, f3⟩ | ⟨f3, _⟩
      · rw [s.pl i hi, s.reach] at f3
        exact s.far i hi f3
      · rw [s.old i hi] at f3
        have h5 := (hx.pms.id g.palms.1 (by omega)).1
        have h6 := hg.mo hi (by rw [f3]; omega)
        have h7 := hx.pms.lt h6.1 (by omega)
        rw [s.old _ h6.1, h6.2.1, f3] at h7
        omega
    rw [s.hatch, s.pl i hi, s.pl k hk2, s.reach, s.old i hi, s.old k hk2, s.start] at f3
    exact ⟨⟨k, hk2, f1, f2, f3⟩, b4⟩
theorem Shoot.fit (hg : GvOk g) (hx : GvOk x) (s : Shoot g x m day) {t : Sg} (ht : SgOk g t) (h : fitP g t H) : fitP x t (fun i => if i < g.palms.1 then H i else 100001) := by
  have hn := s.n
  unfold fitP at h ⊢
  by_cases k1 : t.kind = 1
  · have h1 := ht.pm (.inl k1)
    rw [if_pos k1] at h ⊢
    rw [s.hit hg hx h1, s.shows]; show (if hitN g.palms t.palm < g.palms.1 then _ else _) > _; rw [if_pos h1]; exact h
  · rw [if_neg k1] at h ⊢
    by_cases k2 : t.kind = 2
    · have h1 := ht.pm (.inr k2)
      rw [if_pos k2] at h ⊢
      rw [s.hit hg hx h1]; show (if hitN g.palms t.palm < g.palms.1 then _ else _) ≤ _; rw [if_pos h1]; exact h
    · rw [if_neg k2] at h ⊢
      obtain ⟨i, h1, h2, h3⟩ := h
      exact ⟨i, by omega, by rw [s.hatch]; show (if i < g.palms.1 then _ else _) ≤ _; rw [if_pos h1]; exact h2, by rw [s.pl i h1]; exact h3⟩
theorem Shoot.fit' (hg : GvOk g) (hx : GvOk x) (s : Shoot g x m day) {t : Sg} (ht : SgOk g t) (hf : t.kind = 3 → ¬ nearP (x.places.2 g.palms.1) t.trap t.near) (h : fitP x t H) : fitP g t H := by
  have hn := s.n
  unfold fitP at h ⊢
  by_cases k1 : t.kind = 1
  · have h1 := ht.pm (.inl k1)
    rw [if_pos k1] at h ⊢
    rw [s.hit hg hx h1, s.shows] at h; exact h
  · rw [if_neg k1] at h ⊢
    by_cases k2 : t.kind = 2
    · have h1 := ht.pm (.inr k2)
      rw [if_pos k2] at h ⊢
      rw [s.hit hg hx h1] at h; exact h
    · have k3 : t.kind = 3 := by
        rcases ht.2 with h | h
        · omega
        · exact h.1
      rw [if_neg k2] at h ⊢
      obtain ⟨i, h1, h2, h3⟩ := h
      have hi : i < g.palms.1 := by
        apply Classical.byContradiction
        intro hi
        obtain rfl : i = g.palms.1 := by omega
        exact hf k3 h3
      exact ⟨i, hi, by rw [s.hatch] at h2; exact h2, by rw [s.pl i hi] at h3; exact h3⟩
/-- the offshoot is not ill -/
theorem Shoot.never (hg : GvOk g) (hx : GvOk x) (s : Shoot g x m day) (hl : ∀ j, j < l.1 → SgOk g (l.2 j)) (hl' : ∀ j, j < l.1 → SgOk x (l.2 j)) (hok : okP g l l.1) (hm : dyF g l l.1 m > day)
    (hf : ∀ j, j < l.1 → (l.2 j).kind = 3 → ¬ nearP (x.places.2 g.palms.1) (l.2 j).trap (l.2 j).near) : okP x l l.1 ∧ dyF x l l.1 g.palms.1 = 100001 := by
  have hn := s.n
  have hok' : okP x l l.1 := dy_fit hx hl' (s.hist hg hx (dy_hist hg hl) hm) fun j hj => s.fit hg hx (hl j hj) (hok j hj)
  refine ⟨hok', ?_⟩
  have hH := dy_hist hx hl'
  have hb := dy_bd hx hl' g.palms.1 (by omega)
  apply Classical.byContradiction
  intro hne
  have hlt : dyF x l l.1 g.palms.1 < 100001 := by omega
  obtain ⟨⟨b1, b2⟩, b3⟩ := (hH g.palms.1 (by omega)).2 hlt
  have hle := dy_le hg hl (s.hist' hg hx hH) (fun j hj => s.fit' hg hx (hl j hj) (hf j hj) (hok' j hj)) m s.m
  by_cases he : dyF x l l.1 g.palms.1 = x.start
  · have h1 := hx.susPl (by omega) (b2 he)
    have := s.later
    rw [s.pday, s.start] at h1
    omega
  · obtain ⟨⟨k, hk, f1, f2, f3⟩, _⟩ := b3 he
    have hk2 : k < g.palms.1 := by omega
    rcases f3 with ⟨_, f3⟩ | ⟨f3, f4, _, f5⟩
    · rw [s.pl k hk2, s.reach] at f3
      exact s.far k hk2 (near_comm.1 f3)
    · rw [s.mo, s.old k hk2] at f3
      have : m = k := hg.pms.inj s.m hk2 f3
      subst this
      rw [s.pday] at f4
      omega
end
end Go.Proofs.Ytpknbojgkkmonaa
