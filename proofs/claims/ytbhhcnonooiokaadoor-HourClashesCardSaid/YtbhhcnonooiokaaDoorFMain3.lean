/- The engine, part 21: the whole run. No condition. -/
import Derived.Test.YtbhhcnonooiokaaDoorFDrawn6
namespace Go.Proofs.YtbhhcnonooiokaaDoor
open Go Go.RowKit
variable {P : Program} {E : Env} {A0 : Nat → Prop} {w0 : World} {Qf : Val → Bx → Prop}

theorem vsubP_rep {w : World} {A : Nat → Prop} : ∀ (v' v : Val) (x : Value), vsubP v' v → RepP w A v x → RepP w A v' x := by
  intro v'
  induction v' with
  | cons h t ih1 ih2 => rintro v x ⟨h', t', rfl, s1, s2⟩ ⟨y, ys, rfl, r1, r2⟩; exact ⟨y, ys, rfl, ih1 _ _ s1 r1, ih2 _ _ s2 r2⟩
  | agg l ih => rintro v x ⟨l', rfl, s⟩ ⟨ys, rfl, r⟩; exact ⟨ys, rfl, ih _ _ s r⟩
  | tup l ih => rintro v x ⟨l', rfl, s⟩ ⟨ys, rfl, r⟩; exact ⟨ys, rfl, ih _ _ s r⟩
  | func fn l ih => rintro v x ⟨l', rfl, s⟩ ⟨ys, rfl, r⟩; exact ⟨ys, rfl, ih _ _ s r⟩
  | view k n c ih =>
    rintro v x (⟨rfl, rfl⟩ | ⟨c', rfl, s⟩) hr
    · have e : x = .slice none 0 0 := hr
      subst e
      exact ⟨none, 0, rfl, by decide, Nat.le_refl _, fun h => absurd h (Nat.lt_irrefl _)⟩
    · obtain ⟨ad, cap, rfl, h1, h2, h3⟩ := hr
      refine ⟨ad, cap, rfl, h1, h2, fun h0 => ?_⟩
      obtain ⟨g, off, rfl, hg, hA', hc⟩ := h3 h0
      refine ⟨g, off, rfl, hg, hA', fun i hi j hj => ?_⟩
      obtain ⟨y, hy, ho, hr⟩ := hc i hi j hj
      exact ⟨y, hy, ho, ih i j _ _ (s i hi j hj) hr⟩
  | vptr m c ih =>
    rintro v x ⟨c', rfl, s⟩ hr
    obtain ⟨g, off, rfl, hg, hA', hc⟩ := hr
    refine ⟨g, off, rfl, hg, hA', fun j hj => ?_⟩
    obtain ⟨y, hy, hr⟩ := hc j hj
    exact ⟨y, hy, ih j _ _ (s j hj) hr⟩
  | mview kd has f ih =>
    rintro v x ⟨has', f', rfl, s⟩ hr
    obtain ⟨g, h, rfl, hg, hA', hm, hc⟩ := hr
    refine ⟨g, h, rfl, hg, hA', hm, fun k => ⟨fun hk => (hc k).1 (by rw [(s k).1]; exact hk), fun hk => ?_⟩⟩
    obtain ⟨y, hy, hr⟩ := (hc k).2 (by rw [(s k).1]; exact hk)
    exact ⟨y, hy, ih k _ _ ((s k).2 hk) hr⟩
  | und => intro v x _ _; trivial
  | _ => intro v x s r; simp only [vsubP] at s; rw [← s]; exact r
theorem vsub_rep {w : World} {A A' : Nat → Prop} {B B' : Bmap} {β β' : Nat → Loc} {N D : Nat → Prop} (hB : ∀ b c, B b = some c → D b → ∃ c', B' b = some c' ∧ Kin c c' ∧ β' b = β b) (hA : ∀ g, g < w.heap.size → A g → A' g)
    (hN : ∀ b, N b → (∃ e k n c, B' b = some (.row e k n c)) ∧ (β' b).a = none ∧ (β' b).n = 0 ∧ (β' b).cap = 0) : ∀ (v' v : Val) (x : Value), vsub N D v' v → Rep w A B β v x → Rep w A' B' β' v' x := by
  have hw : ∀ {v : Val} {x : Value}, RepP w A v x → RepP w A' v x := fun h => RepP.weak hA h
  intro v'
  induction v' with
  | cons h t ih1 ih2 => rintro v x ⟨h', t', rfl, s1, s2⟩ ⟨y, ys, rfl, r1, r2⟩; exact ⟨y, ys, rfl, ih1 _ _ s1 r1, ih2 _ _ s2 r2⟩
  | agg l ih => rintro v x ⟨l', rfl, s⟩ ⟨ys, rfl, r⟩; exact ⟨ys, rfl, ih _ _ s r⟩
  | tup l ih => rintro v x ⟨l', rfl, s⟩ ⟨ys, rfl, r⟩; exact ⟨ys, rfl, ih _ _ s r⟩
  | func fn l ih => rintro v x ⟨l', rfl, s⟩ ⟨ys, rfl, r⟩; exact ⟨ys, rfl, ih _ _ s r⟩
  | own b =>
    rintro v x (⟨rfl, hd⟩ | ⟨rfl, h⟩) hr
    · obtain ⟨⟨e, k, n, c, hb⟩, rfl⟩ := hr
      obtain ⟨c', h1, h2, h3⟩ := hB b _ hb hd
      cases c' with
      | lp => simp [Kin] at h2
      | cells l => simp [Kin] at h2
      | mp => simp [Kin] at h2
      | row e' k' n' c2 => exact ⟨⟨e', k', n', c2, h1⟩, by rw [h3]⟩
    · have e : x = .slice none 0 0 := hr
      subst e
      obtain ⟨h1, h2, h3, h4⟩ := hN b h
      exact ⟨h1, by rw [h2, h3, h4]; rfl⟩
  | ptr b off =>
    intro v x s hr
    simp only [vsub] at s
    obtain ⟨rfl, hd⟩ := s
    obtain ⟨⟨l, hb⟩, g, hg, rfl⟩ := hr
    obtain ⟨c', h1, h2, h3⟩ := hB b _ hb hd
    cases c' with
    | lp => simp [Kin] at h2
    | cells l' => exact ⟨⟨l', h1⟩, g, by rw [h3]; exact hg, rfl⟩
    | row => simp [Kin] at h2
    | mp => simp [Kin] at h2
  | yld b =>
    intro v x s hr
    simp only [vsub] at s
    obtain ⟨rfl, hd⟩ := s
    obtain ⟨g, fr, ps, ca, cb, st, hb, rfl⟩ := hr
    obtain ⟨c', h1, h2, h3⟩ := hB b _ hb hd
    cases c' with
    | lp g' fr' ps' ca' cb' st' => obtain ⟨rfl, _⟩ := h2; exact ⟨g, fr', ps', ca', cb', st', h1, rfl⟩
    | row => simp [Kin] at h2
    | cells => simp [Kin] at h2
    | mp => simp [Kin] at h2
  | mapb b =>
    intro v x s hr
    simp only [vsub] at s
    obtain ⟨rfl, hd⟩ := s
    obtain ⟨⟨kd, has, f, hb⟩, g, hg, rfl⟩ := hr
    obtain ⟨c', h1, h2, h3⟩ := hB b _ hb hd
    cases c' with
    | lp => simp [Kin] at h2
    | mp kd' has' f' => exact ⟨⟨kd', has', f', h1⟩, g, by rw [h3]; exact hg, rfl⟩
    | row => simp [Kin] at h2
    | cells => simp [Kin] at h2
  | mview kd has f ih =>
    rintro v x ⟨has', f', rfl, s⟩ hr
    obtain ⟨g, h, rfl, hg, hA', hm, hc⟩ := hr
    refine ⟨g, h, rfl, hg, hA g hg hA', hm, fun k => ⟨fun hk => (hc k).1 (by rw [(s k).1]; exact hk), fun hk => ?_⟩⟩
    obtain ⟨y, hy, hr⟩ := (hc k).2 (by rw [(s k).1]; exact hk)
    exact ⟨y, hy, hw (vsubP_rep _ _ _ ((s k).2 hk) hr)⟩
  | rptr b i off =>
    intro v x s hr
    simp only [vsub] at s
    obtain ⟨rfl, hd⟩ := s
    obtain ⟨e, k, n, c, hb, hi, g, hg, rfl⟩ := hr
    obtain ⟨c', h1, h2, h3⟩ := hB b _ hb hd
    cases c' with
    | lp => simp [Kin] at h2
    | cells l' => simp [Kin] at h2
    | mp => simp [Kin] at h2
    | row e' k' n' c2 =>
      obtain ⟨rfl, rfl⟩ := h2
      exact ⟨e', k, n, c2, h1, hi, g, by rw [h3]; exact hg, rfl⟩
  | view k n c ih =>
    rintro v x (⟨rfl, rfl⟩ | ⟨c', rfl, s⟩) hr
    · have e : x = .slice none 0 0 := hr
      subst e
      exact ⟨none, 0, rfl, by decide, Nat.le_refl _, fun h => absurd h (Nat.lt_irrefl _)⟩
    · obtain ⟨ad, cap, rfl, h1, h2, h3⟩ := hr
      refine ⟨ad, cap, rfl, h1, h2, fun h0 => ?_⟩
      obtain ⟨g, off, rfl, hg, hA', hc⟩ := h3 h0
      refine ⟨g, off, rfl, hg, hA g hg hA', fun i hi j hj => ?_⟩
      obtain ⟨y, hy, ho, hr⟩ := hc i hi j hj
      exact ⟨y, hy, ho, hw (vsubP_rep _ _ _ (s i hi j hj) hr)⟩
  | vptr m c ih =>
    rintro v x ⟨c', rfl, s⟩ hr
    obtain ⟨g, off, rfl, hg, hA', hc⟩ := hr
    refine ⟨g, off, rfl, hg, hA g hg hA', fun j hj => ?_⟩
    obtain ⟨y, hy, hr⟩ := hc j hj
    exact ⟨y, hy, hw (vsubP_rep _ _ _ (s j hj) hr)⟩
  | und => intro v x _ _; trivial
  | nil => intro v x s hr; simp only [vsub] at s; subst s; exact hr
  | _ => intro v x s hr; simp only [vsub] at s; subst s; exact hw hr
theorem chkFr_get {N D : Nat → Prop} {fr : Fr} : ∀ {fr' : Fr}, chkFr N D fr fr' → ∀ t, vsub N D (fget fr' t) (fget fr t) := by
  intro fr'; induction fr' with
  | nil => intro _ t; trivial
  | cons p l ih =>
    obtain ⟨s, v⟩ := p
    rintro ⟨h1, h2⟩ t
    simp only [fget]
    split
    · rename_i e; subst e; exact h1
    · exact ih h2 t
theorem chkBx_get {N D : Nat → Prop} {bx : Bx} : ∀ {bx' : Bx}, chkBx N D bx bx' → ∀ b c, bget bx' b = some c → chkBx1 N D (bget bx b) c := by
  intro bx'; induction bx' with
  | nil => intro _ b c h; cases h
  | cons p l ih =>
    obtain ⟨s, v⟩ := p
    rintro ⟨h1, h2⟩ b c hb
    simp only [bget] at hb
    split at hb
    · rename_i e; subst e; cases hb; exact h1
    · exact ih h2 b c hb
theorem idsLt_get {nx : Nat} : ∀ {bx : Bx}, idsLt nx bx → ∀ b c, bget bx b = some c → b < nx := by
  intro bx; induction bx with
  | nil => intro _ b c h; cases h
  | cons p l ih =>
    obtain ⟨s, v⟩ := p
    rintro ⟨h1, h2⟩ b c hb
    simp only [bget] at hb
    split at hb
    · rename_i e; subst e; exact h1
    · exact ih h2 b c hb
theorem kept_get {nx : Nat} {bx' : Bx} : ∀ {bx : Bx}, kept nx bx' bx → ∀ b c, bget bx b = some c → b < nx → ∃ c', bget bx' b = some c' := by
  intro bx; induction bx with
  | nil => intro _ b c h; cases h
  | cons p l ih =>
    obtain ⟨s, v⟩ := p
    rintro ⟨h1, h2⟩ b c hb hlt
    simp only [bget] at hb
    split at hb
    · rename_i e; subst e; exact h1 hlt
    · exact ih h2 b c hb hlt
/-- a state taken for a weaker one -/
theorem Rel.chk {β : Nat → Loc} {stk : List SFrame} {as : List Act} {fr fr' : Fr} {bx bx' : Bx} {nx nx' ne : Nat} {a : Act} {w : World} (h : Rel P A0 w0 β stk as fr bx nx a w) (hc : Chk fr bx fr' bx' ne nx') (hsn : ∀ f ∈ stk, f.nx ≤ ne ∧ f.nx ≤ nx') :
    ∃ β', Rel P A0 w0 β' stk as fr' bx' nx' a w := by
  classical
  obtain ⟨h1, h2, h3, h4⟩ := hc
  let β' : Nat → Loc := fun b => if newIn bx bx' b then ⟨none, 0, 0⟩ else β b
  have hβ : ∀ b c, bget bx b = some c → β' b = β b := by
    intro b c hb
    have : ¬ newIn bx bx' b := fun hn => by rw [hn.1] at hb; cases hb
    simp only [β', if_neg this]
  have hA : ∀ g, g < w.heap.size → Al A0 w0 (bget bx) β g → Al A0 w0 (bget bx') β' g := by
    rintro g hg ⟨hA, hn⟩
    refine ⟨hA, fun b c hb e => ?_⟩
    by_cases hnew : newIn bx bx' b
    · simp only [β', if_pos hnew] at e; cases e
    · have : ∃ c0, bget bx b = some c0 := by
        cases hbb : bget bx b with
        | none => exact absurd ⟨hbb, c, hb⟩ hnew
        | some c0 => exact ⟨c0, rfl⟩
      obtain ⟨c0, hc0⟩ := this
      rw [hβ b c0 hc0] at e
      exact hn b c0 hc0 e
  have hB : ∀ b c, bget bx b = some c → hasB bx' b → ∃ c', bget bx' b = some c' ∧ Kin c c' ∧ β' b = β b := by
    rintro b c hb ⟨c', hc'⟩
    have hk := chkBx_get h2 b c' hc'
    rw [hb] at hk
    refine ⟨c', hc', ?_, hβ b c hb⟩
    cases c <;> cases c' <;> simp [chkBx1] at hk <;> simp [Kin]
    · exact ⟨hk.2.1, hk.2.2.1⟩
    · exact hk.1
    · exact ⟨hk.1, hk.2.1, hk.2.2.1, hk.2.2.2.1⟩
  have hN : ∀ b, newIn bx bx' b → (∃ e k n c, bget bx' b = some (.row e k n c)) ∧ (β' b).a = none ∧ (β' b).n = 0 ∧ (β' b).cap = 0 := by
    intro b hn
    obtain ⟨c', hc'⟩ := hn.2
    have hk := chkBx_get h2 b c' hc'
    rw [hn.1] at hk
    refine ⟨?_, by simp only [β', if_pos hn], by simp only [β', if_pos hn], by simp only [β', if_pos hn]⟩
    cases c' with
    | cells l => simp [chkBx1] at hk
    | mp => simp [chkBx1] at hk
    | lp => simp [chkBx1] at hk
    | row e k n c => exact ⟨e, k, n, c, hc'⟩
  have hold : ∀ b c', bget bx' b = some c' → ¬ newIn bx bx' b → ∃ c, bget bx b = some c := by
    intro b c' hc' hnew
    cases hbb : bget bx b with
    | none => exact absurd ⟨hbb, c', hc'⟩ hnew
    | some c0 => exact ⟨c0, rfl⟩
  refine ⟨β', ⟨fun b c' hc' => ?_, fun b c b' c' g hb hb' hne hg hg' => ?_, fun b c hb => idsLt_get h3 b c hb, fun b c g hb hg => ?_, h.mem.below⟩, fun t => vsub_rep hB hA hN _ _ _ (chkFr_get h1 t) (h.fr t), ?_, h.df.mono (Nat.le_refl _) (fun g hg hx => ⟨hA g hg hx, rfl⟩), fun f hf => (hsn f hf).2⟩
  · have hk := chkBx_get h2 b c' hc'
    by_cases hnew : newIn bx bx' b
    · obtain ⟨_, e1, e2, e3⟩ := hN b hnew
      rw [hnew.1] at hk
      cases c' with
      | cells l => simp [chkBx1] at hk
      | mp => simp [chkBx1] at hk
      | lp => simp [chkBx1] at hk
      | row e k n c =>
        obtain ⟨rfl, hk0⟩ := hk
        exact ⟨e2, hk0, Nat.zero_le _, [], by rw [e1, e3]; exact World.ownsRow_nil w _ e k, fun i hi => by omega⟩
    · obtain ⟨c0, hc0⟩ := hold b c' hc' hnew
      rw [hc0] at hk
      have hbo := h.mem.bx b c0 hc0
      cases c0 with
      | cells l =>
        cases c' with
        | row => simp [chkBx1] at hk
        | mp => simp [chkBx1] at hk
        | lp => simp [chkBx1] at hk
        | cells l' =>
          obtain ⟨hl, g, ys, ty, p1, p2, p3⟩ := hbo
          exact ⟨hk.1, g, ys, ty, by rw [hβ b _ hc0]; exact p1, p2, vsub_rep hB hA hN _ _ _ hk.2 p3⟩
      | lp g fr1 ps ca cb st =>
        cases c' with
        | row => simp [chkBx1] at hk
        | cells => simp [chkBx1] at hk
        | mp => simp [chkBx1] at hk
        | lp g' fr1' ps' ca' cb' st' =>
          obtain ⟨rfl, rfl, rfl, rfl, rfl, hcc⟩ := hk
          obtain ⟨p1, rec, nt, p2, p3, p4, p5⟩ := hbo
          exact ⟨by rw [hβ b _ hc0]; exact p1, rec, nt, p2, p3, p4, fun t => vsub_rep hB hA hN _ _ _ (chkFr_get hcc t) (p5 t)⟩
      | mp kd has f =>
        cases c' with
        | row => simp [chkBx1] at hk
        | cells => simp [chkBx1] at hk
        | lp => simp [chkBx1] at hk
        | mp kd' has' f' =>
          obtain ⟨rfl, hcc⟩ := hk
          obtain ⟨g, m, p1, p2, p3⟩ := hbo
          refine ⟨g, m, by rw [hβ b _ hc0]; exact p1, p2, fun k => ⟨fun hk => (p3 k).1 (by rw [← (hcc k).1]; exact hk), fun hk => ?_⟩⟩
          have hk' : has k = true := by rw [← (hcc k).1]; exact hk
          obtain ⟨y, hy, hr⟩ := (p3 k).2 hk'
          exact ⟨y, hy, vsub_rep hB hA hN _ _ _ ((hcc k).2 hk') hr⟩
      | row e k n c =>
        cases c' with
        | cells l' => simp [chkBx1] at hk
        | mp => simp [chkBx1] at hk
        | lp => simp [chkBx1] at hk
        | row e' k' n' c2 =>
          obtain ⟨rfl, rfl, rfl, hcc⟩ := hk
          obtain ⟨p1, p2, p3, xs, p4, p5⟩ := hbo
          refine ⟨by rw [hβ b _ hc0]; exact p1, p2, p3, xs, by rw [hβ b _ hc0]; exact p4, fun i hi j hj => ?_⟩
          obtain ⟨y, hy, ho, hr⟩ := p5 i hi j hj
          exact ⟨y, hy, ho, RepP.weak hA (vsubP_rep _ _ _ (hcc i hi j hj) hr)⟩
  · by_cases hn : newIn bx bx' b
    · simp only [β', if_pos hn] at hg; cases hg
    · by_cases hn' : newIn bx bx' b'
      · simp only [β', if_pos hn'] at hg'; cases hg'
      · obtain ⟨c0, hc0⟩ := hold b c hb hn
        obtain ⟨c1, hc1⟩ := hold b' c' hb' hn'
        rw [hβ b _ hc0] at hg
        rw [hβ b' _ hc1] at hg'
        exact h.mem.inj b c0 b' c1 g hc0 hc1 hne hg hg'
  · by_cases hn : newIn bx bx' b
    · simp only [β', if_pos hn] at hg; cases hg
    · obtain ⟨c0, hc0⟩ := hold b c hb hn
      rw [hβ b _ hc0] at hg
      exact h.mem.base b c0 g hc0 hg
  · have hst := h.st
    have hsn' : ∀ f ∈ stk, f.nx ≤ ne := fun f hf => (hsn f hf).1
    clear hsn
    have hgen : ∀ {stk : List SFrame} {as : List Act}, (∀ f ∈ stk, f.nx ≤ ne) → StkR A0 w0 β (bget bx) w stk as → StkR A0 w0 β' (bget bx') w stk as := by
      intro stk; induction stk with
      | nil => intro as _ hs; cases as <;> exact hs
      | cons f l ih =>
        intro as hsn hs
        cases as with
        | nil => exact hs
        | cons a as =>
          refine ⟨fun t => Rep.mono (Nat.le_refl _) (fun g hg hx => ⟨hA g hg hx, rfl⟩) (fun b c hb => ?_) _ _ (hs.1 t), ih (fun f hf => hsn f (by simp [hf])) hs.2⟩
          simp only [Bres] at hb ⊢
          split at hb
          · rename_i hlt
            rw [if_pos hlt]
            obtain ⟨c', hc'⟩ := kept_get h4 b c hb (Nat.lt_of_lt_of_le hlt (hsn f (by simp)))
            exact hB b c hb ⟨c', hc'⟩
          · cases hb
    exact hgen hsn' hst
theorem stk_eq : ∀ {stk stk' : List SFrame}, skel stk = skel stk' → stkFr stk = stkFr stk' → stk = stk' := by
  intro stk; induction stk with
  | nil => intro stk' h _; cases stk' with
    | nil => rfl
    | cons => simp [skel] at h
  | cons f l ih =>
    intro stk' h1 h2
    cases stk' with
    | nil => simp [skel] at h1
    | cons f' l' =>
      simp only [skel, List.map_cons, List.cons.injEq, Prod.mk.injEq] at h1
      simp only [stkFr, List.cons.injEq] at h2
      obtain ⟨⟨e1, e2, e3, e4⟩, h1⟩ := h1
      obtain ⟨e5, h2⟩ := h2
      rw [ih h1 h2]
      cases f; cases f'
      simp at e1 e2 e3 e4 e5
      simp [e1, e2, e3, e4, e5]
theorem bdel_bset (b : Nat) (c : Box) : ∀ bx : Bx, bdel (bset bx b c) b = bdel bx b := by
  intro bx; induction bx with
  | nil => simp [bset, bdel]
  | cons p l ih =>
    obtain ⟨t, v⟩ := p
    simp only [bset]
    by_cases h : t = b
    · simp [h, bdel]
    · simp [h, bdel, ih]
theorem sound (he : EnvOk P E A0 w0) : ∀ n, Sound P E A0 w0 Qf n := by
  intro n
  induction n using Nat.strongRecOn with
  | _ n IH =>
  intro K stk res fr bx nx hrun nt ro Qb next Q a w β as sk hsz hrel hsk hkr hret
  cases n with
  | zero => simp [run] at hrun
  | succ n =>
  have IH' : ∀ m, m ≤ n → Sound P E A0 w0 Qf m := fun m hm => IH m (by omega)
  have hgo : ∀ {K' : List Item} {next' : Act → World → Prop} {Q' : Exit → Act → World → Prop}, ends K' = ends K → KR P A0 w0 nt ro Qb as sk K' next' Q' → Goes P E A0 w0 Qf n nt as sk res K' next' := by
    intro K' next' Q' hends hk m β' stk' fr' bx' nx' a' w' hm hsz' hrel' hsk' hrun'
    exact IH' m hm K' stk' res fr' bx' nx' hrun' nt ro Qb next' Q' a' w' β' as sk hsz' hrel' hsk' hk (by rw [hends]; exact hret.mono (by omega))
  have hrofs := hkr.rofs
  have hret0 := hret
  cases hkr with
  | nil hro =>
    simp only [run] at hrun
    refine (hret.2 β stk fr bx nx a w hrel hsk ⟨hrun.1, ?_⟩).2
    cases stk with
    | nil => exact hrun.2
    | cons f s => exact ⟨n, by omega, hrun.2⟩
  | @rend b g hro =>
    simp only [run] at hrun
    exact (hret.2 β stk fr bx nx a w n hrel hsk (by omega)).1 hrun
  | @lend b g K nx' Q' hk =>
    simp only [run] at hrun
    split at hrun
    · rename_i g' fr1 ps ca cb st hb
      obtain ⟨rfl, hrun⟩ := hrun
      obtain ⟨rec, nt', l1, l2, l3, l4, l5⟩ := hrel.lpget hb
      have hr1 := hrel.lpset (s := .exhausted) (pd := rec.pending) (st' := .over) hb l2 trivial
      have hr2 := hr1.drop (b := b) (by rw [bget_bset, if_pos rfl])
      rw [bdel_bset] at hr2
      cases st with
      | ready =>
        refine ⟨_, _, run_endLoop l2 (by rw [l4.1]; simp), ?_⟩
        rw [l4.2] at hr2 ⊢
        exact hgo (by rfl) hk n β (subStk b .und stk) _ _ nx a _ (Nat.le_refl _) hsz hr2 ((skel_sub b .und stk).trans hsk) hrun
      | busy => exact hrun.elim
      | over => exact hrun.elim
      | done c =>
        refine ⟨_, _, run_endLoop l2 (by rw [l4.1]; simp), ?_⟩
        rw [l4.2] at hr2 ⊢
        have hcc : cCode P nt c.code = some c.acode := by cases c <;> rfl
        have := hgo (by rfl) (KR.code hcc hk) n β (subStk b .und stk) _ _ nx a _ (Nat.le_refl _) hsz hr2 ((skel_sub b .und stk).trans hsk) hrun
        exact this
    · exact hrun.elim
  | @rbeg b g K nx' Q' hends hk =>
    simp only [run] at hrun
    split at hrun
    · rename_i g' fr1 ps ca cb hb
      obtain ⟨rfl, hrun⟩ := hrun
      obtain ⟨rec, nt', l1, l2, l3, ⟨l4, l4'⟩, l5⟩ := hrel.lpget hb
      refine ⟨_, run_beginRound l2 l4, ?_⟩
      exact hgo (by rfl) hk n β stk fr _ nx a _ (Nat.le_refl _) hsz (hrel.lpset (s := .busy) (pd := rec.pending) (st' := .busy) hb l2 rfl) hsk hrun
    · exact hrun.elim
  | @blk id K nx' Q' hk => simp only [run] at hrun; exact hgo (by rfl) hk n β stk fr bx nx a w (Nat.le_refl _) hsz hrel hsk hrun
  | @inv J K nx' Q' nxt hk hj => simp only [run] at hrun; exact hj β stk fr bx nx a w hsz hrel hsk hrun
  | @ops ops i l K nx' Q' hc hk =>
    cases l with
    | nil =>
      simp only [run] at hrun
      have hi : ops.size ≤ i := by
        rcases Nat.lt_or_ge i ops.size with h | h
        · have hne : ops.toList.drop i ≠ [] := by simp; omega
          cases hd : ops.toList.drop i with
          | nil => exact absurd hd hne
          | cons x y => rw [hd] at hc; simp only [cOpers] at hc; split at hc <;> simp at hc
        · exact h
      have : ops.size - i = 0 := by omega
      rw [this]
      simp only [List.range'_zero, wpOpsIn]
      exact hgo (by rfl) hk n β stk fr bx nx a w (Nat.le_refl _) hsz hrel hsk hrun
    | cons ao l =>
      cases hd : ops.toList.drop i with
      | nil => rw [hd] at hc; simp [cOpers] at hc
      | cons o rest =>
        rw [hd] at hc
        simp only [cOpers] at hc
        split at hc
        · rename_i ao' l' h1 h2
          simp at hc
          obtain ⟨rfl, rfl⟩ := hc
          have hlt : i < ops.size := by
            rcases Nat.lt_or_ge i ops.size with h | h
            · exact h
            · rw [List.drop_eq_nil_of_le (by simpa using h)] at hd; cases hd
          have hget : ops[i]? = some o := by
            have := congrArg List.head? hd
            rw [List.head?_drop] at this
            simpa using this
          have hrest : ops.toList.drop (i + 1) = rest := by
            rw [← List.drop_drop, hd]; rfl
          have hstep := op_step (ro := ro) (Q := Exit.then nx' Q) (knext := wpOpsIn (FW ro) 0 P ops (Exit.then nx' Q) (List.range' (i + 1) (ops.size - (i + 1)))) he IH' h1 hsz hrel hsk
            (hgo (by rfl) (KR.ops (ops := ops) (i := i + 1) (by rw [hrest]; exact h2) hk)) hrun
          have hrange : List.range' i (ops.size - i) = i :: List.range' (i + 1) (ops.size - (i + 1)) := by
            rw [show ops.size - i = (ops.size - (i + 1)) + 1 from by omega, List.range'_succ]
          rw [hrange]
          simp only [wpOpsIn, hget]
          exact hstep
        · cases hc
  | @code c ac K nx' Q' hc hk =>
    cases c with
    | skip => simp [cCode] at hc; subst hc; simp only [run] at hrun; exact wpIn_skip (hgo (by rfl) hk n β stk fr bx nx a w (Nat.le_refl _) hsz hrel hsk hrun)
    | label l => simp [cCode] at hc; subst hc; simp only [run] at hrun; exact wpIn_label (hgo (by rfl) hk n β stk fr bx nx a w (Nat.le_refl _) hsz hrel hsk hrun)
    | seq x y =>
      simp only [cCode] at hc
      split at hc <;> simp at hc
      rename_i ax ay h1 h2
      subst hc
      simp only [run] at hrun
      have := hgo (by rfl) (KR.code h1 (KR.code h2 hk)) n β stk fr bx nx a w (Nat.le_refl _) hsz hrel hsk hrun
      refine wpIn_seq (wpIn_mono this fun e a w hq => ?_)
      cases e <;> exact hq
    | cond q x y =>
      simp only [cCode] at hc
      split at hc <;> simp at hc
      rename_i oq ax ay h0 h1 h2
      subst hc
      simp only [run] at hrun
      have hq := ev_rep he hrel.mem (x := q) (fun t _ => hrel.fr t) oq h0
      split at hrun
      · rename_i t ht
        rw [ht] at hq
        exact wpIn_cond_split hq (fun ht => hgo (by rfl) (KR.code h1 hk) n β stk fr bx nx a w (Nat.le_refl _) hsz hrel hsk (hrun.1 ht)) (fun ht => hgo (by rfl) (KR.code h2 hk) n β stk fr bx nx a w (Nat.le_refl _) hsz hrel hsk (hrun.2 ht))
      · exact hrun.elim
    | block id x =>
      simp only [cCode] at hc
      obtain ⟨ax, h1, rfl⟩ := Option.map_eq_some_iff.1 hc
      simp only [run] at hrun
      have := hgo (by rfl) (KR.code h1 (KR.blk (id := id) hk)) n β stk fr bx nx a w (Nat.le_refl _) hsz hrel hsk hrun
      refine wpIn_block (wpIn_mono this fun e a w hq => ?_)
      cases e <;> exact hq
    | exit id =>
      simp [cCode] at hc; subst hc
      simp only [run] at hrun
      split at hrun
      · rename_i K' hpop
        obtain ⟨h0, nx2, Q2, h1, h2⟩ := hk.pop hpop
        exact wpIn_exit (h2 a w (hgo h0 h1 n β stk fr bx nx a w (Nat.le_refl _) hsz hrel hsk hrun))
      · rename_i hpop
        split at hrun
        · rename_i b g hends
          obtain ⟨ha, hrun⟩ := hrun
          have hend : ends (.code (ACode.exit id) :: K) = some (b, g) := hends
          rw [hend] at hret
          exact wpIn_exit (hk.esc hpop ha a w ((hret.2 β stk fr bx nx a w n hrel hsk (by omega)).2 (.exit id) hrun))
        · exact hrun.elim
    | ret =>
      simp [cCode] at hc; subst hc
      simp only [run] at hrun
      split at hrun
      · rename_i b g hends
        obtain ⟨ha, hrun⟩ := hrun
        have hend : ends (.code ACode.ret :: K) = some (b, g) := hends
        rw [hend] at hret
        exact wpIn_ret (hk.ret ha a w ((hret.2 β stk fr bx nx a w n hrel hsk (by omega)).2 .ret hrun))
      · rename_i hends
        have hend : ends (.code ACode.ret :: K) = none := hends
        rw [hend] at hret
        refine wpIn_ret (hk.ret (hk.asg hends) a w (hret.2 β stk fr bx nx a w hrel hsk ⟨hrun.1, ?_⟩).1)
        cases stk with
        | nil => exact hrun.2
        | cons f s => exact ⟨n, by omega, hrun.2⟩
    | scope x =>
      simp only [cCode] at hc
      obtain ⟨ax, h1, rfl⟩ := Option.map_eq_some_iff.1 hc
      simp only [run] at hrun
      have := hgo (by rfl) (KR.code h1 hk) n β stk fr bx nx a w (Nat.le_refl _) hsz hrel hsk hrun
      refine wpIn_scope (wpIn_mono this fun e a w hq => ?_)
      cases e with
      | goto l => exact (hk.nogoto hret.1 l a w hq).elim
      | _ => exact hq
    | rangeFunc f ps x y =>
      simp only [cCode] at hc
      split at hc
      · rename_i of ax ay h1 h2 h3
        split at hc
        · rename_i hps
          simp at hc; subst hc
          simp only [run] at hrun
          exact range_step he IH' h1 h2 h3 (fun t ht => by simpa using List.all_eq_true.1 hps t ht) (K := K) hk.rofs (fun b g => hgo (by rfl) (KR.lend (b := b) hk)) hsz hrel hsk hrun
        · cases hc
      · cases hc
    | loop x =>
      simp only [cCode] at hc
      obtain ⟨ax, h1, rfl⟩ := Option.map_eq_some_iff.1 hc
      simp only [run, LoopP] at hrun
      obtain ⟨d, T, ⟨m0, fr0, bx0, hT0, hchk0⟩, hround⟩ := hrun
      have hsn := hrel.sn
      obtain ⟨β0, hrel0⟩ := hrel.chk hchk0 (fun f hf => ⟨hsn f hf, Nat.le_trans (hsn f hf) (Nat.le_add_right nx d)⟩)
      let J : Nat → Act → World → Prop := fun m a w => nt ≤ a.tmps.size ∧ ∃ β fr' bx', T m fr' bx' ∧ Rel P A0 w0 β stk as fr' bx' (nx + d) a w
      refine wp_loop_fam J (m := m0) ⟨hsz, β0, fr0, bx0, hT0, hrel0⟩ ?_
      rintro m a1 w1 ⟨hsz1, β1, fr1, bx1, hT1, hrel1⟩
      have := hgo (by rfl) (KR.code h1 (KR.inv (J := fun s fr1 bx1 => s = stkFr stk ∧ ∃ m', m' < m ∧ ∃ fr'' bx'', T m' fr'' bx'' ∧ Chk fr1 bx1 fr'' bx'' nx (nx + d)) (nxt := fun a' w' => ∃ m', m' < m ∧ J m' a' w') hk ?_)) n β1 stk fr1 bx1 (nx + d) a1 w1 (Nat.le_refl _) hsz1 hrel1 hsk (hround m fr1 bx1 hT1)
      · refine wpIn_mono this fun e a w hq => ?_
        cases e <;> exact hq
      · rintro β2 stk2 fr2 bx2 n2 a2 w2 hsz2 hrel2 hsk2 ⟨hs, m', hm', fr3, bx3, hT3, hchk⟩
        have hstk : stk2 = stk := stk_eq (hsk2.trans hsk.symm) hs
        subst hstk
        obtain ⟨β3, hrel3⟩ := hrel2.chk hchk (fun f hf => ⟨hsn f hf, Nat.le_trans (hsn f hf) (Nat.le_add_right nx d)⟩)
        exact ⟨m', hm', hsz2, β3, fr3, bx3, hT3, hrel3⟩
    | region id ops draw =>
      simp only [cCode] at hc
      split at hc
      · rename_i l h1
        cases draw with
        | false =>
          simp at hc; subst hc
          simp only [run] at hrun
          have := hgo (by rfl) (KR.ops (ops := ops) (i := 0) (by simpa using h1) hk) n β stk fr bx nx a w (Nat.le_refl _) hsz hrel hsk hrun
          refine wpIn_region ?_
          rw [List.range_eq_range']
          simpa using this
        | true =>
          simp only [if_true] at hc
          obtain ⟨⟨d, l'⟩, hd, rfl⟩ := Option.map_eq_some_iff.1 hc
          simp only [run] at hrun
          refine wpIn_region_any he.mixed ?_
          exact drawn_region he IH' h1 hd hrun hsz hrel.drew hsk (hgo (by rfl) hk) (fun a w h => h)
      · cases hc
    | _ => simp [cCode] at hc
end Go.Proofs.YtbhhcnonooiokaaDoor
