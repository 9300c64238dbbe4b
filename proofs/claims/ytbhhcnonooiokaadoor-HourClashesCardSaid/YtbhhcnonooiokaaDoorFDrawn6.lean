/- The engine, part 20f: a region whose order is drawn: whatever the order, it comes to what the checked order comes to. No condition. -/
import Derived.Test.YtbhhcnonooiokaaDoorFDrawn5
namespace Go.Proofs.YtbhhcnonooiokaaDoor
open Go Go.RowKit
variable {P : Program} {E : Env} {A0 : Nat → Prop} {w0 : World} {Qf : Val → Bx → Prop}
theorem drawn_region {n : Nat} {ro : Option Nat} (he : EnvOk P E A0 w0) (IH : ∀ m, m ≤ n → Sound P E A0 w0 Qf m) {ops : Array Oper} {nt : Nat} {l l' : List AOper} {d : Nat} (hc : cOpers P ops.toList nt ops.toList = some l) (hd : cDraw ops.toList l = some (d, l'))
    {K : List Item} {stk : List SFrame} {res : List ARes} {fr : Fr} {bx : Bx} {nx : Nat} {a : Act} {w : World} {β : Nat → Loc} {as : List Act} {sk : List (Option Nat × List Item × List ARes × Nat)} {nxt : Act → World → Prop} {Q : Exit → Act → World → Prop}
    (hrun : run E Qf n (.ops d l' :: K) stk res fr bx nx) (hsz : nt ≤ a.tmps.size) (hrel : Rel P A0 w0 β stk as fr bx nx a w) (hsk : skel stk = sk) (hk : Goes P E A0 w0 Qf n nt as sk res K nxt) (hq : ∀ a w, nxt a w → Q .normal a w) :
    wpAnyIn (FW ro) 0 P .any ops Q ops.size (Array.replicate ops.size false) a w := by
  obtain ⟨ord, hD, hl'⟩ := drO_of hd
  obtain ⟨hlen, hget⟩ := cOpers_get _ _ hc
  have hlen' : l.length = ops.size := by simpa using hlen
  have hdn : d ≤ ops.size := by simpa using hD.dn
  have hl'len : d ≤ l'.length := by rw [hl']; simp [drawnL, hD.len]
  have hdrop : l'.drop d = l.drop d := by
    rw [hl', List.drop_append_of_le_length (by simp [drawnL, hD.len])]
    rw [List.drop_eq_nil_of_le (by simp [drawnL, hD.len])]; rfl
  obtain ⟨FR, BX, NX, ST, e1, e2, e3, e4, hst0, m0, hm0, htail⟩ := trace2 d n l' K stk res fr bx nx (Nat.le_refl _) hl'len hrun
  rw [hdrop] at htail
  generalize hm : aheads [] ops.toList = m at *
  let O : Nat → Nat := fun p => ord.getD p 0
  let AO : Nat → AOper := fun i => l.getD i dflt
  have hg : ∀ i, i < ops.size → ∃ o, ops[i]? = some o ∧ l[i]? = some (AO i) ∧ cOper P ops.toList nt o = some (AO i) ∧ (AO i).dst = o.dst := by
    intro i hi
    obtain ⟨ao, h1, h2⟩ := hget i ops[i] (by simp [hi])
    have h3 : AO i = ao := by simp only [AO, List.getD_eq_getElem?_getD, h1, Option.getD_some]
    exact ⟨ops[i], Array.getElem?_eq_getElem hi, by rw [h3]; exact h1, by rw [h3]; exact h2, by rw [h3]; exact (cOper_spec h2).2.2.1⟩
  have hOlt : ∀ p, p < d → O p < ops.size := fun p hp => Nat.lt_of_lt_of_le (hD.lt p hp) hdn
  have hS : ∀ p, p < d → StepA E { AO (O p) with re := reL l m ord p (O p) } (FR p) (BX p) (NX p) (ST p) (FR (p + 1)) (BX (p + 1)) (NX (p + 1)) (ST (p + 1)) := by
    intro p hp
    refine hst0 p _ hp ?_
    rw [hl']; exact drawnL_get hD.len hp
  -- names
  have hlt : ∀ p, p ≤ d → ∀ b c, bget (BX p) b = some c → b < NX p := by
    intro p; induction p with
    | zero => intro _; rw [e2, e3]; exact hrel.mem.nx
    | succ p ih => intro hp; exact (step_lt (hS p (by omega)) (ih (by omega))).2.1
  have hnn : ∀ p, p ≤ d → bget (BX p) (NX p) = none := by
    intro p hp
    cases hb : bget (BX p) (NX p) with
    | none => rfl
    | some c => exact absurd (hlt p hp _ c hb) (Nat.lt_irrefl _)
  have hmon1 : ∀ p, p < d → NX p ≤ NX (p + 1) := fun p hp => (step_lt (hS p hp) (hlt p (by omega))).1
  have hmon : ∀ q p, q ≤ p → p ≤ d → NX q ≤ NX p := by
    intro q p hqp
    induction p with
    | zero => intro _; obtain rfl : q = 0 := by omega
              exact Nat.le_refl _
    | succ p ih =>
      intro hp
      by_cases e : q = p + 1
      · subst e; exact Nat.le_refl _
      · have := ih (by omega) (by omega)
        have := hmon1 p (by omega)
        omega
  have hskST : ∀ p, p ≤ d → skel (ST p) = sk := by
    intro p; induction p with
    | zero => intro _; rw [e4]; exact hsk
    | succ p ih => intro hp; exact (step_lt (hS p (by omega)) (hlt p (by omega))).2.2.trans (ih (by omega))
  have huniq : ∀ q p t, q < d → p < d → (AO (O q)).dst = some t → (AO (O p)).dst = some t → q = p := by
    have key : ∀ q p t, q < p → p < d → (AO (O q)).dst = some t → (AO (O p)).dst = some t → False := by
      intro q p t h1 h2 h3 h4
      obtain ⟨x, hx, _, _, hdx⟩ := hg (O q) (hOlt q (by omega))
      obtain ⟨y, hy, _, _, hdy⟩ := hg (O p) (hOlt p h2)
      have := (apart_spec hD.apart (i := O q) (j := O p) (by simpa using hx) (by simpa using hy) (hD.ne q p h1 h2) (by rw [← hdx]; exact h3)).1
      rw [← hdy] at this
      exact this h4
    intro q p t h1 h2 h3 h4
    rcases Nat.lt_trichotomy q p with h | h | h
    · exact (key q p t h h2 h3 h4).elim
    · exact h
    · exact (key p q t h h1 h4 h3).elim
  have hsoftI : ∀ i, softI l i = softA (AO i).op := fun i => rfl
  -- readiness
  let CL : Array Bool → Prop := fun L => ∀ j o, ops.toList[j]? = some o → L.getD j false = true → ∀ e ∈ o.after.toList, Region.binds .any e = true → L.getD e.on false = true
  have hset : ∀ (L : Array Bool) i, i < L.size → ∀ k, (L.setIfInBounds i true).getD k false = if k = i then true else L.getD k false := by
    intro L i hi k
    simp only [Array.getD_eq_getD_getElem?]
    by_cases h : k = i
    · subst h; simp [hi]
    · rw [if_neg h, Array.getElem?_setIfInBounds_ne (fun e => h e.symm)]
  have hdtf : ∀ (L : Array Bool) i, L.size = ops.size → i < ops.size → L.getD i true = L.getD i false := by
    intro L i h1 h2; simp [Array.getD, h1, h2]
  have hready : ∀ (L : Array Bool) i, L.size = ops.size → CL L → i ∈ Region.ready .any ops L → i < ops.size ∧ L.getD i false = false ∧ ∀ j, aheadB m j i = true → L.getD j false = true := by
    intro L i hs hcl hi
    obtain ⟨h1, h2, o, ho, h3⟩ := mem_ready.1 hi
    refine ⟨h1, by rw [← hdtf L i hs h1]; exact h2, fun j hj => ?_⟩
    exact ahead_listed (L := fun k => L.getD k false) hD.after hcl i o (by simpa using ho) h3 j (by rw [hm]; exact hj)
  have hlisted : ∀ (L : Array Bool) j, CL L → j < ops.size → L.getD j false = true → ∀ i, aheadB m i j = true → L.getD i false = true := by
    intro L j hcl hj hlj i hi
    obtain ⟨o, h1, _⟩ := hg j hj
    exact ahead_listed (L := fun k => L.getD k false) hD.after hcl j o (by simpa using h1) (hcl j o (by simpa using h1) hlj) i (by rw [hm]; exact hi)
  have hclset : ∀ (L : Array Bool) i, L.size = ops.size → CL L → i ∈ Region.ready .any ops L → CL (L.setIfInBounds i true) := by
    intro L i hs hcl hi j o ho hj e he' hb
    obtain ⟨h1, h2, o', ho', h3⟩ := mem_ready.1 hi
    rw [hset L i (by omega)] at hj ⊢
    by_cases hji : j = i
    · subst hji
      have : o = o' := by rw [show ops.toList[j]? = ops[j]? from by simp] at ho; rw [ho'] at ho; simpa using ho.symm
      subst this
      split
      · rfl
      · exact h3 e he' hb
    · rw [if_neg hji] at hj
      split
      · rfl
      · exact hcl j o ho hj e he' hb
  have hsomeready : ∀ (L : Array Bool), L.size = ops.size → (∃ i, i < ops.size ∧ L.getD i false = false) → Region.ready .any ops L ≠ [] := by
    rintro L hs ⟨i, hi, hli⟩ hnil
    have hmin : ∀ i, i < ops.size → L.getD i false = false → False := by
      intro i
      induction i using Nat.strongRecOn with
      | _ i ih =>
      intro hi hli
      have : i ∈ Region.ready .any ops L := by
        refine mem_ready.2 ⟨hi, by rw [hdtf L i hs hi]; exact hli, ops[i], Array.getElem?_eq_getElem hi, fun e he' hb => ?_⟩
        cases hle : L.getD e.on false
        · have hlt : e.on < i := by
            have := List.all_eq_true.1 hD.after i (by simpa using hi)
            simp only [show ops.toList[i]? = some ops[i] from by simp [hi]] at this
            have := List.all_eq_true.1 this e he'
            simpa [hb] using this
          exact (ih e.on hlt (by omega) hle).elim
        · rfl
      rw [hnil] at this
      cases this
    exact hmin i hi hli
  -- the ordered rest
  have phase2 : ∀ (fuel p m : Nat) (L : Array Bool) (a : Act) (w : World) (β : Nat → Loc) (stk : List SFrame) (fr : Fr) (bx : Bx) (nx : Nat), L.size = ops.size → CL L → cnt L ops.size = fuel → d ≤ p → (∀ i, i < ops.size → (L.getD i false = true ↔ i < p)) → m ≤ n → nt ≤ a.tmps.size → Rel P A0 w0 β stk as fr bx nx a w → skel stk = sk →
      run E Qf m (.ops 0 (l.drop p) :: K) stk res fr bx nx → wpAnyIn (FW ro) 0 P .any ops Q fuel L a w := by
    intro fuel
    induction fuel with
    | zero =>
      intro p m L a w β stk fr bx nx hs hcl hcnt hp hL hm hsz hrel hsk hrun
      have hall := cnt_zero hcnt
      have hpl : ops.size ≤ p := by
        rcases Nat.lt_or_ge p ops.size with h | h
        · have := (hL p h).1 (hall p h); omega
        · exact h
      refine ⟨?_, ?_⟩
      · apply List.eq_nil_iff_forall_not_mem.2
        intro i hi
        obtain ⟨h1, h2, _⟩ := hready L i hs hcl hi
        rw [hall i h1] at h2; cases h2
      · rw [List.drop_eq_nil_of_le (by omega)] at hrun
        cases m with
        | zero => simp [run] at hrun
        | succ m =>
          simp only [run] at hrun
          exact hq _ _ (hk m β stk fr bx nx a w (by omega) hsz hrel hsk hrun)
    | succ fuel ih =>
      intro p m' L a w β stk fr bx nx hs hcl hcnt hp hL hm' hsz hrel hsk hrun
      refine ⟨fun hnil => ?_, fun i hi => ?_⟩
      · have : ∃ i, i < ops.size ∧ L.getD i false = false := by
          apply Classical.byContradiction
          intro hno
          have h0 : cnt L ops.size = 0 := by
            unfold cnt
            rw [List.countP_eq_zero]
            intro k hk'
            cases hlk : L.getD k false
            · exact absurd ⟨k, by simpa using hk', hlk⟩ hno
            · simp
          omega
        exact absurd hnil (hsomeready L hs this)
      · obtain ⟨h1, h2, h3⟩ := hready L i hs hcl hi
        have hip : i = p := by
          have h4 : ¬ i < p := fun h => by rw [(hL i h1).2 h] at h2; cases h2
          rcases Nat.lt_or_ge p i with h | h
          · have := h3 p (hD.tail i (by omega) (by simpa using h1) p h)
            have := (hL p (by omega)).1 this
            omega
          · omega
        subst hip
        obtain ⟨o, g1, g2, g3, g4⟩ := hg i h1
        have hdrop : l.drop i = AO i :: l.drop (i + 1) := by
          obtain ⟨hlt, hge⟩ := List.getElem?_eq_some_iff.1 g2
          rw [List.drop_eq_getElem_cons hlt, hge]
        rw [hdrop] at hrun
        cases m' with
        | zero => simp [run] at hrun
        | succ m' =>
          have hcnt' : cnt (L.setIfInBounds i true) ops.size = fuel := by
            have := cnt_set (listed := L) (i := i) (by omega) h2 ops.size
            rw [if_pos h1] at this
            omega
          have hL' : ∀ k, k < ops.size → ((L.setIfInBounds i true).getD k false = true ↔ k < i + 1) := by
            intro k hk'
            rw [hset L i (by omega)]
            by_cases hki : k = i
            · subst hki; simp
            · rw [if_neg hki, hL k hk']; omega
          unfold wpOpIn
          rw [g1]
          refine op_step (ro := ro) (Q := Q) (n := m') he (fun m'' hm'' => IH m'' (by omega)) g3 hsz hrel hsk (l := l.drop (i + 1)) (K := K) (res := res) ?_ hrun
          intro m'' β' stk' fr' bx' nx' a' w' hm'' hsz' hrel' hsk' hrun'
          exact ih (i + 1) m'' (L.setIfInBounds i true) a' w' β' stk' fr' bx' nx' (by simp [hs]) (hclset L i hs hcl hi) hcnt' (by omega) hL' (by omega) hsz' hrel' hsk' hrun'
  -- the state while some are listed
  let Dm : Array Bool → Nat → Nat → Prop := fun L p t => ∃ q, q < p ∧ L.getD (O q) false = false ∧ (AO (O q)).dst = some t
  let Nm : Array Bool → Nat → Nat → Prop := fun L p b => ∃ q, q < p ∧ L.getD (O q) false = false ∧ NX (q + 1) ≠ NX q ∧ b = NX q
  let Inv : Array Bool → Nat → Act → World → Prop := fun L p a w => nt ≤ a.tmps.size ∧ (∃ β mf mb, Rel P A0 w0 β (ST p) as mf mb (NX p) a w ∧ Msk (Dm L p) (FR p) mf ∧ MskB (Nm L p) (BX p) mb) ∧
    ∀ q, q < p → L.getD (O q) false = false → softA (AO (O q)).op = true ∧ Good E (AO (O q)) (FR p) (BX p) (NX q) (NX (q + 1))
  have hext : ∀ (L : Array Bool) p a w, p < d → softA (AO (O p)).op = true → L.getD (O p) false = false → Inv L p a w → Inv L (p + 1) a w := by
    rintro L p a w hp hs hu ⟨i1, ⟨β, mf, mb, hr, hM, hB⟩, hG⟩
    have hstep := hS p hp
    obtain ⟨hst', v, hfr, _⟩ := step_soft hstep hs
    obtain ⟨_, _, hbne, hbnn, hnx⟩ := soft_mono hstep hs (hnn p (by omega))
    refine ⟨i1, ⟨β, fput mf (AO (O p)).dst .und, mb, by rw [hst']; exact (hr.putU _).more (hmon1 p hp), fun t => ?_, fun b => ?_⟩, fun q hq hlq => ?_⟩
    · rw [fget_fput]
      refine ⟨fun ht => ?_, fun ht => ?_⟩
      · obtain ⟨q, hq, h1, h2⟩ := ht
        split
        · rfl
        · rename_i hne
          refine (hM t).1 ⟨q, ?_, h1, h2⟩
          by_cases e : q = p
          · subst e; exact absurd h2 hne
          · omega
      · have hne : (AO (O p)).dst ≠ some t := fun e => ht ⟨p, by omega, hu, e⟩
        rw [if_neg hne, hfr, fget_fput, if_neg hne]
        exact (hM t).2 fun ⟨q, hq, h1, h2⟩ => ht ⟨q, by omega, h1, h2⟩
    · refine ⟨fun hb => ?_, fun hb => ?_⟩
      · obtain ⟨q, hq, h1, h2, rfl⟩ := hb
        by_cases e : q = p
        · subst e
          cases hbb : bget mb (NX q) with
          | none => rfl
          | some c => exact absurd (hr.mem.nx _ c hbb) (Nat.lt_irrefl _)
        · exact (hB _).1 ⟨q, by omega, h1, h2, rfl⟩
      · by_cases e : b = NX p
        · subst e
          have hnx1 : NX (p + 1) = NX p := by
            apply Classical.byContradiction
            intro h; exact hb ⟨p, by omega, hu, h, rfl⟩
          rw [hbnn hnx1]
          cases hbb : bget mb (NX p) with
          | none => rfl
          | some c => exact absurd (hr.mem.nx _ c hbb) (Nat.lt_irrefl _)
        · rw [hbne b e]
          exact (hB b).2 fun ⟨q, hq, h1, h2, h3⟩ => hb ⟨q, by omega, h1, h2, h3⟩
    · by_cases e : q = p
      · subst e
        have hgb := good_base hstep hs (hnn q (by omega)) (hD.own q hp)
        exact ⟨hs, hgb⟩
      · obtain ⟨h1, h2⟩ := hG q (by omega) hlq
        refine ⟨h1, good_soft h2 hstep hs (hnn p (by omega)) fun t ht => ⟨hD.rd q p (by omega) hp t ht, fun e' => e (huniq q p t (by omega) hp e' ht)⟩⟩
  have hexts : ∀ (k : Nat) (L : Array Bool) p a w, d - p = k → p ≤ d → (∀ q, p ≤ q → q < d → L.getD (O q) false = false) → Inv L p a w → ∃ p', p ≤ p' ∧ p' ≤ d ∧ (p' < d → softA (AO (O p')).op = false) ∧ Inv L p' a w := by
    intro k
    induction k with
    | zero => intro L p a w hk hp _ hI; exact ⟨p, Nat.le_refl _, hp, fun h => by omega, hI⟩
    | succ k ih =>
      intro L p a w hk hp hu hI
      cases hs : softA (AO (O p)).op with
      | false => exact ⟨p, Nat.le_refl _, hp, fun _ => hs, hI⟩
      | true =>
        obtain ⟨p', h1, h2, h3, h4⟩ := ih L (p + 1) a w (by omega) (by omega) (fun q hq => hu q (by omega)) (hext L p a w (by omega) hs (hu p (Nat.le_refl _) (by omega)) hI)
        exact ⟨p', by omega, h2, h3, h4⟩
  let FI : Array Bool → Act → World → Prop := fun L a w => ∃ p, p ≤ d ∧ (p < d → softA (AO (O p)).op = false) ∧ (∀ q, p ≤ q → q < d → L.getD (O q) false = false) ∧ Inv L p a w
  have toRel : ∀ (L : Array Bool) (a : Act) (w : World), FI L a w → (∀ k, k < d → L.getD k false = true) → ∃ β, Rel P A0 w0 β (ST d) as (FR d) (BX d) (NX d) a w := by
    rintro L a w ⟨p, hp, _, hu, _, ⟨β, mf, mb, hr, hM, hB⟩, _⟩ hall
    have hpd : p = d := by
      rcases Nat.lt_or_ge p d with h | h
      · have := hu p (Nat.le_refl _) h
        rw [hall (O p) (hD.lt p h)] at this; cases this
      · omega
    subst hpd
    refine ⟨β, hr.congr (fun t => ((hM t).2 fun ⟨q, hq, h1, _⟩ => by rw [hall (O q) (hD.lt q hq)] at h1; cases h1).symm) (funext fun b => ((hB b).2 fun ⟨q, hq, h1, _⟩ => by rw [hall (O q) (hD.lt q hq)] at h1; cases h1).symm)⟩
  have phase1 : ∀ (fuel : Nat) (L : Array Bool) (a : Act) (w : World), L.size = ops.size → CL L → cnt L ops.size = fuel → (∀ i, d ≤ i → i < ops.size → L.getD i false = false) → FI L a w → wpAnyIn (FW ro) 0 P .any ops Q fuel L a w := by
    intro fuel
    induction fuel with
    | zero =>
      intro L a w hs hcl hcnt hL hinv
      have hall := cnt_zero hcnt
      obtain ⟨β, hr⟩ := toRel L a w hinv fun k hk' => hall k (by omega)
      obtain ⟨_, _, _, _, hsz', _⟩ := hinv
      refine phase2 0 d m0 L a w β (ST d) (FR d) (BX d) (NX d) hs hcl hcnt (Nat.le_refl _) (fun i hi => ⟨fun h => ?_, fun _ => hall i hi⟩) hm0 hsz' hr (hskST d (Nat.le_refl _)) htail
      rcases Nat.lt_or_ge i d with h' | h'
      · exact h'
      · rw [hL i h' hi] at h; cases h
    | succ fuel ih =>
      intro L a w hs hcl hcnt hL hinv
      by_cases hall : ∀ k, k < d → L.getD k false = true
      · obtain ⟨β, hr⟩ := toRel L a w hinv hall
        obtain ⟨_, _, _, _, hsz', _⟩ := hinv
        refine phase2 (fuel + 1) d m0 L a w β (ST d) (FR d) (BX d) (NX d) hs hcl hcnt (Nat.le_refl _) (fun i hi => ⟨fun h => ?_, fun h => hall i h⟩) hm0 hsz' hr (hskST d (Nat.le_refl _)) htail
        rcases Nat.lt_or_ge i d with h' | h'
        · exact h'
        · rw [hL i h' hi] at h; cases h
      · have hex : ∃ k, k < d ∧ L.getD k false = false := by
          apply Classical.byContradiction
          intro hno
          refine hall fun k hk' => ?_
          cases hlk : L.getD k false
          · exact absurd ⟨k, hk', hlk⟩ hno
          · rfl
        obtain ⟨k0, hk0, hlk0⟩ := hex
        refine ⟨fun hnil => absurd hnil (hsomeready L hs ⟨k0, by omega, hlk0⟩), fun i hi => ?_⟩
        obtain ⟨h1, h2, h3⟩ := hready L i hs hcl hi
        have hid : i < d := by
          rcases Nat.lt_or_ge i d with h | h
          · exact h
          · rw [h3 k0 (hD.tail i h (by simpa using h1) k0 (by omega))] at hlk0; cases hlk0
        obtain ⟨o, g1, g2, g3, g4⟩ := hg i h1
        obtain ⟨s1, s2, s3, s4⟩ := cOper_spec g3
        have hcnt' : cnt (L.setIfInBounds i true) ops.size = fuel := by
          have := cnt_set (listed := L) (i := i) (by omega) h2 ops.size
          rw [if_pos h1] at this
          omega
        have hgoon : ∀ a' w', FI (L.setIfInBounds i true) a' w' → wpAnyIn (FW ro) 0 P .any ops Q fuel (L.setIfInBounds i true) a' w' := fun a' w' hinv' =>
          ih _ a' w' (by simp [hs]) (hclset L i hs hcl hi) hcnt' (fun k h4 h5 => by rw [hset L i (by omega), if_neg (by omega)]; exact hL k h4 h5) hinv'
        obtain ⟨p, hp, hpe, hpu, hsz', ⟨β, mf, mb, hr, hM, hB⟩, hG⟩ := hinv
        obtain ⟨q, hqd, hqi⟩ := hD.sur i hid
        have hOq : O q = i := hqi
        have hun : ∀ t, (t ∈ looks o ∨ (gsOf ops.toList).getD i none = some t) → ¬ Dm L p t := by
          rintro t ht ⟨q', hq', hl, hdt⟩
          obtain ⟨x, hx, _, _, hdx⟩ := hg (O q') (hOlt q' (by omega))
          have := hD.anti (O q') i t o (hD.lt q' (by omega)) hid (by simp only [show ops.toList[O q']? = some x from by simpa using hx, Option.bind_some]; rw [← hdx]; exact hdt) (by simpa using g1) ht
          rw [h3 _ this] at hl; cases hl
        have hgs : ∀ t wt, (AO i).guard = some (t, wt) → (gsOf ops.toList).getD i none = some t := by
          intro t wt hgt
          have : ops.toList[i]? = some o := by simpa using g1
          simp only [gsOf, List.getD_eq_getElem?_getD, List.getElem?_map, this, Option.map_some, s2, hgt, Option.getD_some]
        have hguard : ∀ t wt, (AO i).guard = some (t, wt) → RepM A0 w0 β (bget mb) w (fget (FR p) t) (a.tmps.getD t undef) := by
          intro t wt h
          rw [← (hM t).2 (hun t (.inr (hgs t wt h)))]
          exact hr.fr t
        have hdl : ∀ s, o.dst = some s → s < a.tmps.size := fun s hs' => Nat.lt_of_lt_of_le (s4 s hs') hsz'
        have hpd' : ∀ q', q' < d → q' ≠ q → (L.setIfInBounds i true).getD (O q') false = L.getD (O q') false := by
          intro q' hq' hne
          rw [hset L i (by omega), if_neg]
          intro e
          rcases Nat.lt_trichotomy q' q with h | h | h
          · exact hD.ne q' q h hqd (e.trans hOq.symm)
          · exact hne h
          · exact hD.ne q q' h hq' (hOq.trans e.symm)
        unfold wpOpIn
        rw [g1]
        simp only
        rcases Nat.lt_or_ge q p with hqp | hqp
        · -- it stores nothing, and may be late
          have hlq : L.getD (O q) false = false := by rw [hOq]; exact h2
          obtain ⟨hsf, hgood⟩ := hG q hqp hlq
          rw [hOq] at hsf hgood
          -- behind it
          have hback : ∀ β1 v new nm x w1, Rel P A0 w0 β1 (ST p) as (fput mf o.dst v) (addB nm new mb) (NX p) (a.put o.dst x) w1 → (∀ t, o.dst = some t → fget (FR p) t = v) → (∀ c, new = some c → nm = NX q ∧ bget (BX p) nm = some c ∧ NX (q + 1) ≠ NX q) → (new = none → NX (q + 1) = NX q) → FI (L.setIfInBounds i true) (a.put o.dst x) w1 := by
            intro β1 v new nm x w1 hr1 hv hn1 hn2
            refine ⟨p, hp, hpe, fun q' h4 h5 => by rw [hpd' q' h5 (by omega)]; exact hpu q' h4 h5, by rw [put_size]; exact hsz', ⟨β1, _, _, hr1, ?_, ?_⟩, fun q' h4 h5 => ?_⟩
            · refine hM.un (fun t => ⟨?_, ?_⟩) (fun t ht => ?_) hv
              · rintro ⟨q', h4, h5, h6⟩
                by_cases e : q' = q
                · subst e; rw [hOq, g4] at h6; exact .inr h6
                · exact .inl ⟨q', h4, by rw [hpd' q' (by omega) e]; exact h5, h6⟩
              · rintro (⟨q', h4, h5, h6⟩ | ht)
                · by_cases e : q' = q
                  · subst e; rw [hOq, hset L i (by omega), if_pos rfl] at h5; cases h5
                  · exact ⟨q', h4, by rw [hpd' q' (by omega) e] at h5; exact h5, h6⟩
                · exact ⟨q, hqp, hlq, by rw [hOq, g4]; exact ht⟩
              · rintro ⟨q', h4, h5, h6⟩
                have e : q' = q := huniq q' q t (by omega) hqd h6 (by rw [hOq, g4]; exact ht)
                subst e; rw [hOq, hset L i (by omega), if_pos rfl] at h5; cases h5
            · refine hB.un (fun b => ⟨?_, ?_⟩) (fun c hc' => ?_) (fun c hc' => (hn1 c hc').2.1)
              · rintro ⟨q', h4, h5, h6, rfl⟩
                by_cases e : q' = q
                · subst e
                  cases hnn' : new with
                  | none => exact absurd (hn2 hnn') h6
                  | some c => exact .inr ⟨⟨c, rfl⟩, (hn1 c hnn').1.symm⟩
                · exact .inl ⟨q', h4, by rw [hpd' q' (by omega) e]; exact h5, h6, rfl⟩
              · rintro (⟨q', h4, h5, h6, rfl⟩ | ⟨⟨c, hc'⟩, rfl⟩)
                · by_cases e : q' = q
                  · subst e; rw [hOq, hset L i (by omega), if_pos rfl] at h5; cases h5
                  · exact ⟨q', h4, by rw [hpd' q' (by omega) e] at h5; exact h5, h6, rfl⟩
                · exact ⟨q, hqp, hlq, (hn1 c hc').2.2, (hn1 c hc').1⟩
              · rintro ⟨q', h4, h5, h6, h7⟩
                rw [(hn1 c hc').1] at h7
                have e : q' = q := by
                  rcases Nat.lt_trichotomy q' q with h | h | h
                  · have := hmon (q' + 1) q (by omega) (by omega); have := hmon1 q' (by omega); omega
                  · exact h
                  · have := hmon (q + 1) q' (by omega) (by omega); have := hmon1 q (by omega); have := (hn1 c hc').2.2; omega
                subst e; rw [hOq, hset L i (by omega), if_pos rfl] at h5; cases h5
            · have hne : q' ≠ q := fun e => by subst e; rw [hOq, hset L i (by omega), if_pos rfl] at h5; cases h5
              exact hG q' h4 (by rw [hpd' q' (by omega) hne] at h5; exact h5)
          rcases hgood with ⟨k1, k2, k3⟩ | ⟨k1, k2, k3, k4, k5⟩
          · rw [wanted_of (A := Al A0 w0 (bget mb) β) (B := bget mb) (β := β) (w := w) s2 hguard k1]
            simp only [Bool.not_true, Bool.false_eq_true, if_false]
            refine ⟨fun _ _ => trivial, hgoon _ _ (hback β (.tup .nil) none 0 undef w (hr.void o.dst hdl) (fun t ht => k2 t (by rw [g4]; exact ht)) (fun c h => by cases h) fun _ => k3)⟩
          · rw [wanted_of (A := Al A0 w0 (bget mb) β) (B := bget mb) (β := β) (w := w) s2 hguard k1]
            simp only [Bool.not_false, if_true]
            have hsub : ∀ b c, bget mb b = some c → bget (BX p) b = some c := fun b c hb => (hB.ofSome hb).2
            have hnm : ∃ nm, bget mb nm = none ∧ (∀ c, (aop E (FR p) (BX p) (NX q) (AO i).op).new = some c → nm = NX q) ∧ aop E (FR p) (BX p) nm (AO i).op = aop E (FR p) (BX p) (NX q) (AO i).op := by
              cases hn : (aop E (FR p) (BX p) (NX q) (AO i).op).new with
              | none =>
                refine ⟨NX p, ?_, (fun c h => by cases h), aop_nx _ hn⟩
                cases hbb : bget mb (NX p) with
                | none => rfl
                | some c => exact absurd (hr.mem.nx _ c hbb) (Nat.lt_irrefl _)
              | some c => exact ⟨NX q, (hB _).1 ⟨q, hqp, hlq, by have := (k4 c hn).2; omega, rfl⟩, fun _ _ => rfl, rfl⟩
            obtain ⟨nm, hnm1, hnm2, hnm3⟩ := hnm
            refine soft_wp (E := E) (fr := FR p) (bx := BX p) (nx := nm) s1 hr.mem hnm1 hsub he.G he.S (fun x hx => ev_repB he hr.mem fun t ht => ?_) (by rw [hnm3]; exact k2) fun x w1 β1 hs' hv' => ?_
            · subst ht
              rw [← (hM t).2 (hun t (.inl (by simp only [looks, List.mem_filterMap]; exact ⟨.tmp t, hx, rfl⟩)))]
              exact hr.fr t
            · rw [hnm3] at hs' hv'
              refine hgoon _ _ (hback β1 (aop E (FR p) (BX p) (NX q) (AO i).op).v (aop E (FR p) (BX p) (NX q) (AO i).op).new nm x w1 (hr.softN hnm1 (fun c hc' => ?_) hs' hv' o.dst hdl) (fun t ht => k3 t (by rw [g4]; exact ht)) (fun c hc' => ⟨hnm2 c hc', by rw [hnm2 c hc']; exact (k4 c hc').1, by have := (k4 c hc').2; omega⟩) k5)
              rw [hnm2 c hc']
              have := (k4 c hc').2
              have := hmon (q + 1) p (by omega) hp
              omega
        · -- it is the next effect
          have hqe : q = p := by
            rcases Nat.lt_or_ge p q with h | h
            · have := hD.eff p q h hqd (hpe (by omega))
              rw [show ord.getD q 0 = i from hqi] at this
              have h5 := h3 _ this
              have h6 := hpu p (Nat.le_refl _) (by omega)
              rw [show ord.getD p 0 = O p from rfl, h6] at h5; cases h5
            · omega
          subst hqe
          have heff : softA (AO i).op = false := by rw [← hOq]; exact hpe hqd
          have hstep := hS q hqd
          rw [hOq] at hstep
          -- behind it
          have hDm : ∀ t, Dm (L.setIfInBounds i true) (q + 1) t ↔ Dm L q t := by
            intro t
            constructor
            · rintro ⟨q', h4, h5, h6⟩
              by_cases e : q' = q
              · subst e; rw [hOq, hset L i (by omega), if_pos rfl] at h5; cases h5
              · exact ⟨q', by omega, by rw [hpd' q' (by omega) e] at h5; exact h5, h6⟩
            · rintro ⟨q', h4, h5, h6⟩
              exact ⟨q', by omega, by rw [hpd' q' (by omega) (by omega)]; exact h5, h6⟩
          have hNm : ∀ b, Nm (L.setIfInBounds i true) (q + 1) b ↔ Nm L q b := by
            intro t
            constructor
            · rintro ⟨q', h4, h5, h6⟩
              by_cases e : q' = q
              · subst e; rw [hOq, hset L i (by omega), if_pos rfl] at h5; cases h5
              · exact ⟨q', by omega, by rw [hpd' q' (by omega) e] at h5; exact h5, h6⟩
            · rintro ⟨q', h4, h5, h6⟩
              exact ⟨q', by omega, by rw [hpd' q' (by omega) (by omega)]; exact h5, h6⟩
          have hback : ∀ β1 a1 w1 mf1 mb1, nt ≤ a1.tmps.size → Rel P A0 w0 β1 (ST (q + 1)) as mf1 mb1 (NX (q + 1)) a1 w1 → Msk (Dm L q) (FR (q + 1)) mf1 → MskB (Nm L q) (BX (q + 1)) mb1 →
              (∀ q', q' < q → L.getD (O q') false = false → Good E (AO (O q')) (FR (q + 1)) (BX (q + 1)) (NX q') (NX (q' + 1))) → FI (L.setIfInBounds i true) a1 w1 := by
            intro β1 a1 w1 mf1 mb1 hz1 hr1 hM1 hB1 hG1
            have hu' : ∀ q', q + 1 ≤ q' → q' < d → (L.setIfInBounds i true).getD (O q') false = false := fun q' h4 h5 => by rw [hpd' q' h5 (by omega)]; exact hpu q' (by omega) h5
            obtain ⟨p', h4, h5, h6, h7⟩ := hexts (d - (q + 1)) (L.setIfInBounds i true) (q + 1) a1 w1 rfl (by omega) hu' ⟨hz1, ⟨β1, mf1, mb1, hr1, fun t => by rw [hDm t]; exact hM1 t, fun b => by rw [hNm b]; exact hB1 b⟩, fun q' h8 h9 => by
              have hne : q' ≠ q := fun e => by subst e; rw [hOq, hset L i (by omega), if_pos rfl] at h9; cases h9
              have h10 : L.getD (O q') false = false := by rw [hpd' q' (by omega) hne] at h9; exact h9
              exact ⟨(hG q' (by omega) h10).1, hG1 q' (by omega) h10⟩⟩
            exact ⟨p', h5, h6, fun q' h8 h9 => hu' q' (by omega) h9, h7⟩
          have hgoodrd : ∀ q', q' < q → ∀ t, (AO i).dst = some t → t ∉ rdA (AO (O q')).op ++ gRd (AO (O q')).guard ∧ (AO (O q')).dst ≠ some t := by
            intro q' h4 t ht
            refine ⟨hD.rd q' q h4 hqd t (by show (AO (O q)).dst = some t; rw [hOq]; exact ht), fun e => ?_⟩
            have := huniq q' q t (by omega) hqd e (by rw [hOq]; exact ht)
            omega
          by_cases hskip : skipOp (FR q) (AO i).guard = some true
          · have hst' : FR (q + 1) = fput (FR q) (AO i).dst (.tup .nil) ∧ BX (q + 1) = BX q ∧ NX (q + 1) = NX q ∧ ST (q + 1) = ST q := by
              generalize hA : FR (q + 1) = fA at *
              generalize hBB : BX (q + 1) = bA at *
              generalize hNN : NX (q + 1) = nA at *
              generalize hSS : ST (q + 1) = sA at *
              have hno : ∀ {p : Prop}, skipOp (FR q) (AO i).guard = some false → p := fun h => by rw [hskip] at h; cases h
              cases hstep with
              | skip h => exact ⟨rfl, rfl, rfl, rfl⟩
              | soft h _ _ => exact hno h
              | store h => exact hno h
              | storeR h => exact hno h
              | appN h => exact hno h
              | appO h => exact hno h
              | mset h => exact hno h
            obtain ⟨f1, f2, f3, f4⟩ := hst'
            rw [wanted_of (A := Al A0 w0 (bget mb) β) (B := bget mb) (β := β) (w := w) s2 hguard hskip]
            simp only [Bool.not_true, Bool.false_eq_true, if_false]
            have hdm : ∀ t, o.dst = some t → ¬ Dm L q t := by
              rintro t ht ⟨q', h4, h5, h6⟩
              have := huniq q' q t (by omega) hqd h6 (by rw [hOq, g4]; exact ht)
              omega
            refine ⟨fun _ _ => trivial, hgoon _ _ (hback β _ w (fput mf o.dst (.tup .nil)) mb (by rw [put_size]; exact hsz') (by rw [f3, f4]; exact hr.void o.dst hdl) ?_ (by rw [f2]; exact hB) fun q' h4 h5 => ?_)⟩
            · rw [f1, g4]; exact hM.put _ hdm _
            · have hgq := (hG q' h4 h5).2
              have hr1 : ∀ t ∈ rdA (AO (O q')).op ++ gRd (AO (O q')).guard, fget (FR (q + 1)) t = fget (FR q) t := by
                intro t ht
                rw [f1, fget_fput, if_neg fun e => (hgoodrd q' h4 t e).1 ht]
              have hd1 : ∀ t, (AO (O q')).dst = some t → fget (FR (q + 1)) t = fget (FR q) t := by
                intro t ht
                rw [f1, fget_fput, if_neg fun e => (hgoodrd q' h4 t e).2 ht]
              have hsk' := skip_congr (fr := FR (q + 1)) (fr' := FR q) (g := (AO (O q')).guard) fun t ht => hr1 t (List.mem_append.2 (.inr ht))
              have ha' : ∀ nm, aop E (FR (q + 1)) (BX (q + 1)) nm (AO (O q')).op = aop E (FR q) (BX q) nm (AO (O q')).op := fun nm => by
                rw [f2]; exact aop_congr _ fun t ht => hr1 t (List.mem_append.2 (.inl ht))
              rcases hgq with ⟨k1, k2, k3⟩ | ⟨k1, k2, k3, k4, k5⟩
              · exact .inl ⟨by rw [hsk']; exact k1, fun t ht => by rw [hd1 t ht]; exact k2 t ht, k3⟩
              · exact .inr ⟨by rw [hsk']; exact k1, by rw [ha']; exact k2, fun t ht => by rw [hd1 t ht, ha']; exact k3 t ht, fun c hc' => by rw [ha'] at hc'; rw [f2]; exact k4 c hc', fun hn => by rw [ha'] at hn; exact k5 hn⟩
          · have hskip' : skipOp (FR q) (AO i).guard = some false := by
              have hyes : ∀ {p : Prop}, skipOp (FR q) (AO i).guard = some true → p := fun h => absurd h hskip
              generalize hA : FR (q + 1) = fA at *
              generalize hBB : BX (q + 1) = bA at *
              generalize hNN : NX (q + 1) = nA at *
              generalize hSS : ST (q + 1) = sA at *
              cases hstep with
              | skip h => exact hyes h
              | soft h _ _ => exact h
              | store h => exact h
              | storeR h => exact h
              | appN h => exact h
              | appO h => exact h
              | mset h => exact h
            rw [wanted_of (A := Al A0 w0 (bget mb) β) (B := bget mb) (β := β) (w := w) s2 hguard hskip']
            simp only [Bool.not_false, if_true]
            refine eff_wp (ao := { AO i with re := reL l m ord q i }) (ao0 := AO i) (nt := nt) (sk := sk) he g3 rfl rfl hsz' hr (hskST q (by omega)) hM hB (fun t ht => hun t (.inl ht)) ?_ ?_ hstep hskip' heff ?_
            · rintro t ht ⟨q', h4, h5, h6⟩
              have := huniq q' q t (by omega) hqd h6 (by rw [hOq, g4]; exact ht)
              omega
            · rintro ⟨q', h4, h5, h6, h7⟩
              have := hmon (q' + 1) q (by omega) (by omega)
              have := hmon1 q' (by omega)
              omega
            · intro β1 a1 w1 mf1 mb1 hz1 hr1 hM1 hB1 hact hre hsk1
              refine hgoon _ _ (hback β1 a1 w1 mf1 mb1 hz1 hr1 hM1 hB1 fun q' h4 h5 => ?_)
              obtain ⟨hsq, hgq⟩ := hG q' h4 h5
              have hah : aheadB m (O q') (O q) = false := by
                cases hx : aheadB m (O q') (O q) with
                | false => rfl
                | true => rw [hOq] at hx; rw [h3 _ hx] at h5; cases h5
              refine good_eff (ao2 := AO i) hgq hsq (fun t ht => ?_) (fun hmkb hnx => hact.2 _ ⟨q', h4, h5, hnx, rfl⟩) (hgoodrd q' h4) (fun hmkb => hD.mkb q' q h4 hqd hsq (hpe hqd) hah hmkb) (fun hmkb => ?_)
              · rcases hact.1 t ht with e | ⟨b, ⟨c, hb⟩, e⟩
                · exact .inl e
                · refine .inr ⟨b, fun hmkb hnx e' => ?_, e⟩
                  subst e'
                  rw [(hB _).1 ⟨q', h4, h5, hnx, rfl⟩] at hb; cases hb
              · have hah' : aheadB m (ord.getD q' 0) i = false := by rw [← hOq]; exact hah
                have := reL_mem (l := l) (m := m) (ord := ord) (p := q) (q := q') (i := i) h4 (by rw [hD.len]; omega) hsq hmkb hah' heff
                exact reOk_mem hre this
  have hrep : ∀ k, (Array.replicate ops.size false).getD k false = false := by
    intro k
    simp only [Array.getD_eq_getD_getElem?]
    by_cases h : k < ops.size
    · simp [h]
    · simp [h]
  refine phase1 ops.size _ a w (by simp) ?_ ?_ (fun i _ _ => hrep i) ?_
  · intro j o ho hj; rw [hrep] at hj; cases hj
  · unfold cnt
    rw [List.countP_eq_length.2 (fun k _ => by rw [hrep]; rfl)]
    simp
  · obtain ⟨p', _, h2, h3, h4⟩ := hexts (d - 0) (Array.replicate ops.size false) 0 a w rfl (Nat.zero_le _) (fun q _ _ => hrep _) ⟨hsz, ⟨β, fr, bx, by rw [e4, e3]; exact hrel, fun t => ⟨fun ⟨q, hq, _⟩ => absurd hq (Nat.not_lt_zero _), fun _ => by rw [e1]⟩, fun b => ⟨fun ⟨q, hq, _⟩ => absurd hq (Nat.not_lt_zero _), fun _ => by rw [e2]⟩⟩, fun q hq => absurd hq (Nat.not_lt_zero _)⟩
    exact ⟨p', h2, h3, fun q _ _ => hrep _, h4⟩
end Go.Proofs.YtbhhcnonooiokaaDoor
