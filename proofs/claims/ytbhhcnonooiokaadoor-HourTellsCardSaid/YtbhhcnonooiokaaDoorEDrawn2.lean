/- The engine, part 20b: a region whose order is drawn. No condition. -/
import Derived.Test.YtbhhcnonooiokaaDoorEDrawn
namespace Go.Proofs.YtbhhcnonooiokaaDoor
open Go Go.RowKit
variable {P : Program} {E : Env} {A0 : Nat → Prop} {w0 : World} {Qf : Val → Bx → Prop}

theorem cOpers_get {ops : List Oper} {nt : Nat} : ∀ (q : List Oper) (l : List AOper), cOpers P ops nt q = some l → l.length = q.length ∧ ∀ (i : Nat) (o : Oper), q[i]? = some o → ∃ ao, l[i]? = some ao ∧ cOper P ops nt o = some ao := by
  intro q; induction q with
  | nil => intro l h; simp [cOpers] at h; subst h; exact ⟨rfl, fun i o h => by simp at h⟩
  | cons o q ih =>
    intro l h
    simp only [cOpers] at h
    split at h
    · rename_i a r h1 h2
      simp at h; subst h
      obtain ⟨e1, e2⟩ := ih r h2
      refine ⟨by simp [e1], fun i o' ho => ?_⟩
      cases i with
      | zero => simp at ho; subst ho; exact ⟨a, rfl, h1⟩
      | succ i => exact e2 i o' (by simpa using ho)
    · cases h
theorem softN_le : ∀ l : List AOper, softN l ≤ l.length := by
  intro l; induction l with
  | nil => exact Nat.le_refl _
  | cons o l ih => simp only [softN]; split <;> simp <;> omega
theorem mem_ready {ops : Array Oper} {listed : Array Bool} {i : Nat} : i ∈ Region.ready .any ops listed ↔ i < ops.size ∧ listed.getD i true = false ∧ ∃ o, ops[i]? = some o ∧ ∀ e ∈ o.after.toList, Region.binds .any e = true → listed.getD e.on false = true := by
  unfold Region.ready
  simp only [List.mem_filter, List.mem_range, Bool.and_eq_true, Bool.not_eq_true']
  constructor
  · rintro ⟨h1, h2, h3⟩
    refine ⟨h1, h2, ops[i], Array.getElem?_eq_getElem h1, fun e he hb => ?_⟩
    rw [Array.getElem?_eq_getElem h1] at h3
    simp only [Option.map_some, Option.getD_some] at h3
    have := (Array.all_eq_true'.1 h3) e (Array.mem_toList_iff.1 he)
    simpa [hb] using this
  · rintro ⟨h1, h2, o, ho, h3⟩
    refine ⟨h1, h2, ?_⟩
    rw [ho]
    simp only [Option.map_some, Option.getD_some]
    refine Array.all_eq_true'.2 fun e he => ?_
    cases hb : Region.binds .any e
    · rfl
    · simpa [hb] using h3 e (Array.mem_toList_iff.2 he) hb
def cnt (listed : Array Bool) (N : Nat) : Nat := (List.range N).countP fun k => !listed.getD k false
theorem cnt_set {listed : Array Bool} {i : Nat} (hi : i < listed.size) (hl : listed.getD i false = false) : ∀ N, cnt (listed.setIfInBounds i true) N + (if i < N then 1 else 0) = cnt listed N := by
  intro N; induction N with
  | zero => simp [cnt]
  | succ N ih =>
    simp only [cnt, List.range_succ, List.countP_append, List.countP_singleton] at ih ⊢
    have hg : ∀ k, (listed.setIfInBounds i true).getD k false = if k = i then true else listed.getD k false := by
      intro k
      simp only [Array.getD_eq_getD_getElem?]
      by_cases h : k = i
      · subst h; simp [hi]
      · rw [if_neg h, Array.getElem?_setIfInBounds_ne (fun e => h e.symm)]
    rw [hg N]
    generalize List.countP (fun k => !(listed.setIfInBounds i true).getD k false) (List.range N) = c1 at *
    generalize List.countP (fun k => !listed.getD k false) (List.range N) = c0 at *
    by_cases h : N = i
    · subst h
      rw [if_neg (Nat.lt_irrefl _)] at ih
      rw [if_pos rfl, hl, if_pos (Nat.lt_succ_self _)]
      simp
      omega
    · rw [if_neg h]
      by_cases h2 : i < N
      · rw [if_pos h2] at ih
        rw [if_pos (show i < N + 1 from by omega)]
        omega
      · rw [if_neg h2] at ih
        rw [if_neg (show ¬ i < N + 1 from by omega)]
        omega
theorem cnt_zero {listed : Array Bool} {N : Nat} (h : cnt listed N = 0) : ∀ k, k < N → listed.getD k false = true := by
  intro k hk
  unfold cnt at h
  rw [List.countP_eq_zero] at h
  have := h k (by simpa using hk)
  simpa using this
theorem aop_nx {fr : Fr} {bx : Bx} {nx nx' : Nat} (op : AOp) (hn : (aop E fr bx nx op).new = none) : aop E fr bx nx' op = aop E fr bx nx op := by
  cases op <;> first | rfl | skip
  case alloc z => simp [aop] at hn
  case mkm kd => simp [aop] at hn
  case box n x => simp [aop] at hn
  case bsl e k len z parts => simp [aop] at hn
  case mks e k bytes z n c =>
    cases hv : ev E fr n <;> cases hu : ev E fr c <;> simp only [aop, hv, hu] at hn ⊢
    simp at hn
theorem ev_repB {β : Nat → Loc} {w : World} {B : Bmap} {N : Nat} {a : Act} {fr : Fr} (he : EnvOk P E A0 w0) (hm : Mem A0 w0 β B N w) {x : Operand} (hf : ∀ t, x = .tmp t → RepM A0 w0 β B w (fget fr t) (a.tmps.getD t undef)) : OpR E A0 w0 β B w fr a x := by
  intro ox hx
  cases x with
  | tmp t => simp [cOpd] at hx; subst hx; exact hf t rfl
  | const v =>
    obtain ⟨u, hu, rfl⟩ := Option.map_eq_some_iff.1 hx
    exact RepP.rep _ _ (cv_rep hu _ _)
  | global g =>
    simp [cOpd] at hx; subst hx
    simp only [ev]
    split
    · rename_i m c hg
      exact RepP.rep _ _ (RepP.mono hm.below.size (fun g hg hA => ⟨⟨.inl hA, fun b c hb e => by have := (hm.base b c g hb e).1; omega⟩, hm.below.block g hg⟩) _ _ (he.G _ _ _ hg))
    · trivial
  | func f => simp [cOpd] at hx; subst hx; exact ⟨[], rfl, rfl⟩
theorem drawn_region {n : Nat} (he : EnvOk P E A0 w0) (IH : ∀ m, m ≤ n → Sound P E A0 w0 Qf m) {ops : Array Oper} {nt : Nat} {l : List AOper} (hc : cOpers P ops.toList nt ops.toList = some l) (hok : drawOk ops.toList (softN l) = true)
    {K : List Item} {stk : List SFrame} {res : List ARes} {fr : Fr} {bx : Bx} {nx : Nat} {a : Act} {w : World} {β : Nat → Loc} {as : List Act} {sk : List (Option Nat × List Item × List ARes × Nat)} {nxt : Act → World → Prop} {Q : Exit → Act → World → Prop}
    (hrun : run E Qf n (.ops (softN l) l :: K) stk res fr bx nx) (hsz : nt ≤ a.tmps.size) (hrel : Rel A0 w0 β stk as fr bx nx a w) (hsk : skel stk = sk) (hk : Goes E A0 w0 Qf n nt as sk res K nxt) (hq : ∀ a w, nxt a w → Q .normal a w) :
    wpAny P .any ops Q ops.size (Array.replicate ops.size false) a w := by
  obtain ⟨hlen, hget⟩ := cOpers_get _ _ hc
  have hdl := softN_le l
  obtain ⟨FR, BX, NX, v, new, e1, e2, e3, hst, m0, hm0, htail⟩ := trace (softN l) n l K stk res fr bx nx (Nat.le_refl _) hdl hrun
  generalize softN l = d at *
  have hlen' : l.length = ops.size := by simpa using hlen
  -- static facts
  simp only [drawOk, Bool.and_eq_true] at hok
  obtain ⟨⟨hafter, hapart⟩, htl⟩ := hok
  let dst : Nat → Option Nat := fun k => (ops[k]?).bind (·.dst)
  have hg : ∀ i, i < ops.size → ∃ o ao, ops[i]? = some o ∧ l[i]? = some ao ∧ cOper P ops.toList nt o = some ao ∧ dst i = o.dst ∧ ao.dst = o.dst := by
    intro i hi
    obtain ⟨ao, h1, h2⟩ := hget i ops[i] (by simp [hi])
    exact ⟨ops[i], ao, Array.getElem?_eq_getElem hi, h1, h2, by simp [dst, hi], (cOper_spec h2).2.2.1⟩
  have hstF : ∀ i, i < d → FR (i + 1) = fput (FR i) (dst i) (v i) := by
    intro i hi
    obtain ⟨o, ao, h1, h2, h3, h4, h5⟩ := hg i (by omega)
    rw [h4, ← h5]; exact (hst i ao hi h2).1
  have hstB : ∀ i, i < d → BX (i + 1) = addB (NX i) (new i) (BX i) := by
    intro i hi
    obtain ⟨o, ao, h1, h2, h3, h4, h5⟩ := hg i (by omega)
    exact (hst i ao hi h2).2.1
  have hstN : ∀ i, i < d → NX (i + 1) = addN (NX i) (new i) := by
    intro i hi
    obtain ⟨o, ao, h1, h2, h3, h4, h5⟩ := hg i (by omega)
    exact (hst i ao hi h2).2.2.1
  have huniq : ∀ i j t, i < ops.size → j < ops.size → dst i = some t → dst j = some t → i = j := by
    intro i j t hi hj h1 h2
    by_cases hij : i = j
    · exact hij
    · obtain ⟨x, _, hx, _, _, hdx, _⟩ := hg i hi
      obtain ⟨y, _, hy, _, _, hdy, _⟩ := hg j hj
      have := (apart_spec hapart (i := i) (j := j) (by simpa using hx) (by simpa using hy) hij (by rw [← hdx]; exact h1)).1
      rw [← hdy] at this
      exact absurd h2 this
  have h0ids : ∀ b c, bget (BX 0) b = some c → b < NX 0 := by rw [e2, e3]; exact hrel.mem.nx
  have hbx := tr_bx hstB hstN h0ids
  -- the state while some are listed
  let InvP : Array Bool → Act → World → Prop := fun L a w => nt ≤ a.tmps.size ∧ ∃ β, ∃ BS : Bmap, Mem A0 w0 β BS (NX d) w ∧ (∀ b c, bget bx b = some c → BS b = some c) ∧ (∀ k, k < d → L.getD k false = true → ∀ c, new k = some c → BS (NX k) = some c) ∧
    (∀ b c, BS b = some c → bget bx b = some c ∨ ∃ k, k < d ∧ L.getD k false = true ∧ new k = some c ∧ b = NX k) ∧
    (∀ k, k < d → L.getD k false = true → ∀ t, dst k = some t → RepM A0 w0 β BS w (v k) (a.tmps.getD t undef)) ∧ (∀ t, (∀ k, k < d → L.getD k false = true → dst k ≠ some t) → RepM A0 w0 β BS w (fget fr t) (a.tmps.getD t undef)) ∧ StkR A0 w0 β BS w stk as ∧ a.defers = []
  let CL : Array Bool → Prop := fun L => ∀ j o, ops.toList[j]? = some o → L.getD j false = true → ∀ e ∈ o.after.toList, Region.binds .any e = true → L.getD e.on false = true
  have hset : ∀ (L : Array Bool) i, i < L.size → ∀ k, (L.setIfInBounds i true).getD k false = if k = i then true else L.getD k false := by
    intro L i hi k
    simp only [Array.getD_eq_getD_getElem?]
    by_cases h : k = i
    · subst h; simp [hi]
    · rw [if_neg h, Array.getElem?_setIfInBounds_ne (fun e => h e.symm)]
  have hdtf : ∀ (L : Array Bool) i, L.size = ops.size → i < ops.size → L.getD i true = L.getD i false := by
    intro L i h1 h2; simp [Array.getD, h1, h2]
  have hready : ∀ (L : Array Bool) i, L.size = ops.size → CL L → i ∈ Region.ready .any ops L → i < ops.size ∧ L.getD i false = false ∧ ∀ j, ((aheads [] ops.toList).getD i 0).testBit j = true → L.getD j false = true := by
    intro L i hs hcl hi
    obtain ⟨h1, h2, o, ho, h3⟩ := mem_ready.1 hi
    refine ⟨h1, by rw [← hdtf L i hs h1]; exact h2, fun j hj => ?_⟩
    exact ahead_listed (L := fun k => L.getD k false) hafter hcl i o (by simpa using ho) h3 j hj
  have hlisted : ∀ (L : Array Bool) j, CL L → j < ops.size → L.getD j false = true → ∀ i, ((aheads [] ops.toList).getD j 0).testBit i = true → L.getD i false = true := by
    intro L j hcl hj hlj i hi
    obtain ⟨o, ao, h1, _⟩ := hg j hj
    exact ahead_listed (L := fun k => L.getD k false) hafter hcl j o (by simpa using h1) (hcl j o (by simpa using h1) hlj) i hi
  have hclset : ∀ (L : Array Bool) i, L.size = ops.size → CL L → i ∈ Region.ready .any ops L → CL (L.setIfInBounds i true) := by
    intro L i hs hcl hi j o ho hj e he' hb
    obtain ⟨h1, h2, o', ho', h3⟩ := mem_ready.1 hi
    rw [hset L i (by omega)] at hj ⊢
    by_cases hji : j = i
    · subst hji
      have : o = o' := by rw [show ops.toList[j]? = ops[j]? from by simp] at ho; rw [ho'] at ho; simpa using ho.symm
      subst this
      split
      · rfl
      · exact h3 e he' hb
    · rw [if_neg hji] at hj
      split
      · rfl
      · exact hcl j o ho hj e he' hb
  have hsomeready : ∀ (L : Array Bool), L.size = ops.size → (∃ i, i < ops.size ∧ L.getD i false = false) → Region.ready .any ops L ≠ [] := by
    rintro L hs ⟨i, hi, hli⟩ hnil
    have hmin : ∀ i, i < ops.size → L.getD i false = false → False := by
      intro i
      induction i using Nat.strongRecOn with
      | _ i ih =>
      intro hi hli
      have : i ∈ Region.ready .any ops L := by
        refine mem_ready.2 ⟨hi, by rw [hdtf L i hs hi]; exact hli, ops[i], Array.getElem?_eq_getElem hi, fun e he' hb => ?_⟩
        cases hle : L.getD e.on false
        · have hlt : e.on < i := by
            have := List.all_eq_true.1 hafter i (by simpa using hi)
            simp only [show ops.toList[i]? = some ops[i] from by simp [hi]] at this
            have := List.all_eq_true.1 this e he'
            simpa [hb] using this
          exact (ih e.on hlt (by omega) hle).elim
        · rfl
      rw [hnil] at this
      cases this
    exact hmin i hi hli
  -- all of the first ones are listed: the run goes on in the order of the text
  have phase2 : ∀ (fuel p m : Nat) (L : Array Bool) (a : Act) (w : World) (β : Nat → Loc) (stk : List SFrame) (fr : Fr) (bx : Bx) (nx : Nat), L.size = ops.size → CL L → cnt L ops.size = fuel → d ≤ p → (∀ i, i < ops.size → (L.getD i false = true ↔ i < p)) → m ≤ n → nt ≤ a.tmps.size → Rel A0 w0 β stk as fr bx nx a w → skel stk = sk →
      run E Qf m (.ops 0 (l.drop p) :: K) stk res fr bx nx → wpAny P .any ops Q fuel L a w := by
    intro fuel
    induction fuel with
    | zero =>
      intro p m L a w β stk fr bx nx hs hcl hcnt hp hL hm hsz hrel hsk hrun
      have hall := cnt_zero hcnt
      have hpl : ops.size ≤ p := by
        rcases Nat.lt_or_ge p ops.size with h | h
        · have := (hL p h).1 (hall p h); omega
        · exact h
      refine ⟨?_, ?_⟩
      · apply List.eq_nil_iff_forall_not_mem.2
        intro i hi
        obtain ⟨h1, h2, _⟩ := hready L i hs hcl hi
        rw [hall i h1] at h2; cases h2
      · rw [List.drop_eq_nil_of_le (by omega)] at hrun
        cases m with
        | zero => simp [run] at hrun
        | succ m =>
          simp only [run] at hrun
          exact hq _ _ (hk m β stk fr bx nx a w (by omega) hsz hrel hsk hrun)
    | succ fuel ih =>
      intro p m L a w β stk fr bx nx hs hcl hcnt hp hL hm hsz hrel hsk hrun
      refine ⟨fun hnil => ?_, fun i hi => ?_⟩
      · have : ∃ i, i < ops.size ∧ L.getD i false = false := by
          apply Classical.byContradiction
          intro hno
          have h0 : cnt L ops.size = 0 := by
            unfold cnt
            rw [List.countP_eq_zero]
            intro k hk'
            cases hlk : L.getD k false
            · exact absurd ⟨k, by simpa using hk', hlk⟩ hno
            · simp
          omega
        exact absurd hnil (hsomeready L hs this)
      · obtain ⟨h1, h2, h3⟩ := hready L i hs hcl hi
        have hip : i = p := by
          have h4 : ¬ i < p := fun h => by rw [(hL i h1).2 h] at h2; cases h2
          rcases Nat.lt_or_ge p i with h | h
          · have ht := List.all_eq_true.1 htl i (by simpa using h1)
            have hid : (decide (i < d)) = false := by simp; omega
            simp only [hid, Bool.false_or] at ht
            have := List.all_eq_true.1 ht p (by simpa using h)
            have := (hL p (by omega)).1 (h3 p this)
            omega
          · omega
        subst hip
        obtain ⟨o, ao, g1, g2, g3, g4, g5⟩ := hg i h1
        have hdrop : l.drop i = ao :: l.drop (i + 1) := by
          have := List.getElem?_eq_some_iff.1 g2
          obtain ⟨hlt, hge⟩ := this
          rw [List.drop_eq_getElem_cons hlt, hge]
        rw [hdrop] at hrun
        cases m with
        | zero => simp [run] at hrun
        | succ m =>
          have hcnt' : cnt (L.setIfInBounds i true) ops.size = fuel := by
            have := cnt_set (listed := L) (i := i) (by omega) h2 ops.size
            rw [if_pos h1] at this
            omega
          have hL' : ∀ k, k < ops.size → ((L.setIfInBounds i true).getD k false = true ↔ k < i + 1) := by
            intro k hk'
            rw [hset L i (by omega)]
            by_cases hki : k = i
            · subst hki; simp
            · rw [if_neg hki, hL k hk']; omega
          unfold wpOp
          rw [g1]
          refine op_step (Q := Q) (n := m) he (fun m' hm' => IH m' (by omega)) g3 hsz hrel hsk (l := l.drop (i + 1)) (K := K) (res := res) ?_ hrun
          intro m' β' stk' fr' bx' nx' a' w' hm' hsz' hrel' hsk' hrun'
          exact ih (i + 1) m' (L.setIfInBounds i true) a' w' β' stk' fr' bx' nx' (by simp [hs]) (hclset L i hs hcl hi) hcnt' (by omega) hL' (by omega) hsz' hrel' hsk' hrun'
  have toRel : ∀ (L : Array Bool) (a : Act) (w : World), InvP L a w → (∀ k, k < d → L.getD k false = true) → ∃ β, Rel A0 w0 β stk as (FR d) (BX d) (NX d) a w := by
    rintro L a w ⟨hsz', β, BS, hM, i1, i2, i3, i4, i5, i6, i7⟩ hall
    have hBS : BS = bget (BX d) := by
      funext b
      have h1 : ∀ c, BS b = some c ↔ bget (BX d) b = some c := by
        intro c
        rw [hbx d (Nat.le_refl _) b c, e2]
        constructor
        · intro h
          rcases i3 b c h with h | ⟨k, hk, _, h, e⟩
          · exact .inl h
          · exact .inr ⟨k, hk, h, e⟩
        · rintro (h | ⟨k, hk, h, rfl⟩)
          · exact i1 b c h
          · exact i2 k hk (hall k hk) c h
      cases hb : BS b with
      | none =>
        cases hb' : bget (BX d) b with
        | none => rfl
        | some c => rw [(h1 c).2 hb'] at hb; cases hb
      | some c => exact ((h1 c).1 hb).symm
    subst hBS
    refine ⟨β, hM, fun t => ?_, i6, i7, fun f hf => Nat.le_trans (hrel.sn f hf) (by rw [← e3]; exact tr_nx hstN 0 d (by omega) (Nat.le_refl _))⟩
    by_cases hw : ∃ k, k < d ∧ dst k = some t
    · obtain ⟨k, hk', hd'⟩ := hw
      rw [tr_fr_some hstF d (Nat.le_refl _) t k hk' hd' fun k' h1 h2 => huniq k' k t (by omega) (by omega) h2 hd']
      exact i4 k hk' (hall k hk') t hd'
    · have hno : ∀ k, k < d → dst k ≠ some t := fun k h1 h2 => hw ⟨k, h1, h2⟩
      rw [tr_fr_none hstF d (Nat.le_refl _) t hno, e1]
      exact i5 t fun k h1 _ => hno k h1
  have stepI : ∀ (L : Array Bool) (a : Act) (w : World) (i : Nat) (o : Oper), L.size = ops.size → i < d → ops[i]? = some o → L.getD i false = false → ∀ (β β1 : Nat → Loc) (BS : Bmap) (w1 : World) (x : Value) (nxi : Nat), nt ≤ a.tmps.size → Mem A0 w0 β BS (NX d) w → (∀ b c, bget bx b = some c → BS b = some c) → (∀ k, k < d → L.getD k false = true → ∀ c, new k = some c → BS (NX k) = some c) →
    (∀ b c, BS b = some c → bget bx b = some c ∨ ∃ k, k < d ∧ L.getD k false = true ∧ new k = some c ∧ b = NX k) →
    (∀ k, k < d → L.getD k false = true → ∀ t, dst k = some t → RepM A0 w0 β BS w (v k) (a.tmps.getD t undef)) → (∀ t, (∀ k, k < d → L.getD k false = true → dst k ≠ some t) → RepM A0 w0 β BS w (fget fr t) (a.tmps.getD t undef)) → StkR A0 w0 β BS w stk as → a.defers = [] →
    BS nxi = none → (∀ c, new i = some c → nxi = NX i) → Soft A0 w0 β β1 BS nxi (new i) w w1 → RepM A0 w0 β1 (extB BS nxi (new i)) w1 (v i) x → InvP (L.setIfInBounds i true) (a.put o.dst x) w1 := by
    intro L a w i o hs hi ho hli β β1 BS w1 x nxi hsz' hM i1 i2 i3 i4 i5 i6 i7 hB hnxi hsoft hv
    obtain ⟨o', ao, g1, g2, g3, g4, g5⟩ := hg i (by omega)
    rw [ho] at g1; cases g1
    have hdst : ∀ s, o.dst = some s → s < a.tmps.size := fun s hs' => Nat.lt_of_lt_of_le ((cOper_spec g3).2.2.2 s hs') hsz'
    have hLk : ∀ k, (L.setIfInBounds i true).getD k false = true → k = i ∨ L.getD k false = true := by
      intro k hk'
      rw [hset L i (by omega)] at hk'
      by_cases hki : k = i
      · exact .inl hki
      · rw [if_neg hki] at hk'; exact .inr hk'
    have hne : ∀ k t, k < d → k ≠ i → dst k = some t → o.dst ≠ some t := by
      intro k t h1 h2 h3 h4
      exact h2 (huniq k i t (by omega) (by omega) h3 (by rw [g4]; exact h4))
    have hext : extB BS nxi (new i) = extB BS (NX i) (new i) := by
      cases hn : new i with
      | none => rfl
      | some c => rw [hnxi c hn]
    refine ⟨by rw [put_size]; exact hsz', β1, extB BS nxi (new i), hsoft.mem hM hB (Nat.le_refl _) (fun c hc' => by rw [hnxi c hc']; exact tr_nx_lt hstN hi (Nat.le_refl _) hc'), fun b c hb => extB_some hB (i1 b c hb), fun k hk' hlk c hc' => ?_, fun b c hb => ?_, fun k hk' hlk t ht => ?_, fun t ht => ?_, ?_, by rw [put_df]; exact i7⟩
    · rcases hLk k hlk with rfl | hlk
      · rw [hext, hc']; simp [extB]
      · exact extB_some hB (i2 k hk' hlk c hc')
    · rcases extB_cases hb with hb | ⟨rfl, hc'⟩
      · rcases i3 b c hb with h | ⟨k, h1, h2, h3, h4⟩
        · exact .inl h
        · refine .inr ⟨k, h1, ?_, h3, h4⟩
          rw [hset L i (by omega)]; split
          · rfl
          · exact h2
      · exact .inr ⟨i, hi, by rw [hset L i (by omega), if_pos rfl], hc', hnxi c hc'⟩
    · rw [getD_put _ _ _ _ hdst]
      rcases hLk k hlk with rfl | hlk
      · rw [if_pos (by rw [← g4]; exact ht)]; exact hv
      · by_cases hki : k = i
        · subst hki; rw [if_pos (by rw [← g4]; exact ht)]; exact hv
        · rw [if_neg (hne k t hk' hki ht)]
          exact hsoft.rep hM hB (i4 k hk' hlk t ht)
    · have hnd : o.dst ≠ some t := by
        have := ht i hi (by rw [hset L i (by omega), if_pos rfl])
        rw [g4] at this; exact this
      rw [getD_put _ _ _ _ hdst, if_neg hnd]
      refine hsoft.rep hM hB (i5 t fun k h1 h2 => ht k h1 ?_)
      rw [hset L i (by omega)]; split
      · rfl
      · exact h2
    · have hgen : ∀ {stk : List SFrame} {as : List Act}, StkR A0 w0 β BS w stk as → StkR A0 w0 β1 (extB BS nxi (new i)) w1 stk as := by
        intro stk; induction stk with
        | nil => intro as h; cases as <;> exact h
        | cons f q ihq =>
          intro as h
          cases as with
          | nil => exact h
          | cons a' as =>
            refine ⟨fun t => Rep.mono hsoft.keep.size (hsoft.al hM hB) (fun b c hb => ?_) _ _ (h.1 t), ihq h.2⟩
            simp only [Bres] at hb ⊢
            split at hb
            · rename_i hlt
              rw [if_pos hlt]
              exact ⟨c, extB_some hB hb, Kin.refl c, hsoft.loc b c hb⟩
            · cases hb
      exact hgen i6
  have phase1 : ∀ (fuel : Nat) (L : Array Bool) (a : Act) (w : World), L.size = ops.size → CL L → cnt L ops.size = fuel → (∀ i, d ≤ i → i < ops.size → L.getD i false = false) → InvP L a w → wpAny P .any ops Q fuel L a w := by
    intro fuel
    induction fuel with
    | zero =>
      intro L a w hs hcl hcnt hL hinv
      have hall := cnt_zero hcnt
      obtain ⟨β, hr⟩ := toRel L a w hinv fun k hk' => hall k (by omega)
      refine phase2 0 d m0 L a w β stk (FR d) (BX d) (NX d) hs hcl hcnt (Nat.le_refl _) (fun i hi => ⟨fun h => ?_, fun _ => hall i hi⟩) hm0 hinv.1 hr hsk htail
      rcases Nat.lt_or_ge i d with h' | h'
      · exact h'
      · rw [hL i h' hi] at h; cases h
    | succ fuel ih =>
      intro L a w hs hcl hcnt hL hinv
      by_cases hall : ∀ k, k < d → L.getD k false = true
      · obtain ⟨β, hr⟩ := toRel L a w hinv hall
        refine phase2 (fuel + 1) d m0 L a w β stk (FR d) (BX d) (NX d) hs hcl hcnt (Nat.le_refl _) (fun i hi => ⟨fun h => ?_, fun h => hall i h⟩) hm0 hinv.1 hr hsk htail
        rcases Nat.lt_or_ge i d with h' | h'
        · exact h'
        · rw [hL i h' hi] at h; cases h
      · have hex : ∃ k, k < d ∧ L.getD k false = false := by
          apply Classical.byContradiction
          intro hno
          refine hall fun k hk' => ?_
          cases hlk : L.getD k false
          · exact absurd ⟨k, hk', hlk⟩ hno
          · rfl
        obtain ⟨k0, hk0, hlk0⟩ := hex
        refine ⟨fun hnil => absurd hnil (hsomeready L hs ⟨k0, by omega, hlk0⟩), fun i hi => ?_⟩
        obtain ⟨h1, h2, h3⟩ := hready L i hs hcl hi
        have hid : i < d := by
          rcases Nat.lt_or_ge i d with h | h
          · exact h
          · have ht := List.all_eq_true.1 htl i (by simpa using h1)
            have hid : (decide (i < d)) = false := by simp; omega
            simp only [hid, Bool.false_or] at ht
            have := List.all_eq_true.1 ht k0 (by simp; omega)
            rw [h3 k0 this] at hlk0; cases hlk0
        obtain ⟨o, ao, g1, g2, g3, g4, g5⟩ := hg i h1
        obtain ⟨s1, s2, s3, s4⟩ := cOper_spec g3
        have hcnt' : cnt (L.setIfInBounds i true) ops.size = fuel := by
          have := cnt_set (listed := L) (i := i) (by omega) h2 ops.size
          rw [if_pos h1] at this
          omega
        have hgoon : ∀ a' w', InvP (L.setIfInBounds i true) a' w' → wpAny P .any ops Q fuel (L.setIfInBounds i true) a' w' := fun a' w' hinv' =>
          ih _ a' w' (by simp [hs]) (hclset L i hs hcl hi) hcnt' (fun k h4 h5 => by rw [hset L i (by omega), if_neg (by omega)]; exact hL k h4 h5) hinv'
        obtain ⟨hsz', β, BS, hM, i1, i2, i3, i4, i5, i6, i7⟩ := hinv
        -- what it looks at is as in the order of the text
        have hlook : ∀ t, (t ∈ looks o ∨ (ops.toList.map fun o => match guardT ops.toList o with | some (some (t, _)) => some t | _ => none).getD i none = some t) → RepM A0 w0 β BS w (fget (FR i) t) (a.tmps.getD t undef) := by
          intro t ht
          by_cases hw : ∃ k, k < d ∧ dst k = some t
          · obtain ⟨k, hkd, hkt⟩ := hw
            by_cases hki : k < i
            · obtain ⟨x, _, hx, _, _, hdx, _⟩ := hg k (by omega)
              have hap := (apart_spec hapart (i := k) (j := i) (by simpa using hx) (by simpa using g1) (by omega) (by rw [← hdx]; exact hkt)).2 ht
              have hlk : L.getD k false = true := by
                rcases hap with ⟨_, h⟩ | ⟨h, _⟩
                · exact h3 k h
                · omega
              rw [tr_fr_some hstF i (by omega) t k hki hkt fun k' q1 q2 => huniq k' k t (by omega) (by omega) q2 hkt]
              exact i4 k hkd hlk t hkt
            · rw [tr_fr_none hstF i (by omega) t fun k' q1 q2 => by have := huniq k' k t (by omega) (by omega) q2 hkt; omega, e1]
              refine i5 t fun k' q1 q2 q3 => ?_
              have hkk : k' = k := huniq k' k t (by omega) (by omega) q3 hkt
              subst hkk
              by_cases hke : k' = i
              · subst hke; rw [h2] at q2; cases q2
              · obtain ⟨x, _, hx, _, _, hdx, _⟩ := hg k' (by omega)
                have hap := (apart_spec hapart (i := k') (j := i) (by simpa using hx) (by simpa using g1) hke (by rw [← hdx]; exact hkt)).2 ht
                rcases hap with ⟨h, _⟩ | ⟨_, h⟩
                · omega
                · have := hlisted L k' hcl (by omega) q2 i h
                  rw [h2] at this; cases this
          · have hno : ∀ k, k < d → dst k ≠ some t := fun k q1 q2 => hw ⟨k, q1, q2⟩
            rw [tr_fr_none hstF i (by omega) t fun k' q1 => hno k' (by omega), e1]
            exact i5 t fun k' q1 _ => hno k' q1
        have hgs : ∀ t wt, ao.guard = some (t, wt) → (ops.toList.map fun o => match guardT ops.toList o with | some (some (t, _)) => some t | _ => none).getD i none = some t := by
          intro t wt hgt
          have : ops.toList[i]? = some o := by simpa using g1
          simp only [List.getD_eq_getElem?_getD, List.getElem?_map, this, Option.map_some, s2, hgt, Option.getD_some]
        have hguard : ∀ t wt, ao.guard = some (t, wt) → RepM A0 w0 β BS w (fget (FR i) t) (a.tmps.getD t undef) := fun t wt h => hlook t (.inr (hgs t wt h))
        obtain ⟨_, _, _, hcase⟩ := hst i ao hid g2
        unfold wpOp
        rw [g1]
        simp only
        rcases hcase with ⟨hskip, hvi, hni⟩ | ⟨hskip, hp, hvi, hni⟩
        · rw [wanted_of (A := Al A0 w0 BS β) (B := BS) (β := β) (w := w) s2 hguard hskip]
          simp only [Bool.not_true, Bool.false_eq_true, if_false]
          have hBn : BS (NX d) = none := by
            cases hb : BS (NX d) with
            | none => rfl
            | some c => exact absurd (hM.nx _ c hb) (Nat.lt_irrefl _)
          exact hgoon _ _ (stepI L a w i o hs hid g1 h2 β β BS w undef (NX d) hsz' hM i1 i2 i3 i4 i5 i6 i7 hBn (fun c hc' => by rw [hni] at hc'; cases hc') (by rw [hni]; exact Soft.refl ..) (by rw [hvi]; exact ⟨[], rfl, rfl⟩))
        · rw [wanted_of (A := Al A0 w0 BS β) (B := BS) (β := β) (w := w) s2 hguard hskip]
          simp only [Bool.not_false, if_true]
          left
          have hsubD : ∀ b c, bget (BX i) b = some c → bget (BX d) b = some c := by
            intro b c hb
            rcases (hbx i (by omega) b c).1 hb with h | ⟨k, q1, q2, q3⟩
            · exact (hbx d (Nat.le_refl _) b c).2 (.inl h)
            · exact (hbx d (Nat.le_refl _) b c).2 (.inr ⟨k, by omega, q2, q3⟩)
          have hsubB : ∀ b c, BS b = some c → bget (BX d) b = some c := by
            intro b c hb
            refine (hbx d (Nat.le_refl _) b c).2 ?_
            rw [e2]
            rcases i3 b c hb with h | ⟨k, q1, _, q2, q3⟩
            · exact .inl h
            · exact .inr ⟨k, q1, q2, q3⟩
          have hnx : ∃ nxi, BS nxi = none ∧ (∀ c, new i = some c → nxi = NX i) ∧ aop E (FR i) (BX i) nxi ao.op = aop E (FR i) (BX i) (NX i) ao.op := by
            cases hn : new i with
            | none =>
              refine ⟨NX d, ?_, (fun c hc' => by cases hc'), aop_nx ao.op (by rw [← hni]; exact hn)⟩
              cases hb : BS (NX d) with
              | none => rfl
              | some c => exact absurd (hM.nx _ c hb) (Nat.lt_irrefl _)
            | some c0 =>
              refine ⟨NX i, ?_, fun _ _ => rfl, rfl⟩
              cases hb : BS (NX i) with
              | none => rfl
              | some c =>
                rcases i3 _ c hb with h | ⟨k, q1, q2, q3, q4⟩
                · have q5 := hrel.mem.nx _ c h
                  rw [← e3] at q5
                  have := tr_nx hstN 0 i (by omega) (by omega)
                  omega
                · rcases Nat.lt_trichotomy k i with h | h | h
                  · have := tr_nx_lt hstN h (by omega) q3; omega
                  · subst h; rw [h2] at q2; cases q2
                  · have := tr_nx_lt hstN h (by omega) hn; omega
          obtain ⟨nxi, hB, hnxi, haop⟩ := hnx
          have hr : aop E (FR i) (BX d) nxi ao.op = aop E (FR i) (BX i) (NX i) ao.op := by
            rw [aop_mono hsubD ao.op (by rw [haop]; exact hp), haop]
          refine soft_wp (E := E) (fr := FR i) (bx := BX d) (nx := nxi) s1 hM hB hsubB he.G he.S (fun x hx => ev_repB he hM fun t ht => hlook t (.inl ?_)) (by rw [hr]; exact hp) fun x w1 β1 hs' hv' => ?_
          · subst ht
            simp only [looks, List.mem_filterMap]
            exact ⟨.tmp t, hx, rfl⟩
          · rw [hr, ← hni] at hs' hv'
            rw [← hvi] at hv'
            exact hgoon _ _ (stepI L a w i o hs hid g1 h2 β β1 BS w1 x nxi hsz' hM i1 i2 i3 i4 i5 i6 i7 hB hnxi hs' hv')
  have hrep : ∀ k, (Array.replicate ops.size false).getD k false = false := by
    intro k
    simp only [Array.getD_eq_getD_getElem?]
    by_cases h : k < ops.size
    · simp [h]
    · simp [h]
  refine phase1 ops.size _ a w (by simp) ?_ ?_ (fun i _ _ => hrep i) ?_
  · intro j o ho hj; rw [hrep] at hj; cases hj
  · unfold cnt
    rw [List.countP_eq_length.2 (fun k _ => by rw [hrep]; rfl)]
    simp
  · refine ⟨hsz, β, bget bx, ⟨hrel.mem.bx, hrel.mem.inj, fun b c hb => ?_, hrel.mem.base, hrel.mem.below⟩, fun _ _ h => h, fun k _ h => (by rw [hrep] at h; cases h), fun b c hb => .inl hb, fun k _ h => (by rw [hrep] at h; cases h), fun t _ => hrel.fr t, hrel.st, hrel.df⟩
    have h1 := hrel.mem.nx b c hb
    have h2 := tr_nx hstN 0 d (by omega) (Nat.le_refl _)
    rw [e3] at h2
    omega
end Go.Proofs.YtbhhcnonooiokaaDoor
