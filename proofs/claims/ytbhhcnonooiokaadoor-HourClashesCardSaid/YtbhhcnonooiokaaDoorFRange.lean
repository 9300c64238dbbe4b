/- The engine, part 17b: marks taken at a return; the record of a range over a function. No condition. -/
import Derived.Test.YtbhhcnonooiokaaDoorFSound
namespace Go.Proofs.YtbhhcnonooiokaaDoor
open Go Go.RowKit
variable {P : Program} {E : Env} {A0 : Nat → Prop} {w0 : World} {Qf : Val → Bx → Prop}
variable {β : Nat → Loc} {stk : List SFrame} {as : List Act} {fr : Fr} {bx : Bx} {nx : Nat} {a : Act} {w : World}

theorem below_putObj {n0 : Nat} {w : World} {r : Nat} {o : Obj} (h : n0 ≤ r) : Below n0 w (w.putObj r o) := ⟨rfl, rfl, rfl, by simp, fun k hk => World.putObj_heap_other (by omega)⟩
/-- only blocks of deferred calls turned -/
def Turned (w w' : World) : Prop := w'.heap.size = w.heap.size ∧ ∀ g : Nat, (∃ x, w.heap[g]? = some (Obj.deferred x)) ∨ w'.heap[g]? = w.heap[g]?
theorem Turned.cell {w w' : World} (h : Turned w w') {g o : Nat} {y : Value} (hc : w.cell? ⟨g, o, none⟩ = some y) : w'.cell? ⟨g, o, none⟩ = some y := by
  rcases h.2 g with ⟨x, hx⟩ | hx
  · simp [World.cell?, hx] at hc
  · rw [cell_heap hx]; exact hc
theorem Turned.obj {w w' : World} (h : Turned w w') {g : Nat} {o : Obj} (hc : w.heap[g]? = some o) (hn : ∀ x, o ≠ Obj.deferred x) : w'.heap[g]? = some o := by
  rcases h.2 g with ⟨x, hx⟩ | hx
  · rw [hx] at hc; exact absurd (Option.some.inj hc).symm (hn x)
  · rw [hx]; exact hc
theorem Turned.map {w w' : World} (h : Turned w w') {g : Nat} {kd : IntKind} {f : Int → Option Value} (hm : MapF w g kd f) : MapF w' g kd f := by
  obtain ⟨es, c, h1, h2⟩ := hm
  exact ⟨es, c, h.obj h1 (fun x e => by cases e), h2⟩
theorem RepP.turned {w w' : World} (h : Turned w w') {A : Nat → Prop} : ∀ (v : Val) (x : Value), RepP w A v x → RepP w' A v x := by
  intro v
  induction v with
  | view k n cell ih =>
    rintro x ⟨a, c, rfl, hn, hnc, hh⟩
    refine ⟨a, c, rfl, hn, hnc, fun h0 => ?_⟩
    obtain ⟨g, off, rfl, hg, hA, hc⟩ := hh h0
    refine ⟨g, off, rfl, by rw [h.1]; exact hg, hA, fun i hi j hj => ?_⟩
    obtain ⟨y, hy, ho, hr⟩ := hc i hi j hj
    exact ⟨y, h.cell hy, ho, ih i j y hr⟩
  | vptr m cell ih =>
    rintro x ⟨g, off, rfl, hg, hA, hc⟩
    refine ⟨g, off, rfl, by rw [h.1]; exact hg, hA, fun j hj => ?_⟩
    obtain ⟨y, hy, hr⟩ := hc j hj
    exact ⟨y, h.cell hy, ih j y hr⟩
  | cons a t ih1 ih2 => rintro x ⟨y, ys, rfl, h1, h2⟩; exact ⟨y, ys, rfl, ih1 y h1, ih2 _ h2⟩
  | agg l ih => rintro x ⟨ys, rfl, h⟩; exact ⟨ys, rfl, ih _ h⟩
  | tup l ih => rintro x ⟨ys, rfl, h⟩; exact ⟨ys, rfl, ih _ h⟩
  | func fn l ih => rintro x ⟨ys, rfl, h⟩; exact ⟨ys, rfl, ih _ h⟩
  | mview kd has f ih =>
    rintro x ⟨g, hf, rfl, hg, hA, hm, hc⟩
    refine ⟨g, hf, rfl, by rw [h.1]; exact hg, hA, h.map hm, fun k => ⟨(hc k).1, fun hk => ?_⟩⟩
    obtain ⟨y, hy, hr⟩ := (hc k).2 hk
    exact ⟨y, hy, ih k y hr⟩
  | _ => intro x h; exact h
theorem Rep.turned {w w' : World} (h : Turned w w') {A : Nat → Prop} {B : Bmap} : ∀ (v : Val) (x : Value), Rep w A B β v x → Rep w' A B β v x := by
  intro v
  induction v with
  | cons a t ih1 ih2 => rintro x ⟨y, ys, rfl, h1, h2⟩; exact ⟨y, ys, rfl, ih1 y h1, ih2 _ h2⟩
  | agg l ih => rintro x ⟨ys, rfl, h⟩; exact ⟨ys, rfl, ih _ h⟩
  | tup l ih => rintro x ⟨ys, rfl, h⟩; exact ⟨ys, rfl, ih _ h⟩
  | func fn l ih => rintro x ⟨ys, rfl, h⟩; exact ⟨ys, rfl, ih _ h⟩
  | ptr b off => intro x h; exact h
  | mapb b => intro x h; exact h
  | own b => intro x h; exact h
  | rptr b i off => intro x h; exact h
  | yld b => intro x h; exact h
  | nil => intro x h; exact h
  | und => intro x h; exact h
  | _ => intro x hx; exact RepP.turned h _ x hx
theorem BoxOk.turned {w w' : World} (h : Turned w w') {A : Nat → Prop} {B : Bmap} {base b : Nat} {c : Box} (hb : BoxOk P w A B β base b c) : BoxOk P w' A B β base b c := by
  cases c with
  | cells l =>
    obtain ⟨hl, g, ys, t, h1, h2, h3⟩ := hb
    exact ⟨hl, g, ys, t, h1, h.obj h2 (fun x e => by cases e), Rep.turned h _ _ h3⟩
  | lp g fr ps ca cb st =>
    obtain ⟨h1, rec, nt, h2, h3, h4, h5⟩ := hb
    exact ⟨h1, rec, nt, h.obj h2 (fun x e => by cases e), h3, h4, fun t => Rep.turned h _ _ (h5 t)⟩
  | mp kd has f =>
    obtain ⟨g, m, h1, h2, h3⟩ := hb
    refine ⟨g, m, h1, h.map h2, fun k => ⟨(h3 k).1, fun hk => ?_⟩⟩
    obtain ⟨y, hy, hr⟩ := (h3 k).2 hk
    exact ⟨y, hy, Rep.turned h _ _ hr⟩
  | row e k n cc =>
    obtain ⟨h1, hk, hn, xs, ho, hc⟩ := hb
    refine ⟨h1, hk, hn, xs, ?_, fun i hi j hj => ?_⟩
    · obtain ⟨hl, ho⟩ := ho
      refine ⟨hl, ?_⟩
      rcases ho with ho | ⟨g, cap, cur, e1, e2, e3, e4⟩
      · exact .inl ho
      · exact .inr ⟨g, cap, cur, e1, e2, h.obj e3 (fun x e => by cases e), e4⟩
    · obtain ⟨y, hy, ho1, hr⟩ := hc i hi j hj
      exact ⟨y, hy, ho1, RepP.turned h _ _ hr⟩
theorem StkR.turned {w w' : World} (h : Turned w w') {B : Bmap} : ∀ {stk as}, StkR A0 w0 β B w stk as → StkR A0 w0 β B w' stk as := by
  intro stk; induction stk with
  | nil => intro as hs; cases as <;> exact hs
  | cons f l ih => intro as hs; cases as with
    | nil => exact hs
    | cons a as => exact ⟨fun t => Rep.turned h _ _ (hs.1 t), ih hs.2⟩
/-- the first mark taken -/
theorem Rel.take (h : Rel P A0 w0 β stk as fr bx nx a w) {d : Deferred} {ds : List Deferred} (hd : a.defers = d :: ds) :
    ∃ r, d.target = .collected r ∧ (Instr.takeDeferred r).run P w = .ok [] (w.putObj r (.deferred none)) ∧ Rel P A0 w0 β stk as fr bx nx { a with defers := ds } (w.putObj r (.deferred none)) := by
  have hdf := h.df
  simp only [dfs, hd, List.cons_append] at hdf
  obtain ⟨hp, hm⟩ := hdf
  obtain ⟨r, h1, h2, h3, h4, h5⟩ := hm d (by simp)
  rw [List.pairwise_cons] at hp
  have ht : Turned w (w.putObj r (.deferred none)) := ⟨by simp, fun g => by
    by_cases hg : g = r
    · subst hg; exact .inl ⟨_, h5⟩
    · exact .inr (World.putObj_heap_other hg)⟩
  refine ⟨r, by rw [h1], run_takeDeferred h5, ⟨⟨fun b c hb => (h.mem.bx b c hb).turned ht, h.mem.inj, h.mem.nx, fun b c g hb hg => ?_, ?_⟩, fun t => Rep.turned ht _ _ (h.fr t), h.st.turned ht, ?_, h.sn⟩⟩
  · have := h.mem.base b c g hb hg
    rw [ht.1]; exact this
  · exact h.mem.below.trans (below_putObj h2)
  · refine ⟨hp.2, fun d' hd' => ?_⟩
    obtain ⟨r', k1, k2, k3, k4, k5⟩ := hm d' (by simp only [List.mem_cons]; exact .inr hd')
    refine ⟨r', k1, k2, by rw [ht.1]; exact k3, k4, ?_⟩
    have hne : r' ≠ r := by
      intro e
      have := hp.1 d' hd'
      rw [h1, k1, e] at this
      exact this rfl
    rw [World.putObj_heap_other hne]; exact k5
/-- all marks taken, the results read off -/
theorem Rel.leave {fn : Func} {R : Ending → World → Prop} : ∀ (ds : List Deferred) (a : Act) (w : World), Rel P A0 w0 β stk as fr bx nx a w → a.defers = ds →
    (∀ a' w', a'.tmps = a.tmps → Rel P A0 w0 β stk as fr bx nx a' w' → ∃ v, (results fn a.tmps).run P w' = .ok v w' ∧ R (.returned v) w') → LeavesInM (FW none) 0 P fn a.tmps R ds .returning w := by
  intro ds
  induction ds with
  | nil =>
    intro a w h hd hk
    obtain ⟨v, h1, h2⟩ := hk a w rfl h
    exact ⟨v, h1, h2⟩
  | cons d ds ih =>
    intro a w h hd hk
    obtain ⟨r, h1, h2, h3⟩ := h.take hd
    exact ⟨(by intro e; cases e), .inl ⟨r, _, h1, h2, ih { a with defers := ds } _ h3 rfl fun a' w' ht hr => hk a' w' ht hr⟩⟩
/-- the record of a range over a function -/
theorem Rel.lpget (h : Rel P A0 w0 β stk as fr bx nx a w) {b g : Nat} {fr' : Fr} {ps : List Nat} {ca cb : ACode} {st : Lst} (hb : bget bx b = some (.lp g fr' ps ca cb st)) :
    ∃ rec nt, (β b).a = some g ∧ w.heap[g]? = some (.loop rec) ∧ LpOk P rec nt ps ca cb ∧ StOk rec st ∧ ∀ t, RepM A0 w0 β (bget bx) w (fget fr' t) (rec.tmps.getD t undef) := by
  obtain ⟨h1, rec, nt, h2⟩ := h.mem.bx b _ hb
  exact ⟨rec, nt, h1, h2⟩
theorem Rel.lpset (h : Rel P A0 w0 β stk as fr bx nx a w) {b g : Nat} {fr' : Fr} {ps : List Nat} {ca cb : ACode} {st st' : Lst} (hb : bget bx b = some (.lp g fr' ps ca cb st)) {rec : Loop} {s : LoopState} {pd : Option Code} (hl : w.heap[g]? = some (.loop rec))
    (hst : StOk { rec with state := s, pending := pd } st') : Rel P A0 w0 β stk as fr (bset bx b (.lp g fr' ps ca cb st')) nx a (w.putObj g (.loop { rec with state := s, pending := pd })) := by
  obtain ⟨rec', nt, h1, h2, h3, h4, h5⟩ := h.lpget hb
  rw [hl] at h2
  obtain rfl : rec = rec' := by simpa using h2
  have hbase := h.mem.base b _ g hb h1
  have hu : Upd A0 w0 β β b w (w.putObj g (.loop { rec with state := s, pending := pd })) := by
    refine ⟨by simp, fun k hk hne => World.putObj_heap_other fun e => hne (by rw [e]; exact h1), fun _ _ => rfl, fun g' hg' => ⟨.inl hg', ?_⟩, ?_⟩
    · rw [h1] at hg'; cases hg'; simp; exact hbase.2
    · exact h.mem.below.trans (below_putObj hbase.1)
  have := h.updK (c1 := .lp g fr' ps ca cb st') hb ⟨rfl, rfl, rfl, rfl⟩ hu (fun hmono _ => ⟨h1, { rec with state := s, pending := pd }, nt, World.putObj_heap_same hbase.2, h3, hst, fun t => hmono _ _ (h5 t)⟩) none (fun s hs => by cases hs) undef
  exact this
theorem fget_keepS (ks : List Nat) (fr : Fr) (t : Nat) : fget (keepS ks fr) t = fget fr t ∨ fget (keepS ks fr) t = .und := by
  induction ks with
  | nil => exact .inr rfl
  | cons k ks ih =>
    simp only [keepS, List.map_cons, fget]
    by_cases e : k = t
    · subst e; exact .inl (if_pos rfl)
    · rw [if_neg e]; exact ih
theorem Rel.newLp (h : Rel P A0 w0 β stk as fr bx nx a w) {w1 : World} {rec : Loop} {g nt : Nat} {ps ks : List Nat} {ca cb : ACode} (hk : Below w.heap.size w w1) (hg : w.heap.size ≤ g) (hgl : g < w1.heap.size) (hl : w1.heap[g]? = some (.loop rec)) (hrec : LpOk P rec nt ps ca cb) (hst : StOk rec .ready) (htm : rec.tmps = a.tmps) :
    Rel P A0 w0 (updL β nx ⟨some g, 0, 0⟩) stk as fr ((nx, .lp g (keepS ks fr) ps ca cb .ready) :: bx) (nx + 1) a w1 := by
  have hal : ∀ g0, g0 < w.heap.size → Al A0 w0 (bget bx) β g0 → Al A0 w0 (extB (bget bx) nx (some (.lp g (keepS ks fr) ps ca cb .ready))) (updL β nx ⟨some g, 0, 0⟩) g0 ∧ w1.heap[g0]? = w.heap[g0]? := by
    rintro g0 hg0 ⟨hA, hn⟩
    refine ⟨⟨hA, fun b c hb e => ?_⟩, hk.block g0 hg0⟩
    rcases extB_cases hb with hb | ⟨rfl, _⟩
    · rw [updL_old h.nxn _ _ hb] at e; exact hn b c hb e
    · rw [updL_new] at e; cases e; omega
  have hs : Soft P A0 w0 β (updL β nx ⟨some g, 0, 0⟩) (bget bx) nx (some (.lp g (keepS ks fr) ps ca cb .ready)) w w1 := by
    refine ⟨hk, fun b c hb => updL_old h.nxn _ _ hb, ?_⟩
    rintro c ⟨⟩
    refine ⟨⟨by rw [updL_new], rec, nt, hl, hrec, hst, fun t => ?_⟩, fun g' hg' => ?_⟩
    · rcases fget_keepS ks fr t with e | e
      · rw [e, htm]
        exact Rep.mono hk.size hal (fun b c hb => ⟨c, extB_some h.nxn hb, Kin.refl c, updL_old h.nxn _ _ hb⟩) _ _ (h.fr t)
      · rw [e]; trivial
    · rw [updL_new] at hg'; cases hg'; exact ⟨hg, hgl⟩
  have := h.soft hs (v := .und) (x := undef) trivial none (fun s hs => by cases hs)
  exact this
theorem putL_get {w' : World} {A : Nat → Prop} {B : Bmap} {nt : Nat} : ∀ (ps : List Nat) (vs : List Val) (xs : List Value) (fr : Fr) (tm : Array Value), ps.length = xs.length → (∀ t ∈ ps, t < nt) → nt ≤ tm.size → Rep w' A B β (vl vs) (.tuple ⟨xs⟩) → (∀ t, Rep w' A B β (fget fr t) (tm.getD t undef)) →
    nt ≤ (((ps.zip xs).foldl (fun (tmps : Array Value) (p : Nat × Value) => tmps.setIfInBounds p.1 p.2) tm)).size ∧ ∀ t, Rep w' A B β (fget (putL fr ps vs) t) (((ps.zip xs).foldl (fun (tmps : Array Value) (p : Nat × Value) => tmps.setIfInBounds p.1 p.2) tm).getD t undef) := by
  intro ps
  induction ps with
  | nil => intro vs xs fr tm hl _ hn hr hf; cases vs <;> exact ⟨hn, hf⟩
  | cons p ps ih =>
    intro vs xs fr tm hl hp hn hr hf
    cases xs with
    | nil => simp at hl
    | cons x xs =>
      cases vs with
      | nil =>
        have e : Value.tuple ⟨x :: xs⟩ = .tuple #[] := hr
        simp at e
      | cons v vs =>
        obtain ⟨y, ys, he, h1, h2⟩ := hr
        obtain ⟨rfl, rfl⟩ : y = x ∧ ys = xs := by simp at he; exact ⟨he.1.symm, he.2.symm⟩
        simp only [List.zip_cons_cons, List.foldl_cons, putL]
        refine ih vs ys ((p, v) :: fr) _ (by simpa using hl) (fun t ht => hp t (by simp [ht])) (by simpa using hn) h2 fun t => ?_
        have hpt := hp p (by simp)
        simp only [fget]
        by_cases e : p = t
        · subst e
          rw [if_pos rfl]
          simp [Array.getD_eq_getD_getElem?, show p < tm.size from by omega]
          exact h1
        · rw [if_neg e]
          have := hf t
          simp only [Array.getD_eq_getD_getElem?] at this ⊢
          rw [Array.getElem?_setIfInBounds_ne e]
          exact this
end Go.Proofs.YtbhhcnonooiokaaDoor
