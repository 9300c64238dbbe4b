/- The engine, part 16: behind an append; own slices seen as views. No condition. -/
import Derived.Test.YtbhhcnonooiokaaDoorFRel2
namespace Go.Proofs.YtbhhcnonooiokaaDoor
open Go Go.RowKit
variable {P : Program} {E : Env} {A0 : Nat → Prop} {w0 : World} {β β1 : Nat → Loc} {B : Bmap} {nx : Nat} {w w1 : World} {a : Act} {fr : Fr} {bx : Bx}

theorem sn_sub {b : Nat} {r : Val} {stk : List SFrame} {nx : Nat} (h : ∀ f ∈ stk, f.nx ≤ nx) : ∀ f ∈ subStk b r stk, f.nx ≤ nx := by
  induction stk with
  | nil => exact h
  | cons g l ih =>
    intro f hf
    simp only [subStk, List.mem_cons] at hf
    rcases hf with rfl | hf
    · exact h g (by simp)
    · exact ih (fun f hf => h f (by simp [hf])) f hf
theorem ownsRow_loc {base : Nat} {e : TypeId} {k : Nat} {v : Value} {n : Nat} {xs : List Value} (h : w.ownsRow base e k v n xs) : ∃ L : Loc, v = .slice (L.a.map fun g => ⟨g, 0, none⟩) n L.cap ∧ L.n = n ∧ v.ownBlock = L.a ∧ ∀ g, L.a = some g → base ≤ g ∧ g < w.heap.size := by
  have hlt := h.lt
  rcases h.2 with ⟨rfl, rfl⟩ | ⟨g, cap, cur, rfl, hb, _⟩
  · exact ⟨⟨none, 0, 0⟩, rfl, rfl, rfl, fun g hg => by cases hg⟩
  · exact ⟨⟨some g, n, cap⟩, rfl, rfl, rfl, fun g' hg => hlt g' hg⟩
theorem grown_below {row : Option Nat} {Bd : Nat} (h : w.grownBy w1 row) (hB : Bd ≤ w.heap.size) (hr : ∀ k, row = some k → Bd ≤ k) : Below Bd w w1 := (Below.refl Bd w).grown h hB hr
theorem Rel.appNil {stk : List SFrame} {as : List Act} (h : Rel P A0 w0 β stk as fr bx nx a w) {t ty e : TypeId} {i : TypeInfo} {z : Value} {k : Nat} (ht : P.underlying t = some (.slice e)) (hi : P.info? e = some i) (hz : i.zero = some z) (hsize : i.size = k) (hzs : z.cells.size = k) (hk : 0 < k)
    {v : Val} {x : Value} {ko : Option Nat} {m : Nat} {c : Nat → Nat → Val} (he : elemsV bx v = some (ko, m, c)) (hko : ko = some k ∨ ko = none) (hv : RepM A0 w0 β (bget bx) w v x) (hbytes : m * i.bytes ≤ 140737488355328) (d : Option Nat) (hd : ∀ s, d = some s → s < a.tmps.size) :
    ∃ β1 v' w1, (Builtin.append_ #[t, t] ty #[.slice none 0 0, x]).run P w = .ok v' w1 ∧ Rel P A0 w0 β1 stk as (fput fr d (.own nx)) ((nx, .row e k m c) :: bx) (nx + 1) (a.put d v') w1 := by
  obtain ⟨hmx, ya, yc, news, rfl, q1, q2, q3, q4⟩ := elems_rep h.mem (fun _ _ h => h) he hko hv
  obtain ⟨v', w1, hr, ho, hg, hfr⟩ := run_app (P := P) (w := w) (ty := ty) w0.heap.size ht hi hz hsize hzs hk (World.ownsRow_nil w _ e k) (ya := ya) (yc := yc) q1 q2 q3 (by omega) (by rw [Nat.zero_add]; exact hbytes) h.mem.below.size
  rw [Nat.zero_add, List.nil_append] at ho
  obtain ⟨L, hL1, hL2, hL3, hL4⟩ := ownsRow_loc ho
  have hge : ∀ g, L.a = some g → w.heap.size ≤ g ∧ g < w1.heap.size := fun g hg' => by
    rcases hfr g (by rw [hL3]; exact hg') with hh | hh
    · simp [Value.ownBlock] at hh
    · exact ⟨hh, (hL4 g hg').2⟩
  have hsoft : Soft P A0 w0 β (updL β nx L) (bget bx) nx (some (.row e k m c)) w w1 := by
    refine ⟨grown_below hg (Nat.le_refl _) (fun k hk => by simp [Value.ownBlock] at hk), fun b c hb => updL_old h.nxn _ _ hb, ?_⟩
    rintro c' ⟨⟩
    refine ⟨⟨by rw [updL_new]; exact hL2, hk, hmx, news, by rw [updL_new, ← hL1]; exact ho, fun i' hi' j hj => ?_⟩, fun g hg' => ?_⟩
    · obtain ⟨y, hy, ho1, hry⟩ := q4 i' hi' j hj
      refine ⟨y, hy, ho1, RepP.mono hg.size (fun g hgl hA => ⟨⟨hA.1, fun b c hb e' => ?_⟩, hg.block g hgl (by simp [Value.ownBlock])⟩) _ _ hry⟩
      rcases extB_cases hb with hb | ⟨rfl, _⟩
      · rw [updL_old h.nxn _ _ hb] at e'; exact hA.2 b c hb e'
      · rw [updL_new] at e'; have := (hge g e').1; omega
    · rw [updL_new] at hg'; exact hge g hg'
  refine ⟨updL β nx L, v', w1, hr, ?_⟩
  have := h.soft hsoft (v := .own nx) (x := v') ⟨⟨e, k, m, c, by simp [extB]⟩, by rw [updL_new, hL2]; exact hL1⟩ d hd
  exact this
theorem Rel.appOwn {stk : List SFrame} {as : List Act} (h : Rel P A0 w0 β stk as fr bx nx a w) {t ty e : TypeId} {i : TypeInfo} {z : Value} {k : Nat} (ht : P.underlying t = some (.slice e)) (hi : P.info? e = some i) (hz : i.zero = some z) (hsize : i.size = k) (hzs : z.cells.size = k) (hk : 0 < k)
    {b n : Nat} {c0 : Nat → Nat → Val} (hb : bget bx b = some (.row e k n c0)) {vx : Value} (hvx : RepM A0 w0 β (bget bx) w (.own b) vx)
    {v : Val} {x : Value} {ko : Option Nat} {m : Nat} {c : Nat → Nat → Val} (he : elemsV bx v = some (ko, m, c)) (hko : ko = some k ∨ ko = none) (hv : RepM A0 w0 β (bget bx) w v x) (h63 : n + m ≤ maxLen) (hbytes : (n + m) * i.bytes ≤ 140737488355328) (d : Option Nat) (hd : ∀ s, d = some s → s < a.tmps.size) :
    ∃ β1 v' w1, (Builtin.append_ #[t, t] ty #[vx, x]).run P w = .ok v' w1 ∧
      Rel P A0 w0 β1 (subStk b .und stk) as (fput (subFr b .und fr) d (.own b)) (bset (subBx b .und bx) b (.row e k (n + m) fun i j => if i < n then c0 i j else c (i - n) j)) nx (a.put d v') w1 := by
  obtain ⟨hmx, ya, yc, news, rfl, q1, q2, q3, q4⟩ := elems_rep h.mem (fun _ _ h => h) he hko hv
  obtain ⟨_, hvx⟩ := hvx
  obtain ⟨hn, _, hmax, xs, hown, hc0⟩ := h.mem.bx b _ hb
  rw [hn] at hvx
  rw [← hvx] at hown
  obtain ⟨v', w1, hr, ho, hg, hfr⟩ := run_app (P := P) (w := w) (ty := ty) w0.heap.size ht hi hz hsize hzs hk hown (ya := ya) (yc := yc) q1 q2 q3 h63 hbytes h.mem.below.size
  obtain ⟨L, hL1, hL2, hL3, hL4⟩ := ownsRow_loc ho
  have hob : vx.ownBlock = (β b).a := by rw [hvx]; cases (β b).a <;> rfl
  rw [hob] at hg hfr
  have hu : Upd A0 w0 β (updL β b L) b w w1 := by
    refine ⟨hg.size, fun k' hk' hne => hg.block k' hk' (fun e => hne e.symm), fun y hy => by simp [updL, hy], fun g hg' => ?_, ?_⟩
    · rw [updL_new] at hg'
      exact ⟨hfr g (by rw [hL3]; exact hg'), (hL4 g hg').2⟩
    · exact h.mem.below.grown hg h.mem.below.size fun g hg' => (h.mem.base b _ g hb hg').1
  have hB1 : ∀ y, bget (bset (subBx b .und bx) b (.row e k (n + m) fun i j => if i < n then c0 i j else c (i - n) j)) y = if y = b then some (.row e k (n + m) fun i j => if i < n then c0 i j else c (i - n) j) else (bget bx y).map (subBox b .und) := by
    intro y; rw [bget_bset, bget_subBx]
  generalize hBdef : (bset (subBx b .und bx) b (.row e k (n + m) fun i j => if i < n then c0 i j else c (i - n) j)) = bx1 at *
  have hdom : ∀ y c', bget bx1 y = some c' → ∃ c2, bget bx y = some c2 := by
    intro y c' hy
    rw [hB1] at hy
    by_cases hyb : y = b
    · subst hyb; exact ⟨_, hb⟩
    · rw [if_neg hyb] at hy
      obtain ⟨c2, h2, _⟩ := Option.map_eq_some_iff.1 hy
      exact ⟨c2, h2⟩
  have hal := hu.al hb hdom
  have hkin : ∀ y c', y ≠ b → bget bx y = some c' → ∃ c2, bget bx1 y = some c2 ∧ Kin c' c2 ∧ updL β b L y = β y := by
    intro y c' hyb hy
    refine ⟨subBox b .und c', by rw [hB1, if_neg hyb, hy]; rfl, ?_, by simp [updL, hyb]⟩
    cases c' <;> simp [subBox, Kin]
  have hsub : ∀ v x, RepM A0 w0 β (bget bx) w v x → RepM A0 w0 (updL β b L) (bget bx1) w1 (subV b .und v) x :=
    fun v x hr' => subV_rep (r := .und) (fun x _ => Rep.und x) hu.size hal hkin v x hr'
  refine ⟨updL β b L, v', w1, hr, ?_, ?_, ?_, by rw [put_dfs]; exact h.df.mono hu.size hal, sn_sub h.sn⟩
  · refine h.mem.upd (c1 := .row e k (n + m) fun i j => if i < n then c0 i j else c (i - n) j) hu hb (by rw [hB1, if_pos rfl]) (fun y c' _ hy => hdom y c' hy) ?_ fun y c' hyb hy => ?_
    · refine ⟨by rw [updL_new]; exact hL2, hk, h63, xs ++ news, by rw [updL_new, ← hL1]; exact ho, fun i' hi' j hj => ?_⟩
      have hxl := hown.1
      by_cases hin : i' < n
      · obtain ⟨y, hy, ho1, hry⟩ := hc0 i' hin j hj
        have hik : i' * k + k ≤ n * k := by rw [← Nat.succ_mul]; exact Nat.mul_le_mul_right k hin
        refine ⟨y, by rw [List.getElem?_append_left (by omega)]; exact hy, ho1, ?_⟩
        simp only [if_pos hin]
        exact RepP.mono hu.size hal _ _ hry
      · obtain ⟨y, hy, ho1, hry⟩ := q4 (i' - n) (by omega) j hj
        have hik : n * k ≤ i' * k := Nat.mul_le_mul_right k (by omega)
        refine ⟨y, ?_, ho1, ?_⟩
        · rw [List.getElem?_append_right (by omega), ← hy]
          congr 1
          rw [hxl, Nat.sub_mul]; omega
        · simp only [if_neg hin]
          exact RepP.mono hu.size hal _ _ hry
    · rw [hB1, if_neg hyb] at hy
      obtain ⟨c2, h2, rfl⟩ := Option.map_eq_some_iff.1 hy
      have hbo := h.mem.bx y c2 h2
      have hgne : ∀ g, (β y).a = some g → w1.heap[g]? = w.heap[g]? := fun g' hg' => hu.blk g' (h.mem.base y c2 g' h2 hg').2 fun e => h.mem.inj y c2 b _ g' h2 hb hyb hg' e
      cases c2 with
      | cells l =>
        obtain ⟨hl, g, ys, ty', p1, p2, p3⟩ := hbo
        exact ⟨(isLB_subV b .und l hl).1, g, ys, ty', by rw [hu.loc y hyb]; exact p1, by rw [hgne g p1]; exact p2, hsub _ _ p3⟩
      | lp g fr' ps ca cb st =>
        obtain ⟨p1, rec, nt, p2, p3, p4, p5⟩ := hbo
        exact ⟨by rw [hu.loc y hyb]; exact p1, rec, nt, by rw [hgne g p1]; exact p2, p3, p4, fun t => frs_sub hsub p5 t⟩
      | mp kd has f =>
        obtain ⟨g, m', p1, p2, p3⟩ := hbo
        refine ⟨g, m', by rw [hu.loc y hyb]; exact p1, p2.heap (hgne g p1), fun k => ⟨(p3 k).1, fun hk => ?_⟩⟩
        obtain ⟨y', hy', hr'⟩ := (p3 k).2 hk
        exact ⟨y', hy', hsub _ _ hr'⟩
      | row e' k' n' c' =>
        obtain ⟨p1, p2, p3, xs', p4, p5⟩ := hbo
        refine ⟨by rw [hu.loc y hyb]; exact p1, p2, p3, xs', ?_, fun i' hi' j hj => ?_⟩
        · rw [hu.loc y hyb]
          obtain ⟨hl, hoo⟩ := p4
          refine ⟨hl, ?_⟩
          rcases hoo with hoo | ⟨g, cap, cur, e1, e2, e3, e4⟩
          · exact .inl hoo
          · refine .inr ⟨g, cap, cur, e1, e2, ?_, e4⟩
            have : (β y).a = some g := by
              cases ha : (β y).a with
              | none => simp [ha] at e1
              | some g' => simp [ha] at e1; rw [e1.1]
            rw [hgne g this]; exact e3
        · obtain ⟨y', hy', ho1, hry⟩ := p5 i' hi' j hj
          exact ⟨y', hy', ho1, RepP.mono hu.size hal _ _ hry⟩
  · refine fr_put (v := .own b) (x := v') (fun t => fr_sub hsub h.fr t) ⟨⟨e, k, n + m, _, by rw [hB1, if_pos rfl]⟩, by rw [updL_new, hL2]; exact hL1⟩ d hd
  · refine StkR.sub (fun n' v x hr' => subV_rep (r := .und) (fun x _ => Rep.und x) hu.size hal (fun y c' hyb hy => ?_) v x hr') h.st
    unfold Bres at hy ⊢
    split at hy
    · rename_i hlt
      obtain ⟨c2, r1, r2, r3⟩ := hkin y c' hyb hy
      exact ⟨c2, by rw [if_pos hlt]; exact r1, r2, r3⟩
    · cases hy
/-- an own slice is seen as a view from here on -/
theorem Rel.frz1 {stk : List SFrame} {as : List Act} (h : Rel P A0 w0 β stk as fr bx nx a w) {b n k : Nat} {e : TypeId} {c : Nat → Nat → Val} (hb : bget bx b = some (.row e k n c)) :
    Rel P A0 w0 β (subStk b (.view k n c) stk) as (subFr b (.view k n c) fr) (subBx b (.view k n c) (bdel bx b)) nx a w := by
  have hB1 : ∀ y, bget (subBx b (.view k n c) (bdel bx b)) y = if y = b then none else (bget bx y).map (subBox b (.view k n c)) := by
    intro y; rw [bget_subBx, bget_bdel]; split <;> rfl
  generalize (subBx b (.view k n c) (bdel bx b)) = bx1 at *
  obtain ⟨hn, hk, hmax, xs, ⟨hxl, how⟩, hc⟩ := h.mem.bx b _ hb
  have hal : ∀ g, g < w.heap.size → Al A0 w0 (bget bx) β g → Al A0 w0 (bget bx1) β g ∧ w.heap[g]? = w.heap[g]? := by
    rintro g hg ⟨hA, hn⟩
    refine ⟨⟨hA, fun y c' hy => ?_⟩, rfl⟩
    rw [hB1] at hy
    split at hy
    · cases hy
    · obtain ⟨c2, h2, _⟩ := Option.map_eq_some_iff.1 hy
      exact hn y c2 h2
  have hkin : ∀ y c', y ≠ b → bget bx y = some c' → ∃ c2, bget bx1 y = some c2 ∧ Kin c' c2 ∧ β y = β y := by
    intro y c' hyb hy
    refine ⟨subBox b (.view k n c) c', by rw [hB1, if_neg hyb, hy]; rfl, ?_, rfl⟩
    cases c' <;> simp [subBox, Kin]
  have hview : ∀ (B0 : Bmap) x, Rep w (Al A0 w0 (bget bx) β) B0 β (.own b) x → RepP w (Al A0 w0 (bget bx1) β) (.view k n c) x := by
    rintro B0 x ⟨_, rfl⟩
    rw [hn]
    rcases how with ⟨e0, hn0⟩ | ⟨g, cap, cur, e1, e2, e3, e4, e5, e6, e7⟩
    · exact ⟨_, _, rfl, hmax, by omega, fun h => by omega⟩
    · have hg : (β b).a = some g := by
        cases ha : (β b).a with
        | none => simp [ha] at e1
        | some g' => simp [ha] at e1; rw [e1.1]
      have hcap : (β b).cap = cap := by simp at e1; exact e1.2
      refine ⟨_, _, rfl, hmax, by rw [hcap]; exact e4, fun h0 => ⟨g, 0, by simp [hg], (h.mem.base b _ g hb hg).2, ⟨.inr e2, fun y c' hy e' => ?_⟩, fun i hi j hj => ?_⟩⟩
      · rw [hB1] at hy
        split at hy
        · cases hy
        · rename_i hyb
          obtain ⟨c2, h2, _⟩ := Option.map_eq_some_iff.1 hy
          exact h.mem.inj y c2 b _ g h2 hb hyb e' hg
      · obtain ⟨y, hy, ho1, hr⟩ := hc i hi j hj
        refine ⟨y, ?_, ho1, RepP.mono (Nat.le_refl _) hal _ _ hr⟩
        have hik : i * k + k ≤ n * k := by rw [← Nat.succ_mul]; exact Nat.mul_le_mul_right k hi
        rw [Nat.zero_add, ← hy, ← e7, List.getElem?_take_of_lt (by omega)]
        simp [World.cell?, e3]
  have hsub : ∀ v x, RepM A0 w0 β (bget bx) w v x → RepM A0 w0 β (bget bx1) w (subV b (.view k n c) v) x :=
    fun v x hr' => subV_rep (r := .view k n c) (fun x hx => RepP.rep _ _ (hview _ x hx)) (Nat.le_refl _) hal hkin v x hr'
  refine ⟨⟨fun y c' hy => ?_, fun y c' y' c'' g hy hy' => ?_, fun y c' hy => ?_, fun y c' g hy => ?_, h.mem.below⟩, fun t => fr_sub hsub h.fr t, ?_, h.df.mono (Nat.le_refl _) hal, sn_sub h.sn⟩
  · rw [hB1] at hy
    split at hy
    · cases hy
    · obtain ⟨c2, h2, rfl⟩ := Option.map_eq_some_iff.1 hy
      have hbo := h.mem.bx y c2 h2
      cases c2 with
      | cells l =>
        obtain ⟨hl, g, ys, ty', p1, p2, p3⟩ := hbo
        exact ⟨(isLB_subV b _ l hl).1, g, ys, ty', p1, p2, hsub _ _ p3⟩
      | lp g fr' ps ca cb st =>
        obtain ⟨p1, rec, nt, p2, p3, p4, p5⟩ := hbo
        exact ⟨p1, rec, nt, p2, p3, p4, fun t => frs_sub hsub p5 t⟩
      | mp kd has f =>
        obtain ⟨g, m', p1, p2, p3⟩ := hbo
        refine ⟨g, m', p1, p2, fun k => ⟨(p3 k).1, fun hk => ?_⟩⟩
        obtain ⟨y', hy', hr'⟩ := (p3 k).2 hk
        exact ⟨y', hy', hsub _ _ hr'⟩
      | row e' k' n' c' =>
        obtain ⟨p1, p2, p3, xs', p4, p5⟩ := hbo
        refine ⟨p1, p2, p3, xs', p4, fun i' hi' j hj => ?_⟩
        obtain ⟨y', hy', ho1, hry⟩ := p5 i' hi' j hj
        exact ⟨y', hy', ho1, RepP.mono (Nat.le_refl _) hal _ _ hry⟩
  · rw [hB1] at hy hy'
    split at hy
    · cases hy
    · split at hy'
      · cases hy'
      · obtain ⟨c2, h2, _⟩ := Option.map_eq_some_iff.1 hy
        obtain ⟨c3, h3, _⟩ := Option.map_eq_some_iff.1 hy'
        exact h.mem.inj y c2 y' c3 g h2 h3
  · rw [hB1] at hy
    split at hy
    · cases hy
    · obtain ⟨c2, h2, _⟩ := Option.map_eq_some_iff.1 hy
      exact h.mem.nx y c2 h2
  · rw [hB1] at hy
    split at hy
    · cases hy
    · obtain ⟨c2, h2, _⟩ := Option.map_eq_some_iff.1 hy
      exact h.mem.base y c2 g h2
  · refine StkR.sub (fun n' v x hr' => subV_rep (r := .view k n c) (fun x hx => RepP.rep _ _ (hview _ x hx)) (Nat.le_refl _) hal (fun y c' hyb hy => ?_) v x hr') h.st
    unfold Bres at hy ⊢
    split at hy
    · rename_i hlt
      obtain ⟨c2, r1, r2, r3⟩ := hkin y c' hyb hy
      exact ⟨c2, by rw [if_pos hlt]; exact r1, r2, r3⟩
    · cases hy
/-- a box is named no more -/
theorem Rel.drop {stk : List SFrame} {as : List Act} (h : Rel P A0 w0 β stk as fr bx nx a w) {b : Nat} {c0 : Box} (hb : bget bx b = some c0) :
    Rel P A0 w0 β (subStk b .und stk) as (subFr b .und fr) (subBx b .und (bdel bx b)) nx a w := by
  have hB1 : ∀ y, bget (subBx b .und (bdel bx b)) y = if y = b then none else (bget bx y).map (subBox b .und) := by
    intro y; rw [bget_subBx, bget_bdel]; split <;> rfl
  generalize (subBx b .und (bdel bx b)) = bx1 at *
  have hal : ∀ g, g < w.heap.size → Al A0 w0 (bget bx) β g → Al A0 w0 (bget bx1) β g ∧ w.heap[g]? = w.heap[g]? := by
    rintro g hg ⟨hA, hn⟩
    refine ⟨⟨hA, fun y c' hy => ?_⟩, rfl⟩
    rw [hB1] at hy
    split at hy
    · cases hy
    · obtain ⟨c2, h2, _⟩ := Option.map_eq_some_iff.1 hy
      exact hn y c2 h2
  have hkin : ∀ y c', y ≠ b → bget bx y = some c' → ∃ c2, bget bx1 y = some c2 ∧ Kin c' c2 ∧ β y = β y := by
    intro y c' hyb hy
    refine ⟨subBox b .und c', by rw [hB1, if_neg hyb, hy]; rfl, ?_, rfl⟩
    cases c' <;> simp [subBox, Kin]
  have hsub : ∀ v x, RepM A0 w0 β (bget bx) w v x → RepM A0 w0 β (bget bx1) w (subV b .und v) x :=
    fun v x hr' => subV_rep (r := .und) (fun x _ => Rep.und x) (Nat.le_refl _) hal hkin v x hr'
  refine ⟨⟨fun y c' hy => ?_, fun y c' y' c'' g hy hy' => ?_, fun y c' hy => ?_, fun y c' g hy => ?_, h.mem.below⟩, fun t => fr_sub hsub h.fr t, ?_, h.df.mono (Nat.le_refl _) hal, sn_sub h.sn⟩
  · rw [hB1] at hy
    split at hy
    · cases hy
    · obtain ⟨c2, h2, rfl⟩ := Option.map_eq_some_iff.1 hy
      have hbo := h.mem.bx y c2 h2
      cases c2 with
      | cells l =>
        obtain ⟨hl, g, ys, ty', p1, p2, p3⟩ := hbo
        exact ⟨(isLB_subV b _ l hl).1, g, ys, ty', p1, p2, hsub _ _ p3⟩
      | lp g fr' ps ca cb st =>
        obtain ⟨p1, rec, nt, p2, p3, p4, p5⟩ := hbo
        exact ⟨p1, rec, nt, p2, p3, p4, fun t => frs_sub hsub p5 t⟩
      | mp kd has f =>
        obtain ⟨g, m', p1, p2, p3⟩ := hbo
        refine ⟨g, m', p1, p2, fun k => ⟨(p3 k).1, fun hk => ?_⟩⟩
        obtain ⟨y', hy', hr'⟩ := (p3 k).2 hk
        exact ⟨y', hy', hsub _ _ hr'⟩
      | row e' k' n' c' =>
        obtain ⟨p1, p2, p3, xs', p4, p5⟩ := hbo
        refine ⟨p1, p2, p3, xs', p4, fun i' hi' j hj => ?_⟩
        obtain ⟨y', hy', ho1, hry⟩ := p5 i' hi' j hj
        exact ⟨y', hy', ho1, RepP.mono (Nat.le_refl _) hal _ _ hry⟩
  · rw [hB1] at hy hy'
    split at hy
    · cases hy
    · split at hy'
      · cases hy'
      · obtain ⟨c2, h2, _⟩ := Option.map_eq_some_iff.1 hy
        obtain ⟨c3, h3, _⟩ := Option.map_eq_some_iff.1 hy'
        exact h.mem.inj y c2 y' c3 g h2 h3
  · rw [hB1] at hy
    split at hy
    · cases hy
    · obtain ⟨c2, h2, _⟩ := Option.map_eq_some_iff.1 hy
      exact h.mem.nx y c2 h2
  · rw [hB1] at hy
    split at hy
    · cases hy
    · obtain ⟨c2, h2, _⟩ := Option.map_eq_some_iff.1 hy
      exact h.mem.base y c2 g h2
  · refine StkR.sub (fun n' v x hr' => subV_rep (r := .und) (fun x _ => Rep.und x) (Nat.le_refl _) hal (fun y c' hyb hy => ?_) v x hr') h.st
    unfold Bres at hy ⊢
    split at hy
    · rename_i hlt
      obtain ⟨c2, r1, r2, r3⟩ := hkin y c' hyb hy
      exact ⟨c2, by rw [if_pos hlt]; exact r1, r2, r3⟩
    · cases hy
theorem skel_sub (b : Nat) (r : Val) : ∀ (stk : List SFrame), (subStk b r stk).map (fun f => (f.d, f.K, f.res, f.nx)) = stk.map fun f => (f.d, f.K, f.res, f.nx) := by
  intro stk; induction stk with
  | nil => rfl
  | cons f l ih => simp [subStk, ih]
abbrev skel (stk : List SFrame) := stk.map fun f => (f.d, f.K, f.res, f.nx)
theorem Rel.frz {as : List Act} : ∀ (l : List Nat) {fr fr' : Fr} {bx bx' : Bx} {stk stk' : List SFrame}, Rel P A0 w0 β stk as fr bx nx a w → frz l (fr, bx, stk) = some (fr', bx', stk') → Rel P A0 w0 β stk' as fr' bx' nx a w ∧ skel stk' = skel stk := by
  intro l; induction l with
  | nil => intro fr fr' bx bx' stk stk' h he; simp [Go.Proofs.YtbhhcnonooiokaaDoor.frz] at he; obtain ⟨rfl, rfl, rfl⟩ := he; exact ⟨h, rfl⟩
  | cons b l ih =>
    intro fr fr' bx bx' stk stk' h he
    simp only [Go.Proofs.YtbhhcnonooiokaaDoor.frz] at he
    split at he
    · rename_i e k n c hb
      obtain ⟨h1, h2⟩ := ih (h.frz1 hb) he
      exact ⟨h1, h2.trans (skel_sub b _ stk)⟩
    · exact ih h he
    · cases he
end Go.Proofs.YtbhhcnonooiokaaDoor
