/- The engine, part 11: make, slices cut, calls of functions that have a spec. No condition. -/
import Derived.Test.YtbhhcnonooiokaaDoorFSoft5
import Derived.OrdersIn
import Derived.CallsIn
import Derived.RangeFuncNested
import Derived.RangeFuncLeaves
import Derived.RangeFuncRecord
namespace Go.Proofs.YtbhhcnonooiokaaDoor
open Go Go.RowKit
variable {P : Program} {E : Env} {A0 : Nat → Prop} {w0 : World} {β : Nat → Loc} {B : Bmap} {nx : Nat} {w : World} {a : Act} {o : Oper} {fr : Fr} {bx : Bx}

theorem does_mks {t e : TypeId} {x y : Operand} {ox oy : Opd} {k bytes : Nat} {z : Val} {inf : TypeInfo} {N : Nat} (hm : Mem P A0 w0 β B N w) (hB : B nx = none) (ho : o.op = .makeSlice t x y) (ht : P.underlying t = some (.slice e)) (hz : zeroT P e = some (k, z)) (hi : P.info? e = some inf) (hby : inf.bytes = bytes)
    (hx : RepM A0 w0 β B w (ev E fr ox) (a.eval x)) (hy : RepM A0 w0 β B w (ev E fr oy) (a.eval y)) (hp : (aop E fr bx nx (.mks e k bytes z ox oy)).pre) : Does P A0 w0 β B nx w a o (aop E fr bx nx (.mks e k bytes z ox oy)) := by
  cases hv : ev E fr ox <;> cases hu : ev E fr oy <;> simp only [aop, hv, hu] at hp hx hy ⊢ <;> first | exact hp.elim | skip
  rename_i ka n kb n'
  obtain ⟨hp1, hp2, hp3, hp4, hp5, rfl, hp6, hp7, hp8⟩ := hp
  have e1 : a.eval x = .int ka n := hx
  have e2 : a.eval y = .int kb n := hy
  obtain ⟨i, v, q1, q2, q3, q4, q5⟩ := zeroT_spec hz
  rw [hi] at q1; cases q1
  have hr := cvs_rep (w := w) (A := Al A0 w0 B β) (fun v u h => cv0_rep h w _) _ _ q5
  have hmk := run_make (P := P) w t e inf v ht hi q2 ka kb n n hp6 (Int.le_refl _) (by rw [hby, Int.mul_comm]; omega) (by omega)
  have hrows := rows_zero (len := n.toNat) hr hp1 hp3 hp4 hp5
  refine ⟨.slice (some ⟨w.heap.size, 0, none⟩) n.toNat n.toNat, w.alloc (.cells (madeCells v.cells (n.toNat * inf.size)) e), updL β nx ⟨some w.heap.size, n.toNat, n.toNat⟩, ?_, ?_, ?_⟩
  · simp only [execOp, ho, e1, e2, Sem.run_bind, hmk, Result.andThen_ok, Sem.run_pure]
  · have hcells : madeCells v.cells (n.toNat * inf.size) = ⟨(List.range (n.toNat * k)).map fun p => (⟨v.cells.toList⟩ : Array Value)[p % (⟨v.cells.toList⟩ : Array Value).size]!⟩ := by
      rw [q3]; apply Array.toList_inj.1; simp [madeCells]
    rw [hcells]
    refine Soft.newRow hm hB hp5 (by unfold maxLen; omega) hrows.2.1 fun i hi j hj => ?_
    obtain ⟨y, h1, h2, h3⟩ := hrows.2.2 i hi j hj
    rw [vget_vrep z _ i hi] at h3
    exact ⟨y, h1, h2, h3⟩
  · exact ⟨⟨e, k, n.toNat, _, by simp [extB]; rfl⟩, by rw [updL_new]; rfl⟩
theorem optInt_rep {x : Option Operand} {ox : Option Opd} {d z : Int} (h : optOpd x = some ox) (hx : ∀ y, x = some y → OpR E A0 w0 β B w fr a y) (hz : optInt E fr d ox = some z) :
    (x = none ∧ z = d) ∨ ∃ y k, x = some y ∧ a.eval y = .int k z := by
  cases x with
  | none => simp [optOpd] at h; subst h; simp [optInt] at hz; exact .inl ⟨rfl, hz.symm⟩
  | some y =>
    obtain ⟨oy, h1, rfl⟩ := Option.map_eq_some_iff.1 h
    right
    have := hx y rfl oy h1
    simp only [optInt] at hz
    split at hz
    · rename_i k z' he
      simp at hz; subst hz
      rw [he] at this
      exact ⟨y, k, rfl, this⟩
    · cases hz
theorem does_sl {t e : TypeId} {x : Operand} {lo hi : Option Operand} {ox : Opd} {ol oh : Option Opd} {k : Nat} (ho : o.op = .slice t x lo hi none) (ht : P.underlying t = some (.slice e)) (hk : sizeT P e = some k) (hol : optOpd lo = some ol) (hoh : optOpd hi = some oh)
    (hx : RepM A0 w0 β B w (ev E fr ox) (a.eval x)) (hl : ∀ y, lo = some y → OpR E A0 w0 β B w fr a y) (hh : ∀ y, hi = some y → OpR E A0 w0 β B w fr a y) (hp : (aop E fr bx nx (.sl k ox ol oh)).pre) : Does P A0 w0 β B nx w a o (aop E fr bx nx (.sl k ox ol oh)) := by
  obtain ⟨inf, hinf, hn⟩ := Option.map_eq_some_iff.1 hk
  cases hv : ev E fr ox <;> simp only [aop, hv] at hp hx ⊢ <;> first | exact hp.elim | skip
  rename_i k' n c
  cases h1 : optInt E fr 0 ol <;> simp only [h1] at hp ⊢ <;> first | exact hp.elim | skip
  rename_i l
  cases h2 : optInt E fr n oh <;> simp only [h2] at hp ⊢ <;> first | exact hp.elim | skip
  rename_i h
  obtain ⟨rfl, hl0, hlh, hhn⟩ := hp
  obtain ⟨ad, cap, he, hmx, hnc, hc⟩ := hx
  have hels : P.elem t = e := by simp [Program.elem, ht]
  have hs : (sizeOf (P.elem t)).run P w = .ok k w := by simp [hels, sizeOf, typeInfo, hinf, hn]
  have ht' : P.underlying t = some (.slice (P.elem t)) := by rw [hels]; exact ht
  have key : (execOp a.eval o).run P w = .ok (.value (sliced ad l.toNat h.toNat cap k)) w := by
    have hgo : ∀ lo' hi', lo.map a.eval = lo' → hi.map a.eval = hi' → (Instr.slice t (.slice ad n cap) lo' hi' none).run P w = .ok (sliced ad l.toNat h.toNat cap k) w → (execOp a.eval o).run P w = .ok (.value (sliced ad l.toNat h.toNat cap k)) w := by
      intro lo' hi' e1 e2 e3
      simp [execOp, ho, he, e1, e2, Instr.sliceAt, run_underlying ht, e3]
    rcases optInt_rep hol hl h1 with ⟨rfl, rfl⟩ | ⟨y, kl, rfl, ey⟩ <;> rcases optInt_rep hoh hh h2 with ⟨rfl, rfl⟩ | ⟨y2, kh, rfl, ey2⟩
    · refine hgo none none rfl rfl ?_
      rw [run_slice_all (P := P) w t ad n cap ht', hs]; simp
    · refine hgo none (some (.int kh h)) rfl (by simp [ey2]) ?_
      rw [run_slice_h (P := P) w t ad n cap ht' kh h (by omega) (by omega), hs]; simp
    · refine hgo (some (.int kl l)) none (by simp [ey]) rfl ?_
      rw [run_slice_l (P := P) w t ad n cap ht' kl l hl0 (by omega), hs]; simp
    · refine hgo (some (.int kl l)) (some (.int kh h)) (by simp [ey]) (by simp [ey2]) ?_
      rw [run_slice_lh (P := P) w t ad n cap ht' kl kh l h hl0 hlh (by omega), hs]; simp
  have hpos : 0 < (h - l).toNat → 0 < n ∧ ¬ cap = l.toNat ∧ ∀ i, i < (h - l).toNat → l.toNat + i < n := by
    intro h0
    exact ⟨by omega, by omega, fun i hi => by omega⟩
  refine Does.plain rfl key ⟨_, cap - l.toNat, by rw [sliced, show (h - l).toNat = h.toNat - l.toNat from by omega], by omega, by omega, fun h0 => ?_⟩
  obtain ⟨hn0, hne, hin⟩ := hpos h0
  obtain ⟨g, off, rfl, hg, hA, hcell⟩ := hc hn0
  refine ⟨g, off + l.toNat * k, by simp [hne, add_lit], hg, hA, fun i hi j hj => ?_⟩
  obtain ⟨y, hy, ho1, hr⟩ := hcell (l.toNat + i) (hin i hi) j hj
  refine ⟨y, ?_, ho1, hr⟩
  rw [show off + l.toNat * k + i * k + j = off + (l.toNat + i) * k + j from by rw [Nat.add_mul]; omega]
  exact hy

/-! calls by a spec -/
def AnyL (A0 : Nat → Prop) (w0 : World) (B : Bmap) (β : Nat → Loc) (g : Nat) : Prop := Al A0 w0 B β g ∨ ∃ b c, B b = some c ∧ (β b).a = some g
theorem RepP.weak {w : World} {A A' : Nat → Prop} (h : ∀ g, g < w.heap.size → A g → A' g) {v : Val} {x : Value} (hr : RepP w A v x) : RepP w A' v x :=
  RepP.mono (Nat.le_refl _) (fun g hg hA => ⟨h g hg hA, rfl⟩) v x hr
theorem snap_rep {N : Nat} (hm : Mem P A0 w0 β B N w) (hbx : ∀ b c, B b = some c → bget bx b = some c) : ∀ (d : Nat) (v : Val) (x : Value), snapOk bx d v = true → RepM A0 w0 β B w v x → RepP w (AnyL A0 w0 B β) (snapV bx d v) x := by
  have hw : ∀ {v x}, RepQ A0 w0 β B w v x → RepP w (AnyL A0 w0 B β) v x := fun hr => RepP.weak (fun g _ h => .inl h) hr
  intro d
  induction d with
  | zero => intro v x hs hr; simp only [snapOk] at hs; simp only [snapV]; exact hw (Rep.pure v x hs hr)
  | succ d ihd =>
    intro v
    induction v with
    | cons h t ih1 ih2 =>
      rintro x hs ⟨y, ys, rfl, h1, h2⟩
      simp only [snapOk, Bool.and_eq_true] at hs
      simp only [snapV]
      exact ⟨y, ys, rfl, ih1 y hs.1 h1, ih2 _ hs.2 h2⟩
    | agg l ih => rintro x hs ⟨ys, rfl, h⟩; simp only [snapOk] at hs; simp only [snapV]; exact ⟨ys, rfl, ih _ hs h⟩
    | tup l ih => rintro x hs ⟨ys, rfl, h⟩; simp only [snapOk] at hs; simp only [snapV]; exact ⟨ys, rfl, ih _ hs h⟩
    | func fn l ih => rintro x hs ⟨ys, rfl, h⟩; simp only [snapOk] at hs; simp only [snapV]; exact ⟨ys, rfl, ih _ hs h⟩
    | own b =>
      rintro x hs ⟨⟨e, k, n, c, hl⟩, rfl⟩
      simp only [snapV, hbx b _ hl]
      obtain ⟨hn, hk, hmax, xs, ⟨hxl, how⟩, hc⟩ := hm.bx b _ hl
      rw [hn]
      rcases how with ⟨e0, hn0⟩ | ⟨g, cap, cur, e1, e2, e3, e4, e5, e6, e7⟩
      · have hcap : n ≤ (β b).cap := by omega
        exact ⟨_, _, rfl, hmax, hcap, fun h => by omega⟩
      · have hg : (β b).a = some g := by
          cases ha : (β b).a with
          | none => simp [ha] at e1
          | some g' => simp [ha] at e1; rw [e1.1]
        have hcap : (β b).cap = cap := by simp at e1; exact e1.2
        refine ⟨_, _, rfl, hmax, by rw [hcap]; exact e4, fun h0 => ⟨g, 0, by simp [hg], (hm.base b _ g hl hg).2, .inr ⟨b, _, hl, hg⟩, fun i hi j hj => ?_⟩⟩
        obtain ⟨y, hy, ho1, hr⟩ := hc i hi j hj
        refine ⟨y, ?_, ho1, hw hr⟩
        rw [Nat.zero_add, ← hy, ← e7]
        have hik : i * k + k ≤ n * k := by rw [← Nat.succ_mul]; exact Nat.mul_le_mul_right k hi
        rw [List.getElem?_take_of_lt (by omega)]
        simp [World.cell?, e3]
    | ptr b off =>
      rintro x hs ⟨⟨l, hl⟩, g, hg, rfl⟩
      simp only [snapOk, hbx b _ hl] at hs
      simp only [snapV, hbx b _ hl]
      obtain ⟨hlb, g', ys, t', h2, h3, h4⟩ := hm.bx b _ hl
      rw [hg] at h2; cases h2
      have hsn := ihd l (.tuple ⟨ys⟩) hs h4
      refine ⟨g, off, rfl, (hm.base b _ g hl hg).2, .inr ⟨b, _, hl, hg⟩, fun j hj => ?_⟩
      have hlen : ∀ (l : Val), isLB l = true → vlen (snapV bx d l) = vlen l := by
        intro l; induction l with
        | cons a t _ ih => intro hb; cases d <;> simp [snapV, vlen]; exact ih hb
        | nil => intro _; cases d <;> simp [snapV]
        | _ => intro hb; simp [isLB] at hb
      obtain ⟨y, hy, hr⟩ := Rep.get1 (B := fun _ => none) (β := fun _ => ⟨none, 0, 0⟩) (RepP.rep _ _ hsn) (off + j) (by rw [hlen l hlb]; omega)
      refine ⟨y, by rw [cell_of_heap h3]; exact hy, ?_⟩
      have : ∀ (l : Val) (zs : List Value) (j : Nat), RepP w (AnyL A0 w0 B β) l (.tuple ⟨zs⟩) → j < vlen l → ∃ y', zs[j]? = some y' ∧ RepP w (AnyL A0 w0 B β) (vget l j) y' := by
        intro l; induction l with
        | cons a t _ ih =>
          intro zs j h hj
          obtain ⟨y, ys, he, h1, h2⟩ := h
          have : zs = y :: ys := by simpa using he
          subst this
          cases j with
          | zero => exact ⟨y, rfl, h1⟩
          | succ j => obtain ⟨y', e, hr⟩ := ih ys j h2 (by simpa [vlen] using hj); exact ⟨y', by simpa using e, hr⟩
        | _ => intro zs j _ hj; simp [vlen] at hj
      obtain ⟨y', hy', hr'⟩ := this _ _ (off + j) hsn (by rw [hlen l hlb]; omega)
      rw [hy] at hy'; cases hy'; exact hr'
    | rptr b i off =>
      rintro x hs ⟨e, k, n, c, hl, hi, g, hg, rfl⟩
      simp only [snapV, hbx b _ hl]
      obtain ⟨hn, hk, hmax, xs, ⟨hxl, how⟩, hc⟩ := hm.bx b _ hl
      refine ⟨g, _, rfl, (hm.base b _ g hl hg).2, .inr ⟨b, _, hl, hg⟩, fun j hj => ?_⟩
      obtain ⟨y, hy, ho1, hr⟩ := hc i hi (off + j) (by omega)
      refine ⟨y, ?_, hw hr⟩
      have hik : i * k + k ≤ n * k := by rw [← Nat.succ_mul]; exact Nat.mul_le_mul_right k hi
      rcases how with ⟨e0, hn0⟩ | ⟨g', cap, cur, e1, e2, e3, e4, e5, e6, e7⟩
      · omega
      · rw [hg] at e1
        simp at e1
        rw [← e1.1] at e3
        rw [← hy, ← e7, List.getElem?_take_of_lt (by omega)]
        simp [World.cell?, e3, Nat.add_assoc]
    | mapb b =>
      rintro x hs ⟨⟨kd, has, f, hl⟩, g, hg, rfl⟩
      simp only [snapOk, hbx b _ hl] at hs
      simp only [snapV, hbx b _ hl]
      have hs := @of_decide_eq_true _ (Classical.propDecidable _) hs
      obtain ⟨g', m, h1, h2, h3⟩ := hm.bx b _ hl
      rw [hg] at h1; cases h1
      refine ⟨g, m, rfl, (hm.base b _ g hl hg).2, .inr ⟨b, _, hl, hg⟩, h2, fun k => ⟨(h3 k).1, fun hk => ?_⟩⟩
      obtain ⟨y, hy, hr⟩ := (h3 k).2 hk
      exact ⟨y, hy, by simp only [hk, pickV]; exact ihd (f k) y (hs k hk) hr⟩
    | yld b => intro x hs; simp [snapOk] at hs
    | und => intro x _ h; simp only [snapV]; exact h
    | nil => intro x _ h; simp only [snapV]; exact h
    | _ => intro x _ h; simp only [snapV]; exact hw h
theorem flat_rep {w' : World} {A A' : Nat → Prop} : ∀ (v : Val) (x : Value), flatB v = true → RepP w A v x → RepP w' A' v x := by
  intro v
  induction v with
  | cons h t ih1 ih2 =>
    rintro x hf ⟨y, ys, rfl, h1, h2⟩
    simp only [flatB, Bool.and_eq_true] at hf
    exact ⟨y, ys, rfl, ih1 y hf.1 h1, ih2 _ hf.2 h2⟩
  | agg l ih => rintro x hf ⟨ys, rfl, h⟩; exact ⟨ys, rfl, ih _ hf h⟩
  | tup l ih => rintro x hf ⟨ys, rfl, h⟩; exact ⟨ys, rfl, ih _ hf h⟩
  | view k n c => intro x hf; simp [flatB] at hf
  | vptr m c => intro x hf; simp [flatB] at hf
  | func fn l ih => intro x hf; simp [flatB] at hf
  | ptr b off => intro x hf; simp [flatB] at hf
  | own b => intro x hf; simp [flatB] at hf
  | rptr b i off => intro x hf; simp [flatB] at hf
  | mapb b => intro x hf; simp [flatB] at hf
  | mview kd has f => intro x hf; simp [flatB] at hf
  | _ => intro x _ h; exact h
theorem norm1_rep {A : Nat → Prop} (s : Sh) (v : Val) (x : Value) (h : RepP w A v x) : RepP w A (norm1 s v) x := by
  cases s <;> cases v <;> first | exact h | skip
  have e : x = .slice none 0 0 := h
  subst e
  exact ⟨none, 0, rfl, by decide, Nat.le_refl _, fun h => absurd h (Nat.lt_irrefl _)⟩
theorem norms_rep {A : Nat → Prop} : ∀ (s : List Sh) (v : Val) (x : Value), RepP w A v x → RepP w A (norms s v) x := by
  intro s; induction s with
  | nil => intro v x h; cases v <;> exact h
  | cons c s ih =>
    intro v x h
    cases v <;> first | exact h | skip
    obtain ⟨y, ys, rfl, h1, h2⟩ := h
    exact ⟨y, ys, rfl, norm1_rep c _ _ h1, ih _ _ h2⟩
theorem norm_rep {A : Nat → Prop} (s : List Sh) (v : Val) (x : Value) (h : RepP w A v x) : RepP w A (norm s v) x := by
  unfold norm
  split
  · obtain ⟨ys, rfl, h⟩ := h; exact ⟨ys, rfl, norms_rep _ _ _ h⟩
  · exact norm1_rep _ _ _ h
  · exact h
theorem normL_rep {A : Nat → Prop} : ∀ (args : List (List Sh × Opd)) (vs : List Val) (x : Value), RepP w A (vl vs) x → RepP w A (vl (normL args vs)) x := by
  intro args; induction args with
  | nil => intro vs x h; cases vs <;> exact h
  | cons p args ih =>
    intro vs x h
    cases vs with
    | nil => exact h
    | cons v vs =>
      obtain ⟨y, ys, rfl, h1, h2⟩ := h
      exact ⟨y, ys, rfl, norm_rep _ _ _ h1, ih _ _ h2⟩
theorem args_rep : ∀ (l : List Operand) (ts : List TypeId) (r : List (List Sh × Opd)), cArgs P l ts = some r → (∀ x ∈ l, OpR E A0 w0 β B w fr a x) → RepM A0 w0 β B w (vl (argsL E fr r)) (.tuple ⟨l.map a.eval⟩) := by
  intro l; induction l with
  | nil => intro ts r h _; simp [cArgs] at h; subst h; rfl
  | cons x l ih =>
    intro ts r h hx
    simp only [cArgs] at h
    split at h
    · rename_i ox r' h1 h2
      simp at h; subst h
      exact ⟨_, _, rfl, hx x (by simp) ox h1, ih _ _ h2 fun y hy => hx y (by simp [hy])⟩
    · cases h
theorem caps_rep : ∀ (v : Val) (ys : List Value), isLB v = true → RepM A0 w0 β B w v (.tuple ⟨ys⟩) → RepM A0 w0 β B w (vl (capsL v)) (.tuple ⟨ys⟩) := by
  intro v; induction v with
  | nil => intro ys _ h; exact h
  | cons h t ih1 ih2 =>
    rintro ys hl ⟨y, zs, he, h1, h2⟩
    have : ys = y :: zs := by simpa using he
    subst this
    exact ⟨y, zs, rfl, h1, ih2 zs hl h2⟩
  | _ => intro ys hl; simp [isLB] at hl
theorem isL_vl : ∀ l, isL (vl l) := by intro l; induction l with | nil => trivial | cons v l ih => exact ih
theorem vl_app : ∀ (l r : List Val), vl (l ++ r) = vapp (vl l) (vl r) := by
  intro l r; induction l with
  | nil => cases h : vl r <;> simp [vl, vapp, h]
  | cons v l ih => simp [vl, vapp, ih]
theorem pureL_rep {A : Nat → Prop} : ∀ (l : List Val) (x : Value), pureL l = true → Rep w A B β (vl l) x → RepP w A (vl l) x := by
  intro l x hp hr
  refine Rep.pure _ _ ?_ hr
  induction l generalizing x with
  | nil => rfl
  | cons v l ih =>
    simp only [pureL, Bool.and_eq_true] at hp
    obtain ⟨y, ys, rfl, h1, h2⟩ := hr
    simp only [vl, pureB, Bool.and_eq_true]
    exact ⟨hp.1, ih _ hp.2 h2⟩
theorem snapL_rep {N : Nat} (hm : Mem P A0 w0 β B N w) (hbx : ∀ b c, B b = some c → bget bx b = some c) : ∀ (l : List Val) (x : Value), snapOks bx l = true → RepM A0 w0 β B w (vl l) x → RepP w (AnyL A0 w0 B β) (vl (snapL bx l)) x := by
  intro l; induction l with
  | nil => intro x _ h; exact h
  | cons v l ih =>
    rintro x hs ⟨y, ys, rfl, h1, h2⟩
    simp only [snapOks, Bool.and_eq_true] at hs
    exact ⟨y, ys, rfl, snap_rep hm hbx 4 v y hs.1 h1, ih _ hs.2 h2⟩
theorem glob_rep {N : Nat} (hm : Mem P A0 w0 β B N w) (hG : ∀ n m c, E.G n = some (m, c) → RepP w0 A0 (.vptr m c) (.pointer (some ⟨n, 0, none⟩))) {n m : Nat} {c : Nat → Val} (h : E.G n = some (m, c)) : RepQ A0 w0 β B w (.vptr m c) (.pointer (some ⟨n, 0, none⟩)) :=
  RepP.mono hm.below.size (fun g hg hA => ⟨⟨.inl hA, fun b c hb e => by have := (hm.base b c g hb e).1; omega⟩, hm.below.block g hg⟩) _ _ (hG n m c h)
/-- the widest fence, in a round or not -/
abbrev FW (ro : Option Nat) : Fence := { Fence.wide with round := ro }
theorem wpIn_plain {ro : Option Nat} {next : Act → World → Prop} {Q : Exit → Act → World → Prop} (hnd : ∀ c, o.op ≠ .defer c) (h : o.uponIn (FW ro) 0 P a next Q ((execOp a.eval o).run P w)) : o.wpIn (FW ro) 0 P a w next Q :=
  ⟨fun _ _ => trivial, by rw [Oper.semAt_eq _ _ _ hnd]; exact h⟩
theorem wpIn_value {ro : Option Nat} {next : Act → World → Prop} {Q : Exit → Act → World → Prop} {x : Value} {w1 : World} (hnd : ∀ c, o.op ≠ .defer c) (hr : (execOp a.eval o).run P w = .ok (.value x) w1) (h : next (a.put o.dst x) w1) : o.wpIn (FW ro) 0 P a w next Q :=
  wpIn_plain hnd (by rw [hr]; exact h)
theorem wpIn_skip' {ro : Option Nat} {next : Act → World → Prop} {Q : Exit → Act → World → Prop} {w1 : World} (hnd : ∀ c, o.op ≠ .defer c) (hr : (execOp a.eval o).run P w = .ok .skip w1) (h : next (a.put o.dst undef) w1) : o.wpIn (FW ro) 0 P a w next Q :=
  wpIn_plain hnd (by rw [hr]; exact h)
theorem wpIn_enter {ro : Option Nat} {next : Act → World → Prop} {Q : Exit → Act → World → Prop} {f : FuncId} {args : Array Value} {w1 : World} (hnd : ∀ c, o.op ≠ .defer c) (hr : (execOp a.eval o).run P w = .ok (.enter f args) w1)
    (h : Calls P f args w1 fun
      | .returned v, w'' => next (a.put o.dst v) w''
      | .panicked chain, w'' => Q (.panic chain) a w''
      | .outgrown, _ => LetsOut Q) : o.wpIn (FW ro) 0 P a w next Q :=
  wpIn_plain hnd (by rw [hr]; exact ⟨fun h => (by cases h), (callsIn_wide (n := 0)).2 h⟩)
theorem wp_call_spec {ro : Option Nat} {c : Call} {f : Operand} {of : Opd} {args : List (List Sh × Opd)} {next : Act → World → Prop} {Q : Exit → Act → World → Prop} {N : Nat} (hm : Mem P A0 w0 β B N w) (hbx : ∀ b c, B b = some c → bget bx b = some c) (hG : ∀ n m c, E.G n = some (m, c) → RepP w0 A0 (.vptr m c) (.pointer (some ⟨n, 0, none⟩)))
    (hS : ∀ id s, E.S id = some s → PureOk P E.G id s) (ho : o.op = .call c) (hcal : c.callee = .value f) (hf : cOpd f = some of) (hargs : cArgs P c.args.toList c.argTypes.toList = some args)
    (hxf : RepM A0 w0 β B w (ev E fr of) (a.eval f)) (hx : ∀ x ∈ c.args.toList, OpR E A0 w0 β B w fr a x) (hp : (aop E fr bx nx (.call of args)).pre)
    (hnext : ∀ x w1, Soft P A0 w0 β β B nx none w w1 → RepM A0 w0 β B w1 (aop E fr bx nx (.call of args)).v x → next (a.put o.dst x) w1) : o.wpIn (FW ro) 0 P a w next Q ∧ (aop E fr bx nx (.call of args)).new = none := by
  cases hv : ev E fr of <;> simp only [aop, hv] at hp hxf hnext ⊢ <;> first | exact hp.elim | skip
  rename_i fn caps
  cases fn <;> simp only at hp hnext ⊢ <;> first | exact hp.elim | skip
  rename_i id
  cases hs : E.S id <;> simp only [hs] at hp hnext ⊢ <;> first | exact hp.elim | skip
  rename_i s
  obtain ⟨ys, he, hcr⟩ := hxf
  have hargsR := args_rep c.args.toList c.argTypes.toList args hargs hx
  have hcapR := caps_rep caps ys hp.1 hcr
  have hall : RepM A0 w0 β B w (vl (argsL E fr args ++ capsL caps)) (.tuple ⟨c.args.toList.map a.eval ++ ys⟩) := by
    rw [vl_app]; exact Rep.app hargsR (isL_vl _) hcapR
  generalize argsL E fr args ++ capsL caps = vs at *
  have hok := hS id s hs
  have henter : (execOp a.eval o).run P w = .ok (.enter id ⟨c.args.toList.map a.eval ++ ys⟩) w := by
    have e1 : (Array.map a.eval c.args ++ (⟨ys⟩ : Array Value)) = ⟨c.args.toList.map a.eval ++ ys⟩ := by apply Array.toList_inj.1; simp
    simp [execOp, ho, resolve, hcal, he, Deferred.ofValue, invoke, hok.ent, e1]
  have hAl : ∀ w1, Below w.heap.size w w1 → ∀ g, g < w1.heap.size → (Al A0 w0 B β g ∨ w.heap.size ≤ g) → Al A0 w0 B β g := by
    rintro w1 hb g hg (h | h)
    · exact h
    · exact ⟨.inr (by have := hm.below.size; omega), fun b c hB e => by have := (hm.base b c g hB e).2; omega⟩
  cases hpu : pureL vs with
  | true =>
    simp only [specV, hpu] at hp hnext ⊢
    refine ⟨?_, trivial⟩
    have hcalls := hok.run (Al A0 w0 B β) w _ _ (fun n m c h => glob_rep hm hG h) (normL_rep args vs _ (pureL_rep vs _ hpu hall)) hp.2
    refine wpIn_enter (fun c' h => by rw [ho] at h; cases h) henter (hcalls.mono fun e w1 => ?_)
    rintro ⟨x, rfl, hr, hb⟩
    exact hnext x w1 (Soft.none hb) (RepP.rep _ _ (RepP.mono (Nat.le_refl _) (fun g hg h => ⟨hAl w1 hb g hg h, rfl⟩) _ _ hr))
  | false =>
    simp only [specV, hpu] at hp hnext ⊢
    refine ⟨?_, trivial⟩
    have hcalls := hok.run (AnyL A0 w0 B β) w _ _ (fun n m c h => RepP.weak (fun g _ h => .inl h) (glob_rep hm hG h)) (normL_rep args _ _ (snapL_rep hm hbx vs _ hp.2.1 hall)) hp.2.2.1
    refine wpIn_enter (fun c' h => by rw [ho] at h; cases h) henter (hcalls.mono fun e w1 => ?_)
    rintro ⟨x, rfl, hr, hb⟩
    exact hnext x w1 (Soft.none hb) (RepP.rep _ _ (flat_rep _ _ hp.2.2.2 hr))
end Go.Proofs.YtbhhcnonooiokaaDoor
