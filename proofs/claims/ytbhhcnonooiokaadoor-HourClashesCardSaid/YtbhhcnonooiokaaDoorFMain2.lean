/- The engine, part 19: stores and appends in a run; one step. No condition. -/
import Derived.Test.YtbhhcnonooiokaaDoorFMain
namespace Go.Proofs.YtbhhcnonooiokaaDoor
open Go Go.RowKit
variable {P : Program} {E : Env} {A0 : Nat → Prop} {w0 : World} {Qf : Val → Bx → Prop}
section
variable {n : Nat} {ro : Option Nat} {ops : Array Oper} {nt : Nat} {o : Oper} {ao : AOper} {l : List AOper} {K : List Item} {stk : List SFrame} {res : List ARes} {fr : Fr} {bx : Bx} {nx : Nat} {Q : Exit → Act → World → Prop} {knext : Act → World → Prop} {a : Act} {w : World} {β : Nat → Loc} {as : List Act}
  {sk : List (Option Nat × List Item × List ARes × Nat)}
def GoesR (P : Program) (A0 : Nat → Prop) (w0 : World) (nt : Nat) (as : List Act) (sk : List (Option Nat × List Item × List ARes × Nat)) (R : List SFrame → Fr → Bx → Nat → Prop) (knext : Act → World → Prop) : Prop :=
  ∀ β stk fr bx nx a w, nt ≤ a.tmps.size → Rel P A0 w0 β stk as fr bx nx a w → skel stk = sk → R stk fr bx nx → knext a w
variable {R : List SFrame → Fr → Bx → Nat → Prop}
theorem store_inv {m : Nat} {ad x : Opd} {q : Op} (h : cOp P q = some (.store m ad x)) : ∃ t xa xx, q = .store t xa xx ∧ sizeT P t = some m ∧ cOpd xa = some ad ∧ cOpd xx = some x := by
  cases q <;> simp only [cOp] at h <;> first | (cases h; done) | skip
  case move => simp at h
  case assign => simp at h
  case pick => split at h <;> simp at h
  case alloc => simp at h
  case box => split at h <;> simp at h
  case build => split at h <;> first | (split at h <;> simp at h; done) | (simp at h; done)
  case buildSlice => split at h <;> first | (split at h <;> first | (split at h <;> simp at h; done) | (simp at h; done)) | (simp at h; done)
  case load => split at h <;> simp at h
  case store t xa xx =>
    split at h <;> simp at h
    rename_i n' a' x' h1 h2 h3
    obtain ⟨rfl, rfl, rfl⟩ := h
    exact ⟨t, xa, xx, rfl, h1, h2, h3⟩
  case binOp => split at h <;> first | (split at h <;> first | (split at h <;> first | (split at h <;> first | (split at h <;> simp at h; done) | (simp at h; done)) | (simp at h; done)) | (simp at h; done)) | (simp at h; done)
  case unOp => simp at h
  case convert => split at h <;> simp at h
  case makeFunc => split at h <;> simp at h
  case makeMap t x => cases x <;> simp only [] at h <;> first | (cases h; done) | (split at h <;> first | (split at h <;> simp at h; done) | (simp at h; done))
  case lookup => split at h <;> first | (split at h <;> simp at h; done) | (simp at h; done)
  case insert => split at h <;> first | (split at h <;> simp at h; done) | (simp at h; done)
  case mapUpdate => split at h <;> first | (split at h <;> simp at h; done) | (simp at h; done)
  case makeSlice => split at h <;> first | (split at h <;> simp at h; done) | (simp at h; done)
  case slice t x lo hi mx => cases mx <;> simp only [] at h <;> first | (cases h; done) | (split at h <;> simp at h; done)
  case fieldAddr => split at h <;> first | (split at h <;> first | (split at h <;> simp at h; done) | (simp at h; done)) | (simp at h; done)
  case indexAddr => split at h <;> simp at h
  case extract => simp at h
  case nilCheck => simp at h
  case call c =>
    split at h
    · split at h <;> simp at h
    · split at h
      · split at h <;> simp at h
      · cases h
    · split at h
      · split at h <;> simp at h
      · cases h
    · split at h
      · split at h <;> simp at h
      · cases h
    · split at h
      · split at h
        · split at h
          · split at h <;> simp at h
          · cases h
        · cases h
      · cases h
    · cases h
theorem mset_inv {kd : IntKind} {m x v : Opd} {q : Op} (h : cOp P q = some (.mset kd m x v)) : ∃ t k e xm xx xv, (q = .insert t xm xx xv ∨ q = .mapUpdate t xm xx xv) ∧ P.underlying t = some (.map k e) ∧ P.underlying k = some (.int kd) ∧ cOpd xm = some m ∧ cOpd xx = some x ∧ cOpd xv = some v := by
  cases q <;> simp only [cOp] at h <;> first | (cases h; done) | skip
  case move => simp at h
  case assign => simp at h
  case pick => split at h <;> simp at h
  case alloc => simp at h
  case box => split at h <;> simp at h
  case build => split at h <;> first | (split at h <;> simp at h; done) | (simp at h; done)
  case buildSlice => split at h <;> first | (split at h <;> first | (split at h <;> simp at h; done) | (simp at h; done)) | (simp at h; done)
  case load => split at h <;> simp at h
  case store => split at h <;> simp at h
  case binOp => split at h <;> first | (split at h <;> first | (split at h <;> first | (split at h <;> first | (split at h <;> simp at h; done) | (simp at h; done)) | (simp at h; done)) | (simp at h; done)) | (simp at h; done)
  case unOp => simp at h
  case convert => split at h <;> simp at h
  case makeFunc => split at h <;> simp at h
  case makeMap t x => cases x <;> simp only [] at h <;> first | (cases h; done) | (split at h <;> first | (split at h <;> simp at h; done) | (simp at h; done))
  case lookup => split at h <;> first | (split at h <;> simp at h; done) | (simp at h; done)
  case insert t xm xx xv =>
    split at h
    · rename_i k e hu
      split at h <;> simp at h
      rename_i kd' m' x' v' h1 h2 h3 h4
      obtain ⟨rfl, rfl, rfl, rfl⟩ := h
      exact ⟨t, k, e, xm, xx, xv, .inl rfl, hu, h1, h2, h3, h4⟩
    · cases h
  case mapUpdate t xm xx xv =>
    split at h
    · rename_i k e hu
      split at h <;> simp at h
      rename_i kd' m' x' v' h1 h2 h3 h4
      obtain ⟨rfl, rfl, rfl, rfl⟩ := h
      exact ⟨t, k, e, xm, xx, xv, .inr rfl, hu, h1, h2, h3, h4⟩
    · cases h
  case makeSlice => split at h <;> first | (split at h <;> simp at h; done) | (simp at h; done)
  case slice t x lo hi mx => cases mx <;> simp only [] at h <;> first | (cases h; done) | (split at h <;> simp at h; done)
  case fieldAddr => split at h <;> first | (split at h <;> first | (split at h <;> simp at h; done) | (simp at h; done)) | (simp at h; done)
  case indexAddr => split at h <;> simp at h
  case extract => simp at h
  case nilCheck => simp at h
  case call c =>
    split at h
    · split at h <;> simp at h
    · split at h
      · split at h <;> simp at h
      · cases h
    · split at h
      · split at h <;> simp at h
      · cases h
    · split at h
      · split at h <;> simp at h
      · cases h
    · split at h
      · split at h
        · split at h
          · split at h <;> simp at h
          · cases h
        · cases h
      · cases h
    · cases h
theorem app_inv {e k by' : Nat} {x y : Opd} {q : Op} (h : cOp P q = some (.app e k by' x y)) : ∃ c xa xb t z i, q = .call c ∧ c.callee = .builtin .append ∧ c.args.toList = [xa, xb] ∧ c.argTypes.toList = [t, t] ∧ P.underlying t = some (.slice e) ∧ zeroT P e = some (k, z) ∧ P.info? e = some i ∧ i.bytes = by' ∧ cOpd xa = some x ∧ cOpd xb = some y := by
  cases q <;> simp only [cOp] at h <;> first | (cases h; done) | skip
  case move => simp at h
  case assign => simp at h
  case pick => split at h <;> simp at h
  case alloc => simp at h
  case box => split at h <;> simp at h
  case build => split at h <;> first | (split at h <;> simp at h; done) | (simp at h; done)
  case buildSlice => split at h <;> first | (split at h <;> first | (split at h <;> simp at h; done) | (simp at h; done)) | (simp at h; done)
  case load => split at h <;> simp at h
  case store => split at h <;> simp at h
  case binOp => split at h <;> first | (split at h <;> first | (split at h <;> first | (split at h <;> first | (split at h <;> simp at h; done) | (simp at h; done)) | (simp at h; done)) | (simp at h; done)) | (simp at h; done)
  case unOp => simp at h
  case convert => split at h <;> simp at h
  case makeFunc => split at h <;> simp at h
  case makeMap t x => cases x <;> simp only [] at h <;> first | (cases h; done) | (split at h <;> first | (split at h <;> simp at h; done) | (simp at h; done))
  case lookup => split at h <;> first | (split at h <;> simp at h; done) | (simp at h; done)
  case insert => split at h <;> first | (split at h <;> simp at h; done) | (simp at h; done)
  case mapUpdate => split at h <;> first | (split at h <;> simp at h; done) | (simp at h; done)
  case makeSlice => split at h <;> first | (split at h <;> simp at h; done) | (simp at h; done)
  case slice t x lo hi mx => cases mx <;> simp only [] at h <;> first | (cases h; done) | (split at h <;> simp at h; done)
  case fieldAddr => split at h <;> first | (split at h <;> first | (split at h <;> simp at h; done) | (simp at h; done)) | (simp at h; done)
  case indexAddr => split at h <;> simp at h
  case extract => simp at h
  case nilCheck => simp at h
  case call c =>
    split at h
    · split at h <;> simp at h
    · split at h
      · split at h <;> simp at h
      · cases h
    · split at h
      · split at h <;> simp at h
      · cases h
    · split at h
      · split at h <;> simp at h
      · cases h
    · rename_i hcal
      split at h
      · rename_i xa xb t u q1 q2
        split at h
        · rename_i htu
          subst htu
          split at h
          · rename_i e' ox oy q3 q4 q5
            split at h <;> simp at h
            rename_i k' z i q6 q7
            obtain ⟨rfl, rfl, rfl, rfl, rfl⟩ := h
            exact ⟨c, xa, xb, t, z, i, rfl, hcal, q1, q2, q3, q6, q7, rfl, q4, q5⟩
          · cases h
        · cases h
      · cases h
    · cases h
theorem store_step (he : EnvOk P E A0 w0) (hc : cOper P ops.toList nt o = some ao) (hsz : nt ≤ a.tmps.size) (hrel : Rel P A0 w0 β stk as fr bx nx a w) (hsk : skel stk = sk) (hk : GoesR P A0 w0 nt as sk R knext)
    {m : Nat} {ad x : Opd} (hop : ao.op = .store m ad x)
    (hrun : match ev E fr ad with
        | .ptr b off => match bget bx b with
          | some (.cells c) => cellsN m (ev E fr x) ∧ onesB (cellsOf (ev E fr x)) = true ∧ off + m ≤ vlen c ∧ R stk (fput fr ao.dst .und) (bset bx b (.cells (vsets c off (cellsOf (ev E fr x))))) nx
          | _ => False
        | .rptr b i off => match bget bx b with
          | some (.row e k m' c) => cellsN m (ev E fr x) ∧ onesB (cellsOf (ev E fr x)) = true ∧ pureB (ev E fr x) = true ∧ off + m ≤ k ∧ R stk (fput fr ao.dst .und) (bset bx b (.row e k m' fun i' j' => if i' = i ∧ off ≤ j' ∧ j' < off + m then vget (cellsOf (ev E fr x)) (j' - off) else c i' j')) nx
          | _ => False
        | _ => False) : o.wpIn (FW ro) 0 P a w knext Q := by
  obtain ⟨h1, h2, h3, h4⟩ := cOper_spec hc
  have hd : ∀ s, o.dst = some s → s < a.tmps.size := fun s hs => Nat.lt_of_lt_of_le (h4 s hs) hsz
  rw [hop] at h1
  obtain ⟨t, xa, xx, ho, q1, q2, q3⟩ := store_inv h1
  have hxa : RepM A0 w0 β (bget bx) w (ev E fr ad) (a.eval xa) := ev_rep he hrel.mem (fun t _ => hrel.fr t) ad q2
  have hxx : RepM A0 w0 β (bget bx) w (ev E fr x) (a.eval xx) := ev_rep he hrel.mem (fun t _ => hrel.fr t) x q3
  cases hv : ev E fr ad <;> simp only [hv] at hrun hxa <;> first | exact hrun.elim | skip
  · rename_i b off
    obtain ⟨⟨c, hb⟩, g, hg, he'⟩ := hxa
    simp only [hb] at hrun
    obtain ⟨p1, p1', p2, hrun⟩ := hrun
    obtain ⟨hlb, g', ys, ty, r2, r3, r4⟩ := hrel.mem.bx b _ hb
    rw [hg] at r2; cases r2
    obtain ⟨e1, e2, e3, e4⟩ := cellsOf_rep p1 hxx
    have hlen := Rep.len r4 (isLB_isL hlb)
    have hst := run_storeAt (P := P) (w := w) (off := off) q1 e4 (ones_rep _ _ p1' e3 (isLB_isL e1)) r3 (by omega)
    have : (execOp a.eval o).run P w = .ok .skip (w.setRow g ⟨layList ys off (a.eval xx).cells.toList⟩) := by
      simp only [execOp, ho, he', Sem.run_bind, hst, Result.andThen_ok, Sem.run_pure]
    refine wpIn_skip' (fun c' h => by rw [ho] at h; cases h) this ?_
    refine hk β stk _ _ _ _ _ (by rw [put_size]; exact hsz) (hrel.store hb hg p1 hxx p2 r3 r4 o.dst hd undef) hsk ?_
    rw [← h3]; exact hrun
  · rename_i b i off
    obtain ⟨e, k, m', c, hb, hi, g, hg, he'⟩ := hxa
    simp only [hb] at hrun
    obtain ⟨p1, p1', p2, p3, hrun⟩ := hrun
    obtain ⟨w1, hst, hr1⟩ := hrel.storeR (P := P) hb hi hg p1 p1' p2 hxx p3 q1 o.dst hd undef
    have : (execOp a.eval o).run P w = .ok .skip w1 := by
      simp only [execOp, ho, he', Sem.run_bind, hst, Result.andThen_ok, Sem.run_pure]
    refine wpIn_skip' (fun c' h => by rw [ho] at h; cases h) this ?_
    refine hk β stk _ _ _ _ _ (by rw [put_size]; exact hsz) hr1 hsk ?_
    rw [← h3]; exact hrun
theorem mset_step (he : EnvOk P E A0 w0) (hc : cOper P ops.toList nt o = some ao) (hsz : nt ≤ a.tmps.size) (hrel : Rel P A0 w0 β stk as fr bx nx a w) (hsk : skel stk = sk) (hk : GoesR P A0 w0 nt as sk R knext)
    {kd : IntKind} {m k v : Opd} (hop : ao.op = .mset kd m k v)
    (hrun : match ev E fr m, ev E fr k with
        | .mapb b, .int kk z => match bget bx b with
          | some (.mp kd' has f) => kd' = kd ∧ kk = kd ∧ R stk (fput fr ao.dst .und) (bset bx b (.mp kd (fun j => if j = z then true else has j) fun j => if j = z then ev E fr v else f j)) nx
          | _ => False
        | _, _ => False) : o.wpIn (FW ro) 0 P a w knext Q := by
  obtain ⟨h1, h2, h3, h4⟩ := cOper_spec hc
  have hd : ∀ s, o.dst = some s → s < a.tmps.size := fun s hs => Nat.lt_of_lt_of_le (h4 s hs) hsz
  rw [hop] at h1
  obtain ⟨t, kt, et, xm, xx, xv, ho, hT, hK, q1, q2, q3⟩ := mset_inv h1
  have hxm : RepM A0 w0 β (bget bx) w (ev E fr m) (a.eval xm) := ev_rep he hrel.mem (fun t _ => hrel.fr t) m q1
  have hxk : RepM A0 w0 β (bget bx) w (ev E fr k) (a.eval xx) := ev_rep he hrel.mem (fun t _ => hrel.fr t) k q2
  have hxv : RepM A0 w0 β (bget bx) w (ev E fr v) (a.eval xv) := ev_rep he hrel.mem (fun t _ => hrel.fr t) v q3
  split at hrun
  · rename_i b kk z e1 e2
    rw [e1] at hxm
    rw [e2] at hxk
    obtain ⟨⟨kd', has, f, hb⟩, g, hg, he'⟩ := hxm
    simp only [hb] at hrun
    obtain ⟨rfl, rfl, hrun⟩ := hrun
    have hxk : a.eval xx = .int kk z := hxk
    obtain ⟨w1, hst, hr1⟩ := hrel.mapset (P := P) (z := z) hb hg hxv hT hK o.dst hd undef
    have : (execOp a.eval o).run P w = .ok .skip w1 := by
      rcases ho with ho | ho <;> simp only [execOp, ho, he', hxk, Sem.run_bind, hst, Result.andThen_ok, Sem.run_pure]
    refine wpIn_skip' (fun c' h => by rcases ho with ho | ho <;> (rw [ho] at h; cases h)) this ?_
    refine hk β stk _ _ _ _ _ (by rw [put_size]; exact hsz) hr1 hsk ?_
    rw [← h3]; exact hrun
  · exact hrun.elim
theorem app_step (he : EnvOk P E A0 w0) (hc : cOper P ops.toList nt o = some ao) (hsz : nt ≤ a.tmps.size) (hrel : Rel P A0 w0 β stk as fr bx nx a w) (hsk : skel stk = sk) (hk : GoesR P A0 w0 nt as sk R knext)
    {e k bytes : Nat} {x y : Opd} (hop : ao.op = .app e k bytes x y)
    (hrun : match elemsV bx (ev E fr y) with
        | none => False
        | some (k', m, c') => (k' = some k ∨ k' = none) ∧ 0 < k ∧ match ev E fr x with
          | .nils => m ≤ maxLen ∧ m * bytes ≤ 140737488355328 ∧ R stk (fput fr ao.dst (.own nx)) ((nx, .row e k m c') :: bx) (nx + 1)
          | .own b => match bget bx b with
            | some (.row e' k'' n' c) => e' = e ∧ k'' = k ∧ n' + m ≤ maxLen ∧ (n' + m) * bytes ≤ 140737488355328 ∧ R (subStk b .und stk) (fput (subFr b .und fr) ao.dst (.own b)) (bset (subBx b .und bx) b (.row e k (n' + m) fun i j => if i < n' then c i j else c' (i - n') j)) nx
            | _ => False
          | _ => False) : o.wpIn (FW ro) 0 P a w knext Q := by
  obtain ⟨h1, h2, h3, h4⟩ := cOper_spec hc
  have hd : ∀ s, o.dst = some s → s < a.tmps.size := fun s hs => Nat.lt_of_lt_of_le (h4 s hs) hsz
  rw [hop] at h1
  obtain ⟨c, xa, xb, t, z, i, ho, hcal, hargs, hat, hu, hz, hi, hby, q1, q2⟩ := app_inv h1
  have ha : c.args = #[xa, xb] := by rw [← hargs]
  have ha' : c.argTypes = #[t, t] := by rw [← hat]
  have hx1 : RepM A0 w0 β (bget bx) w (ev E fr x) (a.eval xa) := ev_rep he hrel.mem (fun t _ => hrel.fr t) x q1
  have hx2 : RepM A0 w0 β (bget bx) w (ev E fr y) (a.eval xb) := ev_rep he hrel.mem (fun t _ => hrel.fr t) y q2
  obtain ⟨i', v, z1, z2, z3, z4, z5⟩ := zeroT_spec hz
  rw [hi] at z1; cases z1
  have hex : ∀ v' w1, (Builtin.append_ #[t, t] o.type #[a.eval xa, a.eval xb]).run P w = .ok v' w1 → (execOp a.eval o).run P w = .ok (.value v') w1 := by
    intro v' w1 hr
    simp [execOp, ho, resolve, hcal, ha, ha', invoke, builtin, hr]
  cases hel : elemsV bx (ev E fr y) with
  | none => simp only [hel] at hrun
  | some p =>
    obtain ⟨k', m, c'⟩ := p
    simp only [hel] at hrun
    obtain ⟨hk1, hk0, hrun⟩ := hrun
    cases hv : ev E fr x <;> simp only [hv] at hrun hx1 <;> first | exact hrun.elim | skip
    · obtain ⟨p1, p2, hrun⟩ := hrun
      have e1 : a.eval xa = .slice none 0 0 := hx1
      obtain ⟨β1, v', w1, hr, hrel1⟩ := hrel.appNil (P := P) (ty := o.type) hu hi z2 z3 z4 hk0 hel hk1 hx2 (by rw [hby]; exact p2) o.dst hd
      rw [← e1] at hr
      refine wpIn_value (fun c' h => by rw [ho] at h; cases h) (hex v' w1 hr) ?_
      refine hk β1 stk _ _ _ _ w1 (by rw [put_size]; exact hsz) hrel1 hsk ?_
      rw [← h3]; exact hrun
    · rename_i b
      obtain ⟨⟨e', k'', n', c0, hb⟩, hvx⟩ := hx1
      simp only [hb] at hrun
      obtain ⟨rfl, rfl, p1, p2, hrun⟩ := hrun
      obtain ⟨β1, v', w1, hr, hrel1⟩ := hrel.appOwn (P := P) (ty := o.type) hu hi z2 z3 z4 hk0 hb (vx := a.eval xa) ⟨⟨_, _, _, _, hb⟩, hvx⟩ hel hk1 hx2 p1 (by rw [hby]; exact p2) o.dst hd
      refine wpIn_value (fun c' h => by rw [ho] at h; cases h) (hex v' w1 hr) ?_
      refine hk β1 (subStk b .und stk) _ _ _ _ w1 (by rw [put_size]; exact hsz) hrel1 ((skel_sub b .und stk).trans hsk) ?_
      rw [← h3]; exact hrun
/-- one operation -/
theorem op_step (he : EnvOk P E A0 w0) (IH : ∀ m, m ≤ n → Sound P E A0 w0 Qf m) (hc : cOper P ops.toList nt o = some ao) (hsz : nt ≤ a.tmps.size) (hrel : Rel P A0 w0 β stk as fr bx nx a w) (hsk : skel stk = sk) (hk : Goes P E A0 w0 Qf n nt as sk res (.ops 0 l :: K) knext)
    (hrun : run E Qf (n + 1) (.ops 0 (ao :: l) :: K) stk res fr bx nx) : if Region.wanted o (yielded ops a.tmps) then o.wpIn (FW ro) 0 P a w knext Q else (∀ f, o.about P w a.eval = some f → (FW ro).fn f) ∧ knext (a.put o.dst undef) w := by
  obtain ⟨h1, h2, h3, h4⟩ := cOper_spec hc
  have hd : ∀ s, o.dst = some s → s < a.tmps.size := fun s hs => Nat.lt_of_lt_of_le (h4 s hs) hsz
  cases hskip : skipOp fr ao.guard with
  | none => simp only [run, hskip] at hrun
  | some s =>
    rw [wanted_of (A := Al A0 w0 (bget bx) β) (B := bget bx) (β := β) (w := w) h2 (fun t _ _ => hrel.fr t) hskip]
    cases s with
    | true =>
      simp only [run, hskip] at hrun
      simp only [Bool.not_true, Bool.false_eq_true, if_false]
      refine ⟨fun _ _ => trivial, hk n β stk _ _ _ _ w (Nat.le_refl _) (by rw [put_size]; exact hsz) (hrel.void o.dst hd) hsk ?_⟩
      rw [← h3]; exact hrun
    | false =>
      simp only [Bool.not_false, if_true]
      have hkR : GoesR P A0 w0 nt as sk (fun stk fr bx nx => reOk E fr bx ao.re ∧ run E Qf n (.ops 0 l :: K) stk res fr bx nx) knext := fun β stk fr bx nx a w h1 h2 h3 h4 => hk n β stk fr bx nx a w (Nat.le_refl _) h1 h2 h3 h4.2
      have gen : ∀ op, ao.op = op → opOwns E fr op = [] → (match frz (opOwns E fr op) (fr, bx, stk) with
          | none => False
          | some (fr, bx, stk) => match aop E fr bx nx op with
            | ⟨p, v, new⟩ => p ∧ (WfT v → match ao.br with
              | false => run E Qf n (.ops 0 l :: K) stk res (fput fr ao.dst v) (addB nx new bx) (addN nx new)
              | true => match v with
                | .bool t => (t = true → run E Qf n (.ops 0 l :: K) stk res (fput fr ao.dst (.bool true)) (addB nx new bx) (addN nx new)) ∧ (t = false → run E Qf n (.ops 0 l :: K) stk res (fput fr ao.dst (.bool false)) (addB nx new bx) (addN nx new))
                | _ => False)) → o.wpIn (FW ro) 0 P a w knext Q := by
        intro op hop hnil hr
        rw [hnil] at hr
        simp only [frz] at hr
        subst hop
        exact soft_step he hc hsz hrel hsk hk hr
      cases hop : ao.op with
      | store m ad x => simp only [run, hskip, hop] at hrun; exact store_step he hc hsz hrel hsk hkR hop hrun
      | app e k bytes x y => simp only [run, hskip, hop] at hrun; exact app_step he hc hsz hrel hsk hkR hop hrun
      | mset kd m k v => simp only [run, hskip, hop] at hrun; exact mset_step he hc hsz hrel hsk hkR hop hrun
      | call f args => simp only [run, hskip, hop] at hrun; exact call_step he IH hc hsz hrel hsk hk hop hrun
      | bsl e k len z parts =>
        simp only [run, hskip, hop] at hrun
        cases hf : frz (opOwns E fr (.bsl e k len z parts)) (fr, bx, stk) with
        | none => simp only [hf] at hrun
        | some q =>
          obtain ⟨fr', bx', stk'⟩ := q
          simp only [hf] at hrun
          obtain ⟨hrel', hsk'⟩ := hrel.frz _ hf
          refine soft_step (fr := fr') (bx := bx') (stk := stk') (sk := sk) (res := res) (l := l) (K := K) he hc hsz hrel' (hsk'.trans hsk) hk ?_
          rw [hop]
          exact hrun
      | _ => simp only [run, hskip, hop] at hrun; exact gen _ hop rfl hrun
end
end Go.Proofs.YtbhhcnonooiokaaDoor
