/- The engine, part 20d: a region whose order is drawn. No condition. -/
import Derived.Test.YtbhhcnonooiokaaDoorFDrawn3
namespace Go.Proofs.YtbhhcnonooiokaaDoor
open Go Go.RowKit
variable {P : Program} {E : Env} {A0 : Nat → Prop} {w0 : World} {Qf : Val → Bx → Prop}

/-- registers, boxes, but for some -/
def Msk (D : Nat → Prop) (fr fr' : Fr) : Prop := ∀ t, (D t → fget fr' t = .und) ∧ (¬ D t → fget fr' t = fget fr t)
def MskB (N : Nat → Prop) (bx bx' : Bx) : Prop := ∀ b, (N b → bget bx' b = none) ∧ (¬ N b → bget bx' b = bget bx b)
theorem Msk.put {D : Nat → Prop} {fr fr' : Fr} (h : Msk D fr fr') (d : Option Nat) (hd : ∀ t, d = some t → ¬ D t) (v : Val) : Msk D (fput fr d v) (fput fr' d v) := by
  intro t
  refine ⟨fun ht => ?_, fun ht => ?_⟩
  · rw [fget_fput, if_neg (fun e => hd t e ht)]; exact (h t).1 ht
  · rw [fget_fput, fget_fput, (h t).2 ht]
theorem Msk.sub {D : Nat → Prop} {fr fr' : Fr} (h : Msk D fr fr') (b : Nat) : Msk D (subFr b .und fr) (subFr b .und fr') := by
  intro t
  rw [fget_sub', fget_sub']
  exact ⟨fun ht => by rw [(h t).1 ht]; rfl, fun ht => by rw [(h t).2 ht]⟩
theorem MskB.set {N : Nat → Prop} {bx bx' : Bx} (h : MskB N bx bx') {b : Nat} (hb : ¬ N b) (c : Box) : MskB N (bset bx b c) (bset bx' b c) := by
  intro y
  rw [bget_bset, bget_bset]
  refine ⟨fun hy => ?_, fun hy => ?_⟩
  · rw [if_neg (fun e : y = b => hb (e ▸ hy))]; exact (h y).1 hy
  · rw [(h y).2 hy]
theorem MskB.sub {N : Nat → Prop} {bx bx' : Bx} (h : MskB N bx bx') (b : Nat) : MskB N (subBx b .und bx) (subBx b .und bx') := by
  intro y
  rw [bget_subBx, bget_subBx]
  exact ⟨fun hy => by rw [(h y).1 hy]; rfl, fun hy => by rw [(h y).2 hy]⟩
theorem MskB.ofSome {N : Nat → Prop} {bx bx' : Bx} (h : MskB N bx bx') {b : Nat} {c : Box} (hb : bget bx' b = some c) : ¬ N b ∧ bget bx b = some c := by
  have hn : ¬ N b := fun hn => by rw [(h b).1 hn] at hb; cases hb
  exact ⟨hn, by rw [← (h b).2 hn]; exact hb⟩
theorem elems_msk {β : Nat → Loc} {w : World} {N : Nat → Prop} {bx mb : Bx} {v : Val} {x : Value} {r : Option Nat × Nat × (Nat → Nat → Val)} (h : MskB N bx mb) (hr : RepM A0 w0 β (bget mb) w v x) (he : elemsV bx v = some r) : elemsV mb v = some r := by
  cases v <;> simp only [elemsV] at he ⊢ <;> first | exact he | skip
  rename_i b
  obtain ⟨⟨e, k, n, c, hb⟩, _⟩ := hr
  rw [(h.ofSome hb).2] at he
  rw [hb]; exact he
section
variable {n : Nat} {ro : Option Nat} {ops : Array Oper} {nt : Nat} {o : Oper} {ao ao0 : AOper} {stk stk1 : List SFrame} {fr fr1 mf : Fr} {bx bx1 mb : Bx} {nx nx1 : Nat} {Q : Exit → Act → World → Prop} {knext : Act → World → Prop} {a : Act} {w : World} {β : Nat → Loc} {as : List Act}
  {sk : List (Option Nat × List Item × List ARes × Nat)} {D N : Nat → Prop}
theorem cOpd_look {q : Operand} {x : Opd} (h : cOpd q = some x) : ∀ t ∈ rdO x, q = .tmp t := by
  cases q <;> simp [cOpd] at h
  · subst h; intro t ht; simp [rdO] at ht; rw [ht]
  · obtain ⟨u, _, rfl⟩ := h; intro t ht; simp [rdO] at ht
  · subst h; intro t ht; simp [rdO] at ht
  · subst h; intro t ht; simp [rdO] at ht
/-- what an effect does to registers and boxes -/
def EffAct (ao : AOper) (mb : Bx) (N : Nat → Prop) (fr : Fr) (bx : Bx) (fr1 : Fr) (bx1 : Bx) : Prop :=
  (∀ t, ao.dst ≠ some t → fget fr1 t = fget fr t ∨ ∃ b, (∃ c, bget mb b = some c) ∧ fget fr1 t = subV b .und (fget fr t)) ∧
  ∀ nm, N nm → bget bx1 nm = bget bx nm ∨ ∃ b, bget bx1 nm = (bget bx nm).map (subBox b .und)
theorem eff_wp (he : EnvOk P E A0 w0) (hc : cOper P ops.toList nt o = some ao0) (hop0 : ao.op = ao0.op) (hd0 : ao.dst = ao0.dst) (hsz : nt ≤ a.tmps.size) (hrel : Rel P A0 w0 β stk as mf mb nx a w) (hsk : skel stk = sk) (hM : Msk D fr mf) (hMB : MskB N bx mb) (hlook : ∀ t ∈ looks o, ¬ D t) (hdst : ∀ t, o.dst = some t → ¬ D t) (hN : ¬ N nx)
    (hst : StepA E ao fr bx nx stk fr1 bx1 nx1 stk1) (hskip : skipOp fr ao.guard = some false) (heff : softA ao.op = false)
    (hnext : ∀ β1 a1 w1 mf1 mb1, nt ≤ a1.tmps.size → Rel P A0 w0 β1 stk1 as mf1 mb1 nx1 a1 w1 → Msk D fr1 mf1 → MskB N bx1 mb1 → EffAct ao mb N fr bx fr1 bx1 → reOk E fr1 bx1 ao.re → skel stk1 = sk → knext a1 w1) : o.wpIn (FW ro) 0 P a w knext Q := by
  obtain ⟨h1, h2, h3, h4⟩ := cOper_spec hc
  have hdd : ∀ t, ao.dst = some t → ¬ D t := fun t ht => hdst t (by rw [← h3, ← hd0]; exact ht)
  have hev : ∀ {q : Operand} {x : Opd}, cOpd q = some x → q ∈ o.op.operands.toList → ev E mf x = ev E fr x := by
    intro q x hq hin
    refine ev_congr fun t ht => (hM t).2 (hlook t ?_)
    have := cOpd_look hq t ht
    subst this
    simp only [looks, List.mem_filterMap]
    exact ⟨.tmp t, hin, rfl⟩
  have hrep : ∀ {q : Operand} {x : Opd}, cOpd q = some x → q ∈ o.op.operands.toList → RepM A0 w0 β (bget mb) w (ev E fr x) (a.eval q) := by
    intro q x hq hin
    rw [← hev hq hin]
    exact ev_rep he hrel.mem (fun t _ => hrel.fr t) x hq
  cases hst with
  | skip h => rw [hskip] at h; cases h
  | soft _ h _ => rw [heff] at h; cases h
  | @store m ad x b off c _ hop hv hb q1 q2 q3 q4 =>
    rw [hop0] at hop
    rw [hop] at h1
    obtain ⟨t, xa, xx, ho, p1, p2, p3⟩ := store_inv h1
    have i1 : xa ∈ o.op.operands.toList := by rw [ho]; simp [Op.operands]
    have i2 : xx ∈ o.op.operands.toList := by rw [ho]; simp [Op.operands]
    have hr := hrep p2 i1
    rw [hv] at hr
    obtain ⟨⟨l, hl⟩, _⟩ := hr
    obtain ⟨hnb, hl'⟩ := hMB.ofSome hl
    rw [hb] at hl'; cases hl'
    have hk : GoesR P A0 w0 nt as sk (fun stk' fr' bx' nx' => stk' = stk ∧ nx' = nx ∧ Msk D (fput fr ao0.dst .und) fr' ∧ MskB N (bset bx b (.cells (vsets c off (cellsOf (ev E fr x))))) bx') knext := by
      rintro β1 stk' fr' bx' nx' a1 w1 hsz1 hr1 hsk1 ⟨rfl, rfl, m1, m2⟩
      rw [hd0] at hnext q4
      refine hnext β1 a1 w1 fr' bx' hsz1 hr1 m1 m2 ⟨fun t ht => .inl (by rw [fget_fput, if_neg (by rw [← hd0]; exact ht)]), fun nm hnm => .inl (by rw [bget_bset, if_neg (fun e : nm = b => hnb (e ▸ hnm))])⟩ q4 hsk1
    refine store_step he hc hsz hrel hsk hk hop ?_
    rw [hev p2 i1, hev p3 i2, hv]
    simp only [hl]
    exact ⟨q1, q2, q3, (by first | rfl | trivial), (by first | rfl | trivial), hM.put _ (by rw [← hd0]; exact hdd) _, hMB.set hnb _⟩
  | @storeR m ad x b i off e k m' c _ hop hv hb q1 q2 q3 q4 q5 =>
    rw [hop0] at hop
    rw [hop] at h1
    obtain ⟨t, xa, xx, ho, p1, p2, p3⟩ := store_inv h1
    have i1 : xa ∈ o.op.operands.toList := by rw [ho]; simp [Op.operands]
    have i2 : xx ∈ o.op.operands.toList := by rw [ho]; simp [Op.operands]
    have hr := hrep p2 i1
    rw [hv] at hr
    obtain ⟨e', k', n', c', hl, _⟩ := hr
    obtain ⟨hnb, hl'⟩ := hMB.ofSome hl
    rw [hb] at hl'; cases hl'
    have hk : GoesR P A0 w0 nt as sk (fun stk' fr' bx' nx' => stk' = stk ∧ nx' = nx ∧ Msk D (fput fr ao0.dst .und) fr' ∧ MskB N (bset bx b (.row e k m' fun i' j' => if i' = i ∧ off ≤ j' ∧ j' < off + m then vget (cellsOf (ev E fr x)) (j' - off) else c i' j')) bx') knext := by
      rintro β1 stk' fr' bx' nx' a1 w1 hsz1 hr1 hsk1 ⟨rfl, rfl, m1, m2⟩
      rw [hd0] at hnext q5
      refine hnext β1 a1 w1 fr' bx' hsz1 hr1 m1 m2 ⟨fun t ht => .inl (by rw [fget_fput, if_neg (by rw [← hd0]; exact ht)]), fun nm hnm => .inl (by rw [bget_bset, if_neg (fun e : nm = b => hnb (e ▸ hnm))])⟩ q5 hsk1
    refine store_step he hc hsz hrel hsk hk hop ?_
    rw [hev p2 i1, hev p3 i2, hv]
    simp only [hl]
    exact ⟨q1, q2, q3, q4, (by first | rfl | trivial), (by first | rfl | trivial), hM.put _ (by rw [← hd0]; exact hdd) _, hMB.set hnb _⟩
  | @appN e k bytes x y k' m c' _ hop hel q1 q2 hv q3 q4 q5 =>
    rw [hop0] at hop
    rw [hop] at h1
    obtain ⟨cl, xa, xb, t, z, i, ho, hcal, hargs, hat, hu, hz, hi, hby, p1, p2⟩ := app_inv h1
    have i1 : xa ∈ o.op.operands.toList := by rw [ho]; simp [Op.operands, Call.operands, hcal]; rw [← Array.mem_toList_iff, hargs]; simp
    have i2 : xb ∈ o.op.operands.toList := by rw [ho]; simp [Op.operands, Call.operands, hcal]; rw [← Array.mem_toList_iff, hargs]; simp
    have hel' : elemsV mb (ev E fr y) = some (k', m, c') := elems_msk hMB (hrep p2 i2) hel
    have hk : GoesR P A0 w0 nt as sk (fun stk' fr' bx' nx' => stk' = stk ∧ nx' = nx + 1 ∧ Msk D (fput fr ao0.dst (.own nx)) fr' ∧ MskB N ((nx, .row e k m c') :: bx) bx') knext := by
      rintro β1 stk' fr' bx' nx' a1 w1 hsz1 hr1 hsk1 ⟨rfl, rfl, m1, m2⟩
      rw [hd0] at hnext q5
      refine hnext β1 a1 w1 fr' bx' hsz1 hr1 m1 m2 ⟨fun t ht => .inl (by rw [fget_fput, if_neg (by rw [← hd0]; exact ht)]), fun nm hnm => .inl (by simp only [bget]; rw [if_neg (fun e : nx = nm => hN (e ▸ hnm))])⟩ q5 hsk1
    refine app_step he hc hsz hrel hsk hk hop ?_
    rw [hev p1 i1, hev p2 i2, hel', hv]
    refine ⟨q1, q2, q3, q4, rfl, rfl, hM.put _ (by rw [← hd0]; exact hdd) _, fun b => ⟨fun hb => ?_, fun hb => ?_⟩⟩
    · simp only [bget]; rw [if_neg (fun e : nx = b => hN (e ▸ hb))]; exact (hMB b).1 hb
    · simp only [bget]; rw [(hMB b).2 hb]
  | @appO e k bytes x y k' m c' b n' c _ hop hel q1 q2 hv hb q3 q4 q5 =>
    rw [hop0] at hop
    rw [hop] at h1
    obtain ⟨cl, xa, xb, t, z, i, ho, hcal, hargs, hat, hu, hz, hi, hby, p1, p2⟩ := app_inv h1
    have i1 : xa ∈ o.op.operands.toList := by rw [ho]; simp [Op.operands, Call.operands, hcal]; rw [← Array.mem_toList_iff, hargs]; simp
    have i2 : xb ∈ o.op.operands.toList := by rw [ho]; simp [Op.operands, Call.operands, hcal]; rw [← Array.mem_toList_iff, hargs]; simp
    have hel' : elemsV mb (ev E fr y) = some (k', m, c') := elems_msk hMB (hrep p2 i2) hel
    have hr := hrep p1 i1
    rw [hv] at hr
    obtain ⟨⟨e1, k1, n1, c1, hl⟩, _⟩ := hr
    obtain ⟨hnb, hl'⟩ := hMB.ofSome hl
    rw [hb] at hl'; cases hl'
    have hk : GoesR P A0 w0 nt as sk (fun stk' fr' bx' nx' => stk' = subStk b .und stk ∧ nx' = nx ∧ Msk D (fput (subFr b .und fr) ao0.dst (.own b)) fr' ∧ MskB N (bset (subBx b .und bx) b (.row e k (n' + m) fun i j => if i < n' then c i j else c' (i - n') j)) bx') knext := by
      rintro β1 stk' fr' bx' nx' a1 w1 hsz1 hr1 hsk1 ⟨rfl, rfl, m1, m2⟩
      rw [hd0] at hnext q5
      refine hnext β1 a1 w1 fr' bx' hsz1 hr1 m1 m2 ⟨fun t ht => .inr ⟨b, ⟨_, hl⟩, by rw [fget_fput, if_neg (by rw [← hd0]; exact ht), fget_sub']⟩, fun nm hnm => .inr ⟨b, by rw [bget_bset, if_neg (fun e : nm = b => hnb (e ▸ hnm)), bget_subBx]⟩⟩ q5 hsk1
    refine app_step he hc hsz hrel hsk hk hop ?_
    rw [hev p1 i1, hev p2 i2, hel', hv]
    simp only [hl]
    exact ⟨q1, q2, (by first | rfl | trivial), (by first | rfl | trivial), q3, q4, (by first | rfl | trivial), (by first | rfl | trivial), (hM.sub b).put _ (by rw [← hd0]; exact hdd) _, (hMB.sub b).set hnb _⟩
  | @mset kd m k v b z has f _ hop hv hkk hb q5 =>
    rw [hop0] at hop
    rw [hop] at h1
    obtain ⟨t, kt, et, xm, xx, xv, ho, hT, hK, p1, p2, p3⟩ := mset_inv h1
    have i1 : xm ∈ o.op.operands.toList := by rcases ho with ho | ho <;> (rw [ho]; simp [Op.operands])
    have i2 : xx ∈ o.op.operands.toList := by rcases ho with ho | ho <;> (rw [ho]; simp [Op.operands])
    have i3 : xv ∈ o.op.operands.toList := by rcases ho with ho | ho <;> (rw [ho]; simp [Op.operands])
    have hr := hrep p1 i1
    rw [hv] at hr
    obtain ⟨⟨kd1, has1, f1, hl⟩, _⟩ := hr
    obtain ⟨hnb, hl'⟩ := hMB.ofSome hl
    rw [hb] at hl'; cases hl'
    have hk : GoesR P A0 w0 nt as sk (fun stk' fr' bx' nx' => stk' = stk ∧ nx' = nx ∧ Msk D (fput fr ao0.dst .und) fr' ∧ MskB N (bset bx b (.mp kd (fun j => if j = z then true else has j) fun j => if j = z then ev E fr v else f j)) bx') knext := by
      rintro β1 stk' fr' bx' nx' a1 w1 hsz1 hr1 hsk1 ⟨rfl, rfl, m1, m2⟩
      rw [hd0] at hnext q5
      refine hnext β1 a1 w1 fr' bx' hsz1 hr1 m1 m2 ⟨fun t ht => .inl (by rw [fget_fput, if_neg (by rw [← hd0]; exact ht)]), fun nm hnm => .inl (by rw [bget_bset, if_neg (fun e : nm = b => hnb (e ▸ hnm))])⟩ q5 hsk1
    refine mset_step he hc hsz hrel hsk hk hop ?_
    rw [hev p1 i1, hev p2 i2, hev p3 i3, hv, hkk]
    simp only [hl]
    exact ⟨(by first | rfl | trivial), (by first | rfl | trivial), (by first | rfl | trivial), (by first | rfl | trivial), hM.put _ (by rw [← hd0]; exact hdd) _, hMB.set hnb _⟩
end
end Go.Proofs.YtbhhcnonooiokaaDoor
