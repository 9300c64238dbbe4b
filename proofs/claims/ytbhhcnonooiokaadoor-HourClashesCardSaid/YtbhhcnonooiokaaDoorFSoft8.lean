/- The engine, part 13: every operation that stores nothing. No condition. -/
import Derived.Test.YtbhhcnonooiokaaDoorFSoft7
namespace Go.Proofs.YtbhhcnonooiokaaDoor
open Go Go.RowKit
variable {P : Program} {E : Env} {A0 : Nat → Prop} {w0 : World} {β : Nat → Loc} {B : Bmap} {nx : Nat} {w : World} {a : Act} {o : Oper} {fr : Fr} {bx : Bx}

theorem Does.wp {ro : Option Nat} (hnd : ∀ c, o.op ≠ .defer c) {r : AR} {next : Act → World → Prop} {Q : Exit → Act → World → Prop} (h : Does P A0 w0 β B nx w a o r) (hn : ∀ x w1 β1, Soft P A0 w0 β β1 B nx r.new w w1 → RepM A0 w0 β1 (extB B nx r.new) w1 r.v x → next (a.put o.dst x) w1) : o.wpIn (FW ro) 0 P a w next Q := by
  obtain ⟨x, w1, β1, hr, hs, hv⟩ := h
  exact wpIn_value hnd hr (hn x w1 β1 hs hv)
theorem zero1_run {t : TypeId} {z : Val} (h : zero1 P t = some z) (w : World) (A : Nat → Prop) : ∃ v, (zeroValue t).run P w = .ok v w ∧ RepP w A z v := by
  unfold zero1 at h
  split at h
  · rename_i i hi
    obtain ⟨v, hv, hc⟩ := Option.bind_eq_some_iff.1 h
    exact ⟨v, by simp [zeroValue, typeInfo, hi, hv], cv_rep hc w A⟩
  · cases h
theorem does_mget {t k e : TypeId} {kd : IntKind} {ok : Bool} {z : Val} {m x : Operand} {om ox : Opd} {N : Nat} (hm : Mem P A0 w0 β B N w) (hbx : ∀ b c, B b = some c → bget bx b = some c) (ho : o.op = .lookup t m x ok) (ht : P.underlying t = some (.map k e)) (hk : P.underlying k = some (.int kd)) (hz : zero1 P e = some z)
    (hmr : RepM A0 w0 β B w (ev E fr om) (a.eval m)) (hxr : RepM A0 w0 β B w (ev E fr ox) (a.eval x)) (hp : (aop E fr bx nx (.mget kd ok z om ox)).pre) : Does P A0 w0 β B nx w a o (aop E fr bx nx (.mget kd ok z om ox)) := by
  obtain ⟨zv, hzr, hzv⟩ := zero1_run hz w (Al A0 w0 B β)
  have core : ∀ (g : Nat) (h : Int → Option Value) (has : Int → Bool) (f : Int → Val) (n : Int), a.eval m = .map (some g) → MapF w g kd h → (∀ k, (has k = false → h k = none) ∧ (has k = true → ∃ y, h k = some y ∧ RepM A0 w0 β B w (f k) y)) → a.eval x = .int kd n →
      Does P A0 w0 β B nx w a o ⟨kd = kd ∧ kd = kd, mgetV ok (has n) (f n) z, none⟩ := by
    intro g h has f n hme hmf hc hxe
    have hrun := run_lookup_mapF hmf ht hk zv hzr n ok
    have hv : RepM A0 w0 β B w (pickV (has n) (f n) z) ((h n).getD zv) ∧ (h n).isSome = has n := by
      cases hh : has n with
      | false => rw [(hc n).1 hh]; exact ⟨RepP.rep _ _ hzv, rfl⟩
      | true => obtain ⟨y, hy, hr⟩ := (hc n).2 hh; rw [hy]; exact ⟨hr, rfl⟩
    refine Does.plain rfl (x := if ok then .tuple #[(h n).getD zv, .bool (h n).isSome] else (h n).getD zv) ?_ ?_
    · simp [execOp, ho, hme, hxe, hrun, Result.andThen]
    · cases ok with
      | false => exact hv.1
      | true => exact ⟨_, rfl, _, _, rfl, hv.1, _, [], rfl, by rw [hv.2]; rfl, rfl⟩
  simp only [aop] at hp ⊢
  split at hp
  · rename_i kd' has f kk n h1 h2
    obtain ⟨rfl, rfl⟩ := hp
    rw [h1] at hmr
    rw [h2] at hxr
    obtain ⟨g, h, e1, _, _, hmf, hc⟩ := hmr
    exact core g h has f n e1 hmf (fun k => ⟨(hc k).1, fun hk => by obtain ⟨y, hy, hr⟩ := (hc k).2 hk; exact ⟨y, hy, RepP.rep _ _ hr⟩⟩) hxr
  · rename_i b kk n h1 h2
    rw [h1] at hmr
    rw [h2] at hxr
    obtain ⟨⟨kd', has, f, hB⟩, g, hg, e1⟩ := hmr
    simp only [hbx b _ hB] at hp ⊢
    obtain ⟨rfl, rfl⟩ := hp
    obtain ⟨g', h, h3, hmf, hc⟩ := hm.bx b _ hB
    rw [hg] at h3; cases h3
    exact core g h has f n e1 hmf hc hxr
  · exact hp.elim
set_option maxHeartbeats 1000000 in
theorem soft_wp {ro : Option Nat} {ao : AOp} {next : Act → World → Prop} {Q : Exit → Act → World → Prop} (hc : cOp P o.op = some ao) {N : Nat} (hm : Mem P A0 w0 β B N w) (hB : B nx = none) (hbx : ∀ b c, B b = some c → bget bx b = some c)
    (hG : ∀ n m c, E.G n = some (m, c) → RepP w0 A0 (.vptr m c) (.pointer (some ⟨n, 0, none⟩))) (hS : ∀ id s, E.S id = some s → PureOk P E.G id s)
    (hx : ∀ x ∈ o.op.operands.toList, OpR E A0 w0 β B w fr a x) (hp : (aop E fr bx nx ao).pre)
    (hn : ∀ x w1 β1, Soft P A0 w0 β β1 B nx (aop E fr bx nx ao).new w w1 → RepM A0 w0 β1 (extB B nx (aop E fr bx nx ao).new) w1 (aop E fr bx nx ao).v x → next (a.put o.dst x) w1) : o.wpIn (FW ro) 0 P a w next Q := by
  cases ho : o.op <;> simp only [ho, cOp] at hc <;> simp only [ho, Op.operands] at hx <;> first | (cases hc; done) | skip
  case move x =>
    obtain ⟨ox, h1, rfl⟩ := Option.map_eq_some_iff.1 hc
    exact Does.wp (fun c' h => by rw [ho] at h; cases h) (does_mv (.inl ho) (hx x (by simp) ox h1)) hn
  case assign x =>
    obtain ⟨ox, h1, rfl⟩ := Option.map_eq_some_iff.1 hc
    exact Does.wp (fun c' h => by rw [ho] at h; cases h) (does_mv (.inr ho) (hx x (by simp) ox h1)) hn
  case pick c x y =>
    split at hc <;> simp at hc
    rename_i oc ox oy h1 h2 h3
    subst hc
    exact Does.wp (fun c' h => by rw [ho] at h; cases h) (does_pick ho (hx c (by simp) _ h1) (hx x (by simp) _ h2) (hx y (by simp) _ h3) hp) hn
  case alloc t =>
    obtain ⟨p, h1, rfl⟩ := Option.map_eq_some_iff.1 hc
    exact Does.wp (fun c' h => by rw [ho] at h; cases h) (does_alloc hm hB ho h1) hn
  case box t x =>
    split at hc <;> simp at hc
    rename_i n ox h1 h2
    subst hc
    exact Does.wp (fun c' h => by rw [ho] at h; cases h) (does_box hm hB ho (hx x (by simp) _ h2) hp) hn
  case build t parts =>
    have hx' : ∀ p ∈ parts.toList, OpR E A0 w0 β B w fr a p.2 := fun p hp => hx p.2 (by simp; exact ⟨p.1, by simpa using hp⟩)
    split at hc
    · rename_i fs z h1 h2
      split at hc
      · rename_i hall
        obtain ⟨r, h3, rfl⟩ := Option.map_eq_some_iff.1 hc
        exact Does.wp (fun c' h => by rw [ho] at h; cases h) (does_build_struct ho h1 h2 hall h3 hx' hp) hn
      · cases hc
    · rename_i e z h1 h2
      split at hc
      · rename_i k hk
        obtain ⟨r, h3, rfl⟩ := Option.map_eq_some_iff.1 hc
        exact Does.wp (fun c' h => by rw [ho] at h; cases h) (does_build_array ho h1 hk h2 h3 hx' hp) hn
      · cases hc
    · cases hc
  case buildSlice t len parts =>
    have hx' : ∀ p ∈ parts.toList, OpR E A0 w0 β B w fr a p.2 := fun p hp => hx p.2 (by simp; exact ⟨p.1, by simpa using hp⟩)
    split at hc
    · rename_i e h1
      split at hc
      · rename_i k z l h2 h3
        split at hc
        · rename_i hlen
          simp at hc; subst hc
          exact Does.wp (fun c' h => by rw [ho] at h; cases h) (does_bsl hm hB ho h1 h2 hlen h3 hx' hp) hn
        · cases hc
      · cases hc
    · cases hc
  case load t x =>
    split at hc <;> simp at hc
    rename_i ag s ox h1 h2
    subst hc
    exact Does.wp (fun c' h => by rw [ho] at h; cases h) (does_load hm hbx ho h1 (hx x (by simp) _ h2) hp) hn
  case store t x y =>
    split at hc <;> simp at hc
    subst hc
    exact hp.elim
  case binOp op t x y u =>
    split at hc
    · rename_i ox oy h1 h2
      split at hc
      · split at hc
        · simp at hc; subst hc
          exact Does.wp (fun c' h => by rw [ho] at h; cases h) (does_bin ho (hx x (by simp) _ h1) (hx y (by simp) _ h2) hp) hn
        · rename_i hu
          split at hc <;> simp at hc
          · subst hc
            exact Does.wp (fun c' h => by rw [ho] at h; cases h) (does_binb ho hu rfl (hx x (by simp) _ h1) (hx y (by simp) _ h2) hp) hn
          · subst hc
            exact Does.wp (fun c' h => by rw [ho] at h; cases h) (does_binb ho hu rfl (hx x (by simp) _ h1) (hx y (by simp) _ h2) hp) hn
        · cases hc
      · rename_i hag
        split at hc
        · rename_i ag s hs
          have hag' : ag = true := by have := (shT_spec hs).1; rw [hag] at this; simpa using this.symm
          subst hag'
          split at hc
          · rename_i hcond
            split at hc <;> simp at hc
            · subst hc
              exact Does.wp (fun c' h => by rw [ho] at h; cases h) (does_eqa ho hag hs hcond.2.1 hcond.2.2 rfl (hx x (by simp) _ h1) (hx y (by simp) _ h2) hp) hn
            · subst hc
              exact Does.wp (fun c' h => by rw [ho] at h; cases h) (does_eqa ho hag hs hcond.2.1 hcond.2.2 rfl (hx x (by simp) _ h1) (hx y (by simp) _ h2) hp) hn
          · cases hc
        · cases hc
      · cases hc
    · cases hc
  case unOp op t x =>
    obtain ⟨ox, h1, rfl⟩ := Option.map_eq_some_iff.1 hc
    exact Does.wp (fun c' h => by rw [ho] at h; cases h) (does_un ho (hx x (by simp) ox h1) hp) hn
  case convert s d x =>
    split at hc
    · rename_i k0 k hs hd
      obtain ⟨ox, h1, rfl⟩ := Option.map_eq_some_iff.1 hc
      exact Does.wp (fun c' h => by rw [ho] at h; cases h) (does_conv ho hs hd (hx x (by simp) ox h1) hp) hn
    · cases hc
  case makeFunc fn first caps =>
    split at hc
    · rename_i hf
      obtain ⟨l, h1, rfl⟩ := Option.map_eq_some_iff.1 hc
      exact Does.wp (fun c' h => by rw [ho] at h; cases h) (does_mkf ho hf h1 (fun x h => hx x (by simp; exact .inr (by simpa using h)))) hn
    · cases hc
  case slice t x lo hi mx =>
    cases mx with
    | some _ => simp [] at hc
    | none =>
      simp only [] at hc
      split at hc
      · rename_i e ox ol oh h1 h2 h3 h4
        obtain ⟨k, hk, rfl⟩ := Option.map_eq_some_iff.1 hc
        exact Does.wp (fun c' h => by rw [ho] at h; cases h) (does_sl ho h1 hk h3 h4 (hx x (by simp) _ h2) (fun y hy => hx y (by simp [hy])) (fun y hy => hx y (by simp [hy])) hp) hn
      · cases hc
  case fieldAddr t x f =>
    split at hc
    · rename_i fs ox h1 h2
      split at hc
      · rename_i fl hf
        split at hc <;> simp at hc
        rename_i n hn'
        subst hc
        exact Does.wp (fun c' h => by rw [ho] at h; cases h) (does_fld ho h1 hf hn' (hx x (by simp) _ h2) hp) hn
      · cases hc
    · cases hc
  case indexAddr t x i =>
    split at hc
    · rename_i e ox oi h1 h2 h3
      obtain ⟨k, hk, rfl⟩ := Option.map_eq_some_iff.1 hc
      exact Does.wp (fun c' h => by rw [ho] at h; cases h) (does_idx hm hbx ho h1 hk (hx x (by simp) _ h2) (hx i (by simp) _ h3) hp) hn
    · rename_i n e ox oi h1 h2 h3
      obtain ⟨k, hk, rfl⟩ := Option.map_eq_some_iff.1 hc
      exact Does.wp (fun c' h => by rw [ho] at h; cases h) (does_idxA ho h1 hk (hx x (by simp) _ h2) (hx i (by simp) _ h3) hp) hn
    · cases hc
  case extract x i =>
    obtain ⟨ox, h1, rfl⟩ := Option.map_eq_some_iff.1 hc
    exact Does.wp (fun c' h => by rw [ho] at h; cases h) (does_ext ho (hx x (by simp) ox h1) hp) hn
  case nilCheck x =>
    obtain ⟨ox, h1, rfl⟩ := Option.map_eq_some_iff.1 hc
    exact Does.wp (fun c' h => by rw [ho] at h; cases h) (does_nilc ho (hx x (by simp) ox h1) hp) hn
  case makeMap t x =>
    cases x with
    | some _ => simp [] at hc
    | none =>
      simp only [] at hc
      split at hc
      · split at hc <;> simp at hc
        subst hc
        exact Does.wp (fun c' h => by rw [ho] at h; cases h) (does_mkm (t := t) (k := t) (e := t) hB ho) hn
      · cases hc
  case lookup t m x ok =>
    split at hc
    · rename_i k e hu
      split at hc <;> simp at hc
      rename_i kd z om ox h1 h2 h3 h4
      subst hc
      exact Does.wp (fun c' h => by rw [ho] at h; cases h) (does_mget hm hbx ho hu h1 h2 (hx m (by simp) _ h3) (hx x (by simp) _ h4) hp) hn
    · cases hc
  case insert t m x v =>
    split at hc
    · split at hc <;> simp at hc
      subst hc
      exact hp.elim
    · cases hc
  case mapUpdate t m x v =>
    split at hc
    · split at hc <;> simp at hc
      subst hc
      exact hp.elim
    · cases hc
  case makeSlice t x y =>
    split at hc
    · rename_i e h1
      split at hc <;> simp at hc
      rename_i k z i ox oy h2 h3 h4 h5
      subst hc
      exact Does.wp (fun c' h => by rw [ho] at h; cases h) (does_mks hm hB ho h1 h2 h3 rfl (hx x (by simp) _ h4) (hx y (by simp) _ h5) hp) hn
    · cases hc
  case call c =>
    have hxa : ∀ x ∈ c.args.toList, OpR E A0 w0 β B w fr a x := fun x h => hx x (by simp [Call.operands]; exact .inr (by simpa using h))
    split at hc
    · rename_i f hcal
      split at hc <;> simp at hc
      rename_i of args h1 h2
      subst hc
      have hnew : (aop E fr bx nx (.call of args)).new = none := by
        refine (wp_call_spec (ro := none) (a := a) (o := o) (Q := Q) (next := fun _ _ => True) hm hbx hG hS ho hcal h1 h2 (hx f (by simp [Call.operands, hcal]) _ h1) hxa hp (fun _ _ _ _ => trivial)).2
      exact (wp_call_spec hm hbx hG hS ho hcal h1 h2 (hx f (by simp [Call.operands, hcal]) _ h1) hxa hp (fun x w1 hs hr => hn x w1 β (by rw [hnew]; exact hs) (by rw [hnew]; exact hr))).1
    · rename_i hcal
      split at hc
      · rename_i x t h1 h2
        split at hc
        · rename_i e hu
          obtain ⟨ox, h3, rfl⟩ := Option.map_eq_some_iff.1 hc
          exact Does.wp (fun c' h => by rw [ho] at h; cases h) (does_len hm hbx ho hcal h1 h2 hu (hxa x (by rw [h1]; simp) _ h3) hp) hn
        · cases hc
      · cases hc
    · rename_i hcal
      split at hc
      · rename_i x y h1
        split at hc <;> simp at hc
        rename_i ox oy h2 h3
        subst hc
        exact Does.wp (fun c' h => by rw [ho] at h; cases h) (does_mm (mx := true) ho (by simpa using hcal) h1 (hxa x (by rw [h1]; simp) _ h2) (hxa y (by rw [h1]; simp) _ h3) hp) hn
      · cases hc
    · rename_i hcal
      split at hc
      · rename_i x y h1
        split at hc <;> simp at hc
        rename_i ox oy h2 h3
        subst hc
        exact Does.wp (fun c' h => by rw [ho] at h; cases h) (does_mm (mx := false) ho (by simpa using hcal) h1 (hxa x (by rw [h1]; simp) _ h2) (hxa y (by rw [h1]; simp) _ h3) hp) hn
      · cases hc
    · split at hc
      · split at hc
        · split at hc
          · split at hc <;> simp at hc
            subst hc
            exact hp.elim
          · cases hc
        · cases hc
      · cases hc
    · cases hc
end Go.Proofs.YtbhhcnonooiokaaDoor
