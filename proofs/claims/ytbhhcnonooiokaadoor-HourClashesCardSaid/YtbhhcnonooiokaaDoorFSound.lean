/- The engine, part 17: a run is what the model's code does. No condition. -/
import Derived.Test.YtbhhcnonooiokaaDoorFRel3
import Derived.Scope
namespace Go.Proofs.YtbhhcnonooiokaaDoor
open Go Go.RowKit
variable {P : Program} {E : Env} {A0 : Nat → Prop} {w0 : World} {Qf : Val → Bx → Prop}

theorem wp_loop_fam {ro : Option Nat} {c : Code} {Q : Exit → Act → World → Prop} (J : Nat → Act → World → Prop) {m : Nat} {a : Act} {w : World} (h0 : J m a w)
    (round : ∀ m a w, J m a w → c.wpIn (FW ro) 0 P (Exit.then (fun a' w' => ∃ m', m' < m ∧ J m' a' w') Q) a w) : (Code.loop c).wpIn (FW ro) 0 P Q a w := by
  classical
  have least : ∀ a w, (∃ m, J m a w) → ∃ m, J m a w ∧ ∀ k, J k a w → m ≤ k := by
    rintro a w ⟨m, hm⟩
    induction m using Nat.strongRecOn with
    | _ m ih =>
      by_cases h : ∃ k, k < m ∧ J k a w
      · obtain ⟨k, hk, hj⟩ := h; exact ih k hk hj
      · exact ⟨m, hm, fun k hk => Nat.le_of_not_lt fun hlt => h ⟨k, hlt, hk⟩⟩
  refine wpIn_loop (fun a w => ∃ m, J m a w) (fun a w => if h : ∃ m, J m a w then Classical.choose (least a w h) else 0) ⟨m, h0⟩ fun a w hI => ?_
  have hsp := Classical.choose_spec (least a w hI)
  refine wpIn_mono (round _ a w hsp.1) fun e a' w' hq => ?_
  cases e <;> first | exact hq | skip
  obtain ⟨m', hlt, hj⟩ := hq
  have hI' : ∃ m, J m a' w' := ⟨m', hj⟩
  refine ⟨hI', ?_⟩
  have h2 := (Classical.choose_spec (least a' w' hI')).2 m' hj
  simp only [dif_pos hI, dif_pos hI']
  omega
theorem wpIn_scope {ro : Option Nat} {c : Code} {Q : Exit → Act → World → Prop} {a : Act} {w : World} (h : c.wpIn (FW ro) 0 P (Exit.noGoto Q) a w) : (Code.scope c).wpIn (FW ro) 0 P Q a w := by
  intro b k cs hro hb hr
  have s1 : step P (lone (b.atR a (.code (.scope c) :: k)) cs w) = .next (lone (b.atR a (.code c :: .inScope c :: k)) cs w) := step_lone_go (by simp [stepG, stepG.exec, Frame.atR])
  have s2 : ∀ a w, step P (lone (b.atR a (.inScope c :: k)) cs w) = .next (lone (b.atR a k) cs w) := fun a w => step_lone_go (by simp [stepG, stepG.exec, Frame.atR])
  have h0 : (lone (b.atR a (.code (.scope c) :: k)) cs w).fenced P (FW ro) := fenced_calm hb hr rfl
  obtain ⟨e, a₁, w₁, hq, harr⟩ := h b (.inScope c :: k) cs hro hb hr
  have hx : ∀ id, exitTo id (.inScope c :: k) = exitTo id k := fun id => by simp [exitTo]
  cases e with
  | normal => exact ⟨.normal, a₁, w₁, hq, .head h0 s1 (StepsIn.trans harr (.one (fenced_calm hb hr rfl) (s2 _ _)))⟩
  | exit id => exact ⟨.exit id, a₁, w₁, hq, fun k' hk => .head h0 s1 (harr.1 k' (by rw [hx]; exact hk)),
        fun hr' hk => let ⟨k₁, h1, h2⟩ := harr.2 hr' (by rw [hx]; exact hk); ⟨k₁, h1, .head h0 s1 h2⟩⟩
  | goto l => exact hq.elim
  | ret => exact ⟨_, a₁, w₁, hq, .of_steps (.one h0 s1) harr⟩
  | panic ch => exact ⟨_, a₁, w₁, hq, .of_steps (.one h0 s1) harr⟩
  | outgrown => exact ⟨_, a₁, w₁, hq, .of_steps (.one h0 s1) harr⟩

/-- behind the call of a range over a function -/
def LendP (P : Program) (ro : Option Nat) (g : Nat) (nx : Act → World → Prop) (Q : Exit → Act → World → Prop) (a : Act) (w : World) : Prop :=
  ∃ jump w4, (Instr.endLoop g).run P w = .ok jump w4 ∧ match jump with
    | none => nx a w4
    | some c => c.wpIn (FW ro) 0 P (Exit.then nx Q) a w4
/-- what is left to show at a list of items -/
inductive KR (P : Program) (A0 : Nat → Prop) (w0 : World) (nt : Nat) (ro : Option Nat) (Qb : Exit → Act → World → Prop) (as : List Act) (sk : List (Option Nat × List Item × List ARes × Nat)) : List Item → (Act → World → Prop) → (Exit → Act → World → Prop) → Prop
  | nil : ro = none → KR P A0 w0 nt ro Qb as sk [] (Qb .normal) Qb
  | code {c ac K nx Q} : cCode P nt c = some ac → KR P A0 w0 nt ro Qb as sk K nx Q → KR P A0 w0 nt ro Qb as sk (.code ac :: K) (c.wpIn (FW ro) 0 P (Exit.then nx Q)) Q
  | blk {id K nx Q} : KR P A0 w0 nt ro Qb as sk K nx Q → KR P A0 w0 nt ro Qb as sk (.blk id :: K) nx (Exit.inBlock id (Exit.then nx Q))
  | inv {J K nx Q nxt} : KR P A0 w0 nt ro Qb as sk K nx Q → (∀ β stk fr bx n a w, nt ≤ a.tmps.size → Rel P A0 w0 β stk as fr bx n a w → skel stk = sk → J (stkFr stk) fr bx → nxt a w) → KR P A0 w0 nt ro Qb as sk (.inv J :: K) nxt Q
  | ops {ops : Array Oper} {i l K nx Q} : cOpers P ops.toList nt (ops.toList.drop i) = some l → KR P A0 w0 nt ro Qb as sk K nx Q → KR P A0 w0 nt ro Qb as sk (.ops 0 l :: K) (wpOpsIn (FW ro) 0 P ops (Exit.then nx Q) (List.range' i (ops.size - i))) Q
  | lend {b g K nx Q} : KR P A0 w0 nt ro Qb as sk K nx Q → KR P A0 w0 nt ro Qb as sk (.lend b g :: K) (LendP P ro g nx Q) Q
  | rbeg {b g K nx Q} : ends K = some (b, g) → KR P A0 w0 nt ro Qb as sk K nx Q → KR P A0 w0 nt ro Qb as sk (.rbeg b g :: K) (fun a w => ∃ w2, (Instr.beginRound g).run P w = .ok () w2 ∧ nx a w2) (fun _ _ _ => False)
  | rend {b g} : ro = some g → KR P A0 w0 nt ro Qb as sk [.rend b g] (Qb .normal) Qb

section
variable {nt : Nat} {ro : Option Nat} {Qb : Exit → Act → World → Prop} {as : List Act} {sk : List (Option Nat × List Item × List ARes × Nat)}
theorem KR.ret {K : List Item} {nx : Act → World → Prop} {Q : Exit → Act → World → Prop} (h : KR P A0 w0 nt ro Qb as sk K nx Q) (hp : asgB K = false) (a : Act) (w : World) (hq : Qb .ret a w) : Q .ret a w := by
  induction h with
  | nil | rend => exact hq
  | code _ _ ih => exact ih hp
  | blk _ ih => exact ih hp
  | inv _ _ ih => exact ih hp
  | ops _ _ ih => exact ih hp
  | lend _ ih => exact ih hp
  | rbeg _ _ _ => cases hp
theorem KR.nogoto {K : List Item} {nx : Act → World → Prop} {Q : Exit → Act → World → Prop} (h : KR P A0 w0 nt ro Qb as sk K nx Q) (hb : ∀ l a w, ¬ Qb (.goto l) a w) (l : Nat) (a : Act) (w : World) : ¬ Q (.goto l) a w := by
  induction h with
  | nil | rend => exact hb l a w
  | code _ _ ih => exact ih
  | blk _ ih => exact ih
  | inv _ _ ih => exact ih
  | ops _ _ ih => exact ih
  | lend _ ih => exact ih
  | rbeg _ _ _ => exact fun h => h
theorem KR.rofs {K : List Item} {nx : Act → World → Prop} {Q : Exit → Act → World → Prop} (h : KR P A0 w0 nt ro Qb as sk K nx Q) : (ends K).map (·.2) = ro := by
  induction h with
  | nil h | rend h => rw [h]; rfl
  | code _ _ ih => exact ih
  | blk _ ih => exact ih
  | inv _ _ ih => exact ih
  | ops _ _ ih => exact ih
  | lend _ ih => exact ih
  | rbeg _ _ ih => exact ih
theorem KR.asg {K : List Item} {nx : Act → World → Prop} {Q : Exit → Act → World → Prop} (h : KR P A0 w0 nt ro Qb as sk K nx Q) (hp : ends K = none) : asgB K = false := by
  induction h with
  | nil | rend => rfl
  | code _ _ ih => exact ih hp
  | blk _ ih => exact ih hp
  | inv _ _ ih => exact ih hp
  | ops _ _ ih => exact ih hp
  | lend _ ih => exact ih hp
  | rbeg h1 _ _ => simp only [ends] at hp; rw [h1] at hp; cases hp
theorem KR.pop {K K' : List Item} {nx : Act → World → Prop} {Q : Exit → Act → World → Prop} {id : Nat} (h : KR P A0 w0 nt ro Qb as sk K nx Q) (hp : popTo id K = some K') : ends K' = ends K ∧ ∃ nx' Q', KR P A0 w0 nt ro Qb as sk K' nx' Q' ∧ ∀ a w, nx' a w → Q (.exit id) a w := by
  induction h with
  | nil => cases hp
  | rend => simp [popTo] at hp
  | code _ _ ih => exact ih hp
  | @blk id' K nx Q hk ih =>
    simp only [popTo] at hp
    split at hp
    · rename_i he
      cases hp
      subst he
      exact ⟨rfl, nx, Q, hk, fun a w h => by simp [Exit.inBlock, Exit.then, h]⟩
    · rename_i hne
      obtain ⟨e, nx', Q', h1, h2⟩ := ih hp
      refine ⟨e, nx', Q', h1, fun a w h => ?_⟩
      have hne' : ¬ id = id' := fun e => hne e.symm
      simp only [Exit.inBlock, hne', if_false, Exit.then]
      exact h2 a w h
  | inv _ _ ih => exact ih hp
  | ops _ _ ih => exact ih hp
  | lend _ ih => exact ih hp
  | rbeg _ _ _ => cases hp
theorem KR.esc {K : List Item} {nx : Act → World → Prop} {Q : Exit → Act → World → Prop} {id : Nat} (h : KR P A0 w0 nt ro Qb as sk K nx Q) (hp : popTo id K = none) (ha : asgB K = false) (a : Act) (w : World) (hq : Qb (.exit id) a w) : Q (.exit id) a w := by
  induction h with
  | nil | rend => exact hq
  | code _ _ ih => exact ih hp ha
  | @blk id' K nx Q hk ih =>
    simp only [popTo] at hp
    split at hp
    · cases hp
    · rename_i hne
      have hne' : ¬ id = id' := fun e => hne e.symm
      simp only [Exit.inBlock, hne', if_false, Exit.then]
      exact ih hp ha
  | inv _ _ ih => exact ih hp ha
  | ops _ _ ih => exact ih hp ha
  | lend _ ih => exact ih hp ha
  | rbeg _ _ _ => cases ha
end

/-- what stands to be run when a function has returned -/
def retRun (E : Env) (Qf : Val → Bx → Prop) (n : Nat) (res : List ARes) (stk : List SFrame) (fr : Fr) (bx : Bx) (nx : Nat) : Prop :=
  (resV fr bx res).1 ∧ match stk with
    | [] => Qf (resV fr bx res).2 bx
    | f :: s => ∃ m, m < n ∧ run E Qf m f.K s f.res (fput f.fr f.d (resV fr bx res).2) bx nx
def HRet (P : Program) (E : Env) (A0 : Nat → Prop) (w0 : World) (Qf : Val → Bx → Prop) (n : Nat) (res : List ARes) (sk : List (Option Nat × List Item × List ARes × Nat)) (as : List Act) (Qb : Exit → Act → World → Prop) : Prop :=
  ∀ β stk fr bx nx a w, Rel P A0 w0 β stk as fr bx nx a w → skel stk = sk → retRun E Qf n res stk fr bx nx → Qb .ret a w ∧ Qb .normal a w
theorem HRet.mono {n n' : Nat} {res : List ARes} {sk : List (Option Nat × List Item × List ARes × Nat)} {as : List Act} {Qb : Exit → Act → World → Prop} (h : HRet P E A0 w0 Qf n res sk as Qb) (hn : n' ≤ n) : HRet P E A0 w0 Qf n' res sk as Qb := by
  intro β stk fr bx nx a w hr hs hq
  refine h β stk fr bx nx a w hr hs ⟨hq.1, ?_⟩
  have h2 := hq.2
  cases stk with
  | nil => exact h2
  | cons f s => obtain ⟨m, hm, hrun⟩ := h2; exact ⟨m, by omega, hrun⟩
/-- how a round is left -/
def Jmp.exit' : Jmp → Exit
  | .ret => .ret
  | .exit id => .exit id
def HRnd (P : Program) (E : Env) (A0 : Nat → Prop) (w0 : World) (Qf : Val → Bx → Prop) (n : Nat) (b g : Nat) (sk : List (Option Nat × List Item × List ARes × Nat)) (as : List Act) (Qb : Exit → Act → World → Prop) : Prop :=
  ∀ β stk fr bx nx a w m, Rel P A0 w0 β stk as fr bx nx a w → skel stk = sk → m < n →
    (RoundP (run E Qf m) b g .ready true stk bx nx → Qb .normal a w) ∧ ∀ j : Jmp, RoundP (run E Qf m) b g (.done j) false stk bx nx → Qb j.exit' a w
def HEnd (P : Program) (E : Env) (A0 : Nat → Prop) (w0 : World) (Qf : Val → Bx → Prop) (n : Nat) (res : List ARes) (sk : List (Option Nat × List Item × List ARes × Nat)) (as : List Act) (Qb : Exit → Act → World → Prop) (bot : Option (Nat × Nat)) : Prop :=
  (∀ l a w, ¬ Qb (.goto l) a w) ∧ match bot with
  | none => HRet P E A0 w0 Qf n res sk as Qb
  | some (b, g) => HRnd P E A0 w0 Qf n b g sk as Qb
theorem HEnd.mono {n n' : Nat} {res : List ARes} {sk : List (Option Nat × List Item × List ARes × Nat)} {as : List Act} {Qb : Exit → Act → World → Prop} {bot : Option (Nat × Nat)} (h : HEnd P E A0 w0 Qf n res sk as Qb bot) (hn : n' ≤ n) : HEnd P E A0 w0 Qf n' res sk as Qb bot := by
  refine ⟨h.1, ?_⟩
  cases bot with
  | none => exact HRet.mono h.2 hn
  | some p => exact fun β stk fr bx nx a w m hr hs hm => h.2 β stk fr bx nx a w m hr hs (by omega)
def Sound (P : Program) (E : Env) (A0 : Nat → Prop) (w0 : World) (Qf : Val → Bx → Prop) (n : Nat) : Prop :=
  ∀ K stk res fr bx nx, run E Qf n K stk res fr bx nx → ∀ nt ro Qb next Q a w β as sk, nt ≤ a.tmps.size → Rel P A0 w0 β stk as fr bx nx a w → skel stk = sk → KR P A0 w0 nt ro Qb as sk K next Q → HEnd P E A0 w0 Qf n res sk as Qb (ends K) → next a w
/-- what is known of the program's functions -/
structure EnvOk (P : Program) (E : Env) (A0 : Nat → Prop) (w0 : World) : Prop where
  mixed : P.follows .mixedOrders = true
  G : ∀ n m c, E.G n = some (m, c) → RepP w0 A0 (.vptr m c) (.pointer (some ⟨n, 0, none⟩))
  S : ∀ id s, E.S id = some s → PureOk P E.G id s
  I : ∀ id af, E.I id = some af → ∃ fn, P.funcs[id]? = some fn ∧ cFun P fn = some af

theorem ev_rep {β : Nat → Loc} {w : World} {bx : Bx} {N : Nat} {a : Act} {fr : Fr} (he : EnvOk P E A0 w0) (hm : Mem P A0 w0 β (bget bx) N w) {x : Operand} (hf : ∀ t, x = .tmp t → RepM A0 w0 β (bget bx) w (fget fr t) (a.tmps.getD t undef)) : OpR E A0 w0 β (bget bx) w fr a x := by
  intro ox hx
  cases x with
  | tmp t => simp [cOpd] at hx; subst hx; exact hf t rfl
  | const v =>
    obtain ⟨u, hu, rfl⟩ := Option.map_eq_some_iff.1 hx
    exact RepP.rep _ _ (cv_rep hu _ _)
  | global g =>
    simp [cOpd] at hx; subst hx
    simp only [ev]
    split
    · rename_i m c hg
      exact RepP.rep _ _ (RepP.mono hm.below.size (fun g hg hA => ⟨⟨.inl hA, fun b c hb e => by have := (hm.base b c g hb e).1; omega⟩, hm.below.block g hg⟩) _ _ (he.G _ _ _ hg))
    · trivial
  | func f => simp [cOpd] at hx; subst hx; exact ⟨[], rfl, rfl⟩
theorem WfT_of {w : World} {A : Nat → Prop} {B : Bmap} {β : Nat → Loc} : ∀ (v : Val) (x : Value), Rep w A B β v x → WfT v := by
  intro v; induction v with
  | cons h t ih1 ih2 => rintro x ⟨y, ys, rfl, h1, h2⟩; exact ⟨ih1 _ h1, ih2 _ h2⟩
  | agg l ih => rintro x ⟨ys, rfl, h⟩; exact ih _ h
  | tup l ih => rintro x ⟨ys, rfl, h⟩; exact ih _ h
  | view k n c => rintro x ⟨a, c, _, h, _⟩; exact h
  | _ => intro x _; trivial
theorem Rel.drew {β : Nat → Loc} {stk : List SFrame} {as : List Act} {fr : Fr} {bx : Bx} {nx : Nat} {a : Act} {w : World} (h : Rel P A0 w0 β stk as fr bx nx a w) : Rel P A0 w0 β stk as fr bx nx a w.drew := by
  have hrep : ∀ {A : Nat → Prop} {B : Bmap} v x, Rep w A B β v x → Rep w.drew A B β v x := fun v x hr => Rep.mono (w := w) (w' := w.drew) (Nat.le_refl _) (fun g _ hA => ⟨hA, rfl⟩) (fun b c hb => ⟨c, hb, Kin.refl c, rfl⟩) v x hr
  refine ⟨⟨fun b c hb => ?_, h.mem.inj, h.mem.nx, h.mem.base, h.mem.below.drew⟩, fun t => hrep _ _ (h.fr t), ?_, h.df.mono (Nat.le_refl _) (fun g _ hA => ⟨hA, rfl⟩), h.sn⟩
  · exact (h.mem.bx b c hb).mono (Nat.le_refl _) (fun g _ hA => ⟨hA, rfl⟩) (fun b c hb => ⟨c, hb, Kin.refl c, rfl⟩) rfl fun g _ => rfl
  · have : ∀ {stk as}, StkR A0 w0 β (bget bx) w stk as → StkR A0 w0 β (bget bx) w.drew stk as := by
      intro stk; induction stk with
      | nil => intro as hs; cases as <;> exact hs
      | cons f l ih => intro as hs; cases as with
        | nil => exact hs
        | cons a as => exact ⟨fun t => hrep _ _ (hs.1 t), ih hs.2⟩
    exact this h.st
def resSem (tmps : Array Value) : ResultVar → Sem Value
  | .tmp t => pure (tmps.getD t undef)
  | .cell a t => do loadVar t (← asAddr (tmps.getD a undef))
/-- results read off -/
theorem res1_rep {β : Nat → Loc} {stk : List SFrame} {as : List Act} {fr : Fr} {bx : Bx} {nx : Nat} {a : Act} {w : World} (h : Rel P A0 w0 β stk as fr bx nx a w) {r : ResultVar} {ar : ARes} (hc : cRes P r = some ar) (hp : (res1 fr bx ar).pre) :
    ∃ x, (resSem a.tmps r).run P w = .ok x w ∧ RepM A0 w0 β (bget bx) w (res1 fr bx ar).v x := by
  cases r with
  | tmp t => simp [cRes] at hc; subst hc; exact ⟨_, rfl, h.fr t⟩
  | cell ad t =>
    simp only [cRes] at hc
    obtain ⟨⟨ag, s⟩, hs, rfl⟩ := Option.map_eq_some_iff.1 hc
    have hx := h.fr ad
    obtain ⟨_, _, _, _, h1⟩ := shT_spec hs
    cases hv : fget fr ad <;> simp only [res1, hv] at hp hx ⊢ <;> first | exact hp.elim | skip
    rename_i b off
    obtain ⟨⟨l, hl⟩, g, hg, he⟩ := hx
    simp only [hl] at hp ⊢
    obtain ⟨hlb, g', ys, t', h2, h3, h4⟩ := h.mem.bx b _ hl
    rw [hg] at h2; cases h2
    obtain ⟨zs, hz1, hz2, hz3, hz4⟩ := slice_rep h4 off s.length hp
    have hload := run_loadVar (w := w) hs (g := g) (off := off) hz1 (fun j hj => by rw [cell_of_heap h3, hz2 j (by omega)])
    refine ⟨if ag then .agg ⟨zs⟩ else zs.getD 0 undef, ?_, mkv_rep hz4 fun h => by rw [sliceV, vlen_tab]; have := h1 h; omega⟩
    simp [resSem, he, asAddr, hload]
theorem results_rep {β : Nat → Loc} {stk : List SFrame} {as : List Act} {fr : Fr} {bx : Bx} {nx : Nat} {a : Act} {w : World} (h : Rel P A0 w0 β stk as fr bx nx a w) {fn : Func} {res : List ARes} (hc : cRess P fn.results.toList = some res) (hp : (resV fr bx res).1) :
    ∃ x, (results fn a.tmps).run P w = .ok x w ∧ RepM A0 w0 β (bget bx) w (resV fr bx res).2 x := by
  have key : ∀ (l : List ResultVar) (r : List ARes), cRess P l = some r → (resL fr bx r).1 → ∃ xs : List Value, xs.length = l.length ∧ (l.mapM (resSem a.tmps)).run P w = .ok xs w ∧ RepM A0 w0 β (bget bx) w (resL fr bx r).2 (.tuple ⟨xs⟩) := by
    intro l; induction l with
    | nil => intro r hr _; simp [cRess] at hr; subst hr; exact ⟨[], rfl, rfl, rfl⟩
    | cons q l ih =>
      intro r hr hp
      simp only [cRess] at hr
      split at hr
      · rename_i ar r' h1 h2
        simp at hr; subst hr
        simp only [resL] at hp ⊢
        obtain ⟨x, hx1, hx2⟩ := res1_rep h h1 hp.1
        obtain ⟨xs, hl, hx3, hx4⟩ := ih r' h2 hp.2
        refine ⟨x :: xs, by simp [hl], ?_, ⟨x, xs, rfl, hx2, hx4⟩⟩
        simp only [List.mapM_cons, Sem.run_bind]
        rw [hx1]
        simp only [Result.andThen_ok, hx3, Sem.run_pure]
      · cases hr
  have hres : ∀ xs : List Value, (fn.results.toList.mapM (resSem a.tmps)).run P w = .ok xs w → (results fn a.tmps).run P w = .ok (if h : (⟨xs⟩ : Array Value).size = 1 then (⟨xs⟩ : Array Value)[0] else .tuple ⟨xs⟩) w := by
    intro xs hx
    have e : results fn a.tmps = (do let vs ← fn.results.mapM (resSem a.tmps); pure (if h : vs.size = 1 then vs[0] else .tuple vs)) := by
      unfold results
      congr 1 <;> (try congr 1) <;> (try (funext r; cases r <;> rfl))
    rw [e]
    simp only [Sem.run_bind]
    rw [Array.mapM_eq_mapM_toList]
    simp only [Sem.run_map]
    rw [hx]
    rfl
  have one : ∀ r, res = [r] → ∃ x, (results fn a.tmps).run P w = .ok x w ∧ RepM A0 w0 β (bget bx) w (resV fr bx res).2 x := by
    rintro r rfl
    obtain ⟨xs, hl, hx, hr⟩ := key fn.results.toList [r] hc (by simp only [resV] at hp; simp only [resL]; exact ⟨hp, trivial⟩)
    have hlen : fn.results.toList.length = 1 := by
      cases hq : fn.results.toList with
      | nil => rw [hq] at hc; simp [cRess] at hc
      | cons a l =>
        cases l with
        | nil => rfl
        | cons b l =>
          rw [hq] at hc
          simp only [cRess] at hc
          split at hc
          · rename_i _ _ _ h2
            simp at hc
            split at h2
            · simp at h2; rw [hc.2] at h2; cases h2
            · cases h2
          · cases hc
    have h1 := hres xs hx
    rw [hlen] at hl
    cases xs with
    | nil => cases hl
    | cons x xs =>
      have : xs = [] := List.eq_nil_of_length_eq_zero (by simpa using hl)
      subst this
      refine ⟨x, h1, ?_⟩
      obtain ⟨y, ys, he, h2, _⟩ := hr
      have : y = x := by simp at he; exact he.1.symm
      subst this
      exact h2
  cases res with
  | nil =>
    obtain ⟨xs, hl, hx, hr⟩ := key fn.results.toList [] hc (by simp [resL])
    have : xs = [] := by have e : Value.tuple ⟨xs⟩ = .tuple #[] := hr; simpa using e
    subst this
    exact ⟨_, hres [] hx, ⟨[], rfl, hr⟩⟩
  | cons r l =>
    cases l with
    | nil => exact one r rfl
    | cons r2 l =>
      obtain ⟨xs, hl, hx, hr⟩ := key fn.results.toList (r :: r2 :: l) hc (by simpa only [resV] using hp)
      have hne : ¬ (⟨xs⟩ : Array Value).size = 1 := by
        have := Rep.len hr
        obtain ⟨y, ys, he, _, hr2⟩ := hr
        have : xs = y :: ys := by simpa using he
        subst this
        obtain ⟨y2, ys2, he2, _, _⟩ := hr2
        have : ys = y2 :: ys2 := by simpa using he2
        subst this
        simp
      have h1 := hres xs hx
      rw [dif_neg hne] at h1
      exact ⟨_, h1, ⟨xs, rfl, hr⟩⟩
end Go.Proofs.YtbhhcnonooiokaaDoor
