/- The engine, part 18: one operation of a run, and the whole run. No condition. -/
import Derived.Test.YtbhhcnonooiokaaDoorFRange
namespace Go.Proofs.YtbhhcnonooiokaaDoor
open Go Go.RowKit
variable {P : Program} {E : Env} {A0 : Nat → Prop} {w0 : World} {Qf : Val → Bx → Prop}

theorem undef_ne (b : Bool) : undef ≠ .bool b := by intro h; cases h
theorem wanted_of {β : Nat → Loc} {w : World} {A : Nat → Prop} {B : Bmap} {a : Act} {fr : Fr} {ops : Array Oper} {o : Oper} {g : Option (Nat × Bool)} {s : Bool} (hg : guardT ops.toList o = some g) (hf : ∀ t wt, g = some (t, wt) → Rep w A B β (fget fr t) (a.tmps.getD t undef)) (hs : skipOp fr g = some s) :
    Region.wanted o (yielded ops a.tmps) = !s := by
  unfold guardT at hg
  unfold Region.wanted
  cases hgo : o.guard with
  | none =>
    simp [hgo] at hg; subst hg
    simp [skipOp] at hs; subst hs
    rfl
  | some p =>
    obtain ⟨j, wt⟩ := p
    simp only [hgo] at hg
    split at hg
    · rename_i q hq
      obtain ⟨t, ht, rfl⟩ := Option.map_eq_some_iff.1 hg
      have hr := hf t wt rfl
      simp only [skipOp] at hs
      split at hs
      · rename_i b hb
        simp at hs
        rw [hb] at hr
        have hr : a.tmps.getD t undef = .bool b := hr
        have hlt : t < a.tmps.size := by
          rcases Nat.lt_or_ge t a.tmps.size with h | h
          · exact h
          · simp [Array.getD, Nat.not_lt.2 h] at hr; exact absurd hr (undef_ne b)
        have hget : a.tmps[t]? = some (.bool b) := by
          rw [Array.getElem?_eq_getElem hlt]
          simp [Array.getD, hlt] at hr
          rw [hr]
        have hq' : ops[j]? = some q := by simpa using hq
        simp only [yielded, hq', Option.bind_some, ht, hget]
        subst hs
        cases b <;> cases wt <;> rfl
      · rename_i hb
        simp at hs
        subst hs
        rw [hb] at hr
        obtain ⟨ys, e, e2⟩ := hr
        have e3 : ys = [] := by have e4 : Value.tuple ⟨ys⟩ = .tuple #[] := e2; simpa using e4
        subst e3
        have hq' : ops[j]? = some q := by simpa using hq
        simp only [yielded, hq', Option.bind_some, ht]
        have : ∀ b, a.tmps[t]? ≠ some (.bool b) := by
          intro b hb2
          simp only [Array.getD_eq_getD_getElem?, hb2] at e
          cases e
        cases hq2 : a.tmps[t]? with
        | none => cases wt <;> rfl
        | some y =>
          cases y with
          | bool b => exact absurd hq2 (this b)
          | _ => cases wt <;> rfl
      · cases hs
    · cases hg
theorem cOper_spec {ops : List Oper} {nt : Nat} {o : Oper} {ao : AOper} (h : cOper P ops nt o = some ao) : cOp P o.op = some ao.op ∧ guardT ops o = some ao.guard ∧ ao.dst = o.dst ∧ ∀ s, o.dst = some s → s < nt := by
  unfold cOper at h
  split at h
  · rename_i a' g h1 h2
    by_cases hd : dstOk nt o.dst = true
    · rw [if_pos hd] at h
      injection h with h
      rw [← h]
      refine ⟨h1, h2, rfl, fun s hs => ?_⟩
      rw [hs] at hd
      simpa [dstOk] using hd
    · rw [if_neg hd] at h; cases h
  · cases h

section
variable {n : Nat} {ro : Option Nat} {ops : Array Oper} {nt : Nat} {o : Oper} {ao : AOper} {l : List AOper} {K : List Item} {stk : List SFrame} {res : List ARes} {fr : Fr} {bx : Bx} {nx : Nat} {Q : Exit → Act → World → Prop} {knext : Act → World → Prop} {a : Act} {w : World} {β : Nat → Loc} {as : List Act}
  {sk : List (Option Nat × List Item × List ARes × Nat)}
/-- how a run goes on -/
def Goes (P : Program) (E : Env) (A0 : Nat → Prop) (w0 : World) (Qf : Val → Bx → Prop) (n nt : Nat) (as : List Act) (sk : List (Option Nat × List Item × List ARes × Nat)) (res : List ARes) (I : List Item) (knext : Act → World → Prop) : Prop :=
  ∀ m β stk fr bx nx a w, m ≤ n → nt ≤ a.tmps.size → Rel P A0 w0 β stk as fr bx nx a w → skel stk = sk → run E Qf m I stk res fr bx nx → knext a w
theorem soft_step (he : EnvOk P E A0 w0) (hc : cOper P ops.toList nt o = some ao) (hsz : nt ≤ a.tmps.size) (hrel : Rel P A0 w0 β stk as fr bx nx a w) (hsk : skel stk = sk) (hk : Goes P E A0 w0 Qf n nt as sk res (.ops 0 l :: K) knext)
    (hrun : (aop E fr bx nx ao.op).pre ∧ (WfT (aop E fr bx nx ao.op).v → match ao.br with
      | false => run E Qf n (.ops 0 l :: K) stk res (fput fr ao.dst (aop E fr bx nx ao.op).v) (addB nx (aop E fr bx nx ao.op).new bx) (addN nx (aop E fr bx nx ao.op).new)
      | true => match (aop E fr bx nx ao.op).v with
        | .bool t => (t = true → run E Qf n (.ops 0 l :: K) stk res (fput fr ao.dst (.bool true)) (addB nx (aop E fr bx nx ao.op).new bx) (addN nx (aop E fr bx nx ao.op).new)) ∧ (t = false → run E Qf n (.ops 0 l :: K) stk res (fput fr ao.dst (.bool false)) (addB nx (aop E fr bx nx ao.op).new bx) (addN nx (aop E fr bx nx ao.op).new))
        | _ => False)) : o.wpIn (FW ro) 0 P a w knext Q := by
  obtain ⟨h1, h2, h3, h4⟩ := cOper_spec hc
  obtain ⟨hp, hrun⟩ := hrun
  have hd : ∀ s, o.dst = some s → s < a.tmps.size := fun s hs => Nat.lt_of_lt_of_le (h4 s hs) hsz
  refine soft_wp h1 hrel.mem hrel.nxn (fun _ _ h => h) he.G he.S (fun x _ => ev_rep he hrel.mem fun t _ => hrel.fr t) hp fun x w1 β1 hs hv => ?_
  have hrel1 := hrel.soft hs hv o.dst hd
  rw [h3] at hrun
  refine hk n β1 stk _ _ _ _ w1 (Nat.le_refl _) (by rw [put_size]; exact hsz) hrel1 hsk ?_
  have hgo := hrun (WfT_of _ _ hv)
  cases hbr : ao.br
  · simp only [hbr] at hgo; exact hgo
  · simp only [hbr] at hgo
    split at hgo
    · rename_i t ht
      rw [ht]
      cases t
      · exact hgo.2 rfl
      · exact hgo.1 rfl
    · exact hgo.elim
theorem params_get : ∀ (vs : List Val) (k t : Nat), fget (params k vs) t = if k ≤ t ∧ t < k + vs.length then vs.getD (t - k) .und else .und := by
  intro vs; induction vs with
  | nil => intro k t; simp [params, fget]
  | cons v vs ih =>
    intro k t
    simp only [params, fget, ih, List.length_cons]
    by_cases h : k = t
    · subst h; first | (simp; done) | simp
    · rw [if_neg h]
      by_cases h2 : k + 1 ≤ t ∧ t < k + 1 + vs.length
      · rw [if_pos h2, if_pos (by omega)]
        rw [show t - k = (t - (k + 1)) + 1 from by omega]; first | rfl | simp
      · rw [if_neg h2, if_neg (by omega)]
theorem params_rep {A : Nat → Prop} {B : Bmap} {vs : List Val} {cs : List Value} (h : Rep w A B β (vl vs) (.tuple ⟨cs⟩)) (k t : Nat) : Rep w A B β (fget (params 0 vs) t) (((⟨cs⟩ : Array Value) ++ Array.replicate k undef).getD t undef) := by
  rw [params_get]
  have hlen : cs.length = vlen (vl vs) := Rep.len h (isL_vl vs)
  have hvl : ∀ l : List Val, vlen (vl l) = l.length := by intro l; induction l with | nil => rfl | cons v l ih => simp [vl, vlen, ih]
  have hvg : ∀ (l : List Val) (i : Nat), vget (vl l) i = l.getD i .und := by
    intro l; induction l with
    | nil => intro i; cases i <;> rfl
    | cons v l ih => intro i; cases i with
      | zero => rfl
      | succ i => simpa [vl, vget] using ih i
  split
  · rename_i hc
    obtain ⟨y, hy, hr⟩ := Rep.get1 h t (by rw [hvl]; omega)
    rw [hvg] at hr
    rw [hvl] at hlen
    have : ((⟨cs⟩ : Array Value) ++ Array.replicate k undef).getD t undef = y := by
      have hlt : t < cs.length := by omega
      rw [Array.getD_eq_getD_getElem?, Array.getElem?_append_left (by simpa using hlt)]
      simp [hy]
    rw [this]
    simpa using hr
  · trivial
theorem Marks.tail {w : World} {A : Nat → Prop} {a1 a : Act} {as : List Act} (h : Marks w0 w A (dfs a1 (a :: as))) : Marks w0 w A (dfs a as) := by
  simp only [dfs, List.flatMap_cons] at h ⊢
  exact ⟨(List.pairwise_append.1 h.1).2.1, fun d' hd' => h.2 d' (List.mem_append.2 (.inr hd'))⟩
/-- a call of a function that is run -/
theorem enter_calls (he : EnvOk P E A0 w0) (IH : ∀ m, m ≤ n → Sound P E A0 w0 Qf m) {id : FuncId} {af : AFun} (hi : E.I id = some af) {vs : List Val} {cs : List Value} (hall : RepM A0 w0 β (bget bx) w (vl vs) (.tuple ⟨cs⟩)) (hsz : nt ≤ a.tmps.size) (hrel : Rel P A0 w0 β stk as fr bx nx a w) (hsk : skel stk = sk) {d : Option Nat} (hd : ∀ s, d = some s → s < a.tmps.size)
    {K' : List Item} (hk : Goes P E A0 w0 Qf n nt as sk res K' knext) (hrun : run E Qf n [.code af.code] (⟨d, K', res, fr, nx⟩ :: stk) af.res (params 0 vs) bx nx) :
    (callFunc id ⟨cs⟩).run P w = .ok (.enter id ⟨cs⟩) w ∧ Calls P id ⟨cs⟩ w fun e w'' => ∃ v, e = .returned v ∧ knext (a.put d v) w'' := by
  obtain ⟨fn, hfn, hcf⟩ := he.I id af hi
  unfold cFun at hcf
  cases hbody : fn.body with
  | none => simp [hbody] at hcf
  | some cb =>
  simp only [hbody] at hcf
  split at hcf
  · rename_i ac rs r1 r2
    split at hcf
    · rename_i hcond
      simp at hcf
      subst hcf
      refine ⟨ent_of hfn hcond.2 hbody _ _, (callsIn_wide (n := 0)).1 ?_⟩
      refine callsIn_of_wp_marks hfn hbody trivial ?_
      have hcode := KR.code (P := P) (A0 := A0) (w0 := w0) (ro := none) (Qb := bodyPostM (FW none) 0 P fn fun e w'' => ∃ v, e = .returned v ∧ knext (a.put d v) w'') (as := a :: as) (sk := (d, K', res, nx) :: sk) r1 (KR.nil (P := P) (A0 := A0) (w0 := w0) (nt := fn.ntmps) rfl)
      have hS := IH n (Nat.le_refl _) [.code ac] (⟨d, K', res, fr, nx⟩ :: stk) rs _ bx nx hrun fn.ntmps none _ _ _ { tmps := (⟨cs⟩ : Array Value) ++ Array.replicate (fn.ntmps - (⟨cs⟩ : Array Value).size) undef, defers := [] } w β (a :: as) _ (by simp; omega) ?_ (by simp [skel, ← hsk]) hcode ?_
      · refine wpIn_mono hS fun e a' w' hq => ?_
        cases e <;> exact hq
      · refine ⟨hrel.mem, fun t => params_rep hall _ t, ⟨fun t => ?_, hrel.st⟩, ?_, fun f hf => by rcases List.mem_cons.1 hf with rfl | hf; exact Nat.le_refl _; exact hrel.sn f hf⟩
        · refine Rep.mono (Nat.le_refl _) (fun g _ hA => ⟨hA, rfl⟩) (fun b c hb => ?_) _ _ (hrel.fr t)
          exact ⟨c, by simp only [Bres]; rw [if_pos (hrel.mem.nx b c hb)]; exact hb, Kin.refl c, rfl⟩
        · exact hrel.df
      · refine ⟨fun l a w h => h, fun β1 stk1 fr1 bx1 nx1 a1 w1 hrel1 hsk1 hret1 => ?_⟩
        cases stk1 with
        | nil => simp [skel] at hsk1
        | cons f1 s1 =>
          simp only [skel, List.map_cons, List.cons.injEq, Prod.mk.injEq] at hsk1
          obtain ⟨⟨e1, e2, e3, e4⟩, hsk2⟩ := hsk1
          obtain ⟨hp, m, hm, hrunm⟩ := hret1
          have hleave : LeavesInM (FW none) 0 P fn a1.tmps (fun e w'' => ∃ v, e = .returned v ∧ knext (a.put d v) w'') a1.defers .returning w1 := by
            refine hrel1.leave a1.defers a1 w1 rfl fun a' w' ht hr' => ?_
            obtain ⟨x, hx1, hx2⟩ := results_rep hr' r2 hp
            rw [ht] at hx1
            refine ⟨x, hx1, x, rfl, ?_⟩
            have hst := hr'.st
            have hdf : Marks w0 w' (Al A0 w0 (bget bx1) β1) (dfs (a.put d x) as) := by
              rw [put_dfs]
              have h1 := hr'.df
              simp only [dfs, List.flatMap_cons] at h1 ⊢
              exact ⟨(List.pairwise_append.1 h1.1).2.1, fun d' hd' => h1.2 d' (List.mem_append.2 (.inr hd'))⟩
            refine hk m β1 s1 _ bx1 nx1 _ w' (by omega) (by rw [put_size]; exact hsz) ⟨hr'.mem, ?_, hst.2, hdf, fun f hf => hr'.sn f (by simp [hf])⟩ hsk2 (by rw [e2, e3] at hrunm; exact hrunm)
            rw [e1]
            refine fr_put (fun t => ?_) hx2 d hd
            refine Rep.mono (Nat.le_refl _) (fun g _ hA => ⟨hA, rfl⟩) (fun b c hb => ?_) _ _ (hst.1 t)
            simp only [Bres] at hb
            split at hb
            · exact ⟨c, hb, Kin.refl c, rfl⟩
            · cases hb
          exact ⟨hleave, hleave⟩
    · cases hcf
  · cases hcf
/-- what a round must come to -/
def rndQ (P : Program) (g : Nat) (R : Value → World → Prop) : Exit → Act → World → Prop
  | .normal, _, w => ∃ v w', (Instr.endRound g none).run P w = .ok v w' ∧ R v w'
  | .ret, _, w => ∃ v w', (Instr.endRound g (some .ret)).run P w = .ok v w' ∧ R v w'
  | .exit id, _, w => ∃ v w', (Instr.endRound g (some (.exit id))).run P w = .ok v w' ∧ R v w'
  | _, _, _ => False
/-- a round of a range over a function -/
theorem round_calls (he : EnvOk P E A0 w0) (IH : ∀ m, m ≤ n → Sound P E A0 w0 Qf m) {b g : Nat} {fr' : Fr} {ps : List Nat} {ca cb : ACode} (hb : bget bx b = some (.lp g fr' ps ca cb .ready)) {vs : List Val} {cs : List Value} (hlen : ps.length = cs.length) (hall : RepM A0 w0 β (bget bx) w (vl vs) (.tuple ⟨cs⟩)) (hsz : nt ≤ a.tmps.size) (hrel : Rel P A0 w0 β stk as fr bx nx a w) (hsk : skel stk = sk) {d : Option Nat} (hd : ∀ s, d = some s → s < a.tmps.size)
    {K' : List Item} (hk : Goes P E A0 w0 Qf n nt as sk res K' knext) (hrun : run E Qf n [.code ca, .rbeg b g, .code cb, .rend b g] (⟨d, K', res, fr, nx⟩ :: stk) [] (putL fr' ps vs) bx nx) :
    ∃ fn tmps assign body, (Instr.yield g ⟨cs⟩).run P w = .ok (.round g fn tmps assign body) w ∧ RoundIn (FW none) 0 P g fn tmps assign body w fun e w'' => ∃ v, e = .returned v ∧ knext (a.put d v) w'' := by
  obtain ⟨rec, nt', h1, h2, ⟨h3, h4, h5, h6, h7⟩, ⟨h8, h9⟩, h10⟩ := hrel.lpget hb
  have hps : rec.params.size = cs.length := by rw [← hlen, ← h3]; simp
  refine ⟨rec.fn, _, rec.assign, rec.body, run_yield h2 (by simpa using hps.symm), ?_⟩
  refine roundIn_of_wpIn trivial ?_
  have hput := putL_get (w' := w) (nt := nt') ps vs cs fr' rec.tmps hlen h4 h5 hall h10
  have hz : (rec.params.zip (⟨cs⟩ : Array Value)).foldl (fun (tmps : Array Value) (p : Tmp × Value) => tmps.setIfInBounds p.1 p.2) rec.tmps = (ps.zip cs).foldl (fun (tmps : Array Value) (p : Nat × Value) => tmps.setIfInBounds p.1 p.2) rec.tmps := by
    rw [← Array.foldl_toList]
    congr 1
    rw [Array.toList_zip, h3]
  have hz' : (rec.params.zip (⟨cs⟩ : Array Value)).foldl (fun tmps (t, a) => tmps.setIfInBounds t a) rec.tmps = (ps.zip cs).foldl (fun (tmps : Array Value) (p : Nat × Value) => tmps.setIfInBounds p.1 p.2) rec.tmps := hz
  rw [hz']
  generalize htm : (ps.zip cs).foldl (fun (tmps : Array Value) (p : Nat × Value) => tmps.setIfInBounds p.1 p.2) rec.tmps = tm at *
  let R : Value → World → Prop := fun v w'' => knext (a.put d v) w''
  have hend := KR.rend (P := P) (A0 := A0) (w0 := w0) (nt := nt') (ro := some g) (Qb := rndQ P g R) (as := a :: as) (sk := (d, K', res, nx) :: sk) (b := b) (g := g) rfl
  have hcode := KR.code h6 (KR.rbeg (b := b) (g := g) rfl (KR.code h7 hend))
  have hS := IH n (Nat.le_refl _) _ (⟨d, K', res, fr, nx⟩ :: stk) [] _ bx nx hrun nt' (some g) _ _ _ { tmps := tm, defers := [] } w β (a :: as) _ hput.1 ?_ (by simp [skel, ← hsk]) hcode ?_
  · refine wpIn_mono (F := FW (some g)) hS fun e a' w' hq => ?_
    cases e with
    | normal =>
      obtain ⟨w2, hb2, hq⟩ := hq
      refine ⟨w2, hb2, wpIn_mono hq fun e a' w' hq => ?_⟩
      cases e with
      | normal => obtain ⟨v, w3, q1, q2⟩ := hq; exact ⟨v, w3, q1, v, rfl, q2⟩
      | ret => obtain ⟨v, w3, q1, q2⟩ := hq; exact ⟨v, w3, q1, v, rfl, q2⟩
      | exit id => obtain ⟨v, w3, q1, q2⟩ := hq; exact ⟨v, w3, q1, v, rfl, q2⟩
      | goto l => exact hq.elim
      | panic c => exact hq.elim
      | outgrown => exact hq.elim
    | _ => exact hq.elim
  · refine ⟨hrel.mem, hput.2, ⟨fun t => ?_, hrel.st⟩, hrel.df, fun f hf => by rcases List.mem_cons.1 hf with rfl | hf; exact Nat.le_refl _; exact hrel.sn f hf⟩
    refine Rep.mono (Nat.le_refl _) (fun g _ hA => ⟨hA, rfl⟩) (fun b c hb => ?_) _ _ (hrel.fr t)
    exact ⟨c, by simp only [Bres]; rw [if_pos (hrel.mem.nx b c hb)]; exact hb, Kin.refl c, rfl⟩
  · have core : ∀ β1 stk1 fr1 bx1 nx1 a1 w1 m (st' : Lst) (v : Bool) (jump : Option Code), Rel P A0 w0 β1 stk1 (a :: as) fr1 bx1 nx1 a1 w1 → skel stk1 = (d, K', res, nx) :: sk → m < n → jump.isNone = v → (∀ rec : Loop, StOk { rec with state := if jump.isNone then .ready else .done, pending := jump } st') → RoundP (run E Qf m) b g st' v stk1 bx1 nx1 → ∃ v w', (Instr.endRound g jump).run P w1 = .ok v w' ∧ R v w' := by
      intro β1 stk1 fr1 bx1 nx1 a1 w1 m st' v jump hrel1 hsk1 hm hv hst hR
      unfold RoundP at hR
      split at hR
      · rename_i g' fr2 ps2 ca2 cb2 hb2
        obtain ⟨rfl, hR⟩ := hR
        cases stk1 with
        | nil => exact hR.elim
        | cons f1 s1 =>
          simp only [skel, List.map_cons, List.cons.injEq, Prod.mk.injEq] at hsk1
          obtain ⟨⟨e1, e2, e3, e4⟩, hsk2⟩ := hsk1
          have hR : run E Qf m f1.K s1 f1.res (fput f1.fr f1.d (.bool v)) (bset bx1 b (.lp g' fr2 ps2 ca2 cb2 st')) nx1 := hR
          obtain ⟨rec2, nt2, l1, l2, l3, l4, l5⟩ := hrel1.lpget hb2
          refine ⟨_, _, run_endRound jump l2, ?_⟩
          have hr2 := hrel1.lpset hb2 l2 (hst rec2)
          have hst2 := hr2.st
          refine hk m β1 s1 _ _ nx1 _ _ (by omega) (by rw [put_size]; exact hsz) ⟨hr2.mem, ?_, hst2.2, by rw [put_dfs]; exact hr2.df.tail, fun f hf => hr2.sn f (by simp [hf])⟩ hsk2 (by rw [e2, e3] at hR; exact hR)
          rw [e1]
          refine fr_put (v := .bool v) (fun t => ?_) (by rw [hv]; rfl) d hd
          refine Rep.mono (Nat.le_refl _) (fun g _ hA => ⟨hA, rfl⟩) (fun b c hb => ?_) _ _ (hst2.1 t)
          simp only [Bres] at hb
          split at hb
          · exact ⟨c, hb, Kin.refl c, rfl⟩
          · cases hb
      · exact hR.elim
    refine ⟨fun l a w h => h, fun β1 stk1 fr1 bx1 nx1 a1 w1 m hrel1 hsk1 hm => ⟨fun hR => ?_, fun j hR => ?_⟩⟩
    · exact core β1 stk1 fr1 bx1 nx1 a1 w1 m .ready true none hrel1 hsk1 hm rfl (fun rec => ⟨rfl, rfl⟩) hR
    · have := core β1 stk1 fr1 bx1 nx1 a1 w1 m (.done j) false (some j.code) hrel1 hsk1 hm rfl (fun rec => ⟨rfl, rfl⟩) hR
      cases j <;> exact this
/-- a range over a function -/
theorem range_step (he : EnvOk P E A0 w0) (IH : ∀ m, m ≤ n → Sound P E A0 w0 Qf m) {f : Operand} {of : Opd} (hf : cOpd f = some of) {ps : Array Tmp} {x y : Code} {ca cb : ACode} (hx : cCode P nt x = some ca) (hy : cCode P nt y = some cb) (hps : ∀ t ∈ ps.toList, t < nt) {ks : List Nat}
    {nx' : Act → World → Prop} {Q' : Exit → Act → World → Prop} (hro : (ends K).map (·.2) = ro) (hgo : ∀ b g, Goes P E A0 w0 Qf n nt as sk res (.lend b g :: K) (LendP P ro g nx' Q'))
    (hsz : nt ≤ a.tmps.size) (hrel : Rel P A0 w0 β stk as fr bx nx a w) (hsk : skel stk = sk)
    (hrun : roundIn bx (ends K) ∧ match ev E fr of with
      | .func (.func id) caps => match E.I id with
        | some af => isLB caps = true ∧ ∀ g : Nat, run E Qf n [.code af.code] (⟨none, .lend nx g :: K, res, fr, nx + 1⟩ :: stk) af.res (params 0 (.yld nx :: capsL caps)) ((nx, .lp g (keepS ks fr) ps.toList ca cb .ready) :: bx) (nx + 1)
        | none => False
      | _ => False) : (Code.rangeFunc f ps x y).wpIn (FW ro) 0 P (Exit.then nx' Q') a w := by
  obtain ⟨hri, hrun⟩ := hrun
  cases hv : ev E fr of <;> simp only [hv] at hrun <;> first | exact hrun.elim | skip
  rename_i fn0 caps
  cases fn0 <;> simp only at hrun <;> first | exact hrun.elim | skip
  rename_i id
  cases hi : E.I id <;> simp only [hi] at hrun <;> first | exact hrun.elim | skip
  rename_i af
  obtain ⟨hlb, hrun⟩ := hrun
  refine wpIn_rangeFunc ?_
  intro fn _
  have henter : ∃ l mark W1 rec, (Instr.enterLoop fn a.tmps ps x y (FW ro).round).run P w = .ok (l, mark) W1 ∧ Below w.heap.size w W1 ∧ w.heap.size ≤ l ∧ l < W1.heap.size ∧ W1.heap[l]? = some (.loop rec) ∧ rec.tmps = a.tmps ∧ LpOk P rec nt ps.toList ca cb ∧ StOk rec .ready ∧
      (mark = [] ∨ ∃ r, mark = [{ target := .collected r, args := #[] }] ∧ w.heap.size ≤ r ∧ r ≠ l ∧ r < W1.heap.size ∧ W1.heap[r]? = some (Obj.deferred (some []))) := by
    have hLp : ∀ df, LpOk P { state := .ready, pending := none, fn, tmps := a.tmps, params := ps, assign := x, body := y, defers := df } nt ps.toList ca cb := fun df => ⟨rfl, hps, hsz, hx, hy⟩
    cases hr : ro with
    | none =>
      refine ⟨_, _, _, { state := .ready, pending := none, fn, tmps := a.tmps, params := ps, assign := x, body := y, defers := w.heap.size }, run_enterLoop_outer _ _ _ _ _, ((Below.refl _ w).alloc (Nat.le_refl _) _).alloc (by simp) _, by omega, by simp, ?_, rfl, hLp _, ⟨rfl, rfl⟩, .inr ⟨_, rfl, Nat.le_refl _, by omega, by simp; omega, ?_⟩⟩
      · have := World.alloc_heap_new (w.alloc (.deferred (some []))) (.loop { state := .ready, pending := none, fn, tmps := a.tmps, params := ps, assign := x, body := y, defers := w.heap.size })
        rwa [World.size_alloc] at this
      · exact (Below.heap_alloc _ _ _ (by simp)).trans (World.alloc_heap_new w _)
    | some g0 =>
      rw [hr] at hro
      obtain ⟨⟨b0, g1⟩, hends, rfl⟩ := Option.map_eq_some_iff.1 hro
      rw [hends] at hri
      simp only [roundIn] at hri
      split at hri
      · rename_i g' fr1 ps1 ca1 cb1 st1 hb
        subst hri
        obtain ⟨rec0, nt0, _, l2, _⟩ := hrel.lpget hb
        refine ⟨_, _, _, { state := .ready, pending := none, fn, tmps := a.tmps, params := ps, assign := x, body := y, defers := rec0.defers }, run_enterLoop_inner l2 _ _ _ _ _, (Below.refl _ w).alloc (Nat.le_refl _) _, Nat.le_refl _, by simp, World.alloc_heap_new w _, rfl, hLp _, ⟨rfl, rfl⟩, .inl rfl⟩
      · exact hri.elim
  obtain ⟨l, mark, W1, rec, e1, e2, e3, e4, e5, e6, e7, e8, e9⟩ := henter
  have hrelN := hrel.newLp (ks := ks) e2 e3 e4 e5 e7 e8 e6
  have hfe := ev_rep he hrelN.mem (fun t _ => hrelN.fr t) of hf
  rw [hv] at hfe
  obtain ⟨ys, hfe, hcr⟩ := hfe
  let a' : Act := { a with defers := mark ++ a.defers }
  have hrel' : Rel P A0 w0 (updL β nx ⟨some l, 0, 0⟩) stk as fr ((nx, .lp l (keepS ks fr) ps.toList ca cb .ready) :: bx) (nx + 1) a' W1 := by
    refine ⟨hrelN.mem, hrelN.fr, hrelN.st, ?_, hrelN.sn⟩
    rcases e9 with rfl | ⟨r, rfl, r1, r2, r3, r4⟩
    · exact hrelN.df
    · have h1 := hrelN.df
      have h0 := hrel.df
      simp only [dfs] at h1 h0 ⊢
      refine ⟨?_, fun d' hd' => ?_⟩
      · simp only [a', List.cons_append, List.nil_append]
        rw [List.pairwise_cons]
        refine ⟨fun d' hd' => ?_, h1.1⟩
        obtain ⟨r', k1, _, k3, _⟩ := h0.2 d' hd'
        rw [k1]
        intro e
        have : r = r' := by simpa using e
        omega
      · simp only [a', List.cons_append, List.nil_append, List.mem_cons] at hd'
        rcases hd' with rfl | hd'
        · refine ⟨r, rfl, by have := hrel.mem.below.size; omega, r3, ⟨.inr (by have := hrel.mem.below.size; omega), fun b c hb e => ?_⟩, r4⟩
          simp only [bget] at hb
          split at hb
          · rename_i e'; subst e'; rw [updL_new] at e; cases e; exact r2 rfl
          · rename_i e'
            have hbn : b ≠ nx := fun h => e' h.symm
            have hb' := hrel.mem.base b c r hb (by simpa [updL, hbn] using e)
            omega
        · exact h1.2 d' hd'
  have hcap := caps_rep caps ys hlb hcr
  obtain ⟨q3, q4⟩ := enter_calls (a := a') (d := none) he IH hi (vs := .yld nx :: capsL caps) (cs := .func (.yield l) #[] #[] :: ys) ⟨_, _, rfl, ⟨l, keepS ks fr, ps.toList, ca, cb, .ready, by simp [bget], rfl⟩, hcap⟩ hsz hrel' hsk (fun s hs => by cases hs) (hgo nx l) (hrun l)
  have ea : (#[Value.func (.yield l) #[] #[]] ++ (⟨ys⟩ : Array Value)) = ⟨.func (.yield l) #[] #[] :: ys⟩ := by apply Array.toList_inj.1; simp
  refine ⟨l, mark, W1, { target := .fn (.func id) ⟨ys⟩, args := #[.func (.yield l) #[] #[]] }, W1, id, _, W1, e1, ?_, fun _ _ => trivial, ?_, fun h => (by cases h), (callsIn_wide (n := 0)).2 (q4.mono ?_)⟩
  · simp [resolve, hfe, Deferred.ofValue, Sem.run_pure]
    rfl
  · simp [invoke, ea, q3]
  · rintro e w'' ⟨v, rfl, h⟩
    exact h
theorem cArgs_len : ∀ (l : List Operand) (ts : List TypeId) (r : List (List Sh × Opd)), cArgs P l ts = some r → r.length = l.length := by
  intro l; induction l with
  | nil => intro ts r h; simp [cArgs] at h; subst h; rfl
  | cons x l ih =>
    intro ts r h
    simp only [cArgs] at h
    split at h
    · rename_i o r' h1 h2
      simp at h; subst h
      simp [ih _ _ h2]
    · cases h
theorem call_step (he : EnvOk P E A0 w0) (IH : ∀ m, m ≤ n → Sound P E A0 w0 Qf m) (hc : cOper P ops.toList nt o = some ao) (hsz : nt ≤ a.tmps.size) (hrel : Rel P A0 w0 β stk as fr bx nx a w) (hsk : skel stk = sk) (hk : Goes P E A0 w0 Qf n nt as sk res (.ops 0 l :: K) knext)
    {f : Opd} {args : List (List Sh × Opd)} (hop : ao.op = .call f args)
    (hrun : match ev E fr f with
          | .func (.func id) caps => match E.S id with
            | some s => match specV bx s args (argsL E fr args ++ capsL caps) with
              | ⟨p, v, _⟩ => (isLB caps = true ∧ p) ∧ (WfT v → run E Qf n (.ops 0 l :: K) stk res (fput fr ao.dst v) bx nx)
            | none => match E.I id with
              | some af => isLB caps = true ∧ run E Qf n [.code af.code] (⟨ao.dst, .ops 0 l :: K, res, fr, nx⟩ :: stk) af.res (params 0 (argsL E fr args ++ capsL caps)) bx nx
              | none => False
          | .yld b => match bget bx b with
            | some (.lp g fr' ps ca cb .ready) => ps.length = args.length ∧ run E Qf n [.code ca, .rbeg b g, .code cb, .rend b g] (⟨ao.dst, .ops 0 l :: K, res, fr, nx⟩ :: stk) [] (putL fr' ps (argsL E fr args)) bx nx
            | _ => False
          | _ => False) : o.wpIn (FW ro) 0 P a w knext Q := by
  obtain ⟨h1, h2, h3, h4⟩ := cOper_spec hc
  have hd : ∀ s, o.dst = some s → s < a.tmps.size := fun s hs => Nat.lt_of_lt_of_le (h4 s hs) hsz
  rw [hop] at h1
  cases ho : o.op <;> simp only [ho, cOp] at h1 <;> first | (cases h1; done) | skip
  case move => simp at h1
  case assign => simp at h1
  case pick => split at h1 <;> simp at h1
  case alloc => simp at h1
  case box => split at h1 <;> simp at h1
  case build => split at h1 <;> first | (split at h1 <;> simp at h1; done) | (simp at h1; done)
  case buildSlice => split at h1 <;> first | (split at h1 <;> first | (split at h1 <;> simp at h1; done) | (simp at h1; done)) | (simp at h1; done)
  case load => split at h1 <;> simp at h1
  case store => split at h1 <;> simp at h1
  case binOp => split at h1 <;> first | (split at h1 <;> first | (split at h1 <;> first | (split at h1 <;> first | (split at h1 <;> simp at h1; done) | (simp at h1; done)) | (simp at h1; done)) | (simp at h1; done)) | (simp at h1; done)
  case unOp => simp at h1
  case convert => split at h1 <;> simp at h1
  case makeFunc => split at h1 <;> simp at h1
  case makeMap t x => cases x <;> simp only [] at h1 <;> first | (cases h1; done) | (split at h1 <;> first | (split at h1 <;> simp at h1; done) | (simp at h1; done))
  case lookup => split at h1 <;> first | (split at h1 <;> simp at h1; done) | (simp at h1; done)
  case insert => split at h1 <;> first | (split at h1 <;> simp at h1; done) | (simp at h1; done)
  case mapUpdate => split at h1 <;> first | (split at h1 <;> simp at h1; done) | (simp at h1; done)
  case makeSlice => split at h1 <;> first | (split at h1 <;> simp at h1; done) | (simp at h1; done)
  case slice t x lo hi mx => cases mx <;> simp only [] at h1 <;> first | (cases h1; done) | (split at h1 <;> simp at h1; done)
  case fieldAddr => split at h1 <;> first | (split at h1 <;> first | (split at h1 <;> simp at h1; done) | (simp at h1; done)) | (simp at h1; done)
  case indexAddr => split at h1 <;> simp at h1
  case extract => simp at h1
  case nilCheck => simp at h1
  case call c =>
    split at h1
    · rename_i fo hcal
      split at h1 <;> simp at h1
      rename_i of args' q1 q2
      obtain ⟨rfl, rfl⟩ := h1
      have hxa : ∀ x ∈ c.args.toList, OpR E A0 w0 β (bget bx) w fr a x := fun x _ => ev_rep he hrel.mem fun t _ => hrel.fr t
      have hxf : RepM A0 w0 β (bget bx) w (ev E fr of) (a.eval fo) := ev_rep he hrel.mem (fun t _ => hrel.fr t) of q1
      cases hv : ev E fr of <;> simp only [hv] at hrun <;> first | exact hrun.elim | skip
      case yld b =>
        split at hrun
        · rename_i g fr' ps ca cb hb
          obtain ⟨hl, hrun⟩ := hrun
          rw [hv] at hxf
          obtain ⟨g', fr2, ps2, ca2, cb2, st2, hb2, hfe⟩ := hxf
          rw [hb] at hb2
          obtain ⟨rfl, rfl, rfl, rfl, rfl, rfl⟩ : g = g' ∧ fr' = fr2 ∧ ps = ps2 ∧ ca = ca2 ∧ cb = cb2 ∧ Lst.ready = st2 := by simpa using hb2
          have hargsR := args_rep c.args.toList c.argTypes.toList args' q2 hxa
          have hlen : args'.length = c.args.toList.length := cArgs_len _ _ _ q2
          obtain ⟨fn, tmps, assign, body, p1, p2⟩ := round_calls he IH hb (hl.trans (by rw [hlen]; simp)) hargsR hsz hrel hsk (d := o.dst) hd hk (by rw [← h3]; exact hrun)
          have hround : (execOp a.eval o).run P w = .ok (.round g fn tmps assign body) w := by
            have e1 : (Array.map a.eval c.args) = (⟨c.args.toList.map a.eval⟩ : Array Value) := by apply Array.toList_inj.1; simp
            simp [execOp, ho, resolve, hcal, hfe, Deferred.ofValue, invoke, e1, p1]
          refine wpIn_plain (fun c' h => by rw [ho] at h; cases h) ?_
          rw [hround]
          refine ⟨fun h => (by cases h), RoundIn.mono p2 ?_⟩
          rintro e w'' ⟨v, rfl, hv⟩
          exact hv
        · exact hrun.elim
      rename_i fn caps
      cases fn <;> simp only at hrun <;> first | exact hrun.elim | skip
      rename_i id
      cases hs : E.S id with
      | some s =>
        simp only [hs] at hrun
        obtain ⟨hp, hrun⟩ := hrun
        have hr : aop E fr bx nx (.call of args') = ⟨isLB caps = true ∧ (specV bx s args' (argsL E fr args' ++ capsL caps)).pre, (specV bx s args' (argsL E fr args' ++ capsL caps)).v, (specV bx s args' (argsL E fr args' ++ capsL caps)).new⟩ := by
          simp only [aop, hv, hs]
        have hw := wp_call_spec (ro := ro) (o := o) (Q := Q) (next := fun a' w' => knext a' w') hrel.mem (fun _ _ h => h) he.G he.S ho hcal q1 q2 hxf hxa (by rw [hr]; exact hp) (fun x w1 hsf hvx => by
          have hn : (aop E fr bx nx (.call of args')).new = none := by rw [hr]; simp only [specV]; split <;> rfl
          have hrel1 := hrel.soft (new := none) hsf (v := (aop E fr bx nx (.call of args')).v) hvx o.dst hd
          refine hk n β stk _ _ _ _ w1 (Nat.le_refl _) (by rw [put_size]; exact hsz) hrel1 hsk ?_
          have := hrun (by have := WfT_of _ _ hvx; rw [hr] at this; exact this)
          rw [h3] at this
          rw [hr]
          exact this)
        exact hw.1
      | none =>
        simp only [hs] at hrun
        cases hi : E.I id <;> simp only [hi] at hrun <;> first | exact hrun.elim | skip
        rename_i af
        obtain ⟨hlb, hrun⟩ := hrun
        rw [hv] at hxf
        obtain ⟨ys, hfe, hcr⟩ := hxf
        have hargsR := args_rep c.args.toList c.argTypes.toList args' q2 hxa
        have hcapR := caps_rep caps ys hlb hcr
        have hall : RepM A0 w0 β (bget bx) w (vl (argsL E fr args' ++ capsL caps)) (.tuple ⟨c.args.toList.map a.eval ++ ys⟩) := by
          rw [vl_app]; exact Rep.app hargsR (isL_vl _) hcapR
        generalize argsL E fr args' ++ capsL caps = vs at *
        obtain ⟨q3, q4⟩ := enter_calls he IH hi hall hsz hrel hsk (d := o.dst) hd hk (by rw [← h3]; exact hrun)
        have henter : (execOp a.eval o).run P w = .ok (.enter id ⟨c.args.toList.map a.eval ++ ys⟩) w := by
          have e1 : (Array.map a.eval c.args ++ (⟨ys⟩ : Array Value)) = ⟨c.args.toList.map a.eval ++ ys⟩ := by apply Array.toList_inj.1; simp
          simp [execOp, ho, resolve, hcal, hfe, Deferred.ofValue, invoke, q3, e1]
        refine wpIn_enter (fun c' h => by rw [ho] at h; cases h) henter (q4.mono fun e w'' => ?_)
        rintro ⟨v, rfl, hv⟩
        exact hv
    · split at h1
      · split at h1 <;> simp at h1
      · cases h1
    · split at h1
      · split at h1 <;> simp at h1
      · cases h1
    · split at h1
      · split at h1 <;> simp at h1
      · cases h1
    · split at h1
      · split at h1
        · split at h1
          · split at h1 <;> simp at h1
          · cases h1
        · cases h1
      · cases h1
    · cases h1
end
end Go.Proofs.YtbhhcnonooiokaaDoor
