/- The engine, part 18: one operation of a run, and the whole run. No condition. -/
import Derived.Test.YtbhhcnonooiokaaDoorESound
namespace Go.Proofs.YtbhhcnonooiokaaDoor
open Go Go.RowKit
variable {P : Program} {E : Env} {A0 : Nat → Prop} {w0 : World} {Qf : Val → Bx → Prop}

theorem undef_ne (b : Bool) : undef ≠ .bool b := by intro h; cases h
theorem wanted_of {β : Nat → Loc} {w : World} {A : Nat → Prop} {B : Bmap} {a : Act} {fr : Fr} {ops : Array Oper} {o : Oper} {g : Option (Nat × Bool)} {s : Bool} (hg : guardT ops.toList o = some g) (hf : ∀ t wt, g = some (t, wt) → Rep w A B β (fget fr t) (a.tmps.getD t undef)) (hs : skipOp fr g = some s) :
    Region.wanted o (yielded ops a.tmps) = !s := by
  unfold guardT at hg
  unfold Region.wanted
  cases hgo : o.guard with
  | none =>
    simp [hgo] at hg; subst hg
    simp [skipOp] at hs; subst hs
    rfl
  | some p =>
    obtain ⟨j, wt⟩ := p
    simp only [hgo] at hg
    split at hg
    · rename_i q hq
      obtain ⟨t, ht, rfl⟩ := Option.map_eq_some_iff.1 hg
      have hr := hf t wt rfl
      simp only [skipOp] at hs
      split at hs
      · rename_i b hb
        simp at hs
        rw [hb] at hr
        have hr : a.tmps.getD t undef = .bool b := hr
        have hlt : t < a.tmps.size := by
          rcases Nat.lt_or_ge t a.tmps.size with h | h
          · exact h
          · simp [Array.getD, Nat.not_lt.2 h] at hr; exact absurd hr (undef_ne b)
        have hget : a.tmps[t]? = some (.bool b) := by
          rw [Array.getElem?_eq_getElem hlt]
          simp [Array.getD, hlt] at hr
          rw [hr]
        have hq' : ops[j]? = some q := by simpa using hq
        simp only [yielded, hq', Option.bind_some, ht, hget]
        subst hs
        cases b <;> cases wt <;> rfl
      · rename_i hb
        simp at hs
        subst hs
        rw [hb] at hr
        obtain ⟨ys, e, e2⟩ := hr
        have e3 : ys = [] := by have e4 : Value.tuple ⟨ys⟩ = .tuple #[] := e2; simpa using e4
        subst e3
        have hq' : ops[j]? = some q := by simpa using hq
        simp only [yielded, hq', Option.bind_some, ht]
        have : ∀ b, a.tmps[t]? ≠ some (.bool b) := by
          intro b hb2
          simp only [Array.getD_eq_getD_getElem?, hb2] at e
          cases e
        cases hq2 : a.tmps[t]? with
        | none => cases wt <;> rfl
        | some y =>
          cases y with
          | bool b => exact absurd hq2 (this b)
          | _ => cases wt <;> rfl
      · cases hs
    · cases hg
theorem cOper_spec {ops : List Oper} {nt : Nat} {o : Oper} {ao : AOper} (h : cOper P ops nt o = some ao) : cOp P o.op = some ao.op ∧ guardT ops o = some ao.guard ∧ ao.dst = o.dst ∧ ∀ s, o.dst = some s → s < nt := by
  unfold cOper at h
  split at h
  · rename_i a' g h1 h2
    by_cases hd : dstOk nt o.dst = true
    · rw [if_pos hd] at h
      injection h with h
      rw [← h]
      refine ⟨h1, h2, rfl, fun s hs => ?_⟩
      rw [hs] at hd
      simpa [dstOk] using hd
    · rw [if_neg hd] at h; cases h
  · cases h

section
variable {n : Nat} {ops : Array Oper} {nt : Nat} {o : Oper} {ao : AOper} {l : List AOper} {K : List Item} {stk : List SFrame} {res : List ARes} {fr : Fr} {bx : Bx} {nx : Nat} {Q : Exit → Act → World → Prop} {knext : Act → World → Prop} {a : Act} {w : World} {β : Nat → Loc} {as : List Act}
  {sk : List (Option Nat × List Item × List ARes × Nat)}
/-- how a run goes on -/
def Goes (E : Env) (A0 : Nat → Prop) (w0 : World) (Qf : Val → Bx → Prop) (n nt : Nat) (as : List Act) (sk : List (Option Nat × List Item × List ARes × Nat)) (res : List ARes) (I : List Item) (knext : Act → World → Prop) : Prop :=
  ∀ m β stk fr bx nx a w, m ≤ n → nt ≤ a.tmps.size → Rel A0 w0 β stk as fr bx nx a w → skel stk = sk → run E Qf m I stk res fr bx nx → knext a w
theorem soft_step (he : EnvOk P E A0 w0) (hc : cOper P ops.toList nt o = some ao) (hsz : nt ≤ a.tmps.size) (hrel : Rel A0 w0 β stk as fr bx nx a w) (hsk : skel stk = sk) (hk : Goes E A0 w0 Qf n nt as sk res (.ops 0 l :: K) knext)
    (hrun : (aop E fr bx nx ao.op).pre ∧ (WfT (aop E fr bx nx ao.op).v → match ao.br with
      | false => run E Qf n (.ops 0 l :: K) stk res (fput fr ao.dst (aop E fr bx nx ao.op).v) (addB nx (aop E fr bx nx ao.op).new bx) (addN nx (aop E fr bx nx ao.op).new)
      | true => match (aop E fr bx nx ao.op).v with
        | .bool t => (t = true → run E Qf n (.ops 0 l :: K) stk res (fput fr ao.dst (.bool true)) (addB nx (aop E fr bx nx ao.op).new bx) (addN nx (aop E fr bx nx ao.op).new)) ∧ (t = false → run E Qf n (.ops 0 l :: K) stk res (fput fr ao.dst (.bool false)) (addB nx (aop E fr bx nx ao.op).new bx) (addN nx (aop E fr bx nx ao.op).new))
        | _ => False)) : o.wp P a w knext Q := by
  obtain ⟨h1, h2, h3, h4⟩ := cOper_spec hc
  obtain ⟨hp, hrun⟩ := hrun
  have hd : ∀ s, o.dst = some s → s < a.tmps.size := fun s hs => Nat.lt_of_lt_of_le (h4 s hs) hsz
  refine soft_wp h1 hrel.mem hrel.nxn (fun _ _ h => h) he.G he.S (fun x _ => ev_rep he hrel.mem fun t _ => hrel.fr t) hp fun x w1 β1 hs hv => ?_
  have hrel1 := hrel.soft hs hv o.dst hd
  rw [h3] at hrun
  refine hk n β1 stk _ _ _ _ w1 (Nat.le_refl _) (by rw [put_size]; exact hsz) hrel1 hsk ?_
  have hgo := hrun (WfT_of _ _ hv)
  cases hbr : ao.br
  · simp only [hbr] at hgo; exact hgo
  · simp only [hbr] at hgo
    split at hgo
    · rename_i t ht
      rw [ht]
      cases t
      · exact hgo.2 rfl
      · exact hgo.1 rfl
    · exact hgo.elim
theorem params_get : ∀ (vs : List Val) (k t : Nat), fget (params k vs) t = if k ≤ t ∧ t < k + vs.length then vs.getD (t - k) .und else .und := by
  intro vs; induction vs with
  | nil => intro k t; simp [params, fget]
  | cons v vs ih =>
    intro k t
    simp only [params, fget, ih, List.length_cons]
    by_cases h : k = t
    · subst h; first | (simp; done) | simp
    · rw [if_neg h]
      by_cases h2 : k + 1 ≤ t ∧ t < k + 1 + vs.length
      · rw [if_pos h2, if_pos (by omega)]
        rw [show t - k = (t - (k + 1)) + 1 from by omega]; first | rfl | simp
      · rw [if_neg h2, if_neg (by omega)]
theorem params_rep {A : Nat → Prop} {B : Bmap} {vs : List Val} {cs : List Value} (h : Rep w A B β (vl vs) (.tuple ⟨cs⟩)) (k t : Nat) : Rep w A B β (fget (params 0 vs) t) (((⟨cs⟩ : Array Value) ++ Array.replicate k undef).getD t undef) := by
  rw [params_get]
  have hlen : cs.length = vlen (vl vs) := Rep.len h (isL_vl vs)
  have hvl : ∀ l : List Val, vlen (vl l) = l.length := by intro l; induction l with | nil => rfl | cons v l ih => simp [vl, vlen, ih]
  have hvg : ∀ (l : List Val) (i : Nat), vget (vl l) i = l.getD i .und := by
    intro l; induction l with
    | nil => intro i; cases i <;> rfl
    | cons v l ih => intro i; cases i with
      | zero => rfl
      | succ i => simpa [vl, vget] using ih i
  split
  · rename_i hc
    obtain ⟨y, hy, hr⟩ := Rep.get1 h t (by rw [hvl]; omega)
    rw [hvg] at hr
    rw [hvl] at hlen
    have : ((⟨cs⟩ : Array Value) ++ Array.replicate k undef).getD t undef = y := by
      have hlt : t < cs.length := by omega
      rw [Array.getD_eq_getD_getElem?, Array.getElem?_append_left (by simpa using hlt)]
      simp [hy]
    rw [this]
    simpa using hr
  · trivial
theorem call_step (he : EnvOk P E A0 w0) (IH : ∀ m, m ≤ n → Sound P E A0 w0 Qf m) (hc : cOper P ops.toList nt o = some ao) (hsz : nt ≤ a.tmps.size) (hrel : Rel A0 w0 β stk as fr bx nx a w) (hsk : skel stk = sk) (hk : Goes E A0 w0 Qf n nt as sk res (.ops 0 l :: K) knext)
    {f : Opd} {args : List (List Sh × Opd)} (hop : ao.op = .call f args)
    (hrun : match ev E fr f with
          | .func (.func id) caps => match E.S id with
            | some s => match specV bx s args (argsL E fr args ++ capsL caps) with
              | ⟨p, v, _⟩ => (isLB caps = true ∧ p) ∧ (WfT v → run E Qf n (.ops 0 l :: K) stk res (fput fr ao.dst v) bx nx)
            | none => match E.I id with
              | some af => isLB caps = true ∧ run E Qf n [.code af.code] (⟨ao.dst, .ops 0 l :: K, res, fr, nx⟩ :: stk) af.res (params 0 (argsL E fr args ++ capsL caps)) bx nx
              | none => False
          | _ => False) : o.wp P a w knext Q := by
  obtain ⟨h1, h2, h3, h4⟩ := cOper_spec hc
  have hd : ∀ s, o.dst = some s → s < a.tmps.size := fun s hs => Nat.lt_of_lt_of_le (h4 s hs) hsz
  rw [hop] at h1
  cases ho : o.op <;> simp only [ho, cOp] at h1 <;> first | (cases h1; done) | skip
  case move => simp at h1
  case assign => simp at h1
  case pick => split at h1 <;> simp at h1
  case alloc => simp at h1
  case box => split at h1 <;> simp at h1
  case build => split at h1 <;> first | (split at h1 <;> simp at h1; done) | (simp at h1; done)
  case buildSlice => split at h1 <;> first | (split at h1 <;> first | (split at h1 <;> simp at h1; done) | (simp at h1; done)) | (simp at h1; done)
  case load => split at h1 <;> simp at h1
  case store => split at h1 <;> simp at h1
  case binOp => split at h1 <;> first | (split at h1 <;> first | (split at h1 <;> first | (split at h1 <;> first | (split at h1 <;> simp at h1; done) | (simp at h1; done)) | (simp at h1; done)) | (simp at h1; done)) | (simp at h1; done)
  case unOp => simp at h1
  case convert => split at h1 <;> simp at h1
  case makeFunc => split at h1 <;> simp at h1
  case makeMap t x => cases x <;> simp only [cOp] at h1 <;> first | (cases h1; done) | (split at h1 <;> first | (split at h1 <;> simp at h1; done) | (simp at h1; done))
  case lookup => split at h1 <;> first | (split at h1 <;> simp at h1; done) | (simp at h1; done)
  case insert => split at h1 <;> first | (split at h1 <;> simp at h1; done) | (simp at h1; done)
  case mapUpdate => split at h1 <;> first | (split at h1 <;> simp at h1; done) | (simp at h1; done)
  case makeSlice => split at h1 <;> first | (split at h1 <;> simp at h1; done) | (simp at h1; done)
  case slice t x lo hi mx => cases mx <;> simp only [cOp] at h1 <;> first | (cases h1; done) | (split at h1 <;> simp at h1; done)
  case fieldAddr => split at h1 <;> first | (split at h1 <;> first | (split at h1 <;> simp at h1; done) | (simp at h1; done)) | (simp at h1; done)
  case indexAddr => split at h1 <;> simp at h1
  case extract => simp at h1
  case nilCheck => simp at h1
  case call c =>
    split at h1
    · rename_i fo hcal
      split at h1 <;> simp at h1
      rename_i of args' q1 q2
      obtain ⟨rfl, rfl⟩ := h1
      have hxa : ∀ x ∈ c.args.toList, OpR E A0 w0 β (bget bx) w fr a x := fun x _ => ev_rep he hrel.mem fun t _ => hrel.fr t
      have hxf : RepM A0 w0 β (bget bx) w (ev E fr of) (a.eval fo) := ev_rep he hrel.mem (fun t _ => hrel.fr t) of q1
      cases hv : ev E fr of <;> simp only [hv] at hrun <;> first | exact hrun.elim | skip
      rename_i fn caps
      cases fn <;> simp only at hrun <;> first | exact hrun.elim | skip
      rename_i id
      cases hs : E.S id with
      | some s =>
        simp only [hs] at hrun
        obtain ⟨hp, hrun⟩ := hrun
        have hr : aop E fr bx nx (.call of args') = ⟨isLB caps = true ∧ (specV bx s args' (argsL E fr args' ++ capsL caps)).pre, (specV bx s args' (argsL E fr args' ++ capsL caps)).v, (specV bx s args' (argsL E fr args' ++ capsL caps)).new⟩ := by
          simp only [aop, hv, hs]
        have hw := wp_call_spec (o := o) (Q := Q) (next := fun a' w' => knext a' w') hrel.mem (fun _ _ h => h) he.G he.S ho hcal q1 q2 hxf hxa (by rw [hr]; exact hp) (fun x w1 hsf hvx => by
          have hn : (aop E fr bx nx (.call of args')).new = none := by rw [hr]; simp only [specV]; split <;> rfl
          have hrel1 := hrel.soft (new := none) hsf (v := (aop E fr bx nx (.call of args')).v) hvx o.dst hd
          refine hk n β stk _ _ _ _ w1 (Nat.le_refl _) (by rw [put_size]; exact hsz) hrel1 hsk ?_
          have := hrun (by have := WfT_of _ _ hvx; rw [hr] at this; exact this)
          rw [h3] at this
          rw [hr]
          exact this)
        exact hw.1
      | none =>
        simp only [hs] at hrun
        cases hi : E.I id <;> simp only [hi] at hrun <;> first | exact hrun.elim | skip
        rename_i af
        obtain ⟨hlb, hrun⟩ := hrun
        rw [hv] at hxf
        obtain ⟨ys, hfe, hcr⟩ := hxf
        have hargsR := args_rep c.args.toList c.argTypes.toList args' q2 hxa
        have hcapR := caps_rep caps ys hlb hcr
        have hall : RepM A0 w0 β (bget bx) w (vl (argsL E fr args' ++ capsL caps)) (.tuple ⟨c.args.toList.map a.eval ++ ys⟩) := by
          rw [vl_app]; exact Rep.app hargsR (isL_vl _) hcapR
        generalize argsL E fr args' ++ capsL caps = vs at *
        obtain ⟨fn, hfn, hcf⟩ := he.I id af hi
        unfold cFun at hcf
        cases hbody : fn.body with
        | none => simp [hbody] at hcf
        | some cb =>
        simp only [hbody] at hcf
        split at hcf
        · rename_i ac rs r1 r2
          split at hcf
          · rename_i hcond
            simp at hcf
            subst hcf
            have hent : (callFunc id (⟨c.args.toList.map a.eval ++ ys⟩ : Array Value)).run P w = .ok (.enter id ⟨c.args.toList.map a.eval ++ ys⟩) w := ent_of hfn hcond.2 hbody _ _
            have henter : (execOp a.eval o).run P w = .ok (.enter id ⟨c.args.toList.map a.eval ++ ys⟩) w := by
              have e1 : (Array.map a.eval c.args ++ (⟨ys⟩ : Array Value)) = ⟨c.args.toList.map a.eval ++ ys⟩ := by apply Array.toList_inj.1; simp
              simp [execOp, ho, resolve, hcal, hfe, Deferred.ofValue, invoke, hent, e1]
            simp only [Oper.wp, henter, Oper.upon]
            refine calls_of_wp hfn hbody ?_
            have hcode := KR.code (P := P) (A0 := A0) (w0 := w0) (Qb := bodyPost P fn fun x w'' => (match x, w'' with | .returned v, w'' => knext (a.put o.dst v) w'' | .panicked chain, w'' => Q (.panic chain) a w'' | .outgrown, _ => LetsOut Q)) (as := a :: as) (sk := (ao.dst, .ops 0 l :: K, res, nx) :: sk) r1 (KR.nil (P := P) (A0 := A0) (w0 := w0) (nt := fn.ntmps))
            have hS := IH n (Nat.le_refl _) [.code ac] (⟨ao.dst, .ops 0 l :: K, res, fr, nx⟩ :: stk) rs _ bx nx hrun fn.ntmps _ _ _ { tmps := (⟨c.args.toList.map a.eval ++ ys⟩ : Array Value) ++ Array.replicate (fn.ntmps - (⟨c.args.toList.map a.eval ++ ys⟩ : Array Value).size) undef, defers := [] } w β (a :: as) _ (by simp; omega) ?_ (by simp [skel, ← hsk]) hcode ?_
            · refine wp_mono hS fun e a' w' hq => ?_
              cases e <;> exact hq
            · refine ⟨hrel.mem, fun t => params_rep hall _ t, ⟨fun t => ?_, hrel.st⟩, rfl, fun f hf => by rcases List.mem_cons.1 hf with rfl | hf; exact Nat.le_refl _; exact hrel.sn f hf⟩
              refine Rep.mono (Nat.le_refl _) (fun g _ hA => ⟨hA, rfl⟩) (fun b c hb => ?_) _ _ (hrel.fr t)
              exact ⟨c, by simp only [Bres]; rw [if_pos (hrel.mem.nx b c hb)]; exact hb, Kin.refl c, rfl⟩
            · intro β1 stk1 fr1 bx1 nx1 a1 w1 hrel1 hsk1 hret1
              cases stk1 with
              | nil => simp [skel] at hsk1
              | cons f1 s1 =>
                simp only [skel, List.map_cons, List.cons.injEq, Prod.mk.injEq] at hsk1
                obtain ⟨⟨e1, e2, e3, e4⟩, hsk2⟩ := hsk1
                obtain ⟨hp, m, hm, hrunm⟩ := hret1
                obtain ⟨x, hx1, hx2⟩ := results_rep hrel1 r2 hp
                have hst := hrel1.st
                have hfin : knext (a.put o.dst x) w1 := by
                  refine hk m β1 s1 _ bx1 nx1 _ w1 (by omega) (by rw [put_size]; exact hsz) ⟨hrel1.mem, ?_, hst.2, by rw [put_df]; exact hrel.df, fun f hf => hrel1.sn f (by simp [hf])⟩ hsk2 (by rw [e2, e3] at hrunm; exact hrunm)
                  rw [e1, h3]
                  refine fr_put (fun t => ?_) hx2 o.dst hd
                  refine Rep.mono (Nat.le_refl _) (fun g _ hA => ⟨hA, rfl⟩) (fun b c hb => ?_) _ _ (hst.1 t)
                  simp only [Bres] at hb
                  split at hb
                  · exact ⟨c, hb, Kin.refl c, rfl⟩
                  · cases hb
                exact ⟨⟨hrel1.df, x, hx1, hfin⟩, ⟨hrel1.df, x, hx1, hfin⟩⟩
          · cases hcf
        · cases hcf
    · split at h1
      · split at h1 <;> simp at h1
      · cases h1
    · split at h1
      · split at h1 <;> simp at h1
      · cases h1
    · split at h1
      · split at h1 <;> simp at h1
      · cases h1
    · split at h1
      · split at h1
        · split at h1
          · split at h1 <;> simp at h1
          · cases h1
        · cases h1
      · cases h1
    · cases h1
end
end Go.Proofs.YtbhhcnonooiokaaDoor
