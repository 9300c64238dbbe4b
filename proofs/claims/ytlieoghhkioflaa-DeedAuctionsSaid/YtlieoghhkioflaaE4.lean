/- The engine: FDrawn3, FDrawn4, FDrawn5, FDrawn6, FFlt, FDly, FMain3, FOpq, FFun, FTy, UTy. No condition. -/
import Derived.Test.YtlieoghhkioflaaE3
import Derived.Test.YtlieoghhkioflaaE1
set_option linter.unusedSimpArgs false
set_option linter.unusedVariables false
/- The engine, part 20c: what may come late in a drawn region, and what is written meanwhile. No condition. -/
namespace Go.Proofs.Ytlieoghhkioflaa
open Go Go.RowKit
variable {P : Program} {E : Env} {A0 : Nat → Prop} {w0 : Base} {Qf : Val → Bx → Prop}
theorem fget_sub' (b : Bn) (r : Val) (fr : Fr) (t : Nat) : fget (subFr b r fr) t = subV b r (fget fr t) := by
 rw [fget_subFr]
 split
 ·rfl
 ·rename_i h
  have : fget fr t = .und := by
   induction fr with
   | nil => rfl
   | cons p l ih =>
    obtain ⟨s,v⟩ := p
    simp only [List.any_cons,Bool.or_eq_true,not_or,beq_iff_eq] at h
    simp only [fget,if_neg h.1]
    exact ih (by simpa using h.2)
  rw [this]; rfl
theorem subV_pure (b : Bn) (r : Val) : ∀ v : Val,pureB v = true → subV b r v = v := by
 intro v; induction v with
 | cons h t ih1 ih2 => intro hp; simp only [pureB,Bool.and_eq_true] at hp; simp only [subV,ih1 hp.1,ih2 hp.2]
 | agg l ih => intro hp; simp only [subV]; rw [ih (by simpa [pureB] using hp)]
 | tup l ih => intro hp; simp only [subV]; rw [ih (by simpa [pureB] using hp)]
 | func f l ih => intro hp; simp only [subV]; rw [ih (by simpa [pureB] using hp)]
 | own b' => intro hp; simp [pureB] at hp
 | ptr b' o => intro hp; simp [pureB] at hp
 | rptr b' i o => intro hp; simp [pureB] at hp
 | mapb b' => intro hp; simp [pureB] at hp
 | yld b' => intro hp; simp [pureB] at hp
 | osl b' o n => intro hp; simp [pureB] at hp
 | _ => intro _; rfl
def Good (E : Env) (ao : AOper) (fr : Fr) (bx : Bx) (nm nm' : Nat) : Prop :=
 (skipOp fr ao.guard = some true ∧ (∀ t,ao.dst = some t → fget fr t = .tup .nil) ∧ nm' = nm) ∨
 (skipOp fr ao.guard = some false ∧ (aop E fr bx nm ao.op).pre ∧ (∀ t,ao.dst = some t → fget fr t = (aop E fr bx nm ao.op).v) ∧ (∀ c,(aop E fr bx nm ao.op).new = some c → bget bx nm = some c ∧ nm' = nm + 1) ∧ ((aop E fr bx nm ao.op).new = none → nm' = nm))
section
variable {ao ao2 : AOper} {fr fr1 : Fr} {bx bx1 : Bx} {nx nx1 nm nm' : Nat} {stk stk1 : List SFrame}
theorem step_soft (h : StepA E ao fr bx nx stk fr1 bx1 nx1 stk1) (hs : softA ao.op = true) : stk1 = stk ∧ ∃ v,fr1 = fput fr ao.dst v ∧
  ((skipOp fr ao.guard = some true ∧ v = .tup .nil ∧ bx1 = bx ∧ nx1 = nx) ∨ (skipOp fr ao.guard = some false ∧ (aop E fr bx nx ao.op).pre ∧ v = (aop E fr bx nx ao.op).v ∧ bx1 = addB nx (aop E fr bx nx ao.op).new bx ∧ nx1 = addN nx (aop E fr bx nx ao.op).new)) := by
 cases h with
 | skip h => exact ⟨rfl,_,rfl,.inl ⟨h,rfl,rfl,rfl⟩⟩
 | soft h1 h2 h3 => exact ⟨rfl,_,rfl,.inr ⟨h1,h3,rfl,rfl,rfl⟩⟩
 | store _ h => rw [h] at hs; cases hs
 | storeR _ h => rw [h] at hs; cases hs
 | appN _ h => rw [h] at hs; cases hs
 | appT _ h => rw [h] at hs; cases hs
 | appO _ h => rw [h] at hs; cases hs
 | appM _ h => rw [h] at hs; cases hs
 | msetZ _ h => rw [h] at hs; cases hs
 | calN _ h => rw [h] at hs; cases hs
 | calX _ h => rw [h] at hs; cases hs
 | mset _ h => rw [h] at hs; cases hs
theorem soft_mono (h : StepA E ao fr bx nx stk fr1 bx1 nx1 stk1) (hs : softA ao.op = true) (hnx : bget bx nx = none) : (∀ b c,bget bx b = some c → bget bx1 b = some c) ∧ nx ≤ nx1 ∧ (∀ b : Bn,b ≠ .n nx → bget bx1 b = bget bx b) ∧ (nx1 = nx → bget bx1 nx = none) ∧ (nx1 = nx ∨ nx1 = nx + 1) := by
 obtain ⟨_,v,_,h⟩ := step_soft h hs
 rcases h with ⟨_,_,rfl,rfl⟩ | ⟨_,_,_,rfl,rfl⟩
 ·exact ⟨fun _ _ h => h,Nat.le_refl _,fun _ _ => rfl,fun _ => hnx,.inl rfl⟩
 ·refine ⟨fun b c hb => by rw [bget_addB]; exact extB_some hnx hb,by cases (aop E fr bx nx ao.op).new <;> simp [addN],fun b hb => ?_,fun h => ?_,?_⟩
  ·rw [bget_addB]; cases (aop E fr bx nx ao.op).new <;> simp [extB,hb]
  ·rw [bget_addB]
   cases hn : (aop E fr bx nx ao.op).new with
   | none => exact hnx
   | some c => rw [hn] at h; simp [addN] at h
  ·cases (aop E fr bx nx ao.op).new <;> simp [addN]
theorem good_base (h : StepA E ao fr bx nx stk fr1 bx1 nx1 stk1) (hs : softA ao.op = true) (hnx : bget bx nx = none) (hown : ∀ t,ao.dst = some t → t ∉ rdA ao.op ++ gRd ao.guard) : Good E ao fr1 bx1 nx nx1 := by
 have hmono := (soft_mono h hs hnx).1
 obtain ⟨_,v,rfl,h'⟩ := step_soft h hs
 have hrd : ∀ t ∈ rdA ao.op ++ gRd ao.guard,fget (fput fr ao.dst v) t = fget fr t := by
  intro t ht
  rw [fget_fput,if_neg fun e => hown t e ht]
 have hsk := skip_congr (fr := fput fr ao.dst v) (fr' := fr) (g := ao.guard) fun t ht => hrd t (List.mem_append.2 (.inr ht))
 rcases h' with ⟨h1,rfl,rfl,rfl⟩ | ⟨h1,h2,rfl,rfl,rfl⟩
 ·exact .inl ⟨by rw [hsk]; exact h1,fun t ht => by rw [fget_fput,if_pos ht],rfl⟩
 ·have e1 : aop E (fput fr ao.dst (aop E fr bx nx ao.op).v) (addB nx (aop E fr bx nx ao.op).new bx) nx ao.op = aop E fr bx nx ao.op := by
   rw [aop_congr (fr' := fr) ao.op fun t ht => hrd t (List.mem_append.2 (.inl ht))]
   exact aop_mono hmono ao.op h2
  refine .inr ⟨by rw [hsk]; exact h1,by rw [e1]; exact h2,fun t ht => by rw [e1,fget_fput,if_pos ht],fun c hc => ?_,fun hn => ?_⟩
  ·rw [e1] at hc; rw [hc]; exact ⟨by simp [addB,bget],rfl⟩
  ·rw [e1] at hn; rw [hn]; rfl
theorem good_soft (hg : Good E ao fr bx nm nm') (h : StepA E ao2 fr bx nx stk fr1 bx1 nx1 stk1) (hs : softA ao2.op = true) (hnx : bget bx nx = none) (hrd : ∀ t,ao2.dst = some t → t ∉ rdA ao.op ++ gRd ao.guard ∧ ao.dst ≠ some t) : Good E ao fr1 bx1 nm nm' := by
 have hmono := (soft_mono h hs hnx).1
 obtain ⟨_,v,rfl,_⟩ := step_soft h hs
 have hr : ∀ t ∈ rdA ao.op ++ gRd ao.guard,fget (fput fr ao2.dst v) t = fget fr t := by
  intro t ht
  rw [fget_fput,if_neg fun e => (hrd t e).1 ht]
 have hd : ∀ t,ao.dst = some t → fget (fput fr ao2.dst v) t = fget fr t := by
  intro t ht
  rw [fget_fput,if_neg fun e => (hrd t e).2 ht]
 have hsk := skip_congr (fr := fput fr ao2.dst v) (fr' := fr) (g := ao.guard) fun t ht => hr t (List.mem_append.2 (.inr ht))
 rcases hg with ⟨h1,h2,h3⟩ | ⟨h1,h2,h3,h4,h5⟩
 ·exact .inl ⟨by rw [hsk]; exact h1,fun t ht => by rw [hd t ht]; exact h2 t ht,h3⟩
 ·have e1 : aop E (fput fr ao2.dst v) bx1 nm ao.op = aop E fr bx nm ao.op := by
   rw [aop_congr (fr' := fr) ao.op fun t ht => hr t (List.mem_append.2 (.inl ht))]
   exact aop_mono hmono ao.op h2
  exact .inr ⟨by rw [hsk]; exact h1,by rw [e1]; exact h2,fun t ht => by rw [e1,hd t ht]; exact h3 t ht,fun c hc => by rw [e1] at hc; exact ⟨hmono _ _ (h4 c hc).1,(h4 c hc).2⟩,fun hn => by rw [e1] at hn; exact h5 hn⟩
theorem skip_sub {g : Option (Nat × Bool)} {s : Bool} (h : ∀ t ∈ gRd g,fget fr1 t = fget fr t ∨ ∃ b,fget fr1 t = subV b .und (fget fr t)) (hs : skipOp fr g = some s) : skipOp fr1 g = some s := by
 cases g with
 | none => exact hs
 | some p =>
  obtain ⟨t,b⟩ := p
  rcases h t (by simp [gRd]) with e | ⟨b',e⟩
  ·simp only [skipOp] at hs ⊢; rw [e]; exact hs
  ·simp only [skipOp] at hs ⊢
   rw [e]
   split at hs
   ·rename_i c hc; rw [hc]; exact hs
   ·rename_i hc; rw [hc]; exact hs
   ·cases hs
theorem rowsOk_pure {k len : Nat} : ∀ {l : List (Nat × Opd)},rowsOk E fr k len l → ∀ t ∈ l.flatMap (fun p => rdO p.2),pureB (fget fr t) = true := by
 intro l; induction l with
 | nil => intro _ t ht; simp at ht
 | cons x l ih =>
  obtain ⟨off,x⟩ := x
  intro h t ht
  simp only [rowsOk] at h
  simp only [List.flatMap_cons,List.mem_append] at ht
  rcases ht with ht | ht
  ·cases x with
   | t m => simp [rdO] at ht; subst ht; exact h.2.1
   | c v => simp [rdO] at ht
   | g m => simp [rdO] at ht
  ·exact ih h.2.2.2.2 t ht
theorem good_eff (hg : Good E ao fr bx nm nm') (hs : softA ao.op = true) (hF : ∀ t,ao2.dst ≠ some t → fget fr1 t = fget fr t ∨ ∃ b : Bn,(mkB ao.op = true → nm' ≠ nm → b ≠ .n nm) ∧ fget fr1 t = subV b .und (fget fr t)) (hB : mkB ao.op = true → nm' ≠ nm → bget bx1 nm = bget bx nm ∨ ∃ b,bget bx1 nm = (bget bx nm).map (subBox b .und))
  (hrd : ∀ t,ao2.dst = some t → t ∉ rdA ao.op ++ gRd ao.guard ∧ ao.dst ≠ some t) (hmk : mkB ao.op = true → lateB ao.op = true)
  (hre : mkB ao.op = false → match skipOp fr1 ao.guard with
   | some true => True
   | some false => (aop E fr1 bx1 0 ao.op).pre ∧ dstV fr1 ao.dst (aop E fr1 bx1 0 ao.op).v
   | none => False) : Good E ao fr1 bx1 nm nm' := by
 have hg2 : ∀ t ∈ gRd ao.guard,fget fr1 t = fget fr t ∨ ∃ b,fget fr1 t = subV b .und (fget fr t) := by
  intro t ht
  rcases hF t (fun e => (hrd t e).1 (List.mem_append.2 (.inr ht))) with e | ⟨b,_,e⟩
  ·exact .inl e
  ·exact .inr ⟨b,e⟩
 have hd2 : ∀ t,ao.dst = some t → fget fr1 t = fget fr t ∨ ∃ b : Bn,(mkB ao.op = true → nm' ≠ nm → b ≠ .n nm) ∧ fget fr1 t = subV b .und (fget fr t) := fun t ht => hF t (fun e => (hrd t e).2 ht)
 rcases hg with ⟨h1,h2,h3⟩ | ⟨h1,h2,h3,h4,h5⟩
 ·refine .inl ⟨skip_sub hg2 h1,fun t ht => ?_,h3⟩
  rcases hd2 t ht with e | ⟨b,_,e⟩
  ·rw [e]; exact h2 t ht
  ·rw [e,h2 t ht]; rfl
 ·have hsk := skip_sub hg2 h1
  cases hb : mkB ao.op with
  | false =>
   have hre := hre hb
   rw [hsk] at hre
   simp only at hre
   have hn0 : (aop E fr1 bx1 0 ao.op).new = none := by
    cases hn : (aop E fr1 bx1 0 ao.op).new with
    | none => rfl
    | some c => have := (aop_mk ao.op hre.1).1 ⟨c,hn⟩; rw [hb] at this; cases this
   have hn1 : (aop E fr bx nm ao.op).new = none := by
    cases hn : (aop E fr bx nm ao.op).new with
    | none => rfl
    | some c => have := (aop_mk ao.op h2).1 ⟨c,hn⟩; rw [hb] at this; cases this
   have e1 : aop E fr1 bx1 nm ao.op = aop E fr1 bx1 0 ao.op := aop_nx ao.op hn0
   refine .inr ⟨hsk,by rw [e1]; exact hre.1,fun t ht => ?_,fun c hc => (by rw [e1,hn0] at hc; cases hc),fun _ => h5 hn1⟩
   have := hre.2
   rw [ht] at this
   rw [e1]; exact this.symm
  | true =>
   obtain ⟨c,hc⟩ := (aop_mk ao.op h2).2 hb
   obtain ⟨h6,h7⟩ := h4 c hc
   have hne : nm' ≠ nm := by omega
   have hmk := hmk hb
   -- what it reads stays
   have hr : ∀ t ∈ rdA ao.op,fget fr1 t = fget fr t := by
    intro t ht
    have key : pureB (fget fr t) = true → fget fr1 t = fget fr t := by
     intro hp
     rcases hF t (fun e => (hrd t e).1 (List.mem_append.2 (.inl ht))) with e | ⟨b,_,e⟩
     ·exact e
     ·rw [e,subV_pure _ _ _ hp]
    cases hop : ao.op <;> rw [hop] at hb ht h2 hmk <;> simp only [mkB] at hb <;> simp only [rdA,List.mem_append,List.not_mem_nil] at ht <;> first
     | (cases hb; done)
     | exact ht.elim
     | skip
    case box n x => simp [lateB] at hmk
    case bsl e k len z parts =>
     cases hN : E.N e with
     | false => simp only [aop,hN] at h2; exact key (rowsOk_pure h2.2.2.2.2.2 t ht)
     | true => simp only [aop,hN] at h2; simp [lateB,h2.2.2.2.2.2.2] at hmk
    case mks e k bytes z n c =>
     refine key ?_
     simp only [aop] at h2
     split at h2
     ·rename_i k1 a1 k2 b1 e1 e2
      rcases ht with ht | ht
      ·cases n with
       | t m => simp [rdO] at ht; subst ht; simp only [ev] at e1; rw [e1]; rfl
       | c v => simp [rdO] at ht
       | g m => simp [rdO] at ht
      ·cases c with
       | t m => simp [rdO] at ht; subst ht; simp only [ev] at e2; rw [e2]; rfl
       | c v => simp [rdO] at ht
       | g m => simp [rdO] at ht
     ·exact h2.elim
   have e1 : aop E fr1 bx1 nm ao.op = aop E fr bx nm ao.op := by
    rw [aop_congr (fr' := fr) ao.op hr]
    cases hop : ao.op <;> rw [hop] at hb <;> simp only [mkB] at hb <;> first
     | (cases hb; done)
     | rfl
   have hv : ∀ b : Bn,b ≠ .n nm → subV b .und (aop E fr bx nm ao.op).v = (aop E fr bx nm ao.op).v := by
    intro b hbn
    have hbn' : ¬ Bn.n nm = b := fun e => hbn e.symm
    cases hop : ao.op <;> rw [hop] at hb hc h2 <;> simp only [mkB] at hb <;> first
     | (cases hb; done)
     | (simp only [aop,subV]; rw [if_neg hbn']; done)
     | skip
    case bsl e k len z parts => cases hN : E.N e <;> (simp only [aop,hN,subV]; rw [if_neg hbn'])
    case mks e k bytes z n c =>
     simp only [aop] at h2 ⊢
     split at h2
     ·simp only [subV]; rw [if_neg hbn']
     ·exact h2.elim
   have hcb : ∀ b,subBox b .und c = c := by
    intro b
    cases hop : ao.op <;> rw [hop] at hb hc h2 hmk <;> simp only [mkB] at hb <;> first
     | (cases hb; done)
     | skip
    case alloc z => simp only [aop,Option.some.injEq] at hc; subst hc; simp only [subBox]; rw [subV_pure _ _ _ (by simpa [lateB] using hmk)]
    case box n x => simp [lateB] at hmk
    case bsl e k len z parts =>
     cases hN : E.N e with
     | false => simp only [aop,hN,Option.some.injEq] at hc; subst hc; rfl
     | true => simp only [aop,hN] at h2; simp [lateB,h2.2.2.2.2.2.2] at hmk
    case mks e k bytes z n c' =>
     simp only [aop] at h2 hc
     split at h2
     ·rename_i q1 q2 q3 q4 q5 q6
      simp only [q5,q6,Option.some.injEq] at hc; subst hc; rfl
     ·exact h2.elim
    case mkm kd => simp only [aop,Option.some.injEq] at hc; subst hc; rfl
   refine .inr ⟨hsk,by rw [e1]; exact h2,fun t ht => ?_,fun c' hc' => ?_,fun hn => (by rw [e1,hc] at hn; cases hn)⟩
   ·rw [e1]
    rcases hd2 t ht with e | ⟨b,hbn,e⟩
    ·rw [e]; exact h3 t ht
    ·rw [e,h3 t ht]; exact hv b (hbn hb hne)
   ·rw [e1,hc] at hc'
    cases hc'
    refine ⟨?_,h7⟩
    rcases hB hb hne with e | ⟨b,e⟩
    ·rw [e]; exact h6
    ·rw [e,h6]; simp only [Option.map_some,hcb]
end
end Go.Proofs.Ytlieoghhkioflaa
/- The engine,part 20d: a region whose order is drawn. No condition. -/
namespace Go.Proofs.Ytlieoghhkioflaa
open Go Go.RowKit
variable {P : Program} {E : Env} {A0 : Nat → Prop} {w0 : Base} {Qf : Val → Bx → Prop}
def Msk (D : Nat → Prop) (fr fr' : Fr) : Prop := ∀ t,(D t → fget fr' t = .und) ∧ (¬ D t → fget fr' t = fget fr t)
def MskB (N : Bn → Prop) (bx bx' : Bx) : Prop := ∀ b,(N b → bget bx' b = none) ∧ (¬ N b → bget bx' b = bget bx b)
theorem Msk.put {D : Nat → Prop} {fr fr' : Fr} (h : Msk D fr fr') (d : Option Nat) (hd : ∀ t,d = some t → ¬ D t) (v : Val) : Msk D (fput fr d v) (fput fr' d v) := by
 intro t
 refine ⟨fun ht => ?_,fun ht => ?_⟩
 ·rw [fget_fput,if_neg (fun e => hd t e ht)]; exact (h t).1 ht
 ·rw [fget_fput,fget_fput,(h t).2 ht]
theorem Msk.sub {D : Nat → Prop} {fr fr' : Fr} (h : Msk D fr fr') (b : Bn) : Msk D (subFr b .und fr) (subFr b .und fr') := by
 intro t
 rw [fget_sub',fget_sub']
 exact ⟨fun ht => by rw [(h t).1 ht]; rfl,fun ht => by rw [(h t).2 ht]⟩
theorem MskB.set {N : Bn → Prop} {bx bx' : Bx} (h : MskB N bx bx') {b : Bn} (hb : ¬ N b) (c : Box) : MskB N (bset bx b c) (bset bx' b c) := by
 intro y
 rw [bget_bset,bget_bset]
 refine ⟨fun hy => ?_,fun hy => ?_⟩
 ·rw [if_neg (fun e : y = b => hb (e ▸ hy))]; exact (h y).1 hy
 ·rw [(h y).2 hy]
theorem MskB.sub {N : Bn → Prop} {bx bx' : Bx} (h : MskB N bx bx') (b : Bn) : MskB N (subBx b .und bx) (subBx b .und bx') := by
 intro y
 rw [bget_subBx,bget_subBx]
 exact ⟨fun hy => by rw [(h y).1 hy]; rfl,fun hy => by rw [(h y).2 hy]⟩
theorem MskB.ofSome {N : Bn → Prop} {bx bx' : Bx} (h : MskB N bx bx') {b : Bn} {c : Box} (hb : bget bx' b = some c) : ¬ N b ∧ bget bx b = some c := by
 have hn : ¬ N b := fun hn => by rw [(h b).1 hn] at hb; cases hb
 exact ⟨hn,by rw [← (h b).2 hn]; exact hb⟩
theorem elems_msk {β : Bn → Loc} {w : World} {N : Bn → Prop} {bx mb : Bx} {v : Val} {x : Value} {r : Option Nat × Nat × (Nat → Nat → Val)} (h : MskB N bx mb) (hr : RepM A0 w0 β (bget mb) w v x) (he : elemsV bx v = some r) : elemsV mb v = some r := by
 cases v <;> simp only [elemsV] at he ⊢ <;> first | exact he | skip
 ·rename_i b
  obtain ⟨⟨e,k,n,hrb⟩,_⟩ := hr
  rcases hrb.cases with ⟨c,hb⟩ | ⟨c,hb⟩
  all_goals
   rw [(h.ofSome hb).2] at he
   rw [hb]; exact he
 ·rename_i b off n
  obtain ⟨e,k,m,hrb,_⟩ := hr
  rcases hrb.cases with ⟨c,hb⟩ | ⟨c,hb⟩
  all_goals
   rw [(h.ofSome hb).2] at he
   rw [hb]; exact he
theorem cArgs_ev {fr fr' : Fr} : ∀ {l : List Operand} {ts : List TypeId} {r : List (List Sh × Opd)},cArgs P l ts = some r → (∀ q x,q ∈ l → cOpd q = some x → ev E fr x = ev E fr' x) → argsL E fr r = argsL E fr' r := by
 intro l; induction l with
 | nil => intro ts r h _; simp [cArgs] at h; subst h; rfl
 | cons q l ih =>
  intro ts r h hx
  simp only [cArgs] at h
  split at h
  ·rename_i ox r' h1 h2
   simp at h; subst h
   simp only [argsL]
   rw [hx q ox (by simp) h1,ih h2 fun q' x hq => hx q' x (by simp [hq])]
  ·cases h
theorem snap_msk {β : Bn → Loc} {w : World} {bx mb ml : Bx} {n' : Nat} (hm : Mem P A0 w0 β (bget mb) n' w) (h : ∀ b c,bget mb b = some c → bget ml b = bget bx b) (h2 : ∀ b c,bget ml b = some c → bget mb b = some c) : ∀ (d : Nat) (v : Val) (x : Value),RepM A0 w0 β (bget mb) w v x → snapV ml d v = snapV bx d v ∧ snapOk ml d v = snapOk bx d v := by
 intro d
 induction d with
 | zero =>
  intro v x _
  refine ⟨?_,by simp only [snapOk]⟩
  have : ∀ v,snapV ml 0 v = snapV bx 0 v := by
   intro v; induction v with
   | cons a t ih1 ih2 => simp only [snapV,ih1,ih2]
   | agg l ih => simp only [snapV,ih]
   | tup l ih => simp only [snapV,ih]
   | func fn l ih => simp only [snapV,ih]
   | _ => simp only [snapV]
  exact this v
 | succ d ihd =>
  have at' : ∀ b c,bget mb b = some c → (bget ml b = none ∧ bget bx b = none) ∨ (bget ml b = some c ∧ bget bx b = some c) := by
   intro b c hb
   have e := h b c hb
   cases hq : bget ml b with
   | none => exact .inl ⟨rfl,by rw [← e,hq]⟩
   | some c' => have := h2 b c' hq; rw [hb] at this; cases this; exact .inr ⟨rfl,by rw [← e,hq]⟩
  intro v; induction v with
  | cons a t ih1 ih2 =>
   rintro x ⟨y,ys,rfl,h1,h2⟩
   obtain ⟨e1,e2⟩ := ih1 y h1
   obtain ⟨e3,e4⟩ := ih2 _ h2
   exact ⟨by simp only [snapV,e1,e3],by simp only [snapOk,e2,e4]⟩
  | agg l ih => rintro x ⟨ys,rfl,h⟩; obtain ⟨e1,e2⟩ := ih _ h; exact ⟨by simp only [snapV,e1],by simp only [snapOk,e2]⟩
  | tup l ih => rintro x ⟨ys,rfl,h⟩; obtain ⟨e1,e2⟩ := ih _ h; exact ⟨by simp only [snapV,e1],by simp only [snapOk,e2]⟩
  | func fn l ih => rintro x ⟨ys,rfl,h⟩; obtain ⟨e1,e2⟩ := ih _ h; exact ⟨by simp only [snapV,e1],by simp only [snapOk,e2]⟩
  | own b =>
   rintro x ⟨⟨e,k,n,hrb⟩,_⟩
   rcases hrb.cases with ⟨c,hb0⟩ | ⟨c,hb0⟩
   ·rcases at' b _ hb0 with ⟨hb,hb'⟩ | ⟨hb,hb'⟩ <;> exact ⟨by simp only [snapV,hb,hb'],by simp only [snapOk,hb,hb']⟩
   ·rcases at' b _ hb0 with ⟨hb,hb'⟩ | ⟨hb,hb'⟩
    ·exact ⟨by simp only [snapV,hb,hb'],by simp only [snapOk,hb,hb']⟩
    obtain ⟨_,_,_,xs,_,hc⟩ := hm.bx b _ hb0
    have key : ∀ i,i < n → ∀ j,j < k → snapV ml d (c i j) = snapV bx d (c i j) ∧ snapOk ml d (c i j) = snapOk bx d (c i j) := fun i hi j hj => by
     obtain ⟨y,_,_,hr⟩ := hc i hi j hj
     exact ihd _ _ hr
    refine ⟨?_,?_⟩
    ·simp only [snapV,hb,hb']
     congr 1
     funext i j
     cases hij : decide (i < n ∧ j < k) with
     | false => rfl
     | true => have := of_decide_eq_true hij; exact (key i this.1 j this.2).1
    ·simp only [snapOk,hb,hb']
     have hdec : ∀ p q : Prop,p = q → @decide p (Classical.propDecidable p) = @decide q (Classical.propDecidable q) := by rintro p _ rfl; rfl
     exact hdec _ _ (propext ⟨fun h i hi j hj => by rw [← (key i hi j hj).2]; exact h i hi j hj,fun h i hi j hj => by rw [(key i hi j hj).2]; exact h i hi j hj⟩)
  | rptr b i off =>
   rintro x ⟨e,k,n,hrb,_⟩
   rcases hrb.cases with ⟨c,hb0⟩ | ⟨c,hb0⟩
   all_goals rcases at' b _ hb0 with ⟨hb,hb'⟩ | ⟨hb,hb'⟩ <;> exact ⟨by simp only [snapV,hb,hb'],by simp only [snapOk,hb,hb']⟩
  | osl b off m =>
   rintro x ⟨e,k,n,hrb,_⟩
   rcases hrb.cases with ⟨c,hb0⟩ | ⟨c,hb0⟩
   all_goals rcases at' b _ hb0 with ⟨hb,hb'⟩ | ⟨hb,hb'⟩ <;> exact ⟨by simp only [snapV,hb,hb'],by simp only [snapOk,hb,hb']⟩
  | ptr b off =>
   rintro x ⟨⟨l0,hb0,hp⟩,_⟩
   rcases at' b _ hb0 with ⟨hb,hb'⟩ | ⟨hb,hb'⟩
   ·exact ⟨by simp only [snapV,hb,hb'],by simp only [snapOk,hb,hb']⟩
   cases l0 with
   | cells l =>
    obtain ⟨_,g',ys,t',h2,h3,h4⟩ := hm.bx b _ hb0
    obtain ⟨e1,e2⟩ := ihd l _ h4
    exact ⟨by simp only [snapV,hb,hb',e1],by simp only [snapOk,hb,hb',e2]⟩
   | it => exact ⟨by simp only [snapV,hb,hb'],by simp only [snapOk,hb,hb']⟩
   | wc => exact ⟨by simp only [snapV,hb,hb'],by simp only [snapOk,hb,hb']⟩
   | _ => simp [ptrB] at hp
  | mapb b =>
   rintro x ⟨⟨kd,hmb⟩,_⟩
   rcases hmb.cases with ⟨has,f,hb0⟩ | ⟨f,hb0⟩
   case inr => rcases at' b _ hb0 with ⟨hb,hb'⟩ | ⟨hb,hb'⟩ <;> exact ⟨by simp only [snapV,hb,hb'],by simp only [snapOk,hb,hb']⟩
   rcases at' b _ hb0 with ⟨hb,hb'⟩ | ⟨hb,hb'⟩
   ·exact ⟨by simp only [snapV,hb,hb'],by simp only [snapOk,hb,hb']⟩
   obtain ⟨g',m,h1,h2,h3⟩ := hm.bx b _ hb0
   have key : ∀ k,has k = true → snapV ml d (f k) = snapV bx d (f k) ∧ snapOk ml d (f k) = snapOk bx d (f k) := fun k hk => by
    obtain ⟨y,hy,hr⟩ := (h3 k).2 hk
    exact ihd _ _ hr
   refine ⟨?_,?_⟩
   ·simp only [snapV,hb,hb']
    congr 1
    funext k
    cases hk : has k with
    | false => rfl
    | true => exact (key k hk).1
   ·simp only [snapOk,hb,hb']
    have hdec : ∀ p q : Prop,p = q → @decide p (Classical.propDecidable p) = @decide q (Classical.propDecidable q) := by rintro p _ rfl; rfl
    exact hdec _ _ (propext ⟨fun h k hk => by rw [← (key k hk).2]; exact h k hk,fun h k hk => by rw [(key k hk).2]; exact h k hk⟩)
  | _ => intro x _; exact ⟨by simp only [snapV],by simp only [snapOk]⟩
theorem snapL_msk {β : Bn → Loc} {w : World} {bx mb ml : Bx} {n' : Nat} (hm : Mem P A0 w0 β (bget mb) n' w) (h : ∀ b c,bget mb b = some c → bget ml b = bget bx b) (h2 : ∀ b c,bget ml b = some c → bget mb b = some c) : ∀ (l : List Val) (x : Value),RepM A0 w0 β (bget mb) w (vl l) x → snapL ml l = snapL bx l ∧ snapOks ml l = snapOks bx l := by
 intro l; induction l with
 | nil => intro x _; exact ⟨rfl,rfl⟩
 | cons v l ih =>
  rintro x ⟨y,ys,rfl,h1,h3⟩
  obtain ⟨e1,e2⟩ := snap_msk hm h h2 40 v y h1
  obtain ⟨e3,e4⟩ := ih _ h3
  exact ⟨by simp only [snapL,e1,e3],by simp only [snapOks,e2,e4]⟩
theorem specV_msk {β : Bn → Loc} {w : World} {N : Bn → Prop} {bx mb : Bx} {n' : Nat} (hm : Mem P A0 w0 β (bget mb) n' w) (h : MskB N bx mb) {s : Spec} {args : List (List Sh × Opd)} {vs : List Val} {x : Value} (hr : RepM A0 w0 β (bget mb) w (vl vs) x) : specV mb s args vs = specV bx s args vs := by
 obtain ⟨e1,e2⟩ := snapL_msk hm (fun b c hb => by rw [(h.ofSome hb).2,hb]) (fun _ _ hb => hb) vs x hr
 simp only [specV,e1,e2]
section
variable {n : Nat} {ro : Option Nat} {ops : Array Oper} {nt : Nat} {o : Oper} {ao ao0 : AOper} {stk stk1 : List SFrame} {fr fr1 mf : Fr} {bx bx1 mb : Bx} {nx nx1 : Nat} {Q : Exit → Act → World → Prop} {knext : Act → World → Prop} {a : Act} {w : World} {β : Bn → Loc} {as : List Act}
 {sk : List (Option Nat × List Item × List ARes × Nat)} {D : Nat → Prop} {N : Bn → Prop}
theorem cOpd_look {q : Operand} {x : Opd} (h : cOpd q = some x) : ∀ t ∈ rdO x,q = .tmp t := by
 cases q <;> simp [cOpd] at h
 ·subst h; intro t ht; simp [rdO] at ht; rw [ht]
 ·obtain ⟨u,_,rfl⟩ := h; intro t ht; simp [rdO] at ht
 ·subst h; intro t ht; simp [rdO] at ht
 ·subst h; intro t ht; simp [rdO] at ht
def EffAct (ao : AOper) (mb : Bx) (N : Bn → Prop) (fr : Fr) (bx : Bx) (fr1 : Fr) (bx1 : Bx) : Prop :=
 (∀ t,ao.dst ≠ some t → fget fr1 t = fget fr t ∨ ∃ b,(∃ c,bget mb b = some c) ∧ fget fr1 t = subV b .und (fget fr t)) ∧
 ∀ nm,N nm → bget bx1 nm = bget bx nm ∨ ∃ b,bget bx1 nm = (bget bx nm).map (subBox b .und)
theorem eff_wp (he : EnvOk P E A0 w0) (hc : cOper P ops.toList nt o = some ao0) (hop0 : ao.op = ao0.op) (hd0 : ao.dst = ao0.dst) (hsz : nt ≤ a.tmps.size) (hrel : Rel P A0 w0 β stk as mf mb nx a w) (hsk : skel stk = sk) (hM : Msk D fr mf) (hMB : MskB N bx mb) (hlook : ∀ t ∈ looks o,¬ D t) (hdst : ∀ t,o.dst = some t → ¬ D t) (hN : ¬ N nx)
  (hst : StepA E ao fr bx nx stk fr1 bx1 nx1 stk1) (hskip : skipOp fr ao.guard = some false) (heff : softA ao.op = false)
  (hnext : ∀ β1 a1 w1 mf1 mb1,nt ≤ a1.tmps.size → Rel P A0 w0 β1 stk1 as mf1 mb1 nx1 a1 w1 → Msk D fr1 mf1 → MskB N bx1 mb1 → EffAct ao mb N fr bx fr1 bx1 → reOk E fr1 bx1 ao.re → skel stk1 = sk → knext a1 w1) : o.wpIn (FW ro) 0 P a w knext Q := by
 obtain ⟨h1,h2,h3,h4⟩ := cOper_spec hc
 have hdd : ∀ t,ao.dst = some t → ¬ D t := fun t ht => hdst t (by rw [← h3,← hd0]; exact ht)
 have hev : ∀ {q : Operand} {x : Opd},cOpd q = some x → q ∈ o.op.operands.toList → ev E mf x = ev E fr x := by
  intro q x hq hin
  refine ev_congr fun t ht => (hM t).2 (hlook t ?_)
  have := cOpd_look hq t ht
  subst this
  simp only [looks,List.mem_filterMap]
  exact ⟨.tmp t,hin,rfl⟩
 have hrep : ∀ {q : Operand} {x : Opd},cOpd q = some x → q ∈ o.op.operands.toList → RepM A0 w0 β (bget mb) w (ev E fr x) (a.eval q) := by
  intro q x hq hin
  rw [← hev hq hin]
  exact ev_rep he hrel.mem (fun t _ => hrel.fr t) x hq
 cases hst with
 | skip h => rw [hskip] at h; cases h
 | soft _ h _ => rw [heff] at h; cases h
 | @store m ad x b off c _ hop hv hb q1 q2 q3 q4 =>
  rw [hop0] at hop
  rw [hop] at h1
  obtain ⟨t,xa,xx,ho,p1,p2,p3⟩ := store_inv h1
  have i1 : xa ∈ o.op.operands.toList := by rw [ho]; simp [Op.operands]
  have i2 : xx ∈ o.op.operands.toList := by rw [ho]; simp [Op.operands]
  have hr := hrep p2 i1
  rw [hv] at hr
  obtain ⟨⟨l,hl,_⟩,_⟩ := hr
  obtain ⟨hnb,hl'⟩ := hMB.ofSome hl
  rw [hb] at hl'; cases hl'
  have hk : GoesR P A0 w0 nt as sk (fun stk' fr' bx' nx' => stk' = stk ∧ nx' = nx ∧ Msk D (fput fr ao0.dst .und) fr' ∧ MskB N (bset bx b (.cells (vsets c off (cellsOf (ev E fr x))))) bx') knext := by
   rintro β1 stk' fr' bx' nx' a1 w1 hsz1 hr1 hsk1 ⟨rfl,rfl,m1,m2⟩
   rw [hd0] at hnext q4
   refine hnext β1 a1 w1 fr' bx' hsz1 hr1 m1 m2 ⟨fun t ht => .inl (by rw [fget_fput,if_neg (by rw [← hd0]; exact ht)]),fun nm hnm => .inl (by rw [bget_bset,if_neg (fun e : nm = b => hnb (e ▸ hnm))])⟩ q4 hsk1
  refine store_step he hc hsz hrel hsk hk hop ?_
  rw [hev p2 i1,hev p3 i2,hv]
  simp only [hl]
  exact ⟨q1,q2,q3,(by first | rfl | trivial),(by first | rfl | trivial),hM.put _ (by rw [← hd0]; exact hdd) _,hMB.set hnb _⟩
 | @storeR m ad x b i off e k m' c _ hop hv hb q1 q2 q3 q4 q5 =>
  rw [hop0] at hop
  rw [hop] at h1
  obtain ⟨t,xa,xx,ho,p1,p2,p3⟩ := store_inv h1
  have i1 : xa ∈ o.op.operands.toList := by rw [ho]; simp [Op.operands]
  have i2 : xx ∈ o.op.operands.toList := by rw [ho]; simp [Op.operands]
  have hr := hrep p2 i1
  rw [hv] at hr
  obtain ⟨e',k',n',⟨cl,hl,_⟩,_⟩ := hr
  obtain ⟨hnb,hl'⟩ := hMB.ofSome hl
  rw [hb] at hl'; cases hl'
  have hk : GoesR P A0 w0 nt as sk (fun stk' fr' bx' nx' => stk' = stk ∧ nx' = nx ∧ Msk D (fput fr ao0.dst .und) fr' ∧ MskB N (bset bx b (.row e k m' fun i' j' => if i' = i ∧ off ≤ j' ∧ j' < off + m then vget (cellsOf (ev E fr x)) (j' - off) else c i' j')) bx') knext := by
   rintro β1 stk' fr' bx' nx' a1 w1 hsz1 hr1 hsk1 ⟨rfl,rfl,m1,m2⟩
   rw [hd0] at hnext q5
   refine hnext β1 a1 w1 fr' bx' hsz1 hr1 m1 m2 ⟨fun t ht => .inl (by rw [fget_fput,if_neg (by rw [← hd0]; exact ht)]),fun nm hnm => .inl (by rw [bget_bset,if_neg (fun e : nm = b => hnb (e ▸ hnm))])⟩ q5 hsk1
  refine store_step he hc hsz hrel hsk hk hop ?_
  rw [hev p2 i1,hev p3 i2,hv]
  simp only [hl]
  exact ⟨q1,q2,q3,q4,(by first | rfl | trivial),(by first | rfl | trivial),hM.put _ (by rw [← hd0]; exact hdd) _,hMB.set hnb _⟩
 | @appN e k bytes x y k' m c' _ hop hNe hel q1 q2 hv q3 q4 q5 =>
  rw [hop0] at hop
  rw [hop] at h1
  obtain ⟨cl,xa,xb,t,z,i,ho,hcal,hargs,hat,hu,hz,hi,hby,p1,p2⟩ := app_inv h1
  have i1 : xa ∈ o.op.operands.toList := by rw [ho]; simp [Op.operands,Call.operands,hcal]; rw [← Array.mem_toList_iff,hargs]; simp
  have i2 : xb ∈ o.op.operands.toList := by rw [ho]; simp [Op.operands,Call.operands,hcal]; rw [← Array.mem_toList_iff,hargs]; simp
  have hel' : elemsV mb (ev E fr y) = some (k',m,c') := elems_msk hMB (hrep p2 i2) hel
  have hk : GoesR P A0 w0 nt as sk (fun stk' fr' bx' nx' => stk' = stk ∧ nx' = nx + 1 ∧ Msk D (fput fr ao0.dst (.own nx)) fr' ∧ MskB N ((nx,.one (.row e k m c')) :: bx) bx') knext := by
   rintro β1 stk' fr' bx' nx' a1 w1 hsz1 hr1 hsk1 ⟨rfl,rfl,m1,m2⟩
   rw [hd0] at hnext q5
   refine hnext β1 a1 w1 fr' bx' hsz1 hr1 m1 m2 ⟨fun t ht => .inl (by rw [fget_fput,if_neg (by rw [← hd0]; exact ht)]),fun nm hnm => .inl (by rw [bget_one,if_neg (fun e : nm = .n nx => hN (e ▸ hnm))])⟩ q5 hsk1
  refine app_step he hc hsz hrel hsk hk hop ?_
  rw [hev p1 i1,hev p2 i2,hel',hv]
  refine ⟨q1,q2,q3,q4,rfl,rfl,hM.put _ (by rw [← hd0]; exact hdd) _,fun b => ⟨fun hb => ?_,fun hb => ?_⟩⟩
  ·rw [bget_one,if_neg (fun e : b = .n nx => hN (e ▸ hb))]; exact (hMB b).1 hb
  ·rw [bget_one,bget_one,(hMB b).2 hb]
 | @appT e k bytes x y k' m c' n' c _ hop hNe hel q1 q2 hv q6 q3 q4 q5 =>
  rw [hop0] at hop
  rw [hop] at h1
  obtain ⟨cl,xa,xb,t,z,i,ho,hcal,hargs,hat,hu,hz,hi,hby,p1,p2⟩ := app_inv h1
  have i1 : xa ∈ o.op.operands.toList := by rw [ho]; simp [Op.operands,Call.operands,hcal]; rw [← Array.mem_toList_iff,hargs]; simp
  have i2 : xb ∈ o.op.operands.toList := by rw [ho]; simp [Op.operands,Call.operands,hcal]; rw [← Array.mem_toList_iff,hargs]; simp
  have hel' : elemsV mb (ev E fr y) = some (k',m,c') := elems_msk hMB (hrep p2 i2) hel
  have hk : GoesR P A0 w0 nt as sk (fun stk' fr' bx' nx' => stk' = stk ∧ nx' = nx + 1 ∧ Msk D (fput fr ao0.dst (.own nx)) fr' ∧ MskB N ((nx,.one (.row e k (n' + m) fun i j => if i < n' then c i j else c' (i - n') j)) :: bx) bx') knext := by
   rintro β1 stk' fr' bx' nx' a1 w1 hsz1 hr1 hsk1 ⟨rfl,rfl,m1,m2⟩
   rw [hd0] at hnext q5
   refine hnext β1 a1 w1 fr' bx' hsz1 hr1 m1 m2 ⟨fun t ht => .inl (by rw [fget_fput,if_neg (by rw [← hd0]; exact ht)]),fun nm hnm => .inl (by rw [bget_one,if_neg (fun e : nm = .n nx => hN (e ▸ hnm))])⟩ q5 hsk1
  refine app_step he hc hsz hrel hsk hk hop ?_
  rw [hev p1 i1,hev p2 i2,hel',hv]
  refine ⟨q1,q2,rfl,q6,q3,q4,rfl,rfl,hM.put _ (by rw [← hd0]; exact hdd) _,fun b => ⟨fun hb => ?_,fun hb => ?_⟩⟩
  ·rw [bget_one,if_neg (fun e : b = .n nx => hN (e ▸ hb))]; exact (hMB b).1 hb
  ·rw [bget_one,bget_one,(hMB b).2 hb]
 | @appO e k bytes x y k' m c' b n' c _ hop hNe hel q1 q2 hv hb q3 q4 q5 =>
  rw [hop0] at hop
  rw [hop] at h1
  obtain ⟨cl,xa,xb,t,z,i,ho,hcal,hargs,hat,hu,hz,hi,hby,p1,p2⟩ := app_inv h1
  have i1 : xa ∈ o.op.operands.toList := by rw [ho]; simp [Op.operands,Call.operands,hcal]; rw [← Array.mem_toList_iff,hargs]; simp
  have i2 : xb ∈ o.op.operands.toList := by rw [ho]; simp [Op.operands,Call.operands,hcal]; rw [← Array.mem_toList_iff,hargs]; simp
  have hel' : elemsV mb (ev E fr y) = some (k',m,c') := elems_msk hMB (hrep p2 i2) hel
  have hr := hrep p1 i1
  rw [hv] at hr
  obtain ⟨⟨e1,k1,n1,cl1,hl,_⟩,_⟩ := hr
  obtain ⟨hnb,hl'⟩ := hMB.ofSome hl
  rw [hb] at hl'; cases hl'
  have hk : GoesR P A0 w0 nt as sk (fun stk' fr' bx' nx' => stk' = subStk b .und stk ∧ nx' = nx ∧ Msk D (fput (subFr b .und fr) ao0.dst (.own b)) fr' ∧ MskB N (bset (subBx b .und bx) b (.row e k (n' + m) fun i j => if i < n' then c i j else c' (i - n') j)) bx') knext := by
   rintro β1 stk' fr' bx' nx' a1 w1 hsz1 hr1 hsk1 ⟨rfl,rfl,m1,m2⟩
   rw [hd0] at hnext q5
   refine hnext β1 a1 w1 fr' bx' hsz1 hr1 m1 m2 ⟨fun t ht => .inr ⟨b,⟨_,hl⟩,by rw [fget_fput,if_neg (by rw [← hd0]; exact ht),fget_sub']⟩,fun nm hnm => .inr ⟨b,by rw [bget_bset,if_neg (fun e : nm = b => hnb (e ▸ hnm)),bget_subBx]⟩⟩ q5 hsk1
  refine app_step he hc hsz hrel hsk hk hop ?_
  rw [hev p1 i1,hev p2 i2,hel',hv]
  simp only [hl]
  exact ⟨q1,q2,(by first | rfl | trivial),(by first | rfl | trivial),q3,q4,(by first | rfl | trivial),(by first | rfl | trivial),(hM.sub b).put _ (by rw [← hd0]; exact hdd) _,(hMB.sub b).set hnb _⟩
 | @appM e k bytes x y b' e'' m c' b n' c _ hop hNe hy hb' hv hb q3 q4 q5 =>
  rw [hop0] at hop
  rw [hop] at h1
  obtain ⟨cl,xa,xb,t,z,i,ho,hcal,hargs,hat,hu,hz,hi,hby,p1,p2⟩ := app_inv h1
  have i1 : xa ∈ o.op.operands.toList := by rw [ho]; simp [Op.operands,Call.operands,hcal]; rw [← Array.mem_toList_iff,hargs]; simp
  have i2 : xb ∈ o.op.operands.toList := by rw [ho]; simp [Op.operands,Call.operands,hcal]; rw [← Array.mem_toList_iff,hargs]; simp
  have hr := hrep p1 i1
  rw [hv] at hr
  obtain ⟨⟨e1,k1,n1,cl1,hl,_⟩,_⟩ := hr
  obtain ⟨hnb,hl'⟩ := hMB.ofSome hl
  rw [hb] at hl'; cases hl'
  have hr2 := hrep p2 i2
  rw [hy] at hr2
  obtain ⟨⟨e2,k2,n2,cl2,hl2,_⟩,_⟩ := hr2
  obtain ⟨hnb2,hl2'⟩ := hMB.ofSome hl2
  rw [hb'] at hl2'; cases hl2'
  have hk : GoesR P A0 w0 nt as sk (fun stk' fr' bx' nx' => stk' = subStk b .und stk ∧ nx' = nx ∧ Msk D (fput (subFr b .und fr) ao0.dst (.own b)) fr' ∧ MskB N (bset (subBx b .und bx) b (.rown e k (n' + m) fun i j => subV b .und (if i < n' then c i j else c' (i - n') j))) bx') knext := by
   rintro β1 stk' fr' bx' nx' a1 w1 hsz1 hr1 hsk1 ⟨rfl,rfl,m1,m2⟩
   rw [hd0] at hnext q5
   refine hnext β1 a1 w1 fr' bx' hsz1 hr1 m1 m2 ⟨fun t ht => .inr ⟨b,⟨_,hl⟩,by rw [fget_fput,if_neg (by rw [← hd0]; exact ht),fget_sub']⟩,fun nm hnm => .inr ⟨b,by rw [bget_bset,if_neg (fun e : nm = b => hnb (e ▸ hnm)),bget_subBx]⟩⟩ q5 hsk1
  refine appN_step he hc hsz hrel hsk hk hop ?_
  rw [hev p1 i1,hev p2 i2,hv,hy]
  simp only [hl,hl2]
  exact ⟨(by first | rfl | trivial),(by first | rfl | trivial),(by first | rfl | trivial),q3,q4,(by first | rfl | trivial),(by first | rfl | trivial),(hM.sub b).put _ (by rw [← hd0]; exact hdd) _,(hMB.sub b).set hnb _⟩
 | @calN f args id caps s p e k m c n' _ hop hv hs hsp q1 q2 q3 q4 q5 =>
  rw [hop0] at hop
  rw [hop] at h1
  obtain ⟨cl,fo,ho,hcal,p1,p2⟩ := call_inv (q := o.op) (f := f) (args := args) (.inr h1)
  have i1 : fo ∈ o.op.operands.toList := by rw [ho]; simp [Op.operands,Call.operands,hcal]
  have ia : ∀ x ∈ cl.args.toList,x ∈ o.op.operands.toList := fun x hx => by rw [ho]; simp [Op.operands,Call.operands,hcal]; right; exact Array.mem_toList_iff.1 hx
  have hargs : argsL E mf args = argsL E fr args := cArgs_ev p2 fun q x hq hx => hev hx (ia q hq)
  have hreps : RepM A0 w0 β (bget mb) w (vl (argsL E mf args)) (.tuple ⟨cl.args.toList.map a.eval⟩) := args_rep cl.args.toList cl.argTypes.toList args p2 fun x _ => ev_rep he hrel.mem fun t _ => hrel.fr t
  have hcaps : RepM A0 w0 β (bget mb) w (.func (.func id) caps) (a.eval fo) := by rw [← hv]; exact hrep p1 i1
  obtain ⟨ys,_,hcr⟩ := hcaps
  have hsv : specV mb s args (argsL E fr args ++ capsL caps) = specV bx s args (argsL E fr args ++ capsL caps) := by
   rw [← hargs]
   refine specV_msk hrel.mem hMB (x := .tuple ⟨cl.args.toList.map a.eval ++ ys⟩) ?_
   rw [vl_app]; exact Rep.app hreps (isL_vl _) (caps_rep caps ys q1 hcr)
  have hk : GoesR P A0 w0 nt as sk (fun stk' fr' bx' nx' => stk' = stk ∧ nx' = nx + 1 ∧ Msk D (fput fr ao0.dst (.own nx)) fr' ∧ MskB N ((nx,.one (.row e k m c)) :: bx) bx') knext := by
   rintro β1 stk' fr' bx' nx' a1 w1 hsz1 hr1 hsk1 ⟨rfl,rfl,m1,m2⟩
   rw [hd0] at hnext q5
   refine hnext β1 a1 w1 fr' bx' hsz1 hr1 m1 m2 ⟨fun t ht => .inl (by rw [fget_fput,if_neg (by rw [← hd0]; exact ht)]),fun nm hnm => .inl (by rw [bget_one,if_neg (fun e : nm = .n nx => hN (e ▸ hnm))])⟩ q5 hsk1
  refine calle_step he hc hsz hrel hsk hk hop ?_
  rw [hev p1 i1,hv]
  simp only [hs]
  rw [hargs,hsv,hsp]
  simp only [q3]
  refine ⟨⟨q1,q2⟩,q4,(by first | rfl | trivial),(by first | rfl | trivial),hM.put _ (by rw [← hd0]; exact hdd) _,fun b => ⟨fun hb => ?_,fun hb => ?_⟩⟩
  ·rw [bget_one,if_neg (fun e : b = .n nx => hN (e ▸ hb))]; exact (hMB b).1 hb
  ·rw [bget_one,bget_one,(hMB b).2 hb]
 | @calX f args id caps pz s p _ hop hv hs hx hsp q5 =>
  rw [hop0] at hop
  rw [hop] at h1
  obtain ⟨cl,fo,ho,hcal,p1,p2⟩ := call_inv (q := o.op) (f := f) (args := args) (.inr h1)
  have i1 : fo ∈ o.op.operands.toList := by rw [ho]; simp [Op.operands,Call.operands,hcal]
  have ia : ∀ x ∈ cl.args.toList,x ∈ o.op.operands.toList := fun x hx => by rw [ho]; simp [Op.operands,Call.operands,hcal]; right; exact Array.mem_toList_iff.1 hx
  have hargs : argsL E mf args = argsL E fr args := cArgs_ev p2 fun q x hq hx => hev hx (ia q hq)
  have hreps : RepM A0 w0 β (bget mb) w (vl (argsL E mf args)) (.tuple ⟨cl.args.toList.map a.eval⟩) := args_rep cl.args.toList cl.argTypes.toList args p2 fun x _ => ev_rep he hrel.mem fun t _ => hrel.fr t
  obtain ⟨⟨lp,lq,hb1⟩,e0,k0,n0,c0,hb2⟩ := eatR_box hsp
  rw [hargs] at hreps
  obtain ⟨zs,y0,us,_,_,_,hrp,hrq,⟨⟨e1,k1,n1,cl1,hl,_⟩,_⟩⟩ := eat_rep hb1 hreps
  obtain ⟨hnb,hl'⟩ := hMB.ofSome hl
  rw [hb2] at hl'; cases hl'
  have hdl : ∀ (l : List Val) (x : Value),RepM A0 w0 β (bget mb) w (vl l) x → snapL (bdel mb p.1) l = snapL (bdel bx p.1) l ∧ snapOks (bdel mb p.1) l = snapOks (bdel bx p.1) l := fun l x hx => by
   refine snapL_msk hrel.mem (fun b c hb => ?_) (fun b c hb => ?_) l x hx
   ·rw [bget_bdel,bget_bdel]
    split
    ·rfl
    ·rw [(hMB.ofSome hb).2,hb]
   ·rw [bget_bdel] at hb
    split at hb
    ·cases hb
    ·exact hb
  have hsp' : eatR mb s pz args (argsL E mf args) caps (fun b e k m c => p = (b,e,k,m,c)) NoI := by
   rw [hargs]
   obtain ⟨d1,d2⟩ := hdl lp _ hrp
   obtain ⟨d3,d4⟩ := hdl lq _ hrq
   unfold eatR at hsp ⊢
   cases caps <;> first | exact hsp.elim | skip
   simp only [hb1,hb2] at hsp
   simp only [hb1,hl]
   rw [snapOks_app,d2,d4,d1,d3,← snapOks_app]
   exact hsp
  have hk : GoesR P A0 w0 nt as sk (fun stk' fr' bx' nx' => stk' = subStk p.1 .und stk ∧ nx' = nx ∧ Msk D (fput (subFr p.1 .und fr) ao0.dst (.own p.1)) fr' ∧ MskB N (bset (subBx p.1 .und bx) p.1 (.row p.2.1 p.2.2.1 p.2.2.2.1 p.2.2.2.2)) bx') knext := by
   rintro β1 stk' fr' bx' nx' a1 w1 hsz1 hr1 hsk1 ⟨rfl,rfl,m1,m2⟩
   rw [hd0] at hnext q5
   refine hnext β1 a1 w1 fr' bx' hsz1 hr1 m1 m2 ⟨fun t ht => .inr ⟨p.1,⟨_,hl⟩,by rw [fget_fput,if_neg (by rw [← hd0]; exact ht),fget_sub']⟩,fun nm hnm => .inr ⟨p.1,by rw [bget_bset,if_neg (fun e : nm = p.1 => hnb (e ▸ hnm)),bget_subBx]⟩⟩ q5 hsk1
  refine eat_step he hc hsz hrel hsk hk hop ((hev p1 i1).trans hv) hx ?_
  obtain ⟨b',e',k',m',c',g1,g2⟩ := eatR_ex hsp'
  have : eatR mb s pz args (argsL E mf args) caps (fun b e k m c => subStk b .und stk = subStk p.1 .und stk ∧ nx = nx ∧ Msk D (fput (subFr p.1 .und fr) ao0.dst (.own p.1)) (fput (subFr b .und mf) ao0.dst (.own b)) ∧ MskB N (bset (subBx p.1 .und bx) p.1 (.row p.2.1 p.2.2.1 p.2.2.2.1 p.2.2.2.2)) (bset (subBx b .und mb) b (.row e k m c))) NoI := by
   refine eatR_mono hsp' ?_ (fun _ _ _ _ _ h => h)
   rintro b e k m c rfl
   exact ⟨rfl,rfl,(hM.sub b).put _ (by rw [← hd0]; exact hdd) _,(hMB.sub b).set hnb _⟩
  exact eatR_mono this (fun _ _ _ _ _ h => h) (fun _ _ _ _ _ h => h.elim)
 | @mset kd m k v b z has f _ hop hv hkk hb q4 q5 =>
  rw [hop0] at hop
  rw [hop] at h1
  obtain ⟨t,kt,et,xm,xx,xv,ho,hT,hK,p1,p2,p3⟩ := mset_inv h1
  have i1 : xm ∈ o.op.operands.toList := by rcases ho with ho | ho <;> (rw [ho]; simp [Op.operands])
  have i2 : xx ∈ o.op.operands.toList := by rcases ho with ho | ho <;> (rw [ho]; simp [Op.operands])
  have i3 : xv ∈ o.op.operands.toList := by rcases ho with ho | ho <;> (rw [ho]; simp [Op.operands])
  have hr := hrep p1 i1
  rw [hv] at hr
  obtain ⟨⟨kd1,cm1,hl,_⟩,_⟩ := hr
  obtain ⟨hnb,hl'⟩ := hMB.ofSome hl
  rw [hb] at hl'; cases hl'
  have hk : GoesR P A0 w0 nt as sk (fun stk' fr' bx' nx' => stk' = stk ∧ nx' = nx ∧ Msk D (fput fr ao0.dst .und) fr' ∧ MskB N (bset bx b (.mp kd (fun j => if j = z then true else has j) fun j => if j = z then ev E fr v else f j)) bx') knext := by
   rintro β1 stk' fr' bx' nx' a1 w1 hsz1 hr1 hsk1 ⟨rfl,rfl,m1,m2⟩
   rw [hd0] at hnext q5
   refine hnext β1 a1 w1 fr' bx' hsz1 hr1 m1 m2 ⟨fun t ht => .inl (by rw [fget_fput,if_neg (by rw [← hd0]; exact ht)]),fun nm hnm => .inl (by rw [bget_bset,if_neg (fun e : nm = b => hnb (e ▸ hnm))])⟩ q5 hsk1
  have hni : NoIt (bget mb) b := fun y mb kd seen last hy => q4 y mb kd seen last (hMB.ofSome hy).2
  refine mset_step he hc hsz hrel hsk hk hop (W := fun b bx => NoIt (bget bx) b) (fun _ h => h) ?_
  rw [hev p1 i1,hev p2 i2,hev p3 i3,hv,hkk]
  simp only [hl]
  exact ⟨(by first | rfl | trivial),(by first | rfl | trivial),hni,(by first | rfl | trivial),(by first | rfl | trivial),hM.put _ (by rw [← hd0]; exact hdd) _,hMB.set hnb _⟩
 | @msetZ kd m k v b z f _ hop hv hkk hb q4 q5 =>
  rw [hop0] at hop
  rw [hop] at h1
  obtain ⟨t,kt,et,xm,xx,xv,ho,hT,hK,p1,p2,p3⟩ := mset_inv h1
  have i1 : xm ∈ o.op.operands.toList := by rcases ho with ho | ho <;> (rw [ho]; simp [Op.operands])
  have i2 : xx ∈ o.op.operands.toList := by rcases ho with ho | ho <;> (rw [ho]; simp [Op.operands])
  have i3 : xv ∈ o.op.operands.toList := by rcases ho with ho | ho <;> (rw [ho]; simp [Op.operands])
  have hr := hrep p1 i1
  rw [hv] at hr
  obtain ⟨⟨kd1,cm1,hl,_⟩,_⟩ := hr
  obtain ⟨hnb,hl'⟩ := hMB.ofSome hl
  rw [hb] at hl'; cases hl'
  have hk : GoesR P A0 w0 nt as sk (fun stk' fr' bx' nx' => stk' = stk ∧ nx' = nx ∧ Msk D (fput fr ao0.dst .und) fr' ∧ MskB N (bset bx b (.mz kd fun j => if j = z then ev E fr v else f j)) bx') knext := by
   rintro β1 stk' fr' bx' nx' a1 w1 hsz1 hr1 hsk1 ⟨rfl,rfl,m1,m2⟩
   rw [hd0] at hnext q5
   refine hnext β1 a1 w1 fr' bx' hsz1 hr1 m1 m2 ⟨fun t ht => .inl (by rw [fget_fput,if_neg (by rw [← hd0]; exact ht)]),fun nm hnm => .inl (by rw [bget_bset,if_neg (fun e : nm = b => hnb (e ▸ hnm))])⟩ q5 hsk1
  have hni : NoIt (bget mb) b := fun y mb kd seen last hy => q4 y mb kd seen last (hMB.ofSome hy).2
  refine mset_step he hc hsz hrel hsk hk hop (W := fun b bx => NoIt (bget bx) b) (fun _ h => h) ?_
  rw [hev p1 i1,hev p2 i2,hev p3 i3,hv,hkk]
  simp only [hl]
  exact ⟨(by first | rfl | trivial),(by first | rfl | trivial),hni,(by first | rfl | trivial),(by first | rfl | trivial),hM.put _ (by rw [← hd0]; exact hdd) _,hMB.set hnb _⟩
end
end Go.Proofs.Ytlieoghhkioflaa
/- The engine,part 20e: a region whose order is drawn: the whole. No condition. -/
namespace Go.Proofs.Ytlieoghhkioflaa
open Go Go.RowKit
variable {P : Program} {E : Env} {A0 : Nat → Prop} {w0 : Base} {Qf : Val → Bx → Prop}
section
variable {stk : List SFrame} {fr fr' : Fr} {bx bx' : Bx} {nx : Nat} {a : Act} {w w1 : World} {β β1 : Bn → Loc} {as : List Act}
theorem Rel.softN (h : Rel P A0 w0 β stk as fr bx nx a w) {nm : Nat} {new : Option Box} (hB : bget bx nm = none) (hlt : ∀ c,new = some c → nm < nx) (hs : Soft P A0 w0 β β1 (bget bx) nm new w w1) {v : Val} {x : Value} (hv : RepM A0 w0 β1 (extB (bget bx) nm new) w1 v x) (d : Option Nat) (hd : ∀ s,d = some s → s < a.tmps.size) :
  Rel P A0 w0 β1 stk as (fput fr d v) (addB nm new bx) nx (a.put d x) w1 := by
 refine ⟨?_,?_,?_,by rw [put_dfs,bget_addB]; exact h.df.mono hs.keep.size (hs.al h.mem hB),h.sn⟩
 ·rw [bget_addB]; exact hs.mem h.mem hB (Nat.le_refl _) hlt
 ·rw [bget_addB]; exact fr_put (fun t => hs.rep h.mem hB (h.fr t)) hv d hd
 ·refine StkR.mono (A := fun _ => True) (A' := fun _ => True) (fun n v x hr => ?_) h.st
  rw [bget_addB]
  refine Rep.mono hs.keep.size (hs.al h.mem hB) (fun b c hb => ?_) v x hr
  simp only [Bres] at hb ⊢
  split at hb
  ·rename_i hlt
   rw [if_pos hlt]
   exact ⟨c,extB_some hB hb,Kin.refl c,hs.loc b c hb⟩
  ·cases hb
theorem Rel.more (h : Rel P A0 w0 β stk as fr bx nx a w) {nx' : Nat} (hn : nx ≤ nx') : Rel P A0 w0 β stk as fr bx nx' a w :=
 ⟨⟨h.mem.bx,h.mem.inj,fun b c hb => Nat.lt_of_lt_of_le (h.mem.nx b c hb) hn,h.mem.base,h.mem.below⟩,h.fr,h.st,h.df,fun f hf => Nat.le_trans (h.sn f hf) hn⟩
theorem Rel.putU (h : Rel P A0 w0 β stk as fr bx nx a w) (d : Option Nat) : Rel P A0 w0 β stk as (fput fr d .und) bx nx a w :=
 ⟨h.mem,fun t => by rw [fget_fput]; split <;> first | trivial | exact h.fr t,h.st,h.df,h.sn⟩
theorem Rel.congr (h : Rel P A0 w0 β stk as fr bx nx a w) (hf : ∀ t,fget fr' t = fget fr t) (hb : bget bx' = bget bx) : Rel P A0 w0 β stk as fr' bx' nx a w :=
 ⟨by rw [hb]; exact h.mem,fun t => by rw [hb,hf]; exact h.fr t,by rw [hb]; exact h.st,by rw [hb]; exact h.df,h.sn⟩
theorem Msk.un {D D' : Nat → Prop} {mf : Fr} {d : Option Nat} {v : Val} (h : Msk D fr mf) (hD : ∀ t,D t ↔ D' t ∨ d = some t) (hD2 : ∀ t,d = some t → ¬ D' t) (hv : ∀ t,d = some t → fget fr t = v) : Msk D' fr (fput mf d v) := by
 intro t
 rw [fget_fput]
 by_cases e : d = some t
 ·rw [if_pos e]; exact ⟨fun ht => absurd ht (hD2 t e),fun _ => (hv t e).symm⟩
 ·rw [if_neg e]; exact ⟨fun ht => (h t).1 ((hD t).2 (.inl ht)),fun ht => (h t).2 fun hd => ((hD t).1 hd).elim ht e⟩
theorem MskB.un {N N' : Bn → Prop} {mb : Bx} {nm : Nat} {new : Option Box} (h : MskB N bx mb) (hN : ∀ b,N b ↔ N' b ∨ ((∃ c,new = some c) ∧ b = nm)) (hN2 : ∀ c,new = some c → ¬ N' nm) (hv : ∀ c,new = some c → bget bx nm = some c) : MskB N' bx (addB nm new mb) := by
 intro b
 rw [bget_addB]
 cases hn : new with
 | none => exact ⟨fun hb => (h b).1 ((hN b).2 (.inl hb)),fun hb => (h b).2 fun hd => ((hN b).1 hd).elim hb fun ⟨⟨c,hc⟩,_⟩ => by rw [hn] at hc; cases hc⟩
 | some c =>
  simp only [extB]
  by_cases e : b = nm
  ·subst e; rw [if_pos rfl]; exact ⟨fun hb => absurd hb (hN2 c hn),fun _ => (hv c hn).symm⟩
  ·rw [if_neg e]; exact ⟨fun hb => (h b).1 ((hN b).2 (.inl hb)),fun hb => (h b).2 fun hd => ((hN b).1 hd).elim hb fun h => e h.2⟩
theorem step_lt {ao : AOper} {stk1 : List SFrame} {nx1 : Nat} (h : StepA E ao fr bx nx stk fr' bx' nx1 stk1) (hb : ∀ b c,bget bx b = some c → b.id < nx) : nx ≤ nx1 ∧ (∀ b c,bget bx' b = some c → b.id < nx1) ∧ stk1.map (fun f => (f.d,f.K,f.res,f.nx)) = stk.map fun f => (f.d,f.K,f.res,f.nx) := by
 have hset : ∀ {b0 : Bn} {c0 c1 : Box},bget bx b0 = some c0 → ∀ b c,bget (bset bx b0 c1) b = some c → b.id < nx := by
  intro b0 c0 c1 h0 b c hc
  rw [bget_bset] at hc
  split at hc
  ·rename_i e; subst e; exact hb _ _ h0
  ·exact hb _ _ hc
 cases h with
 | skip => exact ⟨Nat.le_refl _,hb,rfl⟩
 | soft _ _ _ =>
  refine ⟨by cases (aop E fr bx nx ao.op).new <;> simp [addN],fun b c hc => ?_,rfl⟩
  rw [bget_addB] at hc
  rcases extB_cases hc with hc | ⟨rfl,hn⟩
  ·have := hb b c hc; cases (aop E fr bx nx ao.op).new <;> simp [addN] <;> omega
  ·rw [hn]; exact Nat.lt_succ_self nx
 | store _ _ _ h0 => exact ⟨Nat.le_refl _,hset h0,rfl⟩
 | storeR _ _ _ h0 => exact ⟨Nat.le_refl _,hset h0,rfl⟩
 | appN =>
  refine ⟨by omega,fun b c hc => ?_,rfl⟩
  rw [bget_one] at hc
  split at hc
  ·rename_i e; rw [e]; exact Nat.lt_succ_self nx
  ·have := hb b c hc; omega
 | appT =>
  refine ⟨by omega,fun b c hc => ?_,rfl⟩
  rw [bget_one] at hc
  split at hc
  ·rename_i e; rw [e]; exact Nat.lt_succ_self nx
  ·have := hb b c hc; omega
 | calX _ _ _ _ _ h1 =>
  obtain ⟨_,e0,k0,n0,c0,h0⟩ := eatR_box h1
  refine ⟨Nat.le_refl _,fun y c' hc => ?_,skel_sub _ _ _⟩
  rw [bget_bset] at hc
  split at hc
  ·rename_i e; subst e; exact hb _ _ h0
  ·rw [bget_subBx] at hc
   obtain ⟨c2,h2,_⟩ := Option.map_eq_some_iff.1 hc
   exact hb _ _ h2
 | calN =>
  refine ⟨by omega,fun b c hc => ?_,rfl⟩
  rw [bget_one] at hc
  split at hc
  ·rename_i e; rw [e]; exact Nat.lt_succ_self nx
  ·have := hb b c hc; omega
 | appO _ _ _ _ _ _ _ h0 =>
  refine ⟨Nat.le_refl _,fun b c hc => ?_,skel_sub _ _ _⟩
  rw [bget_bset] at hc
  split at hc
  ·rename_i e; subst e; exact hb _ _ h0
  ·rw [bget_subBx] at hc
   obtain ⟨c2,h2,_⟩ := Option.map_eq_some_iff.1 hc
   exact hb _ _ h2
 | appM _ _ _ _ _ _ h0 =>
  refine ⟨Nat.le_refl _,fun b c hc => ?_,skel_sub _ _ _⟩
  rw [bget_bset] at hc
  split at hc
  ·rename_i e; subst e; exact hb _ _ h0
  ·rw [bget_subBx] at hc
   obtain ⟨c2,h2,_⟩ := Option.map_eq_some_iff.1 hc
   exact hb _ _ h2
 | mset _ _ _ _ h0 _ => exact ⟨Nat.le_refl _,hset h0,rfl⟩
 | msetZ _ _ _ _ h0 _ => exact ⟨Nat.le_refl _,hset h0,rfl⟩
end
theorem reOk_mem {fr : Fr} {bx : Bx} : ∀ {l : List (Option Nat × AOp × Option (Nat × Bool))} {d : Option Nat} {op : AOp} {g : Option (Nat × Bool)},reOk E fr bx l → (d,op,g) ∈ l → match skipOp fr g with
  | some true => True
  | some false => (aop E fr bx 0 op).pre ∧ dstV fr d (aop E fr bx 0 op).v
  | none => False := by
 intro l; induction l with
 | nil => intro d op g _ h; cases h
 | cons x l ih =>
  obtain ⟨d',op',g'⟩ := x
  intro d op g h hm
  rcases List.mem_cons.1 hm with e | hm
  ·cases e; exact h.1
  ·exact ih h.2 hm
structure DrO (ops : List Oper) (l : List AOper) (m : List Nat) (d : Nat) (ord : List Nat) : Prop where
 dn : d ≤ ops.length
 after : afterOk ops = true
 apart : apartOk ops m (gsOf ops) = true
 anti : ∀ i j t o,i < d → j < d → (ops[i]?).bind (·.dst) = some t → ops[j]? = some o → (t ∈ looks o ∨ (gsOf ops).getD j none = some t) → aheadB m i j = true
 tail : ∀ i,d ≤ i → i < ops.length → ∀ j,j < i → aheadB m j i = true
 len : ord.length = d
 lt : ∀ p,p < d → ord.getD p 0 < d
 sur : ∀ i,i < d → ∃ p,p < d ∧ ord.getD p 0 = i
 own : ∀ p,p < d → ∀ t,(l.getD (ord.getD p 0) dflt).dst = some t → t ∉ rdA (l.getD (ord.getD p 0) dflt).op ++ gRd (l.getD (ord.getD p 0) dflt).guard
 ne : ∀ q p,q < p → p < d → ord.getD q 0 ≠ ord.getD p 0
 mkb : ∀ q p,q < p → p < d → softI l (ord.getD q 0) = true → softI l (ord.getD p 0) = false → aheadB m (ord.getD q 0) (ord.getD p 0) = false → mkB (l.getD (ord.getD q 0) dflt).op = true → lateB (l.getD (ord.getD q 0) dflt).op = true
 eff : ∀ q p,q < p → p < d → softI l (ord.getD q 0) = false → aheadB m (ord.getD q 0) (ord.getD p 0) = true
 rd : ∀ q p,q < p → p < d → ∀ t,(l.getD (ord.getD p 0) dflt).dst = some t → t ∉ rdA (l.getD (ord.getD q 0) dflt).op ++ gRd (l.getD (ord.getD q 0) dflt).guard
theorem drO_of {ops : List Oper} {l l' : List AOper} {d : Nat} (h : cDraw ops l = some (d,l')) : ∃ ord,DrO ops l (aheads [] ops) d ord ∧ l' = drawnL l (aheads [] ops) ord ++ l.drop d := by
 unfold cDraw at h
 simp only at h
 generalize canon l (aheads [] ops) (tailS (aheads [] ops) ops.length) [] (List.range (tailS (aheads [] ops) ops.length)) = ord at h
 generalize tailS (aheads [] ops) ops.length = d' at h
 split at h
 ·rename_i hc
  simp only [Option.some.injEq,Prod.mk.injEq] at h
  obtain ⟨rfl,rfl⟩ := h
  simp only [Bool.and_eq_true,decide_eq_true_eq] at hc
  obtain ⟨⟨⟨⟨⟨h1,h2⟩,h3⟩,h4⟩,h5⟩,h6⟩ := hc
  unfold ordOk at h5
  simp only [Bool.and_eq_true,beq_iff_eq] at h5
  obtain ⟨⟨g1,g2⟩,g3⟩ := h5
  have g3' := fun p (hp : p < d') => List.all_eq_true.1 g3 p (by simpa using hp)
  simp only [Bool.and_eq_true,decide_eq_true_eq] at g3'
  have g4 : ∀ q p,q < p → p < d' → _ := fun q p hq hp => List.all_eq_true.1 (g3' p hp).2 q (by simpa using hq)
  simp only [Bool.and_eq_true,Bool.not_eq_true'] at g4
  refine ⟨ord,⟨h6,h1,h2,fun i j t o hi hj ht ho hl => ?_,fun i hi hi2 j hj => ?_,g1,fun p hp => (g3' p hp).1.1,fun i hi => ?_,fun p hp t ht hin => ?_,fun q p hq hp e => ?_,fun q p hq hp a1 a2 a3 a4 => ?_,fun q p hq hp a1 => ?_,fun q p hq hp t ht hin => ?_⟩,rfl⟩
  ·have := List.all_eq_true.1 h3 i (by simpa using hi)
   simp only [ht] at this
   have := List.all_eq_true.1 this j (by simpa using hj)
   simp only [ho,Bool.or_eq_true,Bool.and_eq_true,Bool.not_eq_true'] at this
   rcases this with h | ⟨h,h'⟩
   ·exact h
   ·rcases hl with hl | hl
    ·rw [List.contains_iff_mem.2 hl] at h; cases h
    ·rw [hl] at h'; simp at h'
  ·have := List.all_eq_true.1 h4 i (by simpa using hi2)
   have hid : (decide (i < d')) = false := by simp; omega
   simp only [hid,Bool.false_or] at this
   exact List.all_eq_true.1 this j (by simpa using hj)
  ·have := List.all_eq_true.1 g2 i (by simpa using hi)
   have hmem : i ∈ ord := List.contains_iff_mem.1 this
   obtain ⟨p,hp,e⟩ := List.getElem_of_mem hmem
   refine ⟨p,by omega,?_⟩
   rw [List.getD_eq_getElem?_getD,List.getElem?_eq_getElem hp]; simpa using e
  ·have := (g3' p hp).1.2
   rw [ht] at this
   simp only [Bool.not_eq_true'] at this
   rw [List.contains_iff_mem.2 hin] at this; cases this
  ·have := (g4 q p hq hp).1.1.1
   rw [e] at this; simp at this
  ·have := (g4 q p hq hp).1.2
   rw [a1,a2,a3,a4] at this
   simpa using this
  ·have := (g4 q p hq hp).1.2
   rw [a1] at this
   simpa using this
  ·have := (g4 q p hq hp).2
   rw [ht] at this
   simp only [Bool.not_eq_true'] at this
   rw [List.contains_iff_mem.2 hin] at this; cases this
 ·cases h
theorem drawnL_get {l : List AOper} {m ord : List Nat} {d : Nat} {r : List AOper} (hlen : ord.length = d) {p : Nat} (hp : p < d) : (drawnL l m ord ++ r)[p]? = some { l.getD (ord.getD p 0) dflt with re := reL l m ord p (ord.getD p 0) } := by
 have h1 : (drawnL l m ord).length = d := by simp [drawnL,hlen]
 rw [List.getElem?_append_left (by omega)]
 simp [drawnL,hlen,hp]
theorem reL_mem {l : List AOper} {m ord : List Nat} {p q i : Nat} (hq : q < p) (hqo : q < ord.length) (hs : softI l (ord.getD q 0) = true) (hm : mkB (l.getD (ord.getD q 0) dflt).op = false) (ha : aheadB m (ord.getD q 0) i = false) (he : softI l i = false) :
  ((l.getD (ord.getD q 0) dflt).dst,(l.getD (ord.getD q 0) dflt).op,(l.getD (ord.getD q 0) dflt).guard) ∈ reL l m ord p i := by
 unfold reL
 rw [he]
 simp only [Bool.false_eq_true,if_false,List.mem_filterMap]
 refine ⟨ord.getD q 0,?_,by rw [hs,hm,ha]; rfl⟩
 rw [List.mem_take_iff_getElem]
 exact ⟨q,by omega,by rw [List.getD_eq_getElem?_getD,List.getElem?_eq_getElem hqo]; rfl⟩
end Go.Proofs.Ytlieoghhkioflaa
/- The engine,part 20f: a region whose order is drawn: whatever the order,it comes to what the checked order comes to. No condition. -/
namespace Go.Proofs.Ytlieoghhkioflaa
open Go Go.RowKit
variable {P : Program} {E : Env} {A0 : Nat → Prop} {w0 : Base} {Qf : Val → Bx → Prop}
theorem drawn_region {n : Nat} {ro : Option Nat} (he : EnvOk P E A0 w0) (IH : ∀ m,m ≤ n → Sound P E A0 w0 Qf m) {ops : Array Oper} {nt : Nat} {l l' : List AOper} {d : Nat} (hc : cOpers P ops.toList nt ops.toList = some l) (hd : cDraw ops.toList l = some (d,l'))
    {K : List Item} {stk : List SFrame} {res : List ARes} {fr : Fr} {bx : Bx} {nx : Nat} {a : Act} {w : World} {β : Bn → Loc} {as : List Act} {sk : List (Option Nat × List Item × List ARes × Nat)} {nxt : Act → World → Prop} {Q : Exit → Act → World → Prop}
    (hrun : run E Qf n (.ops d l' :: K) stk res fr bx nx) (hsz : nt ≤ a.tmps.size) (hrel : Rel P A0 w0 β stk as fr bx nx a w) (hsk : skel stk = sk) (hk : Goes P E A0 w0 Qf n nt as sk res K nxt) (hq : ∀ a w,nxt a w → Q .normal a w) :
    wpAnyIn (FW ro) 0 P .any ops Q ops.size (Array.replicate ops.size false) a w := by
  obtain ⟨ord,hD,hl'⟩ := drO_of hd
  obtain ⟨hlen,hget⟩ := cOpers_get _ _ hc
  have hlen' : l.length = ops.size := by simpa using hlen
  have hdn : d ≤ ops.size := by simpa using hD.dn
  have hl'len : d ≤ l'.length := by rw [hl']; simp [drawnL,hD.len]
  have hdrop : l'.drop d = l.drop d := by
    rw [hl',List.drop_append_of_le_length (by simp [drawnL,hD.len])]
    rw [List.drop_eq_nil_of_le (by simp [drawnL,hD.len])]; rfl
  obtain ⟨FR,BX,NX,ST,e1,e2,e3,e4,hst0,m0,hm0,htail⟩ := trace2 d n l' K stk res fr bx nx (Nat.le_refl _) hl'len hrun
  rw [hdrop] at htail
  generalize hm : aheads [] ops.toList = m at *
  let O : Nat → Nat := fun p => ord.getD p 0
  let AO : Nat → AOper := fun i => l.getD i dflt
  have hg : ∀ i,i < ops.size → ∃ o,ops[i]? = some o ∧ l[i]? = some (AO i) ∧ cOper P ops.toList nt o = some (AO i) ∧ (AO i).dst = o.dst := by
    intro i hi
    obtain ⟨ao,h1,h2⟩ := hget i ops[i] (by simp [hi])
    have h3 : AO i = ao := by simp only [AO,List.getD_eq_getElem?_getD,h1,Option.getD_some]
    exact ⟨ops[i],Array.getElem?_eq_getElem hi,by rw [h3]; exact h1,by rw [h3]; exact h2,by rw [h3]; exact (cOper_spec h2).2.2.1⟩
  have hOlt : ∀ p,p < d → O p < ops.size := fun p hp => Nat.lt_of_lt_of_le (hD.lt p hp) hdn
  have hS : ∀ p,p < d → StepA E { AO (O p) with re := reL l m ord p (O p) } (FR p) (BX p) (NX p) (ST p) (FR (p + 1)) (BX (p + 1)) (NX (p + 1)) (ST (p + 1)) := by
    intro p hp
    refine hst0 p _ hp ?_
    rw [hl']; exact drawnL_get hD.len hp
  -- names
  have hlt : ∀ p,p ≤ d → ∀ b c,bget (BX p) b = some c → b.id < NX p := by
    intro p; induction p with
    | zero => intro _; rw [e2,e3]; exact hrel.mem.nx
    | succ p ih => intro hp; exact (step_lt (hS p (by omega)) (ih (by omega))).2.1
  have hnn : ∀ p,p ≤ d → bget (BX p) (NX p) = none := by
    intro p hp
    cases hb : bget (BX p) (NX p) with
    | none => rfl
    | some c => exact absurd (hlt p hp _ c hb) (Nat.lt_irrefl _)
  have hmon1 : ∀ p,p < d → NX p ≤ NX (p + 1) := fun p hp => (step_lt (hS p hp) (hlt p (by omega))).1
  have hmon : ∀ q p,q ≤ p → p ≤ d → NX q ≤ NX p := by
    intro q p hqp
    induction p with
    | zero => intro _; obtain rfl : q = 0 := by omega
              exact Nat.le_refl _
    | succ p ih =>
      intro hp
      by_cases e : q = p + 1
      · subst e; exact Nat.le_refl _
      · have := ih (by omega) (by omega)
        have := hmon1 p (by omega)
        omega
  have hskST : ∀ p,p ≤ d → skel (ST p) = sk := by
    intro p; induction p with
    | zero => intro _; rw [e4]; exact hsk
    | succ p ih => intro hp; exact (step_lt (hS p (by omega)) (hlt p (by omega))).2.2.trans (ih (by omega))
  have huniq : ∀ q p t,q < d → p < d → (AO (O q)).dst = some t → (AO (O p)).dst = some t → q = p := by
    have key : ∀ q p t,q < p → p < d → (AO (O q)).dst = some t → (AO (O p)).dst = some t → False := by
      intro q p t h1 h2 h3 h4
      obtain ⟨x,hx,_,_,hdx⟩ := hg (O q) (hOlt q (by omega))
      obtain ⟨y,hy,_,_,hdy⟩ := hg (O p) (hOlt p h2)
      have := (apart_spec hD.apart (i := O q) (j := O p) (by simpa using hx) (by simpa using hy) (hD.ne q p h1 h2) (by rw [← hdx]; exact h3)).1
      rw [← hdy] at this
      exact this h4
    intro q p t h1 h2 h3 h4
    rcases Nat.lt_trichotomy q p with h | h | h
    · exact (key q p t h h2 h3 h4).elim
    · exact h
    · exact (key p q t h h1 h4 h3).elim
  have hsoftI : ∀ i,softI l i = softA (AO i).op := fun i => rfl
  -- readiness
  let CL : Array Bool → Prop := fun L => ∀ j o,ops.toList[j]? = some o → L.getD j false = true → ∀ e ∈ o.after.toList,Region.binds .any e = true → L.getD e.on false = true
  have hset : ∀ (L : Array Bool) i,i < L.size → ∀ k,(L.setIfInBounds i true).getD k false = if k = i then true else L.getD k false := by
    intro L i hi k
    simp only [Array.getD_eq_getD_getElem?]
    by_cases h : k = i
    · subst h; simp [hi]
    · rw [if_neg h,Array.getElem?_setIfInBounds_ne (fun e => h e.symm)]
  have hdtf : ∀ (L : Array Bool) i,L.size = ops.size → i < ops.size → L.getD i true = L.getD i false := by
    intro L i h1 h2; simp [Array.getD,h1,h2]
  have hready : ∀ (L : Array Bool) i,L.size = ops.size → CL L → i ∈ Region.ready .any ops L → i < ops.size ∧ L.getD i false = false ∧ ∀ j,aheadB m j i = true → L.getD j false = true := by
    intro L i hs hcl hi
    obtain ⟨h1,h2,o,ho,h3⟩ := mem_ready.1 hi
    refine ⟨h1,by rw [← hdtf L i hs h1]; exact h2,fun j hj => ?_⟩
    exact ahead_listed (L := fun k => L.getD k false) hD.after hcl i o (by simpa using ho) h3 j (by rw [hm]; exact hj)
  have hlisted : ∀ (L : Array Bool) j,CL L → j < ops.size → L.getD j false = true → ∀ i,aheadB m i j = true → L.getD i false = true := by
    intro L j hcl hj hlj i hi
    obtain ⟨o,h1,_⟩ := hg j hj
    exact ahead_listed (L := fun k => L.getD k false) hD.after hcl j o (by simpa using h1) (hcl j o (by simpa using h1) hlj) i (by rw [hm]; exact hi)
  have hclset : ∀ (L : Array Bool) i,L.size = ops.size → CL L → i ∈ Region.ready .any ops L → CL (L.setIfInBounds i true) := by
    intro L i hs hcl hi j o ho hj e he' hb
    obtain ⟨h1,h2,o',ho',h3⟩ := mem_ready.1 hi
    rw [hset L i (by omega)] at hj ⊢
    by_cases hji : j = i
    · subst hji
      have : o = o' := by rw [show ops.toList[j]? = ops[j]? from by simp] at ho; rw [ho'] at ho; simpa using ho.symm
      subst this
      split
      · rfl
      · exact h3 e he' hb
    · rw [if_neg hji] at hj
      split
      · rfl
      · exact hcl j o ho hj e he' hb
  have hsomeready : ∀ (L : Array Bool),L.size = ops.size → (∃ i,i < ops.size ∧ L.getD i false = false) → Region.ready .any ops L ≠ [] := by
    rintro L hs ⟨i,hi,hli⟩ hnil
    have hmin : ∀ i,i < ops.size → L.getD i false = false → False := by
      intro i
      induction i using Nat.strongRecOn with
      | _ i ih =>
      intro hi hli
      have : i ∈ Region.ready .any ops L := by
        refine mem_ready.2 ⟨hi,by rw [hdtf L i hs hi]; exact hli,ops[i],Array.getElem?_eq_getElem hi,fun e he' hb => ?_⟩
        cases hle : L.getD e.on false
        · have hlt : e.on < i := by
            have := List.all_eq_true.1 hD.after i (by simpa using hi)
            simp only [show ops.toList[i]? = some ops[i] from by simp [hi]] at this
            have := List.all_eq_true.1 this e he'
            simpa [hb] using this
          exact (ih e.on hlt (by omega) hle).elim
        · rfl
      rw [hnil] at this
      cases this
    exact hmin i hi hli
  -- the ordered rest
  have phase2 : ∀ (fuel p m : Nat) (L : Array Bool) (a : Act) (w : World) (β : Bn → Loc) (stk : List SFrame) (fr : Fr) (bx : Bx) (nx : Nat),L.size = ops.size → CL L → cnt L ops.size = fuel → d ≤ p → (∀ i,i < ops.size → (L.getD i false = true ↔ i < p)) → m ≤ n → nt ≤ a.tmps.size → Rel P A0 w0 β stk as fr bx nx a w → skel stk = sk →
      run E Qf m (.ops 0 (l.drop p) :: K) stk res fr bx nx → wpAnyIn (FW ro) 0 P .any ops Q fuel L a w := by
    intro fuel
    induction fuel with
    | zero =>
      intro p m L a w β stk fr bx nx hs hcl hcnt hp hL hm hsz hrel hsk hrun
      have hall := cnt_zero hcnt
      have hpl : ops.size ≤ p := by
        rcases Nat.lt_or_ge p ops.size with h | h
        · have := (hL p h).1 (hall p h); omega
        · exact h
      refine ⟨?_,?_⟩
      · apply List.eq_nil_iff_forall_not_mem.2
        intro i hi
        obtain ⟨h1,h2,_⟩ := hready L i hs hcl hi
        rw [hall i h1] at h2; cases h2
      · rw [List.drop_eq_nil_of_le (by omega)] at hrun
        cases m with
        | zero => simp [run] at hrun
        | succ m =>
          simp only [run] at hrun
          exact hq _ _ (hk m β stk fr bx nx a w (by omega) hsz hrel hsk hrun)
    | succ fuel ih =>
      intro p m' L a w β stk fr bx nx hs hcl hcnt hp hL hm' hsz hrel hsk hrun
      refine ⟨fun hnil => ?_,fun i hi => ?_⟩
      · have : ∃ i,i < ops.size ∧ L.getD i false = false := by
          apply Classical.byContradiction
          intro hno
          have h0 : cnt L ops.size = 0 := by
            unfold cnt
            rw [List.countP_eq_zero]
            intro k hk'
            cases hlk : L.getD k false
            · exact absurd ⟨k,by simpa using hk',hlk⟩ hno
            · simp
          omega
        exact absurd hnil (hsomeready L hs this)
      · obtain ⟨h1,h2,h3⟩ := hready L i hs hcl hi
        have hip : i = p := by
          have h4 : ¬ i < p := fun h => by rw [(hL i h1).2 h] at h2; cases h2
          rcases Nat.lt_or_ge p i with h | h
          · have := h3 p (hD.tail i (by omega) (by simpa using h1) p h)
            have := (hL p (by omega)).1 this
            omega
          · omega
        subst hip
        obtain ⟨o,g1,g2,g3,g4⟩ := hg i h1
        have hdrop : l.drop i = AO i :: l.drop (i + 1) := by
          obtain ⟨hlt,hge⟩ := List.getElem?_eq_some_iff.1 g2
          rw [List.drop_eq_getElem_cons hlt,hge]
        rw [hdrop] at hrun
        cases m' with
        | zero => simp [run] at hrun
        | succ m' =>
          have hcnt' : cnt (L.setIfInBounds i true) ops.size = fuel := by
            have := cnt_set (listed := L) (i := i) (by omega) h2 ops.size
            rw [if_pos h1] at this
            omega
          have hL' : ∀ k,k < ops.size → ((L.setIfInBounds i true).getD k false = true ↔ k < i + 1) := by
            intro k hk'
            rw [hset L i (by omega)]
            by_cases hki : k = i
            · subst hki; simp
            · rw [if_neg hki,hL k hk']; omega
          unfold wpOpIn
          rw [g1]
          refine op_step (ro := ro) (Q := Q) (n := m') he (fun m'' hm'' => IH m'' (by omega)) g3 hsz hrel hsk (l := l.drop (i + 1)) (K := K) (res := res) ?_ hrun
          intro m'' β' stk' fr' bx' nx' a' w' hm'' hsz' hrel' hsk' hrun'
          exact ih (i + 1) m'' (L.setIfInBounds i true) a' w' β' stk' fr' bx' nx' (by simp [hs]) (hclset L i hs hcl hi) hcnt' (by omega) hL' (by omega) hsz' hrel' hsk' hrun'
  -- the state while some are listed
  let Dm : Array Bool → Nat → Nat → Prop := fun L p t => ∃ q,q < p ∧ L.getD (O q) false = false ∧ (AO (O q)).dst = some t
  let Nm : Array Bool → Nat → Bn → Prop := fun L p b => ∃ q,q < p ∧ L.getD (O q) false = false ∧ NX (q + 1) ≠ NX q ∧ b = NX q
  let Inv : Array Bool → Nat → Act → World → Prop := fun L p a w => nt ≤ a.tmps.size ∧ (∃ β mf mb,Rel P A0 w0 β (ST p) as mf mb (NX p) a w ∧ Msk (Dm L p) (FR p) mf ∧ MskB (Nm L p) (BX p) mb) ∧
    ∀ q,q < p → L.getD (O q) false = false → softA (AO (O q)).op = true ∧ Good E (AO (O q)) (FR p) (BX p) (NX q) (NX (q + 1))
  have hext : ∀ (L : Array Bool) p a w,p < d → softA (AO (O p)).op = true → L.getD (O p) false = false → Inv L p a w → Inv L (p + 1) a w := by
    rintro L p a w hp hs hu ⟨i1,⟨β,mf,mb,hr,hM,hB⟩,hG⟩
    have hstep := hS p hp
    obtain ⟨hst',v,hfr,_⟩ := step_soft hstep hs
    obtain ⟨_,_,hbne,hbnn,hnx⟩ := soft_mono hstep hs (hnn p (by omega))
    refine ⟨i1,⟨β,fput mf (AO (O p)).dst .und,mb,by rw [hst']; exact (hr.putU _).more (hmon1 p hp),fun t => ?_,fun b => ?_⟩,fun q hq hlq => ?_⟩
    · rw [fget_fput]
      refine ⟨fun ht => ?_,fun ht => ?_⟩
      · obtain ⟨q,hq,h1,h2⟩ := ht
        split
        · rfl
        · rename_i hne
          refine (hM t).1 ⟨q,?_,h1,h2⟩
          by_cases e : q = p
          · subst e; exact absurd h2 hne
          · omega
      · have hne : (AO (O p)).dst ≠ some t := fun e => ht ⟨p,by omega,hu,e⟩
        rw [if_neg hne,hfr,fget_fput,if_neg hne]
        exact (hM t).2 fun ⟨q,hq,h1,h2⟩ => ht ⟨q,by omega,h1,h2⟩
    · refine ⟨fun hb => ?_,fun hb => ?_⟩
      · obtain ⟨q,hq,h1,h2,rfl⟩ := hb
        by_cases e : q = p
        · subst e
          cases hbb : bget mb (NX q) with
          | none => rfl
          | some c => exact absurd (hr.mem.nx _ c hbb) (Nat.lt_irrefl _)
        · exact (hB _).1 ⟨q,by omega,h1,h2,rfl⟩
      · by_cases e : b = NX p
        · subst e
          have hnx1 : NX (p + 1) = NX p := by
            apply Classical.byContradiction
            intro h; exact hb ⟨p,by omega,hu,h,rfl⟩
          rw [hbnn hnx1]
          cases hbb : bget mb (NX p) with
          | none => rfl
          | some c => exact absurd (hr.mem.nx _ c hbb) (Nat.lt_irrefl _)
        · rw [hbne b e]
          exact (hB b).2 fun ⟨q,hq,h1,h2,h3⟩ => hb ⟨q,by omega,h1,h2,h3⟩
    · by_cases e : q = p
      · subst e
        have hgb := good_base hstep hs (hnn q (by omega)) (hD.own q hp)
        exact ⟨hs,hgb⟩
      · obtain ⟨h1,h2⟩ := hG q (by omega) hlq
        refine ⟨h1,good_soft h2 hstep hs (hnn p (by omega)) fun t ht => ⟨hD.rd q p (by omega) hp t ht,fun e' => e (huniq q p t (by omega) hp e' ht)⟩⟩
  have hexts : ∀ (k : Nat) (L : Array Bool) p a w,d - p = k → p ≤ d → (∀ q,p ≤ q → q < d → L.getD (O q) false = false) → Inv L p a w → ∃ p',p ≤ p' ∧ p' ≤ d ∧ (p' < d → softA (AO (O p')).op = false) ∧ Inv L p' a w := by
    intro k
    induction k with
    | zero => intro L p a w hk hp _ hI; exact ⟨p,Nat.le_refl _,hp,fun h => by omega,hI⟩
    | succ k ih =>
      intro L p a w hk hp hu hI
      cases hs : softA (AO (O p)).op with
      | false => exact ⟨p,Nat.le_refl _,hp,fun _ => hs,hI⟩
      | true =>
        obtain ⟨p',h1,h2,h3,h4⟩ := ih L (p + 1) a w (by omega) (by omega) (fun q hq => hu q (by omega)) (hext L p a w (by omega) hs (hu p (Nat.le_refl _) (by omega)) hI)
        exact ⟨p',by omega,h2,h3,h4⟩
  let FI : Array Bool → Act → World → Prop := fun L a w => ∃ p,p ≤ d ∧ (p < d → softA (AO (O p)).op = false) ∧ (∀ q,p ≤ q → q < d → L.getD (O q) false = false) ∧ Inv L p a w
  have toRel : ∀ (L : Array Bool) (a : Act) (w : World),FI L a w → (∀ k,k < d → L.getD k false = true) → ∃ β,Rel P A0 w0 β (ST d) as (FR d) (BX d) (NX d) a w := by
    rintro L a w ⟨p,hp,_,hu,_,⟨β,mf,mb,hr,hM,hB⟩,_⟩ hall
    have hpd : p = d := by
      rcases Nat.lt_or_ge p d with h | h
      · have := hu p (Nat.le_refl _) h
        rw [hall (O p) (hD.lt p h)] at this; cases this
      · omega
    subst hpd
    refine ⟨β,hr.congr (fun t => ((hM t).2 fun ⟨q,hq,h1,_⟩ => by rw [hall (O q) (hD.lt q hq)] at h1; cases h1).symm) (funext fun b => ((hB b).2 fun ⟨q,hq,h1,_⟩ => by rw [hall (O q) (hD.lt q hq)] at h1; cases h1).symm)⟩
  have phase1 : ∀ (fuel : Nat) (L : Array Bool) (a : Act) (w : World),L.size = ops.size → CL L → cnt L ops.size = fuel → (∀ i,d ≤ i → i < ops.size → L.getD i false = false) → FI L a w → wpAnyIn (FW ro) 0 P .any ops Q fuel L a w := by
    intro fuel
    induction fuel with
    | zero =>
      intro L a w hs hcl hcnt hL hinv
      have hall := cnt_zero hcnt
      obtain ⟨β,hr⟩ := toRel L a w hinv fun k hk' => hall k (by omega)
      obtain ⟨_,_,_,_,hsz',_⟩ := hinv
      refine phase2 0 d m0 L a w β (ST d) (FR d) (BX d) (NX d) hs hcl hcnt (Nat.le_refl _) (fun i hi => ⟨fun h => ?_,fun _ => hall i hi⟩) hm0 hsz' hr (hskST d (Nat.le_refl _)) htail
      rcases Nat.lt_or_ge i d with h' | h'
      · exact h'
      · rw [hL i h' hi] at h; cases h
    | succ fuel ih =>
      intro L a w hs hcl hcnt hL hinv
      by_cases hall : ∀ k,k < d → L.getD k false = true
      · obtain ⟨β,hr⟩ := toRel L a w hinv hall
        obtain ⟨_,_,_,_,hsz',_⟩ := hinv
        refine phase2 (fuel + 1) d m0 L a w β (ST d) (FR d) (BX d) (NX d) hs hcl hcnt (Nat.le_refl _) (fun i hi => ⟨fun h => ?_,fun h => hall i h⟩) hm0 hsz' hr (hskST d (Nat.le_refl _)) htail
        rcases Nat.lt_or_ge i d with h' | h'
        · exact h'
        · rw [hL i h' hi] at h; cases h
      · have hex : ∃ k,k < d ∧ L.getD k false = false := by
          apply Classical.byContradiction
          intro hno
          refine hall fun k hk' => ?_
          cases hlk : L.getD k false
          · exact absurd ⟨k,hk',hlk⟩ hno
          · rfl
        obtain ⟨k0,hk0,hlk0⟩ := hex
        refine ⟨fun hnil => absurd hnil (hsomeready L hs ⟨k0,by omega,hlk0⟩),fun i hi => ?_⟩
        obtain ⟨h1,h2,h3⟩ := hready L i hs hcl hi
        have hid : i < d := by
          rcases Nat.lt_or_ge i d with h | h
          · exact h
          · rw [h3 k0 (hD.tail i h (by simpa using h1) k0 (by omega))] at hlk0; cases hlk0
        obtain ⟨o,g1,g2,g3,g4⟩ := hg i h1
        obtain ⟨s1,s2,s3,s4⟩ := cOper_spec g3
        have hcnt' : cnt (L.setIfInBounds i true) ops.size = fuel := by
          have := cnt_set (listed := L) (i := i) (by omega) h2 ops.size
          rw [if_pos h1] at this
          omega
        have hgoon : ∀ a' w',FI (L.setIfInBounds i true) a' w' → wpAnyIn (FW ro) 0 P .any ops Q fuel (L.setIfInBounds i true) a' w' := fun a' w' hinv' =>
          ih _ a' w' (by simp [hs]) (hclset L i hs hcl hi) hcnt' (fun k h4 h5 => by rw [hset L i (by omega),if_neg (by omega)]; exact hL k h4 h5) hinv'
        obtain ⟨p,hp,hpe,hpu,hsz',⟨β,mf,mb,hr,hM,hB⟩,hG⟩ := hinv
        obtain ⟨q,hqd,hqi⟩ := hD.sur i hid
        have hOq : O q = i := hqi
        have hun : ∀ t,(t ∈ looks o ∨ (gsOf ops.toList).getD i none = some t) → ¬ Dm L p t := by
          rintro t ht ⟨q',hq',hl,hdt⟩
          obtain ⟨x,hx,_,_,hdx⟩ := hg (O q') (hOlt q' (by omega))
          have := hD.anti (O q') i t o (hD.lt q' (by omega)) hid (by simp only [show ops.toList[O q']? = some x from by simpa using hx,Option.bind_some]; rw [← hdx]; exact hdt) (by simpa using g1) ht
          rw [h3 _ this] at hl; cases hl
        have hgs : ∀ t wt,(AO i).guard = some (t,wt) → (gsOf ops.toList).getD i none = some t := by
          intro t wt hgt
          have : ops.toList[i]? = some o := by simpa using g1
          simp only [gsOf,List.getD_eq_getElem?_getD,List.getElem?_map,this,Option.map_some,s2,hgt,Option.getD_some]
        have hguard : ∀ t wt,(AO i).guard = some (t,wt) → RepM A0 w0 β (bget mb) w (fget (FR p) t) (a.tmps.getD t undef) := by
          intro t wt h
          rw [← (hM t).2 (hun t (.inr (hgs t wt h)))]
          exact hr.fr t
        have hdl : ∀ s,o.dst = some s → s < a.tmps.size := fun s hs' => Nat.lt_of_lt_of_le (s4 s hs') hsz'
        have hpd' : ∀ q',q' < d → q' ≠ q → (L.setIfInBounds i true).getD (O q') false = L.getD (O q') false := by
          intro q' hq' hne
          rw [hset L i (by omega),if_neg]
          intro e
          rcases Nat.lt_trichotomy q' q with h | h | h
          · exact hD.ne q' q h hqd (e.trans hOq.symm)
          · exact hne h
          · exact hD.ne q q' h hq' (hOq.trans e.symm)
        unfold wpOpIn
        rw [g1]
        simp only
        rcases Nat.lt_or_ge q p with hqp | hqp
        · -- it stores nothing,and may be late
          have hlq : L.getD (O q) false = false := by rw [hOq]; exact h2
          obtain ⟨hsf,hgood⟩ := hG q hqp hlq
          rw [hOq] at hsf hgood
          -- behind it
          have hback : ∀ β1 v new nm x w1,Rel P A0 w0 β1 (ST p) as (fput mf o.dst v) (addB nm new mb) (NX p) (a.put o.dst x) w1 → (∀ t,o.dst = some t → fget (FR p) t = v) → (∀ c,new = some c → nm = NX q ∧ bget (BX p) nm = some c ∧ NX (q + 1) ≠ NX q) → (new = none → NX (q + 1) = NX q) → FI (L.setIfInBounds i true) (a.put o.dst x) w1 := by
            intro β1 v new nm x w1 hr1 hv hn1 hn2
            refine ⟨p,hp,hpe,fun q' h4 h5 => by rw [hpd' q' h5 (by omega)]; exact hpu q' h4 h5,by rw [put_size]; exact hsz',⟨β1,_,_,hr1,?_,?_⟩,fun q' h4 h5 => ?_⟩
            · refine hM.un (fun t => ⟨?_,?_⟩) (fun t ht => ?_) hv
              · rintro ⟨q',h4,h5,h6⟩
                by_cases e : q' = q
                · subst e; rw [hOq,g4] at h6; exact .inr h6
                · exact .inl ⟨q',h4,by rw [hpd' q' (by omega) e]; exact h5,h6⟩
              · rintro (⟨q',h4,h5,h6⟩ | ht)
                · by_cases e : q' = q
                  · subst e; rw [hOq,hset L i (by omega),if_pos rfl] at h5; cases h5
                  · exact ⟨q',h4,by rw [hpd' q' (by omega) e] at h5; exact h5,h6⟩
                · exact ⟨q,hqp,hlq,by rw [hOq,g4]; exact ht⟩
              · rintro ⟨q',h4,h5,h6⟩
                have e : q' = q := huniq q' q t (by omega) hqd h6 (by rw [hOq,g4]; exact ht)
                subst e; rw [hOq,hset L i (by omega),if_pos rfl] at h5; cases h5
            · refine hB.un (fun b => ⟨?_,?_⟩) (fun c hc' => ?_) (fun c hc' => (hn1 c hc').2.1)
              · rintro ⟨q',h4,h5,h6,rfl⟩
                by_cases e : q' = q
                · subst e
                  cases hnn' : new with
                  | none => exact absurd (hn2 hnn') h6
                  | some c => exact .inr ⟨⟨c,rfl⟩,congrArg Bn.n (hn1 c hnn').1.symm⟩
                · exact .inl ⟨q',h4,by rw [hpd' q' (by omega) e]; exact h5,h6,rfl⟩
              · rintro (⟨q',h4,h5,h6,rfl⟩ | ⟨⟨c,hc'⟩,rfl⟩)
                · by_cases e : q' = q
                  · subst e; rw [hOq,hset L i (by omega),if_pos rfl] at h5; cases h5
                  · exact ⟨q',h4,by rw [hpd' q' (by omega) e] at h5; exact h5,h6,rfl⟩
                · exact ⟨q,hqp,hlq,(hn1 c hc').2.2,congrArg Bn.n (hn1 c hc').1⟩
              · rintro ⟨q',h4,h5,h6,h7⟩
                rw [(hn1 c hc').1] at h7
                replace h7 := Bn.n.inj h7
                have e : q' = q := by
                  rcases Nat.lt_trichotomy q' q with h | h | h
                  · have := hmon (q' + 1) q (by omega) (by omega); have := hmon1 q' (by omega); omega
                  · exact h
                  · have := hmon (q + 1) q' (by omega) (by omega); have := hmon1 q (by omega); have := (hn1 c hc').2.2; omega
                subst e; rw [hOq,hset L i (by omega),if_pos rfl] at h5; cases h5
            · have hne : q' ≠ q := fun e => by subst e; rw [hOq,hset L i (by omega),if_pos rfl] at h5; cases h5
              exact hG q' h4 (by rw [hpd' q' (by omega) hne] at h5; exact h5)
          rcases hgood with ⟨k1,k2,k3⟩ | ⟨k1,k2,k3,k4,k5⟩
          · rw [wanted_of (A := Al A0 w0 (bget mb) β) (B := bget mb) (β := β) (w := w) s2 hguard k1]
            simp only [Bool.not_true,Bool.false_eq_true,if_false]
            refine ⟨fun _ _ => trivial,hgoon _ _ (hback β (.tup .nil) none 0 undef w (hr.void o.dst hdl) (fun t ht => k2 t (by rw [g4]; exact ht)) (fun c h => by cases h) fun _ => k3)⟩
          · rw [wanted_of (A := Al A0 w0 (bget mb) β) (B := bget mb) (β := β) (w := w) s2 hguard k1]
            simp only [Bool.not_false,if_true]
            have hsub : ∀ b c,bget mb b = some c → bget (BX p) b = some c := fun b c hb => (hB.ofSome hb).2
            have hnm : ∃ nm : Nat,bget mb nm = none ∧ (∀ c,(aop E (FR p) (BX p) (NX q) (AO i).op).new = some c → nm = NX q) ∧ aop E (FR p) (BX p) nm (AO i).op = aop E (FR p) (BX p) (NX q) (AO i).op := by
              cases hn : (aop E (FR p) (BX p) (NX q) (AO i).op).new with
              | none =>
                refine ⟨NX p,?_,(fun c h => by cases h),aop_nx _ hn⟩
                cases hbb : bget mb (NX p) with
                | none => rfl
                | some c => exact absurd (hr.mem.nx _ c hbb) (Nat.lt_irrefl _)
              | some c => exact ⟨NX q,(hB _).1 ⟨q,hqp,hlq,by have := (k4 c hn).2; omega,rfl⟩,fun _ _ => rfl,rfl⟩
            obtain ⟨nm,hnm1,hnm2,hnm3⟩ := hnm
            refine soft_wp (E := E) (fr := FR p) (bx := BX p) (nx := nm) s1 hr.mem hnm1 hsub he.G he.S (fun x hx => ev_repB he hr.mem fun t ht => ?_) (by rw [hnm3]; exact k2) fun x w1 β1 hs' hv' => ?_
            · subst ht
              rw [← (hM t).2 (hun t (.inl (by simp only [looks,List.mem_filterMap]; exact ⟨.tmp t,hx,rfl⟩)))]
              exact hr.fr t
            · rw [hnm3] at hs' hv'
              refine hgoon _ _ (hback β1 (aop E (FR p) (BX p) (NX q) (AO i).op).v (aop E (FR p) (BX p) (NX q) (AO i).op).new nm x w1 (hr.softN hnm1 (fun c hc' => ?_) hs' hv' o.dst hdl) (fun t ht => k3 t (by rw [g4]; exact ht)) (fun c hc' => ⟨hnm2 c hc',by rw [hnm2 c hc']; exact (k4 c hc').1,by have := (k4 c hc').2; omega⟩) k5)
              rw [hnm2 c hc']
              have := (k4 c hc').2
              have := hmon (q + 1) p (by omega) hp
              omega
        · -- it is the next effect
          have hqe : q = p := by
            rcases Nat.lt_or_ge p q with h | h
            · have := hD.eff p q h hqd (hpe (by omega))
              rw [show ord.getD q 0 = i from hqi] at this
              have h5 := h3 _ this
              have h6 := hpu p (Nat.le_refl _) (by omega)
              rw [show ord.getD p 0 = O p from rfl,h6] at h5; cases h5
            · omega
          subst hqe
          have heff : softA (AO i).op = false := by rw [← hOq]; exact hpe hqd
          have hstep := hS q hqd
          rw [hOq] at hstep
          -- behind it
          have hDm : ∀ t,Dm (L.setIfInBounds i true) (q + 1) t ↔ Dm L q t := by
            intro t
            constructor
            · rintro ⟨q',h4,h5,h6⟩
              by_cases e : q' = q
              · subst e; rw [hOq,hset L i (by omega),if_pos rfl] at h5; cases h5
              · exact ⟨q',by omega,by rw [hpd' q' (by omega) e] at h5; exact h5,h6⟩
            · rintro ⟨q',h4,h5,h6⟩
              exact ⟨q',by omega,by rw [hpd' q' (by omega) (by omega)]; exact h5,h6⟩
          have hNm : ∀ b,Nm (L.setIfInBounds i true) (q + 1) b ↔ Nm L q b := by
            intro t
            constructor
            · rintro ⟨q',h4,h5,h6⟩
              by_cases e : q' = q
              · subst e; rw [hOq,hset L i (by omega),if_pos rfl] at h5; cases h5
              · exact ⟨q',by omega,by rw [hpd' q' (by omega) e] at h5; exact h5,h6⟩
            · rintro ⟨q',h4,h5,h6⟩
              exact ⟨q',by omega,by rw [hpd' q' (by omega) (by omega)]; exact h5,h6⟩
          have hback : ∀ β1 a1 w1 mf1 mb1,nt ≤ a1.tmps.size → Rel P A0 w0 β1 (ST (q + 1)) as mf1 mb1 (NX (q + 1)) a1 w1 → Msk (Dm L q) (FR (q + 1)) mf1 → MskB (Nm L q) (BX (q + 1)) mb1 →
              (∀ q',q' < q → L.getD (O q') false = false → Good E (AO (O q')) (FR (q + 1)) (BX (q + 1)) (NX q') (NX (q' + 1))) → FI (L.setIfInBounds i true) a1 w1 := by
            intro β1 a1 w1 mf1 mb1 hz1 hr1 hM1 hB1 hG1
            have hu' : ∀ q',q + 1 ≤ q' → q' < d → (L.setIfInBounds i true).getD (O q') false = false := fun q' h4 h5 => by rw [hpd' q' h5 (by omega)]; exact hpu q' (by omega) h5
            obtain ⟨p',h4,h5,h6,h7⟩ := hexts (d - (q + 1)) (L.setIfInBounds i true) (q + 1) a1 w1 rfl (by omega) hu' ⟨hz1,⟨β1,mf1,mb1,hr1,fun t => by rw [hDm t]; exact hM1 t,fun b => by rw [hNm b]; exact hB1 b⟩,fun q' h8 h9 => by
              have hne : q' ≠ q := fun e => by subst e; rw [hOq,hset L i (by omega),if_pos rfl] at h9; cases h9
              have h10 : L.getD (O q') false = false := by rw [hpd' q' (by omega) hne] at h9; exact h9
              exact ⟨(hG q' (by omega) h10).1,hG1 q' (by omega) h10⟩⟩
            exact ⟨p',h5,h6,fun q' h8 h9 => hu' q' (by omega) h9,h7⟩
          have hgoodrd : ∀ q',q' < q → ∀ t,(AO i).dst = some t → t ∉ rdA (AO (O q')).op ++ gRd (AO (O q')).guard ∧ (AO (O q')).dst ≠ some t := by
            intro q' h4 t ht
            refine ⟨hD.rd q' q h4 hqd t (by show (AO (O q)).dst = some t; rw [hOq]; exact ht),fun e => ?_⟩
            have := huniq q' q t (by omega) hqd e (by rw [hOq]; exact ht)
            omega
          by_cases hskip : skipOp (FR q) (AO i).guard = some true
          · have hst' : FR (q + 1) = fput (FR q) (AO i).dst (.tup .nil) ∧ BX (q + 1) = BX q ∧ NX (q + 1) = NX q ∧ ST (q + 1) = ST q := by
              generalize hA : FR (q + 1) = fA at *
              generalize hBB : BX (q + 1) = bA at *
              generalize hNN : NX (q + 1) = nA at *
              generalize hSS : ST (q + 1) = sA at *
              have hno : ∀ {p : Prop},skipOp (FR q) (AO i).guard = some false → p := fun h => by rw [hskip] at h; cases h
              cases hstep with
              | skip h => exact ⟨rfl,rfl,rfl,rfl⟩
              | soft h _ _ => exact hno h
              | store h => exact hno h
              | storeR h => exact hno h
              | appN h => exact hno h
              | appT h => exact hno h
              | appO h => exact hno h
              | appM h => exact hno h
              | msetZ h => exact hno h
              | calN h => exact hno h
              | calX h => exact hno h
              | mset h => exact hno h
            obtain ⟨f1,f2,f3,f4⟩ := hst'
            rw [wanted_of (A := Al A0 w0 (bget mb) β) (B := bget mb) (β := β) (w := w) s2 hguard hskip]
            simp only [Bool.not_true,Bool.false_eq_true,if_false]
            have hdm : ∀ t,o.dst = some t → ¬ Dm L q t := by
              rintro t ht ⟨q',h4,h5,h6⟩
              have := huniq q' q t (by omega) hqd h6 (by rw [hOq,g4]; exact ht)
              omega
            refine ⟨fun _ _ => trivial,hgoon _ _ (hback β _ w (fput mf o.dst (.tup .nil)) mb (by rw [put_size]; exact hsz') (by rw [f3,f4]; exact hr.void o.dst hdl) ?_ (by rw [f2]; exact hB) fun q' h4 h5 => ?_)⟩
            · rw [f1,g4]; exact hM.put _ hdm _
            · have hgq := (hG q' h4 h5).2
              have hr1 : ∀ t ∈ rdA (AO (O q')).op ++ gRd (AO (O q')).guard,fget (FR (q + 1)) t = fget (FR q) t := by
                intro t ht
                rw [f1,fget_fput,if_neg fun e => (hgoodrd q' h4 t e).1 ht]
              have hd1 : ∀ t,(AO (O q')).dst = some t → fget (FR (q + 1)) t = fget (FR q) t := by
                intro t ht
                rw [f1,fget_fput,if_neg fun e => (hgoodrd q' h4 t e).2 ht]
              have hsk' := skip_congr (fr := FR (q + 1)) (fr' := FR q) (g := (AO (O q')).guard) fun t ht => hr1 t (List.mem_append.2 (.inr ht))
              have ha' : ∀ nm,aop E (FR (q + 1)) (BX (q + 1)) nm (AO (O q')).op = aop E (FR q) (BX q) nm (AO (O q')).op := fun nm => by
                rw [f2]; exact aop_congr _ fun t ht => hr1 t (List.mem_append.2 (.inl ht))
              rcases hgq with ⟨k1,k2,k3⟩ | ⟨k1,k2,k3,k4,k5⟩
              · exact .inl ⟨by rw [hsk']; exact k1,fun t ht => by rw [hd1 t ht]; exact k2 t ht,k3⟩
              · exact .inr ⟨by rw [hsk']; exact k1,by rw [ha']; exact k2,fun t ht => by rw [hd1 t ht,ha']; exact k3 t ht,fun c hc' => by rw [ha'] at hc'; rw [f2]; exact k4 c hc',fun hn => by rw [ha'] at hn; exact k5 hn⟩
          · have hskip' : skipOp (FR q) (AO i).guard = some false := by
              have hyes : ∀ {p : Prop},skipOp (FR q) (AO i).guard = some true → p := fun h => absurd h hskip
              generalize hA : FR (q + 1) = fA at *
              generalize hBB : BX (q + 1) = bA at *
              generalize hNN : NX (q + 1) = nA at *
              generalize hSS : ST (q + 1) = sA at *
              cases hstep with
              | skip h => exact hyes h
              | soft h _ _ => exact h
              | store h => exact h
              | storeR h => exact h
              | appN h => exact h
              | appT h => exact h
              | appO h => exact h
              | appM h => exact h
              | msetZ h => exact h
              | calN h => exact h
              | calX h => exact h
              | mset h => exact h
            rw [wanted_of (A := Al A0 w0 (bget mb) β) (B := bget mb) (β := β) (w := w) s2 hguard hskip']
            simp only [Bool.not_false,if_true]
            refine eff_wp (ao := { AO i with re := reL l m ord q i }) (ao0 := AO i) (nt := nt) (sk := sk) he g3 rfl rfl hsz' hr (hskST q (by omega)) hM hB (fun t ht => hun t (.inl ht)) ?_ ?_ hstep hskip' heff ?_
            · rintro t ht ⟨q',h4,h5,h6⟩
              have := huniq q' q t (by omega) hqd h6 (by rw [hOq,g4]; exact ht)
              omega
            · rintro ⟨q',h4,h5,h6,h7⟩
              replace h7 := Bn.n.inj h7
              have := hmon (q' + 1) q (by omega) (by omega)
              have := hmon1 q' (by omega)
              omega
            · intro β1 a1 w1 mf1 mb1 hz1 hr1 hM1 hB1 hact hre hsk1
              refine hgoon _ _ (hback β1 a1 w1 mf1 mb1 hz1 hr1 hM1 hB1 fun q' h4 h5 => ?_)
              obtain ⟨hsq,hgq⟩ := hG q' h4 h5
              have hah : aheadB m (O q') (O q) = false := by
                cases hx : aheadB m (O q') (O q) with
                | false => rfl
                | true => rw [hOq] at hx; rw [h3 _ hx] at h5; cases h5
              refine good_eff (ao2 := AO i) hgq hsq (fun t ht => ?_) (fun hmkb hnx => hact.2 _ ⟨q',h4,h5,hnx,rfl⟩) (hgoodrd q' h4) (fun hmkb => hD.mkb q' q h4 hqd hsq (hpe hqd) hah hmkb) (fun hmkb => ?_)
              · rcases hact.1 t ht with e | ⟨b,⟨c,hb⟩,e⟩
                · exact .inl e
                · refine .inr ⟨b,fun hmkb hnx e' => ?_,e⟩
                  subst e'
                  rw [(hB _).1 ⟨q',h4,h5,hnx,rfl⟩] at hb; cases hb
              · have hah' : aheadB m (ord.getD q' 0) i = false := by rw [← hOq]; exact hah
                have := reL_mem (l := l) (m := m) (ord := ord) (p := q) (q := q') (i := i) h4 (by rw [hD.len]; omega) hsq hmkb hah' heff
                exact reOk_mem hre this
  have hrep : ∀ k,(Array.replicate ops.size false).getD k false = false := by
    intro k
    simp only [Array.getD_eq_getD_getElem?]
    by_cases h : k < ops.size
    · simp [h]
    · simp [h]
  refine phase1 ops.size _ a w (by simp) ?_ ?_ (fun i _ _ => hrep i) ?_
  · intro j o ho hj; rw [hrep] at hj; cases hj
  · unfold cnt
    rw [List.countP_eq_length.2 (fun k _ => by rw [hrep]; rfl)]
    simp
  · obtain ⟨p',_,h2,h3,h4⟩ := hexts (d - 0) (Array.replicate ops.size false) 0 a w rfl (Nat.zero_le _) (fun q _ _ => hrep _) ⟨hsz,⟨β,fr,bx,by rw [e4,e3]; exact hrel,fun t => ⟨fun ⟨q,hq,_⟩ => absurd hq (Nat.not_lt_zero _),fun _ => by rw [e1]⟩,fun b => ⟨fun ⟨q,hq,_⟩ => absurd hq (Nat.not_lt_zero _),fun _ => by rw [e2]⟩⟩,fun q hq => absurd hq (Nat.not_lt_zero _)⟩
    exact ⟨p',h2,h3,fun q _ _ => hrep _,h4⟩
end Go.Proofs.Ytlieoghhkioflaa
/- The engine,part 20g: a drawn region with calls in a row,among what only looks. No condition. -/
namespace Go.Proofs.Ytlieoghhkioflaa
open Go Go.RowKit
variable {P : Program} {E : Env} {A0 : Nat → Prop} {w0 : Base} {Qf : Val → Bx → Prop}
theorem eval_agree {a b : Act} {o : Oper} (h : ∀ t ∈ looks o,b.tmps.getD t undef = a.tmps.getD t undef) : ∀ x ∈ o.op.operands,b.eval x = a.eval x := by
 intro x hx
 cases x with
 | tmp t => exact h t (by simp only [looks,List.mem_filterMap]; exact ⟨.tmp t,by simpa using hx,rfl⟩)
 | const v => rfl
 | global g => rfl
 | func f => rfl
theorem getD_putI (a : Act) (d : Option Tmp) (v : Value) (t : Nat) : (a.put d v).tmps.getD t undef = if d = some t ∧ t < a.tmps.size then v else a.tmps.getD t undef := by
 cases d with
 | none => simp [Act.put]
 | some d =>
  simp only [Act.put,Array.getD_eq_getD_getElem?,Option.some.injEq]
  by_cases h : d = t
  ·subst h
   by_cases h2 : d < a.tmps.size
   ·simp [h2]
   ·simp [h2]
  ·rw [Array.getElem?_setIfInBounds_ne h,if_neg (fun e => h e.1)]
theorem wp_agree {ro : Option Nat} {o : Oper} {a b : Act} {w : World} {next next' : Act → World → Prop} {Q : Exit → Act → World → Prop} (hsel : ∀ cs c,o.op ≠ .select cs c) (hnd : ∀ c,o.op ≠ .defer c) (he : ∀ x ∈ o.op.operands,b.eval x = a.eval x)
  (hn : ∀ v w',next (b.put o.dst v) w' → next' (a.put o.dst v) w') (hd : ∀ d w',next ({ b with defers := d :: b.defers }.put o.dst undef) w' → next' ({ a with defers := d :: a.defers }.put o.dst undef) w')
  (h : o.wpIn (FW ro) 0 P b w next (fun _ _ _ => False)) : o.wpIn (FW ro) 0 P a w next' Q := by
 refine ⟨fun _ _ => trivial,?_⟩
 have h := h.2
 rw [Oper.semAt_eq _ _ _ hnd] at h ⊢
 rw [execOp_congr o hsel he] at h
 generalize (execOp a.eval o).run P w = r at *
 cases r with
 | ok x w' =>
  cases x <;> simp only [Oper.uponIn] at h ⊢ <;>
   first
    | exact hn _ _ h
    | exact hd _ _ h
    | exact ⟨h.1,CallsIn.mono h.2 (fun e w'' he => by cases e <;> first | exact hn _ _ he | exact he.elim | (obtain ⟨_,_,he⟩ := he; exact he.elim))⟩
    | exact ⟨h.1,RowsIn.mono h.2 (fun _ _ he => hn _ _ he)⟩
    | exact ⟨h.1,RoundIn.mono h.2 (fun e w'' he => by cases e <;> first | exact hn _ _ he | exact he.elim | (obtain ⟨_,_,he⟩ := he; exact he.elim))⟩
    | exact h.elim
 | halt x w' => cases x <;> simp only [Oper.uponIn] at h ⊢ <;> exact h.elim
def ChkA (E : Env) (fr : Fr) (bx : Bx) (ao : AOper) : Prop := (aop E fr bx 0 ao.op).pre ∧ ∀ t,ao.dst = some t → fget fr t = (aop E fr bx 0 ao.op).v
theorem floatB_spec {o : Oper} {a : AOper} (h : floatB o a = true) : o.guard = none ∧ (∃ t,o.dst = some t) ∧ floatO o.op = true ∧ floatA a.op = true ∧ a.br = false ∧ a.re = [] := by
 unfold floatB at h
 simp only [Bool.and_eq_true,Bool.not_eq_true',Option.isNone_iff_eq_none,List.isEmpty_iff] at h
 obtain ⟨⟨⟨⟨⟨h1,h2⟩,h3⟩,h4⟩,h5⟩,h6⟩ := h
 exact ⟨h1,Option.isSome_iff_exists.1 h2,h3,h4,h5,h6⟩
def gtmp (ops : Array Oper) (o : Oper) : Option Nat := match o.guard with
 | none => none
 | some (g,_) => (ops[g]?).bind (·.dst)
theorem wanted_agree {ops : Array Oper} {o : Oper} {a b : Act} (hsz : b.tmps.size = a.tmps.size) (h : ∀ t,gtmp ops o = some t → b.tmps.getD t undef = a.tmps.getD t undef) : Region.wanted o (yielded ops b.tmps) = Region.wanted o (yielded ops a.tmps) := by
 unfold Region.wanted
 cases hg : o.guard with
 | none => rfl
 | some gw =>
  obtain ⟨g,want⟩ := gw
  have hy : yielded ops b.tmps g = yielded ops a.tmps g := by
   unfold yielded
   cases ht : (ops[g]?).bind (·.dst) with
   | none => rfl
   | some t =>
    have := h t (by simp only [gtmp,hg,ht])
    simp only [Array.getD_eq_getD_getElem?] at this
    simp only [Option.bind_some]
    by_cases hlt : t < a.tmps.size
    ·have hb : t < b.tmps.size := by rw [hsz]; exact hlt
     rw [Array.getElem?_eq_getElem hlt,Array.getElem?_eq_getElem hb] at this
     rw [Array.getElem?_eq_getElem hlt,Array.getElem?_eq_getElem hb]
     simp only [Option.getD_some] at this
     rw [this]
    ·have ha : a.tmps.size ≤ t := Nat.le_of_not_lt hlt
     have hb : b.tmps.size ≤ t := by rw [hsz]; exact ha
     rw [Array.getElem?_eq_none ha,Array.getElem?_eq_none hb]
  simp only [hy]
structure ChO (ops : Array Oper) (l : List AOper) (m : List Nat) (S R : List Nat) : Prop where
 after : afterOk ops.toList = true
 hm : aheads [] ops.toList = m
 S1 : ∀ i ∈ S,∃ o,ops[i]? = some o ∧ floatB o (l.getD i dflt) = true
 R1 : ∀ i ∈ R,∃ o,ops[i]? = some o ∧ (∀ cs c,o.op ≠ .select cs c) ∧ ∀ c,o.op ≠ .defer c
 all : ∀ i,i < ops.size → i ∈ S ∨ i ∈ R
 dis : ∀ i ∈ S,i ∉ R
 anti : ∀ (i j : Nat) (x y : Oper) (t : Nat),ops[i]? = some x → ops[j]? = some y → x.dst = some t → (t ∈ looks y ∨ gtmp ops y = some t) → aheadB m i j = true
 dst : ∀ (i j : Nat) (x y : Oper) (t : Nat),i ≠ j → ops[i]? = some x → ops[j]? = some y → x.dst = some t → y.dst ≠ some t
 chain : R.Pairwise fun i j => aheadB m i j = true
 nd : R.Nodup
 cl : ∀ i ∈ S,∀ j,j < ops.size → aheadB m j i = true → j ∈ S
 Sp : S.Pairwise fun i j => aheadB m j i = false ∧ i ≠ j
 irr : ∀ i ∈ S,aheadB m i i = false
 Sa : S.Pairwise fun i j => ∀ t,(l.getD j dflt).dst = some t → t ∉ rdA (l.getD i dflt).op ∧ (l.getD i dflt).dst ≠ some t
 Sb : ∀ i ∈ S,∀ t,(l.getD i dflt).dst = some t → t ∉ rdA (l.getD i dflt).op
theorem chain_any {ro : Option Nat} {ops : Array Oper} {l : List AOper} {m S R : List Nat} (hC : ChO ops l m S R) {J : (Nat → Prop) → Nat → Act → World → Prop} {nxt : Act → World → Prop} {Q : Exit → Act → World → Prop} (hq : ∀ a w,nxt a w → Q .normal a w) {a b : Act} {w : World}
  (jm : ∀ (D D' : Nat → Prop) k b w,J D k b w → (∀ i,D' i → D i) → J D' k b w) (j0 : ∀ D b w,J D R.length b w → nxt b w)
  (jF : ∀ (D : Nat → Prop) k b w i o,i ∈ S → D i → ops[i]? = some o → J D k b w → ∃ x,(execOp b.eval o).run P w = .ok (.value x) w ∧ J D k (b.put o.dst x) w)
  (jR : ∀ (D : Nat → Prop) k b w i o,R[k]? = some i → ops[i]? = some o → J D k b w → if Region.wanted o (yielded ops b.tmps) then o.wpIn (FW ro) 0 P b w (fun b' w' => J (fun s => aheadB m s i = false) (k + 1) b' w') (fun _ _ _ => False) else J (fun s => aheadB m s i = false) (k + 1) (b.put o.dst undef) w)
  (b1 : J (fun _ => True) 0 b w) (b2 : b.tmps.size = a.tmps.size) (b3 : b.defers = a.defers) (b4 : ∀ t,(∀ i ∈ S,∀ o,ops[i]? = some o → o.dst ≠ some t) → b.tmps.getD t undef = a.tmps.getD t undef) :
  wpAnyIn (FW ro) 0 P .any ops Q ops.size (Array.replicate ops.size false) a w := by
 have hbS : ∀ i ∈ S,i < ops.size := fun i hi => by obtain ⟨o,ho,_⟩ := hC.S1 i hi; exact (Array.getElem?_eq_some_iff.1 ho).1
 have hbR : ∀ i ∈ R,i < ops.size := fun i hi => by obtain ⟨o,ho,_⟩ := hC.R1 i hi; exact (Array.getElem?_eq_some_iff.1 ho).1
 let CL : Array Bool → Prop := fun L => ∀ j o,ops.toList[j]? = some o → L.getD j false = true → ∀ e ∈ o.after.toList,Region.binds .any e = true → L.getD e.on false = true
 have hset : ∀ (L : Array Bool) i,i < L.size → ∀ k,(L.setIfInBounds i true).getD k false = if k = i then true else L.getD k false := by
  intro L i hi k
  simp only [Array.getD_eq_getD_getElem?]
  by_cases h : k = i
  ·subst h; simp [hi]
  ·rw [if_neg h,Array.getElem?_setIfInBounds_ne (fun e => h e.symm)]
 have hdtf : ∀ (L : Array Bool) i,L.size = ops.size → i < ops.size → L.getD i true = L.getD i false := by
  intro L i h1 h2; simp [Array.getD,h1,h2]
 have hready : ∀ (L : Array Bool) i,L.size = ops.size → CL L → i ∈ Region.ready .any ops L → i < ops.size ∧ L.getD i false = false ∧ ∀ j,aheadB m j i = true → L.getD j false = true := by
  intro L i hs hcl hi
  obtain ⟨h1,h2,o,ho,h3⟩ := mem_ready.1 hi
  refine ⟨h1,by rw [← hdtf L i hs h1]; exact h2,fun j hj => ?_⟩
  exact ahead_listed (L := fun k => L.getD k false) hC.after hcl i o (by simpa using ho) h3 j (by rw [hC.hm]; exact hj)
 have hlisted : ∀ (L : Array Bool) j,CL L → j < ops.size → L.getD j false = true → ∀ i,aheadB m i j = true → L.getD i false = true := by
  intro L j hcl hj hlj i hi
  have h1 : ops[j]? = some ops[j] := Array.getElem?_eq_getElem hj
  exact ahead_listed (L := fun k => L.getD k false) hC.after hcl j ops[j] (by simp [hj]) (hcl j ops[j] (by simp [hj]) hlj) i (by rw [hC.hm]; exact hi)
 have hclset : ∀ (L : Array Bool) i,L.size = ops.size → CL L → i ∈ Region.ready .any ops L → CL (L.setIfInBounds i true) := by
  intro L i hs hcl hi j o ho hj e he' hb
  obtain ⟨h1,h2,o',ho',h3⟩ := mem_ready.1 hi
  rw [hset L i (by omega)] at hj ⊢
  by_cases hji : j = i
  ·subst hji
   have : o = o' := by rw [show ops.toList[j]? = ops[j]? from by simp] at ho; rw [ho'] at ho; simpa using ho.symm
   subst this
   split
   ·rfl
   ·exact h3 e he' hb
  ·rw [if_neg hji] at hj
   split
   ·rfl
   ·exact hcl j o ho hj e he' hb
 have hsomeready : ∀ (L : Array Bool),L.size = ops.size → (∃ i,i < ops.size ∧ L.getD i false = false) → Region.ready .any ops L ≠ [] := by
  rintro L hs ⟨i,hi,hli⟩ hnil
  have hmin : ∀ i,i < ops.size → L.getD i false = false → False := by
   intro i
   induction i using Nat.strongRecOn with
   | _ i ih =>
   intro hi hli
   have : i ∈ Region.ready .any ops L := by
    refine mem_ready.2 ⟨hi,by rw [hdtf L i hs hi]; exact hli,ops[i],Array.getElem?_eq_getElem hi,fun e he' hb => ?_⟩
    cases hle : L.getD e.on false
    ·have hlt : e.on < i := by
      have := List.all_eq_true.1 hC.after i (by simpa using hi)
      simp only [show ops.toList[i]? = some ops[i] from by simp [hi]] at this
      have := List.all_eq_true.1 this e he'
      simpa [hb] using this
     exact (ih e.on hlt (by omega) hle).elim
    ·rfl
   rw [hnil] at this
   cases this
  exact hmin i hi hli
 -- who is pending
 let Pd : Array Bool → Nat → Prop := fun L t => ∃ i ∈ S,L.getD i false = false ∧ ∃ o,ops[i]? = some o ∧ o.dst = some t
 let Inv : Array Bool → Act → World → Prop := fun L a w => ∃ p b,p ≤ R.length ∧ (∀ k i,R[k]? = some i → (L.getD i false = true ↔ k < p)) ∧ J (fun i => L.getD i false = false) p b w ∧ a.tmps.size = b.tmps.size ∧ a.defers = b.defers ∧
  ∀ t,¬ Pd L t → a.tmps.getD t undef = b.tmps.getD t undef
 have main : ∀ (fuel : Nat) (L : Array Bool) (a : Act) (w : World),L.size = ops.size → CL L → cnt L ops.size = fuel → Inv L a w → wpAnyIn (FW ro) 0 P .any ops Q fuel L a w := by
  intro fuel
  induction fuel with
  | zero =>
   rintro L a w hs hcl hcnt ⟨p,b,hp,hR,hcw,hsz,hdf,hag⟩
   have hall := cnt_zero hcnt
   refine ⟨?_,?_⟩
   ·apply List.eq_nil_iff_forall_not_mem.2
    intro i hi
    obtain ⟨h1,h2,_⟩ := hready L i hs hcl hi
    rw [hall i h1] at h2; cases h2
   ·have hpe : R.length ≤ p := by
     rcases Nat.lt_or_ge p R.length with h | h
     ·have := (hR p R[p] (List.getElem?_eq_getElem h)).1 (hall _ (hbR _ (List.getElem_mem h)))
      omega
     ·exact h
    obtain rfl : p = R.length := by omega
    have hab : a = b := by
     obtain ⟨at1,ad1⟩ := a
     obtain ⟨bt1,bd1⟩ := b
     simp only at hsz hdf hag
     subst hdf
     congr 1
     apply Array.ext hsz
     intro i h1 h2
     have := hag i (by rintro ⟨j,hj,hl,_⟩; rw [hall j (hbS j hj)] at hl; cases hl)
     simpa [Array.getD,h1,h2] using this
    subst hab
    exact hq _ _ (j0 _ _ _ hcw)
  | succ fuel ih =>
   rintro L a w hs hcl hcnt ⟨p,b,hp,hR,hcw,hsz,hdf,hag⟩
   refine ⟨fun hnil => ?_,fun i hi => ?_⟩
   ·have : ∃ i,i < ops.size ∧ L.getD i false = false := by
     apply Classical.byContradiction
     intro hno
     have h0 : cnt L ops.size = 0 := by
      unfold cnt
      rw [List.countP_eq_zero]
      intro k hk'
      cases hlk : L.getD k false
      ·exact absurd ⟨k,by simpa using hk',hlk⟩ hno
      ·simp
     omega
    exact absurd hnil (hsomeready L hs this)
   ·obtain ⟨h1,h2,h3⟩ := hready L i hs hcl hi
    have hcnt' : cnt (L.setIfInBounds i true) ops.size = fuel := by
     have := cnt_set (listed := L) (i := i) (by omega) h2 ops.size
     rw [if_pos h1] at this
     omega
    have ho : ops[i]? = some ops[i] := Array.getElem?_eq_getElem h1
    generalize ops[i] = o at ho
    have hoob : ∀ t,¬ t < a.tmps.size → a.tmps.getD t undef = b.tmps.getD t undef := fun t ht => by
     simp only [Array.getD,dif_neg ht,dif_neg (show ¬ t < b.tmps.size from by omega)]
    -- what it looks at is as it is ahead
    have hlk : ∀ t,(t ∈ looks o ∨ gtmp ops o = some t) → a.tmps.getD t undef = b.tmps.getD t undef := by
     intro t ht
     refine hag t ?_
     rintro ⟨j,hj,hl,o',ho',hd⟩
     have := h3 j (hC.anti j i o' o t ho' ho hd ht)
     rw [hl] at this; cases this
    have heq : ∀ x ∈ o.op.operands,b.eval x = a.eval x := eval_agree fun t ht => (hlk t (.inl ht)).symm
    unfold wpOpIn
    rw [ho]
    simp only
    rcases hC.all i h1 with hiS | hiR
    ·obtain ⟨o',ho',hfl⟩ := hC.S1 i hiS
     rw [ho] at ho'; cases ho'
     obtain ⟨hg,_,hst,_⟩ := floatB_spec hfl
     rw [if_pos (by simp [Region.wanted,hg])]
     obtain ⟨x,hx2,hcw2⟩ := jF _ _ _ _ i o hiS h2 ho hcw
     refine wpIn_value (fun c e => by rw [e] at hst; cases hst) (by rw [← execOp_congr o (fun cs c e => by rw [e] at hst; cases hst) heq]; exact hx2) ?_
     refine ih _ _ _ (by simp [hs]) (hclset L i hs hcl hi) hcnt' ⟨p,b.put o.dst x,hp,fun k j hk => ?_,jm _ _ _ _ _ hcw2 fun j hj => ?_,by rw [put_size,put_size]; exact hsz,?_,fun t ht => ?_⟩
     ·rw [hset L i (by omega)]
      have hne : j ≠ i := fun e => hC.dis i hiS (by rw [← e]; exact List.mem_of_getElem? hk)
      rw [if_neg hne]; exact hR k j hk
     ·rw [hset L i (by omega)] at hj
      split at hj
      ·cases hj
      ·exact hj
     ·cases o.dst <;> exact hdf
     ·rw [getD_putI,getD_putI,hsz]
      split
      ·rfl
      ·rename_i hd
       by_cases hlt : t < a.tmps.size
       ·refine hag t ?_
        rintro ⟨j,hj,hl,o',ho',hd'⟩
        by_cases hji : j = i
        ·subst hji
         rw [ho] at ho'; cases ho'
         exact hd ⟨hd',by omega⟩
        ·exact ht ⟨j,hj,by rw [hset L i (by omega),if_neg hji]; exact hl,o',ho',hd'⟩
       ·exact hoob t hlt
    ·obtain ⟨k,hk⟩ := List.mem_iff_getElem?.1 hiR
     have hkp : k = p := by
      have h4 : ¬ k < p := fun h => by rw [(hR k i hk).2 h] at h2; cases h2
      rcases Nat.lt_or_ge p k with h | h
      ·obtain ⟨hlt,hge⟩ := List.getElem?_eq_some_iff.1 hk
       have := List.pairwise_iff_getElem.1 hC.chain p k (by omega) hlt h
       rw [hge] at this
       have := (hR p R[p] (List.getElem?_eq_getElem (by omega))).1 (h3 _ this)
       omega
      ·omega
     subst hkp
     replace hcw := jR _ _ _ _ i o hk ho hcw
     obtain ⟨o',ho',hsel,hnd⟩ := hC.R1 i hiR
     rw [ho] at ho'; cases ho'
     have hklt : k < R.length := (List.getElem?_eq_some_iff.1 hk).1
     have hback : ∀ (a' b' : Act) (w' : World) (v : Value),a'.tmps = (a.put o.dst v).tmps → b'.tmps = (b.put o.dst v).tmps → a'.defers = b'.defers → J (fun s => aheadB m s i = false) (k + 1) b' w' → wpAnyIn (FW ro) 0 P .any ops Q fuel (L.setIfInBounds i true) a' w' := by
      intro a' b' w' v ha' hb' hdf' hcw'
      have hsa : a'.tmps.size = a.tmps.size := by rw [ha',put_size]
      have hsb : b'.tmps.size = b.tmps.size := by rw [hb',put_size]
      refine ih _ _ _ (by simp [hs]) (hclset L i hs hcl hi) hcnt' ⟨k + 1,b',hklt,fun k' j hk' => ?_,jm _ _ _ _ _ hcw' fun j hj => ?_,by omega,hdf',fun t ht => ?_⟩
      ·rw [hset L i (by omega)]
       by_cases hji : j = i
       ·subst hji
        have : k' = k := by
         obtain ⟨l1,g1⟩ := List.getElem?_eq_some_iff.1 hk'
         obtain ⟨l2,g2⟩ := List.getElem?_eq_some_iff.1 hk
         rcases Nat.lt_trichotomy k' k with h | h | h
         ·exact absurd (g1.trans g2.symm) (List.pairwise_iff_getElem.1 hC.nd k' k l1 l2 h)
         ·exact h
         ·exact absurd (g2.trans g1.symm) (List.pairwise_iff_getElem.1 hC.nd k k' l2 l1 h)
        subst this
        simp
       ·rw [if_neg hji,hR k' j hk']
        have : k' ≠ k := fun e => by subst e; rw [hk] at hk'; cases hk'; exact hji rfl
        omega
      ·cases e : aheadB m j i with
       | false => rfl
       | true =>
        have h5 := h3 j e
        rw [hset L i (by omega)] at hj
        split at hj
        ·cases hj
        ·rw [hj] at h5; cases h5
      ·rw [ha',hb',getD_putI,getD_putI,hsz]
       split
       ·rfl
       ·refine hag t ?_
        rintro ⟨j,hj,hl,o',ho',hd'⟩
        have hji : j ≠ i := fun e => hC.dis i (by rw [← e]; exact hj) hiR
        exact ht ⟨j,hj,by rw [hset L i (by omega),if_neg hji]; exact hl,o',ho',hd'⟩
     rw [wanted_agree (a := a) hsz.symm fun t ht => (hlk t (.inr ht)).symm] at hcw
     split
     ·rename_i hw
      rw [if_pos hw] at hcw
      refine wp_agree hsel hnd heq (fun v w' hx => hback _ _ w' v rfl rfl ?_ hx) (fun d w' hx => hback _ _ w' undef ?_ ?_ ?_ hx) hcw
      ·cases o.dst <;> exact hdf
      ·cases o.dst <;> rfl
      ·cases o.dst <;> rfl
      ·cases o.dst <;> simp [Act.put,hdf]
     ·rename_i hw
      rw [if_neg hw] at hcw
      exact ⟨fun _ _ => trivial,hback _ _ w undef rfl rfl (by cases o.dst <;> exact hdf) hcw⟩
 have hrep : ∀ k,(Array.replicate ops.size false).getD k false = false := by
  intro k
  simp only [Array.getD_eq_getD_getElem?]
  by_cases h : k < ops.size
  ·simp [h]
  ·simp [h]
 refine main ops.size _ a w (by simp) ?_ ?_ ⟨0,b,Nat.zero_le _,fun k i _ => ?_,jm _ _ _ _ _ b1 fun _ _ => trivial,b2.symm,b3.symm,fun t ht => ?_⟩
 ·intro j o ho hj; rw [hrep] at hj; cases hj
 ·unfold cnt
  rw [List.countP_eq_length.2 (fun k _ => by rw [hrep]; rfl)]
  simp
 ·rw [hrep]; simp
 ·exact (b4 t fun i hi o ho hd => ht ⟨i,hi,hrep i,o,ho,hd⟩).symm
theorem gtmp_eq (ops : Array Oper) (o : Oper) : gtmpL ops.toList o = gtmp ops o := by
 unfold gtmpL gtmp; cases o.guard <;> simp
theorem chO_of {ops : Array Oper} {l : List AOper} {m S R : List Nat} (hm : aheads [] ops.toList = m) (h : chOk ops.toList l m S R = true) : ChO ops l m S R := by
 unfold chOk at h
 simp only [Bool.and_eq_true] at h
 obtain ⟨⟨⟨⟨⟨⟨⟨⟨⟨h1,h2⟩,h3⟩,h4⟩,h5⟩,h6⟩,h7⟩,h8⟩,h9⟩,ha⟩ := h
 have hR : ∀ i ∈ R,i < ops.size ∧ ∃ o,ops[i]? = some o ∧ (∀ cs c,o.op ≠ .select cs c) ∧ ∀ c,o.op ≠ .defer c := fun i hi => by
  have := List.all_eq_true.1 h3 i hi
  split at this
  ·rename_i o ho
   have ho' : ops[i]? = some o := by simpa using ho
   refine ⟨(Array.getElem?_eq_some_iff.1 ho').1,o,ho',fun cs c e => ?_,fun c e => ?_⟩
   ·rw [e] at this; cases this
   ·rw [e] at this; cases this
  ·cases this
 have h6' : ∀ i j x y t,ops[i]? = some x → ops[j]? = some y → x.dst = some t → (aheadB m i j || (!(looks y).contains t && gtmpL ops.toList y != some t)) = true ∧ (i == j || y.dst != some t) = true := by
  intro i j x y t hx hy ht
  have hi := (Array.getElem?_eq_some_iff.1 hx).1
  have hj := (Array.getElem?_eq_some_iff.1 hy).1
  have := List.all_eq_true.1 h6 i (by simpa using hi)
  rw [show ops.toList[i]? = some x from by simpa using hx] at this
  simp only [Option.bind_some,ht] at this
  have := List.all_eq_true.1 this j (by simpa using hj)
  rw [show ops.toList[j]? = some y from by simpa using hy] at this
  simpa only [Bool.and_eq_true] using this
 refine ⟨h1,hm,fun i hi => ?_,fun i hi => (hR i hi).2,fun i hi => ?_,fun i hi hr => ?_,fun i j x y t hx hy ht hl => ?_,fun i j x y t hij hx hy ht hd => ?_,?_,?_,fun i hi j hj ha => ?_,?_,fun i hi => ?_,?_,fun i hi t ht => ?_⟩
 ·have := List.all_eq_true.1 h2 i hi
  split at this
  ·rename_i o ho
   exact ⟨o,by simpa using ho,this⟩
  ·cases this
 ·have := List.all_eq_true.1 h4 i (by simpa using hi)
  simp only [Bool.or_eq_true,List.contains_iff_mem] at this
  exact this
 ·have := List.all_eq_true.1 h5 i hi
  simp only [Bool.not_eq_true'] at this
  rw [List.contains_iff_mem.2 hr] at this; cases this
 ·have := (h6' i j x y t hx hy ht).1
  simp only [Bool.or_eq_true,Bool.and_eq_true,Bool.not_eq_true',gtmp_eq] at this
  rcases this with h | ⟨a1,a2⟩
  ·exact h
  ·rcases hl with hl | hl
   ·rw [List.contains_iff_mem.2 hl] at a1; cases a1
   ·rw [hl] at a2; simp at a2
 ·have := (h6' i j x y t hx hy ht).2
  simp only [Bool.or_eq_true,beq_iff_eq] at this
  rcases this with h | h
  ·exact hij h
  ·rw [hd] at h; simp at h
 ·rw [List.pairwise_iff_getElem]
  intro q p hq hp hqp
  have := List.all_eq_true.1 (List.all_eq_true.1 h7 p (by simpa using hp)) q (by simpa using hqp)
  simp only [Bool.and_eq_true,List.getD_eq_getElem?_getD,List.getElem?_eq_getElem hq,List.getElem?_eq_getElem hp,Option.getD_some] at this
  exact this.1
 ·unfold List.Nodup
  rw [List.pairwise_iff_getElem]
  intro q p hq hp hqp
  have := List.all_eq_true.1 (List.all_eq_true.1 h7 p (by simpa using hp)) q (by simpa using hqp)
  simp only [Bool.and_eq_true,List.getD_eq_getElem?_getD,List.getElem?_eq_getElem hq,List.getElem?_eq_getElem hp,Option.getD_some] at this
  simpa using this.2
 ·have := List.all_eq_true.1 (List.all_eq_true.1 h8 i hi) j (by simpa using hj)
  simp only [Bool.or_eq_true,Bool.not_eq_true',ha,List.contains_iff_mem] at this
  rcases this with h | h
  ·cases h
  ·exact h
 ·rw [List.pairwise_iff_getElem]
  intro q p hq hp hqp
  have := List.all_eq_true.1 h9 p (by simpa using hp)
  simp only [Bool.and_eq_true] at this
  have := List.all_eq_true.1 this.2 q (by simpa using hqp)
  simp only [Bool.and_eq_true,Bool.not_eq_true',List.getD_eq_getElem?_getD,List.getElem?_eq_getElem hq,List.getElem?_eq_getElem hp,Option.getD_some] at this
  exact ⟨this.1,by simpa using this.2⟩
 ·obtain ⟨p,hp,rfl⟩ := List.getElem_of_mem hi
  have := List.all_eq_true.1 h9 p (by simpa using hp)
  simp only [Bool.and_eq_true,Bool.not_eq_true',List.getD_eq_getElem?_getD,List.getElem?_eq_getElem hp,Option.getD_some] at this
  exact this.1
 ·rw [List.pairwise_iff_getElem]
  intro q p hq hp hqp t ht
  have := List.all_eq_true.1 (List.all_eq_true.1 ha p (by simpa using hp)) q (by simp; omega)
  simp only [List.getD_eq_getElem?_getD (l := S),List.getElem?_eq_getElem hq,List.getElem?_eq_getElem hp,Option.getD_some,ht,Bool.and_eq_true,Bool.not_eq_true',Bool.or_eq_true,beq_iff_eq] at this
  refine ⟨fun hc => ?_,fun hc => ?_⟩
  ·rw [List.contains_iff_mem.2 hc] at this; cases this.1
  ·rcases this.2 with e | e
   ·omega
   ·rw [hc] at e; simp at e
 ·obtain ⟨p,hp,rfl⟩ := List.getElem_of_mem hi
  have := List.all_eq_true.1 (List.all_eq_true.1 ha p (by simpa using hp)) p (by simp)
  simp only [List.getD_eq_getElem?_getD (l := S),List.getElem?_eq_getElem hp,Option.getD_some,ht,Bool.and_eq_true,Bool.not_eq_true'] at this
  intro hc
  rw [List.contains_iff_mem.2 hc] at this; cases this.1
theorem float_does {β : Bn → Loc} {stk : List SFrame} {as : List Act} {fr : Fr} {bx : Bx} {nx nx' : Nat} {a : Act} {w : World} {ops : List Oper} {nt : Nat} {o : Oper} {ao : AOper} (he : EnvOk P E A0 w0) (hc : cOper P ops nt o = some ao) (hf : floatB o ao = true) (hrel : Rel P A0 w0 β stk as fr bx nx a w) (hp : (aop E fr bx nx' ao.op).pre) :
  Gives P A0 w0 β (bget bx) w a o (aop E fr bx nx' ao.op) := by
 obtain ⟨h1,_,_,_⟩ := cOper_spec hc
 obtain ⟨_,_,h3,h4,_⟩ := floatB_spec hf
 have hx : ∀ x,OpR E A0 w0 β (bget bx) w fr a x := fun x => ev_rep he hrel.mem fun t _ => hrel.fr t
 generalize ao.op = op at *
 cases ho : o.op <;> simp only [ho,floatO] at h3 <;> first | (cases h3; done) | skip
 case call c =>
  rw [ho] at h1
  have hcal : c.callee = .builtin .len := by
   split at h3
   ·assumption
   ·cases h3
  simp only [cOp,hcal] at h1
  split at h1
  ·rename_i x t g1 g2
   split at h1
   ·rename_i e g3
    obtain ⟨ox,g4,rfl⟩ := Option.map_eq_some_iff.1 h1
    exact gives_len hrel.mem (fun _ _ h => h) ho hcal g1 g2 g3 (hx x ox g4) hp
   ·split at h1
    ·obtain ⟨ox,g4,rfl⟩ := Option.map_eq_some_iff.1 h1
     cases h4
    ·cases h1
   ·cases h1
  ·cases h1
 all_goals simp only [ho,cOp] at h1
 case makeFunc fn first caps =>
  split at h1
  ·rename_i hf0
   obtain ⟨ls,h2,rfl⟩ := Option.map_eq_some_iff.1 h1
   exact gives_mkf ho hf0 h2 fun x _ ox h => hx x ox h
  ·cases h1
 case fieldAddr t x f =>
  repeat' split at h1
  all_goals first | (cases h1; done) | skip
  simp only [Option.some.injEq] at h1
  subst h1
  rename_i g1 g2 _ _ g3 _ _ g4
  exact gives_fld ho g1 g3 g4 (hx x _ g2) hp
 case move x =>
  obtain ⟨ox,h2,rfl⟩ := Option.map_eq_some_iff.1 h1
  exact ⟨rfl,a.eval x,by simp [execOp,ho],hx x ox h2⟩
 case assign x =>
  obtain ⟨ox,h2,rfl⟩ := Option.map_eq_some_iff.1 h1
  exact ⟨rfl,a.eval x,by simp [execOp,ho],hx x ox h2⟩
 case load t x =>
  split at h1 <;> simp at h1
  rename_i ag s ox h2 h5
  subst h1
  exact gives_load hrel.mem (fun _ _ h => h) ho h2 (hx x _ h5) hp
 case binOp bop t x y u =>
  split at h1
  ·rename_i ox oy h2 h5
   repeat' split at h1
   all_goals first | (simp at h1; done) | skip
   all_goals (try simp only [Option.some.injEq] at h1)
   all_goals first
    | (subst h1; simp only [floatA] at h4; cases h4; done)
    | (subst h1; exact gives_bin ho (hx x _ h2) (hx y _ h5) hp)
  ·cases h1
theorem ev_agree {fr fr' : Fr} {x : Opd} (h : ∀ t ∈ rdO x,fget fr' t = fget fr t) : ev E fr' x = ev E fr x := by
 cases x with
 | t n => simp only [ev]; exact h n (by simp [rdO])
 | _ => rfl
theorem evs_agree {fr fr' : Fr} : ∀ {l : List Opd},(∀ t ∈ rdOs l,fget fr' t = fget fr t) → evs E fr' l = evs E fr l := by
 intro l; induction l with
 | nil => intro _; rfl
 | cons x l ih =>
  intro h
  simp only [evs]
  rw [ev_agree fun t ht => h t (by simp only [rdOs,List.flatMap_cons,List.mem_append]; exact .inl ht),ih fun t ht => h t (by simp only [rdOs,List.flatMap_cons,List.mem_append]; exact .inr ht)]
theorem aop_agree {fr fr' : Fr} {bx : Bx} {op : AOp} (hf : floatA op = true) (h : ∀ t ∈ rdA op,fget fr' t = fget fr t) : aop E fr' bx 0 op = aop E fr bx 0 op := by
 cases op <;> simp only [floatA] at hf <;> first | (cases hf; done) | skip
 all_goals simp only [rdA] at h
 case mv x => simp only [aop,ev_agree h]
 case load => simp only [aop,ev_agree h]
 case fld => simp only [aop,ev_agree h]
 case len => simp only [aop,ev_agree h]
 case mkf fn l => simp only [aop,evs_agree h]
 case bin op x y => simp only [aop]; rw [ev_agree (x := x) fun t ht => h t (List.mem_append.2 (.inl ht)),ev_agree (x := y) fun t ht => h t (List.mem_append.2 (.inr ht))]
theorem aop_nx0 {fr : Fr} {bx : Bx} {nx : Nat} {op : AOp} (hf : floatA op = true) : aop E fr bx nx op = aop E fr bx 0 op := by
 cases op <;> simp only [floatA] at hf <;> first | (cases hf; done) | rfl
theorem sPhase {ops : Array Oper} {nt : Nat} {l : List AOper} (hc : cOpers P ops.toList nt ops.toList = some l) (he : EnvOk P E A0 w0) {β : Bn → Loc} {stk : List SFrame} {as : List Act} {bx : Bx} {nx : Nat} {w : World} {K : List Item} {res : List ARes} {rest : List AOper} :
  ∀ (q : List Nat),(∀ i ∈ q,∃ o,ops[i]? = some o ∧ floatB o (l.getD i dflt) = true) → q.Pairwise (fun i j => ∀ t,(l.getD j dflt).dst = some t → t ∉ rdA (l.getD i dflt).op ∧ (l.getD i dflt).dst ≠ some t) → (∀ i ∈ q,∀ t,(l.getD i dflt).dst = some t → t ∉ rdA (l.getD i dflt).op) →
   ∀ n fr a,nt ≤ a.tmps.size → Rel P A0 w0 β stk as fr bx nx a w → run E Qf n (.ops 0 (q.map (fun i => l.getD i dflt) ++ rest) :: K) stk res fr bx nx →
    ∃ n' fr' b,n' ≤ n ∧ Rel P A0 w0 β stk as fr' bx nx b w ∧ run E Qf n' (.ops 0 rest :: K) stk res fr' bx nx ∧ b.tmps.size = a.tmps.size ∧ b.defers = a.defers ∧
     (∀ t,(∀ i ∈ q,∀ o,ops[i]? = some o → o.dst ≠ some t) → b.tmps.getD t undef = a.tmps.getD t undef) ∧ (∀ t,(∀ i ∈ q,(l.getD i dflt).dst ≠ some t) → fget fr' t = fget fr t) ∧ ∀ i ∈ q,ChkA E fr' bx (l.getD i dflt) := by
 obtain ⟨hlen,hget⟩ := cOpers_get _ _ hc
 intro q
 induction q with
 | nil => intro _ _ _ n fr a hsz hrel hrun; exact ⟨n,fr,a,Nat.le_refl _,hrel,hrun,rfl,rfl,fun _ _ => rfl,fun _ _ => rfl,fun i hi => by cases hi⟩
 | cons i q ih =>
  intro h1 h2 h3 n fr a hsz hrel hrun
  obtain ⟨o,ho,hfl⟩ := h1 i (by simp)
  have hi : i < ops.size := (Array.getElem?_eq_some_iff.1 ho).1
  obtain ⟨ao,g1,g2⟩ := hget i o (by simpa using ho)
  have g3 : l.getD i dflt = ao := by simp only [List.getD_eq_getElem?_getD,g1,Option.getD_some]
  have h3i := h3 i (by simp)
  rw [List.pairwise_cons] at h2
  obtain ⟨h2i,h2q⟩ := h2
  rw [g3] at hfl h3i
  simp only [g3] at h2i
  rw [List.map_cons,List.cons_append,g3] at hrun
  obtain ⟨c1,c2,c3,c4⟩ := cOper_spec g2
  obtain ⟨f1,⟨t0,f2⟩,f3,f4,f5,f6⟩ := floatB_spec hfl
  have hgd : ao.guard = none := by
   unfold guardT at c2; rw [f1] at c2; simpa using c2.symm
  cases n with
  | zero => simp [run] at hrun
  | succ n =>
   have key : (aop E fr bx nx ao.op).pre ∧ (WfT (aop E fr bx nx ao.op).v → run E Qf n (.ops 0 (q.map (fun i => l.getD i dflt) ++ rest) :: K) stk res (fput fr ao.dst (aop E fr bx nx ao.op).v) (addB nx (aop E fr bx nx ao.op).new bx) (addN nx (aop E fr bx nx ao.op).new)) := by
    cases hop : ao.op <;> simp only [hop,floatA] at f4 <;> first | (cases f4; done) | skip
    all_goals
     simp only [run,hgd,skipOp,preFz,hop,opOwns,frz,f5] at hrun
     exact ⟨hrun.1,fun wf => (hrun.2 wf).2⟩
   obtain ⟨hp,hgo⟩ := key
   obtain ⟨hn0,x,hx,hv⟩ := float_does he g2 hfl hrel hp
   rw [hn0] at hgo
   have hd : ∀ s,o.dst = some s → s < a.tmps.size := fun s hs => Nat.lt_of_lt_of_le (c4 s hs) hsz
   have hrel1 := hrel.soft (new := none) (Soft.refl A0 w0 β (bget bx) nx w) hv o.dst hd
   have hdst : ao.dst = some t0 := by rw [c3,f2]
   obtain ⟨n',fr',b,e1,e2,e3,e4,e5,e6,e7,e8⟩ := ih (fun j hj => h1 j (by simp [hj])) h2q (fun j hj => h3 j (by simp [hj])) n _ _ (by rw [put_size]; exact hsz) hrel1 (by rw [← c3]; exact hgo (WfT_of _ _ hv))
   rw [put_size] at e4
   have hkeep : ∀ t,(∀ j ∈ q,(l.getD j dflt).dst ≠ some t) → t ≠ t0 → fget fr' t = fget fr t := fun t ht hne => by
    rw [e7 t ht,f2]; simp only [fput,fget]; rw [if_neg fun e => hne e.symm]
   refine ⟨n',fr',b,by omega,e2,e3,e4,?_,fun t ht => ?_,fun t ht => ?_,fun j hj => ?_⟩
   ·rw [e5]; cases o.dst <;> rfl
   ·rw [e6 t fun j hj => ht j (by simp [hj]),getD_putI,if_neg fun e => ht i (by simp) o ho e.1]
   ·refine hkeep t (fun j hj => ht j (by simp [hj])) fun e => ?_
    have := ht i (by simp)
    rw [g3,hdst,e] at this; exact this rfl
   ·rcases List.mem_cons.1 hj with rfl | hj
    ·rw [g3]
     have hag : aop E fr' bx 0 ao.op = aop E fr bx nx ao.op := by
      rw [aop_nx0 (nx := nx) f4]
      refine aop_agree f4 fun t ht => hkeep t (fun s hs e => (h2i s hs t e).1 ht) fun e => h3i t (by rw [hdst,e]) ht
     refine ⟨by rw [hag]; exact hp,fun t ht => ?_⟩
     rw [hdst] at ht; cases ht
     rw [hag,e7 t0 fun s hs e => (h2i s hs t0 e).2 hdst,f2]; simp only [fput,fget]; rw [if_pos trivial]
    ·exact e8 j hj
theorem chks {l : List AOper} {stk : List SFrame} {fr : Fr} {bx : Bx} {nx : Nat} {K : List Item} {res : List ARes} {rest : List AOper} :
  ∀ (q : List Nat) n,run E Qf n (.ops 0 (q.map (fun i => chkO (l.getD i dflt)) ++ rest) :: K) stk res fr bx nx → (∃ n',n' ≤ n ∧ run E Qf n' (.ops 0 rest :: K) stk res fr bx nx) ∧ ∀ i ∈ q,ChkA E fr bx (l.getD i dflt) := by
 intro q
 induction q with
 | nil => intro n hrun; exact ⟨⟨n,Nat.le_refl _,hrun⟩,fun i hi => by cases hi⟩
 | cons i q ih =>
  intro n hrun
  rw [List.map_cons,List.cons_append] at hrun
  generalize hao : l.getD i dflt = ao at hrun
  cases n with
  | zero => simp [run] at hrun
  | succ n =>
   simp only [chkO,run,skipOp,preFz,opOwns,frz] at hrun
   have hwf : WfT (aop E fr bx nx (.mv (.c (.int .i64 0)))).v := by simp only [aop,ok1,ev,WfT]
   have hgo : reOk E fr bx [(ao.dst,ao.op,none)] ∧ run E Qf n (.ops 0 (q.map (fun i => chkO (l.getD i dflt)) ++ rest) :: K) stk res fr bx nx := hrun.2 hwf
   obtain ⟨hre,hgo⟩ := hgo
   have hre : ((aop E fr bx 0 ao.op).pre ∧ dstV fr ao.dst (aop E fr bx 0 ao.op).v) ∧ True := hre
   obtain ⟨⟨n',h5,h6⟩,h7⟩ := ih n hgo
   refine ⟨⟨n',by omega,h6⟩,fun j hj => ?_⟩
   rcases List.mem_cons.1 hj with rfl | hj
   ·rw [hao]
    refine ⟨hre.1.1,fun t ht => ?_⟩
    have h8 := hre.1.2
    rw [ht] at h8; exact h8.symm
   ·exact h7 j hj
theorem chain_region {n : Nat} {ro : Option Nat} (he : EnvOk P E A0 w0) (IH : ∀ m,m ≤ n → Sound P E A0 w0 Qf m) {ops : Array Oper} {nt : Nat} {l l' : List AOper} (hc : cOpers P ops.toList nt ops.toList = some l) (hd : cChain ops.toList l = some l')
  {K : List Item} {stk : List SFrame} {res : List ARes} {fr : Fr} {bx : Bx} {nx : Nat} {a : Act} {w : World} {β : Bn → Loc} {as : List Act} {sk : List (Option Nat × List Item × List ARes × Nat)} {nxt : Act → World → Prop} {Q : Exit → Act → World → Prop}
  (hrun : run E Qf n (.ops 0 l' :: K) stk res fr bx nx) (hsz : nt ≤ a.tmps.size) (hrel : Rel P A0 w0 β stk as fr bx nx a w) (hsk : skel stk = sk) (hk : Goes P E A0 w0 Qf n nt as sk res K nxt) (hq : ∀ a w,nxt a w → Q .normal a w) :
  wpAnyIn (FW ro) 0 P .any ops Q ops.size (Array.replicate ops.size false) a w := by
 unfold cChain at hd
 split at hd
 ·simp only at hd
  split at hd
  ·rename_i hch
   simp only [Option.some.injEq] at hd
   subst hd
   have hC := chO_of rfl hch
   generalize hS : floats ops.toList l (aheads [] ops.toList) = S at *
   generalize hR : ((List.range ops.toList.length).filter fun i => !S.contains i) = R at *
   generalize hm : aheads [] ops.toList = mm at *
   obtain ⟨hlen,hget⟩ := cOpers_get _ _ hc
   obtain ⟨n',fr',b,e1,e2,e3,e4,e5,e6,_,e8⟩ := sPhase hc he _ hC.S1 hC.Sa hC.Sb n fr a hsz hrel hrun
   refine chain_any hC (J := fun D k b w => ∃ q β stk fr bx nx,q ≤ n ∧ nt ≤ b.tmps.size ∧ Rel P A0 w0 β stk as fr bx nx b w ∧ skel stk = sk ∧ run E Qf q (.ops 0 (rowL l mm S (R.drop k)) :: K) stk res fr bx nx ∧ ∀ i ∈ S,D i → ChkA E fr bx (l.getD i dflt)) hq (b := b)
    (fun D D' k b w h hD => ?_) (fun D b w h => ?_) (fun D k b w i o hi hDi ho h => ?_) (fun D k b w i o hi ho h => ?_) ⟨n',β,stk,fr',bx,nx,e1,by omega,e2,hsk,by rw [List.drop_zero]; exact e3,fun i hi _ => e8 i hi⟩ e4 e5 e6
   ·obtain ⟨q,β,stk,fr,bx,nx,a1,a2,a3,a4,a5,a6⟩ := h
    exact ⟨q,β,stk,fr,bx,nx,a1,a2,a3,a4,a5,fun i hi h => a6 i hi (hD i h)⟩
   ·obtain ⟨q,β,stk,fr,bx,nx,a1,a2,a3,a4,a5,a6⟩ := h
    rw [List.drop_length] at a5
    cases q with
    | zero => simp [run] at a5
    | succ q =>
     simp only [rowL,run] at a5
     exact hk q β stk fr bx nx b w (by omega) a2 a3 a4 a5
   ·obtain ⟨q,β,stk,fr,bx,nx,a1,a2,a3,a4,a5,a6⟩ := h
    obtain ⟨o',ho',hfl⟩ := hC.S1 i hi
    rw [ho] at ho'; cases ho'
    obtain ⟨ao,g1,g2⟩ := hget i o (by simpa using ho)
    have g3 : l.getD i dflt = ao := by simp only [List.getD_eq_getElem?_getD,g1,Option.getD_some]
    have hck := a6 i hi hDi
    rw [g3] at hfl hck
    obtain ⟨c1,c2,c3,c4⟩ := cOper_spec g2
    obtain ⟨_,⟨t0,f2⟩,_⟩ := floatB_spec hfl
    obtain ⟨hn0,x,hx,hv⟩ := float_does (nx' := 0) he g2 hfl a3 hck.1
    have hdd : ∀ s,o.dst = some s → s < b.tmps.size := fun s hs => Nat.lt_of_lt_of_le (c4 s hs) a2
    have hrel1 := a3.soft (new := none) (Soft.refl A0 w0 β (bget bx) nx w) hv o.dst hdd
    refine ⟨x,hx,q,β,stk,fr,bx,nx,a1,by rw [put_size]; exact a2,⟨hrel1.mem,fun t => ?_,hrel1.st,hrel1.df,hrel1.sn⟩,a4,a5,a6⟩
    have h9 := hrel1.fr t
    have e9 : fget (fput fr o.dst (aop E fr bx 0 ao.op).v) t = fget fr t := by
     rw [f2]; simp only [fput,fget]
     split
     ·rename_i e; subst e; exact (hck.2 t0 (by rw [c3,f2])).symm
     ·rfl
    rw [e9] at h9; exact h9
   ·obtain ⟨q,β,stk,fr,bx,nx,a1,a2,a3,a4,a5,a6⟩ := h
    obtain ⟨ao,g1,g2⟩ := hget i o (by simpa using ho)
    have g3 : l.getD i dflt = ao := by simp only [List.getD_eq_getElem?_getD,g1,Option.getD_some]
    have hdrop : R.drop k = i :: R.drop (k + 1) := by
     obtain ⟨hlt,hge⟩ := List.getElem?_eq_some_iff.1 hi
     rw [List.drop_eq_getElem_cons hlt,hge]
    rw [hdrop,rowL,g3] at a5
    cases q with
    | zero => simp [run] at a5
    | succ q =>
     have := op_step (ro := ro) (Q := fun _ _ _ => False) (n := q) he (fun m'' hm'' => IH m'' (by omega)) g2 a2 a3 a4 (l := chkL l mm S i ++ rowL l mm S (R.drop (k + 1))) (K := K) (res := res)
      (knext := fun b' w' => ∃ q β stk fr bx nx,q ≤ n ∧ nt ≤ b'.tmps.size ∧ Rel P A0 w0 β stk as fr bx nx b' w' ∧ skel stk = sk ∧ run E Qf q (.ops 0 (rowL l mm S (R.drop (k + 1))) :: K) stk res fr bx nx ∧ ∀ s ∈ S,aheadB mm s i = false → ChkA E fr bx (l.getD s dflt))
      (fun m'' β' stk' fr' bx' nx' a' w' hm'' hsz' hrel' hsk' hrun' => by
       obtain ⟨⟨n2,hn2,hrun2⟩,hfl⟩ := chks (S.filter fun s => !aheadB mm s i) m'' hrun'
       exact ⟨n2,β',stk',fr',bx',nx',by omega,hsz',hrel',hsk',hrun2,fun s hs hs2 => hfl s (List.mem_filter.2 ⟨hs,by rw [hs2]; rfl⟩)⟩) a5
     split
     ·rename_i hw; rw [if_pos hw] at this; exact this
     ·rename_i hw; rw [if_neg hw] at this; exact this.2
  ·cases hd
 ·cases hd
end Go.Proofs.Ytlieoghhkioflaa
/- The engine,part 20h: an assignment in a region of free order may as well come behind all ahead of it in the text,if nobody waits for it. No condition. -/
namespace Go.Proofs.Ytlieoghhkioflaa
open Go Go.RowKit
theorem lateL_get (k : Nat) : ∀ (l : List Oper) (i j : Nat),(lateL k i l)[j]? = (l[j]?).map fun o => if i + j = k then lateO k o else o := by
 intro l; induction l with
 | nil => intro i j; rfl
 | cons o l ih =>
  intro i j
  cases j with
  | zero => simp [lateL]
  | succ j => simp only [lateL,List.getElem?_cons_succ,ih]; rw [show i + 1 + j = i + (j + 1) by omega]
theorem lateL_len (k : Nat) : ∀ (l : List Oper) (i : Nat),(lateL k i l).length = l.length := by
 intro l; induction l with
 | nil => intro i; rfl
 | cons o l ih => intro i; simp [lateL,ih]
def lateA (ops : Array Oper) (k : Nat) : Array Oper := (lateL k 0 ops.toList).toArray
theorem lateA_get (ops : Array Oper) (k j : Nat) : (lateA ops k)[j]? = (ops[j]?).map fun o => if j = k then lateO k o else o := by
 unfold lateA
 rw [List.getElem?_toArray,lateL_get,Nat.zero_add]; simp
theorem lateA_size (ops : Array Oper) (k : Nat) : (lateA ops k).size = ops.size := by simp [lateA,lateL_len]
theorem lateA_yielded (ops : Array Oper) (k : Nat) : yielded (lateA ops k) = yielded ops := by
 funext tm j
 unfold yielded
 rw [lateA_get]
 cases h : ops[j]? with
 | none => rfl
 | some o =>
  simp only [Option.map_some,Option.bind_some]
  by_cases e : j = k
  ·rw [if_pos e]; rfl
  ·rw [if_neg e]
variable {P : Program}
theorem wp_agree2 {ro : Option Nat} {o : Oper} {a b : Act} {w : World} {next next' : Act → World → Prop} {Qb Q : Exit → Act → World → Prop} (hQ : ∀ e a w,Qb e a w → e = .normal) (hsel : ∀ cs c,o.op ≠ .select cs c) (hnd : ∀ c,o.op ≠ .defer c) (he : ∀ x ∈ o.op.operands,b.eval x = a.eval x)
  (hn : ∀ v w',next (b.put o.dst v) w' → next' (a.put o.dst v) w') (hd : ∀ d w',next ({ b with defers := d :: b.defers }.put o.dst undef) w' → next' ({ a with defers := d :: a.defers }.put o.dst undef) w')
  (h : o.wpIn (FW ro) 0 P b w next Qb) : o.wpIn (FW ro) 0 P a w next' Q := by
 refine ⟨fun _ _ => trivial,?_⟩
 have h := h.2
 rw [Oper.semAt_eq _ _ _ hnd] at h ⊢
 rw [execOp_congr o hsel he] at h
 generalize (execOp a.eval o).run P w = r at *
 cases r with
 | ok x w' =>
  cases x <;> simp only [Oper.uponIn] at h ⊢ <;>
   first
    | exact hn _ _ h
    | exact hd _ _ h
    | exact ⟨h.1,CallsIn.mono h.2 (fun e w'' he => by cases e <;> first | exact hn _ _ he | exact absurd (hQ _ _ _ he) (by simp) | (obtain ⟨_,_,he⟩ := he; exact absurd (hQ _ _ _ he) (by simp)))⟩
    | exact ⟨h.1,RowsIn.mono h.2 (fun _ _ he => hn _ _ he)⟩
    | exact ⟨h.1,RoundIn.mono h.2 (fun e w'' he => by cases e <;> first | exact hn _ _ he | exact absurd (hQ _ _ _ he) (by simp) | (obtain ⟨_,_,he⟩ := he; exact absurd (hQ _ _ _ he) (by simp)))⟩
    | exact h.elim
 | halt x w' => cases x <;> simp only [Oper.uponIn] at h ⊢ <;> first | exact h.elim | exact absurd (hQ _ _ _ h) (by simp)
theorem mv_do {ro : Option Nat} {ops : Array Oper} {k : Nat} {o : Oper} {x : Operand} {a : Act} {w : World} {K : Act → World → Prop} {Q : Exit → Act → World → Prop} (ho : ops[k]? = some o) (hg : o.guard = none) (hx : mvX o.op = some x) :
  wpOpIn (FW ro) 0 P ops Q k K a w ↔ K (a.put o.dst (a.eval x)) w := by
 have hop : o.op = .move x ∨ o.op = .assign x := by
  unfold mvX at hx
  split at hx <;> simp_all
 have hnd : ∀ c,o.op ≠ .defer c := fun c e => by rcases hop with h | h <;> rw [h] at e <;> cases e
 have hex : (execOp a.eval o).run P w = .ok (.value (a.eval x)) w := by rcases hop with h | h <;> simp [execOp,h]
 unfold wpOpIn
 rw [ho]
 simp only [Region.wanted,hg,if_true]
 unfold Oper.wpIn
 rw [Oper.semAt_eq _ _ _ hnd,hex]
 simp only [Oper.uponIn]
 exact ⟨fun h => h.2,fun h => ⟨fun _ _ => trivial,h⟩⟩
theorem put_eval {a : Act} {t : Nat} {v : Value} {x : Operand} (h : ∀ u,x = .tmp u → u ≠ t) : (a.put (some t) v).eval x = a.eval x := by
 cases x with
 | tmp u =>
  show (a.put (some t) v).tmps.getD u undef = a.tmps.getD u undef
  rw [getD_putI,if_neg]
  rintro ⟨h1,_⟩
  injection h1 with h1
  exact h u rfl h1.symm
 | _ => rfl
theorem late_any {ro : Option Nat} {ops : Array Oper} {k : Nat} {a : Act} {w : World} {Qb Q : Exit → Act → World → Prop} (hk : dlOk ops.toList k = true) (hQ : ∀ e a w,Qb e a w → e = .normal) (hq : ∀ a w,Qb .normal a w → Q .normal a w)
  (h : wpAnyIn (FW ro) 0 P .any (lateA ops k) Qb ops.size (Array.replicate ops.size false) a w) : wpAnyIn (FW ro) 0 P .any ops Q ops.size (Array.replicate ops.size false) a w := by
 unfold dlOk at hk
 simp only at hk
 split at hk
 rotate_left
 ·cases hk
 rename_i ok hok
 simp only [Bool.and_eq_true,Option.isNone_iff_eq_none] at hk
 obtain ⟨⟨hg,hafter⟩,hk⟩ := hk
 split at hk
 rotate_left
 ·cases hk
 rename_i t x hdt hx
 have hok : ops[k]? = some ok := by simpa using hok
 have hkl : k < ops.size := (Array.getElem?_eq_some_iff.1 hok).1
 generalize hm : aheads [] ops.toList = m at hk
 have hcond : ∀ j y,ops[j]? = some y → j ≠ k → (∀ cs c,y.op ≠ .select cs c) ∧ (∀ c,y.op ≠ .defer c) ∧ y.dst ≠ some t ∧ (aheadB m j k = true ∨ ∀ u,x = .tmp u → y.dst ≠ some u) ∧ (aheadB m j k = true ∨ afterB y k = true ∨ (t ∉ looks y ∧ gtmp ops y ≠ some t)) ∧ (afterB y k = true → ∀ i,i < k → aheadB m i j = true) := by
  intro j y hy hne
  have hjl : j < ops.size := (Array.getElem?_eq_some_iff.1 hy).1
  have := List.all_eq_true.1 hk j (by simpa using hjl)
  have hy' : ops.toList[j]? = some y := by simpa using hy
  simp only [hy',Bool.or_eq_true,beq_iff_eq,Bool.and_eq_true,bne_iff_ne,ne_eq,Bool.not_eq_true',List.contains_eq_mem,decide_eq_false_iff_not,List.all_eq_true,List.mem_range,gtmp_eq] at this
  rcases this with e | ⟨⟨⟨⟨h1,h2⟩,h3⟩,h4⟩,h5⟩
  ·exact absurd e hne
  ·refine ⟨fun cs c e => ?_,fun c e => ?_,h2,?_,?_,fun hkj i hi => ?_⟩
   ·rw [e] at h1; cases h1
   ·rw [e] at h1; cases h1
   ·rcases h3 with h3 | h3
    ·exact .inl h3
    ·right; intro u e; subst e; simpa using h3
   ·rcases h4 with (h4 | h4) | h4
    ·exact .inl h4
    ·exact .inr (.inl h4)
    ·exact .inr (.inr h4)
   ·rcases h5 with h5 | h5
    ·rw [hkj] at h5; cases h5
    ·exact h5 i hi
 let CL : Array Bool → Prop := fun L => ∀ j o,ops.toList[j]? = some o → L.getD j false = true → ∀ e ∈ o.after.toList,Region.binds .any e = true → L.getD e.on false = true
 have hset : ∀ (L : Array Bool) i b,i < L.size → ∀ k,(L.setIfInBounds i b).getD k false = if k = i then b else L.getD k false := by
  intro L i b hi k
  simp only [Array.getD_eq_getD_getElem?]
  by_cases h : k = i
  ·subst h; simp [hi]
  ·rw [if_neg h,Array.getElem?_setIfInBounds_ne (fun e => h e.symm)]
 have hdtf : ∀ (L : Array Bool) i,L.size = ops.size → i < ops.size → L.getD i true = L.getD i false := by
  intro L i h1 h2; simp [Array.getD,h1,h2]
 have hready : ∀ (L : Array Bool) i,L.size = ops.size → CL L → i ∈ Region.ready .any ops L → i < ops.size ∧ L.getD i false = false ∧ ∀ j,aheadB m j i = true → L.getD j false = true := by
  intro L i hs hcl hi
  obtain ⟨h1,h2,o,ho,h3⟩ := mem_ready.1 hi
  refine ⟨h1,by rw [← hdtf L i hs h1]; exact h2,fun j hj => ?_⟩
  exact ahead_listed (L := fun k => L.getD k false) hafter hcl i o (by simpa using ho) (fun e he => h3 e (by simpa using he)) j (by rw [hm]; exact hj)
 have hlisted : ∀ (L : Array Bool) j,CL L → j < ops.size → L.getD j false = true → ∀ i,aheadB m i j = true → L.getD i false = true := by
  intro L j hcl hj hlj i hi
  have h1 : ops[j]? = some ops[j] := Array.getElem?_eq_getElem hj
  exact ahead_listed (L := fun k => L.getD k false) hafter hcl j ops[j] (by simp [hj]) (hcl j ops[j] (by simp [hj]) hlj) i (by rw [hm]; exact hi)
 have hclset : ∀ (L : Array Bool) i,L.size = ops.size → CL L → i ∈ Region.ready .any ops L → CL (L.setIfInBounds i true) := by
  intro L i hs hcl hi j o ho hj e he' hb
  obtain ⟨h1,h2,o',ho',h3⟩ := mem_ready.1 hi
  rw [hset L i true (by omega)] at hj ⊢
  by_cases hji : j = i
  ·subst hji
   have : o = o' := by rw [show ops.toList[j]? = ops[j]? from by simp] at ho; rw [ho'] at ho; simpa using ho.symm
   subst this
   split
   ·rfl
   ·exact h3 e (by simpa using he') hb
  ·rw [if_neg hji] at hj
   split
   ·rfl
   ·exact hcl j o ho hj e he' hb
 have hsomeready : ∀ (L : Array Bool),L.size = ops.size → (∃ i,i < ops.size ∧ L.getD i false = false) → Region.ready .any ops L ≠ [] := by
  rintro L hs ⟨i,hi,hli⟩ hnil
  have hmin : ∀ i,i < ops.size → L.getD i false = false → False := by
   intro i
   induction i using Nat.strongRecOn with
   | _ i ih =>
   intro hi hli
   have : i ∈ Region.ready .any ops L := by
    refine mem_ready.2 ⟨hi,by rw [hdtf L i hs hi]; exact hli,ops[i],Array.getElem?_eq_getElem hi,fun e he' hb => ?_⟩
    cases hle : L.getD e.on false
    ·have hlt : e.on < i := by
      have := List.all_eq_true.1 hafter i (by simpa using hi)
      simp only [show ops.toList[i]? = some ops[i] from by simp [hi]] at this
      have := List.all_eq_true.1 this e (by simpa using he')
      simpa [hb] using this
     exact (ih e.on hlt (by omega) hle).elim
    ·rfl
   rw [hnil] at this
   cases this
  exact hmin i hi hli
 have hget : ∀ j,j ≠ k → (lateA ops k)[j]? = ops[j]? := fun j hj => by
  rw [lateA_get]; cases ops[j]? <;> simp [hj]
 have hgetk : (lateA ops k)[k]? = some (lateO k ok) := by rw [lateA_get,hok]; simp
 have rne : ∀ (L : Array Bool) j,j ≠ k → (j ∈ Region.ready .any (lateA ops k) L ↔ j ∈ Region.ready .any ops L) := fun L j hj => by
  rw [mem_ready,mem_ready,hget j hj,lateA_size]
 have rk : ∀ (L : Array Bool),L.size = ops.size → L.getD k false = false → (∀ i,i < k → L.getD i false = true) → k ∈ Region.ready .any (lateA ops k) L := fun L hs h1 h2 => by
  refine mem_ready.2 ⟨by rw [lateA_size]; exact hkl,by rw [hdtf L k hs hkl]; exact h1,_,hgetk,fun e he _ => ?_⟩
  simp only [lateO,List.mem_toArray,List.mem_map,List.mem_range] at he
  obtain ⟨i,hi,rfl⟩ := he
  exact h2 i hi
 have conv : ∀ (i : Nat) (K K' : Act → World → Prop) a w,i ≠ k → (∀ o,ops[i]? = some o → (∀ cs c,o.op ≠ .select cs c) ∧ ∀ c,o.op ≠ .defer c) → (∀ a w,K' a w → K a w) → wpOpIn (FW ro) 0 P (lateA ops k) Qb i K' a w → wpOpIn (FW ro) 0 P ops Q i K a w := by
  intro i K K' a w hne hsd hK h
  unfold wpOpIn at h ⊢
  rw [hget i hne] at h
  cases ho : ops[i]? with
  | none => rw [ho] at h; exact hK _ _ h
  | some o =>
   rw [ho] at h
   simp only [lateA_yielded] at h ⊢
   split
   ·rename_i hw
    rw [if_pos hw] at h
    exact wp_agree2 hQ (hsd o ho).1 (hsd o ho).2 (fun _ _ => rfl) (fun _ _ q => hK _ _ q) (fun _ _ q => hK _ _ q) h
   ·rename_i hw
    rw [if_neg hw] at h
    exact ⟨h.1,hK _ _ h.2⟩
 have hsd : ∀ i,i ≠ k → ∀ o,ops[i]? = some o → (∀ cs c,o.op ≠ .select cs c) ∧ ∀ c,o.op ≠ .defer c := fun i hi o ho => ⟨(hcond i o ho hi).1,(hcond i o ho hi).2.1⟩
 -- where it is done already,nothing differs
 have S1 : ∀ (n : Nat) (L : Array Bool) (a : Act) (w : World),L.size = ops.size → L.getD k false = true → wpAnyIn (FW ro) 0 P .any (lateA ops k) Qb n L a w → wpAnyIn (FW ro) 0 P .any ops Q n L a w := by
  have hnil : ∀ (L : Array Bool),L.size = ops.size → L.getD k false = true → (Region.ready .any ops L = [] ↔ Region.ready .any (lateA ops k) L = []) := by
   intro L hs hl
   rw [List.eq_nil_iff_forall_not_mem,List.eq_nil_iff_forall_not_mem]
   have hk' : ∀ ops' : Array Oper,k ∉ Region.ready .any ops' L := fun ops' h => by
    have := (mem_ready.1 h).2.1
    rw [hdtf L k hs hkl,hl] at this; cases this
   exact ⟨fun h j hj => by
    by_cases e : j = k
    ·subst e; exact hk' _ hj
    ·exact h j ((rne L j e).1 hj),fun h j hj => by
    by_cases e : j = k
    ·subst e; exact hk' _ hj
    ·exact h j ((rne L j e).2 hj)⟩
  intro n; induction n with
  | zero => intro L a w hs hl h; exact ⟨(hnil L hs hl).2 h.1,hq _ _ h.2⟩
  | succ n ih =>
   intro L a w hs hl h
   refine ⟨fun hn => hq _ _ (h.1 ((hnil L hs hl).1 hn)),fun i hi => ?_⟩
   have hne : i ≠ k := fun e => by
    subst e
    have := (mem_ready.1 hi).2.1
    rw [hdtf L i hs hkl,hl] at this; cases this
   refine conv i _ _ a w hne (hsd i hne) (fun a w q => ih _ a w (by simp [hs]) ?_ q) (h.2 i ((rne L i hne).2 hi))
   rw [hset L i true (by rw [hs]; exact (mem_ready.1 hi).1)]
   split
   ·rfl
   ·exact hl
 have hdl : ∀ v (a : Act),(a.put (some t) v).tmps.size = a.tmps.size := fun v a => by simp [Act.put]
 have key : ∀ (n : Nat),(∀ (L : Array Bool) (a : Act) (w : World),L.size = ops.size → CL L → cnt L ops.size = n → L.getD k false = false → wpAnyIn (FW ro) 0 P .any (lateA ops k) Qb n L a w → wpAnyIn (FW ro) 0 P .any ops Q n L a w) ∧
   (∀ (L : Array Bool) (a : Act) (w : World),L.size = ops.size → CL L → cnt L ops.size = n → L.getD k false = true → wpAnyIn (FW ro) 0 P .any (lateA ops k) Qb (n + 1) (L.setIfInBounds k false) a w → wpAnyIn (FW ro) 0 P .any ops Q n L (a.put (some t) (a.eval x)) w) := by
  have back : ∀ (L : Array Bool),L.size = ops.size → L.getD k false = true → (L.setIfInBounds k false).setIfInBounds k true = L := by
   intro L hs hl
   apply Array.ext_getElem?
   intro j
   by_cases e : j = k
   ·subst e
    have h1 : j < L.size := by omega
    have := hl
    simp only [Array.getD_eq_getD_getElem?,Array.getElem?_eq_getElem h1,Option.getD_some] at this
    simp [h1,this]
   ·rw [Array.getElem?_setIfInBounds_ne (fun q => e q.symm),Array.getElem?_setIfInBounds_ne (fun q => e q.symm)]
  have forth : ∀ (L : Array Bool),L.size = ops.size → L.getD k false = false → (L.setIfInBounds k true).setIfInBounds k false = L := by
   intro L hs hl
   apply Array.ext_getElem?
   intro j
   by_cases e : j = k
   ·subst e
    have h1 : j < L.size := by omega
    have := hl
    simp only [Array.getD_eq_getD_getElem?,Array.getElem?_eq_getElem h1,Option.getD_some] at this
    simp [h1,this]
   ·rw [Array.getElem?_setIfInBounds_ne (fun q => e q.symm),Array.getElem?_setIfInBounds_ne (fun q => e q.symm)]
  have comm : ∀ (L : Array Bool) i,i ≠ k → (L.setIfInBounds i true).setIfInBounds k false = (L.setIfInBounds k false).setIfInBounds i true := by
   intro L i hne
   apply Array.ext_getElem?
   intro j
   by_cases e : j = k
   ·subst e
    rw [Array.getElem?_setIfInBounds_ne hne]
    simp [Array.getElem?_setIfInBounds]
   ·rw [Array.getElem?_setIfInBounds_ne (fun q => e q.symm)]
    by_cases e2 : j = i
    ·subst e2
     simp [Array.getElem?_setIfInBounds]
    ·rw [Array.getElem?_setIfInBounds_ne (fun q => e2 q.symm),Array.getElem?_setIfInBounds_ne (fun q => e2 q.symm),Array.getElem?_setIfInBounds_ne (fun q => e q.symm)]
  -- it is done now
  have now : ∀ (n : Nat) (L : Array Bool) (a : Act) (w : World),L.size = ops.size → L.getD k false = true → (∀ i,i < k → L.getD i false = true) → wpAnyIn (FW ro) 0 P .any (lateA ops k) Qb (n + 1) (L.setIfInBounds k false) a w → wpAnyIn (FW ro) 0 P .any ops Q n L (a.put (some t) (a.eval x)) w := by
   intro n L a w hs hl hall h
   have hk1 : k ∈ Region.ready .any (lateA ops k) (L.setIfInBounds k false) := rk _ (by simp [hs]) (by rw [hset L k false (by omega),if_pos rfl]) fun i hi => by
    rw [hset L k false (by omega),if_neg (by omega)]; exact hall i hi
   have := (mv_do (x := x) hgetk (by exact hg) (by exact hx)).1 (h.2 k hk1)
   rw [back L hs hl,show (lateO k ok).dst = some t from hdt] at this
   exact S1 n L _ w hs hl this
  intro n
  induction n with
  | zero =>
   refine ⟨fun L a w hs hcl hc hl h => ?_,fun L a w hs hcl hc hl h => now 0 L a w hs hl (fun i hi => cnt_zero hc i (by omega)) h⟩
   have := cnt_zero hc k hkl
   rw [hl] at this; cases this
  | succ n ih =>
   obtain ⟨ihA,ihB⟩ := ih
   constructor
   ·intro L a w hs hcl hc hl h
    refine ⟨fun hn => absurd hn (hsomeready L hs ⟨k,hkl,hl⟩),fun i hi => ?_⟩
    obtain ⟨h1,h2,h3⟩ := hready L i hs hcl hi
    have hcnt' : cnt (L.setIfInBounds i true) ops.size = n := by
     have := cnt_set (listed := L) (i := i) (by omega) h2 ops.size
     rw [if_pos h1] at this
     omega
    by_cases e : i = k
    ·subst e
     refine (mv_do hok hg hx).2 ?_
     rw [hdt]
     refine ihB _ a w (by simp [hs]) (hclset L i hs hcl hi) hcnt' (by rw [hset L i true (by omega),if_pos rfl]) ?_
     rw [forth L hs hl]; exact h
    ·refine conv i _ _ a w e (hsd i e) (fun a w q => ihA _ a w (by simp [hs]) (hclset L i hs hcl hi) hcnt' ?_ q) (h.2 i ((rne L i e).2 hi))
     rw [hset L i true (by omega),if_neg (fun q => e q.symm)]; exact hl
   ·intro L a w hs hcl hc hl h
    have hsome : ∃ i,i < ops.size ∧ L.getD i false = false := by
     apply Classical.byContradiction
     intro hno
     have hz : cnt L ops.size = 0 := by
      unfold cnt
      rw [List.countP_eq_zero]
      intro i hi
      have hi : i < ops.size := by simpa using hi
      cases hli : L.getD i false
      ·exact absurd ⟨i,hi,hli⟩ hno
      ·simp
     omega
    refine ⟨fun hn => absurd hn (hsomeready L hs hsome),fun i hi => ?_⟩
    obtain ⟨h1,h2,h3⟩ := hready L i hs hcl hi
    have e : i ≠ k := fun e => by subst e; rw [hl] at h2; cases h2
    have hio : ops[i]? = some ops[i] := Array.getElem?_eq_getElem h1
    obtain ⟨c1,c2,c3,c4,c5,c6⟩ := hcond i ops[i] hio e
    by_cases hd : afterB ops[i] k = true
    ·exact (now (n + 1) L a w hs hl (fun j hj => h3 j (c6 hd j hj)) h).2 i hi
    ·have hna : ¬ aheadB m i k = true := fun q => by
      have := hlisted L k hcl hkl hl i q
      rw [h2] at this; cases this
     have c4 := c4.resolve_left hna
     have c5 := (c5.resolve_left hna).resolve_left hd
     have hcnt' : cnt (L.setIfInBounds i true) ops.size = n := by
      have := cnt_set (listed := L) (i := i) (by omega) h2 ops.size
      rw [if_pos h1] at this
      omega
     have hi' : i ∈ Region.ready .any (lateA ops k) (L.setIfInBounds k false) := by
      refine (rne _ i e).2 (mem_ready.2 ⟨h1,?_,ops[i],hio,fun e' he hb => ?_⟩)
      ·rw [hdtf _ i (by simp [hs]) h1,hset L k false (by omega),if_neg e]; exact h2
      ·obtain ⟨_,_,o',ho',h5⟩ := mem_ready.1 hi
       have : o' = ops[i] := by rw [hio] at ho'; simpa using ho'.symm
       subst this
       rw [hset L k false (by omega),if_neg]
       ·exact h5 e' he hb
       ·intro q
        refine hd (List.any_eq_true.2 ⟨e',by simpa using he,?_⟩)
        rw [hb,q]; simp
     have hw := h.2 i hi'
     unfold wpOpIn at hw ⊢
     rw [hget i e,hio] at hw
     rw [hio]
     simp only [lateA_yielded] at hw ⊢
     have hwan : Region.wanted ops[i] (yielded ops (a.put (some t) (a.eval x)).tmps) = Region.wanted ops[i] (yielded ops a.tmps) := by
      refine wanted_agree (by simp [Act.put]) fun t' ht' => ?_
      rw [getD_putI,if_neg]
      rintro ⟨q,_⟩
      injection q with q
      subst q; exact c5.2 ht'
     rw [hwan]
     have hK : ∀ (b : Act) (v : Value) w',b.eval x = a.eval x → wpAnyIn (FW ro) 0 P .any (lateA ops k) Qb (n + 1) ((L.setIfInBounds k false).setIfInBounds i true) (b.put ops[i].dst v) w' → wpAnyIn (FW ro) 0 P .any ops Q n (L.setIfInBounds i true) ((b.put (some t) (a.eval x)).put ops[i].dst v) w' := by
      intro b v w' hb q
      rw [← comm L i e] at q
      have := ihB _ _ w' (by simp [hs]) (hclset L i hs hcl hi) hcnt' (by rw [hset L i true (by omega),if_neg (fun q => e q.symm)]; exact hl) q
      have hev : (b.put ops[i].dst v).eval x = a.eval x := by
       rw [← hb]
       cases hdi : ops[i].dst with
       | none => rfl
       | some d => exact put_eval fun u hu q => c4 u hu (by rw [hdi,q])
      rw [hev] at this
      rw [Act.put_comm]
      ·exact this
      ·intro d hd' q
       injection hd' with hd'
       subst hd'; exact c3 q
     split
     ·rename_i hwt
      rw [if_pos hwt] at hw
      refine wp_agree2 hQ c1 c2 (fun y hy => ?_) (fun v w' q => hK a v w' rfl q) (fun d w' q => hK { a with defers := d :: a.defers } undef w' rfl q) hw
      refine eval_agree (o := ops[i]) (fun t' ht' => ?_) y hy
      rw [getD_putI,if_neg]
      rintro ⟨q,_⟩
      injection q with q
      subst q; exact c5.1 ht'
     ·rename_i hwt
      rw [if_neg hwt] at hw
      exact ⟨fun _ _ => trivial,hK a undef w rfl hw.2⟩
 have hrep : ∀ j,(Array.replicate ops.size false).getD j false = false := fun j => by simp [Array.getD]
 refine (key ops.size).1 _ a w (by simp) (fun j o _ hj => by rw [hrep] at hj; cases hj) ?_ (hrep k) h
 unfold cnt
 rw [List.countP_eq_length.2 (fun i _ => by rw [hrep]; rfl)]; simp
theorem late_nxt {ro : Option Nat} {ops : Array Oper} {k : Nat} {a : Act} {w : World} {nxt : Act → World → Prop} {Q : Exit → Act → World → Prop} (hk : dlOk ops.toList k = true) (hq : ∀ a w,nxt a w → Q .normal a w)
  (h : wpAnyIn (FW ro) 0 P .any (lateA ops k) (fun e a w => e = .normal ∧ nxt a w) (lateA ops k).size (Array.replicate (lateA ops k).size false) a w) : wpAnyIn (FW ro) 0 P .any ops Q ops.size (Array.replicate ops.size false) a w := by
 rw [lateA_size] at h
 exact late_any hk (fun _ _ _ h => h.1) (fun _ _ h => hq _ _ h.2) h
end Go.Proofs.Ytlieoghhkioflaa
/- The engine,part 21: the whole run. No condition. -/
namespace Go.Proofs.Ytlieoghhkioflaa
open Go Go.RowKit
variable {P : Program} {E : Env} {A0 : Nat → Prop} {w0 : Base} {Qf : Val → Bx → Prop}
theorem vsubP_rep {w : World} {A : Nat → Prop} : ∀ (v' v : Val) (x : Value),vsubP v' v → RepP w A v x → RepP w A v' x := by
 intro v'
 induction v' with
 | cons h t ih1 ih2 => rintro v x ⟨h',t',rfl,s1,s2⟩ ⟨y,ys,rfl,r1,r2⟩; exact ⟨y,ys,rfl,ih1 _ _ s1 r1,ih2 _ _ s2 r2⟩
 | agg l ih => rintro v x ⟨l',rfl,s⟩ ⟨ys,rfl,r⟩; exact ⟨ys,rfl,ih _ _ s r⟩
 | tup l ih => rintro v x ⟨l',rfl,s⟩ ⟨ys,rfl,r⟩; exact ⟨ys,rfl,ih _ _ s r⟩
 | func fn l ih => rintro v x ⟨l',rfl,s⟩ ⟨ys,rfl,r⟩; exact ⟨ys,rfl,ih _ _ s r⟩
 | view k n c ih =>
  rintro v x (⟨rfl,rfl⟩ | ⟨c',rfl,s⟩) hr
  ·have e : x = .slice none 0 0 := hr
   subst e
   exact ⟨none,0,rfl,by decide,Nat.le_refl _,fun h => absurd h (Nat.lt_irrefl _)⟩
  ·obtain ⟨ad,cap,rfl,h1,h2,h3⟩ := hr
   refine ⟨ad,cap,rfl,h1,h2,fun h0 => ?_⟩
   obtain ⟨g,off,rfl,hg,hA',hc⟩ := h3 h0
   refine ⟨g,off,rfl,hg,hA',fun i hi j hj => ?_⟩
   obtain ⟨y,hy,ho,hr⟩ := hc i hi j hj
   exact ⟨y,hy,ho,ih i j _ _ (s i hi j hj) hr⟩
 | vptr m c ih =>
  rintro v x ⟨c',rfl,s⟩ hr
  obtain ⟨g,off,rfl,hg,hA',hc⟩ := hr
  refine ⟨g,off,rfl,hg,hA',fun j hj => ?_⟩
  obtain ⟨y,hy,hr⟩ := hc j hj
  exact ⟨y,hy,ih j _ _ (s j hj) hr⟩
 | mview kd has f ih =>
  rintro v x ⟨has',f',rfl,s⟩ hr
  obtain ⟨g,h,rfl,hg,hA',hm,hc⟩ := hr
  refine ⟨g,h,rfl,hg,hA',hm,fun k => ⟨fun hk => (hc k).1 (by rw [(s k).1]; exact hk),fun hk => ?_⟩⟩
  obtain ⟨y,hy,hr⟩ := (hc k).2 (by rw [(s k).1]; exact hk)
  exact ⟨y,hy,ih k _ _ ((s k).2 hk) hr⟩
 | und => intro v x _ _; trivial
 | _ => intro v x s r; simp only [vsubP] at s; rw [← s]; exact r
theorem vsub_rep {w : World} {A A' : Nat → Prop} {B B' : Bmap} {β β' : Bn → Loc} {N D : Bn → Prop} (hB : ∀ b c,B b = some c → D b → ∃ c',B' b = some c' ∧ Kin c c' ∧ β' b = β b) (hA : ∀ g,g < w.heap.size → A g → A' g)
  (hN : ∀ b,N b → (∃ e k n,RowB B' b e k n) ∧ (β' b).a = none ∧ (β' b).n = 0 ∧ (β' b).cap = 0) : ∀ (v' v : Val) (x : Value),vsub N D v' v → Rep w A B β v x → Rep w A' B' β' v' x := by
 have hw : ∀ {v : Val} {x : Value},RepP w A v x → RepP w A' v x := fun h => RepP.weak hA h
 intro v'
 induction v' with
 | cons h t ih1 ih2 => rintro v x ⟨h',t',rfl,s1,s2⟩ ⟨y,ys,rfl,r1,r2⟩; exact ⟨y,ys,rfl,ih1 _ _ s1 r1,ih2 _ _ s2 r2⟩
 | agg l ih => rintro v x ⟨l',rfl,s⟩ ⟨ys,rfl,r⟩; exact ⟨ys,rfl,ih _ _ s r⟩
 | tup l ih => rintro v x ⟨l',rfl,s⟩ ⟨ys,rfl,r⟩; exact ⟨ys,rfl,ih _ _ s r⟩
 | func fn l ih => rintro v x ⟨l',rfl,s⟩ ⟨ys,rfl,r⟩; exact ⟨ys,rfl,ih _ _ s r⟩
 | own b =>
  rintro v x (⟨rfl,hd⟩ | ⟨rfl,h⟩) hr
  ·obtain ⟨⟨e,k,n,c,hb,hm⟩,rfl⟩ := hr
   obtain ⟨c',h1,h2,h3⟩ := hB b _ hb hd
   obtain ⟨e',he⟩ := h2.row hm
   exact ⟨⟨e',k,n,c',h1,he⟩,by rw [h3]⟩
  ·have e : x = .slice none 0 0 := hr
   subst e
   obtain ⟨h1,h2,h3,h4⟩ := hN b h
   exact ⟨h1,by rw [h2,h3,h4]; rfl⟩
 | ptr b off =>
  intro v x s hr
  simp only [vsub] at s
  obtain ⟨rfl,hd⟩ := s
  obtain ⟨⟨l,hb,hpb⟩,g,hg,rfl⟩ := hr
  obtain ⟨c',h1,h2,h3⟩ := hB b _ hb hd
  exact ⟨⟨c',h1,h2.ptrB hpb⟩,g,by rw [h3]; exact hg,rfl⟩
 | osl b off m =>
  intro v x s hr
  simp only [vsub] at s
  obtain ⟨rfl,hd⟩ := s
  obtain ⟨e,k,n,⟨c,hb,hm⟩,h4,h5⟩ := hr
  obtain ⟨c',h1,h2,h3⟩ := hB b _ hb hd
  obtain ⟨e',he⟩ := h2.row hm
  exact ⟨e',k,n,⟨c',h1,he⟩,h4,by rw [h3]; exact h5⟩
 | yld b =>
  intro v x s hr
  simp only [vsub] at s
  obtain ⟨rfl,hd⟩ := s
  obtain ⟨g,fr,ps,ca,cb,st,hb,rfl⟩ := hr
  obtain ⟨c',h1,h2,h3⟩ := hB b _ hb hd
  cases c' with
  | lp g' fr' ps' ca' cb' st' => obtain ⟨rfl,_⟩ := h2; exact ⟨g,fr',ps',ca',cb',st',h1,rfl⟩
  | _ => simp [Kin] at h2
 | mapb b =>
  intro v x s hr
  simp only [vsub] at s
  obtain ⟨rfl,hd⟩ := s
  obtain ⟨⟨kd,c,hb,hm⟩,g,hg,rfl⟩ := hr
  obtain ⟨c',h1,h2,h3⟩ := hB b _ hb hd
  exact ⟨⟨kd,c',h1,h2.map hm⟩,g,by rw [h3]; exact hg,rfl⟩
 | mview kd has f ih =>
  rintro v x ⟨has',f',rfl,s⟩ hr
  obtain ⟨g,h,rfl,hg,hA',hm,hc⟩ := hr
  refine ⟨g,h,rfl,hg,hA g hg hA',hm,fun k => ⟨fun hk => (hc k).1 (by rw [(s k).1]; exact hk),fun hk => ?_⟩⟩
  obtain ⟨y,hy,hr⟩ := (hc k).2 (by rw [(s k).1]; exact hk)
  exact ⟨y,hy,hw (vsubP_rep _ _ _ ((s k).2 hk) hr)⟩
 | rptr b i off =>
  intro v x s hr
  simp only [vsub] at s
  obtain ⟨rfl,hd⟩ := s
  obtain ⟨e,k,n,⟨c,hb,hm⟩,hi,g,hg,rfl⟩ := hr
  obtain ⟨c',h1,h2,h3⟩ := hB b _ hb hd
  obtain ⟨e',he⟩ := h2.row hm
  exact ⟨e',k,n,⟨c',h1,he⟩,hi,g,by rw [h3]; exact hg,rfl⟩
 | view k n c ih =>
  rintro v x (⟨rfl,rfl⟩ | ⟨c',rfl,s⟩) hr
  ·have e : x = .slice none 0 0 := hr
   subst e
   exact ⟨none,0,rfl,by decide,Nat.le_refl _,fun h => absurd h (Nat.lt_irrefl _)⟩
  ·obtain ⟨ad,cap,rfl,h1,h2,h3⟩ := hr
   refine ⟨ad,cap,rfl,h1,h2,fun h0 => ?_⟩
   obtain ⟨g,off,rfl,hg,hA',hc⟩ := h3 h0
   refine ⟨g,off,rfl,hg,hA g hg hA',fun i hi j hj => ?_⟩
   obtain ⟨y,hy,ho,hr⟩ := hc i hi j hj
   exact ⟨y,hy,ho,hw (vsubP_rep _ _ _ (s i hi j hj) hr)⟩
 | vptr m c ih =>
  rintro v x ⟨c',rfl,s⟩ hr
  obtain ⟨g,off,rfl,hg,hA',hc⟩ := hr
  refine ⟨g,off,rfl,hg,hA g hg hA',fun j hj => ?_⟩
  obtain ⟨y,hy,hr⟩ := hc j hj
  exact ⟨y,hy,hw (vsubP_rep _ _ _ (s j hj) hr)⟩
 | und => intro v x _ _; trivial
 | nil => intro v x s hr; simp only [vsub] at s; subst s; exact hr
 | _ => intro v x s hr; simp only [vsub] at s; subst s; exact hw hr
theorem chkFr_get {N D : Bn → Prop} {fr : Fr} : ∀ {fr' : Fr},chkFr N D fr fr' → ∀ t,vsub N D (fget fr' t) (fget fr t) := by
 intro fr'; induction fr' with
 | nil => intro _ t; trivial
 | cons p l ih =>
  obtain ⟨s,v⟩ := p
  rintro ⟨h1,h2⟩ t
  simp only [fget]
  split
  ·rename_i e; subst e; exact h1
  ·exact ih h2 t
theorem chkBx_get {N D : Bn → Prop} {bx : Bx} : ∀ {bx' : Bx},chkBx N D bx bx' → ∀ b c,bget bx' b = some c → chkBx1 N D (bget bx b) c := by
 intro bx'; induction bx' with
 | nil => intro _ b c h; cases b <;> cases h
 | cons p l ih =>
  obtain ⟨s,v⟩ := p
  intro h b c hb
  cases v with
  | one v =>
   obtain ⟨h1,h2⟩ := h
   cases b with
   | n b =>
    simp only [bget] at hb
    split at hb
    ·rename_i e; subst e; cases hb; exact h1
    ·exact ih h2 _ c hb
   | f b z => exact ih h2 _ c hb
  | fam d r =>
   obtain ⟨h1,h2⟩ := h
   cases b with
   | n b => exact ih h2 _ c hb
   | f b z =>
    simp only [bget] at hb
    split at hb
    ·rename_i e; obtain ⟨rfl,e⟩ := e; cases hb; exact h1 z e
    ·exact ih h2 _ c hb
theorem idsLt_get {nx : Nat} : ∀ {bx : Bx},idsLt nx bx → ∀ b c,bget bx b = some c → b.id < nx := by
 intro bx; induction bx with
 | nil => intro _ b c h; cases b <;> cases h
 | cons p l ih =>
  obtain ⟨s,v⟩ := p
  rintro ⟨h1,h2⟩ b c hb
  cases v with
  | one v =>
   cases b with
   | n b =>
    simp only [bget] at hb
    split at hb
    ·rename_i e; subst e; exact h1
    ·exact ih h2 _ c hb
   | f b z => exact ih h2 _ c hb
  | fam d r =>
   cases b with
   | n b => exact ih h2 _ c hb
   | f b z =>
    simp only [bget] at hb
    split at hb
    ·rename_i e; obtain ⟨rfl,e⟩ := e; exact h1
    ·exact ih h2 _ c hb
theorem kept_get {nx : Nat} {bx' : Bx} : ∀ {bx : Bx},kept nx bx' bx → ∀ b c,bget bx b = some c → b.id < nx → ∃ c',bget bx' b = some c' := by
 intro bx; induction bx with
 | nil => intro _ b c h; cases b <;> cases h
 | cons p l ih =>
  obtain ⟨s,v⟩ := p
  intro h b c hb hlt
  cases v with
  | one v =>
   obtain ⟨h1,h2⟩ := h
   cases b with
   | n b =>
    simp only [bget] at hb
    split at hb
    ·rename_i e; subst e; exact h1 hlt
    ·exact ih h2 _ c hb hlt
   | f b z => exact ih h2 _ c hb hlt
  | fam d r =>
   obtain ⟨h1,h2⟩ := h
   cases b with
   | n b => exact ih h2 _ c hb hlt
   | f b z =>
    simp only [bget] at hb
    split at hb
    ·rename_i e; obtain ⟨rfl,e⟩ := e; exact h1 hlt z e
    ·exact ih h2 _ c hb hlt
theorem chk_kin {N D : Bn → Prop} {c c' : Box} (hk : chkBx1 N D (some c) c') : Kin c c' := by
 cases c <;> cases c' <;> simp only [chkBx1] at hk <;> first | exact hk.elim | trivial | exact ⟨hk.2.1,hk.2.2.1⟩ | exact hk.1 | exact ⟨hk.1,hk.2.1,hk.2.2.1,hk.2.2.2.1⟩
theorem chk_new {N D : Bn → Prop} {c' : Box} (hk : chkBx1 N D none c') : ∃ e k,0 < k ∧ ((∃ c,c' = .row e k 0 c) ∨ ∃ c,c' = .rown e k 0 c) := by
 cases c' <;> simp only [chkBx1] at hk <;> first | exact hk.elim | skip
 ·obtain ⟨rfl,h⟩ := hk; exact ⟨_,_,h,.inl ⟨_,rfl⟩⟩
 ·obtain ⟨rfl,h⟩ := hk; exact ⟨_,_,h,.inr ⟨_,rfl⟩⟩
theorem chk_box {w : World} {A A' : Nat → Prop} {B B' : Bmap} {β β' : Bn → Loc} {N D : Bn → Prop} {b : Bn} {c0 c' : Box} (hk : chkBx1 N D (some c0) c') (hbo : BoxOk P w A B β 0 b c0) (hb0 : β' b = β b)
  (hB : ∀ b c,B b = some c → D b → ∃ c',B' b = some c' ∧ Kin c c' ∧ β' b = β b) (hA : ∀ g,g < w.heap.size → A g → A' g)
  (hN : ∀ b,N b → (∃ e k n,RowB B' b e k n) ∧ (β' b).a = none ∧ (β' b).n = 0 ∧ (β' b).cap = 0) (hβ : ∀ m cm,B m = some cm → β' m = β m) : BoxOk P w A' B' β' 0 b c' := by
 cases c0 <;> cases c' <;> simp only [chkBx1] at hk <;> first | exact hk.elim | skip
 ·obtain ⟨hl,g,ys,ty,p1,p2,p3⟩ := hbo
  exact ⟨hk.1,g,ys,ty,by rw [hb0]; exact p1,p2,vsub_rep hB hA hN _ _ _ hk.2 p3⟩
 ·obtain ⟨rfl,rfl,rfl,hcc⟩ := hk
  obtain ⟨p1,p2,p3,xs,p4,p5⟩ := hbo
  refine ⟨by rw [hb0]; exact p1,p2,p3,xs,by rw [hb0]; exact p4,fun i hi j hj => ?_⟩
  obtain ⟨y,hy,ho,hr⟩ := p5 i hi j hj
  exact ⟨y,hy,ho,RepP.weak hA (vsubP_rep _ _ _ (hcc i hi j hj) hr)⟩
 ·obtain ⟨rfl,hcc⟩ := hk
  obtain ⟨g,m,p1,p2,p3⟩ := hbo
  refine ⟨g,m,by rw [hb0]; exact p1,p2,fun k => ⟨fun hk => (p3 k).1 (by rw [← (hcc k).1]; exact hk),fun hk => ?_⟩⟩
  have hk' := (hcc k).1.symm.trans hk
  obtain ⟨y,hy,hr⟩ := (p3 k).2 hk'
  exact ⟨y,hy,vsub_rep hB hA hN _ _ _ ((hcc k).2 hk') hr⟩
 ·rename_i kd has f kd' f'
  obtain ⟨rfl,hcc⟩ := hk
  obtain ⟨g,m,p1,p2,p3⟩ := hbo
  refine ⟨g,m,by rw [hb0]; exact p1,p2,fun k => ?_⟩
  have hck := hcc k
  cases hh : has k with
  | false =>
   rw [hh] at hck
   rw [(p3 k).1 hh]
   exact vsub_rep hB hA hN _ .nils _ hck rfl
  | true =>
   rw [hh] at hck
   obtain ⟨y,hy,hr⟩ := (p3 k).2 hh
   rw [hy]
   exact vsub_rep hB hA hN _ _ _ hck hr
 ·obtain ⟨rfl,rfl,rfl,rfl,rfl,hcc⟩ := hk
  obtain ⟨p1,rec,nt,p2,p3,p4,p5⟩ := hbo
  exact ⟨by rw [hb0]; exact p1,rec,nt,p2,p3,p4,fun t => vsub_rep hB hA hN _ _ _ (chkFr_get hcc t) (p5 t)⟩
 ·obtain ⟨rfl,hcc⟩ := hk
  obtain ⟨g,p1,p2⟩ := hbo
  refine ⟨g,by rw [hb0]; exact p1,fun m hm => ?_⟩
  subst hm
  obtain ⟨rfl,hD,rfl,hse⟩ := hcc
  obtain ⟨⟨cm,p3,p3'⟩,gm,p4,p5⟩ := p2 m rfl
  obtain ⟨c2,q1,q2,q3⟩ := hB m _ p3 hD
  exact ⟨⟨c2,q1,q2.map p3'⟩,gm,by rw [hβ m _ p3]; exact p4,p5.congr hse⟩
 ·obtain ⟨rfl,rfl,rfl,hcc⟩ := hk
  obtain ⟨p1,p2,p3,xs,p4,p5⟩ := hbo
  refine ⟨by rw [hb0]; exact p1,p2,p3,xs,by rw [hb0]; exact p4,fun i hi j hj => ?_⟩
  obtain ⟨y,hy,ho,hr⟩ := p5 i hi j hj
  exact ⟨y,hy,ho,vsub_rep hB hA hN _ _ _ (hcc i hi j hj) hr⟩
 ·obtain ⟨rfl,hcc⟩ := hk
  obtain ⟨g,m,p1,p2,p3⟩ := hbo
  exact ⟨g,m,by rw [hb0]; exact p1,p2,fun k => vsub_rep hB hA hN _ _ _ (hcc k) (p3 k)⟩
 ·obtain ⟨rfl,hv⟩ := hk
  obtain ⟨p1,y,ty,p2,p3⟩ := hbo
  exact ⟨by rw [hb0]; exact p1,y,ty,p2,vsub_rep hB hA hN _ _ _ hv p3⟩
theorem Rel.chk {β : Bn → Loc} {stk : List SFrame} {as : List Act} {fr fr' : Fr} {bx bx' : Bx} {nx nx' ne : Nat} {a : Act} {w : World} (h : Rel P A0 w0 β stk as fr bx nx a w) (hc : Chk fr bx fr' bx' ne nx') (hsn : ∀ f ∈ stk,f.nx ≤ ne ∧ f.nx ≤ nx') :
  ∃ β',Rel P A0 w0 β' stk as fr' bx' nx' a w := by
 classical
 obtain ⟨h1,h2,h3,h4⟩ := hc
 let β' : Bn → Loc := fun b => if newIn bx bx' b then ⟨none,0,0⟩ else β b
 have hβ : ∀ b c,bget bx b = some c → β' b = β b := by
  intro b c hb
  have : ¬ newIn bx bx' b := fun hn => by rw [hn.1] at hb; cases hb
  simp only [β',if_neg this]
 have hA : ∀ g,g < w.heap.size → Al A0 w0 (bget bx) β g → Al A0 w0 (bget bx') β' g := by
  rintro g hg ⟨hA,hn⟩
  refine ⟨hA,fun b c hb e => ?_⟩
  by_cases hnew : newIn bx bx' b
  ·simp only [β',if_pos hnew] at e; cases e
  ·have : ∃ c0,bget bx b = some c0 := by
    cases hbb : bget bx b with
    | none => exact absurd ⟨hbb,c,hb⟩ hnew
    | some c0 => exact ⟨c0,rfl⟩
   obtain ⟨c0,hc0⟩ := this
   rw [hβ b c0 hc0] at e
   exact hn b c0 hc0 e
 have hB : ∀ b c,bget bx b = some c → hasB bx' b → ∃ c',bget bx' b = some c' ∧ Kin c c' ∧ β' b = β b := by
  rintro b c hb ⟨c',hc'⟩
  have hk := chkBx_get h2 b c' hc'
  rw [hb] at hk
  exact ⟨c',hc',chk_kin hk,hβ b c hb⟩
 have hN : ∀ b,newIn bx bx' b → (∃ e k n,RowB (bget bx') b e k n) ∧ (β' b).a = none ∧ (β' b).n = 0 ∧ (β' b).cap = 0 := by
  intro b hn
  obtain ⟨c',hc'⟩ := hn.2
  have hk := chkBx_get h2 b c' hc'
  rw [hn.1] at hk
  refine ⟨?_,by simp only [β',if_pos hn],by simp only [β',if_pos hn],by simp only [β',if_pos hn]⟩
  obtain ⟨e,k,_,⟨c,rfl⟩ | ⟨c,rfl⟩⟩ := chk_new hk <;> exact ⟨e,k,0,_,hc',rfl⟩
 have hold : ∀ b c',bget bx' b = some c' → ¬ newIn bx bx' b → ∃ c,bget bx b = some c := by
  intro b c' hc' hnew
  cases hbb : bget bx b with
  | none => exact absurd ⟨hbb,c',hc'⟩ hnew
  | some c0 => exact ⟨c0,rfl⟩
 refine ⟨β',⟨fun b c' hc' => ?_,fun b c b' c' g hb hb' hne hg hg' => ?_,fun b c hb => idsLt_get h3 b c hb,fun b c g hb hg => ?_,h.mem.below⟩,fun t => vsub_rep hB hA hN _ _ _ (chkFr_get h1 t) (h.fr t),?_,h.df.mono (Nat.le_refl _) (fun g hg hx => ⟨hA g hg hx,rfl⟩),fun f hf => (hsn f hf).2⟩
 ·have hk := chkBx_get h2 b c' hc'
  by_cases hnew : newIn bx bx' b
  ·obtain ⟨_,e1,e2,e3⟩ := hN b hnew
   rw [hnew.1] at hk
   obtain ⟨e,k,hk0,⟨c,rfl⟩ | ⟨c,rfl⟩⟩ := chk_new hk <;> exact ⟨e2,hk0,Nat.zero_le _,[],by rw [e1,e3]; exact World.ownsRow_nil w _ e k,fun i hi => by omega⟩
  ·obtain ⟨c0,hc0⟩ := hold b c' hc' hnew
   rw [hc0] at hk
   have hbo := h.mem.bx b c0 hc0
   exact chk_box hk hbo (hβ b _ hc0) hB hA hN (fun m cm hm => hβ m cm hm)
 ·by_cases hn : newIn bx bx' b
  ·simp only [β',if_pos hn] at hg; cases hg
  ·by_cases hn' : newIn bx bx' b'
   ·simp only [β',if_pos hn'] at hg'; cases hg'
   ·obtain ⟨c0,hc0⟩ := hold b c hb hn
    obtain ⟨c1,hc1⟩ := hold b' c' hb' hn'
    rw [hβ b _ hc0] at hg
    rw [hβ b' _ hc1] at hg'
    exact h.mem.inj b c0 b' c1 g hc0 hc1 hne hg hg'
 ·by_cases hn : newIn bx bx' b
  ·simp only [β',if_pos hn] at hg; cases hg
  ·obtain ⟨c0,hc0⟩ := hold b c hb hn
   rw [hβ b _ hc0] at hg
   exact h.mem.base b c0 g hc0 hg
 ·have hst := h.st
  have hsn' : ∀ f ∈ stk,f.nx ≤ ne := fun f hf => (hsn f hf).1
  clear hsn
  have hgen : ∀ {stk : List SFrame} {as : List Act},(∀ f ∈ stk,f.nx ≤ ne) → StkR A0 w0 β (bget bx) w stk as → StkR A0 w0 β' (bget bx') w stk as := by
   intro stk; induction stk with
   | nil => intro as _ hs; cases as <;> exact hs
   | cons f l ih =>
    intro as hsn hs
    cases as with
    | nil => exact hs
    | cons a as =>
     refine ⟨fun t => Rep.mono (Nat.le_refl _) (fun g hg hx => ⟨hA g hg hx,rfl⟩) (fun b c hb => ?_) _ _ (hs.1 t),ih (fun f hf => hsn f (by simp [hf])) hs.2⟩
     simp only [Bres] at hb ⊢
     split at hb
     ·rename_i hlt
      rw [if_pos hlt]
      obtain ⟨c',hc'⟩ := kept_get h4 b c hb (Nat.lt_of_lt_of_le hlt (hsn f (by simp)))
      exact hB b c hb ⟨c',hc'⟩
     ·cases hb
  exact hgen hsn' hst
theorem subV_res {b : Bn} {n : Nat} {r : Val} {w : World} {A : Nat → Prop} {B : Bmap} {β : Bn → Loc} (hn : n ≤ b.id) : ∀ (v : Val) (x : Value),Rep w A (Bres B n) β v x → subV b r v = v := by
 have hno : Bres B n b = none := if_neg (Nat.not_lt.2 hn)
 intro v; induction v with
 | cons h t ih1 ih2 => rintro x ⟨y,ys,rfl,h1,h2⟩; simp only [subV,ih1 _ h1,ih2 _ h2]
 | agg l ih => rintro x ⟨ys,rfl,h⟩; simp only [subV,ih _ h]
 | tup l ih => rintro x ⟨ys,rfl,h⟩; simp only [subV,ih _ h]
 | func fn l ih => rintro x ⟨ys,rfl,h⟩; simp only [subV,ih _ h]
 | own b' =>
  rintro x ⟨⟨e,k,m,c,h,_⟩,_⟩
  simp only [subV]
  split
  ·next e => subst e; rw [hno] at h; cases h
  ·rfl
 | ptr b' o =>
  rintro x ⟨⟨l,h,_⟩,_⟩
  simp only [subV]
  split
  ·next e => subst e; rw [hno] at h; cases h
  ·rfl
 | rptr b' i o =>
  rintro x ⟨e,k,m,⟨c,h,_⟩,_⟩
  simp only [subV]
  split
  ·next e => subst e; rw [hno] at h; cases h
  ·rfl
 | mapb b' =>
  rintro x ⟨⟨kd,c,h,_⟩,_⟩
  simp only [subV]
  split
  ·next e => subst e; rw [hno] at h; cases h
  ·rfl
 | osl b' o m =>
  rintro x ⟨e,k,m',⟨c,h,_⟩,_⟩
  simp only [subV]
  split
  ·next e => subst e; rw [hno] at h; cases h
  ·rfl
 | yld b' =>
  rintro x ⟨g,fr,ps,ca,cb,st,h,_⟩
  simp only [subV]
  split
  ·next e => subst e; rw [hno] at h; cases h
  ·rfl
 | _ => intro x _; rfl
theorem Rel.nostk {β : Bn → Loc} {stk : List SFrame} {as : List Act} {fr fr1 : Fr} {bx bx1 : Bx} {nx : Nat} {a : Act} {w : World} {b : Bn} {r : Val} (h : Rel P A0 w0 β stk as fr bx nx a w) (h1 : Rel P A0 w0 β (subStk b r stk) as fr1 bx1 nx a w) (hlb : ∀ f ∈ stk,f.nx ≤ b.id) : Rel P A0 w0 β stk as fr1 bx1 nx a w := by
 refine ⟨h1.mem,h1.fr,?_,h1.df,h.sn⟩
 have hold := h.st
 have hnew := h1.st
 clear h1 h
 revert hold hnew hlb
 generalize bget bx1 = B1
 induction stk generalizing as with
 | nil => intro _ _ h; cases as <;> exact h
 | cons f stk ih2 =>
  intro hlb hold hnew
  cases as with
  | nil => exact hold.elim
  | cons a as =>
   refine ⟨fun t => ?_,ih2 (fun f hf => hlb f (List.mem_cons_of_mem _ hf)) hold.2 hnew.2⟩
   have := hnew.1 t
   rw [fget_subFr] at this
   split at this
   ·rwa [subV_res (hlb f (List.mem_cons_self ..)) _ _ (hold.1 t)] at this
   ·rename_i hno
    have : fget f.fr t = .und := by
     have : ∀ fr : Fr,(fr.any fun p => p.1 == t) = false → fget fr t = .und := by
      intro fr; induction fr with
      | nil => intro _; rfl
      | cons p l ih => intro h; simp only [List.any_cons,Bool.or_eq_false_iff,beq_eq_false_iff_ne] at h; obtain ⟨s,v⟩ := p; simp only [fget]; rw [if_neg h.1]; exact ih h.2
     exact this _ (Bool.eq_false_iff.2 hno)
    rw [this]; trivial
theorem Rel.frzN {β : Bn → Loc} {stk : List SFrame} {as : List Act} {nx : Nat} {a : Act} {w : World} : ∀ (l : List Bn) {fr fr' : Fr} {bx bx' : Bx},Rel P A0 w0 β stk as fr bx nx a w → (∀ b ∈ l,∀ f ∈ stk,f.nx ≤ b.id) → Go.Proofs.Ytlieoghhkioflaa.frz l (fr,bx,[]) = some (fr',bx',[]) → Rel P A0 w0 β stk as fr' bx' nx a w := by
 intro l; induction l with
 | nil => intro fr fr' bx bx' h _ he; simp [Go.Proofs.Ytlieoghhkioflaa.frz] at he; obtain ⟨rfl,rfl⟩ := he; exact h
 | cons b l ih =>
  intro fr fr' bx bx' h hl he
  simp only [Go.Proofs.Ytlieoghhkioflaa.frz] at he
  have hlb := hl b (List.mem_cons_self ..)
  split at he
  ·rename_i e k n c hb
   exact ih (h.nostk (h.frz1 hb) hlb) (fun b' hb' => hl b' (List.mem_cons_of_mem _ hb')) he
  ·rename_i c hb
   split at he
   ·rename_i hp
    exact ih (h.nostk (h.frzC hb hp) hlb) (fun b' hb' => hl b' (List.mem_cons_of_mem _ hb')) he
   ·cases he
  ·exact ih h (fun b' hb' => hl b' (List.mem_cons_of_mem _ hb')) he
  ·cases he
theorem stkNx_mem {stk : List SFrame} {f : SFrame} (h : f ∈ stk) : f.nx ∈ stkNx stk := by
 induction stk with
 | nil => cases h
 | cons g l ih =>
  rcases List.mem_cons.1 h with rfl | h
  ·exact List.mem_cons_self ..
  ·exact List.mem_cons_of_mem _ (ih h)
theorem fget_renFr (b y : Bn) (fr : Fr) (t : Nat) : fget (renFr b y fr) t = renV b y (fget fr t) := by
 induction fr with
 | nil => rfl
 | cons p l ih =>
  obtain ⟨s,v⟩ := p
  simp only [renFr,fget,ih]
  split <;> rfl
theorem bget_renBx (b y : Bn) (bx : Bx) (x : Bn) : bget (renBx b y bx) x = (bget bx x).map (renBox b y) := by
 induction bx with
 | nil => cases x <;> rfl
 | cons p l ih =>
  obtain ⟨t,v⟩ := p
  cases v <;> cases x <;> simp only [renBx,bget,ih] <;> first | rfl | (split <;> simp)
theorem renBox_map (b y : Bn) (c : Box) : renBox b y c = mapBox (renV b y) (renFr b y) (fun m => m.map fun b' => if b' = b then y else b') c := by cases c <;> rfl
theorem isLB_renV (b y : Bn) : ∀ l,isLB l = true → isLB (renV b y l) = true := by
 intro l; induction l with
 | cons h t _ ih => intro hl; exact ih hl
 | nil => intro _; rfl
 | _ => intro hl; simp [isLB] at hl
theorem renV_rep {w : World} {A A' : Nat → Prop} {B B' : Bmap} {β β' : Bn → Loc} {b y : Bn} (hA : ∀ g,g < w.heap.size → A g → A' g)
  (hx : ∀ x c,B x = some c → ∃ c',B' (if x = b then y else x) = some c' ∧ Kin c c' ∧ β' (if x = b then y else x) = β x) : ∀ (v : Val) (x : Value),Rep w A B β v x → Rep w A' B' β' (renV b y v) x := by
 intro v; induction v with
 | cons h t ih1 ih2 => rintro x ⟨z,zs,rfl,h1,h2⟩; exact ⟨z,zs,rfl,ih1 z h1,ih2 _ h2⟩
 | agg l ih => rintro x ⟨zs,rfl,h⟩; exact ⟨zs,rfl,ih _ h⟩
 | tup l ih => rintro x ⟨zs,rfl,h⟩; exact ⟨zs,rfl,ih _ h⟩
 | func fn l ih => rintro x ⟨zs,rfl,h⟩; exact ⟨zs,rfl,ih _ h⟩
 | ptr b' off =>
  rintro x ⟨⟨l,hB,hp⟩,g,hg,rfl⟩
  obtain ⟨c',hc,hk,hβ⟩ := hx b' _ hB
  exact ⟨⟨c',hc,hk.ptrB hp⟩,g,by rw [hβ]; exact hg,rfl⟩
 | mapb b' =>
  rintro x ⟨⟨kd,c,hB,hk0⟩,g,hg,rfl⟩
  obtain ⟨c',hc,hk,hβ⟩ := hx b' _ hB
  exact ⟨⟨kd,c',hc,hk.map hk0⟩,g,by rw [hβ]; exact hg,rfl⟩
 | own b' =>
  rintro x ⟨⟨e,k,n,c,hB,hk0⟩,rfl⟩
  obtain ⟨c',hc,hk,hβ⟩ := hx b' _ hB
  obtain ⟨e',he⟩ := hk.row hk0
  exact ⟨⟨e',k,n,c',hc,he⟩,by rw [hβ]⟩
 | rptr b' i off =>
  rintro x ⟨e,k,n,⟨c,hB,hk0⟩,hi,g,hg,rfl⟩
  obtain ⟨c',hc,hk,hβ⟩ := hx b' _ hB
  obtain ⟨e',he⟩ := hk.row hk0
  exact ⟨e',k,n,⟨c',hc,he⟩,hi,g,by rw [hβ]; exact hg,rfl⟩
 | osl b' off m =>
  rintro x ⟨e,k,n,⟨c,hB,hk0⟩,h4,h5⟩
  obtain ⟨c',hc,hk,hβ⟩ := hx b' _ hB
  obtain ⟨e',he⟩ := hk.row hk0
  exact ⟨e',k,n,⟨c',hc,he⟩,h4,by rw [hβ]; exact h5⟩
 | yld b' =>
  rintro x ⟨g,fr,ps,ca,cb,st,hB,rfl⟩
  obtain ⟨c',hc,hk,hβ⟩ := hx b' _ hB
  cases c' with
  | lp g' fr' ps' ca' cb' st' => obtain ⟨rfl,_⟩ := hk; exact ⟨g,fr',ps',ca',cb',st',hc,rfl⟩
  | _ => simp [Kin] at hk
 | nil => intro x h; exact h
 | und => intro x h; trivial
 | _ => intro x h; exact RepP.weak hA h
theorem Rel.ren1 {β : Bn → Loc} {stk : List SFrame} {as : List Act} {fr : Fr} {bx : Bx} {nx : Nat} {a : Act} {w : World} (h : Rel P A0 w0 β stk as fr bx nx a w) {b y : Bn} {c : Box} (hb : bget bx b = some c) (hy : bget bx y = none) (hyn : y.id < nx) (hst : ∀ f ∈ stk,f.nx ≤ b.id) :
  Rel P A0 w0 (updL β y (β b)) stk as (renFr b y fr) (bset (renBx b y (bdel bx b)) y (renBox b y c)) nx a w := by
 have hby : b ≠ y := fun e => by subst e; rw [hb] at hy; cases hy
 have hB1 : ∀ x,bget (bset (renBx b y (bdel bx b)) y (renBox b y c)) x = if x = y then some (renBox b y c) else if x = b then none else (bget bx x).map (renBox b y) := by
  intro x; rw [bget_bset,bget_renBx,bget_bdel]
  split
  ·rfl
  ·split <;> rfl
 generalize (bset (renBx b y (bdel bx b)) y (renBox b y c)) = bx1 at *
 have hk0 : ∀ c,Kin c (renBox b y c) := fun c => by rw [renBox_map]; exact Kin.mapped _ _ _ c
 have hx : ∀ x c',bget bx x = some c' → ∃ c2,bget bx1 (if x = b then y else x) = some c2 ∧ Kin c' c2 ∧ updL β y (β b) (if x = b then y else x) = β x := by
  intro x c' hx
  by_cases e : x = b
  ·subst e
   rw [hb] at hx; cases hx
   exact ⟨_,by rw [if_pos rfl,hB1,if_pos rfl],hk0 c,by rw [if_pos rfl,updL_new]⟩
  ·have e2 : x ≠ y := fun e => by subst e; rw [hy] at hx; cases hx
   exact ⟨_,by rw [if_neg e,hB1,if_neg e2,if_neg e,hx]; rfl,hk0 c',by rw [if_neg e]; simp [updL,e2]⟩
 have hpre : ∀ x c',bget bx1 x = some c' → ∃ x0 c0,bget bx x0 = some c0 ∧ x = (if x0 = b then y else x0) ∧ updL β y (β b) x = β x0 ∧ c' = renBox b y c0 := by
  intro x c' hx
  rw [hB1] at hx
  split at hx
  ·rename_i e; subst e; cases hx
   exact ⟨b,c,hb,by rw [if_pos rfl],updL_new _ _ _,rfl⟩
  ·rename_i e
   split at hx
   ·cases hx
   ·rename_i e2
    obtain ⟨c2,h2,rfl⟩ := Option.map_eq_some_iff.1 hx
    exact ⟨x,c2,h2,by rw [if_neg e2],by simp [updL,e],rfl⟩
 have hal : ∀ g,g < w.heap.size → Al A0 w0 (bget bx) β g → Al A0 w0 (bget bx1) (updL β y (β b)) g := by
  rintro g hg ⟨hA,hn⟩
  refine ⟨hA,fun x c' hx e => ?_⟩
  obtain ⟨x0,c0,q1,_,q3,_⟩ := hpre x c' hx
  rw [q3] at e
  exact hn x0 c0 q1 e
 have hren := renV_rep (w := w) (A := Al A0 w0 (bget bx) β) (A' := Al A0 w0 (bget bx1) (updL β y (β b))) (B := bget bx) (B' := bget bx1) (β := β) (β' := updL β y (β b)) (b := b) (y := y) hal hx
 refine ⟨⟨fun x c' hx' => ?_,fun x c1 x' c2 g h1 h2 hne hg hg' => ?_,fun x c' hx' => ?_,fun x c' g hx' hg => ?_,h.mem.below⟩,fun t => by rw [fget_renFr]; exact hren _ _ (h.fr t),?_,h.df.mono (Nat.le_refl _) (fun g hg hA => ⟨hal g hg hA,rfl⟩),h.sn⟩
 ·obtain ⟨x0,c0,q1,_,q3,rfl⟩ := hpre x c' hx'
  rw [renBox_map]
  refine (h.mem.bx x0 c0 q1).mapped (Nat.le_refl _) (isLB_renV b y) hren (fun fr x hf t => by rw [fget_renFr]; exact hren _ _ (hf t)) (fun m kd seen last mb' hc hm => ?_) (fun g hg hA => ⟨hal g hg hA,rfl⟩) q3 (fun _ _ => rfl)
  obtain ⟨mb,rfl,rfl⟩ := Option.map_eq_some_iff.1 hm
  refine ⟨mb,rfl,fun cm hcm => ?_⟩
  obtain ⟨c2,r1,r2,r3⟩ := hx mb cm hcm
  exact ⟨⟨c2,r1,r2⟩,r3,fun _ _ => rfl⟩
 ·obtain ⟨x0,d0,q1,q2,q3,_⟩ := hpre x c1 h1
  obtain ⟨x1,d1,r1,r2,r3,_⟩ := hpre x' c2 h2
  rw [q3] at hg
  rw [r3] at hg'
  exact h.mem.inj x0 d0 x1 d1 g q1 r1 (fun e => hne (by rw [q2,r2,e])) hg hg'
 ·obtain ⟨x0,c0,q1,q2,_,_⟩ := hpre x c' hx'
  rw [q2]
  split
  ·exact hyn
  ·exact h.mem.nx x0 c0 q1
 ·obtain ⟨x0,c0,q1,_,q3,_⟩ := hpre x c' hx'
  rw [q3] at hg
  exact h.mem.base x0 c0 g q1 hg
 ·have hst0 := h.st
  clear h hren hpre
  induction stk generalizing as with
  | nil => cases as <;> exact hst0
  | cons f l ih =>
   cases as with
   | nil => exact hst0
   | cons a as =>
    refine ⟨fun t => Rep.mono (Nat.le_refl _) (fun g hg hA => ⟨hal g hg hA,rfl⟩) (fun x c' hx' => ?_) _ _ (hst0.1 t),ih (fun f hf => hst f (List.mem_cons_of_mem _ hf)) hst0.2⟩
    simp only [Bres] at hx' ⊢
    split at hx'
    ·rename_i hlt
     rw [if_pos hlt]
     have e : x ≠ b := fun e => by subst e; have := hst f (List.mem_cons_self ..); omega
     obtain ⟨c2,r1,r2,r3⟩ := hx x c' hx'
     rw [if_neg e] at r1 r3
     exact ⟨c2,r1,r2,r3⟩
    ·cases hx'
theorem Rel.rens {stk : List SFrame} {as : List Act} {nx : Nat} {a : Act} {w : World} : ∀ (l : List (Bn × Bn)) {β : Bn → Loc} {fr fr' : Fr} {bx bx' : Bx},Rel P A0 w0 β stk as fr bx nx a w → (∀ p ∈ l,p.2.id < nx ∧ ∀ f ∈ stk,f.nx ≤ p.1.id) → Go.Proofs.Ytlieoghhkioflaa.rens l (fr,bx) = some (fr',bx') → ∃ β',Rel P A0 w0 β' stk as fr' bx' nx a w := by
 intro l; induction l with
 | nil => intro β fr fr' bx bx' h _ he; simp [Go.Proofs.Ytlieoghhkioflaa.rens] at he; obtain ⟨rfl,rfl⟩ := he; exact ⟨β,h⟩
 | cons p l ih =>
  obtain ⟨b,y⟩ := p
  intro β fr fr' bx bx' h hl he
  simp only [Go.Proofs.Ytlieoghhkioflaa.rens] at he
  split at he
  ·rename_i c hb hy
   have hp := hl (b,y) (List.mem_cons_self ..)
   exact ih (h.ren1 hb hy hp.1 hp.2) (fun p hp => hl p (List.mem_cons_of_mem _ hp)) he
  ·cases he
theorem Rel.more' {β : Bn → Loc} {stk : List SFrame} {as : List Act} {fr : Fr} {bx : Bx} {nx nx' : Nat} {a : Act} {w : World} (h : Rel P A0 w0 β stk as fr bx nx a w) (hn : nx ≤ nx') : Rel P A0 w0 β stk as fr bx nx' a w :=
 ⟨⟨h.mem.bx,h.mem.inj,fun b c hb => Nat.lt_of_lt_of_le (h.mem.nx b c hb) hn,h.mem.base,h.mem.below⟩,h.fr,h.st,h.df,fun f hf => Nat.le_trans (h.sn f hf) hn⟩
theorem rens_lt (la : List (Bn × Bn)) (nx : Nat) : ∃ N,nx ≤ N ∧ ∀ p ∈ la,p.2.id < N := by
 induction la with
 | nil => exact ⟨nx,Nat.le_refl _,fun p hp => by cases hp⟩
 | cons q l ih =>
  obtain ⟨N,h1,h2⟩ := ih
  refine ⟨max N (q.2.id + 1),by omega,fun p hp => ?_⟩
  rcases List.mem_cons.1 hp with rfl | hp
  ·omega
  ·have := h2 p hp; omega
theorem Rel.chkF {β : Bn → Loc} {stk : List SFrame} {as : List Act} {fr fr' : Fr} {bx bx' : Bx} {nx nx' ne : Nat} {a : Act} {w : World} (h : Rel P A0 w0 β stk as fr bx nx a w) (hc : ChkF (stkNx stk) fr bx fr' bx' ne nx') (hsn : ∀ f ∈ stk,f.nx ≤ ne ∧ f.nx ≤ nx') :
  ∃ β',Rel P A0 w0 β' stk as fr' bx' nx' a w := by
 obtain ⟨l,la,hl,hla,fr2,bx2,hf,fr3,bx3,hr,hc⟩ := hc
 obtain ⟨N,hN1,hN2⟩ := rens_lt la nx
 obtain ⟨β',h'⟩ := Rel.rens la ((h.frzN l (fun b hb f hf => hl b hb _ (stkNx_mem hf)) hf).more' hN1) (fun p hp => ⟨hN2 p hp,fun f hf => hla p hp _ (stkNx_mem hf)⟩) hr
 exact h'.chk hc hsn
theorem Rep.two {wa w : World} {Aa A A' : Nat → Prop} {Ba B B' : Bmap} {βa β β' : Bn → Loc} (hA : ∀ g,g < w.heap.size → A g → A' g)
  (hx : ∀ b c0 c1,Ba b = some c0 → B b = some c1 → ∃ c',B' b = some c' ∧ Kin c1 c' ∧ β' b = β b) : ∀ (v : Val) (x0 x : Value),Rep wa Aa Ba βa v x0 → Rep w A B β v x → Rep w A' B' β' v x := by
 intro v; induction v with
 | cons h t ih1 ih2 => rintro x0 x ⟨y0,ys0,rfl,r1,r2⟩ ⟨y,ys,rfl,h1,h2⟩; exact ⟨y,ys,rfl,ih1 y0 y r1 h1,ih2 _ _ r2 h2⟩
 | agg l ih => rintro x0 x ⟨ys0,rfl,r⟩ ⟨ys,rfl,h⟩; exact ⟨ys,rfl,ih _ _ r h⟩
 | tup l ih => rintro x0 x ⟨ys0,rfl,r⟩ ⟨ys,rfl,h⟩; exact ⟨ys,rfl,ih _ _ r h⟩
 | func fn l ih => rintro x0 x ⟨ys0,rfl,r⟩ ⟨ys,rfl,h⟩; exact ⟨ys,rfl,ih _ _ r h⟩
 | ptr b' off =>
  rintro x0 x ⟨⟨l0,hB0,_⟩,_⟩ ⟨⟨l,hB,hp⟩,g,hg,rfl⟩
  obtain ⟨c',hc,hk,hβ⟩ := hx b' _ _ hB0 hB
  exact ⟨⟨c',hc,hk.ptrB hp⟩,g,by rw [hβ]; exact hg,rfl⟩
 | mapb b' =>
  rintro x0 x ⟨⟨_,_,hB0,_⟩,_⟩ ⟨⟨kd,c,hB,hk0⟩,g,hg,rfl⟩
  obtain ⟨c',hc,hk,hβ⟩ := hx b' _ _ hB0 hB
  exact ⟨⟨kd,c',hc,hk.map hk0⟩,g,by rw [hβ]; exact hg,rfl⟩
 | own b' =>
  rintro x0 x ⟨⟨_,_,_,_,hB0,_⟩,_⟩ ⟨⟨e,k,n,c,hB,hk0⟩,rfl⟩
  obtain ⟨c',hc,hk,hβ⟩ := hx b' _ _ hB0 hB
  obtain ⟨e',he⟩ := hk.row hk0
  exact ⟨⟨e',k,n,c',hc,he⟩,by rw [hβ]⟩
 | rptr b' i off =>
  rintro x0 x ⟨_,_,_,⟨_,hB0,_⟩,_⟩ ⟨e,k,n,⟨c,hB,hk0⟩,hi,g,hg,rfl⟩
  obtain ⟨c',hc,hk,hβ⟩ := hx b' _ _ hB0 hB
  obtain ⟨e',he⟩ := hk.row hk0
  exact ⟨e',k,n,⟨c',hc,he⟩,hi,g,by rw [hβ]; exact hg,rfl⟩
 | osl b' off m =>
  rintro x0 x ⟨_,_,_,⟨_,hB0,_⟩,_⟩ ⟨e,k,n,⟨c,hB,hk0⟩,h4,h5⟩
  obtain ⟨c',hc,hk,hβ⟩ := hx b' _ _ hB0 hB
  obtain ⟨e',he⟩ := hk.row hk0
  exact ⟨e',k,n,⟨c',hc,he⟩,h4,by rw [hβ]; exact h5⟩
 | yld b' =>
  rintro x0 x ⟨_,_,_,_,_,_,hB0,_⟩ ⟨g,fr,ps,ca,cb,st,hB,rfl⟩
  obtain ⟨c',hc,hk,hβ⟩ := hx b' _ _ hB0 hB
  cases c' with
  | lp g' fr' ps' ca' cb' st' => obtain ⟨rfl,_⟩ := hk; exact ⟨g,fr',ps',ca',cb',st',hc,rfl⟩
  | _ => simp [Kin] at hk
 | nil => intro x0 x _ h; exact h
 | und => intro x0 x _ h; trivial
 | _ => intro x0 x _ h; exact RepP.weak hA h
theorem BoxOk.two {wa w : World} {Aa A A' : Nat → Prop} {Ba B B' : Bmap} {βa β β' : Bn → Loc} {b : Bn} {c : Box} (h0 : BoxOk P wa Aa Ba βa 0 b c) (h : BoxOk P w A B β 0 b c) (hA : ∀ g,g < w.heap.size → A g → A' g)
  (hx : ∀ b c0 c1,Ba b = some c0 → B b = some c1 → ∃ c',B' b = some c' ∧ Kin c1 c' ∧ β' b = β b) (hb : β' b = β b) : BoxOk P w A' B' β' 0 b c := by
 have two := Rep.two (wa := wa) (w := w) (Aa := Aa) (A := A) (A' := A') (βa := βa) hA hx
 cases c with
 | cells l =>
  obtain ⟨_,_,_,_,_,_,r0⟩ := h0
  obtain ⟨hl,g,ys,t,h1,h2,h3⟩ := h
  exact ⟨hl,g,ys,t,by rw [hb]; exact h1,h2,two _ _ _ r0 h3⟩
 | lp g fr ps ca cb st =>
  obtain ⟨_,rec0,_,_,_,_,r0⟩ := h0
  obtain ⟨h1,rec,nt,h2,h3,h4,h5⟩ := h
  exact ⟨by rw [hb]; exact h1,rec,nt,h2,h3,h4,fun t => two _ _ _ (r0 t) (h5 t)⟩
 | mp kd has f =>
  obtain ⟨_,m0,_,_,r0⟩ := h0
  obtain ⟨g,m,h1,h2,h3⟩ := h
  refine ⟨g,m,by rw [hb]; exact h1,h2,fun k => ⟨(h3 k).1,fun hk => ?_⟩⟩
  obtain ⟨y,hy,hr⟩ := (h3 k).2 hk
  obtain ⟨y0,_,hr0⟩ := (r0 k).2 hk
  exact ⟨y,hy,two _ _ _ hr0 hr⟩
 | mz kd f =>
  obtain ⟨_,m0,_,_,r0⟩ := h0
  obtain ⟨g,m,h1,h2,h3⟩ := h
  exact ⟨g,m,by rw [hb]; exact h1,h2,fun k => two _ _ _ (r0 k) (h3 k)⟩
 | wc g v =>
  obtain ⟨_,_,_,_,r0⟩ := h0
  obtain ⟨h1,y,t,h2,h3⟩ := h
  exact ⟨by rw [hb]; exact h1,y,t,h2,two _ _ _ r0 h3⟩
 | it m kd seen last =>
  obtain ⟨_,_,r0⟩ := h0
  obtain ⟨g,h1,h2⟩ := h
  refine ⟨g,by rw [hb]; exact h1,fun mb hmb => ?_⟩
  obtain ⟨⟨_,q0,_⟩,_⟩ := r0 mb hmb
  obtain ⟨⟨c,h3,h3'⟩,gm,h4,h5⟩ := h2 mb hmb
  obtain ⟨c',q1,q2,q3⟩ := hx mb _ _ q0 h3
  exact ⟨⟨c',q1,q2.map h3'⟩,gm,by rw [q3]; exact h4,h5⟩
 | row e k n cc =>
  obtain ⟨h1,hk,hn,xs,ho,hc⟩ := h
  refine ⟨by rw [hb]; exact h1,hk,hn,xs,by rw [hb]; exact ho,fun i hi j hj => ?_⟩
  obtain ⟨y,hy,ho1,hr⟩ := hc i hi j hj
  exact ⟨y,hy,ho1,RepP.weak hA hr⟩
 | rown e k n cc =>
  obtain ⟨_,_,_,_,_,r0⟩ := h0
  obtain ⟨h1,hk,hn,xs,ho,hc⟩ := h
  refine ⟨by rw [hb]; exact h1,hk,hn,xs,by rw [hb]; exact ho,fun i hi j hj => ?_⟩
  obtain ⟨y,hy,ho1,hr⟩ := hc i hi j hj
  obtain ⟨_,_,_,hr0⟩ := r0 i hi j hj
  exact ⟨y,hy,ho1,two _ _ _ hr0 hr⟩
theorem Rel.chkG {βa β : Bn → Loc} {stk : List SFrame} {as : List Act} {fr0 fr1 fr' : Fr} {bx0 bx1 bx' : Bx} {nx0 nx1 nx' : Nat} {aa a : Act} {wa w : World} (h0 : Rel P A0 w0 βa stk as fr0 bx0 nx0 aa wa) (h1 : Rel P A0 w0 β stk as fr1 bx1 nx1 a w) (hc : ChkG bx0 nx0 fr1 bx1 fr' bx' nx') :
  ∃ β',Rel P A0 w0 β' stk as fr' bx' nx' a w := by
 classical
 obtain ⟨ren,hro,hnx,ha,hbb,hcc,hdd⟩ := hc
 -- behind the renaming
 obtain ⟨β3,hfr3,hdf3,hmem3,hal3,hlink,hkin3⟩ : ∃ β3 : Bn → Loc,(∀ t,RepM A0 w0 β3 (bget (renSt ren (fr1,bx1)).2) w (fget (renSt ren (fr1,bx1)).1 t) (a.tmps.getD t undef)) ∧ True ∧ (∃ N,Mem P A0 w0 β3 (bget (renSt ren (fr1,bx1)).2) N w) ∧
   (∀ g,g < w.heap.size → Al A0 w0 (bget bx1) β g → Al A0 w0 (bget (renSt ren (fr1,bx1)).2) β3 g) ∧
   (∀ b c0 c1,bget bx0 b = some c0 → bget bx1 b = some c1 → β3 b = β b ∧ ∃ c3,bget (renSt ren (fr1,bx1)).2 b = some c3) ∧
   ∀ b c,bget bx0 b = some c → bget bx1 b = some c → ∃ c3,bget (renSt ren (fr1,bx1)).2 b = some c3 ∧ Kin c3 c := by
  cases ren with
  | none => exact ⟨β,h1.fr,trivial,⟨_,h1.mem⟩,fun _ _ h => h,fun b c0 c1 _ hb => ⟨rfl,c1,hb⟩,fun b c _ hb => ⟨c,hb,Kin.refl c⟩⟩
  | some p =>
   obtain ⟨b,y⟩ := p
   obtain ⟨hb0,hy0,⟨c,hb⟩,hy⟩ := hro
   have he : renSt (some (b,y)) (fr1,bx1) = (renFr b y fr1,bset (renBx b y (bdel bx1 b)) y (renBox b y c)) := by simp [renSt,hb]
   rw [he]
   have h1' : Rel P A0 w0 β [] [] fr1 bx1 (max nx1 (y.id + 1)) a w := ⟨⟨h1.mem.bx,h1.mem.inj,fun b c hb => Nat.lt_of_lt_of_le (h1.mem.nx b c hb) (Nat.le_max_left _ _),h1.mem.base,h1.mem.below⟩,h1.fr,trivial,⟨h1.df.1.sublist (by simp [dfs]),fun d hd => h1.df.2 d (by simp [dfs] at hd ⊢; exact .inl hd)⟩,fun f hf => by cases hf⟩
   have hB1 : ∀ x,bget (bset (renBx b y (bdel bx1 b)) y (renBox b y c)) x = if x = y then some (renBox b y c) else if x = b then none else (bget bx1 x).map (renBox b y) := by
    intro x; rw [bget_bset,bget_renBx,bget_bdel]
    split
    ·rfl
    ·split <;> rfl
   have h3 := h1'.ren1 hb hy (by omega) (fun f hf => by cases hf)
   refine ⟨updL β y (β b),h3.fr,trivial,⟨_,h3.mem⟩,?_,fun x c0 c1 q0 q1 => ?_,fun x c0 q0 q1 => ?_⟩
   ·rintro g hg ⟨hA,hn⟩
    refine ⟨hA,fun x c' hx e => ?_⟩
    rw [hB1] at hx
    split at hx
    ·rename_i e2; subst e2; rw [updL_new] at e; exact hn b c hb e
    ·rename_i e2
     split at hx
     ·cases hx
     ·obtain ⟨c2,q2,_⟩ := Option.map_eq_some_iff.1 hx
      rw [show updL β y (β b) x = β x from by simp [updL,e2]] at e
      exact hn x c2 q2 e
   ·have e1 : x ≠ y := fun e => by subst e; rw [hy] at q1; cases q1
    have e2 : x ≠ b := fun e => by subst e; rw [hb0] at q0; cases q0
    exact ⟨by simp [updL,e1],_,by rw [hB1,if_neg e1,if_neg e2,q1]; rfl⟩
   ·have e1 : x ≠ y := fun e => by subst e; rw [hy] at q1; cases q1
    have e2 : x ≠ b := fun e => by subst e; rw [hb0] at q0; cases q0
    exact ⟨_,by rw [hB1,if_neg e1,if_neg e2,q1]; rfl,by cases c0 <;> simp [renBox,Kin]⟩
 obtain ⟨N3,hmem3⟩ := hmem3
 generalize (renSt ren (fr1,bx1)).1 = fr3 at *
 generalize (renSt ren (fr1,bx1)).2 = bx3 at *
 let β' : Bn → Loc := fun b => if newIn bx3 bx' b then ⟨none,0,0⟩ else β3 b
 have hβ : ∀ b c,bget bx3 b = some c → β' b = β3 b := by
  intro b c hb
  have : ¬ newIn bx3 bx' b := fun hn => by rw [hn.1] at hb; cases hb
  simp only [β',if_neg this]
 have hold : ∀ b c',bget bx' b = some c' → ¬ newIn bx3 bx' b → ∃ c,bget bx3 b = some c := by
  intro b c' hc' hnew
  cases hb3 : bget bx3 b with
  | none => exact absurd ⟨hb3,c',hc'⟩ hnew
  | some c0 => exact ⟨c0,rfl⟩
 have hA3 : ∀ g,g < w.heap.size → Al A0 w0 (bget bx3) β3 g → Al A0 w0 (bget bx') β' g := by
  rintro g hg ⟨hA,hn⟩
  refine ⟨hA,fun b c hb e => ?_⟩
  by_cases hnew : newIn bx3 bx' b
  ·simp only [β',if_pos hnew] at e; cases e
  ·obtain ⟨c0,hc0⟩ := hold b c hb hnew
   rw [hβ b c0 hc0] at e
   exact hn b c0 hc0 e
 have hA1 : ∀ g,g < w.heap.size → Al A0 w0 (bget bx1) β g → Al A0 w0 (bget bx') β' g := fun g hg h => hA3 g hg (hal3 g hg h)
 have hkk : ∀ b c3 c',bget bx3 b = some c3 → bget bx' b = some c' → Kin c3 c' := by
  intro b c3 c' h3 h'
  rcases hbb b c' h' with ⟨q0,q1⟩ | q
  ·obtain ⟨c4,q2,q3⟩ := hkin3 b c' q0 q1
   rw [h3] at q2; cases q2; exact q3
  ·rw [h3] at q; exact chk_kin q
 have hB : ∀ b c,bget bx3 b = some c → hasB bx' b → ∃ c',bget bx' b = some c' ∧ Kin c c' ∧ β' b = β3 b := by
  rintro b c hb ⟨c',hc'⟩
  exact ⟨c',hc',hkk b c c' hb hc',hβ b c hb⟩
 have hnewb : ∀ b c',newIn bx3 bx' b → bget bx' b = some c' → ∃ e k,0 < k ∧ ((∃ c,c' = .row e k 0 c) ∨ ∃ c,c' = .rown e k 0 c) := by
  intro b c' hn hc'
  rcases hbb b c' hc' with ⟨q0,q1⟩ | q
  ·obtain ⟨c4,q2,q3⟩ := hkin3 b c' q0 q1
   rw [hn.1] at q2; cases q2
  ·rw [hn.1] at q; exact chk_new q
 have hN : ∀ b,newIn bx3 bx' b → (∃ e k n,RowB (bget bx') b e k n) ∧ (β' b).a = none ∧ (β' b).n = 0 ∧ (β' b).cap = 0 := by
  intro b hn
  obtain ⟨c',hc'⟩ := hn.2
  refine ⟨?_,by simp only [β',if_pos hn],by simp only [β',if_pos hn],by simp only [β',if_pos hn]⟩
  obtain ⟨e,k,_,⟨c,rfl⟩ | ⟨c,rfl⟩⟩ := hnewb b c' hn hc' <;> exact ⟨e,k,0,_,hc',rfl⟩
 -- by names that stood there at the start,and stand there now
 have htwo : ∀ b c0 c1,bget bx0 b = some c0 → bget bx1 b = some c1 → ∃ c',bget bx' b = some c' ∧ Kin c1 c' ∧ β' b = β b := by
  intro b c0 c1 q0 q1
  obtain ⟨c',q2,q3⟩ := hdd b c0 c1 q0 q1
  obtain ⟨q4,c3,q5⟩ := hlink b c0 c1 q0 q1
  exact ⟨c',q2,q3,(hβ b c3 q5).trans q4⟩
 refine ⟨β',⟨fun b c' hc' => ?_,fun b c b' c' g hb hb' hne hg hg' => ?_,fun b c hb => ?_,fun b c g hb hg => ?_,h1.mem.below⟩,fun t => vsub_rep hB hA3 hN _ _ _ (chkFr_get ha t) (hfr3 t),?_,h1.df.mono (Nat.le_refl _) (fun g hg hx => ⟨hA1 g hg hx,rfl⟩),fun f hf => Nat.le_trans (h0.sn f hf) hnx⟩
 ·rcases hbb b c' hc' with ⟨q0,q1⟩ | hk
  ·obtain ⟨c2,q2,_,q4⟩ := htwo b c' c' q0 q1
   exact (h0.mem.bx b c' q0).two (h1.mem.bx b c' q1) hA1 htwo q4
  ·by_cases hnew : newIn bx3 bx' b
   ·obtain ⟨_,e1,e2,e3⟩ := hN b hnew
    obtain ⟨e,k,hk0,⟨c,rfl⟩ | ⟨c,rfl⟩⟩ := hnewb b c' hnew hc' <;> exact ⟨e2,hk0,Nat.zero_le _,[],by rw [e1,e3]; exact World.ownsRow_nil w _ e k,fun i hi => by omega⟩
   ·obtain ⟨c0,hc0⟩ := hold b c' hc' hnew
    rw [hc0] at hk
    exact chk_box hk (hmem3.bx b c0 hc0) (hβ b _ hc0) hB hA3 hN (fun m cm hm => hβ m cm hm)
 ·by_cases hn : newIn bx3 bx' b
  ·simp only [β',if_pos hn] at hg; cases hg
  ·by_cases hn' : newIn bx3 bx' b'
   ·simp only [β',if_pos hn'] at hg'; cases hg'
   ·obtain ⟨c0,hc0⟩ := hold b c hb hn
    obtain ⟨c1,hc1⟩ := hold b' c' hb' hn'
    rw [hβ b _ hc0] at hg
    rw [hβ b' _ hc1] at hg'
    exact hmem3.inj b c0 b' c1 g hc0 hc1 hne hg hg'
 ·rcases hcc b c hb with ⟨c0,q0⟩ | q
  ·exact Nat.lt_of_lt_of_le (h0.mem.nx b c0 q0) hnx
  ·exact q
 ·by_cases hn : newIn bx3 bx' b
  ·simp only [β',if_pos hn] at hg; cases hg
  ·obtain ⟨c0,hc0⟩ := hold b c hb hn
   rw [hβ b _ hc0] at hg
   exact hmem3.base b c0 g hc0 hg
 ·have hs0 := h0.st
  have hs1 := h1.st
  clear h0 h1
  induction stk generalizing as with
  | nil => cases as <;> exact hs1
  | cons f l ih =>
   cases as with
   | nil => exact hs1
   | cons a as =>
    refine ⟨fun t => Rep.two hA1 (fun b c0 c1 q0 q1 => ?_) _ _ _ (hs0.1 t) (hs1.1 t),ih hs0.2 hs1.2⟩
    simp only [Bres] at q0 q1 ⊢
    split at q0
    ·rename_i hlt
     rw [if_pos hlt] at q1 ⊢
     exact htwo b c0 c1 q0 q1
    ·cases q0
theorem Rel.chkL {βa β : Bn → Loc} {stk : List SFrame} {as : List Act} {fr0 fr1 fr' : Fr} {bx0 bx1 bx' : Bx} {nx0 nx1 nx' : Nat} {aa a : Act} {wa w : World} (h0 : Rel P A0 w0 βa stk as fr0 bx0 nx0 aa wa) (h1 : Rel P A0 w0 β stk as fr1 bx1 nx1 a w) (hc : ChkL (stkNx stk) bx0 fr1 bx1 fr' bx' nx0 nx') (hn : nx0 ≤ nx') :
  ∃ β',Rel P A0 w0 β' stk as fr' bx' nx' a w := by
 rcases hc with hc | hc
 ·exact h1.chkF hc fun f hf => ⟨h0.sn f hf,Nat.le_trans (h0.sn f hf) hn⟩
 ·exact h0.chkG h1 hc
theorem stk_eq : ∀ {stk stk' : List SFrame},skel stk = skel stk' → stkFr stk = stkFr stk' → stk = stk' := by
 intro stk; induction stk with
 | nil => intro stk' h _; cases stk' with
  | nil => rfl
  | cons => simp [skel] at h
 | cons f l ih =>
  intro stk' h1 h2
  cases stk' with
  | nil => simp [skel] at h1
  | cons f' l' =>
   simp only [skel,List.map_cons,List.cons.injEq,Prod.mk.injEq] at h1
   simp only [stkFr,List.cons.injEq] at h2
   obtain ⟨⟨e1,e2,e3,e4⟩,h1⟩ := h1
   obtain ⟨e5,h2⟩ := h2
   rw [ih h1 h2]
   cases f; cases f'
   simp at e1 e2 e3 e4 e5
   simp [e1,e2,e3,e4,e5]
theorem bdel_bset (b : Bn) (c : Box) (bx : Bx) : bget (subBx b .und (bdel bx b)) = bget (subBx b .und (bdel (bset bx b c) b)) := by
 funext x
 simp only [bget_subBx,bget_bdel,bget_bset]
 split <;> rfl
theorem sound (he : EnvOk P E A0 w0) : ∀ n,Sound P E A0 w0 Qf n := by
 intro n
 induction n using Nat.strongRecOn with
 | _ n IH =>
 intro K stk res fr bx nx hrun nt ro Qb next Q a w β as sk hsz hrel hsk hkr hret
 cases n with
 | zero => simp [run] at hrun
 | succ n =>
 have IH' : ∀ m,m ≤ n → Sound P E A0 w0 Qf m := fun m hm => IH m (by omega)
 have hgo : ∀ {K' : List Item} {next' : Act → World → Prop} {Q' : Exit → Act → World → Prop},ends K' = ends K → KR P A0 w0 nt ro Qb as sk K' next' Q' → Goes P E A0 w0 Qf n nt as sk res K' next' := by
  intro K' next' Q' hends hk m β' stk' fr' bx' nx' a' w' hm hsz' hrel' hsk' hrun'
  exact IH' m hm K' stk' res fr' bx' nx' hrun' nt ro Qb next' Q' a' w' β' as sk hsz' hrel' hsk' hk (by rw [hends]; exact hret.mono (by omega))
 have hrofs := hkr.rofs
 have hret0 := hret
 cases hkr with
 | nil hro =>
  simp only [run] at hrun
  refine (hret.2 β stk fr bx nx a w hrel hsk ⟨hrun.1,?_⟩).2
  cases stk with
  | nil => exact hrun.2
  | cons f s => exact ⟨n,by omega,hrun.2⟩
 | @rend b g hro =>
  simp only [run] at hrun
  exact (hret.2 β stk fr bx nx a w n hrel hsk (by omega)).1 hrun
 | @lend b g K nx' Q' hk =>
  simp only [run] at hrun
  split at hrun
  ·rename_i g' fr1 ps ca cb st hb
   obtain ⟨rfl,hrun⟩ := hrun
   obtain ⟨rec,nt',l1,l2,l3,l4,l5⟩ := hrel.lpget hb
   have hr1 := hrel.lpset (s := .exhausted) (pd := rec.pending) (st' := .over) hb l2 trivial
   have hr2 := hr1.drop (b := b) (by rw [bget_bset,if_pos rfl])
   replace hr2 := hr2.congr (fun _ => rfl) (bdel_bset b _ bx)
   cases st with
   | ready =>
    refine ⟨_,_,run_endLoop l2 (by rw [l4.1]; simp),?_⟩
    rw [l4.2] at hr2 ⊢
    exact hgo (by rfl) hk n β (subStk b .und stk) _ _ nx a _ (Nat.le_refl _) hsz hr2 ((skel_sub b .und stk).trans hsk) hrun
   | busy => exact hrun.elim
   | over => exact hrun.elim
   | done c =>
    refine ⟨_,_,run_endLoop l2 (by rw [l4.1]; simp),?_⟩
    rw [l4.2] at hr2 ⊢
    have hcc : cCode P nt c.code = some c.acode := by cases c <;> rfl
    have := hgo (by rfl) (KR.code hcc hk) n β (subStk b .und stk) _ _ nx a _ (Nat.le_refl _) hsz hr2 ((skel_sub b .und stk).trans hsk) hrun
    exact this
  ·exact hrun.elim
 | @rbeg b g K nx' Q' hends hk =>
  simp only [run] at hrun
  split at hrun
  ·rename_i g' fr1 ps ca cb hb
   obtain ⟨rfl,hrun⟩ := hrun
   obtain ⟨rec,nt',l1,l2,l3,⟨l4,l4'⟩,l5⟩ := hrel.lpget hb
   refine ⟨_,run_beginRound l2 l4,?_⟩
   exact hgo (by rfl) hk n β stk fr _ nx a _ (Nat.le_refl _) hsz (hrel.lpset (s := .busy) (pd := rec.pending) (st' := .busy) hb l2 rfl) hsk hrun
  ·exact hrun.elim
 | @blk id K nx' Q' hk => simp only [run] at hrun; exact hgo (by rfl) hk n β stk fr bx nx a w (Nat.le_refl _) hsz hrel hsk hrun
 | @inv J K nx' Q' nxt hk hj => simp only [run] at hrun; exact hj β stk fr bx nx a w hsz hrel hsk hrun
 | @ops ops i l K nx' Q' hc hk =>
  cases l with
  | nil =>
   simp only [run] at hrun
   have hi : ops.size ≤ i := by
    rcases Nat.lt_or_ge i ops.size with h | h
    ·have hne : ops.toList.drop i ≠ [] := by simp; omega
     cases hd : ops.toList.drop i with
     | nil => exact absurd hd hne
     | cons x y => rw [hd] at hc; simp only [cOpers] at hc; split at hc <;> simp at hc
    ·exact h
   have : ops.size - i = 0 := by omega
   rw [this]
   simp only [List.range'_zero,wpOpsIn]
   exact hgo (by rfl) hk n β stk fr bx nx a w (Nat.le_refl _) hsz hrel hsk hrun
  | cons ao l =>
   cases hd : ops.toList.drop i with
   | nil => rw [hd] at hc; simp [cOpers] at hc
   | cons o rest =>
    rw [hd] at hc
    simp only [cOpers] at hc
    split at hc
    ·rename_i ao' l' h1 h2
     simp at hc
     obtain ⟨rfl,rfl⟩ := hc
     have hlt : i < ops.size := by
      rcases Nat.lt_or_ge i ops.size with h | h
      ·exact h
      ·rw [List.drop_eq_nil_of_le (by simpa using h)] at hd; cases hd
     have hget : ops[i]? = some o := by
      have := congrArg List.head? hd
      rw [List.head?_drop] at this
      simpa using this
     have hrest : ops.toList.drop (i + 1) = rest := by
      rw [← List.drop_drop,hd]; rfl
     have hstep := op_step (ro := ro) (Q := Exit.then nx' Q) (knext := wpOpsIn (FW ro) 0 P ops (Exit.then nx' Q) (List.range' (i + 1) (ops.size - (i + 1)))) he IH' h1 hsz hrel hsk
      (hgo (by rfl) (KR.ops (ops := ops) (i := i + 1) (by rw [hrest]; exact h2) hk)) hrun
     have hrange : List.range' i (ops.size - i) = i :: List.range' (i + 1) (ops.size - (i + 1)) := by
      rw [show ops.size - i = (ops.size - (i + 1)) + 1 from by omega,List.range'_succ]
     rw [hrange]
     simp only [wpOpsIn,hget]
     exact hstep
    ·cases hc
 | @code c ac K nx' Q' hc hk =>
  cases c with
  | skip => simp [cCode] at hc; subst hc; simp only [run] at hrun; exact wpIn_skip (hgo (by rfl) hk n β stk fr bx nx a w (Nat.le_refl _) hsz hrel hsk hrun)
  | label l => simp [cCode] at hc; subst hc; simp only [run] at hrun; exact wpIn_label (hgo (by rfl) hk n β stk fr bx nx a w (Nat.le_refl _) hsz hrel hsk hrun)
  | seq x y =>
   simp only [cCode] at hc
   split at hc <;> simp at hc
   rename_i ax ay h1 h2
   subst hc
   simp only [run] at hrun
   have := hgo (by rfl) (KR.code h1 (KR.code h2 hk)) n β stk fr bx nx a w (Nat.le_refl _) hsz hrel hsk hrun
   refine wpIn_seq (wpIn_mono this fun e a w hq => ?_)
   cases e <;> exact hq
  | cond q x y =>
   simp only [cCode] at hc
   split at hc <;> simp at hc
   rename_i oq ax ay h0 h1 h2
   subst hc
   simp only [run] at hrun
   have hq := ev_rep he hrel.mem (x := q) (fun t _ => hrel.fr t) oq h0
   split at hrun
   ·rename_i t ht
    rw [ht] at hq
    exact wpIn_cond_split hq (fun ht => hgo (by rfl) (KR.code h1 hk) n β stk fr bx nx a w (Nat.le_refl _) hsz hrel hsk (hrun.1 ht)) (fun ht => hgo (by rfl) (KR.code h2 hk) n β stk fr bx nx a w (Nat.le_refl _) hsz hrel hsk (hrun.2 ht))
   ·exact hrun.elim
  | block id x =>
   simp only [cCode] at hc
   obtain ⟨ax,h1,rfl⟩ := Option.map_eq_some_iff.1 hc
   simp only [run] at hrun
   have := hgo (by rfl) (KR.code h1 (KR.blk (id := id) hk)) n β stk fr bx nx a w (Nat.le_refl _) hsz hrel hsk hrun
   refine wpIn_block (wpIn_mono this fun e a w hq => ?_)
   cases e <;> exact hq
  | exit id =>
   simp [cCode] at hc; subst hc
   simp only [run] at hrun
   split at hrun
   ·rename_i K' hpop
    obtain ⟨h0,nx2,Q2,h1,h2⟩ := hk.pop hpop
    exact wpIn_exit (h2 a w (hgo h0 h1 n β stk fr bx nx a w (Nat.le_refl _) hsz hrel hsk hrun))
   ·rename_i hpop
    split at hrun
    ·rename_i b g hends
     obtain ⟨ha,hrun⟩ := hrun
     have hend : ends (.code (ACode.exit id) :: K) = some (b,g) := hends
     rw [hend] at hret
     exact wpIn_exit (hk.esc hpop ha a w ((hret.2 β stk fr bx nx a w n hrel hsk (by omega)).2 (.exit id) hrun))
    ·exact hrun.elim
  | ret =>
   simp [cCode] at hc; subst hc
   simp only [run] at hrun
   split at hrun
   ·rename_i b g hends
    obtain ⟨ha,hrun⟩ := hrun
    have hend : ends (.code ACode.ret :: K) = some (b,g) := hends
    rw [hend] at hret
    exact wpIn_ret (hk.ret ha a w ((hret.2 β stk fr bx nx a w n hrel hsk (by omega)).2 .ret hrun))
   ·rename_i hends
    have hend : ends (.code ACode.ret :: K) = none := hends
    rw [hend] at hret
    refine wpIn_ret (hk.ret (hk.asg hends) a w (hret.2 β stk fr bx nx a w hrel hsk ⟨hrun.1,?_⟩).1)
    cases stk with
    | nil => exact hrun.2
    | cons f s => exact ⟨n,by omega,hrun.2⟩
  | scope x =>
   simp only [cCode] at hc
   obtain ⟨ax,h1,rfl⟩ := Option.map_eq_some_iff.1 hc
   simp only [run] at hrun
   have := hgo (by rfl) (KR.code h1 hk) n β stk fr bx nx a w (Nat.le_refl _) hsz hrel hsk hrun
   refine wpIn_scope (wpIn_mono this fun e a w hq => ?_)
   cases e with
   | goto l => exact (hk.nogoto hret.1 l a w hq).elim
   | _ => exact hq
  | rangeFunc f ps x y =>
   simp only [cCode] at hc
   split at hc
   ·rename_i of ax ay h1 h2 h3
    split at hc
    ·rename_i hps
     simp at hc; subst hc
     simp only [run] at hrun
     exact range_step he IH' h1 h2 h3 (fun t ht => by simpa using List.all_eq_true.1 hps t ht) (K := K) hk.rofs (fun b g => hgo (by rfl) (KR.lend (b := b) hk)) hsz hrel hsk hrun
    ·cases hc
   ·cases hc
  | loop x =>
   simp only [cCode] at hc
   obtain ⟨ax,h1,rfl⟩ := Option.map_eq_some_iff.1 hc
   simp only [run,LoopP] at hrun
   obtain ⟨d,T,⟨m0,fr0,bx0,hT0,hchk0⟩,hround⟩ := hrun
   have hsn := hrel.sn
   obtain ⟨β0,hrel0⟩ := hrel.chkL hrel hchk0 (Nat.le_add_right nx d)
   let J : Nat → Act → World → Prop := fun m a w => nt ≤ a.tmps.size ∧ ∃ β fr' bx',T m fr' bx' ∧ Rel P A0 w0 β stk as fr' bx' (nx + d) a w
   refine wp_loop_fam J (m := m0) ⟨hsz,β0,fr0,bx0,hT0,hrel0⟩ ?_
   rintro m a1 w1 ⟨hsz1,β1,fr1,bx1,hT1,hrel1⟩
   have := hgo (by rfl) (KR.code h1 (KR.inv (J := fun s fr1 bx1 => s = stkFr stk ∧ ∃ m',m' < m ∧ ∃ fr'' bx'',T m' fr'' bx'' ∧ ChkL (stkNx stk) bx fr1 bx1 fr'' bx'' nx (nx + d)) (nxt := fun a' w' => ∃ m',m' < m ∧ J m' a' w') hk ?_)) n β1 stk fr1 bx1 (nx + d) a1 w1 (Nat.le_refl _) hsz1 hrel1 hsk (hround m fr1 bx1 hT1)
   ·refine wpIn_mono this fun e a w hq => ?_
    cases e <;> exact hq
   ·rintro β2 stk2 fr2 bx2 n2 a2 w2 hsz2 hrel2 hsk2 ⟨hs,m',hm',fr3,bx3,hT3,hchk⟩
    have hstk : stk2 = stk := stk_eq (hsk2.trans hsk.symm) hs
    subst hstk
    obtain ⟨β3,hrel3⟩ := hrel.chkL hrel2 hchk (Nat.le_add_right nx d)
    exact ⟨m',hm',hsz2,β3,fr3,bx3,hT3,hrel3⟩
  | region id ops draw =>
   simp only [cCode] at hc
   split at hc
   ·rename_i l h1
    cases draw with
    | false =>
     simp at hc; subst hc
     simp only [run] at hrun
     have := hgo (by rfl) (KR.ops (ops := ops) (i := 0) (by simpa using h1) hk) n β stk fr bx nx a w (Nat.le_refl _) hsz hrel hsk hrun
     refine wpIn_region ?_
     rw [List.range_eq_range']
     simpa using this
    | true =>
     simp only [if_true] at hc
     split at hc
     ·rename_i l' hd
      simp only [Option.some.injEq] at hc
      subst hc
      simp only [run] at hrun
      refine wpIn_region_any he.mixed ?_
      exact chain_region he IH' h1 hd hrun hsz hrel.drew hsk (hgo (by rfl) hk) (fun a w h => h)
     split at hc
     ·obtain ⟨⟨d,l'⟩,hd,rfl⟩ := Option.map_eq_some_iff.1 hc
      simp only [run] at hrun
      refine wpIn_region_any he.mixed ?_
      exact drawn_region he IH' h1 hd hrun hsz hrel.drew hsk (hgo (by rfl) hk) (fun a w h => h)
     ·rename_i k hk0
      split at hc
      ·rename_i l1 h1'
       split at hc
       ·rename_i hdl
        obtain ⟨⟨d,l'⟩,hd,rfl⟩ := Option.map_eq_some_iff.1 hc
        simp only [run] at hrun
        refine wpIn_region_any he.mixed ?_
        have hL : (lateA ops k).toList = lateL k 0 ops.toList := by simp [lateA]
        refine late_nxt hdl (fun a w h => h) ?_
        exact drawn_region (ops := lateA ops k) (nt := nt) he IH' (by rw [hL]; exact h1') (by rw [hL]; exact hd) hrun hsz hrel.drew hsk (hgo (by rfl) hk) (fun a w h => ⟨rfl,h⟩)
       ·cases hc
      ·cases hc
   ·cases hc
  | _ => simp [cCode] at hc
end Go.Proofs.Ytlieoghhkioflaa
/- The engine,part 21b: runO = run,but nothing unfolds it,so that the check of a proof does not go astray in it. No condition. -/
namespace Go.Proofs.Ytlieoghhkioflaa
open Go
variable (E : Env) (Q : Val → Bx → Prop)
theorem runO_ex : ∃ r : Nat → List Item → List SFrame → List ARes → Fr → Bx → Nat → Prop,r = run E Q := ⟨_,rfl⟩
noncomputable def runO : Nat → List Item → List SFrame → List ARes → Fr → Bx → Nat → Prop := Classical.choose (runO_ex E Q)
theorem runO_eq : runO E Q = run E Q := Classical.choose_spec (runO_ex E Q)
set_option autoImplicit true
theorem runO_1 {x1} {x2} {x3} {x4} {x5} {x6} : runO E Q (0) (x1) (x2) (x3) (x4) (x5) (x6) = (False) := by
 simp only [runO_eq]
 rfl
theorem runO_2 {n} {stk} {res} {fr} {bx} {nx} : runO E Q (n + 1) ([]) (stk) (res) (fr) (bx) (nx) = (match resV fr bx res with
  | (p,v) => p ∧ match stk with
   | [] => Q v bx
   | f :: stk => runO E Q n f.K stk f.res (fput f.fr f.d v) bx nx) := by
 simp only [runO_eq]
 rfl
theorem runO_3 {n} {K} {stk} {res} {fr} {bx} {nx} : runO E Q (n + 1) (.code .ret :: K) (stk) (res) (fr) (bx) (nx) = (match ends K with
  | some (b,g) => asgB K = false ∧ RoundP (runO E Q n) b g (.done .ret) false stk bx nx
  | none => match resV fr bx res with
  | (p,v) => p ∧ match stk with
   | [] => Q v bx
   | f :: stk => runO E Q n f.K stk f.res (fput f.fr f.d v) bx nx) := by
 simp only [runO_eq]
 rfl
theorem runO_4 {n} {K} {stk} {res} {fr} {bx} {nx} : runO E Q (n + 1) (.code .skip :: K) (stk) (res) (fr) (bx) (nx) = (runO E Q n K stk res fr bx nx) := by
 simp only [runO_eq]
 rfl
theorem runO_5 {n} {a} {b} {K} {stk} {res} {fr} {bx} {nx} : runO E Q (n + 1) (.code (.seq a b) :: K) (stk) (res) (fr) (bx) (nx) = (runO E Q n (.code a :: .code b :: K) stk res fr bx nx) := by
 simp only [runO_eq]
 rfl
theorem runO_6 {n} {id} {a} {K} {stk} {res} {fr} {bx} {nx} : runO E Q (n + 1) (.code (.block id a) :: K) (stk) (res) (fr) (bx) (nx) = (runO E Q n (.code a :: .blk id :: K) stk res fr bx nx) := by
 simp only [runO_eq]
 rfl
theorem runO_7 {n} {a} {K} {stk} {res} {fr} {bx} {nx} : runO E Q (n + 1) (.code (.scope a) :: K) (stk) (res) (fr) (bx) (nx) = (runO E Q n (.code a :: K) stk res fr bx nx) := by
 simp only [runO_eq]
 rfl
theorem runO_8 {n} {x1} {K} {stk} {res} {fr} {bx} {nx} : runO E Q (n + 1) (.blk x1 :: K) (stk) (res) (fr) (bx) (nx) = (runO E Q n K stk res fr bx nx) := by
 simp only [runO_eq]
 rfl
theorem runO_9 {n} {id} {K} {stk} {res} {fr} {bx} {nx} : runO E Q (n + 1) (.code (.exit id) :: K) (stk) (res) (fr) (bx) (nx) = (match popTo id K with
  | some K' => runO E Q n K' stk res fr bx nx
  | none => match ends K with
   | some (b,g) => asgB K = false ∧ RoundP (runO E Q n) b g (.done (.exit id)) false stk bx nx
   | none => False) := by
 simp only [runO_eq]
 rfl
theorem runO_10 {n} {f} {ps} {ks} {ca} {cb} {K} {stk} {res} {fr} {bx} {nx} : runO E Q (n + 1) (.code (.rng f ps ks ca cb) :: K) (stk) (res) (fr) (bx) (nx) = (roundIn bx (ends K) ∧ match ev E fr f with
  | .func (.func id) caps => match E.I id with
   | some af => isLB caps = true ∧ ∀ g : Nat,runO E Q n [.code af.code] (⟨none,.lend nx g :: K,res,fr,nx + 1⟩ :: stk) af.res (params 0 (.yld nx :: capsL caps)) ((nx,.one (.lp g (keepS ks fr) ps ca cb .ready)) :: bx) (nx + 1)
   | none => False
  | _ => False) := by
 simp only [runO_eq]
 rfl
theorem runO_11 {n} {b} {g} {K} {stk} {res} {fr} {bx} {nx} : runO E Q (n + 1) (.lend b g :: K) (stk) (res) (fr) (bx) (nx) = (match bget bx b with
  | some (.lp g' _ _ _ _ st) => g' = g ∧ match st with
   | .ready => runO E Q n K (subStk b .und stk) res (subFr b .und fr) (subBx b .und (bdel bx b)) nx
   | .busy => False
   | .over => False
   | .done c => runO E Q n (.code c.acode :: K) (subStk b .und stk) res (subFr b .und fr) (subBx b .und (bdel bx b)) nx
  | _ => False) := by
 simp only [runO_eq]
 rfl
theorem runO_12 {n} {b} {g} {K} {stk} {res} {fr} {bx} {nx} : runO E Q (n + 1) (.rbeg b g :: K) (stk) (res) (fr) (bx) (nx) = (match bget bx b with
  | some (.lp g' fr' ps ca cb .ready) => g' = g ∧ runO E Q n K stk res fr (bset bx b (.lp g fr' ps ca cb .busy)) nx
  | _ => False) := by
 simp only [runO_eq]
 rfl
theorem runO_13 {n} {b} {g} {x1} {stk} {x2} {x3} {bx} {nx} : runO E Q (n + 1) (.rend b g :: x1) (stk) (x2) (x3) (bx) (nx) = (RoundP (runO E Q n) b g .ready true stk bx nx) := by
 simp only [runO_eq]
 rfl
theorem runO_14 {n} {c} {a} {b} {K} {stk} {res} {fr} {bx} {nx} : runO E Q (n + 1) (.code (.cond c a b) :: K) (stk) (res) (fr) (bx) (nx) = (match ev E fr c with
  | .bool t => (t = true → runO E Q n (.code a :: K) stk res fr bx nx) ∧ (t = false → runO E Q n (.code b :: K) stk res fr bx nx)
  | _ => False) := by
 simp only [runO_eq]
 rfl
theorem runO_15 {n} {c} {K} {stk} {res} {fr} {bx} {nx} : runO E Q (n + 1) (.code (.loop c) :: K) (stk) (res) (fr) (bx) (nx) = (
  LoopP (runO E Q n) c K stk res fr bx nx) := by
 simp only [runO_eq]
 rfl
theorem runO_16 {x1} {J} {x2} {stk} {x3} {fr} {bx} {x4} : runO E Q (x1 + 1) (.inv J :: x2) (stk) (x3) (fr) (bx) (x4) = (J (stkFr stk) fr bx) := by
 simp only [runO_eq]
 rfl
theorem runO_17 {n} {d} {l} {K} {stk} {res} {fr} {bx} {nx} : runO E Q (n + 1) (.code (.reg d l) :: K) (stk) (res) (fr) (bx) (nx) = (runO E Q n (.ops d l :: K) stk res fr bx nx) := by
 simp only [runO_eq]
 rfl
theorem runO_18 {n} {x1} {K} {stk} {res} {fr} {bx} {nx} : runO E Q (n + 1) (.ops x1 [] :: K) (stk) (res) (fr) (bx) (nx) = (runO E Q n K stk res fr bx nx) := by
 simp only [runO_eq]
 rfl
theorem runO_19 {n} {d} {o} {l} {K} {stk} {res} {fr} {bx} {nx} : runO E Q (n + 1) (.ops d (o :: l) :: K) (stk) (res) (fr) (bx) (nx) = (match skipOp fr o.guard with
  | none => False
  | some true => runO E Q n (.ops (d - 1) l :: K) stk res (fput fr o.dst (.tup .nil)) bx nx
  | some false => match preFz E fr bx stk d o.op with
  | none => False
  | some (fr,bx,stk) => match d,o.op with
   | d,.store m a x => match ev E fr a with
    | .ptr b off => match bget bx b with
     | some (.cells c) => cellsN m (ev E fr x) ∧ onesB (cellsOf (ev E fr x)) = true ∧ off + m ≤ vlen c ∧ reOk E (fput fr o.dst .und) (bset bx b (.cells (vsets c off (cellsOf (ev E fr x))))) o.re ∧ runO E Q n (.ops (d - 1) l :: K) stk res (fput fr o.dst .und) (bset bx b (.cells (vsets c off (cellsOf (ev E fr x))))) nx
     | some (.wc g _) => match d with
      | 0 => off = 0 ∧ m = 1 ∧ match ev E fr x with
       | .int k z => reOk E (fput fr o.dst .und) (bset bx b (.wc g (.int k z))) o.re ∧ runO E Q n (.ops 0 l :: K) stk res (fput fr o.dst .und) (bset bx b (.wc g (.int k z))) nx
       | _ => False
      | _ + 1 => False
     | _ => False
    | .rptr b i off => match bget bx b with
     | some (.row e k m' c) => cellsN m (ev E fr x) ∧ onesB (cellsOf (ev E fr x)) = true ∧ pureB (ev E fr x) = true ∧ off + m ≤ k ∧
       reOk E (fput fr o.dst .und) (bset bx b (.row e k m' fun i' j' => if i' = i ∧ off ≤ j' ∧ j' < off + m then vget (cellsOf (ev E fr x)) (j' - off) else c i' j')) o.re ∧
       runO E Q n (.ops (d - 1) l :: K) stk res (fput fr o.dst .und) (bset bx b (.row e k m' fun i' j' => if i' = i ∧ off ≤ j' ∧ j' < off + m then vget (cellsOf (ev E fr x)) (j' - off) else c i' j')) nx
     | _ => False
    | _ => False
   | d,.app e k bytes x y => match E.N e with
    | true => match ev E fr y with
     | .own b' => match bget bx b' with
      | some (.rown _ k' m c') => k' = k ∧ match ev E fr x with
       | .own b => match bget bx b with
        | some (.rown e' k'' n' c) => e' = e ∧ k'' = k ∧ n' + m ≤ maxLen ∧ (n' + m) * bytes ≤ 140737488355328 ∧
          reOk E (fput (subFr b .und fr) o.dst (.own b)) (bset (subBx b .und bx) b (.rown e k (n' + m) fun i j => subV b .und (if i < n' then c i j else c' (i - n') j))) o.re ∧
          runO E Q n (.ops (d - 1) l :: K) (subStk b .und stk) res (fput (subFr b .und fr) o.dst (.own b)) (bset (subBx b .und bx) b (.rown e k (n' + m) fun i j => subV b .und (if i < n' then c i j else c' (i - n') j))) nx
        | _ => False
       | _ => False
      | _ => False
     | _ => False
    | false => match elemsV bx (ev E fr y) with
    | none => False
    | some (k',m,c') => (k' = some k ∨ k' = none) ∧ 0 < k ∧ match ev E fr x with
     | .nils => m ≤ maxLen ∧ m * bytes ≤ 140737488355328 ∧ reOk E (fput fr o.dst (.own nx)) ((nx,.one (.row e k m c')) :: bx) o.re ∧ runO E Q n (.ops (d - 1) l :: K) stk res (fput fr o.dst (.own nx)) ((nx,.one (.row e k m c')) :: bx) (nx + 1)
     | .own b => match bget bx b with
      | some (.row e' k'' n' c) => e' = e ∧ k'' = k ∧ n' + m ≤ maxLen ∧ (n' + m) * bytes ≤ 140737488355328 ∧
        reOk E (fput (subFr b .und fr) o.dst (.own b)) (bset (subBx b .und bx) b (.row e k (n' + m) fun i j => if i < n' then c i j else c' (i - n') j)) o.re ∧
        runO E Q n (.ops (d - 1) l :: K) (subStk b .und stk) res (fput (subFr b .und fr) o.dst (.own b)) (bset (subBx b .und bx) b (.row e k (n' + m) fun i j => if i < n' then c i j else c' (i - n') j)) nx
      | _ => False
     | .tv k'' n' c => k'' = k ∧ 0 < m ∧ n' + m ≤ maxLen ∧ (n' + m) * bytes ≤ 140737488355328 ∧ reOk E (fput fr o.dst (.own nx)) ((nx,.one (.row e k (n' + m) fun i j => if i < n' then c i j else c' (i - n') j)) :: bx) o.re ∧
       runO E Q n (.ops (d - 1) l :: K) stk res (fput fr o.dst (.own nx)) ((nx,.one (.row e k (n' + m) fun i j => if i < n' then c i j else c' (i - n') j)) :: bx) (nx + 1)
     | _ => False
   | d,.mset kd m k v => match ev E fr m,ev E fr k with
    | .mapb b,.int kk z => match bget bx b with
     | some (.mp kd' has f) => kd' = kd ∧ kk = kd ∧ noIt b bx ∧
       reOk E (fput fr o.dst .und) (bset bx b (.mp kd (fun j => if j = z then true else has j) fun j => if j = z then ev E fr v else f j)) o.re ∧
       runO E Q n (.ops (d - 1) l :: K) stk res (fput fr o.dst .und) (bset bx b (.mp kd (fun j => if j = z then true else has j) fun j => if j = z then ev E fr v else f j)) nx
     | some (.mz kd' f) => kd' = kd ∧ kk = kd ∧ noIt b bx ∧
       reOk E (fput fr o.dst .und) (bset bx b (.mz kd fun j => if j = z then ev E fr v else f j)) o.re ∧
       runO E Q n (.ops (d - 1) l :: K) stk res (fput fr o.dst .und) (bset bx b (.mz kd fun j => if j = z then ev E fr v else f j)) nx
     | _ => False
    | _,_ => False
   | 0,.isnil neg x => match ev E fr x with
    | .nils => runO E Q n (.ops 0 l :: K) stk res (fput fr o.dst (.bool (!neg))) bx nx
    | .view _ m _ => ∀ t : Bool,(0 < m → t = false) → runO E Q n (.ops 0 l :: K) stk res (fput fr o.dst (.bool (t != neg))) bx nx
    | .own b => match bget bx b with
     | some (.row _ _ m _) | some (.rown _ _ m _) => ∀ t : Bool,(0 < m → t = false) → runO E Q n (.ops 0 l :: K) stk res (fput fr o.dst (.bool (t != neg))) bx nx
     | _ => False
    | _ => False
   | 0,.clr k z x => isLB z = true ∧ pureB z = true ∧ onesB z = true ∧ vlen z = k ∧ match ev E fr x with
    | .nils => runO E Q n (.ops 0 l :: K) stk res (fput fr o.dst .und) bx nx
    | .own b => match bget bx b with
     | some (.row e k' m c) => k' = k ∧ runO E Q n (.ops 0 l :: K) stk res (fput fr o.dst .und) (bset bx b (.row e k m fun i j => if 0 ≤ i ∧ i < 0 + m then vget z j else c i j)) nx
     | _ => False
    | .osl b off n' => match bget bx b with
     | some (.row e k' m c) => k' = k ∧ runO E Q n (.ops 0 l :: K) stk res (fput fr o.dst .und) (bset bx b (.row e k m fun i j => if off ≤ i ∧ i < off + n' then vget z j else c i j)) nx
     | _ => False
    | _ => False
   | 0,.mdel kd m k => match ev E fr m,ev E fr k with
    | .mapb b,.int kk z => match bget bx b with
     | some (.mp kd' has f) => kd' = kd ∧ kk = kd ∧ noIt b bx ∧
       runO E Q n (.ops 0 l :: K) stk res (fput fr o.dst .und) (bset bx b (.mp kd (fun j => if j = z then false else has j) f)) nx
     | _ => False
    | _,_ => False
   | 0,.mlen kd m => match ev E fr m with
    | .mapb b => match bget bx b with
     | some (.mp kd' has _) => kd' = kd ∧
       ∀ c : Nat,(c = 0 ↔ ∀ k,has k = false) → runO E Q n (.ops 0 l :: K) stk res (fput fr o.dst (.int .i64 c)) bx nx
     | _ => False
    | _ => False
   | 0,.rngm kd x => match ev E fr x with
    | .mapb b => match bget bx b with
     | some (.mp kd' _ _) => kd' = kd ∧ runO E Q n (.ops 0 l :: K) stk res (fput fr o.dst (.ptr nx 0)) ((nx,.one (.it (some b) kd (fun _ => false) none)) :: bx) (nx + 1)
     | _ => False
    | _ => False
   | 0,.nxt x => match ev E fr x with
    | .ptr b 0 => match bget bx b with
     | some (.it (some mb) kd seen _) => match bget bx mb with
      | some (.mp kd' has f) => kd' = kd ∧
       (∀ k,has k = true → seen k = false → runO E Q n (.ops 0 l :: K) stk res (fput fr o.dst (.tup (.cons (.bool true) (.cons (.int kd k) (.cons (f k) .nil))))) (bset bx b (.it (some mb) kd (fun j => if j = k then true else seen j) (some k))) nx) ∧
       ((∀ k,has k = true → seen k = true) → runO E Q n (.ops 0 l :: K) stk res (fput fr o.dst (.tup (.cons (.bool false) .nil))) (bset bx b (.it none kd seen none)) nx)
      | _ => False
     | _ => False
    | _ => False
   | 0,.ent x => match ev E fr x with
    | .ptr b 0 => match bget bx b with
     | some (.it (some mb) kd _ (some k)) => match bget bx mb with
      | some (.mp kd' has f) => kd' = kd ∧ has k = true ∧ runO E Q n (.ops 0 l :: K) stk res (fput fr o.dst (.tup (.cons (.int kd k) (.cons (f k) .nil)))) bx nx
      | _ => False
     | _ => False
    | _ => False
   | 0,.calle f args => match ev E fr f with
     | .func (.func id) caps => match E.I id with
      | some af => isLB caps = true ∧ runO E Q n [.code af.code] (⟨o.dst,.ops 0 l :: K,res,fr,nx⟩ :: stk) af.res (params 0 (argsL E fr args ++ capsL caps)) bx nx
      | none => match E.S id with
       | some s => match specV bx s args (argsL E fr args ++ capsL caps) with
        | ⟨p,v,_⟩ => (isLB caps = true ∧ p) ∧ (WfT v → match s.own,v with
         | some e,.view k m c => 0 < k → runO E Q n (.ops 0 l :: K) stk res (fput fr o.dst (.own nx)) ((nx,.one (.row e k m c)) :: bx) (nx + 1)
         | _,_ => runO E Q n (.ops 0 l :: K) stk res (fput fr o.dst v) bx nx)
       | none => match E.X id with
        | some (pz,s) => eatR bx s pz args (argsL E fr args) caps (fun b e k m c => runO E Q n (.ops 0 l :: K) (subStk b .und stk) res (fput (subFr b .und fr) o.dst (.own b)) (bset (subBx b .und bx) b (.row e k m c)) nx) fun b e k m c => runO E Q n (.ops 0 l :: K) stk res (fput fr o.dst .und) (bset bx b (.row e k m c)) nx
        | none => False
     | .yld b => match bget bx b with
      | some (.lp g fr' ps ca cb .ready) => ps.length = args.length ∧ runO E Q n [.code ca,.rbeg b g,.code cb,.rend b g] (⟨o.dst,.ops 0 l :: K,res,fr,nx⟩ :: stk) [] (putL fr' ps (argsL E fr args)) bx nx
      | _ => False
     | _ => False
   | d + 1,.calle f args => match ev E fr f with
     | .func (.func id) caps => match E.S id with
      | some s => match specV bx s args (argsL E fr args ++ capsL caps) with
       | ⟨p,v,_⟩ => (isLB caps = true ∧ p) ∧ match s.own,v with
        | some e,.view k m c => 0 < k ∧ reOk E (fput fr o.dst (.own nx)) ((nx,.one (.row e k m c)) :: bx) o.re ∧ runO E Q n (.ops d l :: K) stk res (fput fr o.dst (.own nx)) ((nx,.one (.row e k m c)) :: bx) (nx + 1)
        | _,_ => False
      | none => match E.X id with
       | some (pz,s) => eatR bx s pz args (argsL E fr args) caps (fun b e k m c => reOk E (fput (subFr b .und fr) o.dst (.own b)) (bset (subBx b .und bx) b (.row e k m c)) o.re ∧ runO E Q n (.ops d l :: K) (subStk b .und stk) res (fput (subFr b .und fr) o.dst (.own b)) (bset (subBx b .und bx) b (.row e k m c)) nx) fun _ _ _ _ _ => False
       | none => False
     | _ => False
   | 0,op => match op with
    | .call f args => match ev E fr f with
     | .func (.func id) caps => match E.I id with
      | some af => isLB caps = true ∧ runO E Q n [.code af.code] (⟨o.dst,.ops 0 l :: K,res,fr,nx⟩ :: stk) af.res (params 0 (argsL E fr args ++ capsL caps)) bx nx
      | none => match E.S id with
       | some s => match specV bx s args (argsL E fr args ++ capsL caps) with
        | ⟨p,v,_⟩ => (isLB caps = true ∧ p) ∧ (WfT v → match s.own,v with
         | some e,.view k m c => 0 < k → runO E Q n (.ops 0 l :: K) stk res (fput fr o.dst (.own nx)) ((nx,.one (.row e k m c)) :: bx) (nx + 1)
         | _,_ => runO E Q n (.ops 0 l :: K) stk res (fput fr o.dst v) bx nx)
       | none => False
     | .yld b => match bget bx b with
      | some (.lp g fr' ps ca cb .ready) => ps.length = args.length ∧ runO E Q n [.code ca,.rbeg b g,.code cb,.rend b g] (⟨o.dst,.ops 0 l :: K,res,fr,nx⟩ :: stk) [] (putL fr' ps (argsL E fr args)) bx nx
      | _ => False
     | _ => False
    | _ => match aop E fr bx nx op with
     | ⟨p,v,new⟩ => p ∧ (WfT v → match o.br with
      | false => reOk E (fput fr o.dst v) (addB nx new bx) o.re ∧ runO E Q n (.ops 0 l :: K) stk res (fput fr o.dst v) (addB nx new bx) (addN nx new)
      | true => match v with
       | .bool t => (t = true → runO E Q n (.ops 0 l :: K) stk res (fput fr o.dst (.bool true)) (addB nx new bx) (addN nx new)) ∧ (t = false → runO E Q n (.ops 0 l :: K) stk res (fput fr o.dst (.bool false)) (addB nx new bx) (addN nx new))
       | _ => False)
   | d + 1,op => match aop E fr bx nx op with
    | ⟨p,v,new⟩ => p ∧ match o.br with
     | false => runO E Q n (.ops d l :: K) stk res (fput fr o.dst v) (addB nx new bx) (addN nx new)
     | true => match v with
      | .bool t => (t = true → runO E Q n (.ops d l :: K) stk res (fput fr o.dst (.bool true)) (addB nx new bx) (addN nx new)) ∧ (t = false → runO E Q n (.ops d l :: K) stk res (fput fr o.dst (.bool false)) (addB nx new bx) (addN nx new))
      | _ => False) := by
 simp only [runO_eq]
 rfl
theorem runO_20 {n} {x1} {x2} {x3} {x4} {K} {stk} {res} {fr} {bx} {nx} : runO E Q (n + 1) (.ctch x1 x2 x3 x4 :: K) (stk) (res) (fr) (bx) (nx) = (runO E Q n K stk res fr bx nx) := by
 simp only [runO_eq]
 rfl
end Go.Proofs.Ytlieoghhkioflaa
/- The engine,part 22: a function's spec out of a run of its compiled code; loops. No condition. -/
namespace Go.Proofs.Ytlieoghhkioflaa
open Go Go.RowKit
variable {P : Program} {E : Env} {A0 : Nat → Prop} {w0 : Base} {Qf : Val → Bx → Prop}
def Fin (v : Val) (bx : Bx) (r : Val) : Prop := snapOk bx 40 v = true ∧ vsubP r (snapV bx 40 v)
def FinS (own : Option TypeId) (v : Val) (bx : Bx) (r : Val) : Prop := Fin v bx r ∧ match own with
 | none => True
 | some e => ∃ b k n c c',(v = .own b ∧ bget bx b = some (.row e k n c) ∨ ∃ m,v = .osl b 0 n ∧ n ≤ m ∧ bget bx b = some (.row e k m c)) ∧ r = .view k n c' ∧ ∀ i,i < n → ∀ j,j < k → c' i j = c i j ∧ flatB (c i j) = true
theorem FinS_none (v : Val) (bx : Bx) (r : Val) : FinS none v bx r = Fin v bx r := by simp [FinS]
def lkp {α : Type} : List (FuncId × α) → FuncId → Option α
 | [],_ => none
 | (i,s) :: l,id => if i = id then some s else lkp l id
inductive SOk (P : Program) (G : Nat → Option (Nat × (Nat → Val))) : List (FuncId × Spec) → Prop
 | nil : SOk P G []
 | cons {id s l} : PureOk P G id s → SOk P G l → SOk P G ((id,s) :: l)
inductive IOk (P : Program) : List (FuncId × AFun) → Prop
 | nil : IOk P []
 | cons {id af l fn} : P.funcs[id]? = some fn → cFun P fn = some af → IOk P l → IOk P ((id,af) :: l)
def memN : List TypeId → TypeId → Bool
 | [],_ => false
 | i :: l,e => if i = e then true else memN l e
def catF (C : List (FuncId × Option (TypeId × IntKind))) (id : FuncId) : Option (TypeId × IntKind) := match lkp C id with | some (some x) => some x | _ => none
def frzF (C : List (FuncId × Option (TypeId × IntKind))) (id : FuncId) : Bool := match lkp C id with | some none => true | _ => false
def mkA (G : Nat → Option (Nat × (Nat → Val))) (S : List (FuncId × Spec)) (I : List (FuncId × AFun)) (X : List (FuncId × Nat × Spec)) (N : List TypeId) (C : List (FuncId × Option (TypeId × IntKind))) : Env := ⟨G,lkp S,lkp I,lkp X,memN N,catF C,frzF C⟩
abbrev mkE (G : Nat → Option (Nat × (Nat → Val))) (S : List (FuncId × Spec)) (I : List (FuncId × AFun)) : Env := mkA G S I [] [] []
inductive XOk (P : Program) (G : Nat → Option (Nat × (Nat → Val))) : List (FuncId × Nat × Spec) → Prop
 | nil : XOk P G []
 | cons {id pz s l} : EatOk P G id pz s → XOk P G l → XOk P G ((id,pz,s) :: l)
theorem XOk.get {G : Nat → Option (Nat × (Nat → Val))} {l : List (FuncId × Nat × Spec)} (h : XOk P G l) : ∀ id pz s,lkp l id = some (pz,s) → EatOk P G id pz s := by
 induction h with
 | nil => intro id pz s h; cases h
 | cons hp _ ih =>
  intro id pz s h
  simp only [lkp] at h
  split at h
  ·rename_i e; subst e; cases h; exact hp
  ·exact ih id pz s h
theorem mkA_G {G S I X N C} : (mkA G S I X N C).G = G := rfl
theorem mkA_S {G S I X N C} (id : FuncId) : (mkA G S I X N C).S id = lkp S id := rfl
theorem mkA_I {G S I X N C} (id : FuncId) : (mkA G S I X N C).I id = lkp I id := rfl
theorem mkA_X {G S I X N C} (id : FuncId) : (mkA G S I X N C).X id = lkp X id := rfl
theorem mkA_N {G S I X N C} (e : TypeId) : (mkA G S I X N C).N e = memN N e := rfl
theorem mkA_C {G S I X N C} (id : FuncId) : (mkA G S I X N C).C id = catF C id := rfl
theorem mkA_Z {G S I X N C} (id : FuncId) : (mkA G S I X N C).Z id = frzF C id := rfl
theorem SOk.get {G : Nat → Option (Nat × (Nat → Val))} {l : List (FuncId × Spec)} (h : SOk P G l) : ∀ id s,lkp l id = some s → PureOk P G id s := by
 induction h with
 | nil => intro id s h; cases h
 | cons hp _ ih =>
  intro id s h
  simp only [lkp] at h
  split at h
  ·rename_i e; subst e; cases h; exact hp
  ·exact ih id s h
theorem IOk.get {l : List (FuncId × AFun)} (h : IOk P l) : ∀ id af,lkp l id = some af → ∃ fn,P.funcs[id]? = some fn ∧ cFun P fn = some af := by
 induction h with
 | nil => intro id s h; cases h
 | cons h1 h2 _ ih =>
  intro id s h
  simp only [lkp] at h
  split at h
  ·rename_i e; subst e; cases h; exact ⟨_,h1,h2⟩
  ·exact ih id s h
theorem ownsRow_base {w : World} {base : Nat} {e : TypeId} {k n : Nat} {L : Loc} {xs : List Value} (h : w.ownsRow 0 e k (.slice (L.a.map fun g => ⟨g,0,none⟩) n L.cap) n xs) (hb : ∀ g,L.a = some g → base ≤ g) : w.ownsRow base e k (.slice (L.a.map fun g => ⟨g,0,none⟩) n L.cap) n xs := by
 refine ⟨h.1,?_⟩
 rcases h.2 with h2 | ⟨g,cap,cur,e1,e2,e3⟩
 ·exact .inl h2
 ·refine .inr ⟨g,cap,cur,e1,hb g ?_,e3⟩
  cases ha : L.a with
  | none => simp [ha] at e1
  | some g' => simp [ha] at e1; rw [e1.1]
theorem fin_row {A : Nat → Prop} {w0 w : World} {X : Nat → Prop} {β : Bn → Loc} {bx : Bx} {nx : Nat} {v : Val} {x : Value} {b : Bn} {e : TypeId} {k n : Nat} {c : Nat → Nat → Val} (hm : Mem P A ⟨w0,X⟩ β (bget bx) nx w) (hx : RepM A ⟨w0,X⟩ β (bget bx) w v x) (h : v = .own b ∧ bget bx b = some (.row e k n c) ∨ ∃ m,v = .osl b 0 n ∧ n ≤ m ∧ bget bx b = some (.row e k m c)) :
  (∃ c,bget bx b = some c) ∧ ∃ L : Loc,L.a = (β b).a ∧ x = .slice (L.a.map fun g => ⟨g,0,none⟩) n L.cap ∧ L.n = n ∧ 0 < k ∧ n ≤ maxLen ∧ ∃ xs,w.ownsRow 0 e k (.slice (L.a.map fun g => ⟨g,0,none⟩) n L.cap) n xs ∧ ∀ i,i < n → ∀ j,j < k → ∃ y,xs[i * k + j]? = some y ∧ y.oneCell' = true ∧ RepP w (Al A ⟨w0,X⟩ (bget bx) β) (c i j) y := by
 rcases h with ⟨rfl,hb⟩ | ⟨m,rfl,hnm,hb⟩
 ·obtain ⟨_,hx⟩ := hx
  obtain ⟨f1,f2,f3,xs,f4,f5⟩ := hm.bx b _ hb
  exact ⟨⟨_,hb⟩,β b,rfl,by rw [hx,f1],f1,f2,f3,xs,f4,f5⟩
 ·obtain ⟨e',k',m',hrb,hle,ad,cap,rfl,hcap,ha⟩ := hx
  obtain ⟨f1,f2,f3,xs,f4,f5⟩ := hm.bx b _ hb
  obtain ⟨rfl,rfl⟩ := ha.2 rfl
  have hle' : n * k ≤ m * k := Nat.mul_le_mul_right _ hnm
  refine ⟨⟨_,hb⟩,⟨(β b).a,n,(β b).cap⟩,rfl,rfl,rfl,f2,by omega,xs.take (n * k),⟨by rw [List.length_take,f4.1]; omega,?_⟩,fun i hi j hj => ?_⟩
  ·rcases f4.2 with ⟨q1,q2⟩ | ⟨g,cap,cur,q1,q2,q3,q4,q5,q6,q7⟩
   ·left
    simp at q1 ⊢
    exact ⟨⟨q1.1,by omega,q1.2.2⟩,by omega⟩
   ·right
    simp at q1
    refine ⟨g,cap,cur,by simp [q1],q2,q3,by omega,q5,q6,?_⟩
    rw [← q7,List.take_take,Nat.min_eq_left hle']
  ·obtain ⟨y,y1,y2,y3⟩ := f5 i (by omega) j hj
   have : i * k + j < n * k := by
    have : (i + 1) * k ≤ n * k := Nat.mul_le_mul_right _ hi
    rw [Nat.succ_mul] at this; omega
   exact ⟨y,by rw [List.getElem?_take_of_lt this]; exact y1,y2,y3⟩
theorem pure_okE {E : Env} (hmix : P.follows .mixedOrders = true) (hS : ∀ id s,E.S id = some s → PureOk P E.G id s) (hI : ∀ id af,E.I id = some af → ∃ fn,P.funcs[id]? = some fn ∧ cFun P fn = some af) (hX : ∀ id pz s,E.X id = some (pz,s) → EatOk P E.G id pz s) {id : FuncId} {fn : Func} {af : AFun} {s : Spec} (hfn : P.funcs[id]? = some fn) (hcf : cFun P fn = some af)
  (h : ∀ vs,s.pre vs → WfT (vl vs) → ∃ n,run E (fun v bx => FinS s.own v bx (s.res vs)) n [.code af.code] [] af.res (params 0 vs) [] 0) : PureOk P E.G id s := by
 unfold cFun at hcf
 cases hbody : fn.body with
 | none => simp [hbody] at hcf
 | some cb =>
 simp only [hbody] at hcf
 split at hcf
 ·rename_i ac rs r1 r2
  split at hcf
  ·rename_i hcond
   simp at hcf
   subst hcf
   refine ⟨ent_of hfn hcond.2 hbody,fun A w vs cs hG hr hp => ?_⟩
   obtain ⟨n,hrun⟩ := h vs hp (WfT_of (B := fun _ => none) (β := fun _ => ⟨none,0,0⟩) _ _ (RepP.rep _ _ hr))
   refine (callsIn_wide (n := 0)).1 (callsIn_of_wp_marks hfn hbody trivial ?_)
   have he : EnvOk P E A ⟨w,fun _ => False⟩ := ⟨hmix,fun n m c h => RepP.weak (fun g _ hA => ⟨hA,fun h => h⟩) (hG n m c h),hS,hI,hX⟩
   have hB : (bget ([] : Bx)) = fun _ => none := rfl
   have hrel : Rel P A ⟨w,fun _ => False⟩ (fun _ => ⟨none,0,0⟩) [] [] (params 0 vs) [] 0 { tmps := (⟨cs⟩ : Array Value) ++ Array.replicate (fn.ntmps - (⟨cs⟩ : Array Value).size) undef,defers := [] } w := by
    refine ⟨⟨fun b c hb => (by cases hb),fun b c b' c' g hb => (by cases hb),fun b c hb => (by cases hb),fun b c g hb => (by cases hb),Base.Under.refl _⟩,fun t => params_rep (RepP.rep _ _ (RepP.weak (fun g _ hA => ⟨.inl hA,fun b c hb => (by cases hb)⟩) hr)) _ t,trivial,⟨List.Pairwise.nil,fun d hd => by cases hd⟩,fun f hf => (by cases hf)⟩
   have hcode := KR.code (P := P) (A0 := A) (w0 := ⟨w,fun _ => False⟩) (ro := none) (Qb := bodyPostM (FW none) 0 P fn fun e w' => ∃ x,e = .returned x ∧ RepP w' (fun g => A g ∨ w.heap.size ≤ g) (s.res vs) x ∧ Below w.heap.size w w' ∧ OwnR w w' s.own (s.res vs) x) (as := []) (sk := []) r1 (KR.nil (P := P) (A0 := A) (w0 := ⟨w,fun _ => False⟩) (nt := fn.ntmps) rfl)
   have hS := sound (Qf := fun v bx => FinS s.own v bx (s.res vs)) he n [.code ac] [] rs _ [] 0 hrun fn.ntmps none _ _ _ _ w _ [] [] (by simp; omega) hrel rfl hcode ?_
   ·refine wpIn_mono hS fun e a' w' hq => ?_
    cases e <;> exact hq
   ·refine ⟨fun l a w h => h,fun β1 stk1 fr1 bx1 nx1 a1 w1 hrel1 hsk1 hret1 => ?_⟩
    cases stk1 with
    | cons => simp [skel] at hsk1
    | nil =>
     obtain ⟨hp,hfin,hfin2⟩ := hret1
     have hleave := hrel1.leave (fn := fn) (R := fun e w' => ∃ x,e = .returned x ∧ RepP w' (fun g => A g ∨ w.heap.size ≤ g) (s.res vs) x ∧ Below w.heap.size w w' ∧ OwnR w w' s.own (s.res vs) x) a1.defers a1 w1 rfl fun a' w' ht hr' => by
      obtain ⟨x,hx1,hx2⟩ := results_rep hr' r2 hp
      rw [ht] at hx1
      refine ⟨x,hx1,x,rfl,RepP.weak (fun g hg hA => ?_) (vsubP_rep _ _ _ hfin.2 (snap_rep hr'.mem (fun _ _ h => h) 40 _ _ hfin.1 hx2)),⟨hr'.mem.below.os,hr'.mem.below.tape,hr'.mem.below.output,hr'.mem.below.size,fun k hk => hr'.mem.below.block k hk (fun h => h)⟩,fun e he => ?_⟩
      ·rcases hA with hA | ⟨b,c,hb,hg'⟩
       ·exact hA.1.imp_right fun h => h.elim (fun h => h) False.elim
       ·exact .inr ((hr'.mem.base b c g hb hg').1.elim (fun h => h) False.elim)
      ·rw [he] at hfin2
       obtain ⟨b,k,n',c,c',e1,e3,e4⟩ := hfin2
       obtain ⟨⟨cb,hcb⟩,L,l1,hx3,_,f2,f3,xs,f4,f5⟩ := fin_row hr'.mem hx2 e1
       subst hx3
       refine ⟨k,n',c',e3,f2,f3,xs,ownsRow_base f4 fun g hg => (hr'.mem.base b _ g hcb (by rw [← l1]; exact hg)).1.elim (fun h => h) False.elim,fun i hi j hj => ?_⟩
       obtain ⟨y,y1,y2,y3⟩ := f5 i hi j hj
       rw [(e4 i hi j hj).1]
       exact ⟨y,y1,y2,flat_rep _ _ (e4 i hi j hj).2 y3⟩
     exact ⟨hleave,hleave⟩
  ·cases hcf
 ·cases hcf
theorem rel_row {A : Nat → Prop} {w : World} {vs us : List Val} {cs ds : List Value} {L : Loc} {e0 : TypeId} {k n nt : Nat} {c c' : Nat → Nat → Val} (hA : ∀ g,A g → L.a ≠ some g) (hr : RepP w A (vl vs) (.tuple ⟨cs⟩)) (hr' : RepP w A (vl us) (.tuple ⟨ds⟩)) (hrow : RowP w A L e0 k n c) (h2 : ∀ i,i < n → ∀ j,j < k → vsubP (c' i j) (c i j)) {stk : List SFrame} {as : List Act} (hst : StkR A ⟨w,fun g => L.a = some g⟩ (fun _ => L) (bget [(0,Ent.one (Box.row e0 k n c'))]) w stk as) (hsn : ∀ f ∈ stk,f.nx ≤ 1) (hdf : ∀ d,d ∉ dfs { tmps := #[],defers := [] } as) :
  (∀ g,L.a = some g → g < w.heap.size) ∧ Rel P A ⟨w,fun g => L.a = some g⟩ (fun _ => L) stk as (params 0 (vs ++ .own (.n 0) :: us)) [(0,.one (.row e0 k n c'))] 1 { tmps := (⟨cs ++ .slice (L.a.map fun g => ⟨g,0,none⟩) n L.cap :: ds⟩ : Array Value) ++ Array.replicate (nt - (⟨cs ++ .slice (L.a.map fun g => ⟨g,0,none⟩) n L.cap :: ds⟩ : Array Value).size) undef,defers := [] } w := by
 have hB : ∀ b c2,bget [(0,Ent.one (Box.row e0 k n c'))] b = some c2 → b = .n 0 ∧ c2 = .row e0 k n c' := by
  intro b c2 hb
  rw [bget_one] at hb
  split at hb
  ·rename_i e; cases hb; exact ⟨e,rfl⟩
  ·cases b <;> cases hb
 have hal : ∀ g,A g → Al A ⟨w,fun g => L.a = some g⟩ (bget [(0,Ent.one (Box.row e0 k n c'))]) (fun _ => L) g := fun g hg => ⟨.inl hg,fun b c hb => hA g hg⟩
 obtain ⟨f1,f2,f3,xs,f4,f5⟩ := hrow
 have hlt : ∀ g,L.a = some g → g < w.heap.size := by
  intro g hg
  rcases f4.2 with ⟨q1,_⟩ | ⟨g',cap,cur,q1,_,q3,_⟩
  ·rw [hg] at q1; simp at q1
  ·rw [hg] at q1; simp at q1; rw [q1.1]; exact (Array.getElem?_eq_some_iff.1 q3).1
 refine ⟨hlt,⟨fun b c2 hb => ?_,fun b c2 b' c3 g hb hb' hne => ?_,fun b c2 hb => ?_,fun b c2 g hb hg => ⟨.inr hg,hlt g hg⟩,Base.Under.refl _⟩,fun t => params_rep (B := bget [(0,Ent.one (Box.row e0 k n c'))]) ?_ _ t,hst,?_,hsn⟩
 ·obtain ⟨rfl,rfl⟩ := hB b c2 hb
  refine ⟨f1,f2,f3,xs,f4,fun i hi j hj => ?_⟩
  obtain ⟨y,y1,y2,y3⟩ := f5 i hi j hj
  exact ⟨y,y1,y2,RepP.weak (fun g _ hg => hal g hg) (vsubP_rep _ _ _ (h2 i hi j hj) y3)⟩
 ·exact absurd ((hB b c2 hb).1.trans (hB b' c3 hb').1.symm) hne
 ·rw [(hB b c2 hb).1]; exact Nat.zero_lt_one
 ·rw [vl_app]
  exact Rep.app (RepP.rep _ _ (RepP.weak (fun g _ hg => hal g hg) hr)) (isL_vl _) ⟨_,_,rfl,⟨⟨e0,k,n,.row e0 k n c',rfl,rfl⟩,by rw [f1]⟩,RepP.rep _ _ (RepP.weak (fun g _ hg => hal g hg) hr')⟩
 ·have : dfs { tmps := (⟨cs ++ .slice (L.a.map fun g => ⟨g,0,none⟩) n L.cap :: ds⟩ : Array Value) ++ Array.replicate (nt - (⟨cs ++ .slice (L.a.map fun g => ⟨g,0,none⟩) n L.cap :: ds⟩ : Array Value).size) undef,defers := [] } as = [] := List.eq_nil_iff_forall_not_mem.2 hdf
  rw [this]
  exact ⟨List.Pairwise.nil,fun d hd => by cases hd⟩
theorem eat_okE {E : Env} (hmix : P.follows .mixedOrders = true) (hS : ∀ id s,E.S id = some s → PureOk P E.G id s) (hI : ∀ id af,E.I id = some af → ∃ fn,P.funcs[id]? = some fn ∧ cFun P fn = some af) (hX : ∀ id pz s,E.X id = some (pz,s) → EatOk P E.G id pz s) {id : FuncId} {fn : Func} {af : AFun} {s : Spec} (hfn : P.funcs[id]? = some fn) (hcf : cFun P fn = some af) {e1 : TypeId} {pz : Nat} (hown : s.own = some e1)
  (h : ∀ vs us k n c,vs.length = pz → s.pre (vs ++ .view k n c :: us) → ∃ vs' us' c',vsubP (vl vs') (vl vs) ∧ vsubP (vl us') (vl us) ∧ (∀ i,i < n → ∀ j,j < k → vsubP (c' i j) (c i j)) ∧ (WfT (vl vs') → WfT (vl us') → n ≤ maxLen → ∃ m,run E (fun v bx => FinS s.own v bx (s.res (vs ++ .view k n c :: us))) m [.code af.code] [] af.res (params 0 (vs' ++ .own (.n 0) :: us')) [(0,.one (.row e1 k n c'))] 1)) : EatOk P E.G id pz s := by
 unfold cFun at hcf
 cases hbody : fn.body with
 | none => simp [hbody] at hcf
 | some cb =>
 simp only [hbody] at hcf
 split at hcf
 ·rename_i ac rs r1 r2
  split at hcf
  ·rename_i hcond
   simp at hcf
   subst hcf
   refine ⟨ent_of hfn hcond.2 hbody,fun A w vs us cs ds L e0 k n c hl1 hl2 hA hG hr hr' hrow hee hp => ?_⟩
   have hee' : e1 = e0 := (hee e1 hown).symm
   subst hee'
   obtain ⟨vs',us',c',h1,h1',h2,h3⟩ := h vs us k n c hl1 hp
   replace hr := vsubP_rep _ _ _ h1 hr
   replace hr' := vsubP_rep _ _ _ h1' hr'
   obtain ⟨m,hrun⟩ := h3 (WfT_of (B := fun _ => none) (β := fun _ => ⟨none,0,0⟩) _ _ (RepP.rep _ _ hr)) (WfT_of (B := fun _ => none) (β := fun _ => ⟨none,0,0⟩) _ _ (RepP.rep _ _ hr')) hrow.2.2.1
   simp only [hown] at hrun ⊢
   have he : EnvOk P E A ⟨w,fun g => L.a = some g⟩ := ⟨hmix,fun n m c h => RepP.weak (fun g _ hg => ⟨hg,hA g hg⟩) (hG n m c h),hS,hI,hX⟩
   obtain ⟨hlt,hrel⟩ := rel_row (P := P) (nt := fn.ntmps) hA hr hr' hrow h2 (stk := []) (as := []) trivial (fun f hf => (by cases hf)) (fun d hd => (by cases hd))
   refine (callsIn_wide (n := 0)).1 (callsIn_of_wp_marks hfn hbody trivial ?_)
   generalize hR : (fun ex w' => ∃ L' k' m c2,ex = Ending.returned (.slice (L'.a.map fun g => ⟨g,0,none⟩) m L'.cap) ∧ s.res (vs ++ .view k n c :: us) = .view k' m c2 ∧ (⟨w,fun g => L.a = some g⟩ : Base).Under w' ∧ (∀ g,L'.a = some g → (L.a = some g ∨ w.heap.size ≤ g) ∧ g < w'.heap.size) ∧ RowP w' (fun _ => False) L' e1 k' m c2) = R
   have hcode := KR.code (P := P) (A0 := A) (w0 := ⟨w,fun g => L.a = some g⟩) (ro := none) (Qb := bodyPostM (FW none) 0 P fn R) (as := []) (sk := []) r1 (KR.nil (P := P) (A0 := A) (w0 := ⟨w,fun g => L.a = some g⟩) (nt := fn.ntmps) rfl)
   have hS := sound (Qf := fun v bx => FinS (some e1) v bx (s.res (vs ++ .view k n c :: us))) he m [.code ac] [] rs _ _ 1 hrun fn.ntmps none _ _ _ _ w _ [] [] (by simp; omega) hrel rfl hcode ?_
   ·refine wpIn_mono hS fun e a' w' hq => ?_
    cases e <;> exact hq
   ·refine ⟨fun l a w h => h,fun β1 stk1 fr1 bx1 nx1 a1 w1 hrel1 hsk1 hret1 => ?_⟩
    cases stk1 with
    | cons => simp [skel] at hsk1
    | nil =>
     obtain ⟨hp,hfin,hfin2⟩ := hret1
     have hleave := hrel1.leave (fn := fn) (R := R) a1.defers a1 w1 rfl fun a' w' ht hr' => by
      obtain ⟨x,hx1,hx2⟩ := results_rep hr' r2 hp
      rw [ht] at hx1
      refine ⟨x,hx1,?_⟩
      obtain ⟨b,k',n',c2,c3,e1',e3,e4⟩ := hfin2
      obtain ⟨⟨cb,hcb⟩,L',l1,hx3,g1,g2,g3,xs',g4,g5⟩ := fin_row hr'.mem hx2 e1'
      subst hx3 hR
      refine ⟨L',k',n',c3,rfl,e3,hr'.mem.below,fun g hg => ?_,g1,g2,g3,xs',g4,fun i hi j hj => ?_⟩
      ·obtain ⟨q1,q2⟩ := hr'.mem.base b _ g hcb (by rw [← l1]; exact hg)
       exact ⟨q1.elim .inr .inl,q2⟩
      ·obtain ⟨y,y1,y2,y3⟩ := g5 i hi j hj
       rw [(e4 i hi j hj).1]
       exact ⟨y,y1,y2,flat_rep _ _ (e4 i hi j hj).2 y3⟩
     exact ⟨hleave,hleave⟩
  ·cases hcf
 ·cases hcf
def FinI (e0 : TypeId) (k n : Nat) (r v : Val) (bx : Bx) : Prop := v = .own (.n 0) ∧ ∃ c2 c3,bget bx (.n 0) = some (.row e0 k n c2) ∧ r = .view k n c3 ∧ ∀ i,i < n → ∀ j,j < k → vsubP (c3 i j) (c2 i j)
@[reducible] def Ent.row (e : TypeId) (k n : Nat) (c : Nat → Nat → Val) : Ent := .one (.row e k n c)
@[reducible] def Ent.rown (e : TypeId) (k n : Nat) (c : Nat → Nat → Val) : Ent := .one (.rown e k n c)
@[reducible] def Ent.cells (l : Val) : Ent := .one (.cells l)
@[reducible] def Ent.mp (kd : IntKind) (has : Int → Bool) (f : Int → Val) : Ent := .one (.mp kd has f)
@[reducible] def Ent.mz (kd : IntKind) (f : Int → Val) : Ent := .one (.mz kd f)
@[reducible] def Ent.it (m : Option Bn) (kd : IntKind) (seen : Int → Bool) (last : Option Int) : Ent := .one (.it m kd seen last)
@[reducible] def Ent.lp (g : Nat) (fr : Fr) (ps : List Nat) (ca cb : ACode) (st : Lst) : Ent := .one (.lp g fr ps ca cb st)
def LoopT {ι : Type} (Pi : ι → Prop) (μ : ι → Nat) (sl : ι → Fr) (bs : ι → Bx) (m : Nat) (fr : Fr) (bx : Bx) : Prop := ∃ i,Pi i ∧ m = μ i ∧ fr = sl i ∧ bx = bs i
theorem ChkF.of {ns : List Nat} {fr fr' : Fr} {bx bx' : Bx} {nx nx' : Nat} (h : Chk fr bx fr' bx' nx nx') : ChkF ns fr bx fr' bx' nx nx' := ⟨[],[],fun _ h => (by cases h),fun _ h => (by cases h),fr,bx,rfl,fr,bx,rfl,h⟩
theorem loop_intro {ι : Type} (Pi : ι → Prop) (μ : ι → Nat) (sl : ι → Fr) (bs : ι → Bx) {n : Nat} {c : ACode} {K : List Item} {stk : List SFrame} {res : List ARes} {fr : Fr} {bx : Bx} {nx : Nat} (d : Nat) (i : ι) (hi : Pi i) (h0 : ChkL (stkNx stk) bx fr bx (sl i) (bs i) nx (nx + d))
  (hr : ∀ i,Pi i → runO E Qf n (.code c :: .inv (fun s fr1 bx1 => s = stkFr stk ∧ ∃ m',m' < μ i ∧ ∃ fr'' bx'',LoopT Pi μ sl bs m' fr'' bx'' ∧ ChkL (stkNx stk) bx fr1 bx1 fr'' bx'' nx (nx + d)) :: K) stk res (sl i) (bs i) (nx + d)) :
  LoopP (runO E Qf n) c K stk res fr bx nx := by
 refine ⟨d,LoopT Pi μ sl bs,⟨_,_,_,⟨i,hi,rfl,rfl,rfl⟩,h0⟩,?_⟩
 rintro m fr' bx' ⟨j,hj,rfl,rfl,rfl⟩
 exact hr j hj
theorem inv_intro {ι : Type} {Pi : ι → Prop} {μ : ι → Nat} {sl : ι → Fr} {bs : ι → Bx} {m : Nat} {ns : List Nat} {fr1 : Fr} {bx0 bx1 : Bx} {nx nx' : Nat} (j : ι) (hj : Pi j) (hm : μ j < m) (hc : Chk fr1 bx1 (sl j) (bs j) nx nx') :
  ∃ m',m' < m ∧ ∃ fr'' bx'',LoopT Pi μ sl bs m' fr'' bx'' ∧ ChkL ns bx0 fr1 bx1 fr'' bx'' nx nx' := ⟨μ j,hm,sl j,bs j,⟨j,hj,rfl,rfl,rfl⟩,.inl (ChkF.of hc)⟩
theorem inv_frz {ι : Type} {Pi : ι → Prop} {μ : ι → Nat} {sl : ι → Fr} {bs : ι → Bx} {m : Nat} {ns : List Nat} {fr1 fr2 : Fr} {bx0 bx1 bx2 : Bx} {nx nx' : Nat} (l : List Bn) (j : ι) (hf : frz l (fr1,bx1,[]) = some (fr2,bx2,[])) (hl : ∀ b ∈ l,∀ n ∈ ns,n ≤ b.id) (hj : Pi j) (hm : μ j < m) (hc : Chk fr2 bx2 (sl j) (bs j) nx nx') :
  ∃ m',m' < m ∧ ∃ fr'' bx'',LoopT Pi μ sl bs m' fr'' bx'' ∧ ChkL ns bx0 fr1 bx1 fr'' bx'' nx nx' := ⟨μ j,hm,sl j,bs j,⟨j,hj,rfl,rfl,rfl⟩,.inl ⟨l,[],hl,fun _ h => (by cases h),fr2,bx2,hf,fr2,bx2,rfl,hc⟩⟩
theorem inv_chkG {ι : Type} {Pi : ι → Prop} {μ : ι → Nat} {sl : ι → Fr} {bs : ι → Bx} {m : Nat} {ns : List Nat} {fr1 : Fr} {bx0 bx1 : Bx} {nx nx' : Nat} (j : ι) (hj : Pi j) (hm : μ j < m) (hc : ChkG bx0 nx fr1 bx1 (sl j) (bs j) nx') :
  ∃ m',m' < m ∧ ∃ fr'' bx'',LoopT Pi μ sl bs m' fr'' bx'' ∧ ChkL ns bx0 fr1 bx1 fr'' bx'' nx nx' := ⟨μ j,hm,sl j,bs j,⟨j,hj,rfl,rfl,rfl⟩,.inr hc⟩
def keepF : List Nat → Fr → Fr
 | [],_ => []
 | t :: l,fr => (t,fget fr t) :: keepF l fr
def appF : Fr → Fr → Fr
 | [],r => r
 | p :: l,r => p :: appF l r
def bsetF : Bx → Nat → (Int → Bool) → (Int → Box) → Bx
 | [],b,d,r => [(b,.fam d r)]
 | (t,.one c) :: l,b,d,r => (t,.one c) :: bsetF l b d r
 | (t,.fam d' r') :: l,b,d,r => if t = b then (b,.fam d r) :: l else (t,.fam d' r') :: bsetF l b d r
def updB : Bx → Bx → Bx
 | [],bx => bx
 | (b,.one c) :: l,bx => bset (updB l bx) b c
 | (b,.fam d r) :: l,bx => bsetF (updB l bx) b d r
theorem loopI {ι : Type} (Pi : ι → Prop) (μ : ι → Nat) (keep : List Nat) (sl : ι → Fr) (bs : ι → Bx) {n : Nat} {c : ACode} {K : List Item} {stk : List SFrame} {res : List ARes} {fr : Fr} {bx : Bx} {nx : Nat} (i : ι) (hi : Pi i) (h0 : Chk fr bx (appF (sl i) (keepF keep fr)) (updB (bs i) bx) nx nx)
  (hr : ∀ i,Pi i → runO E Qf n (.code c :: .inv (fun s fr1 bx1 => s = stkFr stk ∧ ∃ m',m' < μ i ∧ ∃ fr'' bx'',LoopT Pi μ (fun i => appF (sl i) (keepF keep fr)) (fun i => updB (bs i) bx) m' fr'' bx'' ∧ ChkL (stkNx stk) bx fr1 bx1 fr'' bx'' nx nx) :: K) stk res (appF (sl i) (keepF keep fr)) (updB (bs i) bx) nx) :
  LoopP (runO E Qf n) c K stk res fr bx nx := loop_intro Pi μ _ _ 0 i hi (.inl (ChkF.of h0)) hr
theorem loopJ {ι : Type} (Pi : ι → Prop) (μ : ι → Nat) (keep : List Nat) (sl : ι → Fr) (bs : ι → Bx) {n : Nat} {c : ACode} {K : List Item} {stk : List SFrame} {res : List ARes} {fr : Fr} {bx : Bx} {nx : Nat} (d : Nat) (i : ι) (hi : Pi i) (h0 : Chk fr bx (appF (sl i) (keepF keep fr)) (updB (bs i) bx) nx (nx + d))
  (hr : ∀ i,Pi i → runO E Qf n (.code c :: .inv (fun s fr1 bx1 => s = stkFr stk ∧ ∃ m',m' < μ i ∧ ∃ fr'' bx'',LoopT Pi μ (fun i => appF (sl i) (keepF keep fr)) (fun i => updB (bs i) bx) m' fr'' bx'' ∧ ChkL (stkNx stk) bx fr1 bx1 fr'' bx'' nx (nx + d)) :: K) stk res (appF (sl i) (keepF keep fr)) (updB (bs i) bx) (nx + d)) :
  LoopP (runO E Qf n) c K stk res fr bx nx := loop_intro Pi μ _ _ d i hi (.inl (ChkF.of h0)) hr
theorem vsubP_self (v : Val) : vsubP v v = True := by
 refine eq_true ?_
 induction v with
 | cons h t ih1 ih2 => exact ⟨h,t,rfl,ih1,ih2⟩
 | agg l ih => exact ⟨l,rfl,ih⟩
 | tup l ih => exact ⟨l,rfl,ih⟩
 | func fn l ih => exact ⟨l,rfl,ih⟩
 | view k n c ih => exact .inr ⟨c,rfl,fun i _ j _ => ih i j⟩
 | vptr m c ih => exact ⟨c,rfl,fun j _ => ih j⟩
 | mview kd has f ih => exact ⟨has,f,rfl,fun k => ⟨rfl,fun _ => ih k⟩⟩
 | und => trivial
 | _ => rfl
section
variable {N D : Bn → Prop}
theorem vs_und (v : Val) : vsub N D .und v = True := rfl
theorem vs_int (k : IntKind) (n : Int) (v : Val) : vsub N D (.int k n) v = (v = .int k n) := rfl
theorem vs_bool (b : Bool) (v : Val) : vsub N D (.bool b) v = (v = .bool b) := rfl
theorem vs_nils (v : Val) : vsub N D .nils v = (v = .nils) := rfl
theorem vs_nilf (v : Val) : vsub N D .nilf v = (v = .nilf) := rfl
theorem vs_nilp (v : Val) : vsub N D .nilp v = (v = .nilp) := rfl
theorem vs_nil (v : Val) : vsub N D .nil v = (v = .nil) := rfl
theorem vs_own (b : Bn) (v : Val) : vsub N D (.own b) v = ((v = .own b ∧ D b) ∨ (v = .nils ∧ N b)) := rfl
theorem vs_ptr (b : Bn) (o : Nat) (v : Val) : vsub N D (.ptr b o) v = (v = .ptr b o ∧ D b) := rfl
theorem vs_rptr (b : Bn) (i o : Nat) (v : Val) : vsub N D (.rptr b i o) v = (v = .rptr b i o ∧ D b) := rfl
theorem vs_cons (a b c d : Val) : vsub N D (.cons a b) (.cons c d) = (vsub N D a c ∧ vsub N D b d) := propext ⟨fun ⟨_,_,e,h1,h2⟩ => by cases e; exact ⟨h1,h2⟩,fun ⟨h1,h2⟩ => ⟨_,_,rfl,h1,h2⟩⟩
theorem vs_agg (l m : Val) : vsub N D (.agg l) (.agg m) = vsub N D l m := propext ⟨fun ⟨_,e,h⟩ => by cases e; exact h,fun h => ⟨_,rfl,h⟩⟩
theorem vs_tup (l m : Val) : vsub N D (.tup l) (.tup m) = vsub N D l m := propext ⟨fun ⟨_,e,h⟩ => by cases e; exact h,fun h => ⟨_,rfl,h⟩⟩
theorem vs_func (f : Fn) (l m : Val) : vsub N D (.func f l) (.func f m) = vsub N D l m := propext ⟨fun ⟨_,e,h⟩ => by cases e; exact h,fun h => ⟨_,rfl,h⟩⟩
theorem vs_view (k n n' : Nat) (c c' : Nat → Nat → Val) : vsub N D (.view k n c) (.view k n' c') = (n' = n ∧ ∀ i,i < n → ∀ j,j < k → vsubP (c i j) (c' i j)) :=
 propext ⟨fun h => by rcases h with ⟨h,_⟩ | ⟨_,e,h⟩; cases h; cases e; exact ⟨rfl,h⟩,fun ⟨e,h⟩ => by subst e; exact .inr ⟨_,rfl,h⟩⟩
theorem vs_viewn (k n : Nat) (c : Nat → Nat → Val) : vsub N D (.view k n c) .nils = (n = 0) := propext (Iff.intro (fun h => by rcases h with ⟨_,h⟩ | ⟨_,e,_⟩ <;> first | exact h | nomatch e) (fun h => Or.inl ⟨rfl,h⟩))
theorem vs_vptr (m : Nat) (c c' : Nat → Val) : vsub N D (.vptr m c) (.vptr m c') = (∀ j,j < m → vsubP (c j) (c' j)) := propext ⟨fun ⟨_,e,h⟩ => by cases e; exact h,fun h => ⟨_,rfl,h⟩⟩
theorem vs_mapb (b : Bn) (v : Val) : vsub N D (.mapb b) v = (v = .mapb b ∧ D b) := rfl
theorem vs_yld (b : Bn) (v : Val) : vsub N D (.yld b) v = (v = .yld b ∧ D b) := rfl
theorem vs_mview (kd kd' : IntKind) (has has' : Int → Bool) (f f' : Int → Val) : vsub N D (.mview kd has f) (.mview kd' has' f') = (kd' = kd ∧ ∀ k,has' k = has k ∧ (has k = true → vsubP (f k) (f' k))) :=
 propext ⟨fun ⟨_,_,e,h⟩ => by cases e; exact ⟨rfl,h⟩,fun ⟨e,h⟩ => by subst e; exact ⟨_,_,rfl,h⟩⟩
theorem vp_mview (kd kd' : IntKind) (has has' : Int → Bool) (f f' : Int → Val) : vsubP (.mview kd has f) (.mview kd' has' f') = (kd' = kd ∧ ∀ k,has' k = has k ∧ (has k = true → vsubP (f k) (f' k))) :=
 propext ⟨fun ⟨_,_,e,h⟩ => by cases e; exact ⟨rfl,h⟩,fun ⟨e,h⟩ => by subst e; exact ⟨_,_,rfl,h⟩⟩
theorem vp_und (v : Val) : vsubP .und v = True := rfl
theorem vp_int (k : IntKind) (n : Int) (v : Val) : vsubP (.int k n) v = (v = .int k n) := rfl
theorem vp_bool (b : Bool) (v : Val) : vsubP (.bool b) v = (v = .bool b) := rfl
theorem vp_nil (v : Val) : vsubP .nil v = (v = .nil) := rfl
theorem vp_nils (v : Val) : vsubP .nils v = (v = .nils) := rfl
theorem vp_nilf (v : Val) : vsubP .nilf v = (v = .nilf) := rfl
theorem vp_nilp (v : Val) : vsubP .nilp v = (v = .nilp) := rfl
theorem vp_cons (a b c d : Val) : vsubP (.cons a b) (.cons c d) = (vsubP a c ∧ vsubP b d) := propext ⟨fun ⟨_,_,e,h1,h2⟩ => by cases e; exact ⟨h1,h2⟩,fun ⟨h1,h2⟩ => ⟨_,_,rfl,h1,h2⟩⟩
theorem vp_agg (l m : Val) : vsubP (.agg l) (.agg m) = vsubP l m := propext ⟨fun ⟨_,e,h⟩ => by cases e; exact h,fun h => ⟨_,rfl,h⟩⟩
theorem vp_tup (l m : Val) : vsubP (.tup l) (.tup m) = vsubP l m := propext ⟨fun ⟨_,e,h⟩ => by cases e; exact h,fun h => ⟨_,rfl,h⟩⟩
theorem vp_func (f : Fn) (l m : Val) : vsubP (.func f l) (.func f m) = vsubP l m := propext ⟨fun ⟨_,e,h⟩ => by cases e; exact h,fun h => ⟨_,rfl,h⟩⟩
theorem vp_view (k n n' : Nat) (c c' : Nat → Nat → Val) : vsubP (.view k n c) (.view k n' c') = (n' = n ∧ ∀ i,i < n → ∀ j,j < k → vsubP (c i j) (c' i j)) :=
 propext ⟨fun h => by rcases h with ⟨h,_⟩ | ⟨_,e,h⟩; cases h; cases e; exact ⟨rfl,h⟩,fun ⟨e,h⟩ => by subst e; exact .inr ⟨_,rfl,h⟩⟩
theorem vp_viewn (k n : Nat) (c : Nat → Nat → Val) : vsubP (.view k n c) .nils = (n = 0) := propext (Iff.intro (fun h => by rcases h with ⟨_,h⟩ | ⟨_,e,_⟩ <;> first | exact h | nomatch e) (fun h => Or.inl ⟨rfl,h⟩))
theorem vp_vptr (m : Nat) (c c' : Nat → Val) : vsubP (.vptr m c) (.vptr m c') = (∀ j,j < m → vsubP (c j) (c' j)) := propext ⟨fun ⟨_,e,h⟩ => by cases e; exact h,fun h => ⟨_,rfl,h⟩⟩
end
theorem wr64 {e : Int} (h : -9223372036854775808 ≤ e) (h' : e ≤ 9223372036854775807) : IntKind.i64.wrap e = e := IntWalk.i64_in e (by omega)
theorem inat (i : Nat) : ((i : Int)).toNat = i := Int.toNat_natCast i
theorem inat1 (i : Nat) : ((i : Int) + 1).toNat = i + 1 := by omega
theorem wrS {i : Nat} (h : i < 9223372036854775807) : IntKind.i64.wrap ((i : Int) + 1) = ((i + 1 : Nat) : Int) := by rw [wr64 (by omega) (by omega)]; omega
theorem imp_tt (p : Prop) : (true = true → p) = p := propext ⟨fun h => h rfl,fun h _ => h⟩
theorem imp_tf (p : Prop) : (true = false → p) = True := eq_true fun h => Bool.noConfusion h
theorem imp_ft (p : Prop) : (false = true → p) = True := eq_true fun h => Bool.noConfusion h
theorem imp_ff (p : Prop) : (false = false → p) = p := propext ⟨fun h => h rfl,fun h _ => h⟩
end Go.Proofs.Ytlieoghhkioflaa
/- The engine,part 23: types of values,and specs by types. No condition. -/
namespace Go.Proofs.Ytlieoghhkioflaa
open Go Go.RowKit
variable {P : Program} {E : Env} {A0 : Nat → Prop} {w0 : Base} {Qf : Val → Bx → Prop}
structure VT (α : Type) where
 Is : Val → Prop
 of : Val → α
 enc : α → Val
 h1 : ∀ v,Is v → vsubP (enc (of v)) v
 h2 : ∀ a,of (enc a) = a
structure RT (α : Type) where
 k : Nat
 W : Nat → (Nat → Nat → Val) → Prop
 D : (Nat → Nat → Val) → Nat → α
 C : α → Nat → Val
 h1 : ∀ n c,W n c → ∀ i,i < n → ∀ j,j < k → vsubP (C (D c i) j) (c i j)
 h2 : ∀ x : Nat → α,D (fun i j => C (x i) j) = x
 w_enc : ∀ (n : Nat) (x : Nat → α),W n (fun i j => C (x i) j)
def IsInt (k : IntKind) : Val → Prop
 | .int k' _ => k = k'
 | _ => False
def IsBool : Val → Prop
 | .bool _ => True
 | _ => False
def TInt (k : IntKind) : VT Int where
 Is := IsInt k
 of := Val.toInt
 enc := fun n => .int k n
 h1 := by intro v h; cases v <;> simp [IsInt] at h; subst h; rfl
 h2 := fun _ => rfl
abbrev TI : VT Int := TInt .i64
def TBool : VT Bool where
 Is := IsBool
 of := Val.toBool
 enc := fun n => .bool n
 h1 := by intro v h; cases v <;> simp [IsBool] at h; rfl
 h2 := fun _ => rfl
def IsSl {α : Type} (R : RT α) : Val → Prop
 | .view k n c => k = R.k ∧ R.W n c
 | _ => False
def TSl {α : Type} (R : RT α) : VT (Nat × (Nat → α)) where
 Is := IsSl R
 of := fun v => (v.slen,R.D v.scell)
 enc := fun p => .view R.k p.1 fun i j => R.C (p.2 i) j
 h1 := by
  intro v h
  cases v <;> simp only [IsSl] at h
  rename_i k n c
  obtain ⟨rfl,h⟩ := h
  simp only [vp_view,Val.slen,Val.scell,true_and]
  exact R.h1 n c h
 h2 := fun p => by simp only [Val.slen,Val.scell]; rw [R.h2]
def RInt (k : IntKind) : RT Int where
  k := 1
  W := fun n c => ∀ i,i < n → c i 0 = .int k (c i 0).toInt
  D := fun c i => (c i 0).toInt
  C := fun x _ => .int k x
  h1 := by intro n c h i hi j hj; obtain rfl : j = 0 := by omega
           rw [h i hi]; rfl
  h2 := fun _ => rfl
  w_enc := fun _ _ _ _ => rfl
def RBool : RT Bool where
  k := 1
  W := fun n c => ∀ i,i < n → c i 0 = .bool (c i 0).toBool
  D := fun c i => (c i 0).toBool
  C := fun x _ => .bool x
  h1 := by intro n c h i hi j hj; obtain rfl : j = 0 := by omega
           rw [h i hi]; rfl
  h2 := fun _ => rfl
  w_enc := fun _ _ _ _ => rfl
def RSl {α : Type} (R : RT α) : RT (Nat × (Nat → α)) where
 k := 1
 W := fun n c => ∀ i,i < n → c i 0 = .view R.k (c i 0).slen (c i 0).scell ∧ R.W (c i 0).slen (c i 0).scell
 D := fun c i => ((c i 0).slen,R.D (c i 0).scell)
 C := fun x _ => .view R.k x.1 fun i j => R.C (x.2 i) j
 h1 := by
  intro n c h i hi j hj
  obtain rfl : j = 0 := by omega
  obtain ⟨h1,h2⟩ := h i hi
  rw [h1]
  simp only [vp_view,Val.slen,Val.scell,true_and]
  exact R.h1 _ _ h2
 h2 := fun x => by funext i; simp only [Val.slen,Val.scell]; rw [R.h2]
 w_enc := fun n x i _ => ⟨rfl,R.w_enc _ _⟩
theorem pure_okM {E : Env} (hmix : P.follows .mixedOrders = true) (hS : ∀ id s,E.S id = some s → PureOk P E.G id s) (hI : ∀ id af,E.I id = some af → ∃ fn,P.funcs[id]? = some fn ∧ cFun P fn = some af) (hX : ∀ id pz s,E.X id = some (pz,s) → EatOk P E.G id pz s) {id : FuncId} {fn : Func} {af : AFun} {s : Spec} (hfn : P.funcs[id]? = some fn) (hcf : cFun P fn = some af) (hno : s.own = none)
  (h : ∀ vs,s.pre vs → ∃ vs',vsubP (vl vs') (vl vs) ∧ s.res vs' = s.res vs ∧ (WfT (vl vs') → ∃ n,runO E (fun v bx => Fin v bx (s.res vs')) n [.code af.code] [] af.res (params 0 vs') [] 0)) : PureOk P E.G id s := by
 simp only [runO_eq] at h
 have hok : PureOk P E.G id ⟨fun vs' => WfT (vl vs') → ∃ n,run E (fun v bx => Fin v bx (s.res vs')) n [.code af.code] [] af.res (params 0 vs') [] 0,s.res,none⟩ :=
  pure_okE hmix hS hI hX hfn hcf fun vs hp hw => by simp only [FinS_none]; exact hp hw
 refine ⟨hok.ent,fun A w vs cs hG hr hp => ?_⟩
 obtain ⟨vs',h1,h2,h3⟩ := h vs hp
 have := hok.run A w vs' cs hG (vsubP_rep _ _ _ h1 hr) h3
 simp only [h2] at this
 refine this.mono fun e w' => ?_
 rintro ⟨x,q1,q2,q3,_⟩
 exact ⟨x,q1,q2,q3,fun e' he' => by rw [hno] at he'; cases he'⟩
theorem pure_okN {G : Nat → Option (Nat × (Nat → Val))} {S : List (FuncId × Spec)} {I : List (FuncId × AFun)} (hmix : P.follows .mixedOrders = true) (hS : SOk P G S) (hI : IOk P I) {id : FuncId} {fn : Func} {af : AFun} {s : Spec} (hfn : P.funcs[id]? = some fn) (hcf : cFun P fn = some af) (hno : s.own = none)
  (h : ∀ vs,s.pre vs → ∃ vs',vsubP (vl vs') (vl vs) ∧ s.res vs' = s.res vs ∧ (WfT (vl vs') → ∃ n,runO (mkE G S I) (fun v bx => Fin v bx (s.res vs')) n [.code af.code] [] af.res (params 0 vs') [] 0)) : PureOk P G id s :=
 pure_okM (E := mkE G S I) hmix hS.get hI.get (fun _ _ _ h => by cases h) hfn hcf hno h
def spec1 {α1 : Type} (t1 : VT α1) (pre : α1 → Prop) (res : α1 → Val) : Spec :=
 ⟨fun | [a] => t1.Is a ∧ pre (t1.of a) | _ => False,fun | [a] => res (t1.of a) | _ => .und,none⟩
def spec0 (res : Val) : Spec := ⟨fun | [] => True | _ => False,fun _ => res,none⟩
def spec2 {α1 α2 : Type} (t1 : VT α1) (t2 : VT α2) (pre : α1 → α2 → Prop) (res : α1 → α2 → Val) : Spec :=
 ⟨fun | [a,b] => t1.Is a ∧ t2.Is b ∧ pre (t1.of a) (t2.of b) | _ => False,fun | [a,b] => res (t1.of a) (t2.of b) | _ => .und,none⟩
def spec3 {α1 α2 α3 : Type} (t1 : VT α1) (t2 : VT α2) (t3 : VT α3) (pre : α1 → α2 → α3 → Prop) (res : α1 → α2 → α3 → Val) : Spec :=
 ⟨fun | [a,b,c] => t1.Is a ∧ t2.Is b ∧ t3.Is c ∧ pre (t1.of a) (t2.of b) (t3.of c) | _ => False,fun | [a,b,c] => res (t1.of a) (t2.of b) (t3.of c) | _ => .und,none⟩
def spec4 {α1 α2 α3 α4 : Type} (t1 : VT α1) (t2 : VT α2) (t3 : VT α3) (t4 : VT α4) (pre : α1 → α2 → α3 → α4 → Prop) (res : α1 → α2 → α3 → α4 → Val) : Spec :=
 ⟨fun | [a,b,c,d] => t1.Is a ∧ t2.Is b ∧ t3.Is c ∧ t4.Is d ∧ pre (t1.of a) (t2.of b) (t3.of c) (t4.of d) | _ => False,fun | [a,b,c,d] => res (t1.of a) (t2.of b) (t3.of c) (t4.of d) | _ => .und,none⟩
def spec5 {α1 α2 α3 α4 α5 : Type} (t1 : VT α1) (t2 : VT α2) (t3 : VT α3) (t4 : VT α4) (t5 : VT α5) (pre : α1 → α2 → α3 → α4 → α5 → Prop) (res : α1 → α2 → α3 → α4 → α5 → Val) : Spec :=
 ⟨fun | [a,b,c,d,e] => t1.Is a ∧ t2.Is b ∧ t3.Is c ∧ t4.Is d ∧ t5.Is e ∧ pre (t1.of a) (t2.of b) (t3.of c) (t4.of d) (t5.of e) | _ => False,fun | [a,b,c,d,e] => res (t1.of a) (t2.of b) (t3.of c) (t4.of d) (t5.of e) | _ => .und,none⟩
section
variable {G : Nat → Option (Nat × (Nat → Val))} {S : List (FuncId × Spec)} {I : List (FuncId × AFun)} {id : FuncId} {fn : Func} {af : AFun} {α1 α2 α3 α4 α5 : Type} {t1 : VT α1} {t2 : VT α2} {t3 : VT α3} {t4 : VT α4} {t5 : VT α5}
def Spec.mine (s : Spec) (e : TypeId) : Spec := ⟨s.pre,s.res,some e⟩
abbrev RunTo (G : Nat → Option (Nat × (Nat → Val))) (S : List (FuncId × Spec)) (I : List (FuncId × AFun)) (af : AFun) (vs : List Val) (r : Val) : Prop := runO (mkE G S I) (fun v bx => Fin v bx r) 5000 [.code af.code] [] af.res (params 0 vs) [] 0
theorem fn0 (hmix : P.follows .mixedOrders = true) (hS : SOk P G S) (hI : IOk P I) (hfn : P.funcs[id]? = some fn) (hcf : cFun P fn = some af) {res : Val}
  (h : RunTo G S I af [] res) : PureOk P G id (spec0 res) := by
 refine pure_okN hmix hS hI hfn hcf rfl fun vs hp => ?_
 simp only [spec0] at hp
 split at hp
 ·exact ⟨[],rfl,rfl,fun _ => ⟨5000,h⟩⟩
 ·exact hp.elim
theorem fn1 (hmix : P.follows .mixedOrders = true) (hS : SOk P G S) (hI : IOk P I) (hfn : P.funcs[id]? = some fn) (hcf : cFun P fn = some af) {pre : α1 → Prop} {res : α1 → Val}
  (h : ∀ a,pre a → WfT (vl [t1.enc a]) → RunTo G S I af [t1.enc a] (res a)) : PureOk P G id (spec1 t1 pre res) := by
 refine pure_okN hmix hS hI hfn hcf rfl fun vs hp => ?_
 simp only [spec1] at hp
 split at hp
 ·rename_i a
  refine ⟨[t1.enc (t1.of a)],?_,?_,fun hw => ⟨5000,?_⟩⟩
  ·exact ⟨_,_,rfl,t1.h1 a hp.1,rfl⟩
  ·simp only [spec1,t1.h2]
  ·simp only [spec1,t1.h2]; exact h _ hp.2 hw
 ·exact hp.elim
theorem fn2 (hmix : P.follows .mixedOrders = true) (hS : SOk P G S) (hI : IOk P I) (hfn : P.funcs[id]? = some fn) (hcf : cFun P fn = some af) {pre : α1 → α2 → Prop} {res : α1 → α2 → Val}
  (h : ∀ a b,pre a b → WfT (vl [t1.enc a,t2.enc b]) → RunTo G S I af [t1.enc a,t2.enc b] (res a b)) : PureOk P G id (spec2 t1 t2 pre res) := by
 refine pure_okN hmix hS hI hfn hcf rfl fun vs hp => ?_
 simp only [spec2] at hp
 split at hp
 ·rename_i a b
  obtain ⟨p1,p2,p⟩ := hp
  refine ⟨[t1.enc (t1.of a),t2.enc (t2.of b)],?_,?_,fun hw => ⟨5000,?_⟩⟩
  ·exact ⟨_,_,rfl,t1.h1 a p1,_,_,rfl,t2.h1 b p2,rfl⟩
  ·simp only [spec2,t1.h2,t2.h2]
  ·simp only [spec2,t1.h2,t2.h2]; exact h _ _ p hw
 ·exact hp.elim
theorem fn3 (hmix : P.follows .mixedOrders = true) (hS : SOk P G S) (hI : IOk P I) (hfn : P.funcs[id]? = some fn) (hcf : cFun P fn = some af) {pre : α1 → α2 → α3 → Prop} {res : α1 → α2 → α3 → Val}
  (h : ∀ a b c,pre a b c → WfT (vl [t1.enc a,t2.enc b,t3.enc c]) → RunTo G S I af [t1.enc a,t2.enc b,t3.enc c] (res a b c)) : PureOk P G id (spec3 t1 t2 t3 pre res) := by
 refine pure_okN hmix hS hI hfn hcf rfl fun vs hp => ?_
 simp only [spec3] at hp
 split at hp
 ·rename_i a b c
  obtain ⟨p1,p2,p3,p⟩ := hp
  refine ⟨[t1.enc (t1.of a),t2.enc (t2.of b),t3.enc (t3.of c)],?_,?_,fun hw => ⟨5000,?_⟩⟩
  ·exact ⟨_,_,rfl,t1.h1 a p1,_,_,rfl,t2.h1 b p2,_,_,rfl,t3.h1 c p3,rfl⟩
  ·simp only [spec3,t1.h2,t2.h2,t3.h2]
  ·simp only [spec3,t1.h2,t2.h2,t3.h2]; exact h _ _ _ p hw
 ·exact hp.elim
structure AT (α : Type) where
 Is : List Val → Prop
 of : List Val → α
 enc : α → List Val
 h1 : ∀ vs,Is vs → vsubP (vl (enc (of vs))) (vl vs)
 h2 : ∀ a,of (enc a) = a
def TNo : AT Unit where
 Is := fun | [] => True | _ => False
 of := fun _ => ()
 enc := fun _ => []
 h1 := fun vs h => by cases vs; rfl; cases h
 h2 := fun _ => rfl
def TAnd {α β : Type} (t : VT α) (s : AT β) : AT (α × β) where
 Is := fun | v :: l => t.Is v ∧ s.Is l | [] => False
 of := fun vs => (t.of (vs.headD .und),s.of vs.tail)
 enc := fun a => t.enc a.1 :: s.enc a.2
 h1 := fun vs h => by
  cases vs with
  | nil => exact h.elim
  | cons v l => exact ⟨_,_,rfl,t.h1 v h.1,s.h1 l h.2⟩
 h2 := fun a => by simp only [List.headD_cons,List.tail_cons,t.h2,s.h2]
def specT {α : Type} (t : AT α) (pre : α → Prop) (res : α → Val) : Spec := ⟨fun vs => t.Is vs ∧ pre (t.of vs),fun vs => res (t.of vs),none⟩
variable {X : List (FuncId × Nat × Spec)} {N : List TypeId} {C : List (FuncId × Option (TypeId × IntKind))} {α β : Type}
theorem fnT {t : AT α} (hmix : P.follows .mixedOrders = true) (hS : SOk P G S) (hI : IOk P I) (hX : XOk P G X) (hfn : P.funcs[id]? = some fn) (hcf : cFun P fn = some af) {pre : α → Prop} {res : α → Val}
  (h : ∀ a,pre a → WfT (vl (t.enc a)) → runO (mkA G S I X N C) (fun v bx => Fin v bx (res a)) 100000 [.code af.code] [] af.res (params 0 (t.enc a)) [] 0) : PureOk P G id (specT t pre res) :=
 pure_okM (E := mkA G S I X N C) hmix hS.get hI.get hX.get hfn hcf rfl fun vs hp => ⟨t.enc (t.of vs),t.h1 vs hp.1,by simp only [specT,t.h2],fun hw => ⟨100000,by simp only [specT,t.h2]; exact h _ hp.2 hw⟩⟩
theorem feT {R : RT α} {t : AT β} (hmix : P.follows .mixedOrders = true) (hS : SOk P G S) (hI : IOk P I) (hX : XOk P G X) (hfn : P.funcs[id]? = some fn) (hcf : cFun P fn = some af) {e : TypeId} {pre : (Nat × (Nat → α)) × β → Prop} {res : (Nat × (Nat → α)) × β → Val}
  (h : ∀ a b,pre (a,b) → WfT (vl (t.enc b)) → a.1 ≤ maxLen → runO (mkA G S I X N C) (fun v bx => FinS (some e) v bx (res (a,b))) 100000 [.code af.code] [] af.res (params 0 (.own (.n 0) :: t.enc b)) [(0,.row e R.k a.1 fun i j => R.C (a.2 i) j)] 1) : EatOk P G id 0 ((specT (TAnd (TSl R) t) pre res).mine e) := by
 simp only [runO_eq] at h
 refine eat_okE (E := mkA G S I X N C) hmix hS.get hI.get hX.get hfn hcf (e1 := e) rfl fun vs us k n c hl hp => ?_
 obtain rfl : vs = [] := List.eq_nil_of_length_eq_zero hl
 obtain ⟨⟨⟨rfl,hw⟩,h2⟩,hp⟩ := hp
 refine ⟨[],t.enc (t.of us),fun i j => R.C (R.D c i) j,rfl,t.h1 us h2,fun i hi j hj => R.h1 n c hw i hi j hj,fun _ hw' hn => ⟨100000,?_⟩⟩
 exact h (n,R.D c) (t.of us) hp hw' hn
end
end Go.Proofs.Ytlieoghhkioflaa
/- The engine: integers within their kind's bounds,as types of values. No condition. -/
namespace Go.Proofs.Ytlieoghhkioflaa
open Go Go.RowKit
section
variable {k : IntKind}
end
attribute [go_sem] memN noIt1 subBox bsetF rowsOkN hasNil renV renFr renBox renBx rens mkA_S mkA_I mkA_G mkA_X mkA_N mkA_C mkA_Z catF frzF ptrV names namesL eatAt FinI List.headD_cons List.tail_cons Ent.row Ent.rown Ent.cells Ent.mp Ent.mz Ent.it Ent.lp Bn.n.injEq Bn.f.injEq Option.map_some Option.map_none flatO noIt FinS Spec.mine runO_1 runO_2 runO_3 runO_4 runO_5 runO_6 runO_7 runO_8 runO_9 runO_10 runO_11 runO_12 runO_13 runO_14 runO_15 runO_16 runO_17 runO_18 runO_19 runO_20 aop binV ends asgB RoundP roundIn keepS putL reOk dstV Jmp.acode List.map_cons List.map_nil Nat.zero_sub ev evs fget fput params vl cellsOf cellsN isLB vget vset vsets vlen bget bset bdel addB addN mkv sliceV vtab fillV fillOk rowsV rowsOk vrep frz opOwns preFz callFz ownsL owns skipOp WfT resV resL res1 casts castOks cast1 castOk norm norms norm1 normL pureB pureL flatB onesB snapV snapOk snapL snapOks specV argsL capsL eatR lkp eqCells eqOk pickV mgetV optInt lenV subFr subV subBx subStk elemsV popTo stkFr stkNx Fin vp_und vp_int vp_bool vp_nil vp_nils vp_nilf vp_nilp vp_cons vp_agg vp_tup vp_func vp_view vp_viewn vp_vptr vp_mview vsubP_self Val.toInt Val.toBool Val.slen Val.scell Nat.zero_add Nat.add_zero Nat.mul_one Nat.zero_mul Nat.sub_zero Int.cast_ofNat_Int decide_true decide_false beq_iff_eq beq_eq_false_iff_ne bne_iff_ne bne_eq_false_iff_eq List.length_cons List.length_nil List.nil_append List.cons_append List.append_nil List.flatMap_cons List.flatMap_nil Bool.not_eq_true' Bool.not_eq_false' Bool.and_true Bool.and_false Bool.true_and Bool.false_and Bool.and_self Bool.bne_true Bool.bne_false bne_self_eq_false Bool.not_true Bool.not_false Bool.true_eq_false Bool.false_eq_true beq_self_eq_true and_true true_and and_self and_assoc forall_const imp_self implies_true Nat.le_refl decide_eq_true_eq decide_eq_false_iff_not Option.some.injEq Val.int.injEq Val.bool.injEq Val.cons.injEq Val.agg.injEq Val.tup.injEq exists_eq_left' exists_eq' exists_eq_right exists_eq_right' exists_const exists_and_left exists_and_right ne_eq not_false_eq_true true_implies false_implies or_true true_or or_false false_or not_true_eq_false maxLen keepF appF updB inat inat1 vs_yld Chk chkFr chkBx chkBx1 newIn hasB idsLt kept vs_und vs_int vs_bool vs_nil vs_nils vs_nilf vs_nilp vs_own vs_ptr vs_rptr vs_cons vs_agg vs_tup vs_func vs_view vs_viewn vs_vptr vs_mview vs_mapb Nat.lt_irrefl
attribute [go_sem ↓] imp_tt imp_tf imp_ft imp_ff
end Go.Proofs.Ytlieoghhkioflaa
