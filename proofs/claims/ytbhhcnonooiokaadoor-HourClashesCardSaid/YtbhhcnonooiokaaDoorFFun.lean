/- The engine, part 22: a function's spec out of a run of its compiled code; loops. No condition. -/
import Derived.Test.YtbhhcnonooiokaaDoorFMain3
namespace Go.Proofs.YtbhhcnonooiokaaDoor
open Go Go.RowKit
variable {P : Program} {E : Env} {A0 : Nat → Prop} {w0 : World} {Qf : Val → Bx → Prop}

def Fin (v : Val) (bx : Bx) (r : Val) : Prop := snapOk bx 4 v = true ∧ vsubP r (snapV bx 4 v)
def lkp {α : Type} : List (FuncId × α) → FuncId → Option α
  | [], _ => none
  | (i, s) :: l, id => if i = id then some s else lkp l id
inductive SOk (P : Program) (G : Nat → Option (Nat × (Nat → Val))) : List (FuncId × Spec) → Prop
  | nil : SOk P G []
  | cons {id s l} : PureOk P G id s → SOk P G l → SOk P G ((id, s) :: l)
inductive IOk (P : Program) : List (FuncId × AFun) → Prop
  | nil : IOk P []
  | cons {id af l fn} : P.funcs[id]? = some fn → cFun P fn = some af → IOk P l → IOk P ((id, af) :: l)
def mkE (G : Nat → Option (Nat × (Nat → Val))) (S : List (FuncId × Spec)) (I : List (FuncId × AFun)) : Env := ⟨G, lkp S, lkp I⟩
theorem mkE_G {G S I} : (mkE G S I).G = G := rfl
theorem mkE_S {G S I} (id : FuncId) : (mkE G S I).S id = lkp S id := rfl
theorem mkE_I {G S I} (id : FuncId) : (mkE G S I).I id = lkp I id := rfl
theorem SOk.get {G : Nat → Option (Nat × (Nat → Val))} {l : List (FuncId × Spec)} (h : SOk P G l) : ∀ id s, lkp l id = some s → PureOk P G id s := by
  induction h with
  | nil => intro id s h; cases h
  | cons hp _ ih =>
    intro id s h
    simp only [lkp] at h
    split at h
    · rename_i e; subst e; cases h; exact hp
    · exact ih id s h
theorem IOk.get {l : List (FuncId × AFun)} (h : IOk P l) : ∀ id af, lkp l id = some af → ∃ fn, P.funcs[id]? = some fn ∧ cFun P fn = some af := by
  induction h with
  | nil => intro id s h; cases h
  | cons h1 h2 _ ih =>
    intro id s h
    simp only [lkp] at h
    split at h
    · rename_i e; subst e; cases h; exact ⟨_, h1, h2⟩
    · exact ih id s h
theorem pure_ok {G : Nat → Option (Nat × (Nat → Val))} {S : List (FuncId × Spec)} {I : List (FuncId × AFun)} (hmix : P.follows .mixedOrders = true) (hS : SOk P G S) (hI : IOk P I) {id : FuncId} {fn : Func} {af : AFun} {s : Spec} (hfn : P.funcs[id]? = some fn) (hcf : cFun P fn = some af)
    (h : ∀ vs, s.pre vs → WfT (vl vs) → ∃ n, run (mkE G S I) (fun v bx => Fin v bx (s.res vs)) n [.code af.code] [] af.res (params 0 vs) [] 0) : PureOk P G id s := by
  unfold cFun at hcf
  cases hbody : fn.body with
  | none => simp [hbody] at hcf
  | some cb =>
  simp only [hbody] at hcf
  split at hcf
  · rename_i ac rs r1 r2
    split at hcf
    · rename_i hcond
      simp at hcf
      subst hcf
      refine ⟨ent_of hfn hcond.2 hbody, fun A w vs cs hG hr hp => ?_⟩
      obtain ⟨n, hrun⟩ := h vs hp (WfT_of (B := fun _ => none) (β := fun _ => ⟨none, 0, 0⟩) _ _ (RepP.rep _ _ hr))
      refine (callsIn_wide (n := 0)).1 (callsIn_of_wp_marks hfn hbody trivial ?_)
      have he : EnvOk P (mkE G S I) A w := ⟨hmix, hG, fun id s hs => hS.get id s hs, fun id af ha => hI.get id af ha⟩
      have hB : (bget ([] : Bx)) = fun _ => none := rfl
      have hrel : Rel P A w (fun _ => ⟨none, 0, 0⟩) [] [] (params 0 vs) [] 0 { tmps := (⟨cs⟩ : Array Value) ++ Array.replicate (fn.ntmps - (⟨cs⟩ : Array Value).size) undef, defers := [] } w := by
        refine ⟨⟨fun b c hb => (by cases hb), fun b c b' c' g hb => (by cases hb), fun b c hb => (by cases hb), fun b c g hb => (by cases hb), Below.refl _ _⟩, fun t => params_rep (RepP.rep _ _ (RepP.weak (fun g _ hA => ⟨.inl hA, fun b c hb => (by cases hb)⟩) hr)) _ t, trivial, ⟨List.Pairwise.nil, fun d hd => by cases hd⟩, fun f hf => (by cases hf)⟩
      have hcode := KR.code (P := P) (A0 := A) (w0 := w) (ro := none) (Qb := bodyPostM (FW none) 0 P fn fun e w' => ∃ x, e = .returned x ∧ RepP w' (fun g => A g ∨ w.heap.size ≤ g) (s.res vs) x ∧ Below w.heap.size w w') (as := []) (sk := []) r1 (KR.nil (P := P) (A0 := A) (w0 := w) (nt := fn.ntmps) rfl)
      have hS := sound (Qf := fun v bx => Fin v bx (s.res vs)) he n [.code ac] [] rs _ [] 0 hrun fn.ntmps none _ _ _ _ w _ [] [] (by simp; omega) hrel rfl hcode ?_
      · refine wpIn_mono hS fun e a' w' hq => ?_
        cases e <;> exact hq
      · refine ⟨fun l a w h => h, fun β1 stk1 fr1 bx1 nx1 a1 w1 hrel1 hsk1 hret1 => ?_⟩
        cases stk1 with
        | cons => simp [skel] at hsk1
        | nil =>
          obtain ⟨hp, hfin⟩ := hret1
          have hleave := hrel1.leave (fn := fn) (R := fun e w' => ∃ x, e = .returned x ∧ RepP w' (fun g => A g ∨ w.heap.size ≤ g) (s.res vs) x ∧ Below w.heap.size w w') a1.defers a1 w1 rfl fun a' w' ht hr' => by
            obtain ⟨x, hx1, hx2⟩ := results_rep hr' r2 hp
            rw [ht] at hx1
            refine ⟨x, hx1, x, rfl, RepP.weak (fun g hg hA => ?_) (vsubP_rep _ _ _ hfin.2 (snap_rep hr'.mem (fun _ _ h => h) 4 _ _ hfin.1 hx2)), hr'.mem.below⟩
            rcases hA with hA | ⟨b, c, hb, hg'⟩
            · exact hA.1
            · exact .inr (hr'.mem.base b c g hb hg').1
          exact ⟨hleave, hleave⟩
    · cases hcf
  · cases hcf

def LoopT {ι : Type} (Pi : ι → Prop) (μ : ι → Nat) (sl : ι → Fr) (bs : ι → Bx) (m : Nat) (fr : Fr) (bx : Bx) : Prop := ∃ i, Pi i ∧ m = μ i ∧ fr = sl i ∧ bx = bs i
theorem loop_intro {ι : Type} (Pi : ι → Prop) (μ : ι → Nat) (sl : ι → Fr) (bs : ι → Bx) {n : Nat} {c : ACode} {K : List Item} {stk : List SFrame} {res : List ARes} {fr : Fr} {bx : Bx} {nx : Nat} (d : Nat) (i : ι) (hi : Pi i) (h0 : Chk fr bx (sl i) (bs i) nx (nx + d))
    (hr : ∀ i, Pi i → run E Qf n (.code c :: .inv (fun s fr1 bx1 => s = stkFr stk ∧ ∃ m', m' < μ i ∧ ∃ fr'' bx'', LoopT Pi μ sl bs m' fr'' bx'' ∧ Chk fr1 bx1 fr'' bx'' nx (nx + d)) :: K) stk res (sl i) (bs i) (nx + d)) :
    LoopP (run E Qf n) c K stk res fr bx nx := by
  refine ⟨d, LoopT Pi μ sl bs, ⟨_, _, _, ⟨i, hi, rfl, rfl, rfl⟩, h0⟩, ?_⟩
  rintro m fr' bx' ⟨j, hj, rfl, rfl, rfl⟩
  exact hr j hj
theorem inv_intro {ι : Type} {Pi : ι → Prop} {μ : ι → Nat} {sl : ι → Fr} {bs : ι → Bx} {m : Nat} {fr1 : Fr} {bx1 : Bx} {nx nx' : Nat} (j : ι) (hj : Pi j) (hm : μ j < m) (hc : Chk fr1 bx1 (sl j) (bs j) nx nx') :
    ∃ m', m' < m ∧ ∃ fr'' bx'', LoopT Pi μ sl bs m' fr'' bx'' ∧ Chk fr1 bx1 fr'' bx'' nx nx' := ⟨μ j, hm, sl j, bs j, ⟨j, hj, rfl, rfl, rfl⟩, hc⟩
def keepF : List Nat → Fr → Fr
  | [], _ => []
  | t :: l, fr => (t, fget fr t) :: keepF l fr
def appF : Fr → Fr → Fr
  | [], r => r
  | p :: l, r => p :: appF l r
def updB : Bx → Bx → Bx
  | [], bx => bx
  | (b, c) :: l, bx => bset (updB l bx) b c
/-- a loop, by the slots that it changes (sl), those that stay (keep), and the boxes that it changes (bs) -/
theorem loopI {ι : Type} (Pi : ι → Prop) (μ : ι → Nat) (keep : List Nat) (sl : ι → Fr) (bs : ι → Bx) {n : Nat} {c : ACode} {K : List Item} {stk : List SFrame} {res : List ARes} {fr : Fr} {bx : Bx} {nx : Nat} (i : ι) (hi : Pi i) (h0 : Chk fr bx (appF (sl i) (keepF keep fr)) (updB (bs i) bx) nx nx)
    (hr : ∀ i, Pi i → run E Qf n (.code c :: .inv (fun s fr1 bx1 => s = stkFr stk ∧ ∃ m', m' < μ i ∧ ∃ fr'' bx'', LoopT Pi μ (fun i => appF (sl i) (keepF keep fr)) (fun i => updB (bs i) bx) m' fr'' bx'' ∧ Chk fr1 bx1 fr'' bx'' nx nx) :: K) stk res (appF (sl i) (keepF keep fr)) (updB (bs i) bx) nx) :
    LoopP (run E Qf n) c K stk res fr bx nx := loop_intro Pi μ _ _ 0 i hi h0 hr
/-- the same with d new boxes (slices that are nil at first) -/
theorem loopJ {ι : Type} (Pi : ι → Prop) (μ : ι → Nat) (keep : List Nat) (sl : ι → Fr) (bs : ι → Bx) {n : Nat} {c : ACode} {K : List Item} {stk : List SFrame} {res : List ARes} {fr : Fr} {bx : Bx} {nx : Nat} (d : Nat) (i : ι) (hi : Pi i) (h0 : Chk fr bx (appF (sl i) (keepF keep fr)) (updB (bs i) bx) nx (nx + d))
    (hr : ∀ i, Pi i → run E Qf n (.code c :: .inv (fun s fr1 bx1 => s = stkFr stk ∧ ∃ m', m' < μ i ∧ ∃ fr'' bx'', LoopT Pi μ (fun i => appF (sl i) (keepF keep fr)) (fun i => updB (bs i) bx) m' fr'' bx'' ∧ Chk fr1 bx1 fr'' bx'' nx (nx + d)) :: K) stk res (appF (sl i) (keepF keep fr)) (updB (bs i) bx) (nx + d)) :
    LoopP (run E Qf n) c K stk res fr bx nx := loop_intro Pi μ _ _ d i hi h0 hr
theorem vsubP_self (v : Val) : vsubP v v = True := by
  refine eq_true ?_
  induction v with
  | cons h t ih1 ih2 => exact ⟨h, t, rfl, ih1, ih2⟩
  | agg l ih => exact ⟨l, rfl, ih⟩
  | tup l ih => exact ⟨l, rfl, ih⟩
  | func fn l ih => exact ⟨l, rfl, ih⟩
  | view k n c ih => exact .inr ⟨c, rfl, fun i _ j _ => ih i j⟩
  | vptr m c ih => exact ⟨c, rfl, fun j _ => ih j⟩
  | mview kd has f ih => exact ⟨has, f, rfl, fun k => ⟨rfl, fun _ => ih k⟩⟩
  | und => trivial
  | _ => rfl
section
variable {N D : Nat → Prop}
theorem vs_und (v : Val) : vsub N D .und v = True := rfl
theorem vs_int (k : IntKind) (n : Int) (v : Val) : vsub N D (.int k n) v = (v = .int k n) := rfl
theorem vs_bool (b : Bool) (v : Val) : vsub N D (.bool b) v = (v = .bool b) := rfl
theorem vs_nils (v : Val) : vsub N D .nils v = (v = .nils) := rfl
theorem vs_nilf (v : Val) : vsub N D .nilf v = (v = .nilf) := rfl
theorem vs_nilp (v : Val) : vsub N D .nilp v = (v = .nilp) := rfl
theorem vs_nil (v : Val) : vsub N D .nil v = (v = .nil) := rfl
theorem vs_own (b : Nat) (v : Val) : vsub N D (.own b) v = ((v = .own b ∧ D b) ∨ (v = .nils ∧ N b)) := rfl
theorem vs_ptr (b o : Nat) (v : Val) : vsub N D (.ptr b o) v = (v = .ptr b o ∧ D b) := rfl
theorem vs_rptr (b i o : Nat) (v : Val) : vsub N D (.rptr b i o) v = (v = .rptr b i o ∧ D b) := rfl
theorem vs_cons (a b c d : Val) : vsub N D (.cons a b) (.cons c d) = (vsub N D a c ∧ vsub N D b d) := propext ⟨fun ⟨_, _, e, h1, h2⟩ => by cases e; exact ⟨h1, h2⟩, fun ⟨h1, h2⟩ => ⟨_, _, rfl, h1, h2⟩⟩
theorem vs_agg (l m : Val) : vsub N D (.agg l) (.agg m) = vsub N D l m := propext ⟨fun ⟨_, e, h⟩ => by cases e; exact h, fun h => ⟨_, rfl, h⟩⟩
theorem vs_tup (l m : Val) : vsub N D (.tup l) (.tup m) = vsub N D l m := propext ⟨fun ⟨_, e, h⟩ => by cases e; exact h, fun h => ⟨_, rfl, h⟩⟩
theorem vs_func (f : Fn) (l m : Val) : vsub N D (.func f l) (.func f m) = vsub N D l m := propext ⟨fun ⟨_, e, h⟩ => by cases e; exact h, fun h => ⟨_, rfl, h⟩⟩
theorem vs_view (k n n' : Nat) (c c' : Nat → Nat → Val) : vsub N D (.view k n c) (.view k n' c') = (n' = n ∧ ∀ i, i < n → ∀ j, j < k → vsubP (c i j) (c' i j)) :=
  propext ⟨fun h => by rcases h with ⟨h, _⟩ | ⟨_, e, h⟩; cases h; cases e; exact ⟨rfl, h⟩, fun ⟨e, h⟩ => by subst e; exact .inr ⟨_, rfl, h⟩⟩
theorem vs_viewn (k n : Nat) (c : Nat → Nat → Val) : vsub N D (.view k n c) .nils = (n = 0) := propext (Iff.intro (fun h => by rcases h with ⟨_, h⟩ | ⟨_, e, _⟩ <;> first | exact h | nomatch e) (fun h => Or.inl ⟨rfl, h⟩))
theorem vs_vptr (m : Nat) (c c' : Nat → Val) : vsub N D (.vptr m c) (.vptr m c') = (∀ j, j < m → vsubP (c j) (c' j)) := propext ⟨fun ⟨_, e, h⟩ => by cases e; exact h, fun h => ⟨_, rfl, h⟩⟩
theorem vs_mapb (b : Nat) (v : Val) : vsub N D (.mapb b) v = (v = .mapb b ∧ D b) := rfl
theorem vs_yld (b : Nat) (v : Val) : vsub N D (.yld b) v = (v = .yld b ∧ D b) := rfl
theorem vs_mview (kd kd' : IntKind) (has has' : Int → Bool) (f f' : Int → Val) : vsub N D (.mview kd has f) (.mview kd' has' f') = (kd' = kd ∧ ∀ k, has' k = has k ∧ (has k = true → vsubP (f k) (f' k))) :=
  propext ⟨fun ⟨_, _, e, h⟩ => by cases e; exact ⟨rfl, h⟩, fun ⟨e, h⟩ => by subst e; exact ⟨_, _, rfl, h⟩⟩
theorem vp_mview (kd kd' : IntKind) (has has' : Int → Bool) (f f' : Int → Val) : vsubP (.mview kd has f) (.mview kd' has' f') = (kd' = kd ∧ ∀ k, has' k = has k ∧ (has k = true → vsubP (f k) (f' k))) :=
  propext ⟨fun ⟨_, _, e, h⟩ => by cases e; exact ⟨rfl, h⟩, fun ⟨e, h⟩ => by subst e; exact ⟨_, _, rfl, h⟩⟩
theorem vp_und (v : Val) : vsubP .und v = True := rfl
theorem vp_int (k : IntKind) (n : Int) (v : Val) : vsubP (.int k n) v = (v = .int k n) := rfl
theorem vp_bool (b : Bool) (v : Val) : vsubP (.bool b) v = (v = .bool b) := rfl
theorem vp_nil (v : Val) : vsubP .nil v = (v = .nil) := rfl
theorem vp_nils (v : Val) : vsubP .nils v = (v = .nils) := rfl
theorem vp_nilf (v : Val) : vsubP .nilf v = (v = .nilf) := rfl
theorem vp_nilp (v : Val) : vsubP .nilp v = (v = .nilp) := rfl
theorem vp_cons (a b c d : Val) : vsubP (.cons a b) (.cons c d) = (vsubP a c ∧ vsubP b d) := propext ⟨fun ⟨_, _, e, h1, h2⟩ => by cases e; exact ⟨h1, h2⟩, fun ⟨h1, h2⟩ => ⟨_, _, rfl, h1, h2⟩⟩
theorem vp_agg (l m : Val) : vsubP (.agg l) (.agg m) = vsubP l m := propext ⟨fun ⟨_, e, h⟩ => by cases e; exact h, fun h => ⟨_, rfl, h⟩⟩
theorem vp_tup (l m : Val) : vsubP (.tup l) (.tup m) = vsubP l m := propext ⟨fun ⟨_, e, h⟩ => by cases e; exact h, fun h => ⟨_, rfl, h⟩⟩
theorem vp_func (f : Fn) (l m : Val) : vsubP (.func f l) (.func f m) = vsubP l m := propext ⟨fun ⟨_, e, h⟩ => by cases e; exact h, fun h => ⟨_, rfl, h⟩⟩
theorem vp_view (k n n' : Nat) (c c' : Nat → Nat → Val) : vsubP (.view k n c) (.view k n' c') = (n' = n ∧ ∀ i, i < n → ∀ j, j < k → vsubP (c i j) (c' i j)) :=
  propext ⟨fun h => by rcases h with ⟨h, _⟩ | ⟨_, e, h⟩; cases h; cases e; exact ⟨rfl, h⟩, fun ⟨e, h⟩ => by subst e; exact .inr ⟨_, rfl, h⟩⟩
theorem vp_viewn (k n : Nat) (c : Nat → Nat → Val) : vsubP (.view k n c) .nils = (n = 0) := propext (Iff.intro (fun h => by rcases h with ⟨_, h⟩ | ⟨_, e, _⟩ <;> first | exact h | nomatch e) (fun h => Or.inl ⟨rfl, h⟩))
theorem vp_vptr (m : Nat) (c c' : Nat → Val) : vsubP (.vptr m c) (.vptr m c') = (∀ j, j < m → vsubP (c j) (c' j)) := propext ⟨fun ⟨_, e, h⟩ => by cases e; exact h, fun h => ⟨_, rfl, h⟩⟩
end
theorem wr64 {e : Int} (h : -9223372036854775808 ≤ e) (h' : e ≤ 9223372036854775807) : IntKind.i64.wrap e = e := IntWalk.i64_in e (by omega)
theorem wrU8 {e : Int} (h : 0 ≤ e) (h' : e ≤ 255) : IntKind.u8.wrap e = e := by
  simp only [IntKind.wrap, IntKind.bits, IntKind.signed]
  have : e % 2 ^ 8 = e := by omega
  simp []; omega
theorem inat (i : Nat) : ((i : Int)).toNat = i := Int.toNat_natCast i
theorem inat1 (i : Nat) : ((i : Int) + 1).toNat = i + 1 := by omega
theorem wrS {i : Nat} (h : i < 9223372036854775807) : IntKind.i64.wrap ((i : Int) + 1) = ((i + 1 : Nat) : Int) := by rw [wr64 (by omega) (by omega)]; omega
theorem idx_ok (i n : Nat) (h : i < n) : (0 ≤ (i : Int) ∧ (i : Int) < (n : Int)) := by omega
end Go.Proofs.YtbhhcnonooiokaaDoor
