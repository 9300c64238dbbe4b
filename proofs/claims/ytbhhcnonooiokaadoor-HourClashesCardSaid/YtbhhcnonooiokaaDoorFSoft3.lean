/- The engine, part 8: numbers, places, slices, what is made. No condition. -/
import Derived.Test.YtbhhcnonooiokaaDoorFSoft2
namespace Go.Proofs.YtbhhcnonooiokaaDoor
open Go Go.RowKit
variable {P : Program} {E : Env} {A0 : Nat → Prop} {w0 : World} {β : Nat → Loc} {B : Bmap} {nx : Nat} {w : World} {a : Act} {o : Oper} {fr : Fr} {bx : Bx}

theorem run_binOp_int {op : BinOp} {t : TypeId} {k : IntKind} {x y : Int} (hp : (binV op k x y).pre) : (binOp op t (.int k x) (.int k y)).run P w = .ok (match (binV op k x y).v with | .int k n => .int k n | .bool b => .bool b | _ => undef) w := by
  cases op <;> simp only [binV] at hp ⊢ <;> first
    | exact hp.elim
    | (simp [binOp, Op.intArith]; done)
    | (simp [binOp, Op.intCmp]; done)
    | (simp [binOp, Op.intDiv, hp]; done)
theorem binV_new (op : BinOp) (k : IntKind) (x y : Int) : (binV op k x y).new = none := by cases op <;> rfl
theorem binV_rep (op : BinOp) (k : IntKind) (x y : Int) (hp : (binV op k x y).pre) : RepM A0 w0 β B w (binV op k x y).v (match (binV op k x y).v with | .int k n => .int k n | .bool b => .bool b | _ => undef) := by
  cases op <;> first | exact rfl | exact hp.elim
theorem does_bin {op : BinOp} {t u : TypeId} {x y : Operand} {ox oy : Opd} (ho : o.op = .binOp op t x y u) (hx : RepM A0 w0 β B w (ev E fr ox) (a.eval x)) (hy : RepM A0 w0 β B w (ev E fr oy) (a.eval y))
    (hp : (aop E fr bx nx (.bin op ox oy)).pre) : Does P A0 w0 β B nx w a o (aop E fr bx nx (.bin op ox oy)) := by
  cases hv : ev E fr ox <;> cases hu : ev E fr oy <;> simp only [aop, hv, hu] at hp hx hy ⊢ <;> first | exact hp.elim | skip
  · rename_i k n k' n'
    obtain ⟨rfl, hp⟩ := hp
    have e1 : a.eval x = .int k n := hx
    have e2 : a.eval y = .int k n' := hy
    refine Does.plain (binV_new op k n n') ?_ (binV_rep op k n n' hp)
    have hg : (eqGuard op t x y (.int k n) (.int k n')).run P w = .ok () w := by
      simp only [eqGuard]; split <;> rfl
    simp [execOp, ho, e1, e2, hg, run_binOp_int hp]
theorem does_binb {op : BinOp} {neg : Bool} {t u : TypeId} {x y : Operand} {ox oy : Opd} (ho : o.op = .binOp op t x y u) (ht : P.underlying t = some .bool) (hop : op = if neg then .neq else .eql) (hx : RepM A0 w0 β B w (ev E fr ox) (a.eval x)) (hy : RepM A0 w0 β B w (ev E fr oy) (a.eval y))
    (hp : (aop E fr bx nx (.binb neg ox oy)).pre) : Does P A0 w0 β B nx w a o (aop E fr bx nx (.binb neg ox oy)) := by
  cases hv : ev E fr ox <;> cases hu : ev E fr oy <;> simp only [aop, hv, hu] at hp hx hy ⊢ <;> first | exact hp.elim | skip
  rename_i b b'
  have e1 : a.eval x = .bool b := hx
  have e2 : a.eval y = .bool b' := hy
  have hg : (eqGuard op t x y (.bool b) (.bool b')).run P w = .ok () w := by
    simp only [eqGuard]; split <;> rfl
  cases neg
  · simp only [Bool.false_eq_true, if_false] at hop
    subst hop
    exact Does.plain rfl (x := .bool (b == b')) (by simp [execOp, ho, e1, e2, hg, binOp, run_equal_bool _ _ _ _ ht]) rfl
  · simp only [if_true] at hop
    subst hop
    exact Does.plain rfl (x := .bool (b != b')) (by simp [execOp, ho, e1, e2, hg, binOp, run_equal_bool _ _ _ _ ht]; cases b <;> cases b' <;> rfl) rfl
theorem does_un {op : UnOp} {t : TypeId} {x : Operand} {ox : Opd} (ho : o.op = .unOp op t x) (hx : RepM A0 w0 β B w (ev E fr ox) (a.eval x))
    (hp : (aop E fr bx nx (.un op ox)).pre) : Does P A0 w0 β B nx w a o (aop E fr bx nx (.un op ox)) := by
  cases op <;> cases hv : ev E fr ox <;> simp only [aop, hv] at hp hx ⊢ <;> first | exact hp.elim | skip
  · rename_i k n
    have e1 : a.eval x = .int k n := hx
    exact Does.plain rfl (x := .int k (k.wrap (0 - n))) (by simp [execOp, ho, e1, Op.unary, Op.intArith]) rfl
  · rename_i b
    have e1 : a.eval x = .bool b := hx
    exact Does.plain rfl (x := .bool !b) (by simp [execOp, ho, e1, Op.unary]) rfl
theorem does_conv {s d : TypeId} {k k0 : IntKind} {x : Operand} {ox : Opd} (ho : o.op = .convert s d x) (hs : P.underlying s = some (.int k0)) (hd : P.underlying d = some (.int k)) (hx : RepM A0 w0 β B w (ev E fr ox) (a.eval x))
    (hp : (aop E fr bx nx (.conv k ox)).pre) : Does P A0 w0 β B nx w a o (aop E fr bx nx (.conv k ox)) := by
  cases hv : ev E fr ox <;> simp only [aop, hv] at hp hx ⊢ <;> first | exact hp.elim | skip
  rename_i k' n
  have e1 : a.eval x = .int k' n := hx
  exact Does.plain rfl (x := .int k (k.wrap n)) (by simp [execOp, ho, e1, Go.convert, run_underlying hs, run_underlying hd, Conv.intToInt]) rfl
theorem evs_rep {l : List Operand} {r : List Opd} (h : cOpds l = some r) (hx : ∀ x ∈ l, OpR E A0 w0 β B w fr a x) : RepM A0 w0 β B w (evs E fr r) (.tuple ⟨l.map a.eval⟩) := by
  induction l generalizing r with
  | nil => simp [cOpds] at h; subst h; rfl
  | cons x l ih =>
    simp only [cOpds] at h
    split at h
    · rename_i ox r' h1 h2
      simp at h; subst h
      exact ⟨_, _, rfl, hx x (by simp) ox h1, ih h2 fun y hy => hx y (by simp [hy])⟩
    · cases h
theorem does_mkf {fn : Fn} {first caps : Array Operand} {l : List Opd} (ho : o.op = .makeFunc fn first caps) (hf : first.size = 0) (hl : cOpds caps.toList = some l) (hx : ∀ x ∈ caps.toList, OpR E A0 w0 β B w fr a x) :
    Does P A0 w0 β B nx w a o (aop E fr bx nx (.mkf fn l)) := by
  have hf' : first = #[] := by simpa using hf
  refine Does.plain rfl (x := .func fn #[] ⟨caps.toList.map a.eval⟩) ?_ ⟨_, rfl, evs_rep hl hx⟩
  simp [execOp, ho, Instr.makeFunc, hf']
  apply Array.toList_inj.1; simp
theorem does_fld {t : TypeId} {x : Operand} {i : Nat} {ox : Opd} {fs : Array Field} {f : Field} {n : Nat} (ho : o.op = .fieldAddr t x i) (ht : P.underlying t = some (.struct fs)) (hf : fs[i]? = some f) (hn : sizeT P f.type = some (n + 1))
    (hx : RepM A0 w0 β B w (ev E fr ox) (a.eval x)) (hp : (aop E fr bx nx (.fld f.offset ox)).pre) : Does P A0 w0 β B nx w a o (aop E fr bx nx (.fld f.offset ox)) := by
  obtain ⟨inf, hi, hn⟩ := Option.map_eq_some_iff.1 hn
  have key : ∀ g off, a.eval x = .pointer (some ⟨g, off, none⟩) → (execOp a.eval o).run P w = .ok (.value (.pointer (some ⟨g, off + f.offset, none⟩))) w := by
    intro g off he
    simp [execOp, ho, he, Instr.fieldAt, run_underlying ht, hf, Instr.sureAddr, fieldPlace, sizeOf, typeInfo, hi, hn, add_lit]
  cases hv : ev E fr ox <;> simp only [aop, hv] at hp hx ⊢ <;> first | exact hp.elim | skip
  · rename_i m c
    obtain ⟨g, off, he, hg, hA, hc⟩ := hx
    refine Does.plain rfl (key g off he) ⟨g, _, rfl, hg, hA, fun j hj => ?_⟩
    obtain ⟨y, hy, hr⟩ := hc (f.offset + j) (by omega)
    exact ⟨y, by rw [Nat.add_assoc]; exact hy, hr⟩
  · rename_i b off
    obtain ⟨hl, g, hg, he⟩ := hx
    exact Does.plain rfl (key g off he) ⟨hl, g, hg, rfl⟩
  · rename_i b i off
    obtain ⟨e, k, n, c, hl, hi, g, hg, he⟩ := hx
    exact Does.plain rfl (key g _ he) ⟨e, k, n, c, hl, hi, g, hg, by rw [Nat.add_assoc]⟩
theorem does_idx {t e : TypeId} {x i : Operand} {ox oi : Opd} {k : Nat} {N : Nat} (hm : Mem P A0 w0 β B N w) (hbx : ∀ b c, B b = some c → bget bx b = some c) (ho : o.op = .indexAddr t x i) (ht : P.underlying t = some (.slice e)) (hk : sizeT P e = some k)
    (hx : RepM A0 w0 β B w (ev E fr ox) (a.eval x)) (hi : RepM A0 w0 β B w (ev E fr oi) (a.eval i)) (hp : (aop E fr bx nx (.idx k ox oi)).pre) : Does P A0 w0 β B nx w a o (aop E fr bx nx (.idx k ox oi)) := by
  obtain ⟨inf, hinf, hn⟩ := Option.map_eq_some_iff.1 hk
  cases hv : ev E fr ox <;> cases hu : ev E fr oi <;> simp only [aop, hv, hu] at hp hx hi ⊢ <;> first | exact hp.elim | skip
  · rename_i k' n c ik z
    obtain ⟨rfl, h0, h1⟩ := hp
    have e2 : a.eval i = .int ik z := hi
    obtain ⟨ad, cap, he, hmx, _, hc⟩ := hx
    obtain ⟨g, off, rfl, hg, hA, hc⟩ := hc (by omega)
    refine Does.plain rfl (x := .pointer (some ⟨g, off + z.toNat * k, none⟩)) ?_ ⟨g, _, rfl, hg, hA, fun j hj => by obtain ⟨y, hy, _, hr⟩ := hc z.toNat (by omega) j hj; exact ⟨y, hy, hr⟩⟩
    simp [execOp, ho, he, e2, Instr.indexAt, asIntOf, run_underlying ht, h0, h1, sizeOf, typeInfo, hinf, hn, add_lit]
  · rename_i b ik z
    obtain ⟨⟨e', k', n, c, hl⟩, he⟩ := hx
    simp only [hbx b _ hl] at hp ⊢
    obtain ⟨rfl, h0, h1⟩ := hp
    have e2 : a.eval i = .int ik z := hi
    obtain ⟨hn', hk0, hmax, xs, ⟨hxl, how⟩, hc⟩ := hm.bx b _ hl
    rcases how with ⟨_, hn0⟩ | ⟨g, cap, cur, e1, _⟩
    · subst hn0; omega
    · have hg : (β b).a = some g := by
        cases ha : (β b).a with
        | none => simp [ha] at e1
        | some g' => simp [ha] at e1; rw [e1.1]
      refine Does.plain rfl (x := .pointer (some ⟨g, z.toNat * k + 0, none⟩)) ?_ ⟨e', k, n, c, hl, by omega, g, hg, rfl⟩
      simp [execOp, ho, he, e2, Instr.indexAt, asIntOf, run_underlying ht, hg, hn', h0, h1, sizeOf, typeInfo, hinf, hn, add_lit]
theorem does_idxA {t e : TypeId} {x i : Operand} {ox oi : Opd} {k n : Nat} (ho : o.op = .indexAddr t x i) (ht : P.underlying t = some (.array n e)) (hk : sizeT P e = some k)
    (hx : RepM A0 w0 β B w (ev E fr ox) (a.eval x)) (hi : RepM A0 w0 β B w (ev E fr oi) (a.eval i)) (hp : (aop E fr bx nx (.idxA k n ox oi)).pre) : Does P A0 w0 β B nx w a o (aop E fr bx nx (.idxA k n ox oi)) := by
  obtain ⟨inf, hinf, hn⟩ := Option.map_eq_some_iff.1 hk
  have key : ∀ g off ik z, a.eval x = .pointer (some ⟨g, off, none⟩) → a.eval i = .int ik z → 0 ≤ z → z < n → (execOp a.eval o).run P w = .ok (.value (.pointer (some ⟨g, off + z.toNat * k, none⟩))) w := by
    intro g off ik z he e2 h0 h1
    simp [execOp, ho, he, e2, Instr.indexAt, asIntOf, run_underlying ht, Instr.sureAddr, h0, h1, sizeOf, typeInfo, hinf, hn, add_lit]
  cases hv : ev E fr ox <;> cases hu : ev E fr oi <;> simp only [aop, hv, hu] at hp hx hi ⊢ <;> first | exact hp.elim | skip
  · rename_i m c ik z
    obtain ⟨g, off, he, hg, hA, hc⟩ := hx
    refine Does.plain rfl (key g off ik z he hi hp.1 hp.2) ⟨g, _, rfl, hg, hA, fun j hj => ?_⟩
    obtain ⟨y, hy, hr⟩ := hc (z.toNat * k + j) (by omega)
    exact ⟨y, by rw [Nat.add_assoc]; exact hy, hr⟩
  · rename_i b off ik z
    obtain ⟨hl, g, hg, he⟩ := hx
    exact Does.plain rfl (key g off ik z he hi hp.1 hp.2) ⟨hl, g, hg, rfl⟩
  · rename_i b i' off ik z
    obtain ⟨e, k', n', c, hl, hi', g, hg, he⟩ := hx
    exact Does.plain rfl (key g _ ik z he hi hp.1 hp.2) ⟨e, k', n', c, hl, hi', g, hg, by rw [Nat.add_assoc]⟩
theorem does_ext {x : Operand} {ox : Opd} {i : Nat} (ho : o.op = .extract x i) (hx : RepM A0 w0 β B w (ev E fr ox) (a.eval x)) (hp : (aop E fr bx nx (.ext i ox)).pre) : Does P A0 w0 β B nx w a o (aop E fr bx nx (.ext i ox)) := by
  cases hv : ev E fr ox <;> simp only [aop, hv] at hp hx ⊢ <;> first | exact hp.elim | skip
  rename_i l
  obtain ⟨ys, he, hr⟩ := hx
  obtain ⟨y, hy, hry⟩ := Rep.get1 hr i hp
  exact Does.plain rfl (x := y) (by simp [execOp, ho, he, Instr.extract, hy]) hry
theorem does_mm {mx : Bool} {c : Call} {x y : Operand} {ox oy : Opd} (ho : o.op = .call c) (hcal : c.callee = .builtin (if mx then .max else .min)) (hargs : c.args.toList = [x, y]) (hx : RepM A0 w0 β B w (ev E fr ox) (a.eval x)) (hy : RepM A0 w0 β B w (ev E fr oy) (a.eval y))
    (hp : (aop E fr bx nx (.mm mx ox oy)).pre) : Does P A0 w0 β B nx w a o (aop E fr bx nx (.mm mx ox oy)) := by
  have ha : c.args = #[x, y] := by rw [← hargs]
  cases hv : ev E fr ox <;> cases hu : ev E fr oy <;> simp only [aop, hv, hu] at hp hx hy ⊢ <;> first | exact hp.elim | skip
  rename_i k n k' n'
  subst hp
  have e1 : a.eval x = .int k n := hx
  have e2 : a.eval y = .int k n' := hy
  cases mx with
  | true =>
    refine Does.plain rfl (x := .int k (max n n')) ?_ rfl
    have : (if n' > n then n' else n) = max n n' := by rw [Int.max_def]; split <;> split <;> omega
    simp [execOp, ho, resolve, hcal, ha, invoke, builtin, e1, e2, run_max_int2]
    rw [← this]
  | false =>
    refine Does.plain rfl (x := .int k (min n n')) ?_ rfl
    have : (if n' < n then n' else n) = min n n' := by rw [Int.min_def]; split <;> split <;> omega
    simp [execOp, ho, resolve, hcal, ha, invoke, builtin, e1, e2, run_min_int2]
    rw [← this]
theorem does_nilc {x : Operand} {ox : Opd} (ho : o.op = .nilCheck x) (hx : RepM A0 w0 β B w (ev E fr ox) (a.eval x)) (hp : (aop E fr bx nx (.nilc ox)).pre) : Does P A0 w0 β B nx w a o (aop E fr bx nx (.nilc ox)) := by
  cases hv : ev E fr ox <;> simp only [aop, hv] at hp hx ⊢ <;> first | exact hp.elim | skip
  · obtain ⟨g, off, he, hr⟩ := hx
    exact Does.plain rfl (x := a.eval x) (by simp [execOp, ho, he]) ⟨g, off, he, hr⟩
  · obtain ⟨hl, g, hg, he⟩ := hx
    exact Does.plain rfl (x := a.eval x) (by simp [execOp, ho, he]) ⟨hl, g, hg, he⟩
  · obtain ⟨e, k, n, c, hl, hi, g, hg, he⟩ := hx
    exact Does.plain rfl (x := a.eval x) (by simp [execOp, ho, he]) ⟨e, k, n, c, hl, hi, g, hg, he⟩
theorem does_len {c : Call} {t e : TypeId} {x : Operand} {ox : Opd} {N : Nat} (hm : Mem P A0 w0 β B N w) (hbx : ∀ b c, B b = some c → bget bx b = some c) (ho : o.op = .call c) (hcal : c.callee = .builtin .len) (hargs : c.args.toList = [x]) (hat : c.argTypes.toList = [t]) (ht : P.underlying t = some (.slice e))
    (hx : RepM A0 w0 β B w (ev E fr ox) (a.eval x)) (hp : (aop E fr bx nx (.len ox)).pre) : Does P A0 w0 β B nx w a o (aop E fr bx nx (.len ox)) := by
  have ha : c.args = #[x] := by rw [← hargs]
  have ha' : c.argTypes = #[t] := by rw [← hat]
  have key : ∀ ad n cap, a.eval x = .slice ad n cap → (execOp a.eval o).run P w = .ok (.value (.int .i64 n)) w := by
    intro ad n cap he
    simp [execOp, ho, resolve, hcal, ha, ha', invoke, builtin, he, Builtin.len_, run_underlying ht, goInt]
  cases hv : ev E fr ox <;> simp only [aop, hv, lenV] at hp hx ⊢ <;> first | exact hp.elim | skip
  · have he : a.eval x = .slice none 0 0 := hx
    exact Does.plain rfl (key _ _ _ he) rfl
  · obtain ⟨ad, cap, he, _⟩ := hx
    exact Does.plain rfl (key _ _ _ he) rfl
  · rename_i b
    obtain ⟨⟨e', k', n, c', hl⟩, he⟩ := hx
    simp only [hbx b _ hl] at hp ⊢
    have hn := (hm.bx b _ hl).1
    refine Does.plain rfl (key _ _ _ he) ?_
    rw [hn]; rfl
end Go.Proofs.YtbhhcnonooiokaaDoor
