/- The engine, part 12: '==' on structs and arrays of numbers. No condition. -/
import Derived.Test.YtbhhcnonooiokaaDoorFSoft6
import Derived.ChangeKeysEq
namespace Go.Proofs.YtbhhcnonooiokaaDoor
open Go Go.RowKit
variable {P : Program} {E : Env} {A0 : Nat → Prop} {w0 : World} {β : Nat → Loc} {B : Bmap} {nx : Nat} {w : World} {a : Act} {o : Oper} {fr : Fr} {bx : Bx}

def Ty : List Sh → List Value → Prop
  | [], [] => True
  | .int k :: s, .int k' _ :: X => k = k' ∧ Ty s X
  | .bool :: s, .bool _ :: X => Ty s X
  | _, _ => False
def vEq : Value → Value → Bool
  | .int _ a, .int _ b => a == b
  | .bool a, .bool b => a == b
  | _, _ => true
def lEq : List Value → List Value → Bool
  | x :: X, y :: Y => vEq x y && lEq X Y
  | _, _ => true
theorem Ty.len : ∀ {s X}, Ty s X → X.length = s.length := by
  intro s; induction s with
  | nil => intro X h; cases X <;> simp [Ty] at h ⊢
  | cons c s ih =>
    intro X h
    cases X with
    | nil => cases c <;> simp [Ty] at h
    | cons x X =>
      cases c <;> cases x <;> simp [Ty] at h <;> simp
      · exact ih h.2
      · exact ih h
theorem Ty.split : ∀ {s1 s2 X}, Ty (s1 ++ s2) X → ∃ X1 X2, X = X1 ++ X2 ∧ Ty s1 X1 ∧ Ty s2 X2 := by
  intro s1; induction s1 with
  | nil => intro s2 X h; exact ⟨[], X, rfl, trivial, h⟩
  | cons c s1 ih =>
    intro s2 X h
    cases X with
    | nil => cases c <;> simp [Ty] at h
    | cons x X =>
      cases c <;> cases x <;> simp [Ty] at h
      · obtain ⟨rfl, h⟩ := h
        obtain ⟨X1, X2, rfl, h1, h2⟩ := ih h
        exact ⟨_ :: X1, X2, rfl, ⟨rfl, h1⟩, h2⟩
      · obtain ⟨X1, X2, rfl, h1, h2⟩ := ih h
        exact ⟨_ :: X1, X2, rfl, h1, h2⟩
theorem lEq_app : ∀ (X Y X' Y' : List Value), X.length = Y.length → lEq (X ++ X') (Y ++ Y') = (lEq X Y && lEq X' Y') := by
  intro X; induction X with
  | nil => intro Y X' Y' h; cases Y <;> simp at h; simp [lEq]
  | cons x X ih =>
    intro Y X' Y' h
    cases Y with
    | nil => simp at h
    | cons y Y => simp only [List.cons_append, lEq, ih Y X' Y' (by simpa using h), Bool.and_assoc]
def vOf (P : Program) (t : TypeId) (X : List Value) : Value := if isAggT P t = some true then .agg ⟨X⟩ else X.headD undef
theorem run_part {t : TypeId} {n : Nat} (hs : sizeT P t = some n) (hag : (isAggT P t == some true || (isAggT P t == some false && n == 1)) = true) (pre X post : List Value) (hX : X.length = n) :
    (part t ⟨pre ++ X ++ post⟩ pre.length).run P w = .ok (vOf P t X) w := by
  obtain ⟨i, hi, hi'⟩ := Option.map_eq_some_iff.1 hs
  have h6 : (sizeOf t).run P w = .ok n w := by simp [sizeOf, typeInfo, hi, hi']
  simp only [Bool.or_eq_true, beq_iff_eq, Bool.and_eq_true] at hag
  rcases hag with h | h
  · simp only [part, Sem.run_bind, run_isAgg h, Result.andThen_ok, if_true, h6, Sem.run_pure, vOf, h]
    congr 2
    apply Array.toList_inj.1
    simp [← hX]
  · obtain ⟨h1, h2⟩ := h
    subst h2
    cases X with
    | nil => simp at hX
    | cons x X =>
      have : X = [] := List.eq_nil_of_length_eq_zero (by simpa using hX)
      subst this
      simp only [part, Sem.run_bind, run_isAgg h1, Result.andThen_ok, vOf, h1]
      simp
theorem eqFs_run {D : Nat} {Ef : TypeId → Bool} {S : TypeId → Option (List Sh)} (hE : ∀ t s X Y w, Ef t = true → S t = some s → Ty s X → Ty s Y → (Op.equalIn D t (vOf P t X) (vOf P t Y)).run P w = .ok (lEq X Y) w) :
    ∀ (fs : List Field) (s : List Sh) (preX preY X Y : List Value), eqFs P Ef S preX.length fs = true → preX.length = preY.length → fs.foldr (fun f acc => match S f.type, acc with | some a, some b => some (a ++ b) | _, _ => none) (some []) = some s → Ty s X → Ty s Y →
    (Op.eqFields D ⟨preX ++ X⟩ ⟨preY ++ Y⟩ fs).run P w = .ok (lEq X Y) w := by
  intro fs; induction fs with
  | nil =>
    intro s preX preY X Y _ _ hs hX hY
    simp at hs; subst hs
    cases X <;> cases Y <;> simp [Ty] at hX hY
    simp [Op.eqFields, lEq]
  | cons f fs ih =>
    intro s preX preY X Y he hl hs hX hY
    simp only [List.foldr_cons] at hs
    split at hs
    · rename_i s1 s2 h1 h2
      simp at hs; subst hs
      simp only [eqFs, h1, Bool.and_eq_true] at he
      obtain ⟨⟨⟨hn, ho⟩, hEf⟩, ⟨hsz, hag⟩, hrest⟩ := he
      have ho : f.offset = preX.length := by simpa using ho
      have hsz : sizeT P f.type = some s1.length := by simpa using hsz
      obtain ⟨X1, X2, rfl, hX1, hX2⟩ := Ty.split hX
      obtain ⟨Y1, Y2, rfl, hY1, hY2⟩ := Ty.split hY
      have hn' : f.name ≠ "_" := by simpa using hn
      have p1 := run_part (w := w) hsz hag preX X1 X2 hX1.len
      have p2 := run_part (w := w) hsz hag preY Y1 Y2 hY1.len
      simp only [Op.eqFields]
      rw [if_pos hn']
      simp only [Sem.run_bind, ho, ← List.append_assoc, p1, Result.andThen_ok]
      rw [hl, p2]
      simp only [Result.andThen_ok, hE _ _ _ _ w hEf h1 hX1 hY1]
      rw [List.append_assoc] at *
      have hlen : X1.length = Y1.length := by rw [hX1.len, hY1.len]
      rw [lEq_app _ _ _ _ hlen]
      cases hq : lEq X1 Y1
      · simp
      · have hr := ih s2 (preX ++ X1) (preY ++ Y1) X2 Y2 (by rw [List.length_append, hX1.len]; exact hrest) (by simp [hl, hlen]) h2 hX2 hY2
        simp only [Bool.not_true, Bool.false_eq_true, if_false, Bool.true_and]
        simpa using hr
    · cases hs
theorem eqItems_run {D : Nat} {e : TypeId} {s : List Sh} (hE : ∀ X Y w, Ty s X → Ty s Y → (Op.equalIn D e (vOf P e X) (vOf P e Y)).run P w = .ok (lEq X Y) w) (hsz : sizeT P e = some s.length)
    (hag : (isAggT P e == some true || (isAggT P e == some false && s.length == 1)) = true) : ∀ (n i : Nat) (preX preY X Y : List Value), preX.length = i * s.length → preY.length = i * s.length → Ty (List.replicate n s).flatten X → Ty (List.replicate n s).flatten Y →
    (Op.eqItems D e s.length ⟨preX ++ X⟩ ⟨preY ++ Y⟩ (List.range' i n)).run P w = .ok (lEq X Y) w := by
  intro n; induction n with
  | zero =>
    intro i preX preY X Y _ _ hX hY
    cases X <;> cases Y <;> simp [Ty] at hX hY
    simp [Op.eqItems, lEq]
  | succ n ih =>
    intro i preX preY X Y hx hy hX hY
    simp only [List.replicate_succ, List.flatten_cons] at hX hY
    obtain ⟨X1, X2, rfl, hX1, hX2⟩ := Ty.split hX
    obtain ⟨Y1, Y2, rfl, hY1, hY2⟩ := Ty.split hY
    have p1 := run_part (w := w) hsz hag preX X1 X2 hX1.len
    have p2 := run_part (w := w) hsz hag preY Y1 Y2 hY1.len
    rw [hx] at p1
    rw [hy] at p2
    have hlen : X1.length = Y1.length := by rw [hX1.len, hY1.len]
    simp only [List.range'_succ, Op.eqItems, Sem.run_bind, ← List.append_assoc, p1, p2, Result.andThen_ok, hE _ _ w hX1 hY1]
    rw [lEq_app _ _ _ _ hlen]
    cases hq : lEq X1 Y1
    · simp
    · have hr := ih (i + 1) (preX ++ X1) (preY ++ Y1) X2 Y2 (by rw [List.length_append, hx, hX1.len, Nat.succ_mul]) (by rw [List.length_append, hy, hY1.len, Nat.succ_mul]) hX2 hY2
      simp only [Bool.not_true, Bool.false_eq_true, if_false, Bool.true_and]
      simpa using hr
theorem eq_run : ∀ (d : Nat) (t : TypeId) (s : List Sh) (X Y : List Value) (D : Nat) (w : World), eqPlan P d t = true → shOf P d t = some s → Ty s X → Ty s Y → d ≤ D → (Op.equalIn D t (vOf P t X) (vOf P t Y)).run P w = .ok (lEq X Y) w := by
  intro d; induction d with
  | zero => intro t s X Y D w h; simp [eqPlan] at h
  | succ d ih =>
    intro t s X Y D w he hs hX hY hD
    obtain ⟨D, rfl⟩ : ∃ D', D = D' + 1 := ⟨D - 1, by omega⟩
    simp only [eqPlan] at he
    simp only [shOf] at hs
    cases hu : P.underlying t with
    | none => simp [hu] at he
    | some u =>
      cases u <;> simp only [hu] at he hs <;> first | (simp at he; done) | skip
      · -- bool
        simp at hs; subst hs
        have hag : isAggT P t = some false := by simp [isAggT, hu]
        cases X with
        | nil => simp [Ty] at hX
        | cons x X => cases x <;> simp [Ty] at hX
                      cases X <;> simp [Ty] at hX
                      cases Y with
                      | nil => simp [Ty] at hY
                      | cons y Y =>
                        cases y <;> simp [Ty] at hY
                        cases Y <;> simp [Ty] at hY
                        simp [vOf, hag, lEq, vEq, run_equalIn_bool' w D t _ _ hu]
      · -- int
        simp at hs; subst hs
        have hag : isAggT P t = some false := by simp [isAggT, hu]
        cases X with
        | nil => simp [Ty] at hX
        | cons x X => cases x <;> simp [Ty] at hX
                      obtain ⟨rfl, hX⟩ := hX
                      cases X <;> simp [Ty] at hX
                      cases Y with
                      | nil => simp [Ty] at hY
                      | cons y Y =>
                        cases y <;> simp [Ty] at hY
                        obtain ⟨rfl, hY⟩ := hY
                        cases Y <;> simp [Ty] at hY
                        simp [vOf, hag, lEq, vEq, run_equalIn_int w D t _ _ _ _ hu]
      · -- array
        rename_i n e
        have hag : isAggT P t = some true := by simp [isAggT, hu]
        simp only [Bool.and_eq_true] at he
        obtain ⟨he1, he2⟩ := he
        cases hse : shOf P d e with
        | none => simp [hse] at he2
        | some s1 =>
          simp only [hse, Bool.and_eq_true] at he2
          simp only [hse, Option.map_some, Option.some.injEq] at hs
          subst hs
          obtain ⟨⟨h1, h2⟩, h3⟩ := he2
          have h1 : sizeT P e = some s1.length := by simpa using h1
          have h2 : P.cellsOf e = s1.length := by simpa using h2
          obtain ⟨i, hi, hi'⟩ := Option.map_eq_some_iff.1 h1
          have := eqItems_run (P := P) (w := w) (D := D) (fun X Y w hX hY => ih e s1 X Y D w he1 hse hX hY (by omega)) h1 h3 n 0 [] [] X Y (by simp) (by simp) hX hY
          simp only [List.nil_append, ← List.range_eq_range'] at this
          simp only [vOf, hag, if_true, run_equalIn_array w D _ _ hu hi, h2, this]
      · -- struct
        rename_i fs
        have hag : isAggT P t = some true := by simp [isAggT, hu]
        simp only [Bool.and_eq_true, Bool.not_eq_true'] at he
        have hf : P.fieldsOf t = fs := by simp [Program.fieldsOf, hu]
        have := eqFs_run (P := P) (w := w) (D := D) (fun t s X Y w h1 h2 hX hY => ih t s X Y D w h1 h2 hX hY (by omega)) fs.toList s [] [] X Y he.2 rfl hs hX hY
        simp only [List.nil_append] at this
        simp only [vOf, hag, if_true, run_equalIn_struct w D t _ _ (by rw [hf]; exact hu) he.1, hf, this]
theorem eqOk_ty : ∀ (s : List Sh) (l : Val) (X : List Value), eqOk s l → RepM A0 w0 β B w l (.tuple ⟨X⟩) → Ty s X := by
  intro s; induction s with
  | nil =>
    intro l X h hr
    cases l <;> simp [eqOk] at h
    have e : Value.tuple ⟨X⟩ = .tuple #[] := hr
    have : X = [] := by simpa using e
    subst this; trivial
  | cons c s ih =>
    intro l X h hr
    cases c <;> cases l <;> simp [eqOk] at h
    · obtain ⟨x, xs, he, h1, h2⟩ := hr
      have : X = x :: xs := by simpa using he
      subst this
      obtain ⟨hc, h⟩ := h
      simp only [castOk] at hc
      rw [hc] at h1
      have e : x = _ := h1
      subst e
      exact ⟨rfl, ih _ _ h h2⟩
    · obtain ⟨x, xs, he, h1, h2⟩ := hr
      have : X = x :: xs := by simpa using he
      subst this
      obtain ⟨hc, h⟩ := h
      simp only [castOk] at hc
      rw [hc] at h1
      have e : x = _ := h1
      subst e
      exact ih _ _ h h2
theorem eqCells_lEq : ∀ (s : List Sh) (l m : Val) (X Y : List Value), eqOk s l → eqOk s m → RepM A0 w0 β B w l (.tuple ⟨X⟩) → RepM A0 w0 β B w m (.tuple ⟨Y⟩) → lEq X Y = eqCells s l m := by
  intro s; induction s with
  | nil =>
    intro l m X Y h h' hr hr'
    cases l <;> simp [eqOk] at h
    have e : Value.tuple ⟨X⟩ = .tuple #[] := hr
    have : X = [] := by simpa using e
    subst this; cases Y <;> rfl
  | cons c s ih =>
    intro l m X Y h h' hr hr'
    cases c <;> cases l <;> simp [eqOk] at h <;> cases m <;> simp [eqOk] at h'
    · obtain ⟨x, xs, he, h1, h2⟩ := hr
      have : X = x :: xs := by simpa using he
      subst this
      obtain ⟨y, ys, he, h1', h2'⟩ := hr'
      have : Y = y :: ys := by simpa using he
      subst this
      obtain ⟨hc, h⟩ := h
      obtain ⟨hc', h'⟩ := h'
      simp only [castOk] at hc hc'
      rw [hc] at h1; rw [hc'] at h1'
      have e : x = _ := h1
      have e' : y = _ := h1'
      subst e e'
      simp only [lEq, vEq, eqCells, ih _ _ _ _ h h' h2 h2']
    · obtain ⟨x, xs, he, h1, h2⟩ := hr
      have : X = x :: xs := by simpa using he
      subst this
      obtain ⟨y, ys, he, h1', h2'⟩ := hr'
      have : Y = y :: ys := by simpa using he
      subst this
      obtain ⟨hc, h⟩ := h
      obtain ⟨hc', h'⟩ := h'
      simp only [castOk] at hc hc'
      rw [hc] at h1; rw [hc'] at h1'
      have e : x = _ := h1
      have e' : y = _ := h1'
      subst e e'
      simp only [lEq, vEq, eqCells, ih _ _ _ _ h h' h2 h2']
theorem does_eqa {op : BinOp} {neg : Bool} {t u : TypeId} {x y : Operand} {ox oy : Opd} {s : List Sh} (ho : o.op = .binOp op t x y u) (ht : isAggT P t = some true) (hs : shT P t = some (true, s)) (hpl : eqPlan P 6 t = true) (hgd : P.eqGuardType P.depth t = false) (hop : op = if neg then .neq else .eql)
    (hx : RepM A0 w0 β B w (ev E fr ox) (a.eval x)) (hy : RepM A0 w0 β B w (ev E fr oy) (a.eval y)) (hp : (aop E fr bx nx (.eqa neg s ox oy)).pre) : Does P A0 w0 β B nx w a o (aop E fr bx nx (.eqa neg s ox oy)) := by
  cases hv : ev E fr ox <;> cases hu : ev E fr oy <;> simp only [aop, hv, hu] at hp hx hy ⊢ <;> first | exact hp.elim | skip
  rename_i l m
  obtain ⟨X, e1, h1⟩ := hx
  obtain ⟨Y, e2, h2⟩ := hy
  have hsh : shOf P 6 t = some s := by
    unfold shT at hs
    split at hs
    · split at hs
      · simp at hs; rename_i q _ _; rw [← hs.2]; assumption
      · cases hs
    · cases hs
  have hr := eq_run (P := P) 6 t s X Y 10000 w hpl hsh (eqOk_ty _ _ _ hp.1 h1) (eqOk_ty _ _ _ hp.2 h2) (by omega)
  simp only [vOf, ht, if_true] at hr
  rw [eqCells_lEq s l m X Y hp.1 hp.2 h1 h2] at hr
  cases neg
  · simp only [Bool.false_eq_true, if_false] at hop
    subst hop
    exact Does.plain rfl (x := .bool (eqCells s l m)) (by simp [execOp, ho, e1, e2, run_eqGuard_agg w _ _ _ _ _ _ hgd, run_eql_struct, hr]) rfl
  · simp only [if_true] at hop
    subst hop
    exact Does.plain rfl (x := .bool (!eqCells s l m)) (by simp [execOp, ho, e1, e2, run_eqGuard_agg w _ _ _ _ _ _ hgd, run_neq_struct, hr]) rfl
end Go.Proofs.YtbhhcnonooiokaaDoor
