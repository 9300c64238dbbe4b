/- Maps with integer keys, said by a function from keys to values: a map that the call makes; a store; a look-up. No condition. -/
import Derived.Test.YtbhhcnonooiokaaDoorBase
import Derived.Maps.OwnOps
namespace Go.Proofs.YtbhhcnonooiokaaDoor
open Go Go.RowKit

def keyIs (kd : IntKind) (k : Int) (e : MapEntry) : Bool := match e.key with | .int j n => decide (j = kd) && (n == k) | _ => false
/-- block b is a map with keys of kind kd, and holds what g says -/
def MapF (w : World) (b : Nat) (kd : IntKind) (g : Int → Option Value) : Prop :=
  ∃ es clock, w.heap[b]? = some (.map es clock) ∧ (∀ e ∈ es.toList, ∃ n, e.key = .int kd n) ∧ ∀ k, ((es.toList.find? (keyIs kd k)).map (·.val)) = g k
theorem MapF.congr {w : World} {b : Nat} {kd : IntKind} {g g' : Int → Option Value} (h : MapF w b kd g) (e : ∀ k, g k = g' k) : MapF w b kd g' := by
  have : g = g' := funext e
  subst this; exact h
theorem MapF.lt {w : World} {b : Nat} {kd : IntKind} {g : Int → Option Value} (h : MapF w b kd g) : b < w.heap.size := by
  obtain ⟨es, c, h1, _⟩ := h; exact lt_of_block h1
theorem MapF.below {w w' : World} {B b : Nat} {kd : IntKind} {g : Int → Option Value} (h : MapF w b kd g) (hb : Below B w w') (hB : b < B) : MapF w' b kd g := by
  obtain ⟨es, c, h1, h2⟩ := h; exact ⟨es, c, (hb.block b hB).trans h1, h2⟩
theorem MapF.ext {w w' : World} {b : Nat} {kd : IntKind} {g : Int → Option Value} (h : MapF w b kd g) (hb : Ext w w') : MapF w' b kd g := h.below hb h.lt
theorem MapF.alloc {w : World} {b : Nat} {kd : IntKind} {g : Int → Option Value} (h : MapF w b kd g) (o : Obj) : MapF (w.alloc o) b kd g := by
  have hl := h.lt
  obtain ⟨es, c, h1, h2⟩ := h; exact ⟨es, c, (Below.heap_alloc w o b hl).trans h1, h2⟩
theorem MapF.drew {w : World} {b : Nat} {kd : IntKind} {g : Int → Option Value} (h : MapF w b kd g) : MapF w.drew b kd g := h
theorem MapF.setCell {w : World} {b b' : Nat} {kd : IntKind} {g : Int → Option Value} (h : MapF w b kd g) (hne : b ≠ b') (i : Nat) (v : Value) : MapF (w.setCell ⟨b', i, none⟩ v) b kd g := by
  obtain ⟨es, c, h1, h2⟩ := h; exact ⟨es, c, (Below.heap_setCell w ⟨b', i, none⟩ v b hne).trans h1, h2⟩
theorem MapF.new (w : World) (kd : IntKind) : MapF (w.alloc (.map #[] 0)) w.heap.size kd (fun _ => none) := ⟨#[], 0, heap_new w _, by simp, by simp⟩

theorem MapF.new' (w : World) (kd : IntKind) {b : Nat} (h : b = w.heap.size) : MapF (w.alloc (.map #[] 0)) b kd (fun _ => none) := by subst h; exact MapF.new w kd

theorem findNow_int (kd : IntKind) (k : Int) : ∀ (es : List MapEntry) (i : Nat), (∀ e ∈ es, ∃ n, e.key = .int kd n) →
    ∃ r, Instr.findNow (.int kd) (.int kd k) es i = some r ∧
      ((r = none ∧ es.find? (keyIs kd k) = none) ∨ (∃ j e, r = some (i + j, e.val) ∧ es[j]? = some e ∧ keyIs kd k e = true ∧ es.find? (keyIs kd k) = some e ∧ ∀ j' < j, ∀ e', es[j']? = some e' → keyIs kd k e' = false))
  | [], i, _ => ⟨none, rfl, .inl ⟨rfl, rfl⟩⟩
  | e :: es, i, h => by
    obtain ⟨n, hn⟩ := h e (by simp)
    by_cases hk : k = n
    · subst hk
      have hki : keyIs kd k e = true := by simp [keyIs, hn]
      refine ⟨some (i, e.val), by simp [Instr.findNow, Instr.sameNow, hn], .inr ⟨0, e, by simp, by simp, hki, by simp [List.find?, hki], by omega⟩⟩
    · have hki : keyIs kd k e = false := by simp [keyIs, hn]; omega
      obtain ⟨r, hr, hc⟩ := findNow_int kd k es (i + 1) (fun x hx => h x (by simp [hx]))
      refine ⟨r, ?_, ?_⟩
      · have : (k == n) = false := by simpa using hk
        simp [Instr.findNow, Instr.sameNow, hn, this, hr]
      · rcases hc with ⟨rfl, hf⟩ | ⟨j, e', rfl, he, hke, hf, hlt⟩
        · exact .inl ⟨rfl, by simp [List.find?, hki, hf]⟩
        · refine .inr ⟨j + 1, e', by simp; omega, by simpa using he, hke, by simp [List.find?, hki, hf], ?_⟩
          intro j' hj' e'' he''
          cases j' with
          | zero => simp at he''; subst he''; exact hki
          | succ j' => exact hlt j' (by omega) e'' (by simpa using he'')

section
variable {P : Program} {T K E : TypeId} {kd : IntKind} {w : World} {b : Nat} {g : Int → Option Value}
theorem run_checkKey_int (hK : P.underlying K = some (.int kd)) (n : Nat) (e : Bool) (k : Int) : (Instr.checkKey e (n + 1) K (.int kd k)).run P w = .ok () w := by
  simp [Instr.checkKey, run_underlying hK, Result.andThen]
theorem run_lookup_mapF (hm : MapF w b kd g) (hT : P.underlying T = some (.map K E)) (hK : P.underlying K = some (.int kd)) (z : Value) (hz : (zeroValue E).run P w = .ok z w) (k : Int) (ok : Bool) :
    (Instr.lookup T (.map (some b)) (.int kd k) ok).run P w = .ok (if ok then .tuple #[(g k).getD z, .bool (g k).isSome] else (g k).getD z) w := by
  obtain ⟨es, c, hb, hkeys, hg⟩ := hm
  obtain ⟨r, hr, hc⟩ := findNow_int kd k es.toList 0 hkeys
  have hck := fun e => run_checkKey_int (w := w) hK 9999 e k
  have hgk := hg k
  simp only [Instr.lookup]
  rcases hc with ⟨rfl, hf⟩ | ⟨j, e, rfl, he, hke, hf, hlt⟩
  · rw [hf] at hgk
    simp [run_underlying hT, run_underlying hK, MapKept.run_getObj_map hb, hck, Instr.findKey, hr, hz, ← hgk, Result.andThen]
  · rw [hf] at hgk
    simp [run_underlying hT, run_underlying hK, MapKept.run_getObj_map hb, hck, Instr.findKey, hr, ← hgk, Result.andThen]

theorem find_modify (kd : IntKind) (k : Int) (v : Value) : ∀ (l : List MapEntry) (j : Nat) (e : MapEntry), l[j]? = some e → keyIs kd k e = true → (∀ j' < j, ∀ e', l[j']? = some e' → keyIs kd k e' = false) →
    (∀ e ∈ l, ∃ n, e.key = .int kd n) → ∀ k', (((l.modify j fun e => { e with key := .int kd k, val := v }).find? (keyIs kd k')).map (·.val)) = if k' = k then some v else ((l.find? (keyIs kd k')).map (·.val))
  | [], j, e, he, _, _, _, _ => by simp at he
  | x :: l, 0, e, he, hk, _, hkeys, k' => by
    simp at he; subst he
    by_cases h : k' = k
    · subst h; simp [keyIs]
    · obtain ⟨n, hn⟩ := hkeys x (by simp)
      have hnk : n = k := by simpa [keyIs, hn] using hk
      subst hnk
      have h1 : keyIs kd k' { x with key := .int kd n, val := v } = false := by simp [keyIs]; omega
      have h2 : keyIs kd k' x = false := by simp [keyIs, hn]; omega
      simp [List.find?, h1, h2, h]
  | x :: l, j + 1, e, he, hk, hlt, hkeys, k' => by
    have hx := hlt 0 (by omega) x (by simp)
    have ih := find_modify kd k v l j e (by simpa using he) hk (fun j' hj' e' he' => hlt (j' + 1) (by omega) e' (by simpa using he')) (fun y hy => hkeys y (by simp [hy])) k'
    simp only [List.modify_succ_cons, List.find?]
    by_cases h : keyIs kd k' x = true
    · have : k' ≠ k := by rintro rfl; rw [hx] at h; cases h
      simp [h, this]
    · simp only [Bool.not_eq_true] at h
      simp only [h]
      exact ih

theorem run_mapUpdate_mapF (hm : MapF w b kd g) (hT : P.underlying T = some (.map K E)) (hK : P.underlying K = some (.int kd)) (k : Int) (v : Value) :
    ∃ w', (Instr.mapUpdate T (.map (some b)) (.int kd k) v).run P w = .ok () w' ∧ MapF w' b kd (fun j => if j = k then some v else g j) ∧ w.grownBy w' (some b) := by
  obtain ⟨es, c, hb, hkeys, hg⟩ := hm
  obtain ⟨r, hr, hc⟩ := findNow_int kd k es.toList 0 hkeys
  have hck := run_checkKey_int (w := w) hK 9999 false k
  have hlt := lt_of_block hb
  have hset : ∀ o, ({ w with heap := w.heap.setIfInBounds b o } : World).heap[b]? = some o := fun o => by simp [hlt]
  have hgr : ∀ o, w.grownBy { w with heap := w.heap.setIfInBounds b o } (some b) := fun o => ⟨rfl, rfl, rfl, by simp, fun i _ hi => by
    show (w.heap.setIfInBounds b o)[i]? = _
    rw [Array.getElem?_setIfInBounds, if_neg (by intro e; exact hi (by rw [e]))]⟩
  have hso : ∀ o, (Sem.setObj b o (.pure ())).run P w = .ok () { w with heap := w.heap.setIfInBounds b o } := fun o => by simp [Sem.run, hb]
  simp only [Instr.mapUpdate]
  rcases hc with ⟨rfl, hf⟩ | ⟨j, e, rfl, he, hke, hf, hltj⟩
  · refine ⟨{ w with heap := w.heap.setIfInBounds b (.map (es.push { key := .int kd k, val := v, born := c }) (c + 1)) }, ?_, ⟨_, _, hset _, ?_, ?_⟩, hgr _⟩
    · simp [run_underlying hT, run_underlying hK, MapKept.run_getObj_map hb, hck, Instr.findKey, hr, Result.andThen, MapKept.run_setObj_map _ hb]
    · intro e he
      simp at he
      rcases he with he | rfl
      · exact hkeys e (by simpa using he)
      · exact ⟨k, rfl⟩
    · intro k'
      rw [Array.toList_push, List.find?_append]
      by_cases h : k' = k
      · subst h; simp [hf, keyIs]
      · have : keyIs kd k' { key := .int kd k, val := v, born := c } = false := by simp [keyIs]; omega
        simp [List.find?, this, h, ← hg k']
  · obtain ⟨n, hn⟩ := hkeys e (List.mem_of_getElem? he)
    have hnk : n = k := by simpa [keyIs, hn] using hke
    subst hnk
    have he' : es[j]? = some e := by simpa using he
    have hstay : (Instr.keyThatStays (.int kd n) (.int kd n)).run P w = .ok (.int kd n) w := by simp [Instr.keyThatStays, Instr.sameBits]
    refine ⟨{ w with heap := w.heap.setIfInBounds b (.map (es.modify j fun e => { e with key := .int kd n, val := v }) c) }, ?_, ⟨_, _, hset _, ?_, ?_⟩, hgr _⟩
    · simp [run_underlying hT, run_underlying hK, MapKept.run_getObj_map hb, hck, Instr.findKey, hr, Result.andThen, he', hn, hstay, MapKept.run_setObj_map _ hb]
    · intro x hx
      rw [Array.toList_modify] at hx
      obtain ⟨i, hi⟩ := List.mem_iff_getElem?.1 hx
      rw [List.getElem?_modify] at hi
      split at hi
      · cases hxi : es.toList[i]? with
        | none => simp [hxi] at hi
        | some y => simp [hxi] at hi; exact ⟨n, by rw [← hi]⟩
      · exact hkeys x (List.mem_of_getElem? (by simpa using hi))
    · intro k'
      rw [Array.toList_modify, find_modify kd n v es.toList j e he hke hltj hkeys k', hg k']
end

/-- the walk's laws: a look-up, a store -/
theorem wpList_lookup_mapF {P : Program} {w : World} {ops : Array Oper} {rest : List Oper} {o : Oper} {a : Act} {Q : Exit → Act → World → Prop}
    (hgd : o.guard = none) (m x : Operand) (T : TypeId) (ok : Bool) (hop : o.op = Op.lookup T m x ok) (K E : TypeId) (kd : IntKind) (hT : P.underlying T = some (.map K E)) (hK : P.underlying K = some (.int kd))
    (z : Value) (hz : (zeroValue E).run P w = .ok z w) (b : Nat) (g : Int → Option Value) (hm : MapF w b kd g) (hme : a.eval m = .map (some b)) (k : Int) (hx : a.eval x = .int kd k)
    (h : wpList P ops Q rest (a.put o.dst (if ok then .tuple #[(g k).getD z, .bool (g k).isSome] else (g k).getD z)) w) : wpList P ops Q (o :: rest) a w := by
  refine wpList_plain hgd fun K' hK' => ?_
  unfold Oper.wp
  have := run_lookup_mapF hm hT hK z hz k ok
  simp [execOp, hop, hme, hx, this, Result.andThen]
  exact hK' _ _ h
theorem wpList_mapUpdate_mapF {P : Program} {w : World} {ops : Array Oper} {rest : List Oper} {o : Oper} {a : Act} {Q : Exit → Act → World → Prop}
    (hgd : o.guard = none) (m x v : Operand) (T : TypeId) (hop : o.op = Op.mapUpdate T m x v) (K E : TypeId) (kd : IntKind) (hT : P.underlying T = some (.map K E)) (hK : P.underlying K = some (.int kd))
    (b : Nat) (g : Int → Option Value) (hm : MapF w b kd g) (hme : a.eval m = .map (some b)) (k : Int) (hx : a.eval x = .int kd k) (val : Value) (hv : a.eval v = val)
    (h : ∀ w', MapF w' b kd (fun j => if j = k then some val else g j) → w.grownBy w' (some b) → wpList P ops Q rest (a.put o.dst undef) w') : wpList P ops Q (o :: rest) a w := by
  refine wpList_plain hgd fun K' hK' => ?_
  obtain ⟨w', hrun, h1, h2⟩ := run_mapUpdate_mapF hm hT hK k val
  unfold Oper.wp
  simp [execOp, hop, hme, hx, hv, hrun, Result.andThen]
  exact hK' _ _ (h w' h1 h2)
end Go.Proofs.YtbhhcnonooiokaaDoor
