/- The engine: Base, Map, MapO, FVal, FCode, FRun, FComp, FMem. No condition. -/
import Derived.WalkKit
import Derived.WalkLawsBesides
import Derived.WalkSpells
import Derived.Deep.LoopGhost
import Derived.Deep.DeepCutAuto
import Derived.Deep.RegionWith
import Derived.Deep.RegionHeld3
import Derived.BigQuiet
import Derived.Deep.QuietTactic
import Derived.Lib.Hide
import Derived.Maps.OwnOps
import Derived.Maps.RangeRun
import Derived.Laws.BytesArg
import Derived.Lib.LazyBuf
import Derived.Orders
set_option linter.unusedSimpArgs false
set_option linter.unusedVariables false
/- Small lemmas of my own on worlds and blocks: what lies below is kept (Ext), a block of known cells (Blk), cells of a row (Cel). No condition. -/
namespace Go.Proofs.Ytlieoghhkioflaa
open Go Go.RowKit
abbrev Ext (w w' : World) : Prop := Below w.heap.size w w'
theorem ext_cell {w w' : World} (h : Ext w w') {p : Addr} {v : Value} (hv : w.cell? p = some v) : w'.cell? p = some v := by
 have : p.block < w.heap.size := by
  rcases Nat.lt_or_ge p.block w.heap.size with h1 | h1
  ·exact h1
  ·simp [World.cell?,Array.getElem?_eq_none h1] at hv
 rw [h.cell this]; exact hv
theorem cell_lt {w : World} {p : Addr} {v : Value} (hv : w.cell? p = some v) : p.block < w.heap.size := by
 rcases Nat.lt_or_ge p.block w.heap.size with h1 | h1
 ·exact h1
 ·simp [World.cell?,Array.getElem?_eq_none h1] at hv
def Blk (w : World) (b : Nat) (cs : List Value) (t : TypeId) : Prop := w.heap[b]? = some (.cells cs.toArray t (0,0))
theorem Blk.cell {w : World} {b : Nat} {cs : List Value} {t : TypeId} (h : Blk w b cs t) (i : Nat) : w.cell? ⟨b,i,none⟩ = cs[i]? := by
 unfold Blk at h; simp [World.cell?,h]
theorem Blk.lt {w : World} {b : Nat} {cs : List Value} {t : TypeId} (h : Blk w b cs t) : b < w.heap.size := lt_of_block h
theorem Blk.below {w w' : World} {B b : Nat} {cs : List Value} {t : TypeId} (h : Blk w b cs t) (hb : Below B w w') (hB : b < B) : Blk w' b cs t := (hb.block b hB).trans h
theorem Blk.ext {w w' : World} {b : Nat} {cs : List Value} {t : TypeId} (h : Blk w b cs t) (hb : Ext w w') : Blk w' b cs t := h.below hb h.lt
theorem Blk.alloc {w : World} {b : Nat} {cs : List Value} {t : TypeId} (h : Blk w b cs t) (o : Obj) : Blk (w.alloc o) b cs t := (Below.heap_alloc w o b h.lt).trans h
theorem Blk.drew {w : World} {b : Nat} {cs : List Value} {t : TypeId} (h : Blk w b cs t) : Blk w.drew b cs t := h
theorem heap_new (w : World) (o : Obj) : (w.alloc o).heap[w.heap.size]? = some o := by show (w.heap.push o)[_]? = _; simp
theorem Blk.new (w : World) (cs : List Value) (t : TypeId) : Blk (w.alloc (.cells cs.toArray t)) w.heap.size cs t := heap_new w _
theorem Blk.new' (w : World) (cs : List Value) (t : TypeId) {b : Nat} (h : b = w.heap.size) : Blk (w.alloc (.cells cs.toArray t)) b cs t := by subst h; exact Blk.new w cs t
theorem Blk.set {w : World} {b : Nat} {cs : List Value} {t : TypeId} (h : Blk w b cs t) (i : Nat) (v : Value) : Blk (w.setCell ⟨b,i,none⟩ v) b (cs.set i v) t := by
 have hlt := h.lt
 unfold Blk at h
 have h' : w.heap[b] = .cells cs.toArray t (0,0) := by simpa [Array.getElem?_eq_getElem hlt] using h
 show (w.heap.modify b _)[b]? = _
 rw [Array.getElem?_eq_getElem (by simpa using hlt),Array.getElem_modify_self,h']
 simp
def Cel (w : World) (b off k n : Nat) (f : Nat → Nat → Value) : Prop := ∀ i,i < n → ∀ j,j < k → w.cell? ⟨b,off + i * k + j,none⟩ = some (f i j)
theorem Cel.ext {w w' : World} {b off k n : Nat} {f : Nat → Nat → Value} (h : Cel w b off k n f) (he : Ext w w') : Cel w' b off k n f := fun i hi j hj => ext_cell he (h i hi j hj)
def SL (w : World) (v : Value) (k n : Nat) (f : Nat → Nat → Value) : Prop :=
 ∃ a c,v = .slice a n c ∧ n ≤ maxLen ∧ (0 < n → ∃ b off,a = some ⟨b,off,none⟩ ∧ Cel w b off k n f)
theorem SL.ext {w w' : World} {v : Value} {k n : Nat} {f : Nat → Nat → Value} (h : SL w v k n f) (he : Ext w w') : SL w' v k n f := by
 obtain ⟨a,c,hv,hn,hc⟩ := h
 exact ⟨a,c,hv,hn,fun h0 => by obtain ⟨b,off,ha,hx⟩ := hc h0; exact ⟨b,off,ha,hx.ext he⟩⟩
theorem ent_of {P : Program} {f : FuncId} {fn : Func} {c : Code} (hf : P.funcs[f]? = some fn) (hname : (fn.name == "runtime.NumGoroutine") = false) (hb : fn.body = some c) :
  ∀ args w,(callFunc f args).run P w = .ok (.enter f args) w := by
 intro args w
 have hn : ¬ fn.name = "runtime.NumGoroutine" := by simpa using hname
 simp [callFunc,hf,hn,hb,Result.andThen]
end Go.Proofs.Ytlieoghhkioflaa
/- Maps with integer keys,said by a function from keys to values: a map that the call makes; a store; a look-up. No condition. -/
namespace Go.Proofs.Ytlieoghhkioflaa
open Go Go.RowKit
def keyIs (kd : IntKind) (k : Int) (e : MapEntry) : Bool := match e.key with | .int j n => decide (j = kd) && (n == k) | _ => false
def MapF (w : World) (b : Nat) (kd : IntKind) (g : Int → Option Value) : Prop :=
 ∃ es clock,w.heap[b]? = some (.map es clock) ∧ (∀ e ∈ es.toList,∃ n,e.key = .int kd n) ∧ ∀ k,((es.toList.find? (keyIs kd k)).map (·.val)) = g k
theorem MapF.congr {w : World} {b : Nat} {kd : IntKind} {g g' : Int → Option Value} (h : MapF w b kd g) (e : ∀ k,g k = g' k) : MapF w b kd g' := by
 have : g = g' := funext e
 subst this; exact h
theorem MapF.lt {w : World} {b : Nat} {kd : IntKind} {g : Int → Option Value} (h : MapF w b kd g) : b < w.heap.size := by
 obtain ⟨es,c,h1,_⟩ := h; exact lt_of_block h1
theorem MapF.below {w w' : World} {B b : Nat} {kd : IntKind} {g : Int → Option Value} (h : MapF w b kd g) (hb : Below B w w') (hB : b < B) : MapF w' b kd g := by
 obtain ⟨es,c,h1,h2⟩ := h; exact ⟨es,c,(hb.block b hB).trans h1,h2⟩
theorem MapF.ext {w w' : World} {b : Nat} {kd : IntKind} {g : Int → Option Value} (h : MapF w b kd g) (hb : Ext w w') : MapF w' b kd g := h.below hb h.lt
theorem MapF.alloc {w : World} {b : Nat} {kd : IntKind} {g : Int → Option Value} (h : MapF w b kd g) (o : Obj) : MapF (w.alloc o) b kd g := by
 have hl := h.lt
 obtain ⟨es,c,h1,h2⟩ := h; exact ⟨es,c,(Below.heap_alloc w o b hl).trans h1,h2⟩
theorem MapF.drew {w : World} {b : Nat} {kd : IntKind} {g : Int → Option Value} (h : MapF w b kd g) : MapF w.drew b kd g := h
theorem MapF.setCell {w : World} {b b' : Nat} {kd : IntKind} {g : Int → Option Value} (h : MapF w b kd g) (hne : b ≠ b') (i : Nat) (v : Value) : MapF (w.setCell ⟨b',i,none⟩ v) b kd g := by
 obtain ⟨es,c,h1,h2⟩ := h; exact ⟨es,c,(Below.heap_setCell w ⟨b',i,none⟩ v b hne).trans h1,h2⟩
theorem MapF.new (w : World) (kd : IntKind) : MapF (w.alloc (.map #[] 0)) w.heap.size kd (fun _ => none) := ⟨#[],0,heap_new w _,by simp,by simp⟩
theorem MapF.new' (w : World) (kd : IntKind) {b : Nat} (h : b = w.heap.size) : MapF (w.alloc (.map #[] 0)) b kd (fun _ => none) := by subst h; exact MapF.new w kd
theorem findNow_int (kd : IntKind) (k : Int) : ∀ (es : List MapEntry) (i : Nat),(∀ e ∈ es,∃ n,e.key = .int kd n) →
  ∃ r,Instr.findNow (.int kd) (.int kd k) es i = some r ∧
   ((r = none ∧ es.find? (keyIs kd k) = none) ∨ (∃ j e,r = some (i + j,e.val) ∧ es[j]? = some e ∧ keyIs kd k e = true ∧ es.find? (keyIs kd k) = some e ∧ ∀ j' < j,∀ e',es[j']? = some e' → keyIs kd k e' = false))
 | [],i,_ => ⟨none,rfl,.inl ⟨rfl,rfl⟩⟩
 | e :: es,i,h => by
  obtain ⟨n,hn⟩ := h e (by simp)
  by_cases hk : k = n
  ·subst hk
   have hki : keyIs kd k e = true := by simp [keyIs,hn]
   refine ⟨some (i,e.val),by simp [Instr.findNow,Instr.sameNow,hn],.inr ⟨0,e,by simp,by simp,hki,by simp [List.find?,hki],by omega⟩⟩
  ·have hki : keyIs kd k e = false := by simp [keyIs,hn]; omega
   obtain ⟨r,hr,hc⟩ := findNow_int kd k es (i + 1) (fun x hx => h x (by simp [hx]))
   refine ⟨r,?_,?_⟩
   ·have : (k == n) = false := by simpa using hk
    simp [Instr.findNow,Instr.sameNow,hn,this,hr]
   ·rcases hc with ⟨rfl,hf⟩ | ⟨j,e',rfl,he,hke,hf,hlt⟩
    ·exact .inl ⟨rfl,by simp [List.find?,hki,hf]⟩
    ·refine .inr ⟨j + 1,e',by simp; omega,by simpa using he,hke,by simp [List.find?,hki,hf],?_⟩
     intro j' hj' e'' he''
     cases j' with
     | zero => simp at he''; subst he''; exact hki
     | succ j' => exact hlt j' (by omega) e'' (by simpa using he'')
section
variable {P : Program} {T K E : TypeId} {kd : IntKind} {w : World} {b : Nat} {g : Int → Option Value}
theorem run_checkKey_int (hK : P.underlying K = some (.int kd)) (n : Nat) (e : Bool) (k : Int) : (Instr.checkKey e (n + 1) K (.int kd k)).run P w = .ok () w := by
 simp [Instr.checkKey,run_underlying hK,Result.andThen]
theorem run_lookup_mapF (hm : MapF w b kd g) (hT : P.underlying T = some (.map K E)) (hK : P.underlying K = some (.int kd)) (z : Value) (hz : (zeroValue E).run P w = .ok z w) (k : Int) (ok : Bool) :
  (Instr.lookup T (.map (some b)) (.int kd k) ok).run P w = .ok (if ok then .tuple #[(g k).getD z,.bool (g k).isSome] else (g k).getD z) w := by
 obtain ⟨es,c,hb,hkeys,hg⟩ := hm
 obtain ⟨r,hr,hc⟩ := findNow_int kd k es.toList 0 hkeys
 have hck := fun e => run_checkKey_int (w := w) hK 9999 e k
 have hgk := hg k
 simp only [Instr.lookup]
 rcases hc with ⟨rfl,hf⟩ | ⟨j,e,rfl,he,hke,hf,hlt⟩
 ·rw [hf] at hgk
  simp [run_underlying hT,run_underlying hK,MapKept.run_getObj_map hb,hck,Instr.findKey,hr,hz,← hgk,Result.andThen]
 ·rw [hf] at hgk
  simp [run_underlying hT,run_underlying hK,MapKept.run_getObj_map hb,hck,Instr.findKey,hr,hz,← hgk,Result.andThen]
theorem find_modify (kd : IntKind) (k : Int) (v : Value) : ∀ (l : List MapEntry) (j : Nat) (e : MapEntry),l[j]? = some e → keyIs kd k e = true → (∀ j' < j,∀ e',l[j']? = some e' → keyIs kd k e' = false) →
  (∀ e ∈ l,∃ n,e.key = .int kd n) → ∀ k',(((l.modify j fun e => { e with key := .int kd k,val := v }).find? (keyIs kd k')).map (·.val)) = if k' = k then some v else ((l.find? (keyIs kd k')).map (·.val))
 | [],j,e,he,_,_,_,_ => by simp at he
 | x :: l,0,e,he,hk,_,hkeys,k' => by
  simp at he; subst he
  by_cases h : k' = k
  ·subst h; simp [List.find?,keyIs]
  ·obtain ⟨n,hn⟩ := hkeys x (by simp)
   have hnk : n = k := by simpa [keyIs,hn] using hk
   subst hnk
   have h1 : keyIs kd k' { x with key := .int kd n,val := v } = false := by simp [keyIs]; omega
   have h2 : keyIs kd k' x = false := by simp [keyIs,hn]; omega
   simp [List.find?,h1,h2,h]
 | x :: l,j + 1,e,he,hk,hlt,hkeys,k' => by
  have hx := hlt 0 (by omega) x (by simp)
  have ih := find_modify kd k v l j e (by simpa using he) hk (fun j' hj' e' he' => hlt (j' + 1) (by omega) e' (by simpa using he')) (fun y hy => hkeys y (by simp [hy])) k'
  simp only [List.modify_succ_cons,List.find?]
  by_cases h : keyIs kd k' x = true
  ·have : k' ≠ k := by rintro rfl; rw [hx] at h; cases h
   simp [h,this]
  ·simp only [Bool.not_eq_true] at h
   simp only [h]
   exact ih
theorem run_mapUpdate_mapF (hm : MapF w b kd g) (hT : P.underlying T = some (.map K E)) (hK : P.underlying K = some (.int kd)) (k : Int) (v : Value) :
  ∃ w',(Instr.mapUpdate T (.map (some b)) (.int kd k) v).run P w = .ok () w' ∧ MapF w' b kd (fun j => if j = k then some v else g j) ∧ w.grownBy w' (some b) := by
 obtain ⟨es,c,hb,hkeys,hg⟩ := hm
 obtain ⟨r,hr,hc⟩ := findNow_int kd k es.toList 0 hkeys
 have hck := run_checkKey_int (w := w) hK 9999 false k
 have hlt := lt_of_block hb
 have hset : ∀ o,({ w with heap := w.heap.setIfInBounds b o } : World).heap[b]? = some o := fun o => by simp [hlt]
 have hgr : ∀ o,w.grownBy { w with heap := w.heap.setIfInBounds b o } (some b) := fun o => ⟨rfl,rfl,rfl,by simp,fun i _ hi => by
  show (w.heap.setIfInBounds b o)[i]? = _
  rw [Array.getElem?_setIfInBounds,if_neg (by intro e; exact hi (by rw [e]))]⟩
 have hso : ∀ o,(Sem.setObj b o (.pure ())).run P w = .ok () { w with heap := w.heap.setIfInBounds b o } := fun o => by simp [Sem.run,hb]
 simp only [Instr.mapUpdate]
 rcases hc with ⟨rfl,hf⟩ | ⟨j,e,rfl,he,hke,hf,hltj⟩
 ·refine ⟨{ w with heap := w.heap.setIfInBounds b (.map (es.push { key := .int kd k,val := v,born := c }) (c + 1)) },?_,⟨_,_,hset _,?_,?_⟩,hgr _⟩
  ·simp [run_underlying hT,run_underlying hK,MapKept.run_getObj_map hb,hck,Instr.findKey,hr,Result.andThen,MapKept.run_setObj_map _ hb]
  ·intro e he
   simp at he
   rcases he with he | rfl
   ·exact hkeys e (by simpa using he)
   ·exact ⟨k,rfl⟩
  ·intro k'
   rw [Array.toList_push,List.find?_append]
   by_cases h : k' = k
   ·subst h; simp [hf,keyIs]
   ·have : keyIs kd k' { key := .int kd k,val := v,born := c } = false := by simp [keyIs]; omega
    simp [List.find?,this,h,← hg k']
 ·obtain ⟨n,hn⟩ := hkeys e (List.mem_of_getElem? he)
  have hnk : n = k := by simpa [keyIs,hn] using hke
  subst hnk
  have he' : es[j]? = some e := by simpa using he
  have hstay : (Instr.keyThatStays (.int kd n) (.int kd n)).run P w = .ok (.int kd n) w := by simp [Instr.keyThatStays,Instr.sameBits]
  refine ⟨{ w with heap := w.heap.setIfInBounds b (.map (es.modify j fun e => { e with key := .int kd n,val := v }) c) },?_,⟨_,_,hset _,?_,?_⟩,hgr _⟩
  ·simp [run_underlying hT,run_underlying hK,MapKept.run_getObj_map hb,hck,Instr.findKey,hr,Result.andThen,he',hn,hstay,MapKept.run_setObj_map _ hb]
  ·intro x hx
   rw [Array.toList_modify] at hx
   obtain ⟨i,hi⟩ := List.mem_iff_getElem?.1 hx
   rw [List.getElem?_modify] at hi
   split at hi
   ·cases hxi : es.toList[i]? with
    | none => simp [hxi] at hi
    | some y => simp [hxi] at hi; exact ⟨n,by rw [← hi]⟩
   ·exact hkeys x (List.mem_of_getElem? (by simpa using hi))
  ·intro k'
   rw [Array.toList_modify,find_modify kd n v es.toList j e he hke hltj hkeys k',hg k']
end
end Go.Proofs.Ytlieoghhkioflaa
/- Maps that the program makes: their entries' stamps,a store,a delete,and a range over one. No condition. -/
namespace Go.Proofs.Ytlieoghhkioflaa
open Go Go.RowKit
def MapO (w : World) (b : Nat) (kd : IntKind) (g : Int → Option Value) : Prop :=
 ∃ es clock,w.heap[b]? = some (.map es clock) ∧ MapKept.Stamped es clock ∧ (∀ e ∈ es.toList,∃ n,e.key = .int kd n) ∧ ∀ k,((es.toList.find? (keyIs kd k)).map (·.val)) = g k
theorem MapO.mapF {w : World} {b : Nat} {kd : IntKind} {g : Int → Option Value} (h : MapO w b kd g) : MapF w b kd g := by
 obtain ⟨es,c,h1,_,h2⟩ := h; exact ⟨es,c,h1,h2⟩
theorem MapO.heap {w w' : World} {b : Nat} {kd : IntKind} {g : Int → Option Value} (h : MapO w b kd g) (hh : w'.heap[b]? = w.heap[b]?) : MapO w' b kd g := by
 obtain ⟨es,c,h1,h2⟩ := h; exact ⟨es,c,hh.trans h1,h2⟩
theorem MapO.new' (w : World) (kd : IntKind) {b : Nat} (h : b = w.heap.size) : MapO (w.alloc (.map #[] 0)) b kd (fun _ => none) := by
 subst h; exact ⟨#[],0,heap_new w _,MapKept.stamped_empty 0,by simp,by simp⟩
def IterO (w : World) (r b : Nat) (kd : IntKind) (seen : Int → Bool) (last : Option Int) : Prop :=
 r ≠ b ∧ ∃ es clock since c0 arr,w.heap[r]? = some (.mapIter (some b) since arr c0) ∧ w.heap[b]? = some (.map es clock) ∧ since ≤ c0 ∧ since ≤ clock ∧ (∀ x ∈ es.toList,x.born < since) ∧ (∀ x ∈ es.toList,∀ n,x.key = .int kd n → arr.contains x.born = seen n) ∧ ∀ k,last = some k → c0 = clock ∧ ∃ (arr' : Array Nat) (e : MapEntry),arr = arr'.push e.born ∧ e ∈ es.toList ∧ e.key = .int kd k
theorem IterO.heap {w w' : World} {r b : Nat} {kd : IntKind} {seen : Int → Bool} {last : Option Int} (h : IterO w r b kd seen last) (h1 : w'.heap[r]? = w.heap[r]?) (h2 : w'.heap[b]? = w.heap[b]?) : IterO w' r b kd seen last := by
 obtain ⟨hne,es,c,s,c0,arr,q1,q2,q⟩ := h; exact ⟨hne,es,c,s,c0,arr,h1.trans q1,h2.trans q2,q⟩
theorem IterO.congr {w : World} {r b : Nat} {kd : IntKind} {seen seen' : Int → Bool} {last : Option Int} (h : IterO w r b kd seen last) (e : ∀ k,seen' k = seen k) : IterO w r b kd seen' last := by
 have : seen' = seen := funext e
 subst this; exact h
theorem isKey_int {kd : IntKind} {l : List MapEntry} (h : ∀ e ∈ l,∃ n,e.key = .int kd n) : ∀ e ∈ l,MapKept.IsKey (.int kd) e.key := fun e he => by
 obtain ⟨n,hn⟩ := h e he; rw [hn]; exact rfl
theorem find_erase (kd : IntKind) (k : Int) : ∀ (l : List MapEntry) (j : Nat) (e : MapEntry),l[j]? = some e → keyIs kd k e = true → l.Pairwise (fun x y => x.key ≠ y.key) → (∀ e ∈ l,∃ n,e.key = .int kd n) →
  ∀ k',(((l.eraseIdx j).find? (keyIs kd k')).map (·.val)) = if k' = k then none else ((l.find? (keyIs kd k')).map (·.val))
 | [],j,e,he,_,_,_,_ => by simp at he
 | x :: l,0,e,he,hk,hp,hkeys,k' => by
  simp at he; subst he
  obtain ⟨n,hn⟩ := hkeys x (by simp)
  have hnk : n = k := by simpa [keyIs,hn] using hk
  subst hnk
  by_cases h : k' = n
  ·subst h
   simp only [List.eraseIdx_zero,List.tail_cons,if_true]
   have : l.find? (keyIs kd k') = none := by
    rw [List.find?_eq_none]
    intro y hy hky
    obtain ⟨m,hm⟩ := hkeys y (by simp [hy])
    have : m = k' := by simpa [keyIs,hm] using hky
    subst this
    exact (List.pairwise_cons.1 hp).1 y hy (by rw [hn,hm])
   rw [this]; rfl
  ·have h2 : keyIs kd k' x = false := by simp [keyIs,hn]; omega
   simp [List.find?,h2,h]
 | x :: l,j + 1,e,he,hk,hp,hkeys,k' => by
  have ih := find_erase kd k l j e (by simpa using he) hk (List.pairwise_cons.1 hp).2 (fun y hy => hkeys y (by simp [hy])) k'
  simp only [List.eraseIdx_cons_succ]
  obtain ⟨n,hn⟩ := hkeys x (by simp)
  by_cases hx : keyIs kd k' x = true
  ·have hnk : n = k' := by simpa [keyIs,hn] using hx
   subst hnk
   have hne : n ≠ k := by
    intro h; subst h
    have hel : e ∈ l := List.mem_of_getElem? (by simpa using he)
    obtain ⟨m,hm⟩ := hkeys e (by simp [hel])
    have : m = n := by simpa [keyIs,hm] using hk
    subst this
    exact (List.pairwise_cons.1 hp).1 e hel (by rw [hn,hm])
   simp [List.find?,hx,hne]
  ·have hx : keyIs kd k' x = false := by simpa using hx
   simp [List.find?,hx,ih]
section
variable {P : Program} {T K E : TypeId} {kd : IntKind} {w : World} {b : Nat} {g : Int → Option Value}
theorem run_mapUpdate_mapO (hm : MapO w b kd g) (hT : P.underlying T = some (.map K E)) (hK : P.underlying K = some (.int kd)) (k : Int) (v : Value) :
  ∃ w',(Instr.mapUpdate T (.map (some b)) (.int kd k) v).run P w = .ok () w' ∧ MapO w' b kd (fun j => if j = k then some v else g j) ∧ w.grownBy w' (some b) := by
 obtain ⟨es0,c0,hb0,hst,hk0,hg0⟩ := hm
 obtain ⟨w',hrun,hm',hgr⟩ := run_mapUpdate_mapF ⟨es0,c0,hb0,hk0,hg0⟩ hT hK k v
 obtain ⟨es',c',hb',hk',hg'⟩ := hm'
 obtain ⟨es2,c2,hb2,hst2,_,_⟩ := MapKept.mapUpdate_keeps (d := .int kd) hT hK hb0 hst (isKey_int hk0) (show MapKept.IsKey (.int kd) (.int kd k) from rfl) hrun
 rw [hb'] at hb2; cases hb2
 exact ⟨w',hrun,⟨es',c',hb',hst2,hk',hg'⟩,hgr⟩
theorem run_delete_mapO (hm : MapO w b kd g) (hT : P.underlying T = some (.map K E)) (hK : P.underlying K = some (.int kd)) (k : Int) (ty : TypeId) :
  ∃ w',(Builtin.delete_ #[T,K] ty #[.map (some b),.int kd k]).run P w = .ok (.tuple #[]) w' ∧ MapO w' b kd (fun j => if j = k then none else g j) ∧ w.grownBy w' (some b) := by
 obtain ⟨es,c,hb,hst,hkeys,hg⟩ := hm
 obtain ⟨r,hr,hc⟩ := findNow_int kd k es.toList 0 hkeys
 have hck := run_checkKey_int (w := w) hK 9999 es.isEmpty k
 have hlt := lt_of_block hb
 have hset : ∀ o,({ w with heap := w.heap.setIfInBounds b o } : World).heap[b]? = some o := fun o => by simp [hlt]
 have hgr : ∀ o,w.grownBy { w with heap := w.heap.setIfInBounds b o } (some b) := fun o => ⟨rfl,rfl,rfl,by simp,fun i _ hi => by
  show (w.heap.setIfInBounds b o)[i]? = _
  rw [Array.getElem?_setIfInBounds,if_neg (by intro e; exact hi (by rw [e]))]⟩
 rcases hc with ⟨rfl,hf⟩ | ⟨j,e,rfl,he,hke,hf,hltj⟩
 ·refine ⟨{ w with heap := w.heap.setIfInBounds b (.map es c) },?_,⟨_,_,hset _,hst,hkeys,fun k' => ?_⟩,hgr _⟩
  ·simp [Builtin.delete_,run_underlying hT,run_underlying hK,MapKept.run_getObj_map hb,hck,Instr.findKey,hr,Result.andThen,MapKept.run_setObj_map _ hb]
  ·show _ = if k' = k then none else g k'
   by_cases h : k' = k
   ·subst h; rw [if_pos rfl,hf]; rfl
   ·rw [if_neg h]; exact hg k'
 ·have hjl : j < es.size := by
   have := (List.getElem?_eq_some_iff.1 he).1; simpa using this
  refine ⟨{ w with heap := w.heap.setIfInBounds b (.map (es.eraseIdxIfInBounds j) c) },?_,⟨_,_,hset _,MapKept.stamped_erase hst _,fun x hx => ?_,fun k' => ?_⟩,hgr _⟩
  ·simp [Builtin.delete_,run_underlying hT,run_underlying hK,MapKept.run_getObj_map hb,hck,Instr.findKey,hr,Result.andThen,MapKept.run_setObj_map _ hb]
  ·have hs : (es.eraseIdxIfInBounds j).toList.Sublist es.toList := by
    unfold Array.eraseIdxIfInBounds
    rw [dif_pos hjl,Array.toList_eraseIdx]; exact List.eraseIdx_sublist _ _
   exact hkeys x (hs.subset hx)
  ·have e1 : (es.eraseIdxIfInBounds j).toList = es.toList.eraseIdx j := by
    unfold Array.eraseIdxIfInBounds
    rw [dif_pos hjl]; simp
   rw [e1,find_erase kd k es.toList j e he hke ((MapKept.stamped_iff es c).1 hst).2.2 hkeys k',hg k']
theorem run_range_mapO (hm : MapO w b kd g) (hT : P.underlying T = some (.map K E)) :
  (Instr.range T (.map (some b))).run P w = .ok (.pointer (some ⟨w.heap.size,0,none⟩)) (w.alloc (.mapIter (some b) (hm.choose_spec.choose) #[] (hm.choose_spec.choose))) ∧
  IterO (w.alloc (.mapIter (some b) (hm.choose_spec.choose) #[] (hm.choose_spec.choose))) w.heap.size b kd (fun _ => false) none := by
 have hs := hm.choose_spec.choose_spec
 obtain ⟨hb,hst,hkeys,hg⟩ := hs
 have hlt := lt_of_block hb
 refine ⟨run_range_map w T K E b _ _ hT hb,by omega,hm.choose,hm.choose_spec.choose,hm.choose_spec.choose,hm.choose_spec.choose,#[],(MapKept.heap_alloc w _).1,((MapKept.heap_alloc w _).2 b hlt).trans hb,Nat.le_refl _,Nat.le_refl _,((MapKept.stamped_iff _ _).1 hst).1,fun x hx n hn => by simp,fun k hk => by cases hk⟩
theorem run_next_mapO {r : Nat} {seen : Int → Bool} {last : Option Int} (hm : MapO w b kd g) (hi : IterO w r b kd seen last) (ty : TypeId) :
  ((Instr.next (.pointer (some ⟨r,0,none⟩)) false ty).run P w = .ok (.tuple #[.bool false]) w ∧ ∀ k,(∃ v,g k = some v) → seen k = true) ∨
  ∃ k v w1,g k = some v ∧ seen k = false ∧ (Instr.next (.pointer (some ⟨r,0,none⟩)) false ty).run P w = .ok (.tuple #[.bool true,.int kd k,v]) w1 ∧ MapO w1 b kd g ∧
   IterO w1 r b kd (fun j => if j = k then true else seen j) (some k) ∧ w.grownBy w1 (some r) ∧ w1.heap.size = w.heap.size ∧ ∀ g',g' ≠ r → w1.heap[g']? = w.heap[g']? := by
 obtain ⟨es,clock,hb,hst,hkeys,hg⟩ := hm
 obtain ⟨hne,es',clock',since,c0,arr,hr,hb',h1,h2,hold,hseen,_⟩ := hi
 rw [hb] at hb'; cases hb'
 have hst' := (MapKept.stamped_iff es clock).1 hst
 have mem_g : ∀ x ∈ es.toList,∀ n,x.key = .int kd n → g n = some x.val := fun x hx n hn => by
  rw [← hg n]
  have : es.toList.find? (keyIs kd n) = some x := by
   cases hf : es.toList.find? (keyIs kd n) with
   | none => exact absurd (List.find?_eq_none.1 hf x hx) (by simp [keyIs,hn])
   | some y =>
    have hy := List.mem_of_find?_eq_some hf
    obtain ⟨m,hm⟩ := hkeys y hy
    have hky := List.find?_some hf
    have : m = n := by simpa [keyIs,hm] using hky
    subst this
    congr 1
    exact entry_eq_of_key hst'.2.2 hy hx (by rw [hm,hn])
  rw [this]; rfl
 rcases run_next_at (P := P) w ty r b since c0 arr es clock hr hb hold h1 with ⟨h0,hrun⟩ | ⟨e,he,w1,hal,hrun⟩
 ·refine .inl ⟨hrun,fun k hk => ?_⟩
  obtain ⟨v,hv⟩ := hk
  rw [← hg k] at hv
  cases hf : es.toList.find? (keyIs kd k) with
  | none => rw [hf] at hv; cases hv
  | some y =>
   have hy := List.mem_of_find?_eq_some hf
   obtain ⟨m,hm⟩ := hkeys y hy
   have hky := List.find?_some hf
   have : m = k := by simpa [keyIs,hm] using hky
   subst this
   rw [← hseen y hy m hm]; exact all_seen es arr h0 y hy
 ·obtain ⟨hem,hes⟩ := mem_left he
  obtain ⟨n,hn⟩ := hkeys e hem
  have hr1 : w1.heap[r]? = some (.mapIter (some b) since arr c0) := by rcases hal with rfl | rfl <;> exact hr
  have hb1 : w1.heap[b]? = some (.map es clock) := by rcases hal with rfl | rfl <;> exact hb
  have hset := MapKept.heap_set (o' := .mapIter (some b) since (arr.push e.born) clock) hr1
  have hoth : ∀ g',g' ≠ r → (ChangeMaps.setBlock w1 r (.mapIter (some b) since (arr.push e.born) clock)).heap[g']? = w.heap[g']? := fun g' hg' => (hset.2 g' hg').trans (by rcases hal with rfl | rfl <;> rfl)
  have hsz : (ChangeMaps.setBlock w1 r (.mapIter (some b) since (arr.push e.born) clock)).heap.size = w.heap.size := by rcases hal with rfl | rfl <;> simp [ChangeMaps.setBlock]
  refine .inr ⟨n,e.val,_,mem_g e hem n hn,by rw [← hseen e hem n hn]; exact hes,by rw [← hn]; exact hrun,⟨es,clock,(hoth b hne.symm).trans hb,hst,hkeys,hg⟩,⟨hne,es,clock,since,clock,arr.push e.born,hset.1,(hoth b hne.symm).trans hb,h2,h2,hold,fun x hx m hm => ?_,fun k hk => by cases hk; exact ⟨rfl,arr,e,rfl,hem,hn⟩⟩,?_,hsz,hoth⟩
  ·rw [contains_push,hseen x hx m hm]
   by_cases h : m = n
   ·subst h
    have : x = e := entry_eq_of_key hst'.2.2 hx hem (by rw [hm,hn])
    subst this; simp
   ·have : (x.born == e.born) = false := by
     cases hbe : (x.born == e.born)
     ·rfl
     ·have : x = e := born_inj hst'.2.1 hx hem (by simpa using hbe)
      subst this
      rw [hn] at hm; cases hm; exact absurd rfl h
    simp [this,h]
  ·rcases hal with rfl | rfl <;> exact ⟨rfl,rfl,rfl,by simp [ChangeMaps.setBlock],fun i _ hi => hset.2 i (fun e1 => hi (by rw [e1]))⟩
theorem run_entry_mapO {r : Nat} {seen : Int → Bool} {k : Int} (hm : MapO w b kd g) (hi : IterO w r b kd seen (some k)) :
  ∃ v,g k = some v ∧ (Instr.entry (.pointer (some ⟨r,0,none⟩))).run P w = .ok (.tuple #[.int kd k,v]) w := by
 obtain ⟨es,clock,hb,hst,hkeys,hg⟩ := hm
 obtain ⟨hne,es',clock',since,c0,arr,hr,hb',h1,h2,hold,hseen,hl⟩ := hi
 rw [hb] at hb'; cases hb'
 have hst' := (MapKept.stamped_iff es clock).1 hst
 obtain ⟨rfl,arr',e,rfl,he,hk⟩ := hl k rfl
 refine ⟨e.val,?_,?_⟩
 ·rw [← hg k]
  cases hf : es.toList.find? (keyIs kd k) with
  | none => exact absurd (List.find?_eq_none.1 hf e he) (by simp [keyIs,hk])
  | some y =>
   have hy := List.mem_of_find?_eq_some hf
   obtain ⟨m,hm⟩ := hkeys y hy
   have hky := List.find?_some hf
   have : m = k := by simpa [keyIs,hm] using hky
   subst this
   have : y = e := entry_eq_of_key hst'.2.2 hy he (by rw [hm,hk])
   rw [this]; rfl
 ·rw [← hk]; exact run_entry_at w r b since arr' es c0 e hr hb he hst'.2.1
theorem size_mapO (hm : MapO w b kd g) : ∃ es clock,w.heap[b]? = some (.map es clock) ∧ (es.size = 0 ↔ ∀ k,g k = none) := by
 obtain ⟨es,clock,hb,hst,hkeys,hg⟩ := hm
 refine ⟨es,clock,hb,fun h k => ?_,fun h => ?_⟩
 ·rw [← hg k]; have : es = #[] := Array.eq_empty_of_size_eq_zero h
  subst this; simp
 ·by_cases h0 : es.size = 0
  ·exact h0
  ·obtain ⟨e,he⟩ : ∃ e,e ∈ es.toList := by
    cases hl : es.toList with
    | nil => rw [← Array.length_toList,hl] at h0; exact absurd rfl h0
    | cons x l => exact ⟨x,by simp⟩
   obtain ⟨k,hk⟩ := hkeys e he
   have := h k
   rw [← hg k] at this
   cases hf : es.toList.find? (keyIs kd k) with
   | none => exact absurd (List.find?_eq_none.1 hf e he) (by simp [keyIs,hk])
   | some y => rw [hf] at this; cases this
end
end Go.Proofs.Ytlieoghhkioflaa
/- The engine,part 1: abstract values,boxes,and how they are held in a world. No condition. -/
namespace Go.Proofs.Ytlieoghhkioflaa
open Go Go.RowKit
inductive Bn where
 | n (b : Nat)
 | f (b : Nat) (z : Int)
 deriving DecidableEq,Inhabited
def Bn.id : Bn → Nat
 | .n b => b
 | .f b _ => b
instance : Coe Nat Bn := ⟨Bn.n⟩
inductive Val where
 | und
 | int (k : IntKind) (n : Int)
 | bool (b : Bool)
 | nils | nilp | nilf | nilm
 | view (k n : Nat) (cell : Nat → Nat → Val)
 | vptr (m : Nat) (cell : Nat → Val)
 | ptr (b : Bn) (off : Nat)
 | own (b : Bn)
 | rptr (b : Bn) (i off : Nat)
 | nil
 | cons (h t : Val)
 | agg (l : Val)
 | tup (l : Val)
 | func (fn : Fn) (l : Val)
 | mapb (b : Bn)
 | yld (b : Bn)
 | mview (kd : IntKind) (has : Int → Bool) (f : Int → Val)
 | strv (n : Nat) (f : Nat → Int)
 | tv (k n : Nat) (cell : Nat → Nat → Val)
 | osl (b : Bn) (off n : Nat)
 | ifc (T : TypeId) (k : IntKind) (n : Int)
 deriving Inhabited
inductive Opd where
 | t (n : Nat)
 | c (v : Val)
 | g (n : Nat)
inductive Sh where
 | int (k : IntKind)
 | bool
 | slc (k : Nat)
 | any
inductive AOp where
 | mv (x : Opd)
 | pick (c a b : Opd)
 | alloc (zero : Val)
 | box (n : Nat) (x : Opd)
 | build (zero : Val) (parts : List (Nat × Nat × Opd))
 | bsl (e : TypeId) (k len : Nat) (zero : Val) (parts : List (Nat × Opd))
 | load (agg : Bool) (shs : List Sh) (x : Opd)
 | store (n : Nat) (a x : Opd)
 | bin (op : BinOp) (x y : Opd)
 | binb (neg : Bool) (x y : Opd)
 | eqa (neg : Bool) (shs : List Sh) (x y : Opd)
 | un (op : UnOp) (x : Opd)
 | conv (k : IntKind) (x : Opd)
 | mkf (fn : Fn) (caps : List Opd)
 | fld (off : Nat) (x : Opd)
 | idx (k : Nat) (x i : Opd)
 | idxA (k len : Nat) (x i : Opd)
 | sl (k : Nat) (x : Opd) (lo hi : Option Opd)
 | ext (i : Nat) (x : Opd)
 | call (f : Opd) (args : List (List Sh × Opd))
 | len (x : Opd)
 | mm (mx : Bool) (x y : Opd)
 | app (e : TypeId) (k bytes : Nat) (x y : Opd)
 | nilc (x : Opd)
 | mks (e : TypeId) (k bytes : Nat) (zero : Val) (n c : Opd)
 | mkm (kd : IntKind)
 | mget (kd : IntKind) (ok : Bool) (zero : Val) (x k : Opd)
 | mset (kd : IntKind) (x k v : Opd)
 | mdel (kd : IntKind) (x k : Opd)
 | mlen (kd : IntKind) (x : Opd)
 | rngm (kd : IntKind) (x : Opd)
 | nxt (x : Opd)
 | ent (x : Opd)
 | fv (agg : Bool) (off n : Nat) (x : Opd)
 | mm3 (mx : Bool) (x y z : Opd)
 | isnil (neg : Bool) (x : Opd)
 | b2s (x : Opd)
 | seq (neg : Bool) (x y : Opd)
 | calle (f : Opd) (args : List (List Sh × Opd))
 | clip (k : Nat) (x hi mx : Opd)
 | clr (k : Nat) (zero : Val) (x : Opd)
 | mif (T : TypeId) (x : Opd)
 | pan (x : Opd)
structure AOper where
 dst : Option Nat
 op : AOp
 guard : Option (Nat × Bool)
 br : Bool
 re : List (Option Nat × AOp × Option (Nat × Bool))
inductive ACode where
 | skip
 | reg (d : Nat) (ops : List AOper)
 | seq (a b : ACode)
 | cond (c : Opd) (a b : ACode)
 | block (id : Nat) (a : ACode)
 | loop (a : ACode)
 | rng (f : Opd) (ps keep : List Nat) (a b : ACode)
 | exit (id : Nat)
 | scope (a : ACode)
 | ret
inductive Jmp where
 | ret
 | exit (id : Nat)
def Jmp.code : Jmp → Code
 | .ret => .ret
 | .exit id => .exit id
def Jmp.acode : Jmp → ACode
 | .ret => .ret
 | .exit id => .exit id
inductive Lst where
 | ready
 | busy
 | done (c : Jmp)
 | over
abbrev Fr := List (Nat × Val)
inductive Box where
 | cells (l : Val)
 | row (e : TypeId) (k n : Nat) (cell : Nat → Nat → Val)
 | mp (kd : IntKind) (has : Int → Bool) (f : Int → Val)
 | lp (g : Nat) (fr : Fr) (ps : List Nat) (ca cb : ACode) (st : Lst)
 | it (m : Option Bn) (kd : IntKind) (seen : Int → Bool) (last : Option Int)
 | rown (e : TypeId) (k n : Nat) (cell : Nat → Nat → Val)
 | mz (kd : IntKind) (f : Int → Val)
 | wc (g : Nat) (v : Val)
inductive Ent where
 | one (c : Box)
 | fam (d : Int → Bool) (r : Int → Box)
structure Loc where
 a : Option Nat
 n : Nat
 cap : Nat
def OslA (L : Loc) (a : Option Addr) (off n k cap : Nat) : Prop := (0 < n → ∃ g,L.a = some g ∧ a = some ⟨g,off * k,none⟩) ∧ (off = 0 → a = (L.a.map fun g => ⟨g,0,none⟩) ∧ cap = L.cap)
abbrev Bmap := Bn → Option Box
def rowK : Box → Option (TypeId × Nat × Nat)
 | .row e k n _ | .rown e k n _ => some (e,k,n)
 | _ => none
def mapK : Box → Option IntKind
 | .mp kd _ _ | .mz kd _ => some kd
 | _ => none
def RowB (B : Bmap) (b : Bn) (e : TypeId) (k n : Nat) : Prop := ∃ c,B b = some c ∧ rowK c = some (e,k,n)
def MapB (B : Bmap) (b : Bn) (kd : IntKind) : Prop := ∃ c,B b = some c ∧ mapK c = some kd
theorem RowB.cases {B : Bmap} {b : Bn} {e : TypeId} {k n : Nat} (h : RowB B b e k n) : (∃ c,B b = some (.row e k n c)) ∨ ∃ c,B b = some (.rown e k n c) := by
 obtain ⟨c,hc,hk⟩ := h
 cases c <;> simp [rowK] at hk
 ·obtain ⟨rfl,rfl,rfl⟩ := hk; exact .inl ⟨_,hc⟩
 ·obtain ⟨rfl,rfl,rfl⟩ := hk; exact .inr ⟨_,hc⟩
theorem MapB.cases {B : Bmap} {b : Bn} {kd : IntKind} (h : MapB B b kd) : (∃ has f,B b = some (.mp kd has f)) ∨ ∃ f,B b = some (.mz kd f) := by
 obtain ⟨c,hc,hk⟩ := h
 cases c <;> simp [mapK] at hk
 ·obtain rfl := hk; exact .inl ⟨_,_,hc⟩
 ·obtain rfl := hk; exact .inr ⟨_,hc⟩
def ptrB : Box → Bool
 | .cells _ | .it _ _ _ _ | .wc _ _ => true
 | _ => false
def RepP (w : World) (A : Nat → Prop) : Val → Value → Prop
 | .und,_ => True
 | .int k n,x => x = .int k n
 | .bool b,x => x = .bool b
 | .nils,x => x = .slice none 0 0
 | .nilp,x => x = .pointer none
 | .nilf,x => x = .nilFunc
 | .nilm,x => x = .map none
 | .view k n cell,x => ∃ a c,x = .slice a n c ∧ n ≤ maxLen ∧ n ≤ c ∧ (0 < n → ∃ g off,a = some ⟨g,off,none⟩ ∧ g < w.heap.size ∧ A g ∧ ∀ i,i < n → ∀ j,j < k → ∃ y,w.cell? ⟨g,off + i * k + j,none⟩ = some y ∧ y.oneCell' = true ∧ RepP w A (cell i j) y)
 | .vptr m cell,x => ∃ g off,x = .pointer (some ⟨g,off,none⟩) ∧ g < w.heap.size ∧ A g ∧ ∀ j,j < m → ∃ y,w.cell? ⟨g,off + j,none⟩ = some y ∧ RepP w A (cell j) y
 | .nil,x => x = .tuple #[]
 | .cons h t,x => ∃ y ys,x = .tuple ⟨y :: ys⟩ ∧ RepP w A h y ∧ RepP w A t (.tuple ⟨ys⟩)
 | .agg l,x => ∃ ys,x = .agg ⟨ys⟩ ∧ RepP w A l (.tuple ⟨ys⟩)
 | .tup l,x => ∃ ys,x = .tuple ⟨ys⟩ ∧ RepP w A l (.tuple ⟨ys⟩)
 | .func fn l,x => ∃ ys,x = .func fn #[] ⟨ys⟩ ∧ RepP w A l (.tuple ⟨ys⟩)
 | .mview kd has f,x => ∃ g h,x = .map (some g) ∧ g < w.heap.size ∧ A g ∧ MapF w g kd h ∧ ∀ k,(has k = false → h k = none) ∧ (has k = true → ∃ y,h k = some y ∧ RepP w A (f k) y)
 | .tv k n cell,x => ∃ a,x = .slice a n n ∧ n ≤ maxLen ∧ (0 < n → ∃ g off,a = some ⟨g,off,none⟩ ∧ g < w.heap.size ∧ A g ∧ ∀ i,i < n → ∀ j,j < k → ∃ y,w.cell? ⟨g,off + i * k + j,none⟩ = some y ∧ y.oneCell' = true ∧ RepP w A (cell i j) y)
 | .ifc T k n,x => x = .iface T (.int k n)
 | .strv n f,x => ∃ s : ByteArray,x = .string s ∧ s.data.toList.map (fun b => (b.toNat : Int)) = (List.range n).map f
 | _,_ => False
def Rep (w : World) (A : Nat → Prop) (B : Bmap) (β : Bn → Loc) : Val → Value → Prop
 | .ptr b off,x => (∃ l,B b = some l ∧ ptrB l = true) ∧ ∃ g,(β b).a = some g ∧ x = .pointer (some ⟨g,off,none⟩)
 | .own b,x => (∃ e k n,RowB B b e k n) ∧ x = .slice ((β b).a.map fun g => ⟨g,0,none⟩) (β b).n (β b).cap
 | .rptr b i off,x => ∃ e k n,RowB B b e k n ∧ i < n ∧ ∃ g,(β b).a = some g ∧ x = .pointer (some ⟨g,i * k + off,none⟩)
 | .nil,x => x = .tuple #[]
 | .cons h t,x => ∃ y ys,x = .tuple ⟨y :: ys⟩ ∧ Rep w A B β h y ∧ Rep w A B β t (.tuple ⟨ys⟩)
 | .agg l,x => ∃ ys,x = .agg ⟨ys⟩ ∧ Rep w A B β l (.tuple ⟨ys⟩)
 | .tup l,x => ∃ ys,x = .tuple ⟨ys⟩ ∧ Rep w A B β l (.tuple ⟨ys⟩)
 | .func fn l,x => ∃ ys,x = .func fn #[] ⟨ys⟩ ∧ Rep w A B β l (.tuple ⟨ys⟩)
 | .mapb b,x => (∃ kd,MapB B b kd) ∧ ∃ g,(β b).a = some g ∧ x = .map (some g)
 | .yld b,x => ∃ g fr ps ca cb st,B b = some (.lp g fr ps ca cb st) ∧ x = .func (.yield g) #[] #[]
 | .osl b off n,x => (∃ e k m,RowB B b e k m ∧ off + n ≤ m ∧ ∃ a cap,x = .slice a n cap ∧ n ≤ cap ∧ OslA (β b) a off n k cap)
 | .und,_ => True
 | v@(.tv ..),x | v@(.ifc ..),x | v@(.mview ..),x | v@(.int ..),x | v@(.bool ..),x | v@.nils,x | v@.nilp,x | v@.nilf,x | v@.nilm,x | v@(.view ..),x | v@(.vptr ..),x | v@(.strv ..),x => RepP w A v x
def Kin : Box → Box → Prop
 | .cells _,.cells _ => True
 | .row _ k n _,.row _ k' n' _ => k = k' ∧ n = n'
 | .rown _ k n _,.rown _ k' n' _ => k = k' ∧ n = n'
 | .mp kd _ _,.mp kd' _ _ | .mp kd _ _,.mz kd' _ | .mz kd _,.mz kd' _ => kd = kd'
 | .lp g _ ps ca cb _,.lp g' _ ps' ca' cb' _ => g = g' ∧ ps = ps' ∧ ca = ca' ∧ cb = cb'
 | .it _ kd _ _,.it _ kd' _ _ => kd = kd'
 | .wc g _,.wc g' _ => g = g'
 | _,_ => False
theorem Kin.ptrB {c c' : Box} (h : Kin c c') (hp : ptrB c = true) : ptrB c' = true := by
 cases c <;> cases c' <;> simp_all [Kin,Proofs.Ytlieoghhkioflaa.ptrB]
theorem Kin.row {c c' : Box} (h : Kin c c') {e : TypeId} {k n : Nat} (hr : rowK c = some (e,k,n)) : ∃ e',rowK c' = some (e',k,n) := by
 cases c <;> cases c' <;> simp_all [Kin,rowK]
theorem Kin.map {c c' : Box} (h : Kin c c') {kd : IntKind} (hr : mapK c = some kd) : mapK c' = some kd := by
 cases c <;> cases c' <;> simp_all [Kin,mapK]
theorem Kin.refl (c : Box) : Kin c c := by cases c <;> simp [Kin]
theorem cell_heap {w w' : World} {g : Nat} (h : w'.heap[g]? = w.heap[g]?) (o : Nat) : w'.cell? ⟨g,o,none⟩ = w.cell? ⟨g,o,none⟩ := World.cell?_of_block (w := w) h
theorem MapF.heap {w w' : World} {b : Nat} {kd : IntKind} {g : Int → Option Value} (h : MapF w b kd g) (hh : w'.heap[b]? = w.heap[b]?) : MapF w' b kd g := by
 obtain ⟨es,c,h1,h2⟩ := h; exact ⟨es,c,hh.trans h1,h2⟩
theorem RepP.mono {w w' : World} {A A' : Nat → Prop} (hs : w.heap.size ≤ w'.heap.size) (hb : ∀ g,g < w.heap.size → A g → A' g ∧ w'.heap[g]? = w.heap[g]?) :
  ∀ (v : Val) (x : Value),RepP w A v x → RepP w' A' v x := by
 intro v
 induction v with
 | view k n cell ih =>
  rintro x ⟨a,c,rfl,hn,hnc,h⟩
  refine ⟨a,c,rfl,hn,hnc,fun h0 => ?_⟩
  obtain ⟨g,off,rfl,hg,hA,hc⟩ := h h0
  obtain ⟨hA',hh⟩ := hb g hg hA
  refine ⟨g,off,rfl,by omega,hA',fun i hi j hj => ?_⟩
  obtain ⟨y,hy,ho,hr⟩ := hc i hi j hj
  exact ⟨y,by rw [cell_heap hh]; exact hy,ho,ih i j y hr⟩
 | tv k n cell ih =>
  rintro x ⟨a,rfl,hn,h⟩
  refine ⟨a,rfl,hn,fun h0 => ?_⟩
  obtain ⟨g,off,rfl,hg,hA,hc⟩ := h h0
  obtain ⟨hA',hh⟩ := hb g hg hA
  refine ⟨g,off,rfl,by omega,hA',fun i hi j hj => ?_⟩
  obtain ⟨y,hy,ho,hr⟩ := hc i hi j hj
  exact ⟨y,by rw [cell_heap hh]; exact hy,ho,ih i j y hr⟩
 | vptr m cell ih =>
  rintro x ⟨g,off,rfl,hg,hA,hc⟩
  obtain ⟨hA',hh⟩ := hb g hg hA
  refine ⟨g,off,rfl,by omega,hA',fun j hj => ?_⟩
  obtain ⟨y,hy,hr⟩ := hc j hj
  exact ⟨y,by rw [cell_heap hh]; exact hy,ih j y hr⟩
 | cons h t ih1 ih2 => rintro x ⟨y,ys,rfl,h1,h2⟩; exact ⟨y,ys,rfl,ih1 y h1,ih2 _ h2⟩
 | agg l ih => rintro x ⟨ys,rfl,h⟩; exact ⟨ys,rfl,ih _ h⟩
 | tup l ih => rintro x ⟨ys,rfl,h⟩; exact ⟨ys,rfl,ih _ h⟩
 | func fn l ih => rintro x ⟨ys,rfl,h⟩; exact ⟨ys,rfl,ih _ h⟩
 | mview kd has f ih =>
  rintro x ⟨g,h,rfl,hg,hA,hm,hc⟩
  obtain ⟨hA',hh⟩ := hb g hg hA
  refine ⟨g,h,rfl,by omega,hA',hm.heap hh,fun k => ⟨(hc k).1,fun hk => ?_⟩⟩
  obtain ⟨y,hy,hr⟩ := (hc k).2 hk
  exact ⟨y,hy,ih k y hr⟩
 | _ => intro x h; exact h
theorem RepP.rep {w : World} {A : Nat → Prop} {B : Bmap} {β : Bn → Loc} : ∀ (v : Val) (x : Value),RepP w A v x → Rep w A B β v x := by
 intro v
 induction v with
 | cons h t ih1 ih2 => rintro x ⟨y,ys,rfl,h1,h2⟩; exact ⟨y,ys,rfl,ih1 y h1,ih2 _ h2⟩
 | agg l ih => rintro x ⟨ys,rfl,h⟩; exact ⟨ys,rfl,ih _ h⟩
 | tup l ih => rintro x ⟨ys,rfl,h⟩; exact ⟨ys,rfl,ih _ h⟩
 | func fn l ih => rintro x ⟨ys,rfl,h⟩; exact ⟨ys,rfl,ih _ h⟩
 | ptr b off => intro x h; exact h.elim
 | own b => intro x h; exact h.elim
 | rptr b i off => intro x h; exact h.elim
 | mapb b => intro x h; exact h.elim
 | yld b => intro x h; exact h.elim
 | osl b off n => intro x h; exact h.elim
 | _ => intro x h; exact h
theorem Rep.mono {w w' : World} {A A' : Nat → Prop} {B B' : Bmap} {β β' : Bn → Loc} (hs : w.heap.size ≤ w'.heap.size)
  (hb : ∀ g,g < w.heap.size → A g → A' g ∧ w'.heap[g]? = w.heap[g]?) (hx : ∀ b c,B b = some c → ∃ c',B' b = some c' ∧ Kin c c' ∧ β' b = β b) :
  ∀ (v : Val) (x : Value),Rep w A B β v x → Rep w' A' B' β' v x := by
 intro v
 induction v with
 | cons h t ih1 ih2 => rintro x ⟨y,ys,rfl,h1,h2⟩; exact ⟨y,ys,rfl,ih1 y h1,ih2 _ h2⟩
 | agg l ih => rintro x ⟨ys,rfl,h⟩; exact ⟨ys,rfl,ih _ h⟩
 | tup l ih => rintro x ⟨ys,rfl,h⟩; exact ⟨ys,rfl,ih _ h⟩
 | func fn l ih => rintro x ⟨ys,rfl,h⟩; exact ⟨ys,rfl,ih _ h⟩
 | ptr b off =>
  rintro x ⟨⟨l,hB,hp⟩,g,hg,rfl⟩
  obtain ⟨c',hc,hk,hβ⟩ := hx b _ hB
  exact ⟨⟨c',hc,hk.ptrB hp⟩,g,by rw [hβ]; exact hg,rfl⟩
 | mapb b =>
  rintro x ⟨⟨kd,c,hB,hk0⟩,g,hg,rfl⟩
  obtain ⟨c',hc,hk,hβ⟩ := hx b _ hB
  exact ⟨⟨kd,c',hc,hk.map hk0⟩,g,by rw [hβ]; exact hg,rfl⟩
 | own b =>
  rintro x ⟨⟨e,k,n,c,hB,hk0⟩,rfl⟩
  obtain ⟨c',hc,hk,hβ⟩ := hx b _ hB
  obtain ⟨e',he⟩ := hk.row hk0
  exact ⟨⟨e',k,n,c',hc,he⟩,by rw [hβ]⟩
 | rptr b i off =>
  rintro x ⟨e,k,n,⟨c,hB,hk0⟩,hi,g,hg,rfl⟩
  obtain ⟨c',hc,hk,hβ⟩ := hx b _ hB
  obtain ⟨e',he⟩ := hk.row hk0
  exact ⟨e',k,n,⟨c',hc,he⟩,hi,g,by rw [hβ]; exact hg,rfl⟩
 | osl b off n =>
  rintro x ⟨e,k,m,⟨c,hB,hk0⟩,hm,a,cap,rfl,hcap,ha⟩
  obtain ⟨c',hc,hk,hβ⟩ := hx b _ hB
  obtain ⟨e',he⟩ := hk.row hk0
  exact ⟨e',k,m,⟨c',hc,he⟩,hm,a,cap,rfl,hcap,by rw [hβ]; exact ha⟩
 | yld b =>
  rintro x ⟨g,fr,ps,ca,cb,st,hB,rfl⟩
  obtain ⟨c',hc,hk,hβ⟩ := hx b _ hB
  cases c' with
  | lp g' fr' ps' ca' cb' st' => obtain ⟨rfl,_⟩ := hk; exact ⟨g,fr',ps',ca',cb',st',hc,rfl⟩
  | _ => simp [Kin] at hk
 | nil => intro x h; exact h
 | und => intro x h; exact h
 | _ => intro x h; exact RepP.mono hs hb _ x h
def vl : List Val → Val
 | [] => .nil
 | v :: l => .cons v (vl l)
def vget : Val → Nat → Val
 | .cons h _,0 => h
 | .cons _ t,n + 1 => vget t n
 | _,_ => .und
def vset : Val → Nat → Val → Val
 | .cons _ t,0,v => .cons v t
 | .cons h t,n + 1,v => .cons h (vset t n v)
 | l,_,_ => l
def vlen : Val → Nat
 | .cons _ t => vlen t + 1
 | _ => 0
def vsets : Val → Nat → Val → Val
 | l,off,.cons v t => vsets (vset l off v) (off + 1) t
 | l,_,_ => l
def vapp : Val → Val → Val
 | .cons h t,r => .cons h (vapp t r)
 | _,r => r
def vtab (f : Nat → Val) : Nat → Nat → Val
 | _,0 => .nil
 | j,n + 1 => .cons (f j) (vtab f (j + 1) n)
section
variable {w : World} {A : Nat → Prop} {B : Bmap} {β : Bn → Loc}
def isL : Val → Prop
 | .nil => True
 | .cons _ t => isL t
 | _ => False
theorem Rep.gets : ∀ (l : Val) (ys : List Value),Rep w A B β l (.tuple ⟨ys⟩) → isL l → vlen l = ys.length ∧ ∀ j,j < ys.length → Rep w A B β (vget l j) (ys.getD j undef) := by
 intro l
 induction l with
 | nil =>
  intro ys h _
  have : ys = [] := by simpa [Rep] using h
  subst this
  simp [vlen]
 | cons h t ih1 ih2 =>
  rintro ys ⟨y,zs,he,h1,h2⟩ hl
  have : ys = y :: zs := by simpa using he
  subst this
  obtain ⟨e1,e2⟩ := ih2 zs h2 hl
  refine ⟨by simp [vlen,e1],fun j hj => ?_⟩
  cases j with
  | zero => simpa [vget] using h1
  | succ j => simpa [vget] using e2 j (by simpa using hj)
 | _ => intro ys h hl; exact hl.elim
theorem Rep.get1 {l : Val} {ys : List Value} (h : Rep w A B β l (.tuple ⟨ys⟩)) (j : Nat) (hj : j < vlen l) : ∃ y,ys[j]? = some y ∧ Rep w A B β (vget l j) y := by
 induction l generalizing ys j with
 | cons a t ih1 ih2 =>
  obtain ⟨y,zs,he,h1,h2⟩ := h
  have : ys = y :: zs := by simpa using he
  subst this
  cases j with
  | zero => exact ⟨y,rfl,h1⟩
  | succ j =>
   obtain ⟨y',e,hr⟩ := ih2 h2 j (by simpa [vlen] using hj)
   exact ⟨y',by simpa using e,hr⟩
 | _ => simp [vlen] at hj
theorem Rep.len {l : Val} {ys : List Value} (h : Rep w A B β l (.tuple ⟨ys⟩)) (hl : isL l) : ys.length = vlen l := (Rep.gets l ys h hl).1.symm
theorem Rep.tab (f : Nat → Val) : ∀ (n j : Nat) (ys : List Value),ys.length = n → (∀ i,i < n → Rep w A B β (f (j + i)) (ys.getD i undef)) → Rep w A B β (vtab f j n) (.tuple ⟨ys⟩) := by
 intro n
 induction n with
 | zero => intro j ys hl _; have : ys = [] := List.eq_nil_of_length_eq_zero hl; subst this; simp [vtab,Rep]
 | succ n ih =>
  intro j ys hl h
  cases ys with
  | nil => simp at hl
  | cons y zs =>
   refine ⟨y,zs,rfl,by simpa using h 0 (by omega),ih (j + 1) zs (by simpa using hl) fun i hi => ?_⟩
   have := h (i + 1) (by omega)
   rw [show j + 1 + i = j + (i + 1) from by omega]; simpa using this
theorem RepP.tab (f : Nat → Val) : ∀ (n j : Nat) (ys : List Value),ys.length = n → (∀ i,i < n → RepP w A (f (j + i)) (ys.getD i undef)) → RepP w A (vtab f j n) (.tuple ⟨ys⟩) := by
 intro n
 induction n with
 | zero => intro j ys hl _; have : ys = [] := List.eq_nil_of_length_eq_zero hl; subst this; simp [vtab,RepP]
 | succ n ih =>
  intro j ys hl h
  cases ys with
  | nil => simp at hl
  | cons y zs =>
   refine ⟨y,zs,rfl,by simpa using h 0 (by omega),ih (j + 1) zs (by simpa using hl) fun i hi => ?_⟩
   have := h (i + 1) (by omega)
   rw [show j + 1 + i = j + (i + 1) from by omega]; simpa using this
theorem vlen_tab (f : Nat → Val) : ∀ (n j : Nat),vlen (vtab f j n) = n := by
 intro n; induction n with
 | zero => intro j; rfl
 | succ n ih => intro j; simp [vtab,vlen,ih]
theorem Rep.set1 {l : Val} {ys : List Value} (h : Rep w A B β l (.tuple ⟨ys⟩)) {v : Val} {y : Value} (hv : Rep w A B β v y) (j : Nat) (hj : j < vlen l) : Rep w A B β (vset l j v) (.tuple ⟨ys.set j y⟩) := by
 induction l generalizing ys j with
 | cons a t ih1 ih2 =>
  obtain ⟨z,zs,he,h1,h2⟩ := h
  have : ys = z :: zs := by simpa using he
  subst this
  cases j with
  | zero => exact ⟨y,zs,rfl,hv,h2⟩
  | succ j => exact ⟨z,_,rfl,h1,ih2 h2 j (by simpa [vlen] using hj)⟩
 | _ => simp [vlen] at hj
theorem vlen_vset (l : Val) (j : Nat) (v : Val) : vlen (vset l j v) = vlen l := by
 induction l generalizing j with
 | cons h t ih1 ih2 => cases j <;> simp [vset,vlen,ih2]
 | _ => simp [vset]
theorem isL_vset (l : Val) (j : Nat) (v : Val) (h : isL l) : isL (vset l j v) := by
 induction l generalizing j with
 | cons h' t ih1 ih2 =>
  cases j with
  | zero => exact h
  | succ j => exact ih2 j h
 | _ => cases j <;> exact h
theorem Rep.app {l r : Val} {ys zs : List Value} (h : Rep w A B β l (.tuple ⟨ys⟩)) (hl : isL l) (h' : Rep w A B β r (.tuple ⟨zs⟩)) : Rep w A B β (vapp l r) (.tuple ⟨ys ++ zs⟩) := by
 induction l generalizing ys with
 | nil =>
  have : ys = [] := by simpa [Rep] using h
  subst this
  exact h'
 | cons a t ih1 ih2 =>
  obtain ⟨z,us,he,h1,h2⟩ := h
  have : ys = z :: us := by simpa using he
  subst this
  exact ⟨z,_,rfl,h1,ih2 h2 hl⟩
 | _ => exact hl.elim
end
end Go.Proofs.Ytlieoghhkioflaa
/- The engine,part 2: compiled code,what an operation gives,and the run of code on abstract states. No condition. -/
namespace Go.Proofs.Ytlieoghhkioflaa
open Go Go.RowKit
inductive ARes where
 | t (n : Nat)
 | cell (n : Nat) (agg : Bool) (shs : List Sh)
structure AFun where
 code : ACode
 res : List ARes
abbrev Bx := List (Nat × Ent)
def fget : Fr → Nat → Val
 | [],_ => .und
 | (t,v) :: l,s => if t = s then v else fget l s
def bget : Bx → Bn → Option Box
 | [],_ => none
 | (t,.one c) :: l,.n b => if t = b then some c else bget l (.n b)
 | (_,.fam _ _) :: l,.n b => bget l (.n b)
 | (_,.one _) :: l,.f b z => bget l (.f b z)
 | (t,.fam d r) :: l,.f b z => if t = b ∧ d z = true then some (r z) else bget l (.f b z)
def bset : Bx → Bn → Box → Bx
 | [],.n b,c => [(b,.one c)]
 | [],.f b z,c => [(b,.fam (fun j => decide (j = z)) fun _ => c)]
 | (t,.one c') :: l,.n b,c => if t = b then (b,.one c) :: l else (t,.one c') :: bset l (.n b) c
 | (t,.fam d r) :: l,.n b,c => (t,.fam d r) :: bset l (.n b) c
 | (t,.one c') :: l,.f b z,c => (t,.one c') :: bset l (.f b z) c
 | (t,.fam d r) :: l,.f b z,c => if t = b then (b,.fam (fun j => if j = z then true else d j) fun j => if j = z then c else r j) :: l else (t,.fam d r) :: bset l (.f b z) c
def bdel : Bx → Bn → Bx
 | [],_ => []
 | (t,.one c) :: l,.n b => if t = b then bdel l (.n b) else (t,.one c) :: bdel l (.n b)
 | (t,.fam d r) :: l,.n b => (t,.fam d r) :: bdel l (.n b)
 | (t,.one c) :: l,.f b z => (t,.one c) :: bdel l (.f b z)
 | (t,.fam d r) :: l,.f b z => (if t = b then (t,.fam (fun j => if j = z then false else d j) r) else (t,.fam d r)) :: bdel l (.f b z)
def fput (fr : Fr) (d : Option Nat) (v : Val) : Fr := match d with | some t => (t,v) :: fr | none => fr
def Val.toInt : Val → Int
 | .int _ n => n
 | _ => 0
def Val.toBool : Val → Bool
 | .bool b => b
 | _ => false
def Val.slen : Val → Nat
 | .view _ n _ => n
 | _ => 0
def Val.scell : Val → Nat → Nat → Val
 | .view _ _ c => c
 | _ => fun _ _ => .und
def cast1 : Sh → Val → Val
 | .int k,v => .int k v.toInt
 | .bool,v => .bool v.toBool
 | .slc k,v => .view k v.slen v.scell
 | .any,v => v
def castOk : Sh → Val → Prop
 | .int k,v => v = .int k v.toInt
 | .bool,v => v = .bool v.toBool
 | .slc k,v => v = .nils ∨ v = .view k v.slen v.scell
 | .any,_ => True
def casts : List Sh → (Nat → Val) → Nat → Val
 | [],_,_ => .nil
 | s :: l,f,j => .cons (cast1 s (f j)) (casts l f (j + 1))
def castOks : List Sh → (Nat → Val) → Nat → Prop
 | [],_,_ => True
 | s :: l,f,j => castOk s (f j) ∧ castOks l f (j + 1)
def mkv (agg : Bool) (l : Val) : Val := match agg with | true => .agg l | false => vget l 0
def norm1 : Sh → Val → Val
 | .slc k,.nils => .view k 0 fun _ _ => .und
 | _,v => v
def norms : List Sh → Val → Val
 | s :: l,.cons h t => .cons (norm1 s h) (norms l t)
 | _,v => v
def norm : List Sh → Val → Val
 | shs,.agg l => .agg (norms shs l)
 | [s],v => norm1 s v
 | _,v => v
def cellsOf : Val → Val
 | .agg l => l
 | v => .cons v .nil
def isLB : Val → Bool
 | .nil => true
 | .cons _ t => isLB t
 | _ => false
def cellsN (n : Nat) : Val → Prop
 | .agg l => isLB l = true ∧ vlen l = n
 | .und | .tup _ | .cons _ _ | .nil => False
 | _ => n = 1
def pureB : Val → Bool
 | .own _ | .ptr _ _ | .rptr _ _ _ | .mapb _ | .yld _ | .osl _ _ _ => false
 | .cons h t => pureB h && pureB t
 | .agg l | .tup l | .func _ l => pureB l
 | _ => true
def flatB : Val → Bool
 | .own _ | .ptr _ _ | .rptr _ _ _ | .view _ _ _ | .vptr _ _ | .func _ _ | .mapb _ | .yld _ | .mview _ _ _ | .osl _ _ _ | .tv _ _ _ => false
 | .cons h t => flatB h && flatB t
 | .agg l | .tup l => flatB l
 | _ => true
def flatO (own : Option TypeId) (v : Val) : Bool := match own with
 | none => flatB v
 | some _ => true
def onesB : Val → Bool
 | .cons h t => (match h with | .und | .agg _ | .tup _ | .cons _ _ | .nil => false | _ => true) && onesB t
 | _ => true
def pickV : Bool → Val → Val → Val
 | true,a,_ => a
 | false,_,b => b
def snapV (bx : Bx) : Nat → Val → Val
 | 0,.own _ => .und
 | 0,.ptr _ _ => .und
 | 0,.rptr _ _ _ => .und
 | 0,.mapb _ => .und
 | 0,.yld _ => .und
 | 0,.osl _ _ _ => .und
 | d + 1,.own b => match bget bx b with | some (.row _ k n c) => .view k n c | some (.rown _ k n c) => .view k n fun i j => pickV (decide (i < n ∧ j < k)) (snapV bx d (c i j)) .und | _ => .own b
 | d + 1,.ptr b off => match bget bx b with | some (.cells l) => .vptr (vlen l - off) fun j => vget (snapV bx d l) (off + j) | _ => .ptr b off
 | _ + 1,.osl b off n => match bget bx b with | some (.row _ k _ c) => .view k n fun i j => c (off + i) j | _ => .osl b off n
 | d + 1,.rptr b i off => match bget bx b with | some (.row _ k n c) => .vptr (k - off) fun j => c i (off + j) | _ => .rptr b i off
 | d + 1,.mapb b => match bget bx b with | some (.mp kd has f) => .mview kd has fun k => pickV (has k) (snapV bx d (f k)) .und | some (.mz _ _) => .und | _ => .mapb b
 | d,.cons h t => .cons (snapV bx d h) (snapV bx d t)
 | d,.agg l => .agg (snapV bx d l)
 | d,.tup l => .tup (snapV bx d l)
 | d,.func fn l => .func fn (snapV bx d l)
 | _,v => v
noncomputable def snapOk (bx : Bx) : Nat → Val → Bool
 | 0,_ => true
 | d + 1,.own b => match bget bx b with | some (.row _ _ _ _) => true | some (.rown _ k n c) => @decide (∀ i,i < n → ∀ j,j < k → snapOk bx d (c i j) = true) (Classical.propDecidable _) | _ => false
 | d + 1,.ptr b _ => match bget bx b with | some (.cells l) => snapOk bx d l | _ => false
 | _ + 1,.rptr b _ _ => match bget bx b with | some (.row _ _ _ _) => true | _ => false
 | d + 1,.mapb b => match bget bx b with | some (.mp _ has f) => @decide (∀ k,has k = true → snapOk bx d (f k) = true) (Classical.propDecidable _) | some (.mz _ _) => true | _ => false
 | d + 1,.cons h t => snapOk bx (d + 1) h && snapOk bx (d + 1) t
 | _ + 1,.yld _ => false
 | _ + 1,.osl b _ _ => match bget bx b with | some (.row _ _ _ _) => true | _ => false
 | d + 1,.agg l => snapOk bx (d + 1) l
 | d + 1,.tup l => snapOk bx (d + 1) l
 | d + 1,.func _ l => snapOk bx (d + 1) l
 | _ + 1,_ => true
def ptrV : Val → Nat → Val
 | .vptr m c,o => .vptr (m - o) fun j => c (o + j)
 | _,_ => .und
def subV (b : Bn) (r : Val) : Val → Val
 | .own b' => if b' = b then r else .own b'
 | .ptr b' o => if b' = b then ptrV r o else .ptr b' o
 | .rptr b' i o => if b' = b then .und else .rptr b' i o
 | .osl b' o n => if b' = b then .und else .osl b' o n
 | .mapb b' => if b' = b then .und else .mapb b'
 | .yld b' => if b' = b then .und else .yld b'
 | .cons h t => .cons (subV b r h) (subV b r t)
 | .agg l => .agg (subV b r l)
 | .tup l => .tup (subV b r l)
 | .func fn l => .func fn (subV b r l)
 | v => v
def subFr (b : Bn) (r : Val) : Fr → Fr
 | [] => []
 | (t,v) :: l => (t,subV b r v) :: subFr b r l
def subBox (b : Bn) (r : Val) : Box → Box
 | .cells l => .cells (subV b r l)
 | .mp kd has f => .mp kd has fun k => subV b r (f k)
 | .mz kd f => .mz kd fun k => subV b r (f k)
 | .rown e k n c => .rown e k n fun i j => subV b r (c i j)
 | .lp g fr ps ca cb st => .lp g (subFr b r fr) ps ca cb st
 | .it mb kd seen last => .it (if mb = some b then none else mb) kd seen last
 | .row e k n c => .row e k n c
 | .wc g v => .wc g (subV b r v)
def subBx (b : Bn) (r : Val) : Bx → Bx
 | [] => []
 | (t,.one c) :: m => (t,.one (subBox b r c)) :: subBx b r m
 | (t,.fam d q) :: m => (t,.fam d fun z => subBox b r (q z)) :: subBx b r m
structure Spec where
 pre : List Val → Prop
 res : List Val → Val
 own : Option TypeId
structure AR where
 pre : Prop
 v : Val
 new : Option Box
abbrev bad : AR := ⟨False,.und,none⟩
abbrev ok1 (v : Val) : AR := ⟨True,v,none⟩
structure Env where
 G : Nat → Option (Nat × (Nat → Val))
 S : FuncId → Option Spec
 I : FuncId → Option AFun
 X : FuncId → Option (Nat × Spec)
 N : TypeId → Bool
 C : FuncId → Option (TypeId × IntKind)
 Z : FuncId → Bool
def ev (E : Env) (fr : Fr) : Opd → Val
 | .t n => fget fr n
 | .c v => v
 | .g n => match E.G n with | some (m,c) => .vptr m c | none => .und
def evs (E : Env) (fr : Fr) : List Opd → Val
 | [] => .nil
 | x :: l => .cons (ev E fr x) (evs E fr l)
def fillV (E : Env) (fr : Fr) : Val → List (Nat × Nat × Opd) → Val
 | z,[] => z
 | z,(off,_,x) :: l => fillV E fr (vsets z off (cellsOf (ev E fr x))) l
def fillOk (E : Env) (fr : Fr) (len : Nat) : List (Nat × Nat × Opd) → Prop
 | [] => True
 | (off,n,x) :: l => cellsN n (ev E fr x) ∧ off + n ≤ len ∧ fillOk E fr len l
def rowsV (E : Env) (fr : Fr) : Val → List (Nat × Opd) → Val
 | z,[] => z
 | z,(i,x) :: l => rowsV E fr (vset z i (cellsOf (ev E fr x))) l
def rowsOk (E : Env) (fr : Fr) (k len : Nat) : List (Nat × Opd) → Prop
 | [] => True
 | (i,x) :: l => cellsN k (ev E fr x) ∧ pureB (ev E fr x) = true ∧ onesB (cellsOf (ev E fr x)) = true ∧ i < len ∧ rowsOk E fr k len l
def rowsOkN (E : Env) (fr : Fr) (k len : Nat) : List (Nat × Opd) → Prop
 | [] => True
 | (i,x) :: l => cellsN k (ev E fr x) ∧ onesB (cellsOf (ev E fr x)) = true ∧ i < len ∧ rowsOkN E fr k len l
def hasNil : Val → Bool
 | .cons .nils _ => true
 | .cons _ t => hasNil t
 | _ => false
def vrep (z : Val) : Nat → Val
 | 0 => .nil
 | n + 1 => .cons z (vrep z n)
def sliceV : Val → Nat → Nat → Val
 | l,off,n => vtab (fun j => vget l (off + j)) 0 n
def eqCells : List Sh → Val → Val → Bool
 | .int _ :: s,.cons a l,.cons b m => a.toInt == b.toInt && eqCells s l m
 | .bool :: s,.cons a l,.cons b m => a.toBool == b.toBool && eqCells s l m
 | _,_,_ => true
def eqOk : List Sh → Val → Prop
 | [],.nil => True
 | .int k :: s,.cons a l => castOk (.int k) a ∧ eqOk s l
 | .bool :: s,.cons a l => castOk .bool a ∧ eqOk s l
 | _,_ => False
def binV (op : BinOp) (k : IntKind) (a b : Int) : AR :=
 match op with
 | .add => ok1 (.int k (k.wrap (a + b)))
 | .sub => ok1 (.int k (k.wrap (a - b)))
 | .mul => ok1 (.int k (k.wrap (a * b)))
 | .quo => ⟨b ≠ 0,.int k (k.wrap (a.tdiv b)),none⟩
 | .rem => ⟨b ≠ 0,.int k (a.tmod b),none⟩
 | .eql => ok1 (.bool (a == b))
 | .neq => ok1 (.bool (a != b))
 | .lss => ok1 (.bool (decide (a < b)))
 | .leq => ok1 (.bool (decide (a ≤ b)))
 | .gtr => ok1 (.bool (decide (a > b)))
 | .geq => ok1 (.bool (decide (a ≥ b)))
 | .and => ok1 (.int k (bits .and k a b))
 | .or => ok1 (.int k (bits .or k a b))
 | .xor => ok1 (.int k (bits .xor k a b))
 | .shl => ⟨0 ≤ b ∧ b ≤ k.bits,.int k (k.wrap (a * 2 ^ b.toNat)),none⟩
 | .shr => ⟨0 ≤ b ∧ b ≤ k.bits,.int k (a / 2 ^ b.toNat),none⟩
 | _ => bad
def optInt (E : Env) (fr : Fr) (d : Int) : Option Opd → Option Int
 | none => some d
 | some x => match ev E fr x with | .int _ z => some z | _ => none
def lenV (bx : Bx) : Val → AR
 | .view _ n _ => ok1 (.int .i64 n)
 | .nils => ok1 (.int .i64 0)
 | .own b => match bget bx b with | some (.row _ _ n _) | some (.rown _ _ n _) => ok1 (.int .i64 n) | _ => bad
 | .osl _ _ n => ok1 (.int .i64 n)
 | .tv _ n _ => ok1 (.int .i64 n)
 | _ => bad
def argsL (E : Env) (fr : Fr) : List (List Sh × Opd) → List Val
 | [] => []
 | (_,x) :: l => ev E fr x :: argsL E fr l
def capsL : Val → List Val
 | .cons h t => h :: capsL t
 | _ => []
def snapL (bx : Bx) : List Val → List Val
 | [] => []
 | v :: l => snapV bx 40 v :: snapL bx l
noncomputable def snapOks (bx : Bx) : List Val → Bool
 | [] => true
 | v :: l => snapOk bx 40 v && snapOks bx l
def normL : List (List Sh × Opd) → List Val → List Val
 | (s,_) :: a,v :: l => norm s v :: normL a l
 | _,l => l
def pureL : List Val → Bool
 | [] => true
 | v :: l => pureB v && pureL l
noncomputable def specV (bx : Bx) (s : Spec) (args : List (List Sh × Opd)) (vs : List Val) : AR :=
 match pureL vs with
 | true => ⟨s.pre (normL args vs),s.res (normL args vs),none⟩
 | false => ⟨snapOks bx vs = true ∧ s.pre (normL args (snapL bx vs)) ∧ flatO s.own (s.res (normL args (snapL bx vs))) = true,s.res (normL args (snapL bx vs)),none⟩
def mgetV (ok has : Bool) (v z : Val) : Val := match ok with
 | true => .tup (.cons (pickV has v z) (.cons (.bool has) .nil))
 | false => pickV has v z
noncomputable def strEq (n : Nat) (f : Nat → Int) (m : Nat) (g : Nat → Int) : Bool := @decide (n = m ∧ ∀ i,i < n → f i = g i) (Classical.propDecidable _)
noncomputable def aop (E : Env) (fr : Fr) (bx : Bx) (nx : Nat) : AOp → AR
 | .mv x => ok1 (ev E fr x)
 | .pick c a b => match ev E fr c with | .bool t => ok1 (pickV t (ev E fr a) (ev E fr b)) | _ => bad
 | .alloc z => ⟨isLB z = true,.ptr nx 0,some (.cells z)⟩
 | .box n x => ⟨cellsN n (ev E fr x),.ptr nx 0,some (.cells (cellsOf (ev E fr x)))⟩
 | .build z parts => ⟨isLB z = true ∧ fillOk E fr (vlen z) parts,.agg (fillV E fr z parts),none⟩
 | .bsl e k len z parts => match E.N e with
  | true => ⟨isLB z = true ∧ pureB z = true ∧ onesB z = true ∧ vlen z = k ∧ 0 < k ∧ rowsOkN E fr k len parts ∧ hasNil z = true,.own nx,some (.rown e k len fun i j => vget (vget (rowsV E fr (vrep z len) parts) i) j)⟩
  | false => ⟨isLB z = true ∧ pureB z = true ∧ onesB z = true ∧ vlen z = k ∧ 0 < k ∧ rowsOk E fr k len parts,.own nx,some (.row e k len fun i j => vget (vget (rowsV E fr (vrep z len) parts) i) j)⟩
 | .load agg shs x => match ev E fr x with
  | .ptr b off => match bget bx b with
   | some (.cells l) => ⟨off + shs.length ≤ vlen l,mkv agg (sliceV l off shs.length),none⟩
   | _ => bad
  | .vptr m c => ⟨shs.length ≤ m ∧ castOks shs c 0,mkv agg (casts shs c 0),none⟩
  | .rptr b i off => match bget bx b with
   | some (.row _ k _ c) => ⟨off + shs.length ≤ k ∧ castOks shs (fun j => c i (off + j)) 0,mkv agg (casts shs (fun j => c i (off + j)) 0),none⟩
   | some (.rown _ k _ c) => ⟨off + shs.length ≤ k,mkv agg (vtab (fun j => c i (off + j)) 0 shs.length),none⟩
   | _ => bad
  | _ => bad
 | .bin op x y => match ev E fr x,ev E fr y with
  | .int k a,.int k' b => match binV op k a b with | ⟨p,v,n⟩ => ⟨k = k' ∧ p,v,n⟩
  | _,_ => bad
 | .binb neg x y => match ev E fr x,ev E fr y with
  | .bool a,.bool b => ok1 (.bool (match neg with | true => a != b | false => a == b))
  | _,_ => bad
 | .eqa neg shs x y => match ev E fr x,ev E fr y with
  | .agg l,.agg m => ⟨eqOk shs l ∧ eqOk shs m,.bool (match neg with | true => !eqCells shs l m | false => eqCells shs l m),none⟩
  | _,_ => bad
 | .un op x => match op,ev E fr x with
  | .neg,.int k a => ok1 (.int k (k.wrap (0 - a)))
  | .not,.bool b => ok1 (.bool !b)
  | _,_ => bad
 | .conv k x => match ev E fr x with | .int _ n => ok1 (.int k (k.wrap n)) | _ => bad
 | .mkf fn caps => ok1 (.func fn (evs E fr caps))
 | .fld off x => match ev E fr x with
  | .ptr b o => ok1 (.ptr b (o + off))
  | .vptr m c => ok1 (.vptr (m - off) fun j => c (off + j))
  | .rptr b i o => ok1 (.rptr b i (o + off))
  | _ => bad
 | .idx k x i => match ev E fr x,ev E fr i with
  | .view k' n c,.int _ z => ⟨k = k' ∧ 0 ≤ z ∧ z < n,.vptr k (c z.toNat),none⟩
  | .own b,.int _ z => match bget bx b with
   | some (.row _ k' n _) | some (.rown _ k' n _) => ⟨k = k' ∧ 0 ≤ z ∧ z < n,.rptr b z.toNat 0,none⟩
   | _ => bad
  | .osl b off m,.int _ z => match bget bx b with
   | some (.row _ k' _ _) | some (.rown _ k' _ _) => ⟨k = k' ∧ 0 ≤ z ∧ z < m,.rptr b (off + z.toNat) 0,none⟩
   | _ => bad
  | _,_ => bad
 | .idxA k len x i => match ev E fr x,ev E fr i with
  | .ptr b o,.int _ z => ⟨0 ≤ z ∧ z < len,.ptr b (o + z.toNat * k),none⟩
  | .vptr m c,.int _ z => ⟨0 ≤ z ∧ z < len,.vptr (m - z.toNat * k) fun j => c (z.toNat * k + j),none⟩
  | .rptr b i' o,.int _ z => ⟨0 ≤ z ∧ z < len,.rptr b i' (o + z.toNat * k),none⟩
  | _,_ => bad
 | .sl k x lo hi => match ev E fr x with
  | .view k' n c => match optInt E fr 0 lo,optInt E fr n hi with
   | some l,some h => ⟨k = k' ∧ 0 ≤ l ∧ l ≤ h ∧ h ≤ n,.view k (h - l).toNat fun i => c (l.toNat + i),none⟩
   | _,_ => bad
  | .own b => match bget bx b with
   | some (.row _ k' n _) | some (.rown _ k' n _) => match optInt E fr 0 lo,optInt E fr n hi with
    | some l,some h => ⟨k = k' ∧ 0 ≤ l ∧ l ≤ h ∧ h ≤ n,.osl b l.toNat (h - l).toNat,none⟩
    | _,_ => bad
   | _ => bad
  | .osl b off n => match bget bx b with
   | some (.row _ k' _ _) | some (.rown _ k' _ _) => match optInt E fr 0 lo,optInt E fr n hi with
    | some l,some h => ⟨k = k' ∧ 0 ≤ l ∧ l ≤ h ∧ h ≤ n,.osl b (off + l.toNat) (h - l).toNat,none⟩
    | _,_ => bad
   | _ => bad
  | _ => bad
 | .clip k x hi mx => match ev E fr x,ev E fr hi,ev E fr mx with
  | .view k' n c,.int _ h,.int _ m => ⟨k = k' ∧ h = m ∧ 0 ≤ h ∧ h ≤ n,.tv k h.toNat c,none⟩
  | .nils,.int _ h,.int _ m => ⟨h = 0 ∧ m = 0,.nils,none⟩
  | _,_,_ => bad
 | .mif T x => match ev E fr x with | .int k n => ok1 (.ifc T k n) | _ => bad
 | .ext i x => match ev E fr x with | .tup l => ⟨i < vlen l,vget l i,none⟩ | _ => bad
 | .call f args => match ev E fr f with
  | .func (.func id) caps => match E.S id with
   | some s => match specV bx s args (argsL E fr args ++ capsL caps) with | ⟨p,v,n⟩ => ⟨isLB caps = true ∧ p,v,n⟩
   | none => bad
  | _ => bad
 | .len x => lenV bx (ev E fr x)
 | .mm mx x y => match ev E fr x,ev E fr y with
  | .int k a,.int k' b => ⟨k = k',.int k (match mx with | true => max a b | false => min a b),none⟩
  | _,_ => bad
 | .nilc x => match ev E fr x with
  | .ptr b o => ok1 (.ptr b o)
  | .vptr m c => ok1 (.vptr m c)
  | .rptr b i o => ok1 (.rptr b i o)
  | _ => bad
 | .mks e k bytes z n c => match ev E fr n,ev E fr c with
  | .int _ a,.int _ b => ⟨isLB z = true ∧ pureB z = true ∧ onesB z = true ∧ vlen z = k ∧ 0 < k ∧ a = b ∧ 0 ≤ a ∧ a ≤ 4611686018427387904 ∧ a * bytes ≤ 140737488355328,.own nx,some (.row e k a.toNat fun _ j => vget z j)⟩
  | _,_ => bad
 | .mkm kd => ⟨True,.mapb nx,some (.mp kd (fun _ => false) fun _ => .und)⟩
 | .mget kd ok z x k => match ev E fr x,ev E fr k with
  | .mview kd' has f,.int kk n => ⟨kd' = kd ∧ kk = kd,mgetV ok (has n) (f n) z,none⟩
  | .mapb b,.int kk n => match bget bx b with
   | some (.mp kd' has f) => ⟨kd' = kd ∧ kk = kd,mgetV ok (has n) (f n) z,none⟩
   | some (.mz kd' f) => ⟨kd' = kd ∧ kk = kd ∧ ok = false ∧ z = .nils,f n,none⟩
   | _ => bad
  | _,_ => bad
 | .fv agg off n x => match ev E fr x with
  | .agg l => ⟨off + n ≤ vlen l,mkv agg (sliceV l off n),none⟩
  | _ => bad
 | .mm3 mx x y z => match ev E fr x,ev E fr y,ev E fr z with
  | .int k a,.int k' b,.int k'' c => ⟨k = k' ∧ k = k'',.int k (match mx with | true => max (max a b) c | false => min (min a b) c),none⟩
  | _,_,_ => bad
 | .b2s x => match ev E fr x with
  | .view k n c => ⟨k = 1 ∧ ∀ i,i < n → c i 0 = .int .u8 (c i 0).toInt ∧ 0 ≤ (c i 0).toInt ∧ (c i 0).toInt ≤ 255,.strv n fun i => (c i 0).toInt,none⟩
  | .nils => ok1 (.strv 0 fun _ => 0)
  | _ => bad
 | .seq neg x y => match ev E fr x,ev E fr y with
  | .strv n f,.strv m g => ok1 (.bool (match neg with | true => !strEq n f m g | false => strEq n f m g))
  | _,_ => bad
 | .mset _ _ _ _ => bad
 | .isnil _ _ => bad
 | .mdel _ _ _ => bad
 | .mlen _ _ => bad
 | .nxt _ => bad
 | .rngm _ _ => bad
 | .ent _ => bad
 | .store _ _ _ => bad
 | .app _ _ _ _ _ => bad
 | .calle _ _ => bad
 | .clr _ _ _ => bad
 | .pan _ => bad
def addB (nx : Nat) : Option Box → Bx → Bx
 | none,bx => bx
 | some c,bx => (nx,.one c) :: bx
def addN (nx : Nat) : Option Box → Nat
 | none => nx
 | some _ => nx + 1
end Go.Proofs.Ytlieoghhkioflaa
/- The engine,part 3: the run of compiled code on abstract states. No condition. -/
namespace Go.Proofs.Ytlieoghhkioflaa
open Go Go.RowKit
def WfT : Val → Prop
 | .view _ n _ => n ≤ maxLen
 | .cons h t => WfT h ∧ WfT t
 | .agg l | .tup l => WfT l
 | _ => True
inductive Item where
 | code (c : ACode)
 | ops (d : Nat) (l : List AOper)
 | blk (id : Nat)
 | inv (J : List Fr → Fr → Bx → Prop)
 | lend (b : Bn) (g : Nat)
 | rbeg (b : Bn) (g : Nat)
 | rend (b : Bn) (g : Nat)
 | ctch (b : Bn) (g : Nat) (T : TypeId) (k : IntKind)
structure SFrame where
 d : Option Nat
 K : List Item
 res : List ARes
 fr : Fr
 nx : Nat
def popTo (id : Nat) : List Item → Option (List Item)
 | [] => none
 | .rbeg _ _ :: _ => none
 | .blk i :: K => if i = id then some K else popTo id K
 | _ :: K => popTo id K
def ends : List Item → Option (Bn × Nat)
 | [] => none
 | .rend b g :: _ => some (b,g)
 | .code _ :: K | .ops _ _ :: K | .blk _ :: K | .inv _ :: K | .lend _ _ :: K | .rbeg _ _ :: K | .ctch _ _ _ _ :: K => ends K
def asgB : List Item → Bool
 | [] => false
 | .rbeg _ _ :: _ => true
 | .code _ :: K | .ops _ _ :: K | .blk _ :: K | .inv _ :: K | .lend _ _ :: K | .rend _ _ :: K | .ctch _ _ _ _ :: K => asgB K
def keepS (ks : List Nat) (fr : Fr) : Fr := ks.map fun t => (t,fget fr t)
def putL : Fr → List Nat → List Val → Fr
 | fr,t :: ts,v :: vs => putL ((t,v) :: fr) ts vs
 | fr,_,_ => fr
def subStk (b : Bn) (r : Val) : List SFrame → List SFrame
 | [] => []
 | f :: l => { f with fr := subFr b r f.fr } :: subStk b r l
def owns : Val → List Bn
 | .own b => [b]
 | .cons h t => owns h ++ owns t
 | .agg l | .tup l | .func _ l => owns l
 | _ => []
def res1 (fr : Fr) (bx : Bx) : ARes → AR
 | .t n => ok1 (fget fr n)
 | .cell n agg shs => match fget fr n with
  | .ptr b off => match bget bx b with
   | some (.cells l) => ⟨off + shs.length ≤ vlen l,mkv agg (sliceV l off shs.length),none⟩
   | some (.wc _ v) => ⟨off = 0 ∧ shs.length = 1 ∧ agg = false,v,none⟩
   | _ => bad
  | _ => bad
def resL (fr : Fr) (bx : Bx) : List ARes → Prop × Val
 | [] => (True,.nil)
 | r :: l => match res1 fr bx r,resL fr bx l with | ⟨p,v,_⟩,(q,t) => (p ∧ q,.cons v t)
def resV (fr : Fr) (bx : Bx) : List ARes → Prop × Val
 | [r] => match res1 fr bx r with | ⟨p,v,_⟩ => (p,v)
 | l => match resL fr bx l with | (p,t) => (p,.tup t)
def elemsV (bx : Bx) : Val → Option (Option Nat × Nat × (Nat → Nat → Val))
 | .view k n c => some (some k,n,c)
 | .nils => some (none,0,fun _ _ => .und)
 | .own b => match bget bx b with | some (.row _ k n c) => some (some k,n,c) | _ => none
 | .osl b off n => match bget bx b with | some (.row _ k _ c) => some (some k,n,fun i j => c (off + i) j) | _ => none
 | .tv k n c => some (some k,n,c)
 | _ => none
def params : Nat → List Val → Fr
 | _,[] => []
 | t,v :: l => (t,v) :: params (t + 1) l
def vsubP : Val → Val → Prop
 | .und,_ => True
 | .cons h t,v => ∃ h' t',v = .cons h' t' ∧ vsubP h h' ∧ vsubP t t'
 | .agg l,v => ∃ l',v = .agg l' ∧ vsubP l l'
 | .tup l,v => ∃ l',v = .tup l' ∧ vsubP l l'
 | .func fn l,v => ∃ l',v = .func fn l' ∧ vsubP l l'
 | .view k n c,v => (v = .nils ∧ n = 0) ∨ ∃ c',v = .view k n c' ∧ ∀ i,i < n → ∀ j,j < k → vsubP (c i j) (c' i j)
 | .vptr m c,v => ∃ c',v = .vptr m c' ∧ ∀ j,j < m → vsubP (c j) (c' j)
 | .mview kd has f,v => ∃ has' f',v = .mview kd has' f' ∧ ∀ k,has' k = has k ∧ (has k = true → vsubP (f k) (f' k))
 | u,v => v = u
def vsub (N D : Bn → Prop) : Val → Val → Prop
 | .und,_ => True
 | .own b,v => (v = .own b ∧ D b) ∨ (v = .nils ∧ N b)
 | .ptr b off,v => v = .ptr b off ∧ D b
 | .rptr b i off,v => v = .rptr b i off ∧ D b
 | .mapb b,v => v = .mapb b ∧ D b
 | .yld b,v => v = .yld b ∧ D b
 | .osl b off n,v => v = .osl b off n ∧ D b
 | .cons h t,v => ∃ h' t',v = .cons h' t' ∧ vsub N D h h' ∧ vsub N D t t'
 | .agg l,v => ∃ l',v = .agg l' ∧ vsub N D l l'
 | .tup l,v => ∃ l',v = .tup l' ∧ vsub N D l l'
 | .func fn l,v => ∃ l',v = .func fn l' ∧ vsub N D l l'
 | .view k n c,v => (v = .nils ∧ n = 0) ∨ ∃ c',v = .view k n c' ∧ ∀ i,i < n → ∀ j,j < k → vsubP (c i j) (c' i j)
 | .vptr m c,v => ∃ c',v = .vptr m c' ∧ ∀ j,j < m → vsubP (c j) (c' j)
 | .mview kd has f,v => ∃ has' f',v = .mview kd has' f' ∧ ∀ k,has' k = has k ∧ (has k = true → vsubP (f k) (f' k))
 | u,v => v = u
def chkFr (N D : Bn → Prop) (fr : Fr) : Fr → Prop
 | [] => True
 | (t,v) :: l => vsub N D v (fget fr t) ∧ chkFr N D fr l
def chkBx1 (N D : Bn → Prop) : Option Box → Box → Prop
 | some (.cells l),.cells l' => isLB l' = true ∧ vsub N D l' l
 | some (.row e k n c),.row e' k' n' c' => e = e' ∧ k = k' ∧ n = n' ∧ ∀ i,i < n → ∀ j,j < k → vsubP (c' i j) (c i j)
 | some (.mp kd has f),.mp kd' has' f' => kd = kd' ∧ ∀ k,has' k = has k ∧ (has k = true → vsub N D (f' k) (f k))
 | some (.lp g fr ps ca cb st),.lp g' fr' ps' ca' cb' st' => g = g' ∧ ps = ps' ∧ ca = ca' ∧ cb = cb' ∧ st = st' ∧ chkFr N D fr fr'
 | some (.it mb kd seen last),.it mb' kd' seen' last' => kd = kd' ∧ match mb' with
  | none => True
  | some b => mb = some b ∧ D b ∧ last' = last ∧ ∀ k,seen' k = seen k
 | some (.rown e k n c),.rown e' k' n' c' => e = e' ∧ k = k' ∧ n = n' ∧ ∀ i,i < n → ∀ j,j < k → vsub N D (c' i j) (c i j)
 | some (.mp kd has f),.mz kd' f' => kd = kd' ∧ ∀ k,vsub N D (f' k) (pickV (has k) (f k) .nils)
 | some (.mz kd f),.mz kd' f' => kd = kd' ∧ ∀ k,vsub N D (f' k) (f k)
 | some (.wc g v),.wc g' v' => g = g' ∧ vsub N D v' v
 | none,.row _ k n _ | none,.rown _ k n _ => n = 0 ∧ 0 < k
 | _,_ => False
def chkFam (N D : Bn → Prop) (bx : Bx) (b : Nat) (d : Int → Bool) (r : Int → Box) : Prop := ∀ z,d z = true → chkBx1 N D (bget bx (.f b z)) (r z)
def chkBx (N D : Bn → Prop) (bx : Bx) : Bx → Prop
 | [] => True
 | (b,.one c) :: l => chkBx1 N D (bget bx (.n b)) c ∧ chkBx N D bx l
 | (b,.fam d r) :: l => chkFam N D bx b d r ∧ chkBx N D bx l
def hasB (bx : Bx) (b : Bn) : Prop := ∃ c,bget bx b = some c
def newIn (bx bx' : Bx) (b : Bn) : Prop := bget bx b = none ∧ ∃ c,bget bx' b = some c
def idsLt (nx : Nat) : Bx → Prop
 | [] => True
 | (b,_) :: l => b < nx ∧ idsLt nx l
def kept (nx : Nat) (bx' : Bx) : Bx → Prop
 | [] => True
 | (b,.one _) :: l => (b < nx → ∃ c,bget bx' (.n b) = some c) ∧ kept nx bx' l
 | (b,.fam d _) :: l => (b < nx → ∀ z,d z = true → ∃ c,bget bx' (.f b z) = some c) ∧ kept nx bx' l
def Chk (fr : Fr) (bx : Bx) (fr' : Fr) (bx' : Bx) (nx nx' : Nat) : Prop :=
 chkFr (newIn bx bx') (hasB bx') fr fr' ∧ chkBx (newIn bx bx') (hasB bx') bx bx' ∧ idsLt nx' bx' ∧ kept nx bx' bx
def stkFr : List SFrame → List Fr
 | [] => []
 | f :: l => f.fr :: stkFr l
def noIt1 (b : Bn) : Box → Prop
 | .it (some mb) _ _ _ => mb ≠ b
 | _ => True
def noIt (b : Bn) : Bx → Prop
 | [] => True
 | (_,.one c) :: l => noIt1 b c ∧ noIt b l
 | (_,.fam d r) :: l => (∀ z,d z = true → noIt1 b (r z)) ∧ noIt b l
def eatAt : Nat → List Val → Option (List Val × Bn × List Val)
 | 0,.own b :: l => some ([],b,l)
 | z + 1,v :: l => match eatAt z l with | some (p,b,q) => some (v :: p,b,q) | none => none
 | _,_ => none
noncomputable def eatR (bx : Bx) (s : Spec) (pz : Nat) (args : List (List Sh × Opd)) (vs : List Val) (caps : Val) (R RI : Bn → TypeId → Nat → Nat → (Nat → Nat → Val) → Prop) : Prop :=
 match caps,eatAt pz vs with
 | .nil,some (p,b,q) => match bget bx b with
  | some (.row e0 k n c) => snapOks (bdel bx b) (p ++ q) = true ∧ s.pre (normL args (snapL (bdel bx b) p ++ .view k n c :: snapL (bdel bx b) q)) ∧ match s.own,s.res (normL args (snapL (bdel bx b) p ++ .view k n c :: snapL (bdel bx b) q)) with
   | some e,.view k' m c' => e0 = e ∧ R b e k' m c'
   | none,.view k' m c' => pureL (p ++ q) = true ∧ k' = k ∧ m = n ∧ RI b e0 k n c'
   | _,_ => False
  | _ => False
 | _,_ => False
variable (E : Env) (Q : Val → Bx → Prop)
def frz : List Bn → Fr × Bx × List SFrame → Option (Fr × Bx × List SFrame)
 | [],s => some s
 | b :: l,(fr,bx,stk) => match bget bx b with
  | some (.row _ k n c) => frz l (subFr b (.view k n c) fr,subBx b (.view k n c) (bdel bx b),subStk b (.view k n c) stk)
  | some (.cells c) => match pureB c with
   | true => frz l (subFr b (.vptr (vlen c) (vget c)) fr,subBx b (.vptr (vlen c) (vget c)) (bdel bx b),subStk b (.vptr (vlen c) (vget c)) stk)
   | false => none
  | none => frz l (fr,bx,stk)
  | _ => none
def names (bx : Bx) : Nat → Val → List Bn
 | 0,_ => []
 | _ + 1,.own b => [b]
 | d + 1,.ptr b _ => (match bget bx b with | some (.cells l) => names bx d l | _ => []) ++ [b]
 | d + 1,.cons h t => names bx (d + 1) h ++ names bx (d + 1) t
 | d + 1,.agg l => names bx (d + 1) l
 | d + 1,.tup l => names bx (d + 1) l
 | d + 1,.func _ l => names bx (d + 1) l
 | _,_ => []
def namesL (bx : Bx) (d : Nat) : List Val → List Bn
 | [] => []
 | v :: l => names bx d v ++ namesL bx d l
def ownsL : List Val → List Bn
 | [] => []
 | v :: l => owns v ++ ownsL l
noncomputable def callFz (bx : Bx) (s : Spec) (args : List (List Sh × Opd)) (vs : List Val) : Bool := match pureL vs with
 | true => false
 | false => !flatO s.own (s.res (normL args (snapL bx vs)))
noncomputable def opOwns (fr : Fr) (bx : Bx) : AOp → List Bn
 | .bsl e _ _ _ parts => match E.N e with
  | true => []
  | false => parts.flatMap fun p => owns (ev E fr p.2)
 | .store _ a x => match ev E fr a with
  | .rptr _ _ _ => owns (ev E fr x)
  | _ => []
 | .call f args => match ev E fr f with
  | .func (.func id) caps => match E.S id with
   | some s => match callFz bx s args (argsL E fr args ++ capsL caps) with
    | true => ownsL (argsL E fr args)
    | false => []
   | none => match E.Z id with
    | true => ownsL (argsL E fr args)
    | false => []
  | _ => []
 | .calle f args => match ev E fr f with
  | .func (.func id) caps => match E.S id with
   | some s => match callFz bx s args (argsL E fr args ++ capsL caps) with
    | true => ownsL (argsL E fr args)
    | false => []
   | none => match E.X id with
    | some (pz,s) => match s.own with
     | none => match eatAt pz (argsL E fr args) with
      | some (p,_,q) => namesL bx 3 (p ++ q)
      | none => []
     | some _ => []
    | none => []
  | _ => []
 | _ => []
noncomputable def preFz (fr : Fr) (bx : Bx) (stk : List SFrame) : Nat → AOp → Option (Fr × Bx × List SFrame)
 | 0,op => frz (opOwns E fr bx op) (fr,bx,stk)
 | _ + 1,_ => some (fr,bx,stk)
def skipOp (fr : Fr) : Option (Nat × Bool) → Option Bool
 | none => some false
 | some (t,w) => match fget fr t with | .bool b => some (b != w) | .tup .nil => some true | _ => none
def stkNx : List SFrame → List Nat
 | [] => []
 | f :: l => f.nx :: stkNx l
def renV (b y : Bn) : Val → Val
 | .own b' => .own (if b' = b then y else b')
 | .ptr b' o => .ptr (if b' = b then y else b') o
 | .rptr b' i o => .rptr (if b' = b then y else b') i o
 | .mapb b' => .mapb (if b' = b then y else b')
 | .yld b' => .yld (if b' = b then y else b')
 | .osl b' o n => .osl (if b' = b then y else b') o n
 | .cons h t => .cons (renV b y h) (renV b y t)
 | .agg l => .agg (renV b y l)
 | .tup l => .tup (renV b y l)
 | .func fn l => .func fn (renV b y l)
 | v => v
def renFr (b y : Bn) : Fr → Fr
 | [] => []
 | (t,v) :: l => (t,renV b y v) :: renFr b y l
def renBox (b y : Bn) : Box → Box
 | .cells l => .cells (renV b y l)
 | .mp kd has f => .mp kd has fun k => renV b y (f k)
 | .mz kd f => .mz kd fun k => renV b y (f k)
 | .rown e k n c => .rown e k n fun i j => renV b y (c i j)
 | .lp g fr ps ca cb st => .lp g (renFr b y fr) ps ca cb st
 | .it mb kd seen last => .it (mb.map fun b' => if b' = b then y else b') kd seen last
 | .row e k n c => .row e k n c
 | .wc g v => .wc g (renV b y v)
def renBx (b y : Bn) : Bx → Bx
 | [] => []
 | (t,.one c) :: m => (t,.one (renBox b y c)) :: renBx b y m
 | (t,.fam d q) :: m => (t,.fam d fun z => renBox b y (q z)) :: renBx b y m
def rens : List (Bn × Bn) → Fr × Bx → Option (Fr × Bx)
 | [],s => some s
 | (b,y) :: l,(fr,bx) => match bget bx b,bget bx y with
  | some c,none => rens l (renFr b y fr,bset (renBx b y (bdel bx b)) y (renBox b y c))
  | _,_ => none
def ChkF (ns : List Nat) (fr : Fr) (bx : Bx) (fr' : Fr) (bx' : Bx) (nx nx' : Nat) : Prop :=
 ∃ l la,(∀ b ∈ l,∀ n ∈ ns,n ≤ b.id) ∧ (∀ p ∈ la,∀ n ∈ ns,n ≤ p.1.id) ∧ ∃ fr2 bx2,frz l (fr,bx,[]) = some (fr2,bx2,[]) ∧ ∃ fr3 bx3,rens la (fr2,bx2) = some (fr3,bx3) ∧ Chk fr3 bx3 fr' bx' nx nx'
def renSt : Option (Bn × Bn) → Fr × Bx → Fr × Bx
 | none,s => s
 | some (b,y),(fr,bx) => match bget bx b with
  | some c => (renFr b y fr,bset (renBx b y (bdel bx b)) y (renBox b y c))
  | none => (fr,bx)
def renOk (bx0 bx1 : Bx) : Option (Bn × Bn) → Prop
 | none => True
 | some (b,y) => bget bx0 b = none ∧ bget bx0 y = none ∧ (∃ c,bget bx1 b = some c) ∧ bget bx1 y = none
def ChkG (bx0 : Bx) (nx0 : Nat) (fr1 : Fr) (bx1 : Bx) (fr' : Fr) (bx' : Bx) (nx' : Nat) : Prop :=
 ∃ ren : Option (Bn × Bn),renOk bx0 bx1 ren ∧ nx0 ≤ nx' ∧
  chkFr (newIn (renSt ren (fr1,bx1)).2 bx') (hasB bx') (renSt ren (fr1,bx1)).1 fr' ∧
  (∀ b c',bget bx' b = some c' → (bget bx0 b = some c' ∧ bget bx1 b = some c') ∨ chkBx1 (newIn (renSt ren (fr1,bx1)).2 bx') (hasB bx') (bget (renSt ren (fr1,bx1)).2 b) c') ∧
  (∀ b c',bget bx' b = some c' → (∃ c,bget bx0 b = some c) ∨ b.id < nx') ∧
  ∀ b c0 c1,bget bx0 b = some c0 → bget bx1 b = some c1 → ∃ c',bget bx' b = some c' ∧ Kin c1 c'
def ChkL (ns : List Nat) (bx0 : Bx) (fr1 : Fr) (bx1 : Bx) (fr' : Fr) (bx' : Bx) (nx nx' : Nat) : Prop :=
 ChkF ns fr1 bx1 fr' bx' nx nx' ∨ ChkG bx0 nx fr1 bx1 fr' bx' nx'
def LoopP (R : List Item → List SFrame → List ARes → Fr → Bx → Nat → Prop) (c : ACode) (K : List Item) (stk : List SFrame) (res : List ARes) (fr : Fr) (bx : Bx) (nx : Nat) : Prop :=
  ∃ d : Nat,∃ T : Nat → Fr → Bx → Prop,(∃ m fr' bx',T m fr' bx' ∧ ChkL (stkNx stk) bx fr bx fr' bx' nx (nx + d)) ∧
   ∀ m fr' bx',T m fr' bx' → R (.code c :: .inv (fun s fr1 bx1 => s = stkFr stk ∧ ∃ m',m' < m ∧ ∃ fr'' bx'',T m' fr'' bx'' ∧ ChkL (stkNx stk) bx fr1 bx1 fr'' bx'' nx (nx + d)) :: K) stk res fr' bx' (nx + d)
def dstV (fr : Fr) : Option Nat → Val → Prop
 | none,_ => True
 | some t,v => v = fget fr t
noncomputable def reOk (fr : Fr) (bx : Bx) : List (Option Nat × AOp × Option (Nat × Bool)) → Prop
 | [] => True
 | (d,op,g) :: l => (match skipOp fr g with
  | some true => True
  | some false => (aop E fr bx 0 op).pre ∧ dstV fr d (aop E fr bx 0 op).v
  | none => False) ∧ reOk fr bx l
def RoundP (R : List Item → List SFrame → List ARes → Fr → Bx → Nat → Prop) (b : Bn) (g : Nat) (st : Lst) (v : Bool) (stk : List SFrame) (bx : Bx) (nx : Nat) : Prop := match bget bx b with
 | some (.lp g' fr ps ca cb .busy) => g' = g ∧ match stk with
  | [] => False
  | f :: stk => R f.K stk f.res (fput f.fr f.d (.bool v)) (bset bx b (.lp g fr ps ca cb st)) nx
 | _ => False
def roundIn (bx : Bx) : Option (Bn × Nat) → Prop
 | none => True
 | some (b,g) => match bget bx b with
  | some (.lp g' _ _ _ _ _) => g' = g
  | _ => False
noncomputable def run : Nat → List Item → List SFrame → List ARes → Fr → Bx → Nat → Prop
 | 0,_,_,_,_,_,_ => False
 | n + 1,[],stk,res,fr,bx,nx => match resV fr bx res with
  | (p,v) => p ∧ match stk with
   | [] => Q v bx
   | f :: stk => run n f.K stk f.res (fput f.fr f.d v) bx nx
 | n + 1,.code .ret :: K,stk,res,fr,bx,nx => match ends K with
  | some (b,g) => asgB K = false ∧ RoundP (run n) b g (.done .ret) false stk bx nx
  | none => match resV fr bx res with
  | (p,v) => p ∧ match stk with
   | [] => Q v bx
   | f :: stk => run n f.K stk f.res (fput f.fr f.d v) bx nx
 | n + 1,.code .skip :: K,stk,res,fr,bx,nx => run n K stk res fr bx nx
 | n + 1,.code (.seq a b) :: K,stk,res,fr,bx,nx => run n (.code a :: .code b :: K) stk res fr bx nx
 | n + 1,.code (.block id a) :: K,stk,res,fr,bx,nx => run n (.code a :: .blk id :: K) stk res fr bx nx
 | n + 1,.code (.scope a) :: K,stk,res,fr,bx,nx => run n (.code a :: K) stk res fr bx nx
 | n + 1,.blk _ :: K,stk,res,fr,bx,nx => run n K stk res fr bx nx
 | n + 1,.code (.exit id) :: K,stk,res,fr,bx,nx => match popTo id K with
  | some K' => run n K' stk res fr bx nx
  | none => match ends K with
   | some (b,g) => asgB K = false ∧ RoundP (run n) b g (.done (.exit id)) false stk bx nx
   | none => False
 | n + 1,.code (.rng f ps ks ca cb) :: K,stk,res,fr,bx,nx => roundIn bx (ends K) ∧ match ev E fr f with
  | .func (.func id) caps => match E.I id with
   | some af => isLB caps = true ∧ ∀ g : Nat,run n [.code af.code] (⟨none,.lend nx g :: K,res,fr,nx + 1⟩ :: stk) af.res (params 0 (.yld nx :: capsL caps)) ((nx,.one (.lp g (keepS ks fr) ps ca cb .ready)) :: bx) (nx + 1)
   | none => False
  | _ => False
 | n + 1,.lend b g :: K,stk,res,fr,bx,nx => match bget bx b with
  | some (.lp g' _ _ _ _ st) => g' = g ∧ match st with
   | .ready => run n K (subStk b .und stk) res (subFr b .und fr) (subBx b .und (bdel bx b)) nx
   | .busy => False
   | .over => False
   | .done c => run n (.code c.acode :: K) (subStk b .und stk) res (subFr b .und fr) (subBx b .und (bdel bx b)) nx
  | _ => False
 | n + 1,.rbeg b g :: K,stk,res,fr,bx,nx => match bget bx b with
  | some (.lp g' fr' ps ca cb .ready) => g' = g ∧ run n K stk res fr (bset bx b (.lp g fr' ps ca cb .busy)) nx
  | _ => False
 | n + 1,.rend b g :: _,stk,_,_,bx,nx => RoundP (run n) b g .ready true stk bx nx
 | n + 1,.code (.cond c a b) :: K,stk,res,fr,bx,nx => match ev E fr c with
  | .bool t => (t = true → run n (.code a :: K) stk res fr bx nx) ∧ (t = false → run n (.code b :: K) stk res fr bx nx)
  | _ => False
 | n + 1,.code (.loop c) :: K,stk,res,fr,bx,nx =>
  LoopP (run n) c K stk res fr bx nx
 | _ + 1,.inv J :: _,stk,_,fr,bx,_ => J (stkFr stk) fr bx
 | n + 1,.code (.reg d l) :: K,stk,res,fr,bx,nx => run n (.ops d l :: K) stk res fr bx nx
 | n + 1,.ops _ [] :: K,stk,res,fr,bx,nx => run n K stk res fr bx nx
 | n + 1,.ops d (o :: l) :: K,stk,res,fr,bx,nx => match skipOp fr o.guard with
  | none => False
  | some true => run n (.ops (d - 1) l :: K) stk res (fput fr o.dst (.tup .nil)) bx nx
  | some false => match preFz E fr bx stk d o.op with
  | none => False
  | some (fr,bx,stk) => match d,o.op with
   | d,.store m a x => match ev E fr a with
    | .ptr b off => match bget bx b with
     | some (.cells c) => cellsN m (ev E fr x) ∧ onesB (cellsOf (ev E fr x)) = true ∧ off + m ≤ vlen c ∧ reOk E (fput fr o.dst .und) (bset bx b (.cells (vsets c off (cellsOf (ev E fr x))))) o.re ∧ run n (.ops (d - 1) l :: K) stk res (fput fr o.dst .und) (bset bx b (.cells (vsets c off (cellsOf (ev E fr x))))) nx
     | some (.wc g _) => match d with
      | 0 => off = 0 ∧ m = 1 ∧ match ev E fr x with
       | .int k z => reOk E (fput fr o.dst .und) (bset bx b (.wc g (.int k z))) o.re ∧ run n (.ops 0 l :: K) stk res (fput fr o.dst .und) (bset bx b (.wc g (.int k z))) nx
       | _ => False
      | _ + 1 => False
     | _ => False
    | .rptr b i off => match bget bx b with
     | some (.row e k m' c) => cellsN m (ev E fr x) ∧ onesB (cellsOf (ev E fr x)) = true ∧ pureB (ev E fr x) = true ∧ off + m ≤ k ∧
       reOk E (fput fr o.dst .und) (bset bx b (.row e k m' fun i' j' => if i' = i ∧ off ≤ j' ∧ j' < off + m then vget (cellsOf (ev E fr x)) (j' - off) else c i' j')) o.re ∧
       run n (.ops (d - 1) l :: K) stk res (fput fr o.dst .und) (bset bx b (.row e k m' fun i' j' => if i' = i ∧ off ≤ j' ∧ j' < off + m then vget (cellsOf (ev E fr x)) (j' - off) else c i' j')) nx
     | _ => False
    | _ => False
   | d,.app e k bytes x y => match E.N e with
    | true => match ev E fr y with
     | .own b' => match bget bx b' with
      | some (.rown _ k' m c') => k' = k ∧ match ev E fr x with
       | .own b => match bget bx b with
        | some (.rown e' k'' n' c) => e' = e ∧ k'' = k ∧ n' + m ≤ maxLen ∧ (n' + m) * bytes ≤ 140737488355328 ∧
          reOk E (fput (subFr b .und fr) o.dst (.own b)) (bset (subBx b .und bx) b (.rown e k (n' + m) fun i j => subV b .und (if i < n' then c i j else c' (i - n') j))) o.re ∧
          run n (.ops (d - 1) l :: K) (subStk b .und stk) res (fput (subFr b .und fr) o.dst (.own b)) (bset (subBx b .und bx) b (.rown e k (n' + m) fun i j => subV b .und (if i < n' then c i j else c' (i - n') j))) nx
        | _ => False
       | _ => False
      | _ => False
     | _ => False
    | false => match elemsV bx (ev E fr y) with
    | none => False
    | some (k',m,c') => (k' = some k ∨ k' = none) ∧ 0 < k ∧ match ev E fr x with
     | .nils => m ≤ maxLen ∧ m * bytes ≤ 140737488355328 ∧ reOk E (fput fr o.dst (.own nx)) ((nx,.one (.row e k m c')) :: bx) o.re ∧ run n (.ops (d - 1) l :: K) stk res (fput fr o.dst (.own nx)) ((nx,.one (.row e k m c')) :: bx) (nx + 1)
     | .own b => match bget bx b with
      | some (.row e' k'' n' c) => e' = e ∧ k'' = k ∧ n' + m ≤ maxLen ∧ (n' + m) * bytes ≤ 140737488355328 ∧
        reOk E (fput (subFr b .und fr) o.dst (.own b)) (bset (subBx b .und bx) b (.row e k (n' + m) fun i j => if i < n' then c i j else c' (i - n') j)) o.re ∧
        run n (.ops (d - 1) l :: K) (subStk b .und stk) res (fput (subFr b .und fr) o.dst (.own b)) (bset (subBx b .und bx) b (.row e k (n' + m) fun i j => if i < n' then c i j else c' (i - n') j)) nx
      | _ => False
     | .tv k'' n' c => k'' = k ∧ 0 < m ∧ n' + m ≤ maxLen ∧ (n' + m) * bytes ≤ 140737488355328 ∧ reOk E (fput fr o.dst (.own nx)) ((nx,.one (.row e k (n' + m) fun i j => if i < n' then c i j else c' (i - n') j)) :: bx) o.re ∧
       run n (.ops (d - 1) l :: K) stk res (fput fr o.dst (.own nx)) ((nx,.one (.row e k (n' + m) fun i j => if i < n' then c i j else c' (i - n') j)) :: bx) (nx + 1)
     | _ => False
   | d,.mset kd m k v => match ev E fr m,ev E fr k with
    | .mapb b,.int kk z => match bget bx b with
     | some (.mp kd' has f) => kd' = kd ∧ kk = kd ∧ noIt b bx ∧
       reOk E (fput fr o.dst .und) (bset bx b (.mp kd (fun j => if j = z then true else has j) fun j => if j = z then ev E fr v else f j)) o.re ∧
       run n (.ops (d - 1) l :: K) stk res (fput fr o.dst .und) (bset bx b (.mp kd (fun j => if j = z then true else has j) fun j => if j = z then ev E fr v else f j)) nx
     | some (.mz kd' f) => kd' = kd ∧ kk = kd ∧ noIt b bx ∧
       reOk E (fput fr o.dst .und) (bset bx b (.mz kd fun j => if j = z then ev E fr v else f j)) o.re ∧
       run n (.ops (d - 1) l :: K) stk res (fput fr o.dst .und) (bset bx b (.mz kd fun j => if j = z then ev E fr v else f j)) nx
     | _ => False
    | _,_ => False
   | 0,.isnil neg x => match ev E fr x with
    | .nils => run n (.ops 0 l :: K) stk res (fput fr o.dst (.bool (!neg))) bx nx
    | .view _ m _ => ∀ t : Bool,(0 < m → t = false) → run n (.ops 0 l :: K) stk res (fput fr o.dst (.bool (t != neg))) bx nx
    | .own b => match bget bx b with
     | some (.row _ _ m _) | some (.rown _ _ m _) => ∀ t : Bool,(0 < m → t = false) → run n (.ops 0 l :: K) stk res (fput fr o.dst (.bool (t != neg))) bx nx
     | _ => False
    | _ => False
   | 0,.clr k z x => isLB z = true ∧ pureB z = true ∧ onesB z = true ∧ vlen z = k ∧ match ev E fr x with
    | .nils => run n (.ops 0 l :: K) stk res (fput fr o.dst .und) bx nx
    | .own b => match bget bx b with
     | some (.row e k' m c) => k' = k ∧ run n (.ops 0 l :: K) stk res (fput fr o.dst .und) (bset bx b (.row e k m fun i j => if 0 ≤ i ∧ i < 0 + m then vget z j else c i j)) nx
     | _ => False
    | .osl b off n' => match bget bx b with
     | some (.row e k' m c) => k' = k ∧ run n (.ops 0 l :: K) stk res (fput fr o.dst .und) (bset bx b (.row e k m fun i j => if off ≤ i ∧ i < off + n' then vget z j else c i j)) nx
     | _ => False
    | _ => False
   | 0,.mdel kd m k => match ev E fr m,ev E fr k with
    | .mapb b,.int kk z => match bget bx b with
     | some (.mp kd' has f) => kd' = kd ∧ kk = kd ∧ noIt b bx ∧
       run n (.ops 0 l :: K) stk res (fput fr o.dst .und) (bset bx b (.mp kd (fun j => if j = z then false else has j) f)) nx
     | _ => False
    | _,_ => False
   | 0,.mlen kd m => match ev E fr m with
    | .mapb b => match bget bx b with
     | some (.mp kd' has _) => kd' = kd ∧
       ∀ c : Nat,(c = 0 ↔ ∀ k,has k = false) → run n (.ops 0 l :: K) stk res (fput fr o.dst (.int .i64 c)) bx nx
     | _ => False
    | _ => False
   | 0,.rngm kd x => match ev E fr x with
    | .mapb b => match bget bx b with
     | some (.mp kd' _ _) => kd' = kd ∧ run n (.ops 0 l :: K) stk res (fput fr o.dst (.ptr nx 0)) ((nx,.one (.it (some b) kd (fun _ => false) none)) :: bx) (nx + 1)
     | _ => False
    | _ => False
   | 0,.nxt x => match ev E fr x with
    | .ptr b 0 => match bget bx b with
     | some (.it (some mb) kd seen _) => match bget bx mb with
      | some (.mp kd' has f) => kd' = kd ∧
       (∀ k,has k = true → seen k = false → run n (.ops 0 l :: K) stk res (fput fr o.dst (.tup (.cons (.bool true) (.cons (.int kd k) (.cons (f k) .nil))))) (bset bx b (.it (some mb) kd (fun j => if j = k then true else seen j) (some k))) nx) ∧
       ((∀ k,has k = true → seen k = true) → run n (.ops 0 l :: K) stk res (fput fr o.dst (.tup (.cons (.bool false) .nil))) (bset bx b (.it none kd seen none)) nx)
      | _ => False
     | _ => False
    | _ => False
   | 0,.ent x => match ev E fr x with
    | .ptr b 0 => match bget bx b with
     | some (.it (some mb) kd _ (some k)) => match bget bx mb with
      | some (.mp kd' has f) => kd' = kd ∧ has k = true ∧ run n (.ops 0 l :: K) stk res (fput fr o.dst (.tup (.cons (.int kd k) (.cons (f k) .nil)))) bx nx
      | _ => False
     | _ => False
    | _ => False
   | 0,.calle f args => match ev E fr f with
     | .func (.func id) caps => match E.I id with
      | some af => isLB caps = true ∧ run n [.code af.code] (⟨o.dst,.ops 0 l :: K,res,fr,nx⟩ :: stk) af.res (params 0 (argsL E fr args ++ capsL caps)) bx nx
      | none => match E.S id with
       | some s => match specV bx s args (argsL E fr args ++ capsL caps) with
        | ⟨p,v,_⟩ => (isLB caps = true ∧ p) ∧ (WfT v → match s.own,v with
         | some e,.view k m c => 0 < k → run n (.ops 0 l :: K) stk res (fput fr o.dst (.own nx)) ((nx,.one (.row e k m c)) :: bx) (nx + 1)
         | _,_ => run n (.ops 0 l :: K) stk res (fput fr o.dst v) bx nx)
       | none => match E.X id with
        | some (pz,s) => eatR bx s pz args (argsL E fr args) caps (fun b e k m c => run n (.ops 0 l :: K) (subStk b .und stk) res (fput (subFr b .und fr) o.dst (.own b)) (bset (subBx b .und bx) b (.row e k m c)) nx) fun b e k m c => run n (.ops 0 l :: K) stk res (fput fr o.dst .und) (bset bx b (.row e k m c)) nx
        | none => False
     | .yld b => match bget bx b with
      | some (.lp g fr' ps ca cb .ready) => ps.length = args.length ∧ run n [.code ca,.rbeg b g,.code cb,.rend b g] (⟨o.dst,.ops 0 l :: K,res,fr,nx⟩ :: stk) [] (putL fr' ps (argsL E fr args)) bx nx
      | _ => False
     | _ => False
   | d + 1,.calle f args => match ev E fr f with
     | .func (.func id) caps => match E.S id with
      | some s => match specV bx s args (argsL E fr args ++ capsL caps) with
       | ⟨p,v,_⟩ => (isLB caps = true ∧ p) ∧ match s.own,v with
        | some e,.view k m c => 0 < k ∧ reOk E (fput fr o.dst (.own nx)) ((nx,.one (.row e k m c)) :: bx) o.re ∧ run n (.ops d l :: K) stk res (fput fr o.dst (.own nx)) ((nx,.one (.row e k m c)) :: bx) (nx + 1)
        | _,_ => False
      | none => match E.X id with
       | some (pz,s) => eatR bx s pz args (argsL E fr args) caps (fun b e k m c => reOk E (fput (subFr b .und fr) o.dst (.own b)) (bset (subBx b .und bx) b (.row e k m c)) o.re ∧ run n (.ops d l :: K) (subStk b .und stk) res (fput (subFr b .und fr) o.dst (.own b)) (bset (subBx b .und bx) b (.row e k m c)) nx) fun _ _ _ _ _ => False
       | none => False
     | _ => False
   | 0,op => match op with
    | .call f args => match ev E fr f with
     | .func (.func id) caps => match E.I id with
      | some af => isLB caps = true ∧ run n [.code af.code] (⟨o.dst,.ops 0 l :: K,res,fr,nx⟩ :: stk) af.res (params 0 (argsL E fr args ++ capsL caps)) bx nx
      | none => match E.S id with
       | some s => match specV bx s args (argsL E fr args ++ capsL caps) with
        | ⟨p,v,_⟩ => (isLB caps = true ∧ p) ∧ (WfT v → match s.own,v with
         | some e,.view k m c => 0 < k → run n (.ops 0 l :: K) stk res (fput fr o.dst (.own nx)) ((nx,.one (.row e k m c)) :: bx) (nx + 1)
         | _,_ => run n (.ops 0 l :: K) stk res (fput fr o.dst v) bx nx)
       | none => False
     | .yld b => match bget bx b with
      | some (.lp g fr' ps ca cb .ready) => ps.length = args.length ∧ run n [.code ca,.rbeg b g,.code cb,.rend b g] (⟨o.dst,.ops 0 l :: K,res,fr,nx⟩ :: stk) [] (putL fr' ps (argsL E fr args)) bx nx
      | _ => False
     | _ => False
    | _ => match aop E fr bx nx op with
     | ⟨p,v,new⟩ => p ∧ (WfT v → match o.br with
      | false => reOk E (fput fr o.dst v) (addB nx new bx) o.re ∧ run n (.ops 0 l :: K) stk res (fput fr o.dst v) (addB nx new bx) (addN nx new)
      | true => match v with
       | .bool t => (t = true → run n (.ops 0 l :: K) stk res (fput fr o.dst (.bool true)) (addB nx new bx) (addN nx new)) ∧ (t = false → run n (.ops 0 l :: K) stk res (fput fr o.dst (.bool false)) (addB nx new bx) (addN nx new))
       | _ => False)
   | d + 1,op => match aop E fr bx nx op with
    | ⟨p,v,new⟩ => p ∧ match o.br with
     | false => run n (.ops d l :: K) stk res (fput fr o.dst v) (addB nx new bx) (addN nx new)
     | true => match v with
      | .bool t => (t = true → run n (.ops d l :: K) stk res (fput fr o.dst (.bool true)) (addB nx new bx) (addN nx new)) ∧ (t = false → run n (.ops d l :: K) stk res (fput fr o.dst (.bool false)) (addB nx new bx) (addN nx new))
      | _ => False
 | n + 1,.ctch _ _ _ _ :: K,stk,res,fr,bx,nx => run n K stk res fr bx nx
end Go.Proofs.Ytlieoghhkioflaa
/- The engine,part 4: the model's code compiled. No condition. -/
namespace Go.Proofs.Ytlieoghhkioflaa
open Go Go.RowKit
def cvs (f : Value → Option Val) : List Value → Option Val
 | [] => some .nil
 | v :: l => match f v,cvs f l with | some a,some t => some (.cons a t) | _,_ => none
def cv0 : Value → Option Val
 | .int k n => some (.int k n)
 | .bool b => some (.bool b)
 | .slice none 0 0 => some .nils
 | .pointer none => some .nilp
 | .nilFunc => some .nilf
 | .map none => some .nilm
 | .string s => some (.strv s.data.size fun i => ((s.data.toList.map (fun b => (b.toNat : Int))).getD i 0))
 | _ => none
def cv : Value → Option Val
 | .agg cs => (cvs cv0 cs.toList).map .agg
 | v => cv0 v
def cOpd : Operand → Option Opd
 | .tmp t => some (.t t)
 | .const v => (cv v).map .c
 | .global g => some (.g g)
 | .func f => some (.c (.func (.func f) .nil))
def shOf (P : Program) : Nat → TypeId → Option (List Sh)
 | 0,_ => none
 | d + 1,t => match P.underlying t with
  | some (.int k) => some [.int k]
  | some .bool => some [.bool]
  | some (.slice e) => some [.slc (P.cellsOf e)]
  | some (.func _ _ _) | some (.pointer _) | some (.map _ _) => some [.any]
  | some (.struct fs) => fs.toList.foldr (fun f acc => match shOf P d f.type,acc with | some a,some b => some (a ++ b) | _,_ => none) (some [])
  | some (.array n e) => (shOf P d e).map fun s => (List.replicate n s).flatten
  | _ => none
def isAggT (P : Program) (t : TypeId) : Option Bool := match P.underlying t with
 | some (.struct _) | some (.array _ _) => some true
 | some _ => some false
 | none => none
def shT (P : Program) (t : TypeId) : Option (Bool × List Sh) := match isAggT P t,shOf P 6 t,P.info? t with
 | some a,some s,some i => if i.size = s.length ∧ (a = false → s.length = 1) then some (a,s) else none
 | _,_,_ => none
def zeroT (P : Program) (t : TypeId) : Option (Nat × Val) := match P.info? t with
 | some i => match i.zero with
  | some z => if z.cells.size = i.size then (cvs cv0 z.cells.toList).map fun l => (i.size,l) else none
  | none => none
 | none => none
def zero1 (P : Program) (t : TypeId) : Option Val := match P.info? t with
 | some i => i.zero.bind cv
 | none => none
def sizeT (P : Program) (t : TypeId) : Option Nat := (P.info? t).map (·.size)
def partsS (P : Program) (fs : Array Field) : List (Nat × Operand) → Option (List (Nat × Nat × Opd))
 | [] => some []
 | (i,x) :: l => match fs[i]?,cOpd x,partsS P fs l with
  | some f,some o,some r => match sizeT P f.type with | some n => some ((f.offset,n,o) :: r) | none => none
  | _,_,_ => none
def partsA (k : Nat) : List (Nat × Operand) → Option (List (Nat × Nat × Opd))
 | [] => some []
 | (i,x) :: l => match cOpd x,partsA k l with
  | some o,some r => some ((i * k,k,o) :: r)
  | _,_ => none
def partsR : List (Nat × Operand) → Option (List (Nat × Opd))
 | [] => some []
 | (i,x) :: l => match cOpd x,partsR l with
  | some o,some r => some ((i,o) :: r)
  | _,_ => none
def cOpds : List Operand → Option (List Opd)
 | [] => some []
 | x :: l => match cOpd x,cOpds l with | some o,some r => some (o :: r) | _,_ => none
def cArgs (P : Program) : List Operand → List TypeId → Option (List (List Sh × Opd))
 | [],_ => some []
 | x :: l,ts => match cOpd x,cArgs P l ts.tail with
  | some o,some r => some (((match ts with | t :: _ => ((shT P t).map (·.2)).getD [] | [] => []),o) :: r)
  | _,_ => none
def optOpd : Option Operand → Option (Option Opd)
 | none => some none
 | some x => (cOpd x).map some
def flatSh : List Sh → Bool
 | [] => true
 | .int _ :: l | .bool :: l => flatSh l
 | _ => false
def eqFs (P : Program) (E : TypeId → Bool) (S : TypeId → Option (List Sh)) : Nat → List Field → Bool
 | _,[] => true
 | off, f :: fs => f.name != "_" && f.offset == off && E f.type && (match S f.type with
  | some s => sizeT P f.type == some s.length && (isAggT P f.type == some true || (isAggT P f.type == some false && s.length == 1)) && eqFs P E S (off + s.length) fs
  | none => false)
def eqPlan (P : Program) : Nat → TypeId → Bool
 | 0,_ => false
 | d + 1,t => match P.underlying t with
  | some (.int _) | some .bool => true
  | some (.struct fs) => !P.stoodInHeld t && eqFs P (eqPlan P d) (shOf P d) 0 fs.toList
  | some (.array _ e) => eqPlan P d e && (match shOf P d e with
   | some s => sizeT P e == some s.length && P.cellsOf e == s.length && (isAggT P e == some true || (isAggT P e == some false && s.length == 1))
   | none => false)
  | _ => false
def xcalls : List Nat := [29,30,120,100,98,114,115,123,129,124,130,131,133,135,83,117]
def xtypes : List (List Nat) := []
def xown (c : Call) : Bool := match c.callee with
 | .value (.func f) => xcalls.contains f
 | .value (.tmp _) => xtypes.contains c.argTypes.toList
 | _ => false
def cOp (P : Program) : Op → Option AOp
 | .move x | .assign x => (cOpd x).map .mv
 | .pick c a b => match cOpd c,cOpd a,cOpd b with | some c,some a,some b => some (.pick c a b) | _,_,_ => none
 | .alloc t => (zeroT P t).map fun p => .alloc p.2
 | .box t x => match sizeT P t,cOpd x with | some n,some x => some (.box n x) | _,_ => none
 | .build t parts => match P.underlying t,zeroT P t with
  | some (.struct fs),some (_,z) => if fs.toList.all (fun f => (sizeT P f.type).isSome) = true then (partsS P fs parts.toList).map fun l => .build z l else none
  | some (.array _ e),some (_,z) => match sizeT P e with | some k => (partsA k parts.toList).map fun l => .build z l | none => none
  | _,_ => none
 | .buildSlice t len parts => match P.underlying t with
  | some (.slice e) => match zeroT P e,partsR parts.toList with
   | some (k,z),some l => if len * k ≤ 16777216 then some (.bsl e k len z l) else none
   | _,_ => none
  | _ => none
 | .load t x => match shT P t,cOpd x with | some (a,s),some x => some (.load a s x) | _,_ => none
 | .store t a x => match sizeT P t,cOpd a,cOpd x with | some n,some a,some x => some (.store n a x) | _,_,_ => none
 | .binOp op t x y _ => match cOpd x,cOpd y with
  | some x,some y => match isAggT P t with
   | some false => (match P.underlying t with
    | some (.int _) => some (.bin op x y)
    | some .bool => (match op with | .eql => some (.binb false x y) | .neq => some (.binb true x y) | _ => none)
    | some .string => (match op with | .eql => some (.seq false x y) | .neq => some (.seq true x y) | _ => none)
    | some (.slice _) => (match op,y with | .eql,.c .nils => some (.isnil false x) | .neq,.c .nils => some (.isnil true x) | _,_ => none)
    | _ => none)
   | some true => match shT P t with
    | some (_,s) => if flatSh s = true ∧ eqPlan P 6 t = true ∧ P.eqGuardType P.depth t = false then (match op with | .eql => some (.eqa false s x y) | .neq => some (.eqa true s x y) | _ => none) else none
    | none => none
   | none => none
  | _,_ => none
 | .unOp op _ x => (cOpd x).map fun x => .un op x
 | .convert s d x => match P.underlying s,P.underlying d with
  | some (.int _),some (.int k) => (cOpd x).map fun x => .conv k x
  | some (.slice e),some .string => (match P.underlying e with | some (.int .u8) => (cOpd x).map .b2s | _ => none)
  | _,_ => none
 | .makeFunc fn first caps => if first.size = 0 then (cOpds caps.toList).map fun l => .mkf fn l else none
 | .fieldAddr t x f => match P.underlying t,cOpd x with
  | some (.struct fs),some x => match fs[f]? with
   | some f => (match sizeT P f.type with | some (_ + 1) => some (.fld f.offset x) | _ => none)
   | none => none
  | _,_ => none
 | .indexAddr t x i => match P.underlying t,cOpd x,cOpd i with
  | some (.slice e),some x,some i => (sizeT P e).map fun k => .idx k x i
  | some (.array n e),some x,some i => (sizeT P e).map fun k => .idxA k n x i
  | _,_,_ => none
 | .slice t x lo hi none => match P.underlying t,cOpd x,optOpd lo,optOpd hi with
  | some (.slice e),some x,some lo,some hi => (sizeT P e).map fun k => .sl k x lo hi
  | _,_,_,_ => none
 | .slice t x none (some hi) (some mx) => match P.underlying t,cOpd x,cOpd hi,cOpd mx with
  | some (.slice e),some x,some hi,some mx => (sizeT P e).map fun k => .clip k x hi mx
  | _,_,_,_ => none
 | .makeInterface t x => match P.underlying t with
  | some (.int _) => (cOpd x).map fun x => .mif t x
  | _ => none
 | .panic x => (cOpd x).map .pan
 | .extract x i => (cOpd x).map fun x => .ext i x
 | .call c => match c.callee with
  | .value f => match cOpd f,cArgs P c.args.toList c.argTypes.toList with | some f,some l => if xown c = true then some (.calle f l) else some (.call f l) | _,_ => none
  | .builtin .len => match c.args.toList,c.argTypes.toList with
   | [x],[t] => (match P.underlying t with
    | some (.slice _) => (cOpd x).map .len
    | some (.map k _) => (match P.underlying k with | some (.int kd) => (cOpd x).map (.mlen kd) | _ => none)
    | _ => none)
   | _,_ => none
  | .builtin .max => match c.args.toList with | [x,y] => (match cOpd x,cOpd y with | some x,some y => some (.mm true x y) | _,_ => none) | [x,y,z] => (match cOpd x,cOpd y,cOpd z with | some x,some y,some z => some (.mm3 true x y z) | _,_,_ => none) | _ => none
  | .builtin .min => match c.args.toList with | [x,y] => (match cOpd x,cOpd y with | some x,some y => some (.mm false x y) | _,_ => none) | [x,y,z] => (match cOpd x,cOpd y,cOpd z with | some x,some y,some z => some (.mm3 false x y z) | _,_,_ => none) | _ => none
  | .builtin .clear => match c.args.toList,c.argTypes.toList with
   | [x],[t] => (match P.underlying t with
    | some (.slice e) => (match zeroT P e,cOpd x with | some (k,z),some x => some (.clr k z x) | _,_ => none)
    | _ => none)
   | _,_ => none
  | .builtin .delete => match c.args.toList,c.argTypes.toList with
   | [m,x],[t,u] => (match P.underlying t with
    | some (.map k _) => if u = k then (match P.underlying k,cOpd m,cOpd x with | some (.int kd),some m,some x => some (.mdel kd m x) | _,_,_ => none) else none
    | _ => none)
   | _,_ => none
  | .builtin .append => match c.args.toList,c.argTypes.toList with
   | [x,y],[t,u] => if t = u then (match P.underlying t,cOpd x,cOpd y with
    | some (.slice e),some x,some y => (match zeroT P e,P.info? e with | some (k,_),some i => some (.app e k i.bytes x y) | _,_ => none)
    | _,_,_ => none) else none
   | _,_ => none
  | _ => none
 | .nilCheck x => (cOpd x).map .nilc
 | .makeMap t none => match P.underlying t with
  | some (.map k _) => (match P.underlying k with | some (.int kd) => some (.mkm kd) | _ => none)
  | _ => none
 | .lookup t m x ok => match P.underlying t with
  | some (.map k e) => (match P.underlying k,zero1 P e,cOpd m,cOpd x with | some (.int kd),some z,some m,some x => some (.mget kd ok z m x) | _,_,_,_ => none)
  | _ => none
 | .insert t m x v | .mapUpdate t m x v => match P.underlying t with
  | some (.map k _) => (match P.underlying k,cOpd m,cOpd x,cOpd v with | some (.int kd),some m,some x,some v => some (.mset kd m x v) | _,_,_,_ => none)
  | _ => none
 | .field t x f => match P.underlying t,cOpd x with
  | some (.struct fs),some x => match fs[f]? with
   | some f => (match isAggT P f.type,sizeT P f.type with | some ag,some n => if ag = false → n = 1 then some (.fv ag f.offset n x) else none | _,_ => none)
   | none => none
  | _,_ => none
 | .range t x => match P.underlying t with
  | some (.map k _) => (match P.underlying k,cOpd x with | some (.int kd),some x => some (.rngm kd x) | _,_ => none)
  | _ => none
 | .next x false => (cOpd x).map .nxt
 | .entry x => (cOpd x).map .ent
 | .makeSlice t n c => match P.underlying t with
  | some (.slice e) => match zeroT P e,P.info? e,cOpd n,cOpd c with
   | some (k,z),some i,some n,some c => some (.mks e k i.bytes z n c)
   | _,_,_,_ => none
  | _ => none
 | _ => none
def softA : AOp → Bool
 | .store _ _ _ | .app _ _ _ _ _ | .mset _ _ _ _ | .calle _ _ | .clr _ _ _ | .pan _ => false
 | _ => true
def aheadOf (acc : List Nat) (o : Oper) : Nat := o.after.toList.foldl (fun s e => if Region.binds .any e then s ||| 2 ^ e.on ||| acc.getD e.on 0 else s) 0
def aheads : List Nat → List Oper → List Nat
 | acc,[] => acc
 | acc,o :: l => aheads (acc ++ [aheadOf acc o]) l
def looks (o : Oper) : List Nat := o.op.operands.toList.filterMap fun | .tmp t => some t | _ => none
def apartOk (ops : List Oper) (m : List Nat) (gs : List (Option Nat)) : Bool :=
 (List.range ops.length).all fun i => (List.range ops.length).all fun j =>
  match ops[i]?,ops[j]? with
  | some x,some y => i == j || (match x.dst with
   | none => true
   | some d => y.dst != some d && (!((looks y).contains d || gs.getD j none == some d) || (i < j && (m.getD j 0).testBit i) || (j < i && (m.getD i 0).testBit j)))
  | _,_ => true
def afterOk (ops : List Oper) : Bool :=
 (List.range ops.length).all fun i => match ops[i]? with
  | some o => o.after.toList.all fun e => !Region.binds .any e || e.on < i
  | none => true
def guardT (ops : List Oper) (o : Oper) : Option (Option (Nat × Bool)) := match o.guard with
 | none => some none
 | some (j,w) => match ops[j]? with
  | some p => p.dst.map fun t => some (t,w)
  | none => none
def dstOk (nt : Nat) : Option Tmp → Bool
 | some d => decide (d < nt)
 | none => true
def cOper (P : Program) (ops : List Oper) (nt : Nat) (o : Oper) : Option AOper :=
  match cOp P o.op,guardT ops o with
  | some a,some g =>
    if dstOk nt o.dst = true then
      some { dst := o.dst,op := a,guard := g,
             br := match o.dst with | some d => ops.any fun p => (match guardT ops p with | some (some (t,_)) => t == d | _ => false) || (match p.op with | .pick (.tmp t) _ _ => t == d | _ => false) | none => false,
             re := [] }
    else none
  | _,_ => none
def cOpers (P : Program) (ops : List Oper) (nt : Nat) : List Oper → Option (List AOper)
 | [] => some []
 | o :: l => match cOper P ops nt o,cOpers P ops nt l with | some a,some r => some (a :: r) | _,_ => none
def rdO : Opd → List Nat
 | .t n => [n]
 | _ => []
def rdOs (l : List Opd) : List Nat := l.flatMap rdO
def rdA : AOp → List Nat
 | .mv x | .box _ x | .load _ _ x | .un _ x | .conv _ x | .fld _ x | .ext _ x | .len x | .nilc x => rdO x
 | .pick a b c => rdO a ++ rdO b ++ rdO c
 | .alloc _ | .mkm _ => []
 | .build _ l => l.flatMap fun p => rdO p.2.2
 | .bsl _ _ _ _ l => l.flatMap fun p => rdO p.2
 | .store _ a x | .bin _ a x | .binb _ a x | .eqa _ _ a x | .idx _ a x | .idxA _ _ a x | .mm _ a x | .app _ _ _ a x | .mks _ _ _ _ a x | .mget _ _ _ a x => rdO a ++ rdO x
 | .mkf _ l => rdOs l
 | .sl _ x lo hi => rdO x ++ (match lo with | some y => rdO y | none => []) ++ (match hi with | some y => rdO y | none => [])
 | .call f l | .calle f l => rdO f ++ l.flatMap fun p => rdO p.2
 | .mset _ a b c => rdO a ++ rdO b ++ rdO c
 | .mdel _ a b | .seq _ a b => rdO a ++ rdO b
 | .mlen _ a | .rngm _ a | .nxt a | .ent a | .fv _ _ _ a | .isnil _ a | .b2s a => rdO a
 | .mm3 _ a b c => rdO a ++ rdO b ++ rdO c
 | .clip _ a b c => rdO a ++ rdO b ++ rdO c
 | .clr _ _ a | .mif _ a | .pan a => rdO a
def mkB : AOp → Bool
 | .alloc _ | .box _ _ | .bsl _ _ _ _ _ | .mks _ _ _ _ _ _ | .mkm _ => true
 | _ => false
def lateB : AOp → Bool
 | .box _ _ => false
 | .alloc z => pureB z
 | .bsl _ _ _ z _ => !hasNil z
 | _ => true
def aheadB (m : List Nat) (i j : Nat) : Bool := (m.getD j 0).testBit i
def tailS (m : List Nat) : Nat → Nat
 | 0 => 0
 | i + 1 => if (List.range i).all (fun j => aheadB m j i) then tailS m i else i + 1
def dflt : AOper := ⟨none,.mv (.t 0),none,false,[]⟩
def softI (l : List AOper) (i : Nat) : Bool := softA (l.getD i dflt).op
def canon (l : List AOper) (m : List Nat) : Nat → List Nat → List Nat → List Nat
 | 0,_,_ => []
 | n + 1,done,rest =>
  let rdy := rest.filter fun i => rest.all fun j => !aheadB m j i
  match rdy.find? (softI l) with
  | some i => i :: canon l m n (i :: done) (rest.filter (· != i))
  | none => match rdy with
   | i :: _ => i :: canon l m n (i :: done) (rest.filter (· != i))
   | [] => []
def reL (l : List AOper) (m : List Nat) (ord : List Nat) (p i : Nat) : List (Option Nat × AOp × Option (Nat × Bool)) :=
 if softI l i then [] else (ord.take p).filterMap fun j => if softI l j && !mkB (l.getD j dflt).op && !aheadB m j i then some ((l.getD j dflt).dst,(l.getD j dflt).op,(l.getD j dflt).guard) else none
def drawnL (l : List AOper) (m : List Nat) (ord : List Nat) : List AOper := (List.range ord.length).map fun p => { l.getD (ord.getD p 0) dflt with re := reL l m ord p (ord.getD p 0) }
def gRd : Option (Nat × Bool) → List Nat
 | some (t,_) => [t]
 | none => []
def ordOk (l : List AOper) (m : List Nat) (d : Nat) (ord : List Nat) : Bool :=
 ord.length == d && (List.range d).all (fun i => ord.contains i) &&
 (List.range d).all fun p => decide (ord.getD p 0 < d) && (match (l.getD (ord.getD p 0) dflt).dst with | none => true | some t => !(rdA (l.getD (ord.getD p 0) dflt).op ++ gRd (l.getD (ord.getD p 0) dflt).guard).contains t) && (List.range p).all fun q =>
  ord.getD q 0 != ord.getD p 0 && !aheadB m (ord.getD p 0) (ord.getD q 0) &&
  (if softI l (ord.getD q 0) then (softI l (ord.getD p 0) || aheadB m (ord.getD q 0) (ord.getD p 0) || !mkB (l.getD (ord.getD q 0) dflt).op || lateB (l.getD (ord.getD q 0) dflt).op) else aheadB m (ord.getD q 0) (ord.getD p 0)) &&
  (match (l.getD (ord.getD p 0) dflt).dst with | none => true | some t => !(rdA (l.getD (ord.getD q 0) dflt).op ++ gRd (l.getD (ord.getD q 0) dflt).guard).contains t)
def tailOk2 (m : List Nat) (n d : Nat) : Bool := (List.range n).all fun i => i < d || (List.range i).all fun j => aheadB m j i
def antiOk (ops : List Oper) (m : List Nat) (gs : List (Option Nat)) (d : Nat) : Bool :=
 (List.range d).all fun i => match (ops[i]?).bind (·.dst) with
  | none => true
  | some t => (List.range d).all fun j => aheadB m i j || (!((match ops[j]? with | some y => looks y | none => []).contains t) && gs.getD j none != some t)
def gsOf (ops : List Oper) : List (Option Nat) := ops.map fun o => match guardT ops o with | some (some (t,_)) => some t | _ => none
def cDraw (ops : List Oper) (l : List AOper) : Option (Nat × List AOper) :=
 let m := aheads [] ops
 let d := tailS m ops.length
 let ord := canon l m d [] (List.range d)
 if afterOk ops && apartOk ops m (gsOf ops) && antiOk ops m (gsOf ops) d && tailOk2 m ops.length d && ordOk l m d ord && decide (d ≤ ops.length) then some (d,drawnL l m ord ++ l.drop d) else none
def fcalls : List Nat := []
def fcall (o : Oper) : Bool := match o.op with
 | .call c => match c.callee with
  | .value (.func f) => fcalls.contains f
  | _ => false
 | _ => false
def floatO : Op → Bool
 | .move _ | .assign _ | .load _ _ | .binOp _ _ _ _ _ | .fieldAddr _ _ _ | .makeFunc _ _ _ => true
 | .call c => match c.callee with | .builtin .len => true | _ => false
 | _ => false
def floatA : AOp → Bool
 | .mv _ | .load _ _ _ | .bin _ _ _ | .fld _ _ | .len _ | .mkf _ _ => true
 | _ => false
def floatB (o : Oper) (a : AOper) : Bool := o.guard.isNone && o.dst.isSome && floatO o.op && floatA a.op && !a.br && a.re.isEmpty
def floats (ops : List Oper) (l : List AOper) (m : List Nat) : List Nat := (List.range ops.length).foldl (fun S i => match ops[i]? with
 | some o => if floatB o (l.getD i dflt) && (List.range ops.length).all (fun j => !aheadB m j i || S.contains j) then S ++ [i] else S
 | none => S) []
def gtmpL (ops : List Oper) (o : Oper) : Option Nat := match o.guard with
 | none => none
 | some (g,_) => (ops[g]?).bind (·.dst)
def chOk (ops : List Oper) (l : List AOper) (m S R : List Nat) : Bool :=
 afterOk ops &&
 S.all (fun i => match ops[i]? with | some o => floatB o (l.getD i dflt) | none => false) &&
 R.all (fun i => match ops[i]? with | some o => (match o.op with | .select _ _ | .defer _ => false | _ => true) | none => false) &&
 (List.range ops.length).all (fun i => S.contains i || R.contains i) &&
 S.all (fun i => !R.contains i) &&
 (List.range ops.length).all (fun i => match (ops[i]?).bind (·.dst) with
  | none => true
  | some t => (List.range ops.length).all fun j => match ops[j]? with
   | some y => (aheadB m i j || (!(looks y).contains t && gtmpL ops y != some t)) && (i == j || y.dst != some t)
   | none => true) &&
 (List.range R.length).all (fun p => (List.range p).all fun q => aheadB m (R.getD q 0) (R.getD p 0) && R.getD q 0 != R.getD p 0) &&
 S.all (fun i => (List.range ops.length).all fun j => !aheadB m j i || S.contains j) &&
 (List.range S.length).all (fun p => !aheadB m (S.getD p 0) (S.getD p 0) && (List.range p).all fun q => !aheadB m (S.getD p 0) (S.getD q 0) && S.getD q 0 != S.getD p 0) &&
 (List.range S.length).all (fun p => (List.range (p + 1)).all fun q => match (l.getD (S.getD p 0) dflt).dst with
  | none => true
  | some t => !(rdA (l.getD (S.getD q 0) dflt).op).contains t && (q == p || (l.getD (S.getD q 0) dflt).dst != some t))
def chkO (a : AOper) : AOper := ⟨none,.mv (.c (.int .i64 0)),none,false,[(a.dst,a.op,none)]⟩
def chkL (l : List AOper) (m S : List Nat) (i : Nat) : List AOper := (S.filter fun s => !aheadB m s i).map fun s => chkO (l.getD s dflt)
def rowL (l : List AOper) (m S : List Nat) : List Nat → List AOper
 | [] => []
 | i :: q => l.getD i dflt :: (chkL l m S i ++ rowL l m S q)
def cChain (ops : List Oper) (l : List AOper) : Option (List AOper) :=
 if ops.any fcall then
  let m := aheads [] ops
  let S := floats ops l m
  let R := (List.range ops.length).filter fun i => !S.contains i
  if chOk ops l m S R then some (S.map (fun i => l.getD i dflt) ++ rowL l m S R) else none
 else none
def lateO (k : Nat) (o : Oper) : Oper := { o with after := ((List.range k).map fun j => (⟨j,.phase⟩ : Edge)).toArray }
def lateL (k : Nat) : Nat → List Oper → List Oper
 | _,[] => []
 | i,o :: l => (if i = k then lateO k o else o) :: lateL k (i + 1) l
def mvX (o : Op) : Option Operand := match o with
 | .move x | .assign x => some x
 | _ => none
def afterB (o : Oper) (k : Nat) : Bool := o.after.toList.any fun e => Region.binds .any e && e.on == k
def dlOk (ops : List Oper) (k : Nat) : Bool :=
 let m := aheads [] ops
 match ops[k]? with
 | some o => o.guard.isNone && afterOk ops && (match o.dst,mvX o.op with
  | some t,some x => (List.range ops.length).all fun j => j == k || (match ops[j]? with
   | some y => (match y.op with | .select _ _ | .defer _ => false | _ => true) && y.dst != some t &&
    (aheadB m j k || match x with | .tmp u => y.dst != some u | _ => true) &&
    (aheadB m j k || afterB y k || (!(looks y).contains t && gtmpL ops y != some t)) &&
    (!afterB y k || (List.range k).all fun i => aheadB m i j)
   | none => true)
  | _,_ => false)
 | none => false
def dlK (ops : List Oper) : Option Nat :=
 let m := aheads [] ops
 (List.range ops.length).find? fun k => match ops[k]? with
  | some o => (match o.dst,mvX o.op with
   | some t,some _ => (List.range k).any (fun j => match ops[j]? with | some y => (looks y).contains t | none => false) && !((List.range k).all fun j => aheadB m j k)
   | _,_ => false)
  | none => false
def rdC : ACode → List Nat
 | .skip | .exit _ | .ret => []
 | .reg _ l => l.flatMap fun o => rdA o.op ++ (match o.guard with | some (t,_) => [t] | none => [])
 | .seq a b => rdC a ++ rdC b
 | .cond c a b => rdO c ++ rdC a ++ rdC b
 | .block _ a | .loop a | .scope a => rdC a
 | .rng f _ ks _ _ => rdO f ++ ks
def cCode (P : Program) (nt : Nat) : Code → Option ACode
 | .skip | .label _ => some .skip
 | .region _ ops draw => match cOpers P ops.toList nt ops.toList with
  | some l => if draw then (match cChain ops.toList l with | some l' => some (.reg 0 l') | none => match dlK ops.toList with
   | none => (cDraw ops.toList l).map fun p => .reg p.1 p.2
   | some k => (match cOpers P (lateL k 0 ops.toList) nt (lateL k 0 ops.toList) with | some l1 => (match dlOk ops.toList k with | true => (cDraw (lateL k 0 ops.toList) l1).map fun p => .reg p.1 p.2 | false => none) | none => none)) else some (.reg 0 l)
  | none => none
 | .seq a b => match cCode P nt a,cCode P nt b with | some a,some b => some (.seq a b) | _,_ => none
 | .cond c a b => match cOpd c,cCode P nt a,cCode P nt b with | some c,some a,some b => some (.cond c a b) | _,_,_ => none
 | .block id a => (cCode P nt a).map (.block id)
 | .loop a => (cCode P nt a).map .loop
 | .exit id => some (.exit id)
 | .ret => some .ret
 | .scope a => (cCode P nt a).map .scope
 | .rangeFunc f ps a b => match cOpd f,cCode P nt a,cCode P nt b with
  | some f,some a,some b => if ps.toList.all (fun t => decide (t < nt)) = true then some (.rng f ps.toList ((rdC a ++ rdC b).eraseDups) a b) else none
  | _,_,_ => none
 | _ => none
def cRes (P : Program) : ResultVar → Option ARes
 | .tmp t => some (.t t)
 | .cell a t => (shT P t).map fun p => .cell a p.1 p.2
def cRess (P : Program) : List ResultVar → Option (List ARes)
 | [] => some []
 | r :: l => match cRes P r,cRess P l with | some a,some r => some (a :: r) | _,_ => none
def cFun (P : Program) (fn : Func) : Option AFun := match fn.body with
 | some c => match cCode P fn.ntmps c,cRess P fn.results.toList with
  | some c, some r => if fn.params.size + fn.nfree ≤ fn.ntmps ∧ (fn.name == "runtime.NumGoroutine") = false then some ⟨c, r⟩ else none
  | _,_ => none
 | none => none
end Go.Proofs.Ytlieoghhkioflaa
/- The engine,part 5: own boxes in a world,and what keeps them. No condition. -/
namespace Go.Proofs.Ytlieoghhkioflaa
open Go Go.RowKit
variable {P : Program}
structure Base where
 w : World
 X : Nat → Prop
def Base.lo (b : Base) (g : Nat) : Prop := b.w.heap.size ≤ g ∨ b.X g
structure Base.Under (b : Base) (w : World) : Prop where
 os : w.os = b.w.os
 tape : w.tape = b.w.tape
 output : w.output = b.w.output
 size : b.w.heap.size ≤ w.heap.size
 block : ∀ k,k < b.w.heap.size → ¬ b.X k → w.heap[k]? = b.w.heap[k]?
theorem Base.Under.refl (b : Base) : b.Under b.w := ⟨rfl,rfl,rfl,Nat.le_refl _,fun _ _ _ => rfl⟩
theorem Base.Under.but {b : Base} {w w1 : World} (h : b.Under w) (h1 : w1.os = w.os) (h2 : w1.tape = w.tape) (h3 : w1.output = w.output) (hs : w.heap.size ≤ w1.heap.size) (hb : ∀ k,k < w.heap.size → ¬ b.lo k → w1.heap[k]? = w.heap[k]?) : b.Under w1 :=
 ⟨h1.trans h.os,h2.trans h.tape,h3.trans h.output,Nat.le_trans h.size hs,fun k hk hx => (hb k (Nat.lt_of_lt_of_le hk h.size) (fun e => e.elim (fun e => absurd hk (Nat.not_lt.2 e)) hx)).trans (h.block k hk hx)⟩
theorem Base.Under.trans {b : Base} {w w1 : World} (h : b.Under w) (k : Below w.heap.size w w1) : b.Under w1 := h.but k.os k.tape k.output k.size fun g hg _ => k.block g hg
theorem Base.Under.drew {b : Base} {w : World} (h : b.Under w) : b.Under w.drew := h.but rfl rfl rfl (Nat.le_refl _) fun _ _ _ => rfl
theorem Base.Under.grown {b : Base} {w w1 : World} {row : Option Nat} (h : b.Under w) (hg : w.grownBy w1 row) (hr : ∀ k,row = some k → b.lo k) : b.Under w1 :=
 h.but hg.os hg.tape hg.output hg.size fun k hk hn => hg.block k hk fun e => hn (hr k e.symm)
theorem Base.Under.setRow {b : Base} {w : World} (h : b.Under w) {g : Nat} (hg : b.lo g) (cs : Array Value) : b.Under (w.setRow g cs) :=
 h.but rfl rfl rfl (by simp) fun k _ hn => setRow_other w g k cs fun e => hn (e ▸ hg)
def Al (A0 : Nat → Prop) (w0 : Base) (B : Bmap) (β : Bn → Loc) (g : Nat) : Prop := (A0 g ∨ w0.lo g) ∧ ∀ b c,B b = some c → (β b).a ≠ some g
def LpOk (P : Program) (rec : Loop) (nt : Nat) (ps : List Nat) (ca cb : ACode) : Prop := rec.params.toList = ps ∧ (∀ t ∈ ps,t < nt) ∧ nt ≤ rec.tmps.size ∧ cCode P nt rec.assign = some ca ∧ cCode P nt rec.body = some cb
def StOk (rec : Loop) : Lst → Prop
 | .ready => rec.state = .ready ∧ rec.pending = none
 | .busy => rec.state = .busy
 | .done c => rec.state = .done ∧ rec.pending = some c.code
 | .over => True
def BoxOk (P : Program) (w : World) (A : Nat → Prop) (B : Bmap) (β : Bn → Loc) (base : Nat) (b : Bn) : Box → Prop
 | .cells l => isLB l = true ∧ ∃ g ys t,(β b).a = some g ∧ w.heap[g]? = some (.cells ⟨ys⟩ t (0,0)) ∧ Rep w A B β l (.tuple ⟨ys⟩)
 | .row e k n c => (β b).n = n ∧ 0 < k ∧ n ≤ maxLen ∧ ∃ xs,w.ownsRow base e k (.slice ((β b).a.map fun g => ⟨g,0,none⟩) n (β b).cap) n xs ∧ ∀ i,i < n → ∀ j,j < k → ∃ y,xs[i * k + j]? = some y ∧ y.oneCell' = true ∧ RepP w A (c i j) y
 | .lp g fr ps ca cb st => (β b).a = some g ∧ ∃ rec nt,w.heap[g]? = some (.loop rec) ∧ LpOk P rec nt ps ca cb ∧ StOk rec st ∧ ∀ t,Rep w A B β (fget fr t) (rec.tmps.getD t undef)
 | .it m kd seen last => ∃ g,(β b).a = some g ∧ ∀ mb,m = some mb → MapB B mb kd ∧ ∃ gm,(β mb).a = some gm ∧ IterO w g gm kd seen last
 | .rown e k n c => (β b).n = n ∧ 0 < k ∧ n ≤ maxLen ∧ ∃ xs,w.ownsRow base e k (.slice ((β b).a.map fun g => ⟨g,0,none⟩) n (β b).cap) n xs ∧ ∀ i,i < n → ∀ j,j < k → ∃ y,xs[i * k + j]? = some y ∧ y.oneCell' = true ∧ Rep w A B β (c i j) y
 | .mz kd f => ∃ g h,(β b).a = some g ∧ MapO w g kd h ∧ ∀ k,Rep w A B β (f k) ((h k).getD (.slice none 0 0))
 | .mp kd has f => ∃ g h,(β b).a = some g ∧ MapO w g kd h ∧ ∀ k,(has k = false → h k = none) ∧ (has k = true → ∃ y,h k = some y ∧ Rep w A B β (f k) y)
 | .wc g v => (β b).a = some g ∧ ∃ y t,w.heap[g]? = some (.cells ⟨[y]⟩ t (0,0)) ∧ Rep w A B β v y
structure Mem (P : Program) (A0 : Nat → Prop) (w0 : Base) (β : Bn → Loc) (B : Bmap) (nx : Nat) (w : World) : Prop where
 bx : ∀ b c,B b = some c → BoxOk P w (Al A0 w0 B β) B β 0 b c
 inj : ∀ b c b' c' g,B b = some c → B b' = some c' → b ≠ b' → (β b).a = some g → (β b').a ≠ some g
 nx : ∀ b c,B b = some c → b.id < nx
 base : ∀ b c g,B b = some c → (β b).a = some g → w0.lo g ∧ g < w.heap.size
 below : w0.Under w
abbrev RepM (A0 : Nat → Prop) (w0 : Base) (β : Bn → Loc) (B : Bmap) (w : World) : Val → Value → Prop := Rep w (Al A0 w0 B β) B β
abbrev RepQ (A0 : Nat → Prop) (w0 : Base) (β : Bn → Loc) (B : Bmap) (w : World) : Val → Value → Prop := RepP w (Al A0 w0 B β)
theorem isLB_isL {l : Val} (h : isLB l = true) : isL l := by
 induction l with
 | cons a t _ ih => exact ih h
 | nil => trivial
 | _ => simp [isLB] at h
def extB (B : Bmap) (nx : Nat) : Option Box → Bmap
 | none => B
 | some c => fun b => if b = .n nx then some c else B b
structure Soft (P : Program) (A0 : Nat → Prop) (w0 : Base) (β β1 : Bn → Loc) (B : Bmap) (nx : Nat) (new : Option Box) (w w1 : World) : Prop where
 keep : Below w.heap.size w w1
 loc : ∀ b c,B b = some c → β1 b = β b
 box : ∀ c,new = some c → BoxOk P w1 (Al A0 w0 (extB B nx new) β1) (extB B nx new) β1 0 nx c ∧ ∀ g,(β1 nx).a = some g → w.heap.size ≤ g ∧ g < w1.heap.size
section
variable {A0 : Nat → Prop} {w0 : Base} {β β1 : Bn → Loc} {B : Bmap} {nx : Nat} {new : Option Box} {w w1 : World}
theorem extB_some (h : B nx = none) {b : Bn} {c : Box} (hb : B b = some c) : extB B nx new b = some c := by
 cases new with
 | none => exact hb
 | some d =>
  by_cases e : b = nx
  ·subst e; rw [h] at hb; cases hb
  ·simp [extB,e,hb]
theorem extB_cases {b : Bn} {c : Box} (hb : extB B nx new b = some c) : B b = some c ∨ (b = nx ∧ new = some c) := by
 cases new with
 | none => exact .inl hb
 | some d =>
  by_cases e : b = nx
  ·simp [extB,e] at hb; exact .inr ⟨e,by rw [hb]⟩
  ·simp [extB,e] at hb; exact .inl hb
theorem Soft.al (h : Soft P A0 w0 β β1 B nx new w w1) {N : Nat} (hm : Mem P A0 w0 β B N w) (hB : B nx = none) : ∀ g,g < w.heap.size → Al A0 w0 B β g → Al A0 w0 (extB B nx new) β1 g ∧ w1.heap[g]? = w.heap[g]? := by
 rintro g hg ⟨ha,hn⟩
 refine ⟨⟨ha,fun b c hb e => ?_⟩,h.keep.block g hg⟩
 rcases extB_cases hb with hb | ⟨rfl,hc⟩
 ·rw [h.loc b c hb] at e; exact hn b c hb e
 ·have := ((h.box c hc).2 g e).1; omega
theorem Soft.rep (h : Soft P A0 w0 β β1 B nx new w w1) {N : Nat} (hm : Mem P A0 w0 β B N w) (hB : B nx = none) {v : Val} {x : Value} (hr : RepM A0 w0 β B w v x) : RepM A0 w0 β1 (extB B nx new) w1 v x :=
 Rep.mono h.keep.size (h.al hm hB) (fun b c hb => ⟨c,extB_some hB hb,Kin.refl c,h.loc b c hb⟩) v x hr
theorem BoxOk.mono {w w1 : World} {A A' : Nat → Prop} {B B' : Bmap} {β β' : Bn → Loc} {base : Nat} {b : Bn} {c : Box} (h : BoxOk P w A B β base b c) (hs : w.heap.size ≤ w1.heap.size)
  (hA : ∀ g,g < w.heap.size → A g → A' g ∧ w1.heap[g]? = w.heap[g]?) (hx : ∀ b c,B b = some c → ∃ c',B' b = some c' ∧ Kin c c' ∧ β' b = β b) (hloc : β' b = β b)
  (hg : ∀ g,(β b).a = some g → w1.heap[g]? = w.heap[g]?) (hit : ∀ mb kd seen last,c = .it (some mb) kd seen last → ∀ g,(β mb).a = some g → w1.heap[g]? = w.heap[g]?) : BoxOk P w1 A' B' β' base b c := by
 have rowmono : ∀ {e : TypeId} {k n : Nat} {xs : List Value},w.ownsRow base e k (.slice ((β b).a.map fun g => ⟨g,0,none⟩) n (β b).cap) n xs → w1.ownsRow base e k (.slice ((β' b).a.map fun g => ⟨g,0,none⟩) n (β' b).cap) n xs := by
  intro e k n xs ho
  rw [hloc]
  obtain ⟨hl,ho⟩ := ho
  refine ⟨hl,?_⟩
  rcases ho with ho | ⟨g,cap,cur,e1,e2,e3,e4⟩
  ·exact .inl ho
  ·refine .inr ⟨g,cap,cur,e1,e2,?_,e4⟩
   have : (β b).a = some g := by
    cases ha : (β b).a with
    | none => simp [ha] at e1
    | some g' => simp [ha] at e1; rw [e1.1]
   rw [hg g this]; exact e3
 cases c with
 | cells l =>
  obtain ⟨hl,g,ys,t,h1,h2,h3⟩ := h
  exact ⟨hl,g,ys,t,by rw [hloc]; exact h1,by rw [hg g h1]; exact h2,Rep.mono hs hA hx _ _ h3⟩
 | lp g fr ps ca cb st =>
  obtain ⟨h1,rec,nt,h2,h3,h4,h5⟩ := h
  exact ⟨by rw [hloc]; exact h1,rec,nt,by rw [hg g h1]; exact h2,h3,h4,fun t => Rep.mono hs hA hx _ _ (h5 t)⟩
 | mp kd has f =>
  obtain ⟨g,m,h1,h2,h3⟩ := h
  refine ⟨g,m,by rw [hloc]; exact h1,h2.heap (hg g h1),fun k => ⟨(h3 k).1,fun hk => ?_⟩⟩
  obtain ⟨y,hy,hr⟩ := (h3 k).2 hk
  exact ⟨y,hy,Rep.mono hs hA hx _ _ hr⟩
 | mz kd f =>
  obtain ⟨g,m,h1,h2,h3⟩ := h
  exact ⟨g,m,by rw [hloc]; exact h1,h2.heap (hg g h1),fun k => Rep.mono hs hA hx _ _ (h3 k)⟩
 | wc g v =>
  obtain ⟨h1,y,t,h2,h3⟩ := h
  exact ⟨by rw [hloc]; exact h1,y,t,by rw [hg g h1]; exact h2,Rep.mono hs hA hx _ _ h3⟩
 | it m kd seen last =>
  obtain ⟨g,h1,h2⟩ := h
  refine ⟨g,by rw [hloc]; exact h1,fun mb hmb => ?_⟩
  obtain ⟨⟨c,h3,h3'⟩,gm,h4,h5⟩ := h2 mb hmb
  obtain ⟨c',q1,q2,q3⟩ := hx mb _ h3
  exact ⟨⟨c',q1,q2.map h3'⟩,gm,by rw [q3]; exact h4,h5.heap (hg g h1) (hit mb kd seen last (by rw [hmb]) gm h4)⟩
 | row e k n cc =>
  obtain ⟨h1,hk,hn,xs,ho,hc⟩ := h
  refine ⟨by rw [hloc]; exact h1,hk,hn,xs,rowmono ho,fun i hi j hj => ?_⟩
  obtain ⟨y,hy,ho1,hr⟩ := hc i hi j hj
  exact ⟨y,hy,ho1,RepP.mono hs hA _ _ hr⟩
 | rown e k n cc =>
  obtain ⟨h1,hk,hn,xs,ho,hc⟩ := h
  refine ⟨by rw [hloc]; exact h1,hk,hn,xs,rowmono ho,fun i hi j hj => ?_⟩
  obtain ⟨y,hy,ho1,hr⟩ := hc i hi j hj
  exact ⟨y,hy,ho1,Rep.mono hs hA hx _ _ hr⟩
theorem Soft.mem (h : Soft P A0 w0 β β1 B nx new w w1) {N : Nat} (hm : Mem P A0 w0 β B N w) (hB : B nx = none) {N' : Nat} (hN : N ≤ N') (hn : ∀ c,new = some c → nx < N') : Mem P A0 w0 β1 (extB B nx new) N' w1 where
 bx := by
  intro b c hb
  rcases extB_cases hb with hb | ⟨rfl,hc⟩
  ·exact (hm.bx b c hb).mono h.keep.size (h.al hm hB) (fun b c hb => ⟨c,extB_some hB hb,Kin.refl c,h.loc b c hb⟩) (h.loc b c hb) (fun g hg => h.keep.block g (hm.base b c g hb hg).2) (fun mb kd seen last e g hg => by
    subst e
    obtain ⟨_,_,h2⟩ := hm.bx b _ hb
    obtain ⟨⟨cm,h3,_⟩,_⟩ := h2 mb rfl
    exact h.keep.block g (hm.base mb _ g h3 hg).2)
  ·exact (h.box c hc).1
 inj := by
  intro b c b' c' g hb hb' hne hg hg'
  rcases extB_cases hb with k | ⟨e,hc⟩ <;> rcases extB_cases hb' with k' | ⟨e',hc'⟩
  ·rw [h.loc b c k] at hg; rw [h.loc b' c' k'] at hg'; exact hm.inj b c b' c' g k k' hne hg hg'
  ·rw [h.loc b c k] at hg
   have h1 := (hm.base b c g k hg).2
   rw [e'] at hg'
   have h2 := ((h.box c' hc').2 g hg').1
   omega
  ·rw [h.loc b' c' k'] at hg'
   have h1 := (hm.base b' c' g k' hg').2
   rw [e] at hg
   have h2 := ((h.box c hc).2 g hg).1
   omega
  ·exact hne (e.trans e'.symm)
 nx := by
  intro b c hb
  rcases extB_cases hb with hb | ⟨rfl,hc⟩
  ·exact Nat.lt_of_lt_of_le (hm.nx b c hb) hN
  ·exact hn c hc
 base := by
  intro b c g hb hg
  rcases extB_cases hb with hb | ⟨rfl,hc⟩
  ·rw [h.loc b c hb] at hg
   have h1 := hm.base b c g hb hg
   exact ⟨h1.1,Nat.lt_of_lt_of_le h1.2 h.keep.size⟩
  ·have h2 := (h.box c hc).2 g hg
   exact ⟨.inl (Nat.le_trans hm.below.size h2.1),h2.2⟩
 below := hm.below.trans h.keep
theorem Soft.refl (A0 : Nat → Prop) (w0 : Base) (β : Bn → Loc) (B : Bmap) (nx : Nat) (w : World) : Soft P A0 w0 β β B nx none w w := ⟨Below.refl _ _,fun _ _ _ => rfl,fun c hc => by cases hc⟩
theorem Soft.none (hk : Below w.heap.size w w1) : Soft P A0 w0 β β B nx none w w1 := ⟨hk,fun _ _ _ => rfl,fun c hc => by cases hc⟩
end
def updL (β : Bn → Loc) (nx : Bn) (l : Loc) : Bn → Loc := fun b => if b = nx then l else β b
theorem updL_new (β : Bn → Loc) (nx : Bn) (l : Loc) : updL β nx l nx = l := by simp [updL]
theorem updL_old {B : Bmap} {nx : Bn} (h : B nx = none) (β : Bn → Loc) (l : Loc) {b : Bn} {c : Box} (hb : B b = some c) : updL β nx l b = β b := by
 have : b ≠ nx := fun e => by subst e; rw [h] at hb; cases hb
 simp [updL,this]
theorem Soft.newCells {A0 : Nat → Prop} {w0 : Base} {β : Bn → Loc} {B : Bmap} {nx : Nat} {w : World} {N : Nat} (hm : Mem P A0 w0 β B N w) (hB : B nx = Option.none) {l : Val} (hl : isLB l = true) {ys : List Value} (hr : RepM A0 w0 β B w l (.tuple ⟨ys⟩)) (t : TypeId) :
  Soft P A0 w0 β (updL β nx ⟨some w.heap.size,0,0⟩) B nx (some (.cells l)) w (w.alloc (.cells ⟨ys⟩ t)) where
 keep := (Below.refl _ _).alloc (Nat.le_refl _) _
 loc b c hb := updL_old hB _ _ hb
 box := by
  rintro c ⟨⟩
  refine ⟨⟨hl,w.heap.size,ys,t,by rw [updL_new],heap_new w _,?_⟩,fun g hg => ?_⟩
  ·refine Rep.mono (by simp) (fun g hg hA => ⟨⟨hA.1,fun b c hb e => ?_⟩,Below.heap_alloc w _ g hg⟩) (fun b c hb => ⟨c,extB_some hB hb,Kin.refl c,updL_old hB _ _ hb⟩) _ _ hr
   rcases extB_cases hb with hb | ⟨rfl,_⟩
   ·rw [updL_old hB _ _ hb] at e; exact hA.2 b c hb e
   ·rw [updL_new] at e; simp at e; omega
  ·rw [updL_new] at hg; simp at hg; subst hg; simp
theorem Soft.newMap {A0 : Nat → Prop} {w0 : Base} {β : Bn → Loc} {B : Bmap} {nx : Nat} {w : World} (hB : B nx = Option.none) (kd : IntKind) :
  Soft P A0 w0 β (updL β nx ⟨some w.heap.size,0,0⟩) B nx (some (.mp kd (fun _ => false) fun _ => .und)) w (w.alloc (.map #[] 0)) where
 keep := (Below.refl _ _).alloc (Nat.le_refl _) _
 loc b c hb := updL_old hB _ _ hb
 box := by
  rintro c ⟨⟩
  refine ⟨⟨w.heap.size,_,by rw [updL_new],MapO.new' w kd rfl,fun k => ⟨fun _ => rfl,fun h => by cases h⟩⟩,fun g hg => ?_⟩
  rw [updL_new] at hg; simp at hg; subst hg; simp
theorem Soft.newRow {A0 : Nat → Prop} {w0 : Base} {β : Bn → Loc} {B : Bmap} {nx : Nat} {w : World} {N : Nat} (hm : Mem P A0 w0 β B N w) (hB : B nx = Option.none) {e : TypeId} {k n : Nat} (hk : 0 < k) (hn : n ≤ maxLen) {c : Nat → Nat → Val} {ys : List Value} (hl : ys.length = n * k)
  (hr : ∀ i,i < n → ∀ j,j < k → ∃ y,ys[i * k + j]? = some y ∧ y.oneCell' = true ∧ RepQ A0 w0 β B w (c i j) y) :
  Soft P A0 w0 β (updL β nx ⟨some w.heap.size,n,n⟩) B nx (some (.row e k n c)) w (w.alloc (.cells ⟨ys⟩ e)) where
 keep := (Below.refl _ _).alloc (Nat.le_refl _) _
 loc b c hb := updL_old hB _ _ hb
 box := by
  rintro c ⟨⟩
  refine ⟨⟨by rw [updL_new],hk,hn,ys,⟨hl,?_⟩,fun i hi j hj => ?_⟩,fun g hg => ?_⟩
  ·rw [updL_new]
   exact .inr ⟨w.heap.size,n,⟨ys⟩,rfl,Nat.zero_le _,heap_new w _,Nat.le_refl _,hn,by simpa using hl,by simp [← hl]⟩
  ·obtain ⟨y,hy,ho,hr⟩ := hr i hi j hj
   refine ⟨y,hy,ho,RepP.mono (by simp) (fun g hg hA => ⟨⟨hA.1,fun b c hb e => ?_⟩,Below.heap_alloc w _ g hg⟩) _ _ hr⟩
   rcases extB_cases hb with hb | ⟨rfl,_⟩
   ·rw [updL_old hB _ _ hb] at e; exact hA.2 b c hb e
   ·rw [updL_new] at e; simp at e; omega
  ·rw [updL_new] at hg; simp at hg; subst hg; simp
theorem Soft.newRowN {A0 : Nat → Prop} {w0 : Base} {β : Bn → Loc} {B : Bmap} {nx : Nat} {w : World} {N : Nat} (hm : Mem P A0 w0 β B N w) (hB : B nx = Option.none) {e : TypeId} {k n : Nat} (hk : 0 < k) (hn : n ≤ maxLen) {c : Nat → Nat → Val} {ys : List Value} (hl : ys.length = n * k)
  (hr : ∀ i,i < n → ∀ j,j < k → ∃ y,ys[i * k + j]? = some y ∧ y.oneCell' = true ∧ RepM A0 w0 β B w (c i j) y) :
  Soft P A0 w0 β (updL β nx ⟨some w.heap.size,n,n⟩) B nx (some (.rown e k n c)) w (w.alloc (.cells ⟨ys⟩ e)) where
 keep := (Below.refl _ _).alloc (Nat.le_refl _) _
 loc b c hb := updL_old hB _ _ hb
 box := by
  rintro c ⟨⟩
  refine ⟨⟨by rw [updL_new],hk,hn,ys,⟨hl,?_⟩,fun i hi j hj => ?_⟩,fun g hg => ?_⟩
  ·rw [updL_new]
   exact .inr ⟨w.heap.size,n,⟨ys⟩,rfl,Nat.zero_le _,heap_new w _,Nat.le_refl _,hn,by simpa using hl,by simp [← hl]⟩
  ·obtain ⟨y,hy,ho,hr⟩ := hr i hi j hj
   refine ⟨y,hy,ho,Rep.mono (by simp) (fun g hg hA => ⟨⟨hA.1,fun b c hb e => ?_⟩,Below.heap_alloc w _ g hg⟩) (fun b c hb => ⟨c,extB_some hB hb,Kin.refl c,updL_old hB _ _ hb⟩) _ _ hr⟩
   rcases extB_cases hb with hb | ⟨rfl,_⟩
   ·rw [updL_old hB _ _ hb] at e; exact hA.2 b c hb e
   ·rw [updL_new] at e; simp at e; omega
  ·rw [updL_new] at hg; simp at hg; subst hg; simp
end Go.Proofs.Ytlieoghhkioflaa
