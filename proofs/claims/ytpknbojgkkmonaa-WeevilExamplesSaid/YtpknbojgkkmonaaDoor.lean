/- From a row's readings to a walk's facts: slices of structs opened; what the arguments read as is kept. No condition. -/
import Derived.Test.YtpknbojgkkmonaaRows
import Derived.Test.YtpknbojgkkmonaaE1
import Derived.ProofKit
import Derived.Deep.Slices
import Derived.OpenShut
set_option linter.unusedSimpArgs false
set_option linter.unusedVariables false
namespace Go.Proofs.Ytpknbojgkkmonaa
open Go Go.RowKit Go.ChangeShapes Go.WideShapes Go.ChangeAt Go.Deep
theorem doorOwn : ownKnob Try.prog.godebug = none := by kernel_rfl
theorem doorLaid : laidOutB Try.prog = true := by kernel_rfl
section
variable {H : Type} {enc : TypeId × Value → H} {W W' : World}
theorem trodAll_below {P : Program} (hl : laidOutB P = true) (hb : Ext W W') : ∀ (ts : List TypeId) (vs : List Value) (ds : List (DataW H)) (ps : List MemPlace),(∀ t ∈ ts,P.readableRec t = true ∧ t < P.types.size) →
    DataW.TrodAll enc P W 0 (fun _ => true) true ts vs ds ps → (∀ x ∈ ps,x.block < W.heap.size) → DataW.TrodAll enc P W' 0 (fun b => decide (b < W.heap.size)) true ts vs ds ps
  | [],[],[],ps,_,h,_ => h
  | t :: ts,v :: vs,d :: ds,ps,ht,h,hlt => by
    obtain ⟨p,q,h1,h2,rfl⟩ := h
    have := ht t (by simp)
    exact ⟨p,q,Below.trod hl this.1 this.2 h1 hb (fun x hx => hlt x (by simp [hx])),trodAll_below hl hb ts vs ds q (fun t' ht' => ht t' (by simp [ht'])) h2 (fun x hx => hlt x (by simp [hx])),rfl⟩
  | [],_ :: _,_,_,_,h,_ => by simp [DataW.TrodAll] at h
  | [],[],_ :: _,_,_,h,_ => by simp [DataW.TrodAll] at h
  | _ :: _,[],_,_,_,h,_ => by simp [DataW.TrodAll] at h
  | _ :: _,_ :: _,[],_,_,h,_ => by simp [DataW.TrodAll] at h
theorem law_post {f : Func} {s : ChangeSpec} {args : Array Value} {ds : List (DataW H)} {before : List MemPlace} (hsv : s.vars = []) (hfn : s.fn H ds = { results := [.lit (.bool true)],args := ds })
    (hp : ∀ t ∈ f.params.toList,Try.prog.readableRec t = true ∧ t < Try.prog.types.size) (hr : f.resultTypes = #[4])
    (hW : DataW.Whole enc Try.prog f.params.toList s.vars false W args.toList ds [] before) (hb : Ext W W') : s.post enc Try.prog f false true false false W args (.bool true) W' := by
  have hW' := hW
  have hlt := fun p hp => hW.lt (p := p) hp
  obtain ⟨p,q,hA,hV,rfl,hfz,hnd⟩ := hW
  rw [hsv] at hV
  obtain ⟨_,rfl⟩ := trodVars_none hV
  simp only [List.append_nil] at hW' hlt ⊢
  refine ⟨ds,[],p,[],p,[],hW',?_,?_,?_,hb.frame _,fun h => by cases h⟩
  · rw [List.append_nil,hfn,hr]
    exact trodAll_mk1 (shut_bool Try.underlying4 true)
  · rw [List.append_nil,hfn]
    exact trodAll_below doorLaid hb _ _ _ _ hp hA (fun x hx => hlt x hx)
  · rw [hsv,List.append_nil,hfn]; rfl
theorem open_cells {P : Program} {t e : TypeId} {v : Value} {d : DataW H} {ps : List MemPlace} {k : Nat} (ht : P.underlying t = some (.slice e)) (hk : P.cellsOf e = k) (h0 : 0 < k) (hv : ∃ a n c,v = .slice a n c) (h : DataW.Trod enc P W 0 (fun _ => true) true t v d ps) :
    v = .slice none 0 0 ∨ ∃ ad n c,v = .slice (some ad) n c ∧ n ≤ c ∧ c ≤ maxLen ∧ (0 < n → ∃ b off,ad = ⟨b,off,none⟩ ∧ ∀ i,i < n → ∃ cs fuel x,cs.length = k ∧ (∀ j,j < k → W.cell? ⟨b,off + i * k + j,none⟩ = cs[j]?) ∧ DataW.trod enc P W 0 (fun _ => true) true fuel e cs = some x) := by
  obtain ⟨fuel,hf⟩ := h
  obtain ⟨a0,n0,c0,rfl⟩ := hv
  rcases open_slice ht hf with ⟨h1,_⟩ | ⟨a,len,cap,m,n,D,Pl,hcs,_,hl,hm,hmm,hx,hcell⟩
  · left
    simpa [Value.cells] using h1
  · right
    have hcs' : a0 = some a ∧ n0 = len ∧ c0 = cap := by simpa [Value.cells] using hcs
    obtain ⟨rfl,rfl,rfl⟩ := hcs'
    simp at hmm
    subst hmm
    rw [hk] at hcell
    refine ⟨a,n0,m,rfl,hl,hm,fun hn => ?_⟩
    obtain ⟨b,off,sp⟩ := a
    have hsp : sp = none := by
      obtain ⟨cs,h1,_⟩ := hcell 0 (by omega)
      obtain ⟨_,h2,h3⟩ := World.cells?_some h1
      have h4 := h3 0 h0
      cases sp with
      | none => rfl
      | some s =>
        exfalso
        rw [List.getElem?_eq_getElem (by omega)] at h4
        simp [World.cell?,Addr.add] at h4
        split at h4 <;> simp at h4
    subst hsp
    refine ⟨b,off,rfl,fun i hi => ?_⟩
    obtain ⟨cs,h1,h2⟩ := hcell i (by omega)
    obtain ⟨_,h3,h4⟩ := World.cells?_some h1
    refine ⟨cs,n,_,h3,fun j hj => ?_,h2⟩
    have := h4 j hj
    have e1 : ((⟨b,off,none⟩ : Addr).add (i * k)).add j = ⟨b,off + i * k + j,none⟩ := by
      have aa : ∀ b off j,(⟨b,off,none⟩ : Addr).add j = ⟨b,off + j,none⟩ := fun b off j => by unfold Addr.add; split <;> simp_all
      rw [aa,aa]
    rw [e1] at this
    exact this
end
end Go.Proofs.Ytpknbojgkkmonaa
