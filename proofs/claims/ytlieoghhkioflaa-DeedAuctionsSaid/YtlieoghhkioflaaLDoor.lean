/- From a row's readings to abstract values, by types. No condition. -/
import Derived.Test.YtlieoghhkioflaaDoor
import Derived.Test.YtlieoghhkioflaaE4
set_option linter.unusedSimpArgs false
set_option linter.unusedVariables false
namespace Go.Proofs.Ytlieoghhkioflaa
open Go Go.RowKit Go.ChangeShapes Go.WideShapes Go.ChangeAt Go.Deep
variable {P : Program}
def OpensAs (P : Program) {α : Type} (R : RT α) (t : TypeId) : Prop := P.cellsOf t = R.k ∧ 0 < R.k ∧
 ∀ (H : Type) (enc : TypeId × Value → H) (W : World) (sp : Nat → Bool) (fuel : Nat) (cs : List Value) (x : DataW H × List MemPlace),DataW.trod enc P W 0 sp true fuel t cs = some x →
  cs.length = R.k ∧ ∃ v : α,∀ j,j < R.k → ∃ y,cs[j]? = some y ∧ y.oneCell' = true ∧ RepP W (fun g => g < W.heap.size) (R.C v j) y
theorem opens_int {t : TypeId} {k : IntKind} (ht : P.underlying t = some (.int k)) (hk : P.cellsOf t = 1) : OpensAs P (RInt k) t := by
 refine ⟨hk,Nat.one_pos,fun H enc W sp fuel cs x h => ?_⟩
 obtain ⟨n,rfl,_,_⟩ := DataW.trod_int ht h
 refine ⟨rfl,n,fun j hj => ?_⟩
 obtain rfl : j = 0 := by have : j < 1 := hj; omega
 exact ⟨_,rfl,rfl,rfl⟩
theorem opens_slice {α : Type} {R : RT α} {t e : TypeId} (ht : P.underlying t = some (.slice e)) (hk : P.cellsOf t = 1) (he : OpensAs P R e) : OpensAs P (RSl R) t := by
 obtain ⟨hc,h0,he⟩ := he
 refine ⟨hk,Nat.one_pos,fun H enc W sp fuel cs x h => ?_⟩
 rcases open_slice ht h with ⟨rfl,_⟩ | ⟨a,len,cap,m,n,D,Pl,rfl,_,hl,hm,hmm,_,hcell⟩
 ·refine ⟨rfl,(0,fun _ => R.D (fun _ _ => .und) 0),fun j hj => ?_⟩
  obtain rfl : j = 0 := by have : j < 1 := hj; omega
  exact ⟨_,rfl,rfl,none,0,rfl,Nat.zero_le _,Nat.le_refl _,fun h => absurd h (Nat.lt_irrefl _)⟩
 ·have hlm : len ≤ m := by rw [hmm]; split <;> omega
  rw [hc] at hcell
  rcases Nat.eq_zero_or_pos len with hz | hz
  ·subst hz
   refine ⟨rfl,(0,fun _ => R.D (fun _ _ => .und) 0),fun j hj => ?_⟩
   obtain rfl : j = 0 := by have : j < 1 := hj; omega
   exact ⟨_,rfl,rfl,some a,cap,rfl,Nat.zero_le _,hl,fun h => absurd h (Nat.lt_irrefl _)⟩
  ·obtain ⟨b,off,sp'⟩ := a
   have hsp : sp' = none := by
    obtain ⟨cs,h1,_⟩ := hcell 0 (by omega)
    obtain ⟨_,h2,h3⟩ := World.cells?_some h1
    have h4 := h3 0 h0
    cases sp' with
    | none => rfl
    | some s =>
     exfalso
     rw [List.getElem?_eq_getElem (by omega)] at h4
     simp [World.cell?,Addr.add] at h4
     split at h4 <;> simp at h4
   subst hsp
   have aa : ∀ b off j,(⟨b,off,none⟩ : Addr).add j = ⟨b,off + j,none⟩ := fun b off j => by unfold Addr.add; split <;> simp_all
   have hall : ∀ i,∃ v : α,i < len → ∀ j,j < R.k → ∃ y,W.cell? ⟨b,off + i * R.k + j,none⟩ = some y ∧ y.oneCell' = true ∧ RepP W (fun g => g < W.heap.size) (R.C v j) y := by
    intro i
    by_cases hi : i < len
    ·obtain ⟨cs,h1,h2⟩ := hcell i (by omega)
     obtain ⟨_,h3,h4⟩ := World.cells?_some h1
     obtain ⟨hlen,v,hv⟩ := he H enc W _ _ _ _ h2
     refine ⟨v,fun _ j hj => ?_⟩
     obtain ⟨y,hy,ho,hr⟩ := hv j hj
     have := h4 j hj
     rw [aa,aa] at this
     exact ⟨y,this.trans hy,ho,hr⟩
    ·exact ⟨R.D (fun _ _ => .und) 0,fun h => absurd h hi⟩
   refine ⟨rfl,(len,fun i => Classical.choose (hall i)),fun j hj => ?_⟩
   obtain rfl : j = 0 := by have : j < 1 := hj; omega
   refine ⟨_,rfl,rfl,some ⟨b,off,none⟩,cap,rfl,by omega,hl,fun _ => ⟨b,off,rfl,?_,?_,fun i hi j hj => Classical.choose_spec (hall i) hi j hj⟩⟩
   all_goals
    obtain ⟨y,hy,_⟩ := Classical.choose_spec (hall 0) hz 0 h0
    exact cell_lt hy
theorem OpensAs.part {α : Type} {R : RT α} {t : TypeId} (ho : OpensAs P R t) {H : Type} {enc : TypeId × Value → H} {W : World} {sp : Nat → Bool} {fuel o i : Nat} {cs : List Value} {xs : List (DataW H × List MemPlace)} (h : DataW.trod enc P W 0 sp true fuel t ((cs.drop o).take (P.cellsOf t)) = xs[i]?) (hi : i < xs.length) :
  ∃ v : α,∀ j,j < R.k → ∃ y,cs[o + j]? = some y ∧ y.oneCell' = true ∧ RepP W (fun g => g < W.heap.size) (R.C v j) y := by
 obtain ⟨hc,_,ho⟩ := ho
 rw [List.getElem?_eq_getElem hi] at h
 obtain ⟨hl,v,hv⟩ := ho _ _ _ _ _ _ _ h
 refine ⟨v,fun j hj => ?_⟩
 obtain ⟨y,hy,h1,h2⟩ := hv j hj
 refine ⟨y,?_,h1,h2⟩
 rw [hc,List.getElem?_take_of_lt hj,List.getElem?_drop] at hy
 exact hy
section
variable {α : Type} {R : RT α} {t : TypeId} {H : Type} {enc : TypeId × Value → H} {W : World} {v : Value} {d : DataW H} {ps : List MemPlace}
theorem arg_agg {fs : Array Field} {base : Nat} {r : Reach} (ho : OpensAs P R t) (hs : P.underlying t = some (.struct fs)) (hv : Value.okWide P W r base t v) (h : DataW.Trod enc P W 0 (fun _ => true) true t v d ps) :
  ∃ x : α,RepP W (fun g => g < W.heap.size) (.agg (vtab (R.C x) 0 R.k)) v := by
 obtain ⟨cs,rfl,_⟩ := okWide_struct hs hv
 obtain ⟨fuel,hf⟩ := h
 obtain ⟨_,_,ho⟩ := ho
 obtain ⟨hl,x,hx⟩ := ho _ _ _ _ _ _ _ hf
 have hl : cs.toList.length = R.k := hl
 refine ⟨x,cs.toList,rfl,RepP.tab _ _ _ _ hl fun i hi => ?_⟩
 obtain ⟨y,hy,_,hr⟩ := hx i hi
 rw [Nat.zero_add]
 have : cs.toList.getD i undef = y := by
  have hy : cs.toList[i]? = some y := hy
  rw [List.getD_eq_getElem?_getD,hy]; rfl
 rw [this]; exact hr
theorem arg_one (ho : OpensAs P R t) (hk : R.k = 1) (hv : v.cells = #[v]) (h : DataW.Trod enc P W 0 (fun _ => true) true t v d ps) :
  ∃ x : α,RepP W (fun g => g < W.heap.size) (R.C x 0) v := by
 obtain ⟨fuel,hf⟩ := h
 obtain ⟨_,_,ho⟩ := ho
 obtain ⟨hl,x,hx⟩ := ho _ _ _ _ _ _ _ hf
 obtain ⟨y,hy,_,hr⟩ := hx 0 (by omega)
 rw [hv] at hy
 simp at hy
 subst hy
 exact ⟨x,hr⟩
end
end Go.Proofs.Ytlieoghhkioflaa
