/- From a row's readings to abstract values, by types. No condition. -/
import Derived.Test.YtlapepdhkomijaaDoor
import Derived.Test.YtlapepdhkomijaaE4
import Derived.Deep.Slices
set_option linter.unusedSimpArgs false
set_option linter.unusedVariables false
namespace Go.Proofs.Ytlapepdhkomijaa
open Go Go.RowKit Go.ChangeShapes Go.WideShapes Go.ChangeAt Go.Deep
variable {P : Program}
def OpensAs (P : Program) {α : Type} (R : RT α) (t : TypeId) : Prop := P.cellsOf t = R.k ∧ 0 < R.k ∧
 ∀ (H : Type) (enc : TypeId × Value → H) (W : World) (sp : Nat → Bool) (fuel : Nat) (cs : List Value) (x : DataW H × List MemPlace),DataW.trod enc P W 0 sp true fuel t cs = some x →
  cs.length = R.k ∧ ∃ v : α,∀ j,j < R.k → ∃ y,cs[j]? = some y ∧ y.oneCell' = true ∧ RepP W (fun g => g < W.heap.size) (R.C v j) y
theorem opens_int {t : TypeId} {k : IntKind} (ht : P.underlying t = some (.int k)) (hk : P.cellsOf t = 1) : OpensAs P (RInt k) t := by
 refine ⟨hk,Nat.one_pos,fun H enc W sp fuel cs x h => ?_⟩
 obtain ⟨n,rfl,_,_⟩ := DataW.trod_int ht h
 refine ⟨rfl,n,fun j hj => ?_⟩
 obtain rfl : j = 0 := by have : j < 1 := hj; omega
 exact ⟨_,rfl,rfl,rfl⟩
theorem wf_in {k : IntKind} {n : Int} (h : (Lit.int k n).wf = true) : k.min ≤ n ∧ n ≤ k.max := by
 simp only [Lit.wf,Bool.and_eq_true,decide_eq_true_eq] at h; exact h
theorem opens_ui {t : TypeId} {k : IntKind} (ht : P.underlying t = some (.int k)) (hk : P.cellsOf t = 1) : OpensAs P (RU k) t := by
 refine ⟨hk,Nat.one_pos,fun H enc W sp fuel cs x h => ?_⟩
 obtain ⟨n,rfl,_,hw⟩ := DataW.trod_int ht h
 refine ⟨rfl,⟨n,wf_in hw⟩,fun j hj => ?_⟩
 obtain rfl : j = 0 := by have : j < 1 := hj; omega
 exact ⟨_,rfl,rfl,rfl⟩
theorem opens_slice {α : Type} {R : RT α} {t e : TypeId} (ht : P.underlying t = some (.slice e)) (hk : P.cellsOf t = 1) (he : OpensAs P R e) : OpensAs P (RSl R) t := by
 obtain ⟨hc,h0,he⟩ := he
 refine ⟨hk,Nat.one_pos,fun H enc W sp fuel cs x h => ?_⟩
 rcases open_slice ht h with ⟨rfl,_⟩ | ⟨a,len,cap,m,n,D,Pl,rfl,_,hl,hm,hmm,_,hcell⟩
 ·refine ⟨rfl,(0,fun _ => R.D (fun _ _ => .und) 0),fun j hj => ?_⟩
  obtain rfl : j = 0 := by have : j < 1 := hj; omega
  exact ⟨_,rfl,rfl,none,0,rfl,Nat.zero_le _,Nat.le_refl _,fun h => absurd h (Nat.lt_irrefl _)⟩
 ·have hlm : len ≤ m := by rw [hmm]; split <;> omega
  rw [hc] at hcell
  rcases Nat.eq_zero_or_pos len with hz | hz
  ·subst hz
   refine ⟨rfl,(0,fun _ => R.D (fun _ _ => .und) 0),fun j hj => ?_⟩
   obtain rfl : j = 0 := by have : j < 1 := hj; omega
   exact ⟨_,rfl,rfl,some a,cap,rfl,Nat.zero_le _,hl,fun h => absurd h (Nat.lt_irrefl _)⟩
  ·obtain ⟨b,off,sp'⟩ := a
   have hsp : sp' = none := by
    obtain ⟨cs,h1,_⟩ := hcell 0 (by omega)
    obtain ⟨_,h2,h3⟩ := World.cells?_some h1
    have h4 := h3 0 h0
    cases sp' with
    | none => rfl
    | some s =>
     exfalso
     rw [List.getElem?_eq_getElem (by omega)] at h4
     simp [World.cell?,Addr.add] at h4
     split at h4 <;> simp at h4
   subst hsp
   have aa : ∀ b off j,(⟨b,off,none⟩ : Addr).add j = ⟨b,off + j,none⟩ := fun b off j => by unfold Addr.add; split <;> simp_all
   have hall : ∀ i,∃ v : α,i < len → ∀ j,j < R.k → ∃ y,W.cell? ⟨b,off + i * R.k + j,none⟩ = some y ∧ y.oneCell' = true ∧ RepP W (fun g => g < W.heap.size) (R.C v j) y := by
    intro i
    by_cases hi : i < len
    ·obtain ⟨cs,h1,h2⟩ := hcell i (by omega)
     obtain ⟨_,h3,h4⟩ := World.cells?_some h1
     obtain ⟨hlen,v,hv⟩ := he H enc W _ _ _ _ h2
     refine ⟨v,fun _ j hj => ?_⟩
     obtain ⟨y,hy,ho,hr⟩ := hv j hj
     have := h4 j hj
     rw [aa,aa] at this
     exact ⟨y,this.trans hy,ho,hr⟩
    ·exact ⟨R.D (fun _ _ => .und) 0,fun h => absurd h hi⟩
   refine ⟨rfl,(len,fun i => Classical.choose (hall i)),fun j hj => ?_⟩
   obtain rfl : j = 0 := by have : j < 1 := hj; omega
   refine ⟨_,rfl,rfl,some ⟨b,off,none⟩,cap,rfl,by omega,hl,fun _ => ⟨b,off,rfl,?_,?_,fun i hi j hj => Classical.choose_spec (hall i) hi j hj⟩⟩
   all_goals
    obtain ⟨y,hy,_⟩ := Classical.choose_spec (hall 0) hz 0 h0
    exact cell_lt hy
theorem OpensAs.part {α : Type} {R : RT α} {t : TypeId} (ho : OpensAs P R t) {H : Type} {enc : TypeId × Value → H} {W : World} {sp : Nat → Bool} {fuel o i : Nat} {cs : List Value} {xs : List (DataW H × List MemPlace)} (h : DataW.trod enc P W 0 sp true fuel t ((cs.drop o).take (P.cellsOf t)) = xs[i]?) (hi : i < xs.length) :
  ∃ v : α,∀ j,j < R.k → ∃ y,cs[o + j]? = some y ∧ y.oneCell' = true ∧ RepP W (fun g => g < W.heap.size) (R.C v j) y := by
 obtain ⟨hc,_,ho⟩ := ho
 rw [List.getElem?_eq_getElem hi] at h
 obtain ⟨hl,v,hv⟩ := ho _ _ _ _ _ _ _ h
 refine ⟨v,fun j hj => ?_⟩
 obtain ⟨y,hy,h1,h2⟩ := hv j hj
 refine ⟨y,?_,h1,h2⟩
 rw [hc,List.getElem?_take_of_lt hj,List.getElem?_drop] at hy
 exact hy
section
variable {α : Type} {R : RT α} {t : TypeId} {H : Type} {enc : TypeId × Value → H} {W : World} {v : Value} {d : DataW H} {ps : List MemPlace}
theorem arg_one (ho : OpensAs P R t) (hk : R.k = 1) (hv : v.cells = #[v]) (h : DataW.Trod enc P W 0 (fun _ => true) true t v d ps) :
  ∃ x : α,RepP W (fun g => g < W.heap.size) (R.C x 0) v := by
 obtain ⟨fuel,hf⟩ := h
 obtain ⟨_,_,ho⟩ := ho
 obtain ⟨hl,x,hx⟩ := ho _ _ _ _ _ _ _ hf
 obtain ⟨y,hy,_,hr⟩ := hx 0 (by omega)
 rw [hv] at hy
 simp at hy
 subst hy
 exact ⟨x,hr⟩
end
end Go.Proofs.Ytlapepdhkomijaa
namespace Go.Proofs.Ytlapepdhkomijaa
open Go Go.RowKit
structure Pm where
 id : Int
 mother : Int
 planted : Int
 sex : (UI .u8)
 sort : Int
def Pm.L (x : Pm) : Val := .cons (.int .i64 x.id) (.cons (.int .i64 x.mother) (.cons (.int .i64 x.planted) (.cons (.int .u8 x.sex.1) (.cons (.int .i64 x.sort) (.nil)))))
def Pm.c (x : Pm) : Nat → Val
 | 0 => .int .i64 x.id
 | 1 => .int .i64 x.mother
 | 2 => .int .i64 x.planted
 | 3 => .int .u8 x.sex.1
 | 4 => .int .i64 x.sort
 | _ => .und
theorem Pm.c0 (x : Pm) : Pm.c x 0 = .int .i64 x.id := rfl
theorem Pm.c1 (x : Pm) : Pm.c x 1 = .int .i64 x.mother := rfl
theorem Pm.c2 (x : Pm) : Pm.c x 2 = .int .i64 x.planted := rfl
theorem Pm.c3 (x : Pm) : Pm.c x 3 = .int .u8 x.sex.1 := rfl
theorem Pm.c4 (x : Pm) : Pm.c x 4 = .int .i64 x.sort := rfl
def Pm.d (c : Nat → Val) : Pm := ⟨(c 0).toInt,(c 1).toInt,(c 2).toInt,toUI .u8 (c 3).toInt,(c 4).toInt⟩
def Pm.w (c : Nat → Val) : Prop := (c 0) = .int .i64 ((c 0).toInt) ∧ (c 1) = .int .i64 ((c 1).toInt) ∧ (c 2) = .int .i64 ((c 2).toInt) ∧ ((c 3) = .int .u8 (c 3).toInt ∧ IntKind.min .u8 ≤ (c 3).toInt ∧ (c 3).toInt ≤ IntKind.max .u8) ∧ (c 4) = .int .i64 ((c 4).toInt)
theorem Pm.d_c (x : Pm) : Pm.d (Pm.c x) = x := by
 simp only [Pm.d,Pm.c,Val.toInt,Val.toBool,Val.slen,Val.scell]
 try simp only [toUI_val]
theorem Pm.w_c (x : Pm) : Pm.w (Pm.c x) = True := by
 refine eq_true ?_
 simp only [Pm.w,Pm.c,Val.toInt,Val.toBool,Val.slen,Val.scell,and_self,true_and,and_true]
 exact x.sex.2
theorem Pm.v_c {c : Nat → Val} (h : Pm.w c) : ∀ j,j < 5 → vsubP (Pm.c (Pm.d c) j) (c j) := by
 simp only [Pm.w] at h
 obtain ⟨h0,h1,h2,h3,h4⟩ := h
 intro j hj
 rcases (by omega : j = 0 ∨ j = 1 ∨ j = 2 ∨ j = 3 ∨ j = 4) with rfl | rfl | rfl | rfl | rfl
 ·rw [h0]; rfl
 ·rw [h1]; rfl
 ·rw [h2]; rfl
 ·obtain ⟨e,h⟩ := h3; show vsubP (.int .u8 (toUI .u8 (c 3).toInt).1) (c 3); rw [toUI_in h,vp_int]; exact e
 ·rw [h4]; rfl
def RPm : RT Pm where
 k := 5
 W := fun n c => ∀ i,i < n → Pm.w (c i)
 D := fun c i => Pm.d (c i)
 C := Pm.c
 h1 := fun n c h i hi j hj => Pm.v_c (h i hi) j hj
 h2 := fun x => funext fun i => Pm.d_c (x i)
 w_enc := fun n x i _ => of_eq_true (Pm.w_c (x i))
def Pm.Is : Val → Prop
 | .agg (.cons c0 (.cons c1 (.cons c2 (.cons c3 (.cons c4 .nil))))) => c0 = .int .i64 (c0.toInt) ∧ c1 = .int .i64 (c1.toInt) ∧ c2 = .int .i64 (c2.toInt) ∧ (c3 = .int .u8 c3.toInt ∧ IntKind.min .u8 ≤ c3.toInt ∧ c3.toInt ≤ IntKind.max .u8) ∧ c4 = .int .i64 (c4.toInt)
 | _ => False
def Pm.of (v : Val) : Pm := Pm.d (vget (cellsOf v))
theorem Pm.eta (x : Pm) : (⟨x.id,x.mother,x.planted,x.sex,x.sort⟩ : Pm) = x := rfl
def TPm : VT Pm where
 Is := Pm.Is
 of := Pm.of
 enc := fun x => .agg (Pm.L x)
 h1 := by
  intro v h
  simp only [Pm.Is] at h
  split at h
  ·rename_i c0 c1 c2 c3 c4
   have hv := Pm.v_c (c := fun | 0 => c0 | 1 => c1 | 2 => c2 | 3 => c3 | 4 => c4 | _ => .und) h
   simp only [vp_agg,Pm.L,vp_cons,vp_nil]
   exact ⟨hv 0 (by omega),hv 1 (by omega),hv 2 (by omega),hv 3 (by omega),hv 4 (by omega),trivial⟩
  ·exact h.elim
 h2 := fun x => Pm.d_c x
theorem Pm.is_enc (x : Pm) : Pm.Is (.agg (Pm.L x)) := of_eq_true (Pm.w_c x)
structure Sn where
 lo : Int
 hi : Int
def Sn.L (x : Sn) : Val := .cons (.int .i64 x.lo) (.cons (.int .i64 x.hi) (.nil))
def Sn.c (x : Sn) : Nat → Val
 | 0 => .int .i64 x.lo
 | 1 => .int .i64 x.hi
 | _ => .und
theorem Sn.c0 (x : Sn) : Sn.c x 0 = .int .i64 x.lo := rfl
theorem Sn.c1 (x : Sn) : Sn.c x 1 = .int .i64 x.hi := rfl
def Sn.d (c : Nat → Val) : Sn := ⟨(c 0).toInt,(c 1).toInt⟩
def Sn.w (c : Nat → Val) : Prop := (c 0) = .int .i64 ((c 0).toInt) ∧ (c 1) = .int .i64 ((c 1).toInt)
theorem Sn.d_c (x : Sn) : Sn.d (Sn.c x) = x := by
 simp only [Sn.d,Sn.c,Val.toInt,Val.toBool,Val.slen,Val.scell]
theorem Sn.w_c (x : Sn) : Sn.w (Sn.c x) = True := by
 refine eq_true ?_
 simp only [Sn.w,Sn.c,Val.toInt,Val.toBool,Val.slen,Val.scell,and_self,true_and,and_true]
theorem Sn.v_c {c : Nat → Val} (h : Sn.w c) : ∀ j,j < 2 → vsubP (Sn.c (Sn.d c) j) (c j) := by
 simp only [Sn.w] at h
 obtain ⟨h0,h1⟩ := h
 intro j hj
 rcases (by omega : j = 0 ∨ j = 1) with rfl | rfl
 ·rw [h0]; rfl
 ·rw [h1]; rfl
def RSn : RT Sn where
 k := 2
 W := fun n c => ∀ i,i < n → Sn.w (c i)
 D := fun c i => Sn.d (c i)
 C := Sn.c
 h1 := fun n c h i hi j hj => Sn.v_c (h i hi) j hj
 h2 := fun x => funext fun i => Sn.d_c (x i)
 w_enc := fun n x i _ => of_eq_true (Sn.w_c (x i))
def Sn.Is : Val → Prop
 | .agg (.cons c0 (.cons c1 .nil)) => c0 = .int .i64 (c0.toInt) ∧ c1 = .int .i64 (c1.toInt)
 | _ => False
def Sn.of (v : Val) : Sn := Sn.d (vget (cellsOf v))
theorem Sn.eta (x : Sn) : (⟨x.lo,x.hi⟩ : Sn) = x := rfl
def TSn : VT Sn where
 Is := Sn.Is
 of := Sn.of
 enc := fun x => .agg (Sn.L x)
 h1 := by
  intro v h
  simp only [Sn.Is] at h
  split at h
  ·rename_i c0 c1
   have hv := Sn.v_c (c := fun | 0 => c0 | 1 => c1 | _ => .und) h
   simp only [vp_agg,Sn.L,vp_cons,vp_nil]
   exact ⟨hv 0 (by omega),hv 1 (by omega),trivial⟩
  ·exact h.elim
 h2 := fun x => Sn.d_c x
theorem Sn.is_enc (x : Sn) : Sn.Is (.agg (Sn.L x)) := of_eq_true (Sn.w_c x)
structure Sp where
 palm : Int
 cracks : Sn
def Sp.L (x : Sp) : Val := .cons (.int .i64 x.palm) (.cons (.int .i64 x.cracks.lo) (.cons (.int .i64 x.cracks.hi) (.nil)))
def Sp.c (x : Sp) : Nat → Val
 | 0 => .int .i64 x.palm
 | 1 => .int .i64 x.cracks.lo
 | 2 => .int .i64 x.cracks.hi
 | _ => .und
theorem Sp.c0 (x : Sp) : Sp.c x 0 = .int .i64 x.palm := rfl
theorem Sp.c1 (x : Sp) : Sp.c x 1 = .int .i64 x.cracks.lo := rfl
theorem Sp.c2 (x : Sp) : Sp.c x 2 = .int .i64 x.cracks.hi := rfl
def Sp.d (c : Nat → Val) : Sp := ⟨(c 0).toInt,⟨(c 1).toInt,(c 2).toInt⟩⟩
def Sp.w (c : Nat → Val) : Prop := (c 0) = .int .i64 ((c 0).toInt) ∧ (c 1) = .int .i64 ((c 1).toInt) ∧ (c 2) = .int .i64 ((c 2).toInt)
theorem Sp.d_c (x : Sp) : Sp.d (Sp.c x) = x := by
 simp only [Sp.d,Sp.c,Val.toInt,Val.toBool,Val.slen,Val.scell]
theorem Sp.w_c (x : Sp) : Sp.w (Sp.c x) = True := by
 refine eq_true ?_
 simp only [Sp.w,Sp.c,Val.toInt,Val.toBool,Val.slen,Val.scell,and_self,true_and,and_true]
theorem Sp.v_c {c : Nat → Val} (h : Sp.w c) : ∀ j,j < 3 → vsubP (Sp.c (Sp.d c) j) (c j) := by
 simp only [Sp.w] at h
 obtain ⟨h0,h1,h2⟩ := h
 intro j hj
 rcases (by omega : j = 0 ∨ j = 1 ∨ j = 2) with rfl | rfl | rfl
 ·rw [h0]; rfl
 ·rw [h1]; rfl
 ·rw [h2]; rfl
def RSp : RT Sp where
 k := 3
 W := fun n c => ∀ i,i < n → Sp.w (c i)
 D := fun c i => Sp.d (c i)
 C := Sp.c
 h1 := fun n c h i hi j hj => Sp.v_c (h i hi) j hj
 h2 := fun x => funext fun i => Sp.d_c (x i)
 w_enc := fun n x i _ => of_eq_true (Sp.w_c (x i))
def Sp.Is : Val → Prop
 | .agg (.cons c0 (.cons c1 (.cons c2 .nil))) => c0 = .int .i64 (c0.toInt) ∧ c1 = .int .i64 (c1.toInt) ∧ c2 = .int .i64 (c2.toInt)
 | _ => False
def Sp.of (v : Val) : Sp := Sp.d (vget (cellsOf v))
theorem Sp.eta (x : Sp) : (⟨x.palm,x.cracks⟩ : Sp) = x := rfl
def TSp : VT Sp where
 Is := Sp.Is
 of := Sp.of
 enc := fun x => .agg (Sp.L x)
 h1 := by
  intro v h
  simp only [Sp.Is] at h
  split at h
  ·rename_i c0 c1 c2
   have hv := Sp.v_c (c := fun | 0 => c0 | 1 => c1 | 2 => c2 | _ => .und) h
   simp only [vp_agg,Sp.L,vp_cons,vp_nil]
   exact ⟨hv 0 (by omega),hv 1 (by omega),hv 2 (by omega),trivial⟩
  ·exact h.elim
 h2 := fun x => Sp.d_c x
theorem Sp.is_enc (x : Sp) : Sp.Is (.agg (Sp.L x)) := of_eq_true (Sp.w_c x)
structure Lt where
 palm : Int
 units : Int
 fro : Int
 til : Int
def Lt.L (x : Lt) : Val := .cons (.int .i64 x.palm) (.cons (.int .i64 x.units) (.cons (.int .i64 x.fro) (.cons (.int .i64 x.til) (.nil))))
def Lt.c (x : Lt) : Nat → Val
 | 0 => .int .i64 x.palm
 | 1 => .int .i64 x.units
 | 2 => .int .i64 x.fro
 | 3 => .int .i64 x.til
 | _ => .und
theorem Lt.c0 (x : Lt) : Lt.c x 0 = .int .i64 x.palm := rfl
theorem Lt.c1 (x : Lt) : Lt.c x 1 = .int .i64 x.units := rfl
theorem Lt.c2 (x : Lt) : Lt.c x 2 = .int .i64 x.fro := rfl
theorem Lt.c3 (x : Lt) : Lt.c x 3 = .int .i64 x.til := rfl
def Lt.d (c : Nat → Val) : Lt := ⟨(c 0).toInt,(c 1).toInt,(c 2).toInt,(c 3).toInt⟩
def Lt.w (c : Nat → Val) : Prop := (c 0) = .int .i64 ((c 0).toInt) ∧ (c 1) = .int .i64 ((c 1).toInt) ∧ (c 2) = .int .i64 ((c 2).toInt) ∧ (c 3) = .int .i64 ((c 3).toInt)
theorem Lt.d_c (x : Lt) : Lt.d (Lt.c x) = x := by
 simp only [Lt.d,Lt.c,Val.toInt,Val.toBool,Val.slen,Val.scell]
theorem Lt.w_c (x : Lt) : Lt.w (Lt.c x) = True := by
 refine eq_true ?_
 simp only [Lt.w,Lt.c,Val.toInt,Val.toBool,Val.slen,Val.scell,and_self,true_and,and_true]
theorem Lt.v_c {c : Nat → Val} (h : Lt.w c) : ∀ j,j < 4 → vsubP (Lt.c (Lt.d c) j) (c j) := by
 simp only [Lt.w] at h
 obtain ⟨h0,h1,h2,h3⟩ := h
 intro j hj
 rcases (by omega : j = 0 ∨ j = 1 ∨ j = 2 ∨ j = 3) with rfl | rfl | rfl | rfl
 ·rw [h0]; rfl
 ·rw [h1]; rfl
 ·rw [h2]; rfl
 ·rw [h3]; rfl
def RLt : RT Lt where
 k := 4
 W := fun n c => ∀ i,i < n → Lt.w (c i)
 D := fun c i => Lt.d (c i)
 C := Lt.c
 h1 := fun n c h i hi j hj => Lt.v_c (h i hi) j hj
 h2 := fun x => funext fun i => Lt.d_c (x i)
 w_enc := fun n x i _ => of_eq_true (Lt.w_c (x i))
def Lt.Is : Val → Prop
 | .agg (.cons c0 (.cons c1 (.cons c2 (.cons c3 .nil)))) => c0 = .int .i64 (c0.toInt) ∧ c1 = .int .i64 (c1.toInt) ∧ c2 = .int .i64 (c2.toInt) ∧ c3 = .int .i64 (c3.toInt)
 | _ => False
def Lt.of (v : Val) : Lt := Lt.d (vget (cellsOf v))
theorem Lt.eta (x : Lt) : (⟨x.palm,x.units,x.fro,x.til⟩ : Lt) = x := rfl
def TLt : VT Lt where
 Is := Lt.Is
 of := Lt.of
 enc := fun x => .agg (Lt.L x)
 h1 := by
  intro v h
  simp only [Lt.Is] at h
  split at h
  ·rename_i c0 c1 c2 c3
   have hv := Lt.v_c (c := fun | 0 => c0 | 1 => c1 | 2 => c2 | 3 => c3 | _ => .und) h
   simp only [vp_agg,Lt.L,vp_cons,vp_nil]
   exact ⟨hv 0 (by omega),hv 1 (by omega),hv 2 (by omega),hv 3 (by omega),trivial⟩
  ·exact h.elim
 h2 := fun x => Lt.d_c x
theorem Lt.is_enc (x : Lt) : Lt.Is (.agg (Lt.L x)) := of_eq_true (Lt.w_c x)
structure Wk where
 day : Int
 spathes : Nat × (Nat → Sp)
 hours : Nat × (Nat → Int)
 lots : Nat × (Nat → Lt)
 opn : Int
def Wk.L (x : Wk) : Val := .cons (.int .i64 x.day) (.cons (.view RSp.k (x.spathes).1 fun a b => RSp.C ((x.spathes).2 a) b) (.cons (.view (RInt .i64).k (x.hours).1 fun a b => (RInt .i64).C ((x.hours).2 a) b) (.cons (.view RLt.k (x.lots).1 fun a b => RLt.C ((x.lots).2 a) b) (.cons (.int .i64 x.opn) (.nil)))))
def Wk.c (x : Wk) : Nat → Val
 | 0 => .int .i64 x.day
 | 1 => .view RSp.k (x.spathes).1 fun a b => RSp.C ((x.spathes).2 a) b
 | 2 => .view (RInt .i64).k (x.hours).1 fun a b => (RInt .i64).C ((x.hours).2 a) b
 | 3 => .view RLt.k (x.lots).1 fun a b => RLt.C ((x.lots).2 a) b
 | 4 => .int .i64 x.opn
 | _ => .und
theorem Wk.c0 (x : Wk) : Wk.c x 0 = .int .i64 x.day := rfl
theorem Wk.c1 (x : Wk) : Wk.c x 1 = .view RSp.k (x.spathes).1 fun a b => RSp.C ((x.spathes).2 a) b := rfl
theorem Wk.c2 (x : Wk) : Wk.c x 2 = .view (RInt .i64).k (x.hours).1 fun a b => (RInt .i64).C ((x.hours).2 a) b := rfl
theorem Wk.c3 (x : Wk) : Wk.c x 3 = .view RLt.k (x.lots).1 fun a b => RLt.C ((x.lots).2 a) b := rfl
theorem Wk.c4 (x : Wk) : Wk.c x 4 = .int .i64 x.opn := rfl
def Wk.d (c : Nat → Val) : Wk := ⟨(c 0).toInt,((c 1).slen,RSp.D (c 1).scell),((c 2).slen,(RInt .i64).D (c 2).scell),((c 3).slen,RLt.D (c 3).scell),(c 4).toInt⟩
def Wk.w (c : Nat → Val) : Prop := (c 0) = .int .i64 ((c 0).toInt) ∧ ((c 1) = .view RSp.k (c 1).slen (c 1).scell ∧ RSp.W (c 1).slen (c 1).scell) ∧ ((c 2) = .view (RInt .i64).k (c 2).slen (c 2).scell ∧ (RInt .i64).W (c 2).slen (c 2).scell) ∧ ((c 3) = .view RLt.k (c 3).slen (c 3).scell ∧ RLt.W (c 3).slen (c 3).scell) ∧ (c 4) = .int .i64 ((c 4).toInt)
theorem Wk.d_c (x : Wk) : Wk.d (Wk.c x) = x := by
 simp only [Wk.d,Wk.c,Val.toInt,Val.toBool,Val.slen,Val.scell]
 try simp only [RT.h2]
theorem Wk.w_c (x : Wk) : Wk.w (Wk.c x) = True := by
 refine eq_true ?_
 simp only [Wk.w,Wk.c,Val.toInt,Val.toBool,Val.slen,Val.scell,and_self,true_and,and_true]
 exact ⟨RSp.w_enc _ _,(RInt .i64).w_enc _ _,RLt.w_enc _ _⟩
theorem Wk.v_c {c : Nat → Val} (h : Wk.w c) : ∀ j,j < 5 → vsubP (Wk.c (Wk.d c) j) (c j) := by
 simp only [Wk.w] at h
 obtain ⟨h0,h1,h2,h3,h4⟩ := h
 intro j hj
 rcases (by omega : j = 0 ∨ j = 1 ∨ j = 2 ∨ j = 3 ∨ j = 4) with rfl | rfl | rfl | rfl | rfl
 ·rw [h0]; rfl
 ·obtain ⟨e,h⟩ := h1; rw [e]; simp only [Wk.c,Wk.d,vp_view,Val.slen,Val.scell,true_and]; exact RSp.h1 _ _ h
 ·obtain ⟨e,h⟩ := h2; rw [e]; simp only [Wk.c,Wk.d,vp_view,Val.slen,Val.scell,true_and]; exact (RInt .i64).h1 _ _ h
 ·obtain ⟨e,h⟩ := h3; rw [e]; simp only [Wk.c,Wk.d,vp_view,Val.slen,Val.scell,true_and]; exact RLt.h1 _ _ h
 ·rw [h4]; rfl
def RWk : RT Wk where
 k := 5
 W := fun n c => ∀ i,i < n → Wk.w (c i)
 D := fun c i => Wk.d (c i)
 C := Wk.c
 h1 := fun n c h i hi j hj => Wk.v_c (h i hi) j hj
 h2 := fun x => funext fun i => Wk.d_c (x i)
 w_enc := fun n x i _ => of_eq_true (Wk.w_c (x i))
def Wk.Is : Val → Prop
 | .agg (.cons c0 (.cons c1 (.cons c2 (.cons c3 (.cons c4 .nil))))) => c0 = .int .i64 (c0.toInt) ∧ (c1 = .view RSp.k c1.slen c1.scell ∧ RSp.W c1.slen c1.scell) ∧ (c2 = .view (RInt .i64).k c2.slen c2.scell ∧ (RInt .i64).W c2.slen c2.scell) ∧ (c3 = .view RLt.k c3.slen c3.scell ∧ RLt.W c3.slen c3.scell) ∧ c4 = .int .i64 (c4.toInt)
 | _ => False
def Wk.of (v : Val) : Wk := Wk.d (vget (cellsOf v))
theorem Wk.eta (x : Wk) : (⟨x.day,x.spathes,x.hours,x.lots,x.opn⟩ : Wk) = x := rfl
def TWk : VT Wk where
 Is := Wk.Is
 of := Wk.of
 enc := fun x => .agg (Wk.L x)
 h1 := by
  intro v h
  simp only [Wk.Is] at h
  split at h
  ·rename_i c0 c1 c2 c3 c4
   have hv := Wk.v_c (c := fun | 0 => c0 | 1 => c1 | 2 => c2 | 3 => c3 | 4 => c4 | _ => .und) h
   simp only [vp_agg,Wk.L,vp_cons,vp_nil]
   exact ⟨hv 0 (by omega),hv 1 (by omega),hv 2 (by omega),hv 3 (by omega),hv 4 (by omega),trivial⟩
  ·exact h.elim
 h2 := fun x => Wk.d_c x
theorem Wk.is_enc (x : Wk) : Wk.Is (.agg (Wk.L x)) := of_eq_true (Wk.w_c x)
structure Du where
 spathe : Int
 hour : Int
 lot : Int
def Du.L (x : Du) : Val := .cons (.int .i64 x.spathe) (.cons (.int .i64 x.hour) (.cons (.int .i64 x.lot) (.nil)))
def Du.c (x : Du) : Nat → Val
 | 0 => .int .i64 x.spathe
 | 1 => .int .i64 x.hour
 | 2 => .int .i64 x.lot
 | _ => .und
theorem Du.c0 (x : Du) : Du.c x 0 = .int .i64 x.spathe := rfl
theorem Du.c1 (x : Du) : Du.c x 1 = .int .i64 x.hour := rfl
theorem Du.c2 (x : Du) : Du.c x 2 = .int .i64 x.lot := rfl
def Du.d (c : Nat → Val) : Du := ⟨(c 0).toInt,(c 1).toInt,(c 2).toInt⟩
def Du.w (c : Nat → Val) : Prop := (c 0) = .int .i64 ((c 0).toInt) ∧ (c 1) = .int .i64 ((c 1).toInt) ∧ (c 2) = .int .i64 ((c 2).toInt)
theorem Du.d_c (x : Du) : Du.d (Du.c x) = x := by
 simp only [Du.d,Du.c,Val.toInt,Val.toBool,Val.slen,Val.scell]
theorem Du.w_c (x : Du) : Du.w (Du.c x) = True := by
 refine eq_true ?_
 simp only [Du.w,Du.c,Val.toInt,Val.toBool,Val.slen,Val.scell,and_self,true_and,and_true]
theorem Du.v_c {c : Nat → Val} (h : Du.w c) : ∀ j,j < 3 → vsubP (Du.c (Du.d c) j) (c j) := by
 simp only [Du.w] at h
 obtain ⟨h0,h1,h2⟩ := h
 intro j hj
 rcases (by omega : j = 0 ∨ j = 1 ∨ j = 2) with rfl | rfl | rfl
 ·rw [h0]; rfl
 ·rw [h1]; rfl
 ·rw [h2]; rfl
def RDu : RT Du where
 k := 3
 W := fun n c => ∀ i,i < n → Du.w (c i)
 D := fun c i => Du.d (c i)
 C := Du.c
 h1 := fun n c h i hi j hj => Du.v_c (h i hi) j hj
 h2 := fun x => funext fun i => Du.d_c (x i)
 w_enc := fun n x i _ => of_eq_true (Du.w_c (x i))
def Du.Is : Val → Prop
 | .agg (.cons c0 (.cons c1 (.cons c2 .nil))) => c0 = .int .i64 (c0.toInt) ∧ c1 = .int .i64 (c1.toInt) ∧ c2 = .int .i64 (c2.toInt)
 | _ => False
def Du.of (v : Val) : Du := Du.d (vget (cellsOf v))
theorem Du.eta (x : Du) : (⟨x.spathe,x.hour,x.lot⟩ : Du) = x := rfl
def TDu : VT Du where
 Is := Du.Is
 of := Du.of
 enc := fun x => .agg (Du.L x)
 h1 := by
  intro v h
  simp only [Du.Is] at h
  split at h
  ·rename_i c0 c1 c2
   have hv := Du.v_c (c := fun | 0 => c0 | 1 => c1 | 2 => c2 | _ => .und) h
   simp only [vp_agg,Du.L,vp_cons,vp_nil]
   exact ⟨hv 0 (by omega),hv 1 (by omega),hv 2 (by omega),trivial⟩
  ·exact h.elim
 h2 := fun x => Du.d_c x
theorem Du.is_enc (x : Du) : Du.Is (.agg (Du.L x)) := of_eq_true (Du.w_c x)
structure Cv where
 spathes : Nat × (Nat → Int)
 hours : Nat × (Nat → Int)
 lots : Nat × (Nat → Int)
def Cv.L (x : Cv) : Val := .cons (.view (RInt .i64).k (x.spathes).1 fun a b => (RInt .i64).C ((x.spathes).2 a) b) (.cons (.view (RInt .i64).k (x.hours).1 fun a b => (RInt .i64).C ((x.hours).2 a) b) (.cons (.view (RInt .i64).k (x.lots).1 fun a b => (RInt .i64).C ((x.lots).2 a) b) (.nil)))
def Cv.c (x : Cv) : Nat → Val
 | 0 => .view (RInt .i64).k (x.spathes).1 fun a b => (RInt .i64).C ((x.spathes).2 a) b
 | 1 => .view (RInt .i64).k (x.hours).1 fun a b => (RInt .i64).C ((x.hours).2 a) b
 | 2 => .view (RInt .i64).k (x.lots).1 fun a b => (RInt .i64).C ((x.lots).2 a) b
 | _ => .und
theorem Cv.c0 (x : Cv) : Cv.c x 0 = .view (RInt .i64).k (x.spathes).1 fun a b => (RInt .i64).C ((x.spathes).2 a) b := rfl
theorem Cv.c1 (x : Cv) : Cv.c x 1 = .view (RInt .i64).k (x.hours).1 fun a b => (RInt .i64).C ((x.hours).2 a) b := rfl
theorem Cv.c2 (x : Cv) : Cv.c x 2 = .view (RInt .i64).k (x.lots).1 fun a b => (RInt .i64).C ((x.lots).2 a) b := rfl
def Cv.d (c : Nat → Val) : Cv := ⟨((c 0).slen,(RInt .i64).D (c 0).scell),((c 1).slen,(RInt .i64).D (c 1).scell),((c 2).slen,(RInt .i64).D (c 2).scell)⟩
def Cv.w (c : Nat → Val) : Prop := ((c 0) = .view (RInt .i64).k (c 0).slen (c 0).scell ∧ (RInt .i64).W (c 0).slen (c 0).scell) ∧ ((c 1) = .view (RInt .i64).k (c 1).slen (c 1).scell ∧ (RInt .i64).W (c 1).slen (c 1).scell) ∧ ((c 2) = .view (RInt .i64).k (c 2).slen (c 2).scell ∧ (RInt .i64).W (c 2).slen (c 2).scell)
theorem Cv.d_c (x : Cv) : Cv.d (Cv.c x) = x := by
 simp only [Cv.d,Cv.c,Val.toInt,Val.toBool,Val.slen,Val.scell]
 try simp only [RT.h2]
theorem Cv.w_c (x : Cv) : Cv.w (Cv.c x) = True := by
 refine eq_true ?_
 simp only [Cv.w,Cv.c,Val.toInt,Val.toBool,Val.slen,Val.scell,and_self,true_and,and_true]
 exact ⟨(RInt .i64).w_enc _ _,(RInt .i64).w_enc _ _,(RInt .i64).w_enc _ _⟩
theorem Cv.v_c {c : Nat → Val} (h : Cv.w c) : ∀ j,j < 3 → vsubP (Cv.c (Cv.d c) j) (c j) := by
 simp only [Cv.w] at h
 obtain ⟨h0,h1,h2⟩ := h
 intro j hj
 rcases (by omega : j = 0 ∨ j = 1 ∨ j = 2) with rfl | rfl | rfl
 ·obtain ⟨e,h⟩ := h0; rw [e]; simp only [Cv.c,Cv.d,vp_view,Val.slen,Val.scell,true_and]; exact (RInt .i64).h1 _ _ h
 ·obtain ⟨e,h⟩ := h1; rw [e]; simp only [Cv.c,Cv.d,vp_view,Val.slen,Val.scell,true_and]; exact (RInt .i64).h1 _ _ h
 ·obtain ⟨e,h⟩ := h2; rw [e]; simp only [Cv.c,Cv.d,vp_view,Val.slen,Val.scell,true_and]; exact (RInt .i64).h1 _ _ h
def RCv : RT Cv where
 k := 3
 W := fun n c => ∀ i,i < n → Cv.w (c i)
 D := fun c i => Cv.d (c i)
 C := Cv.c
 h1 := fun n c h i hi j hj => Cv.v_c (h i hi) j hj
 h2 := fun x => funext fun i => Cv.d_c (x i)
 w_enc := fun n x i _ => of_eq_true (Cv.w_c (x i))
def Cv.Is : Val → Prop
 | .agg (.cons c0 (.cons c1 (.cons c2 .nil))) => (c0 = .view (RInt .i64).k c0.slen c0.scell ∧ (RInt .i64).W c0.slen c0.scell) ∧ (c1 = .view (RInt .i64).k c1.slen c1.scell ∧ (RInt .i64).W c1.slen c1.scell) ∧ (c2 = .view (RInt .i64).k c2.slen c2.scell ∧ (RInt .i64).W c2.slen c2.scell)
 | _ => False
def Cv.of (v : Val) : Cv := Cv.d (vget (cellsOf v))
theorem Cv.eta (x : Cv) : (⟨x.spathes,x.hours,x.lots⟩ : Cv) = x := rfl
def TCv : VT Cv where
 Is := Cv.Is
 of := Cv.of
 enc := fun x => .agg (Cv.L x)
 h1 := by
  intro v h
  simp only [Cv.Is] at h
  split at h
  ·rename_i c0 c1 c2
   have hv := Cv.v_c (c := fun | 0 => c0 | 1 => c1 | 2 => c2 | _ => .und) h
   simp only [vp_agg,Cv.L,vp_cons,vp_nil]
   exact ⟨hv 0 (by omega),hv 1 (by omega),hv 2 (by omega),trivial⟩
  ·exact h.elim
 h2 := fun x => Cv.d_c x
theorem Cv.is_enc (x : Cv) : Cv.Is (.agg (Cv.L x)) := of_eq_true (Cv.w_c x)
attribute [go_sem] spec0 spec1 spec2 spec3 spec4 spec5 TSl IsSl TInt IsInt TBool IsBool RInt RBool RSl Prod.eta Pm.L Pm.c0 Pm.c1 Pm.c2 Pm.c3 Pm.c4 Pm.Is Pm.of TPm RPm Pm.w_c Pm.d_c Pm.d Pm.eta Sn.L Sn.c0 Sn.c1 Sn.Is Sn.of TSn RSn Sn.w_c Sn.d_c Sn.d Sn.eta Sp.L Sp.c0 Sp.c1 Sp.c2 Sp.Is Sp.of TSp RSp Sp.w_c Sp.d_c Sp.d Sp.eta Lt.L Lt.c0 Lt.c1 Lt.c2 Lt.c3 Lt.Is Lt.of TLt RLt Lt.w_c Lt.d_c Lt.d Lt.eta Wk.L Wk.c0 Wk.c1 Wk.c2 Wk.c3 Wk.c4 Wk.Is Wk.of TWk RWk Wk.w_c Wk.d_c Wk.d Wk.eta Du.L Du.c0 Du.c1 Du.c2 Du.Is Du.of TDu RDu Du.w_c Du.d_c Du.d Du.eta Cv.L Cv.c0 Cv.c1 Cv.c2 Cv.Is Cv.of TCv RCv Cv.w_c Cv.d_c Cv.d Cv.eta toUI_val
end Go.Proofs.Ytlapepdhkomijaa
namespace Go.Proofs.Ytlapepdhkomijaa
open Go Go.RowKit Go.ChangeShapes Go.WideShapes Go.ChangeAt Go.Deep
theorem Pm.opens {P : Program} {t : TypeId} {fs : Array Field} (ht : P.underlying t = some (.struct fs)) (hk : P.cellsOf t = 5) (hn : fs.size = 5) (f0 : ∃ f,fs[0]? = some f ∧ f.offset = 0 ∧ OpensAs P (RInt .i64) f.type) (f1 : ∃ f,fs[1]? = some f ∧ f.offset = 1 ∧ OpensAs P (RInt .i64) f.type) (f2 : ∃ f,fs[2]? = some f ∧ f.offset = 2 ∧ OpensAs P (RInt .i64) f.type) (f3 : ∃ f,fs[3]? = some f ∧ f.offset = 3 ∧ OpensAs P (RU .u8) f.type) (f4 : ∃ f,fs[4]? = some f ∧ f.offset = 4 ∧ OpensAs P (RInt .i64) f.type) : OpensAs P RPm t := by
 refine ⟨hk,(by decide : 0 < 5),fun H enc W sp fuel cs x h => ?_⟩
 obtain ⟨xs,m,_,_,hlen,hxs,hf⟩ := DataW.trod_struct ht h
 obtain ⟨g0,e0,p0,q0⟩ := f0
 obtain ⟨v0,h0⟩ := q0.part (hf 0 g0 e0) (by omega)
 rw [p0] at h0
 obtain ⟨g1,e1,p1,q1⟩ := f1
 obtain ⟨v1,h1⟩ := q1.part (hf 1 g1 e1) (by omega)
 rw [p1] at h1
 obtain ⟨g2,e2,p2,q2⟩ := f2
 obtain ⟨v2,h2⟩ := q2.part (hf 2 g2 e2) (by omega)
 rw [p2] at h2
 obtain ⟨g3,e3,p3,q3⟩ := f3
 obtain ⟨v3,h3⟩ := q3.part (hf 3 g3 e3) (by omega)
 rw [p3] at h3
 obtain ⟨g4,e4,p4,q4⟩ := f4
 obtain ⟨v4,h4⟩ := q4.part (hf 4 g4 e4) (by omega)
 rw [p4] at h4
 refine ⟨hlen.trans hk,⟨v0,v1,v2,v3,v4⟩,fun j hj => ?_⟩
 rcases (by have : j < 5 := hj; omega : j = 0 ∨ j = 1 ∨ j = 2 ∨ j = 3 ∨ j = 4) with rfl | rfl | rfl | rfl | rfl
 ·exact h0 0 (by decide)
 ·exact h1 0 (by decide)
 ·exact h2 0 (by decide)
 ·exact h3 0 (by decide)
 ·exact h4 0 (by decide)
theorem Sn.opens {P : Program} {t : TypeId} {fs : Array Field} (ht : P.underlying t = some (.struct fs)) (hk : P.cellsOf t = 2) (hn : fs.size = 2) (f0 : ∃ f,fs[0]? = some f ∧ f.offset = 0 ∧ OpensAs P (RInt .i64) f.type) (f1 : ∃ f,fs[1]? = some f ∧ f.offset = 1 ∧ OpensAs P (RInt .i64) f.type) : OpensAs P RSn t := by
 refine ⟨hk,(by decide : 0 < 2),fun H enc W sp fuel cs x h => ?_⟩
 obtain ⟨xs,m,_,_,hlen,hxs,hf⟩ := DataW.trod_struct ht h
 obtain ⟨g0,e0,p0,q0⟩ := f0
 obtain ⟨v0,h0⟩ := q0.part (hf 0 g0 e0) (by omega)
 rw [p0] at h0
 obtain ⟨g1,e1,p1,q1⟩ := f1
 obtain ⟨v1,h1⟩ := q1.part (hf 1 g1 e1) (by omega)
 rw [p1] at h1
 refine ⟨hlen.trans hk,⟨v0,v1⟩,fun j hj => ?_⟩
 rcases (by have : j < 2 := hj; omega : j = 0 ∨ j = 1) with rfl | rfl
 ·exact h0 0 (by decide)
 ·exact h1 0 (by decide)
theorem Sp.opens {P : Program} {t : TypeId} {fs : Array Field} (ht : P.underlying t = some (.struct fs)) (hk : P.cellsOf t = 3) (hn : fs.size = 2) (f0 : ∃ f,fs[0]? = some f ∧ f.offset = 0 ∧ OpensAs P (RInt .i64) f.type) (f1 : ∃ f,fs[1]? = some f ∧ f.offset = 1 ∧ OpensAs P RSn f.type) : OpensAs P RSp t := by
 refine ⟨hk,(by decide : 0 < 3),fun H enc W sp fuel cs x h => ?_⟩
 obtain ⟨xs,m,_,_,hlen,hxs,hf⟩ := DataW.trod_struct ht h
 obtain ⟨g0,e0,p0,q0⟩ := f0
 obtain ⟨v0,h0⟩ := q0.part (hf 0 g0 e0) (by omega)
 rw [p0] at h0
 obtain ⟨g1,e1,p1,q1⟩ := f1
 obtain ⟨v1,h1⟩ := q1.part (hf 1 g1 e1) (by omega)
 rw [p1] at h1
 refine ⟨hlen.trans hk,⟨v0,v1⟩,fun j hj => ?_⟩
 rcases (by have : j < 3 := hj; omega : j = 0 ∨ j = 1 ∨ j = 2) with rfl | rfl | rfl
 ·exact h0 0 (by decide)
 ·exact h1 0 (by decide)
 ·exact h1 1 (by decide)
theorem Lt.opens {P : Program} {t : TypeId} {fs : Array Field} (ht : P.underlying t = some (.struct fs)) (hk : P.cellsOf t = 4) (hn : fs.size = 4) (f0 : ∃ f,fs[0]? = some f ∧ f.offset = 0 ∧ OpensAs P (RInt .i64) f.type) (f1 : ∃ f,fs[1]? = some f ∧ f.offset = 1 ∧ OpensAs P (RInt .i64) f.type) (f2 : ∃ f,fs[2]? = some f ∧ f.offset = 2 ∧ OpensAs P (RInt .i64) f.type) (f3 : ∃ f,fs[3]? = some f ∧ f.offset = 3 ∧ OpensAs P (RInt .i64) f.type) : OpensAs P RLt t := by
 refine ⟨hk,(by decide : 0 < 4),fun H enc W sp fuel cs x h => ?_⟩
 obtain ⟨xs,m,_,_,hlen,hxs,hf⟩ := DataW.trod_struct ht h
 obtain ⟨g0,e0,p0,q0⟩ := f0
 obtain ⟨v0,h0⟩ := q0.part (hf 0 g0 e0) (by omega)
 rw [p0] at h0
 obtain ⟨g1,e1,p1,q1⟩ := f1
 obtain ⟨v1,h1⟩ := q1.part (hf 1 g1 e1) (by omega)
 rw [p1] at h1
 obtain ⟨g2,e2,p2,q2⟩ := f2
 obtain ⟨v2,h2⟩ := q2.part (hf 2 g2 e2) (by omega)
 rw [p2] at h2
 obtain ⟨g3,e3,p3,q3⟩ := f3
 obtain ⟨v3,h3⟩ := q3.part (hf 3 g3 e3) (by omega)
 rw [p3] at h3
 refine ⟨hlen.trans hk,⟨v0,v1,v2,v3⟩,fun j hj => ?_⟩
 rcases (by have : j < 4 := hj; omega : j = 0 ∨ j = 1 ∨ j = 2 ∨ j = 3) with rfl | rfl | rfl | rfl
 ·exact h0 0 (by decide)
 ·exact h1 0 (by decide)
 ·exact h2 0 (by decide)
 ·exact h3 0 (by decide)
theorem Wk.opens {P : Program} {t : TypeId} {fs : Array Field} (ht : P.underlying t = some (.struct fs)) (hk : P.cellsOf t = 5) (hn : fs.size = 5) (f0 : ∃ f,fs[0]? = some f ∧ f.offset = 0 ∧ OpensAs P (RInt .i64) f.type) (f1 : ∃ f,fs[1]? = some f ∧ f.offset = 1 ∧ OpensAs P (RSl RSp) f.type) (f2 : ∃ f,fs[2]? = some f ∧ f.offset = 2 ∧ OpensAs P (RSl (RInt .i64)) f.type) (f3 : ∃ f,fs[3]? = some f ∧ f.offset = 3 ∧ OpensAs P (RSl RLt) f.type) (f4 : ∃ f,fs[4]? = some f ∧ f.offset = 4 ∧ OpensAs P (RInt .i64) f.type) : OpensAs P RWk t := by
 refine ⟨hk,(by decide : 0 < 5),fun H enc W sp fuel cs x h => ?_⟩
 obtain ⟨xs,m,_,_,hlen,hxs,hf⟩ := DataW.trod_struct ht h
 obtain ⟨g0,e0,p0,q0⟩ := f0
 obtain ⟨v0,h0⟩ := q0.part (hf 0 g0 e0) (by omega)
 rw [p0] at h0
 obtain ⟨g1,e1,p1,q1⟩ := f1
 obtain ⟨v1,h1⟩ := q1.part (hf 1 g1 e1) (by omega)
 rw [p1] at h1
 obtain ⟨g2,e2,p2,q2⟩ := f2
 obtain ⟨v2,h2⟩ := q2.part (hf 2 g2 e2) (by omega)
 rw [p2] at h2
 obtain ⟨g3,e3,p3,q3⟩ := f3
 obtain ⟨v3,h3⟩ := q3.part (hf 3 g3 e3) (by omega)
 rw [p3] at h3
 obtain ⟨g4,e4,p4,q4⟩ := f4
 obtain ⟨v4,h4⟩ := q4.part (hf 4 g4 e4) (by omega)
 rw [p4] at h4
 refine ⟨hlen.trans hk,⟨v0,v1,v2,v3,v4⟩,fun j hj => ?_⟩
 rcases (by have : j < 5 := hj; omega : j = 0 ∨ j = 1 ∨ j = 2 ∨ j = 3 ∨ j = 4) with rfl | rfl | rfl | rfl | rfl
 ·exact h0 0 (by decide)
 ·exact h1 0 (by decide)
 ·exact h2 0 (by decide)
 ·exact h3 0 (by decide)
 ·exact h4 0 (by decide)
theorem oPm : OpensAs Try.prog RPm 43 := Pm.opens Try.underlying43 (by kernel_rfl) rfl ⟨_,rfl,rfl,(opens_int Try.underlying3 (by kernel_rfl))⟩ ⟨_,rfl,rfl,(opens_int Try.underlying3 (by kernel_rfl))⟩ ⟨_,rfl,rfl,(opens_int Try.underlying3 (by kernel_rfl))⟩ ⟨_,rfl,rfl,(opens_ui Try.underlying5 (by kernel_rfl))⟩ ⟨_,rfl,rfl,(opens_int Try.underlying3 (by kernel_rfl))⟩
end Go.Proofs.Ytlapepdhkomijaa
