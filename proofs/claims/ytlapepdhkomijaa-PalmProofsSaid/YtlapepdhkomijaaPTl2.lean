/- Which names values, frames and boxes hold. No condition. -/
import Derived.Test.YtlapepdhkomijaaPTl
set_option linter.unusedSimpArgs false
set_option linter.unusedVariables false
namespace Go.Proofs.Ytlapepdhkomijaa
open Go Go.RowKit
def nmB (B : Nat) : Val → Bool
 | .own b | .ptr b _ | .rptr b _ _ | .mapb b | .yld b => Nat.blt b.id B
 | .cons h t => nmB B h && nmB B t
 | .agg l | .tup l | .func _ l => nmB B l
 | _ => true
def nmD (D : Bn → Prop) : Val → Prop
 | .own b | .ptr b _ | .rptr b _ _ | .mapb b | .yld b => D b
 | .cons h t => nmD D h ∧ nmD D t
 | .agg l | .tup l | .func _ l => nmD D l
 | _ => True
theorem blt_ne {B : Nat} {b x : Bn} (h : Nat.blt b.id B = true) (hx : B ≤ x.id) : ¬ b = x := fun e => by
 subst e
 have : b.id < B := by simpa [Nat.blt_eq] using h
 omega
theorem subV_nm {B : Nat} {b : Bn} {r : Val} (hb : B ≤ b.id) : ∀ v : Val,nmB B v = true → subV b r v = v := by
 intro v
 induction v with
 | own b' => intro h; simp only [subV]; rw [if_neg (blt_ne h hb)]
 | ptr b' o => intro h; simp only [subV]; rw [if_neg (blt_ne h hb)]
 | rptr b' i o => intro h; simp only [subV]; rw [if_neg (blt_ne h hb)]
 | mapb b' => intro h; simp only [subV]; rw [if_neg (blt_ne h hb)]
 | yld b' => intro h; simp only [subV]; rw [if_neg (blt_ne h hb)]
 | cons a t ih1 ih2 => intro h; simp only [nmB,Bool.and_eq_true] at h; simp only [subV,ih1 h.1,ih2 h.2]
 | agg l ih => intro h; simp only [subV,ih h]
 | tup l ih => intro h; simp only [subV,ih h]
 | func fn l ih => intro h; simp only [subV,ih h]
 | _ => intro _; rfl
theorem renV_nm {B : Nat} {b y : Bn} (hb : B ≤ b.id) : ∀ v : Val,nmB B v = true → renV b y v = v := by
 intro v
 induction v with
 | own b' => intro h; simp only [renV]; rw [if_neg (blt_ne h hb)]
 | ptr b' o => intro h; simp only [renV]; rw [if_neg (blt_ne h hb)]
 | rptr b' i o => intro h; simp only [renV]; rw [if_neg (blt_ne h hb)]
 | mapb b' => intro h; simp only [renV]; rw [if_neg (blt_ne h hb)]
 | yld b' => intro h; simp only [renV]; rw [if_neg (blt_ne h hb)]
 | cons a t ih1 ih2 => intro h; simp only [nmB,Bool.and_eq_true] at h; simp only [renV,ih1 h.1,ih2 h.2]
 | agg l ih => intro h; simp only [renV,ih h]
 | tup l ih => intro h; simp only [renV,ih h]
 | func fn l ih => intro h; simp only [renV,ih h]
 | _ => intro _; rfl
def nmFr (B : Nat) : Fr → Bool
 | [] => true
 | (_,v) :: l => nmB B v && nmFr B l
theorem subFr_nm {B : Nat} {b : Bn} {r : Val} (hb : B ≤ b.id) : ∀ fr : Fr,nmFr B fr = true → subFr b r fr = fr
 | [],_ => rfl
 | (t,v) :: l,h => by
  simp only [nmFr,Bool.and_eq_true] at h
  simp only [subFr,subV_nm hb v h.1,subFr_nm hb l h.2]
theorem renFr_nm {B : Nat} {b y : Bn} (hb : B ≤ b.id) : ∀ fr : Fr,nmFr B fr = true → renFr b y fr = fr
 | [],_ => rfl
 | (t,v) :: l,h => by
  simp only [nmFr,Bool.and_eq_true] at h
  simp only [renFr,renV_nm hb v h.1,renFr_nm hb l h.2]
def nmStk (B : Nat) : List SFrame → Bool
 | [] => true
 | f :: l => nmFr B f.fr && Nat.ble f.nx B && nmStk B l
theorem subStk_nm {B : Nat} {b : Bn} {r : Val} (hb : B ≤ b.id) : ∀ s : List SFrame,nmStk B s = true → subStk b r s = s
 | [],_ => rfl
 | f :: l,h => by
  simp only [nmStk,Bool.and_eq_true] at h
  simp only [subStk,subFr_nm hb f.fr h.1.1,subStk_nm hb l h.2]
theorem stkNx_nm {B : Nat} : ∀ s : List SFrame,nmStk B s = true → ∀ n ∈ stkNx s,n ≤ B
 | [],_,n,hn => by cases hn
 | f :: l,h,n,hn => by
  simp only [nmStk,Bool.and_eq_true] at h
  rcases List.mem_cons.1 hn with rfl | hn
  ·exact Nat.le_of_ble_eq_true h.1.2
  ·exact stkNx_nm l h.2 n hn
theorem Sk.of {B : Nat} {f : SFrame} {stk : List SFrame} (h : nmStk B (f :: stk) = true) : Sk B f stk := by
 have h2 := h
 simp only [nmStk,Bool.and_eq_true] at h2
 exact ⟨fun k v hk => subFr_nm (b := .n k) hk _ h2.1.1,fun k z v hk => subFr_nm (b := .f k z) hk _ h2.1.1,fun k v hk => subStk_nm (b := .n k) hk _ h2.2,fun k z v hk => subStk_nm (b := .f k z) hk _ h2.2,stkNx_nm (f :: stk) h⟩
theorem BxUp.cells {B : Nat} {l : Val} (h : nmB B l = true) : BxUp B (.cells l) :=
 ⟨fun k v hk => by simp only [subBox,subV_nm (b := .n k) hk l h],fun k z v hk => by simp only [subBox,subV_nm (b := .f k z) hk l h],fun k y hk => by simp only [renBox,renV_nm (b := .n k) hk l h],fun _ _ => trivial⟩
theorem BxUp.row {B : Nat} {e : TypeId} {k n : Nat} {c : Nat → Nat → Val} : BxUp B (.row e k n c) := ⟨fun _ _ _ => rfl,fun _ _ _ _ => rfl,fun _ _ _ => rfl,fun _ _ => trivial⟩
theorem BxUp.mz {B : Nat} {kd : IntKind} {f : Int → Val} (h : ∀ z,nmB B (f z) = true) : BxUp B (.mz kd f) :=
 ⟨fun k v hk => by simp only [subBox,subV_nm (b := .n k) hk _ (h _)],fun k z v hk => by simp only [subBox,subV_nm (b := .f k z) hk _ (h _)],fun k y hk => by simp only [renBox,renV_nm (b := .n k) hk _ (h _)],fun _ _ => trivial⟩
theorem BxUp.mp {B : Nat} {kd : IntKind} {has : Int → Bool} {f : Int → Val} (h : ∀ z,nmB B (f z) = true) : BxUp B (.mp kd has f) :=
 ⟨fun k v hk => by simp only [subBox,subV_nm (b := .n k) hk _ (h _)],fun k z v hk => by simp only [subBox,subV_nm (b := .f k z) hk _ (h _)],fun k y hk => by simp only [renBox,renV_nm (b := .n k) hk _ (h _)],fun _ _ => trivial⟩
theorem BxUp.lp {B g : Nat} {fr : Fr} {ps : List Nat} {ca cb : ACode} {st : Lst} (h : nmFr B fr = true) : BxUp B (.lp g fr ps ca cb st) :=
 ⟨fun k v hk => by simp only [subBox,subFr_nm (b := .n k) hk _ h],fun k z v hk => by simp only [subBox,subFr_nm (b := .f k z) hk _ h],fun k y hk => by simp only [renBox,renFr_nm (b := .n k) hk _ h],fun _ _ => trivial⟩
theorem BxUp.mono {A B : Nat} {c : Box} (h : BxUp A c) (hAB : A ≤ B) : BxUp B c := ⟨fun k v hk => h.sn k v (by omega),fun k z v hk => h.sf k z v (by omega),fun k y hk => h.rn k y (by omega),fun k hk => h.ni k (by omega)⟩
theorem vsub_nm {N D : Bn → Prop} : ∀ v : Val,nmD D v → vsub N D v v := by
 intro v
 induction v with
 | cons a t ih1 ih2 => intro h; exact ⟨a,t,rfl,ih1 h.1,ih2 h.2⟩
 | agg l ih => intro h; exact ⟨l,rfl,ih h⟩
 | tup l ih => intro h; exact ⟨l,rfl,ih h⟩
 | func fn l ih => intro h; exact ⟨l,rfl,ih h⟩
 | own b => intro h; exact .inl ⟨rfl,h⟩
 | ptr b o => intro h; exact ⟨rfl,h⟩
 | rptr b i o => intro h; exact ⟨rfl,h⟩
 | mapb b => intro h; exact ⟨rfl,h⟩
 | yld b => intro h; exact ⟨rfl,h⟩
 | view k n c => intro _; exact .inr ⟨c,rfl,fun i _ j _ => by rw [vsubP_self]; trivial⟩
 | vptr m c => intro _; exact ⟨c,rfl,fun j _ => by rw [vsubP_self]; trivial⟩
 | mview kd has f => intro _; exact ⟨has,f,rfl,fun k => ⟨rfl,fun _ => by rw [vsubP_self]; trivial⟩⟩
 | und => intro _; trivial
 | _ => intro _; exact rfl
theorem chkG_in {bx0 bx' : Bx} {nx nx' : Nat} {fr1 fr' : Fr} (hn : nx ≤ nx') (hfr : chkFr (newIn bx0 bx') (hasB bx') fr1 fr') (hbox : AllB (fun b c' => bget bx0 b = some c' ∨ chkBx1 (newIn bx0 bx') (hasB bx') (bget bx0 b) c') bx')
  (hid : AllB (fun b _ => (∃ c,bget bx0 b = some c) ∨ b.id < nx') bx') (hdom : ∀ b,bget bx' b = none → bget bx0 b = none) : ChkG bx0 nx fr1 bx0 fr' bx' nx' := by
 refine ⟨none,trivial,hn,hfr,fun b c' hb => (hbox.get b c' hb).imp (fun h => ⟨h,h⟩) id,fun b c' hb => hid.get b c' hb,fun b c0 c1 q0 q1 => ?_⟩
 rw [q0] at q1; cases q1
 cases hb : bget bx' b with
 | none => rw [hdom b hb] at q0; cases q0
 | some c' =>
  refine ⟨c',rfl,?_⟩
  rcases hbox.get b c' hb with h | h
  ·rw [q0] at h; cases h; exact Kin.refl _
  ·rw [q0] at h; exact chk_kin h
end Go.Proofs.Ytlapepdhkomijaa
namespace Go.Proofs.Ytlapepdhkomijaa
open Go Go.RowKit
end Go.Proofs.Ytlapepdhkomijaa
