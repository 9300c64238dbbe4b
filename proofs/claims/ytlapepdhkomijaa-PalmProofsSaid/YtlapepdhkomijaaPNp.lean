/- The program's net: its nodes. No condition but bounds. -/
import Derived.Test.YtlapepdhkomijaaPMath
set_option linter.unusedSimpArgs false
set_option linter.unusedVariables false
namespace Go.Proofs.Ytlapepdhkomijaa
open Go Go.RowKit
variable {G : Nat → Option (Nat × (Nat → Val))}
theorem mixedP : Try.prog.follows .mixedOrders = true := by kernel_rfl
def Np.Is : Val → Prop
 | .vptr m c => m = 8 ∧ Wk.Is (.agg (.cons (c 0) (.cons (c 1) (.cons (c 2) (.cons (c 3) (.cons (c 4) .nil))))))
 | _ => False
def Np.of : Val → Wk
 | .vptr _ c => Wk.of (.agg (.cons (c 0) (.cons (c 1) (.cons (c 2) (.cons (c 3) (.cons (c 4) .nil))))))
 | _ => Wk.of .und
def Np.L (w : Wk) : Val := .cons (.int .i64 w.day) (.cons (.view 3 w.spathes.1 fun a b => (w.spathes.2 a).c b) (.cons (.view 1 w.hours.1 fun a b => .int .i64 (w.hours.2 a)) (.cons (.view 4 w.lots.1 fun a b => (w.lots.2 a).c b) (.cons (.int .i64 w.opn) (.cons .und (.cons .und (.cons .und .nil)))))))
def TNp : VT Wk where
 Is := Np.Is
 of := Np.of
 enc := fun w => .vptr 8 fun j => vget (Np.L w) j
 h1 := by
  intro v h
  unfold Np.Is at h
  split at h
  ·rename_i m c
   obtain ⟨rfl,h⟩ := h
   simp only [Np.of]
   rw [vp_vptr]
   intro j hj
   have hv' : vsubP (.agg (Wk.L (Wk.of (.agg (.cons (c 0) (.cons (c 1) (.cons (c 2) (.cons (c 3) (.cons (c 4) .nil))))))))) (.agg (.cons (c 0) (.cons (c 1) (.cons (c 2) (.cons (c 3) (.cons (c 4) .nil)))))) := TWk.h1 (.agg (.cons (c 0) (.cons (c 1) (.cons (c 2) (.cons (c 3) (.cons (c 4) .nil)))))) h
   generalize Wk.of (.agg (.cons (c 0) (.cons (c 1) (.cons (c 2) (.cons (c 3) (.cons (c 4) .nil)))))) = g at *
   simp only [vp_agg,Wk.L,vp_cons] at hv'
   obtain ⟨v0,v1,v2,v3,v4,_⟩ := hv'
   match j,hj with
   | 0,_ => exact v0
   | 1,_ => exact v1
   | 2,_ => exact v2
   | 3,_ => exact v3
   | 4,_ => exact v4
   | 5,_ | 6,_ | 7,_ => trivial
   | j + 8,h => omega
  ·exact h.elim
 h2 := fun w => TWk.h2 w
theorem Np.is_enc (w : Wk) : Np.Is (.vptr 8 fun j => vget (Np.L w) j) := ⟨rfl,Wk.is_enc w⟩
def sSpN : Spec := spec2 TNp TI (fun _ i => 0 ≤ i ∧ i ≤ 1000) fun _ i => .int .i64 (2 + i)
set_option maxRecDepth 100000 in
theorem pSpN : PureOk Try.prog G 63 sSpN := by
 refine fn2 (S := []) (I := []) mixedP .nil .nil Try.func63 c63 fun w i hp hw => ?_
 simp only [TNp,Np.L,TInt,go_sem] at hw
 simp only [RunTo,a63,TNp,Np.L,↓reduceIte,reduceCtorEq,Nat.reduceEqDiff,TInt,go_sem]
 exact wr64 (by omega) (by omega)
def sInN : Spec := spec2 TNp TI (fun w h => w.spathes.1 ≤ 1000 ∧ 0 ≤ h ∧ h ≤ 1000) fun w h => .int .i64 (2 + w.spathes.1 + 2 * h)
set_option maxRecDepth 100000 in
theorem pInN : PureOk Try.prog G 65 sInN := by
 refine fn2 (S := [(63,sSpN)]) (I := []) mixedP (.cons pSpN .nil) .nil Try.func65 c65 fun w h hp hw => ?_
 obtain ⟨h1,h2,h3⟩ := hp
 simp only [TNp,Np.L,TInt,go_sem] at hw
 have e1 : IntKind.i64.wrap (2 * h) = 2 * h := wr64 (by omega) (by omega)
 have e2 : IntKind.i64.wrap (2 + (w.spathes.1 : Int) + 2 * h) = 2 + (w.spathes.1 : Int) + 2 * h := wr64 (by omega) (by omega)
 simp only [RunTo,a65,TNp,Np.L,Np.Is,sSpN,e1,e2,↓reduceIte,reduceCtorEq,Nat.reduceEqDiff,Nat.reduceSub,Nat.reduceLeDiff,Nat.reducePow,spec2,TInt,IsInt,RInt,RSp,Sp.w_c,Sp.d,RLt,Lt.w_c,Lt.d,Wk.Is,go_sem]
 intro _; omega
def sOutN : Spec := spec2 TNp TI (fun w h => w.spathes.1 ≤ 1000 ∧ 0 ≤ h ∧ h ≤ 1000) fun w h => .int .i64 (2 + w.spathes.1 + 2 * h + 1)
set_option maxRecDepth 100000 in
theorem pOutN : PureOk Try.prog G 66 sOutN := by
 refine fn2 (S := [(65,sInN)]) (I := []) mixedP (.cons pInN .nil) .nil Try.func66 c66 fun w h hp hw => ?_
 obtain ⟨h1,h2,h3⟩ := hp
 simp only [TNp,Np.L,TInt,go_sem] at hw
 have e2 : IntKind.i64.wrap (2 + (w.spathes.1 : Int) + 2 * h + 1) = 2 + (w.spathes.1 : Int) + 2 * h + 1 := wr64 (by omega) (by omega)
 simp only [RunTo,a66,TNp,Np.L,Np.Is,Np.of,sInN,e2,↓reduceIte,reduceCtorEq,Nat.reduceEqDiff,spec2,TInt,IsInt,RInt,RSp,Sp.w_c,Sp.d,RLt,Lt.w_c,Lt.d,Wk.Is,Wk.of,Wk.d,go_sem]
 exact ⟨h1,h2,h3⟩
def sLotN : Spec := spec2 TNp TI (fun w i => w.spathes.1 ≤ 1000 ∧ w.hours.1 ≤ 1000 ∧ 0 ≤ i ∧ i ≤ 1000) fun w i => .int .i64 (2 + w.spathes.1 + 2 * w.hours.1 + i)
set_option maxRecDepth 100000 in
theorem pLotN : PureOk Try.prog G 68 sLotN := by
 refine fn2 (S := [(65,sInN)]) (I := []) mixedP (.cons pInN .nil) .nil Try.func68 c68 fun w i hp hw => ?_
 obtain ⟨h1,h2,h3,h4⟩ := hp
 simp only [TNp,Np.L,TInt,go_sem] at hw
 have e2 : IntKind.i64.wrap (2 + (w.spathes.1 : Int) + 2 * (w.hours.1 : Int) + i) = 2 + (w.spathes.1 : Int) + 2 * (w.hours.1 : Int) + i := wr64 (by omega) (by omega)
 simp only [RunTo,a68,TNp,Np.L,Np.Is,Np.of,sInN,e2,↓reduceIte,reduceCtorEq,Nat.reduceEqDiff,Nat.reduceSub,Nat.reduceLeDiff,Nat.reducePow,spec2,TInt,IsInt,RInt,RSp,Sp.w_c,Sp.d,RLt,Lt.w_c,Lt.d,Wk.Is,Wk.of,Wk.d,go_sem]
 intro _; omega
def sGoodN : Spec := spec3 TWk TI TI (fun w h j => 0 ≤ h ∧ h < w.hours.1 ∧ 0 ≤ j ∧ j < w.lots.1) fun w h j => .bool (goodF w h.toNat j.toNat)
set_option maxRecDepth 100000 in
theorem pGoodN : PureOk Try.prog G 59 sGoodN := by
 refine fn3 (S := []) (I := []) mixedP .nil .nil Try.func59 c59 fun w h j hp hw => ?_
 obtain ⟨h1,h2,h3,h4⟩ := hp
 simp only [Nat.reduceSub,Nat.reducePow,TInt,RInt,RSp,Sp.d,RLt,Lt.d,Wk.L,TWk,go_sem] at hw
 simp only [RunTo,a59,hw,↓reduceIte,reduceCtorEq,Nat.reduceEqDiff,Nat.reduceAdd,Nat.reduceSub,Nat.reduceLeDiff,Nat.reducePow,TInt,RInt,RSp,Sp.d,Lt.c0,Lt.c1,Lt.c2,Lt.c3,RLt,Lt.d,Wk.L,TWk,go_sem]
 refine ⟨h3,h4,h1,h2,fun q => ⟨h1,h2,?_⟩,fun q => ?_⟩
 ·unfold goodF; rw [decP_and,decide_eq_true q,Bool.true_and]
 ·unfold goodF; rw [decP_and,decide_eq_false q,Bool.false_and]
end Go.Proofs.Ytlapepdhkomijaa
