/- Groves, the program: a plot is a grove with the index of each palm; late. No condition but bounds. -/
import Derived.Test.YtpknbojgkkmonaaWProg3
import Derived.Test.YtpknbojgkkmonaaWMath3
set_option linter.unusedSimpArgs false
set_option linter.unusedVariables false
namespace Go.Proofs.Ytpknbojgkkmonaa
open Go Go.RowKit
variable {G : Nat → Option (Nat × (Nat → Val))}
/-- the index of each palm -/
def ptM (l : Pms) : Val := .mview .i64 (hasP l) fun k => .int .i64 (lstP l k)
def Pt.L (x : Gv) : Val := .cons (.view RPm.k (x.palms).1 fun a b => RPm.C ((x.palms).2 a) b) (.cons (.view RPl.k (x.places).1 fun a b => RPl.C ((x.places).2 a) b) (.cons (.int .i64 x.reach) (.cons (.int .i64 x.hatch) (.cons (.int .i64 x.shows) (.cons (.int .i64 x.start) (.cons (.view (RInt .i64).k (x.sus).1 fun a b => (RInt .i64).C ((x.sus).2 a) b) (.cons (.mview .i64 (hasP x.palms) fun k => .int .i64 (lstP x.palms k)) (.nil))))))))
/-- a map that is a plot's -/
def IsAt (l : Pms) : Val → Prop
  | .mview kd has f => kd = .i64 ∧ ∀ k, has k = hasP l k ∧ (hasP l k = true → f k = .int .i64 (lstP l k))
  | _ => False
def Pt.Is : Val → Prop
  | .agg (.cons c0 (.cons c1 (.cons c2 (.cons c3 (.cons c4 (.cons c5 (.cons c6 (.cons c7 .nil)))))))) => Gv.Is (.agg (.cons c0 (.cons c1 (.cons c2 (.cons c3 (.cons c4 (.cons c5 (.cons c6 .nil)))))))) ∧ IsAt (Gv.of (.agg (.cons c0 (.cons c1 (.cons c2 (.cons c3 (.cons c4 (.cons c5 (.cons c6 .nil))))))))).palms c7
  | _ => False
def Pt.of : Val → Gv
  | .agg (.cons c0 (.cons c1 (.cons c2 (.cons c3 (.cons c4 (.cons c5 (.cons c6 (.cons _ .nil)))))))) => Gv.of (.agg (.cons c0 (.cons c1 (.cons c2 (.cons c3 (.cons c4 (.cons c5 (.cons c6 .nil))))))))
  | _ => Gv.of .und
def TPt : VT Gv where
  Is := Pt.Is
  of := Pt.of
  enc := fun x => .agg (Pt.L x)
  h1 := by
    intro v h
    unfold Pt.Is at h
    split at h
    · rename_i c0 c1 c2 c3 c4 c5 c6 c7
      obtain ⟨h, hm⟩ := h
      have hv : vsubP (.agg (Gv.L (Gv.of (.agg (.cons c0 (.cons c1 (.cons c2 (.cons c3 (.cons c4 (.cons c5 (.cons c6 .nil)))))))) ))) (.agg (.cons c0 (.cons c1 (.cons c2 (.cons c3 (.cons c4 (.cons c5 (.cons c6 .nil)))))))) := TGv.h1 (.agg (.cons c0 (.cons c1 (.cons c2 (.cons c3 (.cons c4 (.cons c5 (.cons c6 .nil)))))))) h
      simp only [Pt.of]
      generalize Gv.of (.agg (.cons c0 (.cons c1 (.cons c2 (.cons c3 (.cons c4 (.cons c5 (.cons c6 .nil)))))))) = g at *
      simp only [vp_agg, Gv.L, Pt.L, vp_cons] at hv ⊢
      obtain ⟨v0, v1, v2, v3, v4, v5, v6, _⟩ := hv
      refine ⟨v0, v1, v2, v3, v4, v5, v6, ?_, rfl⟩
      unfold IsAt at hm
      split at hm
      · obtain ⟨rfl, hm⟩ := hm
        rw [vp_mview]
        exact ⟨rfl, fun k => ⟨(hm k).1, fun hk => by rw [vp_int]; exact (hm k).2 hk⟩⟩
      · exact hm.elim
    · exact h.elim
  h2 := fun x => by
    show Gv.of _ = x
    exact TGv.h2 x
theorem Pt.is_enc (x : Gv) : Pt.Is (.agg (Pt.L x)) := ⟨Gv.is_enc x, by
  have e : Gv.of (.agg (Gv.L x)) = x := TGv.h2 x
  show IsAt (Gv.of (.agg (Gv.L x))).palms _
  rw [e]
  exact ⟨rfl, fun k => ⟨rfl, fun _ => rfl⟩⟩⟩
noncomputable def sLate : Spec := spec2 TPt TI (fun g i => 0 ≤ i ∧ i < g.palms.1) fun g i => .bool (decP (lateP g i.toNat))
set_option maxRecDepth 100000 in
theorem pLate : PureOk Try.prog G 72 sLate := by
  refine fn2 (S := []) (I := []) mixed .nil .nil Try.func72 c72 fun g i hp hw => ?_
  obtain ⟨i, rfl⟩ := Int.eq_ofNat_of_zero_le hp.1
  simp only [TPt, Pt.L, vl, WfT, Val.toInt, Nat.reduceSub, and_true, true_and, and_self, maxLen, Nat.reducePow, TInt, RInt, RPm, Pm.d, RPl, Pl.d] at hw
  simp only [RunTo, a72, TPt, Pt.L, runO_3, runO_5, runO_17, runO_18, runO_19, aop, binV, ends, Nat.zero_sub, ev, fget, fput, params, cellsOf, cellsN, isLB, vget, vlen, bget, addB, addN, mkv, sliceV, vtab, frz, opOwns, preFz, skipOp, WfT, resV, res1, casts, castOks, cast1, castOk, snapV, snapOk, pickV, Fin, vp_bool, Val.toInt, ↓reduceIte, reduceCtorEq, Nat.reduceEqDiff, Nat.reduceAdd, Nat.reduceSub, Nat.reduceLeDiff, Nat.zero_add, Nat.add_zero, Int.reduceNeg, bne_iff_ne, bne_eq_false_iff_eq, List.length_cons, List.length_nil, Bool.bne_true, bne_self_eq_false, Bool.not_false, true_and, and_self, and_assoc, forall_const, Val.bool.injEq, ne_eq, inat, TInt, RInt, Pm.c1, Pm.c2, RPm, Pm.d, RPl, Pl.d]
  repeat' (first | omega | (with_reducible apply And.intro) | intro _)
  all_goals first
    | (refine (decP_t ?_).symm; unfold lateP; omega)
    | (refine (decP_f ?_).symm; unfold lateP; omega)
    | (rw [Bool.eq_iff_iff, decide_eq_true_iff, decP_true]; unfold lateP; omega)
end Go.Proofs.Ytpknbojgkkmonaa
