/- Palms, the reference: which palms bear. No condition but bounds. -/
import Derived.Test.YtlapepdhkomijaaPRef1
set_option linter.unusedSimpArgs false
set_option linter.unusedVariables false
namespace Go.Proofs.Ytlapepdhkomijaa
open Go Go.RowKit
variable {G : Nat → Option (Nat × (Nat → Val))}
theorem tu_enc {k : IntKind} (a : UI k) : (TU k).enc a = .int k a.1 := rfl
def bearsP (l : Pms) (id day sex : Int) : Prop := hitN l id < l.1 ∧ (l.2 (hitN l id)).sex.1 = sex ∧ 1500 ≤ day - (l.2 (hitN l id)).planted
noncomputable def sBears : Spec := spec4 (TSl RPm) TI TI (TU .u8) (fun l _ day _ => (∀ i,i < l.1 → 0 ≤ (l.2 i).planted ∧ (l.2 i).planted ≤ 100000) ∧ -1000000 ≤ day ∧ day ≤ 1000000) fun l id day sex => .bool (decP (bearsP l id day sex.1))
set_option maxRecDepth 100000 in
theorem pBears : PureOk Try.prog G 77 sBears := by
 refine fn4 (S := [(44,sAt)]) (I := []) mixed (.cons pAt .nil) .nil Try.func77 c77 fun l id day sex hp hw => ?_
 obtain ⟨hpl,hd1,hd2⟩ := hp
 simp only [tu_enc,↓imp_tt,↓imp_tf,↓imp_ft,↓imp_ff,↓reduceIte,reduceCtorEq,Nat.reduceEqDiff,Nat.reduceAdd,Nat.reduceSub,Nat.reduceLeDiff,Nat.reduceMul,Nat.reduceLT,Int.reduceToNat,Int.reduceLT,Int.reduceLE,Int.reduceEq,Int.reduceNeg,Int.reduceMul,Int.reduceAdd,Int.reduceSub,Int.reduceNe,Int.reduceBEq,Int.reduceBNe,Nat.reducePow,spec0,spec1,spec2,spec3,spec4,spec5,TSl,IsSl,TInt,IsInt,TBool,IsBool,RInt,RBool,RSl,Prod.eta,Pm.L,Pm.c0,Pm.c1,Pm.c2,Pm.c3,Pm.c4,Pm.Is,Pm.of,TPm,RPm,Pm.w_c,Pm.d_c,Pm.d,Pm.eta,Sn.L,Sn.c0,Sn.c1,Sn.Is,Sn.of,TSn,RSn,Sn.w_c,Sn.d_c,Sn.d,Sn.eta,Sp.L,Sp.c0,Sp.c1,Sp.c2,Sp.Is,Sp.of,TSp,RSp,Sp.w_c,Sp.d_c,Sp.d,Sp.eta,Lt.L,Lt.c0,Lt.c1,Lt.c2,Lt.c3,Lt.Is,Lt.of,TLt,RLt,Lt.w_c,Lt.d_c,Lt.d,Lt.eta,Wk.L,Wk.c0,Wk.c1,Wk.c2,Wk.c3,Wk.c4,Wk.Is,Wk.of,TWk,RWk,Wk.w_c,Wk.d_c,Wk.d,Wk.eta,Du.L,Du.c0,Du.c1,Du.c2,Du.Is,Du.of,TDu,RDu,Du.w_c,Du.d_c,Du.d,Du.eta,Cv.L,Cv.c0,Cv.c1,Cv.c2,Cv.Is,Cv.of,TCv,RCv,Cv.w_c,Cv.d_c,Cv.d,Cv.eta,toUI_val,go_sem] at hw
 by_cases hm : hitN l id < l.1
 ·have ea := atF_pos hm
  have hh := hpl _ hm
  have e1 : IntKind.i64.wrap (day - (l.2 (hitN l id)).planted) = day - (l.2 (hitN l id)).planted := wr64 (by omega) (by omega)
  simp only [RunTo,a77,sAt,tu_enc,ea,e1,hw,↓imp_tt,↓imp_tf,↓imp_ft,↓imp_ff,↓reduceIte,reduceCtorEq,Nat.reduceEqDiff,Nat.reduceAdd,Nat.reduceSub,Nat.reduceLeDiff,Nat.reduceMul,Nat.reduceLT,Int.reduceToNat,Int.reduceLT,Int.reduceLE,Int.reduceEq,Int.reduceNeg,Int.reduceMul,Int.reduceAdd,Int.reduceSub,Int.reduceNe,Int.reduceBEq,Int.reduceBNe,Nat.reducePow,spec0,spec1,spec2,spec3,spec4,spec5,TSl,IsSl,TInt,IsInt,TBool,IsBool,RInt,RBool,RSl,Prod.eta,Pm.L,Pm.c0,Pm.c1,Pm.c2,Pm.c3,Pm.c4,Pm.Is,Pm.of,TPm,RPm,Pm.w_c,Pm.d_c,Pm.d,Pm.eta,Sn.L,Sn.c0,Sn.c1,Sn.Is,Sn.of,TSn,RSn,Sn.w_c,Sn.d_c,Sn.d,Sn.eta,Sp.L,Sp.c0,Sp.c1,Sp.c2,Sp.Is,Sp.of,TSp,RSp,Sp.w_c,Sp.d_c,Sp.d,Sp.eta,Lt.L,Lt.c0,Lt.c1,Lt.c2,Lt.c3,Lt.Is,Lt.of,TLt,RLt,Lt.w_c,Lt.d_c,Lt.d,Lt.eta,Wk.L,Wk.c0,Wk.c1,Wk.c2,Wk.c3,Wk.c4,Wk.Is,Wk.of,TWk,RWk,Wk.w_c,Wk.d_c,Wk.d,Wk.eta,Du.L,Du.c0,Du.c1,Du.c2,Du.Is,Du.of,TDu,RDu,Du.w_c,Du.d_c,Du.d,Du.eta,Cv.L,Cv.c0,Cv.c1,Cv.c2,Cv.Is,Cv.of,TCv,RCv,Cv.w_c,Cv.d_c,Cv.d,Cv.eta,toUI_val,go_sem]
  repeat' (first | omega | (with_reducible apply And.intro) | intro _)
  all_goals first
   | (refine (decP_f ?_).symm; unfold bearsP; omega)
   | (rw [Bool.eq_iff_iff,decP_true]; unfold bearsP; simp; omega)
 ·have ea : (0 ≤ atF l id) = False := eq_false (by have := atF_neg.2 hm; omega)
  simp only [RunTo,a77,sAt,tu_enc,ea,hw,ge_iff_le,↓imp_tt,↓imp_tf,↓imp_ft,↓imp_ff,↓reduceIte,reduceCtorEq,Nat.reduceEqDiff,Nat.reduceAdd,Nat.reduceSub,Nat.reduceLeDiff,Nat.reduceMul,Nat.reduceLT,Int.reduceToNat,Int.reduceLT,Int.reduceLE,Int.reduceEq,Int.reduceNeg,Int.reduceMul,Int.reduceAdd,Int.reduceSub,Int.reduceNe,Int.reduceBEq,Int.reduceBNe,Nat.reducePow,spec0,spec1,spec2,spec3,spec4,spec5,TSl,IsSl,TInt,IsInt,TBool,IsBool,RInt,RBool,RSl,Prod.eta,Pm.L,Pm.c0,Pm.c1,Pm.c2,Pm.c3,Pm.c4,Pm.Is,Pm.of,TPm,RPm,Pm.w_c,Pm.d_c,Pm.d,Pm.eta,Sn.L,Sn.c0,Sn.c1,Sn.Is,Sn.of,TSn,RSn,Sn.w_c,Sn.d_c,Sn.d,Sn.eta,Sp.L,Sp.c0,Sp.c1,Sp.c2,Sp.Is,Sp.of,TSp,RSp,Sp.w_c,Sp.d_c,Sp.d,Sp.eta,Lt.L,Lt.c0,Lt.c1,Lt.c2,Lt.c3,Lt.Is,Lt.of,TLt,RLt,Lt.w_c,Lt.d_c,Lt.d,Lt.eta,Wk.L,Wk.c0,Wk.c1,Wk.c2,Wk.c3,Wk.c4,Wk.Is,Wk.of,TWk,RWk,Wk.w_c,Wk.d_c,Wk.d,Wk.eta,Du.L,Du.c0,Du.c1,Du.c2,Du.Is,Du.of,TDu,RDu,Du.w_c,Du.d_c,Du.d,Du.eta,Cv.L,Cv.c0,Cv.c1,Cv.c2,Cv.Is,Cv.of,TCv,RCv,Cv.w_c,Cv.d_c,Cv.d,Cv.eta,toUI_val,go_sem]
  repeat' (first | omega | (with_reducible apply And.intro) | intro _)
  all_goals first
   | (refine (decP_f ?_).symm; unfold bearsP; omega)
end Go.Proofs.Ytlapepdhkomijaa
