/- Groves, the reference: what fits, who may have it from whom, comparisons. No condition but bounds. -/
import Derived.Test.YtpknbojgkkmonaaWRef3
set_option linter.unusedSimpArgs false
set_option linter.unusedVariables false
namespace Go.Proofs.Ytpknbojgkkmonaa
open Go Go.RowKit
variable {G : Nat → Option (Nat × (Nat → Val))}
theorem pmEq {a b : Pm} : (a.id == b.id && (a.mother == b.mother && (a.planted == b.planted && (a.sex.1 == b.sex.1 && a.sort == b.sort)))) = true ↔ a = b := by
  obtain ⟨a1,a2,a3,⟨a4,a4'⟩,a5⟩ := a; obtain ⟨b1,b2,b3,⟨b4,b4'⟩,b5⟩ := b; simp
theorem sgEq {a b : Sg} : (a.kind == b.kind && (a.palm == b.palm && (a.day == b.day && (a.trap.x == b.trap.x && (a.trap.y == b.trap.y && a.near == b.near))))) = true ↔ a = b := by
  obtain ⟨a1,a2,a3,⟨a4,a4'⟩,a5⟩ := a; obtain ⟨b1,b2,b3,⟨b4,b4'⟩,b5⟩ := b; simp [and_assoc]
theorem plEq {a b : Pl} : (a.x == b.x && a.y == b.y) = true ↔ a = b := by
  obtain ⟨p,q⟩ := a; obtain ⟨r,s⟩ := b; simp
noncomputable def sGreat : Spec := spec2 TGv (TSl RSg) (fun _ _ => True) fun g l => .bool (decP (g.palms.1 > 30 ∨ g.places.1 > 40 ∨ g.sus.1 > 40 ∨ l.1 > 40))
set_option maxRecDepth 100000 in
theorem pGreat : PureOk Try.prog G 13 sGreat := by
  refine fn2 (S := []) (I := []) mixed .nil .nil Try.func13 c13 fun g l _ hw => ?_
  simp only [vl,WfT,Val.toInt,Val.slen,Val.scell,Nat.reduceSub,and_true,true_and,and_assoc,maxLen,Nat.reducePow,TSl,RInt,RPm,Pm.d,RPl,Pl.d,Gv.L,TGv,RSg,Sg.d] at hw
  simp only [RunTo,a13,hw,↓imp_tt,↓imp_tf,runO_3,runO_5,runO_17,runO_18,runO_19,aop,binV,ends,Nat.zero_sub,ev,fget,fput,params,cellsOf,cellsN,isLB,vget,vlen,bget,addB,addN,mkv,sliceV,vtab,frz,opOwns,preFz,skipOp,WfT,resV,res1,snapV,snapOk,pickV,lenV,Fin,vp_bool,Val.toInt,Val.slen,Val.scell,↓reduceIte,reduceCtorEq,Nat.reduceEqDiff,Nat.reduceAdd,Nat.reduceSub,Nat.reduceLeDiff,Nat.zero_add,Nat.add_zero,List.length_cons,List.length_nil,Bool.bne_false,bne_self_eq_false,and_true,true_and,and_self,forall_const,Nat.le_refl,decide_eq_true_eq,decide_eq_false_iff_not,Val.bool.injEq,maxLen,Nat.reducePow,TSl,RInt,RPm,Pm.d,RPl,Pl.d,Gv.L,TGv,RSg,Sg.d]
  repeat' (first | omega | (with_reducible apply And.intro) | intro _)
  all_goals first
    | (refine (decP_t ?_).symm; omega)
    | (refine (decP_f ?_).symm; omega)
    | (rw [Bool.eq_iff_iff,decide_eq_true_iff,decP_true]; omega)
noncomputable def lowF (g : Gv) (l : Nat → Sg) : Nat → Nat → Int
  | 0,_ => 0
  | j + 1,i => if (l j).kind = 1 ∧ hitN g.palms (l j).palm = i then max (lowF g l j i) ((l j).day - g.shows + 1) else lowF g l j i
theorem lowF_bd {g : Gv} {l : Nat → Sg} {n : Nat} (hg : GvOk g) (hl : ∀ j,j < n → SgOk g (l j)) : ∀ j,j ≤ n → ∀ i,0 ≤ lowF g l j i ∧ lowF g l j i ≤ 100001 := by
  intro j; induction j with
  | zero => intro _ i; simp [lowF]
  | succ j ih =>
    intro hj i
    have h1 := ih (by omega) i
    have h2 := (hl j (by omega)).1
    have := hg.shows
    simp only [lowF]; split <;> omega
end Go.Proofs.Ytpknbojgkkmonaa
