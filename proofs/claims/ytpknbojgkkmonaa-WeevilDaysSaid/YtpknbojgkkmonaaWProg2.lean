/- Groves, the program: places, palm.Check. No condition. -/
import Derived.Test.YtpknbojgkkmonaaWProg1
set_option linter.unusedSimpArgs false
set_option linter.unusedVariables false
namespace Go.Proofs.Ytpknbojgkkmonaa
open Go Go.RowKit
variable {G : Nat → Option (Nat × (Nat → Val))}
def hasF (l : Nat → Pm) : Nat → Int → Bool
  | 0,_ => false
  | n + 1,k => if k = (l n).id then true else hasF l n k
def lstF (l : Nat → Pm) : Nat → Int → Nat
  | 0,_ => 0
  | n + 1,k => if k = (l n).id then n else lstF l n k
theorem hasF_iff {l : Nat → Pm} {k : Int} : ∀ {n : Nat},hasF l n k = true ↔ ∃ i,i < n ∧ (l i).id = k := by
  intro n
  induction n with
  | zero => simp [hasF]
  | succ n ih =>
    unfold hasF
    split
    · next e => exact ⟨fun _ => ⟨n,by omega,e.symm⟩,fun _ => rfl⟩
    · next e =>
      rw [ih]
      constructor
      · rintro ⟨i,h1,h2⟩; exact ⟨i,by omega,h2⟩
      · rintro ⟨i,h1,h2⟩
        refine ⟨i,?_,h2⟩
        rcases Nat.lt_or_ge i n with h3 | h3
        · exact h3
        · obtain rfl : i = n := by omega
          exact absurd h2.symm e
theorem lstF_spec {l : Nat → Pm} {k : Int} : ∀ {n : Nat},hasF l n k = true → lstF l n k < n ∧ (l (lstF l n k)).id = k := by
  intro n
  induction n with
  | zero => intro h; cases h
  | succ n ih =>
    intro h
    unfold hasF at h
    unfold lstF
    split at h
    · next e => rw [if_pos e]; exact ⟨by omega,e.symm⟩
    · next e => rw [if_neg e]; obtain ⟨h1,h2⟩ := ih h; exact ⟨by omega,h2⟩
def hasP (l : Pms) (k : Int) : Bool := hasF l.2 l.1 k
def lstP (l : Pms) (k : Int) : Nat := lstF l.2 l.1 k
theorem lstP_spec {l : Pms} {k : Int} (h : hasP l k = true) : lstP l k < l.1 ∧ (l.2 (lstP l k)).id = k := lstF_spec h
theorem hasP_hit {l : Pms} {k : Int} : hasP l k = true ↔ hitN l k < l.1 := by
  unfold hasP
  rw [hasF_iff]
  rcases hit_spec l k with ⟨h1,h2⟩ | ⟨h1,h2⟩
  · exact ⟨fun _ => h1,fun _ => ⟨_,h1,h2⟩⟩
  · exact ⟨fun ⟨i,h3,h4⟩ => absurd h4 (h2 i h3),fun h => by omega⟩
theorem PmsOk.lst {l : Pms} (h : PmsOk l) {k : Int} (hk : hasP l k = true) : lstP l k = hitN l k := by
  obtain ⟨h1,h2⟩ := lstP_spec hk
  rcases hit_spec l k with ⟨h3,h4⟩ | ⟨h3,h4⟩
  · exact h.inj h1 h3 (by rw [h2,h4])
  · exact absurd h2 (h4 _ h1)
noncomputable def sPlaces : Spec := spec1 (TSl RPm) (fun _ => True) fun l => .mview .i64 (hasP l) fun k => .int .i64 (lstP l k)
set_option maxRecDepth 100000 in
theorem pPlaces : PureOk Try.prog G 93 sPlaces := by
  refine fn1 (S := []) (I := []) mixed .nil .nil Try.func93 c93 fun l _ hw => ?_
  simp only [vl,WfT,Val.toInt,Val.slen,Val.scell,Nat.reduceSub,and_true,maxLen,Nat.reducePow,TSl,RPm,Pm.d] at hw
  simp only [RunTo,a93,hw,runO_5,runO_6,runO_15,runO_17,runO_18,runO_19,aop,ev,fget,fput,params,addB,addN,frz,opOwns,preFz,skipOp,WfT,lenV,Fin,Val.toInt,Val.slen,Val.scell,↓reduceIte,reduceCtorEq,Nat.reduceSub,Nat.zero_add,true_and,forall_const,maxLen,Nat.reducePow,TSl,RPm,Pm.d]
  refine loopI (ι := Nat) (fun j => j ≤ l.1) (fun j => l.1 - j) [3,7,8] (fun j => [(9,.int .i64 j)]) (fun j => [(0,.mp .i64 (hasF l.2 j) fun k => .int .i64 (lstF l.2 j k))]) 0 (by omega) (by simp only [hasF,lstF,Chk,chkFr,chkBx,chkBx1,hasB,idsLt,kept,vs_int,vs_view,vs_mapb,fget,bget,bset,vsubP_self,↓reduceIte,reduceCtorEq,Nat.reduceEqDiff,Nat.reduceLT,Int.cast_ofNat_Int,Bool.false_eq_true,and_self,forall_const,imp_self,implies_true,Option.some.injEq,exists_eq',keepF,appF,updB]; try simp) fun j hj => ?_
  simp only [noIt,runO_3,runO_4,runO_5,runO_6,runO_8,runO_9,runO_14,runO_16,runO_17,runO_18,runO_19,aop,binV,ends,reOk,Nat.zero_sub,ev,fget,fput,cellsOf,cellsN,isLB,vget,vset,vsets,vlen,bget,bset,addB,addN,mkv,sliceV,vtab,frz,opOwns,preFz,skipOp,WfT,resV,res1,casts,castOks,cast1,castOk,onesB,snapV,snapOk,pickV,popTo,stkFr,stkNx,vp_int,vp_mview,Val.toInt,↓reduceIte,reduceCtorEq,Nat.reduceEqDiff,Nat.reduceAdd,Nat.reduceLeDiff,Nat.zero_add,Nat.add_zero,decide_true,List.length_cons,List.length_nil,Bool.and_self,true_and,and_self,and_assoc,forall_const,implies_true,Nat.le_refl,decide_eq_true_eq,decide_eq_false_iff_not,keepF,appF,updB,inat,Pm.c0,Pm.c1,Pm.c2,Pm.c3,Pm.c4]
  refine ⟨fun hlt => ?_,fun hge => ?_⟩
  · repeat' (first | omega | (with_reducible apply And.intro) | intro _)
    all_goals first
      | (refine inv_intro (j + 1) (by omega) (by omega) ?_
         simp only [hasF,lstF,Chk,chkFr,chkBx,chkBx1,hasB,idsLt,kept,vs_int,vs_view,vs_mapb,Nat.lt_irrefl,fget,bget,vsubP_self,↓reduceIte,reduceCtorEq,Nat.reduceEqDiff,Nat.reduceLT,and_true,true_and,and_self,forall_const,implies_true,Option.some.injEq,Val.int.injEq,exists_eq',false_implies]
         rw [wrS (by omega)]
         refine ⟨rfl,fun k => ?_⟩
         by_cases e : k = (l.2 j).id
         · simp [e]
         · simp [e])
      | skip
  · obtain rfl : j = l.1 := by omega
    repeat' (first | omega | (with_reducible apply And.intro) | intro _)
    all_goals simp_all [hasP,lstP]
end Go.Proofs.Ytpknbojgkkmonaa
