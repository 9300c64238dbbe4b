/- Deeds: the deferred closure of try: it recovers from a void's number, and lays it. No condition. -/
import Derived.Test.YtlieoghhkioflaaGreatE2
import Derived.Test.YtlieoghhkioflaaGreatProg
import Derived.RecoverIn
import Derived.Recover
import Derived.Tactics2
import Derived.Laws.Pointers
import Derived.Test.YtlieoghhkioflaaGreatDiw
import Derived.Test.YtlieoghhkioflaaGreatDr2
set_option linter.unusedSimpArgs false
set_option linter.unusedVariables false
set_option maxRecDepth 100000
namespace Go.Proofs.YtlieoghhkioflaaGreat
open Go Go.RowKit
theorem QU(p:Addr)(w:World):
  CallsDIn (FW none) 0 Tryz.prog 102 #[.pointer (some p)] .returning w fun e u' w'=>e= .returned (.tuple #[])/\u'= .returning/\w'=w:=by
 refine callsDIn_of_wpSIn Tryz.func102 rfl trivial fun c₀ cs hu=> ?_
 apply wpSIn_seq
 apply wpSIn_region
 simp[wpOpsSIn,go_sem,recoverD,hu,Tryz.ntmps102,Exit.thenS]
 apply wpSIn_seq
 apply wpSIn_region
 simp[wpOpsSIn,go_sem,Exit.thenS]
 refine wpSIn_cond (t:=false) (by simp[Act.eval,Array.replicate]) ?_
 simp only[Bool.false_eq_true,if_false]
 refine wpSIn_of_wpIn rfl (wpIn_skip ?_)
 cases c₀
 simp_all[bodyPostS,results,Tryz.results102]
theorem RX(p:Addr)(z y:Int)(w:World)(hc:w.cell? p=some (.int .u8 y))(hz:w.frozen? p=false):
  CallsDIn (FW none) 0 Tryz.prog 102 #[.pointer (some p)] (.panicking [{v:= .iface 164 (.int .u8 z),recovered:=false}]) w fun e u' w'=>
   e= .returned (.tuple #[])/\u'= .panicking [{v:= .iface 164 (.int .u8 z),recovered:=true}]/\w'=w.setCell p (.int .u8 z):=by
 refine callsDIn_of_wpSIn Tryz.func102 rfl trivial fun c₀ cs hu=> ?_
 apply wpSIn_seq
 apply wpSIn_region
 simp[wpOpsSIn,go_sem,recoverD,hu,Tryz.ntmps102,Exit.thenS]
 apply wpSIn_seq
 apply wpSIn_region
 simp[wpOpsSIn,go_sem,Exit.thenS]
 refine wpSIn_cond (t:=true) (by simp[Act.eval,Array.replicate]) ?_
 simp only[if_true]
 apply wpSIn_seq
 apply wpSIn_region
 simp[wpOpsSIn,go_sem,Exit.thenS]
 apply wpSIn_seq
 apply wpSIn_seq
 apply wpSIn_region
 simp[wpOpsSIn,go_sem,Exit.thenS]
 refine wpSIn_cond (t:=false) (by simp[Act.eval,Array.replicate]) ?_
 simp only[Bool.false_eq_true,if_false]
 refine wpSIn_of_wpIn rfl (wpIn_skip ?_)
 simp only[Exit.thenS]
 apply wpSIn_region
 simp[wpOpsSIn,go_sem,hc,hz,bodyPostS,results,Tryz.results102]
theorem Kz:Eb Tryz.prog 102 164 .u8:=by
 refine⟨GX Tryz.func102 rfl rfl,fun g w=>QU _ w,fun g z y t w hg=> ?_⟩
 have hc:w.cell? ⟨g,0,none⟩=some (.int .u8 y):=by simp[World.cell?,hg]
 have hz:w.frozen? ⟨g,0,none⟩=false:=by simp[World.frozen?,hg]
 have h:=RX ⟨g,0,none⟩ z y w hc hz
 rw[setCell_eq_setRow w g 0 _ t (0,0) _ hg]at h
 exact h
end Go.Proofs.YtlieoghhkioflaaGreat
namespace Go.Proofs.YtlieoghhkioflaaGreat
open Go Go.RowKit
variable{G:Nat->Option (Nat×(Nat->Ad))}
def Ri:Ad:= .cons (.bool true) (.cons (.bool true) (.cons (.bool false) (.cons (.bool false) (.cons (.func (.func 119) .nil) .nil))))
def Q7:Ad:= .cons (.bool false) (.cons (.bool true) (.cons (.bool false) (.cons (.bool false) (.cons (.func (.func 120) .nil) .nil))))
def Q1:Ad:= .cons (.bool false) (.cons (.bool false) (.cons (.bool false) (.cons (.bool true) (.cons (.func (.func 121) .nil) .nil))))
def Rr:Ad:= .cons (.bool true) (.cons (.bool true) (.cons (.bool true) (.cons (.bool false) (.cons (.func (.func 122) .nil) .nil))))
def Ik(k:Int):Ad:=if k=4 then Rr else if k=3 then Q1 else if k=2 then Q7 else Ri
def Iu(k:Int):Bool:=k==4||k==3||k==2||k==1
noncomputable def D3:At:=Ak AZ (fun _=>True) fun _=> .mview .u8 Iu fun k=> .agg (Ik k)
theorem N7:Ah Tryz.prog G 104 D3:=by
 refine Ir mixed (S:=[]) (I:=[]) (X:=[]) (N:=[]) (C:=[]) .nil .nil .nil Tryz.func104 Acq fun a _ hw=> ?_
 simp only[AaN,AZ,↓reduceIte,Nat.reduceEqDiff,Nat.reduceAdd,Nat.reduceLeDiff,go_sem]
 refine⟨fun k hk=> ?_,fun k=> ?_⟩
 ·split at hk
  ·rename_i h;subst h;simp only[↓reduceIte,Nat.reduceAdd,go_sem]
  split at hk
  ·rename_i h;subst h;simp only[show((3:Int)=4)=False from eq_false (by omega),↓reduceIte,Nat.reduceAdd,go_sem]
  split at hk
  ·rename_i h;subst h;simp only[show((2:Int)=4)=False from eq_false (by omega),show((2:Int)=3)=False from eq_false (by omega),↓reduceIte,Nat.reduceAdd,go_sem]
  split at hk
  ·rename_i h;subst h;simp only[show((1:Int)=4)=False from eq_false (by omega),show((1:Int)=3)=False from eq_false (by omega),show((1:Int)=2)=False from eq_false (by omega),↓reduceIte,Nat.reduceAdd,go_sem]
  cases hk
 by_cases h4:k=4
 ·subst h4;refine⟨rfl,fun _=> ?_⟩;simp only[Ik,Rr,↓reduceIte,go_sem]
 by_cases h3:k=3
 ·subst h3;refine⟨rfl,fun _=> ?_⟩;simp only[Ik,Q1,show((3:Int)=4)=False from eq_false (by omega),↓reduceIte,go_sem]
 by_cases h2:k=2
 ·subst h2;refine⟨rfl,fun _=> ?_⟩;simp only[Ik,Q7,show((2:Int)=4)=False from eq_false (by omega),show((2:Int)=3)=False from eq_false (by omega),↓reduceIte,go_sem]
 by_cases h1:k=1
 ·subst h1;refine⟨rfl,fun _=> ?_⟩;simp only[Ik,Ri,show((1:Int)=4)=False from eq_false (by omega),show((1:Int)=3)=False from eq_false (by omega),show((1:Int)=2)=False from eq_false (by omega),↓reduceIte,go_sem]
 have:Iu k=false:=by
  unfold Iu
  rw[beq_eq_false_iff_ne.2 h4,beq_eq_false_iff_ne.2 h3,beq_eq_false_iff_ne.2 h2,beq_eq_false_iff_ne.2 h1];rfl
 refine⟨?_,fun h=>by rw[this]at h;cases h⟩
 rw[this,if_neg h4,if_neg h3,if_neg h2,if_neg h1]
noncomputable def LI:At:=Cx KI Td (fun r _=>1<=r.days/\r.days<=16) fun r x=> .bool (Bb (Do r x))
theorem YV:Ah Tryz.prog G 96 LI:=by
 refine Lm (S:=[(104,D3),(83,NL),(105,Kc),(84,Ln),(82,Hd),(115,OB)]) (I:=[]) mixed (.cons N7 (.cons ZY (.cons Abq (.cons AaG (.cons Xc (.cons Acs .nil)))))) .nil Tryz.func96 c96 fun r x hp hw=> ?_
 obtain⟨h1,h2⟩:=hp
 simp only[Nat.reduceSub,Nat.reducePow,go_sem]at hw
 by_cases k4:x.kind=4
 ·have eH:Iu x.kind=true:=by rw[k4];rfl
  have eL:Ik x.kind=Rr:=by rw[k4];rfl
  simp only[A4,ZU,D3,eH,eL,Rr,Ak,AZ,NL,Kc,Ln,Hd,OB,↓reduceIte,reduceCtorEq,Nat.reduceEqDiff,Nat.reduceAdd,Nat.reduceSub,Nat.reduceLeDiff,Nat.reduceLT,go_sem]
  simp only[Fy,AM,BZ]
  by_cases hh:FN x.fro x.heirs
  all_goals
   simp only[Do,Ga,Fv,hh,true_and,false_and,and_false,false_or]
   repeat'(first|(with_reducible apply And.intro)|intro _)
   all_goals(try simp(disch:=omega) only[AU]at*)
   all_goals first
    |omega
    |exact(An fun k=>by omega).symm
    |exact(As (by omega)).symm
    |exact Qq (by omega)
    |exact RJ (by omega)
 by_cases k3:x.kind=3
 ·have eH:Iu x.kind=true:=by rw[k3];rfl
  have eL:Ik x.kind=Q1:=by rw[k3];rfl
  simp only[A4,ZU,D3,eH,eL,Q1,Ak,AZ,NL,Kc,Ln,Hd,OB,hw,↓reduceIte,reduceCtorEq,Nat.reduceEqDiff,Nat.reduceAdd,Nat.reduceSub,Nat.reduceLeDiff,Nat.reduceLT,Nat.reducePow,go_sem]
  simp only[Fy,AM,BZ,Bool.and_eq_true,beq_iff_eq,Bool.and_eq_false_iff,beq_eq_false_iff_ne]
  by_cases hh:FN x.fro x.heirs
  all_goals
   simp only[Do,Ga,Fv,hh,As,An,not_false_eq_true,true_and,false_and,and_false,false_or]
   repeat'(first|(with_reducible apply And.intro)|intro _)
   all_goals(try simp(disch:=omega) only[AU]at*)
   all_goals first
    |omega
    |exact(An fun k=>by omega).symm
    |exact(As (by omega)).symm
    |exact Qq (by omega)
    |exact RJ (by omega)
 by_cases k2:x.kind=2
 ·have eH:Iu x.kind=true:=by rw[k2];rfl
  have eL:Ik x.kind=Q7:=by rw[k2];rfl
  simp only[A4,ZU,D3,eH,eL,Q7,Ak,AZ,NL,Kc,Ln,Hd,OB,↓reduceIte,reduceCtorEq,Nat.reduceEqDiff,Nat.reduceAdd,Nat.reduceSub,Nat.reduceLeDiff,Nat.reduceLT,go_sem]
  simp only[Fy,AM,BZ]
  by_cases hh:FN x.fro x.heirs
  all_goals
   simp only[Do,Ga,Fv,hh,true_and,false_and,and_false,false_or]
   repeat'(first|(with_reducible apply And.intro)|intro _)
   all_goals(try simp(disch:=omega) only[AU]at*)
   all_goals first
    |omega
    |exact(An fun k=>by omega).symm
    |exact(As (by omega)).symm
    |exact Qq (by omega)
    |exact RJ (by omega)
 by_cases k1:x.kind=1
 ·have eH:Iu x.kind=true:=by rw[k1];rfl
  have eL:Ik x.kind=Ri:=by rw[k1];rfl
  simp only[A4,ZU,D3,eH,eL,Ri,Ak,AZ,NL,Kc,Ln,Hd,OB,↓reduceIte,reduceCtorEq,Nat.reduceEqDiff,Nat.reduceAdd,Nat.reduceSub,Nat.reduceLeDiff,Nat.reduceLT,go_sem]
  simp only[Fy,AM,BZ]
  by_cases hh:FN x.fro x.heirs
  all_goals
   simp only[Do,Ga,Fv,hh,true_and,false_and,and_false,false_or]
   repeat'(first|(with_reducible apply And.intro)|intro _)
   all_goals(try simp(disch:=omega) only[AU]at*)
   all_goals first
    |omega
    |exact(An fun k=>by omega).symm
    |exact(As (by omega)).symm
    |exact Qq (by omega)
    |exact RJ (by omega)
 have eH:Iu x.kind=false:=by
  unfold Iu
  rw[beq_eq_false_iff_ne.2 k4,beq_eq_false_iff_ne.2 k3,beq_eq_false_iff_ne.2 k2,beq_eq_false_iff_ne.2 k1];rfl
 simp only[A4,ZU,D3,eH,Ak,AZ,NL,Kc,Ln,Hd,OB,↓reduceIte,reduceCtorEq,Nat.reduceEqDiff,Nat.reduceAdd,Nat.reduceSub,Nat.reduceLeDiff,Nat.reduceLT,go_sem]
 try simp only[Fy,AM,BZ,Bool.and_eq_true,beq_iff_eq,Bool.and_eq_false_iff,beq_eq_false_iff_ne]
 by_cases hh:FN x.fro x.heirs
 all_goals
  simp only[Do,Ga,Fv,hh,true_and,false_and,and_false,false_or]
  repeat'(first|(with_reducible apply And.intro)|intro _)
  all_goals(try simp(disch:=omega) only[AU]at*)
  all_goals first
   |omega
   |exact(An fun k=>by omega).symm
   |exact(As (by omega)).symm
   |exact Qq (by omega)
   |exact RJ (by omega)
end Go.Proofs.YtlieoghhkioflaaGreat
