/- Deeds: the deferred closure of try: it recovers from a void's number, and lays it. No condition. -/
import Derived.Test.YtlieoghhkioflaaGreatE2
import Derived.Test.YtlieoghhkioflaaGreatProg
import Derived.RecoverIn
import Derived.Recover
import Derived.Tactics2
import Derived.Laws.Pointers
import Derived.Test.YtlieoghhkioflaaGreatDiw
import Derived.Test.YtlieoghhkioflaaGreatDr2
set_option linter.unusedSimpArgs false
set_option linter.unusedVariables false
set_option maxRecDepth 100000
namespace Go.Proofs.YtlieoghhkioflaaGreat
open Go Go.RowKit
theorem RF(p:Addr)(w:World):
  CallsDIn (FW none) 0 Tryz.prog 102 #[.pointer (some p)] .returning w fun e u' w'=>e= .returned (.tuple #[])/\u'= .returning/\w'=w:=by
 refine callsDIn_of_wpSIn Tryz.func102 rfl trivial fun c₀ cs hu=> ?_
 apply wpSIn_seq
 apply wpSIn_region
 simp[wpOpsSIn,go_sem,recoverD,hu,Tryz.ntmps102,Exit.thenS]
 apply wpSIn_seq
 apply wpSIn_region
 simp[wpOpsSIn,go_sem,Exit.thenS]
 refine wpSIn_cond (t:=false) (by simp[Act.eval,Array.replicate]) ?_
 simp only[Bool.false_eq_true,if_false]
 refine wpSIn_of_wpIn rfl (wpIn_skip ?_)
 cases c₀
 simp_all[bodyPostS,results,Tryz.results102]
theorem Ut(p:Addr)(z y:Int)(w:World)(hc:w.cell? p=some (.int .u8 y))(hz:w.frozen? p=false):
  CallsDIn (FW none) 0 Tryz.prog 102 #[.pointer (some p)] (.panicking [{v:= .iface 164 (.int .u8 z),recovered:=false}]) w fun e u' w'=>
   e= .returned (.tuple #[])/\u'= .panicking [{v:= .iface 164 (.int .u8 z),recovered:=true}]/\w'=w.setCell p (.int .u8 z):=by
 refine callsDIn_of_wpSIn Tryz.func102 rfl trivial fun c₀ cs hu=> ?_
 apply wpSIn_seq
 apply wpSIn_region
 simp[wpOpsSIn,go_sem,recoverD,hu,Tryz.ntmps102,Exit.thenS]
 apply wpSIn_seq
 apply wpSIn_region
 simp[wpOpsSIn,go_sem,Exit.thenS]
 refine wpSIn_cond (t:=true) (by simp[Act.eval,Array.replicate]) ?_
 simp only[if_true]
 apply wpSIn_seq
 apply wpSIn_region
 simp[wpOpsSIn,go_sem,Exit.thenS]
 apply wpSIn_seq
 apply wpSIn_seq
 apply wpSIn_region
 simp[wpOpsSIn,go_sem,Exit.thenS]
 refine wpSIn_cond (t:=false) (by simp[Act.eval,Array.replicate]) ?_
 simp only[Bool.false_eq_true,if_false]
 refine wpSIn_of_wpIn rfl (wpIn_skip ?_)
 simp only[Exit.thenS]
 apply wpSIn_region
 simp[wpOpsSIn,go_sem,hc,hz,bodyPostS,results,Tryz.results102]
theorem K3:D8 Tryz.prog 102 164 .u8:=by
 refine⟨G0 Tryz.func102 rfl rfl,fun g w=>RF _ w,fun g z y t w hg=> ?_⟩
 have hc:w.cell? ⟨g,0,none⟩=some (.int .u8 y):=by simp[World.cell?,hg]
 have hz:w.frozen? ⟨g,0,none⟩=false:=by simp[World.frozen?,hg]
 have h:=Ut ⟨g,0,none⟩ z y w hc hz
 rw[setCell_eq_setRow w g 0 _ t (0,0) _ hg]at h
 exact h
end Go.Proofs.YtlieoghhkioflaaGreat
namespace Go.Proofs.YtlieoghhkioflaaGreat
open Go Go.RowKit
variable{G:Nat->Option (Nat×(Nat->Ae))}
def RG:Ae:= .cons (.bool true) (.cons (.bool true) (.cons (.bool false) (.cons (.bool false) (.cons (.func (.func 119) .nil) .nil))))
def Q7:Ae:= .cons (.bool false) (.cons (.bool true) (.cons (.bool false) (.cons (.bool false) (.cons (.func (.func 120) .nil) .nil))))
def Qv:Ae:= .cons (.bool false) (.cons (.bool false) (.cons (.bool false) (.cons (.bool true) (.cons (.func (.func 121) .nil) .nil))))
def Q0:Ae:= .cons (.bool true) (.cons (.bool true) (.cons (.bool true) (.cons (.bool false) (.cons (.func (.func 122) .nil) .nil))))
def HL(k:Int):Ae:=if k=4 then Q0 else if k=3 then Qv else if k=2 then Q7 else RG
def Ic(k:Int):Bool:=k==4||k==3||k==2||k==1
noncomputable def D4:At:=An AZ (fun _=>True) fun _=> .mview .u8 Ic fun k=> .agg (HL k)
theorem O3:Ah Tryz.prog G 104 D4:=by
 refine Ib mixed (S:=[]) (I:=[]) (X:=[]) (N:=[]) (C:=[]) .nil .nil .nil Tryz.func104 AcE fun a _ hw=> ?_
 simp only[Aa7,AZ,↓reduceIte,Nat.reduceEqDiff,Nat.reduceAdd,Nat.reduceLeDiff,go_sem]
 refine⟨fun k hk=> ?_,fun k=> ?_⟩
 ·split at hk
  ·rename_i h;subst h;simp only[↓reduceIte,Nat.reduceAdd,go_sem]
  split at hk
  ·rename_i h;subst h;simp only[show((3:Int)=4)=False from eq_false (by omega),↓reduceIte,Nat.reduceAdd,go_sem]
  split at hk
  ·rename_i h;subst h;simp only[show((2:Int)=4)=False from eq_false (by omega),show((2:Int)=3)=False from eq_false (by omega),↓reduceIte,Nat.reduceAdd,go_sem]
  split at hk
  ·rename_i h;subst h;simp only[show((1:Int)=4)=False from eq_false (by omega),show((1:Int)=3)=False from eq_false (by omega),show((1:Int)=2)=False from eq_false (by omega),↓reduceIte,Nat.reduceAdd,go_sem]
  cases hk
 by_cases h4:k=4
 ·subst h4;refine⟨rfl,fun _=> ?_⟩;simp only[HL,Q0,↓reduceIte,go_sem]
 by_cases h3:k=3
 ·subst h3;refine⟨rfl,fun _=> ?_⟩;simp only[HL,Qv,show((3:Int)=4)=False from eq_false (by omega),↓reduceIte,go_sem]
 by_cases h2:k=2
 ·subst h2;refine⟨rfl,fun _=> ?_⟩;simp only[HL,Q7,show((2:Int)=4)=False from eq_false (by omega),show((2:Int)=3)=False from eq_false (by omega),↓reduceIte,go_sem]
 by_cases h1:k=1
 ·subst h1;refine⟨rfl,fun _=> ?_⟩;simp only[HL,RG,show((1:Int)=4)=False from eq_false (by omega),show((1:Int)=3)=False from eq_false (by omega),show((1:Int)=2)=False from eq_false (by omega),↓reduceIte,go_sem]
 have:Ic k=false:=by
  unfold Ic
  rw[beq_eq_false_iff_ne.2 h4,beq_eq_false_iff_ne.2 h3,beq_eq_false_iff_ne.2 h2,beq_eq_false_iff_ne.2 h1];rfl
 refine⟨?_,fun h=>by rw[this]at h;cases h⟩
 rw[this,if_neg h4,if_neg h3,if_neg h2,if_neg h1]
noncomputable def LF:At:=Ct KS Us (fun r _=>1<=r.days/\r.days<=16) fun r x=> .bool (A4 (C3 r x))
theorem X5:Ah Tryz.prog G 96 LF:=by
 refine Ky (S:=[(104,D4),(83,NR),(105,JG),(84,Me),(82,Hl),(115,O6)]) (I:=[]) mixed (.cons O3 (.cons ZW (.cons AbG (.cons Aby (.cons Xm (.cons AcA .nil)))))) .nil Tryz.func96 c96 fun r x hp hw=> ?_
 obtain⟨h1,h2⟩:=hp
 simp only[Nat.reduceSub,Nat.reducePow,go_sem]at hw
 by_cases k4:x.kind=4
 ·have eH:Ic x.kind=true:=by rw[k4];rfl
  have eL:HL x.kind=Q0:=by rw[k4];rfl
  simp only[A8,Z3,D4,eH,eL,Q0,An,AZ,NR,JG,Me,Hl,O6,↓reduceIte,reduceCtorEq,Nat.reduceEqDiff,Nat.reduceAdd,Nat.reduceSub,Nat.reduceLeDiff,Nat.reduceLT,go_sem]
  simp only[Fv,AN,B4]
  by_cases hh:FP x.fro x.heirs
  all_goals
   simp only[C3,FF,Em,hh,true_and,false_and,and_false,false_or]
   repeat'(first|(with_reducible apply And.intro)|intro _)
   all_goals(try simp(disch:=omega) only[AU]at*)
   all_goals first
    |omega
    |exact(Am fun k=>by omega).symm
    |exact(As (by omega)).symm
    |exact Q4 (by omega)
    |exact QL (by omega)
 by_cases k3:x.kind=3
 ·have eH:Ic x.kind=true:=by rw[k3];rfl
  have eL:HL x.kind=Qv:=by rw[k3];rfl
  simp only[A8,Z3,D4,eH,eL,Qv,An,AZ,NR,JG,Me,Hl,O6,hw,↓reduceIte,reduceCtorEq,Nat.reduceEqDiff,Nat.reduceAdd,Nat.reduceSub,Nat.reduceLeDiff,Nat.reduceLT,Nat.reducePow,go_sem]
  simp only[Fv,AN,B4,Bool.and_eq_true,beq_iff_eq,Bool.and_eq_false_iff,beq_eq_false_iff_ne]
  by_cases hh:FP x.fro x.heirs
  all_goals
   simp only[C3,FF,Em,hh,As,Am,not_false_eq_true,true_and,false_and,and_false,false_or]
   repeat'(first|(with_reducible apply And.intro)|intro _)
   all_goals(try simp(disch:=omega) only[AU]at*)
   all_goals first
    |omega
    |exact(Am fun k=>by omega).symm
    |exact(As (by omega)).symm
    |exact Q4 (by omega)
    |exact QL (by omega)
 by_cases k2:x.kind=2
 ·have eH:Ic x.kind=true:=by rw[k2];rfl
  have eL:HL x.kind=Q7:=by rw[k2];rfl
  simp only[A8,Z3,D4,eH,eL,Q7,An,AZ,NR,JG,Me,Hl,O6,↓reduceIte,reduceCtorEq,Nat.reduceEqDiff,Nat.reduceAdd,Nat.reduceSub,Nat.reduceLeDiff,Nat.reduceLT,go_sem]
  simp only[Fv,AN,B4]
  by_cases hh:FP x.fro x.heirs
  all_goals
   simp only[C3,FF,Em,hh,true_and,false_and,and_false,false_or]
   repeat'(first|(with_reducible apply And.intro)|intro _)
   all_goals(try simp(disch:=omega) only[AU]at*)
   all_goals first
    |omega
    |exact(Am fun k=>by omega).symm
    |exact(As (by omega)).symm
    |exact Q4 (by omega)
    |exact QL (by omega)
 by_cases k1:x.kind=1
 ·have eH:Ic x.kind=true:=by rw[k1];rfl
  have eL:HL x.kind=RG:=by rw[k1];rfl
  simp only[A8,Z3,D4,eH,eL,RG,An,AZ,NR,JG,Me,Hl,O6,↓reduceIte,reduceCtorEq,Nat.reduceEqDiff,Nat.reduceAdd,Nat.reduceSub,Nat.reduceLeDiff,Nat.reduceLT,go_sem]
  simp only[Fv,AN,B4]
  by_cases hh:FP x.fro x.heirs
  all_goals
   simp only[C3,FF,Em,hh,true_and,false_and,and_false,false_or]
   repeat'(first|(with_reducible apply And.intro)|intro _)
   all_goals(try simp(disch:=omega) only[AU]at*)
   all_goals first
    |omega
    |exact(Am fun k=>by omega).symm
    |exact(As (by omega)).symm
    |exact Q4 (by omega)
    |exact QL (by omega)
 have eH:Ic x.kind=false:=by
  unfold Ic
  rw[beq_eq_false_iff_ne.2 k4,beq_eq_false_iff_ne.2 k3,beq_eq_false_iff_ne.2 k2,beq_eq_false_iff_ne.2 k1];rfl
 simp only[A8,Z3,D4,eH,An,AZ,NR,JG,Me,Hl,O6,↓reduceIte,reduceCtorEq,Nat.reduceEqDiff,Nat.reduceAdd,Nat.reduceSub,Nat.reduceLeDiff,Nat.reduceLT,go_sem]
 try simp only[Fv,AN,B4,Bool.and_eq_true,beq_iff_eq,Bool.and_eq_false_iff,beq_eq_false_iff_ne]
 by_cases hh:FP x.fro x.heirs
 all_goals
  simp only[C3,FF,Em,hh,true_and,false_and,and_false,false_or]
  repeat'(first|(with_reducible apply And.intro)|intro _)
  all_goals(try simp(disch:=omega) only[AU]at*)
  all_goals first
   |omega
   |exact(Am fun k=>by omega).symm
   |exact(As (by omega)).symm
   |exact Q4 (by omega)
   |exact QL (by omega)
end Go.Proofs.YtlieoghhkioflaaGreat
