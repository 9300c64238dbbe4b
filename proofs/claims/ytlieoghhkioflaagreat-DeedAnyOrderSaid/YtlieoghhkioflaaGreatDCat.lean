/- Deeds: the deferred closure of try: it recovers from a void's number, and lays it. No condition. -/
import Derived.Test.YtlieoghhkioflaaGreatE2
import Derived.Test.YtlieoghhkioflaaGreatProg
import Derived.RecoverIn
import Derived.Recover
import Derived.Tactics2
import Derived.Laws.Pointers
import Derived.Test.YtlieoghhkioflaaGreatDiw
import Derived.Test.YtlieoghhkioflaaGreatDr2
set_option linter.unusedSimpArgs false
set_option linter.unusedVariables false
set_option maxRecDepth 100000
namespace Go.Proofs.YtlieoghhkioflaaGreat
open Go Go.RowKit
theorem RJ(p:Addr)(w:World):
  CallsDIn (FW none) 0 Tryz.prog 102 #[.pointer (some p)] .returning w fun e u' w'=>e= .returned (.tuple #[])/\u'= .returning/\w'=w:=by
 refine callsDIn_of_wpSIn Tryz.func102 rfl trivial fun c₀ cs hu=> ?_
 apply wpSIn_seq
 apply wpSIn_region
 simp[wpOpsSIn,go_sem,recoverD,hu,Tryz.ntmps102,Exit.thenS]
 apply wpSIn_seq
 apply wpSIn_region
 simp[wpOpsSIn,go_sem,Exit.thenS]
 refine wpSIn_cond (t:=false) (by simp[Act.eval,Array.replicate]) ?_
 simp only[Bool.false_eq_true,if_false]
 refine wpSIn_of_wpIn rfl (wpIn_skip ?_)
 cases c₀
 simp_all[bodyPostS,results,Tryz.results102]
theorem Ta(p:Addr)(z y:Int)(w:World)(hc:w.cell? p=some (.int .u8 y))(hz:w.frozen? p=false):
  CallsDIn (FW none) 0 Tryz.prog 102 #[.pointer (some p)] (.panicking [{v:= .iface 164 (.int .u8 z),recovered:=false}]) w fun e u' w'=>
   e= .returned (.tuple #[])/\u'= .panicking [{v:= .iface 164 (.int .u8 z),recovered:=true}]/\w'=w.setCell p (.int .u8 z):=by
 refine callsDIn_of_wpSIn Tryz.func102 rfl trivial fun c₀ cs hu=> ?_
 apply wpSIn_seq
 apply wpSIn_region
 simp[wpOpsSIn,go_sem,recoverD,hu,Tryz.ntmps102,Exit.thenS]
 apply wpSIn_seq
 apply wpSIn_region
 simp[wpOpsSIn,go_sem,Exit.thenS]
 refine wpSIn_cond (t:=true) (by simp[Act.eval,Array.replicate]) ?_
 simp only[if_true]
 apply wpSIn_seq
 apply wpSIn_region
 simp[wpOpsSIn,go_sem,Exit.thenS]
 apply wpSIn_seq
 apply wpSIn_seq
 apply wpSIn_region
 simp[wpOpsSIn,go_sem,Exit.thenS]
 refine wpSIn_cond (t:=false) (by simp[Act.eval,Array.replicate]) ?_
 simp only[Bool.false_eq_true,if_false]
 refine wpSIn_of_wpIn rfl (wpIn_skip ?_)
 simp only[Exit.thenS]
 apply wpSIn_region
 simp[wpOpsSIn,go_sem,hc,hz,bodyPostS,results,Tryz.results102]
theorem KF:D7 Tryz.prog 102 164 .u8:=by
 refine⟨GS Tryz.func102 rfl rfl,fun g w=>RJ _ w,fun g z y t w hg=> ?_⟩
 have hc:w.cell? ⟨g,0,none⟩=some (.int .u8 y):=by simp[World.cell?,hg]
 have hz:w.frozen? ⟨g,0,none⟩=false:=by simp[World.frozen?,hg]
 have h:=Ta ⟨g,0,none⟩ z y w hc hz
 rw[setCell_eq_setRow w g 0 _ t (0,0) _ hg]at h
 exact h
end Go.Proofs.YtlieoghhkioflaaGreat
namespace Go.Proofs.YtlieoghhkioflaaGreat
open Go Go.RowKit
variable{G:Nat->Option (Nat×(Nat->Ad))}
def RV:Ad:= .cons (.bool true) (.cons (.bool true) (.cons (.bool false) (.cons (.bool false) (.cons (.func (.func 119) .nil) .nil))))
def Rz:Ad:= .cons (.bool false) (.cons (.bool true) (.cons (.bool false) (.cons (.bool false) (.cons (.func (.func 120) .nil) .nil))))
def Q8:Ad:= .cons (.bool false) (.cons (.bool false) (.cons (.bool false) (.cons (.bool true) (.cons (.func (.func 121) .nil) .nil))))
def QG:Ad:= .cons (.bool true) (.cons (.bool true) (.cons (.bool true) (.cons (.bool false) (.cons (.func (.func 122) .nil) .nil))))
def HZ(k:Int):Ad:=if k=4 then QG else if k=3 then Q8 else if k=2 then Rz else RV
def H0(k:Int):Bool:=k==4||k==3||k==2||k==1
noncomputable def D3:As:=Ak AZ (fun _=>True) fun _=> .mview .u8 H0 fun k=> .agg (HZ k)
theorem Pg:Ah Tryz.prog G 104 D3:=by
 refine Ij mixed (S:=[]) (I:=[]) (X:=[]) (N:=[]) (C:=[]) .nil .nil .nil Tryz.func104 Ab3 fun a _ hw=> ?_
 simp only[AaH,AZ,↓reduceIte,Nat.reduceEqDiff,Nat.reduceAdd,Nat.reduceLeDiff,go_sem]
 refine⟨fun k hk=> ?_,fun k=> ?_⟩
 ·split at hk
  ·rename_i h;subst h;simp only[↓reduceIte,Nat.reduceAdd,go_sem]
  split at hk
  ·rename_i h;subst h;simp only[show((3:Int)=4)=False from eq_false (by omega),↓reduceIte,Nat.reduceAdd,go_sem]
  split at hk
  ·rename_i h;subst h;simp only[show((2:Int)=4)=False from eq_false (by omega),show((2:Int)=3)=False from eq_false (by omega),↓reduceIte,Nat.reduceAdd,go_sem]
  split at hk
  ·rename_i h;subst h;simp only[show((1:Int)=4)=False from eq_false (by omega),show((1:Int)=3)=False from eq_false (by omega),show((1:Int)=2)=False from eq_false (by omega),↓reduceIte,Nat.reduceAdd,go_sem]
  cases hk
 by_cases h4:k=4
 ·subst h4;refine⟨rfl,fun _=> ?_⟩;simp only[HZ,QG,↓reduceIte,go_sem]
 by_cases h3:k=3
 ·subst h3;refine⟨rfl,fun _=> ?_⟩;simp only[HZ,Q8,show((3:Int)=4)=False from eq_false (by omega),↓reduceIte,go_sem]
 by_cases h2:k=2
 ·subst h2;refine⟨rfl,fun _=> ?_⟩;simp only[HZ,Rz,show((2:Int)=4)=False from eq_false (by omega),show((2:Int)=3)=False from eq_false (by omega),↓reduceIte,go_sem]
 by_cases h1:k=1
 ·subst h1;refine⟨rfl,fun _=> ?_⟩;simp only[HZ,RV,show((1:Int)=4)=False from eq_false (by omega),show((1:Int)=3)=False from eq_false (by omega),show((1:Int)=2)=False from eq_false (by omega),↓reduceIte,go_sem]
 have:H0 k=false:=by
  unfold H0
  rw[beq_eq_false_iff_ne.2 h4,beq_eq_false_iff_ne.2 h3,beq_eq_false_iff_ne.2 h2,beq_eq_false_iff_ne.2 h1];rfl
 refine⟨?_,fun h=>by rw[this]at h;cases h⟩
 rw[this,if_neg h4,if_neg h3,if_neg h2,if_neg h1]
noncomputable def Ln:As:=Cq KC Sf (fun r _=>1<=r.days/\r.days<=16) fun r x=> .bool (A8 (Dn r x))
theorem Y0:Ah Tryz.prog G 96 Ln:=by
 refine Kq (S:=[(104,D3),(83,NV),(105,Kc),(84,Mm),(82,Hq),(115,N5)]) (I:=[]) mixed (.cons Pg (.cons pIn (.cons Aas (.cons Abm (.cons Xy (.cons AbR .nil)))))) .nil Tryz.func96 c96 fun r x hp hw=> ?_
 obtain⟨h1,h2⟩:=hp
 simp only[Nat.reduceSub,Nat.reducePow,go_sem]at hw
 by_cases k4:x.kind=4
 ·have eH:H0 x.kind=true:=by rw[k4];rfl
  have eL:HZ x.kind=QG:=by rw[k4];rfl
  simp only[A3,a96,D3,eH,eL,QG,Ak,AZ,NV,Kc,Mm,Hq,N5,↓reduceIte,reduceCtorEq,Nat.reduceEqDiff,Nat.reduceAdd,Nat.reduceSub,Nat.reduceLeDiff,Nat.reduceLT,go_sem]
  simp only[Ft,AM,BB]
  by_cases hh:FV x.fro x.heirs
  all_goals
   simp only[Dn,F5,FA,hh,true_and,false_and,and_false,false_or]
   repeat'(first|(with_reducible apply And.intro)|intro _)
   all_goals(try simp(disch:=omega) only[AU]at*)
   all_goals first
    |omega
    |exact(Am fun k=>by omega).symm
    |exact(At (by omega)).symm
    |exact Rc (by omega)
    |exact Ry (by omega)
 by_cases k3:x.kind=3
 ·have eH:H0 x.kind=true:=by rw[k3];rfl
  have eL:HZ x.kind=Q8:=by rw[k3];rfl
  simp only[A3,a96,D3,eH,eL,Q8,Ak,AZ,NV,Kc,Mm,Hq,N5,hw,↓reduceIte,reduceCtorEq,Nat.reduceEqDiff,Nat.reduceAdd,Nat.reduceSub,Nat.reduceLeDiff,Nat.reduceLT,Nat.reducePow,go_sem]
  simp only[Ft,AM,BB,Bool.and_eq_true,beq_iff_eq,Bool.and_eq_false_iff,beq_eq_false_iff_ne]
  by_cases hh:FV x.fro x.heirs
  all_goals
   simp only[Dn,F5,FA,hh,At,Am,not_false_eq_true,true_and,false_and,and_false,false_or]
   repeat'(first|(with_reducible apply And.intro)|intro _)
   all_goals(try simp(disch:=omega) only[AU]at*)
   all_goals first
    |omega
    |exact(Am fun k=>by omega).symm
    |exact(At (by omega)).symm
    |exact Rc (by omega)
    |exact Ry (by omega)
 by_cases k2:x.kind=2
 ·have eH:H0 x.kind=true:=by rw[k2];rfl
  have eL:HZ x.kind=Rz:=by rw[k2];rfl
  simp only[A3,a96,D3,eH,eL,Rz,Ak,AZ,NV,Kc,Mm,Hq,N5,↓reduceIte,reduceCtorEq,Nat.reduceEqDiff,Nat.reduceAdd,Nat.reduceSub,Nat.reduceLeDiff,Nat.reduceLT,go_sem]
  simp only[Ft,AM,BB]
  by_cases hh:FV x.fro x.heirs
  all_goals
   simp only[Dn,F5,FA,hh,true_and,false_and,and_false,false_or]
   repeat'(first|(with_reducible apply And.intro)|intro _)
   all_goals(try simp(disch:=omega) only[AU]at*)
   all_goals first
    |omega
    |exact(Am fun k=>by omega).symm
    |exact(At (by omega)).symm
    |exact Rc (by omega)
    |exact Ry (by omega)
 by_cases k1:x.kind=1
 ·have eH:H0 x.kind=true:=by rw[k1];rfl
  have eL:HZ x.kind=RV:=by rw[k1];rfl
  simp only[A3,a96,D3,eH,eL,RV,Ak,AZ,NV,Kc,Mm,Hq,N5,↓reduceIte,reduceCtorEq,Nat.reduceEqDiff,Nat.reduceAdd,Nat.reduceSub,Nat.reduceLeDiff,Nat.reduceLT,go_sem]
  simp only[Ft,AM,BB]
  by_cases hh:FV x.fro x.heirs
  all_goals
   simp only[Dn,F5,FA,hh,true_and,false_and,and_false,false_or]
   repeat'(first|(with_reducible apply And.intro)|intro _)
   all_goals(try simp(disch:=omega) only[AU]at*)
   all_goals first
    |omega
    |exact(Am fun k=>by omega).symm
    |exact(At (by omega)).symm
    |exact Rc (by omega)
    |exact Ry (by omega)
 have eH:H0 x.kind=false:=by
  unfold H0
  rw[beq_eq_false_iff_ne.2 k4,beq_eq_false_iff_ne.2 k3,beq_eq_false_iff_ne.2 k2,beq_eq_false_iff_ne.2 k1];rfl
 simp only[A3,a96,D3,eH,Ak,AZ,NV,Kc,Mm,Hq,N5,↓reduceIte,reduceCtorEq,Nat.reduceEqDiff,Nat.reduceAdd,Nat.reduceSub,Nat.reduceLeDiff,Nat.reduceLT,go_sem]
 try simp only[Ft,AM,BB,Bool.and_eq_true,beq_iff_eq,Bool.and_eq_false_iff,beq_eq_false_iff_ne]
 by_cases hh:FV x.fro x.heirs
 all_goals
  simp only[Dn,F5,FA,hh,true_and,false_and,and_false,false_or]
  repeat'(first|(with_reducible apply And.intro)|intro _)
  all_goals(try simp(disch:=omega) only[AU]at*)
  all_goals first
   |omega
   |exact(Am fun k=>by omega).symm
   |exact(At (by omega)).symm
   |exact Rc (by omega)
   |exact Ry (by omega)
end Go.Proofs.YtlieoghhkioflaaGreat
