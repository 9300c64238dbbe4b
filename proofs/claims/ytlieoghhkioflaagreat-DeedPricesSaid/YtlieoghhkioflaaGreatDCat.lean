/- Deeds: the deferred closure of try: it recovers from a void's number, and lays it. No condition. -/
import Derived.Test.YtlieoghhkioflaaGreatE2
import Derived.Test.YtlieoghhkioflaaGreatProg
import Derived.RecoverIn
import Derived.Recover
import Derived.Tactics2
import Derived.Laws.Pointers
import Derived.Test.YtlieoghhkioflaaGreatDiw
import Derived.Test.YtlieoghhkioflaaGreatDpt
set_option linter.unusedSimpArgs false
set_option linter.unusedVariables false
set_option maxRecDepth 100000
namespace Go.Proofs.YtlieoghhkioflaaGreat
open Go Go.RowKit
theorem QW(p:Addr)(w:World):
  CallsDIn (FW none) 0 Tryz.prog 102 #[.pointer (some p)] .returning w fun e u' w'=>e= .returned (.tuple #[])/\u'= .returning/\w'=w:=by
 refine callsDIn_of_wpSIn Tryz.func102 rfl trivial fun c₀ cs hu=> ?_
 apply wpSIn_seq
 apply wpSIn_region
 simp[wpOpsSIn,go_sem,recoverD,hu,Tryz.ntmps102,Exit.thenS]
 apply wpSIn_seq
 apply wpSIn_region
 simp[wpOpsSIn,go_sem,Exit.thenS]
 refine wpSIn_cond (t:=false) (by simp[Act.eval,Array.replicate]) ?_
 simp only[Bool.false_eq_true,if_false]
 refine wpSIn_of_wpIn rfl (wpIn_skip ?_)
 cases c₀
 simp_all[bodyPostS,results,Tryz.results102]
theorem TX(p:Addr)(z y:Int)(w:World)(hc:w.cell? p=some (.int .u8 y))(hz:w.frozen? p=false):
  CallsDIn (FW none) 0 Tryz.prog 102 #[.pointer (some p)] (.panicking [{v:= .iface 164 (.int .u8 z),recovered:=false}]) w fun e u' w'=>
   e= .returned (.tuple #[])/\u'= .panicking [{v:= .iface 164 (.int .u8 z),recovered:=true}]/\w'=w.setCell p (.int .u8 z):=by
 refine callsDIn_of_wpSIn Tryz.func102 rfl trivial fun c₀ cs hu=> ?_
 apply wpSIn_seq
 apply wpSIn_region
 simp[wpOpsSIn,go_sem,recoverD,hu,Tryz.ntmps102,Exit.thenS]
 apply wpSIn_seq
 apply wpSIn_region
 simp[wpOpsSIn,go_sem,Exit.thenS]
 refine wpSIn_cond (t:=true) (by simp[Act.eval,Array.replicate]) ?_
 simp only[if_true]
 apply wpSIn_seq
 apply wpSIn_region
 simp[wpOpsSIn,go_sem,Exit.thenS]
 apply wpSIn_seq
 apply wpSIn_seq
 apply wpSIn_region
 simp[wpOpsSIn,go_sem,Exit.thenS]
 refine wpSIn_cond (t:=false) (by simp[Act.eval,Array.replicate]) ?_
 simp only[Bool.false_eq_true,if_false]
 refine wpSIn_of_wpIn rfl (wpIn_skip ?_)
 simp only[Exit.thenS]
 apply wpSIn_region
 simp[wpOpsSIn,go_sem,hc,hz,bodyPostS,results,Tryz.results102]
theorem KF:Ea Tryz.prog 102 164 .u8:=by
 refine⟨G0 Tryz.func102 rfl rfl,fun g w=>QW _ w,fun g z y t w hg=> ?_⟩
 have hc:w.cell? ⟨g,0,none⟩=some (.int .u8 y):=by simp[World.cell?,hg]
 have hz:w.frozen? ⟨g,0,none⟩=false:=by simp[World.frozen?,hg]
 have h:=TX ⟨g,0,none⟩ z y w hc hz
 rw[setCell_eq_setRow w g 0 _ t (0,0) _ hg]at h
 exact h
end Go.Proofs.YtlieoghhkioflaaGreat
namespace Go.Proofs.YtlieoghhkioflaaGreat
open Go Go.RowKit
variable{G:Nat->Option (Nat×(Nat->Ad))}
def Rm:Ad:= .cons (.bool true) (.cons (.bool true) (.cons (.bool false) (.cons (.bool false) (.cons (.func (.func 119) .nil) .nil))))
def QV:Ad:= .cons (.bool false) (.cons (.bool true) (.cons (.bool false) (.cons (.bool false) (.cons (.func (.func 120) .nil) .nil))))
def QU:Ad:= .cons (.bool false) (.cons (.bool false) (.cons (.bool false) (.cons (.bool true) (.cons (.func (.func 121) .nil) .nil))))
def Qz:Ad:= .cons (.bool true) (.cons (.bool true) (.cons (.bool true) (.cons (.bool false) (.cons (.func (.func 122) .nil) .nil))))
def H8(k:Int):Ad:=if k=4 then Qz else if k=3 then QU else if k=2 then QV else Rm
def HW(k:Int):Bool:=k==4||k==3||k==2||k==1
noncomputable def D2:At:=Ak AY (fun _=>True) fun _=> .mview .u8 HW fun k=> .agg (H8 k)
theorem Ok:Aj Tryz.prog G 104 D2:=by
 refine HY mixed (S:=[]) (I:=[]) (X:=[]) (N:=[]) (C:=[]) .nil .nil .nil Tryz.func104 Acm fun a _ hw=> ?_
 simp only[Abg,AY,↓reduceIte,Nat.reduceEqDiff,Nat.reduceAdd,Nat.reduceLeDiff,go_sem]
 refine⟨fun k hk=> ?_,fun k=> ?_⟩
 ·split at hk
  ·rename_i h;subst h;simp only[↓reduceIte,Nat.reduceAdd,go_sem]
  split at hk
  ·rename_i h;subst h;simp only[show((3:Int)=4)=False from eq_false (by omega),↓reduceIte,Nat.reduceAdd,go_sem]
  split at hk
  ·rename_i h;subst h;simp only[show((2:Int)=4)=False from eq_false (by omega),show((2:Int)=3)=False from eq_false (by omega),↓reduceIte,Nat.reduceAdd,go_sem]
  split at hk
  ·rename_i h;subst h;simp only[show((1:Int)=4)=False from eq_false (by omega),show((1:Int)=3)=False from eq_false (by omega),show((1:Int)=2)=False from eq_false (by omega),↓reduceIte,Nat.reduceAdd,go_sem]
  cases hk
 by_cases h4:k=4
 ·subst h4;refine⟨rfl,fun _=> ?_⟩;simp only[H8,Qz,↓reduceIte,go_sem]
 by_cases h3:k=3
 ·subst h3;refine⟨rfl,fun _=> ?_⟩;simp only[H8,QU,show((3:Int)=4)=False from eq_false (by omega),↓reduceIte,go_sem]
 by_cases h2:k=2
 ·subst h2;refine⟨rfl,fun _=> ?_⟩;simp only[H8,QV,show((2:Int)=4)=False from eq_false (by omega),show((2:Int)=3)=False from eq_false (by omega),↓reduceIte,go_sem]
 by_cases h1:k=1
 ·subst h1;refine⟨rfl,fun _=> ?_⟩;simp only[H8,Rm,show((1:Int)=4)=False from eq_false (by omega),show((1:Int)=3)=False from eq_false (by omega),show((1:Int)=2)=False from eq_false (by omega),↓reduceIte,go_sem]
 have:HW k=false:=by
  unfold HW
  rw[beq_eq_false_iff_ne.2 h4,beq_eq_false_iff_ne.2 h3,beq_eq_false_iff_ne.2 h2,beq_eq_false_iff_ne.2 h1];rfl
 refine⟨?_,fun h=>by rw[this]at h;cases h⟩
 rw[this,if_neg h4,if_neg h3,if_neg h2,if_neg h1]
noncomputable def Lv:At:=C6 QZ Xj (fun r _=>1<=r.days/\r.days<=16) fun r x=> .bool (Bf (D9 r x))
theorem ZD:Aj Tryz.prog G 96 Lv:=by
 refine PE (S:=[(104,D2),(83,NT),(105,JS),(84,LZ),(82,HA),(115,Pe)]) (I:=[]) mixed (.cons Ok (.cons ZG (.cons Aar (.cons Z5 (.cons Xl (.cons AbT .nil)))))) .nil Tryz.func96 c96 fun r x hp hw=> ?_
 obtain⟨h1,h2⟩:=hp
 simp only[Nat.reduceSub,Nat.reducePow,go_sem]at hw
 by_cases k4:x.kind=4
 ·have eH:HW x.kind=true:=by rw[k4];rfl
  have eL:H8 x.kind=Qz:=by rw[k4];rfl
  simp only[Bm,ZH,D2,eH,eL,Qz,Ak,AY,NT,JS,LZ,HA,Pe,↓reduceIte,reduceCtorEq,Nat.reduceEqDiff,Nat.reduceAdd,Nat.reduceSub,Nat.reduceLeDiff,Nat.reduceLT,go_sem]
  simp only[G5,A6,Dj]
  by_cases hh:GZ x.fro x.heirs
  all_goals
   simp only[D9,GE,Gf,hh,true_and,false_and,and_false,false_or]
   repeat'(first|(with_reducible apply And.intro)|intro _)
   all_goals(try simp(disch:=omega) only[AQ]at*)
   all_goals first
    |omega
    |exact(Aw fun k=>by omega).symm
    |exact(AA (by omega)).symm
    |exact S0 (by omega)
    |exact TR (by omega)
 by_cases k3:x.kind=3
 ·have eH:HW x.kind=true:=by rw[k3];rfl
  have eL:H8 x.kind=QU:=by rw[k3];rfl
  simp only[Bm,ZH,D2,eH,eL,QU,Ak,AY,NT,JS,LZ,HA,Pe,hw,↓reduceIte,reduceCtorEq,Nat.reduceEqDiff,Nat.reduceAdd,Nat.reduceSub,Nat.reduceLeDiff,Nat.reduceLT,Nat.reducePow,go_sem]
  simp only[G5,A6,Dj,Bool.and_eq_true,beq_iff_eq,Bool.and_eq_false_iff,beq_eq_false_iff_ne]
  by_cases hh:GZ x.fro x.heirs
  all_goals
   simp only[D9,GE,Gf,hh,AA,Aw,not_false_eq_true,true_and,false_and,and_false,false_or]
   repeat'(first|(with_reducible apply And.intro)|intro _)
   all_goals(try simp(disch:=omega) only[AQ]at*)
   all_goals first
    |omega
    |exact(Aw fun k=>by omega).symm
    |exact(AA (by omega)).symm
    |exact S0 (by omega)
    |exact TR (by omega)
 by_cases k2:x.kind=2
 ·have eH:HW x.kind=true:=by rw[k2];rfl
  have eL:H8 x.kind=QV:=by rw[k2];rfl
  simp only[Bm,ZH,D2,eH,eL,QV,Ak,AY,NT,JS,LZ,HA,Pe,↓reduceIte,reduceCtorEq,Nat.reduceEqDiff,Nat.reduceAdd,Nat.reduceSub,Nat.reduceLeDiff,Nat.reduceLT,go_sem]
  simp only[G5,A6,Dj]
  by_cases hh:GZ x.fro x.heirs
  all_goals
   simp only[D9,GE,Gf,hh,true_and,false_and,and_false,false_or]
   repeat'(first|(with_reducible apply And.intro)|intro _)
   all_goals(try simp(disch:=omega) only[AQ]at*)
   all_goals first
    |omega
    |exact(Aw fun k=>by omega).symm
    |exact(AA (by omega)).symm
    |exact S0 (by omega)
    |exact TR (by omega)
 by_cases k1:x.kind=1
 ·have eH:HW x.kind=true:=by rw[k1];rfl
  have eL:H8 x.kind=Rm:=by rw[k1];rfl
  simp only[Bm,ZH,D2,eH,eL,Rm,Ak,AY,NT,JS,LZ,HA,Pe,↓reduceIte,reduceCtorEq,Nat.reduceEqDiff,Nat.reduceAdd,Nat.reduceSub,Nat.reduceLeDiff,Nat.reduceLT,go_sem]
  simp only[G5,A6,Dj]
  by_cases hh:GZ x.fro x.heirs
  all_goals
   simp only[D9,GE,Gf,hh,true_and,false_and,and_false,false_or]
   repeat'(first|(with_reducible apply And.intro)|intro _)
   all_goals(try simp(disch:=omega) only[AQ]at*)
   all_goals first
    |omega
    |exact(Aw fun k=>by omega).symm
    |exact(AA (by omega)).symm
    |exact S0 (by omega)
    |exact TR (by omega)
 have eH:HW x.kind=false:=by
  unfold HW
  rw[beq_eq_false_iff_ne.2 k4,beq_eq_false_iff_ne.2 k3,beq_eq_false_iff_ne.2 k2,beq_eq_false_iff_ne.2 k1];rfl
 simp only[Bm,ZH,D2,eH,Ak,AY,NT,JS,LZ,HA,Pe,↓reduceIte,reduceCtorEq,Nat.reduceEqDiff,Nat.reduceAdd,Nat.reduceSub,Nat.reduceLeDiff,Nat.reduceLT,go_sem]
 try simp only[G5,A6,Dj,Bool.and_eq_true,beq_iff_eq,Bool.and_eq_false_iff,beq_eq_false_iff_ne]
 by_cases hh:GZ x.fro x.heirs
 all_goals
  simp only[D9,GE,Gf,hh,true_and,false_and,and_false,false_or]
  repeat'(first|(with_reducible apply And.intro)|intro _)
  all_goals(try simp(disch:=omega) only[AQ]at*)
  all_goals first
   |omega
   |exact(Aw fun k=>by omega).symm
   |exact(AA (by omega)).symm
   |exact S0 (by omega)
   |exact TR (by omega)
end Go.Proofs.YtlieoghhkioflaaGreat
