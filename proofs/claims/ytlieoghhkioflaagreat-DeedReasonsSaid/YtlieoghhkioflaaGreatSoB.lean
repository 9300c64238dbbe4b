/- The stable sort: what its texts for each type share. No condition. -/
import Derived.Test.YtlieoghhkioflaaGreatSoT
set_option linter.unusedSimpArgs false
set_option linter.unusedVariables false
namespace Go.Proofs.YtlieoghhkioflaaGreat
open Go Go.RowKit
variable{α:Type}
def C5(c:Ae):VT Unit where
 Is:=fun v=>v=c
 of:=fun _=>()
 enc:=fun _=>c
 h1:=by rintro v rfl;exact B7 _
 h2:=fun _=>rfl
theorem Wh(c v:Ae):(C5 c).Is v=(v=c):=rfl
theorem Vk(c v:Ae):(C5 c).of v=():=rfl
theorem SR(c:Ae)(u:Unit):(C5 c).enc u=c:=rfl
attribute [go_sem] Wh Vk SR
def C7(x y:Hs):Prop:=x.who<y.who
instance(x y:Hs):Decidable (C7 x y):=by unfold C7;infer_instance
def Xs(r:α->α->Prop)[DecidableRel r](a b:α):Int:=if r a b then-1 else if r b a then 1 else 0
theorem E2(r:α->α->Prop)[DecidableRel r](a b:α):(Xs r a b<0)=(r a b):=by
 apply propext
 unfold Xs
 split
 ·rename_i h;simp[h]
 rename_i h;split<;>simp[h]
theorem IR:UN fun a b=>decide (Bl a b):=⟨fun a b c h1 h2=>by simp only[decide_eq_true_eq]at*;exact J8 h1 h2,fun a b c h=>by simp only[decide_eq_true_eq]at*;unfold Bl at*;omega,fun a=>by simp only[decide_eq_false_iff_not];unfold Bl;omega⟩
theorem IS:UN fun a b=>decide (C7 a b):=⟨fun a b c h1 h2=>by simp only[decide_eq_true_eq]at*;unfold C7 at*;omega,fun a b c h=>by simp only[decide_eq_true_eq]at*;unfold C7 at*;omega,fun a=>by simp only[decide_eq_false_iff_not];unfold C7;omega⟩
theorem Ln(x:Hs):∀b,b<2->Az x.L b=x.c b:=fun b hb=>by
 rcases(by omega:b=0\/b=1)with rfl|rfl<;>rfl
theorem Aam{e:Int}(h:0<=e)(h':e<=18446744073709551615):IntKind.u64.wrap e=e:=by
 simp only[IntKind.wrap,IntKind.bits,IntKind.signed,Bool.false_and]
 rw[if_neg (by simp)]
 omega
theorem Ks{x y:Nat}(h:x<=200000)(h':y<=200000):IntKind.i64.wrap (IntKind.u64.wrap (IntKind.i64.wrap ((x:Int)+(y:Int)))/2^1)=(((x+y)/2:Nat):Int):=by
 rw[AU (e:=(x:Int)+y) (by omega) (by omega),Aam (by omega) (by omega),AU (by omega) (by omega)]
 omega
theorem NL{C:α->Nat->Ae}{L:α->Ae}{k n:Nat}(hL:∀x b,b<k->Az (L x) b=C x b){d e:Nat->α}{u v:Nat}{x y:α}(h:∀i,i<n->e i=if i=v then x else if i=u then y else d i):∀i,i<n->∀j,j<k->AC (C (e i) j) (if i=v/\0<=j/\j<k then Az (L x) j else if i=u/\0<=j/\j<k then Az (L y) j else C (d i) j):=fun i hi j hj=>by
 rw[h i hi]
 by_cases e1:i=v
 ·rw[if_pos e1,if_pos ⟨e1,Nat.zero_le _,hj⟩,hL _ _ hj];exact B7 _
 rw[if_neg e1,if_neg (show¬(i=v/\0<=j/\j<k)from fun h=>e1 h.1)]
 by_cases e2:i=u
 ·rw[if_pos e2,if_pos (show i=u/\0<=j/\j<k from⟨e2,Nat.zero_le _,hj⟩),hL _ _ hj];exact B7 _
 rw[if_neg e2,if_neg (show¬(i=u/\0<=j/\j<k)from fun h=>e2 h.1)];exact B7 _
end Go.Proofs.YtlieoghhkioflaaGreat
