/- The stable sort: what its texts for each type share. No condition. -/
import Derived.Test.YtlieoghhkioflaaGreatSoT
set_option linter.unusedSimpArgs false
set_option linter.unusedVariables false
namespace Go.Proofs.YtlieoghhkioflaaGreat
open Go Go.RowKit
variable{α:Type}
def C8(c:Ad):VT Unit where
 Is:=fun v=>v=c
 of:=fun _=>()
 enc:=fun _=>c
 h1:=by rintro v rfl;exact BP _
 h2:=fun _=>rfl
theorem V6(c v:Ad):(C8 c).Is v=(v=c):=rfl
theorem Vu(c v:Ad):(C8 c).of v=():=rfl
theorem Tg(c:Ad)(u:Unit):(C8 c).enc u=c:=rfl
attribute [go_sem] V6 Vu Tg
def C9(x y:Hs):Prop:=x.who<y.who
instance(x y:Hs):Decidable (C9 x y):=by unfold C9;infer_instance
def XB(r:α->α->Prop)[DecidableRel r](a b:α):Int:=if r a b then-1 else if r b a then 1 else 0
theorem E2(r:α->α->Prop)[DecidableRel r](a b:α):(XB r a b<0)=(r a b):=by
 apply propext
 unfold XB
 split
 ·rename_i h;simp[h]
 rename_i h;split<;>simp[h]
theorem IZ:Ve fun a b=>decide (Bm a b):=⟨fun a b c h1 h2=>by simp only[decide_eq_true_eq]at*;exact JO h1 h2,fun a b c h=>by simp only[decide_eq_true_eq]at*;unfold Bm at*;omega,fun a=>by simp only[decide_eq_false_iff_not];unfold Bm;omega⟩
theorem IU:Ve fun a b=>decide (C9 a b):=⟨fun a b c h1 h2=>by simp only[decide_eq_true_eq]at*;unfold C9 at*;omega,fun a b c h=>by simp only[decide_eq_true_eq]at*;unfold C9 at*;omega,fun a=>by simp only[decide_eq_false_iff_not];unfold C9;omega⟩
theorem LS(x:Hs):∀b,b<2->Az x.L b=x.c b:=fun b hb=>by
 rcases(by omega:b=0\/b=1)with rfl|rfl<;>rfl
theorem Abn{e:Int}(h:0<=e)(h':e<=18446744073709551615):IntKind.u64.wrap e=e:=by
 simp only[IntKind.wrap,IntKind.bits,IntKind.signed,Bool.false_and]
 rw[if_neg (by simp)]
 omega
theorem Kr{x y:Nat}(h:x<=200000)(h':y<=200000):IntKind.i64.wrap (IntKind.u64.wrap (IntKind.i64.wrap ((x:Int)+(y:Int)))/2^1)=(((x+y)/2:Nat):Int):=by
 rw[AU (e:=(x:Int)+y) (by omega) (by omega),Abn (by omega) (by omega),AU (by omega) (by omega)]
 omega
theorem Nw{C:α->Nat->Ad}{L:α->Ad}{k n:Nat}(hL:∀x b,b<k->Az (L x) b=C x b){d e:Nat->α}{u v:Nat}{x y:α}(h:∀i,i<n->e i=if i=v then x else if i=u then y else d i):∀i,i<n->∀j,j<k->AB (C (e i) j) (if i=v/\0<=j/\j<k then Az (L x) j else if i=u/\0<=j/\j<k then Az (L y) j else C (d i) j):=fun i hi j hj=>by
 rw[h i hi]
 by_cases e1:i=v
 ·rw[if_pos e1,if_pos ⟨e1,Nat.zero_le _,hj⟩,hL _ _ hj];exact BP _
 rw[if_neg e1,if_neg (show¬(i=v/\0<=j/\j<k)from fun h=>e1 h.1)]
 by_cases e2:i=u
 ·rw[if_pos e2,if_pos (show i=u/\0<=j/\j<k from⟨e2,Nat.zero_le _,hj⟩),hL _ _ hj];exact BP _
 rw[if_neg e2,if_neg (show¬(i=u/\0<=j/\j<k)from fun h=>e2 h.1)];exact BP _
end Go.Proofs.YtlieoghhkioflaaGreat
