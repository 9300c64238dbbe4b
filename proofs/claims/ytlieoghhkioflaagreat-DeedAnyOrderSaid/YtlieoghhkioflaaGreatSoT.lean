/- The stable sort, plain: insertion, merge, parts of a row. No condition. -/
import Derived.Test.YtlieoghhkioflaaGreatE4
import Derived.Test.YtlieoghhkioflaaGreatDr2
import Derived.Test.YtlieoghhkioflaaGreatDpy
set_option linter.unusedSimpArgs false
set_option linter.unusedVariables false
namespace Go.Proofs.YtlieoghhkioflaaGreat
variable{S a b i j m n p q s t:Nat}
section
variable{α:Type}
structure Ve(lt:α->α->Bool):Prop where
 tr:∀a b c,lt a b=true->lt b c=true->lt a c=true
 co:∀a b c,lt a c=true->lt a b=true\/lt b c=true
 ir:∀a,lt a a=false
variable(lt:α->α->Bool)
def C4(x:α):List α->List α
 |[]=>[x]
 |y::L=>if lt x y=true then x::y::L else y::C4 x L
def AH(L:List α):List α:=L.foldl (fun acc x=>C4 lt x acc) []
def mrg:List α->List α->List α
 |[],Y=>Y
 |x::X,Y=>go x (mrg X) Y
where
 go (x:α) (f:List α->List α):List α->List α
 |[]=>x::f []
 |y::Y=>if lt y x=true then y::go x f Y else x::f (y::Y)
theorem Dj:∀X:List α,mrg lt X []=X
 |[]=>rfl
 |x::X=>by rw[mrg,mrg.go,Dj X]
theorem Ce(x:α)(X:List α)(y:α)(Y:List α):mrg lt (x::X) (y::Y)=if lt y x=true then y::mrg lt (x::X) Y else x::mrg lt X (y::Y):=by
 show mrg.go lt x (mrg lt X) (y::Y)=if lt y x=true then y::mrg.go lt x (mrg lt X) Y else x::mrg lt X (y::Y)
 rw[mrg.go]
theorem Cf(L:List α)(x:α):AH lt (L++[x])=C4 lt x (AH lt L):=by
 unfold AH;rw[List.foldl_append];rfl
theorem Mr(x:α):∀L,(C4 lt x L).length=L.length+1
 |[]=>rfl
 |y::L=>by
  rw[C4];split
  ·rfl
  rw[List.length_cons,Mr x L,List.length_cons]
theorem F4{p:List α->Prop}(h0:p [])(h1:∀L x,p L->p (L++[x]))(L:List α):p L:=by
 rw[<-List.reverse_reverse L]
 induction L.reverse with
 |nil=>exact h0
 |cons x L ih=>rw[List.reverse_cons];exact h1 _ _ ih
theorem Dt(L:List α):(AH lt L).length=L.length:=by
 refine F4 (p:=fun L=>(AH lt L).length=L.length) rfl (fun L x ih=> ?_) L
 rw[Cf,Mr,ih,List.length_append];rfl
theorem Hz:∀(X Y:List α),(mrg lt X Y).length=X.length+Y.length
 |[],Y=>by rw[mrg,List.length_nil,Nat.zero_add]
 |x::X,[]=>by rw[Dj];rfl
 |x::X,y::Y=>by
  rw[Ce];split
  ·rw[List.length_cons,Hz (x::X) Y,List.length_cons,List.length_cons];omega
  rw[List.length_cons,Hz X (y::Y),List.length_cons,List.length_cons];omega
termination_by X Y=>X.length+Y.length
variable{lt}
theorem Jf(h:Ve lt)(y:α):∀(X Y:List α),mrg lt X (C4 lt y Y)=C4 lt y (mrg lt X Y)
 |[],Y=>rfl
 |x::X,[]=>by
  rw[Dj,C4,Ce,C4,Dj]
  split
  ·rfl
  have:=Jf h y X []
  rw[C4,Dj]at this
  rw[this]
 |x::X,z::Z=>by
  rw[C4,Ce]
  by_cases h1:lt z x=true
  ·rw[if_pos h1,C4]
   by_cases h2:lt y z=true
   ·rw[if_pos h2,if_pos h2,Ce,if_pos (h.tr _ _ _ h2 h1),Ce,if_pos h1]
   rw[if_neg h2,if_neg h2,Ce,if_pos h1,Jf h y (x::X) Z]
  rw[if_neg h1,C4]
  have ih:=Jf h y X (z::Z)
  rw[C4]at ih
  by_cases h2:lt y z=true
  ·rw[if_pos h2]at ih⊢
   rw[Ce]
   by_cases h3:lt y x=true
   ·rw[if_pos h3,if_pos h3,Ce,if_neg h1]
   rw[if_neg h3,if_neg h3,ih]
  rw[if_neg h2]at ih⊢
  have h3:¬lt y x=true:=fun h3=>(h.co _ z _ h3).elim h2 h1
  rw[Ce,if_neg h1,if_neg h3,ih]
termination_by X Y=>X.length+Y.length
theorem QW(h:Ve lt)(A B:List α):mrg lt (AH lt A) (AH lt B)=AH lt (A++B):=by
 refine F4 (p:=fun B=>mrg lt (AH lt A) (AH lt B)=AH lt (A++B)) ?_ (fun B x ih=> ?_) B
 ·show mrg lt (AH lt A) []=_
  rw[Dj,List.append_nil]
 rw[Cf,Jf h,ih,<-List.append_assoc,Cf]
variable(lt)
def EO(L:List α):Prop:=L.Pairwise fun a b=>lt b a=false
variable{lt}
theorem Ge(x:α):∀(L:List α) (y:α),y∈C4 lt x L↔y=x\/y∈L
 |[],y=>by simp[C4]
 |z::L,y=>by
  rw[C4];split
  ·simp
  rw[List.mem_cons,Ge x L y,List.mem_cons];constructor<;>(rintro(h|h|h)<;>simp[h])
theorem M4(h:Ve lt)(x:α):∀(L:List α),EO lt L->EO lt (C4 lt x L)
 |[],_=>by simp[C4,EO]
 |z::L,hs=>by
  unfold EO at hs⊢
  rw[List.pairwise_cons]at hs
  rw[C4];split
  ·rename_i hb
   rw[List.pairwise_cons,List.pairwise_cons]
   refine⟨fun y hy=> ?_,hs⟩
   cases e:lt y x with
   |false=>rfl
   |true=>
    rcases List.mem_cons.1 hy with rfl|hy
    ·have:=h.tr _ _ _ hb e;rw[h.ir]at this;cases this
    have:=h.tr _ _ _ e hb;rw[hs.1 y hy]at this;cases this
  rename_i hb
  rw[List.pairwise_cons]
  refine⟨fun y hy=> ?_,M4 h x L hs.2⟩
  rcases(Ge x L y).1 hy with rfl|hy
  ·simpa using hb
  exact hs.1 y hy
theorem DT(h:Ve lt)(L:List α):EO lt (AH lt L):=
 F4 (p:=fun L=>EO lt (AH lt L)) List.Pairwise.nil (fun L x ih=>by rw[Cf];exact M4 h x _ ih) L
theorem Gp(L:List α)(y:α):y∈AH lt L↔y∈L:=by
 refine F4 (p:=fun L=>y∈AH lt L↔y∈L) (by simp[AH]) (fun L x ih=> ?_) L
 rw[Cf,Ge,ih,List.mem_append];simp[or_comm]
theorem E9:∀(X1 Y1 X2 Y2:List α),(∀x,X2.head?=some x->∀y∈Y1,lt y x=true)->(∀y,Y2.head?=some y->∀x∈X1,lt y x=false)->mrg lt (X1++X2) (Y1++Y2)=mrg lt X1 Y1++mrg lt X2 Y2
 |[],[],X2,Y2,_,_=>rfl
 |[],y::Y1,X2,Y2,h1,h2=>by
  rw[List.nil_append]
  cases X2 with
  |nil=>simp[mrg]
  |cons x X2=>
   rw[List.cons_append,Ce,if_pos (h1 x rfl y (by simp))]
   have:=E9 [] Y1 (x::X2) Y2 (fun x hx y hy=>h1 x hx y (by simp[hy])) h2
   rw[List.nil_append]at this
   rw[this];rfl
 |x::X1,[],X2,Y2,h1,h2=>by
  rw[List.nil_append]
  cases Y2 with
  |nil=>rw[Dj,Dj,Dj]
  |cons y Y2=>
   rw[List.cons_append,Ce,if_neg (by rw[h2 y rfl x (by simp)];simp)]
   have:=E9 X1 [] X2 (y::Y2) (fun x hx y hy=>by cases hy) (fun y hy x hx=>h2 y hy x (by simp[hx]))
   rw[List.nil_append]at this
   rw[this,Dj,Dj];rfl
 |x::X1,y::Y1,X2,Y2,h1,h2=>by
  rw[List.cons_append,List.cons_append,Ce,Ce]
  split
  ·have:=E9 (x::X1) Y1 X2 Y2 (fun x hx y hy=>h1 x hx y (by simp[hy])) h2
   rw[List.cons_append]at this
   rw[this];rfl
  have:=E9 X1 (y::Y1) X2 Y2 h1 (fun y hy x hx=>h2 y hy x (by simp[hx]))
  rw[List.cons_append]at this
  rw[this];rfl
termination_by X1 Y1=>X1.length+Y1.length
def A6(d:Nat->α)(a b:Nat):List α:=(List.range (b-a)).map fun i=>d (a+i)
def B5(d:Nat->α)(a:Nat)(L:List α)(i:Nat):α:=if a<=i then L.getD (i-a) (d i)else d i
theorem Bv(d:Nat->α)(a b:Nat):(A6 d a b).length=b-a:=by simp[A6]
theorem Bj(d:Nat->α)(a b i:Nat):(A6 d a b)[i]?=if i<b-a then some (d (a+i))else none:=by
 unfold A6
 rw[List.getElem?_map]
 by_cases h:i<b-a
 ·rw[List.getElem?_range h,if_pos h];rfl
 rw[List.getElem?_eq_none (by simpa using h),if_neg h];rfl
theorem Cu{d e:Nat->α}(h:∀i,a<=i->i<b->d i=e i):A6 d a b=A6 e a b:=by
 apply List.ext_getElem?
 intro i
 rw[Bj,Bj]
 split
 ·rw[h (a+i) (by omega) (by omega)]
 rfl
theorem DB(d:Nat->α)(h1:a<=m)(h2:m<=b):A6 d a m++A6 d m b=A6 d a b:=by
 apply List.ext_getElem?
 intro i
 rw[List.getElem?_append,Bj,Bj,Bj,Bv]
 by_cases h:i<m-a
 ·rw[if_pos h,if_pos h,if_pos (by omega)]
 rw[if_neg h]
 by_cases h':i<b-a
 ·rw[if_pos (by omega),if_pos h',show m+(i-(m-a))=a+i by omega]
 rw[if_neg (by omega),if_neg h']
theorem DW(d:Nat->α)(h:b<=a):A6 d a b=[]:=by
 unfold A6;rw[show b-a=0 by omega];rfl
theorem Cj(d:Nat->α)(a:Nat):A6 d a (a+1)=[d a]:=by
 unfold A6;rw[show a+1-a=1 by omega];rfl
theorem Cz(d:Nat->α)(a:Nat)(L:List α)(i:Nat):B5 d a L i=if a<=i/\i<a+L.length then L.getD (i-a) (d i)else d i:=by
 unfold B5
 by_cases h:a<=i
 ·rw[if_pos h]
  by_cases h2:i<a+L.length
  ·rw[if_pos ⟨h,h2⟩]
  rw[if_neg fun k=>h2 k.2,List.getD_eq_getElem?_getD,List.getElem?_eq_none (by omega)];rfl
 rw[if_neg h,if_neg fun k=>h k.1]
theorem F6(d:Nat->α)(a:Nat)(L:List α)(h:i<a\/a+L.length<=i):B5 d a L i=d i:=by
 rw[Cz,if_neg (by omega)]
theorem Mk(d:Nat->α)(a:Nat)(L:List α){x:α}(h:L[i]?=some x):B5 d a L (a+i)=x:=by
 have hi:i<L.length:=(List.getElem?_eq_some_iff.1 h).1
 rw[Cz,if_pos (by omega),show a+i-a=i by omega,List.getD_eq_getElem?_getD,h];rfl
theorem Sn(d:Nat->α)(a:Nat)(L:List α):A6 (B5 d a L) a (a+L.length)=L:=by
 apply List.ext_getElem?
 intro i
 rw[Bj]
 by_cases h:i<L.length
 ·rw[if_pos (by omega),List.getElem?_eq_getElem h,Mk d a L (List.getElem?_eq_getElem h)]
 rw[if_neg (by omega),List.getElem?_eq_none (by omega)]
theorem Cg(d:Nat->α)(a b:Nat):B5 d a (A6 d a b)=d:=by
 funext i
 rw[Cz,Bv]
 split
 ·rename_i h
  rw[List.getD_eq_getElem?_getD,Bj,if_pos (by omega),show a+(i-a)=i by omega];rfl
 rfl
theorem RR(d:Nat->α)(a:Nat)(L M:List α):B5 (B5 d a L) (a+L.length) M=B5 d a (L++M):=by
 funext i
 rw[Cz,Cz,Cz,List.length_append]
 by_cases h1:a+L.length<=i/\i<a+L.length+M.length
 ·rw[if_pos h1,if_pos (show a<=i/\i<a+(L.length+M.length) by omega)]
  simp only[List.getD_eq_getElem?_getD]
  rw[List.getElem?_append,if_neg (show¬i-a<L.length by omega),show i-a-L.length=i-(a+L.length) by omega]
  have:i-(a+L.length)<M.length:=by omega
  rw[List.getElem?_eq_getElem this];rfl
 rw[if_neg h1]
 by_cases h2:a<=i/\i<a+L.length
 ·rw[if_pos h2,if_pos (show a<=i/\i<a+(L.length+M.length) by omega),List.getD_eq_getElem?_getD,List.getD_eq_getElem?_getD,List.getElem?_append,if_pos (show i-a<L.length by omega)]
 rw[if_neg h2,if_neg (show¬(a<=i/\i<a+(L.length+M.length)) by omega)]
theorem WN{d e:Nat->α}{L M:List α}(he:e=B5 d a L)(hm:m=a+L.length):B5 e m M=B5 d a (L++M):=by
 subst he hm;exact RR d a L M
def C7(d:Nat->α)(a b n:Nat)(i:Nat):α:=if a<=i/\i<a+n then d (b+(i-a))else if b<=i/\i<b+n then d (a+(i-b))else d i
def Ck(d:Nat->α)(a m b:Nat):Nat->α:=B5 d a (A6 d m b++A6 d a m)
theorem EB(d:Nat->α)(h1:a<=m)(h2:m<=b)(i:Nat):Ck d a m b i=if a<=i/\i<b then(if i<a+(b-m)then d (m+(i-a))else d (i-(b-m)))else d i:=by
 unfold Ck
 rw[Cz,List.length_append,Bv,Bv]
 by_cases h:a<=i/\i<b
 ·rw[if_pos (by omega),if_pos h,List.getD_eq_getElem?_getD,List.getElem?_append,Bv,Bj,Bj]
  by_cases h3:i-a<b-m
  ·rw[if_pos h3,if_pos h3,if_pos (by omega)];rfl
  rw[if_neg h3,if_pos (by omega),if_neg (by omega),show a+(i-a-(b-m))=i-(b-m) by omega];rfl
 rw[if_neg (by omega),if_neg h]
theorem Hl(d:Nat->α)(h1:a<=m)(h2:m<=b)(h:a=m\/m=b):Ck d a m b=d:=by
 unfold Ck
 rcases h with h|h
 ·rw[DW d (show m<=a by omega),List.append_nil,<-h,Cg]
 rw[DW d (show b<=m by omega),List.nil_append,Cg]
variable(lt)
def B9(d:Nat->α)(a m b:Nat):Nat->α:=B5 d a (mrg lt (A6 d a m) (A6 d m b))
variable{lt}
theorem C1(d:Nat->α)(h1:a<=m)(h2:m<=b)(h:a=m\/m=b):B9 lt d a m b=d:=by
 unfold B9
 rcases h with h|h
 ·rw[DW d (show m<=a by omega)];show B5 d a (A6 d m b)=d;rw[<-h,Cg]
 rw[DW d (show b<=m by omega),Dj,Cg]
theorem Eh{d:Nat->α}{e mid:Nat}(h1:a<=s)(h2:s<=m)(h3:m<=e)(h4:e<=b)(h5:mid+m=s+e)(hs1:s<=mid)(hs2:mid<=e)
  (hx:∀y,m<=y->y<e->s<m->lt (d y) (d s)=true) (hy:∀x,a<=x->x<s->e<b->lt (d e) (d x)=false):
  B9 lt (B9 lt (Ck d s m e) a s mid) mid e b=B9 lt d a m b:=by
 have r:=EB d h2 h3
 have e1:A6 (Ck d s m e) a s=A6 d a s:=Cu fun i i1 i2=>by rw[r,if_neg (by omega)]
 have e2:A6 (Ck d s m e) s mid=A6 d m e:=by
  apply List.ext_getElem?
  intro i
  rw[Bj,Bj]
  by_cases hi:i<mid-s
  ·rw[if_pos hi,if_pos (by omega),r,if_pos (by omega),if_pos (by omega),show m+(s+i-s)=m+i by omega]
  rw[if_neg hi,if_neg (by omega)]
 have e3:A6 (Ck d s m e) mid e=A6 d s m:=by
  apply List.ext_getElem?
  intro i
  rw[Bj,Bj]
  by_cases hi:i<e-mid
  ·rw[if_pos hi,if_pos (by omega),r,if_pos (by omega),if_neg (by omega),show mid+i-(e-m)=s+i by omega]
  rw[if_neg hi,if_neg (by omega)]
 have e4:A6 (Ck d s m e) e b=A6 d e b:=Cu fun i i1 i2=>by rw[r,if_neg (by omega)]
 generalize hR:Ck d s m e=R at*
 have l1:(mrg lt (A6 d a s) (A6 d m e)).length=mid-a:=by rw[Hz,Bv,Bv];omega
 have o:∀i,mid<=i->B9 lt R a s mid i=R i:=fun i hi=>by
  unfold B9;rw[e1,e2];exact F6 _ _ _ (.inr (by rw[l1];omega))
 have e5:A6 (B9 lt R a s mid) mid e=A6 d s m:=by rw[<-e3];exact Cu fun i i1 _=>o i i1
 have e6:A6 (B9 lt R a s mid) e b=A6 d e b:=by rw[<-e4];exact Cu fun i i1 _=>o i (by omega)
 have key:mrg lt (A6 d a m) (A6 d m b)=mrg lt (A6 d a s) (A6 d m e)++mrg lt (A6 d s m) (A6 d e b):=by
  rw[<-DB d h1 h2,<-DB d h3 h4]
  refine E9 _ _ _ _ (fun x hx' y hy'=> ?_) fun y hy' x hx'=> ?_
  ·rw[List.head?_eq_getElem?,Bj]at hx'
   split at hx'
   ·cases hx'
    obtain⟨q,hq⟩:=List.getElem?_of_mem hy'
    rw[Bj]at hq
    split at hq
    ·cases hq;exact hx _ (by omega) (by omega) (by omega)
    cases hq
   cases hx'
  rw[List.head?_eq_getElem?,Bj]at hy'
  split at hy'
  ·cases hy'
   obtain⟨q,hq⟩:=List.getElem?_of_mem hx'
   rw[Bj]at hq
   split at hq
   ·cases hq;exact hy _ (by omega) (by omega) (by omega)
   cases hq
  cases hy'
 show B5 (B9 lt R a s mid) mid (mrg lt (A6 (B9 lt R a s mid) mid e) (A6 (B9 lt R a s mid) e b))=_
 rw[e5,e6,WN (d:=R) (a:=a) (L:=mrg lt (A6 d a s) (A6 d m e)) (by unfold B9;rw[e1,e2]) (by rw[l1];omega),<-key]
 unfold B9
 funext i
 have l2:(mrg lt (A6 d a m) (A6 d m b)).length=b-a:=by rw[Hz,Bv,Bv];omega
 rw[Cz,Cz,l2]
 by_cases hi:a<=i/\i<a+(b-a)
 ·rw[if_pos hi,if_pos hi,List.getD_eq_getElem?_getD,List.getD_eq_getElem?_getD,List.getElem?_eq_getElem (by rw[l2];omega)];rfl
 rw[if_neg hi,if_neg hi,r,if_neg (show¬(s<=i/\i<e) by omega)]
def DG(d:Nat->α)(p:Nat)(S:List α)(x:α)(k y:Nat):α:=if y<p then d y else if y<p+k then S.getD (y-p) (d y)else if y=p+k then x else if y<=p+S.length then S.getD (y-1-p) (d y)else d y
theorem Io(d:Nat->α)(p:Nat)(S:List α)(x:α){k:Nat}(hk:0<k)(hl:k<=S.length)(y:Nat):DG d p S x (k-1) y=if y=p+k-1 then x else if y=p+k then S.getD (k-1) (d y)else DG d p S x k y:=by
 unfold DG
 by_cases e1:y=p+k-1
 ·rw[if_pos e1,if_neg (by omega),if_neg (by omega),if_pos (by omega)]
 rw[if_neg e1]
 by_cases e2:y=p+k
 ·rw[if_pos e2,if_neg (by omega),if_neg (by omega),if_neg (by omega),if_pos (by omega),show y-1-p=k-1 by omega]
 rw[if_neg e2]
 by_cases e3:y<p
 ·rw[if_pos e3,if_pos e3]
 rw[if_neg e3,if_neg e3]
 by_cases e4:y<p+(k-1)
 ·rw[if_pos e4,if_pos (show y<p+k by omega)]
 rw[if_neg e4,if_neg (show¬y=p+(k-1) by omega),if_neg (show¬y<p+k by omega),if_neg e2]
theorem J7(d:Nat->α)(p:Nat)(S:List α)(h:i=p+S.length):DG d p S (d i) S.length=B5 d p S:=by
 funext y
 rw[Cz]
 unfold DG
 by_cases e1:y<p
 ·rw[if_pos e1,if_neg (by omega)]
 rw[if_neg e1]
 by_cases e2:y<p+S.length
 ·rw[if_pos e2,if_pos (by omega)]
 rw[if_neg e2,if_neg (show¬(p<=y/\y<p+S.length) by omega)]
 by_cases e3:y=p+S.length
 ·rw[if_pos e3,h,e3]
 rw[if_neg e3,if_neg (by omega)]
theorem Ls(d:Nat->α)(p:Nat)(S:List α)(x:α){k:Nat}(hk:k<=S.length):DG d p S x k=B5 d p (S.take k++x::S.drop k):=by
 funext y
 have hl:(S.take k++x::S.drop k).length=S.length+1:=by rw[List.length_append,List.length_take,List.length_cons,List.length_drop];omega
 rw[Cz,hl]
 unfold DG
 by_cases e1:y<p
 ·rw[if_pos e1,if_neg (show¬(p<=y/\y<p+(S.length+1)) by omega)]
 rw[if_neg e1]
 by_cases e0:y<p+(S.length+1)
 ·rw[if_pos (show p<=y/\y<p+(S.length+1) by omega)]
  simp only[List.getD_eq_getElem?_getD]
  rw[List.getElem?_append,List.length_take,Nat.min_eq_left hk]
  by_cases e2:y<p+k
  ·rw[if_pos e2,if_pos (show y-p<k by omega),List.getElem?_take,if_pos (show y-p<k by omega)]
  rw[if_neg e2,if_neg (show¬y-p<k by omega)]
  by_cases e3:y=p+k
  ·rw[if_pos e3,show y-p-k=0 by omega];rfl
  rw[if_neg e3,if_pos (show y<=p+S.length by omega),show y-p-k=(y-p-k-1)+1 by omega,List.getElem?_cons_succ,List.getElem?_drop,show k+(y-p-k-1)=y-1-p by omega]
 rw[if_neg (show¬(p<=y/\y<p+(S.length+1)) by omega),if_neg (show¬y<p+k by omega),if_neg (show¬y=p+k by omega),if_neg (show¬y<=p+S.length by omega)]
theorem Jb(x:α):∀(L:List α) (k:Nat),k<=L.length->(∀i y,i<k->L[i]?=some y->lt x y=false)->(∀y,L[k]?=some y->lt x y=true)->C4 lt x L=L.take k++x::L.drop k
 |[],k,h,_,_=>by
  obtain rfl:k=0:=by simpa using h
  rfl
 |y::L,0,_,_,h2=>by rw[C4,if_pos (h2 y rfl)];rfl
 |y::L,k+1,h,h1,h2=>by
  have h3:=h1 0 y (by omega) rfl
  rw[C4,if_neg (by rw[h3];simp),Jb x L k (by simpa using h) (fun i z hi hz=>h1 (i+1) z (by omega) hz) fun z hz=>h2 z hz]
  rfl
structure Qa(F:Nat->α)(m i j:Nat)(e:Nat->α):Prop where
 i0:0<i
 j0:0<j
 im:i<=m
 A:∀p,p<m-i\/m+j<=p->e p=F p
 B:∀q,q<j->F (m-i+q)=e (m+q)
 C:∀q,q<i->F (m-i+j+q)=e (m-i+q)
theorem Qa.begin(d:Nat->α)(h1:a<m)(h2:m<b):Qa (Ck d a m b) m (m-a) (b-m) d:=by
 have r:=EB d (Nat.le_of_lt h1) (Nat.le_of_lt h2)
 refine⟨by omega,by omega,by omega,fun p hp=>by rw[r,if_neg (by omega)],fun q hq=> ?_,fun q hq=> ?_⟩
 ·rw[r,if_pos (by omega),if_pos (by omega)];congr 1;omega
 rw[r,if_pos (by omega),if_neg (by omega)];congr 1;omega
theorem Qa.left{F:Nat->α}{e:Nat->α}(h:Qa F m i j e)(hij:j<i):Qa F m (i-j) j (C7 e (m-i) m j):=by
 obtain⟨i0,j0,im,A,B,C⟩:=h
 refine⟨by omega,j0,by omega,fun p hp=> ?_,fun q hq=> ?_,fun q hq=> ?_⟩
 ·unfold C7
  by_cases e1:m-i<=p/\p<m-i+j
  ·rw[if_pos e1]
   have:=B (p-(m-i)) (by omega)
   rw[<-this];congr 1;omega
  rw[if_neg e1,if_neg (by omega)];exact A p (by omega)
 ·have:=C q (by omega)
  unfold C7
  rw[if_neg (by omega),if_pos (by omega),show m-(i-j)+q=m-i+j+q by omega,this];congr 1;omega
 have:=C (j+q) (by omega)
 unfold C7
 rw[if_neg (by omega),if_neg (by omega),show m-(i-j)+j+q=m-i+j+(j+q) by omega,this];congr 1;omega
theorem Qa.right{F:Nat->α}{e:Nat->α}(h:Qa F m i j e)(hij:i<j):Qa F m i (j-i) (C7 e (m-i) (m+j-i) i):=by
 obtain⟨i0,j0,im,A,B,C⟩:=h
 refine⟨i0,by omega,im,fun p hp=> ?_,fun q hq=> ?_,fun q hq=> ?_⟩
 ·unfold C7
  rw[if_neg (by omega)]
  by_cases e1:m+j-i<=p/\p<m+j-i+i
  ·rw[if_pos e1]
   have:=C (p-(m+j-i)) (by omega)
   rw[<-this];congr 1;omega
  rw[if_neg e1];exact A p (by omega)
 ·have:=B q (by omega)
  unfold C7
  rw[if_neg (by omega),if_neg (by omega)];exact this
 have:=B (j-i+q) (by omega)
 unfold C7
 rw[if_pos (by omega),show m-i+(j-i)+q=m-i+(j-i+q) by omega,this];congr 1;omega
theorem Qa.done{F:Nat->α}{e:Nat->α}(h:Qa F m i i e):C7 e (m-i) m i=F:=by
 obtain⟨i0,j0,im,A,B,C⟩:=h
 funext p
 unfold C7
 by_cases e1:m-i<=p/\p<m-i+i
 ·rw[if_pos e1,<-B (p-(m-i)) (by omega)];congr 1;omega
 rw[if_neg e1]
 by_cases e2:m<=p/\p<m+i
 ·rw[if_pos e2,<-C (p-m) (by omega)];congr 1;omega
 rw[if_neg e2];exact A p (by omega)
theorem EO.at{d:Nat->α}(h:EO lt (A6 d p q))(h1:p<=i)(h2:i<j)(h3:j<q):lt (d j) (d i)=false:=by
 have:=List.pairwise_iff_getElem.1 h (i-p) (j-p) (by rw[Bv];omega) (by rw[Bv];omega) (by omega)
 have g:∀y,p<=y->y<q->∀hy,(A6 d p q)[y-p]'hy=d y:=fun y y1 y2 hy=>by
  have:=Bj d p q (y-p)
  rw[if_pos (by omega),List.getElem?_eq_getElem hy,show p+(y-p)=y by omega]at this
  exact Option.some.inj this
 rw[g i h1 (by omega),g j (by omega) h3]at this
 exact this
theorem EO.of{d:Nat->α}(h:∀i j,p<=i->i<j->j<q->lt (d j) (d i)=false):EO lt (A6 d p q):=by
 refine List.pairwise_iff_getElem.2 fun i j hi hj hij=> ?_
 rw[Bv]at hi hj
 have g:∀y (hy:y<(A6 d p q).length),(A6 d p q)[y]=d (p+y):=fun y hy=>by
  have:=Bj d p q y
  rw[Bv]at hy
  rw[if_pos hy,List.getElem?_eq_getElem (by rw[Bv];exact hy)]at this
  exact Option.some.inj this
 rw[g,g]
 exact h _ _ (by omega) (by omega) (by omega)
theorem EO.part{d:Nat->α}(h:EO lt (A6 d p q))(h1:p<=a)(h2:b<=q):EO lt (A6 d a b):=
 EO.of fun i j i1 i2 i3=>h.at (by omega) i2 (by omega)
theorem Hk(d:Nat->α){e mid:Nat}(h2:s<=m)(h3:m<=e)(h5:mid+m=s+e):
  A6 (Ck d s m e) a s=A6 d a s/\A6 (Ck d s m e) s mid=A6 d m e/\A6 (Ck d s m e) mid e=A6 d s m/\A6 (Ck d s m e) e b=A6 d e b:=by
 have r:=EB d h2 h3
 refine⟨Cu fun i i1 i2=>by rw[r,if_neg (by omega)],?_,?_,Cu fun i i1 i2=>by rw[r,if_neg (by omega)]⟩
 ·apply List.ext_getElem?
  intro i
  rw[Bj,Bj]
  by_cases hi:i<mid-s
  ·rw[if_pos hi,if_pos (by omega),r,if_pos (by omega),if_pos (by omega),show m+(s+i-s)=m+i by omega]
  rw[if_neg hi,if_neg (by omega)]
 apply List.ext_getElem?
 intro i
 rw[Bj,Bj]
 by_cases hi:i<e-mid
 ·rw[if_pos hi,if_pos (by omega),r,if_pos (by omega),if_neg (by omega),show mid+i-(e-m)=s+i by omega]
 rw[if_neg hi,if_neg (by omega)]
theorem MR:∀(X:List α) (y:α),(∀x∈X,lt y x=false)->mrg lt X [y]=X++[y]
 |[],y,_=>rfl
 |x::X,y,h=>by
  rw[Ce,if_neg (by rw[h x (by simp)];simp),MR X y fun x hx=>h x (by simp[hx])];rfl
theorem UT(d:Nat->α)(hb:a+1<=b)(h:a+1<b->lt (d (a+1)) (d a)=false):B9 lt d a (a+1) b=d:=by
 by_cases e:a+1<b
 ·have:mrg lt (A6 d a (a+1)) (A6 d (a+1) b)=A6 d a b:=by
   rw[Cj,<-DB d (show a+1<=a+1+1 by omega) (show a+1+1<=b by omega),Cj]
   show mrg lt [d a] (d (a+1)::A6 d (a+1+1) b)=_
   rw[Ce,if_neg (by rw[h e];simp),<-DB d (show a<=a+1 by omega) hb,Cj,<-DB d (show a+1<=a+1+1 by omega) (show a+1+1<=b by omega),Cj];rfl
  unfold B9;rw[this,Cg]
 exact C1 d (by omega) hb (.inr (by omega))
theorem TH(d:Nat->α)(ha:a<=m)(h:∀x,a<=x->x<m->lt (d m) (d x)=false):B9 lt d a m (m+1)=d:=by
 have:mrg lt (A6 d a m) (A6 d m (m+1))=A6 d a (m+1):=by
  rw[Cj,MR _ _ fun x hx=> ?_,<-DB d ha (show m<=m+1 by omega),Cj]
  obtain⟨q,hq⟩:=List.getElem?_of_mem hx
  rw[Bj]at hq
  split at hq
  ·cases hq;exact h _ (by omega) (by omega)
  cases hq
 unfold B9;rw[this,Cg]
theorem Nr(hw:Ve lt){d:Nat->α}(hi1:a+1<=i)(hi2:i<=b)(hs:EO lt (A6 d (a+1) b))(h1:i=a+1\/lt (d (i-1)) (d a)=true)(h2:i=b\/lt (d i) (d a)=false):Ck d a (a+1) i=B9 lt d a (a+1) b:=by
 have r:=EB d (show a<=a+1 by omega) hi1
 rw[<-Eh (lt:=lt) (d:=d) (a:=a) (m:=a+1) (b:=b) (s:=a) (e:=i) (mid:=i-1) (Nat.le_refl _) (by omega) hi1 hi2 (by omega) (by omega) (by omega) (fun y y1 y2 _=> ?_) (fun x x1 x2=>by omega),C1 _ (Nat.le_refl _) (by omega) (.inl rfl)]
 ·have:=UT (lt:=lt) (Ck d a (a+1) i) (a:=i-1) (b:=b) (by omega) fun hb=>by
   rw[show i-1+1=i by omega,r,if_neg (by omega),r,if_pos (by omega),if_neg (by omega),show i-1-(i-(a+1))=a by omega]
   exact h2.resolve_left (by omega)
  rw[show i-1+1=i by omega]at this
  exact this.symm
 rcases h1 with h1|h1
 ·omega
 by_cases e:y=i-1
 ·subst e;exact h1
 rcases hw.co _ (d y) _ h1 with h|h
 ·rw[hs.at y1 (show y<i-1 by omega) (by omega)]at h;cases h
 exact h
theorem KG(hw:Ve lt){d:Nat->α}(hi1:a<=i)(hi2:i<=m)(hs:EO lt (A6 d a m))(h1:i=a\/lt (d m) (d (i-1))=false)(h2:i=m\/lt (d m) (d i)=true):Ck d i m (m+1)=B9 lt d a m (m+1):=by
 have r:=EB d hi2 (show m<=m+1 by omega)
 rw[<-Eh (lt:=lt) (d:=d) (a:=a) (m:=m) (b:=m+1) (s:=i) (e:=m+1) (mid:=i+1) hi1 hi2 (by omega) (Nat.le_refl _) (by omega) (by omega) (by omega) (fun y y1 y2 hlt=> ?_) (fun x x1 x2=>by omega),C1 _ (by omega) (Nat.le_refl _) (.inr rfl)]
 ·refine(TH (lt:=lt) _ hi1 fun x x1 x2=> ?_).symm
  rw[r,if_pos (by omega),if_pos (by omega),r,if_neg (by omega),show m+(i-i)=m by omega]
  rcases h1 with h1|h1
  ·omega
  cases e:lt (d m) (d x)with
  |false=>rfl
  |true=>
   by_cases e2:x=i-1
   ·subst e2;rw[h1]at e;cases e
   rcases hw.co _ (d (i-1)) _ e with h|h
   ·rw[h1]at h;cases h
   rw[hs.at x1 (show x<i-1 by omega) (by omega)]at h;cases h
 obtain rfl:y=m:=by omega
 exact h2.resolve_left (by omega)
theorem T3(d:Nat->α)(h1:a<=m)(h2:m<=b)(h:i<a\/b<=i):B9 lt d a m b i=d i:=by
 unfold B9
 exact F6 _ _ _ (by rw[Hz,Bv,Bv];omega)
theorem DY(d:Nat->α)(h1:a<=m)(h2:m<=b)(h:b<=p):A6 (B9 lt d a m b) p q=A6 d p q:=
 Cu fun i i1 _=>T3 d h1 h2 (.inr (by omega))
def KV(d:Nat->α)(a k y:Nat):α:=if a<=y/\y<k then d (y+1)else if y=k then d a else d y
def K5(d:Nat->α)(m k y:Nat):α:=if y=k then d m else if k<y/\y<=m then d (y-1)else d y
theorem PN(d:Nat->α)(h:a+1<=i):KV d a (i-1)=Ck d a (a+1) i:=by
 funext y
 rw[EB d (by omega) h]
 unfold KV
 by_cases e1:a<=y/\y<i-1
 ·rw[if_pos e1,if_pos (by omega),if_pos (by omega)];congr 1;omega
 rw[if_neg e1]
 by_cases e2:y=i-1
 ·rw[if_pos e2,if_pos (by omega),if_neg (by omega)];congr 1;omega
 rw[if_neg e2,if_neg (by omega)]
theorem Qw(d:Nat->α)(h:i<=m):K5 d m i=Ck d i m (m+1):=by
 funext y
 rw[EB d h (by omega)]
 unfold K5
 by_cases e1:y=i
 ·rw[if_pos e1,if_pos (by omega),if_pos (by omega)];congr 1;omega
 rw[if_neg e1]
 by_cases e2:i<y/\y<=m
 ·rw[if_pos e2,if_pos (by omega),if_neg (by omega)];congr 1;omega
 rw[if_neg e2,if_neg (by omega)]
variable(lt)
structure GJ(d:Nat->α)(S n t:Nat)(e0 e:Nat->α):Prop where
 A:∀u,u<t->S*u<n->A6 e (S*u) (min (S*u+S) n)=AH lt (A6 d (S*u) (min (S*u+S) n))
 B:∀y,S*t<=y\/n<=y->e y=e0 y
structure L9(d:Nat->α)(S n:Nat)(e:Nat->α):Prop where
 A:∀u,S*u<n->A6 e (S*u) (min (S*u+S) n)=AH lt (A6 d (S*u) (min (S*u+S) n))
 B:∀y,n<=y->e y=d y
variable{lt}
theorem GJ.zero(d:Nat->α)(S n:Nat)(e0:Nat->α):GJ lt d S n 0 e0 e0:=⟨fun u hu=>by omega,fun _ _=>rfl⟩
theorem GJ.put{d:Nat->α}{e0 e:Nat->α}(h:GJ lt d S n t e0 e)(hq:q=min (S*t+S) n)(hp:S*t<=n){L:List α}(hL:L=AH lt (A6 d (S*t) q)):GJ lt d S n (t+1) e0 (B5 e (S*t) L):=by
 have hl:L.length=q-S*t:=by rw[hL,Dt,Bv]
 have hm:S*(t+1)=S*t+S:=Nat.mul_succ S t
 refine⟨fun u hu hun=> ?_,fun y hy=> ?_⟩
 ·by_cases e1:u=t
  ·subst e1
   rw[<-hq,<-hL]
   have:=Sn e (S*u) L
   rw[hl,show S*u+(q-S*u)=q by omega]at this
   exact this
  rw[<-h.A u (by omega) hun]
  have:S*(u+1)<=S*t:=Nat.mul_le_mul_left S (by omega)
  rw[Nat.mul_succ]at this
  exact Cu fun i i1 i2=>F6 _ _ _ (.inl (by omega))
 rw[F6 _ _ _ (.inr (by rw[hl];omega))]
 exact h.B y (by omega)
theorem GJ.full{d:Nat->α}{e0 e:Nat->α}(h:GJ lt d S n t e0 e)(ht:n<=S*t)(h0:∀y,n<=y->e0 y=d y):L9 lt d S n e:=by
 refine⟨fun u hu=>h.A u ?_ hu,fun y hy=>by rw[h.B y (.inr hy)];exact h0 y hy⟩
 apply Classical.byContradiction
 intro hn
 have:S*t<=S*u:=Nat.mul_le_mul_left S (by omega)
 omega
theorem GJ.ins{d:Nat->α}{e:Nat->α}(h:GJ lt d S n t d e)(hq:q=min (S*t+S) n)(hp:S*t<=n):GJ lt d S n (t+1) d (B5 e (S*t) (AH lt (A6 e (S*t) q))):=
 h.put hq hp (by rw[Cu fun i i1 _=>h.B i (.inl i1)])
theorem GJ.mrg(hw:Ve lt){d:Nat->α}{e0 e:Nat->α}(h0:L9 lt d s n e0)(h:GJ lt d (2*s) n t e0 e)(hq:q=min (2*s*t+2*s) n)(hp:2*s*t+s<q):GJ lt d (2*s) n (t+1) e0 (B9 lt e (2*s*t) (2*s*t+s) q):=by
 have ea:s*(2*t)=2*s*t:=by rw[<-Nat.mul_assoc,Nat.mul_comm s 2]
 have eb:s*(2*t+1)=2*s*t+s:=by rw[Nat.mul_succ,ea]
 have s1:=h0.A (2*t) (by rw[ea];omega)
 have s2:=h0.A (2*t+1) (by rw[eb];omega)
 rw[ea,show min (2*s*t+s) n=2*s*t+s by omega]at s1
 rw[eb,show min (2*s*t+s+s) n=q by omega]at s2
 have hb:∀i,2*s*t<=i->e i=e0 i:=fun i hi=>h.B i (.inl hi)
 refine h.put hq (by omega) ?_
 rw[Cu (d:=e) (e:=e0) fun i i1 _=>hb i i1,Cu (d:=e) (e:=e0) (a:=2*s*t+s) fun i i1 _=>hb i (by omega),s1,s2,QW hw,DB d (by omega) (by omega)]
theorem GJ.rest{d:Nat->α}{e0 e:Nat->α}(h0:L9 lt d s n e0)(h:GJ lt d (2*s) n t e0 e)(hp:2*s*t<=n)(hn:n<=2*s*t+s):GJ lt d (2*s) n (t+1) e0 e:=by
 have ea:s*(2*t)=2*s*t:=by rw[<-Nat.mul_assoc,Nat.mul_comm s 2]
 have hb:∀i,2*s*t<=i->e i=e0 i:=fun i hi=>h.B i (.inl hi)
 by_cases hlt:2*s*t<n
 ·have s1:=h0.A (2*t) (by rw[ea];omega)
  rw[ea,show min (2*s*t+s) n=n by omega]at s1
  have:=h.put (q:=n) (by omega) hp (L:=A6 e (2*s*t) n) (by rw[<-s1];exact Cu fun i i1 _=>hb i i1)
  rwa[Cg]at this
 have:2*s*t=n:=by omega
 have:=h.put (q:=n) (by omega) hp (L:=[]) (by rw[DW d (by omega)];rfl)
 have e1:B5 e (2*s*t) []=e:=by
  have:=Cg e (2*s*t) (2*s*t)
  rwa[DW e (Nat.le_refl _)]at this
 rwa[e1]at this
theorem L9.done{d:Nat->α}{e:Nat->α}(h:L9 lt d S n e)(hn:n<=S):e=B5 d 0 (AH lt (A6 d 0 n)):=by
 have hl:(AH lt (A6 d 0 n)).length=n:=by rw[Dt,Bv];omega
 rcases Nat.eq_zero_or_pos n with h0|h0
 ·subst h0
  funext y
  rw[h.B y (Nat.zero_le _),F6 _ _ _ (.inr (by rw[hl];omega))]
 have h1:=h.A 0 (by omega)
 rw[Nat.mul_zero,show min (0+S) n=n by omega]at h1
 rw[<-h1]
 funext y
 rw[Cz,Bv]
 by_cases e1:0<=y/\y<0+(n-0)
 ·rw[if_pos e1,List.getD_eq_getElem?_getD,Bj,if_pos (by omega)]
  show e y=e (0+(y-0))
  congr 1;omega
 rw[if_neg e1];exact h.B y (by omega)
end
end Go.Proofs.YtlieoghhkioflaaGreat
namespace Go.Proofs.YtlieoghhkioflaaGreat
open Go Go.RowKit
variable{G:Nat->Option (Nat×(Nat->Ad))}
abbrev PH(r:Ro):Ad:= .cons (.int .i64 r.days) (.cons (.view 3 r.holds.1 fun a b=>(r.holds.2 a).c b) .nil)
theorem TT(L:List Hr)(y:Hr)(i:Nat):hl (L++[y]) i=if i<L.length then hl L i else if i=L.length then y else⟨0,0⟩:=by
 unfold hl
 rw[List.getD_eq_getElem?_getD,List.getElem?_append]
 by_cases e:i<L.length
 ·rw[if_pos e,if_pos e,List.getD_eq_getElem?_getD]
 rw[if_neg e,if_neg e]
 by_cases e2:i=L.length
 ·subst e2;rw[if_pos rfl,Nat.sub_self];rfl
 rw[if_neg e2,show i-L.length=(i-L.length-1)+1 by omega];rfl
end Go.Proofs.YtlieoghhkioflaaGreat
namespace Go.Proofs.YtlieoghhkioflaaGreat
open Go Go.RowKit
variable{G:Nat->Option (Nat×(Nat->Ad))}
end Go.Proofs.YtlieoghhkioflaaGreat
namespace Go.Proofs.YtlieoghhkioflaaGreat
open Go Go.RowKit
variable{G:Nat->Option (Nat×(Nat->Ad))}
noncomputable def BI(l:E3):E3:=((Bo l l.1).length,lD (Bo l l.1))
theorem GY(l:E3):(BI l).1<=l.1:=K8 l l.1
theorem DE(l:E3):∀i,i<(BI l).1->∃k,k<l.1/\FY l k=true/\(BI l).2 i=l.2 k:=fun i hi=>by
 have h:lD (Bo l l.1) i∈Bo l l.1:=by
  have hi:i<(Bo l l.1).length:=hi
  unfold lD;rw[List.getD_eq_getElem?_getD,List.getElem?_eq_getElem hi];exact List.getElem_mem hi
 obtain⟨k,h1,h2,h3⟩:=(E8 l l.1 _).1 h
 exact⟨k,h1,h2,h3⟩
def Uh(r:Ro)(l:E3):Prop:=l.1<=80/\∀i,i<l.1->(l.2 i).heirs.1<=12
theorem CI{r:Ro}{l:E3}(h:BV r l=0):EL r/\l.1<=60/\(∀i,i<l.1->Dn r (l.2 i))/\∀i,i<l.1->∀k,k<i->(l.2 i).id=(l.2 k).id->Bz (l.2 i) (l.2 k):=by
 unfold BV C0 at h
 split at h
 ·rename_i h1
  split at h
  ·exact absurd h (by decide)
  split at h
  ·split at h
   ·rename_i h2 h3 h4;exact⟨AM.1 h1,by omega,AM.1 h3,AM.1 h4⟩
   exact absurd h (by decide)
  exact absurd h (by decide)
 exact absurd h (by decide)
theorem Dn.heirs{r:Ro}{x:De}(h:Dn r x):x.heirs.1<=8:=by
 obtain⟨_,_,_,_,_,_,h7⟩:=h
 rcases h7 with⟨_,_,_,_,h⟩|⟨_,_,_,_,h⟩|⟨_,h,_⟩|⟨_,_,_,_,_,h⟩
 ·omega
 ·omega
 ·exact h.2.1
 omega
def FU(b:Bk)(m:Nat)(d:Int):Int:=if b.le.2 m≠0/\d<b.un.2 m then b.le.2 m else b.ow.2 m
end Go.Proofs.YtlieoghhkioflaaGreat
namespace Go.Proofs.YtlieoghhkioflaaGreat
open Go Go.RowKit
variable{G:Nat->Option (Nat×(Nat->Ad))}
def Kj(l:Sa):Ad:= .view 3 l.1 fun i j=>(l.2 i).c j
theorem Vf.eta{b:Bk}{n:Nat}(h:Vf b n):(⟨(n,fun i=>b.ow.2 i),(n,fun i=>b.le.2 i),(n,fun i=>b.un.2 i),(10000,fun i=>b.de.2 i)⟩:Bk)=b:=by
 obtain⟨b1,b2,b3,b4⟩:=h
 obtain⟨⟨_,_⟩,⟨_,_⟩,⟨_,_⟩,⟨_,_⟩⟩:=b
 simp only at b1 b2 b3 b4
 subst b1 b2 b4;subst b3;rfl
noncomputable def ID(r:Ro)(l:E3)(d:Int):Bk:=AI r (BI l).2 (BW (BI l) d)
def WL(l:Xz):Ad:= .view 2 l.1 fun i j=>(l.2 i).c j
end Go.Proofs.YtlieoghhkioflaaGreat
