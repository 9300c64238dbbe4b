/- Deeds: the program's owner and user of a minute. No condition. -/
import Derived.Test.YtlieoghhkioflaaGreatDre
import Derived.Test.YtlieoghhkioflaaGreatDPrv
import Derived.Test.YtlieoghhkioflaaGreatLDez
set_option linter.unusedSimpArgs false
set_option linter.unusedVariables false
set_option maxRecDepth 100000
namespace Go.Proofs.YtlieoghhkioflaaGreat
open Go Go.RowKit
variable{G:Nat->Option (Nat×(Nat->Ad))}
end Go.Proofs.YtlieoghhkioflaaGreat
namespace Go.Proofs.YtlieoghhkioflaaGreat
open Go Go.RowKit
variable{G:Nat->Option (Nat×(Nat->Ad))}
noncomputable def WX(t:Tu)(b:Nat×(Nat->Bd)):Ad:=if FS t b=0 then .tup (.cons (lV (IB b t.til).1) (.cons (.int .i64 (IB b t.til).2) (.cons (.int .i64 0) .nil)))else .tup (.cons .nils (.cons (.int .i64 0) (.cons (.int .i64 (FS t b)) .nil)))
noncomputable def ZL:As:=Cq VN (Dv RBd) (fun _ _=>True) WX
noncomputable def V7(t:Tu)(b:Nat×(Nat->Bd)):Ad:=if FS t b=0 then .tup (.cons (.view 3 (Lp t b).1 fun i j=>((Lp t b).2 i).c j) (.cons (.int .i64 0) .nil))else .tup (.cons .nils (.cons (.int .i64 (FS t b)) .nil))
noncomputable def Zn:As:=Cq VN (Dv RBd) (fun _ _=>True) V7
end Go.Proofs.YtlieoghhkioflaaGreat
namespace Go.Proofs.YtlieoghhkioflaaGreat
open Go Go.RowKit
variable{G:Nat->Option (Nat×(Nat->Ad))}
theorem JY:Ah Tryz.prog G 73 Jz:=by
  refine Kq (S:=[]) (I:=[(82,a82),(83,a83),(105,Wt)]) mixed .nil (.cons Tryz.func82 c82 (.cons Tryz.func83 c83 (.cons Tryz.func105 AaS .nil))) Tryz.func73 c73 fun t l _ hw=> ?_
  simp only[Nat.reduceSub,Nat.reducePow,go_sem]at hw
  simp only[A3,a73,a82,a83,Wt,↓reduceIte,reduceCtorEq,Nat.reduceEqDiff,Nat.reduceAdd,Nat.reduceSub,Nat.reduceLeDiff,Nat.reducePow,go_sem]
  by_cases ht:Pk t
  ·rw[FS,At ht]
   obtain⟨h1,h2,h3⟩:=ht
   refine⟨fun _=>⟨fun _=>⟨fun h=>absurd h3 h,fun _ _=>⟨fun h4=> ?_,fun h4 _=> ?_⟩⟩,fun h=>absurd h2 h⟩,fun h=>absurd h1 h⟩
   ·rw[if_pos rfl,if_pos (by omega)]
   rw[if_pos rfl,if_neg (by omega)]
   refine AS (ι:=Nat) (fun j=>j<=l.1/\∀i,i<j->L6 t (l.2 i)) (fun j=>l.1-j) [2,13,14] (fun j=>[(15,.int .i64 j)]) (fun _=>[]) 0 ⟨by omega,fun i h=>by omega⟩ (by simp only[↓reduceIte,reduceCtorEq,Nat.reduceEqDiff,Nat.reduceLT,go_sem];try rfl) fun j hj=> ?_
   obtain⟨hj1,hj2⟩:=hj
   simp only[↓reduceIte,reduceCtorEq,Nat.reduceEqDiff,Nat.reduceAdd,Nat.reduceLeDiff,go_sem]
   refine⟨fun hlt=> ?_,fun hge=> ?_⟩
   ·have no:¬L6 t (l.2 j)->43=if A8 (∀i,i<l.1->L6 t (l.2 i))=true then 0 else(43:Int):=fun h=>by
      rw[Am fun k=>h (k j (by omega))];rfl
    repeat'(first|omega|(with_reducible apply And.intro)|intro _)
    all_goals first
      |(refine no fun h=> ?_
        obtain⟨⟨_,_⟩,⟨_,_,_⟩,_,_⟩:=h
        omega)
      |skip
    refine Af (j+1) ⟨by omega,fun i hi=> ?_⟩ (by omega) ?_
    ·rcases Nat.lt_or_ge i j with h5|h5
     ·exact hj2 i h5
     obtain rfl:i=j:=by omega
     refine⟨⟨?_,?_⟩,⟨?_,?_,?_⟩,?_,?_⟩<;>omega
    simp only[↓reduceIte,reduceCtorEq,Nat.reduceEqDiff,Nat.reduceLT,go_sem]
    rw[Cs (by omega)]
   rw[At fun i hi=>hj2 i (by omega)];rfl
  have e:FS t l=2:=by rw[FS,Am ht];rfl
  rw[e]
  refine⟨fun h1=>⟨fun h2=>⟨fun _=>rfl,fun h3=>absurd ⟨h1,h2,h3⟩ ht⟩,fun _=>rfl⟩,fun _=>rfl⟩
end Go.Proofs.YtlieoghhkioflaaGreat
namespace Go.Proofs.YtlieoghhkioflaaGreat
open Go Go.RowKit
variable{nx:Nat}
variable{G:Nat->Option (Nat×(Nat->Ad))}
noncomputable def TZ:As:=Dr (Dv (Bw .i64)) (fun _=>True) fun l=> .tv 1 l.1 fun i _=> .int .i64 (l.2 i)
theorem Abi:Ah Tryz.prog G 79 TZ:=by
 refine We (S:=[]) (I:=[]) mixed .nil .nil Tryz.func79 c79 fun l _ hw=> ?_
 simp only[Nat.reduceSub,Nat.reducePow,go_sem]at hw
 simp only[A3,a79,hw,↓reduceIte,reduceCtorEq,Nat.reduceEqDiff,Nat.reduceSub,Nat.reducePow,go_sem]
 exact⟨by omega,by omega⟩
noncomputable def Ly:As:=Dr (Dv (Bw .i64)) (fun l=>l.1<=12) fun l=> .view 1 l.1 fun i _=> .int .i64 (l.2 i)
theorem WF:Ah Tryz.prog G 75 Ly:=by
 refine We (S:=[]) (I:=[]) mixed .nil .nil Tryz.func75 c75 fun l hl hw=> ?_
 simp only[Nat.reduceSub,Nat.reducePow,go_sem]at hw
 simp only[A3,a75,hw,↓reduceIte,reduceCtorEq,Nat.reduceEqDiff,Nat.reduceSub,Nat.reduceLT,Nat.reducePow,go_sem]
 refine fun t ht=>⟨fun h=> ?_,fun _=>⟨by omega,fun i hi j hj=>by rw[if_neg (Nat.not_lt_zero _)]⟩⟩
 rcases Nat.eq_zero_or_pos l.1 with h0|h0
 ·exact h0
 rw[ht h0]at h;cases h
theorem KY{bx0 bx1:Bx}{nx':Nat}{fr1 fr':Fr}(hn:nx<=nx')(hfr:DZ (BT bx1 bx0) (Fc bx0) fr1 fr')(h:∀b c,Ab bx0 b=some c->Ab bx1 b=some c):LY bx0 nx fr1 bx1 fr' bx0 nx':=
 ⟨none,trivial,hn,hfr,fun b c hb=> .inl ⟨hb,h b c hb⟩,fun b c hb=> .inl ⟨c,hb⟩,fun b c0 c1 h0 h1=>⟨c0,h0,by rw[h b c0 h0]at h1;cases h1;exact CR.refl _⟩⟩
theorem J0{bx0 bx1:Bx}{nx':Nat}{fr1 fr':Fr}{b1 b2:Bn}{l1 l2 m1 m2 n1 n2:Ad}(hn:nx<=nx')(hne:b1≠b2)(h1:Ab bx0 b1=some (.cells l1))(h2:Ab bx0 b2=some (.cells l2))(g1:Ab bx1 b1=some (.cells m1))(g2:Ab bx1 b2=some (.cells m2))
  (hold:∀y,y≠b1->y≠b2->∀c,Ab bx0 y=some c->Ab bx1 y=some c) (v1:∀N D,By N D (some (.cells m1)) (.cells n1)) (v2:∀N D,By N D (some (.cells m2)) (.cells n2))
  (hfr:DZ (BT bx1 (Aj (Aj bx0 b1 (.cells n1)) b2 (.cells n2))) (Fc (Aj (Aj bx0 b1 (.cells n1)) b2 (.cells n2))) fr1 fr'):LY bx0 nx fr1 bx1 fr' (Aj (Aj bx0 b1 (.cells n1)) b2 (.cells n2)) nx':=by
 have hg:∀y,Ab (Aj (Aj bx0 b1 (.cells n1)) b2 (.cells n2)) y=if y=b2 then some (.cells n2)else if y=b1 then some (.cells n1)else Ab bx0 y:=fun y=>by rw[Ac,Ac]
 refine⟨none,trivial,hn,hfr,fun y c hy=> ?_,fun y c hy=> ?_,fun y c0 c1 q0 q1=> ?_⟩
 ·rw[hg]at hy
  by_cases e2:y=b2
  ·subst e2;rw[if_pos rfl]at hy;cases hy
   right
   show By _ _ (Ab bx1 y) _
   rw[g2];exact v2 _ _
  rw[if_neg e2]at hy
  by_cases e1:y=b1
  ·subst e1;rw[if_pos rfl]at hy;cases hy
   right
   show By _ _ (Ab bx1 y) _
   rw[g1];exact v1 _ _
  rw[if_neg e1]at hy;exact .inl ⟨hy,hold y e1 e2 c hy⟩
 ·rw[hg]at hy
  by_cases e2:y=b2
  ·subst e2;exact .inl ⟨_,h2⟩
  rw[if_neg e2]at hy
  by_cases e1:y=b1
  ·subst e1;exact .inl ⟨_,h1⟩
  rw[if_neg e1]at hy;exact .inl ⟨_,hy⟩
 rw[hg]
 by_cases e2:y=b2
 ·subst e2;rw[g2]at q1;cases q1;rw[if_pos rfl];exact⟨_,rfl,Ed (v2 (fun _=>False) fun _=>False)⟩
 rw[if_neg e2]
 by_cases e1:y=b1
 ·subst e1;rw[g1]at q1;cases q1;rw[if_pos rfl];exact⟨_,rfl,Ed (v1 (fun _=>False) fun _=>False)⟩
 rw[if_neg e1,q0]
 rw[hold y e1 e2 c0 q0]at q1;cases q1
 exact⟨_,rfl,CR.refl _⟩
noncomputable abbrev SAc:List (FuncId×As):=[(73,Jz),(79,TZ),(75,Ly),(78,OS)]
abbrev IAc:List (FuncId×Ax):=[(74,XF),(76,a76),(106,ZE),(77,a77)]
noncomputable abbrev EAc(G:Nat->Option (Nat×(Nat->Ad))):Db:=LI G SAc IAc [] [] [(74,none)]
abbrev bV4(b:Vc):Ad:= .view 4 b.1 fun i j=>(b.2 i).c j
theorem YH{Q:Ad->Bx->Prop}{b:Vc}{bx:Bx}{z i:Nat}{l:List Nat}{f:Av}{stk:List Av}{B:Nat}(hB:200<=B)(hn:b.1<=12)(hl:∀k∈l,k<b.1)(hll:l.length<=12)(hi:i<b.1)
  (h1:Ab bx (.n 1)=some (.cells (.cons (bV4 b) .nil))) (hz:Ab bx (.n z)=some (.cells (.cons (.int .i64 i) .nil)))
  (hK:∀B',B<=B'+200->AA (EAc G) Q B' f.K stk f.res (Ai f.fr f.d (.bool (!Tf (bF b) (bT b) l i))) bx nx):
  AA (EAc G) Q B [.code a76.code] (f::stk) a76.res (params 0 [lV l,.func (.func 77) (.cons (.ptr (.n 1) 0) (.cons (.ptr (.n z) 0) .nil))]) bx nx:=by
 obtain⟨B,rfl⟩:∃m,B=m+150:=⟨B-150,by omega⟩
 have hlw:(l.length<=9223372036854775807)=True:=eq_true (by omega)
 have hbw:(b.1<=9223372036854775807)=True:=eq_true (by omega)
 simp only[a76,ZE,hlw,↓reduceIte,reduceCtorEq,Nat.reduceEqDiff,Nat.reduceSub,Int.reduceNeg,Nat.reducePow,go_sem]
 have hli:∀j,j<l.length->Sg l j=((l.getD j 0:Nat):Int):=fun j _=>rfl
 refine DO (ι:=Nat) (fun j=>j<=l.length/\∀k,k<j->LP (bF b) (bT b) (l.getD k 0) i=true) (fun j=>l.length-j) (fun j=>[(8,.int .i64 j),(0,lV l),(1,.func (.func 77) (.cons (.ptr (.n 1) 0) (.cons (.ptr (.n z) 0) .nil))),(7,.int .i64 l.length)]) (fun _=>bx) 0 0 ⟨Nat.zero_le _,fun k hk=>absurd hk (Nat.not_lt_zero _)⟩ (.inr (KY (Nat.le_refl _) (by simp only[h1,hz,↓reduceIte,reduceCtorEq,Nat.reduceEqDiff,go_sem];try trace_state) fun _ _ h=>h)) fun j hj=> ?_
 obtain⟨hj1,hj2⟩:=hj
 by_cases hjl:j<l.length
 ·have fj:((j:Int)<(l.length:Int))=True:=eq_true (by omega)
  have hlj:=hli j hjl
  have hmem:l.getD j 0<b.1:=hl _ (by rw[List.getD_eq_getElem?_getD,List.getElem?_eq_getElem hjl];exact List.getElem_mem _)
  generalize hk:l.getD j 0=k at*
  simp only[fj,hlj,hlw,a77,OS,h1,hz,Int.toNat_natCast,↓reduceIte,reduceCtorEq,Nat.reduceEqDiff,Nat.reduceAdd,Nat.reduceSub,Nat.reduceLeDiff,Int.reduceNeg,Nat.reducePow,go_sem]
  refine⟨by omega,by omega,by omega,by omega,by omega,fun hf=> ?_,fun ht=> ?_⟩
  ·have:Tf (bF b) (bT b) l i=false:=by
    rw[Tf,Bool.eq_false_iff]
    intro h
    have:=List.all_eq_true.1 h k (by rw[<-hk,List.getD_eq_getElem?_getD,List.getElem?_eq_getElem hjl];exact List.getElem_mem _)
    exact Bool.noConfusion (this.symm.trans hf)
   have hq:=hK (B+73) (by omega)
   rw[this]at hq
   rw[decide_eq_true (show(j:Int)≥0 by omega)]
   exact hq
  refine En (j+1) ⟨hjl,fun q hq=> ?_⟩ (by omega) (KY (Nat.le_refl _) (by simp only[h1,hz,↓reduceIte,reduceCtorEq,Nat.reduceEqDiff,go_sem];exact Cs (by omega)) fun _ _ h=>h)
  by_cases e:q=j
  ·subst e;rw[hk];exact ht
  exact hj2 q (by omega)
 have fj:((j:Int)<(l.length:Int))=False:=eq_false (by omega)
 obtain rfl:j=l.length:=by omega
 simp only[fj,↓reduceIte,reduceCtorEq,Nat.reduceEqDiff,Int.reduceNeg,go_sem]
 have:Tf (bF b) (bT b) l i=true:=by
  rw[Tf,List.all_eq_true]
  intro k hk
  obtain⟨q,hq,rfl⟩:=List.getElem_of_mem hk
  have:=hj2 q hq
  rwa[List.getD_eq_getElem?_getD,List.getElem?_eq_getElem hq]at this
 have hq:=hK (B+112) (by omega)
 rw[this]at hq
 exact hq
end Go.Proofs.YtlieoghhkioflaaGreat
namespace Go.Proofs.YtlieoghhkioflaaGreat
open Go Go.RowKit
variable{G:Nat->Option (Nat×(Nat->Ad))}
noncomputable abbrev Se(b:Vc):List Nat->Nat->Bool:=Tf (bF b) (bT b)
noncomputable abbrev H2(b:Vc):List Nat->Int:=FN (bV b)
noncomputable def Xe(b:Vc)(k:Nat)(l:List Nat)(st:List Nat×Int):List Nat×Int:=(EK b.1 (Se b) k l).foldl (up (H2 b)) (up (H2 b) st l)
theorem Su(V:Nat->Int)(l:List Nat)(i:Nat):FN V (l++[i])=FN V l+V i:=by simp[FN]
theorem PM(V:Nat->Int):∀l:List Nat,(∀i∈l,0<=V i/\V i<=1000000000)->0<=FN V l/\FN V l<=l.length*1000000000
 |[],_=>by simp[FN]
 |a::l,h=>by
  have ih:=PM V l fun i hi=>h i (List.mem_cons_of_mem _ hi)
  have:=h a (List.mem_cons_self ..)
  have e:FN V (a::l)=V a+FN V l:=by simp[FN]
  rw[e,List.length_cons];omega
theorem Tj(val:List Nat->Int):∀(xs:List (List Nat)) (st:List Nat×Int),st.2<=(xs.foldl (up val) st).2
 |[],_=>Int.le_refl _
 |x::xs,st=>by
  have h1:st.2<=(up val st x).2:=by
   unfold up;split
   ·rename_i h;show st.2<=val x;omega
   exact Int.le_refl _
  exact Int.le_trans h1 (Tj val xs _)
theorem AY(n:Nat)(c:Cw)(l:Bx)(y:Bn):Ab ((n,.one c)::l) y=if y= .n n then some c else Ab l y:=by
 cases y with
 |n x=>
  simp only[Ab,Bn.n.injEq]
  by_cases e:n=x
  ·subst e;simp
  rw[if_neg e,if_neg (fun h=>e h.symm)]
 |f a z=>simp[Ab]
theorem AcD{E:Db}{Q:Ad->Bx->Prop}{c:Cm}{K:List BY}{stk:List Av}{res:List B6}{nx:Nat}{H:Nat->Fr->Bx->Prop}{C:Prop}(key:∀(m:Nat) (fr:Fr) (bx:Bx),H m fr bx->FL (AA E Q m) c K stk res fr bx nx)(main:(∀(m:Nat) (fr:Fr) (bx:Bx),H m fr bx->FL (AA E Q m) c K stk res fr bx nx)->C):C:=main key
set_option maxHeartbeats 4000000 in
theorem Wq{Q:Ad->Bx->Prop}{b:Vc}(hn:b.1<=12)(hb:∀i,i<b.1->0<=(b.2 i).baisa/\(b.2 i).baisa<=1000000000):∀(k:Nat),k<=b.1->∀(l w:List Nat) (s:Int) (u wv:Ad) (bx:Bx) (nx B:Nat) (f:Av) (stk:List Av),
  1000*(k+2)<=B->((∃c:Nat->Nat->Ad,u= .view 1 l.length c/\∀a,a<l.length->c a 0= .int .i64 (Sg l a))\/u= .nils/\l=[])->(l=[]/\k=b.1\/0<l.length/\l.getD (l.length-1) 0+1+k=b.1)->(∀i∈l,i<b.1)->l.length+k<=b.1->0<=s->
  Ab bx (.n 1)=some (.cells (.cons (bV4 b) .nil))->Ab bx (.n 2)=some (.cells (.cons wv .nil))->(∀N D,BS N D (lV w) wv)->Ab bx (.n 3)=some (.cells (.cons (.int .i64 s) .nil))->
  Ab bx (.n 4)=some (.cells (.cons (.func (.func 74) (.cons (.ptr (.n 3) 0) (.cons (.ptr (.n 2) 0) (.cons (.ptr (.n 1) 0) (.cons (.ptr (.n 4) 0) .nil))))) .nil))->
  4<nx->(∀y,nx<=y->Ab bx (.n y)=none)->(∀y c,Ab bx y=some c->∀z v,nx<=z->BU (.n z) v c=c)->(∀z v,nx<=z->AK (.n z) v f.fr=f.fr)->(∀z v,nx<=z->AC (.n z) v stk=stk)->
  (∀bx' B',B<=B'+1000->Ab bx' (.n 2)=some (.cells (.cons (lV (Xe b k l (w,s)).1) .nil))->Ab bx' (.n 3)=some (.cells (.cons (.int .i64 (Xe b k l (w,s)).2) .nil))->(∀y,y≠ .n 2->y≠ .n 3->∀c,Ab bx y=some c->Ab bx' y=some c)->AA (EAc G) Q B' f.K stk f.res (Ai f.fr f.d (.tup .nil)) bx' nx)->
  AA (EAc G) Q B [.code XF.code] (f::stk) XF.res (params 0 [u,.int .i64 (H2 b l),.ptr (.n 3) 0,.ptr (.n 2) 0,.ptr (.n 1) 0,.ptr (.n 4) 0]) bx nx:=by
 intro k
 induction k using Nat.strongRecOn with
 |ind k ih=>
 intro hk l w s u wv bx nx B f stk hB hu hfst hl hll hs0 h1 h2 hwv h3 h4 hnx hfre HB HS1 HS2 hK
 obtain⟨B,rfl⟩:∃m,B=m+990:=⟨B-990,by omega⟩
 have hlw:(l.length<=9223372036854775807)=True:=eq_true (by omega)
 have hbw:(b.1<=9223372036854775807)=True:=eq_true (by omega)
 have hl12:(l.length<=12)=True:=eq_true (by omega)
 have hvl:=PM (bV b) l fun i hi=>hb i (hl i hi)
 have n1:(nx=1)=False:=eq_false (by omega)
 have n2:(nx=2)=False:=eq_false (by omega)
 have n3:(nx=3)=False:=eq_false (by omega)
 have n4:(nx=4)=False:=eq_false (by omega)
 have hR:Xe b k l (w,s)=(EK b.1 (Se b) k l).foldl (up (H2 b)) (up (H2 b) (w,s) l):=rfl
 generalize hRR:Xe b k l (w,s)=R at*
 refine AcD (E:=EAc G) (Q:=Q) (c:= ?c) (K:= ?K) (stk:=f::stk) (res:= ?res) (nx:=nx) (H:=fun m fr bx1=>B+800<=m/\∃st1 wv1,(EK b.1 (Se b) k l).foldl (up (H2 b)) st1=R/\0<=st1.2/\(∀N D,BS N D (lV st1.1) wv1)/\Ab bx1 (.n 2)=some (.cells (.cons wv1 .nil))/\Ab bx1 (.n 3)=some (.cells (.cons (.int .i64 st1.2) .nil))/\(∀y,y≠ .n 2->y≠ .n 3->Ab bx1 y=Ab bx y)/\Au fr 30= .int .i64 0/\Au fr 29= .int .i64 k/\Au fr 8= .int .i64 ((b.1-k:Nat):Int)/\(∀N D,BS N D (lV l) (Au fr 0))/\Au fr 1= .int .i64 (H2 b l)/\Au fr 4= .ptr (.n 1) 0/\Au fr 5= .ptr (.n 4) 0) ?key ?main
 case main=>
  intro key
  have g00:((0:Int)>0)=False:=eq_false (by decide)
  have e29':∀x:Int,x=((b.1-k:Nat):Int)->Ad.int .i64 (IntKind.i64.wrap ((b.1:Int)-x))= .int .i64 k:=fun x hx=>by
   rw[hx,AU (by omega) (by omega)];exact congrArg _ (by omega)
  have hbx3:∀v1 v2 y,y≠Bn.n 2->y≠Bn.n 3->Ab (Aj (Aj bx (.n 2) v1) (.n 3) v2) y=Ab bx y:=fun v1 v2 y h2 h3=>by rw[Ac,if_neg h3,Ac,if_neg h2]
  have hbx1:∀v1 v2,Ab (Aj (Aj bx (.n 2) v1) (.n 3) v2) (.n 2)=some v1:=fun v1 v2=>by rw[Ac,if_neg (by simp),Ac,if_pos rfl]
  have hbx2:∀v1 v2,Ab (Aj (Aj bx (.n 2) v1) (.n 3) v2) (.n 3)=some v2:=fun v1 v2=>by rw[Ac,if_pos rfl]
  have hvc:∀(c:Nat->Nat->Ad),(∀a,a<l.length->c a 0= .int .i64 (Sg l a))->∀N D,BS N D (lV l) (.view 1 l.length c):=fun c hc N D=> .inr ⟨_,rfl,fun i hi j hj=>by
   obtain rfl:j=0:=by omega
   show AB (.int .i64 (Sg l i)) (c i 0)
   rw[hc i hi];rfl⟩
  by_cases hl0:l.length=0
  ·have hl1:l=[]:=List.eq_nil_of_length_eq_zero hl0
   have hkb:k=b.1:=by
    rcases hfst with h|h
    ·exact h.2
    omega
   have fl:((l.length:Int)>0)=False:=eq_false (by omega)
   have hvz:H2 b l=0:=by rw[hl1];rfl
   have hgt:¬H2 b l>s:=by omega
   have fg:(H2 b l>s)=False:=eq_false hgt
   have hup:up (H2 b) (w,s) l=(w,s):=by rw[up];exact if_neg hgt
   rw[hup]at hR
   rcases hu with⟨c,rfl,hc⟩|⟨rfl,hnil⟩
   ·simp only[XF,fg,fl,h1,h3,hlw,hbw,↓reduceIte,reduceCtorEq,Nat.reduceEqDiff,Nat.reduceAdd,Nat.reduceSub,Nat.reducePow,go_sem]
    refine key _ _ _ ?_
    exact⟨by omega,(w,s),wv,hR.symm,hs0,hwv,h2,h3,fun _ _ _=>rfl,rfl,e29' 0 (by omega),congrArg (Ad.int .i64) (by omega),hvc c hc,rfl,rfl,rfl⟩
   simp only[XF,fg,g00,h1,h3,hbw,↓reduceIte,reduceCtorEq,Nat.reduceEqDiff,Nat.reduceAdd,Nat.reduceSub,Nat.reducePow,go_sem]
   refine key _ _ _ ?_
   exact⟨by omega,(w,s),wv,hR.symm,hs0,hwv,h2,h3,fun _ _ _=>rfl,rfl,e29' 0 (by omega),congrArg (Ad.int .i64) (by omega),fun N D=>(by show BS N D (lV l) .nils;rw[hnil,Kl];rfl),rfl,rfl,rfl⟩
  have hlast:Sg l (l.length-1)+1=((b.1-k:Nat):Int):=by
   rcases hfst with h|h
   ·rw[h.1]at hl0;exact absurd rfl hl0
   show((l.getD (l.length-1) 0:Nat):Int)+1=_
   omega
  have fl:((l.length:Int)>0)=True:=eq_true (by omega)
  have w1:IntKind.i64.wrap ((l.length:Int)-1)=((l.length-1:Nat):Int):=by rw[AU (by omega) (by omega)];omega
  have w2:IntKind.i64.wrap (Sg l (l.length-1)+1)=((b.1-k:Nat):Int):=by rw[hlast,AU (by omega) (by omega)]
  rcases hu with⟨c,rfl,hc⟩|⟨rfl,hnil⟩
  ·have hcl:=hc (l.length-1) (by omega)
   by_cases hgt:H2 b l>s
   ·have fg:(H2 b l>s)=True:=eq_true hgt
    have hup:up (H2 b) (w,s) l=(l,H2 b l):=by rw[up];exact if_pos hgt
    rw[hup]at hR
    simp only[XF,fg,fl,hcl,w1,w2,h1,h2,h3,hlw,hl12,hbw,Ly,Ac,Int.toNat_natCast,↓reduceIte,reduceCtorEq,Nat.reduceEqDiff,Nat.reduceAdd,Nat.reduceSub,Nat.reducePow,go_sem]
    refine⟨fun i hi=>by rw[hc i hi],by omega,by omega,?_⟩
    refine key _ _ _ ?_
    exact⟨by omega,(l,H2 b l),_,hR.symm,hvl.1,fun N D=> .inr ⟨_,rfl,fun i hi j hj=>(by
     show AB (.int .i64 (Sg l i)) (.int .i64 _)
     rw[hc i hi];rfl)⟩,hbx1 _ _,hbx2 _ _,hbx3 _ _,rfl,e29' _ rfl,rfl,hvc c hc,rfl,rfl,rfl⟩
   have fg:(H2 b l>s)=False:=eq_false hgt
   have hup:up (H2 b) (w,s) l=(w,s):=by rw[up];exact if_neg hgt
   rw[hup]at hR
   simp only[XF,fg,fl,hcl,w1,w2,h1,h3,hlw,hbw,Int.toNat_natCast,↓reduceIte,reduceCtorEq,Nat.reduceEqDiff,Nat.reduceAdd,Nat.reduceSub,Nat.reducePow,go_sem]
   refine⟨by omega,by omega,?_⟩
   refine key _ _ _ ?_
   exact⟨by omega,(w,s),wv,hR.symm,hs0,hwv,h2,h3,fun _ _ _=>rfl,rfl,e29' _ rfl,rfl,hvc c hc,rfl,rfl,rfl⟩
  rw[hnil]at hl0;exact absurd rfl hl0
 case key=>
  rintro m fr bx1 ⟨hm,st1,wv1,k1,k2,k4,k5,k6,k7,e30,e29,e8,e0,e1,e4,e5⟩
  obtain⟨m,rfl⟩:∃m',m=m'+790:=⟨m-790,by omega⟩
  have g1:Ab bx1 (.n 1)=some (.cells (.cons (bV4 b) .nil)):=(k7 _ (by simp) (by simp)).trans h1
  have g4:=(k7 (.n 4) (by simp) (by simp)).trans h4
  have hB1:∀v1 v2,Fc (Aj (Aj bx1 (.n 2) v1) (.n 3) v2) (.n 1):=fun v1 v2=>⟨_,by rw[Ac,if_neg (by simp),Ac,if_neg (by simp),g1]⟩
  have hB4:∀v1 v2,Fc (Aj (Aj bx1 (.n 2) v1) (.n 3) v2) (.n 4):=fun v1 v2=>⟨_,by rw[Ac,if_neg (by simp),Ac,if_neg (by simp),g4]⟩
  refine DO (ι:=Nat×(List Nat×Int)) (fun q=>q.1<=k/\(EK b.1 (Se b) (k-q.1) l).foldl (up (H2 b)) q.2=R/\0<=q.2.2) (fun q=>k-q.1) (fun q=>[(30,.int .i64 q.1),(0,lV l),(1,.int .i64 (H2 b l)),(4,.ptr (.n 1) 0),(5,.ptr (.n 4) 0),(8,.int .i64 ((b.1-k:Nat):Int)),(29,.int .i64 k)]) (fun q=>Aj (Aj bx1 (.n 2) (.cells (.cons (lV q.2.1) .nil))) (.n 3) (.cells (.cons (.int .i64 q.2.2) .nil))) 0 (0,st1) ⟨Nat.zero_le _,k1,k2⟩ (.inr (J0 (Nat.le_refl _) (by simp) k5 k6 k5 k6 (fun _ _ _ _ h=>h) ?_ ?_ ?_)) fun q hq=> ?_
  ·intro N D
   exact⟨rfl,_,_,rfl,k4 N D,rfl⟩
  ·intro N D
   exact⟨rfl,_,_,rfl,rfl,rfl⟩
  ·exact⟨e30,e0 _ _,e1,⟨e4,hB1 _ _⟩,⟨e5,hB4 _ _⟩,e8,e29,trivial⟩
  obtain⟨r,st⟩:=q
  obtain⟨q1,q2,q3⟩:=hq
  simp only at q1 q2 q3
  by_cases hr:r<k
  ·have fr':((r:Int)<(k:Int))=True:=eq_true (by omega)
   have w3:IntKind.i64.wrap ((r:Int)+((b.1-k:Nat):Int))=((b.1-k+r:Nat):Int):=by rw[AU (by omega) (by omega)];omega
   have hex:EK b.1 (Se b) (k-r) l=(if Se b l (b.1-k+r)=true then(l++[b.1-k+r])::EK b.1 (Se b) (k-(r+1)) (l++[b.1-k+r])else[])++EK b.1 (Se b) (k-(r+1)) l:=by
    rw[show k-r=(k-(r+1))+1 by omega,EK,show b.1-(k-(r+1)+1)=b.1-k+r by omega]
   generalize hii:b.1-k+r=i at*
   have hib:i<b.1:=by omega
   generalize hbs:Aj (Aj bx1 (.n 2) (.cells (.cons (lV st.1) .nil))) (.n 3) (.cells (.cons (.int .i64 st.2) .nil))=bs
   have hbg:∀y,Ab bs y=if y= .n 3 then some (.cells (.cons (.int .i64 st.2) .nil))else if y= .n 2 then some (.cells (.cons (lV st.1) .nil))else Ab bx1 y:=fun y=>by rw[<-hbs,Ac,Ac]
   have b1:Ab bs (.n 1)=some (.cells (.cons (bV4 b) .nil)):=by rw[hbg,if_neg (by simp),if_neg (by simp),g1]
   have b2:Ab bs (.n 2)=some (.cells (.cons (lV st.1) .nil)):=by rw[hbg,if_neg (by simp),if_pos rfl]
   have b3:Ab bs (.n 3)=some (.cells (.cons (.int .i64 st.2) .nil)):=by rw[hbg,if_pos rfl]
   have b4:=(show Ab bs (.n 4)=Ab bx1 (.n 4) by rw[hbg,if_neg (by simp),if_neg (by simp)]).trans g4
   simp only[fr',w3,↓reduceIte,reduceCtorEq,Nat.reduceEqDiff,Nat.reduceSub,Nat.reducePow,go_sem]
   intro _
   refine YH (z:=nx) (i:=i) (b:=b) (l:=l) (by omega) hn hl (by omega) hib ?_ ?_ fun B' hB'=> ?_
   ·simp only[b1,n1,↓reduceIte,go_sem]
   ·simp only[↓reduceIte,go_sem]
   obtain⟨B',rfl⟩:∃q,B'=q+300:=⟨B'-300,by omega⟩
   cases hok:Tf (bF b) (bT b) l i with
   |false=>
    simp only[↓reduceIte,Nat.reduceEqDiff,go_sem]
    have hok':Se b l i=false:=hok
    rw[hok',if_neg Bool.false_ne_true,List.nil_append]at hex
    rw[hex]at q2
    refine En (r+1,st) ⟨hr,q2,q3⟩ (by show k-(r+1)<_;omega) (J0 (Nat.le_refl _) (by simp) k5 k6 (m1:= .cons (lV st.1) .nil) (m2:= .cons (.int .i64 st.2) .nil) ?_ ?_ ?_ (fun N D=>⟨rfl,_,_,rfl,.inr ⟨_,rfl,fun i _ j _=>rfl⟩,rfl⟩) (fun N D=>⟨rfl,_,_,rfl,rfl,rfl⟩) ?_)
    ·simp only[b2,n2,↓reduceIte,go_sem]
    ·simp only[b3,n3,↓reduceIte,go_sem]
    ·intro y y2 y3 c hc
     rw[AY,if_neg (fun e=>by rw[e,k7 _ (by simp[n2]) (by simp[n3]),hfre nx (Nat.le_refl _)]at hc;cases hc),hbg,if_neg y3,if_neg y2]
     exact hc
    refine⟨congrArg (Ad.int .i64) (Cs (by omega)),?_,rfl,⟨rfl,hB1 _ _⟩,⟨rfl,hB4 _ _⟩,rfl,rfl,trivial⟩
    simp only[↓reduceIte,reduceCtorEq,go_sem]
   |true=>
    have n0:(nx=0)=False:=eq_false (by omega)
    have n5:(nx+1=nx)=False:=eq_false (by omega)
    have n6:(nx+1+1=nx)=False:=eq_false (by omega)
    have n7:(nx+1+1=nx+1)=False:=eq_false (by omega)
    have hvi:=hb i hib
    have w4:IntKind.i64.wrap (H2 b l+(b.2 i).baisa)=H2 b (l++[i]):=by
     rw[H2,Su,AU (by omega) (by omega)]
    have n8:(nx=nx+1)=False:=eq_false (by omega)
    have n9:(nx=nx+1+1)=False:=eq_false (by omega)
    have n10:(nx+1=nx+1+1)=False:=eq_false (by omega)
    have hf1:∀v,AK (.n (nx+1+1)) v f.fr=f.fr:=fun v=>HS1 _ v (by omega)
    have hf2:∀v,AC (.n (nx+1+1)) v stk=stk:=fun v=>HS2 _ v (by omega)
    simp only[TZ,n9,n10,hf1,hf2,b1,b4,n0,n1,n2,n3,n4,n5,n6,w4,Int.toNat_natCast,↓reduceIte,reduceCtorEq,Nat.reduceEqDiff,Nat.reduceAdd,Nat.reduceSub,Nat.reduceLeDiff,Nat.reduceLT,Nat.reducePow,go_sem]
    have hok':Se b l i=true:=hok
    have hne:∀a c,a<nx->nx<=c->¬Bn.n a=Bn.n c:=fun a c h1 h2 e=>by cases e;omega
    rw[if_pos hok']at hex
    rw[hex,List.foldl_append,List.foldl_cons]at q2
    have hlen:(l++[i]).length=l.length+1:=by rw[List.length_append];rfl
    refine⟨by omega,by omega,by omega,by omega,by omega,by omega,?_⟩
    refine ih (k-(r+1)) (by omega) (by omega) (l++[i]) st.1 st.2 _ (lV st.1) _ _ _ _ (f::stk) (by omega) (.inl ⟨_,by rw[hlen],fun a ha=> ?_⟩) (.inr ⟨by omega,?_⟩) ?_ (by omega) q3 ?_ ?_ ?_ ?_ ?_ (by omega) ?_ ?_ ?_ ?_ ?_
    ·rw[VI]
     by_cases e:a<l.length
     ·rw[if_pos e,if_pos e]
     obtain rfl:a=l.length:=by omega
     rw[if_neg e,if_neg e,if_pos rfl,Nat.sub_self];rfl
    ·rw[hlen,List.getD_eq_getElem?_getD,show l.length+1-1=l.length by omega]
     simp
     omega
    ·intro j hj
     rcases List.mem_append.1 hj with h|h
     ·exact hl j h
     rw[List.mem_singleton.1 h];exact hib
    ·rw[AY,if_neg (hne _ _ (by omega) (by omega)),AY,if_neg (hne _ _ (by omega) (by omega)),AP,Bt,if_neg (hne _ _ (by omega) (by omega)),b1]
     exact congrArg some (HB _ _ h1 _ _ (by omega))
    ·rw[AY,if_neg (hne _ _ (by omega) (by omega)),AY,if_neg (hne _ _ (by omega) (by omega)),AP,Bt,if_neg (hne _ _ (by omega) (by omega)),b2]
     rfl
    ·exact fun N D=> .inr ⟨_,rfl,fun i hi j hj=>rfl⟩
    ·rw[AY,if_neg (hne _ _ (by omega) (by omega)),AY,if_neg (hne _ _ (by omega) (by omega)),AP,Bt,if_neg (hne _ _ (by omega) (by omega)),b3]
     rfl
    ·rw[AY,if_neg (hne _ _ (by omega) (by omega)),AY,if_neg (hne _ _ (by omega) (by omega)),AP,Bt,if_neg (hne _ _ (by omega) (by omega)),b4]
     exact congrArg some (HB _ _ h4 _ _ (by omega))
    ·intro y hy
     rw[AY,if_neg (fun e=>by cases e;omega),AY,if_neg (fun e=>by cases e;omega),AP,Bt,if_neg (fun e=>by cases e;omega),hbg,if_neg (fun e=>by cases e;omega),if_neg (fun e=>by cases e;omega),k7 _ (fun e=>by cases e;omega) (fun e=>by cases e;omega),hfre y (by omega)]
     rfl
    ·intro y c hc z v hz
     rw[AY]at hc
     split at hc
     ·cases hc;rfl
     rw[AY]at hc
     split at hc
     ·cases hc;rfl
     rw[AP,Bt]at hc
     split at hc
     ·cases hc
     rw[hbg]at hc
     split at hc
     ·cases hc;rfl
     split at hc
     ·cases hc;rfl
     rename_i y2 y3
     rw[k7 y (by assumption) (by assumption)]at hc
     cases hby:Ab bx y with
     |none=>rw[hby]at hc;cases hc
     |some c0=>
      rw[hby]at hc
      simp only[Option.map_some,Option.some.injEq]at hc
      rw[HB y c0 hby _ _ (by omega)]at hc
      rw[<-hc]
      exact HB y c0 hby z v (by omega)
    ·intro z v hz
     have z1:(1=z)=False:=eq_false (by omega)
     have z2:(2=z)=False:=eq_false (by omega)
     have z3:(3=z)=False:=eq_false (by omega)
     have z4:(4=z)=False:=eq_false (by omega)
     have z5:(nx=z)=False:=eq_false (by omega)
     have z6:(nx+1=z)=False:=eq_false (by omega)
     simp only[z1,z2,z3,z4,z5,z6,↓reduceIte,go_sem]
    ·intro z v hz
     simp only[AC,HS1 z v (by omega),HS2 z v (by omega)]
    intro bx' B2 hB2 r2 r3 rold
    obtain⟨B2,rfl⟩:∃q,B2=q+100:=⟨B2-100,by omega⟩
    have hR2:(EK b.1 (Se b) (k-(r+1)) l).foldl (up (H2 b)) (Xe b (k-(r+1)) (l++[i]) (st.1,st.2))=R:=q2
    have hge:0<=(Xe b (k-(r+1)) (l++[i]) (st.1,st.2)).2:=by
     have g1:=Tj (H2 b) (EK b.1 (Se b) (k-(r+1)) (l++[i])) (up (H2 b) (st.1,st.2) (l++[i]))
     have g2:=Tj (H2 b) [l++[i]] (st.1,st.2)
     exact Int.le_trans q3 (Int.le_trans g2 g1)
    generalize Xe b (k-(r+1)) (l++[i]) (st.1,st.2)=R2 at*
    simp only[↓reduceIte,Nat.reduceEqDiff,go_sem]
    refine En (r+1,R2) ⟨hr,hR2,hge⟩ (by show k-(r+1)<_;omega) (J0 (Nat.le_refl _) (by simp) k5 k6 r2 r3 ?_ (fun N D=>⟨rfl,_,_,rfl,.inr ⟨_,rfl,fun i _ j _=>rfl⟩,rfl⟩) (fun N D=>⟨rfl,_,_,rfl,rfl,rfl⟩) ?_)
    ·intro y y2 y3 c hc
     refine rold y y2 y3 c ?_
     rw[k7 y y2 y3]at hc
     rw[AY,if_neg (fun e=>by rw[e,hfre _ (by omega)]at hc;cases hc),AY,if_neg (fun e=>by rw[e,hfre _ (by omega)]at hc;cases hc),AP,Bt,if_neg (fun e=>by rw[e,hfre _ (by omega)]at hc;cases hc),hbg,if_neg y3,if_neg y2,k7 y y2 y3,hc]
     exact congrArg some (HB y c hc _ _ (by omega))
    refine⟨congrArg (Ad.int .i64) (Cs (by omega)),?_,rfl,⟨rfl,hB1 _ _⟩,⟨rfl,hB4 _ _⟩,rfl,rfl,trivial⟩
    simp only[↓reduceIte,reduceCtorEq,go_sem]
  have fr':((r:Int)<(k:Int))=False:=eq_false (by omega)
  obtain rfl:r=k:=by omega
  simp only[fr',↓reduceIte,reduceCtorEq,Nat.reduceEqDiff,go_sem]
  rw[Nat.sub_self,EK,List.foldl_nil]at q2
  rw[<-q2]at hK
  exact hK _ _ (by omega) (by rw[Ac,if_neg (by simp),Ac,if_pos rfl]) (by rw[Ac,if_pos rfl]) fun y y2 y3 c hc=>by rw[Ac,if_neg y3,Ac,if_neg y2,k7 y y2 y3];exact hc
end Go.Proofs.YtlieoghhkioflaaGreat
