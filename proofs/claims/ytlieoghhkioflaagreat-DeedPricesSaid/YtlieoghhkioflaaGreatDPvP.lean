/- Prices that prove a sum: the program's Proves. No condition. -/
import Derived.Test.YtlieoghhkioflaaGreatDat
import Derived.Test.YtlieoghhkioflaaGreatDPrv
import Derived.Test.YtlieoghhkioflaaGreatDsp
import Derived.Test.YtlieoghhkioflaaGreatDre
import Derived.Test.YtlieoghhkioflaaGreatDSrt
import Derived.Test.YtlieoghhkioflaaGreatDpt
import Derived.Test.YtlieoghhkioflaaGreatACode1
set_option linter.unusedSimpArgs false
set_option linter.unusedVariables false
set_option maxRecDepth 100000
namespace Go.Proofs.YtlieoghhkioflaaGreat
open Go Go.RowKit
variable{G:Nat->Option (Nat×(Nat->Ad))}
theorem MA:Aj Tryz.prog G 39 Hc:=by
 refine fn3 (S:=[(73,GD)]) (I:=[(82,ZM),(83,ZK)]) mixed (.cons JM .nil) (.cons Tryz.func82 c82 (.cons Tryz.func83 c83 .nil)) Tryz.func39 c39 fun t b p _ hw=> ?_
 simp only[Nat.reduceSub,Nat.reducePow,go_sem]at hw
 obtain⟨w1,w2⟩:=hw
 by_cases h0:Du t b=0
 ·have hoff:Nn t/\∀i,i<b.1->Iq t (b.2 i):=by
   unfold Du at h0
   split at h0
   ·rename_i ht
    refine⟨A6.1 ht,?_⟩
    split at h0
    ·exact absurd h0 (by decide)
    split at h0
    ·rename_i hb;exact A6.1 hb
    exact absurd h0 (by decide)
   exact absurd h0 (by decide)
  obtain⟨ht,hb⟩:=hoff
  have hR:FO t b p=if(MP t b p).2=true then((MP t b p).1,0)else(0,44):=by rw[FO,if_pos h0]
  have no:¬HE t b p->FO t b p=(0,44):=fun h=>by rw[hR,MP,Aw h];rfl
  have yes:HE t b p->FO t b p=(pre (pA p) p.1,0):=fun h=>by rw[hR,MP,AA h];rfl
  have bad:¬HE t b p->(0=(FO t b p).1/\44=(FO t b p).2):=fun h=>by rw[no h];exact⟨rfl,rfl⟩
  by_cases hm:60<p.1
  ·have fm:((p.1:Int)>60)=True:=eq_true (by omega)
   rw[no (fun h=>by have:=h.1;omega)]
   simp only[Bm,a39,GD,h0,fm,w1,w2,↓reduceIte,reduceCtorEq,Nat.reduceEqDiff,Nat.reduceAdd,Nat.reduceSub,Nat.reducePow,go_sem]
  have fm:((p.1:Int)>60)=False:=eq_false (by omega)
  simp only[Bm,a39,ZM,ZK,GD,h0,fm,w1,w2,↓reduceIte,reduceCtorEq,Nat.reduceEqDiff,Nat.reduceAdd,Nat.reduceSub,Nat.reduceLeDiff,Nat.reducePow,go_sem]
  refine A2 (ι:=Nat) (fun j=>j<=p.1/\∀i,i<j->Hw t p i) (fun j=>p.1-j) [1,3,9,10,37,38] (fun j=>[(39,.int .i64 j)]) (fun j=>[(1,.mp .i64 (fun k=>(GA (eA t p) (pA p) j k).isSome) (fun k=> .int .i64 ((GA (eA t p) (pA p) j k).getD 0))),(2,.cells (.cons (.int .i64 t.fro) (.cons (.int .i64 (eA t p j)) .nil)))]) 0 ⟨by omega,fun i h=>by omega⟩ (by
   simp only[↓reduceIte,reduceCtorEq,Nat.reduceEqDiff,Nat.reduceLT,go_sem]
   refine⟨rfl,fun k=> ?_⟩
   by_cases hk:k=t.fro
   ·subst hk
    have e:GA (eA t p) (pA p) 0 t.fro=some 0:=if_pos rfl
    rw[e];simp
   have e:GA (eA t p) (pA p) 0 k=none:=if_neg hk
   rw[e];simp[hk]) fun j hj=> ?_
  obtain⟨hj1,hj2⟩:=hj
  have hun:=N7 (eA t p) (pA p) j
  by_cases hjl:j<p.1
  ·have fj:((j:Int)<(p.1:Int))=True:=eq_true (by omega)
   have hpre:=Og t p j hj2
   simp only[fj,hun,Option.isSome_some,Option.getD_some,↓reduceIte,reduceCtorEq,Nat.reduceEqDiff,Nat.reduceAdd,Nat.reduceLeDiff,go_sem]
   have hsuc:eA t p (j+1)=(p.2 j).turn.til:=rfl
   have bj:¬Hw t p j->(0=(FO t b p).1/\44=(FO t b p).2):=fun h=>bad fun h2=>h (h2.2.1.1 j hjl)
   refine⟨by omega,fun c1=>bj fun h=>c1 h.1,fun c1=>⟨fun c2=>⟨fun c3=>⟨fun c4=>bj fun h=>c4 h.2.2.1,fun c4=>⟨fun c5=>⟨fun c6=>bj fun h=>c6 h.2.2.2.2,fun c6=> ?_⟩,fun c5=>bj fun h=>c5 h.2.2.2.1⟩⟩,fun c3=>bj fun h=>c3 (by rw[c1];exact h.2.1)⟩,fun c2=>absurd (by omega) c2⟩⟩
   refine Af (j+1) ⟨hjl,fun i hi=> ?_⟩ (by omega) ?_
   ·by_cases e:i=j
    ·subst e;exact⟨c1,by omega,c4,c5,c6⟩
    exact hj2 i (by omega)
   have hw':IntKind.i64.wrap (pre (pA p) j+(p.2 j).baisa)=pre (pA p) j+(p.2 j).baisa:=AQ (by omega) (by omega)
   simp only[hw',↓reduceIte,reduceCtorEq,Nat.reduceEqDiff,Nat.reduceLT,go_sem]
   refine⟨Cs (by omega),hsuc.symm,fun k=> ?_⟩
   by_cases hk:k=(p.2 j).turn.til
   ·have e:GA (eA t p) (pA p) (j+1) k=some (pre (pA p) j+(p.2 j).baisa):=by
     rw[GA,if_pos (by rw[hsuc];exact hk),hun];rfl
    rw[e,if_pos hk,if_pos hk]
    exact⟨rfl,fun _=>rfl⟩
   have e:GA (eA t p) (pA p) (j+1) k=GA (eA t p) (pA p) j k:=by
    rw[GA,if_neg (by rw[hsuc];exact hk)]
   rw[e,if_neg hk,if_neg hk]
   exact⟨rfl,fun _=>rfl⟩
  have fj:((j:Int)<(p.1:Int))=False:=eq_false (by omega)
  obtain rfl:j=p.1:=by omega
  by_cases hE:eA t p p.1=t.til
  ·rw[hE]at hun
   simp only[fj,hE,w1,↓reduceIte,reduceCtorEq,Nat.reduceEqDiff,Nat.reduceAdd,Nat.reduceSub,Nat.reducePow,go_sem]
   have hris:∀j,j<p.1->eA t p j<eA t p (j+1):=fun j hj=>(hj2 j hj).2.1
   have hany:∀k,k<b.1->(N9 t p (b.2 k)↔((GA (eA t p) (pA p) p.1 (b.2 k).turn.fro).isSome=true/\(GA (eA t p) (pA p) p.1 (b.2 k).turn.til).isSome=true/\(b.2 k).baisa<=(GA (eA t p) (pA p) p.1 (b.2 k).turn.til).getD 0-(GA (eA t p) (pA p) p.1 (b.2 k).turn.fro).getD 0)):=fun k hk=>by
    obtain⟨_,⟨b1,b2,b3⟩,_⟩:=hb k hk
    rw[Tx (eA t p) (pA p) p.1 hris _ _ _ b1 b2 (by rw[hE];exact b3)]
    unfold N9
    rw[Gd,Gd]
    have q1:(∃i,i<p.1/\Ln p (b.2 k).turn.fro i=true)↔∃i,i<p.1/\eA t p i=(b.2 k).turn.fro:=by
     constructor
     ·rintro⟨i,hi,h⟩;exact⟨i,hi,by rw[<-(hj2 i hi).1];exact of_decide_eq_true h⟩
     rintro⟨i,hi,h⟩;exact⟨i,hi,decide_eq_true (by rw[(hj2 i hi).1];exact h)⟩
    have q2:(∃i,i<p.1/\Mh p (b.2 k).turn.til i=true)↔∃i,i<p.1/\eA t p (i+1)=(b.2 k).turn.til:=by
     constructor
     ·rintro⟨i,hi,h⟩;exact⟨i,hi,of_decide_eq_true h⟩
     rintro⟨i,hi,h⟩;exact⟨i,hi,decide_eq_true h⟩
    rw[q1,q2]
   have hbnd:∀x,0<=(GA (eA t p) (pA p) p.1 x).getD 0/\(GA (eA t p) (pA p) p.1 x).getD 0<=720000000000:=fun x=>by
    by_cases hx:∃a,a<=p.1/\x=eA t p a
    ·obtain⟨a,ha,rfl⟩:=hx
     rw[HK _ _ p.1 hris p.1 (Nat.le_refl _) a ha]
     have:=Og t p a (fun i hi=>hj2 i (by omega))
     show 0<=pre (pA p) a/\pre (pA p) a<=720000000000
     omega
    rw[HC _ _ x p.1 fun a ha e=>hx ⟨a,ha,e⟩];exact⟨by decide,by decide⟩
   refine A2 (ι:=Nat) (fun k=>k<=b.1/\∀i,i<k->N9 t p (b.2 i)) (fun k=>b.1-k) [3,9,84,85] (fun k=>[(86,.int .i64 k)]) (fun _=>[]) 0 ⟨by omega,fun i h=>by omega⟩ (by simp only[↓reduceIte,reduceCtorEq,Nat.reduceEqDiff,Nat.reduceLT,go_sem];try trace_state) fun k hk=> ?_
   obtain⟨hk1,hk2⟩:=hk
   by_cases hkl:k<b.1
   ·have fk:((k:Int)<(b.1:Int))=True:=eq_true (by omega)
    have bk:¬N9 t p (b.2 k)->(0=(FO t b p).1/\44=(FO t b p).2):=fun h=>bad fun h2=>h (h2.2.2 k hkl)
    rw[hany k hkl]at bk
    have hok:=hany k hkl
    have u1:=hbnd (b.2 k).turn.fro
    have u2:=hbnd (b.2 k).turn.til
    generalize hU:GA (eA t p) (pA p) p.1 (b.2 k).turn.fro=U at*
    generalize hV:GA (eA t p) (pA p) p.1 (b.2 k).turn.til=V at*
    cases U with
    |none=>
     simp only[fk,hU,hV,Option.isSome_none,Option.getD_none,↓reduceIte,reduceCtorEq,Nat.reduceEqDiff,Nat.reduceAdd,Nat.reduceLeDiff,Nat.reduceLT,go_sem]
     have q:=bk fun h=>by cases h.1
     cases V<;>simp only[Option.isSome_some,Option.isSome_none,Option.getD_some,Option.getD_none,go_sem]<;>exact⟨by omega,q⟩
    |some u=>cases V with
     |none=>
      simp only[fk,hU,hV,Option.isSome_some,Option.isSome_none,Option.getD_some,Option.getD_none,↓reduceIte,reduceCtorEq,Nat.reduceEqDiff,Nat.reduceAdd,Nat.reduceLeDiff,Nat.reduceLT,go_sem]
      exact⟨by omega,bk fun h=>by cases h.2.1⟩
     |some v=>
      have u1':0<=u/\u<=720000000000:=u1
      have u2':0<=v/\v<=720000000000:=u2
      have hw':IntKind.i64.wrap (v-u)=v-u:=AQ (by omega) (by omega)
      simp only[fk,hU,hV,hw',Option.isSome_some,Option.getD_some,↓reduceIte,reduceCtorEq,Nat.reduceEqDiff,Nat.reduceAdd,Nat.reduceLeDiff,Nat.reduceLT,go_sem]
      refine⟨by omega,fun c=>bk fun h=> ?_,fun c=>Af (k+1) ⟨hkl,fun i hi=> ?_⟩ (by omega) ?_⟩
      ·have h3:(b.2 k).baisa<=v-u:=h.2.2
       omega
      ·by_cases e:i=k
       ·subst e
        exact hok.2 ⟨rfl,rfl,by show(b.2 i).baisa<=v-u;omega⟩
       exact hk2 i (by omega)
      simp only[↓reduceIte,reduceCtorEq,Nat.reduceEqDiff,Nat.reduceLT,go_sem]
      exact Cs (by omega)
   have fk:((k:Int)<(b.1:Int))=False:=eq_false (by omega)
   obtain rfl:k=b.1:=by omega
   rw[yes ⟨by omega,⟨hj2,hE⟩,hk2⟩]
   simp only[fk,hun,Option.isSome_some,Option.getD_some,↓reduceIte,reduceCtorEq,Nat.reduceEqDiff,Nat.reduceAdd,go_sem]
  rw[no (fun h=>hE h.2.1.2)]
  simp only[fj,hE,w1,↓reduceIte,reduceCtorEq,Nat.reduceEqDiff,Nat.reduceAdd,Nat.reduceSub,Nat.reducePow,go_sem]
 rw[FO,if_neg h0]
 simp only[Bm,a39,GD,h0,w1,w2,↓reduceIte,reduceCtorEq,Nat.reduceEqDiff,Nat.reduceAdd,Nat.reduceSub,Nat.reduceLeDiff,Nat.reducePow,go_sem]
end Go.Proofs.YtlieoghhkioflaaGreat
namespace Go.Proofs.YtlieoghhkioflaaGreat
open Go Go.RowKit
variable{G:Nat->Option (Nat×(Nat->Ad))}
def EG:At:=C6 TI TI (fun _ _=>True) fun a b=> .agg (Tu.L ⟨a,b⟩)
theorem J5:Aj Tryz.prog G 43 EG:=by
 refine PE (S:=[]) (I:=[]) mixed .nil .nil Tryz.func43 c43 fun a b _ _=> ?_
 simp only[Bm,a43,↓reduceIte,reduceCtorEq,Nat.reduceEqDiff,Nat.reduceAdd,Nat.reduceLeDiff,go_sem]
def Ke:At:=D5 TI TI TI (fun _ _ _=>True) fun w a b=> .agg (Ho.L ⟨w,⟨a,b⟩⟩)
theorem Us:Aj Tryz.prog G 61 Ke:=by
 refine fn3 (S:=[(43,EG)]) (I:=[]) mixed (.cons J5 .nil) .nil Tryz.func61 c61 fun w a b _ _=> ?_
 simp only[Bm,a61,EG,↓reduceIte,reduceCtorEq,Nat.reduceEqDiff,Nat.reduceAdd,Nat.reduceLeDiff,go_sem]
def Lx:At:=Iz (.agg (Ro.L CE))
theorem VZ:Aj Tryz.prog G 40 Lx:=by
 refine XU (S:=[(61,Ke)]) (I:=[]) mixed (.cons Us .nil) .nil Tryz.func40 c40 ?_
 simp only[Bm,a40,Ke,↓reduceIte,reduceCtorEq,Nat.reduceEqDiff,Nat.reduceAdd,Nat.reduceLeDiff,Nat.reduceLT,go_sem]
 refine⟨rfl,rfl,fun i hi j hj=> ?_⟩
 rcases IU hi with rfl|rfl|rfl<;>rcases IU hj with rfl|rfl|rfl<;>exact rfl
theorem Aj.soft{P:Program}{id:FuncId}{e:TypeId}{pre:List Ad->Prop}{res res':List Ad->Ad}(h:Aj P G id ⟨pre,res,some e⟩)(hr:∀vs,pre vs->∃k n c c',res vs= .view k n c/\res' vs= .view k n c'/\∀i,i<n->∀j,j<k->AC (c' i j) (c i j)):Aj P G id ⟨pre,res',some e⟩:=by
 refine⟨h.ent,fun A w vs cs hG hr' hp=> ?_⟩
 obtain⟨k,n,c,c',e1,e2,e3⟩:=hr vs hp
 refine(h.run A w vs cs hG hr' hp).mono fun ex w'=> ?_
 simp only[e1,e2]
 rintro⟨x,q1,q2,q3,q4⟩
 refine⟨x,q1,Bz _ _ _ ((Dc ..).mpr ⟨rfl,e3⟩) q2,q3,fun e' he=> ?_⟩
 obtain⟨k',n',c'',r1,r2,r3,xs,r4,r5⟩:=q4 e' he
 cases r1
 exact⟨k,n,c',rfl,r2,r3,xs,r4,fun i hi j hj=>by
  obtain⟨y,y1,y2,y3⟩:=r5 i hi j hj
  exact⟨y,y1,y2,Bz _ _ _ (e3 i hi j hj) y3⟩⟩
def deK(i j:Nat):Ad:=if j=8 then .nils else(BH i).c j
def Wz:At:=(Ak AY (fun _=>True) fun _=> .view 9 3 deK).mine 56
theorem Abk{i:Nat}(h:i<9):i=0\/i=1\/i=2\/i=3\/i=4\/i=5\/i=6\/i=7\/i=8:=by omega
theorem WR:Aj Tryz.prog G 41 Wz:=by
 refine foT mixed (S:=[(43,EG)]) (I:=[]) (X:=[]) (N:=[]) (C:=[]) (.cons J5 .nil) .nil .nil Tryz.func41 c41 fun a _ hw=> ?_
 simp only[a41,EG,AY,↓reduceIte,reduceCtorEq,Nat.reduceEqDiff,Nat.reduceAdd,Nat.reduceLeDiff,Nat.reduceLT,go_sem]
 refine⟨fun i hi j hj=> ?_,_,9,3,_,.inl ⟨rfl,rfl⟩,_,rfl,fun i hi j hj=> ?_⟩
 ·rcases IU hi with rfl|rfl|rfl<;>rcases Abk hj with rfl|rfl|rfl|rfl|rfl|rfl|rfl|rfl|rfl<;>exact BU _
 rcases IU hi with rfl|rfl|rfl<;>rcases Abk hj with rfl|rfl|rfl|rfl|rfl|rfl|rfl|rfl|rfl<;>exact⟨rfl,rfl⟩
def Lq:At:=(Ak AY (fun _=>True) fun _=> .view 9 3 fun i j=>(BH i).c j).mine 56
theorem VY:Aj Tryz.prog G 41 Lq:=Aj.soft WR fun vs _=>⟨9,3,_,_,rfl,rfl,fun i hi j hj=>by
 unfold deK
 split
 ·rename_i h;subst h
  rcases IU hi with rfl|rfl|rfl<;>exact(MB ..).mpr rfl
 exact BU _⟩
def LX:At:=Iz (.agg (De.L (BH 3)))
theorem Ve:Aj Tryz.prog G 42 LX:=by
 refine XU (S:=[]) (I:=[]) mixed .nil .nil Tryz.func42 c42 ?_
 simp only[Bm,a42,↓reduceIte,reduceCtorEq,Nat.reduceEqDiff,Nat.reduceAdd,Nat.reduceLeDiff,Nat.reduceLT,go_sem]
 refine⟨rfl,rfl,rfl,rfl,rfl,rfl,rfl,rfl,rfl,fun i hi j hj=> ?_⟩
 rcases(show i=0\/i=1 from by have hi:i<2:=hi;omega)with rfl|rfl<;>rcases(show j=0\/j=1 by omega)with rfl|rfl<;>exact rfl
def OE:At:=Iz (.view 4 4 fun i j=>(Ks i).c j)
theorem Zr:Aj Tryz.prog G 44 OE:=by
 refine XU (S:=[(43,EG)]) (I:=[]) mixed (.cons J5 .nil) .nil Tryz.func44 c44 ?_
 simp only[Bm,a44,EG,↓reduceIte,Nat.reduceEqDiff,Nat.reduceAdd,Nat.reduceLeDiff,Nat.reduceLT,go_sem]
 intro i hi j hj
 rcases HX hi with rfl|rfl|rfl|rfl<;>rcases HX hj with rfl|rfl|rfl|rfl<;>exact rfl
def Kj:At:=Iz (.view 3 3 fun i j=>(pcC i).c j)
theorem UJ:Aj Tryz.prog G 45 Kj:=by
 refine XU (S:=[(43,EG)]) (I:=[]) mixed (.cons J5 .nil) .nil Tryz.func45 c45 ?_
 simp only[Bm,a45,EG,↓reduceIte,Nat.reduceEqDiff,Nat.reduceAdd,Nat.reduceLeDiff,Nat.reduceLT,go_sem]
 intro i hi j hj
 rcases IU hi with rfl|rfl|rfl<;>rcases IU hj with rfl|rfl|rfl<;>exact rfl
noncomputable def owQ(r:Ro)(l:I5)(d:Int):Ad:=if CI r l=0 then(if 0<=d/\d<=100000 then .tup (.cons (Mu (AF (OD r l d).ow.2 (Cr r))) (.cons (Mu (AF (fun m=>G7 (OD r l d) m d) (Cr r))) (.cons (.int .i64 0) .nil)))else .tup (.cons .nils (.cons .nils (.cons (.int .i64 2) .nil))))else .tup (.cons .nils (.cons .nils (.cons (.int .i64 (CI r l)) .nil)))
noncomputable def Yt:At:=Ak (Ag QZ (Ag (DQ Ki) (Ag TI AY))) (fun _=>True) fun a=>owQ a.1 a.2.1 a.2.2.1
noncomputable def shQ(r:Ro)(l:I5)(d:Int):Ad:=if CI r l=0 then(if 0<=d/\d<=100000 then .tup (.cons (W2 (Cm (CW (OD r l d).ow.2 (Cr r)) 10000)) (.cons (.int .i64 0) .nil))else .tup (.cons .nils (.cons (.int .i64 2) .nil)))else .tup (.cons .nils (.cons (.int .i64 (CI r l)) .nil))
noncomputable def Zi:At:=Ak (Ag QZ (Ag (DQ Ki) (Ag TI AY))) (fun _=>True) fun a=>shQ a.1 a.2.1 a.2.2.1
noncomputable def reQ(r:Ro)(l:I5):Ad:=if CI r l=0 then .tup (.cons (.view 9 (E3 l).1 fun i j=>((E3 l).2 i).c j) (.cons (Yv r (E3 l)) (.cons (.int .i64 0) .nil)))else .tup (.cons .nils (.cons .nils (.cons (.int .i64 (CI r l)) .nil)))
noncomputable def Yl:At:=Ak (Ag QZ (Ag (DQ Ki) AY)) (fun _=>True) fun a=>reQ a.1 a.2.1
noncomputable def Yh(i:Nat):Hs:=(Cm (CW (A1 CE BH 4).ow.2 1440) 10000).2 i
noncomputable def AcJ(i:Nat):De:=(E3 (3,BH)).2 i
noncomputable def Qx(i:Nat):Int:=B7 (A1 CE (E3 (3,BH)).2 i) ((E3 (3,BH)).2 i)
theorem YP:Ex (3,BH):=⟨by decide,fun _ _=>rfl⟩
theorem Aa9:Cr CE=1440:=rfl
theorem Qe{f:Nat->Int}{N a n:Nat}{L:Nat->Ho}(hN:N=a)(h:RS f a n L):∃g:Nat->Ho,Mu (AF f N)= .view 3 n (fun i j=>(g i).c j)/\∀i,i<n->g i=L i:=by
 subst hN
 exact⟨(AF f N).2,by rw[Mu,h.1],h.2⟩
theorem AbM:∃g h:Nat->Ho,owQ CE (3,BH) 20= .tup (.cons (.view 3 4 fun i j=>(g i).c j) (.cons (.view 3 5 fun i j=>(h i).c j) (.cons (.int .i64 0) .nil)))/\(∀i,i<4->g i=X8 i)/\∀i,i<5->h i=YL i:=by
 have hu:Cy (E3 (3,BH)) 20=3:=TN YP (Nat.le_refl _) (fun i hi=>by rcases IU hi with rfl|rfl|rfl<;>decide) fun i h1 h2=>by have h2:i<3:=h2;omega
 have hb:OD CE (3,BH) 20=A1 CE BH 3:=by unfold OD;rw[hu,Oo YP 3 (Nat.le_refl _)]
 obtain⟨g,g1,g2⟩:=Qe Aa9 Abe
 obtain⟨h,h1,h2⟩:=Qe Aa9 Aa1
 refine⟨g,h,?_,g2,h2⟩
 unfold owQ
 rw[if_pos (N6 YP),if_pos ⟨by decide,by decide⟩,hb,g1,h1]
theorem Aae(i:Nat)(hi:i<4):Yh i=X4 i:=Qi.2 i hi
theorem AcC{f:Nat->De}(h0:f 0=BH 0)(h1:f 1=BH 1)(h2:f 2=BH 2)(h3:f 3=BH 3):shQ CE (4,f) 40= .tup (.cons (.view 2 4 fun i j=>(Yh i).c j) (.cons (.int .i64 0) .nil)):=by
 have he:Ex (4,f):=⟨Nat.le_refl 4,fun i hi=>by rcases HX hi with rfl|rfl|rfl|rfl<;>assumption⟩
 have hu:Cy (E3 (4,f)) 40=4:=TN he (Nat.le_refl _) (fun i hi=>by rcases HX hi with rfl|rfl|rfl|rfl<;>decide) fun i h1 h2=>by have h2:i<4:=h2;omega
 have hb:OD CE (4,f) 40=A1 CE BH 4:=by unfold OD;rw[hu,Oo he 4 (Nat.le_refl _)]
 unfold shQ
 rw[if_pos (N6 he),if_pos ⟨by decide,by decide⟩,hb,show Cr CE=1440 from rfl]
 unfold W2 Yh
 rw[Qi.1]
theorem AbI:reQ CE (3,BH)= .tup (.cons (.view 9 3 fun i j=>(AcJ i).c j) (.cons (.view 1 3 fun i _=> .int .u8 (Qx i)) (.cons (.int .i64 0) .nil))):=by
 unfold reQ Yv
 rw[if_pos (N6 YP),(PU YP).1];rfl
theorem Aay:Qx 0=0/\Qx 1=2/\Qx 2=0:=by
 have h (i:Nat) (hi:i<3):Qx i=B7 (A1 CE BH i) (BH i):=by
  unfold Qx
  rw[Oo YP i (by show i<=3;omega),(PU YP).2 i hi]
 exact⟨(h 0 (by decide)).trans v0C,(h 1 (by decide)).trans v1C,(h 2 (by decide)).trans v2C⟩
noncomputable def pcV(i:Nat):Pc:=(C1 OC (4,Ks)).2 i
noncomputable def AcO(i:Nat):Int:=Ht [1,2] i
theorem AbB:Nl OC (4,Ks)= .tup (.cons (.view 1 2 fun i _=> .int .i64 (AcO i)) (.cons (.int .i64 65) (.cons (.int .i64 0) .nil))):=by
 unfold Nl
 rw[if_pos XW,show OC.til=100 from rfl,Aci];rfl
theorem AbN:Rg OC (4,Ks)= .tup (.cons (.view 3 3 fun i j=>(pcV i).c j) (.cons (.int .i64 0) .nil)):=by
 unfold Rg
 rw[if_pos XW,AaM.1];rfl
theorem Hl{α:Type}{a b:Nat×(Nat->α)}(h:MV a b=false)(h1:a.1=b.1)(h2:∀i,i<a.1->a.2 i=b.2 i):False:=by
 have:=h.symm.trans (AA ⟨h1,h2⟩);cases this
def LN:At:=Iz (.bool true)
set_option maxHeartbeats 8000000 in
theorem Y8:Aj Tryz.prog G 25 LN:=by
 refine XU (S:=[(43,EG),(61,Ke),(40,Lx),(41,Lq),(42,LX),(44,OE),(45,Kj),(16,Yt),(29,Yl),(18,Zi),(36,SO),(38,S7),(39,Hc),(22,Lo),(23,L6),(62,Oe),(63,LP)]) (I:=[]) mixed
  (.cons J5 (.cons Us (.cons VZ (.cons VY (.cons Ve (.cons Zr (.cons UJ (.cons (show Aj Tryz.prog G _ Yt from RY) (.cons (show Aj Tryz.prog G _ Yl from Y6) (.cons (show Aj Tryz.prog G _ Zi from S5) (.cons KI (.cons MO (.cons MA (.cons Vg (.cons Wj (.cons YY (.cons VE .nil))))))))))))))))) .nil Tryz.func25 c25 ?_
 obtain⟨ownV,useV,n1,ownVC,useVC⟩:=AbM
 have n2:=AbI
 have n4:=AbB
 have n5:=AbN
 have n6:=AbJ (p:=(3,pcC)) rfl fun _ _=>rfl
 have t0:(⟨0,100⟩:Tu)=OC:=rfl
 have g1:(CE.holds.1<=9223372036854775807)=True:=eq_true (by decide)
 have g2:((BH 3).heirs.1<=9223372036854775807)=True:=eq_true (by decide)
 simp(config:={maxSteps:=1000000}) only[Bm,a25,EG,Ke,Lx,Lq,LX,OE,Kj,Yt,Yl,Zi,SO,S7,Hc,Lo,L6,Oe,LP,Ak,At.mine,Ag,AY,n1,n2,n4,n5,n6,t0,g1,g2,AcC,↓reduceIte,reduceCtorEq,Nat.reduceEqDiff,Nat.reduceAdd,Nat.reduceSub,Nat.reduceLeDiff,Nat.reduceMul,Nat.reduceLT,Nat.reducePow,go_sem]
 have lt5:∀{i:Nat},i<5->i=0\/i=1\/i=2\/i=3\/i=4:=fun h=>by omega
 have lt2:∀{i:Nat},i<2->i=0\/i=1:=fun h=>by omega
 refine⟨fun i hi=> ?_,fun i hi=> ?_,fun q1=>⟨fun i hi=> ?_,fun q2=>⟨fun i hi=> ?_,fun q3=>⟨fun i hi=> ?_,fun q4=>⟨fun i hi=> ?_,fun q5 q6=>Hl q6 rfl fun i hi=>AaM.2 i hi,fun q5=>Hl q5 rfl fun i hi=> ?_⟩,fun q4=>Hl q4 rfl fun i hi=>(Aae i hi).trans ?_⟩,fun q3=> ?_⟩,fun q2=>Hl q2 rfl fun i hi=>(useVC i hi).trans ?_⟩,fun q1=>Hl q1 rfl fun i hi=>(ownVC i hi).trans ?_⟩
 ·rcases HX hi with rfl|rfl|rfl|rfl
  ·exact of_eq_true (De.w_c (BH 0))
  ·exact of_eq_true (De.w_c (BH 1))
  ·exact of_eq_true (De.w_c (BH 2))
  exact of_eq_true (De.w_c (BH 3))
 ·rcases HX hi with rfl|rfl|rfl|rfl<;>exact⟨rfl,rfl,rfl⟩
 ·rcases lt5 hi with rfl|rfl|rfl|rfl|rfl<;>exact⟨rfl,rfl,rfl⟩
 ·obtain⟨v0,v1,v2⟩:=Aay
  rcases IU hi with rfl|rfl|rfl
  ·rw[v0];decide
  ·rw[v1];decide
  rw[v2];decide
 ·rcases HX hi with rfl|rfl|rfl|rfl<;>exact⟨rfl,rfl⟩
 ·rcases lt2 hi with rfl|rfl<;>exact rfl
 ·rcases lt2 hi with rfl|rfl<;>exact rfl
 ·have hi:i<4:=hi
  rcases HX hi with rfl|rfl|rfl|rfl<;>exact rfl
 ·obtain⟨v0,v1,v2⟩:=Aay
  refine(@decide_eq_false_iff_not _ (Classical.propDecidable _)).1 q3 ⟨rfl,fun i hi=> ?_⟩
  rcases IU hi with rfl|rfl|rfl<;>assumption
 ·have hi:i<5:=hi
  rcases lt5 hi with rfl|rfl|rfl|rfl|rfl<;>exact rfl
 have hi:i<4:=hi
 rcases HX hi with rfl|rfl|rfl|rfl<;>exact rfl
end Go.Proofs.YtlieoghhkioflaaGreat
namespace Go.Proofs.YtlieoghhkioflaaGreat
theorem L8{l:List Nat}{i:Nat}(h:i<l.length):Ht l i=((l[i]:Nat):Int):=by simp[Ht,List.getElem?_eq_getElem h]
structure AaH(b:GC)(x:Int)(R:List Nat×Int):Prop where
 len:R.1.length<=b.1
 asc:R.1.Pairwise (fun x y=>x<y)
 mem:∀i∈R.1,i<b.1
 rng:∀i,i<R.1.length->0<=Ht R.1 i/\Ht R.1 i<b.1
 ris:∀i,0<i->i<R.1.length->Ht R.1 (i-1)<Ht R.1 i
 tog:Tog b (lv R.1)
 sum:Ns b (lv R.1) R.1.length=R.2
 top:∀e:List Nat,e.Pairwise (fun x y=>x<y)->(∀i∈e,i<b.1)->(∀i∈e,(b.2 i).turn.til<=x)->Tog b (lv e)->Ns b (lv e) e.length<=R.2/\(Ns b (lv e) e.length=R.2->¬Erl (lv e) (lv R.1))
theorem Dh.wins{t:Tu}{b:GC}(h:Dh t b)(x:Int):AaH b x (Es b x):=by
 have hf:∀i,i<b.1->(b.2 i).turn.fro<(b.2 i).turn.til:=fun i hi=>(h.best.2 i hi).1
 have hb:=H2 b.1 (DW (bV b)) (OQ (bF b) (bT b) x) rfl rfl
 show AaH b x (Kx b.1 (DW (bV b)) (OQ (bF b) (bT b) x))
 generalize Kx b.1 (DW (bV b)) (OQ (bF b) (bT b) x)=R at hb
 obtain⟨⟨m1,m2⟩,eqv,top,fst⟩:=hb
 obtain⟨r1,r2⟩:=Df b.1 R.1 0 m1
 have hs:=(Bool.and_eq_true _ _▸m2:_/\_).2
 refine⟨?_,r1,fun i hi=>(r2 i hi).2,fun i hi=> ?_,fun i h0 hi=> ?_,(N4 b R.1 r1 fun i hi=>hf i (r2 i hi).2).2 hs,(Jp b R.1).trans eqv,fun e e1 e2 e3 e4=> ?_⟩
 ·have hsub:R.1=(List.range b.1).filter (fun i=>decide (i∈R.1)):=(IB b.1 R.1 m1).symm
  rw[hsub]
  have:=List.length_filter_le (fun i=>decide (i∈R.1)) (List.range b.1)
  rw[List.length_range]at this;exact this
 ·rw[L8 hi]
  have:=r2 _ (List.getElem_mem hi)
  omega
 ·rw[L8 hi,L8 (show i-1<R.1.length by omega)]
  have:=List.pairwise_iff_getElem.1 r1 (i-1) i (by omega) hi (by omega)
  omega
 have hS:ris b.1 0 e=true/\OQ (bF b) (bT b) x e=true:=⟨Fu b.1 e 0 e1 fun i hi=>⟨Nat.zero_le _,e2 i hi⟩,by
  unfold OQ
  rw[Bool.and_eq_true,List.all_eq_true]
  exact⟨fun i hi=>decide_eq_true (e3 i hi),(N4 b e e1 fun i hi=>hf i (e2 i hi)).1 e4⟩⟩
 rw[Jp]
 exact⟨top e hS,fun he hE=>by
  have:=fst e hS he
  rw[(Y7 e R.1).1 hE]at this;cases this⟩
end Go.Proofs.YtlieoghhkioflaaGreat
namespace Go.Proofs.YtlieoghhkioflaaGreat
open Go Go.RowKit
variable{G:Nat->Option (Nat×(Nat->Ad))}
attribute [go_sem] Z2 Abm YO AcH Ab8 AcF Acn AaV Abp
noncomputable def UY:At:=C6 UP (DQ RN) (fun _ _=>True) fun t b=> .bool (Bf (Du t b=0))
theorem Abw:Aj Tryz.prog G 35 UY:=by
 refine PE (S:=[(72,GD)]) (I:=[]) mixed (.cons XH .nil) .nil Tryz.func35 c35 fun t b _ hw=> ?_
 simp only[Nat.reduceSub,Nat.reducePow,go_sem]at hw
 by_cases h0:Du t b=0
 ·have hn:=(S8 h0).n
  have f1:((b.1:Int)<=20)=True:=eq_true (by omega)
  simp only[Bm,a35,GD,h0,f1,AA trivial,hw,↓reduceIte,reduceCtorEq,Nat.reduceEqDiff,Nat.reduceAdd,Nat.reduceSub,Nat.reducePow,go_sem]
 have f2:(Du t b=0)=False:=eq_false h0
 by_cases h1:b.1<=20
 ·have f1:((b.1:Int)<=20)=True:=eq_true (by omega)
  simp only[Bm,a35,GD,f1,f2,Aw (fun h:False=>h),hw,↓reduceIte,reduceCtorEq,Nat.reduceEqDiff,Nat.reduceAdd,Nat.reduceSub,Nat.reducePow,go_sem]
 have f1:((b.1:Int)<=20)=False:=eq_false (by omega)
 simp only[Bm,a35,GD,f1,f2,Aw (fun h:False=>h),hw,↓reduceIte,reduceCtorEq,Nat.reduceEqDiff,Nat.reduceAdd,Nat.reduceSub,Nat.reducePow,go_sem]
end Go.Proofs.YtlieoghhkioflaaGreat
namespace Go.Proofs.YtlieoghhkioflaaGreat
variable{b:GC}{p:Ml}{t:Tu}
theorem PC(F T E P:Nat->Int)(i:Nat)(hE:E i<E (i+1))(hP:0<=P i):∀e:List Nat,pw F T e=true->0<=(e.map fun k=>if F k<=E i/\E (i+1)<=T k then P i else 0).sum/\(e.map fun k=>if F k<=E i/\E (i+1)<=T k then P i else 0).sum<=P i/\((∀k∈e,¬(F k<=E i/\E (i+1)<=T k))->(e.map fun k=>if F k<=E i/\E (i+1)<=T k then P i else 0).sum=0)
 |[],_=>⟨Int.le_refl _,hP,fun _=>rfl⟩
 |k::e,h=>by
  rw[pw,Bool.and_eq_true,List.all_eq_true]at h
  obtain⟨i1,i2,i3⟩:=PC F T E P i hE hP e h.2
  rw[List.map_cons,List.sum_cons]
  by_cases c:F k<=E i/\E (i+1)<=T k
  ·have z:=i3 fun q hq c2=>by
    have:=h.1 q hq
    unfold Kq at this
    rw[Bool.or_eq_true,decide_eq_true_eq,decide_eq_true_eq]at this
    omega
   rw[if_pos c,z]
   exact⟨by omega,by omega,fun h4=>absurd c (h4 k (by simp))⟩
  rw[if_neg c]
  exact⟨by omega,by omega,fun h4=>by rw[i3 fun q hq=>h4 q (by simp[hq])];rfl⟩
theorem PW(F T E P:Nat->Int)(e:List Nat)(he:pw F T e=true):∀m,(∀i,i<m->E i<E (i+1)/\0<=P i)->(e.map fun k=>Mf E P (F k) (T k) m).sum<=pre P m
 |0,_=>by
  have:∀l:List Nat,(l.map fun k=>Mf E P (F k) (T k) 0).sum=0:=fun l=>by
   induction l with
   |nil=>rfl
   |cons a l ih=>rw[List.map_cons,List.sum_cons,ih];rfl
  rw[this];exact Int.le_refl _
 |m+1,h=>by
  have ih:=PW F T E P e he m fun i hi=>h i (by omega)
  have hc:=(PC F T E P m (h m (by omega)).1 (h m (by omega)).2 e he).2.1
  have hs:∀l:List Nat,(l.map fun k=>Mf E P (F k) (T k) (m+1)).sum=(l.map fun k=>Mf E P (F k) (T k) m).sum+(l.map fun k=>if F k<=E m/\E (m+1)<=T k then P m else 0).sum:=fun l=>by
   induction l with
   |nil=>rfl
   |cons a l ih=>rw[List.map_cons,List.sum_cons,ih,List.map_cons,List.sum_cons,List.map_cons,List.sum_cons,Mf];omega
  rw[hs,pre];omega
theorem HE.bound(h:HE t b p)(hb:∀i,i<b.1->Iq t (b.2 i)){e:List Nat}(e1:e.Pairwise (fun x y=>x<y))(e2:∀i∈e,i<b.1)(e3:Tog b (lv e)):Ns b (lv e) e.length<=pre (pA p) p.1:=by
 obtain⟨_,⟨h1,_⟩,h2⟩:=h
 have hp:=(N4 b e e1 fun i hi=>(hb i (e2 i hi)).2.1.2.1).1 e3
 have hc:=PW (bF b) (bT b) (eA t p) (pA p) e hp p.1 fun i hi=>⟨(h1 i hi).2.1,(h1 i hi).2.2.2.1⟩
 rw[Jp]
 refine Int.le_trans ?_ hc
 have hle:∀l:List Nat,(∀i∈l,i<b.1)->DW (bV b) l<=(l.map fun k=>Mf (eA t p) (pA p) (bF b k) (bT b k) p.1).sum:=fun l hl=>by
  induction l with
  |nil=>exact Int.le_refl _
  |cons a l ih=>
   have h3:=(h2 a (hl a (by simp))).2.2
   have h4:=ih fun i hi=>hl i (by simp[hi])
   unfold DW at h4⊢
   rw[List.map_cons,List.sum_cons,List.map_cons,List.sum_cons]
   have h3:bV b a<=Mf (eA t p) (pA p) (bF b a) (bT b a) p.1:=h3
   omega
 exact hle e e2
theorem My(E P P':Nat->Int)(F T:Int):∀m,(∀i,i<m->P i<=P' i)->Mf E P F T m<=Mf E P' F T m
 |0,_=>Int.le_refl _
 |m+1,h=>by
  have:=My E P P' F T m fun i hi=>h i (by omega)
  have:=h m (by omega)
  rw[Mf,Mf];split<;>omega
theorem UK(P P':Nat->Int)(k:Nat)(d:Int):∀m,(∀i,i<m->P' i=P i+if i=k then d else 0)->pre P' m=pre P m+if k<m then d else 0
 |0,_=>by rw[if_neg (Nat.not_lt_zero _)];rfl
 |m+1,h=>by
  have h1:=UK P P' k d m fun i hi=>h i (by omega)
  have h2:=h m (by omega)
  rw[pre,pre,h1,h2]
  by_cases e:m=k
  ·subst e;rw[if_neg (Nat.lt_irrefl _),if_pos rfl,if_pos (Nat.lt_succ_self _)];omega
  rw[if_neg e]
  by_cases c:k<m
  ·rw[if_pos c,if_pos (by omega)];omega
  rw[if_neg c,if_neg (by omega)];omega
def UT(p:Ml)(k:Nat)(d:Int):Ml:=(p.1,fun i=>if i=k then⟨(p.2 i).turn,(p.2 i).baisa+d⟩else p.2 i)
theorem Hk(p:Ml)(k:Nat)(d:Int)(i:Nat):((UT p k d).2 i).turn=(p.2 i).turn:=by
 show(if i=k then(⟨(p.2 i).turn,(p.2 i).baisa+d⟩:Pc)else p.2 i).turn=_
 split<;>rfl
theorem Ov(p:Ml)(k:Nat)(d:Int)(i:Nat):pA (UT p k d) i=pA p i+if i=k then d else 0:=by
 show(if i=k then(⟨(p.2 i).turn,(p.2 i).baisa+d⟩:Pc)else p.2 i).baisa=_
 split
 ·rfl
 show(p.2 i).baisa=(p.2 i).baisa+0;omega
theorem Zk(t:Tu)(p:Ml)(k:Nat)(d:Int):∀i,eA t (UT p k d) i=eA t p i
 |0=>rfl
 |i+1=>by show((UT p k d).2 i).turn.til=_;rw[Hk];rfl
theorem HE.up(h:HE t b p){k:Nat}(hk:k<p.1){d:Int}(h0:0<=d)(h1:(p.2 k).baisa+d<=12000000000):HE t b (UT p k d)/\pre (pA (UT p k d)) p.1=pre (pA p) p.1+d:=by
 obtain⟨g1,⟨g2,g3⟩,g4⟩:=h
 have hE:eA t (UT p k d)=eA t p:=funext (Zk t p k d)
 refine⟨⟨g1,⟨fun j hj=> ?_,?_⟩,fun q hq=> ?_⟩,?_⟩
 ·obtain⟨q1,q2,q3,q4,q5⟩:=g2 j hj
  unfold Hw
  rw[Hk,hE,Ov]
  refine⟨q1,q2,q3,?_,?_⟩
  ·split<;>omega
  split
  ·rename_i e;subst e
   have:pA p j=(p.2 j).baisa:=rfl
   omega
  omega
 ·rw[hE];exact g3
 ·obtain⟨q1,q2,q3⟩:=g4 q hq
  have hf:Ln (UT p k d) (b.2 q).turn.fro=Ln p (b.2 q).turn.fro:=funext fun i=>by unfold Ln;rw[Hk]
  have ht:Mh (UT p k d) (b.2 q).turn.til=Mh p (b.2 q).turn.til:=funext fun i=>by unfold Mh;rw[Hk]
  unfold N9
  rw[hf,ht,hE]
  refine⟨q1,q2,Int.le_trans q3 (My _ _ _ _ _ p.1 fun i _=> ?_)⟩
  rw[Ov];split<;>omega
 rw[UK (pA p) (pA (UT p k d)) k d p.1 fun i _=>Ov p k d i,if_pos hk]
theorem WJ(h0:Du t b=0)(h:HE t b p):FO t b p=(pre (pA p) p.1,0):=by
 rw[FO,if_pos h0,MP,AA h];rfl
theorem HE.pos(h:HE t b p)(ht:t.fro<t.til):0<p.1:=by
 rcases Nat.eq_zero_or_pos p.1 with e|e
 ·have:=h.2.1.2
  rw[e]at this
  have:t.fro=t.til:=this
  omega
 exact e
end Go.Proofs.YtlieoghhkioflaaGreat
