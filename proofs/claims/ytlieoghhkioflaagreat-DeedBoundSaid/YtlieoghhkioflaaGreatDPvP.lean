/- Prices that prove a sum: the program's Proves. No condition. -/
import Derived.Test.YtlieoghhkioflaaGreatDat
import Derived.Test.YtlieoghhkioflaaGreatDPrv
import Derived.Test.YtlieoghhkioflaaGreatDsp
import Derived.Test.YtlieoghhkioflaaGreatDre
import Derived.Test.YtlieoghhkioflaaGreatDSrt
import Derived.Test.YtlieoghhkioflaaGreatDBas
import Derived.Test.YtlieoghhkioflaaGreatACode1
set_option linter.unusedSimpArgs false
set_option linter.unusedVariables false
set_option maxRecDepth 100000
namespace Go.Proofs.YtlieoghhkioflaaGreat
open Go Go.RowKit
variable{G:Nat->Option (Nat×(Nat->Ad))}
theorem MQ:Ai Tryz.prog G 39 Gu:=by
 refine Z1 (S:=[(73,Gz)]) (I:=[(82,ZM),(83,ZP)]) mixed (.cons Jy .nil) (.cons Tryz.func82 c82 (.cons Tryz.func83 c83 .nil)) Tryz.func39 c39 fun t b p _ hw=> ?_
 simp only[Nat.reduceSub,Nat.reducePow,go_sem]at hw
 obtain⟨w1,w2⟩:=hw
 by_cases h0:C8 t b=0
 ·have hoff:NM t/\∀i,i<b.1->H1 t (b.2 i):=by
   unfold C8 at h0
   split at h0
   ·rename_i ht
    refine⟨Be.1 ht,?_⟩
    split at h0
    ·exact absurd h0 (by decide)
    split at h0
    ·rename_i hb;exact Be.1 hb
    exact absurd h0 (by decide)
   exact absurd h0 (by decide)
  obtain⟨ht,hb⟩:=hoff
  have hR:E0 t b p=if(Mc t b p).2=true then((Mc t b p).1,0)else(0,44):=by rw[E0,if_pos h0]
  have no:¬GQ t b p->E0 t b p=(0,44):=fun h=>by rw[hR,Mc,Ax h];rfl
  have yes:GQ t b p->E0 t b p=(pre (pA p) p.1,0):=fun h=>by rw[hR,Mc,AA h];rfl
  have bad:¬GQ t b p->(0=(E0 t b p).1/\44=(E0 t b p).2):=fun h=>by rw[no h];exact⟨rfl,rfl⟩
  by_cases hm:60<p.1
  ·have fm:((p.1:Int)>60)=True:=eq_true (by omega)
   rw[no (fun h=>by have:=h.1;omega)]
   simp only[A9,a39,Gz,h0,fm,w1,w2,↓reduceIte,reduceCtorEq,Nat.reduceEqDiff,Nat.reduceAdd,Nat.reduceSub,Nat.reducePow,go_sem]
  have fm:((p.1:Int)>60)=False:=eq_false (by omega)
  simp only[A9,a39,ZM,ZP,Gz,h0,fm,w1,w2,↓reduceIte,reduceCtorEq,Nat.reduceEqDiff,Nat.reduceAdd,Nat.reduceSub,Nat.reduceLeDiff,Nat.reducePow,go_sem]
  refine AX (ι:=Nat) (fun j=>j<=p.1/\∀i,i<j->IF t p i) (fun j=>p.1-j) [1,3,9,10,37,38] (fun j=>[(39,.int .i64 j)]) (fun j=>[(1,.mp .i64 (fun k=>(Gk (eA t p) (pA p) j k).isSome) (fun k=> .int .i64 ((Gk (eA t p) (pA p) j k).getD 0))),(2,.cells (.cons (.int .i64 t.fro) (.cons (.int .i64 (eA t p j)) .nil)))]) 0 ⟨by omega,fun i h=>by omega⟩ (by
   simp only[↓reduceIte,reduceCtorEq,Nat.reduceEqDiff,Nat.reduceLT,go_sem]
   refine⟨rfl,fun k=> ?_⟩
   by_cases hk:k=t.fro
   ·subst hk
    have e:Gk (eA t p) (pA p) 0 t.fro=some 0:=if_pos rfl
    rw[e];simp
   have e:Gk (eA t p) (pA p) 0 k=none:=if_neg hk
   rw[e];simp[hk]) fun j hj=> ?_
  obtain⟨hj1,hj2⟩:=hj
  have hun:=Pt (eA t p) (pA p) j
  by_cases hjl:j<p.1
  ·have fj:((j:Int)<(p.1:Int))=True:=eq_true (by omega)
   have hpre:=Mk t p j hj2
   simp only[fj,hun,Option.isSome_some,Option.getD_some,↓reduceIte,reduceCtorEq,Nat.reduceEqDiff,Nat.reduceAdd,Nat.reduceLeDiff,go_sem]
   have hsuc:eA t p (j+1)=(p.2 j).turn.til:=rfl
   have bj:¬IF t p j->(0=(E0 t b p).1/\44=(E0 t b p).2):=fun h=>bad fun h2=>h (h2.2.1.1 j hjl)
   refine⟨by omega,fun c1=>bj fun h=>c1 h.1,fun c1=>⟨fun c2=>⟨fun c3=>⟨fun c4=>bj fun h=>c4 h.2.2.1,fun c4=>⟨fun c5=>⟨fun c6=>bj fun h=>c6 h.2.2.2.2,fun c6=> ?_⟩,fun c5=>bj fun h=>c5 h.2.2.2.1⟩⟩,fun c3=>bj fun h=>c3 (by rw[c1];exact h.2.1)⟩,fun c2=>absurd (by omega) c2⟩⟩
   refine Af (j+1) ⟨hjl,fun i hi=> ?_⟩ (by omega) ?_
   ·by_cases e:i=j
    ·subst e;exact⟨c1,by omega,c4,c5,c6⟩
    exact hj2 i (by omega)
   have hw':IntKind.i64.wrap (pre (pA p) j+(p.2 j).baisa)=pre (pA p) j+(p.2 j).baisa:=AP (by omega) (by omega)
   simp only[hw',↓reduceIte,reduceCtorEq,Nat.reduceEqDiff,Nat.reduceLT,go_sem]
   refine⟨Cp (by omega),hsuc.symm,fun k=> ?_⟩
   by_cases hk:k=(p.2 j).turn.til
   ·have e:Gk (eA t p) (pA p) (j+1) k=some (pre (pA p) j+(p.2 j).baisa):=by
     rw[Gk,if_pos (by rw[hsuc];exact hk),hun];rfl
    rw[e,if_pos hk,if_pos hk]
    exact⟨rfl,fun _=>rfl⟩
   have e:Gk (eA t p) (pA p) (j+1) k=Gk (eA t p) (pA p) j k:=by
    rw[Gk,if_neg (by rw[hsuc];exact hk)]
   rw[e,if_neg hk,if_neg hk]
   exact⟨rfl,fun _=>rfl⟩
  have fj:((j:Int)<(p.1:Int))=False:=eq_false (by omega)
  obtain rfl:j=p.1:=by omega
  by_cases hE:eA t p p.1=t.til
  ·rw[hE]at hun
   simp only[fj,hE,w1,↓reduceIte,reduceCtorEq,Nat.reduceEqDiff,Nat.reduceAdd,Nat.reduceSub,Nat.reducePow,go_sem]
   have hris:∀j,j<p.1->eA t p j<eA t p (j+1):=fun j hj=>(hj2 j hj).2.1
   have hany:∀k,k<b.1->(Ok t p (b.2 k)↔((Gk (eA t p) (pA p) p.1 (b.2 k).turn.fro).isSome=true/\(Gk (eA t p) (pA p) p.1 (b.2 k).turn.til).isSome=true/\(b.2 k).baisa<=(Gk (eA t p) (pA p) p.1 (b.2 k).turn.til).getD 0-(Gk (eA t p) (pA p) p.1 (b.2 k).turn.fro).getD 0)):=fun k hk=>by
    obtain⟨_,⟨b1,b2,b3⟩,_⟩:=hb k hk
    rw[SA (eA t p) (pA p) p.1 hris _ _ _ b1 b2 (by rw[hE];exact b3)]
    unfold Ok
    rw[Jv,Jv]
    have q1:(∃i,i<p.1/\LD p (b.2 k).turn.fro i=true)↔∃i,i<p.1/\eA t p i=(b.2 k).turn.fro:=by
     constructor
     ·rintro⟨i,hi,h⟩;exact⟨i,hi,by rw[<-(hj2 i hi).1];exact of_decide_eq_true h⟩
     rintro⟨i,hi,h⟩;exact⟨i,hi,decide_eq_true (by rw[(hj2 i hi).1];exact h)⟩
    have q2:(∃i,i<p.1/\LE p (b.2 k).turn.til i=true)↔∃i,i<p.1/\eA t p (i+1)=(b.2 k).turn.til:=by
     constructor
     ·rintro⟨i,hi,h⟩;exact⟨i,hi,of_decide_eq_true h⟩
     rintro⟨i,hi,h⟩;exact⟨i,hi,decide_eq_true h⟩
    rw[q1,q2]
   have hbnd:∀x,0<=(Gk (eA t p) (pA p) p.1 x).getD 0/\(Gk (eA t p) (pA p) p.1 x).getD 0<=720000000000:=fun x=>by
    by_cases hx:∃a,a<=p.1/\x=eA t p a
    ·obtain⟨a,ha,rfl⟩:=hx
     rw[Ha _ _ p.1 hris p.1 (Nat.le_refl _) a ha]
     have:=Mk t p a (fun i hi=>hj2 i (by omega))
     show 0<=pre (pA p) a/\pre (pA p) a<=720000000000
     omega
    rw[G9 _ _ x p.1 fun a ha e=>hx ⟨a,ha,e⟩];exact⟨by decide,by decide⟩
   refine AX (ι:=Nat) (fun k=>k<=b.1/\∀i,i<k->Ok t p (b.2 i)) (fun k=>b.1-k) [3,9,84,85] (fun k=>[(86,.int .i64 k)]) (fun _=>[]) 0 ⟨by omega,fun i h=>by omega⟩ (by simp only[↓reduceIte,reduceCtorEq,Nat.reduceEqDiff,Nat.reduceLT,go_sem];try trace_state) fun k hk=> ?_
   obtain⟨hk1,hk2⟩:=hk
   by_cases hkl:k<b.1
   ·have fk:((k:Int)<(b.1:Int))=True:=eq_true (by omega)
    have bk:¬Ok t p (b.2 k)->(0=(E0 t b p).1/\44=(E0 t b p).2):=fun h=>bad fun h2=>h (h2.2.2 k hkl)
    rw[hany k hkl]at bk
    have hok:=hany k hkl
    have u1:=hbnd (b.2 k).turn.fro
    have u2:=hbnd (b.2 k).turn.til
    generalize hU:Gk (eA t p) (pA p) p.1 (b.2 k).turn.fro=U at*
    generalize hV:Gk (eA t p) (pA p) p.1 (b.2 k).turn.til=V at*
    cases U with
    |none=>
     simp only[fk,hU,hV,Option.isSome_none,Option.getD_none,↓reduceIte,reduceCtorEq,Nat.reduceEqDiff,Nat.reduceAdd,Nat.reduceLeDiff,Nat.reduceLT,go_sem]
     have q:=bk fun h=>by cases h.1
     cases V<;>simp only[Option.isSome_some,Option.isSome_none,Option.getD_some,Option.getD_none,go_sem]<;>exact⟨by omega,q⟩
    |some u=>cases V with
     |none=>
      simp only[fk,hU,hV,Option.isSome_some,Option.isSome_none,Option.getD_some,Option.getD_none,↓reduceIte,reduceCtorEq,Nat.reduceEqDiff,Nat.reduceAdd,Nat.reduceLeDiff,Nat.reduceLT,go_sem]
      exact⟨by omega,bk fun h=>by cases h.2.1⟩
     |some v=>
      have u1':0<=u/\u<=720000000000:=u1
      have u2':0<=v/\v<=720000000000:=u2
      have hw':IntKind.i64.wrap (v-u)=v-u:=AP (by omega) (by omega)
      simp only[fk,hU,hV,hw',Option.isSome_some,Option.getD_some,↓reduceIte,reduceCtorEq,Nat.reduceEqDiff,Nat.reduceAdd,Nat.reduceLeDiff,Nat.reduceLT,go_sem]
      refine⟨by omega,fun c=>bk fun h=> ?_,fun c=>Af (k+1) ⟨hkl,fun i hi=> ?_⟩ (by omega) ?_⟩
      ·have h3:(b.2 k).baisa<=v-u:=h.2.2
       omega
      ·by_cases e:i=k
       ·subst e
        exact hok.2 ⟨rfl,rfl,by show(b.2 i).baisa<=v-u;omega⟩
       exact hk2 i (by omega)
      simp only[↓reduceIte,reduceCtorEq,Nat.reduceEqDiff,Nat.reduceLT,go_sem]
      exact Cp (by omega)
   have fk:((k:Int)<(b.1:Int))=False:=eq_false (by omega)
   obtain rfl:k=b.1:=by omega
   rw[yes ⟨by omega,⟨hj2,hE⟩,hk2⟩]
   simp only[fk,hun,Option.isSome_some,Option.getD_some,↓reduceIte,reduceCtorEq,Nat.reduceEqDiff,Nat.reduceAdd,go_sem]
  rw[no (fun h=>hE h.2.1.2)]
  simp only[fj,hE,w1,↓reduceIte,reduceCtorEq,Nat.reduceEqDiff,Nat.reduceAdd,Nat.reduceSub,Nat.reducePow,go_sem]
 rw[E0,if_neg h0]
 simp only[A9,a39,Gz,h0,w1,w2,↓reduceIte,reduceCtorEq,Nat.reduceEqDiff,Nat.reduceAdd,Nat.reduceSub,Nat.reduceLeDiff,Nat.reducePow,go_sem]
end Go.Proofs.YtlieoghhkioflaaGreat
namespace Go.Proofs.YtlieoghhkioflaaGreat
open Go Go.RowKit
variable{G:Nat->Option (Nat×(Nat->Ad))}
def EA:At:=CY TI TI (fun _ _=>True) fun a b=> .agg (Tu.L ⟨a,b⟩)
theorem Jg:Ai Tryz.prog G 43 EA:=by
 refine OX (S:=[]) (I:=[]) mixed .nil .nil Tryz.func43 c43 fun a b _ _=> ?_
 simp only[A9,a43,↓reduceIte,reduceCtorEq,Nat.reduceEqDiff,Nat.reduceAdd,Nat.reduceLeDiff,go_sem]
def JV:At:=D1 TI TI TI (fun _ _ _=>True) fun w a b=> .agg (Ho.L ⟨w,⟨a,b⟩⟩)
theorem Uw:Ai Tryz.prog G 61 JV:=by
 refine Z1 (S:=[(43,EA)]) (I:=[]) mixed (.cons Jg .nil) .nil Tryz.func61 c61 fun w a b _ _=> ?_
 simp only[A9,a61,EA,↓reduceIte,reduceCtorEq,Nat.reduceEqDiff,Nat.reduceAdd,Nat.reduceLeDiff,go_sem]
def LR:At:=IA (.agg (Ro.L CD))
theorem Vh:Ai Tryz.prog G 40 LR:=by
 refine X9 (S:=[(61,JV)]) (I:=[]) mixed (.cons Uw .nil) .nil Tryz.func40 c40 ?_
 simp only[A9,a40,JV,↓reduceIte,reduceCtorEq,Nat.reduceEqDiff,Nat.reduceAdd,Nat.reduceLeDiff,Nat.reduceLT,go_sem]
 refine⟨rfl,rfl,fun i hi j hj=> ?_⟩
 rcases IL hi with rfl|rfl|rfl<;>rcases IL hj with rfl|rfl|rfl<;>exact rfl
theorem Ai.soft{P:Program}{id:FuncId}{e:TypeId}{pre:List Ad->Prop}{res res':List Ad->Ad}(h:Ai P G id ⟨pre,res,some e⟩)(hr:∀vs,pre vs->∃k n c c',res vs= .view k n c/\res' vs= .view k n c'/\∀i,i<n->∀j,j<k->AB (c' i j) (c i j)):Ai P G id ⟨pre,res',some e⟩:=by
 refine⟨h.ent,fun A w vs cs hG hr' hp=> ?_⟩
 obtain⟨k,n,c,c',e1,e2,e3⟩:=hr vs hp
 refine(h.run A w vs cs hG hr' hp).mono fun ex w'=> ?_
 simp only[e1,e2]
 rintro⟨x,q1,q2,q3,q4⟩
 refine⟨x,q1,By _ _ _ ((Dc ..).mpr ⟨rfl,e3⟩) q2,q3,fun e' he=> ?_⟩
 obtain⟨k',n',c'',r1,r2,r3,xs,r4,r5⟩:=q4 e' he
 cases r1
 exact⟨k,n,c',rfl,r2,r3,xs,r4,fun i hi j hj=>by
  obtain⟨y,y1,y2,y3⟩:=r5 i hi j hj
  exact⟨y,y1,y2,By _ _ _ (e3 i hi j hj) y3⟩⟩
def deK(i j:Nat):Ad:=if j=8 then .nils else(BD i).c j
def Wm:At:=(Ak AY (fun _=>True) fun _=> .view 9 3 deK).mine 56
theorem Abc{i:Nat}(h:i<9):i=0\/i=1\/i=2\/i=3\/i=4\/i=5\/i=6\/i=7\/i=8:=by omega
theorem Wo:Ai Tryz.prog G 41 Wm:=by
 refine foT mixed (S:=[(43,EA)]) (I:=[]) (X:=[]) (N:=[]) (C:=[]) (.cons Jg .nil) .nil .nil Tryz.func41 c41 fun a _ hw=> ?_
 simp only[a41,EA,AY,↓reduceIte,reduceCtorEq,Nat.reduceEqDiff,Nat.reduceAdd,Nat.reduceLeDiff,Nat.reduceLT,go_sem]
 refine⟨fun i hi j hj=> ?_,_,9,3,_,.inl ⟨rfl,rfl⟩,_,rfl,fun i hi j hj=> ?_⟩
 ·rcases IL hi with rfl|rfl|rfl<;>rcases Abc hj with rfl|rfl|rfl|rfl|rfl|rfl|rfl|rfl|rfl<;>exact BZ _
 rcases IL hi with rfl|rfl|rfl<;>rcases Abc hj with rfl|rfl|rfl|rfl|rfl|rfl|rfl|rfl|rfl<;>exact⟨rfl,rfl⟩
def Li:At:=(Ak AY (fun _=>True) fun _=> .view 9 3 fun i j=>(BD i).c j).mine 56
theorem WY:Ai Tryz.prog G 41 Li:=Ai.soft Wo fun vs _=>⟨9,3,_,_,rfl,rfl,fun i hi j hj=>by
 unfold deK
 split
 ·rename_i h;subst h
  rcases IL hi with rfl|rfl|rfl<;>exact(MR ..).mpr rfl
 exact BZ _⟩
def Ml:At:=IA (.agg (De.L (BD 3)))
theorem Wp:Ai Tryz.prog G 42 Ml:=by
 refine X9 (S:=[]) (I:=[]) mixed .nil .nil Tryz.func42 c42 ?_
 simp only[A9,a42,↓reduceIte,reduceCtorEq,Nat.reduceEqDiff,Nat.reduceAdd,Nat.reduceLeDiff,Nat.reduceLT,go_sem]
 refine⟨rfl,rfl,rfl,rfl,rfl,rfl,rfl,rfl,rfl,fun i hi j hj=> ?_⟩
 rcases(show i=0\/i=1 from by have hi:i<2:=hi;omega)with rfl|rfl<;>rcases(show j=0\/j=1 by omega)with rfl|rfl<;>exact rfl
def Pa:At:=IA (.view 4 4 fun i j=>(Kl i).c j)
theorem Zy:Ai Tryz.prog G 44 Pa:=by
 refine X9 (S:=[(43,EA)]) (I:=[]) mixed (.cons Jg .nil) .nil Tryz.func44 c44 ?_
 simp only[A9,a44,EA,↓reduceIte,Nat.reduceEqDiff,Nat.reduceAdd,Nat.reduceLeDiff,Nat.reduceLT,go_sem]
 intro i hi j hj
 rcases If hi with rfl|rfl|rfl|rfl<;>rcases If hj with rfl|rfl|rfl|rfl<;>exact rfl
def Ke:At:=IA (.view 3 3 fun i j=>(pcC i).c j)
theorem S6:Ai Tryz.prog G 45 Ke:=by
 refine X9 (S:=[(43,EA)]) (I:=[]) mixed (.cons Jg .nil) .nil Tryz.func45 c45 ?_
 simp only[A9,a45,EA,↓reduceIte,Nat.reduceEqDiff,Nat.reduceAdd,Nat.reduceLeDiff,Nat.reduceLT,go_sem]
 intro i hi j hj
 rcases IL hi with rfl|rfl|rfl<;>rcases IL hj with rfl|rfl|rfl<;>exact rfl
noncomputable def owQ(r:Ro)(l:Jc)(d:Int):Ad:=if CK r l=0 then(if 0<=d/\d<=100000 then .tup (.cons (MV (AE (Pr r l d).ow.2 (Cs r))) (.cons (MV (AE (fun m=>GK (Pr r l d) m d) (Cs r))) (.cons (.int .i64 0) .nil)))else .tup (.cons .nils (.cons .nils (.cons (.int .i64 2) .nil))))else .tup (.cons .nils (.cons .nils (.cons (.int .i64 (CK r l)) .nil)))
noncomputable def Zg:At:=Ak (Ag QF (Ag (Du J9) (Ag TI AY))) (fun _=>True) fun a=>owQ a.1 a.2.1 a.2.2.1
noncomputable def shQ(r:Ro)(l:Jc)(d:Int):Ad:=if CK r l=0 then(if 0<=d/\d<=100000 then .tup (.cons (VN (Ck (CO (Pr r l d).ow.2 (Cs r)) 10000)) (.cons (.int .i64 0) .nil))else .tup (.cons .nils (.cons (.int .i64 2) .nil)))else .tup (.cons .nils (.cons (.int .i64 (CK r l)) .nil))
noncomputable def YP:At:=Ak (Ag QF (Ag (Du J9) (Ag TI AY))) (fun _=>True) fun a=>shQ a.1 a.2.1 a.2.2.1
noncomputable def reQ(r:Ro)(l:Jc):Ad:=if CK r l=0 then .tup (.cons (.view 9 (EZ l).1 fun i j=>((EZ l).2 i).c j) (.cons (Xw r (EZ l)) (.cons (.int .i64 0) .nil)))else .tup (.cons .nils (.cons .nils (.cons (.int .i64 (CK r l)) .nil)))
noncomputable def Zd:At:=Ak (Ag QF (Ag (Du J9) AY)) (fun _=>True) fun a=>reQ a.1 a.2.1
noncomputable def XK(i:Nat):Hs:=(Ck (CO (A1 CD BD 4).ow.2 1440) 10000).2 i
noncomputable def AcH(i:Nat):De:=(EZ (3,BD)).2 i
noncomputable def RX(i:Nat):Int:=B6 (A1 CD (EZ (3,BD)).2 i) ((EZ (3,BD)).2 i)
theorem X5:Ex (3,BD):=⟨by decide,fun _ _=>rfl⟩
theorem Aac:Cs CD=1440:=rfl
theorem PO{f:Nat->Int}{N a n:Nat}{L:Nat->Ho}(hN:N=a)(h:RS f a n L):∃g:Nat->Ho,MV (AE f N)= .view 3 n (fun i j=>(g i).c j)/\∀i,i<n->g i=L i:=by
 subst hN
 exact⟨(AE f N).2,by rw[MV,h.1],h.2⟩
theorem Acc:∃g h:Nat->Ho,owQ CD (3,BD) 20= .tup (.cons (.view 3 4 fun i j=>(g i).c j) (.cons (.view 3 5 fun i j=>(h i).c j) (.cons (.int .i64 0) .nil)))/\(∀i,i<4->g i=Yg i)/\∀i,i<5->h i=Xy i:=by
 have hu:Cy (EZ (3,BD)) 20=3:=SO X5 (Nat.le_refl _) (fun i hi=>by rcases IL hi with rfl|rfl|rfl<;>decide) fun i h1 h2=>by have h2:i<3:=h2;omega
 have hb:Pr CD (3,BD) 20=A1 CD BD 3:=by unfold Pr;rw[hu,O5 X5 3 (Nat.le_refl _)]
 obtain⟨g,g1,g2⟩:=PO Aac Z6
 obtain⟨h,h1,h2⟩:=PO Aac Aai
 refine⟨g,h,?_,g2,h2⟩
 unfold owQ
 rw[if_pos (Pp X5),if_pos ⟨by decide,by decide⟩,hb,g1,h1]
theorem Abk(i:Nat)(hi:i<4):XK i=Yu i:=Py.2 i hi
theorem AbK{f:Nat->De}(h0:f 0=BD 0)(h1:f 1=BD 1)(h2:f 2=BD 2)(h3:f 3=BD 3):shQ CD (4,f) 40= .tup (.cons (.view 2 4 fun i j=>(XK i).c j) (.cons (.int .i64 0) .nil)):=by
 have he:Ex (4,f):=⟨Nat.le_refl 4,fun i hi=>by rcases If hi with rfl|rfl|rfl|rfl<;>assumption⟩
 have hu:Cy (EZ (4,f)) 40=4:=SO he (Nat.le_refl _) (fun i hi=>by rcases If hi with rfl|rfl|rfl|rfl<;>decide) fun i h1 h2=>by have h2:i<4:=h2;omega
 have hb:Pr CD (4,f) 40=A1 CD BD 4:=by unfold Pr;rw[hu,O5 he 4 (Nat.le_refl _)]
 unfold shQ
 rw[if_pos (Pp he),if_pos ⟨by decide,by decide⟩,hb,show Cs CD=1440 from rfl]
 unfold VN XK
 rw[Py.1]
theorem Aco:reQ CD (3,BD)= .tup (.cons (.view 9 3 fun i j=>(AcH i).c j) (.cons (.view 1 3 fun i _=> .int .u8 (RX i)) (.cons (.int .i64 0) .nil))):=by
 unfold reQ Xw
 rw[if_pos (Pp X5),(PD X5).1];rfl
theorem AaY:RX 0=0/\RX 1=2/\RX 2=0:=by
 have h (i:Nat) (hi:i<3):RX i=B6 (A1 CD BD i) (BD i):=by
  unfold RX
  rw[O5 X5 i (by show i<=3;omega),(PD X5).2 i hi]
 exact⟨(h 0 (by decide)).trans v0C,(h 1 (by decide)).trans v1C,(h 2 (by decide)).trans v2C⟩
noncomputable def pcV(i:Nat):Pc:=(Ln Pb (4,Kl)).2 i
noncomputable def AbV(i:Nat):Int:=DP [1,2] i
theorem AbB:M4 Pb (4,Kl)= .tup (.cons (.view 1 2 fun i _=> .int .i64 (AbV i)) (.cons (.int .i64 65) (.cons (.int .i64 0) .nil))):=by
 unfold M4
 rw[if_pos Zz,show Pb.til=100 from rfl,AbO];rfl
theorem AbZ:WA Pb (4,Kl)= .tup (.cons (.view 3 3 fun i j=>(pcV i).c j) (.cons (.int .i64 0) .nil)):=by
 unfold WA
 rw[if_pos Zz,Aap.1];rfl
theorem HJ{α:Type}{a b:Nat×(Nat->α)}(h:MC a b=false)(h1:a.1=b.1)(h2:∀i,i<a.1->a.2 i=b.2 i):False:=by
 have:=h.symm.trans (AA ⟨h1,h2⟩);cases this
def Fu:At:=IA (.bool true)
set_option maxHeartbeats 8000000 in
theorem TX:Ai Tryz.prog G 25 Fu:=by
 refine X9 (S:=[(43,EA),(61,JV),(40,LR),(41,Li),(42,Ml),(44,Pa),(45,Ke),(16,Zg),(29,Zd),(18,YP),(36,Ps),(38,Zq),(39,Gu),(22,Lx),(23,L7),(62,OW),(63,LA)]) (I:=[]) mixed
  (.cons Jg (.cons Uw (.cons Vh (.cons WY (.cons Wp (.cons Zy (.cons S6 (.cons (show Ai Tryz.prog G _ Zg from Ts) (.cons (show Ai Tryz.prog G _ Zd from YC) (.cons (show Ai Tryz.prog G _ YP from SR) (.cons H0 (.cons Tz (.cons MQ (.cons Wk (.cons Vt (.cons YA (.cons W6 .nil))))))))))))))))) .nil Tryz.func25 c25 ?_
 obtain⟨ownV,useV,n1,ownVC,useVC⟩:=Acc
 have n2:=Aco
 have n4:=AbB
 have n5:=AbZ
 have n6:=AcF (p:=(3,pcC)) rfl fun _ _=>rfl
 have t0:(⟨0,100⟩:Tu)=Pb:=rfl
 have g1:(CD.holds.1<=9223372036854775807)=True:=eq_true (by decide)
 have g2:((BD 3).heirs.1<=9223372036854775807)=True:=eq_true (by decide)
 simp(config:={maxSteps:=1000000}) only[A9,a25,EA,JV,LR,Li,Ml,Pa,Ke,Zg,Zd,YP,Ps,Zq,Gu,Lx,L7,OW,LA,Ak,At.mine,Ag,AY,n1,n2,n4,n5,n6,t0,g1,g2,AbK,↓reduceIte,reduceCtorEq,Nat.reduceEqDiff,Nat.reduceAdd,Nat.reduceSub,Nat.reduceLeDiff,Nat.reduceMul,Nat.reduceLT,Nat.reducePow,go_sem]
 have lt5:∀{i:Nat},i<5->i=0\/i=1\/i=2\/i=3\/i=4:=fun h=>by omega
 have lt2:∀{i:Nat},i<2->i=0\/i=1:=fun h=>by omega
 refine⟨fun i hi=> ?_,fun i hi=> ?_,fun q1=>⟨fun i hi=> ?_,fun q2=>⟨fun i hi=> ?_,fun q3=>⟨fun i hi=> ?_,fun q4=>⟨fun i hi=> ?_,fun q5 q6=>HJ q6 rfl fun i hi=>Aap.2 i hi,fun q5=>HJ q5 rfl fun i hi=> ?_⟩,fun q4=>HJ q4 rfl fun i hi=>(Abk i hi).trans ?_⟩,fun q3=> ?_⟩,fun q2=>HJ q2 rfl fun i hi=>(useVC i hi).trans ?_⟩,fun q1=>HJ q1 rfl fun i hi=>(ownVC i hi).trans ?_⟩
 ·rcases If hi with rfl|rfl|rfl|rfl
  ·exact of_eq_true (De.w_c (BD 0))
  ·exact of_eq_true (De.w_c (BD 1))
  ·exact of_eq_true (De.w_c (BD 2))
  exact of_eq_true (De.w_c (BD 3))
 ·rcases If hi with rfl|rfl|rfl|rfl<;>exact⟨rfl,rfl,rfl⟩
 ·rcases lt5 hi with rfl|rfl|rfl|rfl|rfl<;>exact⟨rfl,rfl,rfl⟩
 ·obtain⟨v0,v1,v2⟩:=AaY
  rcases IL hi with rfl|rfl|rfl
  ·rw[v0];decide
  ·rw[v1];decide
  rw[v2];decide
 ·rcases If hi with rfl|rfl|rfl|rfl<;>exact⟨rfl,rfl⟩
 ·rcases lt2 hi with rfl|rfl<;>exact rfl
 ·rcases lt2 hi with rfl|rfl<;>exact rfl
 ·have hi:i<4:=hi
  rcases If hi with rfl|rfl|rfl|rfl<;>exact rfl
 ·obtain⟨v0,v1,v2⟩:=AaY
  refine(@decide_eq_false_iff_not _ (Classical.propDecidable _)).1 q3 ⟨rfl,fun i hi=> ?_⟩
  rcases IL hi with rfl|rfl|rfl<;>assumption
 ·have hi:i<5:=hi
  rcases lt5 hi with rfl|rfl|rfl|rfl|rfl<;>exact rfl
 have hi:i<4:=hi
 rcases If hi with rfl|rfl|rfl|rfl<;>exact rfl
end Go.Proofs.YtlieoghhkioflaaGreat
namespace Go.Proofs.YtlieoghhkioflaaGreat
theorem Hm{l:List Nat}{i:Nat}(h:i<l.length):DP l i=((l[i]:Nat):Int):=by simp[DP,List.getElem?_eq_getElem h]
structure Aat(b:Ku)(x:Int)(R:List Nat×Int):Prop where
 len:R.1.length<=b.1
 asc:R.1.Pairwise (fun x y=>x<y)
 mem:∀i∈R.1,i<b.1
 rng:∀i,i<R.1.length->0<=DP R.1 i/\DP R.1 i<b.1
 ris:∀i,0<i->i<R.1.length->DP R.1 (i-1)<DP R.1 i
 tog:Xo b (lv R.1)
 sum:FM b (lv R.1) R.1.length=R.2
 top:∀e:List Nat,e.Pairwise (fun x y=>x<y)->(∀i∈e,i<b.1)->(∀i∈e,(b.2 i).turn.til<=x)->Xo b (lv e)->FM b (lv e) e.length<=R.2/\(FM b (lv e) e.length=R.2->¬Erl (lv e) (lv R.1))
theorem EY.wins{t:Tu}{b:Ku}(h:EY t b)(x:Int):Aat b x (D2 b x):=by
 have hf:∀i,i<b.1->(b.2 i).turn.fro<(b.2 i).turn.til:=fun i hi=>(h.best.2 i hi).1
 have hb:=Ic b.1 (DV (bV b)) (Oh (bF b) (bT b) x) rfl rfl
 show Aat b x (Ko b.1 (DV (bV b)) (Oh (bF b) (bT b) x))
 generalize Ko b.1 (DV (bV b)) (Oh (bF b) (bT b) x)=R at hb
 obtain⟨⟨m1,m2⟩,eqv,top,fst⟩:=hb
 obtain⟨r1,r2⟩:=Dg b.1 R.1 0 m1
 have hs:=(Bool.and_eq_true _ _▸m2:_/\_).2
 refine⟨?_,r1,fun i hi=>(r2 i hi).2,fun i hi=> ?_,fun i h0 hi=> ?_,(OC b R.1 r1 fun i hi=>hf i (r2 i hi).2).2 hs,(Jl b R.1).trans eqv,fun e e1 e2 e3 e4=> ?_⟩
 ·have hsub:R.1=(List.range b.1).filter (fun i=>decide (i∈R.1)):=(Iy b.1 R.1 m1).symm
  rw[hsub]
  have:=List.length_filter_le (fun i=>decide (i∈R.1)) (List.range b.1)
  rw[List.length_range]at this;exact this
 ·rw[Hm hi]
  have:=r2 _ (List.getElem_mem hi)
  omega
 ·rw[Hm hi,Hm (show i-1<R.1.length by omega)]
  have:=List.pairwise_iff_getElem.1 r1 (i-1) i (by omega) hi (by omega)
  omega
 have hS:ris b.1 0 e=true/\Oh (bF b) (bT b) x e=true:=⟨Fv b.1 e 0 e1 fun i hi=>⟨Nat.zero_le _,e2 i hi⟩,by
  unfold Oh
  rw[Bool.and_eq_true,List.all_eq_true]
  exact⟨fun i hi=>decide_eq_true (e3 i hi),(OC b e e1 fun i hi=>hf i (e2 i hi)).1 e4⟩⟩
 rw[Jl]
 exact⟨top e hS,fun he hE=>by
  have:=fst e hS he
  rw[(ZA e R.1).1 hE]at this;cases this⟩
theorem Mh(s j:Nat):(Ky s j).Pairwise (fun x y=>x<y)/\(∀i∈Ky s j,i<j)/\(Ky s j).length<=j:=by
 refine⟨List.Pairwise.filter _ List.pairwise_lt_range,fun i hi=>List.mem_range.1 (List.mem_filter.1 hi).1,?_⟩
 have:=List.length_filter_le (fun i=>s.testBit i) (List.range j)
 rw[List.length_range]at this;exact this
theorem WG{a b:Me}(h:¬Erl a b){j:Nat}(hj:∀i,i<j->a.2 i=b.2 i)(ha:j<a.1)(hb:j<b.1)(hn:a.2 j≠b.2 j):b.2 j<a.2 j:=by
 have:¬a.2 j<b.2 j:=fun q=>h ⟨j,hj,.inl ⟨ha,hb,q⟩⟩
 omega
theorem SW{a b:Me}(h:¬Erl a b){j:Nat}(hj:∀i,i<j->a.2 i=b.2 i)(ha:j=a.1\/j=b.1)(ha2:j<=a.1)(hb2:j<=b.1):b.1<=a.1:=by
 rcases Nat.lt_or_ge a.1 b.1 with q|q
 ·exact absurd ⟨a.1,fun i hi=>hj i (by omega),.inr ⟨rfl,q⟩⟩ h
 exact q
end Go.Proofs.YtlieoghhkioflaaGreat
namespace Go.Proofs.YtlieoghhkioflaaGreat
open Go Go.RowKit
variable{G:Nat->Option (Nat×(Nat->Ad))}
attribute [go_sem] Abi Aa5 YH AbI AcD Acy Ace KM Aal
noncomputable def Ll:At:=CY Tg (Du NA) (fun _ _=>True) fun t b=> .bool (Bf (C8 t b=0))
theorem Aax:Ai Tryz.prog G 35 Ll:=by
 refine OX (S:=[(72,Gz)]) (I:=[]) mixed (.cons Y7 .nil) .nil Tryz.func35 c35 fun t b _ hw=> ?_
 simp only[Nat.reduceSub,Nat.reducePow,go_sem]at hw
 by_cases h0:C8 t b=0
 ·have hn:=(Tt h0).n
  have f1:((b.1:Int)<=20)=True:=eq_true (by omega)
  simp only[A9,a35,Gz,h0,f1,AA trivial,hw,↓reduceIte,reduceCtorEq,Nat.reduceEqDiff,Nat.reduceAdd,Nat.reduceSub,Nat.reducePow,go_sem]
 have f2:(C8 t b=0)=False:=eq_false h0
 by_cases h1:b.1<=20
 ·have f1:((b.1:Int)<=20)=True:=eq_true (by omega)
  simp only[A9,a35,Gz,f1,f2,Ax (fun h:False=>h),hw,↓reduceIte,reduceCtorEq,Nat.reduceEqDiff,Nat.reduceAdd,Nat.reduceSub,Nat.reducePow,go_sem]
 have f1:((b.1:Int)<=20)=False:=eq_false (by omega)
 simp only[A9,a35,Gz,f1,f2,Ax (fun h:False=>h),hw,↓reduceIte,reduceCtorEq,Nat.reduceEqDiff,Nat.reduceAdd,Nat.reduceSub,Nat.reducePow,go_sem]
theorem KH(s j:Nat)(hs:s<65536):bits .and .u16 ((s:Int)/2^j) 1=if s.testBit j then 1 else 0:=by
 have e1:(s:Int)/2^j=((s/2^j:Nat):Int):=by simp
 rw[e1,Nat.testBit_eq_decide_div_mod_eq]
 have h2:s/2^j<65536:=Nat.lt_of_le_of_lt (Nat.div_le_self _ _) hs
 generalize s/2^j=q at h2
 have h1:(BitVec.ofInt 16 (q:Int)).toNat=q:=by
  rw[BitVec.ofInt_natCast,BitVec.toNat_ofNat];exact Nat.mod_eq_of_lt (by omega)
 have h3:(BitVec.ofInt 16 1).toNat=1:=by decide
 show IntKind.u16.wrap ((BitVec.ofInt 16 (q:Int)&&&BitVec.ofInt 16 1).toNat:Int)=_
 rw[BitVec.toNat_and,h1,h3,Nat.and_one_is_mod]
 have h4:q%2=0\/q%2=1:=by omega
 rcases h4 with h4|h4<;>rw[h4]<;>rfl
end Go.Proofs.YtlieoghhkioflaaGreat
