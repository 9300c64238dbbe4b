/- Prices that prove a sum: the program's Proves. No condition. -/
import Derived.Test.YtlieoghhkioflaaGreatDat
import Derived.Test.YtlieoghhkioflaaGreatDPrv
import Derived.Test.YtlieoghhkioflaaGreatDsp
import Derived.Test.YtlieoghhkioflaaGreatDre
import Derived.Test.YtlieoghhkioflaaGreatDSrt
import Derived.Test.YtlieoghhkioflaaGreatLDez
import Derived.Test.YtlieoghhkioflaaGreatACode1
import Derived.Test.YtlieoghhkioflaaGreatDpy
import Derived.Test.YtlieoghhkioflaaGreatSoT
set_option linter.unusedSimpArgs false
set_option linter.unusedVariables false
set_option maxRecDepth 100000
namespace Go.Proofs.YtlieoghhkioflaaGreat
open Go Go.RowKit
variable{G:Nat->Option (Nat×(Nat->Ae))}
theorem Sc:Ah Tryz.prog G 39 Mc:=by
 refine ZX (S:=[(73,J6)]) (I:=[(82,Z2),(83,Z0)]) mixed (.cons JR .nil) (.cons Tryz.func82 c82 (.cons Tryz.func83 c83 .nil)) Tryz.func39 c39 fun t b p _ hw=> ?_
 simp only[Nat.reduceSub,Nat.reducePow,go_sem]at hw
 obtain⟨w1,w2⟩:=hw
 by_cases h0:FS t b=0
 ·have hoff:O1 t/\∀i,i<b.1->LJ t (b.2 i):=by
   unfold FS at h0
   split at h0
   ·rename_i ht
    refine⟨AN.1 ht,?_⟩
    split at h0
    ·exact absurd h0 (by decide)
    split at h0
    ·rename_i hb;exact AN.1 hb
    exact absurd h0 (by decide)
   exact absurd h0 (by decide)
  obtain⟨ht,hb⟩:=hoff
  have hR:GN t b p=if(Pe t b p).2=true then((Pe t b p).1,0)else(0,44):=by rw[GN,if_pos h0]
  have no:¬Se t b p->GN t b p=(0,44):=fun h=>by rw[hR,Pe,Am h];rfl
  have yes:Se t b p->GN t b p=(pre (pA p) p.1,0):=fun h=>by rw[hR,Pe,As h];rfl
  have bad:¬Se t b p->(0=(GN t b p).1/\44=(GN t b p).2):=fun h=>by rw[no h];exact⟨rfl,rfl⟩
  by_cases hm:60<p.1
  ·have fm:((p.1:Int)>60)=True:=eq_true (by omega)
   rw[no (fun h=>by have:=h.1;omega)]
   simp only[A8,a39,J6,h0,fm,w1,w2,↓reduceIte,reduceCtorEq,Nat.reduceEqDiff,Nat.reduceAdd,Nat.reduceSub,Nat.reducePow,go_sem]
  have fm:((p.1:Int)>60)=False:=eq_false (by omega)
  simp only[A8,a39,Z2,Z0,J6,h0,fm,w1,w2,↓reduceIte,reduceCtorEq,Nat.reduceEqDiff,Nat.reduceAdd,Nat.reduceSub,Nat.reduceLeDiff,Nat.reducePow,go_sem]
  refine AK (ι:=Nat) (fun j=>j<=p.1/\∀i,i<j->Kg t p i) (fun j=>p.1-j) [1,3,9,10,37,38] (fun j=>[(39,.int .i64 j)]) (fun j=>[(1,.mp .i64 (fun k=>(Gi (eA t p) (pA p) j k).isSome) (fun k=> .int .i64 ((Gi (eA t p) (pA p) j k).getD 0))),(2,.cells (.cons (.int .i64 t.fro) (.cons (.int .i64 (eA t p j)) .nil)))]) 0 ⟨by omega,fun i h=>by omega⟩ (by
   simp only[↓reduceIte,reduceCtorEq,Nat.reduceEqDiff,Nat.reduceLT,go_sem]
   refine⟨rfl,fun k=> ?_⟩
   by_cases hk:k=t.fro
   ·subst hk
    have e:Gi (eA t p) (pA p) 0 t.fro=some 0:=if_pos rfl
    rw[e];simp
   have e:Gi (eA t p) (pA p) 0 k=none:=if_neg hk
   rw[e];simp[hk]) fun j hj=> ?_
  obtain⟨hj1,hj2⟩:=hj
  have hun:=Oi (eA t p) (pA p) j
  by_cases hjl:j<p.1
  ·have fj:((j:Int)<(p.1:Int))=True:=eq_true (by omega)
   have hpre:=Of t p j hj2
   simp only[fj,hun,Option.isSome_some,Option.getD_some,↓reduceIte,reduceCtorEq,Nat.reduceEqDiff,Nat.reduceAdd,Nat.reduceLeDiff,go_sem]
   have hsuc:eA t p (j+1)=(p.2 j).turn.til:=rfl
   have bj:¬Kg t p j->(0=(GN t b p).1/\44=(GN t b p).2):=fun h=>bad fun h2=>h (h2.2.1.1 j hjl)
   refine⟨by omega,fun c1=>bj fun h=>c1 h.1,fun c1=>⟨fun c2=>⟨fun c3=>⟨fun c4=>bj fun h=>c4 h.2.2.1,fun c4=>⟨fun c5=>⟨fun c6=>bj fun h=>c6 h.2.2.2.2,fun c6=> ?_⟩,fun c5=>bj fun h=>c5 h.2.2.2.1⟩⟩,fun c3=>bj fun h=>c3 (by rw[c1];exact h.2.1)⟩,fun c2=>absurd (by omega) c2⟩⟩
   refine Ad (j+1) ⟨hjl,fun i hi=> ?_⟩ (by omega) ?_
   ·by_cases e:i=j
    ·subst e;exact⟨c1,by omega,c4,c5,c6⟩
    exact hj2 i (by omega)
   have hw':IntKind.i64.wrap (pre (pA p) j+(p.2 j).baisa)=pre (pA p) j+(p.2 j).baisa:=AU (by omega) (by omega)
   simp only[hw',↓reduceIte,reduceCtorEq,Nat.reduceEqDiff,Nat.reduceLT,go_sem]
   refine⟨BH (by omega),hsuc.symm,fun k=> ?_⟩
   by_cases hk:k=(p.2 j).turn.til
   ·have e:Gi (eA t p) (pA p) (j+1) k=some (pre (pA p) j+(p.2 j).baisa):=by
     rw[Gi,if_pos (by rw[hsuc];exact hk),hun];rfl
    rw[e,if_pos hk,if_pos hk]
    exact⟨rfl,fun _=>rfl⟩
   have e:Gi (eA t p) (pA p) (j+1) k=Gi (eA t p) (pA p) j k:=by
    rw[Gi,if_neg (by rw[hsuc];exact hk)]
   rw[e,if_neg hk,if_neg hk]
   exact⟨rfl,fun _=>rfl⟩
  have fj:((j:Int)<(p.1:Int))=False:=eq_false (by omega)
  obtain rfl:j=p.1:=by omega
  by_cases hE:eA t p p.1=t.til
  ·rw[hE]at hun
   simp only[fj,hE,w1,↓reduceIte,reduceCtorEq,Nat.reduceEqDiff,Nat.reduceAdd,Nat.reduceSub,Nat.reducePow,go_sem]
   have hris:∀j,j<p.1->eA t p j<eA t p (j+1):=fun j hj=>(hj2 j hj).2.1
   have hany:∀k,k<b.1->(QI t p (b.2 k)↔((Gi (eA t p) (pA p) p.1 (b.2 k).turn.fro).isSome=true/\(Gi (eA t p) (pA p) p.1 (b.2 k).turn.til).isSome=true/\(b.2 k).baisa<=(Gi (eA t p) (pA p) p.1 (b.2 k).turn.til).getD 0-(Gi (eA t p) (pA p) p.1 (b.2 k).turn.fro).getD 0)):=fun k hk=>by
    obtain⟨_,⟨b1,b2,b3⟩,_⟩:=hb k hk
    rw[Sy (eA t p) (pA p) p.1 hris _ _ _ b1 b2 (by rw[hE];exact b3)]
    unfold QI
    rw[JB,JB]
    have q1:(∃i,i<p.1/\Q9 p (b.2 k).turn.fro i=true)↔∃i,i<p.1/\eA t p i=(b.2 k).turn.fro:=by
     constructor
     ·rintro⟨i,hi,h⟩;exact⟨i,hi,by rw[<-(hj2 i hi).1];exact of_decide_eq_true h⟩
     rintro⟨i,hi,h⟩;exact⟨i,hi,decide_eq_true (by rw[(hj2 i hi).1];exact h)⟩
    have q2:(∃i,i<p.1/\Qz p (b.2 k).turn.til i=true)↔∃i,i<p.1/\eA t p (i+1)=(b.2 k).turn.til:=by
     constructor
     ·rintro⟨i,hi,h⟩;exact⟨i,hi,of_decide_eq_true h⟩
     rintro⟨i,hi,h⟩;exact⟨i,hi,decide_eq_true h⟩
    rw[q1,q2]
   have hbnd:∀x,0<=(Gi (eA t p) (pA p) p.1 x).getD 0/\(Gi (eA t p) (pA p) p.1 x).getD 0<=720000000000:=fun x=>by
    by_cases hx:∃a,a<=p.1/\x=eA t p a
    ·obtain⟨a,ha,rfl⟩:=hx
     rw[Hq _ _ p.1 hris p.1 (Nat.le_refl _) a ha]
     have:=Of t p a (fun i hi=>hj2 i (by omega))
     show 0<=pre (pA p) a/\pre (pA p) a<=720000000000
     omega
    rw[Ha _ _ x p.1 fun a ha e=>hx ⟨a,ha,e⟩];exact⟨by decide,by decide⟩
   refine AK (ι:=Nat) (fun k=>k<=b.1/\∀i,i<k->QI t p (b.2 i)) (fun k=>b.1-k) [3,9,84,85] (fun k=>[(86,.int .i64 k)]) (fun _=>[]) 0 ⟨by omega,fun i h=>by omega⟩ (by simp only[↓reduceIte,reduceCtorEq,Nat.reduceEqDiff,Nat.reduceLT,go_sem];try trace_state) fun k hk=> ?_
   obtain⟨hk1,hk2⟩:=hk
   by_cases hkl:k<b.1
   ·have fk:((k:Int)<(b.1:Int))=True:=eq_true (by omega)
    have bk:¬QI t p (b.2 k)->(0=(GN t b p).1/\44=(GN t b p).2):=fun h=>bad fun h2=>h (h2.2.2 k hkl)
    rw[hany k hkl]at bk
    have hok:=hany k hkl
    have u1:=hbnd (b.2 k).turn.fro
    have u2:=hbnd (b.2 k).turn.til
    generalize hU:Gi (eA t p) (pA p) p.1 (b.2 k).turn.fro=U at*
    generalize hV:Gi (eA t p) (pA p) p.1 (b.2 k).turn.til=V at*
    cases U with
    |none=>
     simp only[fk,hU,hV,Option.isSome_none,Option.getD_none,↓reduceIte,reduceCtorEq,Nat.reduceEqDiff,Nat.reduceAdd,Nat.reduceLeDiff,Nat.reduceLT,go_sem]
     have q:=bk fun h=>by cases h.1
     cases V<;>simp only[Option.isSome_some,Option.isSome_none,Option.getD_some,Option.getD_none,go_sem]<;>exact⟨by omega,q⟩
    |some u=>cases V with
     |none=>
      simp only[fk,hU,hV,Option.isSome_some,Option.isSome_none,Option.getD_some,Option.getD_none,↓reduceIte,reduceCtorEq,Nat.reduceEqDiff,Nat.reduceAdd,Nat.reduceLeDiff,Nat.reduceLT,go_sem]
      exact⟨by omega,bk fun h=>by cases h.2.1⟩
     |some v=>
      have u1':0<=u/\u<=720000000000:=u1
      have u2':0<=v/\v<=720000000000:=u2
      have hw':IntKind.i64.wrap (v-u)=v-u:=AU (by omega) (by omega)
      simp only[fk,hU,hV,hw',Option.isSome_some,Option.getD_some,↓reduceIte,reduceCtorEq,Nat.reduceEqDiff,Nat.reduceAdd,Nat.reduceLeDiff,Nat.reduceLT,go_sem]
      refine⟨by omega,fun c=>bk fun h=> ?_,fun c=>Ad (k+1) ⟨hkl,fun i hi=> ?_⟩ (by omega) ?_⟩
      ·have h3:(b.2 k).baisa<=v-u:=h.2.2
       omega
      ·by_cases e:i=k
       ·subst e
        exact hok.2 ⟨rfl,rfl,by show(b.2 i).baisa<=v-u;omega⟩
       exact hk2 i (by omega)
      simp only[↓reduceIte,reduceCtorEq,Nat.reduceEqDiff,Nat.reduceLT,go_sem]
      exact BH (by omega)
   have fk:((k:Int)<(b.1:Int))=False:=eq_false (by omega)
   obtain rfl:k=b.1:=by omega
   rw[yes ⟨by omega,⟨hj2,hE⟩,hk2⟩]
   simp only[fk,hun,Option.isSome_some,Option.getD_some,↓reduceIte,reduceCtorEq,Nat.reduceEqDiff,Nat.reduceAdd,go_sem]
  rw[no (fun h=>hE h.2.1.2)]
  simp only[fj,hE,w1,↓reduceIte,reduceCtorEq,Nat.reduceEqDiff,Nat.reduceAdd,Nat.reduceSub,Nat.reducePow,go_sem]
 rw[GN,if_neg h0]
 simp only[A8,a39,J6,h0,w1,w2,↓reduceIte,reduceCtorEq,Nat.reduceEqDiff,Nat.reduceAdd,Nat.reduceSub,Nat.reduceLeDiff,Nat.reducePow,go_sem]
end Go.Proofs.YtlieoghhkioflaaGreat
namespace Go.Proofs.YtlieoghhkioflaaGreat
open Go Go.RowKit
variable{G:Nat->Option (Nat×(Nat->Ae))}
def Eu:At:=Ct TI TI (fun _ _=>True) fun a b=> .agg (Tu.L ⟨a,b⟩)
theorem Js:Ah Tryz.prog G 43 Eu:=by
 refine Ky (S:=[]) (I:=[]) mixed .nil .nil Tryz.func43 c43 fun a b _ _=> ?_
 simp only[A8,a43,↓reduceIte,reduceCtorEq,Nat.reduceEqDiff,Nat.reduceAdd,Nat.reduceLeDiff,go_sem]
def Jp:At:=DY TI TI TI (fun _ _ _=>True) fun w a b=> .agg (Ho.L ⟨w,⟨a,b⟩⟩)
theorem TA:Ah Tryz.prog G 61 Jp:=by
 refine ZX (S:=[(43,Eu)]) (I:=[]) mixed (.cons Js .nil) .nil Tryz.func61 c61 fun w a b _ _=> ?_
 simp only[A8,a61,Eu,↓reduceIte,reduceCtorEq,Nat.reduceEqDiff,Nat.reduceAdd,Nat.reduceLeDiff,go_sem]
def L0:At:=Iz (.agg (Ro.L CJ))
theorem Vd:Ah Tryz.prog G 40 L0:=by
 refine Yu (S:=[(61,Jp)]) (I:=[]) mixed (.cons TA .nil) .nil Tryz.func40 c40 ?_
 simp only[A8,a40,Jp,↓reduceIte,reduceCtorEq,Nat.reduceEqDiff,Nat.reduceAdd,Nat.reduceLeDiff,Nat.reduceLT,go_sem]
 refine⟨rfl,rfl,fun i hi j hj=> ?_⟩
 rcases IJ hi with rfl|rfl|rfl<;>rcases IJ hj with rfl|rfl|rfl<;>exact rfl
theorem Ah.soft{P:Program}{id:FuncId}{e:TypeId}{pre:List Ae->Prop}{res res':List Ae->Ae}(h:Ah P G id ⟨pre,res,some e⟩)(hr:∀vs,pre vs->∃k n c c',res vs= .view k n c/\res' vs= .view k n c'/\∀i,i<n->∀j,j<k->AC (c' i j) (c i j)):Ah P G id ⟨pre,res',some e⟩:=by
 refine⟨h.ent,fun A w vs cs hG hr' hp=> ?_⟩
 obtain⟨k,n,c,c',e1,e2,e3⟩:=hr vs hp
 refine(h.run A w vs cs hG hr' hp).mono fun ex w'=> ?_
 simp only[e1,e2]
 rintro⟨x,q1,q2,q3,q4⟩
 refine⟨x,q1,BB _ _ _ ((Di ..).mpr ⟨rfl,e3⟩) q2,q3,fun e' he=> ?_⟩
 obtain⟨k',n',c'',r1,r2,r3,xs,r4,r5⟩:=q4 e' he
 cases r1
 exact⟨k,n,c',rfl,r2,r3,xs,r4,fun i hi j hj=>by
  obtain⟨y,y1,y2,y3⟩:=r5 i hi j hj
  exact⟨y,y1,y2,BB _ _ _ (e3 i hi j hj) y3⟩⟩
def deK(i j:Nat):Ae:=if j=8 then .nils else(BI i).c j
def W9:At:=(An AZ (fun _=>True) fun _=> .view 9 3 deK).mine 56
theorem AbJ{i:Nat}(h:i<9):i=0\/i=1\/i=2\/i=3\/i=4\/i=5\/i=6\/i=7\/i=8:=by omega
theorem W5:Ah Tryz.prog G 41 W9:=by
 refine foT mixed (S:=[(43,Eu)]) (I:=[]) (X:=[]) (N:=[]) (C:=[]) (.cons Js .nil) .nil .nil Tryz.func41 c41 fun a _ hw=> ?_
 simp only[a41,Eu,AZ,↓reduceIte,reduceCtorEq,Nat.reduceEqDiff,Nat.reduceAdd,Nat.reduceLeDiff,Nat.reduceLT,go_sem]
 refine⟨fun i hi j hj=> ?_,_,9,3,_,.inl ⟨rfl,rfl⟩,_,rfl,fun i hi j hj=> ?_⟩
 ·rcases IJ hi with rfl|rfl|rfl<;>rcases AbJ hj with rfl|rfl|rfl|rfl|rfl|rfl|rfl|rfl|rfl<;>exact B7 _
 rcases IJ hi with rfl|rfl|rfl<;>rcases AbJ hj with rfl|rfl|rfl|rfl|rfl|rfl|rfl|rfl|rfl<;>exact⟨rfl,rfl⟩
def L6:At:=(An AZ (fun _=>True) fun _=> .view 9 3 fun i j=>(BI i).c j).mine 56
theorem V3:Ah Tryz.prog G 41 L6:=Ah.soft W5 fun vs _=>⟨9,3,_,_,rfl,rfl,fun i hi j hj=>by
 unfold deK
 split
 ·rename_i h;subst h
  rcases IJ hi with rfl|rfl|rfl<;>exact(MF ..).mpr rfl
 exact B7 _⟩
def Lk:At:=Iz (.agg (De.L (BI 3)))
theorem V1:Ah Tryz.prog G 42 Lk:=by
 refine Yu (S:=[]) (I:=[]) mixed .nil .nil Tryz.func42 c42 ?_
 simp only[A8,a42,↓reduceIte,reduceCtorEq,Nat.reduceEqDiff,Nat.reduceAdd,Nat.reduceLeDiff,Nat.reduceLT,go_sem]
 refine⟨rfl,rfl,rfl,rfl,rfl,rfl,rfl,rfl,rfl,fun i hi j hj=> ?_⟩
 rcases(show i=0\/i=1 from by have hi:i<2:=hi;omega)with rfl|rfl<;>rcases(show j=0\/j=1 by omega)with rfl|rfl<;>exact rfl
def OW:At:=Iz (.view 4 4 fun i j=>(Kn i).c j)
theorem XH:Ah Tryz.prog G 44 OW:=by
 refine Yu (S:=[(43,Eu)]) (I:=[]) mixed (.cons Js .nil) .nil Tryz.func44 c44 ?_
 simp only[A8,a44,Eu,↓reduceIte,Nat.reduceEqDiff,Nat.reduceAdd,Nat.reduceLeDiff,Nat.reduceLT,go_sem]
 intro i hi j hj
 rcases HZ hi with rfl|rfl|rfl|rfl<;>rcases HZ hj with rfl|rfl|rfl|rfl<;>exact rfl
def J5:At:=Iz (.view 3 3 fun i j=>(pcC i).c j)
theorem SV:Ah Tryz.prog G 45 J5:=by
 refine Yu (S:=[(43,Eu)]) (I:=[]) mixed (.cons Js .nil) .nil Tryz.func45 c45 ?_
 simp only[A8,a45,Eu,↓reduceIte,Nat.reduceEqDiff,Nat.reduceAdd,Nat.reduceLeDiff,Nat.reduceLT,go_sem]
 intro i hi j hj
 rcases IJ hi with rfl|rfl|rfl<;>rcases IJ hj with rfl|rfl|rfl<;>exact rfl
noncomputable def owQ(r:Ro)(l:FL)(d:Int):Ae:=if BS r l=0 then(if 0<=d/\d<=100000 then .tup (.cons (JN (Ak (Kl r l d).ow.2 (BQ r))) (.cons (JN (Ak (fun m=>FT (Kl r l d) m d) (BQ r))) (.cons (.int .i64 0) .nil)))else .tup (.cons .nils (.cons .nils (.cons (.int .i64 2) .nil))))else .tup (.cons .nils (.cons .nils (.cons (.int .i64 (BS r l)) .nil)))
noncomputable def QP:At:=An (Ag KS (Ag (DD GD) (Ag TI AZ))) (fun _=>True) fun a=>owQ a.1 a.2.1 a.2.2.1
noncomputable def shQ(r:Ro)(l:FL)(d:Int):Ae:=if BS r l=0 then(if 0<=d/\d<=100000 then .tup (.cons (Vn (Cq (CU (Kl r l d).ow.2 (BQ r)) 10000)) (.cons (.int .i64 0) .nil))else .tup (.cons .nils (.cons (.int .i64 2) .nil)))else .tup (.cons .nils (.cons (.int .i64 (BS r l)) .nil))
noncomputable def YB:At:=An (Ag KS (Ag (DD GD) (Ag TI AZ))) (fun _=>True) fun a=>shQ a.1 a.2.1 a.2.2.1
noncomputable def ZZ(r:Ro)(l:FL):Ae:=if BS r l=0 then .tup (.cons (.view 9 (Dj l).1 fun i j=>((Dj l).2 i).c j) (.cons (Zf r (Dj l)) (.cons (.int .i64 0) .nil)))else .tup (.cons .nils (.cons .nils (.cons (.int .i64 (BS r l)) .nil)))
noncomputable def Rv:At:=An (Ag KS (Ag (DD GD) AZ)) (fun _=>True) fun a=>ZZ a.1 a.2.1
noncomputable def Zz(i:Nat):Hs:=(Cq (CU (AE CJ BI 4).ow.2 1440) 10000).2 i
noncomputable def Acp(i:Nat):De:=(Dj (3,BI)).2 i
noncomputable def QS(i:Nat):Int:=BE (AE CJ (Dj (3,BI)).2 i) ((Dj (3,BI)).2 i)
theorem Zr:Ex (3,BI):=⟨by decide,fun _ _=>rfl⟩
theorem Abp:BQ CJ=1440:=rfl
theorem PR{f:Nat->Int}{N a n:Nat}{L:Nat->Ho}(hN:N=a)(h:RS f a n L):∃g:Nat->Ho,JN (Ak f N)= .view 3 n (fun i j=>(g i).c j)/\∀i,i<n->g i=L i:=by
 subst hN
 exact⟨(Ak f N).2,by rw[JN,h.1],h.2⟩
theorem Acg:∃g h:Nat->Ho,owQ CJ (3,BI) 20= .tup (.cons (.view 3 4 fun i j=>(g i).c j) (.cons (.view 3 5 fun i j=>(h i).c j) (.cons (.int .i64 0) .nil)))/\(∀i,i<4->g i=Zw i)/\∀i,i<5->h i=ZP i:=by
 have hu:B3 (Dj (3,BI)) 20=3:=Ti Zr (Nat.le_refl _) (fun i hi=>by rcases IJ hi with rfl|rfl|rfl<;>decide) fun i h1 h2=>by have h2:i<3:=h2;omega
 have hb:Kl CJ (3,BI) 20=AE CJ BI 3:=by unfold Kl;rw[hu,Oy Zr 3 (Nat.le_refl _)]
 obtain⟨g,g1,g2⟩:=PR Abp Aaz
 obtain⟨h,h1,h2⟩:=PR Abp Aaw
 refine⟨g,h,?_,g2,h2⟩
 unfold owQ
 rw[if_pos (O8 Zr),if_pos ⟨by decide,by decide⟩,hb,g1,h1]
theorem Abs(i:Nat)(hi:i<4):Zz i=Y8 i:=Pn.2 i hi
theorem AbQ{f:Nat->De}(h0:f 0=BI 0)(h1:f 1=BI 1)(h2:f 2=BI 2)(h3:f 3=BI 3):shQ CJ (4,f) 40= .tup (.cons (.view 2 4 fun i j=>(Zz i).c j) (.cons (.int .i64 0) .nil)):=by
 have he:Ex (4,f):=⟨Nat.le_refl 4,fun i hi=>by rcases HZ hi with rfl|rfl|rfl|rfl<;>assumption⟩
 have hu:B3 (Dj (4,f)) 40=4:=Ti he (Nat.le_refl _) (fun i hi=>by rcases HZ hi with rfl|rfl|rfl|rfl<;>decide) fun i h1 h2=>by have h2:i<4:=h2;omega
 have hb:Kl CJ (4,f) 40=AE CJ BI 4:=by unfold Kl;rw[hu,Oy he 4 (Nat.le_refl _)]
 unfold shQ
 rw[if_pos (O8 he),if_pos ⟨by decide,by decide⟩,hb,show BQ CJ=1440 from rfl]
 unfold Vn Zz
 rw[Pn.1]
theorem Aca:ZZ CJ (3,BI)= .tup (.cons (.view 9 3 fun i j=>(Acp i).c j) (.cons (.view 1 3 fun i _=> .int .u8 (QS i)) (.cons (.int .i64 0) .nil))):=by
 unfold ZZ Zf
 rw[if_pos (O8 Zr),(PD Zr).1];rfl
theorem AbB:QS 0=0/\QS 1=2/\QS 2=0:=by
 have h (i:Nat) (hi:i<3):QS i=BE (AE CJ BI i) (BI i):=by
  unfold QS
  rw[Oy Zr i (by show i<=3;omega),(PD Zr).2 i hi]
 exact⟨(h 0 (by decide)).trans v0C,(h 1 (by decide)).trans v1C,(h 2 (by decide)).trans v2C⟩
noncomputable def pcV(i:Nat):Pc:=(Md OM (4,Kn)).2 i
noncomputable def AcK(i:Nat):Int:=RQ [1,2] i
theorem AbY:VQ OM (4,Kn)= .tup (.cons (.view 1 2 fun i _=> .int .i64 (AcK i)) (.cons (.int .i64 65) (.cons (.int .i64 0) .nil))):=by
 unfold VQ
 rw[if_pos YC,show OM.til=100 from rfl,AcQ];rfl
theorem Ac3:Vr OM (4,Kn)= .tup (.cons (.view 3 3 fun i j=>(pcV i).c j) (.cons (.int .i64 0) .nil)):=by
 unfold Vr
 rw[if_pos YC,AaN.1];rfl
theorem Hj{α:Type}{a b:Nat×(Nat->α)}(h:ML a b=false)(h1:a.1=b.1)(h2:∀i,i<a.1->a.2 i=b.2 i):False:=by
 have:=h.symm.trans (As ⟨h1,h2⟩);cases this
def Mj:At:=Iz (.bool true)
set_option maxHeartbeats 8000000 in
theorem Ys:Ah Tryz.prog G 25 Mj:=by
 refine Yu (S:=[(43,Eu),(61,Jp),(40,L0),(41,L6),(42,Lk),(44,OW),(45,J5),(16,QP),(29,Rv),(18,YB),(36,YF),(38,ZM),(39,Mc),(22,LA),(23,L7),(62,OJ),(63,Mh)]) (I:=[]) mixed
  (.cons Js (.cons TA (.cons Vd (.cons V3 (.cons V1 (.cons XH (.cons SV (.cons (show Ah Tryz.prog G _ QP from Mv) (.cons (show Ah Tryz.prog G _ Rv from Tl) (.cons (show Ah Tryz.prog G _ YB from S6) (.cons Q6 (.cons Ug (.cons Sc (.cons U0 (.cons WE (.cons Y7 (.cons Vs .nil))))))))))))))))) .nil Tryz.func25 c25 ?_
 obtain⟨ownV,useV,n1,ownVC,useVC⟩:=Acg
 have n2:=Aca
 have n4:=AbY
 have n5:=Ac3
 have n6:=Ac6 (p:=(3,pcC)) rfl fun _ _=>rfl
 have t0:(⟨0,100⟩:Tu)=OM:=rfl
 have g1:(CJ.holds.1<=9223372036854775807)=True:=eq_true (by decide)
 have g2:((BI 3).heirs.1<=9223372036854775807)=True:=eq_true (by decide)
 simp(config:={maxSteps:=1000000}) only[A8,a25,Eu,Jp,L0,L6,Lk,OW,J5,QP,Rv,YB,YF,ZM,Mc,LA,L7,OJ,Mh,An,At.mine,Ag,AZ,n1,n2,n4,n5,n6,t0,g1,g2,AbQ,↓reduceIte,reduceCtorEq,Nat.reduceEqDiff,Nat.reduceAdd,Nat.reduceSub,Nat.reduceLeDiff,Nat.reduceMul,Nat.reduceLT,Nat.reducePow,go_sem]
 have lt5:∀{i:Nat},i<5->i=0\/i=1\/i=2\/i=3\/i=4:=fun h=>by omega
 have lt2:∀{i:Nat},i<2->i=0\/i=1:=fun h=>by omega
 refine⟨fun i hi=> ?_,fun i hi=> ?_,fun q1=>⟨fun i hi=> ?_,fun q2=>⟨fun i hi=> ?_,fun q3=>⟨fun i hi=> ?_,fun q4=>⟨fun i hi=> ?_,fun q5 q6=>Hj q6 rfl fun i hi=>AaN.2 i hi,fun q5=>Hj q5 rfl fun i hi=> ?_⟩,fun q4=>Hj q4 rfl fun i hi=>(Abs i hi).trans ?_⟩,fun q3=> ?_⟩,fun q2=>Hj q2 rfl fun i hi=>(useVC i hi).trans ?_⟩,fun q1=>Hj q1 rfl fun i hi=>(ownVC i hi).trans ?_⟩
 ·rcases HZ hi with rfl|rfl|rfl|rfl
  ·exact of_eq_true (De.w_c (BI 0))
  ·exact of_eq_true (De.w_c (BI 1))
  ·exact of_eq_true (De.w_c (BI 2))
  exact of_eq_true (De.w_c (BI 3))
 ·rcases HZ hi with rfl|rfl|rfl|rfl<;>exact⟨rfl,rfl,rfl⟩
 ·rcases lt5 hi with rfl|rfl|rfl|rfl|rfl<;>exact⟨rfl,rfl,rfl⟩
 ·obtain⟨v0,v1,v2⟩:=AbB
  rcases IJ hi with rfl|rfl|rfl
  ·rw[v0];decide
  ·rw[v1];decide
  rw[v2];decide
 ·rcases HZ hi with rfl|rfl|rfl|rfl<;>exact⟨rfl,rfl⟩
 ·rcases lt2 hi with rfl|rfl<;>exact rfl
 ·rcases lt2 hi with rfl|rfl<;>exact rfl
 ·have hi:i<4:=hi
  rcases HZ hi with rfl|rfl|rfl|rfl<;>exact rfl
 ·obtain⟨v0,v1,v2⟩:=AbB
  refine(@decide_eq_false_iff_not _ (Classical.propDecidable _)).1 q3 ⟨rfl,fun i hi=> ?_⟩
  rcases IJ hi with rfl|rfl|rfl<;>assumption
 ·have hi:i<5:=hi
  rcases lt5 hi with rfl|rfl|rfl|rfl|rfl<;>exact rfl
 have hi:i<4:=hi
 rcases HZ hi with rfl|rfl|rfl|rfl<;>exact rfl
end Go.Proofs.YtlieoghhkioflaaGreat
namespace Go.Proofs.YtlieoghhkioflaaGreat
open Go Go.RowKit
variable{N:Nat}{f:Nat->Int}
variable{G:Nat->Option (Nat×(Nat->Ae))}
noncomputable def To(r:Ro)(l:FL):Bool:=A4 (Jk r l=false/\BS r l=0)
noncomputable def LK:At:=Ct KS (DD GD) (fun _ _=>True) fun r l=> .bool (To r l)
theorem XT:Ah Tryz.prog G 26 LK:=by
 refine Ky (S:=[(14,Gv),(64,Hu),(65,IY)]) (I:=[]) mixed (.cons Wr (.cons VL (.cons Wp .nil))) .nil Tryz.func26 c26 fun r l _ hw=> ?_
 simp only[Nat.reduceSub,Nat.reducePow,go_sem]at hw
 obtain⟨w1,w2⟩:=hw
 have hb:To r l=A4 (Jk r l=false/\BS r l=0):=rfl
 by_cases hg:Jk r l=true
 ·rw[hg,Am (fun h=>by cases h.1)]at hb
  simp only[A8,a26,Gv,hg,hb,w1,w2,↓reduceIte,reduceCtorEq,Nat.reduceEqDiff,Nat.reduceAdd,Nat.reduceSub,Nat.reducePow,go_sem]
 have hg:Jk r l=false:=by simpa using hg
 by_cases hr:D9 r
 ·have hp:(1<=r.days/\r.days<=16)=True:=eq_true ⟨hr.1,hr.2.1⟩
  have ha:BS r l=CY r l:=by rw[BS,As hr,if_pos rfl]
  rw[hg,ha]at hb
  by_cases hd:CY r l=0
  ·rw[As ⟨rfl,hd⟩]at hb
   simp only[A8,a26,Gv,Hu,IY,hg,As hr,hp,hd,hb,w1,w2,↓reduceIte,reduceCtorEq,Nat.reduceEqDiff,Nat.reduceAdd,Nat.reduceSub,Nat.reducePow,go_sem]
  rw[Am (fun h=>hd h.2)]at hb
  simp only[A8,a26,Gv,Hu,IY,hg,As hr,hp,hd,hb,w1,w2,↓reduceIte,reduceCtorEq,Nat.reduceEqDiff,Nat.reduceAdd,Nat.reduceSub,Nat.reducePow,go_sem]
 have ha:BS r l=40:=by rw[BS,Am hr];rfl
 rw[hg,ha,Am (fun h=>absurd h.2 (by decide))]at hb
 simp only[A8,a26,Gv,Hu,hg,Am hr,hb,w1,w2,↓reduceIte,reduceCtorEq,Nat.reduceEqDiff,Nat.reduceAdd,Nat.reduceSub,Int.reduceBEq,Nat.reducePow,go_sem]
theorem AbC{r:Ro}{l:FL}(h:To r l=true):TR r l/\BS r l=0:=by
 obtain⟨h1,h2⟩:=AN.1 h
 have h3:=B4.1 h1
 refine⟨⟨by omega,fun i hi=> ?_⟩,h2⟩
 rcases Nat.lt_or_ge 12 (l.2 i).heirs.1 with q|q
 ·exact absurd (.inr (.inr ⟨i,hi,q⟩)) h3
 exact q
noncomputable def ofI(l:RO)(m:Int):Nat:=Cn (fun i=>(l.2 i).turn.fro<=m/\m<(l.2 i).turn.til) l.1
noncomputable def ZL(l:RO)(m:Int):Int:=if ofI l m<l.1 then(l.2 (ofI l m)).who else-1
noncomputable def VV:At:=Ct (DD KW) TI (fun _ _=>True) fun l m=> .int .i64 (ZL l m)
theorem Ack:Ah Tryz.prog G 33 VV:=by
 refine Ky (S:=[]) (I:=[]) mixed .nil .nil Tryz.func33 c33 fun l m _ hw=> ?_
 simp only[Nat.reduceSub,Nat.reducePow,go_sem]at hw
 simp only[A8,a33,hw,↓reduceIte,reduceCtorEq,Nat.reduceSub,Int.reduceNeg,Nat.reducePow,go_sem]
 refine AK (ι:=Nat) (fun j=>j<=l.1/\∀i,i<j->¬((l.2 i).turn.fro<=m/\m<(l.2 i).turn.til)) (fun j=>l.1-j) [1,7,8] (fun j=>[(9,.int .i64 j)]) (fun _=>[]) 0 ⟨Nat.zero_le _,fun i h=>by omega⟩ (by simp only[↓reduceIte,reduceCtorEq,Nat.reduceEqDiff,go_sem]) fun j hj=> ?_
 obtain⟨hj1,hj2⟩:=hj
 by_cases hjl:j<l.1
 ·have fj:((j:Int)<(l.1:Int))=True:=eq_true (by omega)
  by_cases hm:(l.2 j).turn.fro<=m/\m<(l.2 j).turn.til
  ·have e:ofI l m=j:=CN hjl hm hj2
   have e2:ZL l m=(l.2 j).who:=by rw[ZL,e,if_pos hjl]
   have g1:(m≥(l.2 j).turn.fro)=True:=eq_true hm.1
   have g2:(m<(l.2 j).turn.til)=True:=eq_true hm.2
   simp only[fj,g1,g2,e2,↓reduceIte,reduceCtorEq,Nat.reduceEqDiff,Nat.reduceAdd,Nat.reduceLeDiff,Int.reduceNeg,go_sem]
   omega
  by_cases g:m≥(l.2 j).turn.fro
  ·have g1:(m≥(l.2 j).turn.fro)=True:=eq_true g
   have g2:(m<(l.2 j).turn.til)=False:=eq_false fun h=>hm ⟨g,h⟩
   simp only[fj,g1,g2,↓reduceIte,reduceCtorEq,Nat.reduceEqDiff,Nat.reduceAdd,Nat.reduceLeDiff,Int.reduceNeg,go_sem]
   refine⟨by omega,Ad (j+1) ⟨hjl,fun i hi=> ?_⟩ (by omega) ?_⟩
   ·by_cases q:i=j
    ·subst q;exact hm
    exact hj2 i (by omega)
   simp only[↓reduceIte,reduceCtorEq,Nat.reduceEqDiff,go_sem]
   exact BH (by omega)
  have g1:(m≥(l.2 j).turn.fro)=False:=eq_false g
  simp only[fj,g1,↓reduceIte,reduceCtorEq,Nat.reduceEqDiff,Nat.reduceAdd,Nat.reduceLeDiff,Int.reduceNeg,go_sem]
  refine⟨by omega,Ad (j+1) ⟨hjl,fun i hi=> ?_⟩ (by omega) ?_⟩
  ·by_cases q:i=j
   ·subst q;exact hm
   exact hj2 i (by omega)
  simp only[↓reduceIte,reduceCtorEq,Nat.reduceEqDiff,go_sem]
  exact BH (by omega)
 have fj:((j:Int)<(l.1:Int))=False:=eq_false (by omega)
 obtain rfl:j=l.1:=by omega
 have e:ofI l m=l.1:=Gr hj2
 have e2:ZL l m= -1:=by rw[ZL,e,if_neg (Nat.lt_irrefl _)]
 simp only[fj,e2,↓reduceIte,reduceCtorEq,Nat.reduceEqDiff,Int.reduceNeg,go_sem]
def J7(l:RO)(i:Nat):Int:=if i=0 then 0 else(l.2 (i-1)).turn.til
def ZY(l:RO)(i:Nat):Prop:=0<=(l.2 i).who/\(l.2 i).who<=9999/\(l.2 i).turn.fro=J7 l i/\J7 l i<(l.2 i).turn.til/\(0<i->(l.2 i).who≠(l.2 (i-1)).who)
def WhP(r:Ro)(l:RO):Prop:=(∀i,i<l.1->ZY l i)/\J7 l l.1=r.days*1440
structure IM(f:Nat->Int)(N:Nat):Prop where
 own:∀i,i<(Ak f N).1->ZY (Ak f N) i
 fin:J7 (Ak f N) (Ak f N).1=N
 at_:∀i,i<(Ak f N).1->∀m:Nat,((Ak f N).2 i).turn.fro<=m->(m:Int)<((Ak f N).2 i).turn.til->f m=((Ak f N).2 i).who
theorem Aac(f:Nat->Int):∀N,(∀m,m<N->0<=f m/\f m<=9999)->IM f N
 |0,_=>⟨fun i hi=>absurd hi (Nat.not_lt_zero _),rfl,fun i hi=>absurd hi (Nat.not_lt_zero _)⟩
 |N+1,h=>by
  obtain⟨h1,h2,h3⟩:=Aac f N fun m hm=>h m (by omega)
  have hf:=h N (by omega)
  by_cases hc:0<(Ak f N).1/\((Ak f N).2 ((Ak f N).1-1)).who=f N
  ·obtain⟨j1,j2,j3⟩:=MN (m:=(N:Int)) hc.1 hc.2
   have e:Ak f (N+1)=Hf (Ak f N) N (f N):=rfl
   rw[<-e]at j1 j2 j3
   have hl:=h1 ((Ak f N).1-1) (by omega)
   have hN:((Ak f N).2 ((Ak f N).1-1)).turn.til=N:=by rw[<-h2,J7,if_neg (by omega)]
   have hw:∀i,i<(Ak f N).1->J7 (Ak f (N+1)) i=J7 (Ak f N) i:=fun i hi=>by
    unfold J7
    by_cases e0:i=0
    ·rw[if_pos e0,if_pos e0]
    rw[if_neg e0,if_neg e0,j2 (i-1) (by omega)]
   refine⟨fun i hi=> ?_,?_,fun i hi m m1 m2=> ?_⟩
   ·rw[j1]at hi
    by_cases e1:i=(Ak f N).1-1
    ·subst e1
     obtain⟨l1,l2,l3,l4,l5⟩:=hl
     unfold ZY
     rw[hw _ hi,j3]
     refine⟨hf.1,hf.2,l3,by show _<(N:Int)+1;omega,fun h0=> ?_⟩
     rw[j2 _ (by omega)]
     show f N≠_
     rw[<-hc.2];exact l5 h0
    obtain⟨l1,l2,l3,l4,l5⟩:=h1 i hi
    unfold ZY
    rw[hw _ hi,j2 i (by omega)]
    exact⟨l1,l2,l3,l4,fun h0=>by rw[j2 (i-1) (by omega)];exact l5 h0⟩
   ·rw[J7,j1,if_neg (by omega),j3];show(N:Int)+1=_;omega
   rw[j1]at hi
   by_cases e1:i=(Ak f N).1-1
   ·subst e1
    rw[j3]at m1 m2⊢
    by_cases e2:m=N
    ·subst e2;rfl
    have m2:(m:Int)<(N:Int)+1:=m2
    rw[h3 _ hi m m1 (by omega)];exact hc.2
   rw[j2 i (by omega)]at m1 m2⊢
   exact h3 i hi m m1 m2
  obtain⟨j1,j2,j3⟩:=NM (m:=(N:Int)) hc
  have e:Ak f (N+1)=Hf (Ak f N) N (f N):=rfl
  rw[<-e]at j1 j2 j3
  have hw:∀i,i<(Ak f N).1+1->J7 (Ak f (N+1)) i=J7 (Ak f N) i:=fun i hi=>by
   unfold J7
   by_cases e0:i=0
   ·rw[if_pos e0,if_pos e0]
   rw[if_neg e0,if_neg e0,j2 (i-1) (by omega)]
  refine⟨fun i hi=> ?_,?_,fun i hi m m1 m2=> ?_⟩
  ·rw[j1]at hi
   by_cases e1:i=(Ak f N).1
   ·subst e1
    unfold ZY
    rw[hw _ hi,j3,h2]
    refine⟨hf.1,hf.2,rfl,by show(N:Int)<(N:Int)+1;omega,fun h0=> ?_⟩
    rw[j2 _ (by omega)]
    show f N≠_
    exact fun q=>hc ⟨h0,q.symm⟩
   obtain⟨l1,l2,l3,l4,l5⟩:=h1 i (by omega)
   unfold ZY
   rw[hw _ (by omega),j2 i (by omega)]
   exact⟨l1,l2,l3,l4,fun h0=>by rw[j2 (i-1) (by omega)];exact l5 h0⟩
  ·rw[J7,j1,if_neg (by omega),Nat.add_sub_cancel,j3];show(N:Int)+1=_;omega
  rw[j1]at hi
  by_cases e1:i=(Ak f N).1
  ·subst e1
   rw[j3]at m1 m2⊢
   have m1:(N:Int)<=m:=m1
   have m2:(m:Int)<(N:Int)+1:=m2
   obtain rfl:m=N:=by omega
   rfl
  rw[j2 i (by omega)]at m1 m2⊢
  exact h3 i (by omega) m m1 m2
theorem IM.le(h:IM f N):∀d i,i+d=(Ak f N).1->J7 (Ak f N) i<=N
 |0,i,e=>by rw[<-h.fin,<-e];exact Int.le_refl _
 |d+1,i,e=>by
  have:=IM.le h d (i+1) (by omega)
  have h1:=(h.own i (by omega)).2.2.2.1
  have h2:J7 (Ak f N) (i+1)=((Ak f N).2 i).turn.til:=by unfold J7;rw[if_neg (by omega),Nat.add_sub_cancel]
  omega
theorem IM.lo(h:IM f N):∀i,i<=(Ak f N).1->0<=J7 (Ak f N) i
 |0,_=>Int.le_refl _
 |i+1,hi=>by
  have:=IM.lo h i (by omega)
  have h1:=(h.own i (by omega)).2.2.2.1
  have h2:J7 (Ak f N) (i+1)=((Ak f N).2 i).turn.til:=by unfold J7;rw[if_neg (by omega),Nat.add_sub_cancel]
  omega
theorem IM.of(h:IM f N){m:Nat}(hm:m<N):ZL (Ak f N) m=f m:=by
 have hex:∃i,i<(Ak f N).1/\((Ak f N).2 i).turn.fro<=m/\(m:Int)<((Ak f N).2 i).turn.til:=by
  have key:∀k,k<=(Ak f N).1->(m:Int)<J7 (Ak f N) k->∃i,i<k/\((Ak f N).2 i).turn.fro<=m/\(m:Int)<((Ak f N).2 i).turn.til:=fun k=>by
   induction k with
   |zero=>intro _ q;have q:(m:Int)<0:=q;omega
   |succ k ih=>
    intro hk q
    have h2:J7 (Ak f N) (k+1)=((Ak f N).2 k).turn.til:=by unfold J7;rw[if_neg (by omega),Nat.add_sub_cancel]
    rw[h2]at q
    by_cases c:(m:Int)<J7 (Ak f N) k
    ·obtain⟨i,i1,i2⟩:=ih (by omega) c
     exact⟨i,by omega,i2⟩
    exact⟨k,by omega,by have:=(h.own k (by omega)).2.2.1;omega,q⟩
  exact key _ (Nat.le_refl _) (by rw[h.fin];omega)
 rcases Bi (fun i=>((Ak f N).2 i).turn.fro<=(m:Int)/\(m:Int)<((Ak f N).2 i).turn.til) (Ak f N).1 with⟨g1,g2,_⟩|⟨_,g2⟩
 ·have g1:ofI (Ak f N) m<(Ak f N).1:=g1
  rw[ZL,if_pos g1]
  exact(h.at_ _ g1 m g2.1 g2.2).symm
 obtain⟨i,i1,i2⟩:=hex
 exact absurd i2 (g2 i i1)
theorem IM.whole(h:IM f N){r:Ro}(hr:(N:Int)=r.days*1440):WhP r (Ak f N):=⟨h.own,by rw[h.fin];exact hr⟩
end Go.Proofs.YtlieoghhkioflaaGreat
namespace Go.Proofs.YtlieoghhkioflaaGreat
variable{l:FL}{r:Ro}
theorem Wl(l:FL)(d:Int):B3 l d<=l.1:=by
 have:=Bi (fun i=>d<(l.2 i).day) l.1
 unfold B3;omega
theorem Xh(ha:BS r l=0):∀i,i<(Dj l).1->C3 r ((Dj l).2 i):=fun i hi=>by
 obtain⟨k,k1,_,k2⟩:=Fp l i hi
 rw[k2];exact(Dr ha).2.2.1 k k1
theorem Vu(ha:BS r l=0)(d:Int):Qw (Kl r l d) (BQ r):=Jg (Dr ha).1 _ fun i hi=>Xh ha i (by have:=Wl (Dj l) d;omega)
theorem WP(ha:BS r l=0)(d:Int):IM (Kl r l d).ow.2 (BQ r):=Aac _ _ (Vu ha d)
end Go.Proofs.YtlieoghhkioflaaGreat
namespace Go.Proofs.YtlieoghhkioflaaGreat
open Go Go.RowKit
variable{G:Nat->Option (Nat×(Nat->Ae))}
theorem Y4{r:Ro}{l:FL}{d:Int}(ha:BS r l=0)(h0:0<=d)(h1:d<=100000):owQ r l d= .tup (.cons (JN (Ak (Kl r l d).ow.2 (BQ r))) (.cons (JN (Ak (fun m=>FT (Kl r l d) m d) (BQ r))) (.cons (.int .i64 0) .nil))):=by
 rw[owQ,if_pos ha,if_pos ⟨h0,h1⟩]
theorem VI{r:Ro}(hr:D9 r):BQ r<=23040/\(BQ r:Int)=r.days*1440:=by
 have:=hr.1;have:=hr.2.1;unfold BQ;omega
end Go.Proofs.YtlieoghhkioflaaGreat
