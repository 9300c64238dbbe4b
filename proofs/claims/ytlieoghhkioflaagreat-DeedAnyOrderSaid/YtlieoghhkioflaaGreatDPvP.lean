/- Prices that prove a sum: the program's Proves. No condition. -/
import Derived.Test.YtlieoghhkioflaaGreatDat
import Derived.Test.YtlieoghhkioflaaGreatDPrv
import Derived.Test.YtlieoghhkioflaaGreatDsp
import Derived.Test.YtlieoghhkioflaaGreatDre
import Derived.Test.YtlieoghhkioflaaGreatDSrt
import Derived.Test.YtlieoghhkioflaaGreatLDez
import Derived.Test.YtlieoghhkioflaaGreatACode1
import Derived.Test.YtlieoghhkioflaaGreatDpy
import Derived.Test.YtlieoghhkioflaaGreatSoT
set_option linter.unusedSimpArgs false
set_option linter.unusedVariables false
set_option maxRecDepth 100000
namespace Go.Proofs.YtlieoghhkioflaaGreat
open Go Go.RowKit
variable{G:Nat->Option (Nat×(Nat->Ad))}
theorem TO:Ah Tryz.prog G 39 LH:=by
 refine fn3 (S:=[(73,Jz)]) (I:=[(82,a82),(83,a83)]) mixed (.cons JY .nil) (.cons Tryz.func82 c82 (.cons Tryz.func83 c83 .nil)) Tryz.func39 c39 fun t b p _ hw=> ?_
 simp only[Nat.reduceSub,Nat.reducePow,go_sem]at hw
 obtain⟨w1,w2⟩:=hw
 by_cases h0:FS t b=0
 ·have hoff:Pk t/\∀i,i<b.1->L6 t (b.2 i):=by
   unfold FS at h0
   split at h0
   ·rename_i ht
    refine⟨AM.1 ht,?_⟩
    split at h0
    ·exact absurd h0 (by decide)
    split at h0
    ·rename_i hb;exact AM.1 hb
    exact absurd h0 (by decide)
   exact absurd h0 (by decide)
  obtain⟨ht,hb⟩:=hoff
  have hR:GO t b p=if(Og t b p).2=true then((Og t b p).1,0)else(0,44):=by rw[GO,if_pos h0]
  have no:¬SZ t b p->GO t b p=(0,44):=fun h=>by rw[hR,Og,Am h];rfl
  have yes:SZ t b p->GO t b p=(pre (pA p) p.1,0):=fun h=>by rw[hR,Og,At h];rfl
  have bad:¬SZ t b p->(0=(GO t b p).1/\44=(GO t b p).2):=fun h=>by rw[no h];exact⟨rfl,rfl⟩
  by_cases hm:60<p.1
  ·have fm:((p.1:Int)>60)=True:=eq_true (by omega)
   rw[no (fun h=>by have:=h.1;omega)]
   simp only[A3,a39,Jz,h0,fm,w1,w2,↓reduceIte,reduceCtorEq,Nat.reduceEqDiff,Nat.reduceAdd,Nat.reduceSub,Nat.reducePow,go_sem]
  have fm:((p.1:Int)>60)=False:=eq_false (by omega)
  simp only[A3,a39,a82,a83,Jz,h0,fm,w1,w2,↓reduceIte,reduceCtorEq,Nat.reduceEqDiff,Nat.reduceAdd,Nat.reduceSub,Nat.reduceLeDiff,Nat.reducePow,go_sem]
  refine AS (ι:=Nat) (fun j=>j<=p.1/\∀i,i<j->JI t p i) (fun j=>p.1-j) [1,3,9,10,37,38] (fun j=>[(39,.int .i64 j)]) (fun j=>[(1,.mp .i64 (fun k=>(Gj (eA t p) (pA p) j k).isSome) (fun k=> .int .i64 ((Gj (eA t p) (pA p) j k).getD 0))),(2,.cells (.cons (.int .i64 t.fro) (.cons (.int .i64 (eA t p j)) .nil)))]) 0 ⟨by omega,fun i h=>by omega⟩ (by
   simp only[↓reduceIte,reduceCtorEq,Nat.reduceEqDiff,Nat.reduceLT,go_sem]
   refine⟨rfl,fun k=> ?_⟩
   by_cases hk:k=t.fro
   ·subst hk
    have e:Gj (eA t p) (pA p) 0 t.fro=some 0:=if_pos rfl
    rw[e];simp
   have e:Gj (eA t p) (pA p) 0 k=none:=if_neg hk
   rw[e];simp[hk]) fun j hj=> ?_
  obtain⟨hj1,hj2⟩:=hj
  have hun:=Oo (eA t p) (pA p) j
  by_cases hjl:j<p.1
  ·have fj:((j:Int)<(p.1:Int))=True:=eq_true (by omega)
   have hpre:=OT t p j hj2
   simp only[fj,hun,Option.isSome_some,Option.getD_some,↓reduceIte,reduceCtorEq,Nat.reduceEqDiff,Nat.reduceAdd,Nat.reduceLeDiff,go_sem]
   have hsuc:eA t p (j+1)=(p.2 j).turn.til:=rfl
   have bj:¬JI t p j->(0=(GO t b p).1/\44=(GO t b p).2):=fun h=>bad fun h2=>h (h2.2.1.1 j hjl)
   refine⟨by omega,fun c1=>bj fun h=>c1 h.1,fun c1=>⟨fun c2=>⟨fun c3=>⟨fun c4=>bj fun h=>c4 h.2.2.1,fun c4=>⟨fun c5=>⟨fun c6=>bj fun h=>c6 h.2.2.2.2,fun c6=> ?_⟩,fun c5=>bj fun h=>c5 h.2.2.2.1⟩⟩,fun c3=>bj fun h=>c3 (by rw[c1];exact h.2.1)⟩,fun c2=>absurd (by omega) c2⟩⟩
   refine Af (j+1) ⟨hjl,fun i hi=> ?_⟩ (by omega) ?_
   ·by_cases e:i=j
    ·subst e;exact⟨c1,by omega,c4,c5,c6⟩
    exact hj2 i (by omega)
   have hw':IntKind.i64.wrap (pre (pA p) j+(p.2 j).baisa)=pre (pA p) j+(p.2 j).baisa:=AU (by omega) (by omega)
   simp only[hw',↓reduceIte,reduceCtorEq,Nat.reduceEqDiff,Nat.reduceLT,go_sem]
   refine⟨Cs (by omega),hsuc.symm,fun k=> ?_⟩
   by_cases hk:k=(p.2 j).turn.til
   ·have e:Gj (eA t p) (pA p) (j+1) k=some (pre (pA p) j+(p.2 j).baisa):=by
     rw[Gj,if_pos (by rw[hsuc];exact hk),hun];rfl
    rw[e,if_pos hk,if_pos hk]
    exact⟨rfl,fun _=>rfl⟩
   have e:Gj (eA t p) (pA p) (j+1) k=Gj (eA t p) (pA p) j k:=by
    rw[Gj,if_neg (by rw[hsuc];exact hk)]
   rw[e,if_neg hk,if_neg hk]
   exact⟨rfl,fun _=>rfl⟩
  have fj:((j:Int)<(p.1:Int))=False:=eq_false (by omega)
  obtain rfl:j=p.1:=by omega
  by_cases hE:eA t p p.1=t.til
  ·rw[hE]at hun
   simp only[fj,hE,w1,↓reduceIte,reduceCtorEq,Nat.reduceEqDiff,Nat.reduceAdd,Nat.reduceSub,Nat.reducePow,go_sem]
   have hris:∀j,j<p.1->eA t p j<eA t p (j+1):=fun j hj=>(hj2 j hj).2.1
   have hany:∀k,k<b.1->(RG t p (b.2 k)↔((Gj (eA t p) (pA p) p.1 (b.2 k).turn.fro).isSome=true/\(Gj (eA t p) (pA p) p.1 (b.2 k).turn.til).isSome=true/\(b.2 k).baisa<=(Gj (eA t p) (pA p) p.1 (b.2 k).turn.til).getD 0-(Gj (eA t p) (pA p) p.1 (b.2 k).turn.fro).getD 0)):=fun k hk=>by
    obtain⟨_,⟨b1,b2,b3⟩,_⟩:=hb k hk
    rw[UF (eA t p) (pA p) p.1 hris _ _ _ b1 b2 (by rw[hE];exact b3)]
    unfold RG
    rw[J9,J9]
    have q1:(∃i,i<p.1/\R6 p (b.2 k).turn.fro i=true)↔∃i,i<p.1/\eA t p i=(b.2 k).turn.fro:=by
     constructor
     ·rintro⟨i,hi,h⟩;exact⟨i,hi,by rw[<-(hj2 i hi).1];exact of_decide_eq_true h⟩
     rintro⟨i,hi,h⟩;exact⟨i,hi,decide_eq_true (by rw[(hj2 i hi).1];exact h)⟩
    have q2:(∃i,i<p.1/\RA p (b.2 k).turn.til i=true)↔∃i,i<p.1/\eA t p (i+1)=(b.2 k).turn.til:=by
     constructor
     ·rintro⟨i,hi,h⟩;exact⟨i,hi,of_decide_eq_true h⟩
     rintro⟨i,hi,h⟩;exact⟨i,hi,decide_eq_true h⟩
    rw[q1,q2]
   have hbnd:∀x,0<=(Gj (eA t p) (pA p) p.1 x).getD 0/\(Gj (eA t p) (pA p) p.1 x).getD 0<=720000000000:=fun x=>by
    by_cases hx:∃a,a<=p.1/\x=eA t p a
    ·obtain⟨a,ha,rfl⟩:=hx
     rw[HC _ _ p.1 hris p.1 (Nat.le_refl _) a ha]
     have:=OT t p a (fun i hi=>hj2 i (by omega))
     show 0<=pre (pA p) a/\pre (pA p) a<=720000000000
     omega
    rw[HH _ _ x p.1 fun a ha e=>hx ⟨a,ha,e⟩];exact⟨by decide,by decide⟩
   refine AS (ι:=Nat) (fun k=>k<=b.1/\∀i,i<k->RG t p (b.2 i)) (fun k=>b.1-k) [3,9,84,85] (fun k=>[(86,.int .i64 k)]) (fun _=>[]) 0 ⟨by omega,fun i h=>by omega⟩ (by simp only[↓reduceIte,reduceCtorEq,Nat.reduceEqDiff,Nat.reduceLT,go_sem];try trace_state) fun k hk=> ?_
   obtain⟨hk1,hk2⟩:=hk
   by_cases hkl:k<b.1
   ·have fk:((k:Int)<(b.1:Int))=True:=eq_true (by omega)
    have bk:¬RG t p (b.2 k)->(0=(GO t b p).1/\44=(GO t b p).2):=fun h=>bad fun h2=>h (h2.2.2 k hkl)
    rw[hany k hkl]at bk
    have hok:=hany k hkl
    have u1:=hbnd (b.2 k).turn.fro
    have u2:=hbnd (b.2 k).turn.til
    generalize hU:Gj (eA t p) (pA p) p.1 (b.2 k).turn.fro=U at*
    generalize hV:Gj (eA t p) (pA p) p.1 (b.2 k).turn.til=V at*
    cases U with
    |none=>
     simp only[fk,hU,hV,Option.isSome_none,Option.getD_none,↓reduceIte,reduceCtorEq,Nat.reduceEqDiff,Nat.reduceAdd,Nat.reduceLeDiff,Nat.reduceLT,go_sem]
     have q:=bk fun h=>by cases h.1
     cases V<;>simp only[Option.isSome_some,Option.isSome_none,Option.getD_some,Option.getD_none,go_sem]<;>exact⟨by omega,q⟩
    |some u=>cases V with
     |none=>
      simp only[fk,hU,hV,Option.isSome_some,Option.isSome_none,Option.getD_some,Option.getD_none,↓reduceIte,reduceCtorEq,Nat.reduceEqDiff,Nat.reduceAdd,Nat.reduceLeDiff,Nat.reduceLT,go_sem]
      exact⟨by omega,bk fun h=>by cases h.2.1⟩
     |some v=>
      have u1':0<=u/\u<=720000000000:=u1
      have u2':0<=v/\v<=720000000000:=u2
      have hw':IntKind.i64.wrap (v-u)=v-u:=AU (by omega) (by omega)
      simp only[fk,hU,hV,hw',Option.isSome_some,Option.getD_some,↓reduceIte,reduceCtorEq,Nat.reduceEqDiff,Nat.reduceAdd,Nat.reduceLeDiff,Nat.reduceLT,go_sem]
      refine⟨by omega,fun c=>bk fun h=> ?_,fun c=>Af (k+1) ⟨hkl,fun i hi=> ?_⟩ (by omega) ?_⟩
      ·have h3:(b.2 k).baisa<=v-u:=h.2.2
       omega
      ·by_cases e:i=k
       ·subst e
        exact hok.2 ⟨rfl,rfl,by show(b.2 i).baisa<=v-u;omega⟩
       exact hk2 i (by omega)
      simp only[↓reduceIte,reduceCtorEq,Nat.reduceEqDiff,Nat.reduceLT,go_sem]
      exact Cs (by omega)
   have fk:((k:Int)<(b.1:Int))=False:=eq_false (by omega)
   obtain rfl:k=b.1:=by omega
   rw[yes ⟨by omega,⟨hj2,hE⟩,hk2⟩]
   simp only[fk,hun,Option.isSome_some,Option.getD_some,↓reduceIte,reduceCtorEq,Nat.reduceEqDiff,Nat.reduceAdd,go_sem]
  rw[no (fun h=>hE h.2.1.2)]
  simp only[fj,hE,w1,↓reduceIte,reduceCtorEq,Nat.reduceEqDiff,Nat.reduceAdd,Nat.reduceSub,Nat.reducePow,go_sem]
 rw[GO,if_neg h0]
 simp only[A3,a39,Jz,h0,w1,w2,↓reduceIte,reduceCtorEq,Nat.reduceEqDiff,Nat.reduceAdd,Nat.reduceSub,Nat.reduceLeDiff,Nat.reducePow,go_sem]
end Go.Proofs.YtlieoghhkioflaaGreat
namespace Go.Proofs.YtlieoghhkioflaaGreat
open Go Go.RowKit
variable{G:Nat->Option (Nat×(Nat->Ad))}
def El:As:=Cq TI TI (fun _ _=>True) fun a b=> .agg (Tu.L ⟨a,b⟩)
theorem JD:Ah Tryz.prog G 43 El:=by
 refine Kq (S:=[]) (I:=[]) mixed .nil .nil Tryz.func43 c43 fun a b _ _=> ?_
 simp only[A3,a43,↓reduceIte,reduceCtorEq,Nat.reduceEqDiff,Nat.reduceAdd,Nat.reduceLeDiff,go_sem]
def JS:As:=D5 TI TI TI (fun _ _ _=>True) fun w a b=> .agg (Ho.L ⟨w,⟨a,b⟩⟩)
theorem S5:Ah Tryz.prog G 61 JS:=by
 refine fn3 (S:=[(43,El)]) (I:=[]) mixed (.cons JD .nil) .nil Tryz.func61 c61 fun w a b _ _=> ?_
 simp only[A3,a61,El,↓reduceIte,reduceCtorEq,Nat.reduceEqDiff,Nat.reduceAdd,Nat.reduceLeDiff,go_sem]
def LF:As:=IA (.agg (Ro.L CN))
theorem Vt:Ah Tryz.prog G 40 LF:=by
 refine ZV (S:=[(61,JS)]) (I:=[]) mixed (.cons S5 .nil) .nil Tryz.func40 c40 ?_
 simp only[A3,a40,JS,↓reduceIte,reduceCtorEq,Nat.reduceEqDiff,Nat.reduceAdd,Nat.reduceLeDiff,Nat.reduceLT,go_sem]
 refine⟨rfl,rfl,fun i hi j hj=> ?_⟩
 rcases IR hi with rfl|rfl|rfl<;>rcases IR hj with rfl|rfl|rfl<;>exact rfl
theorem Ah.soft{P:Program}{id:FuncId}{e:TypeId}{pre:List Ad->Prop}{res res':List Ad->Ad}(h:Ah P G id ⟨pre,res,some e⟩)(hr:∀vs,pre vs->∃k n c c',res vs= .view k n c/\res' vs= .view k n c'/\∀i,i<n->∀j,j<k->AB (c' i j) (c i j)):Ah P G id ⟨pre,res',some e⟩:=by
 refine⟨h.ent,fun A w vs cs hG hr' hp=> ?_⟩
 obtain⟨k,n,c,c',e1,e2,e3⟩:=hr vs hp
 refine(h.run A w vs cs hG hr' hp).mono fun ex w'=> ?_
 simp only[e1,e2]
 rintro⟨x,q1,q2,q3,q4⟩
 refine⟨x,q1,BE _ _ _ ((Dk ..).mpr ⟨rfl,e3⟩) q2,q3,fun e' he=> ?_⟩
 obtain⟨k',n',c'',r1,r2,r3,xs,r4,r5⟩:=q4 e' he
 cases r1
 exact⟨k,n,c',rfl,r2,r3,xs,r4,fun i hi j hj=>by
  obtain⟨y,y1,y2,y3⟩:=r5 i hi j hj
  exact⟨y,y1,y2,BE _ _ _ (e3 i hi j hj) y3⟩⟩
def deK(i j:Nat):Ad:=if j=8 then .nils else(BM i).c j
def Wc:As:=(Ak AZ (fun _=>True) fun _=> .view 9 3 deK).mine 56
theorem AaR{i:Nat}(h:i<9):i=0\/i=1\/i=2\/i=3\/i=4\/i=5\/i=6\/i=7\/i=8:=by omega
theorem WW:Ah Tryz.prog G 41 Wc:=by
 refine foT mixed (S:=[(43,El)]) (I:=[]) (X:=[]) (N:=[]) (C:=[]) (.cons JD .nil) .nil .nil Tryz.func41 c41 fun a _ hw=> ?_
 simp only[a41,El,AZ,↓reduceIte,reduceCtorEq,Nat.reduceEqDiff,Nat.reduceAdd,Nat.reduceLeDiff,Nat.reduceLT,go_sem]
 refine⟨fun i hi j hj=> ?_,_,9,3,_,.inl ⟨rfl,rfl⟩,_,rfl,fun i hi j hj=> ?_⟩
 ·rcases IR hi with rfl|rfl|rfl<;>rcases AaR hj with rfl|rfl|rfl|rfl|rfl|rfl|rfl|rfl|rfl<;>exact BP _
 rcases IR hi with rfl|rfl|rfl<;>rcases AaR hj with rfl|rfl|rfl|rfl|rfl|rfl|rfl|rfl|rfl<;>exact⟨rfl,rfl⟩
def Mj:As:=(Ak AZ (fun _=>True) fun _=> .view 9 3 fun i j=>(BM i).c j).mine 56
theorem Wa:Ah Tryz.prog G 41 Mj:=Ah.soft WW fun vs _=>⟨9,3,_,_,rfl,rfl,fun i hi j hj=>by
 unfold deK
 split
 ·rename_i h;subst h
  rcases IR hi with rfl|rfl|rfl<;>exact(MZ ..).mpr rfl
 exact BP _⟩
def Lo:As:=IA (.agg (De.L (BM 3)))
theorem V4:Ah Tryz.prog G 42 Lo:=by
 refine ZV (S:=[]) (I:=[]) mixed .nil .nil Tryz.func42 c42 ?_
 simp only[A3,a42,↓reduceIte,reduceCtorEq,Nat.reduceEqDiff,Nat.reduceAdd,Nat.reduceLeDiff,Nat.reduceLT,go_sem]
 refine⟨rfl,rfl,rfl,rfl,rfl,rfl,rfl,rfl,rfl,fun i hi j hj=> ?_⟩
 rcases(show i=0\/i=1 from by have hi:i<2:=hi;omega)with rfl|rfl<;>rcases(show j=0\/j=1 by omega)with rfl|rfl<;>exact rfl
def N8:As:=IA (.view 4 4 fun i j=>(Ko i).c j)
theorem Ys:Ah Tryz.prog G 44 N8:=by
 refine ZV (S:=[(43,El)]) (I:=[]) mixed (.cons JD .nil) .nil Tryz.func44 c44 ?_
 simp only[A3,a44,El,↓reduceIte,Nat.reduceEqDiff,Nat.reduceAdd,Nat.reduceLeDiff,Nat.reduceLT,go_sem]
 intro i hi j hj
 rcases H8 hi with rfl|rfl|rfl|rfl<;>rcases H8 hj with rfl|rfl|rfl|rfl<;>exact rfl
def Km:As:=IA (.view 3 3 fun i j=>(pcC i).c j)
theorem Sq:Ah Tryz.prog G 45 Km:=by
 refine ZV (S:=[(43,El)]) (I:=[]) mixed (.cons JD .nil) .nil Tryz.func45 c45 ?_
 simp only[A3,a45,El,↓reduceIte,Nat.reduceEqDiff,Nat.reduceAdd,Nat.reduceLeDiff,Nat.reduceLT,go_sem]
 intro i hi j hj
 rcases IR hi with rfl|rfl|rfl<;>rcases IR hj with rfl|rfl|rfl<;>exact rfl
noncomputable def Vb(r:Ro)(l:E3)(d:Int):Ad:=if BV r l=0 then(if 0<=d/\d<=100000 then .tup (.cons (Kj (Ap (ID r l d).ow.2 (Ca r))) (.cons (Kj (Ap (fun m=>FU (ID r l d) m d) (Ca r))) (.cons (.int .i64 0) .nil)))else .tup (.cons .nils (.cons .nils (.cons (.int .i64 2) .nil))))else .tup (.cons .nils (.cons .nils (.cons (.int .i64 (BV r l)) .nil)))
noncomputable def O3:As:=Ak (Ag KC (Ag (Dv Gq) (Ag TI AZ))) (fun _=>True) fun a=>Vb a.1 a.2.1 a.2.2.1
noncomputable def shQ(r:Ro)(l:E3)(d:Int):Ad:=if BV r l=0 then(if 0<=d/\d<=100000 then .tup (.cons (WL (Cr (C2 (ID r l d).ow.2 (Ca r)) 10000)) (.cons (.int .i64 0) .nil))else .tup (.cons .nils (.cons (.int .i64 2) .nil)))else .tup (.cons .nils (.cons (.int .i64 (BV r l)) .nil))
noncomputable def Yb:As:=Ak (Ag KC (Ag (Dv Gq) (Ag TI AZ))) (fun _=>True) fun a=>shQ a.1 a.2.1 a.2.2.1
noncomputable def reQ(r:Ro)(l:E3):Ad:=if BV r l=0 then .tup (.cons (.view 9 (BI l).1 fun i j=>((BI l).2 i).c j) (.cons (Yg r (BI l)) (.cons (.int .i64 0) .nil)))else .tup (.cons .nils (.cons .nils (.cons (.int .i64 (BV r l)) .nil)))
noncomputable def OI:As:=Ak (Ag KC (Ag (Dv Gq) AZ)) (fun _=>True) fun a=>reQ a.1 a.2.1
noncomputable def Yq(i:Nat):Hs:=(Cr (C2 (AI CN BM 4).ow.2 1440) 10000).2 i
noncomputable def AcU(i:Nat):De:=(BI (3,BM)).2 i
noncomputable def Rx(i:Nat):Int:=Bh (AI CN (BI (3,BM)).2 i) ((BI (3,BM)).2 i)
theorem Yh:Ex (3,BM):=⟨by decide,fun _ _=>rfl⟩
theorem AaB:Ca CN=1440:=rfl
theorem PJ{f:Nat->Int}{N a n:Nat}{L:Nat->Ho}(hN:N=a)(h:RS f a n L):∃g:Nat->Ho,Kj (Ap f N)= .view 3 n (fun i j=>(g i).c j)/\∀i,i<n->g i=L i:=by
 subst hN
 exact⟨(Ap f N).2,by rw[Kj,h.1],h.2⟩
theorem AcQ:∃g h:Nat->Ho,Vb CN (3,BM) 20= .tup (.cons (.view 3 4 fun i j=>(g i).c j) (.cons (.view 3 5 fun i j=>(h i).c j) (.cons (.int .i64 0) .nil)))/\(∀i,i<4->g i=YN i)/\∀i,i<5->h i=Za i:=by
 have hu:BW (BI (3,BM)) 20=3:=Sw Yh (Nat.le_refl _) (fun i hi=>by rcases IR hi with rfl|rfl|rfl<;>decide) fun i h1 h2=>by have h2:i<3:=h2;omega
 have hb:ID CN (3,BM) 20=AI CN BM 3:=by unfold ID;rw[hu,Od Yh 3 (Nat.le_refl _)]
 obtain⟨g,g1,g2⟩:=PJ AaB Aao
 obtain⟨h,h1,h2⟩:=PJ AaB Aav
 refine⟨g,h,?_,g2,h2⟩
 unfold Vb
 rw[if_pos (Po Yh),if_pos ⟨by decide,by decide⟩,hb,g1,h1]
theorem Aam(i:Nat)(hi:i<4):Yq i=Zg i:=PK.2 i hi
theorem Ada{f:Nat->De}(h0:f 0=BM 0)(h1:f 1=BM 1)(h2:f 2=BM 2)(h3:f 3=BM 3):shQ CN (4,f) 40= .tup (.cons (.view 2 4 fun i j=>(Yq i).c j) (.cons (.int .i64 0) .nil)):=by
 have he:Ex (4,f):=⟨Nat.le_refl 4,fun i hi=>by rcases H8 hi with rfl|rfl|rfl|rfl<;>assumption⟩
 have hu:BW (BI (4,f)) 40=4:=Sw he (Nat.le_refl _) (fun i hi=>by rcases H8 hi with rfl|rfl|rfl|rfl<;>decide) fun i h1 h2=>by have h2:i<4:=h2;omega
 have hb:ID CN (4,f) 40=AI CN BM 4:=by unfold ID;rw[hu,Od he 4 (Nat.le_refl _)]
 unfold shQ
 rw[if_pos (Po he),if_pos ⟨by decide,by decide⟩,hb,show Ca CN=1440 from rfl]
 unfold WL Yq
 rw[PK.1]
theorem AcF:reQ CN (3,BM)= .tup (.cons (.view 9 3 fun i j=>(AcU i).c j) (.cons (.view 1 3 fun i _=> .int .u8 (Rx i)) (.cons (.int .i64 0) .nil))):=by
 unfold reQ Yg
 rw[if_pos (Po Yh),(P8 Yh).1];rfl
theorem Aa9:Rx 0=0/\Rx 1=2/\Rx 2=0:=by
 have h (i:Nat) (hi:i<3):Rx i=Bh (AI CN BM i) (BM i):=by
  unfold Rx
  rw[Od Yh i (by show i<=3;omega),(P8 Yh).2 i hi]
 exact⟨(h 0 (by decide)).trans v0C,(h 1 (by decide)).trans v1C,(h 2 (by decide)).trans v2C⟩
noncomputable def pcV(i:Nat):Pc:=(Lp O2 (4,Ko)).2 i
noncomputable def AcC(i:Nat):Int:=Sg [1,2] i
theorem AcO:WX O2 (4,Ko)= .tup (.cons (.view 1 2 fun i _=> .int .i64 (AcC i)) (.cons (.int .i64 65) (.cons (.int .i64 0) .nil))):=by
 unfold WX
 rw[if_pos X0,show O2.til=100 from rfl,Acd];rfl
theorem Ack:V7 O2 (4,Ko)= .tup (.cons (.view 3 3 fun i j=>(pcV i).c j) (.cons (.int .i64 0) .nil)):=by
 unfold V7
 rw[if_pos X0,Aa5.1];rfl
theorem HA{α:Type}{a b:Nat×(Nat->α)}(h:KH a b=false)(h1:a.1=b.1)(h2:∀i,i<a.1->a.2 i=b.2 i):False:=by
 have:=h.symm.trans (At ⟨h1,h2⟩);cases this
def LW:As:=IA (.bool true)
set_option maxHeartbeats 8000000 in
theorem XY:Ah Tryz.prog G 25 LW:=by
 refine ZV (S:=[(43,El),(61,JS),(40,LF),(41,Mj),(42,Lo),(44,N8),(45,Km),(16,O3),(29,OI),(18,Yb),(36,ZL),(38,Zn),(39,LH),(22,Gn),(23,Ml),(62,Ow),(63,LX)]) (I:=[]) mixed
  (.cons JD (.cons S5 (.cons Vt (.cons Wa (.cons V4 (.cons Ys (.cons Sq (.cons (show Ah Tryz.prog G _ O3 from MD) (.cons (show Ah Tryz.prog G _ OI from Ss) (.cons (show Ah Tryz.prog G _ Yb from Uj) (.cons QM (.cons SO (.cons TO (.cons PG (.cons Vr (.cons YS (.cons V0 .nil))))))))))))))))) .nil Tryz.func25 c25 ?_
 obtain⟨ownV,useV,n1,ownVC,useVC⟩:=AcQ
 have n2:=AcF
 have n4:=AcO
 have n5:=Ack
 have n6:=AcW (p:=(3,pcC)) rfl fun _ _=>rfl
 have t0:(⟨0,100⟩:Tu)=O2:=rfl
 have g1:(CN.holds.1<=9223372036854775807)=True:=eq_true (by decide)
 have g2:((BM 3).heirs.1<=9223372036854775807)=True:=eq_true (by decide)
 simp(config:={maxSteps:=1000000}) only[A3,a25,El,JS,LF,Mj,Lo,N8,Km,O3,OI,Yb,ZL,Zn,LH,Gn,Ml,Ow,LX,Ak,As.mine,Ag,AZ,n1,n2,n4,n5,n6,t0,g1,g2,Ada,↓reduceIte,reduceCtorEq,Nat.reduceEqDiff,Nat.reduceAdd,Nat.reduceSub,Nat.reduceLeDiff,Nat.reduceMul,Nat.reduceLT,Nat.reducePow,go_sem]
 have lt5:∀{i:Nat},i<5->i=0\/i=1\/i=2\/i=3\/i=4:=fun h=>by omega
 have lt2:∀{i:Nat},i<2->i=0\/i=1:=fun h=>by omega
 refine⟨fun i hi=> ?_,fun i hi=> ?_,fun q1=>⟨fun i hi=> ?_,fun q2=>⟨fun i hi=> ?_,fun q3=>⟨fun i hi=> ?_,fun q4=>⟨fun i hi=> ?_,fun q5 q6=>HA q6 rfl fun i hi=>Aa5.2 i hi,fun q5=>HA q5 rfl fun i hi=> ?_⟩,fun q4=>HA q4 rfl fun i hi=>(Aam i hi).trans ?_⟩,fun q3=> ?_⟩,fun q2=>HA q2 rfl fun i hi=>(useVC i hi).trans ?_⟩,fun q1=>HA q1 rfl fun i hi=>(ownVC i hi).trans ?_⟩
 ·rcases H8 hi with rfl|rfl|rfl|rfl
  ·exact of_eq_true (De.w_c (BM 0))
  ·exact of_eq_true (De.w_c (BM 1))
  ·exact of_eq_true (De.w_c (BM 2))
  exact of_eq_true (De.w_c (BM 3))
 ·rcases H8 hi with rfl|rfl|rfl|rfl<;>exact⟨rfl,rfl,rfl⟩
 ·rcases lt5 hi with rfl|rfl|rfl|rfl|rfl<;>exact⟨rfl,rfl,rfl⟩
 ·obtain⟨v0,v1,v2⟩:=Aa9
  rcases IR hi with rfl|rfl|rfl
  ·rw[v0];decide
  ·rw[v1];decide
  rw[v2];decide
 ·rcases H8 hi with rfl|rfl|rfl|rfl<;>exact⟨rfl,rfl⟩
 ·rcases lt2 hi with rfl|rfl<;>exact rfl
 ·rcases lt2 hi with rfl|rfl<;>exact rfl
 ·have hi:i<4:=hi
  rcases H8 hi with rfl|rfl|rfl|rfl<;>exact rfl
 ·obtain⟨v0,v1,v2⟩:=Aa9
  refine(@decide_eq_false_iff_not _ (Classical.propDecidable _)).1 q3 ⟨rfl,fun i hi=> ?_⟩
  rcases IR hi with rfl|rfl|rfl<;>assumption
 ·have hi:i<5:=hi
  rcases lt5 hi with rfl|rfl|rfl|rfl|rfl<;>exact rfl
 have hi:i<4:=hi
 rcases H8 hi with rfl|rfl|rfl|rfl<;>exact rfl
end Go.Proofs.YtlieoghhkioflaaGreat
namespace Go.Proofs.YtlieoghhkioflaaGreat
open Go Go.RowKit
variable{N:Nat}{f:Nat->Int}
variable{G:Nat->Option (Nat×(Nat->Ad))}
noncomputable def TB(r:Ro)(l:E3):Bool:=A8 (JT r l=false/\BV r l=0)
noncomputable def LT:As:=Cq KC (Dv Gq) (fun _ _=>True) fun r l=> .bool (TB r l)
theorem X3:Ah Tryz.prog G 26 LT:=by
 refine Kq (S:=[(14,GA),(64,HO),(65,I3)]) (I:=[]) mixed (.cons VU (.cons VW (.cons Xt .nil))) .nil Tryz.func26 c26 fun r l _ hw=> ?_
 simp only[Nat.reduceSub,Nat.reducePow,go_sem]at hw
 obtain⟨w1,w2⟩:=hw
 have hb:TB r l=A8 (JT r l=false/\BV r l=0):=rfl
 by_cases hg:JT r l=true
 ·rw[hg,Am (fun h=>by cases h.1)]at hb
  simp only[A3,a26,GA,hg,hb,w1,w2,↓reduceIte,reduceCtorEq,Nat.reduceEqDiff,Nat.reduceAdd,Nat.reduceSub,Nat.reducePow,go_sem]
 have hg:JT r l=false:=by simpa using hg
 by_cases hr:EL r
 ·have hp:(1<=r.days/\r.days<=16)=True:=eq_true ⟨hr.1,hr.2.1⟩
  have ha:BV r l=C0 r l:=by rw[BV,At hr,if_pos rfl]
  rw[hg,ha]at hb
  by_cases hd:C0 r l=0
  ·rw[At ⟨rfl,hd⟩]at hb
   simp only[A3,a26,GA,HO,I3,hg,At hr,hp,hd,hb,w1,w2,↓reduceIte,reduceCtorEq,Nat.reduceEqDiff,Nat.reduceAdd,Nat.reduceSub,Nat.reducePow,go_sem]
  rw[Am (fun h=>hd h.2)]at hb
  simp only[A3,a26,GA,HO,I3,hg,At hr,hp,hd,hb,w1,w2,↓reduceIte,reduceCtorEq,Nat.reduceEqDiff,Nat.reduceAdd,Nat.reduceSub,Nat.reducePow,go_sem]
 have ha:BV r l=40:=by rw[BV,Am hr];rfl
 rw[hg,ha,Am (fun h=>absurd h.2 (by decide))]at hb
 simp only[A3,a26,GA,HO,hg,Am hr,hb,w1,w2,↓reduceIte,reduceCtorEq,Nat.reduceEqDiff,Nat.reduceAdd,Nat.reduceSub,Int.reduceBEq,Nat.reducePow,go_sem]
theorem Aap{r:Ro}{l:E3}(h:TB r l=true):Uh r l/\BV r l=0:=by
 obtain⟨h1,h2⟩:=AM.1 h
 have h3:=BB.1 h1
 refine⟨⟨by omega,fun i hi=> ?_⟩,h2⟩
 rcases Nat.lt_or_ge 12 (l.2 i).heirs.1 with q|q
 ·exact absurd (.inr (.inr ⟨i,hi,q⟩)) h3
 exact q
noncomputable def ofI(l:Sa)(m:Int):Nat:=Co (fun i=>(l.2 i).turn.fro<=m/\m<(l.2 i).turn.til) l.1
noncomputable def ofF(l:Sa)(m:Int):Int:=if ofI l m<l.1 then(l.2 (ofI l m)).who else-1
def QB(l:Sa)(i:Nat):Int:=if i=0 then 0 else(l.2 (i-1)).turn.til
def Wh1(l:Sa)(i:Nat):Prop:=0<=(l.2 i).who/\(l.2 i).who<=9999/\(l.2 i).turn.fro=QB l i/\QB l i<(l.2 i).turn.til/\(0<i->(l.2 i).who≠(l.2 (i-1)).who)
def WhP(r:Ro)(l:Sa):Prop:=(∀i,i<l.1->Wh1 l i)/\QB l l.1=r.days*1440
structure Kx(f:Nat->Int)(N:Nat):Prop where
 own:∀i,i<(Ap f N).1->Wh1 (Ap f N) i
 fin:QB (Ap f N) (Ap f N).1=N
 at_:∀i,i<(Ap f N).1->∀m:Nat,((Ap f N).2 i).turn.fro<=m->(m:Int)<((Ap f N).2 i).turn.til->f m=((Ap f N).2 i).who
theorem Kx.le(h:Kx f N):∀d i,i+d=(Ap f N).1->QB (Ap f N) i<=N
 |0,i,e=>by rw[<-h.fin,<-e];exact Int.le_refl _
 |d+1,i,e=>by
  have:=Kx.le h d (i+1) (by omega)
  have h1:=(h.own i (by omega)).2.2.2.1
  have h2:QB (Ap f N) (i+1)=((Ap f N).2 i).turn.til:=by unfold QB;rw[if_neg (by omega),Nat.add_sub_cancel]
  omega
theorem Kx.lo(h:Kx f N):∀i,i<=(Ap f N).1->0<=QB (Ap f N) i
 |0,_=>Int.le_refl _
 |i+1,hi=>by
  have:=Kx.lo h i (by omega)
  have h1:=(h.own i (by omega)).2.2.2.1
  have h2:QB (Ap f N) (i+1)=((Ap f N).2 i).turn.til:=by unfold QB;rw[if_neg (by omega),Nat.add_sub_cancel]
  omega
theorem Kx.of(h:Kx f N){m:Nat}(hm:m<N):ofF (Ap f N) m=f m:=by
 have hex:∃i,i<(Ap f N).1/\((Ap f N).2 i).turn.fro<=m/\(m:Int)<((Ap f N).2 i).turn.til:=by
  have key:∀k,k<=(Ap f N).1->(m:Int)<QB (Ap f N) k->∃i,i<k/\((Ap f N).2 i).turn.fro<=m/\(m:Int)<((Ap f N).2 i).turn.til:=fun k=>by
   induction k with
   |zero=>intro _ q;have q:(m:Int)<0:=q;omega
   |succ k ih=>
    intro hk q
    have h2:QB (Ap f N) (k+1)=((Ap f N).2 k).turn.til:=by unfold QB;rw[if_neg (by omega),Nat.add_sub_cancel]
    rw[h2]at q
    by_cases c:(m:Int)<QB (Ap f N) k
    ·obtain⟨i,i1,i2⟩:=ih (by omega) c
     exact⟨i,by omega,i2⟩
    exact⟨k,by omega,by have:=(h.own k (by omega)).2.2.1;omega,q⟩
  exact key _ (Nat.le_refl _) (by rw[h.fin];omega)
 rcases Bi (fun i=>((Ap f N).2 i).turn.fro<=(m:Int)/\(m:Int)<((Ap f N).2 i).turn.til) (Ap f N).1 with⟨g1,g2,_⟩|⟨_,g2⟩
 ·have g1:ofI (Ap f N) m<(Ap f N).1:=g1
  rw[ofF,if_pos g1]
  exact(h.at_ _ g1 m g2.1 g2.2).symm
 obtain⟨i,i1,i2⟩:=hex
 exact absurd i2 (g2 i i1)
theorem Kx.whole(h:Kx f N){r:Ro}(hr:(N:Int)=r.days*1440):WhP r (Ap f N):=⟨h.own,by rw[h.fin];exact hr⟩
end Go.Proofs.YtlieoghhkioflaaGreat
namespace Go.Proofs.YtlieoghhkioflaaGreat
theorem Qq(l:E3)(d:Int):BW l d<=l.1:=by
 have:=Bi (fun i=>d<(l.2 i).day) l.1
 unfold BW;omega
theorem AbC{r:Ro}{l:E3}(ha:BV r l=0):∀i,i<(BI l).1->Dn r ((BI l).2 i):=fun i hi=>by
 obtain⟨k,k1,_,k2⟩:=DE l i hi
 rw[k2];exact(CI ha).2.2.1 k k1
end Go.Proofs.YtlieoghhkioflaaGreat
namespace Go.Proofs.YtlieoghhkioflaaGreat
open Go Go.RowKit
variable{G:Nat->Option (Nat×(Nat->Ad))}
theorem X7{r:Ro}{l:E3}{d:Int}(ha:BV r l=0)(h0:0<=d)(h1:d<=100000):Vb r l d= .tup (.cons (Kj (Ap (ID r l d).ow.2 (Ca r))) (.cons (Kj (Ap (fun m=>FU (ID r l d) m d) (Ca r))) (.cons (.int .i64 0) .nil))):=by
 rw[Vb,if_pos ha,if_pos ⟨h0,h1⟩]
theorem VO{r:Ro}(hr:EL r):Ca r<=23040/\(Ca r:Int)=r.days*1440:=by
 have:=hr.1;have:=hr.2.1;unfold Ca;omega
end Go.Proofs.YtlieoghhkioflaaGreat
namespace Go.Proofs.YtlieoghhkioflaaGreat
variable{Y:E3}{d:Int}{r:Ro}
theorem Lk{x:De}:∀{L:List De},(∀y∈L,¬Bm x y)->GD x L=L++[x]
 |[],_=>rfl
 |y::L,h=>by
  rw[GD,if_neg (h y (by simp)),Lk fun z hz=>h z (by simp[hz])];rfl
structure Q4(r:Ro)(Y:E3):Prop where
 n:Y.1<=60
 ok:∀i,i<Y.1->Dn r (Y.2 i)
 ids:∀i k,i<k->k<Y.1->(Y.2 i).id≠(Y.2 k).id
 asc:∀i k,i<k->k<Y.1->Bm (Y.2 i) (Y.2 k)
theorem Q4.done(h:Q4 r Y):∀k,k<=Y.1->Bo Y k=(List.range k).map Y.2
 |0,_=>rfl
 |k+1,hk=>by
  have h1:FY Y k=true:=At fun j hj=>h.ids j k hj (by omega)
  rw[Bo,h1,if_pos rfl,Q4.done h k (by omega),Lk fun y hy=> ?_,List.range_succ,List.map_append]
  ·rfl
  obtain⟨j,hj,rfl⟩:=List.mem_map.1 hy
  have hj:=List.mem_range.1 hj
  have:=h.asc j k hj (by omega)
  unfold Bm at this⊢
  omega
theorem Q4.dn(h:Q4 r Y):(BI Y).1=Y.1/\∀i,i<Y.1->(BI Y).2 i=Y.2 i:=by
 unfold BI
 rw[h.done Y.1 (Nat.le_refl _)]
 refine⟨by simp,fun i hi=> ?_⟩
 show(List.getD _ i de0)=_
 rw[List.getD_eq_getElem?_getD,List.getElem?_map,List.getElem?_range hi];rfl
theorem Pt{L:List De}{i:Nat}(h:i<L.length):lD L i=L[i]:=by
 unfold lD;rw[List.getD_eq_getElem?_getD,List.getElem?_eq_getElem h];rfl
theorem TS{l:E3}(ha:BV r l=0):Q4 r (BI l):=by
 have hs:=Eb l l.1
 have has:∀i k,i<k->k<(BI l).1->Bm ((BI l).2 i) ((BI l).2 k):=fun i k hik hk=>by
  have hk:k<(Bo l l.1).length:=hk
  show Bm (lD (Bo l l.1) i) (lD (Bo l l.1) k)
  rw[Pt hk,Pt (show i<(Bo l l.1).length by omega)]
  exact List.pairwise_iff_getElem.1 hs i k (by omega) hk hik
 refine⟨by have:=GY l;have:=(CI ha).2.1;omega,AbC ha,fun i k hik hk he=> ?_,has⟩
 obtain⟨a,a1,a2,a3⟩:=DE l i (by omega)
 obtain⟨b,b1,b2,b3⟩:=DE l k hk
 have hb:=has i k hik hk
 rw[a3,b3]at he hb
 rcases Nat.lt_trichotomy a b with q|q|q
 ·exact(AM.1 b2) a q he
 ·subst q;unfold Bm at hb;omega
 exact(AM.1 a2) b q he.symm
theorem Px{f g:Nat->De}:∀k,(∀i,i<k->f i=g i)->AI r f k=AI r g k
 |0,_=>rfl
 |k+1,h=>by rw[AI,AI,Px k fun i hi=>h i (by omega),h k (by omega)]
theorem PX{k:Nat}(hk:k<=Y.1)(h1:∀i,i<k->(Y.2 i).day<=d)(h2:k<Y.1->d<(Y.2 k).day):BW Y d=k:=by
 unfold BW
 by_cases e:k=Y.1
 ·rw[e]
  exact HK fun j hj=>by have:=h1 j (by omega);omega
 exact C5 (by omega) (h2 (by omega)) fun j hj=>by have:=h1 j hj;omega
theorem Qu(Y:E3)(d:Int):(∀i,i<BW Y d->(Y.2 i).day<=d)/\(BW Y d<Y.1->d<(Y.2 (BW Y d)).day):=by
 rcases Bi (fun i=>d<(Y.2 i).day) Y.1 with⟨g1,g2,g3⟩|⟨g1,g2⟩
 ·exact⟨fun i hi=>by have:=g3 i hi;omega,fun _=>g2⟩
 have g1:BW Y d=Y.1:=g1
 exact⟨fun i hi=>by have:=g2 i (by omega);omega,fun h=>by omega⟩
theorem Q4.day(h:Q4 r Y){j:Nat}(hj:j<Y.1):(Y.2 j).day<=d↔j<BW Y d:=by
 obtain⟨h1,h2⟩:=Qu Y d
 constructor
 ·intro q
  rcases Nat.lt_or_ge j (BW Y d)with g|g
  ·exact g
  have h3:=h2 (by omega)
  by_cases e:j=BW Y d
  ·rw[e]at q;omega
  have:=h.asc (BW Y d) j (by omega) hj
  unfold Bm at this;omega
 exact h1 j
theorem Q4.bk(h:Q4 r Y){e:Nat}(he:e<=Y.1)(h1:∀i,i<e->(Y.2 i).day<=d)(h2:e<Y.1->d<(Y.2 e).day):ID r Y d=AI r Y.2 e:=by
 obtain⟨g1,g2⟩:=h.dn
 have hu:BW (BI Y) d=e:=PX (by omega) (fun i hi=>by rw[g2 i (by omega)];exact h1 i hi) fun q=>by rw[g2 e (by omega)];exact h2 (by omega)
 unfold ID
 rw[hu]
 exact Px e fun i hi=>g2 i (by omega)
end Go.Proofs.YtlieoghhkioflaaGreat
namespace Go.Proofs.YtlieoghhkioflaaGreat
open Go Go.RowKit
variable{G:Nat->Option (Nat×(Nat->Ad))}
attribute [go_sem] Aal AaW YE Aco AcH AcZ Acy AbM Aaz
theorem Nh{α:Type}(a:Nat×(Nat->α)):KH a a=true:=At ⟨rfl,fun _ _=>rfl⟩
theorem Ac0{A:Nat->De}{n:Nat}{x:De}(h:A n=x):∀a,a<n+1->∀c,c<9->AB ((A a).c c) (if a<n then(A a).c c else Az (Az (.cons x.L .nil) (a-n)) c):=fun a ha c hc=>by
 by_cases e:a<n
 ·rw[if_pos e];exact BP _
 obtain rfl:a=n:=by omega
 rw[if_neg e,Nat.sub_self,h]
 show AB (x.c c) (Az x.L c)
 rw[Fz _ c hc];exact BP _
theorem SI{r:Ro}{l:E3}(ha:BV r l=0):reQ r l= .tup (.cons (.view 9 (BI l).1 fun i j=>((BI l).2 i).c j) (.cons (.view 1 (BI l).1 fun i _=> .int .u8 (Bh (AI r (BI l).2 i) ((BI l).2 i))) (.cons (.int .i64 0) .nil))):=by
 rw[reQ,if_pos ha];rfl
end Go.Proofs.YtlieoghhkioflaaGreat
