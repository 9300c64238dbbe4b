/- Prices that prove a sum: the program's Proves. No condition. -/
import Derived.Test.YtlieoghhkioflaaGreatDat
import Derived.Test.YtlieoghhkioflaaGreatDPrv
import Derived.Test.YtlieoghhkioflaaGreatDsp
import Derived.Test.YtlieoghhkioflaaGreatDre
import Derived.Test.YtlieoghhkioflaaGreatDSrt
import Derived.Test.YtlieoghhkioflaaGreatLDez
import Derived.Test.YtlieoghhkioflaaGreatACode1
import Derived.Test.YtlieoghhkioflaaGreatDpy
import Derived.Test.YtlieoghhkioflaaGreatSoT
set_option linter.unusedSimpArgs false
set_option linter.unusedVariables false
set_option maxRecDepth 100000
namespace Go.Proofs.YtlieoghhkioflaaGreat
open Go Go.RowKit
variable{G:Nat->Option (Nat×(Nat->Ad))}
theorem U6:Ai Tryz.prog G 39 L6:=by
 refine fn3 (S:=[(73,Jk)]) (I:=[(82,a82),(83,a83)]) mixed (.cons Kp .nil) (.cons Tryz.func82 c82 (.cons Tryz.func83 c83 .nil)) Tryz.func39 c39 fun t b p _ hw=> ?_
 simp only[Nat.reduceSub,Nat.reducePow,go_sem]at hw
 obtain⟨w1,w2⟩:=hw
 by_cases h0:FZ t b=0
 ·have hoff:Pe t/\∀i,i<b.1->L0 t (b.2 i):=by
   unfold FZ at h0
   split at h0
   ·rename_i ht
    refine⟨AX.1 ht,?_⟩
    split at h0
    ·exact absurd h0 (by decide)
    split at h0
    ·rename_i hb;exact AX.1 hb
    exact absurd h0 (by decide)
   exact absurd h0 (by decide)
  obtain⟨ht,hb⟩:=hoff
  have hR:GR t b p=if(Px t b p).2=true then((Px t b p).1,0)else(0,44):=by rw[GR,if_pos h0]
  have no:¬US t b p->GR t b p=(0,44):=fun h=>by rw[hR,Px,An h];rfl
  have yes:US t b p->GR t b p=(pre (pA p) p.1,0):=fun h=>by rw[hR,Px,Au h];rfl
  have bad:¬US t b p->(0=(GR t b p).1/\44=(GR t b p).2):=fun h=>by rw[no h];exact⟨rfl,rfl⟩
  by_cases hm:60<p.1
  ·have fm:((p.1:Int)>60)=True:=eq_true (by omega)
   rw[no (fun h=>by have:=h.1;omega)]
   simp only[AU,a39,Jk,h0,fm,w1,w2,↓reduceIte,reduceCtorEq,Nat.reduceEqDiff,Nat.reduceAdd,Nat.reduceSub,Nat.reducePow,go_sem]
  have fm:((p.1:Int)>60)=False:=eq_false (by omega)
  simp only[AU,a39,a82,a83,Jk,h0,fm,w1,w2,↓reduceIte,reduceCtorEq,Nat.reduceEqDiff,Nat.reduceAdd,Nat.reduceSub,Nat.reduceLeDiff,Nat.reducePow,go_sem]
  refine AK (ι:=Nat) (fun j=>j<=p.1/\∀i,i<j->J2 t p i) (fun j=>p.1-j) [1,3,9,10,37,38] (fun j=>[(39,.int .i64 j)]) (fun j=>[(1,.mp .i64 (fun k=>(Gw (eA t p) (pA p) j k).isSome) (fun k=> .int .i64 ((Gw (eA t p) (pA p) j k).getD 0))),(2,.cells (.cons (.int .i64 t.fro) (.cons (.int .i64 (eA t p j)) .nil)))]) 0 ⟨by omega,fun i h=>by omega⟩ (by
   simp only[↓reduceIte,reduceCtorEq,Nat.reduceEqDiff,Nat.reduceLT,go_sem]
   refine⟨rfl,fun k=> ?_⟩
   by_cases hk:k=t.fro
   ·subst hk
    have e:Gw (eA t p) (pA p) 0 t.fro=some 0:=if_pos rfl
    rw[e];simp
   have e:Gw (eA t p) (pA p) 0 k=none:=if_neg hk
   rw[e];simp[hk]) fun j hj=> ?_
  obtain⟨hj1,hj2⟩:=hj
  have hun:=Oo (eA t p) (pA p) j
  by_cases hjl:j<p.1
  ·have fj:((j:Int)<(p.1:Int))=True:=eq_true (by omega)
   have hpre:=Oy t p j hj2
   simp only[fj,hun,Option.isSome_some,Option.getD_some,↓reduceIte,reduceCtorEq,Nat.reduceEqDiff,Nat.reduceAdd,Nat.reduceLeDiff,go_sem]
   have hsuc:eA t p (j+1)=(p.2 j).turn.til:=rfl
   have bj:¬J2 t p j->(0=(GR t b p).1/\44=(GR t b p).2):=fun h=>bad fun h2=>h (h2.2.1.1 j hjl)
   refine⟨by omega,fun c1=>bj fun h=>c1 h.1,fun c1=>⟨fun c2=>⟨fun c3=>⟨fun c4=>bj fun h=>c4 h.2.2.1,fun c4=>⟨fun c5=>⟨fun c6=>bj fun h=>c6 h.2.2.2.2,fun c6=> ?_⟩,fun c5=>bj fun h=>c5 h.2.2.2.1⟩⟩,fun c3=>bj fun h=>c3 (by rw[c1];exact h.2.1)⟩,fun c2=>absurd (by omega) c2⟩⟩
   refine Af (j+1) ⟨hjl,fun i hi=> ?_⟩ (by omega) ?_
   ·by_cases e:i=j
    ·subst e;exact⟨c1,by omega,c4,c5,c6⟩
    exact hj2 i (by omega)
   have hw':IntKind.i64.wrap (pre (pA p) j+(p.2 j).baisa)=pre (pA p) j+(p.2 j).baisa:=AP (by omega) (by omega)
   simp only[hw',↓reduceIte,reduceCtorEq,Nat.reduceEqDiff,Nat.reduceLT,go_sem]
   refine⟨Cj (by omega),hsuc.symm,fun k=> ?_⟩
   by_cases hk:k=(p.2 j).turn.til
   ·have e:Gw (eA t p) (pA p) (j+1) k=some (pre (pA p) j+(p.2 j).baisa):=by
     rw[Gw,if_pos (by rw[hsuc];exact hk),hun];rfl
    rw[e,if_pos hk,if_pos hk]
    exact⟨rfl,fun _=>rfl⟩
   have e:Gw (eA t p) (pA p) (j+1) k=Gw (eA t p) (pA p) j k:=by
    rw[Gw,if_neg (by rw[hsuc];exact hk)]
   rw[e,if_neg hk,if_neg hk]
   exact⟨rfl,fun _=>rfl⟩
  have fj:((j:Int)<(p.1:Int))=False:=eq_false (by omega)
  obtain rfl:j=p.1:=by omega
  by_cases hE:eA t p p.1=t.til
  ·rw[hE]at hun
   simp only[fj,hE,w1,↓reduceIte,reduceCtorEq,Nat.reduceEqDiff,Nat.reduceAdd,Nat.reduceSub,Nat.reducePow,go_sem]
   have hris:∀j,j<p.1->eA t p j<eA t p (j+1):=fun j hj=>(hj2 j hj).2.1
   have hany:∀k,k<b.1->(Q8 t p (b.2 k)↔((Gw (eA t p) (pA p) p.1 (b.2 k).turn.fro).isSome=true/\(Gw (eA t p) (pA p) p.1 (b.2 k).turn.til).isSome=true/\(b.2 k).baisa<=(Gw (eA t p) (pA p) p.1 (b.2 k).turn.til).getD 0-(Gw (eA t p) (pA p) p.1 (b.2 k).turn.fro).getD 0)):=fun k hk=>by
    obtain⟨_,⟨b1,b2,b3⟩,_⟩:=hb k hk
    rw[S8 (eA t p) (pA p) p.1 hris _ _ _ b1 b2 (by rw[hE];exact b3)]
    unfold Q8
    rw[JO,JO]
    have q1:(∃i,i<p.1/\RG p (b.2 k).turn.fro i=true)↔∃i,i<p.1/\eA t p i=(b.2 k).turn.fro:=by
     constructor
     ·rintro⟨i,hi,h⟩;exact⟨i,hi,by rw[<-(hj2 i hi).1];exact of_decide_eq_true h⟩
     rintro⟨i,hi,h⟩;exact⟨i,hi,decide_eq_true (by rw[(hj2 i hi).1];exact h)⟩
    have q2:(∃i,i<p.1/\Ra p (b.2 k).turn.til i=true)↔∃i,i<p.1/\eA t p (i+1)=(b.2 k).turn.til:=by
     constructor
     ·rintro⟨i,hi,h⟩;exact⟨i,hi,of_decide_eq_true h⟩
     rintro⟨i,hi,h⟩;exact⟨i,hi,decide_eq_true h⟩
    rw[q1,q2]
   have hbnd:∀x,0<=(Gw (eA t p) (pA p) p.1 x).getD 0/\(Gw (eA t p) (pA p) p.1 x).getD 0<=720000000000:=fun x=>by
    by_cases hx:∃a,a<=p.1/\x=eA t p a
    ·obtain⟨a,ha,rfl⟩:=hx
     rw[Hn _ _ p.1 hris p.1 (Nat.le_refl _) a ha]
     have:=Oy t p a (fun i hi=>hj2 i (by omega))
     show 0<=pre (pA p) a/\pre (pA p) a<=720000000000
     omega
    rw[HL _ _ x p.1 fun a ha e=>hx ⟨a,ha,e⟩];exact⟨by decide,by decide⟩
   refine AK (ι:=Nat) (fun k=>k<=b.1/\∀i,i<k->Q8 t p (b.2 i)) (fun k=>b.1-k) [3,9,84,85] (fun k=>[(86,.int .i64 k)]) (fun _=>[]) 0 ⟨by omega,fun i h=>by omega⟩ (by simp only[↓reduceIte,reduceCtorEq,Nat.reduceEqDiff,Nat.reduceLT,go_sem];try trace_state) fun k hk=> ?_
   obtain⟨hk1,hk2⟩:=hk
   by_cases hkl:k<b.1
   ·have fk:((k:Int)<(b.1:Int))=True:=eq_true (by omega)
    have bk:¬Q8 t p (b.2 k)->(0=(GR t b p).1/\44=(GR t b p).2):=fun h=>bad fun h2=>h (h2.2.2 k hkl)
    rw[hany k hkl]at bk
    have hok:=hany k hkl
    have u1:=hbnd (b.2 k).turn.fro
    have u2:=hbnd (b.2 k).turn.til
    generalize hU:Gw (eA t p) (pA p) p.1 (b.2 k).turn.fro=U at*
    generalize hV:Gw (eA t p) (pA p) p.1 (b.2 k).turn.til=V at*
    cases U with
    |none=>
     simp only[fk,hU,hV,Option.isSome_none,Option.getD_none,↓reduceIte,reduceCtorEq,Nat.reduceEqDiff,Nat.reduceAdd,Nat.reduceLeDiff,Nat.reduceLT,go_sem]
     have q:=bk fun h=>by cases h.1
     cases V<;>simp only[Option.isSome_some,Option.isSome_none,Option.getD_some,Option.getD_none,go_sem]<;>exact⟨by omega,q⟩
    |some u=>cases V with
     |none=>
      simp only[fk,hU,hV,Option.isSome_some,Option.isSome_none,Option.getD_some,Option.getD_none,↓reduceIte,reduceCtorEq,Nat.reduceEqDiff,Nat.reduceAdd,Nat.reduceLeDiff,Nat.reduceLT,go_sem]
      exact⟨by omega,bk fun h=>by cases h.2.1⟩
     |some v=>
      have u1':0<=u/\u<=720000000000:=u1
      have u2':0<=v/\v<=720000000000:=u2
      have hw':IntKind.i64.wrap (v-u)=v-u:=AP (by omega) (by omega)
      simp only[fk,hU,hV,hw',Option.isSome_some,Option.getD_some,↓reduceIte,reduceCtorEq,Nat.reduceEqDiff,Nat.reduceAdd,Nat.reduceLeDiff,Nat.reduceLT,go_sem]
      refine⟨by omega,fun c=>bk fun h=> ?_,fun c=>Af (k+1) ⟨hkl,fun i hi=> ?_⟩ (by omega) ?_⟩
      ·have h3:(b.2 k).baisa<=v-u:=h.2.2
       omega
      ·by_cases e:i=k
       ·subst e
        exact hok.2 ⟨rfl,rfl,by show(b.2 i).baisa<=v-u;omega⟩
       exact hk2 i (by omega)
      simp only[↓reduceIte,reduceCtorEq,Nat.reduceEqDiff,Nat.reduceLT,go_sem]
      exact Cj (by omega)
   have fk:((k:Int)<(b.1:Int))=False:=eq_false (by omega)
   obtain rfl:k=b.1:=by omega
   rw[yes ⟨by omega,⟨hj2,hE⟩,hk2⟩]
   simp only[fk,hun,Option.isSome_some,Option.getD_some,↓reduceIte,reduceCtorEq,Nat.reduceEqDiff,Nat.reduceAdd,go_sem]
  rw[no (fun h=>hE h.2.1.2)]
  simp only[fj,hE,w1,↓reduceIte,reduceCtorEq,Nat.reduceEqDiff,Nat.reduceAdd,Nat.reduceSub,Nat.reducePow,go_sem]
 rw[GR,if_neg h0]
 simp only[AU,a39,Jk,h0,w1,w2,↓reduceIte,reduceCtorEq,Nat.reduceEqDiff,Nat.reduceAdd,Nat.reduceSub,Nat.reduceLeDiff,Nat.reducePow,go_sem]
end Go.Proofs.YtlieoghhkioflaaGreat
namespace Go.Proofs.YtlieoghhkioflaaGreat
open Go Go.RowKit
variable{G:Nat->Option (Nat×(Nat->Ad))}
def EL:As:=Cs TI TI (fun _ _=>True) fun a b=> .agg (Tu.L ⟨a,b⟩)
theorem JS:Ai Tryz.prog G 43 EL:=by
 refine KK (S:=[]) (I:=[]) mixed .nil .nil Tryz.func43 c43 fun a b _ _=> ?_
 simp only[AU,a43,↓reduceIte,reduceCtorEq,Nat.reduceEqDiff,Nat.reduceAdd,Nat.reduceLeDiff,go_sem]
def J4:As:=D8 TI TI TI (fun _ _ _=>True) fun w a b=> .agg (Ho.L ⟨w,⟨a,b⟩⟩)
theorem Ur:Ai Tryz.prog G 61 J4:=by
 refine fn3 (S:=[(43,EL)]) (I:=[]) mixed (.cons JS .nil) .nil Tryz.func61 c61 fun w a b _ _=> ?_
 simp only[AU,a61,EL,↓reduceIte,reduceCtorEq,Nat.reduceEqDiff,Nat.reduceAdd,Nat.reduceLeDiff,go_sem]
def Ly:As:=IN (.agg (Ro.L CK))
theorem Vw:Ai Tryz.prog G 40 Ly:=by
 refine YF (S:=[(61,J4)]) (I:=[]) mixed (.cons Ur .nil) .nil Tryz.func40 c40 ?_
 simp only[AU,a40,J4,↓reduceIte,reduceCtorEq,Nat.reduceEqDiff,Nat.reduceAdd,Nat.reduceLeDiff,Nat.reduceLT,go_sem]
 refine⟨rfl,rfl,fun i hi j hj=> ?_⟩
 rcases IT hi with rfl|rfl|rfl<;>rcases IT hj with rfl|rfl|rfl<;>exact rfl
theorem Ai.soft{P:Program}{id:FuncId}{e:TypeId}{pre:List Ad->Prop}{res res':List Ad->Ad}(h:Ai P G id ⟨pre,res,some e⟩)(hr:∀vs,pre vs->∃k n c c',res vs= .view k n c/\res' vs= .view k n c'/\∀i,i<n->∀j,j<k->AC (c' i j) (c i j)):Ai P G id ⟨pre,res',some e⟩:=by
 refine⟨h.ent,fun A w vs cs hG hr' hp=> ?_⟩
 obtain⟨k,n,c,c',e1,e2,e3⟩:=hr vs hp
 refine(h.run A w vs cs hG hr' hp).mono fun ex w'=> ?_
 simp only[e1,e2]
 rintro⟨x,q1,q2,q3,q4⟩
 refine⟨x,q1,BF _ _ _ ((Do ..).mpr ⟨rfl,e3⟩) q2,q3,fun e' he=> ?_⟩
 obtain⟨k',n',c'',r1,r2,r3,xs,r4,r5⟩:=q4 e' he
 cases r1
 exact⟨k,n,c',rfl,r2,r3,xs,r4,fun i hi j hj=>by
  obtain⟨y,y1,y2,y3⟩:=r5 i hi j hj
  exact⟨y,y1,y2,BF _ _ _ (e3 i hi j hj) y3⟩⟩
def deK(i j:Nat):Ad:=if j=8 then .nils else(BL i).c j
def Vm:As:=(Am AV (fun _=>True) fun _=> .view 9 3 deK).mine 56
theorem Abw{i:Nat}(h:i<9):i=0\/i=1\/i=2\/i=3\/i=4\/i=5\/i=6\/i=7\/i=8:=by omega
theorem VM:Ai Tryz.prog G 41 Vm:=by
 refine foT mixed (S:=[(43,EL)]) (I:=[]) (X:=[]) (N:=[]) (C:=[]) (.cons JS .nil) .nil .nil Tryz.func41 c41 fun a _ hw=> ?_
 simp only[a41,EL,AV,↓reduceIte,reduceCtorEq,Nat.reduceEqDiff,Nat.reduceAdd,Nat.reduceLeDiff,Nat.reduceLT,go_sem]
 refine⟨fun i hi j hj=> ?_,_,9,3,_,.inl ⟨rfl,rfl⟩,_,rfl,fun i hi j hj=> ?_⟩
 ·rcases IT hi with rfl|rfl|rfl<;>rcases Abw hj with rfl|rfl|rfl|rfl|rfl|rfl|rfl|rfl|rfl<;>exact B7 _
 rcases IT hi with rfl|rfl|rfl<;>rcases Abw hj with rfl|rfl|rfl|rfl|rfl|rfl|rfl|rfl|rfl<;>exact⟨rfl,rfl⟩
def Mr:As:=(Am AV (fun _=>True) fun _=> .view 9 3 fun i j=>(BL i).c j).mine 56
theorem V2:Ai Tryz.prog G 41 Mr:=Ai.soft VM fun vs _=>⟨9,3,_,_,rfl,rfl,fun i hi j hj=>by
 unfold deK
 split
 ·rename_i h;subst h
  rcases IT hi with rfl|rfl|rfl<;>exact(Nk ..).mpr rfl
 exact B7 _⟩
def Mj:As:=IN (.agg (De.L (BL 3)))
theorem VS:Ai Tryz.prog G 42 Mj:=by
 refine YF (S:=[]) (I:=[]) mixed .nil .nil Tryz.func42 c42 ?_
 simp only[AU,a42,↓reduceIte,reduceCtorEq,Nat.reduceEqDiff,Nat.reduceAdd,Nat.reduceLeDiff,Nat.reduceLT,go_sem]
 refine⟨rfl,rfl,rfl,rfl,rfl,rfl,rfl,rfl,rfl,fun i hi j hj=> ?_⟩
 rcases(show i=0\/i=1 from by have hi:i<2:=hi;omega)with rfl|rfl<;>rcases(show j=0\/j=1 by omega)with rfl|rfl<;>exact rfl
def On:As:=IN (.view 4 4 fun i j=>(KA i).c j)
theorem YN:Ai Tryz.prog G 44 On:=by
 refine YF (S:=[(43,EL)]) (I:=[]) mixed (.cons JS .nil) .nil Tryz.func44 c44 ?_
 simp only[AU,a44,EL,↓reduceIte,Nat.reduceEqDiff,Nat.reduceAdd,Nat.reduceLeDiff,Nat.reduceLT,go_sem]
 intro i hi j hj
 rcases HW hi with rfl|rfl|rfl|rfl<;>rcases HW hj with rfl|rfl|rfl|rfl<;>exact rfl
def Jo:As:=IN (.view 3 3 fun i j=>(pcC i).c j)
theorem U3:Ai Tryz.prog G 45 Jo:=by
 refine YF (S:=[(43,EL)]) (I:=[]) mixed (.cons JS .nil) .nil Tryz.func45 c45 ?_
 simp only[AU,a45,EL,↓reduceIte,Nat.reduceEqDiff,Nat.reduceAdd,Nat.reduceLeDiff,Nat.reduceLT,go_sem]
 intro i hi j hj
 rcases IT hi with rfl|rfl|rfl<;>rcases IT hj with rfl|rfl|rfl<;>exact rfl
noncomputable def owQ(r:Ro)(l:Gi)(d:Int):Ad:=if BA r l=0 then(if 0<=d/\d<=100000 then .tup (.cons (IW (Ah (Db r l d).ow.2 (AN r))) (.cons (IW (Ah (fun m=>Dh (Db r l d) m d) (AN r))) (.cons (.int .i64 0) .nil)))else .tup (.cons .nils (.cons .nils (.cons (.int .i64 2) .nil))))else .tup (.cons .nils (.cons .nils (.cons (.int .i64 (BA r l)) .nil)))
noncomputable def LH:As:=Am (Ag Ja (Ag (Dw FT) (Ag TI AV))) (fun _=>True) fun a=>owQ a.1 a.2.1 a.2.2.1
noncomputable def shQ(r:Ro)(l:Gi)(d:Int):Ad:=if BA r l=0 then(if 0<=d/\d<=100000 then .tup (.cons (QM (By (Cd (Db r l d).ow.2 (AN r)) 10000)) (.cons (.int .i64 0) .nil))else .tup (.cons .nils (.cons (.int .i64 2) .nil)))else .tup (.cons .nils (.cons (.int .i64 (BA r l)) .nil))
noncomputable def Q3:As:=Am (Ag Ja (Ag (Dw FT) (Ag TI AV))) (fun _=>True) fun a=>shQ a.1 a.2.1 a.2.2.1
noncomputable def reQ(r:Ro)(l:Gi):Ad:=if BA r l=0 then .tup (.cons (.view 9 (C6 l).1 fun i j=>((C6 l).2 i).c j) (.cons (Z4 r (C6 l)) (.cons (.int .i64 0) .nil)))else .tup (.cons .nils (.cons .nils (.cons (.int .i64 (BA r l)) .nil)))
noncomputable def Y6:As:=Am (Ag Ja (Ag (Dw FT) AV)) (fun _=>True) fun a=>reQ a.1 a.2.1
noncomputable def XX(i:Nat):Hs:=(By (Cd (AY CK BL 4).ow.2 1440) 10000).2 i
noncomputable def Ack(i:Nat):De:=(C6 (3,BL)).2 i
noncomputable def RV(i:Nat):Int:=BU (AY CK (C6 (3,BL)).2 i) ((C6 (3,BL)).2 i)
theorem X8:Ex (3,BL):=⟨by decide,fun _ _=>rfl⟩
theorem Abm:AN CK=1440:=rfl
theorem P2{f:Nat->Int}{N a n:Nat}{L:Nat->Ho}(hN:N=a)(h:RS f a n L):∃g:Nat->Ho,IW (Ah f N)= .view 3 n (fun i j=>(g i).c j)/\∀i,i<n->g i=L i:=by
 subst hN
 exact⟨(Ah f N).2,by rw[IW,h.1],h.2⟩
theorem AcY:∃g h:Nat->Ho,owQ CK (3,BL) 20= .tup (.cons (.view 3 4 fun i j=>(g i).c j) (.cons (.view 3 5 fun i j=>(h i).c j) (.cons (.int .i64 0) .nil)))/\(∀i,i<4->g i=Zi i)/\∀i,i<5->h i=Zs i:=by
 have hu:Bs (C6 (3,BL)) 20=3:=Ss X8 (Nat.le_refl _) (fun i hi=>by rcases IT hi with rfl|rfl|rfl<;>decide) fun i h1 h2=>by have h2:i<3:=h2;omega
 have hb:Db CK (3,BL) 20=AY CK BL 3:=by unfold Db;rw[hu,Og X8 3 (Nat.le_refl _)]
 obtain⟨g,g1,g2⟩:=P2 Abm Aat
 obtain⟨h,h1,h2⟩:=P2 Abm Aa2
 refine⟨g,h,?_,g2,h2⟩
 unfold owQ
 rw[if_pos (Ob X8),if_pos ⟨by decide,by decide⟩,hb,g1,h1]
theorem Aa1(i:Nat)(hi:i<4):XX i=Zm i:=PZ.2 i hi
theorem AbX{f:Nat->De}(h0:f 0=BL 0)(h1:f 1=BL 1)(h2:f 2=BL 2)(h3:f 3=BL 3):shQ CK (4,f) 40= .tup (.cons (.view 2 4 fun i j=>(XX i).c j) (.cons (.int .i64 0) .nil)):=by
 have he:Ex (4,f):=⟨Nat.le_refl 4,fun i hi=>by rcases HW hi with rfl|rfl|rfl|rfl<;>assumption⟩
 have hu:Bs (C6 (4,f)) 40=4:=Ss he (Nat.le_refl _) (fun i hi=>by rcases HW hi with rfl|rfl|rfl|rfl<;>decide) fun i h1 h2=>by have h2:i<4:=h2;omega
 have hb:Db CK (4,f) 40=AY CK BL 4:=by unfold Db;rw[hu,Og he 4 (Nat.le_refl _)]
 unfold shQ
 rw[if_pos (Ob he),if_pos ⟨by decide,by decide⟩,hb,show AN CK=1440 from rfl]
 unfold QM XX
 rw[PZ.1]
theorem Acf:reQ CK (3,BL)= .tup (.cons (.view 9 3 fun i j=>(Ack i).c j) (.cons (.view 1 3 fun i _=> .int .u8 (RV i)) (.cons (.int .i64 0) .nil))):=by
 unfold reQ Z4
 rw[if_pos (Ob X8),(QH X8).1];rfl
theorem Aal:RV 0=0/\RV 1=2/\RV 2=0:=by
 have h (i:Nat) (hi:i<3):RV i=BU (AY CK BL i) (BL i):=by
  unfold RV
  rw[Og X8 i (by show i<=3;omega),(QH X8).2 i hi]
 exact⟨(h 0 (by decide)).trans v0C,(h 1 (by decide)).trans v1C,(h 2 (by decide)).trans v2C⟩
noncomputable def pcV(i:Nat):Pc:=(LG Pt (4,KA)).2 i
noncomputable def Acn(i:Nat):Int:=Sd [1,2] i
theorem AcI:WB Pt (4,KA)= .tup (.cons (.view 1 2 fun i _=> .int .i64 (Acn i)) (.cons (.int .i64 65) (.cons (.int .i64 0) .nil))):=by
 unfold WB
 rw[if_pos ZZ,show Pt.til=100 from rfl,AcM];rfl
theorem Acd:WX Pt (4,KA)= .tup (.cons (.view 3 3 fun i j=>(pcV i).c j) (.cons (.int .i64 0) .nil)):=by
 unfold WX
 rw[if_pos ZZ,AaW.1];rfl
theorem HM{α:Type}{a b:Nat×(Nat->α)}(h:Nh a b=false)(h1:a.1=b.1)(h2:∀i,i<a.1->a.2 i=b.2 i):False:=by
 have:=h.symm.trans (Au ⟨h1,h2⟩);cases this
def D5:As:=IN (.bool true)
set_option maxHeartbeats 8000000 in
theorem SM:Ai Tryz.prog G 25 D5:=by
 refine YF (S:=[(43,EL),(61,J4),(40,Ly),(41,Mr),(42,Mj),(44,On),(45,Jo),(16,LH),(29,Y6),(18,Q3),(36,Yd),(38,Yn),(39,L6),(22,Lz),(23,L8),(62,Ol),(63,L5)]) (I:=[]) mixed
  (.cons JS (.cons Ur (.cons Vw (.cons V2 (.cons VS (.cons YN (.cons U3 (.cons (show Ai Tryz.prog G _ LH from JY) (.cons (show Ai Tryz.prog G _ Y6 from Yy) (.cons (show Ai Tryz.prog G _ Q3 from M1) (.cons QP (.cons SF (.cons U6 (.cons We (.cons Vh (.cons Ze (.cons Vo .nil))))))))))))))))) .nil Tryz.func25 c25 ?_
 obtain⟨ownV,useV,n1,ownVC,useVC⟩:=AcY
 have n2:=Acf
 have n4:=AcI
 have n5:=Acd
 have n6:=AbO (p:=(3,pcC)) rfl fun _ _=>rfl
 have t0:(⟨0,100⟩:Tu)=Pt:=rfl
 have g1:(CK.holds.1<=9223372036854775807)=True:=eq_true (by decide)
 have g2:((BL 3).heirs.1<=9223372036854775807)=True:=eq_true (by decide)
 simp(config:={maxSteps:=1000000}) only[AU,a25,EL,J4,Ly,Mr,Mj,On,Jo,LH,Y6,Q3,Yd,Yn,L6,Lz,L8,Ol,L5,Am,As.mine,Ag,AV,n1,n2,n4,n5,n6,t0,g1,g2,AbX,↓reduceIte,reduceCtorEq,Nat.reduceEqDiff,Nat.reduceAdd,Nat.reduceSub,Nat.reduceLeDiff,Nat.reduceMul,Nat.reduceLT,Nat.reducePow,go_sem]
 have lt5:∀{i:Nat},i<5->i=0\/i=1\/i=2\/i=3\/i=4:=fun h=>by omega
 have lt2:∀{i:Nat},i<2->i=0\/i=1:=fun h=>by omega
 refine⟨fun i hi=> ?_,fun i hi=> ?_,fun q1=>⟨fun i hi=> ?_,fun q2=>⟨fun i hi=> ?_,fun q3=>⟨fun i hi=> ?_,fun q4=>⟨fun i hi=> ?_,fun q5 q6=>HM q6 rfl fun i hi=>AaW.2 i hi,fun q5=>HM q5 rfl fun i hi=> ?_⟩,fun q4=>HM q4 rfl fun i hi=>(Aa1 i hi).trans ?_⟩,fun q3=> ?_⟩,fun q2=>HM q2 rfl fun i hi=>(useVC i hi).trans ?_⟩,fun q1=>HM q1 rfl fun i hi=>(ownVC i hi).trans ?_⟩
 ·rcases HW hi with rfl|rfl|rfl|rfl
  ·exact of_eq_true (De.w_c (BL 0))
  ·exact of_eq_true (De.w_c (BL 1))
  ·exact of_eq_true (De.w_c (BL 2))
  exact of_eq_true (De.w_c (BL 3))
 ·rcases HW hi with rfl|rfl|rfl|rfl<;>exact⟨rfl,rfl,rfl⟩
 ·rcases lt5 hi with rfl|rfl|rfl|rfl|rfl<;>exact⟨rfl,rfl,rfl⟩
 ·obtain⟨v0,v1,v2⟩:=Aal
  rcases IT hi with rfl|rfl|rfl
  ·rw[v0];decide
  ·rw[v1];decide
  rw[v2];decide
 ·rcases HW hi with rfl|rfl|rfl|rfl<;>exact⟨rfl,rfl⟩
 ·rcases lt2 hi with rfl|rfl<;>exact rfl
 ·rcases lt2 hi with rfl|rfl<;>exact rfl
 ·have hi:i<4:=hi
  rcases HW hi with rfl|rfl|rfl|rfl<;>exact rfl
 ·obtain⟨v0,v1,v2⟩:=Aal
  refine(@decide_eq_false_iff_not _ (Classical.propDecidable _)).1 q3 ⟨rfl,fun i hi=> ?_⟩
  rcases IT hi with rfl|rfl|rfl<;>assumption
 ·have hi:i<5:=hi
  rcases lt5 hi with rfl|rfl|rfl|rfl|rfl<;>exact rfl
 have hi:i<4:=hi
 rcases HW hi with rfl|rfl|rfl|rfl<;>exact rfl
end Go.Proofs.YtlieoghhkioflaaGreat
namespace Go.Proofs.YtlieoghhkioflaaGreat
open Go Go.RowKit
variable{N:Nat}{f:Nat->Int}
variable{G:Nat->Option (Nat×(Nat->Ad))}
noncomputable def Ps(r:Ro)(l:Gi):Bool:=A9 (Kn r l=false/\BA r l=0)
noncomputable def D7:As:=Cs Ja (Dw FT) (fun _ _=>True) fun r l=> .bool (Ps r l)
theorem Ts:Ai Tryz.prog G 26 D7:=by
 refine KK (S:=[(14,GH),(64,HG),(65,Jg)]) (I:=[]) mixed (.cons WC (.cons VF (.cons WF .nil))) .nil Tryz.func26 c26 fun r l _ hw=> ?_
 simp only[Nat.reduceSub,Nat.reducePow,go_sem]at hw
 obtain⟨w1,w2⟩:=hw
 have hb:Ps r l=A9 (Kn r l=false/\BA r l=0):=rfl
 by_cases hg:Kn r l=true
 ·rw[hg,An (fun h=>by cases h.1)]at hb
  simp only[AU,a26,GH,hg,hb,w1,w2,↓reduceIte,reduceCtorEq,Nat.reduceEqDiff,Nat.reduceAdd,Nat.reduceSub,Nat.reducePow,go_sem]
 have hg:Kn r l=false:=by simpa using hg
 by_cases hr:EQ r
 ·have hp:(1<=r.days/\r.days<=16)=True:=eq_true ⟨hr.1,hr.2.1⟩
  have ha:BA r l=C8 r l:=by rw[BA,Au hr,if_pos rfl]
  rw[hg,ha]at hb
  by_cases hd:C8 r l=0
  ·rw[Au ⟨rfl,hd⟩]at hb
   simp only[AU,a26,GH,HG,Jg,hg,Au hr,hp,hd,hb,w1,w2,↓reduceIte,reduceCtorEq,Nat.reduceEqDiff,Nat.reduceAdd,Nat.reduceSub,Nat.reducePow,go_sem]
  rw[An (fun h=>hd h.2)]at hb
  simp only[AU,a26,GH,HG,Jg,hg,Au hr,hp,hd,hb,w1,w2,↓reduceIte,reduceCtorEq,Nat.reduceEqDiff,Nat.reduceAdd,Nat.reduceSub,Nat.reducePow,go_sem]
 have ha:BA r l=40:=by rw[BA,An hr];rfl
 rw[hg,ha,An (fun h=>absurd h.2 (by decide))]at hb
 simp only[AU,a26,GH,HG,hg,An hr,hb,w1,w2,↓reduceIte,reduceCtorEq,Nat.reduceEqDiff,Nat.reduceAdd,Nat.reduceSub,Int.reduceBEq,Nat.reducePow,go_sem]
theorem XK{r:Ro}{l:Gi}(h:Ps r l=true):Sv r l/\BA r l=0:=by
 obtain⟨h1,h2⟩:=AX.1 h
 have h3:=B4.1 h1
 refine⟨⟨by omega,fun i hi=> ?_⟩,h2⟩
 rcases Nat.lt_or_ge 12 (l.2 i).heirs.1 with q|q
 ·exact absurd (.inr (.inr ⟨i,hi,q⟩)) h3
 exact q
noncomputable def ofI(l:Oh)(m:Int):Nat:=Cp (fun i=>(l.2 i).turn.fro<=m/\m<(l.2 i).turn.til) l.1
noncomputable def Wn(l:Oh)(m:Int):Int:=if ofI l m<l.1 then(l.2 (ofI l m)).who else-1
noncomputable def UA:As:=Cs (Dw KF) TI (fun _ _=>True) fun l m=> .int .i64 (Wn l m)
theorem AaV:Ai Tryz.prog G 33 UA:=by
 refine KK (S:=[]) (I:=[]) mixed .nil .nil Tryz.func33 c33 fun l m _ hw=> ?_
 simp only[Nat.reduceSub,Nat.reducePow,go_sem]at hw
 simp only[AU,a33,hw,↓reduceIte,reduceCtorEq,Nat.reduceSub,Int.reduceNeg,Nat.reducePow,go_sem]
 refine AK (ι:=Nat) (fun j=>j<=l.1/\∀i,i<j->¬((l.2 i).turn.fro<=m/\m<(l.2 i).turn.til)) (fun j=>l.1-j) [1,7,8] (fun j=>[(9,.int .i64 j)]) (fun _=>[]) 0 ⟨Nat.zero_le _,fun i h=>by omega⟩ (by simp only[↓reduceIte,reduceCtorEq,Nat.reduceEqDiff,go_sem]) fun j hj=> ?_
 obtain⟨hj1,hj2⟩:=hj
 by_cases hjl:j<l.1
 ·have fj:((j:Int)<(l.1:Int))=True:=eq_true (by omega)
  by_cases hm:(l.2 j).turn.fro<=m/\m<(l.2 j).turn.til
  ·have e:ofI l m=j:=C1 hjl hm hj2
   have e2:Wn l m=(l.2 j).who:=by rw[Wn,e,if_pos hjl]
   have g1:(m≥(l.2 j).turn.fro)=True:=eq_true hm.1
   have g2:(m<(l.2 j).turn.til)=True:=eq_true hm.2
   simp only[fj,g1,g2,e2,↓reduceIte,reduceCtorEq,Nat.reduceEqDiff,Nat.reduceAdd,Nat.reduceLeDiff,Int.reduceNeg,go_sem]
   omega
  by_cases g:m≥(l.2 j).turn.fro
  ·have g1:(m≥(l.2 j).turn.fro)=True:=eq_true g
   have g2:(m<(l.2 j).turn.til)=False:=eq_false fun h=>hm ⟨g,h⟩
   simp only[fj,g1,g2,↓reduceIte,reduceCtorEq,Nat.reduceEqDiff,Nat.reduceAdd,Nat.reduceLeDiff,Int.reduceNeg,go_sem]
   refine⟨by omega,Af (j+1) ⟨hjl,fun i hi=> ?_⟩ (by omega) ?_⟩
   ·by_cases q:i=j
    ·subst q;exact hm
    exact hj2 i (by omega)
   simp only[↓reduceIte,reduceCtorEq,Nat.reduceEqDiff,go_sem]
   exact Cj (by omega)
  have g1:(m≥(l.2 j).turn.fro)=False:=eq_false g
  simp only[fj,g1,↓reduceIte,reduceCtorEq,Nat.reduceEqDiff,Nat.reduceAdd,Nat.reduceLeDiff,Int.reduceNeg,go_sem]
  refine⟨by omega,Af (j+1) ⟨hjl,fun i hi=> ?_⟩ (by omega) ?_⟩
  ·by_cases q:i=j
   ·subst q;exact hm
   exact hj2 i (by omega)
  simp only[↓reduceIte,reduceCtorEq,Nat.reduceEqDiff,go_sem]
  exact Cj (by omega)
 have fj:((j:Int)<(l.1:Int))=False:=eq_false (by omega)
 obtain rfl:j=l.1:=by omega
 have e:ofI l m=l.1:=He hj2
 have e2:Wn l m= -1:=by rw[Wn,e,if_neg (Nat.lt_irrefl _)]
 simp only[fj,e2,↓reduceIte,reduceCtorEq,Nat.reduceEqDiff,Int.reduceNeg,go_sem]
def Fb(l:Oh)(i:Nat):Int:=if i=0 then 0 else(l.2 (i-1)).turn.til
def XO(l:Oh)(i:Nat):Prop:=0<=(l.2 i).who/\(l.2 i).who<=9999/\(l.2 i).turn.fro=Fb l i/\Fb l i<(l.2 i).turn.til/\(0<i->(l.2 i).who≠(l.2 (i-1)).who)
def XJ(r:Ro)(l:Oh):Prop:=(∀i,i<l.1->XO l i)/\Fb l l.1=r.days*1440
noncomputable def Kf:As:=Cs Ja (Dw KF) (fun r _=>1<=r.days/\r.days<=16) fun r l=> .bool (A9 (XJ r l))
set_option maxHeartbeats 4000000 in
theorem UX:Ai Tryz.prog G 34 Kf:=by
 refine KK (S:=[]) (I:=[]) mixed .nil .nil Tryz.func34 c34 fun r l hp hw=> ?_
 obtain⟨p1,p2⟩:=hp
 simp only[Nat.reduceSub,Nat.reducePow,go_sem]at hw
 obtain⟨w1,w2⟩:=hw
 simp only[AU,a34,w2,↓reduceIte,reduceCtorEq,Nat.reduceEqDiff,Nat.reduceAdd,Nat.reduceSub,Nat.reducePow,go_sem]
 refine AK (ι:=Nat) (fun j=>j<=l.1/\∀i,i<j->XO l i) (fun j=>l.1-j) [1,2,8,9] (fun j=>[(5,.int .i64 (Fb l j)),(10,.int .i64 j)]) (fun _=>[]) 0 ⟨Nat.zero_le _,fun i h=>by omega⟩ (by simp only[Fb,↓reduceIte,reduceCtorEq,Nat.reduceEqDiff,Nat.reduceLT,go_sem];try rfl) fun j hj=> ?_
 obtain⟨hj1,hj2⟩:=hj
 by_cases hjl:j<l.1
 ·have fj:((j:Int)<(l.1:Int))=True:=eq_true (by omega)
  have no:¬XO l j->A9 (XJ r l)=false:=fun h=>An fun k=>h (k.1 j hjl)
  have hs:Fb l (j+1)=(l.2 j).turn.til:=by unfold Fb;rw[if_neg (by omega),Nat.add_sub_cancel]
  by_cases c1:(l.2 j).who<0
  ·have f1:((l.2 j).who<0)=True:=eq_true c1
   simp only[fj,f1,no fun h=>by have:=h.1;omega,↓reduceIte,reduceCtorEq,Nat.reduceEqDiff,Nat.reduceAdd,Nat.reduceSub,Nat.reduceLeDiff,go_sem]
   omega
  have f1:((l.2 j).who<0)=False:=eq_false c1
  by_cases c2:(l.2 j).who>9999
  ·have f2:((l.2 j).who>9999)=True:=eq_true c2
   simp only[fj,f1,f2,no fun h=>by have:=h.2.1;omega,↓reduceIte,reduceCtorEq,Nat.reduceEqDiff,Nat.reduceAdd,Nat.reduceSub,Nat.reduceLeDiff,go_sem]
   omega
  have f2:((l.2 j).who>9999)=False:=eq_false c2
  by_cases c3:(l.2 j).turn.fro=Fb l j
  case neg=>
   have f3:((l.2 j).turn.fro=Fb l j)=False:=eq_false c3
   simp only[fj,f1,f2,f3,no fun h=>c3 h.2.2.1,↓reduceIte,reduceCtorEq,Nat.reduceEqDiff,Nat.reduceAdd,Nat.reduceSub,Nat.reduceLeDiff,go_sem]
   omega
  have f3:((l.2 j).turn.fro=Fb l j)=True:=eq_true c3
  by_cases c4:(l.2 j).turn.til<=Fb l j
  ·have f4:((l.2 j).turn.til<=Fb l j)=True:=eq_true c4
   simp only[fj,f1,f2,f3,f4,no fun h=>by have:=h.2.2.2.1;omega,↓reduceIte,reduceCtorEq,Nat.reduceEqDiff,Nat.reduceAdd,Nat.reduceSub,Nat.reduceLeDiff,go_sem]
   omega
  have f4:((l.2 j).turn.til<=Fb l j)=False:=eq_false c4
  by_cases c5:0<j
  ·have f5:((j:Int)>0)=True:=eq_true (by omega)
   have f6:IntKind.i64.wrap ((j:Int)-1)=((j-1:Nat):Int):=by rw[AP (by omega) (by omega)];omega
   by_cases c7:(l.2 j).who=(l.2 (j-1)).who
   ·have f7:((l.2 j).who=(l.2 (j-1)).who)=True:=eq_true c7
    simp only[fj,f1,f2,f3,f4,f5,f6,f7,no fun h=>h.2.2.2.2 c5 c7,Int.toNat_natCast,↓reduceIte,reduceCtorEq,Nat.reduceEqDiff,Nat.reduceAdd,Nat.reduceSub,Nat.reduceLeDiff,go_sem]
    omega
   have f7:((l.2 j).who=(l.2 (j-1)).who)=False:=eq_false c7
   simp only[fj,f1,f2,f3,f4,f5,f6,f7,Int.toNat_natCast,↓reduceIte,reduceCtorEq,Nat.reduceEqDiff,Nat.reduceAdd,Nat.reduceSub,Nat.reduceLeDiff,go_sem]
   refine⟨by omega,by omega,by omega,Af (j+1) ⟨hjl,fun i hi=> ?_⟩ (by omega) ?_⟩
   ·by_cases q:i=j
    ·subst q;exact⟨by omega,by omega,c3,by omega,fun _=>c7⟩
    exact hj2 i (by omega)
   simp only[hs,↓reduceIte,reduceCtorEq,Nat.reduceEqDiff,Nat.reduceLT,go_sem]
   exact Cj (by omega)
  have f5:((j:Int)>0)=False:=eq_false (by omega)
  simp only[fj,f1,f2,f3,f4,f5,↓reduceIte,reduceCtorEq,Nat.reduceEqDiff,Nat.reduceAdd,Nat.reduceSub,Nat.reduceLeDiff,go_sem]
  refine⟨by omega,Af (j+1) ⟨hjl,fun i hi=> ?_⟩ (by omega) ?_⟩
  ·by_cases q:i=j
   ·subst q;exact⟨by omega,by omega,c3,by omega,fun h=>absurd h c5⟩
   exact hj2 i (by omega)
  simp only[hs,↓reduceIte,reduceCtorEq,Nat.reduceEqDiff,Nat.reduceLT,go_sem]
  exact Cj (by omega)
 have fj:((j:Int)<(l.1:Int))=False:=eq_false (by omega)
 obtain rfl:j=l.1:=by omega
 have hm:IntKind.i64.wrap (r.days*1440)=r.days*1440:=AP (by omega) (by omega)
 by_cases he:Fb l l.1=r.days*1440
 ·simp only[fj,he,hm,Au (show XJ r l from⟨hj2,he⟩),↓reduceIte,reduceCtorEq,Nat.reduceEqDiff,Nat.reduceAdd,Nat.reduceLeDiff,go_sem]
 have f1:(Fb l l.1=r.days*1440)=False:=eq_false he
 simp only[fj,f1,hm,An (fun h:XJ r l=>he h.2),↓reduceIte,reduceCtorEq,Nat.reduceEqDiff,Nat.reduceAdd,Nat.reduceLeDiff,go_sem]
structure EB(f:Nat->Int)(N:Nat):Prop where
 own:∀i,i<(Ah f N).1->XO (Ah f N) i
 fin:Fb (Ah f N) (Ah f N).1=N
 at_:∀i,i<(Ah f N).1->∀m:Nat,((Ah f N).2 i).turn.fro<=m->(m:Int)<((Ah f N).2 i).turn.til->f m=((Ah f N).2 i).who
theorem Yc(f:Nat->Int):∀N,(∀m,m<N->0<=f m/\f m<=9999)->EB f N
 |0,_=>⟨fun i hi=>absurd hi (Nat.not_lt_zero _),rfl,fun i hi=>absurd hi (Nat.not_lt_zero _)⟩
 |N+1,h=>by
  obtain⟨h1,h2,h3⟩:=Yc f N fun m hm=>h m (by omega)
  have hf:=h N (by omega)
  by_cases hc:0<(Ah f N).1/\((Ah f N).2 ((Ah f N).1-1)).who=f N
  ·obtain⟨j1,j2,j3⟩:=MF (m:=(N:Int)) hc.1 hc.2
   have e:Ah f (N+1)=Hi (Ah f N) N (f N):=rfl
   rw[<-e]at j1 j2 j3
   have hl:=h1 ((Ah f N).1-1) (by omega)
   have hN:((Ah f N).2 ((Ah f N).1-1)).turn.til=N:=by rw[<-h2,Fb,if_neg (by omega)]
   have hw:∀i,i<(Ah f N).1->Fb (Ah f (N+1)) i=Fb (Ah f N) i:=fun i hi=>by
    unfold Fb
    by_cases e0:i=0
    ·rw[if_pos e0,if_pos e0]
    rw[if_neg e0,if_neg e0,j2 (i-1) (by omega)]
   refine⟨fun i hi=> ?_,?_,fun i hi m m1 m2=> ?_⟩
   ·rw[j1]at hi
    by_cases e1:i=(Ah f N).1-1
    ·subst e1
     obtain⟨l1,l2,l3,l4,l5⟩:=hl
     unfold XO
     rw[hw _ hi,j3]
     refine⟨hf.1,hf.2,l3,by show _<(N:Int)+1;omega,fun h0=> ?_⟩
     rw[j2 _ (by omega)]
     show f N≠_
     rw[<-hc.2];exact l5 h0
    obtain⟨l1,l2,l3,l4,l5⟩:=h1 i hi
    unfold XO
    rw[hw _ hi,j2 i (by omega)]
    exact⟨l1,l2,l3,l4,fun h0=>by rw[j2 (i-1) (by omega)];exact l5 h0⟩
   ·rw[Fb,j1,if_neg (by omega),j3];show(N:Int)+1=_;omega
   rw[j1]at hi
   by_cases e1:i=(Ah f N).1-1
   ·subst e1
    rw[j3]at m1 m2⊢
    by_cases e2:m=N
    ·subst e2;rfl
    have m2:(m:Int)<(N:Int)+1:=m2
    rw[h3 _ hi m m1 (by omega)];exact hc.2
   rw[j2 i (by omega)]at m1 m2⊢
   exact h3 i hi m m1 m2
  obtain⟨j1,j2,j3⟩:=Nx (m:=(N:Int)) hc
  have e:Ah f (N+1)=Hi (Ah f N) N (f N):=rfl
  rw[<-e]at j1 j2 j3
  have hw:∀i,i<(Ah f N).1+1->Fb (Ah f (N+1)) i=Fb (Ah f N) i:=fun i hi=>by
   unfold Fb
   by_cases e0:i=0
   ·rw[if_pos e0,if_pos e0]
   rw[if_neg e0,if_neg e0,j2 (i-1) (by omega)]
  refine⟨fun i hi=> ?_,?_,fun i hi m m1 m2=> ?_⟩
  ·rw[j1]at hi
   by_cases e1:i=(Ah f N).1
   ·subst e1
    unfold XO
    rw[hw _ hi,j3,h2]
    refine⟨hf.1,hf.2,rfl,by show(N:Int)<(N:Int)+1;omega,fun h0=> ?_⟩
    rw[j2 _ (by omega)]
    show f N≠_
    exact fun q=>hc ⟨h0,q.symm⟩
   obtain⟨l1,l2,l3,l4,l5⟩:=h1 i (by omega)
   unfold XO
   rw[hw _ (by omega),j2 i (by omega)]
   exact⟨l1,l2,l3,l4,fun h0=>by rw[j2 (i-1) (by omega)];exact l5 h0⟩
  ·rw[Fb,j1,if_neg (by omega),Nat.add_sub_cancel,j3];show(N:Int)+1=_;omega
  rw[j1]at hi
  by_cases e1:i=(Ah f N).1
  ·subst e1
   rw[j3]at m1 m2⊢
   have m1:(N:Int)<=m:=m1
   have m2:(m:Int)<(N:Int)+1:=m2
   obtain rfl:m=N:=by omega
   rfl
  rw[j2 i (by omega)]at m1 m2⊢
  exact h3 i (by omega) m m1 m2
theorem EB.le(h:EB f N):∀d i,i+d=(Ah f N).1->Fb (Ah f N) i<=N
 |0,i,e=>by rw[<-h.fin,<-e];exact Int.le_refl _
 |d+1,i,e=>by
  have:=EB.le h d (i+1) (by omega)
  have h1:=(h.own i (by omega)).2.2.2.1
  have h2:Fb (Ah f N) (i+1)=((Ah f N).2 i).turn.til:=by unfold Fb;rw[if_neg (by omega),Nat.add_sub_cancel]
  omega
theorem EB.lo(h:EB f N):∀i,i<=(Ah f N).1->0<=Fb (Ah f N) i
 |0,_=>Int.le_refl _
 |i+1,hi=>by
  have:=EB.lo h i (by omega)
  have h1:=(h.own i (by omega)).2.2.2.1
  have h2:Fb (Ah f N) (i+1)=((Ah f N).2 i).turn.til:=by unfold Fb;rw[if_neg (by omega),Nat.add_sub_cancel]
  omega
theorem EB.of(h:EB f N){m:Nat}(hm:m<N):Wn (Ah f N) m=f m:=by
 have hex:∃i,i<(Ah f N).1/\((Ah f N).2 i).turn.fro<=m/\(m:Int)<((Ah f N).2 i).turn.til:=by
  have key:∀k,k<=(Ah f N).1->(m:Int)<Fb (Ah f N) k->∃i,i<k/\((Ah f N).2 i).turn.fro<=m/\(m:Int)<((Ah f N).2 i).turn.til:=fun k=>by
   induction k with
   |zero=>intro _ q;have q:(m:Int)<0:=q;omega
   |succ k ih=>
    intro hk q
    have h2:Fb (Ah f N) (k+1)=((Ah f N).2 k).turn.til:=by unfold Fb;rw[if_neg (by omega),Nat.add_sub_cancel]
    rw[h2]at q
    by_cases c:(m:Int)<Fb (Ah f N) k
    ·obtain⟨i,i1,i2⟩:=ih (by omega) c
     exact⟨i,by omega,i2⟩
    exact⟨k,by omega,by have:=(h.own k (by omega)).2.2.1;omega,q⟩
  exact key _ (Nat.le_refl _) (by rw[h.fin];omega)
 rcases Be (fun i=>((Ah f N).2 i).turn.fro<=(m:Int)/\(m:Int)<((Ah f N).2 i).turn.til) (Ah f N).1 with⟨g1,g2,_⟩|⟨_,g2⟩
 ·have g1:ofI (Ah f N) m<(Ah f N).1:=g1
  rw[Wn,if_pos g1]
  exact(h.at_ _ g1 m g2.1 g2.2).symm
 obtain⟨i,i1,i2⟩:=hex
 exact absurd i2 (g2 i i1)
theorem EB.whole(h:EB f N){r:Ro}(hr:(N:Int)=r.days*1440):XJ r (Ah f N):=⟨h.own,by rw[h.fin];exact hr⟩
end Go.Proofs.YtlieoghhkioflaaGreat
