/- Prices that prove a sum: the program's Proves. No condition. -/
import Derived.Test.YtlieoghhkioflaaGreatDat
import Derived.Test.YtlieoghhkioflaaGreatDPrv
import Derived.Test.YtlieoghhkioflaaGreatDsp
import Derived.Test.YtlieoghhkioflaaGreatDre
import Derived.Test.YtlieoghhkioflaaGreatDSrt
import Derived.Test.YtlieoghhkioflaaGreatLDez
import Derived.Test.YtlieoghhkioflaaGreatACode1
import Derived.Test.YtlieoghhkioflaaGreatDpy
import Derived.Test.YtlieoghhkioflaaGreatSoT
import Derived.Test.YtlieoghhkioflaaGreatACodeL8
set_option linter.unusedSimpArgs false
set_option linter.unusedVariables false
set_option maxRecDepth 100000
namespace Go.Proofs.YtlieoghhkioflaaGreat
open Go Go.RowKit
variable{G:Nat->Option (Nat×(Nat->Ad))}
theorem Ue:Ah Tryz.prog G 39 LD:=by
 refine fn3 (S:=[(73,JJ)]) (I:=[(82,ZX),(83,ZR)]) mixed (.cons JB .nil) (.cons Tryz.func82 c82 (.cons Tryz.func83 c83 .nil)) Tryz.func39 c39 fun t b p _ hw=> ?_
 simp only[Nat.reduceSub,Nat.reducePow,go_sem]at hw
 obtain⟨w1,w2⟩:=hw
 by_cases h0:FL t b=0
 ·have hoff:Om t/\∀i,i<b.1->Lk t (b.2 i):=by
   unfold FL at h0
   split at h0
   ·rename_i ht
    refine⟨AM.1 ht,?_⟩
    split at h0
    ·exact absurd h0 (by decide)
    split at h0
    ·rename_i hb;exact AM.1 hb
    exact absurd h0 (by decide)
   exact absurd h0 (by decide)
  obtain⟨ht,hb⟩:=hoff
  have hR:GQ t b p=if(Ol t b p).2=true then((Ol t b p).1,0)else(0,44):=by rw[GQ,if_pos h0]
  have no:¬TS t b p->GQ t b p=(0,44):=fun h=>by rw[hR,Ol,An h];rfl
  have yes:TS t b p->GQ t b p=(pre (pA p) p.1,0):=fun h=>by rw[hR,Ol,As h];rfl
  have bad:¬TS t b p->(0=(GQ t b p).1/\44=(GQ t b p).2):=fun h=>by rw[no h];exact⟨rfl,rfl⟩
  by_cases hm:60<p.1
  ·have fm:((p.1:Int)>60)=True:=eq_true (by omega)
   rw[no (fun h=>by have:=h.1;omega)]
   simp only[A4,a39,JJ,h0,fm,w1,w2,↓reduceIte,reduceCtorEq,Nat.reduceEqDiff,Nat.reduceAdd,Nat.reduceSub,Nat.reducePow,go_sem]
  have fm:((p.1:Int)>60)=False:=eq_false (by omega)
  simp only[A4,a39,ZX,ZR,JJ,h0,fm,w1,w2,↓reduceIte,reduceCtorEq,Nat.reduceEqDiff,Nat.reduceAdd,Nat.reduceSub,Nat.reduceLeDiff,Nat.reducePow,go_sem]
  refine AV (ι:=Nat) (fun j=>j<=p.1/\∀i,i<j->Jw t p i) (fun j=>p.1-j) [1,3,9,10,37,38] (fun j=>[(39,.int .i64 j)]) (fun j=>[(1,.mp .i64 (fun k=>(Gs (eA t p) (pA p) j k).isSome) (fun k=> .int .i64 ((Gs (eA t p) (pA p) j k).getD 0))),(2,.cells (.cons (.int .i64 t.fro) (.cons (.int .i64 (eA t p j)) .nil)))]) 0 ⟨by omega,fun i h=>by omega⟩ (by
   simp only[↓reduceIte,reduceCtorEq,Nat.reduceEqDiff,Nat.reduceLT,go_sem]
   refine⟨rfl,fun k=> ?_⟩
   by_cases hk:k=t.fro
   ·subst hk
    have e:Gs (eA t p) (pA p) 0 t.fro=some 0:=if_pos rfl
    rw[e];simp
   have e:Gs (eA t p) (pA p) 0 k=none:=if_neg hk
   rw[e];simp[hk]) fun j hj=> ?_
  obtain⟨hj1,hj2⟩:=hj
  have hun:=O3 (eA t p) (pA p) j
  by_cases hjl:j<p.1
  ·have fj:((j:Int)<(p.1:Int))=True:=eq_true (by omega)
   have hpre:=NZ t p j hj2
   simp only[fj,hun,Option.isSome_some,Option.getD_some,↓reduceIte,reduceCtorEq,Nat.reduceEqDiff,Nat.reduceAdd,Nat.reduceLeDiff,go_sem]
   have hsuc:eA t p (j+1)=(p.2 j).turn.til:=rfl
   have bj:¬Jw t p j->(0=(GQ t b p).1/\44=(GQ t b p).2):=fun h=>bad fun h2=>h (h2.2.1.1 j hjl)
   refine⟨by omega,fun c1=>bj fun h=>c1 h.1,fun c1=>⟨fun c2=>⟨fun c3=>⟨fun c4=>bj fun h=>c4 h.2.2.1,fun c4=>⟨fun c5=>⟨fun c6=>bj fun h=>c6 h.2.2.2.2,fun c6=> ?_⟩,fun c5=>bj fun h=>c5 h.2.2.2.1⟩⟩,fun c3=>bj fun h=>c3 (by rw[c1];exact h.2.1)⟩,fun c2=>absurd (by omega) c2⟩⟩
   refine Af (j+1) ⟨hjl,fun i hi=> ?_⟩ (by omega) ?_
   ·by_cases e:i=j
    ·subst e;exact⟨c1,by omega,c4,c5,c6⟩
    exact hj2 i (by omega)
   have hw':IntKind.i64.wrap (pre (pA p) j+(p.2 j).baisa)=pre (pA p) j+(p.2 j).baisa:=AU (by omega) (by omega)
   simp only[hw',↓reduceIte,reduceCtorEq,Nat.reduceEqDiff,Nat.reduceLT,go_sem]
   refine⟨Cs (by omega),hsuc.symm,fun k=> ?_⟩
   by_cases hk:k=(p.2 j).turn.til
   ·have e:Gs (eA t p) (pA p) (j+1) k=some (pre (pA p) j+(p.2 j).baisa):=by
     rw[Gs,if_pos (by rw[hsuc];exact hk),hun];rfl
    rw[e,if_pos hk,if_pos hk]
    exact⟨rfl,fun _=>rfl⟩
   have e:Gs (eA t p) (pA p) (j+1) k=Gs (eA t p) (pA p) j k:=by
    rw[Gs,if_neg (by rw[hsuc];exact hk)]
   rw[e,if_neg hk,if_neg hk]
   exact⟨rfl,fun _=>rfl⟩
  have fj:((j:Int)<(p.1:Int))=False:=eq_false (by omega)
  obtain rfl:j=p.1:=by omega
  by_cases hE:eA t p p.1=t.til
  ·rw[hE]at hun
   simp only[fj,hE,w1,↓reduceIte,reduceCtorEq,Nat.reduceEqDiff,Nat.reduceAdd,Nat.reduceSub,Nat.reducePow,go_sem]
   have hris:∀j,j<p.1->eA t p j<eA t p (j+1):=fun j hj=>(hj2 j hj).2.1
   have hany:∀k,k<b.1->(QM t p (b.2 k)↔((Gs (eA t p) (pA p) p.1 (b.2 k).turn.fro).isSome=true/\(Gs (eA t p) (pA p) p.1 (b.2 k).turn.til).isSome=true/\(b.2 k).baisa<=(Gs (eA t p) (pA p) p.1 (b.2 k).turn.til).getD 0-(Gs (eA t p) (pA p) p.1 (b.2 k).turn.fro).getD 0)):=fun k hk=>by
    obtain⟨_,⟨b1,b2,b3⟩,_⟩:=hb k hk
    rw[S8 (eA t p) (pA p) p.1 hris _ _ _ b1 b2 (by rw[hE];exact b3)]
    unfold QM
    rw[JW,JW]
    have q1:(∃i,i<p.1/\RL p (b.2 k).turn.fro i=true)↔∃i,i<p.1/\eA t p i=(b.2 k).turn.fro:=by
     constructor
     ·rintro⟨i,hi,h⟩;exact⟨i,hi,by rw[<-(hj2 i hi).1];exact of_decide_eq_true h⟩
     rintro⟨i,hi,h⟩;exact⟨i,hi,decide_eq_true (by rw[(hj2 i hi).1];exact h)⟩
    have q2:(∃i,i<p.1/\Rv p (b.2 k).turn.til i=true)↔∃i,i<p.1/\eA t p (i+1)=(b.2 k).turn.til:=by
     constructor
     ·rintro⟨i,hi,h⟩;exact⟨i,hi,of_decide_eq_true h⟩
     rintro⟨i,hi,h⟩;exact⟨i,hi,decide_eq_true h⟩
    rw[q1,q2]
   have hbnd:∀x,0<=(Gs (eA t p) (pA p) p.1 x).getD 0/\(Gs (eA t p) (pA p) p.1 x).getD 0<=720000000000:=fun x=>by
    by_cases hx:∃a,a<=p.1/\x=eA t p a
    ·obtain⟨a,ha,rfl⟩:=hx
     rw[G9 _ _ p.1 hris p.1 (Nat.le_refl _) a ha]
     have:=NZ t p a (fun i hi=>hj2 i (by omega))
     show 0<=pre (pA p) a/\pre (pA p) a<=720000000000
     omega
    rw[Hp _ _ x p.1 fun a ha e=>hx ⟨a,ha,e⟩];exact⟨by decide,by decide⟩
   refine AV (ι:=Nat) (fun k=>k<=b.1/\∀i,i<k->QM t p (b.2 i)) (fun k=>b.1-k) [3,9,84,85] (fun k=>[(86,.int .i64 k)]) (fun _=>[]) 0 ⟨by omega,fun i h=>by omega⟩ (by simp only[↓reduceIte,reduceCtorEq,Nat.reduceEqDiff,Nat.reduceLT,go_sem];try trace_state) fun k hk=> ?_
   obtain⟨hk1,hk2⟩:=hk
   by_cases hkl:k<b.1
   ·have fk:((k:Int)<(b.1:Int))=True:=eq_true (by omega)
    have bk:¬QM t p (b.2 k)->(0=(GQ t b p).1/\44=(GQ t b p).2):=fun h=>bad fun h2=>h (h2.2.2 k hkl)
    rw[hany k hkl]at bk
    have hok:=hany k hkl
    have u1:=hbnd (b.2 k).turn.fro
    have u2:=hbnd (b.2 k).turn.til
    generalize hU:Gs (eA t p) (pA p) p.1 (b.2 k).turn.fro=U at*
    generalize hV:Gs (eA t p) (pA p) p.1 (b.2 k).turn.til=V at*
    cases U with
    |none=>
     simp only[fk,hU,hV,Option.isSome_none,Option.getD_none,↓reduceIte,reduceCtorEq,Nat.reduceEqDiff,Nat.reduceAdd,Nat.reduceLeDiff,Nat.reduceLT,go_sem]
     have q:=bk fun h=>by cases h.1
     cases V<;>simp only[Option.isSome_some,Option.isSome_none,Option.getD_some,Option.getD_none,go_sem]<;>exact⟨by omega,q⟩
    |some u=>cases V with
     |none=>
      simp only[fk,hU,hV,Option.isSome_some,Option.isSome_none,Option.getD_some,Option.getD_none,↓reduceIte,reduceCtorEq,Nat.reduceEqDiff,Nat.reduceAdd,Nat.reduceLeDiff,Nat.reduceLT,go_sem]
      exact⟨by omega,bk fun h=>by cases h.2.1⟩
     |some v=>
      have u1':0<=u/\u<=720000000000:=u1
      have u2':0<=v/\v<=720000000000:=u2
      have hw':IntKind.i64.wrap (v-u)=v-u:=AU (by omega) (by omega)
      simp only[fk,hU,hV,hw',Option.isSome_some,Option.getD_some,↓reduceIte,reduceCtorEq,Nat.reduceEqDiff,Nat.reduceAdd,Nat.reduceLeDiff,Nat.reduceLT,go_sem]
      refine⟨by omega,fun c=>bk fun h=> ?_,fun c=>Af (k+1) ⟨hkl,fun i hi=> ?_⟩ (by omega) ?_⟩
      ·have h3:(b.2 k).baisa<=v-u:=h.2.2
       omega
      ·by_cases e:i=k
       ·subst e
        exact hok.2 ⟨rfl,rfl,by show(b.2 i).baisa<=v-u;omega⟩
       exact hk2 i (by omega)
      simp only[↓reduceIte,reduceCtorEq,Nat.reduceEqDiff,Nat.reduceLT,go_sem]
      exact Cs (by omega)
   have fk:((k:Int)<(b.1:Int))=False:=eq_false (by omega)
   obtain rfl:k=b.1:=by omega
   rw[yes ⟨by omega,⟨hj2,hE⟩,hk2⟩]
   simp only[fk,hun,Option.isSome_some,Option.getD_some,↓reduceIte,reduceCtorEq,Nat.reduceEqDiff,Nat.reduceAdd,go_sem]
  rw[no (fun h=>hE h.2.1.2)]
  simp only[fj,hE,w1,↓reduceIte,reduceCtorEq,Nat.reduceEqDiff,Nat.reduceAdd,Nat.reduceSub,Nat.reducePow,go_sem]
 rw[GQ,if_neg h0]
 simp only[A4,a39,JJ,h0,w1,w2,↓reduceIte,reduceCtorEq,Nat.reduceEqDiff,Nat.reduceAdd,Nat.reduceSub,Nat.reduceLeDiff,Nat.reducePow,go_sem]
end Go.Proofs.YtlieoghhkioflaaGreat
namespace Go.Proofs.YtlieoghhkioflaaGreat
open Go Go.RowKit
variable{G:Nat->Option (Nat×(Nat->Ad))}
def EE:At:=Cx TI TI (fun _ _=>True) fun a b=> .agg (Tu.L ⟨a,b⟩)
theorem J3:Ah Tryz.prog G 43 EE:=by
 refine Lm (S:=[]) (I:=[]) mixed .nil .nil Tryz.func43 c43 fun a b _ _=> ?_
 simp only[A4,a43,↓reduceIte,reduceCtorEq,Nat.reduceEqDiff,Nat.reduceAdd,Nat.reduceLeDiff,go_sem]
def JQ:At:=D5 TI TI TI (fun _ _ _=>True) fun w a b=> .agg (Ho.L ⟨w,⟨a,b⟩⟩)
theorem Ua:Ah Tryz.prog G 61 JQ:=by
 refine fn3 (S:=[(43,EE)]) (I:=[]) mixed (.cons J3 .nil) .nil Tryz.func61 c61 fun w a b _ _=> ?_
 simp only[A4,a61,EE,↓reduceIte,reduceCtorEq,Nat.reduceEqDiff,Nat.reduceAdd,Nat.reduceLeDiff,go_sem]
def LY:At:=Iw (.agg (Ro.L CJ))
theorem WT:Ah Tryz.prog G 40 LY:=by
 refine X0 (S:=[(61,JQ)]) (I:=[]) mixed (.cons Ua .nil) .nil Tryz.func40 c40 ?_
 simp only[A4,a40,JQ,↓reduceIte,reduceCtorEq,Nat.reduceEqDiff,Nat.reduceAdd,Nat.reduceLeDiff,Nat.reduceLT,go_sem]
 refine⟨rfl,rfl,fun i hi j hj=> ?_⟩
 rcases IY hi with rfl|rfl|rfl<;>rcases IY hj with rfl|rfl|rfl<;>exact rfl
theorem Ah.soft{P:Program}{id:FuncId}{e:TypeId}{pre:List Ad->Prop}{res res':List Ad->Ad}(h:Ah P G id ⟨pre,res,some e⟩)(hr:∀vs,pre vs->∃k n c c',res vs= .view k n c/\res' vs= .view k n c'/\∀i,i<n->∀j,j<k->AC (c' i j) (c i j)):Ah P G id ⟨pre,res',some e⟩:=by
 refine⟨h.ent,fun A w vs cs hG hr' hp=> ?_⟩
 obtain⟨k,n,c,c',e1,e2,e3⟩:=hr vs hp
 refine(h.run A w vs cs hG hr' hp).mono fun ex w'=> ?_
 simp only[e1,e2]
 rintro⟨x,q1,q2,q3,q4⟩
 refine⟨x,q1,BE _ _ _ ((Di ..).mpr ⟨rfl,e3⟩) q2,q3,fun e' he=> ?_⟩
 obtain⟨k',n',c'',r1,r2,r3,xs,r4,r5⟩:=q4 e' he
 cases r1
 exact⟨k,n,c',rfl,r2,r3,xs,r4,fun i hi j hj=>by
  obtain⟨y,y1,y2,y3⟩:=r5 i hi j hj
  exact⟨y,y1,y2,BE _ _ _ (e3 i hi j hj) y3⟩⟩
def deK(i j:Nat):Ad:=if j=8 then .nils else(BJ i).c j
def WX:At:=(Ak AZ (fun _=>True) fun _=> .view 9 3 deK).mine 56
theorem Aa2{i:Nat}(h:i<9):i=0\/i=1\/i=2\/i=3\/i=4\/i=5\/i=6\/i=7\/i=8:=by omega
theorem V4:Ah Tryz.prog G 41 WX:=by
 refine foT mixed (S:=[(43,EE)]) (I:=[]) (X:=[]) (N:=[]) (C:=[]) (.cons J3 .nil) .nil .nil Tryz.func41 c41 fun a _ hw=> ?_
 simp only[a41,EE,AZ,↓reduceIte,reduceCtorEq,Nat.reduceEqDiff,Nat.reduceAdd,Nat.reduceLeDiff,Nat.reduceLT,go_sem]
 refine⟨fun i hi j hj=> ?_,_,9,3,_,.inl ⟨rfl,rfl⟩,_,rfl,fun i hi j hj=> ?_⟩
 ·rcases IY hi with rfl|rfl|rfl<;>rcases Aa2 hj with rfl|rfl|rfl|rfl|rfl|rfl|rfl|rfl|rfl<;>exact BV _
 rcases IY hi with rfl|rfl|rfl<;>rcases Aa2 hj with rfl|rfl|rfl|rfl|rfl|rfl|rfl|rfl|rfl<;>exact⟨rfl,rfl⟩
def Lv:At:=(Ak AZ (fun _=>True) fun _=> .view 9 3 fun i j=>(BJ i).c j).mine 56
theorem WH:Ah Tryz.prog G 41 Lv:=Ah.soft V4 fun vs _=>⟨9,3,_,_,rfl,rfl,fun i hi j hj=>by
 unfold deK
 split
 ·rename_i h;subst h
  rcases IY hi with rfl|rfl|rfl<;>exact(MU ..).mpr rfl
 exact BV _⟩
def LE:At:=Iw (.agg (De.L (BJ 3)))
theorem VC:Ah Tryz.prog G 42 LE:=by
 refine X0 (S:=[]) (I:=[]) mixed .nil .nil Tryz.func42 c42 ?_
 simp only[A4,a42,↓reduceIte,reduceCtorEq,Nat.reduceEqDiff,Nat.reduceAdd,Nat.reduceLeDiff,Nat.reduceLT,go_sem]
 refine⟨rfl,rfl,rfl,rfl,rfl,rfl,rfl,rfl,rfl,fun i hi j hj=> ?_⟩
 rcases(show i=0\/i=1 from by have hi:i<2:=hi;omega)with rfl|rfl<;>rcases(show j=0\/j=1 by omega)with rfl|rfl<;>exact rfl
def Oz:At:=Iw (.view 4 4 fun i j=>(Kl i).c j)
theorem X5:Ah Tryz.prog G 44 Oz:=by
 refine X0 (S:=[(43,EE)]) (I:=[]) mixed (.cons J3 .nil) .nil Tryz.func44 c44 ?_
 simp only[A4,a44,EE,↓reduceIte,Nat.reduceEqDiff,Nat.reduceAdd,Nat.reduceLeDiff,Nat.reduceLT,go_sem]
 intro i hi j hj
 rcases H1 hi with rfl|rfl|rfl|rfl<;>rcases H1 hj with rfl|rfl|rfl|rfl<;>exact rfl
def JL:At:=Iw (.view 3 3 fun i j=>(pcC i).c j)
theorem UP:Ah Tryz.prog G 45 JL:=by
 refine X0 (S:=[(43,EE)]) (I:=[]) mixed (.cons J3 .nil) .nil Tryz.func45 c45 ?_
 simp only[A4,a45,EE,↓reduceIte,Nat.reduceEqDiff,Nat.reduceAdd,Nat.reduceLeDiff,Nat.reduceLT,go_sem]
 intro i hi j hj
 rcases IY hi with rfl|rfl|rfl<;>rcases IY hj with rfl|rfl|rfl<;>exact rfl
noncomputable def owQ(r:Ro)(l:F0)(d:Int):Ad:=if BP r l=0 then(if 0<=d/\d<=100000 then .tup (.cons (IV (Ap (H9 r l d).ow.2 (Ca r))) (.cons (IV (Ap (fun m=>FO (H9 r l d) m d) (Ca r))) (.cons (.int .i64 0) .nil)))else .tup (.cons .nils (.cons .nils (.cons (.int .i64 2) .nil))))else .tup (.cons .nils (.cons .nils (.cons (.int .i64 (BP r l)) .nil)))
noncomputable def Rd:At:=Ak (Ag KI (Ag (DD GI) (Ag TI AZ))) (fun _=>True) fun a=>owQ a.1 a.2.1 a.2.2.1
noncomputable def shQ(r:Ro)(l:F0)(d:Int):Ad:=if BP r l=0 then(if 0<=d/\d<=100000 then .tup (.cons (Vk (Cp (CS (H9 r l d).ow.2 (Ca r)) 10000)) (.cons (.int .i64 0) .nil))else .tup (.cons .nils (.cons (.int .i64 2) .nil)))else .tup (.cons .nils (.cons (.int .i64 (BP r l)) .nil))
noncomputable def YN:At:=Ak (Ag KI (Ag (DD GI) (Ag TI AZ))) (fun _=>True) fun a=>shQ a.1 a.2.1 a.2.2.1
noncomputable def reQ(r:Ro)(l:F0):Ad:=if BP r l=0 then .tup (.cons (.view 9 (Bg l).1 fun i j=>((Bg l).2 i).c j) (.cons (Zi r (Bg l)) (.cons (.int .i64 0) .nil)))else .tup (.cons .nils (.cons .nils (.cons (.int .i64 (BP r l)) .nil)))
noncomputable def Rh:At:=Ak (Ag KI (Ag (DD GI) AZ)) (fun _=>True) fun a=>reQ a.1 a.2.1
noncomputable def Zp(i:Nat):Hs:=(Cp (CS (AI CJ BJ 4).ow.2 1440) 10000).2 i
noncomputable def AbG(i:Nat):De:=(Bg (3,BJ)).2 i
noncomputable def Qr(i:Nat):Int:=BA (AI CJ (Bg (3,BJ)).2 i) ((Bg (3,BJ)).2 i)
theorem XS:Ex (3,BJ):=⟨by decide,fun _ _=>rfl⟩
theorem Aaa:Ca CJ=1440:=rfl
theorem Ph{f:Nat->Int}{N a n:Nat}{L:Nat->Ho}(hN:N=a)(h:RS f a n L):∃g:Nat->Ho,IV (Ap f N)= .view 3 n (fun i j=>(g i).c j)/\∀i,i<n->g i=L i:=by
 subst hN
 exact⟨(Ap f N).2,by rw[IV,h.1],h.2⟩
theorem Acv:∃g h:Nat->Ho,owQ CJ (3,BJ) 20= .tup (.cons (.view 3 4 fun i j=>(g i).c j) (.cons (.view 3 5 fun i j=>(h i).c j) (.cons (.int .i64 0) .nil)))/\(∀i,i<4->g i=XP i)/\∀i,i<5->h i=Zo i:=by
 have hu:Bc (Bg (3,BJ)) 20=3:=So XS (Nat.le_refl _) (fun i hi=>by rcases IY hi with rfl|rfl|rfl<;>decide) fun i h1 h2=>by have h2:i<3:=h2;omega
 have hb:H9 CJ (3,BJ) 20=AI CJ BJ 3:=by unfold H9;rw[hu,OY XS 3 (Nat.le_refl _)]
 obtain⟨g,g1,g2⟩:=Ph Aaa Abo
 obtain⟨h,h1,h2⟩:=Ph Aaa AaF
 refine⟨g,h,?_,g2,h2⟩
 unfold owQ
 rw[if_pos (OC XS),if_pos ⟨by decide,by decide⟩,hb,g1,h1]
theorem AaT(i:Nat)(hi:i<4):Zp i=XH i:=Pr.2 i hi
theorem AcO{f:Nat->De}(h0:f 0=BJ 0)(h1:f 1=BJ 1)(h2:f 2=BJ 2)(h3:f 3=BJ 3):shQ CJ (4,f) 40= .tup (.cons (.view 2 4 fun i j=>(Zp i).c j) (.cons (.int .i64 0) .nil)):=by
 have he:Ex (4,f):=⟨Nat.le_refl 4,fun i hi=>by rcases H1 hi with rfl|rfl|rfl|rfl<;>assumption⟩
 have hu:Bc (Bg (4,f)) 40=4:=So he (Nat.le_refl _) (fun i hi=>by rcases H1 hi with rfl|rfl|rfl|rfl<;>decide) fun i h1 h2=>by have h2:i<4:=h2;omega
 have hb:H9 CJ (4,f) 40=AI CJ BJ 4:=by unfold H9;rw[hu,OY he 4 (Nat.le_refl _)]
 unfold shQ
 rw[if_pos (OC he),if_pos ⟨by decide,by decide⟩,hb,show Ca CJ=1440 from rfl]
 unfold Vk Zp
 rw[Pr.1]
theorem AbU:reQ CJ (3,BJ)= .tup (.cons (.view 9 3 fun i j=>(AbG i).c j) (.cons (.view 1 3 fun i _=> .int .u8 (Qr i)) (.cons (.int .i64 0) .nil))):=by
 unfold reQ Zi
 rw[if_pos (OC XS),(Qk XS).1];rfl
theorem Aas:Qr 0=0/\Qr 1=2/\Qr 2=0:=by
 have h (i:Nat) (hi:i<3):Qr i=BA (AI CJ BJ i) (BJ i):=by
  unfold Qr
  rw[OY XS i (by show i<=3;omega),(Qk XS).2 i hi]
 exact⟨(h 0 (by decide)).trans v0C,(h 1 (by decide)).trans v1C,(h 2 (by decide)).trans v2C⟩
noncomputable def pcV(i:Nat):Pc:=(Ly NS (4,Kl)).2 i
noncomputable def AbV(i:Nat):Int:=RO [1,2] i
theorem Acg:WM NS (4,Kl)= .tup (.cons (.view 1 2 fun i _=> .int .i64 (AbV i)) (.cons (.int .i64 65) (.cons (.int .i64 0) .nil))):=by
 unfold WM
 rw[if_pos Yn,show NS.til=100 from rfl,Acj];rfl
theorem Acn:Wi NS (4,Kl)= .tup (.cons (.view 3 3 fun i j=>(pcV i).c j) (.cons (.int .i64 0) .nil)):=by
 unfold Wi
 rw[if_pos Yn,AaS.1];rfl
theorem He{α:Type}{a b:Nat×(Nat->α)}(h:K1 a b=false)(h1:a.1=b.1)(h2:∀i,i<a.1->a.2 i=b.2 i):False:=by
 have:=h.symm.trans (As ⟨h1,h2⟩);cases this
def HR:At:=Iw (.bool true)
set_option maxHeartbeats 8000000 in
theorem X9:Ah Tryz.prog G 25 HR:=by
 refine X0 (S:=[(43,EE),(61,JQ),(40,LY),(41,Lv),(42,LE),(44,Oz),(45,JL),(16,Rd),(29,Rh),(18,YN),(36,ZB),(38,Zn),(39,LD),(22,Hc),(23,L8),(62,OP),(63,L6)]) (I:=[]) mixed
  (.cons J3 (.cons Ua (.cons WT (.cons WH (.cons VC (.cons X5 (.cons UP (.cons (show Ah Tryz.prog G _ Rd from Mz) (.cons (show Ah Tryz.prog G _ Rh from Tb) (.cons (show Ah Tryz.prog G _ YN from TR) (.cons Ra (.cons TN (.cons Ue (.cons PH (.cons VK (.cons XD (.cons U7 .nil))))))))))))))))) .nil Tryz.func25 c25 ?_
 obtain⟨ownV,useV,n1,ownVC,useVC⟩:=Acv
 have n2:=AbU
 have n4:=Acg
 have n5:=Acn
 have n6:=Ab0 (p:=(3,pcC)) rfl fun _ _=>rfl
 have t0:(⟨0,100⟩:Tu)=NS:=rfl
 have g1:(CJ.holds.1<=9223372036854775807)=True:=eq_true (by decide)
 have g2:((BJ 3).heirs.1<=9223372036854775807)=True:=eq_true (by decide)
 simp(config:={maxSteps:=1000000}) only[A4,a25,EE,JQ,LY,Lv,LE,Oz,JL,Rd,Rh,YN,ZB,Zn,LD,Hc,L8,OP,L6,Ak,At.mine,Ag,AZ,n1,n2,n4,n5,n6,t0,g1,g2,AcO,↓reduceIte,reduceCtorEq,Nat.reduceEqDiff,Nat.reduceAdd,Nat.reduceSub,Nat.reduceLeDiff,Nat.reduceMul,Nat.reduceLT,Nat.reducePow,go_sem]
 have lt5:∀{i:Nat},i<5->i=0\/i=1\/i=2\/i=3\/i=4:=fun h=>by omega
 have lt2:∀{i:Nat},i<2->i=0\/i=1:=fun h=>by omega
 refine⟨fun i hi=> ?_,fun i hi=> ?_,fun q1=>⟨fun i hi=> ?_,fun q2=>⟨fun i hi=> ?_,fun q3=>⟨fun i hi=> ?_,fun q4=>⟨fun i hi=> ?_,fun q5 q6=>He q6 rfl fun i hi=>AaS.2 i hi,fun q5=>He q5 rfl fun i hi=> ?_⟩,fun q4=>He q4 rfl fun i hi=>(AaT i hi).trans ?_⟩,fun q3=> ?_⟩,fun q2=>He q2 rfl fun i hi=>(useVC i hi).trans ?_⟩,fun q1=>He q1 rfl fun i hi=>(ownVC i hi).trans ?_⟩
 ·rcases H1 hi with rfl|rfl|rfl|rfl
  ·exact of_eq_true (De.w_c (BJ 0))
  ·exact of_eq_true (De.w_c (BJ 1))
  ·exact of_eq_true (De.w_c (BJ 2))
  exact of_eq_true (De.w_c (BJ 3))
 ·rcases H1 hi with rfl|rfl|rfl|rfl<;>exact⟨rfl,rfl,rfl⟩
 ·rcases lt5 hi with rfl|rfl|rfl|rfl|rfl<;>exact⟨rfl,rfl,rfl⟩
 ·obtain⟨v0,v1,v2⟩:=Aas
  rcases IY hi with rfl|rfl|rfl
  ·rw[v0];decide
  ·rw[v1];decide
  rw[v2];decide
 ·rcases H1 hi with rfl|rfl|rfl|rfl<;>exact⟨rfl,rfl⟩
 ·rcases lt2 hi with rfl|rfl<;>exact rfl
 ·rcases lt2 hi with rfl|rfl<;>exact rfl
 ·have hi:i<4:=hi
  rcases H1 hi with rfl|rfl|rfl|rfl<;>exact rfl
 ·obtain⟨v0,v1,v2⟩:=Aas
  refine(@decide_eq_false_iff_not _ (Classical.propDecidable _)).1 q3 ⟨rfl,fun i hi=> ?_⟩
  rcases IY hi with rfl|rfl|rfl<;>assumption
 ·have hi:i<5:=hi
  rcases lt5 hi with rfl|rfl|rfl|rfl|rfl<;>exact rfl
 have hi:i<4:=hi
 rcases H1 hi with rfl|rfl|rfl|rfl<;>exact rfl
end Go.Proofs.YtlieoghhkioflaaGreat
namespace Go.Proofs.YtlieoghhkioflaaGreat
open Go Go.RowKit
variable{N:Nat}{f:Nat->Int}
variable{G:Nat->Option (Nat×(Nat->Ad))}
noncomputable def To(r:Ro)(l:F0):Bool:=Bb (JH r l=false/\BP r l=0)
noncomputable def Ic:At:=Cx KI (DD GI) (fun _ _=>True) fun r l=> .bool (To r l)
theorem ZN:Ah Tryz.prog G 26 Ic:=by
 refine Lm (S:=[(14,Gp),(64,Hm),(65,I2)]) (I:=[]) mixed (.cons U6 (.cons VZ (.cons Xb .nil))) .nil Tryz.func26 c26 fun r l _ hw=> ?_
 simp only[Nat.reduceSub,Nat.reducePow,go_sem]at hw
 obtain⟨w1,w2⟩:=hw
 have hb:To r l=Bb (JH r l=false/\BP r l=0):=rfl
 by_cases hg:JH r l=true
 ·rw[hg,An (fun h=>by cases h.1)]at hb
  simp only[A4,a26,Gp,hg,hb,w1,w2,↓reduceIte,reduceCtorEq,Nat.reduceEqDiff,Nat.reduceAdd,Nat.reduceSub,Nat.reducePow,go_sem]
 have hg:JH r l=false:=by simpa using hg
 by_cases hr:EI r
 ·have hp:(1<=r.days/\r.days<=16)=True:=eq_true ⟨hr.1,hr.2.1⟩
  have ha:BP r l=CU r l:=by rw[BP,As hr,if_pos rfl]
  rw[hg,ha]at hb
  by_cases hd:CU r l=0
  ·rw[As ⟨rfl,hd⟩]at hb
   simp only[A4,a26,Gp,Hm,I2,hg,As hr,hp,hd,hb,w1,w2,↓reduceIte,reduceCtorEq,Nat.reduceEqDiff,Nat.reduceAdd,Nat.reduceSub,Nat.reducePow,go_sem]
  rw[An (fun h=>hd h.2)]at hb
  simp only[A4,a26,Gp,Hm,I2,hg,As hr,hp,hd,hb,w1,w2,↓reduceIte,reduceCtorEq,Nat.reduceEqDiff,Nat.reduceAdd,Nat.reduceSub,Nat.reducePow,go_sem]
 have ha:BP r l=40:=by rw[BP,An hr];rfl
 rw[hg,ha,An (fun h=>absurd h.2 (by decide))]at hb
 simp only[A4,a26,Gp,Hm,hg,An hr,hb,w1,w2,↓reduceIte,reduceCtorEq,Nat.reduceEqDiff,Nat.reduceAdd,Nat.reduceSub,Int.reduceBEq,Nat.reducePow,go_sem]
theorem Aa8{r:Ro}{l:F0}(h:To r l=true):TL r l/\BP r l=0:=by
 obtain⟨h1,h2⟩:=AM.1 h
 have h3:=BZ.1 h1
 refine⟨⟨by omega,fun i hi=> ?_⟩,h2⟩
 rcases Nat.lt_or_ge 12 (l.2 i).heirs.1 with q|q
 ·exact absurd (.inr (.inr ⟨i,hi,q⟩)) h3
 exact q
noncomputable def ofI(l:RW)(m:Int):Nat:=Cn (fun i=>(l.2 i).turn.fro<=m/\m<(l.2 i).turn.til) l.1
noncomputable def ofF(l:RW)(m:Int):Int:=if ofI l m<l.1 then(l.2 (ofI l m)).who else-1
def Pw(l:RW)(i:Nat):Int:=if i=0 then 0 else(l.2 (i-1)).turn.til
def Wh1(l:RW)(i:Nat):Prop:=0<=(l.2 i).who/\(l.2 i).who<=9999/\(l.2 i).turn.fro=Pw l i/\Pw l i<(l.2 i).turn.til/\(0<i->(l.2 i).who≠(l.2 (i-1)).who)
def WhP(r:Ro)(l:RW):Prop:=(∀i,i<l.1->Wh1 l i)/\Pw l l.1=r.days*1440
structure Kn(f:Nat->Int)(N:Nat):Prop where
 own:∀i,i<(Ap f N).1->Wh1 (Ap f N) i
 fin:Pw (Ap f N) (Ap f N).1=N
 at_:∀i,i<(Ap f N).1->∀m:Nat,((Ap f N).2 i).turn.fro<=m->(m:Int)<((Ap f N).2 i).turn.til->f m=((Ap f N).2 i).who
theorem Kn.le(h:Kn f N):∀d i,i+d=(Ap f N).1->Pw (Ap f N) i<=N
 |0,i,e=>by rw[<-h.fin,<-e];exact Int.le_refl _
 |d+1,i,e=>by
  have:=Kn.le h d (i+1) (by omega)
  have h1:=(h.own i (by omega)).2.2.2.1
  have h2:Pw (Ap f N) (i+1)=((Ap f N).2 i).turn.til:=by unfold Pw;rw[if_neg (by omega),Nat.add_sub_cancel]
  omega
theorem Kn.lo(h:Kn f N):∀i,i<=(Ap f N).1->0<=Pw (Ap f N) i
 |0,_=>Int.le_refl _
 |i+1,hi=>by
  have:=Kn.lo h i (by omega)
  have h1:=(h.own i (by omega)).2.2.2.1
  have h2:Pw (Ap f N) (i+1)=((Ap f N).2 i).turn.til:=by unfold Pw;rw[if_neg (by omega),Nat.add_sub_cancel]
  omega
theorem Kn.of(h:Kn f N){m:Nat}(hm:m<N):ofF (Ap f N) m=f m:=by
 have hex:∃i,i<(Ap f N).1/\((Ap f N).2 i).turn.fro<=m/\(m:Int)<((Ap f N).2 i).turn.til:=by
  have key:∀k,k<=(Ap f N).1->(m:Int)<Pw (Ap f N) k->∃i,i<k/\((Ap f N).2 i).turn.fro<=m/\(m:Int)<((Ap f N).2 i).turn.til:=fun k=>by
   induction k with
   |zero=>intro _ q;have q:(m:Int)<0:=q;omega
   |succ k ih=>
    intro hk q
    have h2:Pw (Ap f N) (k+1)=((Ap f N).2 k).turn.til:=by unfold Pw;rw[if_neg (by omega),Nat.add_sub_cancel]
    rw[h2]at q
    by_cases c:(m:Int)<Pw (Ap f N) k
    ·obtain⟨i,i1,i2⟩:=ih (by omega) c
     exact⟨i,by omega,i2⟩
    exact⟨k,by omega,by have:=(h.own k (by omega)).2.2.1;omega,q⟩
  exact key _ (Nat.le_refl _) (by rw[h.fin];omega)
 rcases Bl (fun i=>((Ap f N).2 i).turn.fro<=(m:Int)/\(m:Int)<((Ap f N).2 i).turn.til) (Ap f N).1 with⟨g1,g2,_⟩|⟨_,g2⟩
 ·have g1:ofI (Ap f N) m<(Ap f N).1:=g1
  rw[ofF,if_pos g1]
  exact(h.at_ _ g1 m g2.1 g2.2).symm
 obtain⟨i,i1,i2⟩:=hex
 exact absurd i2 (g2 i i1)
theorem Kn.whole(h:Kn f N){r:Ro}(hr:(N:Int)=r.days*1440):WhP r (Ap f N):=⟨h.own,by rw[h.fin];exact hr⟩
end Go.Proofs.YtlieoghhkioflaaGreat
namespace Go.Proofs.YtlieoghhkioflaaGreat
theorem Lu(l:F0)(d:Int):Bc l d<=l.1:=by
 have:=Bl (fun i=>d<(l.2 i).day) l.1
 unfold Bc;omega
theorem Abt{r:Ro}{l:F0}(ha:BP r l=0):∀i,i<(Bg l).1->Do r ((Bg l).2 i):=fun i hi=>by
 obtain⟨k,k1,_,k2⟩:=Fu l i hi
 rw[k2];exact(C4 ha).2.2.1 k k1
end Go.Proofs.YtlieoghhkioflaaGreat
namespace Go.Proofs.YtlieoghhkioflaaGreat
open Go Go.RowKit
variable{G:Nat->Option (Nat×(Nat->Ad))}
theorem Pb{r:Ro}{l:F0}{d:Int}(ha:BP r l=0)(h0:0<=d)(h1:d<=100000):owQ r l d= .tup (.cons (IV (Ap (H9 r l d).ow.2 (Ca r))) (.cons (IV (Ap (fun m=>FO (H9 r l d) m d) (Ca r))) (.cons (.int .i64 0) .nil))):=by
 rw[owQ,if_pos ha,if_pos ⟨h0,h1⟩]
theorem Wu{r:Ro}(hr:EI r):Ca r<=23040/\(Ca r:Int)=r.days*1440:=by
 have:=hr.1;have:=hr.2.1;unfold Ca;omega
end Go.Proofs.YtlieoghhkioflaaGreat
