/- Auctions: prices bound what bids pay, plain. No condition. -/
import Derived.Test.YtlieoghhkioflaaGreatDPvP
import Derived.Test.YtlieoghhkioflaaGreatDPrv
import Derived.Test.YtlieoghhkioflaaGreatACodeL11
set_option linter.unusedSimpArgs false
set_option linter.unusedVariables false
set_option maxRecDepth 100000
namespace Go.Proofs.YtlieoghhkioflaaGreat
variable{b:Ku}{p:Mq}{t:Tu}
theorem Px(F T E P:Nat->Int)(i:Nat)(hE:E i<E (i+1))(hP:0<=P i):∀e:List Nat,pw F T e=true->0<=(e.map fun k=>if F k<=E i/\E (i+1)<=T k then P i else 0).sum/\(e.map fun k=>if F k<=E i/\E (i+1)<=T k then P i else 0).sum<=P i/\((∀k∈e,¬(F k<=E i/\E (i+1)<=T k))->(e.map fun k=>if F k<=E i/\E (i+1)<=T k then P i else 0).sum=0)
 |[],_=>⟨Int.le_refl _,hP,fun _=>rfl⟩
 |k::e,h=>by
  rw[pw,Bool.and_eq_true,List.all_eq_true]at h
  obtain⟨i1,i2,i3⟩:=Px F T E P i hE hP e h.2
  rw[List.map_cons,List.sum_cons]
  by_cases c:F k<=E i/\E (i+1)<=T k
  ·have z:=i3 fun q hq c2=>by
    have:=h.1 q hq
    unfold Kk at this
    rw[Bool.or_eq_true,decide_eq_true_eq,decide_eq_true_eq]at this
    omega
   rw[if_pos c,z]
   exact⟨by omega,by omega,fun h4=>absurd c (h4 k (by simp))⟩
  rw[if_neg c]
  exact⟨by omega,by omega,fun h4=>by rw[i3 fun q hq=>h4 q (by simp[hq])];rfl⟩
theorem Qq(F T E P:Nat->Int)(e:List Nat)(he:pw F T e=true):∀m,(∀i,i<m->E i<E (i+1)/\0<=P i)->(e.map fun k=>Mu E P (F k) (T k) m).sum<=pre P m
 |0,_=>by
  have:∀l:List Nat,(l.map fun k=>Mu E P (F k) (T k) 0).sum=0:=fun l=>by
   induction l with
   |nil=>rfl
   |cons a l ih=>rw[List.map_cons,List.sum_cons,ih];rfl
  rw[this];exact Int.le_refl _
 |m+1,h=>by
  have ih:=Qq F T E P e he m fun i hi=>h i (by omega)
  have hc:=(Px F T E P m (h m (by omega)).1 (h m (by omega)).2 e he).2.1
  have hs:∀l:List Nat,(l.map fun k=>Mu E P (F k) (T k) (m+1)).sum=(l.map fun k=>Mu E P (F k) (T k) m).sum+(l.map fun k=>if F k<=E m/\E (m+1)<=T k then P m else 0).sum:=fun l=>by
   induction l with
   |nil=>rfl
   |cons a l ih=>rw[List.map_cons,List.sum_cons,ih,List.map_cons,List.sum_cons,List.map_cons,List.sum_cons,Mu];omega
  rw[hs,pre];omega
theorem GQ.bound(h:GQ t b p)(hb:∀i,i<b.1->H1 t (b.2 i)){e:List Nat}(e1:e.Pairwise (fun x y=>x<y))(e2:∀i∈e,i<b.1)(e3:Xo b (lv e)):FM b (lv e) e.length<=pre (pA p) p.1:=by
 obtain⟨_,⟨h1,_⟩,h2⟩:=h
 have hp:=(OC b e e1 fun i hi=>(hb i (e2 i hi)).2.1.2.1).1 e3
 have hc:=Qq (bF b) (bT b) (eA t p) (pA p) e hp p.1 fun i hi=>⟨(h1 i hi).2.1,(h1 i hi).2.2.2.1⟩
 rw[Jl]
 refine Int.le_trans ?_ hc
 have hle:∀l:List Nat,(∀i∈l,i<b.1)->DV (bV b) l<=(l.map fun k=>Mu (eA t p) (pA p) (bF b k) (bT b k) p.1).sum:=fun l hl=>by
  induction l with
  |nil=>exact Int.le_refl _
  |cons a l ih=>
   have h3:=(h2 a (hl a (by simp))).2.2
   have h4:=ih fun i hi=>hl i (by simp[hi])
   unfold DV at h4⊢
   rw[List.map_cons,List.sum_cons,List.map_cons,List.sum_cons]
   have h3:bV b a<=Mu (eA t p) (pA p) (bF b a) (bT b a) p.1:=h3
   omega
 exact hle e e2
theorem Nx(E P P':Nat->Int)(F T:Int):∀m,(∀i,i<m->P i<=P' i)->Mu E P F T m<=Mu E P' F T m
 |0,_=>Int.le_refl _
 |m+1,h=>by
  have:=Nx E P P' F T m fun i hi=>h i (by omega)
  have:=h m (by omega)
  rw[Mu,Mu];split<;>omega
theorem Td(P P':Nat->Int)(k:Nat)(d:Int):∀m,(∀i,i<m->P' i=P i+if i=k then d else 0)->pre P' m=pre P m+if k<m then d else 0
 |0,_=>by rw[if_neg (Nat.not_lt_zero _)];rfl
 |m+1,h=>by
  have h1:=Td P P' k d m fun i hi=>h i (by omega)
  have h2:=h m (by omega)
  rw[pre,pre,h1,h2]
  by_cases e:m=k
  ·subst e;rw[if_neg (Nat.lt_irrefl _),if_pos rfl,if_pos (Nat.lt_succ_self _)];omega
  rw[if_neg e]
  by_cases c:k<m
  ·rw[if_pos c,if_pos (by omega)];omega
  rw[if_neg c,if_neg (by omega)];omega
def N4(p:Mq)(k:Nat)(d:Int):Mq:=(p.1,fun i=>if i=k then⟨(p.2 i).turn,(p.2 i).baisa+d⟩else p.2 i)
theorem Hu(p:Mq)(k:Nat)(d:Int)(i:Nat):((N4 p k d).2 i).turn=(p.2 i).turn:=by
 show(if i=k then(⟨(p.2 i).turn,(p.2 i).baisa+d⟩:Pc)else p.2 i).turn=_
 split<;>rfl
theorem Oo(p:Mq)(k:Nat)(d:Int)(i:Nat):pA (N4 p k d) i=pA p i+if i=k then d else 0:=by
 show(if i=k then(⟨(p.2 i).turn,(p.2 i).baisa+d⟩:Pc)else p.2 i).baisa=_
 split
 ·rfl
 show(p.2 i).baisa=(p.2 i).baisa+0;omega
theorem YE(t:Tu)(p:Mq)(k:Nat)(d:Int):∀i,eA t (N4 p k d) i=eA t p i
 |0=>rfl
 |i+1=>by show((N4 p k d).2 i).turn.til=_;rw[Hu];rfl
theorem GQ.up(h:GQ t b p){k:Nat}(hk:k<p.1){d:Int}(h0:0<=d)(h1:(p.2 k).baisa+d<=12000000000):GQ t b (N4 p k d)/\pre (pA (N4 p k d)) p.1=pre (pA p) p.1+d:=by
 obtain⟨g1,⟨g2,g3⟩,g4⟩:=h
 have hE:eA t (N4 p k d)=eA t p:=funext (YE t p k d)
 refine⟨⟨g1,⟨fun j hj=> ?_,?_⟩,fun q hq=> ?_⟩,?_⟩
 ·obtain⟨q1,q2,q3,q4,q5⟩:=g2 j hj
  unfold IF
  rw[Hu,hE,Oo]
  refine⟨q1,q2,q3,?_,?_⟩
  ·split<;>omega
  split
  ·rename_i e;subst e
   have:pA p j=(p.2 j).baisa:=rfl
   omega
  omega
 ·rw[hE];exact g3
 ·obtain⟨q1,q2,q3⟩:=g4 q hq
  have hf:LD (N4 p k d) (b.2 q).turn.fro=LD p (b.2 q).turn.fro:=funext fun i=>by unfold LD;rw[Hu]
  have ht:LE (N4 p k d) (b.2 q).turn.til=LE p (b.2 q).turn.til:=funext fun i=>by unfold LE;rw[Hu]
  unfold Ok
  rw[hf,ht,hE]
  refine⟨q1,q2,Int.le_trans q3 (Nx _ _ _ _ _ p.1 fun i _=> ?_)⟩
  rw[Oo];split<;>omega
 rw[Td (pA p) (pA (N4 p k d)) k d p.1 fun i _=>Oo p k d i,if_pos hk]
theorem P3(h0:C8 t b=0)(h:GQ t b p):E0 t b p=(pre (pA p) p.1,0):=by
 rw[E0,if_pos h0,Mc,AA h];rfl
theorem WM(h0:C8 t b=0)(h:¬GQ t b p):E0 t b p=(0,44):=by
 rw[E0,if_pos h0,Mc,Ax h];rfl
theorem GQ.pos(h:GQ t b p)(ht:t.fro<t.til):0<p.1:=by
 rcases Nat.eq_zero_or_pos p.1 with e|e
 ·have:=h.2.1.2
  rw[e]at this
  have:t.fro=t.til:=this
  omega
 exact e
end Go.Proofs.YtlieoghhkioflaaGreat
namespace Go.Proofs.YtlieoghhkioflaaGreat
open Go Go.RowKit
variable{G:Nat->Option (Nat×(Nat->Ad))}
def WD:At:=KM Tg (Du NA) (Du UY) (TU .u16) (TU .u8) (TU .u32) (fun _ _ _ _ _ _=>True) fun _ _ _ _ _ _=> .bool true
set_option maxHeartbeats 4000000 in
theorem W3:Ai Tryz.prog G 11 WD:=by
 refine fn6 (S:=[(25,Fu),(35,Ll),(39,Gu),(36,Ps),(37,T9)]) (I:=[]) mixed
  (.cons TX (.cons Aax (.cons MQ (.cons H0 (.cons Aaj .nil))))) .nil Tryz.func11 c11 fun t b p set which more _ hw=> ?_
 simp only[Nat.reduceSub,Nat.reducePow,go_sem]at hw
 obtain⟨w1,w2⟩:=hw
 by_cases h0:C8 t b=0
 ·have f0:Bf (C8 t b=0)=true:=AA h0
  by_cases hg2:80<p.1
  ·have g2:((p.1:Int)>80)=True:=eq_true (by omega)
   simp only[A9,a11,Fu,Ll,f0,g2,w1,w2,↓reduceIte,reduceCtorEq,Nat.reduceEqDiff,Nat.reduceAdd,Nat.reduceSub,Nat.reducePow,go_sem]
  have g2:((p.1:Int)>80)=False:=eq_false (by omega)
  have hA:=Tt h0
  by_cases hP:GQ t b p
  ·have hv:=P3 h0 hP
   have ha:M4 t b= .tup (.cons (lV (D2 b t.til).1) (.cons (.int .i64 (D2 b t.til).2) (.cons (.int .i64 0) .nil))):=by rw[M4,if_pos h0]
   have hW:=hA.wins t.til
   have hbd:=fun(e:List Nat) e1 e2 e3=>hP.bound (e:=e) hA.bd e1 e2 e3
   have hpos:=hP.pos hA.tu.2.1
   have hpl:=(Mk t p p.1 fun i hi=>hP.2.1.1 i hi)
   have hup:=fun(k:Nat) (hk:k<p.1) (d:Int) h1 h2=>hP.up (k:=k) hk (d:=d) h1 h2
   have hpst:=hP.2.1.1
   have hp60:=hP.1
   generalize pre (pA p) p.1=n at*
   have hRn:(D2 b t.til).2<=n:=by
    rw[<-hW.sum]
    exact hbd _ hW.asc hW.mem hW.tog
   generalize D2 b t.til=R at*
   have hn:=hA.n
   have hl:=hW.len
   have hl1:(R.1.length<=9223372036854775807)=True:=eq_true (by omega)
   have q1:(n<R.2)=False:=eq_false (by omega)
   have q2:((p.1:Int)=0)=False:=eq_false (by omega)
   have hwb:=AaI which
   have hmb:=Zk more
   obtain⟨k,hk⟩:∃k:Nat,which.1.tmod (p.1:Int)=(k:Int):=⟨(which.1.tmod (p.1:Int)).toNat,by have:=Int.tmod_nonneg (p.1:Int) hwb.1;omega⟩
   have hkl:k<p.1:=by
    have:=Int.tmod_lt_of_pos which.1 (show(0:Int)<(p.1:Int) by omega)
    omega
   have hba:=hpst k hkl
   obtain⟨_,_,_,hb1,hb2⟩:=hba
   have hb1:0<=(p.2 k).baisa:=hb1
   have hb2:(p.2 k).baisa<=12000000000:=hb2
   have k1:IntKind.i64.wrap which.1=which.1:=AP (by omega) (by omega)
   have k2:(0<=(k:Int))=True:=eq_true (by omega)
   have k3:((k:Int)<(p.1:Int))=True:=eq_true (by omega)
   have k4:((p.2 k).baisa<0)=False:=eq_false (by omega)
   have k5:((p.2 k).baisa>12000000000)=False:=eq_false (by omega)
   have k6:(p.1*24<=140737488355328)=True:=eq_true (by omega)
   have k7:∀i:Nat,(i<0)=False:=fun i=>eq_false (Nat.not_lt_zero i)
   have k8:∀i:Nat,i-0=i:=fun i=>Nat.sub_zero i
   have k9:IntKind.i64.wrap more.1=more.1:=AP (by omega) (by omega)
   have k10:IntKind.i64.wrap (IntKind.i64.wrap (12000000000-(p.2 k).baisa)+1)=12000000000-(p.2 k).baisa+1:=by rw[AP (e:=12000000000-(p.2 k).baisa) (by omega) (by omega),AP (by omega) (by omega)]
   have hd1:=Int.tmod_nonneg (12000000000-(p.2 k).baisa+1) hmb.1
   have hd2:=Int.tmod_lt_of_pos more.1 (show(0:Int)<12000000000-(p.2 k).baisa+1 by omega)
   generalize hD:more.1.tmod (12000000000-(p.2 k).baisa+1)=d at*
   have k11:IntKind.i64.wrap ((p.2 k).baisa+d)=(p.2 k).baisa+d:=AP (by omega) (by omega)
   have k12:IntKind.i64.wrap (n+d)=n+d:=AP (by omega) (by omega)
   obtain⟨hU1,hU2⟩:=hup k hkl d hd1 (by omega)
   have hv2:E0 t b (N4 p k d)=(n+d,0):=by rw[P3 h0 hU1];show(pre (pA (N4 p k d)) p.1,(0:Int))=_;rw[hU2]
   have hF:∀f:Nat->Pc,(∀i,f i=(N4 p k d).2 i)->E0 t b (p.1,f)=(n+d,0):=fun f g=>by
    rw[show(p.1,f)=N4 p k d from Prod.ext rfl (funext g)];exact hv2
   obtain⟨s,hs⟩:∃s:Nat,set.1=s:=⟨set.1.toNat,by have:=L9 set;omega⟩
   have hs2:s<65536:=by have:=L9 set;omega
   simp only[A9,a11,Fu,Ll,f0,g2,Gu,Ps,hv,ha,q1,q2,hs,hl1,w1,w2,↓reduceIte,reduceCtorEq,Nat.reduceEqDiff,Nat.reduceAdd,Nat.reduceSub,Nat.reduceLT,Nat.reducePow,go_sem]
   refine GA (ι:=Nat) (fun j=>j<=b.1) (fun j=>b.1-j) [1,2,3,4,5,6,13,14,80,81] (fun j=>[(19,.own (.n 1)),(82,.int .i64 j)]) (fun j=>[(1,.row 3 1 (Ky s j).length fun a _=> .int .i64 (DP (Ky s j) a))]) 1 0 (Nat.zero_le _) (by simp only[Ky,List.range_zero,List.filter_nil,List.length_nil,↓reduceIte,reduceCtorEq,Nat.reduceEqDiff,Nat.reduceAdd,Nat.reduceLT,go_sem]) fun j hj=> ?_
   by_cases hjl:j<b.1
   ·have fj:((j:Int)<(b.1:Int))=True:=eq_true (by omega)
    have g1:(0<=(j:Int))=True:=eq_true (by omega)
    have hbit:=KH s j hs2
    have hsuc:=NE s j
    have hlen:=(Mh s j).2.2
    have happ:=L2 (Ky s j) j
    generalize Ky s j=l at*
    cases hb:s.testBit j with
    |true=>
     rw[hb,if_pos rfl]at hbit hsuc
     simp only[fj,g1,hbit,↓reduceIte,reduceCtorEq,Nat.reduceEqDiff,Nat.reduceAdd,Nat.reduceSub,Nat.reduceLeDiff,Nat.reduceLT,Nat.reducePow,go_sem]
     refine⟨by omega,by omega,by omega,Af (j+1) hjl (by omega) ?_⟩
     simp only[hsuc,List.length_append,List.length_cons,List.length_nil,↓reduceIte,reduceCtorEq,Nat.reduceEqDiff,Nat.reduceLT,go_sem]
     refine⟨Cp (by omega),fun a ha c hc=> ?_⟩
     obtain rfl:c=0:=by omega
     rw[happ]
     by_cases e:a<l.length
     ·rw[if_pos e,if_pos e]
     obtain rfl:a=l.length:=by omega
     rw[if_neg e,if_neg e,if_pos rfl,Nat.sub_self];rfl
    |false=>
     rw[hb,if_neg Bool.false_ne_true]at hbit hsuc
     simp only[fj,g1,hbit,↓reduceIte,reduceCtorEq,Nat.reduceEqDiff,Nat.reduceAdd,Int.reduceBEq,go_sem]
     refine⟨by omega,Af (j+1) hjl (by omega) ?_⟩
     simp only[hsuc,↓reduceIte,reduceCtorEq,Nat.reduceEqDiff,Nat.reduceLT,go_sem]
     exact Cp (by omega)
   have fj:((j:Int)<(b.1:Int))=False:=eq_false (by omega)
   obtain rfl:j=b.1:=by omega
   obtain⟨e1,e2,e3⟩:=Mh s b.1
   have hle:=hbd (Ky s b.1) e1 e2
   generalize Ky s b.1=e at*
   have hLE:LOk b (e.length,DP e)=True:=eq_true ⟨by show e.length<=12;omega,fun i hi=>by
    have hi':i<e.length:=hi
    have:=e2 _ (List.getElem_mem hi')
    show 0<=DP e i/\DP e i<b.1
    rw[Hm hi'];omega,fun i hi=>(hA.best.2 i hi).2⟩
   have hle1:(e.length<=9223372036854775807)=True:=eq_true (by omega)
   have hT3:∃m is,IV b (e.length,DP e)= .tup (.cons (.int .i64 m) (.cons (.bool is) .nil))/\m<=n:=by
    by_cases hT2:Xo b (lv e)
    ·exact⟨_,true,by rw[IV,AA hT2,if_pos rfl],hle hT2⟩
    exact⟨0,false,by rw[IV,Ax hT2,if_neg (by decide)],hpl.1⟩
   obtain⟨m,is,hT3,hmn⟩:=hT3
   have q3:(m>n)=False:=eq_false (by omega)
   cases is
   all_goals
    simp only[fj,T9,hLE,hT3,q3,k1,k2,k3,k4,k5,k6,k7,k8,k9,k10,hD,k11,k12,hk,Int.toNat_natCast,w1,w2,↓reduceIte,reduceCtorEq,Nat.reduceEqDiff,Nat.reduceAdd,Nat.reduceSub,Nat.reduceLeDiff,Nat.reduceLT,Nat.reducePow,go_sem]
    refine⟨by omega,by omega,fun i _=> ?_,fun _=> ?_,fun h=>absurd ?_ h⟩
    ·by_cases e:i=k
     ·subst e;simp[Pc.w,Pc.c,Au,Ad.toInt]
     simp only[e,false_and,if_false];exact of_eq_true (Pc.w_c _)
    ·refine congrArg Prod.fst (hF _ fun i=> ?_)
     by_cases e:i=k<;>simp[N4,e]
    refine congrArg Prod.snd (hF _ fun i=> ?_)
    by_cases e:i=k<;>simp[N4,e]
  have hv:=WM h0 hP
  simp only[A9,a11,Fu,Ll,f0,g2,Gu,hv,w1,w2,↓reduceIte,reduceCtorEq,Nat.reduceEqDiff,Nat.reduceAdd,Nat.reduceSub,Nat.reduceLT,Int.reduceBNe,Nat.reducePow,go_sem]
 have f0:Bf (C8 t b=0)=false:=Ax h0
 simp only[A9,a11,Fu,Ll,f0,w1,↓reduceIte,reduceCtorEq,Nat.reduceEqDiff,Nat.reduceAdd,Nat.reduceSub,Nat.reducePow,go_sem]
end Go.Proofs.YtlieoghhkioflaaGreat
