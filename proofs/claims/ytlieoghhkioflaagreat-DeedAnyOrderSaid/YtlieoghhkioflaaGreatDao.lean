/- Deeds: in whatever order they come, the deeds that are done are the same, plain. No condition. -/
import Derived.Test.YtlieoghhkioflaaGreatDPvP
import Derived.Test.YtlieoghhkioflaaGreatDsp
import Derived.Test.YtlieoghhkioflaaGreatACodeL4
set_option linter.unusedSimpArgs false
set_option linter.unusedVariables false
set_option maxRecDepth 100000
namespace Go.Proofs.YtlieoghhkioflaaGreat
variable{x y:De}{l:E3}{r:Ro}
def G0(x:De):Int:=x.day*10000+x.id
theorem Ma(hx:0<=x.id/\x.id<=9999)(hy:0<=y.id/\y.id<=9999):Bm x y↔G0 x<G0 y:=by
 unfold Bm G0;omega
theorem NK{Y:E3}(h:Q4 r Y):((List.range Y.1).map fun i=>(⟨G0 (Y.2 i),0⟩:Hs)).Pairwise (fun a b=>a.who<b.who):=by
 rw[List.pairwise_map]
 refine List.Pairwise.imp_of_mem (fun{a b} ha hb hab=> ?_) (List.pairwise_lt_range (n:=Y.1))
 have hb:=List.mem_range.1 hb
 have ha:=List.mem_range.1 ha
 have o1:=h.ok a ha
 have o2:=h.ok b hb
 exact(Ma ⟨o1.1,o1.2.1⟩ ⟨o2.1,o2.2.1⟩).1 (h.asc a b hab hb)
theorem RO{X Y:E3}(hX:Q4 r X)(hY:Q4 r Y)(h1:∀i,i<X.1->∃j,j<Y.1/\G0 (Y.2 j)=G0 (X.2 i))(h2:∀j,j<Y.1->∃i,i<X.1/\G0 (X.2 i)=G0 (Y.2 j)):X.1=Y.1/\∀i,i<X.1->G0 (X.2 i)=G0 (Y.2 i):=by
 have e:=G6 _ _ (NK hX) (NK hY) fun x=>by
  constructor
  ·intro hx
   obtain⟨i,hi,rfl⟩:=List.mem_map.1 hx
   obtain⟨j,hj,e⟩:=h1 i (List.mem_range.1 hi)
   exact List.mem_map.2 ⟨j,List.mem_range.2 hj,by rw[e]⟩
  intro hx
  obtain⟨j,hj,rfl⟩:=List.mem_map.1 hx
  obtain⟨i,hi,e⟩:=h2 j (List.mem_range.1 hj)
  exact List.mem_map.2 ⟨i,List.mem_range.2 hi,by rw[e]⟩
 have hn:X.1=Y.1:=by
  have:=congrArg List.length e
  rwa[List.length_map,List.length_map,List.length_range,List.length_range]at this
 refine⟨hn,fun i hi=> ?_⟩
 have:=congrArg (fun L:List Hs=>L[i]?) e
 simp only[List.getElem?_map,List.getElem?_range hi,List.getElem?_range (show i<Y.1 by omega),Option.map_some]at this
 exact congrArg Hs.who (Option.some.inj this)
theorem M2(ha:BV r l=0){k:Nat}(hk:k<l.1):∃i,i<(BI l).1/\((BI l).2 i).id=(l.2 k).id:=by
 have key:∀n k,k<n->k<l.1->∃q,q<=k/\FY l q=true/\(l.2 q).id=(l.2 k).id:=fun n=>by
  induction n with
  |zero=>intro k hk;omega
  |succ n ih=>
   intro k hk hkl
   by_cases hn:FY l k=true
   ·exact⟨k,Nat.le_refl _,hn,rfl⟩
   have hn:=BB.1 (by simpa[FY]using hn)
   obtain⟨q,hq⟩:=Classical.not_forall.1 hn
   obtain⟨hq,hq2⟩:=Classical.not_imp.1 hq
   have hq2:(l.2 q).id=(l.2 k).id:=Classical.not_not.1 hq2
   obtain⟨a,a1,a2,a3⟩:=ih q (by omega) (by omega)
   exact⟨a,by omega,a2,a3.trans hq2⟩
 obtain⟨q,q1,q2,q3⟩:=key (k+1) k (by omega) hk
 have hm:l.2 q∈Bo l l.1:=(E8 l l.1 _).2 ⟨q,by omega,q2,rfl⟩
 obtain⟨i,hi,e⟩:=List.getElem_of_mem hm
 refine⟨i,hi,?_⟩
 show(lD (Bo l l.1) i).id=_
 rw[Pt hi,e,q3]
theorem OO(h:Bz x y):Bz y x:=by
 obtain⟨h1,h2,h3,h4,h5,h6,h7,h8,h9⟩:=h
 exact⟨h1.symm,h2.symm,h3.symm,h4.symm,h5.symm,h6.symm,h7.symm,h8.symm,fun i hi=>(h9 i (by omega)).symm⟩
theorem Ra(x:De):Bz x x:=⟨rfl,rfl,rfl,rfl,rfl,rfl,rfl,rfl,fun _ _=>rfl⟩
theorem N7(ha:BV r l=0){a b:Nat}(h1:a<l.1)(h2:b<l.1)(h:(l.2 a).id=(l.2 b).id):Bz (l.2 a) (l.2 b):=by
 have hu:=(CI ha).2.2.2
 rcases Nat.lt_trichotomy a b with q|q|q
 ·exact OO (hu b h2 a q h.symm)
 ·subst q;exact Ra _
 exact hu a h1 b q h
theorem RH{o:E3}(ha:BV r l=0)(hn:o.1<=60)(h1:∀i,i<l.1->∃j,j<o.1/\o.2 j=l.2 i)(h2:∀j,j<o.1->∃i,i<l.1/\l.2 i=o.2 j):
  BV r o=0/\(BI l).1=(BI o).1/\∀i,i<(BI l).1->Bz ((BI l).2 i) ((BI o).2 i):=by
 obtain⟨a1,a2,a3,a4⟩:=CI ha
 have hao:BV r o=0:=by
  have g1:A8 (∀i,i<o.1->Dn r (o.2 i))=true:=At fun i hi=>by
   obtain⟨a,b1,b2⟩:=h2 i hi
   rw[<-b2];exact a3 a b1
  have g2:A8 (∀i,i<o.1->∀k,k<i->(o.2 i).id=(o.2 k).id->Bz (o.2 i) (o.2 k))=true:=At fun i hi k hk he=>by
   obtain⟨a,b1,b2⟩:=h2 i hi
   obtain⟨c,d1,d2⟩:=h2 k (by omega)
   rw[<-b2,<-d2]at he⊢
   exact N7 ha b1 d1 he
  rw[BV,At a1,if_pos rfl,C0,if_neg (by omega),g1,if_pos rfl,g2,if_pos rfl]
 have hX:=TS ha
 have hY:=TS hao
 have hXY:∀i,i<(BI l).1->∃j,j<(BI o).1/\Bz ((BI l).2 i) ((BI o).2 j):=fun i hi=>by
  obtain⟨a,b1,_,b2⟩:=DE l i hi
  obtain⟨c,c1,c2⟩:=h1 a b1
  obtain⟨j,j1,j2⟩:=M2 hao c1
  obtain⟨e,e1,_,e2⟩:=DE o j j1
  obtain⟨f,f1,f2⟩:=h2 e e1
  refine⟨j,j1,?_⟩
  rw[b2,e2,<-f2]
  refine N7 ha b1 f1 ?_
  rw[f2,<-e2,j2,c2]
 have hYX:∀j,j<(BI o).1->∃i,i<(BI l).1/\Bz ((BI l).2 i) ((BI o).2 j):=fun j hj=>by
  obtain⟨e,e1,_,e2⟩:=DE o j hj
  obtain⟨f,f1,f2⟩:=h2 e e1
  obtain⟨i,i1,i2⟩:=M2 ha f1
  obtain⟨a,b1,_,b2⟩:=DE l i i1
  refine⟨i,i1,?_⟩
  rw[e2,<-f2]
  rw[b2]at i2⊢
  exact N7 ha b1 f1 i2
 have hk:∀x y:De,Bz x y->G0 x=G0 y:=fun x y h=>by unfold G0;rw[h.1,h.2.1]
 obtain⟨e1,e2⟩:=RO hX hY (fun i hi=>by
  obtain⟨j,j1,j2⟩:=hXY i hi
  exact⟨j,j1,(hk _ _ j2).symm⟩) fun j hj=>by
  obtain⟨i,i1,i2⟩:=hYX j hj
  exact⟨i,i1,hk _ _ i2⟩
 refine⟨hao,e1,fun i hi=> ?_⟩
 obtain⟨j,j1,j2⟩:=hXY i hi
 have hkey:G0 ((BI o).2 i)=G0 ((BI o).2 j):=(e2 i hi).symm.trans (hk _ _ j2)
 have hij:i=j:=by
  have o1:=hY.ok i (by omega)
  have o2:=hY.ok j j1
  rcases Nat.lt_trichotomy i j with q|q|q
  ·have:=(Ma ⟨o1.1,o1.2.1⟩ ⟨o2.1,o2.2.1⟩).1 (hY.asc i j q j1);omega
  ·exact q
  have:=(Ma ⟨o2.1,o2.2.1⟩ ⟨o1.1,o1.2.1⟩).1 (hY.asc j i q (by omega));omega
 subst hij
 exact j2
theorem M1{d d':Nat->Bool}{a b:Nat×(Nat->Hr)}(hd:d=d'):∀k,(∀i,i<k->a.2 i=b.2 i)->CO d a k=CO d' b k
 |0,_=>rfl
 |k+1,h=>by rw[CO,CO,M1 hd k fun i hi=>h i (by omega),h k (by omega),hd]
theorem NA{b:Bk}(h:Bz x y):Nf b x=Nf b y/\Bh b x=Bh b y:=by
 obtain⟨i1,d1,k1,f1,w1,t1,u1,n1,e1⟩:=x
 obtain⟨i2,d2,k2,f2,w2,t2,u2,n2,e2⟩:=y
 obtain⟨h1,h2,h3,h4,h5,h6,h7,h8,h9⟩:=h
 dsimp only at h1 h2 h3 h4 h5 h6 h7 h8 h9
 subst h1 h2 h3 h4 h5 h6 h7 h8
 have hh:B4 b ⟨i1,d1,k1,f1,w1,t1,u1,(n1,e1)⟩=B4 b ⟨i1,d1,k1,f1,w1,t1,u1,(n1,e2)⟩:=by
  unfold B4
  rw[show CO (Kw b ⟨i1,d1,k1,f1,w1,t1,u1,(n1,e1)⟩) (n1,e1) n1=CO (Kw b ⟨i1,d1,k1,f1,w1,t1,u1,(n1,e2)⟩) (n1,e2) n1 from M1 rfl n1 h9]
 have hd:JK b ⟨i1,d1,k1,f1,w1,t1,u1,(n1,e1)⟩=JK b ⟨i1,d1,k1,f1,w1,t1,u1,(n1,e2)⟩:=by
  unfold JK A5
  rw[hh];rfl
 refine⟨?_,rfl⟩
 unfold Nf
 rw[hd];rfl
theorem H4{f g:Nat->De}:∀k,(∀i,i<k->Bz (f i) (g i))->AI r f k=AI r g k
 |0,_=>rfl
 |k+1,h=>by
  have ih:=H4 k fun i hi=>h i (by omega)
  have hs:=NA (b:=AI r g k) (h k (by omega))
  rw[AI,AI,ih,E6,E6,hs.1,hs.2]
end Go.Proofs.YtlieoghhkioflaaGreat
namespace Go.Proofs.YtlieoghhkioflaaGreat
open Go Go.RowKit
variable{l:E3}{N k:Nat}{f:Nat->De}
variable{G:Nat->Option (Nat×(Nat->Ad))}
def Lj(b:Nat×(Nat->UI .u32))(i:Int):Int:=if i<b.1 then(b.2 i.toNat).1 else 0
noncomputable def Xw:As:=Cq (Dv (RU .u32)) TI (fun _ i=>0<=i) fun b i=> .int .u32 (Lj b i)
theorem AcJ:Ah Tryz.prog G 27 Xw:=by
 refine Kq (S:=[]) (I:=[]) mixed .nil .nil Tryz.func27 c27 fun b i hp hw=> ?_
 simp only[Nat.reduceSub,Nat.reducePow,go_sem]at hw
 have h0:(0<=i)=True:=eq_true hp
 by_cases h:i<b.1
 ·have h1:(i<(b.1:Int))=True:=eq_true h
  have e:Lj b i=(b.2 i.toNat).1:=if_pos h
  simp only[A3,a27,h0,h1,e,hw,↓reduceIte,reduceCtorEq,Nat.reduceEqDiff,Nat.reduceSub,Nat.reducePow,go_sem]
 have h1:(i<(b.1:Int))=False:=eq_false h
 have e:Lj b i=0:=if_neg h
 simp only[A3,a27,h1,e,hw,↓reduceIte,reduceCtorEq,Nat.reduceEqDiff,Nat.reduceSub,Nat.reducePow,go_sem]
theorem Ug(b:Nat×(Nat->UI .u32))(i:Int):0<=Lj b i/\Lj b i<=4294967295:=by
 unfold Lj
 split
 ·exact YZ _
 omega
structure Kv(l:E3)(N:Nat)(f:Nat->De):Prop where
 fwd:∀i,i<l.1->∃j,j<N/\f j=l.2 i
 bwd:∀j,j<N->∃i,i<l.1/\l.2 i=f j
def XI(f:Nat->De)(j k a:Nat):De:=if a=k then f j else if a=j then f k else f a
theorem Kv.swap(h:Kv l N f){j:Nat}(hj:j<N)(hk:k<N):Kv l N (XI f j k):=by
 refine⟨fun i hi=> ?_,fun a ha=> ?_⟩
 ·obtain⟨a,a1,a2⟩:=h.fwd i hi
  by_cases e1:a=j
  ·exact⟨k,hk,by unfold XI;rw[if_pos rfl,<-e1,a2]⟩
  by_cases e2:a=k
  ·refine⟨j,hj,?_⟩
   unfold XI
   by_cases e3:j=k
   ·exact absurd (e2.trans e3.symm) e1
   rw[if_neg e3,if_pos rfl,<-e2,a2]
  exact⟨a,a1,by unfold XI;rw[if_neg e2,if_neg e1,a2]⟩
 unfold XI
 split
 ·exact h.bwd j hj
 split
 ·exact h.bwd k hk
 exact h.bwd a ha
theorem Kv.app(h:Kv l N f)(hk:k<N):Kv l (N+1) (fun a=>if a<N then f a else f k):=by
 refine⟨fun i hi=> ?_,fun a ha=> ?_⟩
 ·obtain⟨a,a1,a2⟩:=h.fwd i hi
  exact⟨a,by omega,by rw[if_pos a1,a2]⟩
 show∃i,i<l.1/\l.2 i=if a<N then f a else f k
 split
 ·exact h.bwd a (by assumption)
 exact h.bwd k hk
theorem AcX{j n:Nat}:∀a,a<n->∀c,c<9->AB ((XI f j k a).c c) (if a=k/\0<=c/\c<9 then Az (f j).L c else if a=j/\0<=c/\c<9 then Az (f k).L c else(f a).c c):=fun a _ c hc=>by
 unfold XI
 by_cases e1:a=k
 ·rw[if_pos e1,if_pos ⟨e1,Nat.zero_le _,hc⟩,Fz _ c hc];exact BP _
 rw[if_neg e1,if_neg (show¬(a=k/\0<=c/\c<9)from fun h=>e1 h.1)]
 by_cases e2:a=j
 ·rw[if_pos e2,if_pos ⟨e2,Nat.zero_le _,hc⟩,Fz _ c hc];exact BP _
 rw[if_neg e2,if_neg (show¬(a=j/\0<=c/\c<9)from fun h=>e2 h.1)];exact BP _
theorem AcT{x:De}:∀a,a<N+1->∀c,c<9->AB ((if a<N then f a else x).c c) (if a<N then(f a).c c else Az (Az (.cons x.L .nil) (a-N)) c):=fun a ha c hc=>by
 by_cases e:a<N
 ·rw[if_pos e,if_pos e];exact BP _
 obtain rfl:a=N:=by omega
 rw[if_neg e,if_neg e,Nat.sub_self]
 show AB (x.c c) (Az x.L c)
 rw[Fz _ c hc];exact BP _
theorem NL(b:Bk)(x:De):0<=Bh b x/\Bh b x<=255:=by
 unfold Bh
 split
 ·decide
 split
 ·split
  ·split<;>decide
  decide
 decide
theorem WB{r:Ro}{o:E3}(h1:(BI l).1=(BI o).1)(h2:∀i,i<(BI l).1->Bz ((BI l).2 i) ((BI o).2 i))(d:Int):ID r l d=ID r o d:=by
 have hu:BW (BI o) d=BW (BI l) d:=by
  have hl:=Qq (BI l) d
  obtain⟨u1,u2⟩:=Qu (BI l) d
  exact PX (by omega) (fun i hi=>by rw[<-(h2 i (by omega)).2.1];exact u1 i hi) fun q=>by rw[<-(h2 _ (by omega)).2.1];exact u2 (by omega)
 have hl:=Qq (BI l) d
 unfold ID
 rw[hu]
 exact H4 _ fun i hi=>h2 i (by omega)
def Wl:As:=K0 KC (Dv Gq) TI (Dv (RU .u32)) (fun _ _ _ _=>True) fun _ _ _ _=> .bool true
set_option maxHeartbeats 8000000 in
theorem Xd:Ah Tryz.prog G 4 Wl:=by
 refine fn4 (S:=[(25,LW),(26,LT),(27,Xw),(28,I2),(16,O3),(29,OI),(22,Gn),(24,HG)]) (I:=[(15,a15)]) mixed
  (.cons XY (.cons X3 (.cons AcJ (.cons Xg (.cons (show Ah Tryz.prog G _ O3 from MD) (.cons (show Ah Tryz.prog G _ OI from Ss) (.cons PG (.cons SM .nil)))))))) (.cons Tryz.func15 c15 .nil) Tryz.func4 c4 fun r l day bb _ hw=> ?_
 simp only[Nat.reduceSub,Nat.reducePow,go_sem]at hw
 obtain⟨w1,w2,w3⟩:=hw
 by_cases hrd:TB r l=true
 case neg=>
  have hrd:TB r l=false:=by simpa using hrd
  simp only[A3,a4,LW,LT,hrd,w1,w2,↓reduceIte,reduceCtorEq,Nat.reduceEqDiff,Nat.reduceAdd,Nat.reduceSub,Nat.reducePow,go_sem]
 obtain⟨hng,ha⟩:=Aap hrd
 have hr:=(CI ha).1
 obtain⟨hN1,hN2⟩:=VO hr
 have hl60:=(CI ha).2.1
 simp only[A3,a4,a15,LW,LT,hrd,w1,w2,↓reduceIte,reduceCtorEq,Nat.reduceEqDiff,Nat.reduceAdd,Nat.reduceSub,Nat.reducePow,go_sem]
 refine Hu (ι:=Nat) (fun j=>j<=l.1) (fun j=>l.1-j) [0] (fun j=>[(3,.own (.n 1)),(4,.int .i64 j)]) (fun j=>[(1,.row 56 9 j fun a c=>(l.2 a).c c)]) 1 0 (Nat.zero_le _) (by
  simp only[↓reduceIte,reduceCtorEq,Nat.reduceEqDiff,Nat.reduceAdd,Nat.reduceLT,go_sem]
  try trace_state) fun j hj=> ?_
 by_cases hjl:j<l.1
 ·have fj:((j:Int)<(l.1:Int))=True:=eq_true (by omega)
  have gh:((l.2 j).heirs.1<=9223372036854775807)=True:=eq_true (by have:=hng.2 j hjl;omega)
  have gh2:((l.2 j).heirs.1<=12)=True:=eq_true (hng.2 j hjl)
  simp only[fj,I2,gh,gh2,w2,↓reduceIte,reduceCtorEq,Nat.reduceEqDiff,Nat.reduceAdd,Nat.reduceSub,Nat.reduceLeDiff,Nat.reduceLT,Nat.reducePow,go_sem]
  repeat(refine And.intro (by omega) ?_)
  refine Af (j+1) hjl (by omega) ?_
  simp only[↓reduceIte,reduceCtorEq,Nat.reduceEqDiff,Nat.reduceLT,go_sem]
  exact⟨Cs (by omega),Ac0 rfl⟩
 have fj:((j:Int)<(l.1:Int))=False:=eq_false (by omega)
 obtain rfl:j=l.1:=by omega
 simp only[fj,w2,↓reduceIte,reduceCtorEq,Nat.reduceEqDiff,Nat.reduceAdd,Nat.reduceSub,Nat.reducePow,go_sem]
 refine AS (ι:=Nat×(Nat->De)) (fun q=>q.1<=l.1/\Kv l l.1 q.2) (fun q=>l.1-q.1) [1,2,3,4,9,10,39] (fun q=>[(40,.int .i64 q.1)]) (fun q=>[(1,.row 56 9 l.1 fun a c=>(q.2 a).c c)]) (0,l.2) ⟨Nat.zero_le _,⟨fun i hi=>⟨i,hi,rfl⟩,fun i hi=>⟨i,hi,rfl⟩⟩⟩ (by simp only[↓reduceIte,reduceCtorEq,Nat.reduceEqDiff,Nat.reduceLT,go_sem]) fun q hq=> ?_
 obtain⟨j,f⟩:=q
 obtain⟨hj1,hpf⟩:=hq
 have hj1:j<=l.1:=hj1
 have hpf:Kv l l.1 f:=hpf
 by_cases hjl:j<l.1
 ·have fj:((j:Int)<(l.1:Int))=True:=eq_true (by omega)
  have hcb:=Ug bb j
  have c1:IntKind.i64.wrap (Lj bb j)=Lj bb j:=AU (by omega) (by omega)
  obtain⟨k,hk⟩:∃k:Nat,(Lj bb j).tmod (l.1:Int)=(k:Int):=⟨((Lj bb j).tmod (l.1:Int)).toNat,by have:=Int.tmod_nonneg (l.1:Int) hcb.1;omega⟩
  have hkl:k<l.1:=by
   have:=Int.tmod_lt_of_pos (Lj bb j) (show(0:Int)<(l.1:Int) by omega)
   omega
  have c2:(0<=(j:Int))=True:=eq_true (by omega)
  have c3:(0<=(k:Int))=True:=eq_true (by omega)
  have c4:((k:Int)<(l.1:Int))=True:=eq_true (by omega)
  have hh:∀a,a<l.1->((f a).heirs.1<=9223372036854775807)=True:=fun a ha'=>by
   obtain⟨i,i1,i2⟩:=hpf.bwd a ha'
   rw[<-i2];exact eq_true (by have:=hng.2 i i1;omega)
  have h1:=hh j hjl
  have h2:=hh k hkl
  simp only[fj,Xw,c1,c2,c3,c4,hk,Int.toNat_natCast,w3,↓reduceIte,reduceCtorEq,Nat.reduceEqDiff,Nat.reduceAdd,Nat.reduceSub,Nat.reducePow,go_sem]
  repeat(refine And.intro (by omega) ?_)
  refine Af (j+1,XI f j k) ⟨hjl,hpf.swap hjl hkl⟩ (by show l.1-(j+1)<l.1-j;omega) ?_
  simp only[↓reduceIte,reduceCtorEq,Nat.reduceEqDiff,Nat.reduceLT,go_sem]
  exact⟨Cs (by omega),AcX⟩
 have fj:((j:Int)<(l.1:Int))=False:=eq_false (by omega)
 obtain rfl:j=l.1:=by omega
 have hcb:=Ug bb l.1
 have c1:IntKind.i64.wrap (Lj bb l.1)=Lj bb l.1:=AU (by omega) (by omega)
 have c2:(0<=(l.1:Int))=True:=eq_true (by omega)
 simp only[fj,Xw,c1,c2,w2,w3,↓reduceIte,reduceCtorEq,Nat.reduceEqDiff,Nat.reduceSub,Int.reduceEq,Nat.reducePow,go_sem]
 have ht1:=Int.tmod_nonneg 5 hcb.1
 have ht2:=Int.tmod_lt_of_pos (Lj bb l.1) (show(0:Int)<5 by decide)
 generalize (Lj bb l.1).tmod 5=t at*
 refine AS (ι:=Nat×Nat×(Nat->De)) (fun q=>(q.1:Int)<=t/\Kv l q.2.1 q.2.2/\q.2.1<=60) (fun q=>t.toNat-q.1) [1,2,3,4,9,10,70] (fun q=>[(71,.int .i64 q.1)]) (fun q=>[(1,.row 56 9 q.2.1 fun a c=>(q.2.2 a).c c)]) (0,l.1,f) ⟨by show((0:Nat):Int)<=t;omega,hpf,hl60⟩ (by simp only[↓reduceIte,reduceCtorEq,Nat.reduceEqDiff,Nat.reduceLT,go_sem]) fun q hq=> ?_
 obtain⟨i,N,g⟩:=q
 obtain⟨hi,hpg,hN60⟩:=hq
 have hi:(i:Int)<=t:=hi
 have hpg:Kv l N g:=hpg
 have hN60:N<=60:=hN60
 have n1:(N<=9223372036854775807)=True:=eq_true (by omega)
 by_cases hil:(i:Int)<t
 ·have fi:((i:Int)<t)=True:=eq_true hil
  have c4:(0<=(i:Int))=True:=eq_true (by omega)
  by_cases hn:0<N/\N<60
  ·have g1:((N:Int)>0)=True:=eq_true (by omega)
   have g2:((N:Int)<60)=True:=eq_true (by omega)
   have hcb:=Ug bb i
   have c1:IntKind.i64.wrap (Lj bb i)=Lj bb i:=AU (by omega) (by omega)
   obtain⟨k,hk⟩:∃k:Nat,(Lj bb i).tmod (N:Int)=(k:Int):=⟨((Lj bb i).tmod (N:Int)).toNat,by have:=Int.tmod_nonneg (N:Int) hcb.1;omega⟩
   have hkl:k<N:=by
    have:=Int.tmod_lt_of_pos (Lj bb i) (show(0:Int)<(N:Int) by omega)
    omega
   have c2:(0<=(k:Int))=True:=eq_true (by omega)
   have c3:((k:Int)<(N:Int))=True:=eq_true (by omega)
   obtain⟨a,a1,a2⟩:=hpg.bwd k hkl
   have gh:((g k).heirs.1<=9223372036854775807)=True:=by rw[<-a2];exact eq_true (by have:=hng.2 a a1;omega)
   have gh2:((g k).heirs.1<=12)=True:=by rw[<-a2];exact eq_true (hng.2 a a1)
   simp only[fi,g1,g2,I2,c1,c2,c3,c4,hk,gh,gh2,Int.toNat_natCast,w3,↓reduceIte,reduceCtorEq,Nat.reduceEqDiff,Nat.reduceAdd,Nat.reduceSub,Nat.reduceLeDiff,Nat.reduceLT,Nat.reducePow,go_sem]
   repeat(refine And.intro (by omega) ?_)
   refine Af (i+1,N+1,fun a=>if a<N then g a else g k) ⟨by show((i+1:Nat):Int)<=t;omega,hpg.app hkl,by show N+1<=60;omega⟩ (by show t.toNat-(i+1)<t.toNat-i;omega) ?_
   simp only[↓reduceIte,reduceCtorEq,Nat.reduceEqDiff,Nat.reduceLT,go_sem]
   exact⟨Cs (by omega),AcT⟩
  by_cases g:N=0
  ·have g1:((N:Int)>0)=False:=eq_false (by omega)
   simp only[fi,g1,↓reduceIte,reduceCtorEq,Nat.reduceEqDiff,go_sem]
   repeat(refine And.intro (by omega) ?_)
   refine Af (i+1,N,_) ⟨by show((i+1:Nat):Int)<=t;omega,hpg,hN60⟩ (by show t.toNat-(i+1)<t.toNat-i;omega) ?_
   simp only[↓reduceIte,reduceCtorEq,Nat.reduceEqDiff,Nat.reduceLT,go_sem]
   exact Cs (by omega)
  have g1:((N:Int)>0)=True:=eq_true (by omega)
  have g2:((N:Int)<60)=False:=eq_false (by omega)
  simp only[fi,g1,g2,↓reduceIte,reduceCtorEq,Nat.reduceEqDiff,go_sem]
  repeat(refine And.intro (by omega) ?_)
  refine Af (i+1,N,_) ⟨by show((i+1:Nat):Int)<=t;omega,hpg,hN60⟩ (by show t.toNat-(i+1)<t.toNat-i;omega) ?_
  simp only[↓reduceIte,reduceCtorEq,Nat.reduceEqDiff,Nat.reduceLT,go_sem]
  exact Cs (by omega)
 have fi:((i:Int)<t)=False:=eq_false hil
 obtain⟨a3,e1,e2⟩:=RH (o:=(N,g)) ha hN60 hpg.fwd hpg.bwd
 have hbk:=WB (r:=r) e1 e2 day
 have o1:=SI ha
 have o2:=SI a3
 have oo:Vb r (N,g) day=Vb r l day:=by unfold Vb;rw[a3,ha,hbk]
 have hv:∀i,i<(BI l).1->Bh (AI r (BI l).2 i) ((BI l).2 i)=Bh (AI r (BI (N,g)).2 i) ((BI (N,g)).2 i):=fun i hi=>by
  rw[H4 (r:=r) i fun a ha'=>e2 a (by omega)]
  exact(NA (e2 i hi)).2
 have hsd:A8 ((BI l).1=(BI (N,g)).1/\∀i,i<(BI l).1->Bz ((BI l).2 i) ((BI (N,g)).2 i))=true:=At ⟨e1,e2⟩
 have hse:Jk (BI l).1 (fun i=>Bh (AI r (BI l).2 i) ((BI l).2 i)) (BI (N,g)).1 (fun i=>Bh (AI r (BI (N,g)).2 i) ((BI (N,g)).2 i))=true:= @decide_eq_true _ (Classical.propDecidable _) ⟨e1,hv⟩
 have hx1:=GY l
 have hx2:=GY (N,g)
 have m1:((BI l).1<=9223372036854775807)=True:=eq_true (by omega)
 have m2:((BI (N,g)).1<=9223372036854775807)=True:=eq_true (by have hx2:(BI (N,g)).1<=N:=hx2;omega)
 have r1:(∀i,i<(BI l).1->0<=Bh (AI r (BI l).2 i) ((BI l).2 i)/\Bh (AI r (BI l).2 i) ((BI l).2 i)<=255)=True:=eq_true fun i _=>NL _ _
 have r2:(∀i,i<(BI (N,g)).1->0<=Bh (AI r (BI (N,g)).2 i) ((BI (N,g)).2 i)/\Bh (AI r (BI (N,g)).2 i) ((BI (N,g)).2 i)<=255)=True:=eq_true fun i _=>NL _ _
 by_cases hd:0<=day/\day<=100000
 ·have o3:=X7 (d:=day) ha hd.1 hd.2
  rw[o3]at oo
  have lA:=DN (ID r l day).ow.2 (Ca r)
  have lU:=DN (fun m=>FU (ID r l day) m day) (Ca r)
  generalize Ap (ID r l day).ow.2 (Ca r)=A at*
  generalize Ap (fun m=>FU (ID r l day) m day) (Ca r)=U at*
  have l1:(A.1<=9223372036854775807)=True:=eq_true (by omega)
  have l3:(U.1<=9223372036854775807)=True:=eq_true (by omega)
  simp only[fi,OI,O3,Gn,HG,Ak,Ag,AZ,o1,o2,o3,oo,Kj,Nh,hsd,hse,m1,m2,r1,r2,l1,l3,n1,w1,w2,↓reduceIte,reduceCtorEq,Nat.reduceEqDiff,Nat.reduceAdd,Nat.reduceSub,Nat.reduceLT,Nat.reducePow,go_sem]
 have o3:Vb r l day= .tup (.cons .nils (.cons .nils (.cons (.int .i64 2) .nil))):=by rw[Vb,if_pos ha,if_neg hd]
 rw[o3]at oo
 simp only[fi,OI,O3,Gn,HG,Ak,Ag,AZ,o1,o2,o3,oo,Nh,hsd,hse,m1,m2,r1,r2,n1,w1,w2,↓reduceIte,reduceCtorEq,Nat.reduceEqDiff,Nat.reduceAdd,Nat.reduceSub,Nat.reduceLT,Nat.reducePow,go_sem]
 exact fun i hi=>absurd hi (Nat.not_lt_zero i)
end Go.Proofs.YtlieoghhkioflaaGreat
