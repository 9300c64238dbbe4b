/- Deeds: slices.Insert at pieces, of one piece: a row with one piece more. Conditions: bounds of the row's length. -/
import Derived.Test.YtlieoghhkioflaaGreatDiw
import Derived.Test.YtlieoghhkioflaaGreatLDez
import Derived.Test.YtlieoghhkioflaaGreatSoT
set_option linter.unusedSimpArgs false
set_option linter.unusedVariables false
namespace Go.Proofs.YtlieoghhkioflaaGreat
open Go Go.RowKit
variable{vs xs:List Value}{i j n:Nat}
variable{G:Nat->Option (Nat×(Nat->Ad))}
def Ru(p:Nat->Pi)(k:Nat)(x:Pi)(i:Nat):Pi:=if i<k then p i else if i=k then x else p (i-1)
noncomputable def Xc:As:=(Ak (Ag (Dv Mo) (Ag TI (Ag (Dv Mo) AZ))) (fun a=>1<=a.1.1/\a.1.1<=100000/\0<=a.2.1/\a.2.1<=a.1.1/\a.2.2.1.1=1) fun a=> .view 5 (a.1.1+1) fun i j=>(Ru a.1.2 a.2.1.toNat (a.2.2.1.2 0) i).c j).mine 107
theorem UM(x:Pi)(hj:j<5):∃z,x.c j= .int .i64 z:=by
 rcases(by omega:j=0\/j=1\/j=2\/j=3\/j=4)with rfl|rfl|rfl|rfl|rfl<;>exact⟨_,rfl⟩
theorem OX{w w':World}{A A':Nat->Prop}(x:Pi)(hj:j<5){y:Value}(h:Ao w A (x.c j) y):Ao w' A' (x.c j) y:=by
 obtain⟨z,hz⟩:=UM x hj
 rw[hz]at h⊢;exact h
theorem SP{c:Nat->Nat->Ad}(h:Mo.W n c)(hi:i<n)(hj:j<5):c i j=(Mo.D c i).c j:=by
 have:=Mo.h1 n c h i hi j hj
 obtain⟨z,hz⟩:=UM (Mo.D c i) hj
 have e:Mo.C (Mo.D c i) j=(Mo.D c i).c j:=rfl
 rw[e,hz]at this
 rw[hz]
 exact this
theorem KT{cur:List Value}{q:Nat}(ht:cur.take (n*5)=xs)(hi:i<=n)(hq:q<(n+1)*5):JX cur vs i q=JX xs vs i q:=by
 have h:∀p,p<n*5->xs[p]?=cur[p]?:=fun p hp=>by rw[<-ht,List.getElem?_take,if_pos hp]
 unfold JX
 by_cases e1:q<i*5
 ·rw[if_pos e1,if_pos e1,h q (by omega)]
 by_cases e2:q<i*5+5
 ·rw[if_neg e1,if_neg e1,if_pos e2,if_pos e2]
 rw[if_neg e1,if_neg e1,if_neg e2,if_neg e2,h (q-5) (by omega)]
theorem Tz{q:Nat}(hl:xs.length=n*5)(hq:q<(n+1)*5):(xs++vs)[q]?=JX xs vs n q:=by
 unfold JX
 rw[List.getElem?_append,hl]
 by_cases e1:q<n*5
 ·rw[if_pos e1,if_pos e1]
 rw[if_neg e1,if_neg e1,if_pos (by omega)]
theorem L5{w w':World}{A:Nat->Prop}{c c1:Nat->Nat->Ad}{xs':List Value}(hw:Mo.W n c)(hw1:Mo.W 1 c1)(hi:i<=n)
  (f5:∀i,i<n->∀j,j<5->∃y,xs[i*5+j]?=some y/\y.oneCell'=true/\Ao w A (c i j) y) (hv:∀j,j<5->∃y,vs[j]?=some y/\y.oneCell'=true/\Ao w A (c1 0 j) y)
  (hq:∀q,q<(n+1)*5->xs'[q]?=JX xs vs i q):∀k,k<n+1->∀j,j<5->∃y,xs'[k*5+j]?=some y/\y.oneCell'=true/\Ao w' (fun _=>False) ((Ru (Mo.D c) i (Mo.D c1 0) k).c j) y:=by
 intro k hk j hj
 rw[hq (k*5+j) (by omega)]
 unfold JX Ru
 by_cases e1:k<i
 ·obtain⟨y,y1,y2,y3⟩:=f5 k (by omega) j hj
  rw[SP hw (by omega) hj]at y3
  rw[if_pos (by omega),if_pos e1]
  exact⟨y,y1,y2,OX _ hj y3⟩
 by_cases e2:k=i
 ·obtain⟨y,y1,y2,y3⟩:=hv j hj
  rw[SP hw1 (by omega) hj]at y3
  rw[if_neg (by omega),if_neg e1,if_pos (by omega),if_pos e2,show k*5+j-i*5=j by omega]
  exact⟨y,y1,y2,OX _ hj y3⟩
 obtain⟨y,y1,y2,y3⟩:=f5 (k-1) (by omega) j hj
 rw[SP hw (by omega) hj]at y3
 rw[if_neg (by omega),if_neg e1,if_neg (by omega),if_neg e2,show k*5+j-5=(k-1)*5+j by omega]
 exact⟨y,y1,y2,OX _ hj y3⟩
set_option maxHeartbeats 1000000 in
theorem AaC:Cy Tryz.prog G 161 0 Xc:=by
 refine⟨GS Tryz.func161 rfl rfl,fun A w vs us cs ds L e0 k n c hl1 hl2 hA hG hr hr' hrow hee hp=> ?_⟩
 obtain rfl:vs=[]:=List.eq_nil_of_length_eq_zero hl1
 obtain rfl:cs=[]:=List.eq_nil_of_length_eq_zero hl2
 obtain⟨⟨⟨rfl,hw⟩,h2⟩,hn⟩:=hp
 obtain rfl:e0=107:=hee _ rfl
 rcases us with _|⟨u0,_|⟨u1,_|⟨u2,us⟩⟩⟩
 ·exact h2.elim
 ·exact h2.2.elim
 ·obtain⟨hu0,hu1,-⟩:=h2
  obtain⟨d0,ds0,he0,hd0,hr'⟩:=hr'
  obtain rfl:ds=d0::ds0:=by simpa using he0
  obtain⟨d1,ds1,he1,hd1,hr'⟩:=hr'
  obtain rfl:ds0=d1::ds1:=by simpa using he1
  obtain rfl:ds1=[]:=by
   have h:(Value.tuple ⟨ds1⟩)= .tuple #[]:=hr'
   simpa using h
  obtain⟨n1,n2,n3,n4,n5⟩:=hn
  cases u0<;>simp only[Qd,Zd,TI]at hu0
  rename_i kk z
  subst hu0
  cases u1<;>simp only[Dv,VE]at hu1
  rename_i k1 m1 c1
  obtain⟨rfl,hw1⟩:=hu1
  obtain rfl:m1=1:=n5
  have n1:1<=n:=n1
  have n2:n<=100000:=n2
  have n3:0<=z:=n3
  have n4:z<=n:=n4
  obtain rfl:d0= .int .i64 z:=hd0
  obtain⟨va,vc,rfl,v1,v2,v3⟩:=hd1
  obtain⟨vb,voff,rfl,v4,v5,v6⟩:=v3 (by omega)
  obtain⟨f1,f2,f3,xs,f4,f5⟩:=hrow
  obtain⟨i,rfl⟩:∃i:Nat,z=i:=⟨z.toNat,by omega⟩
  obtain⟨nl,hn⟩:=f4
  rcases hn with⟨q1,q2⟩|⟨g,cap,cur,q1,q2,q3,q4,q5,q6,q7⟩
  ·omega
  have hL:L.a=some g/\L.cap=cap:=by
   cases h:L.a with
   |none=>rw[h]at q1;simp at q1
   |some g'=>rw[h]at q1;simp at q1;exact⟨by rw[q1.1],q1.2⟩
  obtain⟨hLa,hLc⟩:=hL
  have q7:cur.toList.take (n*5)=xs:=q7
  have q6:cur.size=cap*5:=q6
  have nl:xs.length=n*5:=nl
  have hvb:vb≠g:=fun e=>hA vb v5 (by rw[hLa,e])
  have hlt:g<w.heap.size:=(Array.getElem?_eq_some_iff.1 q3).1
  have v6':∀j,j<5->∃y,w.cell? ⟨vb,voff+j,none⟩=some y/\y.oneCell'=true/\Ao w A (c1 0 j) y:=fun j hj=>by
   have:=v6 0 (by omega) j hj
   rwa[Nat.zero_mul,Nat.add_zero]at this
  obtain⟨y0,a0,b0,c0⟩:=v6' 0 (by omega)
  obtain⟨y1,a1,b1,c1'⟩:=v6' 1 (by omega)
  obtain⟨y2,a2,b2,c2⟩:=v6' 2 (by omega)
  obtain⟨y3,a3,b3,c3⟩:=v6' 3 (by omega)
  obtain⟨y4,a4,b4,c4⟩:=v6' 4 (by omega)
  have hvs:∀j v,[y0,y1,y2,y3,y4][j]?=some v->w.cell? ⟨vb,voff+j,none⟩=some v:=fun j v hj=>by
   rcases j with _|_|_|_|_|j<;>simp at hj<;>subst hj<;>assumption
  have hv1:∀v∈[y0,y1,y2,y3,y4],v.oneCell'=true:=fun v hv=>by
   simp at hv;rcases hv with rfl|rfl|rfl|rfl|rfl<;>assumption
  have hvr:∀j,j<5->∃y,[y0,y1,y2,y3,y4][j]?=some y/\y.oneCell'=true/\Ao w A (c1 0 j) y:=fun j hj=>by
   rcases(by omega:j=0\/j=1\/j=2\/j=3\/j=4)with rfl|rfl|rfl|rfl|rfl
   ·exact⟨_,rfl,b0,c0⟩
   ·exact⟨_,rfl,b1,c1'⟩
   ·exact⟨_,rfl,b2,c2⟩
   ·exact⟨_,rfl,b3,c3⟩
   exact⟨_,rfl,b4,c4⟩
  have hvl:[y0,y1,y2,y3,y4].length=5:=rfl
  generalize [y0,y1,y2,y3,y4]=vs at hvs hv1 hvr hvl
  have hx1:∀v∈cur.toList.take (n*5),v.oneCell'=true:=fun v hv=>by
   rw[q7]at hv
   obtain⟨q,hq⟩:=List.mem_iff_getElem?.1 hv
   have hql:q<n*5:=by have:=(List.getElem?_eq_some_iff.1 hq).1;omega
   obtain⟨y,t1,t2,_⟩:=f5 (q/5) (by omega) (q%5) (Nat.mod_lt _ (by decide))
   have t1:xs[q/5*5+q%5]?=some y:=t1
   rw[show q/5*5+q%5=q by omega,hq]at t1
   cases t1;exact t2
  have hres:Xc.res ([]++ .view 5 n c::[.int .i64 (i:Int),.view 5 1 c1])= .view 5 (n+1) fun k j=>(Ru (Mo.D c) i (Mo.D c1 0) k).c j:=rfl
  have hargs:(⟨[]++ .slice (L.a.map fun g=>⟨g,0,none⟩) n L.cap::[.int .i64 (i:Int),.slice (some ⟨vb,voff,none⟩) 1 vc]⟩:Array Value)= #[.slice (some ⟨g,0,none⟩) n cap,.int .i64 (i:Int),.slice (some ⟨vb,voff,none⟩) 1 vc]:=by rw[hLa,hLc];rfl
  rw[hargs]
  have hin:i<=n:=by omega
  by_cases hend:i=n
  ·subst hend
   refine Calls.mono (WC g i cap vb voff vc xs vs w ⟨nl,.inr ⟨g,cap,cur,rfl,Nat.zero_le _,q3,q4,q5,q6,q7⟩⟩ (by omega) q5 hvl hvs hv1) ?_
   rintro ex w' ⟨v',rfl,o1,o2,o5⟩
   have hrow:=L5 (w':=w') hw hw1 hin f5 hvr fun q hq=>Tz (vs:=vs) nl hq
   have hund:(⟨w,fun g'=>L.a=some g'⟩:AW).Under w':=(AW.Under.refl ⟨w,_⟩).grown o2 fun k hk=> .inr (by cases hk;exact hLa)
   obtain⟨o3,⟨_,o4⟩|⟨g2,cap2,cur2,rfl,_,p3,p4,p5,p6,p7⟩⟩:=o1
   ·omega
   refine⟨⟨some g2,i+1,cap2⟩,5,i+1,_,rfl,hres,hund,fun g' hg'=> ?_,rfl,by omega,by unfold maxLen;omega,xs++vs,⟨o3,.inr ⟨g2,cap2,cur2,rfl,Nat.zero_le _,p3,p4,p5,p6,p7⟩⟩,hrow⟩
   cases hg'
   have hb:=(Array.getElem?_eq_some_iff.1 p3).1
   refine⟨?_,hb⟩
   exact(o5 g2 rfl).imp_left fun e=>by rw[hLa,e]
  have hi:i<n:=by omega
  by_cases hroom:n+1<=cap
  ·refine Calls.mono (Q0 g n cap i vb voff vc cur 107 vs w q3 hi hroom q5 q6 hvb hvl hvs hv1 hx1) ?_
   rintro ex w' ⟨rfl,W,hW,d1,hd1,rfl⟩
   have hcl:(n+1)*5<=cur.toList.length:=by rw[Array.length_toList,q6];omega
   have hd1l:d1.length=cap*5:=by
    rw[hd1,List.length_append,List.length_append,List.length_take,List.length_take,List.length_drop,List.length_drop,Array.length_toList,q6];omega
   have hWh:W.heap=w.heap/\W.os=w.os/\W.tape=w.tape/\W.output=w.output:=by
    rcases hW with rfl|rfl<;>exact⟨rfl,rfl,rfl,rfl⟩
   have hrow:=L5 (w':=(W.setRow g d1.toArray).setRow g (d1.take (i*5)++vs++d1.drop (i*5+5)).toArray) hw hw1 hin f5 hvr (xs':=(d1.take (i*5)++vs++d1.drop (i*5+5)).take ((n+1)*5)) fun q hq=>by
    rw[List.getElem?_take,if_pos hq,OH hvl hcl hi hd1 q hq,KT q7 hin hq]
   have hh:((W.setRow g d1.toArray).setRow g (d1.take (i*5)++vs++d1.drop (i*5+5)).toArray).heap[g]?=some (.cells (d1.take (i*5)++vs++d1.drop (i*5+5)).toArray 107 (0,0)):=setRow_heap _ _ _ _ _ _ (setRow_heap _ _ cur _ _ _ (by rw[hWh.1];exact q3))
   have hu0:(⟨w,fun g'=>L.a=some g'⟩:AW).Under W:=(AW.Under.refl ⟨w,_⟩).but hWh.2.1 hWh.2.2.1 hWh.2.2.2 (by rw[hWh.1];exact Nat.le_refl _) fun k _ _=>by rw[hWh.1]
   refine⟨⟨some g,n+1,cap⟩,5,n+1,_,rfl,hres,(hu0.setRow (.inr hLa) _).setRow (.inr hLa) _,fun g' hg'=> ?_,rfl,by omega,by unfold maxLen;omega,_,⟨?_,.inr ⟨g,cap,_,rfl,Nat.zero_le _,hh,hroom,q5,?_,rfl⟩⟩,hrow⟩
   ·cases hg'
    exact⟨.inl hLa,(Array.getElem?_eq_some_iff.1 hh).1⟩
   ·rw[List.length_take,List.length_append,List.length_append,List.length_take,List.length_drop,hd1l,hvl];omega
   rw[List.size_toArray,List.length_append,List.length_append,List.length_take,List.length_drop,hd1l,hvl];omega
  refine Calls.mono (U9 g n cap i vb voff vc cur 107 vs w q3 hi q4 (by omega) q5 (by omega) q6 hvb hvl hvs hv1 hx1) ?_
  rintro ex w' ⟨G',ROW,g1,g2,g3,g4,rfl,g5,g6,g7,d1,hd1,g8⟩
  have hcl:n*5<=cur.toList.length:=by rw[Array.length_toList,q6];omega
  have hrl:(n+1)*5<=ROW.toList.length:=by rw[Array.length_toList,g3];omega
  have hd1l:d1.length=G'*5:=by
   rw[hd1,List.length_append,List.length_append,List.length_take,List.length_drop,Array.length_toList,g3,hvl];omega
  have hd2l:(d1.take ((i+1)*5)++(cur.toList.drop (i*5)).take ((n-i)*5)++d1.drop ((i+1)*5+(n-i)*5)).length=G'*5:=by
   rw[List.length_append,List.length_append,List.length_take,List.length_take,List.length_drop,List.length_drop,hd1l,Array.length_toList,q6];omega
  have hrow:=L5 (w':=w') hw hw1 hin f5 hvr (xs':=(d1.take ((i+1)*5)++(cur.toList.drop (i*5)).take ((n-i)*5)++d1.drop ((i+1)*5+(n-i)*5)).take ((n+1)*5)) fun q hq=>by
   rw[List.getElem?_take,if_pos hq,QI hvl hcl hrl g4 hi hd1 q hq,KT q7 hin hq]
  have hh:w'.heap[w.heap.size]?=some (.cells (d1.take ((i+1)*5)++(cur.toList.drop (i*5)).take ((n-i)*5)++d1.drop ((i+1)*5+(n-i)*5)).toArray 107 (0,0)):=by
   rw[g8];exact setRow_heap _ _ _ _ _ _ (setRow_heap _ _ ROW _ _ _ (heap_alloc_new w.drew _))
  have hsz:w'.heap.size=w.heap.size+1:=by rw[g8];simp
  have hu0:(⟨w,fun g'=>L.a=some g'⟩:AW).Under w':=(AW.Under.refl ⟨w,_⟩).but g5 g6 g7 (by rw[hsz];exact Nat.le_succ _) fun k hk _=>by
   have hk:k<w.heap.size:=hk
   have hk2:k≠w.heap.size:=Nat.ne_of_lt hk
   rw[g8,setRow_other _ _ k _ hk2,setRow_other _ _ k _ hk2]
   exact heap_alloc_old w.drew _ hk
  refine⟨⟨some w.heap.size,n+1,G'⟩,5,n+1,_,rfl,hres,hu0,fun g' hg'=> ?_,rfl,by omega,by unfold maxLen;omega,_,⟨?_,.inr ⟨w.heap.size,G',_,rfl,Nat.zero_le _,hh,g1,g2,?_,rfl⟩⟩,hrow⟩
  ·cases hg'
   exact⟨.inr (Nat.le_refl _),by rw[hsz];exact Nat.lt_succ_self _⟩
  ·rw[List.length_take,hd2l];omega
  rw[List.size_toArray,hd2l]
 exact h2.2.2.elim
end Go.Proofs.YtlieoghhkioflaaGreat
namespace Go.Proofs.YtlieoghhkioflaaGreat
open Go Go.RowKit
def XQ(n:Int)(p:Nat->Int)(k:Nat)(i j:Nat):Bool:=decide (FO n p k j<FO n p k i)
theorem Qt(n:Int)(p:Nat->Int)(k x:Nat):∀L:List Nat,(∀y∈L,y<x)->L.Pairwise (fun a b=>DP n p k a b=true)->(C4 (XQ n p k) x L).Pairwise fun a b=>DP n p k a b=true
 |[],_,_=>by simp[C4]
 |y::L,hx,hs=>by
  rw[List.pairwise_cons]at hs
  rw[C4]
  by_cases e:XQ n p k x y=true
  ·rw[if_pos e,List.pairwise_cons,List.pairwise_cons]
   have e1:DP n p k x y=true:=by
    unfold XQ at e;unfold DP
    exact decide_eq_true (.inl (of_decide_eq_true e))
   refine⟨fun z hz=> ?_,hs⟩
   rcases List.mem_cons.1 hz with rfl|hz
   ·exact e1
   exact HT e1 (hs.1 z hz)
  rw[if_neg e,List.pairwise_cons]
  refine⟨fun z hz=> ?_,Qt n p k x L (fun z hz=>hx z (by simp[hz])) hs.2⟩
  rcases(Ge x L z).1 hz with rfl|hz
  ·have e1:¬FO n p k y<FO n p k z:=fun h=>e (decide_eq_true h)
   have:=hx y (by simp)
   unfold DP
   exact decide_eq_true (by omega)
  exact hs.1 z hz
def Fe(n:Int)(p:Nat->Int)(k j:Nat):List Nat:=AH (XQ n p k) (List.range j)
theorem Zv(n:Int)(p:Nat->Int)(k j:Nat):Fe n p k (j+1)=C4 (XQ n p k) j (Fe n p k j):=by
 unfold Fe;rw[List.range_succ,Cf]
theorem Jm(n:Int)(p:Nat->Int)(k j i:Nat):i∈Fe n p k j↔i<j:=by
 unfold Fe;rw[Gp,List.mem_range]
theorem M3(n:Int)(p:Nat->Int)(k j:Nat):(Fe n p k j).length=j:=by
 unfold Fe;rw[Dt,List.length_range]
theorem JH(n:Int)(p:Nat->Int)(k:Nat):∀j,(Fe n p k j).Pairwise fun a b=>DP n p k a b=true
 |0=>List.Pairwise.nil
 |j+1=>by
  rw[Zv]
  exact Qt n p k j _ (fun y hy=>(Jm n p k j y).1 hy) (JH n p k j)
theorem Mv{O:List Nat}{t:Nat}(h:t<O.length)(i:Nat):i∈O.take (t+1)↔i∈O.take t\/i=O[t]:=by
 rw[List.take_add_one,List.getElem?_eq_getElem h,List.mem_append]
 show _\/i∈[O[t]]↔_
 rw[List.mem_singleton]
theorem I6(n:Int)(p:Nat->Int)(k:Nat):∀t,t<=k->NW n p k (fun i=>decide (i∈(Fe n p k k).take t)) t
 |0,_=>(NW.zero n p k).congr fun i _=>by simp
 |t+1,ht=>by
  have ih:=I6 n p k t (by omega)
  have hl:=M3 n p k k
  have hp:=JH n p k k
  have hm:=Jm n p k k
  generalize Fe n p k k=O at*
  have hb:O[t]<k:=(hm _).1 (List.getElem_mem _)
  have hpw:=List.pairwise_iff_getElem.1 hp
  have nin:O[t]∉O.take t:=fun h=>by
   obtain⟨q,hq,he⟩:=List.getElem_of_mem h
   rw[List.length_take]at hq
   rw[List.getElem_take]at he
   have:=hpw q t (by omega) (by omega) (by omega)
   rw[he,Fu]at this;cases this
  refine(ih.next hb (decide_eq_false nin) fun j hj hjn=> ?_).congr fun i _=> ?_
  ·have hjn:=of_decide_eq_false hjn
   obtain⟨q,hq,he⟩:=List.getElem_of_mem ((hm j).2 hj)
   cases e:DP n p k j O[t]with
   |false=>rfl
   |true=>
    exfalso
    by_cases c1:q<t
    ·refine hjn ?_
     rw[<-he,List.mem_take_iff_getElem]
     exact⟨q,by omega,rfl⟩
    by_cases c2:q=t
    ·subst c2;rw[<-he,Fu]at e;cases e
    have h1:=hpw t q (by omega) (by omega) (by omega)
    rw[he]at h1
    have:=HT h1 e
    rw[Fu]at this;cases this
  have:=Mv (O:=O) (t:=t) (by omega) i
  by_cases c1:i∈O.take t
  ·rw[decide_eq_true c1,decide_eq_true (this.2 (.inl c1))];rfl
  by_cases c2:i=O[t]
  ·rw[decide_eq_true c2,decide_eq_true (this.2 (.inr c2)),Bool.or_true]
  rw[decide_eq_false c1,decide_eq_false c2,decide_eq_false fun k=>(this.1 k).elim c1 c2];rfl
theorem S9{n:Int}{p:Nat->Int}{k t:Nat}(ht:t<k):∃b,(Fe n p k k)[t]?=some b/\b<k/\¬Nj n p k b<t/\∀i,i<k->(Nj n p k i<t+1↔Nj n p k i<t\/i=b):=by
 have hl:=M3 n p k k
 have hb:(Fe n p k k)[t]<k:=(Jm n p k k _).1 (List.getElem_mem _)
 refine⟨(Fe n p k k)[t],List.getElem?_eq_getElem (by omega),hb,fun hr=> ?_,fun i hi=> ?_⟩
 ·have h1:=(I6 n p k t (by omega)).iff hb
  have h1:(Fe n p k k)[t]∈(Fe n p k k).take t↔Nj n p k (Fe n p k k)[t]<t:=by simpa[Nj]using h1
  obtain⟨q,hq,he⟩:=List.getElem_of_mem (h1.2 hr)
  rw[List.length_take]at hq
  rw[List.getElem_take]at he
  have:=List.pairwise_iff_getElem.1 (JH n p k k) q t (by omega) (by omega) (by omega)
  rw[he,Fu]at this;cases this
 have h1:=(I6 n p k t (by omega)).iff hi
 have h2:=(I6 n p k (t+1) ht).iff hi
 have h1:i∈(Fe n p k k).take t↔Nj n p k i<t:=by simpa[Nj]using h1
 have h2:i∈(Fe n p k k).take (t+1)↔Nj n p k i<t+1:=by simpa[Nj]using h2
 rw[<-h1,<-h2]
 exact Mv (by omega) i
end Go.Proofs.YtlieoghhkioflaaGreat
