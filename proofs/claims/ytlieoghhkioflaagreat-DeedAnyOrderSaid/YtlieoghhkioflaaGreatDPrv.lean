/- Prices that prove, plain: the map of what all costs until an end, and the prices one by one. No condition. -/
import Derived.Test.YtlieoghhkioflaaGreatE4
import Derived.Test.YtlieoghhkioflaaGreatDAuc
import Derived.Test.YtlieoghhkioflaaGreatLDez
set_option linter.unusedSimpArgs false
set_option linter.unusedVariables false
namespace Go.Proofs.YtlieoghhkioflaaGreat
def pre(P:Nat->Int):Nat->Int
 |0=>0
 |j+1=>pre P j+P j
theorem L2(E:Nat->Int)(m:Nat)(h:∀j,j<m->E j<E (j+1))(a:Nat):∀b,a<b->b<=m->E a<E b
 |0,q,_=>by omega
 |b+1,q,hb=>by
   have:=h b (by omega)
   by_cases e:a=b
   ·subst e;exact this
   have:=L2 E m h a b (by omega) (by omega);omega
theorem DV(E:Nat->Int)(m:Nat)(h:∀j,j<m->E j<E (j+1)){a b:Nat}(ha:a<=m)(hb:b<=m):
  E a<=E b↔a<=b:=by
 constructor
 ·intro q
  apply Nat.not_lt.1
  intro z
  have:=L2 E m h b a z ha;omega
 intro q
 rcases Nat.lt_or_eq_of_le q with z|rfl
 ·have:=L2 E m h a b z hb;omega
 exact Int.le_refl _
theorem Nv(E:Nat->Int)(m:Nat)(h:∀j,j<m->E j<E (j+1)){a b:Nat}(ha:a<=m)(hb:b<=m)
  (e:E a=E b):a=b:=by
 have h1:=(DV E m h ha hb).1 (by omega)
 have h2:=(DV E m h hb ha).1 (by omega)
 omega
def Gj(E P:Nat->Int):Nat->Int->Option Int
 |0,k=>if k=E 0 then some 0 else none
 |j+1,k=>if k=E (j+1)then some ((Gj E P j (E j)).getD 0+P j)else Gj E P j k
theorem Oo(E P:Nat->Int):∀j,Gj E P j (E j)=some (pre P j)
 |0=>by simp[Gj,pre]
 |j+1=>by rw[Gj,if_pos rfl,Oo E P j];rfl
theorem HC(E P:Nat->Int)(m:Nat)(h:∀j,j<m->E j<E (j+1)):
  ∀j,j<=m->∀a,a<=j->Gj E P j (E a)=some (pre P a)
 |0,_,a,ha=>by
   have:a=0:=by omega
   subst this;simp[Gj,pre]
 |j+1,hj,a,ha=>by
   by_cases e:a=j+1
   ·subst e;exact Oo E P _
   have:¬E a=E (j+1):=fun z=>e (Nv E m h (by omega) hj z)
   rw[Gj,if_neg this,HC E P m h j (by omega) a (by omega)]
theorem HH(E P:Nat->Int)(k:Int):∀j,(∀a,a<=j->k≠E a)->Gj E P j k=none
 |0,h=>by rw[Gj,if_neg (h 0 (Nat.le_refl _))]
 |j+1,h=>by rw[Gj,if_neg (h _ (Nat.le_refl _)),HH E P k j (fun a ha=>h a (by omega))]
def Yr(E P:Nat->Int)(F T:Int):Nat->Int
 |0=>0
 |i+1=>Yr E P F T i+if F<=E i/\E (i+1)<=T then P i else 0
theorem P6(E P:Nat->Int)(m:Nat)(h:∀j,j<m->E j<E (j+1))(a b:Nat)(hab:a<=b)(hb:b<=m):
  ∀i,i<=m->Yr E P (E a) (E b) i=pre P (min i b)-pre P (min i a)
 |0,_=>by simp[Yr,pre]
 |i+1,hi=>by
   rw[Yr,P6 E P m h a b hab hb i (by omega)]
   simp only[DV E m h (show a<=m by omega) (show i<=m by omega),DV E m h hi hb]
   by_cases h1:a<=i
   ·by_cases h2:i+1<=b
    ·rw[if_pos ⟨h1,h2⟩]
     have e1:min i b=i:=by omega
     have e2:min (i+1) b=i+1:=by omega
     have e3:min i a=a:=by omega
     have e4:min (i+1) a=a:=by omega
     rw[e1,e2,e3,e4,pre];omega
    rw[if_neg (fun z=>h2 z.2)]
    have e1:min i b=b:=by omega
    have e2:min (i+1) b=b:=by omega
    have e3:min i a=a:=by omega
    have e4:min (i+1) a=a:=by omega
    rw[e1,e2,e3,e4];omega
   rw[if_neg (fun z=>h1 z.1)]
   have e1:min i b=i:=by omega
   have e2:min (i+1) b=i+1:=by omega
   have e3:min i a=i:=by omega
   have e4:min (i+1) a=i+1:=by omega
   rw[e1,e2,e3,e4];omega
theorem UF(E P:Nat->Int)(m:Nat)(h:∀j,j<m->E j<E (j+1))(F T B:Int)
  (hF:E 0<=F) (hFT:F<T) (hT:T<=E m):
  ((Gj E P m F).isSome=true/\(Gj E P m T).isSome=true/\B<=(Gj E P m T).getD 0-(Gj E P m F).getD 0)↔
  ((∃i,i<m/\E i=F)/\(∃i,i<m/\E (i+1)=T)/\B<=Yr E P F T m):=by
 by_cases hf:∃a,a<=m/\F=E a
 ·obtain⟨a,ha,rfl⟩:=hf
  by_cases ht:∃b,b<=m/\T=E b
  ·obtain⟨b,hb,rfl⟩:=ht
   have hab:¬b<=a:=fun z=>by
    have:=(DV E m h hb ha).2 z;omega
   rw[HC E P m h m (Nat.le_refl _) a ha,HC E P m h m (Nat.le_refl _) b hb,
    P6 E P m h a b (by omega) hb m (Nat.le_refl _)]
   have e1:min m b=b:=by omega
   have e2:min m a=a:=by omega
   rw[e1,e2]
   constructor
   ·rintro⟨_,_,q⟩
    exact⟨⟨a,by omega,rfl⟩,⟨b-1,by omega,by rw[show b-1+1=b by omega]⟩,q⟩
   rintro⟨_,_,q⟩
   exact⟨rfl,rfl,q⟩
  have:Gj E P m T=none:=HH E P T m fun a ha e=>ht ⟨a,ha,e⟩
  rw[this]
  constructor
  ·rintro⟨_,q,_⟩;cases q
  rintro⟨_,⟨i,hi,e⟩,_⟩;exact absurd ⟨i+1,by omega,e.symm⟩ ht
 have:Gj E P m F=none:=HH E P F m fun a ha e=>hf ⟨a,ha,e⟩
 rw[this]
 constructor
 ·rintro⟨q,_⟩;cases q
 rintro⟨⟨i,hi,e⟩,_⟩;exact absurd ⟨i,by omega,e.symm⟩ hf
end Go.Proofs.YtlieoghhkioflaaGreat
namespace Go.Proofs.YtlieoghhkioflaaGreat
def KB(F T V:Nat->Int)(n:Nat)(E:Nat->Int):Nat->Int->Int
 |0,_=>0
 |i+1,k=>if k=E (i+1)then tp T V (E (i+1)) (fun b=>KB F T V n E i (F b)) (KB F T V n E i (E i)) n
   else KB F T V n E i k
theorem PI(F T V:Nat->Int)(n:Nat)(E:Nat->Int)(m:Nat)(h:∀j,j<m->E j<E (j+1))
  (hF:∀b,b<n->F b<T b) (hFe:∀b,b<n->∃a,a<=m/\F b=E a) (hTe:∀b,b<n->∃a,a<=m/\T b=E a):
  ∀i,i<=m->∀a,a<=i->Hp F T V n (E a) (KB F T V n E i (E a))
 |0,_,a,ha=>by
   have:a=0:=by omega
   subst this
   refine Uw F T V n _ fun b hb=> ?_
   obtain⟨a,ha,e⟩:=hFe b hb
   have:=(DV E m h (show 0<=m by omega) ha).2 (by omega)
   have:=hF b hb
   omega
 |i+1,hi,a,ha=>by
   have ih:=PI F T V n E m h hF hFe hTe i (by omega)
   by_cases e:a=i+1
   ·subst e
    rw[KB,if_pos rfl]
    have hlt:=h i (by omega)
    refine Ti F T V n (E i) (E (i+1)) _ _ (by omega) hF (ih i (Nat.le_refl _)) ?_ ?_
    ·intro b hb hT
     obtain⟨a,ha,e⟩:=hFe b hb
     have:=hF b hb
     have hai:¬i+1<=a:=fun z=>by
      have:=(DV E m h hi ha).2 z;omega
     have:=ih a (by omega)
     rw[e];exact this
    intro b hb hT
    obtain⟨a,ha,e⟩:=hTe b hb
    have q:=(DV E m h ha hi).1 (by omega)
    by_cases z:a=i+1
    ·subst z;exact Or.inr e
    left
    have:=(DV E m h ha (show i<=m by omega)).2 (by omega)
    omega
   have:¬E a=E (i+1):=fun z=>e (Nv E m h (by omega) hi z)
   rw[KB,if_neg this]
   exact ih a (by omega)
theorem Pb(F T V:Nat->Int)(n:Nat)(E:Nat->Int)(m:Nat)(h:∀j,j<m->E j<E (j+1))
  (hF:∀b,b<n->F b<T b) (hFe:∀b,b<n->∃a,a<=m/\F b=E a) (hTe:∀b,b<n->∃a,a<=m/\T b=E a)
  (i:Nat) (hi:i<=m) (a:Nat) (ha:a<=i):
  KB F T V n E i (E a)=(NR n (FN V) (Vj F T (E a))).2:=
 (PI F T V n E m h hF hFe hTe i hi a ha).uniq F T V n (MO F T V n (E a))
end Go.Proofs.YtlieoghhkioflaaGreat
namespace Go.Proofs.YtlieoghhkioflaaGreat
variable{b:Nat×(Nat->Bd)}{t:Tu}
theorem Lf:FS t b=0↔Pk t/\b.1<=12/\∀i,i<b.1->L6 t (b.2 i):=by
 unfold FS
 constructor
 ·intro h0
  split at h0
  ·rename_i ht
   split at h0
   ·exact absurd h0 (by decide)
   split at h0
   ·rename_i h12 hb;exact⟨AM.1 ht,by omega,AM.1 hb⟩
   exact absurd h0 (by decide)
  exact absurd h0 (by decide)
 rintro⟨h1,h2,h3⟩
 rw[At h1,if_pos rfl,if_neg (by omega),At h3,if_pos rfl]
structure FD(t:Tu)(b:Nat×(Nat->Bd)):Prop where
 tu:Pk t
 n:b.1<=12
 bd:∀i,i<b.1->L6 t (b.2 i)
theorem AbI(h:FS t b=0):FD t b:=by
 obtain⟨h1,h2,h3⟩:=Lf.1 h
 exact⟨h1,h2,h3⟩
theorem FD.best(h:FD t b):b.1<=12/\∀i,i<b.1->(b.2 i).turn.fro<(b.2 i).turn.til/\0<=(b.2 i).baisa/\(b.2 i).baisa<=1000000000:=⟨h.n,fun i hi=>by
 obtain⟨_,⟨_,h1,_⟩,h2,h3⟩:=h.bd i hi
 exact⟨h1,h2,h3⟩⟩
theorem FC(h:FD t b):(Cd t b).Pairwise (fun x y=>x<y)/\∀x,x∈Cd t b↔x∈OD t b:=by
 obtain⟨h1,h2,h3⟩:=h.tu
 exact KP (OD t b) t.til (P7 t b) (fun a ha=>(LG t b h.tu h.bd a ha).2) _ _ [] (by omega) (by omega) List.Pairwise.nil
  (fun x=>⟨fun q=>by simp at q,fun⟨q,r⟩=>by have:=(LG t b h.tu h.bd x q).1;omega⟩)
theorem Ms(lo hi:Int):∀(l:List Int),l.Pairwise (fun x y=>x<y)->(∀x,x∈l->lo<=x/\x<=hi)->lo<=hi+1->(l.length:Int)<=hi-lo+1
 |[],_,_,h=>by simp;omega
 |a::l,hp,hm,_=>by
  rw[List.pairwise_cons]at hp
  have ha:=hm a (List.mem_cons_self ..)
  have:=Ms (a+1) hi l hp.2 (fun x hx=>⟨by have:=hp.1 x hx;omega,(hm x (List.mem_cons_of_mem _ hx)).2⟩) (by omega)
  rw[List.length_cons];omega
theorem FD.len(h:FD t b):1<=(Cd t b).length/\(Cd t b).length<=23041:=by
 obtain⟨h1,h2⟩:=FC h
 obtain⟨t1,t2,t3⟩:=h.tu
 have:=Ms t.fro t.til _ h1 (fun x hx=>LG t b h.tu h.bd x ((h2 x).1 hx)) (by omega)
 have hm:=(h2 t.til).2 (P7 t b)
 exact⟨List.length_pos_of_mem hm,by omega⟩
theorem G1{l:List Int}{i:Nat}(h:i<l.length):ln l i=l[i]:=by simp[ln,List.getElem?_eq_getElem h]
theorem FD.rise(h:FD t b):∀j,j<(Cd t b).length-1->ln (Cd t b) j<ln (Cd t b) (j+1):=by
 intro j hj
 rw[G1 (by omega),G1 (by omega)]
 exact List.pairwise_iff_getElem.1 (FC h).1 _ _ _ _ (by omega)
theorem FD.at(h:FD t b){x:Int}(hx:x∈OD t b):∃a,a<=(Cd t b).length-1/\x=ln (Cd t b) a:=by
 obtain⟨i,hi,e⟩:=List.getElem_of_mem (((FC h).2 x).2 hx)
 exact⟨i,by omega,by rw[G1 hi,e]⟩
theorem FD.fe(h:FD t b):∀k,k<b.1->∃a,a<=(Cd t b).length-1/\bF b k=ln (Cd t b) a:=fun k hk=>
 h.at (List.mem_map.2 ⟨2*k+2,List.mem_range.2 (by omega),Abe t b k⟩)
theorem FD.te(h:FD t b):∀k,k<b.1->∃a,a<=(Cd t b).length-1/\bT b k=ln (Cd t b) a:=fun k hk=>
 h.at (List.mem_map.2 ⟨2*k+3,List.mem_range.2 (by omega),AaE t b k⟩)
noncomputable def Kt(b:Nat×(Nat->Bd))(x:Int):Int:=(IB b x).2
theorem UW(h:FD t b)(i:Nat)(hi:i<=(Cd t b).length-1)(a:Nat)(ha:a<=i):KB (bF b) (bT b) (bV b) b.1 (ln (Cd t b)) i (ln (Cd t b) a)=Kt b (ln (Cd t b) a):=
 Pb (bF b) (bT b) (bV b) b.1 (ln (Cd t b)) _ h.rise (fun k hk=>(h.best.2 k hk).1) h.fe h.te i hi a ha
theorem Aby(h:FD t b):Kt b (ln (Cd t b) 0)=0:=(UW h 0 (Nat.zero_le _) 0 (Nat.le_refl _)).symm
theorem Xx{V:Nat->Int}{c:Nat->Bool}:∀n,(∀i,i<n->0<=V i/\V i<=1000000000)->0<=vS V c n/\vS V c n<=n*1000000000
 |0,_=>by simp[vS]
 |n+1,h=>by
  have ih:=Xx (c:=c) n fun i hi=>h i (by omega)
  have:=h n (by omega)
  rw[vS];split<;>omega
theorem Yi(h:FD t b)(x:Int):0<=Kt b x/\Kt b x<=12000000000:=by
 have hn:=h.n
 obtain⟨c,_,e⟩:=(MO (bF b) (bT b) (bV b) b.1 x).ex
 have:=Xx (V:=bV b) (c:=c) b.1 (fun i hi=>(h.best.2 i hi).2)
 show 0<=(NR b.1 (FN (bV b)) (Vj (bF b) (bT b) x)).2/\_
 unfold Kt IB
 omega
noncomputable def Lp(t:Tu)(b:Nat×(Nat->Bd)):Nat×(Nat->Pc):=((Cd t b).length-1,fun i=>⟨⟨ln (Cd t b) i,ln (Cd t b) (i+1)⟩,Kt b (ln (Cd t b) (i+1))-Kt b (ln (Cd t b) i)⟩)
end Go.Proofs.YtlieoghhkioflaaGreat
namespace Go.Proofs.YtlieoghhkioflaaGreat
open Go Go.RowKit
variable{G:Nat->Option (Nat×(Nat->Ad))}
abbrev ZI:=Nat×(Nat->Bd)
abbrev Sd:=Nat×(Nat->Pc)
def OJ(c:Nat->Bool):Nat->Bool
 |0=>false
 |i+1=>OJ c i||c i
theorem J9(c:Nat->Bool):∀n,OJ c n=true↔∃i,i<n/\c i=true
 |0=>by simp[OJ]
 |n+1=>by
  rw[OJ,Bool.or_eq_true,J9 c n]
  constructor
  ·rintro(⟨i,h,k⟩|h)
   ·exact⟨i,by omega,k⟩
   exact⟨n,by omega,h⟩
  rintro⟨i,h,k⟩
  by_cases e:i=n
  ·subst e;exact .inr k
  exact .inl ⟨i,by omega,k⟩
def eA(t:Tu)(p:Sd):Nat->Int
 |0=>t.fro
 |j+1=>(p.2 j).turn.til
abbrev pA(p:Sd)(j:Nat):Int:=(p.2 j).baisa
def JI(t:Tu)(p:Sd)(j:Nat):Prop:=(p.2 j).turn.fro=eA t p j/\eA t p j<(p.2 j).turn.til/\(p.2 j).turn.til<=t.til/\0<=pA p j/\pA p j<=12000000000
def Abj(t:Tu)(p:Sd):Prop:=(∀j,j<p.1->JI t p j)/\eA t p p.1=t.til
def R6(p:Sd)(x:Int)(i:Nat):Bool:=decide ((p.2 i).turn.fro=x)
def RA(p:Sd)(x:Int)(i:Nat):Bool:=decide ((p.2 i).turn.til=x)
def RG(t:Tu)(p:Sd)(b:Bd):Prop:=OJ (R6 p b.turn.fro) p.1=true/\OJ (RA p b.turn.til) p.1=true/\b.baisa<=Yr (eA t p) (pA p) b.turn.fro b.turn.til p.1
def SZ(t:Tu)(b:ZI)(p:Sd):Prop:=p.1<=60/\Abj t p/\∀k,k<b.1->RG t p (b.2 k)
noncomputable def Og(t:Tu)(b:ZI)(p:Sd):Int×Bool:=if A8 (SZ t b p)=true then(pre (pA p) p.1,true)else(0,false)
theorem OT(t:Tu)(p:Sd):∀j,(∀i,i<j->JI t p i)->0<=pre (pA p) j/\pre (pA p) j<=j*12000000000
 |0,_=>by simp[pre]
 |j+1,h=>by
  have ih:=OT t p j fun i hi=>h i (by omega)
  obtain⟨_,_,_,q1,q2⟩:=h j (by omega)
  rw[pre];omega
noncomputable def GO(t:Tu)(b:ZI)(p:Sd):Int×Int:=if FS t b=0 then(if(Og t b p).2=true then((Og t b p).1,0)else(0,44))else(0,FS t b)
noncomputable def LH:As:=D5 VN (Dv RBd) (Dv RPc) (fun _ _ _=>True) fun t b p=> .tup (.cons (.int .i64 (GO t b p).1) (.cons (.int .i64 (GO t b p).2) .nil))
end Go.Proofs.YtlieoghhkioflaaGreat
namespace Go.Proofs.YtlieoghhkioflaaGreat
def O2:Tu:=⟨0,100⟩
def Ko:Nat->Bd
 |0=>⟨1,⟨0,60⟩,50⟩
 |1=>⟨2,⟨40,100⟩,45⟩
 |2=>⟨3,⟨0,40⟩,20⟩
 |_=>⟨4,⟨60,100⟩,10⟩
def pcC:Nat->Pc
 |0=>⟨⟨0,40⟩,20⟩
 |1=>⟨⟨40,60⟩,30⟩
 |_=>⟨⟨60,100⟩,15⟩
theorem AaF{i:Nat}(h:i<4):i=0\/i=1\/i=2\/i=3:=by omega
theorem AbH{i:Nat}(h:i<3):i=0\/i=1\/i=2:=by omega
theorem X0:FS O2 (4,Ko)=0:=Lf.2 ⟨⟨by decide,by decide,by decide⟩,by decide,fun i hi=>by
 rcases AaF hi with rfl|rfl|rfl|rfl<;>exact⟨⟨by decide,by decide⟩,⟨by decide,by decide,by decide⟩,by decide,by decide⟩⟩
theorem Acd:IB (4,Ko) 100=([1,2],65):=by kernel_rfl
theorem AbU:Cd O2 (4,Ko)=[0,40,60,100]:=by kernel_rfl
theorem Aa5:(Lp O2 (4,Ko)).1=3/\∀i,i<3->(Lp O2 (4,Ko)).2 i=pcC i:=by
 have t0:Kt (4,Ko) 0=0:=by kernel_rfl
 have t1:Kt (4,Ko) 40=20:=by kernel_rfl
 have t2:Kt (4,Ko) 60=50:=by kernel_rfl
 have t3:Kt (4,Ko) 100=65:=by kernel_rfl
 unfold Lp
 rw[AbU]
 refine⟨rfl,fun i hi=> ?_⟩
 rcases AbH hi with rfl|rfl|rfl
 ·show(⟨⟨0,40⟩,Kt (4,Ko) 40-Kt (4,Ko) 0⟩:Pc)=_
  rw[t0,t1];rfl
 ·show(⟨⟨40,60⟩,Kt (4,Ko) 60-Kt (4,Ko) 40⟩:Pc)=_
  rw[t1,t2];rfl
 show(⟨⟨60,100⟩,Kt (4,Ko) 100-Kt (4,Ko) 60⟩:Pc)=_
 rw[t2,t3];rfl
theorem AcW{p:Sd}(h1:p.1=3)(h2:∀i,i<3->p.2 i=pcC i):GO O2 (4,Ko) p=(65,0):=by
 have h0:=h2 0 (by decide)
 have h1':=h2 1 (by decide)
 have h2':=h2 2 (by decide)
 have e0:eA O2 p 0=0:=rfl
 have e1:eA O2 p 1=40:=by show(p.2 0).turn.til=40;rw[h0];rfl
 have e2:eA O2 p 2=60:=by show(p.2 1).turn.til=60;rw[h1'];rfl
 have e3:eA O2 p 3=100:=by show(p.2 2).turn.til=100;rw[h2'];rfl
 have hp:SZ O2 (4,Ko) p:=by
  refine⟨by omega,⟨fun j hj=> ?_,?_⟩,fun k hk=> ?_⟩
  ·rw[h1]at hj
   rcases AbH hj with rfl|rfl|rfl
   ·unfold JI pA;rw[h0,e0];exact⟨rfl,by decide,by decide,by decide,by decide⟩
   ·unfold JI pA;rw[h1',e1];exact⟨rfl,by decide,by decide,by decide,by decide⟩
   unfold JI pA;rw[h2',e2];exact⟨rfl,by decide,by decide,by decide,by decide⟩
  ·rw[h1,e3];rfl
  have ef:∀x,R6 p x 0=decide ((0:Int)=x)/\R6 p x 1=decide ((40:Int)=x)/\R6 p x 2=decide ((60:Int)=x):=fun x=>by unfold R6;rw[h0,h1',h2'];exact⟨rfl,rfl,rfl⟩
  have et:∀x,RA p x 0=decide ((40:Int)=x)/\RA p x 1=decide ((60:Int)=x)/\RA p x 2=decide ((100:Int)=x):=fun x=>by unfold RA;rw[h0,h1',h2'];exact⟨rfl,rfl,rfl⟩
  have a0:pA p 0=20:=by unfold pA;rw[h0];rfl
  have a1:pA p 1=30:=by unfold pA;rw[h1'];rfl
  have a2:pA p 2=15:=by unfold pA;rw[h2'];rfl
  unfold RG
  rw[h1]
  rcases AaF hk with rfl|rfl|rfl|rfl<;>simp[Ko,OJ,Yr,ef,et,e0,e1,e2,e3,a0,a1,a2]
 have hs:pre (pA p) p.1=65:=by
  rw[h1];show 0+(p.2 0).baisa+(p.2 1).baisa+(p.2 2).baisa=65;rw[h0,h1',h2'];rfl
 rw[GO,if_pos X0,Og,At hp,if_pos rfl,if_pos rfl,hs]
end Go.Proofs.YtlieoghhkioflaaGreat
