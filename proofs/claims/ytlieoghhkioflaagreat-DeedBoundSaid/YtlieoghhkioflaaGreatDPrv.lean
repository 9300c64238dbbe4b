/- Prices that prove, plain: the map of what all costs until an end, and the prices one by one. No condition. -/
import Derived.Test.YtlieoghhkioflaaGreatE4
import Derived.Test.YtlieoghhkioflaaGreatDAuc
import Derived.Test.YtlieoghhkioflaaGreatDBas
set_option linter.unusedSimpArgs false
set_option linter.unusedVariables false
namespace Go.Proofs.YtlieoghhkioflaaGreat
def pre(P:Nat->Int):Nat->Int
 |0=>0
 |j+1=>pre P j+P j
theorem LF(E:Nat->Int)(m:Nat)(h:∀j,j<m->E j<E (j+1))(a:Nat):∀b,a<b->b<=m->E a<E b
 |0,q,_=>by omega
 |b+1,q,hb=>by
   have:=h b (by omega)
   by_cases e:a=b
   ·subst e;exact this
   have:=LF E m h a b (by omega) (by omega);omega
theorem DM(E:Nat->Int)(m:Nat)(h:∀j,j<m->E j<E (j+1)){a b:Nat}(ha:a<=m)(hb:b<=m):
  E a<=E b↔a<=b:=by
 constructor
 ·intro q
  apply Nat.not_lt.1
  intro z
  have:=LF E m h b a z ha;omega
 intro q
 rcases Nat.lt_or_eq_of_le q with z|rfl
 ·have:=LF E m h a b z hb;omega
 exact Int.le_refl _
theorem Nt(E:Nat->Int)(m:Nat)(h:∀j,j<m->E j<E (j+1)){a b:Nat}(ha:a<=m)(hb:b<=m)
  (e:E a=E b):a=b:=by
 have h1:=(DM E m h ha hb).1 (by omega)
 have h2:=(DM E m h hb ha).1 (by omega)
 omega
def Gk(E P:Nat->Int):Nat->Int->Option Int
 |0,k=>if k=E 0 then some 0 else none
 |j+1,k=>if k=E (j+1)then some ((Gk E P j (E j)).getD 0+P j)else Gk E P j k
theorem Pt(E P:Nat->Int):∀j,Gk E P j (E j)=some (pre P j)
 |0=>by simp[Gk,pre]
 |j+1=>by rw[Gk,if_pos rfl,Pt E P j];rfl
theorem Ha(E P:Nat->Int)(m:Nat)(h:∀j,j<m->E j<E (j+1)):
  ∀j,j<=m->∀a,a<=j->Gk E P j (E a)=some (pre P a)
 |0,_,a,ha=>by
   have:a=0:=by omega
   subst this;simp[Gk,pre]
 |j+1,hj,a,ha=>by
   by_cases e:a=j+1
   ·subst e;exact Pt E P _
   have:¬E a=E (j+1):=fun z=>e (Nt E m h (by omega) hj z)
   rw[Gk,if_neg this,Ha E P m h j (by omega) a (by omega)]
theorem G9(E P:Nat->Int)(k:Int):∀j,(∀a,a<=j->k≠E a)->Gk E P j k=none
 |0,h=>by rw[Gk,if_neg (h 0 (Nat.le_refl _))]
 |j+1,h=>by rw[Gk,if_neg (h _ (Nat.le_refl _)),G9 E P k j (fun a ha=>h a (by omega))]
def Mu(E P:Nat->Int)(F T:Int):Nat->Int
 |0=>0
 |i+1=>Mu E P F T i+if F<=E i/\E (i+1)<=T then P i else 0
theorem PX(E P:Nat->Int)(m:Nat)(h:∀j,j<m->E j<E (j+1))(a b:Nat)(hab:a<=b)(hb:b<=m):
  ∀i,i<=m->Mu E P (E a) (E b) i=pre P (min i b)-pre P (min i a)
 |0,_=>by simp[Mu,pre]
 |i+1,hi=>by
   rw[Mu,PX E P m h a b hab hb i (by omega)]
   simp only[DM E m h (show a<=m by omega) (show i<=m by omega),DM E m h hi hb]
   by_cases h1:a<=i
   ·by_cases h2:i+1<=b
    ·rw[if_pos ⟨h1,h2⟩]
     have e1:min i b=i:=by omega
     have e2:min (i+1) b=i+1:=by omega
     have e3:min i a=a:=by omega
     have e4:min (i+1) a=a:=by omega
     rw[e1,e2,e3,e4,pre];omega
    rw[if_neg (fun z=>h2 z.2)]
    have e1:min i b=b:=by omega
    have e2:min (i+1) b=b:=by omega
    have e3:min i a=a:=by omega
    have e4:min (i+1) a=a:=by omega
    rw[e1,e2,e3,e4];omega
   rw[if_neg (fun z=>h1 z.1)]
   have e1:min i b=i:=by omega
   have e2:min (i+1) b=i+1:=by omega
   have e3:min i a=i:=by omega
   have e4:min (i+1) a=i+1:=by omega
   rw[e1,e2,e3,e4];omega
theorem SA(E P:Nat->Int)(m:Nat)(h:∀j,j<m->E j<E (j+1))(F T B:Int)
  (hF:E 0<=F) (hFT:F<T) (hT:T<=E m):
  ((Gk E P m F).isSome=true/\(Gk E P m T).isSome=true/\B<=(Gk E P m T).getD 0-(Gk E P m F).getD 0)↔
  ((∃i,i<m/\E i=F)/\(∃i,i<m/\E (i+1)=T)/\B<=Mu E P F T m):=by
 by_cases hf:∃a,a<=m/\F=E a
 ·obtain⟨a,ha,rfl⟩:=hf
  by_cases ht:∃b,b<=m/\T=E b
  ·obtain⟨b,hb,rfl⟩:=ht
   have hab:¬b<=a:=fun z=>by
    have:=(DM E m h hb ha).2 z;omega
   rw[Ha E P m h m (Nat.le_refl _) a ha,Ha E P m h m (Nat.le_refl _) b hb,
    PX E P m h a b (by omega) hb m (Nat.le_refl _)]
   have e1:min m b=b:=by omega
   have e2:min m a=a:=by omega
   rw[e1,e2]
   constructor
   ·rintro⟨_,_,q⟩
    exact⟨⟨a,by omega,rfl⟩,⟨b-1,by omega,by rw[show b-1+1=b by omega]⟩,q⟩
   rintro⟨_,_,q⟩
   exact⟨rfl,rfl,q⟩
  have:Gk E P m T=none:=G9 E P T m fun a ha e=>ht ⟨a,ha,e⟩
  rw[this]
  constructor
  ·rintro⟨_,q,_⟩;cases q
  rintro⟨_,⟨i,hi,e⟩,_⟩;exact absurd ⟨i+1,by omega,e.symm⟩ ht
 have:Gk E P m F=none:=G9 E P F m fun a ha e=>hf ⟨a,ha,e⟩
 rw[this]
 constructor
 ·rintro⟨q,_⟩;cases q
 rintro⟨⟨i,hi,e⟩,_⟩;exact absurd ⟨i,by omega,e.symm⟩ hf
end Go.Proofs.YtlieoghhkioflaaGreat
namespace Go.Proofs.YtlieoghhkioflaaGreat
def Kq(F T V:Nat->Int)(n:Nat)(E:Nat->Int):Nat->Int->Int
 |0,_=>0
 |i+1,k=>if k=E (i+1)then tp T V (E (i+1)) (fun b=>Kq F T V n E i (F b)) (Kq F T V n E i (E i)) n
   else Kq F T V n E i k
theorem P2(F T V:Nat->Int)(n:Nat)(E:Nat->Int)(m:Nat)(h:∀j,j<m->E j<E (j+1))
  (hF:∀b,b<n->F b<T b) (hFe:∀b,b<n->∃a,a<=m/\F b=E a) (hTe:∀b,b<n->∃a,a<=m/\T b=E a):
  ∀i,i<=m->∀a,a<=i->Hj F T V n (E a) (Kq F T V n E i (E a))
 |0,_,a,ha=>by
   have:a=0:=by omega
   subst this
   refine Uu F T V n _ fun b hb=> ?_
   obtain⟨a,ha,e⟩:=hFe b hb
   have:=(DM E m h (show 0<=m by omega) ha).2 (by omega)
   have:=hF b hb
   omega
 |i+1,hi,a,ha=>by
   have ih:=P2 F T V n E m h hF hFe hTe i (by omega)
   by_cases e:a=i+1
   ·subst e
    rw[Kq,if_pos rfl]
    have hlt:=h i (by omega)
    refine UW F T V n (E i) (E (i+1)) _ _ (by omega) hF (ih i (Nat.le_refl _)) ?_ ?_
    ·intro b hb hT
     obtain⟨a,ha,e⟩:=hFe b hb
     have:=hF b hb
     have hai:¬i+1<=a:=fun z=>by
      have:=(DM E m h hi ha).2 z;omega
     have:=ih a (by omega)
     rw[e];exact this
    intro b hb hT
    obtain⟨a,ha,e⟩:=hTe b hb
    have q:=(DM E m h ha hi).1 (by omega)
    by_cases z:a=i+1
    ·subst z;exact Or.inr e
    left
    have:=(DM E m h ha (show i<=m by omega)).2 (by omega)
    omega
   have:¬E a=E (i+1):=fun z=>e (Nt E m h (by omega) hi z)
   rw[Kq,if_neg this]
   exact ih a (by omega)
theorem OJ(F T V:Nat->Int)(n:Nat)(E:Nat->Int)(m:Nat)(h:∀j,j<m->E j<E (j+1))
  (hF:∀b,b<n->F b<T b) (hFe:∀b,b<n->∃a,a<=m/\F b=E a) (hTe:∀b,b<n->∃a,a<=m/\T b=E a)
  (i:Nat) (hi:i<=m) (a:Nat) (ha:a<=i):
  Kq F T V n E i (E a)=(Ko n (DV V) (Oh F T (E a))).2:=
 (P2 F T V n E m h hF hFe hTe i hi a ha).uniq F T V n (M0 F T V n (E a))
end Go.Proofs.YtlieoghhkioflaaGreat
namespace Go.Proofs.YtlieoghhkioflaaGreat
variable{b:Nat×(Nat->Bd)}{t:Tu}
theorem KT:C8 t b=0↔NM t/\b.1<=12/\∀i,i<b.1->H1 t (b.2 i):=by
 unfold C8
 constructor
 ·intro h0
  split at h0
  ·rename_i ht
   split at h0
   ·exact absurd h0 (by decide)
   split at h0
   ·rename_i h12 hb;exact⟨Be.1 ht,by omega,Be.1 hb⟩
   exact absurd h0 (by decide)
  exact absurd h0 (by decide)
 rintro⟨h1,h2,h3⟩
 rw[AA h1,if_pos rfl,if_neg (by omega),AA h3,if_pos rfl]
structure EY(t:Tu)(b:Nat×(Nat->Bd)):Prop where
 tu:NM t
 n:b.1<=12
 bd:∀i,i<b.1->H1 t (b.2 i)
theorem Tt(h:C8 t b=0):EY t b:=by
 obtain⟨h1,h2,h3⟩:=KT.1 h
 exact⟨h1,h2,h3⟩
theorem EY.best(h:EY t b):b.1<=12/\∀i,i<b.1->(b.2 i).turn.fro<(b.2 i).turn.til/\0<=(b.2 i).baisa/\(b.2 i).baisa<=1000000000:=⟨h.n,fun i hi=>by
 obtain⟨_,⟨_,h1,_⟩,h2,h3⟩:=h.bd i hi
 exact⟨h1,h2,h3⟩⟩
theorem Fz(h:EY t b):(B8 t b).Pairwise (fun x y=>x<y)/\∀x,x∈B8 t b↔x∈Oj t b:=by
 obtain⟨h1,h2,h3⟩:=h.tu
 exact Lh (Oj t b) t.til (P1 t b) (fun a ha=>(L4 t b h.tu h.bd a ha).2) _ _ [] (by omega) (by omega) List.Pairwise.nil
  (fun x=>⟨fun q=>by simp at q,fun⟨q,r⟩=>by have:=(L4 t b h.tu h.bd x q).1;omega⟩)
theorem MP(lo hi:Int):∀(l:List Int),l.Pairwise (fun x y=>x<y)->(∀x,x∈l->lo<=x/\x<=hi)->lo<=hi+1->(l.length:Int)<=hi-lo+1
 |[],_,_,h=>by simp;omega
 |a::l,hp,hm,_=>by
  rw[List.pairwise_cons]at hp
  have ha:=hm a (List.mem_cons_self ..)
  have:=MP (a+1) hi l hp.2 (fun x hx=>⟨by have:=hp.1 x hx;omega,(hm x (List.mem_cons_of_mem _ hx)).2⟩) (by omega)
  rw[List.length_cons];omega
theorem EY.len(h:EY t b):1<=(B8 t b).length/\(B8 t b).length<=23041:=by
 obtain⟨h1,h2⟩:=Fz h
 obtain⟨t1,t2,t3⟩:=h.tu
 have:=MP t.fro t.til _ h1 (fun x hx=>L4 t b h.tu h.bd x ((h2 x).1 hx)) (by omega)
 have hm:=(h2 t.til).2 (P1 t b)
 exact⟨List.length_pos_of_mem hm,by omega⟩
theorem GW{l:List Int}{i:Nat}(h:i<l.length):ln l i=l[i]:=by simp[ln,List.getElem?_eq_getElem h]
theorem EY.rise(h:EY t b):∀j,j<(B8 t b).length-1->ln (B8 t b) j<ln (B8 t b) (j+1):=by
 intro j hj
 rw[GW (by omega),GW (by omega)]
 exact List.pairwise_iff_getElem.1 (Fz h).1 _ _ _ _ (by omega)
theorem EY.at(h:EY t b){x:Int}(hx:x∈Oj t b):∃a,a<=(B8 t b).length-1/\x=ln (B8 t b) a:=by
 obtain⟨i,hi,e⟩:=List.getElem_of_mem (((Fz h).2 x).2 hx)
 exact⟨i,by omega,by rw[GW hi,e]⟩
theorem EY.fe(h:EY t b):∀k,k<b.1->∃a,a<=(B8 t b).length-1/\bF b k=ln (B8 t b) a:=fun k hk=>
 h.at (List.mem_map.2 ⟨2*k+2,List.mem_range.2 (by omega),Z2 t b k⟩)
theorem EY.te(h:EY t b):∀k,k<b.1->∃a,a<=(B8 t b).length-1/\bT b k=ln (B8 t b) a:=fun k hk=>
 h.at (List.mem_map.2 ⟨2*k+3,List.mem_range.2 (by omega),AaD t b k⟩)
noncomputable def Kw(b:Nat×(Nat->Bd))(x:Int):Int:=(D2 b x).2
theorem Sa(h:EY t b)(i:Nat)(hi:i<=(B8 t b).length-1)(a:Nat)(ha:a<=i):Kq (bF b) (bT b) (bV b) b.1 (ln (B8 t b)) i (ln (B8 t b) a)=Kw b (ln (B8 t b) a):=
 OJ (bF b) (bT b) (bV b) b.1 (ln (B8 t b)) _ h.rise (fun k hk=>(h.best.2 k hk).1) h.fe h.te i hi a ha
theorem AaL(h:EY t b):Kw b (ln (B8 t b) 0)=0:=(Sa h 0 (Nat.zero_le _) 0 (Nat.le_refl _)).symm
theorem Xs{V:Nat->Int}{c:Nat->Bool}:∀n,(∀i,i<n->0<=V i/\V i<=1000000000)->0<=vS V c n/\vS V c n<=n*1000000000
 |0,_=>by simp[vS]
 |n+1,h=>by
  have ih:=Xs (c:=c) n fun i hi=>h i (by omega)
  have:=h n (by omega)
  rw[vS];split<;>omega
theorem Xx(h:EY t b)(x:Int):0<=Kw b x/\Kw b x<=12000000000:=by
 have hn:=h.n
 obtain⟨c,_,e⟩:=(M0 (bF b) (bT b) (bV b) b.1 x).ex
 have:=Xs (V:=bV b) (c:=c) b.1 (fun i hi=>(h.best.2 i hi).2)
 show 0<=(Ko b.1 (DV (bV b)) (Oh (bF b) (bT b) x)).2/\_
 unfold Kw D2
 omega
noncomputable def Ln(t:Tu)(b:Nat×(Nat->Bd)):Nat×(Nat->Pc):=((B8 t b).length-1,fun i=>⟨⟨ln (B8 t b) i,ln (B8 t b) (i+1)⟩,Kw b (ln (B8 t b) (i+1))-Kw b (ln (B8 t b) i)⟩)
end Go.Proofs.YtlieoghhkioflaaGreat
namespace Go.Proofs.YtlieoghhkioflaaGreat
open Go Go.RowKit
variable{G:Nat->Option (Nat×(Nat->Ad))}
abbrev YG:=Nat×(Nat->Bd)
abbrev Mq:=Nat×(Nat->Pc)
def OU(c:Nat->Bool):Nat->Bool
 |0=>false
 |i+1=>OU c i||c i
theorem Jv(c:Nat->Bool):∀n,OU c n=true↔∃i,i<n/\c i=true
 |0=>by simp[OU]
 |n+1=>by
  rw[OU,Bool.or_eq_true,Jv c n]
  constructor
  ·rintro(⟨i,h,k⟩|h)
   ·exact⟨i,by omega,k⟩
   exact⟨n,by omega,h⟩
  rintro⟨i,h,k⟩
  by_cases e:i=n
  ·subst e;exact .inr k
  exact .inl ⟨i,by omega,k⟩
def eA(t:Tu)(p:Mq):Nat->Int
 |0=>t.fro
 |j+1=>(p.2 j).turn.til
abbrev pA(p:Mq)(j:Nat):Int:=(p.2 j).baisa
def IF(t:Tu)(p:Mq)(j:Nat):Prop:=(p.2 j).turn.fro=eA t p j/\eA t p j<(p.2 j).turn.til/\(p.2 j).turn.til<=t.til/\0<=pA p j/\pA p j<=12000000000
def AaX(t:Tu)(p:Mq):Prop:=(∀j,j<p.1->IF t p j)/\eA t p p.1=t.til
def LD(p:Mq)(x:Int)(i:Nat):Bool:=decide ((p.2 i).turn.fro=x)
def LE(p:Mq)(x:Int)(i:Nat):Bool:=decide ((p.2 i).turn.til=x)
def Ok(t:Tu)(p:Mq)(b:Bd):Prop:=OU (LD p b.turn.fro) p.1=true/\OU (LE p b.turn.til) p.1=true/\b.baisa<=Mu (eA t p) (pA p) b.turn.fro b.turn.til p.1
def GQ(t:Tu)(b:YG)(p:Mq):Prop:=p.1<=60/\AaX t p/\∀k,k<b.1->Ok t p (b.2 k)
noncomputable def Mc(t:Tu)(b:YG)(p:Mq):Int×Bool:=if Bf (GQ t b p)=true then(pre (pA p) p.1,true)else(0,false)
theorem Mk(t:Tu)(p:Mq):∀j,(∀i,i<j->IF t p i)->0<=pre (pA p) j/\pre (pA p) j<=j*12000000000
 |0,_=>by simp[pre]
 |j+1,h=>by
  have ih:=Mk t p j fun i hi=>h i (by omega)
  obtain⟨_,_,_,q1,q2⟩:=h j (by omega)
  rw[pre];omega
noncomputable def E0(t:Tu)(b:YG)(p:Mq):Int×Int:=if C8 t b=0 then(if(Mc t b p).2=true then((Mc t b p).1,0)else(0,44))else(0,C8 t b)
noncomputable def Gu:At:=D1 Tg (Du NA) (Du UY) (fun _ _ _=>True) fun t b p=> .tup (.cons (.int .i64 (E0 t b p).1) (.cons (.int .i64 (E0 t b p).2) .nil))
end Go.Proofs.YtlieoghhkioflaaGreat
namespace Go.Proofs.YtlieoghhkioflaaGreat
def Pb:Tu:=⟨0,100⟩
def Kl:Nat->Bd
 |0=>⟨1,⟨0,60⟩,50⟩
 |1=>⟨2,⟨40,100⟩,45⟩
 |2=>⟨3,⟨0,40⟩,20⟩
 |_=>⟨4,⟨60,100⟩,10⟩
def pcC:Nat->Pc
 |0=>⟨⟨0,40⟩,20⟩
 |1=>⟨⟨40,60⟩,30⟩
 |_=>⟨⟨60,100⟩,15⟩
theorem Abu{i:Nat}(h:i<4):i=0\/i=1\/i=2\/i=3:=by omega
theorem AaV{i:Nat}(h:i<3):i=0\/i=1\/i=2:=by omega
theorem Zz:C8 Pb (4,Kl)=0:=KT.2 ⟨⟨by decide,by decide,by decide⟩,by decide,fun i hi=>by
 rcases Abu hi with rfl|rfl|rfl|rfl<;>exact⟨⟨by decide,by decide⟩,⟨by decide,by decide,by decide⟩,by decide,by decide⟩⟩
theorem AbO:D2 (4,Kl) 100=([1,2],65):=by kernel_rfl
theorem AcK:B8 Pb (4,Kl)=[0,40,60,100]:=by kernel_rfl
theorem Aap:(Ln Pb (4,Kl)).1=3/\∀i,i<3->(Ln Pb (4,Kl)).2 i=pcC i:=by
 have t0:Kw (4,Kl) 0=0:=by kernel_rfl
 have t1:Kw (4,Kl) 40=20:=by kernel_rfl
 have t2:Kw (4,Kl) 60=50:=by kernel_rfl
 have t3:Kw (4,Kl) 100=65:=by kernel_rfl
 unfold Ln
 rw[AcK]
 refine⟨rfl,fun i hi=> ?_⟩
 rcases AaV hi with rfl|rfl|rfl
 ·show(⟨⟨0,40⟩,Kw (4,Kl) 40-Kw (4,Kl) 0⟩:Pc)=_
  rw[t0,t1];rfl
 ·show(⟨⟨40,60⟩,Kw (4,Kl) 60-Kw (4,Kl) 40⟩:Pc)=_
  rw[t1,t2];rfl
 show(⟨⟨60,100⟩,Kw (4,Kl) 100-Kw (4,Kl) 60⟩:Pc)=_
 rw[t2,t3];rfl
theorem AcF{p:Mq}(h1:p.1=3)(h2:∀i,i<3->p.2 i=pcC i):E0 Pb (4,Kl) p=(65,0):=by
 have h0:=h2 0 (by decide)
 have h1':=h2 1 (by decide)
 have h2':=h2 2 (by decide)
 have e0:eA Pb p 0=0:=rfl
 have e1:eA Pb p 1=40:=by show(p.2 0).turn.til=40;rw[h0];rfl
 have e2:eA Pb p 2=60:=by show(p.2 1).turn.til=60;rw[h1'];rfl
 have e3:eA Pb p 3=100:=by show(p.2 2).turn.til=100;rw[h2'];rfl
 have hp:GQ Pb (4,Kl) p:=by
  refine⟨by omega,⟨fun j hj=> ?_,?_⟩,fun k hk=> ?_⟩
  ·rw[h1]at hj
   rcases AaV hj with rfl|rfl|rfl
   ·unfold IF pA;rw[h0,e0];exact⟨rfl,by decide,by decide,by decide,by decide⟩
   ·unfold IF pA;rw[h1',e1];exact⟨rfl,by decide,by decide,by decide,by decide⟩
   unfold IF pA;rw[h2',e2];exact⟨rfl,by decide,by decide,by decide,by decide⟩
  ·rw[h1,e3];rfl
  have ef:∀x,LD p x 0=decide ((0:Int)=x)/\LD p x 1=decide ((40:Int)=x)/\LD p x 2=decide ((60:Int)=x):=fun x=>by unfold LD;rw[h0,h1',h2'];exact⟨rfl,rfl,rfl⟩
  have et:∀x,LE p x 0=decide ((40:Int)=x)/\LE p x 1=decide ((60:Int)=x)/\LE p x 2=decide ((100:Int)=x):=fun x=>by unfold LE;rw[h0,h1',h2'];exact⟨rfl,rfl,rfl⟩
  have a0:pA p 0=20:=by unfold pA;rw[h0];rfl
  have a1:pA p 1=30:=by unfold pA;rw[h1'];rfl
  have a2:pA p 2=15:=by unfold pA;rw[h2'];rfl
  unfold Ok
  rw[h1]
  rcases Abu hk with rfl|rfl|rfl|rfl<;>simp[Kl,OU,Mu,ef,et,e0,e1,e2,e3,a0,a1,a2]
 have hs:pre (pA p) p.1=65:=by
  rw[h1];show 0+(p.2 0).baisa+(p.2 1).baisa+(p.2 2).baisa=65;rw[h0,h1',h2'];rfl
 rw[E0,if_pos Zz,Mc,AA hp,if_pos rfl,if_pos rfl,hs]
end Go.Proofs.YtlieoghhkioflaaGreat
