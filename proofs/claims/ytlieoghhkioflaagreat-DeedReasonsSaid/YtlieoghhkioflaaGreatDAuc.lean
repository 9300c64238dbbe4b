/- Auctions, plain: the search and the trial of all sets find the same list. No condition. -/
import Derived.Test.YtlieoghhkioflaaGreatE4
import Derived.Test.YtlieoghhkioflaaGreatDsp
import Derived.Test.YtlieoghhkioflaaGreatLDez
set_option linter.unusedSimpArgs false
set_option linter.unusedVariables false
namespace Go.Proofs.YtlieoghhkioflaaGreat
def Cv:List Nat->List Nat->Bool
 |[],[]=>false
 |[],_::_=>true
 |_::_,[]=>false
 |a::x,b::y=>if a=b then Cv x y else decide (a<b)
theorem MW(x:List Nat):Cv x x=false:=by
 induction x with
 |nil=>rfl
 |cons a x ih=>simp[Cv,ih]
theorem Lb:∀(x y:List Nat),Cv x y=true->Cv y x=false
 |[],[],h=>by simp[Cv]at h
 |[],_::_,_=>rfl
 |_::_,[],h=>by simp[Cv]at h
 |a::x,b::y,h=>by
   by_cases e:a=b
   ·subst e;simp[Cv]at h⊢;exact Lb x y h
   simp[Cv,e]at h
   have e':¬b=a:=fun z=>e z.symm
   simp[Cv,e'];omega
theorem Nb:∀(x y:List Nat),Cv x y=false->Cv y x=false->x=y
 |[],[],_,_=>rfl
 |[],_::_,h,_=>by simp[Cv]at h
 |_::_,[],_,h=>by simp[Cv]at h
 |a::x,b::y,h,g=>by
   by_cases e:a=b
   ·subst e;simp[Cv]at h g;rw[Nb x y h g]
   have e':¬b=a:=fun z=>e z.symm
   simp[Cv,e]at h;simp[Cv,e']at g;omega
theorem Pq:∀(x y z:List Nat),Cv x y=true->Cv y z=true->Cv x z=true
 |[],_,[],h,g=>by
   rename_i y;cases y<;>simp[Cv]at h g
 |[],_,_::_,_,_=>rfl
 |_::_,[],_,h,_=>by simp[Cv]at h
 |_::_,_::_,[],_,g=>by simp[Cv]at g
 |a::x,b::y,c::z,h,g=>by
   by_cases e:a=b
   ·subst e
    by_cases f:a=c
    ·subst f;simp[Cv]at h g⊢;exact Pq x y z h g
    simp[Cv,f]at g⊢;exact g
   simp[Cv,e]at h
   by_cases f:b=c
   ·subst f;simp[Cv,e];exact h
   simp[Cv,f]at g
   have:¬a=c:=by omega
   simp[Cv,this];omega
theorem Nk(l x y:List Nat):Cv (l++x) (l++y)=Cv x y:=by
 induction l with
 |nil=>rfl
 |cons a l ih=>simp[Cv,ih]
theorem T7(l:List Nat)(i:Nat)(e:List Nat):Cv l (l++i::e)=true:=by
 have:=Nk l [] (i::e)
 simpa[Cv]using this
def EM(n:Nat)(ok:List Nat->Nat->Bool):Nat->List Nat->List (List Nat)
 |0,_=>[]
 |k+1,l=>
   (if ok l (n-(k+1))then
    (l++[n-(k+1)])::EM n ok k (l++[n-(k+1)])else[])++EM n ok k l
def Rj(ok:List Nat->Nat->Bool):List Nat->List Nat->Bool
 |_,[]=>true
 |l,i::e=>ok l i&&Rj ok (l++[i]) e
def IB(n:Nat):Nat->List Nat->Bool
 |_,[]=>true
 |a,i::e=>decide (a<=i)&&decide (i<n)&&IB n (i+1) e
theorem Yl(n:Nat):∀(e:List Nat) (a b:Nat),b<=a->IB n a e=true->IB n b e=true
 |[],_,_,_,_=>rfl
 |i::e,a,b,h,g=>by
   simp[IB]at g⊢;exact⟨⟨by omega,g.1.2⟩,g.2⟩
theorem Er(n:Nat)(ok:List Nat->Nat->Bool):∀(k:Nat) (l x:List Nat),k<=n->
  (x∈EM n ok k l↔∃i e,x=l++i::e/\IB n (n-k) (i::e)=true/\Rj ok l (i::e)=true)
 |0,l,x,_=>by
   simp only[EM,List.not_mem_nil,false_iff]
   rintro⟨i,e,_,h,_⟩
   simp[IB]at h;omega
 |k+1,l,x,hk=>by
   have h1:=Er n ok k (l++[n-(k+1)]) x (by omega)
   have h2:=Er n ok k l x (by omega)
   simp only[EM,List.mem_append,h2]
   constructor
   ·rintro(h|⟨i,e,rfl,hr,ho⟩)
    ·by_cases c:ok l (n-(k+1))=true
     ·simp only[c,if_true,List.mem_cons,h1]at h
      rcases h with rfl|⟨i,e,rfl,hr,ho⟩
      ·exact⟨n-(k+1),[],rfl,by simp[IB];omega,by simp[Rj,c]⟩
      refine⟨n-(k+1),i::e,by simp,?_,?_⟩
      ·have q:n-(k+1)+1=n-k:=by omega
       rw[IB];rw[q,hr];simp;omega
      rw[Rj,c,ho];rfl
     simp[c]at h
    exact⟨i,e,rfl,Yl n _ _ _ (by omega) hr,ho⟩
   rintro⟨i,e,rfl,hr,ho⟩
   by_cases c:i=n-(k+1)
   ·left
    subst c
    rw[Rj]at ho;rw[IB]at hr
    have q:n-(k+1)+1=n-k:=by omega
    simp only[Bool.and_eq_true]at ho hr
    simp only[ho.1,if_true,List.mem_cons,h1]
    cases e with
    |nil=>left;rfl
    |cons j e=>right;exact⟨j,e,by simp,by rw[<-q];exact hr.2,ho.2⟩
   right
   refine⟨i,e,rfl,?_,ho⟩
   rw[IB]at hr⊢
   simp at hr⊢
   exact⟨⟨by omega,hr.1.2⟩,hr.2⟩
theorem F0(n:Nat)(ok:List Nat->Nat->Bool):∀(k:Nat) (l:List Nat),k<=n->
  (EM n ok k l).Pairwise (fun x y=>Cv x y=true)
 |0,l,_=>by simp[EM]
 |k+1,l,hk=>by
   rw[EM,List.pairwise_append]
   refine⟨?_,F0 n ok k l (by omega),?_⟩
   ·split
    ·rw[List.pairwise_cons]
     refine⟨?_,F0 n ok k _ (by omega)⟩
     intro y hy
     rw[Er n ok k _ _ (by omega)]at hy
     obtain⟨i,e,rfl,_,_⟩:=hy
     exact T7 _ _ _
    exact List.Pairwise.nil
   intro x hx y hy
   rw[Er n ok k _ _ (by omega)]at hy
   obtain⟨j,f,rfl,hr,_⟩:=hy
   have hj:n-k<=j/\j<n:=by rw[IB]at hr;simp at hr;exact⟨by omega,hr.1.2⟩
   have key:∃e,x=l++(n-(k+1))::e:=by
    split at hx
    ·rcases List.mem_cons.1 hx with rfl|h
     ·exact⟨[],rfl⟩
     rw[Er n ok k _ _ (by omega)]at h
     obtain⟨i,e,rfl,_,_⟩:=h
     exact⟨i::e,by simp⟩
    simp at hx
   obtain⟨e,rfl⟩:=key
   rw[Nk]
   have:¬(n-(k+1)=j):=by omega
   simp[Cv,this];omega
def up(val:List Nat->Int)(st:List Nat×Int)(l:List Nat):List Nat×Int:=
 if val l>st.2 then(l,val l)else st
structure H7(val:List Nat->Int)(S:List Nat->Prop)(st:List Nat×Int):Prop where
 mem:S st.1
 eqv:val st.1=st.2
 top:∀l,S l->val l<=st.2
 fst:∀l,S l->val l=st.2->Cv l st.1=false
theorem H7.uniq{val:List Nat->Int}{S:List Nat->Prop}{a b:List Nat×Int}
  (ha:H7 val S a) (hb:H7 val S b):a=b:=by
 have e2:a.2=b.2:=by
  have h1:=ha.top _ hb.mem
  have h2:=hb.top _ ha.mem
  rw[hb.eqv]at h1;rw[ha.eqv]at h2;omega
 have e1:a.1=b.1:=
  Nb _ _ (hb.fst _ ha.mem (by rw[ha.eqv,e2])) (ha.fst _ hb.mem (by rw[hb.eqv,e2]))
 cases a;cases b;simp_all
theorem KO(val:List Nat->Int):∀(xs:List (List Nat)) (S:List Nat->Prop) (st:List Nat×Int),
  H7 val S st->xs.Pairwise (fun x y=>Cv x y=true)->
  (∀x,x∈xs->∀y,S y->Cv y x=true)->
  H7 val (fun l=>S l\/l∈xs) (xs.foldl (up val) st)
 |[],S,st,hb,_,_=>by
   simpa using hb
 |x::xs,S,st,hb,hp,hs=>by
   rw[List.pairwise_cons]at hp
   have hb':H7 val (fun l=>S l\/l=x) (up val st x):=by
    unfold up
    split
    ·rename_i h
     refine⟨Or.inr rfl,rfl,?_,?_⟩
     ·rintro l (h1|rfl)
      ·have:=hb.top l h1;show val l<=val x;omega
      exact Int.le_refl _
     rintro l (h1|rfl) h2
     ·have:=hb.top l h1;have h2:val l=val x:=h2;omega
     exact MW _
    rename_i h
    refine⟨Or.inl hb.mem,hb.eqv,?_,?_⟩
    ·rintro l (h1|rfl)
     ·exact hb.top l h1
     omega
    rintro l (h1|rfl) h2
    ·exact hb.fst l h1 h2
    exact Lb _ _ (hs l (List.mem_cons_self ..) _ hb.mem)
   have:=KO val xs _ _ hb' hp.2 (by
    intro y hy z hz
    rcases hz with hz|rfl
    ·exact hs y (List.mem_cons_of_mem _ hy) z hz
    exact hp.1 y hy)
   have e:(fun l=>(S l\/l=x)\/l∈xs)=(fun l=>S l\/l∈x::xs):=by
    funext l;simp[or_assoc]
   rw[e]at this
   exact this
def WK(n:Nat)(ok:List Nat->Nat->Bool)(val:List Nat->Int):List Nat×Int:=
 (EM n ok n []).foldl (up val) ([],0)
theorem RD(n:Nat)(ok:List Nat->Nat->Bool)(val:List Nat->Int)(h0:val []=0):
  H7 val (fun l=>IB n 0 l=true/\Rj ok [] l=true) (WK n ok val):=by
 have hb:H7 val (fun l=>l=[]) ([],0):=
  ⟨rfl,h0,by rintro l rfl;simp[h0],by rintro l rfl _;rfl⟩
 have:=KO val (EM n ok n []) _ _ hb (F0 n ok n [] (Nat.le_refl _)) (by
  intro x hx y hy
  rw[Er n ok n _ _ (Nat.le_refl _)]at hx
  obtain⟨i,e,rfl,_⟩:=hx
  subst hy;rfl)
 have e:(fun l=>l=[]\/l∈EM n ok n [])=(fun l=>IB n 0 l=true/\Rj ok [] l=true):=by
  funext l
  rw[Er n ok n _ _ (Nat.le_refl _)]
  apply propext
  constructor
  ·rintro(rfl|⟨i,e,rfl,h1,h2⟩)
   ·exact⟨rfl,rfl⟩
   simp only[Nat.sub_self]at h1;exact⟨h1,h2⟩
  rintro⟨h1,h2⟩
  cases l with
  |nil=>exact Or.inl rfl
  |cons i e=>exact Or.inr ⟨i,e,rfl,by simpa using h1,h2⟩
 rw[e]at this
 exact this
def bl(n s:Nat):List Nat:=(List.range n).filter (fun i=>s.testBit i)
def upE(val:List Nat->Int)(S:List Nat->Bool)(st:List Nat×Int)(l:List Nat):List Nat×Int:=
 if S l&&(decide (val l>st.2)||decide (val l=st.2)&&Cv l st.1)then(l,val l)else st
theorem JS(val:List Nat->Int)(S:List Nat->Bool):∀(xs:List (List Nat)) (T:List Nat->Prop) (st:List Nat×Int),
  H7 val T st->
  H7 val (fun l=>T l\/(l∈xs/\S l=true)) (xs.foldl (upE val S) st)
 |[],T,st,hb=>by simpa using hb
 |x::xs,T,st,hb=>by
   have hb':H7 val (fun l=>T l\/(l=x/\S x=true)) (upE val S st x):=by
    unfold upE
    split
    ·rename_i h
     simp only[Bool.and_eq_true,Bool.or_eq_true,decide_eq_true_eq]at h
     obtain⟨h1,h2⟩:=h
     refine⟨Or.inr ⟨rfl,h1⟩,rfl,?_,?_⟩
     ·rintro l (h3|⟨rfl,_⟩)
      ·have:=hb.top l h3;show val l<=val x;omega
      exact Int.le_refl _
     rintro l (h3|⟨rfl,_⟩) h4
     ·have h4:val l=val x:=h4
      have:=hb.top l h3
      rcases h2 with h2|⟨h2,h5⟩
      ·omega
      have h6:=hb.fst l h3 (by omega)
      cases q:Cv l x with
      |false=>rfl
      |true=>rw[Pq l x st.1 q h5]at h6;exact absurd h6 (by decide)
     exact MW _
    rename_i h
    simp only[Bool.and_eq_true,Bool.or_eq_true,decide_eq_true_eq]at h
    refine⟨Or.inl hb.mem,hb.eqv,?_,?_⟩
    ·rintro l (h3|⟨rfl,h3⟩)
     ·exact hb.top l h3
     apply Int.not_lt.1
     intro q
     exact h ⟨h3,Or.inl q⟩
    rintro l (h3|⟨rfl,h3⟩) h4
    ·exact hb.fst l h3 h4
    cases q:Cv l st.1 with
    |false=>rfl
    |true=>exact absurd ⟨h3,Or.inr ⟨h4,q⟩⟩ h
   have:=JS val S xs _ _ hb'
   have e:(fun l=>(T l\/(l=x/\S x=true))\/(l∈xs/\S l=true))=(fun l=>T l\/(l∈x::xs/\S l=true)):=by
    funext l
    apply propext
    simp only[List.mem_cons]
    constructor
    ·rintro((h|⟨rfl,h⟩)|⟨h,g⟩)
     ·exact Or.inl h
     ·exact Or.inr ⟨Or.inl rfl,h⟩
     exact Or.inr ⟨Or.inr h,g⟩
    rintro(h|⟨rfl|h,g⟩)
    ·exact Or.inl (Or.inl h)
    ·exact Or.inl (Or.inr ⟨rfl,g⟩)
    exact Or.inr ⟨h,g⟩
   rw[e]at this
   exact this
theorem Sq(n s i:Nat):i∈bl n s↔i<n/\s.testBit i=true:=by
 simp[bl]
theorem DL(n:Nat):∀(e:List Nat) (a:Nat),IB n a e=true->
  e.Pairwise (fun x y=>x<y)/\∀x,x∈e->a<=x/\x<n
 |[],_,_=>by simp
 |i::e,a,h=>by
   simp[IB]at h
   obtain⟨h1,h2⟩:=DL n e (i+1) h.2
   refine⟨List.pairwise_cons.2 ⟨fun y hy=>by have:=h2 y hy;omega,h1⟩,?_⟩
   intro x hx
   rcases List.mem_cons.1 hx with rfl|hx
   ·exact h.1
   have:=h2 x hx;omega
theorem GQ(n:Nat):∀(e:List Nat) (a:Nat),e.Pairwise (fun x y=>x<y)->
  (∀x,x∈e->a<=x/\x<n)->IB n a e=true
 |[],_,_,_=>rfl
 |i::e,a,h,g=>by
   rw[List.pairwise_cons]at h
   have g0:=g i (List.mem_cons_self ..)
   have:=GQ n e (i+1) h.2 (fun x hx=>⟨by have:=h.1 x hx;omega,(g x (List.mem_cons_of_mem _ hx)).2⟩)
   simp[IB,this];omega
theorem ZD(n s:Nat):IB n 0 (bl n s)=true:=
 GQ n _ 0 (List.Pairwise.filter _ List.pairwise_lt_range) (fun x hx=>⟨Nat.zero_le _,((Sq n s x).1 hx).1⟩)
theorem GW:∀(x y:List Nat),x.Pairwise (fun a b=>a<b)->y.Pairwise (fun a b=>a<b)->
  (∀i,i∈x↔i∈y)->x=y
 |[],[],_,_,_=>rfl
 |[],b::y,_,_,h=>by have:=(h b).2 (List.mem_cons_self ..);simp at this
 |a::x,[],_,_,h=>by have:=(h a).1 (List.mem_cons_self ..);simp at this
 |a::x,b::y,hx,hy,h=>by
   rw[List.pairwise_cons]at hx hy
   have e:a=b:=by
    rcases List.mem_cons.1 ((h a).1 (List.mem_cons_self ..))with q|q
    ·exact q
    rcases List.mem_cons.1 ((h b).2 (List.mem_cons_self ..))with p|p
    ·exact p.symm
    have:=hy.1 a q;have:=hx.1 b p;omega
   subst e
   rw[GW x y hx.2 hy.2]
   intro i
   constructor
   ·intro q
    rcases List.mem_cons.1 ((h i).1 (List.mem_cons_of_mem _ q))with p|p
    ·subst p;exact absurd (hx.1 _ q) (Nat.lt_irrefl _)
    exact p
   intro q
   rcases List.mem_cons.1 ((h i).2 (List.mem_cons_of_mem _ q))with p|p
   ·subst p;exact absurd (hy.1 _ q) (Nat.lt_irrefl _)
   exact p
def mk(e:List Nat):Nat:=e.foldr (fun i s=>2^i|||s) 0
theorem I6(i:Nat):∀e:List Nat,(mk e).testBit i=true↔i∈e
 |[]=>by simp[mk]
 |a::e=>by
   have:=I6 i e
   simp only[mk,List.foldr_cons,Nat.testBit_or,Bool.or_eq_true]at this⊢
   rw[this,List.mem_cons,Nat.testBit_two_pow]
   constructor
   ·rintro(h|h)
    ·left;simp at h;exact h.symm
    exact Or.inr h
   rintro(rfl|h)
   ·left;simp
   exact Or.inr h
theorem Aa3(n:Nat)(e:List Nat)(h:IB n 0 e=true):bl n (mk e)=e:=by
 obtain⟨h1,h2⟩:=DL n e 0 h
 refine GW _ _ (List.Pairwise.filter _ List.pairwise_lt_range) h1 ?_
 intro i
 rw[Sq,I6]
 exact⟨fun q=>q.2,fun q=>⟨(h2 i q).2,q⟩⟩
theorem AaR(n:Nat)(e:List Nat)(h:IB n 0 e=true):mk e<2^n:=by
 apply Nat.lt_pow_two_of_testBit
 intro i hi
 cases q:(mk e).testBit i with
 |false=>rfl
 |true=>
   rw[I6]at q
   have:=((DL n e 0 h).2 i q).2
   omega
theorem YG(i:Nat)(e:List Nat):0<mk (i::e):=by
 apply Nat.pos_of_ne_zero
 intro h
 have:=(I6 i (i::e)).2 (List.mem_cons_self ..)
 rw[h]at this;simp at this
def Nf(n:Nat)(val:List Nat->Int)(S:List Nat->Bool):List Nat×Int:=
 ((List.range' 1 (2^n-1)).map (bl n)).foldl (upE val S) ([],0)
theorem KU(n:Nat)(val:List Nat->Int)(S:List Nat->Bool)(h0:val []=0)(hS:S []=true):
  H7 val (fun l=>IB n 0 l=true/\S l=true) (Nf n val S):=by
 have hb:H7 val (fun l=>l=[]) ([],0):=
  ⟨rfl,h0,by rintro l rfl;simp[h0],by rintro l rfl _;rfl⟩
 have:=JS val S ((List.range' 1 (2^n-1)).map (bl n)) _ _ hb
 have e:(fun l=>l=[]\/(l∈(List.range' 1 (2^n-1)).map (bl n)/\S l=true))=(fun l=>IB n 0 l=true/\S l=true):=by
  funext l
  apply propext
  constructor
  ·rintro(rfl|⟨h1,h2⟩)
   ·exact⟨rfl,hS⟩
   obtain⟨s,_,rfl⟩:=List.mem_map.1 h1
   exact⟨ZD n s,h2⟩
  rintro⟨h1,h2⟩
  cases l with
  |nil=>exact Or.inl rfl
  |cons i e=>
    refine Or.inr ⟨List.mem_map.2 ⟨mk (i::e),?_,Aa3 n _ h1⟩,h2⟩
    have:=AaR n _ h1
    have:=YG i e
    rw[List.mem_range'_1];omega
 rw[e]at this
 exact this
theorem Tj(n:Nat)(ok:List Nat->Nat->Bool)(val:List Nat->Int)(S:List Nat->Bool)(h0:val []=0)
  (hS:∀l,IB n 0 l=true->S l=Rj ok [] l):WK n ok val=Nf n val S:=by
 have a:=RD n ok val h0
 have b:=KU n val S h0 (by rw[hS [] rfl];rfl)
 have e:(fun l=>IB n 0 l=true/\S l=true)=(fun l=>IB n 0 l=true/\Rj ok [] l=true):=by
  funext l
  apply propext
  constructor<;>rintro⟨h1,h2⟩
  ·exact⟨h1,by rw[<-hS l h1];exact h2⟩
  exact⟨h1,by rw[hS l h1];exact h2⟩
 rw[e]at b
 exact a.uniq b
end Go.Proofs.YtlieoghhkioflaaGreat
namespace Go.Proofs.YtlieoghhkioflaaGreat
def vS(V:Nat->Int)(c:Nat->Bool):Nat->Int
 |0=>0
 |n+1=>vS V c n+if c n then V n else 0
theorem Nq(V:Nat->Int)(c d:Nat->Bool):∀n,(∀i,i<n->c i=d i)->vS V c n=vS V d n
 |0,_=>rfl
 |n+1,h=>by rw[vS,vS,Nq V c d n (fun i hi=>h i (by omega)),h n (by omega)]
theorem Lx(V:Nat->Int)(c:Nat->Bool):∀n,(∀i,i<n->c i=false)->vS V c n=0
 |0,_=>rfl
 |n+1,h=>by rw[vS,Lx V c n (fun i hi=>h i (by omega)),h n (by omega)];rfl
theorem Ol(V:Nat->Int)(c d:Nat->Bool)(b:Nat)(hb:c b=false)(hd:d b=true)
  (h:∀i,i≠b->d i=c i):∀n,b<n->vS V d n=vS V c n+V b
 |0,q=>by omega
 |n+1,q=>by
   by_cases e:b=n
   ·subst e
    rw[vS,vS,Nq V d c b (fun i hi=>h i (by omega)),hb,hd];simp
   rw[vS,vS,Ol V c d b hb hd h n (by omega),h n (fun z=>e z.symm)];omega
theorem LS(V:Nat->Int)(c:Nat->Bool):∀n,(((List.range n).filter c).map V).sum=vS V c n
 |0=>rfl
 |n+1=>by
   rw[List.range_succ,List.filter_append,List.map_append,List.sum_append,LS V c n,vS]
   by_cases h:c n=true<;>simp[h]
variable(F T V:Nat->Int)(n:Nat)
structure NI(x:Int)(c:Nat->Bool):Prop where
 end_:∀i,i<n->c i=true->T i<=x
 apart:∀i k,i<n->k<n->c i=true->c k=true->i≠k->T i<=F k\/T k<=F i
structure Hi(x m:Int):Prop where
 ex:∃c,NI F T n x c/\vS V c n=m
 le:∀c,NI F T n x c->vS V c n<=m
theorem Hi.uniq{x m k:Int}(h:Hi F T V n x m)(g:Hi F T V n x k):m=k:=by
 obtain⟨c,hc,rfl⟩:=h.ex
 obtain⟨d,hd,rfl⟩:=g.ex
 have:=h.le d hd;have:=g.le c hc;omega
theorem TP(x:Int)(h:∀i,i<n->x<T i):Hi F T V n x 0:=by
 have key:∀c,NI F T n x c->vS V c n=0:=by
  intro c hc
  refine Lx V c n fun i hi=> ?_
  cases q:c i with
  |false=>rfl
  |true=>have:=hc.end_ i hi q;have:=h i hi;omega
 refine⟨⟨fun _=>false,⟨by simp,by simp⟩,Lx V _ n (by simp)⟩,fun c hc=> ?_⟩
 rw[key c hc];exact Int.le_refl _
def tp(x:Int)(g:Nat->Int)(m0:Int):Nat->Int
 |0=>m0
 |k+1=>if T k=x then max (tp x g m0 k) (g k+V k)else tp x g m0 k
theorem Tv(x:Int)(g:Nat->Int)(m0:Int):∀k,m0<=tp T V x g m0 k
 |0=>Int.le_refl _
 |k+1=>by
   have:=Tv x g m0 k
   rw[tp];split<;>omega
theorem UC(x:Int)(g:Nat->Int)(m0:Int):∀k b,b<k->T b=x->g b+V b<=tp T V x g m0 k
 |0,b,h,_=>by omega
 |k+1,b,h,e=>by
   by_cases q:b=k
   ·subst q;rw[tp,if_pos e];omega
   have:=UC x g m0 k b (by omega) e
   rw[tp];split<;>omega
theorem P8(x:Int)(g:Nat->Int)(m0:Int):∀k,tp T V x g m0 k=m0\/∃b,b<k/\T b=x/\tp T V x g m0 k=g b+V b
 |0=>Or.inl rfl
 |k+1=>by
   rw[tp]
   split
   ·rename_i e
    by_cases q:tp T V x g m0 k<=g k+V k
    ·exact Or.inr ⟨k,by omega,e,by omega⟩
    rcases P8 x g m0 k with h|⟨b,h1,h2,h3⟩
    ·left;omega
    exact Or.inr ⟨b,by omega,h2,by omega⟩
   rcases P8 x g m0 k with h|⟨b,h1,h2,h3⟩
   ·exact Or.inl h
   exact Or.inr ⟨b,by omega,h2,h3⟩
theorem Ud(e x:Int)(g:Nat->Int)(m0:Int)(hex:e<=x)
  (hF:∀i,i<n->F i<T i)
  (he:Hi F T V n e m0)
  (hb:∀b,b<n->T b=x->Hi F T V n (F b) (g b))
  (hn:∀b,b<n->T b<=x->T b<=e\/T b=x):
  Hi F T V n x (tp T V x g m0 n):=by
 constructor
 ·rcases P8 T V x g m0 n with h|⟨b,h1,h2,h3⟩
  ·obtain⟨c,hc,hv⟩:=he.ex
   exact⟨c,⟨fun i hi q=>by have:=hc.end_ i hi q;omega,hc.apart⟩,by rw[h];exact hv⟩
  obtain⟨c,hc,hv⟩:=(hb b h1 h2).ex
  have hF':=hF b h1
  have hcb:c b=false:=by
   cases q:c b with
   |false=>rfl
   |true=>have:=hc.end_ b h1 q;omega
  refine⟨fun i=>c i||decide (i=b),⟨?_,?_⟩,?_⟩
  ·intro i hi q
   simp only[Bool.or_eq_true,decide_eq_true_eq]at q
   rcases q with q|rfl
   ·have:=hc.end_ i hi q;omega
   omega
  ·intro i k hi hk q r hik
   simp only[Bool.or_eq_true,decide_eq_true_eq]at q r
   rcases q with q|rfl
   ·rcases r with r|rfl
    ·exact hc.apart i k hi hk q r hik
    exact Or.inl (hc.end_ i hi q)
   rcases r with r|rfl
   ·exact Or.inr (hc.end_ k hk r)
   exact absurd rfl hik
  rw[Ol V c _ b hcb (by simp) (fun i hi=>by simp[hi]) n h1,hv,h3]
 intro c hc
 by_cases h:∃b,b<n/\c b=true/\T b=x
 ·obtain⟨b,h1,h2,h3⟩:=h
  have hd:NI F T n (F b) (fun i=>c i&& !decide (i=b)):=by
   constructor
   ·intro i hi q
    simp only[Bool.and_eq_true,Bool.not_eq_true',decide_eq_false_iff_not]at q
    have:=hF i hi
    have:=hc.end_ i hi q.1
    rcases hc.apart i b hi h1 q.1 h2 q.2 with z|z<;>omega
   intro i k hi hk q r hik
   simp only[Bool.and_eq_true]at q r
   exact hc.apart i k hi hk q.1 r.1 hik
  have:=(hb b h1 h3).le _ hd
  have:=UC T V x g m0 n b h1 h3
  have:=Ol V (fun i=>c i&& !decide (i=b)) c b (by simp) h2 (fun i hi=>by simp[hi]) n h1
  omega
 have hd:NI F T n e c:=by
  refine⟨fun i hi q=> ?_,hc.apart⟩
  rcases hn i hi (hc.end_ i hi q)with z|z
  ·exact z
  exact absurd ⟨i,hi,q,z⟩ h
 have:=he.le c hd
 have:=Tv T V x g m0 n
 omega
end Go.Proofs.YtlieoghhkioflaaGreat
namespace Go.Proofs.YtlieoghhkioflaaGreat
def L1(F T:Nat->Int)(i k:Nat):Bool:=decide (T i<=F k)||decide (T k<=F i)
def Uc(F T:Nat->Int)(l:List Nat)(i:Nat):Bool:=l.all fun k=>L1 F T k i
def pw(F T:Nat->Int):List Nat->Bool
 |[]=>true
 |i::e=>(e.all fun k=>L1 F T i k)&&pw F T e
theorem Ss(F T:Nat->Int):∀(e l:List Nat),Rj (Uc F T) l e=(pw F T e&&l.all fun k=>e.all fun i=>L1 F T k i)
 |[],l=>by simp[Rj,pw]
 |i::e,l=>by
   rw[Rj,Ss F T e (l++[i]),pw,Uc,List.all_append]
   simp only[List.all_cons,List.all_nil,Bool.and_true]
   have:(l.all fun k=>L1 F T k i&&e.all fun j=>L1 F T k j)=((l.all fun k=>L1 F T k i)&&l.all fun k=>e.all fun j=>L1 F T k j):=by
    induction l with
    |nil=>rfl
    |cons a l ih=>simp only[List.all_cons,ih];cases L1 F T a i<;>cases(e.all fun j=>L1 F T a j)<;>cases(l.all fun k=>L1 F T k i)<;>simp
   rw[this]
   cases(l.all fun k=>L1 F T k i)<;>cases pw F T e<;>cases(l.all fun k=>e.all fun j=>L1 F T k j)<;>simp
theorem U2(F T:Nat->Int)(e:List Nat):Rj (Uc F T) [] e=pw F T e:=by
 rw[Ss];simp
theorem Wv(F T:Nat->Int)(i k:Nat):L1 F T i k=L1 F T k i:=by
 simp only[L1,Bool.or_comm]
theorem OQ(F T:Nat->Int):∀e:List Nat,e.Pairwise (fun x y=>x<y)->
  (pw F T e=true↔∀i k,i∈e->k∈e->i≠k->L1 F T i k=true)
 |[],_=>by simp[pw]
 |a::e,h=>by
   rw[List.pairwise_cons]at h
   rw[pw,Bool.and_eq_true,OQ F T e h.2,List.all_eq_true]
   constructor
   ·rintro⟨h1,h2⟩ i k hi hk hik
    rcases List.mem_cons.1 hi with rfl|hi'
    ·rcases List.mem_cons.1 hk with rfl|hk'
     ·exact absurd rfl hik
     exact h1 k hk'
    rcases List.mem_cons.1 hk with rfl|hk'
    ·rw[Wv];exact h1 i hi'
    exact h2 i k hi' hk' hik
   intro g
   refine⟨fun k hk=>g a k (List.mem_cons_self ..) (List.mem_cons_of_mem _ hk) ?_,fun i k hi hk hik=>g i k (List.mem_cons_of_mem _ hi) (List.mem_cons_of_mem _ hk) hik⟩
   have:=h.1 k hk;omega
def FQ(V:Nat->Int)(l:List Nat):Int:=(l.map V).sum
def US(F T:Nat->Int)(x:Int)(l:List Nat):Bool:=(l.all fun i=>decide (T i<=x))&&pw F T l
theorem Mz(n:Nat)(l:List Nat)(h:IB n 0 l=true):(List.range n).filter (fun i=>decide (i∈l))=l:=by
 obtain⟨h1,h2⟩:=DL n l 0 h
 refine GW _ _ (List.Pairwise.filter _ List.pairwise_lt_range) h1 ?_
 intro i
 simp only[List.mem_filter,List.mem_range,decide_eq_true_eq]
 exact⟨fun q=>q.2,fun q=>⟨(h2 i q).2,q⟩⟩
theorem Mt(F T V:Nat->Int)(n:Nat)(x:Int):Hi F T V n x (Nf n (FQ V) (US F T x)).2:=by
 have hb:=KU n (FQ V) (US F T x) rfl rfl
 constructor
 ·obtain⟨h1,h2⟩:=hb.mem
  have hs:=(DL n _ 0 h1).1
  rw[US,Bool.and_eq_true,OQ F T _ hs,List.all_eq_true]at h2
  refine⟨fun i=>decide (i∈(Nf n (FQ V) (US F T x)).1),⟨?_,?_⟩,?_⟩
  ·intro i _ q
   have:=h2.1 i (by simpa using q)
   simpa using this
  ·intro i k _ _ q r hik
   have:=h2.2 i k (by simpa using q) (by simpa using r) hik
   simpa[L1]using this
  rw[<-LS,Mz n _ h1];exact hb.eqv
 intro c hc
 have hm:∀i,i∈(List.range n).filter c->i<n/\c i=true:=fun i hi=>by
  simpa[List.mem_filter]using hi
 have hs:((List.range n).filter c).Pairwise (fun x y=>x<y):=List.Pairwise.filter _ List.pairwise_lt_range
 rw[<-LS]
 refine hb.top _ ⟨GQ n _ 0 hs (fun i hi=>⟨Nat.zero_le _,(hm i hi).1⟩),?_⟩
 rw[US,Bool.and_eq_true,OQ F T _ hs,List.all_eq_true]
 refine⟨fun i hi=> ?_,fun i k hi hk hik=> ?_⟩
 ·simpa using hc.end_ i (hm i hi).1 (hm i hi).2
 have:=hc.apart i k (hm i hi).1 (hm k hk).1 (hm i hi).2 (hm k hk).2 hik
 simpa[L1]using this
theorem LY(F T V:Nat->Int)(n:Nat)(x:Int)(h:∀i,i<n->T i<=x):
  WK n (Uc F T) (FQ V)=Nf n (FQ V) (US F T x):=by
 refine Tj n _ _ _ rfl fun l hl=> ?_
 rw[U2,US]
 have:(l.all fun i=>decide (T i<=x))=true:=by
  rw[List.all_eq_true]
  intro i hi
  simpa using h i ((DL n l 0 hl).2 i hi).2
 rw[this,Bool.true_and]
end Go.Proofs.YtlieoghhkioflaaGreat
namespace Go.Proofs.YtlieoghhkioflaaGreat
open Go Go.RowKit
variable{G:Nat->Option (Nat×(Nat->Ae))}
def RQ(l:List Nat)(i:Nat):Int:=((l.getD i 0:Nat):Int)
abbrev lV(l:List Nat):Ae:= .view 1 l.length fun i _=> .int .i64 (RQ l i)
abbrev bF(b:UR)(i:Nat):Int:=(b.2 i).turn.fro
abbrev bT(b:UR)(i:Nat):Int:=(b.2 i).turn.til
abbrev bV(b:UR)(i:Nat):Int:=(b.2 i).baisa
theorem Vl(l:List Nat)(j i:Nat):RQ (l++[j]) i=if i<l.length then RQ l i else if i=l.length then(j:Int)else 0:=by
 unfold RQ
 rcases Nat.lt_trichotomy i l.length with h|h|h
 ·rw[if_pos h];simp[List.getElem?_append_left h]
 ·subst h;simp
 rw[if_neg (by omega),if_neg (by omega)]
 rw[List.getD_eq_getElem?_getD,List.getElem?_eq_none (by simp;omega)];rfl
noncomputable def IE(b:UR)(x:Int):List Nat×Int:=Nf b.1 (FQ (bV b)) (US (bF b) (bT b) x)
end Go.Proofs.YtlieoghhkioflaaGreat
namespace Go.Proofs.YtlieoghhkioflaaGreat
theorem Nl:∀(x y:List Int),x.Pairwise (fun a b=>a<b)->y.Pairwise (fun a b=>a<b)->
  (∀i,i∈x↔i∈y)->x=y
 |[],[],_,_,_=>rfl
 |[],b::y,_,_,h=>by have:=(h b).2 (List.mem_cons_self ..);simp at this
 |a::x,[],_,_,h=>by have:=(h a).1 (List.mem_cons_self ..);simp at this
 |a::x,b::y,hx,hy,h=>by
   rw[List.pairwise_cons]at hx hy
   have e:a=b:=by
    rcases List.mem_cons.1 ((h a).1 (List.mem_cons_self ..))with q|q
    ·exact q
    rcases List.mem_cons.1 ((h b).2 (List.mem_cons_self ..))with p|p
    ·exact p.symm
    have:=hy.1 a q;have:=hx.1 b p;omega
   subst e
   rw[Nl x y hx.2 hy.2]
   intro i
   constructor
   ·intro q
    rcases List.mem_cons.1 ((h i).1 (List.mem_cons_of_mem _ q))with p|p
    ·subst p;exact absurd (hx.1 _ q) (Int.lt_irrefl _)
    exact p
   intro q
   rcases List.mem_cons.1 ((h i).2 (List.mem_cons_of_mem _ q))with p|p
   ·subst p;exact absurd (hy.1 _ q) (Int.lt_irrefl _)
   exact p
def nxt(last:Int):List Int->Int->Int
 |[],nx=>nx
 |a::l,nx=>nxt last l (if a>last/\a<nx then a else nx)
theorem Jq(last:Int):∀(l:List Int) (nx:Int),last<nx->
  last<nxt last l nx/\nxt last l nx<=nx/\(nxt last l nx=nx\/nxt last l nx∈l)/\
  ∀a,a∈l->last<a->nxt last l nx<=a
 |[],nx,h=>by simp[nxt,h]
 |a::l,nx,h=>by
   rw[nxt]
   by_cases c:a>last/\a<nx
   ·rw[if_pos c]
    obtain⟨h1,h2,h3,h4⟩:=Jq last l a c.1
    refine⟨h1,by omega,?_,?_⟩
    ·right
     rcases h3 with h3|h3
     ·rw[h3];exact List.mem_cons_self ..
     exact List.mem_cons_of_mem _ h3
    intro x hx hl
    rcases List.mem_cons.1 hx with rfl|hx
    ·exact h2
    exact h4 x hx hl
   rw[if_neg c]
   obtain⟨h1,h2,h3,h4⟩:=Jq last l nx h
   refine⟨h1,h2,?_,?_⟩
   ·rcases h3 with h3|h3
    ·exact Or.inl h3
    exact Or.inr (List.mem_cons_of_mem _ h3)
   intro x hx hl
   rcases List.mem_cons.1 hx with rfl|hx
   ·omega
   exact h4 x hx hl
def KI(all:List Int)(hi:Int):Nat->Int->List Int->List Int
 |0,_,out=>out
 |f+1,last,out=>if last<hi then KI all hi f (nxt last all hi) (out++[nxt last all hi])else out
theorem La(all:List Int)(hi:Int)(hh:hi∈all)(hin:∀a,a∈all->a<=hi):
  ∀(f:Nat) (last:Int) (out:List Int),(hi-last).toNat<=f->last<=hi->
  out.Pairwise (fun a b=>a<b)->(∀x,x∈out↔x∈all/\x<=last)->
  (KI all hi f last out).Pairwise (fun a b=>a<b)/\∀x,x∈KI all hi f last out↔x∈all
 |0,last,out,hf,hl,hp,hm=>by
   have:last=hi:=by omega
   subst this
   refine⟨hp,fun x=> ?_⟩
   rw[KI,hm]
   exact⟨fun q=>q.1,fun q=>⟨q,hin x q⟩⟩
 |f+1,last,out,hf,hl,hp,hm=>by
   rw[KI]
   by_cases c:last<hi
   ·rw[if_pos c]
    obtain⟨h1,h2,h3,h4⟩:=Jq last all hi c
    have hmem:nxt last all hi∈all:=by
     rcases h3 with h3|h3
     ·rw[h3];exact hh
     exact h3
    refine La all hi hh hin f _ _ (by omega) h2 ?_ ?_
    ·rw[List.pairwise_append]
     refine⟨hp,List.pairwise_singleton _ _,?_⟩
     intro a ha b hb
     have hb:=List.mem_singleton.1 hb
     have:=((hm a).1 ha).2
     subst hb;omega
    intro x
    rw[List.mem_append,hm,List.mem_singleton]
    constructor
    ·rintro(⟨q,r⟩|rfl)
     ·exact⟨q,by omega⟩
     exact⟨hmem,Int.le_refl _⟩
    rintro⟨q,r⟩
    by_cases z:x<=last
    ·exact Or.inl ⟨q,z⟩
    have:=h4 x q (by omega)
    exact Or.inr (by omega)
   rw[if_neg c]
   have:last=hi:=by omega
   subst this
   refine⟨hp,fun x=> ?_⟩
   rw[hm]
   exact⟨fun q=>q.1,fun q=>⟨q,hin x q⟩⟩
end Go.Proofs.YtlieoghhkioflaaGreat
namespace Go.Proofs.YtlieoghhkioflaaGreat
open Go Go.RowKit
variable{G:Nat->Option (Nat×(Nat->Ae))}
def aF(t:Tu)(b:Nat×(Nat->Bd))(a:Nat):Int:=if a=0 then t.fro else if a=1 then t.til else if a%2=0 then(b.2 (a/2-1)).turn.fro else(b.2 (a/2-1)).turn.til
def Oo(t:Tu)(b:Nat×(Nat->Bd)):List Int:=(List.range (2*b.1+2)).map (aF t b)
theorem Abb(t:Tu)(b:Nat×(Nat->Bd))(j:Nat):aF t b (2*j+2)=(b.2 j).turn.fro:=by
 unfold aF
 rw[if_neg (by omega),if_neg (by omega),if_pos (by omega),show(2*j+2)/2-1=j by omega]
theorem Abh(t:Tu)(b:Nat×(Nat->Bd))(j:Nat):aF t b (2*j+3)=(b.2 j).turn.til:=by
 unfold aF
 rw[if_neg (by omega),if_neg (by omega),if_neg (by omega),show(2*j+3)/2-1=j by omega]
theorem AbU(t:Tu)(b:Nat×(Nat->Bd))(ht:O1 t)(hb:∀i,i<b.1->LJ t (b.2 i))(a:Nat)(ha:a<2*b.1+2):t.fro<=aF t b a/\aF t b a<=t.til:=by
 obtain⟨h1,h2,h3⟩:=ht
 unfold aF
 split
 ·omega
 split
 ·omega
 obtain⟨_,⟨_,_,_⟩,_⟩:=hb (a/2-1) (by omega)
 split<;>omega
theorem LM(t:Tu)(b:Nat×(Nat->Bd))(ht:O1 t)(hb:∀i,i<b.1->LJ t (b.2 i)):∀a,a∈Oo t b->t.fro<=a/\a<=t.til:=by
 intro a ha
 obtain⟨i,hi,rfl⟩:=List.mem_map.1 ha
 exact AbU t b ht hb i (List.mem_range.1 hi)
theorem PK(t:Tu)(b:Nat×(Nat->Bd)):t.til∈Oo t b:=List.mem_map.2 ⟨1,List.mem_range.2 (by omega),by simp[aF]⟩
def ln(l:List Int)(i:Nat):Int:=l.getD i 0
abbrev lW(l:List Int):Ae:= .view 1 l.length fun i _=> .int .i64 (ln l i)
theorem XF(l:List Int)(j:Int)(i:Nat):ln (l++[j]) i=if i<l.length then ln l i else if i=l.length then j else 0:=by
 unfold ln
 rcases Nat.lt_trichotomy i l.length with h|h|h
 ·rw[if_pos h];simp[List.getElem?_append_left h]
 ·subst h;simp
 rw[if_neg (by omega),if_neg (by omega)]
 rw[List.getD_eq_getElem?_getD,List.getElem?_eq_none (by simp;omega)];rfl
def Cc(t:Tu)(b:Nat×(Nat->Bd)):List Int:=KI (Oo t b) t.til ((t.til-t.fro).toNat+1) (t.fro-1) []
end Go.Proofs.YtlieoghhkioflaaGreat
