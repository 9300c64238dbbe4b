/- Auctions, plain: the search and the trial of all sets find the same list. No condition. -/
import Derived.Test.YtlieoghhkioflaaGreatE4
import Derived.Test.YtlieoghhkioflaaGreatDsp
import Derived.Test.YtlieoghhkioflaaGreatLDez
set_option linter.unusedSimpArgs false
set_option linter.unusedVariables false
namespace Go.Proofs.YtlieoghhkioflaaGreat
def Cx:List Nat->List Nat->Bool
 |[],[]=>false
 |[],_::_=>true
 |_::_,[]=>false
 |a::x,b::y=>if a=b then Cx x y else decide (a<b)
theorem M7(x:List Nat):Cx x x=false:=by
 induction x with
 |nil=>rfl
 |cons a x ih=>simp[Cx,ih]
theorem KQ:∀(x y:List Nat),Cx x y=true->Cx y x=false
 |[],[],h=>by simp[Cx]at h
 |[],_::_,_=>rfl
 |_::_,[],h=>by simp[Cx]at h
 |a::x,b::y,h=>by
   by_cases e:a=b
   ·subst e;simp[Cx]at h⊢;exact KQ x y h
   simp[Cx,e]at h
   have e':¬b=a:=fun z=>e z.symm
   simp[Cx,e'];omega
theorem NH:∀(x y:List Nat),Cx x y=false->Cx y x=false->x=y
 |[],[],_,_=>rfl
 |[],_::_,h,_=>by simp[Cx]at h
 |_::_,[],_,h=>by simp[Cx]at h
 |a::x,b::y,h,g=>by
   by_cases e:a=b
   ·subst e;simp[Cx]at h g;rw[NH x y h g]
   have e':¬b=a:=fun z=>e z.symm
   simp[Cx,e]at h;simp[Cx,e']at g;omega
theorem Ql:∀(x y z:List Nat),Cx x y=true->Cx y z=true->Cx x z=true
 |[],_,[],h,g=>by
   rename_i y;cases y<;>simp[Cx]at h g
 |[],_,_::_,_,_=>rfl
 |_::_,[],_,h,_=>by simp[Cx]at h
 |_::_,_::_,[],_,g=>by simp[Cx]at g
 |a::x,b::y,c::z,h,g=>by
   by_cases e:a=b
   ·subst e
    by_cases f:a=c
    ·subst f;simp[Cx]at h g⊢;exact Ql x y z h g
    simp[Cx,f]at g⊢;exact g
   simp[Cx,e]at h
   by_cases f:b=c
   ·subst f;simp[Cx,e];exact h
   simp[Cx,f]at g
   have:¬a=c:=by omega
   simp[Cx,this];omega
theorem My(l x y:List Nat):Cx (l++x) (l++y)=Cx x y:=by
 induction l with
 |nil=>rfl
 |cons a l ih=>simp[Cx,ih]
theorem Ut(l:List Nat)(i:Nat)(e:List Nat):Cx l (l++i::e)=true:=by
 have:=My l [] (i::e)
 simpa[Cx]using this
def EK(n:Nat)(ok:List Nat->Nat->Bool):Nat->List Nat->List (List Nat)
 |0,_=>[]
 |k+1,l=>
   (if ok l (n-(k+1))then
    (l++[n-(k+1)])::EK n ok k (l++[n-(k+1)])else[])++EK n ok k l
def Rq(ok:List Nat->Nat->Bool):List Nat->List Nat->Bool
 |_,[]=>true
 |l,i::e=>ok l i&&Rq ok (l++[i]) e
def IE(n:Nat):Nat->List Nat->Bool
 |_,[]=>true
 |a,i::e=>decide (a<=i)&&decide (i<n)&&IE n (i+1) e
theorem Zz(n:Nat):∀(e:List Nat) (a b:Nat),b<=a->IE n a e=true->IE n b e=true
 |[],_,_,_,_=>rfl
 |i::e,a,b,h,g=>by
   simp[IE]at g⊢;exact⟨⟨by omega,g.1.2⟩,g.2⟩
theorem Ej(n:Nat)(ok:List Nat->Nat->Bool):∀(k:Nat) (l x:List Nat),k<=n->
  (x∈EK n ok k l↔∃i e,x=l++i::e/\IE n (n-k) (i::e)=true/\Rq ok l (i::e)=true)
 |0,l,x,_=>by
   simp only[EK,List.not_mem_nil,false_iff]
   rintro⟨i,e,_,h,_⟩
   simp[IE]at h;omega
 |k+1,l,x,hk=>by
   have h1:=Ej n ok k (l++[n-(k+1)]) x (by omega)
   have h2:=Ej n ok k l x (by omega)
   simp only[EK,List.mem_append,h2]
   constructor
   ·rintro(h|⟨i,e,rfl,hr,ho⟩)
    ·by_cases c:ok l (n-(k+1))=true
     ·simp only[c,if_true,List.mem_cons,h1]at h
      rcases h with rfl|⟨i,e,rfl,hr,ho⟩
      ·exact⟨n-(k+1),[],rfl,by simp[IE];omega,by simp[Rq,c]⟩
      refine⟨n-(k+1),i::e,by simp,?_,?_⟩
      ·have q:n-(k+1)+1=n-k:=by omega
       rw[IE];rw[q,hr];simp;omega
      rw[Rq,c,ho];rfl
     simp[c]at h
    exact⟨i,e,rfl,Zz n _ _ _ (by omega) hr,ho⟩
   rintro⟨i,e,rfl,hr,ho⟩
   by_cases c:i=n-(k+1)
   ·left
    subst c
    rw[Rq]at ho;rw[IE]at hr
    have q:n-(k+1)+1=n-k:=by omega
    simp only[Bool.and_eq_true]at ho hr
    simp only[ho.1,if_true,List.mem_cons,h1]
    cases e with
    |nil=>left;rfl
    |cons j e=>right;exact⟨j,e,by simp,by rw[<-q];exact hr.2,ho.2⟩
   right
   refine⟨i,e,rfl,?_,ho⟩
   rw[IE]at hr⊢
   simp at hr⊢
   exact⟨⟨by omega,hr.1.2⟩,hr.2⟩
theorem F7(n:Nat)(ok:List Nat->Nat->Bool):∀(k:Nat) (l:List Nat),k<=n->
  (EK n ok k l).Pairwise (fun x y=>Cx x y=true)
 |0,l,_=>by simp[EK]
 |k+1,l,hk=>by
   rw[EK,List.pairwise_append]
   refine⟨?_,F7 n ok k l (by omega),?_⟩
   ·split
    ·rw[List.pairwise_cons]
     refine⟨?_,F7 n ok k _ (by omega)⟩
     intro y hy
     rw[Ej n ok k _ _ (by omega)]at hy
     obtain⟨i,e,rfl,_,_⟩:=hy
     exact Ut _ _ _
    exact List.Pairwise.nil
   intro x hx y hy
   rw[Ej n ok k _ _ (by omega)]at hy
   obtain⟨j,f,rfl,hr,_⟩:=hy
   have hj:n-k<=j/\j<n:=by rw[IE]at hr;simp at hr;exact⟨by omega,hr.1.2⟩
   have key:∃e,x=l++(n-(k+1))::e:=by
    split at hx
    ·rcases List.mem_cons.1 hx with rfl|h
     ·exact⟨[],rfl⟩
     rw[Ej n ok k _ _ (by omega)]at h
     obtain⟨i,e,rfl,_,_⟩:=h
     exact⟨i::e,by simp⟩
    simp at hx
   obtain⟨e,rfl⟩:=key
   rw[My]
   have:¬(n-(k+1)=j):=by omega
   simp[Cx,this];omega
def up(val:List Nat->Int)(st:List Nat×Int)(l:List Nat):List Nat×Int:=
 if val l>st.2 then(l,val l)else st
structure H9(val:List Nat->Int)(S:List Nat->Prop)(st:List Nat×Int):Prop where
 mem:S st.1
 eqv:val st.1=st.2
 top:∀l,S l->val l<=st.2
 fst:∀l,S l->val l=st.2->Cx l st.1=false
theorem H9.uniq{val:List Nat->Int}{S:List Nat->Prop}{a b:List Nat×Int}
  (ha:H9 val S a) (hb:H9 val S b):a=b:=by
 have e2:a.2=b.2:=by
  have h1:=ha.top _ hb.mem
  have h2:=hb.top _ ha.mem
  rw[hb.eqv]at h1;rw[ha.eqv]at h2;omega
 have e1:a.1=b.1:=
  NH _ _ (hb.fst _ ha.mem (by rw[ha.eqv,e2])) (ha.fst _ hb.mem (by rw[hb.eqv,e2]))
 cases a;cases b;simp_all
theorem KN(val:List Nat->Int):∀(xs:List (List Nat)) (S:List Nat->Prop) (st:List Nat×Int),
  H9 val S st->xs.Pairwise (fun x y=>Cx x y=true)->
  (∀x,x∈xs->∀y,S y->Cx y x=true)->
  H9 val (fun l=>S l\/l∈xs) (xs.foldl (up val) st)
 |[],S,st,hb,_,_=>by
   simpa using hb
 |x::xs,S,st,hb,hp,hs=>by
   rw[List.pairwise_cons]at hp
   have hb':H9 val (fun l=>S l\/l=x) (up val st x):=by
    unfold up
    split
    ·rename_i h
     refine⟨Or.inr rfl,rfl,?_,?_⟩
     ·rintro l (h1|rfl)
      ·have:=hb.top l h1;show val l<=val x;omega
      exact Int.le_refl _
     rintro l (h1|rfl) h2
     ·have:=hb.top l h1;have h2:val l=val x:=h2;omega
     exact M7 _
    rename_i h
    refine⟨Or.inl hb.mem,hb.eqv,?_,?_⟩
    ·rintro l (h1|rfl)
     ·exact hb.top l h1
     omega
    rintro l (h1|rfl) h2
    ·exact hb.fst l h1 h2
    exact KQ _ _ (hs l (List.mem_cons_self ..) _ hb.mem)
   have:=KN val xs _ _ hb' hp.2 (by
    intro y hy z hz
    rcases hz with hz|rfl
    ·exact hs y (List.mem_cons_of_mem _ hy) z hz
    exact hp.1 y hy)
   have e:(fun l=>(S l\/l=x)\/l∈xs)=(fun l=>S l\/l∈x::xs):=by
    funext l;simp[or_assoc]
   rw[e]at this
   exact this
def Wm(n:Nat)(ok:List Nat->Nat->Bool)(val:List Nat->Int):List Nat×Int:=
 (EK n ok n []).foldl (up val) ([],0)
theorem R3(n:Nat)(ok:List Nat->Nat->Bool)(val:List Nat->Int)(h0:val []=0):
  H9 val (fun l=>IE n 0 l=true/\Rq ok [] l=true) (Wm n ok val):=by
 have hb:H9 val (fun l=>l=[]) ([],0):=
  ⟨rfl,h0,by rintro l rfl;simp[h0],by rintro l rfl _;rfl⟩
 have:=KN val (EK n ok n []) _ _ hb (F7 n ok n [] (Nat.le_refl _)) (by
  intro x hx y hy
  rw[Ej n ok n _ _ (Nat.le_refl _)]at hx
  obtain⟨i,e,rfl,_⟩:=hx
  subst hy;rfl)
 have e:(fun l=>l=[]\/l∈EK n ok n [])=(fun l=>IE n 0 l=true/\Rq ok [] l=true):=by
  funext l
  rw[Ej n ok n _ _ (Nat.le_refl _)]
  apply propext
  constructor
  ·rintro(rfl|⟨i,e,rfl,h1,h2⟩)
   ·exact⟨rfl,rfl⟩
   simp only[Nat.sub_self]at h1;exact⟨h1,h2⟩
  rintro⟨h1,h2⟩
  cases l with
  |nil=>exact Or.inl rfl
  |cons i e=>exact Or.inr ⟨i,e,rfl,by simpa using h1,h2⟩
 rw[e]at this
 exact this
def bl(n s:Nat):List Nat:=(List.range n).filter (fun i=>s.testBit i)
def upE(val:List Nat->Int)(S:List Nat->Bool)(st:List Nat×Int)(l:List Nat):List Nat×Int:=
 if S l&&(decide (val l>st.2)||decide (val l=st.2)&&Cx l st.1)then(l,val l)else st
theorem Kh(val:List Nat->Int)(S:List Nat->Bool):∀(xs:List (List Nat)) (T:List Nat->Prop) (st:List Nat×Int),
  H9 val T st->
  H9 val (fun l=>T l\/(l∈xs/\S l=true)) (xs.foldl (upE val S) st)
 |[],T,st,hb=>by simpa using hb
 |x::xs,T,st,hb=>by
   have hb':H9 val (fun l=>T l\/(l=x/\S x=true)) (upE val S st x):=by
    unfold upE
    split
    ·rename_i h
     simp only[Bool.and_eq_true,Bool.or_eq_true,decide_eq_true_eq]at h
     obtain⟨h1,h2⟩:=h
     refine⟨Or.inr ⟨rfl,h1⟩,rfl,?_,?_⟩
     ·rintro l (h3|⟨rfl,_⟩)
      ·have:=hb.top l h3;show val l<=val x;omega
      exact Int.le_refl _
     rintro l (h3|⟨rfl,_⟩) h4
     ·have h4:val l=val x:=h4
      have:=hb.top l h3
      rcases h2 with h2|⟨h2,h5⟩
      ·omega
      have h6:=hb.fst l h3 (by omega)
      cases q:Cx l x with
      |false=>rfl
      |true=>rw[Ql l x st.1 q h5]at h6;exact absurd h6 (by decide)
     exact M7 _
    rename_i h
    simp only[Bool.and_eq_true,Bool.or_eq_true,decide_eq_true_eq]at h
    refine⟨Or.inl hb.mem,hb.eqv,?_,?_⟩
    ·rintro l (h3|⟨rfl,h3⟩)
     ·exact hb.top l h3
     apply Int.not_lt.1
     intro q
     exact h ⟨h3,Or.inl q⟩
    rintro l (h3|⟨rfl,h3⟩) h4
    ·exact hb.fst l h3 h4
    cases q:Cx l st.1 with
    |false=>rfl
    |true=>exact absurd ⟨h3,Or.inr ⟨h4,q⟩⟩ h
   have:=Kh val S xs _ _ hb'
   have e:(fun l=>(T l\/(l=x/\S x=true))\/(l∈xs/\S l=true))=(fun l=>T l\/(l∈x::xs/\S l=true)):=by
    funext l
    apply propext
    simp only[List.mem_cons]
    constructor
    ·rintro((h|⟨rfl,h⟩)|⟨h,g⟩)
     ·exact Or.inl h
     ·exact Or.inr ⟨Or.inl rfl,h⟩
     exact Or.inr ⟨Or.inr h,g⟩
    rintro(h|⟨rfl|h,g⟩)
    ·exact Or.inl (Or.inl h)
    ·exact Or.inl (Or.inr ⟨rfl,g⟩)
    exact Or.inr ⟨h,g⟩
   rw[e]at this
   exact this
theorem Sr(n s i:Nat):i∈bl n s↔i<n/\s.testBit i=true:=by
 simp[bl]
theorem DQ(n:Nat):∀(e:List Nat) (a:Nat),IE n a e=true->
  e.Pairwise (fun x y=>x<y)/\∀x,x∈e->a<=x/\x<n
 |[],_,_=>by simp
 |i::e,a,h=>by
   simp[IE]at h
   obtain⟨h1,h2⟩:=DQ n e (i+1) h.2
   refine⟨List.pairwise_cons.2 ⟨fun y hy=>by have:=h2 y hy;omega,h1⟩,?_⟩
   intro x hx
   rcases List.mem_cons.1 hx with rfl|hx
   ·exact h.1
   have:=h2 x hx;omega
theorem GX(n:Nat):∀(e:List Nat) (a:Nat),e.Pairwise (fun x y=>x<y)->
  (∀x,x∈e->a<=x/\x<n)->IE n a e=true
 |[],_,_,_=>rfl
 |i::e,a,h,g=>by
   rw[List.pairwise_cons]at h
   have g0:=g i (List.mem_cons_self ..)
   have:=GX n e (i+1) h.2 (fun x hx=>⟨by have:=h.1 x hx;omega,(g x (List.mem_cons_of_mem _ hx)).2⟩)
   simp[IE,this];omega
theorem ZZ(n s:Nat):IE n 0 (bl n s)=true:=
 GX n _ 0 (List.Pairwise.filter _ List.pairwise_lt_range) (fun x hx=>⟨Nat.zero_le _,((Sr n s x).1 hx).1⟩)
theorem GP:∀(x y:List Nat),x.Pairwise (fun a b=>a<b)->y.Pairwise (fun a b=>a<b)->
  (∀i,i∈x↔i∈y)->x=y
 |[],[],_,_,_=>rfl
 |[],b::y,_,_,h=>by have:=(h b).2 (List.mem_cons_self ..);simp at this
 |a::x,[],_,_,h=>by have:=(h a).1 (List.mem_cons_self ..);simp at this
 |a::x,b::y,hx,hy,h=>by
   rw[List.pairwise_cons]at hx hy
   have e:a=b:=by
    rcases List.mem_cons.1 ((h a).1 (List.mem_cons_self ..))with q|q
    ·exact q
    rcases List.mem_cons.1 ((h b).2 (List.mem_cons_self ..))with p|p
    ·exact p.symm
    have:=hy.1 a q;have:=hx.1 b p;omega
   subst e
   rw[GP x y hx.2 hy.2]
   intro i
   constructor
   ·intro q
    rcases List.mem_cons.1 ((h i).1 (List.mem_cons_of_mem _ q))with p|p
    ·subst p;exact absurd (hx.1 _ q) (Nat.lt_irrefl _)
    exact p
   intro q
   rcases List.mem_cons.1 ((h i).2 (List.mem_cons_of_mem _ q))with p|p
   ·subst p;exact absurd (hy.1 _ q) (Nat.lt_irrefl _)
   exact p
def mk(e:List Nat):Nat:=e.foldr (fun i s=>2^i|||s) 0
theorem Je(i:Nat):∀e:List Nat,(mk e).testBit i=true↔i∈e
 |[]=>by simp[mk]
 |a::e=>by
   have:=Je i e
   simp only[mk,List.foldr_cons,Nat.testBit_or,Bool.or_eq_true]at this⊢
   rw[this,List.mem_cons,Nat.testBit_two_pow]
   constructor
   ·rintro(h|h)
    ·left;simp at h;exact h.symm
    exact Or.inr h
   rintro(rfl|h)
   ·left;simp
   exact Or.inr h
theorem AaL(n:Nat)(e:List Nat)(h:IE n 0 e=true):bl n (mk e)=e:=by
 obtain⟨h1,h2⟩:=DQ n e 0 h
 refine GP _ _ (List.Pairwise.filter _ List.pairwise_lt_range) h1 ?_
 intro i
 rw[Sr,Je]
 exact⟨fun q=>q.2,fun q=>⟨(h2 i q).2,q⟩⟩
theorem Aau(n:Nat)(e:List Nat)(h:IE n 0 e=true):mk e<2^n:=by
 apply Nat.lt_pow_two_of_testBit
 intro i hi
 cases q:(mk e).testBit i with
 |false=>rfl
 |true=>
   rw[Je]at q
   have:=((DQ n e 0 h).2 i q).2
   omega
theorem X4(i:Nat)(e:List Nat):0<mk (i::e):=by
 apply Nat.pos_of_ne_zero
 intro h
 have:=(Je i (i::e)).2 (List.mem_cons_self ..)
 rw[h]at this;simp at this
def NR(n:Nat)(val:List Nat->Int)(S:List Nat->Bool):List Nat×Int:=
 ((List.range' 1 (2^n-1)).map (bl n)).foldl (upE val S) ([],0)
theorem KU(n:Nat)(val:List Nat->Int)(S:List Nat->Bool)(h0:val []=0)(hS:S []=true):
  H9 val (fun l=>IE n 0 l=true/\S l=true) (NR n val S):=by
 have hb:H9 val (fun l=>l=[]) ([],0):=
  ⟨rfl,h0,by rintro l rfl;simp[h0],by rintro l rfl _;rfl⟩
 have:=Kh val S ((List.range' 1 (2^n-1)).map (bl n)) _ _ hb
 have e:(fun l=>l=[]\/(l∈(List.range' 1 (2^n-1)).map (bl n)/\S l=true))=(fun l=>IE n 0 l=true/\S l=true):=by
  funext l
  apply propext
  constructor
  ·rintro(rfl|⟨h1,h2⟩)
   ·exact⟨rfl,hS⟩
   obtain⟨s,_,rfl⟩:=List.mem_map.1 h1
   exact⟨ZZ n s,h2⟩
  rintro⟨h1,h2⟩
  cases l with
  |nil=>exact Or.inl rfl
  |cons i e=>
    refine Or.inr ⟨List.mem_map.2 ⟨mk (i::e),?_,AaL n _ h1⟩,h2⟩
    have:=Aau n _ h1
    have:=X4 i e
    rw[List.mem_range'_1];omega
 rw[e]at this
 exact this
theorem Tc(n:Nat)(ok:List Nat->Nat->Bool)(val:List Nat->Int)(S:List Nat->Bool)(h0:val []=0)
  (hS:∀l,IE n 0 l=true->S l=Rq ok [] l):Wm n ok val=NR n val S:=by
 have a:=R3 n ok val h0
 have b:=KU n val S h0 (by rw[hS [] rfl];rfl)
 have e:(fun l=>IE n 0 l=true/\S l=true)=(fun l=>IE n 0 l=true/\Rq ok [] l=true):=by
  funext l
  apply propext
  constructor<;>rintro⟨h1,h2⟩
  ·exact⟨h1,by rw[<-hS l h1];exact h2⟩
  exact⟨h1,by rw[hS l h1];exact h2⟩
 rw[e]at b
 exact a.uniq b
end Go.Proofs.YtlieoghhkioflaaGreat
namespace Go.Proofs.YtlieoghhkioflaaGreat
def vS(V:Nat->Int)(c:Nat->Bool):Nat->Int
 |0=>0
 |n+1=>vS V c n+if c n then V n else 0
theorem MX(V:Nat->Int)(c d:Nat->Bool):∀n,(∀i,i<n->c i=d i)->vS V c n=vS V d n
 |0,_=>rfl
 |n+1,h=>by rw[vS,vS,MX V c d n (fun i hi=>h i (by omega)),h n (by omega)]
theorem LU(V:Nat->Int)(c:Nat->Bool):∀n,(∀i,i<n->c i=false)->vS V c n=0
 |0,_=>rfl
 |n+1,h=>by rw[vS,LU V c n (fun i hi=>h i (by omega)),h n (by omega)];rfl
theorem Oa(V:Nat->Int)(c d:Nat->Bool)(b:Nat)(hb:c b=false)(hd:d b=true)
  (h:∀i,i≠b->d i=c i):∀n,b<n->vS V d n=vS V c n+V b
 |0,q=>by omega
 |n+1,q=>by
   by_cases e:b=n
   ·subst e
    rw[vS,vS,MX V d c b (fun i hi=>h i (by omega)),hb,hd];simp
   rw[vS,vS,Oa V c d b hb hd h n (by omega),h n (fun z=>e z.symm)];omega
theorem Mc(V:Nat->Int)(c:Nat->Bool):∀n,(((List.range n).filter c).map V).sum=vS V c n
 |0=>rfl
 |n+1=>by
   rw[List.range_succ,List.filter_append,List.map_append,List.sum_append,Mc V c n,vS]
   by_cases h:c n=true<;>simp[h]
variable(F T V:Nat->Int)(n:Nat)
structure Nq(x:Int)(c:Nat->Bool):Prop where
 end_:∀i,i<n->c i=true->T i<=x
 apart:∀i k,i<n->k<n->c i=true->c k=true->i≠k->T i<=F k\/T k<=F i
structure Hp(x m:Int):Prop where
 ex:∃c,Nq F T n x c/\vS V c n=m
 le:∀c,Nq F T n x c->vS V c n<=m
theorem Hp.uniq{x m k:Int}(h:Hp F T V n x m)(g:Hp F T V n x k):m=k:=by
 obtain⟨c,hc,rfl⟩:=h.ex
 obtain⟨d,hd,rfl⟩:=g.ex
 have:=h.le d hd;have:=g.le c hc;omega
theorem Uw(x:Int)(h:∀i,i<n->x<T i):Hp F T V n x 0:=by
 have key:∀c,Nq F T n x c->vS V c n=0:=by
  intro c hc
  refine LU V c n fun i hi=> ?_
  cases q:c i with
  |false=>rfl
  |true=>have:=hc.end_ i hi q;have:=h i hi;omega
 refine⟨⟨fun _=>false,⟨by simp,by simp⟩,LU V _ n (by simp)⟩,fun c hc=> ?_⟩
 rw[key c hc];exact Int.le_refl _
def tp(x:Int)(g:Nat->Int)(m0:Int):Nat->Int
 |0=>m0
 |k+1=>if T k=x then max (tp x g m0 k) (g k+V k)else tp x g m0 k
theorem Uu(x:Int)(g:Nat->Int)(m0:Int):∀k,m0<=tp T V x g m0 k
 |0=>Int.le_refl _
 |k+1=>by
   have:=Uu x g m0 k
   rw[tp];split<;>omega
theorem Uv(x:Int)(g:Nat->Int)(m0:Int):∀k b,b<k->T b=x->g b+V b<=tp T V x g m0 k
 |0,b,h,_=>by omega
 |k+1,b,h,e=>by
   by_cases q:b=k
   ·subst q;rw[tp,if_pos e];omega
   have:=Uv x g m0 k b (by omega) e
   rw[tp];split<;>omega
theorem PR(x:Int)(g:Nat->Int)(m0:Int):∀k,tp T V x g m0 k=m0\/∃b,b<k/\T b=x/\tp T V x g m0 k=g b+V b
 |0=>Or.inl rfl
 |k+1=>by
   rw[tp]
   split
   ·rename_i e
    by_cases q:tp T V x g m0 k<=g k+V k
    ·exact Or.inr ⟨k,by omega,e,by omega⟩
    rcases PR x g m0 k with h|⟨b,h1,h2,h3⟩
    ·left;omega
    exact Or.inr ⟨b,by omega,h2,by omega⟩
   rcases PR x g m0 k with h|⟨b,h1,h2,h3⟩
   ·exact Or.inl h
   exact Or.inr ⟨b,by omega,h2,h3⟩
theorem Ti(e x:Int)(g:Nat->Int)(m0:Int)(hex:e<=x)
  (hF:∀i,i<n->F i<T i)
  (he:Hp F T V n e m0)
  (hb:∀b,b<n->T b=x->Hp F T V n (F b) (g b))
  (hn:∀b,b<n->T b<=x->T b<=e\/T b=x):
  Hp F T V n x (tp T V x g m0 n):=by
 constructor
 ·rcases PR T V x g m0 n with h|⟨b,h1,h2,h3⟩
  ·obtain⟨c,hc,hv⟩:=he.ex
   exact⟨c,⟨fun i hi q=>by have:=hc.end_ i hi q;omega,hc.apart⟩,by rw[h];exact hv⟩
  obtain⟨c,hc,hv⟩:=(hb b h1 h2).ex
  have hF':=hF b h1
  have hcb:c b=false:=by
   cases q:c b with
   |false=>rfl
   |true=>have:=hc.end_ b h1 q;omega
  refine⟨fun i=>c i||decide (i=b),⟨?_,?_⟩,?_⟩
  ·intro i hi q
   simp only[Bool.or_eq_true,decide_eq_true_eq]at q
   rcases q with q|rfl
   ·have:=hc.end_ i hi q;omega
   omega
  ·intro i k hi hk q r hik
   simp only[Bool.or_eq_true,decide_eq_true_eq]at q r
   rcases q with q|rfl
   ·rcases r with r|rfl
    ·exact hc.apart i k hi hk q r hik
    exact Or.inl (hc.end_ i hi q)
   rcases r with r|rfl
   ·exact Or.inr (hc.end_ k hk r)
   exact absurd rfl hik
  rw[Oa V c _ b hcb (by simp) (fun i hi=>by simp[hi]) n h1,hv,h3]
 intro c hc
 by_cases h:∃b,b<n/\c b=true/\T b=x
 ·obtain⟨b,h1,h2,h3⟩:=h
  have hd:Nq F T n (F b) (fun i=>c i&& !decide (i=b)):=by
   constructor
   ·intro i hi q
    simp only[Bool.and_eq_true,Bool.not_eq_true',decide_eq_false_iff_not]at q
    have:=hF i hi
    have:=hc.end_ i hi q.1
    rcases hc.apart i b hi h1 q.1 h2 q.2 with z|z<;>omega
   intro i k hi hk q r hik
   simp only[Bool.and_eq_true]at q r
   exact hc.apart i k hi hk q.1 r.1 hik
  have:=(hb b h1 h3).le _ hd
  have:=Uv T V x g m0 n b h1 h3
  have:=Oa V (fun i=>c i&& !decide (i=b)) c b (by simp) h2 (fun i hi=>by simp[hi]) n h1
  omega
 have hd:Nq F T n e c:=by
  refine⟨fun i hi q=> ?_,hc.apart⟩
  rcases hn i hi (hc.end_ i hi q)with z|z
  ·exact z
  exact absurd ⟨i,hi,q,z⟩ h
 have:=he.le c hd
 have:=Uu T V x g m0 n
 omega
end Go.Proofs.YtlieoghhkioflaaGreat
namespace Go.Proofs.YtlieoghhkioflaaGreat
def LP(F T:Nat->Int)(i k:Nat):Bool:=decide (T i<=F k)||decide (T k<=F i)
def Tf(F T:Nat->Int)(l:List Nat)(i:Nat):Bool:=l.all fun k=>LP F T k i
def pw(F T:Nat->Int):List Nat->Bool
 |[]=>true
 |i::e=>(e.all fun k=>LP F T i k)&&pw F T e
theorem Tn(F T:Nat->Int):∀(e l:List Nat),Rq (Tf F T) l e=(pw F T e&&l.all fun k=>e.all fun i=>LP F T k i)
 |[],l=>by simp[Rq,pw]
 |i::e,l=>by
   rw[Rq,Tn F T e (l++[i]),pw,Tf,List.all_append]
   simp only[List.all_cons,List.all_nil,Bool.and_true]
   have:(l.all fun k=>LP F T k i&&e.all fun j=>LP F T k j)=((l.all fun k=>LP F T k i)&&l.all fun k=>e.all fun j=>LP F T k j):=by
    induction l with
    |nil=>rfl
    |cons a l ih=>simp only[List.all_cons,ih];cases LP F T a i<;>cases(e.all fun j=>LP F T a j)<;>cases(l.all fun k=>LP F T k i)<;>simp
   rw[this]
   cases(l.all fun k=>LP F T k i)<;>cases pw F T e<;>cases(l.all fun k=>e.all fun j=>LP F T k j)<;>simp
theorem Wy(F T:Nat->Int)(e:List Nat):Rq (Tf F T) [] e=pw F T e:=by
 rw[Tn];simp
theorem Vn(F T:Nat->Int)(i k:Nat):LP F T i k=LP F T k i:=by
 simp only[LP,Bool.or_comm]
theorem OK(F T:Nat->Int):∀e:List Nat,e.Pairwise (fun x y=>x<y)->
  (pw F T e=true↔∀i k,i∈e->k∈e->i≠k->LP F T i k=true)
 |[],_=>by simp[pw]
 |a::e,h=>by
   rw[List.pairwise_cons]at h
   rw[pw,Bool.and_eq_true,OK F T e h.2,List.all_eq_true]
   constructor
   ·rintro⟨h1,h2⟩ i k hi hk hik
    rcases List.mem_cons.1 hi with rfl|hi'
    ·rcases List.mem_cons.1 hk with rfl|hk'
     ·exact absurd rfl hik
     exact h1 k hk'
    rcases List.mem_cons.1 hk with rfl|hk'
    ·rw[Vn];exact h1 i hi'
    exact h2 i k hi' hk' hik
   intro g
   refine⟨fun k hk=>g a k (List.mem_cons_self ..) (List.mem_cons_of_mem _ hk) ?_,fun i k hi hk hik=>g i k (List.mem_cons_of_mem _ hi) (List.mem_cons_of_mem _ hk) hik⟩
   have:=h.1 k hk;omega
def FN(V:Nat->Int)(l:List Nat):Int:=(l.map V).sum
def Vj(F T:Nat->Int)(x:Int)(l:List Nat):Bool:=(l.all fun i=>decide (T i<=x))&&pw F T l
theorem Np(n:Nat)(l:List Nat)(h:IE n 0 l=true):(List.range n).filter (fun i=>decide (i∈l))=l:=by
 obtain⟨h1,h2⟩:=DQ n l 0 h
 refine GP _ _ (List.Pairwise.filter _ List.pairwise_lt_range) h1 ?_
 intro i
 simp only[List.mem_filter,List.mem_range,decide_eq_true_eq]
 exact⟨fun q=>q.2,fun q=>⟨(h2 i q).2,q⟩⟩
theorem MO(F T V:Nat->Int)(n:Nat)(x:Int):Hp F T V n x (NR n (FN V) (Vj F T x)).2:=by
 have hb:=KU n (FN V) (Vj F T x) rfl rfl
 constructor
 ·obtain⟨h1,h2⟩:=hb.mem
  have hs:=(DQ n _ 0 h1).1
  rw[Vj,Bool.and_eq_true,OK F T _ hs,List.all_eq_true]at h2
  refine⟨fun i=>decide (i∈(NR n (FN V) (Vj F T x)).1),⟨?_,?_⟩,?_⟩
  ·intro i _ q
   have:=h2.1 i (by simpa using q)
   simpa using this
  ·intro i k _ _ q r hik
   have:=h2.2 i k (by simpa using q) (by simpa using r) hik
   simpa[LP]using this
  rw[<-Mc,Np n _ h1];exact hb.eqv
 intro c hc
 have hm:∀i,i∈(List.range n).filter c->i<n/\c i=true:=fun i hi=>by
  simpa[List.mem_filter]using hi
 have hs:((List.range n).filter c).Pairwise (fun x y=>x<y):=List.Pairwise.filter _ List.pairwise_lt_range
 rw[<-Mc]
 refine hb.top _ ⟨GX n _ 0 hs (fun i hi=>⟨Nat.zero_le _,(hm i hi).1⟩),?_⟩
 rw[Vj,Bool.and_eq_true,OK F T _ hs,List.all_eq_true]
 refine⟨fun i hi=> ?_,fun i k hi hk hik=> ?_⟩
 ·simpa using hc.end_ i (hm i hi).1 (hm i hi).2
 have:=hc.apart i k (hm i hi).1 (hm k hk).1 (hm i hi).2 (hm k hk).2 hik
 simpa[LP]using this
theorem L1(F T V:Nat->Int)(n:Nat)(x:Int)(h:∀i,i<n->T i<=x):
  Wm n (Tf F T) (FN V)=NR n (FN V) (Vj F T x):=by
 refine Tc n _ _ _ rfl fun l hl=> ?_
 rw[Wy,Vj]
 have:(l.all fun i=>decide (T i<=x))=true:=by
  rw[List.all_eq_true]
  intro i hi
  simpa using h i ((DQ n l 0 hl).2 i hi).2
 rw[this,Bool.true_and]
end Go.Proofs.YtlieoghhkioflaaGreat
namespace Go.Proofs.YtlieoghhkioflaaGreat
open Go Go.RowKit
variable{G:Nat->Option (Nat×(Nat->Ad))}
def Sg(l:List Nat)(i:Nat):Int:=((l.getD i 0:Nat):Int)
abbrev lV(l:List Nat):Ad:= .view 1 l.length fun i _=> .int .i64 (Sg l i)
abbrev bF(b:Vc)(i:Nat):Int:=(b.2 i).turn.fro
abbrev bT(b:Vc)(i:Nat):Int:=(b.2 i).turn.til
abbrev bV(b:Vc)(i:Nat):Int:=(b.2 i).baisa
theorem VI(l:List Nat)(j i:Nat):Sg (l++[j]) i=if i<l.length then Sg l i else if i=l.length then(j:Int)else 0:=by
 unfold Sg
 rcases Nat.lt_trichotomy i l.length with h|h|h
 ·rw[if_pos h];simp[List.getElem?_append_left h]
 ·subst h;simp
 rw[if_neg (by omega),if_neg (by omega)]
 rw[List.getD_eq_getElem?_getD,List.getElem?_eq_none (by simp;omega)];rfl
noncomputable def IB(b:Vc)(x:Int):List Nat×Int:=NR b.1 (FN (bV b)) (Vj (bF b) (bT b) x)
end Go.Proofs.YtlieoghhkioflaaGreat
namespace Go.Proofs.YtlieoghhkioflaaGreat
theorem MG:∀(x y:List Int),x.Pairwise (fun a b=>a<b)->y.Pairwise (fun a b=>a<b)->
  (∀i,i∈x↔i∈y)->x=y
 |[],[],_,_,_=>rfl
 |[],b::y,_,_,h=>by have:=(h b).2 (List.mem_cons_self ..);simp at this
 |a::x,[],_,_,h=>by have:=(h a).1 (List.mem_cons_self ..);simp at this
 |a::x,b::y,hx,hy,h=>by
   rw[List.pairwise_cons]at hx hy
   have e:a=b:=by
    rcases List.mem_cons.1 ((h a).1 (List.mem_cons_self ..))with q|q
    ·exact q
    rcases List.mem_cons.1 ((h b).2 (List.mem_cons_self ..))with p|p
    ·exact p.symm
    have:=hy.1 a q;have:=hx.1 b p;omega
   subst e
   rw[MG x y hx.2 hy.2]
   intro i
   constructor
   ·intro q
    rcases List.mem_cons.1 ((h i).1 (List.mem_cons_of_mem _ q))with p|p
    ·subst p;exact absurd (hx.1 _ q) (Int.lt_irrefl _)
    exact p
   intro q
   rcases List.mem_cons.1 ((h i).2 (List.mem_cons_of_mem _ q))with p|p
   ·subst p;exact absurd (hy.1 _ q) (Int.lt_irrefl _)
   exact p
def nxt(last:Int):List Int->Int->Int
 |[],nx=>nx
 |a::l,nx=>nxt last l (if a>last/\a<nx then a else nx)
theorem JA(last:Int):∀(l:List Int) (nx:Int),last<nx->
  last<nxt last l nx/\nxt last l nx<=nx/\(nxt last l nx=nx\/nxt last l nx∈l)/\
  ∀a,a∈l->last<a->nxt last l nx<=a
 |[],nx,h=>by simp[nxt,h]
 |a::l,nx,h=>by
   rw[nxt]
   by_cases c:a>last/\a<nx
   ·rw[if_pos c]
    obtain⟨h1,h2,h3,h4⟩:=JA last l a c.1
    refine⟨h1,by omega,?_,?_⟩
    ·right
     rcases h3 with h3|h3
     ·rw[h3];exact List.mem_cons_self ..
     exact List.mem_cons_of_mem _ h3
    intro x hx hl
    rcases List.mem_cons.1 hx with rfl|hx
    ·exact h2
    exact h4 x hx hl
   rw[if_neg c]
   obtain⟨h1,h2,h3,h4⟩:=JA last l nx h
   refine⟨h1,h2,?_,?_⟩
   ·rcases h3 with h3|h3
    ·exact Or.inl h3
    exact Or.inr (List.mem_cons_of_mem _ h3)
   intro x hx hl
   rcases List.mem_cons.1 hx with rfl|hx
   ·omega
   exact h4 x hx hl
def La(all:List Int)(hi:Int):Nat->Int->List Int->List Int
 |0,_,out=>out
 |f+1,last,out=>if last<hi then La all hi f (nxt last all hi) (out++[nxt last all hi])else out
theorem KP(all:List Int)(hi:Int)(hh:hi∈all)(hin:∀a,a∈all->a<=hi):
  ∀(f:Nat) (last:Int) (out:List Int),(hi-last).toNat<=f->last<=hi->
  out.Pairwise (fun a b=>a<b)->(∀x,x∈out↔x∈all/\x<=last)->
  (La all hi f last out).Pairwise (fun a b=>a<b)/\∀x,x∈La all hi f last out↔x∈all
 |0,last,out,hf,hl,hp,hm=>by
   have:last=hi:=by omega
   subst this
   refine⟨hp,fun x=> ?_⟩
   rw[La,hm]
   exact⟨fun q=>q.1,fun q=>⟨q,hin x q⟩⟩
 |f+1,last,out,hf,hl,hp,hm=>by
   rw[La]
   by_cases c:last<hi
   ·rw[if_pos c]
    obtain⟨h1,h2,h3,h4⟩:=JA last all hi c
    have hmem:nxt last all hi∈all:=by
     rcases h3 with h3|h3
     ·rw[h3];exact hh
     exact h3
    refine KP all hi hh hin f _ _ (by omega) h2 ?_ ?_
    ·rw[List.pairwise_append]
     refine⟨hp,List.pairwise_singleton _ _,?_⟩
     intro a ha b hb
     have hb:=List.mem_singleton.1 hb
     have:=((hm a).1 ha).2
     subst hb;omega
    intro x
    rw[List.mem_append,hm,List.mem_singleton]
    constructor
    ·rintro(⟨q,r⟩|rfl)
     ·exact⟨q,by omega⟩
     exact⟨hmem,Int.le_refl _⟩
    rintro⟨q,r⟩
    by_cases z:x<=last
    ·exact Or.inl ⟨q,z⟩
    have:=h4 x q (by omega)
    exact Or.inr (by omega)
   rw[if_neg c]
   have:last=hi:=by omega
   subst this
   refine⟨hp,fun x=> ?_⟩
   rw[hm]
   exact⟨fun q=>q.1,fun q=>⟨q,hin x q⟩⟩
end Go.Proofs.YtlieoghhkioflaaGreat
namespace Go.Proofs.YtlieoghhkioflaaGreat
open Go Go.RowKit
variable{G:Nat->Option (Nat×(Nat->Ad))}
def aF(t:Tu)(b:Nat×(Nat->Bd))(a:Nat):Int:=if a=0 then t.fro else if a=1 then t.til else if a%2=0 then(b.2 (a/2-1)).turn.fro else(b.2 (a/2-1)).turn.til
def OD(t:Tu)(b:Nat×(Nat->Bd)):List Int:=(List.range (2*b.1+2)).map (aF t b)
theorem Abe(t:Tu)(b:Nat×(Nat->Bd))(j:Nat):aF t b (2*j+2)=(b.2 j).turn.fro:=by
 unfold aF
 rw[if_neg (by omega),if_neg (by omega),if_pos (by omega),show(2*j+2)/2-1=j by omega]
theorem AaE(t:Tu)(b:Nat×(Nat->Bd))(j:Nat):aF t b (2*j+3)=(b.2 j).turn.til:=by
 unfold aF
 rw[if_neg (by omega),if_neg (by omega),if_neg (by omega),show(2*j+3)/2-1=j by omega]
theorem Acl(t:Tu)(b:Nat×(Nat->Bd))(ht:Pk t)(hb:∀i,i<b.1->L6 t (b.2 i))(a:Nat)(ha:a<2*b.1+2):t.fro<=aF t b a/\aF t b a<=t.til:=by
 obtain⟨h1,h2,h3⟩:=ht
 unfold aF
 split
 ·omega
 split
 ·omega
 obtain⟨_,⟨_,_,_⟩,_⟩:=hb (a/2-1) (by omega)
 split<;>omega
theorem LG(t:Tu)(b:Nat×(Nat->Bd))(ht:Pk t)(hb:∀i,i<b.1->L6 t (b.2 i)):∀a,a∈OD t b->t.fro<=a/\a<=t.til:=by
 intro a ha
 obtain⟨i,hi,rfl⟩:=List.mem_map.1 ha
 exact Acl t b ht hb i (List.mem_range.1 hi)
theorem P7(t:Tu)(b:Nat×(Nat->Bd)):t.til∈OD t b:=List.mem_map.2 ⟨1,List.mem_range.2 (by omega),by simp[aF]⟩
def ln(l:List Int)(i:Nat):Int:=l.getD i 0
abbrev lW(l:List Int):Ad:= .view 1 l.length fun i _=> .int .i64 (ln l i)
theorem Yy(l:List Int)(j:Int)(i:Nat):ln (l++[j]) i=if i<l.length then ln l i else if i=l.length then j else 0:=by
 unfold ln
 rcases Nat.lt_trichotomy i l.length with h|h|h
 ·rw[if_pos h];simp[List.getElem?_append_left h]
 ·subst h;simp
 rw[if_neg (by omega),if_neg (by omega)]
 rw[List.getD_eq_getElem?_getD,List.getElem?_eq_none (by simp;omega)];rfl
def Cd(t:Tu)(b:Nat×(Nat->Bd)):List Int:=La (OD t b) t.til ((t.til-t.fro).toNat+1) (t.fro-1) []
end Go.Proofs.YtlieoghhkioflaaGreat
