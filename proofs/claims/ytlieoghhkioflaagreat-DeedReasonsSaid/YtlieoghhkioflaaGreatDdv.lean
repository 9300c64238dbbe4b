/- Deeds: parts, the program's. No condition. -/
import Derived.Test.YtlieoghhkioflaaGreatDin
import Derived.Test.YtlieoghhkioflaaGreatDr2
import Derived.Test.YtlieoghhkioflaaGreatSoB
import Derived.Test.YtlieoghhkioflaaGreatACode1
set_option linter.unusedSimpArgs false
set_option linter.unusedVariables false
set_option maxRecDepth 100000
namespace Go.Proofs.YtlieoghhkioflaaGreat
open Go Go.RowKit
variable{α:Type}
variable{G:Nat->Option (Nat×(Nat->Ae))}
section
variable{P:Program}
theorem RJ{E:Df}(hmix:P.follows .mixedOrders=true)(hS:∀id s,E.S id=some s->Ah P E.G id s)(hI:∀id af,E.I id=some af->∃fn,P.funcs[id]?=some fn/\Ay P fn=some af)(hX:∀id pz s,E.X id=some (pz,s)->Cw P E.G id pz s)(hC:∀id T k,E.C id=some (T,k)->D8 P id T k){id:FuncId}{fn:Func}{af:Ax}{s:At}(hfn:P.funcs[id]?=some fn)(hcf:Ay P fn=some af)
  (h:∀vs,s.pre vs->∃vs',AC (vl vs') (vl vs)/\s.res vs'=s.res vs/\(FU (vl vs')->∃n,AA E (fun v bx=>GJ s.own v bx (s.res vs')) n [.code af.code] [] af.res (params 0 vs') [] 0)):Ah P E.G id s:=by
 simp only[Bp]at h
 have hok:Ah P E.G id ⟨fun vs'=>FU (vl vs')->∃n,run E (fun v bx=>GJ s.own v bx (s.res vs')) n [.code af.code] [] af.res (params 0 vs') [] 0,s.res,s.own⟩:=
  Jm hmix hS hI hX hC hfn hcf fun vs hp hw=>hp hw
 refine⟨hok.ent,fun A w vs cs hG hr hp=> ?_⟩
 obtain⟨vs',h1,h2,h3⟩:=h vs hp
 have:=hok.run A w vs' cs hG (BB _ _ _ h1 hr) h3
 simp only[h2]at this
 exact this
theorem foT{G:Nat->Option (Nat×(Nat->Ae))}{S:List (FuncId×At)}{I:List (FuncId×Ax)}{X:List (FuncId×Nat×At)}{N:List TypeId}{C:List (FuncId×Option (TypeId×IntKind))}{id:FuncId}{fn:Func}{af:Ax}{t:AT α}(hmix:P.follows .mixedOrders=true)(hS:Ml P G S)(hI:Mn P I)(hX:UV P G X)(hfn:P.funcs[id]?=some fn)(hcf:Ay P fn=some af){e:TypeId}{pre:α->Prop}{res:α->Ae}
  (h:∀a,pre a->FU (vl (t.enc a))->AA (Lu G S I X N C) (fun v bx=>GJ (some e) v bx (res a)) 100000 [.code af.code] [] af.res (params 0 (t.enc a)) [] 0) (hC:TV P C:=by first|exact .nil|exact .frz .nil):Ah P G id ((An t pre res).mine e):=
 RJ (E:=Lu G S I X N C) hmix hS.get hI.get hX.get hC.get hfn hcf fun vs hp=>⟨t.enc (t.of vs),t.h1 vs hp.1,by simp only[At.mine,An,t.h2],fun hw=>⟨100000,by simp only[At.mine,An,t.h2];exact h _ hp.2 hw⟩⟩
end
def UQ(t:VT α):VT α where
 Is:=fun w=>∃v,w= .vptr 1 (Az (.cons v .nil))/\t.Is v
 of:=fun w=>match w with| .vptr _ f=>t.of (f 0)|_=>t.of .und
 enc:=fun a=> .vptr 1 (Az (.cons (t.enc a) .nil))
 h1:=by
  rintro w ⟨v,rfl,h⟩
  have:=t.h1 v h
  show AC (.vptr 1 (Az (.cons (t.enc (t.of v)) .nil))) (.vptr 1 (Az (.cons v .nil)))
  refine⟨_,rfl,fun j hj=> ?_⟩
  obtain rfl:j=0:=by omega
  exact this
 h2:=fun a=>t.h2 a
theorem Y0(t:VT α)(v:Ae):(UQ t).Is (.vptr 1 (Az (.cons v .nil)))=t.Is v:=by
 apply propext
 constructor
 ·rintro⟨w,h,k⟩
  have h2:Az (.cons v .nil)=Az (.cons w .nil):=by injection h
  have:v=w:=congrFun h2 0
  rw[this];exact k
 exact fun k=>⟨v,rfl,k⟩
theorem XY(t:VT α)(v:Ae):(UQ t).of (.vptr 1 (Az (.cons v .nil)))=t.of v:=rfl
theorem WO(t:VT α)(a:α):(UQ t).enc a= .vptr 1 (Az (.cons (t.enc a) .nil)):=rfl
attribute [go_sem] Y0 XY WO
def Xf:Ae:= .func (.func 142) .nil
noncomputable def Qy:At:=An (Ag THr AZ) (fun _=>True) fun a=> .int .i64 a.1.parts
theorem Aax:Ah Tryz.prog G 142 Qy:=by
 refine Ib mixed (S:=[]) (I:=[]) (X:=[]) (N:=[]) (C:=[]) .nil .nil .nil Tryz.func142 Ace fun a _ hw=> ?_
 simp only[AaQ,Ag,AZ,↓reduceIte,reduceCtorEq,Nat.reduceEqDiff,Nat.reduceAdd,go_sem]
noncomputable def WF:At:=An (Ag TI (Ag TI (Ag (UQ TI) (Ag (UQ (C5 Xf)) (Ag (UQ (DD IQ)) (Ag (UQ TI) AZ)))))) (fun a=>∃i k:Nat,a.1=i/\a.2.1=k/\i<a.2.2.2.2.1.1/\k<a.2.2.2.2.1.1/\0<=a.2.2.1/\a.2.2.1<=23040/\0<a.2.2.2.2.2.1/\a.2.2.2.2.2.1<=10000/\(∀q,q<a.2.2.2.2.1.1->1<=(a.2.2.2.2.1.2 q).parts/\(a.2.2.2.2.1.2 q).parts<=1000)) fun a=> .int .i64 (a.2.2.1*(a.2.2.2.2.1.2 a.2.1.toNat).parts%a.2.2.2.2.2.1-a.2.2.1*(a.2.2.2.2.1.2 a.1.toNat).parts%a.2.2.2.2.2.1)
theorem AcU:Ah Tryz.prog G 159 WF:=by
 refine Ib mixed (S:=[(142,Qy)]) (I:=[]) (X:=[]) (N:=[]) (C:=[]) (.cons Aax .nil) .nil .nil Tryz.func159 Acd fun a hp hw=> ?_
 obtain⟨x,y,n,u,l,S,z⟩:=a
 obtain⟨i,k,rfl,rfl,h1,h2,h3,h4,h5,h6,h7⟩:=hp
 simp only[Abc,Qy,An,Xf,Ag,AZ,Int.toNat_natCast,↓reduceIte,reduceCtorEq,Nat.reduceEqDiff,Nat.reduceAdd,go_sem]
 have h1:i<l.1:=h1
 have h2:k<l.1:=h2
 have h3:0<=n:=h3
 have h4:n<=23040:=h4
 have h5:0<S:=h5
 have h6:S<=10000:=h6
 have h7:∀q,q<l.1->1<=(l.2 q).parts/\(l.2 q).parts<=1000:=h7
 have hm:∀q,q<l.1->IntKind.i64.wrap (n*(l.2 q).parts)=n*(l.2 q).parts/\(n*(l.2 q).parts).tmod S=n*(l.2 q).parts%S/\0<=n*(l.2 q).parts%S/\n*(l.2 q).parts%S<S:=fun q hq=>by
  obtain⟨p1,p2⟩:=h7 q hq
  have a1:0<=n*(l.2 q).parts:=Int.mul_nonneg h3 (by omega)
  have a2:n*(l.2 q).parts<=23040*1000:=Int.mul_le_mul h4 p2 (by omega) (by omega)
  exact⟨AU (by omega) (by omega),Int.tmod_eq_emod_of_nonneg a1,Int.emod_nonneg _ (by omega),Int.emod_lt_of_pos _ h5⟩
 obtain⟨i1,i2,i3,i4⟩:=hm i h1
 obtain⟨k1,k2,k3,k4⟩:=hm k h2
 refine⟨by omega,by omega,by omega,by omega,by omega,by omega,?_⟩
 rw[i1,k1,i2,k2]
 exact AU (by omega) (by omega)
noncomputable def R5:At:=(An (Ag TI (Ag (DD IQ) (Ag (C5 Xf) AZ))) (fun a=>0<=a.1/\a.1<=23040/\1<=a.2.1.1/\a.2.1.1<=8/\∀q,q<a.2.1.1->1<=(a.2.1.2 q).parts/\(a.2.1.2 q).parts<=1000) fun a=> .view 1 a.2.1.1 fun i _=> .int .i64 (FM a.1 (fun i=>(a.2.1.2 i).parts) a.2.1.1 i)).mine 3
set_option maxHeartbeats 8000000 in
theorem Xy:Ah Tryz.prog G 141 R5:=by
 refine foT mixed (S:=[(142,Qy),(159,WF)]) (I:=[(158,Zs),(167,Zl),(173,YD)]) (X:=[]) (N:=[]) (C:=[]) (.cons Aax (.cons AcU .nil)) (.cons Tryz.func158 Acy (.cons Tryz.func167 Acl (.cons Tryz.func173 Aco .nil))) .nil Tryz.func141 Acn fun a hp hw=> ?_
 obtain⟨n,l,u,z⟩:=a
 obtain⟨h1,h2,h3,h4,h5⟩:=hp
 have h1:0<=n:=h1
 have h2:n<=23040:=h2
 have h3:1<=l.1:=h3
 have h4:l.1<=8:=h4
 have h5:∀q,q<l.1->1<=(l.2 q).parts/\(l.2 q).parts<=1000:=h5
 simp only[Ag,AZ,Xf,Nat.reduceSub,Nat.reducePow,go_sem]at hw
 simp only[Aab,Ag,AZ,Xf,hw,↓reduceIte,reduceCtorEq,Nat.reduceEqDiff,Nat.reduceAdd,Nat.reduceSub,Nat.reducePow,go_sem]
 have hpt:XP n (l.1,fun i=>(l.2 i).parts):=⟨h1,h2,h3,h4,h5⟩
 have hsum:∀k,k<=l.1->(k:Int)<=AS (fun i=>(l.2 i).parts) k/\AS (fun i=>(l.2 i).parts) k<=1000*k:=hpt.sum
 refine AK (ι:=Nat) (fun j=>j<=l.1) (fun j=>l.1-j) [3,4,5,6,7,8,18,19] (fun j=>[(20,.int .i64 j)]) (fun j=>[(3,.cells (.cons (.int .i64 (AS (fun i=>(l.2 i).parts) j)) .nil))]) 0 (Nat.zero_le _) (by simp only[AS,↓reduceIte,reduceCtorEq,Nat.reduceEqDiff,Nat.reduceLT,go_sem];try trivial) fun j hj=> ?_
 rcases Nat.lt_or_ge j l.1 with hlt|hge
 ·have f1:((j:Int)<(l.1:Int))=True:=eq_true (by omega)
  have s1:=hsum j (by omega)
  have s2:=h5 j hlt
  simp only[f1,Qy,An,Ag,AZ,↓reduceIte,reduceCtorEq,Nat.reduceEqDiff,Nat.reduceAdd,go_sem]
  refine⟨by omega,Ad (j+1) (by omega) (by omega) ?_⟩
  simp only[AS,↓reduceIte,reduceCtorEq,Nat.reduceEqDiff,Nat.reduceLT,go_sem]
  rw[BH (by omega),AU (by omega) (by omega)]
  try exact⟨rfl,rfl⟩
 have f1:((j:Int)<(l.1:Int))=False:=eq_false (by omega)
 simp only[f1,hw,Qy,An,Ag,AZ,↓reduceIte,reduceCtorEq,Nat.reduceEqDiff,Nat.reduceSub,Nat.reducePow,go_sem]
 obtain rfl:j=l.1:=by omega
 obtain⟨S,hS⟩:∃S,S=AS (fun i=>(l.2 i).parts) l.1:=⟨_,rfl⟩
 have hS0:=hsum l.1 (Nat.le_refl _)
 rw[<-hS]at hS0⊢
 have hfl:∀i,i<l.1->0<=DG n (fun i=>(l.2 i).parts) l.1 i/\DG n (fun i=>(l.2 i).parts) l.1 i<=n:=fun i hi=>by
  obtain⟨p1,p2⟩:=h5 i hi
  have a1:0<=n*(l.2 i).parts:=Int.mul_nonneg h1 (by omega)
  unfold DG
  rw[<-hS]
  refine⟨Int.ediv_nonneg a1 (by omega),?_⟩
  have h6:=(IZ (fun i=>(l.2 i).parts) l.1 fun i hi=>by have:=(h5 i hi).1;omega).2 i hi
  have h7:n*(l.2 i).parts<=n*S:=Int.mul_le_mul_of_nonneg_left (by rw[hS];exact h6) h1
  exact Int.ediv_le_of_le_mul (by omega) h7
 have hsf:∀j,j<=l.1->0<=AS (DG n (fun i=>(l.2 i).parts) l.1) j/\AS (DG n (fun i=>(l.2 i).parts) l.1) j<=n:=fun j hj=>by
  have h6:=EQ (f:=DG n (fun i=>(l.2 i).parts) l.1) (len:=l.1) (fun i hi=>(hfl i hi).1) (Nat.zero_le j) hj
  have h7:=EQ (f:=DG n (fun i=>(l.2 i).parts) l.1) (len:=l.1) (fun i hi=>(hfl i hi).1) hj (Nat.le_refl _)
  have h8:=LG (n:=n) (p:=fun i=>(l.2 i).parts) (k:=l.1) (by rw[<-hS];omega)
  unfold DI at h8
  rw[AS]at h6
  omega
 refine IF (ι:=Nat) (fun j=>j<=l.1) (fun j=>l.1-j) [3,4,5,7,30,31] (fun j=>[(32,.int .i64 j),(8,.int .i64 (n-AS (DG n (fun i=>(l.2 i).parts) l.1) j)),(11,.own (.n 4)),(12,.own (.n 5))]) (fun j=>[(4,.row 3 1 j fun i _=> .int .i64 (DG n (fun i=>(l.2 i).parts) l.1 i)),(5,.row 3 1 j fun i _=> .int .i64 i)]) 2 0 (Nat.zero_le _) (by simp only[AS,Int.sub_zero,↓reduceIte,reduceCtorEq,Nat.reduceEqDiff,Nat.reduceAdd,Nat.reduceLT,go_sem];try trivial) fun j hj=> ?_
 rcases Nat.lt_or_ge j l.1 with hlt|hge2
 ·have f2:((j:Int)<(l.1:Int))=True:=eq_true (by omega)
  obtain⟨p1,p2⟩:=h5 j hlt
  have a1:0<=n*(l.2 j).parts:=Int.mul_nonneg h1 (by omega)
  have a2:n*(l.2 j).parts<=23040*1000:=Int.mul_le_mul h2 p2 (by omega) (by omega)
  have m1:IntKind.i64.wrap (n*(l.2 j).parts)=n*(l.2 j).parts:=AU (by omega) (by omega)
  have m2:(n*(l.2 j).parts).tdiv S=DG n (fun i=>(l.2 i).parts) l.1 j:=by rw[Int.tdiv_eq_ediv_of_nonneg a1];unfold DG;rw[<-hS]
  have b:=hfl j hlt
  have m3:IntKind.i64.wrap (DG n (fun i=>(l.2 i).parts) l.1 j)=DG n (fun i=>(l.2 i).parts) l.1 j:=AU (by omega) (by omega)
  simp only[f2,m1,m2,m3,Nat.sub_self,↓reduceIte,reduceCtorEq,Nat.reduceEqDiff,Nat.reduceAdd,Nat.reduceSub,Nat.reduceLeDiff,Nat.reduceLT,Nat.reducePow,go_sem]
  repeat(with_reducible refine And.intro (by omega) ?_)
  have c1:=hsf j (by omega)
  have c2:=hsf (j+1) (by omega)
  rw[AS]at c2
  refine Ad (j+1) (by omega) (by omega) ?_
  simp only[AS,↓reduceIte,reduceCtorEq,Nat.reduceEqDiff,Nat.reduceLT,go_sem]
  rw[BH (by omega),AU (by omega) (by omega)]
  have one:∀(f:Nat->Int) (i:Nat),i<j+1->∀c:Nat,c<1->(if i<j then .int .i64 (f i)else Az (Az (.cons (.cons (.int .i64 (f j)) .nil) .nil) (i-j)) c)=Ae.int .i64 (f i):=fun f i hi c hc=>by
   by_cases e:i<j
   ·rw[if_pos e]
   obtain rfl:i=j:=by omega
   obtain rfl:c=0:=by omega
   rw[if_neg e,Nat.sub_self];rfl
  exact⟨rfl,by omega,one fun i=>(i:Int),one _⟩
 have f2:((j:Int)<(l.1:Int))=False:=eq_false (by omega)
 simp only[f2,Zs,Zl,YD,↓reduceIte,reduceCtorEq,Nat.reduceEqDiff,Nat.reduceAdd,go_sem]
 refine AK (ι:=Unit) (fun _=>True) (fun _=>0) [0,1,2,6,7,10] (fun _=>[(8,.int .i64 20)]) (fun _=>[]) () trivial (by simp only[↓reduceIte,reduceCtorEq,Nat.reduceEqDiff,Nat.reduceLT,go_sem];try trivial) fun _ _=> ?_
 obtain rfl:j=l.1:=by omega
 have f20:((20:Int)<=(l.1:Int))=False:=eq_false (by omega)
 simp only[f20,↓reduceIte,reduceCtorEq,Nat.reduceEqDiff,Nat.reduceAdd,Int.reduceAdd,go_sem]
 obtain⟨lt,hlt⟩:∃lt,lt=Xv n (fun i=>(l.2 i).parts) l.1:=⟨_,rfl⟩
 have ltb:∀a b:Nat,(lt a b=true)↔(n*(l.2 b).parts%S<n*(l.2 a).parts%S):=fun a b=>by rw[hlt];unfold Xv FN;rw[decide_eq_true_eq,<-hS]
 have swo:UN lt:=⟨fun a b c h1 h2=>by rw[ltb]at*;omega,fun a b c h=>by rw[ltb,ltb];rw[ltb]at h;omega,fun a=>by
  cases e:lt a a with
  |false=>rfl
  |true=>rw[ltb]at e;omega⟩
 have i1:AH lt [0]=[0]:=rfl
 rw[show IntKind.i64.wrap 1=((1:Nat):Int)from rfl]
 refine AK (ι:=Nat) (fun i=>1<=i/\i<=l.1) (fun i=>l.1-i) [0,1,2,3] (fun i=>[(8,.int .i64 i)]) (fun i=>[(5,.row 3 1 l.1 fun y _=> .int .i64 ((B6 (fun q=>q) 0 (AH lt (A5 (fun q=>q) 0 i)) y:Nat):Int))]) 1 ⟨Nat.le_refl _,h3⟩ (by
  have:B6 (fun q:Nat=>q) 0 (AH lt (A5 (fun q=>q) 0 1))=fun q=>q:=by
   have:=Cf (fun q:Nat=>q) 0 1
   have e:A5 (fun q:Nat=>q) 0 1=[0]:=rfl
   rw[e]at this⊢;rw[i1];exact this
  simp only[this,↓reduceIte,reduceCtorEq,Nat.reduceEqDiff,Nat.reduceLT,go_sem]
  try trivial) fun i hi=> ?_
 obtain⟨hi1,hi2⟩:=hi
 rcases Nat.lt_or_ge i l.1 with hil|hig
 ·have fi:((i:Int)<(l.1:Int))=True:=eq_true (by omega)
  simp only[fi,WF,An,Ag,AZ,Xf,↓reduceIte,reduceCtorEq,Nat.reduceEqDiff,go_sem]
  have hSrt:=DS (lt:=lt) swo (A5 (fun q=>q) 0 i)
  have hOlt:∀y∈AH lt (A5 (fun q=>q) 0 i),y<l.1:=fun y hy=>by
   rw[Gt]at hy
   obtain⟨q,hq,rfl⟩:=List.mem_map.1 hy
   have:=List.mem_range.1 hq
   show 0+q<l.1
   omega
  have hSl:(AH lt (A5 (fun q=>q) 0 i)).length=i:=by rw[Ds,Bu];omega
  have hnx:AH lt (A5 (fun q=>q) 0 (i+1))=CZ lt i (AH lt (A5 (fun q=>q) 0 i)):=by rw[<-Dy _ (show 0<=i by omega) (show i<=i+1 by omega),Ci,Ch]
  generalize AH lt (A5 (fun q=>q) 0 i)=O at*
  have hOm:∀t y,O[t]?=some y->y<l.1:=fun t y h=>hOlt y (List.mem_of_getElem? h)
  refine AK (ι:=Nat) (fun k=>k<=i/\∀t y,k<=t->O[t]?=some y->lt i y=true) (fun k=>k) [0,1,2,3,8] (fun k=>[(9,.int .i64 (k:Int))]) (fun k=>[(5,.row 3 1 l.1 fun y _=> .int .i64 ((DF (fun q=>q) 0 O i k y:Nat):Int))]) i ⟨Nat.le_refl _,fun t y h1 h2=>by have:=(List.getElem?_eq_some_iff.1 h2).1;omega⟩ (by
   have:DF (fun q=>q) 0 O i i=B6 (fun q=>q) 0 O:=by
    have:=Kf (fun q:Nat=>q) 0 O (i:=i) (by omega)
    rw[hSl]at this;exact this
   simp only[this,↓reduceIte,reduceCtorEq,Nat.reduceEqDiff,Nat.reduceLT,go_sem]
   try trivial) fun k hk=> ?_
  obtain⟨hk1,hk2⟩:=hk
  have gk:DF (fun q=>q) 0 O i k k=i:=by unfold DF;rw[if_neg (by omega),if_neg (by omega),if_pos (by omega)]
  have fin:(∀z,0<k->O[k-1]?=some z->¬lt i z=true)->DF (fun q=>q) 0 O i k=B6 (fun q=>q) 0 (AH lt (A5 (fun q=>q) 0 (i+1))):=fun h=>by
   rw[LO (fun q=>q) 0 O i (by omega),hnx,IV (lt:=lt) i O k (by omega) (fun t y ht hy=> ?_) fun y hy=>hk2 k y (Nat.le_refl _) hy]
   obtain⟨z,hz⟩:∃z,O[k-1]?=some z:=⟨_,List.getElem?_eq_getElem (show k-1<O.length by omega)⟩
   have h1:=h z (by omega) hz
   cases e:lt i y with
   |false=>rfl
   |true=>
    by_cases e2:t=k-1
    ·subst e2;rw[hy]at hz;cases hz;exact absurd e h1
    have h3:lt z y=false:=by
     obtain⟨q1,q2⟩:=List.getElem?_eq_some_iff.1 hy
     obtain⟨q3,q4⟩:=List.getElem?_eq_some_iff.1 hz
     have:=List.pairwise_iff_getElem.1 hSrt t (k-1) q1 q3 (by omega)
     rw[q2,q4]at this;exact this
    rcases swo.co _ z _ e with h4|h4
    ·exact absurd h4 h1
    rw[h3]at h4;cases h4
  rcases Nat.eq_zero_or_pos k with hk0|hk0
  ·subst hk0
   have f0:((0:Int)>0)=False:=eq_false (by omega)
   have fe:=fin fun z h=>absurd h (Nat.lt_irrefl 0)
   simp only[f0,Int.ofNat_zero,↓reduceIte,reduceCtorEq,Nat.reduceEqDiff,Nat.reduceSub,go_sem]
   refine Ad (i+1) ⟨by omega,by omega⟩ (by omega) ?_
   simp only[fe,↓reduceIte,reduceCtorEq,Nat.reduceEqDiff,Nat.reduceLT,go_sem]
   rw[BH (by omega)]
   try trivial
  obtain⟨z,hz⟩:∃z,O[k-1]?=some z:=⟨_,List.getElem?_eq_getElem (show k-1<O.length by omega)⟩
  have f0:((k:Int)>0)=True:=eq_true (by omega)
  have w1:IntKind.i64.wrap ((k:Int)-1)=((k-1:Nat):Int):=Xt (by omega) (by omega)
  have gk1:DF (fun q=>q) 0 O i k (k-1)=z:=by
   unfold DF;rw[if_neg (by omega),if_pos (by omega),List.getD_eq_getElem?_getD,show k-1-0=k-1 by omega,hz];rfl
  have hzl:=hOm _ z hz
  simp only[f0,w1,gk,gk1,Int.toNat_natCast,↓reduceIte,reduceCtorEq,Nat.reduceEqDiff,Nat.reduceAdd,Nat.reduceSub,go_sem]
  refine⟨by omega,by omega,by omega,by omega,⟨i,rfl,z,rfl,hil,hzl,h1,h2,by omega,by omega,h5⟩,fun h4=> ?_,fun h4=> ?_⟩
  ·have h4:lt i z=true:=(ltb i z).2 (by omega)
   repeat(with_reducible refine And.intro (by omega) ?_)
   refine Ad (k-1) ⟨by omega,fun t y ht hy=> ?_⟩ (by omega) ?_
   ·by_cases e2:t=k-1
    ·subst e2;rw[hz]at hy;cases hy;exact h4
    exact hk2 t y (by omega) hy
   simp only[↓reduceIte,reduceCtorEq,Nat.reduceEqDiff,Nat.reduceLT,go_sem]
   intro y hy b hb
   obtain rfl:b=0:=by omega
   rw[H5 (fun q:Nat=>q) 0 O i hk0 (by omega)]
   by_cases y1:y=k-1
   ·rw[if_pos ⟨y1,Nat.le_refl _,hb⟩,if_pos (by omega)];rfl
   rw[if_neg fun h=>y1 h.1,if_neg (show¬y=0+k-1 by omega)]
   by_cases y2:y=k
   ·rw[if_pos ⟨y2,Nat.le_refl _,hb⟩,if_pos (by omega),List.getD_eq_getElem?_getD,hz];rfl
   rw[if_neg fun h=>y2 h.1,if_neg (by omega)]
  have fe:=fin fun z' _ hz'=>by rw[hz]at hz';cases hz';rw[ltb];omega
  refine Ad (i+1) ⟨by omega,by omega⟩ (by omega) ?_
  simp only[fe,↓reduceIte,reduceCtorEq,Nat.reduceEqDiff,Nat.reduceLT,go_sem]
  rw[BH (by omega)]
  try trivial
 have fi:((i:Int)<(l.1:Int))=False:=eq_false (by omega)
 obtain rfl:i=l.1:=by omega
 simp only[fi,WF,An,Ag,AZ,Xf,↓reduceIte,reduceCtorEq,Nat.reduceEqDiff,go_sem]
 refine AK (ι:=Unit) (fun _=>True) (fun _=>0) [0,1,2] (fun _=>[(6,.int .i64 20)]) (fun _=>[]) () trivial (by simp only[↓reduceIte,reduceCtorEq,Nat.reduceEqDiff,Nat.reduceLT,go_sem];try trivial) fun _ _=> ?_
 have f20':((20:Int)<(l.1:Int))=False:=eq_false (by omega)
 have lf1:=LG (n:=n) (p:=fun i=>(l.2 i).parts) (k:=l.1) (by rw[<-hS];omega)
 have lf2:=Pu (n:=n) (p:=fun i=>(l.2 i).parts) (k:=l.1) (by omega) (by rw[<-hS];omega)
 unfold DI at lf1 lf2
 simp only[f20',↓reduceIte,reduceCtorEq,Nat.reduceEqDiff,Int.reduceToNat,Int.reduceLE,go_sem]
 refine⟨by omega,by omega,?_⟩
 obtain⟨T,hT⟩:∃T:Nat,n-AS (DG n (fun i=>(l.2 i).parts) l.1) l.1=T:=⟨(n-AS (DG n (fun i=>(l.2 i).parts) l.1) l.1).toNat,(Int.toNat_of_nonneg lf1).symm⟩
 have hTl:T<l.1:=by omega
 have hsg:A5 (fun q:Nat=>q) 0 l.1=List.range l.1:=by simp[A5]
 rw[hT,Int.sub_zero,Int.toNat_natCast,hsg,hlt]
 have hod:AH (Xv n (fun i=>(l.2 i).parts) l.1) (List.range l.1)=E6 n (fun i=>(l.2 i).parts) l.1 l.1:=rfl
 rw[hod]
 refine AK (ι:=Nat) (fun t=>t<=T) (fun t=>T-t) [11,63,64] (fun t=>[(65,.int .i64 t)]) (fun t=>[(4,.row 3 1 l.1 fun y _=> .int .i64 (DG n (fun i=>(l.2 i).parts) l.1 y+if MT n (fun i=>(l.2 i).parts) l.1 y<t then 1 else 0))]) 0 (Nat.zero_le _) (by
  simp only[Nat.not_lt_zero,Int.add_zero,↓reduceIte,reduceCtorEq,Nat.reduceEqDiff,Nat.reduceLT,go_sem]
  exact⟨rfl,by simp only[↓reduceIte,reduceCtorEq,Nat.reduceEqDiff,go_sem]⟩) fun t ht=> ?_
 rcases Nat.lt_or_ge t T with htl|htg
 ·have ft:((t:Int)<(T:Int))=True:=eq_true (by omega)
  obtain⟨b,b1,b2,b4,b3⟩:=Ux (n:=n) (p:=fun i=>(l.2 i).parts) (k:=l.1) (t:=t) (by omega)
  have gb:B6 (fun q=>q) 0 (E6 n (fun i=>(l.2 i).parts) l.1 l.1) t=b:=by
   have:=LI (fun q:Nat=>q) 0 _ b1
   rwa[Nat.zero_add]at this
  simp only[ft,gb,Int.toNat_natCast,↓reduceIte,reduceCtorEq,Nat.reduceEqDiff,go_sem]
  repeat(with_reducible refine And.intro (by omega) ?_)
  have bf:=hfl b b2
  refine Ad (t+1) (by omega) (by omega) ?_
  simp only[b4,↓reduceIte,reduceCtorEq,Nat.reduceEqDiff,Nat.reduceLT,go_sem]
  rw[BH (by omega),AU (by omega) (by omega)]
  have row:∀y,y<l.1->∀c:Nat,c<1->(if y=b/\0<=c/\c<1 then Az (.cons (.int .i64 (DG n (fun i=>(l.2 i).parts) l.1 b+0+1)) .nil) c else .int .i64 (DG n (fun i=>(l.2 i).parts) l.1 y+if MT n (fun i=>(l.2 i).parts) l.1 y<t then 1 else 0))=Ae.int .i64 (DG n (fun i=>(l.2 i).parts) l.1 y+if MT n (fun i=>(l.2 i).parts) l.1 y<t+1 then 1 else 0):=fun y hy c hc=>by
   obtain rfl:c=0:=by omega
   by_cases e:y=b
   ·rw[if_pos ⟨e,Nat.le_refl _,hc⟩,e,if_pos ((b3 b b2).2 (.inr rfl)),Int.add_zero];rfl
   rw[if_neg fun h=>e h.1]
   have:=b3 y hy
   by_cases e2:MT n (fun i=>(l.2 i).parts) l.1 y<t
   ·rw[if_pos e2,if_pos (this.2 (.inl e2))]
   rw[if_neg e2,if_neg fun h=>(this.1 h).elim e2 e]
  exact⟨rfl,⟨rfl,by simp only[↓reduceIte,reduceCtorEq,Nat.reduceEqDiff,go_sem]⟩,row⟩
 have ft:((t:Int)<(T:Int))=False:=eq_false (by omega)
 obtain rfl:t=T:=by omega
 simp only[ft,↓reduceIte,reduceCtorEq,Nat.reduceEqDiff,go_sem]
 have key:∀i,i<l.1->(DG n (fun i=>(l.2 i).parts) l.1 i+if MT n (fun i=>(l.2 i).parts) l.1 i<t then 1 else 0)=FM n (fun i=>(l.2 i).parts) l.1 i:=fun i hi=>by
  unfold FM DI
  rw[hT]
  show(_+if E1 _ _<t then(1:Int)else 0)=_
  congr 1
  by_cases e:E1 (fun j=>DR n (fun i=>(l.2 i).parts) l.1 j i) l.1<t
  ·rw[if_pos e,if_pos (by omega)]
  rw[if_neg e,if_neg (by omega)]
 exact⟨fun i hi _ _=>key i hi,.n 4,1,l.1,_,.inl ⟨rfl,rfl⟩,_,rfl,fun i hi j _=>⟨congrArg (Ae.int .i64) (key i hi).symm,rfl⟩⟩
end Go.Proofs.YtlieoghhkioflaaGreat
namespace Go.Proofs.YtlieoghhkioflaaGreat
open Go Go.RowKit
variable{p:Prop}
variable{G:Nat->Option (Nat×(Nat->Ae))}
def TPt{α:Type}(R:RT α):VT α where
 Is:=fun w=>∃c,w= .vptr R.k c/\R.W 1 fun _=>c
 of:=fun w=>match w with| .vptr _ c=>R.D (fun _=>c) 0|_=>R.D (fun _ _=> .und) 0
 enc:=fun a=> .vptr R.k (R.C a)
 h1:=by
  rintro w ⟨c,rfl,h⟩
  exact⟨c,rfl,fun j hj=>R.h1 1 (fun _=>c) h 0 Nat.zero_lt_one j hj⟩
 h2:=fun a=>congrFun (R.h2 fun _=>a) 0
def TPu:VT Tu:=TPt Z7
def Z6:VT De:=TPt GD
theorem QD(a b:Int):TPu.Is (.vptr 2 (Az (.cons (.int .i64 a) (.cons (.int .i64 b) .nil))))=True:=eq_true ⟨_,rfl,fun _ _=>⟨rfl,rfl⟩⟩
theorem QK(a b:Int):TPu.of (.vptr 2 (Az (.cons (.int .i64 a) (.cons (.int .i64 b) .nil))))=⟨a,b⟩:=rfl
theorem QJ(a b c d e f g h:Int)(n:Nat)(q:Nat->Hr):Z6.Is (.vptr 9 (Az (.cons (.int .i64 a) (.cons (.int .i64 b) (.cons (.int .u8 c) (.cons (.int .i64 d) (.cons (.int .i64 e) (.cons (.int .i64 f) (.cons (.int .i64 g) (.cons (.int .i64 h) (.cons (.view 2 n fun i j=>(q i).c j) .nil)))))))))))=True:=eq_true ⟨_,rfl,fun _ _=>⟨rfl,rfl,rfl,rfl,rfl,rfl,rfl,rfl,rfl,fun i _=>of_eq_true (Hr.w_c (q i))⟩⟩
theorem Re(a b c d e f g h:Int)(n:Nat)(q:Nat->Hr):Z6.of (.vptr 9 (Az (.cons (.int .i64 a) (.cons (.int .i64 b) (.cons (.int .u8 c) (.cons (.int .i64 d) (.cons (.int .i64 e) (.cons (.int .i64 f) (.cons (.int .i64 g) (.cons (.int .i64 h) (.cons (.view 2 n fun i j=>(q i).c j) .nil)))))))))))=⟨a,b,c,d,e,⟨f,g⟩,h,(n,q)⟩:=rfl
theorem Wd(a:Tu):TPu.enc a= .vptr 2 a.c:=rfl
theorem Vq(a:De):Z6.enc a= .vptr 9 a.c:=rfl
attribute [go_sem] QD QK QJ Re Wd Vq
inductive HD where
 |cut (c:Int)|fro (t:Tu)|til (t:Tu)|his (x:De)|bus (x:De)|dth (x:De)|at(m:Int)
def HD.T:HD->Pi->Prop
 | .cut c,p=>p.turn.fro<c/\c<p.turn.til
 | .fro t,p=>p.turn.fro=t.fro
 | .til t,p=>p.turn.til=t.til
 | .his x,p=>p.owner≠x.fro
 | .bus x,p=>p.lent≠0/\x.day<p.til
 | .dth x,p=>p.owner=x.fro
 | .at m,p=>p.turn.fro<=m/\m<p.turn.til
noncomputable def T8:At:=An (Ag RR (Ag (UQ TI) AZ)) (fun _=>True) fun a=> .bool (A4 (a.1.turn.fro<a.2.1/\a.2.1<a.1.turn.til))
noncomputable def ZC:At:=An (Ag RR (Ag (UQ TI) AZ)) (fun _=>True) fun a=> .bool (A4 (a.1.turn.fro<=a.2.1/\a.2.1<a.1.turn.til))
noncomputable def Y5:At:=An (Ag RR (Ag TPu AZ)) (fun _=>True) fun a=> .bool (A4 (a.1.turn.fro=a.2.1.fro))
noncomputable def Yx:At:=An (Ag RR (Ag TPu AZ)) (fun _=>True) fun a=> .bool (A4 (a.1.turn.til=a.2.1.til))
noncomputable def Ue:At:=An (Ag RR (Ag Z6 AZ)) (fun _=>True) fun a=> .bool (A4 (a.1.owner≠a.2.1.fro))
noncomputable def UF:At:=An (Ag RR (Ag Z6 AZ)) (fun _=>True) fun a=> .bool (A4 (a.1.lent≠0/\a.2.1.day<a.1.til))
noncomputable def UM:At:=An (Ag RR (Ag Z6 AZ)) (fun _=>True) fun a=> .bool (A4 (a.1.owner=a.2.1.fro))
noncomputable def Mq:At:=An (Ag RR (Ag TI AZ)) (fun _=>True) fun a=> .bool (A4 (a.1.lent≠0/\a.2.1<a.1.til))
theorem Pp [Decidable p]:decide p=A4 p:=by
 by_cases h:p
 ·rw[decide_eq_true h,As h]
 rw[decide_eq_false h,Am h]
theorem Lt{q:Prop}[Decidable q](h:p):decide q=A4 (p/\q):=by rw[Pp];exact DZ ⟨fun k=>⟨h,k⟩,fun k=>k.2⟩
theorem Qa{q:Prop}(h:¬p):false=A4 (p/\q):=(Am fun k=>h k.1).symm
theorem Abz:Ah Tryz.prog G 160 T8:=by
 refine Ib mixed (S:=[]) (I:=[]) (X:=[]) (N:=[]) (C:=[]) .nil .nil .nil Tryz.func160 AcN fun a hp hw=> ?_
 obtain⟨p,c,u⟩:=a
 simp only[AbI,Ag,AZ,↓reduceIte,reduceCtorEq,Nat.reduceEqDiff,Nat.reduceAdd,Nat.reduceLeDiff,go_sem]
 exact⟨fun h=>Lt h,fun h=>Qa h⟩
theorem AcC:Ah Tryz.prog G 58 ZC:=by
 refine Ib mixed (S:=[]) (I:=[]) (X:=[]) (N:=[]) (C:=[]) .nil .nil .nil Tryz.func58 c58 fun a hp hw=> ?_
 obtain⟨p,c,u⟩:=a
 simp only[a58,Ag,AZ,↓reduceIte,reduceCtorEq,Nat.reduceEqDiff,Nat.reduceAdd,Nat.reduceLeDiff,go_sem]
 exact⟨fun h=>Lt h,fun h=>Qa h⟩
theorem Xj:Ah Tryz.prog G 86 Mq:=by
 refine Ib mixed (S:=[]) (I:=[]) (X:=[]) (N:=[]) (C:=[]) .nil .nil .nil Tryz.func86 c86 fun a hp hw=> ?_
 obtain⟨p,c,u⟩:=a
 simp only[a86,Ag,AZ,↓reduceIte,reduceCtorEq,Nat.reduceEqDiff,Nat.reduceAdd,Nat.reduceLeDiff,go_sem]
 exact⟨fun h=>Lt h,fun h=>(Am fun k=>k.1 h).symm⟩
theorem Yr{a b:Int}:(a !=b)=A4 (a≠b):=by
 by_cases h:a=b
 ·subst h;rw[Am (fun k=>k rfl)];simp
 rw[As h];simp[h]
theorem Oz{a b:Int}:(a==b)=A4 (a=b):=by
 by_cases h:a=b
 ·subst h;rw[As rfl];simp
 rw[Am h];simp[h]
theorem Ach:Ah Tryz.prog G 170 Y5:=by
 refine Ib mixed (S:=[]) (I:=[]) (X:=[]) (N:=[]) (C:=[]) .nil .nil .nil Tryz.func170 Acu fun a hp hw=> ?_
 obtain⟨p,c,u⟩:=a
 simp only[Aae,Ag,AZ,↓reduceIte,reduceCtorEq,Nat.reduceEqDiff,Nat.reduceAdd,Nat.reduceLeDiff,go_sem]
 exact Oz
theorem AbZ:Ah Tryz.prog G 171 Yx:=by
 refine Ib mixed (S:=[]) (I:=[]) (X:=[]) (N:=[]) (C:=[]) .nil .nil .nil Tryz.func171 Acb fun a hp hw=> ?_
 obtain⟨p,c,u⟩:=a
 simp only[Aaq,Ag,AZ,↓reduceIte,reduceCtorEq,Nat.reduceEqDiff,Nat.reduceAdd,Nat.reduceSub,Nat.reduceLeDiff,go_sem]
 exact Oz
theorem AaD:Ah Tryz.prog G 163 Ue:=by
 refine Ib mixed (S:=[]) (I:=[]) (X:=[]) (N:=[]) (C:=[]) .nil .nil .nil Tryz.func163 AbV fun a hp hw=> ?_
 obtain⟨p,c,u⟩:=a
 simp only[Abx,Ag,AZ,↓reduceIte,reduceCtorEq,Nat.reduceEqDiff,Nat.reduceAdd,Nat.reduceSub,Nat.reduceLeDiff,go_sem]
 exact Yr
theorem Abd:Ah Tryz.prog G 143 UM:=by
 refine Ib mixed (S:=[]) (I:=[]) (X:=[]) (N:=[]) (C:=[]) .nil .nil .nil Tryz.func143 Ac5 fun a hp hw=> ?_
 obtain⟨p,c,u⟩:=a
 simp only[Abr,Ag,AZ,↓reduceIte,reduceCtorEq,Nat.reduceEqDiff,Nat.reduceAdd,Nat.reduceSub,Nat.reduceLeDiff,go_sem]
 exact Oz
theorem Aal:Ah Tryz.prog G 147 UF:=by
 refine Ib mixed (S:=[(86,Mq)]) (I:=[]) (X:=[]) (N:=[]) (C:=[]) (.cons Xj .nil) .nil .nil Tryz.func147 AcT fun a hp hw=> ?_
 obtain⟨p,c,u⟩:=a
 simp only[AbF,Mq,An,Ag,AZ,↓reduceIte,reduceCtorEq,Nat.reduceEqDiff,Nat.reduceAdd,Nat.reduceSub,Nat.reduceLeDiff,go_sem]
end Go.Proofs.YtlieoghhkioflaaGreat
namespace Go.Proofs.YtlieoghhkioflaaGreat
open Go Go.RowKit
variable{G:Nat->Option (Nat×(Nat->Ae))}
def HD.enc:HD->Ae
 | .cut c=> .func (.func 160) (.cons (.vptr 1 (Az (.cons (.int .i64 c) .nil))) .nil)
 | .fro t=> .func (.func 170) (.cons (.vptr 2 (Az t.L)) .nil)
 | .til t=> .func (.func 171) (.cons (.vptr 2 (Az t.L)) .nil)
 | .his x=> .func (.func 163) (.cons (.vptr 9 (Az x.L)) .nil)
 | .bus x=> .func (.func 147) (.cons (.vptr 9 (Az x.L)) .nil)
 | .dth x=> .func (.func 143) (.cons (.vptr 9 (Az x.L)) .nil)
 | .at c=> .func (.func 58) (.cons (.vptr 1 (Az (.cons (.int .i64 c) .nil))) .nil)
def HD.dec:Ae->HD
 | .func (.func i) (.cons (.vptr _ c) .nil)=>
  if i=160 then .cut (c 0).toInt else if i=170 then .fro ⟨(c 0).toInt,(c 1).toInt⟩else if i=171 then .til ⟨(c 0).toInt,(c 1).toInt⟩
  else if i=163 then .his (De.d c)else if i=147 then .bus (De.d c)else if i=143 then .dth (De.d c)else .at (c 0).toInt
 |_=> .at 0
theorem HD.dec_enc:∀q:HD,HD.dec q.enc=q
 | .cut _| .fro _| .til _| .his _| .bus _| .dth _| .at _=>rfl
def Mo:VT HD where
 Is:=fun v=>v=(HD.dec v).enc
 of:=HD.dec
 enc:=HD.enc
 h1:=fun v h=>by rw[<-h];exact B7 _
 h2:=HD.dec_enc
theorem Kc(q:HD):Mo.Is q.enc=True:=eq_true (by show q.enc=(HD.dec q.enc).enc;rw[HD.dec_enc])
theorem WQ(c:Int):Mo.Is (.func (.func 160) (.cons (.vptr 1 (Az (.cons (.int .i64 c) .nil))) .nil))=True:=Kc (.cut c)
theorem OI(c:Int):Mo.of (.func (.func 160) (.cons (.vptr 1 (Az (.cons (.int .i64 c) .nil))) .nil))= .cut c:=rfl
theorem Zq(c:Int):Mo.Is (.func (.func 58) (.cons (.vptr 1 (Az (.cons (.int .i64 c) .nil))) .nil))=True:=Kc (.at c)
theorem Qu(c:Int):Mo.of (.func (.func 58) (.cons (.vptr 1 (Az (.cons (.int .i64 c) .nil))) .nil))= .at c:=rfl
theorem Wz(a b:Int):Mo.Is (.func (.func 170) (.cons (.vptr 2 (Az (.cons (.int .i64 a) (.cons (.int .i64 b) .nil)))) .nil))=True:=Kc (.fro ⟨a,b⟩)
theorem Ot(a b:Int):Mo.of (.func (.func 170) (.cons (.vptr 2 (Az (.cons (.int .i64 a) (.cons (.int .i64 b) .nil)))) .nil))= .fro ⟨a,b⟩:=rfl
theorem VK(a b:Int):Mo.Is (.func (.func 171) (.cons (.vptr 2 (Az (.cons (.int .i64 a) (.cons (.int .i64 b) .nil)))) .nil))=True:=Kc (.til ⟨a,b⟩)
theorem Od(a b:Int):Mo.of (.func (.func 171) (.cons (.vptr 2 (Az (.cons (.int .i64 a) (.cons (.int .i64 b) .nil)))) .nil))= .til ⟨a,b⟩:=rfl
section
variable(a b c d e f g h:Int)(n:Nat)(q:Nat->Hr)
theorem WX:Mo.Is (.func (.func 163) (.cons (.vptr 9 (Az (.cons (.int .i64 a) (.cons (.int .i64 b) (.cons (.int .u8 c) (.cons (.int .i64 d) (.cons (.int .i64 e) (.cons (.int .i64 f) (.cons (.int .i64 g) (.cons (.int .i64 h) (.cons (.view 2 n fun i j=>(q i).c j) .nil))))))))))) .nil))=True:=Kc (.his ⟨a,b,c,d,e,⟨f,g⟩,h,(n,q)⟩)
theorem OR:Mo.of (.func (.func 163) (.cons (.vptr 9 (Az (.cons (.int .i64 a) (.cons (.int .i64 b) (.cons (.int .u8 c) (.cons (.int .i64 d) (.cons (.int .i64 e) (.cons (.int .i64 f) (.cons (.int .i64 g) (.cons (.int .i64 h) (.cons (.view 2 n fun i j=>(q i).c j) .nil))))))))))) .nil))= .his ⟨a,b,c,d,e,⟨f,g⟩,h,(n,q)⟩:=rfl
theorem WR:Mo.Is (.func (.func 147) (.cons (.vptr 9 (Az (.cons (.int .i64 a) (.cons (.int .i64 b) (.cons (.int .u8 c) (.cons (.int .i64 d) (.cons (.int .i64 e) (.cons (.int .i64 f) (.cons (.int .i64 g) (.cons (.int .i64 h) (.cons (.view 2 n fun i j=>(q i).c j) .nil))))))))))) .nil))=True:=Kc (.bus ⟨a,b,c,d,e,⟨f,g⟩,h,(n,q)⟩)
theorem O5:Mo.of (.func (.func 147) (.cons (.vptr 9 (Az (.cons (.int .i64 a) (.cons (.int .i64 b) (.cons (.int .u8 c) (.cons (.int .i64 d) (.cons (.int .i64 e) (.cons (.int .i64 f) (.cons (.int .i64 g) (.cons (.int .i64 h) (.cons (.view 2 n fun i j=>(q i).c j) .nil))))))))))) .nil))= .bus ⟨a,b,c,d,e,⟨f,g⟩,h,(n,q)⟩:=rfl
theorem Ww:Mo.Is (.func (.func 143) (.cons (.vptr 9 (Az (.cons (.int .i64 a) (.cons (.int .i64 b) (.cons (.int .u8 c) (.cons (.int .i64 d) (.cons (.int .i64 e) (.cons (.int .i64 f) (.cons (.int .i64 g) (.cons (.int .i64 h) (.cons (.view 2 n fun i j=>(q i).c j) .nil))))))))))) .nil))=True:=Kc (.dth ⟨a,b,c,d,e,⟨f,g⟩,h,(n,q)⟩)
theorem O7:Mo.of (.func (.func 143) (.cons (.vptr 9 (Az (.cons (.int .i64 a) (.cons (.int .i64 b) (.cons (.int .u8 c) (.cons (.int .i64 d) (.cons (.int .i64 e) (.cons (.int .i64 f) (.cons (.int .i64 g) (.cons (.int .i64 h) (.cons (.view 2 n fun i j=>(q i).c j) .nil))))))))))) .nil))= .dth ⟨a,b,c,d,e,⟨f,g⟩,h,(n,q)⟩:=rfl
end
theorem U3(q:HD):Mo.enc q=q.enc:=rfl
attribute [go_sem] WQ OI Zq Qu Wz Ot VK Od WX OR WR O5 Ww O7 U3
noncomputable def HY(P:Nat×(Nat->Pi))(q:HD):Int:=if Cn (fun i=>q.T (P.2 i)) P.1<P.1 then(Cn (fun i=>q.T (P.2 i)) P.1:Nat)else-1
noncomputable def MY:At:=An (Ag (DD Mp) (Ag Mo AZ)) (fun a=>a.1.1<=100000) fun a=> .int .i64 (HY a.1 a.2.1)
noncomputable def Rc:At:=An (Ag (DD Mp) (Ag Mo AZ)) (fun a=>a.1.1<=100000) fun a=> .bool (A4 (∃i,i<a.1.1/\a.2.1.T (a.1.2 i)))
noncomputable abbrev SPq:List (FuncId×At):=[(160,T8),(58,ZC),(170,Y5),(171,Yx),(163,Ue),(147,UF),(143,UM)]
theorem Qo{P:Nat×(Nat->Pi)}{q:HD}{j:Nat}(hj:j<P.1)(h:q.T (P.2 j))(h0:∀i,i<j->¬q.T (P.2 i)):HY P q=(j:Int):=by
 have:=CN (p:=fun i=>q.T (P.2 i)) hj h h0
 unfold HY;rw[this,if_pos hj]
theorem Q8{P:Nat×(Nat->Pi)}{q:HD}(h0:∀i,i<P.1->¬q.T (P.2 i)):HY P q= -1:=by
 unfold HY
 rcases Bi (fun i=>q.T (P.2 i)) P.1 with⟨h1,h2,_⟩|⟨h1,_⟩
 ·exact absurd h2 (h0 _ h1)
 rw[if_neg (by omega)]
set_option maxHeartbeats 4000000 in
theorem ZN:Ah Tryz.prog G 57 MY:=by
 refine Ib mixed (S:=SPq) (I:=[]) (X:=[]) (N:=[]) (C:=[]) (.cons Abz (.cons AcC (.cons Ach (.cons AbZ (.cons AaD (.cons Aal (.cons Abd .nil))))))) .nil .nil Tryz.func57 c57 fun a hp hw=> ?_
 obtain⟨P,q,u⟩:=a
 have hP:P.1<=100000:=hp
 have hw1:(P.1<=9223372036854775807)=True:=eq_true (by omega)
 simp only[a57,Ag,AZ,hw1,↓reduceIte,reduceCtorEq,Nat.reduceSub,Int.reduceNeg,Nat.reducePow,go_sem]
 refine AK (ι:=Nat) (fun j=>j<=P.1/\∀i,i<j->¬q.T (P.2 i)) (fun j=>P.1-j) [0,1,7] (fun j=>[(8,.int .i64 j)]) (fun _=>[]) 0 ⟨by omega,fun i h=>by omega⟩ (by cases q<;>simp only[HD.enc,↓reduceIte,reduceCtorEq,Nat.reduceEqDiff,go_sem]<;>try rfl) fun j hj=> ?_
 obtain⟨hj1,hj2⟩:=hj
 rcases Nat.lt_or_ge j P.1 with hlt|hge
 ·have f1:((j:Int)<(P.1:Int))=True:=eq_true (by omega)
  have yes:q.T (P.2 j)->HY P q=(j:Int):=fun h=>Qo hlt h hj2
  have no:¬q.T (P.2 j)->∀i,i<j+1->¬q.T (P.2 i):=fun h i hi=>by
   by_cases e:i=j
   ·subst e;exact h
   exact hj2 i (by omega)
  cases q
  all_goals
   simp only[HD.enc,f1,hw1,T8,ZC,Y5,Yx,Ue,UF,UM,An,Ag,AZ,↓reduceIte,reduceCtorEq,Nat.reduceEqDiff,Nat.reduceAdd,Nat.reduceSub,Int.reduceNeg,Nat.reducePow,go_sem]
   refine⟨by omega,fun h=>(yes (MC h)).symm,fun h=> ?_⟩
   refine Ad (j+1) ⟨by omega,no (M1 h)⟩ (by omega) ?_
   simp only[↓reduceIte,reduceCtorEq,Nat.reduceEqDiff,go_sem]
   rw[BH (by omega)]
   try trivial
 have f1:((j:Int)<(P.1:Int))=False:=eq_false (by omega)
 obtain rfl:j=P.1:=by omega
 simp only[f1,Q8 hj2,↓reduceIte,reduceCtorEq,Nat.reduceEqDiff,Int.reduceNeg,go_sem]
theorem W7(P:Nat×(Nat->Pi))(q:HD):decide (HY P q≥0)=A4 (∃i,i<P.1/\q.T (P.2 i)):=by
 rw[Pp]
 refine DZ ?_
 unfold HY
 rcases Bi (fun i=>q.T (P.2 i)) P.1 with⟨h1,h2,_⟩|⟨h1,h2⟩
 ·rw[if_pos h1];exact⟨fun _=>⟨_,h1,h2⟩,fun _=>by omega⟩
 rw[if_neg (by omega)];exact⟨fun h=>by omega,fun⟨i,hi,k⟩=>absurd k (h2 i hi)⟩
set_option maxHeartbeats 4000000 in
theorem Aau:Ah Tryz.prog G 146 Rc:=by
 refine Ib mixed (S:=[(57,MY)]) (I:=[]) (X:=[]) (N:=[]) (C:=[]) (.cons ZN .nil) .nil .nil Tryz.func146 AcY fun a hp hw=> ?_
 obtain⟨P,q,u⟩:=a
 have hP:P.1<=100000:=hp
 have hw1:(P.1<=9223372036854775807)=True:=eq_true (by omega)
 cases q
 all_goals
  simp only[Abg,HD.enc,MY,An,Ag,AZ,hw1,W7,↓reduceIte,reduceCtorEq,Nat.reduceEqDiff,Nat.reduceSub,Nat.reducePow,go_sem]
  try exact hP
end Go.Proofs.YtlieoghhkioflaaGreat
