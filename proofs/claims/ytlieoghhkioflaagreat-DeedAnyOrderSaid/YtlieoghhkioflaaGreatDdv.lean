/- Deeds: parts, the program's. No condition. -/
import Derived.Test.YtlieoghhkioflaaGreatDin
import Derived.Test.YtlieoghhkioflaaGreatDr2
import Derived.Test.YtlieoghhkioflaaGreatSoB
import Derived.Test.YtlieoghhkioflaaGreatACode1
set_option linter.unusedSimpArgs false
set_option linter.unusedVariables false
set_option maxRecDepth 100000
namespace Go.Proofs.YtlieoghhkioflaaGreat
open Go Go.RowKit
variable{α:Type}
variable{G:Nat->Option (Nat×(Nat->Ad))}
section
variable{P:Program}
theorem QF{E:Db}(hmix:P.follows .mixedOrders=true)(hS:∀id s,E.S id=some s->Ah P E.G id s)(hI:∀id af,E.I id=some af->∃fn,P.funcs[id]?=some fn/\Aw P fn=some af)(hX:∀id pz s,E.X id=some (pz,s)->Cy P E.G id pz s)(hC:∀id T k,E.C id=some (T,k)->D7 P id T k){id:FuncId}{fn:Func}{af:Ax}{s:As}(hfn:P.funcs[id]?=some fn)(hcf:Aw P fn=some af)
  (h:∀vs,s.pre vs->∃vs',AB (vl vs') (vl vs)/\s.res vs'=s.res vs/\(FT (vl vs')->∃n,AA E (fun v bx=>GR s.own v bx (s.res vs')) n [.code af.code] [] af.res (params 0 vs') [] 0)):Ah P E.G id s:=by
 simp only[Bq]at h
 have hok:Ah P E.G id ⟨fun vs'=>FT (vl vs')->∃n,run E (fun v bx=>GR s.own v bx (s.res vs')) n [.code af.code] [] af.res (params 0 vs') [] 0,s.res,s.own⟩:=
  Ju hmix hS hI hX hC hfn hcf fun vs hp hw=>hp hw
 refine⟨hok.ent,fun A w vs cs hG hr hp=> ?_⟩
 obtain⟨vs',h1,h2,h3⟩:=h vs hp
 have:=hok.run A w vs' cs hG (BE _ _ _ h1 hr) h3
 simp only[h2]at this
 exact this
theorem foT{G:Nat->Option (Nat×(Nat->Ad))}{S:List (FuncId×As)}{I:List (FuncId×Ax)}{X:List (FuncId×Nat×As)}{N:List TypeId}{C:List (FuncId×Option (TypeId×IntKind))}{id:FuncId}{fn:Func}{af:Ax}{t:AT α}(hmix:P.follows .mixedOrders=true)(hS:Lw P G S)(hI:LL P I)(hX:Vi P G X)(hfn:P.funcs[id]?=some fn)(hcf:Aw P fn=some af){e:TypeId}{pre:α->Prop}{res:α->Ad}
  (h:∀a,pre a->FT (vl (t.enc a))->AA (LI G S I X N C) (fun v bx=>GR (some e) v bx (res a)) 100000 [.code af.code] [] af.res (params 0 (t.enc a)) [] 0) (hC:S7 P C:=by first|exact .nil|exact .frz .nil):Ah P G id ((Ak t pre res).mine e):=
 QF (E:=LI G S I X N C) hmix hS.get hI.get hX.get hC.get hfn hcf fun vs hp=>⟨t.enc (t.of vs),t.h1 vs hp.1,by simp only[As.mine,Ak,t.h2],fun hw=>⟨100000,by simp only[As.mine,Ak,t.h2];exact h _ hp.2 hw⟩⟩
end
def Vg(t:VT α):VT α where
 Is:=fun w=>∃v,w= .vptr 1 (Az (.cons v .nil))/\t.Is v
 of:=fun w=>match w with| .vptr _ f=>t.of (f 0)|_=>t.of .und
 enc:=fun a=> .vptr 1 (Az (.cons (t.enc a) .nil))
 h1:=by
  rintro w ⟨v,rfl,h⟩
  have:=t.h1 v h
  show AB (.vptr 1 (Az (.cons (t.enc (t.of v)) .nil))) (.vptr 1 (Az (.cons v .nil)))
  refine⟨_,rfl,fun j hj=> ?_⟩
  obtain rfl:j=0:=by omega
  exact this
 h2:=fun a=>t.h2 a
theorem YU(t:VT α)(v:Ad):(Vg t).Is (.vptr 1 (Az (.cons v .nil)))=t.Is v:=by
 apply propext
 constructor
 ·rintro⟨w,h,k⟩
  have h2:Az (.cons v .nil)=Az (.cons w .nil):=by injection h
  have:v=w:=congrFun h2 0
  rw[this];exact k
 exact fun k=>⟨v,rfl,k⟩
theorem Zm(t:VT α)(v:Ad):(Vg t).of (.vptr 1 (Az (.cons v .nil)))=t.of v:=rfl
theorem Vq(t:VT α)(a:α):(Vg t).enc a= .vptr 1 (Az (.cons (t.enc a) .nil)):=rfl
attribute [go_sem] YU Zm Vq
def XR:Ad:= .func (.func 142) .nil
noncomputable def RL:As:=Ak (Ag THr AZ) (fun _=>True) fun a=> .int .i64 a.1.parts
theorem AbB:Ah Tryz.prog G 142 RL:=by
 refine Ij mixed (S:=[]) (I:=[]) (X:=[]) (N:=[]) (C:=[]) .nil .nil .nil Tryz.func142 AbT fun a _ hw=> ?_
 simp only[Aaj,Ag,AZ,↓reduceIte,reduceCtorEq,Nat.reduceEqDiff,Nat.reduceAdd,go_sem]
noncomputable def WY:As:=Ak (Ag TI (Ag TI (Ag (Vg TI) (Ag (Vg (C8 XR)) (Ag (Vg (Dv IY)) (Ag (Vg TI) AZ)))))) (fun a=>∃i k:Nat,a.1=i/\a.2.1=k/\i<a.2.2.2.2.1.1/\k<a.2.2.2.2.1.1/\0<=a.2.2.1/\a.2.2.1<=23040/\0<a.2.2.2.2.2.1/\a.2.2.2.2.2.1<=10000/\(∀q,q<a.2.2.2.2.1.1->1<=(a.2.2.2.2.1.2 q).parts/\(a.2.2.2.2.1.2 q).parts<=1000)) fun a=> .int .i64 (a.2.2.1*(a.2.2.2.2.1.2 a.2.1.toNat).parts%a.2.2.2.2.2.1-a.2.2.1*(a.2.2.2.2.1.2 a.1.toNat).parts%a.2.2.2.2.2.1)
theorem AbN:Ah Tryz.prog G 159 WY:=by
 refine Ij mixed (S:=[(142,RL)]) (I:=[]) (X:=[]) (N:=[]) (C:=[]) (.cons AbB .nil) .nil .nil Tryz.func159 AcG fun a hp hw=> ?_
 obtain⟨x,y,n,u,l,S,z⟩:=a
 obtain⟨i,k,rfl,rfl,h1,h2,h3,h4,h5,h6,h7⟩:=hp
 simp only[Aaf,RL,Ak,XR,Ag,AZ,Int.toNat_natCast,↓reduceIte,reduceCtorEq,Nat.reduceEqDiff,Nat.reduceAdd,go_sem]
 have h1:i<l.1:=h1
 have h2:k<l.1:=h2
 have h3:0<=n:=h3
 have h4:n<=23040:=h4
 have h5:0<S:=h5
 have h6:S<=10000:=h6
 have h7:∀q,q<l.1->1<=(l.2 q).parts/\(l.2 q).parts<=1000:=h7
 have hm:∀q,q<l.1->IntKind.i64.wrap (n*(l.2 q).parts)=n*(l.2 q).parts/\(n*(l.2 q).parts).tmod S=n*(l.2 q).parts%S/\0<=n*(l.2 q).parts%S/\n*(l.2 q).parts%S<S:=fun q hq=>by
  obtain⟨p1,p2⟩:=h7 q hq
  have a1:0<=n*(l.2 q).parts:=Int.mul_nonneg h3 (by omega)
  have a2:n*(l.2 q).parts<=23040*1000:=Int.mul_le_mul h4 p2 (by omega) (by omega)
  exact⟨AU (by omega) (by omega),Int.tmod_eq_emod_of_nonneg a1,Int.emod_nonneg _ (by omega),Int.emod_lt_of_pos _ h5⟩
 obtain⟨i1,i2,i3,i4⟩:=hm i h1
 obtain⟨k1,k2,k3,k4⟩:=hm k h2
 refine⟨by omega,by omega,by omega,by omega,by omega,by omega,?_⟩
 rw[i1,k1,i2,k2]
 exact AU (by omega) (by omega)
noncomputable def TV:As:=(Ak (Ag TI (Ag (Dv IY) (Ag (C8 XR) AZ))) (fun a=>0<=a.1/\a.1<=23040/\1<=a.2.1.1/\a.2.1.1<=8/\∀q,q<a.2.1.1->1<=(a.2.1.2 q).parts/\(a.2.1.2 q).parts<=1000) fun a=> .view 1 a.2.1.1 fun i _=> .int .i64 (FH a.1 (fun i=>(a.2.1.2 i).parts) a.2.1.1 i)).mine 3
set_option maxHeartbeats 8000000 in
theorem XG:Ah Tryz.prog G 141 TV:=by
 refine foT mixed (S:=[(142,RL),(159,WY)]) (I:=[(158,X8),(167,ZT),(173,Yx)]) (X:=[]) (N:=[]) (C:=[]) (.cons AbB (.cons AbN .nil)) (.cons Tryz.func158 Ac6 (.cons Tryz.func167 Ac1 (.cons Tryz.func173 Acj .nil))) .nil Tryz.func141 Ab6 fun a hp hw=> ?_
 obtain⟨n,l,u,z⟩:=a
 obtain⟨h1,h2,h3,h4,h5⟩:=hp
 have h1:0<=n:=h1
 have h2:n<=23040:=h2
 have h3:1<=l.1:=h3
 have h4:l.1<=8:=h4
 have h5:∀q,q<l.1->1<=(l.2 q).parts/\(l.2 q).parts<=1000:=h5
 simp only[Ag,AZ,XR,Nat.reduceSub,Nat.reducePow,go_sem]at hw
 simp only[Aba,Ag,AZ,XR,hw,↓reduceIte,reduceCtorEq,Nat.reduceEqDiff,Nat.reduceAdd,Nat.reduceSub,Nat.reducePow,go_sem]
 have hpt:ZR n (l.1,fun i=>(l.2 i).parts):=⟨h1,h2,h3,h4,h5⟩
 have hsum:∀k,k<=l.1->(k:Int)<=AN (fun i=>(l.2 i).parts) k/\AN (fun i=>(l.2 i).parts) k<=1000*k:=hpt.sum
 refine AS (ι:=Nat) (fun j=>j<=l.1) (fun j=>l.1-j) [3,4,5,6,7,8,18,19] (fun j=>[(20,.int .i64 j)]) (fun j=>[(3,.cells (.cons (.int .i64 (AN (fun i=>(l.2 i).parts) j)) .nil))]) 0 (Nat.zero_le _) (by simp only[AN,↓reduceIte,reduceCtorEq,Nat.reduceEqDiff,Nat.reduceLT,go_sem];try trivial) fun j hj=> ?_
 rcases Nat.lt_or_ge j l.1 with hlt|hge
 ·have f1:((j:Int)<(l.1:Int))=True:=eq_true (by omega)
  have s1:=hsum j (by omega)
  have s2:=h5 j hlt
  simp only[f1,RL,Ak,Ag,AZ,↓reduceIte,reduceCtorEq,Nat.reduceEqDiff,Nat.reduceAdd,go_sem]
  refine⟨by omega,Af (j+1) (by omega) (by omega) ?_⟩
  simp only[AN,↓reduceIte,reduceCtorEq,Nat.reduceEqDiff,Nat.reduceLT,go_sem]
  rw[Cs (by omega),AU (by omega) (by omega)]
  try exact⟨rfl,rfl⟩
 have f1:((j:Int)<(l.1:Int))=False:=eq_false (by omega)
 simp only[f1,hw,RL,Ak,Ag,AZ,↓reduceIte,reduceCtorEq,Nat.reduceEqDiff,Nat.reduceSub,Nat.reducePow,go_sem]
 obtain rfl:j=l.1:=by omega
 obtain⟨S,hS⟩:∃S,S=AN (fun i=>(l.2 i).parts) l.1:=⟨_,rfl⟩
 have hS0:=hsum l.1 (Nat.le_refl _)
 rw[<-hS]at hS0⊢
 have hfl:∀i,i<l.1->0<=DH n (fun i=>(l.2 i).parts) l.1 i/\DH n (fun i=>(l.2 i).parts) l.1 i<=n:=fun i hi=>by
  obtain⟨p1,p2⟩:=h5 i hi
  have a1:0<=n*(l.2 i).parts:=Int.mul_nonneg h1 (by omega)
  unfold DH
  rw[<-hS]
  refine⟨Int.ediv_nonneg a1 (by omega),?_⟩
  have h6:=(I4 (fun i=>(l.2 i).parts) l.1 fun i hi=>by have:=(h5 i hi).1;omega).2 i hi
  have h7:n*(l.2 i).parts<=n*S:=Int.mul_le_mul_of_nonneg_left (by rw[hS];exact h6) h1
  exact Int.ediv_le_of_le_mul (by omega) h7
 have hsf:∀j,j<=l.1->0<=AN (DH n (fun i=>(l.2 i).parts) l.1) j/\AN (DH n (fun i=>(l.2 i).parts) l.1) j<=n:=fun j hj=>by
  have h6:=EP (f:=DH n (fun i=>(l.2 i).parts) l.1) (len:=l.1) (fun i hi=>(hfl i hi).1) (Nat.zero_le j) hj
  have h7:=EP (f:=DH n (fun i=>(l.2 i).parts) l.1) (len:=l.1) (fun i hi=>(hfl i hi).1) hj (Nat.le_refl _)
  have h8:=Lx (n:=n) (p:=fun i=>(l.2 i).parts) (k:=l.1) (by rw[<-hS];omega)
  unfold DJ at h8
  rw[AN]at h6
  omega
 refine Hu (ι:=Nat) (fun j=>j<=l.1) (fun j=>l.1-j) [3,4,5,7,30,31] (fun j=>[(32,.int .i64 j),(8,.int .i64 (n-AN (DH n (fun i=>(l.2 i).parts) l.1) j)),(11,.own (.n 4)),(12,.own (.n 5))]) (fun j=>[(4,.row 3 1 j fun i _=> .int .i64 (DH n (fun i=>(l.2 i).parts) l.1 i)),(5,.row 3 1 j fun i _=> .int .i64 i)]) 2 0 (Nat.zero_le _) (by simp only[AN,Int.sub_zero,↓reduceIte,reduceCtorEq,Nat.reduceEqDiff,Nat.reduceAdd,Nat.reduceLT,go_sem];try trivial) fun j hj=> ?_
 rcases Nat.lt_or_ge j l.1 with hlt|hge2
 ·have f2:((j:Int)<(l.1:Int))=True:=eq_true (by omega)
  obtain⟨p1,p2⟩:=h5 j hlt
  have a1:0<=n*(l.2 j).parts:=Int.mul_nonneg h1 (by omega)
  have a2:n*(l.2 j).parts<=23040*1000:=Int.mul_le_mul h2 p2 (by omega) (by omega)
  have m1:IntKind.i64.wrap (n*(l.2 j).parts)=n*(l.2 j).parts:=AU (by omega) (by omega)
  have m2:(n*(l.2 j).parts).tdiv S=DH n (fun i=>(l.2 i).parts) l.1 j:=by rw[Int.tdiv_eq_ediv_of_nonneg a1];unfold DH;rw[<-hS]
  have b:=hfl j hlt
  have m3:IntKind.i64.wrap (DH n (fun i=>(l.2 i).parts) l.1 j)=DH n (fun i=>(l.2 i).parts) l.1 j:=AU (by omega) (by omega)
  simp only[f2,m1,m2,m3,Nat.sub_self,↓reduceIte,reduceCtorEq,Nat.reduceEqDiff,Nat.reduceAdd,Nat.reduceSub,Nat.reduceLeDiff,Nat.reduceLT,Nat.reducePow,go_sem]
  repeat(with_reducible refine And.intro (by omega) ?_)
  have c1:=hsf j (by omega)
  have c2:=hsf (j+1) (by omega)
  rw[AN]at c2
  refine Af (j+1) (by omega) (by omega) ?_
  simp only[AN,↓reduceIte,reduceCtorEq,Nat.reduceEqDiff,Nat.reduceLT,go_sem]
  rw[Cs (by omega),AU (by omega) (by omega)]
  have one:∀(f:Nat->Int) (i:Nat),i<j+1->∀c:Nat,c<1->(if i<j then .int .i64 (f i)else Az (Az (.cons (.cons (.int .i64 (f j)) .nil) .nil) (i-j)) c)=Ad.int .i64 (f i):=fun f i hi c hc=>by
   by_cases e:i<j
   ·rw[if_pos e]
   obtain rfl:i=j:=by omega
   obtain rfl:c=0:=by omega
   rw[if_neg e,Nat.sub_self];rfl
  exact⟨rfl,by omega,one fun i=>(i:Int),one _⟩
 have f2:((j:Int)<(l.1:Int))=False:=eq_false (by omega)
 simp only[f2,X8,ZT,Yx,↓reduceIte,reduceCtorEq,Nat.reduceEqDiff,Nat.reduceAdd,go_sem]
 refine AS (ι:=Unit) (fun _=>True) (fun _=>0) [0,1,2,6,7,10] (fun _=>[(8,.int .i64 20)]) (fun _=>[]) () trivial (by simp only[↓reduceIte,reduceCtorEq,Nat.reduceEqDiff,Nat.reduceLT,go_sem];try trivial) fun _ _=> ?_
 obtain rfl:j=l.1:=by omega
 have f20:((20:Int)<=(l.1:Int))=False:=eq_false (by omega)
 simp only[f20,↓reduceIte,reduceCtorEq,Nat.reduceEqDiff,Nat.reduceAdd,Int.reduceAdd,go_sem]
 obtain⟨lt,hlt⟩:∃lt,lt=XQ n (fun i=>(l.2 i).parts) l.1:=⟨_,rfl⟩
 have ltb:∀a b:Nat,(lt a b=true)↔(n*(l.2 b).parts%S<n*(l.2 a).parts%S):=fun a b=>by rw[hlt];unfold XQ FO;rw[decide_eq_true_eq,<-hS]
 have swo:Ve lt:=⟨fun a b c h1 h2=>by rw[ltb]at*;omega,fun a b c h=>by rw[ltb,ltb];rw[ltb]at h;omega,fun a=>by
  cases e:lt a a with
  |false=>rfl
  |true=>rw[ltb]at e;omega⟩
 have i1:AH lt [0]=[0]:=rfl
 rw[show IntKind.i64.wrap 1=((1:Nat):Int)from rfl]
 refine AS (ι:=Nat) (fun i=>1<=i/\i<=l.1) (fun i=>l.1-i) [0,1,2,3] (fun i=>[(8,.int .i64 i)]) (fun i=>[(5,.row 3 1 l.1 fun y _=> .int .i64 ((B5 (fun q=>q) 0 (AH lt (A6 (fun q=>q) 0 i)) y:Nat):Int))]) 1 ⟨Nat.le_refl _,h3⟩ (by
  have:B5 (fun q:Nat=>q) 0 (AH lt (A6 (fun q=>q) 0 1))=fun q=>q:=by
   have:=Cg (fun q:Nat=>q) 0 1
   have e:A6 (fun q:Nat=>q) 0 1=[0]:=rfl
   rw[e]at this⊢;rw[i1];exact this
  simp only[this,↓reduceIte,reduceCtorEq,Nat.reduceEqDiff,Nat.reduceLT,go_sem]
  try trivial) fun i hi=> ?_
 obtain⟨hi1,hi2⟩:=hi
 rcases Nat.lt_or_ge i l.1 with hil|hig
 ·have fi:((i:Int)<(l.1:Int))=True:=eq_true (by omega)
  simp only[fi,WY,Ak,Ag,AZ,XR,↓reduceIte,reduceCtorEq,Nat.reduceEqDiff,go_sem]
  have hSrt:=DT (lt:=lt) swo (A6 (fun q=>q) 0 i)
  have hOlt:∀y∈AH lt (A6 (fun q=>q) 0 i),y<l.1:=fun y hy=>by
   rw[Gp]at hy
   obtain⟨q,hq,rfl⟩:=List.mem_map.1 hy
   have:=List.mem_range.1 hq
   show 0+q<l.1
   omega
  have hSl:(AH lt (A6 (fun q=>q) 0 i)).length=i:=by rw[Dt,Bv];omega
  have hnx:AH lt (A6 (fun q=>q) 0 (i+1))=C4 lt i (AH lt (A6 (fun q=>q) 0 i)):=by rw[<-DB _ (show 0<=i by omega) (show i<=i+1 by omega),Cj,Cf]
  generalize AH lt (A6 (fun q=>q) 0 i)=O at*
  have hOm:∀t y,O[t]?=some y->y<l.1:=fun t y h=>hOlt y (List.mem_of_getElem? h)
  refine AS (ι:=Nat) (fun k=>k<=i/\∀t y,k<=t->O[t]?=some y->lt i y=true) (fun k=>k) [0,1,2,3,8] (fun k=>[(9,.int .i64 (k:Int))]) (fun k=>[(5,.row 3 1 l.1 fun y _=> .int .i64 ((DG (fun q=>q) 0 O i k y:Nat):Int))]) i ⟨Nat.le_refl _,fun t y h1 h2=>by have:=(List.getElem?_eq_some_iff.1 h2).1;omega⟩ (by
   have:DG (fun q=>q) 0 O i i=B5 (fun q=>q) 0 O:=by
    have:=J7 (fun q:Nat=>q) 0 O (i:=i) (by omega)
    rw[hSl]at this;exact this
   simp only[this,↓reduceIte,reduceCtorEq,Nat.reduceEqDiff,Nat.reduceLT,go_sem]
   try trivial) fun k hk=> ?_
  obtain⟨hk1,hk2⟩:=hk
  have gk:DG (fun q=>q) 0 O i k k=i:=by unfold DG;rw[if_neg (by omega),if_neg (by omega),if_pos (by omega)]
  have fin:(∀z,0<k->O[k-1]?=some z->¬lt i z=true)->DG (fun q=>q) 0 O i k=B5 (fun q=>q) 0 (AH lt (A6 (fun q=>q) 0 (i+1))):=fun h=>by
   rw[Ls (fun q=>q) 0 O i (by omega),hnx,Jb (lt:=lt) i O k (by omega) (fun t y ht hy=> ?_) fun y hy=>hk2 k y (Nat.le_refl _) hy]
   obtain⟨z,hz⟩:∃z,O[k-1]?=some z:=⟨_,List.getElem?_eq_getElem (show k-1<O.length by omega)⟩
   have h1:=h z (by omega) hz
   cases e:lt i y with
   |false=>rfl
   |true=>
    by_cases e2:t=k-1
    ·subst e2;rw[hy]at hz;cases hz;exact absurd e h1
    have h3:lt z y=false:=by
     obtain⟨q1,q2⟩:=List.getElem?_eq_some_iff.1 hy
     obtain⟨q3,q4⟩:=List.getElem?_eq_some_iff.1 hz
     have:=List.pairwise_iff_getElem.1 hSrt t (k-1) q1 q3 (by omega)
     rw[q2,q4]at this;exact this
    rcases swo.co _ z _ e with h4|h4
    ·exact absurd h4 h1
    rw[h3]at h4;cases h4
  rcases Nat.eq_zero_or_pos k with hk0|hk0
  ·subst hk0
   have f0:((0:Int)>0)=False:=eq_false (by omega)
   have fe:=fin fun z h=>absurd h (Nat.lt_irrefl 0)
   simp only[f0,Int.ofNat_zero,↓reduceIte,reduceCtorEq,Nat.reduceEqDiff,Nat.reduceSub,go_sem]
   refine Af (i+1) ⟨by omega,by omega⟩ (by omega) ?_
   simp only[fe,↓reduceIte,reduceCtorEq,Nat.reduceEqDiff,Nat.reduceLT,go_sem]
   rw[Cs (by omega)]
   try trivial
  obtain⟨z,hz⟩:∃z,O[k-1]?=some z:=⟨_,List.getElem?_eq_getElem (show k-1<O.length by omega)⟩
  have f0:((k:Int)>0)=True:=eq_true (by omega)
  have w1:IntKind.i64.wrap ((k:Int)-1)=((k-1:Nat):Int):=XC (by omega) (by omega)
  have gk1:DG (fun q=>q) 0 O i k (k-1)=z:=by
   unfold DG;rw[if_neg (by omega),if_pos (by omega),List.getD_eq_getElem?_getD,show k-1-0=k-1 by omega,hz];rfl
  have hzl:=hOm _ z hz
  simp only[f0,w1,gk,gk1,Int.toNat_natCast,↓reduceIte,reduceCtorEq,Nat.reduceEqDiff,Nat.reduceAdd,Nat.reduceSub,go_sem]
  refine⟨by omega,by omega,by omega,by omega,⟨i,rfl,z,rfl,hil,hzl,h1,h2,by omega,by omega,h5⟩,fun h4=> ?_,fun h4=> ?_⟩
  ·have h4:lt i z=true:=(ltb i z).2 (by omega)
   repeat(with_reducible refine And.intro (by omega) ?_)
   refine Af (k-1) ⟨by omega,fun t y ht hy=> ?_⟩ (by omega) ?_
   ·by_cases e2:t=k-1
    ·subst e2;rw[hz]at hy;cases hy;exact h4
    exact hk2 t y (by omega) hy
   simp only[↓reduceIte,reduceCtorEq,Nat.reduceEqDiff,Nat.reduceLT,go_sem]
   intro y hy b hb
   obtain rfl:b=0:=by omega
   rw[Io (fun q:Nat=>q) 0 O i hk0 (by omega)]
   by_cases y1:y=k-1
   ·rw[if_pos ⟨y1,Nat.le_refl _,hb⟩,if_pos (by omega)];rfl
   rw[if_neg fun h=>y1 h.1,if_neg (show¬y=0+k-1 by omega)]
   by_cases y2:y=k
   ·rw[if_pos ⟨y2,Nat.le_refl _,hb⟩,if_pos (by omega),List.getD_eq_getElem?_getD,hz];rfl
   rw[if_neg fun h=>y2 h.1,if_neg (by omega)]
  have fe:=fin fun z' _ hz'=>by rw[hz]at hz';cases hz';rw[ltb];omega
  refine Af (i+1) ⟨by omega,by omega⟩ (by omega) ?_
  simp only[fe,↓reduceIte,reduceCtorEq,Nat.reduceEqDiff,Nat.reduceLT,go_sem]
  rw[Cs (by omega)]
  try trivial
 have fi:((i:Int)<(l.1:Int))=False:=eq_false (by omega)
 obtain rfl:i=l.1:=by omega
 simp only[fi,WY,Ak,Ag,AZ,XR,↓reduceIte,reduceCtorEq,Nat.reduceEqDiff,go_sem]
 refine AS (ι:=Unit) (fun _=>True) (fun _=>0) [0,1,2] (fun _=>[(6,.int .i64 20)]) (fun _=>[]) () trivial (by simp only[↓reduceIte,reduceCtorEq,Nat.reduceEqDiff,Nat.reduceLT,go_sem];try trivial) fun _ _=> ?_
 have f20':((20:Int)<(l.1:Int))=False:=eq_false (by omega)
 have lf1:=Lx (n:=n) (p:=fun i=>(l.2 i).parts) (k:=l.1) (by rw[<-hS];omega)
 have lf2:=PC (n:=n) (p:=fun i=>(l.2 i).parts) (k:=l.1) (by omega) (by rw[<-hS];omega)
 unfold DJ at lf1 lf2
 simp only[f20',↓reduceIte,reduceCtorEq,Nat.reduceEqDiff,Int.reduceToNat,Int.reduceLE,go_sem]
 refine⟨by omega,by omega,?_⟩
 obtain⟨T,hT⟩:∃T:Nat,n-AN (DH n (fun i=>(l.2 i).parts) l.1) l.1=T:=⟨(n-AN (DH n (fun i=>(l.2 i).parts) l.1) l.1).toNat,(Int.toNat_of_nonneg lf1).symm⟩
 have hTl:T<l.1:=by omega
 have hsg:A6 (fun q:Nat=>q) 0 l.1=List.range l.1:=by simp[A6]
 rw[hT,Int.sub_zero,Int.toNat_natCast,hsg,hlt]
 have hod:AH (XQ n (fun i=>(l.2 i).parts) l.1) (List.range l.1)=Fe n (fun i=>(l.2 i).parts) l.1 l.1:=rfl
 rw[hod]
 refine AS (ι:=Nat) (fun t=>t<=T) (fun t=>T-t) [11,63,64] (fun t=>[(65,.int .i64 t)]) (fun t=>[(4,.row 3 1 l.1 fun y _=> .int .i64 (DH n (fun i=>(l.2 i).parts) l.1 y+if Nj n (fun i=>(l.2 i).parts) l.1 y<t then 1 else 0))]) 0 (Nat.zero_le _) (by
  simp only[Nat.not_lt_zero,Int.add_zero,↓reduceIte,reduceCtorEq,Nat.reduceEqDiff,Nat.reduceLT,go_sem]
  exact⟨rfl,by simp only[↓reduceIte,reduceCtorEq,Nat.reduceEqDiff,go_sem]⟩) fun t ht=> ?_
 rcases Nat.lt_or_ge t T with htl|htg
 ·have ft:((t:Int)<(T:Int))=True:=eq_true (by omega)
  obtain⟨b,b1,b2,b4,b3⟩:=S9 (n:=n) (p:=fun i=>(l.2 i).parts) (k:=l.1) (t:=t) (by omega)
  have gb:B5 (fun q=>q) 0 (Fe n (fun i=>(l.2 i).parts) l.1 l.1) t=b:=by
   have:=Mk (fun q:Nat=>q) 0 _ b1
   rwa[Nat.zero_add]at this
  simp only[ft,gb,Int.toNat_natCast,↓reduceIte,reduceCtorEq,Nat.reduceEqDiff,go_sem]
  repeat(with_reducible refine And.intro (by omega) ?_)
  have bf:=hfl b b2
  refine Af (t+1) (by omega) (by omega) ?_
  simp only[b4,↓reduceIte,reduceCtorEq,Nat.reduceEqDiff,Nat.reduceLT,go_sem]
  rw[Cs (by omega),AU (by omega) (by omega)]
  have row:∀y,y<l.1->∀c:Nat,c<1->(if y=b/\0<=c/\c<1 then Az (.cons (.int .i64 (DH n (fun i=>(l.2 i).parts) l.1 b+0+1)) .nil) c else .int .i64 (DH n (fun i=>(l.2 i).parts) l.1 y+if Nj n (fun i=>(l.2 i).parts) l.1 y<t then 1 else 0))=Ad.int .i64 (DH n (fun i=>(l.2 i).parts) l.1 y+if Nj n (fun i=>(l.2 i).parts) l.1 y<t+1 then 1 else 0):=fun y hy c hc=>by
   obtain rfl:c=0:=by omega
   by_cases e:y=b
   ·rw[if_pos ⟨e,Nat.le_refl _,hc⟩,e,if_pos ((b3 b b2).2 (.inr rfl)),Int.add_zero];rfl
   rw[if_neg fun h=>e h.1]
   have:=b3 y hy
   by_cases e2:Nj n (fun i=>(l.2 i).parts) l.1 y<t
   ·rw[if_pos e2,if_pos (this.2 (.inl e2))]
   rw[if_neg e2,if_neg fun h=>(this.1 h).elim e2 e]
  exact⟨rfl,⟨rfl,by simp only[↓reduceIte,reduceCtorEq,Nat.reduceEqDiff,go_sem]⟩,row⟩
 have ft:((t:Int)<(T:Int))=False:=eq_false (by omega)
 obtain rfl:t=T:=by omega
 simp only[ft,↓reduceIte,reduceCtorEq,Nat.reduceEqDiff,go_sem]
 have key:∀i,i<l.1->(DH n (fun i=>(l.2 i).parts) l.1 i+if Nj n (fun i=>(l.2 i).parts) l.1 i<t then 1 else 0)=FH n (fun i=>(l.2 i).parts) l.1 i:=fun i hi=>by
  unfold FH DJ
  rw[hT]
  show(_+if E4 _ _<t then(1:Int)else 0)=_
  congr 1
  by_cases e:E4 (fun j=>DP n (fun i=>(l.2 i).parts) l.1 j i) l.1<t
  ·rw[if_pos e,if_pos (by omega)]
  rw[if_neg e,if_neg (by omega)]
 exact⟨fun i hi _ _=>key i hi,.n 4,1,l.1,_,.inl ⟨rfl,rfl⟩,_,rfl,fun i hi j _=>⟨congrArg (Ad.int .i64) (key i hi).symm,rfl⟩⟩
end Go.Proofs.YtlieoghhkioflaaGreat
namespace Go.Proofs.YtlieoghhkioflaaGreat
open Go Go.RowKit
variable{p:Prop}
variable{G:Nat->Option (Nat×(Nat->Ad))}
def TPt{α:Type}(R:RT α):VT α where
 Is:=fun w=>∃c,w= .vptr R.k c/\R.W 1 fun _=>c
 of:=fun w=>match w with| .vptr _ c=>R.D (fun _=>c) 0|_=>R.D (fun _ _=> .und) 0
 enc:=fun a=> .vptr R.k (R.C a)
 h1:=by
  rintro w ⟨c,rfl,h⟩
  exact⟨c,rfl,fun j hj=>R.h1 1 (fun _=>c) h 0 Nat.zero_lt_one j hj⟩
 h2:=fun a=>congrFun (R.h2 fun _=>a) 0
def TPu:VT Tu:=TPt RTu
def TPd:VT De:=TPt Gq
theorem Q9(a b:Int):TPu.Is (.vptr 2 (Az (.cons (.int .i64 a) (.cons (.int .i64 b) .nil))))=True:=eq_true ⟨_,rfl,fun _ _=>⟨rfl,rfl⟩⟩
theorem Rw(a b:Int):TPu.of (.vptr 2 (Az (.cons (.int .i64 a) (.cons (.int .i64 b) .nil))))=⟨a,b⟩:=rfl
theorem R5(a b c d e f g h:Int)(n:Nat)(q:Nat->Hr):TPd.Is (.vptr 9 (Az (.cons (.int .i64 a) (.cons (.int .i64 b) (.cons (.int .u8 c) (.cons (.int .i64 d) (.cons (.int .i64 e) (.cons (.int .i64 f) (.cons (.int .i64 g) (.cons (.int .i64 h) (.cons (.view 2 n fun i j=>(q i).c j) .nil)))))))))))=True:=eq_true ⟨_,rfl,fun _ _=>⟨rfl,rfl,rfl,rfl,rfl,rfl,rfl,rfl,rfl,fun i _=>of_eq_true (Hr.w_c (q i))⟩⟩
theorem Rs(a b c d e f g h:Int)(n:Nat)(q:Nat->Hr):TPd.of (.vptr 9 (Az (.cons (.int .i64 a) (.cons (.int .i64 b) (.cons (.int .u8 c) (.cons (.int .i64 d) (.cons (.int .i64 e) (.cons (.int .i64 f) (.cons (.int .i64 g) (.cons (.int .i64 h) (.cons (.view 2 n fun i j=>(q i).c j) .nil)))))))))))=⟨a,b,c,d,e,⟨f,g⟩,h,(n,q)⟩:=rfl
theorem Ww(a:Tu):TPu.enc a= .vptr 2 a.c:=rfl
theorem WV(a:De):TPd.enc a= .vptr 9 a.c:=rfl
attribute [go_sem] Q9 Rw R5 Rs Ww WV
inductive HP where
 |cut (c:Int)|fro (t:Tu)|til (t:Tu)|his (x:De)|bus (x:De)|dth (x:De)|at(m:Int)
def HP.T:HP->Pi->Prop
 | .cut c,p=>p.turn.fro<c/\c<p.turn.til
 | .fro t,p=>p.turn.fro=t.fro
 | .til t,p=>p.turn.til=t.til
 | .his x,p=>p.owner≠x.fro
 | .bus x,p=>p.lent≠0/\x.day<p.til
 | .dth x,p=>p.owner=x.fro
 | .at m,p=>p.turn.fro<=m/\m<p.turn.til
noncomputable def Um:As:=Ak (Ag Sc (Ag (Vg TI) AZ)) (fun _=>True) fun a=> .bool (A8 (a.1.turn.fro<a.2.1/\a.2.1<a.1.turn.til))
noncomputable def Y8:As:=Ak (Ag Sc (Ag (Vg TI) AZ)) (fun _=>True) fun a=> .bool (A8 (a.1.turn.fro<=a.2.1/\a.2.1<a.1.turn.til))
noncomputable def Zk:As:=Ak (Ag Sc (Ag TPu AZ)) (fun _=>True) fun a=> .bool (A8 (a.1.turn.fro=a.2.1.fro))
noncomputable def Yp:As:=Ak (Ag Sc (Ag TPu AZ)) (fun _=>True) fun a=> .bool (A8 (a.1.turn.til=a.2.1.til))
noncomputable def Ui:As:=Ak (Ag Sc (Ag TPd AZ)) (fun _=>True) fun a=> .bool (A8 (a.1.owner≠a.2.1.fro))
noncomputable def TR:As:=Ak (Ag Sc (Ag TPd AZ)) (fun _=>True) fun a=> .bool (A8 (a.1.lent≠0/\a.2.1.day<a.1.til))
noncomputable def TM:As:=Ak (Ag Sc (Ag TPd AZ)) (fun _=>True) fun a=> .bool (A8 (a.1.owner=a.2.1.fro))
noncomputable def M0:As:=Ak (Ag Sc (Ag TI AZ)) (fun _=>True) fun a=> .bool (A8 (a.1.lent≠0/\a.2.1<a.1.til))
theorem Qv [Decidable p]:decide p=A8 p:=by
 by_cases h:p
 ·rw[decide_eq_true h,At h]
 rw[decide_eq_false h,Am h]
theorem Lr{q:Prop}[Decidable q](h:p):decide q=A8 (p/\q):=by rw[Qv];exact EA ⟨fun k=>⟨h,k⟩,fun k=>k.2⟩
theorem Py{q:Prop}(h:¬p):false=A8 (p/\q):=(Am fun k=>h k.1).symm
theorem Aar:Ah Tryz.prog G 160 Um:=by
 refine Ij mixed (S:=[]) (I:=[]) (X:=[]) (N:=[]) (C:=[]) .nil .nil .nil Tryz.func160 AcY fun a hp hw=> ?_
 obtain⟨p,c,u⟩:=a
 simp only[AaM,Ag,AZ,↓reduceIte,reduceCtorEq,Nat.reduceEqDiff,Nat.reduceAdd,Nat.reduceLeDiff,go_sem]
 exact⟨fun h=>Lr h,fun h=>Py h⟩
theorem Ab5:Ah Tryz.prog G 58 Y8:=by
 refine Ij mixed (S:=[]) (I:=[]) (X:=[]) (N:=[]) (C:=[]) .nil .nil .nil Tryz.func58 c58 fun a hp hw=> ?_
 obtain⟨p,c,u⟩:=a
 simp only[a58,Ag,AZ,↓reduceIte,reduceCtorEq,Nat.reduceEqDiff,Nat.reduceAdd,Nat.reduceLeDiff,go_sem]
 exact⟨fun h=>Lr h,fun h=>Py h⟩
theorem XM:Ah Tryz.prog G 86 M0:=by
 refine Ij mixed (S:=[]) (I:=[]) (X:=[]) (N:=[]) (C:=[]) .nil .nil .nil Tryz.func86 c86 fun a hp hw=> ?_
 obtain⟨p,c,u⟩:=a
 simp only[a86,Ag,AZ,↓reduceIte,reduceCtorEq,Nat.reduceEqDiff,Nat.reduceAdd,Nat.reduceLeDiff,go_sem]
 exact⟨fun h=>Lr h,fun h=>(Am fun k=>k.1 h).symm⟩
theorem YM{a b:Int}:(a !=b)=A8 (a≠b):=by
 by_cases h:a=b
 ·subst h;rw[Am (fun k=>k rfl)];simp
 rw[At h];simp[h]
theorem Pd{a b:Int}:(a==b)=A8 (a=b):=by
 by_cases h:a=b
 ·subst h;rw[At rfl];simp
 rw[Am h];simp[h]
theorem AcN:Ah Tryz.prog G 170 Zk:=by
 refine Ij mixed (S:=[]) (I:=[]) (X:=[]) (N:=[]) (C:=[]) .nil .nil .nil Tryz.func170 Ab2 fun a hp hw=> ?_
 obtain⟨p,c,u⟩:=a
 simp only[Abp,Ag,AZ,↓reduceIte,reduceCtorEq,Nat.reduceEqDiff,Nat.reduceAdd,Nat.reduceLeDiff,go_sem]
 exact Pd
theorem Acf:Ah Tryz.prog G 171 Yp:=by
 refine Ij mixed (S:=[]) (I:=[]) (X:=[]) (N:=[]) (C:=[]) .nil .nil .nil Tryz.func171 AcI fun a hp hw=> ?_
 obtain⟨p,c,u⟩:=a
 simp only[Aay,Ag,AZ,↓reduceIte,reduceCtorEq,Nat.reduceEqDiff,Nat.reduceAdd,Nat.reduceSub,Nat.reduceLeDiff,go_sem]
 exact Pd
theorem Abb:Ah Tryz.prog G 163 Ui:=by
 refine Ij mixed (S:=[]) (I:=[]) (X:=[]) (N:=[]) (C:=[]) .nil .nil .nil Tryz.func163 Ab7 fun a hp hw=> ?_
 obtain⟨p,c,u⟩:=a
 simp only[Aaq,Ag,AZ,↓reduceIte,reduceCtorEq,Nat.reduceEqDiff,Nat.reduceAdd,Nat.reduceSub,Nat.reduceLeDiff,go_sem]
 exact YM
theorem Aai:Ah Tryz.prog G 143 TM:=by
 refine Ij mixed (S:=[]) (I:=[]) (X:=[]) (N:=[]) (C:=[]) .nil .nil .nil Tryz.func143 AbO fun a hp hw=> ?_
 obtain⟨p,c,u⟩:=a
 simp only[AaD,Ag,AZ,↓reduceIte,reduceCtorEq,Nat.reduceEqDiff,Nat.reduceAdd,Nat.reduceSub,Nat.reduceLeDiff,go_sem]
 exact Pd
theorem Abh:Ah Tryz.prog G 147 TR:=by
 refine Ij mixed (S:=[(86,M0)]) (I:=[]) (X:=[]) (N:=[]) (C:=[]) (.cons XM .nil) .nil .nil Tryz.func147 Ac7 fun a hp hw=> ?_
 obtain⟨p,c,u⟩:=a
 simp only[Aa4,M0,Ak,Ag,AZ,↓reduceIte,reduceCtorEq,Nat.reduceEqDiff,Nat.reduceAdd,Nat.reduceSub,Nat.reduceLeDiff,go_sem]
end Go.Proofs.YtlieoghhkioflaaGreat
namespace Go.Proofs.YtlieoghhkioflaaGreat
open Go Go.RowKit
variable{G:Nat->Option (Nat×(Nat->Ad))}
def HP.enc:HP->Ad
 | .cut c=> .func (.func 160) (.cons (.vptr 1 (Az (.cons (.int .i64 c) .nil))) .nil)
 | .fro t=> .func (.func 170) (.cons (.vptr 2 (Az t.L)) .nil)
 | .til t=> .func (.func 171) (.cons (.vptr 2 (Az t.L)) .nil)
 | .his x=> .func (.func 163) (.cons (.vptr 9 (Az x.L)) .nil)
 | .bus x=> .func (.func 147) (.cons (.vptr 9 (Az x.L)) .nil)
 | .dth x=> .func (.func 143) (.cons (.vptr 9 (Az x.L)) .nil)
 | .at c=> .func (.func 58) (.cons (.vptr 1 (Az (.cons (.int .i64 c) .nil))) .nil)
def HP.dec:Ad->HP
 | .func (.func i) (.cons (.vptr _ c) .nil)=>
  if i=160 then .cut (c 0).toInt else if i=170 then .fro ⟨(c 0).toInt,(c 1).toInt⟩else if i=171 then .til ⟨(c 0).toInt,(c 1).toInt⟩
  else if i=163 then .his (De.d c)else if i=147 then .bus (De.d c)else if i=143 then .dth (De.d c)else .at (c 0).toInt
 |_=> .at 0
theorem HP.dec_enc:∀q:HP,HP.dec q.enc=q
 | .cut _| .fro _| .til _| .his _| .bus _| .dth _| .at _=>rfl
def Mp:VT HP where
 Is:=fun v=>v=(HP.dec v).enc
 of:=HP.dec
 enc:=HP.enc
 h1:=fun v h=>by rw[<-h];exact BP _
 h2:=HP.dec_enc
theorem Jn(q:HP):Mp.Is q.enc=True:=eq_true (by show q.enc=(HP.dec q.enc).enc;rw[HP.dec_enc])
theorem VQ(c:Int):Mp.Is (.func (.func 160) (.cons (.vptr 1 (Az (.cons (.int .i64 c) .nil))) .nil))=True:=Jn (.cut c)
theorem O6(c:Int):Mp.of (.func (.func 160) (.cons (.vptr 1 (Az (.cons (.int .i64 c) .nil))) .nil))= .cut c:=rfl
theorem ZD(c:Int):Mp.Is (.func (.func 58) (.cons (.vptr 1 (Az (.cons (.int .i64 c) .nil))) .nil))=True:=Jn (.at c)
theorem R9(c:Int):Mp.of (.func (.func 58) (.cons (.vptr 1 (Az (.cons (.int .i64 c) .nil))) .nil))= .at c:=rfl
theorem Wx(a b:Int):Mp.Is (.func (.func 170) (.cons (.vptr 2 (Az (.cons (.int .i64 a) (.cons (.int .i64 b) .nil)))) .nil))=True:=Jn (.fro ⟨a,b⟩)
theorem Ok(a b:Int):Mp.of (.func (.func 170) (.cons (.vptr 2 (Az (.cons (.int .i64 a) (.cons (.int .i64 b) .nil)))) .nil))= .fro ⟨a,b⟩:=rfl
theorem Vl(a b:Int):Mp.Is (.func (.func 171) (.cons (.vptr 2 (Az (.cons (.int .i64 a) (.cons (.int .i64 b) .nil)))) .nil))=True:=Jn (.til ⟨a,b⟩)
theorem OE(a b:Int):Mp.of (.func (.func 171) (.cons (.vptr 2 (Az (.cons (.int .i64 a) (.cons (.int .i64 b) .nil)))) .nil))= .til ⟨a,b⟩:=rfl
section
variable(a b c d e f g h:Int)(n:Nat)(q:Nat->Hr)
theorem VB:Mp.Is (.func (.func 163) (.cons (.vptr 9 (Az (.cons (.int .i64 a) (.cons (.int .i64 b) (.cons (.int .u8 c) (.cons (.int .i64 d) (.cons (.int .i64 e) (.cons (.int .i64 f) (.cons (.int .i64 g) (.cons (.int .i64 h) (.cons (.view 2 n fun i j=>(q i).c j) .nil))))))))))) .nil))=True:=Jn (.his ⟨a,b,c,d,e,⟨f,g⟩,h,(n,q)⟩)
theorem OZ:Mp.of (.func (.func 163) (.cons (.vptr 9 (Az (.cons (.int .i64 a) (.cons (.int .i64 b) (.cons (.int .u8 c) (.cons (.int .i64 d) (.cons (.int .i64 e) (.cons (.int .i64 f) (.cons (.int .i64 g) (.cons (.int .i64 h) (.cons (.view 2 n fun i j=>(q i).c j) .nil))))))))))) .nil))= .his ⟨a,b,c,d,e,⟨f,g⟩,h,(n,q)⟩:=rfl
theorem VV:Mp.Is (.func (.func 147) (.cons (.vptr 9 (Az (.cons (.int .i64 a) (.cons (.int .i64 b) (.cons (.int .u8 c) (.cons (.int .i64 d) (.cons (.int .i64 e) (.cons (.int .i64 f) (.cons (.int .i64 g) (.cons (.int .i64 h) (.cons (.view 2 n fun i j=>(q i).c j) .nil))))))))))) .nil))=True:=Jn (.bus ⟨a,b,c,d,e,⟨f,g⟩,h,(n,q)⟩)
theorem OG:Mp.of (.func (.func 147) (.cons (.vptr 9 (Az (.cons (.int .i64 a) (.cons (.int .i64 b) (.cons (.int .u8 c) (.cons (.int .i64 d) (.cons (.int .i64 e) (.cons (.int .i64 f) (.cons (.int .i64 g) (.cons (.int .i64 h) (.cons (.view 2 n fun i j=>(q i).c j) .nil))))))))))) .nil))= .bus ⟨a,b,c,d,e,⟨f,g⟩,h,(n,q)⟩:=rfl
theorem Vy:Mp.Is (.func (.func 143) (.cons (.vptr 9 (Az (.cons (.int .i64 a) (.cons (.int .i64 b) (.cons (.int .u8 c) (.cons (.int .i64 d) (.cons (.int .i64 e) (.cons (.int .i64 f) (.cons (.int .i64 g) (.cons (.int .i64 h) (.cons (.view 2 n fun i j=>(q i).c j) .nil))))))))))) .nil))=True:=Jn (.dth ⟨a,b,c,d,e,⟨f,g⟩,h,(n,q)⟩)
theorem O4:Mp.of (.func (.func 143) (.cons (.vptr 9 (Az (.cons (.int .i64 a) (.cons (.int .i64 b) (.cons (.int .u8 c) (.cons (.int .i64 d) (.cons (.int .i64 e) (.cons (.int .i64 f) (.cons (.int .i64 g) (.cons (.int .i64 h) (.cons (.view 2 n fun i j=>(q i).c j) .nil))))))))))) .nil))= .dth ⟨a,b,c,d,e,⟨f,g⟩,h,(n,q)⟩:=rfl
end
theorem Xh(q:HP):Mp.enc q=q.enc:=rfl
attribute [go_sem] VQ O6 ZD R9 Wx Ok Vl OE VB OZ VV OG Vy O4 Xh
noncomputable def Iq(P:Nat×(Nat->Pi))(q:HP):Int:=if Co (fun i=>q.T (P.2 i)) P.1<P.1 then(Co (fun i=>q.T (P.2 i)) P.1:Nat)else-1
noncomputable def NF:As:=Ak (Ag (Dv Mo) (Ag Mp AZ)) (fun a=>a.1.1<=100000) fun a=> .int .i64 (Iq a.1 a.2.1)
noncomputable def RB:As:=Ak (Ag (Dv Mo) (Ag Mp AZ)) (fun a=>a.1.1<=100000) fun a=> .bool (A8 (∃i,i<a.1.1/\a.2.1.T (a.1.2 i)))
noncomputable abbrev SPq:List (FuncId×As):=[(160,Um),(58,Y8),(170,Zk),(171,Yp),(163,Ui),(147,TR),(143,TM)]
theorem RZ{P:Nat×(Nat->Pi)}{q:HP}{j:Nat}(hj:j<P.1)(h:q.T (P.2 j))(h0:∀i,i<j->¬q.T (P.2 i)):Iq P q=(j:Int):=by
 have:=C5 (p:=fun i=>q.T (P.2 i)) hj h h0
 unfold Iq;rw[this,if_pos hj]
theorem Rt{P:Nat×(Nat->Pi)}{q:HP}(h0:∀i,i<P.1->¬q.T (P.2 i)):Iq P q= -1:=by
 unfold Iq
 rcases Bi (fun i=>q.T (P.2 i)) P.1 with⟨h1,h2,_⟩|⟨h1,_⟩
 ·exact absurd h2 (h0 _ h1)
 rw[if_neg (by omega)]
set_option maxHeartbeats 4000000 in
theorem Zp:Ah Tryz.prog G 57 NF:=by
 refine Ij mixed (S:=SPq) (I:=[]) (X:=[]) (N:=[]) (C:=[]) (.cons Aar (.cons Ab5 (.cons AcN (.cons Acf (.cons Abb (.cons Abh (.cons Aai .nil))))))) .nil .nil Tryz.func57 c57 fun a hp hw=> ?_
 obtain⟨P,q,u⟩:=a
 have hP:P.1<=100000:=hp
 have hw1:(P.1<=9223372036854775807)=True:=eq_true (by omega)
 simp only[a57,Ag,AZ,hw1,↓reduceIte,reduceCtorEq,Nat.reduceSub,Int.reduceNeg,Nat.reducePow,go_sem]
 refine AS (ι:=Nat) (fun j=>j<=P.1/\∀i,i<j->¬q.T (P.2 i)) (fun j=>P.1-j) [0,1,7] (fun j=>[(8,.int .i64 j)]) (fun _=>[]) 0 ⟨by omega,fun i h=>by omega⟩ (by cases q<;>simp only[HP.enc,↓reduceIte,reduceCtorEq,Nat.reduceEqDiff,go_sem]<;>try rfl) fun j hj=> ?_
 obtain⟨hj1,hj2⟩:=hj
 rcases Nat.lt_or_ge j P.1 with hlt|hge
 ·have f1:((j:Int)<(P.1:Int))=True:=eq_true (by omega)
  have yes:q.T (P.2 j)->Iq P q=(j:Int):=fun h=>RZ hlt h hj2
  have no:¬q.T (P.2 j)->∀i,i<j+1->¬q.T (P.2 i):=fun h i hi=>by
   by_cases e:i=j
   ·subst e;exact h
   exact hj2 i (by omega)
  cases q
  all_goals
   simp only[HP.enc,f1,hw1,Um,Y8,Zk,Yp,Ui,TR,TM,Ak,Ag,AZ,↓reduceIte,reduceCtorEq,Nat.reduceEqDiff,Nat.reduceAdd,Nat.reduceSub,Int.reduceNeg,Nat.reducePow,go_sem]
   refine⟨by omega,fun h=>(yes (NN h)).symm,fun h=> ?_⟩
   refine Af (j+1) ⟨by omega,no (Nn h)⟩ (by omega) ?_
   simp only[↓reduceIte,reduceCtorEq,Nat.reduceEqDiff,go_sem]
   rw[Cs (by omega)]
   try trivial
 have f1:((j:Int)<(P.1:Int))=False:=eq_false (by omega)
 obtain rfl:j=P.1:=by omega
 simp only[f1,Rt hj2,↓reduceIte,reduceCtorEq,Nat.reduceEqDiff,Int.reduceNeg,go_sem]
theorem Wh(P:Nat×(Nat->Pi))(q:HP):decide (Iq P q≥0)=A8 (∃i,i<P.1/\q.T (P.2 i)):=by
 rw[Qv]
 refine EA ?_
 unfold Iq
 rcases Bi (fun i=>q.T (P.2 i)) P.1 with⟨h1,h2,_⟩|⟨h1,h2⟩
 ·rw[if_pos h1];exact⟨fun _=>⟨_,h1,h2⟩,fun _=>by omega⟩
 rw[if_neg (by omega)];exact⟨fun h=>by omega,fun⟨i,hi,k⟩=>absurd k (h2 i hi)⟩
set_option maxHeartbeats 4000000 in
theorem AbF:Ah Tryz.prog G 146 RB:=by
 refine Ij mixed (S:=[(57,NF)]) (I:=[]) (X:=[]) (N:=[]) (C:=[]) (.cons Zp .nil) .nil .nil Tryz.func146 Ac4 fun a hp hw=> ?_
 obtain⟨P,q,u⟩:=a
 have hP:P.1<=100000:=hp
 have hw1:(P.1<=9223372036854775807)=True:=eq_true (by omega)
 cases q
 all_goals
  simp only[Aan,HP.enc,NF,Ak,Ag,AZ,hw1,Wh,↓reduceIte,reduceCtorEq,Nat.reduceEqDiff,Nat.reduceSub,Nat.reducePow,go_sem]
  try exact hP
end Go.Proofs.YtlieoghhkioflaaGreat
