/- Auctions: the prices prove the sum, and each end's cost is an auction's, plain. No condition. -/
import Derived.Test.YtlieoghhkioflaaGreatDPvP
import Derived.Test.YtlieoghhkioflaaGreatACodeL10
set_option linter.unusedSimpArgs false
set_option linter.unusedVariables false
set_option maxRecDepth 100000
namespace Go.Proofs.YtlieoghhkioflaaGreat
variable{b:GC}{t:Tu}
theorem Fw(b:GC)(x:Int):F8 (bF b) (bT b) (bV b) b.1 x (E5 b x):=JB (bF b) (bT b) (bV b) b.1 x
theorem Uv(b:GC){x y:Int}(h:x<=y):E5 b x<=E5 b y:=by
 obtain⟨c,hc,e⟩:=(Fw b x).ex
 rw[<-e]
 exact(Fw b y).le c ⟨fun i hi q=>Int.le_trans (hc.end_ i hi q) h,hc.apart⟩
theorem V3(hb:∀i,i<b.1->(b.2 i).turn.fro<(b.2 i).turn.til){k:Nat}(hk:k<b.1):E5 b (bF b k)+bV b k<=E5 b (bT b k):=by
 obtain⟨c,hc,e⟩:=(Fw b (bF b k)).ex
 have hbk:bF b k<bT b k:=hb k hk
 have hck:c k=false:=by
  cases q:c k with
  |false=>rfl
  |true=>have:=hc.end_ k hk q;omega
 have hadd:=L2 (bV b) c (fun i=>if i=k then true else c i) k hck (if_pos rfl) (fun i hi=>if_neg hi) b.1 hk
 rw[<-e,<-hadd]
 refine(Fw b (bT b k)).le _ ⟨fun i hi q=> ?_,fun i j hi hj qi qj hij=> ?_⟩
 ·have q:(if i=k then true else c i)=true:=q
  by_cases e:i=k
  ·subst e;exact Int.le_refl _
  rw[if_neg e]at q
  have:=hc.end_ i hi q;omega
 have ri:i=k\/c i=true:=by
  have q:(if i=k then true else c i)=true:=qi
  split at q
  ·exact .inl (by assumption)
  exact .inr q
 have rj:j=k\/c j=true:=by
  have q:(if j=k then true else c j)=true:=qj
  split at q
  ·exact .inl (by assumption)
  exact .inr q
 rcases ri with rfl|ri
 ·rcases rj with rfl|rj
  ·exact absurd rfl hij
  exact .inr (hc.end_ j hj rj)
 rcases rj with rfl|rj
 ·exact .inl (hc.end_ i hi ri)
 exact hc.apart i j hi hj ri rj hij
theorem Jw:∀(l a:List Int),l.Pairwise (fun x y=>x<y)->(∀x,x∈l->x∈a)->l.length<=a.length
 |[],_,_,_=>Nat.zero_le _
 |x::l,a,h,hs=>by
  rw[List.pairwise_cons]at h
  have hx:=hs x (by simp)
  have:=Jw l (a.erase x) h.2 fun y hy=>(List.mem_erase_of_ne (by have:=h.1 y hy;omega)).2 (hs y (by simp[hy]))
  rw[List.length_erase_of_mem hx]at this
  have:=List.length_pos_of_mem hx
  rw[List.length_cons];omega
theorem Dh.ends(h:Dh t b):(∀i j,i<j->j<(AB t b).length->ln (AB t b) i<ln (AB t b) j)/\ln (AB t b) 0=t.fro/\ln (AB t b) ((AB t b).length-1)=t.til/\2<=(AB t b).length/\(AB t b).length<=2*b.1+2/\∀i,i<(AB t b).length->ln (AB t b) i∈IS t b:=by
 obtain⟨h1,h2⟩:=Eo h
 have hm:∀i,i<(AB t b).length->ln (AB t b) i∈IS t b:=fun i hi=>by rw[D1 hi];exact(h2 _).1 (List.getElem_mem hi)
 have hr:∀i j,i<j->j<(AB t b).length->ln (AB t b) i<ln (AB t b) j:=fun i j hij hj=>by
  rw[D1 hj,D1 (by omega)]
  exact List.pairwise_iff_getElem.1 h1 i j (by omega) hj hij
 have hin:=Gk t b h.tu h.bd
 obtain⟨t1,t2,t3⟩:=h.tu
 have hlo:t.fro∈IS t b:=List.mem_map.2 ⟨0,List.mem_range.2 (by omega),by simp[aF]⟩
 obtain⟨i,hi,ei⟩:=List.getElem_of_mem ((h2 _).2 hlo)
 obtain⟨j,hj,ej⟩:=List.getElem_of_mem ((h2 _).2 (L1 t b))
 rw[<-D1 hi]at ei
 rw[<-D1 hj]at ej
 have hle:(AB t b).length<=2*b.1+2:=by
  have:=Jw _ (IS t b) h1 fun x hx=>(h2 x).1 hx
  unfold IS at this
  rwa[List.length_map,List.length_range]at this
 have hi0:i=0:=by
  rcases Nat.eq_zero_or_pos i with e|e
  ·exact e
  have:=hr 0 i e hi
  have:=(hin _ (hm 0 (by omega))).1
  omega
 have hj0:j=(AB t b).length-1:=by
  rcases Nat.lt_or_ge j ((AB t b).length-1)with e|e
  ·have:=hr j _ e (by omega)
   have:=(hin _ (hm ((AB t b).length-1) (by omega))).2
   omega
  omega
 subst hi0
 rw[hj0]at ej
 refine⟨hr,ei,ej,?_,hle,hm⟩
 rcases Nat.lt_or_ge (AB t b).length 2 with q|q
 ·have:(AB t b).length-1=0:=by omega
  rw[this,ei]at ej;omega
 exact q
theorem Zf(h:Dh t b):∀i,eA t (C1 t b) i=ln (AB t b) i
 |0=>h.ends.2.1.symm
 |_+1=>rfl
theorem Gr(h:Dh t b):∀i,pre (pA (C1 t b)) i=E5 b (ln (AB t b) i)
 |0=>(Xg h).symm
 |i+1=>by
  rw[pre,Gr h i]
  show _+(E5 b (ln (AB t b) (i+1))-E5 b (ln (AB t b) i))=_
  omega
theorem Dh.prices(h:Dh t b):HE t b (C1 t b):=by
 obtain⟨e1,e2,e3,e4,e5,e6⟩:=h.ends
 have hn:=h.n
 have hin:=Gk t b h.tu h.bd
 have hE:eA t (C1 t b)=ln (AB t b):=funext (Zf h)
 refine⟨by show(AB t b).length-1<=60;omega,⟨fun j hj=> ?_,?_⟩,fun k hk=> ?_⟩
 ·have hj:j<(AB t b).length-1:=hj
  unfold Hw
  rw[hE]
  have h1:=e1 j (j+1) (by omega) (by omega)
  have h2:=Uv b (Int.le_of_lt h1)
  have h3:=Lu h (ln (AB t b) j)
  have h4:=Lu h (ln (AB t b) (j+1))
  exact⟨rfl,h1,(hin _ (e6 (j+1) (by omega))).2,by show 0<=E5 b (ln (AB t b) (j+1))-E5 b (ln (AB t b) j);omega,by show E5 b (ln (AB t b) (j+1))-E5 b (ln (AB t b) j)<=_;omega⟩
 ·rw[hE];exact e3
 obtain⟨a,ha,hfa⟩:=h.fe k hk
 obtain⟨c,hc,htc⟩:=h.te k hk
 have hft:=(h.best.2 k hk).1
 have hbid:=V3 (fun i hi=>(h.best.2 i hi).1) hk
 have hfa':(b.2 k).turn.fro=ln (AB t b) a:=hfa
 have htc':(b.2 k).turn.til=ln (AB t b) c:=htc
 have hac:a<c:=by
  rcases Nat.lt_trichotomy a c with q|q|q
  ·exact q
  ·subst q;omega
  have:=e1 c a q (by omega);omega
 refine⟨(Gd _ _).2 ⟨a,by show a<(AB t b).length-1;omega,decide_eq_true hfa'.symm⟩,(Gd _ _).2 ⟨c-1,by show c-1<(AB t b).length-1;omega,decide_eq_true ?_⟩,?_⟩
 ·show ln (AB t b) (c-1+1)=_
  rw[show c-1+1=c by omega,htc']
 rw[hfa',htc',hE]
 show _<=Mf (ln (AB t b)) (pA (C1 t b)) (ln (AB t b) a) (ln (AB t b) c) ((AB t b).length-1)
 rw[Lk (ln (AB t b)) (pA (C1 t b)) ((AB t b).length-1) (fun j hj=>e1 j (j+1) (by omega) (by omega)) a c (by omega) hc _ (Nat.le_refl _),Nat.min_eq_right hc,Nat.min_eq_right ha,Gr h,Gr h,<-hfa,<-htc]
 have hbid:E5 b (bF b k)+(b.2 k).baisa<=E5 b (bT b k):=hbid
 omega
def CA(b:GC)(x:Int)(j:Nat):List Nat:=(List.range j).filter fun i=>decide (bT b i<=x)
def CN(b:GC)(x:Int)(j:Nat):GC:=((CA b x j).length,fun a=>b.2 ((CA b x j).getD a 0))
theorem UL(b:GC)(x:Int)(j:Nat):CA b x (j+1)=if bT b j<=x then CA b x j++[j]else CA b x j:=by
 simp only[CA,List.range_succ,List.filter_append,List.filter_cons,List.filter_nil,decide_eq_true_eq]
 split<;>simp
theorem Jb(b:GC)(x:Int)(j:Nat):(CA b x j).Pairwise (fun p q=>p<q)/\(∀i,i∈CA b x j↔i<j/\bT b i<=x)/\(CA b x j).length<=j:=by
 refine⟨List.Pairwise.filter _ List.pairwise_lt_range,fun i=>by simp[CA],?_⟩
 have:=List.length_filter_le (fun i=>decide (bT b i<=x)) (List.range j)
 rw[List.length_range]at this;exact this
theorem Ys(b:GC)(x:Int)(j:Nat)(h:bT b j<=x):(CN b x (j+1)).1=(CN b x j).1+1/\∀i,i<(CN b x j).1+1->(CN b x (j+1)).2 i=if i<(CN b x j).1 then(CN b x j).2 i else b.2 j:=by
 unfold CN
 rw[UL,if_pos h]
 refine⟨by simp,fun i hi=> ?_⟩
 have hi:i<(CA b x j).length+1:=hi
 show b.2 ((CA b x j++[j]).getD i 0)=if i<(CA b x j).length then b.2 ((CA b x j).getD i 0)else b.2 j
 rw[List.getD_eq_getElem?_getD,List.getD_eq_getElem?_getD]
 by_cases e:i<(CA b x j).length
 ·rw[if_pos e,List.getElem?_append_left e]
 rw[if_neg e,show i=(CA b x j).length by omega,List.getElem?_append_right (Nat.le_refl _),Nat.sub_self];rfl
theorem ZC(b:GC)(x:Int)(j:Nat)(h:¬bT b j<=x):CN b x (j+1)=CN b x j:=by
 unfold CN;rw[UL,if_neg h]
theorem Vh(V:Nat->Int)(c:Nat->Bool)(l:List Nat):vS (fun a=>V (l.getD a 0)) (fun a=>c (l.getD a 0)) l.length=((l.filter c).map V).sum:=by
 have key:∀j,j<=l.length->vS (fun a=>V (l.getD a 0)) (fun a=>c (l.getD a 0)) j=(((l.take j).filter c).map V).sum:=by
  intro j
  induction j with
  |zero=>intro _;rfl
  |succ j ih=>
   intro hj
   have e:l.getD j 0=l[j]:=by rw[List.getD_eq_getElem?_getD,List.getElem?_eq_getElem (show j<l.length by omega)];rfl
   rw[vS,ih (by omega),List.take_add_one,List.getElem?_eq_getElem (show j<l.length by omega),List.filter_append,List.map_append,List.sum_append,e]
   show _=_+((List.filter c [l[j]]).map V).sum
   by_cases q:c l[j]=true<;>simp[q]
 rw[key _ (Nat.le_refl _),List.take_length]
theorem SE(b:GC)(x:Int)(c:Nat->Bool)(hc:∀i,i<b.1->c i=true->bT b i<=x):vS (bV (CN b x b.1)) (fun a=>c ((CA b x b.1).getD a 0)) (CN b x b.1).1=vS (bV b) c b.1:=by
 have h:=Vh (bV b) c (CA b x b.1)
 have e:(CA b x b.1).filter c=(List.range b.1).filter c:=by
  unfold CA
  rw[List.filter_filter]
  refine List.filter_congr fun i hi=> ?_
  have hi:=List.mem_range.1 hi
  cases q:c i with
  |false=>simp
  |true=>simp[hc i hi q]
 rw[e,Jf]at h
 exact h
theorem Vq(b:GC)(x:Int):E5 (CN b x b.1) x=E5 b x:=by
 obtain⟨s1,s2,s3⟩:=Jb b x b.1
 have hg:∀a,a<(CN b x b.1).1->(CA b x b.1).getD a 0<b.1/\bT b ((CA b x b.1).getD a 0)<=x:=fun a ha=>by
  have ha:a<(CA b x b.1).length:=ha
  rw[List.getD_eq_getElem?_getD,List.getElem?_eq_getElem ha]
  exact(s2 _).1 (List.getElem_mem ha)
 have hinj:∀a k,a<(CN b x b.1).1->k<(CN b x b.1).1->(CA b x b.1).getD a 0=(CA b x b.1).getD k 0->a=k:=fun a k ha hk he=>by
  have ha:a<(CA b x b.1).length:=ha
  have hk:k<(CA b x b.1).length:=hk
  rw[List.getD_eq_getElem?_getD,List.getElem?_eq_getElem ha,List.getD_eq_getElem?_getD,List.getElem?_eq_getElem hk]at he
  have he:(CA b x b.1)[a]=(CA b x b.1)[k]:=he
  rcases Nat.lt_trichotomy a k with q|q|q
  ·have:=List.pairwise_iff_getElem.1 s1 a k ha hk q;omega
  ·exact q
  have:=List.pairwise_iff_getElem.1 s1 k a hk ha q;omega
 refine F8.uniq _ _ _ _ (Fw (CN b x b.1) x) ⟨?_,fun c hc=> ?_⟩
 ·obtain⟨c,hc,e⟩:=(Fw b x).ex
  refine⟨fun a=>c ((CA b x b.1).getD a 0),⟨fun i hi _=>(hg i hi).2,fun i k hi hk q1 q2 hik=>hc.apart _ _ (hg i hi).1 (hg k hk).1 q1 q2 fun q=>hik (hinj i k hi hk q)⟩,?_⟩
  rw[SE b x c hc.end_];exact e
 have hd:∀i,i<b.1->Bf (∃a,a<(CN b x b.1).1/\(CA b x b.1).getD a 0=i/\c a=true)=true->bT b i<=x:=fun i _ q=>by
  obtain⟨a,a1,rfl,_⟩:=A6.1 q
  exact(hg a a1).2
 have h:=SE b x (fun i=>Bf (∃a,a<(CN b x b.1).1/\(CA b x b.1).getD a 0=i/\c a=true)) hd
 have e:vS (bV (CN b x b.1)) (fun a=>Bf (∃a',a'<(CN b x b.1).1/\(CA b x b.1).getD a' 0=(CA b x b.1).getD a 0/\c a'=true)) (CN b x b.1).1=vS (bV (CN b x b.1)) c (CN b x b.1).1:=J9 _ _ _ _ fun i hi=>by
  cases q:c i with
  |true=>exact AA ⟨i,hi,rfl,q⟩
  |false=>exact Aw fun⟨a,a1,a2,a3⟩=>by rw[hinj a i a1 hi a2,q]at a3;cases a3
 rw[<-e,h]
 refine(Fw b x).le _ ⟨hd,fun i k _ _ q1 q2 hik=> ?_⟩
 obtain⟨a,a1,rfl,a3⟩:=A6.1 q1
 obtain⟨k',k1,rfl,k3⟩:=A6.1 q2
 exact hc.apart a k' a1 k1 a3 k3 fun q=>hik (by rw[q])
theorem Dh.few(h:Dh t b){x:Int}(h1:t.fro<x)(h2:x<=t.til):Du ⟨t.fro,x⟩ (CN b x b.1)=0:=by
 obtain⟨t1,t2,t3⟩:=h.tu
 obtain⟨s1,s2,s3⟩:=Jb b x b.1
 have hn:=h.n
 refine H5.2 ⟨⟨t1,h1,by show x<=23040;omega⟩,by show(CA b x b.1).length<=12;omega,fun i hi=> ?_⟩
 have hi:i<(CA b x b.1).length:=hi
 have:=(s2 _).1 (List.getElem_mem hi)
 obtain⟨q1,⟨q2,q3,q4⟩,q5⟩:=h.bd _ this.1
 have e:(CN b x b.1).2 i=b.2 (CA b x b.1)[i]:=by
  show b.2 ((CA b x b.1).getD i 0)=_
  rw[List.getD_eq_getElem?_getD,List.getElem?_eq_getElem hi];rfl
 rw[e]
 exact⟨q1,⟨q2,q3,this.2⟩,q5⟩
theorem Dh.named(h:Dh t b){k:Nat}(hk:k+1<(AB t b).length)(h1:ln (AB t b) (k+1)≠t.til):∃i,i<b.1/\((b.2 i).turn.fro=ln (AB t b) (k+1)\/(b.2 i).turn.til=ln (AB t b) (k+1)):=by
 obtain⟨e1,e2,e3,e4,e5,e6⟩:=h.ends
 obtain⟨a,ha,ea⟩:=List.mem_map.1 (e6 _ hk)
 have ha:=List.mem_range.1 ha
 have h0:=e1 0 (k+1) (by omega) hk
 rw[e2]at h0
 unfold aF at ea
 split at ea
 ·omega
 split at ea
 ·omega
 split at ea
 ·exact⟨a/2-1,by omega,.inl ea⟩
 exact⟨a/2-1,by omega,.inr ea⟩
end Go.Proofs.YtlieoghhkioflaaGreat
namespace Go.Proofs.YtlieoghhkioflaaGreat
open Go Go.RowKit
variable{G:Nat->Option (Nat×(Nat->Ad))}
noncomputable def RO(t:Tu)(b:GC)(x:Int)(j:Nat):Bool:=Bf (x=t.til\/∃i,i<j/\((b.2 i).turn.fro=x\/(b.2 i).turn.til=x))
theorem Aa5(t:Tu)(b:GC)(x:Int)(j:Nat):RO t b x (j+1)=(RO t b x j||(decide ((b.2 j).turn.fro=x)||decide ((b.2 j).turn.til=x))):=by
 by_cases h:RO t b x j=true
 ·rw[h,Bool.true_or]
  rcases A6.1 h with h|⟨i,h1,h2⟩
  ·exact AA (.inl h)
  exact AA (.inr ⟨i,by omega,h2⟩)
 have h:RO t b x j=false:=by simpa using h
 have hn:=Dj.1 h
 rw[h,Bool.false_or]
 by_cases q:(b.2 j).turn.fro=x\/(b.2 j).turn.til=x
 ·rw[show RO t b x (j+1)=true from AA (.inr ⟨j,by omega,q⟩)]
  rcases q with q|q<;>simp[q]
 rw[show RO t b x (j+1)=false from Aw fun h=>by
  rcases h with h|⟨i,h1,h2⟩
  ·exact hn (.inl h)
  by_cases e:i=j
  ·subst e;exact q h2
  exact hn (.inr ⟨i,by omega,h2⟩)]
 have q1:¬(b.2 j).turn.fro=x:=fun h=>q (.inl h)
 have q2:¬(b.2 j).turn.til=x:=fun h=>q (.inr h)
 simp[q1,q2]
theorem AaT(t:Tu)(b:GC)(x:Int):RO t b x 0=(x==t.til):=by
 by_cases h:x=t.til
 ·rw[show RO t b x 0=true from AA (.inl h)];simp[h]
 rw[show RO t b x 0=false from Aw fun q=>by
  rcases q with q|⟨i,hi,_⟩
  ·exact h q
  omega]
 simp[h]
def VK:At:=D5 UP (DQ RN) (TU .u8) (fun _ _ _=>True) fun _ _ _=> .bool true
set_option maxHeartbeats 4000000 in
theorem WY:Aj Tryz.prog G 10 VK:=by
 refine fn3 (S:=[(25,LN),(35,UY),(39,Hc),(36,SO),(38,S7)]) (I:=[]) mixed
  (.cons Y8 (.cons Abw (.cons MA (.cons KI (.cons MO .nil))))) .nil Tryz.func10 c10 fun t b which _ hw=> ?_
 simp only[Nat.reduceSub,Nat.reducePow,go_sem]at hw
 by_cases h0:Du t b=0
 ·have f0:Bf (Du t b=0)=true:=AA h0
  have hA:=S8 h0
  have ha:Nl t b= .tup (.cons (lV (Es b t.til).1) (.cons (.int .i64 (E5 b t.til)) (.cons (.int .i64 0) .nil))):=by rw[Nl,if_pos h0];rfl
  have hp:Rg t b= .tup (.cons (.view 3 (C1 t b).1 fun i j=>((C1 t b).2 i).c j) (.cons (.int .i64 0) .nil)):=by rw[Rg,if_pos h0]
  have hn:=hA.n
  have hl:=(hA.wins t.til).len
  have hl1:((Es b t.til).1.length<=9223372036854775807)=True:=eq_true (by omega)
  obtain⟨e1,e2,e3,e4,e5,e6⟩:=hA.ends
  have hin:=Gk t b hA.tu hA.bd
  have hP1:1<=(C1 t b).1/\(C1 t b).1<=2*b.1+1:=⟨by show 1<=(AB t b).length-1;omega,by show(AB t b).length-1<=_;omega⟩
  have hPv:FO t b (C1 t b)=(E5 b t.til,0):=by
   rw[WJ h0 hA.prices,Gr hA]
   show(E5 b (ln (AB t b) ((AB t b).length-1)),(0:Int))=_
   rw[e3]
  have hPx:∀k,k<(C1 t b).1->t.fro<((C1 t b).2 k).turn.til/\((C1 t b).2 k).turn.til<=t.til:=fun k hk=>by
   have hk:k<(AB t b).length-1:=hk
   have h1:=e1 0 (k+1) (by omega) (by omega)
   rw[e2]at h1
   exact⟨h1,(hin _ (e6 (k+1) (by omega))).2⟩
  have hPc:∀k,k<(C1 t b).1->pre (pA (C1 t b)) (k+1)=E5 b ((C1 t b).2 k).turn.til:=fun k _=>Gr hA (k+1)
  have hPb:∀i,0<=pre (pA (C1 t b)) i/\pre (pA (C1 t b)) i<=12000000000:=fun i=>by rw[Gr hA];exact Lu hA _
  have hPn:∀k,k<(C1 t b).1->((C1 t b).2 k).turn.til≠t.til->∃i,i<b.1/\((b.2 i).turn.fro=((C1 t b).2 k).turn.til\/(b.2 i).turn.til=((C1 t b).2 k).turn.til):=fun k hk h=>by
   have hk:k<(AB t b).length-1:=hk
   exact hA.named (by omega) h
  generalize C1 t b=P at*
  generalize (Es b t.til).1=R1 at*
  have hPl:(P.1<=9223372036854775807)=True:=eq_true (by omega)
  have hwb:=Z8 which
  obtain⟨k,hk⟩:∃k:Nat,which.1.tmod (P.1:Int)=(k:Int):=⟨(which.1.tmod (P.1:Int)).toNat,by have:=Int.tmod_nonneg (P.1:Int) hwb.1;omega⟩
  have hkl:k<P.1:=by
   have:=Int.tmod_lt_of_pos which.1 (show(0:Int)<(P.1:Int) by omega)
   omega
  have hx:=hPx k hkl
  have hc:=hPc k hkl
  have hnm:=hPn k hkl
  have h2:=hA.few hx.1 hx.2
  have htop:=Vq b (P.2 k).turn.til
  generalize hX:(P.2 k).turn.til=x at*
  have ha2:Nl ⟨t.fro,x⟩ (CN b x b.1)= .tup (.cons (lV (Es (CN b x b.1) x).1) (.cons (.int .i64 (E5 b x)) (.cons (.int .i64 0) .nil))):=by
   rw[Nl,if_pos h2,<-htop];rfl
  have q1:((P.1:Int)=0)=False:=eq_false (by omega)
  have q2:IntKind.i64.wrap (IntKind.i64.wrap (2*(b.1:Int))+1)=2*(b.1:Int)+1:=by rw[AQ (e:=2*(b.1:Int)) (by omega) (by omega),AQ (by omega) (by omega)]
  have q3:((P.1:Int)>2*(b.1:Int)+1)=False:=eq_false (by omega)
  have q4:IntKind.i64.wrap which.1=which.1:=AQ (by omega) (by omega)
  have q5:IntKind.i64.wrap ((k:Int)+1)=((k+1:Nat):Int):=AQ (by omega) (by omega)
  have q6:(0<=(k:Int))=True:=eq_true (by omega)
  have q7:((k:Int)<(P.1:Int))=True:=eq_true (by omega)
  have q8:k+1<=P.1:=hkl
  have r1:(0<=((k+1:Nat):Int))=True:=eq_true (by omega)
  have r2:(((k+1:Nat):Int)<=(P.1:Int))=True:=eq_true (by omega)
  have r3:(((k+1:Nat):Int)-0).toNat=k+1:=by omega
  have r4:(k+1<=9223372036854775807)=True:=eq_true (by omega)
  simp only[Bm,a10,LN,UY,f0,Hc,SO,S7,ha,hp,hPv,q1,q2,q3,q4,q5,q6,q7,hk,hX,hl1,hPl,r1,r2,r3,r4,Int.toNat_natCast,hw,↓reduceIte,reduceCtorEq,Nat.reduceEqDiff,Nat.reduceAdd,Nat.reduceSub,Nat.reduceLeDiff,Nat.reduceLT,Int.reduceToNat,Int.reduceLE,Nat.reducePow,go_sem]
  refine A2 (ι:=Nat) (fun j=>j<=k+1) (fun j=>k+1-j) [1,3,7,11,15,16,105,106] (fun j=>[(17,.int .i64 (pre (pA P) j)),(107,.int .i64 j)]) (fun _=>[]) 0 (Nat.zero_le _) (by simp only[pre,↓reduceIte,reduceCtorEq,Nat.reduceEqDiff,Nat.reduceLT,go_sem];try trace_state) fun j hj=> ?_
  by_cases hjl:j<k+1
  ·have fj:((j:Int)<((k+1:Nat):Int))=True:=eq_true (by omega)
   have h3:=hPb j
   have h4:=hPb (j+1)
   have h5:pre (pA P) (j+1)=pre (pA P) j+(P.2 j).baisa:=rfl
   have s1:IntKind.i64.wrap (pre (pA P) j+(P.2 j).baisa)=pre (pA P) j+(P.2 j).baisa:=AQ (by omega) (by omega)
   simp only[fj,s1,↓reduceIte,reduceCtorEq,Nat.reduceEqDiff,Nat.reduceAdd,go_sem]
   refine⟨by omega,Af (j+1) hjl (by omega) ?_⟩
   simp only[h5,↓reduceIte,reduceCtorEq,Nat.reduceEqDiff,Nat.reduceLT,go_sem]
   exact Cs (by omega)
  have fj:((j:Int)<((k+1:Nat):Int))=False:=eq_false (by omega)
  obtain rfl:j=k+1:=by omega
  simp only[fj,hc,hw,↓reduceIte,reduceCtorEq,Nat.reduceEqDiff,Nat.reduceSub,Nat.reducePow,go_sem]
  refine Hg (ι:=Nat) (fun j=>j<=b.1) (fun j=>b.1-j) [1,3,7,11,15,16,17,116,117] (fun j=>[(20,.own (.n 2)),(118,.int .i64 j)]) (fun j=>[(2,.row 88 4 (CN b x j).1 fun a c=>((CN b x j).2 a).c c)]) 1 0 (Nat.zero_le _) (by simp only[show CN b x 0=(0,fun a=>b.2 (([]:List Nat).getD a 0))from rfl,↓reduceIte,reduceCtorEq,Nat.reduceEqDiff,Nat.reduceAdd,Nat.reduceLT,go_sem];try trace_state) fun j hj=> ?_
  by_cases hjl:j<b.1
  ·have fj:((j:Int)<(b.1:Int))=True:=eq_true (by omega)
   have hlen:(CN b x j).1<=j:=(Jb b x j).2.2
   by_cases hle:(b.2 j).turn.til<=x
   ·have g1:((b.2 j).turn.til<=x)=True:=eq_true hle
    obtain⟨s1,s2⟩:=Ys b x j hle
    generalize CN b x j=q at*
    simp only[fj,g1,↓reduceIte,reduceCtorEq,Nat.reduceEqDiff,Nat.reduceAdd,Nat.reduceSub,Nat.reduceLeDiff,Nat.reduceLT,Nat.reducePow,go_sem]
    refine⟨by omega,by omega,by omega,Af (j+1) hjl (by omega) ?_⟩
    simp only[s1,↓reduceIte,reduceCtorEq,Nat.reduceEqDiff,Nat.reduceLT,go_sem]
    refine⟨Cs (by omega),fun a ha c hc=> ?_⟩
    rw[s2 a ha]
    by_cases e:a<q.1
    ·rw[if_pos e,if_pos e];exact BU _
    obtain rfl:a=q.1:=by omega
    rw[if_neg e,if_neg e,Nat.sub_self]
    match c,hc with
    |0,_|1,_|2,_|3,_=>exact rfl
   have g1:((b.2 j).turn.til<=x)=False:=eq_false hle
   have s1:=ZC b x j hle
   simp only[fj,g1,↓reduceIte,reduceCtorEq,Nat.reduceEqDiff,Nat.reduceAdd,Nat.reduceLeDiff,go_sem]
   refine⟨by omega,Af (j+1) hjl (by omega) ?_⟩
   simp only[s1,↓reduceIte,reduceCtorEq,Nat.reduceEqDiff,Nat.reduceLT,go_sem]
   exact Cs (by omega)
  have fj:((j:Int)<(b.1:Int))=False:=eq_false (by omega)
  obtain rfl:j=b.1:=by omega
  have hql:(CN b x b.1).1<=b.1:=(Jb b x b.1).2.2
  have hq1:((CN b x b.1).1<=9223372036854775807)=True:=eq_true (by omega)
  have hl2:=((S8 h2).wins x).len
  generalize CN b x b.1=q at*
  have hl3:((Es q x).1.length<=9223372036854775807)=True:=eq_true (by omega)
  generalize (Es q x).1=R2 at*
  simp only[fj,ha2,hX,hl3,q6,q7,Int.toNat_natCast,hw,↓reduceIte,reduceCtorEq,Nat.reduceEqDiff,Nat.reduceAdd,Nat.reduceSub,Nat.reduceLeDiff,Nat.reduceLT,Nat.reducePow,go_sem]
  refine A2 (ι:=Nat) (fun j=>j<=b.1) (fun j=>b.1-j) [7,11,15,17,24,25,149,150] (fun j=>[(26,.bool (RO t b x j)),(151,.int .i64 j)]) (fun _=>[]) 0 (Nat.zero_le _) (by simp only[AaT,↓reduceIte,reduceCtorEq,Nat.reduceEqDiff,Nat.reduceLT,go_sem];try trace_state) fun j hj=> ?_
  by_cases hjl:j<b.1
  ·have fj:((j:Int)<(b.1:Int))=True:=eq_true (by omega)
   have hs:=Aa5 t b x j
   cases hb:RO t b x j<;>by_cases c1:(b.2 j).turn.fro=x<;>by_cases c2:(b.2 j).turn.til=x
   all_goals
    simp[hb,c1,c2]at hs
    simp only[fj,c1,c2,hX,q6,q7,Int.toNat_natCast,↓reduceIte,reduceCtorEq,Nat.reduceEqDiff,Nat.reduceAdd,Nat.reduceSub,Nat.reduceLeDiff,go_sem]
    refine⟨by omega,Af (j+1) hjl (by omega) ?_⟩
    simp only[hs,↓reduceIte,reduceCtorEq,Nat.reduceEqDiff,Nat.reduceLT,go_sem]
    first|exact Cs (by omega)|exact⟨c2,Cs (by omega)⟩
  have fj:((j:Int)<(b.1:Int))=False:=eq_false (by omega)
  obtain rfl:j=b.1:=by omega
  have hnn:RO t b x b.1=true:=AA (by
   by_cases e:x=t.til
   ·exact .inl e
   exact .inr (hnm e))
  simp only[fj,hnn,↓reduceIte,reduceCtorEq,Nat.reduceEqDiff,go_sem]
 have f0:Bf (Du t b=0)=false:=Aw h0
 simp only[Bm,a10,LN,UY,f0,hw,↓reduceIte,reduceCtorEq,Nat.reduceEqDiff,Nat.reduceAdd,Nat.reduceSub,Nat.reducePow,go_sem]
end Go.Proofs.YtlieoghhkioflaaGreat
