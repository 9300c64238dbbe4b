/- Deeds: a piece is cut in two, walked. No condition but bounds. -/
import Derived.Test.YtlieoghhkioflaaGreatDdv
import Derived.Test.YtlieoghhkioflaaGreatDpy
import Derived.Test.YtlieoghhkioflaaGreatDCat
import Derived.Test.YtlieoghhkioflaaGreatScm
set_option linter.unusedSimpArgs false
set_option linter.unusedVariables false
set_option maxRecDepth 100000
namespace Go.Proofs.YtlieoghhkioflaaGreat
open Go Go.RowKit
variable{G:Nat->Option (Nat×(Nat->Ad))}
noncomputable def Om:As:=(Dr (Dv IY) (fun l=>1<=l.1/\l.1<=1000) fun l=> .view 2 l.1 fun i j=>(l.2 i).c j).mine 140
noncomputable abbrev SBk:List (FuncId×As):=[(57,NF),(146,RB),(104,D3),(141,TV),(98,Om),(66,Jp),(83,NV)]
abbrev IBk:List (FuncId×Ax):=[(144,Nu),(162,TY),(103,IV),(145,UX),(138,TK),(119,X5),(120,Yc),(122,Uo),(121,UV),(139,SH),(157,Zu),(140,QX),(67,a67),(68,Vh)]
noncomputable abbrev XBk:List (FuncId×Nat×As):=[(161,0,Xc)]
abbrev CBk:List (FuncId×Option (TypeId×IntKind)):=[(102,some (164,.u8))]
noncomputable abbrev HQ(G:Nat->Option (Nat×(Nat->Ad))):Db:=LI G SBk IBk XBk [] CBk
abbrev O0(r:Ro)(p d:Nat):Ad:= .cons (.int .i64 r.days) (.cons (.view 3 r.holds.1 fun a b=>(r.holds.2 a).c b) (.cons (.own (.n p)) (.cons (.mapb (.n d)) .nil)))
structure D2(r:Ro)(z p d:Nat)(P:Pz)(has:Int->Bool)(mf:Int->Ad)(bx:Bx)(nx:Nat):Prop where
 hz:Ab bx (.n z)=some (.cells (O0 r p d))
 hp:Ab bx (.n p)=some (.row 107 5 P.1 fun i j=>(P.2 i).c j)
 hd:Ab bx (.n d)=some (.mp .i64 has mf)
 zn:z<nx
 pn:p<nx
 dn:d<nx
 zp:z≠p
 dp:d≠p
 zd:z≠d
 fre:∀y,nx<=y->Ab bx (.n y)=none
 oth:∀y c,y≠ .n z->Ab bx y=some c->∀v,BU (.n p) v c=c
theorem ZM(P:Pz)(i:Nat)(c:Int):(fun a b=>if a=i/\1<=b/\b<2 then Az (.cons (.int .i64 c) .nil) (b-1)else(P.2 a).c b)=fun a b=>((fun k=>if k=i then{P.2 k with turn:=⟨(P.2 k).turn.fro,c⟩}else P.2 k) a).c b:=by
 funext a b
 by_cases e:a=i
 ·subst e
  simp only[if_true,true_and]
  by_cases e2:1<=b/\b<2
  ·obtain rfl:b=1:=by omega
   rw[if_pos e2];rfl
  rw[if_neg e2]
  rcases b with _|_|_|_|_|b
  ·rfl
  ·exact absurd ⟨by omega,by omega⟩ e2
  all_goals rfl
 rw[if_neg fun h=>e h.1]
 simp only[if_neg e]
theorem Yl(p:Nat->Pi)(i:Nat)(c:Int):Ru (fun k=>if k=i then{p k with turn:=⟨(p k).turn.fro,c⟩}else p k) (i+1) ⟨⟨c,(p i).turn.til⟩,(p i).owner,(p i).lent,(p i).til⟩=Dz p i c:=by
 funext k
 unfold Ru Dz
 dsimp only
 by_cases e1:k<i
 ·rw[if_pos (by omega),if_pos e1,if_neg (by omega)]
 by_cases e2:k=i
 ·subst e2;rw[if_pos (by omega),if_pos rfl,if_neg e1,if_pos rfl]
 by_cases e3:k=i+1
 ·subst e3;rw[if_neg (by omega),if_pos rfl,if_neg e1,if_neg e2,if_pos rfl]
 rw[if_neg (by omega),if_neg e3,if_neg e1,if_neg e2,if_neg e3,if_neg (by omega)]
def Es(p:Nat)(bx bx':Bx):Prop:=∀y v,y≠ .n p->Ab bx y=some v->Ab bx' y=some v
theorem Es.refl(p:Nat)(bx:Bx):Es p bx bx:=fun _ _ _ h=>h
theorem Es.trans{p:Nat}{b1 b2 b3:Bx}(h:Es p b1 b2)(k:Es p b2 b3):Es p b1 b3:=fun y v hy hb=>k y v hy (h y v hy hb)
theorem Ae(n:Nat)(c:Cw)(l:Bx)(y:Bn):Ab ((n,.one c)::l) y=if y= .n n then some c else Ab l y:=by
 cases y with
 |n x=>
  simp only[Ab,Bn.n.injEq]
  by_cases e:n=x
  ·subst e;simp
  rw[if_neg e,if_neg (fun h=>e h.symm)]
 |f a z=>simp[Ab]
section
variable{r:Ro}{z p d:Nat}{P:Pz}{has:Int->Bool}{mf:Int->Ad}{bx:Bx}{nx:Nat}
theorem D2.cons(h:D2 r z p d P has mf bx nx){c:Cw}(hc:∀v,BU (.n p) v c=c):D2 r z p d P has mf ((nx,.one c)::bx) (nx+1):=by
 have zn:=h.zn;have pn:=h.pn;have dn:=h.dn
 refine⟨?_,?_,?_,by omega,by omega,by omega,h.zp,h.dp,h.zd,fun y hy=> ?_,fun y b hy hb v=> ?_⟩
 ·rw[Ae,if_neg (by simp;omega)];exact h.hz
 ·rw[Ae,if_neg (by simp;omega)];exact h.hp
 ·rw[Ae,if_neg (by simp;omega)];exact h.hd
 ·rw[Ae,if_neg (by simp;omega)];exact h.fre y (by omega)
 rw[Ae]at hb
 split at hb
 ·cases hb;exact hc v
 exact h.oth y b hy hb v
theorem D2.other(hs:D2 r z p d P has mf bx nx){h:Nat}{c:Cw}(h1:z≠h)(h2:p≠h)(h3:d≠h)(h4:h<nx)(hc:∀v,BU (.n p) v c=c):D2 r z p d P has mf (Aj bx (.n h) c) nx:=by
 refine⟨?_,?_,?_,hs.zn,hs.pn,hs.dn,hs.zp,hs.dp,hs.zd,fun y hy=> ?_,fun y b hy hb v=> ?_⟩
 ·rw[Ac,if_neg (by simp;omega)];exact hs.hz
 ·rw[Ac,if_neg (by simp;omega)];exact hs.hp
 ·rw[Ac,if_neg (by simp;omega)];exact hs.hd
 ·rw[Ac,if_neg (by simp;omega)];exact hs.fre y hy
 rw[Ac]at hb
 split at hb
 ·cases hb;exact hc v
 exact hs.oth y b hy hb v
theorem D2.hold(h:D2 r z p d P has mf bx nx)(c:Cw):Es p bx ((nx,.one c)::bx):=fun y v _ hb=>by
 rw[Ae,if_neg]
 ·exact hb
 rintro rfl;rw[h.fre nx (Nat.le_refl _)]at hb;cases hb
theorem D2.row(h:D2 r z p d P has mf bx nx){P':Pz}{bx':Bx}(hp:Ab bx' (.n p)=some (.row 107 5 P'.1 fun i j=>(P'.2 i).c j))(ho:∀y,y≠ .n p->Ab bx' y=Ab bx y):D2 r z p d P' has mf bx' nx/\Es p bx bx':=by
 have zp:=h.zp;have dp:=h.dp
 refine⟨⟨?_,hp,?_,h.zn,h.pn,h.dn,zp,dp,h.zd,fun y hy=> ?_,fun y b hy hb v=> ?_⟩,fun y v hy hb=>by rw[ho y hy];exact hb⟩
 ·rw[ho _ (by simp;omega)];exact h.hz
 ·rw[ho _ (by simp;omega)];exact h.hd
 ·have:=h.pn;rw[ho _ (by simp;omega)];exact h.fre y hy
 by_cases e:y= .n p
 ·subst e;rw[hp]at hb;cases hb;rfl
 rw[ho y e]at hb;exact h.oth y b hy hb v
theorem D2.ins(h:D2 r z p d P has mf bx nx)(P':Pz)(R:Cw):D2 r z p d P' has mf (Aj (Aj (AJ (.n p) .und (Aj bx (.n p) R)) (.n p) (.row 107 5 P'.1 fun i j=>(P'.2 i).c j)) (.n z) (.cells (O0 r p d))) nx/\Es p bx (Aj (Aj (AJ (.n p) .und (Aj bx (.n p) R)) (.n p) (.row 107 5 P'.1 fun i j=>(P'.2 i).c j)) (.n z) (.cells (O0 r p d))):=by
 have zp:=h.zp
 refine h.row ?_ fun y hy=> ?_
 ·rw[Ac,if_neg (by simp;omega),Ac,if_pos rfl]
 rw[Ac]
 by_cases e:y= .n z
 ·subst e;rw[if_pos rfl];exact h.hz.symm
 rw[if_neg e,Ac,if_neg hy,AP,Ac,if_neg hy]
 cases hb:Ab bx y with
 |none=>rfl
 |some c=>exact congrArg some (h.oth y c e hb _)
end
theorem MY{Q:Ad->Bx->Prop}{r:Ro}{z p d:Nat}{P:Pz}{has:Int->Bool}{mf:Int->Ad}{bx:Bx}{nx:Nat}{c:Int}{f:Av}{stk:List Av}{B:Nat}(hB:300<=B)(hs:D2 r z p d P has mf bx nx)(hl:P.1<=90000)(HS:∀v,AC (.n p) v stk=stk)
  (hK:∀B' bx' nx',B<=B'+300->D2 r z p d (CT P c) has mf bx' nx'->Es p bx bx'->nx<=nx'->∀fr',fr'=f.fr\/fr'=AK (.n p) .und f.fr->AA (HQ G) Q B' f.K stk f.res (Ai fr' f.d (.tup .nil)) bx' nx'):
  AA (HQ G) Q B [.code Nu.code] (f::stk) Nu.res (params 0 [.ptr (.n z) 0,.int .i64 c]) bx nx:=by
 obtain⟨B,rfl⟩:∃m,B=m+250:=⟨B-250,by omega⟩
 have hz:=hs.hz;have hp:=hs.hp;have zn:=hs.zn;have pn:=hs.pn;have dn:=hs.dn;have zp:=hs.zp
 have n1:(nx=z)=False:=eq_false (by omega)
 have n2:(nx=p)=False:=eq_false (by omega)
 have n3:(nx=d)=False:=eq_false (by omega)
 have n4:(nx+1=z)=False:=eq_false (by omega)
 have n5:(nx+1=p)=False:=eq_false (by omega)
 have n6:(nx+1=nx)=False:=eq_false (by omega)
 have n7:(nx+1+1=z)=False:=eq_false (by omega)
 have n8:(nx+1+1=p)=False:=eq_false (by omega)
 have n9:(nx+1+1=nx)=False:=eq_false (by omega)
 have n10:(nx+1+1=nx+1)=False:=eq_false (by omega)
 have m1:(z=nx)=False:=eq_false (by omega)
 have m2:(p=nx)=False:=eq_false (by omega)
 have m3:(z=p)=False:=eq_false (by omega)
 have m4:(p=z)=False:=eq_false (by omega)
 have m5:(z=nx+1)=False:=eq_false (by omega)
 have m6:(p=nx+1)=False:=eq_false (by omega)
 have m7:(nx=nx+1)=False:=eq_false (by omega)
 have m8:(nx=nx+1+1)=False:=eq_false (by omega)
 have m9:(nx+1=nx+1+1)=False:=eq_false (by omega)
 have m10:(z=nx+1+1)=False:=eq_false (by omega)
 have m11:(p=nx+1+1)=False:=eq_false (by omega)
 have dp:=hs.dp
 have m12:(d=p)=False:=eq_false (by omega)
 have hlw:(P.1<=9223372036854775807)=True:=eq_true (by omega)
 have hl9:(P.1<=100000)=True:=eq_true (by omega)
 by_cases hi:Co (K9 P c) P.1<P.1
 ·have hfi:Iq P (.cut c)=(Co (K9 P c) P.1:Nat):=if_pos hi
  have hcz:CT P c=(P.1+1,Dz P.2 (Co (K9 P c) P.1) c):=if_pos hi
  rw[hcz]at hK
  generalize Co (K9 P c) P.1=i at*
  have f0:((i:Int)<0)=False:=eq_false (by omega)
  have w1:IntKind.i64.wrap ((i:Int)+1)=((i+1:Nat):Int):=Cs (by omega)
  simp only[Nu,NF,Xc,Ak,Ag,AZ,ZM,hfi,f0,w1,hl9,hz,hp,Int.toNat_natCast,Ac,AP,Yl,n1,n2,n4,n5,n6,n7,n8,m3,m12,HS,↓reduceIte,reduceCtorEq,Nat.reduceEqDiff,Nat.reduceAdd,Nat.reduceLeDiff,Nat.reduceLT,go_sem]
  have hc1:=(hs.ins (P.1+1,Dz P.2 i c) (.row 107 5 P.1 fun a b=>(if a=i then{turn:={fro:=(P.2 a).turn.fro,til:=c},owner:=(P.2 a).owner,lent:=(P.2 a).lent,til:=(P.2 a).til}else P.2 a).c b))
  have hc2:=hc1.1.cons (c:= .cells (.cons (.int .i64 c) .nil)) fun _=>rfl
  have hc3:=hc2.cons (c:= .cells (.cons (.int .i64 c) (.cons (.int .i64 (P.2 i).turn.til) (.cons (.int .i64 (P.2 i).owner) (.cons (.int .i64 (P.2 i).lent) (.cons (.int .i64 (P.2 i).til) .nil)))))) fun _=>rfl
  have hc4:=hc3.cons (c:= .row 107 5 1 fun i_1 j=>Az (Az (.cons (.cons (.int .i64 c) (.cons (.int .i64 (P.2 i).turn.til) (.cons (.int .i64 (P.2 i).owner) (.cons (.int .i64 (P.2 i).lent) (.cons (.int .i64 (P.2 i).til) .nil))))) .nil) i_1) j) fun _=>rfl
  refine⟨by omega,by omega,by omega,by omega,fun q hq=> ?_,by omega,by omega,by omega,?_⟩
  ·obtain rfl:q=0:=by omega
   exact⟨rfl,rfl,rfl,rfl,rfl⟩
  exact hK (B+180) _ _ (by omega) hc4 (((hc1.2.trans (hc1.1.hold _)).trans (hc2.hold _)).trans (hc3.hold _)) (by omega) _ (.inr rfl)
 have hfi:Iq P (.cut c)= -1:=if_neg hi
 have hcz:CT P c=P:=if_neg hi
 rw[hcz]at hK
 have f0:((-1:Int)<0)=True:=eq_true (by omega)
 simp only[Nu,NF,Ak,Ag,AZ,hfi,f0,hl9,hz,hp,n1,n2,↓reduceIte,reduceCtorEq,Nat.reduceEqDiff,Nat.reduceAdd,Nat.reduceLeDiff,Int.reduceNeg,go_sem]
 exact hK (B+228) _ _ (by omega) (hs.cons fun _=>rfl) (hs.hold _) (by omega) _ (.inl rfl)
theorem PV{Q:Ad->Bx->Prop}{r:Ro}{z p d:Nat}{P:Pz}{has:Int->Bool}{mf:Int->Ad}{bx:Bx}{nx:Nat}{c:Int}{f:Av}{stk:List Av}{B:Nat}(hB:300<=B)(hs:D2 r z p d P has mf bx nx)(hl:P.1<=90000)(HF:∀v,AK (.n p) v f.fr=f.fr)(HS:∀v,AC (.n p) v stk=stk)
  (hK:∀B' bx' nx',B<=B'+300->D2 r z p d (CT P c) has mf bx' nx'->Es p bx bx'->nx<=nx'->AA (HQ G) Q B' f.K stk f.res (Ai f.fr f.d (.tup .nil)) bx' nx'):
  AA (HQ G) Q B [.code Nu.code] (f::stk) Nu.res (params 0 [.ptr (.n z) 0,.int .i64 c]) bx nx:=
 MY hB hs hl HS fun B' bx' nx' h1 h2 h3 h4 fr' h5=>by
  have:fr'=f.fr:=h5.elim id fun e=>e.trans (HF _)
  rw[this];exact hK B' bx' nx' h1 h2 h3 h4
end Go.Proofs.YtlieoghhkioflaaGreat
namespace Go.Proofs.YtlieoghhkioflaaGreat
open Go Go.RowKit
variable{P:Pz}{t:Tu}
variable{G:Nat->Option (Nat×(Nat->Ad))}
theorem Wk(h:Cn P t<P.1):Iq P (.fro ⟨t.fro,t.til⟩)=(Cn P t:Nat):=if_pos h
theorem Xb(h:CS P t<P.1):Iq P (.til ⟨t.fro,t.til⟩)=(CS P t:Nat):=if_pos h
theorem ZP{Q:Ad->Bx->Prop}{r:Ro}{z p d N:Nat}{has:Int->Bool}{mf:Int->Ad}{bx:Bx}{nx:Nat}{f:Av}{stk:List Av}{B:Nat}(hB:1000<=B)(hs:D2 r z p d P has mf bx nx)(hk:BG N P)(hN:N<=23040)(t0:0<=t.fro)(t1:t.fro<t.til)(t2:t.til<=N)(HF:∀v,AK (.n p) v f.fr=f.fr)(HS:∀v,AC (.n p) v stk=stk)
  (hK:∀B' bx' nx',B<=B'+1000->D2 r z p d (Cl P t) has mf bx' nx'->Es p bx bx'->nx<=nx'->AA (HQ G) Q B' f.K stk f.res (Ai f.fr f.d (.osl (.n p) (Cn (Cl P t) t) (CS (Cl P t) t+1-Cn (Cl P t) t))) bx' nx'):
  AA (HQ G) Q B [.code TY.code] (f::stk) TY.res (params 0 [.ptr (.n z) 0,.agg (.cons (.int .i64 t.fro) (.cons (.int .i64 t.til) .nil))]) bx nx:=by
 obtain⟨B,rfl⟩:∃m,B=m+990:=⟨B-990,by omega⟩
 have hz:=hs.hz;have hp:=hs.hp;have zn:=hs.zn;have pn:=hs.pn;have dn:=hs.dn;have zp:=hs.zp;have dp:=hs.dp
 have n1:(nx=z)=False:=eq_false (by omega)
 have n2:(nx=p)=False:=eq_false (by omega)
 have m1:(z=nx)=False:=eq_false (by omega)
 have m2:(p=nx)=False:=eq_false (by omega)
 have m3:(z=p)=False:=eq_false (by omega)
 have m4:(p=z)=False:=eq_false (by omega)
 have hl:=hk.len
 have k1:=Iu hk t.fro
 have l1:=k1.len
 have hO:=KW hk t0 t1 t2
 have l2:=hO.ok.len
 simp only[TY,↓reduceIte,reduceCtorEq,Nat.reduceEqDiff,Nat.reduceAdd,Nat.reduceLeDiff,go_sem]
 have hs1:=hs.cons (c:= .cells (.cons (.int .i64 t.fro) (.cons (.int .i64 t.til) .nil))) fun _=>rfl
 refine PV (by omega) hs1 (by omega) (fun v=> ?_) (fun v=> ?_) fun B1 bx1 nx1 hB1 hs2 hh1 hn1=> ?_
 ·simp only[n2,m3,↓reduceIte,go_sem]
 ·simp only[AC,HF,HS]
 obtain⟨B1,rfl⟩:∃m,B1=m+600:=⟨B1-600,by omega⟩
 have hT1:Ab bx1 (.n nx)=some (.cells (.cons (.int .i64 t.fro) (.cons (.int .i64 t.til) .nil))):=hh1 _ _ (by simp;omega) (by rw[Ae,if_pos rfl])
 simp only[hT1,↓reduceIte,reduceCtorEq,Nat.reduceEqDiff,Nat.reduceAdd,go_sem]
 refine PV (by omega) hs2 (by omega) (fun v=> ?_) (fun v=> ?_) fun B2 bx2 nx2 hB2 hs3 hh2 hn2=> ?_
 ·simp only[n2,m3,↓reduceIte,go_sem]
 ·simp only[AC,HF,HS]
 obtain⟨B2,rfl⟩:∃m,B2=m+290:=⟨B2-290,by omega⟩
 have hT2:Ab bx2 (.n nx)=some (.cells (.cons (.int .i64 t.fro) (.cons (.int .i64 t.til) .nil))):=hh2 _ _ (by simp;omega) hT1
 have hs3:D2 r z p d (Cl P t) has mf bx2 nx2:=hs3
 generalize Cl P t=R at*
 have hz2:=hs3.hz;have hp2:=hs3.hp
 have hlw:(R.1<=9223372036854775807)=True:=eq_true (by omega)
 have hl9:(R.1<=100000)=True:=eq_true (by omega)
 have e1:=Wk hO.f
 have e2:=Xb hO.l
 have hfl:=hO.fl
 have hf:=hO.f
 have hl':=hO.l
 have w1:IntKind.i64.wrap (((CS R t:Nat):Int)+1)=((CS R t+1:Nat):Int):=Cs (by omega)
 simp only[NF,Ak,Ag,AZ,hz2,hp2,hT2,hl9,e1,e2,w1,Int.toNat_natCast,↓reduceIte,reduceCtorEq,Nat.reduceEqDiff,Nat.reduceAdd,Nat.reduceLeDiff,go_sem]
 have w2:(((CS R t+1:Nat):Int)-((Cn R t:Nat):Int)).toNat=CS R t+1-Cn R t:=by omega
 rw[w2]
 exact⟨by omega,by omega,by omega,hK (B2+256) _ _ (by omega) hs3 (((hs.hold _).trans hh1).trans hh2) (by omega)⟩
end Go.Proofs.YtlieoghhkioflaaGreat
namespace Go.Proofs.YtlieoghhkioflaaGreat
open Go Go.RowKit
variable{G:Nat->Option (Nat×(Nat->Ad))}
theorem PS{Q:Ad->Bx->Prop}{r:Ro}{z p d N:Nat}{P:Pz}{has:Int->Bool}{mf:Int->Ad}{bx:Bx}{nx:Nat}{x:De}{f:Av}{stk:List Av}{B:Nat}(hB:1300<=B)(hs:D2 r z p d P has mf bx nx)(hk:BG N P)(hN:N<=23040)(t0:0<=x.turn.fro)(t1:x.turn.fro<x.turn.til)(t2:x.turn.til<=N)(HF:∀v,AK (.n p) v f.fr=f.fr)(HS:∀v,AC (.n p) v stk=stk)
  (hK:∀B' bx' nx',B<=B'+1300->(∀i,Cn (Cl P x.turn) x.turn<=i->i<=CS (Cl P x.turn) x.turn->((Cl P x.turn).2 i).owner=x.fro)->D2 r z p d (Cl P x.turn) has mf bx' nx'->Es p bx bx'->nx<=nx'->AA (HQ G) Q B' f.K stk f.res (Ai f.fr f.d (.osl (.n p) (Cn (Cl P x.turn) x.turn) (CS (Cl P x.turn) x.turn+1-Cn (Cl P x.turn) x.turn))) bx' nx')
  (hP:∀B' bx' nx',B<=B'+1300->¬(∀i,Cn (Cl P x.turn) x.turn<=i->i<=CS (Cl P x.turn) x.turn->((Cl P x.turn).2 i).owner=x.fro)->D2 r z p d (Cl P x.turn) has mf bx' nx'->Es p bx bx'->nx<=nx'->EY f.K=true/\IP (AA (HQ G) Q B' []) 164 .u8 2 stk (Bl f.K) f.res f.fr bx' nx'):
  AA (HQ G) Q B [.code UX.code] (f::stk) UX.res (params 0 [.ptr (.n z) 0,.agg x.L]) bx nx:=by
 obtain⟨B,rfl⟩:∃m,B=m+1290:=⟨B-1290,by omega⟩
 have hz:=hs.hz;have hp:=hs.hp;have zn:=hs.zn;have pn:=hs.pn;have dn:=hs.dn;have zp:=hs.zp;have dp:=hs.dp
 have n1:(nx=z)=False:=eq_false (by omega)
 have n2:(nx=p)=False:=eq_false (by omega)
 have m1:(z=nx)=False:=eq_false (by omega)
 have m2:(p=nx)=False:=eq_false (by omega)
 have m3:(z=p)=False:=eq_false (by omega)
 have m4:(p=z)=False:=eq_false (by omega)
 have hO:=KW hk t0 t1 t2
 have l2:=hO.ok.len
 simp only[UX,↓reduceIte,reduceCtorEq,Nat.reduceEqDiff,Nat.reduceAdd,Nat.reduceLeDiff,go_sem]
 have hs1:=hs.cons (c:= .cells x.L) fun _=>rfl
 refine ZP (by omega) hs1 hk hN t0 t1 t2 (fun v=> ?_) (fun v=> ?_) fun B1 bx1 nx1 hB1 hs2 hh1 hn1=> ?_
 ·simp only[n2,m3,↓reduceIte,go_sem]
 ·simp only[AC,HF,HS]
 obtain⟨B1,rfl⟩:∃m,B1=m+270:=⟨B1-270,by omega⟩
 have hT1:Ab bx1 (.n nx)=some (.cells x.L):=hh1 _ _ (by simp;omega) (by rw[Ae,if_pos rfl];rfl)
 have hh:=(hs.hold _).trans hh1
 generalize Cl P x.turn=R at*
 have hf:=hO.f
 have hl:=hO.l
 have hfl:=hO.fl
 have hp2:=hs2.hp
 simp only[go_sem]at hT1
 have hl9:(CS R x.turn+1-Cn R x.turn<=100000)=True:=eq_true (by omega)
 by_cases hA:∀i,Cn R x.turn<=i->i<=CS R x.turn->(R.2 i).owner=x.fro
 ·have e1:A8 (∃i,i<CS R x.turn+1-Cn R x.turn/\(HP.his x).T (R.2 (Cn R x.turn+i)))=false:=Am fun⟨i,h1,h2⟩=>h2 (hA _ (by omega) (by omega))
  simp only[IV,RB,Ak,Ag,AZ,hp2,hT1,hl9,e1,De.eta,↓reduceIte,Nat.reduceEqDiff,Nat.reduceAdd,go_sem]
  exact hK (B1+246) _ _ (by omega) hA hs2 hh (by omega)
 have e1:A8 (∃i,i<CS R x.turn+1-Cn R x.turn/\(HP.his x).T (R.2 (Cn R x.turn+i)))=true:=At (by
  apply Classical.byContradiction
  intro hn
  refine hA fun i h1 h2=> ?_
  apply Classical.byContradiction
  intro h3
  exact hn ⟨i-Cn R x.turn,by omega,by rw[show Cn R x.turn+(i-Cn R x.turn)=i by omega];exact h3⟩)
 simp only[IV,RB,Ak,Ag,AZ,hp2,hT1,hl9,e1,De.eta,↓reduceIte,reduceCtorEq,Nat.reduceEqDiff,Nat.reduceAdd,go_sem]
 exact hP (B1+251) _ _ (by omega) hA hs2 hh (by omega)
end Go.Proofs.YtlieoghhkioflaaGreat
namespace Go.Proofs.YtlieoghhkioflaaGreat
open Go Go.RowKit
variable{c0:Cw}{nx:Nat}
variable{G:Nat->Option (Nat×(Nat->Ad))}
theorem Ns{bx0 bx1:Bx}{nx':Nat}{fr1 fr':Fr}{b:Bn}{c1 n1:Cw}(hn:nx<=nx')(h1:Ab bx0 b=some c0)(g1:Ab bx1 b=some c1)
  (hold:∀y,y≠b->∀c,Ab bx0 y=some c->Ab bx1 y=some c) (v1:∀N D,By N D (some c1) n1)
  (hfr:DZ (BT bx1 (Aj bx0 b n1)) (Fc (Aj bx0 b n1)) fr1 fr'):LY bx0 nx fr1 bx1 fr' (Aj bx0 b n1) nx':=by
 refine⟨none,trivial,hn,hfr,fun y c hy=> ?_,fun y c hy=> ?_,fun y c0' c1' q0 q1=> ?_⟩
 ·rw[Ac]at hy
  by_cases e1:y=b
  ·subst e1;rw[if_pos rfl]at hy;cases hy
   right
   show By _ _ (Ab bx1 y) _
   rw[g1];exact v1 _ _
  rw[if_neg e1]at hy;exact .inl ⟨hy,hold y e1 c hy⟩
 ·rw[Ac]at hy
  by_cases e1:y=b
  ·subst e1;exact .inl ⟨_,h1⟩
  rw[if_neg e1]at hy;exact .inl ⟨_,hy⟩
 rw[Ac]
 by_cases e1:y=b
 ·subst e1;rw[g1]at q1;cases q1;rw[if_pos rfl];exact⟨_,rfl,Ed (v1 (fun _=>False) fun _=>False)⟩
 rw[if_neg e1,q0]
 rw[hold y e1 c0' q0]at q1;cases q1
 exact⟨_,rfl,CR.refl _⟩
theorem Ie{E:Db}{Qf:Ad->Bx->Prop}{ι:Type}(Pi:ι->Prop)(μ:ι->Nat)(keep:List Nat)(sl:ι->Fr)(b:Bn)(bs:ι->Cw){n:Nat}{c:Cm}{K:List BY}{stk:List Av}{res:List B6}{fr:Fr}{bx:Bx}(hb:Ab bx b=some c0)(i:ι)(hi:Pi i)(hv:∀N D,By N D (some c0) (bs i))
  (hfr:DZ (BT bx (Aj bx b (bs i))) (Fc (Aj bx b (bs i))) fr (F2 (sl i) (D0 keep fr)))
  (hr:∀i,Pi i->AA E Qf n (.code c:: .inv (fun s fr1 bx1=>s=Eo stk/\∃m',m'<μ i/\∃fr'' bx'',F8 Pi μ (fun i=>F2 (sl i) (D0 keep fr)) (fun i=>Aj bx b (bs i)) m' fr'' bx''/\GU (Ez stk) bx fr1 bx1 fr'' bx'' nx nx)::K) stk res (F2 (sl i) (D0 keep fr)) (Aj bx b (bs i)) nx):
  FL (AA E Qf n) c K stk res fr bx nx:=
 DO Pi μ _ _ 0 i hi (.inr (Ns (Nat.le_refl _) hb hb (fun _ _ _ h=>h) hv hfr)) hr
theorem JP{ι:Type}{Pi:ι->Prop}{μ:ι->Nat}{sl:ι->Fr}{b:Bn}{bs:ι->Cw}{m:Nat}{ns:List Nat}{fr1:Fr}{bx0 bx1:Bx}{c1:Cw}(hb:Ab bx0 b=some c0)(j:ι)(hj:Pi j)(hm:μ j<m)(g1:Ab bx1 b=some c1)(v1:∀N D,By N D (some c1) (bs j))(hold:∀y,y≠b->∀c,Ab bx0 y=some c->Ab bx1 y=some c)
  (hfr:DZ (BT bx1 (Aj bx0 b (bs j))) (Fc (Aj bx0 b (bs j))) fr1 (sl j)):
  ∃m',m'<m/\∃fr'' bx'',F8 Pi μ sl (fun i=>Aj bx0 b (bs i)) m' fr'' bx''/\GU ns bx0 fr1 bx1 fr'' bx'' nx nx:=
 En j hj hm (Ns (Nat.le_refl _) hb g1 hold v1 hfr)
def JG(P:Pz)(f:Nat)(v:Int)(j k:Nat):Pi:=if f<=k/\k<f+j then{P.2 k with owner:=v}else P.2 k
theorem Tk(P:Pz)(f:Nat)(v:Int)(k:Nat):JG P f v 0 k=P.2 k:=if_neg (by omega)
theorem SE(P:Pz)(f:Nat)(v:Int)(j k b:Nat):(JG P f v (j+1) k).c b=if k=f+j/\2<=b/\b<3 then Az (.cons (.int .i64 v) .nil) (b-2)else(JG P f v j k).c b:=by
 unfold JG
 by_cases e:k=f+j
 ·subst e
  rw[if_pos (by omega),if_neg (show¬(f<=f+j/\f+j<f+j) by omega)]
  by_cases e2:2<=b/\b<3
  ·obtain rfl:b=2:=by omega
   rw[if_pos ⟨rfl,e2⟩];rfl
  rw[if_neg fun h=>e2 h.2]
  rcases b with _|_|_|_|_|b
  ·rfl
  ·rfl
  ·exact absurd ⟨by omega,by omega⟩ e2
  all_goals rfl
 rw[if_neg (show¬(k=f+j/\2<=b/\b<3)from fun h=>e h.1)]
 by_cases e3:f<=k/\k<f+j
 ·rw[if_pos e3,if_pos (by omega)]
 rw[if_neg e3,if_neg (by omega)]
theorem MC(P:Pz){f l:Nat}(h:f<=l)(v:Int):(P.1,JG P f v (l+1-f))=setO P f l v:=by
 unfold setO
 congr 1
 funext k
 unfold JG
 by_cases e:f<=k/\k<=l
 ·rw[if_pos e,if_pos (by omega)]
 rw[if_neg e,if_neg (by omega)]
theorem MM{Q:Ad->Bx->Prop}{r:Ro}{z p d N:Nat}{P:Pz}{has:Int->Bool}{mf:Int->Ad}{bx:Bx}{x:De}{v:Int}{f:Av}{stk:List Av}{B:Nat}(hB:1600<=B)(hs:D2 r z p d P has mf bx nx)(hk:BG N P)(hN:N<=23040)(t0:0<=x.turn.fro)(t1:x.turn.fro<x.turn.til)(t2:x.turn.til<=N)(HF:∀v,AK (.n p) v f.fr=f.fr)(HS:∀v,AC (.n p) v stk=stk)
  (hK:∀B' bx' nx',B<=B'+1600->(∀i,Cn (Cl P x.turn) x.turn<=i->i<=CS (Cl P x.turn) x.turn->((Cl P x.turn).2 i).owner=x.fro)->D2 r z p d (setO (Cl P x.turn) (Cn (Cl P x.turn) x.turn) (CS (Cl P x.turn) x.turn) v) has mf bx' nx'->Es p bx bx'->nx<=nx'->AA (HQ G) Q B' f.K stk f.res (Ai f.fr f.d (.tup .nil)) bx' nx')
  (hP:∀B' bx' nx',B<=B'+1600->¬(∀i,Cn (Cl P x.turn) x.turn<=i->i<=CS (Cl P x.turn) x.turn->((Cl P x.turn).2 i).owner=x.fro)->D2 r z p d (Cl P x.turn) has mf bx' nx'->Es p bx bx'->nx<=nx'->EY f.K=true/\IP (AA (HQ G) Q B' []) 164 .u8 2 stk (Bl f.K) f.res f.fr bx' nx'):
  AA (HQ G) Q B [.code TK.code] (f::stk) TK.res (params 0 [.ptr (.n z) 0,.agg x.L,.int .i64 v]) bx nx:=by
 obtain⟨B,rfl⟩:∃m,B=m+1590:=⟨B-1590,by omega⟩
 have hz:=hs.hz;have hp:=hs.hp;have zn:=hs.zn;have pn:=hs.pn;have dn:=hs.dn;have zp:=hs.zp;have dp:=hs.dp
 have n1:(nx=z)=False:=eq_false (by omega)
 have n2:(nx=p)=False:=eq_false (by omega)
 have m1:(z=nx)=False:=eq_false (by omega)
 have m2:(p=nx)=False:=eq_false (by omega)
 have m3:(z=p)=False:=eq_false (by omega)
 have m4:(p=z)=False:=eq_false (by omega)
 have hO:=KW hk t0 t1 t2
 have l2:=hO.ok.len
 simp only[TK,↓reduceIte,reduceCtorEq,Nat.reduceEqDiff,Nat.reduceAdd,Nat.reduceSub,Nat.reducePow,go_sem]
 have hs1:=hs.cons (c:= .cells x.L) fun _=>rfl
 intro _
 refine PS (x:=x) (by omega) hs1 hk hN t0 t1 t2 (fun v=> ?_) (fun v=> ?_) (fun B1 bx1 nx1 hB1 hA hs2 hh1 hn1=> ?_) fun B1 bx1 nx1 hB1 hA hs2 hh1 hn1=> ?_
 ·simp only[n2,m3,↓reduceIte,go_sem]
 ·simp only[AC,HF,HS]
 ·obtain⟨B1,rfl⟩:∃m,B1=m+270:=⟨B1-270,by omega⟩
  have hh:=(hs.hold (.cells x.L)).trans hh1
  have hf:=hO.f
  have hl:=hO.l
  have hfl:=hO.fl
  generalize hR:Cl P x.turn=R at*
  have hp2:=hs2.hp;have hz2:=hs2.hz
  simp only[↓reduceIte,go_sem]
  refine Ie (ι:=Nat) (fun j=>j<=CS R x.turn+1-Cn R x.turn) (fun j=>CS R x.turn+1-Cn R x.turn-j) [2,6,12] (fun j=>[(13,.int .i64 j)]) (.n p) (fun j=> .row 107 5 R.1 fun a b=>(JG R (Cn R x.turn) v j a).c b) hp2 0 (Nat.zero_le _) (fun N D=>⟨rfl,rfl,rfl,fun i _ b _=>(by show AB ((JG R (Cn R x.turn) v 0 i).c b) ((R.2 i).c b);rw[Tk];exact BP _)⟩) ?_ fun j hj=> ?_
  ·simp only[↓reduceIte,reduceCtorEq,Nat.reduceEqDiff,go_sem]
   exact⟨rfl,_,by rw[Ac,if_pos rfl]⟩
  rcases Nat.lt_or_ge j (CS R x.turn+1-Cn R x.turn)with hlt|hge
  ·have f1:((j:Int)<((CS R x.turn+1-Cn R x.turn:Nat):Int))=True:=eq_true (by omega)
   simp only[f1,Ac,Int.toNat_natCast,↓reduceIte,reduceCtorEq,Nat.reduceEqDiff,Nat.reduceAdd,Nat.reduceLeDiff,go_sem]
   refine⟨by omega,JP hp2 (j+1) hlt (by omega) ((Ac _ _ _ _).trans (if_pos rfl)) (fun N D=>⟨rfl,rfl,rfl,fun i _ b _=> ?_⟩) (fun y hy c hc=>by rw[Ac,if_neg hy,Ac,if_neg hy];exact hc) ?_⟩
   ·show AB ((JG R (Cn R x.turn) v (j+1) i).c b) _
    rw[SE];exact BP _
   simp only[↓reduceIte,Nat.reduceEqDiff,go_sem]
   rw[Cs (by omega)]
   exact⟨rfl,rfl,_,by rw[Ac,if_pos rfl]⟩
  have f1:((j:Int)<((CS R x.turn+1-Cn R x.turn:Nat):Int))=False:=eq_false (by omega)
  obtain rfl:j=CS R x.turn+1-Cn R x.turn:=by omega
  simp only[f1,↓reduceIte,reduceCtorEq,Nat.reduceEqDiff,go_sem]
  have e:=MC R hfl v
  have hc:=hs2.row (P':=setO R (Cn R x.turn) (CS R x.turn) v) (bx':=Aj bx1 (.n p) (.row 107 5 R.1 fun a b=>(JG R (Cn R x.turn) v (CS R x.turn+1-Cn R x.turn) a).c b)) (by rw[Ac,if_pos rfl,<-e]) fun y hy=>by rw[Ac,if_neg hy]
  exact hK (B1+252) _ _ (by omega) hA hc.1 (hh.trans hc.2) (by omega)
 obtain⟨B1,rfl⟩:∃m,B1=m+270:=⟨B1-270,by omega⟩
 simp only[go_sem]
 exact hP (B1+270) _ _ (by omega) hA hs2 ((hs.hold _).trans hh1) (by omega)
end Go.Proofs.YtlieoghhkioflaaGreat
namespace Go.Proofs.YtlieoghhkioflaaGreat
open Go Go.RowKit
variable{G:Nat->Option (Nat×(Nat->Ad))}
def Ky(P:Pz)(f:Nat)(v u:Int)(j k:Nat):Pi:=if f<=k/\k<f+j then{P.2 k with lent:=v,til:=u}else P.2 k
theorem Z1(P:Pz)(f:Nat)(v u:Int)(k:Nat):Ky P f v u 0 k=P.2 k:=if_neg (by omega)
theorem ZO(P:Pz)(f:Nat)(v u:Int)(j k b:Nat):(Ky P f v u (j+1) k).c b=if k=f+j/\4<=b/\b<5 then Az (.cons (.int .i64 u) .nil) (b-4)else if k=f+j/\3<=b/\b<4 then Az (.cons (.int .i64 v) .nil) (b-3)else(Ky P f v u j k).c b:=by
 unfold Ky
 by_cases e:k=f+j
 ·subst e
  rw[if_pos (by omega),if_neg (show¬(f<=f+j/\f+j<f+j) by omega)]
  by_cases e2:4<=b/\b<5
  ·obtain rfl:b=4:=by omega
   rw[if_pos ⟨rfl,e2⟩];rfl
  rw[if_neg fun h=>e2 h.2]
  by_cases e3:3<=b/\b<4
  ·obtain rfl:b=3:=by omega
   rw[if_pos ⟨rfl,e3⟩];rfl
  rw[if_neg fun h=>e3 h.2]
  rcases b with _|_|_|_|_|b
  ·rfl
  ·rfl
  ·rfl
  ·exact absurd ⟨by omega,by omega⟩ e3
  ·exact absurd ⟨by omega,by omega⟩ e2
  rfl
 rw[if_neg (show¬(k=f+j/\4<=b/\b<5)from fun h=>e h.1),if_neg (show¬(k=f+j/\3<=b/\b<4)from fun h=>e h.1)]
 by_cases e3:f<=k/\k<f+j
 ·rw[if_pos e3,if_pos (by omega)]
 rw[if_neg e3,if_neg (by omega)]
theorem Sy(P:Pz){f l:Nat}(h:f<=l)(v u:Int):(P.1,Ky P f v u (l+1-f))=NG P f l v u:=by
 unfold NG
 congr 1
 funext k
 unfold Ky
 by_cases e:f<=k/\k<=l
 ·rw[if_pos e,if_pos (by omega)]
 rw[if_neg e,if_neg (by omega)]
theorem U5{Q:Ad->Bx->Prop}{r:Ro}{z p d N:Nat}{P:Pz}{has:Int->Bool}{mf:Int->Ad}{bx:Bx}{nx:Nat}{x:De}{f:Av}{stk:List Av}{B:Nat}(hB:1600<=B)(hs:D2 r z p d P has mf bx nx)(hk:BG N P)(hN:N<=23040)(t0:0<=x.turn.fro)(t1:x.turn.fro<x.turn.til)(t2:x.turn.til<=N)(HF:∀v,AK (.n p) v f.fr=f.fr)(HS:∀v,AC (.n p) v stk=stk)
  (hK:∀B' bx' nx',B<=B'+1600->(∀i,Cn (Cl P x.turn) x.turn<=i->i<=CS (Cl P x.turn) x.turn->((Cl P x.turn).2 i).owner=x.fro)->(∀i,Cn (Cl P x.turn) x.turn<=i->i<=CS (Cl P x.turn) x.turn->¬(((Cl P x.turn).2 i).lent≠0/\x.day<((Cl P x.turn).2 i).til))->D2 r z p d (NG (Cl P x.turn) (Cn (Cl P x.turn) x.turn) (CS (Cl P x.turn) x.turn) x.tow x.til) has mf bx' nx'->Es p bx bx'->nx<=nx'->AA (HQ G) Q B' f.K stk f.res (Ai f.fr f.d (.tup .nil)) bx' nx')
  (hP:∀B' bx' nx',B<=B'+1600->¬(∀i,Cn (Cl P x.turn) x.turn<=i->i<=CS (Cl P x.turn) x.turn->((Cl P x.turn).2 i).owner=x.fro)->D2 r z p d (Cl P x.turn) has mf bx' nx'->Es p bx bx'->nx<=nx'->EY f.K=true/\IP (AA (HQ G) Q B' []) 164 .u8 2 stk (Bl f.K) f.res f.fr bx' nx')
  (hP3:∀B' bx' nx',B<=B'+1600->(∀i,Cn (Cl P x.turn) x.turn<=i->i<=CS (Cl P x.turn) x.turn->((Cl P x.turn).2 i).owner=x.fro)->¬(∀i,Cn (Cl P x.turn) x.turn<=i->i<=CS (Cl P x.turn) x.turn->¬(((Cl P x.turn).2 i).lent≠0/\x.day<((Cl P x.turn).2 i).til))->D2 r z p d (Cl P x.turn) has mf bx' nx'->Es p bx bx'->nx<=nx'->EY f.K=true/\IP (AA (HQ G) Q B' []) 164 .u8 3 stk (Bl f.K) f.res f.fr bx' nx'):
  AA (HQ G) Q B [.code Uo.code] (f::stk) Uo.res (params 0 [.ptr (.n z) 0,.agg x.L]) bx nx:=by
 obtain⟨B,rfl⟩:∃m,B=m+1590:=⟨B-1590,by omega⟩
 have hz:=hs.hz;have hp:=hs.hp;have zn:=hs.zn;have pn:=hs.pn;have dn:=hs.dn;have zp:=hs.zp;have dp:=hs.dp
 have n1:(nx=z)=False:=eq_false (by omega)
 have n2:(nx=p)=False:=eq_false (by omega)
 have m1:(z=nx)=False:=eq_false (by omega)
 have m2:(p=nx)=False:=eq_false (by omega)
 have m3:(z=p)=False:=eq_false (by omega)
 have m4:(p=z)=False:=eq_false (by omega)
 have hO:=KW hk t0 t1 t2
 have l2:=hO.ok.len
 simp only[Uo,↓reduceIte,reduceCtorEq,Nat.reduceEqDiff,Nat.reduceAdd,Nat.reduceSub,Nat.reducePow,go_sem]
 have hs1:=hs.cons (c:= .cells x.L) fun _=>rfl
 intro _
 refine PS (x:=x) (by omega) hs1 hk hN t0 t1 t2 (fun v=> ?_) (fun v=> ?_) (fun B1 bx1 nx1 hB1 hA hs2 hh1 hn1=> ?_) fun B1 bx1 nx1 hB1 hA hs2 hh1 hn1=> ?_
 ·simp only[n2,m3,↓reduceIte,go_sem]
 ·simp only[AC,HF,HS]
 ·obtain⟨B1,rfl⟩:∃m,B1=m+270:=⟨B1-270,by omega⟩
  have hh:=(hs.hold (.cells x.L)).trans hh1
  have hf:=hO.f
  have hl:=hO.l
  have hfl:=hO.fl
  generalize hR:Cl P x.turn=R at*
  have hp2:=hs2.hp;have hz2:=hs2.hz
  have hT1:Ab bx1 (.n nx)=some (.cells x.L):=hh1 _ _ (by simp;omega) (by rw[Ae,if_pos rfl];rfl)
  simp only[go_sem]at hT1
  have hl9:(CS R x.turn+1-Cn R x.turn<=100000)=True:=eq_true (by omega)
  by_cases hL:∀i,Cn R x.turn<=i->i<=CS R x.turn->¬((R.2 i).lent≠0/\x.day<(R.2 i).til)
  ·have e1:A8 (∃i,i<CS R x.turn+1-Cn R x.turn/\(HP.bus x).T (R.2 (Cn R x.turn+i)))=false:=Am fun⟨i,h1,h2⟩=>hL (Cn R x.turn+i) (by omega) (by omega) h2
   simp only[IV,RB,Ak,Ag,AZ,hp2,hT1,hl9,e1,De.eta,↓reduceIte,Nat.reduceEqDiff,Nat.reduceAdd,go_sem]
   refine Ie (ι:=Nat) (fun j=>j<=CS R x.turn+1-Cn R x.turn) (fun j=>CS R x.turn+1-Cn R x.turn-j) [3,4,15] (fun j=>[(16,.int .i64 j)]) (.n p) (fun j=> .row 107 5 R.1 fun a b=>(Ky R (Cn R x.turn) x.tow x.til j a).c b) hp2 0 (Nat.zero_le _) (fun N D=>⟨rfl,rfl,rfl,fun i _ b _=>(by show AB ((Ky R (Cn R x.turn) x.tow x.til 0 i).c b) ((R.2 i).c b);rw[Z1];exact BP _)⟩) ?_ fun j hj=> ?_
   ·simp only[Ac,hT1,n2,↓reduceIte,Nat.reduceEqDiff,go_sem]
    exact⟨rfl,_,by rw[Ac,if_pos rfl]⟩
   rcases Nat.lt_or_ge j (CS R x.turn+1-Cn R x.turn)with hlt|hge
   ·have f1:((j:Int)<((CS R x.turn+1-Cn R x.turn:Nat):Int))=True:=eq_true (by omega)
    simp only[f1,Ac,hT1,n2,Int.toNat_natCast,↓reduceIte,Nat.reduceEqDiff,Nat.reduceAdd,Nat.reduceSub,Nat.reduceLeDiff,go_sem]
    refine⟨by omega,by omega,JP hp2 (j+1) hlt (by omega) ((Ac _ _ _ _).trans (if_pos rfl)) (fun N D=>⟨rfl,rfl,rfl,fun i _ b _=> ?_⟩) (fun y hy c hc=>by rw[Ac,if_neg hy,Ac,if_neg hy,Ac,if_neg hy];exact hc) ?_⟩
    ·show AB ((Ky R (Cn R x.turn) x.tow x.til (j+1) i).c b) _
     rw[ZO];exact BP _
    simp only[Ac,hT1,n2,↓reduceIte,Nat.reduceEqDiff,go_sem]
    rw[Cs (by omega)]
    exact⟨rfl,rfl,_,by rw[Ac,if_pos rfl]⟩
   have f1:((j:Int)<((CS R x.turn+1-Cn R x.turn:Nat):Int))=False:=eq_false (by omega)
   obtain rfl:j=CS R x.turn+1-Cn R x.turn:=by omega
   simp only[f1,↓reduceIte,Nat.reduceEqDiff,go_sem]
   have e:=Sy R hfl x.tow x.til
   have hc:=hs2.row (P':=NG R (Cn R x.turn) (CS R x.turn) x.tow x.til) (bx':=Aj bx1 (.n p) (.row 107 5 R.1 fun a b=>(Ky R (Cn R x.turn) x.tow x.til (CS R x.turn+1-Cn R x.turn) a).c b)) (by rw[Ac,if_pos rfl,<-e]) fun y hy=>by rw[Ac,if_neg hy]
   exact hK _ _ _ (by omega) hA hL hc.1 (hh.trans hc.2) (by omega)
  have e1:A8 (∃i,i<CS R x.turn+1-Cn R x.turn/\(HP.bus x).T (R.2 (Cn R x.turn+i)))=true:=At (by
   apply Classical.byContradiction
   intro hn
   refine hL fun i h1 h2 h3=> ?_
   exact hn ⟨i-Cn R x.turn,by omega,by rw[show Cn R x.turn+(i-Cn R x.turn)=i by omega];exact h3⟩)
  simp only[IV,RB,Ak,Ag,AZ,hp2,hT1,hl9,e1,De.eta,↓reduceIte,reduceCtorEq,Nat.reduceEqDiff,Nat.reduceAdd,go_sem]
  exact hP3 _ _ _ (by omega) hA hL hs2 hh (by omega)
 obtain⟨B1,rfl⟩:∃m,B1=m+270:=⟨B1-270,by omega⟩
 simp only[go_sem]
 exact hP (B1+270) _ _ (by omega) hA hs2 ((hs.hold _).trans hh1) (by omega)
end Go.Proofs.YtlieoghhkioflaaGreat
