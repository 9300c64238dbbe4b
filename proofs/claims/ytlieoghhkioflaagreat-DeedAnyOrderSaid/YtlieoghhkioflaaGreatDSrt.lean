/- slices.Sort at []int, in place: the kit's contract, laid at this program. No condition. -/
import Derived.Test.YtlieoghhkioflaaGreatDAuc
import Derived.Shelf.Lay
import Derived.Ground.Names2Prog
import Derived.Shelf.Sort.Plain
import Derived.Shelf.Slices.In.SortNone
import Derived.Sort.OwnSortedInts
import Derived.Test.YtlieoghhkioflaaGreatACode1
import Derived.Test.YtlieoghhkioflaaGreatDat
set_option linter.unusedSimpArgs false
set_option linter.unusedVariables false
set_option maxRecDepth 100000
namespace Go.Proofs
def Tryz.lays189_ren:Go.Shelf.Ren:=⟨fun|189=>80|125=>108|257=>107|128=>132|129=>133|294=>123|295=>124|296=>125|297=>126|298=>127|299=>128|216=>129|300=>130|301=>131|328=>148|329=>149|330=>150|331=>151|332=>152|215=>113|343=>164|n=>n,fun|28=>74|3=>3|46=>175|0=>0|51=>52|53=>197|4=>4|183=>189|182=>188|131=>77|5=>5|9=>9|218=>210|222=>214|228=>223|229=>224|n=>n,fun|n=>n⟩
theorem Tryz.lays189:Lays.n189 Tryz.prog Tryz.lays189_ren where
 mixed:=by kernel_rfl
 f125:=Tryz.func108.trans (congrArg some (by kernel_rfl))
 f128:=Tryz.func132.trans (congrArg some (by kernel_rfl))
 f129:=Tryz.func133.trans (congrArg some (by kernel_rfl))
 f189:=Tryz.func80.trans (congrArg some (by kernel_rfl))
 f215:=Tryz.func113.trans (congrArg some (by kernel_rfl))
 f216:=Tryz.func129.trans (congrArg some (by kernel_rfl))
 f257:=Tryz.func107.trans (congrArg some (by kernel_rfl))
 f294:=Tryz.func123.trans (congrArg some (by kernel_rfl))
 f295:=Tryz.func124.trans (congrArg some (by kernel_rfl))
 f296:=Tryz.func125.trans (congrArg some (by kernel_rfl))
 f297:=Tryz.func126.trans (congrArg some (by kernel_rfl))
 f298:=Tryz.func127.trans (congrArg some (by kernel_rfl))
 f299:=Tryz.func128.trans (congrArg some (by kernel_rfl))
 f300:=Tryz.func130.trans (congrArg some (by kernel_rfl))
 f301:=Tryz.func131.trans (congrArg some (by kernel_rfl))
 f328:=Tryz.func148.trans (congrArg some (by kernel_rfl))
 f329:=Tryz.func149.trans (congrArg some (by kernel_rfl))
 f330:=Tryz.func150.trans (congrArg some (by kernel_rfl))
 f331:=Tryz.func151.trans (congrArg some (by kernel_rfl))
 f332:=Tryz.func152.trans (congrArg some (by kernel_rfl))
 f343:=Tryz.func164.trans (congrArg some (by kernel_rfl))
 t0:=Tryz.underlying0
 a0:=Tryz.isAgg0
 z0:=Tryz.sizeOf0
 v0:=Tryz.zeroValue0
 t3:=Tryz.underlying3
 a3:=Tryz.isAgg3
 z3:=Tryz.sizeOf3
 v3:=Tryz.zeroValue3
 t4:=Tryz.underlying4
 a4:=Tryz.isAgg4
 z4:=Tryz.sizeOf4
 v4:=Tryz.zeroValue4
 t5:=Tryz.underlying5
 a5:=Tryz.isAgg5
 z5:=Tryz.sizeOf5
 v5:=Tryz.zeroValue5
 t9:=Tryz.underlying9
 a9:=Tryz.isAgg9
 z9:=Tryz.sizeOf9
 v9:=Tryz.zeroValue9
 t28:=Tryz.underlying74
 a28:=Tryz.isAgg74
 z28:=Tryz.sizeOf74
 v28:=Tryz.zeroValue74
 t46:=Tryz.underlying175
 a46:=Tryz.isAgg175
 z46:=Tryz.sizeOf175
 v46:=Tryz.zeroValue175
 t51:=Tryz.underlying52
 a51:=Tryz.isAgg52
 z51:=Tryz.sizeOf52
 v51:=Tryz.zeroValue52
 t53:=Tryz.underlying197
 a53:=Tryz.isAgg197
 z53:=Tryz.sizeOf197
 v53:=Tryz.zeroValue197
 t131:=Tryz.underlying77
 a131:=Tryz.isAgg77
 z131:=Tryz.sizeOf77
 v131:=Tryz.zeroValue77
 t182:=Tryz.underlying188
 a182:=Tryz.isAgg188
 z182:=Tryz.sizeOf188
 v182:=Tryz.zeroValue188
 t183:=Tryz.underlying189
 a183:=Tryz.isAgg189
 z183:=Tryz.sizeOf189
 v183:=Tryz.zeroValue189
 t218:=Tryz.underlying210
 a218:=Tryz.isAgg210
 z218:=Tryz.sizeOf210
 v218:=Tryz.zeroValue210
 t222:=Tryz.underlying214
 a222:=Tryz.isAgg214
 z222:=Tryz.sizeOf214
 v222:=Tryz.zeroValue214
 t228:=Tryz.underlying223
 a228:=Tryz.isAgg223
 z228:=Tryz.sizeOf223
 v228:=Tryz.zeroValue223
 t229:=Tryz.underlying224
 a229:=Tryz.isAgg224
 z229:=Tryz.sizeOf224
 v229:=Tryz.zeroValue224
end Go.Proofs
namespace Go.Proofs.YtlieoghhkioflaaGreat
open Go Go.RowKit Go.Sort
variable{G:Nat->Option (Nat×(Nat->Ad))}
def D4(a:Nat×(Nat->Int)):List Int:=(List.range a.1).map a.2
def Nd(l:List Int):List Int:=l.mergeSort fun x y=>decide (x<=y)
theorem LO(a:Nat×(Nat->Int)):(Nd (D4 a)).length=a.1:=by simp[Nd,D4]
noncomputable def PW:As:=Ak (Ag (Dv (Bw .i64)) AZ) (fun a=>a.1.1<4611686018427387904) fun a=> .view 1 a.1.1 fun i _=> .int .i64 (ln (Nd (D4 a.1)) i)
theorem AbD:Cy Tryz.prog G 80 0 PW:=by
 refine⟨GS Tryz.func80 rfl rfl,fun A w vs us cs ds L e0 k n c hl1 hl2 hA hG hr hr' hrow _ hp=> ?_⟩
 obtain rfl:vs=[]:=List.eq_nil_of_length_eq_zero hl1
 obtain rfl:cs=[]:=List.eq_nil_of_length_eq_zero hl2
 obtain⟨⟨⟨rfl,hw⟩,h2⟩,hn⟩:=hp
 have hus:us=[]:=by cases us with
  |nil=>rfl
  |cons=>exact h2.elim
 subst hus
 have hds:ds=[]:=by
  have h:(Value.tuple ⟨ds⟩)= .tuple #[]:=hr'
  simpa using h
 subst hds
 have hn':n<4611686018427387904:=hn
 obtain⟨f1,f2,f3,xs,f4,f5⟩:=hrow
 generalize ha:((n,fun i=>(c i 0).toInt):Nat×(Nat->Int))=a
 have ha1:a.1=n:=by rw[<-ha]
 have hlen:(D4 a).length=n:=by simp[D4,ha1]
 have hxs:xs=(D4 a).map (Value.int .i64):=by
  apply List.ext_getElem?
  intro i
  by_cases hi:i<n
  ·obtain⟨y,y1,_,y3⟩:=f5 i hi 0 Nat.zero_lt_one
   have hc:=hw i hi
   rw[hc]at y3
   have y3':y= .int .i64 (c i 0).toInt:=y3
   have y1':xs[i*1+0]?=some y:=y1
   rw[Nat.mul_one,Nat.add_zero]at y1'
   rw[y1',y3']
   simp[D4,<-ha,hi]
  have:xs.length=n*1:=f4.1
  rw[List.getElem?_eq_none (by omega),List.getElem?_eq_none (by simp[hlen];omega)]
 have hres:PW.res ([]++ .view 1 n c::[])= .view 1 n fun i _=> .int .i64 (ln (Nd (D4 a)) i):=by rw[<-ha];rfl
 have hcell:∀(w':World) (B:Nat->Prop) i,i<n->∀j,j<1->∃y,((Nd (D4 a)).map (Value.int .i64))[i*1+j]?=some y/\y.oneCell'=true/\Ao w' B (.int .i64 (ln (Nd (D4 a)) i)) y:=by
  intro w' B i hi j hj
  obtain rfl:j=0:=by omega
  have hl:i<(Nd (D4 a)).length:=by rw[LO,ha1];exact hi
  refine⟨.int .i64 (ln (Nd (D4 a)) i),?_,rfl,rfl⟩
  rw[Nat.mul_one,Nat.add_zero,List.getElem?_map,List.getElem?_eq_getElem hl]
  simp[ln,List.getElem?_eq_getElem hl]
 rcases f4.2 with⟨q1,q2⟩|⟨g,cap,cur,q1,q2,q3,q4,q5,q6,q7⟩
 ·subst q2
  have hL:L.a=none:=by
   cases h:L.a with
   |none=>rfl
   |some g=>rw[h]at q1;simp at q1
  refine Calls.mono (Any.slices_Sort_int_none Tryz.lays189 _ L.cap w) ?_
  rintro e w' ⟨rfl,rfl⟩
  refine⟨_,rfl,hres,AW.Under.refl ⟨w',_⟩,fun g hg=>(by rw[hL]at hg;cases hg),f1,f2,f3,xs,f4,fun i hi=>absurd hi (Nat.not_lt_zero _)⟩
 have hL:L.a=some g/\L.cap=cap:=by
  cases h:L.a with
  |none=>rw[h]at q1;simp at q1
  |some g'=>rw[h]at q1;simp at q1;exact⟨by rw[q1.1],q1.2⟩
 obtain⟨hLa,hLc⟩:=hL
 have hlt:g<w.heap.size:=(Array.getElem?_eq_some_iff.1 q3).1
 have hH:Holds (Value.int .i64) w g 0 (D4 a).toArray:=holds_of_blockI q3 (by rw[hlen,<-hxs,<-q7];exact congrArg (List.take · cur.toList) (Nat.mul_one n).symm)
 have hcon:=Any.slices_Sort_int Tryz.lays189 g 0 cap (D4 a) w hH hlt (by rw[hlen];exact hn')
 rw[hlen]at hcon
 have hargs:(⟨[]++ .slice (L.a.map fun g=>⟨g,0,none⟩) n L.cap::[]⟩:Array Value)= #[.slice (some ⟨g,0,none⟩) n cap]:=by rw[hLa,hLc];rfl
 rw[hargs]
 refine Calls.mono hcon ?_
 rintro e w' ⟨rfl,m,os,rfl⟩
 refine⟨_,rfl,hres,(AW.Under.refl ⟨w,_⟩).grown (grownBy_sortedI _) fun k hk=> .inr (by cases hk;exact hLa),fun g' hg'=> ?_,f1,f2,f3,(Nd (D4 a)).map (Value.int .i64),?_,hcell _ _⟩
 ·rw[hLa]at hg';cases hg'
  have hb:=(Array.getElem?_eq_some_iff.1 (heap_sortedI (n:=m) (os:=os) (Nd (D4 a)).toArray q3)).1
  exact hb
 have:=ownsRow_sortedI (base:=0) (n:=m) (os:=os) (ts:=Nd (D4 a)) (ss:=D4 a) (by rw[LO,hlen,ha1]) (Nat.zero_le g) q3 (by rw[hlen];exact q4) q5 q6
 rw[hlen]at this
 rw[hLa,hLc]
 exact this
end Go.Proofs.YtlieoghhkioflaaGreat
namespace Go.Proofs.YtlieoghhkioflaaGreat
open Go Go.RowKit
variable{G:Nat->Option (Nat×(Nat->Ad))}
theorem YV{N D:Bn->Prop}(b:Bn)(o n:Nat)(v:Ad):BS N D (.osl b o n) v=(v= .osl b o n/\D b):=rfl
attribute [go_sem] YV
def Fi(f:Nat->Int):Nat->List Int
 |0=>[]
 |k+1=>if 0<k/\f k=f (k-1)then Fi f k else Fi f k++[f k]
noncomputable def Jj:As:=(Ak (Ag (Dv (Bw .i64)) AZ) (fun _=>True) fun a=>lW (Fi a.1.2 a.1.1)).mine 3
theorem SK:Cy Tryz.prog G 81 0 Jj:=by
 refine feT (S:=[]) (I:=[]) (X:=[]) (N:=[]) (C:=[]) (R:=Bw .i64) (t:=AZ) mixed .nil .nil .nil Tryz.func81 c81 fun a b _ hw hn=> ?_
 obtain⟨n,f⟩:=a
 have hn':n<=9223372036854775807:=hn
 simp only[a81,AZ,Bw,↓reduceIte,reduceCtorEq,go_sem]
 have hmap:∀k,Fi f k=(List.range k).map f->(Fi f k).length=k/\∀i,i<k->ln (Fi f k) i=f i:=fun k h=>by
  rw[h]
  exact⟨by simp,fun i hi=>by simp[ln,hi]⟩
 refine⟨fun hlt=> ?_,fun hge=> ?_⟩
 ·have hc:Fi f n=(List.range n).map f:=by
   match n,hlt with
   |0,_=>rfl
   |1,_=>simp[Fi]
   |n+2,h=>omega
  obtain⟨h1,h2⟩:=hmap n hc
  refine⟨h1.symm,fun i hi j hj=>(h2 i (by omega)).symm,.n 0,1,n,fun i _=> .int .i64 (f i),.inl ⟨rfl,rfl⟩,fun i _=> .int .i64 (ln (Fi f n) i),?_,fun i hi j hj=>⟨congrArg (Ad.int .i64) (h2 i hi),rfl⟩⟩
  show Ad.view 1 (Fi f n).length _=_
  rw[h1]
 refine AS (ι:=Nat) (fun k=>1<=k/\k<=n/\Fi f k=(List.range k).map f) (fun k=>n-k) [0] (fun k=>[(3,.int .i64 k)]) (fun _=>[]) 1 ⟨by omega,by omega,by simp[Fi]⟩ (by simp only[↓reduceIte,reduceCtorEq,Nat.reduceLT,go_sem];try trace_state) fun k hk=> ?_
 obtain⟨hk1,hk2,hk3⟩:=hk
 by_cases hkl:k<n
 ·have fk:((k:Int)<(n:Int))=True:=eq_true (by omega)
  have hs1:IntKind.i64.wrap ((k:Int)-1)=((k-1:Nat):Int):=by rw[AU (by omega) (by omega)];omega
  have hs2:((n:Int)-(k:Int)).toNat=n-k:=by omega
  have hcs:Fi f (k+1)=if 0<k/\f k=f (k-1)then Fi f k else Fi f k++[f k]:=rfl
  obtain⟨h1,h2⟩:=hmap k hk3
  simp only[fk,hs1,hs2,Int.toNat_natCast,↓reduceIte,reduceCtorEq,Nat.reduceEqDiff,go_sem]
  refine⟨by omega,by omega,by omega,fun heq=>⟨by omega,by omega,by omega,?_⟩,fun hne=> ?_⟩
  ·rw[if_pos ⟨hk1,heq⟩]at hcs
   refine AS (ι:=Nat×(Nat->Int)) (fun q=>1<=q.1/\q.1<=n-k/\(Fi f (k+q.1)).length+1<=k+q.1/\(∀i,i<(Fi f (k+q.1)).length->q.2 i=ln (Fi f (k+q.1)) i)/\∀i,k+q.1<=i+1->q.2 i=f i) (fun q=>n-k-q.1) [0,4] (fun q=>[(3,.int .i64 (Fi f (k+q.1)).length),(5,.int .i64 q.1)]) (fun q=>[(0,.row 3 1 n fun i _=> .int .i64 (q.2 i))]) (1,f) ⟨Nat.le_refl _,by show 1<=n-k;omega,by show(Fi f (k+1)).length+1<=k+1;rw[hcs,h1];exact Nat.le_refl _,fun i hi=>by
    have hi:i<(Fi f (k+1)).length:=hi
    show f i=ln (Fi f (k+1)) i
    rw[hcs]at hi⊢
    exact(h2 i (by omega)).symm,fun i _=>rfl⟩ (by simp only[hcs,h1,↓reduceIte,reduceCtorEq,Nat.reduceEqDiff,Nat.reduceLT,go_sem];try trace_state) fun q hq=> ?_
   obtain⟨j,g⟩:=q
   obtain⟨q1,q2,q3,q4,q5⟩:=hq
   simp only at q1 q2 q3 q4 q5
   have hcj:Fi f (k+(j+1))=if 0<k+j/\f (k+j)=f (k+j-1)then Fi f (k+j)else Fi f (k+j)++[f (k+j)]:=rfl
   have happ:=Yy (Fi f (k+j)) (f (k+j))
   generalize hkk:Fi f (k+j)=ck at*
   by_cases hjl:j<n-k
   ·have fj:((j:Int)<((n-k:Nat):Int))=True:=eq_true (by omega)
    have hs3:IntKind.i64.wrap ((j:Int)-1)=((j-1:Nat):Int):=by rw[AU (by omega) (by omega)];omega
    have g1:=q5 (k+j) (by omega)
    have g2:=q5 (k+j-1) (by omega)
    have e1:k+(j-1)=k+j-1:=by omega
    simp only[fj,hs3,g1,g2,e1,Int.toNat_natCast,↓reduceIte,reduceCtorEq,Nat.reduceEqDiff,go_sem]
    refine⟨by omega,by omega,by omega,fun hne=>⟨by omega,by omega,by omega,?_⟩,fun heq'=> ?_⟩
    ·rw[if_neg (fun h=>hne h.2)]at hcj
     have hl:(Fi f (k+(j+1))).length=ck.length+1:=by rw[hcj,List.length_append];rfl
     refine Af (j+1,fun i=>if i=ck.length then f (k+j)else g i) ⟨by show 1<=j+1;omega,by show j+1<=n-k;omega,by show(Fi f (k+(j+1))).length+1<=k+(j+1);omega,fun i hi=> ?_,fun i hi=> ?_⟩ (by show n-k-(j+1)<_;omega) ?_
     ·have hi:i<(Fi f (k+(j+1))).length:=hi
      show(if i=ck.length then f (k+j)else g i)=ln (Fi f (k+(j+1))) i
      rw[hcj,happ]
      by_cases e:i=ck.length
      ·subst e;rw[if_pos rfl,if_neg (Nat.lt_irrefl _),if_pos rfl]
      rw[if_neg e,if_pos (by omega)];exact q4 i (by omega)
     ·have hi:k+(j+1)<=i+1:=hi
      show(if i=ck.length then f (k+j)else g i)=f i
      rw[if_neg (by omega)];exact q5 i (by omega)
     simp only[hl,↓reduceIte,reduceCtorEq,Nat.reduceEqDiff,Nat.reduceLT,go_sem]
     refine⟨Cs (by omega),Cs (by omega),fun i hi c hc=> ?_⟩
     obtain rfl:c=0:=by omega
     by_cases e:i=ck.length
     ·rw[if_pos ⟨e,by omega⟩,if_pos e];rfl
     rw[if_neg (fun h=>e h.1),if_neg e]
    rw[if_pos ⟨by omega,heq'⟩]at hcj
    refine Af (j+1,g) ⟨by show 1<=j+1;omega,by show j+1<=n-k;omega,by show(Fi f (k+(j+1))).length+1<=k+(j+1);rw[hcj];omega,fun i hi=> ?_,fun i hi=> ?_⟩ (by show n-k-(j+1)<_;omega) ?_
    ·have hi:i<(Fi f (k+(j+1))).length:=hi
     show g i=ln (Fi f (k+(j+1))) i
     rw[hcj]at hi⊢;exact q4 i hi
    ·have hi:k+(j+1)<=i+1:=hi
     exact q5 i (by omega)
    simp only[hcj,↓reduceIte,reduceCtorEq,Nat.reduceEqDiff,Nat.reduceLT,go_sem]
    exact Cs (by omega)
   have fj:((j:Int)<((n-k:Nat):Int))=False:=eq_false (by omega)
   obtain rfl:j=n-k:=by omega
   have e1:k+(n-k)=n:=by omega
   rw[e1]at hkk
   simp only[fj,hkk,↓reduceIte,reduceCtorEq,Nat.reduceEqDiff,Int.reduceToNat,Int.reduceLE,go_sem]
   have hif:∀i,i<ck.length->(if ck.length<=i/\i<ck.length+((n:Int)-(ck.length:Int)).toNat then Az (.cons (.int .i64 0) .nil) 0 else Ad.int .i64 (g i))= .int .i64 (ln ck i):=fun i hi=>by
    rw[if_neg (fun h=>by omega),q4 i hi]
   refine⟨by omega,by omega,by omega,by omega,by omega,by omega,fun i hi c hc=> ?_,.n 0,1,ck.length,_,.inr ⟨by rw[show((ck.length:Int)-0).toNat=ck.length by omega],n,by omega,rfl⟩,fun i _=> .int .i64 (ln ck i),rfl,fun i hi c hc=>⟨?_,?_⟩⟩
   ·obtain rfl:c=0:=by omega
    exact hif i hi
   ·obtain rfl:c=0:=by omega
    exact(hif i hi).symm
   obtain rfl:c=0:=by omega
   rw[hif i hi];rfl
  rw[if_neg (fun h=>hne h.2)]at hcs
  refine Af (k+1) ⟨by omega,by omega,by rw[hcs,hk3,List.range_succ,List.map_append];rfl⟩ (by omega) ?_
  simp only[↓reduceIte,reduceCtorEq,Nat.reduceLT,go_sem]
  exact Cs (by omega)
 have fk:((k:Int)<(n:Int))=False:=eq_false (by omega)
 obtain rfl:k=n:=by omega
 obtain⟨h1,h2⟩:=hmap k hk3
 simp only[fk,↓reduceIte,reduceCtorEq,Nat.reduceEqDiff,go_sem]
 refine⟨h1.symm,fun i hi j hj=>(h2 i (by omega)).symm,.n 0,1,k,fun i _=> .int .i64 (f i),.inl ⟨rfl,rfl⟩,fun i _=> .int .i64 (ln (Fi f k) i),?_,fun i hi j hj=>⟨congrArg (Ad.int .i64) (h2 i hi),rfl⟩⟩
 show Ad.view 1 (Fi f k).length _=_
 rw[h1]
end Go.Proofs.YtlieoghhkioflaaGreat
namespace Go.Proofs.YtlieoghhkioflaaGreat
open Go Go.RowKit
variable{G:Nat->Option (Nat×(Nat->Ad))}
theorem TP(f:Nat->Int)(n:Nat)(h:∀i j,i<=j->j<n->f i<=f j):∀k,k<=n->(Fi f k).Pairwise (fun x y=>x<y)/\∀x,x∈Fi f k↔∃i,i<k/\f i=x:=by
 intro k
 induction k with
 |zero=>intro _;exact⟨List.Pairwise.nil,fun x=>⟨fun h=>(by cases h),fun⟨i,hi,_⟩=>absurd hi (Nat.not_lt_zero _)⟩⟩
 |succ k ih=>
  intro hk
  obtain⟨h1,h2⟩:=ih (by omega)
  rw[Fi]
  by_cases c:0<k/\f k=f (k-1)
  ·rw[if_pos c]
   refine⟨h1,fun x=> ?_⟩
   rw[h2]
   constructor
   ·rintro⟨i,hi,e⟩;exact⟨i,by omega,e⟩
   rintro⟨i,hi,e⟩
   by_cases q:i=k
   ·subst q;exact⟨i-1,by omega,by rw[<-c.2];exact e⟩
   exact⟨i,by omega,e⟩
  rw[if_neg c]
  constructor
  ·rw[List.pairwise_append]
   refine⟨h1,List.pairwise_singleton _ _,fun a ha b hb=> ?_⟩
   rw[List.mem_singleton]at hb;subst hb
   obtain⟨i,hi,rfl⟩:=(h2 a).1 ha
   have q1:=h i (k-1) (by omega) (by omega)
   have q2:=h (k-1) k (by omega) (by omega)
   have:f k≠f (k-1):=fun e=>c ⟨by omega,e⟩
   omega
  intro x
  rw[List.mem_append,h2,List.mem_singleton]
  constructor
  ·rintro(⟨i,hi,e⟩|rfl)
   ·exact⟨i,by omega,e⟩
   exact⟨k,by omega,rfl⟩
  rintro⟨i,hi,e⟩
  by_cases q:i=k
  ·subst q;exact .inr e.symm
  exact .inl ⟨i,by omega,e⟩
theorem Rn{t:Tu}{b:Nat×(Nat->Bd)}(h:FD t b):Fi (ln (Nd (D4 (2*b.1+2,aF t b)))) (2*b.1+2)=Cd t b:=by
 have hl:(Nd (D4 (2*b.1+2,aF t b))).length=2*b.1+2:=LO _
 have hs:(Nd (D4 (2*b.1+2,aF t b))).Pairwise (fun x y=>x<=y):=by
  have:=List.pairwise_mergeSort (le:=fun x y:Int=>decide (x<=y)) (fun a b c h1 h2=>by simp at*;omega) (fun a b=>by simp;omega) (D4 (2*b.1+2,aF t b))
  exact this.imp fun h=>of_decide_eq_true h
 have hm:∀x,x∈Nd (D4 (2*b.1+2,aF t b))↔x∈OD t b:=fun x=>List.mem_mergeSort
 obtain⟨e1,e2⟩:=FC h
 obtain⟨c1,c2⟩:=TP (ln (Nd (D4 (2*b.1+2,aF t b)))) (2*b.1+2) (fun i j hij hj=>by
  rw[G1 (by omega),G1 (by omega)]
  by_cases e:i=j
  ·subst e;exact Int.le_refl _
  exact List.pairwise_iff_getElem.1 hs _ _ _ _ (by omega)) _ (Nat.le_refl _)
 refine MG _ _ c1 e1 fun x=> ?_
 rw[c2,e2,<-hm]
 constructor
 ·rintro⟨i,hi,rfl⟩
  rw[G1 (by omega)];exact List.getElem_mem _
 intro hx
 obtain⟨i,hi,e⟩:=List.getElem_of_mem hx
 exact⟨i,by omega,by rw[G1 hi,e]⟩
def GN(E:Nat->Int):Nat->Int->Bool
 |0,_=>false
 |r+1,k=>if k=E (r+1)then true else GN E r k
theorem L4(F T V:Nat->Int)(n:Nat)(E:Nat->Int):∀r k,GN E r k=false->KB F T V n E r k=0
 |0,_,_=>rfl
 |r+1,k,h=>by
  rw[GN]at h
  rw[KB]
  split at h
  ·cases h
  rename_i e;rw[if_neg e];exact L4 F T V n E r k h
theorem Xq(F T V:Nat->Int)(n:Nat)(E:Nat->Int)(r:Nat)(k:Int):EG (GN E r k) (.int .i64 (KB F T V n E r k)) (.int .i64 0)= .int .i64 (KB F T V n E r k):=by
 cases h:GN E r k with
 |true=>rfl
 |false=>rw[L4 F T V n E r k h];rfl
theorem Qc{P:Program}{id:FuncId}{α β:Type}{t1:VT α}{t2:VT β}{pre:α->β->Prop}{res:α->β->Ad}(h:Ah P G id (Ak (Ag t1 (Ag t2 AZ)) (fun a=>pre a.1 a.2.1) fun a=>res a.1 a.2.1)):Ah P G id (Cq t1 t2 pre res):=by
 refine⟨h.ent,fun A w vs cs hG hr hp=> ?_⟩
 match vs,hr,hp with
 |[a,b],hr,hp=>exact h.run A w [a,b] cs hG hr ⟨⟨hp.1,hp.2.1,trivial⟩,hp.2.2⟩
theorem SO:Ah Tryz.prog G 38 Zn:=by
 refine Qc (Ij (S:=[(73,Jz)]) (I:=[]) (X:=[(80,0,PW),(81,0,Jj)]) (N:=[]) (C:=[]) mixed (.cons JY .nil) .nil (.cons AbD (.cons SK .nil)) Tryz.func38 c38 fun a _ hw=> ?_)
 obtain⟨t,b,⟨⟩⟩:=a
 simp only[Ag,AZ,reduceCtorEq,Nat.reduceSub,Nat.reducePow,go_sem]at hw
 unfold V7
 by_cases h0:FS t b=0
 ·rw[if_pos h0]
  have hA:=AbI h0
  have e0:=Aby hA
  have hbn:=Yi hA
  have hrl:=hA.len
  have hnn:=hA.n
  have hbd:=hA.bd
  have htp:=UW hA
  have hep:=Rn hA
  have hprc:Lp t b=((Cd t b).length-1,fun i=>⟨⟨ln (Cd t b) i,ln (Cd t b) (i+1)⟩,Kt b (ln (Cd t b) (i+1))-Kt b (ln (Cd t b) i)⟩):=rfl
  generalize hL:Cd t b=L at*
  have hal:(2*b.1+2<4611686018427387904)=True:=eq_true (by omega)
  simp only[a38,Ag,AZ,Ak,Jz,PW,Jj,h0,hw,↓reduceIte,reduceCtorEq,Nat.reduceEqDiff,Nat.reduceAdd,Nat.reduceSub,Nat.reduceLeDiff,Nat.reduceLT,Nat.reducePow,go_sem]
  refine AS (ι:=Nat) (fun j=>j<=b.1) (fun j=>b.1-j) [1,28,29] (fun j=>[(7,.own (.n 1)),(30,.int .i64 j)]) (fun j=>[(1,.row 3 1 (2*j+2) fun a _=> .int .i64 (aF t b a))]) 0 (Nat.zero_le _) (by
   simp only[↓reduceIte,reduceCtorEq,Nat.reduceEqDiff,Nat.reduceMul,Nat.reduceLT,go_sem]
   intro i hi c hc
   obtain rfl:c=0:=by omega
   match i,hi with
   |0,_|1,_=>rfl) fun j hj=> ?_
  by_cases hjl:j<b.1
  ·have fj:((j:Int)<(b.1:Int))=True:=eq_true (by omega)
   have a0:=Abe t b j
   have a1:=AaE t b j
   simp only[fj,↓reduceIte,reduceCtorEq,Nat.reduceEqDiff,Nat.reduceAdd,Nat.reduceSub,Nat.reduceLeDiff,Nat.reduceLT,Nat.reducePow,go_sem]
   refine⟨by omega,by omega,by omega,Af (j+1) hjl (by omega) ?_⟩
   simp only[↓reduceIte,reduceCtorEq,Nat.reduceEqDiff,Nat.reduceLT,go_sem]
   refine⟨Cs (by omega),by omega,fun a ha c hc=> ?_⟩
   obtain rfl:c=0:=by omega
   by_cases e:a<2*j+2
   ·rw[if_pos e]
   rw[if_neg e]
   rcases(show a=2*j+2\/a=2*j+3 by omega)with rfl|rfl
   ·rw[Nat.sub_self,a0];rfl
   rw[show 2*j+3-(2*j+2)=1 by omega,a1];rfl
  have fj:((j:Int)<(b.1:Int))=False:=eq_false (by omega)
  obtain rfl:j=b.1:=by omega
  have hep':Fi (fun i=>ln (Nd (D4 (2*b.1+2,fun i=>aF t b i))) i) (2*b.1+2)=L:=hep
  simp only[fj,hal,hep',↓reduceIte,reduceCtorEq,Nat.reduceEqDiff,Nat.reduceAdd,go_sem]
  have hpk:∀r k,EG (GN (ln L) r k) (.int .i64 (KB (bF b) (bT b) (bV b) b.1 (ln L) r k)) (.int .i64 0)= .int .i64 (KB (bF b) (bT b) (bV b) b.1 (ln L) r k):=Xq _ _ _ _ _
  have hno:∀r k,GN (ln L) r k=false->KB (bF b) (bT b) (bV b) b.1 (ln L) r k=0:=L4 _ _ _ _ _
  have hmz:∀r,KB (bF b) (bT b) (bV b) b.1 (ln L) (r+1)=fun k=>if k=ln L (r+1)then tp (bT b) (bV b) (ln L (r+1)) (fun x=>KB (bF b) (bT b) (bV b) b.1 (ln L) r (bF b x)) (KB (bF b) (bT b) (bV b) b.1 (ln L) r (ln L r)) b.1 else KB (bF b) (bT b) (bV b) b.1 (ln L) r k:=fun r=>rfl
  have hm0:∀k,KB (bF b) (bT b) (bV b) b.1 (ln L) 0 k=0:=fun k=>rfl
  generalize KB (bF b) (bT b) (bV b) b.1 (ln L)=M at*
  refine Hu (ι:=Nat) (fun i=>i<=L.length) (fun i=>L.length-i) [1,7,10,49,50] (fun i=>[(11,.own (.n 3)),(51,.int .i64 i)]) (fun i=>[(2,.mp .i64 (GN (ln L) (i-1)) (fun k=> .int .i64 (M (i-1) k))),(3,.row 86 3 (i-1) fun a c=>((Lp t b).2 a).c c)]) 1 0 (Nat.zero_le _) (by simp only[GN,Nat.zero_sub,↓reduceIte,reduceCtorEq,Nat.reduceEqDiff,Nat.reduceAdd,Nat.reduceLT,go_sem];try trace_state) fun i hi=> ?_
  by_cases hil:i<L.length
  ·have fi:((i:Int)<(L.length:Int))=True:=eq_true (by omega)
   cases i with
   |zero=>
    have f0:(0<(L.length:Int))=True:=eq_true (by omega)
    simp only[f0,↓reduceIte,reduceCtorEq,Nat.reduceEqDiff,Nat.reduceAdd,Int.reduceToNat,Int.reduceLE,Int.reduceAdd,go_sem]
    refine Af 1 (by show 1<=L.length;omega) (by show L.length-1<_;omega) ?_
    simp only[GN,hm0,Nat.sub_self,↓reduceIte,reduceCtorEq,Nat.reduceEqDiff,Nat.reduceLT,go_sem]
    exact AU (by omega) (by omega)
   |succ r=>
    have fz:(((r+1:Nat):Int)=0)=False:=eq_false (by omega)
    have hs1:IntKind.i64.wrap (((r+1:Nat):Int)-1)=(r:Int):=by rw[AU (by omega) (by omega)];omega
    have hpr:=hpk r
    have hrise:=hA.rise r (by rw[hL];omega)
    rw[hL]at hrise
    have hx:(ln L r=ln L (r+1))=False:=eq_false (by omega)
    have hris:∀j,j<L.length-1->ln L j<ln L (j+1):=by have:=hA.rise;rw[hL]at this;exact this
    have hfe:∀k,k<b.1->∃a,a<=L.length-1/\bF b k=ln L a:=by have:=hA.fe;rw[hL]at this;exact this
    have hgb:∀k,k<b.1->bT b k=ln L (r+1)->bF b k≠ln L (r+1)/\0<=M r (bF b k)/\M r (bF b k)<=12000000000:=fun k hk hT=>by
     obtain⟨a,ha,e⟩:=hfe k hk
     have hlt:=(hA.best.2 k hk).1
     have hT':(b.2 k).turn.til=ln L (r+1):=hT
     have e':(b.2 k).turn.fro=ln L a:=e
     have har:a<=r:=by
      rcases Nat.lt_or_ge r a with q|q
      ·have:=(DV (ln L) (L.length-1) hris (show r+1<=L.length-1 by omega) ha).2 q
       omega
      exact q
     rw[e,htp r (by omega) a har]
     exact⟨by rw[<-e',<-hT'];omega,hbn _⟩
    have hm0':0<=M r (ln L r)/\M r (ln L r)<=12000000000:=by rw[htp r (by omega) r (Nat.le_refl _)];exact hbn _
    have htb:∀k,k<=b.1->0<=tp (bT b) (bV b) (ln L (r+1)) (fun y=>M r (bF b y)) (M r (ln L r)) k/\tp (bT b) (bV b) (ln L (r+1)) (fun y=>M r (bF b y)) (M r (ln L r)) k<=13000000000:=fun k hk=>by
     have h1:=Uu (bT b) (bV b) (ln L (r+1)) (fun y=>M r (bF b y)) (M r (ln L r)) k
     rcases PR (bT b) (bV b) (ln L (r+1)) (fun y=>M r (bF b y)) (M r (ln L r)) k with e|⟨c,hc,hT,e⟩
     ·omega
     have:=(hgb c (by omega) hT).2
     have h2:=(hA.best.2 c (by omega)).2
     have h3:bV b c<=1000000000:=h2.2
     omega
    have hts:∀k,tp (bT b) (bV b) (ln L (r+1)) (fun y=>M r (bF b y)) (M r (ln L r)) (k+1)=if bT b k=ln L (r+1)then max (tp (bT b) (bV b) (ln L (r+1)) (fun y=>M r (bF b y)) (M r (ln L r)) k) (M r (bF b k)+bV b k)else tp (bT b) (bV b) (ln L (r+1)) (fun y=>M r (bF b y)) (M r (ln L r)) k:=fun k=>rfl
    have hfin:M (r+1) (ln L (r+1))=tp (bT b) (bV b) (ln L (r+1)) (fun y=>M r (bF b y)) (M r (ln L r)) b.1:=by rw[hmz r];exact if_pos rfl
    have ht0:tp (bT b) (bV b) (ln L (r+1)) (fun y=>M r (bF b y)) (M r (ln L r)) 0=M r (ln L r):=rfl
    have hmz':=hmz r
    generalize tp (bT b) (bV b) (ln L (r+1)) (fun y=>M r (bF b y)) (M r (ln L r))=tv at*
    simp only[fi,fz,hs1,↓hpr,Int.toNat_natCast,Nat.add_sub_cancel,hw,↓reduceIte,reduceCtorEq,Nat.reduceEqDiff,Nat.reduceAdd,Nat.reduceSub,Nat.reducePow,go_sem]
    refine⟨by omega,by omega,by omega,?_⟩
    refine AS (ι:=Nat) (fun k=>k<=b.1) (fun k=>b.1-k) [1,7,10,11,13,14,49,50,51,68,69] (fun k=>[(70,.int .i64 k)]) (fun k=>[(2,.mp .i64 (fun j=>if j=ln L (r+1)then true else GN (ln L) r j) (fun j=>if j=ln L (r+1)then .int .i64 (tv k)else .int .i64 (M r j)))]) 0 (Nat.zero_le _) (by
     simp only[ht0,↓reduceIte,reduceCtorEq,Nat.reduceEqDiff,Nat.reduceLT,go_sem]
     intro j _
     by_cases e:j=ln L (r+1)
     ·rw[if_pos e];exact rfl
     rw[if_neg e];exact rfl) fun k hk=> ?_
    by_cases hkl:k<b.1
    ·have fk:((k:Int)<(b.1:Int))=True:=eq_true (by omega)
     have hg:=hgb k hkl
     have hv:=(hA.best.2 k hkl).2
     have hb1:=htb k hk
     have hsk:=hts k
     by_cases hT:bT b k=ln L (r+1)
     ·have hT':((b.2 k).turn.til=ln L (r+1))=True:=eq_true hT
      obtain⟨g1,g2,g3⟩:=hg hT
      have hF':((b.2 k).turn.fro=ln L (r+1))=False:=eq_false g1
      have hnx:tv (k+1)=max (tv k) (M r (b.2 k).turn.fro+(b.2 k).baisa):=by rw[hsk,if_pos hT]
      have g2':0<=M r (b.2 k).turn.fro:=g2
      have g3':M r (b.2 k).turn.fro<=12000000000:=g3
      cases hh:GN (ln L) r (b.2 k).turn.fro with
      |true=>
       simp only[fk,hT',hF',hh,↓reduceIte,reduceCtorEq,Nat.reduceEqDiff,Nat.reduceAdd,Nat.reduceLeDiff,go_sem]
       refine⟨by omega,Af (k+1) hkl (by omega) ?_⟩
       rw[AU (e:=M r (b.2 k).turn.fro+(b.2 k).baisa) (by omega) (by omega),<-hnx]
       simp only[↓reduceIte,reduceCtorEq,Nat.reduceEqDiff,Nat.reduceLT,go_sem]
       refine⟨Cs (by omega),fun j=> ?_⟩
       by_cases e:j=ln L (r+1)
       ·simp only[if_pos e];exact⟨trivial,fun _=>rfl⟩
       simp only[if_neg e];exact⟨trivial,fun _=>rfl⟩
      |false=>
       have hz:=hno r _ hh
       simp only[fk,hT',hF',hh,↓reduceIte,reduceCtorEq,Nat.reduceEqDiff,Nat.reduceAdd,Nat.reduceLeDiff,go_sem]
       refine⟨by omega,Af (k+1) hkl (by omega) ?_⟩
       rw[hz]at hnx
       rw[AU (e:=0+(b.2 k).baisa) (by omega) (by omega),<-hnx]
       simp only[↓reduceIte,reduceCtorEq,Nat.reduceEqDiff,Nat.reduceLT,go_sem]
       refine⟨Cs (by omega),fun j=> ?_⟩
       by_cases e:j=ln L (r+1)
       ·simp only[if_pos e];exact⟨trivial,fun _=>rfl⟩
       simp only[if_neg e];exact⟨trivial,fun _=>rfl⟩
     have hT':((b.2 k).turn.til=ln L (r+1))=False:=eq_false hT
     simp only[fk,hT',↓reduceIte,reduceCtorEq,Nat.reduceEqDiff,Nat.reduceAdd,Nat.reduceLeDiff,go_sem]
     refine⟨by omega,Af (k+1) hkl (by omega) ?_⟩
     rw[if_neg hT]at hsk
     simp only[hsk,↓reduceIte,reduceCtorEq,Nat.reduceEqDiff,Nat.reduceLT,go_sem]
     refine⟨Cs (by omega),fun j _=> ?_⟩
     by_cases e:j=ln L (r+1)
     ·rw[if_pos e];exact rfl
     rw[if_neg e];exact rfl
    have fk:((k:Int)<(b.1:Int))=False:=eq_false (by omega)
    obtain rfl:k=b.1:=by omega
    have hend:Kt b (ln L (r+1))=tv b.1:=by rw[<-htp (r+1) (by omega) (r+1) (Nat.le_refl _),hfin]
    have hbeg:Kt b (ln L r)=M r (ln L r):=(htp r (by omega) r (Nat.le_refl _)).symm
    have htn:=htb b.1 (Nat.le_refl _)
    have hp:(Lp t b).2 r=⟨⟨ln L r,ln L (r+1)⟩,tv b.1-M r (ln L r)⟩:=by rw[hprc,<-hend,<-hbeg]
    have hmp:∀j,M (r+1) j=if j=ln L (r+1)then tv b.1 else M r j:=fun j=>by rw[hmz']
    have hs2:IntKind.i64.wrap (tv b.1-M r (ln L r))=tv b.1-M r (ln L r):=AU (by omega) (by omega)
    cases hh:GN (ln L) r (ln L r)with
    |true=>
     simp only[fk,hx,hh,hs2,↓reduceIte,reduceCtorEq,Nat.reduceEqDiff,Nat.reduceAdd,Nat.reduceSub,Nat.reduceLeDiff,Nat.reduceLT,Nat.reducePow,go_sem]
     refine⟨by omega,by omega,Af (r+1+1) (by show r+1+1<=L.length;omega) (by show L.length-(r+1+1)<_;omega) ?_⟩
     simp only[Nat.add_sub_cancel,↓reduceIte,reduceCtorEq,Nat.reduceEqDiff,Nat.reduceLT,go_sem]
     refine⟨Cs (by omega),fun j=> ?_,fun a ha c hc=> ?_⟩
     ·rw[hmp j,GN]
      by_cases e:j=ln L (r+1)
      ·simp only[if_pos e];exact⟨trivial,fun _=>rfl⟩
      simp only[if_neg e];exact⟨trivial,fun _=>rfl⟩
     by_cases e:a<r
     ·rw[if_pos e,Fq];trivial
     obtain rfl:a=r:=by omega
     rw[if_neg e,Nat.sub_self,hp]
     match c,hc with
     |0,_|1,_|2,_=>exact rfl
    |false=>
     have hz:=hno r _ hh
     rw[hz]at hs2 hp
     simp only[fk,hx,hh,hs2,↓reduceIte,reduceCtorEq,Nat.reduceEqDiff,Nat.reduceAdd,Nat.reduceSub,Nat.reduceLeDiff,Nat.reduceLT,Nat.reducePow,go_sem]
     refine⟨by omega,by omega,Af (r+1+1) (by show r+1+1<=L.length;omega) (by show L.length-(r+1+1)<_;omega) ?_⟩
     simp only[Nat.add_sub_cancel,↓reduceIte,reduceCtorEq,Nat.reduceEqDiff,Nat.reduceLT,go_sem]
     refine⟨Cs (by omega),fun j=> ?_,fun a ha c hc=> ?_⟩
     ·rw[hmp j,GN]
      by_cases e:j=ln L (r+1)
      ·simp only[if_pos e];exact⟨trivial,fun _=>rfl⟩
      simp only[if_neg e];exact⟨trivial,fun _=>rfl⟩
     by_cases e:a<r
     ·rw[if_pos e,Fq];trivial
     obtain rfl:a=r:=by omega
     rw[if_neg e,Nat.sub_self,hp]
     match c,hc with
     |0,_|1,_|2,_=>exact rfl
  have fi:((i:Int)<(L.length:Int))=False:=eq_false (by omega)
  obtain rfl:i=L.length:=by omega
  simp only[fi,↓reduceIte,reduceCtorEq,Nat.reduceEqDiff,Nat.reduceAdd,go_sem]
  rw[hprc]
 rw[if_neg h0]
 simp only[a38,Ag,AZ,Jz,h0,hw,↓reduceIte,reduceCtorEq,Nat.reduceEqDiff,Nat.reduceAdd,Nat.reduceSub,Nat.reduceLeDiff,Nat.reduceLT,Nat.reducePow,go_sem]
end Go.Proofs.YtlieoghhkioflaaGreat
namespace Go.Proofs.YtlieoghhkioflaaGreat
open Go Go.RowKit
variable{G:Nat->Option (Nat×(Nat->Ad))}
theorem W5{t:Tu}{b:Nat×(Nat->Bd)}(h:FD t b):Xe b b.1 [] ([],0)=IB b t.til:=by
 have:=L1 (bF b) (bT b) (bV b) b.1 t.til (fun i hi=>by obtain⟨_,⟨_,_,h1⟩,_⟩:=h.bd i hi;exact h1)
 rw[IB,<-this,Wm,Xe]
 congr 1
theorem QM:Ah Tryz.prog G 36 ZL:=by
 refine Qc (Ij (S:=SAc) (I:=IAc) (X:=[]) (N:=[]) (C:=[(74,none)]) mixed (.cons JY (.cons Abi (.cons WF (.cons ZB .nil)))) (.cons Tryz.func74 c74 (.cons Tryz.func76 c76 (.cons Tryz.func106 Aca (.cons Tryz.func77 c77 .nil)))) .nil Tryz.func36 c36 fun a _ hw=> ?_)
 obtain⟨t,b,⟨⟩⟩:=a
 simp only[Ag,AZ,reduceCtorEq,Nat.reduceSub,Nat.reducePow,go_sem]at hw
 unfold WX
 by_cases h0:FS t b=0
 ·rw[if_pos h0]
  have hA:=AbI h0
  have hbest:=hA.best.2
  have hn:=hA.n
  simp only[a36,Ag,AZ,Jz,h0,hw,↓reduceIte,reduceCtorEq,Nat.reduceEqDiff,Nat.reduceAdd,Nat.reduceSub,Nat.reducePow,go_sem]
  refine Wq hn (fun i hi=>(hbest i hi).2) b.1 (Nat.le_refl _) [] [] 0 .nils .nils _ 5 _ _ [] (by omega) (.inr ⟨rfl,rfl⟩) (.inl ⟨rfl,rfl⟩) (fun i hi=>by cases hi) (by show 0+b.1<=b.1;omega) (Int.le_refl _) rfl rfl (fun N D=>(by show BS N D (lV []) .nils;rw[Kl];rfl)) rfl rfl (by omega) (fun y hy=> ?_) (fun y c hc z v hz=> ?_) (fun z v hz=> ?_) (fun z v hz=>rfl) fun bx' B' hB' r2 r3 rold=> ?_
  ·rw[AY,if_neg (fun e=>by cases e;omega),AY,if_neg (fun e=>by cases e;omega),AY,if_neg (fun e=>by cases e;omega),AY,if_neg (fun e=>by cases e;omega),AY,if_neg (fun e=>by cases e;omega)];rfl
  ·have z1:(1=z)=False:=eq_false (by omega)
   have z2:(2=z)=False:=eq_false (by omega)
   have z3:(3=z)=False:=eq_false (by omega)
   have z4:(4=z)=False:=eq_false (by omega)
   simp only[AY]at hc
   split at hc
   ·cases hc;simp only[z1,z2,z3,z4,BU,↓reduceIte,go_sem]
   split at hc
   ·cases hc;rfl
   split at hc
   ·cases hc;rfl
   split at hc
   ·cases hc;rfl
   split at hc
   ·cases hc;rfl
   cases hc
  ·have z0:(0=z)=False:=eq_false (by omega)
   have z1:(1=z)=False:=eq_false (by omega)
   have z2:(2=z)=False:=eq_false (by omega)
   have z3:(3=z)=False:=eq_false (by omega)
   have z4:(4=z)=False:=eq_false (by omega)
   simp only[z0,z1,z2,z3,z4,↓reduceIte,go_sem]
  rw[W5 hA]at r2 r3
  obtain⟨B',rfl⟩:∃q,B'=q+100:=⟨B'-100,by omega⟩
  generalize IB b t.til=R at*
  simp only[r2,r3,Ac,↓reduceIte,Nat.reduceEqDiff,Nat.reduceAdd,Nat.reduceSub,go_sem]
 rw[if_neg h0]
 simp only[a36,Ag,AZ,Jz,h0,hw,↓reduceIte,reduceCtorEq,Nat.reduceEqDiff,Nat.reduceAdd,Nat.reduceSub,Nat.reducePow,go_sem]
end Go.Proofs.YtlieoghhkioflaaGreat
