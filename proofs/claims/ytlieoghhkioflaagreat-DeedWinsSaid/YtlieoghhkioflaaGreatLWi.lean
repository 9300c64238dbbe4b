/- Auctions: the statement DeedWins. No condition. -/
import Derived.Test.YtlieoghhkioflaaGreatDPvP
import Derived.Test.YtlieoghhkioflaaGreatACodeL9
set_option linter.unusedSimpArgs false
set_option linter.unusedVariables false
set_option maxRecDepth 100000
namespace Go.Proofs.YtlieoghhkioflaaGreat
open Go Go.RowKit
variable{G:Nat->Option (Nat×(Nat->Ad))}
def WP:At:=D1 Tg (Du NA) (TU .u16) (fun _ _ _=>True) fun _ _ _=> .bool true
set_option maxHeartbeats 4000000 in
theorem WS:Ai Tryz.prog G 9 WP:=by
 refine Z1 (S:=[(25,Fu),(35,Ll),(36,Ps),(37,T9)]) (I:=[]) mixed
  (.cons TX (.cons Aax (.cons H0 (.cons Aaj .nil)))) .nil Tryz.func9 c9 fun t b set _ hw=> ?_
 simp only[Nat.reduceSub,Nat.reducePow,go_sem]at hw
 by_cases h0:C8 t b=0
 ·have f0:Bf (C8 t b=0)=true:=AA h0
  have hA:=Tt h0
  have ha:M4 t b= .tup (.cons (lV (D2 b t.til).1) (.cons (.int .i64 (D2 b t.til).2) (.cons (.int .i64 0) .nil))):=by rw[M4,if_pos h0]
  have hW:=hA.wins t.til
  generalize D2 b t.til=R at*
  have hn:=hA.n
  have hl:=hW.len
  have hl1:(R.1.length<=9223372036854775807)=True:=eq_true (by omega)
  simp only[A9,a9,Fu,Ll,f0,Ps,ha,hl1,hw,↓reduceIte,reduceCtorEq,Nat.reduceEqDiff,Nat.reduceAdd,Nat.reduceSub,Nat.reduceLT,Nat.reducePow,go_sem]
  refine AX (ι:=Nat) (fun j=>j<=R.1.length) (fun j=>R.1.length-j) [1,2,7,8,9,39,40] (fun j=>[(41,.int .i64 j)]) (fun _=>[]) 0 (Nat.zero_le _) (by simp only[↓reduceIte,reduceCtorEq,Nat.reduceEqDiff,Nat.reduceLT,go_sem]) fun j hj=> ?_
  by_cases hjl:j<R.1.length
  ·have fj:((j:Int)<(R.1.length:Int))=True:=eq_true (by omega)
   have hr:=hW.rng j hjl
   have f1:(DP R.1 j<0)=False:=eq_false (by omega)
   have f2:(DP R.1 j≥(b.1:Int))=False:=eq_false (by omega)
   by_cases hj0:0<j
   ·have hs:=hW.ris j hj0 hjl
    have f3:((j:Int)>0)=True:=eq_true (by omega)
    have f4:IntKind.i64.wrap ((j:Int)-1)=((j-1:Nat):Int):=by rw[AP (by omega) (by omega)];omega
    have f5:(DP R.1 j<=DP R.1 (j-1))=False:=eq_false (by omega)
    simp only[fj,f1,f2,f3,f4,f5,hl1,Int.toNat_natCast,hw,↓reduceIte,reduceCtorEq,Nat.reduceEqDiff,Nat.reduceSub,Nat.reducePow,go_sem]
    refine⟨by omega,by omega,by omega,Af (j+1) hjl (by omega) ?_⟩
    simp only[↓reduceIte,Nat.reduceEqDiff,Nat.reduceLT,go_sem]
    exact Cp (by omega)
   have f3:((j:Int)>0)=False:=eq_false (by omega)
   simp only[fj,f1,f2,f3,hw,↓reduceIte,reduceCtorEq,Nat.reduceEqDiff,Nat.reduceSub,Nat.reducePow,go_sem]
   refine⟨by omega,Af (j+1) hjl (by omega) ?_⟩
   simp only[↓reduceIte,Nat.reduceEqDiff,Nat.reduceLT,go_sem]
   exact Cp (by omega)
  have fj:((j:Int)<(R.1.length:Int))=False:=eq_false (by omega)
  obtain rfl:j=R.1.length:=by omega
  have hLO:LOk b (lv R.1)=True:=eq_true ⟨by show R.1.length<=12;omega,hW.rng,fun i hi=>(hA.best.2 i hi).2⟩
  have hT:IV b (lv R.1)= .tup (.cons (.int .i64 R.2) (.cons (.bool true) .nil)):=by rw[IV,AA hW.tog,if_pos rfl,hW.sum]
  obtain⟨s,hs⟩:∃s:Nat,set.1=s:=⟨set.1.toNat,by have:=L9 set;omega⟩
  have hs2:s<65536:=by have:=L9 set;omega
  simp only[fj,T9,hLO,hT,hl1,hw,hs,↓reduceIte,reduceCtorEq,Nat.reduceEqDiff,Nat.reduceAdd,Nat.reduceSub,Nat.reduceLT,Nat.reducePow,go_sem]
  refine GA (ι:=Nat) (fun j=>j<=b.1) (fun j=>b.1-j) [1,2,7,8,9,81,82] (fun j=>[(15,.own (.n 1)),(83,.int .i64 j)]) (fun j=>[(1,.row 3 1 (Ky s j).length fun a _=> .int .i64 (DP (Ky s j) a))]) 1 0 (Nat.zero_le _) (by simp only[Ky,List.range_zero,List.filter_nil,List.length_nil,↓reduceIte,reduceCtorEq,Nat.reduceEqDiff,Nat.reduceAdd,Nat.reduceLT,go_sem]) fun j hj=> ?_
  by_cases hjl:j<b.1
  ·have fj:((j:Int)<(b.1:Int))=True:=eq_true (by omega)
   have g1:(0<=(j:Int))=True:=eq_true (by omega)
   have g2:((j:Int)<=64)=True:=eq_true (by omega)
   have hbit:=KH s j hs2
   have hsuc:=NE s j
   have hlen:=(Mh s j).2.2
   have happ:=L2 (Ky s j) j
   generalize Ky s j=l at*
   cases hb:s.testBit j with
   |true=>
    rw[hb,if_pos rfl]at hbit hsuc
    simp only[fj,g1,hbit,↓reduceIte,reduceCtorEq,Nat.reduceEqDiff,Nat.reduceAdd,Nat.reduceSub,Nat.reduceLeDiff,Nat.reduceLT,Nat.reducePow,go_sem]
    refine⟨by omega,by omega,by omega,Af (j+1) hjl (by omega) ?_⟩
    simp only[hsuc,List.length_append,List.length_cons,List.length_nil,↓reduceIte,reduceCtorEq,Nat.reduceEqDiff,Nat.reduceLT,go_sem]
    refine⟨Cp (by omega),fun a ha c hc=> ?_⟩
    obtain rfl:c=0:=by omega
    rw[happ]
    by_cases e:a<l.length
    ·rw[if_pos e,if_pos e]
    obtain rfl:a=l.length:=by omega
    rw[if_neg e,if_neg e,if_pos rfl,Nat.sub_self];rfl
   |false=>
    rw[hb,if_neg Bool.false_ne_true]at hbit hsuc
    simp only[fj,g1,hbit,↓reduceIte,reduceCtorEq,Nat.reduceEqDiff,Nat.reduceAdd,Int.reduceBEq,go_sem]
    refine⟨by omega,Af (j+1) hjl (by omega) ?_⟩
    simp only[hsuc,↓reduceIte,reduceCtorEq,Nat.reduceEqDiff,Nat.reduceLT,go_sem]
    exact Cp (by omega)
  have fj:((j:Int)<(b.1:Int))=False:=eq_false (by omega)
  obtain rfl:j=b.1:=by omega
  obtain⟨e1,e2,e3⟩:=Mh s b.1
  have htop:=hW.top (Ky s b.1) e1 e2 fun i hi=>by
   obtain⟨_,⟨_,_,h⟩,_⟩:=hA.bd i (e2 i hi)
   exact h
  generalize Ky s b.1=e at*
  have hLE:LOk b (e.length,DP e)=True:=eq_true ⟨by show e.length<=12;omega,fun i hi=>by
   have hi':i<e.length:=hi
   have:=e2 _ (List.getElem_mem hi')
   show 0<=DP e i/\DP e i<b.1
   rw[Hm hi'];omega,fun i hi=>(hA.best.2 i hi).2⟩
  have hle1:(e.length<=9223372036854775807)=True:=eq_true (by omega)
  by_cases hT2:Xo b (lv e)
  ·obtain⟨h1,h2⟩:=htop hT2
   have hT3:IV b (e.length,DP e)= .tup (.cons (.int .i64 (FM b (lv e) e.length)) (.cons (.bool true) .nil)):=by rw[IV,AA hT2,if_pos rfl]
   generalize FM b (lv e) e.length=m at*
   by_cases hlt:m<R.2
   ·have g1:(m<R.2)=True:=eq_true hlt
    simp only[fj,hLE,hT3,g1,hw,↓reduceIte,reduceCtorEq,Nat.reduceEqDiff,Nat.reduceAdd,Nat.reduceSub,Nat.reduceLT,Nat.reducePow,go_sem]
   have g1:(m<R.2)=False:=eq_false hlt
   have g2:(m>R.2)=False:=eq_false (by omega)
   have hE:=h2 (by omega)
   have hmin:min (R.1.length:Int) (e.length:Int)=((min R.1.length e.length:Nat):Int):=by omega
   simp only[fj,hLE,hT3,g1,g2,hmin,hl1,hw,↓reduceIte,reduceCtorEq,Nat.reduceEqDiff,Nat.reduceAdd,Nat.reduceSub,Nat.reduceLT,Nat.reducePow,go_sem]
   refine AX (ι:=Nat) (fun j=>j<=min R.1.length e.length/\∀i,i<j->DP e i=DP R.1 i) (fun j=>min R.1.length e.length-j) [7,8,15,117] (fun j=>[(118,.int .i64 j)]) (fun _=>[]) 0 ⟨Nat.zero_le _,fun i h=>by omega⟩ (by simp only[↓reduceIte,reduceCtorEq,Nat.reduceEqDiff,Nat.reduceLT,go_sem]) fun j hj=> ?_
   obtain⟨hj1,hj2⟩:=hj
   by_cases hjl:j<min R.1.length e.length
   ·have fj:((j:Int)<((min R.1.length e.length:Nat):Int))=True:=eq_true (by omega)
    by_cases hd:DP R.1 j=DP e j
    ·simp only[fj,hd,↓reduceIte,reduceCtorEq,Nat.reduceEqDiff,go_sem]
     refine⟨by omega,by omega,by omega,by omega,Af (j+1) ⟨hjl,fun i hi=> ?_⟩ (by omega) ?_⟩
     ·by_cases q:i=j
      ·subst q;exact hd.symm
      exact hj2 i (by omega)
     simp only[↓reduceIte,reduceCtorEq,Nat.reduceEqDiff,Nat.reduceLT,go_sem]
     exact Cp (by omega)
    have h5:=WG hE hj2 (by show j<e.length;omega) (by show j<R.1.length;omega) fun q=>hd q.symm
    have h5:DP R.1 j<DP e j:=h5
    have f5:(DP R.1 j<DP e j)=True:=eq_true h5
    have f6:(DP R.1 j=DP e j)=False:=eq_false hd
    simp only[fj,f5,f6,↓reduceIte,reduceCtorEq,Nat.reduceEqDiff,go_sem]
    omega
   have fj:((j:Int)<((min R.1.length e.length:Nat):Int))=False:=eq_false (by omega)
   have h5:=SW hE hj2 (by show j=e.length\/j=R.1.length;omega) (by show j<=e.length;omega) (by show j<=R.1.length;omega)
   have h5:R.1.length<=e.length:=h5
   have f5:((R.1.length:Int)<=(e.length:Int))=True:=eq_true (by omega)
   simp only[fj,f5,hl1,↓reduceIte,reduceCtorEq,Nat.reduceEqDiff,Nat.reduceSub,Nat.reducePow,go_sem]
  have hT3:IV b (e.length,DP e)= .tup (.cons (.int .i64 0) (.cons (.bool false) .nil)):=by rw[IV,Ax hT2,if_neg (by decide)]
  simp only[fj,hLE,hT3,hw,↓reduceIte,reduceCtorEq,Nat.reduceEqDiff,Nat.reduceAdd,Nat.reduceSub,Nat.reduceLT,Nat.reducePow,go_sem]
 have f0:Bf (C8 t b=0)=false:=Ax h0
 simp only[A9,a9,Fu,Ll,f0,hw,↓reduceIte,reduceCtorEq,Nat.reduceEqDiff,Nat.reduceAdd,Nat.reduceSub,Nat.reducePow,go_sem]
end Go.Proofs.YtlieoghhkioflaaGreat
