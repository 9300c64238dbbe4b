/- Deeds: slices.Insert at pieces, of one piece, walked: in place where there is room, into a new row where there is none. Conditions: the place is ahead of the end. -/
import Derived.Test.YtlieoghhkioflaaGreatProg
import Derived.Test.YtlieoghhkioflaaGreatE4
import Derived.Shelf.RegionOpenPlain
import Derived.WalkKit
import Derived.Lib.Walk
import Derived.Lib.SliceRun
import Derived.Lib.AppendZerosOnto
import Derived.Laws.IdiomCopy
import Derived.Laws.Externs
import Derived.Laws.NewBlocks
import Derived.Test.YtlieoghhkioflaaGreatDr2
import Derived.Test.YtlieoghhkioflaaGreatACode1
set_option linter.unusedSimpArgs false
set_option linter.unusedVariables false
set_option maxRecDepth 100000
namespace Go.Proofs.YtlieoghhkioflaaGreat
open Go Go.RowKit
variable{a:Act}{Q:Exit->Act->World->Prop}{o:Oper}{v':Value}{w':World}
section
variable{P:Program}
theorem Gk(w:World)(dT sT ty elem:TypeId)(g o dLen dCap:Nat)(a:Addr)(sLen sCap:Nat)(cur:Array Value)(t:TypeId)(cs:List Value)(k m:Nat)
  (hu:P.underlying dT=some (.slice elem)) (hs:(P.info? elem).map (·.size)=some k) (hm:Nat.min sLen dLen=m)
  (hg:w.heap[g]?=some (.cells cur t (0,0))) (hn:cs.length=m*k)
  (hsrc:∀j v,cs[j]?=some v->w.cell? (a.add j)=some v) (hfit:o+cs.length<=cur.size) (h1:∀v∈cs,v.oneCell'=true):
  (Builtin.copy_ #[dT,sT] ty #[.slice (some ⟨g,o,none⟩) dLen dCap,.slice (some a) sLen sCap]).run P w=
   .ok (goInt m) (w.setRow g (cur.toList.take o++cs++cur.toList.drop (o+cs.length)).toArray):=by
 have hl:=run_loadCells_list (P:=P) w a cs hsrc
 have hst:=run_storeCells_at P g o t cs 0 cur w hg (by simpa using hfit) h1
 cases hq:P.info? elem with
 |none=>simp[hq]at hs
 |some i=>
  have hi:i.size=k:=by simpa[hq]using hs
  simp[Builtin.copy_,run_underlying hu,Builtin.lenOf,Builtin.firstCells,Go.sizeOf,typeInfo,hq,hi,hm,<-hn,hl,hst]
theorem GV(w:World)(tS tR e:TypeId)(ht:P.underlying tS=some (.slice e))(size:Nat)(hz:∀w,(Go.sizeOf e).run P w= .ok size w)
  (a b:Addr) (la ca lb cb:Nat) (hne:a.block≠b.block) (ra:Array Value) (ta:TypeId) (fa:Nat×Nat) (rb:Array Value) (tb:TypeId)
  (hsa:w.heap[a.block]?=some (.cells ra ta fa)) (hsb:w.heap[b.block]?=some (.cells rb tb (0,0))) (hka:ra.size≠0) (hkb:rb.size≠0):
  (Extern.SlicesOverlaps.overlaps #[tS,tS] #[tR] #[.slice (some a) la ca,.slice (some b) lb cb]).run P w= .ok (.bool false) w:=by
 have hnb:(a.block !=b.block)=true:=by simpa using hne
 have hnb':(a.block==b.block)=false:=by simpa using hne
 have s1:w.shape? a.block=some (ta,ra.size):=by simp[World.shape?,hsa]
 have s2:w.shape? b.block=some (tb,rb.size):=by simp[World.shape?,hsb]
 have f2:∀o s,w.frozen? ⟨b.block,o,s⟩=false:=fun o s=>by simp[World.frozen?,hsb]
 have f2':w.frozen? b=false:=by simp[World.frozen?,hsb]
 change Sem.run P (α:=Value) (do
  let some t:=(#[tS,tS]:Array TypeId)[0]?|stuck "slices.overlaps: no parameter types"
  let .slice elem<-underlying t|stuck "slices.overlaps: slice type expected"
  let size<-Go.sizeOf elem
  match(some a:Option Addr),(some b:Option Addr)with
  |some a,some b=>
   if la=0\/lb=0\/size=0 then pure (Value.bool false)
   else if a.block !=b.block&&(<-frozen a)&&(<-frozen b)then unsupported .addressObserved
   else do
    if a.block !=b.block then do
     noView a;noView b
     if<-mayBeOne a b then return Value.bool ((<-choose (.extern "sameAddr.stringBytes" 2))==1)
    pure (Value.bool (a.block==b.block&&a.off<b.off+lb*size&&b.off<a.off+la*size))
  |_,_=>pure (Value.bool false)) w=_
 by_cases h0:la=0\/lb=0\/size=0
 ·simp[run_underlying ht,hz,h0]
 obtain⟨ka,hka'⟩:∃k,ra.size=k+1:=⟨ra.size-1,by omega⟩
 obtain⟨kb,hkb'⟩:∃k,rb.size=k+1:=⟨rb.size-1,by omega⟩
 cases hfa:w.frozen? a<;>cases hfe:w.frozen? ⟨a.block,ka+1,none⟩<;>simp[run_underlying ht,hz,h0,hnb,hnb',frozen,noView,viewAt,mayBeOne,stringish,shape,Sem.run,s1,s2,f2,hfa,hfe,hka',hkb']
theorem Mg(w:World){K:Act->World->Prop}(d s:Operand)(t t':TypeId)
  (ho:o.op= .call {callee:= .builtin .copy,args:= #[d,s],argTypes:= #[t,t']}) (v u:Value) (hd:a.eval d=v) (hs:a.eval s=u) 
  (hr:(Builtin.copy_ #[t,t'] o.type #[v,u]).run P w= .ok v' w') (h:K (a.put o.dst v') w'):o.wp P a w K Q:=by
 unfold Oper.wp execOp
 simp only[ho,resolve,invoke,builtin,Sem.run_bind,Sem.run_pure,Result.andThen_ok,List.map_toArray,List.map_cons,List.map_nil,hd,hs,hr]
 exact h
theorem Fd(w:World){ops:Array Oper}{rest:List Oper}(hgd:o.guard=none)(d s:Operand)(t t':TypeId)
  (ho:o.op= .call {callee:= .builtin .copy,args:= #[d,s],argTypes:= #[t,t']}) (v u:Value) (hd:a.eval d=v) (hs:a.eval s=u) 
  (hr:(Builtin.copy_ #[t,t'] o.type #[v,u]).run P w= .ok v' w') (h:wpList P ops Q rest (a.put o.dst v') w'):wpList P ops Q (o::rest) a w:=
 wpList_plain hgd fun _ hK=>Mg w d s t t' ho v u hd hs hr (hK _ _ h)
theorem Gf{ops:Array Oper}{w:World}{K:Act->World->Prop}{E:Prop}
  (hg:o.guard=none) (d x:Operand) (dT sT:TypeId) (hop:o.op=Op.call {callee:=Callee.builtin Builtin.copy,args:= #[d,x],argTypes:= #[dT,sT]})
  (v u:Value) (hd:a.eval d=v) (hx:a.eval x=u) (hr:(Builtin.copy_ #[dT,sT] o.type #[v,u]).run P w= .ok v' w') (hK:K (a.put o.dst v') w'):
  if Region.wanted o (yielded ops a.tmps)=true then Oper.wp P o a w K Q else E:=by
 have hw:Region.wanted o (yielded ops a.tmps)=true:=by simp[Region.wanted,hg]
 rw[if_pos hw]
 unfold Oper.wp
 simp[execOp,hop,resolve,invoke,builtin,hd,hx,hr,Result.andThen]
 exact hK
end
theorem Mh{w:World}{a:Addr}{v:Value}(h:w.cell? a=some v):∃r t f,w.heap[a.block]?=some (.cells r t f)/\r.size≠0:=by
 unfold World.cell? at h
 split at h
 ·rename_i c t f hh
  split at h
  ·cases h
  have:=(Array.getElem?_eq_some_iff.1 h).1
  exact⟨_,_,_,hh,by omega⟩
 cases h
set_option maxHeartbeats 4000000 in
theorem Q0(g n c i vb voff vc:Nat)(cur:Array Value)(e:TypeId)(vs:List Value)(w:World)(hg:w.heap[g]?=some (.cells cur e (0,0)))(hi:i<n)(hroom:n+1<=c)(hc:c<=maxLen)(hcs:cur.size=c*5)(hvb:vb≠g)
  (hvl:vs.length=5) (hvs:∀j v,vs[j]?=some v->w.cell? ⟨vb,voff+j,none⟩=some v) (h1v:∀v∈vs,v.oneCell'=true) (h1c:∀v∈(cur.toList.take (n*5)),v.oneCell'=true):
  Calls Tryz.prog 161 #[.slice (some ⟨g,0,none⟩) n c,.int .i64 i,.slice (some ⟨vb,voff,none⟩) 1 vc] w fun ex w'=>
   ex= .returned (.slice (some ⟨g,0,none⟩) (n+1) c)/\∃W,(W=w\/W=w.drew)/\∃c1,c1=(cur.toList.take ((i+1)*5)++(cur.toList.drop (i*5)).take ((n-i)*5)++cur.toList.drop ((i+1)*5+(n-i)*5))/\w'=(W.setRow g c1.toArray).setRow g (c1.take (i*5)++vs++c1.drop (i*5+5)).toArray:=by
 have hz1:¬((i:Int)=(n:Int)):=by omega
 unfold maxLen at hc
 have hcl:cur.toList.length=c*5:=by rw[Array.length_toList,hcs]
 obtain⟨rv,tv,fv,hv1,hv2⟩:=Mh (hvs 0 _ (List.getElem?_eq_getElem (by omega)))
 have hov:∀lb cb,(callFunc 168 #[.slice (some ⟨vb,voff,none⟩) 1 vc,.slice (some ⟨g,(i+1)*5,none⟩) lb cb]).run Tryz.prog w= .ok (.value (.bool false)) w:=fun lb cb=>by
  rw[run_callFunc_extern Tryz.func168 (by kernel_rfl) (by kernel_rfl) (by kernel_rfl) (e:=Extern.SlicesOverlaps.overlaps #[118,118] #[4]) (by kernel_rfl),
   GV w 118 4 107 Tryz.underlying118 5 Tryz.sizeOf107 ⟨vb,voff,none⟩ ⟨g,(i+1)*5,none⟩ 1 vc lb cb hvb rv tv fv cur e hv1 hg hv2 (by omega)]
  rfl
 have hsz:(Tryz.prog.info? 107).map (·.size)=some 5:=by kernel_rfl
 obtain⟨c1,hc1⟩:∃c1,c1=(cur.toList.take ((i+1)*5)++(cur.toList.drop (i*5)).take ((n-i)*5)++cur.toList.drop ((i+1)*5+(n-i)*5)):=⟨_,rfl⟩
 have hsl:((cur.toList.drop (i*5)).take ((n-i)*5)).length=(n-i)*5:=by
  rw[List.length_take,List.length_drop,hcl]
  omega
 have hc1l:c1.length=c*5:=by
  rw[hc1,List.length_append,List.length_append,hsl,List.length_take,List.length_drop,hcl]
  omega
 have hcp1:∀ty dc sc,(Builtin.copy_ #[118,118] ty #[.slice (some ⟨g,(i+1)*5,none⟩) (n-i) dc,.slice (some ⟨g,i*5,none⟩) (n+1-i) sc]).run Tryz.prog w.drew= .ok (goInt (n-i:Nat)) (w.drew.setRow g c1.toArray):=fun ty dc sc=>by
  have:=Gk (P:=Tryz.prog) w.drew 118 118 ty 107 g ((i+1)*5) (n-i) dc ⟨g,i*5,none⟩ (n+1-i) sc cur e ((cur.toList.drop (i*5)).take ((n-i)*5)) 5 (n-i) Tryz.underlying118 hsz (by simp only[Nat.min_def];split<;>omega) hg hsl (fun j v hj=> ?_) (by rw[hsl,hcs];omega) (fun v hv=> ?_)
  ·rw[hsl,<-hc1]at this;exact this
  ·rw[List.getElem?_take]at hj
   split at hj
   ·rw[List.getElem?_drop,Array.getElem?_toList]at hj
    rw[Addr.add_lit]
    change w.cell? _=some v
    simp[World.cell?,hg,hj]
   cases hj
  refine h1c v (List.mem_iff_getElem?.2 ?_)
  obtain⟨j,hj⟩:=List.mem_iff_getElem?.1 hv
  rw[List.getElem?_take]at hj
  split at hj
  ·rw[List.getElem?_drop]at hj
   exact⟨i*5+j,by rw[List.getElem?_take,if_pos (by omega)];exact hj⟩
  cases hj
 have hgW:∀W:World,W.heap=(w.drew.setRow g c1.toArray).heap->W.heap[g]?=some (.cells c1.toArray e (0,0)):=fun W h=>by rw[h];exact setRow_heap w.drew g cur _ e _ hg
 have hcp2:∀(W:World),W.heap=(w.drew.setRow g c1.toArray).heap->∀ty dc,(Builtin.copy_ #[118,118] ty #[.slice (some ⟨g,i*5,none⟩) (n+1-i) dc,.slice (some ⟨vb,voff,none⟩) 1 vc]).run Tryz.prog W= .ok (goInt (1:Nat)) (W.setRow g (c1.take (i*5)++vs++c1.drop (i*5+5)).toArray):=fun W hW ty dc=>by
  have:=Gk (P:=Tryz.prog) W 118 118 ty 107 g (i*5) (n+1-i) dc ⟨vb,voff,none⟩ 1 vc c1.toArray e vs 5 1 Tryz.underlying118 hsz (by simp only[Nat.min_def];split<;>omega) (hgW W hW) (by omega) (fun j v hj=> ?_) (by rw[List.size_toArray,hc1l,hvl];omega) h1v
  ·rw[hvl]at this;exact this
  rw[Addr.add_lit]
  have:=hvs j v hj
  rw[<-this]
  have:W.heap[vb]?=w.heap[vb]?:=by rw[hW];exact setRow_other w.drew g vb _ hvb
  simp[World.cell?,this]
 have hfin:∀W:World,W=(w.drew.setRow g c1.toArray).setRow g (c1.take (i*5)++vs++c1.drop (i*5+5)).toArray->∃W0,(W0=w\/W0=w.drew)/\∃c2,c2=(cur.toList.take ((i+1)*5)++(cur.toList.drop (i*5)).take ((n-i)*5)++cur.toList.drop ((i+1)*5+(n-i)*5))/\W=(W0.setRow g c2.toArray).setRow g (c2.take (i*5)++vs++c2.drop (i*5+5)).toArray:=fun W h=>⟨_,.inr rfl,c1,hc1,h⟩
 generalize (cur.toList.take ((i+1)*5)++(cur.toList.drop (i*5)).take ((n-i)*5)++cur.toList.drop ((i+1)*5+(n-i)*5))=c3 at*
 clear hc1 hsl hcl hgW
 have hw1:IntKind.i64.wrap ((i:Int)+1)=(i:Int)+1:=by rw[IntKind.wrap_i64];omega
 have hb1:(0:Int)<=(i:Int)+1:=by omega
 have hin:i<=n:=by omega
 have htn:((i:Int)+1).toNat=i+1:=by omega
 have hb2:¬(c=i+1):=by omega
 have hb3:(i:Int)<=(n:Int)+1:=by omega
 have hb3':(i:Int)<=(n:Int):=by omega
 have hb4:¬(c=i):=by omega
 have mixed:Tryz.prog.follows .mixedOrders=true:=by kernel_rfl
 go_enter Tryz.func161,Tryz.ntmps161
 go_wp2_with (simp only[hov])
 go_region_law_o (refine Gf rfl _ _ 118 118 rfl _ _ (by simp[Act.eval,Act.put]) (by simp[Act.eval,Act.put]) (hcp1 _ _ _) ?_)
 go_wp2_with (at_builtin;refine Fd _ rfl _ _ 118 118 rfl _ _ rfl rfl (hcp2 _ rfl _ _) ?_)
 go_ret
 exact⟨rfl,hfin _ (by rw[List.append_assoc])⟩
set_option maxHeartbeats 4000000 in
theorem U9(g n c i vb voff vc:Nat)(cur:Array Value)(e:TypeId)(vs:List Value)(w:World)(hg:w.heap[g]?=some (.cells cur e (0,0)))(hi:i<n)(hnc:n<=c)(hroom:c<n+1)(hc:c<=maxLen)(hbig:n<=1000000)(hcs:cur.size=c*5)(hvb:vb≠g)
    (hvl:vs.length=5) (hvs:∀j v,vs[j]?=some v->w.cell? ⟨vb,voff+j,none⟩=some v) (h1v:∀v∈vs,v.oneCell'=true) (h1c:∀v∈(cur.toList.take (n*5)),v.oneCell'=true):
    Calls Tryz.prog 161 #[.slice (some ⟨g,0,none⟩) n c,.int .i64 i,.slice (some ⟨vb,voff,none⟩) 1 vc] w fun ex w'=>
      ∃G:Nat,∃ROW:Array Value,n+1<=G/\G<=maxLen/\ROW.size=G*5/\ROW.toList.take (i*5)=cur.toList.take (i*5)/\ex= .returned (.slice (some ⟨w.heap.size,0,none⟩) (n+1) G)/\w'.os=w.os/\w'.tape=w.tape/\w'.output=w.output/\
        ∃c1,c1=ROW.toList.take (i*5)++vs++ROW.toList.drop (i*5+5)/\w'.heap=(((w.drew.alloc (.cells ROW 107)).setRow w.heap.size c1.toArray).setRow w.heap.size (c1.take ((i+1)*5)++(cur.toList.drop (i*5)).take ((n-i)*5)++c1.drop ((i+1)*5+(n-i)*5)).toArray).heap:=by
  have hz1:¬((i:Int)=(n:Int)):=by omega
  unfold maxLen at hc
  have hcl:cur.toList.length=c*5:=by rw[Array.length_toList,hcs]
  have hgw:g<w.heap.size:=(Array.getElem?_eq_some_iff.1 hg).1
  have hvw:vb<w.heap.size:=block_lt_of_cell (hvs 0 _ (List.getElem?_eq_getElem (by omega)))
  have hsz:(Tryz.prog.info? 107).map (·.size)=some 5:=by kernel_rfl
  obtain⟨i0,z,hi0,hz0,hzs,hzb,hzc⟩:∃i0 z,Tryz.prog.info? 107=some i0/\i0.zero=some z/\i0.size=5/\i0.bytes=40/\z.cells.size=5:=by
    refine⟨_,_,rfl,rfl,?_,?_,?_⟩<;>kernel_rfl
  have hkk:(n:Int)+1-(i:Int)=((n+1-i:Nat):Int):=by omega
  have hik:i+(n+1-i)=n+1:=by omega
  have hol:(cur.toList.take (i*5)).length=i*5:=by rw[List.length_take,hcl];omega
  have hgc:∀(W:World),W.heap[g]?=w.heap[g]?->∀j v,cur.toList[j]?=some v->W.cell? ⟨g,j,none⟩=some v:=fun W hW j v hj=>by
    rw[Array.getElem?_toList]at hj
    simp[World.cell?,hW,hg,hj]
  have hold:(Builtin.firstCells i0.size i (.slice (some ⟨g,0,none⟩) i c)).run Tryz.prog w.drew= .ok (cur.toList.take (i*5)).toArray w.drew:=by
    rw[hzs]
    exact run_firstCells_some w.drew 5 i ⟨g,0,none⟩ i c (cur.toList.take (i*5)) hol (fun j v hj=>by
      rw[Addr.add_lit,Nat.zero_add]
      rw[List.getElem?_take]at hj
      split at hj
      ·exact hgc w.drew rfl j v hj
      cases hj)
  have hrz:∀ty,(Builtin.append_ #[118,3] ty #[.slice (some ⟨g,0,none⟩) i c,.int .i64 ((n:Int)+1-(i:Int))]).run Tryz.prog w=
      .ok (.slice (some ⟨w.heap.size,0,none⟩) (n+1) (grownCap w (n+1) c 107)) (w.drew.alloc (.cells ((cur.toList.take (i*5)).toArray++Builtin.zeroCells z.cells (n+1-i)++Builtin.zeroCells z.cells (grownCap w (n+1) c 107-(n+1))) 107)):=fun ty=>by
    have h:=Lib.run_append_grow_zeros w 118 3 ty 107 i0 _ .i64 .i64 Tryz.underlying118 Tryz.underlying3 hi0 hz0 (some ⟨g,0,none⟩) i c (cur.toList.take (i*5)) hold (n+1-i) (by omega) (by omega) (by omega) (by omega) (by rw[hzb];omega) (by rw[hzb,hik];exact growslice_fits hroom (by omega))
    rw[hik]at h
    rw[hkk]
    exact h
  obtain⟨G,hG⟩:∃G,G=grownCap w (n+1) c 107:=⟨_,rfl⟩
  obtain⟨ROW,hROW⟩:∃ROW:Array Value,ROW=(cur.toList.take (i*5)).toArray++Builtin.zeroCells z.cells (n+1-i)++Builtin.zeroCells z.cells (G-(n+1)):=⟨_,rfl⟩
  rw[<-hG]at hrz
  rw[<-hROW]at hrz
  have hGn:n+1<=G:=by rw[hG];exact grownCap_ge w _ _ _
  have hG63:G<=maxLen:=by
    have:=grownCap_le_maxLen w (n+1) c 107 (by unfold maxLen;omega)
    rw[<-hG]at this
    exact this
  have hRl:ROW.size=G*5:=by
    rw[hROW,Array.size_append,Array.size_append,List.size_toArray,hol,size_zeroCells,size_zeroCells,hzc]
    omega
  have hRt:ROW.toList.take (i*5)=cur.toList.take (i*5):=by
    rw[hROW]
    simp only[Array.toList_append,List.append_assoc]
    exact List.take_left' hol
  obtain⟨W1,hW1⟩:∃W1,W1=w.drew.alloc (.cells ROW 107):=⟨_,rfl⟩
  rw[<-hW1]at hrz
  obtain⟨c1,hc1⟩:∃c1,c1=ROW.toList.take (i*5)++vs++ROW.toList.drop (i*5+5):=⟨_,rfl⟩
  have hc1l:c1.length=G*5:=by
    rw[hc1,List.length_append,List.length_append,List.length_take,List.length_drop,Array.length_toList,hRl,hvl]
    omega
  have hsl:((cur.toList.drop (i*5)).take ((n-i)*5)).length=(n-i)*5:=by
    rw[List.length_take,List.length_drop,hcl]
    omega
  have hcpA:∀(W:World),W.heap=W1.heap->∀ty dc,(Builtin.copy_ #[118,118] ty #[.slice (some ⟨w.heap.size,i*5,none⟩) (n+1-i) dc,.slice (some ⟨vb,voff,none⟩) 1 vc]).run Tryz.prog W= .ok (goInt (1:Nat)) (W.setRow w.heap.size c1.toArray):=fun W hW ty dc=>by
    have:=Gk (P:=Tryz.prog) W 118 118 ty 107 w.heap.size (i*5) (n+1-i) dc ⟨vb,voff,none⟩ 1 vc ROW 107 vs 5 1 Tryz.underlying118 hsz (by simp only[Nat.min_def];split<;>omega) (by rw[hW,hW1];exact heap_alloc_new w.drew _) (by omega) (fun j v hj=> ?_) (by rw[hvl,hRl];omega) h1v
    ·rw[hvl,<-hc1]at this;exact this
    rw[Addr.add_lit]
    have:=hvs j v hj
    rw[<-this]
    have:W.heap[vb]?=w.heap[vb]?:=by rw[hW,hW1];exact heap_alloc_old w.drew _ hvw
    simp[World.cell?,this]
  have hcpB:∀(W:World),W.heap=(W1.setRow w.heap.size c1.toArray).heap->∀ty dc sc,(Builtin.copy_ #[118,118] ty #[.slice (some ⟨w.heap.size,(i+1)*5,none⟩) (n-i) dc,.slice (some ⟨g,i*5,none⟩) (n-i) sc]).run Tryz.prog W= .ok (goInt (n-i:Nat)) (W.setRow w.heap.size (c1.take ((i+1)*5)++(cur.toList.drop (i*5)).take ((n-i)*5)++c1.drop ((i+1)*5+(n-i)*5)).toArray):=fun W hW ty dc sc=>by
    have hWg:W.heap[g]?=w.heap[g]?:=by
      rw[hW,setRow_other _ _ g _ (by omega),hW1]
      exact heap_alloc_old w.drew _ hgw
    have:=Gk (P:=Tryz.prog) W 118 118 ty 107 w.heap.size ((i+1)*5) (n-i) dc ⟨g,i*5,none⟩ (n-i) sc c1.toArray 107 ((cur.toList.drop (i*5)).take ((n-i)*5)) 5 (n-i) Tryz.underlying118 hsz (by simp only[Nat.min_def];split<;>omega) (by rw[hW];exact setRow_heap _ _ _ _ _ _ (by rw[hW1];exact heap_alloc_new w.drew _)) hsl (fun j v hj=> ?_) (by rw[hsl,List.size_toArray,hc1l];omega) (fun v hv=> ?_)
    ·rw[hsl]at this;exact this
    ·rw[List.getElem?_take]at hj
     split at hj
     ·rw[List.getElem?_drop]at hj
      rw[Addr.add_lit]
      exact hgc W hWg _ v hj
     cases hj
    refine h1c v (List.mem_iff_getElem?.2 ?_)
    obtain⟨j,hj⟩:=List.mem_iff_getElem?.1 hv
    rw[List.getElem?_take]at hj
    split at hj
    ·rw[List.getElem?_drop]at hj
     exact⟨i*5+j,by rw[List.getElem?_take,if_pos (by omega)];exact hj⟩
    cases hj
  generalize hD:(c1.take ((i+1)*5)++(cur.toList.drop (i*5)).take ((n-i)*5)++c1.drop ((i+1)*5+(n-i)*5))=c2 at*
  have hfin:∀W:World,W.os=w.os->W.tape=w.tape->W.output=w.output->W.heap=((W1.setRow w.heap.size c1.toArray).setRow w.heap.size c2.toArray).heap->∃G':Nat,∃ROW:Array Value,n+1<=G'/\G'<=maxLen/\ROW.size=G'*5/\ROW.toList.take (i*5)=cur.toList.take (i*5)/\Ending.returned (Value.slice (some ⟨w.heap.size,0,none⟩) (n+1) G)= .returned (.slice (some ⟨w.heap.size,0,none⟩) (n+1) G')/\W.os=w.os/\W.tape=w.tape/\W.output=w.output/\
        ∃c1,c1=ROW.toList.take (i*5)++vs++ROW.toList.drop (i*5+5)/\W.heap=(((w.drew.alloc (.cells ROW 107)).setRow w.heap.size c1.toArray).setRow w.heap.size (c1.take ((i+1)*5)++(cur.toList.drop (i*5)).take ((n-i)*5)++c1.drop ((i+1)*5+(n-i)*5)).toArray).heap:=fun W h1 h2 h3 h4=>⟨G,ROW,hGn,hG63,hRl,hRt,rfl,h1,h2,h3,c1,hc1,by rw[hD,<-hW1];exact h4⟩
  have hG2:G<=9223372036854775807:=by unfold maxLen at hG63;omega
  clear hD hc1 hRt hRl hROW hG hold hgc hol hsl hcl hG63
  subst hW1
  have hGi:¬(G=i):=by omega
  have hGim:¬(G=i+1):=by omega
  have hz3:(c:Int)<(n:Int)+1:=by omega
  have hw1:IntKind.i64.wrap ((i:Int)+1)=(i:Int)+1:=by rw[IntKind.wrap_i64];omega
  have hb1:(0:Int)<=(i:Int)+1:=by omega
  have hin:i<=n:=by omega
  have htn:((i:Int)+1).toNat=i+1:=by omega
  have hb3:(i:Int)<=(n:Int)+1:=by omega
  have hb3':(i:Int)<=(n:Int):=by omega
  have hb4:¬(c=i):=by omega
  have mixed:Tryz.prog.follows .mixedOrders=true:=by kernel_rfl
  clear hkk hik
  have hE1:((w.alloc (.cells ROW 107)).drew).heap=(w.drew.alloc (.cells ROW 107)).heap:=rfl
  have hE2:(((w.alloc (.cells ROW 107)).drew.setRow w.heap.size c1.toArray).drew).heap=((w.drew.alloc (.cells ROW 107)).setRow w.heap.size c1.toArray).heap:=rfl
  go_enter Tryz.func161,Tryz.ntmps161
  go_wp2_with (first
    |(at_builtin;refine Lib.wpList_append_run _ rfl _ _ _ _ rfl _ _ rfl rfl _ _ (hrz _) ?_)
    |(at_builtin;refine Fd _ rfl _ _ 118 118 rfl _ _ rfl rfl (hcpA _ hE1 _ _) ?_))
  go_region_law_o (refine Gf rfl _ _ 118 118 rfl (.slice (some ⟨w.heap.size,(i+1)*5,none⟩) (n-i) (G-(i+1))) (.slice (some ⟨g,i*5,none⟩) (n-i) (c-i)) (by simp[Act.eval,Act.put]) (by simp[Act.eval,Act.put]) (hcpB _ hE2 3 (G-(i+1)) (c-i)) ?_)
  go_wp2
  go_ret
  exact hfin _ rfl rfl rfl rfl
set_option maxHeartbeats 4000000 in
theorem WC(g n c vb voff vc:Nat)(xs vs:List Value)(w:World)(hown:w.ownsRow 0 107 5 (.slice (some ⟨g,0,none⟩) n c) n xs)(hbig:n<=1000000)(hc:c<=maxLen)
  (hvl:vs.length=5) (hvs:∀j v,vs[j]?=some v->w.cell? ⟨vb,voff+j,none⟩=some v) (h1v:∀v∈vs,v.oneCell'=true):
  Calls Tryz.prog 161 #[.slice (some ⟨g,0,none⟩) n c,.int .i64 n,.slice (some ⟨vb,voff,none⟩) 1 vc] w fun ex w'=>
   ∃v',ex= .returned v'/\w'.ownsRow 0 107 5 v' (n+1) (xs++vs)/\w.grownBy w' (some g)/\∀g',v'.ownBlock=some g'->g'=g\/w.heap.size<=g':=by
 obtain⟨i0,z,hi0,hz0,hzs,hzb,hzc⟩:∃i0 z,Tryz.prog.info? 107=some i0/\i0.zero=some z/\i0.size=5/\i0.bytes=40/\z.cells.size=5:=by
  refine⟨_,_,rfl,rfl,?_,?_,?_⟩<;>kernel_rfl
 unfold maxLen at hc
 obtain⟨v',w',hr,h2,h3,h4⟩:=I7 (P:=Tryz.prog) (w:=w) 0 (ty:=118) Tryz.underlying118 hi0 hz0 hzs hzc (by omega) hown (ya:=some ⟨vb,voff,none⟩) (m:=1) (yc:=vc) (news:=vs) (by omega) (fun _=>⟨vb,voff,rfl,hvs⟩) h1v (by unfold maxLen;omega) (by rw[hzb];omega) (Nat.zero_le _)
 have h3:w.grownBy w' (some g):=h3
 have h4:∀g',v'.ownBlock=some g'->g'=g\/w.heap.size<=g':=fun g' h=>(h4 g' h).imp_left fun e=>by cases e;rfl
 go_enter Tryz.func161,Tryz.ntmps161
 go_wp2_with (at_builtin;refine Lib.wpList_append_run _ rfl _ _ _ _ rfl _ _ rfl rfl _ _ hr ?_)
 all_goals(go_ret;exact⟨_,rfl,h2,h3,h4⟩)
def JX(cur vs:List Value)(i q:Nat):Option Value:=if q<i*5 then cur[q]? else if q<i*5+5 then vs[q-i*5]? else cur[q-5]?
theorem OH{cur vs c1:List Value}{i n:Nat}(hvl:vs.length=5)(hl:(n+1)*5<=cur.length)(hi:i<n)(h1:c1=(cur.take ((i+1)*5)++(cur.drop (i*5)).take ((n-i)*5)++cur.drop ((i+1)*5+(n-i)*5)))(q:Nat)(hq:q<(n+1)*5):
  (c1.take (i*5)++vs++c1.drop (i*5+5))[q]?=JX cur vs i q:=by
 have l1:(cur.take ((i+1)*5)).length=(i+1)*5:=by rw[List.length_take];omega
 have l2:((cur.drop (i*5)).take ((n-i)*5)).length=(n-i)*5:=by rw[List.length_take,List.length_drop];omega
 have hc:c1.length=cur.length:=by rw[h1,List.length_append,List.length_append,l1,l2,List.length_drop];omega
 have l3:(c1.take (i*5)).length=i*5:=by rw[List.length_take];omega
 unfold JX
 rw[List.append_assoc,List.getElem?_append,l3]
 by_cases e1:q<i*5
 ·rw[if_pos e1,if_pos e1,List.getElem?_take,if_pos e1,h1,List.append_assoc,List.getElem?_append,l1,if_pos (by omega),List.getElem?_take,if_pos (by omega)]
 rw[if_neg e1,if_neg e1,List.getElem?_append,hvl]
 by_cases e2:q<i*5+5
 ·rw[if_pos (by omega),if_pos e2]
 rw[if_neg (by omega),if_neg e2,List.getElem?_drop,h1,List.append_assoc,List.getElem?_append,l1,if_neg (by omega),List.getElem?_append,l2,if_pos (by omega),List.getElem?_take,if_pos (by omega),List.getElem?_drop]
 congr 1;omega
theorem QI{cur row vs c1:List Value}{i n:Nat}(hvl:vs.length=5)(hl:n*5<=cur.length)(hr:(n+1)*5<=row.length)(ht:row.take (i*5)=cur.take (i*5))(hi:i<n)(h1:c1=row.take (i*5)++vs++row.drop (i*5+5))(q:Nat)(hq:q<(n+1)*5):
  (c1.take ((i+1)*5)++(cur.drop (i*5)).take ((n-i)*5)++c1.drop ((i+1)*5+(n-i)*5))[q]?=JX cur vs i q:=by
 have l3:(row.take (i*5)).length=i*5:=by rw[List.length_take];omega
 have hc:c1.length=row.length:=by rw[h1,List.length_append,List.length_append,l3,hvl,List.length_drop];omega
 have l1:(c1.take ((i+1)*5)).length=(i+1)*5:=by rw[List.length_take];omega
 have l2:((cur.drop (i*5)).take ((n-i)*5)).length=(n-i)*5:=by rw[List.length_take,List.length_drop];omega
 unfold JX
 rw[List.append_assoc,List.getElem?_append,l1]
 by_cases e1:q<i*5
 ·rw[if_pos (by omega),if_pos e1,List.getElem?_take,if_pos (by omega),h1,List.append_assoc,List.getElem?_append,l3,if_pos e1,ht,List.getElem?_take,if_pos e1]
 by_cases e2:q<i*5+5
 ·rw[if_pos (by omega),if_neg e1,if_pos e2,List.getElem?_take,if_pos (by omega),h1,List.append_assoc,List.getElem?_append,l3,if_neg e1,List.getElem?_append,hvl,if_pos (by omega)]
 rw[if_neg (by omega),if_neg e1,if_neg e2,List.getElem?_append,l2,if_pos (by omega),List.getElem?_take,if_pos (by omega),List.getElem?_drop]
 congr 1;omega
end Go.Proofs.YtlieoghhkioflaaGreat
namespace Go.Proofs.YtlieoghhkioflaaGreat
open Go Go.RowKit
variable{G:Nat->Option (Nat×(Nat->Ad))}
noncomputable def NV:As:=D5 TI TI TI (fun _ _ _=>True) fun n a b=> .bool (Ft n a b)
theorem pIn:Ah Tryz.prog G 83 NV:=by
 refine fn3 (S:=[]) (I:=[]) mixed .nil .nil Tryz.func83 c83 fun n a b _ hw=> ?_
 simp only[A3,a83,↓reduceIte,reduceCtorEq,Nat.reduceEqDiff,Nat.reduceAdd,go_sem]
 refine⟨fun h=> ?_,fun h=>(Am fun k=>h k.1).symm⟩
 by_cases h3:n<=b
 ·rw[decide_eq_true h3];exact(At ⟨h,h3⟩).symm
 rw[decide_eq_false h3];exact(Am fun k=>h3 k.2).symm
theorem NN{p:Prop}(h:A8 p=true):p:=by
 by_cases h1:p
 ·exact h1
 rw[Am h1]at h;cases h
theorem Nn{p:Prop}(h:A8 p=false):¬p:=fun k=>by rw[At k]at h;cases h
theorem Ng{n a b:Int}(h:Ft n a b=true):a<=n/\n<=b:=by
 by_cases h1:a<=n/\n<=b
 ·exact h1
 unfold Ft at h;rw[Am h1]at h;cases h
theorem Mq{n a b:Int}(h:Ft n a b=false):¬(a<=n/\n<=b):=fun k=>by
 unfold Ft at h;rw[At k]at h;cases h
noncomputable def Kc:As:=Dr TI (fun _=>True) fun n=> .bool (Ft n 1 9999)
theorem Aas:Ah Tryz.prog G 105 Kc:=by
 refine We (S:=[(83,NV)]) (I:=[]) mixed (.cons pIn .nil) .nil Tryz.func105 AaS fun n _ hw=> ?_
 simp only[A3,Wt,NV,↓reduceIte,reduceCtorEq,go_sem]
noncomputable def Mm:As:=Dr KC (fun r=>1<=r.days/\r.days<=16) fun r=> .int .i64 (1440*r.days)
theorem Abm:Ah Tryz.prog G 84 Mm:=by
 refine We (S:=[]) (I:=[]) mixed .nil .nil Tryz.func84 c84 fun r hp hw=> ?_
 obtain⟨h1,h2⟩:=hp
 simp only[A3,a84,↓reduceIte,Nat.reduceEqDiff,Nat.reduceAdd,Nat.reduceLeDiff,go_sem]
 rw[AU (by omega) (by omega),Int.mul_comm]
noncomputable def Hq:As:=D5 VN TI TI (fun _ _ _=>True) fun t a b=> .bool (A8 (a<=t.fro/\t.fro<t.til/\t.til<=b))
theorem Xy:Ah Tryz.prog G 82 Hq:=by
 refine fn3 (S:=[]) (I:=[]) mixed .nil .nil Tryz.func82 c82 fun t a b _ hw=> ?_
 simp only[A3,a82,↓reduceIte,reduceCtorEq,Nat.reduceEqDiff,Nat.reduceAdd,Nat.reduceLeDiff,go_sem]
 refine⟨fun h1=>⟨fun h2=> ?_,fun h2=>(Am fun k=>h2 k.2.1).symm⟩,fun h1=>(Am fun k=>h1 k.1).symm⟩
 by_cases h3:t.til<=b
 ·rw[decide_eq_true h3];exact(At ⟨h1,h2,h3⟩).symm
 rw[decide_eq_false h3];exact(Am fun k=>h3 k.2.2).symm
noncomputable def Z5:As:=Dr KC (fun _=>True) fun r=> .int .i64 (if A8 (EL r)=true then 0 else 40)
theorem Yt:Ah Tryz.prog G 46 Z5:=by
 refine We (S:=[(83,NV),(84,Mm),(82,Hq)]) (I:=[]) mixed (.cons pIn (.cons Abm (.cons Xy .nil))) .nil Tryz.func46 c46 fun r _ hw=> ?_
 simp only[Nat.reduceSub,Nat.reducePow,go_sem]at hw
 simp only[A3,a46,NV,hw,↓reduceIte,Nat.reduceEqDiff,Nat.reduceAdd,Nat.reduceSub,Nat.reduceLeDiff,Nat.reducePow,go_sem]
 have nop:¬EL r->((40:Int)=if A8 (EL r)=true then 0 else 40):=fun h=>by rw[Am h];rfl
 refine⟨fun h1=>by rw[Am fun k=>Mq h1 ⟨k.1,k.2.1⟩];rfl,fun h1=>⟨fun h2=>by rw[Am fun k=>Mq h2 ⟨by have:=k.2.2.1;omega,by have:=k.2.2.2.1;omega⟩];rfl,fun h2=> ?_⟩⟩
 have h1:=Ng h1
 have h2:=Ng h2
 refine AS (ι:=Nat) (fun j=>j<=r.holds.1/\∀i,i<j->Hd1 r i) (fun j=>r.holds.1-j) [1,18,19] (fun j=>[(20,.int .i64 j),(3,.int .i64 (Jv r j))]) (fun _=>[]) 0 ⟨by omega,fun i h=>by omega⟩ (by simp only[↓reduceIte,Nat.reduceEqDiff,Nat.reduceLT,go_sem];try rfl) fun j hj=> ?_
 obtain⟨hj1,hj2⟩:=hj
 simp only[Mm,Hq,hw,↓reduceIte,reduceCtorEq,Nat.reduceEqDiff,Nat.reduceAdd,Nat.reduceSub,Nat.reduceLeDiff,Nat.reducePow,go_sem]
 have no:j<r.holds.1->¬Hd1 r j->((40:Int)=if A8 (EL r)=true then 0 else 40):=fun hlt h=>nop fun k=>h (k.2.2.2.2.1 j hlt)
 refine⟨fun hlt=>⟨by omega,by omega,fun q1=>no (by omega) fun k=>Mq q1 ⟨k.1,k.2.1⟩,fun q1=>⟨fun q2=>no (by omega) fun k=>q2 k.2.2.1,fun q2=>⟨h1.1,h1.2,fun q3=>no (by omega) fun k=>Nn q3 ⟨by have:=k.2.2.1;omega,k.2.2.2.1,k.2.2.2.2⟩,fun q3=> ?_⟩⟩⟩,fun hge=>⟨h1.1,h1.2,fun q=> ?_,fun q=> ?_⟩⟩
 ·have q1:=Ng q1
  have q3:=NN q3
  refine Af (j+1) ⟨by omega,fun i hi=> ?_⟩ (by omega) (by simp only[↓reduceIte,reduceCtorEq,Nat.reduceEqDiff,Nat.reduceLT,go_sem];rw[Cs (by omega)];exact⟨rfl,rfl⟩)
  rcases Nat.lt_or_ge i j with h5|h5
  ·exact hj2 i h5
  obtain rfl:i=j:=by omega
  exact⟨q1.1,q1.2,q2,q3.2.1,q3.2.2⟩
 ·obtain rfl:j=r.holds.1:=by omega
  exact nop fun k=>q k.2.2.2.2.2
 obtain rfl:j=r.holds.1:=by omega
 rw[At (show EL r from⟨h1.1,h1.2,by omega,by omega,hj2,q⟩)];rfl
def M6(l:Nat×(Nat->Hr))(j:Nat):Int:=if j=0 then 0 else(l.2 (j-1)).who
noncomputable def N5:As:=Cq TI (Dv IY) (fun _ _=>True) fun f l=> .bool (A8 (FV f l))
theorem AbR:Ah Tryz.prog G 115 N5:=by
 refine Kq (S:=[(83,NV)]) (I:=[]) mixed (.cons pIn .nil) .nil Tryz.func115 Acp fun f l _ hw=> ?_
 simp only[Nat.reduceSub,Nat.reducePow,go_sem]at hw
 simp only[A3,AbE,NV,hw,↓reduceIte,reduceCtorEq,Nat.reduceEqDiff,Nat.reduceSub,Nat.reducePow,go_sem]
 refine AS (ι:=Nat) (fun j=>j<=l.1/\∀i,i<j->X9 f l i) (fun j=>l.1-j) [0,1,8,9] (fun j=>[(10,.int .i64 j),(5,.int .i64 (M6 l j))]) (fun _=>[]) 0 ⟨by omega,fun i h=>by omega⟩ (by simp only[↓reduceIte,reduceCtorEq,Nat.reduceEqDiff,go_sem];try rfl) fun j hj=> ?_
 obtain⟨hj1,hj2⟩:=hj
 have hl:0<=M6 l j/\M6 l j<=9999:=by
  unfold M6
  split
  ·omega
  have:=hj2 (j-1) (by omega)
  exact⟨by have:=this.1;omega,this.2.1⟩
 have w1:IntKind.i64.wrap (M6 l j+1)=M6 l j+1:=AU (by omega) (by omega)
 simp only[hw,w1,↓reduceIte,reduceCtorEq,Nat.reduceEqDiff,Nat.reduceAdd,Nat.reduceSub,Nat.reduceLeDiff,Nat.reducePow,go_sem]
 have no:j<l.1->¬X9 f l j->false=A8 (FV f l):=fun hlt h=>(Am fun k=>h (k.2.2 j hlt)).symm
 refine⟨fun hlt=>⟨by omega,by omega,fun q1=>no (by omega) fun k=>Mq q1 ⟨?_,k.2.1⟩,fun q1=>⟨fun q2=>no (by omega) fun k=>k.2.2.1 q2,fun q2=>⟨fun q3=>no (by omega) fun k=>Mq q3 ⟨k.2.2.2.1,k.2.2.2.2.1⟩,fun q3=> ?_⟩⟩⟩,fun hge=> ?_⟩
 ·unfold M6
  split
  ·have:=k.1;omega
  have:=k.2.2.2.2.2 (by omega);omega
 ·have q1:=Ng q1
  have q3:=Ng q3
  refine Af (j+1) ⟨by omega,fun i hi=> ?_⟩ (by omega) (by simp only[↓reduceIte,reduceCtorEq,Nat.reduceEqDiff,go_sem];rw[Cs (by omega)];exact⟨rfl,rfl⟩)
  rcases Nat.lt_or_ge i j with h5|h5
  ·exact hj2 i h5
  obtain rfl:i=j:=by omega
  refine⟨by omega,q1.2,q2,q3.1,q3.2,fun h0=> ?_⟩
  have:=q1.1
  unfold M6 at this
  rw[if_neg (by omega)]at this
  omega
 obtain rfl:j=l.1:=by omega
 exact EA ⟨fun k=>⟨by omega,by omega,hj2⟩,fun k=>⟨by have:=k.1;omega,by have:=k.2.1;omega⟩⟩
noncomputable def Uy:As:=Cq (Dv IY) (Dv IY) (fun _ _=>True) fun a b=> .bool (A8 (a.1=b.1/\∀i,i<a.1->a.2 i=b.2 i))
theorem Abd:Ah Tryz.prog G 116 Uy:=by
 refine Kq (S:=[]) (I:=[]) mixed .nil .nil Tryz.func116 AbV fun a b _ hw=> ?_
 simp only[Nat.reduceSub,Nat.reducePow,go_sem]at hw
 simp only[A3,AaG,hw,↓reduceIte,reduceCtorEq,Nat.reduceEqDiff,Nat.reduceSub,Nat.reducePow,go_sem]
 refine⟨fun h=>(Am fun k=>h (by rw[k.1])).symm,fun h0=> ?_⟩
 have h0:a.1=b.1:=by omega
 refine AS (ι:=Nat) (fun j=>j<=a.1/\∀i,i<j->a.2 i=b.2 i) (fun j=>a.1-j) [0,1,11,12] (fun j=>[(13,.int .i64 j)]) (fun _=>[]) 0 ⟨by omega,fun i h=>by omega⟩ (by simp only[↓reduceIte,reduceCtorEq,Nat.reduceEqDiff,go_sem];try rfl) fun j hj=> ?_
 obtain⟨hj1,hj2⟩:=hj
 simp only[↓reduceIte,reduceCtorEq,Nat.reduceEqDiff,Nat.reduceAdd,go_sem]
 have he:∀{x y:Hr},(x.who==y.who&&x.parts==y.parts)=true↔x=y:=fun{x y}=>by obtain⟨a1,a2⟩:=x;obtain⟨b1,b2⟩:=y;simp
 refine⟨fun hlt=>⟨by omega,by omega,by omega,by omega,fun h1=>(Am fun k=> ?_).symm,fun h1=>Af (j+1) ⟨by omega,fun i hi=> ?_⟩ (by omega) (by simp only[↓reduceIte,reduceCtorEq,Nat.reduceEqDiff,go_sem];rw[Cs (by omega)])⟩,fun hge=>(At ⟨h0,fun i hi=>hj2 i (by omega)⟩).symm⟩
 ·rw[he.2 (k.2 j (by omega))]at h1;cases h1
 rcases Nat.lt_or_ge i j with h5|h5
 ·exact hj2 i h5
 obtain rfl:i=j:=by omega
 exact he.1 h1
noncomputable def Pu:As:=Cq Sf Sf (fun _ _=>True) fun a b=> .bool (A8 (Bz a b))
theorem YQ:Ah Tryz.prog G 97 Pu:=by
 refine Kq (S:=[(116,Uy)]) (I:=[]) mixed (.cons Abd .nil) .nil Tryz.func97 c97 fun a b _ hw=> ?_
 simp only[Nat.reduceSub,Nat.reducePow,go_sem]at hw
 simp only[A3,a97,Uy,hw,↓reduceIte,reduceCtorEq,Nat.reduceEqDiff,Nat.reduceAdd,Nat.reduceSub,Nat.reduceLeDiff,Nat.reducePow,go_sem]
 have nt:∀{x y:Tu},(x.fro==y.fro&&x.til==y.til)=true↔x=y:=fun{x y}=>by obtain⟨a1,a2⟩:=x;obtain⟨b1,b2⟩:=y;simp
 refine⟨fun k1=>⟨fun k2=>⟨fun k3=>⟨fun k4=>⟨fun k5=>⟨fun k6=>⟨fun k7=>EA ⟨fun k=>⟨k1,k2,k3,k4,k5,nt.1 k6,k7,k.1,k.2⟩,fun k=>⟨k.2.2.2.2.2.2.2.1,k.2.2.2.2.2.2.2.2⟩⟩,fun h=>(Am fun k=>h k.2.2.2.2.2.2.1).symm⟩,fun h=>(Am fun k=>by rw[nt.2 k.2.2.2.2.2.1]at h;cases h).symm⟩,fun h=>(Am fun k=>h k.2.2.2.2.1).symm⟩,fun h=>(Am fun k=>h k.2.2.2.1).symm⟩,fun h=>(Am fun k=>h k.2.2.1).symm⟩,fun h=>(Am fun k=>h k.2.1).symm⟩,fun h=>(Am fun k=>h k.1).symm⟩
end Go.Proofs.YtlieoghhkioflaaGreat
