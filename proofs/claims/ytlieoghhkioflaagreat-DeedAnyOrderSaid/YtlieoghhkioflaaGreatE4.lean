/- The engine: FDrawn3, FDrawn4, FDrawn5, FDrawn6, FFlt, FDly, FMain3, FOpq, FFun, FTy, UTy. No condition. -/
import Derived.Test.YtlieoghhkioflaaGreatE3
import Derived.Test.YtlieoghhkioflaaGreatE1
set_option linter.unusedSimpArgs false
set_option linter.unusedVariables false
namespace Go.Proofs.YtlieoghhkioflaaGreat
open Go Go.RowKit
variable{P:Program}{E:Db}{A0:Nat->Prop}{w0:AW}{Qf:Ad->Bx->Prop}
theorem Fm(b:Bn)(r:Ad)(fr:Fr)(t:Nat):Au (AK b r fr) t=Bc b r (Au fr t):=by
 rw[Fy]
 split
 ·rfl
 rename_i h
 have:Au fr t= .und:=by
  induction fr with
  |nil=>rfl
  |cons p l ih=>
   obtain⟨s,v⟩:=p
   simp only[List.any_cons,Bool.or_eq_true,not_or,beq_iff_eq]at h
   simp only[Au,if_neg h.1]
   exact ih (by simpa using h.2)
 rw[this];rfl
theorem KI(b:Bn)(r:Ad):∀v:Ad,A4 v=true->Bc b r v=v:=by
 intro v;induction v with
 |cons h t ih1 ih2=>intro hp;simp only[A4,Bool.and_eq_true]at hp;simp only[Bc,ih1 hp.1,ih2 hp.2]
 |agg l ih=>intro hp;simp only[Bc];rw[ih (by simpa[A4]using hp)]
 |tup l ih=>intro hp;simp only[Bc];rw[ih (by simpa[A4]using hp)]
 |func f l ih=>intro hp;simp only[Bc];rw[ih (by simpa[A4]using hp)]
 |own b'=>intro hp;simp[A4]at hp
 |ptr b' o=>intro hp;simp[A4]at hp
 |rptr b' i o=>intro hp;simp[A4]at hp
 |mapb b'=>intro hp;simp[A4]at hp
 |yld b'=>intro hp;simp[A4]at hp
 |osl b' o n=>intro hp;simp[A4]at hp
 |_=>intro _;rfl
def Oc(E:Db)(ao:A2)(fr:Fr)(bx:Bx)(nm nm':Nat):Prop:=
 (A9 fr ao.guard=some true/\(∀t,ao.dst=some t->Au fr t= .tup .nil)/\nm'=nm)\/
 (A9 fr ao.guard=some false/\(AF E fr bx nm ao.op).pre/\(∀t,ao.dst=some t->Au fr t=(AF E fr bx nm ao.op).v)/\(∀c,(AF E fr bx nm ao.op).new=some c->Ab bx nm=some c/\nm'=nm+1)/\((AF E fr bx nm ao.op).new=none->nm'=nm))
section
variable{ao ao2:A2}{fr fr1:Fr}{bx bx1:Bx}{nx nx1 nm nm':Nat}{stk stk1:List Av}
theorem Gr(h:CY E ao fr bx nx stk fr1 bx1 nx1 stk1)(hs:D6 ao.op=true):stk1=stk/\∃v,fr1=Ai fr ao.dst v/\
  ((A9 fr ao.guard=some true/\v= .tup .nil/\bx1=bx/\nx1=nx)\/(A9 fr ao.guard=some false/\(AF E fr bx nx ao.op).pre/\v=(AF E fr bx nx ao.op).v/\bx1=CX nx (AF E fr bx nx ao.op).new bx/\nx1=Da nx (AF E fr bx nx ao.op).new)):=by
 cases h with
 |skip h=>exact⟨rfl,_,rfl,.inl ⟨h,rfl,rfl,rfl⟩⟩
 |soft h1 h2 h3=>exact⟨rfl,_,rfl,.inr ⟨h1,h3,rfl,rfl,rfl⟩⟩
 |store _ h=>rw[h]at hs;cases hs
 |storeR _ h=>rw[h]at hs;cases hs
 |appN _ h=>rw[h]at hs;cases hs
 |appT _ h=>rw[h]at hs;cases hs
 |appO _ h=>rw[h]at hs;cases hs
 |appM _ h=>rw[h]at hs;cases hs
 |msetZ _ h=>rw[h]at hs;cases hs
 |calN _ h=>rw[h]at hs;cases hs
 |calX _ h=>rw[h]at hs;cases hs
 |mset _ h=>rw[h]at hs;cases hs
theorem Il(h:CY E ao fr bx nx stk fr1 bx1 nx1 stk1)(hs:D6 ao.op=true)(hnx:Ab bx nx=none):(∀b c,Ab bx b=some c->Ab bx1 b=some c)/\nx<=nx1/\(∀b:Bn,b≠ .n nx->Ab bx1 b=Ab bx b)/\(nx1=nx->Ab bx1 nx=none)/\(nx1=nx\/nx1=nx+1):=by
 obtain⟨_,v,_,h⟩:=Gr h hs
 rcases h with⟨_,_,rfl,rfl⟩|⟨_,_,_,rfl,rfl⟩
 ·exact⟨fun _ _ h=>h,Nat.le_refl _,fun _ _=>rfl,fun _=>hnx,.inl rfl⟩
 refine⟨fun b c hb=>by rw[B3];exact C6 hnx hb,by cases(AF E fr bx nx ao.op).new<;>simp[Da],fun b hb=> ?_,fun h=> ?_,?_⟩
 ·rw[B3];cases(AF E fr bx nx ao.op).new<;>simp[Dc,hb]
 ·rw[B3]
  cases hn:(AF E fr bx nx ao.op).new with
  |none=>exact hnx
  |some c=>rw[hn]at h;simp[Da]at h
 cases(AF E fr bx nx ao.op).new<;>simp[Da]
theorem R7(h:CY E ao fr bx nx stk fr1 bx1 nx1 stk1)(hs:D6 ao.op=true)(hnx:Ab bx nx=none)(hown:∀t,ao.dst=some t->t∉NU ao.op++NY ao.guard):Oc E ao fr1 bx1 nx nx1:=by
 have hmono:=(Il h hs hnx).1
 obtain⟨_,v,rfl,h'⟩:=Gr h hs
 have hrd:∀t∈NU ao.op++NY ao.guard,Au (Ai fr ao.dst v) t=Au fr t:=by
  intro t ht
  rw[AV,if_neg fun e=>hown t e ht]
 have hsk:=GW (fr:=Ai fr ao.dst v) (fr':=fr) (g:=ao.guard) fun t ht=>hrd t (List.mem_append.2 (.inr ht))
 rcases h' with⟨h1,rfl,rfl,rfl⟩|⟨h1,h2,rfl,rfl,rfl⟩
 ·exact .inl ⟨by rw[hsk];exact h1,fun t ht=>by rw[AV,if_pos ht],rfl⟩
 have e1:AF E (Ai fr ao.dst (AF E fr bx nx ao.op).v) (CX nx (AF E fr bx nx ao.op).new bx) nx ao.op=AF E fr bx nx ao.op:=by
  rw[Gs (fr':=fr) ao.op fun t ht=>hrd t (List.mem_append.2 (.inl ht))]
  exact MU hmono ao.op h2
 refine .inr ⟨by rw[hsk];exact h1,by rw[e1];exact h2,fun t ht=>by rw[e1,AV,if_pos ht],fun c hc=> ?_,fun hn=> ?_⟩
 ·rw[e1]at hc;rw[hc];exact⟨by simp[CX,Ab],rfl⟩
 rw[e1]at hn;rw[hn];rfl
theorem Rd(hg:Oc E ao fr bx nm nm')(h:CY E ao2 fr bx nx stk fr1 bx1 nx1 stk1)(hs:D6 ao2.op=true)(hnx:Ab bx nx=none)(hrd:∀t,ao2.dst=some t->t∉NU ao.op++NY ao.guard/\ao.dst≠some t):Oc E ao fr1 bx1 nm nm':=by
 have hmono:=(Il h hs hnx).1
 obtain⟨_,v,rfl,_⟩:=Gr h hs
 have hr:∀t∈NU ao.op++NY ao.guard,Au (Ai fr ao2.dst v) t=Au fr t:=by
  intro t ht
  rw[AV,if_neg fun e=>(hrd t e).1 ht]
 have hd:∀t,ao.dst=some t->Au (Ai fr ao2.dst v) t=Au fr t:=by
  intro t ht
  rw[AV,if_neg fun e=>(hrd t e).2 ht]
 have hsk:=GW (fr:=Ai fr ao2.dst v) (fr':=fr) (g:=ao.guard) fun t ht=>hr t (List.mem_append.2 (.inr ht))
 rcases hg with⟨h1,h2,h3⟩|⟨h1,h2,h3,h4,h5⟩
 ·exact .inl ⟨by rw[hsk];exact h1,fun t ht=>by rw[hd t ht];exact h2 t ht,h3⟩
 have e1:AF E (Ai fr ao2.dst v) bx1 nm ao.op=AF E fr bx nm ao.op:=by
  rw[Gs (fr':=fr) ao.op fun t ht=>hr t (List.mem_append.2 (.inl ht))]
  exact MU hmono ao.op h2
 exact .inr ⟨by rw[hsk];exact h1,by rw[e1];exact h2,fun t ht=>by rw[e1,hd t ht];exact h3 t ht,fun c hc=>by rw[e1]at hc;exact⟨hmono _ _ (h4 c hc).1,(h4 c hc).2⟩,fun hn=>by rw[e1]at hn;exact h5 hn⟩
theorem Nc{g:Option (Nat×Bool)}{s:Bool}(h:∀t∈NY g,Au fr1 t=Au fr t\/∃b,Au fr1 t=Bc b .und (Au fr t))(hs:A9 fr g=some s):A9 fr1 g=some s:=by
 cases g with
 |none=>exact hs
 |some p=>
  obtain⟨t,b⟩:=p
  rcases h t (by simp[NY])with e|⟨b',e⟩
  ·simp only[A9]at hs⊢;rw[e];exact hs
  simp only[A9]at hs⊢
  rw[e]
  split at hs
  ·rename_i c hc;rw[hc];exact hs
  ·rename_i hc;rw[hc];exact hs
  cases hs
theorem Ne{k len:Nat}:∀{l:List (Nat×Bf)},FF E fr k len l->∀t∈l.flatMap (fun p=>D1 p.2),A4 (Au fr t)=true:=by
 intro l;induction l with
 |nil=>intro _ t ht;simp at ht
 |cons x l ih=>
  obtain⟨off,x⟩:=x
  intro h t ht
  simp only[FF]at h
  simp only[List.flatMap_cons,List.mem_append]at ht
  rcases ht with ht|ht
  ·cases x with
   |t m=>simp[D1]at ht;subst ht;exact h.2.1
   |c v=>simp[D1]at ht
   |g m=>simp[D1]at ht
  exact ih h.2.2.2.2 t ht
theorem Us(hg:Oc E ao fr bx nm nm')(hs:D6 ao.op=true)(hF:∀t,ao2.dst≠some t->Au fr1 t=Au fr t\/∃b:Bn,(NT ao.op=true->nm'≠nm->b≠ .n nm)/\Au fr1 t=Bc b .und (Au fr t))(hB:NT ao.op=true->nm'≠nm->Ab bx1 nm=Ab bx nm\/∃b,Ab bx1 nm=(Ab bx nm).map (BU b .und))
  (hrd:∀t,ao2.dst=some t->t∉NU ao.op++NY ao.guard/\ao.dst≠some t) (hmk:NT ao.op=true->IF ao.op=true)
  (hre:NT ao.op=false->match A9 fr1 ao.guard with
   |some true=>True
   |some false=>(AF E fr1 bx1 0 ao.op).pre/\WH fr1 ao.dst (AF E fr1 bx1 0 ao.op).v
   |none=>False):Oc E ao fr1 bx1 nm nm':=by
 have hg2:∀t∈NY ao.guard,Au fr1 t=Au fr t\/∃b,Au fr1 t=Bc b .und (Au fr t):=by
  intro t ht
  rcases hF t (fun e=>(hrd t e).1 (List.mem_append.2 (.inr ht)))with e|⟨b,_,e⟩
  ·exact .inl e
  exact .inr ⟨b,e⟩
 have hd2:∀t,ao.dst=some t->Au fr1 t=Au fr t\/∃b:Bn,(NT ao.op=true->nm'≠nm->b≠ .n nm)/\Au fr1 t=Bc b .und (Au fr t):=fun t ht=>hF t (fun e=>(hrd t e).2 ht)
 rcases hg with⟨h1,h2,h3⟩|⟨h1,h2,h3,h4,h5⟩
 ·refine .inl ⟨Nc hg2 h1,fun t ht=> ?_,h3⟩
  rcases hd2 t ht with e|⟨b,_,e⟩
  ·rw[e];exact h2 t ht
  rw[e,h2 t ht];rfl
 have hsk:=Nc hg2 h1
 cases hb:NT ao.op with
 |false=>
  have hre:=hre hb
  rw[hsk]at hre
  simp only at hre
  have hn0:(AF E fr1 bx1 0 ao.op).new=none:=by
   cases hn:(AF E fr1 bx1 0 ao.op).new with
   |none=>rfl
   |some c=>have:=(Ph ao.op hre.1).1 ⟨c,hn⟩;rw[hb]at this;cases this
  have hn1:(AF E fr bx nm ao.op).new=none:=by
   cases hn:(AF E fr bx nm ao.op).new with
   |none=>rfl
   |some c=>have:=(Ph ao.op h2).1 ⟨c,hn⟩;rw[hb]at this;cases this
  have e1:AF E fr1 bx1 nm ao.op=AF E fr1 bx1 0 ao.op:=U4 ao.op hn0
  refine .inr ⟨hsk,by rw[e1];exact hre.1,fun t ht=> ?_,fun c hc=>(by rw[e1,hn0]at hc;cases hc),fun _=>h5 hn1⟩
  have:=hre.2
  rw[ht]at this
  rw[e1];exact this.symm
 |true=>
  obtain⟨c,hc⟩:=(Ph ao.op h2).2 hb
  obtain⟨h6,h7⟩:=h4 c hc
  have hne:nm'≠nm:=by omega
  have hmk:=hmk hb
  -- what it reads stays
  have hr:∀t∈NU ao.op,Au fr1 t=Au fr t:=by
   intro t ht
   have key:A4 (Au fr t)=true->Au fr1 t=Au fr t:=by
    intro hp
    rcases hF t (fun e=>(hrd t e).1 (List.mem_append.2 (.inl ht)))with e|⟨b,_,e⟩
    ·exact e
    rw[e,KI _ _ _ hp]
   cases hop:ao.op<;>rw[hop]at hb ht h2 hmk<;>simp only[NT]at hb<;>simp only[NU,List.mem_append,List.not_mem_nil]at ht<;>first
    |(cases hb;done)
    |exact ht.elim
    |skip
   case box n x=>simp[IF]at hmk
   case bsl e k len z parts=>
    cases hN:E.N e with
    |false=>simp only[AF,hN]at h2;exact key (Ne h2.2.2.2.2.2 t ht)
    |true=>simp only[AF,hN]at h2;simp[IF,h2.2.2.2.2.2.2]at hmk
   case mks e k bytes z n c=>
    refine key ?_
    simp only[AF]at h2
    split at h2
    ·rename_i k1 a1 k2 b1 e1 e2
     rcases ht with ht|ht
     ·cases n with
      |t m=>simp[D1]at ht;subst ht;simp only[ev]at e1;rw[e1];rfl
      |c v=>simp[D1]at ht
      |g m=>simp[D1]at ht
     cases c with
     |t m=>simp[D1]at ht;subst ht;simp only[ev]at e2;rw[e2];rfl
     |c v=>simp[D1]at ht
     |g m=>simp[D1]at ht
    exact h2.elim
  have e1:AF E fr1 bx1 nm ao.op=AF E fr bx nm ao.op:=by
   rw[Gs (fr':=fr) ao.op hr]
   cases hop:ao.op<;>rw[hop]at hb<;>simp only[NT]at hb<;>first
    |(cases hb;done)
    |rfl
  have hv:∀b:Bn,b≠ .n nm->Bc b .und (AF E fr bx nm ao.op).v=(AF E fr bx nm ao.op).v:=by
   intro b hbn
   have hbn':¬Bn.n nm=b:=fun e=>hbn e.symm
   cases hop:ao.op<;>rw[hop]at hb hc h2<;>simp only[NT]at hb<;>first
    |(cases hb;done)
    |(simp only[AF,Bc];rw[if_neg hbn'];done)
    |skip
   case bsl e k len z parts=>cases hN:E.N e<;>(simp only[AF,hN,Bc];rw[if_neg hbn'])
   case mks e k bytes z n c=>
    simp only[AF]at h2⊢
    split at h2
    ·simp only[Bc];rw[if_neg hbn']
    exact h2.elim
  have hcb:∀b,BU b .und c=c:=by
   intro b
   cases hop:ao.op<;>rw[hop]at hb hc h2 hmk<;>simp only[NT]at hb<;>first
    |(cases hb;done)
    |skip
   case alloc z=>simp only[AF,Option.some.injEq]at hc;subst hc;simp only[BU];rw[KI _ _ _ (by simpa[IF]using hmk)]
   case box n x=>simp[IF]at hmk
   case bsl e k len z parts=>
    cases hN:E.N e with
    |false=>simp only[AF,hN,Option.some.injEq]at hc;subst hc;rfl
    |true=>simp only[AF,hN]at h2;simp[IF,h2.2.2.2.2.2.2]at hmk
   case mks e k bytes z n c'=>
    simp only[AF]at h2 hc
    split at h2
    ·rename_i q1 q2 q3 q4 q5 q6
     simp only[q5,q6,Option.some.injEq]at hc;subst hc;rfl
    exact h2.elim
   case mkm kd=>simp only[AF,Option.some.injEq]at hc;subst hc;rfl
  refine .inr ⟨hsk,by rw[e1];exact h2,fun t ht=> ?_,fun c' hc'=> ?_,fun hn=>(by rw[e1,hc]at hn;cases hn)⟩
  ·rw[e1]
   rcases hd2 t ht with e|⟨b,hbn,e⟩
   ·rw[e];exact h3 t ht
   rw[e,h3 t ht];exact hv b (hbn hb hne)
  rw[e1,hc]at hc'
  cases hc'
  refine⟨?_,h7⟩
  rcases hB hb hne with e|⟨b,e⟩
  ·rw[e];exact h6
  rw[e,h6];simp only[Option.map_some,hcb]
end
end Go.Proofs.YtlieoghhkioflaaGreat
/- The engine,part 20d: a region whose order is drawn. No condition. -/
namespace Go.Proofs.YtlieoghhkioflaaGreat
open Go Go.RowKit
variable{N:Bn->Prop}{bx':Bx}{fr':Fr}{n':Nat}
variable{P:Program}{E:Db}{A0:Nat->Prop}{w0:AW}{Qf:Ad->Bx->Prop}
def Jd(D:Nat->Prop)(fr fr':Fr):Prop:=∀t,(D t->Au fr' t= .und)/\(¬D t->Au fr' t=Au fr t)
def DI(N:Bn->Prop)(bx bx':Bx):Prop:=∀b,(N b->Ab bx' b=none)/\(¬N b->Ab bx' b=Ab bx b)
theorem Jd.put{D:Nat->Prop}{fr:Fr}(h:Jd D fr fr')(d:Option Nat)(hd:∀t,d=some t->¬D t)(v:Ad):Jd D (Ai fr d v) (Ai fr' d v):=by
 intro t
 refine⟨fun ht=> ?_,fun ht=> ?_⟩
 ·rw[AV,if_neg (fun e=>hd t e ht)];exact(h t).1 ht
 rw[AV,AV,(h t).2 ht]
theorem Jd.sub{D:Nat->Prop}{fr:Fr}(h:Jd D fr fr')(b:Bn):Jd D (AK b .und fr) (AK b .und fr'):=by
 intro t
 rw[Fm,Fm]
 exact⟨fun ht=>by rw[(h t).1 ht];rfl,fun ht=>by rw[(h t).2 ht]⟩
theorem DI.set{bx:Bx}(h:DI N bx bx'){b:Bn}(hb:¬N b)(c:Cw):DI N (Aj bx b c) (Aj bx' b c):=by
 intro y
 rw[Ac,Ac]
 refine⟨fun hy=> ?_,fun hy=> ?_⟩
 ·rw[if_neg (fun e:y=b=>hb (e▸hy))];exact(h y).1 hy
 rw[(h y).2 hy]
theorem DI.sub{bx:Bx}(h:DI N bx bx')(b:Bn):DI N (AJ b .und bx) (AJ b .und bx'):=by
 intro y
 rw[AP,AP]
 exact⟨fun hy=>by rw[(h y).1 hy];rfl,fun hy=>by rw[(h y).2 hy]⟩
theorem DI.ofSome{bx:Bx}(h:DI N bx bx'){b:Bn}{c:Cw}(hb:Ab bx' b=some c):¬N b/\Ab bx b=some c:=by
 have hn:¬N b:=fun hn=>by rw[(h b).1 hn]at hb;cases hb
 exact⟨hn,by rw[<-(h b).2 hn];exact hb⟩
theorem Iw{β:Bn->CK}{w:World}{bx mb:Bx}{v:Ad}{x:Value}{r:Option Nat×Nat×(Nat->Nat->Ad)}(h:DI N bx mb)(hr:Ar A0 w0 β (Ab mb) w v x)(he:CB bx v=some r):CB mb v=some r:=by
 cases v<;>simp only[CB]at he⊢ <;>first|exact he|skip
 ·rename_i b
  obtain⟨⟨e,k,n,hrb⟩,_⟩:=hr
  rcases hrb.cases with⟨c,hb⟩|⟨c,hb⟩
  all_goals
   rw[(h.ofSome hb).2]at he
   rw[hb];exact he
 rename_i b off n
 obtain⟨e,k,m,hrb,_⟩:=hr
 rcases hrb.cases with⟨c,hb⟩|⟨c,hb⟩
 all_goals
  rw[(h.ofSome hb).2]at he
  rw[hb];exact he
theorem MN{fr:Fr}:∀{l:List Operand} {ts:List TypeId} {r:List (List Sh×Bf)},Fl P l ts=some r->(∀q x,q∈l->AG q=some x->ev E fr x=ev E fr' x)->AQ E fr r=AQ E fr' r:=by
 intro l;induction l with
 |nil=>intro ts r h _;simp[Fl]at h;subst h;rfl
 |cons q l ih=>
  intro ts r h hx
  simp only[Fl]at h
  split at h
  ·rename_i ox r' h1 h2
   simp at h;subst h
   simp only[AQ]
   rw[hx q ox (by simp) h1,ih h2 fun q' x hq=>hx q' x (by simp[hq])]
  cases h
theorem SA{β:Bn->CK}{w:World}{bx mb ml:Bx}(hm:Fp P A0 w0 β (Ab mb) n' w)(h:∀b c,Ab mb b=some c->Ab ml b=Ab bx b)(h2:∀b c,Ab ml b=some c->Ab mb b=some c):∀(d:Nat) (v:Ad) (x:Value),Ar A0 w0 β (Ab mb) w v x->Ay ml d v=Ay bx d v/\An ml d v=An bx d v:=by
 intro d
 induction d with
 |zero=>
  intro v x _
  refine⟨?_,by simp only[An]⟩
  have:∀v,Ay ml 0 v=Ay bx 0 v:=by
   intro v;induction v with
   |cons a t ih1 ih2=>simp only[Ay,ih1,ih2]
   |agg l ih=>simp only[Ay,ih]
   |tup l ih=>simp only[Ay,ih]
   |func fn l ih=>simp only[Ay,ih]
   |_=>simp only[Ay]
  exact this v
 |succ d ihd=>
  have at':∀b c,Ab mb b=some c->(Ab ml b=none/\Ab bx b=none)\/(Ab ml b=some c/\Ab bx b=some c):=by
   intro b c hb
   have e:=h b c hb
   cases hq:Ab ml b with
   |none=>exact .inl ⟨rfl,by rw[<-e,hq]⟩
   |some c'=>have:=h2 b c' hq;rw[hb]at this;cases this;exact .inr ⟨rfl,by rw[<-e,hq]⟩
  intro v;induction v with
  |cons a t ih1 ih2=>
   rintro x ⟨y,ys,rfl,h1,h2⟩
   obtain⟨e1,e2⟩:=ih1 y h1
   obtain⟨e3,e4⟩:=ih2 _ h2
   exact⟨by simp only[Ay,e1,e3],by simp only[An,e2,e4]⟩
  |agg l ih=>rintro x ⟨ys,rfl,h⟩;obtain⟨e1,e2⟩:=ih _ h;exact⟨by simp only[Ay,e1],by simp only[An,e2]⟩
  |tup l ih=>rintro x ⟨ys,rfl,h⟩;obtain⟨e1,e2⟩:=ih _ h;exact⟨by simp only[Ay,e1],by simp only[An,e2]⟩
  |func fn l ih=>rintro x ⟨ys,rfl,h⟩;obtain⟨e1,e2⟩:=ih _ h;exact⟨by simp only[Ay,e1],by simp only[An,e2]⟩
  |own b=>
   rintro x ⟨⟨e,k,n,hrb⟩,_⟩
   rcases hrb.cases with⟨c,hb0⟩|⟨c,hb0⟩
   ·rcases at' b _ hb0 with⟨hb,hb'⟩|⟨hb,hb'⟩<;>exact⟨by simp only[Ay,hb,hb'],by simp only[An,hb,hb']⟩
   rcases at' b _ hb0 with⟨hb,hb'⟩|⟨hb,hb'⟩
   ·exact⟨by simp only[Ay,hb,hb'],by simp only[An,hb,hb']⟩
   obtain⟨_,_,_,xs,_,hc⟩:=hm.bx b _ hb0
   have key:∀i,i<n->∀j,j<k->Ay ml d (c i j)=Ay bx d (c i j)/\An ml d (c i j)=An bx d (c i j):=fun i hi j hj=>by
    obtain⟨y,_,_,hr⟩:=hc i hi j hj
    exact ihd _ _ hr
   refine⟨?_,?_⟩
   ·simp only[Ay,hb,hb']
    congr 1
    funext i j
    cases hij:decide (i<n/\j<k)with
    |false=>rfl
    |true=>have:=of_decide_eq_true hij;exact(key i this.1 j this.2).1
   simp only[An,hb,hb']
   have hdec:∀p q:Prop,p=q-> @decide p (Classical.propDecidable p)= @decide q (Classical.propDecidable q):=by rintro p _ rfl;rfl
   exact hdec _ _ (propext ⟨fun h i hi j hj=>by rw[<-(key i hi j hj).2];exact h i hi j hj,fun h i hi j hj=>by rw[(key i hi j hj).2];exact h i hi j hj⟩)
  |rptr b i off=>
   rintro x ⟨e,k,n,hrb,_⟩
   rcases hrb.cases with⟨c,hb0⟩|⟨c,hb0⟩
   all_goals rcases at' b _ hb0 with⟨hb,hb'⟩|⟨hb,hb'⟩<;>exact⟨by simp only[Ay,hb,hb'],by simp only[An,hb,hb']⟩
  |osl b off m=>
   rintro x ⟨e,k,n,hrb,_⟩
   rcases hrb.cases with⟨c,hb0⟩|⟨c,hb0⟩
   all_goals rcases at' b _ hb0 with⟨hb,hb'⟩|⟨hb,hb'⟩<;>exact⟨by simp only[Ay,hb,hb'],by simp only[An,hb,hb']⟩
  |ptr b off=>
   rintro x ⟨⟨l0,hb0,hp⟩,_⟩
   rcases at' b _ hb0 with⟨hb,hb'⟩|⟨hb,hb'⟩
   ·exact⟨by simp only[Ay,hb,hb'],by simp only[An,hb,hb']⟩
   cases l0 with
   |cells l=>
    obtain⟨_,g',ys,t',h2,h3,h4⟩:=hm.bx b _ hb0
    obtain⟨e1,e2⟩:=ihd l _ h4
    exact⟨by simp only[Ay,hb,hb',e1],by simp only[An,hb,hb',e2]⟩
   |it=>exact⟨by simp only[Ay,hb,hb'],by simp only[An,hb,hb']⟩
   |wc=>exact⟨by simp only[Ay,hb,hb'],by simp only[An,hb,hb']⟩
   |_=>simp[ptrB]at hp
  |mapb b=>
   rintro x ⟨⟨kd,hmb⟩,_⟩
   rcases hmb.cases with⟨has,f,hb0⟩|⟨f,hb0⟩
   case inr=>rcases at' b _ hb0 with⟨hb,hb'⟩|⟨hb,hb'⟩<;>exact⟨by simp only[Ay,hb,hb'],by simp only[An,hb,hb']⟩
   rcases at' b _ hb0 with⟨hb,hb'⟩|⟨hb,hb'⟩
   ·exact⟨by simp only[Ay,hb,hb'],by simp only[An,hb,hb']⟩
   obtain⟨g',m,h1,h2,h3⟩:=hm.bx b _ hb0
   have key:∀k,has k=true->Ay ml d (f k)=Ay bx d (f k)/\An ml d (f k)=An bx d (f k):=fun k hk=>by
    obtain⟨y,hy,hr⟩:=(h3 k).2 hk
    exact ihd _ _ hr
   refine⟨?_,?_⟩
   ·simp only[Ay,hb,hb']
    congr 1
    funext k
    cases hk:has k with
    |false=>rfl
    |true=>exact(key k hk).1
   simp only[An,hb,hb']
   have hdec:∀p q:Prop,p=q-> @decide p (Classical.propDecidable p)= @decide q (Classical.propDecidable q):=by rintro p _ rfl;rfl
   exact hdec _ _ (propext ⟨fun h k hk=>by rw[<-(key k hk).2];exact h k hk,fun h k hk=>by rw[(key k hk).2];exact h k hk⟩)
  |_=>intro x _;exact⟨by simp only[Ay],by simp only[An]⟩
theorem KM{β:Bn->CK}{w:World}{bx mb ml:Bx}(hm:Fp P A0 w0 β (Ab mb) n' w)(h:∀b c,Ab mb b=some c->Ab ml b=Ab bx b)(h2:∀b c,Ab ml b=some c->Ab mb b=some c):∀(l:List Ad) (x:Value),Ar A0 w0 β (Ab mb) w (vl l) x->Ci ml l=Ci bx l/\BJ ml l=BJ bx l:=by
 intro l;induction l with
 |nil=>intro x _;exact⟨rfl,rfl⟩
 |cons v l ih=>
  rintro x ⟨y,ys,rfl,h1,h3⟩
  obtain⟨e1,e2⟩:=SA hm h h2 40 v y h1
  obtain⟨e3,e4⟩:=ih _ h3
  exact⟨by simp only[Ci,e1,e3],by simp only[BJ,e2,e4]⟩
theorem QZ{β:Bn->CK}{w:World}{bx mb:Bx}(hm:Fp P A0 w0 β (Ab mb) n' w)(h:DI N bx mb){s:As}{args:List (List Sh×Bf)}{vs:List Ad}{x:Value}(hr:Ar A0 w0 β (Ab mb) w (vl vs) x):Ct mb s args vs=Ct bx s args vs:=by
 obtain⟨e1,e2⟩:=KM hm (fun b c hb=>by rw[(h.ofSome hb).2,hb]) (fun _ _ hb=>hb) vs x hr
 simp only[Ct,e1,e2]
section
variable{n:Nat}{ro:Option Nat}{ops:Array Oper}{nt:Nat}{ds:List Deferred}{o:Oper}{ao ao0:A2}{stk stk1:List Av}{fr fr1 mf:Fr}{bx bx1 mb:Bx}{nx nx1:Nat}{Q:Exit->Act->World->Prop}{knext:Act->World->Prop}{a:Act}{w:World}{β:Bn->CK}{as:List Act}
 {sk:List (Option Nat×List BY×List B6×Nat)} {D:Nat->Prop} {N:Bn->Prop}
theorem RF{q:Operand}{x:Bf}(h:AG q=some x):∀t∈D1 x,q= .tmp t:=by
 cases q<;>simp[AG]at h
 ·subst h;intro t ht;simp[D1]at ht;rw[ht]
 ·obtain⟨u,_,rfl⟩:=h;intro t ht;simp[D1]at ht
 ·subst h;intro t ht;simp[D1]at ht
 subst h;intro t ht;simp[D1]at ht
def Zw(ao:A2)(mb:Bx)(N:Bn->Prop)(fr:Fr)(bx:Bx)(fr1:Fr)(bx1:Bx):Prop:=
 (∀t,ao.dst≠some t->Au fr1 t=Au fr t\/∃b,(∃c,Ab mb b=some c)/\Au fr1 t=Bc b .und (Au fr t))/\
 ∀nm,N nm->Ab bx1 nm=Ab bx nm\/∃b,Ab bx1 nm=(Ab bx nm).map (BU b .und)
theorem Z7(he:Cc P E A0 w0)(hc:CQ P ops.toList nt o=some ao0)(hop0:ao.op=ao0.op)(hd0:ao.dst=ao0.dst)(hsz:FQ nt ds a)(hrel:AL P A0 w0 β stk as mf mb nx a w)(hsk:BF stk=sk)(hM:Jd D fr mf)(hMB:DI N bx mb)(hlook:∀t∈Fg o,¬D t)(hdst:∀t,o.dst=some t->¬D t)(hN:¬N nx)
  (hst:CY E ao fr bx nx stk fr1 bx1 nx1 stk1) (hskip:A9 fr ao.guard=some false) (heff:D6 ao.op=false)
  (hnext:∀β1 a1 w1 mf1 mb1,FQ nt ds a1->AL P A0 w0 β1 stk1 as mf1 mb1 nx1 a1 w1->Jd D fr1 mf1->DI N bx1 mb1->Zw ao mb N fr bx fr1 bx1->CC E fr1 bx1 ao.re->BF stk1=sk->knext a1 w1):o.wpIn (FW ro) 0 P a w knext Q:=by
 obtain⟨h1,h2,h3,h4⟩:=AX hc
 have hdd:∀t,ao.dst=some t->¬D t:=fun t ht=>hdst t (by rw[<-h3,<-hd0];exact ht)
 have hev:∀{q:Operand} {x:Bf},AG q=some x->q∈o.op.operands.toList->ev E mf x=ev E fr x:=by
  intro q x hq hin
  refine AD fun t ht=>(hM t).2 (hlook t ?_)
  have:=RF hq t ht
  subst this
  simp only[Fg,List.mem_filterMap]
  exact⟨.tmp t,hin,rfl⟩
 have hrep:∀{q:Operand} {x:Bf},AG q=some x->q∈o.op.operands.toList->Ar A0 w0 β (Ab mb) w (ev E fr x) (a.eval q):=by
  intro q x hq hin
  rw[<-hev hq hin]
  exact Bs he hrel.mem (fun t _=>hrel.fr t) x hq
 cases hst with
 |skip h=>rw[hskip]at h;cases h
 |soft _ h _=>rw[heff]at h;cases h
 | @store m ad x b off c _ hop hv hb q1 q2 q3 q4=>
  rw[hop0]at hop
  rw[hop]at h1
  obtain⟨t,xa,xx,ho,p1,p2,p3⟩:=H7 h1
  have i1:xa∈o.op.operands.toList:=by rw[ho];simp[Op.operands]
  have i2:xx∈o.op.operands.toList:=by rw[ho];simp[Op.operands]
  have hr:=hrep p2 i1
  rw[hv]at hr
  obtain⟨⟨l,hl,_⟩,_⟩:=hr
  obtain⟨hnb,hl'⟩:=hMB.ofSome hl
  rw[hb]at hl';cases hl'
  have hk:CG P A0 w0 nt ds as sk (fun stk' fr' bx' nx'=>stk'=stk/\nx'=nx/\Jd D (Ai fr ao0.dst .und) fr'/\DI N (Aj bx b (.cells (Dh c off (cellsOf (ev E fr x))))) bx') knext:=by
   rintro β1 stk' fr' bx' nx' a1 w1 hsz1 hr1 hsk1 ⟨rfl,rfl,m1,m2⟩
   rw[hd0]at hnext q4
   refine hnext β1 a1 w1 fr' bx' hsz1 hr1 m1 m2 ⟨fun t ht=> .inl (by rw[AV,if_neg (by rw[<-hd0];exact ht)]),fun nm hnm=> .inl (by rw[Ac,if_neg (fun e:nm=b=>hnb (e▸hnm))])⟩ q4 hsk1
  refine G7 he hc hsz hrel hsk hk hop ?_
  rw[hev p2 i1,hev p3 i2,hv]
  simp only[hl]
  exact⟨q1,q2,q3,(by first|rfl|trivial),(by first|rfl|trivial),hM.put _ (by rw[<-hd0];exact hdd) _,hMB.set hnb _⟩
 | @storeR m ad x b i off e k m' c _ hop hv hb q1 q2 q3 q4 q5=>
  rw[hop0]at hop
  rw[hop]at h1
  obtain⟨t,xa,xx,ho,p1,p2,p3⟩:=H7 h1
  have i1:xa∈o.op.operands.toList:=by rw[ho];simp[Op.operands]
  have i2:xx∈o.op.operands.toList:=by rw[ho];simp[Op.operands]
  have hr:=hrep p2 i1
  rw[hv]at hr
  obtain⟨e',k',n',⟨cl,hl,_⟩,_⟩:=hr
  obtain⟨hnb,hl'⟩:=hMB.ofSome hl
  rw[hb]at hl';cases hl'
  have hk:CG P A0 w0 nt ds as sk (fun stk' fr' bx' nx'=>stk'=stk/\nx'=nx/\Jd D (Ai fr ao0.dst .und) fr'/\DI N (Aj bx b (.row e k m' fun i' j'=>if i'=i/\off<=j'/\j'<off+m then Az (cellsOf (ev E fr x)) (j'-off)else c i' j')) bx') knext:=by
   rintro β1 stk' fr' bx' nx' a1 w1 hsz1 hr1 hsk1 ⟨rfl,rfl,m1,m2⟩
   rw[hd0]at hnext q5
   refine hnext β1 a1 w1 fr' bx' hsz1 hr1 m1 m2 ⟨fun t ht=> .inl (by rw[AV,if_neg (by rw[<-hd0];exact ht)]),fun nm hnm=> .inl (by rw[Ac,if_neg (fun e:nm=b=>hnb (e▸hnm))])⟩ q5 hsk1
  refine G7 he hc hsz hrel hsk hk hop ?_
  rw[hev p2 i1,hev p3 i2,hv]
  simp only[hl]
  exact⟨q1,q2,q3,q4,(by first|rfl|trivial),(by first|rfl|trivial),hM.put _ (by rw[<-hd0];exact hdd) _,hMB.set hnb _⟩
 | @appN e k bytes x y k' m c' _ hop hNe hel q1 q2 hv q3 q4 q5=>
  rw[hop0]at hop
  rw[hop]at h1
  obtain⟨cl,xa,xb,t,z,i,ho,hcal,hargs,hat,hu,hz,hi,hby,p1,p2⟩:=Gu h1
  have i1:xa∈o.op.operands.toList:=by rw[ho];simp[Op.operands,Call.operands,hcal];rw[<-Array.mem_toList_iff,hargs];simp
  have i2:xb∈o.op.operands.toList:=by rw[ho];simp[Op.operands,Call.operands,hcal];rw[<-Array.mem_toList_iff,hargs];simp
  have hel':CB mb (ev E fr y)=some (k',m,c'):=Iw hMB (hrep p2 i2) hel
  have hk:CG P A0 w0 nt ds as sk (fun stk' fr' bx' nx'=>stk'=stk/\nx'=nx+1/\Jd D (Ai fr ao0.dst (.own nx)) fr'/\DI N ((nx,.one (.row e k m c'))::bx) bx') knext:=by
   rintro β1 stk' fr' bx' nx' a1 w1 hsz1 hr1 hsk1 ⟨rfl,rfl,m1,m2⟩
   rw[hd0]at hnext q5
   refine hnext β1 a1 w1 fr' bx' hsz1 hr1 m1 m2 ⟨fun t ht=> .inl (by rw[AV,if_neg (by rw[<-hd0];exact ht)]),fun nm hnm=> .inl (by rw[BR,if_neg (fun e:nm= .n nx=>hN (e▸hnm))])⟩ q5 hsk1
  refine Hf he hc hsz hrel hsk hk hop ?_
  rw[hev p1 i1,hev p2 i2,hel',hv]
  refine⟨q1,q2,q3,q4,rfl,rfl,hM.put _ (by rw[<-hd0];exact hdd) _,fun b=>⟨fun hb=> ?_,fun hb=> ?_⟩⟩
  ·rw[BR,if_neg (fun e:b= .n nx=>hN (e▸hb))];exact(hMB b).1 hb
  rw[BR,BR,(hMB b).2 hb]
 | @appT e k bytes x y k' m c' n' c _ hop hNe hel q1 q2 hv q6 q3 q4 q5=>
  rw[hop0]at hop
  rw[hop]at h1
  obtain⟨cl,xa,xb,t,z,i,ho,hcal,hargs,hat,hu,hz,hi,hby,p1,p2⟩:=Gu h1
  have i1:xa∈o.op.operands.toList:=by rw[ho];simp[Op.operands,Call.operands,hcal];rw[<-Array.mem_toList_iff,hargs];simp
  have i2:xb∈o.op.operands.toList:=by rw[ho];simp[Op.operands,Call.operands,hcal];rw[<-Array.mem_toList_iff,hargs];simp
  have hel':CB mb (ev E fr y)=some (k',m,c'):=Iw hMB (hrep p2 i2) hel
  have hk:CG P A0 w0 nt ds as sk (fun stk' fr' bx' nx'=>stk'=stk/\nx'=nx+1/\Jd D (Ai fr ao0.dst (.own nx)) fr'/\DI N ((nx,.one (.row e k (n'+m) fun i j=>if i<n' then c i j else c' (i-n') j))::bx) bx') knext:=by
   rintro β1 stk' fr' bx' nx' a1 w1 hsz1 hr1 hsk1 ⟨rfl,rfl,m1,m2⟩
   rw[hd0]at hnext q5
   refine hnext β1 a1 w1 fr' bx' hsz1 hr1 m1 m2 ⟨fun t ht=> .inl (by rw[AV,if_neg (by rw[<-hd0];exact ht)]),fun nm hnm=> .inl (by rw[BR,if_neg (fun e:nm= .n nx=>hN (e▸hnm))])⟩ q5 hsk1
  refine Hf he hc hsz hrel hsk hk hop ?_
  rw[hev p1 i1,hev p2 i2,hel',hv]
  refine⟨q1,q2,rfl,q6,q3,q4,rfl,rfl,hM.put _ (by rw[<-hd0];exact hdd) _,fun b=>⟨fun hb=> ?_,fun hb=> ?_⟩⟩
  ·rw[BR,if_neg (fun e:b= .n nx=>hN (e▸hb))];exact(hMB b).1 hb
  rw[BR,BR,(hMB b).2 hb]
 | @appO e k bytes x y k' m c' b n' c _ hop hNe hel q1 q2 hv hb q3 q4 q5=>
  rw[hop0]at hop
  rw[hop]at h1
  obtain⟨cl,xa,xb,t,z,i,ho,hcal,hargs,hat,hu,hz,hi,hby,p1,p2⟩:=Gu h1
  have i1:xa∈o.op.operands.toList:=by rw[ho];simp[Op.operands,Call.operands,hcal];rw[<-Array.mem_toList_iff,hargs];simp
  have i2:xb∈o.op.operands.toList:=by rw[ho];simp[Op.operands,Call.operands,hcal];rw[<-Array.mem_toList_iff,hargs];simp
  have hel':CB mb (ev E fr y)=some (k',m,c'):=Iw hMB (hrep p2 i2) hel
  have hr:=hrep p1 i1
  rw[hv]at hr
  obtain⟨⟨e1,k1,n1,cl1,hl,_⟩,_⟩:=hr
  obtain⟨hnb,hl'⟩:=hMB.ofSome hl
  rw[hb]at hl';cases hl'
  have hk:CG P A0 w0 nt ds as sk (fun stk' fr' bx' nx'=>stk'=AC b .und stk/\nx'=nx/\Jd D (Ai (AK b .und fr) ao0.dst (.own b)) fr'/\DI N (Aj (AJ b .und bx) b (.row e k (n'+m) fun i j=>if i<n' then c i j else c' (i-n') j)) bx') knext:=by
   rintro β1 stk' fr' bx' nx' a1 w1 hsz1 hr1 hsk1 ⟨rfl,rfl,m1,m2⟩
   rw[hd0]at hnext q5
   refine hnext β1 a1 w1 fr' bx' hsz1 hr1 m1 m2 ⟨fun t ht=> .inr ⟨b,⟨_,hl⟩,by rw[AV,if_neg (by rw[<-hd0];exact ht),Fm]⟩,fun nm hnm=> .inr ⟨b,by rw[Ac,if_neg (fun e:nm=b=>hnb (e▸hnm)),AP]⟩⟩ q5 hsk1
  refine Hf he hc hsz hrel hsk hk hop ?_
  rw[hev p1 i1,hev p2 i2,hel',hv]
  simp only[hl]
  exact⟨q1,q2,(by first|rfl|trivial),(by first|rfl|trivial),q3,q4,(by first|rfl|trivial),(by first|rfl|trivial),(hM.sub b).put _ (by rw[<-hd0];exact hdd) _,(hMB.sub b).set hnb _⟩
 | @appM e k bytes x y b' e'' m c' b n' c _ hop hNe hy hb' hv hb q3 q4 q5=>
  rw[hop0]at hop
  rw[hop]at h1
  obtain⟨cl,xa,xb,t,z,i,ho,hcal,hargs,hat,hu,hz,hi,hby,p1,p2⟩:=Gu h1
  have i1:xa∈o.op.operands.toList:=by rw[ho];simp[Op.operands,Call.operands,hcal];rw[<-Array.mem_toList_iff,hargs];simp
  have i2:xb∈o.op.operands.toList:=by rw[ho];simp[Op.operands,Call.operands,hcal];rw[<-Array.mem_toList_iff,hargs];simp
  have hr:=hrep p1 i1
  rw[hv]at hr
  obtain⟨⟨e1,k1,n1,cl1,hl,_⟩,_⟩:=hr
  obtain⟨hnb,hl'⟩:=hMB.ofSome hl
  rw[hb]at hl';cases hl'
  have hr2:=hrep p2 i2
  rw[hy]at hr2
  obtain⟨⟨e2,k2,n2,cl2,hl2,_⟩,_⟩:=hr2
  obtain⟨hnb2,hl2'⟩:=hMB.ofSome hl2
  rw[hb']at hl2';cases hl2'
  have hk:CG P A0 w0 nt ds as sk (fun stk' fr' bx' nx'=>stk'=AC b .und stk/\nx'=nx/\Jd D (Ai (AK b .und fr) ao0.dst (.own b)) fr'/\DI N (Aj (AJ b .und bx) b (.rown e k (n'+m) fun i j=>Bc b .und (if i<n' then c i j else c' (i-n') j))) bx') knext:=by
   rintro β1 stk' fr' bx' nx' a1 w1 hsz1 hr1 hsk1 ⟨rfl,rfl,m1,m2⟩
   rw[hd0]at hnext q5
   refine hnext β1 a1 w1 fr' bx' hsz1 hr1 m1 m2 ⟨fun t ht=> .inr ⟨b,⟨_,hl⟩,by rw[AV,if_neg (by rw[<-hd0];exact ht),Fm]⟩,fun nm hnm=> .inr ⟨b,by rw[Ac,if_neg (fun e:nm=b=>hnb (e▸hnm)),AP]⟩⟩ q5 hsk1
  refine Lm he hc hsz hrel hsk hk hop ?_
  rw[hev p1 i1,hev p2 i2,hv,hy]
  simp only[hl,hl2]
  exact⟨(by first|rfl|trivial),(by first|rfl|trivial),(by first|rfl|trivial),q3,q4,(by first|rfl|trivial),(by first|rfl|trivial),(hM.sub b).put _ (by rw[<-hd0];exact hdd) _,(hMB.sub b).set hnb _⟩
 | @calN f args id caps s p e k m c n' _ hop hv hs hsp q1 q2 q3 q4 q5=>
  rw[hop0]at hop
  rw[hop]at h1
  obtain⟨cl,fo,ho,hcal,p1,p2⟩:=Gh (q:=o.op) (f:=f) (args:=args) (.inr h1)
  have i1:fo∈o.op.operands.toList:=by rw[ho];simp[Op.operands,Call.operands,hcal]
  have ia:∀x∈cl.args.toList,x∈o.op.operands.toList:=fun x hx=>by rw[ho];simp[Op.operands,Call.operands,hcal];right;exact Array.mem_toList_iff.1 hx
  have hargs:AQ E mf args=AQ E fr args:=MN p2 fun q x hq hx=>hev hx (ia q hq)
  have hreps:Ar A0 w0 β (Ab mb) w (vl (AQ E mf args)) (.tuple ⟨cl.args.toList.map a.eval⟩):=Fb cl.args.toList cl.argTypes.toList args p2 fun x _=>Bs he hrel.mem fun t _=>hrel.fr t
  have hcaps:Ar A0 w0 β (Ab mb) w (.func (.func id) caps) (a.eval fo):=by rw[<-hv];exact hrep p1 i1
  obtain⟨ys,_,hcr⟩:=hcaps
  have hsv:Ct mb s args (AQ E fr args++BK caps)=Ct bx s args (AQ E fr args++BK caps):=by
   rw[<-hargs]
   refine QZ hrel.mem hMB (x:= .tuple ⟨cl.args.toList.map a.eval++ys⟩) ?_
   rw[Md];exact A7.app hreps (Jg _) (HL caps ys q1 hcr)
  have hk:CG P A0 w0 nt ds as sk (fun stk' fr' bx' nx'=>stk'=stk/\nx'=nx+1/\Jd D (Ai fr ao0.dst (.own nx)) fr'/\DI N ((nx,.one (.row e k m c))::bx) bx') knext:=by
   rintro β1 stk' fr' bx' nx' a1 w1 hsz1 hr1 hsk1 ⟨rfl,rfl,m1,m2⟩
   rw[hd0]at hnext q5
   refine hnext β1 a1 w1 fr' bx' hsz1 hr1 m1 m2 ⟨fun t ht=> .inl (by rw[AV,if_neg (by rw[<-hd0];exact ht)]),fun nm hnm=> .inl (by rw[BR,if_neg (fun e:nm= .n nx=>hN (e▸hnm))])⟩ q5 hsk1
  refine Oy he hc hsz hrel hsk hk hop ?_
  rw[hev p1 i1,hv]
  simp only[hs]
  rw[hargs,hsv,hsp]
  simp only[q3]
  refine⟨⟨q1,q2⟩,q4,(by first|rfl|trivial),(by first|rfl|trivial),hM.put _ (by rw[<-hd0];exact hdd) _,fun b=>⟨fun hb=> ?_,fun hb=> ?_⟩⟩
  ·rw[BR,if_neg (fun e:b= .n nx=>hN (e▸hb))];exact(hMB b).1 hb
  rw[BR,BR,(hMB b).2 hb]
 | @calX f args id caps pz s p _ hop hv hs hx hsp q5=>
  rw[hop0]at hop
  rw[hop]at h1
  obtain⟨cl,fo,ho,hcal,p1,p2⟩:=Gh (q:=o.op) (f:=f) (args:=args) (.inr h1)
  have i1:fo∈o.op.operands.toList:=by rw[ho];simp[Op.operands,Call.operands,hcal]
  have ia:∀x∈cl.args.toList,x∈o.op.operands.toList:=fun x hx=>by rw[ho];simp[Op.operands,Call.operands,hcal];right;exact Array.mem_toList_iff.1 hx
  have hargs:AQ E mf args=AQ E fr args:=MN p2 fun q x hq hx=>hev hx (ia q hq)
  have hreps:Ar A0 w0 β (Ab mb) w (vl (AQ E mf args)) (.tuple ⟨cl.args.toList.map a.eval⟩):=Fb cl.args.toList cl.argTypes.toList args p2 fun x _=>Bs he hrel.mem fun t _=>hrel.fr t
  obtain⟨⟨lp,lq,hb1⟩,e0,k0,n0,c0,hb2⟩:=MQ hsp
  rw[hargs]at hreps
  obtain⟨zs,y0,us,_,_,_,hrp,hrq,⟨⟨e1,k1,n1,cl1,hl,_⟩,_⟩⟩:=Qy hb1 hreps
  obtain⟨hnb,hl'⟩:=hMB.ofSome hl
  rw[hb2]at hl';cases hl'
  have hdl:∀(l:List Ad) (x:Value),Ar A0 w0 β (Ab mb) w (vl l) x->Ci (BQ mb p.1) l=Ci (BQ bx p.1) l/\BJ (BQ mb p.1) l=BJ (BQ bx p.1) l:=fun l x hx=>by
   refine KM hrel.mem (fun b c hb=> ?_) (fun b c hb=> ?_) l x hx
   ·rw[Bt,Bt]
    split
    ·rfl
    rw[(hMB.ofSome hb).2,hb]
   rw[Bt]at hb
   split at hb
   ·cases hb
   exact hb
  have hsp':Fv mb s pz args (AQ E mf args) caps (fun b e k m c=>p=(b,e,k,m,c)) NoI:=by
   rw[hargs]
   obtain⟨d1,d2⟩:=hdl lp _ hrp
   obtain⟨d3,d4⟩:=hdl lq _ hrq
   unfold Fv at hsp⊢
   cases caps<;>first|exact hsp.elim|skip
   simp only[hb1,hb2]at hsp
   simp only[hb1,hl]
   rw[Gd,d2,d4,d1,d3,<-Gd]
   exact hsp
  have hk:CG P A0 w0 nt ds as sk (fun stk' fr' bx' nx'=>stk'=AC p.1 .und stk/\nx'=nx/\Jd D (Ai (AK p.1 .und fr) ao0.dst (.own p.1)) fr'/\DI N (Aj (AJ p.1 .und bx) p.1 (.row p.2.1 p.2.2.1 p.2.2.2.1 p.2.2.2.2)) bx') knext:=by
   rintro β1 stk' fr' bx' nx' a1 w1 hsz1 hr1 hsk1 ⟨rfl,rfl,m1,m2⟩
   rw[hd0]at hnext q5
   refine hnext β1 a1 w1 fr' bx' hsz1 hr1 m1 m2 ⟨fun t ht=> .inr ⟨p.1,⟨_,hl⟩,by rw[AV,if_neg (by rw[<-hd0];exact ht),Fm]⟩,fun nm hnm=> .inr ⟨p.1,by rw[Ac,if_neg (fun e:nm=p.1=>hnb (e▸hnm)),AP]⟩⟩ q5 hsk1
  refine MW he hc hsz hrel hsk hk hop ((hev p1 i1).trans hv) hx ?_
  obtain⟨b',e',k',m',c',g1,g2⟩:=Qg hsp'
  have:Fv mb s pz args (AQ E mf args) caps (fun b e k m c=>AC b .und stk=AC p.1 .und stk/\nx=nx/\Jd D (Ai (AK p.1 .und fr) ao0.dst (.own p.1)) (Ai (AK b .und mf) ao0.dst (.own b))/\DI N (Aj (AJ p.1 .und bx) p.1 (.row p.2.1 p.2.2.1 p.2.2.2.1 p.2.2.2.2)) (Aj (AJ b .und mb) b (.row e k m c))) NoI:=by
   refine KO hsp' ?_ (fun _ _ _ _ _ h=>h)
   rintro b e k m c rfl
   exact⟨rfl,rfl,(hM.sub b).put _ (by rw[<-hd0];exact hdd) _,(hMB.sub b).set hnb _⟩
  exact KO this (fun _ _ _ _ _ h=>h) (fun _ _ _ _ _ h=>h.elim)
 | @mset kd m k v b z has f _ hop hv hkk hb q4 q5=>
  rw[hop0]at hop
  rw[hop]at h1
  obtain⟨t,kt,et,xm,xx,xv,ho,hT,hK,p1,p2,p3⟩:=Js h1
  have i1:xm∈o.op.operands.toList:=by rcases ho with ho|ho<;>(rw[ho];simp[Op.operands])
  have i2:xx∈o.op.operands.toList:=by rcases ho with ho|ho<;>(rw[ho];simp[Op.operands])
  have i3:xv∈o.op.operands.toList:=by rcases ho with ho|ho<;>(rw[ho];simp[Op.operands])
  have hr:=hrep p1 i1
  rw[hv]at hr
  obtain⟨⟨kd1,cm1,hl,_⟩,_⟩:=hr
  obtain⟨hnb,hl'⟩:=hMB.ofSome hl
  rw[hb]at hl';cases hl'
  have hk:CG P A0 w0 nt ds as sk (fun stk' fr' bx' nx'=>stk'=stk/\nx'=nx/\Jd D (Ai fr ao0.dst .und) fr'/\DI N (Aj bx b (.mp kd (fun j=>if j=z then true else has j) fun j=>if j=z then ev E fr v else f j)) bx') knext:=by
   rintro β1 stk' fr' bx' nx' a1 w1 hsz1 hr1 hsk1 ⟨rfl,rfl,m1,m2⟩
   rw[hd0]at hnext q5
   refine hnext β1 a1 w1 fr' bx' hsz1 hr1 m1 m2 ⟨fun t ht=> .inl (by rw[AV,if_neg (by rw[<-hd0];exact ht)]),fun nm hnm=> .inl (by rw[Ac,if_neg (fun e:nm=b=>hnb (e▸hnm))])⟩ q5 hsk1
  have hni:H5 (Ab mb) b:=fun y mb kd seen last hy=>q4 y mb kd seen last (hMB.ofSome hy).2
  refine Ib he hc hsz hrel hsk hk hop (W:=fun b bx=>H5 (Ab bx) b) (fun _ h=>h) ?_
  rw[hev p1 i1,hev p2 i2,hev p3 i3,hv,hkk]
  simp only[hl]
  exact⟨(by first|rfl|trivial),(by first|rfl|trivial),hni,(by first|rfl|trivial),(by first|rfl|trivial),hM.put _ (by rw[<-hd0];exact hdd) _,hMB.set hnb _⟩
 | @msetZ kd m k v b z f _ hop hv hkk hb q4 q5=>
  rw[hop0]at hop
  rw[hop]at h1
  obtain⟨t,kt,et,xm,xx,xv,ho,hT,hK,p1,p2,p3⟩:=Js h1
  have i1:xm∈o.op.operands.toList:=by rcases ho with ho|ho<;>(rw[ho];simp[Op.operands])
  have i2:xx∈o.op.operands.toList:=by rcases ho with ho|ho<;>(rw[ho];simp[Op.operands])
  have i3:xv∈o.op.operands.toList:=by rcases ho with ho|ho<;>(rw[ho];simp[Op.operands])
  have hr:=hrep p1 i1
  rw[hv]at hr
  obtain⟨⟨kd1,cm1,hl,_⟩,_⟩:=hr
  obtain⟨hnb,hl'⟩:=hMB.ofSome hl
  rw[hb]at hl';cases hl'
  have hk:CG P A0 w0 nt ds as sk (fun stk' fr' bx' nx'=>stk'=stk/\nx'=nx/\Jd D (Ai fr ao0.dst .und) fr'/\DI N (Aj bx b (.mz kd fun j=>if j=z then ev E fr v else f j)) bx') knext:=by
   rintro β1 stk' fr' bx' nx' a1 w1 hsz1 hr1 hsk1 ⟨rfl,rfl,m1,m2⟩
   rw[hd0]at hnext q5
   refine hnext β1 a1 w1 fr' bx' hsz1 hr1 m1 m2 ⟨fun t ht=> .inl (by rw[AV,if_neg (by rw[<-hd0];exact ht)]),fun nm hnm=> .inl (by rw[Ac,if_neg (fun e:nm=b=>hnb (e▸hnm))])⟩ q5 hsk1
  have hni:H5 (Ab mb) b:=fun y mb kd seen last hy=>q4 y mb kd seen last (hMB.ofSome hy).2
  refine Ib he hc hsz hrel hsk hk hop (W:=fun b bx=>H5 (Ab bx) b) (fun _ h=>h) ?_
  rw[hev p1 i1,hev p2 i2,hev p3 i3,hv,hkk]
  simp only[hl]
  exact⟨(by first|rfl|trivial),(by first|rfl|trivial),hni,(by first|rfl|trivial),(by first|rfl|trivial),hM.put _ (by rw[<-hd0];exact hdd) _,hMB.set hnb _⟩
end
end Go.Proofs.YtlieoghhkioflaaGreat
/- The engine,part 20e: a region whose order is drawn: the whole. No condition. -/
namespace Go.Proofs.YtlieoghhkioflaaGreat
open Go Go.RowKit
variable{l:List A2}{d:Nat}
variable{P:Program}{E:Db}{A0:Nat->Prop}{w0:AW}{Qf:Ad->Bx->Prop}
section
variable{stk:List Av}{fr fr':Fr}{bx bx':Bx}{nx:Nat}{a:Act}{w w1:World}{β β1:Bn->CK}{as:List Act}
theorem AL.softN(h:AL P A0 w0 β stk as fr bx nx a w){nm:Nat}{new:Option Cw}(hB:Ab bx nm=none)(hlt:∀c,new=some c->nm<nx)(hs:CD P A0 w0 β β1 (Ab bx) nm new w w1){v:Ad}{x:Value}(hv:Ar A0 w0 β1 (Dc (Ab bx) nm new) w1 v x)(d:Option Nat)(hd:∀s,d=some s->s<a.tmps.size):
  AL P A0 w0 β1 stk as (Ai fr d v) (CX nm new bx) nx (a.put d x) w1:=by
 refine⟨?_,?_,?_,by rw[EX,B3];exact h.df.mono hs.keep.size (hs.al h.mem hB),h.sn⟩
 ·rw[B3];exact hs.mem h.mem hB (Nat.le_refl _) hlt
 ·rw[B3];exact F9 (fun t=>hs.rep h.mem hB (h.fr t)) hv d hd
 refine E5.mono (A:=fun _=>True) (A':=fun _=>True) (fun n v x hr=> ?_) h.st
 rw[B3]
 refine A7.mono hs.keep.size (hs.al h.mem hB) (fun b c hb=> ?_) v x hr
 simp only[EH]at hb⊢
 split at hb
 ·rename_i hlt
  rw[if_pos hlt]
  exact⟨c,C6 hB hb,CR.refl c,hs.loc b c hb⟩
 cases hb
theorem AL.more(h:AL P A0 w0 β stk as fr bx nx a w){nx':Nat}(hn:nx<=nx'):AL P A0 w0 β stk as fr bx nx' a w:=
 ⟨⟨h.mem.bx,h.mem.inj,fun b c hb=>Nat.lt_of_lt_of_le (h.mem.nx b c hb) hn,h.mem.base,h.mem.below⟩,h.fr,h.st,h.df,fun f hf=>Nat.le_trans (h.sn f hf) hn⟩
theorem AL.putU(h:AL P A0 w0 β stk as fr bx nx a w)(d:Option Nat):AL P A0 w0 β stk as (Ai fr d .und) bx nx a w:=
 ⟨h.mem,fun t=>by rw[AV];split<;>first|trivial|exact h.fr t,h.st,h.df,h.sn⟩
theorem AL.congr(h:AL P A0 w0 β stk as fr bx nx a w)(hf:∀t,Au fr' t=Au fr t)(hb:Ab bx'=Ab bx):AL P A0 w0 β stk as fr' bx' nx a w:=
 ⟨by rw[hb];exact h.mem,fun t=>by rw[hb,hf];exact h.fr t,by rw[hb];exact h.st,by rw[hb];exact h.df,h.sn⟩
theorem Jd.un{D D':Nat->Prop}{mf:Fr}{d:Option Nat}{v:Ad}(h:Jd D fr mf)(hD:∀t,D t↔D' t\/d=some t)(hD2:∀t,d=some t->¬D' t)(hv:∀t,d=some t->Au fr t=v):Jd D' fr (Ai mf d v):=by
 intro t
 rw[AV]
 by_cases e:d=some t
 ·rw[if_pos e];exact⟨fun ht=>absurd ht (hD2 t e),fun _=>(hv t e).symm⟩
 rw[if_neg e];exact⟨fun ht=>(h t).1 ((hD t).2 (.inl ht)),fun ht=>(h t).2 fun hd=>((hD t).1 hd).elim ht e⟩
theorem DI.un{N N':Bn->Prop}{mb:Bx}{nm:Nat}{new:Option Cw}(h:DI N bx mb)(hN:∀b,N b↔N' b\/((∃c,new=some c)/\b=nm))(hN2:∀c,new=some c->¬N' nm)(hv:∀c,new=some c->Ab bx nm=some c):DI N' bx (CX nm new mb):=by
 intro b
 rw[B3]
 cases hn:new with
 |none=>exact⟨fun hb=>(h b).1 ((hN b).2 (.inl hb)),fun hb=>(h b).2 fun hd=>((hN b).1 hd).elim hb fun⟨⟨c,hc⟩,_⟩=>by rw[hn]at hc;cases hc⟩
 |some c=>
  simp only[Dc]
  by_cases e:b=nm
  ·subst e;rw[if_pos rfl];exact⟨fun hb=>absurd hb (hN2 c hn),fun _=>(hv c hn).symm⟩
  rw[if_neg e];exact⟨fun hb=>(h b).1 ((hN b).2 (.inl hb)),fun hb=>(h b).2 fun hd=>((hN b).1 hd).elim hb fun h=>e h.2⟩
theorem LM{ao:A2}{stk1:List Av}{nx1:Nat}(h:CY E ao fr bx nx stk fr' bx' nx1 stk1)(hb:∀b c,Ab bx b=some c->b.id<nx):nx<=nx1/\(∀b c,Ab bx' b=some c->b.id<nx1)/\stk1.map (fun f=>(f.d,f.K,f.res,f.nx))=stk.map fun f=>(f.d,f.K,f.res,f.nx):=by
 have hset:∀{b0:Bn} {c0 c1:Cw},Ab bx b0=some c0->∀b c,Ab (Aj bx b0 c1) b=some c->b.id<nx:=by
  intro b0 c0 c1 h0 b c hc
  rw[Ac]at hc
  split at hc
  ·rename_i e;subst e;exact hb _ _ h0
  exact hb _ _ hc
 cases h with
 |skip=>exact⟨Nat.le_refl _,hb,rfl⟩
 |soft _ _ _=>
  refine⟨by cases(AF E fr bx nx ao.op).new<;>simp[Da],fun b c hc=> ?_,rfl⟩
  rw[B3]at hc
  rcases BO hc with hc|⟨rfl,hn⟩
  ·have:=hb b c hc;cases(AF E fr bx nx ao.op).new<;>simp[Da]<;>omega
  rw[hn];exact Nat.lt_succ_self nx
 |store _ _ _ h0=>exact⟨Nat.le_refl _,hset h0,rfl⟩
 |storeR _ _ _ h0=>exact⟨Nat.le_refl _,hset h0,rfl⟩
 |appN=>
  refine⟨by omega,fun b c hc=> ?_,rfl⟩
  rw[BR]at hc
  split at hc
  ·rename_i e;rw[e];exact Nat.lt_succ_self nx
  have:=hb b c hc;omega
 |appT=>
  refine⟨by omega,fun b c hc=> ?_,rfl⟩
  rw[BR]at hc
  split at hc
  ·rename_i e;rw[e];exact Nat.lt_succ_self nx
  have:=hb b c hc;omega
 |calX _ _ _ _ _ h1=>
  obtain⟨_,e0,k0,n0,c0,h0⟩:=MQ h1
  refine⟨Nat.le_refl _,fun y c' hc=> ?_,Di _ _ _⟩
  rw[Ac]at hc
  split at hc
  ·rename_i e;subst e;exact hb _ _ h0
  rw[AP]at hc
  obtain⟨c2,h2,_⟩:=Option.map_eq_some_iff.1 hc
  exact hb _ _ h2
 |calN=>
  refine⟨by omega,fun b c hc=> ?_,rfl⟩
  rw[BR]at hc
  split at hc
  ·rename_i e;rw[e];exact Nat.lt_succ_self nx
  have:=hb b c hc;omega
 |appO _ _ _ _ _ _ _ h0=>
  refine⟨Nat.le_refl _,fun b c hc=> ?_,Di _ _ _⟩
  rw[Ac]at hc
  split at hc
  ·rename_i e;subst e;exact hb _ _ h0
  rw[AP]at hc
  obtain⟨c2,h2,_⟩:=Option.map_eq_some_iff.1 hc
  exact hb _ _ h2
 |appM _ _ _ _ _ _ h0=>
  refine⟨Nat.le_refl _,fun b c hc=> ?_,Di _ _ _⟩
  rw[Ac]at hc
  split at hc
  ·rename_i e;subst e;exact hb _ _ h0
  rw[AP]at hc
  obtain⟨c2,h2,_⟩:=Option.map_eq_some_iff.1 hc
  exact hb _ _ h2
 |mset _ _ _ _ h0 _=>exact⟨Nat.le_refl _,hset h0,rfl⟩
 |msetZ _ _ _ _ h0 _=>exact⟨Nat.le_refl _,hset h0,rfl⟩
end
theorem T2{fr:Fr}{bx:Bx}:∀{l:List (Option Nat×Ji×Option (Nat×Bool))} {d:Option Nat} {op:Ji} {g:Option (Nat×Bool)},CC E fr bx l->(d,op,g)∈l->match A9 fr g with
  |some true=>True
  |some false=>(AF E fr bx 0 op).pre/\WH fr d (AF E fr bx 0 op).v
  |none=>False:=by
 intro l;induction l with
 |nil=>intro d op g _ h;cases h
 |cons x l ih=>
  obtain⟨d',op',g'⟩:=x
  intro d op g h hm
  rcases List.mem_cons.1 hm with e|hm
  ·cases e;exact h.1
  exact ih h.2 hm
structure DrO(ops:List Oper)(l:List A2)(m:List Nat)(d:Nat)(ord:List Nat):Prop where
 dn:d<=ops.length
 after:Jc ops=true
 apart:Lv ops m (Oz ops)=true
 anti:∀i j t o,i<d->j<d->(ops[i]?).bind (·.dst)=some t->ops[j]?=some o->(t∈Fg o\/(Oz ops).getD j none=some t)->BH m i j=true
 tail:∀i,d<=i->i<ops.length->∀j,j<i->BH m j i=true
 len:ord.length=d
 lt:∀p,p<d->ord.getD p 0<d
 sur:∀i,i<d->∃p,p<d/\ord.getD p 0=i
 own:∀p,p<d->∀t,(l.getD (ord.getD p 0) DF).dst=some t->t∉NU (l.getD (ord.getD p 0) DF).op++NY (l.getD (ord.getD p 0) DF).guard
 ne:∀q p,q<p->p<d->ord.getD q 0≠ord.getD p 0
 mkb:∀q p,q<p->p<d->F0 l (ord.getD q 0)=true->F0 l (ord.getD p 0)=false->BH m (ord.getD q 0) (ord.getD p 0)=false->NT (l.getD (ord.getD q 0) DF).op=true->IF (l.getD (ord.getD q 0) DF).op=true
 eff:∀q p,q<p->p<d->F0 l (ord.getD q 0)=false->BH m (ord.getD q 0) (ord.getD p 0)=true
 rd:∀q p,q<p->p<d->∀t,(l.getD (ord.getD p 0) DF).dst=some t->t∉NU (l.getD (ord.getD q 0) DF).op++NY (l.getD (ord.getD q 0) DF).guard
theorem Z8{ops:List Oper}{l':List A2}(h:J4 ops l=some (d,l')):∀ao∈l,¬∃x,ao.op= .dfr x:=by
 unfold J4 at h
 simp only at h
 split at h
 ·rename_i hc
  simp only[Bool.and_eq_true]at hc
  rintro ao hao ⟨x,hx⟩
  have:=List.all_eq_true.1 hc.2 ao hao
  rw[hx]at this;cases this
 cases h
theorem Z0{ops:List Oper}{l':List A2}(h:J4 ops l=some (d,l')):∃ord,DrO ops l (Cb [] ops) d ord/\l'=Fs l (Cb [] ops) ord++l.drop d:=by
 unfold J4 at h
 simp only at h
 generalize P1 l (Cb [] ops) (NE (Cb [] ops) ops.length) [] (List.range (NE (Cb [] ops) ops.length))=ord at h
 generalize NE (Cb [] ops) ops.length=d' at h
 split at h
 ·rename_i hc
  simp only[Option.some.injEq,Prod.mk.injEq]at h
  obtain⟨rfl,rfl⟩:=h
  simp only[Bool.and_eq_true,decide_eq_true_eq]at hc
  obtain⟨⟨⟨⟨⟨⟨h1,h2⟩,h3⟩,h4⟩,h5⟩,h6⟩,_⟩:=hc
  unfold XS at h5
  simp only[Bool.and_eq_true,beq_iff_eq]at h5
  obtain⟨⟨g1,g2⟩,g3⟩:=h5
  have g3':=fun p (hp:p<d')=>List.all_eq_true.1 g3 p (by simpa using hp)
  simp only[Bool.and_eq_true,decide_eq_true_eq]at g3'
  have g4:∀q p,q<p->p<d'->_:=fun q p hq hp=>List.all_eq_true.1 (g3' p hp).2 q (by simpa using hq)
  simp only[Bool.and_eq_true,Bool.not_eq_true']at g4
  refine⟨ord,⟨h6,h1,h2,fun i j t o hi hj ht ho hl=> ?_,fun i hi hi2 j hj=> ?_,g1,fun p hp=>(g3' p hp).1.1,fun i hi=> ?_,fun p hp t ht hin=> ?_,fun q p hq hp e=> ?_,fun q p hq hp a1 a2 a3 a4=> ?_,fun q p hq hp a1=> ?_,fun q p hq hp t ht hin=> ?_⟩,rfl⟩
  ·have:=List.all_eq_true.1 h3 i (by simpa using hi)
   simp only[ht]at this
   have:=List.all_eq_true.1 this j (by simpa using hj)
   simp only[ho,Bool.or_eq_true,Bool.and_eq_true,Bool.not_eq_true']at this
   rcases this with h|⟨h,h'⟩
   ·exact h
   rcases hl with hl|hl
   ·rw[List.contains_iff_mem.2 hl]at h;cases h
   rw[hl]at h';simp at h'
  ·have:=List.all_eq_true.1 h4 i (by simpa using hi2)
   have hid:(decide (i<d'))=false:=by simp;omega
   simp only[hid,Bool.false_or]at this
   exact List.all_eq_true.1 this j (by simpa using hj)
  ·have:=List.all_eq_true.1 g2 i (by simpa using hi)
   have hmem:i∈ord:=List.contains_iff_mem.1 this
   obtain⟨p,hp,e⟩:=List.getElem_of_mem hmem
   refine⟨p,by omega,?_⟩
   rw[List.getD_eq_getElem?_getD,List.getElem?_eq_getElem hp];simpa using e
  ·have:=(g3' p hp).1.2
   rw[ht]at this
   simp only[Bool.not_eq_true']at this
   rw[List.contains_iff_mem.2 hin]at this;cases this
  ·have:=(g4 q p hq hp).1.1.1
   rw[e]at this;simp at this
  ·have:=(g4 q p hq hp).1.2
   rw[a1,a2,a3,a4]at this
   simpa using this
  ·have:=(g4 q p hq hp).1.2
   rw[a1]at this
   simpa using this
  have:=(g4 q p hq hp).2
  rw[ht]at this
  simp only[Bool.not_eq_true']at this
  rw[List.contains_iff_mem.2 hin]at this;cases this
 cases h
theorem N4{m ord:List Nat}{r:List A2}(hlen:ord.length=d){p:Nat}(hp:p<d):(Fs l m ord++r)[p]?=some {l.getD (ord.getD p 0) DF with re:=reL l m ord p (ord.getD p 0)}:=by
 have h1:(Fs l m ord).length=d:=by simp[Fs,hlen]
 rw[List.getElem?_append_left (by omega)]
 simp[Fs,hlen,hp]
theorem Wd{m ord:List Nat}{p q i:Nat}(hq:q<p)(hqo:q<ord.length)(hs:F0 l (ord.getD q 0)=true)(hm:NT (l.getD (ord.getD q 0) DF).op=false)(ha:BH m (ord.getD q 0) i=false)(he:F0 l i=false):
  ((l.getD (ord.getD q 0) DF).dst,(l.getD (ord.getD q 0) DF).op,(l.getD (ord.getD q 0) DF).guard)∈reL l m ord p i:=by
 unfold reL
 rw[he]
 simp only[Bool.false_eq_true,if_false,List.mem_filterMap]
 refine⟨ord.getD q 0,?_,by rw[hs,hm,ha];rfl⟩
 rw[List.mem_take_iff_getElem]
 exact⟨q,by omega,by rw[List.getD_eq_getElem?_getD,List.getElem?_eq_getElem hqo];rfl⟩
end Go.Proofs.YtlieoghhkioflaaGreat
/- The engine,part 20f: a region whose order is drawn: whatever the order,it comes to what the checked order comes to. No condition. -/
namespace Go.Proofs.YtlieoghhkioflaaGreat
open Go Go.RowKit
variable{P:Program}{E:Db}{A0:Nat->Prop}{w0:AW}{Qf:Ad->Bx->Prop}
theorem Hg{n:Nat}{ro:Option Nat}(he:Cc P E A0 w0)(IH:∀m,m<=n->IL P E A0 w0 Qf m){ops:Array Oper}{nt:Nat}{ds:List Deferred}{l l':List A2}{d:Nat}(hc:EC P ops.toList nt ops.toList=some l)(hd:J4 ops.toList l=some (d,l'))
    {K:List BY} {stk:List Av} {res:List B6} {fr:Fr} {bx:Bx} {nx:Nat} {a:Act} {w:World} {β:Bn->CK} {as:List Act} {sk:List (Option Nat×List BY×List B6×Nat)} {nxt:Act->World->Prop} {Q:Exit->Act->World->Prop}
    (hrun:run E Qf n (.ops d l'::K) stk res fr bx nx) (hsz:FQ nt ds a) (hrel:AL P A0 w0 β stk as fr bx nx a w) (hsk:BF stk=sk) (hk:Kp P E A0 w0 Qf n nt ds as sk res K nxt) (hpan:(∃ao∈l.drop d,Oi ao.op=true)->J1 P E A0 w0 Qf n nt ds as sk res K Q) (hq:∀a w,nxt a w->Q .normal a w):
    wpAnyIn (FW ro) 0 P .any ops Q ops.size (Array.replicate ops.size false) a w:=by
  obtain⟨ord,hD,hl'⟩:=Z0 hd
  obtain⟨hlen,hget⟩:=OB _ _ hc
  have hlen':l.length=ops.size:=by simpa using hlen
  have hdn:d<=ops.size:=by simpa using hD.dn
  have hl'len:d<=l'.length:=by rw[hl'];simp[Fs,hD.len]
  have hdrop:l'.drop d=l.drop d:=by
    rw[hl',List.drop_append_of_le_length (by simp[Fs,hD.len])]
    rw[List.drop_eq_nil_of_le (by simp[Fs,hD.len])];rfl
  obtain⟨FR,BX,NX,ST,e1,e2,e3,e4,hst0,m0,hm0,htail⟩:=Zs d n l' K stk res fr bx nx (Nat.le_refl _) hl'len hrun
  rw[hdrop]at htail
  generalize hm:Cb [] ops.toList=m at*
  let O:Nat->Nat:=fun p=>ord.getD p 0
  let AO:Nat->A2:=fun i=>l.getD i DF
  have hg:∀i,i<ops.size->∃o,ops[i]?=some o/\l[i]?=some (AO i)/\CQ P ops.toList nt o=some (AO i)/\(AO i).dst=o.dst:=by
    intro i hi
    obtain⟨ao,h1,h2⟩:=hget i ops[i] (by simp[hi])
    have h3:AO i=ao:=by simp only[AO,List.getD_eq_getElem?_getD,h1,Option.getD_some]
    exact⟨ops[i],Array.getElem?_eq_getElem hi,by rw[h3];exact h1,by rw[h3];exact h2,by rw[h3];exact(AX h2).2.2.1⟩
  have hOlt:∀p,p<d->O p<ops.size:=fun p hp=>Nat.lt_of_lt_of_le (hD.lt p hp) hdn
  have hS:∀p,p<d->CY E {AO (O p)with re:=reL l m ord p (O p)} (FR p) (BX p) (NX p) (ST p) (FR (p+1)) (BX (p+1)) (NX (p+1)) (ST (p+1)):=by
    intro p hp
    refine hst0 p _ hp ?_
    rw[hl'];exact N4 hD.len hp
  -- GG
  have hlt:∀p,p<=d->∀b c,Ab (BX p) b=some c->b.id<NX p:=by
    intro p;induction p with
    |zero=>intro _;rw[e2,e3];exact hrel.mem.nx
    |succ p ih=>intro hp;exact(LM (hS p (by omega)) (ih (by omega))).2.1
  have hnn:∀p,p<=d->Ab (BX p) (NX p)=none:=by
    intro p hp
    cases hb:Ab (BX p) (NX p)with
    |none=>rfl
    |some c=>exact absurd (hlt p hp _ c hb) (Nat.lt_irrefl _)
  have hmon1:∀p,p<d->NX p<=NX (p+1):=fun p hp=>(LM (hS p hp) (hlt p (by omega))).1
  have hmon:∀q p,q<=p->p<=d->NX q<=NX p:=by
    intro q p hqp
    induction p with
    |zero=>intro _;obtain rfl:q=0:=by omega
           exact Nat.le_refl _
    |succ p ih=>
      intro hp
      by_cases e:q=p+1
      ·subst e;exact Nat.le_refl _
      have:=ih (by omega) (by omega)
      have:=hmon1 p (by omega)
      omega
  have hskST:∀p,p<=d->BF (ST p)=sk:=by
    intro p;induction p with
    |zero=>intro _;rw[e4];exact hsk
    |succ p ih=>intro hp;exact(LM (hS p (by omega)) (hlt p (by omega))).2.2.trans (ih (by omega))
  have huniq:∀q p t,q<d->p<d->(AO (O q)).dst=some t->(AO (O p)).dst=some t->q=p:=by
    have key:∀q p t,q<p->p<d->(AO (O q)).dst=some t->(AO (O p)).dst=some t->False:=by
      intro q p t h1 h2 h3 h4
      obtain⟨x,hx,_,_,hdx⟩:=hg (O q) (hOlt q (by omega))
      obtain⟨y,hy,_,_,hdy⟩:=hg (O p) (hOlt p h2)
      have:=(On hD.apart (i:=O q) (j:=O p) (by simpa using hx) (by simpa using hy) (hD.ne q p h1 h2) (by rw[<-hdx];exact h3)).1
      rw[<-hdy]at this
      exact this h4
    intro q p t h1 h2 h3 h4
    rcases Nat.lt_trichotomy q p with h|h|h
    ·exact(key q p t h h2 h3 h4).elim
    ·exact h
    exact(key p q t h h1 h4 h3).elim
  have hsoftI:∀i,F0 l i=D6 (AO i).op:=fun i=>rfl
  -- readiness
  let CL:Array Bool->Prop:=fun L=>∀j o,ops.toList[j]?=some o->L.getD j false=true->∀e∈o.after.toList,Region.binds .any e=true->L.getD e.on false=true
  have hset:∀(L:Array Bool) i,i<L.size->∀k,(L.setIfInBounds i true).getD k false=if k=i then true else L.getD k false:=by
    intro L i hi k
    simp only[Array.getD_eq_getD_getElem?]
    by_cases h:k=i
    ·subst h;simp[hi]
    rw[if_neg h,Array.getElem?_setIfInBounds_ne (fun e=>h e.symm)]
  have hdtf:∀(L:Array Bool) i,L.size=ops.size->i<ops.size->L.getD i true=L.getD i false:=by
    intro L i h1 h2;simp[Array.getD,h1,h2]
  have hready:∀(L:Array Bool) i,L.size=ops.size->CL L->i∈Region.ready .any ops L->i<ops.size/\L.getD i false=false/\∀j,BH m j i=true->L.getD j false=true:=by
    intro L i hs hcl hi
    obtain⟨h1,h2,o,ho,h3⟩:=BZ.1 hi
    refine⟨h1,by rw[<-hdtf L i hs h1];exact h2,fun j hj=> ?_⟩
    exact Ec (L:=fun k=>L.getD k false) hD.after hcl i o (by simpa using ho) h3 j (by rw[hm];exact hj)
  have hlisted:∀(L:Array Bool) j,CL L->j<ops.size->L.getD j false=true->∀i,BH m i j=true->L.getD i false=true:=by
    intro L j hcl hj hlj i hi
    obtain⟨o,h1,_⟩:=hg j hj
    exact Ec (L:=fun k=>L.getD k false) hD.after hcl j o (by simpa using h1) (hcl j o (by simpa using h1) hlj) i (by rw[hm];exact hi)
  have hclset:∀(L:Array Bool) i,L.size=ops.size->CL L->i∈Region.ready .any ops L->CL (L.setIfInBounds i true):=by
    intro L i hs hcl hi j o ho hj e he' hb
    obtain⟨h1,h2,o',ho',h3⟩:=BZ.1 hi
    rw[hset L i (by omega)]at hj⊢
    by_cases hji:j=i
    ·subst hji
     have:o=o':=by rw[show ops.toList[j]?=ops[j]? from by simp]at ho;rw[ho']at ho;simpa using ho.symm
     subst this
     split
     ·rfl
     exact h3 e he' hb
    rw[if_neg hji]at hj
    split
    ·rfl
    exact hcl j o ho hj e he' hb
  have hsomeready:∀(L:Array Bool),L.size=ops.size->(∃i,i<ops.size/\L.getD i false=false)->Region.ready .any ops L≠[]:=by
    rintro L hs ⟨i,hi,hli⟩ hnil
    have hmin:∀i,i<ops.size->L.getD i false=false->False:=by
      intro i
      induction i using Nat.strongRecOn with
      |_ i ih=>
      intro hi hli
      have:i∈Region.ready .any ops L:=by
        refine BZ.2 ⟨hi,by rw[hdtf L i hs hi];exact hli,ops[i],Array.getElem?_eq_getElem hi,fun e he' hb=> ?_⟩
        cases hle:L.getD e.on false
        ·have hlt:e.on<i:=by
           have:=List.all_eq_true.1 hD.after i (by simpa using hi)
           simp only[show ops.toList[i]?=some ops[i]from by simp[hi]]at this
           have:=List.all_eq_true.1 this e he'
           simpa[hb]using this
         exact(ih e.on hlt (by omega) hle).elim
        rfl
      rw[hnil]at this
      cases this
    exact hmin i hi hli
  -- the ordered rest
  have phase2:∀(fuel p m:Nat) (L:Array Bool) (a:Act) (w:World) (β:Bn->CK) (stk:List Av) (fr:Fr) (bx:Bx) (nx:Nat),L.size=ops.size->CL L->cnt L ops.size=fuel->d<=p->(∀i,i<ops.size->(L.getD i false=true↔i<p))->m<=n->FQ nt ds a->AL P A0 w0 β stk as fr bx nx a w->BF stk=sk->
      run E Qf m (.ops 0 (l.drop p)::K) stk res fr bx nx->wpAnyIn (FW ro) 0 P .any ops Q fuel L a w:=by
    intro fuel
    induction fuel with
    |zero=>
      intro p m L a w β stk fr bx nx hs hcl hcnt hp hL hm hsz hrel hsk hrun
      have hall:=Hh hcnt
      have hpl:ops.size<=p:=by
        rcases Nat.lt_or_ge p ops.size with h|h
        ·have:=(hL p h).1 (hall p h);omega
        exact h
      refine⟨?_,?_⟩
      ·apply List.eq_nil_iff_forall_not_mem.2
       intro i hi
       obtain⟨h1,h2,_⟩:=hready L i hs hcl hi
       rw[hall i h1]at h2;cases h2
      rw[List.drop_eq_nil_of_le (by omega)]at hrun
      cases m with
      |zero=>simp[run]at hrun
      |succ m=>
        simp only[run]at hrun
        exact hq _ _ (hk m β stk fr bx nx a w (by omega) hsz hrel hsk hrun)
    |succ fuel ih=>
      intro p m' L a w β stk fr bx nx hs hcl hcnt hp hL hm' hsz hrel hsk hrun
      refine⟨fun hnil=> ?_,fun i hi=> ?_⟩
      ·have:∃i,i<ops.size/\L.getD i false=false:=by
         apply Classical.byContradiction
         intro hno
         have h0:cnt L ops.size=0:=by
           unfold cnt
           rw[List.countP_eq_zero]
           intro k hk'
           cases hlk:L.getD k false
           ·exact absurd ⟨k,by simpa using hk',hlk⟩ hno
           simp
         omega
       exact absurd hnil (hsomeready L hs this)
      obtain⟨h1,h2,h3⟩:=hready L i hs hcl hi
      have hip:i=p:=by
        have h4:¬i<p:=fun h=>by rw[(hL i h1).2 h]at h2;cases h2
        rcases Nat.lt_or_ge p i with h|h
        ·have:=h3 p (hD.tail i (by omega) (by simpa using h1) p h)
         have:=(hL p (by omega)).1 this
         omega
        omega
      subst hip
      obtain⟨o,g1,g2,g3,g4⟩:=hg i h1
      have hdrop:l.drop i=AO i::l.drop (i+1):=by
        obtain⟨hlt,hge⟩:=List.getElem?_eq_some_iff.1 g2
        rw[List.drop_eq_getElem_cons hlt,hge]
      rw[hdrop]at hrun
      cases m' with
      |zero=>simp[run]at hrun
      |succ m'=>
        have hcnt':cnt (L.setIfInBounds i true) ops.size=fuel:=by
          have:=I1 (listed:=L) (i:=i) (by omega) h2 ops.size
          rw[if_pos h1]at this
          omega
        have hL':∀k,k<ops.size->((L.setIfInBounds i true).getD k false=true↔k<i+1):=by
          intro k hk'
          rw[hset L i (by omega)]
          by_cases hki:k=i
          ·subst hki;simp
          rw[if_neg hki,hL k hk'];omega
        unfold wpOpIn
        rw[g1]
        refine PZ (ro:=ro) (Q:=Q) (n:=m') he (fun m'' hm''=>IH m'' (by omega)) g3 hsz hrel hsk (l:=l.drop (i+1)) (K:=K) (res:=res) ?_ (fun hcp m2 β2 stk2 fr2 bx2 nx2 a2 w2 T k z h1 h2 h3 h4 h5 h6=>hpan ⟨_,List.mem_of_getElem? (i:=i-d) (by rw[List.getElem?_drop,show d+(i-d)=i by omega];exact g2),hcp⟩ m2 β2 stk2 fr2 bx2 nx2 a2 w2 T k z (by omega) h2 h3 h4 h5 h6) (fun hx=>absurd hx (Z8 hd _ (List.mem_of_getElem? g2))) hrun
        intro m'' β' stk' fr' bx' nx' a' w' hm'' hsz' hrel' hsk' hrun'
        exact ih (i+1) m'' (L.setIfInBounds i true) a' w' β' stk' fr' bx' nx' (by simp[hs]) (hclset L i hs hcl hi) hcnt' (by omega) hL' (by omega) hsz' hrel' hsk' hrun'
  -- the state while some are listed
  let Dm:Array Bool->Nat->Nat->Prop:=fun L p t=>∃q,q<p/\L.getD (O q) false=false/\(AO (O q)).dst=some t
  let Nm:Array Bool->Nat->Bn->Prop:=fun L p b=>∃q,q<p/\L.getD (O q) false=false/\NX (q+1)≠NX q/\b=NX q
  let Inv:Array Bool->Nat->Act->World->Prop:=fun L p a w=>FQ nt ds a/\(∃β mf mb,AL P A0 w0 β (ST p) as mf mb (NX p) a w/\Jd (Dm L p) (FR p) mf/\DI (Nm L p) (BX p) mb)/\
    ∀q,q<p->L.getD (O q) false=false->D6 (AO (O q)).op=true/\Oc E (AO (O q)) (FR p) (BX p) (NX q) (NX (q+1))
  have hext:∀(L:Array Bool) p a w,p<d->D6 (AO (O p)).op=true->L.getD (O p) false=false->Inv L p a w->Inv L (p+1) a w:=by
    rintro L p a w hp hs hu ⟨i1,⟨β,mf,mb,hr,hM,hB⟩,hG⟩
    have hstep:=hS p hp
    obtain⟨hst',v,hfr,_⟩:=Gr hstep hs
    obtain⟨_,_,hbne,hbnn,hnx⟩:=Il hstep hs (hnn p (by omega))
    refine⟨i1,⟨β,Ai mf (AO (O p)).dst .und,mb,by rw[hst'];exact(hr.putU _).more (hmon1 p hp),fun t=> ?_,fun b=> ?_⟩,fun q hq hlq=> ?_⟩
    ·rw[AV]
     refine⟨fun ht=> ?_,fun ht=> ?_⟩
     ·obtain⟨q,hq,h1,h2⟩:=ht
      split
      ·rfl
      rename_i hne
      refine(hM t).1 ⟨q,?_,h1,h2⟩
      by_cases e:q=p
      ·subst e;exact absurd h2 hne
      omega
     have hne:(AO (O p)).dst≠some t:=fun e=>ht ⟨p,by omega,hu,e⟩
     rw[if_neg hne,hfr,AV,if_neg hne]
     exact(hM t).2 fun⟨q,hq,h1,h2⟩=>ht ⟨q,by omega,h1,h2⟩
    ·refine⟨fun hb=> ?_,fun hb=> ?_⟩
     ·obtain⟨q,hq,h1,h2,rfl⟩:=hb
      by_cases e:q=p
      ·subst e
       cases hbb:Ab mb (NX q)with
       |none=>rfl
       |some c=>exact absurd (hr.mem.nx _ c hbb) (Nat.lt_irrefl _)
      exact(hB _).1 ⟨q,by omega,h1,h2,rfl⟩
     by_cases e:b=NX p
     ·subst e
      have hnx1:NX (p+1)=NX p:=by
        apply Classical.byContradiction
        intro h;exact hb ⟨p,by omega,hu,h,rfl⟩
      rw[hbnn hnx1]
      cases hbb:Ab mb (NX p)with
      |none=>rfl
      |some c=>exact absurd (hr.mem.nx _ c hbb) (Nat.lt_irrefl _)
     rw[hbne b e]
     exact(hB b).2 fun⟨q,hq,h1,h2,h3⟩=>hb ⟨q,by omega,h1,h2,h3⟩
    by_cases e:q=p
    ·subst e
     have hgb:=R7 hstep hs (hnn q (by omega)) (hD.own q hp)
     exact⟨hs,hgb⟩
    obtain⟨h1,h2⟩:=hG q (by omega) hlq
    refine⟨h1,Rd h2 hstep hs (hnn p (by omega)) fun t ht=>⟨hD.rd q p (by omega) hp t ht,fun e'=>e (huniq q p t (by omega) hp e' ht)⟩⟩
  have hexts:∀(k:Nat) (L:Array Bool) p a w,d-p=k->p<=d->(∀q,p<=q->q<d->L.getD (O q) false=false)->Inv L p a w->∃p',p<=p'/\p'<=d/\(p'<d->D6 (AO (O p')).op=false)/\Inv L p' a w:=by
    intro k
    induction k with
    |zero=>intro L p a w hk hp _ hI;exact⟨p,Nat.le_refl _,hp,fun h=>by omega,hI⟩
    |succ k ih=>
      intro L p a w hk hp hu hI
      cases hs:D6 (AO (O p)).op with
      |false=>exact⟨p,Nat.le_refl _,hp,fun _=>hs,hI⟩
      |true=>
        obtain⟨p',h1,h2,h3,h4⟩:=ih L (p+1) a w (by omega) (by omega) (fun q hq=>hu q (by omega)) (hext L p a w (by omega) hs (hu p (Nat.le_refl _) (by omega)) hI)
        exact⟨p',by omega,h2,h3,h4⟩
  let FI:Array Bool->Act->World->Prop:=fun L a w=>∃p,p<=d/\(p<d->D6 (AO (O p)).op=false)/\(∀q,p<=q->q<d->L.getD (O q) false=false)/\Inv L p a w
  have toRel:∀(L:Array Bool) (a:Act) (w:World),FI L a w->(∀k,k<d->L.getD k false=true)->∃β,AL P A0 w0 β (ST d) as (FR d) (BX d) (NX d) a w:=by
    rintro L a w ⟨p,hp,_,hu,_,⟨β,mf,mb,hr,hM,hB⟩,_⟩ hall
    have hpd:p=d:=by
      rcases Nat.lt_or_ge p d with h|h
      ·have:=hu p (Nat.le_refl _) h
       rw[hall (O p) (hD.lt p h)]at this;cases this
      omega
    subst hpd
    refine⟨β,hr.congr (fun t=>((hM t).2 fun⟨q,hq,h1,_⟩=>by rw[hall (O q) (hD.lt q hq)]at h1;cases h1).symm) (funext fun b=>((hB b).2 fun⟨q,hq,h1,_⟩=>by rw[hall (O q) (hD.lt q hq)]at h1;cases h1).symm)⟩
  have phase1:∀(fuel:Nat) (L:Array Bool) (a:Act) (w:World),L.size=ops.size->CL L->cnt L ops.size=fuel->(∀i,d<=i->i<ops.size->L.getD i false=false)->FI L a w->wpAnyIn (FW ro) 0 P .any ops Q fuel L a w:=by
    intro fuel
    induction fuel with
    |zero=>
      intro L a w hs hcl hcnt hL hinv
      have hall:=Hh hcnt
      obtain⟨β,hr⟩:=toRel L a w hinv fun k hk'=>hall k (by omega)
      obtain⟨_,_,_,_,hsz',_⟩:=hinv
      refine phase2 0 d m0 L a w β (ST d) (FR d) (BX d) (NX d) hs hcl hcnt (Nat.le_refl _) (fun i hi=>⟨fun h=> ?_,fun _=>hall i hi⟩) hm0 hsz' hr (hskST d (Nat.le_refl _)) htail
      rcases Nat.lt_or_ge i d with h'|h'
      ·exact h'
      rw[hL i h' hi]at h;cases h
    |succ fuel ih=>
      intro L a w hs hcl hcnt hL hinv
      by_cases hall:∀k,k<d->L.getD k false=true
      ·obtain⟨β,hr⟩:=toRel L a w hinv hall
       obtain⟨_,_,_,_,hsz',_⟩:=hinv
       refine phase2 (fuel+1) d m0 L a w β (ST d) (FR d) (BX d) (NX d) hs hcl hcnt (Nat.le_refl _) (fun i hi=>⟨fun h=> ?_,fun h=>hall i h⟩) hm0 hsz' hr (hskST d (Nat.le_refl _)) htail
       rcases Nat.lt_or_ge i d with h'|h'
       ·exact h'
       rw[hL i h' hi]at h;cases h
      have hex:∃k,k<d/\L.getD k false=false:=by
        apply Classical.byContradiction
        intro hno
        refine hall fun k hk'=> ?_
        cases hlk:L.getD k false
        ·exact absurd ⟨k,hk',hlk⟩ hno
        rfl
      obtain⟨k0,hk0,hlk0⟩:=hex
      refine⟨fun hnil=>absurd hnil (hsomeready L hs ⟨k0,by omega,hlk0⟩),fun i hi=> ?_⟩
      obtain⟨h1,h2,h3⟩:=hready L i hs hcl hi
      have hid:i<d:=by
        rcases Nat.lt_or_ge i d with h|h
        ·exact h
        rw[h3 k0 (hD.tail i h (by simpa using h1) k0 (by omega))]at hlk0;cases hlk0
      obtain⟨o,g1,g2,g3,g4⟩:=hg i h1
      obtain⟨s1,s2,s3,s4⟩:=AX g3
      have hcnt':cnt (L.setIfInBounds i true) ops.size=fuel:=by
        have:=I1 (listed:=L) (i:=i) (by omega) h2 ops.size
        rw[if_pos h1]at this
        omega
      have hgoon:∀a' w',FI (L.setIfInBounds i true) a' w'->wpAnyIn (FW ro) 0 P .any ops Q fuel (L.setIfInBounds i true) a' w':=fun a' w' hinv'=>
        ih _ a' w' (by simp[hs]) (hclset L i hs hcl hi) hcnt' (fun k h4 h5=>by rw[hset L i (by omega),if_neg (by omega)];exact hL k h4 h5) hinv'
      obtain⟨p,hp,hpe,hpu,hsz',⟨β,mf,mb,hr,hM,hB⟩,hG⟩:=hinv
      obtain⟨q,hqd,hqi⟩:=hD.sur i hid
      have hOq:O q=i:=hqi
      have hun:∀t,(t∈Fg o\/(Oz ops.toList).getD i none=some t)->¬Dm L p t:=by
        rintro t ht ⟨q',hq',hl,hdt⟩
        obtain⟨x,hx,_,_,hdx⟩:=hg (O q') (hOlt q' (by omega))
        have:=hD.anti (O q') i t o (hD.lt q' (by omega)) hid (by simp only[show ops.toList[O q']?=some x from by simpa using hx,Option.bind_some];rw[<-hdx];exact hdt) (by simpa using g1) ht
        rw[h3 _ this]at hl;cases hl
      have hgs:∀t wt,(AO i).guard=some (t,wt)->(Oz ops.toList).getD i none=some t:=by
        intro t wt hgt
        have:ops.toList[i]?=some o:=by simpa using g1
        simp only[Oz,List.getD_eq_getElem?_getD,List.getElem?_map,this,Option.map_some,s2,hgt,Option.getD_some]
      have hguard:∀t wt,(AO i).guard=some (t,wt)->Ar A0 w0 β (Ab mb) w (Au (FR p) t) (a.tmps.getD t undef):=by
        intro t wt h
        rw[<-(hM t).2 (hun t (.inr (hgs t wt h)))]
        exact hr.fr t
      have hdl:∀s,o.dst=some s->s<a.tmps.size:=fun s hs'=>Nat.lt_of_lt_of_le (s4 s hs') hsz'.1
      have hpd':∀q',q'<d->q'≠q->(L.setIfInBounds i true).getD (O q') false=L.getD (O q') false:=by
        intro q' hq' hne
        rw[hset L i (by omega),if_neg]
        intro e
        rcases Nat.lt_trichotomy q' q with h|h|h
        ·exact hD.ne q' q h hqd (e.trans hOq.symm)
        ·exact hne h
        exact hD.ne q q' h hq' (hOq.trans e.symm)
      unfold wpOpIn
      rw[g1]
      simp only
      rcases Nat.lt_or_ge q p with hqp|hqp
      · -- it stores nothing,and may be late
        have hlq:L.getD (O q) false=false:=by rw[hOq];exact h2
        obtain⟨hsf,hgood⟩:=hG q hqp hlq
        rw[hOq]at hsf hgood
        -- behind it
        have hback:∀β1 v new nm x w1,AL P A0 w0 β1 (ST p) as (Ai mf o.dst v) (CX nm new mb) (NX p) (a.put o.dst x) w1->(∀t,o.dst=some t->Au (FR p) t=v)->(∀c,new=some c->nm=NX q/\Ab (BX p) nm=some c/\NX (q+1)≠NX q)->(new=none->NX (q+1)=NX q)->FI (L.setIfInBounds i true) (a.put o.dst x) w1:=by
          intro β1 v new nm x w1 hr1 hv hn1 hn2
          refine⟨p,hp,hpe,fun q' h4 h5=>by rw[hpd' q' h5 (by omega)];exact hpu q' h4 h5,hsz'.put,⟨β1,_,_,hr1,?_,?_⟩,fun q' h4 h5=> ?_⟩
          ·refine hM.un (fun t=>⟨?_,?_⟩) (fun t ht=> ?_) hv
           ·rintro⟨q',h4,h5,h6⟩
            by_cases e:q'=q
            ·subst e;rw[hOq,g4]at h6;exact .inr h6
            exact .inl ⟨q',h4,by rw[hpd' q' (by omega) e];exact h5,h6⟩
           ·rintro(⟨q',h4,h5,h6⟩|ht)
            ·by_cases e:q'=q
             ·subst e;rw[hOq,hset L i (by omega),if_pos rfl]at h5;cases h5
             exact⟨q',h4,by rw[hpd' q' (by omega) e]at h5;exact h5,h6⟩
            exact⟨q,hqp,hlq,by rw[hOq,g4];exact ht⟩
           rintro⟨q',h4,h5,h6⟩
           have e:q'=q:=huniq q' q t (by omega) hqd h6 (by rw[hOq,g4];exact ht)
           subst e;rw[hOq,hset L i (by omega),if_pos rfl]at h5;cases h5
          ·refine hB.un (fun b=>⟨?_,?_⟩) (fun c hc'=> ?_) (fun c hc'=>(hn1 c hc').2.1)
           ·rintro⟨q',h4,h5,h6,rfl⟩
            by_cases e:q'=q
            ·subst e
             cases hnn':new with
             |none=>exact absurd (hn2 hnn') h6
             |some c=>exact .inr ⟨⟨c,rfl⟩,congrArg Bn.n (hn1 c hnn').1.symm⟩
            exact .inl ⟨q',h4,by rw[hpd' q' (by omega) e];exact h5,h6,rfl⟩
           ·rintro(⟨q',h4,h5,h6,rfl⟩|⟨⟨c,hc'⟩,rfl⟩)
            ·by_cases e:q'=q
             ·subst e;rw[hOq,hset L i (by omega),if_pos rfl]at h5;cases h5
             exact⟨q',h4,by rw[hpd' q' (by omega) e]at h5;exact h5,h6,rfl⟩
            exact⟨q,hqp,hlq,(hn1 c hc').2.2,congrArg Bn.n (hn1 c hc').1⟩
           rintro⟨q',h4,h5,h6,h7⟩
           rw[(hn1 c hc').1]at h7
           replace h7:=Bn.n.inj h7
           have e:q'=q:=by
             rcases Nat.lt_trichotomy q' q with h|h|h
             ·have:=hmon (q'+1) q (by omega) (by omega);have:=hmon1 q' (by omega);omega
             ·exact h
             have:=hmon (q+1) q' (by omega) (by omega);have:=hmon1 q (by omega);have:=(hn1 c hc').2.2;omega
           subst e;rw[hOq,hset L i (by omega),if_pos rfl]at h5;cases h5
          have hne:q'≠q:=fun e=>by subst e;rw[hOq,hset L i (by omega),if_pos rfl]at h5;cases h5
          exact hG q' h4 (by rw[hpd' q' (by omega) hne]at h5;exact h5)
        rcases hgood with⟨k1,k2,k3⟩|⟨k1,k2,k3,k4,k5⟩
        ·rw[Fj (A:=Al A0 w0 (Ab mb) β) (B:=Ab mb) (β:=β) (w:=w) s2 hguard k1]
         simp only[Bool.not_true,Bool.false_eq_true,if_false]
         refine⟨fun _ _=>trivial,hgoon _ _ (hback β (.tup .nil) none 0 undef w (hr.void o.dst hdl) (fun t ht=>k2 t (by rw[g4];exact ht)) (fun c h=>by cases h) fun _=>k3)⟩
        rw[Fj (A:=Al A0 w0 (Ab mb) β) (B:=Ab mb) (β:=β) (w:=w) s2 hguard k1]
        simp only[Bool.not_false,if_true]
        have hsub:∀b c,Ab mb b=some c->Ab (BX p) b=some c:=fun b c hb=>(hB.ofSome hb).2
        have hnm:∃nm:Nat,Ab mb nm=none/\(∀c,(AF E (FR p) (BX p) (NX q) (AO i).op).new=some c->nm=NX q)/\AF E (FR p) (BX p) nm (AO i).op=AF E (FR p) (BX p) (NX q) (AO i).op:=by
          cases hn:(AF E (FR p) (BX p) (NX q) (AO i).op).new with
          |none=>
            refine⟨NX p,?_,(fun c h=>by cases h),U4 _ hn⟩
            cases hbb:Ab mb (NX p)with
            |none=>rfl
            |some c=>exact absurd (hr.mem.nx _ c hbb) (Nat.lt_irrefl _)
          |some c=>exact⟨NX q,(hB _).1 ⟨q,hqp,hlq,by have:=(k4 c hn).2;omega,rfl⟩,fun _ _=>rfl,rfl⟩
        obtain⟨nm,hnm1,hnm2,hnm3⟩:=hnm
        refine P2 (E:=E) (fr:=FR p) (bx:=BX p) (nx:=nm) s1 hr.mem hnm1 hsub he.G he.S (fun x hx=>Vp he hr.mem fun t ht=> ?_) (by rw[hnm3];exact k2) fun x w1 β1 hs' hv'=> ?_
        ·subst ht
         rw[<-(hM t).2 (hun t (.inl (by simp only[Fg,List.mem_filterMap];exact⟨.tmp t,hx,rfl⟩)))]
         exact hr.fr t
        rw[hnm3]at hs' hv'
        refine hgoon _ _ (hback β1 (AF E (FR p) (BX p) (NX q) (AO i).op).v (AF E (FR p) (BX p) (NX q) (AO i).op).new nm x w1 (hr.softN hnm1 (fun c hc'=> ?_) hs' hv' o.dst hdl) (fun t ht=>k3 t (by rw[g4];exact ht)) (fun c hc'=>⟨hnm2 c hc',by rw[hnm2 c hc'];exact(k4 c hc').1,by have:=(k4 c hc').2;omega⟩) k5)
        rw[hnm2 c hc']
        have:=(k4 c hc').2
        have:=hmon (q+1) p (by omega) hp
        omega
      -- it is the next effect
      have hqe:q=p:=by
        rcases Nat.lt_or_ge p q with h|h
        ·have:=hD.eff p q h hqd (hpe (by omega))
         rw[show ord.getD q 0=i from hqi]at this
         have h5:=h3 _ this
         have h6:=hpu p (Nat.le_refl _) (by omega)
         rw[show ord.getD p 0=O p from rfl,h6]at h5;cases h5
        omega
      subst hqe
      have heff:D6 (AO i).op=false:=by rw[<-hOq];exact hpe hqd
      have hstep:=hS q hqd
      rw[hOq]at hstep
      -- behind it
      have hDm:∀t,Dm (L.setIfInBounds i true) (q+1) t↔Dm L q t:=by
        intro t
        constructor
        ·rintro⟨q',h4,h5,h6⟩
         by_cases e:q'=q
         ·subst e;rw[hOq,hset L i (by omega),if_pos rfl]at h5;cases h5
         exact⟨q',by omega,by rw[hpd' q' (by omega) e]at h5;exact h5,h6⟩
        rintro⟨q',h4,h5,h6⟩
        exact⟨q',by omega,by rw[hpd' q' (by omega) (by omega)];exact h5,h6⟩
      have hNm:∀b,Nm (L.setIfInBounds i true) (q+1) b↔Nm L q b:=by
        intro t
        constructor
        ·rintro⟨q',h4,h5,h6⟩
         by_cases e:q'=q
         ·subst e;rw[hOq,hset L i (by omega),if_pos rfl]at h5;cases h5
         exact⟨q',by omega,by rw[hpd' q' (by omega) e]at h5;exact h5,h6⟩
        rintro⟨q',h4,h5,h6⟩
        exact⟨q',by omega,by rw[hpd' q' (by omega) (by omega)];exact h5,h6⟩
      have hback:∀β1 a1 w1 mf1 mb1,FQ nt ds a1->AL P A0 w0 β1 (ST (q+1)) as mf1 mb1 (NX (q+1)) a1 w1->Jd (Dm L q) (FR (q+1)) mf1->DI (Nm L q) (BX (q+1)) mb1->
          (∀q',q'<q->L.getD (O q') false=false->Oc E (AO (O q')) (FR (q+1)) (BX (q+1)) (NX q') (NX (q'+1)))->FI (L.setIfInBounds i true) a1 w1:=by
        intro β1 a1 w1 mf1 mb1 hz1 hr1 hM1 hB1 hG1
        have hu':∀q',q+1<=q'->q'<d->(L.setIfInBounds i true).getD (O q') false=false:=fun q' h4 h5=>by rw[hpd' q' h5 (by omega)];exact hpu q' (by omega) h5
        obtain⟨p',h4,h5,h6,h7⟩:=hexts (d-(q+1)) (L.setIfInBounds i true) (q+1) a1 w1 rfl (by omega) hu' ⟨hz1,⟨β1,mf1,mb1,hr1,fun t=>by rw[hDm t];exact hM1 t,fun b=>by rw[hNm b];exact hB1 b⟩,fun q' h8 h9=>by
          have hne:q'≠q:=fun e=>by subst e;rw[hOq,hset L i (by omega),if_pos rfl]at h9;cases h9
          have h10:L.getD (O q') false=false:=by rw[hpd' q' (by omega) hne]at h9;exact h9
          exact⟨(hG q' (by omega) h10).1,hG1 q' (by omega) h10⟩⟩
        exact⟨p',h5,h6,fun q' h8 h9=>hu' q' (by omega) h9,h7⟩
      have hgoodrd:∀q',q'<q->∀t,(AO i).dst=some t->t∉NU (AO (O q')).op++NY (AO (O q')).guard/\(AO (O q')).dst≠some t:=by
        intro q' h4 t ht
        refine⟨hD.rd q' q h4 hqd t (by show(AO (O q)).dst=some t;rw[hOq];exact ht),fun e=> ?_⟩
        have:=huniq q' q t (by omega) hqd e (by rw[hOq];exact ht)
        omega
      by_cases hskip:A9 (FR q) (AO i).guard=some true
      ·have hst':FR (q+1)=Ai (FR q) (AO i).dst (.tup .nil)/\BX (q+1)=BX q/\NX (q+1)=NX q/\ST (q+1)=ST q:=by
         generalize hA:FR (q+1)=fA at*
         generalize hBB:BX (q+1)=bA at*
         generalize hNN:NX (q+1)=nA at*
         generalize hSS:ST (q+1)=sA at*
         have hno:∀{p:Prop},A9 (FR q) (AO i).guard=some false->p:=fun h=>by rw[hskip]at h;cases h
         cases hstep with
         |skip h=>exact⟨rfl,rfl,rfl,rfl⟩
         |soft h _ _=>exact hno h
         |store h=>exact hno h
         |storeR h=>exact hno h
         |appN h=>exact hno h
         |appT h=>exact hno h
         |appO h=>exact hno h
         |appM h=>exact hno h
         |msetZ h=>exact hno h
         |calN h=>exact hno h
         |calX h=>exact hno h
         |mset h=>exact hno h
       obtain⟨f1,f2,f3,f4⟩:=hst'
       rw[Fj (A:=Al A0 w0 (Ab mb) β) (B:=Ab mb) (β:=β) (w:=w) s2 hguard hskip]
       simp only[Bool.not_true,Bool.false_eq_true,if_false]
       have hdm:∀t,o.dst=some t->¬Dm L q t:=by
         rintro t ht ⟨q',h4,h5,h6⟩
         have:=huniq q' q t (by omega) hqd h6 (by rw[hOq,g4];exact ht)
         omega
       refine⟨fun _ _=>trivial,hgoon _ _ (hback β _ w (Ai mf o.dst (.tup .nil)) mb hsz'.put (by rw[f3,f4];exact hr.void o.dst hdl) ?_ (by rw[f2];exact hB) fun q' h4 h5=> ?_)⟩
       ·rw[f1,g4];exact hM.put _ hdm _
       have hgq:=(hG q' h4 h5).2
       have hr1:∀t∈NU (AO (O q')).op++NY (AO (O q')).guard,Au (FR (q+1)) t=Au (FR q) t:=by
         intro t ht
         rw[f1,AV,if_neg fun e=>(hgoodrd q' h4 t e).1 ht]
       have hd1:∀t,(AO (O q')).dst=some t->Au (FR (q+1)) t=Au (FR q) t:=by
         intro t ht
         rw[f1,AV,if_neg fun e=>(hgoodrd q' h4 t e).2 ht]
       have hsk':=GW (fr:=FR (q+1)) (fr':=FR q) (g:=(AO (O q')).guard) fun t ht=>hr1 t (List.mem_append.2 (.inr ht))
       have ha':∀nm,AF E (FR (q+1)) (BX (q+1)) nm (AO (O q')).op=AF E (FR q) (BX q) nm (AO (O q')).op:=fun nm=>by
         rw[f2];exact Gs _ fun t ht=>hr1 t (List.mem_append.2 (.inl ht))
       rcases hgq with⟨k1,k2,k3⟩|⟨k1,k2,k3,k4,k5⟩
       ·exact .inl ⟨by rw[hsk'];exact k1,fun t ht=>by rw[hd1 t ht];exact k2 t ht,k3⟩
       exact .inr ⟨by rw[hsk'];exact k1,by rw[ha'];exact k2,fun t ht=>by rw[hd1 t ht,ha'];exact k3 t ht,fun c hc'=>by rw[ha']at hc';rw[f2];exact k4 c hc',fun hn=>by rw[ha']at hn;exact k5 hn⟩
      have hskip':A9 (FR q) (AO i).guard=some false:=by
        have hyes:∀{p:Prop},A9 (FR q) (AO i).guard=some true->p:=fun h=>absurd h hskip
        generalize hA:FR (q+1)=fA at*
        generalize hBB:BX (q+1)=bA at*
        generalize hNN:NX (q+1)=nA at*
        generalize hSS:ST (q+1)=sA at*
        cases hstep with
        |skip h=>exact hyes h
        |soft h _ _=>exact h
        |store h=>exact h
        |storeR h=>exact h
        |appN h=>exact h
        |appT h=>exact h
        |appO h=>exact h
        |appM h=>exact h
        |msetZ h=>exact h
        |calN h=>exact h
        |calX h=>exact h
        |mset h=>exact h
      rw[Fj (A:=Al A0 w0 (Ab mb) β) (B:=Ab mb) (β:=β) (w:=w) s2 hguard hskip']
      simp only[Bool.not_false,if_true]
      refine Z7 (ao:={AO i with re:=reL l m ord q i}) (ao0:=AO i) (nt:=nt) (sk:=sk) he g3 rfl rfl hsz' hr (hskST q (by omega)) hM hB (fun t ht=>hun t (.inl ht)) ?_ ?_ hstep hskip' heff ?_
      ·rintro t ht ⟨q',h4,h5,h6⟩
       have:=huniq q' q t (by omega) hqd h6 (by rw[hOq,g4];exact ht)
       omega
      ·rintro⟨q',h4,h5,h6,h7⟩
       replace h7:=Bn.n.inj h7
       have:=hmon (q'+1) q (by omega) (by omega)
       have:=hmon1 q' (by omega)
       omega
      intro β1 a1 w1 mf1 mb1 hz1 hr1 hM1 hB1 hact hre hsk1
      refine hgoon _ _ (hback β1 a1 w1 mf1 mb1 hz1 hr1 hM1 hB1 fun q' h4 h5=> ?_)
      obtain⟨hsq,hgq⟩:=hG q' h4 h5
      have hah:BH m (O q') (O q)=false:=by
        cases hx:BH m (O q') (O q)with
        |false=>rfl
        |true=>rw[hOq]at hx;rw[h3 _ hx]at h5;cases h5
      refine Us (ao2:=AO i) hgq hsq (fun t ht=> ?_) (fun hmkb hnx=>hact.2 _ ⟨q',h4,h5,hnx,rfl⟩) (hgoodrd q' h4) (fun hmkb=>hD.mkb q' q h4 hqd hsq (hpe hqd) hah hmkb) (fun hmkb=> ?_)
      ·rcases hact.1 t ht with e|⟨b,⟨c,hb⟩,e⟩
       ·exact .inl e
       refine .inr ⟨b,fun hmkb hnx e'=> ?_,e⟩
       subst e'
       rw[(hB _).1 ⟨q',h4,h5,hnx,rfl⟩]at hb;cases hb
      have hah':BH m (ord.getD q' 0) i=false:=by rw[<-hOq];exact hah
      have:=Wd (l:=l) (m:=m) (ord:=ord) (p:=q) (q:=q') (i:=i) h4 (by rw[hD.len];omega) hsq hmkb hah' heff
      exact T2 hre this
  have hrep:∀k,(Array.replicate ops.size false).getD k false=false:=by
    intro k
    simp only[Array.getD_eq_getD_getElem?]
    by_cases h:k<ops.size
    ·simp[h]
    simp[h]
  refine phase1 ops.size _ a w (by simp) ?_ ?_ (fun i _ _=>hrep i) ?_
  ·intro j o ho hj;rw[hrep]at hj;cases hj
  ·unfold cnt
   rw[List.countP_eq_length.2 (fun k _=>by rw[hrep];rfl)]
   simp
  obtain⟨p',_,h2,h3,h4⟩:=hexts (d-0) (Array.replicate ops.size false) 0 a w rfl (Nat.zero_le _) (fun q _ _=>hrep _) ⟨hsz,⟨β,fr,bx,by rw[e4,e3];exact hrel,fun t=>⟨fun⟨q,hq,_⟩=>absurd hq (Nat.not_lt_zero _),fun _=>by rw[e1]⟩,fun b=>⟨fun⟨q,hq,_⟩=>absurd hq (Nat.not_lt_zero _),fun _=>by rw[e2]⟩⟩,fun q hq=>absurd hq (Nat.not_lt_zero _)⟩
  exact⟨p',h2,h3,fun q _ _=>hrep _,h4⟩
end Go.Proofs.YtlieoghhkioflaaGreat
/- The engine,part 20g: what operations of a drawn region look at. No condition. -/
namespace Go.Proofs.YtlieoghhkioflaaGreat
open Go Go.RowKit
variable{P:Program}{E:Db}{A0:Nat->Prop}{w0:AW}{Qf:Ad->Bx->Prop}
theorem Ps{a b:Act}{o:Oper}(h:∀t∈Fg o,b.tmps.getD t undef=a.tmps.getD t undef):∀x∈o.op.operands,b.eval x=a.eval x:=by
 intro x hx
 cases x with
 |tmp t=>exact h t (by simp only[Fg,List.mem_filterMap];exact⟨.tmp t,by simpa using hx,rfl⟩)
 |const v=>rfl
 |global g=>rfl
 |func f=>rfl
theorem Ik(a:Act)(d:Option Tmp)(v:Value)(t:Nat):(a.put d v).tmps.getD t undef=if d=some t/\t<a.tmps.size then v else a.tmps.getD t undef:=by
 cases d with
 |none=>simp[Act.put]
 |some d=>
  simp only[Act.put,Array.getD_eq_getD_getElem?,Option.some.injEq]
  by_cases h:d=t
  ·subst h
   by_cases h2:d<a.tmps.size
   ·simp[h2]
   simp[h2]
  rw[Array.getElem?_setIfInBounds_ne h,if_neg (fun e=>h e.1)]
def UP(ops:Array Oper)(o:Oper):Option Nat:=match o.guard with
 |none=>none
 |some (g,_)=>(ops[g]?).bind (·.dst)
theorem LB{ops:Array Oper}{o:Oper}{a b:Act}(hsz:b.tmps.size=a.tmps.size)(h:∀t,UP ops o=some t->b.tmps.getD t undef=a.tmps.getD t undef):Region.wanted o (yielded ops b.tmps)=Region.wanted o (yielded ops a.tmps):=by
 unfold Region.wanted
 cases hg:o.guard with
 |none=>rfl
 |some gw=>
  obtain⟨g,want⟩:=gw
  have hy:yielded ops b.tmps g=yielded ops a.tmps g:=by
   unfold yielded
   cases ht:(ops[g]?).bind (·.dst)with
   |none=>rfl
   |some t=>
    have:=h t (by simp only[UP,hg,ht])
    simp only[Array.getD_eq_getD_getElem?]at this
    simp only[Option.bind_some]
    by_cases hlt:t<a.tmps.size
    ·have hb:t<b.tmps.size:=by rw[hsz];exact hlt
     rw[Array.getElem?_eq_getElem hlt,Array.getElem?_eq_getElem hb]at this
     rw[Array.getElem?_eq_getElem hlt,Array.getElem?_eq_getElem hb]
     simp only[Option.getD_some]at this
     rw[this]
    have ha:a.tmps.size<=t:=Nat.le_of_not_lt hlt
    have hb:b.tmps.size<=t:=by rw[hsz];exact ha
    rw[Array.getElem?_eq_none ha,Array.getElem?_eq_none hb]
  simp only[hy]
theorem VG(ops:Array Oper)(o:Oper):TQ ops.toList o=UP ops o:=by
 unfold TQ UP;cases o.guard<;>simp
end Go.Proofs.YtlieoghhkioflaaGreat
/- The engine,part 20h: an assignment in a region of free order may as well come behind all ahead of it in the text,if nobody waits for it. No condition. -/
namespace Go.Proofs.YtlieoghhkioflaaGreat
open Go Go.RowKit
variable{a:Act}{ops:Array Oper}{Q:Exit->Act->World->Prop}{k:Nat}{ro:Option Nat}{w:World}
theorem QQ(k:Nat):∀(l:List Oper) (i j:Nat),(F3 k i l)[j]?=(l[j]?).map fun o=>if i+j=k then Lb k o else o:=by
 intro l;induction l with
 |nil=>intro i j;rfl
 |cons o l ih=>
  intro i j
  cases j with
  |zero=>simp[F3]
  |succ j=>simp only[F3,List.getElem?_cons_succ,ih];rw[show i+1+j=i+(j+1) by omega]
theorem Rm(k:Nat):∀(l:List Oper) (i:Nat),(F3 k i l).length=l.length:=by
 intro l;induction l with
 |nil=>intro i;rfl
 |cons o l ih=>intro i;simp[F3,ih]
def CF(ops:Array Oper)(k:Nat):Array Oper:=(F3 k 0 ops.toList).toArray
theorem Ii(ops:Array Oper)(k j:Nat):(CF ops k)[j]?=(ops[j]?).map fun o=>if j=k then Lb k o else o:=by
 unfold CF
 rw[List.getElem?_toArray,QQ,Nat.zero_add];simp
theorem GZ(ops:Array Oper)(k:Nat):(CF ops k).size=ops.size:=by simp[CF,Rm]
theorem GK(ops:Array Oper)(k:Nat):yielded (CF ops k)=yielded ops:=by
 funext tm j
 unfold yielded
 rw[Ii]
 cases h:ops[j]? with
 |none=>rfl
 |some o=>
  simp only[Option.map_some,Option.bind_some]
  by_cases e:j=k
  ·rw[if_pos e];rfl
  rw[if_neg e]
variable{P:Program}
theorem KE{o:Oper}{b:Act}{next next':Act->World->Prop}{Qb:Exit->Act->World->Prop}(hQ:∀e a w,Qb e a w->e= .normal)(hsel:∀cs c,o.op≠ .select cs c)(hnd:∀c,o.op≠ .defer c)(he:∀x∈o.op.operands,b.eval x=a.eval x)
  (hn:∀v w',next (b.put o.dst v) w'->next' (a.put o.dst v) w') (hd:∀d w',next ({b with defers:=d::b.defers}.put o.dst undef) w'->next' ({a with defers:=d::a.defers}.put o.dst undef) w')
  (h:o.wpIn (FW ro) 0 P b w next Qb):o.wpIn (FW ro) 0 P a w next' Q:=by
 refine⟨fun _ _=>trivial,?_⟩
 have h:=h.2
 rw[Oper.semAt_eq _ _ _ hnd]at h⊢
 rw[execOp_congr o hsel he]at h
 generalize (execOp a.eval o).run P w=r at*
 cases r with
 |ok x w'=>
  cases x<;>simp only[Oper.uponIn]at h⊢ <;>
   first
    |exact hn _ _ h
    |exact hd _ _ h
    |exact⟨h.1,CallsIn.mono h.2 (fun e w'' he=>by cases e<;>first|exact hn _ _ he|exact absurd (hQ _ _ _ he) (by simp)|(obtain⟨_,_,he⟩:=he;exact absurd (hQ _ _ _ he) (by simp)))⟩
    |exact⟨h.1,RowsIn.mono h.2 (fun _ _ he=>hn _ _ he)⟩
    |exact⟨h.1,RoundIn.mono h.2 (fun e w'' he=>by cases e<;>first|exact hn _ _ he|exact absurd (hQ _ _ _ he) (by simp)|(obtain⟨_,_,he⟩:=he;exact absurd (hQ _ _ _ he) (by simp)))⟩
    |exact h.elim
 |halt x w'=>cases x<;>simp only[Oper.uponIn]at h⊢ <;>first|exact h.elim|exact absurd (hQ _ _ _ h) (by simp)
theorem XT{o:Oper}{x:Operand}{K:Act->World->Prop}(ho:ops[k]?=some o)(hg:o.guard=none)(hx:mvX o.op=some x):
  wpOpIn (FW ro) 0 P ops Q k K a w↔K (a.put o.dst (a.eval x)) w:=by
 have hop:o.op= .move x\/o.op= .assign x:=by
  unfold mvX at hx
  split at hx<;>simp_all
 have hnd:∀c,o.op≠ .defer c:=fun c e=>by rcases hop with h|h<;>rw[h]at e<;>cases e
 have hex:(execOp a.eval o).run P w= .ok (.value (a.eval x)) w:=by rcases hop with h|h<;>simp[execOp,h]
 unfold wpOpIn
 rw[ho]
 simp only[Region.wanted,hg,if_true]
 unfold Oper.wpIn
 rw[Oper.semAt_eq _ _ _ hnd,hex]
 simp only[Oper.uponIn]
 exact⟨fun h=>h.2,fun h=>⟨fun _ _=>trivial,h⟩⟩
theorem Sz{t:Nat}{v:Value}{x:Operand}(h:∀u,x= .tmp u->u≠t):(a.put (some t) v).eval x=a.eval x:=by
 cases x with
 |tmp u=>
  show(a.put (some t) v).tmps.getD u undef=a.tmps.getD u undef
  rw[Ik,if_neg]
  rintro⟨h1,_⟩
  injection h1 with h1
  exact h u rfl h1.symm
 |_=>rfl
theorem T9{Qb:Exit->Act->World->Prop}(hk:Vw ops.toList k=true)(hQ:∀e a w,Qb e a w->e= .normal)(hq:∀a w,Qb .normal a w->Q .normal a w)
  (h:wpAnyIn (FW ro) 0 P .any (CF ops k) Qb ops.size (Array.replicate ops.size false) a w):wpAnyIn (FW ro) 0 P .any ops Q ops.size (Array.replicate ops.size false) a w:=by
 unfold Vw at hk
 simp only at hk
 split at hk
 rotate_left
 ·cases hk
 rename_i ok hok
 simp only[Bool.and_eq_true,Option.isNone_iff_eq_none]at hk
 obtain⟨⟨hg,hafter⟩,hk⟩:=hk
 split at hk
 rotate_left
 ·cases hk
 rename_i t x hdt hx
 have hok:ops[k]?=some ok:=by simpa using hok
 have hkl:k<ops.size:=(Array.getElem?_eq_some_iff.1 hok).1
 generalize hm:Cb [] ops.toList=m at hk
 have hcond:∀j y,ops[j]?=some y->j≠k->(∀cs c,y.op≠ .select cs c)/\(∀c,y.op≠ .defer c)/\y.dst≠some t/\(BH m j k=true\/∀u,x= .tmp u->y.dst≠some u)/\(BH m j k=true\/Kk y k=true\/(t∉Fg y/\UP ops y≠some t))/\(Kk y k=true->∀i,i<k->BH m i j=true):=by
  intro j y hy hne
  have hjl:j<ops.size:=(Array.getElem?_eq_some_iff.1 hy).1
  have:=List.all_eq_true.1 hk j (by simpa using hjl)
  have hy':ops.toList[j]?=some y:=by simpa using hy
  simp only[hy',Bool.or_eq_true,beq_iff_eq,Bool.and_eq_true,bne_iff_ne,ne_eq,Bool.not_eq_true',List.contains_eq_mem,decide_eq_false_iff_not,List.all_eq_true,List.mem_range,VG]at this
  rcases this with e|⟨⟨⟨⟨h1,h2⟩,h3⟩,h4⟩,h5⟩
  ·exact absurd e hne
  refine⟨fun cs c e=> ?_,fun c e=> ?_,h2,?_,?_,fun hkj i hi=> ?_⟩
  ·rw[e]at h1;cases h1
  ·rw[e]at h1;cases h1
  ·rcases h3 with h3|h3
   ·exact .inl h3
   right;intro u e;subst e;simpa using h3
  ·rcases h4 with(h4|h4)|h4
   ·exact .inl h4
   ·exact .inr (.inl h4)
   exact .inr (.inr h4)
  rcases h5 with h5|h5
  ·rw[hkj]at h5;cases h5
  exact h5 i hi
 let CL:Array Bool->Prop:=fun L=>∀j o,ops.toList[j]?=some o->L.getD j false=true->∀e∈o.after.toList,Region.binds .any e=true->L.getD e.on false=true
 have hset:∀(L:Array Bool) i b,i<L.size->∀k,(L.setIfInBounds i b).getD k false=if k=i then b else L.getD k false:=by
  intro L i b hi k
  simp only[Array.getD_eq_getD_getElem?]
  by_cases h:k=i
  ·subst h;simp[hi]
  rw[if_neg h,Array.getElem?_setIfInBounds_ne (fun e=>h e.symm)]
 have hdtf:∀(L:Array Bool) i,L.size=ops.size->i<ops.size->L.getD i true=L.getD i false:=by
  intro L i h1 h2;simp[Array.getD,h1,h2]
 have hready:∀(L:Array Bool) i,L.size=ops.size->CL L->i∈Region.ready .any ops L->i<ops.size/\L.getD i false=false/\∀j,BH m j i=true->L.getD j false=true:=by
  intro L i hs hcl hi
  obtain⟨h1,h2,o,ho,h3⟩:=BZ.1 hi
  refine⟨h1,by rw[<-hdtf L i hs h1];exact h2,fun j hj=> ?_⟩
  exact Ec (L:=fun k=>L.getD k false) hafter hcl i o (by simpa using ho) (fun e he=>h3 e (by simpa using he)) j (by rw[hm];exact hj)
 have hlisted:∀(L:Array Bool) j,CL L->j<ops.size->L.getD j false=true->∀i,BH m i j=true->L.getD i false=true:=by
  intro L j hcl hj hlj i hi
  have h1:ops[j]?=some ops[j]:=Array.getElem?_eq_getElem hj
  exact Ec (L:=fun k=>L.getD k false) hafter hcl j ops[j] (by simp[hj]) (hcl j ops[j] (by simp[hj]) hlj) i (by rw[hm];exact hi)
 have hclset:∀(L:Array Bool) i,L.size=ops.size->CL L->i∈Region.ready .any ops L->CL (L.setIfInBounds i true):=by
  intro L i hs hcl hi j o ho hj e he' hb
  obtain⟨h1,h2,o',ho',h3⟩:=BZ.1 hi
  rw[hset L i true (by omega)]at hj⊢
  by_cases hji:j=i
  ·subst hji
   have:o=o':=by rw[show ops.toList[j]?=ops[j]? from by simp]at ho;rw[ho']at ho;simpa using ho.symm
   subst this
   split
   ·rfl
   exact h3 e (by simpa using he') hb
  rw[if_neg hji]at hj
  split
  ·rfl
  exact hcl j o ho hj e he' hb
 have hsomeready:∀(L:Array Bool),L.size=ops.size->(∃i,i<ops.size/\L.getD i false=false)->Region.ready .any ops L≠[]:=by
  rintro L hs ⟨i,hi,hli⟩ hnil
  have hmin:∀i,i<ops.size->L.getD i false=false->False:=by
   intro i
   induction i using Nat.strongRecOn with
   |_ i ih=>
   intro hi hli
   have:i∈Region.ready .any ops L:=by
    refine BZ.2 ⟨hi,by rw[hdtf L i hs hi];exact hli,ops[i],Array.getElem?_eq_getElem hi,fun e he' hb=> ?_⟩
    cases hle:L.getD e.on false
    ·have hlt:e.on<i:=by
      have:=List.all_eq_true.1 hafter i (by simpa using hi)
      simp only[show ops.toList[i]?=some ops[i]from by simp[hi]]at this
      have:=List.all_eq_true.1 this e (by simpa using he')
      simpa[hb]using this
     exact(ih e.on hlt (by omega) hle).elim
    rfl
   rw[hnil]at this
   cases this
  exact hmin i hi hli
 have hget:∀j,j≠k->(CF ops k)[j]?=ops[j]?:=fun j hj=>by
  rw[Ii];cases ops[j]?<;>simp[hj]
 have hgetk:(CF ops k)[k]?=some (Lb k ok):=by rw[Ii,hok];simp
 have rne:∀(L:Array Bool) j,j≠k->(j∈Region.ready .any (CF ops k) L↔j∈Region.ready .any ops L):=fun L j hj=>by
  rw[BZ,BZ,hget j hj,GZ]
 have rk:∀(L:Array Bool),L.size=ops.size->L.getD k false=false->(∀i,i<k->L.getD i false=true)->k∈Region.ready .any (CF ops k) L:=fun L hs h1 h2=>by
  refine BZ.2 ⟨by rw[GZ];exact hkl,by rw[hdtf L k hs hkl];exact h1,_,hgetk,fun e he _=> ?_⟩
  simp only[Lb,List.mem_toArray,List.mem_map,List.mem_range]at he
  obtain⟨i,hi,rfl⟩:=he
  exact h2 i hi
 have conv:∀(i:Nat) (K K':Act->World->Prop) a w,i≠k->(∀o,ops[i]?=some o->(∀cs c,o.op≠ .select cs c)/\∀c,o.op≠ .defer c)->(∀a w,K' a w->K a w)->wpOpIn (FW ro) 0 P (CF ops k) Qb i K' a w->wpOpIn (FW ro) 0 P ops Q i K a w:=by
  intro i K K' a w hne hsd hK h
  unfold wpOpIn at h⊢
  rw[hget i hne]at h
  cases ho:ops[i]? with
  |none=>rw[ho]at h;exact hK _ _ h
  |some o=>
   rw[ho]at h
   simp only[GK]at h⊢
   split
   ·rename_i hw
    rw[if_pos hw]at h
    exact KE hQ (hsd o ho).1 (hsd o ho).2 (fun _ _=>rfl) (fun _ _ q=>hK _ _ q) (fun _ _ q=>hK _ _ q) h
   rename_i hw
   rw[if_neg hw]at h
   exact⟨h.1,hK _ _ h.2⟩
 have hsd:∀i,i≠k->∀o,ops[i]?=some o->(∀cs c,o.op≠ .select cs c)/\∀c,o.op≠ .defer c:=fun i hi o ho=>⟨(hcond i o ho hi).1,(hcond i o ho hi).2.1⟩
 -- where it is done already,nothing differs
 have S1:∀(n:Nat) (L:Array Bool) (a:Act) (w:World),L.size=ops.size->L.getD k false=true->wpAnyIn (FW ro) 0 P .any (CF ops k) Qb n L a w->wpAnyIn (FW ro) 0 P .any ops Q n L a w:=by
  have hnil:∀(L:Array Bool),L.size=ops.size->L.getD k false=true->(Region.ready .any ops L=[]↔Region.ready .any (CF ops k) L=[]):=by
   intro L hs hl
   rw[List.eq_nil_iff_forall_not_mem,List.eq_nil_iff_forall_not_mem]
   have hk':∀ops':Array Oper,k∉Region.ready .any ops' L:=fun ops' h=>by
    have:=(BZ.1 h).2.1
    rw[hdtf L k hs hkl,hl]at this;cases this
   exact⟨fun h j hj=>by
    by_cases e:j=k
    ·subst e;exact hk' _ hj
    ·exact h j ((rne L j e).1 hj),fun h j hj=>by
    by_cases e:j=k
    ·subst e;exact hk' _ hj
    exact h j ((rne L j e).2 hj)⟩
  intro n;induction n with
  |zero=>intro L a w hs hl h;exact⟨(hnil L hs hl).2 h.1,hq _ _ h.2⟩
  |succ n ih=>
   intro L a w hs hl h
   refine⟨fun hn=>hq _ _ (h.1 ((hnil L hs hl).1 hn)),fun i hi=> ?_⟩
   have hne:i≠k:=fun e=>by
    subst e
    have:=(BZ.1 hi).2.1
    rw[hdtf L i hs hkl,hl]at this;cases this
   refine conv i _ _ a w hne (hsd i hne) (fun a w q=>ih _ a w (by simp[hs]) ?_ q) (h.2 i ((rne L i hne).2 hi))
   rw[hset L i true (by rw[hs];exact(BZ.1 hi).1)]
   split
   ·rfl
   exact hl
 have hdl:∀v (a:Act),(a.put (some t) v).tmps.size=a.tmps.size:=fun v a=>by simp[Act.put]
 have key:∀(n:Nat),(∀(L:Array Bool) (a:Act) (w:World),L.size=ops.size->CL L->cnt L ops.size=n->L.getD k false=false->wpAnyIn (FW ro) 0 P .any (CF ops k) Qb n L a w->wpAnyIn (FW ro) 0 P .any ops Q n L a w)/\
   (∀(L:Array Bool) (a:Act) (w:World),L.size=ops.size->CL L->cnt L ops.size=n->L.getD k false=true->wpAnyIn (FW ro) 0 P .any (CF ops k) Qb (n+1) (L.setIfInBounds k false) a w->wpAnyIn (FW ro) 0 P .any ops Q n L (a.put (some t) (a.eval x)) w):=by
  have back:∀(L:Array Bool),L.size=ops.size->L.getD k false=true->(L.setIfInBounds k false).setIfInBounds k true=L:=by
   intro L hs hl
   apply Array.ext_getElem?
   intro j
   by_cases e:j=k
   ·subst e
    have h1:j<L.size:=by omega
    have:=hl
    simp only[Array.getD_eq_getD_getElem?,Array.getElem?_eq_getElem h1,Option.getD_some]at this
    simp[h1,this]
   rw[Array.getElem?_setIfInBounds_ne (fun q=>e q.symm),Array.getElem?_setIfInBounds_ne (fun q=>e q.symm)]
  have forth:∀(L:Array Bool),L.size=ops.size->L.getD k false=false->(L.setIfInBounds k true).setIfInBounds k false=L:=by
   intro L hs hl
   apply Array.ext_getElem?
   intro j
   by_cases e:j=k
   ·subst e
    have h1:j<L.size:=by omega
    have:=hl
    simp only[Array.getD_eq_getD_getElem?,Array.getElem?_eq_getElem h1,Option.getD_some]at this
    simp[h1,this]
   rw[Array.getElem?_setIfInBounds_ne (fun q=>e q.symm),Array.getElem?_setIfInBounds_ne (fun q=>e q.symm)]
  have comm:∀(L:Array Bool) i,i≠k->(L.setIfInBounds i true).setIfInBounds k false=(L.setIfInBounds k false).setIfInBounds i true:=by
   intro L i hne
   apply Array.ext_getElem?
   intro j
   by_cases e:j=k
   ·subst e
    rw[Array.getElem?_setIfInBounds_ne hne]
    simp[Array.getElem?_setIfInBounds]
   rw[Array.getElem?_setIfInBounds_ne (fun q=>e q.symm)]
   by_cases e2:j=i
   ·subst e2
    simp[Array.getElem?_setIfInBounds]
   rw[Array.getElem?_setIfInBounds_ne (fun q=>e2 q.symm),Array.getElem?_setIfInBounds_ne (fun q=>e2 q.symm),Array.getElem?_setIfInBounds_ne (fun q=>e q.symm)]
  -- it is done now
  have now:∀(n:Nat) (L:Array Bool) (a:Act) (w:World),L.size=ops.size->L.getD k false=true->(∀i,i<k->L.getD i false=true)->wpAnyIn (FW ro) 0 P .any (CF ops k) Qb (n+1) (L.setIfInBounds k false) a w->wpAnyIn (FW ro) 0 P .any ops Q n L (a.put (some t) (a.eval x)) w:=by
   intro n L a w hs hl hall h
   have hk1:k∈Region.ready .any (CF ops k) (L.setIfInBounds k false):=rk _ (by simp[hs]) (by rw[hset L k false (by omega),if_pos rfl]) fun i hi=>by
    rw[hset L k false (by omega),if_neg (by omega)];exact hall i hi
   have:=(XT (x:=x) hgetk (by exact hg) (by exact hx)).1 (h.2 k hk1)
   rw[back L hs hl,show(Lb k ok).dst=some t from hdt]at this
   exact S1 n L _ w hs hl this
  intro n
  induction n with
  |zero=>
   refine⟨fun L a w hs hcl hc hl h=> ?_,fun L a w hs hcl hc hl h=>now 0 L a w hs hl (fun i hi=>Hh hc i (by omega)) h⟩
   have:=Hh hc k hkl
   rw[hl]at this;cases this
  |succ n ih=>
   obtain⟨ihA,ihB⟩:=ih
   constructor
   ·intro L a w hs hcl hc hl h
    refine⟨fun hn=>absurd hn (hsomeready L hs ⟨k,hkl,hl⟩),fun i hi=> ?_⟩
    obtain⟨h1,h2,h3⟩:=hready L i hs hcl hi
    have hcnt':cnt (L.setIfInBounds i true) ops.size=n:=by
     have:=I1 (listed:=L) (i:=i) (by omega) h2 ops.size
     rw[if_pos h1]at this
     omega
    by_cases e:i=k
    ·subst e
     refine(XT hok hg hx).2 ?_
     rw[hdt]
     refine ihB _ a w (by simp[hs]) (hclset L i hs hcl hi) hcnt' (by rw[hset L i true (by omega),if_pos rfl]) ?_
     rw[forth L hs hl];exact h
    refine conv i _ _ a w e (hsd i e) (fun a w q=>ihA _ a w (by simp[hs]) (hclset L i hs hcl hi) hcnt' ?_ q) (h.2 i ((rne L i e).2 hi))
    rw[hset L i true (by omega),if_neg (fun q=>e q.symm)];exact hl
   intro L a w hs hcl hc hl h
   have hsome:∃i,i<ops.size/\L.getD i false=false:=by
    apply Classical.byContradiction
    intro hno
    have hz:cnt L ops.size=0:=by
     unfold cnt
     rw[List.countP_eq_zero]
     intro i hi
     have hi:i<ops.size:=by simpa using hi
     cases hli:L.getD i false
     ·exact absurd ⟨i,hi,hli⟩ hno
     simp
    omega
   refine⟨fun hn=>absurd hn (hsomeready L hs hsome),fun i hi=> ?_⟩
   obtain⟨h1,h2,h3⟩:=hready L i hs hcl hi
   have e:i≠k:=fun e=>by subst e;rw[hl]at h2;cases h2
   have hio:ops[i]?=some ops[i]:=Array.getElem?_eq_getElem h1
   obtain⟨c1,c2,c3,c4,c5,c6⟩:=hcond i ops[i] hio e
   by_cases hd:Kk ops[i] k=true
   ·exact(now (n+1) L a w hs hl (fun j hj=>h3 j (c6 hd j hj)) h).2 i hi
   have hna:¬BH m i k=true:=fun q=>by
    have:=hlisted L k hcl hkl hl i q
    rw[h2]at this;cases this
   have c4:=c4.resolve_left hna
   have c5:=(c5.resolve_left hna).resolve_left hd
   have hcnt':cnt (L.setIfInBounds i true) ops.size=n:=by
    have:=I1 (listed:=L) (i:=i) (by omega) h2 ops.size
    rw[if_pos h1]at this
    omega
   have hi':i∈Region.ready .any (CF ops k) (L.setIfInBounds k false):=by
    refine(rne _ i e).2 (BZ.2 ⟨h1,?_,ops[i],hio,fun e' he hb=> ?_⟩)
    ·rw[hdtf _ i (by simp[hs]) h1,hset L k false (by omega),if_neg e];exact h2
    obtain⟨_,_,o',ho',h5⟩:=BZ.1 hi
    have:o'=ops[i]:=by rw[hio]at ho';simpa using ho'.symm
    subst this
    rw[hset L k false (by omega),if_neg]
    ·exact h5 e' he hb
    intro q
    refine hd (List.any_eq_true.2 ⟨e',by simpa using he,?_⟩)
    rw[hb,q];simp
   have hw:=h.2 i hi'
   unfold wpOpIn at hw⊢
   rw[hget i e,hio]at hw
   rw[hio]
   simp only[GK]at hw⊢
   have hwan:Region.wanted ops[i] (yielded ops (a.put (some t) (a.eval x)).tmps)=Region.wanted ops[i] (yielded ops a.tmps):=by
    refine LB (by simp[Act.put]) fun t' ht'=> ?_
    rw[Ik,if_neg]
    rintro⟨q,_⟩
    injection q with q
    subst q;exact c5.2 ht'
   rw[hwan]
   have hK:∀(b:Act) (v:Value) w',b.eval x=a.eval x->wpAnyIn (FW ro) 0 P .any (CF ops k) Qb (n+1) ((L.setIfInBounds k false).setIfInBounds i true) (b.put ops[i].dst v) w'->wpAnyIn (FW ro) 0 P .any ops Q n (L.setIfInBounds i true) ((b.put (some t) (a.eval x)).put ops[i].dst v) w':=by
    intro b v w' hb q
    rw[<-comm L i e]at q
    have:=ihB _ _ w' (by simp[hs]) (hclset L i hs hcl hi) hcnt' (by rw[hset L i true (by omega),if_neg (fun q=>e q.symm)];exact hl) q
    have hev:(b.put ops[i].dst v).eval x=a.eval x:=by
     rw[<-hb]
     cases hdi:ops[i].dst with
     |none=>rfl
     |some d=>exact Sz fun u hu q=>c4 u hu (by rw[hdi,q])
    rw[hev]at this
    rw[Act.put_comm]
    ·exact this
    intro d hd' q
    injection hd' with hd'
    subst hd';exact c3 q
   split
   ·rename_i hwt
    rw[if_pos hwt]at hw
    refine KE hQ c1 c2 (fun y hy=> ?_) (fun v w' q=>hK a v w' rfl q) (fun d w' q=>hK {a with defers:=d::a.defers} undef w' rfl q) hw
    refine Ps (o:=ops[i]) (fun t' ht'=> ?_) y hy
    rw[Ik,if_neg]
    rintro⟨q,_⟩
    injection q with q
    subst q;exact c5.1 ht'
   rename_i hwt
   rw[if_neg hwt]at hw
   exact⟨fun _ _=>trivial,hK a undef w rfl hw.2⟩
 have hrep:∀j,(Array.replicate ops.size false).getD j false=false:=fun j=>by simp[Array.getD]
 refine(key ops.size).1 _ a w (by simp) (fun j o _ hj=>by rw[hrep]at hj;cases hj) ?_ (hrep k) h
 unfold cnt
 rw[List.countP_eq_length.2 (fun i _=>by rw[hrep];rfl)];simp
theorem TN{nxt:Act->World->Prop}(hk:Vw ops.toList k=true)(hq:∀a w,nxt a w->Q .normal a w)
  (h:wpAnyIn (FW ro) 0 P .any (CF ops k) (fun e a w=>e= .normal/\nxt a w) (CF ops k).size (Array.replicate (CF ops k).size false) a w):wpAnyIn (FW ro) 0 P .any ops Q ops.size (Array.replicate ops.size false) a w:=by
 rw[GZ]at h
 exact T9 hk (fun _ _ _ h=>h.1) (fun _ _ h=>hq _ _ h.2) h
end Go.Proofs.YtlieoghhkioflaaGreat
/- The engine,part 21: the whole run. No condition. -/
namespace Go.Proofs.YtlieoghhkioflaaGreat
open Go Go.RowKit
variable{a:Act}{B B':Br}{b:Bn}{β β' βa:Bn->CK}{D N:Bn->Prop}{c c':Cw}{bx bx' bx1:Bx}{fr fr' fr1:Fr}{as:List Act}{stk:List Av}{nx nx':Nat}{A':Nat->Prop}{wa:World}
variable{P:Program}{E:Db}{A0:Nat->Prop}{w0:AW}{Qf:Ad->Bx->Prop}
theorem BE{w:World}{A:Nat->Prop}:∀(v' v:Ad) (x:Value),AB v' v->Ao w A v x->Ao w A v' x:=by
 intro v'
 induction v' with
 |cons h t ih1 ih2=>rintro v x ⟨h',t',rfl,s1,s2⟩ ⟨y,ys,rfl,r1,r2⟩;exact⟨y,ys,rfl,ih1 _ _ s1 r1,ih2 _ _ s2 r2⟩
 |agg l ih=>rintro v x ⟨l',rfl,s⟩ ⟨ys,rfl,r⟩;exact⟨ys,rfl,ih _ _ s r⟩
 |tup l ih=>rintro v x ⟨l',rfl,s⟩ ⟨ys,rfl,r⟩;exact⟨ys,rfl,ih _ _ s r⟩
 |func fn l ih=>rintro v x ⟨l',rfl,s⟩ ⟨ys,rfl,r⟩;exact⟨ys,rfl,ih _ _ s r⟩
 |view k n c ih=>
  rintro v x (⟨rfl,rfl⟩|⟨c',rfl,s⟩) hr
  ·have e:x= .slice none 0 0:=hr
   subst e
   exact⟨none,0,rfl,by decide,Nat.le_refl _,fun h=>absurd h (Nat.lt_irrefl _)⟩
  obtain⟨ad,cap,rfl,h1,h2,h3⟩:=hr
  refine⟨ad,cap,rfl,h1,h2,fun h0=> ?_⟩
  obtain⟨g,off,rfl,hg,hA',hc⟩:=h3 h0
  refine⟨g,off,rfl,hg,hA',fun i hi j hj=> ?_⟩
  obtain⟨y,hy,ho,hr⟩:=hc i hi j hj
  exact⟨y,hy,ho,ih i j _ _ (s i hi j hj) hr⟩
 |vptr m c ih=>
  rintro v x ⟨c',rfl,s⟩ hr
  obtain⟨g,off,rfl,hg,hA',hc⟩:=hr
  refine⟨g,off,rfl,hg,hA',fun j hj=> ?_⟩
  obtain⟨y,hy,hr⟩:=hc j hj
  exact⟨y,hy,ih j _ _ (s j hj) hr⟩
 |mview kd has f ih=>
  rintro v x ⟨has',f',rfl,s⟩ hr
  obtain⟨g,h,rfl,hg,hA',hm,hc⟩:=hr
  refine⟨g,h,rfl,hg,hA',hm,fun k=>⟨fun hk=>(hc k).1 (by rw[(s k).1];exact hk),fun hk=> ?_⟩⟩
  obtain⟨y,hy,hr⟩:=(hc k).2 (by rw[(s k).1];exact hk)
  exact⟨y,hy,ih k _ _ ((s k).2 hk) hr⟩
 |und=>intro v x _ _;trivial
 |_=>intro v x s r;simp only[AB]at s;rw[<-s];exact r
theorem Df{w:World}{A:Nat->Prop}(hB:∀b c,B b=some c->D b->∃c',B' b=some c'/\CR c c'/\β' b=β b)(hA:∀g,g<w.heap.size->A g->A' g)
  (hN:∀b,N b->(∃e k n,JB B' b e k n)/\(β' b).a=none/\(β' b).n=0/\(β' b).cap=0):∀(v' v:Ad) (x:Value),BS N D v' v->A7 w A B β v x->A7 w A' B' β' v' x:=by
 have hw:∀{v:Ad} {x:Value},Ao w A v x->Ao w A' v x:=fun h=>Ao.weak hA h
 intro v'
 induction v' with
 |cons h t ih1 ih2=>rintro v x ⟨h',t',rfl,s1,s2⟩ ⟨y,ys,rfl,r1,r2⟩;exact⟨y,ys,rfl,ih1 _ _ s1 r1,ih2 _ _ s2 r2⟩
 |agg l ih=>rintro v x ⟨l',rfl,s⟩ ⟨ys,rfl,r⟩;exact⟨ys,rfl,ih _ _ s r⟩
 |tup l ih=>rintro v x ⟨l',rfl,s⟩ ⟨ys,rfl,r⟩;exact⟨ys,rfl,ih _ _ s r⟩
 |func fn l ih=>rintro v x ⟨l',rfl,s⟩ ⟨ys,rfl,r⟩;exact⟨ys,rfl,ih _ _ s r⟩
 |own b=>
  rintro v x (⟨rfl,hd⟩|⟨rfl,h⟩) hr
  ·obtain⟨⟨e,k,n,c,hb,hm⟩,rfl⟩:=hr
   obtain⟨c',h1,h2,h3⟩:=hB b _ hb hd
   obtain⟨e',he⟩:=h2.row hm
   exact⟨⟨e',k,n,c',h1,he⟩,by rw[h3]⟩
  have e:x= .slice none 0 0:=hr
  subst e
  obtain⟨h1,h2,h3,h4⟩:=hN b h
  exact⟨h1,by rw[h2,h3,h4];rfl⟩
 |ptr b off=>
  intro v x s hr
  simp only[BS]at s
  obtain⟨rfl,hd⟩:=s
  obtain⟨⟨l,hb,hpb⟩,g,hg,rfl⟩:=hr
  obtain⟨c',h1,h2,h3⟩:=hB b _ hb hd
  exact⟨⟨c',h1,h2.ptrB hpb⟩,g,by rw[h3];exact hg,rfl⟩
 |osl b off m=>
  intro v x s hr
  simp only[BS]at s
  obtain⟨rfl,hd⟩:=s
  obtain⟨e,k,n,⟨c,hb,hm⟩,h4,h5⟩:=hr
  obtain⟨c',h1,h2,h3⟩:=hB b _ hb hd
  obtain⟨e',he⟩:=h2.row hm
  exact⟨e',k,n,⟨c',h1,he⟩,h4,by rw[h3];exact h5⟩
 |yld b=>
  intro v x s hr
  simp only[BS]at s
  obtain⟨rfl,hd⟩:=s
  obtain⟨g,fr,ps,ca,cb,st,hb,rfl⟩:=hr
  obtain⟨c',h1,h2,h3⟩:=hB b _ hb hd
  cases c' with
  |lp g' fr' ps' ca' cb' st'=>obtain⟨rfl,_⟩:=h2;exact⟨g,fr',ps',ca',cb',st',h1,rfl⟩
  |_=>simp[CR]at h2
 |mapb b=>
  intro v x s hr
  simp only[BS]at s
  obtain⟨rfl,hd⟩:=s
  obtain⟨⟨kd,c,hb,hm⟩,g,hg,rfl⟩:=hr
  obtain⟨c',h1,h2,h3⟩:=hB b _ hb hd
  exact⟨⟨kd,c',h1,h2.map hm⟩,g,by rw[h3];exact hg,rfl⟩
 |mview kd has f ih=>
  rintro v x ⟨has',f',rfl,s⟩ hr
  obtain⟨g,h,rfl,hg,hA',hm,hc⟩:=hr
  refine⟨g,h,rfl,hg,hA g hg hA',hm,fun k=>⟨fun hk=>(hc k).1 (by rw[(s k).1];exact hk),fun hk=> ?_⟩⟩
  obtain⟨y,hy,hr⟩:=(hc k).2 (by rw[(s k).1];exact hk)
  exact⟨y,hy,hw (BE _ _ _ ((s k).2 hk) hr)⟩
 |rptr b i off=>
  intro v x s hr
  simp only[BS]at s
  obtain⟨rfl,hd⟩:=s
  obtain⟨e,k,n,⟨c,hb,hm⟩,hi,g,hg,rfl⟩:=hr
  obtain⟨c',h1,h2,h3⟩:=hB b _ hb hd
  obtain⟨e',he⟩:=h2.row hm
  exact⟨e',k,n,⟨c',h1,he⟩,hi,g,by rw[h3];exact hg,rfl⟩
 |view k n c ih=>
  rintro v x (⟨rfl,rfl⟩|⟨c',rfl,s⟩) hr
  ·have e:x= .slice none 0 0:=hr
   subst e
   exact⟨none,0,rfl,by decide,Nat.le_refl _,fun h=>absurd h (Nat.lt_irrefl _)⟩
  obtain⟨ad,cap,rfl,h1,h2,h3⟩:=hr
  refine⟨ad,cap,rfl,h1,h2,fun h0=> ?_⟩
  obtain⟨g,off,rfl,hg,hA',hc⟩:=h3 h0
  refine⟨g,off,rfl,hg,hA g hg hA',fun i hi j hj=> ?_⟩
  obtain⟨y,hy,ho,hr⟩:=hc i hi j hj
  exact⟨y,hy,ho,hw (BE _ _ _ (s i hi j hj) hr)⟩
 |vptr m c ih=>
  rintro v x ⟨c',rfl,s⟩ hr
  obtain⟨g,off,rfl,hg,hA',hc⟩:=hr
  refine⟨g,off,rfl,hg,hA g hg hA',fun j hj=> ?_⟩
  obtain⟨y,hy,hr⟩:=hc j hj
  exact⟨y,hy,hw (BE _ _ _ (s j hj) hr)⟩
 |und=>intro v x _ _;trivial
 |nil=>intro v x s hr;simp only[BS]at s;subst s;exact hr
 |_=>intro v x s hr;simp only[BS]at s;subst s;exact hw hr
theorem Iv:∀{fr':Fr},DZ N D fr fr'->∀t,BS N D (Au fr' t) (Au fr t):=by
 intro fr';induction fr' with
 |nil=>intro _ t;trivial
 |cons p l ih=>
  obtain⟨s,v⟩:=p
  rintro⟨h1,h2⟩ t
  simp only[Au]
  split
  ·rename_i e;subst e;exact h1
  exact ih h2 t
theorem H3:∀{bx':Bx},Mx N D bx bx'->∀b c,Ab bx' b=some c->By N D (Ab bx b) c:=by
 intro bx';induction bx' with
 |nil=>intro _ b c h;cases b<;>cases h
 |cons p l ih=>
  obtain⟨s,v⟩:=p
  intro h b c hb
  cases v with
  |one v=>
   obtain⟨h1,h2⟩:=h
   cases b with
   |n b=>
    simp only[Ab]at hb
    split at hb
    ·rename_i e;subst e;cases hb;exact h1
    exact ih h2 _ c hb
   |f b z=>exact ih h2 _ c hb
  |fam d r=>
   obtain⟨h1,h2⟩:=h
   cases b with
   |n b=>exact ih h2 _ c hb
   |f b z=>
    simp only[Ab]at hb
    split at hb
    ·rename_i e;obtain⟨rfl,e⟩:=e;cases hb;exact h1 z e
    exact ih h2 _ c hb
theorem Rk:∀{bx:Bx},P3 nx bx->∀b c,Ab bx b=some c->b.id<nx:=by
 intro bx;induction bx with
 |nil=>intro _ b c h;cases b<;>cases h
 |cons p l ih=>
  obtain⟨s,v⟩:=p
  rintro⟨h1,h2⟩ b c hb
  cases v with
  |one v=>
   cases b with
   |n b=>
    simp only[Ab]at hb
    split at hb
    ·rename_i e;subst e;exact h1
    exact ih h2 _ c hb
   |f b z=>exact ih h2 _ c hb
  |fam d r=>
   cases b with
   |n b=>exact ih h2 _ c hb
   |f b z=>
    simp only[Ab]at hb
    split at hb
    ·rename_i e;obtain⟨rfl,e⟩:=e;exact h1
    exact ih h2 _ c hb
theorem So:∀{bx:Bx},Tq nx bx' bx->∀b c,Ab bx b=some c->b.id<nx->∃c',Ab bx' b=some c':=by
 intro bx;induction bx with
 |nil=>intro _ b c h;cases b<;>cases h
 |cons p l ih=>
  obtain⟨s,v⟩:=p
  intro h b c hb hlt
  cases v with
  |one v=>
   obtain⟨h1,h2⟩:=h
   cases b with
   |n b=>
    simp only[Ab]at hb
    split at hb
    ·rename_i e;subst e;exact h1 hlt
    exact ih h2 _ c hb hlt
   |f b z=>exact ih h2 _ c hb hlt
  |fam d r=>
   obtain⟨h1,h2⟩:=h
   cases b with
   |n b=>exact ih h2 _ c hb hlt
   |f b z=>
    simp only[Ab]at hb
    split at hb
    ·rename_i e;obtain⟨rfl,e⟩:=e;exact h1 hlt z e
    exact ih h2 _ c hb hlt
theorem Ed(hk:By N D (some c) c'):CR c c':=by
 cases c<;>cases c'<;>simp only[By]at hk<;>first|exact hk.elim|trivial|exact⟨hk.2.1,hk.2.2.1⟩|exact hk.1|exact⟨hk.1,hk.2.1,hk.2.2.1,hk.2.2.2.1⟩
theorem Lq(hk:By N D none c'):∃e k,0<k/\((∃c,c'= .row e k 0 c)\/∃c,c'= .rown e k 0 c):=by
 cases c'<;>simp only[By]at hk<;>first|exact hk.elim|skip
 ·obtain⟨rfl,h⟩:=hk;exact⟨_,_,h,.inl ⟨_,rfl⟩⟩
 obtain⟨rfl,h⟩:=hk;exact⟨_,_,h,.inr ⟨_,rfl⟩⟩
theorem PY{w:World}{A:Nat->Prop}{c0:Cw}(hk:By N D (some c0) c')(hbo:CP P w A B β 0 b c0)(hb0:β' b=β b)
  (hB:∀b c,B b=some c->D b->∃c',B' b=some c'/\CR c c'/\β' b=β b) (hA:∀g,g<w.heap.size->A g->A' g)
  (hN:∀b,N b->(∃e k n,JB B' b e k n)/\(β' b).a=none/\(β' b).n=0/\(β' b).cap=0) (hβ:∀m cm,B m=some cm->β' m=β m):CP P w A' B' β' 0 b c':=by
 cases c0<;>cases c'<;>simp only[By]at hk<;>first|exact hk.elim|skip
 ·obtain⟨hl,g,ys,ty,p1,p2,p3⟩:=hbo
  exact⟨hk.1,g,ys,ty,by rw[hb0];exact p1,p2,Df hB hA hN _ _ _ hk.2 p3⟩
 ·obtain⟨rfl,rfl,rfl,hcc⟩:=hk
  obtain⟨p1,p2,p3,xs,p4,p5⟩:=hbo
  refine⟨by rw[hb0];exact p1,p2,p3,xs,by rw[hb0];exact p4,fun i hi j hj=> ?_⟩
  obtain⟨y,hy,ho,hr⟩:=p5 i hi j hj
  exact⟨y,hy,ho,Ao.weak hA (BE _ _ _ (hcc i hi j hj) hr)⟩
 ·obtain⟨rfl,hcc⟩:=hk
  obtain⟨g,m,p1,p2,p3⟩:=hbo
  refine⟨g,m,by rw[hb0];exact p1,p2,fun k=>⟨fun hk=>(p3 k).1 (by rw[<-(hcc k).1];exact hk),fun hk=> ?_⟩⟩
  have hk':=(hcc k).1.symm.trans hk
  obtain⟨y,hy,hr⟩:=(p3 k).2 hk'
  exact⟨y,hy,Df hB hA hN _ _ _ ((hcc k).2 hk') hr⟩
 ·rename_i kd has f kd' f'
  obtain⟨rfl,hcc⟩:=hk
  obtain⟨g,m,p1,p2,p3⟩:=hbo
  refine⟨g,m,by rw[hb0];exact p1,p2,fun k=> ?_⟩
  have hck:=hcc k
  cases hh:has k with
  |false=>
   rw[hh]at hck
   rw[(p3 k).1 hh]
   exact Df hB hA hN _ .nils _ hck rfl
  |true=>
   rw[hh]at hck
   obtain⟨y,hy,hr⟩:=(p3 k).2 hh
   rw[hy]
   exact Df hB hA hN _ _ _ hck hr
 ·obtain⟨rfl,rfl,rfl,rfl,rfl,hcc⟩:=hk
  obtain⟨p1,rec,nt,p2,p3,p4,p5⟩:=hbo
  exact⟨by rw[hb0];exact p1,rec,nt,p2,p3,p4,fun t=>Df hB hA hN _ _ _ (Iv hcc t) (p5 t)⟩
 ·obtain⟨rfl,hcc⟩:=hk
  obtain⟨g,p1,p2⟩:=hbo
  refine⟨g,by rw[hb0];exact p1,fun m hm=> ?_⟩
  subst hm
  obtain⟨rfl,hD,rfl,hse⟩:=hcc
  obtain⟨⟨cm,p3,p3'⟩,gm,p4,p5⟩:=p2 m rfl
  obtain⟨c2,q1,q2,q3⟩:=hB m _ p3 hD
  exact⟨⟨c2,q1,q2.map p3'⟩,gm,by rw[hβ m _ p3];exact p4,p5.congr hse⟩
 ·obtain⟨rfl,rfl,rfl,hcc⟩:=hk
  obtain⟨p1,p2,p3,xs,p4,p5⟩:=hbo
  refine⟨by rw[hb0];exact p1,p2,p3,xs,by rw[hb0];exact p4,fun i hi j hj=> ?_⟩
  obtain⟨y,hy,ho,hr⟩:=p5 i hi j hj
  exact⟨y,hy,ho,Df hB hA hN _ _ _ (hcc i hi j hj) hr⟩
 ·obtain⟨rfl,hcc⟩:=hk
  obtain⟨g,m,p1,p2,p3⟩:=hbo
  exact⟨g,m,by rw[hb0];exact p1,p2,fun k=>Df hB hA hN _ _ _ (hcc k) (p3 k)⟩
 obtain⟨rfl,hv⟩:=hk
 obtain⟨p1,y,ty,p2,p3⟩:=hbo
 exact⟨by rw[hb0];exact p1,y,ty,p2,Df hB hA hN _ _ _ hv p3⟩
theorem AL.chk{ne:Nat}{w:World}(h:AL P A0 w0 β stk as fr bx nx a w)(hc:ZK fr bx fr' bx' ne nx')(hsn:∀f∈stk,f.nx<=ne/\f.nx<=nx'):
  ∃β',AL P A0 w0 β' stk as fr' bx' nx' a w:=by
 classical
 obtain⟨h1,h2,h3,h4⟩:=hc
 let β':Bn->CK:=fun b=>if BT bx bx' b then⟨none,0,0⟩else β b
 have hβ:∀b c,Ab bx b=some c->β' b=β b:=by
  intro b c hb
  have:¬BT bx bx' b:=fun hn=>by rw[hn.1]at hb;cases hb
  simp only[β',if_neg this]
 have hA:∀g,g<w.heap.size->Al A0 w0 (Ab bx) β g->Al A0 w0 (Ab bx') β' g:=by
  rintro g hg ⟨hA,hn⟩
  refine⟨hA,fun b c hb e=> ?_⟩
  by_cases hnew:BT bx bx' b
  ·simp only[β',if_pos hnew]at e;cases e
  have:∃c0,Ab bx b=some c0:=by
   cases hbb:Ab bx b with
   |none=>exact absurd ⟨hbb,c,hb⟩ hnew
   |some c0=>exact⟨c0,rfl⟩
  obtain⟨c0,hc0⟩:=this
  rw[hβ b c0 hc0]at e
  exact hn b c0 hc0 e
 have hB:∀b c,Ab bx b=some c->Fc bx' b->∃c',Ab bx' b=some c'/\CR c c'/\β' b=β b:=by
  rintro b c hb ⟨c',hc'⟩
  have hk:=H3 h2 b c' hc'
  rw[hb]at hk
  exact⟨c',hc',Ed hk,hβ b c hb⟩
 have hN:∀b,BT bx bx' b->(∃e k n,JB (Ab bx') b e k n)/\(β' b).a=none/\(β' b).n=0/\(β' b).cap=0:=by
  intro b hn
  obtain⟨c',hc'⟩:=hn.2
  have hk:=H3 h2 b c' hc'
  rw[hn.1]at hk
  refine⟨?_,by simp only[β',if_pos hn],by simp only[β',if_pos hn],by simp only[β',if_pos hn]⟩
  obtain⟨e,k,_,⟨c,rfl⟩|⟨c,rfl⟩⟩:=Lq hk<;>exact⟨e,k,0,_,hc',rfl⟩
 have hold:∀b c',Ab bx' b=some c'->¬BT bx bx' b->∃c,Ab bx b=some c:=by
  intro b c' hc' hnew
  cases hbb:Ab bx b with
  |none=>exact absurd ⟨hbb,c',hc'⟩ hnew
  |some c0=>exact⟨c0,rfl⟩
 refine⟨β',⟨fun b c' hc'=> ?_,fun b c b' c' g hb hb' hne hg hg'=> ?_,fun b c hb=>Rk h3 b c hb,fun b c g hb hg=> ?_,h.mem.below⟩,fun t=>Df hB hA hN _ _ _ (Iv h1 t) (h.fr t),?_,h.df.mono (Nat.le_refl _) (fun g hg hx=>⟨hA g hg hx,rfl⟩),fun f hf=>(hsn f hf).2⟩
 ·have hk:=H3 h2 b c' hc'
  by_cases hnew:BT bx bx' b
  ·obtain⟨_,e1,e2,e3⟩:=hN b hnew
   rw[hnew.1]at hk
   obtain⟨e,k,hk0,⟨c,rfl⟩|⟨c,rfl⟩⟩:=Lq hk<;>exact⟨e2,hk0,Nat.zero_le _,[],by rw[e1,e3];exact World.ownsRow_nil w _ e k,fun i hi=>by omega⟩
  obtain⟨c0,hc0⟩:=hold b c' hc' hnew
  rw[hc0]at hk
  have hbo:=h.mem.bx b c0 hc0
  exact PY hk hbo (hβ b _ hc0) hB hA hN (fun m cm hm=>hβ m cm hm)
 ·by_cases hn:BT bx bx' b
  ·simp only[β',if_pos hn]at hg;cases hg
  by_cases hn':BT bx bx' b'
  ·simp only[β',if_pos hn']at hg';cases hg'
  obtain⟨c0,hc0⟩:=hold b c hb hn
  obtain⟨c1,hc1⟩:=hold b' c' hb' hn'
  rw[hβ b _ hc0]at hg
  rw[hβ b' _ hc1]at hg'
  exact h.mem.inj b c0 b' c1 g hc0 hc1 hne hg hg'
 ·by_cases hn:BT bx bx' b
  ·simp only[β',if_pos hn]at hg;cases hg
  obtain⟨c0,hc0⟩:=hold b c hb hn
  rw[hβ b _ hc0]at hg
  exact h.mem.base b c0 g hc0 hg
 have hst:=h.st
 have hsn':∀f∈stk,f.nx<=ne:=fun f hf=>(hsn f hf).1
 clear hsn
 have hgen:∀{stk:List Av} {as:List Act},(∀f∈stk,f.nx<=ne)->E5 A0 w0 β (Ab bx) w stk as->E5 A0 w0 β' (Ab bx') w stk as:=by
  intro stk;induction stk with
  |nil=>intro as _ hs;cases as<;>exact hs
  |cons f l ih=>
   intro as hsn hs
   cases as with
   |nil=>exact hs
   |cons a as=>
    refine⟨fun t=>A7.mono (Nat.le_refl _) (fun g hg hx=>⟨hA g hg hx,rfl⟩) (fun b c hb=> ?_) _ _ (hs.1 t),ih (fun f hf=>hsn f (by simp[hf])) hs.2⟩
    simp only[EH]at hb⊢
    split at hb
    ·rename_i hlt
     rw[if_pos hlt]
     obtain⟨c',hc'⟩:=So h4 b c hb (Nat.lt_of_lt_of_le hlt (hsn f (by simp)))
     exact hB b c hb ⟨c',hc'⟩
    cases hb
 exact hgen hsn' hst
theorem UJ{n:Nat}{r:Ad}{w:World}{A:Nat->Prop}(hn:n<=b.id):∀(v:Ad) (x:Value),A7 w A (EH B n) β v x->Bc b r v=v:=by
 have hno:EH B n b=none:=if_neg (Nat.not_lt.2 hn)
 intro v;induction v with
 |cons h t ih1 ih2=>rintro x ⟨y,ys,rfl,h1,h2⟩;simp only[Bc,ih1 _ h1,ih2 _ h2]
 |agg l ih=>rintro x ⟨ys,rfl,h⟩;simp only[Bc,ih _ h]
 |tup l ih=>rintro x ⟨ys,rfl,h⟩;simp only[Bc,ih _ h]
 |func fn l ih=>rintro x ⟨ys,rfl,h⟩;simp only[Bc,ih _ h]
 |own b'=>
  rintro x ⟨⟨e,k,m,c,h,_⟩,_⟩
  simp only[Bc]
  split
  ·next e=>subst e;rw[hno]at h;cases h
  rfl
 |ptr b' o=>
  rintro x ⟨⟨l,h,_⟩,_⟩
  simp only[Bc]
  split
  ·next e=>subst e;rw[hno]at h;cases h
  rfl
 |rptr b' i o=>
  rintro x ⟨e,k,m,⟨c,h,_⟩,_⟩
  simp only[Bc]
  split
  ·next e=>subst e;rw[hno]at h;cases h
  rfl
 |mapb b'=>
  rintro x ⟨⟨kd,c,h,_⟩,_⟩
  simp only[Bc]
  split
  ·next e=>subst e;rw[hno]at h;cases h
  rfl
 |osl b' o m=>
  rintro x ⟨e,k,m',⟨c,h,_⟩,_⟩
  simp only[Bc]
  split
  ·next e=>subst e;rw[hno]at h;cases h
  rfl
 |yld b'=>
  rintro x ⟨g,fr,ps,ca,cb,st,h,_⟩
  simp only[Bc]
  split
  ·next e=>subst e;rw[hno]at h;cases h
  rfl
 |_=>intro x _;rfl
theorem AL.nostk{w:World}{r:Ad}(h:AL P A0 w0 β stk as fr bx nx a w)(h1:AL P A0 w0 β (AC b r stk) as fr1 bx1 nx a w)(hlb:∀f∈stk,f.nx<=b.id):AL P A0 w0 β stk as fr1 bx1 nx a w:=by
 refine⟨h1.mem,h1.fr,?_,h1.df,h.sn⟩
 have hold:=h.st
 have hnew:=h1.st
 clear h1 h
 revert hold hnew hlb
 generalize Ab bx1=B1
 induction stk generalizing as with
 |nil=>intro _ _ h;cases as<;>exact h
 |cons f stk ih2=>
  intro hlb hold hnew
  cases as with
  |nil=>exact hold.elim
  |cons a as=>
   refine⟨fun t=> ?_,ih2 (fun f hf=>hlb f (List.mem_cons_of_mem _ hf)) hold.2 hnew.2⟩
   have:=hnew.1 t
   rw[Fy]at this
   split at this
   ·rwa[UJ (hlb f (List.mem_cons_self ..)) _ _ (hold.1 t)]at this
   rename_i hno
   have:Au f.fr t= .und:=by
    have:∀fr:Fr,(fr.any fun p=>p.1==t)=false->Au fr t= .und:=by
     intro fr;induction fr with
     |nil=>intro _;rfl
     |cons p l ih=>intro h;simp only[List.any_cons,Bool.or_eq_false_iff,beq_eq_false_iff_ne]at h;obtain⟨s,v⟩:=p;simp only[Au];rw[if_neg h.1];exact ih h.2
    exact this _ (Bool.eq_false_iff.2 hno)
   rw[this];trivial
theorem AL.frzN{w:World}:∀(l:List Bn) {fr fr':Fr} {bx bx':Bx},AL P A0 w0 β stk as fr bx nx a w->(∀b∈l,∀f∈stk,f.nx<=b.id)->Go.Proofs.YtlieoghhkioflaaGreat.frz l (fr,bx,[])=some (fr',bx',[])->AL P A0 w0 β stk as fr' bx' nx a w:=by
 intro l;induction l with
 |nil=>intro fr fr' bx bx' h _ he;simp[Go.Proofs.YtlieoghhkioflaaGreat.frz]at he;obtain⟨rfl,rfl⟩:=he;exact h
 |cons b l ih=>
  intro fr fr' bx bx' h hl he
  simp only[Go.Proofs.YtlieoghhkioflaaGreat.frz]at he
  have hlb:=hl b (List.mem_cons_self ..)
  split at he
  ·rename_i e k n c hb
   exact ih (h.nostk (h.frz1 hb) hlb) (fun b' hb'=>hl b' (List.mem_cons_of_mem _ hb')) he
  ·rename_i c hb
   split at he
   ·rename_i hp
    exact ih (h.nostk (h.frzC hb hp) hlb) (fun b' hb'=>hl b' (List.mem_cons_of_mem _ hb')) he
   cases he
  ·exact ih h (fun b' hb'=>hl b' (List.mem_cons_of_mem _ hb')) he
  cases he
theorem Ll{f:Av}(h:f∈stk):f.nx∈Ez stk:=by
 induction stk with
 |nil=>cases h
 |cons g l ih=>
  rcases List.mem_cons.1 h with rfl|h
  ·exact List.mem_cons_self ..
  exact List.mem_cons_of_mem _ (ih h)
theorem JZ(b y:Bn)(fr:Fr)(t:Nat):Au (GH b y fr) t=GC b y (Au fr t):=by
 induction fr with
 |nil=>rfl
 |cons p l ih=>
  obtain⟨s,v⟩:=p
  simp only[GH,Au,ih]
  split<;>rfl
theorem Jq(b y:Bn)(bx:Bx)(x:Bn):Ab (FJ b y bx) x=(Ab bx x).map (CA b y):=by
 induction bx with
 |nil=>cases x<;>rfl
 |cons p l ih=>
  obtain⟨t,v⟩:=p
  cases v<;>cases x<;>simp only[FJ,Ab,ih]<;>first|rfl|(split<;>simp)
theorem Jr(b y:Bn)(c:Cw):CA b y c=JF (GC b y) (GH b y) (fun m=>m.map fun b'=>if b'=b then y else b') c:=by cases c<;>rfl
theorem QP(b y:Bn):∀l,BA l=true->BA (GC b y l)=true:=by
 intro l;induction l with
 |cons h t _ ih=>intro hl;exact ih hl
 |nil=>intro _;rfl
 |_=>intro hl;simp[BA]at hl
theorem UQ{w:World}{A:Nat->Prop}{y:Bn}(hA:∀g,g<w.heap.size->A g->A' g)
  (hx:∀x c,B x=some c->∃c',B' (if x=b then y else x)=some c'/\CR c c'/\β' (if x=b then y else x)=β x):∀(v:Ad) (x:Value),A7 w A B β v x->A7 w A' B' β' (GC b y v) x:=by
 intro v;induction v with
 |cons h t ih1 ih2=>rintro x ⟨z,zs,rfl,h1,h2⟩;exact⟨z,zs,rfl,ih1 z h1,ih2 _ h2⟩
 |agg l ih=>rintro x ⟨zs,rfl,h⟩;exact⟨zs,rfl,ih _ h⟩
 |tup l ih=>rintro x ⟨zs,rfl,h⟩;exact⟨zs,rfl,ih _ h⟩
 |func fn l ih=>rintro x ⟨zs,rfl,h⟩;exact⟨zs,rfl,ih _ h⟩
 |ptr b' off=>
  rintro x ⟨⟨l,hB,hp⟩,g,hg,rfl⟩
  obtain⟨c',hc,hk,hβ⟩:=hx b' _ hB
  exact⟨⟨c',hc,hk.ptrB hp⟩,g,by rw[hβ];exact hg,rfl⟩
 |mapb b'=>
  rintro x ⟨⟨kd,c,hB,hk0⟩,g,hg,rfl⟩
  obtain⟨c',hc,hk,hβ⟩:=hx b' _ hB
  exact⟨⟨kd,c',hc,hk.map hk0⟩,g,by rw[hβ];exact hg,rfl⟩
 |own b'=>
  rintro x ⟨⟨e,k,n,c,hB,hk0⟩,rfl⟩
  obtain⟨c',hc,hk,hβ⟩:=hx b' _ hB
  obtain⟨e',he⟩:=hk.row hk0
  exact⟨⟨e',k,n,c',hc,he⟩,by rw[hβ]⟩
 |rptr b' i off=>
  rintro x ⟨e,k,n,⟨c,hB,hk0⟩,hi,g,hg,rfl⟩
  obtain⟨c',hc,hk,hβ⟩:=hx b' _ hB
  obtain⟨e',he⟩:=hk.row hk0
  exact⟨e',k,n,⟨c',hc,he⟩,hi,g,by rw[hβ];exact hg,rfl⟩
 |osl b' off m=>
  rintro x ⟨e,k,n,⟨c,hB,hk0⟩,h4,h5⟩
  obtain⟨c',hc,hk,hβ⟩:=hx b' _ hB
  obtain⟨e',he⟩:=hk.row hk0
  exact⟨e',k,n,⟨c',hc,he⟩,h4,by rw[hβ];exact h5⟩
 |yld b'=>
  rintro x ⟨g,fr,ps,ca,cb,st,hB,rfl⟩
  obtain⟨c',hc,hk,hβ⟩:=hx b' _ hB
  cases c' with
  |lp g' fr' ps' ca' cb' st'=>obtain⟨rfl,_⟩:=hk;exact⟨g,fr',ps',ca',cb',st',hc,rfl⟩
  |_=>simp[CR]at hk
 |nil=>intro x h;exact h
 |und=>intro x h;trivial
 |_=>intro x h;exact Ao.weak hA h
theorem AL.ren1{w:World}(h:AL P A0 w0 β stk as fr bx nx a w){y:Bn}(hb:Ab bx b=some c)(hy:Ab bx y=none)(hyn:y.id<nx)(hst:∀f∈stk,f.nx<=b.id):
  AL P A0 w0 (BL β y (β b)) stk as (GH b y fr) (Aj (FJ b y (BQ bx b)) y (CA b y c)) nx a w:=by
 have hby:b≠y:=fun e=>by subst e;rw[hb]at hy;cases hy
 have hB1:∀x,Ab (Aj (FJ b y (BQ bx b)) y (CA b y c)) x=if x=y then some (CA b y c)else if x=b then none else(Ab bx x).map (CA b y):=by
  intro x;rw[Ac,Jq,Bt]
  split
  ·rfl
  split<;>rfl
 generalize (Aj (FJ b y (BQ bx b)) y (CA b y c))=bx1 at*
 have hk0:∀c,CR c (CA b y c):=fun c=>by rw[Jr];exact CR.mapped _ _ _ c
 have hx:∀x c',Ab bx x=some c'->∃c2,Ab bx1 (if x=b then y else x)=some c2/\CR c' c2/\BL β y (β b) (if x=b then y else x)=β x:=by
  intro x c' hx
  by_cases e:x=b
  ·subst e
   rw[hb]at hx;cases hx
   exact⟨_,by rw[if_pos rfl,hB1,if_pos rfl],hk0 c,by rw[if_pos rfl,Aq]⟩
  have e2:x≠y:=fun e=>by subst e;rw[hy]at hx;cases hx
  exact⟨_,by rw[if_neg e,hB1,if_neg e2,if_neg e,hx];rfl,hk0 c',by rw[if_neg e];simp[BL,e2]⟩
 have hpre:∀x c',Ab bx1 x=some c'->∃x0 c0,Ab bx x0=some c0/\x=(if x0=b then y else x0)/\BL β y (β b) x=β x0/\c'=CA b y c0:=by
  intro x c' hx
  rw[hB1]at hx
  split at hx
  ·rename_i e;subst e;cases hx
   exact⟨b,c,hb,by rw[if_pos rfl],Aq _ _ _,rfl⟩
  rename_i e
  split at hx
  ·cases hx
  rename_i e2
  obtain⟨c2,h2,rfl⟩:=Option.map_eq_some_iff.1 hx
  exact⟨x,c2,h2,by rw[if_neg e2],by simp[BL,e],rfl⟩
 have hal:∀g,g<w.heap.size->Al A0 w0 (Ab bx) β g->Al A0 w0 (Ab bx1) (BL β y (β b)) g:=by
  rintro g hg ⟨hA,hn⟩
  refine⟨hA,fun x c' hx e=> ?_⟩
  obtain⟨x0,c0,q1,_,q3,_⟩:=hpre x c' hx
  rw[q3]at e
  exact hn x0 c0 q1 e
 have hren:=UQ (w:=w) (A:=Al A0 w0 (Ab bx) β) (A':=Al A0 w0 (Ab bx1) (BL β y (β b))) (B:=Ab bx) (B':=Ab bx1) (β:=β) (β':=BL β y (β b)) (b:=b) (y:=y) hal hx
 refine⟨⟨fun x c' hx'=> ?_,fun x c1 x' c2 g h1 h2 hne hg hg'=> ?_,fun x c' hx'=> ?_,fun x c' g hx' hg=> ?_,h.mem.below⟩,fun t=>by rw[JZ];exact hren _ _ (h.fr t),?_,h.df.mono (Nat.le_refl _) (fun g hg hA=>⟨hal g hg hA,rfl⟩),h.sn⟩
 ·obtain⟨x0,c0,q1,_,q3,rfl⟩:=hpre x c' hx'
  rw[Jr]
  refine(h.mem.bx x0 c0 q1).mapped (Nat.le_refl _) (QP b y) hren (fun fr x hf t=>by rw[JZ];exact hren _ _ (hf t)) (fun m kd seen last mb' hc hm=> ?_) (fun g hg hA=>⟨hal g hg hA,rfl⟩) q3 (fun _ _=>rfl)
  obtain⟨mb,rfl,rfl⟩:=Option.map_eq_some_iff.1 hm
  refine⟨mb,rfl,fun cm hcm=> ?_⟩
  obtain⟨c2,r1,r2,r3⟩:=hx mb cm hcm
  exact⟨⟨c2,r1,r2⟩,r3,fun _ _=>rfl⟩
 ·obtain⟨x0,d0,q1,q2,q3,_⟩:=hpre x c1 h1
  obtain⟨x1,d1,r1,r2,r3,_⟩:=hpre x' c2 h2
  rw[q3]at hg
  rw[r3]at hg'
  exact h.mem.inj x0 d0 x1 d1 g q1 r1 (fun e=>hne (by rw[q2,r2,e])) hg hg'
 ·obtain⟨x0,c0,q1,q2,_,_⟩:=hpre x c' hx'
  rw[q2]
  split
  ·exact hyn
  exact h.mem.nx x0 c0 q1
 ·obtain⟨x0,c0,q1,_,q3,_⟩:=hpre x c' hx'
  rw[q3]at hg
  exact h.mem.base x0 c0 g q1 hg
 have hst0:=h.st
 clear h hren hpre
 induction stk generalizing as with
 |nil=>cases as<;>exact hst0
 |cons f l ih=>
  cases as with
  |nil=>exact hst0
  |cons a as=>
   refine⟨fun t=>A7.mono (Nat.le_refl _) (fun g hg hA=>⟨hal g hg hA,rfl⟩) (fun x c' hx'=> ?_) _ _ (hst0.1 t),ih (fun f hf=>hst f (List.mem_cons_of_mem _ hf)) hst0.2⟩
   simp only[EH]at hx'⊢
   split at hx'
   ·rename_i hlt
    rw[if_pos hlt]
    have e:x≠b:=fun e=>by subst e;have:=hst f (List.mem_cons_self ..);omega
    obtain⟨c2,r1,r2,r3⟩:=hx x c' hx'
    rw[if_neg e]at r1 r3
    exact⟨c2,r1,r2,r3⟩
   cases hx'
theorem AL.rens{w:World}:∀(l:List (Bn×Bn)) {β:Bn->CK} {fr fr':Fr} {bx bx':Bx},AL P A0 w0 β stk as fr bx nx a w->(∀p∈l,p.2.id<nx/\∀f∈stk,f.nx<=p.1.id)->Go.Proofs.YtlieoghhkioflaaGreat.rens l (fr,bx)=some (fr',bx')->∃β',AL P A0 w0 β' stk as fr' bx' nx a w:=by
 intro l;induction l with
 |nil=>intro β fr fr' bx bx' h _ he;simp[Go.Proofs.YtlieoghhkioflaaGreat.rens]at he;obtain⟨rfl,rfl⟩:=he;exact⟨β,h⟩
 |cons p l ih=>
  obtain⟨b,y⟩:=p
  intro β fr fr' bx bx' h hl he
  simp only[Go.Proofs.YtlieoghhkioflaaGreat.rens]at he
  split at he
  ·rename_i c hb hy
   have hp:=hl (b,y) (List.mem_cons_self ..)
   exact ih (h.ren1 hb hy hp.1 hp.2) (fun p hp=>hl p (List.mem_cons_of_mem _ hp)) he
  cases he
theorem AL.more'{w:World}(h:AL P A0 w0 β stk as fr bx nx a w)(hn:nx<=nx'):AL P A0 w0 β stk as fr bx nx' a w:=
 ⟨⟨h.mem.bx,h.mem.inj,fun b c hb=>Nat.lt_of_lt_of_le (h.mem.nx b c hb) hn,h.mem.base,h.mem.below⟩,h.fr,h.st,h.df,fun f hf=>Nat.le_trans (h.sn f hf) hn⟩
theorem VC(la:List (Bn×Bn))(nx:Nat):∃N,nx<=N/\∀p∈la,p.2.id<N:=by
 induction la with
 |nil=>exact⟨nx,Nat.le_refl _,fun p hp=>by cases hp⟩
 |cons q l ih=>
  obtain⟨N,h1,h2⟩:=ih
  refine⟨max N (q.2.id+1),by omega,fun p hp=> ?_⟩
  rcases List.mem_cons.1 hp with rfl|hp
  ·omega
  have:=h2 p hp;omega
theorem AL.chkF{ne:Nat}{w:World}(h:AL P A0 w0 β stk as fr bx nx a w)(hc:Pm (Ez stk) fr bx fr' bx' ne nx')(hsn:∀f∈stk,f.nx<=ne/\f.nx<=nx'):
  ∃β',AL P A0 w0 β' stk as fr' bx' nx' a w:=by
 obtain⟨l,la,hl,hla,fr2,bx2,hf,fr3,bx3,hr,hc⟩:=hc
 obtain⟨N,hN1,hN2⟩:=VC la nx
 obtain⟨β',h'⟩:=AL.rens la ((h.frzN l (fun b hb f hf=>hl b hb _ (Ll hf)) hf).more' hN1) (fun p hp=>⟨hN2 p hp,fun f hf=>hla p hp _ (Ll hf)⟩) hr
 exact h'.chk hc hsn
theorem A7.two{w:World}{Aa A:Nat->Prop}{Ba:Br}(hA:∀g,g<w.heap.size->A g->A' g)
  (hx:∀b c0 c1,Ba b=some c0->B b=some c1->∃c',B' b=some c'/\CR c1 c'/\β' b=β b):∀(v:Ad) (x0 x:Value),A7 wa Aa Ba βa v x0->A7 w A B β v x->A7 w A' B' β' v x:=by
 intro v;induction v with
 |cons h t ih1 ih2=>rintro x0 x ⟨y0,ys0,rfl,r1,r2⟩ ⟨y,ys,rfl,h1,h2⟩;exact⟨y,ys,rfl,ih1 y0 y r1 h1,ih2 _ _ r2 h2⟩
 |agg l ih=>rintro x0 x ⟨ys0,rfl,r⟩ ⟨ys,rfl,h⟩;exact⟨ys,rfl,ih _ _ r h⟩
 |tup l ih=>rintro x0 x ⟨ys0,rfl,r⟩ ⟨ys,rfl,h⟩;exact⟨ys,rfl,ih _ _ r h⟩
 |func fn l ih=>rintro x0 x ⟨ys0,rfl,r⟩ ⟨ys,rfl,h⟩;exact⟨ys,rfl,ih _ _ r h⟩
 |ptr b' off=>
  rintro x0 x ⟨⟨l0,hB0,_⟩,_⟩ ⟨⟨l,hB,hp⟩,g,hg,rfl⟩
  obtain⟨c',hc,hk,hβ⟩:=hx b' _ _ hB0 hB
  exact⟨⟨c',hc,hk.ptrB hp⟩,g,by rw[hβ];exact hg,rfl⟩
 |mapb b'=>
  rintro x0 x ⟨⟨_,_,hB0,_⟩,_⟩ ⟨⟨kd,c,hB,hk0⟩,g,hg,rfl⟩
  obtain⟨c',hc,hk,hβ⟩:=hx b' _ _ hB0 hB
  exact⟨⟨kd,c',hc,hk.map hk0⟩,g,by rw[hβ];exact hg,rfl⟩
 |own b'=>
  rintro x0 x ⟨⟨_,_,_,_,hB0,_⟩,_⟩ ⟨⟨e,k,n,c,hB,hk0⟩,rfl⟩
  obtain⟨c',hc,hk,hβ⟩:=hx b' _ _ hB0 hB
  obtain⟨e',he⟩:=hk.row hk0
  exact⟨⟨e',k,n,c',hc,he⟩,by rw[hβ]⟩
 |rptr b' i off=>
  rintro x0 x ⟨_,_,_,⟨_,hB0,_⟩,_⟩ ⟨e,k,n,⟨c,hB,hk0⟩,hi,g,hg,rfl⟩
  obtain⟨c',hc,hk,hβ⟩:=hx b' _ _ hB0 hB
  obtain⟨e',he⟩:=hk.row hk0
  exact⟨e',k,n,⟨c',hc,he⟩,hi,g,by rw[hβ];exact hg,rfl⟩
 |osl b' off m=>
  rintro x0 x ⟨_,_,_,⟨_,hB0,_⟩,_⟩ ⟨e,k,n,⟨c,hB,hk0⟩,h4,h5⟩
  obtain⟨c',hc,hk,hβ⟩:=hx b' _ _ hB0 hB
  obtain⟨e',he⟩:=hk.row hk0
  exact⟨e',k,n,⟨c',hc,he⟩,h4,by rw[hβ];exact h5⟩
 |yld b'=>
  rintro x0 x ⟨_,_,_,_,_,_,hB0,_⟩ ⟨g,fr,ps,ca,cb,st,hB,rfl⟩
  obtain⟨c',hc,hk,hβ⟩:=hx b' _ _ hB0 hB
  cases c' with
  |lp g' fr' ps' ca' cb' st'=>obtain⟨rfl,_⟩:=hk;exact⟨g,fr',ps',ca',cb',st',hc,rfl⟩
  |_=>simp[CR]at hk
 |nil=>intro x0 x _ h;exact h
 |und=>intro x0 x _ h;trivial
 |_=>intro x0 x _ h;exact Ao.weak hA h
theorem CP.two{w:World}{Aa A:Nat->Prop}{Ba:Br}(h0:CP P wa Aa Ba βa 0 b c)(h:CP P w A B β 0 b c)(hA:∀g,g<w.heap.size->A g->A' g)
  (hx:∀b c0 c1,Ba b=some c0->B b=some c1->∃c',B' b=some c'/\CR c1 c'/\β' b=β b) (hb:β' b=β b):CP P w A' B' β' 0 b c:=by
 have two:=A7.two (wa:=wa) (w:=w) (Aa:=Aa) (A:=A) (A':=A') (βa:=βa) hA hx
 cases c with
 |cells l=>
  obtain⟨_,_,_,_,_,_,r0⟩:=h0
  obtain⟨hl,g,ys,t,h1,h2,h3⟩:=h
  exact⟨hl,g,ys,t,by rw[hb];exact h1,h2,two _ _ _ r0 h3⟩
 |lp g fr ps ca cb st=>
  obtain⟨_,rec0,_,_,_,_,r0⟩:=h0
  obtain⟨h1,rec,nt,h2,h3,h4,h5⟩:=h
  exact⟨by rw[hb];exact h1,rec,nt,h2,h3,h4,fun t=>two _ _ _ (r0 t) (h5 t)⟩
 |mp kd has f=>
  obtain⟨_,m0,_,_,r0⟩:=h0
  obtain⟨g,m,h1,h2,h3⟩:=h
  refine⟨g,m,by rw[hb];exact h1,h2,fun k=>⟨(h3 k).1,fun hk=> ?_⟩⟩
  obtain⟨y,hy,hr⟩:=(h3 k).2 hk
  obtain⟨y0,_,hr0⟩:=(r0 k).2 hk
  exact⟨y,hy,two _ _ _ hr0 hr⟩
 |mz kd f=>
  obtain⟨_,m0,_,_,r0⟩:=h0
  obtain⟨g,m,h1,h2,h3⟩:=h
  exact⟨g,m,by rw[hb];exact h1,h2,fun k=>two _ _ _ (r0 k) (h3 k)⟩
 |wc g v=>
  obtain⟨_,_,_,_,r0⟩:=h0
  obtain⟨h1,y,t,h2,h3⟩:=h
  exact⟨by rw[hb];exact h1,y,t,h2,two _ _ _ r0 h3⟩
 |it m kd seen last=>
  obtain⟨_,_,r0⟩:=h0
  obtain⟨g,h1,h2⟩:=h
  refine⟨g,by rw[hb];exact h1,fun mb hmb=> ?_⟩
  obtain⟨⟨_,q0,_⟩,_⟩:=r0 mb hmb
  obtain⟨⟨c,h3,h3'⟩,gm,h4,h5⟩:=h2 mb hmb
  obtain⟨c',q1,q2,q3⟩:=hx mb _ _ q0 h3
  exact⟨⟨c',q1,q2.map h3'⟩,gm,by rw[q3];exact h4,h5⟩
 |row e k n cc=>
  obtain⟨h1,hk,hn,xs,ho,hc⟩:=h
  refine⟨by rw[hb];exact h1,hk,hn,xs,by rw[hb];exact ho,fun i hi j hj=> ?_⟩
  obtain⟨y,hy,ho1,hr⟩:=hc i hi j hj
  exact⟨y,hy,ho1,Ao.weak hA hr⟩
 |rown e k n cc=>
  obtain⟨_,_,_,_,_,r0⟩:=h0
  obtain⟨h1,hk,hn,xs,ho,hc⟩:=h
  refine⟨by rw[hb];exact h1,hk,hn,xs,by rw[hb];exact ho,fun i hi j hj=> ?_⟩
  obtain⟨y,hy,ho1,hr⟩:=hc i hi j hj
  obtain⟨_,_,_,hr0⟩:=r0 i hi j hj
  exact⟨y,hy,ho1,two _ _ _ hr0 hr⟩
theorem AL.chkG{fr0:Fr}{bx0:Bx}{nx0 nx1:Nat}{aa:Act}{w:World}(h0:AL P A0 w0 βa stk as fr0 bx0 nx0 aa wa)(h1:AL P A0 w0 β stk as fr1 bx1 nx1 a w)(hc:LY bx0 nx0 fr1 bx1 fr' bx' nx'):
  ∃β',AL P A0 w0 β' stk as fr' bx' nx' a w:=by
 classical
 obtain⟨ren,hro,hnx,ha,hbb,hcc,hdd⟩:=hc
 -- behind the renaming
 obtain⟨β3,hfr3,hdf3,hmem3,hal3,hlink,hkin3⟩:∃β3:Bn->CK,(∀t,Ar A0 w0 β3 (Ab (EV ren (fr1,bx1)).2) w (Au (EV ren (fr1,bx1)).1 t) (a.tmps.getD t undef))/\True/\(∃N,Fp P A0 w0 β3 (Ab (EV ren (fr1,bx1)).2) N w)/\
   (∀g,g<w.heap.size->Al A0 w0 (Ab bx1) β g->Al A0 w0 (Ab (EV ren (fr1,bx1)).2) β3 g)/\
   (∀b c0 c1,Ab bx0 b=some c0->Ab bx1 b=some c1->β3 b=β b/\∃c3,Ab (EV ren (fr1,bx1)).2 b=some c3)/\
   ∀b c,Ab bx0 b=some c->Ab bx1 b=some c->∃c3,Ab (EV ren (fr1,bx1)).2 b=some c3/\CR c3 c:=by
  cases ren with
  |none=>exact⟨β,h1.fr,trivial,⟨_,h1.mem⟩,fun _ _ h=>h,fun b c0 c1 _ hb=>⟨rfl,c1,hb⟩,fun b c _ hb=>⟨c,hb,CR.refl c⟩⟩
  |some p=>
   obtain⟨b,y⟩:=p
   obtain⟨hb0,hy0,⟨c,hb⟩,hy⟩:=hro
   have he:EV (some (b,y)) (fr1,bx1)=(GH b y fr1,Aj (FJ b y (BQ bx1 b)) y (CA b y c)):=by simp[EV,hb]
   rw[he]
   have h1':AL P A0 w0 β [] [] fr1 bx1 (max nx1 (y.id+1)) a w:=⟨⟨h1.mem.bx,h1.mem.inj,fun b c hb=>Nat.lt_of_lt_of_le (h1.mem.nx b c hb) (Nat.le_max_left _ _),h1.mem.base,h1.mem.below⟩,h1.fr,trivial,⟨h1.df.1.sublist (by simp[N1]),fun d hd=>h1.df.2 d (by simp[N1]at hd⊢;exact .inl hd)⟩,fun f hf=>by cases hf⟩
   have hB1:∀x,Ab (Aj (FJ b y (BQ bx1 b)) y (CA b y c)) x=if x=y then some (CA b y c)else if x=b then none else(Ab bx1 x).map (CA b y):=by
    intro x;rw[Ac,Jq,Bt]
    split
    ·rfl
    split<;>rfl
   have h3:=h1'.ren1 hb hy (by omega) (fun f hf=>by cases hf)
   refine⟨BL β y (β b),h3.fr,trivial,⟨_,h3.mem⟩,?_,fun x c0 c1 q0 q1=> ?_,fun x c0 q0 q1=> ?_⟩
   ·rintro g hg ⟨hA,hn⟩
    refine⟨hA,fun x c' hx e=> ?_⟩
    rw[hB1]at hx
    split at hx
    ·rename_i e2;subst e2;rw[Aq]at e;exact hn b c hb e
    rename_i e2
    split at hx
    ·cases hx
    obtain⟨c2,q2,_⟩:=Option.map_eq_some_iff.1 hx
    rw[show BL β y (β b) x=β x from by simp[BL,e2]]at e
    exact hn x c2 q2 e
   ·have e1:x≠y:=fun e=>by subst e;rw[hy]at q1;cases q1
    have e2:x≠b:=fun e=>by subst e;rw[hb0]at q0;cases q0
    exact⟨by simp[BL,e1],_,by rw[hB1,if_neg e1,if_neg e2,q1];rfl⟩
   have e1:x≠y:=fun e=>by subst e;rw[hy]at q1;cases q1
   have e2:x≠b:=fun e=>by subst e;rw[hb0]at q0;cases q0
   exact⟨_,by rw[hB1,if_neg e1,if_neg e2,q1];rfl,by cases c0<;>simp[CA,CR]⟩
 obtain⟨N3,hmem3⟩:=hmem3
 generalize (EV ren (fr1,bx1)).1=fr3 at*
 generalize (EV ren (fr1,bx1)).2=bx3 at*
 let β':Bn->CK:=fun b=>if BT bx3 bx' b then⟨none,0,0⟩else β3 b
 have hβ:∀b c,Ab bx3 b=some c->β' b=β3 b:=by
  intro b c hb
  have:¬BT bx3 bx' b:=fun hn=>by rw[hn.1]at hb;cases hb
  simp only[β',if_neg this]
 have hold:∀b c',Ab bx' b=some c'->¬BT bx3 bx' b->∃c,Ab bx3 b=some c:=by
  intro b c' hc' hnew
  cases hb3:Ab bx3 b with
  |none=>exact absurd ⟨hb3,c',hc'⟩ hnew
  |some c0=>exact⟨c0,rfl⟩
 have hA3:∀g,g<w.heap.size->Al A0 w0 (Ab bx3) β3 g->Al A0 w0 (Ab bx') β' g:=by
  rintro g hg ⟨hA,hn⟩
  refine⟨hA,fun b c hb e=> ?_⟩
  by_cases hnew:BT bx3 bx' b
  ·simp only[β',if_pos hnew]at e;cases e
  obtain⟨c0,hc0⟩:=hold b c hb hnew
  rw[hβ b c0 hc0]at e
  exact hn b c0 hc0 e
 have hA1:∀g,g<w.heap.size->Al A0 w0 (Ab bx1) β g->Al A0 w0 (Ab bx') β' g:=fun g hg h=>hA3 g hg (hal3 g hg h)
 have hkk:∀b c3 c',Ab bx3 b=some c3->Ab bx' b=some c'->CR c3 c':=by
  intro b c3 c' h3 h'
  rcases hbb b c' h' with⟨q0,q1⟩|q
  ·obtain⟨c4,q2,q3⟩:=hkin3 b c' q0 q1
   rw[h3]at q2;cases q2;exact q3
  rw[h3]at q;exact Ed q
 have hB:∀b c,Ab bx3 b=some c->Fc bx' b->∃c',Ab bx' b=some c'/\CR c c'/\β' b=β3 b:=by
  rintro b c hb ⟨c',hc'⟩
  exact⟨c',hc',hkk b c c' hb hc',hβ b c hb⟩
 have hnewb:∀b c',BT bx3 bx' b->Ab bx' b=some c'->∃e k,0<k/\((∃c,c'= .row e k 0 c)\/∃c,c'= .rown e k 0 c):=by
  intro b c' hn hc'
  rcases hbb b c' hc' with⟨q0,q1⟩|q
  ·obtain⟨c4,q2,q3⟩:=hkin3 b c' q0 q1
   rw[hn.1]at q2;cases q2
  rw[hn.1]at q;exact Lq q
 have hN:∀b,BT bx3 bx' b->(∃e k n,JB (Ab bx') b e k n)/\(β' b).a=none/\(β' b).n=0/\(β' b).cap=0:=by
  intro b hn
  obtain⟨c',hc'⟩:=hn.2
  refine⟨?_,by simp only[β',if_pos hn],by simp only[β',if_pos hn],by simp only[β',if_pos hn]⟩
  obtain⟨e,k,_,⟨c,rfl⟩|⟨c,rfl⟩⟩:=hnewb b c' hn hc'<;>exact⟨e,k,0,_,hc',rfl⟩
 -- by GG that stood there at the start,and stand there now
 have htwo:∀b c0 c1,Ab bx0 b=some c0->Ab bx1 b=some c1->∃c',Ab bx' b=some c'/\CR c1 c'/\β' b=β b:=by
  intro b c0 c1 q0 q1
  obtain⟨c',q2,q3⟩:=hdd b c0 c1 q0 q1
  obtain⟨q4,c3,q5⟩:=hlink b c0 c1 q0 q1
  exact⟨c',q2,q3,(hβ b c3 q5).trans q4⟩
 refine⟨β',⟨fun b c' hc'=> ?_,fun b c b' c' g hb hb' hne hg hg'=> ?_,fun b c hb=> ?_,fun b c g hb hg=> ?_,h1.mem.below⟩,fun t=>Df hB hA3 hN _ _ _ (Iv ha t) (hfr3 t),?_,h1.df.mono (Nat.le_refl _) (fun g hg hx=>⟨hA1 g hg hx,rfl⟩),fun f hf=>Nat.le_trans (h0.sn f hf) hnx⟩
 ·rcases hbb b c' hc' with⟨q0,q1⟩|hk
  ·obtain⟨c2,q2,_,q4⟩:=htwo b c' c' q0 q1
   exact(h0.mem.bx b c' q0).two (h1.mem.bx b c' q1) hA1 htwo q4
  by_cases hnew:BT bx3 bx' b
  ·obtain⟨_,e1,e2,e3⟩:=hN b hnew
   obtain⟨e,k,hk0,⟨c,rfl⟩|⟨c,rfl⟩⟩:=hnewb b c' hnew hc'<;>exact⟨e2,hk0,Nat.zero_le _,[],by rw[e1,e3];exact World.ownsRow_nil w _ e k,fun i hi=>by omega⟩
  obtain⟨c0,hc0⟩:=hold b c' hc' hnew
  rw[hc0]at hk
  exact PY hk (hmem3.bx b c0 hc0) (hβ b _ hc0) hB hA3 hN (fun m cm hm=>hβ m cm hm)
 ·by_cases hn:BT bx3 bx' b
  ·simp only[β',if_pos hn]at hg;cases hg
  by_cases hn':BT bx3 bx' b'
  ·simp only[β',if_pos hn']at hg';cases hg'
  obtain⟨c0,hc0⟩:=hold b c hb hn
  obtain⟨c1,hc1⟩:=hold b' c' hb' hn'
  rw[hβ b _ hc0]at hg
  rw[hβ b' _ hc1]at hg'
  exact hmem3.inj b c0 b' c1 g hc0 hc1 hne hg hg'
 ·rcases hcc b c hb with⟨c0,q0⟩|q
  ·exact Nat.lt_of_lt_of_le (h0.mem.nx b c0 q0) hnx
  exact q
 ·by_cases hn:BT bx3 bx' b
  ·simp only[β',if_pos hn]at hg;cases hg
  obtain⟨c0,hc0⟩:=hold b c hb hn
  rw[hβ b _ hc0]at hg
  exact hmem3.base b c0 g hc0 hg
 have hs0:=h0.st
 have hs1:=h1.st
 clear h0 h1
 induction stk generalizing as with
 |nil=>cases as<;>exact hs1
 |cons f l ih=>
  cases as with
  |nil=>exact hs1
  |cons a as=>
   refine⟨fun t=>A7.two hA1 (fun b c0 c1 q0 q1=> ?_) _ _ _ (hs0.1 t) (hs1.1 t),ih hs0.2 hs1.2⟩
   simp only[EH]at q0 q1⊢
   split at q0
   ·rename_i hlt
    rw[if_pos hlt]at q1⊢
    exact htwo b c0 c1 q0 q1
   cases q0
theorem AL.chkL{fr0:Fr}{bx0:Bx}{nx0 nx1:Nat}{aa:Act}{w:World}(h0:AL P A0 w0 βa stk as fr0 bx0 nx0 aa wa)(h1:AL P A0 w0 β stk as fr1 bx1 nx1 a w)(hc:GU (Ez stk) bx0 fr1 bx1 fr' bx' nx0 nx')(hn:nx0<=nx'):
  ∃β',AL P A0 w0 β' stk as fr' bx' nx' a w:=by
 rcases hc with hc|hc
 ·exact h1.chkF hc fun f hf=>⟨h0.sn f hf,Nat.le_trans (h0.sn f hf) hn⟩
 exact h0.chkG h1 hc
theorem ZF:∀{stk stk':List Av},BF stk=BF stk'->Eo stk=Eo stk'->stk=stk':=by
 intro stk;induction stk with
 |nil=>intro stk' h _;cases stk' with
  |nil=>rfl
  |cons=>simp[BF]at h
 |cons f l ih=>
  intro stk' h1 h2
  cases stk' with
  |nil=>simp[BF]at h1
  |cons f' l'=>
   simp only[BF,List.map_cons,List.cons.injEq,Prod.mk.injEq]at h1
   simp only[Eo,List.cons.injEq]at h2
   obtain⟨⟨e1,e2,e3,e4⟩,h1⟩:=h1
   obtain⟨e5,h2⟩:=h2
   rw[ih h1 h2]
   cases f;cases f'
   simp at e1 e2 e3 e4 e5
   simp[e1,e2,e3,e4,e5]
theorem Rb(b:Bn)(c:Cw)(bx:Bx):Ab (AJ b .und (BQ bx b))=Ab (AJ b .und (BQ (Aj bx b c) b)):=by
 funext x
 simp only[AP,Bt,Ac]
 split<;>rfl
theorem Tw(he:Cc P E A0 w0):∀n,IL P E A0 w0 Qf n:=by
 intro n
 induction n using Nat.strongRecOn with
 |_ n IH=>
 intro K stk res fr bx nx hrun nt ds ro Qb next Q a w β as sk hsz hrel hsk hkr hret hds
 cases n with
 |zero=>simp[run]at hrun
 |succ n=>
 have IH':∀m,m<=n->IL P E A0 w0 Qf m:=fun m hm=>IH m (by omega)
 have hgo:∀{K':List BY} {next':Act->World->Prop} {Q':Exit->Act->World->Prop},Dd K'=Dd K->Bl K'=Bl K->KR P A0 w0 nt ds ro Qb as sk K' next' Q'->Kp P E A0 w0 Qf n nt ds as sk res K' next':=by
  intro K' next' Q' hends hcat hk m β' stk' fr' bx' nx' a' w' hm hsz' hrel' hsk' hrun'
  exact IH' m hm K' stk' res fr' bx' nx' hrun' nt ds ro Qb next' Q' a' w' β' as sk hsz' hrel' hsk' hk (by rw[hends];exact hret.mono (by omega)) (by rw[hcat];exact hds)
 have hgp:∀{K':List BY} {next':Act->World->Prop} {Q':Exit->Act->World->Prop},Dd K'=Dd K->Bl K'=Bl K->KR P A0 w0 nt ds ro Qb as sk K' next' Q'->J1 P E A0 w0 Qf n nt ds as sk res K' Q':=by
  intro K' next' Q' hends hcat hk m β' stk' fr' bx' nx' a' w' T k z hm hsz' hrel' hsk' hpk hpf
  have hn:=Pw K' hpk
  rw[<-hends,hn]at hret
  exact hk.pan hpk _ a' w' (hret.2.2 (Bl K') β' stk' fr' bx' nx' a' w' m T k z (by omega) (by rw[hsz'.2,hcat];exact hds) hrel' hsk' hpf)
 have hgt:∀{K':List BY} {next' nx'':Act->World->Prop} {Q':Exit->Act->World->Prop},Dd K'=Dd K->Bl K'=Bl K->KR P A0 w0 nt ds ro Qb as sk K' next' Q'->J1 P E A0 w0 Qf n nt ds as sk res K' (Exit.then nx'' Q'):=
  fun h1 h2 h3 m β stk fr bx nx a w T k z q1 q2 q3 q4 q5 q6=>hgp h1 h2 h3 m β stk fr bx nx a w T k z q1 q2 q3 q4 q5 q6
 have hdr:Nx E (Bl K) (Dw a):=by rw[hsz.2];exact hds
 have hrofs:=hkr.rofs
 have hret0:=hret
 cases hkr with
 |nil hro=>
  simp only[run]at hrun
  refine(hret.2.1 _ β stk fr bx nx a w hdr hrel hsk ⟨hrun.1,?_⟩).2
  cases stk with
  |nil=>exact hrun.2
  |cons f s=>exact⟨n,by omega,hrun.2⟩
 |ctch hro=>
  simp only[run]at hrun
  cases n with
  |zero=>exact hrun.elim
  |succ n=>
  simp only[run]at hrun
  refine(hret.2.1 _ β stk fr bx nx a w hdr hrel hsk ⟨hrun.1,?_⟩).2
  cases stk with
  |nil=>exact hrun.2
  |cons f s=>exact⟨n,by omega,hrun.2⟩
 | @rend b g hro=>
  simp only[run]at hrun
  exact(hret.2 β stk fr bx nx a w n hrel hsk (by omega)).1 hrun
 | @lend b g K nx' Q' hk=>
  simp only[run]at hrun
  split at hrun
  ·rename_i g' fr1 ps ca cb st hb
   obtain⟨rfl,hrun⟩:=hrun
   obtain⟨rec,nt',l1,l2,l3,l4,l5⟩:=hrel.lpget hb
   have hr1:=hrel.lpset (s:= .exhausted) (pd:=rec.pending) (st':= .over) hb l2 trivial
   have hr2:=hr1.drop (b:=b) (by rw[Ac,if_pos rfl])
   replace hr2:=hr2.congr (fun _=>rfl) (Rb b _ bx)
   cases st with
   |ready=>
    refine⟨_,_,run_endLoop l2 (by rw[l4.1];simp),?_⟩
    rw[l4.2]at hr2⊢
    exact hgo (by rfl) (by rfl) hk n β (AC b .und stk) _ _ nx a _ (Nat.le_refl _) hsz hr2 ((Di b .und stk).trans hsk) hrun
   |busy=>exact hrun.elim
   |over=>exact hrun.elim
   |done c=>
    refine⟨_,_,run_endLoop l2 (by rw[l4.1];simp),?_⟩
    rw[l4.2]at hr2⊢
    have hcc:Cv P nt c.code=some c.acode:=by cases c<;>rfl
    have:=hgo (by rfl) (by rfl) (KR.code hcc hk) n β (AC b .und stk) _ _ nx a _ (Nat.le_refl _) hsz hr2 ((Di b .und stk).trans hsk) hrun
    exact this
  exact hrun.elim
 | @rbeg b g K nx' Q' hends hk=>
  simp only[run]at hrun
  split at hrun
  ·rename_i g' fr1 ps ca cb hb
   obtain⟨rfl,hrun⟩:=hrun
   obtain⟨rec,nt',l1,l2,l3,⟨l4,l4'⟩,l5⟩:=hrel.lpget hb
   refine⟨_,run_beginRound l2 l4,?_⟩
   exact hgo (by rfl) (by rfl) hk n β stk fr _ nx a _ (Nat.le_refl _) hsz (hrel.lpset (s:= .busy) (pd:=rec.pending) (st':= .busy) hb l2 rfl) hsk hrun
  exact hrun.elim
 | @blk id K nx' Q' hk=>simp only[run]at hrun;exact hgo (by rfl) (by rfl) hk n β stk fr bx nx a w (Nat.le_refl _) hsz hrel hsk hrun
 | @inv J K nx' Q' nxt hk hj=>simp only[run]at hrun;exact hj β stk fr bx nx a w hsz hrel hsk hrun
 | @ops ops i l K nx' Q' hc hk=>
  cases l with
  |nil=>
   simp only[run]at hrun
   have hi:ops.size<=i:=by
    rcases Nat.lt_or_ge i ops.size with h|h
    ·have hne:ops.toList.drop i≠[]:=by simp;omega
     cases hd:ops.toList.drop i with
     |nil=>exact absurd hd hne
     |cons x y=>rw[hd]at hc;simp only[EC]at hc;split at hc<;>simp at hc
    exact h
   have:ops.size-i=0:=by omega
   rw[this]
   simp only[List.range'_zero,wpOpsIn]
   exact hgo (by rfl) (by rfl) hk n β stk fr bx nx a w (Nat.le_refl _) hsz hrel hsk hrun
  |cons ao l=>
   cases hd:ops.toList.drop i with
   |nil=>rw[hd]at hc;simp[EC]at hc
   |cons o rest=>
    rw[hd]at hc
    simp only[EC]at hc
    split at hc
    ·rename_i ao' l' h1 h2
     simp at hc
     obtain⟨rfl,rfl⟩:=hc
     have hlt:i<ops.size:=by
      rcases Nat.lt_or_ge i ops.size with h|h
      ·exact h
      rw[List.drop_eq_nil_of_le (by simpa using h)]at hd;cases hd
     have hget:ops[i]?=some o:=by
      have:=congrArg List.head? hd
      rw[List.head?_drop]at this
      simpa using this
     have hrest:ops.toList.drop (i+1)=rest:=by
      rw[<-List.drop_drop,hd];rfl
     have hstep:=PZ (ro:=ro) (Q:=Exit.then nx' Q) (knext:=wpOpsIn (FW ro) 0 P ops (Exit.then nx' Q) (List.range' (i+1) (ops.size-(i+1)))) he IH' h1 hsz hrel hsk
      (hgo (by rfl) (by rfl) (KR.ops (ops:=ops) (i:=i+1) (by rw[hrest];exact h2) hk)) (fun _=>hgt (by rfl) (by rfl) (KR.ops (ops:=ops) (i:=i+1) (by rw[hrest];exact h2) hk)) (fun _ hpl=>by
       obtain⟨p1,p2,p3⟩:=M5 K hpl
       have hds':Nx E (Bl K) ds:=hds
       have hret':ON P E A0 w0 Qf (n+1) res sk as Qb (Dd K):=hret
       have hrofs':(Dd K).map (·.2)=ro:=hrofs
       rw[p1]at hrofs' hret'
       rw[p2]at hds'
       refine⟨hrofs'.symm,hds',fun id b g T k hC m β' stk' fr' bx' nx' a' w' hm hsz' hrel' hsk' hrun'=> ?_⟩
       obtain⟨q1,q2⟩:=p3 b g T k
       exact IH' m hm _ stk' res fr' bx' nx' hrun' nt [N0 id g] ro Qb _ _ a' w' β' as sk hsz' hrel' hsk' (KR.ops (ops:=ops) (i:=i+1) (by rw[hrest];exact h2) (hk.catch hpl [N0 id g] b g T k)) (by
        show ON P E A0 w0 Qf m res sk as Qb (Dd (K++[.ctch b g T k]))
        rw[q1];exact hret'.mono (by omega)) (by
        show Nx E (Bl (K++[.ctch b g T k])) [N0 id g]
        rw[q2];exact⟨id,hC,rfl⟩)) hrun
     have hrange:List.range' i (ops.size-i)=i::List.range' (i+1) (ops.size-(i+1)):=by
      rw[show ops.size-i=(ops.size-(i+1))+1 from by omega,List.range'_succ]
     rw[hrange]
     simp only[wpOpsIn,hget]
     exact hstep
    cases hc
 | @code c ac K nx' Q' hc hk=>
  cases c with
  |skip=>simp[Cv]at hc;subst hc;simp only[run]at hrun;exact wpIn_skip (hgo (by rfl) (by rfl) hk n β stk fr bx nx a w (Nat.le_refl _) hsz hrel hsk hrun)
  |label l=>simp[Cv]at hc;subst hc;simp only[run]at hrun;exact wpIn_label (hgo (by rfl) (by rfl) hk n β stk fr bx nx a w (Nat.le_refl _) hsz hrel hsk hrun)
  |seq x y=>
   simp only[Cv]at hc
   split at hc<;>simp at hc
   rename_i ax ay h1 h2
   subst hc
   simp only[run]at hrun
   have:=hgo (by rfl) (by rfl) (KR.code h1 (KR.code h2 hk)) n β stk fr bx nx a w (Nat.le_refl _) hsz hrel hsk hrun
   refine wpIn_seq (wpIn_mono this fun e a w hq=> ?_)
   cases e<;>exact hq
  |cond q x y=>
   simp only[Cv]at hc
   split at hc<;>simp at hc
   rename_i oq ax ay h0 h1 h2
   subst hc
   simp only[run]at hrun
   have hq:=Bs he hrel.mem (x:=q) (fun t _=>hrel.fr t) oq h0
   split at hrun
   ·rename_i t ht
    rw[ht]at hq
    exact wpIn_cond_split hq (fun ht=>hgo (by rfl) (by rfl) (KR.code h1 hk) n β stk fr bx nx a w (Nat.le_refl _) hsz hrel hsk (hrun.1 ht)) (fun ht=>hgo (by rfl) (by rfl) (KR.code h2 hk) n β stk fr bx nx a w (Nat.le_refl _) hsz hrel hsk (hrun.2 ht))
   exact hrun.elim
  |block id x=>
   simp only[Cv]at hc
   obtain⟨ax,h1,rfl⟩:=Option.map_eq_some_iff.1 hc
   simp only[run]at hrun
   have:=hgo (by rfl) (by rfl) (KR.code h1 (KR.blk (id:=id) hk)) n β stk fr bx nx a w (Nat.le_refl _) hsz hrel hsk hrun
   refine wpIn_block (wpIn_mono this fun e a w hq=> ?_)
   cases e<;>exact hq
  |exit id=>
   simp[Cv]at hc;subst hc
   simp only[run]at hrun
   split at hrun
   ·rename_i K' hpop
    obtain⟨h0,h0',nx2,Q2,h1,h2⟩:=hk.pop hpop
    exact wpIn_exit (h2 a w (hgo h0 h0' h1 n β stk fr bx nx a w (Nat.le_refl _) hsz hrel hsk hrun))
   rename_i hpop
   split at hrun
   ·rename_i b g hends
    obtain⟨ha,hrun⟩:=hrun
    have hend:Dd (.code (Cm.exit id)::K)=some (b,g):=hends
    rw[hend]at hret
    exact wpIn_exit (hk.esc hpop ha a w ((hret.2 β stk fr bx nx a w n hrel hsk (by omega)).2 (.exit id) hrun))
   exact hrun.elim
  |ret=>
   simp[Cv]at hc;subst hc
   simp only[run]at hrun
   split at hrun
   ·rename_i b g hends
    obtain⟨ha,hrun⟩:=hrun
    have hend:Dd (.code Cm.ret::K)=some (b,g):=hends
    rw[hend]at hret
    exact wpIn_ret (hk.ret ha a w ((hret.2 β stk fr bx nx a w n hrel hsk (by omega)).2 .ret hrun))
   rename_i hends
   have hend:Dd (.code Cm.ret::K)=none:=hends
   rw[hend]at hret
   refine wpIn_ret (hk.ret (hk.asg hends) a w (hret.2.1 _ β stk fr bx nx a w hdr hrel hsk ⟨hrun.1,?_⟩).1)
   cases stk with
   |nil=>exact hrun.2
   |cons f s=>exact⟨n,by omega,hrun.2⟩
  |scope x=>
   simp only[Cv]at hc
   obtain⟨ax,h1,rfl⟩:=Option.map_eq_some_iff.1 hc
   simp only[run]at hrun
   have:=hgo (by rfl) (by rfl) (KR.code h1 hk) n β stk fr bx nx a w (Nat.le_refl _) hsz hrel hsk hrun
   refine Oq (wpIn_mono this fun e a w hq=> ?_)
   cases e with
   |goto l=>exact(hk.nogoto hret.1 l a w hq).elim
   |_=>exact hq
  |rangeFunc f ps x y=>
   simp only[Cv]at hc
   split at hc
   ·rename_i of ax ay h1 h2 h3
    split at hc
    ·rename_i hps
     simp at hc;subst hc
     simp only[run]at hrun
     exact OA he IH' h1 h2 h3 (fun t ht=>by simpa using List.all_eq_true.1 hps t ht) (K:=K) hk.rofs (fun b g=>hgo (by rfl) (by rfl) (KR.lend (b:=b) hk)) hsz hrel hsk hrun
    cases hc
   cases hc
  |loop x=>
   simp only[Cv]at hc
   obtain⟨ax,h1,rfl⟩:=Option.map_eq_some_iff.1 hc
   simp only[run,FL]at hrun
   obtain⟨d,T,⟨m0,fr0,bx0,hT0,hchk0⟩,hround⟩:=hrun
   have hsn:=hrel.sn
   obtain⟨β0,hrel0⟩:=hrel.chkL hrel hchk0 (Nat.le_add_right nx d)
   let J:Nat->Act->World->Prop:=fun m a w=>FQ nt ds a/\∃β fr' bx',T m fr' bx'/\AL P A0 w0 β stk as fr' bx' (nx+d) a w
   refine Mt J (m:=m0) ⟨hsz,β0,fr0,bx0,hT0,hrel0⟩ ?_
   rintro m a1 w1 ⟨hsz1,β1,fr1,bx1,hT1,hrel1⟩
   have:=hgo (by rfl) (by rfl) (KR.code h1 (KR.inv (J:=fun s fr1 bx1=>s=Eo stk/\∃m',m'<m/\∃fr'' bx'',T m' fr'' bx''/\GU (Ez stk) bx fr1 bx1 fr'' bx'' nx (nx+d)) (nxt:=fun a' w'=>∃m',m'<m/\J m' a' w') hk ?_)) n β1 stk fr1 bx1 (nx+d) a1 w1 (Nat.le_refl _) hsz1 hrel1 hsk (hround m fr1 bx1 hT1)
   ·refine wpIn_mono this fun e a w hq=> ?_
    cases e<;>exact hq
   rintro β2 stk2 fr2 bx2 n2 a2 w2 hsz2 hrel2 hsk2 ⟨hs,m',hm',fr3,bx3,hT3,hchk⟩
   have hstk:stk2=stk:=ZF (hsk2.trans hsk.symm) hs
   subst hstk
   obtain⟨β3,hrel3⟩:=hrel.chkL hrel2 hchk (Nat.le_add_right nx d)
   exact⟨m',hm',hsz2,β3,fr3,bx3,hT3,hrel3⟩
  |region id ops draw=>
   simp only[Cv]at hc
   split at hc
   ·rename_i l h1
    cases draw with
    |false=>
     simp at hc;subst hc
     simp only[run]at hrun
     have:=hgo (by rfl) (by rfl) (KR.ops (ops:=ops) (i:=0) (by simpa using h1) hk) n β stk fr bx nx a w (Nat.le_refl _) hsz hrel hsk hrun
     refine wpIn_region ?_
     rw[List.range_eq_range']
     simpa using this
    |true=>
     simp only[if_true]at hc
     split at hc
     ·obtain⟨⟨d,l'⟩,hd,rfl⟩:=Option.map_eq_some_iff.1 hc
      simp only[run]at hrun
      refine wpIn_region_any he.mixed ?_
      exact Hg he IH' h1 hd hrun hsz hrel.drew hsk (hgo (by rfl) (by rfl) hk) (fun _=>hgt (by rfl) (by rfl) hk) (fun a w h=>h)
     rename_i k hk0
     split at hc
     ·rename_i l1 h1'
      split at hc
      ·rename_i hdl
       split at hc
       case h_2=>cases hc
       rename_i p hd
       obtain⟨d,l'⟩:=p
       split at hc
       case h_2=>cases hc
       rename_i hnp
       simp only[Option.some.injEq]at hc
       subst hc
       simp only[run]at hrun
       refine wpIn_region_any he.mixed ?_
       have hL:(CF ops k).toList=F3 k 0 ops.toList:=by simp[CF]
       refine TN hdl (fun a w h=>h) ?_
       exact Hg (ops:=CF ops k) (nt:=nt) he IH' (by rw[hL];exact h1') (by rw[hL];exact hd) hrun hsz hrel.drew hsk (hgo (by rfl) (by rfl) hk) (fun hex=>by
        obtain⟨ao,hm,hcp⟩:=hex
        have:=List.all_eq_true.1 hnp ao hm
        rw[hcp]at this;cases this) (fun a w h=>⟨rfl,h⟩)
      cases hc
     cases hc
   cases hc
  |_=>simp[Cv]at hc
end Go.Proofs.YtlieoghhkioflaaGreat
/- The engine,part 21b: AA = run,but nothing unfolds it,so that the check of a proof does not go astray in it. No condition. -/
namespace Go.Proofs.YtlieoghhkioflaaGreat
open Go
variable(E:Db)(Q:Ad->Bx->Prop)
theorem PO:∃r:Nat->List BY->List Av->List B6->Fr->Bx->Nat->Prop,r=run E Q:=⟨_,rfl⟩
noncomputable def AA:Nat->List BY->List Av->List B6->Fr->Bx->Nat->Prop:=Classical.choose (PO E Q)
theorem Bq:AA E Q=run E Q:=Classical.choose_spec (PO E Q)
set_option autoImplicit true
theorem Zj{x1}{x2}{x3}{x4}{x5}{x6}:AA E Q (0) (x1) (x2) (x3) (x4) (x5) (x6)=(False):=by
 simp only[Bq]
 rfl
theorem XZ{n}{stk}{res}{fr}{bx}{nx}:AA E Q (n+1) ([]) (stk) (res) (fr) (bx) (nx)=(match Hw fr bx res with
  |(p,v)=>p/\match stk with
   |[]=>Q v bx
   |f::stk=>AA E Q n f.K stk f.res (Ai f.fr f.d v) bx nx):=by
 simp only[Bq]
 rfl
theorem YA{n}{K}{stk}{res}{fr}{bx}{nx}:AA E Q (n+1) (.code .ret::K) (stk) (res) (fr) (bx) (nx)=(match Dd K with
  |some (b,g)=>LQ K=false/\Em (AA E Q n) b g (.done .ret) false stk bx nx
  |none=>match Hw fr bx res with
  |(p,v)=>p/\match stk with
   |[]=>Q v bx
   |f::stk=>AA E Q n f.K stk f.res (Ai f.fr f.d v) bx nx):=by
 simp only[Bq]
 rfl
theorem YR{n}{K}{stk}{res}{fr}{bx}{nx}:AA E Q (n+1) (.code .skip::K) (stk) (res) (fr) (bx) (nx)=(AA E Q n K stk res fr bx nx):=by
 simp only[Bq]
 rfl
theorem YO{n}{a}{b}{K}{stk}{res}{fr}{bx}{nx}:AA E Q (n+1) (.code (.seq a b)::K) (stk) (res) (fr) (bx) (nx)=(AA E Q n (.code a:: .code b::K) stk res fr bx nx):=by
 simp only[Bq]
 rfl
theorem ZQ{n}{id}{a}{K}{stk}{res}{fr}{bx}{nx}:AA E Q (n+1) (.code (.block id a)::K) (stk) (res) (fr) (bx) (nx)=(AA E Q n (.code a:: .blk id::K) stk res fr bx nx):=by
 simp only[Bq]
 rfl
theorem Zt{n}{a}{K}{stk}{res}{fr}{bx}{nx}:AA E Q (n+1) (.code (.scope a)::K) (stk) (res) (fr) (bx) (nx)=(AA E Q n (.code a::K) stk res fr bx nx):=by
 simp only[Bq]
 rfl
theorem ZS{n}{x1}{K}{stk}{res}{fr}{bx}{nx}:AA E Q (n+1) (.blk x1::K) (stk) (res) (fr) (bx) (nx)=(AA E Q n K stk res fr bx nx):=by
 simp only[Bq]
 rfl
theorem Y3{n}{id}{K}{stk}{res}{fr}{bx}{nx}:AA E Q (n+1) (.code (.exit id)::K) (stk) (res) (fr) (bx) (nx)=(match GF id K with
  |some K'=>AA E Q n K' stk res fr bx nx
  |none=>match Dd K with
   |some (b,g)=>LQ K=false/\Em (AA E Q n) b g (.done (.exit id)) false stk bx nx
   |none=>False):=by
 simp only[Bq]
 rfl
theorem Vz{n}{f}{ps}{ks}{ca}{cb}{K}{stk}{res}{fr}{bx}{nx}:AA E Q (n+1) (.code (.rng f ps ks ca cb)::K) (stk) (res) (fr) (bx) (nx)=(HI bx (Dd K)/\match ev E fr f with
  | .func (.func id) caps=>match E.I id with
   |some af=>BA caps=true/\∀g:Nat,AA E Q n [.code af.code] (⟨none,.lend nx g::K,res,fr,nx+1⟩::stk) af.res (params 0 (.yld nx::BK caps)) ((nx,.one (.lp g (FM ks fr) ps ca cb .ready))::bx) (nx+1)
   |none=>False
  |_=>False):=by
 simp only[Bq]
 rfl
theorem Xp{n}{b}{g}{K}{stk}{res}{fr}{bx}{nx}:AA E Q (n+1) (.lend b g::K) (stk) (res) (fr) (bx) (nx)=(match Ab bx b with
  |some (.lp g' _ _ _ _ st)=>g'=g/\match st with
   | .ready=>AA E Q n K (AC b .und stk) res (AK b .und fr) (AJ b .und (BQ bx b)) nx
   | .busy=>False
   | .over=>False
   | .done c=>AA E Q n (.code c.acode::K) (AC b .und stk) res (AK b .und fr) (AJ b .und (BQ bx b)) nx
  |_=>False):=by
 simp only[Bq]
 rfl
theorem Xo{n}{b}{g}{K}{stk}{res}{fr}{bx}{nx}:AA E Q (n+1) (.rbeg b g::K) (stk) (res) (fr) (bx) (nx)=(match Ab bx b with
  |some (.lp g' fr' ps ca cb .ready)=>g'=g/\AA E Q n K stk res fr (Aj bx b (.lp g fr' ps ca cb .busy)) nx
  |_=>False):=by
 simp only[Bq]
 rfl
theorem Xn{n}{b}{g}{x1}{stk}{x2}{x3}{bx}{nx}:AA E Q (n+1) (.rend b g::x1) (stk) (x2) (x3) (bx) (nx)=(Em (AA E Q n) b g .ready true stk bx nx):=by
 simp only[Bq]
 rfl
theorem Xi{n}{c}{a}{b}{K}{stk}{res}{fr}{bx}{nx}:AA E Q (n+1) (.code (.cond c a b)::K) (stk) (res) (fr) (bx) (nx)=(match ev E fr c with
  | .bool t=>(t=true->AA E Q n (.code a::K) stk res fr bx nx)/\(t=false->AA E Q n (.code b::K) stk res fr bx nx)
  |_=>False):=by
 simp only[Bq]
 rfl
theorem W3{n}{c}{K}{stk}{res}{fr}{bx}{nx}:AA E Q (n+1) (.code (.loop c)::K) (stk) (res) (fr) (bx) (nx)=(
  FL (AA E Q n) c K stk res fr bx nx):=by
 simp only[Bq]
 rfl
theorem VM{x1}{J}{x2}{stk}{x3}{fr}{bx}{x4}:AA E Q (x1+1) (.inv J::x2) (stk) (x3) (fr) (bx) (x4)=(J (Eo stk) fr bx):=by
 simp only[Bq]
 rfl
theorem Wj{n}{d}{l}{K}{stk}{res}{fr}{bx}{nx}:AA E Q (n+1) (.code (.reg d l)::K) (stk) (res) (fr) (bx) (nx)=(AA E Q n (.ops d l::K) stk res fr bx nx):=by
 simp only[Bq]
 rfl
theorem VR{n}{x1}{K}{stk}{res}{fr}{bx}{nx}:AA E Q (n+1) (.ops x1 []::K) (stk) (res) (fr) (bx) (nx)=(AA E Q n K stk res fr bx nx):=by
 simp only[Bq]
 rfl
theorem VD{n}{d}{o}{l}{K}{stk}{res}{fr}{bx}{nx}:AA E Q (n+1) (.ops d (o::l)::K) (stk) (res) (fr) (bx) (nx)=(match A9 fr o.guard with
  |none=>False
  |some true=>AA E Q n (.ops (d-1) l::K) stk res (Ai fr o.dst (.tup .nil)) bx nx
  |some false=>match FG E fr bx stk d o.op with
  |none=>False
  |some (fr,bx,stk)=>match d,o.op with
   |d,.store m a x=>match ev E fr a with
    | .ptr b off=>match Ab bx b with
     |some (.cells c)=>Bg m (ev E fr x)/\C3 (cellsOf (ev E fr x))=true/\off+m<=Bb c/\CC E (Ai fr o.dst .und) (Aj bx b (.cells (Dh c off (cellsOf (ev E fr x))))) o.re/\AA E Q n (.ops (d-1) l::K) stk res (Ai fr o.dst .und) (Aj bx b (.cells (Dh c off (cellsOf (ev E fr x))))) nx
     |some (.wc g _)=>match d with
      |0=>off=0/\m=1/\match ev E fr x with
       | .int k z=>CC E (Ai fr o.dst .und) (Aj bx b (.wc g (.int k z))) o.re/\AA E Q n (.ops 0 l::K) stk res (Ai fr o.dst .und) (Aj bx b (.wc g (.int k z))) nx
       |_=>False
      |_+1=>False
     |_=>False
    | .rptr b i off=>match Ab bx b with
     |some (.row e k m' c)=>Bg m (ev E fr x)/\C3 (cellsOf (ev E fr x))=true/\A4 (ev E fr x)=true/\off+m<=k/\
       CC E (Ai fr o.dst .und) (Aj bx b (.row e k m' fun i' j'=>if i'=i/\off<=j'/\j'<off+m then Az (cellsOf (ev E fr x)) (j'-off)else c i' j')) o.re/\
       AA E Q n (.ops (d-1) l::K) stk res (Ai fr o.dst .und) (Aj bx b (.row e k m' fun i' j'=>if i'=i/\off<=j'/\j'<off+m then Az (cellsOf (ev E fr x)) (j'-off)else c i' j')) nx
     |_=>False
    |_=>False
   |d,.app e k bytes x y=>match E.N e with
    |true=>match ev E fr y with
     | .own b'=>match Ab bx b' with
      |some (.rown _ k' m c')=>k'=k/\match ev E fr x with
       | .own b=>match Ab bx b with
        |some (.rown e' k'' n' c)=>e'=e/\k''=k/\n'+m<=maxLen/\(n'+m)*bytes<=140737488355328/\
          CC E (Ai (AK b .und fr) o.dst (.own b)) (Aj (AJ b .und bx) b (.rown e k (n'+m) fun i j=>Bc b .und (if i<n' then c i j else c' (i-n') j))) o.re/\
          AA E Q n (.ops (d-1) l::K) (AC b .und stk) res (Ai (AK b .und fr) o.dst (.own b)) (Aj (AJ b .und bx) b (.rown e k (n'+m) fun i j=>Bc b .und (if i<n' then c i j else c' (i-n') j))) nx
        |_=>False
       |_=>False
      |_=>False
     |_=>False
    |false=>match CB bx (ev E fr y)with
    |none=>False
    |some (k',m,c')=>(k'=some k\/k'=none)/\0<k/\match ev E fr x with
     | .nils=>m<=maxLen/\m*bytes<=140737488355328/\CC E (Ai fr o.dst (.own nx)) ((nx,.one (.row e k m c'))::bx) o.re/\AA E Q n (.ops (d-1) l::K) stk res (Ai fr o.dst (.own nx)) ((nx,.one (.row e k m c'))::bx) (nx+1)
     | .own b=>match Ab bx b with
      |some (.row e' k'' n' c)=>e'=e/\k''=k/\n'+m<=maxLen/\(n'+m)*bytes<=140737488355328/\
        CC E (Ai (AK b .und fr) o.dst (.own b)) (Aj (AJ b .und bx) b (.row e k (n'+m) fun i j=>if i<n' then c i j else c' (i-n') j)) o.re/\
        AA E Q n (.ops (d-1) l::K) (AC b .und stk) res (Ai (AK b .und fr) o.dst (.own b)) (Aj (AJ b .und bx) b (.row e k (n'+m) fun i j=>if i<n' then c i j else c' (i-n') j)) nx
      |_=>False
     | .tv k'' n' c=>k''=k/\0<m/\n'+m<=maxLen/\(n'+m)*bytes<=140737488355328/\CC E (Ai fr o.dst (.own nx)) ((nx,.one (.row e k (n'+m) fun i j=>if i<n' then c i j else c' (i-n') j))::bx) o.re/\
       AA E Q n (.ops (d-1) l::K) stk res (Ai fr o.dst (.own nx)) ((nx,.one (.row e k (n'+m) fun i j=>if i<n' then c i j else c' (i-n') j))::bx) (nx+1)
     |_=>False
   |d,.mset kd m k v=>match ev E fr m,ev E fr k with
    | .mapb b,.int kk z=>match Ab bx b with
     |some (.mp kd' has f)=>kd'=kd/\kk=kd/\noIt b bx/\
       CC E (Ai fr o.dst .und) (Aj bx b (.mp kd (fun j=>if j=z then true else has j) fun j=>if j=z then ev E fr v else f j)) o.re/\
       AA E Q n (.ops (d-1) l::K) stk res (Ai fr o.dst .und) (Aj bx b (.mp kd (fun j=>if j=z then true else has j) fun j=>if j=z then ev E fr v else f j)) nx
     |some (.mz kd' f)=>kd'=kd/\kk=kd/\noIt b bx/\
       CC E (Ai fr o.dst .und) (Aj bx b (.mz kd fun j=>if j=z then ev E fr v else f j)) o.re/\
       AA E Q n (.ops (d-1) l::K) stk res (Ai fr o.dst .und) (Aj bx b (.mz kd fun j=>if j=z then ev E fr v else f j)) nx
     |_=>False
    |_,_=>False
   |0,.isnil neg x=>match ev E fr x with
    | .nils=>AA E Q n (.ops 0 l::K) stk res (Ai fr o.dst (.bool (!neg))) bx nx
    | .view _ m _=>∀t:Bool,(0<m->t=false)->AA E Q n (.ops 0 l::K) stk res (Ai fr o.dst (.bool (t !=neg))) bx nx
    | .own b=>match Ab bx b with
     |some (.row _ _ m _)|some (.rown _ _ m _)=>∀t:Bool,(0<m->t=false)->AA E Q n (.ops 0 l::K) stk res (Ai fr o.dst (.bool (t !=neg))) bx nx
     |_=>False
    |_=>False
   |0,.clr k z x=>BA z=true/\A4 z=true/\C3 z=true/\Bb z=k/\match ev E fr x with
    | .nils=>AA E Q n (.ops 0 l::K) stk res (Ai fr o.dst .und) bx nx
    | .own b=>match Ab bx b with
     |some (.row e k' m c)=>k'=k/\AA E Q n (.ops 0 l::K) stk res (Ai fr o.dst .und) (Aj bx b (.row e k m fun i j=>if 0<=i/\i<0+m then Az z j else c i j)) nx
     |_=>False
    | .osl b off n'=>match Ab bx b with
     |some (.row e k' m c)=>k'=k/\AA E Q n (.ops 0 l::K) stk res (Ai fr o.dst .und) (Aj bx b (.row e k m fun i j=>if off<=i/\i<off+n' then Az z j else c i j)) nx
     |_=>False
    |_=>False
   |0,.pan x=>EY K=true/\match ev E fr x with
    | .ifc T k z=>IP (AA E Q n []) T k z stk (Bl K) res fr bx nx
    |_=>False
   |0,.dfr x=>Fw K=true/\match ev E fr x with
    | .func (.func id) (.cons (.ptr b 0) .nil)=>match E.C id,Ab bx b with
     |some (T,k),some (.cells (.cons (.int k' y) .nil))=>k'=k/\∀g,AA E Q n (.ops 0 l::(K++[.ctch b g T k])) stk res (Ai fr o.dst .und) (Aj bx b (.wc g (.int k y))) nx
     |_,_=>False
    |_=>False
   |0,.mdel kd m k=>match ev E fr m,ev E fr k with
    | .mapb b,.int kk z=>match Ab bx b with
     |some (.mp kd' has f)=>kd'=kd/\kk=kd/\noIt b bx/\
       AA E Q n (.ops 0 l::K) stk res (Ai fr o.dst .und) (Aj bx b (.mp kd (fun j=>if j=z then false else has j) f)) nx
     |_=>False
    |_,_=>False
   |0,.mlen kd m=>match ev E fr m with
    | .mapb b=>match Ab bx b with
     |some (.mp kd' has _)=>kd'=kd/\
       ∀c:Nat,(c=0↔∀k,has k=false)->AA E Q n (.ops 0 l::K) stk res (Ai fr o.dst (.int .i64 c)) bx nx
     |_=>False
    |_=>False
   |0,.rngm kd x=>match ev E fr x with
    | .mapb b=>match Ab bx b with
     |some (.mp kd' _ _)=>kd'=kd/\AA E Q n (.ops 0 l::K) stk res (Ai fr o.dst (.ptr nx 0)) ((nx,.one (.it (some b) kd (fun _=>false) none))::bx) (nx+1)
     |_=>False
    |_=>False
   |0,.nxt x=>match ev E fr x with
    | .ptr b 0=>match Ab bx b with
     |some (.it (some mb) kd seen _)=>match Ab bx mb with
      |some (.mp kd' has f)=>kd'=kd/\
       (∀k,has k=true->seen k=false->AA E Q n (.ops 0 l::K) stk res (Ai fr o.dst (.tup (.cons (.bool true) (.cons (.int kd k) (.cons (f k) .nil))))) (Aj bx b (.it (some mb) kd (fun j=>if j=k then true else seen j) (some k))) nx)/\
       ((∀k,has k=true->seen k=true)->AA E Q n (.ops 0 l::K) stk res (Ai fr o.dst (.tup (.cons (.bool false) .nil))) (Aj bx b (.it none kd seen none)) nx)
      |_=>False
     |_=>False
    |_=>False
   |0,.ent x=>match ev E fr x with
    | .ptr b 0=>match Ab bx b with
     |some (.it (some mb) kd _ (some k))=>match Ab bx mb with
      |some (.mp kd' has f)=>kd'=kd/\has k=true/\AA E Q n (.ops 0 l::K) stk res (Ai fr o.dst (.tup (.cons (.int kd k) (.cons (f k) .nil)))) bx nx
      |_=>False
     |_=>False
    |_=>False
   |0,.calle f args=>match ev E fr f with
     | .func (.func id) caps=>match E.I id with
      |some af=>BA caps=true/\AA E Q n [.code af.code] (⟨o.dst,.ops 0 l::K,res,fr,nx⟩::stk) af.res (params 0 (AQ E fr args++BK caps)) bx nx
      |none=>match E.S id with
       |some s=>match Ct bx s args (AQ E fr args++BK caps)with
        |⟨p,v,_⟩=>(BA caps=true/\p)/\(FT v->match s.own,v with
         |some e,.view k m c=>0<k->AA E Q n (.ops 0 l::K) stk res (Ai fr o.dst (.own nx)) ((nx,.one (.row e k m c))::bx) (nx+1)
         |_,_=>AA E Q n (.ops 0 l::K) stk res (Ai fr o.dst v) bx nx)
       |none=>match E.X id with
        |some (pz,s)=>Fv bx s pz args (AQ E fr args) caps (fun b e k m c=>AA E Q n (.ops 0 l::K) (AC b .und stk) res (Ai (AK b .und fr) o.dst (.own b)) (Aj (AJ b .und bx) b (.row e k m c)) nx) fun b e k m c=>AA E Q n (.ops 0 l::K) stk res (Ai fr o.dst .und) (Aj bx b (.row e k m c)) nx
        |none=>False
     | .yld b=>match Ab bx b with
      |some (.lp g fr' ps ca cb .ready)=>ps.length=args.length/\AA E Q n [.code ca,.rbeg b g,.code cb,.rend b g] (⟨o.dst,.ops 0 l::K,res,fr,nx⟩::stk) [] (Ks fr' ps (AQ E fr args)) bx nx
      |_=>False
     |_=>False
   |d+1,.calle f args=>match ev E fr f with
     | .func (.func id) caps=>match E.S id with
      |some s=>match Ct bx s args (AQ E fr args++BK caps)with
       |⟨p,v,_⟩=>(BA caps=true/\p)/\match s.own,v with
        |some e,.view k m c=>0<k/\CC E (Ai fr o.dst (.own nx)) ((nx,.one (.row e k m c))::bx) o.re/\AA E Q n (.ops d l::K) stk res (Ai fr o.dst (.own nx)) ((nx,.one (.row e k m c))::bx) (nx+1)
        |_,_=>False
      |none=>match E.X id with
       |some (pz,s)=>Fv bx s pz args (AQ E fr args) caps (fun b e k m c=>CC E (Ai (AK b .und fr) o.dst (.own b)) (Aj (AJ b .und bx) b (.row e k m c)) o.re/\AA E Q n (.ops d l::K) (AC b .und stk) res (Ai (AK b .und fr) o.dst (.own b)) (Aj (AJ b .und bx) b (.row e k m c)) nx) fun _ _ _ _ _=>False
       |none=>False
     |_=>False
   |0,op=>match op with
    | .call f args=>match ev E fr f with
     | .func (.func id) caps=>match E.I id with
      |some af=>BA caps=true/\AA E Q n [.code af.code] (⟨o.dst,.ops 0 l::K,res,fr,nx⟩::stk) af.res (params 0 (AQ E fr args++BK caps)) bx nx
      |none=>match E.S id with
       |some s=>match Ct bx s args (AQ E fr args++BK caps)with
        |⟨p,v,_⟩=>(BA caps=true/\p)/\(FT v->match s.own,v with
         |some e,.view k m c=>0<k->AA E Q n (.ops 0 l::K) stk res (Ai fr o.dst (.own nx)) ((nx,.one (.row e k m c))::bx) (nx+1)
         |_,_=>AA E Q n (.ops 0 l::K) stk res (Ai fr o.dst v) bx nx)
       |none=>False
     | .yld b=>match Ab bx b with
      |some (.lp g fr' ps ca cb .ready)=>ps.length=args.length/\AA E Q n [.code ca,.rbeg b g,.code cb,.rend b g] (⟨o.dst,.ops 0 l::K,res,fr,nx⟩::stk) [] (Ks fr' ps (AQ E fr args)) bx nx
      |_=>False
     |_=>False
    |_=>match AF E fr bx nx op with
     |⟨p,v,new⟩=>p/\(FT v->match o.br with
      |false=>CC E (Ai fr o.dst v) (CX nx new bx) o.re/\AA E Q n (.ops 0 l::K) stk res (Ai fr o.dst v) (CX nx new bx) (Da nx new)
      |true=>match v with
       | .bool t=>(t=true->AA E Q n (.ops 0 l::K) stk res (Ai fr o.dst (.bool true)) (CX nx new bx) (Da nx new))/\(t=false->AA E Q n (.ops 0 l::K) stk res (Ai fr o.dst (.bool false)) (CX nx new bx) (Da nx new))
       |_=>False)
   |d+1,op=>match AF E fr bx nx op with
    |⟨p,v,new⟩=>p/\match o.br with
     |false=>AA E Q n (.ops d l::K) stk res (Ai fr o.dst v) (CX nx new bx) (Da nx new)
     |true=>match v with
      | .bool t=>(t=true->AA E Q n (.ops d l::K) stk res (Ai fr o.dst (.bool true)) (CX nx new bx) (Da nx new))/\(t=false->AA E Q n (.ops d l::K) stk res (Ai fr o.dst (.bool false)) (CX nx new bx) (Da nx new))
      |_=>False):=by
 simp only[Bq]
 rfl
theorem W9{n}{x1}{x2}{x3}{x4}{K}{stk}{res}{fr}{bx}{nx}:AA E Q (n+1) (.ctch x1 x2 x3 x4::K) (stk) (res) (fr) (bx) (nx)=(AA E Q n K stk res fr bx nx):=by
 simp only[Bq]
 rfl
end Go.Proofs.YtlieoghhkioflaaGreat
/- The engine,part 22: a function's spec out of a run of its compiled code; loops. No condition. -/
namespace Go.Proofs.YtlieoghhkioflaaGreat
open Go Go.RowKit
variable{c:Cm}{af:Ax}{bx:Bx}{fr:Fr}{fn:Func}{id:FuncId}{res:List B6}{K:List BY}{ns:List Nat}{stk:List Av}{k n nx nx':Nat}{G:Nat->Option (Nat×(Nat->Ad))}{s:As}{ι:Type}
variable{P:Program}{E:Db}{A0:Nat->Prop}{w0:AW}{Qf:Ad->Bx->Prop}
def Wo(v:Ad)(bx:Bx)(r:Ad):Prop:=An bx 40 v=true/\AB r (Ay bx 40 v)
def GR(own:Option TypeId)(v:Ad)(bx:Bx)(r:Ad):Prop:=Wo v bx r/\match own with
 |none=>True
 |some e=>∃b k n c c',(v= .own b/\Ab bx b=some (.row e k n c)\/∃m,v= .osl b 0 n/\n<=m/\Ab bx b=some (.row e k m c))/\r= .view k n c'/\∀i,i<n->∀j,j<k->c' i j=c i j/\DK (c i j)=true
theorem QE(v:Ad)(bx:Bx)(r:Ad):GR none v bx r=Wo v bx r:=by simp[GR]
def Mn{α:Type}:List (FuncId×α)->FuncId->Option α
 |[],_=>none
 |(i,s)::l,id=>if i=id then some s else Mn l id
inductive Lw(P:Program)(G:Nat->Option (Nat×(Nat->Ad))):List (FuncId×As)->Prop
 |nil:Lw P G []
 |cons {id s l}:Ah P G id s->Lw P G l->Lw P G ((id,s)::l)
inductive LL(P:Program):List (FuncId×Ax)->Prop
 |nil:LL P []
 |cons {id af l fn}:P.funcs[id]?=some fn->Aw P fn=some af->LL P l->LL P ((id,af)::l)
def WK:List TypeId->TypeId->Bool
 |[],_=>false
 |i::l,e=>if i=e then true else WK l e
def NO(C:List (FuncId×Option (TypeId×IntKind)))(id:FuncId):Option (TypeId×IntKind):=match Mn C id with|some (some x)=>some x|_=>none
def Zc(C:List (FuncId×Option (TypeId×IntKind)))(id:FuncId):Bool:=match Mn C id with|some none=>true|_=>false
def LI(G:Nat->Option (Nat×(Nat->Ad)))(S:List (FuncId×As))(I:List (FuncId×Ax))(X:List (FuncId×Nat×As))(N:List TypeId)(C:List (FuncId×Option (TypeId×IntKind))):Db:=⟨G,Mn S,Mn I,Mn X,WK N,NO C,Zc C⟩
abbrev XK(G:Nat->Option (Nat×(Nat->Ad)))(S:List (FuncId×As))(I:List (FuncId×Ax)):Db:=LI G S I [] [] []
abbrev mkX(G:Nat->Option (Nat×(Nat->Ad)))(S:List (FuncId×As))(I:List (FuncId×Ax))(X:List (FuncId×Nat×As)):Db:=LI G S I X [] []
inductive Vi(P:Program)(G:Nat->Option (Nat×(Nat->Ad))):List (FuncId×Nat×As)->Prop
 |nil:Vi P G []
 |cons {id pz s l}:Cy P G id pz s->Vi P G l->Vi P G ((id,pz,s)::l)
theorem Vi.get{l:List (FuncId×Nat×As)}(h:Vi P G l):∀id pz s,Mn l id=some (pz,s)->Cy P G id pz s:=by
 induction h with
 |nil=>intro id pz s h;cases h
 |cons hp _ ih=>
  intro id pz s h
  simp only[Mn]at h
  split at h
  ·rename_i e;subst e;cases h;exact hp
  exact ih id pz s h
inductive S7(P:Program):List (FuncId×Option (TypeId×IntKind))->Prop
 |nil:S7 P []
 |frz {id l}:S7 P l->S7 P ((id,none)::l)
 |cat {id T k l}:D7 P id T k->S7 P l->S7 P ((id,some (T,k))::l)
theorem S7.get{l:List (FuncId×Option (TypeId×IntKind))}(h:S7 P l):∀id T k,NO l id=some (T,k)->D7 P id T k:=by
 induction h with
 |nil=>intro id T k h;cases h
 |frz _ ih=>
  intro id T k h
  simp only[NO,Mn]at h
  split at h
  ·rename_i e;split at e<;>first|cases e|skip
   exact ih id T k (by simp only[NO,e];exact h)
  cases h
 |cat hp _ ih=>
  intro id T k h
  simp only[NO,Mn]at h
  split at h
  ·rename_i e;split at e
   ·rename_i e2;subst e2;cases e;cases h;exact hp
   exact ih id T k (by simp only[NO,e];exact h)
  cases h
theorem Aax{G S I X N C}:(LI G S I X N C).G=G:=rfl
theorem Abz{G S I X N C}(id:FuncId):(LI G S I X N C).S id=Mn S id:=rfl
theorem Abg{G S I X N C}(id:FuncId):(LI G S I X N C).I id=Mn I id:=rfl
theorem AaV{G S I X N C}(id:FuncId):(LI G S I X N C).X id=Mn X id:=rfl
theorem AaX{G S I X N C}(e:TypeId):(LI G S I X N C).N e=WK N e:=rfl
theorem AaY{G S I X N C}(id:FuncId):(LI G S I X N C).C id=NO C id:=rfl
theorem Aac{G S I X N C}(id:FuncId):(LI G S I X N C).Z id=Zc C id:=rfl
theorem Lw.get{l:List (FuncId×As)}(h:Lw P G l):∀id s,Mn l id=some s->Ah P G id s:=by
 induction h with
 |nil=>intro id s h;cases h
 |cons hp _ ih=>
  intro id s h
  simp only[Mn]at h
  split at h
  ·rename_i e;subst e;cases h;exact hp
  exact ih id s h
theorem LL.get{l:List (FuncId×Ax)}(h:LL P l):∀id af,Mn l id=some af->∃fn,P.funcs[id]?=some fn/\Aw P fn=some af:=by
 induction h with
 |nil=>intro id s h;cases h
 |cons h1 h2 _ ih=>
  intro id s h
  simp only[Mn]at h
  split at h
  ·rename_i e;subst e;cases h;exact⟨_,h1,h2⟩
  exact ih id s h
theorem Mb{w:World}{base:Nat}{e:TypeId}{L:CK}{xs:List Value}(h:w.ownsRow 0 e k (.slice (L.a.map fun g=>⟨g,0,none⟩) n L.cap) n xs)(hb:∀g,L.a=some g->base<=g):w.ownsRow base e k (.slice (L.a.map fun g=>⟨g,0,none⟩) n L.cap) n xs:=by
 refine⟨h.1,?_⟩
 rcases h.2 with h2|⟨g,cap,cur,e1,e2,e3⟩
 ·exact .inl h2
 refine .inr ⟨g,cap,cur,e1,hb g ?_,e3⟩
 cases ha:L.a with
 |none=>simp[ha]at e1
 |some g'=>simp[ha]at e1;rw[e1.1]
theorem Qo{A:Nat->Prop}{w0 w:World}{X:Nat->Prop}{β:Bn->CK}{v:Ad}{x:Value}{b:Bn}{e:TypeId}{c:Nat->Nat->Ad}(hm:Fp P A ⟨w0,X⟩ β (Ab bx) nx w)(hx:Ar A ⟨w0,X⟩ β (Ab bx) w v x)(h:v= .own b/\Ab bx b=some (.row e k n c)\/∃m,v= .osl b 0 n/\n<=m/\Ab bx b=some (.row e k m c)):
  (∃c,Ab bx b=some c)/\∃L:CK,L.a=(β b).a/\x= .slice (L.a.map fun g=>⟨g,0,none⟩) n L.cap/\L.n=n/\0<k/\n<=maxLen/\∃xs,w.ownsRow 0 e k (.slice (L.a.map fun g=>⟨g,0,none⟩) n L.cap) n xs/\∀i,i<n->∀j,j<k->∃y,xs[i*k+j]?=some y/\y.oneCell'=true/\Ao w (Al A ⟨w0,X⟩ (Ab bx) β) (c i j) y:=by
 rcases h with⟨rfl,hb⟩|⟨m,rfl,hnm,hb⟩
 ·obtain⟨_,hx⟩:=hx
  obtain⟨f1,f2,f3,xs,f4,f5⟩:=hm.bx b _ hb
  exact⟨⟨_,hb⟩,β b,rfl,by rw[hx,f1],f1,f2,f3,xs,f4,f5⟩
 obtain⟨e',k',m',hrb,hle,ad,cap,rfl,hcap,ha⟩:=hx
 obtain⟨f1,f2,f3,xs,f4,f5⟩:=hm.bx b _ hb
 obtain⟨rfl,rfl⟩:=ha.2 rfl
 have hle':n*k<=m*k:=Nat.mul_le_mul_right _ hnm
 refine⟨⟨_,hb⟩,⟨(β b).a,n,(β b).cap⟩,rfl,rfl,rfl,f2,by omega,xs.take (n*k),⟨by rw[List.length_take,f4.1];omega,?_⟩,fun i hi j hj=> ?_⟩
 ·rcases f4.2 with⟨q1,q2⟩|⟨g,cap,cur,q1,q2,q3,q4,q5,q6,q7⟩
  ·left
   simp at q1⊢
   exact⟨⟨q1.1,by omega,q1.2.2⟩,by omega⟩
  right
  simp at q1
  refine⟨g,cap,cur,by simp[q1],q2,q3,by omega,q5,q6,?_⟩
  rw[<-q7,List.take_take,Nat.min_eq_left hle']
 obtain⟨y,y1,y2,y3⟩:=f5 i (by omega) j hj
 have:i*k+j<n*k:=by
  have:(i+1)*k<=n*k:=Nat.mul_le_mul_right _ hi
  rw[Nat.succ_mul]at this;omega
 exact⟨y,by rw[List.getElem?_take_of_lt this];exact y1,y2,y3⟩
theorem Ju{E:Db}(hmix:P.follows .mixedOrders=true)(hS:∀id s,E.S id=some s->Ah P E.G id s)(hI:∀id af,E.I id=some af->∃fn,P.funcs[id]?=some fn/\Aw P fn=some af)(hX:∀id pz s,E.X id=some (pz,s)->Cy P E.G id pz s)(hC:∀id T k,E.C id=some (T,k)->D7 P id T k)(hfn:P.funcs[id]?=some fn)(hcf:Aw P fn=some af)
  (h:∀vs,s.pre vs->FT (vl vs)->∃n,run E (fun v bx=>GR s.own v bx (s.res vs)) n [.code af.code] [] af.res (params 0 vs) [] 0):Ah P E.G id s:=by
 unfold Aw at hcf
 cases hbody:fn.body with
 |none=>simp[hbody]at hcf
 |some cb=>
 simp only[hbody]at hcf
 split at hcf
 ·rename_i ac rs r1 r2
  split at hcf
  ·rename_i hcond
   simp at hcf
   subst hcf
   refine⟨GS hfn hcond.2 hbody,fun A w vs cs hG hr hp=> ?_⟩
   obtain⟨n,hrun⟩:=h vs hp (GT (B:=fun _=>none) (β:=fun _=>⟨none,0,0⟩) _ _ (Ao.rep _ _ hr))
   refine(callsIn_wide (n:=0)).1 (callsIn_of_wp_marks hfn hbody trivial ?_)
   have he:Cc P E A ⟨w,fun _=>False⟩:=⟨hmix,fun n m c h=>Ao.weak (fun g _ hA=>⟨hA,fun h=>h⟩) (hG n m c h),hS,hI,hX,hC⟩
   have hB:(Ab ([]:Bx))=fun _=>none:=rfl
   have hrel:AL P A ⟨w,fun _=>False⟩ (fun _=>⟨none,0,0⟩) [] [] (params 0 vs) [] 0 {tmps:=(⟨cs⟩:Array Value)++Array.replicate (fn.ntmps-(⟨cs⟩:Array Value).size) undef,defers:=[]} w:=by
    refine⟨⟨fun b c hb=>(by cases hb),fun b c b' c' g hb=>(by cases hb),fun b c hb=>(by cases hb),fun b c g hb=>(by cases hb),AW.Under.refl _⟩,fun t=>G5 (Ao.rep _ _ (Ao.weak (fun g _ hA=>⟨.inl hA,fun b c hb=>(by cases hb)⟩) hr)) _ t,trivial,⟨List.Pairwise.nil,fun d hd=>by cases hd⟩,fun f hf=>(by cases hf)⟩
   have hcode:=KR.code (P:=P) (A0:=A) (w0:=⟨w,fun _=>False⟩) (ds:=[]) (ro:=none) (Qb:=bodyPostM (FW none) 0 P fn fun e w'=>∃x,e= .returned x/\Ao w' (fun g=>A g\/w.heap.size<=g) (s.res vs) x/\Below w.heap.size w w'/\Yw w w' s.own (s.res vs) x) (as:=[]) (sk:=[]) r1 (KR.nil (P:=P) (A0:=A) (w0:=⟨w,fun _=>False⟩) (nt:=fn.ntmps) rfl)
   have hS:=Tw (Qf:=fun v bx=>GR s.own v bx (s.res vs)) he n [.code ac] [] rs _ [] 0 hrun fn.ntmps [] none _ _ _ _ w _ [] [] ⟨by simp;omega,rfl⟩ hrel rfl hcode ?_ rfl
   ·refine wpIn_mono hS fun e a' w' hq=> ?_
    cases e<;>exact hq
   refine Lt he (fun β1 stk1 fr1 bx1 nx1 a' w' hr' hsk1 hret1=> ?_) fun β1 f1 s1 fr1 bx1 nx1 a1 w1 m T k z hm hrel1 hsk1=>by simp[BF]at hsk1
   cases stk1 with
   |cons=>simp[BF]at hsk1
   |nil=>
    obtain⟨hp,hfin,hfin2⟩:=hret1
    obtain⟨x,hx1,hx2⟩:=EZ hr' r2 hp
    refine⟨x,hx1,x,rfl,Ao.weak (fun g hg hA=> ?_) (BE _ _ _ hfin.2 (MH hr'.mem (fun _ _ h=>h) 40 _ _ hfin.1 hx2)),⟨hr'.mem.below.os,hr'.mem.below.tape,hr'.mem.below.output,hr'.mem.below.size,fun k hk=>hr'.mem.below.block k hk (fun h=>h)⟩,fun e he=> ?_⟩
    ·rcases hA with hA|⟨b,c,hb,hg'⟩
     ·exact hA.1.imp_right fun h=>h.elim (fun h=>h) False.elim
     exact .inr ((hr'.mem.base b c g hb hg').1.elim (fun h=>h) False.elim)
    rw[he]at hfin2
    obtain⟨b,k,n',c,c',e1,e3,e4⟩:=hfin2
    obtain⟨⟨cb,hcb⟩,L,l1,hx3,_,f2,f3,xs,f4,f5⟩:=Qo hr'.mem hx2 e1
    subst hx3
    refine⟨k,n',c',e3,f2,f3,xs,Mb f4 fun g hg=>(hr'.mem.base b _ g hcb (by rw[<-l1];exact hg)).1.elim (fun h=>h) False.elim,fun i hi j hj=> ?_⟩
    obtain⟨y,y1,y2,y3⟩:=f5 i hi j hj
    rw[(e4 i hi j hj).1]
    exact⟨y,y1,y2,Jw _ _ (e4 i hi j hj).2 y3⟩
  cases hcf
 cases hcf
theorem SF{S:List (FuncId×As)}{I:List (FuncId×Ax)}(hmix:P.follows .mixedOrders=true)(hS:Lw P G S)(hI:LL P I)(hfn:P.funcs[id]?=some fn)(hcf:Aw P fn=some af)
  (h:∀vs,s.pre vs->FT (vl vs)->∃n,run (XK G S I) (fun v bx=>GR s.own v bx (s.res vs)) n [.code af.code] [] af.res (params 0 vs) [] 0):Ah P G id s:=
 Ju (E:=XK G S I) hmix hS.get hI.get (fun _ _ _ h=>by cases h) (fun _ _ _ h=>by cases h) hfn hcf h
theorem P5{A:Nat->Prop}{w:World}{vs us:List Ad}{cs ds:List Value}{L:CK}{e0:TypeId}{nt:Nat}{c c':Nat->Nat->Ad}(hA:∀g,A g->L.a≠some g)(hr:Ao w A (vl vs) (.tuple ⟨cs⟩))(hr':Ao w A (vl us) (.tuple ⟨ds⟩))(hrow:Pq w A L e0 k n c)(h2:∀i,i<n->∀j,j<k->AB (c' i j) (c i j)){as:List Act}(hst:E5 A ⟨w,fun g=>L.a=some g⟩ (fun _=>L) (Ab [(0,IJ.one (Cw.row e0 k n c'))]) w stk as)(hsn:∀f∈stk,f.nx<=1)(hdf:∀d,d∉N1 {tmps:= #[],defers:=[]} as):
  (∀g,L.a=some g->g<w.heap.size)/\AL P A ⟨w,fun g=>L.a=some g⟩ (fun _=>L) stk as (params 0 (vs++ .own (.n 0)::us)) [(0,.one (.row e0 k n c'))] 1 {tmps:=(⟨cs++ .slice (L.a.map fun g=>⟨g,0,none⟩) n L.cap::ds⟩:Array Value)++Array.replicate (nt-(⟨cs++ .slice (L.a.map fun g=>⟨g,0,none⟩) n L.cap::ds⟩:Array Value).size) undef,defers:=[]} w:=by
 have hB:∀b c2,Ab [(0,IJ.one (Cw.row e0 k n c'))] b=some c2->b= .n 0/\c2= .row e0 k n c':=by
  intro b c2 hb
  rw[BR]at hb
  split at hb
  ·rename_i e;cases hb;exact⟨e,rfl⟩
  cases b<;>cases hb
 have hal:∀g,A g->Al A ⟨w,fun g=>L.a=some g⟩ (Ab [(0,IJ.one (Cw.row e0 k n c'))]) (fun _=>L) g:=fun g hg=>⟨.inl hg,fun b c hb=>hA g hg⟩
 obtain⟨f1,f2,f3,xs,f4,f5⟩:=hrow
 have hlt:∀g,L.a=some g->g<w.heap.size:=by
  intro g hg
  rcases f4.2 with⟨q1,_⟩|⟨g',cap,cur,q1,_,q3,_⟩
  ·rw[hg]at q1;simp at q1
  rw[hg]at q1;simp at q1;rw[q1.1];exact(Array.getElem?_eq_some_iff.1 q3).1
 refine⟨hlt,⟨fun b c2 hb=> ?_,fun b c2 b' c3 g hb hb' hne=> ?_,fun b c2 hb=> ?_,fun b c2 g hb hg=>⟨.inr hg,hlt g hg⟩,AW.Under.refl _⟩,fun t=>G5 (B:=Ab [(0,IJ.one (Cw.row e0 k n c'))]) ?_ _ t,hst,?_,hsn⟩
 ·obtain⟨rfl,rfl⟩:=hB b c2 hb
  refine⟨f1,f2,f3,xs,f4,fun i hi j hj=> ?_⟩
  obtain⟨y,y1,y2,y3⟩:=f5 i hi j hj
  exact⟨y,y1,y2,Ao.weak (fun g _ hg=>hal g hg) (BE _ _ _ (h2 i hi j hj) y3)⟩
 ·exact absurd ((hB b c2 hb).1.trans (hB b' c3 hb').1.symm) hne
 ·rw[(hB b c2 hb).1];exact Nat.zero_lt_one
 ·rw[Md]
  exact A7.app (Ao.rep _ _ (Ao.weak (fun g _ hg=>hal g hg) hr)) (Jg _) ⟨_,_,rfl,⟨⟨e0,k,n,.row e0 k n c',rfl,rfl⟩,by rw[f1]⟩,Ao.rep _ _ (Ao.weak (fun g _ hg=>hal g hg) hr')⟩
 have:N1 {tmps:=(⟨cs++ .slice (L.a.map fun g=>⟨g,0,none⟩) n L.cap::ds⟩:Array Value)++Array.replicate (nt-(⟨cs++ .slice (L.a.map fun g=>⟨g,0,none⟩) n L.cap::ds⟩:Array Value).size) undef,defers:=[]} as=[]:=List.eq_nil_iff_forall_not_mem.2 hdf
 rw[this]
 exact⟨List.Pairwise.nil,fun d hd=>by cases hd⟩
theorem Vx{E:Db}(hmix:P.follows .mixedOrders=true)(hS:∀id s,E.S id=some s->Ah P E.G id s)(hI:∀id af,E.I id=some af->∃fn,P.funcs[id]?=some fn/\Aw P fn=some af)(hX:∀id pz s,E.X id=some (pz,s)->Cy P E.G id pz s)(hC:∀id T k,E.C id=some (T,k)->D7 P id T k)(hfn:P.funcs[id]?=some fn)(hcf:Aw P fn=some af){e1:TypeId}{pz:Nat}(hown:s.own=some e1)
  (h:∀vs us k n c,vs.length=pz->s.pre (vs++ .view k n c::us)->∃vs' us' c',AB (vl vs') (vl vs)/\AB (vl us') (vl us)/\(∀i,i<n->∀j,j<k->AB (c' i j) (c i j))/\(FT (vl vs')->FT (vl us')->n<=maxLen->∃m,run E (fun v bx=>GR s.own v bx (s.res (vs++ .view k n c::us))) m [.code af.code] [] af.res (params 0 (vs'++ .own (.n 0)::us')) [(0,.one (.row e1 k n c'))] 1)):Cy P E.G id pz s:=by
 unfold Aw at hcf
 cases hbody:fn.body with
 |none=>simp[hbody]at hcf
 |some cb=>
 simp only[hbody]at hcf
 split at hcf
 ·rename_i ac rs r1 r2
  split at hcf
  ·rename_i hcond
   simp at hcf
   subst hcf
   refine⟨GS hfn hcond.2 hbody,fun A w vs us cs ds L e0 k n c hl1 hl2 hA hG hr hr' hrow hee hp=> ?_⟩
   have hee':e1=e0:=(hee e1 hown).symm
   subst hee'
   obtain⟨vs',us',c',h1,h1',h2,h3⟩:=h vs us k n c hl1 hp
   replace hr:=BE _ _ _ h1 hr
   replace hr':=BE _ _ _ h1' hr'
   obtain⟨m,hrun⟩:=h3 (GT (B:=fun _=>none) (β:=fun _=>⟨none,0,0⟩) _ _ (Ao.rep _ _ hr)) (GT (B:=fun _=>none) (β:=fun _=>⟨none,0,0⟩) _ _ (Ao.rep _ _ hr')) hrow.2.2.1
   simp only[hown]at hrun⊢
   have he:Cc P E A ⟨w,fun g=>L.a=some g⟩:=⟨hmix,fun n m c h=>Ao.weak (fun g _ hg=>⟨hg,hA g hg⟩) (hG n m c h),hS,hI,hX,hC⟩
   obtain⟨hlt,hrel⟩:=P5 (P:=P) (nt:=fn.ntmps) hA hr hr' hrow h2 (stk:=[]) (as:=[]) trivial (fun f hf=>(by cases hf)) (fun d hd=>(by cases hd))
   refine(callsIn_wide (n:=0)).1 (callsIn_of_wp_marks hfn hbody trivial ?_)
   generalize hR:(fun ex w'=>∃L' k' m c2,ex=Ending.returned (.slice (L'.a.map fun g=>⟨g,0,none⟩) m L'.cap)/\s.res (vs++ .view k n c::us)= .view k' m c2/\(⟨w,fun g=>L.a=some g⟩:AW).Under w'/\(∀g,L'.a=some g->(L.a=some g\/w.heap.size<=g)/\g<w'.heap.size)/\Pq w' (fun _=>False) L' e1 k' m c2)=R
   have hcode:=KR.code (P:=P) (A0:=A) (w0:=⟨w,fun g=>L.a=some g⟩) (ds:=[]) (ro:=none) (Qb:=bodyPostM (FW none) 0 P fn R) (as:=[]) (sk:=[]) r1 (KR.nil (P:=P) (A0:=A) (w0:=⟨w,fun g=>L.a=some g⟩) (nt:=fn.ntmps) rfl)
   have hS:=Tw (Qf:=fun v bx=>GR (some e1) v bx (s.res (vs++ .view k n c::us))) he m [.code ac] [] rs _ _ 1 hrun fn.ntmps [] none _ _ _ _ w _ [] [] ⟨by simp;omega,rfl⟩ hrel rfl hcode ?_ rfl
   ·refine wpIn_mono hS fun e a' w' hq=> ?_
    cases e<;>exact hq
   refine Lt he (fun β1 stk1 fr1 bx1 nx1 a' w' hr' hsk1 hret1=> ?_) fun β1 f1 s1 fr1 bx1 nx1 a1 w1 m T k z hm hrel1 hsk1=>by simp[BF]at hsk1
   cases stk1 with
   |cons=>simp[BF]at hsk1
   |nil=>
    obtain⟨hp,hfin,hfin2⟩:=hret1
    obtain⟨x,hx1,hx2⟩:=EZ hr' r2 hp
    refine⟨x,hx1,?_⟩
    obtain⟨b,k',n',c2,c3,e1',e3,e4⟩:=hfin2
    obtain⟨⟨cb,hcb⟩,L',l1,hx3,g1,g2,g3,xs',g4,g5⟩:=Qo hr'.mem hx2 e1'
    subst hx3 hR
    refine⟨L',k',n',c3,rfl,e3,hr'.mem.below,fun g hg=> ?_,g1,g2,g3,xs',g4,fun i hi j hj=> ?_⟩
    ·obtain⟨q1,q2⟩:=hr'.mem.base b _ g hcb (by rw[<-l1];exact hg)
     exact⟨q1.elim .inr .inl,q2⟩
    obtain⟨y,y1,y2,y3⟩:=g5 i hi j hj
    rw[(e4 i hi j hj).1]
    exact⟨y,y1,y2,Jw _ _ (e4 i hi j hj).2 y3⟩
  cases hcf
 cases hcf
def U2(e0:TypeId)(k n:Nat)(r v:Ad)(bx:Bx):Prop:=v= .own (.n 0)/\∃c2 c3,Ab bx (.n 0)=some (.row e0 k n c2)/\r= .view k n c3/\∀i,i<n->∀j,j<k->AB (c3 i j) (c2 i j)
abbrev Hn:Av:=⟨none,[],[.t 0],[(0,.own (.n 0))],1⟩
theorem V8{E:Db}(hmix:P.follows .mixedOrders=true)(hS:∀id s,E.S id=some s->Ah P E.G id s)(hI:∀id af,E.I id=some af->∃fn,P.funcs[id]?=some fn/\Aw P fn=some af)(hX:∀id pz s,E.X id=some (pz,s)->Cy P E.G id pz s)(hC:∀id T k,E.C id=some (T,k)->D7 P id T k)(hfn:P.funcs[id]?=some fn)(hcf:Aw P fn=some af){pz:Nat}(hown:s.own=none)(hres:af.res=[])
  (h:∀vs us k n c,vs.length=pz->s.pre (vs++ .view k n c::us)->∃vs' us' c',AB (vl vs') (vl vs)/\AB (vl us') (vl us)/\(∀i,i<n->∀j,j<k->AB (c' i j) (c i j))/\(FT (vl vs')->FT (vl us')->n<=maxLen->∀e0,∃m,run E (U2 e0 k n (s.res (vs++ .view k n c::us))) m [.code af.code] [Hn] af.res (params 0 (vs'++ .own (.n 0)::us')) [(0,.one (.row e0 k n c'))] 1)):Cy P E.G id pz s:=by
 unfold Aw at hcf
 cases hbody:fn.body with
 |none=>simp[hbody]at hcf
 |some cb=>
 simp only[hbody]at hcf
 split at hcf
 ·rename_i ac rs r1 r2
  split at hcf
  ·rename_i hcond
   simp at hcf
   subst hcf
   simp only at hres
   subst hres
   refine⟨GS hfn hcond.2 hbody,fun A w vs us cs ds L e0 k n c hl1 hl2 hA hG hr hr' hrow _ hp=> ?_⟩
   obtain⟨vs',us',c',h1,h1',h2,h3⟩:=h vs us k n c hl1 hp
   replace hr:=BE _ _ _ h1 hr
   replace hr':=BE _ _ _ h1' hr'
   obtain⟨m,hrun⟩:=h3 (GT (B:=fun _=>none) (β:=fun _=>⟨none,0,0⟩) _ _ (Ao.rep _ _ hr)) (GT (B:=fun _=>none) (β:=fun _=>⟨none,0,0⟩) _ _ (Ao.rep _ _ hr')) hrow.2.2.1 e0
   simp only[hown]at hrun⊢
   have he:Cc P E A ⟨w,fun g=>L.a=some g⟩:=⟨hmix,fun n m c h=>Ao.weak (fun g _ hg=>⟨hg,hA g hg⟩) (hG n m c h),hS,hI,hX,hC⟩
   obtain⟨a0,ha0⟩:∃a0:Act,a0={tmps:= #[.slice (L.a.map fun g=>⟨g,0,none⟩) n L.cap],defers:=[]}:=⟨_,rfl⟩
   obtain⟨hlt,hrel⟩:=P5 (P:=P) (nt:=fn.ntmps) hA hr hr' hrow h2 (stk:=[Hn]) (as:=[a0]) ⟨fun t=>by
    simp only[Au]
    split
    ·rename_i e;subst e
     exact⟨⟨e0,k,n,.row e0 k n c',by simp[EH,Bn.id,Ab],rfl⟩,by rw[ha0,hrow.1];rfl⟩
    trivial,trivial⟩ (fun f hf=>by rcases List.mem_cons.1 hf with rfl|hf;exact Nat.le_refl _;cases hf) (fun d hd=>by subst ha0;simp[N1]at hd)
   refine(callsIn_wide (n:=0)).1 (callsIn_of_wp_marks hfn hbody trivial ?_)
   generalize hR:(fun ex w'=>∃c2,ex=Ending.returned (.tuple #[])/\s.res (vs++ .view k n c::us)= .view k n c2/\(⟨w,fun g=>L.a=some g⟩:AW).Under w'/\(∀g,L.a=some g->g<w'.heap.size)/\Pq w' (fun g=>A g\/w.heap.size<=g) L e0 k n c2)=R
   have hcode:=KR.code (P:=P) (A0:=A) (w0:=⟨w,fun g=>L.a=some g⟩) (ds:=[]) (ro:=none) (Qb:=bodyPostM (FW none) 0 P fn R) (as:=[a0]) (sk:=BF [Hn]) r1 (KR.nil (P:=P) (A0:=A) (w0:=⟨w,fun g=>L.a=some g⟩) (nt:=fn.ntmps) rfl)
   have hS:=Tw (Qf:=U2 e0 k n (s.res (vs++ .view k n c::us))) he m [.code ac] [Hn] [] _ _ 1 hrun fn.ntmps [] none _ _ _ _ w _ [a0] _ ⟨by simp;omega,rfl⟩ hrel rfl hcode ?_ rfl
   ·refine wpIn_mono hS fun e a' w' hq=> ?_
    cases e<;>exact hq
   refine Lt he (fun β1 stk1 fr1 bx1 nx1 a' w' hr' hsk1 hret1=> ?_) fun β1 f1 s1 fr1 bx1 nx1 a1 w1 m T k' z hm hrel1 hsk1 hpk hpf=>by
    simp only[BF,List.map_cons,List.map_nil,List.cons.injEq,Prod.mk.injEq,List.map_eq_nil_iff]at hsk1
    obtain⟨⟨q1,q2,q3,q4⟩,rfl⟩:=hsk1
    rw[q2]at hpf
    exact hpf.elim
   cases stk1 with
   |nil=>simp[BF]at hsk1
   |cons f1 s1=>
    simp only[BF,List.map_cons,List.map_nil,List.cons.injEq,Prod.mk.injEq,List.map_eq_nil_iff]at hsk1
    obtain⟨⟨q1,q2,q3,q4⟩,rfl⟩:=hsk1
    obtain⟨hp,m1,hm1,hrun1⟩:=hret1
    rw[q1,q2,q3]at hrun1
    cases m1 with
    |zero=>exact hrun1.elim
    |succ m1=>
    have hfin:U2 e0 k n (s.res (vs++ .view k n c::us)) (Au f1.fr 0) bx1:=by
     have:=hrun1
     simp only[run,Hw,O1,Ai]at this
     exact this.2
    obtain⟨x,hx1,hx2⟩:=EZ hr' r2 hp
    refine⟨x,hx1,?_⟩
    obtain⟨e1',c2,c3,e2,e3,e4⟩:=hfin
    have hx3:x= .tuple #[]:=by
     obtain⟨ys,hy1,hy2⟩:=hx2
     rw[hy1];exact hy2
    subst hx3 hR
    have hst:=hr'.st.1 0
    rw[e1',q4]at hst
    obtain⟨_,hst⟩:=hst
    obtain⟨g1,g2,g3,xs',g4,g5⟩:=hr'.mem.bx (.n 0) _ e2
    have hL:(β1 (.n 0)).a=L.a/\(β1 (.n 0)).cap=L.cap:=by
     rw[ha0]at hst
     simp only[Array.getD_eq_getD_getElem?,List.getElem?_toArray,List.getElem?_cons_zero,Option.getD_some,Value.slice.injEq]at hst
     refine⟨?_,hst.2.2.symm⟩
     have:=hst.1
     cases hla:L.a<;>cases hba:(β1 (.n 0)).a<;>rw[hla,hba]at this<;>simp at this<;>first|rfl|(rw[this])
    refine⟨c3,rfl,e3,hr'.mem.below,fun g hg=>(hr'.mem.base _ _ g e2 (by rw[hL.1];exact hg)).2,hrow.1,g2,g3,xs',by rw[hL.1,hL.2]at g4;exact g4,fun i hi j hj=> ?_⟩
    obtain⟨y,y1,y2,y3⟩:=g5 i hi j hj
    refine⟨y,y1,y2,Ao.weak (fun g _ hg=> ?_) (BE _ _ _ (e4 i hi j hj) y3)⟩
    rcases hg.1 with h|h|h
    ·exact .inl h
    ·exact .inr h
    exact absurd (hL.1.trans h) (hg.2 _ _ e2)
  cases hcf
 cases hcf
@[reducible] def IJ.row (e:TypeId) (k n:Nat) (c:Nat->Nat->Ad):IJ:= .one (.row e k n c)
@[reducible] def IJ.rown (e:TypeId) (k n:Nat) (c:Nat->Nat->Ad):IJ:= .one (.rown e k n c)
@[reducible] def IJ.cells (l:Ad):IJ:= .one (.cells l)
@[reducible] def IJ.mp (kd:IntKind) (has:Int->Bool) (f:Int->Ad):IJ:= .one (.mp kd has f)
@[reducible] def IJ.mz (kd:IntKind) (f:Int->Ad):IJ:= .one (.mz kd f)
@[reducible] def IJ.it (m:Option Bn) (kd:IntKind) (seen:Int->Bool) (last:Option Int):IJ:= .one (.it m kd seen last)
@[reducible] def IJ.lp (g:Nat) (fr:Fr) (ps:List Nat) (ca cb:Cm) (st:XE):IJ:= .one (.lp g fr ps ca cb st)
def F8(Pi:ι->Prop)(μ:ι->Nat)(sl:ι->Fr)(bs:ι->Bx)(m:Nat)(fr:Fr)(bx:Bx):Prop:=∃i,Pi i/\m=μ i/\fr=sl i/\bx=bs i
theorem Pm.of{fr':Fr}{bx':Bx}(h:ZK fr bx fr' bx' nx nx'):Pm ns fr bx fr' bx' nx nx':=⟨[],[],fun _ h=>(by cases h),fun _ h=>(by cases h),fr,bx,rfl,fr,bx,rfl,h⟩
theorem DO(Pi:ι->Prop)(μ:ι->Nat)(sl:ι->Fr)(bs:ι->Bx)(d:Nat)(i:ι)(hi:Pi i)(h0:GU (Ez stk) bx fr bx (sl i) (bs i) nx (nx+d))
  (hr:∀i,Pi i->AA E Qf n (.code c:: .inv (fun s fr1 bx1=>s=Eo stk/\∃m',m'<μ i/\∃fr'' bx'',F8 Pi μ sl bs m' fr'' bx''/\GU (Ez stk) bx fr1 bx1 fr'' bx'' nx (nx+d))::K) stk res (sl i) (bs i) (nx+d)):
  FL (AA E Qf n) c K stk res fr bx nx:=by
 refine⟨d,F8 Pi μ sl bs,⟨_,_,_,⟨i,hi,rfl,rfl,rfl⟩,h0⟩,?_⟩
 rintro m fr' bx' ⟨j,hj,rfl,rfl,rfl⟩
 exact hr j hj
theorem Af{Pi:ι->Prop}{μ:ι->Nat}{sl:ι->Fr}{bs:ι->Bx}{m:Nat}{fr1:Fr}{bx0 bx1:Bx}(j:ι)(hj:Pi j)(hm:μ j<m)(hc:ZK fr1 bx1 (sl j) (bs j) nx nx'):
  ∃m',m'<m/\∃fr'' bx'',F8 Pi μ sl bs m' fr'' bx''/\GU ns bx0 fr1 bx1 fr'' bx'' nx nx':=⟨μ j,hm,sl j,bs j,⟨j,hj,rfl,rfl,rfl⟩,.inl (Pm.of hc)⟩
theorem En{Pi:ι->Prop}{μ:ι->Nat}{sl:ι->Fr}{bs:ι->Bx}{m:Nat}{fr1:Fr}{bx0 bx1:Bx}(j:ι)(hj:Pi j)(hm:μ j<m)(hc:LY bx0 nx fr1 bx1 (sl j) (bs j) nx'):
  ∃m',m'<m/\∃fr'' bx'',F8 Pi μ sl bs m' fr'' bx''/\GU ns bx0 fr1 bx1 fr'' bx'' nx nx':=⟨μ j,hm,sl j,bs j,⟨j,hj,rfl,rfl,rfl⟩,.inr hc⟩
def D0:List Nat->Fr->Fr
 |[],_=>[]
 |t::l,fr=>(t,Au fr t)::D0 l fr
def F2:Fr->Fr->Fr
 |[],r=>r
 |p::l,r=>p::F2 l r
def PD:Bx->Nat->(Int->Bool)->(Int->Cw)->Bx
 |[],b,d,r=>[(b,.fam d r)]
 |(t,.one c)::l,b,d,r=>(t,.one c)::PD l b d r
 |(t,.fam d' r')::l,b,d,r=>if t=b then(b,.fam d r)::l else(t,.fam d' r')::PD l b d r
def Me:Bx->Bx->Bx
 |[],bx=>bx
 |(b,.one c)::l,bx=>Aj (Me l bx) b c
 |(b,.fam d r)::l,bx=>PD (Me l bx) b d r
theorem AS(Pi:ι->Prop)(μ:ι->Nat)(keep:List Nat)(sl:ι->Fr)(bs:ι->Bx)(i:ι)(hi:Pi i)(h0:ZK fr bx (F2 (sl i) (D0 keep fr)) (Me (bs i) bx) nx nx)
  (hr:∀i,Pi i->AA E Qf n (.code c:: .inv (fun s fr1 bx1=>s=Eo stk/\∃m',m'<μ i/\∃fr'' bx'',F8 Pi μ (fun i=>F2 (sl i) (D0 keep fr)) (fun i=>Me (bs i) bx) m' fr'' bx''/\GU (Ez stk) bx fr1 bx1 fr'' bx'' nx nx)::K) stk res (F2 (sl i) (D0 keep fr)) (Me (bs i) bx) nx):
  FL (AA E Qf n) c K stk res fr bx nx:=DO Pi μ _ _ 0 i hi (.inl (Pm.of h0)) hr
theorem Hu(Pi:ι->Prop)(μ:ι->Nat)(keep:List Nat)(sl:ι->Fr)(bs:ι->Bx)(d:Nat)(i:ι)(hi:Pi i)(h0:ZK fr bx (F2 (sl i) (D0 keep fr)) (Me (bs i) bx) nx (nx+d))
  (hr:∀i,Pi i->AA E Qf n (.code c:: .inv (fun s fr1 bx1=>s=Eo stk/\∃m',m'<μ i/\∃fr'' bx'',F8 Pi μ (fun i=>F2 (sl i) (D0 keep fr)) (fun i=>Me (bs i) bx) m' fr'' bx''/\GU (Ez stk) bx fr1 bx1 fr'' bx'' nx (nx+d))::K) stk res (F2 (sl i) (D0 keep fr)) (Me (bs i) bx) (nx+d)):
  FL (AA E Qf n) c K stk res fr bx nx:=DO Pi μ _ _ d i hi (.inl (Pm.of h0)) hr
theorem Fq(v:Ad):AB v v=True:=by
 refine eq_true ?_
 induction v with
 |cons h t ih1 ih2=>exact⟨h,t,rfl,ih1,ih2⟩
 |agg l ih=>exact⟨l,rfl,ih⟩
 |tup l ih=>exact⟨l,rfl,ih⟩
 |func fn l ih=>exact⟨l,rfl,ih⟩
 |view k n c ih=>exact .inr ⟨c,rfl,fun i _ j _=>ih i j⟩
 |vptr m c ih=>exact⟨c,rfl,fun j _=>ih j⟩
 |mview kd has f ih=>exact⟨has,f,rfl,fun k=>⟨rfl,fun _=>ih k⟩⟩
 |und=>trivial
 |_=>rfl
section
variable{N D:Bn->Prop}
theorem Zl(v:Ad):BS N D .und v=True:=rfl
theorem Z6(k:IntKind)(n:Int)(v:Ad):BS N D (.int k n) v=(v= .int k n):=rfl
theorem Xm(b:Bool)(v:Ad):BS N D (.bool b) v=(v= .bool b):=rfl
theorem WD(v:Ad):BS N D .nils v=(v= .nils):=rfl
theorem WO(v:Ad):BS N D .nilf v=(v= .nilf):=rfl
theorem WT(v:Ad):BS N D .nilp v=(v= .nilp):=rfl
theorem ZC(v:Ad):BS N D .nil v=(v= .nil):=rfl
theorem Z2(b:Bn)(v:Ad):BS N D (.own b) v=((v= .own b/\D b)\/(v= .nils/\N b)):=rfl
theorem Yn(b:Bn)(o:Nat)(v:Ad):BS N D (.ptr b o) v=(v= .ptr b o/\D b):=rfl
theorem V9(b:Bn)(i o:Nat)(v:Ad):BS N D (.rptr b i o) v=(v= .rptr b i o/\D b):=rfl
theorem VA(a b c d:Ad):BS N D (.cons a b) (.cons c d)=(BS N D a c/\BS N D b d):=propext ⟨fun⟨_,_,e,h1,h2⟩=>by cases e;exact⟨h1,h2⟩,fun⟨h1,h2⟩=>⟨_,_,rfl,h1,h2⟩⟩
theorem Zr(l m:Ad):BS N D (.agg l) (.agg m)=BS N D l m:=propext ⟨fun⟨_,e,h⟩=>by cases e;exact h,fun h=>⟨_,rfl,h⟩⟩
theorem ZJ(l m:Ad):BS N D (.tup l) (.tup m)=BS N D l m:=propext ⟨fun⟨_,e,h⟩=>by cases e;exact h,fun h=>⟨_,rfl,h⟩⟩
theorem Vm(f:Fn)(l m:Ad):BS N D (.func f l) (.func f m)=BS N D l m:=propext ⟨fun⟨_,e,h⟩=>by cases e;exact h,fun h=>⟨_,rfl,h⟩⟩
theorem WS(k n n':Nat)(c c':Nat->Nat->Ad):BS N D (.view k n c) (.view k n' c')=(n'=n/\∀i,i<n->∀j,j<k->AB (c i j) (c' i j)):=
 propext ⟨fun h=>by rcases h with⟨h,_⟩|⟨_,e,h⟩;cases h;cases e;exact⟨rfl,h⟩,fun⟨e,h⟩=>by subst e;exact .inr ⟨_,rfl,h⟩⟩
theorem Kl(k n:Nat)(c:Nat->Nat->Ad):BS N D (.view k n c) .nils=(n=0):=propext (Iff.intro (fun h=>by rcases h with⟨_,h⟩|⟨_,e,_⟩<;>first|exact h|nomatch e) (fun h=>Or.inl ⟨rfl,h⟩))
theorem V1(m:Nat)(c c':Nat->Ad):BS N D (.vptr m c) (.vptr m c')=(∀j,j<m->AB (c j) (c' j)):=propext ⟨fun⟨_,e,h⟩=>by cases e;exact h,fun h=>⟨_,rfl,h⟩⟩
theorem V5(b:Bn)(v:Ad):BS N D (.mapb b) v=(v= .mapb b/\D b):=rfl
theorem Yj(b:Bn)(v:Ad):BS N D (.yld b) v=(v= .yld b/\D b):=rfl
theorem TX(kd kd':IntKind)(has has':Int->Bool)(f f':Int->Ad):BS N D (.mview kd has f) (.mview kd' has' f')=(kd'=kd/\∀k,has' k=has k/\(has k=true->AB (f k) (f' k))):=
 propext ⟨fun⟨_,_,e,h⟩=>by cases e;exact⟨rfl,h⟩,fun⟨e,h⟩=>by subst e;exact⟨_,_,rfl,h⟩⟩
theorem TA(kd kd':IntKind)(has has':Int->Bool)(f f':Int->Ad):AB (.mview kd has f) (.mview kd' has' f')=(kd'=kd/\∀k,has' k=has k/\(has k=true->AB (f k) (f' k))):=
 propext ⟨fun⟨_,_,e,h⟩=>by cases e;exact⟨rfl,h⟩,fun⟨e,h⟩=>by subst e;exact⟨_,_,rfl,h⟩⟩
theorem Yu(v:Ad):AB .und v=True:=rfl
theorem Ot(k:IntKind)(n:Int)(v:Ad):AB (.int k n) v=(v= .int k n):=rfl
theorem WJ(b:Bool)(v:Ad):AB (.bool b) v=(v= .bool b):=rfl
theorem Ey(v:Ad):AB .nil v=(v= .nil):=rfl
theorem WR(v:Ad):AB .nils v=(v= .nils):=rfl
theorem VF(v:Ad):AB .nilf v=(v= .nilf):=rfl
theorem Vv(v:Ad):AB .nilp v=(v= .nilp):=rfl
theorem Dy(a b c d:Ad):AB (.cons a b) (.cons c d)=(AB a c/\AB b d):=propext ⟨fun⟨_,_,e,h1,h2⟩=>by cases e;exact⟨h1,h2⟩,fun⟨h1,h2⟩=>⟨_,_,rfl,h1,h2⟩⟩
theorem Eu(l m:Ad):AB (.agg l) (.agg m)=AB l m:=propext ⟨fun⟨_,e,h⟩=>by cases e;exact h,fun h=>⟨_,rfl,h⟩⟩
theorem XW(l m:Ad):AB (.tup l) (.tup m)=AB l m:=propext ⟨fun⟨_,e,h⟩=>by cases e;exact h,fun h=>⟨_,rfl,h⟩⟩
theorem Vo(f:Fn)(l m:Ad):AB (.func f l) (.func f m)=AB l m:=propext ⟨fun⟨_,e,h⟩=>by cases e;exact h,fun h=>⟨_,rfl,h⟩⟩
theorem Dk(k n n':Nat)(c c':Nat->Nat->Ad):AB (.view k n c) (.view k n' c')=(n'=n/\∀i,i<n->∀j,j<k->AB (c i j) (c' i j)):=
 propext ⟨fun h=>by rcases h with⟨h,_⟩|⟨_,e,h⟩;cases h;cases e;exact⟨rfl,h⟩,fun⟨e,h⟩=>by subst e;exact .inr ⟨_,rfl,h⟩⟩
theorem MZ(k n:Nat)(c:Nat->Nat->Ad):AB (.view k n c) .nils=(n=0):=propext (Iff.intro (fun h=>by rcases h with⟨_,h⟩|⟨_,e,_⟩<;>first|exact h|nomatch e) (fun h=>Or.inl ⟨rfl,h⟩))
theorem VS(m:Nat)(c c':Nat->Ad):AB (.vptr m c) (.vptr m c')=(∀j,j<m->AB (c j) (c' j)):=propext ⟨fun⟨_,e,h⟩=>by cases e;exact h,fun h=>⟨_,rfl,h⟩⟩
end
theorem AU{e:Int}(h: -9223372036854775808<=e)(h':e<=9223372036854775807):IntKind.i64.wrap e=e:=IntWalk.i64_in e (by omega)
theorem AcR(i:Nat):((i:Int)).toNat=i:=Int.toNat_natCast i
theorem Aag(i:Nat):((i:Int)+1).toNat=i+1:=by omega
theorem Cs{i:Nat}(h:i<9223372036854775807):IntKind.i64.wrap ((i:Int)+1)=((i+1:Nat):Int):=by rw[AU (by omega) (by omega)];omega
theorem Yd(p:Prop):(true=true->p)=p:=propext ⟨fun h=>h rfl,fun h _=>h⟩
theorem YY(p:Prop):(true=false->p)=True:=eq_true fun h=>Bool.noConfusion h
theorem Yz(p:Prop):(false=true->p)=True:=eq_true fun h=>Bool.noConfusion h
theorem ZW(p:Prop):(false=false->p)=p:=propext ⟨fun h=>h rfl,fun h _=>h⟩
end Go.Proofs.YtlieoghhkioflaaGreat
/- The engine,part 23: types of values,and specs by types. No condition. -/
namespace Go.Proofs.YtlieoghhkioflaaGreat
open Go Go.RowKit
variable{α1 α2 α3:Type}
variable{P:Program}{E:Db}{A0:Nat->Prop}{w0:AW}{Qf:Ad->Bx->Prop}
structure VT(α:Type) where
 Is:Ad->Prop
 of:Ad->α
 enc:α->Ad
 h1:∀v,Is v->AB (enc (of v)) v
 h2:∀a,of (enc a)=a
structure RT(α:Type) where
 k:Nat
 W:Nat->(Nat->Nat->Ad)->Prop
 D:(Nat->Nat->Ad)->Nat->α
 C:α->Nat->Ad
 h1:∀n c,W n c->∀i,i<n->∀j,j<k->AB (C (D c i) j) (c i j)
 h2:∀x:Nat->α,D (fun i j=>C (x i) j)=x
 w_enc:∀(n:Nat) (x:Nat->α),W n (fun i j=>C (x i) j)
def Qd(k:IntKind):Ad->Prop
 | .int k' _=>k=k'
 |_=>False
def Ov:Ad->Prop
 | .bool _=>True
 |_=>False
def Zd(k:IntKind):VT Int where
 Is:=Qd k
 of:=Ad.toInt
 enc:=fun n=> .int k n
 h1:=by intro v h;cases v<;>simp[Qd]at h;subst h;rfl
 h2:=fun _=>rfl
abbrev TI:VT Int:=Zd .i64
def Aad:VT Bool where
 Is:=Ov
 of:=Ad.toBool
 enc:=fun n=> .bool n
 h1:=by intro v h;cases v<;>simp[Ov]at h;rfl
 h2:=fun _=>rfl
def VE{α:Type}(R:RT α):Ad->Prop
 | .view k n c=>k=R.k/\R.W n c
 |_=>False
def Dv{α:Type}(R:RT α):VT (Nat×(Nat->α)) where
 Is:=VE R
 of:=fun v=>(v.slen,R.D v.scell)
 enc:=fun p=> .view R.k p.1 fun i j=>R.C (p.2 i) j
 h1:=by
  intro v h
  cases v<;>simp only[VE]at h
  rename_i k n c
  obtain⟨rfl,h⟩:=h
  simp only[Dk,Ad.slen,Ad.scell,true_and]
  exact R.h1 n c h
 h2:=fun p=>by simp only[Ad.slen,Ad.scell];rw[R.h2]
def Bw(k:IntKind):RT Int where
  k:=1
  W:=fun n c=>∀i,i<n->c i 0= .int k (c i 0).toInt
  D:=fun c i=>(c i 0).toInt
  C:=fun x _=> .int k x
  h1:=by intro n c h i hi j hj;obtain rfl:j=0:=by omega
         rw[h i hi];rfl
  h2:=fun _=>rfl
  w_enc:=fun _ _ _ _=>rfl
def ER:RT Bool where
  k:=1
  W:=fun n c=>∀i,i<n->c i 0= .bool (c i 0).toBool
  D:=fun c i=>(c i 0).toBool
  C:=fun x _=> .bool x
  h1:=by intro n c h i hi j hj;obtain rfl:j=0:=by omega
         rw[h i hi];rfl
  h2:=fun _=>rfl
  w_enc:=fun _ _ _ _=>rfl
def RSl{α:Type}(R:RT α):RT (Nat×(Nat->α)) where
 k:=1
 W:=fun n c=>∀i,i<n->c i 0= .view R.k (c i 0).slen (c i 0).scell/\R.W (c i 0).slen (c i 0).scell
 D:=fun c i=>((c i 0).slen,R.D (c i 0).scell)
 C:=fun x _=> .view R.k x.1 fun i j=>R.C (x.2 i) j
 h1:=by
  intro n c h i hi j hj
  obtain rfl:j=0:=by omega
  obtain⟨h1,h2⟩:=h i hi
  rw[h1]
  simp only[Dk,Ad.slen,Ad.scell,true_and]
  exact R.h1 _ _ h2
 h2:=fun x=>by funext i;simp only[Ad.slen,Ad.scell];rw[R.h2]
 w_enc:=fun n x i _=>⟨rfl,R.w_enc _ _⟩
theorem Jt{E:Db}(hmix:P.follows .mixedOrders=true)(hS:∀id s,E.S id=some s->Ah P E.G id s)(hI:∀id af,E.I id=some af->∃fn,P.funcs[id]?=some fn/\Aw P fn=some af)(hX:∀id pz s,E.X id=some (pz,s)->Cy P E.G id pz s)(hC:∀id T k,E.C id=some (T,k)->D7 P id T k){id:FuncId}{fn:Func}{af:Ax}{s:As}(hfn:P.funcs[id]?=some fn)(hcf:Aw P fn=some af)(hno:s.own=none)
  (h:∀vs,s.pre vs->∃vs',AB (vl vs') (vl vs)/\s.res vs'=s.res vs/\(FT (vl vs')->∃n,AA E (fun v bx=>Wo v bx (s.res vs')) n [.code af.code] [] af.res (params 0 vs') [] 0)):Ah P E.G id s:=by
 simp only[Bq]at h
 have hok:Ah P E.G id ⟨fun vs'=>FT (vl vs')->∃n,run E (fun v bx=>Wo v bx (s.res vs')) n [.code af.code] [] af.res (params 0 vs') [] 0,s.res,none⟩:=
  Ju hmix hS hI hX hC hfn hcf fun vs hp hw=>by simp only[QE];exact hp hw
 refine⟨hok.ent,fun A w vs cs hG hr hp=> ?_⟩
 obtain⟨vs',h1,h2,h3⟩:=h vs hp
 have:=hok.run A w vs' cs hG (BE _ _ _ h1 hr) h3
 simp only[h2]at this
 refine this.mono fun e w'=> ?_
 rintro⟨x,q1,q2,q3,_⟩
 exact⟨x,q1,q2,q3,fun e' he'=>by rw[hno]at he';cases he'⟩
theorem Gg{G:Nat->Option (Nat×(Nat->Ad))}{S:List (FuncId×As)}{I:List (FuncId×Ax)}(hmix:P.follows .mixedOrders=true)(hS:Lw P G S)(hI:LL P I){id:FuncId}{fn:Func}{af:Ax}{s:As}(hfn:P.funcs[id]?=some fn)(hcf:Aw P fn=some af)(hno:s.own=none)
  (h:∀vs,s.pre vs->∃vs',AB (vl vs') (vl vs)/\s.res vs'=s.res vs/\(FT (vl vs')->∃n,AA (XK G S I) (fun v bx=>Wo v bx (s.res vs')) n [.code af.code] [] af.res (params 0 vs') [] 0)):Ah P G id s:=
 Jt (E:=XK G S I) hmix hS.get hI.get (fun _ _ _ h=>by cases h) (fun _ _ _ h=>by cases h) hfn hcf hno h
def Dr(t1:VT α1)(pre:α1->Prop)(res:α1->Ad):As:=
 ⟨fun|[a]=>t1.Is a/\pre (t1.of a)|_=>False,fun|[a]=>res (t1.of a)|_=> .und,none⟩
def IA(res:Ad):As:=⟨fun|[]=>True|_=>False,fun _=>res,none⟩
def Cq(t1:VT α1)(t2:VT α2)(pre:α1->α2->Prop)(res:α1->α2->Ad):As:=
 ⟨fun|[a,b]=>t1.Is a/\t2.Is b/\pre (t1.of a) (t2.of b)|_=>False,fun|[a,b]=>res (t1.of a) (t2.of b)|_=> .und,none⟩
def D5(t1:VT α1)(t2:VT α2)(t3:VT α3)(pre:α1->α2->α3->Prop)(res:α1->α2->α3->Ad):As:=
 ⟨fun|[a,b,c]=>t1.Is a/\t2.Is b/\t3.Is c/\pre (t1.of a) (t2.of b) (t3.of c)|_=>False,fun|[a,b,c]=>res (t1.of a) (t2.of b) (t3.of c)|_=> .und,none⟩
def K0{α4:Type}(t1:VT α1)(t2:VT α2)(t3:VT α3)(t4:VT α4)(pre:α1->α2->α3->α4->Prop)(res:α1->α2->α3->α4->Ad):As:=
 ⟨fun|[a,b,c,d]=>t1.Is a/\t2.Is b/\t3.Is c/\t4.Is d/\pre (t1.of a) (t2.of b) (t3.of c) (t4.of d)|_=>False,fun|[a,b,c,d]=>res (t1.of a) (t2.of b) (t3.of c) (t4.of d)|_=> .und,none⟩
def Aa0{α4 α5:Type}(t1:VT α1)(t2:VT α2)(t3:VT α3)(t4:VT α4)(t5:VT α5)(pre:α1->α2->α3->α4->α5->Prop)(res:α1->α2->α3->α4->α5->Ad):As:=
 ⟨fun|[a,b,c,d,e]=>t1.Is a/\t2.Is b/\t3.Is c/\t4.Is d/\t5.Is e/\pre (t1.of a) (t2.of b) (t3.of c) (t4.of d) (t5.of e)|_=>False,fun|[a,b,c,d,e]=>res (t1.of a) (t2.of b) (t3.of c) (t4.of d) (t5.of e)|_=> .und,none⟩
section
variable{G:Nat->Option (Nat×(Nat->Ad))}{S:List (FuncId×As)}{I:List (FuncId×Ax)}{id:FuncId}{fn:Func}{af:Ax}{α1 α2 α3 α4 α5:Type}{t1:VT α1}{t2:VT α2}{t3:VT α3}{t4:VT α4}{t5:VT α5}
theorem Up{G:Nat->Option (Nat×(Nat->Ad))}{S:List (FuncId×As)}{I:List (FuncId×Ax)}(hmix:P.follows .mixedOrders=true)(hS:Lw P G S)(hI:LL P I){id:FuncId}{fn:Func}{af:Ax}{s:As}(hfn:P.funcs[id]?=some fn)(hcf:Aw P fn=some af)
  (h:∀vs,s.pre vs->∃vs',AB (vl vs') (vl vs)/\s.res vs'=s.res vs/\(FT (vl vs')->∃n,AA (XK G S I) (fun v bx=>GR s.own v bx (s.res vs')) n [.code af.code] [] af.res (params 0 vs') [] 0)):Ah P G id s:=by
 simp only[Bq]at h
 have hok:Ah P G id ⟨fun vs'=>FT (vl vs')->∃n,run (XK G S I) (fun v bx=>GR s.own v bx (s.res vs')) n [.code af.code] [] af.res (params 0 vs') [] 0,s.res,s.own⟩:=
  SF hmix hS hI hfn hcf fun vs hp hw=>hp hw
 refine⟨hok.ent,fun A w vs cs hG hr hp=> ?_⟩
 obtain⟨vs',h1,h2,h3⟩:=h vs hp
 have:=hok.run A w vs' cs hG (BE _ _ _ h1 hr) h3
 simp only[h2]at this
 exact this
def As.mine(s:As)(e:TypeId):As:=⟨s.pre,s.res,some e⟩
abbrev Ua(G:Nat->Option (Nat×(Nat->Ad)))(S:List (FuncId×As))(I:List (FuncId×Ax))(af:Ax)(vs:List Ad)(e:TypeId)(r:Ad):Prop:=AA (XK G S I) (fun v bx=>GR (some e) v bx r) 5000 [.code af.code] [] af.res (params 0 vs) [] 0
theorem fo1(hmix:P.follows .mixedOrders=true)(hS:Lw P G S)(hI:LL P I)(hfn:P.funcs[id]?=some fn)(hcf:Aw P fn=some af){e:TypeId}{pre:α1->Prop}{res:α1->Ad}
  (h:∀a,pre a->FT (vl [t1.enc a])->Ua G S I af [t1.enc a] e (res a)):Ah P G id ((Dr t1 pre res).mine e):=by
 refine Up hmix hS hI hfn hcf fun vs hp=> ?_
 simp only[As.mine,Dr]at hp
 split at hp
 ·rename_i a
  refine⟨[t1.enc (t1.of a)],?_,?_,fun hw=>⟨5000,?_⟩⟩
  ·exact⟨_,_,rfl,t1.h1 a hp.1,rfl⟩
  ·simp only[As.mine,Dr,t1.h2]
  simp only[As.mine,Dr,t1.h2];exact h _ hp.2 hw
 exact hp.elim
abbrev A3(G:Nat->Option (Nat×(Nat->Ad)))(S:List (FuncId×As))(I:List (FuncId×Ax))(af:Ax)(vs:List Ad)(r:Ad):Prop:=AA (XK G S I) (fun v bx=>Wo v bx r) 5000 [.code af.code] [] af.res (params 0 vs) [] 0
abbrev OR(G:Nat->Option (Nat×(Nat->Ad)))(S:List (FuncId×As))(I:List (FuncId×Ax))(X:List (FuncId×Nat×As))(af:Ax)(vs:List Ad)(r:Ad):Prop:=AA (mkX G S I X) (fun v bx=>Wo v bx r) 5000 [.code af.code] [] af.res (params 0 vs) [] 0
theorem ZV(hmix:P.follows .mixedOrders=true)(hS:Lw P G S)(hI:LL P I)(hfn:P.funcs[id]?=some fn)(hcf:Aw P fn=some af){res:Ad}
  (h:A3 G S I af [] res):Ah P G id (IA res):=by
 refine Gg hmix hS hI hfn hcf rfl fun vs hp=> ?_
 simp only[IA]at hp
 split at hp
 ·exact⟨[],rfl,rfl,fun _=>⟨5000,h⟩⟩
 exact hp.elim
theorem We(hmix:P.follows .mixedOrders=true)(hS:Lw P G S)(hI:LL P I)(hfn:P.funcs[id]?=some fn)(hcf:Aw P fn=some af){pre:α1->Prop}{res:α1->Ad}
  (h:∀a,pre a->FT (vl [t1.enc a])->A3 G S I af [t1.enc a] (res a)):Ah P G id (Dr t1 pre res):=by
 refine Gg hmix hS hI hfn hcf rfl fun vs hp=> ?_
 simp only[Dr]at hp
 split at hp
 ·rename_i a
  refine⟨[t1.enc (t1.of a)],?_,?_,fun hw=>⟨5000,?_⟩⟩
  ·exact⟨_,_,rfl,t1.h1 a hp.1,rfl⟩
  ·simp only[Dr,t1.h2]
  simp only[Dr,t1.h2];exact h _ hp.2 hw
 exact hp.elim
theorem Kq(hmix:P.follows .mixedOrders=true)(hS:Lw P G S)(hI:LL P I)(hfn:P.funcs[id]?=some fn)(hcf:Aw P fn=some af){pre:α1->α2->Prop}{res:α1->α2->Ad}
  (h:∀a b,pre a b->FT (vl [t1.enc a,t2.enc b])->A3 G S I af [t1.enc a,t2.enc b] (res a b)):Ah P G id (Cq t1 t2 pre res):=by
 refine Gg hmix hS hI hfn hcf rfl fun vs hp=> ?_
 simp only[Cq]at hp
 split at hp
 ·rename_i a b
  obtain⟨p1,p2,p⟩:=hp
  refine⟨[t1.enc (t1.of a),t2.enc (t2.of b)],?_,?_,fun hw=>⟨5000,?_⟩⟩
  ·exact⟨_,_,rfl,t1.h1 a p1,_,_,rfl,t2.h1 b p2,rfl⟩
  ·simp only[Cq,t1.h2,t2.h2]
  simp only[Cq,t1.h2,t2.h2];exact h _ _ p hw
 exact hp.elim
theorem fn3(hmix:P.follows .mixedOrders=true)(hS:Lw P G S)(hI:LL P I)(hfn:P.funcs[id]?=some fn)(hcf:Aw P fn=some af){pre:α1->α2->α3->Prop}{res:α1->α2->α3->Ad}
  (h:∀a b c,pre a b c->FT (vl [t1.enc a,t2.enc b,t3.enc c])->A3 G S I af [t1.enc a,t2.enc b,t3.enc c] (res a b c)):Ah P G id (D5 t1 t2 t3 pre res):=by
 refine Gg hmix hS hI hfn hcf rfl fun vs hp=> ?_
 simp only[D5]at hp
 split at hp
 ·rename_i a b c
  obtain⟨p1,p2,p3,p⟩:=hp
  refine⟨[t1.enc (t1.of a),t2.enc (t2.of b),t3.enc (t3.of c)],?_,?_,fun hw=>⟨5000,?_⟩⟩
  ·exact⟨_,_,rfl,t1.h1 a p1,_,_,rfl,t2.h1 b p2,_,_,rfl,t3.h1 c p3,rfl⟩
  ·simp only[D5,t1.h2,t2.h2,t3.h2]
  simp only[D5,t1.h2,t2.h2,t3.h2];exact h _ _ _ p hw
 exact hp.elim
theorem AbJ{X:List (FuncId×Nat×As)}(hmix:P.follows .mixedOrders=true)(hS:Lw P G S)(hI:LL P I)(hX:Vi P G X)(hfn:P.funcs[id]?=some fn)(hcf:Aw P fn=some af){pre:α1->α2->α3->Prop}{res:α1->α2->α3->Ad}
  (h:∀a b c,pre a b c->FT (vl [t1.enc a,t2.enc b,t3.enc c])->OR G S I X af [t1.enc a,t2.enc b,t3.enc c] (res a b c)):Ah P G id (D5 t1 t2 t3 pre res):=by
 refine Jt (E:=mkX G S I X) hmix hS.get hI.get hX.get (fun _ _ _ h=>by cases h) hfn hcf rfl fun vs hp=> ?_
 simp only[D5]at hp
 split at hp
 ·rename_i a b c
  obtain⟨p1,p2,p3,p⟩:=hp
  refine⟨[t1.enc (t1.of a),t2.enc (t2.of b),t3.enc (t3.of c)],?_,?_,fun hw=>⟨5000,?_⟩⟩
  ·exact⟨_,_,rfl,t1.h1 a p1,_,_,rfl,t2.h1 b p2,_,_,rfl,t3.h1 c p3,rfl⟩
  ·simp only[D5,t1.h2,t2.h2,t3.h2]
  simp only[D5,t1.h2,t2.h2,t3.h2];exact h _ _ _ p hw
 exact hp.elim
theorem fn4(hmix:P.follows .mixedOrders=true)(hS:Lw P G S)(hI:LL P I)(hfn:P.funcs[id]?=some fn)(hcf:Aw P fn=some af){pre:α1->α2->α3->α4->Prop}{res:α1->α2->α3->α4->Ad}
  (h:∀a b c d,pre a b c d->FT (vl [t1.enc a,t2.enc b,t3.enc c,t4.enc d])->A3 G S I af [t1.enc a,t2.enc b,t3.enc c,t4.enc d] (res a b c d)):Ah P G id (K0 t1 t2 t3 t4 pre res):=by
 refine Gg hmix hS hI hfn hcf rfl fun vs hp=> ?_
 simp only[K0]at hp
 split at hp
 ·rename_i a b c d
  obtain⟨p1,p2,p3,p4,p⟩:=hp
  refine⟨[t1.enc (t1.of a),t2.enc (t2.of b),t3.enc (t3.of c),t4.enc (t4.of d)],?_,?_,fun hw=>⟨5000,?_⟩⟩
  ·exact⟨_,_,rfl,t1.h1 a p1,_,_,rfl,t2.h1 b p2,_,_,rfl,t3.h1 c p3,_,_,rfl,t4.h1 d p4,rfl⟩
  ·simp only[K0,t1.h2,t2.h2,t3.h2,t4.h2]
  simp only[K0,t1.h2,t2.h2,t3.h2,t4.h2];exact h _ _ _ _ p hw
 exact hp.elim
structure AT(α:Type) where
 Is:List Ad->Prop
 of:List Ad->α
 enc:α->List Ad
 h1:∀vs,Is vs->AB (vl (enc (of vs))) (vl vs)
 h2:∀a,of (enc a)=a
def AZ:AT Unit where
 Is:=fun|[]=>True|_=>False
 of:=fun _=>()
 enc:=fun _=>[]
 h1:=fun vs h=>by cases vs;rfl;cases h
 h2:=fun _=>rfl
def Ag{α β:Type}(t:VT α)(s:AT β):AT (α×β) where
 Is:=fun|v::l=>t.Is v/\s.Is l|[]=>False
 of:=fun vs=>(t.of (vs.headD .und),s.of vs.tail)
 enc:=fun a=>t.enc a.1::s.enc a.2
 h1:=fun vs h=>by
  cases vs with
  |nil=>exact h.elim
  |cons v l=>exact⟨_,_,rfl,t.h1 v h.1,s.h1 l h.2⟩
 h2:=fun a=>by simp only[List.headD_cons,List.tail_cons,t.h2,s.h2]
def Ak{α:Type}(t:AT α)(pre:α->Prop)(res:α->Ad):As:=⟨fun vs=>t.Is vs/\pre (t.of vs),fun vs=>res (t.of vs),none⟩
variable{X:List (FuncId×Nat×As)}{N:List TypeId}{C:List (FuncId×Option (TypeId×IntKind))}{α β:Type}
theorem Ij{t:AT α}(hmix:P.follows .mixedOrders=true)(hS:Lw P G S)(hI:LL P I)(hX:Vi P G X)(hfn:P.funcs[id]?=some fn)(hcf:Aw P fn=some af){pre:α->Prop}{res:α->Ad}
  (h:∀a,pre a->FT (vl (t.enc a))->AA (LI G S I X N C) (fun v bx=>Wo v bx (res a)) 100000 [.code af.code] [] af.res (params 0 (t.enc a)) [] 0) (hC:S7 P C:=by first|exact .nil|exact .frz .nil):Ah P G id (Ak t pre res):=
 Jt (E:=LI G S I X N C) hmix hS.get hI.get hX.get hC.get hfn hcf rfl fun vs hp=>⟨t.enc (t.of vs),t.h1 vs hp.1,by simp only[Ak,t.h2],fun hw=>⟨100000,by simp only[Ak,t.h2];exact h _ hp.2 hw⟩⟩
theorem QA{R:RT α}{t:AT β}(hmix:P.follows .mixedOrders=true)(hS:Lw P G S)(hI:LL P I)(hX:Vi P G X)(hfn:P.funcs[id]?=some fn)(hcf:Aw P fn=some af)(hres:af.res=[]){pre:(Nat×(Nat->α))×β->Prop}{res:(Nat×(Nat->α))×β->Ad}
  (h:∀a b e0,pre (a,b)->FT (vl (t.enc b))->a.1<=maxLen->AA (LI G S I X N C) (U2 e0 R.k a.1 (res (a,b))) 100000 [.code af.code] [Hn] af.res (params 0 (.own (.n 0)::t.enc b)) [(0,.row e0 R.k a.1 fun i j=>R.C (a.2 i) j)] 1) (hC:S7 P C:=by first|exact .nil|exact .frz .nil):Cy P G id 0 (Ak (Ag (Dv R) t) pre res):=by
 simp only[Bq]at h
 refine V8 (E:=LI G S I X N C) hmix hS.get hI.get hX.get hC.get hfn hcf rfl hres fun vs us k n c hl hp=> ?_
 obtain rfl:vs=[]:=List.eq_nil_of_length_eq_zero hl
 obtain⟨⟨⟨rfl,hw⟩,h2⟩,hp⟩:=hp
 refine⟨[],t.enc (t.of us),fun i j=>R.C (R.D c i) j,rfl,t.h1 us h2,fun i hi j hj=>R.h1 n c hw i hi j hj,fun _ hw' hn e0=>⟨100000,?_⟩⟩
 exact h (n,R.D c) (t.of us) e0 hp hw' hn
theorem feT{R:RT α}{t:AT β}(hmix:P.follows .mixedOrders=true)(hS:Lw P G S)(hI:LL P I)(hX:Vi P G X)(hfn:P.funcs[id]?=some fn)(hcf:Aw P fn=some af){e:TypeId}{pre:(Nat×(Nat->α))×β->Prop}{res:(Nat×(Nat->α))×β->Ad}
  (h:∀a b,pre (a,b)->FT (vl (t.enc b))->a.1<=maxLen->AA (LI G S I X N C) (fun v bx=>GR (some e) v bx (res (a,b))) 100000 [.code af.code] [] af.res (params 0 (.own (.n 0)::t.enc b)) [(0,.row e R.k a.1 fun i j=>R.C (a.2 i) j)] 1) (hC:S7 P C:=by first|exact .nil|exact .frz .nil):Cy P G id 0 ((Ak (Ag (Dv R) t) pre res).mine e):=by
 simp only[Bq]at h
 refine Vx (E:=LI G S I X N C) hmix hS.get hI.get hX.get hC.get hfn hcf (e1:=e) rfl fun vs us k n c hl hp=> ?_
 obtain rfl:vs=[]:=List.eq_nil_of_length_eq_zero hl
 obtain⟨⟨⟨rfl,hw⟩,h2⟩,hp⟩:=hp
 refine⟨[],t.enc (t.of us),fun i j=>R.C (R.D c i) j,rfl,t.h1 us h2,fun i hi j hj=>R.h1 n c hw i hi j hj,fun _ hw' hn=>⟨100000,?_⟩⟩
 exact h (n,R.D c) (t.of us) hp hw' hn
end
end Go.Proofs.YtlieoghhkioflaaGreat
/- The engine: integers within their kind's bounds,as types of values. No condition. -/
namespace Go.Proofs.YtlieoghhkioflaaGreat
open Go Go.RowKit
abbrev UI(k:IntKind):={n:Int//k.min<=n/\n<=k.max}
theorem WU(k:IntKind):k.min<=0/\0<=k.max:=by cases k<;>decide
def Rj(k:IntKind)(n:Int):UI k:=if h:k.min<=n/\n<=k.max then⟨n,h⟩else⟨0,WU k⟩
theorem Hy{k:IntKind}(a:UI k):Rj k a.1=a:=by unfold Rj;rw[dif_pos a.2]
theorem PT{k:IntKind}{n:Int}(h:k.min<=n/\n<=k.max):(Rj k n).1=n:=by unfold Rj;rw[dif_pos h]
def TU(k:IntKind):VT (UI k) where
 Is:=fun v=>v= .int k v.toInt/\k.min<=v.toInt/\v.toInt<=k.max
 of:=fun v=>Rj k v.toInt
 enc:=fun a=> .int k a.1
 h1:=fun v h=>by rw[PT h.2];rw[Ot];exact h.1
 h2:=fun a=>Hy a
def RU(k:IntKind):RT (UI k) where
 k:=1
 W:=fun n c=>∀i,i<n->c i 0= .int k (c i 0).toInt/\k.min<=(c i 0).toInt/\(c i 0).toInt<=k.max
 D:=fun c i=>Rj k (c i 0).toInt
 C:=fun x _=> .int k x.1
 h1:=fun n c h i hi j hj=>by
  obtain rfl:j=0:=by omega
  have:=h i hi
  rw[PT this.2,Ot];exact this.1
 h2:=fun x=>funext fun i=>Hy (x i)
 w_enc:=fun n x i _=>⟨rfl,(x i).2⟩
section
variable{k:IntKind}
theorem Aal(a:UI k):(TU k).Is (.int k a.1)=True:=eq_true ⟨rfl,a.2⟩
theorem AaW(a:UI k):(TU k).of (.int k a.1)=a:=Hy a
theorem YE(a:UI k):(TU k).enc a= .int k a.1:=rfl
theorem Aco:(RU k).k=1:=rfl
theorem AcH(a:UI k)(j:Nat):(RU k).C a j= .int k a.1:=rfl
theorem AcZ(n:Nat)(x:Nat->UI k):(RU k).W n (fun i _=> .int k (x i).1)=True:=eq_true fun i _=>⟨rfl,(x i).2⟩
theorem Acy(x:Nat->UI k):(RU k).D (fun i _=> .int k (x i).1)=x:=funext fun i=>Hy (x i)
end
theorem YZ(a:UI .u32):0<=a.1/\a.1<=4294967295:=a.2
def AbM{α1 α2 α3 α4 α5 α6:Type}(t1:VT α1)(t2:VT α2)(t3:VT α3)(t4:VT α4)(t5:VT α5)(t6:VT α6)(pre:α1->α2->α3->α4->α5->α6->Prop)(res:α1->α2->α3->α4->α5->α6->Ad):As:=
 ⟨fun|[a,b,c,d,e,f]=>t1.Is a/\t2.Is b/\t3.Is c/\t4.Is d/\t5.Is e/\t6.Is f/\pre (t1.of a) (t2.of b) (t3.of c) (t4.of d) (t5.of e) (t6.of f)|_=>False,fun|[a,b,c,d,e,f]=>res (t1.of a) (t2.of b) (t3.of c) (t4.of d) (t5.of e) (t6.of f)|_=> .und,none⟩
def Aaz{α1 α2 α3 α4 α5 α6 α7:Type}(t1:VT α1)(t2:VT α2)(t3:VT α3)(t4:VT α4)(t5:VT α5)(t6:VT α6)(t7:VT α7)(pre:α1->α2->α3->α4->α5->α6->α7->Prop)(res:α1->α2->α3->α4->α5->α6->α7->Ad):As:=
 ⟨fun|[a,b,c,d,e,f,g]=>t1.Is a/\t2.Is b/\t3.Is c/\t4.Is d/\t5.Is e/\t6.Is f/\t7.Is g/\pre (t1.of a) (t2.of b) (t3.of c) (t4.of d) (t5.of e) (t6.of f) (t7.of g)|_=>False,fun|[a,b,c,d,e,f,g]=>res (t1.of a) (t2.of b) (t3.of c) (t4.of d) (t5.of e) (t6.of f) (t7.of g)|_=> .und,none⟩
attribute [go_sem] WK EY IP Bl Fw JE BU PD EU L0 GC GH CA FJ rens Abz Abg Aax AaV AaX AaY Aac NO Zc Wv GG Ox Gc U2 List.headD_cons List.tail_cons IJ.row IJ.rown IJ.cells IJ.mp IJ.mz IJ.it IJ.lp Bn.n.injEq Bn.f.injEq Option.map_some Option.map_none UZ noIt GR As.mine Zj XZ YA YR YO ZQ Zt ZS Y3 Vz Xp Xo Xn Xi W3 VM Wj VR VD W9 AF L8 Dd LQ Em HI FM Ks CC WH WQ.acode List.map_cons List.map_nil Nat.zero_sub ev Zb Au Ai params vl cellsOf Bg BA Az G4 Dh Bb Ab Aj BQ CX Da WZ FZ Ka Kf Ha Iy FF MB frz Pv FG Pn Na OV A9 FT Hw MS O1 Jh HD Nt EE Ul Qi Qp CZ A4 Er DK C3 Ay An Ci BJ Ct AQ BK Fv Mn DU It EG PQ B7 T0 AK Bc AJ AC CB GF Eo Ez Wo Yu Ot WJ Ey WR VF Vv Dy Eu XW Vo Dk MZ VS TA Fq Ad.toInt Ad.toBool Ad.slen Ad.scell Nat.zero_add Nat.add_zero Nat.mul_one Nat.zero_mul Nat.sub_zero Int.cast_ofNat_Int decide_true decide_false beq_iff_eq beq_eq_false_iff_ne bne_iff_ne bne_eq_false_iff_eq List.length_cons List.length_nil List.nil_append List.cons_append List.append_nil List.flatMap_cons List.flatMap_nil Bool.not_eq_true' Bool.not_eq_false' Bool.and_true Bool.and_false Bool.true_and Bool.false_and Bool.and_self Bool.bne_true Bool.bne_false bne_self_eq_false Bool.not_true Bool.not_false Bool.true_eq_false Bool.false_eq_true beq_self_eq_true and_true true_and and_self and_assoc forall_const imp_self implies_true Nat.le_refl decide_eq_true_eq decide_eq_false_iff_not Option.some.injEq Ad.int.injEq Ad.bool.injEq Ad.cons.injEq Ad.agg.injEq Ad.tup.injEq exists_eq_left' exists_eq' exists_eq_right exists_eq_right' exists_const exists_and_left exists_and_right ne_eq not_false_eq_true true_implies false_implies or_true true_or or_false false_or not_true_eq_false maxLen D0 F2 Me AcR Aag Yj ZK DZ Mx By BT Fc P3 Tq Zl Z6 Xm ZC WD WO WT Z2 Yn V9 VA Zr ZJ Vm WS Kl V1 TX V5 Nat.lt_irrefl
attribute [go_sem↓] Yd YY Yz ZW
end Go.Proofs.YtlieoghhkioflaaGreat
