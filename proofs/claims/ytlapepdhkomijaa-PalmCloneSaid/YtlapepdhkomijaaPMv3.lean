/- The program's net: most, in any place. No condition but bounds. -/
import Derived.Test.YtlapepdhkomijaaPSlP
import Derived.Test.YtlapepdhkomijaaPSt
import Derived.Test.YtlapepdhkomijaaPEdg2
import Derived.Test.YtlapepdhkomijaaPKn2
import Derived.Test.YtlapepdhkomijaaPMsP
import Derived.Test.YtlapepdhkomijaaPKr3
import Derived.Test.YtlapepdhkomijaaPTl2
set_option linter.unusedSimpArgs false
set_option linter.unusedVariables false
namespace Go.Proofs.Ytlapepdhkomijaa
open Go Go.RowKit
variable {G : Nat → Option (Nat × (Nat → Val))}
set_option maxHeartbeats 4000000 in
set_option maxRecDepth 100000 in
theorem most_runV3 {S : List (FuncId × Spec)} {I : List (FuncId × AFun)} {Q : Val → Bx → Prop} {f : SFrame} {stk : List SFrame} {tl : Bx} (hT : Tl 0 3 tl) (hi1 : lkp I 85 = some a85) (hi2 : lkp S 85 = none)
  (w : Wk) (hb : WkB w) (w1 : w.spathes.1 ≤ 9223372036854775807) (w2 : w.hours.1 ≤ 9223372036854775807) (w3 : w.lots.1 ≤ 9223372036854775807) (first : Nat) (hf : first ≤ w.spathes.1) (tk : Nat → Bool) (us : Nat → Int) (hU : ∀ q,q < w.lots.1 → 0 ≤ us q ∧ us q ≤ (w.lots.2 q).units) (M0 : Nat) (T : KSt) (hm : T.m ≤ 34 * w.spathes.1 + 10 * w.hours.1 + 2 * w.lots.1) (hKn : Knt (ntP w first tk us) (pdec w.spathes.1 w.hours.1) (P5 w first tk w.lots.1) T)
  (hK : ∀ (v : Int) (bx' : Bx) (M' : Nat) (sn' : Nat → Bool) (lf' : Nat → Int),M0 ≤ M' → IsMost (ntP w first tk us) v → 0 ≤ v → v ≤ w.spathes.1 → (∀ b,b.id < 3 → bget bx' b = bget tl b) → PNet (2 + w.spathes.1 + 2 * w.hours.1 + w.lots.1) T.m 6 9 5 10 13 (.int .i64 w.day) (.view 3 w.spathes.1 fun a b => (w.spathes.2 a).c b) (.view 1 w.hours.1 fun a b => .int .i64 (w.hours.2 a)) (.view 4 w.lots.1 fun a b => (w.lots.2 a).c b) (.int .i64 w.opn) T.tw lf' (fun u => T.ln u) (fun u => T.ix u) sn' bx' → (∀ b,b ≠ .n 6 → b ≠ .n 9 → b ≠ .n 13 → bget bx' b = bget ([(12,.cells (.cons (.ptr (.n 6) 0) .nil)),(11,.fam (fun z => decide (z = (w.spathes.1 : Int))) fun _ => .cells (.cons (.int .i64 w.spathes.1) .nil)),(9,.row 150 2 T.m (edgC T)),(10,.fam (fun _ => true) fun z => .row 3 1 (T.ln z) fun i _ => .int .i64 (T.ix z i)),(7,.cells (.cons (.ptr (.n 6) 0) .nil)),(6,.cells (netL w 9 5 .nilm)),(5,.mz .i64 fun z => .own (.f 10 z)),(4,.cells (leftL (first : Int) tk us)),(3,.cells (.cons (.int .i64 w.day) (.cons (.view 3 w.spathes.1 fun a b => (w.spathes.2 a).c b) (.cons (.view 1 w.hours.1 fun a b => .int .i64 (w.hours.2 a)) (.cons (.view 4 w.lots.1 fun a b => (w.lots.2 a).c b) (.cons (.int .i64 w.opn) .nil))))))] ++ tl) b) → (∀ u,u < (ntP w first tk us).n → (LCut (ntP w first tk us) (pdec w.spathes.1 w.hours.1) u ↔ sn' u = true)) → runO (mkN G S I []) Q M' f.K stk f.res (fput f.fr f.d (.int .i64 v)) bx' 14) :
  runO (mkN G S I []) Q (M0 + 17000) [.code a58.code] (f :: stk) a58.res (params 0 [.ptr (.n 6) 0]) ([(12,.cells (.cons (.ptr (.n 6) 0) .nil)),(11,.fam (fun z => decide (z = (w.spathes.1 : Int))) fun _ => .cells (.cons (.int .i64 w.spathes.1) .nil)),(9,.row 150 2 T.m (edgC T)),(10,.fam (fun _ => true) fun z => .row 3 1 (T.ln z) fun i _ => .int .i64 (T.ix z i)),(7,.cells (.cons (.ptr (.n 6) 0) .nil)),(6,.cells (netL w 9 5 .nilm)),(5,.mz .i64 fun z => .own (.f 10 z)),(4,.cells (leftL (first : Int) tk us)),(3,.cells (.cons (.int .i64 w.day) (.cons (.view 3 w.spathes.1 fun a b => (w.spathes.2 a).c b) (.cons (.view 1 w.hours.1 fun a b => .int .i64 (w.hours.2 a)) (.cons (.view 4 w.lots.1 fun a b => (w.lots.2 a).c b) (.cons (.int .i64 w.opn) .nil))))))] ++ tl) 13 := by
 simp only [a58,netL,go_sem]
 have hC := pcod (ntP w first tk us)
 have hTm : T.m < 1000 := by have := hb.h; have := hb.s; have := hb.l; omega
 have hA := hKn.adj hC (by omega)
 have hRes := hKn.res hC P5_cap
 obtain ⟨n,hn⟩ : ∃ n : Nat,n = 2 + w.spathes.1 + 2 * w.hours.1 + w.lots.1 := ⟨_,rfl⟩
 have hNn : Nt.n (ntP w first tk us) = n := by rw [hn]; rfl
 have hn50 : n ≤ 50 := by have := hb.h; have := hb.s; have := hb.l; omega
 have hun : ∀ j,0 ≤ ((ntP w first tk us)).un j ∧ ((ntP w first tk us)).un j ≤ 100 := fun j => by
  show 0 ≤ (if j < w.lots.1 then (w.lots.2 j).units - us j else 0) ∧ (if j < w.lots.1 then (w.lots.2 j).units - us j else 0) ≤ 100
  split
  ·rename_i hj
   have := hb.u j hj; have := hU j hj; omega
  ·omega
 have hc0 : ∀ x y,0 ≤ ((ntP w first tk us)).cap x y ∧ ((ntP w first tk us)).cap x y ≤ 100 := fun x y => by
  rcases x with _ | _ | a | a | a | a <;> rcases y with _ | _ | b | b | b | b <;> simp only [Nt.cap] <;> first | omega | (split <;> omega) | (split; exact hun _; omega)
 have hgf : ∀ h,((ntP w first tk us)).fr h = true → ((ntP w first tk us)).gf h = true := fun h e => e
 rw [hNn] at hA hRes
 refine loopI (ι := Int × (Nat → Nat → Int) × (Nat → Int)) (fun s => 0 ≤ s.1 ∧ FlowOk (ntP w first tk us) (pdec w.spathes.1 w.hours.1) s.2.1 s.1 ∧ Res n T.m T.tw s.2.2 s.2.1) (fun s => 9 - s.1.toNat) [0] (fun s => [(3,.int .i64 s.1)])
  (fun s => [(6,.cells (netL w 9 5 .und)),(9,.row 150 2 T.m (edgC ⟨T.m,T.tw,s.2.2,T.ln,T.ix⟩))]) (0,(fun u v => ((ntP w first tk us)).cap (pdec w.spathes.1 w.hours.1 u) (pdec w.spathes.1 w.hours.1 v)),T.lf) ⟨Int.le_refl _,.start (fun _ _ _ _ => rfl) fun x y => (hc0 x y).1,hRes⟩ ?_ fun s hs => ?_
 ·simp only [netL,vsub_left,isLB_left,false_and,Nat.not_lt_zero,hT.nf,hT.ck,hT.il,hT.kp,hT.xb,hT.xc,↓imp_tt,↓reduceIte,reduceCtorEq,Nat.reduceEqDiff,Nat.reduceLeDiff,Nat.reduceLT,go_sem]
  exact ⟨chkFam_cell (by simp only [↓reduceIte,go_sem]),chkFam_self fun z _ => by simp only [false_and,↓reduceIte,Nat.reduceEqDiff,go_sem],fun z hz => ⟨_,if_pos hz⟩⟩
 obtain ⟨v,R,lf⟩ := s
 obtain ⟨hv0,hF,hRes⟩ := hs
 simp only at hv0 hF hRes
 have hvS : v ≤ w.spathes.1 := by
  obtain ⟨g,_,e⟩ := hF.plan hC hgf (fun j => (hun j).1)
  have := Pla.size_le g ((ntP w first tk us)).S
  rw [e] at this
  exact this
 simp only [netL,hi1,hi2,↓reduceIte,reduceCtorEq,Nat.reduceEqDiff,Nat.reduceAdd,go_sem]
 refine ppush_run hi2 hi1 (n := n) (m := T.m) (X := 6) (E := 9) (M := 5) (F := 10) (Z := 13) hTm (by omega) (by omega) hA n 0 R lf (fun _ => false) _ _ _ _ _ (by omega) (uns_le _ _) (by omega) rfl rfl (fun a ha b hb' => ?_) hRes ⟨by simp only [↓reduceIte,Nat.reduceEqDiff,go_sem]; rfl,⟨_,by simp only [↓reduceIte,Nat.reduceEqDiff,go_sem]; rfl,fun k hk => ⟨rfl,rfl⟩⟩,⟨_,by simp only [↓reduceIte,Nat.reduceEqDiff,go_sem]; rfl,fun u hu => rfl⟩,fun u hu => ⟨_,by simp only [false_and,↓reduceIte,Nat.reduceEqDiff,go_sem]; rfl,fun i hi => rfl⟩,⟨fun _ => false,fun _ => .und,by simp only [↓reduceIte,go_sem],fun u hu => rfl,fun k hk => (by cases hk)⟩,by simp only [hT.ni,↓imp_tt,Nat.reduceLeDiff,go_sem]⟩ fun b r' lf' sn' bx' B' hM' hpost hres' hnet hold hkeep => ?_
 ·have e1 := hF.nn a (by rw [hNn]; exact ha) b (by rw [hNn]; exact hb')
  have e2 := hF.sk a (by rw [hNn]; exact ha) b (by rw [hNn]; exact hb')
  have e3 := (hc0 (pdec w.spathes.1 w.hours.1 a) (pdec w.spathes.1 w.hours.1 b)).2
  have e4 := (hc0 (pdec w.spathes.1 w.hours.1 b) (pdec w.spathes.1 w.hours.1 a)).2
  omega
 obtain ⟨B',rfl⟩ : ∃ m,B' = m + 100 := ⟨B' - 100,by omega⟩
 cases b with
 | false =>
  obtain ⟨c1,c2,c3,c4⟩ := hpost.ff rfl
  have hMost : IsMost (ntP w first tk us) v := hF.most hC hgf (fun j => (hun j).1) (s := sn') c2 c3 fun u hu hs x hx h0 => c4 u (by rw [← hNn]; exact hu) hs rfl x (by rw [← hNn]; exact hx) h0
  simp only [↓imp_tt,↓imp_tf,↓reduceIte,Nat.reduceEqDiff,go_sem]
  exact hK v bx' _ sn' lf' (by omega) hMost hv0 hvS (fun b hb => (hold b (by intro e; subst e; simp [Bn.id] at hb) (by intro e; subst e; simp [Bn.id] at hb)).trans (by
   cases b with
   | n k => simp only [Bn.id] at hb; simp only [bget]; repeat rw [if_neg (by omega)]
   | f k z => simp only [Bn.id] at hb; simp only [bget]; repeat rw [if_neg (fun q => by have := q.1; omega)])) (by rw [← hn]; exact hnet) (fun b e1 e2 e3 => (hold b e3 e2).trans (by
   cases b with
   | n k => simp only [bget,List.cons_append,List.nil_append,if_neg (show ¬ 6 = k from fun e => e1 (by rw [e])),if_neg (show ¬ 9 = k from fun e => e2 (by rw [e])),if_neg (show ¬ 13 = k from fun e => e3 (by rw [e]))]
   | f k z => simp only [bget,List.cons_append,List.nil_append])) (fun u hu => lcut_sn hC hgf (fun j => (hun j).1) hF (fun _ _ => rfl) (by rw [hNn]; exact hpost) hu)
 | true =>
  have w6 : IntKind.i64.wrap (v + 1) = v + 1 := wr64 (by omega) (by have := hb.s; omega)
  simp only [w6,↓imp_ft,↓imp_ff,↓reduceIte,Nat.reduceEqDiff,go_sem]
  obtain ⟨ce,he1,he2⟩ := hnet.e
  have hx1 := hnet.x
  have h8 := fun z : Int => hold (.f 11 z) (by simp) (by simp)
  have h7 := fun z : Int => hold (.f 10 z) (by simp) (by simp)
  refine inv_chkG (v + 1,r',lf') ⟨by simp only; omega,hF.push ?_,hres'⟩ (by have := hb.s; simp only; omega) ?_
  ·rw [hNn]; exact (hpost.tt rfl).1
  refine chkG_tl (B := 3) (pre := [(12,.cells (.cons (.ptr (.n 6) 0) .nil)),(11,.fam (fun z => decide (z = (w.spathes.1 : Int))) fun _ => .cells (.cons (.int .i64 w.spathes.1) .nil)),(9,.row 150 2 T.m (edgC ⟨T.m,T.tw,lf',T.ln,T.ix⟩)),(10,.fam (fun _ => true) fun z => .row 3 1 (T.ln z) fun i _ => .int .i64 (T.ix z i)),(7,.cells (.cons (.ptr (.n 6) 0) .nil)),(6,.cells (netL w 9 5 .und)),(5,.mz .i64 fun z => .own (.f 10 z)),(4,.cells (leftL (first : Int) tk us)),(3,.cells (.cons (.int .i64 w.day) (.cons (.view 3 w.spathes.1 fun a b => (w.spathes.2 a).c b) (.cons (.view 1 w.hours.1 fun a b => .int .i64 (w.hours.2 a)) (.cons (.view 4 w.lots.1 fun a b => (w.lots.2 a).c b) (.cons (.int .i64 w.opn) .nil))))))]) (pre0 := [(12,.cells (.cons (.ptr (.n 6) 0) .nil)),(11,.fam (fun z => decide (z = (w.spathes.1 : Int))) fun _ => .cells (.cons (.int .i64 w.spathes.1) .nil)),(9,.row 150 2 T.m (edgC T)),(10,.fam (fun _ => true) fun z => .row 3 1 (T.ln z) fun i _ => .int .i64 (T.ix z i)),(7,.cells (.cons (.ptr (.n 6) 0) .nil)),(6,.cells (netL w 9 5 .nilm)),(5,.mz .i64 fun z => .own (.f 10 z)),(4,.cells (leftL (first : Int) tk us)),(3,.cells (.cons (.int .i64 w.day) (.cons (.view 3 w.spathes.1 fun a b => (w.spathes.2 a).c b) (.cons (.view 1 w.hours.1 fun a b => .int .i64 (w.hours.2 a)) (.cons (.view 4 w.lots.1 fun a b => (w.lots.2 a).c b) (.cons (.int .i64 w.opn) .nil))))))]) hT (by simp) (by simp) (fun b hb => ?_) (Nat.le_refl _) ?_ ?_ ?_ ?_
  ·rw [hold b (by intro e; subst e; simp [Bn.id] at hb) (by intro e; subst e; simp [Bn.id] at hb)]
   exact (by
   cases b with
   | n k => simp only [Bn.id] at hb; simp only [bget]; repeat rw [if_neg (by omega)]
   | f k z => simp only [Bn.id] at hb; simp only [bget]; repeat rw [if_neg (fun q => by have := q.1; omega)])
  ·simp only [List.cons_append,List.nil_append,↓reduceIte,reduceCtorEq,Nat.reduceEqDiff,go_sem]
  ·simp only [AllB,hx1,he1,h7,h8,hold (.n 12) (by simp) (by simp),hold (.n 7) (by simp) (by simp),hold (.n 5) (by simp) (by simp),hold (.n 4) (by simp) (by simp),hold (.n 3) (by simp) (by simp),false_and,vsub_left,isLB_left,forall_eq,implies_true,netL,List.cons_append,List.nil_append,Nat.not_lt_zero,hT.nf,↓imp_tt,↓reduceIte,reduceCtorEq,Nat.reduceEqDiff,Nat.reduceLeDiff,go_sem]
   exact .inr fun i hi j hj => edg_at he2 hi hj
  ·simp only [AllB,false_and,forall_eq,implies_true,netL,List.cons_append,List.nil_append,Nat.not_lt_zero,hT.nf,↓imp_tt,↓reduceIte,Nat.reduceEqDiff,Nat.reduceLeDiff,go_sem]
  ·simp only [AllB,hx1,he1,h7,h8,hold (.n 12) (by simp) (by simp),hold (.n 7) (by simp) (by simp),hold (.n 5) (by simp) (by simp),hold (.n 4) (by simp) (by simp),hold (.n 3) (by simp) (by simp),false_and,forall_eq,forall_eq',implies_true,netL,List.cons_append,List.nil_append,Nat.not_lt_zero,hT.nf,Kin,↓imp_tt,↓reduceIte,Nat.reduceEqDiff,Nat.reduceLeDiff,go_sem]
end Go.Proofs.Ytlapepdhkomijaa
namespace Go.Proofs.Ytlapepdhkomijaa
open Go Go.RowKit
variable {G : Nat → Option (Nat × (Nat → Val))}
theorem ntP_W (w : Wk) : ntP w 0 (fun _ => false) (fun _ => 0) = ntW w := by
 simp only [ntP,ntF,Bool.not_false,Int.sub_zero]
set_option maxHeartbeats 4000000 in
set_option maxRecDepth 100000 in
theorem pProofP : PureOk Try.prog G 31 sProof7 := by
 refine fnN2 (N := []) (S := [(53,sOpen),(63,sSpN),(65,sInN),(66,sOutN),(68,sLotN),(59,sGoodN)]) (I := [(55,a55),(83,a83),(84,a84),(85,a85),(57,a57),(58,a58),(61,a61),(62,a62),(64,a64),(67,a67)]) mixed (.cons pOpen (.cons pSpN (.cons pInN (.cons pOutN (.cons pLotN (.cons pGoodN .nil)))))) (.cons Try.func55 c55 (.cons Try.func83 c83 (.cons Try.func84 c84 (.cons Try.func85 c85 (.cons Try.func57 c57 (.cons Try.func58 c58 (.cons Try.func61 c61 (.cons Try.func62 c62 (.cons Try.func64 c64 (.cons Try.func67 c67 .nil)))))))))) Try.func31 c31 fun l w _ hw => ?_
 simp only [Nat.reduceSub,Nat.reducePow,go_sem] at hw
 by_cases he : ¬ workE l w = 0
 ·have hz : (workE l w = 0) = False := eq_false he
  rw [if_neg he]
  simp only [RunToN,a31,sOpen,dayL,hz,hw,↓reduceIte,reduceCtorEq,Nat.reduceEqDiff,Nat.reduceAdd,Nat.reduceSub,Nat.reduceLT,Nat.reducePow,go_sem]
  exact .inl ⟨rfl,rfl⟩
 have he := Classical.not_not.1 he
 have hb := (workE_0 he).2.2.b
 have hS := hb.s
 have hH := hb.h
 have hL := hb.l
 obtain ⟨w0,w1,w2,w3⟩ := hw
 rw [if_pos he]
 simp only [RunToN]
 generalize hSd : [(53,sOpen),(63,sSpN),(65,sInN),(66,sOutN),(68,sLotN),(59,sGoodN)] = S
 generalize hId : [(55,a55),(83,a83),(84,a84),(85,a85),(57,a57),(58,a58),(61,a61),(62,a62),(64,a64),(67,a67)] = I
 have hs0 : lkp S 53 = some sOpen := by rw [← hSd]; rfl
 have hj0 : lkp I 53 = none := by rw [← hId]; rfl
 have hs1 : lkp S 63 = some sSpN := by rw [← hSd]; rfl
 have hj1 : lkp I 63 = none := by rw [← hId]; rfl
 have hs2 : lkp S 65 = some sInN := by rw [← hSd]; rfl
 have hj2 : lkp I 65 = none := by rw [← hId]; rfl
 have hs3 : lkp S 66 = some sOutN := by rw [← hSd]; rfl
 have hj3 : lkp I 66 = none := by rw [← hId]; rfl
 have hs4 : lkp S 68 = some sLotN := by rw [← hSd]; rfl
 have hj4 : lkp I 68 = none := by rw [← hId]; rfl
 have hs5 : lkp S 59 = some sGoodN := by rw [← hSd]; rfl
 have hj5 : lkp I 59 = none := by rw [← hId]; rfl
 have hi0 : lkp I 55 = some a55 := by rw [← hId]; rfl
 have hn0 : lkp S 55 = none := by rw [← hSd]; rfl
 have hi1 : lkp I 83 = some a83 := by rw [← hId]; rfl
 have hn1 : lkp S 83 = none := by rw [← hSd]; rfl
 have hi2 : lkp I 84 = some a84 := by rw [← hId]; rfl
 have hn2 : lkp S 84 = none := by rw [← hSd]; rfl
 have hi3 : lkp I 85 = some a85 := by rw [← hId]; rfl
 have hn3 : lkp S 85 = none := by rw [← hSd]; rfl
 have hi4 : lkp I 57 = some a57 := by rw [← hId]; rfl
 have hn4 : lkp S 57 = none := by rw [← hSd]; rfl
 have hi5 : lkp I 58 = some a58 := by rw [← hId]; rfl
 have hn5 : lkp S 58 = none := by rw [← hSd]; rfl
 have hi6 : lkp I 61 = some a61 := by rw [← hId]; rfl
 have hn6 : lkp S 61 = none := by rw [← hSd]; rfl
 have hi7 : lkp I 62 = some a62 := by rw [← hId]; rfl
 have hn7 : lkp S 62 = none := by rw [← hSd]; rfl
 have hi8 : lkp I 64 = some a64 := by rw [← hId]; rfl
 have hn8 : lkp S 64 = none := by rw [← hSd]; rfl
 have hi9 : lkp I 67 = some a67 := by rw [← hId]; rfl
 have hn9 : lkp S 67 = none := by rw [← hSd]; rfl
 simp only [a31,hs0,hj0,hi4,hn4,sOpen,dayL,he,w0,w1,w2,w3,↓imp_ft,↓imp_ff,↓reduceIte,reduceCtorEq,Nat.reduceEqDiff,Nat.reduceAdd,Nat.reduceSub,Nat.reduceLT,Nat.reducePow,go_sem]
 refine knot_run3 (first := 0) (tk := fun _ => false) (us := fun _ => 0) (Tl.of ?_ ?_ ?_) (Sk.of ?_) hs1 hs2 hs3 hs4 hs5 hi0 hi1 hi2 hn0 hn1 hn2 hj5 w hb w1 w2 w3 (Nat.zero_le _) (fun q hq => ⟨Int.le_refl _,(hb.u q hq).1⟩) _ fun T M' hM hTm hKn => ?_
 ·simp only [idsLt]; decide
 ·simp only [idsGe]; decide
 ·refine ⟨⟨.cells rfl,fun N D _ => ⟨rfl,vsub_nm _ ?_⟩⟩,⟨.cells rfl,fun N D _ => ⟨rfl,vsub_nm _ ?_⟩⟩,⟨.cells rfl,fun N D _ => ⟨rfl,vsub_nm _ ?_⟩⟩,trivial⟩ <;> simp only [nmD,and_self]
 ·rfl
 obtain ⟨M',rfl⟩ : ∃ m,M' = m + 60000 := ⟨M' - 60000,by omega⟩
 simp only [hi5,hn5,↓reduceIte,Nat.reduceEqDiff,Nat.reduceAdd,go_sem]
 refine most_runV3 (tl := [(2,.cells (.cons (.int .i64 w.day) (.cons (.view 3 w.spathes.1 fun a b => (w.spathes.2 a).c b) (.cons (.view 1 w.hours.1 fun a b => .int .i64 (w.hours.2 a)) (.cons (.view 4 w.lots.1 fun a b => (w.lots.2 a).c b) (.cons (.int .i64 w.opn) .nil)))))),(1,.cells (.cons .nils (.cons .nils (.cons .nils .nil)))),(0,.cells (.cons (.int .i64 w.day) (.cons (.view 3 w.spathes.1 fun a b => (w.spathes.2 a).c b) (.cons (.view 1 w.hours.1 fun a b => .int .i64 (w.hours.2 a)) (.cons (.view 4 w.lots.1 fun a b => (w.lots.2 a).c b) (.cons (.int .i64 w.opn) .nil))))))]) (Tl.of ?_ ?_ ?_) hi3 hn3 w hb w1 w2 w3 0 (Nat.zero_le _) (fun _ => false) (fun _ => 0) (fun q hq => ⟨Int.le_refl _,(hb.u q hq).1⟩) _ T hTm hKn fun v bx' M'' sn' lf' hM'' hMost hv0 hvS hlow hnet hold hlc => ?_
 ·simp only [idsLt]; decide
 ·simp only [idsGe]; decide
 ·refine ⟨⟨.cells rfl,fun N D _ => ⟨rfl,vsub_nm _ ?_⟩⟩,⟨.cells rfl,fun N D _ => ⟨rfl,vsub_nm _ ?_⟩⟩,⟨.cells rfl,fun N D _ => ⟨rfl,vsub_nm _ ?_⟩⟩,trivial⟩ <;> simp only [nmD,and_self]
 obtain ⟨M'',rfl⟩ : ∃ m,M'' = m + 40000 := ⟨M'' - 40000,by omega⟩
 have e0 := hlow (.n 0) (by decide)
 have e1 := hlow (.n 1) (by decide)
 have e2 := hlow (.n 2) (by decide)
 have e3 := hold (.n 3) (by simp) (by simp) (by simp)
 have e4 := hold (.n 4) (by simp) (by simp) (by simp)
 have e5 := hold (.n 5) (by simp) (by simp) (by simp)
 have e7 := hold (.n 7) (by simp) (by simp) (by simp)
 have e12 := hold (.n 12) (by simp) (by simp) (by simp)
 have e10 := fun z : Int => hold (.f 10 z) (by simp) (by simp) (by simp)
 have e11 := fun z : Int => hold (.f 11 z) (by simp) (by simp) (by simp)
 have e6 := hnet.x
 obtain ⟨ce,e9,_⟩ := hnet.e
 obtain ⟨zh,zf,e13,hzs,hzf⟩ := hnet.z
 simp only [List.cons_append,List.nil_append,↓reduceIte,reduceCtorEq,Nat.reduceEqDiff,go_sem] at e0 e1 e2 e3 e4 e5 e7 e10 e11 e12
 have hdom : ∀ b,(∀ k,b = .n k → k ≠ 0 ∧ k ≠ 1 ∧ k ≠ 2 ∧ k ≠ 3 ∧ k ≠ 4 ∧ k ≠ 5 ∧ k ≠ 6 ∧ k ≠ 7 ∧ k ≠ 9 ∧ k ≠ 12 ∧ k ≠ 13) → (∀ k z,b = .f k z → k ≠ 10 ∧ (k = 11 → z ≠ (w.spathes.1 : Int))) → bget bx' b = none := fun b h1 h2 => by
  rw [hold b (fun e => by have := h1 _ e; omega) (fun e => by have := h1 _ e; omega) (fun e => by have := h1 _ e; omega)]
  cases b with
  | n k =>
   have := h1 k rfl
   simp only [bget,List.cons_append,List.nil_append]
   repeat rw [if_neg (by omega)]
  | f k z =>
   obtain ⟨g1,g2⟩ := h2 k z rfl
   simp only [bget,List.cons_append,List.nil_append]
   rw [if_neg (fun q => g2 q.1.symm (of_decide_eq_true q.2)),if_neg (fun q => g1 q.1.symm)]
 have e14 : bget bx' (.n 14) = none := hdom _ (fun k e => by cases e; omega) (fun k z e => by cases e)
 -- what is seen
 have hlc2 : ∀ x : Nd,(ntW w).ok x → zh ((penc w.spathes.1 w.hours.1 x : Nat) : Int) = lcB w x := fun x hx => by
  have hC := pcod (ntW w)
  have hn := (hC.ed x hx).1
  refine (hzs (penc w.spathes.1 w.hours.1 x) hn).trans ?_
  have := hlc (penc w.spathes.1 w.hours.1 x) hn
  rw [ntP_W] at this
  rw [Bool.eq_iff_iff]
  exact this.symm.trans decP_true.symm
 obtain ⟨dd,hdd⟩ : ∃ dd : Bx,dd = [(2,.cells (.cons (.int .i64 w.day) (.cons (.view 3 w.spathes.1 fun a b => (w.spathes.2 a).c b) (.cons (.view 1 w.hours.1 fun a b => .int .i64 (w.hours.2 a)) (.cons (.view 4 w.lots.1 fun a b => (w.lots.2 a).c b) (.cons (.int .i64 w.opn) .nil)))))),(3,.cells (.cons (.int .i64 w.day) (.cons (.view 3 w.spathes.1 fun a b => (w.spathes.2 a).c b) (.cons (.view 1 w.hours.1 fun a b => .int .i64 (w.hours.2 a)) (.cons (.view 4 w.lots.1 fun a b => (w.lots.2 a).c b) (.cons (.int .i64 w.opn) .nil)))))),(4,.cells (leftL ((0 : Nat) : Int) (fun _ => false) fun _ => 0)),(5,.mz .i64 fun z => .own (.f 10 z)),(6,.cells (netL w 9 5 (.mapb (.n 13)))),(7,.cells (.cons (.ptr (.n 6) 0) .nil)),(9,.row 150 2 T.m ce),(10,.fam (fun _ => true) fun z => .row 3 1 (T.ln z) fun i _ => .int .i64 (T.ix z i)),(11,.fam (fun z => decide (z = (w.spathes.1 : Int))) fun _ => .cells (.cons (.int .i64 w.spathes.1) .nil)),(12,.cells (.cons (.ptr (.n 6) 0) .nil)),(13,.mp .i64 zh fun _ => .bool true)] := ⟨_,rfl⟩
 simp only [e0,hi6,hn6,w1,w2,w3,a61,↓reduceIte,reduceCtorEq,Nat.reduceEqDiff,Nat.reduceAdd,Nat.reduceSub,Nat.reduceLeDiff,Nat.reducePow,go_sem]
 have hdomH : ∀ b,bget ([(14,.row 3 1 (cntN (fun i => !lcB w (.sp i)) 0) fun a _ => .int .i64 (selN (fun i => !lcB w (.sp i)) 0 a)),(1,.cells (.cons .nils (.cons .nils (.cons .nils .nil)))),(0,.cells (.cons (.int .i64 w.day) (.cons (.view 3 w.spathes.1 fun a b => (w.spathes.2 a).c b) (.cons (.view 1 w.hours.1 fun a b => .int .i64 (w.hours.2 a)) (.cons (.view 4 w.lots.1 fun a b => (w.lots.2 a).c b) (.cons (.int .i64 w.opn) .nil))))))] ++ dd) b = none → bget bx' b = none := fun b hb => by
  rw [hdd] at hb
  cases b with
  | n k =>
   have n0 : k ≠ 0 := fun e => by subst e; simp [bget] at hb
   have n1 : k ≠ 1 := fun e => by subst e; simp [bget] at hb
   have n2 : k ≠ 2 := fun e => by subst e; simp [bget] at hb
   have n3 : k ≠ 3 := fun e => by subst e; simp [bget] at hb
   have n4 : k ≠ 4 := fun e => by subst e; simp [bget] at hb
   have n5 : k ≠ 5 := fun e => by subst e; simp [bget] at hb
   have n6 : k ≠ 6 := fun e => by subst e; simp [bget] at hb
   have n7 : k ≠ 7 := fun e => by subst e; simp [bget] at hb
   have n9 : k ≠ 9 := fun e => by subst e; simp [bget] at hb
   have n12 : k ≠ 12 := fun e => by subst e; simp [bget] at hb
   have n13 : k ≠ 13 := fun e => by subst e; simp [bget] at hb
   exact hdom _ (fun k' e => by cases e; exact ⟨n0,n1,n2,n3,n4,n5,n6,n7,n9,n12,n13⟩) (fun _ _ e => by cases e)
  | f k z =>
   refine hdom _ (fun _ e => by cases e) fun k' z' e => ?_
   cases e
   exact ⟨fun e => by subst e; simp [bget] at hb,fun e e2 => by subst e; subst e2; simp [bget] at hb⟩
 unfold cvV
 generalize hp1 : (fun i => !lcB w (.sp i)) = p1 at hdomH
 generalize hp2 : (fun h => lcB w (.hi h) && !lcB w (.ho h)) = p2
 generalize hp3 : (fun j => lcB w (.lt j)) = p3
 refine loop_intro (ι := Nat) (fun i => i ≤ w.spathes.1) (fun i => w.spathes.1 - i) (fun i => [(8,.int .i64 i),(7,.int .i64 w.spathes.1),(5,.own (.n 14)),(1,.func (.func 62) (.cons (.ptr (.n 12) 0) .nil))])
  (fun i => [(14,.row 3 1 (cntN p1 i) fun a _ => .int .i64 (selN p1 i a)),(1,.cells (.cons .nils (.cons .nils (.cons .nils .nil)))),(0,.cells (.cons (.int .i64 w.day) (.cons (.view 3 w.spathes.1 fun a b => (w.spathes.2 a).c b) (.cons (.view 1 w.hours.1 fun a b => .int .i64 (w.hours.2 a)) (.cons (.view 4 w.lots.1 fun a b => (w.lots.2 a).c b) (.cons (.int .i64 w.opn) .nil))))))] ++ dd) 1 0 (Nat.zero_le _) (.inr (chkG_in (by omega) ?_ ?_ ?_ fun b hb => ?_)) fun i hi => ?_
 ·simp only [hdd,e14,newIn,List.cons_append,List.nil_append,↓reduceIte,reduceCtorEq,Nat.reduceEqDiff,go_sem]
 ·simp only [AllB,hdd,e0,e1,e2,e3,e4,e5,e6,e7,e9,e10,e11,e12,e13,e14,newIn,cntN,List.cons_append,List.nil_append,↓imp_tt,↓reduceIte,reduceCtorEq,Nat.reduceEqDiff,Nat.reduceLT,go_sem]
  exact ⟨.inl rfl,fun z => .inl (by simp),fun z hz => .inl (if_pos hz),.inr hzf⟩
 ·simp only [AllB,hdd,e0,e1,e2,e3,e4,e5,e6,e7,e9,e10,e11,e12,e13,e14,List.cons_append,List.nil_append,↓imp_tt,reduceCtorEq,Nat.reduceAdd,go_sem]
  exact ⟨.inr (by decide),fun z => .inr (by show 10 < 15; decide),fun z _ => .inr (by show 11 < 15; decide)⟩
 ·exact hdomH b hb
 have hTd : Tl 2 14 dd := by
  have hde : EntsOk 14 dd dd := by
   rw [hdd]
   have g2 : bget [(2,.cells (.cons (.int .i64 w.day) (.cons (.view 3 w.spathes.1 fun a b => (w.spathes.2 a).c b) (.cons (.view 1 w.hours.1 fun a b => .int .i64 (w.hours.2 a)) (.cons (.view 4 w.lots.1 fun a b => (w.lots.2 a).c b) (.cons (.int .i64 w.opn) .nil)))))),(3,.cells (.cons (.int .i64 w.day) (.cons (.view 3 w.spathes.1 fun a b => (w.spathes.2 a).c b) (.cons (.view 1 w.hours.1 fun a b => .int .i64 (w.hours.2 a)) (.cons (.view 4 w.lots.1 fun a b => (w.lots.2 a).c b) (.cons (.int .i64 w.opn) .nil)))))),(4,.cells (leftL ((0 : Nat) : Int) (fun _ => false) fun _ => 0)),(5,.mz .i64 fun z => .own (.f 10 z)),(6,.cells (netL w 9 5 (.mapb (.n 13)))),(7,.cells (.cons (.ptr (.n 6) 0) .nil)),(9,.row 150 2 T.m ce),(10,.fam (fun _ => true) fun z => .row 3 1 (T.ln z) fun i _ => .int .i64 (T.ix z i)),(11,.fam (fun z => decide (z = (w.spathes.1 : Int))) fun _ => .cells (.cons (.int .i64 w.spathes.1) .nil)),(12,.cells (.cons (.ptr (.n 6) 0) .nil)),(13,.mp .i64 zh fun _ => .bool true)] (.n 2) = _ := rfl
   have g10 : ∀ z : Int,bget [(2,.cells (.cons (.int .i64 w.day) (.cons (.view 3 w.spathes.1 fun a b => (w.spathes.2 a).c b) (.cons (.view 1 w.hours.1 fun a b => .int .i64 (w.hours.2 a)) (.cons (.view 4 w.lots.1 fun a b => (w.lots.2 a).c b) (.cons (.int .i64 w.opn) .nil)))))),(3,.cells (.cons (.int .i64 w.day) (.cons (.view 3 w.spathes.1 fun a b => (w.spathes.2 a).c b) (.cons (.view 1 w.hours.1 fun a b => .int .i64 (w.hours.2 a)) (.cons (.view 4 w.lots.1 fun a b => (w.lots.2 a).c b) (.cons (.int .i64 w.opn) .nil)))))),(4,.cells (leftL ((0 : Nat) : Int) (fun _ => false) fun _ => 0)),(5,.mz .i64 fun z => .own (.f 10 z)),(6,.cells (netL w 9 5 (.mapb (.n 13)))),(7,.cells (.cons (.ptr (.n 6) 0) .nil)),(9,.row 150 2 T.m ce),(10,.fam (fun _ => true) fun z => .row 3 1 (T.ln z) fun i _ => .int .i64 (T.ix z i)),(11,.fam (fun z => decide (z = (w.spathes.1 : Int))) fun _ => .cells (.cons (.int .i64 w.spathes.1) .nil)),(12,.cells (.cons (.ptr (.n 6) 0) .nil)),(13,.mp .i64 zh fun _ => .bool true)] (.f 10 z) = some (.row 3 1 (T.ln z) fun i _ => .int .i64 (T.ix z i)) := fun z => by simp [bget]
   have g11 : ∀ z : Int,decide (z = (w.spathes.1 : Int)) = true → bget [(2,.cells (.cons (.int .i64 w.day) (.cons (.view 3 w.spathes.1 fun a b => (w.spathes.2 a).c b) (.cons (.view 1 w.hours.1 fun a b => .int .i64 (w.hours.2 a)) (.cons (.view 4 w.lots.1 fun a b => (w.lots.2 a).c b) (.cons (.int .i64 w.opn) .nil)))))),(3,.cells (.cons (.int .i64 w.day) (.cons (.view 3 w.spathes.1 fun a b => (w.spathes.2 a).c b) (.cons (.view 1 w.hours.1 fun a b => .int .i64 (w.hours.2 a)) (.cons (.view 4 w.lots.1 fun a b => (w.lots.2 a).c b) (.cons (.int .i64 w.opn) .nil)))))),(4,.cells (leftL ((0 : Nat) : Int) (fun _ => false) fun _ => 0)),(5,.mz .i64 fun z => .own (.f 10 z)),(6,.cells (netL w 9 5 (.mapb (.n 13)))),(7,.cells (.cons (.ptr (.n 6) 0) .nil)),(9,.row 150 2 T.m ce),(10,.fam (fun _ => true) fun z => .row 3 1 (T.ln z) fun i _ => .int .i64 (T.ix z i)),(11,.fam (fun z => decide (z = (w.spathes.1 : Int))) fun _ => .cells (.cons (.int .i64 w.spathes.1) .nil)),(12,.cells (.cons (.ptr (.n 6) 0) .nil)),(13,.mp .i64 zh fun _ => .bool true)] (.f 11 z) = some (.cells (.cons (.int .i64 w.spathes.1) .nil)) := fun z hz => by simp only [bget]; simp [of_decide_eq_true hz]
   refine ⟨⟨.cells rfl,fun N D hD => ⟨rfl,vsub_nm _ (by simp only [nmD,and_self])⟩⟩,⟨.cells rfl,fun N D hD => ⟨rfl,vsub_nm _ (by simp only [nmD,and_self])⟩⟩,⟨.cells rfl,fun N D hD => ⟨rfl,vsub_nm _ (by simp only [leftL,nmD,and_self])⟩⟩,⟨.mz fun z => rfl,fun N D hD => ⟨rfl,fun k => .inl ⟨rfl,hD _ _ (g10 k)⟩⟩⟩,
    ⟨.cells rfl,fun N D hD => ⟨rfl,vsub_nm _ (by simp only [netL,nmD,true_and,and_true]; exact ⟨hD (.n 9) _ rfl,hD (.n 5) _ rfl,hD (.n 13) _ rfl⟩)⟩⟩,⟨.cells rfl,fun N D hD => ⟨rfl,vsub_nm _ ⟨hD (.n 6) _ rfl,trivial⟩⟩⟩,⟨BxUp.row,fun N D hD => ⟨rfl,rfl,rfl,fun i _ j _ => by rw [vsubP_self]; trivial⟩⟩,
    ⟨fun z => BxUp.row,fun N D hD z hz => ?_⟩,⟨fun z => .cells rfl,fun N D hD z hz => ?_⟩,⟨.cells rfl,fun N D hD => ⟨rfl,vsub_nm _ ⟨hD (.n 6) _ rfl,trivial⟩⟩⟩,⟨.mp fun z => rfl,fun N D hD => ⟨rfl,fun k => ⟨rfl,fun _ => rfl⟩⟩⟩,trivial⟩
   ·rw [g10 z]; exact ⟨rfl,rfl,rfl,fun i _ j _ => by rw [vsubP_self]; trivial⟩
   ·rw [g11 z hz]; exact ⟨rfl,vsub_nm _ (by simp only [nmD,and_self])⟩
  exact Tl.of (by rw [hdd]; simp only [idsLt]; decide) (by rw [hdd]; simp only [idsGe]; decide) hde
 have d6 : bget dd (.n 6) = some (.cells (netL w 9 5 (.mapb (.n 13)))) := by rw [hdd]; rfl
 have d5 : bget dd (.n 5) = some (.mz .i64 fun z => .own (.f 10 z)) := by rw [hdd]; rfl
 have d9 : bget dd (.n 9) = some (.row 150 2 T.m ce) := by rw [hdd]; rfl
 have d12 : bget dd (.n 12) = some (.cells (.cons (.ptr (.n 6) 0) .nil)) := by rw [hdd]; rfl
 have d13 : bget dd (.n 13) = some (.mp .i64 zh fun _ => .bool true) := by rw [hdd]; rfl
 by_cases hil : i < w.spathes.1
 ·have fi : ((i : Int) < (w.spathes.1 : Int)) = True := eq_true (by omega)
  have hcn1 := cntN_le p1 i
  have z1 : zh (2 + (i : Int)) = lcB w (.sp i) := (congrArg zh (by simp only [penc]; omega)).trans (hlc2 (.sp i) hil)
  cases hv : lcB w (.sp i) <;> rw [hv] at z1
  ·have e2 : p1 i = true := by rw [← hp1]; simp [hv]
   simp only [fi,z1,d5,d6,d9,d12,d13,hTd.sn,hs1,hi7,hn7,sSpN,TNp,Np.L,Np.Is,netL,a62,List.cons_append,List.nil_append,↓imp_tt,↓imp_tf,↓reduceIte,reduceCtorEq,Nat.reduceEqDiff,Nat.reduceAdd,Nat.reduceSub,Nat.reduceLeDiff,Nat.reduceLT,Nat.reducePow,go_sem]
   repeat with_reducible refine And.intro (by omega) ?_
   refine inv_intro (i + 1) hil (by omega) ?_
   have hcs : cntN p1 (i + 1) = cntN p1 i + 1 := by simp only [cntN,e2,if_true]
   simp only [hcs,hTd.nn,hTd.ck,hTd.il,hTd.kp,hTd.xb,hTd.xc,↓reduceIte,reduceCtorEq,Nat.reduceEqDiff,Nat.reduceLeDiff,Nat.reduceLT,go_sem]
   refine ⟨wrS (by omega),⟨_,d12⟩,fun a ha b hb' => ?_⟩
   obtain rfl : b = 0 := by omega
   simp only [selN,e2,true_and]
   by_cases e : a = cntN p1 i
   ·subst e; simp [vget]
   ·have : a < cntN p1 i := by omega
    simp [e,this]
  ·have e2 : p1 i = false := by rw [← hp1]; simp [hv]
   simp only [fi,z1,d5,d6,d9,d12,d13,hs1,hi7,hn7,sSpN,TNp,Np.L,Np.Is,netL,a62,List.cons_append,List.nil_append,↓imp_tt,↓imp_tf,↓imp_ft,↓imp_ff,↓reduceIte,reduceCtorEq,Nat.reduceEqDiff,Nat.reduceAdd,go_sem]
   repeat with_reducible refine And.intro (by omega) ?_
   refine inv_intro (i + 1) hil (by omega) ?_
   have hcs : cntN p1 (i + 1) = cntN p1 i := by simp [cntN,e2]
   have hse : ∀ a,selN p1 (i + 1) a = selN p1 i a := fun a => by simp [selN,e2]
   simp only [hcs,hse,hTd.ck,hTd.il,hTd.kp,hTd.xb,hTd.xc,↓reduceIte,reduceCtorEq,Nat.reduceEqDiff,Nat.reduceLeDiff,Nat.reduceLT,go_sem]
   exact ⟨wrS (by omega),_,d12⟩
 have fi : ((i : Int) < (w.spathes.1 : Int)) = False := eq_false (by omega)
 obtain rfl : i = w.spathes.1 := by omega
 simp only [fi,selV,hi6,hn6,a61,List.cons_append,List.nil_append,↓imp_ft,↓imp_ff,↓reduceIte,reduceCtorEq,Nat.reduceEqDiff,Nat.reduceAdd,Nat.reduceLeDiff,go_sem]
 refine loop_intro (ι := Nat) (fun i => i ≤ w.hours.1) (fun i => w.hours.1 - i) (fun i => [(8,.int .i64 i),(7,.int .i64 w.hours.1),(5,.own (.n 15)),(1,.func (.func 64) (.cons (.ptr (.n 12) 0) .nil))])
  (fun i => [(15,.row 3 1 (cntN p2 i) fun a _ => .int .i64 (selN p2 i a)),(14,.row 3 1 (cntN p1 w.spathes.1) fun a _ => .int .i64 (selN p1 w.spathes.1 a)),(1,.cells (.cons .nils (.cons .nils (.cons .nils .nil)))),(0,.cells (.cons (.int .i64 w.day) (.cons (.view 3 w.spathes.1 fun a b => (w.spathes.2 a).c b) (.cons (.view 1 w.hours.1 fun a b => .int .i64 (w.hours.2 a)) (.cons (.view 4 w.lots.1 fun a b => (w.lots.2 a).c b) (.cons (.int .i64 w.opn) .nil))))))] ++ dd) 1 0 (Nat.zero_le _) (.inl (ChkF.of ?_)) fun i hi => ?_
 ·simp only [cntN,hTd.nn,hTd.ck,hTd.il,hTd.kp,hTd.xb,hTd.xc,List.cons_append,List.nil_append,↓reduceIte,reduceCtorEq,Nat.reduceEqDiff,Nat.reduceAdd,Nat.reduceLeDiff,Nat.reduceLT,go_sem]
  exact ⟨_,d12⟩
 by_cases hil : i < w.hours.1
 ·have fi : ((i : Int) < (w.hours.1 : Int)) = True := eq_true (by omega)
  have hcn1 := cntN_le p2 i
  have z1 : zh (2 + (w.spathes.1 : Int) + 2 * (i : Int)) = lcB w (.hi i) := (congrArg zh (by simp only [penc]; omega)).trans (hlc2 (.hi i) hil)
  have z2 : zh (2 + (w.spathes.1 : Int) + 2 * (i : Int) + 1) = lcB w (.ho i) := (congrArg zh (by simp only [penc]; omega)).trans (hlc2 (.ho i) hil)
  cases hv : lcB w (.hi i) <;> rw [hv] at z1
  ·have e2 : p2 i = false := by rw [← hp2]; simp [hv]
   simp only [fi,z1,d5,d6,d9,d12,d13,hs2,hi8,hn8,sInN,TNp,Np.L,Np.Is,Np.of,netL,a64,List.cons_append,List.nil_append,↓imp_tt,↓imp_tf,↓imp_ft,↓imp_ff,↓reduceIte,reduceCtorEq,Nat.reduceEqDiff,Nat.reduceAdd,Nat.reduceSub,go_sem]
   repeat with_reducible refine And.intro (by omega) ?_
   refine inv_intro (i + 1) hil (by omega) ?_
   have hcs : cntN p2 (i + 1) = cntN p2 i := by simp [cntN,e2]
   have hse : ∀ a,selN p2 (i + 1) a = selN p2 i a := fun a => by simp [selN,e2]
   simp only [hcs,hse,hTd.ck,hTd.il,hTd.kp,hTd.xb,hTd.xc,↓reduceIte,reduceCtorEq,Nat.reduceEqDiff,Nat.reduceLeDiff,Nat.reduceLT,go_sem]
   exact ⟨wrS (by omega),_,d12⟩
  ·cases hv2 : lcB w (.ho i) <;> rw [hv2] at z2
   ·have e2 : p2 i = true := by rw [← hp2]; simp [hv,hv2]
    simp only [fi,z1,z2,d5,d6,d9,d12,d13,hTd.sn,hs2,hs3,hi8,hn8,sInN,sOutN,TNp,Np.L,Np.Is,Np.of,netL,a64,List.cons_append,List.nil_append,↓imp_tt,↓imp_tf,↓reduceIte,reduceCtorEq,Nat.reduceEqDiff,Nat.reduceAdd,Nat.reduceSub,Nat.reduceLeDiff,Nat.reduceLT,Nat.reducePow,go_sem]
    repeat with_reducible refine And.intro (by omega) ?_
    refine inv_intro (i + 1) hil (by omega) ?_
    have hcs : cntN p2 (i + 1) = cntN p2 i + 1 := by simp only [cntN,e2,if_true]
    simp only [hcs,hTd.nn,hTd.ck,hTd.il,hTd.kp,hTd.xb,hTd.xc,↓reduceIte,reduceCtorEq,Nat.reduceEqDiff,Nat.reduceLeDiff,Nat.reduceLT,go_sem]
    refine ⟨wrS (by omega),⟨_,d12⟩,fun a ha b hb' => ?_⟩
    obtain rfl : b = 0 := by omega
    simp only [selN,e2,true_and]
    by_cases e : a = cntN p2 i
    ·subst e; simp [vget]
    ·have : a < cntN p2 i := by omega
     simp [e,this]
   ·have e2 : p2 i = false := by rw [← hp2]; simp [hv,hv2]
    simp only [fi,z1,z2,d5,d6,d9,d12,d13,hs2,hs3,hi8,hn8,sInN,sOutN,TNp,Np.L,Np.Is,Np.of,netL,a64,List.cons_append,List.nil_append,↓imp_tt,↓imp_tf,↓imp_ft,↓imp_ff,↓reduceIte,reduceCtorEq,Nat.reduceEqDiff,Nat.reduceAdd,go_sem]
    repeat with_reducible refine And.intro (by omega) ?_
    refine inv_intro (i + 1) hil (by omega) ?_
    have hcs : cntN p2 (i + 1) = cntN p2 i := by simp [cntN,e2]
    have hse : ∀ a,selN p2 (i + 1) a = selN p2 i a := fun a => by simp [selN,e2]
    simp only [hcs,hse,hTd.ck,hTd.il,hTd.kp,hTd.xb,hTd.xc,↓reduceIte,reduceCtorEq,Nat.reduceEqDiff,Nat.reduceLeDiff,Nat.reduceLT,go_sem]
    exact ⟨wrS (by omega),_,d12⟩
 have fi : ((i : Int) < (w.hours.1 : Int)) = False := eq_false (by omega)
 obtain rfl : i = w.hours.1 := by omega
 simp only [fi,hi6,hn6,a61,List.cons_append,List.nil_append,↓imp_ft,↓imp_ff,↓reduceIte,reduceCtorEq,Nat.reduceEqDiff,Nat.reduceAdd,Nat.reduceLeDiff,go_sem]
 refine loop_intro (ι := Nat) (fun i => i ≤ w.lots.1) (fun i => w.lots.1 - i) (fun i => [(8,.int .i64 i),(7,.int .i64 w.lots.1),(5,.own (.n 16)),(1,.func (.func 67) (.cons (.ptr (.n 12) 0) .nil))])
  (fun i => [(16,.row 3 1 (cntN p3 i) fun a _ => .int .i64 (selN p3 i a)),(15,.row 3 1 (cntN p2 w.hours.1) fun a _ => .int .i64 (selN p2 w.hours.1 a)),(14,.row 3 1 (cntN p1 w.spathes.1) fun a _ => .int .i64 (selN p1 w.spathes.1 a)),(1,.cells (.cons .nils (.cons .nils (.cons .nils .nil)))),(0,.cells (.cons (.int .i64 w.day) (.cons (.view 3 w.spathes.1 fun a b => (w.spathes.2 a).c b) (.cons (.view 1 w.hours.1 fun a b => .int .i64 (w.hours.2 a)) (.cons (.view 4 w.lots.1 fun a b => (w.lots.2 a).c b) (.cons (.int .i64 w.opn) .nil))))))] ++ dd) 1 0 (Nat.zero_le _) (.inl (ChkF.of ?_)) fun i hi => ?_
 ·simp only [cntN,hTd.nn,hTd.ck,hTd.il,hTd.kp,hTd.xb,hTd.xc,List.cons_append,List.nil_append,↓reduceIte,reduceCtorEq,Nat.reduceEqDiff,Nat.reduceAdd,Nat.reduceLeDiff,Nat.reduceLT,go_sem]
  exact ⟨_,d12⟩
 by_cases hil : i < w.lots.1
 ·have fi : ((i : Int) < (w.lots.1 : Int)) = True := eq_true (by omega)
  have hcn1 := cntN_le p3 i
  have z1 : zh (2 + (w.spathes.1 : Int) + 2 * (w.hours.1 : Int) + (i : Int)) = lcB w (.lt i) := (congrArg zh (by simp only [penc]; omega)).trans (hlc2 (.lt i) hil)
  cases hv : lcB w (.lt i) <;> rw [hv] at z1
  ·have e2 : p3 i = false := by rw [← hp3]; simp [hv]
   simp only [fi,z1,d5,d6,d9,d12,d13,hs4,hi9,hn9,sLotN,TNp,Np.L,Np.Is,Np.of,netL,a67,List.cons_append,List.nil_append,↓imp_tt,↓imp_tf,↓imp_ft,↓imp_ff,↓reduceIte,reduceCtorEq,Nat.reduceEqDiff,Nat.reduceAdd,go_sem]
   repeat with_reducible refine And.intro (by omega) ?_
   refine inv_intro (i + 1) hil (by omega) ?_
   have hcs : cntN p3 (i + 1) = cntN p3 i := by simp [cntN,e2]
   have hse : ∀ a,selN p3 (i + 1) a = selN p3 i a := fun a => by simp [selN,e2]
   simp only [hcs,hse,hTd.ck,hTd.il,hTd.kp,hTd.xb,hTd.xc,↓reduceIte,reduceCtorEq,Nat.reduceEqDiff,Nat.reduceLeDiff,Nat.reduceLT,go_sem]
   exact ⟨wrS (by omega),_,d12⟩
  ·have e2 : p3 i = true := by rw [← hp3]; simp [hv]
   simp only [fi,z1,d5,d6,d9,d12,d13,hTd.sn,hs4,hi9,hn9,sLotN,TNp,Np.L,Np.Is,Np.of,netL,a67,List.cons_append,List.nil_append,↓imp_tt,↓imp_tf,↓reduceIte,reduceCtorEq,Nat.reduceEqDiff,Nat.reduceAdd,Nat.reduceSub,Nat.reduceLeDiff,Nat.reduceLT,Nat.reducePow,go_sem]
   repeat with_reducible refine And.intro (by omega) ?_
   refine inv_intro (i + 1) hil (by omega) ?_
   have hcs : cntN p3 (i + 1) = cntN p3 i + 1 := by simp only [cntN,e2,if_true]
   simp only [hcs,hTd.nn,hTd.ck,hTd.il,hTd.kp,hTd.xb,hTd.xc,↓reduceIte,reduceCtorEq,Nat.reduceEqDiff,Nat.reduceLeDiff,Nat.reduceLT,go_sem]
   refine ⟨wrS (by omega),⟨_,d12⟩,fun a ha b hb' => ?_⟩
   obtain rfl : b = 0 := by omega
   simp only [selN,e2,true_and]
   by_cases e : a = cntN p3 i
   ·subst e; simp [vget]
   ·have : a < cntN p3 i := by omega
    simp [e,this]
 have fi : ((i : Int) < (w.lots.1 : Int)) = False := eq_false (by omega)
 obtain rfl : i = w.lots.1 := by omega
 simp only [fi,List.cons_append,List.nil_append,↓imp_ft,↓imp_ff,↓reduceIte,Nat.reduceEqDiff,Nat.reduceAdd,Nat.reduceLeDiff,go_sem]
end Go.Proofs.Ytlapepdhkomijaa
