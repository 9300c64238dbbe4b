/- The program's net: most, in any place. No condition but bounds. -/
import Derived.Test.YtlapepdhkomijaaPSlP
import Derived.Test.YtlapepdhkomijaaPSt
set_option linter.unusedSimpArgs false
set_option linter.unusedVariables false
namespace Go.Proofs.Ytlapepdhkomijaa
open Go Go.RowKit
variable {G : Nat → Option (Nat × (Nat → Val))}
set_option maxHeartbeats 4000000 in
set_option maxRecDepth 100000 in
theorem most_run23 {S : List (FuncId × Spec)} {I : List (FuncId × AFun)} {Q : Val → Bx → Prop} {f : SFrame} {stk : List SFrame} {tl : Bx} (hT : Tl 0 23 tl) (hi1 : lkp I 85 = some a85) (hi2 : lkp S 85 = none)
  (w : Wk) (hb : WkB w) (w1 : w.spathes.1 ≤ 9223372036854775807) (w2 : w.hours.1 ≤ 9223372036854775807) (w3 : w.lots.1 ≤ 9223372036854775807) (first : Nat) (hf : first ≤ w.spathes.1) (tk : Nat → Bool) (us : Nat → Int) (hU : ∀ q,q < w.lots.1 → 0 ≤ us q ∧ us q ≤ (w.lots.2 q).units) (M0 : Nat) (T : KSt) (hm : T.m ≤ 34 * w.spathes.1 + 10 * w.hours.1 + 2 * w.lots.1) (hKn : Knt (ntP w first tk us) (pdec w.spathes.1 w.hours.1) (P5 w first tk w.lots.1) T)
  (hK : ∀ (v : Int) (bx' : Bx) (M' : Nat) (sn' : Nat → Bool) (lf' : Nat → Int),M0 ≤ M' → IsMost (ntP w first tk us) v → 0 ≤ v → v ≤ w.spathes.1 → (∀ b,b.id < 23 → bget bx' b = bget tl b) → PNet (2 + w.spathes.1 + 2 * w.hours.1 + w.lots.1) T.m 26 29 25 30 32 (.int .i64 w.day) (.view 3 w.spathes.1 fun a b => (w.spathes.2 a).c b) (.view 1 w.hours.1 fun a b => .int .i64 (w.hours.2 a)) (.view 4 w.lots.1 fun a b => (w.lots.2 a).c b) (.int .i64 w.opn) T.tw lf' (fun u => T.ln u) (fun u => T.ix u) sn' bx' → (∀ b,b ≠ .n 26 → b ≠ .n 29 → b ≠ .n 32 → bget bx' b = bget ([(31,.fam (fun z => decide (z = (w.spathes.1 : Int))) fun _ => .cells (.cons (.int .i64 w.spathes.1) .nil)),(29,.row 150 2 T.m (edgC T)),(30,.fam (fun _ => true) fun z => .row 3 1 (T.ln z) fun i _ => .int .i64 (T.ix z i)),(27,.cells (.cons (.ptr (.n 26) 0) .nil)),(26,.cells (netL w 29 25 .nilm)),(25,.mz .i64 fun z => .own (.f 30 z)),(24,.cells (leftL (first : Int) tk us)),(23,.cells (.cons (.int .i64 w.day) (.cons (.view 3 w.spathes.1 fun a b => (w.spathes.2 a).c b) (.cons (.view 1 w.hours.1 fun a b => .int .i64 (w.hours.2 a)) (.cons (.view 4 w.lots.1 fun a b => (w.lots.2 a).c b) (.cons (.int .i64 w.opn) .nil))))))] ++ tl) b) → runO (mkN G S I []) Q M' f.K stk f.res (fput f.fr f.d (.int .i64 v)) bx' 33) :
  runO (mkN G S I []) Q (M0 + 17000) [.code a58.code] (f :: stk) a58.res (params 0 [.ptr (.n 26) 0]) ([(31,.fam (fun z => decide (z = (w.spathes.1 : Int))) fun _ => .cells (.cons (.int .i64 w.spathes.1) .nil)),(29,.row 150 2 T.m (edgC T)),(30,.fam (fun _ => true) fun z => .row 3 1 (T.ln z) fun i _ => .int .i64 (T.ix z i)),(27,.cells (.cons (.ptr (.n 26) 0) .nil)),(26,.cells (netL w 29 25 .nilm)),(25,.mz .i64 fun z => .own (.f 30 z)),(24,.cells (leftL (first : Int) tk us)),(23,.cells (.cons (.int .i64 w.day) (.cons (.view 3 w.spathes.1 fun a b => (w.spathes.2 a).c b) (.cons (.view 1 w.hours.1 fun a b => .int .i64 (w.hours.2 a)) (.cons (.view 4 w.lots.1 fun a b => (w.lots.2 a).c b) (.cons (.int .i64 w.opn) .nil))))))] ++ tl) 32 := by
 simp only [a58,netL,go_sem]
 have hC := pcod (ntP w first tk us)
 have hTm : T.m < 1000 := by have := hb.h; have := hb.s; have := hb.l; omega
 have hA := hKn.adj hC (by omega)
 have hRes := hKn.res hC P5_cap
 obtain ⟨n,hn⟩ : ∃ n : Nat,n = 2 + w.spathes.1 + 2 * w.hours.1 + w.lots.1 := ⟨_,rfl⟩
 have hNn : Nt.n (ntP w first tk us) = n := by rw [hn]; rfl
 have hn50 : n ≤ 50 := by have := hb.h; have := hb.s; have := hb.l; omega
 have hun : ∀ j,0 ≤ ((ntP w first tk us)).un j ∧ ((ntP w first tk us)).un j ≤ 100 := fun j => by
  show 0 ≤ (if j < w.lots.1 then (w.lots.2 j).units - us j else 0) ∧ (if j < w.lots.1 then (w.lots.2 j).units - us j else 0) ≤ 100
  split
  ·rename_i hj
   have := hb.u j hj; have := hU j hj; omega
  ·omega
 have hc0 : ∀ x y,0 ≤ ((ntP w first tk us)).cap x y ∧ ((ntP w first tk us)).cap x y ≤ 100 := fun x y => by
  rcases x with _ | _ | a | a | a | a <;> rcases y with _ | _ | b | b | b | b <;> simp only [Nt.cap] <;> first | omega | (split <;> omega) | (split; exact hun _; omega)
 have hgf : ∀ h,((ntP w first tk us)).fr h = true → ((ntP w first tk us)).gf h = true := fun h e => e
 rw [hNn] at hA hRes
 refine loopI (ι := Int × (Nat → Nat → Int) × (Nat → Int)) (fun s => 0 ≤ s.1 ∧ FlowOk (ntP w first tk us) (pdec w.spathes.1 w.hours.1) s.2.1 s.1 ∧ Res n T.m T.tw s.2.2 s.2.1) (fun s => 9 - s.1.toNat) [0] (fun s => [(3,.int .i64 s.1)])
  (fun s => [(26,.cells (netL w 29 25 .und)),(29,.row 150 2 T.m (edgC ⟨T.m,T.tw,s.2.2,T.ln,T.ix⟩))]) (0,(fun u v => ((ntP w first tk us)).cap (pdec w.spathes.1 w.hours.1 u) (pdec w.spathes.1 w.hours.1 v)),T.lf) ⟨Int.le_refl _,.start (fun _ _ _ _ => rfl) fun x y => (hc0 x y).1,hRes⟩ ?_ fun s hs => ?_
 ·simp only [netL,vsub_left,isLB_left,false_and,Nat.not_lt_zero,hT.nf,hT.ck,hT.il,hT.kp,hT.xb,hT.xc,↓imp_tt,↓reduceIte,reduceCtorEq,Nat.reduceEqDiff,Nat.reduceLeDiff,Nat.reduceLT,go_sem]
  exact ⟨chkFam_cell (by simp only [↓reduceIte,go_sem]),chkFam_self fun z _ => by simp only [false_and,↓reduceIte,Nat.reduceEqDiff,go_sem],fun z hz => ⟨_,if_pos hz⟩⟩
 obtain ⟨v,R,lf⟩ := s
 obtain ⟨hv0,hF,hRes⟩ := hs
 simp only at hv0 hF hRes
 have hvS : v ≤ w.spathes.1 := by
  obtain ⟨g,_,e⟩ := hF.plan hC hgf (fun j => (hun j).1)
  have := Pla.size_le g ((ntP w first tk us)).S
  rw [e] at this
  exact this
 simp only [netL,hi1,hi2,↓reduceIte,reduceCtorEq,Nat.reduceEqDiff,Nat.reduceAdd,go_sem]
 refine ppush_run hi2 hi1 (n := n) (m := T.m) (X := 26) (E := 29) (M := 25) (F := 30) (Z := 32) hTm (by omega) (by omega) hA n 0 R lf (fun _ => false) _ _ _ _ _ (by omega) (uns_le _ _) (by omega) rfl rfl (fun a ha b hb' => ?_) hRes ⟨by simp only [↓reduceIte,Nat.reduceEqDiff,go_sem]; rfl,⟨_,by simp only [↓reduceIte,Nat.reduceEqDiff,go_sem]; rfl,fun k hk => ⟨rfl,rfl⟩⟩,⟨_,by simp only [↓reduceIte,Nat.reduceEqDiff,go_sem]; rfl,fun u hu => rfl⟩,fun u hu => ⟨_,by simp only [false_and,↓reduceIte,Nat.reduceEqDiff,go_sem]; rfl,fun i hi => rfl⟩,⟨fun _ => false,fun _ => .und,by simp only [↓reduceIte,go_sem],fun u hu => rfl,fun k hk => (by cases hk)⟩,by simp only [hT.ni,↓imp_tt,Nat.reduceLeDiff,go_sem]⟩ fun b r' lf' sn' bx' B' hM' hpost hres' hnet hold hkeep => ?_
 ·have e1 := hF.nn a (by rw [hNn]; exact ha) b (by rw [hNn]; exact hb')
  have e2 := hF.sk a (by rw [hNn]; exact ha) b (by rw [hNn]; exact hb')
  have e3 := (hc0 (pdec w.spathes.1 w.hours.1 a) (pdec w.spathes.1 w.hours.1 b)).2
  have e4 := (hc0 (pdec w.spathes.1 w.hours.1 b) (pdec w.spathes.1 w.hours.1 a)).2
  omega
 obtain ⟨B',rfl⟩ : ∃ m,B' = m + 100 := ⟨B' - 100,by omega⟩
 cases b with
 | false =>
  obtain ⟨c1,c2,c3,c4⟩ := hpost.ff rfl
  have hMost : IsMost (ntP w first tk us) v := hF.most hC hgf (fun j => (hun j).1) (s := sn') c2 c3 fun u hu hs x hx h0 => c4 u (by rw [← hNn]; exact hu) hs rfl x (by rw [← hNn]; exact hx) h0
  simp only [↓imp_tt,↓imp_tf,↓reduceIte,Nat.reduceEqDiff,go_sem]
  exact hK v bx' _ sn' lf' (by omega) hMost hv0 hvS (fun b hb => (hold b (by intro e; subst e; simp [Bn.id] at hb) (by intro e; subst e; simp [Bn.id] at hb)).trans (by
   cases b with
   | n k => simp only [Bn.id] at hb; simp only [bget]; repeat rw [if_neg (by omega)]
   | f k z => simp only [Bn.id] at hb; simp only [bget]; repeat rw [if_neg (fun q => by have := q.1; omega)])) (by rw [← hn]; exact hnet) fun b e1 e2 e3 => (hold b e3 e2).trans (by
   cases b with
   | n k => simp only [bget,List.cons_append,List.nil_append,if_neg (show ¬ 26 = k from fun e => e1 (by rw [e])),if_neg (show ¬ 29 = k from fun e => e2 (by rw [e])),if_neg (show ¬ 32 = k from fun e => e3 (by rw [e]))]
   | f k z => simp only [bget,List.cons_append,List.nil_append])
 | true =>
  have w6 : IntKind.i64.wrap (v + 1) = v + 1 := wr64 (by omega) (by have := hb.s; omega)
  simp only [w6,↓imp_ft,↓imp_ff,↓reduceIte,Nat.reduceEqDiff,go_sem]
  obtain ⟨ce,he1,he2⟩ := hnet.e
  have hx1 := hnet.x
  have h8 := fun z : Int => hold (.f 31 z) (by simp) (by simp)
  have h7 := fun z : Int => hold (.f 30 z) (by simp) (by simp)
  refine inv_chkG (v + 1,r',lf') ⟨by simp only; omega,hF.push ?_,hres'⟩ (by have := hb.s; simp only; omega) ?_
  ·rw [hNn]; exact (hpost.tt rfl).1
  refine chkG_tl (B := 23) (pre := [(31,.fam (fun z => decide (z = (w.spathes.1 : Int))) fun _ => .cells (.cons (.int .i64 w.spathes.1) .nil)),(29,.row 150 2 T.m (edgC ⟨T.m,T.tw,lf',T.ln,T.ix⟩)),(30,.fam (fun _ => true) fun z => .row 3 1 (T.ln z) fun i _ => .int .i64 (T.ix z i)),(27,.cells (.cons (.ptr (.n 26) 0) .nil)),(26,.cells (netL w 29 25 .und)),(25,.mz .i64 fun z => .own (.f 30 z)),(24,.cells (leftL (first : Int) tk us)),(23,.cells (.cons (.int .i64 w.day) (.cons (.view 3 w.spathes.1 fun a b => (w.spathes.2 a).c b) (.cons (.view 1 w.hours.1 fun a b => .int .i64 (w.hours.2 a)) (.cons (.view 4 w.lots.1 fun a b => (w.lots.2 a).c b) (.cons (.int .i64 w.opn) .nil))))))]) (pre0 := [(31,.fam (fun z => decide (z = (w.spathes.1 : Int))) fun _ => .cells (.cons (.int .i64 w.spathes.1) .nil)),(29,.row 150 2 T.m (edgC T)),(30,.fam (fun _ => true) fun z => .row 3 1 (T.ln z) fun i _ => .int .i64 (T.ix z i)),(27,.cells (.cons (.ptr (.n 26) 0) .nil)),(26,.cells (netL w 29 25 .nilm)),(25,.mz .i64 fun z => .own (.f 30 z)),(24,.cells (leftL (first : Int) tk us)),(23,.cells (.cons (.int .i64 w.day) (.cons (.view 3 w.spathes.1 fun a b => (w.spathes.2 a).c b) (.cons (.view 1 w.hours.1 fun a b => .int .i64 (w.hours.2 a)) (.cons (.view 4 w.lots.1 fun a b => (w.lots.2 a).c b) (.cons (.int .i64 w.opn) .nil))))))]) hT (by simp) (by simp) (fun b hb => ?_) (Nat.le_refl _) ?_ ?_ ?_ ?_
  ·rw [hold b (by intro e; subst e; simp [Bn.id] at hb) (by intro e; subst e; simp [Bn.id] at hb)]
   exact (by
   cases b with
   | n k => simp only [Bn.id] at hb; simp only [bget]; repeat rw [if_neg (by omega)]
   | f k z => simp only [Bn.id] at hb; simp only [bget]; repeat rw [if_neg (fun q => by have := q.1; omega)])
  ·simp only [List.cons_append,List.nil_append,↓reduceIte,reduceCtorEq,Nat.reduceEqDiff,go_sem]
  ·simp only [AllB,hx1,he1,h7,h8,hold (.n 27) (by simp) (by simp),hold (.n 25) (by simp) (by simp),hold (.n 24) (by simp) (by simp),hold (.n 23) (by simp) (by simp),false_and,vsub_left,isLB_left,forall_eq,implies_true,netL,List.cons_append,List.nil_append,Nat.not_lt_zero,hT.nf,↓imp_tt,↓reduceIte,reduceCtorEq,Nat.reduceEqDiff,Nat.reduceLeDiff,go_sem]
   exact .inr fun i hi j hj => edg_at he2 hi hj
  ·simp only [AllB,false_and,forall_eq,implies_true,netL,List.cons_append,List.nil_append,Nat.not_lt_zero,hT.nf,↓imp_tt,↓reduceIte,Nat.reduceEqDiff,Nat.reduceLeDiff,go_sem]
  ·simp only [AllB,hx1,he1,h7,h8,hold (.n 27) (by simp) (by simp),hold (.n 25) (by simp) (by simp),hold (.n 24) (by simp) (by simp),hold (.n 23) (by simp) (by simp),false_and,forall_eq,forall_eq',implies_true,netL,List.cons_append,List.nil_append,Nat.not_lt_zero,hT.nf,Kin,↓imp_tt,↓reduceIte,Nat.reduceEqDiff,Nat.reduceLeDiff,go_sem]
end Go.Proofs.Ytlapepdhkomijaa
