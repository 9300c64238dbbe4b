/- Which names values, frames and boxes hold. No condition. -/
import Derived.Test.YtlapepdhkomijaaPSlP
set_option linter.unusedSimpArgs false
set_option linter.unusedVariables false
namespace Go.Proofs.Ytlapepdhkomijaa
open Go Go.RowKit
def nmB (B : Nat) : Val → Bool
 | .own b | .ptr b _ | .rptr b _ _ | .mapb b | .yld b => Nat.blt b.id B
 | .cons h t => nmB B h && nmB B t
 | .agg l | .tup l | .func _ l => nmB B l
 | _ => true
def nmD (D : Bn → Prop) : Val → Prop
 | .own b | .ptr b _ | .rptr b _ _ | .mapb b | .yld b => D b
 | .cons h t => nmD D h ∧ nmD D t
 | .agg l | .tup l | .func _ l => nmD D l
 | _ => True
theorem blt_ne {B : Nat} {b x : Bn} (h : Nat.blt b.id B = true) (hx : B ≤ x.id) : ¬ b = x := fun e => by
 subst e
 have : b.id < B := by simpa [Nat.blt_eq] using h
 omega
theorem subV_nm {B : Nat} {b : Bn} {r : Val} (hb : B ≤ b.id) : ∀ v : Val,nmB B v = true → subV b r v = v := by
 intro v
 induction v with
 | own b' => intro h; simp only [subV]; rw [if_neg (blt_ne h hb)]
 | ptr b' o => intro h; simp only [subV]; rw [if_neg (blt_ne h hb)]
 | rptr b' i o => intro h; simp only [subV]; rw [if_neg (blt_ne h hb)]
 | mapb b' => intro h; simp only [subV]; rw [if_neg (blt_ne h hb)]
 | yld b' => intro h; simp only [subV]; rw [if_neg (blt_ne h hb)]
 | cons a t ih1 ih2 => intro h; simp only [nmB,Bool.and_eq_true] at h; simp only [subV,ih1 h.1,ih2 h.2]
 | agg l ih => intro h; simp only [subV,ih h]
 | tup l ih => intro h; simp only [subV,ih h]
 | func fn l ih => intro h; simp only [subV,ih h]
 | _ => intro _; rfl
theorem renV_nm {B : Nat} {b y : Bn} (hb : B ≤ b.id) : ∀ v : Val,nmB B v = true → renV b y v = v := by
 intro v
 induction v with
 | own b' => intro h; simp only [renV]; rw [if_neg (blt_ne h hb)]
 | ptr b' o => intro h; simp only [renV]; rw [if_neg (blt_ne h hb)]
 | rptr b' i o => intro h; simp only [renV]; rw [if_neg (blt_ne h hb)]
 | mapb b' => intro h; simp only [renV]; rw [if_neg (blt_ne h hb)]
 | yld b' => intro h; simp only [renV]; rw [if_neg (blt_ne h hb)]
 | cons a t ih1 ih2 => intro h; simp only [nmB,Bool.and_eq_true] at h; simp only [renV,ih1 h.1,ih2 h.2]
 | agg l ih => intro h; simp only [renV,ih h]
 | tup l ih => intro h; simp only [renV,ih h]
 | func fn l ih => intro h; simp only [renV,ih h]
 | _ => intro _; rfl
def nmFr (B : Nat) : Fr → Bool
 | [] => true
 | (_,v) :: l => nmB B v && nmFr B l
theorem subFr_nm {B : Nat} {b : Bn} {r : Val} (hb : B ≤ b.id) : ∀ fr : Fr,nmFr B fr = true → subFr b r fr = fr
 | [],_ => rfl
 | (t,v) :: l,h => by
  simp only [nmFr,Bool.and_eq_true] at h
  simp only [subFr,subV_nm hb v h.1,subFr_nm hb l h.2]
theorem renFr_nm {B : Nat} {b y : Bn} (hb : B ≤ b.id) : ∀ fr : Fr,nmFr B fr = true → renFr b y fr = fr
 | [],_ => rfl
 | (t,v) :: l,h => by
  simp only [nmFr,Bool.and_eq_true] at h
  simp only [renFr,renV_nm hb v h.1,renFr_nm hb l h.2]
def nmStk (B : Nat) : List SFrame → Bool
 | [] => true
 | f :: l => nmFr B f.fr && Nat.ble f.nx B && nmStk B l
theorem subStk_nm {B : Nat} {b : Bn} {r : Val} (hb : B ≤ b.id) : ∀ s : List SFrame,nmStk B s = true → subStk b r s = s
 | [],_ => rfl
 | f :: l,h => by
  simp only [nmStk,Bool.and_eq_true] at h
  simp only [subStk,subFr_nm hb f.fr h.1.1,subStk_nm hb l h.2]
theorem stkNx_nm {B : Nat} : ∀ s : List SFrame,nmStk B s = true → ∀ n ∈ stkNx s,n ≤ B
 | [],_,n,hn => by cases hn
 | f :: l,h,n,hn => by
  simp only [nmStk,Bool.and_eq_true] at h
  rcases List.mem_cons.1 hn with rfl | hn
  ·exact Nat.le_of_ble_eq_true h.1.2
  ·exact stkNx_nm l h.2 n hn
theorem Sk.of {B : Nat} {f : SFrame} {stk : List SFrame} (h : nmStk B (f :: stk) = true) : Sk B f stk := by
 have h2 := h
 simp only [nmStk,Bool.and_eq_true] at h2
 exact ⟨fun k v hk => subFr_nm (b := .n k) hk _ h2.1.1,fun k z v hk => subFr_nm (b := .f k z) hk _ h2.1.1,fun k v hk => subStk_nm (b := .n k) hk _ h2.2,fun k z v hk => subStk_nm (b := .f k z) hk _ h2.2,stkNx_nm (f :: stk) h⟩
theorem BxUp.cells {B : Nat} {l : Val} (h : nmB B l = true) : BxUp B (.cells l) :=
 ⟨fun k v hk => by simp only [subBox,subV_nm (b := .n k) hk l h],fun k z v hk => by simp only [subBox,subV_nm (b := .f k z) hk l h],fun k y hk => by simp only [renBox,renV_nm (b := .n k) hk l h],fun _ _ => trivial⟩
theorem BxUp.row {B : Nat} {e : TypeId} {k n : Nat} {c : Nat → Nat → Val} : BxUp B (.row e k n c) := ⟨fun _ _ _ => rfl,fun _ _ _ _ => rfl,fun _ _ _ => rfl,fun _ _ => trivial⟩
theorem BxUp.mz {B : Nat} {kd : IntKind} {f : Int → Val} (h : ∀ z,nmB B (f z) = true) : BxUp B (.mz kd f) :=
 ⟨fun k v hk => by simp only [subBox,subV_nm (b := .n k) hk _ (h _)],fun k z v hk => by simp only [subBox,subV_nm (b := .f k z) hk _ (h _)],fun k y hk => by simp only [renBox,renV_nm (b := .n k) hk _ (h _)],fun _ _ => trivial⟩
theorem BxUp.mp {B : Nat} {kd : IntKind} {has : Int → Bool} {f : Int → Val} (h : ∀ z,nmB B (f z) = true) : BxUp B (.mp kd has f) :=
 ⟨fun k v hk => by simp only [subBox,subV_nm (b := .n k) hk _ (h _)],fun k z v hk => by simp only [subBox,subV_nm (b := .f k z) hk _ (h _)],fun k y hk => by simp only [renBox,renV_nm (b := .n k) hk _ (h _)],fun _ _ => trivial⟩
theorem BxUp.lp {B g : Nat} {fr : Fr} {ps : List Nat} {ca cb : ACode} {st : Lst} (h : nmFr B fr = true) : BxUp B (.lp g fr ps ca cb st) :=
 ⟨fun k v hk => by simp only [subBox,subFr_nm (b := .n k) hk _ h],fun k z v hk => by simp only [subBox,subFr_nm (b := .f k z) hk _ h],fun k y hk => by simp only [renBox,renFr_nm (b := .n k) hk _ h],fun _ _ => trivial⟩
theorem BxUp.mono {A B : Nat} {c : Box} (h : BxUp A c) (hAB : A ≤ B) : BxUp B c := ⟨fun k v hk => h.sn k v (by omega),fun k z v hk => h.sf k z v (by omega),fun k y hk => h.rn k y (by omega),fun k hk => h.ni k (by omega)⟩
theorem vsub_nm {N D : Bn → Prop} : ∀ v : Val,nmD D v → vsub N D v v := by
 intro v
 induction v with
 | cons a t ih1 ih2 => intro h; exact ⟨a,t,rfl,ih1 h.1,ih2 h.2⟩
 | agg l ih => intro h; exact ⟨l,rfl,ih h⟩
 | tup l ih => intro h; exact ⟨l,rfl,ih h⟩
 | func fn l ih => intro h; exact ⟨l,rfl,ih h⟩
 | own b => intro h; exact .inl ⟨rfl,h⟩
 | ptr b o => intro h; exact ⟨rfl,h⟩
 | rptr b i o => intro h; exact ⟨rfl,h⟩
 | mapb b => intro h; exact ⟨rfl,h⟩
 | yld b => intro h; exact ⟨rfl,h⟩
 | view k n c => intro _; exact .inr ⟨c,rfl,fun i _ j _ => by rw [vsubP_self]; trivial⟩
 | vptr m c => intro _; exact ⟨c,rfl,fun j _ => by rw [vsubP_self]; trivial⟩
 | mview kd has f => intro _; exact ⟨has,f,rfl,fun k => ⟨rfl,fun _ => by rw [vsubP_self]; trivial⟩⟩
 | und => intro _; trivial
 | _ => intro _; exact rfl
theorem vset_left0 {f g : Int} {tk : Nat → Bool} {us : Nat → Int} : vset (leftL f tk us) 0 (.int .i64 g) = leftL g tk us := rfl
theorem vset_leftT {f : Int} {tk : Nat → Bool} {us : Nat → Int} {z : Nat} {b : Bool} (h : z < 16) : vset (leftL f tk us) (1 + z) (.bool b) = leftL f (fun a => if a = z then b else tk a) us := by
 rcases z with _ | _ | _ | _ | _ | _ | _ | _ | _ | _ | _ | _ | _ | _ | _ | _ | z
 all_goals first | rfl | (exfalso; omega)
theorem vset_leftU {f : Int} {tk : Nat → Bool} {us : Nat → Int} {z : Nat} {x : Int} (h : z < 4) : vset (leftL f tk us) (17 + z) (.int .i64 x) = leftL f tk (fun a => if a = z then x else us a) := by
 match z,h with
 | 0,_ | 1,_ | 2,_ | 3,_ => rfl
theorem sliceV_left {f : Int} {tk : Nat → Bool} {us : Nat → Int} : sliceV (leftL f tk us) 0 (List.length [Sh.int .i64,Sh.bool,Sh.bool,Sh.bool,Sh.bool,Sh.bool,Sh.bool,Sh.bool,Sh.bool,Sh.bool,Sh.bool,Sh.bool,Sh.bool,Sh.bool,Sh.bool,Sh.bool,Sh.bool,Sh.int .i64,Sh.int .i64,Sh.int .i64,Sh.int .i64]) = leftL f tk us := rfl
theorem onesB_left {f : Int} {tk : Nat → Bool} {us : Nat → Int} : onesB (leftL f tk us) = true := rfl
theorem vsets_left0 {f : Int} {tk : Nat → Bool} {us : Nat → Int} {a0 a1 a2 a3 a4 a5 a6 a7 a8 a9 a10 a11 a12 a13 a14 a15 a16 a17 a18 a19 a20 : Val} : vsets (.cons a0 (.cons a1 (.cons a2 (.cons a3 (.cons a4 (.cons a5 (.cons a6 (.cons a7 (.cons a8 (.cons a9 (.cons a10 (.cons a11 (.cons a12 (.cons a13 (.cons a14 (.cons a15 (.cons a16 (.cons a17 (.cons a18 (.cons a19 (.cons a20 .nil))))))))))))))))))))) 0 (leftL f tk us) = leftL f tk us := by simp only [leftL,vsets,vset,Nat.reduceAdd]
theorem chkG_in {bx0 bx' : Bx} {nx nx' : Nat} {fr1 fr' : Fr} (hn : nx ≤ nx') (hfr : chkFr (newIn bx0 bx') (hasB bx') fr1 fr') (hbox : AllB (fun b c' => bget bx0 b = some c' ∨ chkBx1 (newIn bx0 bx') (hasB bx') (bget bx0 b) c') bx')
  (hid : AllB (fun b _ => (∃ c,bget bx0 b = some c) ∨ b.id < nx') bx') (hdom : ∀ b,bget bx' b = none → bget bx0 b = none) : ChkG bx0 nx fr1 bx0 fr' bx' nx' := by
 refine ⟨none,trivial,hn,hfr,fun b c' hb => (hbox.get b c' hb).imp (fun h => ⟨h,h⟩) id,fun b c' hb => hid.get b c' hb,fun b c0 c1 q0 q1 => ?_⟩
 rw [q0] at q1; cases q1
 cases hb : bget bx' b with
 | none => rw [hdom b hb] at q0; cases q0
 | some c' =>
  refine ⟨c',rfl,?_⟩
  rcases hbox.get b c' hb with h | h
  ·rw [q0] at h; cases h; exact Kin.refl _
  ·rw [q0] at h; exact chk_kin h
theorem idsGe0 : ∀ l : Bx,idsGe 0 l
 | [] => trivial
 | _ :: l => ⟨Nat.zero_le _,idsGe0 l⟩
end Go.Proofs.Ytlapepdhkomijaa
namespace Go.Proofs.Ytlapepdhkomijaa
open Go Go.RowKit
theorem ents_up {B : Nat} {w : Bx} {b : Bn} {c : Box} : ∀ {l : Bx},EntsOk B w l → bget l b = some c → BxUp B c
 | [],_,h => by cases h
 | (k,.one c') :: l,hi,h => by
  obtain ⟨h1,h2⟩ := hi
  cases b <;> simp only [bget] at h
  ·split at h
   ·cases h; exact h1.1
   ·exact ents_up h2 h
  ·exact ents_up h2 h
 | (k,.fam d r) :: l,hi,h => by
  obtain ⟨h1,h2⟩ := hi
  cases b <;> simp only [bget] at h
  ·exact ents_up h2 h
  ·split at h
   ·cases h; exact h1.1 _
   ·exact ents_up h2 h
theorem vset_all {f f' : Int} {tk tk' : Nat → Bool} {us us' : Nat → Int} : vset (vset (vset (vset (vset (vset (vset (vset (vset (vset (vset (vset (vset (vset (vset (vset (vset (vset (vset (vset (vset (leftL f' tk' us') 0 (vget (leftL f tk us) 0)) 1 (vget (leftL f tk us) 1)) 2 (vget (leftL f tk us) 2)) 3 (vget (leftL f tk us) 3)) 4 (vget (leftL f tk us) 4)) 5 (vget (leftL f tk us) 5)) 6 (vget (leftL f tk us) 6)) 7 (vget (leftL f tk us) 7)) 8 (vget (leftL f tk us) 8)) 9 (vget (leftL f tk us) 9)) 10 (vget (leftL f tk us) 10)) 11 (vget (leftL f tk us) 11)) 12 (vget (leftL f tk us) 12)) 13 (vget (leftL f tk us) 13)) 14 (vget (leftL f tk us) 14)) 15 (vget (leftL f tk us) 15)) 16 (vget (leftL f tk us) 16)) 17 (vget (leftL f tk us) 17)) 18 (vget (leftL f tk us) 18)) 19 (vget (leftL f tk us) 19)) 20 (vget (leftL f tk us) 20) = leftL f tk us := by simp only [leftL,vset,vget]
theorem chkG_same {bx0 bx1 : Bx} {nx nx' : Nat} {fr1 fr' : Fr} (hn : nx ≤ nx') (hfr : chkFr (newIn bx1 bx0) (hasB bx0) fr1 fr') (h : ∀ b c,bget bx0 b = some c → bget bx1 b = some c) : ChkG bx0 nx fr1 bx1 fr' bx0 nx' :=
 ⟨none,trivial,hn,hfr,fun b c hb => .inl ⟨hb,h b c hb⟩,fun b c hb => .inl ⟨c,hb⟩,fun b c0 c1 q0 q1 => by rw [h _ _ q0] at q1; cases q1; exact ⟨c0,q0,Kin.refl _⟩⟩
theorem chkG_dom {bx0 bx1 bx' : Bx} {nx nx' : Nat} {fr1 fr' : Fr} (hn : nx ≤ nx') (hfr : chkFr (newIn bx1 bx') (hasB bx') fr1 fr') (hbox : chkBx (newIn bx1 bx') (hasB bx') bx1 bx') (hid : idsLt nx' bx') (hdom : ∀ b,bget bx' b = none → bget bx0 b = none) : ChkG bx0 nx fr1 bx1 fr' bx' nx' := by
 refine ⟨none,trivial,hn,hfr,fun b c hb => .inr (chkBx_get hbox _ _ hb),fun b c hb => .inr (idsLt_get hid _ _ hb),fun b c0 c1 q0 q1 => ?_⟩
 cases hb : bget bx' b with
 | none => rw [hdom b hb] at q0; cases q0
 | some c' =>
  have := chkBx_get hbox _ _ hb
  rw [q1] at this
  exact ⟨c',rfl,chk_kin this⟩
end Go.Proofs.Ytlapepdhkomijaa
namespace Go.Proofs.Ytlapepdhkomijaa
open Go Go.RowKit
variable {G : Nat → Option (Nat × (Nat → Val))}
set_option maxHeartbeats 4000000 in
set_option maxRecDepth 100000 in
theorem knot_run23 {S : List (FuncId × Spec)} {I : List (FuncId × AFun)} {Q : Val → Bx → Prop} {f : SFrame} {stk : List SFrame} {tl : Bx} (hT : Tl 0 23 tl) (hSk : Sk 23 f stk) (hs1 : lkp S 63 = some sSpN) (hs2 : lkp S 65 = some sInN) (hs3 : lkp S 66 = some sOutN) (hs4 : lkp S 68 = some sLotN) (hs5 : lkp S 59 = some sGoodN)
  (hi1 : lkp I 55 = some a55) (hi2 : lkp I 83 = some a83) (hi3 : lkp I 84 = some a84) (hi4 : lkp S 55 = none) (hi5 : lkp S 83 = none) (hi6 : lkp S 84 = none) (hi7 : lkp I 59 = none)
  (w : Wk) (hb : WkB w) (w1 : w.spathes.1 ≤ 9223372036854775807) (w2 : w.hours.1 ≤ 9223372036854775807) (w3 : w.lots.1 ≤ 9223372036854775807) (first : Nat) (hf : first ≤ w.spathes.1) (tk : Nat → Bool) (us : Nat → Int) (hU : ∀ q,q < w.lots.1 → 0 ≤ us q ∧ us q ≤ (w.lots.2 q).units) (M0 : Nat)
  (hK : ∀ (T : KSt) (M' : Nat),M0 ≤ M' → T.m ≤ 34 * w.spathes.1 + 10 * w.hours.1 + 2 * w.lots.1 → Knt (ntP w first tk us) (pdec w.spathes.1 w.hours.1) (P5 w first tk w.lots.1) T → runO (mkN G S I []) Q M' f.K stk f.res (fput f.fr f.d (.ptr (.n 26) 0)) ([(31,.fam (fun z => decide (z = (w.spathes.1 : Int))) fun _ => .cells (.cons (.int .i64 w.spathes.1) .nil)),(29,.row 150 2 T.m (edgC T)),(30,.fam (fun _ => true) fun z => .row 3 1 (T.ln z) fun i _ => .int .i64 (T.ix z i)),(27,.cells (.cons (.ptr (.n 26) 0) .nil)),(26,.cells (netL w 29 25 .nilm)),(25,.mz .i64 fun z => .own (.f 30 z)),(24,.cells (leftL (first : Int) tk us)),(23,.cells (.cons (.int .i64 w.day) (.cons (.view 3 w.spathes.1 fun a b => (w.spathes.2 a).c b) (.cons (.view 1 w.hours.1 fun a b => .int .i64 (w.hours.2 a)) (.cons (.view 4 w.lots.1 fun a b => (w.lots.2 a).c b) (.cons (.int .i64 w.opn) .nil))))))] ++ tl) 32) :
  runO (mkN G S I []) Q (M0 + 4000) [.code a57.code] (f :: stk) a57.res (params 0 [TWk.enc w,.agg (leftL first tk us)]) tl 23 := by
 simp only [a57,w1,w2,w3,vlen_left,isLB_left,vget_left0,↓reduceIte,reduceCtorEq,Nat.reduceEqDiff,Nat.reduceAdd,Nat.reduceSub,Nat.reduceLeDiff,Nat.reducePow,go_sem]
 have hS := hb.s
 have hH := hb.h
 have hL := hb.l
 refine loop_intro (ι := Nat × KSt) (fun s => first ≤ s.1 ∧ s.1 ≤ w.spathes.1 ∧ s.2.m ≤ 34 * s.1 ∧ Knt (ntP w first tk us) (pdec w.spathes.1 w.hours.1) (P1 w first s.1) s.2) (fun s => w.spathes.1 - s.1) (fun s => [(6,.ptr (.f 31 s.1) 0),(2,.ptr (.n 23) 0),(3,.ptr (.n 24) 0),(5,.ptr (.n 27) 0)])
  (fun s => [(31,.fam (fun z => decide (z = (s.1 : Int))) fun _ => .cells (.cons (.int .i64 s.1) .nil)),(29,.row 150 2 s.2.m (edgC s.2)),(30,.fam (fun _ => true) fun z => .row 3 1 (s.2.ln z) fun i _ => .int .i64 (s.2.ix z i)),(27,.cells (.cons (.ptr (.n 26) 0) .nil)),(26,.cells (netL w 29 25 .nilm)),(25,.mz .i64 fun z => .own (.f 30 z)),(24,.cells (leftL (first : Int) tk us)),(23,.cells (.cons (.int .i64 w.day) (.cons (.view 3 w.spathes.1 fun a b => (w.spathes.2 a).c b) (.cons (.view 1 w.hours.1 fun a b => .int .i64 (w.hours.2 a)) (.cons (.view 4 w.lots.1 fun a b => (w.lots.2 a).c b) (.cons (.int .i64 w.opn) .nil))))))] ++ tl) 3 (first,⟨0,fun _ => 0,fun _ => 0,fun _ => 0,fun _ _ => 0⟩) ⟨Nat.le_refl _,hf,Nat.zero_le _,Knt.start _ _ (P1_0 (Nat.le_refl _))⟩ (.inl ?_) fun s hs => ?_
 ·refine ChkF.renM [(.n 28,.f 31 first)] (fun p hp m hm => ?_) ?_
  ·skip
   obtain rfl := List.mem_singleton.1 hp
   first | exact Nat.le_trans (hSk.nx _ hm) (Nat.le_of_ble_eq_true rfl) | (simp only [stkNx,List.not_mem_nil] at hm; done) | (simp only [stkNx,List.mem_cons,List.not_mem_nil,or_false] at hm; first | (subst hm; exact Nat.le_of_ble_eq_true rfl) | (rcases hm with rfl | rfl <;> exact Nat.le_of_ble_eq_true rfl) | (rcases hm with rfl | rfl | rfl <;> exact Nat.le_of_ble_eq_true rfl) | (rcases hm with rfl | rfl | rfl | rfl <;> exact Nat.le_of_ble_eq_true rfl))
  ·simp only [netL,renV_left,vsub_left,isLB_left,vsub_nilm,false_and,List.cons_append,List.nil_append,Nat.not_lt_zero,hT.nf,hT.ck,hT.il,hT.kp,hT.rn,hT.dn,hT.bf,hT.an,hT.af,hT.xb,hT.xa,hT.xc,kept_app,↓reduceIte,reduceCtorEq,Nat.reduceEqDiff,Nat.reduceAdd,Nat.reduceLeDiff,Nat.reduceLT,go_sem]
   exact ⟨chkFam_cell (by simp only [hT.af,↓reduceIte,Nat.reduceLeDiff,go_sem]),chkFam_new fun z _ => ⟨by simp only [false_and,hT.af,↓reduceIte,Nat.reduceEqDiff,Nat.reduceLeDiff,go_sem],_,_,_,rfl,Nat.one_pos⟩⟩
 obtain ⟨j,T⟩ := s
 obtain ⟨hj1,hj2,hm,hKn⟩ := hs
 simp only at hj1 hj2 hm hKn
 have hln := hKn.le
 have hl0 := hln 0
 have hlj := hln (2 + (j : Int))
 have wm : IntKind.i64.wrap ((T.m : Int) + 1) = ((T.m + 1 : Nat) : Int) := by rw [wrS (by omega)]
 by_cases hjS : j < w.spathes.1
 ·have fj : ((j : Int) < (w.spathes.1 : Int)) = True := eq_true (by omega)
  have z3 : (2 + (j : Int) = 0) = False := eq_false (by omega)
  have z4 : (0 = 2 + (j : Int)) = False := eq_false (by omega)
  simp only [fj,z3,z4,wm,a55,a83,sSpN,a84,↓subBox_ite,subV_ite,↓noIt1_ite,ite_self,TNp,Np.Is,netL,subV_left,false_and,snapV,snapOk,snapL,snapOks,w1,w2,w3,hT.sn,hT.sf,hT.ni,hSk.fn,hSk.ff,hSk.sn,hSk.sf,hs1,hi1,hi2,hi3,hi4,hi6,↓imp_tt,↓imp_tf,↓reduceIte,reduceCtorEq,Nat.reduceEqDiff,Nat.reduceAdd,Nat.reduceSub,Nat.reduceLeDiff,Nat.reduceLT,Nat.reducePow,go_sem]
  refine ⟨by omega,by omega,by omega,by omega,by omega,by omega,by omega,by omega,fun g => ⟨by omega,?_⟩⟩
  refine loopI (ι := Nat × KSt) (fun s => s.1 ≤ w.hours.1 ∧ s.2.m ≤ 34 * j + 2 + 2 * s.1 ∧ Knt (ntP w first tk us) (pdec w.spathes.1 w.hours.1) (P2 w first j s.1) s.2) (fun s => w.hours.1 - s.1) [17,16,4,0,1] (fun s => [(18,.int .i64 s.1)])
   (fun s => [(29,.row 150 2 s.2.m (edgC s.2)),(30,.fam (fun _ => true) fun z => .row 3 1 (s.2.ln z) fun i _ => .int .i64 (s.2.ix z i)),(25,.mz .i64 fun z => .own (.f 30 z))]) (0,linkT T 0 (2 + j) 1) ⟨Nat.zero_le _,?_,?_⟩ ?_ fun s hs => ?_
  ·show T.m + 2 ≤ _; omega
  ·exact hKn.link (pcod (ntP w first tk us)) (x := .src) (y := .sp j) trivial (show j < w.spathes.1 from hjS) (fun e => by cases e) (by simp [P1,edgG]) rfl (by simp only [ntP,Nt.cap]; exact (if_pos ⟨hj1,hjS⟩).symm) (P2_0 hj1)
  ·skip
   simp only [vsub_left,isLB_left,vsub_nilm,false_and,Nat.not_lt_zero,hT.nf,hT.ck,hT.il,hT.kp,hT.xb,hT.xc,↓imp_tt,↓reduceIte,reduceCtorEq,Nat.reduceEqDiff,Nat.reduceLeDiff,Nat.reduceLT,go_sem]
   refine ⟨chkFam_cell (by simp only [↓reduceIte,go_sem]),rfl,edg_link (by omega) (by omega),fam_link (v := 2 + j) (V := 2 + (j : Int)) (u := 0) (U := 0) (by omega) (by omega) (by omega) fun z => ?_,fun k => ?_,?_⟩
   ·simp only [false_and,↓reduceIte,Nat.reduceEqDiff,go_sem]
   ·by_cases e1 : k = 2 + (j : Int)
    ·rw [if_pos e1,e1]; exact .inl rfl
    ·rw [if_neg e1]
     by_cases e2 : k = 0
     ·rw [if_pos e2,e2]; exact .inl rfl
     ·rw [if_neg e2,if_neg e2,if_neg e1]; exact .inl rfl
   ·exact fun z hz => ⟨_,if_pos hz⟩
  ·obtain ⟨h,T⟩ := s
   obtain ⟨hh1,hm,hKn⟩ := hs
   simp only at hh1 hm hKn
   have hln := hKn.le
   have hla := hln (2 + (j : Int))
   have hlb := hln (2 + (w.spathes.1 : Int) + 2 * (h : Int))
   by_cases hhH : h < w.hours.1
   ·have fh : ((h : Int) < (w.hours.1 : Int)) = True := eq_true (by omega)
    have wm : IntKind.i64.wrap ((T.m : Int) + 1) = ((T.m + 1 : Nat) : Int) := by rw [wrS (by omega)]
    have y1 : (2 + (w.spathes.1 : Int) + 2 * (h : Int) = 2 + (j : Int)) = False := eq_false (by omega)
    have y2 : (2 + (j : Int) = 2 + (w.spathes.1 : Int) + 2 * (h : Int)) = False := eq_false (by omega)
    have wo : IntKind.i64.wrap ((w.spathes.2 j).cracks.lo + w.opn) = (w.spathes.2 j).cracks.lo + w.opn := wr64 (by have := hb.c j (by omega); have := hb.o; omega) (by have := hb.c j (by omega); have := hb.o; omega)
    by_cases t1 : (w.spathes.2 j).cracks.hi ≤ w.hours.2 h
    ·have g1 : ((w.spathes.2 j).cracks.hi ≤ w.hours.2 h) = True := eq_true t1
     by_cases t2 : w.hours.2 h < (w.spathes.2 j).cracks.lo + w.opn
     ·have g2 : (w.hours.2 h < (w.spathes.2 j).cracks.lo + w.opn) = True := eq_true t2
      have ht : takesF w j h = true := decide_eq_true ⟨t1,t2⟩
      simp only [fh,g1,g2,wo,wm,y1,y2,sSpN,sInN,a84,↓subBox_ite,subV_ite,↓noIt1_ite,ite_self,TNp,Np.Is,Np.of,subV_left,false_and,snapV,snapOk,snapL,snapOks,hT.sn,hT.sf,hT.ni,hSk.fn,hSk.ff,hSk.sn,hSk.sf,hs1,hs2,hi3,hi6,↓imp_tt,↓imp_tf,↓imp_ft,↓imp_ff,↓reduceIte,reduceCtorEq,Nat.reduceEqDiff,Nat.reduceAdd,Nat.reduceSub,Nat.reduceLeDiff,Nat.reduceLT,Nat.reducePow,go_sem]
      refine ⟨by omega,by omega,by omega,by omega,by omega,by omega,by omega,by omega,by omega,by omega,by omega,by omega,?_⟩
      refine inv_intro (h + 1,linkT T (2 + j) (2 + w.spathes.1 + 2 * h) 1) ⟨hhH,?_,?_⟩ (by simp only; omega) ?_
      ·show T.m + 2 ≤ _; omega
      ·exact hKn.link (pcod (ntP w first tk us)) (x := .sp j) (y := .hi h) (show j < w.spathes.1 from hjS) (show h < w.hours.1 from hhH) (fun e => by cases e) (by simp [P2,edgG]) rfl (by simp only [ntP,Nt.cap]; exact (if_pos ⟨hj1,hjS,hhH,ht⟩).symm) (P2_t ht)
      ·skip
       simp only [vsub_left,isLB_left,vsub_nilm,false_and,Nat.not_lt_zero,hT.nn,hT.nf,hT.ck,hT.il,hT.kp,hT.xb,hT.xc,↓imp_tt,↓reduceIte,reduceCtorEq,Nat.reduceEqDiff,Nat.reduceLeDiff,Nat.reduceLT,go_sem]
       refine ⟨wrS (by omega),chkFam_cell (by simp only [↓reduceIte,go_sem]),rfl,edg_link (by omega) (by omega),fam_link (v := 2 + w.spathes.1 + 2 * h) (V := 2 + (w.spathes.1 : Int) + 2 * (h : Int)) (u := 2 + j) (U := 2 + (j : Int)) (by omega) (by omega) (by omega) fun z => ?_,fun k => ?_,?_⟩
       ·simp only [false_and,↓reduceIte,Nat.reduceEqDiff,go_sem]
       ·by_cases e1 : k = 2 + (w.spathes.1 : Int) + 2 * (h : Int)
        ·rw [if_pos e1,e1]; exact .inl rfl
        ·rw [if_neg e1]
         by_cases e2 : k = 2 + (j : Int)
         ·rw [if_pos e2,e2]; exact .inl rfl
         ·rw [if_neg e2,if_neg e2,if_neg e1]; exact .inl rfl
       ·exact fun z hz => ⟨_,if_pos hz⟩
     ·have g2 : (w.hours.2 h < (w.spathes.2 j).cracks.lo + w.opn) = False := eq_false t2
      have ht : takesF w j h = false := decide_eq_false fun e => t2 e.2
      simp only [fh,g1,g2,wo,↓imp_tt,↓imp_tf,↓imp_ft,↓imp_ff,↓reduceIte,reduceCtorEq,Nat.reduceEqDiff,Nat.reduceAdd,Nat.reduceLeDiff,go_sem]
      refine ⟨by omega,?_⟩
      refine inv_intro (h + 1,T) ⟨hhH,by simp only; omega,hKn.same (P2_f ht)⟩ (by simp only; omega) ?_
      simp only [vsub_left,isLB_left,vsub_nilm,false_and,Nat.not_lt_zero,hT.nf,hT.ck,hT.il,hT.kp,hT.xb,hT.xc,↓imp_tt,↓reduceIte,reduceCtorEq,Nat.reduceEqDiff,Nat.reduceLeDiff,Nat.reduceLT,go_sem]
      exact ⟨wrS (by omega),chkFam_cell (by simp only [↓reduceIte,go_sem]),chkFam_self fun z _ => by simp only [false_and,↓reduceIte,Nat.reduceEqDiff,go_sem],fun z hz => ⟨_,if_pos hz⟩⟩
    ·have g1 : ((w.spathes.2 j).cracks.hi ≤ w.hours.2 h) = False := eq_false t1
     have ht : takesF w j h = false := decide_eq_false fun e => t1 e.1
     simp only [fh,g1,↓imp_tt,↓imp_tf,↓imp_ft,↓imp_ff,↓reduceIte,reduceCtorEq,Nat.reduceEqDiff,Nat.reduceAdd,go_sem]
     refine ⟨by omega,?_⟩
     refine inv_intro (h + 1,T) ⟨hhH,by simp only; omega,hKn.same (P2_f ht)⟩ (by simp only; omega) ?_
     simp only [vsub_left,isLB_left,vsub_nilm,false_and,Nat.not_lt_zero,hT.nf,hT.ck,hT.il,hT.kp,hT.xb,hT.xc,↓imp_tt,↓reduceIte,reduceCtorEq,Nat.reduceEqDiff,Nat.reduceLeDiff,Nat.reduceLT,go_sem]
     exact ⟨wrS (by omega),chkFam_cell (by simp only [↓reduceIte,go_sem]),chkFam_self fun z _ => by simp only [false_and,↓reduceIte,Nat.reduceEqDiff,go_sem],fun z hz => ⟨_,if_pos hz⟩⟩
   ·have fh : ((h : Int) < (w.hours.1 : Int)) = False := eq_false (by omega)
    obtain rfl : h = w.hours.1 := by omega
    simp only [fh,subV_left,hT.sn,hT.dn,hSk.fn,hSk.sn,↓imp_ft,↓imp_ff,↓reduceIte,reduceCtorEq,Nat.reduceEqDiff,Nat.reduceAdd,Nat.reduceLeDiff,go_sem]
    refine inv_renM [(.n 39,.f 31 (j + 1 : Nat))] (j + 1,T) (fun p hp m hm => ?_) ⟨by omega,by omega,by simp only; omega,hKn.same (P1_s hj1)⟩ (by simp only; omega) ?_
    ·skip
     obtain rfl := List.mem_singleton.1 hp
     first | exact Nat.le_trans (hSk.nx _ hm) (Nat.le_of_ble_eq_true rfl) | (simp only [stkNx,List.not_mem_nil] at hm; done) | (simp only [stkNx,List.mem_cons,List.not_mem_nil,or_false] at hm; first | (subst hm; exact Nat.le_of_ble_eq_true rfl) | (rcases hm with rfl | rfl <;> exact Nat.le_of_ble_eq_true rfl) | (rcases hm with rfl | rfl | rfl <;> exact Nat.le_of_ble_eq_true rfl) | (rcases hm with rfl | rfl | rfl | rfl <;> exact Nat.le_of_ble_eq_true rfl))
    ·have hjj : (((j + 1 : Nat) : Int) = (j : Int)) = False := eq_false (by omega)
     have hjk : ((j : Int) = ((j + 1 : Nat) : Int)) = False := eq_false (by omega)
     have wj : IntKind.i64.wrap ((j : Int) + 1) = ((j + 1 : Nat) : Int) := by rw [wrS (by omega)]
     simp only [wj,hjj,renV_left,vsub_left,isLB_left,vsub_nilm,false_and,Nat.not_lt_zero,hT.nn,hT.nf,hT.ck,hT.il,hT.kp,hT.rn,hT.dn,hT.xb,hT.xc,↓imp_tt,↓reduceIte,reduceCtorEq,Nat.reduceEqDiff,Nat.reduceLeDiff,Nat.reduceLT,go_sem]
     exact ⟨chkFam_cell (by simp only [↓reduceIte,go_sem]),chkFam_self fun z _ => by simp only [false_and,↓reduceIte,Nat.reduceEqDiff,go_sem]⟩
 ·have fj : ((j : Int) < (w.spathes.1 : Int)) = False := eq_false (by omega)
  obtain rfl : j = w.spathes.1 := by omega
  simp only [fj,netL,w1,w2,↓imp_ft,↓imp_ff,↓reduceIte,Nat.reduceEqDiff,Nat.reduceAdd,Nat.reduceSub,Nat.reduceLeDiff,Nat.reducePow,go_sem]
  refine loopI (ι := Nat × KSt) (fun s => s.1 ≤ w.hours.1 ∧ s.2.m ≤ 34 * w.spathes.1 + 10 * s.1 ∧ Knt (ntP w first tk us) (pdec w.spathes.1 w.hours.1) (P3 w first tk s.1) s.2) (fun s => w.hours.1 - s.1) [2,3,5,47] (fun s => [(48,.int .i64 s.1)])
   (fun s => [(29,.row 150 2 s.2.m (edgC s.2)),(30,.fam (fun _ => true) fun z => .row 3 1 (s.2.ln z) fun i _ => .int .i64 (s.2.ix z i)),(25,.mz .i64 fun z => .own (.f 30 z))]) (0,T) ⟨Nat.zero_le _,by simp only; omega,hKn.same P3_0⟩ ?_ fun s hs => ?_
  ·skip
   simp only [vsub_left,isLB_left,vsub_nilm,false_and,Nat.not_lt_zero,hT.nf,hT.ck,hT.il,hT.kp,hT.xb,hT.xc,↓imp_tt,↓reduceIte,reduceCtorEq,Nat.reduceEqDiff,Nat.reduceLeDiff,Nat.reduceLT,go_sem]
   exact ⟨chkFam_cell (by simp only [↓reduceIte,go_sem]),chkFam_self fun z _ => by simp only [false_and,↓reduceIte,Nat.reduceEqDiff,go_sem],fun z hz => ⟨_,if_pos hz⟩⟩
  obtain ⟨h,T⟩ := s
  obtain ⟨hh1,hm,hKn⟩ := hs
  simp only at hh1 hm hKn
  have wm : IntKind.i64.wrap ((T.m : Int) + 1) = ((T.m + 1 : Nat) : Int) := by rw [wrS (by omega)]
  by_cases hhH : h < w.hours.1
  ·have fh : ((h : Int) < (w.hours.1 : Int)) = True := eq_true (by omega)
   have htk : vget (leftL (first : Int) tk us) (1 + h) = .bool (tk h) := vget_leftT (by have := hb.h; omega)
   have htk2 : vget (leftL (first : Int) tk us) (h + 1) = .bool (tk h) := by rw [Nat.add_comm]; exact htk
   cases hk : tk h with
   | true =>
    rw [hk] at htk htk2
    simp only [fh,htk,vlen_left,↓imp_tt,↓imp_tf,↓reduceIte,Nat.reduceEqDiff,Nat.reduceLeDiff,go_sem]
    refine ⟨by omega,by have := hb.h; omega,by have := hb.h; omega,?_⟩
    refine inv_intro (h + 1,T) ⟨hhH,by simp only; omega,hKn.same (P3_f hk)⟩ (by simp only; omega) ?_
    simp only [vsub_left,isLB_left,vsub_nilm,false_and,Nat.not_lt_zero,hT.nf,hT.ck,hT.il,hT.kp,hT.xb,hT.xc,↓imp_tt,↓reduceIte,reduceCtorEq,Nat.reduceEqDiff,Nat.reduceLeDiff,Nat.reduceLT,go_sem]
    exact ⟨wrS (by omega),chkFam_cell (by simp only [↓reduceIte,go_sem]),chkFam_self fun z _ => by simp only [false_and,↓reduceIte,Nat.reduceEqDiff,go_sem],fun z hz => ⟨_,if_pos hz⟩⟩
   | false =>
    rw [hk] at htk htk2
    have hln := hKn.le
    have hla := hln (2 + (w.spathes.1 : Int) + 2 * (h : Int))
    have hlb := hln (2 + (w.spathes.1 : Int) + 2 * (h : Int) + 1)
    have y1 : (2 + (w.spathes.1 : Int) + 2 * (h : Int) + 1 = 2 + (w.spathes.1 : Int) + 2 * (h : Int)) = False := eq_false (by omega)
    have y2 : (2 + (w.spathes.1 : Int) + 2 * (h : Int) = 2 + (w.spathes.1 : Int) + 2 * (h : Int) + 1) = False := eq_false (by omega)
    simp only [fh,htk,wm,y1,y2,sInN,sOutN,a84,↓subBox_ite,subV_ite,↓noIt1_ite,ite_self,TNp,Np.Is,Np.of,vlen_left,subV_left,false_and,snapV,snapOk,snapL,snapOks,w3,hT.sn,hT.sf,hT.ni,hSk.fn,hSk.ff,hSk.sn,hSk.sf,hs2,hs3,hi3,hi6,↓imp_tt,↓imp_tf,↓imp_ft,↓imp_ff,↓reduceIte,reduceCtorEq,Nat.reduceEqDiff,Nat.reduceAdd,Nat.reduceSub,Nat.reduceLeDiff,Nat.reduceLT,Nat.reducePow,go_sem]
    have hb1 := hb.h
    have hb2 := hb.s
    have hb3 := hb.l
    refine ⟨by omega,by omega,by omega,by omega,by omega,by omega,by omega,by omega,by omega,by omega,by omega,by omega,by omega,by omega,by omega,?_⟩
    refine loopI (ι := Nat × KSt) (fun s => s.1 ≤ w.lots.1 ∧ s.2.m ≤ 34 * w.spathes.1 + 10 * h + 2 + 2 * s.1 ∧ Knt (ntP w first tk us) (pdec w.spathes.1 w.hours.1) (P4 w first tk h s.1) s.2) (fun s => w.lots.1 - s.1) [2,3,5,8,47,48,66] (fun s => [(67,.int .i64 s.1)])
     (fun s => [(29,.row 150 2 s.2.m (edgC s.2)),(30,.fam (fun _ => true) fun z => .row 3 1 (s.2.ln z) fun i _ => .int .i64 (s.2.ix z i)),(25,.mz .i64 fun z => .own (.f 30 z))]) (0,linkT T (2 + w.spathes.1 + 2 * h) (2 + w.spathes.1 + 2 * h + 1) 1) ⟨Nat.zero_le _,?_,?_⟩ ?_ fun s hs => ?_
    ·show T.m + 2 ≤ _; omega
    ·exact hKn.link (pcod (ntP w first tk us)) (x := .hi h) (y := .ho h) (show h < w.hours.1 from hhH) (show h < w.hours.1 from hhH) (fun e => by cases e) (by simp [P3,edgG]) rfl (by simp [ntP,Nt.cap,hhH,hk]) (P4_0 hk)
    ·skip
     simp only [vsub_left,isLB_left,vsub_nilm,false_and,Nat.not_lt_zero,hT.nf,hT.ck,hT.il,hT.kp,hT.xb,hT.xc,↓imp_tt,↓reduceIte,reduceCtorEq,Nat.reduceEqDiff,Nat.reduceLeDiff,Nat.reduceLT,go_sem]
     refine ⟨chkFam_cell (by simp only [↓reduceIte,go_sem]),rfl,edg_link (by omega) (by omega),fam_link (v := 2 + w.spathes.1 + 2 * h + 1) (V := 2 + (w.spathes.1 : Int) + 2 * (h : Int) + 1) (u := 2 + w.spathes.1 + 2 * h) (U := 2 + (w.spathes.1 : Int) + 2 * (h : Int)) (by omega) (by omega) (by omega) fun z => ?_,fun k => ?_,?_⟩
     ·simp only [false_and,↓reduceIte,Nat.reduceEqDiff,go_sem]
     ·by_cases e1 : k = 2 + (w.spathes.1 : Int) + 2 * (h : Int) + 1
      ·rw [if_pos e1,e1]; exact .inl rfl
      ·rw [if_neg e1]
       by_cases e2 : k = 2 + (w.spathes.1 : Int) + 2 * (h : Int)
       ·rw [if_pos e2,e2]; exact .inl rfl
       ·rw [if_neg e2,if_neg e2,if_neg e1]; exact .inl rfl
     ·exact fun z hz => ⟨_,if_pos hz⟩
    ·obtain ⟨q,T⟩ := s
     obtain ⟨hq1,hm,hKn⟩ := hs
     simp only at hq1 hm hKn
     have hln := hKn.le
     have hla := hln (2 + (w.spathes.1 : Int) + 2 * (h : Int) + 1)
     have hlb := hln (2 + (w.spathes.1 : Int) + 2 * (w.hours.1 : Int) + (q : Int))
     have wm : IntKind.i64.wrap ((T.m : Int) + 1) = ((T.m + 1 : Nat) : Int) := by rw [wrS (by omega)]
     by_cases hqL : q < w.lots.1
     ·have fq : ((q : Int) < (w.lots.1 : Int)) = True := eq_true (by omega)
      have y1 : (2 + (w.spathes.1 : Int) + 2 * (w.hours.1 : Int) + (q : Int) = 2 + (w.spathes.1 : Int) + 2 * (h : Int) + 1) = False := eq_false (by omega)
      have y2 : (2 + (w.spathes.1 : Int) + 2 * (h : Int) + 1 = 2 + (w.spathes.1 : Int) + 2 * (w.hours.1 : Int) + (q : Int)) = False := eq_false (by omega)
      cases hg : goodF w h q with
      | true =>
       simp only [fq,hg,wm,y1,y2,sOutN,sLotN,sGoodN,Int.toNat_natCast,a84,↓subBox_ite,subV_ite,↓noIt1_ite,ite_self,TNp,Np.Is,Np.of,subV_left,false_and,snapV,snapOk,snapL,snapOks,w1,w2,w3,hT.sn,hT.sf,hT.ni,hSk.fn,hSk.ff,hSk.sn,hSk.sf,hs3,hs4,hs5,hi3,hi6,hi7,↓imp_tt,↓imp_tf,↓reduceIte,reduceCtorEq,Nat.reduceEqDiff,Nat.reduceAdd,Nat.reduceSub,Nat.reduceLeDiff,Nat.reduceLT,Nat.reducePow,go_sem]
       refine ⟨by omega,by omega,by omega,by omega,by omega,by omega,by omega,by omega,by omega,by omega,by omega,by omega,by omega,by omega,by omega,by omega,?_⟩
       refine inv_intro (q + 1,linkT T (2 + w.spathes.1 + 2 * h + 1) (2 + w.spathes.1 + 2 * w.hours.1 + q) 1) ⟨hqL,?_,?_⟩ (by simp only; omega) ?_
       ·show T.m + 2 ≤ _; omega
       ·exact hKn.link (pcod (ntP w first tk us)) (x := .ho h) (y := .lt q) (show h < w.hours.1 from hhH) (show q < w.lots.1 from hqL) (fun e => by cases e) (by simp [P4,edgG]) rfl (by simp [ntP,Nt.cap,hhH,hqL,hk,hg]) (P4_t hg)
       ·skip
        simp only [vsub_left,isLB_left,vsub_nilm,false_and,Nat.not_lt_zero,hT.nn,hT.nf,hT.ck,hT.il,hT.kp,hT.xb,hT.xc,↓imp_tt,↓reduceIte,reduceCtorEq,Nat.reduceEqDiff,Nat.reduceLeDiff,Nat.reduceLT,go_sem]
        refine ⟨wrS (by omega),chkFam_cell (by simp only [↓reduceIte,go_sem]),rfl,edg_link (by omega) (by omega),fam_link (v := 2 + w.spathes.1 + 2 * w.hours.1 + q) (V := 2 + (w.spathes.1 : Int) + 2 * (w.hours.1 : Int) + (q : Int)) (u := 2 + w.spathes.1 + 2 * h + 1) (U := 2 + (w.spathes.1 : Int) + 2 * (h : Int) + 1) (by omega) (by omega) (by omega) fun z => ?_,fun k => ?_,?_⟩
        ·simp only [false_and,↓reduceIte,Nat.reduceEqDiff,go_sem]
        ·by_cases e1 : k = 2 + (w.spathes.1 : Int) + 2 * (w.hours.1 : Int) + (q : Int)
         ·rw [if_pos e1,e1]; exact .inl rfl
         ·rw [if_neg e1]
          by_cases e2 : k = 2 + (w.spathes.1 : Int) + 2 * (h : Int) + 1
          ·rw [if_pos e2,e2]; exact .inl rfl
          ·rw [if_neg e2,if_neg e2,if_neg e1]; exact .inl rfl
        ·exact fun z hz => ⟨_,if_pos hz⟩
      | false =>
       simp only [fq,hg,sGoodN,Int.toNat_natCast,w1,w2,w3,hs5,hi7,↓imp_tt,↓imp_tf,↓imp_ft,↓imp_ff,↓reduceIte,reduceCtorEq,Nat.reduceEqDiff,Nat.reduceAdd,Nat.reduceSub,Nat.reducePow,go_sem]
       refine ⟨by omega,by omega,by omega,?_⟩
       refine inv_intro (q + 1,T) ⟨hqL,by simp only; omega,hKn.same (P4_f hg)⟩ (by simp only; omega) ?_
       simp only [vsub_left,isLB_left,vsub_nilm,false_and,Nat.not_lt_zero,hT.nf,hT.ck,hT.il,hT.kp,hT.xb,hT.xc,↓imp_tt,↓reduceIte,reduceCtorEq,Nat.reduceEqDiff,Nat.reduceLeDiff,Nat.reduceLT,go_sem]
       exact ⟨wrS (by omega),chkFam_cell (by simp only [↓reduceIte,go_sem]),chkFam_self fun z _ => by simp only [false_and,↓reduceIte,Nat.reduceEqDiff,go_sem],fun z hz => ⟨_,if_pos hz⟩⟩
     ·have fq : ((q : Int) < (w.lots.1 : Int)) = False := eq_false (by omega)
      obtain rfl : q = w.lots.1 := by omega
      simp only [fq,↓imp_ft,↓imp_ff,↓reduceIte,Nat.reduceEqDiff,go_sem]
      refine inv_intro (h + 1,T) ⟨hhH,by simp only; omega,hKn.same (P3_s hk)⟩ (by simp only; omega) ?_
      simp only [vsub_left,isLB_left,vsub_nilm,false_and,Nat.not_lt_zero,hT.nn,hT.nf,hT.ck,hT.il,hT.kp,hT.xb,hT.xc,↓imp_tt,↓reduceIte,reduceCtorEq,Nat.reduceEqDiff,Nat.reduceLeDiff,Nat.reduceLT,go_sem]
      exact ⟨wrS (by omega),chkFam_cell (by simp only [↓reduceIte,go_sem]),chkFam_self fun z _ => by simp only [false_and,↓reduceIte,Nat.reduceEqDiff,go_sem],fun z hz => ⟨_,if_pos hz⟩⟩
  ·have fh : ((h : Int) < (w.hours.1 : Int)) = False := eq_false (by omega)
   obtain rfl : h = w.hours.1 := by omega
   simp only [fh,w3,↓imp_ft,↓imp_ff,↓reduceIte,Nat.reduceEqDiff,Nat.reduceAdd,Nat.reduceSub,Nat.reduceLeDiff,Nat.reducePow,go_sem]
   refine loopI (ι := Nat × KSt) (fun s => s.1 ≤ w.lots.1 ∧ s.2.m ≤ 34 * w.spathes.1 + 10 * w.hours.1 + 2 * s.1 ∧ Knt (ntP w first tk us) (pdec w.spathes.1 w.hours.1) (P5 w first tk s.1) s.2) (fun s => w.lots.1 - s.1) [2,3,5,86,87] (fun s => [(88,.int .i64 s.1)])
    (fun s => [(29,.row 150 2 s.2.m (edgC s.2)),(30,.fam (fun _ => true) fun z => .row 3 1 (s.2.ln z) fun i _ => .int .i64 (s.2.ix z i)),(25,.mz .i64 fun z => .own (.f 30 z))]) (0,T) ⟨Nat.zero_le _,by simp only; omega,hKn.same P5_0⟩ ?_ fun s hs => ?_
   ·skip
    simp only [vsub_left,isLB_left,vsub_nilm,false_and,Nat.not_lt_zero,hT.nf,hT.ck,hT.il,hT.kp,hT.xb,hT.xc,↓imp_tt,↓reduceIte,reduceCtorEq,Nat.reduceEqDiff,Nat.reduceLeDiff,Nat.reduceLT,go_sem]
    exact ⟨chkFam_cell (by simp only [↓reduceIte,go_sem]),chkFam_self fun z _ => by simp only [false_and,↓reduceIte,Nat.reduceEqDiff,go_sem],fun z hz => ⟨_,if_pos hz⟩⟩
   obtain ⟨q,T⟩ := s
   obtain ⟨hq1,hm,hKn⟩ := hs
   simp only at hq1 hm hKn
   have hln := hKn.le
   have hla := hln 1
   have hlb := hln (2 + (w.spathes.1 : Int) + 2 * (w.hours.1 : Int) + (q : Int))
   have wm : IntKind.i64.wrap ((T.m : Int) + 1) = ((T.m + 1 : Nat) : Int) := by rw [wrS (by omega)]
   by_cases hqL : q < w.lots.1
   ·have fq : ((q : Int) < (w.lots.1 : Int)) = True := eq_true (by omega)
    have y1 : (2 + (w.spathes.1 : Int) + 2 * (w.hours.1 : Int) + (q : Int) = 1) = False := eq_false (by omega)
    have y2 : (1 = 2 + (w.spathes.1 : Int) + 2 * (w.hours.1 : Int) + (q : Int)) = False := eq_false (by omega)
    have hus : vget (leftL (first : Int) tk us) (17 + q) = .int .i64 (us q) := vget_leftU (by have := hb.l; omega)
    have hus2 : vget (leftL (first : Int) tk us) (q + 17) = .int .i64 (us q) := by rw [Nat.add_comm]; exact hus
    have wu : IntKind.i64.wrap ((w.lots.2 q).units - us q) = (w.lots.2 q).units - us q := wr64 (by have := hb.u q hqL; have := hU q hqL; omega) (by have := hb.u q hqL; have := hU q hqL; omega)
    simp only [fq,hus,wu,wm,y1,y2,sLotN,a84,↓subBox_ite,subV_ite,↓noIt1_ite,ite_self,TNp,Np.Is,Np.of,vlen_left,subV_left,false_and,snapV,snapOk,snapL,snapOks,hT.sn,hT.sf,hT.ni,hSk.fn,hSk.ff,hSk.sn,hSk.sf,hs4,hi3,hi6,↓imp_tt,↓imp_tf,↓reduceIte,reduceCtorEq,Nat.reduceEqDiff,Nat.reduceAdd,Nat.reduceSub,Nat.reduceLeDiff,Nat.reduceLT,Nat.reducePow,go_sem]
    have hb1 := hb.h
    have hb2 := hb.s
    have hb3 := hb.l
    refine ⟨by omega,by omega,by omega,by omega,by omega,by omega,by omega,by omega,by omega,by omega,by omega,by omega,by omega,by omega,?_⟩
    refine inv_intro (q + 1,linkT T (2 + w.spathes.1 + 2 * w.hours.1 + q) 1 ((w.lots.2 q).units - us q)) ⟨hqL,?_,?_⟩ (by simp only; omega) ?_
    ·show T.m + 2 ≤ _; omega
    ·exact hKn.link (pcod (ntP w first tk us)) (x := .lt q) (y := .snk) (show q < w.lots.1 from hqL) trivial (fun e => by cases e) (by simp [P5,edgG]) rfl (by simp [ntP,Nt.cap,hqL]) P5_s
    ·skip
     simp only [vsub_left,isLB_left,vsub_nilm,false_and,Nat.not_lt_zero,hT.nn,hT.nf,hT.ck,hT.il,hT.kp,hT.xb,hT.xc,↓imp_tt,↓reduceIte,reduceCtorEq,Nat.reduceEqDiff,Nat.reduceLeDiff,Nat.reduceLT,go_sem]
     refine ⟨wrS (by omega),chkFam_cell (by simp only [↓reduceIte,go_sem]),rfl,edg_link (by omega) (by omega),fam_link (v := 1) (V := 1) (u := 2 + w.spathes.1 + 2 * w.hours.1 + q) (U := 2 + (w.spathes.1 : Int) + 2 * (w.hours.1 : Int) + (q : Int)) (by omega) (by omega) (by omega) fun z => ?_,fun k => ?_,?_⟩
     ·simp only [false_and,↓reduceIte,Nat.reduceEqDiff,go_sem]
     ·by_cases e1 : k = 1
      ·rw [if_pos e1,e1]; exact .inl rfl
      ·rw [if_neg e1]
       by_cases e2 : k = 2 + (w.spathes.1 : Int) + 2 * (w.hours.1 : Int) + (q : Int)
       ·rw [if_pos e2,e2]; exact .inl rfl
       ·rw [if_neg e2,if_neg e2,if_neg e1]; exact .inl rfl
     ·exact fun z hz => ⟨_,if_pos hz⟩
   ·have fq : ((q : Int) < (w.lots.1 : Int)) = False := eq_false (by omega)
    obtain rfl : q = w.lots.1 := by omega
    simp only [fq,↓imp_ft,↓imp_ff,↓reduceIte,Nat.reduceEqDiff,go_sem]
    exact hK T _ (by omega) (by omega) hKn
end Go.Proofs.Ytlapepdhkomijaa
