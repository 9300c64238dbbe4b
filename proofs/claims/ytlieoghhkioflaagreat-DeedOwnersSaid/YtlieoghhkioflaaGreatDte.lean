/- Deeds: a deed is tried, walked. No condition but bounds. -/
import Derived.Test.YtlieoghhkioflaaGreatDdh
import Derived.Test.YtlieoghhkioflaaGreatDr6
import Derived.Test.YtlieoghhkioflaaGreatDpq
set_option linter.unusedSimpArgs false
set_option linter.unusedVariables false
set_option maxRecDepth 100000
namespace Go.Proofs.YtlieoghhkioflaaGreat
open Go Go.RowKit
variable {b : Bk} {x : De} {has : Int -> Bool} {mf : Int -> Ae} {d p : Nat}
variable {G : Nat -> Option (Nat × (Nat -> Ae))}
structure Py (p : Nat) (has : Int -> Bool) (mf : Int -> Ae) (b : Bk) : Prop where
 m : ∀ k,has k = true -> mf k = .bool true
 p : ∀ v k,Be (.n p) v (mf k) = mf k
 e : ∀ k : Int,0 <= k -> k <= 9999 -> has k = b.de.2 k.toNat
theorem Py.same {b' : Bk} (h : Py p has mf b) (e : b'.de = b.de) : Py p has mf b' := ⟨h.m,h.p,fun k h1 h2 => by rw [e]; exact h.e k h1 h2⟩
theorem Py.dies (h : Py p has mf b) (h1 : 1 <= x.fro) (h2 : x.fro <= 9999) : Py p (H6 has x.fro) (Pg mf x.fro) (FH b x) := by
 refine ⟨fun k hk => ?_,fun v k => ?_,fun k k1 k2 => ?_⟩
 ·unfold H6 at hk
  unfold Pg
  by_cases e : k = x.fro
  ·rw [if_pos e]
  rw [if_neg e] at hk ⊢; exact h.m k hk
 ·unfold Pg
  split
  ·rfl
  exact h.p v k
 show H6 has x.fro k = Fm b x k.toNat
 unfold H6 Fm
 by_cases e : k = x.fro
 ·rw [if_pos e,if_pos (by rw [e])]
 rw [if_neg e,if_neg (by omega)]; exact h.e k k1 k2
theorem EC.two {bx bx' : Bx} (h : EC p bx bx') : It p d bx bx' := fun y v h1 _ hb => h y v h1 hb
theorem It.pre {b1 b2 b3 : Bx} (h : EC p b1 b2) (k : It p d b2 b3) : It p d b1 b3 := fun y v h1 h2 hb => k y v h1 h2 (h y v h1 hb)
theorem VD (h : x.kind ≠ 3) : (K7 b x).de = b.de := by
 unfold K7
 rw [if_neg h]
 split
 ·rfl
 split
 ·rfl
 split <;> rfl
theorem SF (h : x.kind ≠ 3) : (FN b x).de = b.de := by
 unfold FN
 split
 ·exact VD h
 rfl
set_option maxHeartbeats 4000000 in
theorem T5 {Q : Ae -> Bx -> Prop} {r : Ro} {z N : Nat} {P : Pz} {bx : Bx} {nx : Nat} {f : Au} {stk : List Au} {B : Nat} (hB : 6000 <= B) (hs : D5 r z p d P has mf bx nx) (hk : By N P) (hN : N <= 23040) (hNr : (N : Int) = 1440 * r.days) (hr : Rp P b) (hbN : LO b N) (hx : DG r x) (hit : noIt (.n d) bx) (hD : Py p has mf b) (HS : ∀ v,AD (.n p) v stk = stk) (HF : ∀ v,AP (.n p) v f.fr = f.fr)
  (hK : ∀ B' bx' nx' has' mf',B <= B' + 6000 -> D5 r z p d (EG P b x) has' mf' bx' nx' -> Py p has' mf' (FN b x) -> It p d bx bx' -> nx <= nx' -> Az (Hx G) Q B' f.K stk f.res (Ah f.fr f.d (.int .u8 (CB b x))) bx' nx') :
  Az (Hx G) Q B [.code Su.code] (f :: stk) Su.res (params 0 [.ptr (.n z) 0,.agg x.L]) bx nx := by
 obtain ⟨B,rfl⟩ : ∃ m,B = m + 5990 := ⟨B - 5990,by omega⟩
 have hz := hs.hz; have hp := hs.hp; have hd := hs.hd; have zn := hs.zn; have pn := hs.pn; have dn := hs.dn; have zp := hs.zp; have dp := hs.dp; have zd := hs.zd
 have n1 : (nx = z) = False := eq_false (by omega)
 have n2 : (nx = p) = False := eq_false (by omega)
 have n3 : (nx = d) = False := eq_false (by omega)
 have n4 : (nx + 1 = z) = False := eq_false (by omega)
 have n5 : (nx + 1 = p) = False := eq_false (by omega)
 have n6 : (nx + 1 = d) = False := eq_false (by omega)
 have n7 : (nx + 1 = nx) = False := eq_false (by omega)
 have m1 : (z = nx) = False := eq_false (by omega)
 have m2 : (p = nx) = False := eq_false (by omega)
 have m3 : (d = nx) = False := eq_false (by omega)
 have m4 : (z = nx + 1) = False := eq_false (by omega)
 have m5 : (p = nx + 1) = False := eq_false (by omega)
 have m6 : (d = nx + 1) = False := eq_false (by omega)
 have m7 : (nx = nx + 1) = False := eq_false (by omega)
 have hpk : ∀ k,E2 (has k) (mf k) (.bool false) = .bool (has k) := fun k => by
  cases e : has k with
  | false => rfl
  | true => rw [hD.m k e]; rfl
 obtain ⟨x1,x2,x3,x4,x5,x6,x7⟩ := id hx
 have q1 := hD.e x.fro (by omega) (by omega)
 have tw : 0 <= x.tow /\ x.tow <= 9999 := by
  rcases x7 with h | h | h | h
  ·obtain ⟨_,⟨h1,h2,_⟩,_⟩ := h; omega
  ·obtain ⟨_,_,h1,_⟩ := h; omega
  ·obtain ⟨_,_,h1,_⟩ := h; omega
  obtain ⟨_,⟨h1,h2,_⟩,_⟩ := h; omega
 have q2 := hD.e x.tow tw.1 tw.2
 have hlw : (x.heirs.1 <= 9223372036854775807) = True := eq_true (by have := hx.heirs; omega)
 have hs1 := hs.cons (c := .cells x.L) fun _ => rfl
 have hfw : ∀ {P' : Pz} {has' : Int -> Bool} {mf' : Int -> Ae} {bx1 : Bx} {nx1 g : Nat} {w : Int} {c : Cq},D5 r z p d P' has' mf' bx1 nx1 -> nx + 1 < nx1 -> It p d ((nx + 1,.one c) :: (nx,.one (.cells x.L)) :: bx) bx1 -> D5 r z p d P' has' mf' (Ak bx1 (.n (nx + 1)) (.wc g (.int .u8 w))) nx1 /\ It p d bx (Ak bx1 (.n (nx + 1)) (.wc g (.int .u8 w))) := fun {P' has' mf' bx1 nx1 g w c} h1 h2 h3 => by
  refine ⟨h1.other (by omega) (by omega) (by omega) h2 fun _ => rfl,fun y v y1 y2 hb => ?_⟩
  have y3 : y ≠ .n (nx + 1) := by rintro rfl; rw [hs.fre (nx + 1) (by omega)] at hb; cases hb
  have y4 : y ≠ .n nx := by rintro rfl; rw [hs.fre nx (Nat.le_refl _)] at hb; cases hb
  rw [Ac,if_neg y3]
  exact h3 y v y1 y2 (by rw [Ag,if_neg y3,Ag,if_neg y4]; exact hb)
 by_cases c1 : (b.de.2 x.fro.toNat || b.de.2 x.tow.toNat) = true
 ·have hv : CB b x = 1 := by unfold CB; rw [if_pos c1]
  have hS : EG P b x = P := by unfold EG; rw [if_pos c1]
  have hSb : FN b x = b := by unfold FN; rw [if_neg (by omega)]
  rw [hv,hS,hSb] at hK
  cases d1 : b.de.2 x.fro.toNat with
  | true =>
   rw [d1] at q1
   have q3 := hD.m _ q1
   simp only [Su,IC,hz,hd,q1,q3,n1,n3,n4,n6,n7,↓reduceIte,reduceCtorEq,Nat.reduceEqDiff,Nat.reduceAdd,Nat.reduceSub,Nat.reduceLeDiff,go_sem]
   exact fun g => ⟨⟨0,rfl⟩,hK _ _ _ has mf (by omega) (hs1.cons (c := .wc g (.int .u8 1)) fun _ => rfl) hD ((hs.hold _).trans (hs1.hold _)).two (by omega)⟩
  | false =>
   rw [d1] at q1
   have d2 : b.de.2 x.tow.toNat = true := by rw [d1] at c1; exact c1
   rw [d2] at q2
   have q3 := hD.m _ q2
   simp only [Su,IC,hz,hd,q1,q2,q3,n1,n3,n4,n6,n7,↓reduceIte,reduceCtorEq,Nat.reduceEqDiff,Nat.reduceAdd,Nat.reduceLeDiff,go_sem]
   exact fun g => ⟨⟨0,rfl⟩,hK _ _ _ has mf (by omega) (hs1.cons (c := .wc g (.int .u8 1)) fun _ => rfl) hD ((hs.hold _).trans (hs1.hold _)).two (by omega)⟩
 have d1 : b.de.2 x.fro.toNat = false := by
  cases h : b.de.2 x.fro.toNat with
  | false => rfl
  | true => rw [h] at c1; exact absurd rfl c1
 have d2 : b.de.2 x.tow.toNat = false := by
  cases h : b.de.2 x.tow.toNat with
  | false => rfl
  | true => rw [d1,h] at c1; exact absurd rfl c1
 rw [d1] at q1
 rw [d2] at q2
 by_cases k3 : x.kind = 3
 ·have eH : HM x.kind = true := by rw [k3]; rfl
  have eL : HZ x.kind = PE := by rw [k3]; rfl
  simp only [Su,IC,D0,eH,eL,PE,Aj,AV,hz,hd,q1,q2,n1,n3,n4,n6,n7,↓reduceIte,reduceCtorEq,Nat.reduceEqDiff,Nat.reduceAdd,Nat.reduceLeDiff,go_sem]
  intro g
  have m12 : (d = p) = False := eq_false dp
  have hH : EZ x.fro x.heirs := by
   rcases x7 with h | h | h | h
   ·omega
   ·omega
   ·exact h.2.1
   omega
  have ht : x.turn.fro = 0 /\ x.turn.til = 0 := by
   rcases x7 with h | h | h | h
   ·omega
   ·omega
   ·exact ⟨h.2.2.2.1,h.2.2.2.2.1⟩
   omega
  have hP : HW b x := fun m h1 h2 => by omega
  have hv : CB b x = 0 := by unfold CB; rw [if_neg c1,AF hP,if_pos rfl,if_neg (by omega)]
  have hS : EG P b x = EE x.fro (fun i => (hl (Bm b x) i).who) (AA b x) (CF P x.fro P.1) (Bm b x).length := by unfold EG; rw [if_neg c1,if_pos k3]
  have hSb : FN b x = FH b x := by unfold FN; rw [if_pos hv]; unfold K7; rw [if_pos k3]
  rw [hv,hS,hSb] at hK
  have hs2 := hs1.cons (c := .wc g (.int .u8 0)) fun _ => rfl
  refine Pj (b := b) (x := x) (by omega) hs2 hk hN hr hbN hH ⟨by omega,by omega⟩ (by simp only [noIt,Kw,hit,and_self]) hD.m hD.p hD.e (fun v => ?_) (fun v => ?_) fun B1 bx1 nx1 hB1 hs3 hh1 hn1 => ?_
  ·simp only [AD,HF,HS]
  ·simp only [n2,n5,m12,zp,↓reduceIte,go_sem]
  obtain ⟨B1,rfl⟩ : ∃ m,B1 = m + 100 := ⟨B1 - 100,by omega⟩
  have hw1 : Ab bx1 (.n (nx + 1)) = some (.wc g (.int .u8 0)) := hh1 _ _ (by simp; omega) (by simp; omega) (by rw [Ag,if_pos rfl])
  simp only [hw1,Ac,↓reduceIte,Nat.reduceEqDiff,go_sem]
  obtain ⟨u1,u2⟩ := hfw (g := g) (w := 0) hs3 (by omega) hh1
  exact hK _ _ _ _ _ (by omega) u1 (hD.dies (by omega) (by omega)) u2 (by omega)
 have m12 : (d = p) = False := eq_false dp
 have r1 : (nx + 1 + 1 = z) = False := eq_false (by omega)
 have r2 : (nx + 1 + 1 = p) = False := eq_false (by omega)
 have r3 : (nx + 1 + 1 = nx) = False := eq_false (by omega)
 have r4 : (nx + 1 + 1 = nx + 1) = False := eq_false (by omega)
 have r5 : (nx + 1 = nx + 1 + 1) = False := eq_false (by omega)
 have r6 : (nx = nx + 1 + 1) = False := eq_false (by omega)
 have r7 : (z = nx + 1 + 1) = False := eq_false (by omega)
 have hm : FE r x := by
  rcases x7 with q | q | q | q
  ·exact q.2.2.1
  ·exact q.2.1
  ·exact absurd q.1 k3
  exact q.2.2.1
 have h4 : x.kind = 1 \/ x.kind = 2 \/ x.kind = 4 := by
  rcases x7 with q | q | q | q
  ·exact .inl q.1
  ·exact .inr (.inl q.1)
  ·exact absurd q.1 k3
  exact .inr (.inr q.1)
 obtain ⟨t0,t1,t2⟩ := hm
 have hO := Kz hk t0 t1 (by omega)
 have hro : Rp (Ce P x.turn) b := I7 (I7 hr _) _
 have hhis := Wu hO hro t0
 have hlet := Wv hO hro t0
 have hDs : Py p has mf (FN b x) := hD.same (SF k3)
 -- who has it
 have no2 : ¬ HW b x -> CB b x = 2 /\ EG P b x = Ce P x.turn := fun h => by
  unfold CB EG
  rw [if_neg c1,if_neg c1,if_neg k3,An h,if_neg Bool.false_ne_true,if_neg Bool.false_ne_true]; exact ⟨rfl,rfl⟩
 have hs2 : ∀ g,D5 r z p d P has mf ((nx + 1,.one (.wc g (.int .u8 0))) :: (nx,.one (.cells x.L)) :: bx) (nx + 1 + 1) := fun g => hs1.cons fun _ => rfl
 have hs3 : ∀ g,D5 r z p d P has mf ((nx + 1 + 1,.one (.cells x.L)) :: (nx + 1,.one (.wc g (.int .u8 0))) :: (nx,.one (.cells x.L)) :: bx) (nx + 1 + 1 + 1) := fun g => (hs2 g).cons fun _ => rfl
 have hw0 : ∀ g,Ab ((nx + 1 + 1,.one (.cells x.L)) :: (nx + 1,.one (.wc g (.int .u8 0))) :: (nx,.one (.cells x.L)) :: bx) (.n (nx + 1)) = some (.wc g (.int .u8 0)) := fun g => by rw [Ag,if_neg (by simp),Ag,if_pos rfl]
 rcases h4 with k1 | k1 | k1
 ·have eH : HM x.kind = true := by rw [k1]; rfl
  have eL : HZ x.kind = Pa := by rw [k1]; rfl
  have yes : HW b x -> CB b x = 0 /\ EG P b x = setO (Ce P x.turn) (Cf (Ce P x.turn) x.turn) (CN (Ce P x.turn) x.turn) x.tow := fun h => by
   unfold CB EG
   rw [if_neg c1,if_neg c1,if_neg k3,AF h,if_pos rfl,if_pos rfl,if_neg (by omega),if_neg (by omega),if_pos k1]; exact ⟨rfl,rfl⟩
  simp only [Su,IC,Wm,D0,eH,eL,Pa,Aj,AV,hz,hd,q1,q2,hlw,n1,n3,n4,n6,n7,↓reduceIte,reduceCtorEq,Nat.reduceEqDiff,Nat.reduceAdd,Nat.reduceSub,Nat.reduceLeDiff,Nat.reducePow,go_sem]
  intro g
  refine Me (x := x) (v := x.tow) (by omega) (hs3 g) hk hN t0 t1 (by omega) (fun v => ?_) (fun v => ?_) (fun B1 bx1 nx1 hB1 hA hs4 hh1 hn1 => ?_) fun B1 bx1 nx1 hB1 hA hs4 hh1 hn1 => ?_
  ·simp only [zp,r2,↓reduceIte,go_sem]
  ·simp only [AD,HF,HS,n2,n5,m12,zp,↓reduceIte,go_sem]
  ·obtain ⟨B1,rfl⟩ : ∃ m,B1 = m + 100 := ⟨B1 - 100,by omega⟩
   have hw1 := hh1 (.n (nx + 1)) _ (by simp; omega) (hw0 g)
   simp only [hw1,Ac,↓reduceIte,Nat.reduceEqDiff,go_sem]
   obtain ⟨y1,y2⟩ := yes (hhis.2 hA)
   rw [y1,y2] at hK
   obtain ⟨u1,u2⟩ := hfw (g := g) (w := 0) hs4 (by omega) (((hs2 g).hold _).trans hh1).two
   exact hK _ _ _ _ _ (by omega) u1 hDs u2 (by omega)
  obtain ⟨B1,rfl⟩ : ∃ m,B1 = m + 100 := ⟨B1 - 100,by omega⟩
  have hw1 := hh1 (.n (nx + 1)) _ (by simp; omega) (hw0 g)
  simp only [hw1,Ac,↓reduceIte,Nat.reduceEqDiff,go_sem]
  obtain ⟨y1,y2⟩ := no2 fun h => hA (hhis.1 h)
  rw [y1,y2] at hK
  obtain ⟨u1,u2⟩ := hfw (g := g) (w := 2) hs4 (by omega) (((hs2 g).hold _).trans hh1).two
  exact ⟨⟨0,rfl⟩,hK _ _ _ _ _ (by omega) u1 hDs u2 (by omega)⟩
 ·have eH : HM x.kind = true := by rw [k1]; rfl
  have eL : HZ x.kind = PI := by rw [k1]; rfl
  have yes : HW b x -> CB b x = 0 /\ EG P b x = setO (Ce P x.turn) (Cf (Ce P x.turn) x.turn) (CN (Ce P x.turn) x.turn) 0 := fun h => by
   unfold CB EG
   rw [if_neg c1,if_neg c1,if_neg k3,AF h,if_pos rfl,if_pos rfl,if_neg (by omega),if_neg (by omega),if_neg (by omega)]; exact ⟨rfl,rfl⟩
  simp only [Su,IC,U5,D0,eH,eL,PI,Aj,AV,hz,hd,q1,q2,hlw,n1,n3,n4,n6,n7,↓reduceIte,reduceCtorEq,Nat.reduceEqDiff,Nat.reduceAdd,Nat.reduceSub,Nat.reduceLeDiff,Nat.reducePow,go_sem]
  intro g
  refine Me (x := x) (v := 0) (by omega) (hs3 g) hk hN t0 t1 (by omega) (fun v => ?_) (fun v => ?_) (fun B1 bx1 nx1 hB1 hA hs4 hh1 hn1 => ?_) fun B1 bx1 nx1 hB1 hA hs4 hh1 hn1 => ?_
  ·simp only [zp,r2,↓reduceIte,go_sem]
  ·simp only [AD,HF,HS,n2,n5,m12,zp,↓reduceIte,go_sem]
  ·obtain ⟨B1,rfl⟩ : ∃ m,B1 = m + 100 := ⟨B1 - 100,by omega⟩
   have hw1 := hh1 (.n (nx + 1)) _ (by simp; omega) (hw0 g)
   simp only [hw1,Ac,↓reduceIte,Nat.reduceEqDiff,go_sem]
   obtain ⟨y1,y2⟩ := yes (hhis.2 hA)
   rw [y1,y2] at hK
   obtain ⟨u1,u2⟩ := hfw (g := g) (w := 0) hs4 (by omega) (((hs2 g).hold _).trans hh1).two
   exact hK _ _ _ _ _ (by omega) u1 hDs u2 (by omega)
  obtain ⟨B1,rfl⟩ : ∃ m,B1 = m + 100 := ⟨B1 - 100,by omega⟩
  have hw1 := hh1 (.n (nx + 1)) _ (by simp; omega) (hw0 g)
  simp only [hw1,Ac,↓reduceIte,Nat.reduceEqDiff,go_sem]
  obtain ⟨y1,y2⟩ := no2 fun h => hA (hhis.1 h)
  rw [y1,y2] at hK
  obtain ⟨u1,u2⟩ := hfw (g := g) (w := 2) hs4 (by omega) (((hs2 g).hold _).trans hh1).two
  exact ⟨⟨0,rfl⟩,hK _ _ _ _ _ (by omega) u1 hDs u2 (by omega)⟩
 have eH : HM x.kind = true := by rw [k1]; rfl
 have eL : HZ x.kind = PO := by rw [k1]; rfl
 have yes : HW b x -> Ld b x -> CB b x = 0 /\ EG P b x = LR (Ce P x.turn) (Cf (Ce P x.turn) x.turn) (CN (Ce P x.turn) x.turn) x.tow x.til := fun h h' => by
  unfold CB EG
  rw [if_neg c1,if_neg c1,if_neg k3,AF h,if_pos rfl,if_pos rfl,if_pos k1,if_pos k1,AF h',if_pos rfl,if_pos rfl]; exact ⟨rfl,rfl⟩
 have no3 : HW b x -> ¬ Ld b x -> CB b x = 3 /\ EG P b x = Ce P x.turn := fun h h' => by
  unfold CB EG
  rw [if_neg c1,if_neg c1,if_neg k3,AF h,if_pos rfl,if_pos rfl,if_pos k1,if_pos k1,An h',if_neg Bool.false_ne_true,if_neg Bool.false_ne_true]; exact ⟨rfl,rfl⟩
 simp only [Su,IC,D0,eH,eL,PO,Aj,AV,hz,hd,q1,q2,n1,n3,n4,n6,n7,↓reduceIte,reduceCtorEq,Nat.reduceEqDiff,Nat.reduceAdd,Nat.reduceLeDiff,go_sem]
 intro g
 refine Qh (x := x) (by omega) (hs2 g) hk hN t0 t1 (by omega) (fun v => ?_) (fun v => ?_) (fun B1 bx1 nx1 hB1 hA hL hs4 hh1 hn1 => ?_) (fun B1 bx1 nx1 hB1 hA hs4 hh1 hn1 => ?_) fun B1 bx1 nx1 hB1 hA hL hs4 hh1 hn1 => ?_
 ·simp only [n2,n5,m12,zp,↓reduceIte,go_sem]
 ·simp only [AD,HF,HS,go_sem]
 ·obtain ⟨B1,rfl⟩ : ∃ m,B1 = m + 100 := ⟨B1 - 100,by omega⟩
  have hw1 := hh1 (.n (nx + 1)) _ (by simp; omega) (by rw [Ag,if_pos rfl])
  simp only [hw1,Ac,↓reduceIte,Nat.reduceEqDiff,go_sem]
  obtain ⟨y1,y2⟩ := yes (hhis.2 hA) (hlet.2 hL)
  rw [y1,y2] at hK
  obtain ⟨u1,u2⟩ := hfw (g := g) (w := 0) hs4 (by omega) hh1.two
  exact hK _ _ _ _ _ (by omega) u1 hDs u2 (by omega)
 ·obtain ⟨B1,rfl⟩ : ∃ m,B1 = m + 100 := ⟨B1 - 100,by omega⟩
  have hw1 := hh1 (.n (nx + 1)) _ (by simp; omega) (by rw [Ag,if_pos rfl])
  simp only [hw1,Ac,↓reduceIte,Nat.reduceEqDiff,go_sem]
  obtain ⟨y1,y2⟩ := no2 fun h => hA (hhis.1 h)
  rw [y1,y2] at hK
  obtain ⟨u1,u2⟩ := hfw (g := g) (w := 2) hs4 (by omega) hh1.two
  exact ⟨⟨0,rfl⟩,hK _ _ _ _ _ (by omega) u1 hDs u2 (by omega)⟩
 obtain ⟨B1,rfl⟩ : ∃ m,B1 = m + 100 := ⟨B1 - 100,by omega⟩
 have hw1 := hh1 (.n (nx + 1)) _ (by simp; omega) (by rw [Ag,if_pos rfl])
 simp only [hw1,Ac,↓reduceIte,Nat.reduceEqDiff,go_sem]
 obtain ⟨y1,y2⟩ := no3 (hhis.2 hA) fun h => hL (hlet.1 h)
 rw [y1,y2] at hK
 obtain ⟨u1,u2⟩ := hfw (g := g) (w := 3) hs4 (by omega) hh1.two
 exact ⟨⟨0,rfl⟩,hK _ _ _ _ _ (by omega) u1 hDs u2 (by omega)⟩
end Go.Proofs.YtlieoghhkioflaaGreat
namespace Go.Proofs.YtlieoghhkioflaaGreat
open Go Go.RowKit
variable {G : Nat -> Option (Nat × (Nat -> Ae))}
abbrev ZV (r : Ro) : Bx := [(3,.cells (P2 r 4 2)),(2,.mp .i64 (fun _ => false) fun _ => .und),(1,.cells (NP r)),(0,.cells (NP r)),(4,.row 107 5 r.holds.1 fun i j => ((WG r).2 i).c j)]
theorem Qw {Q : Ae -> Bx -> Prop} {r : Ro} {f : Au} {stk : List Au} {B : Nat} (hB : 300 <= B) (hr : Fq r) (HF : ∀ v,AP (.n 4) v f.fr = f.fr) (HS : ∀ v,AD (.n 4) v stk = stk)
  (hK : ∀ B',B <= B' + 300 -> Az (Hx G) Q B' f.K stk f.res (Ah f.fr f.d (.ptr (.n 3) 0)) (ZV r) 5) :
  Az (Hx G) Q B [.code Xh.code] (f :: stk) Xh.res (params 0 [.agg (NP r)]) [(0,.cells (NP r))] 1 := by
 obtain ⟨B,rfl⟩ : ∃ m,B = m + 290 := ⟨B - 290,by omega⟩
 have hlw : (r.holds.1 <= 9223372036854775807) = True := eq_true (by have := hr.2.2.2.1; omega)
 simp only [Xh,NP,hlw,↓reduceIte,Nat.reduceEqDiff,Nat.reduceAdd,Nat.reduceSub,Nat.reduceLeDiff,Nat.reducePow,go_sem]
 refine FL (ι := Nat) (fun j => j <= r.holds.1) (fun j => r.holds.1 - j) [3,11,12] (fun j => [(13,.int .i64 j)]) (fun j => [(3,.cells (P2 r 4 2)),(4,.row 107 5 j fun a b => ((WG r).2 a).c b)]) 1 0 (Nat.zero_le _) (by
  simp only [P2,↓reduceIte,reduceCtorEq,Nat.reduceEqDiff,Nat.reduceAdd,Nat.reduceLT,go_sem]) fun j hj => ?_
 rcases Nat.lt_or_ge j r.holds.1 with hlt | hge
 ·have f1 : ((j : Int) < (r.holds.1 : Int)) = True := eq_true (by omega)
  have h60 := hr.2.2.2.1
  simp only [f1,P2,HF,HS,↓reduceIte,reduceCtorEq,Nat.reduceEqDiff,Nat.reduceAdd,Nat.reduceSub,Nat.reduceLeDiff,Nat.reduceLT,Nat.reducePow,go_sem]
  refine ⟨by omega,by omega,by omega,?_⟩
  refine Ad (j + 1) hlt (by omega) ?_
  simp only [↓reduceIte,reduceCtorEq,Nat.reduceEqDiff,Nat.reduceLT,go_sem]
  rw [BV (by omega)]
  refine ⟨rfl,fun i hi b hb => ?_⟩
  by_cases e : i < j
  ·rw [if_pos e]; exact BB _
  obtain rfl : i = j := by omega
  rw [if_neg e,Nat.sub_self]
  rcases (by omega : b = 0 \/ b = 1 \/ b = 2 \/ b = 3 \/ b = 4) with rfl | rfl | rfl | rfl | rfl <;> exact BB _
 have f1 : ((j : Int) < (r.holds.1 : Int)) = False := eq_false (by omega)
 obtain rfl : j = r.holds.1 := by omega
 simp only [f1,P2,↓reduceIte,reduceCtorEq,Nat.reduceEqDiff,Nat.reduceAdd,go_sem]
 exact hK _ (by omega)
end Go.Proofs.YtlieoghhkioflaaGreat
namespace Go.Proofs.YtlieoghhkioflaaGreat
open Go Go.RowKit
variable {G : Nat -> Option (Nat × (Nat -> Ae))}
theorem U1 {bx0 bx1 : Bx} {nx nx' : Nat} {fr1 fr' : Fr} {b1 b2 : Bn} {l1 l2 m1 m2 : Cq} (n1 n2 : Cq) (hn : nx <= nx') (hne : b1 ≠ b2) (h1 : Ab bx0 b1 = some l1) (h2 : Ab bx0 b2 = some l2) (g1 : Ab bx1 b1 = some m1) (g2 : Ab bx1 b2 = some m2)
  (hold : ∀ y,y ≠ b1 -> y ≠ b2 -> ∀ c,Ab bx0 y = some c -> Ab bx1 y = some c) (v1 : ∀ N D,Cp N D (some m1) n1) (v2 : ∀ N D,Cp N D (some m2) n2)
  (hfr : EH (B5 bx1 (Ak (Ak bx0 b1 n1) b2 n2)) (G0 (Ak (Ak bx0 b1 n1) b2 n2)) fr1 fr') : PB bx0 nx fr1 bx1 fr' (Ak (Ak bx0 b1 n1) b2 n2) nx' := by
 have hg : ∀ y,Ab (Ak (Ak bx0 b1 n1) b2 n2) y = if y = b2 then some n2 else if y = b1 then some n1 else Ab bx0 y := fun y => by rw [Ac,Ac]
 refine ⟨none,trivial,hn,hfr,fun y c hy => ?_,fun y c hy => ?_,fun y c0 c1 q0 q1 => ?_⟩
 ·rw [hg] at hy
  by_cases e2 : y = b2
  ·subst e2; rw [if_pos rfl] at hy; cases hy
   right
   show Cp _ _ (Ab bx1 y) _
   rw [g2]; exact v2 _ _
  rw [if_neg e2] at hy
  by_cases e1 : y = b1
  ·subst e1; rw [if_pos rfl] at hy; cases hy
   right
   show Cp _ _ (Ab bx1 y) _
   rw [g1]; exact v1 _ _
  rw [if_neg e1] at hy; exact .inl ⟨hy,hold y e1 e2 c hy⟩
 ·rw [hg] at hy
  by_cases e2 : y = b2
  ·subst e2; exact .inl ⟨_,h2⟩
  rw [if_neg e2] at hy
  by_cases e1 : y = b1
  ·subst e1; exact .inl ⟨_,h1⟩
  rw [if_neg e1] at hy; exact .inl ⟨_,hy⟩
 rw [hg]
 by_cases e2 : y = b2
 ·subst e2; rw [g2] at q1; cases q1; rw [if_pos rfl]; exact ⟨_,rfl,G4 (v2 (fun _ => False) fun _ => False)⟩
 rw [if_neg e2]
 by_cases e1 : y = b1
 ·subst e1; rw [g1] at q1; cases q1; rw [if_pos rfl]; exact ⟨_,rfl,G4 (v1 (fun _ => False) fun _ => False)⟩
 rw [if_neg e1,q0]
 rw [hold y e1 e2 c0 q0] at q1; cases q1
 exact ⟨_,rfl,CZ.refl _⟩
def WH (P : Pz) : Ae := .vptr 4 (Aq (.cons .und (.cons .und (.cons (.view 5 P.1 fun i j => (P.2 i).c j) (.cons .und .nil)))))
noncomputable def Jc (r : Ro) (l : J3) (d : Int) : Pz := HT r (D1 l).2 (Bv (D1 l) d)
noncomputable def ES : Ay := Aj (Af JS (Af (DQ Fx) (Af TI AV))) (fun _ => True) fun a => if BS a.1 a.2.1 = 0 then (if 0 <= a.2.2.1 /\ a.2.2.1 <= 100000 then .tup (.cons (WH (Jc a.1 a.2.1 a.2.2.1)) (.cons (.int .i64 0) .nil)) else .tup (.cons .nilp (.cons (.int .i64 2) .nil))) else .tup (.cons .nilp (.cons (.int .i64 (BS a.1 a.2.1)) .nil))
theorem QO (r : Ro) (P : Pz) (has : Int -> Bool) (mf : Int -> Ae) (hm : ∀ v k,Be (.n 4) v (mf k) = mf k) : D5 r 3 4 2 P has mf [(3,.one (.cells (P2 r 4 2))),(2,.one (.mp .i64 has mf)),(1,.one (.cells (NP r))),(0,.one (.cells (NP r))),(4,.one (.row 107 5 P.1 fun a b => (P.2 a).c b))] 5 := by
 refine ⟨rfl,rfl,rfl,by omega,by omega,by omega,by omega,by omega,by omega,fun y hy => ?_,fun y c hy hc v => ?_⟩
 ·rw [Ag,if_neg (by simp; omega),Ag,if_neg (by simp; omega),Ag,if_neg (by simp; omega),Ag,if_neg (by simp; omega),Ag,if_neg (by simp; omega)]; rfl
 simp only [Ag] at hc
 split at hc
 ·exact absurd (by assumption) hy
 split at hc
 ·cases hc
  simp only [Cg]
  congr 1
  funext k; exact hm v k
 split at hc
 ·cases hc; rfl
 split at hc
 ·cases hc; rfl
 split at hc
 ·cases hc; rfl
 cases hc
set_option maxHeartbeats 4000000 in
theorem RG : Ai Tryz.prog G 47 ES := by
 refine Ij mixed (S := SBk) (I := IBk) (X := XBk) (N := []) (C := CBk) (.cons V1 (.cons Zn (.cons RV (.cons WW (.cons VW (.cons Xk (.cons Xp .nil))))))) (.cons Tryz.func144 Zz (.cons Tryz.func162 Y9 (.cons Tryz.func103 Yp (.cons Tryz.func145 Zr (.cons Tryz.func138 Yk (.cons Tryz.func119 YR (.cons Tryz.func120 Zq (.cons Tryz.func122 Zv (.cons Tryz.func121 Yr (.cons Tryz.func139 ZN (.cons Tryz.func157 YZ (.cons Tryz.func140 YJ (.cons Tryz.func67 c67 (.cons Tryz.func68 c68 .nil)))))))))))))) (.cons Y4 .nil) Tryz.func47 c47 (fun a _ hw => ?_) (.cat ON .nil)
 obtain ⟨r,l,d,u⟩ := a
 simp only [Af,AV,reduceCtorEq,Nat.reduceSub,Nat.reducePow,go_sem] at hw
 obtain ⟨w1,w2⟩ := hw
 by_cases h0 : BS r l = 0
 ·have f0 : (BS r l = 0) = True := eq_true h0
  have ha := Dn h0
  have hr := ha.1
  have hlw : ((Bb l l.1).length <= 9223372036854775807) = True := eq_true (by have := MK l; have : (Bb l l.1).length <= l.1 := this; have := ha.2.1; omega)
  by_cases hd : 0 <= d /\ d <= 100000
  ·have fd : Ek d 0 100000 = true := AF hd
   have fd2 : (0 <= d /\ d <= 100000) = True := eq_true hd
   simp only [X6,L7,MD,Aj,Af,AV,h0,fd,fd2,w1,w2,hlw,↓reduceIte,reduceCtorEq,Nat.reduceEqDiff,Nat.reduceAdd,Nat.reduceSub,Nat.reduceLT,Nat.reducePow,go_sem]
   refine Qw (by omega) hr (fun v => ?_) (fun v => rfl) fun B1 hB1 => ?_
   ·simp only [↓reduceIte,reduceCtorEq,go_sem]
   obtain ⟨B1,rfl⟩ : ∃ m,B1 = m + 50000 := ⟨B1 - 50000,by omega⟩
   simp only [ZV,hlw,↓reduceIte,Nat.reduceEqDiff,Nat.reduceSub,Nat.reducePow,go_sem]
   have hN : ((AE r : Nat) : Int) = 1440 * r.days := by unfold AE; have := hr.1; omega
   have hN2 : AE r <= 23040 := by unfold AE; have := hr.1; have := hr.2.1; omega
   obtain ⟨D,hDe⟩ : ∃ D,D = D1 l := ⟨_,rfl⟩
   have hDl : (Bb l l.1).length = D.1 := by rw [hDe]; rfl
   have hDv : (fun i j => (lD (Bb l l.1) i).c j) = fun i j => (D.2 i).c j := by rw [hDe]; rfl
   have hDok : ∀ i,i < D.1 -> DG r (D.2 i) := fun i hi => by
    rw [hDe] at hi ⊢
    obtain ⟨k,k1,_,k2⟩ := Gp l i hi
    rw [k2]; exact ha.2.2.1 k k1
   have hDlen : D.1 <= 60 := by have := MK l; rw [<- hDe] at this; have := ha.2.1; omega
   have hU : Bv D d <= D.1 := by have := A7 (fun i => d < (D.2 i).day) D.1; unfold Bv; omega
   have hUd : ∀ i,i < D.1 -> ((D.2 i).day <= d ↔ i < Bv D d) := fun i hi => by
    have hsrt : ∀ a b,a < b -> b < D.1 -> (D.2 a).day <= (D.2 b).day := fun a b hab hb => by
     rw [hDe] at hb ⊢
     have h1 : b < (Bb l l.1).length := hb
     have := List.pairwise_iff_getElem.1 (Ea l l.1) a b (by omega) h1 hab
     have ga : (D1 l).2 a = (Bb l l.1)[a]'(by omega) := by show lD (Bb l l.1) a = _; unfold lD; rw [List.getD_eq_getElem?_getD,List.getElem?_eq_getElem (by omega)]; rfl
     have gb : (D1 l).2 b = (Bb l l.1)[b]'h1 := by show lD (Bb l l.1) b = _; unfold lD; rw [List.getD_eq_getElem?_getD,List.getElem?_eq_getElem h1]; rfl
     rw [ga,gb]
     unfold Bi at this; omega
    rcases A7 (fun i => d < (D.2 i).day) D.1 with ⟨u1,u2,u3⟩ | ⟨u1,u2⟩
    ·constructor
     ·intro h
      apply Classical.byContradiction
      intro hn
      have h2 : d < (D.2 (Bv D d)).day := u2
      by_cases e : i = Bv D d
      ·rw [<- e] at h2; omega
      have := hsrt (Bv D d) i (by omega) hi; omega
     intro h; have := u3 i h; omega
    constructor
    ·intro _; unfold Bv; omega
    intro _; have := u2 i hi; omega
   have huP : Jc r l d = HT r D.2 (Bv D d) := by rw [hDe]; rfl
   simp only [hDl,hDv,huP]
   refine AJ (ι := Nat × (Int -> Bool) × (Int -> Ae)) (fun q => q.1 <= D.1 /\ Py 4 q.2.1 q.2.2 (Dh r D.2 (min q.1 (Bv D d)))) (fun q => D.1 - q.1) [2,10,27,28] (fun q => [(29,.int .i64 q.1)]) (fun q => [(4,.row 107 5 (HT r D.2 (min q.1 (Bv D d))).1 fun a b => ((HT r D.2 (min q.1 (Bv D d))).2 a).c b),(2,.mp .i64 q.2.1 q.2.2)]) (0,(fun _ => false),fun _ => .und) ⟨Nat.zero_le _,⟨fun k h => (by cases h),fun _ _ => rfl,fun k h1 h2 => by rw [Nat.zero_min]; rfl⟩⟩ (by
    simp only [Nat.zero_min,HT,↓reduceIte,reduceCtorEq,Nat.reduceEqDiff,Nat.reduceLT,go_sem]
    rfl) fun q hq => ?_
   obtain ⟨j,has,mf⟩ := q
   obtain ⟨hj,hD⟩ := hq
   simp only at hj hD
   rcases Nat.lt_or_ge j D.1 with hlt | hge
   ·have f1 : ((j : Int) < (D.1 : Int)) = True := eq_true (by omega)
    have hx := hDok j hlt
    have hxl : ((D.2 j).heirs.1 <= 9223372036854775807) = True := eq_true (by have := hx.heirs; omega)
    by_cases hju : j < Bv D d
    ·have f2 : ((D.2 j).day <= d) = True := eq_true ((hUd j hlt).2 hju)
     have hmin : min j (Bv D d) = j := by omega
     have hmin2 : min (j + 1) (Bv D d) = j + 1 := by omega
     rw [hmin] at hD
     simp only [f1,f2,hxl,hmin,P2,NP,↓reduceIte,reduceCtorEq,Nat.reduceEqDiff,Nat.reduceAdd,Nat.reduceSub,Nat.reduceLeDiff,Nat.reducePow,go_sem]
     have hPk := Hn (r := r) (l := D.2) hr j fun i hi => hDok i (by omega)
     have hs5 := (QO r (HT r D.2 j) has mf hD.p).cons (c := .cells (D.2 j).L) fun _ => rfl
     refine ⟨by omega,?_⟩
     refine T5 (b := Dh r D.2 j) (x := D.2 j) (by omega) hs5 hPk.1 hN2 hN hPk.2 (Dx r D.2 j) hx ?_ hD (fun v => rfl) (fun v => ?_) fun B2 bx2 nx2 has' mf' hB2 hs2 hD2 hh2 hn2 => ?_
     ·simp only [noIt,Kw,and_self,go_sem]
     ·simp only [↓reduceIte,Nat.reduceEqDiff,go_sem]
     obtain ⟨B2,rfl⟩ : ∃ m,B2 = m + 100 := ⟨B2 - 100,by omega⟩
     simp only [↓reduceIte,Nat.reduceEqDiff,go_sem]
     have hD2 : Py 4 has' mf' (Dh r D.2 (j + 1)) := hD2
     have hs2 : D5 r 3 4 2 (HT r D.2 (j + 1)) has' mf' bx2 nx2 := hs2
     have hb3 := hh2 (.n 3) _ (by simp) (by simp) (by rw [Ag,if_neg (by simp),Ag,if_pos rfl])
     have hb1 := hh2 (.n 1) _ (by simp) (by simp) (by rw [Ag,if_neg (by simp),Ag,if_neg (by simp),Ag,if_neg (by simp),Ag,if_pos rfl])
     have hb0 := hh2 (.n 0) _ (by simp) (by simp) (by rw [Ag,if_neg (by simp),Ag,if_neg (by simp),Ag,if_neg (by simp),Ag,if_neg (by simp),Ag,if_pos rfl])
     refine IX (j + 1,has',mf') ⟨hlt,by show Py 4 has' mf' (Dh r D.2 (min (j + 1) (Bv D d))); rw [hmin2]; exact hD2⟩ (by show D.1 - (j + 1) < D.1 - j; omega) (U1 (b1 := .n 4) (b2 := .n 2) (.row 107 5 (HT r D.2 (min (j + 1) (Bv D d))).1 fun a b => ((HT r D.2 (min (j + 1) (Bv D d))).2 a).c b) (.mp .i64 has' mf') (Nat.le_refl _) (by simp) rfl rfl hs2.hp hs2.hd (fun y h1 h2 c hc => ?_) (fun N D' => by rw [hmin2]; exact ⟨rfl,rfl,rfl,fun i _ b _ => BB _⟩) (fun N D' => ⟨rfl,fun k => ⟨rfl,fun hk => ?_⟩⟩) ?_)
     ·rw [Ag] at hc
      by_cases e3 : y = .n 3
      ·rw [if_pos e3] at hc; cases hc; rw [e3]; exact hb3
      rw [if_neg e3,Ag,if_neg h2,Ag] at hc
      by_cases e1 : y = .n 1
      ·rw [if_pos e1] at hc; cases hc; rw [e1]; exact hb1
      rw [if_neg e1,Ag] at hc
      by_cases e0 : y = .n 0
      ·rw [if_pos e0] at hc; cases hc; rw [e0]; exact hb0
      rw [if_neg e0,Ag,if_neg h1] at hc
      cases hc
     ·rw [hD2.m k hk]; rfl
     simp only [↓reduceIte,reduceCtorEq,Nat.reduceEqDiff,go_sem]
     exact BV (by omega)
    have f2 : ((D.2 j).day <= d) = False := eq_false fun h => hju ((hUd j hlt).1 h)
    have hmin : min j (Bv D d) = Bv D d := by omega
    have hmin2 : min (j + 1) (Bv D d) = Bv D d := by omega
    simp only [f1,f2,hxl,hmin,P2,NP,↓reduceIte,reduceCtorEq,Nat.reduceEqDiff,Nat.reduceAdd,Nat.reduceSub,Nat.reduceLeDiff,Nat.reducePow,go_sem]
    refine ⟨by omega,Ad (j + 1,has,mf) ⟨hlt,by show Py 4 has mf (Dh r D.2 (min (j + 1) (Bv D d))); rw [hmin2,<- hmin]; exact hD⟩ (by show D.1 - (j + 1) < D.1 - j; omega) ?_⟩
    simp only [hmin2,↓reduceIte,reduceCtorEq,Nat.reduceEqDiff,Nat.reduceLT,go_sem]
    rw [BV (by omega)]
    exact ⟨rfl,fun k hk => by rw [hD.m k hk]; rfl⟩
   have f1 : ((j : Int) < (D.1 : Int)) = False := eq_false (by omega)
   obtain rfl : j = D.1 := by omega
   have hmin : min D.1 (Bv D d) = Bv D d := by omega
   simp only [f1,hmin,P2,NP,WH,↓reduceIte,reduceCtorEq,Nat.reduceEqDiff,Nat.reduceAdd,go_sem]
   refine ⟨fun k hk => by rw [hD.m k hk]; simp only [Am],fun j hj => ?_⟩
   rcases (by omega : j = 0 \/ j = 1 \/ j = 2 \/ j = 3) with rfl | rfl | rfl | rfl
   ·trivial
   ·trivial
   ·exact BB _
   trivial
  have fd : Ek d 0 100000 = false := An hd
  have fd2 : (0 <= d /\ d <= 100000) = False := eq_false hd
  simp only [X6,L7,MD,Aj,Af,AV,h0,fd,fd2,w1,w2,hlw,↓reduceIte,reduceCtorEq,Nat.reduceEqDiff,Nat.reduceAdd,Nat.reduceSub,Nat.reduceLT,Nat.reducePow,go_sem]
 have f0 : (BS r l = 0) = False := eq_false h0
 simp only [X6,L7,Aj,Af,AV,f0,w1,w2,↓reduceIte,reduceCtorEq,Nat.reduceEqDiff,Nat.reduceAdd,Nat.reduceSub,Nat.reduceLT,Nat.reducePow,go_sem]
end Go.Proofs.YtlieoghhkioflaaGreat
namespace Go.Proofs.YtlieoghhkioflaaGreat
open Go Go.RowKit
variable {w : Int} {f : Nat -> Int}
theorem Qu {l : Sz} {m : Int} (h : 0 < l.1) (hw : (l.2 (l.1 - 1)).who = w) : (Gw l m w).1 = l.1 /\ (∀ j,j < l.1 - 1 -> (Gw l m w).2 j = l.2 j) /\ (Gw l m w).2 (l.1 - 1) = ⟨w,⟨(l.2 (l.1 - 1)).turn.fro,m + 1⟩⟩ := by
 unfold Gw
 rw [if_pos ⟨h,hw⟩]
 refine ⟨rfl,fun j hj => ?_,?_⟩
 ·show (if j = l.1 - 1 then _ else l.2 j) = _
  rw [if_neg (by omega)]
 show (if l.1 - 1 = l.1 - 1 then _ else _) = _
 rw [if_pos rfl,hw]
theorem QB {l : Sz} {m : Int} (h : ¬ (0 < l.1 /\ (l.2 (l.1 - 1)).who = w)) : (Gw l m w).1 = l.1 + 1 /\ (∀ j,j < l.1 -> (Gw l m w).2 j = l.2 j) /\ (Gw l m w).2 l.1 = ⟨w,⟨m,m + 1⟩⟩ := by
 unfold Gw
 rw [if_neg h]
 refine ⟨rfl,fun j hj => ?_,?_⟩
 ·show (if j < l.1 then _ else _) = _
  rw [if_pos hj]
 show (if l.1 < l.1 then _ else _) = _
 rw [if_neg (Nat.lt_irrefl _)]
theorem Ge {a : Nat} (h : 0 < (As f a).1) (hw : ((As f a).2 ((As f a).1 - 1)).who = w) : ∀ d,(∀ q,a <= q -> q < a + d -> f q = w) -> (As f (a + d)).1 = (As f a).1 /\ (∀ j,j < (As f a).1 - 1 -> (As f (a + d)).2 j = (As f a).2 j) /\ (d = 0 \/ (As f (a + d)).2 ((As f a).1 - 1) = ⟨w,⟨((As f a).2 ((As f a).1 - 1)).turn.fro,((a + d : Nat) : Int)⟩⟩)
 | 0,_ => ⟨rfl,fun _ _ => rfl,.inl rfl⟩
 | d + 1,hd => by
  obtain ⟨i1,i2,i3⟩ := Ge h hw d fun q h1 h2 => hd q h1 (by omega)
  have hl : ((As f (a + d)).2 ((As f (a + d)).1 - 1)).who = f (a + d) := by
   rw [i1,hd (a + d) (by omega) (by omega)]
   rcases i3 with rfl | i3
   ·exact hw
   rw [i3]
  have hfr : ((As f (a + d)).2 ((As f (a + d)).1 - 1)).turn.fro = ((As f a).2 ((As f a).1 - 1)).turn.fro := by
   rw [i1]
   rcases i3 with rfl | i3
   ·rfl
   rw [i3]
  obtain ⟨j1,j2,j3⟩ := Qu (m := ((a + d : Nat) : Int)) (by omega) hl
  rw [<- Nat.add_assoc,As]
  refine ⟨j1.trans i1,fun j hj => (j2 j (by omega)).trans (i2 j hj),.inr ?_⟩
  rw [i1] at j3 hfr
  rw [j3,hd (a + d) (by omega) (by omega),hfr]
  congr 2
theorem Ie {a : Nat} (h : ¬ (0 < (As f a).1 /\ ((As f a).2 ((As f a).1 - 1)).who = w)) {d : Nat} (h0 : 0 < d) (hd : ∀ q,a <= q -> q < a + d -> f q = w) : (As f (a + d)).1 = (As f a).1 + 1 /\ (∀ j,j < (As f a).1 -> (As f (a + d)).2 j = (As f a).2 j) /\ (As f (a + d)).2 (As f a).1 = ⟨w,⟨(a : Int),((a + d : Nat) : Int)⟩⟩ := by
 have hfa : f a = w := hd a (Nat.le_refl _) (by omega)
 obtain ⟨i1,i2,i3⟩ := QB (m := (a : Int)) h
 have e1 : As f (a + 1) = Gw (As f a) a w := by rw [As,hfa]
 rw [<- e1] at i1 i2 i3
 obtain ⟨k1,k2,k3⟩ := Ge (f := f) (w := w) (a := a + 1) (by omega) (by rw [i1,Nat.add_sub_cancel,i3]) (d - 1) fun q h1 h2 => hd q (by omega) (by omega)
 rw [show a + 1 + (d - 1) = a + d by omega,i1] at k1
 rw [show a + 1 + (d - 1) = a + d by omega,i1,Nat.add_sub_cancel] at k2 k3
 refine ⟨k1,fun j hj => (k2 j hj).trans (i2 j hj),?_⟩
 rcases k3 with k3 | k3
 ·rw [show d = 1 by omega,i3]; congr 2
 rw [k3,i3]
def Bg (P : Pz) : Nat -> Nat
 | 0 => 0
 | i + 1 => (P.2 i).turn.til.toNat
def Ed (f : Nat -> Int) (P : Pz) (k0 : Int) (i : Nat) : Ho := if i = 0 then ⟨k0,⟨0,0⟩⟩ else (As f (Bg P i)).2 ((As f (Bg P i)).1 - 1)
structure Vn (f : Nat -> Int) (P : Pz) (k : Pi -> Int) (N : Nat) : Prop where
 le : ∀ i,i <= P.1 -> Bg P i <= N
 pos : ∀ i,0 < i -> i <= P.1 -> 0 < (As f (Bg P i)).1
 fin : Bg P P.1 = N
 same : ∀ i,i < P.1 -> k (P.2 i) = (Ed f P (k (P.2 0)) i).who -> (As f (Bg P (i + 1))).1 - 1 = (As f (Bg P i)).1 - 1 /\ (∀ j,j < (As f (Bg P i)).1 - 1 -> (As f (Bg P (i + 1))).2 j = (As f (Bg P i)).2 j) /\ Ed f P (k (P.2 0)) (i + 1) = ⟨(Ed f P (k (P.2 0)) i).who,⟨(Ed f P (k (P.2 0)) i).turn.fro,(P.2 i).turn.til⟩⟩
 new : ∀ i,i < P.1 -> k (P.2 i) ≠ (Ed f P (k (P.2 0)) i).who -> 0 < i /\ (As f (Bg P (i + 1))).1 - 1 = (As f (Bg P i)).1 - 1 + 1 /\ (∀ j,j < (As f (Bg P i)).1 - 1 -> (As f (Bg P (i + 1))).2 j = (As f (Bg P i)).2 j) /\ (As f (Bg P (i + 1))).2 ((As f (Bg P i)).1 - 1) = Ed f P (k (P.2 0)) i /\ Ed f P (k (P.2 0)) (i + 1) = ⟨k (P.2 i),⟨(P.2 i).turn.fro,(P.2 i).turn.til⟩⟩
theorem VI {P : Pz} {k : Pi -> Int} {N : Nat} (h : By N P) (hf : ∀ i,i < P.1 -> ∀ m : Nat,(P.2 i).turn.fro <= m -> (m : Int) < (P.2 i).turn.til -> f m = k (P.2 i)) : Vn f P k N := by
 have hfro : ∀ i,i < P.1 -> (P.2 i).turn.fro = Bg P i := fun i hi => by
  cases i with
  | zero => exact h.beg
  | succ i => rw [h.nxt i hi]; show _ = ((P.2 i).turn.til.toNat : Int); have := h.rng (show i < P.1 by omega); have := h.lt i (by omega); omega
 have htil : ∀ i,i < P.1 -> ∃ d : Nat,0 < d /\ Bg P (i + 1) = Bg P i + d /\ (P.2 i).turn.til = ((Bg P i + d : Nat) : Int) /\ ∀ q,Bg P i <= q -> q < Bg P i + d -> f q = k (P.2 i) := fun i hi => by
  have h1 := hfro i hi
  have h2 := h.lt i hi
  refine ⟨(P.2 i).turn.til.toNat - Bg P i,by omega,?_,by omega,fun q a b => hf i hi q (by omega) (by omega)⟩
  show (P.2 i).turn.til.toNat = _
  omega
 have hle : ∀ i,i <= P.1 -> Bg P i <= N := fun i hi => by
  cases i with
  | zero => exact Nat.zero_le _
  | succ i => show (P.2 i).turn.til.toNat <= N; have := h.rng (show i < P.1 by omega); omega
 have hpos : ∀ i,0 < i -> i <= P.1 -> 0 < (As f (Bg P i)).1 := fun i hi hi2 => by
  cases i with
  | zero => omega
  | succ i =>
   obtain ⟨d,d1,d2,_,d4⟩ := htil i (by omega)
   rw [d2]
   by_cases e : 0 < (As f (Bg P i)).1 /\ ((As f (Bg P i)).2 ((As f (Bg P i)).1 - 1)).who = k (P.2 i)
   ·rw [(Ge e.1 e.2 d d4).1]; exact e.1
   rw [(Ie e d1 d4).1]; omega
 have h00 : (As f (Bg P 0)).1 = 0 := rfl
 refine ⟨hle,hpos,?_,fun i hi he => ?_,fun i hi he => ?_⟩
 ·have := h.fin; have := h.pos
  obtain ⟨p,hp⟩ : ∃ p,P.1 = p + 1 := ⟨P.1 - 1,by omega⟩
  rw [hp]
  show (P.2 p).turn.til.toNat = N
  rw [show p = P.1 - 1 by omega,h.fin]; exact Int.toNat_natCast N
 ·obtain ⟨d,d1,d2,d3,d4⟩ := htil i hi
  by_cases i0 : i = 0
  ·subst i0
   have hn := Ie (f := f) (w := k (P.2 0)) (a := Bg P 0) (by rw [h00]; omega) d1 d4
   rw [<- d2] at hn
   obtain ⟨n1,n2,n3⟩ := hn
   refine ⟨by rw [n1,h00],fun j hj => by rw [h00] at hj; omega,?_⟩
   unfold Ed
   rw [if_neg (by omega),if_pos rfl,n1,Nat.add_sub_cancel,n3,d3,d2]
   rfl
  unfold Ed at he ⊢
  rw [if_neg i0] at he ⊢
  rw [if_neg (by omega)]
  have hp := hpos i (by omega) (by omega)
  have hn := Ge hp he.symm d d4
  rw [<- d2] at hn
  obtain ⟨n1,n2,n3⟩ := hn
  refine ⟨by rw [n1],n2,?_⟩
  rcases n3 with n3 | n3
  ·omega
  rw [n1,n3,he,d3,d2]
 obtain ⟨d,d1,d2,d3,d4⟩ := htil i hi
 by_cases i0 : i = 0
 ·subst i0; exact absurd rfl he
 unfold Ed at he ⊢
 rw [if_neg i0] at he ⊢
 rw [if_neg (by omega)]
 have hp := hpos i (by omega) (by omega)
 have hn := Ie (f := f) (w := k (P.2 i)) (a := Bg P i) (fun e => he e.2.symm) d1 d4
 rw [<- d2] at hn
 obtain ⟨n1,n2,n3⟩ := hn
 refine ⟨by omega,by omega,fun j hj => n2 j (by omega),n2 _ (by omega),?_⟩
 rw [n1,Nat.add_sub_cancel,n3,hfro i hi,d3,d2]
end Go.Proofs.YtlieoghhkioflaaGreat
