/- Deeds: the first piece that is as a closure asks, by slices.IndexFunc and slices.ContainsFunc. No condition but bounds. -/
import Derived.Test.YtlieoghhkioflaaGreatSoB
import Derived.Test.YtlieoghhkioflaaGreatDbk
import Derived.Test.YtlieoghhkioflaaGreatDin
set_option linter.unusedSimpArgs false
set_option linter.unusedVariables false
set_option maxRecDepth 100000
namespace Go.Proofs.YtlieoghhkioflaaGreat
open Go Go.RowKit
variable {G : Nat -> Option (Nat × (Nat -> Ae))}
def Hw.enc : Hw -> Ae
 | .cut c => .func (.func 160) (.cons (.vptr 1 (Aq (.cons (.int .i64 c) .nil))) .nil)
 | .fro t => .func (.func 170) (.cons (.vptr 2 (Aq t.L)) .nil)
 | .til t => .func (.func 171) (.cons (.vptr 2 (Aq t.L)) .nil)
 | .his x => .func (.func 163) (.cons (.vptr 9 (Aq x.L)) .nil)
 | .bus x => .func (.func 147) (.cons (.vptr 9 (Aq x.L)) .nil)
 | .dth x => .func (.func 143) (.cons (.vptr 9 (Aq x.L)) .nil)
 | .at c => .func (.func 58) (.cons (.vptr 1 (Aq (.cons (.int .i64 c) .nil))) .nil)
def Hw.dec : Ae -> Hw
 | .func (.func i) (.cons (.vptr _ c) .nil) =>
  if i = 160 then .cut (c 0).toInt else if i = 170 then .fro ⟨(c 0).toInt,(c 1).toInt⟩ else if i = 171 then .til ⟨(c 0).toInt,(c 1).toInt⟩
  else if i = 163 then .his (De.d c) else if i = 147 then .bus (De.d c) else if i = 143 then .dth (De.d c) else .at (c 0).toInt
 | _ => .at 0
theorem Hw.dec_enc : ∀ q : Hw,Hw.dec q.enc = q
 | .cut _ | .fro _ | .til _ | .his _ | .bus _ | .dth _ | .at _ => rfl
def Lu : VT Hw where
 Is := fun v => v = (Hw.dec v).enc
 of := Hw.dec
 enc := Hw.enc
 h1 := fun v h => by rw [<- h]; exact BB _
 h2 := Hw.dec_enc
theorem Jg (q : Hw) : Lu.Is q.enc = True := eq_true (by show q.enc = (Hw.dec q.enc).enc; rw [Hw.dec_enc])
theorem Tv (c : Int) : Lu.Is (.func (.func 160) (.cons (.vptr 1 (Aq (.cons (.int .i64 c) .nil))) .nil)) = True := Jg (.cut c)
theorem M3 (c : Int) : Lu.of (.func (.func 160) (.cons (.vptr 1 (Aq (.cons (.int .i64 c) .nil))) .nil)) = .cut c := rfl
theorem UU (c : Int) : Lu.Is (.func (.func 58) (.cons (.vptr 1 (Aq (.cons (.int .i64 c) .nil))) .nil)) = True := Jg (.at c)
theorem PM (c : Int) : Lu.of (.func (.func 58) (.cons (.vptr 1 (Aq (.cons (.int .i64 c) .nil))) .nil)) = .at c := rfl
theorem SQ (a b : Int) : Lu.Is (.func (.func 170) (.cons (.vptr 2 (Aq (.cons (.int .i64 a) (.cons (.int .i64 b) .nil)))) .nil)) = True := Jg (.fro ⟨a,b⟩)
theorem Nw (a b : Int) : Lu.of (.func (.func 170) (.cons (.vptr 2 (Aq (.cons (.int .i64 a) (.cons (.int .i64 b) .nil)))) .nil)) = .fro ⟨a,b⟩ := rfl
theorem Tm (a b : Int) : Lu.Is (.func (.func 171) (.cons (.vptr 2 (Aq (.cons (.int .i64 a) (.cons (.int .i64 b) .nil)))) .nil)) = True := Jg (.til ⟨a,b⟩)
theorem M4 (a b : Int) : Lu.of (.func (.func 171) (.cons (.vptr 2 (Aq (.cons (.int .i64 a) (.cons (.int .i64 b) .nil)))) .nil)) = .til ⟨a,b⟩ := rfl
section
variable (a b c d e f g h : Int) (n : Nat) (q : Nat -> Hr)
theorem Th : Lu.Is (.func (.func 163) (.cons (.vptr 9 (Aq (.cons (.int .i64 a) (.cons (.int .i64 b) (.cons (.int .u8 c) (.cons (.int .i64 d) (.cons (.int .i64 e) (.cons (.int .i64 f) (.cons (.int .i64 g) (.cons (.int .i64 h) (.cons (.view 2 n fun i j => (q i).c j) .nil))))))))))) .nil)) = True := Jg (.his ⟨a,b,c,d,e,⟨f,g⟩,h,(n,q)⟩)
theorem NB : Lu.of (.func (.func 163) (.cons (.vptr 9 (Aq (.cons (.int .i64 a) (.cons (.int .i64 b) (.cons (.int .u8 c) (.cons (.int .i64 d) (.cons (.int .i64 e) (.cons (.int .i64 f) (.cons (.int .i64 g) (.cons (.int .i64 h) (.cons (.view 2 n fun i j => (q i).c j) .nil))))))))))) .nil)) = .his ⟨a,b,c,d,e,⟨f,g⟩,h,(n,q)⟩ := rfl
theorem SI : Lu.Is (.func (.func 147) (.cons (.vptr 9 (Aq (.cons (.int .i64 a) (.cons (.int .i64 b) (.cons (.int .u8 c) (.cons (.int .i64 d) (.cons (.int .i64 e) (.cons (.int .i64 f) (.cons (.int .i64 g) (.cons (.int .i64 h) (.cons (.view 2 n fun i j => (q i).c j) .nil))))))))))) .nil)) = True := Jg (.bus ⟨a,b,c,d,e,⟨f,g⟩,h,(n,q)⟩)
theorem MS : Lu.of (.func (.func 147) (.cons (.vptr 9 (Aq (.cons (.int .i64 a) (.cons (.int .i64 b) (.cons (.int .u8 c) (.cons (.int .i64 d) (.cons (.int .i64 e) (.cons (.int .i64 f) (.cons (.int .i64 g) (.cons (.int .i64 h) (.cons (.view 2 n fun i j => (q i).c j) .nil))))))))))) .nil)) = .bus ⟨a,b,c,d,e,⟨f,g⟩,h,(n,q)⟩ := rfl
theorem TP : Lu.Is (.func (.func 143) (.cons (.vptr 9 (Aq (.cons (.int .i64 a) (.cons (.int .i64 b) (.cons (.int .u8 c) (.cons (.int .i64 d) (.cons (.int .i64 e) (.cons (.int .i64 f) (.cons (.int .i64 g) (.cons (.int .i64 h) (.cons (.view 2 n fun i j => (q i).c j) .nil))))))))))) .nil)) = True := Jg (.dth ⟨a,b,c,d,e,⟨f,g⟩,h,(n,q)⟩)
theorem Nx : Lu.of (.func (.func 143) (.cons (.vptr 9 (Aq (.cons (.int .i64 a) (.cons (.int .i64 b) (.cons (.int .u8 c) (.cons (.int .i64 d) (.cons (.int .i64 e) (.cons (.int .i64 f) (.cons (.int .i64 g) (.cons (.int .i64 h) (.cons (.view 2 n fun i j => (q i).c j) .nil))))))))))) .nil)) = .dth ⟨a,b,c,d,e,⟨f,g⟩,h,(n,q)⟩ := rfl
end
theorem Uo (q : Hw) : Lu.enc q = q.enc := rfl
attribute [go_sem] Tv M3 UU PM SQ Nw Tm M4 Th NB SI MS TP Nx Uo
noncomputable def GX (P : Nat × (Nat -> Pi)) (q : Hw) : Int := if Ci (fun i => q.T (P.2 i)) P.1 < P.1 then (Ci (fun i => q.T (P.2 i)) P.1 : Nat) else -1
noncomputable def JO : Ay := Aj (Af (DQ Lt) (Af Lu AV)) (fun a => a.1.1 <= 100000) fun a => .int .i64 (GX a.1 a.2.1)
noncomputable def PC : Ay := Aj (Af (DQ Lt) (Af Lu AV)) (fun a => a.1.1 <= 100000) fun a => .bool (A8 (∃ i,i < a.1.1 /\ a.2.1.T (a.1.2 i)))
noncomputable abbrev SPq : List (FuncId × Ay) := [(160,RS),(58,Wg),(170,Wz),(171,VV),(163,QF),(147,QE),(143,QM)]
theorem Kt {P : Nat × (Nat -> Pi)} {q : Hw} {j : Nat} (hj : j < P.1) (h : q.T (P.2 j)) (h0 : ∀ i,i < j -> ¬ q.T (P.2 i)) : GX P q = (j : Int) := by
 have := DT (p := fun i => q.T (P.2 i)) hj h h0
 unfold GX; rw [this,if_pos hj]
theorem Kc {P : Nat × (Nat -> Pi)} {q : Hw} (h0 : ∀ i,i < P.1 -> ¬ q.T (P.2 i)) : GX P q = -1 := by
 unfold GX
 rcases A7 (fun i => q.T (P.2 i)) P.1 with ⟨h1,h2,_⟩ | ⟨h1,_⟩
 ·exact absurd h2 (h0 _ h1)
 rw [if_neg (by omega)]
set_option maxHeartbeats 4000000 in
theorem V1 : Ai Tryz.prog G 57 JO := by
 refine Ij mixed (S := SPq) (I := []) (X := []) (N := []) (C := []) (.cons XP (.cons ZO (.cons YN (.cons YF (.cons WS (.cons WY (.cons W9 .nil))))))) .nil .nil Tryz.func57 c57 fun a hp hw => ?_
 obtain ⟨P,q,u⟩ := a
 have hP : P.1 <= 100000 := hp
 have hw1 : (P.1 <= 9223372036854775807) = True := eq_true (by omega)
 simp only [ZW,Af,AV,hw1,↓reduceIte,reduceCtorEq,Nat.reduceSub,Int.reduceNeg,Nat.reducePow,go_sem]
 refine AJ (ι := Nat) (fun j => j <= P.1 /\ ∀ i,i < j -> ¬ q.T (P.2 i)) (fun j => P.1 - j) [0,1,7] (fun j => [(8,.int .i64 j)]) (fun _ => []) 0 ⟨by omega,fun i h => by omega⟩ (by cases q <;> simp only [Hw.enc,↓reduceIte,reduceCtorEq,Nat.reduceEqDiff,go_sem] <;> try rfl) fun j hj => ?_
 obtain ⟨hj1,hj2⟩ := hj
 rcases Nat.lt_or_ge j P.1 with hlt | hge
 ·have f1 : ((j : Int) < (P.1 : Int)) = True := eq_true (by omega)
  have yes : q.T (P.2 j) -> GX P q = (j : Int) := fun h => Kt hlt h hj2
  have no : ¬ q.T (P.2 j) -> ∀ i,i < j + 1 -> ¬ q.T (P.2 i) := fun h i hi => by
   by_cases e : i = j
   ·subst e; exact h
   exact hj2 i (by omega)
  cases q
  all_goals
   simp only [Hw.enc,f1,hw1,RS,Wg,Wz,VV,QF,QE,QM,Aj,Af,AV,↓reduceIte,reduceCtorEq,Nat.reduceEqDiff,Nat.reduceAdd,Nat.reduceSub,Int.reduceNeg,Nat.reducePow,go_sem]
   refine ⟨by omega,fun h => (yes (LK h)).symm,fun h => ?_⟩
   refine Ad (j + 1) ⟨by omega,no (Kl h)⟩ (by omega) ?_
   simp only [↓reduceIte,reduceCtorEq,Nat.reduceEqDiff,go_sem]
   rw [BV (by omega)]
   try trivial
 have f1 : ((j : Int) < (P.1 : Int)) = False := eq_false (by omega)
 obtain rfl : j = P.1 := by omega
 simp only [f1,Kc hj2,↓reduceIte,reduceCtorEq,Nat.reduceEqDiff,Int.reduceNeg,go_sem]
theorem Ui (P : Nat × (Nat -> Pi)) (q : Hw) : decide (GX P q ≥ 0) = A8 (∃ i,i < P.1 /\ q.T (P.2 i)) := by
 rw [Om]
 refine EB ?_
 unfold GX
 rcases A7 (fun i => q.T (P.2 i)) P.1 with ⟨h1,h2,_⟩ | ⟨h1,h2⟩
 ·rw [if_pos h1]; exact ⟨fun _ => ⟨_,h1,h2⟩,fun _ => by omega⟩
 rw [if_neg (by omega)]; exact ⟨fun h => by omega,fun ⟨i,hi,k⟩ => absurd k (h2 i hi)⟩
set_option maxHeartbeats 4000000 in
theorem Zn : Ai Tryz.prog G 146 PC := by
 refine Ij mixed (S := [(57,JO)]) (I := []) (X := []) (N := []) (C := []) (.cons V1 .nil) .nil .nil Tryz.func146 Yt fun a hp hw => ?_
 obtain ⟨P,q,u⟩ := a
 have hP : P.1 <= 100000 := hp
 have hw1 : (P.1 <= 9223372036854775807) = True := eq_true (by omega)
 cases q
 all_goals
  simp only [Xo,Hw.enc,JO,Aj,Af,AV,hw1,Ui,↓reduceIte,reduceCtorEq,Nat.reduceEqDiff,Nat.reduceSub,Nat.reducePow,go_sem]
  try exact hP
end Go.Proofs.YtlieoghhkioflaaGreat
namespace Go.Proofs.YtlieoghhkioflaaGreat
open Go Go.RowKit
variable {b : Bk} {N i : Nat}
abbrev Pz := Nat × (Nat -> Pi)
structure By (N : Nat) (P : Pz) : Prop where
 pos : 1 <= P.1
 beg : (P.2 0).turn.fro = 0
 lt : ∀ i,i < P.1 -> (P.2 i).turn.fro < (P.2 i).turn.til
 nxt : ∀ i,i + 1 < P.1 -> (P.2 (i + 1)).turn.fro = (P.2 i).turn.til
 fin : (P.2 (P.1 - 1)).turn.til = N
theorem By.step {P : Pz} (h : By N P) (i : Nat) : ∀ d,i + d + 1 < P.1 -> (P.2 i).turn.til + d <= (P.2 (i + d + 1)).turn.fro
 | 0,hd => by
  have := h.nxt i hd
  show (P.2 i).turn.til + ((0 : Nat) : Int) <= (P.2 (i + 1)).turn.fro
  omega
 | d + 1,hd => by
  have h1 := h.step i d (by omega)
  have h2 := h.lt (i + d + 1) (by omega)
  have h3 := h.nxt (i + d + 1) (by omega)
  rw [show i + (d + 1) + 1 = i + d + 1 + 1 by omega,h3]
  omega
theorem By.mono {P : Pz} (h : By N P) {j : Nat} (hij : i < j) (hj : j < P.1) : (P.2 i).turn.til <= (P.2 j).turn.fro := by
 obtain ⟨d,rfl⟩ : ∃ d,j = i + d + 1 := ⟨j - i - 1,by omega⟩
 have := h.step i d hj
 omega
theorem By.rng {P : Pz} (h : By N P) (hi : i < P.1) : 0 <= (P.2 i).turn.fro /\ (P.2 i).turn.til <= N := by
 constructor
 ·rcases Nat.eq_zero_or_pos i with h0 | h0
  ·subst h0; rw [h.beg]; exact Int.le_refl 0
  have h1 := h.mono h0 hi
  have h2 := h.lt 0 (by omega)
  rw [h.beg] at h2
  omega
 by_cases e : i = P.1 - 1
 ·rw [e,h.fin]; exact Int.le_refl _
 have h1 := h.mono (show i < P.1 - 1 by omega) (by omega)
 have h2 := h.lt (P.1 - 1) (by omega)
 have h3 := h.fin
 omega
theorem By.len {P : Pz} (h : By N P) : P.1 <= N := by
 have h2 := h.lt 0 h.pos
 rw [h.beg] at h2
 by_cases e : P.1 = 1
 ·have := (h.rng h.pos).2; have := h.pos; omega
 have h1 := h.step 0 (P.1 - 2) (by have := h.pos; omega)
 rw [show 0 + (P.1 - 2) + 1 = P.1 - 1 by have := h.pos; omega] at h1
 have h3 := h.lt (P.1 - 1) (by have := h.pos; omega)
 have h4 := h.fin
 omega
theorem By.at {P : Pz} (h : By N P) {m : Int} (h0 : 0 <= m) (h1 : m < N) : ∃ i,i < P.1 /\ (P.2 i).turn.fro <= m /\ m < (P.2 i).turn.til := by
 rcases A7 (fun i => m < (P.2 i).turn.til) P.1 with ⟨a,b,c⟩ | ⟨_,c⟩
 ·refine ⟨_,a,?_,b⟩
  generalize Ci (fun i => m < (P.2 i).turn.til) P.1 = i at *
  cases i with
  | zero => rw [h.beg]; exact h0
  | succ i => rw [h.nxt i a]; have := c i (by omega); omega
 exact absurd (by rw [h.fin]; exact h1) (c (P.1 - 1) (by have := h.pos; omega))
theorem By.one {P : Pz} (h : By N P) {m : Int} {j : Nat} (hi : i < P.1) (hj : j < P.1) (i1 : (P.2 i).turn.fro <= m) (i2 : m < (P.2 i).turn.til) (j1 : (P.2 j).turn.fro <= m) (j2 : m < (P.2 j).turn.til) : i = j := by
 rcases Nat.lt_trichotomy i j with e | e | e
 ·have := h.mono e hj; omega
 ·exact e
 have := h.mono e hi; omega
structure Rp (P : Pz) (b : Bk) : Prop where
 ow : ∀ i,i < P.1 -> ∀ m : Nat,(P.2 i).turn.fro <= m -> (m : Int) < (P.2 i).turn.til -> b.ow.2 m = (P.2 i).owner
 le : ∀ i,i < P.1 -> ∀ m : Nat,(P.2 i).turn.fro <= m -> (m : Int) < (P.2 i).turn.til -> b.le.2 m = (P.2 i).lent
 un : ∀ i,i < P.1 -> ∀ m : Nat,(P.2 i).turn.fro <= m -> (m : Int) < (P.2 i).turn.til -> (P.2 i).lent ≠ 0 -> b.un.2 m = (P.2 i).til
def Du (p : Nat -> Pi) (i : Nat) (c : Int) (k : Nat) : Pi := if k < i then p k else if k = i then { p i with turn := ⟨(p i).turn.fro,c⟩ } else if k = i + 1 then { p i with turn := ⟨c,(p i).turn.til⟩ } else p (k - 1)
def Km (P : Pz) (c : Int) (i : Nat) : Prop := (P.2 i).turn.fro < c /\ c < (P.2 i).turn.til
noncomputable def CK (P : Pz) (c : Int) : Pz := if Ci (Km P c) P.1 < P.1 then (P.1 + 1,Du P.2 (Ci (Km P c) P.1) c) else P
theorem Ic {P : Pz} (h : By N P) (c : Int) : By N (CK P c) := by
 unfold CK
 split
 ·rename_i hi
  have hc : Km P c (Ci (Km P c) P.1) := by
   rcases A7 (Km P c) P.1 with ⟨_,b,_⟩ | ⟨a,_⟩
   ·exact b
   omega
  generalize Ci (Km P c) P.1 = i at *
  obtain ⟨c1,c2⟩ := hc
  refine ⟨by show 1 <= P.1 + 1; omega,?_,fun k hk => ?_,fun k hk => ?_,?_⟩
  ·show (Du P.2 i c 0).turn.fro = 0
   unfold Du
   rcases Nat.eq_zero_or_pos i with e | e
   ·subst e; rw [if_neg (by omega),if_pos rfl]; exact h.beg
   rw [if_pos e]; exact h.beg
  ·have hk : k < P.1 + 1 := hk
   show (Du P.2 i c k).turn.fro < (Du P.2 i c k).turn.til
   unfold Du
   split
   ·exact h.lt k (by omega)
   split
   ·exact c1
   split
   ·exact c2
   exact h.lt (k - 1) (by omega)
  ·have hk : k + 1 < P.1 + 1 := hk
   show (Du P.2 i c (k + 1)).turn.fro = (Du P.2 i c k).turn.til
   unfold Du
   by_cases e1 : k + 1 < i
   ·rw [if_pos e1,if_pos (show k < i by omega)]; exact h.nxt k (by omega)
   by_cases e2 : k + 1 = i
   ·rw [if_neg e1,if_pos e2,if_pos (show k < i by omega),<- e2]; exact h.nxt k (by omega)
   by_cases e3 : k = i
   ·rw [if_neg e1,if_neg e2,if_pos (by omega),if_neg (show ¬ k < i by omega),if_pos e3]
   by_cases e4 : k = i + 1
   ·rw [if_neg e1,if_neg e2,if_neg (show ¬ k + 1 = i + 1 by omega),if_neg (show ¬ k < i by omega),if_neg e3,if_pos e4,e4]
    exact h.nxt i (by omega)
   rw [if_neg e1,if_neg e2,if_neg (show ¬ k + 1 = i + 1 by omega),if_neg (show ¬ k < i by omega),if_neg e3,if_neg e4]
   have := h.nxt (k - 1) (by omega)
   rw [show k - 1 + 1 = k by omega] at this
   rw [Nat.add_sub_cancel]
   exact this
  show (Du P.2 i c (P.1 + 1 - 1)).turn.til = N
  rw [Nat.add_sub_cancel]
  unfold Du
  rw [if_neg (by omega),if_neg (by omega)]
  by_cases e : P.1 = i + 1
  ·rw [if_pos e,show i = P.1 - 1 by omega]; exact h.fin
  rw [if_neg e]; exact h.fin
 exact h
theorem RL (P : Pz) (c : Int) : ∀ k,k < (CK P c).1 -> ∃ i,i < P.1 /\ (P.2 i).turn.fro <= ((CK P c).2 k).turn.fro /\ ((CK P c).2 k).turn.til <= (P.2 i).turn.til /\ ((CK P c).2 k).owner = (P.2 i).owner /\ ((CK P c).2 k).lent = (P.2 i).lent /\ ((CK P c).2 k).til = (P.2 i).til := by
 intro k
 unfold CK
 split
 ·rename_i hi
  have hc : Km P c (Ci (Km P c) P.1) := by
   rcases A7 (Km P c) P.1 with ⟨_,b,_⟩ | ⟨a,_⟩
   ·exact b
   omega
  generalize Ci (Km P c) P.1 = i at *
  obtain ⟨c1,c2⟩ := hc
  intro hk
  have hk : k < P.1 + 1 := hk
  show ∃ j,j < P.1 /\ (P.2 j).turn.fro <= (Du P.2 i c k).turn.fro /\ (Du P.2 i c k).turn.til <= (P.2 j).turn.til /\ (Du P.2 i c k).owner = (P.2 j).owner /\ (Du P.2 i c k).lent = (P.2 j).lent /\ (Du P.2 i c k).til = (P.2 j).til
  unfold Du
  split
  ·exact ⟨k,by omega,Int.le_refl _,Int.le_refl _,rfl,rfl,rfl⟩
  split
  ·exact ⟨i,hi,Int.le_refl _,by show c <= _; omega,rfl,rfl,rfl⟩
  split
  ·exact ⟨i,hi,by show _ <= c; omega,Int.le_refl _,rfl,rfl,rfl⟩
  exact ⟨k - 1,by omega,Int.le_refl _,Int.le_refl _,rfl,rfl,rfl⟩
 intro hk
 exact ⟨k,hk,Int.le_refl _,Int.le_refl _,rfl,rfl,rfl⟩
theorem I7 {P : Pz} (h : Rp P b) (c : Int) : Rp (CK P c) b := by
 refine ⟨fun k hk m h1 h2 => ?_,fun k hk m h1 h2 => ?_,fun k hk m h1 h2 h3 => ?_⟩
 all_goals
  obtain ⟨i,hi,p1,p2,p3,p4,p5⟩ := RL P c k hk
 ·rw [p3]; exact h.ow i hi m (by omega) (by omega)
 ·rw [p4]; exact h.le i hi m (by omega) (by omega)
 rw [p5]; exact h.un i hi m (by omega) (by omega) (by rw [<- p4]; exact h3)
theorem Ok {P : Pz} {a : Int} (c : Int) (h : ∃ i,i < P.1 /\ (P.2 i).turn.fro = a) : ∃ i,i < (CK P c).1 /\ ((CK P c).2 i).turn.fro = a := by
 obtain ⟨j,hj,hp⟩ := h
 unfold CK
 split
 ·rename_i hi
  generalize Ci (Km P c) P.1 = i at *
  by_cases e : j <= i
  ·refine ⟨j,by show j < P.1 + 1; omega,?_⟩
   show (Du P.2 i c j).turn.fro = a
   unfold Du
   by_cases e1 : j < i
   ·rw [if_pos e1]; exact hp
   rw [if_neg e1,if_pos (by omega),<- hp,show i = j by omega]
  refine ⟨j + 1,by show j + 1 < P.1 + 1; omega,?_⟩
  show (Du P.2 i c (j + 1)).turn.fro = a
  unfold Du
  rw [if_neg (by omega),if_neg (by omega),if_neg (by omega),Nat.add_sub_cancel]; exact hp
 exact ⟨j,hj,hp⟩
theorem Rr {P : Pz} (h : By N P) {c : Int} (h0 : 0 <= c) (h1 : c < N) : ∃ i,i < (CK P c).1 /\ ((CK P c).2 i).turn.fro = c := by
 rcases A7 (Km P c) P.1 with ⟨a,b,_⟩ | ⟨a,b⟩
 ·unfold CK
  rw [if_pos a]
  generalize Ci (Km P c) P.1 = i at *
  refine ⟨i + 1,by show i + 1 < P.1 + 1; omega,?_⟩
  show (Du P.2 i c (i + 1)).turn.fro = c
  unfold Du
  rw [if_neg (by omega),if_neg (by omega),if_pos rfl]
 obtain ⟨i,i1,i2,i3⟩ := h.at h0 h1
 refine Ok c ⟨i,i1,?_⟩
 have := b i i1
 unfold Km at this
 omega
theorem V6 {P : Pz} (h : By N P) {c : Int} (h0 : 0 < c) (h1 : c <= N) : ∃ i,i < (CK P c).1 /\ ((CK P c).2 i).turn.til = c := by
 have hk := Ic h c
 by_cases e : c = N
 ·exact ⟨(CK P c).1 - 1,by have := hk.pos; omega,by rw [hk.fin,e]⟩
 obtain ⟨i,i1,i2⟩ := Rr h (show 0 <= c by omega) (show c < N by omega)
 have i0 : 0 < i := by
  rcases Nat.eq_zero_or_pos i with z | z
  ·subst z; have := hk.beg; omega
  exact z
 have := hk.nxt (i - 1) (by omega)
 rw [show i - 1 + 1 = i by omega] at this
 exact ⟨i - 1,by omega,by omega⟩
noncomputable def Ce (P : Pz) (t : Tu) : Pz := CK (CK P t.fro) t.til
noncomputable def Cf (P : Pz) (t : Tu) : Nat := Ci (fun i => (P.2 i).turn.fro = t.fro) P.1
noncomputable def CN (P : Pz) (t : Tu) : Nat := Ci (fun i => (P.2 i).turn.til = t.til) P.1
structure Nj (N : Nat) (P : Pz) (t : Tu) : Prop where
 ok : By N P
 f : Cf P t < P.1
 l : CN P t < P.1
 ff : (P.2 (Cf P t)).turn.fro = t.fro
 ll : (P.2 (CN P t)).turn.til = t.til
 fl : Cf P t <= CN P t
theorem Kz {P : Pz} (h : By N P) {t : Tu} (h0 : 0 <= t.fro) (h1 : t.fro < t.til) (h2 : t.til <= N) : Nj N (Ce P t) t := by
 have k1 := Ic h t.fro
 have k2 : By N (Ce P t) := Ic k1 t.til
 have a : ∃ i,i < (Ce P t).1 /\ ((Ce P t).2 i).turn.fro = t.fro := Ok t.til (Rr h h0 (by omega))
 have b : ∃ i,i < (Ce P t).1 /\ ((Ce P t).2 i).turn.til = t.til := V6 k1 (by omega) h2
 have a' : Cf (Ce P t) t < (Ce P t).1 /\ ((Ce P t).2 (Cf (Ce P t) t)).turn.fro = t.fro := by
  rcases A7 (fun i => ((Ce P t).2 i).turn.fro = t.fro) (Ce P t).1 with ⟨x,y,_⟩ | ⟨_,z⟩
  ·exact ⟨x,y⟩
  obtain ⟨i,i1,i2⟩ := a; exact absurd i2 (z i i1)
 have b' : CN (Ce P t) t < (Ce P t).1 /\ ((Ce P t).2 (CN (Ce P t) t)).turn.til = t.til := by
  rcases A7 (fun i => ((Ce P t).2 i).turn.til = t.til) (Ce P t).1 with ⟨x,y,_⟩ | ⟨_,z⟩
  ·exact ⟨x,y⟩
  obtain ⟨i,i1,i2⟩ := b; exact absurd i2 (z i i1)
 refine ⟨k2,a'.1,b'.1,a'.2,b'.2,?_⟩
 apply Classical.byContradiction
 intro hn
 have := k2.mono (show CN (Ce P t) t < Cf (Ce P t) t by omega) a'.1
 omega
theorem Nj.mem {P : Pz} {t : Tu} (h : Nj N P t) (hi : i < P.1) {m : Nat} (m1 : (P.2 i).turn.fro <= m) (m2 : (m : Int) < (P.2 i).turn.til) : (t.fro <= m /\ (m : Int) < t.til) ↔ (Cf P t <= i /\ i <= CN P t) := by
 constructor
 ·rintro ⟨a,b⟩
  constructor
  ·apply Classical.byContradiction
   intro hn
   have := h.ok.mono (show i < Cf P t by omega) h.f
   have := h.ff
   omega
  apply Classical.byContradiction
  intro hn
  have := h.ok.mono (show CN P t < i by omega) hi
  have := h.ll
  omega
 rintro ⟨a,b⟩
 constructor
 ·by_cases e : i = Cf P t
  ·rw [<- h.ff,<- e]; exact m1
  have := h.ok.mono (show Cf P t < i by omega) hi
  have := h.ff
  have := h.ok.lt _ h.f
  omega
 by_cases e : i = CN P t
 ·rw [<- h.ll,<- e]; exact m2
 have := h.ok.mono (show i < CN P t by omega) h.l
 have := h.ll
 have := h.ok.lt _ h.l
 omega
theorem Wu {P : Pz} {x : De} (h : Nj N P x.turn) (hr : Rp P b) (h0 : 0 <= x.turn.fro) : HW b x ↔ ∀ i,Cf P x.turn <= i -> i <= CN P x.turn -> (P.2 i).owner = x.fro := by
 constructor
 ·intro hh i i1 i2
  have hi : i < P.1 := by have := h.l; omega
  have hl := h.ok.lt i hi
  have h3 := (h.ok.rng hi).1
  have hm : (((P.2 i).turn.fro.toNat : Nat) : Int) = (P.2 i).turn.fro := Int.toNat_of_nonneg h3
  obtain ⟨q1,q2⟩ := (h.mem hi (m := (P.2 i).turn.fro.toNat) (by omega) (by omega)).2 ⟨i1,i2⟩
  rw [<- hr.ow i hi (P.2 i).turn.fro.toNat (by omega) (by omega)]
  exact hh _ q1 q2
 intro hh m m1 m2
 obtain ⟨i,i1,i2,i3⟩ := h.ok.at (m := m) (by omega) (by have := (h.ok.rng h.l).2; have := h.ll; omega)
 obtain ⟨q1,q2⟩ := (h.mem i1 i2 i3).1 ⟨m1,m2⟩
 rw [hr.ow i i1 m i2 i3]
 exact hh i q1 q2
theorem Wv {P : Pz} {x : De} (h : Nj N P x.turn) (hr : Rp P b) (h0 : 0 <= x.turn.fro) : Ld b x ↔ ∀ i,Cf P x.turn <= i -> i <= CN P x.turn -> ¬ ((P.2 i).lent ≠ 0 /\ x.day < (P.2 i).til) := by
 constructor
 ·intro hh i i1 i2
  have hi : i < P.1 := by have := h.l; omega
  have hl := h.ok.lt i hi
  have h3 := (h.ok.rng hi).1
  have hm : (((P.2 i).turn.fro.toNat : Nat) : Int) = (P.2 i).turn.fro := Int.toNat_of_nonneg h3
  obtain ⟨q1,q2⟩ := (h.mem hi (m := (P.2 i).turn.fro.toNat) (by omega) (by omega)).2 ⟨i1,i2⟩
  rintro ⟨a,c⟩
  refine hh _ q1 q2 ⟨?_,?_⟩
  ·rw [hr.le i hi _ (by omega) (by omega)]; exact a
  rw [hr.un i hi _ (by omega) (by omega) a]; exact c
 intro hh m m1 m2
 obtain ⟨i,i1,i2,i3⟩ := h.ok.at (m := m) (by omega) (by have := (h.ok.rng h.l).2; have := h.ll; omega)
 obtain ⟨q1,q2⟩ := (h.mem i1 i2 i3).1 ⟨m1,m2⟩
 rintro ⟨a,c⟩
 rw [hr.le i i1 m i2 i3] at a
 rw [hr.un i i1 m i2 i3 a] at c
 exact hh i q1 q2 ⟨a,c⟩
end Go.Proofs.YtlieoghhkioflaaGreat
namespace Go.Proofs.YtlieoghhkioflaaGreat
open Go Go.RowKit
variable {b : Bk} {N : Nat} {P : Pz}
def setO (P : Pz) (f l : Nat) (v : Int) : Pz := (P.1,fun k => if f <= k /\ k <= l then { P.2 k with owner := v } else P.2 k)
def LR (P : Pz) (f l : Nat) (v u : Int) : Pz := (P.1,fun k => if f <= k /\ k <= l then { P.2 k with lent := v,til := u } else P.2 k)
theorem E8 (P : Pz) (f l : Nat) (v : Int) (k : Nat) : ((setO P f l v).2 k).turn = (P.2 k).turn := by
 show (if f <= k /\ k <= l then { P.2 k with owner := v } else P.2 k).turn = _
 split <;> rfl
theorem KE (P : Pz) (f l : Nat) (v u : Int) (k : Nat) : ((LR P f l v u).2 k).turn = (P.2 k).turn := by
 show (if f <= k /\ k <= l then { P.2 k with lent := v,til := u } else P.2 k).turn = _
 split <;> rfl
theorem By.same {Q : Pz} (h : By N P) (h1 : Q.1 = P.1) (h2 : ∀ k,(Q.2 k).turn = (P.2 k).turn) : By N Q :=
 ⟨by rw [h1]; exact h.pos,by rw [h2]; exact h.beg,fun i hi => by rw [h2]; exact h.lt i (by omega),fun i hi => by rw [h2,h2]; exact h.nxt i (by omega),by rw [h1,h2]; exact h.fin⟩
theorem NS {x : De} (h : Nj N P x.turn) (hr : Rp P b) (v : Int) : Rp (setO P (Cf P x.turn) (CN P x.turn) v) ⟨(b.ow.1,fun m => if Fh x m then v else b.ow.2 m),b.le,b.un,b.de⟩ := by
 refine ⟨fun i hi m m1 m2 => ?_,fun i hi m m1 m2 => ?_,fun i hi m m1 m2 m3 => ?_⟩
 all_goals
  have hi : i < P.1 := hi
  rw [E8] at m1 m2
 ·have hm := h.mem hi m1 m2
  show (if Fh x m then v else b.ow.2 m) = (if Cf P x.turn <= i /\ i <= CN P x.turn then { P.2 i with owner := v } else P.2 i).owner
  by_cases e : Cf P x.turn <= i /\ i <= CN P x.turn
  ·rw [if_pos e,if_pos (show Fh x m from hm.2 e)]
  rw [if_neg e,if_neg (show ¬ Fh x m from fun k => e (hm.1 k))]; exact hr.ow i hi m m1 m2
 ·show b.le.2 m = (if Cf P x.turn <= i /\ i <= CN P x.turn then { P.2 i with owner := v } else P.2 i).lent
  rw [hr.le i hi m m1 m2]; split <;> rfl
 show b.un.2 m = (if Cf P x.turn <= i /\ i <= CN P x.turn then { P.2 i with owner := v } else P.2 i).til
 have m3 : (if Cf P x.turn <= i /\ i <= CN P x.turn then { P.2 i with owner := v } else P.2 i).lent ≠ 0 := m3
 rw [hr.un i hi m m1 m2 (by split at m3 <;> exact m3)]; split <;> rfl
theorem Uf {x : De} (h : Nj N P x.turn) (hr : Rp P b) (v u : Int) : Rp (LR P (Cf P x.turn) (CN P x.turn) v u) ⟨b.ow,(b.le.1,fun m => if Fh x m then v else b.le.2 m),(b.un.1,fun m => if Fh x m then u else b.un.2 m),b.de⟩ := by
 refine ⟨fun i hi m m1 m2 => ?_,fun i hi m m1 m2 => ?_,fun i hi m m1 m2 m3 => ?_⟩
 all_goals
  have hi : i < P.1 := hi
  rw [KE] at m1 m2
  have hm := h.mem hi m1 m2
 ·show b.ow.2 m = (if Cf P x.turn <= i /\ i <= CN P x.turn then { P.2 i with lent := v,til := u } else P.2 i).owner
  rw [hr.ow i hi m m1 m2]; split <;> rfl
 ·show (if Fh x m then v else b.le.2 m) = (if Cf P x.turn <= i /\ i <= CN P x.turn then { P.2 i with lent := v,til := u } else P.2 i).lent
  by_cases e : Cf P x.turn <= i /\ i <= CN P x.turn
  ·rw [if_pos e,if_pos (show Fh x m from hm.2 e)]
  rw [if_neg e,if_neg (show ¬ Fh x m from fun k => e (hm.1 k))]; exact hr.le i hi m m1 m2
 have m3 : (if Cf P x.turn <= i /\ i <= CN P x.turn then { P.2 i with lent := v,til := u } else P.2 i).lent ≠ 0 := m3
 show (if Fh x m then u else b.un.2 m) = (if Cf P x.turn <= i /\ i <= CN P x.turn then { P.2 i with lent := v,til := u } else P.2 i).til
 by_cases e : Cf P x.turn <= i /\ i <= CN P x.turn
 ·rw [if_pos e,if_pos (show Fh x m from hm.2 e)]
 rw [if_neg e] at m3
 rw [if_neg e,if_neg (show ¬ Fh x m from fun k => e (hm.1 k))]; exact hr.un i hi m m1 m2 m3
def WG (r : Ro) : Pz := (r.holds.1,fun i => ⟨(r.holds.2 i).turn,(r.holds.2 i).who,0,0⟩)
theorem UP {r : Ro} (h : Fq r) : By (AE r) (WG r) := by
 obtain ⟨h1,h2,h3,h4,h5,h6⟩ := h
 have hN : ((AE r : Nat) : Int) = 1440 * r.days := by unfold AE; omega
 refine ⟨h3,?_,fun i hi => (h5 i hi).2.2.2.1,fun i hi => ?_,?_⟩
 ·exact (h5 0 (by omega)).2.2.1
 ·have := (h5 (i + 1) hi).2.2.1
  unfold FA at this
  rw [if_neg (by omega)] at this
  exact this
 unfold FA at h6
 rw [if_neg (by omega)] at h6
 exact h6.trans hN.symm
theorem XL {r : Ro} (h : Fq r) : Rp (WG r) (Ud r) := by
 have hk := UP h
 refine ⟨fun i hi m m1 m2 => ?_,fun i hi m m1 m2 => rfl,fun i hi m m1 m2 m3 => absurd rfl m3⟩
 show (r.holds.2 (Ci (fun i => (m : Int) < (r.holds.2 i).turn.til) r.holds.1)).who = (r.holds.2 i).who
 have : Ci (fun i => (m : Int) < (r.holds.2 i).turn.til) r.holds.1 = i := DT hi m2 fun j hj => by
  have h1 : (r.holds.2 j).turn.til <= ((WG r).2 i).turn.fro := hk.mono hj hi
  intro k
  omega
 rw [this]
theorem NZ (hr : Rp P b) (d : Int) {i : Nat} (hi : i < P.1) {m : Nat} (m1 : (P.2 i).turn.fro <= m) (m2 : (m : Int) < (P.2 i).turn.til) : (if (P.2 i).lent ≠ 0 /\ d < (P.2 i).til then (P.2 i).lent else (P.2 i).owner) = if b.le.2 m ≠ 0 /\ d < b.un.2 m then b.le.2 m else b.ow.2 m := by
 have e1 := hr.le i hi m m1 m2
 have e2 := hr.ow i hi m m1 m2
 rw [e1,e2]
 by_cases e : (P.2 i).lent = 0
 ·rw [if_neg (fun k => k.1 e),if_neg (fun k => k.1 e)]
 rw [hr.un i hi m m1 m2 e]
end Go.Proofs.YtlieoghhkioflaaGreat
namespace Go.Proofs.YtlieoghhkioflaaGreat
open Go Go.RowKit
variable {N c : Nat} {P : Pz}
def EF (ow : Nat -> Int) (f : Int) (m : Nat) : Nat := D6 (fun q => decide (ow q = f)) m
theorem Ot (ow : Nat -> Int) (f : Int) (m : Nat) : EF ow f (m + 1) = if ow m = f then EF ow f m + 1 else EF ow f m := by
 show D6 _ (m + 1) = _
 rw [D6]; simp only [decide_eq_true_eq]; rfl
theorem QC (ow : Nat -> Int) (f : Int) {a b : Nat} (h : a <= b) : EF ow f a <= EF ow f b := MT _ h
theorem IF (ow : Nat -> Int) (f : Int) : ∀ a,c < EF ow f a -> ∃ q,q < a /\ ow q = f /\ EF ow f q = c
 | 0,h => absurd h (Nat.not_lt_zero _)
 | a + 1,h => by
  rw [Ot] at h
  by_cases e : ow a = f
  ·rw [if_pos e] at h
   by_cases e2 : EF ow f a = c
   ·exact ⟨a,by omega,e,e2⟩
   obtain ⟨q,h1,h2⟩ := IF ow f a (by omega); exact ⟨q,by omega,h2⟩
  rw [if_neg e] at h
  obtain ⟨q,h1,h2⟩ := IF ow f a h; exact ⟨q,by omega,h2⟩
theorem Li (ow : Nat -> Int) (f : Int) {a : Nat} : ∀ d,(∀ q,a <= q -> q < a + d -> ow q = f) -> EF ow f (a + d) = EF ow f a + d
 | 0,_ => rfl
 | d + 1,h => by
  rw [<- Nat.add_assoc,Ot,if_pos (h (a + d) (by omega) (by omega)),Li ow f d fun q h1 h2 => h q h1 (by omega)]; omega
def dW (ow : Nat -> Int) (f : Int) (g : Nat -> Int) (c m : Nat) : Int := if ow m = f /\ EF ow f m < c then g (EF ow f m) else ow m
noncomputable def Fk (P : Pz) (f : Int) : Nat := Ci (fun i => (P.2 i).owner = f) P.1
theorem Qa (h : By N P) {k : Nat} (hk : k < P.1) {e : Int} (h1 : (P.2 k).turn.fro < e) (h2 : e <= (P.2 k).turn.til) : k < (CK P e).1 /\ (CK P e).2 k = { P.2 k with turn := ⟨(P.2 k).turn.fro,e⟩ } := by
 by_cases e1 : e = (P.2 k).turn.til
 ·have : Ci (Km P e) P.1 = P.1 := Ll fun j hj ⟨c1,c2⟩ => by
   rcases Nat.lt_trichotomy j k with c | c | c
   ·have := h.mono c hk; omega
   ·subst c; omega
   have := h.mono c hj; omega
  unfold CK
  rw [this,if_neg (Nat.lt_irrefl _),e1]
  exact ⟨hk,rfl⟩
 have : Ci (Km P e) P.1 = k := DT hk ⟨h1,by omega⟩ fun j hj ⟨c1,c2⟩ => by have := h.mono hj hk; omega
 unfold CK
 rw [this,if_pos hk]
 refine ⟨by show k < P.1 + 1; omega,?_⟩
 show Du P.2 k e k = _
 unfold Du
 rw [if_neg (Nat.lt_irrefl _),if_pos rfl]
theorem Ff {le un : Nat × (Nat -> Int)} {de : Nat × (Nat -> Bool)} {n : Nat} {ow : Nat -> Int} {f : Int} {g : Nat -> Int} (hk : By N P) (hr : Rp P ⟨(n,dW ow f g c),le,un,de⟩) (hg : ∀ j,g j ≠ f) (hc : c < EF ow f N) :
  ∃ a : Nat,Fk P f < P.1 /\ (P.2 (Fk P f)).turn.fro = a /\ EF ow f a = c /\ (∀ q,q < a -> ow q = f -> EF ow f q < c) /\ ∀ q : Nat,a <= q -> (q : Int) < (P.2 (Fk P f)).turn.til -> ow q = f := by
 have no : ∀ m,dW ow f g c m = f -> ow m = f /\ c <= EF ow f m := fun m h => by
  unfold dW at h
  by_cases e : ow m = f /\ EF ow f m < c
  ·rw [if_pos e] at h; exact absurd h (hg _)
  rw [if_neg e] at h; exact ⟨h,by
   apply Classical.byContradiction
   intro k; exact e ⟨h,by omega⟩⟩
 have hf : Fk P f < P.1 /\ (P.2 (Fk P f)).owner = f /\ ∀ j,j < Fk P f -> ¬ (P.2 j).owner = f := by
  rcases A7 (fun i => (P.2 i).owner = f) P.1 with h | ⟨_,h⟩
  ·exact h
  obtain ⟨q,q1,q2,q3⟩ := IF ow f N hc
  obtain ⟨i,i1,i2,i3⟩ := hk.at (m := q) (by omega) (by omega)
  have h1 : dW ow f g c q = (P.2 i).owner := hr.ow i i1 q i2 i3
  have h2 : dW ow f g c q = f := by unfold dW; rw [if_neg (by omega)]; exact q2
  exact absurd (h1.symm.trans h2) (h i i1)
 obtain ⟨f1,f2,f3⟩ := hf
 generalize Fk P f = k at *
 have h0 := (hk.rng f1).1
 obtain ⟨a,ha⟩ : ∃ a : Nat,(P.2 k).turn.fro = a := ⟨(P.2 k).turn.fro.toNat,(Int.toNat_of_nonneg h0).symm⟩
 have hl := hk.lt k f1
 have hN := (hk.rng f1).2
 have inn : ∀ q : Nat,a <= q -> (q : Int) < (P.2 k).turn.til -> ow q = f /\ c <= EF ow f q := fun q q1 q2 => no q (by
  have : dW ow f g c q = (P.2 k).owner := hr.ow k f1 q (by omega) q2
  rw [this,f2])
 have bef : ∀ q,q < a -> ow q = f -> EF ow f q < c := fun q q1 q2 => by
  obtain ⟨i,i1,i2,i3⟩ := hk.at (m := q) (by omega) (by omega)
  have ik : i < k := by
   apply Classical.byContradiction
   intro e
   by_cases e2 : i = k
   ·subst e2; omega
   have := hk.mono (show k < i by omega) i1; omega
  have h1 : dW ow f g c q = (P.2 i).owner := hr.ow i i1 q i2 i3
  apply Classical.byContradiction
  intro e
  refine f3 i ik ?_
  rw [<- h1]; unfold dW; rw [if_neg (by omega)]; exact q2
 refine ⟨a,f1,ha,?_,bef,fun q q1 q2 => (inn q q1 q2).1⟩
 have h1 := (inn a (Nat.le_refl _) (by omega)).2
 apply Classical.byContradiction
 intro e
 obtain ⟨q,q1,q2,q3⟩ := IF ow f a (show c < EF ow f a by omega)
 have := bef q q1 q2
 omega
theorem Ml {le un : Nat × (Nat -> Int)} {de : Nat × (Nat -> Bool)} {n : Nat} {ow : Nat -> Int} {f : Int} {g : Nat -> Int} (hk : By N P) (hr : Rp P ⟨(n,dW ow f g c),le,un,de⟩) (hg : ∀ j,g j ≠ f) (hc : c < EF ow f N) {e v : Int} {L : Nat}
  (e1 : (P.2 (Fk P f)).turn.fro < e) (e2 : e <= (P.2 (Fk P f)).turn.til) (eL : e = (P.2 (Fk P f)).turn.fro + L) (hv : ∀ j,c <= j -> j < c + L -> g j = v) :
  By N (setO (CK P e) (Fk P f) (Fk P f) v) /\ Rp (setO (CK P e) (Fk P f) (Fk P f) v) ⟨(n,dW ow f g (c + L)),le,un,de⟩ /\ Fk P f < (CK P e).1 /\ ((CK P e).2 (Fk P f)).turn = ⟨(P.2 (Fk P f)).turn.fro,e⟩ := by
 obtain ⟨a,f1,ha,hca,bef,inn⟩ := Ff hk hr hg hc
 have hq := Ic hk e
 have hrq := I7 hr e
 obtain ⟨g1,g2⟩ := Qa hk f1 e1 e2
 generalize Fk P f = k at *
 generalize hQ : CK P e = Q at *
 have ht : (Q.2 k).turn = ⟨(P.2 k).turn.fro,e⟩ := by rw [g2]
 have run : ∀ q : Nat,a <= q -> (q : Int) <= e -> EF ow f q = c + (q - a) := fun q q1 q2 => by
  have := Li ow f (a := a) (q - a) fun p p1 p2 => inn p p1 (by omega)
  rw [show a + (q - a) = q by omega,hca] at this
  exact this
 refine ⟨hq.same rfl (E8 Q k k v),⟨fun i hi m m1 m2 => ?_,fun i hi m m1 m2 => ?_,fun i hi m m1 m2 m3 => ?_⟩,g1,ht⟩
 all_goals
  have hi : i < Q.1 := hi
  rw [E8] at m1 m2
 ·show dW ow f g (c + L) m = (if k <= i /\ i <= k then { Q.2 i with owner := v } else Q.2 i).owner
  by_cases ei : i = k
  ·subst ei
   rw [if_pos ⟨Nat.le_refl _,Nat.le_refl _⟩]
   rw [ht] at m1 m2
   have m1 : (P.2 i).turn.fro <= (m : Int) := m1
   have m2 : (m : Int) < e := m2
   have hr1 := run m (by omega) (by omega)
   unfold dW
   rw [if_pos ⟨inn m (by omega) (by omega),by omega⟩]
   exact hv _ (by omega) (by omega)
  rw [if_neg (by omega)]
  have h1 : dW ow f g c m = (Q.2 i).owner := hrq.ow i hi m m1 m2
  rw [<- h1]
  unfold dW
  have key : (ow m = f /\ EF ow f m < c + L) ↔ (ow m = f /\ EF ow f m < c) := by
   constructor
   ·rintro ⟨x,y⟩
    refine ⟨x,?_⟩
    by_cases ma : m < a
    ·exact bef m ma x
    by_cases me : (m : Int) < e
    ·exfalso
     refine ei (hq.one hi g1 m1 m2 ?_ ?_)
     ·rw [ht]; show (P.2 k).turn.fro <= (m : Int); omega
     rw [ht]; show (m : Int) < e; exact me
    have h3 := QC ow f (show a + L <= m by omega)
    have h4 := run (a + L) (by omega) (by omega)
    omega
   rintro ⟨x,y⟩
   exact ⟨x,by omega⟩
  simp only [key]
 ·show le.2 m = (if k <= i /\ i <= k then { Q.2 i with owner := v } else Q.2 i).lent
  rw [show le.2 m = (Q.2 i).lent from hrq.le i hi m m1 m2]; split <;> rfl
 show un.2 m = (if k <= i /\ i <= k then { Q.2 i with owner := v } else Q.2 i).til
 have m3 : (if k <= i /\ i <= k then { Q.2 i with owner := v } else Q.2 i).lent ≠ 0 := m3
 rw [show un.2 m = (Q.2 i).til from hrq.un i hi m m1 m2 (by split at m3 <;> exact m3)]; split <;> rfl
def CF (P : Pz) (f : Int) (j : Nat) : Pz := (P.1,fun k => if k < j /\ (P.2 k).lent = f then { P.2 k with lent := 0,til := 0 } else P.2 k)
theorem QD {b : Bk} (h : Rp P b) (f : Int) : Rp (CF P f P.1) ⟨b.ow,(b.le.1,fun m => if b.le.2 m = f then 0 else b.le.2 m),b.un,b.de⟩ := by
 have ht : ∀ k,((CF P f P.1).2 k).turn = (P.2 k).turn := fun k => by
  show (if k < P.1 /\ (P.2 k).lent = f then { P.2 k with lent := 0,til := 0 } else P.2 k).turn = _
  split <;> rfl
 refine ⟨fun i hi m m1 m2 => ?_,fun i hi m m1 m2 => ?_,fun i hi m m1 m2 m3 => ?_⟩
 all_goals
  have hi : i < P.1 := hi
  rw [ht] at m1 m2
 ·show b.ow.2 m = (if i < P.1 /\ (P.2 i).lent = f then { P.2 i with lent := 0,til := 0 } else P.2 i).owner
  rw [h.ow i hi m m1 m2]; split <;> rfl
 ·show (if b.le.2 m = f then 0 else b.le.2 m) = (if i < P.1 /\ (P.2 i).lent = f then { P.2 i with lent := 0,til := 0 } else P.2 i).lent
  rw [h.le i hi m m1 m2]
  by_cases e : (P.2 i).lent = f
  ·rw [if_pos e,if_pos ⟨hi,e⟩]
  rw [if_neg e,if_neg fun k => e k.2]
 show b.un.2 m = (if i < P.1 /\ (P.2 i).lent = f then { P.2 i with lent := 0,til := 0 } else P.2 i).til
 have m3 : (if i < P.1 /\ (P.2 i).lent = f then { P.2 i with lent := 0,til := 0 } else P.2 i).lent ≠ 0 := m3
 by_cases e : i < P.1 /\ (P.2 i).lent = f
 ·rw [if_pos e] at m3; exact absurd rfl m3
 rw [if_neg e] at m3 ⊢; exact h.un i hi m m1 m2 m3
end Go.Proofs.YtlieoghhkioflaaGreat
