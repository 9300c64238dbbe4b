/- Deeds: the reference's checks. No condition. -/
import Derived.Test.YtlieoghhkioflaaGreatLDez
import Derived.Test.YtlieoghhkioflaaGreatACode1
set_option linter.unusedSimpArgs false
set_option linter.unusedVariables false
set_option maxRecDepth 100000
namespace Go.Proofs.YtlieoghhkioflaaGreat
open Go Go.RowKit
variable {G : Nat -> Option (Nat × (Nat -> Ae))}
abbrev J3 := Nat × (Nat -> De)
noncomputable def NG (r : Ro) (l : J3) : Bool := A8 (80 < r.holds.1 \/ 80 < l.1 \/ ∃ i,i < l.1 /\ 12 < (l.2 i).heirs.1)
noncomputable def Gh : Ay := Cs JS (DQ Fx) (fun _ _ => True) fun r l => .bool (NG r l)
theorem UA : Ai Tryz.prog G 14 Gh := by
 refine MC (S := []) (I := []) mixed .nil .nil Tryz.func14 c14 fun r l _ hw => ?_
 simp only [Nat.reduceSub,Nat.reducePow,go_sem] at hw
 obtain ⟨w1,w2⟩ := hw
 simp only [A9,Z1,w1,w2,↓reduceIte,reduceCtorEq,Nat.reduceEqDiff,Nat.reduceAdd,Nat.reduceSub,Nat.reducePow,go_sem]
 refine ⟨fun h1 => (AF (.inl (by omega))).symm,fun h1 => ⟨fun h2 => (AF (.inr (.inl (by omega)))).symm,fun h2 => ?_⟩⟩
 refine AJ (ι := Nat) (fun j => j <= l.1 /\ ∀ i,i < j -> (l.2 i).heirs.1 <= 12) (fun j => l.1 - j) [1] (fun j => [(5,.int .i64 j)]) (fun _ => []) 0 ⟨by omega,fun i h => by omega⟩ (by simp only [↓reduceIte,reduceCtorEq,Nat.reduceEqDiff,Nat.reduceLT,go_sem]; try rfl) fun j hj => ?_
 obtain ⟨hj1,hj2⟩ := hj
 simp only [w2,↓reduceIte,reduceCtorEq,Nat.reduceEqDiff,Nat.reduceSub,Nat.reducePow,go_sem]
 refine ⟨fun hlt => ⟨by omega,by omega,fun _ => ⟨fun h3 => (AF (.inr (.inr ⟨j,by omega,by omega⟩))).symm,fun h3 => ?_⟩⟩,fun hge => ?_⟩
 ·refine Ad (j + 1) ⟨by omega,fun i hi => ?_⟩ (by omega) (by simp only [↓reduceIte,Nat.reduceEqDiff,Nat.reduceLT,go_sem]; rw [BV (by omega)])
  rcases Nat.lt_or_ge i j with h5 | h5
  ·exact hj2 i h5
  obtain rfl : i = j := by omega
  omega
 refine (An fun k => ?_).symm
 rcases k with k | k | ⟨i,k1,k2⟩
 ·omega
 ·omega
 have := hj2 i (by omega); omega
noncomputable def DO : Ay := Cs (DQ JT) (DQ JT) (fun _ _ => True) fun a b => .bool (OC a b)
theorem ZC {a b : Ho} : (a.who == b.who && (a.turn.fro == b.turn.fro && a.turn.til == b.turn.til)) = true ↔ a = b := by
 obtain ⟨a1,⟨a2,a3⟩⟩ := a; obtain ⟨b1,⟨b2,b3⟩⟩ := b; simp []
theorem TB : Ai Tryz.prog G 22 DO := by
 refine MC (S := []) (I := []) mixed .nil .nil Tryz.func22 c22 fun a b _ hw => ?_
 simp only [Nat.reduceSub,Nat.reducePow,go_sem] at hw
 obtain ⟨w1,w2⟩ := hw
 simp only [A9,a22,w1,w2,↓reduceIte,reduceCtorEq,Nat.reduceEqDiff,Nat.reduceSub,Nat.reducePow,go_sem]
 refine ⟨fun h => (An fun k => h (by omega)).symm,fun h => ?_⟩
 refine AJ (ι := Nat) (fun j => j <= a.1 /\ ∀ i,i < j -> a.2 i = b.2 i) (fun j => a.1 - j) [0,1] (fun j => [(5,.int .i64 j)]) (fun _ => []) 0 ⟨by omega,fun i h => by omega⟩ (by simp only [↓reduceIte,reduceCtorEq,Nat.reduceEqDiff,go_sem]; try rfl) fun j hj => ?_
 obtain ⟨hj1,hj2⟩ := hj
 simp only [w1,↓reduceIte,reduceCtorEq,Nat.reduceEqDiff,Nat.reduceAdd,Nat.reduceSub,Nat.reducePow,go_sem]
 refine ⟨fun hlt => ⟨by omega,by omega,by omega,by omega,fun h1 => (An fun k => ?_).symm,fun h1 => Ad (j + 1) ⟨by omega,fun i hi => ?_⟩ (by omega) ?_⟩,fun hge => ?_⟩
 ·rw [k.2 j (by omega)] at h1; simp at h1
 ·rcases Nat.lt_or_ge i j with h5 | h5
  ·exact hj2 i h5
  obtain rfl : i = j := by omega
  exact ZC.1 h1
 ·simp only [↓reduceIte,reduceCtorEq,Nat.reduceEqDiff,go_sem]
  rw [BV (by omega)]
 exact (AF ⟨by omega,fun i hi => hj2 i (by omega)⟩).symm
noncomputable def Gt : Ay := Cs (DQ ME) (DQ ME) (fun _ _ => True) fun a b => .bool (OC a b)
theorem Zw {a b : Hs} : (a.who == b.who && a.mins == b.mins) = true ↔ a = b := by
 obtain ⟨a1,a2⟩ := a; obtain ⟨b1,b2⟩ := b; simp []
theorem Uh : Ai Tryz.prog G 23 Gt := by
 refine MC (S := []) (I := []) mixed .nil .nil Tryz.func23 c23 fun a b _ hw => ?_
 simp only [Nat.reduceSub,Nat.reducePow,go_sem] at hw
 obtain ⟨w1,w2⟩ := hw
 simp only [A9,a23,w1,w2,↓reduceIte,reduceCtorEq,Nat.reduceEqDiff,Nat.reduceSub,Nat.reducePow,go_sem]
 refine ⟨fun h => (An fun k => h (by omega)).symm,fun h => ?_⟩
 refine AJ (ι := Nat) (fun j => j <= a.1 /\ ∀ i,i < j -> a.2 i = b.2 i) (fun j => a.1 - j) [0,1] (fun j => [(5,.int .i64 j)]) (fun _ => []) 0 ⟨by omega,fun i h => by omega⟩ (by simp only [↓reduceIte,reduceCtorEq,Nat.reduceEqDiff,go_sem]; try rfl) fun j hj => ?_
 obtain ⟨hj1,hj2⟩ := hj
 simp only [w1,↓reduceIte,reduceCtorEq,Nat.reduceEqDiff,Nat.reduceAdd,Nat.reduceSub,Nat.reducePow,go_sem]
 refine ⟨fun hlt => ⟨by omega,by omega,by omega,by omega,fun h1 => (An fun k => ?_).symm,fun h1 => Ad (j + 1) ⟨by omega,fun i hi => ?_⟩ (by omega) ?_⟩,fun hge => ?_⟩
 ·rw [k.2 j (by omega)] at h1; simp at h1
 ·rcases Nat.lt_or_ge i j with h5 | h5
  ·exact hj2 i h5
  obtain rfl : i = j := by omega
  exact Zw.1 h1
 ·simp only [↓reduceIte,reduceCtorEq,Nat.reduceEqDiff,go_sem]
  rw [BV (by omega)]
 exact (AF ⟨by omega,fun i hi => hj2 i (by omega)⟩).symm
noncomputable def Ek (n a b : Int) : Bool := A8 (a <= n /\ n <= b)
noncomputable def HP : Ay := Dq TI TI TI (fun _ _ _ => True) fun n a b => .bool (Ek n a b)
theorem Qs : Ai Tryz.prog G 59 HP := by
 refine Vl (S := []) (I := []) mixed .nil .nil Tryz.func59 c59 fun n a b _ hw => ?_
 simp only [A9,Yb,↓reduceIte,reduceCtorEq,Nat.reduceEqDiff,Nat.reduceAdd,go_sem]
 refine ⟨fun h1 => ?_,fun h1 => (An fun k => h1 k.1).symm⟩
 by_cases h2 : n <= b
 ·rw [decide_eq_true h2]; exact (AF ⟨h1,h2⟩).symm
 rw [decide_eq_false h2]; exact (An fun k => h2 k.2).symm
noncomputable def Rw : Ay := Dw TI (fun _ => True) fun n => .bool (Ek n 1 9999)
theorem W5 : Ai Tryz.prog G 69 Rw := by
 refine UO (S := [(59,HP)]) (I := []) mixed (.cons Qs .nil) .nil Tryz.func69 c69 fun n _ hw => ?_
 simp only [A9,a69,HP,↓reduceIte,reduceCtorEq,go_sem]
theorem SB {i : Nat} (h : 0 < i) (h2 : i < 9223372036854775807) : IntKind.i64.wrap ((i : Int) - 1) = ((i - 1 : Nat) : Int) := by rw [AU (by omega) (by omega)]; omega
def Wc (f : Int) (l : Nat × (Nat -> Hr)) (i : Nat) : Prop := 1 <= (l.2 i).who /\ (l.2 i).who <= 9999 /\ (l.2 i).who ≠ f /\ 1 <= (l.2 i).parts /\ (l.2 i).parts <= 1000 /\ (0 < i -> (l.2 (i - 1)).who < (l.2 i).who)
def EZ (fro : Int) (l : Nat × (Nat -> Hr)) : Prop := 1 <= l.1 /\ l.1 <= 8 /\ ∀ i,i < l.1 -> Wc fro l i
noncomputable def M2 : Ay := Cs TI (DQ ID) (fun _ _ => True) fun f l => .bool (A8 (EZ f l))
theorem WC : Ai Tryz.prog G 71 M2 := by
 refine MC (S := [(69,Rw),(59,HP)]) (I := []) mixed (.cons W5 (.cons Qs .nil)) .nil Tryz.func71 c71 fun f l _ hw => ?_
 simp only [Nat.reduceSub,Nat.reducePow,go_sem] at hw
 simp only [A9,a71,Rw,HP,hw,↓reduceIte,reduceCtorEq,Nat.reduceEqDiff,Nat.reduceSub,Nat.reducePow,go_sem,Ek,A2,BJ]
 have f1 : ((1 : Int) <= (l.1 : Int) /\ (l.1 : Int) <= 8) = (1 <= l.1 /\ l.1 <= 8) := by apply propext; omega
 refine ⟨fun h1 => (An fun k => h1 (by have := k.1; have := k.2.1; omega)).symm,fun h1 => ?_⟩
 refine AJ (ι := Nat) (fun j => j <= l.1 /\ ∀ i,i < j -> Wc f l i) (fun j => l.1 - j) [0,1] (fun j => [(5,.int .i64 j)]) (fun _ => []) 0 ⟨by omega,fun i h => by omega⟩ (by simp only [↓reduceIte,reduceCtorEq,Nat.reduceEqDiff,go_sem]; try rfl) fun j hj => ?_
 obtain ⟨hj1,hj2⟩ := hj
 simp only [hw,↓reduceIte,reduceCtorEq,Nat.reduceEqDiff,Nat.reduceSub,Nat.reduceLeDiff,Nat.reducePow,go_sem,A2,BJ]
 have no : j < l.1 -> ¬ Wc f l j -> false = A8 (EZ f l) := fun hlt h => (An fun k => h (k.2.2 j hlt)).symm
 have go : ∀ {P : Prop},Wc f l j -> P -> (∀ i,i < j + 1 -> Wc f l i) /\ P := fun h k => ⟨fun i hi => by
  rcases Nat.lt_or_ge i j with h5 | h5
  ·exact hj2 i h5
  obtain rfl : i = j := by omega
  exact h,k⟩
 refine ⟨fun hlt => ⟨by omega,by omega,fun q1 => no (by omega) fun k => q1 ⟨k.1,k.2.1⟩,fun q1 => ⟨by omega,by omega,fun q2 => no (by omega) fun k => k.2.2.1 q2,fun q2 => ⟨by omega,by omega,fun q3 => no (by omega) fun k => q3 ⟨k.2.2.2.1,k.2.2.2.2.1⟩,fun q3 => ⟨fun q4 => ?_,fun q4 => ?_⟩⟩⟩⟩,fun hge => (AF ⟨by omega,by omega,fun i hi => hj2 i (by omega)⟩).symm⟩
 ·rw [SB (by omega) (by omega),Int.toNat_natCast]
  refine ⟨by omega,by omega,by omega,by omega,fun q5 => no (by omega) fun k => by have := k.2.2.2.2.2 (by omega); omega,fun q5 => ?_⟩
  exact Ad (j + 1) ⟨by omega,(go ⟨q1.1,q1.2,q2,q3.1,q3.2,fun _ => by omega⟩ trivial).1⟩ (by omega) (by simp only [↓reduceIte,reduceCtorEq,Nat.reduceEqDiff,go_sem]; rw [BV (by omega)])
 exact Ad (j + 1) ⟨by omega,(go ⟨q1.1,q1.2,q2,q3.1,q3.2,fun _ => by omega⟩ trivial).1⟩ (by omega) (by simp only [↓reduceIte,reduceCtorEq,Nat.reduceEqDiff,go_sem]; rw [BV (by omega)])
def FA (r : Ro) (j : Nat) : Int := if j = 0 then 0 else (r.holds.2 (j - 1)).turn.til
def VE (r : Ro) (i : Nat) : Prop := 0 <= (r.holds.2 i).who /\ (r.holds.2 i).who <= 9999 /\ (r.holds.2 i).turn.fro = FA r i /\ (r.holds.2 i).turn.fro < (r.holds.2 i).turn.til /\ (r.holds.2 i).turn.til <= 1440 * r.days
def Fq (r : Ro) : Prop := 1 <= r.days /\ r.days <= 16 /\ 1 <= r.holds.1 /\ r.holds.1 <= 60 /\ (∀ i,i < r.holds.1 -> VE r i) /\ FA r r.holds.1 = 1440 * r.days
noncomputable def MY : Ay := Dw JS (fun _ => True) fun r => .bool (A8 (Fq r))
theorem V2 : Ai Tryz.prog G 93 MY := by
 refine UO (S := []) (I := [(59,Yb)]) mixed .nil (.cons Tryz.func59 c59 .nil) Tryz.func93 c93 fun r _ hw => ?_
 simp only [Nat.reduceSub,Nat.reducePow,go_sem] at hw
 simp only [A9,ZX,Yb,hw,↓reduceIte,reduceCtorEq,Nat.reduceEqDiff,Nat.reduceAdd,Nat.reduceSub,Nat.reduceLeDiff,Nat.reducePow,go_sem]
 refine ⟨fun h1 => ⟨fun h2 => (An fun k => h2 k.2.1).symm,fun h2 => ⟨fun h3 => ⟨fun h4 => (An fun k => h4 (by have := k.2.2.2.1; omega)).symm,fun h4 => ?_⟩,fun h3 => (An fun k => h3 (by have := k.2.2.1; omega)).symm⟩⟩,fun h1 => (An fun k => h1 k.1).symm⟩
 refine AJ (ι := Nat) (fun j => j <= r.holds.1 /\ ∀ i,i < j -> VE r i) (fun j => r.holds.1 - j) [1] (fun j => [(4,.int .i64 j),(3,.int .i64 (FA r j))]) (fun _ => []) 0 ⟨by omega,fun i h => by omega⟩ (by simp only [↓reduceIte,Nat.reduceEqDiff,Nat.reduceLT,go_sem]; try rfl) fun j hj => ?_
 obtain ⟨hj1,hj2⟩ := hj
 simp only [hw,↓reduceIte,reduceCtorEq,Nat.reduceEqDiff,Nat.reduceAdd,Nat.reduceSub,Nat.reduceLeDiff,Nat.reducePow,go_sem]
 rw [AU (by omega) (by omega)]
 have no : j < r.holds.1 -> ¬ VE r j -> false = A8 (Fq r) := fun hlt h => (An fun k => h (k.2.2.2.2.1 j hlt)).symm
 refine ⟨fun hlt => ⟨by omega,by omega,fun q1 => ⟨fun q2 => no (by omega) fun k => by have := k.2.1; omega,fun q2 => ⟨fun q3 => no (by omega) fun k => q3 k.2.2.1,fun q3 => ⟨fun q4 => no (by omega) fun k => by have := k.2.2; omega,fun q4 => ⟨fun q5 => no (by omega) fun k => by have := k.2.2.2.2; omega,fun q5 => ?_⟩⟩⟩⟩,fun q1 => no (by omega) fun k => by have := k.1; omega⟩,fun hge => ?_⟩
 ·refine Ad (j + 1) ⟨by omega,fun i hi => ?_⟩ (by omega) (by simp only [↓reduceIte,reduceCtorEq,Nat.reduceEqDiff,Nat.reduceLT,go_sem]; rw [BV (by omega)]; exact ⟨rfl,rfl⟩)
  rcases Nat.lt_or_ge i j with h5 | h5
  ·exact hj2 i h5
  obtain rfl : i = j := by omega
  exact ⟨q1,q2,q3,by omega,by omega⟩
 obtain rfl : j = r.holds.1 := by omega
 by_cases he : FA r r.holds.1 = 1440 * r.days
 ·rw [he,AF ⟨h1,h2,by omega,by omega,hj2,he⟩]; exact beq_self_eq_true _
 rw [An fun k => he k.2.2.2.2.2]; exact beq_eq_false_iff_ne.2 he
end Go.Proofs.YtlieoghhkioflaaGreat
namespace Go.Proofs.YtlieoghhkioflaaGreat
open Go Go.RowKit
variable {G : Nat -> Option (Nat × (Nat -> Ae))}
theorem OX {n : Nat} {P : Prop} (h : n = 0 ↔ P) : ((n : Int) == 0) = A8 P := by
 by_cases h0 : n = 0
 ·rw [AF (h.1 h0)]; subst h0; rfl
 rw [An fun k => h0 (h.2 k)]; exact beq_eq_false_iff_ne.2 (by omega)
theorem O2 {n : Int} {P : Prop} (h : n = 0 ↔ P) : (n == 0) = A8 P := by
 by_cases h0 : n = 0
 ·rw [AF (h.1 h0)]; subst h0; rfl
 rw [An fun k => h0 (h.2 k)]; exact beq_eq_false_iff_ne.2 h0
noncomputable def Nq : Ay := Cs ZQ TI (fun _ _ => True) fun t e => .bool (A8 (0 <= t.fro /\ t.fro < t.til /\ t.til <= e))
theorem WD : Ai Tryz.prog G 70 Nq := by
 refine MC (S := []) (I := []) mixed .nil .nil Tryz.func70 c70 fun t e _ hw => ?_
 simp only [A9,Z7,↓reduceIte,reduceCtorEq,Nat.reduceEqDiff,Nat.reduceAdd,Nat.reduceLeDiff,go_sem]
 refine ⟨fun h1 => ⟨fun h2 => ?_,fun h2 => (An fun k => h2 k.2.1).symm⟩,fun h1 => (An fun k => h1 k.1).symm⟩
 by_cases h3 : t.til <= e
 ·rw [decide_eq_true h3]; exact (AF ⟨h1,h2,h3⟩).symm
 rw [decide_eq_false h3]; exact (An fun k => h3 k.2.2).symm
def FE (r : Ro) (x : De) : Prop := 0 <= x.turn.fro /\ x.turn.fro < x.turn.til /\ x.turn.til <= 1440 * r.days
def EY (x : De) : Prop := 1 <= x.tow /\ x.tow <= 9999 /\ x.tow ≠ x.fro
def DG (r : Ro) (x : De) : Prop := 0 <= x.id /\ x.id <= 9999 /\ 0 <= x.day /\ x.day <= 100000 /\ 1 <= x.fro /\ x.fro <= 9999 /\
  (x.kind = 1 /\ EY x /\ FE r x /\ x.til = 0 /\ x.heirs.1 = 0 \/ x.kind = 2 /\ FE r x /\ x.tow = 0 /\ x.til = 0 /\ x.heirs.1 = 0 \/
   x.kind = 3 /\ EZ x.fro x.heirs /\ x.tow = 0 /\ x.turn.fro = 0 /\ x.turn.til = 0 /\ x.til = 0 \/ x.kind = 4 /\ EY x /\ FE r x /\ x.day + 1 <= x.til /\ x.til <= 100001 /\ x.heirs.1 = 0)
noncomputable def M8 : Ay := Cs JS O6 (fun r _ => 1 <= r.days /\ r.days <= 16) fun r x => .bool (A8 (DG r x))
theorem Vr : Ai Tryz.prog G 30 M8 := by
 refine MC (S := [(59,HP),(69,Rw),(70,Nq),(71,M2)]) (I := []) mixed (.cons Qs (.cons W5 (.cons WD (.cons WC .nil)))) .nil Tryz.func30 c30 fun r x hp hw => ?_
 simp only [Nat.reduceSub,Nat.reducePow,go_sem] at hw
 simp only [A9,ZY,HP,Rw,Nq,M2,hw,↓reduceIte,reduceCtorEq,Nat.reduceEqDiff,Nat.reduceAdd,Nat.reduceSub,Nat.reduceLeDiff,Nat.reducePow,go_sem]
 have e1 : IntKind.i64.wrap (1440 * r.days) = 1440 * r.days := AU (by omega) (by omega)
 simp only [e1,Ek,A2,BJ]
 by_cases hh : EZ x.fro x.heirs
 all_goals
  simp only [DG,FE,EY,hh,not_true_eq_false,not_false_eq_true,true_implies,false_implies,and_true,true_and,false_and,and_false,false_or]
  repeat' (first | (with_reducible apply And.intro) | intro _)
  all_goals (try simp (disch := omega) only [AU] at *)
  all_goals first
   | exact (An fun k => by omega).symm
   | exact OX (by omega)
   | exact O2 (by omega)
noncomputable def CX (a b : De) : Prop := a.id = b.id /\ a.day = b.day /\ a.kind = b.kind /\ a.fro = b.fro /\ a.tow = b.tow /\ a.turn = b.turn /\ a.til = b.til /\ a.heirs.1 = b.heirs.1 /\ ∀ i,i < a.heirs.1 -> a.heirs.2 i = b.heirs.2 i
noncomputable def Hf : Ay := Cs O6 O6 (fun _ _ => True) fun a b => .bool (A8 (CX a b))
theorem N5 : Ai Tryz.prog G 60 Hf := by
 refine MC (S := []) (I := []) mixed .nil .nil Tryz.func60 c60 fun a b _ hw => ?_
 simp only [Nat.reduceSub,Nat.reducePow,go_sem] at hw
 obtain ⟨w1,w2⟩ := hw
 simp only [A9,a60,w1,w2,↓reduceIte,reduceCtorEq,Nat.reduceEqDiff,Nat.reduceAdd,Nat.reduceSub,Nat.reduceLeDiff,Nat.reducePow,go_sem]
 have nt : ∀ {x y : Tu},(x.fro == y.fro && x.til == y.til) = true ↔ x = y := fun {x y} => by obtain ⟨a1,a2⟩ := x; obtain ⟨b1,b2⟩ := y; simp
 refine ⟨fun h => (An fun k => h k.1).symm,fun k1 => ⟨fun h => (An fun k => h k.2.1).symm,fun k2 => ⟨fun h => (An fun k => h k.2.2.1).symm,fun k3 => ⟨fun h => (An fun k => h k.2.2.2.1).symm,fun k4 => ⟨fun h => (An fun k => h k.2.2.2.2.1).symm,fun k5 => ⟨fun h => (An fun k => by rw [nt.2 k.2.2.2.2.2.1] at h; cases h).symm,fun k6 => ⟨fun h => (An fun k => h k.2.2.2.2.2.2.1).symm,fun k7 => ⟨fun h => (An fun k => h (by have := k.2.2.2.2.2.2.2.1; omega)).symm,fun k8 => ?_⟩⟩⟩⟩⟩⟩⟩⟩
 refine AJ (ι := Nat) (fun j => j <= a.heirs.1 /\ ∀ i,i < j -> a.heirs.2 i = b.heirs.2 i) (fun j => a.heirs.1 - j) [2,3] (fun j => [(5,.int .i64 j)]) (fun _ => []) 0 ⟨by omega,fun i h => by omega⟩ (by simp only [↓reduceIte,reduceCtorEq,Nat.reduceEqDiff,Nat.reduceLT,go_sem]; try rfl) fun j hj => ?_
 obtain ⟨hj1,hj2⟩ := hj
 simp only [w1,↓reduceIte,reduceCtorEq,Nat.reduceEqDiff,Nat.reduceAdd,Nat.reduceSub,Nat.reducePow,go_sem]
 have he : ∀ {x y : Hr},(x.who == y.who && x.parts == y.parts) = true ↔ x = y := fun {x y} => by obtain ⟨a1,a2⟩ := x; obtain ⟨b1,b2⟩ := y; simp
 refine ⟨fun hlt => ⟨by omega,by omega,by omega,by omega,fun h1 => (An fun k => ?_).symm,fun h1 => Ad (j + 1) ⟨by omega,fun i hi => ?_⟩ (by omega) (by simp only [↓reduceIte,reduceCtorEq,Nat.reduceEqDiff,Nat.reduceLT,go_sem]; rw [BV (by omega)])⟩,fun hge => ?_⟩
 ·rw [k.2.2.2.2.2.2.2.2 j (by omega)] at h1; simp at h1
 ·rcases Nat.lt_or_ge i j with h5 | h5
  ·exact hj2 i h5
  obtain rfl : i = j := by omega
  exact he.1 h1
 exact (AF ⟨k1,k2,k3,k4,k5,nt.1 k6,k7,by omega,fun i hi => hj2 i (by omega)⟩).symm
noncomputable def E4 : Ay := Cs (DQ Fx) (DQ Fx) (fun _ _ => True) fun a b => .bool (A8 (a.1 = b.1 /\ ∀ i,i < a.1 -> CX (a.2 i) (b.2 i)))
theorem Qz : Ai Tryz.prog G 24 E4 := by
 refine MC (S := [(60,Hf)]) (I := []) mixed (.cons N5 .nil) .nil Tryz.func24 c24 fun a b _ hw => ?_
 simp only [Nat.reduceSub,Nat.reducePow,go_sem] at hw
 obtain ⟨w1,w2⟩ := hw
 simp only [A9,a24,Hf,w1,w2,↓reduceIte,reduceCtorEq,Nat.reduceEqDiff,Nat.reduceSub,Nat.reducePow,go_sem]
 refine ⟨fun h => (An fun k => h (by omega)).symm,fun h => ?_⟩
 refine AJ (ι := Nat) (fun j => j <= a.1 /\ ∀ i,i < j -> CX (a.2 i) (b.2 i)) (fun j => a.1 - j) [0,1] (fun j => [(5,.int .i64 j)]) (fun _ => []) 0 ⟨by omega,fun i h => by omega⟩ (by simp only [↓reduceIte,reduceCtorEq,Nat.reduceEqDiff,go_sem]; try rfl) fun j hj => ?_
 obtain ⟨hj1,hj2⟩ := hj
 simp only [w1,↓reduceIte,reduceCtorEq,Nat.reduceEqDiff,Nat.reduceAdd,Nat.reduceSub,Nat.reducePow,go_sem,A2,BJ]
 refine ⟨fun hlt => ⟨by omega,by omega,by omega,by omega,fun h1 => (An fun k => h1 (k.2 j (by omega))).symm,fun h1 => Ad (j + 1) ⟨by omega,fun i hi => ?_⟩ (by omega) (by simp only [↓reduceIte,reduceCtorEq,Nat.reduceEqDiff,go_sem]; rw [BV (by omega)])⟩,fun hge => (AF ⟨by omega,fun i hi => hj2 i (by omega)⟩).symm⟩
 rcases Nat.lt_or_ge i j with h5 | h5
 ·exact hj2 i h5
 obtain rfl : i = j := by omega
 exact h1
noncomputable def DK (r : Ro) (l : J3) : Int := if 60 < l.1 then 4 else if A8 (∀ i,i < l.1 -> DG r (l.2 i)) = true then (if A8 (∀ i,i < l.1 -> ∀ k,k < i -> (l.2 i).id = (l.2 k).id -> CX (l.2 i) (l.2 k)) = true then 0 else 42) else 41
noncomputable def KW : Ay := Cs JS (DQ Fx) (fun r _ => 1 <= r.days /\ r.days <= 16) fun r l => .int .i64 (DK r l)
theorem SX : Ai Tryz.prog G 65 KW := by
 refine MC (S := [(30,M8),(60,Hf)]) (I := []) mixed (.cons Vr (.cons N5 .nil)) .nil Tryz.func65 c65 fun r l hp hw => ?_
 simp only [Nat.reduceSub,Nat.reducePow,go_sem] at hw
 obtain ⟨w1,w2⟩ := hw
 simp only [A9,a65,M8,Hf,w2,↓reduceIte,reduceCtorEq,Nat.reduceEqDiff,Nat.reduceAdd,Nat.reduceSub,Nat.reducePow,go_sem]
 have hE : ¬ 60 < l.1 -> DK r l = if A8 (∀ i,i < l.1 -> DG r (l.2 i)) = true then (if A8 (∀ i,i < l.1 -> ∀ k,k < i -> (l.2 i).id = (l.2 k).id -> CX (l.2 i) (l.2 k)) = true then 0 else 42) else 41 := fun h => if_neg h
 refine ⟨fun h => (if_pos (by omega)).symm,fun h => ?_⟩
 rw [hE (by omega)]
 refine AJ (ι := Nat) (fun j => j <= l.1 /\ ∀ i,i < j -> DG r (l.2 i)) (fun j => l.1 - j) [1,2] (fun j => [(5,.int .i64 j)]) (fun _ => []) 0 ⟨by omega,fun i h => by omega⟩ (by simp only [↓reduceIte,reduceCtorEq,Nat.reduceEqDiff,Nat.reduceLT,go_sem]; try rfl) fun j hj => ?_
 obtain ⟨hj1,hj2⟩ := hj
 simp only [w2,↓reduceIte,reduceCtorEq,Nat.reduceEqDiff,Nat.reduceAdd,Nat.reduceSub,Nat.reducePow,go_sem,A2,BJ]
 have push : ∀ {Q : Nat -> Prop} {j : Nat},(∀ i,i < j -> Q i) -> Q j -> ∀ i,i < j + 1 -> Q i := fun {Q j} h1 h2 i hi => by
  rcases Nat.lt_or_ge i j with h5 | h5
  ·exact h1 i h5
  obtain rfl : i = j := by omega
  exact h2
 refine ⟨fun hlt => ⟨by omega,by omega,hp.1,hp.2,fun h1 => ?_,fun h1 => Ad (j + 1) ⟨by omega,push hj2 h1⟩ (by omega) (by simp only [↓reduceIte,Nat.reduceEqDiff,Nat.reduceLT,go_sem]; rw [BV (by omega)])⟩,fun hge => ?_⟩
 ·rw [An fun k => h1 (k j (by omega))]; rfl
 rw [AF fun i hi => hj2 i (by omega),if_pos rfl]
 refine AJ (ι := Nat) (fun j => j <= l.1 /\ ∀ i,i < j -> ∀ k,k < i -> (l.2 i).id = (l.2 k).id -> CX (l.2 i) (l.2 k)) (fun j => l.1 - j) [1] (fun j => [(6,.int .i64 j)]) (fun _ => []) 0 ⟨by omega,fun i h => by omega⟩ (by simp only [↓reduceIte,Nat.reduceEqDiff,Nat.reduceLT,go_sem]; try rfl) fun j hj => ?_
 obtain ⟨hj3,hj4⟩ := hj
 simp only [w2,↓reduceIte,reduceCtorEq,Nat.reduceEqDiff,Nat.reduceSub,Nat.reducePow,go_sem]
 refine ⟨fun hlt => ?_,fun hge => ?_⟩
 ·refine AJ (ι := Nat) (fun q => q <= j /\ ∀ k,k < q -> (l.2 j).id = (l.2 k).id -> CX (l.2 j) (l.2 k)) (fun q => j - q) [1,6] (fun q => [(7,.int .i64 q)]) (fun _ => []) 0 ⟨by omega,fun i h => by omega⟩ (by simp only [↓reduceIte,Nat.reduceEqDiff,Nat.reduceLT,go_sem]; try rfl) fun q hq => ?_
  obtain ⟨hq1,hq2⟩ := hq
  simp only [↓reduceIte,reduceCtorEq,Nat.reduceEqDiff,Nat.reduceAdd,Nat.reduceSub,Nat.reduceLeDiff,go_sem,A2,BJ]
  have no : j < l.1 -> q < j -> (l.2 j).id = (l.2 q).id -> ¬ CX (l.2 j) (l.2 q) -> 42 = if A8 (∀ i,i < l.1 -> ∀ k,k < i -> (l.2 i).id = (l.2 k).id -> CX (l.2 i) (l.2 k)) = true then 0 else (42 : Int) := fun h1 h2 h3 h4 => by rw [An fun k => h4 (k j h1 q h2 h3)]; rfl
  refine ⟨fun h5 => ⟨by omega,by omega,by omega,by omega,fun h6 => ⟨by omega,by omega,by omega,by omega,fun h7 => no (by omega) (by omega) h6 h7,fun h7 => Ad (q + 1) ⟨by omega,push hq2 fun _ => h7⟩ (by omega) (by simp only [↓reduceIte,Nat.reduceEqDiff,Nat.reduceLT,go_sem]; rw [BV (by omega)])⟩,fun h6 => Ad (q + 1) ⟨by omega,push hq2 fun h => absurd h h6⟩ (by omega) (by simp only [↓reduceIte,Nat.reduceEqDiff,Nat.reduceLT,go_sem]; rw [BV (by omega)])⟩,fun h5 => ?_⟩
  exact Ad (j + 1) ⟨by omega,push hj4 fun k hk => hq2 k (by omega)⟩ (by omega) (by simp only [↓reduceIte,Nat.reduceEqDiff,Nat.reduceLT,go_sem]; rw [BV (by omega)])
 rw [AF fun i hi => hj4 i (by omega)]; rfl
noncomputable def BS (r : Ro) (l : J3) : Int := if A8 (Fq r) = true then DK r l else 40
noncomputable def Ht : Ay := Cs JS (DQ Fx) (fun _ _ => True) fun r l => .int .i64 (BS r l)
theorem SH : Ai Tryz.prog G 87 Ht := by
 refine MC (S := [(93,MY),(65,KW)]) (I := []) mixed (.cons V2 (.cons SX .nil)) .nil Tryz.func87 c87 fun r l _ hw => ?_
 simp only [Nat.reduceSub,Nat.reducePow,go_sem] at hw
 obtain ⟨w1,w2⟩ := hw
 simp only [A9,a87,MY,KW,w1,w2,↓reduceIte,reduceCtorEq,Nat.reduceEqDiff,Nat.reduceAdd,Nat.reduceSub,Nat.reducePow,go_sem]
 exact ⟨fun h => by rw [BS,h]; rfl,fun h => by have := A2.1 h; exact ⟨this.1,this.2.1,by rw [BS,h]; rfl⟩⟩
end Go.Proofs.YtlieoghhkioflaaGreat
namespace Go.Proofs.YtlieoghhkioflaaGreat
open Go Go.RowKit
variable {G : Nat -> Option (Nat × (Nat -> Ae))}
noncomputable def MD : Ay := Dq TI TI TI (fun _ _ _ => True) fun n a b => .bool (Ek n a b)
theorem Xp : Ai Tryz.prog G 83 MD := by
 refine Vl (S := []) (I := []) mixed .nil .nil Tryz.func83 c83 fun n a b _ hw => ?_
 simp only [A9,a83,↓reduceIte,reduceCtorEq,Nat.reduceEqDiff,Nat.reduceAdd,go_sem]
 refine ⟨fun h => ?_,fun h => (An fun k => h k.1).symm⟩
 by_cases h3 : n <= b
 ·rw [decide_eq_true h3]; exact (AF ⟨h,h3⟩).symm
 rw [decide_eq_false h3]; exact (An fun k => h3 k.2).symm
theorem LK {p : Prop} (h : A8 p = true) : p := by
 by_cases h1 : p
 ·exact h1
 rw [An h1] at h; cases h
theorem Kl {p : Prop} (h : A8 p = false) : ¬ p := fun k => by rw [AF k] at h; cases h
theorem L5 {n a b : Int} (h : Ek n a b = true) : a <= n /\ n <= b := by
 by_cases h1 : a <= n /\ n <= b
 ·exact h1
 unfold Ek at h; rw [An h1] at h; cases h
theorem Mm {n a b : Int} (h : Ek n a b = false) : ¬ (a <= n /\ n <= b) := fun k => by
 unfold Ek at h; rw [AF k] at h; cases h
noncomputable def JN : Ay := Dw TI (fun _ => True) fun n => .bool (Ek n 1 9999)
theorem WN : Ai Tryz.prog G 105 JN := by
 refine UO (S := [(83,MD)]) (I := []) mixed (.cons Xp .nil) .nil Tryz.func105 Zp fun n _ hw => ?_
 simp only [A9,WX,MD,↓reduceIte,reduceCtorEq,go_sem]
noncomputable def KH : Ay := Dw JS (fun r => 1 <= r.days /\ r.days <= 16) fun r => .int .i64 (1440 * r.days)
theorem XI : Ai Tryz.prog G 84 KH := by
 refine UO (S := []) (I := []) mixed .nil .nil Tryz.func84 c84 fun r hp hw => ?_
 obtain ⟨h1,h2⟩ := hp
 simp only [A9,a84,↓reduceIte,Nat.reduceEqDiff,Nat.reduceAdd,Nat.reduceLeDiff,go_sem]
 rw [AU (by omega) (by omega),Int.mul_comm]
noncomputable def G8 : Ay := Dq ZQ TI TI (fun _ _ _ => True) fun t a b => .bool (A8 (a <= t.fro /\ t.fro < t.til /\ t.til <= b))
theorem UI : Ai Tryz.prog G 82 G8 := by
 refine Vl (S := []) (I := []) mixed .nil .nil Tryz.func82 c82 fun t a b _ hw => ?_
 simp only [A9,a82,↓reduceIte,reduceCtorEq,Nat.reduceEqDiff,Nat.reduceAdd,Nat.reduceLeDiff,go_sem]
 refine ⟨fun h1 => ⟨fun h2 => ?_,fun h2 => (An fun k => h2 k.2.1).symm⟩,fun h1 => (An fun k => h1 k.1).symm⟩
 by_cases h3 : t.til <= b
 ·rw [decide_eq_true h3]; exact (AF ⟨h1,h2,h3⟩).symm
 rw [decide_eq_false h3]; exact (An fun k => h3 k.2.2).symm
noncomputable def UW : Ay := Dw JS (fun _ => True) fun r => .int .i64 (if A8 (Fq r) = true then 0 else 40)
theorem VZ : Ai Tryz.prog G 46 UW := by
 refine UO (S := [(83,MD),(84,KH),(82,G8)]) (I := []) mixed (.cons Xp (.cons XI (.cons UI .nil))) .nil Tryz.func46 c46 fun r _ hw => ?_
 simp only [Nat.reduceSub,Nat.reducePow,go_sem] at hw
 simp only [A9,a46,MD,hw,↓reduceIte,Nat.reduceEqDiff,Nat.reduceAdd,Nat.reduceSub,Nat.reduceLeDiff,Nat.reducePow,go_sem]
 have nop : ¬ Fq r -> ((40 : Int) = if A8 (Fq r) = true then 0 else 40) := fun h => by rw [An h]; rfl
 refine ⟨fun h1 => by rw [An fun k => Mm h1 ⟨k.1,k.2.1⟩]; rfl,fun h1 => ⟨fun h2 => by rw [An fun k => Mm h2 ⟨by have := k.2.2.1; omega,by have := k.2.2.2.1; omega⟩]; rfl,fun h2 => ?_⟩⟩
 have h1 := L5 h1
 have h2 := L5 h2
 refine AJ (ι := Nat) (fun j => j <= r.holds.1 /\ ∀ i,i < j -> VE r i) (fun j => r.holds.1 - j) [1,18,19] (fun j => [(20,.int .i64 j),(3,.int .i64 (FA r j))]) (fun _ => []) 0 ⟨by omega,fun i h => by omega⟩ (by simp only [↓reduceIte,Nat.reduceEqDiff,Nat.reduceLT,go_sem]; try rfl) fun j hj => ?_
 obtain ⟨hj1,hj2⟩ := hj
 simp only [KH,G8,hw,↓reduceIte,reduceCtorEq,Nat.reduceEqDiff,Nat.reduceAdd,Nat.reduceSub,Nat.reduceLeDiff,Nat.reducePow,go_sem]
 have no : j < r.holds.1 -> ¬ VE r j -> ((40 : Int) = if A8 (Fq r) = true then 0 else 40) := fun hlt h => nop fun k => h (k.2.2.2.2.1 j hlt)
 refine ⟨fun hlt => ⟨by omega,by omega,fun q1 => no (by omega) fun k => Mm q1 ⟨k.1,k.2.1⟩,fun q1 => ⟨fun q2 => no (by omega) fun k => q2 k.2.2.1,fun q2 => ⟨h1.1,h1.2,fun q3 => no (by omega) fun k => Kl q3 ⟨by have := k.2.2.1; omega,k.2.2.2.1,k.2.2.2.2⟩,fun q3 => ?_⟩⟩⟩,fun hge => ⟨h1.1,h1.2,fun q => ?_,fun q => ?_⟩⟩
 ·have q1 := L5 q1
  have q3 := LK q3
  refine Ad (j + 1) ⟨by omega,fun i hi => ?_⟩ (by omega) (by simp only [↓reduceIte,reduceCtorEq,Nat.reduceEqDiff,Nat.reduceLT,go_sem]; rw [BV (by omega)]; exact ⟨rfl,rfl⟩)
  rcases Nat.lt_or_ge i j with h5 | h5
  ·exact hj2 i h5
  obtain rfl : i = j := by omega
  exact ⟨q1.1,q1.2,q2,q3.2.1,q3.2.2⟩
 ·obtain rfl : j = r.holds.1 := by omega
  exact nop fun k => q k.2.2.2.2.2
 obtain rfl : j = r.holds.1 := by omega
 rw [AF (show Fq r from ⟨h1.1,h1.2,by omega,by omega,hj2,q⟩)]; rfl
def LM (l : Nat × (Nat -> Hr)) (j : Nat) : Int := if j = 0 then 0 else (l.2 (j - 1)).who
noncomputable def NA : Ay := Cs TI (DQ ID) (fun _ _ => True) fun f l => .bool (A8 (EZ f l))
theorem Zc : Ai Tryz.prog G 115 NA := by
 refine MC (S := [(83,MD)]) (I := []) mixed (.cons Xp .nil) .nil Tryz.func115 ZJ fun f l _ hw => ?_
 simp only [Nat.reduceSub,Nat.reducePow,go_sem] at hw
 simp only [A9,Xu,MD,hw,↓reduceIte,reduceCtorEq,Nat.reduceEqDiff,Nat.reduceSub,Nat.reducePow,go_sem]
 refine AJ (ι := Nat) (fun j => j <= l.1 /\ ∀ i,i < j -> Wc f l i) (fun j => l.1 - j) [0,1,8,9] (fun j => [(10,.int .i64 j),(5,.int .i64 (LM l j))]) (fun _ => []) 0 ⟨by omega,fun i h => by omega⟩ (by simp only [↓reduceIte,reduceCtorEq,Nat.reduceEqDiff,go_sem]; try rfl) fun j hj => ?_
 obtain ⟨hj1,hj2⟩ := hj
 have hl : 0 <= LM l j /\ LM l j <= 9999 := by
  unfold LM
  split
  ·omega
  have := hj2 (j - 1) (by omega)
  exact ⟨by have := this.1; omega,this.2.1⟩
 have w1 : IntKind.i64.wrap (LM l j + 1) = LM l j + 1 := AU (by omega) (by omega)
 simp only [hw,w1,↓reduceIte,reduceCtorEq,Nat.reduceEqDiff,Nat.reduceAdd,Nat.reduceSub,Nat.reduceLeDiff,Nat.reducePow,go_sem]
 have no : j < l.1 -> ¬ Wc f l j -> false = A8 (EZ f l) := fun hlt h => (An fun k => h (k.2.2 j hlt)).symm
 refine ⟨fun hlt => ⟨by omega,by omega,fun q1 => no (by omega) fun k => Mm q1 ⟨?_,k.2.1⟩,fun q1 => ⟨fun q2 => no (by omega) fun k => k.2.2.1 q2,fun q2 => ⟨fun q3 => no (by omega) fun k => Mm q3 ⟨k.2.2.2.1,k.2.2.2.2.1⟩,fun q3 => ?_⟩⟩⟩,fun hge => ?_⟩
 ·unfold LM
  split
  ·have := k.1; omega
  have := k.2.2.2.2.2 (by omega); omega
 ·have q1 := L5 q1
  have q3 := L5 q3
  refine Ad (j + 1) ⟨by omega,fun i hi => ?_⟩ (by omega) (by simp only [↓reduceIte,reduceCtorEq,Nat.reduceEqDiff,go_sem]; rw [BV (by omega)]; exact ⟨rfl,rfl⟩)
  rcases Nat.lt_or_ge i j with h5 | h5
  ·exact hj2 i h5
  obtain rfl : i = j := by omega
  refine ⟨by omega,q1.2,q2,q3.1,q3.2,fun h0 => ?_⟩
  have := q1.1
  unfold LM at this
  rw [if_neg (by omega)] at this
  omega
 obtain rfl : j = l.1 := by omega
 exact EB ⟨fun k => ⟨by omega,by omega,hj2⟩,fun k => ⟨by have := k.1; omega,by have := k.2.1; omega⟩⟩
noncomputable def Sp : Ay := Cs (DQ ID) (DQ ID) (fun _ _ => True) fun a b => .bool (A8 (a.1 = b.1 /\ ∀ i,i < a.1 -> a.2 i = b.2 i))
theorem WQ : Ai Tryz.prog G 116 Sp := by
 refine MC (S := []) (I := []) mixed .nil .nil Tryz.func116 Yi fun a b _ hw => ?_
 simp only [Nat.reduceSub,Nat.reducePow,go_sem] at hw
 simp only [A9,W6,hw,↓reduceIte,reduceCtorEq,Nat.reduceEqDiff,Nat.reduceSub,Nat.reducePow,go_sem]
 refine ⟨fun h => (An fun k => h (by rw [k.1])).symm,fun h0 => ?_⟩
 have h0 : a.1 = b.1 := by omega
 refine AJ (ι := Nat) (fun j => j <= a.1 /\ ∀ i,i < j -> a.2 i = b.2 i) (fun j => a.1 - j) [0,1,11,12] (fun j => [(13,.int .i64 j)]) (fun _ => []) 0 ⟨by omega,fun i h => by omega⟩ (by simp only [↓reduceIte,reduceCtorEq,Nat.reduceEqDiff,go_sem]; try rfl) fun j hj => ?_
 obtain ⟨hj1,hj2⟩ := hj
 simp only [↓reduceIte,reduceCtorEq,Nat.reduceEqDiff,Nat.reduceAdd,go_sem]
 have he : ∀ {x y : Hr},(x.who == y.who && x.parts == y.parts) = true ↔ x = y := fun {x y} => by obtain ⟨a1,a2⟩ := x; obtain ⟨b1,b2⟩ := y; simp
 refine ⟨fun hlt => ⟨by omega,by omega,by omega,by omega,fun h1 => (An fun k => ?_).symm,fun h1 => Ad (j + 1) ⟨by omega,fun i hi => ?_⟩ (by omega) (by simp only [↓reduceIte,reduceCtorEq,Nat.reduceEqDiff,go_sem]; rw [BV (by omega)])⟩,fun hge => (AF ⟨h0,fun i hi => hj2 i (by omega)⟩).symm⟩
 ·rw [he.2 (k.2 j (by omega))] at h1; cases h1
 rcases Nat.lt_or_ge i j with h5 | h5
 ·exact hj2 i h5
 obtain rfl : i = j := by omega
 exact he.1 h1
noncomputable def NE : Ay := Cs O6 O6 (fun _ _ => True) fun a b => .bool (A8 (CX a b))
theorem UT : Ai Tryz.prog G 97 NE := by
 refine MC (S := [(116,Sp)]) (I := []) mixed (.cons WQ .nil) .nil Tryz.func97 c97 fun a b _ hw => ?_
 simp only [Nat.reduceSub,Nat.reducePow,go_sem] at hw
 simp only [A9,a97,Sp,hw,↓reduceIte,reduceCtorEq,Nat.reduceEqDiff,Nat.reduceAdd,Nat.reduceSub,Nat.reduceLeDiff,Nat.reducePow,go_sem]
 have nt : ∀ {x y : Tu},(x.fro == y.fro && x.til == y.til) = true ↔ x = y := fun {x y} => by obtain ⟨a1,a2⟩ := x; obtain ⟨b1,b2⟩ := y; simp
 refine ⟨fun k1 => ⟨fun k2 => ⟨fun k3 => ⟨fun k4 => ⟨fun k5 => ⟨fun k6 => ⟨fun k7 => EB ⟨fun k => ⟨k1,k2,k3,k4,k5,nt.1 k6,k7,k.1,k.2⟩,fun k => ⟨k.2.2.2.2.2.2.2.1,k.2.2.2.2.2.2.2.2⟩⟩,fun h => (An fun k => h k.2.2.2.2.2.2.1).symm⟩,fun h => (An fun k => by rw [nt.2 k.2.2.2.2.2.1] at h; cases h).symm⟩,fun h => (An fun k => h k.2.2.2.2.1).symm⟩,fun h => (An fun k => h k.2.2.2.1).symm⟩,fun h => (An fun k => h k.2.2.1).symm⟩,fun h => (An fun k => h k.2.1).symm⟩,fun h => (An fun k => h k.1).symm⟩
end Go.Proofs.YtlieoghhkioflaaGreat
