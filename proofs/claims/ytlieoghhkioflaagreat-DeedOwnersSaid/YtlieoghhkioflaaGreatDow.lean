/- Deeds: the program's owners. No condition. -/
import Derived.Test.YtlieoghhkioflaaGreatDte
import Derived.Test.YtlieoghhkioflaaGreatDr6
import Derived.Test.YtlieoghhkioflaaGreatSoH
import Derived.Test.YtlieoghhkioflaaGreatScm
set_option linter.unusedSimpArgs false
set_option linter.unusedVariables false
set_option maxRecDepth 100000
namespace Go.Proofs.YtlieoghhkioflaaGreat
open Go Go.RowKit
variable {G : Nat -> Option (Nat × (Nat -> Ae))}
def GK (p : Pi) (d : Int) : Int := if p.lent ≠ 0 /\ d < p.til then p.lent else p.owner
noncomputable def H5 : Ay := Aj (Af P3 (Af TI AV)) (fun _ => True) fun a => .int .i64 (GK a.1 a.2.1)
theorem Sk : Ai Tryz.prog G 51 H5 := by
 refine Ij mixed (S := [(86,LJ)]) (I := []) (X := []) (N := []) (C := []) (.cons UL .nil) .nil .nil Tryz.func51 c51 fun a hp hw => ?_
 obtain ⟨p,d,u⟩ := a
 simp only [ZU,LJ,Aj,Af,AV,↓reduceIte,reduceCtorEq,Nat.reduceEqDiff,Nat.reduceAdd,Nat.reduceLeDiff,go_sem]
 exact ⟨fun h => by unfold GK; rw [if_pos (LK h)],fun h => by unfold GK; rw [if_neg (Kl h)]⟩
noncomputable def Mx : Ay := Aj (Af P3 AV) (fun _ => True) fun a => .int .i64 a.1.owner
theorem WP : Ai Tryz.prog G 49 Mx := by
 refine Ij mixed (S := []) (I := []) (X := []) (N := []) (C := []) .nil .nil .nil Tryz.func49 c49 fun a hp hw => ?_
 simp only [Z0,Af,AV,↓reduceIte,reduceCtorEq,Nat.reduceEqDiff,Nat.reduceAdd,Nat.reduceLeDiff,go_sem]
noncomputable def L0 : Ay := Aj (Af P3 (Af (Sx TI) AV)) (fun _ => True) fun a => .int .i64 (GK a.1 a.2.1)
theorem XU : Ai Tryz.prog G 50 L0 := by
 refine Ij mixed (S := [(51,H5)]) (I := []) (X := []) (N := []) (C := []) (.cons Sk .nil) .nil .nil Tryz.func50 c50 fun a hp hw => ?_
 obtain ⟨p,d,u⟩ := a
 simp only [a50,H5,Aj,Af,AV,↓reduceIte,reduceCtorEq,Nat.reduceEqDiff,Nat.reduceAdd,go_sem]
theorem TM {A B : Nat -> Ho} {n : Nat} {h : Ho} (z2 : ∀ j,j < n -> B j = A j) (z3 : B n = h) : ∀ i,i < n + 1 -> ∀ c,c < 3 -> Ax ((B i).c c) (if i < n then (A i).c c else Aq (Aq (.cons h.L .nil) (i - n)) c) := by
 intro i hi c hc
 by_cases e : i < n
 ·rw [if_pos e,z2 i e]; exact BB _
 obtain rfl : i = n := by omega
 rw [if_neg e,Nat.sub_self,z3]
 rcases (by omega : c = 0 \/ c = 1 \/ c = 2) with rfl | rfl | rfl <;> exact BB _
theorem YS {f : Nat -> Int} {P : Pz} {k : Pi -> Int} {N : Nat} (h0 : 0 < P.1) (z : Vn f P k N) : Ax (G1 (As f N)) (.view 3 ((As f (Bg P P.1)).1 - 1 + 1) fun i j => if i < (As f (Bg P P.1)).1 - 1 then ((As f (Bg P P.1)).2 i).c j else Aq (Aq (.cons (Ed f P (k (P.2 0)) P.1).L .nil) (i - ((As f (Bg P P.1)).1 - 1))) j) := by
 have h1 := z.pos P.1 h0 (Nat.le_refl _)
 have hn : Ed f P (k (P.2 0)) P.1 = (As f (Bg P P.1)).2 ((As f (Bg P P.1)).1 - 1) := if_neg (by omega)
 rw [<- z.fin]
 unfold G1
 rw [Dd]
 refine ⟨by omega,fun i hi => ?_⟩
 exact TM (fun j _ => rfl) hn.symm i (by omega)
end Go.Proofs.YtlieoghhkioflaaGreat
namespace Go.Proofs.YtlieoghhkioflaaGreat
open Go Go.RowKit
variable {f : Nat -> Int}
theorem Oy {a : Nat} {w : Int} (k : Int) : ∀ d,(∀ q,a <= q -> q < a + d -> f q = w) -> CG f (a + d) k = CG f a k + if w = k then (d : Int) else 0
 | 0,_ => by split <;> simp
 | d + 1,h => by
  have ih := Oy k d fun q h1 h2 => h q h1 (by omega)
  rw [<- Nat.add_assoc,QX,ih,h (a + d) (by omega) (by omega)]
  split <;> omega
theorem Jb {P : Pz} {N : Nat} (h : By N P) {i : Nat} (hi : i < P.1) (hf : ∀ m : Nat,(P.2 i).turn.fro <= m -> (m : Int) < (P.2 i).turn.til -> f m = (P.2 i).owner) (k : Int) : CG f (Bg P (i + 1)) k = CG f (Bg P i) k + if (P.2 i).owner = k then (P.2 i).turn.til - (P.2 i).turn.fro else 0 := by
 have hfro : (P.2 i).turn.fro = Bg P i := by
  cases i with
  | zero => exact h.beg
  | succ i => rw [h.nxt i hi]; show _ = ((P.2 i).turn.til.toNat : Int); have := h.rng (show i < P.1 by omega); have := h.lt i (by omega); omega
 have h2 := h.lt i hi
 have e : Bg P (i + 1) = Bg P i + ((P.2 i).turn.til - (P.2 i).turn.fro).toNat := by show (P.2 i).turn.til.toNat = _; omega
 rw [e,Oy k _ fun q h1 h2 => hf q (by omega) (by omega)]
 have : ((((P.2 i).turn.til - (P.2 i).turn.fro).toNat : Nat) : Int) = (P.2 i).turn.til - (P.2 i).turn.fro := by omega
 rw [this]
noncomputable def IA (P : Pz) (j : Nat) (k : Int) : Bool := A8 (∃ i,i < j /\ (P.2 i).owner = k)
theorem Rg (P : Pz) (j : Nat) (k : Int) : (if k = (P.2 j).owner then true else IA P j k) = IA P (j + 1) k := by
 split
 ·rename_i e; exact (AF ⟨j,by omega,e.symm⟩).symm
 rename_i e
 exact EB ⟨fun ⟨i,h1,h2⟩ => ⟨i,by omega,h2⟩,fun ⟨i,h1,h2⟩ => ⟨i,by
  have : i ≠ j := fun h => e (by rw [<- h2,h])
  omega,h2⟩⟩
theorem Jm {P : Pz} {N : Nat} (h : By N P) (hf : ∀ i,i < P.1 -> ∀ m : Nat,(P.2 i).turn.fro <= m -> (m : Int) < (P.2 i).turn.til -> f m = (P.2 i).owner) (k : Int) : ∀ j,j <= P.1 -> (IA P j k = true ↔ 0 < CG f (Bg P j) k)
 | 0,_ => by
  constructor
  ·intro h1; obtain ⟨i,h2,_⟩ := A2.1 h1; omega
  intro h1
  have : CG f (Bg P 0) k = 0 := rfl
  omega
 | j + 1,hj => by
  have ih := Jm h hf k j (by omega)
  have e := Jb h (show j < P.1 by omega) (hf j (by omega)) k
  have hb := (Ni f (Bg P j) k).1
  have h2 := h.lt j (by omega)
  rw [e,<- Rg]
  by_cases e1 : (P.2 j).owner = k
  ·rw [if_pos e1,if_pos e1.symm]; constructor
   ·intro _; omega
   intro _; rfl
  rw [if_neg e1,if_neg fun h => e1 h.symm,Int.add_zero]; exact ih
theorem Jn : ∀ L M : List Hs,L.Pairwise (fun a b => a.who < b.who) -> M.Pairwise (fun a b => a.who < b.who) -> (∀ x,x ∈ L ↔ x ∈ M) -> L = M
 | [],[],_,_,_ => rfl
 | [],y :: M,_,_,h => by have := (h y).2 (by simp); simp at this
 | x :: L,[],_,_,h => by have := (h x).1 (by simp); simp at this
 | x :: L,y :: M,h1,h2,h => by
  rw [List.pairwise_cons] at h1 h2
  have e : x = y := by
   have a := (h x).1 (by simp)
   have b := (h y).2 (by simp)
   rcases List.mem_cons.1 a with a | a
   ·exact a
   rcases List.mem_cons.1 b with b | b
   ·exact b.symm
   have := h1.1 y b; have := h2.1 x a; omega
  subst e
  rw [Jn L M h1.2 h2.2 fun z => ?_]
  constructor
  ·intro hz
   rcases List.mem_cons.1 ((h z).1 (List.mem_cons_of_mem _ hz)) with e | e
   ·subst e; have := h1.1 z hz; omega
   exact e
  intro hz
  rcases List.mem_cons.1 ((h z).2 (List.mem_cons_of_mem _ hz)) with e | e
  ·subst e; have := h2.1 z hz; omega
  exact e
theorem Iu (x : Hs) : ∀ L : List Hs,L.Pairwise (fun a b => a.who < b.who) -> (∀ y,y ∈ L -> y.who ≠ x.who) -> (CP C9 x L).Pairwise fun a b => a.who < b.who
 | [],_,_ => by simp [CP]
 | z :: L,hs,hn => by
  have hs' := List.pairwise_cons.1 hs
  have hz := hn z (by simp)
  rw [CP]
  split
  ·rename_i hb
   have hb : x.who < z.who := of_decide_eq_true hb
   rw [List.pairwise_cons]
   refine ⟨fun y hy => ?_,hs⟩
   rcases List.mem_cons.1 hy with rfl | hy
   ·exact hb
   have := hs'.1 y hy; omega
  rename_i hb
  have hb : ¬ x.who < z.who := fun h => hb (decide_eq_true h)
  rw [List.pairwise_cons]
  refine ⟨fun y hy => ?_,Iu x L hs'.2 fun y hy => hn y (List.mem_cons_of_mem _ hy)⟩
  rcases (FX x L y).1 hy with rfl | hy
  ·omega
  exact hs'.1 y hy
theorem KT (L : List Hs) : L.Pairwise (fun a b => a.who ≠ b.who) -> (AK C9 L).Pairwise fun a b => a.who < b.who := by
 refine Gd (p := fun L => L.Pairwise (fun a b => a.who ≠ b.who) -> (AK C9 L).Pairwise fun a b => a.who < b.who) (fun _ => List.Pairwise.nil) (fun L x ih h => ?_) L
 rw [List.pairwise_append] at h
 rw [B9]
 exact Iu x _ (ih h.1) fun y hy => h.2.2 y ((Gi L y).1 hy) x (by simp)
theorem KA (c : Int -> Int) : ∀ k,(A3 (B6 c k).2 0 (B6 c k).1).Pairwise (fun a b => a.who < b.who) /\ ∀ x,x ∈ A3 (B6 c k).2 0 (B6 c k).1 ↔ ∃ w : Nat,w < k /\ 0 < c w /\ x = ⟨w,c w⟩
 | 0 => by
  have : A3 (B6 c 0).2 0 (B6 c 0).1 = [] := rfl
  rw [this]
  exact ⟨List.Pairwise.nil,fun x => ⟨fun h => by simp at h,fun ⟨w,h,_⟩ => by omega⟩⟩
 | k + 1 => by
  obtain ⟨h1,h2⟩ := KA c k
  by_cases e : 0 < c k
  ·have es : B6 c (k + 1) = ((B6 c k).1 + 1,fun i => if i < (B6 c k).1 then (B6 c k).2 i else ⟨k,c k⟩) := if_pos e
   have eg : A3 (B6 c (k + 1)).2 0 (B6 c (k + 1)).1 = A3 (B6 c k).2 0 (B6 c k).1 ++ [⟨k,c k⟩] := by
    rw [es]
    show A3 _ 0 ((B6 c k).1 + 1) = _
    rw [<- Dt _ (show 0 <= (B6 c k).1 by omega) (show (B6 c k).1 <= (B6 c k).1 + 1 by omega),Cb]
    congr 1
    ·exact Cl fun i _ hi => if_pos hi
    show [if (B6 c k).1 < (B6 c k).1 then _ else _] = _
    rw [if_neg (Nat.lt_irrefl _)]
   rw [eg]
   refine ⟨?_,fun x => ?_⟩
   ·rw [List.pairwise_append]
    refine ⟨h1,by simp,fun a ha b hb => ?_⟩
    obtain ⟨w,w1,w2,rfl⟩ := (h2 a).1 ha
    rw [List.mem_singleton] at hb
    subst hb
    show (w : Int) < k
    omega
   rw [List.mem_append,List.mem_singleton,h2]
   constructor
   ·rintro (⟨w,w1,w2,w3⟩ | rfl)
    ·exact ⟨w,by omega,w2,w3⟩
    exact ⟨k,by omega,e,rfl⟩
   rintro ⟨w,w1,w2,w3⟩
   by_cases ew : w = k
   ·subst ew; exact .inr w3
   exact .inl ⟨w,by omega,w2,w3⟩
  have es : B6 c (k + 1) = B6 c k := if_neg e
  rw [es]
  refine ⟨h1,fun x => ?_⟩
  rw [h2]
  constructor
  ·rintro ⟨w,w1,w2,w3⟩; exact ⟨w,by omega,w2,w3⟩
  rintro ⟨w,w1,w2,w3⟩
  by_cases ew : w = k
  ·subst ew; exact absurd w2 e
  exact ⟨w,by omega,w2,w3⟩
structure Lq (c : Int -> Int) (has seen : Int -> Bool) (q : UC) (M : Nat) : Prop where
 el : ∀ i,i < q.1 -> has (q.2 i).who = true /\ seen (q.2 i).who = true /\ (q.2 i).mins = c (q.2 i).who
 all : ∀ k,seen k = true -> ∃ i,i < q.1 /\ (q.2 i).who = k
 ne : ∀ i j,i < j -> j < q.1 -> (q.2 i).who ≠ (q.2 j).who
 len : q.1 + D6 (fun k : Nat => !seen k) M <= M
theorem Lq.begin (c : Int -> Int) (has : Int -> Bool) (M : Nat) : Lq c has (fun _ => false) (0,fun _ => ⟨0,0⟩) M :=
 ⟨fun i hi => absurd hi (Nat.not_lt_zero _),fun k h => (by cases h),fun i j _ hi => absurd hi (Nat.not_lt_zero _),Nat.le_trans (Nat.le_of_eq (Nat.zero_add _)) (FQ _ _)⟩
def RC (q : UC) (x : Hs) : UC := (q.1 + 1,fun i => if i < q.1 then q.2 i else x)
theorem Lq.next {c : Int -> Int} {has seen : Int -> Bool} {q : UC} {M : Nat} (h : Lq c has seen q M) {k : Int} (h1 : has k = true) (h2 : seen k = false) (h3 : 0 <= k /\ k < M) :
  Lq c has (fun j => if j = k then true else seen j) (RC q ⟨k,c k⟩) M /\ D6 (fun z : Nat => !(if (z : Int) = k then true else seen z)) M < D6 (fun z : Nat => !seen z) M := by
 have hlt : D6 (fun z : Nat => !(if (z : Int) = k then true else seen z)) M < D6 (fun z : Nat => !seen z) M := by
  refine QK M (fun z hz h4 => ?_) k.toNat (by omega) ?_ ?_
  ·by_cases e : (z : Int) = k
   ·rw [if_pos e] at h4; cases h4
   rw [if_neg e] at h4; exact h4
  ·rw [if_pos (by omega)]; rfl
  show (!seen ((k.toNat : Nat) : Int)) = true
  rw [show ((k.toNat : Nat) : Int) = k from by omega,h2]; rfl
 have g1 : ∀ i,i < q.1 -> (RC q ⟨k,c k⟩).2 i = q.2 i := fun i hi => if_pos hi
 have g2 : (RC q ⟨k,c k⟩).2 q.1 = ⟨k,c k⟩ := if_neg (Nat.lt_irrefl _)
 have hne : ∀ i,i < q.1 -> (q.2 i).who ≠ k := fun i hi e => by have := (h.el i hi).2.1; rw [e,h2] at this; cases this
 refine ⟨⟨fun i hi => ?_,fun j hj => ?_,fun i j hij hj => ?_,?_⟩,hlt⟩
 ·by_cases e : i < q.1
  ·rw [g1 i e]
   obtain ⟨a1,a2,a3⟩ := h.el i e
   exact ⟨a1,by rw [if_neg (hne i e)]; exact a2,a3⟩
  obtain rfl : i = q.1 := by have : i < q.1 + 1 := hi; omega
  rw [g2]; exact ⟨h1,if_pos rfl,rfl⟩
 ·by_cases e : j = k
  ·subst e; exact ⟨q.1,Nat.lt_succ_self _,by rw [g2]⟩
  rw [if_neg e] at hj
  obtain ⟨i,i1,i2⟩ := h.all j hj
  exact ⟨i,Nat.lt_succ_of_lt i1,by rw [g1 i i1]; exact i2⟩
 ·have hj : j < q.1 + 1 := hj
  rw [g1 i (by omega)]
  by_cases e : j < q.1
  ·rw [g1 j e]; exact h.ne i j hij e
  obtain rfl : j = q.1 := by omega
  rw [g2]; exact hne i hij
 have := h.len
 show q.1 + 1 + _ <= _
 omega
theorem Lq.fin {c : Int -> Int} {has seen : Int -> Bool} {q : UC} (h : Lq c has seen q 10000) (ha : ∀ k,has k = true -> seen k = true) (hc : ∀ k,has k = true ↔ 0 < c k) (hr : ∀ k,has k = true -> 0 <= k /\ k <= 9999) :
  AK C9 (A3 q.2 0 q.1) = A3 (B6 c 10000).2 0 (B6 c 10000).1 := by
 obtain ⟨s1,s2⟩ := KA c 10000
 refine Jn _ _ (KT _ ?_) s1 fun x => ?_
 ·unfold A3
  rw [List.pairwise_map]
  refine List.Pairwise.imp_of_mem (fun {a b} ha hb hab => ?_) (List.pairwise_lt_range (n := q.1 - 0))
  rw [List.mem_range] at ha hb
  rw [Nat.zero_add,Nat.zero_add]
  exact h.ne a b hab (by omega)
 rw [Gi,s2]
 unfold A3
 rw [List.mem_map]
 constructor
 ·rintro ⟨i,hi,rfl⟩
  rw [List.mem_range] at hi
  rw [Nat.zero_add]
  obtain ⟨a1,a2,a3⟩ := h.el i (by omega)
  have hr1 := hr _ a1
  have hw : (((q.2 i).who.toNat : Nat) : Int) = (q.2 i).who := by omega
  refine ⟨(q.2 i).who.toNat,by omega,by rw [hw]; exact (hc _).1 a1,?_⟩
  rw [hw,<- a3]
 rintro ⟨w,w1,w2,rfl⟩
 obtain ⟨i,i1,i2⟩ := h.all _ (ha _ ((hc _).2 w2))
 refine ⟨i,List.mem_range.2 (by omega),?_⟩
 rw [Nat.zero_add]
 have a3 := (h.el i i1).2.2
 rw [i2] at a3
 have : q.2 i = ⟨(q.2 i).who,(q.2 i).mins⟩ := rfl
 rw [this,i2,a3]
end Go.Proofs.YtlieoghhkioflaaGreat
namespace Go.Proofs.YtlieoghhkioflaaGreat
open Go Go.RowKit
variable {G : Nat -> Option (Nat × (Nat -> Ae))}
theorem UQ {d e0 e : Nat -> Hs} {s n t p q : Nat} (h0 : Lc C9 d s n e0) (h : GA C9 d (2 * s) n t e0 e) (x1 : p = 2 * s * t) (hq : q = min (p + 2 * s) n) (hp : p + s < q) : EP C9 (A3 e p (p + s)) /\ EP C9 (A3 e (p + s) q) := by
 subst x1
 have ea : s * (2 * t) = 2 * s * t := by rw [<- Nat.mul_assoc,Nat.mul_comm s 2]
 have eb : s * (2 * t + 1) = 2 * s * t + s := by rw [Nat.mul_succ,ea]
 have s1 := h0.A (2 * t) (by rw [ea]; omega)
 have s2 := h0.A (2 * t + 1) (by rw [eb]; omega)
 rw [ea,show min (2 * s * t + s) n = 2 * s * t + s by omega] at s1
 rw [eb,show min (2 * s * t + s + s) n = q by omega] at s2
 have hb : ∀ i,2 * s * t <= i -> e i = e0 i := fun i hi => h.B i (.inl hi)
 rw [Cl (d := e) (e := e0) fun i i1 _ => hb i i1,Cl (d := e) (e := e0) (a := 2 * s * t + s) fun i i1 _ => hb i (by omega),s1,s2]
 exact ⟨DL Ix _,DL Ix _⟩
noncomputable def VS : Ay := Aj (Af (DQ ME) (Af TI (Af (C5 DB) AV))) (fun a => a.2.1 = a.1.1 /\ a.1.1 <= 100000) fun a => .view 2 a.1.1 fun i j => (BU a.1.2 0 (AK C9 (A3 a.1.2 0 a.1.1)) i).c j
set_option maxHeartbeats 8000000 in
theorem ZA (hC : Ai Tryz.prog G 91 Ih) : Cr Tryz.prog G 112 0 VS := by
 refine N2 (S := []) (I := []) (X := [(135,0,Uz),(136,0,Nt 100000)]) (N := []) (C := []) (R := ME) (t := Af TI (Af (C5 DB) AV)) mixed .nil .nil (.cons (YL hC) (.cons (ZF hC 100000) .nil)) Tryz.func112 YA rfl fun d b e0 hp hw hn => ?_
 obtain ⟨n,d⟩ := d
 obtain ⟨n',cm,u⟩ := b
 obtain ⟨hn',hm⟩ := hp
 have hm : n <= 100000 := hm
 have hn' : n' = (n : Int) := hn'
 subst hn'
 simp only [XK,Af,AV,DB,D7,↓reduceIte,Nat.reduceEqDiff,Nat.reduceAdd,go_sem]
 refine AJ (ι := Nat × (Nat -> Hs)) (fun s => 20 * s.1 <= n /\ GA C9 d 20 n s.1 d s.2) (fun s => n - 20 * s.1) [0,1,2,6] (fun s => [(7,.int .i64 ((20 * s.1 : Nat) : Int)),(8,.int .i64 ((20 * s.1 + 20 : Nat) : Int))]) (fun s => [(0,.row e0 2 n fun i j => (s.2 i).c j)]) (0,d) ⟨by show 20 * 0 <= n; omega,GA.zero d 20 n d⟩ (by
  simp only [Nat.mul_zero,Nat.zero_add,Int.ofNat_zero,↓reduceIte,reduceCtorEq,Nat.reduceEqDiff,Nat.reduceLT,go_sem]
  try trivial) fun s hs => ?_
 obtain ⟨t,e⟩ := s
 obtain ⟨s1,s2⟩ := hs
 simp only at s1 s2
 have v1 : IntKind.i64.wrap (((20 * t + 20 : Nat) : Int) + 20) = ((20 * (t + 1) + 20 : Nat) : Int) := by rw [AU (by omega) (by omega)]; omega
 rcases Nat.lt_or_ge n (20 * t + 20) with hlt | hge
 ·have f1 : (((20 * t + 20 : Nat) : Int) <= (n : Int)) = False := eq_false (by omega)
  simp only [f1,Uz,Aj,Af,AV,Int.toNat_natCast,DB,D7,↓reduceIte,reduceCtorEq,Nat.reduceEqDiff,Nat.reduceAdd,go_sem]
  refine ⟨⟨_,rfl,_,rfl,s1,Nat.le_refl _,hm⟩,?_⟩
  have hF := (s2.ins (q := n) (by omega) s1).full (by omega) fun y _ => rfl
  refine AJ (ι := Nat × (Nat -> Hs)) (fun s => 0 < s.1 /\ s.1 <= 200000 /\ Lc C9 d s.1 n s.2) (fun s => n - s.1) [0,1,2] (fun s => [(6,.int .i64 (s.1 : Int))]) (fun s => [(0,.row e0 2 n fun i j => (s.2 i).c j)]) (20,BU e (20 * t) (AK C9 (A3 e (20 * t) n))) ⟨by show 0 < 20; omega,by show 20 <= 200000; omega,hF⟩ (by
   simp only [↓reduceIte,reduceCtorEq,Nat.reduceEqDiff,Nat.reduceLT,go_sem]
   try trivial) fun s hs => ?_
  clear hF s2 s1 v1 f1 hlt
  obtain ⟨s,e1⟩ := s
  obtain ⟨s1,s2,s3⟩ := hs
  simp only at s1 s2 s3
  rcases Nat.lt_or_ge s n with hsn | hsn
  ·have f1 : ((s : Int) < (n : Int)) = True := eq_true (by omega)
   have v2 : IntKind.i64.wrap (2 * (s : Int)) = ((2 * s : Nat) : Int) := by rw [AU (by omega) (by omega)]; omega
   have v3 : IntKind.i64.wrap ((s : Int) * 2) = ((2 * s : Nat) : Int) := by rw [AU (by omega) (by omega)]; omega
   simp only [f1,v2,↓reduceIte,reduceCtorEq,Nat.reduceEqDiff,go_sem]
   refine AJ (ι := Nat × Nat × (Nat -> Hs)) (fun x => x.2.1 = 2 * s * x.1 /\ x.2.1 <= n /\ GA C9 d (2 * s) n x.1 e1 x.2.2) (fun x => n - x.2.1) [0,1,2,6] (fun x => [(7,.int .i64 ((x.2.1 : Nat) : Int)),(8,.int .i64 ((x.2.1 + 2 * s : Nat) : Int))]) (fun x => [(0,.row e0 2 n fun i j => (x.2.2 i).c j)]) (0,0,e1) ⟨rfl,Nat.zero_le _,GA.zero d (2 * s) n e1⟩ (by
    simp only [Nat.zero_add,Int.ofNat_zero,↓reduceIte,reduceCtorEq,Nat.reduceEqDiff,Nat.reduceLT,go_sem]
    try trivial) fun x hx => ?_
   obtain ⟨t,p,e⟩ := x
   obtain ⟨x1,x2,x3⟩ := hx
   simp only at x1 x2 x3
   have v4 : IntKind.i64.wrap (((p + 2 * s : Nat) : Int) + ((2 * s : Nat) : Int)) = ((p + 2 * s + 2 * s : Nat) : Int) := by rw [AU (by omega) (by omega)]; omega
   have v5 : IntKind.i64.wrap ((p : Int) + (s : Int)) = ((p + s : Nat) : Int) := by rw [AU (by omega) (by omega)]; omega
   have mS : 2 * s * (t + 1) = p + 2 * s := by rw [Nat.mul_succ,<- x1]
   rcases Nat.lt_or_ge n (p + 2 * s) with hlt | hge
   ·have f2 : (((p + 2 * s : Nat) : Int) <= (n : Int)) = False := eq_false (by omega)
    simp only [f2,v3,v5,↓reduceIte,reduceCtorEq,Nat.reduceEqDiff,Nat.reduceAdd,go_sem]
    refine ⟨fun h4 => ?_,fun h4 => ?_⟩
    ·have hM := GA.mrg Ix s3 x3 (q := n) (by omega) (by omega)
     rw [<- x1] at hM
     obtain ⟨S1,S2⟩ := UQ s3 x3 x1 (q := n) (by omega) (by omega)
     simp only [Nt,Aj,Af,AV,Int.toNat_natCast,v3,DB,D7,↓reduceIte,reduceCtorEq,Nat.reduceEqDiff,Nat.reduceAdd,go_sem]
     refine ⟨⟨_,rfl,_,rfl,_,rfl,by omega,by omega,Nat.le_refl _,hm,by omega,S1,S2⟩,Ad (2 * s,BZ C9 e p (p + s) n) ⟨by show 0 < 2 * s; omega,by show 2 * s <= 200000; omega,hM.full (by omega) s3.B⟩ (by show n - 2 * s < n - s; omega) ?_⟩
     simp only [↓reduceIte,reduceCtorEq,Nat.reduceEqDiff,Nat.reduceLT,go_sem]
    have hM := GA.rest s3 x3 (by omega) (by omega)
    refine Ad (2 * s,e) ⟨by show 0 < 2 * s; omega,by show 2 * s <= 200000; omega,hM.full (by omega) s3.B⟩ (by show n - 2 * s < n - s; omega) ?_
    simp only [↓reduceIte,reduceCtorEq,Nat.reduceEqDiff,Nat.reduceLT,go_sem]
   have f2 : (((p + 2 * s : Nat) : Int) <= (n : Int)) = True := eq_true (by omega)
   simp only [f2,v2,v4,v5,Nt,Aj,Af,AV,Int.toNat_natCast,DB,D7,↓reduceIte,reduceCtorEq,Nat.reduceEqDiff,Nat.reduceAdd,go_sem]
   have hM := GA.mrg Ix s3 x3 (q := p + 2 * s) (by omega) (by omega)
   rw [<- x1] at hM
   obtain ⟨S1,S2⟩ := UQ s3 x3 x1 (q := p + 2 * s) (by omega) (by omega)
   refine ⟨⟨_,rfl,_,rfl,_,rfl,by omega,by omega,hge,hm,by omega,S1,S2⟩,Ad (t + 1,p + 2 * s,BZ C9 e p (p + s) (p + 2 * s)) ⟨mS.symm,hge,hM⟩ (by show n - (p + 2 * s) < n - p; omega) ?_⟩
   simp only [↓reduceIte,reduceCtorEq,Nat.reduceEqDiff,Nat.reduceLT,go_sem]
  have f1 : ((s : Int) < (n : Int)) = False := eq_false (by omega)
  have hd := s3.done hsn
  simp only [f1,↓reduceIte,reduceCtorEq,Nat.reduceEqDiff,go_sem]
  rw [<- hd]
  exact ⟨_,rfl,_,rfl,fun _ _ _ _ => BB _⟩
 have f1 : (((20 * t + 20 : Nat) : Int) <= (n : Int)) = True := eq_true (by omega)
 simp only [f1,v1,Uz,Aj,Af,AV,Int.toNat_natCast,DB,D7,↓reduceIte,reduceCtorEq,Nat.reduceEqDiff,Nat.reduceAdd,go_sem]
 refine ⟨⟨_,rfl,_,rfl,by omega,hge,hm⟩,Ad (t + 1,BU e (20 * t) (AK C9 (A3 e (20 * t) (20 * t + 20)))) ⟨by show 20 * (t + 1) <= n; omega,s2.ins (by omega) s1⟩ (by show n - 20 * (t + 1) < n - 20 * t; omega) ?_⟩
 simp only [show 20 * t + 20 = 20 * (t + 1) by omega,↓reduceIte,reduceCtorEq,Nat.reduceEqDiff,Nat.reduceLT,go_sem]
end Go.Proofs.YtlieoghhkioflaaGreat
namespace Go.Proofs.YtlieoghhkioflaaGreat
open Go Go.RowKit
variable {G : Nat -> Option (Nat × (Nat -> Ae))}
noncomputable def Ws : Ay := Aj (Af (DQ ME) (Af (C5 DB) AV)) (fun a => a.1.1 <= 100000) fun a => .view 2 a.1.1 fun i j => (BU a.1.2 0 (AK C9 (A3 a.1.2 0 a.1.1)) i).c j
theorem Zx (hC : Ai Tryz.prog G 91 Ih) : Cr Tryz.prog G 90 0 Ws := by
 refine N2 (S := []) (I := []) (X := [(112,0,VS)]) (N := []) (C := []) (R := ME) (t := Af (C5 DB) AV) mixed .nil .nil (.cons (ZA hC) .nil) Tryz.func90 c90 rfl fun d b e0 hp hw hn => ?_
 obtain ⟨n,d⟩ := d
 obtain ⟨cm,u⟩ := b
 have hm : n <= 100000 := hp
 simp only [Z3,VS,Aj,Af,AV,DB,D7,↓reduceIte,reduceCtorEq,Nat.reduceEqDiff,Nat.reduceAdd,go_sem]
 exact ⟨hm,_,rfl,_,rfl,fun _ _ _ _ => BB _⟩
end Go.Proofs.YtlieoghhkioflaaGreat
namespace Go.Proofs.YtlieoghhkioflaaGreat
open Go Go.RowKit
variable {G : Nat -> Option (Nat × (Nat -> Ae))}
noncomputable def Fc : Ay := Aj (Af JS (Af (DQ Fx) (Af TI AV))) (fun _ => True) fun a => if BS a.1 a.2.1 = 0 then (if 0 <= a.2.2.1 /\ a.2.2.1 <= 100000 then .tup (.cons (L8 (B6 (CG (GZ a.1 a.2.1 a.2.2.1).ow.2 (AE a.1)) 10000)) (.cons (.int .i64 0) .nil)) else .tup (.cons .nils (.cons (.int .i64 2) .nil))) else .tup (.cons .nils (.cons (.int .i64 (BS a.1 a.2.1)) .nil))
set_option maxHeartbeats 4000000 in
theorem RX : Ai Tryz.prog G 18 Fc := by
 refine Ij mixed (S := [(47,ES)]) (I := [(55,Zu)]) (X := [(90,0,Ws)]) (N := []) (C := []) (.cons RG .nil) (.cons Tryz.func55 c55 .nil) (.cons (Zx Zs) .nil) Tryz.func18 c18 (fun a _ hw => ?_)
 obtain ⟨r,l,d,u⟩ := a
 simp only [Af,AV,reduceCtorEq,Nat.reduceSub,Nat.reducePow,go_sem] at hw
 obtain ⟨w1,w2⟩ := hw
 by_cases h0 : BS r l = 0
 ·have f0 : (BS r l = 0) = True := eq_true h0
  have ha := Dn h0
  have hr := ha.1
  by_cases hd : 0 <= d /\ d <= 100000
  ·have fd : Ek d 0 100000 = true := AF hd
   have fd2 : (0 <= d /\ d <= 100000) = True := eq_true hd
   simp only [Yc,ES,WH,Aj,Af,AV,h0,fd2,w1,w2,↓reduceIte,reduceCtorEq,Nat.reduceEqDiff,Nat.reduceAdd,Nat.reduceSub,Nat.reduceLeDiff,Nat.reduceLT,Nat.reducePow,go_sem]
   have hN2 : AE r <= 23040 := by unfold AE; have := hr.1; have := hr.2.1; omega
   have hDok : ∀ i,i < Bv (D1 l) d -> DG r ((D1 l).2 i) := fun i hi => by
    have hU : Bv (D1 l) d <= (D1 l).1 := by have := A7 (fun i => d < ((D1 l).2 i).day) (D1 l).1; unfold Bv; omega
    obtain ⟨k,k1,_,k2⟩ := Gp l i (by omega)
    rw [k2]; exact ha.2.2.1 k k1
   obtain ⟨hP,hRp⟩ := Hn (r := r) (l := (D1 l).2) hr (Bv (D1 l) d) hDok
   have hO : PR (GZ r l d) (AE r) := Jj hr _ hDok
   have hP : By (AE r) (Jc r l d) := hP
   have hRp : Rp (Jc r l d) (GZ r l d) := hRp
   generalize Jc r l d = P at *
   generalize GZ r l d = b at *
   have hlP := hP.len
   have hlw : (P.1 <= 9223372036854775807) = True := eq_true (by omega)
   have zo := VI (f := b.ow.2) (k := fun p => p.owner) hP fun i hi m m1 m2 => hRp.ow i hi m m1 m2
   simp only [hlw,reduceCtorEq,go_sem]
   have hcP : ∀ i,i < P.1 -> ∀ m : Nat,(P.2 i).turn.fro <= m -> (m : Int) < (P.2 i).turn.til -> b.ow.2 m = (P.2 i).owner := fun i hi m m1 m2 => hRp.ow i hi m m1 m2
   refine AJ (ι := Nat) (fun j => j <= P.1) (fun j => P.1 - j) [10,30,31] (fun j => [(32,.int .i64 j)]) (fun j => [(1,.mp .i64 (IA P j) fun k => .int .i64 (CG b.ow.2 (Bg P j) k))]) 0 (Nat.zero_le _) (by
    simp only [↓reduceIte,reduceCtorEq,Nat.reduceEqDiff,Nat.reduceLT,go_sem]
    exact fun k => An fun ⟨i,h,_⟩ => by omega) fun j hj => ?_
   rcases Nat.lt_or_ge j P.1 with hlt | hge
   ·have f1 : ((j : Int) < (P.1 : Int)) = True := eq_true (by omega)
    have hb := Ni b.ow.2 (Bg P j) (P.2 j).owner
    have hle := zo.le j hj
    have hlt2 := hP.lt j hlt
    have hrg := hP.rng hlt
    have hpc := Jb hP hlt (hcP j hlt)
    have hw1 : IntKind.i64.wrap ((P.2 j).turn.til - (P.2 j).turn.fro) = (P.2 j).turn.til - (P.2 j).turn.fro := AU (by omega) (by omega)
    have hw2 : IntKind.i64.wrap (CG b.ow.2 (Bg P j) (P.2 j).owner + ((P.2 j).turn.til - (P.2 j).turn.fro)) = CG b.ow.2 (Bg P j) (P.2 j).owner + ((P.2 j).turn.til - (P.2 j).turn.fro) := AU (by omega) (by omega)
    have fin : ∀ v : Int,v = CG b.ow.2 (Bg P j) (P.2 j).owner + ((P.2 j).turn.til - (P.2 j).turn.fro) -> ∀ k,(IA P (j + 1) k = if k = (P.2 j).owner then true else IA P j k) /\ ((if k = (P.2 j).owner then true else IA P j k) = true -> (if k = (P.2 j).owner then .int .i64 v else .int .i64 (CG b.ow.2 (Bg P j) k)) = Ae.int .i64 (CG b.ow.2 (Bg P (j + 1)) k)) := fun v hv k => ⟨(Rg P j k).symm,fun _ => by
     rw [hpc k]
     by_cases e : k = (P.2 j).owner
     ·rw [if_pos e,if_pos e.symm,hv,e]
     rw [if_neg e,if_neg fun h => e h.symm,Int.add_zero]⟩
    by_cases he : IA P j (P.2 j).owner = true
    ·simp only [f1,he,hw1,hw2,↓reduceIte,reduceCtorEq,Nat.reduceEqDiff,Nat.reduceAdd,Nat.reduceLeDiff,go_sem]
     refine ⟨by omega,Ad (j + 1) hlt (by omega) ?_⟩
     simp only [↓reduceIte,reduceCtorEq,Nat.reduceEqDiff,Nat.reduceLT,go_sem]
     exact ⟨BV (by omega),fin _ rfl⟩
    have he : IA P j (P.2 j).owner = false := by simpa using he
    have hz : CG b.ow.2 (Bg P j) (P.2 j).owner = 0 := by
     have := (Jm hP hcP (P.2 j).owner j hj).2
     rcases Int.lt_or_le 0 (CG b.ow.2 (Bg P j) (P.2 j).owner) with h | h
     ·rw [this h] at he; cases he
     omega
    have hw3 : IntKind.i64.wrap (0 + ((P.2 j).turn.til - (P.2 j).turn.fro)) = (P.2 j).turn.til - (P.2 j).turn.fro := by rw [<- hz,hw2,hz,Int.zero_add]
    simp only [f1,he,hw1,hw3,↓reduceIte,reduceCtorEq,Nat.reduceEqDiff,Nat.reduceAdd,Nat.reduceLeDiff,go_sem]
    refine ⟨by omega,Ad (j + 1) hlt (by omega) ?_⟩
    simp only [↓reduceIte,reduceCtorEq,Nat.reduceEqDiff,Nat.reduceLT,go_sem]
    exact ⟨BV (by omega),fin _ (by rw [hz,Int.zero_add])⟩
   have f1 : ((j : Int) < (P.1 : Int)) = False := eq_false (by omega)
   obtain rfl : j = P.1 := by omega
   have hH : ∀ k,IA P P.1 k = true ↔ 0 < CG b.ow.2 (AE r) k := fun k => by rw [<- zo.fin]; exact Jm hP hcP k P.1 (Nat.le_refl _)
   have hR : ∀ k,IA P P.1 k = true -> 0 <= k /\ k <= 9999 := fun k hk => by
    obtain ⟨i,i1,rfl⟩ := A2.1 hk
    have hrg := hP.rng i1
    have hl := hP.lt i i1
    have h1 := hcP i i1 (P.2 i).turn.fro.toNat (by omega) (by omega)
    rw [<- h1]
    exact hO _ (by omega)
   have hfin := zo.fin
   simp only [f1,hfin,↓reduceIte,reduceCtorEq,Nat.reduceEqDiff,Nat.reduceAdd,go_sem]
   generalize CG b.ow.2 (AE r) = c at *
   generalize IA P P.1 = has at *
   refine FL (ι := UC × (Int -> Bool) × Option Int) (fun s => Lq c has s.2.1 s.1 10000) (fun s => D6 (fun k : Nat => !s.2.1 k) 10000) [10,50] (fun s => [(13,.own (.n 3))]) (fun s => [(2,.it (some (.n 1)) .i64 s.2.1 s.2.2),(3,.row 99 2 s.1.1 fun i j => (s.1.2 i).c j)]) 1 ((0,fun _ => ⟨0,0⟩),(fun _ => false),none) (Lq.begin c has 10000) (by
    simp only [↓reduceIte,reduceCtorEq,Nat.reduceEqDiff,Nat.reduceAdd,Nat.reduceLT,go_sem]) fun s hs => ?_
   obtain ⟨q,seen,last⟩ := s
   have hq := hs.len
   simp only at hs hq
   simp only [Zu,Ws,Aj,Af,AV,DB,D7,Ww,↓reduceIte,reduceCtorEq,Nat.reduceEqDiff,Nat.reduceAdd,Nat.reduceSub,Nat.reduceLeDiff,Nat.reduceLT,Nat.reducePow,go_sem]
   refine ⟨fun k hk hs2 => ⟨hk,by omega,by omega,?_⟩,fun hall => ⟨by omega,?_⟩⟩
   ·have hkr := hR k hk
    obtain ⟨n1,n2⟩ := hs.next hk hs2 ⟨hkr.1,by omega⟩
    refine Ad (RC q ⟨k,c k⟩,(fun j => if j = k then true else seen j),some k) n1 n2 ?_
    simp only [RC,↓reduceIte,reduceCtorEq,Nat.reduceEqDiff,Nat.reduceLT,go_sem]
    intro i hi j hj
    by_cases e : i < q.1
    ·rw [if_pos e,if_pos e]; exact BB _
    obtain rfl : i = q.1 := by omega
    rw [if_neg e,if_neg e,Nat.sub_self]
    rcases (by omega : j = 0 \/ j = 1) with rfl | rfl <;> exact BB _
   have hI := hs.fin hall hH hR
   have hI' : AK C9 (A3 (fun i => q.2 i) 0 q.1) = A3 (B6 c 10000).2 0 (B6 c 10000).1 := hI
   have hl : q.1 = (B6 c 10000).1 := by
    have := congrArg List.length hI
    rw [Dk,Bu,Bu] at this; omega
   rw [hI']
   unfold L8
   rw [Dd]
   refine ⟨hl,fun i hi j hj => ?_⟩
   rw [show i = 0 + i from (Nat.zero_add i).symm,KG (x := (B6 c 10000).2 i) _ _ _ (by rw [Bl,if_pos (by omega),Nat.zero_add]),Nat.zero_add]
   exact BB _
  have fd2 : (0 <= d /\ d <= 100000) = False := eq_false hd
  simp only [Yc,ES,Aj,Af,AV,h0,fd2,w1,w2,↓reduceIte,reduceCtorEq,Nat.reduceEqDiff,Nat.reduceAdd,Nat.reduceSub,Nat.reduceLT,Int.reduceBNe,Nat.reducePow,go_sem]
 have f0 : (BS r l = 0) = False := eq_false h0
 simp only [Yc,ES,Aj,Af,AV,f0,w1,w2,↓reduceIte,reduceCtorEq,Nat.reduceEqDiff,Nat.reduceAdd,Nat.reduceSub,Nat.reduceLT,Nat.reducePow,go_sem]
end Go.Proofs.YtlieoghhkioflaaGreat
namespace Go.Proofs.YtlieoghhkioflaaGreat
open Go Go.RowKit
variable {G : Nat -> Option (Nat × (Nat -> Ae))}
noncomputable def OR : Ay := Aj (Af JS (Af (DQ Fx) (Af TI (Af TI AV)))) (fun _ => True) fun a => if BS a.1 a.2.1 = 0 then (if 0 <= a.2.2.1 /\ a.2.2.1 <= 100000 then (if 0 <= a.2.2.2.1 /\ a.2.2.2.1 <= (AE a.1 : Int) - 1 then .tup (.cons (.int .i64 ((GZ a.1 a.2.1 a.2.2.1).ow.2 a.2.2.2.1.toNat)) (.cons (.int .i64 (Fy (GZ a.1 a.2.1 a.2.2.1) a.2.2.2.1.toNat a.2.2.1)) (.cons (.int .i64 0) .nil))) else .tup (.cons (.int .i64 0) (.cons (.int .i64 0) (.cons (.int .i64 2) .nil)))) else .tup (.cons (.int .i64 0) (.cons (.int .i64 0) (.cons (.int .i64 2) .nil)))) else .tup (.cons (.int .i64 0) (.cons (.int .i64 0) (.cons (.int .i64 (BS a.1 a.2.1)) .nil)))
set_option maxHeartbeats 4000000 in
theorem Y6 : Ai Tryz.prog G 20 OR := by
 refine Ij mixed (S := [(47,ES),(57,JO),(51,H5)]) (I := []) (X := []) (N := []) (C := []) (.cons RG (.cons V1 (.cons Sk .nil))) .nil .nil Tryz.func20 c20 (fun a _ hw => ?_)
 obtain ⟨r,l,d,m,u⟩ := a
 simp only [Af,AV,reduceCtorEq,Nat.reduceSub,Nat.reducePow,go_sem] at hw
 obtain ⟨w1,w2⟩ := hw
 by_cases h0 : BS r l = 0
 ·have f0 : (BS r l = 0) = True := eq_true h0
  have ha := Dn h0
  have hr := ha.1
  by_cases hd : 0 <= d /\ d <= 100000
  ·have fd : Ek d 0 100000 = true := AF hd
   have fd2 : (0 <= d /\ d <= 100000) = True := eq_true hd
   have hN2 : AE r <= 23040 := by unfold AE; have := hr.1; have := hr.2.1; omega
   have hDok : ∀ i,i < Bv (D1 l) d -> DG r ((D1 l).2 i) := fun i hi => by
    have hU : Bv (D1 l) d <= (D1 l).1 := by have := A7 (fun i => d < ((D1 l).2 i).day) (D1 l).1; unfold Bv; omega
    obtain ⟨k,k1,_,k2⟩ := Gp l i (by omega)
    rw [k2]; exact ha.2.2.1 k k1
   obtain ⟨hP,hRp⟩ := Hn (r := r) (l := (D1 l).2) hr (Bv (D1 l) d) hDok
   have hP : By (AE r) (Jc r l d) := hP
   have hRp : Rp (Jc r l d) (GZ r l d) := hRp
   generalize hPe : Jc r l d = P at hP hRp
   generalize hbe : GZ r l d = b at hRp
   have hlP := hP.len
   have hlw : (P.1 <= 9223372036854775807) = True := eq_true (by omega)
   by_cases hm : 0 <= m /\ m <= (AE r : Int) - 1
   ·have fm : (0 <= m /\ m <= (AE r : Int) - 1) = True := eq_true hm
    obtain ⟨i,i1,i2,i3⟩ := hP.at hm.1 (show m < (AE r : Int) by omega)
    have hq : GX P (.at m) = (i : Int) := Kt i1 ⟨i2,i3⟩ fun j hj hk => by
     have := hP.one (show j < P.1 by omega) i1 hk.1 hk.2 i2 i3; omega
    have hmN : ((m.toNat : Nat) : Int) = m := by omega
    have ho : b.ow.2 m.toNat = (P.2 i).owner := hRp.ow i i1 m.toNat (by omega) (by omega)
    have hu : Fy b m.toNat d = GK (P.2 i) d := (NZ hRp d i1 (m := m.toNat) (by omega) (by omega)).symm
    have f3 : ((i : Int) < 0) = False := eq_false (by omega)
    simp only [XF,ES,WH,Aj,Af,AV,h0,fd2,w1,w2,hPe,JO,H5,Aj,Af,AV,hlw,fm,Prod.eta,hq,f3,↓reduceIte,reduceCtorEq,Nat.reduceEqDiff,Nat.reduceAdd,Nat.reduceSub,Nat.reduceLeDiff,Nat.reduceLT,Nat.reducePow,go_sem]
    refine ⟨by omega,by omega,by omega,by omega,by omega,?_⟩
    exact ⟨ho.symm,hu.symm⟩
   have fm : (0 <= m /\ m <= (AE r : Int) - 1) = False := eq_false hm
   have hq : GX P (.at m) = -1 := Kc fun i i1 hk => by
    have := hP.rng i1
    have h1 := hk.1
    have h2 := hk.2
    exact hm (by omega)
   simp only [XF,ES,WH,Aj,Af,AV,h0,fd2,w1,w2,hPe,JO,H5,Aj,Af,AV,hlw,fm,Prod.eta,hq,↓reduceIte,reduceCtorEq,Nat.reduceEqDiff,Nat.reduceAdd,Nat.reduceSub,Nat.reduceLeDiff,Nat.reduceLT,Int.reduceLT,Int.reduceNeg,Nat.reducePow,go_sem]
   omega
  have fd2 : (0 <= d /\ d <= 100000) = False := eq_false hd
  simp only [XF,ES,Aj,Af,AV,h0,fd2,w1,w2,↓reduceIte,reduceCtorEq,Nat.reduceEqDiff,Nat.reduceAdd,Nat.reduceSub,Nat.reduceLT,Int.reduceBNe,Nat.reducePow,go_sem]
 have f0 : (BS r l = 0) = False := eq_false h0
 simp only [XF,ES,Aj,Af,AV,f0,w1,w2,↓reduceIte,reduceCtorEq,Nat.reduceEqDiff,Nat.reduceAdd,Nat.reduceSub,Nat.reduceLT,Nat.reducePow,go_sem]
end Go.Proofs.YtlieoghhkioflaaGreat
