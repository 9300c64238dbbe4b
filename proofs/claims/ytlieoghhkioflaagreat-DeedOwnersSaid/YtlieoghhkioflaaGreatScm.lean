/- The closures that compare for the sort. No condition. -/
import Derived.Test.YtlieoghhkioflaaGreatSoD
import Derived.Test.YtlieoghhkioflaaGreatSoH
import Derived.Test.YtlieoghhkioflaaGreatDpq
set_option linter.unusedSimpArgs false
set_option linter.unusedVariables false
set_option maxRecDepth 100000
namespace Go.Proofs.YtlieoghhkioflaaGreat
open Go Go.RowKit
variable {G : Nat -> Option (Nat × (Nat -> Ae))}
def UM (a b : Int) : Int := if a < b then -1 else if b < a then 1 else 0
theorem RZ {a b : Int} (h : UM a b = 0) : a = b := by
 unfold UM at h
 split at h
 ·cases h
 split at h
 ·cases h
 omega
noncomputable def UE : Ay := Cs TI TI (fun _ _ => True) fun a b => .int .i64 (UM a b)
theorem pCI : Ai Tryz.prog G 92 UE := by
 refine MC mixed (S := []) (I := [(113,U6)]) .nil (.cons Tryz.func113 ZP .nil) Tryz.func92 c92 fun a b _ hw => ?_
 simp only [A9,a92,U6,↓reduceIte,reduceCtorEq,Nat.reduceEqDiff,Int.reduceNeg,go_sem]
 refine ⟨fun h => by unfold UM; rw [if_pos h],fun h => ⟨fun h2 => by unfold UM; rw [if_neg h,if_pos h2],fun h2 => by unfold UM; rw [if_neg h,if_neg h2]⟩⟩
noncomputable def Xn : Ay := Aj (Af O6 AV) (fun _ => True) fun a => .int .i64 a.1.day
noncomputable def Xc : Ay := Aj (Af O6 AV) (fun _ => True) fun a => .int .i64 a.1.id
noncomputable def X8 : Ay := Aj (Af X7 AV) (fun _ => True) fun a => .int .i64 a.1.who
theorem pR2 : Ai Tryz.prog G 100 Xn := by
 refine Ij mixed (S := []) (I := []) (X := []) (N := []) (C := []) .nil .nil .nil Tryz.func100 Zb fun a _ hw => ?_
 simp only [Xs,Af,AV,↓reduceIte,reduceCtorEq,Nat.reduceEqDiff,Nat.reduceAdd,Nat.reduceLeDiff,go_sem]
theorem pR3 : Ai Tryz.prog G 101 Xc := by
 refine Ij mixed (S := []) (I := []) (X := []) (N := []) (C := []) .nil .nil .nil Tryz.func101 Zi fun a _ hw => ?_
 simp only [X0,Af,AV,↓reduceIte,reduceCtorEq,Nat.reduceEqDiff,Nat.reduceAdd,Nat.reduceLeDiff,go_sem]
theorem pS1 : Ai Tryz.prog G 56 X8 := by
 refine Ij mixed (S := []) (I := []) (X := []) (N := []) (C := []) .nil .nil .nil Tryz.func56 c56 fun a _ hw => ?_
 simp only [Z6,Af,AV,↓reduceIte,reduceCtorEq,Nat.reduceEqDiff,Nat.reduceAdd,Nat.reduceLeDiff,go_sem]
theorem Ys : Ai Tryz.prog G 118 H3 := by
 refine XW (X := []) mixed (S := [(92,UE),(100,Xn),(101,Xc)]) (I := []) (.cons pCI (.cons pR2 (.cons pR3 .nil))) .nil .nil Tryz.func118 Yn fun x y u _ hw => ?_
 simp only [Nn,XN,Ec,Wi,↓reduceIte,reduceCtorEq,Nat.reduceEqDiff,Nat.reduceAdd,Nat.reduceSub,Nat.reduceLeDiff,Nat.reducePow,go_sem]
 refine AJ (ι := Nat) (fun t => t <= 2 /\ (1 <= t -> x.day = y.day) /\ (2 <= t -> x.id = y.id)) (fun t => 2 - t) [2,3,4,9,10] (fun t => [(11,.int .i64 t)]) (fun _ => []) 0 ⟨by omega,by omega,by omega⟩ (by simp only [↓reduceIte,reduceCtorEq,Nat.reduceEqDiff,Nat.reduceLT,go_sem]; try trivial) fun t ht => ?_
 obtain ⟨t0,t1,t2⟩ := ht
 rcases (by omega : t = 0 \/ t = 1 \/ t = 2) with rfl | rfl | rfl
 ·simp only [UE,Xn,Xc,Aj,Af,AV,↓reduceIte,reduceCtorEq,Nat.reduceEqDiff,Nat.reduceAdd,Int.reduceToNat,Int.reduceLT,Int.reduceLE,Int.reduceAdd,go_sem]
  refine ⟨fun h => ?_,fun h => Ad 1 ⟨by omega,fun _ => RZ h,by omega⟩ (by omega) (by simp only [show IntKind.i64.wrap 1 = ((1 : Nat) : Int) from rfl,↓reduceIte,reduceCtorEq,Nat.reduceEqDiff,Nat.reduceLT,go_sem])⟩
  congr 1
  unfold UM at h ⊢
  unfold UN
  by_cases e1 : x.day < y.day
  ·rw [if_pos e1,if_pos (show Bi x y from by unfold Bi; omega)]
  by_cases e2 : y.day < x.day
  ·rw [if_neg e1,if_pos e2,if_neg (show ¬ Bi x y from by unfold Bi; omega),if_pos (show Bi y x from by unfold Bi; omega)]
  rw [if_neg e1,if_neg e2] at h; exact absurd rfl h
 ·have t3 := t1 (Nat.le_refl _)
  simp only [UE,Xn,Xc,Aj,Af,AV,↓reduceIte,reduceCtorEq,Nat.reduceEqDiff,Nat.reduceAdd,Nat.reduceSub,Int.reduceToNat,Int.reduceLT,Int.reduceLE,Int.reduceAdd,go_sem]
  refine ⟨fun h => ?_,fun h => Ad 2 ⟨by omega,fun _ => t3,fun _ => RZ h⟩ (by omega) (by simp only [show IntKind.i64.wrap 2 = ((2 : Nat) : Int) from rfl,↓reduceIte,reduceCtorEq,Nat.reduceEqDiff,Nat.reduceLT,go_sem])⟩
  congr 1
  unfold UM at h ⊢
  unfold UN
  by_cases e1 : x.id < y.id
  ·rw [if_pos e1,if_pos (show Bi x y from by unfold Bi; omega)]
  by_cases e2 : y.id < x.id
  ·rw [if_neg e1,if_pos e2,if_neg (show ¬ Bi x y from by unfold Bi; omega),if_pos (show Bi y x from by unfold Bi; omega)]
  rw [if_neg e1,if_neg e2] at h; exact absurd rfl h
 have t3 := t1 (by omega)
 have t4 := t2 (Nat.le_refl _)
 simp only [UE,Xn,Xc,Aj,Af,AV,↓reduceIte,reduceCtorEq,Nat.reduceEqDiff,Nat.reduceSub,Int.reduceLT,go_sem]
 congr 1
 unfold UN
 rw [if_neg (show ¬ Bi x y from by unfold Bi; omega),if_neg (show ¬ Bi y x from by unfold Bi; omega)]
theorem Zs : Ai Tryz.prog G 91 Ih := by
 refine XW (X := []) mixed (S := [(92,UE),(56,X8)]) (I := []) (.cons pCI (.cons pS1 .nil)) .nil .nil Tryz.func91 c91 fun x y u _ hw => ?_
 simp only [Nn,a91,D7,Ww,↓reduceIte,reduceCtorEq,Nat.reduceEqDiff,Nat.reduceAdd,Nat.reduceSub,Nat.reduceLeDiff,Nat.reducePow,go_sem]
 refine AJ (ι := Nat) (fun t => t <= 1 /\ (1 <= t -> x.who = y.who)) (fun t => 1 - t) [2,3,4,9,10] (fun t => [(11,.int .i64 t)]) (fun _ => []) 0 ⟨by omega,by omega⟩ (by simp only [↓reduceIte,reduceCtorEq,Nat.reduceEqDiff,Nat.reduceLT,go_sem]; try trivial) fun t ht => ?_
 obtain ⟨t0,t1⟩ := ht
 rcases (by omega : t = 0 \/ t = 1) with rfl | rfl
 ·simp only [UE,X8,Aj,Af,AV,↓reduceIte,reduceCtorEq,Nat.reduceEqDiff,Nat.reduceAdd,Int.reduceToNat,Int.reduceLT,Int.reduceLE,Int.reduceAdd,go_sem]
  refine ⟨fun h => ?_,fun h => Ad 1 ⟨by omega,fun _ => RZ h⟩ (by omega) (by simp only [show IntKind.i64.wrap 1 = ((1 : Nat) : Int) from rfl,↓reduceIte,reduceCtorEq,Nat.reduceEqDiff,Nat.reduceLT,go_sem])⟩
  congr 1
 have t3 := t1 (by omega)
 simp only [UE,X8,Aj,Af,AV,↓reduceIte,reduceCtorEq,Nat.reduceEqDiff,Nat.reduceSub,Int.reduceLT,go_sem]
 congr 1
 unfold UN
 rw [if_neg (show ¬ C4 x y from by unfold C4; omega),if_neg (show ¬ C4 y x from by unfold C4; omega)]
end Go.Proofs.YtlieoghhkioflaaGreat
namespace Go.Proofs.YtlieoghhkioflaaGreat
open Go Go.RowKit
variable {G : Nat -> Option (Nat × (Nat -> Ae))}
theorem UG {d e0 e : Nat -> De} {s n t p q : Nat} (h0 : Lc Dj d s n e0) (h : GA Dj d (2 * s) n t e0 e) (x1 : p = 2 * s * t) (hq : q = min (p + 2 * s) n) (hp : p + s < q) : EP Dj (A3 e p (p + s)) /\ EP Dj (A3 e (p + s) q) := by
 subst x1
 have ea : s * (2 * t) = 2 * s * t := by rw [<- Nat.mul_assoc,Nat.mul_comm s 2]
 have eb : s * (2 * t + 1) = 2 * s * t + s := by rw [Nat.mul_succ,ea]
 have s1 := h0.A (2 * t) (by rw [ea]; omega)
 have s2 := h0.A (2 * t + 1) (by rw [eb]; omega)
 rw [ea,show min (2 * s * t + s) n = 2 * s * t + s by omega] at s1
 rw [eb,show min (2 * s * t + s + s) n = q by omega] at s2
 have hb : ∀ i,2 * s * t <= i -> e i = e0 i := fun i hi => h.B i (.inl hi)
 rw [Cl (d := e) (e := e0) fun i i1 _ => hb i i1,Cl (d := e) (e := e0) (a := 2 * s * t + s) fun i i1 _ => hb i (by omega),s1,s2]
 exact ⟨DL IB _,DL IB _⟩
noncomputable def Wn : Ay := Aj (Af (DQ Fx) (Af TI (Af (C5 Dv) AV))) (fun a => a.2.1 = a.1.1 /\ a.1.1 <= 100000) fun a => .view 9 a.1.1 fun i j => (BU a.1.2 0 (AK Dj (A3 a.1.2 0 a.1.1)) i).c j
set_option maxHeartbeats 8000000 in
theorem Zt (hC : Ai Tryz.prog G 118 H3) : Cr Tryz.prog G 137 0 Wn := by
 refine N2 (S := []) (I := []) (X := [(155,0,Tx),(156,0,Nh 100000)]) (N := []) (C := []) (R := Fx) (t := Af TI (Af (C5 Dv) AV)) mixed .nil .nil (.cons (YY hC) (.cons (Yy hC 100000) .nil)) Tryz.func137 YE rfl fun d b e0 hp hw hn => ?_
 obtain ⟨n,d⟩ := d
 obtain ⟨n',cm,u⟩ := b
 obtain ⟨hn',hm⟩ := hp
 have hm : n <= 100000 := hm
 have hn' : n' = (n : Int) := hn'
 subst hn'
 simp only [XO,Af,AV,Dv,Ec,↓reduceIte,Nat.reduceEqDiff,Nat.reduceAdd,go_sem]
 refine AJ (ι := Nat × (Nat -> De)) (fun s => 20 * s.1 <= n /\ GA Dj d 20 n s.1 d s.2) (fun s => n - 20 * s.1) [0,1,2,6] (fun s => [(7,.int .i64 ((20 * s.1 : Nat) : Int)),(8,.int .i64 ((20 * s.1 + 20 : Nat) : Int))]) (fun s => [(0,.row e0 9 n fun i j => (s.2 i).c j)]) (0,d) ⟨by show 20 * 0 <= n; omega,GA.zero d 20 n d⟩ (by
  simp only [Nat.mul_zero,Nat.zero_add,Int.ofNat_zero,↓reduceIte,reduceCtorEq,Nat.reduceEqDiff,Nat.reduceLT,go_sem]
  try trivial) fun s hs => ?_
 obtain ⟨t,e⟩ := s
 obtain ⟨s1,s2⟩ := hs
 simp only at s1 s2
 have v1 : IntKind.i64.wrap (((20 * t + 20 : Nat) : Int) + 20) = ((20 * (t + 1) + 20 : Nat) : Int) := by rw [AU (by omega) (by omega)]; omega
 rcases Nat.lt_or_ge n (20 * t + 20) with hlt | hge
 ·have f1 : (((20 * t + 20 : Nat) : Int) <= (n : Int)) = False := eq_false (by omega)
  simp only [f1,Tx,Aj,Af,AV,Int.toNat_natCast,Dv,Ec,↓reduceIte,reduceCtorEq,Nat.reduceEqDiff,Nat.reduceAdd,go_sem]
  refine ⟨⟨_,rfl,_,rfl,s1,Nat.le_refl _,hm⟩,?_⟩
  have hF := (s2.ins (q := n) (by omega) s1).full (by omega) fun y _ => rfl
  refine AJ (ι := Nat × (Nat -> De)) (fun s => 0 < s.1 /\ s.1 <= 200000 /\ Lc Dj d s.1 n s.2) (fun s => n - s.1) [0,1,2] (fun s => [(6,.int .i64 (s.1 : Int))]) (fun s => [(0,.row e0 9 n fun i j => (s.2 i).c j)]) (20,BU e (20 * t) (AK Dj (A3 e (20 * t) n))) ⟨by show 0 < 20; omega,by show 20 <= 200000; omega,hF⟩ (by
   simp only [↓reduceIte,reduceCtorEq,Nat.reduceEqDiff,Nat.reduceLT,go_sem]
   try trivial) fun s hs => ?_
  clear hF s2 s1 v1 f1 hlt
  obtain ⟨s,e1⟩ := s
  obtain ⟨s1,s2,s3⟩ := hs
  simp only at s1 s2 s3
  rcases Nat.lt_or_ge s n with hsn | hsn
  ·have f1 : ((s : Int) < (n : Int)) = True := eq_true (by omega)
   have v2 : IntKind.i64.wrap (2 * (s : Int)) = ((2 * s : Nat) : Int) := by rw [AU (by omega) (by omega)]; omega
   have v3 : IntKind.i64.wrap ((s : Int) * 2) = ((2 * s : Nat) : Int) := by rw [AU (by omega) (by omega)]; omega
   simp only [f1,v2,↓reduceIte,reduceCtorEq,Nat.reduceEqDiff,go_sem]
   refine AJ (ι := Nat × Nat × (Nat -> De)) (fun x => x.2.1 = 2 * s * x.1 /\ x.2.1 <= n /\ GA Dj d (2 * s) n x.1 e1 x.2.2) (fun x => n - x.2.1) [0,1,2,6] (fun x => [(7,.int .i64 ((x.2.1 : Nat) : Int)),(8,.int .i64 ((x.2.1 + 2 * s : Nat) : Int))]) (fun x => [(0,.row e0 9 n fun i j => (x.2.2 i).c j)]) (0,0,e1) ⟨rfl,Nat.zero_le _,GA.zero d (2 * s) n e1⟩ (by
    simp only [Nat.zero_add,Int.ofNat_zero,↓reduceIte,reduceCtorEq,Nat.reduceEqDiff,Nat.reduceLT,go_sem]
    try trivial) fun x hx => ?_
   obtain ⟨t,p,e⟩ := x
   obtain ⟨x1,x2,x3⟩ := hx
   simp only at x1 x2 x3
   have v4 : IntKind.i64.wrap (((p + 2 * s : Nat) : Int) + ((2 * s : Nat) : Int)) = ((p + 2 * s + 2 * s : Nat) : Int) := by rw [AU (by omega) (by omega)]; omega
   have v5 : IntKind.i64.wrap ((p : Int) + (s : Int)) = ((p + s : Nat) : Int) := by rw [AU (by omega) (by omega)]; omega
   have mS : 2 * s * (t + 1) = p + 2 * s := by rw [Nat.mul_succ,<- x1]
   rcases Nat.lt_or_ge n (p + 2 * s) with hlt | hge
   ·have f2 : (((p + 2 * s : Nat) : Int) <= (n : Int)) = False := eq_false (by omega)
    simp only [f2,v3,v5,↓reduceIte,reduceCtorEq,Nat.reduceEqDiff,Nat.reduceAdd,go_sem]
    refine ⟨fun h4 => ?_,fun h4 => ?_⟩
    ·have hM := GA.mrg IB s3 x3 (q := n) (by omega) (by omega)
     rw [<- x1] at hM
     obtain ⟨S1,S2⟩ := UG s3 x3 x1 (q := n) (by omega) (by omega)
     simp only [Nh,Aj,Af,AV,Int.toNat_natCast,v3,Dv,Ec,↓reduceIte,reduceCtorEq,Nat.reduceEqDiff,Nat.reduceAdd,go_sem]
     refine ⟨⟨_,rfl,_,rfl,_,rfl,by omega,by omega,Nat.le_refl _,hm,by omega,S1,S2⟩,Ad (2 * s,BZ Dj e p (p + s) n) ⟨by show 0 < 2 * s; omega,by show 2 * s <= 200000; omega,hM.full (by omega) s3.B⟩ (by show n - 2 * s < n - s; omega) ?_⟩
     simp only [↓reduceIte,reduceCtorEq,Nat.reduceEqDiff,Nat.reduceLT,go_sem]
    have hM := GA.rest s3 x3 (by omega) (by omega)
    refine Ad (2 * s,e) ⟨by show 0 < 2 * s; omega,by show 2 * s <= 200000; omega,hM.full (by omega) s3.B⟩ (by show n - 2 * s < n - s; omega) ?_
    simp only [↓reduceIte,reduceCtorEq,Nat.reduceEqDiff,Nat.reduceLT,go_sem]
   have f2 : (((p + 2 * s : Nat) : Int) <= (n : Int)) = True := eq_true (by omega)
   simp only [f2,v2,v4,v5,Nh,Aj,Af,AV,Int.toNat_natCast,Dv,Ec,↓reduceIte,reduceCtorEq,Nat.reduceEqDiff,Nat.reduceAdd,go_sem]
   have hM := GA.mrg IB s3 x3 (q := p + 2 * s) (by omega) (by omega)
   rw [<- x1] at hM
   obtain ⟨S1,S2⟩ := UG s3 x3 x1 (q := p + 2 * s) (by omega) (by omega)
   refine ⟨⟨_,rfl,_,rfl,_,rfl,by omega,by omega,hge,hm,by omega,S1,S2⟩,Ad (t + 1,p + 2 * s,BZ Dj e p (p + s) (p + 2 * s)) ⟨mS.symm,hge,hM⟩ (by show n - (p + 2 * s) < n - p; omega) ?_⟩
   simp only [↓reduceIte,reduceCtorEq,Nat.reduceEqDiff,Nat.reduceLT,go_sem]
  have f1 : ((s : Int) < (n : Int)) = False := eq_false (by omega)
  have hd := s3.done hsn
  simp only [f1,↓reduceIte,reduceCtorEq,Nat.reduceEqDiff,go_sem]
  rw [<- hd]
  exact ⟨_,rfl,_,rfl,fun _ _ _ _ => BB _⟩
 have f1 : (((20 * t + 20 : Nat) : Int) <= (n : Int)) = True := eq_true (by omega)
 simp only [f1,v1,Tx,Aj,Af,AV,Int.toNat_natCast,Dv,Ec,↓reduceIte,reduceCtorEq,Nat.reduceEqDiff,Nat.reduceAdd,go_sem]
 refine ⟨⟨_,rfl,_,rfl,by omega,hge,hm⟩,Ad (t + 1,BU e (20 * t) (AK Dj (A3 e (20 * t) (20 * t + 20)))) ⟨by show 20 * (t + 1) <= n; omega,s2.ins (by omega) s1⟩ (by show n - 20 * (t + 1) < n - 20 * t; omega) ?_⟩
 simp only [show 20 * t + 20 = 20 * (t + 1) by omega,↓reduceIte,reduceCtorEq,Nat.reduceEqDiff,Nat.reduceLT,go_sem]
end Go.Proofs.YtlieoghhkioflaaGreat
namespace Go.Proofs.YtlieoghhkioflaaGreat
open Go Go.RowKit
variable {G : Nat -> Option (Nat × (Nat -> Ae))}
noncomputable def V9 : Ay := Aj (Af (DQ Fx) (Af (C5 Dv) AV)) (fun a => a.1.1 <= 100000) fun a => .view 9 a.1.1 fun i j => (BU a.1.2 0 (AK Dj (A3 a.1.2 0 a.1.1)) i).c j
theorem Yq (hC : Ai Tryz.prog G 118 H3) : Cr Tryz.prog G 117 0 V9 := by
 refine N2 (S := []) (I := []) (X := [(137,0,Wn)]) (N := []) (C := []) (R := Fx) (t := Af (C5 Dv) AV) mixed .nil .nil (.cons (Zt hC) .nil) Tryz.func117 Zl rfl fun d b e0 hp hw hn => ?_
 obtain ⟨n,d⟩ := d
 obtain ⟨cm,u⟩ := b
 have hm : n <= 100000 := hp
 simp only [Xt,Wn,Aj,Af,AV,Dv,Ec,↓reduceIte,reduceCtorEq,Nat.reduceEqDiff,Nat.reduceAdd,go_sem]
 exact ⟨hm,_,rfl,_,rfl,fun _ _ _ _ => BB _⟩
end Go.Proofs.YtlieoghhkioflaaGreat
namespace Go.Proofs.YtlieoghhkioflaaGreat
open Go Go.RowKit
variable {G : Nat -> Option (Nat × (Nat -> Ae))}
noncomputable def RD : Ay := Aj (Af (DQ ID) AV) (fun a => a.1.1 <= 1000) fun a => .view 2 a.1.1 fun i j => (a.1.2 i).c j
theorem X3 : Ai Tryz.prog G 98 RD := by
 refine Ij mixed (S := []) (I := []) (X := []) (N := []) (C := []) .nil .nil .nil Tryz.func98 c98 fun a hp hw => ?_
 obtain ⟨l,u⟩ := a
 simp only [YB,Af,AV,↓reduceIte,reduceCtorEq,Nat.reduceEqDiff,Nat.reduceAdd,Nat.reduceSub,Nat.reduceLT,Nat.reducePow,go_sem]
 have hl : l.1 <= 1000 := hp
 refine fun _ t ht => ⟨fun h => ?_,fun _ _ => ⟨by omega,by omega,fun i _ j _ => by rw [if_neg (by omega)]; exact BB _⟩⟩
 have := fun k => ht k
 rcases Nat.eq_zero_or_pos l.1 with h0 | h0
 ·exact h0
 rw [ht h0] at h; cases h
noncomputable def WL (r : Ro) : Int := if A8 (Fq r) = true then 0 else 40
noncomputable def TJ : Ay := Dw JS (fun _ => True) fun r => .int .i64 (WL r)
theorem Y5 : Ai Tryz.prog G 46 TJ := VZ
noncomputable def JU (l : J3) : Nat -> List De
 | 0 => []
 | i + 1 => if Iq l i = true then JU l i ++ [l.2 i] else JU l i
theorem Js (l : J3) : ∀ t,AK Dj (JU l t) = Bb l t
 | 0 => rfl
 | t + 1 => by
  rw [JU,Bb]
  split
  ·rw [B9,Js l t]
   have : ∀ (x : De) (L : List De),CP Dj x L = E0 x L := fun x L => by
    induction L with
    | nil => rfl
    | cons y L ih =>
     rw [CP,E0,ih]
     by_cases h : Bi x y
     ·rw [if_pos h,if_pos (decide_eq_true h)]
     rw [if_neg h,if_neg (by show ¬ decide (Bi x y) = true; rw [decide_eq_false h]; exact Bool.false_ne_true)]
   exact this _ _
  exact Js l t
theorem PN {a b c : De} (h1 : CX a c) (h2 : CX b c) : CX a b := by
 obtain ⟨p1,p2,p3,p4,p5,p6,p7,p8,p9⟩ := h1
 obtain ⟨q1,q2,q3,q4,q5,q6,q7,q8,q9⟩ := h2
 exact ⟨p1.trans q1.symm,p2.trans q2.symm,p3.trans q3.symm,p4.trans q4.symm,p5.trans q5.symm,p6.trans q6.symm,p7.trans q7.symm,p8.trans q8.symm,fun i hi => (p9 i hi).trans (q9 i (by omega)).symm⟩
theorem SJ (L : List De) (x : De) {i : Nat} (h : i < L.length) : lD (L ++ [x]) i = lD L i := by
 simp only [lD,List.getD_eq_getElem?_getD,List.getElem?_append,if_pos h]
theorem T1 (L : List De) (x : De) : lD (L ++ [x]) L.length = x := by
 simp [lD,List.getD_eq_getElem?_getD]
theorem Rk {p : Nat -> Prop} {t : Nat} (h : ∃ i,i < t /\ p i) : Ci p (t + 1) = Ci p t := by
 rcases A7 p t with ⟨h1,h2,h3⟩ | ⟨_,h2⟩
 ·exact DT (by omega) h2 h3
 obtain ⟨i,hi,hp⟩ := h; exact absurd hp (h2 i hi)
theorem KL (l : J3) : ∀ t,(JU l t).length <= t
 | 0 => Nat.le_refl _
 | t + 1 => by
  rw [JU]; have := KL l t
  split
  ·rw [List.length_append]; show _ + 1 <= _; omega
  omega
noncomputable def L7 : Ay := Aj (Af JS (Af (DQ Fx) AV)) (fun _ => True) fun a => if BS a.1 a.2.1 = 0 then .tup (.cons (.view 9 (Bb a.2.1 a.2.1.1).length fun i j => (lD (Bb a.2.1 a.2.1.1) i).c j) (.cons (.int .i64 0) .nil)) else .tup (.cons .nils (.cons (.int .i64 (BS a.1 a.2.1)) .nil))
set_option maxHeartbeats 8000000 in
theorem Xk : Ai Tryz.prog G 66 L7 := by
 refine Ij mixed (S := [(46,TJ),(96,Lo),(97,NE),(98,RD)]) (I := [(94,Ye),(114,T4),(95,X4),(99,YQ)]) (X := [(117,0,V9)]) (N := []) (C := []) (.cons Y5 (.cons VG (.cons UT (.cons X3 .nil)))) (.cons Tryz.func94 c94 (.cons Tryz.func114 Zo (.cons Tryz.func95 c95 (.cons Tryz.func99 c99 .nil)))) (.cons (Yq Ys) .nil) Tryz.func66 c66 fun a _ hw => ?_
 obtain ⟨r,l,u⟩ := a
 simp only [Af,AV,reduceCtorEq,Nat.reduceSub,Nat.reducePow,go_sem] at hw
 by_cases hr : Fq r
 ·have ha : BS r l = DK r l := by unfold BS; rw [AF hr]; rfl
  have hck : WL r = 0 := by unfold WL; rw [AF hr,if_pos rfl]
  simp only [hck,ha,Af,AV,ZH,Ye,T4,TJ,hw,↓reduceIte,reduceCtorEq,Nat.reduceEqDiff,Nat.reduceAdd,Nat.reduceSub,Int.reduceNeg,Nat.reducePow,go_sem]
  refine ⟨fun h => ?_,fun h => ?_⟩
  ·have : DK r l = 4 := by unfold DK; rw [if_pos (by omega)]
   rw [this,if_neg (by omega)]; exact BB _
  have hl : l.1 <= 60 := by omega
  clear h
  refine AJ (ι := Nat) (fun j => j <= l.1 /\ ∀ i,i < j -> DG r (l.2 i)) (fun j => l.1 - j) [0,1,6,7] (fun j => [(8,.int .i64 j)]) (fun _ => []) 0 ⟨by omega,fun i h => by omega⟩ (by simp only [↓reduceIte,reduceCtorEq,Nat.reduceEqDiff,Nat.reduceLT,go_sem]; try rfl) fun j hj => ?_
  obtain ⟨hj1,hj2⟩ := hj
  rcases Nat.lt_or_ge j l.1 with hlt | hge
  ·have f1 : ((j : Int) < (l.1 : Int)) = True := eq_true (by omega)
   simp only [f1,hw,Lo,X4,↓reduceIte,reduceCtorEq,Nat.reduceEqDiff,Nat.reduceAdd,Nat.reduceSub,Int.reduceNeg,Nat.reducePow,go_sem]
   have gj : ((j : Int) ≥ 0) = True := eq_true (by omega)
   refine ⟨by omega,fun _ _ => ⟨hr.1,hr.2.1,fun q => ?_,fun q => Ad (j + 1) ⟨by omega,fun i hi => ?_⟩ (by omega) (by simp only [↓reduceIte,reduceCtorEq,Nat.reduceEqDiff,Nat.reduceLT,go_sem]; rw [BV (by omega)])⟩⟩
   ·refine ⟨fun _ => ?_,fun h => absurd (show (j : Int) ≥ 0 by omega) h⟩
    have : DK r l = 41 := by unfold DK; rw [if_neg (by omega),An fun k => Kl q (k j hlt)]; rfl
    rw [this,if_neg (by omega)]; exact BB _
   rcases Nat.lt_or_ge i j with h5 | h5
   ·exact hj2 i h5
   obtain rfl : i = j := by omega
   exact LK q
  have hv : ∀ i,i < l.1 -> DG r (l.2 i) := fun i hi => hj2 i (by omega)
  have f1 : ((j : Int) < (l.1 : Int)) = False := eq_false (by omega)
  have gm : ((-1 : Int) ≥ 0) = False := eq_false (by omega)
  simp only [f1,gm,hw,Lo,X4,↓reduceIte,reduceCtorEq,Nat.reduceEqDiff,Nat.reduceAdd,Nat.reduceSub,Int.reduceNeg,Nat.reducePow,go_sem]
  clear f1 gm hj1 hj2 hge j
  have hd0 : DK r l = if A8 (∀ i,i < l.1 -> ∀ k,k < i -> (l.2 i).id = (l.2 k).id -> CX (l.2 i) (l.2 k)) = true then 0 else 42 := by unfold DK; rw [if_neg (by omega),AF hv]; rfl
  refine FL (ι := Nat) (fun t => t <= l.1 /\ ∀ i,i < t -> ∀ k,k < i -> (l.2 i).id = (l.2 k).id -> CX (l.2 i) (l.2 k)) (fun t => l.1 - t) [1,2,7,25,26] (fun t => [(8,.own (.n 2)),(27,.int .i64 t)]) (fun t => [(1,.mp .i64 (fun k => A8 (∃ i,i < t /\ (l.2 i).id = k)) fun k => .agg (l.2 (Ci (fun i => (l.2 i).id = k) t)).L),(2,.row 56 9 (JU l t).length fun i b => (lD (JU l t) i).c b)]) 1 0 ⟨by omega,fun i h => by omega⟩ (by
   simp only [JU,List.length_nil,↓reduceIte,reduceCtorEq,Nat.reduceEqDiff,Nat.reduceAdd,Nat.reduceLT,go_sem]
   exact fun k => An fun ⟨i,h,_⟩ => by omega) fun t ht => ?_
  obtain ⟨ht1,ht2⟩ := ht
  rcases Nat.lt_or_ge t l.1 with hlt | hge
  ·have f1 : ((t : Int) < (l.1 : Int)) = True := eq_true (by omega)
   by_cases hn : ∃ i,i < t /\ (l.2 i).id = (l.2 t).id
   ·have e1 : A8 (∃ i,i < t /\ (l.2 i).id = (l.2 t).id) = true := AF hn
    obtain ⟨q1,q2,q3⟩ : Ci (fun i => (l.2 i).id = (l.2 t).id) t < t /\ (l.2 (Ci (fun i => (l.2 i).id = (l.2 t).id) t)).id = (l.2 t).id /\ ∀ j,j < Ci (fun i => (l.2 i).id = (l.2 t).id) t -> ¬ (l.2 j).id = (l.2 t).id := by
     rcases A7 (fun i => (l.2 i).id = (l.2 t).id) t with h | ⟨_,h⟩
     ·exact h
     obtain ⟨i,hi,hp⟩ := hn; exact absurd hp (h i hi)
    simp only [f1,e1,NE,↓reduceIte,reduceCtorEq,Nat.reduceEqDiff,Nat.reduceAdd,Nat.reduceSub,Nat.reduceLeDiff,Nat.reduceLT,Int.reduceNeg,Nat.reducePow,go_sem]
    refine ⟨by omega,fun _ _ _ _ _ _ => ⟨fun h4 => ?_,fun h4 => ?_⟩⟩
    ·have h42 : DK r l = 42 := by rw [hd0,An fun k => Kl h4 (k t hlt _ q1 q2.symm)]; rfl
     rw [h42,if_neg (by omega)]; exact BB _
    have hS := LK h4
    have oE : JU l (t + 1) = JU l t := by
     have : Iq l t = false := An fun k => by obtain ⟨i,hi,he⟩ := hn; exact k i hi he
     rw [JU,this]; rfl
    have hE : ∀ k,A8 (∃ i,i < t + 1 /\ (l.2 i).id = k) = A8 (∃ i,i < t /\ (l.2 i).id = k) := fun k => EB ⟨fun ⟨i,h1,h2⟩ => by
     by_cases h3 : i = t
     ·subst h3
      obtain ⟨p,h5,h6⟩ := hn
      exact ⟨p,h5,h6.trans h2⟩
     exact ⟨i,by omega,h2⟩,fun ⟨i,h1,h2⟩ => ⟨i,by omega,h2⟩⟩
    refine Ad (t + 1) ⟨by omega,fun i hi k hk he => ?_⟩ (by omega) ?_
    ·rcases Nat.lt_or_ge i t with h5 | h5
     ·exact ht2 i h5 k hk he
     obtain rfl : i = t := by omega
     by_cases h6 : Ci (fun j => (l.2 j).id = (l.2 i).id) i = k
     ·rw [<- h6]; exact hS
     have h7 : Ci (fun j => (l.2 j).id = (l.2 i).id) i < k := by
      apply Classical.byContradiction
      intro h8
      exact q3 k (by omega) he.symm
     exact PN hS (ht2 k hk _ h7 (he.symm.trans q2.symm))
    simp only [oE,hE,↓reduceIte,reduceCtorEq,Nat.reduceEqDiff,Nat.reduceLT,go_sem]
    rw [BV (by omega)]
    refine ⟨rfl,fun k hk => ?_⟩
    rw [Rk (A2.1 hk)]
    exact ⟨rfl,rfl,rfl,rfl,rfl,rfl,rfl,rfl,rfl,fun i _ j _ => BB _⟩
   have e1 : A8 (∃ i,i < t /\ (l.2 i).id = (l.2 t).id) = false := An hn
   have hhr : (l.2 t).heirs.1 <= 8 := by
    rcases (hv t hlt).2.2.2.2.2.2 with h | h | h | h
    ·have := h.2.2.2.2; omega
    ·have := h.2.2.2.2; omega
    ·exact h.2.1.2.1
    have := h.2.2.2.2.2; omega
   have hol := KL l t
   simp only [f1,e1,RD,Aj,Af,AV,↓reduceIte,reduceCtorEq,Nat.reduceEqDiff,Nat.reduceAdd,Nat.reduceSub,Nat.reduceLeDiff,Nat.reduceLT,Int.reduceNeg,Nat.reducePow,go_sem]
   refine ⟨by omega,fun _ _ => ⟨by omega,fun _ _ _ => ⟨by omega,by omega,?_⟩⟩⟩
   have oE : JU l (t + 1) = JU l t ++ [l.2 t] := by
    have : Iq l t = true := AF fun k hk he => hn ⟨k,hk,he⟩
    rw [JU,this]; rfl
   refine Ad (t + 1) ⟨by omega,fun i hi k hk he => ?_⟩ (by omega) ?_
   ·rcases Nat.lt_or_ge i t with h5 | h5
    ·exact ht2 i h5 k hk he
    obtain rfl : i = t := by omega
    exact absurd ⟨k,hk,he.symm⟩ hn
   simp only [oE,List.length_append,List.length_singleton,↓reduceIte,reduceCtorEq,Nat.reduceEqDiff,Nat.reduceLT,go_sem]
   rw [BV (by omega)]
   refine ⟨rfl,fun k => ⟨?_,fun hk => ?_⟩,?_⟩
   ·by_cases e : k = (l.2 t).id
    ·rw [if_pos e]; exact AF ⟨t,by omega,e.symm⟩
    rw [if_neg e]
    exact EB ⟨fun ⟨i,h1,h2⟩ => ⟨i,by
     have : i ≠ t := fun h => e (by rw [<- h2,h])
     omega,h2⟩,fun ⟨i,h1,h2⟩ => ⟨i,by omega,h2⟩⟩
   ·by_cases e : k = (l.2 t).id
    ·have fE : Ci (fun i => (l.2 i).id = k) (t + 1) = t := DT (by omega) e.symm fun j hj h => hn ⟨j,hj,h.trans e⟩
     rw [if_pos e]
     simp only [fE,go_sem]
    rw [if_neg e] at hk ⊢
    have fE := Rk (A2.1 hk)
    simp only [fE,go_sem]
   intro i hi j hj
   by_cases e : i < (JU l t).length
   ·rw [if_pos e,SJ _ _ e]; exact BB _
   obtain rfl : i = (JU l t).length := by omega
   rw [if_neg e,Nat.sub_self,T1]
   show Ax _ (Aq (l.2 t).L j)
   rw [Fp _ j hj]; exact BB _
  have f1 : ((t : Int) < (l.1 : Int)) = False := eq_false (by omega)
  simp only [f1,YQ,V9,Aj,Af,AV,Dv,Ec,Wi,↓reduceIte,reduceCtorEq,Nat.reduceEqDiff,Nat.reduceAdd,Nat.reduceLT,Int.reduceNeg,go_sem]
  obtain rfl : t = l.1 := by omega
  have hol := KL l l.1
  have hdn : DK r l = 0 := by rw [hd0,AF ht2]; rfl
  have hdo := Js l l.1
  have hle : (JU l l.1).length = (Bb l l.1).length := by rw [<- hdo,Dk]
  have hsg : A3 (fun i => lD (JU l l.1) i) 0 (JU l l.1).length = JU l l.1 := by
   apply List.ext_getElem?
   intro i
   rw [Bl]
   split
   ·rename_i h; rw [Nat.zero_add,List.getElem?_eq_getElem (by omega)]; unfold lD; rw [List.getD_eq_getElem?_getD,List.getElem?_eq_getElem (by omega)]; rfl
   rw [List.getElem?_eq_none (by omega)]
  refine ⟨by omega,?_⟩
  rw [hdn,if_pos rfl,hsg,hdo,hle]
  simp only [go_sem]
  intro i hi j hj
  rw [Co,if_pos ⟨Nat.zero_le _,by omega⟩]
  have : (Bb l l.1).getD (i - 0) (lD (JU l l.1) i) = lD (Bb l l.1) i := by
   simp only [lD,Nat.sub_zero,List.getD_eq_getElem?_getD,List.getElem?_eq_getElem (show i < (Bb l l.1).length by omega),Option.getD_some]
  rw [this]; exact BB _
 have ha : BS r l = 40 := by unfold BS; rw [An hr]; rfl
 have hck : WL r = 40 := by unfold WL; rw [An hr,if_neg Bool.false_ne_true]
 have h40 : ((40 : Int) = 0) = False := eq_false (by omega)
 simp only [hck,ha,h40,Af,AV,ZH,Ye,T4,TJ,hw,↓reduceIte,reduceCtorEq,Nat.reduceEqDiff,Nat.reduceAdd,Nat.reduceSub,Int.reduceNeg,Int.reduceBNe,Nat.reducePow,go_sem]
end Go.Proofs.YtlieoghhkioflaaGreat
