/- The reference's net: Takes, Good, greatest. No condition but bounds. -/
import Derived.Test.YtlapepdhkomijaaPRpu
import Derived.Test.YtlapepdhkomijaaPMath
set_option linter.unusedSimpArgs false
set_option linter.unusedVariables false
namespace Go.Proofs.Ytlapepdhkomijaa
open Go Go.RowKit
variable {G : Nat → Option (Nat × (Nat → Val))}
def sTakes : Spec := spec3 TWk TI TI (fun w i h => WkB w ∧ 0 ≤ i ∧ i < w.spathes.1 ∧ 0 ≤ h ∧ h < w.hours.1) fun w i h => .bool (takesF w i.toNat h.toNat)
set_option maxRecDepth 100000 in
theorem pTakesR : PureOk Try.prog G 56 sTakes := by
 refine fn3 (S := []) (I := []) mixed .nil .nil Try.func56 c56 fun w i h hp hw => ?_
 obtain ⟨hb,h1,h2,h3,h4⟩ := hp
 simp only [Nat.reduceSub,Nat.reducePow,TInt,RInt,RSp,Sp.d,RLt,Lt.d,Wk.L,TWk,go_sem] at hw
 simp only [RunTo,a56,hw,↓reduceIte,reduceCtorEq,Nat.reduceEqDiff,Nat.reduceAdd,Nat.reduceSub,Nat.reduceLeDiff,Nat.reducePow,TInt,RInt,Sp.c1,Sp.c2,RSp,Sp.d,RLt,Lt.d,Wk.L,TWk,go_sem]
 have e : IntKind.i64.wrap ((w.spathes.2 i.toNat).cracks.lo + w.opn) = (w.spathes.2 i.toNat).cracks.lo + w.opn := wr64 (by have := hb.c i.toNat (by omega); have := hb.o; omega) (by have := hb.c i.toNat (by omega); have := hb.o; omega)
 rw [e]
 refine ⟨h1,h2,h3,h4,fun q => ⟨h3,h4,?_⟩,fun q => ?_⟩
 ·unfold takesF; rw [decP_and,decide_eq_true q,Bool.true_and]
 ·unfold takesF; rw [decP_and,decide_eq_false q,Bool.false_and]
def sGood : Spec := spec3 TWk TI TI (fun w h j => WkB w ∧ 0 ≤ h ∧ h < w.hours.1 ∧ 0 ≤ j ∧ j < w.lots.1) fun w h j => .bool (goodF w h.toNat j.toNat)
set_option maxRecDepth 100000 in
theorem pGoodR : PureOk Try.prog G 69 sGood := by
 refine fn3 (S := []) (I := []) mixed .nil .nil Try.func69 c69 fun w h j hp hw => ?_
 obtain ⟨hb,h1,h2,h3,h4⟩ := hp
 simp only [Nat.reduceSub,Nat.reducePow,TInt,RInt,RSp,Sp.d,RLt,Lt.d,Wk.L,TWk,go_sem] at hw
 simp only [RunTo,a69,↓reduceIte,reduceCtorEq,Nat.reduceEqDiff,Nat.reduceAdd,Nat.reduceSub,Nat.reduceLeDiff,TInt,RInt,RSp,Sp.d,Lt.c2,Lt.c3,RLt,Lt.d,Wk.L,TWk,go_sem]
 refine ⟨h1,h2,h3,h4,fun q => ⟨h1,h2,h3,h4,?_⟩,fun q => ?_⟩
 ·unfold goodF; rw [decP_and,decide_eq_true q,Bool.true_and]
 ·unfold goodF; rw [decP_and,decide_eq_false q,Bool.false_and]
def rdec (S H : Nat) (u : Nat) : Nd := if u = 0 then .src else if u = 1 then .snk else if u < 2 + S then .sp (u - 2) else if u < 2 + S + H then .hi (u - (2 + S)) else if u < 2 + S + 2 * H then .ho (u - (2 + S + H)) else .lt (u - (2 + S + 2 * H))
def renc (S H : Nat) : Nd → Nat
 | .src => 0
 | .snk => 1
 | .sp i => 2 + i
 | .hi h => 2 + S + h
 | .ho h => 2 + S + H + h
 | .lt j => 2 + S + 2 * H + j
section
variable {S H u : Nat}
theorem rdec_sp {i : Nat} (e : u = 2 + i) (h : i < S) : rdec S H u = .sp i := by
 subst e; unfold rdec
 rw [if_neg (by omega),if_neg (by omega),if_pos (by omega),Nat.add_sub_cancel_left]
theorem rdec_hi {i : Nat} (e : u = 2 + S + i) (h : i < H) : rdec S H u = .hi i := by
 subst e; unfold rdec
 rw [if_neg (by omega),if_neg (by omega),if_neg (by omega),if_pos (by omega),Nat.add_sub_cancel_left]
theorem rdec_ho {i : Nat} (e : u = 2 + S + H + i) (h : i < H) : rdec S H u = .ho i := by
 subst e; unfold rdec
 rw [if_neg (by omega),if_neg (by omega),if_neg (by omega),if_neg (by omega),if_pos (by omega),Nat.add_sub_cancel_left]
theorem rdec_lt {i : Nat} (e : u = 2 + S + 2 * H + i) : rdec S H u = .lt i := by
 subst e; unfold rdec
 rw [if_neg (by omega),if_neg (by omega),if_neg (by omega),if_neg (by omega),if_neg (by omega),Nat.add_sub_cancel_left]
end
theorem rcod (N : Nt) : Cod N (rdec N.S N.H) (renc N.S N.H) where
 de u hu := by
  have hn : u < 2 + N.S + 2 * N.H + N.L := hu
  by_cases a0 : u = 0
  ·subst a0; rfl
  by_cases a1 : u = 1
  ·subst a1; rfl
  by_cases a2 : u < 2 + N.S
  ·rw [rdec_sp (i := u - 2) (by omega) (by omega)]; simp only [renc]; omega
  by_cases a3 : u < 2 + N.S + N.H
  ·rw [rdec_hi (i := u - (2 + N.S)) (by omega) (by omega)]; simp only [renc]; omega
  by_cases a4 : u < 2 + N.S + 2 * N.H
  ·rw [rdec_ho (i := u - (2 + N.S + N.H)) (by omega) (by omega)]; simp only [renc]; omega
  ·rw [rdec_lt (i := u - (2 + N.S + 2 * N.H)) (by omega)]; simp only [renc]; omega
 ed x hx := by
  cases x with
  | src => exact ⟨by simp only [renc,Nt.n]; omega,rfl⟩
  | snk => exact ⟨by simp only [renc,Nt.n]; omega,rfl⟩
  | sp i =>
   have h1 : i < N.S := hx
   exact ⟨by simp only [renc,Nt.n]; omega,rdec_sp rfl h1⟩
  | hi h =>
   have h1 : h < N.H := hx
   exact ⟨by simp only [renc,Nt.n]; omega,rdec_hi rfl h1⟩
  | ho h =>
   have h1 : h < N.H := hx
   exact ⟨by simp only [renc,Nt.n]; omega,rdec_ho rfl h1⟩
  | lt j =>
   have h1 : j < N.L := hx
   exact ⟨by simp only [renc,Nt.n]; omega,rdec_lt rfl⟩
 e0 := rfl
 e1 := rfl
noncomputable def sGrtst : Spec := spec4 TWk TI (TSl RBool) (TSl (RInt .i64)) (fun w first fr un => WkB w ∧ 0 ≤ first ∧ first ≤ w.spathes.1 ∧ fr.1 = w.hours.1 ∧ un.1 = w.lots.1 ∧ ∀ j,j < un.1 → 0 ≤ un.2 j ∧ un.2 j ≤ 100) fun w first fr un => .int .i64 (maxP (ntF w first.toNat fr.2 un.2))
set_option maxHeartbeats 4000000 in
set_option maxRecDepth 100000 in
theorem pGrtst : PureOk Try.prog G 87 sGrtst := by
 refine fnN4 (S := [(56,sTakes),(69,sGood)]) (I := [(89,a89),(90,a90)]) (N := [25]) mixed (.cons pTakesR (.cons pGoodR .nil)) (.cons Try.func89 c89 (.cons Try.func90 c90 .nil)) Try.func87 c87 fun w first fr un hp hw => ?_
 obtain ⟨hb,h1,h2,h3,h4,h5⟩ := hp
 simp only [Nat.reduceSub,Nat.reducePow,TSl,TInt,RInt,RBool,RSp,Sp.d,RLt,Lt.d,Wk.L,TWk,go_sem] at hw
 obtain ⟨w1,w2,w3,w4,w5⟩ := hw
 have hS := hb.s
 have hH := hb.h
 have hL := hb.l
 have q1 : IntKind.i64.wrap (2 + (w.spathes.1 : Int)) = 2 + (w.spathes.1 : Int) := wr64 (by omega) (by omega)
 have q2 : IntKind.i64.wrap (2 * (w.hours.1 : Int)) = 2 * (w.hours.1 : Int) := wr64 (by omega) (by omega)
 have q3 : IntKind.i64.wrap (2 + (w.spathes.1 : Int) + 2 * (w.hours.1 : Int)) = 2 + (w.spathes.1 : Int) + 2 * (w.hours.1 : Int) := wr64 (by omega) (by omega)
 obtain ⟨n,hn⟩ : ∃ n : Nat,n = 2 + w.spathes.1 + 2 * w.hours.1 + w.lots.1 := ⟨_,rfl⟩
 have q4 : IntKind.i64.wrap (2 + (w.spathes.1 : Int) + 2 * (w.hours.1 : Int) + (w.lots.1 : Int)) = (n : Int) := by rw [wr64 (by omega) (by omega)]; omega
 simp only [RunToN,a87,a89,w1,w2,w3,w4,w5,q1,q2,q3,q4,↓reduceIte,reduceCtorEq,Nat.reduceEqDiff,Nat.reduceAdd,Nat.reduceSub,Nat.reduceLeDiff,Nat.reducePow,TSl,TInt,RInt,RBool,RSp,Sp.d,RLt,Lt.d,Wk.L,TWk,go_sem]
 refine loopJ (ι := Nat) (fun i => i ≤ n) (fun i => n - i) [1,2,3,4,9,10,11,12] (fun i => [(13,.int .i64 i)]) (fun i => [(2,.cells (.cons (.own (.n 3)) (.cons .nils .nil))),(3,.rown 25 1 i fun a _ => .own (.f 4 a)),(4,.fam (fun z => decide (0 ≤ z ∧ z < (i : Int))) fun _ => .row 3 1 n fun _ _ => .int .i64 0)]) 2 0 (by omega) (by
  simp only [↓reduceIte,reduceCtorEq,Nat.reduceEqDiff,Nat.reduceAdd,Nat.reduceLT,go_sem]
  refine chkFam_new fun z hz => ?_
  have := of_decide_eq_true hz
  omega) fun i hi => ?_
 by_cases hin : i < n
 ·have fi : ((i : Int) < (n : Int)) = True := eq_true (by omega)
  have hn2 : (0 ≤ (n : Int) ∧ (n : Int) ≤ 4611686018427387904 ∧ (n : Int) * 8 ≤ 140737488355328) := ⟨by omega,by omega,by omega⟩
  simp only [fi,hn2.1,hn2.2.1,hn2.2.2,↓imp_tt,↓imp_tf,↓reduceIte,reduceCtorEq,Nat.reduceEqDiff,Nat.reduceAdd,Nat.reduceSub,Nat.reduceLeDiff,Nat.reduceLT,Nat.reducePow,go_sem]
  refine ⟨by omega,by omega,?_⟩
  have hvac : ((i : Int) < (i : Int)) = False := eq_false (by omega)
  refine inv_renM [(.n 5,.f 4 i)] (i + 1) (fun p hp m hm => ?_) hin (by omega) ?_
  ·simp only [List.mem_singleton] at hp hm
   subst hp; subst hm; exact Nat.le_of_ble_eq_true rfl
  ·simp only [↓reduceIte,reduceCtorEq,Nat.reduceEqDiff,Nat.reduceLT,hvac,and_false,go_sem]
   refine ⟨wrS (by omega),?_,fun a ha j hj => ?_⟩
   ·refine chkFam_row (c' := fun _ _ _ => .int .i64 0) fun z hz => ?_
    by_cases e : z = (i : Int)
    ·subst e
     refine ⟨fun x j => vget (.cons (.int .i64 0) .nil) j,by simp [bget],fun a _ j hj => ?_⟩
     obtain rfl : j = 0 := by omega
     exact rfl
    ·have := of_decide_eq_true hz
     refine ⟨fun _ _ => .int .i64 0,by simp [bget,e]; omega,fun a _ j hj => rfl⟩
   ·obtain rfl : j = 0 := by omega
    refine .inl ⟨?_,_,if_pos ⟨by omega,by omega⟩⟩
    by_cases e : a < i
    ·rw [if_pos e]; simp only [renV,subV,↓reduceIte,reduceCtorEq]
    ·obtain rfl : a = i := by omega
     rw [if_neg (Nat.lt_irrefl _),Nat.sub_self]; simp only [renV,Bn.n.injEq,vget,subV,↓reduceIte,Nat.reduceEqDiff]
 ·have fi : ((i : Int) < (n : Int)) = False := eq_false (by omega)
  obtain rfl : i = n := by omega
  have z1 : first.toNat ≤ w.spathes.1 := by omega
  obtain ⟨fi0,rfl⟩ : ∃ m : Nat,first = m := ⟨first.toNat,by omega⟩
  rw [Int.toNat_natCast] at z1
  simp only [fi,↓imp_ft,↓imp_ff,↓reduceIte,reduceCtorEq,Nat.reduceEqDiff,Nat.reduceAdd,go_sem]
  obtain ⟨N,hN⟩ : ∃ N,N = ntF w fi0 fr.2 un.2 := ⟨_,rfl⟩
  have hC := rcod N
  have hNn : N.n = i := by rw [hN,hn]; rfl
  have hNS : N.S = w.spathes.1 := by rw [hN]; rfl
  have hNH : N.H = w.hours.1 := by rw [hN]; rfl
  have hNL : N.L = w.lots.1 := by rw [hN]; rfl
  have i0 : (0 < (i : Int)) = True := eq_true (by omega)
  have i0' : (0 < i) = True := eq_true (by omega)
  refine loopI (ι := Nat × (Nat → Nat → Int)) (fun s => fi0 ≤ s.1 ∧ s.1 ≤ w.spathes.1 ∧ MatIs N.n (rdec N.S N.H) s.2 (capG (fun i => decide (fi0 ≤ i ∧ i < s.1)) (fun i h => decide (fi0 ≤ i ∧ i < s.1 ∧ h < w.hours.1 ∧ takesF w i h = true)) (fun _ => false) (fun _ _ => false) (fun _ => 0))) (fun s => w.spathes.1 - s.1) [2,3,4,9,10,12] (fun s => [(14,.int .i64 s.1)])
   (fun s => [(4,.fam (fun z => decide (0 ≤ z ∧ z < (i : Int))) fun z => .row 3 1 i fun b _ => .int .i64 (s.2 z.toNat b))]) (fi0,fun _ _ => 0) ⟨Nat.le_refl _,z1,fun a ha b hb => ?_⟩ (by
    simp only [↓reduceIte,reduceCtorEq,Nat.reduceEqDiff,Nat.reduceLT,go_sem]
    refine ⟨chkFam_mat (R' := fun _ _ => 0) fun z hz => ⟨fun _ _ => .int .i64 0,?_,fun i hi => rfl⟩,fun a ha b hb => .inl ⟨_,if_pos ⟨by omega,by omega⟩⟩,fun z hz => ⟨_,if_pos hz⟩⟩
    simp [bget]; omega) fun s hs => ?_
  ·cases rdec N.S N.H a <;> cases rdec N.S N.H b <;> simp [capG] <;> omega
  obtain ⟨j,R⟩ := s
  obtain ⟨hj1,hj2,hR⟩ := hs
  simp only at hj1 hj2 hR
  by_cases hjS : j < w.spathes.1
  ·have fj : ((j : Int) < (w.spathes.1 : Int)) = True := eq_true (by omega)
   have v1 : IntKind.i64.wrap (2 + (j : Int)) = ((2 + j : Nat) : Int) := by rw [wr64 (by omega) (by omega)]; omega
   have v2 : (((2 + j : Nat) : Int) < (i : Int)) = True := eq_true (by omega)
   have v3 : (0 ≤ ((2 + j : Nat) : Int)) = True := eq_true (by omega)
   simp only [fj,v1,v2,v3,i0,↓imp_tt,↓imp_tf,↓reduceIte,reduceCtorEq,Nat.reduceEqDiff,Nat.reduceAdd,Nat.reduceLeDiff,Int.reduceToNat,Int.reduceLE,go_sem]
   refine loopI (ι := Nat × (Nat → Nat → Int)) (fun s => s.1 ≤ w.hours.1 ∧ MatIs N.n (rdec N.S N.H) s.2 (capG (fun i => decide (fi0 ≤ i ∧ i < j + 1)) (fun i h => decide (fi0 ≤ i ∧ i < j ∧ h < w.hours.1 ∧ takesF w i h = true) || decide (i = j ∧ h < s.1 ∧ takesF w i h = true)) (fun _ => false) (fun _ _ => false) (fun _ => 0))) (fun s => w.hours.1 - s.1) [2,3,4,9,10,12,14] (fun s => [(15,.int .i64 s.1)])
    (fun s => [(4,.fam (fun z => decide (0 ≤ z ∧ z < (i : Int))) fun z => .row 3 1 i fun b _ => .int .i64 (s.2 z.toNat b))]) (0,setR R (renc N.S N.H .src) (renc N.S N.H (.sp j)) 1) ⟨Nat.zero_le _,hR.set hC trivial (show j < N.S by omega) fun p q => ?_⟩ (by
     simp only [↓reduceIte,reduceCtorEq,Nat.reduceEqDiff,Nat.reduceLT,go_sem]
     exact ⟨chkFam_matS (0) (2 + j) (1) (0) rfl fun z hz => by simp only [Int.toNat_natCast,bget,true_and],fun a ha b hb => .inl ⟨_,if_pos ⟨by omega,by omega⟩⟩,fun z hz => ⟨_,if_pos (dset (by omega) (by omega) hz)⟩⟩) fun s hs => ?_
   ·cases p <;> cases q <;> simp [capG]
    split <;> split <;> first | rfl | omega | (split <;> first | rfl | omega)
   ·obtain ⟨k,R⟩ := s
    obtain ⟨hk1,hR⟩ := hs
    simp only at hk1 hR
    by_cases hkH : k < w.hours.1
    ·have fk : ((k : Int) < (w.hours.1 : Int)) = True := eq_true (by omega)
     have pj1 : (0 ≤ (j : Int)) = True := eq_true (by omega)
     have pk1 : (0 ≤ (k : Int)) = True := eq_true (by omega)
     have hbt : WkB w = True := eq_true hb
     have v4 : IntKind.i64.wrap (2 + (w.spathes.1 : Int)) = ((2 + w.spathes.1 : Nat) : Int) := by rw [wr64 (by omega) (by omega)]; omega
     have v5 : IntKind.i64.wrap (((2 + w.spathes.1 : Nat) : Int) + (k : Int)) = ((2 + w.spathes.1 + k : Nat) : Int) := by rw [wr64 (by omega) (by omega)]; omega
     have v6 : (((2 + w.spathes.1 + k : Nat) : Int) < (i : Int)) = True := eq_true (by omega)
     have v7 : (0 ≤ ((2 + w.spathes.1 + k : Nat) : Int)) = True := eq_true (by omega)
     cases ht : takesF w j k with
     | true =>
      simp only [fk,fj,pj1,pk1,hbt,v1,v2,v3,v4,v5,v6,v7,ht,w1,w2,w3,sTakes,Int.toNat_natCast,↓imp_tt,↓imp_tf,↓reduceIte,reduceCtorEq,Nat.reduceEqDiff,Nat.reduceAdd,Nat.reduceSub,Nat.reduceLeDiff,Nat.reducePow,spec3,TInt,IsInt,RInt,Prod.eta,Sn.eta,Sp.c0,Sp.c1,Sp.c2,RSp,Sp.w_c,Sp.d,Sp.eta,Lt.c0,Lt.c1,Lt.c2,Lt.c3,RLt,Lt.w_c,Lt.d,Lt.eta,Wk.L,Wk.Is,Wk.of,TWk,Wk.d,Wk.eta,go_sem]
      refine inv_intro (k + 1,setR R (renc N.S N.H (.sp j)) (renc N.S N.H (.hi k)) 1) ⟨hkH,hR.set hC (show j < N.S by omega) (show k < N.H by omega) fun p q => ?_⟩ (by simp only; omega) ?_
      ·rcases p with _ | _ | a | a | a | a <;> rcases q with _ | _ | b | b | b | b <;> simp only [capG,reduceCtorEq,false_and,and_false,if_false] <;> try (first | rfl | (simp; done))
       refine if01 ?_
       simp only [Bool.or_eq_true,decide_eq_true_eq,Nd.sp.injEq,Nd.hi.injEq]
       constructor
       ·rintro (h | ⟨rfl,h2,h3⟩)
        ·exact .inr (.inl h)
        ·by_cases e : b = k
         ·exact .inl ⟨rfl,e⟩
         ·exact .inr (.inr ⟨rfl,by omega,h3⟩)
       ·rintro (⟨rfl,rfl⟩ | h | ⟨rfl,h2,h3⟩)
        ·exact .inr ⟨rfl,by omega,ht⟩
        ·exact .inl h
        ·exact .inr ⟨rfl,by omega,h3⟩
      ·have e1 : renc N.S N.H (.sp j) = 2 + j := rfl
       have e2 : renc N.S N.H (.hi k) = 2 + w.spathes.1 + k := by rw [← hNS]; rfl
       rw [e1,e2]
       simp only [↓reduceIte,reduceCtorEq,Nat.reduceEqDiff,Nat.reduceLT,go_sem]
       exact ⟨wrS (by omega),chkFam_matS (2 + j) (2 + w.spathes.1 + k) (1) (((2 + j : Nat) : Int)) rfl fun z hz => by simp only [Int.toNat_natCast,bget,true_and],fun a ha b hb => .inl ⟨_,if_pos ⟨by omega,by omega⟩⟩,fun z hz => ⟨_,if_pos (dset (by omega) (by omega) hz)⟩⟩
     | false =>
      simp only [fk,fj,pj1,pk1,hbt,ht,w1,w2,w3,sTakes,Int.toNat_natCast,↓imp_tt,↓imp_tf,↓imp_ft,↓imp_ff,↓reduceIte,reduceCtorEq,Nat.reduceEqDiff,Nat.reduceAdd,Nat.reduceSub,Nat.reducePow,spec3,TInt,IsInt,RInt,Prod.eta,Sn.eta,Sp.c0,Sp.c1,Sp.c2,RSp,Sp.w_c,Sp.d,Sp.eta,Lt.c0,Lt.c1,Lt.c2,Lt.c3,RLt,Lt.w_c,Lt.d,Lt.eta,Wk.L,Wk.Is,Wk.of,TWk,Wk.d,Wk.eta,go_sem]
      refine inv_intro (k + 1,R) ⟨hkH,hR.same fun p q => ?_⟩ (by simp only; omega) ?_
      ·rcases p with _ | _ | a | a | a | a <;> rcases q with _ | _ | b | b | b | b <;> simp only [capG] <;> try rfl
       refine if00 ?_
       simp only [Bool.or_eq_true,decide_eq_true_eq]
       refine or_congr Iff.rfl ⟨fun ⟨e,h2,h3⟩ => ⟨e,?_,h3⟩,fun ⟨e,h2,h3⟩ => ⟨e,by omega,h3⟩⟩
       by_cases e2 : b = k
       ·subst e; subst e2; rw [ht] at h3; cases h3
       ·omega
      ·simp only [↓reduceIte,reduceCtorEq,Nat.reduceEqDiff,Nat.reduceLT,go_sem]
       exact ⟨wrS (by omega),chkFam_mat fun z hz => ⟨_,if_pos (by simp; omega),fun _ _ => rfl⟩,fun a ha b hb => .inl ⟨_,if_pos ⟨by omega,by omega⟩⟩,fun z hz => ⟨_,if_pos hz⟩⟩
    ·have fk : ((k : Int) < (w.hours.1 : Int)) = False := eq_false (by omega)
     simp only [fk,↓imp_ft,↓imp_ff,↓reduceIte,Nat.reduceEqDiff,go_sem]
     refine inv_intro (j + 1,R) ⟨by omega,by omega,hR.same fun p q => ?_⟩ (by simp only; omega) ?_
     ·rcases p with _ | _ | a | a | a | a <;> rcases q with _ | _ | b | b | b | b <;> simp only [capG] <;> try rfl
      refine if00 ?_
      simp only [Bool.or_eq_true,decide_eq_true_eq]
      constructor
      ·rintro ⟨h1,h2,h3,h4⟩
       by_cases e : a = j
       ·exact .inr ⟨e,by omega,h4⟩
       ·exact .inl ⟨h1,by omega,h3,h4⟩
      ·rintro (⟨h1,h2,h3,h4⟩ | ⟨rfl,h2,h3⟩)
       ·exact ⟨h1,by omega,h3,h4⟩
       ·exact ⟨by omega,by omega,by omega,h3⟩
     ·simp only [↓reduceIte,reduceCtorEq,Nat.reduceEqDiff,Nat.reduceLT,go_sem]
      exact ⟨wrS (by omega),chkFam_mat fun z hz => ⟨_,if_pos (by simp; omega),fun _ _ => rfl⟩,fun a ha b hb => .inl ⟨_,if_pos ⟨by omega,by omega⟩⟩,fun z hz => ⟨_,if_pos hz⟩⟩
  ·have fj : ((j : Int) < (w.spathes.1 : Int)) = False := eq_false (by omega)
   obtain rfl : j = w.spathes.1 := by omega
   simp only [fj,↓imp_ft,↓imp_ff,↓reduceIte,Nat.reduceEqDiff,go_sem]
   refine loopI (ι := Nat × (Nat → Nat → Int)) (fun s => s.1 ≤ w.hours.1 ∧ MatIs N.n (rdec N.S N.H) s.2 (capG (fun i => decide (fi0 ≤ i ∧ i < w.spathes.1)) (fun i h => decide (fi0 ≤ i ∧ i < w.spathes.1 ∧ h < w.hours.1 ∧ takesF w i h = true)) (fun h => decide (h < s.1 ∧ fr.2 h = true)) (fun h q => decide (h < s.1 ∧ q < w.lots.1 ∧ goodF w h q = true)) (fun _ => 0))) (fun s => w.hours.1 - s.1) [2,3,4,9,10,12] (fun s => [(16,.int .i64 s.1)])
    (fun s => [(4,.fam (fun z => decide (0 ≤ z ∧ z < (i : Int))) fun z => .row 3 1 i fun b _ => .int .i64 (s.2 z.toNat b))]) (0,R) ⟨Nat.zero_le _,hR.same fun p q => by cases p <;> cases q <;> simp [capG]⟩ (by
     simp only [↓reduceIte,reduceCtorEq,Nat.reduceEqDiff,Nat.reduceLT,go_sem]
     exact ⟨chkFam_mat fun z hz => ⟨_,if_pos (by simp; omega),fun _ _ => rfl⟩,fun a ha b hb => .inl ⟨_,if_pos ⟨by omega,by omega⟩⟩,fun z hz => ⟨_,if_pos hz⟩⟩) fun s hs => ?_
   obtain ⟨k,R⟩ := s
   obtain ⟨hk1,hR⟩ := hs
   simp only at hk1 hR
   by_cases hkH : k < w.hours.1
   ·have fk : ((k : Int) < (w.hours.1 : Int)) = True := eq_true (by omega)
    have pk1 : (0 ≤ (k : Int)) = True := eq_true (by omega)
    have fkr : ((k : Int) < (fr.1 : Int)) = True := eq_true (by omega)
    have v4 : IntKind.i64.wrap (2 + (w.spathes.1 : Int)) = ((2 + w.spathes.1 : Nat) : Int) := by rw [wr64 (by omega) (by omega)]; omega
    have v5 : IntKind.i64.wrap (((2 + w.spathes.1 : Nat) : Int) + (k : Int)) = ((2 + w.spathes.1 + k : Nat) : Int) := by rw [wr64 (by omega) (by omega)]; omega
    have v6 : (((2 + w.spathes.1 + k : Nat) : Int) < (i : Int)) = True := eq_true (by omega)
    have v7 : (0 ≤ ((2 + w.spathes.1 + k : Nat) : Int)) = True := eq_true (by omega)
    have v8 : IntKind.i64.wrap (((2 + w.spathes.1 : Nat) : Int) + (w.hours.1 : Int)) = ((2 + w.spathes.1 + w.hours.1 : Nat) : Int) := by rw [wr64 (by omega) (by omega)]; omega
    have v9 : IntKind.i64.wrap (((2 + w.spathes.1 + w.hours.1 : Nat) : Int) + (k : Int)) = ((2 + w.spathes.1 + w.hours.1 + k : Nat) : Int) := by rw [wr64 (by omega) (by omega)]; omega
    have va : (((2 + w.spathes.1 + w.hours.1 + k : Nat) : Int) < (i : Int)) = True := eq_true (by omega)
    have vb : (0 ≤ ((2 + w.spathes.1 + w.hours.1 + k : Nat) : Int)) = True := eq_true (by omega)
    have hbt : WkB w = True := eq_true hb
    have q2' : IntKind.i64.wrap (2 * (w.hours.1 : Int)) = ((2 * w.hours.1 : Nat) : Int) := by rw [wr64 (by omega) (by omega)]; omega
    have vc : IntKind.i64.wrap (((2 + w.spathes.1 : Nat) : Int) + ((2 * w.hours.1 : Nat) : Int)) = ((2 + w.spathes.1 + 2 * w.hours.1 : Nat) : Int) := by rw [wr64 (by omega) (by omega)]; omega
    cases hfk : fr.2 k with
    | true =>
     simp only [fk,fkr,pk1,v4,v5,v6,v7,v8,v9,va,vb,hfk,w4,↓imp_tt,↓imp_tf,↓reduceIte,reduceCtorEq,Nat.reduceEqDiff,Nat.reduceAdd,Nat.reduceSub,Nat.reduceLeDiff,Nat.reducePow,go_sem]
     refine loopI (ι := Nat × (Nat → Nat → Int)) (fun s => s.1 ≤ w.lots.1 ∧ MatIs N.n (rdec N.S N.H) s.2 (capG (fun i => decide (fi0 ≤ i ∧ i < w.spathes.1)) (fun i h => decide (fi0 ≤ i ∧ i < w.spathes.1 ∧ h < w.hours.1 ∧ takesF w i h = true)) (fun h => decide (h < k + 1 ∧ fr.2 h = true)) (fun h q => decide (h < k ∧ q < w.lots.1 ∧ goodF w h q = true) || decide (h = k ∧ q < s.1 ∧ goodF w h q = true)) (fun _ => 0))) (fun s => w.lots.1 - s.1) [2,3,4,9,10,12,16] (fun s => [(17,.int .i64 s.1)])
      (fun s => [(4,.fam (fun z => decide (0 ≤ z ∧ z < (i : Int))) fun z => .row 3 1 i fun b _ => .int .i64 (s.2 z.toNat b))]) (0,setR R (renc N.S N.H (.hi k)) (renc N.S N.H (.ho k)) 1) ⟨Nat.zero_le _,?_⟩ (by
       have e1 : renc N.S N.H (.hi k) = 2 + w.spathes.1 + k := by rw [← hNS]; rfl
       have e2 : renc N.S N.H (.ho k) = 2 + w.spathes.1 + w.hours.1 + k := by rw [← hNS,← hNH]; rfl
       rw [e1,e2]
       simp only [↓reduceIte,reduceCtorEq,Nat.reduceEqDiff,Nat.reduceLT,go_sem]
       exact ⟨chkFam_matS (2 + w.spathes.1 + k) (2 + w.spathes.1 + w.hours.1 + k) (1) (((2 + w.spathes.1 + k : Nat) : Int)) rfl fun z hz => by simp only [Int.toNat_natCast,bget,true_and],fun a ha b hb => .inl ⟨_,if_pos ⟨by omega,by omega⟩⟩,fun z hz => ⟨_,if_pos (dset (by omega) (by omega) hz)⟩⟩) fun s hs => ?_
     ·refine hR.set hC (show k < N.H by omega) (show k < N.H by omega) fun p q => ?_
      rcases p with _ | _ | a | a | a | a <;> rcases q with _ | _ | b | b | b | b <;> simp only [capG,reduceCtorEq,false_and,and_false,if_false] <;> try (first | rfl | (simp; done))
      ·refine if01 ?_
       simp only [decide_eq_true_eq,Nd.hi.injEq,Nd.ho.injEq]
       constructor
       ·rintro ⟨rfl,h2,h3⟩
        by_cases e : a = k
        ·exact .inl ⟨e,e⟩
        ·exact .inr ⟨rfl,by omega,h3⟩
       ·rintro (⟨rfl,rfl⟩ | ⟨rfl,h2,h3⟩)
        ·exact ⟨rfl,by omega,hfk⟩
        ·exact ⟨rfl,by omega,h3⟩
     ·obtain ⟨q,R⟩ := s
      obtain ⟨hq1,hR⟩ := hs
      simp only at hq1 hR
      by_cases hqL : q < w.lots.1
      ·have fq : ((q : Int) < (w.lots.1 : Int)) = True := eq_true (by omega)
       have pq1 : (0 ≤ (q : Int)) = True := eq_true (by omega)
       have vd : IntKind.i64.wrap (((2 + w.spathes.1 + 2 * w.hours.1 : Nat) : Int) + (q : Int)) = ((2 + w.spathes.1 + 2 * w.hours.1 + q : Nat) : Int) := by rw [wr64 (by omega) (by omega)]; omega
       have ve : (((2 + w.spathes.1 + 2 * w.hours.1 + q : Nat) : Int) < (i : Int)) = True := eq_true (by omega)
       have vf : (0 ≤ ((2 + w.spathes.1 + 2 * w.hours.1 + q : Nat) : Int)) = True := eq_true (by omega)
       cases hg : goodF w k q with
       | true =>
        simp only [fq,pq1,vd,ve,vf,fk,pk1,v4,v8,v9,va,vb,hbt,q2',vc,hg,w1,w2,w3,sGood,Int.toNat_natCast,↓imp_tt,↓imp_tf,↓reduceIte,reduceCtorEq,Nat.reduceEqDiff,Nat.reduceAdd,Nat.reduceSub,Nat.reduceLeDiff,Nat.reducePow,spec3,TInt,IsInt,RInt,Prod.eta,Sn.eta,Sp.c0,Sp.c1,Sp.c2,RSp,Sp.w_c,Sp.d,Sp.eta,Lt.c0,Lt.c1,Lt.c2,Lt.c3,RLt,Lt.w_c,Lt.d,Lt.eta,Wk.L,Wk.Is,Wk.of,TWk,Wk.d,Wk.eta,go_sem]
        refine inv_intro (q + 1,setR R (renc N.S N.H (.ho k)) (renc N.S N.H (.lt q)) 1) ⟨hqL,hR.set hC (show k < N.H by omega) (show q < N.L by omega) fun p q' => ?_⟩ (by simp only; omega) ?_
        ·rcases p with _ | _ | a | a | a | a <;> rcases q' with _ | _ | b | b | b | b <;> simp only [capG,reduceCtorEq,false_and,and_false,if_false] <;> try (first | rfl | (simp; done))
         refine if01 ?_
         simp only [Bool.or_eq_true,decide_eq_true_eq,Nd.ho.injEq,Nd.lt.injEq]
         constructor
         ·rintro (h | ⟨rfl,h2,h3⟩)
          ·exact .inr (.inl h)
          ·by_cases e : b = q
           ·exact .inl ⟨rfl,e⟩
           ·exact .inr (.inr ⟨rfl,by omega,h3⟩)
         ·rintro (⟨rfl,rfl⟩ | h | ⟨rfl,h2,h3⟩)
          ·exact .inr ⟨rfl,by omega,hg⟩
          ·exact .inl h
          ·exact .inr ⟨rfl,by omega,h3⟩
        ·have e1 : renc N.S N.H (.ho k) = 2 + w.spathes.1 + w.hours.1 + k := by rw [← hNS,← hNH]; rfl
         have e2 : renc N.S N.H (.lt q) = 2 + w.spathes.1 + 2 * w.hours.1 + q := by rw [← hNS,← hNH]; rfl
         rw [e1,e2]
         simp only [↓reduceIte,reduceCtorEq,Nat.reduceEqDiff,Nat.reduceLT,go_sem]
         exact ⟨wrS (by omega),chkFam_matS (2 + w.spathes.1 + w.hours.1 + k) (2 + w.spathes.1 + 2 * w.hours.1 + q) (1) (((2 + w.spathes.1 + w.hours.1 + k : Nat) : Int)) rfl fun z hz => by simp only [Int.toNat_natCast,bget,true_and],fun a ha b hb => .inl ⟨_,if_pos ⟨by omega,by omega⟩⟩,fun z hz => ⟨_,if_pos (dset (by omega) (by omega) hz)⟩⟩
       | false =>
        simp only [fq,pq1,fk,pk1,hbt,hg,w1,w2,w3,sGood,Int.toNat_natCast,↓imp_tt,↓imp_tf,↓imp_ft,↓imp_ff,↓reduceIte,reduceCtorEq,Nat.reduceEqDiff,Nat.reduceAdd,Nat.reduceSub,Nat.reduceLeDiff,Nat.reducePow,spec3,TInt,IsInt,RInt,Prod.eta,Sn.eta,Sp.c0,Sp.c1,Sp.c2,RSp,Sp.w_c,Sp.d,Sp.eta,Lt.c0,Lt.c1,Lt.c2,Lt.c3,RLt,Lt.w_c,Lt.d,Lt.eta,Wk.L,Wk.Is,Wk.of,TWk,Wk.d,Wk.eta,go_sem]
        refine inv_intro (q + 1,R) ⟨hqL,hR.same fun p q' => ?_⟩ (by simp only; omega) ?_
        ·rcases p with _ | _ | a | a | a | a <;> rcases q' with _ | _ | b | b | b | b <;> simp only [capG] <;> try rfl
         refine if00 ?_
         simp only [Bool.or_eq_true,decide_eq_true_eq]
         refine or_congr Iff.rfl ⟨fun ⟨e,h2,h3⟩ => ⟨e,?_,h3⟩,fun ⟨e,h2,h3⟩ => ⟨e,by omega,h3⟩⟩
         by_cases e2 : b = q
         ·subst e; subst e2; rw [hg] at h3; cases h3
         ·omega
        ·simp only [↓reduceIte,reduceCtorEq,Nat.reduceEqDiff,Nat.reduceLT,go_sem]
         exact ⟨wrS (by omega),chkFam_mat fun z hz => ⟨_,if_pos (by simp; omega),fun _ _ => rfl⟩,fun a ha b hb => .inl ⟨_,if_pos ⟨by omega,by omega⟩⟩,fun z hz => ⟨_,if_pos hz⟩⟩
      ·have fq : ((q : Int) < (w.lots.1 : Int)) = False := eq_false (by omega)
       simp only [fq,w3,↓imp_ft,↓imp_ff,↓reduceIte,Nat.reduceEqDiff,Nat.reduceAdd,Nat.reduceSub,Nat.reduceLeDiff,Nat.reducePow,go_sem]
       refine inv_intro (k + 1,R) ⟨hkH,hR.same fun p q' => ?_⟩ (by simp only; omega) ?_
       ·rcases p with _ | _ | a | a | a | a <;> rcases q' with _ | _ | b | b | b | b <;> simp only [capG] <;> try rfl
        refine if00 ?_
        simp only [Bool.or_eq_true,decide_eq_true_eq]
        constructor
        ·rintro ⟨h2,h3,h4⟩
         by_cases e : a = k
         ·exact .inr ⟨e,by omega,h4⟩
         ·exact .inl ⟨by omega,h3,h4⟩
        ·rintro (⟨h2,h3,h4⟩ | ⟨rfl,h2,h3⟩)
         ·exact ⟨by omega,h3,h4⟩
         ·exact ⟨by omega,by omega,h3⟩
       ·simp only [↓reduceIte,reduceCtorEq,Nat.reduceEqDiff,Nat.reduceLT,go_sem]
        exact ⟨wrS (by omega),chkFam_mat fun z hz => ⟨_,if_pos (by simp; omega),fun _ _ => rfl⟩,fun a ha b hb => .inl ⟨_,if_pos ⟨by omega,by omega⟩⟩,fun z hz => ⟨_,if_pos hz⟩⟩
    | false =>
     simp only [fk,fkr,pk1,hfk,w4,↓imp_tt,↓imp_tf,↓imp_ft,↓imp_ff,↓reduceIte,Nat.reduceEqDiff,Nat.reduceSub,Nat.reducePow,go_sem]
     refine loopI (ι := Nat × (Nat → Nat → Int)) (fun s => s.1 ≤ w.lots.1 ∧ MatIs N.n (rdec N.S N.H) s.2 (capG (fun i => decide (fi0 ≤ i ∧ i < w.spathes.1)) (fun i h => decide (fi0 ≤ i ∧ i < w.spathes.1 ∧ h < w.hours.1 ∧ takesF w i h = true)) (fun h => decide (h < k + 1 ∧ fr.2 h = true)) (fun h q => decide (h < k ∧ q < w.lots.1 ∧ goodF w h q = true) || decide (h = k ∧ q < s.1 ∧ goodF w h q = true)) (fun _ => 0))) (fun s => w.lots.1 - s.1) [2,3,4,9,10,12,16] (fun s => [(17,.int .i64 s.1)])
      (fun s => [(4,.fam (fun z => decide (0 ≤ z ∧ z < (i : Int))) fun z => .row 3 1 i fun b _ => .int .i64 (s.2 z.toNat b))]) (0,R) ⟨Nat.zero_le _,?_⟩ (by
       simp only [↓reduceIte,reduceCtorEq,Nat.reduceEqDiff,Nat.reduceLT,go_sem]
       exact ⟨chkFam_mat fun z hz => ⟨_,if_pos (by simp; omega),fun _ _ => rfl⟩,fun a ha b hb => .inl ⟨_,if_pos ⟨by omega,by omega⟩⟩,fun z hz => ⟨_,if_pos hz⟩⟩) fun s hs => ?_
     ·refine hR.same fun p q => ?_
      rcases p with _ | _ | a | a | a | a <;> rcases q with _ | _ | b | b | b | b <;> simp only [capG] <;> try (first | rfl | (simp; done))
      ·refine if00 ?_
       simp only [decide_eq_true_eq]
       refine and_congr Iff.rfl ⟨fun ⟨h2,h3⟩ => ⟨?_,h3⟩,fun ⟨h2,h3⟩ => ⟨by omega,h3⟩⟩
       by_cases e : a = k
       ·subst e; rw [hfk] at h3; cases h3
       ·omega
     ·obtain ⟨q,R⟩ := s
      obtain ⟨hq1,hR⟩ := hs
      simp only at hq1 hR
      by_cases hqL : q < w.lots.1
      ·have fq : ((q : Int) < (w.lots.1 : Int)) = True := eq_true (by omega)
       have pq1 : (0 ≤ (q : Int)) = True := eq_true (by omega)
       have vd : IntKind.i64.wrap (((2 + w.spathes.1 + 2 * w.hours.1 : Nat) : Int) + (q : Int)) = ((2 + w.spathes.1 + 2 * w.hours.1 + q : Nat) : Int) := by rw [wr64 (by omega) (by omega)]; omega
       have ve : (((2 + w.spathes.1 + 2 * w.hours.1 + q : Nat) : Int) < (i : Int)) = True := eq_true (by omega)
       have vf : (0 ≤ ((2 + w.spathes.1 + 2 * w.hours.1 + q : Nat) : Int)) = True := eq_true (by omega)
       cases hg : goodF w k q with
       | true =>
        simp only [fq,pq1,vd,ve,vf,fk,pk1,v4,v8,v9,va,vb,hbt,q2',vc,hg,w1,w2,w3,sGood,Int.toNat_natCast,↓imp_tt,↓imp_tf,↓reduceIte,reduceCtorEq,Nat.reduceEqDiff,Nat.reduceAdd,Nat.reduceSub,Nat.reduceLeDiff,Nat.reducePow,spec3,TInt,IsInt,RInt,Prod.eta,Sn.eta,Sp.c0,Sp.c1,Sp.c2,RSp,Sp.w_c,Sp.d,Sp.eta,Lt.c0,Lt.c1,Lt.c2,Lt.c3,RLt,Lt.w_c,Lt.d,Lt.eta,Wk.L,Wk.Is,Wk.of,TWk,Wk.d,Wk.eta,go_sem]
        refine inv_intro (q + 1,setR R (renc N.S N.H (.ho k)) (renc N.S N.H (.lt q)) 1) ⟨hqL,hR.set hC (show k < N.H by omega) (show q < N.L by omega) fun p q' => ?_⟩ (by simp only; omega) ?_
        ·rcases p with _ | _ | a | a | a | a <;> rcases q' with _ | _ | b | b | b | b <;> simp only [capG,reduceCtorEq,false_and,and_false,if_false] <;> try (first | rfl | (simp; done))
         refine if01 ?_
         simp only [Bool.or_eq_true,decide_eq_true_eq,Nd.ho.injEq,Nd.lt.injEq]
         constructor
         ·rintro (h | ⟨rfl,h2,h3⟩)
          ·exact .inr (.inl h)
          ·by_cases e : b = q
           ·exact .inl ⟨rfl,e⟩
           ·exact .inr (.inr ⟨rfl,by omega,h3⟩)
         ·rintro (⟨rfl,rfl⟩ | h | ⟨rfl,h2,h3⟩)
          ·exact .inr ⟨rfl,by omega,hg⟩
          ·exact .inl h
          ·exact .inr ⟨rfl,by omega,h3⟩
        ·have e1 : renc N.S N.H (.ho k) = 2 + w.spathes.1 + w.hours.1 + k := by rw [← hNS,← hNH]; rfl
         have e2 : renc N.S N.H (.lt q) = 2 + w.spathes.1 + 2 * w.hours.1 + q := by rw [← hNS,← hNH]; rfl
         rw [e1,e2]
         simp only [↓reduceIte,reduceCtorEq,Nat.reduceEqDiff,Nat.reduceLT,go_sem]
         exact ⟨wrS (by omega),chkFam_matS (2 + w.spathes.1 + w.hours.1 + k) (2 + w.spathes.1 + 2 * w.hours.1 + q) (1) (((2 + w.spathes.1 + w.hours.1 + k : Nat) : Int)) rfl fun z hz => by simp only [Int.toNat_natCast,bget,true_and],fun a ha b hb => .inl ⟨_,if_pos ⟨by omega,by omega⟩⟩,fun z hz => ⟨_,if_pos (dset (by omega) (by omega) hz)⟩⟩
       | false =>
        simp only [fq,pq1,fk,pk1,hbt,hg,w1,w2,w3,sGood,Int.toNat_natCast,↓imp_tt,↓imp_tf,↓imp_ft,↓imp_ff,↓reduceIte,reduceCtorEq,Nat.reduceEqDiff,Nat.reduceAdd,Nat.reduceSub,Nat.reduceLeDiff,Nat.reducePow,spec3,TInt,IsInt,RInt,Prod.eta,Sn.eta,Sp.c0,Sp.c1,Sp.c2,RSp,Sp.w_c,Sp.d,Sp.eta,Lt.c0,Lt.c1,Lt.c2,Lt.c3,RLt,Lt.w_c,Lt.d,Lt.eta,Wk.L,Wk.Is,Wk.of,TWk,Wk.d,Wk.eta,go_sem]
        refine inv_intro (q + 1,R) ⟨hqL,hR.same fun p q' => ?_⟩ (by simp only; omega) ?_
        ·rcases p with _ | _ | a | a | a | a <;> rcases q' with _ | _ | b | b | b | b <;> simp only [capG] <;> try rfl
         refine if00 ?_
         simp only [Bool.or_eq_true,decide_eq_true_eq]
         refine or_congr Iff.rfl ⟨fun ⟨e,h2,h3⟩ => ⟨e,?_,h3⟩,fun ⟨e,h2,h3⟩ => ⟨e,by omega,h3⟩⟩
         by_cases e2 : b = q
         ·subst e; subst e2; rw [hg] at h3; cases h3
         ·omega
        ·simp only [↓reduceIte,reduceCtorEq,Nat.reduceEqDiff,Nat.reduceLT,go_sem]
         exact ⟨wrS (by omega),chkFam_mat fun z hz => ⟨_,if_pos (by simp; omega),fun _ _ => rfl⟩,fun a ha b hb => .inl ⟨_,if_pos ⟨by omega,by omega⟩⟩,fun z hz => ⟨_,if_pos hz⟩⟩
      ·have fq : ((q : Int) < (w.lots.1 : Int)) = False := eq_false (by omega)
       simp only [fq,w3,↓imp_ft,↓imp_ff,↓reduceIte,Nat.reduceEqDiff,Nat.reduceAdd,Nat.reduceSub,Nat.reduceLeDiff,Nat.reducePow,go_sem]
       refine inv_intro (k + 1,R) ⟨hkH,hR.same fun p q' => ?_⟩ (by simp only; omega) ?_
       ·rcases p with _ | _ | a | a | a | a <;> rcases q' with _ | _ | b | b | b | b <;> simp only [capG] <;> try rfl
        refine if00 ?_
        simp only [Bool.or_eq_true,decide_eq_true_eq]
        constructor
        ·rintro ⟨h2,h3,h4⟩
         by_cases e : a = k
         ·exact .inr ⟨e,by omega,h4⟩
         ·exact .inl ⟨by omega,h3,h4⟩
        ·rintro (⟨h2,h3,h4⟩ | ⟨rfl,h2,h3⟩)
         ·exact ⟨by omega,h3,h4⟩
         ·exact ⟨by omega,by omega,h3⟩
       ·simp only [↓reduceIte,reduceCtorEq,Nat.reduceEqDiff,Nat.reduceLT,go_sem]
        exact ⟨wrS (by omega),chkFam_mat fun z hz => ⟨_,if_pos (by simp; omega),fun _ _ => rfl⟩,fun a ha b hb => .inl ⟨_,if_pos ⟨by omega,by omega⟩⟩,fun z hz => ⟨_,if_pos hz⟩⟩
   ·have fk : ((k : Int) < (w.hours.1 : Int)) = False := eq_false (by omega)
    obtain rfl : k = w.hours.1 := by omega
    simp only [fk,↓imp_ft,↓imp_ff,↓reduceIte,Nat.reduceEqDiff,go_sem]
    refine loopI (ι := Nat × (Nat → Nat → Int)) (fun s => s.1 ≤ w.lots.1 ∧ MatIs N.n (rdec N.S N.H) s.2 (capG (fun i => decide (fi0 ≤ i ∧ i < w.spathes.1)) (fun i h => decide (fi0 ≤ i ∧ i < w.spathes.1 ∧ h < w.hours.1 ∧ takesF w i h = true)) (fun h => decide (h < w.hours.1 ∧ fr.2 h = true)) (fun h q => decide (h < w.hours.1 ∧ q < w.lots.1 ∧ goodF w h q = true)) (fun q => if q < s.1 then un.2 q else 0))) (fun s => w.lots.1 - s.1) [3,4,9,10,12] (fun s => [(18,.int .i64 s.1)])
     (fun s => [(4,.fam (fun z => decide (0 ≤ z ∧ z < (i : Int))) fun z => .row 3 1 i fun b _ => .int .i64 (s.2 z.toNat b))]) (0,R) ⟨Nat.zero_le _,hR.same fun p q => by cases p <;> cases q <;> simp [capG]⟩ (by
      simp only [↓reduceIte,reduceCtorEq,Nat.reduceEqDiff,Nat.reduceLT,go_sem]
      exact ⟨chkFam_mat fun z hz => ⟨_,if_pos (by simp; omega),fun _ _ => rfl⟩,fun a ha b hb => .inl ⟨_,if_pos ⟨by omega,by omega⟩⟩,fun z hz => ⟨_,if_pos hz⟩⟩) fun s hs => ?_
    obtain ⟨q,R⟩ := s
    obtain ⟨hq1,hR⟩ := hs
    simp only at hq1 hR
    by_cases hqL : q < w.lots.1
    ·have fq : ((q : Int) < (w.lots.1 : Int)) = True := eq_true (by omega)
     have pq1 : (0 ≤ (q : Int)) = True := eq_true (by omega)
     have fqr : ((q : Int) < (un.1 : Int)) = True := eq_true (by omega)
     have v4 : IntKind.i64.wrap (2 + (w.spathes.1 : Int)) = ((2 + w.spathes.1 : Nat) : Int) := by rw [wr64 (by omega) (by omega)]; omega
     have q2' : IntKind.i64.wrap (2 * (w.hours.1 : Int)) = ((2 * w.hours.1 : Nat) : Int) := by rw [wr64 (by omega) (by omega)]; omega
     have vc : IntKind.i64.wrap (((2 + w.spathes.1 : Nat) : Int) + ((2 * w.hours.1 : Nat) : Int)) = ((2 + w.spathes.1 + 2 * w.hours.1 : Nat) : Int) := by rw [wr64 (by omega) (by omega)]; omega
     have vd : IntKind.i64.wrap (((2 + w.spathes.1 + 2 * w.hours.1 : Nat) : Int) + (q : Int)) = ((2 + w.spathes.1 + 2 * w.hours.1 + q : Nat) : Int) := by rw [wr64 (by omega) (by omega)]; omega
     have ve : (((2 + w.spathes.1 + 2 * w.hours.1 + q : Nat) : Int) < (i : Int)) = True := eq_true (by omega)
     have vf : (0 ≤ ((2 + w.spathes.1 + 2 * w.hours.1 + q : Nat) : Int)) = True := eq_true (by omega)
     have vg : (1 < (i : Int)) = True := eq_true (by omega)
     simp only [fq,pq1,fqr,vd,ve,vf,vg,v4,q2',vc,w3,Int.toNat_natCast,↓imp_tt,↓imp_tf,↓reduceIte,reduceCtorEq,Nat.reduceEqDiff,Nat.reduceAdd,Nat.reduceSub,Nat.reduceLeDiff,Int.reduceToNat,Int.reduceLE,Nat.reducePow,go_sem]
     refine inv_intro (q + 1,setR R (renc N.S N.H (.lt q)) (renc N.S N.H .snk) (un.2 q)) ⟨hqL,hR.set hC (show q < N.L by omega) trivial fun p q' => ?_⟩ (by simp only; omega) ?_
     ·rcases p with _ | _ | a | a | a | a <;> rcases q' with _ | _ | b | b | b | b <;> simp only [capG,reduceCtorEq,false_and,and_false,if_false] <;> try (first | rfl | (simp; done))
      simp only [Nd.lt.injEq,and_true]
      by_cases e : a = q
      ·subst e; rw [if_pos (by omega),if_pos rfl]
      ·rw [if_neg e]
       by_cases e2 : a < q
       ·rw [if_pos (by omega),if_pos e2]
       ·rw [if_neg (by omega),if_neg e2]
     ·have e1 : renc N.S N.H (.lt q) = 2 + w.spathes.1 + 2 * w.hours.1 + q := by rw [← hNS,← hNH]; rfl
      have e2 : renc N.S N.H .snk = 1 := rfl
      rw [e1,e2]
      simp only [↓reduceIte,reduceCtorEq,Nat.reduceEqDiff,Nat.reduceLT,go_sem]
      exact ⟨wrS (by omega),chkFam_matS (2 + w.spathes.1 + 2 * w.hours.1 + q) (1) (un.2 q) (((2 + w.spathes.1 + 2 * w.hours.1 + q : Nat) : Int)) rfl fun z hz => by simp only [Int.toNat_natCast,bget,true_and],fun a ha b hb => .inl ⟨_,if_pos ⟨by omega,by omega⟩⟩,fun z hz => ⟨_,if_pos (dset (by omega) (by omega) hz)⟩⟩
    ·have fq : ((q : Int) < (w.lots.1 : Int)) = False := eq_false (by omega)
     obtain rfl : q = w.lots.1 := by omega
     simp only [fq,w3,↓imp_ft,↓imp_ff,↓reduceIte,Nat.reduceEqDiff,Nat.reduceAdd,Nat.reduceSub,Nat.reduceLeDiff,Nat.reducePow,go_sem]
     have hcap : MatIs N.n (rdec N.S N.H) R N.cap := hR.same fun p q => by
      rw [hN]
      rcases p with _ | _ | a | a | a | a <;> rcases q with _ | _ | b | b | b | b <;> simp only [capG,Nt.cap,ntF] <;> first | rfl | (refine if00 ?_; simp []; done) | (split <;> rfl)
     have hc0 : ∀ x y,0 ≤ N.cap x y ∧ N.cap x y ≤ 100 := fun x y => by
      rw [hN]
      rcases x with _ | _ | a | a | a | a <;> rcases y with _ | _ | b | b | b | b <;> simp only [Nt.cap,ntF] <;> first | omega | (split <;> omega) | (split; exact h5 _ (by omega); omega)
     have hun : ∀ j,0 ≤ N.un j := fun j => by
      rw [hN]; show 0 ≤ (if j < w.lots.1 then un.2 j else 0)
      split
      ·exact (h5 _ (by omega)).1
      ·omega
     have hgf : ∀ h,N.fr h = true → N.gf h = true := by rw [hN]; intros; rfl
     refine loopI (ι := Int × (Nat → Nat → Int)) (fun s => 0 ≤ s.1 ∧ FlowOk N (rdec N.S N.H) s.2 s.1) (fun s => 9 - s.1.toNat) [9] (fun s => [(10,.int .i64 s.1)])
      (fun s => [(2,.cells (.cons (.own (.n 3)) (.cons .und .nil))),(4,.fam (fun z => decide (0 ≤ z ∧ z < (i : Int))) fun z => .row 3 1 i fun b _ => .int .i64 (s.2 z.toNat b))]) (0,R) ⟨Int.le_refl _,.start hcap fun x y => (hc0 x y).1⟩ (by
       simp only [↓reduceIte,reduceCtorEq,Nat.reduceEqDiff,Nat.reduceLT,go_sem]
       exact ⟨chkFam_mat fun z hz => ⟨_,if_pos (by simp; omega),fun _ _ => rfl⟩,fun a ha b hb => .inl ⟨_,if_pos ⟨by omega,by omega⟩⟩,fun z hz => ⟨_,if_pos hz⟩⟩) fun s hs => ?_
     obtain ⟨v,R⟩ := s
     obtain ⟨hv0,hF⟩ := hs
     simp only at hv0 hF
     have hn2 : (0 ≤ (i : Int) ∧ (i : Int) ≤ 4611686018427387904 ∧ (i : Int) * 1 ≤ 140737488355328) := ⟨by omega,by omega,by omega⟩
     simp only [hn2.1,hn2.2.1,hn2.2.2,↓reduceIte,reduceCtorEq,Nat.reduceEqDiff,Nat.reduceAdd,Nat.reduceLeDiff,Nat.reduceLT,go_sem]
     have hvS : v ≤ w.spathes.1 := by
      obtain ⟨g,_,e⟩ := hF.plan hC hgf hun
      have := Pla.size_le g N.S
      omega
     refine rpush_run rfl rfl (n := i) (X := 2) (O := 3) (F := 4) (Z := 5) (by omega) (by omega) i 0 R (fun _ => false) _ _ _ _ _ (by omega) (uns_le _ _) (by omega) rfl rfl (fun a ha b hb => ?_) ⟨by simp only [bget,↓reduceIte,Nat.reduceEqDiff],by simp only [bget,↓reduceIte,reduceCtorEq,Nat.reduceEqDiff],fun a ha => ⟨fun b _ => .int .i64 (R a b),?_,fun j hj => rfl⟩,⟨fun _ j => vget (.cons (.bool false) .nil) j,?_,fun j hj => rfl⟩⟩ fun b r' sn' bx' M' hM' hpost hnet hold hkeep => ?_
     ·have e1 := hF.nn a (by omega) b (by omega)
      have e2 := hF.sk a (by omega) b (by omega)
      have e3 := (hc0 (rdec N.S N.H a) (rdec N.S N.H b)).2
      have e4 := (hc0 (rdec N.S N.H b) (rdec N.S N.H a)).2
      omega
     ·simp only [bget,true_and,decide_eq_true_eq,inat]; rw [if_pos (by omega)]
     ·simp only [bget,↓reduceIte]
     obtain ⟨M',rfl⟩ : ∃ m,M' = m + 100 := ⟨M' - 100,by omega⟩
     cases b with
     | false =>
      simp only [↓imp_tt,↓imp_tf,↓reduceIte,Nat.reduceEqDiff,go_sem]
      rw [← hN]
      obtain ⟨c1,c2,c3,c4⟩ := hpost.ff rfl
      refine (maxP_eq (hF.most hC hgf hun (s := sn') c2 c3 fun u hu hs x hx h0 => ?_)).symm
      exact c4 u (by omega) hs rfl x (by omega) h0
     | true =>
      have w6 : IntKind.i64.wrap (v + 1) = v + 1 := wr64 (by omega) (by omega)
      simp only [w6,↓imp_ft,↓imp_ff,↓reduceIte,Nat.reduceEqDiff,go_sem]
      have x0 := hold (.n 0) (by simp) (by simp)
      have x1 := hold (.n 1) (by simp) (by simp)
      have x2 := hnet.x
      have x3 := hnet.o
      refine inv_chkG (v + 1,r') ⟨by omega,hF.push ?_⟩ (by simp only; omega) (chkG_all (by omega) ?_ ?_ ?_ ?_)
      ·rw [hNn]; exact (hpost.tt rfl).1
      ·simp only [↓reduceIte,Nat.reduceEqDiff,go_sem]
      ·simp only [AllB,x0,x1,x2,x3,↓reduceIte,reduceCtorEq,Nat.reduceEqDiff,go_sem]
       intro z hz
       obtain ⟨m,rfl⟩ : ∃ m : Nat,z = m := ⟨z.toNat,by omega⟩
       obtain ⟨c,y1,y2⟩ := hnet.f m (by omega)
       right
       rw [y1]
       refine ⟨rfl,rfl,rfl,fun a ha j hj => ?_⟩
       obtain rfl : j = 0 := by omega
       rw [y2 a ha,Int.toNat_natCast]; exact rfl
      ·simp only [AllB,bget,↓reduceIte,reduceCtorEq,Nat.reduceEqDiff,and_true,true_and,and_self,decide_eq_true_eq,Option.some.injEq,exists_eq',true_or]
       exact fun z hz => .inl ⟨_,if_pos hz⟩
      ·simp only [AllB,x0,x1,x2,x3,bget,↓reduceIte,reduceCtorEq,Nat.reduceEqDiff,and_true,true_and,decide_eq_true_eq,Option.some.injEq,exists_eq_left']
       refine ⟨fun c1 h => by subst h; trivial,fun c1 h => by subst h; trivial,fun c1 h => by subst h; trivial,fun z hz c1 h => ⟨_,if_pos hz,?_⟩,fun c1 h => by subst h; exact ⟨rfl,rfl⟩⟩
       obtain ⟨m,rfl⟩ : ∃ m : Nat,z = m := ⟨z.toNat,by omega⟩
       obtain ⟨c,y1,y2⟩ := hnet.f m (by omega)
       rw [y1] at h
       cases h
       exact ⟨rfl,rfl⟩
end Go.Proofs.Ytlapepdhkomijaa
