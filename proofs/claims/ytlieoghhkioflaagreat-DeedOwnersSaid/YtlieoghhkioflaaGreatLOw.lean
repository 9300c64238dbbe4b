/- Deeds: the statement DeedOwners. No condition. -/
import Derived.Test.YtlieoghhkioflaaGreatDow
set_option maxRecDepth 100000
namespace Go.Proofs.YtlieoghhkioflaaGreat
open Go Go.RowKit
variable {G : Nat -> Option (Nat × (Nat -> Ae))}
theorem CQ {α : Type} (a : Nat × (Nat -> α)) : OC a a = true := AF ⟨rfl,fun _ _ => rfl⟩
theorem YX {f : Nat -> Int} {P : Pz} {k : Pi -> Int} {N : Nat} (h0 : 0 < P.1) (z : Vn f P k N) : (As f (Bg P P.1)).1 - 1 + 1 = (As f N).1 /\ ∀ i,i < (As f (Bg P P.1)).1 - 1 + 1 -> ∀ j,j < 3 -> Ax (((As f N).2 i).c j) (if i < (As f (Bg P P.1)).1 - 1 then ((As f (Bg P P.1)).2 i).c j else Aq (Aq (.cons (Ed f P (k (P.2 0)) P.1).L .nil) (i - ((As f (Bg P P.1)).1 - 1))) j) := by
 have h1 := z.pos P.1 h0 (Nat.le_refl _)
 have hn : Ed f P (k (P.2 0)) P.1 = (As f (Bg P P.1)).2 ((As f (Bg P P.1)).1 - 1) := if_neg (by omega)
 rw [<- z.fin]
 exact ⟨by omega,fun i hi => TM (fun j _ => rfl) hn.symm i hi⟩
theorem QQ {n : Nat} {g : Nat -> Nat -> Ae} {B : Sz} (h : Ax (G1 B) (.view 3 n g)) : OC ((DQ JT).of (.view 3 n g)) B = true := by
 unfold G1 at h
 rw [Dd] at h
 obtain ⟨h1,h2⟩ := h
 refine AF ⟨h1,fun i hi => ?_⟩
 have hi' : i < B.1 := by have : i < n := hi; omega
 have e0 : g i 0 = .int .i64 (B.2 i).who := h2 i hi' 0 (by omega)
 have e1 : g i 1 = .int .i64 (B.2 i).turn.fro := h2 i hi' 1 (by omega)
 have e2 : g i 2 = .int .i64 (B.2 i).turn.til := h2 i hi' 2 (by omega)
 show Ho.d (g i) = B.2 i
 unfold Ho.d
 rw [e0,e1,e2]
 rfl
theorem EK (x : De) : CX x x = True := eq_true ⟨rfl,rfl,rfl,rfl,rfl,rfl,rfl,rfl,fun _ _ => rfl⟩
theorem Gf : A8 True = true := AF trivial
theorem Oz (A : Nat -> Ho) (m : Nat) (h : Ho) : ∀ i,i < m + 1 -> Ho.w fun j => if i < m then (A i).c j else Aq (Aq (.cons h.L .nil) (i - m)) j := fun i hi => by
 by_cases e : i < m
 ·simp only [if_pos e]; exact of_eq_true (Ho.w_c (A i))
 obtain rfl : i = m := by omega
 simp only [if_neg e,Nat.sub_self]
 exact ⟨rfl,rfl,rfl⟩
theorem Xq (A : Nat -> Ho) (m : Nat) {n : Nat} : ∀ i,i < n -> ∀ c,c < 3 -> Ax (if i < m + 1 /\ c = 0 then .int .i64 (-7) else (A i).c c) (if i = m /\ 0 <= c /\ c < 1 then Aq (.cons (.int .i64 (-7)) .nil) c else if i < m /\ c = 0 then .int .i64 (-7) else (A i).c c) := fun i _ c _ => by
 by_cases e : c = 0
 ·subst e
  by_cases e2 : i = m
  ·rw [if_pos ⟨by omega,rfl⟩,if_pos ⟨e2,by omega,by omega⟩]; exact BB _
  rw [if_neg (show ¬ (i = m /\ 0 <= 0 /\ 0 < 1) from fun h => e2 h.1)]
  by_cases e3 : i < m
  ·rw [if_pos ⟨by omega,rfl⟩,if_pos ⟨e3,rfl⟩]; exact BB _
  rw [if_neg (by omega),if_neg (by omega)]; exact BB _
 rw [if_neg (fun h => e h.2),if_neg (by omega),if_neg (fun h => e h.2)]; exact BB _
noncomputable def V8 : Ay := Aj (Af JS (Af (DQ Fx) (Af TI (Af TI AV)))) (fun _ => True) fun _ => .bool true
noncomputable abbrev c2 : List (FuncId × Ay) := [(47,ES),(49,Mx),(50,L0),(14,Gh),(15,FU),(17,Fd),(18,Fc),(19,E9),(20,OR),(21,Pt),(22,DO),(23,Gt),(24,E4)]
set_option maxHeartbeats 4000000 in
theorem VH : Ai Tryz.prog G 3 V8 := by
 refine Ij mixed (S := c2) (I := [(16,Xl),(48,ZR),(85,ZG)]) (X := []) (N := []) (C := []) (.cons RG (.cons WP (.cons XU (.cons UA (.cons Re (.cons Rm (.cons RX (.cons Qi (.cons Y6 (.cons Y3 (.cons TB (.cons Uh (.cons Qz .nil))))))))))))) (.cons Tryz.func16 c16 (.cons Tryz.func48 c48 (.cons Tryz.func85 c85 .nil))) .nil Tryz.func3 c3 (fun a _ hw => ?_)
 obtain ⟨r,l,d,mi,u⟩ := a
 simp only [Af,AV,reduceCtorEq,Nat.reduceSub,Nat.reducePow,go_sem] at hw
 obtain ⟨w1,w2⟩ := hw
 by_cases hg : NG r l = true
 ·simp only [a3,Gh,Af,AV,hg,w1,w2,↓reduceIte,reduceCtorEq,Nat.reduceEqDiff,Nat.reduceAdd,Nat.reduceSub,Int.reduceNeg,Nat.reducePow,go_sem]
 have hg : NG r l = false := by simpa using hg
 have hG : ¬ (80 < r.holds.1 \/ 80 < l.1 \/ ∃ i,i < l.1 /\ 12 < (l.2 i).heirs.1) := Kl hg
 have g1 : r.holds.1 <= 80 := by have := fun h => hG (.inl h); omega
 have g2 : l.1 <= 80 := by have := fun h => hG (.inr (.inl h)); omega
 have g3 : ∀ i,i < l.1 -> (l.2 i).heirs.1 <= 12 := fun i hi => Nat.le_of_not_lt fun h => hG (.inr (.inr ⟨i,hi,h⟩))
 have n0 : ∀ i : Nat,(i < 0) = False := fun i => eq_false (Nat.not_lt_zero i)
 have nz : ∀ i : Nat,i - 0 = i := Nat.sub_zero
 have bl : (r.holds.1 * 24 <= 140737488355328) = True := eq_true (by omega)
 have b0 : F4 r l = True := eq_true ⟨g2,g3⟩
 have b2 : (∀ i : Nat,i < l.1 -> (l.2 i).heirs.1 <= 12) = True := eq_true g3
 have b1 : (l.1 <= 80) = True := eq_true g2
 by_cases h0 : BS r l = 0
 ·have f0 : (BS r l = 0) = True := eq_true h0
  have ha := Dn h0
  have hr := ha.1
  by_cases hd : 0 <= d /\ d <= 100000
  ·have b9 : (0 <= d /\ d <= 100000) = True := eq_true hd
   have c0 : AE r <= 23040 := by unfold AE; have := hr.1; have := hr.2.1; omega
   have b3 : ∀ i,i < Bv (D1 l) d -> DG r ((D1 l).2 i) := fun i hi => by
    have hU : Bv (D1 l) d <= (D1 l).1 := by have := A7 (fun i => d < ((D1 l).2 i).day) (D1 l).1; unfold Bv; omega
    obtain ⟨k,k1,_,k2⟩ := Gp l i (by omega)
    rw [k2]; exact ha.2.2.1 k k1
   obtain ⟨hP,b6⟩ := Hn (r := r) (l := (D1 l).2) hr (Bv (D1 l) d) b3
   have hP : By (AE r) (Jc r l d) := hP
   have b6 : Rp (Jc r l d) (GZ r l d) := b6
   generalize b4 : Jc r l d = P at hP b6
   generalize b5 : GZ r l d = b at b6
   have b7 := hP.len
   have b8 : (P.1 <= 9223372036854775807) = True := eq_true (by omega)
   have zo := VI (f := b.ow.2) (k := fun p => p.owner) hP fun i hi m m1 m2 => b6.ow i hi m m1 m2
   have zu := VI (f := fun m => Fy b m d) (k := fun p => GK p d) hP fun i hi m m1 m2 => (NZ b6 d hi m1 m2).symm
   simp only [a3,Xl,ZR,ZG,Gh,FU,ES,Mx,WH,Aj,Af,AV,hg,h0,b9,n0,nz,bl,w1,w2,b1,b2,b4,b8,↓reduceIte,reduceCtorEq,Nat.reduceEqDiff,Nat.reduceAdd,Nat.reduceSub,Nat.reduceLeDiff,Nat.reduceLT,Int.reduceToNat,Int.reduceLE,Int.reduceNeg,Nat.reducePow,go_sem]
   intro g
   refine ⟨by have := hP.pos; omega,?_⟩
   refine FL (ι := Nat) (fun i => i <= P.1) (fun i => P.1 - i) [0,1,2,4,20,21] (fun i => [(22,.int .i64 i)]) (fun i => [(9,.cells (Ed b.ow.2 P (P.2 0).owner i).L),(4,.cells (.cons (.own (.n 10)) .nil)),(10,.row 47 3 ((As b.ow.2 (Bg P i)).1 - 1) fun a c => ((As b.ow.2 (Bg P i)).2 a).c c)]) 1 0 (Nat.zero_le _) (by
    simp only [Ed,Bg,As,↓reduceIte,reduceCtorEq,Nat.reduceEqDiff,Nat.reduceAdd,Nat.reduceLT,go_sem]) fun i hi => ?_
   rcases Nat.lt_or_ge i P.1 with a0 | a1
   ·have f1 : ((i : Int) < (P.1 : Int)) = True := eq_true (by omega)
    by_cases he : (P.2 i).owner = (Ed b.ow.2 P (P.2 0).owner i).who
    ·have f2 : ((P.2 i).owner = (Ed b.ow.2 P (P.2 0).owner i).who) = True := eq_true he
     simp only [f1,f2,Mx,Aj,Af,AV,↓reduceIte,reduceCtorEq,Nat.reduceEqDiff,Nat.reduceAdd,Nat.reduceSub,Nat.reduceLeDiff,Nat.reduceLT,Int.reduceNeg,Nat.reducePow,go_sem]
     obtain ⟨z1,z2,z3⟩ := zo.same i a0 he
     refine ⟨by omega,?_⟩
     refine Ad (i + 1) a0 (by omega) ?_
     simp only [z1,z3,↓reduceIte,reduceCtorEq,Nat.reduceEqDiff,Nat.reduceLT,go_sem]
     exact ⟨BV (by omega),fun j hj c _ => by rw [z2 j hj]; exact BB _⟩
    have f2 : ((P.2 i).owner = (Ed b.ow.2 P (P.2 0).owner i).who) = False := eq_false he
    obtain ⟨z0,z1,z2,z3,z4⟩ := zo.new i a0 he
    simp only [f1,f2,Mx,Aj,Af,AV,↓reduceIte,reduceCtorEq,Nat.reduceEqDiff,Nat.reduceAdd,Nat.reduceSub,Nat.reduceLeDiff,Nat.reduceLT,Int.reduceNeg,Nat.reducePow,go_sem]
    have a2 := C0 b.ow.2 (Bg P i)
    have a4 := zo.le i hi
    refine ⟨by omega,by omega,by omega,?_⟩
    refine Ad (i + 1) a0 (by omega) ?_
    simp only [z1,z4,↓reduceIte,reduceCtorEq,Nat.reduceEqDiff,Nat.reduceLT,go_sem]
    exact ⟨BV (by omega),TM z2 z3⟩
   have f1 : ((i : Int) < (P.1 : Int)) = False := eq_false (by omega)
   obtain rfl : i = P.1 := by omega
   simp only [f1,b8,L0,Aj,Af,AV,↓reduceIte,reduceCtorEq,Nat.reduceEqDiff,Nat.reduceAdd,Nat.reduceSub,Nat.reduceLeDiff,Nat.reduceLT,Int.reduceToNat,Int.reduceLE,Int.reduceNeg,Nat.reducePow,go_sem]
   have a2 := C0 b.ow.2 (Bg P P.1)
   have a4 := zo.le P.1 (Nat.le_refl _)
   refine ⟨by omega,by omega,?_⟩
   intro g2
   refine ⟨by have := hP.pos; omega,?_⟩
   have a7 := hP.pos
   have a8 := zo.pos P.1 (by omega) (Nat.le_refl _)
   refine FL (ι := Nat) (fun i => i <= P.1) (fun i => P.1 - i) [0,1,2,4,20,21] (fun i => [(22,.int .i64 i)]) (fun i => [(16,.cells (Ed (fun m => Fy b m d) P (GK (P.2 0) d) i).L),(5,.cells (.cons (.own (.n 17)) .nil)),(10,.row 47 3 (As b.ow.2 (AE r)).1 fun a c => ((As b.ow.2 (AE r)).2 a).c c),(17,.row 47 3 ((As (fun m => Fy b m d) (Bg P i)).1 - 1) fun a c => ((As (fun m => Fy b m d) (Bg P i)).2 a).c c)]) 1 0 (Nat.zero_le _) (by
    have e0 : Bg P 0 = 0 := rfl
    have e1 : Ed (fun m => Fy b m d) P (GK (P.2 0) d) 0 = ⟨GK (P.2 0) d,⟨0,0⟩⟩ := rfl
    have e2 : ∀ f : Nat -> Int,(As f 0).1 = 0 := fun _ => rfl
    simp only [e0,e1,e2,↓reduceIte,reduceCtorEq,Nat.reduceEqDiff,Nat.reduceAdd,Nat.reduceLT,go_sem]
    exact YX hP.pos zo) fun i hi => ?_
   rcases Nat.lt_or_ge i P.1 with a0 | a1
   ·have f1 : ((i : Int) < (P.1 : Int)) = True := eq_true (by omega)
    by_cases he : GK (P.2 i) d = (Ed (fun m => Fy b m d) P (GK (P.2 0) d) i).who
    ·have f2 : (GK (P.2 i) d = (Ed (fun m => Fy b m d) P (GK (P.2 0) d) i).who) = True := eq_true he
     simp only [f1,f2,L0,Aj,Af,AV,↓reduceIte,reduceCtorEq,Nat.reduceEqDiff,Nat.reduceAdd,Nat.reduceSub,Nat.reduceLeDiff,Nat.reduceLT,Int.reduceNeg,Nat.reducePow,go_sem]
     obtain ⟨z1,z2,z3⟩ := zu.same i a0 he
     refine ⟨by omega,?_⟩
     refine Ad (i + 1) a0 (by omega) ?_
     simp only [z1,z3,↓reduceIte,reduceCtorEq,Nat.reduceEqDiff,Nat.reduceLT,go_sem]
     exact ⟨BV (by omega),fun j hj c _ => by rw [z2 j hj]; exact BB _⟩
    have f2 : (GK (P.2 i) d = (Ed (fun m => Fy b m d) P (GK (P.2 0) d) i).who) = False := eq_false he
    obtain ⟨z0,z1,z2,z3,z4⟩ := zu.new i a0 he
    simp only [f1,f2,L0,Aj,Af,AV,↓reduceIte,reduceCtorEq,Nat.reduceEqDiff,Nat.reduceAdd,Nat.reduceSub,Nat.reduceLeDiff,Nat.reduceLT,Int.reduceNeg,Nat.reducePow,go_sem]
    have a2 := C0 (fun m => Fy b m d) (Bg P i)
    have a4 := zu.le i hi
    refine ⟨by omega,by omega,by omega,?_⟩
    refine Ad (i + 1) a0 (by omega) ?_
    simp only [z1,z4,↓reduceIte,reduceCtorEq,Nat.reduceEqDiff,Nat.reduceLT,go_sem]
    exact ⟨BV (by omega),TM z2 z3⟩
   have f1 : ((i : Int) < (P.1 : Int)) = False := eq_false (by omega)
   obtain rfl : i = P.1 := by omega
   have a5 := C0 (fun m => Fy b m d) (Bg P P.1)
   have a6 := zu.le P.1 (Nat.le_refl _)
   have hx := QQ (YS hP.pos zu)
   simp only [reduceCtorEq,go_sem] at hx
   rcases Classical.propComplete (0 <= mi /\ mi <= (AE r : Int) - 1) with fm | fm
   all_goals
    simp only [f1,hx,h0,b9,fm,b0,b5,w1,w2,Fd,Fc,E9,OR,Pt,DO,Gt,CQ,Aj,Af,AV,G1,L8,implies_true,↓reduceIte,reduceCtorEq,Nat.reduceEqDiff,Nat.reduceAdd,Nat.reduceSub,Nat.reduceLeDiff,Nat.reduceLT,Int.reduceNeg,Nat.reducePow,go_sem]
    refine ⟨by omega,by omega,?_⟩
    repeat' intro _
    refine ⟨Oz _ _ _,?_⟩
    repeat' intro _
    have c1 := C0 b.ow.2 (AE r)
    refine AJ (ι := Nat) (fun j => j <= (As b.ow.2 (AE r)).1) (fun j => (As b.ow.2 (AE r)).1 - j) [1,4,9,10,11,27,127,128] (fun j => [(129,.int .i64 j)]) (fun j => [(10,.row 47 3 (As b.ow.2 (AE r)).1 fun a c => if a < j /\ c = 0 then .int .i64 (-7) else ((As b.ow.2 (AE r)).2 a).c c)]) 0 (Nat.zero_le _) (by
     simp only [n0,false_and,↓reduceIte,reduceCtorEq,Nat.reduceEqDiff,Nat.reduceLT,go_sem]) fun j hj => ?_
    rcases Nat.lt_or_ge j (As b.ow.2 (AE r)).1 with a0 | a1
    ·have f2 : ((j : Int) < ((As b.ow.2 (AE r)).1 : Int)) = True := eq_true (by omega)
     simp only [f2,↓reduceIte,reduceCtorEq,Nat.reduceEqDiff,Nat.reduceLeDiff,Int.reduceNeg,go_sem]
     refine ⟨by omega,Ad (j + 1) a0 (by omega) ?_⟩
     simp only [↓reduceIte,reduceCtorEq,Nat.reduceEqDiff,Nat.reduceLT,Int.reduceNeg,go_sem]
     exact ⟨BV (by omega),Xq _ _⟩
    have f2 : ((j : Int) < ((As b.ow.2 (AE r)).1 : Int)) = False := eq_false (by omega)
    simp only [f2,DO,E4,CQ,EK,Gf,w1,w2,implies_true,↓reduceIte,reduceCtorEq,Nat.reduceEqDiff,Nat.reduceAdd,Nat.reduceSub,Int.reduceNeg,Nat.reducePow,go_sem]
  have b9 : (0 <= d /\ d <= 100000) = False := eq_false hd
  simp only [a3,Xl,Gh,FU,ES,Fd,Fc,E9,OR,Pt,DO,Gt,CQ,Aj,Af,AV,G1,L8,implies_true,hg,h0,b9,b0,n0,nz,bl,w1,w2,b1,b2,↓reduceIte,reduceCtorEq,Nat.reduceEqDiff,Nat.reduceAdd,Nat.reduceSub,Nat.reduceLeDiff,Nat.reduceLT,Int.reduceNeg,Int.reduceBNe,Nat.reducePow,go_sem]
  repeat' intro _
  refine AJ (ι := Nat) (fun j => j = 0) (fun j => 0) [1,4,9,10,11,27,127,128] (fun j => [(129,.int .i64 0)]) (fun j => []) 0 rfl (by
   simp only [↓reduceIte,reduceCtorEq,Nat.reduceEqDiff,Nat.reduceLT,go_sem]) fun j hj => ?_
  have f2 : ((0 : Int) < 0) = False := eq_false (by omega)
  simp only [f2,DO,E4,CQ,EK,Gf,w1,w2,implies_true,↓reduceIte,reduceCtorEq,Nat.reduceEqDiff,Nat.reduceAdd,Nat.reduceSub,Int.reduceNeg,Nat.reducePow,go_sem]
 have f0 : (BS r l = 0) = False := eq_false h0
 simp only [a3,Xl,Gh,FU,ES,Fd,Fc,E9,OR,Pt,DO,Gt,CQ,Aj,Af,AV,G1,L8,implies_true,hg,f0,b0,n0,nz,bl,w1,w2,b1,b2,↓reduceIte,reduceCtorEq,Nat.reduceEqDiff,Nat.reduceAdd,Nat.reduceSub,Nat.reduceLeDiff,Nat.reduceLT,Int.reduceNeg,Nat.reducePow,go_sem]
 repeat' intro _
 refine AJ (ι := Nat) (fun j => j = 0) (fun j => 0) [1,4,9,10,11,27,127,128] (fun j => [(129,.int .i64 0)]) (fun j => []) 0 rfl (by
  simp only [↓reduceIte,reduceCtorEq,Nat.reduceEqDiff,Nat.reduceLT,go_sem]) fun j hj => ?_
 have f2 : ((0 : Int) < 0) = False := eq_false (by omega)
 simp only [f2,DO,E4,CQ,EK,Gf,w1,w2,implies_true,↓reduceIte,reduceCtorEq,Nat.reduceEqDiff,Nat.reduceAdd,Nat.reduceSub,Int.reduceNeg,Nat.reducePow,go_sem]
theorem MM : Ai Tryz.prog G 3 (IV JS (DQ Fx) TI TI (fun _ _ _ _ => True) fun _ _ _ _ => .bool true) := by
 have h := VH (G := G)
 refine ⟨h.ent,fun A w v s g q p => ?_⟩
 match v,q,p with
 | [a,b,c,d],q,p => exact h.run A w [a,b,c,d] s g q ⟨⟨p.1,p.2.1,p.2.2.1,p.2.2.2.1,trivial⟩,trivial⟩
end Go.Proofs.YtlieoghhkioflaaGreat
