/- Deeds: the reference's book, plain. No condition. -/
import Derived.Test.YtlieoghhkioflaaGreatDr3
set_option linter.unusedSimpArgs false
set_option linter.unusedVariables false
set_option maxRecDepth 100000
namespace Go.Proofs.YtlieoghhkioflaaGreat
variable {b : Bk} {n : Nat} {r : Ro}
def AE (r : Ro) : Nat := (1440 * r.days).toNat
noncomputable def K5 (r : Ro) (m : Nat) : Int := (r.holds.2 (Ci (fun i => (m : Int) < (r.holds.2 i).turn.til) r.holds.1)).who
noncomputable def Ud (r : Ro) : Bk := ⟨(AE r,K5 r),(AE r,fun _ => 0),(AE r,fun _ => 0),(10000,fun _ => false)⟩
def Cm (de : Nat -> Bool) (l : Nat × (Nat -> Hr)) : Nat -> List Hr
 | 0 => []
 | k + 1 => if de (l.2 k).who.toNat = true then Cm de l k else Cm de l k ++ [l.2 k]
def Fm (b : Bk) (x : De) : Nat -> Bool := fun i => if i = x.fro.toNat then true else b.de.2 i
def Bm (b : Bk) (x : De) : List Hr := if (Cm (Fm b x) x.heirs x.heirs.1).length = 0 then [⟨0,1⟩] else Cm (Fm b x) x.heirs x.heirs.1
def hl (L : List Hr) (i : Nat) : Hr := L.getD i ⟨0,0⟩
def Bq (b : Bk) (x : De) (m : Nat) : Nat := D6 (fun q => decide (b.ow.2 q = x.fro)) m
def AA (b : Bk) (x : De) (i : Nat) : Int := DZ (Bq b x b.ow.1) (fun i => (hl (Bm b x) i).parts) (Bm b x).length i
noncomputable def D3 (each : Nat -> Int) (k : Nat) (c : Nat) : Nat := Ci (fun i => (c : Int) < Aw each (i + 1)) k
noncomputable def FH (b : Bk) (x : De) : Bk := ⟨(b.ow.1,fun m => if b.ow.2 m = x.fro then (hl (Bm b x) (D3 (AA b x) (Bm b x).length (Bq b x m))).who else b.ow.2 m),(b.le.1,fun m => if b.le.2 m = x.fro then 0 else b.le.2 m),b.un,(b.de.1,Fm b x)⟩
def Fh (x : De) (m : Nat) : Prop := x.turn.fro <= m /\ (m : Int) < x.turn.til
instance (x : De) (m : Nat) : Decidable (Fh x m) := by unfold Fh; infer_instance
noncomputable def K7 (b : Bk) (x : De) : Bk :=
 if x.kind = 3 then FH b x else if x.kind = 1 then ⟨(b.ow.1,fun m => if Fh x m then x.tow else b.ow.2 m),b.le,b.un,b.de⟩
 else if x.kind = 2 then ⟨(b.ow.1,fun m => if Fh x m then 0 else b.ow.2 m),b.le,b.un,b.de⟩
 else if x.kind = 4 then ⟨b.ow,(b.le.1,fun m => if Fh x m then x.tow else b.le.2 m),(b.un.1,fun m => if Fh x m then x.til else b.un.2 m),b.de⟩ else b
noncomputable def FN (b : Bk) (x : De) : Bk := if CB b x = 0 then K7 b x else b
noncomputable def Dh (r : Ro) (l : Nat -> De) : Nat -> Bk
 | 0 => Ud r
 | k + 1 => FN (Dh r l k) (l k)
noncomputable def Bv (l : J3) (day : Int) : Nat := Ci (fun i => day < (l.2 i).day) l.1
theorem Lk (r : Ro) (i : Nat) : FA r (i + 1) = (r.holds.2 i).turn.til := by
 unfold FA; rw [if_neg (by omega),Nat.add_sub_cancel]
theorem HR (h : ∀ i,i < n -> VE r i) : ∀ i,i <= n -> ∀ j,j < i -> (r.holds.2 j).turn.til <= FA r i
 | 0,_,j,hj => by omega
 | i + 1,hi,j,hj => by
  have h1 := h i (by omega)
  rw [Lk]
  by_cases e : j = i
  ·subst e; exact Int.le_refl _
  have := HR h i (by omega) j (by omega)
  have h2 := h1.2.2.1; have h3 := h1.2.2.2.1
  omega
theorem Oc (h : ∀ i,i < n -> VE r i) : ∀ i,i <= n -> 0 <= FA r i
 | 0,_ => Int.le_refl _
 | i + 1,hi => by
  have h1 := h i (by omega)
  have := Oc h i (by omega)
  have h2 := h1.2.2.1; have h3 := h1.2.2.2.1
  rw [Lk]; omega
theorem Tf (hr : Fq r) {i m : Nat} (hi : i < r.holds.1) (h1 : FA r i <= m) (h2 : (m : Int) < (r.holds.2 i).turn.til) : K5 r m = (r.holds.2 i).who := by
 unfold K5
 rw [DT hi h2 fun j hj h => by have := HR hr.2.2.2.2.1 i (by omega) j hj; omega]
theorem Tq (r : Ro) : LO (Ud r) (AE r) := ⟨rfl,rfl,rfl,rfl⟩
theorem Vx (h : LO b n) (x : De) : LO (K7 b x) n := by
 obtain ⟨h1,h2,h3,h4⟩ := h
 unfold K7
 split
 ·exact ⟨h1,h2,h3,h4⟩
 split
 ·exact ⟨h1,h2,h3,h4⟩
 split
 ·exact ⟨h1,h2,h3,h4⟩
 split
 ·exact ⟨h1,h2,h3,h4⟩
 exact ⟨h1,h2,h3,h4⟩
theorem Dx (r : Ro) (l : Nat -> De) : ∀ k,LO (Dh r l k) (AE r)
 | 0 => Tq r
 | k + 1 => by
  rw [Dh,FN]; split
  ·exact Vx (Dx r l k) _
  exact Dx r l k
theorem IR (de : Nat -> Bool) (l : Nat × (Nat -> Hr)) : ∀ k,(Cm de l k).length <= k
 | 0 => Nat.le_refl _
 | k + 1 => by
  have := IR de l k
  rw [Cm]; split
  ·omega
  simp; omega
theorem IK (de : Nat -> Bool) (l : Nat × (Nat -> Hr)) : ∀ k,∀ h ∈ Cm de l k,∃ i,i < k /\ h = l.2 i
 | 0,h,hh => by simp [Cm] at hh
 | k + 1,h,hh => by
  rw [Cm] at hh; split at hh
  ·obtain ⟨i,h1,h2⟩ := IK de l k h hh; exact ⟨i,by omega,h2⟩
  rcases List.mem_append.1 hh with hh | hh
  ·obtain ⟨i,h1,h2⟩ := IK de l k h hh; exact ⟨i,by omega,h2⟩
  exact ⟨k,by omega,by simpa using hh⟩
theorem VC {L : List Hr} {i : Nat} (h : i < L.length) : hl L i ∈ L := by
 unfold hl; rw [List.getD_eq_getElem?_getD,List.getElem?_eq_getElem h]; exact List.getElem_mem h
theorem La {x : De} (hh : EZ x.fro x.heirs) (hf : 1 <= x.fro) : 1 <= (Bm b x).length /\ (Bm b x).length <= 8 /\ ∀ i,i < (Bm b x).length -> 0 <= (hl (Bm b x) i).who /\ (hl (Bm b x) i).who <= 9999 /\ (hl (Bm b x) i).who ≠ x.fro /\ 1 <= (hl (Bm b x) i).parts /\ (hl (Bm b x) i).parts <= 1000 := by
 obtain ⟨h1,h2,h3⟩ := hh
 have h4 := IR (Fm b x) x.heirs x.heirs.1
 unfold Bm
 split
 ·refine ⟨Nat.le_refl _,by simp,fun i hi => ?_⟩
  obtain rfl : i = 0 := by simpa using hi
  refine ⟨by decide,by decide,?_,by decide,by decide⟩
  show (0 : Int) ≠ x.fro
  omega
 refine ⟨by omega,by omega,fun i hi => ?_⟩
 obtain ⟨q,q1,q2⟩ := IK _ _ _ _ (VC hi)
 obtain ⟨g1,g2,g3,g4,g5,_⟩ := h3 q q1
 rw [q2]
 exact ⟨by omega,g2,g3,g4,g5⟩
theorem SV (b : Bk) (x : De) (m : Nat) : Bq b x m <= m := FQ _ _
theorem PS {x : De} (hh : EZ x.fro x.heirs) (hf : 1 <= x.fro) : Aw (AA b x) (Bm b x).length = Bq b x b.ow.1 /\ ∀ i,i < (Bm b x).length -> 0 <= AA b x i := by
 obtain ⟨h1,h2,h3⟩ := La (b := b) hh hf
 have hs := EN (fun _ => 1) (fun i => (hl (Bm b x) i).parts) (Bm b x).length fun i hi => (h3 i hi).2.2.2.1
 rw [DM] at hs
 exact ⟨IZ (by omega) (by omega),fun i hi => KP (by omega) (by have := (h3 i hi).2.2.2.1; omega) (by omega)⟩
theorem LH {each : Nat -> Int} {len k c : Nat} (hk : k < len) (h0 : ∀ i,i < len -> 0 <= each i) (h1 : Aw each k <= c) (h2 : (c : Int) < Aw each (k + 1)) : D3 each len c = k :=
  DT hk h2 fun j hj h => by
    have : ∀ a b : Nat,a <= b -> b <= len -> Aw each a <= Aw each b := fun a b hab hb => by
      induction b with
      | zero => obtain rfl : a = 0 := by omega
                exact Int.le_refl _
      | succ b ih =>
        by_cases e : a = b + 1
        · subst e; exact Int.le_refl _
        have := ih (by omega) (by omega); have := h0 b (by omega); rw [Aw]; omega
    have := this (j + 1) k hj (by omega)
    omega
end Go.Proofs.YtlieoghhkioflaaGreat
namespace Go.Proofs.YtlieoghhkioflaaGreat
open Go Go.RowKit
variable {x : De} {v : Int} {stk : List Au} {B k m n : Nat} {de : Nat -> Bool} {le ow un : Nat -> Int} {cw cz : Nat -> Nat -> Ae} {r : Ro} {f : Au} {Q : Ae -> Bx -> Prop}
variable {G : Nat -> Option (Nat × (Nat -> Ae))}
noncomputable abbrev UJ : List (FuncId × Ay) := [(110,Q4),(153,Nf)]
abbrev UD : List (FuncId × AC) := [(109,Vj),(111,I1),(134,U8)]
abbrev JR : Ae := .cons (.own (.n 4)) (.cons (.own (.n 5)) (.cons (.own (.n 6)) (.cons (.own (.n 7)) .nil)))
abbrev NP (r : Ro) : Ae := .cons (.int .i64 r.days) (.cons (.view 3 r.holds.1 fun a b => (r.holds.2 a).c b) .nil)
abbrev Sw (r : Ro) (n : Nat) (ow le un : Nat -> Int) (de : Nat -> Bool) (k : Nat) (cw cz : Nat -> Nat -> Ae) : Bx := [(11,.row 5 1 1 cz),(9,.cells JR),(8,.cells JR),(7,.row 4 1 10000 fun m _ => .bool (de m)),(6,.row 3 1 n fun m _ => .int .i64 (un m)),(5,.row 3 1 n fun m _ => .int .i64 (le m)),(4,.row 3 1 n fun m _ => .int .i64 (ow m)),(3,.cells JR),(2,.cells (NP r)),(1,.cells (.cons .nils (.cons .nils (.cons .nils (.cons .nils .nil))))),(0,.cells (NP r)),(10,.row 5 1 k cw)]
theorem Jx {fo : Nat} (hf : x.turn.fro = fo) (h1 : fo <= m) (h2 : (m : Int) < x.turn.til) : ∀ i,i < n -> (if Fh x i /\ i < m + 1 then v else ow i) = if i = m then v else (if Fh x i /\ i < m then v else ow i) := fun i hi => by
 unfold Fh
 by_cases e : i = m
 ·subst e; rw [if_pos rfl,if_pos ⟨⟨by omega,h2⟩,by omega⟩]
 rw [if_neg e]
 by_cases e2 : (x.turn.fro <= i /\ (i : Int) < x.turn.til) /\ i < m
 ·rw [if_pos e2,if_pos ⟨e2.1,by omega⟩]
 rw [if_neg e2,if_neg fun h => e2 ⟨h.1,by omega⟩]
theorem KK (h2 : ¬ (m : Int) < x.turn.til) : (fun i => if Fh x i /\ i < m then v else ow i) = fun i => if Fh x i then v else ow i := by
 funext i
 by_cases e : Fh x i
 ·have : i < m := by unfold Fh at e; omega
  rw [if_pos ⟨e,this⟩,if_pos e]
 rw [if_neg fun h => e h.1,if_neg e]
theorem KV (h2 : x.turn.fro = m) (i : Nat) : (if Fh x i /\ i < m then v else ow i) = ow i := by
 unfold Fh
 exact if_neg fun h => by omega
theorem NL (L : List Hr) (y : Hr) (i : Nat) : hl (L ++ [y]) i = if i < L.length then hl L i else if i = L.length then y else ⟨0,0⟩ := by
 unfold hl
 rw [List.getD_eq_getElem?_getD,List.getElem?_append]
 by_cases e : i < L.length
 ·rw [if_pos e,if_pos e,List.getD_eq_getElem?_getD]
 rw [if_neg e,if_neg e]
 by_cases e2 : i = L.length
 ·subst e2; rw [if_pos rfl,Nat.sub_self]; rfl
 rw [if_neg e2,show i - L.length = (i - L.length - 1) + 1 by omega]; rfl
theorem XC (p : Hr -> Int) (L : List Hr) (y : Hr) : ∀ i,i < L.length + 1 -> ∀ b,b < 1 -> (if i < L.length then Ae.int .i64 (p (hl L i)) else Aq (Aq (.cons (.cons (.int .i64 (p y)) .nil) .nil) (i - L.length)) b) = .int .i64 (p (hl (L ++ [y]) i)) := fun i hi b hb => by
 obtain rfl : b = 0 := by omega
 rw [NL]
 by_cases e : i < L.length
 ·rw [if_pos e,if_pos e]
 obtain rfl : i = L.length := by omega
 rw [if_neg e,if_neg e,if_pos rfl,Nat.sub_self]; rfl
theorem RJ (hB : 200 <= B) (hn : n <= 23040) (hx : Rb n x) (hv : x.kind = 1 /\ v = x.tow \/ x.kind = 2 /\ v = 0)
  (hK : ∀ B',B <= B' + 200 -> Az (MU G UJ UD) Q B' f.K stk f.res (Ah f.fr f.d (.tup .nil)) ((13,.cells x.L) :: (12,.cells JR) :: Sw r n (fun m => if Fh x m then v else ow m) le un de k cw cz) 14) :
  Az (MU G UJ UD) Q B [.code I1.code] (f :: stk) I1.res (params 0 [.agg JR,.agg x.L]) (Sw r n ow le un de k cw cz) 12 := by
 obtain ⟨d1,d2,d3,d4,d5,d6⟩ := hx
 obtain ⟨B,rfl⟩ : ∃ m,B = m + 150 := ⟨B - 150,by omega⟩
 obtain ⟨fo,hf⟩ : ∃ fo : Nat,x.turn.fro = fo := ⟨x.turn.fro.toNat,by omega⟩
 have hb := fun i => KV (x := x) hf (v := v) (ow := ow) i
 have k3 : (x.kind = 3) = False := eq_false (by omega)
 simp only [I1,k3,hf,Sw,JR,NP,↓reduceIte,reduceCtorEq,Nat.reduceEqDiff,Nat.reduceAdd,Nat.reduceSub,Nat.reduceLeDiff,Nat.reducePow,go_sem]
 refine AJ (ι := Nat) (fun m => fo <= m /\ (m <= x.turn.til \/ m = fo)) (fun m => x.turn.til.toNat - m) [2,3] (fun m => [(4,.int .i64 m)]) (fun m => [(4,.row 3 1 n fun i _ => .int .i64 (if Fh x i /\ i < m then v else ow i))]) fo ⟨Nat.le_refl _,.inr rfl⟩ (by
  simp only [hb,↓reduceIte,reduceCtorEq,Nat.reduceEqDiff,Nat.reduceLT,go_sem]
  trace_state) fun m hm => ?_
 obtain ⟨m1,m2⟩ := hm
 simp only [↓reduceIte,Nat.reduceEqDiff,Nat.reduceAdd,Nat.reduceSub,Nat.reduceLeDiff,go_sem]
 refine ⟨fun h1 => ?_,fun h1 => ?_⟩
 ·have st := Jx hf m1 h1 (n := n) (v := v) (ow := ow)
  rcases hv with ⟨hk,hv⟩ | ⟨hk,hv⟩
  all_goals
   simp only [hk,Int.reduceEq,Int.reduceBEq,go_sem]
   repeat (with_reducible refine And.intro (by omega) ?_)
   refine Ad (m + 1) ⟨by omega,.inl (by omega)⟩ (by omega) ?_
   simp only [↓reduceIte,reduceCtorEq,Nat.reduceEqDiff,Nat.reduceLT,go_sem]
   rw [BV (by omega)]
   subst hv
   exact ⟨rfl,Gy st⟩
 have q := hK (B + 115) (by omega)
 rw [<- KK h1] at q
 rw [<- hf]
 exact q
theorem Wj (hB : 200 <= B) (hn : n <= 23040) (hx : Rb n x) (hv : x.kind = 4)
  (hK : ∀ B',B <= B' + 200 -> Az (MU G UJ UD) Q B' f.K stk f.res (Ah f.fr f.d (.tup .nil)) ((13,.cells x.L) :: (12,.cells JR) :: Sw r n ow (fun m => if Fh x m then x.tow else le m) (fun m => if Fh x m then x.til else un m) de k cw cz) 14) :
  Az (MU G UJ UD) Q B [.code I1.code] (f :: stk) I1.res (params 0 [.agg JR,.agg x.L]) (Sw r n ow le un de k cw cz) 12 := by
 obtain ⟨d1,d2,d3,d4,d5,d6⟩ := hx
 obtain ⟨B,rfl⟩ : ∃ m,B = m + 150 := ⟨B - 150,by omega⟩
 obtain ⟨fo,hf⟩ : ∃ fo : Nat,x.turn.fro = fo := ⟨x.turn.fro.toNat,by omega⟩
 have hb := fun i => KV (x := x) hf (v := x.tow) (ow := le) i
 have hb' := fun i => KV (x := x) hf (v := x.til) (ow := un) i
 have k3 : (x.kind = 3) = False := eq_false (by omega)
 simp only [I1,k3,hf,Sw,JR,NP,↓reduceIte,reduceCtorEq,Nat.reduceEqDiff,Nat.reduceAdd,Nat.reduceSub,Nat.reduceLeDiff,Nat.reducePow,go_sem]
 refine AJ (ι := Nat) (fun m => fo <= m /\ (m <= x.turn.til \/ m = fo)) (fun m => x.turn.til.toNat - m) [2,3] (fun m => [(4,.int .i64 m)]) (fun m => [(5,.row 3 1 n fun i _ => .int .i64 (if Fh x i /\ i < m then x.tow else le i)),(6,.row 3 1 n fun i _ => .int .i64 (if Fh x i /\ i < m then x.til else un i))]) fo ⟨Nat.le_refl _,.inr rfl⟩ (by
  simp only [hb,hb',↓reduceIte,reduceCtorEq,Nat.reduceEqDiff,Nat.reduceLT,go_sem]) fun m hm => ?_
 obtain ⟨m1,m2⟩ := hm
 simp only [↓reduceIte,Nat.reduceEqDiff,Nat.reduceAdd,Nat.reduceSub,Nat.reduceLeDiff,go_sem]
 refine ⟨fun h1 => ?_,fun h1 => ?_⟩
 ·have st := Jx hf m1 h1 (n := n) (v := x.tow) (ow := le)
  have st' := Jx hf m1 h1 (n := n) (v := x.til) (ow := un)
  simp only [hv,Int.reduceEq,Int.reduceBEq,go_sem]
  repeat (with_reducible refine And.intro (by omega) ?_)
  refine Ad (m + 1) ⟨by omega,.inl (by omega)⟩ (by omega) ?_
  simp only [↓reduceIte,reduceCtorEq,Nat.reduceEqDiff,Nat.reduceLT,go_sem]
  rw [BV (by omega)]
  exact ⟨rfl,Gy st',Gy st⟩
 have q := hK (B + 115) (by omega)
 rw [<- KK h1,<- KK h1] at q
 rw [<- hf]
 exact q
theorem S5 (hB : 400 <= B) (hn : n <= 23040) (hx : Rb n x) (hv : x.kind = 3) (hh : EZ x.fro x.heirs) (hf1 : 1 <= x.fro) (HS1 : ∀ z v,12 <= z -> AP (.n z) v f.fr = f.fr) (HS2 : ∀ z v,12 <= z -> AD (.n z) v stk = stk)
    (hKa : ∀ B',B <= B' + 400 -> ∀ (c : Nat -> Cq) ow' le',(∀ i,i < n -> ow' i = (FH ⟨(n,ow),(n,le),(n,un),(10000,de)⟩ x).ow.2 i) -> (∀ i,i < n -> le' i = (FH ⟨(n,ow),(n,le),(n,un),(10000,de)⟩ x).le.2 i) -> Az (MU G UJ UD) Q B' f.K stk f.res (Ah f.fr f.d (.tup .nil)) ([(20,.one (c 20)),(19,.one (c 19)),(18,.one (c 18)),(15,.one (c 15)),(14,.one (c 14)),(13,.one (c 13)),(12,.one (c 12))] ++ Sw r n ow' le' un (Fm ⟨(n,ow),(n,le),(n,un),(10000,de)⟩ x) k cw cz ++ [(17,.one (c 17)),(16,.one (c 16))]) 21)
    (hKb : ∀ B',B <= B' + 400 -> ∀ (c : Nat -> Cq) ow' le',(∀ i,i < n -> ow' i = (FH ⟨(n,ow),(n,le),(n,un),(10000,de)⟩ x).ow.2 i) -> (∀ i,i < n -> le' i = (FH ⟨(n,ow),(n,le),(n,un),(10000,de)⟩ x).le.2 i) -> Az (MU G UJ UD) Q B' f.K stk f.res (Ah f.fr f.d (.tup .nil)) ([(18,.one (c 18)),(15,.one (c 15)),(14,.one (c 14)),(13,.one (c 13)),(12,.one (c 12))] ++ Sw r n ow' le' un (Fm ⟨(n,ow),(n,le),(n,un),(10000,de)⟩ x) k cw cz ++ [(17,.one (c 17)),(16,.one (c 16))]) 19) :
    Az (MU G UJ UD) Q B [.code I1.code] (f :: stk) I1.res (params 0 [.agg JR,.agg x.L]) (Sw r n ow le un de k cw cz) 12 := by
  obtain ⟨d1,d2,d3,d4,d5,d6⟩ := hx
  obtain ⟨B,rfl⟩ : ∃ m,B = m + 350 := ⟨B - 350,by omega⟩
  obtain ⟨h1,h2,h3⟩ := hh
  have hhl : (x.heirs.1 <= 9223372036854775807) = True := eq_true (by omega)
  simp only [I1,U8,hv,hhl,Sw,JR,NP,↓reduceIte,reduceCtorEq,Nat.reduceEqDiff,Nat.reduceAdd,Nat.reduceSub,Nat.reduceLeDiff,Nat.reducePow,go_sem]
  repeat (with_reducible refine And.intro (by omega) ?_)
  obtain ⟨b,hb⟩ : ∃ b : Bk,b = ⟨(n,ow),(n,le),(n,un),(10000,de)⟩ := ⟨_,rfl⟩
  rw [<- hb] at hKa hKb
  have hdx : ∀ i,Fm b x i = if i = x.fro.toNat then true else de i := fun i => by rw [hb]; rfl
  have hbow : b.ow.2 = ow := by rw [hb]
  have hbl : b.ow.1 = n := by rw [hb]
  have hL8 := IR (Fm b x) x.heirs
  have hX := La (b := b) ⟨h1,h2,h3⟩ hf1
  have hS := PS (b := b) ⟨h1,h2,h3⟩ hf1
  refine FL (ι := Nat) (fun j => j <= x.heirs.1) (fun j => x.heirs.1 - j) [2,3] (fun j => [(4,.own (.n 16)),(5,.own (.n 17)),(6,.int .i64 j)]) (fun j => [(16,.row 3 1 (Cm (Fm b x) x.heirs j).length fun i _ => .int .i64 (hl (Cm (Fm b x) x.heirs j) i).who),(17,.row 3 1 (Cm (Fm b x) x.heirs j).length fun i _ => .int .i64 (hl (Cm (Fm b x) x.heirs j) i).parts),(7,.row 4 1 10000 fun m _ => .bool (Fm b x m))]) 2 0 (by omega) (by
    simp only [Cm,List.length_nil,hdx,↓reduceIte,reduceCtorEq,Nat.reduceEqDiff,Nat.reduceAdd,Nat.reduceLT,go_sem]
    intro i hi j hj
    obtain rfl : j = 0 := by omega
    by_cases e : i = x.fro.toNat
    · rw [if_pos ⟨e,Nat.le_refl _,hj⟩,if_pos e]; rfl
    rw [if_neg fun h => e h.1,if_neg e]) fun j hj => ?_
  simp only [hhl,HS1,HS2,↓reduceIte,reduceCtorEq,Nat.reduceEqDiff,Nat.reduceAdd,Nat.reduceSub,Nat.reduceLeDiff,Nat.reduceLT,Nat.reducePow,go_sem]
  refine ⟨fun hlt => ?_,fun hge => ?_⟩
  · have hj1 : j < x.heirs.1 := by omega
    have g := h3 j hj1
    have g1 := g.1; have g2 := g.2.1
    have g3 := hL8 j
    refine ⟨by omega,by omega,by omega,by omega,fun h4 => ?_,fun h4 => ?_⟩
    · have hA : Cm (Fm b x) x.heirs (j + 1) = Cm (Fm b x) x.heirs j ++ [x.heirs.2 j] := by rw [Cm,h4]; rfl
      repeat (with_reducible refine And.intro (by omega) ?_)
      refine Ad (j + 1) (by omega) (by omega) ?_
      simp only [↓reduceIte,reduceCtorEq,Nat.reduceEqDiff,Nat.reduceLT,go_sem]
      rw [BV (by omega),hA,List.length_append]
      exact ⟨rfl,rfl,XC (·.parts) _ _,rfl,XC (·.who) _ _⟩
    have hA : Cm (Fm b x) x.heirs (j + 1) = Cm (Fm b x) x.heirs j := by rw [Cm,h4]; rfl
    refine Ad (j + 1) (by omega) (by omega) ?_
    simp only [hA,↓reduceIte,reduceCtorEq,Nat.reduceEqDiff,Nat.reduceLT,go_sem]
    rw [BV (by omega)]
  obtain rfl : j = x.heirs.1 := by omega
  refine AJ (ι := Nat) (fun m => m <= n) (fun m => n - m) [2,3,4,5] (fun m => [(8,.int .i64 m),(7,.int .i64 (Bq b x m))]) (fun m => [(5,.row 3 1 n fun q _ => .int .i64 (if q < m /\ le q = x.fro then 0 else le q))]) 0 (Nat.zero_le _) (by
    simp only [Nat.not_lt_zero,false_and,Bq,D6,↓reduceIte,reduceCtorEq,Nat.reduceEqDiff,Nat.reduceLT,go_sem]
    trace_state) fun m hm => ?_
  simp only [Nf,↓reduceIte,reduceCtorEq,Nat.reduceEqDiff,Nat.reduceAdd,Nat.reduceSub,Nat.reduceLeDiff,Nat.reduceLT,Nat.reducePow,go_sem]
  have hcm := SV b x m
  refine ⟨fun hlt => ?_,fun hge => ?_⟩
  · have c1 : Bq b x (m + 1) = if ow m = x.fro then Bq b x m + 1 else Bq b x m := by
      show D6 _ (m + 1) = _
      rw [D6,hbow]; simp only [decide_eq_true_eq]; unfold Bq; rw [hbow]
    have c2 : IntKind.i64.wrap ((Bq b x m : Int) + 1) = ((Bq b x m + 1 : Nat) : Int) := BV (by omega)
    have le1 : ∀ {p : Prop} [Decidable p],(p ↔ False) -> (if p then (0 : Int) else le m) = le m := fun {p} _ h => if_neg fun q => h.1 q
    have up1 : le m = x.fro -> ∀ i,i < n -> (if i < m + 1 /\ le i = x.fro then 0 else le i) = if i = m then 0 else if i < m /\ le i = x.fro then 0 else le i := fun h4 i hi => by
      by_cases e : i = m
      · subst e; rw [if_pos rfl,if_pos ⟨by omega,h4⟩]
      rw [if_neg e]
      by_cases e2 : i < m /\ le i = x.fro
      · rw [if_pos e2,if_pos ⟨by omega,e2.2⟩]
      rw [if_neg e2,if_neg fun h => e2 ⟨by omega,h.2⟩]
    have up2 : ¬ le m = x.fro -> ∀ i,i < n -> ∀ b,b < 1 -> (if i < m /\ le i = x.fro then (0 : Int) else le i) = if i < m + 1 /\ le i = x.fro then 0 else le i := fun h4 i hi _ _ => by
      by_cases e : i = m
      · subst e; rw [if_neg fun h => h4 h.2,if_neg fun h => h4 h.2]
      by_cases e2 : i < m /\ le i = x.fro
      · rw [if_pos e2,if_pos ⟨by omega,e2.2⟩]
      rw [if_neg e2,if_neg fun h => e2 ⟨by omega,h.2⟩]
    refine ⟨by omega,by omega,fun h5 => ⟨by omega,by omega,fun h4 => ?_,fun h4 => ?_⟩,fun h5 => ⟨by omega,by omega,fun h4 => ?_,fun h4 => ?_⟩⟩
    all_goals (try rw [le1 (by simp)] at h4)
    all_goals (try rw [if_pos h5] at c1)
    all_goals (try rw [if_neg h5] at c1)
    all_goals (repeat (with_reducible refine And.intro (by omega) ?_))
    all_goals refine Ad (m + 1) (by omega) (by omega) ?_
    all_goals simp only [c1,c2,↓reduceIte,reduceCtorEq,Nat.reduceEqDiff,Nat.reduceLT,go_sem]
    all_goals rw [BV (by omega)]
    all_goals first | exact ⟨rfl,rfl,Gy (up1 h4)⟩ | exact ⟨rfl,rfl,up2 h4⟩ | exact ⟨rfl,Gy (up1 h4)⟩ | exact ⟨rfl,up2 h4⟩ | exact Gy (up1 h4) | exact up2 h4
  obtain rfl : m = n := by omega
  by_cases hL0 : (Cm (Fm b x) x.heirs x.heirs.1).length = 0
  · have f0 : (((Cm (Fm b x) x.heirs x.heirs.1).length : Int) = 0) = True := eq_true (by omega)
    have f1 : (((Cm (Fm b x) x.heirs x.heirs.1).length : Int) == 0) = true := beq_iff_eq.2 (by omega)
    have hXe : Bm b x = [⟨0,1⟩] := if_pos hL0
    have hL1 : (Bm b x).length = 1 := by rw [hXe]; rfl
    have w0 : ∀ i,i < 1 -> Aq (Aq (.cons (.cons (.int .i64 0) .nil) .nil) i) 0 = .int .i64 (hl (Bm b x) i).who := fun i hi => by
      obtain rfl : i = 0 := by omega
      rw [hXe]; rfl
    have z1 : (fun i => (Aq (Aq (.cons (.cons (.int .i64 1) .nil) .nil) i) 0).toInt) = fun i => (hl [⟨0,1⟩] i).parts := by
      funext i; cases i <;> rfl
    simp only [Ae.toInt] at z1
    have z2 : AA b x = DZ (Bq b x m) (fun i => (hl [⟨0,1⟩] i).parts) 1 := by
      unfold AA; rw [hXe,hbl]; rfl
    simp only [f0,f1,go_sem]
    simp only [z1,<- z2]
    refine ⟨fun i hi => (by obtain rfl : i = 0 := (by omega);rfl),⟨by omega,by omega,Nat.le_refl _,by simp,fun i hi => (by obtain rfl : i = 0 := (by simpa using hi);decide)⟩,?_⟩
    refine AJ (ι := Nat × Nat) (fun q => q.2 <= m /\ q.1 < (Bm b x).length /\ Aw (AA b x) q.1 <= Bq b x q.2 /\ (Bq b x q.2 : Int) <= Aw (AA b x) (q.1 + 1)) (fun q => m - q.2) [2,3,4,9] (fun q => [(11,.int .i64 q.2),(10,.int .i64 q.1)]) (fun q => [(4,.row 3 1 m fun i _ => .int .i64 (if i < q.2 /\ ow i = x.fro then (hl (Bm b x) (D3 (AA b x) (Bm b x).length (Bq b x i))).who else ow i)),(20,.row 3 1 1 fun i _ => .int .i64 (if i < q.1 then 0 else if i = q.1 then Aw (AA b x) (q.1 + 1) - Bq b x q.2 else AA b x i))]) (0,0) ⟨Nat.zero_le _,by show 0 < (Bm b x).length; omega,Int.le_refl _,by show (0 : Int) <= Aw (AA b x) 1; rw [Aw,Aw]; have := hS.2 0 (by omega); omega⟩ (by
      simp only [↓reduceIte,reduceCtorEq,Nat.reduceEqDiff,Nat.reduceLT,go_sem]
      refine ⟨fun i hi j hj => ?_,fun i hi j hj => by rw [if_neg (by simp)]⟩
      by_cases e : i = 0
      · subst e
        rw [if_neg (Nat.lt_irrefl 0),if_pos rfl]
        show _ = 0 + AA b x 0 - ((0 : Nat) : Int)
        omega
      rw [if_neg (Nat.not_lt_zero i),if_neg e]) fun q hq => ?_
    obtain ⟨k0,q⟩ := q
    obtain ⟨q1,q2,q3,q4⟩ := hq
    simp only at q1 q2 q3 q4
    rcases Nat.lt_or_ge q m with hqm | hqm
    · have fq : ((q : Int) < (m : Int)) = True := eq_true (by omega)
      have c0 : Bq b x (q + 1) = if ow q = x.fro then Bq b x q + 1 else Bq b x q := by
        show D6 _ (q + 1) = _
        rw [D6,hbow]; simp only [decide_eq_true_eq]; unfold Bq; rw [hbow]
      by_cases ho : ow q = x.fro
      · have hct : Bq b x q + 1 <= Bq b x m := by
          have := MT (fun q => decide (b.ow.2 q = x.fro)) (show q + 1 <= m by omega)
          unfold Bq at c0 ⊢
          rw [if_pos ho] at c0; omega
        simp only [fq,ho,↓reduceIte,Nat.reduceEqDiff,Nat.reduceAdd,Nat.reduceLeDiff,go_sem]
        refine ⟨by omega,?_⟩
        refine AJ (ι := Nat) (fun k1 => k1 < (Bm b x).length /\ Aw (AA b x) k1 <= Bq b x q /\ (Bq b x q : Int) <= Aw (AA b x) (k1 + 1)) (fun k1 => (Bm b x).length - k1) [2,3,4,9,11] (fun k1 => [(10,.int .i64 k1)]) (fun k1 => [(20,.row 3 1 1 fun i _ => .int .i64 (if i < k1 then 0 else if i = k1 then Aw (AA b x) (k1 + 1) - Bq b x q else AA b x i))]) k0 ⟨q2,q3,q4⟩ (by simp only [↓reduceIte,reduceCtorEq,Nat.reduceEqDiff,Nat.reduceLT,go_sem]; try exact fun _ _ _ _ => rfl) fun k1 hk1 => ?_
        obtain ⟨k2,k3,k4⟩ := hk1
        have hek := hS.2 k1 k2
        have hs1 : Aw (AA b x) (k1 + 1) = Aw (AA b x) k1 + AA b x k1 := rfl
        by_cases hz : Aw (AA b x) (k1 + 1) - Bq b x q = 0
        · have hk5 : k1 + 1 < (Bm b x).length := by
            apply Classical.byContradiction
            intro hn
            obtain h6 : k1 + 1 = (Bm b x).length := by omega
            have := hS.1
            rw [hbl] at this
            rw [h6] at hz; omega
          omega
        have hh := LH k2 hS.2 k3 (by omega)
        simp only [hz,w0 k1 (by omega),Ae.toInt,↓reduceIte,Nat.reduceEqDiff,Nat.reduceAdd,Nat.reduceLeDiff,go_sem]
        repeat (with_reducible refine And.intro (by omega) ?_)
        have hnx : (hl (Bm b x) k1).who ≠ x.fro := (hX.2.2 k1 k2).2.2.1
        have c5 : Bq b x (q + 1) = Bq b x q + 1 := by rw [c0,if_pos ho]
        refine Ad (k1,q + 1) ⟨by show q + 1 <= m; omega,k2,by show Aw (AA b x) k1 <= ((Bq b x (q + 1) : Nat) : Int); rw [c5]; omega,by show ((Bq b x (q + 1) : Nat) : Int) <= Aw (AA b x) (k1 + 1); rw [c5]; omega⟩ (by show m - (q + 1) < m - q; omega) ?_
        have c6 := DR hS.2 (show k1 + 1 <= (Bm b x).length by omega) (Nat.le_refl _)
        rw [hS.1,hbl] at c6
        simp only [c5,↓reduceIte,reduceCtorEq,Nat.reduceEqDiff,Nat.reduceLT,go_sem]
        rw [BV (by omega),AU (by omega) (by omega)]
        refine ⟨rfl,Gy fun i hi => ?_,Gy fun i hi => ?_⟩
        · by_cases e1 : i = k1
          · subst e1; rw [if_neg (Nat.lt_irrefl i),if_pos rfl,if_pos rfl]; omega
          rw [if_neg e1,if_neg e1,if_neg e1]
        by_cases e1 : i = q
        · subst e1; rw [if_pos ⟨by omega,ho⟩,if_pos rfl,hh]
        rw [if_neg e1]
        by_cases e2 : i < q /\ ow i = x.fro
        · rw [if_pos e2,if_pos ⟨by omega,e2.2⟩]
        rw [if_neg e2,if_neg fun h => e2 ⟨by omega,h.2⟩]
      simp only [fq,ho,↓reduceIte,Nat.reduceEqDiff,Nat.reduceAdd,Nat.reduceLeDiff,go_sem]
      refine ⟨by omega,Ad (k0,q + 1) ⟨by show q + 1 <= m; omega,q2,by show _ <= ((Bq b x (q + 1) : Nat) : Int); rw [c0,if_neg ho]; exact q3,by show ((Bq b x (q + 1) : Nat) : Int) <= _; rw [c0,if_neg ho]; exact q4⟩ (by show m - (q + 1) < m - q; omega) ?_⟩
      simp only [c0,if_neg ho,↓reduceIte,reduceCtorEq,Nat.reduceEqDiff,Nat.reduceLT,go_sem]
      rw [BV (by omega)]
      refine ⟨rfl,fun i hi j hj => ?_⟩
      by_cases e : i = q
      · subst e; rw [if_neg fun h => ho h.2,if_neg fun h => ho h.2]
      by_cases e2 : i < q /\ ow i = x.fro
      · rw [if_pos e2,if_pos ⟨by omega,e2.2⟩]
      rw [if_neg e2,if_neg fun h => e2 ⟨by omega,h.2⟩]
    obtain rfl : q = m := by omega
    have fq : ((q : Int) < (q : Int)) = False := eq_false (by omega)
    simp only [fq,↓reduceIte,Nat.reduceEqDiff,Nat.reduceAdd,Nat.reduceLeDiff,go_sem]
    have ow1 : ∀ i,i < q -> (if i < q /\ ow i = x.fro then (hl (Bm b x) (D3 (AA b x) (Bm b x).length (Bq b x i))).who else ow i) = (FH b x).ow.2 i := fun i hi => by
      show _ = if b.ow.2 i = x.fro then _ else b.ow.2 i
      rw [hbow]
      by_cases e : ow i = x.fro
      · rw [if_pos ⟨hi,e⟩,if_pos e]
      rw [if_neg fun h => e h.2,if_neg e]
    have le1 : ∀ i,i < q -> (if i < q /\ le i = x.fro then 0 else le i) = (FH b x).le.2 i := fun i hi => by
      show _ = if b.le.2 i = x.fro then 0 else b.le.2 i
      rw [show b.le.2 = le by rw [hb]]
      by_cases e : le i = x.fro
      · rw [if_pos ⟨hi,e⟩,if_pos e]
      rw [if_neg fun h => e h.2,if_neg e]
    exact hKa (B + 228) (by omega) (fun z => match z with | 20 => _ | 19 => _ | 18 => _ | 15 => _ | 14 => _ | 13 => _ | 12 => _ | 17 => _ | 16 => _ | _ => .cells .nil) _ _ ow1 le1
  have f0 : (((Cm (Fm b x) x.heirs x.heirs.1).length : Int) = 0) = False := eq_false (by omega)
  have f1 : (((Cm (Fm b x) x.heirs x.heirs.1).length : Int) == 0) = false := beq_eq_false_iff_ne.2 (by omega)
  have hXe : Bm b x = Cm (Fm b x) x.heirs x.heirs.1 := if_neg hL0
  have z2 : AA b x = DZ (Bq b x m) (fun i => (hl (Cm (Fm b x) x.heirs x.heirs.1) i).parts) (Cm (Fm b x) x.heirs x.heirs.1).length := by
    unfold AA; rw [hXe,hbl]
  simp only [f0,f1,go_sem]
  simp only [<- z2]
  rw [<- hXe]
  refine ⟨⟨by omega,by omega,by omega,by omega,fun i hi => ⟨(hX.2.2 i hi).2.2.2.1,(hX.2.2 i hi).2.2.2.2⟩⟩,fun _ => ?_⟩
  refine AJ (ι := Nat × Nat) (fun q => q.2 <= m /\ q.1 < (Bm b x).length /\ Aw (AA b x) q.1 <= Bq b x q.2 /\ (Bq b x q.2 : Int) <= Aw (AA b x) (q.1 + 1)) (fun q => m - q.2) [2,3,4,9] (fun q => [(11,.int .i64 q.2),(10,.int .i64 q.1)]) (fun q => [(4,.row 3 1 m fun i _ => .int .i64 (if i < q.2 /\ ow i = x.fro then (hl (Bm b x) (D3 (AA b x) (Bm b x).length (Bq b x i))).who else ow i)),(18,.row 3 1 (Bm b x).length fun i _ => .int .i64 (if i < q.1 then 0 else if i = q.1 then Aw (AA b x) (q.1 + 1) - Bq b x q.2 else AA b x i))]) (0,0) ⟨Nat.zero_le _,by show 0 < (Bm b x).length; omega,Int.le_refl _,by show (0 : Int) <= Aw (AA b x) 1; rw [Aw,Aw]; have := hS.2 0 (by omega); omega⟩ (by
    simp only [↓reduceIte,reduceCtorEq,Nat.reduceEqDiff,Nat.reduceLT,go_sem]
    refine ⟨fun i hi j hj => ?_,fun i hi j hj => by rw [if_neg (by simp)]⟩
    by_cases e : i = 0
    · subst e
      rw [if_neg (Nat.lt_irrefl 0),if_pos rfl]
      show _ = 0 + AA b x 0 - ((0 : Nat) : Int)
      omega
    rw [if_neg (Nat.not_lt_zero i),if_neg e]) fun q hq => ?_
  obtain ⟨k0,q⟩ := q
  obtain ⟨q1,q2,q3,q4⟩ := hq
  simp only at q1 q2 q3 q4
  rcases Nat.lt_or_ge q m with hqm | hqm
  · have fq : ((q : Int) < (m : Int)) = True := eq_true (by omega)
    have c0 : Bq b x (q + 1) = if ow q = x.fro then Bq b x q + 1 else Bq b x q := by
      show D6 _ (q + 1) = _
      rw [D6,hbow]; simp only [decide_eq_true_eq]; unfold Bq; rw [hbow]
    by_cases ho : ow q = x.fro
    · have hct : Bq b x q + 1 <= Bq b x m := by
        have := MT (fun q => decide (b.ow.2 q = x.fro)) (show q + 1 <= m by omega)
        unfold Bq at c0 ⊢
        rw [if_pos ho] at c0; omega
      simp only [fq,ho,↓reduceIte,Nat.reduceEqDiff,Nat.reduceAdd,Nat.reduceLeDiff,go_sem]
      refine ⟨by omega,?_⟩
      refine AJ (ι := Nat) (fun k1 => k1 < (Bm b x).length /\ Aw (AA b x) k1 <= Bq b x q /\ (Bq b x q : Int) <= Aw (AA b x) (k1 + 1)) (fun k1 => (Bm b x).length - k1) [2,3,4,9,11] (fun k1 => [(10,.int .i64 k1)]) (fun k1 => [(18,.row 3 1 (Bm b x).length fun i _ => .int .i64 (if i < k1 then 0 else if i = k1 then Aw (AA b x) (k1 + 1) - Bq b x q else AA b x i))]) k0 ⟨q2,q3,q4⟩ (by simp only [↓reduceIte,reduceCtorEq,Nat.reduceEqDiff,Nat.reduceLT,go_sem]; try exact fun _ _ _ _ => rfl) fun k1 hk1 => ?_
      obtain ⟨k2,k3,k4⟩ := hk1
      have hek := hS.2 k1 k2
      have hs1 : Aw (AA b x) (k1 + 1) = Aw (AA b x) k1 + AA b x k1 := rfl
      by_cases hz : Aw (AA b x) (k1 + 1) - Bq b x q = 0
      · have hk5 : k1 + 1 < (Bm b x).length := by
          apply Classical.byContradiction
          intro hn
          obtain h6 : k1 + 1 = (Bm b x).length := by omega
          have := hS.1
          rw [hbl] at this
          rw [h6] at hz; omega
        simp only [hz,↓reduceIte,Nat.reduceEqDiff,go_sem]
        repeat (with_reducible refine And.intro (by omega) ?_)
        have hs2 : Aw (AA b x) (k1 + 1 + 1) = Aw (AA b x) (k1 + 1) + AA b x (k1 + 1) := rfl
        have hek2 := hS.2 (k1 + 1) hk5
        refine Ad (k1 + 1) ⟨hk5,by omega,by omega⟩ (by omega) ?_
        simp only [↓reduceIte,reduceCtorEq,Nat.reduceEqDiff,Nat.reduceLT,go_sem]
        rw [BV (by omega)]
        refine ⟨rfl,fun i hi j hj => ?_⟩
        by_cases e1 : i < k1
        · rw [if_pos e1,if_pos (by omega)]
        rw [if_neg e1]
        by_cases e2 : i = k1
        · rw [if_pos e2,if_pos (by omega)]
        rw [if_neg e2,if_neg (by omega)]
        by_cases e3 : i = k1 + 1
        · subst e3; rw [if_pos rfl]; omega
        rw [if_neg e3]
      have hh := LH k2 hS.2 k3 (by omega)
      simp only [hz,↓reduceIte,reduceCtorEq,Nat.reduceEqDiff,Nat.reduceAdd,Nat.reduceLeDiff,go_sem]
      repeat (with_reducible refine And.intro (by omega) ?_)
      have hnx : (hl (Bm b x) k1).who ≠ x.fro := (hX.2.2 k1 k2).2.2.1
      have c5 : Bq b x (q + 1) = Bq b x q + 1 := by rw [c0,if_pos ho]
      refine Ad (k1,q + 1) ⟨by show q + 1 <= m; omega,k2,by show Aw (AA b x) k1 <= ((Bq b x (q + 1) : Nat) : Int); rw [c5]; omega,by show ((Bq b x (q + 1) : Nat) : Int) <= Aw (AA b x) (k1 + 1); rw [c5]; omega⟩ (by show m - (q + 1) < m - q; omega) ?_
      have c6 := DR hS.2 (show k1 + 1 <= (Bm b x).length by omega) (Nat.le_refl _)
      rw [hS.1,hbl] at c6
      simp only [c5,↓reduceIte,reduceCtorEq,Nat.reduceEqDiff,Nat.reduceLT,go_sem]
      rw [BV (by omega),AU (by omega) (by omega)]
      refine ⟨rfl,Gy fun i hi => ?_,Gy fun i hi => ?_⟩
      · by_cases e1 : i = k1
        · subst e1; rw [if_neg (Nat.lt_irrefl i),if_pos rfl,if_pos rfl]; omega
        rw [if_neg e1,if_neg e1,if_neg e1]
      by_cases e1 : i = q
      · subst e1; rw [if_pos ⟨by omega,ho⟩,if_pos rfl,hh]
      rw [if_neg e1]
      by_cases e2 : i < q /\ ow i = x.fro
      · rw [if_pos e2,if_pos ⟨by omega,e2.2⟩]
      rw [if_neg e2,if_neg fun h => e2 ⟨by omega,h.2⟩]
    simp only [fq,ho,↓reduceIte,Nat.reduceEqDiff,Nat.reduceAdd,Nat.reduceLeDiff,go_sem]
    refine ⟨by omega,Ad (k0,q + 1) ⟨by show q + 1 <= m; omega,q2,by show _ <= ((Bq b x (q + 1) : Nat) : Int); rw [c0,if_neg ho]; exact q3,by show ((Bq b x (q + 1) : Nat) : Int) <= _; rw [c0,if_neg ho]; exact q4⟩ (by show m - (q + 1) < m - q; omega) ?_⟩
    simp only [c0,if_neg ho,↓reduceIte,reduceCtorEq,Nat.reduceEqDiff,Nat.reduceLT,go_sem]
    rw [BV (by omega)]
    refine ⟨rfl,fun i hi j hj => ?_⟩
    by_cases e : i = q
    · subst e; rw [if_neg fun h => ho h.2,if_neg fun h => ho h.2]
    by_cases e2 : i < q /\ ow i = x.fro
    · rw [if_pos e2,if_pos ⟨by omega,e2.2⟩]
    rw [if_neg e2,if_neg fun h => e2 ⟨by omega,h.2⟩]
  obtain rfl : q = m := by omega
  have fq : ((q : Int) < (q : Int)) = False := eq_false (by omega)
  simp only [fq,↓reduceIte,Nat.reduceEqDiff,Nat.reduceAdd,Nat.reduceLeDiff,go_sem]
  have ow1 : ∀ i,i < q -> (if i < q /\ ow i = x.fro then (hl (Bm b x) (D3 (AA b x) (Bm b x).length (Bq b x i))).who else ow i) = (FH b x).ow.2 i := fun i hi => by
    show _ = if b.ow.2 i = x.fro then _ else b.ow.2 i
    rw [hbow]
    by_cases e : ow i = x.fro
    · rw [if_pos ⟨hi,e⟩,if_pos e]
    rw [if_neg fun h => e h.2,if_neg e]
  have le1 : ∀ i,i < q -> (if i < q /\ le i = x.fro then 0 else le i) = (FH b x).le.2 i := fun i hi => by
    show _ = if b.le.2 i = x.fro then 0 else b.le.2 i
    rw [show b.le.2 = le by rw [hb]]
    by_cases e : le i = x.fro
    · rw [if_pos ⟨hi,e⟩,if_pos e]
    rw [if_neg fun h => e h.2,if_neg e]
  exact hKb (B + 233) (by omega) (fun z => match z with | 18 => _ | 15 => _ | 14 => _ | 13 => _ | 12 => _ | 17 => _ | 16 => _ | _ => .cells .nil) _ _ ow1 le1
end Go.Proofs.YtlieoghhkioflaaGreat
