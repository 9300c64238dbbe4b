/- The stable sort: what its texts for each type share. No condition. -/
import Derived.Test.YtlieoghhkioflaaGreatSoT
import Derived.Test.YtlieoghhkioflaaGreatDr6
import Derived.Test.YtlieoghhkioflaaGreatDr3
import Derived.Test.YtlieoghhkioflaaGreatACode1
import Derived.Test.YtlieoghhkioflaaGreatDin
set_option linter.unusedSimpArgs false
set_option linter.unusedVariables false
set_option maxRecDepth 100000
namespace Go.Proofs.YtlieoghhkioflaaGreat
open Go Go.RowKit
variable {α : Type}
def C5 (c : Ae) : VT Unit where
 Is := fun v => v = c
 of := fun _ => ()
 enc := fun _ => c
 h1 := by rintro v rfl; exact BB _
 h2 := fun _ => rfl
theorem Tg (c v : Ae) : (C5 c).Is v = (v = c) := rfl
theorem Tp (c v : Ae) : (C5 c).of v = () := rfl
theorem QN (c : Ae) (u : Unit) : (C5 c).enc u = c := rfl
attribute [go_sem] Tg Tp QN
def C4 (x y : Hs) : Prop := x.who < y.who
instance (x y : Hs) : Decidable (C4 x y) := by unfold C4; infer_instance
def UN (r : α -> α -> Prop) [DecidableRel r] (a b : α) : Int := if r a b then -1 else if r b a then 1 else 0
theorem EX (r : α -> α -> Prop) [DecidableRel r] (a b : α) : (UN r a b < 0) = (r a b) := by
 apply propext
 unfold UN
 split
 ·rename_i h; simp [h]
 rename_i h; split <;> simp [h]
theorem IB : Sy fun a b => decide (Bi a b) := ⟨fun a b c h1 h2 => by simp only [decide_eq_true_eq] at *; exact GM h1 h2,fun a b c h => by simp only [decide_eq_true_eq] at *; unfold Bi at *; omega,fun a => by simp only [decide_eq_false_iff_not]; unfold Bi; omega⟩
theorem Ix : Sy fun a b => decide (C4 a b) := ⟨fun a b c h1 h2 => by simp only [decide_eq_true_eq] at *; unfold C4 at *; omega,fun a b c h => by simp only [decide_eq_true_eq] at *; unfold C4 at *; omega,fun a => by simp only [decide_eq_false_iff_not]; unfold C4; omega⟩
theorem Le (x : Hs) : ∀ b,b < 2 -> Aq x.L b = x.c b := fun b hb => by
 rcases (by omega : b = 0 \/ b = 1) with rfl | rfl <;> rfl
theorem Xw {e : Int} (h : 0 <= e) (h' : e <= 18446744073709551615) : IntKind.u64.wrap e = e := by
 simp only [IntKind.wrap,IntKind.bits,IntKind.signed,Bool.false_and]
 rw [if_neg (by simp)]
 omega
theorem J1 {x y : Nat} (h : x <= 200000) (h' : y <= 200000) : IntKind.i64.wrap (IntKind.u64.wrap (IntKind.i64.wrap ((x : Int) + (y : Int))) / 2 ^ 1) = (((x + y) / 2 : Nat) : Int) := by
 rw [AU (e := (x : Int) + y) (by omega) (by omega),Xw (by omega) (by omega),AU (by omega) (by omega)]
 omega
theorem Mc {C : α -> Nat -> Ae} {L : α -> Ae} {k n : Nat} (hL : ∀ x b,b < k -> Aq (L x) b = C x b) {d e : Nat -> α} {u v : Nat} {x y : α} (h : ∀ i,i < n -> e i = if i = v then x else if i = u then y else d i) : ∀ i,i < n -> ∀ j,j < k -> Ax (C (e i) j) (if i = v /\ 0 <= j /\ j < k then Aq (L x) j else if i = u /\ 0 <= j /\ j < k then Aq (L y) j else C (d i) j) := fun i hi j hj => by
 rw [h i hi]
 by_cases e1 : i = v
 ·rw [if_pos e1,if_pos ⟨e1,Nat.zero_le _,hj⟩,hL _ _ hj]; exact BB _
 rw [if_neg e1,if_neg (show ¬ (i = v /\ 0 <= j /\ j < k) from fun h => e1 h.1)]
 by_cases e2 : i = u
 ·rw [if_pos e2,if_pos (show i = u /\ 0 <= j /\ j < k from ⟨e2,Nat.zero_le _,hj⟩),hL _ _ hj]; exact BB _
 rw [if_neg e2,if_neg (show ¬ (i = u /\ 0 <= j /\ j < k) from fun h => e2 h.1)]; exact BB _
end Go.Proofs.YtlieoghhkioflaaGreat
namespace Go.Proofs.YtlieoghhkioflaaGreat
open Go Go.RowKit
variable {α : Type}
variable {G : Nat -> Option (Nat × (Nat -> Ae))}
section
variable {P : Program}
theorem PW {E : Df} (hmix : P.follows .mixedOrders = true) (hS : ∀ id s,E.S id = some s -> Ai P E.G id s) (hI : ∀ id af,E.I id = some af -> ∃ fn,P.funcs[id]? = some fn /\ AB P fn = some af) (hX : ∀ id pz s,E.X id = some (pz,s) -> Cr P E.G id pz s) (hC : ∀ id T k,E.C id = some (T,k) -> D9 P id T k) {id : FuncId} {fn : Func} {af : AC} {s : Ay} (hfn : P.funcs[id]? = some fn) (hcf : AB P fn = some af)
  (h : ∀ vs,s.pre vs -> ∃ vs',Ax (vl vs') (vl vs) /\ s.res vs' = s.res vs /\ (FK (vl vs') -> ∃ n,Az E (fun v bx => GL s.own v bx (s.res vs')) n [.code af.code] [] af.res (params 0 vs') [] 0)) : Ai P E.G id s := by
 simp only [Bo] at h
 have hok : Ai P E.G id ⟨fun vs' => FK (vl vs') -> ∃ n,run E (fun v bx => GL s.own v bx (s.res vs')) n [.code af.code] [] af.res (params 0 vs') [] 0,s.res,s.own⟩ :=
  JM hmix hS hI hX hC hfn hcf fun vs hp hw => hp hw
 refine ⟨hok.ent,fun A w vs cs hG hr hp => ?_⟩
 obtain ⟨vs',h1,h2,h3⟩ := h vs hp
 have := hok.run A w vs' cs hG (BN _ _ _ h1 hr) h3
 simp only [h2] at this
 exact this
theorem foT {G : Nat -> Option (Nat × (Nat -> Ae))} {S : List (FuncId × Ay)} {I : List (FuncId × AC)} {X : List (FuncId × Nat × Ay)} {N : List TypeId} {C : List (FuncId × Option (TypeId × IntKind))} {id : FuncId} {fn : Func} {af : AC} {t : AT α} (hmix : P.follows .mixedOrders = true) (hS : Kp P G S) (hI : KD P I) (hX : SA P G X) (hfn : P.funcs[id]? = some fn) (hcf : AB P fn = some af) {e : TypeId} {pre : α -> Prop} {res : α -> Ae}
  (h : ∀ a,pre a -> FK (vl (t.enc a)) -> Az (Lr G S I X N C) (fun v bx => GL (some e) v bx (res a)) 100000 [.code af.code] [] af.res (params 0 (t.enc a)) [] 0) (hC : QH P C := by first | exact .nil | exact .frz .nil) : Ai P G id ((Aj t pre res).mine e) :=
 PW (E := Lr G S I X N C) hmix hS.get hI.get hX.get hC.get hfn hcf fun vs hp => ⟨t.enc (t.of vs),t.h1 vs hp.1,by simp only [Ay.mine,Aj,t.h2],fun hw => ⟨100000,by simp only [Ay.mine,Aj,t.h2]; exact h _ hp.2 hw⟩⟩
end
def Sx (t : VT α) : VT α where
 Is := fun w => ∃ v,w = .vptr 1 (Aq (.cons v .nil)) /\ t.Is v
 of := fun w => match w with | .vptr _ f => t.of (f 0) | _ => t.of .und
 enc := fun a => .vptr 1 (Aq (.cons (t.enc a) .nil))
 h1 := by
  rintro w ⟨v,rfl,h⟩
  have := t.h1 v h
  show Ax (.vptr 1 (Aq (.cons (t.enc (t.of v)) .nil))) (.vptr 1 (Aq (.cons v .nil)))
  refine ⟨_,rfl,fun j hj => ?_⟩
  obtain rfl : j = 0 := by omega
  exact this
 h2 := fun a => t.h2 a
theorem UY (t : VT α) (v : Ae) : (Sx t).Is (.vptr 1 (Aq (.cons v .nil))) = t.Is v := by
 apply propext
 constructor
 ·rintro ⟨w,h,k⟩
  have h2 : Aq (.cons v .nil) = Aq (.cons w .nil) := by injection h
  have : v = w := congrFun h2 0
  rw [this]; exact k
 exact fun k => ⟨v,rfl,k⟩
theorem Wq (t : VT α) (v : Ae) : (Sx t).of (.vptr 1 (Aq (.cons v .nil))) = t.of v := rfl
theorem SR (t : VT α) (a : α) : (Sx t).enc a = .vptr 1 (Aq (.cons (t.enc a) .nil)) := rfl
attribute [go_sem] UY Wq SR
def UF : Ae := .func (.func 142) .nil
noncomputable def PH : Ay := Aj (Af Z9 AV) (fun _ => True) fun a => .int .i64 a.1.parts
theorem W4 : Ai Tryz.prog G 142 PH := by
 refine Ij mixed (S := []) (I := []) (X := []) (N := []) (C := []) .nil .nil .nil Tryz.func142 YK fun a _ hw => ?_
 simp only [W7,Af,AV,↓reduceIte,reduceCtorEq,Nat.reduceEqDiff,Nat.reduceAdd,go_sem]
noncomputable def S7 : Ay := Aj (Af TI (Af TI (Af (Sx TI) (Af (Sx (C5 UF)) (Af (Sx (DQ ID)) (Af (Sx TI) AV)))))) (fun a => ∃ i k : Nat,a.1 = i /\ a.2.1 = k /\ i < a.2.2.2.2.1.1 /\ k < a.2.2.2.2.1.1 /\ 0 <= a.2.2.1 /\ a.2.2.1 <= 23040 /\ 0 < a.2.2.2.2.2.1 /\ a.2.2.2.2.2.1 <= 10000 /\ (∀ q,q < a.2.2.2.2.1.1 -> 1 <= (a.2.2.2.2.1.2 q).parts /\ (a.2.2.2.2.1.2 q).parts <= 1000)) fun a => .int .i64 (a.2.2.1 * (a.2.2.2.2.1.2 a.2.1.toNat).parts % a.2.2.2.2.2.1 - a.2.2.1 * (a.2.2.2.2.1.2 a.1.toNat).parts % a.2.2.2.2.2.1)
theorem Yw : Ai Tryz.prog G 159 S7 := by
 refine Ij mixed (S := [(142,PH)]) (I := []) (X := []) (N := []) (C := []) (.cons W4 .nil) .nil .nil Tryz.func159 ZE fun a hp hw => ?_
 obtain ⟨x,y,n,u,l,S,z⟩ := a
 obtain ⟨i,k,rfl,rfl,h1,h2,h3,h4,h5,h6,h7⟩ := hp
 simp only [XQ,PH,Aj,UF,Af,AV,Int.toNat_natCast,↓reduceIte,reduceCtorEq,Nat.reduceEqDiff,Nat.reduceAdd,go_sem]
 have h1 : i < l.1 := h1
 have h2 : k < l.1 := h2
 have h3 : 0 <= n := h3
 have h4 : n <= 23040 := h4
 have h5 : 0 < S := h5
 have h6 : S <= 10000 := h6
 have h7 : ∀ q,q < l.1 -> 1 <= (l.2 q).parts /\ (l.2 q).parts <= 1000 := h7
 have hm : ∀ q,q < l.1 -> IntKind.i64.wrap (n * (l.2 q).parts) = n * (l.2 q).parts /\ (n * (l.2 q).parts).tmod S = n * (l.2 q).parts % S /\ 0 <= n * (l.2 q).parts % S /\ n * (l.2 q).parts % S < S := fun q hq => by
  obtain ⟨p1,p2⟩ := h7 q hq
  have a1 : 0 <= n * (l.2 q).parts := Int.mul_nonneg h3 (by omega)
  have a2 : n * (l.2 q).parts <= 23040 * 1000 := Int.mul_le_mul h4 p2 (by omega) (by omega)
  exact ⟨AU (by omega) (by omega),Int.tmod_eq_emod_of_nonneg a1,Int.emod_nonneg _ (by omega),Int.emod_lt_of_pos _ h5⟩
 obtain ⟨i1,i2,i3,i4⟩ := hm i h1
 obtain ⟨k1,k2,k3,k4⟩ := hm k h2
 refine ⟨by omega,by omega,by omega,by omega,by omega,by omega,?_⟩
 rw [i1,k1,i2,k2]
 exact AU (by omega) (by omega)
noncomputable def RN : Ay := (Aj (Af TI (Af (DQ ID) (Af (C5 UF) AV))) (fun a => 0 <= a.1 /\ a.1 <= 23040 /\ 1 <= a.2.1.1 /\ a.2.1.1 <= 8 /\ ∀ q,q < a.2.1.1 -> 1 <= (a.2.1.2 q).parts /\ (a.2.1.2 q).parts <= 1000) fun a => .view 1 a.2.1.1 fun i _ => .int .i64 (DZ a.1 (fun i => (a.2.1.2 i).parts) a.2.1.1 i)).mine 3
set_option maxHeartbeats 8000000 in
theorem WW : Ai Tryz.prog G 141 RN := by
 refine foT mixed (S := [(142,PH),(159,S7)]) (I := [(158,Vt),(167,Wx),(173,V7)]) (X := []) (N := []) (C := []) (.cons W4 (.cons Yw .nil)) (.cons Tryz.func158 Yo (.cons Tryz.func167 Yh (.cons Tryz.func173 Zf .nil))) .nil Tryz.func141 Y0 fun a hp hw => ?_
 obtain ⟨n,l,u,z⟩ := a
 obtain ⟨h1,h2,h3,h4,h5⟩ := hp
 have h1 : 0 <= n := h1
 have h2 : n <= 23040 := h2
 have h3 : 1 <= l.1 := h3
 have h4 : l.1 <= 8 := h4
 have h5 : ∀ q,q < l.1 -> 1 <= (l.2 q).parts /\ (l.2 q).parts <= 1000 := h5
 simp only [Af,AV,UF,Nat.reduceSub,Nat.reducePow,go_sem] at hw
 simp only [Xd,Af,AV,UF,hw,↓reduceIte,reduceCtorEq,Nat.reduceEqDiff,Nat.reduceAdd,Nat.reduceSub,Nat.reducePow,go_sem]
 have hpt : Up n (l.1,fun i => (l.2 i).parts) := ⟨h1,h2,h3,h4,h5⟩
 have hsum : ∀ k,k <= l.1 -> (k : Int) <= Aw (fun i => (l.2 i).parts) k /\ Aw (fun i => (l.2 i).parts) k <= 1000 * k := hpt.sum
 refine AJ (ι := Nat) (fun j => j <= l.1) (fun j => l.1 - j) [3,4,5,6,7,8,18,19] (fun j => [(20,.int .i64 j)]) (fun j => [(3,.cells (.cons (.int .i64 (Aw (fun i => (l.2 i).parts) j)) .nil))]) 0 (Nat.zero_le _) (by simp only [Aw,↓reduceIte,reduceCtorEq,Nat.reduceEqDiff,Nat.reduceLT,go_sem]; try trivial) fun j hj => ?_
 rcases Nat.lt_or_ge j l.1 with hlt | hge
 ·have f1 : ((j : Int) < (l.1 : Int)) = True := eq_true (by omega)
  have s1 := hsum j (by omega)
  have s2 := h5 j hlt
  simp only [f1,PH,Aj,Af,AV,↓reduceIte,reduceCtorEq,Nat.reduceEqDiff,Nat.reduceAdd,go_sem]
  refine ⟨by omega,Ad (j + 1) (by omega) (by omega) ?_⟩
  simp only [Aw,↓reduceIte,reduceCtorEq,Nat.reduceEqDiff,Nat.reduceLT,go_sem]
  rw [BV (by omega),AU (by omega) (by omega)]
  try exact ⟨rfl,rfl⟩
 have f1 : ((j : Int) < (l.1 : Int)) = False := eq_false (by omega)
 simp only [f1,hw,PH,Aj,Af,AV,↓reduceIte,reduceCtorEq,Nat.reduceEqDiff,Nat.reduceSub,Nat.reducePow,go_sem]
 obtain rfl : j = l.1 := by omega
 obtain ⟨S,hS⟩ : ∃ S,S = Aw (fun i => (l.2 i).parts) l.1 := ⟨_,rfl⟩
 have hS0 := hsum l.1 (Nat.le_refl _)
 rw [<- hS] at hS0 ⊢
 have hfl : ∀ i,i < l.1 -> 0 <= BR n (fun i => (l.2 i).parts) l.1 i /\ BR n (fun i => (l.2 i).parts) l.1 i <= n := fun i hi => by
  obtain ⟨p1,p2⟩ := h5 i hi
  have a1 : 0 <= n * (l.2 i).parts := Int.mul_nonneg h1 (by omega)
  unfold BR
  rw [<- hS]
  refine ⟨Int.ediv_nonneg a1 (by omega),?_⟩
  have h6 := (Hm (fun i => (l.2 i).parts) l.1 fun i hi => by have := (h5 i hi).1; omega).2 i hi
  have h7 : n * (l.2 i).parts <= n * S := Int.mul_le_mul_of_nonneg_left (by rw [hS]; exact h6) h1
  exact Int.ediv_le_of_le_mul (by omega) h7
 have hsf : ∀ j,j <= l.1 -> 0 <= Aw (BR n (fun i => (l.2 i).parts) l.1) j /\ Aw (BR n (fun i => (l.2 i).parts) l.1) j <= n := fun j hj => by
  have h6 := DR (f := BR n (fun i => (l.2 i).parts) l.1) (len := l.1) (fun i hi => (hfl i hi).1) (Nat.zero_le j) hj
  have h7 := DR (f := BR n (fun i => (l.2 i).parts) l.1) (len := l.1) (fun i hi => (hfl i hi).1) hj (Nat.le_refl _)
  have h8 := II (n := n) (p := fun i => (l.2 i).parts) (k := l.1) (by rw [<- hS]; omega)
  unfold CY at h8
  rw [Aw] at h6
  omega
 refine FL (ι := Nat) (fun j => j <= l.1) (fun j => l.1 - j) [3,4,5,7,30,31] (fun j => [(32,.int .i64 j),(8,.int .i64 (n - Aw (BR n (fun i => (l.2 i).parts) l.1) j)),(11,.own (.n 4)),(12,.own (.n 5))]) (fun j => [(4,.row 3 1 j fun i _ => .int .i64 (BR n (fun i => (l.2 i).parts) l.1 i)),(5,.row 3 1 j fun i _ => .int .i64 i)]) 2 0 (Nat.zero_le _) (by simp only [Aw,Int.sub_zero,↓reduceIte,reduceCtorEq,Nat.reduceEqDiff,Nat.reduceAdd,Nat.reduceLT,go_sem]; try trivial) fun j hj => ?_
 rcases Nat.lt_or_ge j l.1 with hlt | hge2
 ·have f2 : ((j : Int) < (l.1 : Int)) = True := eq_true (by omega)
  obtain ⟨p1,p2⟩ := h5 j hlt
  have a1 : 0 <= n * (l.2 j).parts := Int.mul_nonneg h1 (by omega)
  have a2 : n * (l.2 j).parts <= 23040 * 1000 := Int.mul_le_mul h2 p2 (by omega) (by omega)
  have m1 : IntKind.i64.wrap (n * (l.2 j).parts) = n * (l.2 j).parts := AU (by omega) (by omega)
  have m2 : (n * (l.2 j).parts).tdiv S = BR n (fun i => (l.2 i).parts) l.1 j := by rw [Int.tdiv_eq_ediv_of_nonneg a1]; unfold BR; rw [<- hS]
  have b := hfl j hlt
  have m3 : IntKind.i64.wrap (BR n (fun i => (l.2 i).parts) l.1 j) = BR n (fun i => (l.2 i).parts) l.1 j := AU (by omega) (by omega)
  simp only [f2,m1,m2,m3,Nat.sub_self,↓reduceIte,reduceCtorEq,Nat.reduceEqDiff,Nat.reduceAdd,Nat.reduceSub,Nat.reduceLeDiff,Nat.reduceLT,Nat.reducePow,go_sem]
  repeat (with_reducible refine And.intro (by omega) ?_)
  have c1 := hsf j (by omega)
  have c2 := hsf (j + 1) (by omega)
  rw [Aw] at c2
  refine Ad (j + 1) (by omega) (by omega) ?_
  simp only [Aw,↓reduceIte,reduceCtorEq,Nat.reduceEqDiff,Nat.reduceLT,go_sem]
  rw [BV (by omega),AU (by omega) (by omega)]
  have one : ∀ (f : Nat -> Int) (i : Nat),i < j + 1 -> ∀ c : Nat,c < 1 -> (if i < j then .int .i64 (f i) else Aq (Aq (.cons (.cons (.int .i64 (f j)) .nil) .nil) (i - j)) c) = Ae.int .i64 (f i) := fun f i hi c hc => by
   by_cases e : i < j
   ·rw [if_pos e]
   obtain rfl : i = j := by omega
   obtain rfl : c = 0 := by omega
   rw [if_neg e,Nat.sub_self]; rfl
  exact ⟨rfl,by omega,one fun i => (i : Int),one _⟩
 have f2 : ((j : Int) < (l.1 : Int)) = False := eq_false (by omega)
 simp only [f2,Vt,Wx,V7,↓reduceIte,reduceCtorEq,Nat.reduceEqDiff,Nat.reduceAdd,go_sem]
 refine AJ (ι := Unit) (fun _ => True) (fun _ => 0) [0,1,2,6,7,10] (fun _ => [(8,.int .i64 20)]) (fun _ => []) () trivial (by simp only [↓reduceIte,reduceCtorEq,Nat.reduceEqDiff,Nat.reduceLT,go_sem]; try trivial) fun _ _ => ?_
 obtain rfl : j = l.1 := by omega
 have f20 : ((20 : Int) <= (l.1 : Int)) = False := eq_false (by omega)
 simp only [f20,↓reduceIte,reduceCtorEq,Nat.reduceEqDiff,Nat.reduceAdd,Int.reduceAdd,go_sem]
 obtain ⟨lt,hlt⟩ : ∃ lt,lt = UB n (fun i => (l.2 i).parts) l.1 := ⟨_,rfl⟩
 have ltb : ∀ a b : Nat,(lt a b = true) ↔ (n * (l.2 b).parts % S < n * (l.2 a).parts % S) := fun a b => by rw [hlt]; unfold UB Dy; rw [decide_eq_true_eq,<- hS]
 have swo : Sy lt := ⟨fun a b c h1 h2 => by rw [ltb] at *; omega,fun a b c h => by rw [ltb,ltb]; rw [ltb] at h; omega,fun a => by
  cases e : lt a a with
  | false => rfl
  | true => rw [ltb] at e; omega⟩
 have i1 : AK lt [0] = [0] := rfl
 rw [show IntKind.i64.wrap 1 = ((1 : Nat) : Int) from rfl]
 refine AJ (ι := Nat) (fun i => 1 <= i /\ i <= l.1) (fun i => l.1 - i) [0,1,2,3] (fun i => [(8,.int .i64 i)]) (fun i => [(5,.row 3 1 l.1 fun y _ => .int .i64 ((BU (fun q => q) 0 (AK lt (A3 (fun q => q) 0 i)) y : Nat) : Int))]) 1 ⟨Nat.le_refl _,h3⟩ (by
  have : BU (fun q : Nat => q) 0 (AK lt (A3 (fun q => q) 0 1)) = fun q => q := by
   have := B8 (fun q : Nat => q) 0 1
   have e : A3 (fun q : Nat => q) 0 1 = [0] := rfl
   rw [e] at this ⊢; rw [i1]; exact this
  simp only [this,↓reduceIte,reduceCtorEq,Nat.reduceEqDiff,Nat.reduceLT,go_sem]
  try trivial) fun i hi => ?_
 obtain ⟨hi1,hi2⟩ := hi
 rcases Nat.lt_or_ge i l.1 with hil | hig
 ·have fi : ((i : Int) < (l.1 : Int)) = True := eq_true (by omega)
  simp only [fi,S7,Aj,Af,AV,UF,↓reduceIte,reduceCtorEq,Nat.reduceEqDiff,go_sem]
  have hSrt := DL (lt := lt) swo (A3 (fun q => q) 0 i)
  have hOlt : ∀ y ∈ AK lt (A3 (fun q => q) 0 i),y < l.1 := fun y hy => by
   rw [Gi] at hy
   obtain ⟨q,hq,rfl⟩ := List.mem_map.1 hy
   have := List.mem_range.1 hq
   show 0 + q < l.1
   omega
  have hSl : (AK lt (A3 (fun q => q) 0 i)).length = i := by rw [Dk,Bu]; omega
  have hnx : AK lt (A3 (fun q => q) 0 (i + 1)) = CP lt i (AK lt (A3 (fun q => q) 0 i)) := by rw [<- Dt _ (show 0 <= i by omega) (show i <= i + 1 by omega),Cb,B9]
  generalize AK lt (A3 (fun q => q) 0 i) = O at *
  have hOm : ∀ t y,O[t]? = some y -> y < l.1 := fun t y h => hOlt y (List.mem_of_getElem? h)
  refine AJ (ι := Nat) (fun k => k <= i /\ ∀ t y,k <= t -> O[t]? = some y -> lt i y = true) (fun k => k) [0,1,2,3,8] (fun k => [(9,.int .i64 (k : Int))]) (fun k => [(5,.row 3 1 l.1 fun y _ => .int .i64 ((DD (fun q => q) 0 O i k y : Nat) : Int))]) i ⟨Nat.le_refl _,fun t y h1 h2 => by have := (List.getElem?_eq_some_iff.1 h2).1; omega⟩ (by
   have : DD (fun q => q) 0 O i i = BU (fun q => q) 0 O := by
    have := I3 (fun q : Nat => q) 0 O (i := i) (by omega)
    rw [hSl] at this; exact this
   simp only [this,↓reduceIte,reduceCtorEq,Nat.reduceEqDiff,Nat.reduceLT,go_sem]
   try trivial) fun k hk => ?_
  obtain ⟨hk1,hk2⟩ := hk
  have gk : DD (fun q => q) 0 O i k k = i := by unfold DD; rw [if_neg (by omega),if_neg (by omega),if_pos (by omega)]
  have fin : (∀ z,0 < k -> O[k - 1]? = some z -> ¬ lt i z = true) -> DD (fun q => q) 0 O i k = BU (fun q => q) 0 (AK lt (A3 (fun q => q) 0 (i + 1))) := fun h => by
   rw [KI (fun q => q) 0 O i (by omega),hnx,IE (lt := lt) i O k (by omega) (fun t y ht hy => ?_) fun y hy => hk2 k y (Nat.le_refl _) hy]
   obtain ⟨z,hz⟩ : ∃ z,O[k - 1]? = some z := ⟨_,List.getElem?_eq_getElem (show k - 1 < O.length by omega)⟩
   have h1 := h z (by omega) hz
   cases e : lt i y with
   | false => rfl
   | true =>
    by_cases e2 : t = k - 1
    ·subst e2; rw [hy] at hz; cases hz; exact absurd e h1
    have h3 : lt z y = false := by
     obtain ⟨q1,q2⟩ := List.getElem?_eq_some_iff.1 hy
     obtain ⟨q3,q4⟩ := List.getElem?_eq_some_iff.1 hz
     have := List.pairwise_iff_getElem.1 hSrt t (k - 1) q1 q3 (by omega)
     rw [q2,q4] at this; exact this
    rcases swo.co _ z _ e with h4 | h4
    ·exact absurd h4 h1
    rw [h3] at h4; cases h4
  rcases Nat.eq_zero_or_pos k with hk0 | hk0
  ·subst hk0
   have f0 : ((0 : Int) > 0) = False := eq_false (by omega)
   have fe := fin fun z h => absurd h (Nat.lt_irrefl 0)
   simp only [f0,Int.ofNat_zero,↓reduceIte,reduceCtorEq,Nat.reduceEqDiff,Nat.reduceSub,go_sem]
   refine Ad (i + 1) ⟨by omega,by omega⟩ (by omega) ?_
   simp only [fe,↓reduceIte,reduceCtorEq,Nat.reduceEqDiff,Nat.reduceLT,go_sem]
   rw [BV (by omega)]
   try trivial
  obtain ⟨z,hz⟩ : ∃ z,O[k - 1]? = some z := ⟨_,List.getElem?_eq_getElem (show k - 1 < O.length by omega)⟩
  have f0 : ((k : Int) > 0) = True := eq_true (by omega)
  have w1 : IntKind.i64.wrap ((k : Int) - 1) = ((k - 1 : Nat) : Int) := SB (by omega) (by omega)
  have gk1 : DD (fun q => q) 0 O i k (k - 1) = z := by
   unfold DD; rw [if_neg (by omega),if_pos (by omega),List.getD_eq_getElem?_getD,show k - 1 - 0 = k - 1 by omega,hz]; rfl
  have hzl := hOm _ z hz
  simp only [f0,w1,gk,gk1,Int.toNat_natCast,↓reduceIte,reduceCtorEq,Nat.reduceEqDiff,Nat.reduceAdd,Nat.reduceSub,go_sem]
  refine ⟨by omega,by omega,by omega,by omega,⟨i,rfl,z,rfl,hil,hzl,h1,h2,by omega,by omega,h5⟩,fun h4 => ?_,fun h4 => ?_⟩
  ·have h4 : lt i z = true := (ltb i z).2 (by omega)
   repeat (with_reducible refine And.intro (by omega) ?_)
   refine Ad (k - 1) ⟨by omega,fun t y ht hy => ?_⟩ (by omega) ?_
   ·by_cases e2 : t = k - 1
    ·subst e2; rw [hz] at hy; cases hy; exact h4
    exact hk2 t y (by omega) hy
   simp only [↓reduceIte,reduceCtorEq,Nat.reduceEqDiff,Nat.reduceLT,go_sem]
   intro y hy b hb
   obtain rfl : b = 0 := by omega
   rw [Hy (fun q : Nat => q) 0 O i hk0 (by omega)]
   by_cases y1 : y = k - 1
   ·rw [if_pos ⟨y1,Nat.le_refl _,hb⟩,if_pos (by omega)]; rfl
   rw [if_neg fun h => y1 h.1,if_neg (show ¬ y = 0 + k - 1 by omega)]
   by_cases y2 : y = k
   ·rw [if_pos ⟨y2,Nat.le_refl _,hb⟩,if_pos (by omega),List.getD_eq_getElem?_getD,hz]; rfl
   rw [if_neg fun h => y2 h.1,if_neg (by omega)]
  have fe := fin fun z' _ hz' => by rw [hz] at hz'; cases hz'; rw [ltb]; omega
  refine Ad (i + 1) ⟨by omega,by omega⟩ (by omega) ?_
  simp only [fe,↓reduceIte,reduceCtorEq,Nat.reduceEqDiff,Nat.reduceLT,go_sem]
  rw [BV (by omega)]
  try trivial
 have fi : ((i : Int) < (l.1 : Int)) = False := eq_false (by omega)
 obtain rfl : i = l.1 := by omega
 simp only [fi,S7,Aj,Af,AV,UF,↓reduceIte,reduceCtorEq,Nat.reduceEqDiff,go_sem]
 refine AJ (ι := Unit) (fun _ => True) (fun _ => 0) [0,1,2] (fun _ => [(6,.int .i64 20)]) (fun _ => []) () trivial (by simp only [↓reduceIte,reduceCtorEq,Nat.reduceEqDiff,Nat.reduceLT,go_sem]; try trivial) fun _ _ => ?_
 have f20' : ((20 : Int) < (l.1 : Int)) = False := eq_false (by omega)
 have lf1 := II (n := n) (p := fun i => (l.2 i).parts) (k := l.1) (by rw [<- hS]; omega)
 have lf2 := KF (n := n) (p := fun i => (l.2 i).parts) (k := l.1) (by omega) (by rw [<- hS]; omega)
 unfold CY at lf1 lf2
 simp only [f20',↓reduceIte,reduceCtorEq,Nat.reduceEqDiff,Int.reduceToNat,Int.reduceLE,go_sem]
 refine ⟨by omega,by omega,?_⟩
 obtain ⟨T,hT⟩ : ∃ T : Nat,n - Aw (BR n (fun i => (l.2 i).parts) l.1) l.1 = T := ⟨(n - Aw (BR n (fun i => (l.2 i).parts) l.1) l.1).toNat,(Int.toNat_of_nonneg lf1).symm⟩
 have hTl : T < l.1 := by omega
 have hsg : A3 (fun q : Nat => q) 0 l.1 = List.range l.1 := by simp [A3]
 rw [hT,Int.sub_zero,Int.toNat_natCast,hsg,hlt]
 have hod : AK (UB n (fun i => (l.2 i).parts) l.1) (List.range l.1) = Fg n (fun i => (l.2 i).parts) l.1 l.1 := rfl
 rw [hod]
 refine AJ (ι := Nat) (fun t => t <= T) (fun t => T - t) [11,63,64] (fun t => [(65,.int .i64 t)]) (fun t => [(4,.row 3 1 l.1 fun y _ => .int .i64 (BR n (fun i => (l.2 i).parts) l.1 y + if GF n (fun i => (l.2 i).parts) l.1 y < t then 1 else 0))]) 0 (Nat.zero_le _) (by
  simp only [Nat.not_lt_zero,Int.add_zero,↓reduceIte,reduceCtorEq,Nat.reduceEqDiff,Nat.reduceLT,go_sem]
  exact ⟨rfl,by simp only [↓reduceIte,reduceCtorEq,Nat.reduceEqDiff,go_sem]⟩) fun t ht => ?_
 rcases Nat.lt_or_ge t T with htl | htg
 ·have ft : ((t : Int) < (T : Int)) = True := eq_true (by omega)
  obtain ⟨b,b1,b2,b4,b3⟩ := QY (n := n) (p := fun i => (l.2 i).parts) (k := l.1) (t := t) (by omega)
  have gb : BU (fun q => q) 0 (Fg n (fun i => (l.2 i).parts) l.1 l.1) t = b := by
   have := KG (fun q : Nat => q) 0 _ b1
   rwa [Nat.zero_add] at this
  simp only [ft,gb,Int.toNat_natCast,↓reduceIte,reduceCtorEq,Nat.reduceEqDiff,go_sem]
  repeat (with_reducible refine And.intro (by omega) ?_)
  have bf := hfl b b2
  refine Ad (t + 1) (by omega) (by omega) ?_
  simp only [b4,↓reduceIte,reduceCtorEq,Nat.reduceEqDiff,Nat.reduceLT,go_sem]
  rw [BV (by omega),AU (by omega) (by omega)]
  have row : ∀ y,y < l.1 -> ∀ c : Nat,c < 1 -> (if y = b /\ 0 <= c /\ c < 1 then Aq (.cons (.int .i64 (BR n (fun i => (l.2 i).parts) l.1 b + 0 + 1)) .nil) c else .int .i64 (BR n (fun i => (l.2 i).parts) l.1 y + if GF n (fun i => (l.2 i).parts) l.1 y < t then 1 else 0)) = Ae.int .i64 (BR n (fun i => (l.2 i).parts) l.1 y + if GF n (fun i => (l.2 i).parts) l.1 y < t + 1 then 1 else 0) := fun y hy c hc => by
   obtain rfl : c = 0 := by omega
   by_cases e : y = b
   ·rw [if_pos ⟨e,Nat.le_refl _,hc⟩,e,if_pos ((b3 b b2).2 (.inr rfl)),Int.add_zero]; rfl
   rw [if_neg fun h => e h.1]
   have := b3 y hy
   by_cases e2 : GF n (fun i => (l.2 i).parts) l.1 y < t
   ·rw [if_pos e2,if_pos (this.2 (.inl e2))]
   rw [if_neg e2,if_neg fun h => (this.1 h).elim e2 e]
  exact ⟨rfl,⟨rfl,by simp only [↓reduceIte,reduceCtorEq,Nat.reduceEqDiff,go_sem]⟩,row⟩
 have ft : ((t : Int) < (T : Int)) = False := eq_false (by omega)
 obtain rfl : t = T := by omega
 simp only [ft,↓reduceIte,reduceCtorEq,Nat.reduceEqDiff,go_sem]
 have key : ∀ i,i < l.1 -> (BR n (fun i => (l.2 i).parts) l.1 i + if GF n (fun i => (l.2 i).parts) l.1 i < t then 1 else 0) = DZ n (fun i => (l.2 i).parts) l.1 i := fun i hi => by
  unfold DZ CY
  rw [hT]
  show (_ + if D6 _ _ < t then (1 : Int) else 0) = _
  congr 1
  by_cases e : D6 (fun j => Ds n (fun i => (l.2 i).parts) l.1 j i) l.1 < t
  ·rw [if_pos e,if_pos (by omega)]
  rw [if_neg e,if_neg (by omega)]
 exact ⟨fun i hi _ _ => key i hi,.n 4,1,l.1,_,.inl ⟨rfl,rfl⟩,_,rfl,fun i hi j _ => ⟨congrArg (Ae.int .i64) (key i hi).symm,rfl⟩⟩
end Go.Proofs.YtlieoghhkioflaaGreat
namespace Go.Proofs.YtlieoghhkioflaaGreat
open Go Go.RowKit
variable {p : Prop}
variable {G : Nat -> Option (Nat × (Nat -> Ae))}
def TPt {α : Type} (R : RT α) : VT α where
 Is := fun w => ∃ c,w = .vptr R.k c /\ R.W 1 fun _ => c
 of := fun w => match w with | .vptr _ c => R.D (fun _ => c) 0 | _ => R.D (fun _ _ => .und) 0
 enc := fun a => .vptr R.k (R.C a)
 h1 := by
  rintro w ⟨c,rfl,h⟩
  exact ⟨c,rfl,fun j hj => R.h1 1 (fun _ => c) h 0 Nat.zero_lt_one j hj⟩
 h2 := fun a => congrFun (R.h2 fun _ => a) 0
def XB : VT Tu := TPt WE
def WK : VT De := TPt Fx
theorem OJ (a b : Int) : XB.Is (.vptr 2 (Aq (.cons (.int .i64 a) (.cons (.int .i64 b) .nil)))) = True := eq_true ⟨_,rfl,fun _ _ => ⟨rfl,rfl⟩⟩
theorem OY (a b : Int) : XB.of (.vptr 2 (Aq (.cons (.int .i64 a) (.cons (.int .i64 b) .nil)))) = ⟨a,b⟩ := rfl
theorem OS (a b c d e f g h : Int) (n : Nat) (q : Nat -> Hr) : WK.Is (.vptr 9 (Aq (.cons (.int .i64 a) (.cons (.int .i64 b) (.cons (.int .u8 c) (.cons (.int .i64 d) (.cons (.int .i64 e) (.cons (.int .i64 f) (.cons (.int .i64 g) (.cons (.int .i64 h) (.cons (.view 2 n fun i j => (q i).c j) .nil))))))))))) = True := eq_true ⟨_,rfl,fun _ _ => ⟨rfl,rfl,rfl,rfl,rfl,rfl,rfl,rfl,rfl,fun i _ => of_eq_true (Hr.w_c (q i))⟩⟩
theorem Pm (a b c d e f g h : Int) (n : Nat) (q : Nat -> Hr) : WK.of (.vptr 9 (Aq (.cons (.int .i64 a) (.cons (.int .i64 b) (.cons (.int .u8 c) (.cons (.int .i64 d) (.cons (.int .i64 e) (.cons (.int .i64 f) (.cons (.int .i64 g) (.cons (.int .i64 h) (.cons (.view 2 n fun i j => (q i).c j) .nil))))))))))) = ⟨a,b,c,d,e,⟨f,g⟩,h,(n,q)⟩ := rfl
theorem To (a : Tu) : XB.enc a = .vptr 2 a.c := rfl
theorem TZ (a : De) : WK.enc a = .vptr 9 a.c := rfl
attribute [go_sem] OJ OY OS Pm To TZ
inductive Hw where
 | cut (c : Int) | fro (t : Tu) | til (t : Tu) | his (x : De) | bus (x : De) | dth (x : De) | at (m : Int)
def Hw.T : Hw -> Pi -> Prop
 | .cut c,p => p.turn.fro < c /\ c < p.turn.til
 | .fro t,p => p.turn.fro = t.fro
 | .til t,p => p.turn.til = t.til
 | .his x,p => p.owner ≠ x.fro
 | .bus x,p => p.lent ≠ 0 /\ x.day < p.til
 | .dth x,p => p.owner = x.fro
 | .at m,p => p.turn.fro <= m /\ m < p.turn.til
noncomputable def RS : Ay := Aj (Af P3 (Af (Sx TI) AV)) (fun _ => True) fun a => .bool (A8 (a.1.turn.fro < a.2.1 /\ a.2.1 < a.1.turn.til))
noncomputable def Wg : Ay := Aj (Af P3 (Af (Sx TI) AV)) (fun _ => True) fun a => .bool (A8 (a.1.turn.fro <= a.2.1 /\ a.2.1 < a.1.turn.til))
noncomputable def Wz : Ay := Aj (Af P3 (Af XB AV)) (fun _ => True) fun a => .bool (A8 (a.1.turn.fro = a.2.1.fro))
noncomputable def VV : Ay := Aj (Af P3 (Af XB AV)) (fun _ => True) fun a => .bool (A8 (a.1.turn.til = a.2.1.til))
noncomputable def QF : Ay := Aj (Af P3 (Af WK AV)) (fun _ => True) fun a => .bool (A8 (a.1.owner ≠ a.2.1.fro))
noncomputable def QE : Ay := Aj (Af P3 (Af WK AV)) (fun _ => True) fun a => .bool (A8 (a.1.lent ≠ 0 /\ a.2.1.day < a.1.til))
noncomputable def QM : Ay := Aj (Af P3 (Af WK AV)) (fun _ => True) fun a => .bool (A8 (a.1.owner = a.2.1.fro))
noncomputable def LJ : Ay := Aj (Af P3 (Af TI AV)) (fun _ => True) fun a => .bool (A8 (a.1.lent ≠ 0 /\ a.2.1 < a.1.til))
theorem Om [Decidable p] : decide p = A8 p := by
 by_cases h : p
 ·rw [decide_eq_true h,AF h]
 rw [decide_eq_false h,An h]
theorem KN {q : Prop} [Decidable q] (h : p) : decide q = A8 (p /\ q) := by rw [Om]; exact EB ⟨fun k => ⟨h,k⟩,fun k => k.2⟩
theorem Of {q : Prop} (h : ¬ p) : false = A8 (p /\ q) := (An fun k => h k.1).symm
theorem XP : Ai Tryz.prog G 160 RS := by
 refine Ij mixed (S := []) (I := []) (X := []) (N := []) (C := []) .nil .nil .nil Tryz.func160 Zd fun a hp hw => ?_
 obtain ⟨p,c,u⟩ := a
 simp only [XS,Af,AV,↓reduceIte,reduceCtorEq,Nat.reduceEqDiff,Nat.reduceAdd,Nat.reduceLeDiff,go_sem]
 exact ⟨fun h => KN h,fun h => Of h⟩
theorem ZO : Ai Tryz.prog G 58 Wg := by
 refine Ij mixed (S := []) (I := []) (X := []) (N := []) (C := []) .nil .nil .nil Tryz.func58 c58 fun a hp hw => ?_
 obtain ⟨p,c,u⟩ := a
 simp only [a58,Af,AV,↓reduceIte,reduceCtorEq,Nat.reduceEqDiff,Nat.reduceAdd,Nat.reduceLeDiff,go_sem]
 exact ⟨fun h => KN h,fun h => Of h⟩
theorem UL : Ai Tryz.prog G 86 LJ := by
 refine Ij mixed (S := []) (I := []) (X := []) (N := []) (C := []) .nil .nil .nil Tryz.func86 c86 fun a hp hw => ?_
 obtain ⟨p,c,u⟩ := a
 simp only [a86,Af,AV,↓reduceIte,reduceCtorEq,Nat.reduceEqDiff,Nat.reduceAdd,Nat.reduceLeDiff,go_sem]
 exact ⟨fun h => KN h,fun h => (An fun k => k.1 h).symm⟩
theorem Vz {a b : Int} : (a != b) = A8 (a ≠ b) := by
 by_cases h : a = b
 ·subst h; rw [An (fun k => k rfl)]; simp
 rw [AF h]; simp [h]
theorem NK {a b : Int} : (a == b) = A8 (a = b) := by
 by_cases h : a = b
 ·subst h; rw [AF rfl]; simp
 rw [An h]; simp [h]
theorem YN : Ai Tryz.prog G 170 Wz := by
 refine Ij mixed (S := []) (I := []) (X := []) (N := []) (C := []) .nil .nil .nil Tryz.func170 YT fun a hp hw => ?_
 obtain ⟨p,c,u⟩ := a
 simp only [WZ,Af,AV,↓reduceIte,reduceCtorEq,Nat.reduceEqDiff,Nat.reduceAdd,Nat.reduceLeDiff,go_sem]
 exact NK
theorem YF : Ai Tryz.prog G 171 VV := by
 refine Ij mixed (S := []) (I := []) (X := []) (N := []) (C := []) .nil .nil .nil Tryz.func171 Zh fun a hp hw => ?_
 obtain ⟨p,c,u⟩ := a
 simp only [XG,Af,AV,↓reduceIte,reduceCtorEq,Nat.reduceEqDiff,Nat.reduceAdd,Nat.reduceSub,Nat.reduceLeDiff,go_sem]
 exact NK
theorem WS : Ai Tryz.prog G 163 QF := by
 refine Ij mixed (S := []) (I := []) (X := []) (N := []) (C := []) .nil .nil .nil Tryz.func163 Y8 fun a hp hw => ?_
 obtain ⟨p,c,u⟩ := a
 simp only [Xv,Af,AV,↓reduceIte,reduceCtorEq,Nat.reduceEqDiff,Nat.reduceAdd,Nat.reduceSub,Nat.reduceLeDiff,go_sem]
 exact Vz
theorem W9 : Ai Tryz.prog G 143 QM := by
 refine Ij mixed (S := []) (I := []) (X := []) (N := []) (C := []) .nil .nil .nil Tryz.func143 Zm fun a hp hw => ?_
 obtain ⟨p,c,u⟩ := a
 simp only [XM,Af,AV,↓reduceIte,reduceCtorEq,Nat.reduceEqDiff,Nat.reduceAdd,Nat.reduceSub,Nat.reduceLeDiff,go_sem]
 exact NK
theorem WY : Ai Tryz.prog G 147 QE := by
 refine Ij mixed (S := [(86,LJ)]) (I := []) (X := []) (N := []) (C := []) (.cons UL .nil) .nil .nil Tryz.func147 ZD fun a hp hw => ?_
 obtain ⟨p,c,u⟩ := a
 simp only [XV,LJ,Aj,Af,AV,↓reduceIte,reduceCtorEq,Nat.reduceEqDiff,Nat.reduceAdd,Nat.reduceSub,Nat.reduceLeDiff,go_sem]
end Go.Proofs.YtlieoghhkioflaaGreat
