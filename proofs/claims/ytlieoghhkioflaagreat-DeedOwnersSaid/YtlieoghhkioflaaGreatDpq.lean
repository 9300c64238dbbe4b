/- Somebody's pieces go to his heirs, plain. No condition. -/
import Derived.Test.YtlieoghhkioflaaGreatDiy
import Derived.Test.YtlieoghhkioflaaGreatDr3
import Derived.Test.YtlieoghhkioflaaGreatE2
import Derived.Test.YtlieoghhkioflaaGreatProg
import Derived.RecoverIn
import Derived.Recover
import Derived.Tactics2
import Derived.Laws.Pointers
import Derived.Test.YtlieoghhkioflaaGreatDr1
set_option linter.unusedSimpArgs false
set_option linter.unusedVariables false
set_option maxRecDepth 100000
namespace Go.Proofs.YtlieoghhkioflaaGreat
open Go Go.RowKit
noncomputable def DH (P : Pz) (f part : Int) : Int := min ((P.2 (Fk P f)).turn.fro + part) (P.2 (Fk P f)).turn.til
noncomputable def Ew (f v : Int) : Nat -> Pz -> Int -> Pz
 | 0,P,_ => P
 | n + 1,P,part => if 0 < part then Ew f v n (setO (CK P (DH P f part)) (Fk P f) (Fk P f) v) (part - (DH P f part - (P.2 (Fk P f)).turn.fro)) else P
theorem J4 {N n : Nat} {le un : Nat × (Nat -> Int)} {de : Nat × (Nat -> Bool)} {ow : Nat -> Int} {f v : Int} {g : Nat -> Int} (hg : ∀ j,g j ≠ f) : ∀ (k : Nat) (P : Pz) (c : Nat) (part : Nat),part <= k -> By N P -> Rp P ⟨(n,dW ow f g c),le,un,de⟩ -> c + part <= EF ow f N -> (∀ j,c <= j -> j < c + part -> g j = v) ->
  By N (Ew f v k P part) /\ Rp (Ew f v k P part) ⟨(n,dW ow f g (c + part)),le,un,de⟩
 | 0,P,c,part,hk,h1,h2,_,_ => by
  obtain rfl : part = 0 := by omega
  exact ⟨h1,h2⟩
 | k + 1,P,c,part,hk,h1,h2,h3,h4 => by
  rw [Ew]
  by_cases hp : part = 0
  ·subst hp
   rw [if_neg (by omega)]
   exact ⟨h1,h2⟩
  rw [if_pos (by omega)]
  obtain ⟨a,f1,ha,_,_,_⟩ := Ff h1 h2 hg (by omega)
  have hl := h1.lt _ f1
  obtain ⟨L,hL⟩ : ∃ L : Nat,DH P f part = (P.2 (Fk P f)).turn.fro + L := ⟨(DH P f part - (P.2 (Fk P f)).turn.fro).toNat,by
   have : (P.2 (Fk P f)).turn.fro <= DH P f part := by unfold DH; omega
   omega⟩
  have e1 : DH P f part <= (P.2 (Fk P f)).turn.til := by unfold DH; omega
  have e2 : DH P f part <= (P.2 (Fk P f)).turn.fro + part := by unfold DH; omega
  have e3 : (P.2 (Fk P f)).turn.fro < DH P f part := by unfold DH; omega
  obtain ⟨s1,s2,_,_⟩ := Ml h1 h2 hg (by omega) e3 e1 hL (v := v) fun j j1 j2 => h4 j j1 (by omega)
  have hpart : (part : Int) - (DH P f part - (P.2 (Fk P f)).turn.fro) = ((part - L : Nat) : Int) := by omega
  rw [hpart]
  have ih := J4 hg k _ (c + L) (part - L) (by omega) s1 s2 (by omega) fun j j1 j2 => h4 j (by omega) (by omega)
  rw [show c + L + (part - L) = c + part by omega] at ih
  exact ih
noncomputable def EE (f : Int) (who each : Nat -> Int) (P : Pz) : Nat -> Pz
 | 0 => P
 | i + 1 => Ew f (who i) (each i).toNat (EE f who each P i) (each i)
theorem HB {N n : Nat} {le un : Nat × (Nat -> Int)} {de : Nat × (Nat -> Bool)} {ow : Nat -> Int} {f : Int} {who each : Nat -> Int} {g : Nat -> Int} {P : Pz} {m : Nat} (hg : ∀ j,g j ≠ f) (h1 : By N P) (h2 : Rp P ⟨(n,dW ow f g 0),le,un,de⟩) (h0 : ∀ i,i < m -> 0 <= each i) (h3 : Aw each m = EF ow f N) (h4 : ∀ i,i < m -> ∀ j : Nat,Aw each i <= j -> (j : Int) < Aw each (i + 1) -> g j = who i) : ∀ i,i <= m ->
  ∃ c : Nat,Aw each i = c /\ By N (EE f who each P i) /\ Rp (EE f who each P i) ⟨(n,dW ow f g c),le,un,de⟩
 | 0,_ => ⟨0,rfl,h1,h2⟩
 | i + 1,hi => by
  obtain ⟨c,c1,c2,c3⟩ := HB hg h1 h2 h0 h3 h4 i (by omega)
  obtain ⟨q,hq⟩ : ∃ q : Nat,each i = q := ⟨(each i).toNat,(Int.toNat_of_nonneg (h0 i (by omega))).symm⟩
  have hs : Aw each (i + 1) = ((c + q : Nat) : Int) := by rw [Aw,c1,hq]; omega
  have hu := DR (f := each) (len := m) h0 hi (Nat.le_refl _)
  rw [EE,hq,Int.toNat_natCast]
  have := J4 hg q (EE f who each P i) c q (Nat.le_refl _) c2 c3 (by omega) fun j j1 j2 => h4 i (by omega) j (by omega) (by omega)
  exact ⟨c + q,hs,this.1,this.2⟩
end Go.Proofs.YtlieoghhkioflaaGreat
namespace Go.Proofs.YtlieoghhkioflaaGreat
open Go Go.RowKit
variable {b : Bk} {x : De} {N : Nat} {P : Pz} {r : Ro}
theorem Rp.congr {b' : Bk} (h : By N P) (hr : Rp P b) (h1 : ∀ m,m < N -> b'.ow.2 m = b.ow.2 m) (h2 : ∀ m,m < N -> b'.le.2 m = b.le.2 m) (h3 : ∀ m,m < N -> b'.un.2 m = b.un.2 m) : Rp P b' := by
 refine ⟨fun i hi m m1 m2 => ?_,fun i hi m m1 m2 => ?_,fun i hi m m1 m2 m3 => ?_⟩
 all_goals
  have hN := (h.rng hi).2
 ·rw [h1 m (by omega)]; exact hr.ow i hi m m1 m2
 ·rw [h2 m (by omega)]; exact hr.le i hi m m1 m2
 rw [h3 m (by omega)]; exact hr.un i hi m m1 m2 m3
noncomputable def EG (P : Pz) (b : Bk) (x : De) : Pz :=
 if (b.de.2 x.fro.toNat || b.de.2 x.tow.toNat) = true then P
 else if x.kind = 3 then EE x.fro (fun i => (hl (Bm b x) i).who) (AA b x) (CF P x.fro P.1) (Bm b x).length
 else if A8 (HW b x) = true then
  (if x.kind = 4 then (if A8 (Ld b x) = true then LR (Ce P x.turn) (Cf (Ce P x.turn) x.turn) (CN (Ce P x.turn) x.turn) x.tow x.til else Ce P x.turn)
  else setO (Ce P x.turn) (Cf (Ce P x.turn) x.turn) (CN (Ce P x.turn) x.turn) (if x.kind = 1 then x.tow else 0))
 else Ce P x.turn
theorem Rn (hN : (N : Int) = 1440 * r.days) (h : By N P) (hr : Rp P b) (hx : DG r x) (hk : x.kind ≠ 3) : By N (EG P b x) /\ Rp (EG P b x) (FN b x) := by
 have hm : FE r x := by
  rcases hx.2.2.2.2.2.2 with q | q | q | q
  ·exact q.2.2.1
  ·exact q.2.1
  ·exact absurd q.1 hk
  exact q.2.2.1
 have h4 : x.kind = 1 \/ x.kind = 2 \/ x.kind = 4 := by
  rcases hx.2.2.2.2.2.2 with q | q | q | q
  ·exact .inl q.1
  ·exact .inr (.inl q.1)
  ·exact absurd q.1 hk
  exact .inr (.inr q.1)
 obtain ⟨m1,m2,m3⟩ := hm
 have ho := Kz h m1 m2 (by omega)
 have hro : Rp (Ce P x.turn) b := I7 (I7 hr _) _
 unfold EG FN CB
 by_cases c1 : (b.de.2 x.fro.toNat || b.de.2 x.tow.toNat) = true
 ·rw [if_pos c1,if_pos c1,if_neg (by omega)]; exact ⟨h,hr⟩
 rw [if_neg c1,if_neg c1,if_neg hk]
 by_cases c2 : HW b x
 ·rw [AF c2,if_pos rfl,if_pos rfl]
  by_cases c3 : x.kind = 4
  ·rw [if_pos c3,if_pos c3]
   by_cases c4 : Ld b x
   ·rw [AF c4,if_pos rfl,if_pos rfl,if_pos rfl]
    unfold K7
    rw [if_neg hk,if_neg (by omega),if_neg (by omega),if_pos c3]
    exact ⟨ho.ok.same rfl (KE _ _ _ _ _),Uf ho hro _ _⟩
   rw [An c4,if_neg Bool.false_ne_true,if_neg Bool.false_ne_true,if_neg (by omega)]; exact ⟨ho.ok,hro⟩
  rw [if_neg c3,if_neg c3,if_pos rfl]
  unfold K7
  rw [if_neg hk]
  by_cases c5 : x.kind = 1
  ·rw [if_pos c5,if_pos c5]
   exact ⟨ho.ok.same rfl (E8 _ _ _ _),NS ho hro _⟩
  rw [if_neg c5,if_neg c5,if_pos (by omega)]
  exact ⟨ho.ok.same rfl (E8 _ _ _ _),NS ho hro _⟩
 rw [An c2,if_neg Bool.false_ne_true,if_neg Bool.false_ne_true,if_neg (by omega)]
 exact ⟨ho.ok,hro⟩
theorem IU (de : Nat -> Bool) (l : Nat × (Nat -> Hr)) : ∀ k,∀ h ∈ Cm de l k,de h.who.toNat = false
 | 0,h,hh => by cases hh
 | k + 1,h,hh => by
  rw [Cm] at hh
  split at hh
  ·exact IU de l k h hh
  rename_i hd
  rcases List.mem_append.1 hh with q | q
  ·exact IU de l k h q
  rw [List.mem_singleton] at q; rw [q]; simpa using hd
theorem Mn (L : List Hr) (i : Nat) : (i < L.length /\ hl L i ∈ L) \/ (L.length <= i /\ hl L i = ⟨0,0⟩) := by
 unfold hl
 by_cases e : i < L.length
 ·exact .inl ⟨e,by rw [List.getD_eq_getElem?_getD,List.getElem?_eq_getElem e]; exact List.getElem_mem e⟩
 exact .inr ⟨by omega,by rw [List.getD_eq_getElem?_getD,List.getElem?_eq_none (by omega)]; rfl⟩
theorem Nk (h1 : 1 <= x.fro) (i : Nat) : (hl (Bm b x) i).who ≠ x.fro := by
 rcases Mn (Bm b x) i with ⟨_,hm⟩ | ⟨_,hm⟩
 ·generalize hl (Bm b x) i = h at *
  unfold Bm at hm
  split at hm
  ·rw [List.mem_singleton] at hm; rw [hm]; show (0 : Int) ≠ x.fro; omega
  have := IU _ _ _ h hm
  intro k
  rw [k] at this
  unfold Fm at this
  rw [if_pos rfl] at this; cases this
 rw [hm]; show (0 : Int) ≠ x.fro; omega
theorem Qo (h : EZ x.fro x.heirs) : 1 <= (Bm b x).length /\ ∀ i,i < (Bm b x).length -> 1 <= (hl (Bm b x) i).parts := by
 have hp : ∀ h' ∈ Bm b x,1 <= h'.parts := fun h' hm => by
  unfold Bm at hm
  split at hm
  ·rw [List.mem_singleton] at hm; rw [hm]; exact Int.le_refl _
  obtain ⟨i,i1,rfl⟩ := IK _ _ _ h' hm
  exact (h.2.2 i i1).2.2.2.1
 refine ⟨?_,fun i hi => ?_⟩
 ·unfold Bm
  split
  ·exact Nat.le_refl _
  rename_i hz; omega
 rcases Mn (Bm b x) i with ⟨_,hm⟩ | ⟨hq,_⟩
 ·exact hp _ hm
 omega
theorem Qp (h : By N P) (hr : Rp P b) (hb : LO b N) (hx : DG r x) (hk : x.kind = 3) : By N (EG P b x) /\ Rp (EG P b x) (FN b x) := by
 have hq : EZ x.fro x.heirs /\ x.turn.fro = 0 /\ x.turn.til = 0 := by
  rcases hx.2.2.2.2.2.2 with q | q | q | q
  ·omega
  ·omega
  ·exact ⟨q.2.1,q.2.2.2.1,q.2.2.2.2.1⟩
  omega
 obtain ⟨hH,t1,t2⟩ := hq
 have hf := hx.2.2.2.2.1
 unfold EG FN CB
 by_cases c1 : (b.de.2 x.fro.toNat || b.de.2 x.tow.toNat) = true
 ·rw [if_pos c1,if_pos c1,if_neg (by omega)]; exact ⟨h,hr⟩
 have c2 : HW b x := fun m a c => by omega
 rw [if_neg c1,if_neg c1,if_pos hk,AF c2,if_pos rfl,if_neg (show ¬ x.kind = 4 by omega),if_pos rfl]
 unfold K7
 rw [if_pos hk]
 obtain ⟨p1,p2⟩ := Qo (b := b) hH
 have hE : By N (CF P x.fro P.1) := h.same rfl fun k => by
  show (if k < P.1 /\ (P.2 k).lent = x.fro then { P.2 k with lent := 0,til := 0 } else P.2 k).turn = _
  split <;> rfl
 have hRE := QD hr x.fro
 have hs0 : 0 < Aw (fun i => (hl (Bm b x) i).parts) (Bm b x).length := by
  have := (Hm (fun i => (hl (Bm b x) i).parts) (Bm b x).length fun i hi => by have := p2 i hi; omega).2 0 (by omega)
  have := p2 0 (by omega)
  omega
 have hbN : b.ow.1 = N := hb.1
 have hsum : Aw (AA b x) (Bm b x).length = EF b.ow.2 x.fro N := by
  have := IZ (n := (Bq b x b.ow.1 : Nat)) (p := fun i => (hl (Bm b x) i).parts) (k := (Bm b x).length) (by omega) hs0
  rw [show (EF b.ow.2 x.fro N) = Bq b x b.ow.1 by rw [hbN]; rfl]
  exact this
 have hnn : ∀ i,i < (Bm b x).length -> 0 <= AA b x i := fun i hi => KP (by omega) (by have := p2 i hi; omega) hs0
 have hW : ∀ m,dW b.ow.2 x.fro (fun j => (hl (Bm b x) (D3 (AA b x) (Bm b x).length j)).who) 0 m = b.ow.2 m := fun m => by unfold dW; rw [if_neg (by omega)]
 obtain ⟨c,c3,c4,c5⟩ := HB (n := b.ow.1) (le := (b.le.1,fun m => if b.le.2 m = x.fro then 0 else b.le.2 m)) (un := b.un) (de := b.de) (f := x.fro) (who := fun i => (hl (Bm b x) i).who) (each := AA b x) (g := fun j => (hl (Bm b x) (D3 (AA b x) (Bm b x).length j)).who) (m := (Bm b x).length) (fun j => Nk hf _) hE
  (hRE.congr hE (fun m _ => hW m) (fun _ _ => rfl) fun _ _ => rfl) hnn hsum (fun i hi j j1 j2 => by
   have : D3 (AA b x) (Bm b x).length j = i := DT hi j2 fun q hq => by
    have := DR (f := AA b x) (len := (Bm b x).length) hnn (show q + 1 <= i by omega) (by omega)
    omega
   rw [this]) (Bm b x).length (Nat.le_refl _)
 refine ⟨c4,c5.congr c4 (fun m hm => ?_) (fun m hm => rfl) fun m hm => rfl⟩
 show (if b.ow.2 m = x.fro then (hl (Bm b x) (D3 (AA b x) (Bm b x).length (Bq b x m))).who else b.ow.2 m) = dW b.ow.2 x.fro (fun j => (hl (Bm b x) (D3 (AA b x) (Bm b x).length j)).who) c m
 unfold dW
 by_cases e : b.ow.2 m = x.fro
 ·have e2 : EF b.ow.2 x.fro m < c := by
   have h6 := Ot b.ow.2 x.fro m
   rw [if_pos e] at h6
   have h7 := QC b.ow.2 x.fro (show m + 1 <= N by omega)
   omega
  rw [if_pos e,if_pos ⟨e,e2⟩]; rfl
 rw [if_neg e,if_neg fun k => e k.1]
noncomputable def HT (r : Ro) (l : Nat -> De) : Nat -> Pz
 | 0 => WG r
 | k + 1 => EG (HT r l k) (Dh r l k) (l k)
theorem Hn {l : Nat -> De} (h : Fq r) : ∀ k,(∀ i,i < k -> DG r (l i)) -> By (AE r) (HT r l k) /\ Rp (HT r l k) (Dh r l k)
 | 0,_ => ⟨UP h,XL h⟩
 | k + 1,hl => by
  obtain ⟨h1,h2⟩ := Hn h k fun i hi => hl i (by omega)
  have hN : ((AE r : Nat) : Int) = 1440 * r.days := by unfold AE; have := h.1; omega
  rw [HT,Dh]
  by_cases e : (l k).kind = 3
  ·exact Qp h1 h2 (Dx r l k) (hl k (by omega)) e
  exact Rn hN h1 h2 (hl k (by omega)) e
end Go.Proofs.YtlieoghhkioflaaGreat
namespace Go.Proofs.YtlieoghhkioflaaGreat
open Go Go.RowKit
theorem O4 (p : Addr) (w : World) :
  CallsDIn (FW none) 0 Tryz.prog 102 #[.pointer (some p)] .returning w fun e u' w' => e = .returned (.tuple #[]) /\ u' = .returning /\ w' = w := by
 refine callsDIn_of_wpSIn Tryz.func102 rfl trivial fun c₀ cs hu => ?_
 apply wpSIn_seq
 apply wpSIn_region
 simp [wpOpsSIn,go_sem,recoverD,hu,Tryz.ntmps102,Exit.thenS]
 apply wpSIn_seq
 apply wpSIn_region
 simp [wpOpsSIn,go_sem,Exit.thenS]
 refine wpSIn_cond (t := false) (by simp [Act.eval,Array.replicate]) ?_
 simp only [Bool.false_eq_true,if_false]
 refine wpSIn_of_wpIn rfl (wpIn_skip ?_)
 cases c₀
 simp_all [bodyPostS,results,Tryz.results102]
theorem QT (p : Addr) (z y : Int) (w : World) (hc : w.cell? p = some (.int .u8 y)) (hz : w.frozen? p = false) :
  CallsDIn (FW none) 0 Tryz.prog 102 #[.pointer (some p)] (.panicking [{ v := .iface 164 (.int .u8 z),recovered := false }]) w fun e u' w' =>
   e = .returned (.tuple #[]) /\ u' = .panicking [{ v := .iface 164 (.int .u8 z),recovered := true }] /\ w' = w.setCell p (.int .u8 z) := by
 refine callsDIn_of_wpSIn Tryz.func102 rfl trivial fun c₀ cs hu => ?_
 apply wpSIn_seq
 apply wpSIn_region
 simp [wpOpsSIn,go_sem,recoverD,hu,Tryz.ntmps102,Exit.thenS]
 apply wpSIn_seq
 apply wpSIn_region
 simp [wpOpsSIn,go_sem,Exit.thenS]
 refine wpSIn_cond (t := true) (by simp [Act.eval,Array.replicate]) ?_
 simp only [if_true]
 apply wpSIn_seq
 apply wpSIn_region
 simp [wpOpsSIn,go_sem,Exit.thenS]
 apply wpSIn_seq
 apply wpSIn_seq
 apply wpSIn_region
 simp [wpOpsSIn,go_sem,Exit.thenS]
 refine wpSIn_cond (t := false) (by simp [Act.eval,Array.replicate]) ?_
 simp only [Bool.false_eq_true,if_false]
 refine wpSIn_of_wpIn rfl (wpIn_skip ?_)
 simp only [Exit.thenS]
 apply wpSIn_region
 simp [wpOpsSIn,go_sem,hc,hz,bodyPostS,results,Tryz.results102]
theorem ON : D9 Tryz.prog 102 164 .u8 := by
 refine ⟨HD Tryz.func102 rfl rfl,fun g w => O4 _ w,fun g z y t w hg => ?_⟩
 have hc : w.cell? ⟨g,0,none⟩ = some (.int .u8 y) := by simp [World.cell?,hg]
 have hz : w.frozen? ⟨g,0,none⟩ = false := by simp [World.frozen?,hg]
 have h := QT ⟨g,0,none⟩ z y w hc hz
 rw [setCell_eq_setRow w g 0 _ t (0,0) _ hg] at h
 exact h
end Go.Proofs.YtlieoghhkioflaaGreat
namespace Go.Proofs.YtlieoghhkioflaaGreat
open Go Go.RowKit
variable {G : Nat -> Option (Nat × (Nat -> Ae))}
def Pa : Ae := .cons (.bool true) (.cons (.bool true) (.cons (.bool false) (.cons (.bool false) (.cons (.func (.func 119) .nil) .nil))))
def PI : Ae := .cons (.bool false) (.cons (.bool true) (.cons (.bool false) (.cons (.bool false) (.cons (.func (.func 120) .nil) .nil))))
def PE : Ae := .cons (.bool false) (.cons (.bool false) (.cons (.bool false) (.cons (.bool true) (.cons (.func (.func 121) .nil) .nil))))
def PO : Ae := .cons (.bool true) (.cons (.bool true) (.cons (.bool true) (.cons (.bool false) (.cons (.func (.func 122) .nil) .nil))))
def HZ (k : Int) : Ae := if k = 4 then PO else if k = 3 then PE else if k = 2 then PI else Pa
def HM (k : Int) : Bool := k == 4 || k == 3 || k == 2 || k == 1
noncomputable def D0 : Ay := Aj AV (fun _ => True) fun _ => .mview .u8 HM fun k => .agg (HZ k)
theorem RV : Ai Tryz.prog G 104 D0 := by
 refine Ij mixed (S := []) (I := []) (X := []) (N := []) (C := []) .nil .nil .nil Tryz.func104 Yj fun a _ hw => ?_
 simp only [Xx,AV,↓reduceIte,Nat.reduceEqDiff,Nat.reduceAdd,Nat.reduceLeDiff,go_sem]
 refine ⟨fun k hk => ?_,fun k => ?_⟩
 ·split at hk
  ·rename_i h; subst h; simp only [↓reduceIte,Nat.reduceAdd,go_sem]
  split at hk
  ·rename_i h; subst h; simp only [show ((3 : Int) = 4) = False from eq_false (by omega),↓reduceIte,Nat.reduceAdd,go_sem]
  split at hk
  ·rename_i h; subst h; simp only [show ((2 : Int) = 4) = False from eq_false (by omega),show ((2 : Int) = 3) = False from eq_false (by omega),↓reduceIte,Nat.reduceAdd,go_sem]
  split at hk
  ·rename_i h; subst h; simp only [show ((1 : Int) = 4) = False from eq_false (by omega),show ((1 : Int) = 3) = False from eq_false (by omega),show ((1 : Int) = 2) = False from eq_false (by omega),↓reduceIte,Nat.reduceAdd,go_sem]
  cases hk
 by_cases h4 : k = 4
 ·subst h4; refine ⟨rfl,fun _ => ?_⟩; simp only [HZ,PO,↓reduceIte,go_sem]
 by_cases h3 : k = 3
 ·subst h3; refine ⟨rfl,fun _ => ?_⟩; simp only [HZ,PE,show ((3 : Int) = 4) = False from eq_false (by omega),↓reduceIte,go_sem]
 by_cases h2 : k = 2
 ·subst h2; refine ⟨rfl,fun _ => ?_⟩; simp only [HZ,PI,show ((2 : Int) = 4) = False from eq_false (by omega),show ((2 : Int) = 3) = False from eq_false (by omega),↓reduceIte,go_sem]
 by_cases h1 : k = 1
 ·subst h1; refine ⟨rfl,fun _ => ?_⟩; simp only [HZ,Pa,show ((1 : Int) = 4) = False from eq_false (by omega),show ((1 : Int) = 3) = False from eq_false (by omega),show ((1 : Int) = 2) = False from eq_false (by omega),↓reduceIte,go_sem]
 have : HM k = false := by
  unfold HM
  rw [beq_eq_false_iff_ne.2 h4,beq_eq_false_iff_ne.2 h3,beq_eq_false_iff_ne.2 h2,beq_eq_false_iff_ne.2 h1]; rfl
 refine ⟨?_,fun h => by rw [this] at h; cases h⟩
 rw [this,if_neg h4,if_neg h3,if_neg h2,if_neg h1]
noncomputable def Lo : Ay := Cs JS O6 (fun r _ => 1 <= r.days /\ r.days <= 16) fun r x => .bool (A8 (DG r x))
theorem VG : Ai Tryz.prog G 96 Lo := by
 refine MC (S := [(104,D0),(83,MD),(105,JN),(84,KH),(82,G8),(115,NA)]) (I := []) mixed (.cons RV (.cons Xp (.cons WN (.cons XI (.cons UI (.cons Zc .nil)))))) .nil Tryz.func96 c96 fun r x hp hw => ?_
 obtain ⟨h1,h2⟩ := hp
 simp only [Nat.reduceSub,Nat.reducePow,go_sem] at hw
 by_cases k4 : x.kind = 4
 ·have eH : HM x.kind = true := by rw [k4]; rfl
  have eL : HZ x.kind = PO := by rw [k4]; rfl
  simp only [A9,WJ,D0,eH,eL,PO,Aj,AV,MD,JN,KH,G8,NA,↓reduceIte,reduceCtorEq,Nat.reduceEqDiff,Nat.reduceAdd,Nat.reduceSub,Nat.reduceLeDiff,Nat.reduceLT,go_sem]
  simp only [Ek,A2,BJ]
  by_cases hh : EZ x.fro x.heirs
  all_goals
   simp only [DG,FE,EY,hh,true_and,false_and,and_false,false_or]
   repeat' (first | (with_reducible apply And.intro) | intro _)
   all_goals (try simp (disch := omega) only [AU] at *)
   all_goals first
    | omega
    | exact (An fun k => by omega).symm
    | exact (AF (by omega)).symm
    | exact OX (by omega)
    | exact O2 (by omega)
 by_cases k3 : x.kind = 3
 ·have eH : HM x.kind = true := by rw [k3]; rfl
  have eL : HZ x.kind = PE := by rw [k3]; rfl
  simp only [A9,WJ,D0,eH,eL,PE,Aj,AV,MD,JN,KH,G8,NA,hw,↓reduceIte,reduceCtorEq,Nat.reduceEqDiff,Nat.reduceAdd,Nat.reduceSub,Nat.reduceLeDiff,Nat.reduceLT,Nat.reducePow,go_sem]
  simp only [Ek,A2,BJ,Bool.and_eq_true,beq_iff_eq,Bool.and_eq_false_iff,beq_eq_false_iff_ne]
  by_cases hh : EZ x.fro x.heirs
  all_goals
   simp only [DG,FE,EY,hh,AF,An,not_false_eq_true,true_and,false_and,and_false,false_or]
   repeat' (first | (with_reducible apply And.intro) | intro _)
   all_goals (try simp (disch := omega) only [AU] at *)
   all_goals first
    | omega
    | exact (An fun k => by omega).symm
    | exact (AF (by omega)).symm
    | exact OX (by omega)
    | exact O2 (by omega)
 by_cases k2 : x.kind = 2
 ·have eH : HM x.kind = true := by rw [k2]; rfl
  have eL : HZ x.kind = PI := by rw [k2]; rfl
  simp only [A9,WJ,D0,eH,eL,PI,Aj,AV,MD,JN,KH,G8,NA,↓reduceIte,reduceCtorEq,Nat.reduceEqDiff,Nat.reduceAdd,Nat.reduceSub,Nat.reduceLeDiff,Nat.reduceLT,go_sem]
  simp only [Ek,A2,BJ]
  by_cases hh : EZ x.fro x.heirs
  all_goals
   simp only [DG,FE,EY,hh,true_and,false_and,and_false,false_or]
   repeat' (first | (with_reducible apply And.intro) | intro _)
   all_goals (try simp (disch := omega) only [AU] at *)
   all_goals first
    | omega
    | exact (An fun k => by omega).symm
    | exact (AF (by omega)).symm
    | exact OX (by omega)
    | exact O2 (by omega)
 by_cases k1 : x.kind = 1
 ·have eH : HM x.kind = true := by rw [k1]; rfl
  have eL : HZ x.kind = Pa := by rw [k1]; rfl
  simp only [A9,WJ,D0,eH,eL,Pa,Aj,AV,MD,JN,KH,G8,NA,↓reduceIte,reduceCtorEq,Nat.reduceEqDiff,Nat.reduceAdd,Nat.reduceSub,Nat.reduceLeDiff,Nat.reduceLT,go_sem]
  simp only [Ek,A2,BJ]
  by_cases hh : EZ x.fro x.heirs
  all_goals
   simp only [DG,FE,EY,hh,true_and,false_and,and_false,false_or]
   repeat' (first | (with_reducible apply And.intro) | intro _)
   all_goals (try simp (disch := omega) only [AU] at *)
   all_goals first
    | omega
    | exact (An fun k => by omega).symm
    | exact (AF (by omega)).symm
    | exact OX (by omega)
    | exact O2 (by omega)
 have eH : HM x.kind = false := by
  unfold HM
  rw [beq_eq_false_iff_ne.2 k4,beq_eq_false_iff_ne.2 k3,beq_eq_false_iff_ne.2 k2,beq_eq_false_iff_ne.2 k1]; rfl
 simp only [A9,WJ,D0,eH,Aj,AV,MD,JN,KH,G8,NA,↓reduceIte,reduceCtorEq,Nat.reduceEqDiff,Nat.reduceAdd,Nat.reduceSub,Nat.reduceLeDiff,Nat.reduceLT,go_sem]
 try simp only [Ek,A2,BJ,Bool.and_eq_true,beq_iff_eq,Bool.and_eq_false_iff,beq_eq_false_iff_ne]
 by_cases hh : EZ x.fro x.heirs
 all_goals
  simp only [DG,FE,EY,hh,true_and,false_and,and_false,false_or]
  repeat' (first | (with_reducible apply And.intro) | intro _)
  all_goals (try simp (disch := omega) only [AU] at *)
  all_goals first
   | omega
   | exact (An fun k => by omega).symm
   | exact (AF (by omega)).symm
   | exact OX (by omega)
   | exact O2 (by omega)
end Go.Proofs.YtlieoghhkioflaaGreat
