/- Deeds: slices.Insert at pieces, of one piece: a row with one piece more. Conditions: bounds of the row's length. -/
import Derived.Test.YtlieoghhkioflaaGreatLDez
import Derived.Test.YtlieoghhkioflaaGreatDr1
set_option linter.unusedSimpArgs false
set_option linter.unusedVariables false
namespace Go.Proofs.YtlieoghhkioflaaGreat
open Go Go.RowKit
variable {vs xs : List Value} {i j n : Nat}
variable {G : Nat -> Option (Nat × (Nat -> Ae))}
def Pd (p : Nat -> Pi) (k : Nat) (x : Pi) (i : Nat) : Pi := if i < k then p i else if i = k then x else p (i - 1)
noncomputable def Tb : Ay := (Aj (Af (DQ Lt) (Af TI (Af (DQ Lt) AV))) (fun a => 1 <= a.1.1 /\ a.1.1 <= 100000 /\ 0 <= a.2.1 /\ a.2.1 <= a.1.1 /\ a.2.2.1.1 = 1) fun a => .view 5 (a.1.1 + 1) fun i j => (Pd a.1.2 a.2.1.toNat (a.2.2.1.2 0) i).c j).mine 107
theorem Sm (x : Pi) (hj : j < 5) : ∃ z,x.c j = .int .i64 z := by
 rcases (by omega : j = 0 \/ j = 1 \/ j = 2 \/ j = 3 \/ j = 4) with rfl | rfl | rfl | rfl | rfl <;> exact ⟨_,rfl⟩
theorem Nb {w w' : World} {A A' : Nat -> Prop} (x : Pi) (hj : j < 5) {y : Value} (h : Ao w A (x.c j) y) : Ao w' A' (x.c j) y := by
 obtain ⟨z,hz⟩ := Sm x hj
 rw [hz] at h ⊢; exact h
theorem Q5 {c : Nat -> Nat -> Ae} (h : Lt.W n c) (hi : i < n) (hj : j < 5) : c i j = (Lt.D c i).c j := by
 have := Lt.h1 n c h i hi j hj
 obtain ⟨z,hz⟩ := Sm (Lt.D c i) hj
 have e : Lt.C (Lt.D c i) j = (Lt.D c i).c j := rfl
 rw [e,hz] at this
 rw [hz]
 exact this
theorem J7 {cur : List Value} {q : Nat} (ht : cur.take (n * 5) = xs) (hi : i <= n) (hq : q < (n + 1) * 5) : IY cur vs i q = IY xs vs i q := by
 have h : ∀ p,p < n * 5 -> xs[p]? = cur[p]? := fun p hp => by rw [<- ht,List.getElem?_take,if_pos hp]
 unfold IY
 by_cases e1 : q < i * 5
 ·rw [if_pos e1,if_pos e1,h q (by omega)]
 by_cases e2 : q < i * 5 + 5
 ·rw [if_neg e1,if_neg e1,if_pos e2,if_pos e2]
 rw [if_neg e1,if_neg e1,if_neg e2,if_neg e2,h (q - 5) (by omega)]
theorem So {q : Nat} (hl : xs.length = n * 5) (hq : q < (n + 1) * 5) : (xs ++ vs)[q]? = IY xs vs n q := by
 unfold IY
 rw [List.getElem?_append,hl]
 by_cases e1 : q < n * 5
 ·rw [if_pos e1,if_pos e1]
 rw [if_neg e1,if_neg e1,if_pos (by omega)]
theorem K9 {w w' : World} {A : Nat -> Prop} {c c1 : Nat -> Nat -> Ae} {xs' : List Value} (hw : Lt.W n c) (hw1 : Lt.W 1 c1) (hi : i <= n)
  (f5 : ∀ i,i < n -> ∀ j,j < 5 -> ∃ y,xs[i * 5 + j]? = some y /\ y.oneCell' = true /\ Ao w A (c i j) y) (hv : ∀ j,j < 5 -> ∃ y,vs[j]? = some y /\ y.oneCell' = true /\ Ao w A (c1 0 j) y)
  (hq : ∀ q,q < (n + 1) * 5 -> xs'[q]? = IY xs vs i q) : ∀ k,k < n + 1 -> ∀ j,j < 5 -> ∃ y,xs'[k * 5 + j]? = some y /\ y.oneCell' = true /\ Ao w' (fun _ => False) ((Pd (Lt.D c) i (Lt.D c1 0) k).c j) y := by
 intro k hk j hj
 rw [hq (k * 5 + j) (by omega)]
 unfold IY Pd
 by_cases e1 : k < i
 ·obtain ⟨y,y1,y2,y3⟩ := f5 k (by omega) j hj
  rw [Q5 hw (by omega) hj] at y3
  rw [if_pos (by omega),if_pos e1]
  exact ⟨y,y1,y2,Nb _ hj y3⟩
 by_cases e2 : k = i
 ·obtain ⟨y,y1,y2,y3⟩ := hv j hj
  rw [Q5 hw1 (by omega) hj] at y3
  rw [if_neg (by omega),if_neg e1,if_pos (by omega),if_pos e2,show k * 5 + j - i * 5 = j by omega]
  exact ⟨y,y1,y2,Nb _ hj y3⟩
 obtain ⟨y,y1,y2,y3⟩ := f5 (k - 1) (by omega) j hj
 rw [Q5 hw (by omega) hj] at y3
 rw [if_neg (by omega),if_neg e1,if_neg (by omega),if_neg e2,show k * 5 + j - 5 = (k - 1) * 5 + j by omega]
 exact ⟨y,y1,y2,Nb _ hj y3⟩
set_option maxHeartbeats 1000000 in
theorem Y4 : Cr Tryz.prog G 161 0 Tb := by
 refine ⟨HD Tryz.func161 rfl rfl,fun A w vs us cs ds L e0 k n c hl1 hl2 hA hG hr hr' hrow hee hp => ?_⟩
 obtain rfl : vs = [] := List.eq_nil_of_length_eq_zero hl1
 obtain rfl : cs = [] := List.eq_nil_of_length_eq_zero hl2
 obtain ⟨⟨⟨rfl,hw⟩,h2⟩,hn⟩ := hp
 obtain rfl : e0 = 107 := hee _ rfl
 rcases us with _ | ⟨u0,_ | ⟨u1,_ | ⟨u2,us⟩⟩⟩
 ·exact h2.elim
 ·exact h2.2.elim
 ·obtain ⟨hu0,hu1,-⟩ := h2
  obtain ⟨d0,ds0,he0,hd0,hr'⟩ := hr'
  obtain rfl : ds = d0 :: ds0 := by simpa using he0
  obtain ⟨d1,ds1,he1,hd1,hr'⟩ := hr'
  obtain rfl : ds0 = d1 :: ds1 := by simpa using he1
  obtain rfl : ds1 = [] := by
   have h : (Value.tuple ⟨ds1⟩) = .tuple #[] := hr'
   simpa using h
  obtain ⟨n1,n2,n3,n4,n5⟩ := hn
  cases u0 <;> simp only [NW,VL,TI] at hu0
  rename_i kk z
  subst hu0
  cases u1 <;> simp only [DQ,Tl] at hu1
  rename_i k1 m1 c1
  obtain ⟨rfl,hw1⟩ := hu1
  obtain rfl : m1 = 1 := n5
  have n1 : 1 <= n := n1
  have n2 : n <= 100000 := n2
  have n3 : 0 <= z := n3
  have n4 : z <= n := n4
  obtain rfl : d0 = .int .i64 z := hd0
  obtain ⟨va,vc,rfl,v1,v2,v3⟩ := hd1
  obtain ⟨vb,voff,rfl,v4,v5,v6⟩ := v3 (by omega)
  obtain ⟨f1,f2,f3,xs,f4,f5⟩ := hrow
  obtain ⟨i,rfl⟩ : ∃ i : Nat,z = i := ⟨z.toNat,by omega⟩
  obtain ⟨nl,hn⟩ := f4
  rcases hn with ⟨q1,q2⟩ | ⟨g,cap,cur,q1,q2,q3,q4,q5,q6,q7⟩
  ·omega
  have hL : L.a = some g /\ L.cap = cap := by
   cases h : L.a with
   | none => rw [h] at q1; simp at q1
   | some g' => rw [h] at q1; simp at q1; exact ⟨by rw [q1.1],q1.2⟩
  obtain ⟨hLa,hLc⟩ := hL
  have q7 : cur.toList.take (n * 5) = xs := q7
  have q6 : cur.size = cap * 5 := q6
  have nl : xs.length = n * 5 := nl
  have hvb : vb ≠ g := fun e => hA vb v5 (by rw [hLa,e])
  have hlt : g < w.heap.size := (Array.getElem?_eq_some_iff.1 q3).1
  have v6' : ∀ j,j < 5 -> ∃ y,w.cell? ⟨vb,voff + j,none⟩ = some y /\ y.oneCell' = true /\ Ao w A (c1 0 j) y := fun j hj => by
   have := v6 0 (by omega) j hj
   rwa [Nat.zero_mul,Nat.add_zero] at this
  obtain ⟨y0,a0,b0,c0⟩ := v6' 0 (by omega)
  obtain ⟨y1,a1,b1,c1'⟩ := v6' 1 (by omega)
  obtain ⟨y2,a2,b2,c2⟩ := v6' 2 (by omega)
  obtain ⟨y3,a3,b3,c3⟩ := v6' 3 (by omega)
  obtain ⟨y4,a4,b4,c4⟩ := v6' 4 (by omega)
  have hvs : ∀ j v,[y0,y1,y2,y3,y4][j]? = some v -> w.cell? ⟨vb,voff + j,none⟩ = some v := fun j v hj => by
   rcases j with _ | _ | _ | _ | _ | j <;> simp at hj <;> subst hj <;> assumption
  have hv1 : ∀ v ∈ [y0,y1,y2,y3,y4],v.oneCell' = true := fun v hv => by
   simp at hv; rcases hv with rfl | rfl | rfl | rfl | rfl <;> assumption
  have hvr : ∀ j,j < 5 -> ∃ y,[y0,y1,y2,y3,y4][j]? = some y /\ y.oneCell' = true /\ Ao w A (c1 0 j) y := fun j hj => by
   rcases (by omega : j = 0 \/ j = 1 \/ j = 2 \/ j = 3 \/ j = 4) with rfl | rfl | rfl | rfl | rfl
   ·exact ⟨_,rfl,b0,c0⟩
   ·exact ⟨_,rfl,b1,c1'⟩
   ·exact ⟨_,rfl,b2,c2⟩
   ·exact ⟨_,rfl,b3,c3⟩
   exact ⟨_,rfl,b4,c4⟩
  have hvl : [y0,y1,y2,y3,y4].length = 5 := rfl
  generalize [y0,y1,y2,y3,y4] = vs at hvs hv1 hvr hvl
  have hx1 : ∀ v ∈ cur.toList.take (n * 5),v.oneCell' = true := fun v hv => by
   rw [q7] at hv
   obtain ⟨q,hq⟩ := List.mem_iff_getElem?.1 hv
   have hql : q < n * 5 := by have := (List.getElem?_eq_some_iff.1 hq).1; omega
   obtain ⟨y,t1,t2,_⟩ := f5 (q / 5) (by omega) (q % 5) (Nat.mod_lt _ (by decide))
   have t1 : xs[q / 5 * 5 + q % 5]? = some y := t1
   rw [show q / 5 * 5 + q % 5 = q by omega,hq] at t1
   cases t1; exact t2
  have hres : Tb.res ([] ++ .view 5 n c :: [.int .i64 (i : Int),.view 5 1 c1]) = .view 5 (n + 1) fun k j => (Pd (Lt.D c) i (Lt.D c1 0) k).c j := rfl
  have hargs : (⟨[] ++ .slice (L.a.map fun g => ⟨g,0,none⟩) n L.cap :: [.int .i64 (i : Int),.slice (some ⟨vb,voff,none⟩) 1 vc]⟩ : Array Value) = #[.slice (some ⟨g,0,none⟩) n cap,.int .i64 (i : Int),.slice (some ⟨vb,voff,none⟩) 1 vc] := by rw [hLa,hLc]; rfl
  rw [hargs]
  have hin : i <= n := by omega
  by_cases hend : i = n
  ·subst hend
   refine Calls.mono (Ts g i cap vb voff vc xs vs w ⟨nl,.inr ⟨g,cap,cur,rfl,Nat.zero_le _,q3,q4,q5,q6,q7⟩⟩ (by omega) q5 hvl hvs hv1) ?_
   rintro ex w' ⟨v',rfl,o1,o2,o5⟩
   have hrow := K9 (w' := w') hw hw1 hin f5 hvr fun q hq => So (vs := vs) nl hq
   have hund : (⟨w,fun g' => L.a = some g'⟩ : AY).Under w' := (AY.Under.refl ⟨w,_⟩).grown o2 fun k hk => .inr (by cases hk; exact hLa)
   obtain ⟨o3,⟨_,o4⟩ | ⟨g2,cap2,cur2,rfl,_,p3,p4,p5,p6,p7⟩⟩ := o1
   ·omega
   refine ⟨⟨some g2,i + 1,cap2⟩,5,i + 1,_,rfl,hres,hund,fun g' hg' => ?_,rfl,by omega,by unfold maxLen; omega,xs ++ vs,⟨o3,.inr ⟨g2,cap2,cur2,rfl,Nat.zero_le _,p3,p4,p5,p6,p7⟩⟩,hrow⟩
   cases hg'
   have hb := (Array.getElem?_eq_some_iff.1 p3).1
   refine ⟨?_,hb⟩
   exact (o5 g2 rfl).imp_left fun e => by rw [hLa,e]
  have hi : i < n := by omega
  by_cases hroom : n + 1 <= cap
  ·refine Calls.mono (Pn g n cap i vb voff vc cur 107 vs w q3 hi hroom q5 q6 hvb hvl hvs hv1 hx1) ?_
   rintro ex w' ⟨rfl,W,hW,d1,hd1,rfl⟩
   have hcl : (n + 1) * 5 <= cur.toList.length := by rw [Array.length_toList,q6]; omega
   have hd1l : d1.length = cap * 5 := by
    rw [hd1,List.length_append,List.length_append,List.length_take,List.length_take,List.length_drop,List.length_drop,Array.length_toList,q6]; omega
   have hWh : W.heap = w.heap /\ W.os = w.os /\ W.tape = w.tape /\ W.output = w.output := by
    rcases hW with rfl | rfl <;> exact ⟨rfl,rfl,rfl,rfl⟩
   have hrow := K9 (w' := (W.setRow g d1.toArray).setRow g (d1.take (i * 5) ++ vs ++ d1.drop (i * 5 + 5)).toArray) hw hw1 hin f5 hvr (xs' := (d1.take (i * 5) ++ vs ++ d1.drop (i * 5 + 5)).take ((n + 1) * 5)) fun q hq => by
    rw [List.getElem?_take,if_pos hq,Ne hvl hcl hi hd1 q hq,J7 q7 hin hq]
   have hh : ((W.setRow g d1.toArray).setRow g (d1.take (i * 5) ++ vs ++ d1.drop (i * 5 + 5)).toArray).heap[g]? = some (.cells (d1.take (i * 5) ++ vs ++ d1.drop (i * 5 + 5)).toArray 107 (0,0)) := setRow_heap _ _ _ _ _ _ (setRow_heap _ _ cur _ _ _ (by rw [hWh.1]; exact q3))
   have hu0 : (⟨w,fun g' => L.a = some g'⟩ : AY).Under W := (AY.Under.refl ⟨w,_⟩).but hWh.2.1 hWh.2.2.1 hWh.2.2.2 (by rw [hWh.1]; exact Nat.le_refl _) fun k _ _ => by rw [hWh.1]
   refine ⟨⟨some g,n + 1,cap⟩,5,n + 1,_,rfl,hres,(hu0.setRow (.inr hLa) _).setRow (.inr hLa) _,fun g' hg' => ?_,rfl,by omega,by unfold maxLen; omega,_,⟨?_,.inr ⟨g,cap,_,rfl,Nat.zero_le _,hh,hroom,q5,?_,rfl⟩⟩,hrow⟩
   ·cases hg'
    exact ⟨.inl hLa,(Array.getElem?_eq_some_iff.1 hh).1⟩
   ·rw [List.length_take,List.length_append,List.length_append,List.length_take,List.length_drop,hd1l,hvl]; omega
   rw [List.size_toArray,List.length_append,List.length_append,List.length_take,List.length_drop,hd1l,hvl]; omega
  refine Calls.mono (Sg g n cap i vb voff vc cur 107 vs w q3 hi q4 (by omega) q5 (by omega) q6 hvb hvl hvs hv1 hx1) ?_
  rintro ex w' ⟨G',ROW,g1,g2,g3,g4,rfl,g5,g6,g7,d1,hd1,g8⟩
  have hcl : n * 5 <= cur.toList.length := by rw [Array.length_toList,q6]; omega
  have hrl : (n + 1) * 5 <= ROW.toList.length := by rw [Array.length_toList,g3]; omega
  have hd1l : d1.length = G' * 5 := by
   rw [hd1,List.length_append,List.length_append,List.length_take,List.length_drop,Array.length_toList,g3,hvl]; omega
  have hd2l : (d1.take ((i + 1) * 5) ++ (cur.toList.drop (i * 5)).take ((n - i) * 5) ++ d1.drop ((i + 1) * 5 + (n - i) * 5)).length = G' * 5 := by
   rw [List.length_append,List.length_append,List.length_take,List.length_take,List.length_drop,List.length_drop,hd1l,Array.length_toList,q6]; omega
  have hrow := K9 (w' := w') hw hw1 hin f5 hvr (xs' := (d1.take ((i + 1) * 5) ++ (cur.toList.drop (i * 5)).take ((n - i) * 5) ++ d1.drop ((i + 1) * 5 + (n - i) * 5)).take ((n + 1) * 5)) fun q hq => by
   rw [List.getElem?_take,if_pos hq,PP hvl hcl hrl g4 hi hd1 q hq,J7 q7 hin hq]
  have hh : w'.heap[w.heap.size]? = some (.cells (d1.take ((i + 1) * 5) ++ (cur.toList.drop (i * 5)).take ((n - i) * 5) ++ d1.drop ((i + 1) * 5 + (n - i) * 5)).toArray 107 (0,0)) := by
   rw [g8]; exact setRow_heap _ _ _ _ _ _ (setRow_heap _ _ ROW _ _ _ (heap_alloc_new w.drew _))
  have hsz : w'.heap.size = w.heap.size + 1 := by rw [g8]; simp
  have hu0 : (⟨w,fun g' => L.a = some g'⟩ : AY).Under w' := (AY.Under.refl ⟨w,_⟩).but g5 g6 g7 (by rw [hsz]; exact Nat.le_succ _) fun k hk _ => by
   have hk : k < w.heap.size := hk
   have hk2 : k ≠ w.heap.size := Nat.ne_of_lt hk
   rw [g8,setRow_other _ _ k _ hk2,setRow_other _ _ k _ hk2]
   exact heap_alloc_old w.drew _ hk
  refine ⟨⟨some w.heap.size,n + 1,G'⟩,5,n + 1,_,rfl,hres,hu0,fun g' hg' => ?_,rfl,by omega,by unfold maxLen; omega,_,⟨?_,.inr ⟨w.heap.size,G',_,rfl,Nat.zero_le _,hh,g1,g2,?_,rfl⟩⟩,hrow⟩
  ·cases hg'
   exact ⟨.inr (Nat.le_refl _),by rw [hsz]; exact Nat.lt_succ_self _⟩
  ·rw [List.length_take,hd2l]; omega
  rw [List.size_toArray,hd2l]
 exact h2.2.2.elim
end Go.Proofs.YtlieoghhkioflaaGreat
namespace Go.Proofs.YtlieoghhkioflaaGreat
variable {n : Int} {a b i k t : Nat} {P q : Nat -> Bool} {p : Nat -> Int}
def D6 (p : Nat -> Bool) : Nat -> Nat
 | 0 => 0
 | k + 1 => if p k = true then D6 p k + 1 else D6 p k
theorem FQ (p : Nat -> Bool) : ∀ k,D6 p k <= k
 | 0 => Nat.le_refl _
 | k + 1 => by have := FQ p k; rw [D6]; split <;> omega
theorem F5 {p : Nat -> Bool} : ∀ k,(∀ i,i < k -> p i = true -> q i = true) -> D6 p k <= D6 q k
 | 0,_ => Nat.le_refl _
 | k + 1,h => by
  have := F5 k fun i hi => h i (by omega)
  rw [D6,D6]
  by_cases e : p k = true
  ·rw [if_pos e,if_pos (h k (by omega) e)]; omega
  rw [if_neg e]; split <;> omega
theorem MT (p : Nat -> Bool) (h : a <= b) : D6 p a <= D6 p b := by
  induction b with
  | zero => obtain rfl : a = 0 := by omega
            exact Nat.le_refl _
  | succ b ih =>
    by_cases e : a = b + 1
    · subst e; exact Nat.le_refl _
    have := ih (by omega); rw [D6]; split <;> omega
theorem Kh {p : Nat -> Bool} (k : Nat) (h : ∀ i,i < k -> p i = q i) : D6 p k = D6 q k :=
 Nat.le_antisymm (F5 k fun i hi e => by rw [<- h i hi]; exact e) (F5 k fun i hi e => by rw [h i hi]; exact e)
theorem Lb (p : Nat -> Bool) (b : Nat) (hb : p b = false) : ∀ k,D6 (fun i => p i || decide (i = b)) k = D6 p k + (if b < k then 1 else 0)
 | 0 => rfl
 | k + 1 => by
  have ih := Lb p b hb k
  rw [D6,D6,ih]
  by_cases e : k = b
  ·subst e
   simp [hb]
  have : (p k || decide (k = b)) = p k := by simp [e]
  rw [this]
  have e3 : (b < k + 1) = (b < k) := by apply propext; omega
  simp only [e3]
  split <;> split <;> omega
theorem S8 {p : Nat -> Bool} (k : Nat) (h : ∀ i,i < k -> p i = true) : D6 p k = k := by
 induction k with
 | zero => rfl
 | succ k ih => rw [D6,if_pos (h k (by omega)),ih fun i hi => h i (by omega)]
theorem QK {p : Nat -> Bool} (k : Nat) (h : ∀ i,i < k -> p i = true -> q i = true) (b : Nat) (hb : b < k) (h1 : p b = false) (h2 : q b = true) : D6 p k < D6 q k := by
 have h3 := Lb p b h1 k
 rw [if_pos hb] at h3
 have := F5 (p := fun i => p i || decide (i = b)) (q := q) k fun i hi e => by
  simp only [Bool.or_eq_true,decide_eq_true_eq] at e
  rcases e with e | e
  ·exact h i hi e
  rw [e]; exact h2
 omega
def Aw (f : Nat -> Int) : Nat -> Int
 | 0 => 0
 | k + 1 => Aw f k + f k
theorem Hm (f : Nat -> Int) : ∀ k,(∀ i,i < k -> 0 <= f i) -> 0 <= Aw f k /\ ∀ i,i < k -> f i <= Aw f k
 | 0,_ => ⟨Int.le_refl _,fun i hi => by omega⟩
 | k + 1,h => by
  obtain ⟨h1,h2⟩ := Hm f k fun i hi => h i (by omega)
  have h3 := h k (by omega)
  refine ⟨by rw [Aw]; omega,fun i hi => ?_⟩
  rw [Aw]
  by_cases e : i = k
  ·subst e; omega
  have := h2 i (by omega); omega
def Dy (n : Int) (p : Nat -> Int) (k : Nat) (i : Nat) : Int := n * p i % Aw p k
def BR (n : Int) (p : Nat -> Int) (k : Nat) (i : Nat) : Int := n * p i / Aw p k
def Ds (n : Int) (p : Nat -> Int) (k : Nat) (j i : Nat) : Bool := decide (Dy n p k i < Dy n p k j \/ Dy n p k i = Dy n p k j /\ j < i)
def CY (n : Int) (p : Nat -> Int) (k : Nat) : Int := n - Aw (BR n p k) k
def DZ (n : Int) (p : Nat -> Int) (k : Nat) (i : Nat) : Int := BR n p k i + if (D6 (fun j => Ds n p k j i) k : Int) < CY n p k then 1 else 0
theorem EN (f g : Nat -> Int) : ∀ k,(∀ i,i < k -> f i <= g i) -> Aw f k <= Aw g k
 | 0,_ => Int.le_refl _
 | k + 1,h => by have := EN f g k fun i hi => h i (by omega); have := h k (by omega); simp only [Aw]; omega
theorem DM (c : Int) : ∀ k,Aw (fun _ => c) k = k * c
 | 0 => by simp [Aw]
 | k + 1 => by rw [Aw,DM c k,Int.natCast_succ,Int.add_mul,Int.one_mul]
theorem JE (c : Int) (f : Nat -> Int) : ∀ k,Aw (fun i => c * f i) k = c * Aw f k
 | 0 => by simp [Aw]
 | k + 1 => by rw [Aw,JE c f k,Aw,Int.mul_add]
theorem JK (f g : Nat -> Int) : ∀ k,Aw (fun i => f i + g i) k = Aw f k + Aw g k
 | 0 => rfl
 | k + 1 => by simp only [Aw,JK f g k]; omega
theorem Er {f g : Nat -> Int} : ∀ k,(∀ i,i < k -> f i = g i) -> Aw f k = Aw g k
 | 0,_ => rfl
 | k + 1,h => by simp only [Aw]; rw [Er k fun i hi => h i (by omega),h k (by omega)]
theorem LB (n : Int) (p : Nat -> Int) (k : Nat) : Aw p k * CY n p k = Aw (Dy n p k) k := by
 have h1 : Aw (fun i => n * p i) k = n * Aw p k := JE n p k
 have h2 : Aw (fun i => n * p i) k = Aw (fun i => Aw p k * BR n p k i + Dy n p k i) k := Er k fun i _ => (Int.mul_ediv_add_emod (n * p i) (Aw p k)).symm
 rw [h1,JK,JE] at h2
 unfold CY
 rw [Int.mul_sub,Int.mul_comm _ n]
 omega
theorem II (hs : 0 < Aw p k) : 0 <= CY n p k := by
 have h1 := LB n p k
 have h2 : 0 <= Aw (Dy n p k) k := by
  have := EN (fun _ => 0) (Dy n p k) k fun i _ => Int.emod_nonneg _ (by omega)
  rw [DM] at this; simpa using this
 rcases Int.lt_or_le (CY n p k) 0 with h | h
 ·have : Aw p k * CY n p k < 0 := Int.mul_neg_of_pos_of_neg hs h
  omega
 exact h
theorem KF (hk : 0 < k) (hs : 0 < Aw p k) : CY n p k < k := by
 have h1 := LB n p k
 have h2 : Aw (Dy n p k) k <= k * (Aw p k - 1) := by
  have := EN (Dy n p k) (fun _ => Aw p k - 1) k fun i _ => by have := Int.emod_lt_of_pos (n * p i) hs; show n * p i % Aw p k <= _; omega
  rwa [DM] at this
 rcases Int.lt_or_le (CY n p k) k with h | h
 ·exact h
 have h3 : Aw p k * (k : Int) <= Aw p k * CY n p k := Int.mul_le_mul_of_nonneg_left h (by omega)
 rw [Int.mul_sub,Int.mul_one,Int.mul_comm (k : Int)] at h2
 omega
structure MA (n : Int) (p : Nat -> Int) (k : Nat) (P : Nat -> Bool) (t : Nat) : Prop where
 up : ∀ i j,i < k -> j < k -> Ds n p k j i = true -> P i = true -> P j = true
 cnt : D6 P k = t
theorem Fz (n : Int) (p : Nat -> Int) (k i : Nat) : Ds n p k i i = false := decide_eq_false (by omega)
theorem RW {j : Nat} (h : i ≠ j) : Ds n p k i j = true \/ Ds n p k j i = true := by
 simp only [Ds,decide_eq_true_eq]; omega
theorem Ig {c : Nat} (h1 : Ds n p k a b = true) (h2 : Ds n p k b c = true) : Ds n p k a c = true := by
 simp only [Ds,decide_eq_true_eq] at *; omega
theorem MA.iff (h : MA n p k P t) (hi : i < k) : P i = decide (D6 (fun j => Ds n p k j i) k < t) := by
 cases hP : P i with
 | true =>
  symm; rw [decide_eq_true_eq,<- h.cnt]
  exact QK k (fun j hj e => h.up i j hi hj e hP) i hi (Fz n p k i) hP
 | false =>
  symm; rw [decide_eq_false_iff_not,<- h.cnt]
  refine Nat.not_lt.2 (F5 k fun j hj e => ?_)
  have hne : i ≠ j := fun e2 => by subst e2; rw [hP] at e; cases e
  rcases RW (n := n) (p := p) (k := k) hne with h1 | h1
  ·have := h.up j i hj hi h1 e
   rw [hP] at this; cases this
  exact h1
theorem MA.zero (n : Int) (p : Nat -> Int) (k : Nat) : MA n p k (fun _ => false) 0 := ⟨fun _ _ _ _ _ h => h,by induction k with | zero => rfl | succ k ih => rw [D6,if_neg (by simp),ih]⟩
theorem MA.next (h : MA n p k P t) (hb : b < k) (hPb : P b = false) (hbest : ∀ j,j < k -> P j = false -> Ds n p k j b = false) : MA n p k (fun i => P i || decide (i = b)) (t + 1) := by
 refine ⟨fun i j hi hj hbt hP => ?_,by rw [Lb P b hPb,if_pos hb,h.cnt]⟩
 simp only [Bool.or_eq_true,decide_eq_true_eq] at hP ⊢
 rcases hP with hP | rfl
 ·exact .inl (h.up i j hi hj hbt hP)
 cases e : P j with
 | true => exact .inl rfl
 | false => rw [hbest j hj e] at hbt; cases hbt
theorem MA.free (h : MA n p k P t) (ht : t < k) : ∃ i,i < k /\ P i = false := by
 apply Classical.byContradiction
 intro hn
 have : D6 P k = k := S8 k fun i hi => by
  cases e : P i with
  | true => rfl
  | false => exact absurd ⟨i,hi,e⟩ hn
 rw [h.cnt] at this; omega
theorem MA.congr {Q : Nat -> Bool} (h : MA n p k P t) (e : ∀ i,i < k -> P i = Q i) : MA n p k Q t :=
 ⟨fun i j hi hj hb hq => by rw [<- e j hj]; exact h.up i j hi hj hb (by rw [e i hi]; exact hq),by rw [<- h.cnt]; exact (Kh k e).symm⟩
def GF (n : Int) (p : Nat -> Int) (k i : Nat) : Nat := D6 (fun j => Ds n p k j i) k
theorem OA (n : Int) (p : Nat -> Int) (k : Nat) (P : Nat -> Bool) : ∀ m,m <= k -> (∃ i,i < m /\ P i = false) -> ∃ b,b < m /\ P b = false /\ ∀ j,j < m -> P j = false -> Ds n p k j b = false := by
 intro m
 induction m with
 | zero => rintro _ ⟨i,hi,_⟩; omega
 | succ m ih =>
  rintro hm ⟨i,hi,hp⟩
  by_cases h : ∃ i,i < m /\ P i = false
  ·obtain ⟨b,b1,b2,b3⟩ := ih (by omega) h
   cases hPm : P m with
   | true =>
    exact ⟨b,by omega,b2,fun j hj e => by
     by_cases e2 : j = m
     ·subst e2; rw [hPm] at e; cases e
     exact b3 j (by omega) e⟩
   | false =>
    cases hmb : Ds n p k m b with
    | false => exact ⟨b,by omega,b2,fun j hj e => by
      by_cases e2 : j = m
      ·subst e2; exact hmb
      exact b3 j (by omega) e⟩
    | true => exact ⟨m,by omega,hPm,fun j hj e => by
      by_cases e2 : j = m
      ·subst e2; exact Fz _ _ _ _
      cases hjm : Ds n p k j m with
      | false => rfl
      | true =>
       have h1 := Ig hjm hmb
       rw [b3 j (by omega) e] at h1; exact h1.symm⟩
  refine ⟨m,by omega,?_,fun j hj e => ?_⟩
  ·by_cases e2 : i = m
   ·subst e2; exact hp
   exact absurd ⟨i,by omega,hp⟩ h
  by_cases e2 : j = m
  ·subst e2; exact Fz _ _ _ _
  exact absurd ⟨j,by omega,e⟩ h
theorem IN (n : Int) (p : Nat -> Int) (k : Nat) : ∀ t,t <= k -> MA n p k (fun i => decide (GF n p k i < t)) t
 | 0,_ => (MA.zero n p k).congr fun i _ => by simp
 | t + 1,h => by
  have ih := IN n p k t (by omega)
  obtain ⟨b,b1,b2,b3⟩ := OA n p k _ k (Nat.le_refl _) (ih.free (by omega))
  have h2 := ih.next b1 b2 b3
  exact h2.congr fun i hi => h2.iff hi
theorem P7 (ht : t < k) (hb : b < k) (hb2 : ¬ GF n p k b < t) (h : ∀ j,j < k -> ¬ GF n p k j < t -> Ds n p k j b = false) : ∀ i,i < k -> (GF n p k i < t + 1 ↔ GF n p k i < t \/ i = b) := fun i hi => by
 have h2 := (IN n p k t (by omega)).next hb (decide_eq_false hb2) fun j hj e => h j hj (of_decide_eq_false e)
 have h3 := h2.iff hi
 simp only [Bool.or_eq_decide] at h3
 have := decide_eq_decide.1 (h3.symm)
 simp only [decide_eq_true_eq] at this
 exact this
theorem Ox (p : Nat -> Bool) : ∀ k,Aw (fun i => if p i = true then 1 else 0) k = (D6 p k : Int)
 | 0 => rfl
 | k + 1 => by
  rw [Aw,Ox p k,D6]
  split <;> rename_i h <;> simp []
theorem IZ (hk : 0 < k) (hs : 0 < Aw p k) : Aw (DZ n p k) k = n := by
 have h1 := II (n := n) hs
 have h2 := KF (n := n) hk hs
 obtain ⟨t,ht⟩ : ∃ t : Nat,CY n p k = t := ⟨(CY n p k).toNat,by omega⟩
 have h3 := (IN n p k t (by omega)).cnt
 have h4 : Aw (DZ n p k) k = Aw (fun i => BR n p k i + if (decide (GF n p k i < t)) = true then 1 else 0) k := Er k fun i hi => by
  unfold DZ
  rw [ht]
  unfold GF
  simp only [Int.ofNat_lt,decide_eq_true_eq]
 rw [h4,JK,Ox,h3,<- ht]
 unfold CY; omega
theorem KP (hn : 0 <= n) (hp : 0 <= p i) (hs : 0 < Aw p k) : 0 <= DZ n p k i := by
 have : 0 <= BR n p k i := Int.ediv_nonneg (Int.mul_nonneg hn hp) (by omega)
 unfold DZ; split <;> omega
theorem DR {f : Nat -> Int} {len : Nat} (h : ∀ i,i < len -> 0 <= f i) (hab : a <= b) (hb : b <= len) : Aw f a <= Aw f b := by
  induction b with
  | zero => obtain rfl : a = 0 := by omega
            exact Int.le_refl _
  | succ b ih =>
    by_cases e : a = b + 1
    · subst e; exact Int.le_refl _
    have := ih (by omega) (by omega); have := h b (by omega); rw [Aw]; omega
end Go.Proofs.YtlieoghhkioflaaGreat
