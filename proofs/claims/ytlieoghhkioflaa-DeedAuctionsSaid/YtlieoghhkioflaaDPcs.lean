/- Auctions: the ends and the prices, plain. No condition. -/
import Derived.Test.YtlieoghhkioflaaDBst
import Derived.Test.YtlieoghhkioflaaDEds
import Derived.Test.YtlieoghhkioflaaDPrm
set_option linter.unusedSimpArgs false
set_option linter.unusedVariables false
namespace Go.Proofs.Ytlieoghhkioflaa
theorem offB_zero {t : Tu} {b : Nat × (Nat → Bd)} : offB t b = 0 ↔ TuOk t ∧ b.1 ≤ 12 ∧ ∀ i,i < b.1 → BdOk t (b.2 i) := by
 unfold offB
 constructor
 ·intro h0
  split at h0
  ·rename_i ht
   split at h0
   ·exact absurd h0 (by decide)
   ·split at h0
    ·rename_i h12 hb; exact ⟨decP_true.1 ht,by omega,decP_true.1 hb⟩
    ·exact absurd h0 (by decide)
  ·exact absurd h0 (by decide)
 ·rintro ⟨h1,h2,h3⟩
  rw [decP_t h1,if_pos rfl,if_neg (by omega),decP_t h3,if_pos rfl]
structure AuOk (t : Tu) (b : Nat × (Nat → Bd)) : Prop where
 tu : TuOk t
 n : b.1 ≤ 12
 bd : ∀ i,i < b.1 → BdOk t (b.2 i)
theorem auOk {t : Tu} {b : Nat × (Nat → Bd)} (h : offB t b = 0) : AuOk t b := by
 obtain ⟨h1,h2,h3⟩ := offB_zero.1 h
 exact ⟨h1,h2,h3⟩
theorem AuOk.best {t : Tu} {b : Nat × (Nat → Bd)} (h : AuOk t b) : b.1 ≤ 12 ∧ ∀ i,i < b.1 → (b.2 i).turn.fro < (b.2 i).turn.til ∧ 0 ≤ (b.2 i).baisa ∧ (b.2 i).baisa ≤ 1000000000 := ⟨h.n,fun i hi => by
 obtain ⟨_,⟨_,h1,_⟩,h2,h3⟩ := h.bd i hi
 exact ⟨h1,h2,h3⟩⟩
theorem endsL_spec {t : Tu} {b : Nat × (Nat → Bd)} (h : AuOk t b) : (endsL t b).Pairwise (fun x y => x < y) ∧ ∀ x,x ∈ endsL t b ↔ x ∈ allE t b := by
 obtain ⟨h1,h2,h3⟩ := h.tu
 exact ends_spec (allE t b) t.til (allE_hi t b) (fun a ha => (allE_in t b h.tu h.bd a ha).2) _ _ [] (by omega) (by omega) List.Pairwise.nil
  (fun x => ⟨fun q => by simp at q,fun ⟨q,r⟩ => by have := (allE_in t b h.tu h.bd x q).1; omega⟩)
theorem rise_len (lo hi : Int) : ∀ (l : List Int),l.Pairwise (fun x y => x < y) → (∀ x,x ∈ l → lo ≤ x ∧ x ≤ hi) → lo ≤ hi + 1 → (l.length : Int) ≤ hi - lo + 1
 | [],_,_,h => by simp; omega
 | a :: l,hp,hm,_ => by
  rw [List.pairwise_cons] at hp
  have ha := hm a (List.mem_cons_self ..)
  have := rise_len (a + 1) hi l hp.2 (fun x hx => ⟨by have := hp.1 x hx; omega,(hm x (List.mem_cons_of_mem _ hx)).2⟩) (by omega)
  rw [List.length_cons]; omega
theorem AuOk.len {t : Tu} {b : Nat × (Nat → Bd)} (h : AuOk t b) : 1 ≤ (endsL t b).length ∧ (endsL t b).length ≤ 23041 := by
 obtain ⟨h1,h2⟩ := endsL_spec h
 obtain ⟨t1,t2,t3⟩ := h.tu
 have := rise_len t.fro t.til _ h1 (fun x hx => allE_in t b h.tu h.bd x ((h2 x).1 hx)) (by omega)
 have hm := (h2 t.til).2 (allE_hi t b)
 exact ⟨List.length_pos_of_mem hm,by omega⟩
theorem ln_get {l : List Int} {i : Nat} (h : i < l.length) : ln l i = l[i] := by simp [ln,List.getElem?_eq_getElem h]
theorem AuOk.rise {t : Tu} {b : Nat × (Nat → Bd)} (h : AuOk t b) : ∀ j,j < (endsL t b).length - 1 → ln (endsL t b) j < ln (endsL t b) (j + 1) := by
 intro j hj
 rw [ln_get (by omega),ln_get (by omega)]
 exact List.pairwise_iff_getElem.1 (endsL_spec h).1 _ _ _ _ (by omega)
theorem AuOk.at {t : Tu} {b : Nat × (Nat → Bd)} (h : AuOk t b) {x : Int} (hx : x ∈ allE t b) : ∃ a,a ≤ (endsL t b).length - 1 ∧ x = ln (endsL t b) a := by
 obtain ⟨i,hi,e⟩ := List.getElem_of_mem (((endsL_spec h).2 x).2 hx)
 exact ⟨i,by omega,by rw [ln_get hi,e]⟩
theorem AuOk.fe {t : Tu} {b : Nat × (Nat → Bd)} (h : AuOk t b) : ∀ k,k < b.1 → ∃ a,a ≤ (endsL t b).length - 1 ∧ bF b k = ln (endsL t b) a := fun k hk =>
 h.at (List.mem_map.2 ⟨2 * k + 2,List.mem_range.2 (by omega),aF_e t b k⟩)
theorem AuOk.te {t : Tu} {b : Nat × (Nat → Bd)} (h : AuOk t b) : ∀ k,k < b.1 → ∃ a,a ≤ (endsL t b).length - 1 ∧ bT b k = ln (endsL t b) a := fun k hk =>
 h.at (List.mem_map.2 ⟨2 * k + 3,List.mem_range.2 (by omega),aF_o t b k⟩)
noncomputable def tpB (b : Nat × (Nat → Bd)) (x : Int) : Int := (bestB b x).2
theorem tpB_mp {t : Tu} {b : Nat × (Nat → Bd)} (h : AuOk t b) (i : Nat) (hi : i ≤ (endsL t b).length - 1) (a : Nat) (ha : a ≤ i) : mpT (bF b) (bT b) (bV b) b.1 (ln (endsL t b)) i (ln (endsL t b) a) = tpB b (ln (endsL t b) a) :=
 price_same (bF b) (bT b) (bV b) b.1 (ln (endsL t b)) _ h.rise (fun k hk => (h.best.2 k hk).1) h.fe h.te i hi a ha
theorem tpB_0 {t : Tu} {b : Nat × (Nat → Bd)} (h : AuOk t b) : tpB b (ln (endsL t b) 0) = 0 := (tpB_mp h 0 (Nat.zero_le _) 0 (Nat.le_refl _)).symm
theorem vS_le {V : Nat → Int} {c : Nat → Bool} : ∀ n,(∀ i,i < n → 0 ≤ V i ∧ V i ≤ 1000000000) → 0 ≤ vS V c n ∧ vS V c n ≤ n * 1000000000
 | 0,_ => by simp [vS]
 | n + 1,h => by
  have ih := vS_le (c := c) n fun i hi => h i (by omega)
  have := h n (by omega)
  rw [vS]; split <;> omega
theorem tpB_le {t : Tu} {b : Nat × (Nat → Bd)} (h : AuOk t b) (x : Int) : 0 ≤ tpB b x ∧ tpB b x ≤ 12000000000 := by
 have hn := h.n
 obtain ⟨c,_,e⟩ := (allS_top (bF b) (bT b) (bV b) b.1 x).ex
 have := vS_le (V := bV b) (c := c) b.1 (fun i hi => (h.best.2 i hi).2)
 show 0 ≤ (allS b.1 (valL (bV b)) (sAt (bF b) (bT b) x)).2 ∧ _
 unfold tpB bestB
 omega
noncomputable def prcB (t : Tu) (b : Nat × (Nat → Bd)) : Nat × (Nat → Pc) := ((endsL t b).length - 1,fun i => ⟨⟨ln (endsL t b) i,ln (endsL t b) (i + 1)⟩,tpB b (ln (endsL t b) (i + 1)) - tpB b (ln (endsL t b) i)⟩)
end Go.Proofs.Ytlieoghhkioflaa
