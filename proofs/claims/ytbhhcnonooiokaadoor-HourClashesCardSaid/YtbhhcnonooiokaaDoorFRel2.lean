/- The engine, part 15: append; own slices seen as views. No condition. -/
import Derived.Test.YtbhhcnonooiokaaDoorFRel
namespace Go.Proofs.YtbhhcnonooiokaaDoor
open Go Go.RowKit
variable {P : Program} {E : Env} {A0 : Nat → Prop} {w0 : World} {β β1 : Nat → Loc} {B : Bmap} {nx : Nat} {w w1 : World} {a : Act} {fr : Fr} {bx : Bx}

theorem run_app (base : Nat) {t ty e : TypeId} {i : TypeInfo} {z : Value} {k : Nat} (ht : P.underlying t = some (.slice e)) (hi : P.info? e = some i) (hz : i.zero = some z) (hsize : i.size = k) (hzs : z.cells.size = k) (hk : 0 < k)
    {v : Value} {n : Nat} {xs : List Value} (hown : w.ownsRow base e k v n xs) {ya : Option Addr} {m yc : Nat} {news : List Value} (hl : news.length = m * k) (hnews : 0 < m → ∃ g off, ya = some ⟨g, off, none⟩ ∧ ∀ j u, news[j]? = some u → w.cell? ⟨g, off + j, none⟩ = some u)
    (h1 : ∀ u ∈ news, u.oneCell' = true) (h63 : n + m ≤ maxLen) (hbytes : (n + m) * i.bytes ≤ 140737488355328) (hbase : base ≤ w.heap.size) :
    ∃ v' w1, (Builtin.append_ #[t, t] ty #[v, .slice ya m yc]).run P w = .ok v' w1 ∧ w1.ownsRow base e k v' (n + m) (xs ++ news) ∧ w.grownBy w1 v.ownBlock ∧ (∀ g, v'.ownBlock = some g → v.ownBlock = some g ∨ w.heap.size ≤ g) := by
  by_cases hm : m = 0
  · subst hm
    have hn : news = [] := List.eq_nil_of_length_eq_zero (by simpa using hl)
    subst hn
    have key : ∀ b n' c', v = .slice b n' c' → n' ≤ c' → (Builtin.append_ #[t, t] ty #[v, .slice ya 0 yc]).run P w = .ok v w := by
      rintro b n' c' rfl hle
      have hf : (Builtin.firstCells i.size 0 (.slice ya 0 yc)).run P w = .ok #[] w := by
        cases ya <;> simp [Builtin.firstCells, loadCells, loadCellsFrom]
      cases b <;> simp [Builtin.append_, run_underlying ht, sizeOf, typeInfo, hi, Builtin.lenOf, hle, hf, storeCells]
    refine ⟨v, w, ?_, by simpa using hown, ⟨rfl, rfl, rfl, Nat.le_refl _, fun _ _ _ => rfl⟩, fun g hg => .inl hg⟩
    rcases hown.2 with ⟨rfl, rfl⟩ | ⟨g, cap, cur, rfl, hb, hg, hnc, _⟩
    · exact key _ _ _ rfl (Nat.le_refl _)
    · exact key _ _ _ rfl hnc
  · obtain ⟨g2, off2, rfl, hnews2⟩ := hnews (by omega)
    have hnews' : ∀ j u, news[j]? = some u → w.cell? ((⟨g2, off2, none⟩ : Addr).add j) = some u := fun j u h => by rw [add_lit]; exact hnews2 j u h
    obtain ⟨v', w1, hr, ho, hgr, _⟩ := run_append_own (P := P) w base t ty e i z k i.bytes ht hi hz hsize rfl hzs hk v n xs hown ⟨g2, off2, none⟩ m yc news hl hnews' h1 h63 hbytes hbase
    refine ⟨v', w1, hr, ho, hgr, fun g hg => ?_⟩
    have hsmall : n + m ≤ 9223372036854775807 := by simp only [maxLen] at h63; omega
    subst hsize
    rcases hown.2 with ⟨rfl, rfl⟩ | ⟨g', cap, cur, rfl, hbg, hgg, hnc, hcm, hcs, htake⟩
    · have h2 := run_append_nil (P := P) w t ty e i z ht hi hz ⟨g2, off2, none⟩ m yc news hl hnews' (by omega) (by omega) (by have hb := hbytes; simp only [Nat.zero_add] at hb; omega)
      rw [h2] at hr
      cases hr
      right
      simp [Value.ownBlock] at hg
      omega
    · by_cases hroom : n + m ≤ cap
      · have hfit : n * i.size + news.length ≤ cur.size := by rw [hl, hcs, ← Nat.add_mul]; exact Nat.mul_le_mul_right _ hroom
        have h2 := run_append_room (P := P) w t ty e i ht hi g' n cap cur hgg ⟨g2, off2, none⟩ m yc news hl hnews' h1 hroom hfit
        rw [h2] at hr
        cases hr
        left
        simpa [Value.ownBlock] using hg
      · have holds : ∀ j u, xs[j]? = some u → w.cell? ((⟨g', 0, none⟩ : Addr).add j) = some u := hown.cells (g := g') rfl
        have h2 := run_append_grow (P := P) w t ty e i z ht hi hz ⟨g', 0, none⟩ n cap xs hown.1 holds ⟨g2, off2, none⟩ m yc news hl hnews' (by omega) (by omega) (growslice_fits (by omega) hbytes)
        rw [h2] at hr
        cases hr
        right
        simp [Value.ownBlock] at hg
        omega
/-- what an appended slice holds -/
theorem elems_rep (hm : Mem P A0 w0 β B nx w) (hbx : ∀ b c, B b = some c → bget bx b = some c) {v : Val} {x : Value} {k : Nat} {ko : Option Nat} {m : Nat} {c : Nat → Nat → Val} (he : elemsV bx v = some (ko, m, c)) (hk : ko = some k ∨ ko = none) (hv : RepM A0 w0 β B w v x) :
    m ≤ maxLen ∧ ∃ ya yc, ∃ news : List Value, x = .slice ya m yc ∧ news.length = m * k ∧ (0 < m → ∃ g off, ya = some ⟨g, off, none⟩ ∧ ∀ j u, news[j]? = some u → w.cell? ⟨g, off + j, none⟩ = some u) ∧ (∀ u ∈ news, u.oneCell' = true) ∧ ∀ i, i < m → ∀ j, j < k → ∃ y, news[i * k + j]? = some y ∧ y.oneCell' = true ∧ RepQ A0 w0 β B w (c i j) y := by
  have main : ∀ g off (hcell : ∀ i, i < m → ∀ j, j < k → ∃ y, w.cell? ⟨g, off + i * k + j, none⟩ = some y ∧ y.oneCell' = true ∧ RepQ A0 w0 β B w (c i j) y), ∃ news : List Value, news.length = m * k ∧ (∀ j u, news[j]? = some u → w.cell? ⟨g, off + j, none⟩ = some u) ∧ (∀ u ∈ news, u.oneCell' = true) ∧ ∀ i, i < m → ∀ j, j < k → ∃ y, news[i * k + j]? = some y ∧ y.oneCell' = true ∧ RepQ A0 w0 β B w (c i j) y := by
    intro g off hcell
    have hall : ∀ p, p < m * k → ∃ y, w.cell? ⟨g, off + p, none⟩ = some y ∧ y.oneCell' = true := by
      intro p hp
      have hk0 : 0 < k := by rcases Nat.eq_zero_or_pos k with h | h; subst h; simp at hp; exact h
      have h1 : p / k < m := (Nat.div_lt_iff_lt_mul hk0).2 hp
      have h2 := Nat.mod_lt p hk0
      obtain ⟨y, hy, ho, hr⟩ := hcell (p / k) h1 (p % k) h2
      refine ⟨y, ?_, ho⟩
      rw [← hy]; congr 2
      have := Nat.div_add_mod p k
      rw [Nat.mul_comm] at this
      omega
    refine ⟨(List.range (m * k)).map fun p => (w.cell? ⟨g, off + p, none⟩).getD undef, by simp, fun j u hu => ?_, fun u hu => ?_, fun i hi j hj => ?_⟩
    · simp only [List.getElem?_map] at hu
      have h1 : j < m * k := by rcases Nat.lt_or_ge j (m * k) with h | h; exact h; simp [List.getElem?_eq_none (l := List.range (m * k)) (by simpa using h)] at hu
      obtain ⟨y, hy, _⟩ := hall j h1
      simp [List.getElem?_range h1, hy] at hu
      rw [hy, hu]
    · simp at hu
      obtain ⟨p, hp, rfl⟩ := hu
      obtain ⟨y, hy, ho⟩ := hall p hp
      simpa [hy] using ho
    · obtain ⟨y, hy, ho, hr⟩ := hcell i hi j hj
      have hik : i * k + k ≤ m * k := by rw [← Nat.succ_mul]; exact Nat.mul_le_mul_right k hi
      have hp : i * k + j < m * k := by omega
      refine ⟨y, ?_, ho, hr⟩
      rw [Nat.add_assoc] at hy
      simp [hp, hy]
  have triv : ∃ news : List Value, news.length = 0 * k ∧ (∀ u ∈ news, u.oneCell' = true) := ⟨[], by simp, by simp⟩
  cases v <;> simp only [elemsV] at he <;> first | (cases he; done) | skip
  · -- nils
    simp at he
    obtain ⟨rfl, rfl, rfl⟩ := he
    have e : x = .slice none 0 0 := hv
    subst e
    exact ⟨by unfold maxLen; omega, none, 0, [], rfl, by simp, fun h => by omega, by simp, fun i hi => by omega⟩
  · -- view
    rename_i k' n' c'
    simp at he
    obtain ⟨rfl, rfl, rfl⟩ := he
    have : k' = k := by rcases hk with h | h <;> simp at h; exact h
    subst this
    obtain ⟨ad, cap, rfl, hmx, hnc, hc⟩ := hv
    rcases Nat.eq_zero_or_pos n' with h0 | h0
    · subst h0
      exact ⟨hmx, ad, cap, [], rfl, by simp, fun h => by omega, by simp, fun i hi => by omega⟩
    · obtain ⟨g, off, rfl, hg, hA, hcell⟩ := hc h0
      obtain ⟨news, q1, q2, q3, q4⟩ := main g off hcell
      exact ⟨hmx, _, cap, news, rfl, q1, fun _ => ⟨g, off, rfl, q2⟩, q3, q4⟩
  · -- own
    rename_i b
    obtain ⟨⟨e', k', n', c', hb⟩, rfl⟩ := hv
    simp only [hbx b _ hb] at he
    simp at he
    obtain ⟨rfl, rfl, rfl⟩ := he
    have : k' = k := by rcases hk with h | h <;> simp at h; exact h
    subst this
    obtain ⟨hn, hk0, hmax, xs, ⟨hxl, how⟩, hc⟩ := hm.bx b _ hb
    rw [hn]
    rcases how with ⟨e0, hn0⟩ | ⟨g, cap, cur, e1, e2, e3, e4, e5, e6, e7⟩
    · subst hn0
      exact ⟨hmax, _, _, [], rfl, by simp, fun h => by omega, by simp, fun i hi => by omega⟩
    · have hg : (β b).a = some g := by
        cases ha : (β b).a with
        | none => simp [ha] at e1
        | some g' => simp [ha] at e1; rw [e1.1]
      obtain ⟨news, q1, q2, q3, q4⟩ := main g 0 (fun i hi j hj => by
        obtain ⟨y, hy, ho1, hr⟩ := hc i hi j hj
        refine ⟨y, ?_, ho1, hr⟩
        have hik : i * k' + k' ≤ n' * k' := by rw [← Nat.succ_mul]; exact Nat.mul_le_mul_right k' hi
        rw [Nat.zero_add, ← hy, ← e7, List.getElem?_take_of_lt (by omega)]
        simp [World.cell?, e3])
      exact ⟨hmax, _, _, news, rfl, q1, fun _ => ⟨g, 0, by simp [hg], q2⟩, q3, q4⟩
end Go.Proofs.YtbhhcnonooiokaaDoor
