/- slices.Sort at []int, in place: the kit's contract, laid at this program. No condition. -/
import Derived.Test.YtlieoghhkioflaaDEds
import Derived.Shelf.Lay
import Derived.Ground.Names2Prog
import Derived.Shelf.Sort.Plain
import Derived.Shelf.Slices.In.SortNone
import Derived.Sort.OwnSortedInts
set_option linter.unusedSimpArgs false
set_option linter.unusedVariables false
namespace Go.Proofs
def Try.lays189_ren : Go.Shelf.Ren := ⟨fun | 189 => 29 | 125 => 53 | 257 => 52 | 128 => 78 | 129 => 79 | 294 => 69 | 295 => 70 | 296 => 71 | 297 => 72 | 298 => 73 | 299 => 74 | 216 => 75 | 300 => 76 | 301 => 77 | 328 => 92 | 329 => 93 | 330 => 94 | 331 => 95 | 332 => 96 | 215 => 97 | 343 => 113 | n => n,fun | 28 => 26 | 3 => 3 | 46 => 103 | 0 => 0 | 51 => 138 | 53 => 140 | 4 => 4 | 183 => 131 | 182 => 130 | 131 => 80 | 5 => 5 | 9 => 9 | 218 => 150 | 222 => 154 | 228 => 169 | 229 => 38 | n => n,fun | n => n⟩
theorem Try.lays189 : Lays.n189 Try.prog Try.lays189_ren where
 mixed := by kernel_rfl
 f125 := Try.func53.trans (congrArg some (by kernel_rfl))
 f128 := Try.func78.trans (congrArg some (by kernel_rfl))
 f129 := Try.func79.trans (congrArg some (by kernel_rfl))
 f189 := Try.func29.trans (congrArg some (by kernel_rfl))
 f215 := Try.func97.trans (congrArg some (by kernel_rfl))
 f216 := Try.func75.trans (congrArg some (by kernel_rfl))
 f257 := Try.func52.trans (congrArg some (by kernel_rfl))
 f294 := Try.func69.trans (congrArg some (by kernel_rfl))
 f295 := Try.func70.trans (congrArg some (by kernel_rfl))
 f296 := Try.func71.trans (congrArg some (by kernel_rfl))
 f297 := Try.func72.trans (congrArg some (by kernel_rfl))
 f298 := Try.func73.trans (congrArg some (by kernel_rfl))
 f299 := Try.func74.trans (congrArg some (by kernel_rfl))
 f300 := Try.func76.trans (congrArg some (by kernel_rfl))
 f301 := Try.func77.trans (congrArg some (by kernel_rfl))
 f328 := Try.func92.trans (congrArg some (by kernel_rfl))
 f329 := Try.func93.trans (congrArg some (by kernel_rfl))
 f330 := Try.func94.trans (congrArg some (by kernel_rfl))
 f331 := Try.func95.trans (congrArg some (by kernel_rfl))
 f332 := Try.func96.trans (congrArg some (by kernel_rfl))
 f343 := Try.func113.trans (congrArg some (by kernel_rfl))
 t0 := Try.underlying0
 a0 := Try.isAgg0
 z0 := Try.sizeOf0
 v0 := Try.zeroValue0
 t3 := Try.underlying3
 a3 := Try.isAgg3
 z3 := Try.sizeOf3
 v3 := Try.zeroValue3
 t4 := Try.underlying4
 a4 := Try.isAgg4
 z4 := Try.sizeOf4
 v4 := Try.zeroValue4
 t5 := Try.underlying5
 a5 := Try.isAgg5
 z5 := Try.sizeOf5
 v5 := Try.zeroValue5
 t9 := Try.underlying9
 a9 := Try.isAgg9
 z9 := Try.sizeOf9
 v9 := Try.zeroValue9
 t28 := Try.underlying26
 a28 := Try.isAgg26
 z28 := Try.sizeOf26
 v28 := Try.zeroValue26
 t46 := Try.underlying103
 a46 := Try.isAgg103
 z46 := Try.sizeOf103
 v46 := Try.zeroValue103
 t51 := Try.underlying138
 a51 := Try.isAgg138
 z51 := Try.sizeOf138
 v51 := Try.zeroValue138
 t53 := Try.underlying140
 a53 := Try.isAgg140
 z53 := Try.sizeOf140
 v53 := Try.zeroValue140
 t131 := Try.underlying80
 a131 := Try.isAgg80
 z131 := Try.sizeOf80
 v131 := Try.zeroValue80
 t182 := Try.underlying130
 a182 := Try.isAgg130
 z182 := Try.sizeOf130
 v182 := Try.zeroValue130
 t183 := Try.underlying131
 a183 := Try.isAgg131
 z183 := Try.sizeOf131
 v183 := Try.zeroValue131
 t218 := Try.underlying150
 a218 := Try.isAgg150
 z218 := Try.sizeOf150
 v218 := Try.zeroValue150
 t222 := Try.underlying154
 a222 := Try.isAgg154
 z222 := Try.sizeOf154
 v222 := Try.zeroValue154
 t228 := Try.underlying169
 a228 := Try.isAgg169
 z228 := Try.sizeOf169
 v228 := Try.zeroValue169
 t229 := Try.underlying38
 a229 := Try.isAgg38
 z229 := Try.sizeOf38
 v229 := Try.zeroValue38
end Go.Proofs
namespace Go.Proofs.Ytlieoghhkioflaa
open Go Go.RowKit Go.Sort
variable {G : Nat → Option (Nat × (Nat → Val))}
def lstI (a : Nat × (Nat → Int)) : List Int := (List.range a.1).map a.2
def srt (l : List Int) : List Int := l.mergeSort fun x y => decide (x ≤ y)
theorem srt_len (a : Nat × (Nat → Int)) : (srt (lstI a)).length = a.1 := by simp [srt,lstI]
noncomputable def sSort : Spec := specT (TAnd (TSl (RInt .i64)) TNo) (fun a => a.1.1 < 4611686018427387904) fun a => .view 1 a.1.1 fun i _ => .int .i64 (ln (srt (lstI a.1)) i)
theorem pSort : EatOk Try.prog G 29 0 sSort := by
 refine ⟨ent_of Try.func29 rfl rfl,fun A w vs us cs ds L e0 k n c hl1 hl2 hA hG hr hr' hrow _ hp => ?_⟩
 obtain rfl : vs = [] := List.eq_nil_of_length_eq_zero hl1
 obtain rfl : cs = [] := List.eq_nil_of_length_eq_zero hl2
 obtain ⟨⟨⟨rfl,hw⟩,h2⟩,hn⟩ := hp
 have hus : us = [] := by cases us with
  | nil => rfl
  | cons => exact h2.elim
 subst hus
 have hds : ds = [] := by
  have h : (Value.tuple ⟨ds⟩) = .tuple #[] := hr'
  simpa using h
 subst hds
 have hn' : n < 4611686018427387904 := hn
 obtain ⟨f1,f2,f3,xs,f4,f5⟩ := hrow
 generalize ha : ((n,fun i => (c i 0).toInt) : Nat × (Nat → Int)) = a
 have ha1 : a.1 = n := by rw [← ha]
 have hlen : (lstI a).length = n := by simp [lstI,ha1]
 have hxs : xs = (lstI a).map (Value.int .i64) := by
  apply List.ext_getElem?
  intro i
  by_cases hi : i < n
  ·obtain ⟨y,y1,_,y3⟩ := f5 i hi 0 Nat.zero_lt_one
   have hc := hw i hi
   rw [hc] at y3
   have y3' : y = .int .i64 (c i 0).toInt := y3
   have y1' : xs[i * 1 + 0]? = some y := y1
   rw [Nat.mul_one,Nat.add_zero] at y1'
   rw [y1',y3']
   simp [lstI,← ha,hi]
  ·have : xs.length = n * 1 := f4.1
   rw [List.getElem?_eq_none (by omega),List.getElem?_eq_none (by simp [hlen]; omega)]
 have hres : sSort.res ([] ++ .view 1 n c :: []) = .view 1 n fun i _ => .int .i64 (ln (srt (lstI a)) i) := by rw [← ha]; rfl
 have hcell : ∀ (w' : World) (B : Nat → Prop) i,i < n → ∀ j,j < 1 → ∃ y,((srt (lstI a)).map (Value.int .i64))[i * 1 + j]? = some y ∧ y.oneCell' = true ∧ RepP w' B (.int .i64 (ln (srt (lstI a)) i)) y := by
  intro w' B i hi j hj
  obtain rfl : j = 0 := by omega
  have hl : i < (srt (lstI a)).length := by rw [srt_len,ha1]; exact hi
  refine ⟨.int .i64 (ln (srt (lstI a)) i),?_,rfl,rfl⟩
  rw [Nat.mul_one,Nat.add_zero,List.getElem?_map,List.getElem?_eq_getElem hl]
  simp [ln,List.getElem?_eq_getElem hl]
 rcases f4.2 with ⟨q1,q2⟩ | ⟨g,cap,cur,q1,q2,q3,q4,q5,q6,q7⟩
 ·subst q2
  have hL : L.a = none := by
   cases h : L.a with
   | none => rfl
   | some g => rw [h] at q1; simp at q1
  refine Calls.mono (Any.slices_Sort_int_none Try.lays189 _ L.cap w) ?_
  rintro e w' ⟨rfl,rfl⟩
  refine ⟨_,rfl,hres,Base.Under.refl ⟨w',_⟩,fun g hg => (by rw [hL] at hg; cases hg),f1,f2,f3,xs,f4,fun i hi => absurd hi (Nat.not_lt_zero _)⟩
 ·have hL : L.a = some g ∧ L.cap = cap := by
   cases h : L.a with
   | none => rw [h] at q1; simp at q1
   | some g' => rw [h] at q1; simp at q1; exact ⟨by rw [q1.1],q1.2⟩
  obtain ⟨hLa,hLc⟩ := hL
  have hlt : g < w.heap.size := (Array.getElem?_eq_some_iff.1 q3).1
  have hH : Holds (Value.int .i64) w g 0 (lstI a).toArray := holds_of_blockI q3 (by rw [hlen,← hxs,← q7]; exact congrArg (List.take · cur.toList) (Nat.mul_one n).symm)
  have hcon := Any.slices_Sort_int Try.lays189 g 0 cap (lstI a) w hH hlt (by rw [hlen]; exact hn')
  rw [hlen] at hcon
  have hargs : (⟨[] ++ .slice (L.a.map fun g => ⟨g,0,none⟩) n L.cap :: []⟩ : Array Value) = #[.slice (some ⟨g,0,none⟩) n cap] := by rw [hLa,hLc]; rfl
  rw [hargs]
  refine Calls.mono hcon ?_
  rintro e w' ⟨rfl,m,os,rfl⟩
  refine ⟨_,rfl,hres,(Base.Under.refl ⟨w,_⟩).grown (grownBy_sortedI _) fun k hk => .inr (by cases hk; exact hLa),fun g' hg' => ?_,f1,f2,f3,(srt (lstI a)).map (Value.int .i64),?_,hcell _ _⟩
  ·rw [hLa] at hg'; cases hg'
   have hb := (Array.getElem?_eq_some_iff.1 (heap_sortedI (n := m) (os := os) (srt (lstI a)).toArray q3)).1
   exact hb
  ·have := ownsRow_sortedI (base := 0) (n := m) (os := os) (ts := srt (lstI a)) (ss := lstI a) (by rw [srt_len,hlen,ha1]) (Nat.zero_le g) q3 (by rw [hlen]; exact q4) q5 q6
   rw [hlen] at this
   rw [hLa,hLc]
   exact this
end Go.Proofs.Ytlieoghhkioflaa
