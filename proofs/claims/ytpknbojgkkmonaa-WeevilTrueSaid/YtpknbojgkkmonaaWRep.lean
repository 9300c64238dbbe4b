/- slices.Repeat of one number. No condition but bounds. -/
import Derived.Test.YtpknbojgkkmonaaWUp
import Derived.Test.YtpknbojgkkmonaaRow
import Derived.Laws.CopyOwn
import Derived.Laws.MathBits
set_option linter.unusedSimpArgs false
set_option linter.unusedVariables false
namespace Go.Proofs.Ytpknbojgkkmonaa
open Go Go.RowKit
set_option maxRecDepth 100000 in
set_option maxHeartbeats 1000000 in
theorem mul64_any (n : Nat) (hn : n ≤ 1000) (w : World) : Calls Try.prog 98 #[.int .u64 1,.int .u64 n] w fun e w' => e = .returned (.tuple #[.int .u64 0,.int .u64 n]) ∧ w' = w := by
  go_enter Try.func98,Try.ntmps98
  have b1 : bits .and .u64 1 4294967295 = 1 := by decide
  have b0 : bits .and .u64 0 4294967295 = 0 := by decide
  have bn : bits .and .u64 (n : Int) 4294967295 = n := by
    rw [and_low32 _ (by omega) (by omega)]; omega
  have d0 : (n : Int) / 4294967296 = 0 := by omega
  go_wp2_with fail
  go_ret2
  exact ⟨rfl,rfl⟩
set_option maxRecDepth 100000 in
set_option maxHeartbeats 1000000 in
theorem mul_any (n : Nat) (hn : n ≤ 1000) (w : World) : Calls Try.prog 89 #[.int .u64 1,.int .u64 n] w fun e w' => e = .returned (.tuple #[.int .u64 0,.int .u64 n]) ∧ w' = w := by
  have H := Lib.hid (mul64_any n hn w)
  go_enter Try.func89,Try.ntmps89
  go_wp2_with fail
  refine (H.out).mono ?_
  rintro e w2 ⟨rfl,rfl⟩
  go_wp2_with fail
  go_ret2
  exact ⟨rfl,rfl⟩
theorem info_int : (Try.prog.info? 3).map (fun i => (i.zero,i.size,i.bytes)) = some (some (.int .i64 0),1,8) := by kernel_rfl
theorem info_parts {t : TypeId} {z : Value} {s b : Nat} (h : (Try.prog.info? t).map (fun i => (i.zero,i.size,i.bytes)) = some (some z,s,b)) : ∃ i,Try.prog.info? t = some i ∧ i.zero = some z ∧ i.size = s ∧ i.bytes = b := by
  obtain ⟨i,h1,h2⟩ := Option.map_eq_some_iff.1 h
  simp only [Prod.mk.injEq] at h2
  exact ⟨i,h1,h2.1,h2.2.1,h2.2.2⟩
theorem made_cur {w : World} {base n : Nat} {e : TypeId} {g : Nat} {xs : List Value} (h : w.ownsRow base e 1 (.slice (some ⟨g,0,none⟩) n n) n xs) : ∃ cur : List Value,cur.length = n ∧ w.heap[g]? = some (.cells cur.toArray e (0,0)) := by
  obtain ⟨_,h⟩ := h
  rcases h with ⟨h,_⟩ | ⟨g',cap,cur,h1,h2,h3,h4,h5,h6,h7⟩
  · cases h
  · cases h1
    exact ⟨cur.toList,by simpa using h6,by simpa using h3⟩
theorem splice_get {z : Value} {cu cs : List Value} {m : Nat} (hc : ∀ i,i < m → cu[i]? = some z) (hv : ∀ v ∈ cs,v = z) (hl : m + cs.length ≤ cu.length) : ∀ i,i < m + cs.length → (splice cu m cs)[i]? = some z := by
  intro i hi
  unfold splice
  rcases Nat.lt_or_ge i m with h | h
  · rw [List.getElem?_append_left (by simp; omega),List.getElem?_take_of_lt h]
    exact hc i h
  · have e : (cu.take m).length = m := by simp; omega
    rw [List.getElem?_append_right (by omega),e,List.getElem?_append_left (by omega),List.getElem?_eq_getElem (by omega)]
    rw [hv _ (List.getElem_mem _)]
theorem all_replicate {z : Value} {cu : List Value} {n : Nat} (h : ∀ i,i < n → cu[i]? = some z) : cu.take n = List.replicate n z := by
  apply List.ext_getElem?
  intro i
  by_cases hi : i < n
  · rw [List.getElem?_take_of_lt hi,h i hi]; simp [hi]
  · rw [List.getElem?_eq_none (by simp; omega),List.getElem?_eq_none (by simp; omega)]
set_option maxRecDepth 100000 in
set_option maxHeartbeats 1000000 in
theorem repeat_any (z : Int) (n : Nat) (hn : n ≤ 1000) (ad : Addr) (c : Nat) (w : World) (hz : w.cell? ad = some (.int .i64 z)) :
    Calls Try.prog 68 #[.slice (some ad) 1 c,.int .i64 n] w fun e w' => ∃ u,e = .returned u ∧ w'.ownsRow w.heap.size 3 1 u n (List.replicate n (.int .i64 z)) ∧ Below w.heap.size w w' := by
  have H := Lib.hid (mul_any n hn w)
  have wn : IntKind.u64.wrap (n : Int) = n := IntWalk.u64_in _ (by omega)
  have wi : IntKind.i64.wrap (n : Int) = n := IntWalk.i64_in _ (by omega)
  obtain ⟨i0,hi0,hz0,hz1,hz2⟩ := info_parts info_int
  have hsz : (Try.prog.info? 3).map (·.size) = some 1 := by rw [hi0]; simp [hz1]
  obtain ⟨cs,hcs⟩ : ∃ cs : List Value,cs = List.replicate (Nat.min 1 n) (.int .i64 z) := ⟨_,rfl⟩
  have hcl : cs.length = Nat.min 1 n := by rw [hcs,List.length_replicate]
  have hcv : ∀ v ∈ cs,v = .int .i64 z := fun v hv => by rw [hcs] at hv; exact List.eq_of_mem_replicate hv
  have HZ := Lib.hid hz
  have HCL := Lib.hid hcl
  have HCV := Lib.hid hcv
  have HSZ := Lib.hid hsz
  clear hcs hz hcl hcv hsz
  go_enter Try.func68,Try.ntmps68
  go_wp2_with fail
  refine (H.out).mono ?_
  rintro e w2 ⟨rfl,rfl⟩
  go_wp2_with first
    | (at_make; refine wpList_make_full _ rfl _ _ _ rfl w2.heap.size 3 i0 (.int .i64 0) 1 Try.underlying24 hi0 hz0 hz1 _ _ _ _ n rfl rfl rfl rfl ?c1 ?c2 ?c3 ?_; rotate_right; intro w1 hown hg; obtain ⟨cur,hc1,hc2⟩ := made_cur hown; have HC1 := Lib.hid hc1; have HC2 := Lib.hid hc2; have HB := Lib.hid ((Below.refl _ w2).grown hg (Nat.le_refl _) (fun k hk => by cases hk)); clear hc1 hc2 hown hg)
    | (refine wpList_copy_splice rfl (.tmp 31) (.tmp 32) 24 24 rfl 3 Try.underlying24 HSZ.out _ _ _ _ _ _ rfl rfl w2.heap.size 0 cur 3 HC2.out cs HCL.out ?d1 ?d2 ?d3 w2.heap.size w2 HB.out (Nat.le_refl _) ?_; rotate_right; intro w3 HC3 hB3; have HB3 := Lib.hid hB3; clear hB3)
  case c1 => rw [hz2]; omega
  case c2 => unfold maxLen; omega
  case c3 => exact Nat.le_refl _
  case d1 =>
    have h1 := HCL.out
    have h2 : Nat.min 1 n ≤ 1 := Nat.min_le_left _ _
    intro _ j v hj
    obtain ⟨hj1,_⟩ := List.getElem?_eq_some_iff.1 hj
    obtain rfl : j = 0 := by omega
    rw [HCV.out v (List.mem_of_getElem? hj),Addr.add_zero']
    exact ext_cell HB.out HZ.out
  case d2 =>
    have h1 := HCL.out
    have h2 : Nat.min 1 n ≤ n := Nat.min_le_right _ _
    have h3 := HC1.out
    omega
  case d3 => intro v hv; rw [HCV.out v hv]; rfl
  have hst : ∃ (m : Nat) (cu : List Value),goInt cs.length = .int .i64 m ∧ m ≤ n ∧ (0 < n → 0 < m) ∧ w3.heap[w2.heap.size]? = some (.cells cu.toArray 3 (0,0)) ∧ cu.length = n ∧ (∀ i,i < m → cu[i]? = some (.int .i64 z)) ∧ Below w2.heap.size w2 w3 := by
    have h1 := HCL.out
    have h2 : Nat.min 1 n ≤ n := Nat.min_le_right _ _
    have h3 := HC1.out
    have h4 : 0 < n → 0 < Nat.min 1 n := fun h => (Nat.lt_min).2 ⟨by omega,h⟩
    refine ⟨cs.length,splice cur 0 cs,rfl,by omega,by omega,HC3.out,by rw [length_splice _ _ _ (by omega)]; exact h3,?_,HB3.out⟩
    have := splice_get (z := .int .i64 z) (cu := cur) (cs := cs) (m := 0) (fun i h => by omega) HCV.out (by omega)
    intro i hi; exact this i (by omega)
  go_loopw [8] (fun u wr => ∃ (m : Nat) (cu : List Value),u = .int .i64 m ∧ m ≤ n ∧ (0 < n → 0 < m) ∧ wr.heap[w2.heap.size]? = some (.cells cu.toArray 3 (0,0)) ∧ cu.length = n ∧ (∀ i,i < m → cu[i]? = some (.int .i64 z)) ∧ Below w2.heap.size w2 wr) (fun u _ => n - (intOf u).toNat)
  case atStart => exact hst
  case round =>
    obtain ⟨m,cu,rfl,hm,hm0,hcu,hcul,hcz,hB⟩ := hrel
    by_cases hmn : m < n
    · have HCU := Lib.hid hcu
      have HCZ := Lib.hid hcz
      have HB4 : Hid (Below w2.heap.size w2 wr.drew) := ⟨hB.os,hB.tape,hB.output,hB.size,hB.block⟩
      clear hcu hcz hB
      obtain ⟨cs2,hcs2⟩ : ∃ cs : List Value,cs = List.replicate (Nat.min m (n - m)) (.int .i64 z) := ⟨_,rfl⟩
      have hcl2 : cs2.length = Nat.min m (n - m) := by rw [hcs2,List.length_replicate]
      have hcv2 : ∀ v ∈ cs2,v = .int .i64 z := fun v hv => by rw [hcs2] at hv; exact List.eq_of_mem_replicate hv
      have hle : cs2.length ≤ m ∧ cs2.length ≤ n - m ∧ (0 < m → 0 < cs2.length) := by
        rw [hcl2]; exact ⟨Nat.min_le_left _ _,Nat.min_le_right _ _,fun h => (Nat.lt_min).2 ⟨h,by omega⟩⟩
      have HP : Hid (∀ j v,cs2[j]? = some v → wr.drew.cell? ((⟨w2.heap.size,0,none⟩ : Addr).add j) = some v) := fun j v hj => by
        obtain ⟨hj1,hj2⟩ := List.getElem?_eq_some_iff.1 hj
        have hv := hcv2 v (List.mem_of_getElem? hj)
        have h1 := HCZ.out j (by omega)
        rw [addr_add,Nat.zero_add,hv]
        have h2 : wr.drew.heap[w2.heap.size]? = some (.cells cu.toArray 3 (0,0)) := HCU.out
        simp only [World.cell?]
        rw [h2]
        simpa using h1
      have HF : Hid (m + cs2.length ≤ cu.length) := by show m + cs2.length ≤ cu.length; omega
      have HO : Hid (∀ v ∈ cs2,v.oneCell' = true) := fun v hv => by rw [hcv2 v hv]; rfl
      have HLE := Lib.hid hle
      have HCL2 := Lib.hid hcl2
      have HCV2 := Lib.hid hcv2
      clear hcs2 hcl2 hcv2 hle
      have fm1 : (m : Int).toNat = m := rfl
      have fm2 : ¬ n = m := by omega
      go_wp2_with fail
      go_region_law (go_loud (refine step_copy_splice rfl (.tmp 41) (.tmp 44) 24 24 rfl 3 Try.underlying24 HSZ.out (some ⟨w2.heap.size,m,none⟩) (some ⟨w2.heap.size,0,none⟩) (n - m) (n - m) m n (by simp [Act.eval,Act.put]) (by simp [Act.eval,Act.put]) w2.heap.size m cu 3 HCU.out cs2 HCL2.out (fun _ => ⟨rfl,_,rfl,HP.out⟩) HF.out HO.out w2.heap.size w2 HB4.out (Nat.le_refl _) ?_); intro w4 HG4 hb4; have HB5 := Lib.hid hb4; clear hb4)
      have h1 := HLE.out
      have hwm : IntKind.i64.wrap ((m : Int) + (cs2.length : Int)) = ((m + cs2.length : Nat) : Int) := by rw [IntWalk.i64_in _ (by omega)]; omega
      clear h1
      simp [Exit.inBlock,Exit.then,Act.put,hwm]
      go_roundw
      case rel =>
        have h1 := HLE.out
        have h2 := HF.out
        refine ⟨_,_,_,_,_,_,_,_,_,_,_,_,_,_,⟨m + cs2.length,splice cu m cs2,?_,by omega,by omega,HG4.out,by rw [length_splice _ _ _ h2]; exact hcul,splice_get HCZ.out HCV2.out h2,HB5.out⟩,rfl⟩
        simp
      case measure =>
        have h1 := HLE.out
        simp [intOf]
        omega
    · go_wp2_with fail
      go_ret
      obtain rfl : m = n := by omega
      refine ⟨_,rfl,⟨by simp,.inr ⟨w2.heap.size,m,cu.toArray,rfl,Nat.le_refl _,hcu,Nat.le_refl _,by unfold maxLen; omega,by simpa using hcul,?_⟩⟩,hB⟩
      rw [Nat.mul_one]
      exact all_replicate hcz
variable {G : Nat → Option (Nat × (Nat → Val))}
noncomputable def sRepeat : Spec := (spec2 (TSl (RInt .i64)) TI (fun l n => l.1 = 1 ∧ 0 ≤ n ∧ n ≤ 1000) fun l n => .view 1 n.toNat fun _ _ => .int .i64 (l.2 0)).mine 3
theorem pRepeat : PureOk Try.prog G 68 sRepeat := by
  refine ⟨ent_of Try.func68 (by kernel_rfl) rfl,fun A w vs cs hG hr hp => ?_⟩
  simp only [sRepeat,Spec.mine,spec2] at hp
  split at hp
  · rename_i a b
    obtain ⟨p1,p2,p3,p4,p5⟩ := hp
    cases a <;> simp only [TSl,IsSl] at p1
    rename_i k m c
    obtain ⟨rfl,hW⟩ := p1
    cases b <;> simp only [TInt,IsInt] at p2
    rename_i kk z
    subst p2
    simp only [TSl,TInt,Val.slen,Val.toInt] at p3 p4 p5
    subst p3
    obtain ⟨n,rfl⟩ := Int.eq_ofNat_of_zero_le p4
    obtain ⟨y1,ys1,e1,r1,y2,ys2,e2,r2,e3⟩ := hr
    obtain ⟨ad,cp,rfl,_,_,hc⟩ := r1
    obtain ⟨g,off,rfl,_,_,hcc⟩ := hc (by omega)
    obtain ⟨y,hy,_,hyr⟩ := hcc 0 (by omega) 0 (by show 0 < 1; omega)
    have hW0 : c 0 0 = .int .i64 (c 0 0).toInt := hW 0 (by omega)
    rw [hW0] at hyr
    have hyr : y = .int .i64 (c 0 0).toInt := hyr
    subst hyr
    have r2 : y2 = .int .i64 n := r2
    subst r2
    have e1 : cs = .slice (some ⟨g,off,none⟩) 1 cp :: ys1 := by simpa using e1
    have e2 : ys1 = .int .i64 n :: ys2 := by simpa using e2
    have e3 : Value.tuple ⟨ys2⟩ = .tuple #[] := e3
    have e3 : ys2 = [] := by simpa using e3
    subst e3; subst e2; subst e1
    have hy' : w.cell? ⟨g,off,none⟩ = some (.int .i64 (c 0 0).toInt) := by simpa using hy
    refine (repeat_any (c 0 0).toInt n (by omega) _ cp w hy').mono ?_
    rintro e w' ⟨u,rfl,hown,hb⟩
    have hn : n ≤ maxLen := by unfold maxLen; omega
    refine ⟨u,rfl,?_,hb,fun e he => ?_⟩
    · show RepP w' _ (.view 1 n fun _ _ => .int .i64 (c 0 0).toInt) u
      rcases hown.2 with ⟨rfl,rfl⟩ | ⟨g',cap,cur,rfl,k2,k3,k4,k5,k6,k7⟩
      · exact ⟨none,0,rfl,hn,Nat.le_refl _,fun h => absurd h (by omega)⟩
      · refine ⟨_,cap,rfl,hn,k4,fun _ => ⟨g',0,rfl,(Array.getElem?_eq_some_iff.1 k3).1,.inr k2,fun i hi j hj => ⟨.int .i64 (c 0 0).toInt,?_,rfl,rfl⟩⟩⟩
        obtain rfl : j = 0 := by omega
        have hi' : (List.replicate n (Value.int .i64 (c 0 0).toInt))[i]? = some (.int .i64 (c 0 0).toInt) := by simp [hi]
        rw [← k7,List.getElem?_take_of_lt (by omega)] at hi'
        simp only [World.cell?,k3]
        simpa using hi'
    · cases he
      exact ⟨1,n,_,rfl,by omega,hn,_,hown,fun i hi j hj => ⟨.int .i64 (c 0 0).toInt,by (obtain rfl : j = 0 := by omega); simp [hi],rfl,rfl⟩⟩
  · exact hp.elim
end Go.Proofs.Ytpknbojgkkmonaa
