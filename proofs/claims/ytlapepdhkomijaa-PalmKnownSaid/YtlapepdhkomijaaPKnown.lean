/- palm.Known: what is known of palms, or the error. No condition. -/
import Derived.Test.YtlapepdhkomijaaPClones3
namespace Go.Proofs.Ytlapepdhkomijaa
open Go Go.RowKit

noncomputable def Tc (x : Nat → Pm) (n i : Nat) : Nat → Bool := fun k => @decide (Reach x n i k) (Classical.propDecidable _)
theorem Tc_iff (x : Nat → Pm) (n i k : Nat) : Tc x n i k = true ↔ Reach x n i k := by simp [Tc]
theorem Tc_of {x : Nat → Pm} {n i : Nat} {T : Nat → Bool} (h : ∀ k, T k = true ↔ Reach x n i k) : T = Tc x n i := by
  funext k
  have h1 := h k
  have h2 := Tc_iff x n i k
  cases hT : T k <;> cases hc : Tc x n i k <;> simp_all
def nz (s v : Int) : Int := if v = 0 then s else v
def lastNZ (s : Int) (l : List Int) : Int := l.foldl nz s
/-- what palm.Known makes of a palm: the last of its clones that says something -/
noncomputable def ky (x : Nat → Pm) (n i : Nat) : Pm :=
  { x i with sex := lastNZ (x i).sex ((selN (Tc x n i) n).map fun k => (x k).sex), sort := lastNZ (x i).sort ((selN (Tc x n i) n).map fun k => (x k).sort) }
def conf (x : Nat → Pm) (i k : Nat) : Prop := ((x i).sex ≠ 0 ∧ (x k).sex ≠ 0 ∧ (x i).sex ≠ (x k).sex) ∨ ((x i).sort ≠ 0 ∧ (x k).sort ≠ 0 ∧ (x i).sort ≠ (x k).sort)
def Clash (x : Nat → Pm) (n i : Nat) : Prop := ∃ k, k < i ∧ Reach x n i k ∧ conf x i k
inductive KnownPost (x : Nat → Pm) (n : Nat) (B : Nat) (w' : World) (u : Value) (at' e : Int) : Prop
  | bad (h : ¬ PValid x n) (ha : at' = 0) (he : e = 70) (hu : u = .slice none 0 0)
  | clash (h : PValid x n) (i : Nat) (hi : i < n) (hc : Clash x n i) (hall : ∀ j < i, ¬ Clash x n j) (ha : at' = i) (he : e = 71) (hu : u = .slice none 0 0)
  | ok (h : PValid x n) (hall : ∀ j < n, ¬ Clash x n j) (ha : at' = 0) (he : e = 0) (hu : OwnS B w' 43 5 u n (pf (ky x n)))

noncomputable def kp (x : Nat → Pm) (i : Nat) (l : List Nat) : Pm := { x i with sex := lastNZ (x i).sex (l.map fun k => (x k).sex), sort := lastNZ (x i).sort (l.map fun k => (x k).sort) }
/-- what is known of palms while the one at k is looked at, by some of its clones -/
noncomputable def curP (x : Nat → Pm) (n k : Nat) (l : List Nat) : Nat → Pm := fun i => if i < k then ky x n i else if i = k then kp x k l else x i
theorem kp_nil (x : Nat → Pm) (i : Nat) : kp x i [] = x i := rfl
theorem curP_zero (x : Nat → Pm) (n k : Nat) (l : List Nat) : curP x n k (l.take 0) = fun i => if i < k then ky x n i else x i := by
  funext i
  simp only [curP, List.take_zero, kp_nil]
  split
  · rfl
  · split
    · subst_vars; rfl
    · rfl
theorem lastNZ_snoc (s : Int) (l : List Int) (v : Int) : lastNZ s (l ++ [v]) = nz (lastNZ s l) v := by simp [lastNZ]
theorem curP_step (x : Nat → Pm) (n k j : Nat) (h : j < (selN (Tc x n k) n).length) : (selN (Tc x n k) n).take (j + 1) = (selN (Tc x n k) n).take j ++ [(selN (Tc x n k) n).getD j 0] := by
  rw [List.take_succ_eq_append_getElem h]; simp [List.getD, List.getElem?_eq_getElem h]
theorem bne_decide (a b : Int) : (a != b) = decide (a ≠ b) := by by_cases h : a = b <;> simp [h]
theorem mul_small {a b : Int} (h1 : 0 ≤ a) (h2 : a ≤ 2) (h3 : 0 ≤ b) (h4 : b ≤ 2) : (0 < a * b ↔ (a ≠ 0 ∧ b ≠ 0)) ∧ 0 ≤ a * b ∧ a * b ≤ 255 := by
  have ha : a = 0 ∨ a = 1 ∨ a = 2 := by omega
  have hb : b = 0 ∨ b = 1 ∨ b = 2 := by omega
  rcases ha with rfl | rfl | rfl <;> rcases hb with rfl | rfl | rfl <;> decide
theorem mul_small' {a b : Int} (h1 : 0 ≤ a) (h2 : a ≤ 99) (h3 : 0 ≤ b) (h4 : b ≤ 99) : (0 < a * b ↔ (a ≠ 0 ∧ b ≠ 0)) ∧ 0 ≤ a * b ∧ a * b ≤ 10000 := by
  have hp := Int.mul_nonneg h1 h3
  have hq : a * b ≤ 99 * 99 := Int.mul_le_mul h2 h4 h3 (by omega)
  refine ⟨⟨fun h => ⟨fun e => ?_, fun e => ?_⟩, fun h => ?_⟩, hp, by omega⟩
  · subst e; simp at h
  · subst e; simp at h
  · exact Int.mul_pos (by omega) (by omega)
theorem Row.five {w : World} {g : Nat} {n : Nat} {y : Nat → Pm} (h : Row w g 43 5 n (pf y)) {k : Nat} (hk : k < n) :
    w.cell? ⟨g, k * 5, none⟩ = some (.int .i64 (y k).id) ∧ w.cell? ⟨g, k * 5 + 1, none⟩ = some (.int .i64 (y k).mother) ∧ w.cell? ⟨g, k * 5 + 2, none⟩ = some (.int .i64 (y k).planted) ∧
    w.cell? ⟨g, k * 5 + 3, none⟩ = some (.int .u8 (y k).sex) ∧ w.cell? ⟨g, k * 5 + 4, none⟩ = some (.int .i64 (y k).sort) :=
  ⟨h.cell hk (show 0 < 5 by omega), h.cell hk (show 1 < 5 by omega), h.cell hk (show 2 < 5 by omega), h.cell hk (show 3 < 5 by omega), h.cell hk (show 4 < 5 by omega)⟩
theorem curP_same {x : Nat → Pm} {n k s : Nat} {l : List Nat} (h1 : (x s).sex = 0) (h2 : (x s).sort = 0) : curP x n k (l ++ [s]) = curP x n k l := by
  funext i
  simp [curP, kp, lastNZ_snoc, nz, h1, h2]
theorem pf_curP {x : Nat → Pm} {n k s : Nat} {l : List Nat} (i j : Nat) : pf (curP x n k (l ++ [s])) i j =
    if i = k ∧ j = 4 then (if (x s).sort = 0 then pf (curP x n k l) i 4 else .int .i64 (x s).sort) else if i = k ∧ j = 3 then (if (x s).sex = 0 then pf (curP x n k l) i 3 else .int .u8 (x s).sex) else
      (if j < 5 then pf (curP x n k l) i j else pf (curP x n k (l ++ [s])) i j) := by
  by_cases hi : i = k
  · subst hi
    rcases (by omega : j = 0 ∨ j = 1 ∨ j = 2 ∨ j = 3 ∨ j = 4 ∨ 5 ≤ j) with rfl | rfl | rfl | rfl | rfl | h
    · simp [pf, pcell, curP, kp]
    · simp [pf, pcell, curP, kp]
    · simp [pf, pcell, curP, kp]
    · by_cases h0 : (x s).sex = 0 <;> simp [pf, pcell, curP, kp, lastNZ_snoc, nz, h0]
    · by_cases h0 : (x s).sort = 0 <;> simp [pf, pcell, curP, kp, lastNZ_snoc, nz, h0]
    · rw [if_neg (by omega), if_neg (by omega), if_neg (by omega)]
  · simp only [hi, false_and, if_false]
    split
    · simp [pf, curP, hi]
    · rfl
set_option maxRecDepth 100000 in
set_option maxHeartbeats 8000000 in
theorem pknown_any (x : Nat → Pm) (n : Nat) (v : Value) (hu : ∀ i, 0 ≤ (x i).sex ∧ (x i).sex ≤ 255) (w : World) (hs : PSL w v n x) :
    Calls Try.prog 15 #[v] w fun e w' => ∃ u a r, e = .returned (.tuple #[u, .int .i64 a, .int .i64 r]) ∧ KnownPost x n w.heap.size w' u a r ∧ Ext w w' := by
  have hck := pcheck_any v n x hu w hs
  have hsc := fun w' (e : Ext w w') h24 => sclone_any x n v w' (hs.ext e) h24
  have hcl := fun i hi w' (e : Ext w w') h24 => clones_any x n v i hi w' (hs.ext e) h24
  have HSC := Lib.hid hsc
  have HCL := Lib.hid hcl
  clear hsc hcl
  obtain ⟨a, c, rfl, hn, hc⟩ := hs
  have HC := Lib.hid hc
  have HU := Lib.hid hu
  clear hc hu
  unfold maxLen at hn
  go_enter Try.func15, Try.ntmps15
  go_wp2_with fail
  refine hck.mono ?_
  clear hck
  rintro e w1 ⟨r, rfl, hr, e1⟩
  rcases hr with ⟨rfl, hv⟩ | ⟨rfl, hv⟩
  · have hn24 := hv.1
    go_wp2_with fail
    refine (HSC.out _ e1 (by omega)).mono ?_
    rintro e w2 ⟨u, rfl, hO, e2⟩
    have e12 := ext_trans e1 e2 (Nat.le_refl _)
    obtain ⟨a', c', rfl, hm1, hrow⟩ := hO
    have HR := Lib.hid hrow
    have HV := Lib.hid hv
    clear hrow hv
    go_wp2_with fail
    go_loopw [2, 20] (fun kn q wr => kn = .slice a' n c' ∧ ∃ k : Nat, k ≤ n ∧ q = .int .i64 k ∧ Ext w wr ∧ (∀ j < k, ¬ Clash x n j) ∧ (0 < n → ∃ g, a' = some ⟨g, 0, none⟩ ∧ w1.heap.size ≤ g ∧ Row wr g 43 5 n (pf (fun i => if i < k then ky x n i else x i)))) (fun _ q _ => n - (intOf q).toNat)
    case atStart =>
      refine ⟨rfl, 0, by omega, rfl, e12, by omega, fun h0 => ?_⟩
      obtain ⟨g, h1, h2, h3⟩ := HR.out h0
      exact ⟨g, h1, h2, h3.congr fun i hi j hj => by simp⟩
    case round =>
      obtain ⟨rfl, k, hk, rfl, eR, hcl, hrow⟩ := hrel
      have HCLA := Lib.hid hcl
      clear hcl
      by_cases hlt : k < n
      · obtain ⟨g, rfl, hg, hR⟩ := hrow (by omega)
        obtain ⟨b, off, rfl, hcc⟩ := HC.out (by omega)
        obtain ⟨h0, h1, h2, h3, h4⟩ := PCel.at (hcc.ext eR) hlt
        have HCC := Lib.hid hcc
        have HRR := Lib.hid hR
        clear hrow hcc hR
        go_wp2_with fail
        refine (HCL.out k hlt _ (eR.alloc eR.size _) hn24).mono ?_
        rintro e w3 ⟨T, u, rfl, d, hown, e3⟩
        have hlen := sel_len T n
        have hO := OwnI.owns hown (by unfold maxLen; omega)
        have hTc := Tc_of (dfs_reach d)
        subst hTc
        rw [sel_selN] at hO
        simp only [List.length_map] at hO
        have HLEN : (selN (Tc x n k) n).length ≤ n := by rw [sel_selN] at hlen; simpa using hlen
        clear d hown hlen
        obtain ⟨a'', c'', rfl, hm2, hrow2⟩ := hO
        have HR2 := Lib.hid hrow2
        have hB := (Blk.new wr [.int .i64 (x k).id, .int .i64 (x k).mother, .int .i64 (x k).planted, .int .u8 (x k).sex, .int .i64 (x k).sort] 43).ext e3
        have hR3 := (HRR.out.alloc (.cells #[.int .i64 (x k).id, .int .i64 (x k).mother, .int .i64 (x k).planted, .int .u8 (x k).sex, .int .i64 (x k).sort] 43)).ext e3
        have eR3 := ext_trans (eR.alloc eR.size _) e3 (Nat.le_refl _)
        have hgb := HRR.out.lt
        clear hrow2 HRR e3 h0 h1 h2 h3 h4
        generalize hL : (selN (Tc x n k) n).length = L at *
        have HLL := Lib.hid hL
        clear hL
        go_wp2_with fail
        obtain ⟨wo, hwo⟩ : ∃ wo : World, wo = wr := ⟨_, rfl⟩
        subst hwo
        go_loopw [2, 29] (fun kn q W => kn = .slice (some ⟨g, 0, none⟩) n c' ∧ ∃ j : Nat, j ≤ L ∧ q = .int .i64 j ∧ Ext w W ∧
            Blk W wo.heap.size [.int .i64 (x k).id, .int .i64 (x k).mother, .int .i64 (x k).planted, .int .u8 (x k).sex, .int .i64 (x k).sort] 43 ∧
            (0 < L → ∃ g2, a'' = some ⟨g2, 0, none⟩ ∧ wo.heap.size + 1 ≤ g2 ∧ Row W g2 3 1 L (fun i _ => .int .i64 (((selN (Tc x n k) n).map fun (k : Nat) => (k : Int)).getD i 0))) ∧
            (∀ i < j, (selN (Tc x n k) n).getD i 0 < k → ¬ conf x k ((selN (Tc x n k) n).getD i 0)) ∧
            Row W g 43 5 n (pf (curP x n k (((selN (Tc x n k) n).take j)))))
          (fun _ q _ => L - (intOf q).toNat)
        case atStart =>
          refine ⟨rfl, 0, by omega, rfl, eR3, hB, fun h0 => ?_, by omega, hR3.congr fun i hi j hj => ?_⟩
          · obtain ⟨g2, h1, h2, h3⟩ := HR2.out h0
            exact ⟨g2, h1, by simpa using h2, h3⟩
          · simp only [pf, curP_zero]
        case round =>
          obtain ⟨rfl, j, hj, rfl, eW, hBW, hselr, hncf, hRW⟩ := hrel
          clear hB hR3 eR3 HR2
          have HNC := Lib.hid hncf
          clear hncf
          by_cases hjl : j < L
          · obtain ⟨g2, rfl, hg2, hsr⟩ := hselr (by omega)
            have s1 := hsr.cell hjl (show 0 < 1 by omega)
            simp only [Nat.mul_one, Nat.add_zero] at s1
            have hs := selN_get (T := Tc x n k) (n := n) (i := j) (by rw [HLL.out]; exact hjl)
            have hsI : ((selN (Tc x n k) n).map fun (k : Nat) => (k : Int)).getD j 0 = ((selN (Tc x n k) n).getD j 0 : Nat) := by
              have : j < (selN (Tc x n k) n).length := by rw [HLL.out]; exact hjl
              simp [List.getD, List.getElem?_eq_getElem this]
            rw [hsI] at s1
            have hTK := curP_step x n k j (by rw [HLL.out]; exact hjl)
            generalize hsk : (selN (Tc x n k) n).getD j 0 = s at *
            have HSK := Lib.hid hsk
            have HTK := Lib.hid hTK
            have hsn := hs.1
            have HST := Lib.hid hs.2
            obtain ⟨p0, p1, p2, p3, p4⟩ := PCel.at (HCC.out.ext eW) hsn
            have q0 := hBW.cell 0
            have q1 := hBW.cell 1
            have q2 := hBW.cell 2
            have q3 := hBW.cell 3
            have q4 := hBW.cell 4
            have hpl := hBW.lt
            have hgl := hRW.lt
            have HRW := Lib.hid hRW
            have HSR := Lib.hid hsr
            have HBW := Lib.hid hBW
            have hv1 := HV.out.2 k hlt
            have hv2 := HV.out.2 s hsn
            obtain ⟨-, -, ⟨x1, x2⟩, ⟨x3, x4⟩, -⟩ := hv1
            obtain ⟨-, -, ⟨z1, z2⟩, ⟨z3, z4⟩, -⟩ := hv2
            clear hsk hTK hs hsI hselr hsr hRW hBW
            obtain ⟨cb, hcb⟩ : ∃ cb : Bool, cb = true ↔ (s < k ∧ conf x k s) := ⟨@decide (s < k ∧ conf x k s) (Classical.propDecidable _), by simp⟩
            have HCB := Lib.hid hcb
            obtain ⟨hA, hA1, hA2⟩ := mul_small x1 x2 z1 z2
            obtain ⟨hB, hB1, hB2⟩ := mul_small' x3 x4 z3 z4
            have HA := Lib.hid hA
            have HB := Lib.hid hB
            clear hcb hA hB
            go_upto_region 12 with (fail)
            go_cut [69] (fun s69 wx => s69 = .bool cb ∧ wx = wr.alloc (.cells #[.int .i64 (x s).id, .int .i64 (x s).mother, .int .i64 (x s).planted, .int .u8 (x s).sex, .int .i64 (x s).sort] 43))
            case first =>
              rcases bne_cases (x k).sex (x s).sex with ⟨hq1, EE1⟩ | ⟨hq1, EE1⟩
              all_goals
                rcases bne_cases (x k).sort (x s).sort with ⟨hq2, EE2⟩ | ⟨hq2, EE2⟩
              all_goals
                go_wp2_with fail
                all_goals
                  go_meet
                  refine ⟨congrArg Value.bool ?_, rfl⟩
                  have ha := HA.out
                  have hb := HB.out
                  have hc := EE1.out
                  have hd := EE2.out
                  rw [Bool.eq_iff_iff, HCB.out]
                  unfold conf
                  clear HNC HCLA hq1 hq2
                  simp
                  omega
            case rest =>
              obtain ⟨rfl, rfl⟩ := hcut
              cases cb with
              | true =>
                have hcc := HCB.out.1 rfl
                have HCC2 := Lib.hid hcc
                clear hcc
                go_wp2_with fail
                go_ret3
                refine ⟨_, _, _, rfl, .clash HV.out k hlt ⟨s, HCC2.out.1, (Tc_iff x n k s).1 HST.out, HCC2.out.2⟩ HCLA.out rfl rfl rfl, eW.alloc eW.size _⟩
              | false =>
                have hnc : s < k → ¬ conf x k s := fun h1 h2 => by have := HCB.out.2 ⟨h1, h2⟩; cases this
                have HNC2 := Lib.hid hnc
                clear hnc
                have hfin : ∀ W', Ext w W' → Blk W' wo.heap.size [.int .i64 (x k).id, .int .i64 (x k).mother, .int .i64 (x k).planted, .int .u8 (x k).sex, .int .i64 (x k).sort] 43 →
                    Row W' g2 3 1 L (fun i _ => .int .i64 (((selN (Tc x n k) n).map fun (k : Nat) => (k : Int)).getD i 0)) → Row W' g 43 5 n (pf (curP x n k ((selN (Tc x n k) n).take j ++ [s]))) →
                    ∃ j' : Nat, j' ≤ L ∧ Value.int .i64 ((j : Int) + 1) = .int .i64 j' ∧ Ext w W' ∧
                      Blk W' wo.heap.size [.int .i64 (x k).id, .int .i64 (x k).mother, .int .i64 (x k).planted, .int .u8 (x k).sex, .int .i64 (x k).sort] 43 ∧
                      (0 < L → ∃ g3, some (⟨g2, 0, none⟩ : Addr) = some ⟨g3, 0, none⟩ ∧ wo.heap.size + 1 ≤ g3 ∧ Row W' g3 3 1 L (fun i _ => .int .i64 (((selN (Tc x n k) n).map fun (k : Nat) => (k : Int)).getD i 0))) ∧
                      (∀ i < j', (selN (Tc x n k) n).getD i 0 < k → ¬ conf x k ((selN (Tc x n k) n).getD i 0)) ∧
                      Row W' g 43 5 n (pf (curP x n k (((selN (Tc x n k) n).take j')))) := by
                  intro W' f1 f2 f3 f4
                  refine ⟨j + 1, by omega, by go_num, f1, f2, fun _ => ⟨g2, rfl, hg2, f3⟩, fun i hi => ?_, ?_⟩
                  · rcases Nat.lt_or_ge i j with h | h
                    · exact HNC.out i h
                    · obtain rfl : i = j := by omega
                      rw [HSK.out]; exact HNC2.out
                  · rw [HTK.out]; exact f4
                have HFIN := Lib.hid hfin
                have hgw : w.heap.size ≤ g := Nat.le_trans e1.size hg
                have hne1 : wo.heap.size ≠ g := by omega
                have hne2 : g2 ≠ g := by omega
                clear hfin
                have zz1 : (x s).sex = 0 ∨ (x s).sex ≠ 0 := Classical.em _
                have zz2 : (x s).sort = 0 ∨ (x s).sort ≠ 0 := Classical.em _
                have ff := fun o => HRW.out.froz o
                have fo := ff (k * 5 + 3)
                have fo2 := ff (k * 5 + 4)
                obtain ⟨c0, c1, c2, c3, c4⟩ := Row.five HRW.out hlt
                clear ff
                rcases zz1 with zz1 | zz1
                · have hq1 : ((x s).sex != 0) = false := by simp [zz1]
                  have HZ1 := Lib.hid zz1
                  clear zz1
                  rcases zz2 with zz2 | zz2
                  · have hq2 : ((x s).sort != 0) = false := by simp [zz2]
                    have HZ2 := Lib.hid zz2
                    clear zz2
                    go_wp2_with fail
                    go_roundw
                    case rel => exact ⟨rfl, HFIN.out _ (eW.alloc eW.size _) (HBW.out.alloc _) (HSR.out.alloc _) (by rw [curP_same HZ1.out HZ2.out]; exact HRW.out.alloc _)⟩
                    case measure => simp [intOf]; omega
                  · have hq2 : ((x s).sort != 0) = true := by simp [zz2]
                    have HZ2 := Lib.hid zz2
                    clear zz2
                    go_wp2_with fail
                    go_roundw
                    case rel =>
                      refine ⟨rfl, HFIN.out _ (((eW).setCell (p := ⟨g, k * 5 + 4, none⟩) hgw _).alloc (by simp [World.setCell]; exact eW.size) _) (((HBW.out).setO hne1 _ _).alloc _) (((HSR.out).setO hne2 _ _).alloc _) (Row.alloc (Row.congr (Row.set (HRW.out) hlt (show 4 < 5 by omega) (.int .i64 (x s).sort)) fun i hi j hj => ?_) _)⟩
                      rw [pf_curP]
                      have h1 := HZ1.out
                      have h2 := HZ2.out
                      by_cases a1 : i = k ∧ j = 4
                      · obtain ⟨rfl, rfl⟩ := a1
                        simp [h2]
                      · by_cases a2 : i = k ∧ j = 3
                        · obtain ⟨rfl, rfl⟩ := a2
                          simp [h1]
                        · simp only [if_neg a1, if_neg a2, if_pos hj]
                    case measure => simp [intOf]; omega
                · have hq1 : ((x s).sex != 0) = true := by simp [zz1]
                  have HZ1 := Lib.hid zz1
                  clear zz1
                  rcases zz2 with zz2 | zz2
                  · have hq2 : ((x s).sort != 0) = false := by simp [zz2]
                    have HZ2 := Lib.hid zz2
                    clear zz2
                    go_wp2_with fail
                    go_roundw
                    case rel =>
                      refine ⟨rfl, HFIN.out _ (((eW).setCell (p := ⟨g, k * 5 + 3, none⟩) hgw _).alloc (by simp [World.setCell]; exact eW.size) _) (((HBW.out).setO hne1 _ _).alloc _) (((HSR.out).setO hne2 _ _).alloc _) (Row.alloc (Row.congr (Row.set (HRW.out) hlt (show 3 < 5 by omega) (.int .u8 (x s).sex)) fun i hi j hj => ?_) _)⟩
                      rw [pf_curP]
                      have h1 := HZ1.out
                      have h2 := HZ2.out
                      by_cases a1 : i = k ∧ j = 4
                      · obtain ⟨rfl, rfl⟩ := a1
                        simp [h2]
                      · by_cases a2 : i = k ∧ j = 3
                        · obtain ⟨rfl, rfl⟩ := a2
                          simp [h1]
                        · simp only [if_neg a1, if_neg a2, if_pos hj]
                    case measure => simp [intOf]; omega
                  · have hq2 : ((x s).sort != 0) = true := by simp [zz2]
                    have HZ2 := Lib.hid zz2
                    clear zz2
                    go_wp2_with fail
                    go_roundw
                    case rel =>
                      refine ⟨rfl, HFIN.out _ (((((eW).setCell (p := ⟨g, k * 5 + 3, none⟩) hgw _)).setCell (p := ⟨g, k * 5 + 4, none⟩) hgw _).alloc (by simp [World.setCell]; exact eW.size) _) (((((HBW.out).setO hne1 _ _)).setO hne1 _ _).alloc _) (((((HSR.out).setO hne2 _ _)).setO hne2 _ _).alloc _) (Row.alloc (Row.congr (Row.set ((Row.set (HRW.out) hlt (show 3 < 5 by omega) (.int .u8 (x s).sex))) hlt (show 4 < 5 by omega) (.int .i64 (x s).sort)) fun i hi j hj => ?_) _)⟩
                      rw [pf_curP]
                      have h1 := HZ1.out
                      have h2 := HZ2.out
                      by_cases a1 : i = k ∧ j = 4
                      · obtain ⟨rfl, rfl⟩ := a1
                        simp [h2]
                      · by_cases a2 : i = k ∧ j = 3
                        · obtain ⟨rfl, rfl⟩ := a2
                          simp [h1]
                        · simp only [if_neg a1, if_neg a2, if_pos hj]
                    case measure => simp [intOf]; omega
          · obtain rfl : j = L := by omega
            have hLL := HLL.out
            have hfull : (selN (Tc x n k) n).take j = selN (Tc x n k) n := List.take_of_length_le (by omega)
            rw [hfull] at hRW
            have HRW := Lib.hid hRW
            have hncl : ¬ Clash x n k := by
              rintro ⟨s, hs, hr, hc⟩
              have hm := selN_mem (Tc x n k) n s (by omega) ((Tc_iff x n k s).2 hr)
              obtain ⟨i, hi, he⟩ := List.mem_iff_getElem.1 hm
              have he' : (selN (Tc x n k) n).getD i 0 = s := by simp [List.getD, List.getElem?_eq_getElem hi, he]
              exact HNC.out i (by omega) (by rw [he']; exact hs) (by rw [he']; exact hc)
            have HNCL := Lib.hid hncl
            clear hncl hfull hLL hRW hselr hBW
            go_wp2_with fail
            go_roundw
            case rel =>
              refine ⟨rfl, k + 1, by omega, by go_num, eW, fun i hi => ?_, fun _ => ⟨g, rfl, hg, HRW.out.congr fun i hi i' hi' => ?_⟩⟩
              · rcases Nat.lt_or_ge i k with h | h
                · exact HCLA.out i h
                · obtain rfl : i = k := by omega
                  exact HNCL.out
              · simp only [pf, curP]
                by_cases h1 : i < k
                · rw [if_pos h1, if_pos (by omega)]
                · by_cases h2 : i = k
                  · subst h2; rw [if_neg h1, if_pos rfl, if_pos (by omega)]; rfl
                  · rw [if_neg h1, if_neg h2, if_neg (by omega)]
            case measure => simp [intOf]; omega
      · go_wp2_with fail
        obtain rfl : k = n := by omega
        go_ret3
        refine ⟨_, _, _, rfl, .ok HV.out HCLA.out rfl rfl ⟨_, _, rfl, hm1, fun h0 => ?_⟩, eR⟩
        obtain ⟨g, h1, h2, h3⟩ := hrow h0
        refine ⟨g, h1, Nat.le_trans e1.size h2, h3.congr fun i hi j hj => ?_⟩
        simp only [pf, if_pos hi]
  · go_wp2_with fail
    go_ret3
    exact ⟨_, _, _, rfl, .bad hv rfl rfl rfl, e1⟩
end Go.Proofs.Ytlapepdhkomijaa
