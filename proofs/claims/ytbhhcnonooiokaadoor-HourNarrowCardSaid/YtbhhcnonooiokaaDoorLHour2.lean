/- Hours: the program's types opened, and what the laid variable gives. No condition. -/
import Derived.Test.YtbhhcnonooiokaaDoorLHour
import Derived.Test.YtbhhcnonooiokaaDoorHProg2
import Derived.Test.YtbhhcnonooiokaaDoorTie
import Derived.Test.YtbhhcnonooiokaaDoorCards
import Derived.ProofKit
import Derived.LaidMore
import Derived.OpenShut
set_option linter.unusedSimpArgs false
set_option linter.unusedVariables false
namespace Go.Proofs.YtbhhcnonooiokaaDoor
open Go Go.RowKit Go.ChangeShapes Go.WideShapes Go.ChangeAt Go.Deep
theorem oSp : OpensAs Tryd.prog RSp 25 := Sp.opens Tryd.underlying25 (by kernel_rfl) rfl ⟨_, rfl, rfl, (opens_int Tryd.underlying3 (by kernel_rfl))⟩ ⟨_, rfl, rfl, (opens_int Tryd.underlying3 (by kernel_rfl))⟩
theorem oSr : OpensAs Tryd.prog RSr 90 := Sr.opens Tryd.underlying90 (by kernel_rfl) rfl ⟨_, rfl, rfl, oSp⟩ ⟨_, rfl, rfl, oSp⟩
theorem oTl : OpensAs Tryd.prog RTl 29 := Tl.opens Tryd.underlying29 (by kernel_rfl) rfl ⟨_, rfl, rfl, (opens_int Tryd.underlying5 (by kernel_rfl))⟩ ⟨_, rfl, rfl, (opens_int Tryd.underlying3 (by kernel_rfl))⟩ ⟨_, rfl, rfl, (opens_int Tryd.underlying3 (by kernel_rfl))⟩ ⟨_, rfl, rfl, oSp⟩
theorem oCh : OpensAs Tryd.prog RCh 78 := Ch.opens Tryd.underlying78 (by kernel_rfl) rfl ⟨_, rfl, rfl, (opens_slice Tryd.underlying30 (by kernel_rfl) oTl)⟩ ⟨_, rfl, rfl, (opens_int Tryd.underlying3 (by kernel_rfl))⟩ ⟨_, rfl, rfl, (opens_bool Tryd.underlying4 (by kernel_rfl))⟩
theorem oCk : OpensAs Tryd.prog RCk 27 := Ck.opens Tryd.underlying27 (by kernel_rfl) rfl ⟨_, rfl, rfl, (opens_slice Tryd.underlying22 (by kernel_rfl) oSp)⟩ ⟨_, rfl, rfl, (opens_slice Tryd.underlying23 (by kernel_rfl) oSr)⟩ ⟨_, rfl, rfl, oSp⟩ ⟨_, rfl, rfl, oSp⟩
abbrev lawLaid : List (String × DataW Unit) := [("aflaj/hour.never", Rows.laid_aflaj_hour_never)]
theorem law_door (os : Os) (args : Array Value) : laidMetH Tryd.prog lawLaid ((World.doorLaid Tryd.prog 14 os).forCall (fun _ _ => 0) ⟨#[], args, []⟩).memory :=
  laidMetH_of_parts3 (fuel := 8) (laidMet_of_run' 8 (by kernel_rfl) (by kernel_rfl)) (by kernel_rfl) (by kernel_rfl)
theorem gNever : Tryd.prog.globalNamed "aflaj/hour.never" = some 0 := by kernel_rfl
theorem tNever : (Tryd.prog.globals[0]?).map (·.type) = some 107 := by kernel_rfl
set_option maxRecDepth 100000 in
theorem law_globals {W : World} (h : laidMetH Tryd.prog lawLaid W) : ∀ n m c, NG n = some (m, c) → RepP W (fun g => g < W.heap.size) (.vptr m c) (.pointer (some ⟨n, 0, none⟩)) := by
  rw [MakeChecks.laidMetH_plain _ _ _ (by kernel_rfl)] at h
  obtain ⟨ps, ⟨g0, t0, cs0, f0, p0, q0, hg0, ht0, hv0, hd0, _, _⟩, _, _⟩ := h
  obtain rfl := Option.some.inj (gNever.symm.trans hg0)
  obtain rfl := Option.some.inj (tNever.symm.trans ht0)
  have ci : Tryd.prog.cellsOf 3 = 1 := by kernel_rfl
  obtain ⟨xs, m1, rfl, hx1, hlen, hn3, hel⟩ := DataW.trod_array Tryd.underlying107 hd0
  have h0 := hel 0 (by decide)
  have h1 := hel 1 (by decide)
  simp only [Rows.laid_aflaj_hour_never, Prod.mk.injEq, DataW.agg.injEq] at hx1
  rw [ci] at h0 h1
  match xs, hn3, hx1, h0, h1 with
  | [x0, x1], _, hx1, h0, h1 =>
    simp only [List.map_cons, List.map_nil, List.cons.injEq] at hx1
    obtain ⟨k0, e1, e2, _⟩ := DataW.trod_int Tryd.underlying3 (show DataW.trod _ Tryd.prog W 0 _ false m1 3 _ = some x0 from h0)
    obtain ⟨k1, e3, e4, _⟩ := DataW.trod_int Tryd.underlying3 (show DataW.trod _ Tryd.prog W 0 _ false m1 3 _ = some x1 from h1)
    have hk0 : k0 = 1 := by rw [e2] at hx1; simpa using hx1.1.1.symm
    have hk1 : k1 = 0 := by rw [e4] at hx1; simpa using hx1.1.2.1.symm
    subst hk0 hk1
    have c0 := World.var?_cell hg0 hv0 0
    have c1 := World.var?_cell hg0 hv0 1
    obtain ⟨l⟩ := cs0
    have g0 : l[0]? = some (.int .i64 1) := by
      have := congrArg List.head? e1
      simpa [List.head?_take, List.head?_eq_getElem?] using this
    have g1 : l[1]? = some (.int .i64 0) := by
      have := congrArg List.head? e3
      simpa [List.head?_take, List.head?_eq_getElem?, List.getElem?_drop] using this
    have c0' : W.cell? ⟨0, 0, none⟩ = some (.int .i64 1) := by simpa [g0] using c0
    have c1' : W.cell? ⟨0, 1, none⟩ = some (.int .i64 0) := by simpa [g1] using c1
    intro n m c hn
    cases n with
    | zero =>
      simp only [NG_0, Option.some.injEq, Prod.mk.injEq] at hn
      obtain ⟨rfl, rfl⟩ := hn
      refine ⟨0, 0, rfl, cell_lt c0', cell_lt c0', fun j hj => ?_⟩
      obtain rfl | rfl : j = 0 ∨ j = 1 := by omega
      · exact ⟨_, c0', rfl⟩
      · exact ⟨_, c1', rfl⟩
    | succ n => simp [NG] at hn
end Go.Proofs.YtbhhcnonooiokaaDoor
