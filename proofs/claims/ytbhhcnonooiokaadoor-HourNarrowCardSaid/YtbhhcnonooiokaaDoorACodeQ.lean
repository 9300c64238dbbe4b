/- Compiled codes: the functions of the program as the engine reads them, each checked against the program. No condition. -/
import Derived.Test.YtbhhcnonooiokaaDoorE1
import Derived.Test.YtbhhcnonooiokaaDoorProg
set_option linter.unusedSimpArgs false
namespace Go.Proofs.YtbhhcnonooiokaaDoor
open Go Go.RowKit

/-- aflaj/aflajlaw03.mark -/
def a37 : AFun := ⟨(.seq (.reg 0 [⟨some 2, (.alloc (.cons (.int .u8 0) (.cons (.int .i64 0) (.cons (.int .i64 0) (.cons (.int .i64 0) (.cons (.int .i64 0) .nil)))))), none, false, []⟩]) (.seq (.reg 0 [⟨some 3, .mv (.t 0), none, false, []⟩, ⟨some 4, (.build (.cons (.int .u8 0) (.cons (.int .i64 0) (.cons (.int .i64 0) (.cons (.int .i64 0) (.cons (.int .i64 0) .nil))))) [(0, (1, (.c (.int .u8 1)))), (1, (1, (.t 3)))]), none, false, []⟩, ⟨none, .store 5 (.t 2) (.t 4), none, false, []⟩]) .ret)), [(.cell 2 true [(.int .u8), (.int .i64), (.int .i64), (.int .i64), (.int .i64)])]⟩
theorem c37 : cFun Tryd.prog Tryd.f37 = some a37 := by kernel_rfl

/-- aflaj/aflajlaw03.between -/
def a38 : AFun := ⟨(.seq (.reg 0 [⟨some 2, (.alloc (.cons (.int .u8 0) (.cons (.int .i64 0) (.cons (.int .i64 0) (.cons (.int .i64 0) (.cons (.int .i64 0) .nil)))))), none, false, []⟩]) (.seq (.reg 0 [⟨some 3, .mv (.t 0), none, false, []⟩, ⟨some 4, (.build (.cons (.int .u8 0) (.cons (.int .i64 0) (.cons (.int .i64 0) (.cons (.int .i64 0) (.cons (.int .i64 0) .nil))))) [(0, (1, (.c (.int .u8 2)))), (1, (1, (.t 3)))]), none, false, []⟩, ⟨none, .store 5 (.t 2) (.t 4), none, false, []⟩]) .ret)), [(.cell 2 true [(.int .u8), (.int .i64), (.int .i64), (.int .i64), (.int .i64)])]⟩
theorem c38 : cFun Tryd.prog Tryd.f38 = some a38 := by kernel_rfl

/-- aflaj/aflajlaw03.word -/
def a39 : AFun := ⟨(.seq (.reg 0 [⟨some 4, (.alloc (.cons (.int .u8 0) (.cons (.int .i64 0) (.cons (.int .i64 0) (.cons (.int .i64 0) (.cons (.int .i64 0) .nil)))))), none, false, []⟩]) (.seq (.reg 0 [⟨some 5, .mv (.t 0), none, false, []⟩, ⟨some 6, .mv (.t 1), none, false, []⟩, ⟨some 7, .call (.c (.func (.func 41) .nil)) [([(.int .i64)], (.t 5)), ([(.int .i64)], (.t 6))], none, false, []⟩, ⟨some 8, (.build (.cons (.int .u8 0) (.cons (.int .i64 0) (.cons (.int .i64 0) (.cons (.int .i64 0) (.cons (.int .i64 0) .nil))))) [(0, (1, (.c (.int .u8 4)))), (3, (2, (.t 7)))]), none, false, []⟩, ⟨none, .store 5 (.t 4) (.t 8), none, false, []⟩]) .ret)), [(.cell 4 true [(.int .u8), (.int .i64), (.int .i64), (.int .i64), (.int .i64)])]⟩
theorem c39 : cFun Tryd.prog Tryd.f39 = some a39 := by kernel_rfl

/-- aflaj/aflajlaw03.turns -/
def a40 : AFun := ⟨(.seq (.reg 0 [⟨some 0, .mv (.c .nils), none, false, []⟩]) (.seq (.reg 0 [⟨some 1, (.build (.cons (.int .i64 0) (.cons (.int .i64 0) .nil)) [(0, (1, (.c (.int .i64 0)))), (1, (1, (.c (.int .i64 30))))]), none, false, []⟩, ⟨some 2, (.build (.cons (.int .i64 0) (.cons (.int .i64 0) .nil)) [(0, (1, (.c (.int .i64 30)))), (1, (1, (.c (.int .i64 60))))]), none, false, []⟩, ⟨some 3, (.build (.cons (.int .i64 0) (.cons (.int .i64 0) .nil)) [(0, (1, (.c (.int .i64 90)))), (1, (1, (.c (.int .i64 120))))]), none, false, []⟩, ⟨some 4, .bsl 68 2 3 (.cons (.int .i64 0) (.cons (.int .i64 0) .nil)) [(0, (.t 1)), (1, (.t 2)), (2, (.t 3))], none, false, []⟩, ⟨some 0, .mv (.t 4), none, false, []⟩]) .ret)), [(.t 0)]⟩
theorem c40 : cFun Tryd.prog Tryd.f40 = some a40 := by kernel_rfl

end Go.Proofs.YtbhhcnonooiokaaDoor
