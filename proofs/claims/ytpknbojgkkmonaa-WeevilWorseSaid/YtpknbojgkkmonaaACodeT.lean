/- Compiled codes: the functions of the program as the engine reads them, each checked against the program. No condition. -/
import Derived.Test.YtpknbojgkkmonaaE1
import Derived.Test.YtpknbojgkkmonaaProg
set_option linter.unusedSimpArgs false
namespace Go.Proofs.Ytpknbojgkkmonaa
open Go Go.RowKit

/-- aflaj/aflajref09.Twin -/
def a14 : AFun := ⟨(.seq (.reg 0 [⟨some 1, .box 7 (.t 0), none, false, []⟩, ⟨some 2, (.alloc (.cons .nils (.cons .nils (.cons (.int .i64 0) (.cons (.int .i64 0) (.cons (.int .i64 0) (.cons (.int .i64 0) (.cons .nils .nil)))))))), none, false, []⟩]) (.seq (.reg 0 [⟨some 3, (.bsl 60 5 0 (.cons (.int .i64 0) (.cons (.int .i64 0) (.cons (.int .i64 0) (.cons (.int .u8 0) (.cons (.int .i64 0) .nil))))) []), none, false, []⟩, ⟨some 4, .fld 0 (.t 1), none, false, []⟩, ⟨some 5, .load false [(.slc 5)] (.t 4), none, false, []⟩, ⟨some 6, .app 60 5 40 (.t 3) (.t 5), none, false, []⟩, ⟨some 7, .fld 0 (.t 1), none, false, []⟩, ⟨none, .store 1 (.t 7) (.t 6), none, false, []⟩]) (.seq (.reg 0 [⟨some 8, .bsl 55 2 0 (.cons (.int .i64 0) (.cons (.int .i64 0) .nil)) [], none, false, []⟩, ⟨some 9, .fld 1 (.t 1), none, false, []⟩, ⟨some 10, .load false [(.slc 2)] (.t 9), none, false, []⟩, ⟨some 11, .app 55 2 16 (.t 8) (.t 10), none, false, []⟩, ⟨some 12, .fld 1 (.t 1), none, false, []⟩, ⟨none, .store 1 (.t 12) (.t 11), none, false, []⟩]) (.seq (.reg 0 [⟨some 13, .bsl 3 1 0 (.cons (.int .i64 0) .nil) [], none, false, []⟩, ⟨some 14, .fld 6 (.t 1), none, false, []⟩, ⟨some 15, .load false [(.slc 1)] (.t 14), none, false, []⟩, ⟨some 16, .app 3 1 8 (.t 13) (.t 15), none, false, []⟩, ⟨some 17, .fld 6 (.t 1), none, false, []⟩, ⟨none, .store 1 (.t 17) (.t 16), none, false, []⟩]) (.seq (.reg 0 [⟨some 18, .load true [(.slc 5), (.slc 2), (.int .i64), (.int .i64), (.int .i64), (.int .i64), (.slc 1)] (.t 1), none, false, []⟩, ⟨none, .store 7 (.t 2) (.t 18), none, false, []⟩]) .ret))))), [(.cell 2 true [(.slc 5), (.slc 2), (.int .i64), (.int .i64), (.int .i64), (.int .i64), (.slc 1)])]⟩
theorem c14 : cFun Try.prog Try.f14 = some a14 := by kernel_rfl

end Go.Proofs.Ytpknbojgkkmonaa
