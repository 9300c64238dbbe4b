/- Compiled codes: the functions of the program as the engine reads them, each checked against the program. No condition. -/
import Derived.Test.YtlapepdhkomijaaACode1
import Derived.Test.YtlapepdhkomijaaProg
set_option linter.unusedSimpArgs false
namespace Go.Proofs.Ytlapepdhkomijaa
open Go Go.RowKit
def a4 : AFun := by
  refine (fun x (_ : (⟨(qR ([qO 3 (.box 5 (.t 1)),qO 4 (.mv (.c (.bool false)))]) (.seq (qR ([qm 14 0,qO 15 (.load true qW (.t 3)),qk 16 14 [qz 5 14,qw 15]]) (.cond (.t 16) (qR ([qO 4 (.mv (.c (.bool true)))]) .ret) .skip)) (qR ([qO 17 (.load true qW (.t 3)),qk 18 23 [qw 17],qO 5 (.alloc (.cons (.int .i64 0) (.cons .nils (.cons .nils (.cons .nils (.cons (.int .i64 0) .nil)))))),qs 5 5 18]) (qR ([qm 20 0,qO 21 (.load true qW (.t 5)),qk 22 24 [qz 5 20,qw 21],qm 19 22,qO 23 (.ext 0 (.t 19)),qO 24 (.ext 1 (.t 19)),qm 6 23,qm 7 24]) (qR ([qm 26 0,qO 27 (.load true qW (.t 3)),qk 28 25 [qz 5 26,qw 27],qm 25 28,qO 29 (.ext 0 (.t 25)),qO 30 (.ext 1 (.t 25)),qm 8 29,qm 9 30]) (qR ([qm 32 0,qO 33 (.load true qW (.t 5)),qk 34 26 [qz 5 32,qw 33],qm 31 34,qO 35 (.ext 0 (.t 31)),qO 36 (.ext 1 (.t 31)),qm 10 35,qm 11 36]) (qR ([qm 38 0,qO 39 (.load true qW (.t 3)),qk 40 27 [qz 5 38,qw 39],qm 37 40,qO 41 (.ext 0 (.t 37)),qO 42 (.ext 1 (.t 37)),qm 12 41,qm 13 42]) (qR ([qm 43 6,qm 44 8,qk 45 28 [qz 1 43,qz 1 44],qt (qm 46 45),qg 46 true (qm 47 7),qg 46 true (qm 48 9),qg 46 true (qb 49 .eql 47 48),qp 50 46 49,qt (qm 51 50),qg 51 true (qm 52 10),qg 51 true (qm 53 12),qg 51 true (qk 54 29 [qz 3 52,qz 3 53]),qp 55 51 54,qt (qm 56 55),qg 56 true (qm 57 11),qg 56 true (qm 58 13),qg 56 true (qb 59 .eql 57 58),qp 60 56 59,qt (qm 61 60),qg 61 true (qO 62 (.load true qW (.t 5))),qg 61 true (qO 63 (.load true qW (.t 3))),qg 61 true (qk 64 30 [qw 62,qw 63]),qp 65 61 64,qm 4 65]) .ret)))))))),[(.t 4)]⟩ : AFun) = x) => x) ?x ?h
  case h =>
    dsimp only [qO,qN,qg,qt,qm,qf,qi,qI,ql,qx,qb,qc,qe,qs,qp,qr,qW,qk,qa,qv,qy,qw,qz,qR]
    exact rfl
theorem c4 : cFun Try.prog Try.f4 = some a4 := by kernel_rfl
end Go.Proofs.Ytlapepdhkomijaa
