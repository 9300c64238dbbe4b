/- HourNarrow: what its parts say. No condition. -/
import Derived.Test.YtbhhcnonooiokaaDoorACodeL9
import Derived.Test.YtbhhcnonooiokaaDoorQNar
set_option linter.unusedSimpArgs false
set_option linter.unusedVariables false
namespace Go.Proofs.YtbhhcnonooiokaaDoor
open Go Go.RowKit
noncomputable def sLawNarrow : Spec := spec6 TCk TI (TSl RTl) (TSl RTl) (TSl RCh) (TSl (RU .u32)) (fun _ _ _ _ _ _ => True) fun _ _ _ _ _ _ => .bool true
noncomputable def narS : List (FuncId × Spec) := [(35, sAlive), (43, sReady), (28, sGreatN), (47, sPart), (22, sCheckR), (19, sAllA), (26, sBefR), (29, sNightP), (48, sWithinL)]
def narI : List (FuncId × AFun) := [(16, a16)]
abbrev NarW (k : Ck) (day : Int) (a b : Tls) (night : Chs) (by' : Us) : Prop := WfT (vl [TCk.enc k, TI.enc day, (TSl RTl).enc a, (TSl RTl).enc b, (TSl RCh).enc night, (TSl (RU .u32)).enc by'])
abbrev NarGoal (k : Ck) (day : Int) (a b : Tls) (night : Chs) (by' : Us) : Prop := RunTo NG narS narI a9 [TCk.enc k, TI.enc day, (TSl RTl).enc a, (TSl RTl).enc b, (TSl RCh).enc night, (TSl (RU .u32)).enc by'] (.bool true)
/-- the clock that is known better, by its marks -/
def narC (k : Ck) (by' : Us) (m : Nat × (Nat → Sp)) : Ck := ⟨m, (k.str.1, fun i => srF k by' k.str.1 i), partF k.hand by' 98, partF k.sinks by' 100⟩
def narM (k : Ck) (by' : Us) : Nat × (Nat → Sp) := (k.mrk.1, fun i => rowF k by' k.mrk.1 i)
def narQ (k : Ck) (by' : Us) : Ck := ⟨(k.mrk.1, rowF k by' k.mrk.1), k.str, k.hand, k.sinks⟩
def NarA0 (k c' : Ck) (day : Int) (a : Tls) : Prop := (thF c' day a).2 = 0 ∧ (thF k day a).2 = 0 ∧ witB (minsF (thF c' day a).1) (minsF (thF k day a).1) = true
def NarA1 (k c' : Ck) (day : Int) (a : Tls) : Prop := (thF c' day a).2 = 32 ∧ (thF k day a).2 = 0 ∧ ((0 : Nat) = 0) = True
def NarA2 (k c' : Ck) (day : Int) (a : Tls) : Prop := (thF c' day a).2 = (thF k day a).2 ∧ ((thF k day a).2 = 0) = False
end Go.Proofs.YtbhhcnonooiokaaDoor
