/-
  NARROWER THAN 'FOR EVERY INPUT', by the rows' own cells (each row's printed sentence says how): HourTells: laid · HourClashes: laid · HourNights: laid · HourExamples: laid · HourTrue: laid · HourNight: laid · HourNarrow: laid · HourMore: laid · HourReached: laid · HourPair: laid · HourBefore: laid · HourOn: laid.
  DERIVED. THE GIVEN ROWS OF THIS SEAT. 12 by the template 'for every input the law returns true; each argument reads behind the call as it read before'; 0 by the template 'total and deterministic' (their statements: YtbhhcnonooiokaaDoorTotals.lean).
  GIVEN WITH THE SEED: the statements are not yours to turn. If you find one false, say at which input.
  Laid BY PROGRAM, IN A SANDBOX (cutbox-rows.mjs): the forced cells as the released guide's own fill.sh prints them over the translation 9e1ecdf2c11e4af4… (all of the seat's roots in one cut). By AI agents, Wed Nov 11 2026. No macro, syntax, notation, axiom, sorry.
-/
import Derived.Test.YtbhhcnonooiokaaDoorChecked
import GoSem.Claim
import GoSem.ClaimJoined
import GoSem.ClaimMapViews
import Derived.JoinedTies
import Derived.KernelRfl
namespace Go.Proofs.YtbhhcnonooiokaaDoor
/- THE CELL 'sum', in the pinned program and in every row, IS THE sha256 OF THE DUMP (.gsa) THAT YtbhhcnonooiokaaDoorProg.lean LOADS. Nothing in Lean hashes anything: it is a label: what it is worth is what the hold of that sum in a sandbox is worth. -/
noncomputable def Tryd.pinned : Pinned := { name := "ytbhhcnonooiokaadoor", sum := "9e1ecdf2c11e4af45c6ea93b637b54ced6e524673876da3a4a8bbc2b0d2d40b1", checked := Tryd.checked }
namespace Rows
def none {H : Type} : Left H := { results := [], args := [] }

/- WHAT THE LISTED PACKAGE-LEVEL VARIABLES READ AS WHEN THE CALL BEGINS. Each datum BY PROGRAM (the guide's laid-datum.mjs) off the statement by which the dump's own 'gosem.cut.vars' lays the variable. In a bare row this is a premise. The card (YtbhhcnonooiokaaDoorCards.lean) ties it to the program's text. -/
def laid_aflaj_hour_never {H : Type} : DataW H := .agg [.lit (.int .i64 1), .lit (.int .i64 0)]

/-- 'aflajlaw03.HourTells': WHATEVER THE INPUT: true; the input reads as it did. -/
def hourTellsSpec : ChangeSpec := { name := "hourTells", fn := fun _ => fun
  | [d1, d2, d3, d4] => { results := [.lit (.bool true)], args := [d1, d2, d3, d4] }
  | _ => none }
def hourTellsRow : OpenClaim := { program := "ytbhhcnonooiokaadoor", sum := "9e1ecdf2c11e4af45c6ea93b637b54ced6e524673876da3a4a8bbc2b0d2d40b1", func := "aflaj/aflajlaw03.HourTells", spec := "hourTells", unfollowed := true, recurses := true, named := ["aflaj/hour.never"], apart := false, laid := [("aflaj/hour.never", laid_aflaj_hour_never)] }
def HourTellsSaid : Prop := hourTellsRow.holds Tryd.pinned (OpenSpec.ofChange hourTellsSpec)

/-- ITS FALSE NEIGHBOUR: 'it returns false'. Refute it at one input. -/
def hourTellsWrong : ChangeSpec := { name := "hourTells", fn := fun _ => fun
  | [d1, d2, d3, d4] => { results := [.lit (.bool false)], args := [d1, d2, d3, d4] }
  | _ => none }
def HourTellsWrongFalsely : Prop := hourTellsRow.holds Tryd.pinned (OpenSpec.ofChange hourTellsWrong)

/-- 'aflajlaw03.HourClashes': WHATEVER THE INPUT: true; the input reads as it did. -/
def hourClashesSpec : ChangeSpec := { name := "hourClashes", fn := fun _ => fun
  | [d1, d2, d3, d4] => { results := [.lit (.bool true)], args := [d1, d2, d3, d4] }
  | _ => none }
def hourClashesRow : OpenClaim := { program := "ytbhhcnonooiokaadoor", sum := "9e1ecdf2c11e4af45c6ea93b637b54ced6e524673876da3a4a8bbc2b0d2d40b1", func := "aflaj/aflajlaw03.HourClashes", spec := "hourClashes", unfollowed := true, recurses := true, named := ["aflaj/hour.never"], apart := false, laid := [("aflaj/hour.never", laid_aflaj_hour_never)] }
def HourClashesSaid : Prop := hourClashesRow.holds Tryd.pinned (OpenSpec.ofChange hourClashesSpec)

/-- ITS FALSE NEIGHBOUR: 'it returns false'. Refute it at one input. -/
def hourClashesWrong : ChangeSpec := { name := "hourClashes", fn := fun _ => fun
  | [d1, d2, d3, d4] => { results := [.lit (.bool false)], args := [d1, d2, d3, d4] }
  | _ => none }
def HourClashesWrongFalsely : Prop := hourClashesRow.holds Tryd.pinned (OpenSpec.ofChange hourClashesWrong)

/-- 'aflajlaw03.HourNights': WHATEVER THE INPUT: true; the input reads as it did. -/
def hourNightsSpec : ChangeSpec := { name := "hourNights", fn := fun _ => fun
  | [d1, d2, d3, d4, d5] => { results := [.lit (.bool true)], args := [d1, d2, d3, d4, d5] }
  | _ => none }
def hourNightsRow : OpenClaim := { program := "ytbhhcnonooiokaadoor", sum := "9e1ecdf2c11e4af45c6ea93b637b54ced6e524673876da3a4a8bbc2b0d2d40b1", func := "aflaj/aflajlaw03.HourNights", spec := "hourNights", unfollowed := true, recurses := true, named := ["aflaj/hour.never"], apart := false, laid := [("aflaj/hour.never", laid_aflaj_hour_never)] }
def HourNightsSaid : Prop := hourNightsRow.holds Tryd.pinned (OpenSpec.ofChange hourNightsSpec)

/-- ITS FALSE NEIGHBOUR: 'it returns false'. Refute it at one input. -/
def hourNightsWrong : ChangeSpec := { name := "hourNights", fn := fun _ => fun
  | [d1, d2, d3, d4, d5] => { results := [.lit (.bool false)], args := [d1, d2, d3, d4, d5] }
  | _ => none }
def HourNightsWrongFalsely : Prop := hourNightsRow.holds Tryd.pinned (OpenSpec.ofChange hourNightsWrong)

/-- 'aflajlaw03.HourExamples': WHATEVER THE INPUT: true; the input reads as it did. -/
def hourExamplesSpec : ChangeSpec := { name := "hourExamples", fn := fun _ => fun
  | [] => { results := [.lit (.bool true)], args := [] }
  | _ => none }
def hourExamplesRow : OpenClaim := { program := "ytbhhcnonooiokaadoor", sum := "9e1ecdf2c11e4af45c6ea93b637b54ced6e524673876da3a4a8bbc2b0d2d40b1", func := "aflaj/aflajlaw03.HourExamples", spec := "hourExamples", unfollowed := true, recurses := true, named := ["aflaj/hour.never"], apart := false, laid := [("aflaj/hour.never", laid_aflaj_hour_never)] }
def HourExamplesSaid : Prop := hourExamplesRow.holds Tryd.pinned (OpenSpec.ofChange hourExamplesSpec)

/-- ITS FALSE NEIGHBOUR: 'it returns false'. Refute it at one input. -/
def hourExamplesWrong : ChangeSpec := { name := "hourExamples", fn := fun _ => fun
  | [] => { results := [.lit (.bool false)], args := [] }
  | _ => none }
def HourExamplesWrongFalsely : Prop := hourExamplesRow.holds Tryd.pinned (OpenSpec.ofChange hourExamplesWrong)

/-- 'aflajlaw03.HourTrue': WHATEVER THE INPUT: true; the input reads as it did. -/
def hourTrueSpec : ChangeSpec := { name := "hourTrue", fn := fun _ => fun
  | [d1, d2, d3, d4, d5] => { results := [.lit (.bool true)], args := [d1, d2, d3, d4, d5] }
  | _ => none }
def hourTrueRow : OpenClaim := { program := "ytbhhcnonooiokaadoor", sum := "9e1ecdf2c11e4af45c6ea93b637b54ced6e524673876da3a4a8bbc2b0d2d40b1", func := "aflaj/aflajlaw03.HourTrue", spec := "hourTrue", unfollowed := true, recurses := true, named := ["aflaj/hour.never"], apart := false, laid := [("aflaj/hour.never", laid_aflaj_hour_never)] }
def HourTrueSaid : Prop := hourTrueRow.holds Tryd.pinned (OpenSpec.ofChange hourTrueSpec)

/-- ITS FALSE NEIGHBOUR: 'it returns false'. Refute it at one input. -/
def hourTrueWrong : ChangeSpec := { name := "hourTrue", fn := fun _ => fun
  | [d1, d2, d3, d4, d5] => { results := [.lit (.bool false)], args := [d1, d2, d3, d4, d5] }
  | _ => none }
def HourTrueWrongFalsely : Prop := hourTrueRow.holds Tryd.pinned (OpenSpec.ofChange hourTrueWrong)

/-- 'aflajlaw03.HourNight': WHATEVER THE INPUT: true; the input reads as it did. -/
def hourNightSpec : ChangeSpec := { name := "hourNight", fn := fun _ => fun
  | [d1, d2, d3, d4, d5] => { results := [.lit (.bool true)], args := [d1, d2, d3, d4, d5] }
  | _ => none }
def hourNightRow : OpenClaim := { program := "ytbhhcnonooiokaadoor", sum := "9e1ecdf2c11e4af45c6ea93b637b54ced6e524673876da3a4a8bbc2b0d2d40b1", func := "aflaj/aflajlaw03.HourNight", spec := "hourNight", unfollowed := true, recurses := true, named := ["aflaj/hour.never"], apart := false, laid := [("aflaj/hour.never", laid_aflaj_hour_never)] }
def HourNightSaid : Prop := hourNightRow.holds Tryd.pinned (OpenSpec.ofChange hourNightSpec)

/-- ITS FALSE NEIGHBOUR: 'it returns false'. Refute it at one input. -/
def hourNightWrong : ChangeSpec := { name := "hourNight", fn := fun _ => fun
  | [d1, d2, d3, d4, d5] => { results := [.lit (.bool false)], args := [d1, d2, d3, d4, d5] }
  | _ => none }
def HourNightWrongFalsely : Prop := hourNightRow.holds Tryd.pinned (OpenSpec.ofChange hourNightWrong)

/-- 'aflajlaw03.HourNarrow': WHATEVER THE INPUT: true; the input reads as it did. -/
def hourNarrowSpec : ChangeSpec := { name := "hourNarrow", fn := fun _ => fun
  | [d1, d2, d3, d4, d5, d6] => { results := [.lit (.bool true)], args := [d1, d2, d3, d4, d5, d6] }
  | _ => none }
def hourNarrowRow : OpenClaim := { program := "ytbhhcnonooiokaadoor", sum := "9e1ecdf2c11e4af45c6ea93b637b54ced6e524673876da3a4a8bbc2b0d2d40b1", func := "aflaj/aflajlaw03.HourNarrow", spec := "hourNarrow", unfollowed := true, recurses := true, named := ["aflaj/hour.never"], apart := false, laid := [("aflaj/hour.never", laid_aflaj_hour_never)] }
def HourNarrowSaid : Prop := hourNarrowRow.holds Tryd.pinned (OpenSpec.ofChange hourNarrowSpec)

/-- ITS FALSE NEIGHBOUR: 'it returns false'. Refute it at one input. -/
def hourNarrowWrong : ChangeSpec := { name := "hourNarrow", fn := fun _ => fun
  | [d1, d2, d3, d4, d5, d6] => { results := [.lit (.bool false)], args := [d1, d2, d3, d4, d5, d6] }
  | _ => none }
def HourNarrowWrongFalsely : Prop := hourNarrowRow.holds Tryd.pinned (OpenSpec.ofChange hourNarrowWrong)

/-- 'aflajlaw03.HourMore': WHATEVER THE INPUT: true; the input reads as it did. -/
def hourMoreSpec : ChangeSpec := { name := "hourMore", fn := fun _ => fun
  | [d1, d2, d3, d4, d5, d6] => { results := [.lit (.bool true)], args := [d1, d2, d3, d4, d5, d6] }
  | _ => none }
def hourMoreRow : OpenClaim := { program := "ytbhhcnonooiokaadoor", sum := "9e1ecdf2c11e4af45c6ea93b637b54ced6e524673876da3a4a8bbc2b0d2d40b1", func := "aflaj/aflajlaw03.HourMore", spec := "hourMore", unfollowed := true, recurses := true, named := ["aflaj/hour.never"], apart := false, laid := [("aflaj/hour.never", laid_aflaj_hour_never)] }
def HourMoreSaid : Prop := hourMoreRow.holds Tryd.pinned (OpenSpec.ofChange hourMoreSpec)

/-- ITS FALSE NEIGHBOUR: 'it returns false'. Refute it at one input. -/
def hourMoreWrong : ChangeSpec := { name := "hourMore", fn := fun _ => fun
  | [d1, d2, d3, d4, d5, d6] => { results := [.lit (.bool false)], args := [d1, d2, d3, d4, d5, d6] }
  | _ => none }
def HourMoreWrongFalsely : Prop := hourMoreRow.holds Tryd.pinned (OpenSpec.ofChange hourMoreWrong)

/-- 'aflajlaw03.HourReached': WHATEVER THE INPUT: true; the input reads as it did. -/
def hourReachedSpec : ChangeSpec := { name := "hourReached", fn := fun _ => fun
  | [d1, d2, d3, d4] => { results := [.lit (.bool true)], args := [d1, d2, d3, d4] }
  | _ => none }
def hourReachedRow : OpenClaim := { program := "ytbhhcnonooiokaadoor", sum := "9e1ecdf2c11e4af45c6ea93b637b54ced6e524673876da3a4a8bbc2b0d2d40b1", func := "aflaj/aflajlaw03.HourReached", spec := "hourReached", unfollowed := true, recurses := true, named := ["aflaj/hour.never"], apart := false, laid := [("aflaj/hour.never", laid_aflaj_hour_never)] }
def HourReachedSaid : Prop := hourReachedRow.holds Tryd.pinned (OpenSpec.ofChange hourReachedSpec)

/-- ITS FALSE NEIGHBOUR: 'it returns false'. Refute it at one input. -/
def hourReachedWrong : ChangeSpec := { name := "hourReached", fn := fun _ => fun
  | [d1, d2, d3, d4] => { results := [.lit (.bool false)], args := [d1, d2, d3, d4] }
  | _ => none }
def HourReachedWrongFalsely : Prop := hourReachedRow.holds Tryd.pinned (OpenSpec.ofChange hourReachedWrong)

/-- 'aflajlaw03.HourPair': WHATEVER THE INPUT: true; the input reads as it did. -/
def hourPairSpec : ChangeSpec := { name := "hourPair", fn := fun _ => fun
  | [d1, d2, d3] => { results := [.lit (.bool true)], args := [d1, d2, d3] }
  | _ => none }
def hourPairRow : OpenClaim := { program := "ytbhhcnonooiokaadoor", sum := "9e1ecdf2c11e4af45c6ea93b637b54ced6e524673876da3a4a8bbc2b0d2d40b1", func := "aflaj/aflajlaw03.HourPair", spec := "hourPair", unfollowed := true, recurses := true, named := ["aflaj/hour.never"], apart := false, laid := [("aflaj/hour.never", laid_aflaj_hour_never)] }
def HourPairSaid : Prop := hourPairRow.holds Tryd.pinned (OpenSpec.ofChange hourPairSpec)

/-- ITS FALSE NEIGHBOUR: 'it returns false'. Refute it at one input. -/
def hourPairWrong : ChangeSpec := { name := "hourPair", fn := fun _ => fun
  | [d1, d2, d3] => { results := [.lit (.bool false)], args := [d1, d2, d3] }
  | _ => none }
def HourPairWrongFalsely : Prop := hourPairRow.holds Tryd.pinned (OpenSpec.ofChange hourPairWrong)

/-- 'aflajlaw03.HourBefore': WHATEVER THE INPUT: true; the input reads as it did. -/
def hourBeforeSpec : ChangeSpec := { name := "hourBefore", fn := fun _ => fun
  | [d1, d2, d3, d4, d5, d6] => { results := [.lit (.bool true)], args := [d1, d2, d3, d4, d5, d6] }
  | _ => none }
def hourBeforeRow : OpenClaim := { program := "ytbhhcnonooiokaadoor", sum := "9e1ecdf2c11e4af45c6ea93b637b54ced6e524673876da3a4a8bbc2b0d2d40b1", func := "aflaj/aflajlaw03.HourBefore", spec := "hourBefore", unfollowed := true, recurses := true, named := ["aflaj/hour.never"], apart := false, laid := [("aflaj/hour.never", laid_aflaj_hour_never)] }
def HourBeforeSaid : Prop := hourBeforeRow.holds Tryd.pinned (OpenSpec.ofChange hourBeforeSpec)

/-- ITS FALSE NEIGHBOUR: 'it returns false'. Refute it at one input. -/
def hourBeforeWrong : ChangeSpec := { name := "hourBefore", fn := fun _ => fun
  | [d1, d2, d3, d4, d5, d6] => { results := [.lit (.bool false)], args := [d1, d2, d3, d4, d5, d6] }
  | _ => none }
def HourBeforeWrongFalsely : Prop := hourBeforeRow.holds Tryd.pinned (OpenSpec.ofChange hourBeforeWrong)

/-- 'aflajlaw03.HourOn': WHATEVER THE INPUT: true; the input reads as it did. -/
def hourOnSpec : ChangeSpec := { name := "hourOn", fn := fun _ => fun
  | [d1, d2, d3, d4] => { results := [.lit (.bool true)], args := [d1, d2, d3, d4] }
  | _ => none }
def hourOnRow : OpenClaim := { program := "ytbhhcnonooiokaadoor", sum := "9e1ecdf2c11e4af45c6ea93b637b54ced6e524673876da3a4a8bbc2b0d2d40b1", func := "aflaj/aflajlaw03.HourOn", spec := "hourOn", unfollowed := true, recurses := true, named := ["aflaj/hour.never"], apart := false, laid := [("aflaj/hour.never", laid_aflaj_hour_never)] }
def HourOnSaid : Prop := hourOnRow.holds Tryd.pinned (OpenSpec.ofChange hourOnSpec)

/-- ITS FALSE NEIGHBOUR: 'it returns false'. Refute it at one input. -/
def hourOnWrong : ChangeSpec := { name := "hourOn", fn := fun _ => fun
  | [d1, d2, d3, d4] => { results := [.lit (.bool false)], args := [d1, d2, d3, d4] }
  | _ => none }
def HourOnWrongFalsely : Prop := hourOnRow.holds Tryd.pinned (OpenSpec.ofChange hourOnWrong)

/- THE SECOND FORM. 'bulk': how many values and letters a reading holds, each counted each time it is reached (what is shared counts as often as it is met; a slice's spare places count too). A statement '..UptoSaid' is the law's where the arguments, and the package variables that the reading takes, are together of bulk at most 1048576: NARROWER than '..Said'. Prove '..Said' where nothing that the law and all that it calls make is longer than what came in: it says more and counts as full. Else prove '..UptoSaid'. A law counts once. -/
mutual
def uptoBulk {H : Type} : DataW H → Nat
  | .lit (.string bytes) => bytes.length + 1
  | .lit _ => 1
  | .nil => 1
  | .ptr d => uptoBulk d + 1
  | .slice elems spare => uptoBulkAll elems + uptoBulkAll spare + 1
  | .agg parts => uptoBulkAll parts + 1
  | .iface _ d => uptoBulk d + 1
  | .map entries => uptoBulkEntries entries + 1
  | .held _ => 1
def uptoBulkAll {H : Type} : List (DataW H) → Nat
  | [] => 0
  | d :: r => uptoBulk d + uptoBulkAll r
def uptoBulkEntries {H : Type} : List (Lit × DataW H) → Nat
  | [] => 0
  | x :: r => uptoBulkEntry x + uptoBulkEntries r
def uptoBulkEntry {H : Type} : Lit × DataW H → Nat
  | (.string bytes, d) => bytes.length + uptoBulk d + 1
  | (_, d) => uptoBulk d + 1
 end
def uptoSmall : (H : Type) → List (DataW H) → Bool := fun _ ds => decide (uptoBulkAll ds ≤ 1048576)
def OpenSpec.upto (s : _root_.Go.ChangeSpec) : _root_.Go.OpenSpec := { _root_.Go.OpenSpec.ofChange s with cond := some uptoSmall }

/-- 'aflajlaw03.HourTells', WHERE WHAT IT READS IS OF BULK AT MOST 1048576: true; the input reads as it did. -/
def hourTellsUptoRow : OpenClaim := { program := "ytbhhcnonooiokaadoor", sum := "9e1ecdf2c11e4af45c6ea93b637b54ced6e524673876da3a4a8bbc2b0d2d40b1", func := "aflaj/aflajlaw03.HourTells", spec := "hourTells", unfollowed := true, recurses := true, named := ["aflaj/hour.never"], apart := false, laid := [("aflaj/hour.never", laid_aflaj_hour_never)], narrowed := true }
def HourTellsUptoSaid : Prop := hourTellsUptoRow.holds Tryd.pinned (OpenSpec.upto hourTellsSpec)

/-- 'aflajlaw03.HourClashes', WHERE WHAT IT READS IS OF BULK AT MOST 1048576: true; the input reads as it did. -/
def hourClashesUptoRow : OpenClaim := { program := "ytbhhcnonooiokaadoor", sum := "9e1ecdf2c11e4af45c6ea93b637b54ced6e524673876da3a4a8bbc2b0d2d40b1", func := "aflaj/aflajlaw03.HourClashes", spec := "hourClashes", unfollowed := true, recurses := true, named := ["aflaj/hour.never"], apart := false, laid := [("aflaj/hour.never", laid_aflaj_hour_never)], narrowed := true }
def HourClashesUptoSaid : Prop := hourClashesUptoRow.holds Tryd.pinned (OpenSpec.upto hourClashesSpec)

/-- 'aflajlaw03.HourNights', WHERE WHAT IT READS IS OF BULK AT MOST 1048576: true; the input reads as it did. -/
def hourNightsUptoRow : OpenClaim := { program := "ytbhhcnonooiokaadoor", sum := "9e1ecdf2c11e4af45c6ea93b637b54ced6e524673876da3a4a8bbc2b0d2d40b1", func := "aflaj/aflajlaw03.HourNights", spec := "hourNights", unfollowed := true, recurses := true, named := ["aflaj/hour.never"], apart := false, laid := [("aflaj/hour.never", laid_aflaj_hour_never)], narrowed := true }
def HourNightsUptoSaid : Prop := hourNightsUptoRow.holds Tryd.pinned (OpenSpec.upto hourNightsSpec)

/-- 'aflajlaw03.HourExamples', WHERE WHAT IT READS IS OF BULK AT MOST 1048576: true; the input reads as it did. -/
def hourExamplesUptoRow : OpenClaim := { program := "ytbhhcnonooiokaadoor", sum := "9e1ecdf2c11e4af45c6ea93b637b54ced6e524673876da3a4a8bbc2b0d2d40b1", func := "aflaj/aflajlaw03.HourExamples", spec := "hourExamples", unfollowed := true, recurses := true, named := ["aflaj/hour.never"], apart := false, laid := [("aflaj/hour.never", laid_aflaj_hour_never)], narrowed := true }
def HourExamplesUptoSaid : Prop := hourExamplesUptoRow.holds Tryd.pinned (OpenSpec.upto hourExamplesSpec)

/-- 'aflajlaw03.HourTrue', WHERE WHAT IT READS IS OF BULK AT MOST 1048576: true; the input reads as it did. -/
def hourTrueUptoRow : OpenClaim := { program := "ytbhhcnonooiokaadoor", sum := "9e1ecdf2c11e4af45c6ea93b637b54ced6e524673876da3a4a8bbc2b0d2d40b1", func := "aflaj/aflajlaw03.HourTrue", spec := "hourTrue", unfollowed := true, recurses := true, named := ["aflaj/hour.never"], apart := false, laid := [("aflaj/hour.never", laid_aflaj_hour_never)], narrowed := true }
def HourTrueUptoSaid : Prop := hourTrueUptoRow.holds Tryd.pinned (OpenSpec.upto hourTrueSpec)

/-- 'aflajlaw03.HourNight', WHERE WHAT IT READS IS OF BULK AT MOST 1048576: true; the input reads as it did. -/
def hourNightUptoRow : OpenClaim := { program := "ytbhhcnonooiokaadoor", sum := "9e1ecdf2c11e4af45c6ea93b637b54ced6e524673876da3a4a8bbc2b0d2d40b1", func := "aflaj/aflajlaw03.HourNight", spec := "hourNight", unfollowed := true, recurses := true, named := ["aflaj/hour.never"], apart := false, laid := [("aflaj/hour.never", laid_aflaj_hour_never)], narrowed := true }
def HourNightUptoSaid : Prop := hourNightUptoRow.holds Tryd.pinned (OpenSpec.upto hourNightSpec)

/-- 'aflajlaw03.HourNarrow', WHERE WHAT IT READS IS OF BULK AT MOST 1048576: true; the input reads as it did. -/
def hourNarrowUptoRow : OpenClaim := { program := "ytbhhcnonooiokaadoor", sum := "9e1ecdf2c11e4af45c6ea93b637b54ced6e524673876da3a4a8bbc2b0d2d40b1", func := "aflaj/aflajlaw03.HourNarrow", spec := "hourNarrow", unfollowed := true, recurses := true, named := ["aflaj/hour.never"], apart := false, laid := [("aflaj/hour.never", laid_aflaj_hour_never)], narrowed := true }
def HourNarrowUptoSaid : Prop := hourNarrowUptoRow.holds Tryd.pinned (OpenSpec.upto hourNarrowSpec)

/-- 'aflajlaw03.HourMore', WHERE WHAT IT READS IS OF BULK AT MOST 1048576: true; the input reads as it did. -/
def hourMoreUptoRow : OpenClaim := { program := "ytbhhcnonooiokaadoor", sum := "9e1ecdf2c11e4af45c6ea93b637b54ced6e524673876da3a4a8bbc2b0d2d40b1", func := "aflaj/aflajlaw03.HourMore", spec := "hourMore", unfollowed := true, recurses := true, named := ["aflaj/hour.never"], apart := false, laid := [("aflaj/hour.never", laid_aflaj_hour_never)], narrowed := true }
def HourMoreUptoSaid : Prop := hourMoreUptoRow.holds Tryd.pinned (OpenSpec.upto hourMoreSpec)

/-- 'aflajlaw03.HourReached', WHERE WHAT IT READS IS OF BULK AT MOST 1048576: true; the input reads as it did. -/
def hourReachedUptoRow : OpenClaim := { program := "ytbhhcnonooiokaadoor", sum := "9e1ecdf2c11e4af45c6ea93b637b54ced6e524673876da3a4a8bbc2b0d2d40b1", func := "aflaj/aflajlaw03.HourReached", spec := "hourReached", unfollowed := true, recurses := true, named := ["aflaj/hour.never"], apart := false, laid := [("aflaj/hour.never", laid_aflaj_hour_never)], narrowed := true }
def HourReachedUptoSaid : Prop := hourReachedUptoRow.holds Tryd.pinned (OpenSpec.upto hourReachedSpec)

/-- 'aflajlaw03.HourPair', WHERE WHAT IT READS IS OF BULK AT MOST 1048576: true; the input reads as it did. -/
def hourPairUptoRow : OpenClaim := { program := "ytbhhcnonooiokaadoor", sum := "9e1ecdf2c11e4af45c6ea93b637b54ced6e524673876da3a4a8bbc2b0d2d40b1", func := "aflaj/aflajlaw03.HourPair", spec := "hourPair", unfollowed := true, recurses := true, named := ["aflaj/hour.never"], apart := false, laid := [("aflaj/hour.never", laid_aflaj_hour_never)], narrowed := true }
def HourPairUptoSaid : Prop := hourPairUptoRow.holds Tryd.pinned (OpenSpec.upto hourPairSpec)

/-- 'aflajlaw03.HourBefore', WHERE WHAT IT READS IS OF BULK AT MOST 1048576: true; the input reads as it did. -/
def hourBeforeUptoRow : OpenClaim := { program := "ytbhhcnonooiokaadoor", sum := "9e1ecdf2c11e4af45c6ea93b637b54ced6e524673876da3a4a8bbc2b0d2d40b1", func := "aflaj/aflajlaw03.HourBefore", spec := "hourBefore", unfollowed := true, recurses := true, named := ["aflaj/hour.never"], apart := false, laid := [("aflaj/hour.never", laid_aflaj_hour_never)], narrowed := true }
def HourBeforeUptoSaid : Prop := hourBeforeUptoRow.holds Tryd.pinned (OpenSpec.upto hourBeforeSpec)

/-- 'aflajlaw03.HourOn', WHERE WHAT IT READS IS OF BULK AT MOST 1048576: true; the input reads as it did. -/
def hourOnUptoRow : OpenClaim := { program := "ytbhhcnonooiokaadoor", sum := "9e1ecdf2c11e4af45c6ea93b637b54ced6e524673876da3a4a8bbc2b0d2d40b1", func := "aflaj/aflajlaw03.HourOn", spec := "hourOn", unfollowed := true, recurses := true, named := ["aflaj/hour.never"], apart := false, laid := [("aflaj/hour.never", laid_aflaj_hour_never)], narrowed := true }
def HourOnUptoSaid : Prop := hourOnUptoRow.holds Tryd.pinned (OpenSpec.upto hourOnSpec)

end Rows
end Go.Proofs.YtbhhcnonooiokaaDoor
