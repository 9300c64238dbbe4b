/-
  No cell of these rows narrows 'for every input' (looked for: loops, veiled, ifaces, maps, wideKeys, modest, calm, conditions, laid).
  DERIVED. THE GIVEN ROWS OF THIS SEAT. 11 by the template 'for every input the law returns true; each argument reads behind the call as it read before'; 0 by the template 'total and deterministic' (their statements: YtlapepdhkomijaaTotals.lean).
  GIVEN WITH THE SEED: the statements are not yours to turn. If you find one false, say at which input.
  Laid BY PROGRAM, IN A SANDBOX (cutbox-rows.mjs): the forced cells as the released guide's own fill.sh prints them over the translation e85600b59d8f88d0… (all of the seat's roots in one cut). By AI agents, Wed Nov 11 2026. No macro, syntax, notation, axiom, sorry.
-/
import Derived.Test.YtlapepdhkomijaaChecked
import GoSem.Claim
import GoSem.ClaimJoined
import GoSem.ClaimMapViews
import Derived.JoinedTies
import Derived.KernelRfl
namespace Go.Proofs.Ytlapepdhkomijaa
/- THE CELL 'sum', in the pinned program and in every row, IS THE sha256 OF THE DUMP (.gsa) THAT YtlapepdhkomijaaProg.lean LOADS. Nothing in Lean hashes anything: it is a label: what it is worth is what the hold of that sum in a sandbox is worth. -/
noncomputable def Try.pinned : Pinned := { name := "ytlapepdhkomijaa", sum := "e85600b59d8f88d0a22c5c200e30976490edf3c07c2aba6586cafe49d0877069", checked := Try.checked }
namespace Rows
def none {H : Type} : Left H := { results := [], args := [] }

/-- 'aflajlaw07.PalmKnown': WHATEVER THE INPUT: true; the input reads as it did. -/
def palmKnownSpec : ChangeSpec := { name := "palmKnown", fn := fun _ => fun
  | [d1, d2] => { results := [.lit (.bool true)], args := [d1, d2] }
  | _ => none }
def palmKnownRow : OpenClaim := { program := "ytlapepdhkomijaa", sum := "e85600b59d8f88d0a22c5c200e30976490edf3c07c2aba6586cafe49d0877069", func := "aflaj/aflajlaw07.PalmKnown", spec := "palmKnown", unfollowed := true, recurses := true, apart := false }
def PalmKnownSaid : Prop := palmKnownRow.holds Try.pinned (OpenSpec.ofChange palmKnownSpec)

/-- ITS FALSE NEIGHBOUR: 'it returns false'. Refute it at one input. -/
def palmKnownWrong : ChangeSpec := { name := "palmKnown", fn := fun _ => fun
  | [d1, d2] => { results := [.lit (.bool false)], args := [d1, d2] }
  | _ => none }
def PalmKnownWrongFalsely : Prop := palmKnownRow.holds Try.pinned (OpenSpec.ofChange palmKnownWrong)

/-- 'aflajlaw07.PalmPlans': WHATEVER THE INPUT: true; the input reads as it did. -/
def palmPlansSpec : ChangeSpec := { name := "palmPlans", fn := fun _ => fun
  | [d1, d2] => { results := [.lit (.bool true)], args := [d1, d2] }
  | _ => none }
def palmPlansRow : OpenClaim := { program := "ytlapepdhkomijaa", sum := "e85600b59d8f88d0a22c5c200e30976490edf3c07c2aba6586cafe49d0877069", func := "aflaj/aflajlaw07.PalmPlans", spec := "palmPlans", unfollowed := true, recurses := true, apart := false }
def PalmPlansSaid : Prop := palmPlansRow.holds Try.pinned (OpenSpec.ofChange palmPlansSpec)

/-- ITS FALSE NEIGHBOUR: 'it returns false'. Refute it at one input. -/
def palmPlansWrong : ChangeSpec := { name := "palmPlans", fn := fun _ => fun
  | [d1, d2] => { results := [.lit (.bool false)], args := [d1, d2] }
  | _ => none }
def PalmPlansWrongFalsely : Prop := palmPlansRow.holds Try.pinned (OpenSpec.ofChange palmPlansWrong)

/-- 'aflajlaw07.PalmProofs': WHATEVER THE INPUT: true; the input reads as it did. -/
def palmProofsSpec : ChangeSpec := { name := "palmProofs", fn := fun _ => fun
  | [d1, d2, d3] => { results := [.lit (.bool true)], args := [d1, d2, d3] }
  | _ => none }
def palmProofsRow : OpenClaim := { program := "ytlapepdhkomijaa", sum := "e85600b59d8f88d0a22c5c200e30976490edf3c07c2aba6586cafe49d0877069", func := "aflaj/aflajlaw07.PalmProofs", spec := "palmProofs", unfollowed := true, recurses := true, apart := false }
def PalmProofsSaid : Prop := palmProofsRow.holds Try.pinned (OpenSpec.ofChange palmProofsSpec)

/-- ITS FALSE NEIGHBOUR: 'it returns false'. Refute it at one input. -/
def palmProofsWrong : ChangeSpec := { name := "palmProofs", fn := fun _ => fun
  | [d1, d2, d3] => { results := [.lit (.bool false)], args := [d1, d2, d3] }
  | _ => none }
def PalmProofsWrongFalsely : Prop := palmProofsRow.holds Try.pinned (OpenSpec.ofChange palmProofsWrong)

/-- 'aflajlaw07.PalmExamples': WHATEVER THE INPUT: true; the input reads as it did. -/
def palmExamplesSpec : ChangeSpec := { name := "palmExamples", fn := fun _ => fun
  | [] => { results := [.lit (.bool true)], args := [] }
  | _ => none }
def palmExamplesRow : OpenClaim := { program := "ytlapepdhkomijaa", sum := "e85600b59d8f88d0a22c5c200e30976490edf3c07c2aba6586cafe49d0877069", func := "aflaj/aflajlaw07.PalmExamples", spec := "palmExamples", unfollowed := true, recurses := true, apart := false }
def PalmExamplesSaid : Prop := palmExamplesRow.holds Try.pinned (OpenSpec.ofChange palmExamplesSpec)

/-- ITS FALSE NEIGHBOUR: 'it returns false'. Refute it at one input. -/
def palmExamplesWrong : ChangeSpec := { name := "palmExamples", fn := fun _ => fun
  | [] => { results := [.lit (.bool false)], args := [] }
  | _ => none }
def PalmExamplesWrongFalsely : Prop := palmExamplesRow.holds Try.pinned (OpenSpec.ofChange palmExamplesWrong)

/-- 'aflajlaw07.PalmMost': WHATEVER THE INPUT: true; the input reads as it did. -/
def palmMostSpec : ChangeSpec := { name := "palmMost", fn := fun _ => fun
  | [d1, d2, d3] => { results := [.lit (.bool true)], args := [d1, d2, d3] }
  | _ => none }
def palmMostRow : OpenClaim := { program := "ytlapepdhkomijaa", sum := "e85600b59d8f88d0a22c5c200e30976490edf3c07c2aba6586cafe49d0877069", func := "aflaj/aflajlaw07.PalmMost", spec := "palmMost", unfollowed := true, recurses := true, apart := false }
def PalmMostSaid : Prop := palmMostRow.holds Try.pinned (OpenSpec.ofChange palmMostSpec)

/-- ITS FALSE NEIGHBOUR: 'it returns false'. Refute it at one input. -/
def palmMostWrong : ChangeSpec := { name := "palmMost", fn := fun _ => fun
  | [d1, d2, d3] => { results := [.lit (.bool false)], args := [d1, d2, d3] }
  | _ => none }
def PalmMostWrongFalsely : Prop := palmMostRow.holds Try.pinned (OpenSpec.ofChange palmMostWrong)

/-- 'aflajlaw07.PalmFirst': WHATEVER THE INPUT: true; the input reads as it did. -/
def palmFirstSpec : ChangeSpec := { name := "palmFirst", fn := fun _ => fun
  | [d1, d2, d3] => { results := [.lit (.bool true)], args := [d1, d2, d3] }
  | _ => none }
def palmFirstRow : OpenClaim := { program := "ytlapepdhkomijaa", sum := "e85600b59d8f88d0a22c5c200e30976490edf3c07c2aba6586cafe49d0877069", func := "aflaj/aflajlaw07.PalmFirst", spec := "palmFirst", unfollowed := true, recurses := true, apart := false }
def PalmFirstSaid : Prop := palmFirstRow.holds Try.pinned (OpenSpec.ofChange palmFirstSpec)

/-- ITS FALSE NEIGHBOUR: 'it returns false'. Refute it at one input. -/
def palmFirstWrong : ChangeSpec := { name := "palmFirst", fn := fun _ => fun
  | [d1, d2, d3] => { results := [.lit (.bool false)], args := [d1, d2, d3] }
  | _ => none }
def PalmFirstWrongFalsely : Prop := palmFirstRow.holds Try.pinned (OpenSpec.ofChange palmFirstWrong)

/-- 'aflajlaw07.PalmTrue': WHATEVER THE INPUT: true; the input reads as it did. -/
def palmTrueSpec : ChangeSpec := { name := "palmTrue", fn := fun _ => fun
  | [d1, d2, d3] => { results := [.lit (.bool true)], args := [d1, d2, d3] }
  | _ => none }
def palmTrueRow : OpenClaim := { program := "ytlapepdhkomijaa", sum := "e85600b59d8f88d0a22c5c200e30976490edf3c07c2aba6586cafe49d0877069", func := "aflaj/aflajlaw07.PalmTrue", spec := "palmTrue", unfollowed := true, recurses := true, apart := false }
def PalmTrueSaid : Prop := palmTrueRow.holds Try.pinned (OpenSpec.ofChange palmTrueSpec)

/-- ITS FALSE NEIGHBOUR: 'it returns false'. Refute it at one input. -/
def palmTrueWrong : ChangeSpec := { name := "palmTrue", fn := fun _ => fun
  | [d1, d2, d3] => { results := [.lit (.bool false)], args := [d1, d2, d3] }
  | _ => none }
def PalmTrueWrongFalsely : Prop := palmTrueRow.holds Try.pinned (OpenSpec.ofChange palmTrueWrong)

/-- 'aflajlaw07.PalmBound': WHATEVER THE INPUT: true; the input reads as it did. -/
def palmBoundSpec : ChangeSpec := { name := "palmBound", fn := fun _ => fun
  | [d1, d2, d3, d4] => { results := [.lit (.bool true)], args := [d1, d2, d3, d4] }
  | _ => none }
def palmBoundRow : OpenClaim := { program := "ytlapepdhkomijaa", sum := "e85600b59d8f88d0a22c5c200e30976490edf3c07c2aba6586cafe49d0877069", func := "aflaj/aflajlaw07.PalmBound", spec := "palmBound", unfollowed := true, recurses := true, apart := false }
def PalmBoundSaid : Prop := palmBoundRow.holds Try.pinned (OpenSpec.ofChange palmBoundSpec)

/-- ITS FALSE NEIGHBOUR: 'it returns false'. Refute it at one input. -/
def palmBoundWrong : ChangeSpec := { name := "palmBound", fn := fun _ => fun
  | [d1, d2, d3, d4] => { results := [.lit (.bool false)], args := [d1, d2, d3, d4] }
  | _ => none }
def PalmBoundWrongFalsely : Prop := palmBoundRow.holds Try.pinned (OpenSpec.ofChange palmBoundWrong)

/-- 'aflajlaw07.PalmMore': WHATEVER THE INPUT: true; the input reads as it did. -/
def palmMoreSpec : ChangeSpec := { name := "palmMore", fn := fun _ => fun
  | [d1, d2, d3, d4, d5, d6] => { results := [.lit (.bool true)], args := [d1, d2, d3, d4, d5, d6] }
  | _ => none }
def palmMoreRow : OpenClaim := { program := "ytlapepdhkomijaa", sum := "e85600b59d8f88d0a22c5c200e30976490edf3c07c2aba6586cafe49d0877069", func := "aflaj/aflajlaw07.PalmMore", spec := "palmMore", unfollowed := true, recurses := true, apart := false }
def PalmMoreSaid : Prop := palmMoreRow.holds Try.pinned (OpenSpec.ofChange palmMoreSpec)

/-- ITS FALSE NEIGHBOUR: 'it returns false'. Refute it at one input. -/
def palmMoreWrong : ChangeSpec := { name := "palmMore", fn := fun _ => fun
  | [d1, d2, d3, d4, d5, d6] => { results := [.lit (.bool false)], args := [d1, d2, d3, d4, d5, d6] }
  | _ => none }
def PalmMoreWrongFalsely : Prop := palmMoreRow.holds Try.pinned (OpenSpec.ofChange palmMoreWrong)

/-- 'aflajlaw07.PalmClone': WHATEVER THE INPUT: true; the input reads as it did. -/
def palmCloneSpec : ChangeSpec := { name := "palmClone", fn := fun _ => fun
  | [d1, d2, d3] => { results := [.lit (.bool true)], args := [d1, d2, d3] }
  | _ => none }
def palmCloneRow : OpenClaim := { program := "ytlapepdhkomijaa", sum := "e85600b59d8f88d0a22c5c200e30976490edf3c07c2aba6586cafe49d0877069", func := "aflaj/aflajlaw07.PalmClone", spec := "palmClone", unfollowed := true, recurses := true, apart := false }
def PalmCloneSaid : Prop := palmCloneRow.holds Try.pinned (OpenSpec.ofChange palmCloneSpec)

/-- ITS FALSE NEIGHBOUR: 'it returns false'. Refute it at one input. -/
def palmCloneWrong : ChangeSpec := { name := "palmClone", fn := fun _ => fun
  | [d1, d2, d3] => { results := [.lit (.bool false)], args := [d1, d2, d3] }
  | _ => none }
def PalmCloneWrongFalsely : Prop := palmCloneRow.holds Try.pinned (OpenSpec.ofChange palmCloneWrong)

/-- 'aflajlaw07.PalmDetail': WHATEVER THE INPUT: true; the input reads as it did. -/
def palmDetailSpec : ChangeSpec := { name := "palmDetail", fn := fun _ => fun
  | [d1, d2, d3, d4] => { results := [.lit (.bool true)], args := [d1, d2, d3, d4] }
  | _ => none }
def palmDetailRow : OpenClaim := { program := "ytlapepdhkomijaa", sum := "e85600b59d8f88d0a22c5c200e30976490edf3c07c2aba6586cafe49d0877069", func := "aflaj/aflajlaw07.PalmDetail", spec := "palmDetail", unfollowed := true, recurses := true, apart := false }
def PalmDetailSaid : Prop := palmDetailRow.holds Try.pinned (OpenSpec.ofChange palmDetailSpec)

/-- ITS FALSE NEIGHBOUR: 'it returns false'. Refute it at one input. -/
def palmDetailWrong : ChangeSpec := { name := "palmDetail", fn := fun _ => fun
  | [d1, d2, d3, d4] => { results := [.lit (.bool false)], args := [d1, d2, d3, d4] }
  | _ => none }
def PalmDetailWrongFalsely : Prop := palmDetailRow.holds Try.pinned (OpenSpec.ofChange palmDetailWrong)

/- THE SECOND FORM. 'bulk': how many values and letters a reading holds, each counted each time it is reached (what is shared counts as often as it is met; a slice's spare places count too). A statement '..UptoSaid' is the law's where the arguments, and the package variables that the reading takes, are together of bulk at most 1048576: NARROWER than '..Said'. Prove '..Said' where nothing that the law and all that it calls make is longer than what came in: it says more and counts as full. Else prove '..UptoSaid'. A law counts once. -/
mutual
def uptoBulk {H : Type} : DataW H → Nat
  | .lit (.string bytes) => bytes.length + 1
  | .lit _ => 1
  | .nil => 1
  | .ptr d => uptoBulk d + 1
  | .slice elems spare => uptoBulkAll elems + uptoBulkAll spare + 1
  | .agg parts => uptoBulkAll parts + 1
  | .iface _ d => uptoBulk d + 1
  | .map entries => uptoBulkEntries entries + 1
  | .held _ => 1
def uptoBulkAll {H : Type} : List (DataW H) → Nat
  | [] => 0
  | d :: r => uptoBulk d + uptoBulkAll r
def uptoBulkEntries {H : Type} : List (Lit × DataW H) → Nat
  | [] => 0
  | x :: r => uptoBulkEntry x + uptoBulkEntries r
def uptoBulkEntry {H : Type} : Lit × DataW H → Nat
  | (.string bytes, d) => bytes.length + uptoBulk d + 1
  | (_, d) => uptoBulk d + 1
 end
def uptoSmall : (H : Type) → List (DataW H) → Bool := fun _ ds => decide (uptoBulkAll ds ≤ 1048576)
def OpenSpec.upto (s : _root_.Go.ChangeSpec) : _root_.Go.OpenSpec := { _root_.Go.OpenSpec.ofChange s with cond := some uptoSmall }

/-- 'aflajlaw07.PalmKnown', WHERE WHAT IT READS IS OF BULK AT MOST 1048576: true; the input reads as it did. -/
def palmKnownUptoRow : OpenClaim := { program := "ytlapepdhkomijaa", sum := "e85600b59d8f88d0a22c5c200e30976490edf3c07c2aba6586cafe49d0877069", func := "aflaj/aflajlaw07.PalmKnown", spec := "palmKnown", unfollowed := true, recurses := true, apart := false, narrowed := true }
def PalmKnownUptoSaid : Prop := palmKnownUptoRow.holds Try.pinned (OpenSpec.upto palmKnownSpec)

/-- 'aflajlaw07.PalmPlans', WHERE WHAT IT READS IS OF BULK AT MOST 1048576: true; the input reads as it did. -/
def palmPlansUptoRow : OpenClaim := { program := "ytlapepdhkomijaa", sum := "e85600b59d8f88d0a22c5c200e30976490edf3c07c2aba6586cafe49d0877069", func := "aflaj/aflajlaw07.PalmPlans", spec := "palmPlans", unfollowed := true, recurses := true, apart := false, narrowed := true }
def PalmPlansUptoSaid : Prop := palmPlansUptoRow.holds Try.pinned (OpenSpec.upto palmPlansSpec)

/-- 'aflajlaw07.PalmProofs', WHERE WHAT IT READS IS OF BULK AT MOST 1048576: true; the input reads as it did. -/
def palmProofsUptoRow : OpenClaim := { program := "ytlapepdhkomijaa", sum := "e85600b59d8f88d0a22c5c200e30976490edf3c07c2aba6586cafe49d0877069", func := "aflaj/aflajlaw07.PalmProofs", spec := "palmProofs", unfollowed := true, recurses := true, apart := false, narrowed := true }
def PalmProofsUptoSaid : Prop := palmProofsUptoRow.holds Try.pinned (OpenSpec.upto palmProofsSpec)

/-- 'aflajlaw07.PalmExamples', WHERE WHAT IT READS IS OF BULK AT MOST 1048576: true; the input reads as it did. -/
def palmExamplesUptoRow : OpenClaim := { program := "ytlapepdhkomijaa", sum := "e85600b59d8f88d0a22c5c200e30976490edf3c07c2aba6586cafe49d0877069", func := "aflaj/aflajlaw07.PalmExamples", spec := "palmExamples", unfollowed := true, recurses := true, apart := false, narrowed := true }
def PalmExamplesUptoSaid : Prop := palmExamplesUptoRow.holds Try.pinned (OpenSpec.upto palmExamplesSpec)

/-- 'aflajlaw07.PalmMost', WHERE WHAT IT READS IS OF BULK AT MOST 1048576: true; the input reads as it did. -/
def palmMostUptoRow : OpenClaim := { program := "ytlapepdhkomijaa", sum := "e85600b59d8f88d0a22c5c200e30976490edf3c07c2aba6586cafe49d0877069", func := "aflaj/aflajlaw07.PalmMost", spec := "palmMost", unfollowed := true, recurses := true, apart := false, narrowed := true }
def PalmMostUptoSaid : Prop := palmMostUptoRow.holds Try.pinned (OpenSpec.upto palmMostSpec)

/-- 'aflajlaw07.PalmFirst', WHERE WHAT IT READS IS OF BULK AT MOST 1048576: true; the input reads as it did. -/
def palmFirstUptoRow : OpenClaim := { program := "ytlapepdhkomijaa", sum := "e85600b59d8f88d0a22c5c200e30976490edf3c07c2aba6586cafe49d0877069", func := "aflaj/aflajlaw07.PalmFirst", spec := "palmFirst", unfollowed := true, recurses := true, apart := false, narrowed := true }
def PalmFirstUptoSaid : Prop := palmFirstUptoRow.holds Try.pinned (OpenSpec.upto palmFirstSpec)

/-- 'aflajlaw07.PalmTrue', WHERE WHAT IT READS IS OF BULK AT MOST 1048576: true; the input reads as it did. -/
def palmTrueUptoRow : OpenClaim := { program := "ytlapepdhkomijaa", sum := "e85600b59d8f88d0a22c5c200e30976490edf3c07c2aba6586cafe49d0877069", func := "aflaj/aflajlaw07.PalmTrue", spec := "palmTrue", unfollowed := true, recurses := true, apart := false, narrowed := true }
def PalmTrueUptoSaid : Prop := palmTrueUptoRow.holds Try.pinned (OpenSpec.upto palmTrueSpec)

/-- 'aflajlaw07.PalmBound', WHERE WHAT IT READS IS OF BULK AT MOST 1048576: true; the input reads as it did. -/
def palmBoundUptoRow : OpenClaim := { program := "ytlapepdhkomijaa", sum := "e85600b59d8f88d0a22c5c200e30976490edf3c07c2aba6586cafe49d0877069", func := "aflaj/aflajlaw07.PalmBound", spec := "palmBound", unfollowed := true, recurses := true, apart := false, narrowed := true }
def PalmBoundUptoSaid : Prop := palmBoundUptoRow.holds Try.pinned (OpenSpec.upto palmBoundSpec)

/-- 'aflajlaw07.PalmMore', WHERE WHAT IT READS IS OF BULK AT MOST 1048576: true; the input reads as it did. -/
def palmMoreUptoRow : OpenClaim := { program := "ytlapepdhkomijaa", sum := "e85600b59d8f88d0a22c5c200e30976490edf3c07c2aba6586cafe49d0877069", func := "aflaj/aflajlaw07.PalmMore", spec := "palmMore", unfollowed := true, recurses := true, apart := false, narrowed := true }
def PalmMoreUptoSaid : Prop := palmMoreUptoRow.holds Try.pinned (OpenSpec.upto palmMoreSpec)

/-- 'aflajlaw07.PalmClone', WHERE WHAT IT READS IS OF BULK AT MOST 1048576: true; the input reads as it did. -/
def palmCloneUptoRow : OpenClaim := { program := "ytlapepdhkomijaa", sum := "e85600b59d8f88d0a22c5c200e30976490edf3c07c2aba6586cafe49d0877069", func := "aflaj/aflajlaw07.PalmClone", spec := "palmClone", unfollowed := true, recurses := true, apart := false, narrowed := true }
def PalmCloneUptoSaid : Prop := palmCloneUptoRow.holds Try.pinned (OpenSpec.upto palmCloneSpec)

/-- 'aflajlaw07.PalmDetail', WHERE WHAT IT READS IS OF BULK AT MOST 1048576: true; the input reads as it did. -/
def palmDetailUptoRow : OpenClaim := { program := "ytlapepdhkomijaa", sum := "e85600b59d8f88d0a22c5c200e30976490edf3c07c2aba6586cafe49d0877069", func := "aflaj/aflajlaw07.PalmDetail", spec := "palmDetail", unfollowed := true, recurses := true, apart := false, narrowed := true }
def PalmDetailUptoSaid : Prop := palmDetailUptoRow.holds Try.pinned (OpenSpec.upto palmDetailSpec)

end Rows
end Go.Proofs.Ytlapepdhkomijaa
