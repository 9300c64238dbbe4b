/-
  No cell of these rows narrows 'for every input' (looked for: loops, veiled, ifaces, maps, wideKeys, modest, calm, conditions, laid).
  DERIVED. THE GIVEN ROWS OF THIS SEAT. 11 by the template 'for every input the law returns true; each argument reads behind the call as it read before'; 0 by the template 'total and deterministic' (their statements: YtlieoghhkioflaaGreatTotals.lean).
  GIVEN WITH THE SEED: the statements are not yours to turn. If you find one false, say at which input.
  Laid BY PROGRAM, IN A SANDBOX (cutbox-rows.mjs): the forced cells as the released guide's own fill.sh prints them over the translation 1800ae0691b9535e… (all of the seat's roots in one cut). By AI agents, Wed Nov 11 2026. No macro, syntax, notation, axiom, sorry.
-/
import Derived.Test.YtlieoghhkioflaaGreatChecked
import GoSem.Claim
import GoSem.ClaimJoined
import GoSem.ClaimMapViews
import Derived.JoinedTies
import Derived.KernelRfl
namespace Go.Proofs.YtlieoghhkioflaaGreat
/- THE CELL 'sum', in the pinned program and in every row, IS THE sha256 OF THE DUMP (.gsa) THAT YtlieoghhkioflaaGreatProg.lean LOADS. Nothing in Lean hashes anything: it is a label: what it is worth is what the hold of that sum in a sandbox is worth. -/
noncomputable def Tryz.pinned : Pinned := { name := "ytlieoghhkioflaagreat", sum := "1800ae0691b9535ea6e6dce88f0382e125bdf55825ff61063380f05e5659bcfb", checked := Tryz.checked }
namespace Rows
def none {H : Type} : Left H := { results := [], args := [] }

/-- 'aflajlaw04.DeedOwners': WHATEVER THE INPUT: true; the input reads as it did. -/
def deedOwnersSpec : ChangeSpec := { name := "deedOwners", fn := fun _ => fun
  | [d1, d2, d3, d4] => { results := [.lit (.bool true)], args := [d1, d2, d3, d4] }
  | _ => none }
def deedOwnersRow : OpenClaim := { program := "ytlieoghhkioflaagreat", sum := "1800ae0691b9535ea6e6dce88f0382e125bdf55825ff61063380f05e5659bcfb", func := "aflaj/aflajlaw04.DeedOwners", spec := "deedOwners", inPlace := ["slices.overlaps[aflaj/deed.piece]"], unfollowed := true, recurses := true, apart := false }
def DeedOwnersSaid : Prop := deedOwnersRow.holds Tryz.pinned (OpenSpec.ofChange deedOwnersSpec)

/-- ITS FALSE NEIGHBOUR: 'it returns false'. Refute it at one input. -/
def deedOwnersWrong : ChangeSpec := { name := "deedOwners", fn := fun _ => fun
  | [d1, d2, d3, d4] => { results := [.lit (.bool false)], args := [d1, d2, d3, d4] }
  | _ => none }
def DeedOwnersWrongFalsely : Prop := deedOwnersRow.holds Tryz.pinned (OpenSpec.ofChange deedOwnersWrong)

/-- 'aflajlaw04.DeedAnyOrder': WHATEVER THE INPUT: true; the input reads as it did. -/
def deedAnyOrderSpec : ChangeSpec := { name := "deedAnyOrder", fn := fun _ => fun
  | [d1, d2, d3, d4] => { results := [.lit (.bool true)], args := [d1, d2, d3, d4] }
  | _ => none }
def deedAnyOrderRow : OpenClaim := { program := "ytlieoghhkioflaagreat", sum := "1800ae0691b9535ea6e6dce88f0382e125bdf55825ff61063380f05e5659bcfb", func := "aflaj/aflajlaw04.DeedAnyOrder", spec := "deedAnyOrder", inPlace := ["slices.overlaps[aflaj/deed.piece]"], unfollowed := true, recurses := true, apart := false }
def DeedAnyOrderSaid : Prop := deedAnyOrderRow.holds Tryz.pinned (OpenSpec.ofChange deedAnyOrderSpec)

/-- ITS FALSE NEIGHBOUR: 'it returns false'. Refute it at one input. -/
def deedAnyOrderWrong : ChangeSpec := { name := "deedAnyOrder", fn := fun _ => fun
  | [d1, d2, d3, d4] => { results := [.lit (.bool false)], args := [d1, d2, d3, d4] }
  | _ => none }
def DeedAnyOrderWrongFalsely : Prop := deedAnyOrderRow.holds Tryz.pinned (OpenSpec.ofChange deedAnyOrderWrong)

/-- 'aflajlaw04.DeedStep': WHATEVER THE INPUT: true; the input reads as it did. -/
def deedStepSpec : ChangeSpec := { name := "deedStep", fn := fun _ => fun
  | [d1, d2, d3] => { results := [.lit (.bool true)], args := [d1, d2, d3] }
  | _ => none }
def deedStepRow : OpenClaim := { program := "ytlieoghhkioflaagreat", sum := "1800ae0691b9535ea6e6dce88f0382e125bdf55825ff61063380f05e5659bcfb", func := "aflaj/aflajlaw04.DeedStep", spec := "deedStep", inPlace := ["slices.overlaps[aflaj/deed.piece]"], unfollowed := true, recurses := true, apart := false }
def DeedStepSaid : Prop := deedStepRow.holds Tryz.pinned (OpenSpec.ofChange deedStepSpec)

/-- ITS FALSE NEIGHBOUR: 'it returns false'. Refute it at one input. -/
def deedStepWrong : ChangeSpec := { name := "deedStep", fn := fun _ => fun
  | [d1, d2, d3] => { results := [.lit (.bool false)], args := [d1, d2, d3] }
  | _ => none }
def DeedStepWrongFalsely : Prop := deedStepRow.holds Tryz.pinned (OpenSpec.ofChange deedStepWrong)

/-- 'aflajlaw04.DeedReasons': WHATEVER THE INPUT: true; the input reads as it did. -/
def deedReasonsSpec : ChangeSpec := { name := "deedReasons", fn := fun _ => fun
  | [d1, d2, d3] => { results := [.lit (.bool true)], args := [d1, d2, d3] }
  | _ => none }
def deedReasonsRow : OpenClaim := { program := "ytlieoghhkioflaagreat", sum := "1800ae0691b9535ea6e6dce88f0382e125bdf55825ff61063380f05e5659bcfb", func := "aflaj/aflajlaw04.DeedReasons", spec := "deedReasons", inPlace := ["slices.overlaps[aflaj/deed.piece]"], unfollowed := true, recurses := true, apart := false }
def DeedReasonsSaid : Prop := deedReasonsRow.holds Tryz.pinned (OpenSpec.ofChange deedReasonsSpec)

/-- ITS FALSE NEIGHBOUR: 'it returns false'. Refute it at one input. -/
def deedReasonsWrong : ChangeSpec := { name := "deedReasons", fn := fun _ => fun
  | [d1, d2, d3] => { results := [.lit (.bool false)], args := [d1, d2, d3] }
  | _ => none }
def DeedReasonsWrongFalsely : Prop := deedReasonsRow.holds Tryz.pinned (OpenSpec.ofChange deedReasonsWrong)

/-- 'aflajlaw04.DeedBefore': WHATEVER THE INPUT: true; the input reads as it did. -/
def deedBeforeSpec : ChangeSpec := { name := "deedBefore", fn := fun _ => fun
  | [d1, d2, d3, d4] => { results := [.lit (.bool true)], args := [d1, d2, d3, d4] }
  | _ => none }
def deedBeforeRow : OpenClaim := { program := "ytlieoghhkioflaagreat", sum := "1800ae0691b9535ea6e6dce88f0382e125bdf55825ff61063380f05e5659bcfb", func := "aflaj/aflajlaw04.DeedBefore", spec := "deedBefore", inPlace := ["slices.overlaps[aflaj/deed.piece]"], unfollowed := true, recurses := true, apart := false }
def DeedBeforeSaid : Prop := deedBeforeRow.holds Tryz.pinned (OpenSpec.ofChange deedBeforeSpec)

/-- ITS FALSE NEIGHBOUR: 'it returns false'. Refute it at one input. -/
def deedBeforeWrong : ChangeSpec := { name := "deedBefore", fn := fun _ => fun
  | [d1, d2, d3, d4] => { results := [.lit (.bool false)], args := [d1, d2, d3, d4] }
  | _ => none }
def DeedBeforeWrongFalsely : Prop := deedBeforeRow.holds Tryz.pinned (OpenSpec.ofChange deedBeforeWrong)

/-- 'aflajlaw04.DeedMosque': WHATEVER THE INPUT: true; the input reads as it did. -/
def deedMosqueSpec : ChangeSpec := { name := "deedMosque", fn := fun _ => fun
  | [d1, d2, d3, d4] => { results := [.lit (.bool true)], args := [d1, d2, d3, d4] }
  | _ => none }
def deedMosqueRow : OpenClaim := { program := "ytlieoghhkioflaagreat", sum := "1800ae0691b9535ea6e6dce88f0382e125bdf55825ff61063380f05e5659bcfb", func := "aflaj/aflajlaw04.DeedMosque", spec := "deedMosque", inPlace := ["slices.overlaps[aflaj/deed.piece]"], unfollowed := true, recurses := true, apart := false }
def DeedMosqueSaid : Prop := deedMosqueRow.holds Tryz.pinned (OpenSpec.ofChange deedMosqueSpec)

/-- ITS FALSE NEIGHBOUR: 'it returns false'. Refute it at one input. -/
def deedMosqueWrong : ChangeSpec := { name := "deedMosque", fn := fun _ => fun
  | [d1, d2, d3, d4] => { results := [.lit (.bool false)], args := [d1, d2, d3, d4] }
  | _ => none }
def DeedMosqueWrongFalsely : Prop := deedMosqueRow.holds Tryz.pinned (OpenSpec.ofChange deedMosqueWrong)

/-- 'aflajlaw04.DeedWins': WHATEVER THE INPUT: true; the input reads as it did. -/
def deedWinsSpec : ChangeSpec := { name := "deedWins", fn := fun _ => fun
  | [d1, d2, d3] => { results := [.lit (.bool true)], args := [d1, d2, d3] }
  | _ => none }
def deedWinsRow : OpenClaim := { program := "ytlieoghhkioflaagreat", sum := "1800ae0691b9535ea6e6dce88f0382e125bdf55825ff61063380f05e5659bcfb", func := "aflaj/aflajlaw04.DeedWins", spec := "deedWins", inPlace := ["slices.overlaps[aflaj/deed.piece]"], unfollowed := true, recurses := true, apart := false }
def DeedWinsSaid : Prop := deedWinsRow.holds Tryz.pinned (OpenSpec.ofChange deedWinsSpec)

/-- ITS FALSE NEIGHBOUR: 'it returns false'. Refute it at one input. -/
def deedWinsWrong : ChangeSpec := { name := "deedWins", fn := fun _ => fun
  | [d1, d2, d3] => { results := [.lit (.bool false)], args := [d1, d2, d3] }
  | _ => none }
def DeedWinsWrongFalsely : Prop := deedWinsRow.holds Tryz.pinned (OpenSpec.ofChange deedWinsWrong)

/-- 'aflajlaw04.DeedPrices': WHATEVER THE INPUT: true; the input reads as it did. -/
def deedPricesSpec : ChangeSpec := { name := "deedPrices", fn := fun _ => fun
  | [d1, d2, d3] => { results := [.lit (.bool true)], args := [d1, d2, d3] }
  | _ => none }
def deedPricesRow : OpenClaim := { program := "ytlieoghhkioflaagreat", sum := "1800ae0691b9535ea6e6dce88f0382e125bdf55825ff61063380f05e5659bcfb", func := "aflaj/aflajlaw04.DeedPrices", spec := "deedPrices", inPlace := ["slices.overlaps[aflaj/deed.piece]"], unfollowed := true, recurses := true, apart := false }
def DeedPricesSaid : Prop := deedPricesRow.holds Tryz.pinned (OpenSpec.ofChange deedPricesSpec)

/-- ITS FALSE NEIGHBOUR: 'it returns false'. Refute it at one input. -/
def deedPricesWrong : ChangeSpec := { name := "deedPrices", fn := fun _ => fun
  | [d1, d2, d3] => { results := [.lit (.bool false)], args := [d1, d2, d3] }
  | _ => none }
def DeedPricesWrongFalsely : Prop := deedPricesRow.holds Tryz.pinned (OpenSpec.ofChange deedPricesWrong)

/-- 'aflajlaw04.DeedBound': WHATEVER THE INPUT: true; the input reads as it did. -/
def deedBoundSpec : ChangeSpec := { name := "deedBound", fn := fun _ => fun
  | [d1, d2, d3, d4, d5, d6] => { results := [.lit (.bool true)], args := [d1, d2, d3, d4, d5, d6] }
  | _ => none }
def deedBoundRow : OpenClaim := { program := "ytlieoghhkioflaagreat", sum := "1800ae0691b9535ea6e6dce88f0382e125bdf55825ff61063380f05e5659bcfb", func := "aflaj/aflajlaw04.DeedBound", spec := "deedBound", inPlace := ["slices.overlaps[aflaj/deed.piece]"], unfollowed := true, recurses := true, apart := false }
def DeedBoundSaid : Prop := deedBoundRow.holds Tryz.pinned (OpenSpec.ofChange deedBoundSpec)

/-- ITS FALSE NEIGHBOUR: 'it returns false'. Refute it at one input. -/
def deedBoundWrong : ChangeSpec := { name := "deedBound", fn := fun _ => fun
  | [d1, d2, d3, d4, d5, d6] => { results := [.lit (.bool false)], args := [d1, d2, d3, d4, d5, d6] }
  | _ => none }
def DeedBoundWrongFalsely : Prop := deedBoundRow.holds Tryz.pinned (OpenSpec.ofChange deedBoundWrong)

/-- 'aflajlaw04.DeedExamples': WHATEVER THE INPUT: true; the input reads as it did. -/
def deedExamplesSpec : ChangeSpec := { name := "deedExamples", fn := fun _ => fun
  | [] => { results := [.lit (.bool true)], args := [] }
  | _ => none }
def deedExamplesRow : OpenClaim := { program := "ytlieoghhkioflaagreat", sum := "1800ae0691b9535ea6e6dce88f0382e125bdf55825ff61063380f05e5659bcfb", func := "aflaj/aflajlaw04.DeedExamples", spec := "deedExamples", inPlace := ["slices.overlaps[aflaj/deed.piece]"], unfollowed := true, recurses := true, apart := false }
def DeedExamplesSaid : Prop := deedExamplesRow.holds Tryz.pinned (OpenSpec.ofChange deedExamplesSpec)

/-- ITS FALSE NEIGHBOUR: 'it returns false'. Refute it at one input. -/
def deedExamplesWrong : ChangeSpec := { name := "deedExamples", fn := fun _ => fun
  | [] => { results := [.lit (.bool false)], args := [] }
  | _ => none }
def DeedExamplesWrongFalsely : Prop := deedExamplesRow.holds Tryz.pinned (OpenSpec.ofChange deedExamplesWrong)

/-- 'aflajlaw04.DeedWhole': WHATEVER THE INPUT: true; the input reads as it did. -/
def deedWholeSpec : ChangeSpec := { name := "deedWhole", fn := fun _ => fun
  | [d1, d2, d3, d4] => { results := [.lit (.bool true)], args := [d1, d2, d3, d4] }
  | _ => none }
def deedWholeRow : OpenClaim := { program := "ytlieoghhkioflaagreat", sum := "1800ae0691b9535ea6e6dce88f0382e125bdf55825ff61063380f05e5659bcfb", func := "aflaj/aflajlaw04.DeedWhole", spec := "deedWhole", inPlace := ["slices.overlaps[aflaj/deed.piece]"], unfollowed := true, recurses := true, apart := false }
def DeedWholeSaid : Prop := deedWholeRow.holds Tryz.pinned (OpenSpec.ofChange deedWholeSpec)

/-- ITS FALSE NEIGHBOUR: 'it returns false'. Refute it at one input. -/
def deedWholeWrong : ChangeSpec := { name := "deedWhole", fn := fun _ => fun
  | [d1, d2, d3, d4] => { results := [.lit (.bool false)], args := [d1, d2, d3, d4] }
  | _ => none }
def DeedWholeWrongFalsely : Prop := deedWholeRow.holds Tryz.pinned (OpenSpec.ofChange deedWholeWrong)

/- THE SECOND FORM. 'bulk': how many values and letters a reading holds, each counted each time it is reached (what is shared counts as often as it is met; a slice's spare places count too). A statement '..UptoSaid' is the law's where the arguments, and the package variables that the reading takes, are together of bulk at most 1048576: NARROWER than '..Said'. Prove '..Said' where nothing that the law and all that it calls make is longer than what came in: it says more and counts as full. Else prove '..UptoSaid'. A law counts once. -/
mutual
def uptoBulk {H : Type} : DataW H → Nat
  | .lit (.string bytes) => bytes.length + 1
  | .lit _ => 1
  | .nil => 1
  | .ptr d => uptoBulk d + 1
  | .slice elems spare => uptoBulkAll elems + uptoBulkAll spare + 1
  | .agg parts => uptoBulkAll parts + 1
  | .iface _ d => uptoBulk d + 1
  | .map entries => uptoBulkEntries entries + 1
  | .held _ => 1
def uptoBulkAll {H : Type} : List (DataW H) → Nat
  | [] => 0
  | d :: r => uptoBulk d + uptoBulkAll r
def uptoBulkEntries {H : Type} : List (Lit × DataW H) → Nat
  | [] => 0
  | x :: r => uptoBulkEntry x + uptoBulkEntries r
def uptoBulkEntry {H : Type} : Lit × DataW H → Nat
  | (.string bytes, d) => bytes.length + uptoBulk d + 1
  | (_, d) => uptoBulk d + 1
 end
def uptoSmall : (H : Type) → List (DataW H) → Bool := fun _ ds => decide (uptoBulkAll ds ≤ 1048576)
def OpenSpec.upto (s : _root_.Go.ChangeSpec) : _root_.Go.OpenSpec := { _root_.Go.OpenSpec.ofChange s with cond := some uptoSmall }

/-- 'aflajlaw04.DeedOwners', WHERE WHAT IT READS IS OF BULK AT MOST 1048576: true; the input reads as it did. -/
def deedOwnersUptoRow : OpenClaim := { program := "ytlieoghhkioflaagreat", sum := "1800ae0691b9535ea6e6dce88f0382e125bdf55825ff61063380f05e5659bcfb", func := "aflaj/aflajlaw04.DeedOwners", spec := "deedOwners", inPlace := ["slices.overlaps[aflaj/deed.piece]"], unfollowed := true, recurses := true, apart := false, narrowed := true }
def DeedOwnersUptoSaid : Prop := deedOwnersUptoRow.holds Tryz.pinned (OpenSpec.upto deedOwnersSpec)

/-- 'aflajlaw04.DeedAnyOrder', WHERE WHAT IT READS IS OF BULK AT MOST 1048576: true; the input reads as it did. -/
def deedAnyOrderUptoRow : OpenClaim := { program := "ytlieoghhkioflaagreat", sum := "1800ae0691b9535ea6e6dce88f0382e125bdf55825ff61063380f05e5659bcfb", func := "aflaj/aflajlaw04.DeedAnyOrder", spec := "deedAnyOrder", inPlace := ["slices.overlaps[aflaj/deed.piece]"], unfollowed := true, recurses := true, apart := false, narrowed := true }
def DeedAnyOrderUptoSaid : Prop := deedAnyOrderUptoRow.holds Tryz.pinned (OpenSpec.upto deedAnyOrderSpec)

/-- 'aflajlaw04.DeedStep', WHERE WHAT IT READS IS OF BULK AT MOST 1048576: true; the input reads as it did. -/
def deedStepUptoRow : OpenClaim := { program := "ytlieoghhkioflaagreat", sum := "1800ae0691b9535ea6e6dce88f0382e125bdf55825ff61063380f05e5659bcfb", func := "aflaj/aflajlaw04.DeedStep", spec := "deedStep", inPlace := ["slices.overlaps[aflaj/deed.piece]"], unfollowed := true, recurses := true, apart := false, narrowed := true }
def DeedStepUptoSaid : Prop := deedStepUptoRow.holds Tryz.pinned (OpenSpec.upto deedStepSpec)

/-- 'aflajlaw04.DeedReasons', WHERE WHAT IT READS IS OF BULK AT MOST 1048576: true; the input reads as it did. -/
def deedReasonsUptoRow : OpenClaim := { program := "ytlieoghhkioflaagreat", sum := "1800ae0691b9535ea6e6dce88f0382e125bdf55825ff61063380f05e5659bcfb", func := "aflaj/aflajlaw04.DeedReasons", spec := "deedReasons", inPlace := ["slices.overlaps[aflaj/deed.piece]"], unfollowed := true, recurses := true, apart := false, narrowed := true }
def DeedReasonsUptoSaid : Prop := deedReasonsUptoRow.holds Tryz.pinned (OpenSpec.upto deedReasonsSpec)

/-- 'aflajlaw04.DeedBefore', WHERE WHAT IT READS IS OF BULK AT MOST 1048576: true; the input reads as it did. -/
def deedBeforeUptoRow : OpenClaim := { program := "ytlieoghhkioflaagreat", sum := "1800ae0691b9535ea6e6dce88f0382e125bdf55825ff61063380f05e5659bcfb", func := "aflaj/aflajlaw04.DeedBefore", spec := "deedBefore", inPlace := ["slices.overlaps[aflaj/deed.piece]"], unfollowed := true, recurses := true, apart := false, narrowed := true }
def DeedBeforeUptoSaid : Prop := deedBeforeUptoRow.holds Tryz.pinned (OpenSpec.upto deedBeforeSpec)

/-- 'aflajlaw04.DeedMosque', WHERE WHAT IT READS IS OF BULK AT MOST 1048576: true; the input reads as it did. -/
def deedMosqueUptoRow : OpenClaim := { program := "ytlieoghhkioflaagreat", sum := "1800ae0691b9535ea6e6dce88f0382e125bdf55825ff61063380f05e5659bcfb", func := "aflaj/aflajlaw04.DeedMosque", spec := "deedMosque", inPlace := ["slices.overlaps[aflaj/deed.piece]"], unfollowed := true, recurses := true, apart := false, narrowed := true }
def DeedMosqueUptoSaid : Prop := deedMosqueUptoRow.holds Tryz.pinned (OpenSpec.upto deedMosqueSpec)

/-- 'aflajlaw04.DeedWins', WHERE WHAT IT READS IS OF BULK AT MOST 1048576: true; the input reads as it did. -/
def deedWinsUptoRow : OpenClaim := { program := "ytlieoghhkioflaagreat", sum := "1800ae0691b9535ea6e6dce88f0382e125bdf55825ff61063380f05e5659bcfb", func := "aflaj/aflajlaw04.DeedWins", spec := "deedWins", inPlace := ["slices.overlaps[aflaj/deed.piece]"], unfollowed := true, recurses := true, apart := false, narrowed := true }
def DeedWinsUptoSaid : Prop := deedWinsUptoRow.holds Tryz.pinned (OpenSpec.upto deedWinsSpec)

/-- 'aflajlaw04.DeedPrices', WHERE WHAT IT READS IS OF BULK AT MOST 1048576: true; the input reads as it did. -/
def deedPricesUptoRow : OpenClaim := { program := "ytlieoghhkioflaagreat", sum := "1800ae0691b9535ea6e6dce88f0382e125bdf55825ff61063380f05e5659bcfb", func := "aflaj/aflajlaw04.DeedPrices", spec := "deedPrices", inPlace := ["slices.overlaps[aflaj/deed.piece]"], unfollowed := true, recurses := true, apart := false, narrowed := true }
def DeedPricesUptoSaid : Prop := deedPricesUptoRow.holds Tryz.pinned (OpenSpec.upto deedPricesSpec)

/-- 'aflajlaw04.DeedBound', WHERE WHAT IT READS IS OF BULK AT MOST 1048576: true; the input reads as it did. -/
def deedBoundUptoRow : OpenClaim := { program := "ytlieoghhkioflaagreat", sum := "1800ae0691b9535ea6e6dce88f0382e125bdf55825ff61063380f05e5659bcfb", func := "aflaj/aflajlaw04.DeedBound", spec := "deedBound", inPlace := ["slices.overlaps[aflaj/deed.piece]"], unfollowed := true, recurses := true, apart := false, narrowed := true }
def DeedBoundUptoSaid : Prop := deedBoundUptoRow.holds Tryz.pinned (OpenSpec.upto deedBoundSpec)

/-- 'aflajlaw04.DeedExamples', WHERE WHAT IT READS IS OF BULK AT MOST 1048576: true; the input reads as it did. -/
def deedExamplesUptoRow : OpenClaim := { program := "ytlieoghhkioflaagreat", sum := "1800ae0691b9535ea6e6dce88f0382e125bdf55825ff61063380f05e5659bcfb", func := "aflaj/aflajlaw04.DeedExamples", spec := "deedExamples", inPlace := ["slices.overlaps[aflaj/deed.piece]"], unfollowed := true, recurses := true, apart := false, narrowed := true }
def DeedExamplesUptoSaid : Prop := deedExamplesUptoRow.holds Tryz.pinned (OpenSpec.upto deedExamplesSpec)

/-- 'aflajlaw04.DeedWhole', WHERE WHAT IT READS IS OF BULK AT MOST 1048576: true; the input reads as it did. -/
def deedWholeUptoRow : OpenClaim := { program := "ytlieoghhkioflaagreat", sum := "1800ae0691b9535ea6e6dce88f0382e125bdf55825ff61063380f05e5659bcfb", func := "aflaj/aflajlaw04.DeedWhole", spec := "deedWhole", inPlace := ["slices.overlaps[aflaj/deed.piece]"], unfollowed := true, recurses := true, apart := false, narrowed := true }
def DeedWholeUptoSaid : Prop := deedWholeUptoRow.holds Tryz.pinned (OpenSpec.upto deedWholeSpec)

end Rows
end Go.Proofs.YtlieoghhkioflaaGreat
