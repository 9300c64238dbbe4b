/-
  No cell of these rows narrows 'for every input' (looked for: loops, veiled, ifaces, maps, wideKeys, modest, calm, conditions, laid).
  DERIVED. THE GIVEN ROWS OF THIS SEAT. 10 by the template 'for every input the law returns true; each argument reads behind the call as it read before'; 0 by the template 'total and deterministic' (their statements: YtpknbojgkkmonaaTotals.lean).
  GIVEN WITH THE SEED: the statements are not yours to turn. If you find one false, say at which input.
  Laid BY PROGRAM, IN A SANDBOX (cutbox-rows.mjs): the forced cells as the released guide's own fill.sh prints them over the translation a32330b1eb49874d… (all of the seat's roots in one cut). By AI agents, Wed Nov 11 2026. No macro, syntax, notation, axiom, sorry.
-/
import Derived.Test.YtpknbojgkkmonaaChecked
import GoSem.Claim
import GoSem.ClaimJoined
import GoSem.ClaimMapViews
import Derived.JoinedTies
import Derived.KernelRfl
namespace Go.Proofs.Ytpknbojgkkmonaa
/- THE CELL 'sum', in the pinned program and in every row, IS THE sha256 OF THE DUMP (.gsa) THAT YtpknbojgkkmonaaProg.lean LOADS. Nothing in Lean hashes anything: it is a label: what it is worth is what the hold of that sum in a sandbox is worth. -/
noncomputable def Try.pinned : Pinned := { name := "ytpknbojgkkmonaa", sum := "a32330b1eb49874dd51d85acd7c553927210787afc04639d0a4984e69a311a22", checked := Try.checked }
namespace Rows
def none {H : Type} : Left H := { results := [], args := [] }

/-- 'aflajlaw09.WeevilKnown': WHATEVER THE INPUT: true; the input reads as it did. -/
def weevilKnownSpec : ChangeSpec := { name := "weevilKnown", fn := fun _ => fun
  | [d1, d2, d3] => { results := [.lit (.bool true)], args := [d1, d2, d3] }
  | _ => none }
def weevilKnownRow : OpenClaim := { program := "ytpknbojgkkmonaa", sum := "a32330b1eb49874dd51d85acd7c553927210787afc04639d0a4984e69a311a22", func := "aflaj/aflajlaw09.WeevilKnown", spec := "weevilKnown", unfollowed := true, recurses := true, apart := false }
def WeevilKnownSaid : Prop := weevilKnownRow.holds Try.pinned (OpenSpec.ofChange weevilKnownSpec)

/-- ITS FALSE NEIGHBOUR: 'it returns false'. Refute it at one input. -/
def weevilKnownWrong : ChangeSpec := { name := "weevilKnown", fn := fun _ => fun
  | [d1, d2, d3] => { results := [.lit (.bool false)], args := [d1, d2, d3] }
  | _ => none }
def WeevilKnownWrongFalsely : Prop := weevilKnownRow.holds Try.pinned (OpenSpec.ofChange weevilKnownWrong)

/-- 'aflajlaw09.WeevilDays': WHATEVER THE INPUT: true; the input reads as it did. -/
def weevilDaysSpec : ChangeSpec := { name := "weevilDays", fn := fun _ => fun
  | [d1, d2, d3] => { results := [.lit (.bool true)], args := [d1, d2, d3] }
  | _ => none }
def weevilDaysRow : OpenClaim := { program := "ytpknbojgkkmonaa", sum := "a32330b1eb49874dd51d85acd7c553927210787afc04639d0a4984e69a311a22", func := "aflaj/aflajlaw09.WeevilDays", spec := "weevilDays", unfollowed := true, recurses := true, apart := false }
def WeevilDaysSaid : Prop := weevilDaysRow.holds Try.pinned (OpenSpec.ofChange weevilDaysSpec)

/-- ITS FALSE NEIGHBOUR: 'it returns false'. Refute it at one input. -/
def weevilDaysWrong : ChangeSpec := { name := "weevilDays", fn := fun _ => fun
  | [d1, d2, d3] => { results := [.lit (.bool false)], args := [d1, d2, d3] }
  | _ => none }
def WeevilDaysWrongFalsely : Prop := weevilDaysRow.holds Try.pinned (OpenSpec.ofChange weevilDaysWrong)

/-- 'aflajlaw09.WeevilTrue': WHATEVER THE INPUT: true; the input reads as it did. -/
def weevilTrueSpec : ChangeSpec := { name := "weevilTrue", fn := fun _ => fun
  | [d1, d2, d3, d4] => { results := [.lit (.bool true)], args := [d1, d2, d3, d4] }
  | _ => none }
def weevilTrueRow : OpenClaim := { program := "ytpknbojgkkmonaa", sum := "a32330b1eb49874dd51d85acd7c553927210787afc04639d0a4984e69a311a22", func := "aflaj/aflajlaw09.WeevilTrue", spec := "weevilTrue", unfollowed := true, recurses := true, apart := false }
def WeevilTrueSaid : Prop := weevilTrueRow.holds Try.pinned (OpenSpec.ofChange weevilTrueSpec)

/-- ITS FALSE NEIGHBOUR: 'it returns false'. Refute it at one input. -/
def weevilTrueWrong : ChangeSpec := { name := "weevilTrue", fn := fun _ => fun
  | [d1, d2, d3, d4] => { results := [.lit (.bool false)], args := [d1, d2, d3, d4] }
  | _ => none }
def WeevilTrueWrongFalsely : Prop := weevilTrueRow.holds Try.pinned (OpenSpec.ofChange weevilTrueWrong)

/-- 'aflajlaw09.WeevilReached': WHATEVER THE INPUT: true; the input reads as it did. -/
def weevilReachedSpec : ChangeSpec := { name := "weevilReached", fn := fun _ => fun
  | [d1, d2, d3] => { results := [.lit (.bool true)], args := [d1, d2, d3] }
  | _ => none }
def weevilReachedRow : OpenClaim := { program := "ytpknbojgkkmonaa", sum := "a32330b1eb49874dd51d85acd7c553927210787afc04639d0a4984e69a311a22", func := "aflaj/aflajlaw09.WeevilReached", spec := "weevilReached", unfollowed := true, recurses := true, apart := false }
def WeevilReachedSaid : Prop := weevilReachedRow.holds Try.pinned (OpenSpec.ofChange weevilReachedSpec)

/-- ITS FALSE NEIGHBOUR: 'it returns false'. Refute it at one input. -/
def weevilReachedWrong : ChangeSpec := { name := "weevilReached", fn := fun _ => fun
  | [d1, d2, d3] => { results := [.lit (.bool false)], args := [d1, d2, d3] }
  | _ => none }
def WeevilReachedWrongFalsely : Prop := weevilReachedRow.holds Try.pinned (OpenSpec.ofChange weevilReachedWrong)

/-- 'aflajlaw09.WeevilSure': WHATEVER THE INPUT: true; the input reads as it did. -/
def weevilSureSpec : ChangeSpec := { name := "weevilSure", fn := fun _ => fun
  | [d1, d2, d3, d4] => { results := [.lit (.bool true)], args := [d1, d2, d3, d4] }
  | _ => none }
def weevilSureRow : OpenClaim := { program := "ytpknbojgkkmonaa", sum := "a32330b1eb49874dd51d85acd7c553927210787afc04639d0a4984e69a311a22", func := "aflaj/aflajlaw09.WeevilSure", spec := "weevilSure", unfollowed := true, recurses := true, apart := false }
def WeevilSureSaid : Prop := weevilSureRow.holds Try.pinned (OpenSpec.ofChange weevilSureSpec)

/-- ITS FALSE NEIGHBOUR: 'it returns false'. Refute it at one input. -/
def weevilSureWrong : ChangeSpec := { name := "weevilSure", fn := fun _ => fun
  | [d1, d2, d3, d4] => { results := [.lit (.bool false)], args := [d1, d2, d3, d4] }
  | _ => none }
def WeevilSureWrongFalsely : Prop := weevilSureRow.holds Try.pinned (OpenSpec.ofChange weevilSureWrong)

/-- 'aflajlaw09.WeevilClash': WHATEVER THE INPUT: true; the input reads as it did. -/
def weevilClashSpec : ChangeSpec := { name := "weevilClash", fn := fun _ => fun
  | [d1, d2, d3] => { results := [.lit (.bool true)], args := [d1, d2, d3] }
  | _ => none }
def weevilClashRow : OpenClaim := { program := "ytpknbojgkkmonaa", sum := "a32330b1eb49874dd51d85acd7c553927210787afc04639d0a4984e69a311a22", func := "aflaj/aflajlaw09.WeevilClash", spec := "weevilClash", unfollowed := true, recurses := true, apart := false }
def WeevilClashSaid : Prop := weevilClashRow.holds Try.pinned (OpenSpec.ofChange weevilClashSpec)

/-- ITS FALSE NEIGHBOUR: 'it returns false'. Refute it at one input. -/
def weevilClashWrong : ChangeSpec := { name := "weevilClash", fn := fun _ => fun
  | [d1, d2, d3] => { results := [.lit (.bool false)], args := [d1, d2, d3] }
  | _ => none }
def WeevilClashWrongFalsely : Prop := weevilClashRow.holds Try.pinned (OpenSpec.ofChange weevilClashWrong)

/-- 'aflajlaw09.WeevilChain': WHATEVER THE INPUT: true; the input reads as it did. -/
def weevilChainSpec : ChangeSpec := { name := "weevilChain", fn := fun _ => fun
  | [d1, d2, d3] => { results := [.lit (.bool true)], args := [d1, d2, d3] }
  | _ => none }
def weevilChainRow : OpenClaim := { program := "ytpknbojgkkmonaa", sum := "a32330b1eb49874dd51d85acd7c553927210787afc04639d0a4984e69a311a22", func := "aflaj/aflajlaw09.WeevilChain", spec := "weevilChain", unfollowed := true, recurses := true, apart := false }
def WeevilChainSaid : Prop := weevilChainRow.holds Try.pinned (OpenSpec.ofChange weevilChainSpec)

/-- ITS FALSE NEIGHBOUR: 'it returns false'. Refute it at one input. -/
def weevilChainWrong : ChangeSpec := { name := "weevilChain", fn := fun _ => fun
  | [d1, d2, d3] => { results := [.lit (.bool false)], args := [d1, d2, d3] }
  | _ => none }
def WeevilChainWrongFalsely : Prop := weevilChainRow.holds Try.pinned (OpenSpec.ofChange weevilChainWrong)

/-- 'aflajlaw09.WeevilGifts': WHATEVER THE INPUT: true; the input reads as it did. -/
def weevilGiftsSpec : ChangeSpec := { name := "weevilGifts", fn := fun _ => fun
  | [d1, d2, d3, d4, d5] => { results := [.lit (.bool true)], args := [d1, d2, d3, d4, d5] }
  | _ => none }
def weevilGiftsRow : OpenClaim := { program := "ytpknbojgkkmonaa", sum := "a32330b1eb49874dd51d85acd7c553927210787afc04639d0a4984e69a311a22", func := "aflaj/aflajlaw09.WeevilGifts", spec := "weevilGifts", unfollowed := true, recurses := true, apart := false }
def WeevilGiftsSaid : Prop := weevilGiftsRow.holds Try.pinned (OpenSpec.ofChange weevilGiftsSpec)

/-- ITS FALSE NEIGHBOUR: 'it returns false'. Refute it at one input. -/
def weevilGiftsWrong : ChangeSpec := { name := "weevilGifts", fn := fun _ => fun
  | [d1, d2, d3, d4, d5] => { results := [.lit (.bool false)], args := [d1, d2, d3, d4, d5] }
  | _ => none }
def WeevilGiftsWrongFalsely : Prop := weevilGiftsRow.holds Try.pinned (OpenSpec.ofChange weevilGiftsWrong)

/-- 'aflajlaw09.WeevilWorse': WHATEVER THE INPUT: true; the input reads as it did. -/
def weevilWorseSpec : ChangeSpec := { name := "weevilWorse", fn := fun _ => fun
  | [d1, d2, d3, d4, d5] => { results := [.lit (.bool true)], args := [d1, d2, d3, d4, d5] }
  | _ => none }
def weevilWorseRow : OpenClaim := { program := "ytpknbojgkkmonaa", sum := "a32330b1eb49874dd51d85acd7c553927210787afc04639d0a4984e69a311a22", func := "aflaj/aflajlaw09.WeevilWorse", spec := "weevilWorse", unfollowed := true, recurses := true, apart := false }
def WeevilWorseSaid : Prop := weevilWorseRow.holds Try.pinned (OpenSpec.ofChange weevilWorseSpec)

/-- ITS FALSE NEIGHBOUR: 'it returns false'. Refute it at one input. -/
def weevilWorseWrong : ChangeSpec := { name := "weevilWorse", fn := fun _ => fun
  | [d1, d2, d3, d4, d5] => { results := [.lit (.bool false)], args := [d1, d2, d3, d4, d5] }
  | _ => none }
def WeevilWorseWrongFalsely : Prop := weevilWorseRow.holds Try.pinned (OpenSpec.ofChange weevilWorseWrong)

/-- 'aflajlaw09.WeevilExamples': WHATEVER THE INPUT: true; the input reads as it did. -/
def weevilExamplesSpec : ChangeSpec := { name := "weevilExamples", fn := fun _ => fun
  | [] => { results := [.lit (.bool true)], args := [] }
  | _ => none }
def weevilExamplesRow : OpenClaim := { program := "ytpknbojgkkmonaa", sum := "a32330b1eb49874dd51d85acd7c553927210787afc04639d0a4984e69a311a22", func := "aflaj/aflajlaw09.WeevilExamples", spec := "weevilExamples", unfollowed := true, recurses := true, apart := false }
def WeevilExamplesSaid : Prop := weevilExamplesRow.holds Try.pinned (OpenSpec.ofChange weevilExamplesSpec)

/-- ITS FALSE NEIGHBOUR: 'it returns false'. Refute it at one input. -/
def weevilExamplesWrong : ChangeSpec := { name := "weevilExamples", fn := fun _ => fun
  | [] => { results := [.lit (.bool false)], args := [] }
  | _ => none }
def WeevilExamplesWrongFalsely : Prop := weevilExamplesRow.holds Try.pinned (OpenSpec.ofChange weevilExamplesWrong)

/- THE SECOND FORM. 'bulk': how many values and letters a reading holds, each counted each time it is reached (what is shared counts as often as it is met; a slice's spare places count too). A statement '..UptoSaid' is the law's where the arguments, and the package variables that the reading takes, are together of bulk at most 1048576: NARROWER than '..Said'. Prove '..Said' where nothing that the law and all that it calls make is longer than what came in: it says more and counts as full. Else prove '..UptoSaid'. A law counts once. -/
mutual
def uptoBulk {H : Type} : DataW H → Nat
  | .lit (.string bytes) => bytes.length + 1
  | .lit _ => 1
  | .nil => 1
  | .ptr d => uptoBulk d + 1
  | .slice elems spare => uptoBulkAll elems + uptoBulkAll spare + 1
  | .agg parts => uptoBulkAll parts + 1
  | .iface _ d => uptoBulk d + 1
  | .map entries => uptoBulkEntries entries + 1
  | .held _ => 1
def uptoBulkAll {H : Type} : List (DataW H) → Nat
  | [] => 0
  | d :: r => uptoBulk d + uptoBulkAll r
def uptoBulkEntries {H : Type} : List (Lit × DataW H) → Nat
  | [] => 0
  | x :: r => uptoBulkEntry x + uptoBulkEntries r
def uptoBulkEntry {H : Type} : Lit × DataW H → Nat
  | (.string bytes, d) => bytes.length + uptoBulk d + 1
  | (_, d) => uptoBulk d + 1
 end
def uptoSmall : (H : Type) → List (DataW H) → Bool := fun _ ds => decide (uptoBulkAll ds ≤ 1048576)
def OpenSpec.upto (s : _root_.Go.ChangeSpec) : _root_.Go.OpenSpec := { _root_.Go.OpenSpec.ofChange s with cond := some uptoSmall }

/-- 'aflajlaw09.WeevilKnown', WHERE WHAT IT READS IS OF BULK AT MOST 1048576: true; the input reads as it did. -/
def weevilKnownUptoRow : OpenClaim := { program := "ytpknbojgkkmonaa", sum := "a32330b1eb49874dd51d85acd7c553927210787afc04639d0a4984e69a311a22", func := "aflaj/aflajlaw09.WeevilKnown", spec := "weevilKnown", unfollowed := true, recurses := true, apart := false, narrowed := true }
def WeevilKnownUptoSaid : Prop := weevilKnownUptoRow.holds Try.pinned (OpenSpec.upto weevilKnownSpec)

/-- 'aflajlaw09.WeevilDays', WHERE WHAT IT READS IS OF BULK AT MOST 1048576: true; the input reads as it did. -/
def weevilDaysUptoRow : OpenClaim := { program := "ytpknbojgkkmonaa", sum := "a32330b1eb49874dd51d85acd7c553927210787afc04639d0a4984e69a311a22", func := "aflaj/aflajlaw09.WeevilDays", spec := "weevilDays", unfollowed := true, recurses := true, apart := false, narrowed := true }
def WeevilDaysUptoSaid : Prop := weevilDaysUptoRow.holds Try.pinned (OpenSpec.upto weevilDaysSpec)

/-- 'aflajlaw09.WeevilTrue', WHERE WHAT IT READS IS OF BULK AT MOST 1048576: true; the input reads as it did. -/
def weevilTrueUptoRow : OpenClaim := { program := "ytpknbojgkkmonaa", sum := "a32330b1eb49874dd51d85acd7c553927210787afc04639d0a4984e69a311a22", func := "aflaj/aflajlaw09.WeevilTrue", spec := "weevilTrue", unfollowed := true, recurses := true, apart := false, narrowed := true }
def WeevilTrueUptoSaid : Prop := weevilTrueUptoRow.holds Try.pinned (OpenSpec.upto weevilTrueSpec)

/-- 'aflajlaw09.WeevilReached', WHERE WHAT IT READS IS OF BULK AT MOST 1048576: true; the input reads as it did. -/
def weevilReachedUptoRow : OpenClaim := { program := "ytpknbojgkkmonaa", sum := "a32330b1eb49874dd51d85acd7c553927210787afc04639d0a4984e69a311a22", func := "aflaj/aflajlaw09.WeevilReached", spec := "weevilReached", unfollowed := true, recurses := true, apart := false, narrowed := true }
def WeevilReachedUptoSaid : Prop := weevilReachedUptoRow.holds Try.pinned (OpenSpec.upto weevilReachedSpec)

/-- 'aflajlaw09.WeevilSure', WHERE WHAT IT READS IS OF BULK AT MOST 1048576: true; the input reads as it did. -/
def weevilSureUptoRow : OpenClaim := { program := "ytpknbojgkkmonaa", sum := "a32330b1eb49874dd51d85acd7c553927210787afc04639d0a4984e69a311a22", func := "aflaj/aflajlaw09.WeevilSure", spec := "weevilSure", unfollowed := true, recurses := true, apart := false, narrowed := true }
def WeevilSureUptoSaid : Prop := weevilSureUptoRow.holds Try.pinned (OpenSpec.upto weevilSureSpec)

/-- 'aflajlaw09.WeevilClash', WHERE WHAT IT READS IS OF BULK AT MOST 1048576: true; the input reads as it did. -/
def weevilClashUptoRow : OpenClaim := { program := "ytpknbojgkkmonaa", sum := "a32330b1eb49874dd51d85acd7c553927210787afc04639d0a4984e69a311a22", func := "aflaj/aflajlaw09.WeevilClash", spec := "weevilClash", unfollowed := true, recurses := true, apart := false, narrowed := true }
def WeevilClashUptoSaid : Prop := weevilClashUptoRow.holds Try.pinned (OpenSpec.upto weevilClashSpec)

/-- 'aflajlaw09.WeevilChain', WHERE WHAT IT READS IS OF BULK AT MOST 1048576: true; the input reads as it did. -/
def weevilChainUptoRow : OpenClaim := { program := "ytpknbojgkkmonaa", sum := "a32330b1eb49874dd51d85acd7c553927210787afc04639d0a4984e69a311a22", func := "aflaj/aflajlaw09.WeevilChain", spec := "weevilChain", unfollowed := true, recurses := true, apart := false, narrowed := true }
def WeevilChainUptoSaid : Prop := weevilChainUptoRow.holds Try.pinned (OpenSpec.upto weevilChainSpec)

/-- 'aflajlaw09.WeevilGifts', WHERE WHAT IT READS IS OF BULK AT MOST 1048576: true; the input reads as it did. -/
def weevilGiftsUptoRow : OpenClaim := { program := "ytpknbojgkkmonaa", sum := "a32330b1eb49874dd51d85acd7c553927210787afc04639d0a4984e69a311a22", func := "aflaj/aflajlaw09.WeevilGifts", spec := "weevilGifts", unfollowed := true, recurses := true, apart := false, narrowed := true }
def WeevilGiftsUptoSaid : Prop := weevilGiftsUptoRow.holds Try.pinned (OpenSpec.upto weevilGiftsSpec)

/-- 'aflajlaw09.WeevilWorse', WHERE WHAT IT READS IS OF BULK AT MOST 1048576: true; the input reads as it did. -/
def weevilWorseUptoRow : OpenClaim := { program := "ytpknbojgkkmonaa", sum := "a32330b1eb49874dd51d85acd7c553927210787afc04639d0a4984e69a311a22", func := "aflaj/aflajlaw09.WeevilWorse", spec := "weevilWorse", unfollowed := true, recurses := true, apart := false, narrowed := true }
def WeevilWorseUptoSaid : Prop := weevilWorseUptoRow.holds Try.pinned (OpenSpec.upto weevilWorseSpec)

/-- 'aflajlaw09.WeevilExamples', WHERE WHAT IT READS IS OF BULK AT MOST 1048576: true; the input reads as it did. -/
def weevilExamplesUptoRow : OpenClaim := { program := "ytpknbojgkkmonaa", sum := "a32330b1eb49874dd51d85acd7c553927210787afc04639d0a4984e69a311a22", func := "aflaj/aflajlaw09.WeevilExamples", spec := "weevilExamples", unfollowed := true, recurses := true, apart := false, narrowed := true }
def WeevilExamplesUptoSaid : Prop := weevilExamplesUptoRow.holds Try.pinned (OpenSpec.upto weevilExamplesSpec)

end Rows
end Go.Proofs.Ytpknbojgkkmonaa
