/-
  DERIVED. GIVEN WITH THE SEED: THE CARDS: each row of YtbhhcnonooiokaaDoorRows.lean that lists a variable, with what it lists TIED to the program's text (the seventh form; the later family's looks); each row that meets fmt, with fmt's text TOLD by the authors' own Lean function (tested against real Go, not proved from fmt's source: count such statements apart). THE CARD IS WHAT COUNTS. Prove the row's statement (the work); the ties are given (YtbhhcnonooiokaaDoorTie.lean); close each card by the builder's one call (the guide's Derived/Test/ToyasCard.lean, 'card_holds'). Laid BY PROGRAM, IN A SANDBOX (cutbox-door.mjs). By AI agents, Wed Nov 11 2026. No macro, syntax, notation, axiom, sorry.
-/
import Derived.Test.YtbhhcnonooiokaaDoorRows
import GoSem.ClaimSeven
namespace Go.Proofs.YtbhhcnonooiokaaDoor
namespace Rows

/-- THE TIED CARD OF 'aflajlaw03.HourTells'. -/
def hourTellsCard : Claim7 := { stood := { row := hourTellsRow, standIns := [], harness := (true, "7f6b88c1955294bc906f41c6861aec76f87bb42deb888d8af1b28b44736be32f"), looks := false }, kinds := [], alts := [], laidByText := true, laidKinds := [.data], laidTests := true, laidLooks := .later }
def HourTellsCardSaid : Prop := Claim7.holds Tryd.pinned (.plain (OpenSpec.ofChange hourTellsSpec)) hourTellsCard

/-- THE TIED CARD OF 'aflajlaw03.HourClashes'. -/
def hourClashesCard : Claim7 := { stood := { row := hourClashesRow, standIns := [], harness := (true, "7f6b88c1955294bc906f41c6861aec76f87bb42deb888d8af1b28b44736be32f"), looks := false }, kinds := [], alts := [], laidByText := true, laidKinds := [.data], laidTests := true, laidLooks := .later }
def HourClashesCardSaid : Prop := Claim7.holds Tryd.pinned (.plain (OpenSpec.ofChange hourClashesSpec)) hourClashesCard

/-- THE TIED CARD OF 'aflajlaw03.HourNights'. -/
def hourNightsCard : Claim7 := { stood := { row := hourNightsRow, standIns := [], harness := (true, "7f6b88c1955294bc906f41c6861aec76f87bb42deb888d8af1b28b44736be32f"), looks := false }, kinds := [], alts := [], laidByText := true, laidKinds := [.data], laidTests := true, laidLooks := .later }
def HourNightsCardSaid : Prop := Claim7.holds Tryd.pinned (.plain (OpenSpec.ofChange hourNightsSpec)) hourNightsCard

/-- THE TIED CARD OF 'aflajlaw03.HourExamples'. -/
def hourExamplesCard : Claim7 := { stood := { row := hourExamplesRow, standIns := [], harness := (true, "7f6b88c1955294bc906f41c6861aec76f87bb42deb888d8af1b28b44736be32f"), looks := false }, kinds := [], alts := [], laidByText := true, laidKinds := [.data], laidTests := true, laidLooks := .later }
def HourExamplesCardSaid : Prop := Claim7.holds Tryd.pinned (.plain (OpenSpec.ofChange hourExamplesSpec)) hourExamplesCard

/-- THE TIED CARD OF 'aflajlaw03.HourTrue'. -/
def hourTrueCard : Claim7 := { stood := { row := hourTrueRow, standIns := [], harness := (true, "7f6b88c1955294bc906f41c6861aec76f87bb42deb888d8af1b28b44736be32f"), looks := false }, kinds := [], alts := [], laidByText := true, laidKinds := [.data], laidTests := true, laidLooks := .later }
def HourTrueCardSaid : Prop := Claim7.holds Tryd.pinned (.plain (OpenSpec.ofChange hourTrueSpec)) hourTrueCard

/-- THE TIED CARD OF 'aflajlaw03.HourNight'. -/
def hourNightCard : Claim7 := { stood := { row := hourNightRow, standIns := [], harness := (true, "7f6b88c1955294bc906f41c6861aec76f87bb42deb888d8af1b28b44736be32f"), looks := false }, kinds := [], alts := [], laidByText := true, laidKinds := [.data], laidTests := true, laidLooks := .later }
def HourNightCardSaid : Prop := Claim7.holds Tryd.pinned (.plain (OpenSpec.ofChange hourNightSpec)) hourNightCard

/-- THE TIED CARD OF 'aflajlaw03.HourNarrow'. -/
def hourNarrowCard : Claim7 := { stood := { row := hourNarrowRow, standIns := [], harness := (true, "7f6b88c1955294bc906f41c6861aec76f87bb42deb888d8af1b28b44736be32f"), looks := false }, kinds := [], alts := [], laidByText := true, laidKinds := [.data], laidTests := true, laidLooks := .later }
def HourNarrowCardSaid : Prop := Claim7.holds Tryd.pinned (.plain (OpenSpec.ofChange hourNarrowSpec)) hourNarrowCard

/-- THE TIED CARD OF 'aflajlaw03.HourMore'. -/
def hourMoreCard : Claim7 := { stood := { row := hourMoreRow, standIns := [], harness := (true, "7f6b88c1955294bc906f41c6861aec76f87bb42deb888d8af1b28b44736be32f"), looks := false }, kinds := [], alts := [], laidByText := true, laidKinds := [.data], laidTests := true, laidLooks := .later }
def HourMoreCardSaid : Prop := Claim7.holds Tryd.pinned (.plain (OpenSpec.ofChange hourMoreSpec)) hourMoreCard

/-- THE TIED CARD OF 'aflajlaw03.HourReached'. -/
def hourReachedCard : Claim7 := { stood := { row := hourReachedRow, standIns := [], harness := (true, "7f6b88c1955294bc906f41c6861aec76f87bb42deb888d8af1b28b44736be32f"), looks := false }, kinds := [], alts := [], laidByText := true, laidKinds := [.data], laidTests := true, laidLooks := .later }
def HourReachedCardSaid : Prop := Claim7.holds Tryd.pinned (.plain (OpenSpec.ofChange hourReachedSpec)) hourReachedCard

/-- THE TIED CARD OF 'aflajlaw03.HourPair'. -/
def hourPairCard : Claim7 := { stood := { row := hourPairRow, standIns := [], harness := (true, "7f6b88c1955294bc906f41c6861aec76f87bb42deb888d8af1b28b44736be32f"), looks := false }, kinds := [], alts := [], laidByText := true, laidKinds := [.data], laidTests := true, laidLooks := .later }
def HourPairCardSaid : Prop := Claim7.holds Tryd.pinned (.plain (OpenSpec.ofChange hourPairSpec)) hourPairCard

/-- THE TIED CARD OF 'aflajlaw03.HourBefore'. -/
def hourBeforeCard : Claim7 := { stood := { row := hourBeforeRow, standIns := [], harness := (true, "7f6b88c1955294bc906f41c6861aec76f87bb42deb888d8af1b28b44736be32f"), looks := false }, kinds := [], alts := [], laidByText := true, laidKinds := [.data], laidTests := true, laidLooks := .later }
def HourBeforeCardSaid : Prop := Claim7.holds Tryd.pinned (.plain (OpenSpec.ofChange hourBeforeSpec)) hourBeforeCard

/-- THE TIED CARD OF 'aflajlaw03.HourOn'. -/
def hourOnCard : Claim7 := { stood := { row := hourOnRow, standIns := [], harness := (true, "7f6b88c1955294bc906f41c6861aec76f87bb42deb888d8af1b28b44736be32f"), looks := false }, kinds := [], alts := [], laidByText := true, laidKinds := [.data], laidTests := true, laidLooks := .later }
def HourOnCardSaid : Prop := Claim7.holds Tryd.pinned (.plain (OpenSpec.ofChange hourOnSpec)) hourOnCard

/-- THE SECOND FORM's CARD OF 'aflajlaw03.HourTells'. -/
def hourTellsUptoCard : Claim7 := { stood := { row := hourTellsUptoRow, standIns := [], harness := (true, "7f6b88c1955294bc906f41c6861aec76f87bb42deb888d8af1b28b44736be32f"), looks := false }, kinds := [], alts := [], laidByText := true, laidKinds := [.data], laidTests := true, laidLooks := .later }
def HourTellsUptoCardSaid : Prop := Claim7.holds Tryd.pinned (.plain (OpenSpec.upto hourTellsSpec)) hourTellsUptoCard

/-- THE SECOND FORM's CARD OF 'aflajlaw03.HourClashes'. -/
def hourClashesUptoCard : Claim7 := { stood := { row := hourClashesUptoRow, standIns := [], harness := (true, "7f6b88c1955294bc906f41c6861aec76f87bb42deb888d8af1b28b44736be32f"), looks := false }, kinds := [], alts := [], laidByText := true, laidKinds := [.data], laidTests := true, laidLooks := .later }
def HourClashesUptoCardSaid : Prop := Claim7.holds Tryd.pinned (.plain (OpenSpec.upto hourClashesSpec)) hourClashesUptoCard

/-- THE SECOND FORM's CARD OF 'aflajlaw03.HourNights'. -/
def hourNightsUptoCard : Claim7 := { stood := { row := hourNightsUptoRow, standIns := [], harness := (true, "7f6b88c1955294bc906f41c6861aec76f87bb42deb888d8af1b28b44736be32f"), looks := false }, kinds := [], alts := [], laidByText := true, laidKinds := [.data], laidTests := true, laidLooks := .later }
def HourNightsUptoCardSaid : Prop := Claim7.holds Tryd.pinned (.plain (OpenSpec.upto hourNightsSpec)) hourNightsUptoCard

/-- THE SECOND FORM's CARD OF 'aflajlaw03.HourExamples'. -/
def hourExamplesUptoCard : Claim7 := { stood := { row := hourExamplesUptoRow, standIns := [], harness := (true, "7f6b88c1955294bc906f41c6861aec76f87bb42deb888d8af1b28b44736be32f"), looks := false }, kinds := [], alts := [], laidByText := true, laidKinds := [.data], laidTests := true, laidLooks := .later }
def HourExamplesUptoCardSaid : Prop := Claim7.holds Tryd.pinned (.plain (OpenSpec.upto hourExamplesSpec)) hourExamplesUptoCard

/-- THE SECOND FORM's CARD OF 'aflajlaw03.HourTrue'. -/
def hourTrueUptoCard : Claim7 := { stood := { row := hourTrueUptoRow, standIns := [], harness := (true, "7f6b88c1955294bc906f41c6861aec76f87bb42deb888d8af1b28b44736be32f"), looks := false }, kinds := [], alts := [], laidByText := true, laidKinds := [.data], laidTests := true, laidLooks := .later }
def HourTrueUptoCardSaid : Prop := Claim7.holds Tryd.pinned (.plain (OpenSpec.upto hourTrueSpec)) hourTrueUptoCard

/-- THE SECOND FORM's CARD OF 'aflajlaw03.HourNight'. -/
def hourNightUptoCard : Claim7 := { stood := { row := hourNightUptoRow, standIns := [], harness := (true, "7f6b88c1955294bc906f41c6861aec76f87bb42deb888d8af1b28b44736be32f"), looks := false }, kinds := [], alts := [], laidByText := true, laidKinds := [.data], laidTests := true, laidLooks := .later }
def HourNightUptoCardSaid : Prop := Claim7.holds Tryd.pinned (.plain (OpenSpec.upto hourNightSpec)) hourNightUptoCard

/-- THE SECOND FORM's CARD OF 'aflajlaw03.HourNarrow'. -/
def hourNarrowUptoCard : Claim7 := { stood := { row := hourNarrowUptoRow, standIns := [], harness := (true, "7f6b88c1955294bc906f41c6861aec76f87bb42deb888d8af1b28b44736be32f"), looks := false }, kinds := [], alts := [], laidByText := true, laidKinds := [.data], laidTests := true, laidLooks := .later }
def HourNarrowUptoCardSaid : Prop := Claim7.holds Tryd.pinned (.plain (OpenSpec.upto hourNarrowSpec)) hourNarrowUptoCard

/-- THE SECOND FORM's CARD OF 'aflajlaw03.HourMore'. -/
def hourMoreUptoCard : Claim7 := { stood := { row := hourMoreUptoRow, standIns := [], harness := (true, "7f6b88c1955294bc906f41c6861aec76f87bb42deb888d8af1b28b44736be32f"), looks := false }, kinds := [], alts := [], laidByText := true, laidKinds := [.data], laidTests := true, laidLooks := .later }
def HourMoreUptoCardSaid : Prop := Claim7.holds Tryd.pinned (.plain (OpenSpec.upto hourMoreSpec)) hourMoreUptoCard

/-- THE SECOND FORM's CARD OF 'aflajlaw03.HourReached'. -/
def hourReachedUptoCard : Claim7 := { stood := { row := hourReachedUptoRow, standIns := [], harness := (true, "7f6b88c1955294bc906f41c6861aec76f87bb42deb888d8af1b28b44736be32f"), looks := false }, kinds := [], alts := [], laidByText := true, laidKinds := [.data], laidTests := true, laidLooks := .later }
def HourReachedUptoCardSaid : Prop := Claim7.holds Tryd.pinned (.plain (OpenSpec.upto hourReachedSpec)) hourReachedUptoCard

/-- THE SECOND FORM's CARD OF 'aflajlaw03.HourPair'. -/
def hourPairUptoCard : Claim7 := { stood := { row := hourPairUptoRow, standIns := [], harness := (true, "7f6b88c1955294bc906f41c6861aec76f87bb42deb888d8af1b28b44736be32f"), looks := false }, kinds := [], alts := [], laidByText := true, laidKinds := [.data], laidTests := true, laidLooks := .later }
def HourPairUptoCardSaid : Prop := Claim7.holds Tryd.pinned (.plain (OpenSpec.upto hourPairSpec)) hourPairUptoCard

/-- THE SECOND FORM's CARD OF 'aflajlaw03.HourBefore'. -/
def hourBeforeUptoCard : Claim7 := { stood := { row := hourBeforeUptoRow, standIns := [], harness := (true, "7f6b88c1955294bc906f41c6861aec76f87bb42deb888d8af1b28b44736be32f"), looks := false }, kinds := [], alts := [], laidByText := true, laidKinds := [.data], laidTests := true, laidLooks := .later }
def HourBeforeUptoCardSaid : Prop := Claim7.holds Tryd.pinned (.plain (OpenSpec.upto hourBeforeSpec)) hourBeforeUptoCard

/-- THE SECOND FORM's CARD OF 'aflajlaw03.HourOn'. -/
def hourOnUptoCard : Claim7 := { stood := { row := hourOnUptoRow, standIns := [], harness := (true, "7f6b88c1955294bc906f41c6861aec76f87bb42deb888d8af1b28b44736be32f"), looks := false }, kinds := [], alts := [], laidByText := true, laidKinds := [.data], laidTests := true, laidLooks := .later }
def HourOnUptoCardSaid : Prop := Claim7.holds Tryd.pinned (.plain (OpenSpec.upto hourOnSpec)) hourOnUptoCard
end Rows
end Go.Proofs.YtbhhcnonooiokaaDoor
