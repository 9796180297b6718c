/-
  DERIVED. GIVEN WITH THE SEED: THE CARDS: each row of YteilhjdpbjgdpaaDoorRows.lean that lists a variable, with what it lists TIED to the program's text (the seventh form; the later family's looks); each row that meets fmt, with fmt's text TOLD by the authors' own Lean function (tested against real Go, not proved from fmt's source: count such statements apart). THE CARD IS WHAT COUNTS. Prove the row's statement (the work); the ties are given (YteilhjdpbjgdpaaDoorTie.lean); close each card by the builder's one call (the guide's Derived/Test/ToyasCard.lean, 'card_holds'). Laid BY PROGRAM, IN A SANDBOX (cutbox-door.mjs). By AI agents, Wed Nov 11 2026. No macro, syntax, notation, axiom, sorry.
-/
import Derived.Test.YteilhjdpbjgdpaaDoorRows
import GoSem.ClaimSeven
namespace Go.Proofs.YteilhjdpbjgdpaaDoor
namespace Rows

/-- THE TIED CARD OF 'interchangelaw2.WireHeadingsMatchSpec'. -/
def wireHeadingsMatchSpecCard : Claim7 := { stood := { row := wireHeadingsMatchSpecRow, standIns := [], harness := (true, "80bb79bb2987062961d736e1ee31a857c5e1c97096a39fbe8c05bcd694ad5402"), looks := false }, kinds := [], alts := [], laidByText := true, laidKinds := [.data, .pinned], laidTests := true, laidLooks := .later }
def WireHeadingsMatchSpecCardSaid : Prop := Claim7.holds Tryd.pinned (.plain (OpenSpec.ofChange wireHeadingsMatchSpecSpec)) wireHeadingsMatchSpecCard

/-- THE TIED CARD OF 'interchangelaw2.WireChecksMatchSpec'. -/
def wireChecksMatchSpecCard : Claim7 := { stood := { row := wireChecksMatchSpecRow, standIns := [], harness := (true, "80bb79bb2987062961d736e1ee31a857c5e1c97096a39fbe8c05bcd694ad5402"), looks := false }, kinds := [], alts := [], laidByText := true, laidKinds := [.data, .pinned], laidTests := true, laidLooks := .later }
def WireChecksMatchSpecCardSaid : Prop := Claim7.holds Tryd.pinned (.plain (OpenSpec.ofChange wireChecksMatchSpecSpec)) wireChecksMatchSpecCard

/-- THE TIED CARD OF 'interchangelaw2.WireShortsMatchSpec'. -/
def wireShortsMatchSpecCard : Claim7 := { stood := { row := wireShortsMatchSpecRow, standIns := [], harness := (true, "80bb79bb2987062961d736e1ee31a857c5e1c97096a39fbe8c05bcd694ad5402"), looks := false }, kinds := [], alts := [], laidByText := true, laidKinds := [.data, .pinned], laidTests := true, laidLooks := .later }
def WireShortsMatchSpecCardSaid : Prop := Claim7.holds Tryd.pinned (.plain (OpenSpec.ofChange wireShortsMatchSpecSpec)) wireShortsMatchSpecCard

/-- THE TIED CARD OF 'interchangelaw2.WireBestMatchesSpec'. -/
def wireBestMatchesSpecCard : Claim7 := { stood := { row := wireBestMatchesSpecRow, standIns := [], harness := (true, "80bb79bb2987062961d736e1ee31a857c5e1c97096a39fbe8c05bcd694ad5402"), looks := false }, kinds := [], alts := [], laidByText := true, laidKinds := [.data, .pinned], laidTests := true, laidLooks := .later }
def WireBestMatchesSpecCardSaid : Prop := Claim7.holds Tryd.pinned (.plain (OpenSpec.ofChange wireBestMatchesSpecSpec)) wireBestMatchesSpecCard

/-- THE TIED CARD OF 'interchangelaw2.WireTextsMatchSpec'. -/
def wireTextsMatchSpecCard : Claim7 := { stood := { row := wireTextsMatchSpecRow, standIns := [], harness := (true, "80bb79bb2987062961d736e1ee31a857c5e1c97096a39fbe8c05bcd694ad5402"), looks := false }, kinds := [], alts := [], laidByText := true, laidKinds := [.data, .pinned], laidTests := true, laidLooks := .later }
def WireTextsMatchSpecCardSaid : Prop := Claim7.holds Tryd.pinned (.plain (OpenSpec.ofChange wireTextsMatchSpecSpec)) wireTextsMatchSpecCard

/-- THE TIED CARD OF 'interchangelaw2.WirePutsAreFound'. -/
def wirePutsAreFoundCard : Claim7 := { stood := { row := wirePutsAreFoundRow, standIns := [], harness := (true, "80bb79bb2987062961d736e1ee31a857c5e1c97096a39fbe8c05bcd694ad5402"), looks := false }, kinds := [], alts := [], laidByText := true, laidKinds := [.data, .pinned], laidTests := true, laidLooks := .later }
def WirePutsAreFoundCardSaid : Prop := Claim7.holds Tryd.pinned (.plain (OpenSpec.ofChange wirePutsAreFoundSpec)) wirePutsAreFoundCard

/-- THE TIED CARD OF 'interchangelaw2.WireShortsSayTheSame'. -/
def wireShortsSayTheSameCard : Claim7 := { stood := { row := wireShortsSayTheSameRow, standIns := [], harness := (true, "80bb79bb2987062961d736e1ee31a857c5e1c97096a39fbe8c05bcd694ad5402"), looks := false }, kinds := [], alts := [], laidByText := true, laidKinds := [.data, .pinned], laidTests := true, laidLooks := .later }
def WireShortsSayTheSameCardSaid : Prop := Claim7.holds Tryd.pinned (.plain (OpenSpec.ofChange wireShortsSayTheSameSpec)) wireShortsSayTheSameCard

/-- THE TIED CARD OF 'interchangelaw2.WireJoinsMatchSpec'. -/
def wireJoinsMatchSpecCard : Claim7 := { stood := { row := wireJoinsMatchSpecRow, standIns := [], harness := (true, "80bb79bb2987062961d736e1ee31a857c5e1c97096a39fbe8c05bcd694ad5402"), looks := false }, kinds := [], alts := [], laidByText := true, laidKinds := [.data, .pinned], laidTests := true, laidLooks := .later }
def WireJoinsMatchSpecCardSaid : Prop := Claim7.holds Tryd.pinned (.plain (OpenSpec.ofChange wireJoinsMatchSpecSpec)) wireJoinsMatchSpecCard

/-- THE TIED CARD OF 'interchangelaw2.WirePlacesMatchSpec'. -/
def wirePlacesMatchSpecCard : Claim7 := { stood := { row := wirePlacesMatchSpecRow, standIns := [], harness := (true, "80bb79bb2987062961d736e1ee31a857c5e1c97096a39fbe8c05bcd694ad5402"), looks := false }, kinds := [], alts := [], laidByText := true, laidKinds := [.data, .pinned], laidTests := true, laidLooks := .later }
def WirePlacesMatchSpecCardSaid : Prop := Claim7.holds Tryd.pinned (.plain (OpenSpec.ofChange wirePlacesMatchSpecSpec)) wirePlacesMatchSpecCard

/-- THE TIED CARD OF 'interchangelaw2.WirePlacesAreFound'. -/
def wirePlacesAreFoundCard : Claim7 := { stood := { row := wirePlacesAreFoundRow, standIns := [], harness := (true, "80bb79bb2987062961d736e1ee31a857c5e1c97096a39fbe8c05bcd694ad5402"), looks := false }, kinds := [], alts := [], laidByText := true, laidKinds := [.data, .pinned], laidTests := true, laidLooks := .later }
def WirePlacesAreFoundCardSaid : Prop := Claim7.holds Tryd.pinned (.plain (OpenSpec.ofChange wirePlacesAreFoundSpec)) wirePlacesAreFoundCard

/-- THE TIED CARD OF 'interchangelaw2.WireCutsMatchSpec'. -/
def wireCutsMatchSpecCard : Claim7 := { stood := { row := wireCutsMatchSpecRow, standIns := [], harness := (true, "80bb79bb2987062961d736e1ee31a857c5e1c97096a39fbe8c05bcd694ad5402"), looks := false }, kinds := [], alts := [], laidByText := true, laidKinds := [.data, .pinned], laidTests := true, laidLooks := .later }
def WireCutsMatchSpecCardSaid : Prop := Claim7.holds Tryd.pinned (.plain (OpenSpec.ofChange wireCutsMatchSpecSpec)) wireCutsMatchSpecCard

/-- THE TIED CARD OF 'interchangelaw2.WireBytesComeBack'. -/
def wireBytesComeBackCard : Claim7 := { stood := { row := wireBytesComeBackRow, standIns := [], harness := (true, "80bb79bb2987062961d736e1ee31a857c5e1c97096a39fbe8c05bcd694ad5402"), looks := false }, kinds := [], alts := [], laidByText := true, laidKinds := [.data, .pinned], laidTests := true, laidLooks := .later }
def WireBytesComeBackCardSaid : Prop := Claim7.holds Tryd.pinned (.plain (OpenSpec.ofChange wireBytesComeBackSpec)) wireBytesComeBackCard

/-- THE SECOND FORM's CARD OF 'interchangelaw2.WireHeadingsMatchSpec'. -/
def wireHeadingsMatchSpecUptoCard : Claim7 := { stood := { row := wireHeadingsMatchSpecUptoRow, standIns := [], harness := (true, "80bb79bb2987062961d736e1ee31a857c5e1c97096a39fbe8c05bcd694ad5402"), looks := false }, kinds := [], alts := [], laidByText := true, laidKinds := [.data, .pinned], laidTests := true, laidLooks := .later }
def WireHeadingsMatchSpecUptoCardSaid : Prop := Claim7.holds Tryd.pinned (.plain (OpenSpec.upto wireHeadingsMatchSpecSpec)) wireHeadingsMatchSpecUptoCard

/-- THE SECOND FORM's CARD OF 'interchangelaw2.WireChecksMatchSpec'. -/
def wireChecksMatchSpecUptoCard : Claim7 := { stood := { row := wireChecksMatchSpecUptoRow, standIns := [], harness := (true, "80bb79bb2987062961d736e1ee31a857c5e1c97096a39fbe8c05bcd694ad5402"), looks := false }, kinds := [], alts := [], laidByText := true, laidKinds := [.data, .pinned], laidTests := true, laidLooks := .later }
def WireChecksMatchSpecUptoCardSaid : Prop := Claim7.holds Tryd.pinned (.plain (OpenSpec.upto wireChecksMatchSpecSpec)) wireChecksMatchSpecUptoCard

/-- THE SECOND FORM's CARD OF 'interchangelaw2.WireShortsMatchSpec'. -/
def wireShortsMatchSpecUptoCard : Claim7 := { stood := { row := wireShortsMatchSpecUptoRow, standIns := [], harness := (true, "80bb79bb2987062961d736e1ee31a857c5e1c97096a39fbe8c05bcd694ad5402"), looks := false }, kinds := [], alts := [], laidByText := true, laidKinds := [.data, .pinned], laidTests := true, laidLooks := .later }
def WireShortsMatchSpecUptoCardSaid : Prop := Claim7.holds Tryd.pinned (.plain (OpenSpec.upto wireShortsMatchSpecSpec)) wireShortsMatchSpecUptoCard

/-- THE SECOND FORM's CARD OF 'interchangelaw2.WireBestMatchesSpec'. -/
def wireBestMatchesSpecUptoCard : Claim7 := { stood := { row := wireBestMatchesSpecUptoRow, standIns := [], harness := (true, "80bb79bb2987062961d736e1ee31a857c5e1c97096a39fbe8c05bcd694ad5402"), looks := false }, kinds := [], alts := [], laidByText := true, laidKinds := [.data, .pinned], laidTests := true, laidLooks := .later }
def WireBestMatchesSpecUptoCardSaid : Prop := Claim7.holds Tryd.pinned (.plain (OpenSpec.upto wireBestMatchesSpecSpec)) wireBestMatchesSpecUptoCard

/-- THE SECOND FORM's CARD OF 'interchangelaw2.WireTextsMatchSpec'. -/
def wireTextsMatchSpecUptoCard : Claim7 := { stood := { row := wireTextsMatchSpecUptoRow, standIns := [], harness := (true, "80bb79bb2987062961d736e1ee31a857c5e1c97096a39fbe8c05bcd694ad5402"), looks := false }, kinds := [], alts := [], laidByText := true, laidKinds := [.data, .pinned], laidTests := true, laidLooks := .later }
def WireTextsMatchSpecUptoCardSaid : Prop := Claim7.holds Tryd.pinned (.plain (OpenSpec.upto wireTextsMatchSpecSpec)) wireTextsMatchSpecUptoCard

/-- THE SECOND FORM's CARD OF 'interchangelaw2.WirePutsAreFound'. -/
def wirePutsAreFoundUptoCard : Claim7 := { stood := { row := wirePutsAreFoundUptoRow, standIns := [], harness := (true, "80bb79bb2987062961d736e1ee31a857c5e1c97096a39fbe8c05bcd694ad5402"), looks := false }, kinds := [], alts := [], laidByText := true, laidKinds := [.data, .pinned], laidTests := true, laidLooks := .later }
def WirePutsAreFoundUptoCardSaid : Prop := Claim7.holds Tryd.pinned (.plain (OpenSpec.upto wirePutsAreFoundSpec)) wirePutsAreFoundUptoCard

/-- THE SECOND FORM's CARD OF 'interchangelaw2.WireShortsSayTheSame'. -/
def wireShortsSayTheSameUptoCard : Claim7 := { stood := { row := wireShortsSayTheSameUptoRow, standIns := [], harness := (true, "80bb79bb2987062961d736e1ee31a857c5e1c97096a39fbe8c05bcd694ad5402"), looks := false }, kinds := [], alts := [], laidByText := true, laidKinds := [.data, .pinned], laidTests := true, laidLooks := .later }
def WireShortsSayTheSameUptoCardSaid : Prop := Claim7.holds Tryd.pinned (.plain (OpenSpec.upto wireShortsSayTheSameSpec)) wireShortsSayTheSameUptoCard

/-- THE SECOND FORM's CARD OF 'interchangelaw2.WireJoinsMatchSpec'. -/
def wireJoinsMatchSpecUptoCard : Claim7 := { stood := { row := wireJoinsMatchSpecUptoRow, standIns := [], harness := (true, "80bb79bb2987062961d736e1ee31a857c5e1c97096a39fbe8c05bcd694ad5402"), looks := false }, kinds := [], alts := [], laidByText := true, laidKinds := [.data, .pinned], laidTests := true, laidLooks := .later }
def WireJoinsMatchSpecUptoCardSaid : Prop := Claim7.holds Tryd.pinned (.plain (OpenSpec.upto wireJoinsMatchSpecSpec)) wireJoinsMatchSpecUptoCard

/-- THE SECOND FORM's CARD OF 'interchangelaw2.WirePlacesMatchSpec'. -/
def wirePlacesMatchSpecUptoCard : Claim7 := { stood := { row := wirePlacesMatchSpecUptoRow, standIns := [], harness := (true, "80bb79bb2987062961d736e1ee31a857c5e1c97096a39fbe8c05bcd694ad5402"), looks := false }, kinds := [], alts := [], laidByText := true, laidKinds := [.data, .pinned], laidTests := true, laidLooks := .later }
def WirePlacesMatchSpecUptoCardSaid : Prop := Claim7.holds Tryd.pinned (.plain (OpenSpec.upto wirePlacesMatchSpecSpec)) wirePlacesMatchSpecUptoCard

/-- THE SECOND FORM's CARD OF 'interchangelaw2.WirePlacesAreFound'. -/
def wirePlacesAreFoundUptoCard : Claim7 := { stood := { row := wirePlacesAreFoundUptoRow, standIns := [], harness := (true, "80bb79bb2987062961d736e1ee31a857c5e1c97096a39fbe8c05bcd694ad5402"), looks := false }, kinds := [], alts := [], laidByText := true, laidKinds := [.data, .pinned], laidTests := true, laidLooks := .later }
def WirePlacesAreFoundUptoCardSaid : Prop := Claim7.holds Tryd.pinned (.plain (OpenSpec.upto wirePlacesAreFoundSpec)) wirePlacesAreFoundUptoCard

/-- THE SECOND FORM's CARD OF 'interchangelaw2.WireCutsMatchSpec'. -/
def wireCutsMatchSpecUptoCard : Claim7 := { stood := { row := wireCutsMatchSpecUptoRow, standIns := [], harness := (true, "80bb79bb2987062961d736e1ee31a857c5e1c97096a39fbe8c05bcd694ad5402"), looks := false }, kinds := [], alts := [], laidByText := true, laidKinds := [.data, .pinned], laidTests := true, laidLooks := .later }
def WireCutsMatchSpecUptoCardSaid : Prop := Claim7.holds Tryd.pinned (.plain (OpenSpec.upto wireCutsMatchSpecSpec)) wireCutsMatchSpecUptoCard

/-- THE SECOND FORM's CARD OF 'interchangelaw2.WireBytesComeBack'. -/
def wireBytesComeBackUptoCard : Claim7 := { stood := { row := wireBytesComeBackUptoRow, standIns := [], harness := (true, "80bb79bb2987062961d736e1ee31a857c5e1c97096a39fbe8c05bcd694ad5402"), looks := false }, kinds := [], alts := [], laidByText := true, laidKinds := [.data, .pinned], laidTests := true, laidLooks := .later }
def WireBytesComeBackUptoCardSaid : Prop := Claim7.holds Tryd.pinned (.plain (OpenSpec.upto wireBytesComeBackSpec)) wireBytesComeBackUptoCard
end Rows
end Go.Proofs.YteilhjdpbjgdpaaDoor
