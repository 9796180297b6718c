/-
  DERIVED. GIVEN WITH THE SEED: THE CARDS: each row of YtfbhhhghjehjjaaDoorRows.lean that lists a variable, with what it lists TIED to the program's text (the seventh form; the later family's looks); each row that meets fmt, with fmt's text TOLD by the authors' own Lean function (tested against real Go, not proved from fmt's source: count such statements apart). THE CARD IS WHAT COUNTS. Prove the row's statement (the work); the ties are given (YtfbhhhghjehjjaaDoorTie.lean); close each card by the builder's one call (the guide's Derived/Test/ToyasCard.lean, 'card_holds'). Laid BY PROGRAM, IN A SANDBOX (cutbox-door.mjs). By AI agents, Wed Nov 11 2026. No macro, syntax, notation, axiom, sorry.
-/
import Derived.Test.YtfbhhhghjehjjaaDoorRows
import GoSem.ClaimSeven
namespace Go.Proofs.YtfbhhhghjehjjaaDoor
namespace Rows

/-- THE TIED CARD OF 'interchangelaw2.WireCutsMatchSpec'. -/
def wireCutsMatchSpecCard : Claim7 := { stood := { row := wireCutsMatchSpecRow, standIns := [], harness := (true, "3cdbc8b91328995bc2efc5a2a1bb7df4a0253c8a22289ad4fc234a0c00c05817"), looks := false }, kinds := [], alts := [], laidByText := true, laidKinds := [.data, .pinned], laidTests := true, laidLooks := .later }
def WireCutsMatchSpecCardSaid : Prop := Claim7.holds Tryd.pinned (.plain (OpenSpec.ofChange wireCutsMatchSpecSpec)) wireCutsMatchSpecCard

/-- THE TIED CARD OF 'interchangelaw2.WireBytesComeBack'. -/
def wireBytesComeBackCard : Claim7 := { stood := { row := wireBytesComeBackRow, standIns := [], harness := (true, "3cdbc8b91328995bc2efc5a2a1bb7df4a0253c8a22289ad4fc234a0c00c05817"), looks := false }, kinds := [], alts := [], laidByText := true, laidKinds := [.data, .pinned], laidTests := true, laidLooks := .later }
def WireBytesComeBackCardSaid : Prop := Claim7.holds Tryd.pinned (.plain (OpenSpec.ofChange wireBytesComeBackSpec)) wireBytesComeBackCard

/-- THE SECOND FORM's CARD OF 'interchangelaw2.WireCutsMatchSpec'. -/
def wireCutsMatchSpecUptoCard : Claim7 := { stood := { row := wireCutsMatchSpecUptoRow, standIns := [], harness := (true, "3cdbc8b91328995bc2efc5a2a1bb7df4a0253c8a22289ad4fc234a0c00c05817"), looks := false }, kinds := [], alts := [], laidByText := true, laidKinds := [.data, .pinned], laidTests := true, laidLooks := .later }
def WireCutsMatchSpecUptoCardSaid : Prop := Claim7.holds Tryd.pinned (.plain (OpenSpec.upto wireCutsMatchSpecSpec)) wireCutsMatchSpecUptoCard

/-- THE SECOND FORM's CARD OF 'interchangelaw2.WireBytesComeBack'. -/
def wireBytesComeBackUptoCard : Claim7 := { stood := { row := wireBytesComeBackUptoRow, standIns := [], harness := (true, "3cdbc8b91328995bc2efc5a2a1bb7df4a0253c8a22289ad4fc234a0c00c05817"), looks := false }, kinds := [], alts := [], laidByText := true, laidKinds := [.data, .pinned], laidTests := true, laidLooks := .later }
def WireBytesComeBackUptoCardSaid : Prop := Claim7.holds Tryd.pinned (.plain (OpenSpec.upto wireBytesComeBackSpec)) wireBytesComeBackUptoCard
end Rows
end Go.Proofs.YtfbhhhghjehjjaaDoor
