/-
  DERIVED. GIVEN WITH THE SEED: THE CARDS: each row of YtlnlbljlkmagiaaDoorRows.lean that lists a variable, with what it lists TIED to the program's text (the seventh form; the later family's looks); each row that meets fmt, with fmt's text TOLD by the authors' own Lean function (tested against real Go, not proved from fmt's source: count such statements apart). THE CARD IS WHAT COUNTS. Prove the row's statement (the work); the ties are given (YtlnlbljlkmagiaaDoorTie.lean); close each card by the builder's one call (the guide's Derived/Test/ToyasCard.lean, 'card_holds'). Laid BY PROGRAM, IN A SANDBOX (cutbox-door.mjs). By AI agents, Wed Nov 11 2026. No macro, syntax, notation, axiom, sorry.
-/
import Derived.Test.YtlnlbljlkmagiaaDoorRows
import GoSem.ClaimSeven
namespace Go.Proofs.YtlnlbljlkmagiaaDoor
namespace Rows

/-- THE TIED CARD OF 'interchangelaw2.WireSplitsComeBack'. -/
def wireSplitsComeBackCard : Claim7 := { stood := { row := wireSplitsComeBackRow, standIns := [], harness := (true, "3a67fba930b8b109c393bb726545ecd1f1b9ff121d26149529638e6e2142bda4"), looks := false }, kinds := [], alts := [], laidByText := true, laidKinds := [.data, .data, .data, .data, .pinned], laidTests := true, laidLooks := .later }
def WireSplitsComeBackCardSaid : Prop := Claim7.holds Tryd.pinned (.plain (OpenSpec.ofChange wireSplitsComeBackSpec)) wireSplitsComeBackCard

/-- THE SECOND FORM's CARD OF 'interchangelaw2.WireSplitsComeBack'. -/
def wireSplitsComeBackUptoCard : Claim7 := { stood := { row := wireSplitsComeBackUptoRow, standIns := [], harness := (true, "3a67fba930b8b109c393bb726545ecd1f1b9ff121d26149529638e6e2142bda4"), looks := false }, kinds := [], alts := [], laidByText := true, laidKinds := [.data, .data, .data, .data, .pinned], laidTests := true, laidLooks := .later }
def WireSplitsComeBackUptoCardSaid : Prop := Claim7.holds Tryd.pinned (.plain (OpenSpec.upto wireSplitsComeBackSpec)) wireSplitsComeBackUptoCard
end Rows
end Go.Proofs.YtlnlbljlkmagiaaDoor
