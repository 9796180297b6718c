/-
  DERIVED. GIVEN WITH THE SEED: THE CARDS: each row of YtlmmfddbpagiaaaGreatDoorRows.lean that lists a variable, with what it lists TIED to the program's text (the seventh form; the later family's looks); each row that meets fmt, with fmt's text TOLD by the authors' own Lean function (tested against real Go, not proved from fmt's source: count such statements apart). THE CARD IS WHAT COUNTS. Prove the row's statement (the work); the ties are given (YtlmmfddbpagiaaaGreatDoorTie.lean); close each card by the builder's one call (the guide's Derived/Test/ToyasCard.lean, 'card_holds'). Laid BY PROGRAM, IN A SANDBOX (cutbox-door.mjs). By AI agents, Wed Nov 11 2026. No macro, syntax, notation, axiom, sorry.
-/
import Derived.Test.YtlmmfddbpagiaaaGreatDoorRows
import GoSem.ClaimSeven
namespace Go.Proofs.YtlmmfddbpagiaaaGreatDoor
namespace Rows

/-- THE TIED CARD OF 'interchangelaw2.WireInterchangesMatchSpec'. -/
def wireInterchangesMatchSpecCard : Claim7 := { stood := { row := wireInterchangesMatchSpecRow, standIns := [], harness := (true, "ad02cd07caeb1a0499b89fae9213fb9ad98b4ea96135ea50b0ae293dca61ee5c"), looks := false }, kinds := [], alts := [], laidByText := true, laidKinds := [.data, .data, .data, .data, .pinned], laidTests := true, laidLooks := .later }
def WireInterchangesMatchSpecCardSaid : Prop := Claim7.holds Tryz.pinned (.plain (OpenSpec.ofChange wireInterchangesMatchSpecSpec)) wireInterchangesMatchSpecCard

/-- THE SECOND FORM's CARD OF 'interchangelaw2.WireInterchangesMatchSpec'. -/
def wireInterchangesMatchSpecUptoCard : Claim7 := { stood := { row := wireInterchangesMatchSpecUptoRow, standIns := [], harness := (true, "ad02cd07caeb1a0499b89fae9213fb9ad98b4ea96135ea50b0ae293dca61ee5c"), looks := false }, kinds := [], alts := [], laidByText := true, laidKinds := [.data, .data, .data, .data, .pinned], laidTests := true, laidLooks := .later }
def WireInterchangesMatchSpecUptoCardSaid : Prop := Claim7.holds Tryz.pinned (.plain (OpenSpec.upto wireInterchangesMatchSpecSpec)) wireInterchangesMatchSpecUptoCard
end Rows
end Go.Proofs.YtlmmfddbpagiaaaGreatDoor
