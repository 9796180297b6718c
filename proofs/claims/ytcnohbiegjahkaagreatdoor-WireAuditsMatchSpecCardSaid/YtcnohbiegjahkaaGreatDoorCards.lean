/-
  DERIVED. GIVEN WITH THE SEED: THE CARDS: each row of YtcnohbiegjahkaaGreatDoorRows.lean that lists a variable, with what it lists TIED to the program's text (the seventh form; the later family's looks); each row that meets fmt, with fmt's text TOLD by the authors' own Lean function (tested against real Go, not proved from fmt's source: count such statements apart). THE CARD IS WHAT COUNTS. Prove the row's statement (the work); the ties are given (YtcnohbiegjahkaaGreatDoorTie.lean); close each card by the builder's one call (the guide's Derived/Test/ToyasCard.lean, 'card_holds'). Laid BY PROGRAM, IN A SANDBOX (cutbox-door.mjs). By AI agents, Wed Nov 11 2026. No macro, syntax, notation, axiom, sorry.
-/
import Derived.Test.YtcnohbiegjahkaaGreatDoorRows
import GoSem.ClaimSeven
namespace Go.Proofs.YtcnohbiegjahkaaGreatDoor
namespace Rows

/-- THE TIED CARD OF 'interchangelaw2.WireAuditsMatchSpec'. -/
def wireAuditsMatchSpecCard : Claim7 := { stood := { row := wireAuditsMatchSpecRow, standIns := [], harness := (true, "879e037c101c9c40dab8127d5870545ed7a4a8ccaea45c02f693f6b7c3a8ff52"), looks := true }, kinds := [], alts := [], laidByText := true, laidKinds := [.data, .data, .data, .data, .sentinel, .sentinel, .pinned], laidTests := true, laidLooks := .later }
def WireAuditsMatchSpecCardSaid : Prop := Claim7.holds Tryz.pinned (.plain (OpenSpec.ofChange wireAuditsMatchSpecSpec)) wireAuditsMatchSpecCard

/-- THE TIED CARD OF 'interchangelaw2.WireAuditsTell'. -/
def wireAuditsTellCard : Claim7 := { stood := { row := wireAuditsTellRow, standIns := [], harness := (true, "879e037c101c9c40dab8127d5870545ed7a4a8ccaea45c02f693f6b7c3a8ff52"), looks := true }, kinds := [], alts := [], laidByText := true, laidKinds := [.data, .data, .data, .data, .sentinel, .sentinel, .pinned], laidTests := true, laidLooks := .later }
def WireAuditsTellCardSaid : Prop := Claim7.holds Tryz.pinned (.plain (OpenSpec.ofChange wireAuditsTellSpec)) wireAuditsTellCard

/-- THE SECOND FORM's CARD OF 'interchangelaw2.WireAuditsMatchSpec'. -/
def wireAuditsMatchSpecUptoCard : Claim7 := { stood := { row := wireAuditsMatchSpecUptoRow, standIns := [], harness := (true, "879e037c101c9c40dab8127d5870545ed7a4a8ccaea45c02f693f6b7c3a8ff52"), looks := true }, kinds := [], alts := [], laidByText := true, laidKinds := [.data, .data, .data, .data, .sentinel, .sentinel, .pinned], laidTests := true, laidLooks := .later }
def WireAuditsMatchSpecUptoCardSaid : Prop := Claim7.holds Tryz.pinned (.plain (OpenSpec.upto wireAuditsMatchSpecSpec)) wireAuditsMatchSpecUptoCard

/-- THE SECOND FORM's CARD OF 'interchangelaw2.WireAuditsTell'. -/
def wireAuditsTellUptoCard : Claim7 := { stood := { row := wireAuditsTellUptoRow, standIns := [], harness := (true, "879e037c101c9c40dab8127d5870545ed7a4a8ccaea45c02f693f6b7c3a8ff52"), looks := true }, kinds := [], alts := [], laidByText := true, laidKinds := [.data, .data, .data, .data, .sentinel, .sentinel, .pinned], laidTests := true, laidLooks := .later }
def WireAuditsTellUptoCardSaid : Prop := Claim7.holds Tryz.pinned (.plain (OpenSpec.upto wireAuditsTellSpec)) wireAuditsTellUptoCard
end Rows
end Go.Proofs.YtcnohbiegjahkaaGreatDoor
