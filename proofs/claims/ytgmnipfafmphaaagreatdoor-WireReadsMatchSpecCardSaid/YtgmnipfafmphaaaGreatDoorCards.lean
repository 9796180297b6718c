/-
  DERIVED. GIVEN WITH THE SEED: THE CARDS: each row of YtgmnipfafmphaaaGreatDoorRows.lean that lists a variable, with what it lists TIED to the program's text (the seventh form; the later family's looks); each row that meets fmt, with fmt's text TOLD by the authors' own Lean function (tested against real Go, not proved from fmt's source: count such statements apart). THE CARD IS WHAT COUNTS. Prove the row's statement (the work); the ties are given (YtgmnipfafmphaaaGreatDoorTie.lean); close each card by the builder's one call (the guide's Derived/Test/ToyasCard.lean, 'card_holds'). Laid BY PROGRAM, IN A SANDBOX (cutbox-door.mjs). By AI agents, Wed Nov 11 2026. No macro, syntax, notation, axiom, sorry.
-/
import Derived.Test.YtgmnipfafmphaaaGreatDoorRows
import GoSem.ClaimSeven
namespace Go.Proofs.YtgmnipfafmphaaaGreatDoor
namespace Rows

/-- THE TIED CARD OF 'interchangelaw2.WireAuditsTell'. -/
def wireAuditsTellCard : Claim7 := { stood := { row := wireAuditsTellRow, standIns := [], harness := (true, "8bb288e7ba1b4bc850acc422e7df93c3d88294c80a017c6b2a68d19120ba1474"), looks := true }, kinds := [], alts := [], laidByText := true, laidKinds := [.data, .data, .data, .data, .sentinel, .sentinel, .pinned], laidTests := true, laidLooks := .later }
def WireAuditsTellCardSaid : Prop := Claim7.holds Tryz.pinned (.plain (OpenSpec.ofChange wireAuditsTellSpec)) wireAuditsTellCard

/-- THE TIED CARD OF 'interchangelaw2.WireReadsMatchSpec'. -/
def wireReadsMatchSpecCard : Claim7 := { stood := { row := wireReadsMatchSpecRow, standIns := [], harness := (true, "8bb288e7ba1b4bc850acc422e7df93c3d88294c80a017c6b2a68d19120ba1474"), looks := true }, kinds := [], alts := [], laidByText := true, laidKinds := [.data, .data, .data, .data, .sentinel, .sentinel, .pinned], laidTests := true, laidLooks := .later }
def WireReadsMatchSpecCardSaid : Prop := Claim7.holds Tryz.pinned (.plain (OpenSpec.ofChange wireReadsMatchSpecSpec)) wireReadsMatchSpecCard

/-- THE TIED CARD OF 'interchangelaw2.WirePacksComeBack'. -/
def wirePacksComeBackCard : Claim7 := { stood := { row := wirePacksComeBackRow, standIns := [], harness := (true, "8bb288e7ba1b4bc850acc422e7df93c3d88294c80a017c6b2a68d19120ba1474"), looks := true }, kinds := [], alts := [], laidByText := true, laidKinds := [.data, .data, .data, .data, .sentinel, .sentinel, .pinned], laidTests := true, laidLooks := .later }
def WirePacksComeBackCardSaid : Prop := Claim7.holds Tryz.pinned (.plain (OpenSpec.ofChange wirePacksComeBackSpec)) wirePacksComeBackCard

/-- THE SECOND FORM's CARD OF 'interchangelaw2.WireAuditsTell'. -/
def wireAuditsTellUptoCard : Claim7 := { stood := { row := wireAuditsTellUptoRow, standIns := [], harness := (true, "8bb288e7ba1b4bc850acc422e7df93c3d88294c80a017c6b2a68d19120ba1474"), looks := true }, kinds := [], alts := [], laidByText := true, laidKinds := [.data, .data, .data, .data, .sentinel, .sentinel, .pinned], laidTests := true, laidLooks := .later }
def WireAuditsTellUptoCardSaid : Prop := Claim7.holds Tryz.pinned (.plain (OpenSpec.upto wireAuditsTellSpec)) wireAuditsTellUptoCard

/-- THE SECOND FORM's CARD OF 'interchangelaw2.WireReadsMatchSpec'. -/
def wireReadsMatchSpecUptoCard : Claim7 := { stood := { row := wireReadsMatchSpecUptoRow, standIns := [], harness := (true, "8bb288e7ba1b4bc850acc422e7df93c3d88294c80a017c6b2a68d19120ba1474"), looks := true }, kinds := [], alts := [], laidByText := true, laidKinds := [.data, .data, .data, .data, .sentinel, .sentinel, .pinned], laidTests := true, laidLooks := .later }
def WireReadsMatchSpecUptoCardSaid : Prop := Claim7.holds Tryz.pinned (.plain (OpenSpec.upto wireReadsMatchSpecSpec)) wireReadsMatchSpecUptoCard

/-- THE SECOND FORM's CARD OF 'interchangelaw2.WirePacksComeBack'. -/
def wirePacksComeBackUptoCard : Claim7 := { stood := { row := wirePacksComeBackUptoRow, standIns := [], harness := (true, "8bb288e7ba1b4bc850acc422e7df93c3d88294c80a017c6b2a68d19120ba1474"), looks := true }, kinds := [], alts := [], laidByText := true, laidKinds := [.data, .data, .data, .data, .sentinel, .sentinel, .pinned], laidTests := true, laidLooks := .later }
def WirePacksComeBackUptoCardSaid : Prop := Claim7.holds Tryz.pinned (.plain (OpenSpec.upto wirePacksComeBackSpec)) wirePacksComeBackUptoCard
end Rows
end Go.Proofs.YtgmnipfafmphaaaGreatDoor
