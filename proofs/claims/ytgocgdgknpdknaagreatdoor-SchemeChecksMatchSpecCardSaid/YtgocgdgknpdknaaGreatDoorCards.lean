/-
  DERIVED. GIVEN WITH THE SEED: THE CARDS: each row of YtgocgdgknpdknaaGreatDoorRows.lean that lists a variable, with what it lists TIED to the program's text (the seventh form; the later family's looks); each row that meets fmt, with fmt's text TOLD by the authors' own Lean function (tested against real Go, not proved from fmt's source: count such statements apart). THE CARD IS WHAT COUNTS. Prove the row's statement (the work); the ties are given (YtgocgdgknpdknaaGreatDoorTie.lean); close each card by the builder's one call (the guide's Derived/Test/ToyasCard.lean, 'card_holds'). Laid BY PROGRAM, IN A SANDBOX (cutbox-door.mjs). By AI agents, Wed Nov 11 2026. No macro, syntax, notation, axiom, sorry.
-/
import Derived.Test.YtgocgdgknpdknaaGreatDoorRows
import GoSem.ClaimSeven
namespace Go.Proofs.YtgocgdgknpdknaaGreatDoor
namespace Rows

/-- THE TIED CARD OF 'interchangelaw3.SchemeChecksMatchSpec'. -/
def schemeChecksMatchSpecCard : Claim7 := { stood := { row := schemeChecksMatchSpecRow, standIns := [], harness := (true, "b2a344eba8dadb881bec09715959fa28118bf6e688d710c42d7ff36ef2bf2d0d"), looks := true }, kinds := [], alts := [], laidByText := true, laidKinds := [.data, .data, .data, .data, .sentinel, .sentinel, .pinned], laidTests := true, laidLooks := .later }
def SchemeChecksMatchSpecCardSaid : Prop := Claim7.holds Tryz.pinned (.plain (OpenSpec.ofChange schemeChecksMatchSpecSpec)) schemeChecksMatchSpecCard

/-- THE SECOND FORM's CARD OF 'interchangelaw3.SchemeChecksMatchSpec'. -/
def schemeChecksMatchSpecUptoCard : Claim7 := { stood := { row := schemeChecksMatchSpecUptoRow, standIns := [], harness := (true, "b2a344eba8dadb881bec09715959fa28118bf6e688d710c42d7ff36ef2bf2d0d"), looks := true }, kinds := [], alts := [], laidByText := true, laidKinds := [.data, .data, .data, .data, .sentinel, .sentinel, .pinned], laidTests := true, laidLooks := .later }
def SchemeChecksMatchSpecUptoCardSaid : Prop := Claim7.holds Tryz.pinned (.plain (OpenSpec.upto schemeChecksMatchSpecSpec)) schemeChecksMatchSpecUptoCard
end Rows
end Go.Proofs.YtgocgdgknpdknaaGreatDoor
