/-
  DERIVED. GIVEN WITH THE SEED: THE CARDS: each row of YtdkncdkdbddgoaaGreatDoorRows.lean that lists a variable, with what it lists TIED to the program's text (the seventh form; the later family's looks); each row that meets fmt, with fmt's text TOLD by the authors' own Lean function (tested against real Go, not proved from fmt's source: count such statements apart). THE CARD IS WHAT COUNTS. Prove the row's statement (the work); the ties are given (YtdkncdkdbddgoaaGreatDoorTie.lean); close each card by the builder's one call (the guide's Derived/Test/ToyasCard.lean, 'card_holds'). Laid BY PROGRAM, IN A SANDBOX (cutbox-door.mjs). By AI agents, Wed Nov 11 2026. No macro, syntax, notation, axiom, sorry.
-/
import Derived.Test.YtdkncdkdbddgoaaGreatDoorRows
import GoSem.ClaimSeven
namespace Go.Proofs.YtdkncdkdbddgoaaGreatDoor
namespace Rows

/-- THE TIED CARD OF 'interchangelaw3.SchemePathsMatchSpec'. -/
def schemePathsMatchSpecCard : Claim7 := { stood := { row := schemePathsMatchSpecRow, standIns := [], harness := (true, "0bdad1ee7b7d1500d28b6a71364090082d352eeb9867dbe91ba8419f1f373b08"), looks := true }, kinds := [], alts := [], laidByText := true, laidKinds := [.data, .data, .data, .data, .sentinel, .sentinel, .pinned], laidTests := true, laidLooks := .later }
def SchemePathsMatchSpecCardSaid : Prop := Claim7.holds Tryz.pinned (.plain (OpenSpec.ofChange schemePathsMatchSpecSpec)) schemePathsMatchSpecCard

/-- THE TIED CARD OF 'interchangelaw12.DeskArchivesComeBack'. -/
def deskArchivesComeBackCard : Claim7 := { stood := { row := deskArchivesComeBackRow, standIns := [], harness := (true, "0bdad1ee7b7d1500d28b6a71364090082d352eeb9867dbe91ba8419f1f373b08"), looks := true }, kinds := [], alts := [], laidByText := true, laidKinds := [.data, .data, .data, .data, .sentinel, .sentinel, .pinned], laidTests := true, laidLooks := .later }
def DeskArchivesComeBackCardSaid : Prop := Claim7.holds Tryz.pinned (.plain (OpenSpec.ofChange deskArchivesComeBackSpec)) deskArchivesComeBackCard

/-- THE SECOND FORM's CARD OF 'interchangelaw3.SchemePathsMatchSpec'. -/
def schemePathsMatchSpecUptoCard : Claim7 := { stood := { row := schemePathsMatchSpecUptoRow, standIns := [], harness := (true, "0bdad1ee7b7d1500d28b6a71364090082d352eeb9867dbe91ba8419f1f373b08"), looks := true }, kinds := [], alts := [], laidByText := true, laidKinds := [.data, .data, .data, .data, .sentinel, .sentinel, .pinned], laidTests := true, laidLooks := .later }
def SchemePathsMatchSpecUptoCardSaid : Prop := Claim7.holds Tryz.pinned (.plain (OpenSpec.upto schemePathsMatchSpecSpec)) schemePathsMatchSpecUptoCard

/-- THE SECOND FORM's CARD OF 'interchangelaw12.DeskArchivesComeBack'. -/
def deskArchivesComeBackUptoCard : Claim7 := { stood := { row := deskArchivesComeBackUptoRow, standIns := [], harness := (true, "0bdad1ee7b7d1500d28b6a71364090082d352eeb9867dbe91ba8419f1f373b08"), looks := true }, kinds := [], alts := [], laidByText := true, laidKinds := [.data, .data, .data, .data, .sentinel, .sentinel, .pinned], laidTests := true, laidLooks := .later }
def DeskArchivesComeBackUptoCardSaid : Prop := Claim7.holds Tryz.pinned (.plain (OpenSpec.upto deskArchivesComeBackSpec)) deskArchivesComeBackUptoCard
end Rows
end Go.Proofs.YtdkncdkdbddgoaaGreatDoor
