/-
  DERIVED. GIVEN WITH THE SEED: THE CARDS: each row of YthpignffnnpboaaGreatDoorRows.lean that lists a variable, with what it lists TIED to the program's text (the seventh form; the later family's looks); each row that meets fmt, with fmt's text TOLD by the authors' own Lean function (tested against real Go, not proved from fmt's source: count such statements apart). THE CARD IS WHAT COUNTS. Prove the row's statement (the work); the ties are given (YthpignffnnpboaaGreatDoorTie.lean); close each card by the builder's one call (the guide's Derived/Test/ToyasCard.lean, 'card_holds'). Laid BY PROGRAM, IN A SANDBOX (cutbox-door.mjs). By AI agents, Wed Nov 11 2026. No macro, syntax, notation, axiom, sorry.
-/
import Derived.Test.YthpignffnnpboaaGreatDoorRows
import GoSem.ClaimSeven
namespace Go.Proofs.YthpignffnnpboaaGreatDoor
namespace Rows

/-- THE TIED CARD OF 'interchangelaw12.DeskArchivesReadMatchSpec'. -/
def deskArchivesReadMatchSpecCard : Claim7 := { stood := { row := deskArchivesReadMatchSpecRow, standIns := [], harness := (true, "8eaaf742f825720521f364de60d1818c43730a19df42b18b97a6ea72b67e61cc"), looks := true }, kinds := [], alts := [], laidByText := true, laidKinds := [.data, .data, .data, .data, .sentinel, .sentinel, .pinned], laidTests := true, laidLooks := .later }
def DeskArchivesReadMatchSpecCardSaid : Prop := Claim7.holds Tryz.pinned (.plain (OpenSpec.ofChange deskArchivesReadMatchSpecSpec)) deskArchivesReadMatchSpecCard

/-- THE TIED CARD OF 'interchangelaw3.SchemePathsMatchSpec'. -/
def schemePathsMatchSpecCard : Claim7 := { stood := { row := schemePathsMatchSpecRow, standIns := [], harness := (true, "8eaaf742f825720521f364de60d1818c43730a19df42b18b97a6ea72b67e61cc"), looks := true }, kinds := [], alts := [], laidByText := true, laidKinds := [.data, .data, .data, .data, .sentinel, .sentinel, .pinned], laidTests := true, laidLooks := .later }
def SchemePathsMatchSpecCardSaid : Prop := Claim7.holds Tryz.pinned (.plain (OpenSpec.ofChange schemePathsMatchSpecSpec)) schemePathsMatchSpecCard

/-- THE SECOND FORM's CARD OF 'interchangelaw12.DeskArchivesReadMatchSpec'. -/
def deskArchivesReadMatchSpecUptoCard : Claim7 := { stood := { row := deskArchivesReadMatchSpecUptoRow, standIns := [], harness := (true, "8eaaf742f825720521f364de60d1818c43730a19df42b18b97a6ea72b67e61cc"), looks := true }, kinds := [], alts := [], laidByText := true, laidKinds := [.data, .data, .data, .data, .sentinel, .sentinel, .pinned], laidTests := true, laidLooks := .later }
def DeskArchivesReadMatchSpecUptoCardSaid : Prop := Claim7.holds Tryz.pinned (.plain (OpenSpec.upto deskArchivesReadMatchSpecSpec)) deskArchivesReadMatchSpecUptoCard

/-- THE SECOND FORM's CARD OF 'interchangelaw3.SchemePathsMatchSpec'. -/
def schemePathsMatchSpecUptoCard : Claim7 := { stood := { row := schemePathsMatchSpecUptoRow, standIns := [], harness := (true, "8eaaf742f825720521f364de60d1818c43730a19df42b18b97a6ea72b67e61cc"), looks := true }, kinds := [], alts := [], laidByText := true, laidKinds := [.data, .data, .data, .data, .sentinel, .sentinel, .pinned], laidTests := true, laidLooks := .later }
def SchemePathsMatchSpecUptoCardSaid : Prop := Claim7.holds Tryz.pinned (.plain (OpenSpec.upto schemePathsMatchSpecSpec)) schemePathsMatchSpecUptoCard
end Rows
end Go.Proofs.YthpignffnnpboaaGreatDoor
