/-
  DERIVED. GIVEN WITH THE SEED: THE CARDS: each row of YtdkncdkdbddgoaaDoorRows.lean that lists a variable, with what it lists TIED to the program's text (the seventh form; the later family's looks); each row that meets fmt, with fmt's text TOLD by the authors' own Lean function (tested against real Go, not proved from fmt's source: count such statements apart). THE CARD IS WHAT COUNTS. Prove the row's statement (the work); the ties are given (YtdkncdkdbddgoaaDoorTie.lean); close each card by the builder's one call (the guide's Derived/Test/ToyasCard.lean, 'card_holds'). Laid BY PROGRAM, IN A SANDBOX (cutbox-door.mjs). By AI agents, Wed Nov 11 2026. No macro, syntax, notation, axiom, sorry.
-/
import Derived.Test.YtdkncdkdbddgoaaDoorRows
import GoSem.ClaimSeven
namespace Go.Proofs.YtdkncdkdbddgoaaDoor
namespace Rows

/-- THE TIED CARD OF 'interchangelaw3.SchemePathsAreIn'. -/
def schemePathsAreInCard : Claim7 := { stood := { row := schemePathsAreInRow, standIns := [], harness := (true, "51d394bc7a613eeed945086a991d0cb89dfcc24a280a26d060b29e566a46b300"), looks := true }, kinds := [], alts := [], laidByText := true, laidKinds := [.data, .data, .data, .data, .sentinel, .sentinel, .pinned], laidTests := true, laidLooks := .later }
def SchemePathsAreInCardSaid : Prop := Claim7.holds Tryd.pinned (.plain (OpenSpec.ofChange schemePathsAreInSpec)) schemePathsAreInCard

/-- THE SECOND FORM's CARD OF 'interchangelaw3.SchemePathsAreIn'. -/
def schemePathsAreInUptoCard : Claim7 := { stood := { row := schemePathsAreInUptoRow, standIns := [], harness := (true, "51d394bc7a613eeed945086a991d0cb89dfcc24a280a26d060b29e566a46b300"), looks := true }, kinds := [], alts := [], laidByText := true, laidKinds := [.data, .data, .data, .data, .sentinel, .sentinel, .pinned], laidTests := true, laidLooks := .later }
def SchemePathsAreInUptoCardSaid : Prop := Claim7.holds Tryd.pinned (.plain (OpenSpec.upto schemePathsAreInSpec)) schemePathsAreInUptoCard
end Rows
end Go.Proofs.YtdkncdkdbddgoaaDoor
