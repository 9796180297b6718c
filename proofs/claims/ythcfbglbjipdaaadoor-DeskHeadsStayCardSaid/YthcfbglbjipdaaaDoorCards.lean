/-
  DERIVED. GIVEN WITH THE SEED: THE CARDS: each row of YthcfbglbjipdaaaDoorRows.lean that lists a variable, with what it lists TIED to the program's text (the seventh form; the later family's looks); each row that meets fmt, with fmt's text TOLD by the authors' own Lean function (tested against real Go, not proved from fmt's source: count such statements apart). THE CARD IS WHAT COUNTS. Prove the row's statement (the work); the ties are given (YthcfbglbjipdaaaDoorTie.lean); close each card by the builder's one call (the guide's Derived/Test/ToyasCard.lean, 'card_holds'). Laid BY PROGRAM, IN A SANDBOX (cutbox-door.mjs). By AI agents, Wed Nov 11 2026. No macro, syntax, notation, axiom, sorry.
-/
import Derived.Test.YthcfbglbjipdaaaDoorRows
import GoSem.ClaimSeven
namespace Go.Proofs.YthcfbglbjipdaaaDoor
namespace Rows

/-- THE TIED CARD OF 'interchangelaw12.DeskHeadsStay'. -/
def deskHeadsStayCard : Claim7 := { stood := { row := deskHeadsStayRow, standIns := [], harness := (true, "a9c947e57681cfa3f947f6dc5769da351676d104c05de5fca6d3068ed61e1276"), looks := false }, kinds := [], alts := [], laidByText := true, laidKinds := [.data, .data, .data, .data, .pinned], laidTests := true, laidLooks := .later }
def DeskHeadsStayCardSaid : Prop := Claim7.holds Tryd.pinned (.plain (OpenSpec.ofChange deskHeadsStaySpec)) deskHeadsStayCard

/-- THE SECOND FORM's CARD OF 'interchangelaw12.DeskHeadsStay'. -/
def deskHeadsStayUptoCard : Claim7 := { stood := { row := deskHeadsStayUptoRow, standIns := [], harness := (true, "a9c947e57681cfa3f947f6dc5769da351676d104c05de5fca6d3068ed61e1276"), looks := false }, kinds := [], alts := [], laidByText := true, laidKinds := [.data, .data, .data, .data, .pinned], laidTests := true, laidLooks := .later }
def DeskHeadsStayUptoCardSaid : Prop := Claim7.holds Tryd.pinned (.plain (OpenSpec.upto deskHeadsStaySpec)) deskHeadsStayUptoCard
end Rows
end Go.Proofs.YthcfbglbjipdaaaDoor
