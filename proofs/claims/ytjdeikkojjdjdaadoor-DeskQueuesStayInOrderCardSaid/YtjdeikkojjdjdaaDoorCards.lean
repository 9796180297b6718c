/-
  DERIVED. GIVEN WITH THE SEED: THE CARDS: each row of YtjdeikkojjdjdaaDoorRows.lean that lists a variable, with what it lists TIED to the program's text (the seventh form; the later family's looks); each row that meets fmt, with fmt's text TOLD by the authors' own Lean function (tested against real Go, not proved from fmt's source: count such statements apart). THE CARD IS WHAT COUNTS. Prove the row's statement (the work); the ties are given (YtjdeikkojjdjdaaDoorTie.lean); close each card by the builder's one call (the guide's Derived/Test/ToyasCard.lean, 'card_holds'). Laid BY PROGRAM, IN A SANDBOX (cutbox-door.mjs). By AI agents, Wed Nov 11 2026. No macro, syntax, notation, axiom, sorry.
-/
import Derived.Test.YtjdeikkojjdjdaaDoorRows
import GoSem.ClaimSeven
namespace Go.Proofs.YtjdeikkojjdjdaaDoor
namespace Rows

/-- THE TIED CARD OF 'interchangelaw12.DeskOutboxMatchesSpec'. -/
def deskOutboxMatchesSpecCard : Claim7 := { stood := { row := deskOutboxMatchesSpecRow, standIns := [], harness := (true, "68661dd8e44d770278cb12dfcc3ad3f8562de2fd833c30737f35d84f0157ae48"), looks := false }, kinds := [], alts := [], laidByText := true, laidKinds := [.data, .pinned], laidTests := true, laidLooks := .later }
def DeskOutboxMatchesSpecCardSaid : Prop := Claim7.holds Tryd.pinned (.plain (OpenSpec.ofChange deskOutboxMatchesSpecSpec)) deskOutboxMatchesSpecCard

/-- THE TIED CARD OF 'interchangelaw12.DeskGivesUpLast'. -/
def deskGivesUpLastCard : Claim7 := { stood := { row := deskGivesUpLastRow, standIns := [], harness := (true, "68661dd8e44d770278cb12dfcc3ad3f8562de2fd833c30737f35d84f0157ae48"), looks := false }, kinds := [], alts := [], laidByText := true, laidKinds := [.data, .pinned], laidTests := true, laidLooks := .later }
def DeskGivesUpLastCardSaid : Prop := Claim7.holds Tryd.pinned (.plain (OpenSpec.ofChange deskGivesUpLastSpec)) deskGivesUpLastCard

/-- THE TIED CARD OF 'interchangelaw12.DeskPendingMatchesSpec'. -/
def deskPendingMatchesSpecCard : Claim7 := { stood := { row := deskPendingMatchesSpecRow, standIns := [], harness := (true, "68661dd8e44d770278cb12dfcc3ad3f8562de2fd833c30737f35d84f0157ae48"), looks := false }, kinds := [], alts := [], laidByText := true, laidKinds := [.data, .pinned], laidTests := true, laidLooks := .later }
def DeskPendingMatchesSpecCardSaid : Prop := Claim7.holds Tryd.pinned (.plain (OpenSpec.ofChange deskPendingMatchesSpecSpec)) deskPendingMatchesSpecCard

/-- THE TIED CARD OF 'interchangelaw12.DeskQueuesStayInOrder'. -/
def deskQueuesStayInOrderCard : Claim7 := { stood := { row := deskQueuesStayInOrderRow, standIns := [], harness := (true, "68661dd8e44d770278cb12dfcc3ad3f8562de2fd833c30737f35d84f0157ae48"), looks := false }, kinds := [], alts := [], laidByText := true, laidKinds := [.data, .pinned], laidTests := true, laidLooks := .later }
def DeskQueuesStayInOrderCardSaid : Prop := Claim7.holds Tryd.pinned (.plain (OpenSpec.ofChange deskQueuesStayInOrderSpec)) deskQueuesStayInOrderCard

/-- THE SECOND FORM's CARD OF 'interchangelaw12.DeskOutboxMatchesSpec'. -/
def deskOutboxMatchesSpecUptoCard : Claim7 := { stood := { row := deskOutboxMatchesSpecUptoRow, standIns := [], harness := (true, "68661dd8e44d770278cb12dfcc3ad3f8562de2fd833c30737f35d84f0157ae48"), looks := false }, kinds := [], alts := [], laidByText := true, laidKinds := [.data, .pinned], laidTests := true, laidLooks := .later }
def DeskOutboxMatchesSpecUptoCardSaid : Prop := Claim7.holds Tryd.pinned (.plain (OpenSpec.upto deskOutboxMatchesSpecSpec)) deskOutboxMatchesSpecUptoCard

/-- THE SECOND FORM's CARD OF 'interchangelaw12.DeskGivesUpLast'. -/
def deskGivesUpLastUptoCard : Claim7 := { stood := { row := deskGivesUpLastUptoRow, standIns := [], harness := (true, "68661dd8e44d770278cb12dfcc3ad3f8562de2fd833c30737f35d84f0157ae48"), looks := false }, kinds := [], alts := [], laidByText := true, laidKinds := [.data, .pinned], laidTests := true, laidLooks := .later }
def DeskGivesUpLastUptoCardSaid : Prop := Claim7.holds Tryd.pinned (.plain (OpenSpec.upto deskGivesUpLastSpec)) deskGivesUpLastUptoCard

/-- THE SECOND FORM's CARD OF 'interchangelaw12.DeskPendingMatchesSpec'. -/
def deskPendingMatchesSpecUptoCard : Claim7 := { stood := { row := deskPendingMatchesSpecUptoRow, standIns := [], harness := (true, "68661dd8e44d770278cb12dfcc3ad3f8562de2fd833c30737f35d84f0157ae48"), looks := false }, kinds := [], alts := [], laidByText := true, laidKinds := [.data, .pinned], laidTests := true, laidLooks := .later }
def DeskPendingMatchesSpecUptoCardSaid : Prop := Claim7.holds Tryd.pinned (.plain (OpenSpec.upto deskPendingMatchesSpecSpec)) deskPendingMatchesSpecUptoCard

/-- THE SECOND FORM's CARD OF 'interchangelaw12.DeskQueuesStayInOrder'. -/
def deskQueuesStayInOrderUptoCard : Claim7 := { stood := { row := deskQueuesStayInOrderUptoRow, standIns := [], harness := (true, "68661dd8e44d770278cb12dfcc3ad3f8562de2fd833c30737f35d84f0157ae48"), looks := false }, kinds := [], alts := [], laidByText := true, laidKinds := [.data, .pinned], laidTests := true, laidLooks := .later }
def DeskQueuesStayInOrderUptoCardSaid : Prop := Claim7.holds Tryd.pinned (.plain (OpenSpec.upto deskQueuesStayInOrderSpec)) deskQueuesStayInOrderUptoCard
end Rows
end Go.Proofs.YtjdeikkojjdjdaaDoor
