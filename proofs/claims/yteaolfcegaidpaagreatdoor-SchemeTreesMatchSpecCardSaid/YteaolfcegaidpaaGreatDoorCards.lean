/-
  DERIVED. GIVEN WITH THE SEED: THE CARDS: each row of YteaolfcegaidpaaGreatDoorRows.lean that lists a variable, with what it lists TIED to the program's text (the seventh form; the later family's looks); each row that meets fmt, with fmt's text TOLD by the authors' own Lean function (tested against real Go, not proved from fmt's source: count such statements apart). THE CARD IS WHAT COUNTS. Prove the row's statement (the work); the ties are given (YteaolfcegaidpaaGreatDoorTie.lean); close each card by the builder's one call (the guide's Derived/Test/ToyasCard.lean, 'card_holds'). Laid BY PROGRAM, IN A SANDBOX (cutbox-door.mjs). By AI agents, Wed Nov 11 2026. No macro, syntax, notation, axiom, sorry.
-/
import Derived.Test.YteaolfcegaidpaaGreatDoorRows
import GoSem.ClaimSeven
namespace Go.Proofs.YteaolfcegaidpaaGreatDoor
namespace Rows

/-- THE TIED CARD OF 'interchangelaw3.SchemePartsMatchSpec'. -/
def schemePartsMatchSpecCard : Claim7 := { stood := { row := schemePartsMatchSpecRow, standIns := [], harness := (true, "ab743526d9909392dc053e5da1acdea70f6455fe7f01d6bd340a9eaecd7d132b"), looks := true }, kinds := [], alts := [], laidByText := true, laidKinds := [.data, .data, .data, .data, .sentinel, .sentinel, .pinned], laidTests := true, laidLooks := .later }
def SchemePartsMatchSpecCardSaid : Prop := Claim7.holds Tryz.pinned (.plain (OpenSpec.ofChange schemePartsMatchSpecSpec)) schemePartsMatchSpecCard

/-- THE TIED CARD OF 'interchangelaw3.SchemeNarrowersMatchSpec'. -/
def schemeNarrowersMatchSpecCard : Claim7 := { stood := { row := schemeNarrowersMatchSpecRow, standIns := [], harness := (true, "ab743526d9909392dc053e5da1acdea70f6455fe7f01d6bd340a9eaecd7d132b"), looks := true }, kinds := [], alts := [], laidByText := true, laidKinds := [.data, .data, .data, .data, .sentinel, .sentinel, .pinned], laidTests := true, laidLooks := .later }
def SchemeNarrowersMatchSpecCardSaid : Prop := Claim7.holds Tryz.pinned (.plain (OpenSpec.ofChange schemeNarrowersMatchSpecSpec)) schemeNarrowersMatchSpecCard

/-- THE TIED CARD OF 'interchangelaw3.SchemeTreesMatchSpec'. -/
def schemeTreesMatchSpecCard : Claim7 := { stood := { row := schemeTreesMatchSpecRow, standIns := [], harness := (true, "ab743526d9909392dc053e5da1acdea70f6455fe7f01d6bd340a9eaecd7d132b"), looks := true }, kinds := [], alts := [], laidByText := true, laidKinds := [.data, .data, .data, .data, .sentinel, .sentinel, .pinned], laidTests := true, laidLooks := .later }
def SchemeTreesMatchSpecCardSaid : Prop := Claim7.holds Tryz.pinned (.plain (OpenSpec.ofChange schemeTreesMatchSpecSpec)) schemeTreesMatchSpecCard

/-- THE TIED CARD OF 'interchangelaw3.SchemeParsesMatchSpec'. -/
def schemeParsesMatchSpecCard : Claim7 := { stood := { row := schemeParsesMatchSpecRow, standIns := [], harness := (true, "ab743526d9909392dc053e5da1acdea70f6455fe7f01d6bd340a9eaecd7d132b"), looks := true }, kinds := [], alts := [], laidByText := true, laidKinds := [.data, .data, .data, .data, .sentinel, .sentinel, .pinned], laidTests := true, laidLooks := .later }
def SchemeParsesMatchSpecCardSaid : Prop := Claim7.holds Tryz.pinned (.plain (OpenSpec.ofChange schemeParsesMatchSpecSpec)) schemeParsesMatchSpecCard

/-- THE SECOND FORM's CARD OF 'interchangelaw3.SchemePartsMatchSpec'. -/
def schemePartsMatchSpecUptoCard : Claim7 := { stood := { row := schemePartsMatchSpecUptoRow, standIns := [], harness := (true, "ab743526d9909392dc053e5da1acdea70f6455fe7f01d6bd340a9eaecd7d132b"), looks := true }, kinds := [], alts := [], laidByText := true, laidKinds := [.data, .data, .data, .data, .sentinel, .sentinel, .pinned], laidTests := true, laidLooks := .later }
def SchemePartsMatchSpecUptoCardSaid : Prop := Claim7.holds Tryz.pinned (.plain (OpenSpec.upto schemePartsMatchSpecSpec)) schemePartsMatchSpecUptoCard

/-- THE SECOND FORM's CARD OF 'interchangelaw3.SchemeNarrowersMatchSpec'. -/
def schemeNarrowersMatchSpecUptoCard : Claim7 := { stood := { row := schemeNarrowersMatchSpecUptoRow, standIns := [], harness := (true, "ab743526d9909392dc053e5da1acdea70f6455fe7f01d6bd340a9eaecd7d132b"), looks := true }, kinds := [], alts := [], laidByText := true, laidKinds := [.data, .data, .data, .data, .sentinel, .sentinel, .pinned], laidTests := true, laidLooks := .later }
def SchemeNarrowersMatchSpecUptoCardSaid : Prop := Claim7.holds Tryz.pinned (.plain (OpenSpec.upto schemeNarrowersMatchSpecSpec)) schemeNarrowersMatchSpecUptoCard

/-- THE SECOND FORM's CARD OF 'interchangelaw3.SchemeTreesMatchSpec'. -/
def schemeTreesMatchSpecUptoCard : Claim7 := { stood := { row := schemeTreesMatchSpecUptoRow, standIns := [], harness := (true, "ab743526d9909392dc053e5da1acdea70f6455fe7f01d6bd340a9eaecd7d132b"), looks := true }, kinds := [], alts := [], laidByText := true, laidKinds := [.data, .data, .data, .data, .sentinel, .sentinel, .pinned], laidTests := true, laidLooks := .later }
def SchemeTreesMatchSpecUptoCardSaid : Prop := Claim7.holds Tryz.pinned (.plain (OpenSpec.upto schemeTreesMatchSpecSpec)) schemeTreesMatchSpecUptoCard

/-- THE SECOND FORM's CARD OF 'interchangelaw3.SchemeParsesMatchSpec'. -/
def schemeParsesMatchSpecUptoCard : Claim7 := { stood := { row := schemeParsesMatchSpecUptoRow, standIns := [], harness := (true, "ab743526d9909392dc053e5da1acdea70f6455fe7f01d6bd340a9eaecd7d132b"), looks := true }, kinds := [], alts := [], laidByText := true, laidKinds := [.data, .data, .data, .data, .sentinel, .sentinel, .pinned], laidTests := true, laidLooks := .later }
def SchemeParsesMatchSpecUptoCardSaid : Prop := Claim7.holds Tryz.pinned (.plain (OpenSpec.upto schemeParsesMatchSpecSpec)) schemeParsesMatchSpecUptoCard
end Rows
end Go.Proofs.YteaolfcegaidpaaGreatDoor
