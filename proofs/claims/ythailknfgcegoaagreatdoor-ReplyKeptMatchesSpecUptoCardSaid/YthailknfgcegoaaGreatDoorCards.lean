/-
  DERIVED. GIVEN WITH THE SEED: THE CARDS: each row of YthailknfgcegoaaGreatDoorRows.lean that lists a variable, with what it lists TIED to the program's text (the seventh form; the later family's looks); each row that meets fmt, with fmt's text TOLD by the authors' own Lean function (tested against real Go, not proved from fmt's source: count such statements apart). THE CARD IS WHAT COUNTS. Prove the row's statement (the work); the ties are given (YthailknfgcegoaaGreatDoorTie.lean); close each card by the builder's one call (the guide's Derived/Test/ToyasCard.lean, 'card_holds'). Laid BY PROGRAM, IN A SANDBOX (cutbox-door.mjs). By AI agents, Wed Nov 11 2026. No macro, syntax, notation, axiom, sorry.
-/
import Derived.Test.YthailknfgcegoaaGreatDoorRows
import GoSem.ClaimSeven
namespace Go.Proofs.YthailknfgcegoaaGreatDoor
namespace Rows

/-- THE TIED CARD OF 'interchangelaw7.ReplyKeptMatchesSpec'. -/
def replyKeptMatchesSpecCard : Claim7 := { stood := { row := replyKeptMatchesSpecRow, standIns := [], harness := (true, "c4e879a1ee74ae8630c5334eb14dbcc23bb9272e66e0b2f909f97578b9bd6103"), looks := false }, kinds := [], alts := [], laidByText := true, laidKinds := [.data, .pinned], laidTests := true, laidLooks := .later }
def ReplyKeptMatchesSpecCardSaid : Prop := Claim7.holds Tryz.pinned (.plain (OpenSpec.ofChange replyKeptMatchesSpecSpec)) replyKeptMatchesSpecCard

/-- THE TIED CARD OF 'interchangelaw2.WireInterchangesMatchSpec'. -/
def wireInterchangesMatchSpecCard : Claim7 := { stood := { row := wireInterchangesMatchSpecRow, standIns := [], harness := (true, "c4e879a1ee74ae8630c5334eb14dbcc23bb9272e66e0b2f909f97578b9bd6103"), looks := false }, kinds := [], alts := [], laidByText := true, laidKinds := [.data, .data, .data, .data, .pinned], laidTests := true, laidLooks := .later }
def WireInterchangesMatchSpecCardSaid : Prop := Claim7.holds Tryz.pinned (.plain (OpenSpec.ofChange wireInterchangesMatchSpecSpec)) wireInterchangesMatchSpecCard

/-- THE TIED CARD OF 'interchangelaw2.WireSplitsMatchSpec'. -/
def wireSplitsMatchSpecCard : Claim7 := { stood := { row := wireSplitsMatchSpecRow, standIns := [], harness := (true, "c4e879a1ee74ae8630c5334eb14dbcc23bb9272e66e0b2f909f97578b9bd6103"), looks := false }, kinds := [], alts := [], laidByText := true, laidKinds := [.data, .data, .data, .data, .pinned], laidTests := true, laidLooks := .later }
def WireSplitsMatchSpecCardSaid : Prop := Claim7.holds Tryz.pinned (.plain (OpenSpec.ofChange wireSplitsMatchSpecSpec)) wireSplitsMatchSpecCard

/-- THE SECOND FORM's CARD OF 'interchangelaw7.ReplyKeptMatchesSpec'. -/
def replyKeptMatchesSpecUptoCard : Claim7 := { stood := { row := replyKeptMatchesSpecUptoRow, standIns := [], harness := (true, "c4e879a1ee74ae8630c5334eb14dbcc23bb9272e66e0b2f909f97578b9bd6103"), looks := false }, kinds := [], alts := [], laidByText := true, laidKinds := [.data, .pinned], laidTests := true, laidLooks := .later }
def ReplyKeptMatchesSpecUptoCardSaid : Prop := Claim7.holds Tryz.pinned (.plain (OpenSpec.upto replyKeptMatchesSpecSpec)) replyKeptMatchesSpecUptoCard

/-- THE SECOND FORM's CARD OF 'interchangelaw2.WireInterchangesMatchSpec'. -/
def wireInterchangesMatchSpecUptoCard : Claim7 := { stood := { row := wireInterchangesMatchSpecUptoRow, standIns := [], harness := (true, "c4e879a1ee74ae8630c5334eb14dbcc23bb9272e66e0b2f909f97578b9bd6103"), looks := false }, kinds := [], alts := [], laidByText := true, laidKinds := [.data, .data, .data, .data, .pinned], laidTests := true, laidLooks := .later }
def WireInterchangesMatchSpecUptoCardSaid : Prop := Claim7.holds Tryz.pinned (.plain (OpenSpec.upto wireInterchangesMatchSpecSpec)) wireInterchangesMatchSpecUptoCard

/-- THE SECOND FORM's CARD OF 'interchangelaw2.WireSplitsMatchSpec'. -/
def wireSplitsMatchSpecUptoCard : Claim7 := { stood := { row := wireSplitsMatchSpecUptoRow, standIns := [], harness := (true, "c4e879a1ee74ae8630c5334eb14dbcc23bb9272e66e0b2f909f97578b9bd6103"), looks := false }, kinds := [], alts := [], laidByText := true, laidKinds := [.data, .data, .data, .data, .pinned], laidTests := true, laidLooks := .later }
def WireSplitsMatchSpecUptoCardSaid : Prop := Claim7.holds Tryz.pinned (.plain (OpenSpec.upto wireSplitsMatchSpecSpec)) wireSplitsMatchSpecUptoCard
end Rows
end Go.Proofs.YthailknfgcegoaaGreatDoor
