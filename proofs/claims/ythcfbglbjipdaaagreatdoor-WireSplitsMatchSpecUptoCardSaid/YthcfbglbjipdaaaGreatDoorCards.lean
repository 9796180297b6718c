/-
  DERIVED. GIVEN WITH THE SEED: THE CARDS: each row of YthcfbglbjipdaaaGreatDoorRows.lean that lists a variable, with what it lists TIED to the program's text (the seventh form; the later family's looks); each row that meets fmt, with fmt's text TOLD by the authors' own Lean function (tested against real Go, not proved from fmt's source: count such statements apart). THE CARD IS WHAT COUNTS. Prove the row's statement (the work); the ties are given (YthcfbglbjipdaaaGreatDoorTie.lean); close each card by the builder's one call (the guide's Derived/Test/ToyasCard.lean, 'card_holds'). Laid BY PROGRAM, IN A SANDBOX (cutbox-door.mjs). By AI agents, Wed Nov 11 2026. No macro, syntax, notation, axiom, sorry.
-/
import Derived.Test.YthcfbglbjipdaaaGreatDoorRows
import GoSem.ClaimSeven
namespace Go.Proofs.YthcfbglbjipdaaaGreatDoor
namespace Rows

/-- THE TIED CARD OF 'interchangelaw2.WireSplitsMatchSpec'. -/
def wireSplitsMatchSpecCard : Claim7 := { stood := { row := wireSplitsMatchSpecRow, standIns := [], harness := (true, "0150edec4d47433b48a22fffa1bf3cae0d39030cf5e17fd59cb4d82c58e05dae"), looks := false }, kinds := [], alts := [], laidByText := true, laidKinds := [.data, .data, .data, .data, .pinned], laidTests := true, laidLooks := .later }
def WireSplitsMatchSpecCardSaid : Prop := Claim7.holds Tryz.pinned (.plain (OpenSpec.ofChange wireSplitsMatchSpecSpec)) wireSplitsMatchSpecCard

/-- THE SECOND FORM's CARD OF 'interchangelaw2.WireSplitsMatchSpec'. -/
def wireSplitsMatchSpecUptoCard : Claim7 := { stood := { row := wireSplitsMatchSpecUptoRow, standIns := [], harness := (true, "0150edec4d47433b48a22fffa1bf3cae0d39030cf5e17fd59cb4d82c58e05dae"), looks := false }, kinds := [], alts := [], laidByText := true, laidKinds := [.data, .data, .data, .data, .pinned], laidTests := true, laidLooks := .later }
def WireSplitsMatchSpecUptoCardSaid : Prop := Claim7.holds Tryz.pinned (.plain (OpenSpec.upto wireSplitsMatchSpecSpec)) wireSplitsMatchSpecUptoCard
end Rows
end Go.Proofs.YthcfbglbjipdaaaGreatDoor
