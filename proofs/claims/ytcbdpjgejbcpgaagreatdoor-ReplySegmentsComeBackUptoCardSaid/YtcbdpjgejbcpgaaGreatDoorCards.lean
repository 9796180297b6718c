/-
  DERIVED. GIVEN WITH THE SEED: THE CARDS: each row of YtcbdpjgejbcpgaaGreatDoorRows.lean that lists a variable, with what it lists TIED to the program's text (the seventh form; the later family's looks); each row that meets fmt, with fmt's text TOLD by the authors' own Lean function (tested against real Go, not proved from fmt's source: count such statements apart). THE CARD IS WHAT COUNTS. Prove the row's statement (the work); the ties are given (YtcbdpjgejbcpgaaGreatDoorTie.lean); close each card by the builder's one call (the guide's Derived/Test/ToyasCard.lean, 'card_holds'). Laid BY PROGRAM, IN A SANDBOX (cutbox-door.mjs). By AI agents, Wed Nov 11 2026. No macro, syntax, notation, axiom, sorry.
-/
import Derived.Test.YtcbdpjgejbcpgaaGreatDoorRows
import GoSem.ClaimSeven
namespace Go.Proofs.YtcbdpjgejbcpgaaGreatDoor
namespace Rows

/-- THE TIED CARD OF 'interchangelaw7.ReplyReadsMatchSpec'. -/
def replyReadsMatchSpecCard : Claim7 := { stood := { row := replyReadsMatchSpecRow, standIns := [], harness := (true, "8b529b511894736515fd5f9049ad02b77de48825a84b690993a115f4c6bfb849"), looks := true }, kinds := [], alts := [], laidByText := true, laidKinds := [.data, .data, .data, .data, .sentinel, .sentinel, .pinned], laidTests := true, laidLooks := .later }
def ReplyReadsMatchSpecCardSaid : Prop := Claim7.holds Tryz.pinned (.plain (OpenSpec.ofChange replyReadsMatchSpecSpec)) replyReadsMatchSpecCard

/-- THE TIED CARD OF 'interchangelaw7.ReplySegmentsComeBack'. -/
def replySegmentsComeBackCard : Claim7 := { stood := { row := replySegmentsComeBackRow, standIns := [], harness := (true, "8b529b511894736515fd5f9049ad02b77de48825a84b690993a115f4c6bfb849"), looks := true }, kinds := [], alts := [], laidByText := true, laidKinds := [.data, .data, .data, .data, .sentinel, .sentinel, .pinned], laidTests := true, laidLooks := .later }
def ReplySegmentsComeBackCardSaid : Prop := Claim7.holds Tryz.pinned (.plain (OpenSpec.ofChange replySegmentsComeBackSpec)) replySegmentsComeBackCard

/-- THE SECOND FORM's CARD OF 'interchangelaw7.ReplyReadsMatchSpec'. -/
def replyReadsMatchSpecUptoCard : Claim7 := { stood := { row := replyReadsMatchSpecUptoRow, standIns := [], harness := (true, "8b529b511894736515fd5f9049ad02b77de48825a84b690993a115f4c6bfb849"), looks := true }, kinds := [], alts := [], laidByText := true, laidKinds := [.data, .data, .data, .data, .sentinel, .sentinel, .pinned], laidTests := true, laidLooks := .later }
def ReplyReadsMatchSpecUptoCardSaid : Prop := Claim7.holds Tryz.pinned (.plain (OpenSpec.upto replyReadsMatchSpecSpec)) replyReadsMatchSpecUptoCard

/-- THE SECOND FORM's CARD OF 'interchangelaw7.ReplySegmentsComeBack'. -/
def replySegmentsComeBackUptoCard : Claim7 := { stood := { row := replySegmentsComeBackUptoRow, standIns := [], harness := (true, "8b529b511894736515fd5f9049ad02b77de48825a84b690993a115f4c6bfb849"), looks := true }, kinds := [], alts := [], laidByText := true, laidKinds := [.data, .data, .data, .data, .sentinel, .sentinel, .pinned], laidTests := true, laidLooks := .later }
def ReplySegmentsComeBackUptoCardSaid : Prop := Claim7.holds Tryz.pinned (.plain (OpenSpec.upto replySegmentsComeBackSpec)) replySegmentsComeBackUptoCard
end Rows
end Go.Proofs.YtcbdpjgejbcpgaaGreatDoor
