/-
  DERIVED. GIVEN WITH THE SEED: THE CARDS: each row of YtlmmfddbpagiaaaDoorRows.lean that lists a variable, with what it lists TIED to the program's text (the seventh form; the later family's looks); each row that meets fmt, with fmt's text TOLD by the authors' own Lean function (tested against real Go, not proved from fmt's source: count such statements apart). THE CARD IS WHAT COUNTS. Prove the row's statement (the work); the ties are given (YtlmmfddbpagiaaaDoorTie.lean); close each card by the builder's one call (the guide's Derived/Test/ToyasCard.lean, 'card_holds'). Laid BY PROGRAM, IN A SANDBOX (cutbox-door.mjs). By AI agents, Wed Nov 11 2026. No macro, syntax, notation, axiom, sorry.
-/
import Derived.Test.YtlmmfddbpagiaaaDoorRows
import GoSem.ClaimSeven
namespace Go.Proofs.YtlmmfddbpagiaaaDoor
namespace Rows

/-- THE TIED CARD OF 'interchangelaw7.ReplyStatesMatchSpec'. -/
def replyStatesMatchSpecCard : Claim7 := { stood := { row := replyStatesMatchSpecRow, standIns := [], harness := (true, "46704d535e30bacc9587eb9fa8a88a57e5d358764732a04437e13f1c69d6a974"), looks := false }, kinds := [], alts := [], laidByText := true, laidKinds := [.data, .pinned], laidTests := true, laidLooks := .later }
def ReplyStatesMatchSpecCardSaid : Prop := Claim7.holds Tryd.pinned (.plain (OpenSpec.ofChange replyStatesMatchSpecSpec)) replyStatesMatchSpecCard

/-- THE TIED CARD OF 'interchangelaw7.ReplyLaterChangesNothing'. -/
def replyLaterChangesNothingCard : Claim7 := { stood := { row := replyLaterChangesNothingRow, standIns := [], harness := (true, "46704d535e30bacc9587eb9fa8a88a57e5d358764732a04437e13f1c69d6a974"), looks := false }, kinds := [], alts := [], laidByText := true, laidKinds := [.data, .pinned], laidTests := true, laidLooks := .later }
def ReplyLaterChangesNothingCardSaid : Prop := Claim7.holds Tryd.pinned (.plain (OpenSpec.ofChange replyLaterChangesNothingSpec)) replyLaterChangesNothingCard

/-- THE TIED CARD OF 'interchangelaw12.DeskHeadsStay'. -/
def deskHeadsStayCard : Claim7 := { stood := { row := deskHeadsStayRow, standIns := [], harness := (true, "46704d535e30bacc9587eb9fa8a88a57e5d358764732a04437e13f1c69d6a974"), looks := false }, kinds := [], alts := [], laidByText := true, laidKinds := [.data, .data, .data, .data, .pinned], laidTests := true, laidLooks := .later }
def DeskHeadsStayCardSaid : Prop := Claim7.holds Tryd.pinned (.plain (OpenSpec.ofChange deskHeadsStaySpec)) deskHeadsStayCard

/-- THE TIED CARD OF 'interchangelaw2.WireCutsMatchSpec'. -/
def wireCutsMatchSpecCard : Claim7 := { stood := { row := wireCutsMatchSpecRow, standIns := [], harness := (true, "46704d535e30bacc9587eb9fa8a88a57e5d358764732a04437e13f1c69d6a974"), looks := false }, kinds := [], alts := [], laidByText := true, laidKinds := [.data, .pinned], laidTests := true, laidLooks := .later }
def WireCutsMatchSpecCardSaid : Prop := Claim7.holds Tryd.pinned (.plain (OpenSpec.ofChange wireCutsMatchSpecSpec)) wireCutsMatchSpecCard

/-- THE TIED CARD OF 'interchangelaw2.WireBytesComeBack'. -/
def wireBytesComeBackCard : Claim7 := { stood := { row := wireBytesComeBackRow, standIns := [], harness := (true, "46704d535e30bacc9587eb9fa8a88a57e5d358764732a04437e13f1c69d6a974"), looks := false }, kinds := [], alts := [], laidByText := true, laidKinds := [.data, .pinned], laidTests := true, laidLooks := .later }
def WireBytesComeBackCardSaid : Prop := Claim7.holds Tryd.pinned (.plain (OpenSpec.ofChange wireBytesComeBackSpec)) wireBytesComeBackCard

/-- THE SECOND FORM's CARD OF 'interchangelaw7.ReplyStatesMatchSpec'. -/
def replyStatesMatchSpecUptoCard : Claim7 := { stood := { row := replyStatesMatchSpecUptoRow, standIns := [], harness := (true, "46704d535e30bacc9587eb9fa8a88a57e5d358764732a04437e13f1c69d6a974"), looks := false }, kinds := [], alts := [], laidByText := true, laidKinds := [.data, .pinned], laidTests := true, laidLooks := .later }
def ReplyStatesMatchSpecUptoCardSaid : Prop := Claim7.holds Tryd.pinned (.plain (OpenSpec.upto replyStatesMatchSpecSpec)) replyStatesMatchSpecUptoCard

/-- THE SECOND FORM's CARD OF 'interchangelaw7.ReplyLaterChangesNothing'. -/
def replyLaterChangesNothingUptoCard : Claim7 := { stood := { row := replyLaterChangesNothingUptoRow, standIns := [], harness := (true, "46704d535e30bacc9587eb9fa8a88a57e5d358764732a04437e13f1c69d6a974"), looks := false }, kinds := [], alts := [], laidByText := true, laidKinds := [.data, .pinned], laidTests := true, laidLooks := .later }
def ReplyLaterChangesNothingUptoCardSaid : Prop := Claim7.holds Tryd.pinned (.plain (OpenSpec.upto replyLaterChangesNothingSpec)) replyLaterChangesNothingUptoCard

/-- THE SECOND FORM's CARD OF 'interchangelaw12.DeskHeadsStay'. -/
def deskHeadsStayUptoCard : Claim7 := { stood := { row := deskHeadsStayUptoRow, standIns := [], harness := (true, "46704d535e30bacc9587eb9fa8a88a57e5d358764732a04437e13f1c69d6a974"), looks := false }, kinds := [], alts := [], laidByText := true, laidKinds := [.data, .data, .data, .data, .pinned], laidTests := true, laidLooks := .later }
def DeskHeadsStayUptoCardSaid : Prop := Claim7.holds Tryd.pinned (.plain (OpenSpec.upto deskHeadsStaySpec)) deskHeadsStayUptoCard

/-- THE SECOND FORM's CARD OF 'interchangelaw2.WireCutsMatchSpec'. -/
def wireCutsMatchSpecUptoCard : Claim7 := { stood := { row := wireCutsMatchSpecUptoRow, standIns := [], harness := (true, "46704d535e30bacc9587eb9fa8a88a57e5d358764732a04437e13f1c69d6a974"), looks := false }, kinds := [], alts := [], laidByText := true, laidKinds := [.data, .pinned], laidTests := true, laidLooks := .later }
def WireCutsMatchSpecUptoCardSaid : Prop := Claim7.holds Tryd.pinned (.plain (OpenSpec.upto wireCutsMatchSpecSpec)) wireCutsMatchSpecUptoCard

/-- THE SECOND FORM's CARD OF 'interchangelaw2.WireBytesComeBack'. -/
def wireBytesComeBackUptoCard : Claim7 := { stood := { row := wireBytesComeBackUptoRow, standIns := [], harness := (true, "46704d535e30bacc9587eb9fa8a88a57e5d358764732a04437e13f1c69d6a974"), looks := false }, kinds := [], alts := [], laidByText := true, laidKinds := [.data, .pinned], laidTests := true, laidLooks := .later }
def WireBytesComeBackUptoCardSaid : Prop := Claim7.holds Tryd.pinned (.plain (OpenSpec.upto wireBytesComeBackSpec)) wireBytesComeBackUptoCard
end Rows
end Go.Proofs.YtlmmfddbpagiaaaDoor
