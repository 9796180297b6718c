/-
  DERIVED. GIVEN WITH THE SEED: THE CARDS: each row of YthailknfgcegoaaDoorRows.lean that lists a variable, with what it lists TIED to the program's text (the seventh form; the later family's looks); each row that meets fmt, with fmt's text TOLD by the authors' own Lean function (tested against real Go, not proved from fmt's source: count such statements apart). THE CARD IS WHAT COUNTS. Prove the row's statement (the work); the ties are given (YthailknfgcegoaaDoorTie.lean); close each card by the builder's one call (the guide's Derived/Test/ToyasCard.lean, 'card_holds'). Laid BY PROGRAM, IN A SANDBOX (cutbox-door.mjs). By AI agents, Wed Nov 11 2026. No macro, syntax, notation, axiom, sorry.
-/
import Derived.Test.YthailknfgcegoaaDoorRows
import GoSem.ClaimSeven
namespace Go.Proofs.YthailknfgcegoaaDoor
namespace Rows

/-- THE TIED CARD OF 'interchangelaw2.WireShortsMatchSpec'. -/
def wireShortsMatchSpecCard : Claim7 := { stood := { row := wireShortsMatchSpecRow, standIns := [], harness := (true, "1f593a690abb7d03e2a301eeeaa3bdfee29aa8d69eb5f46f5cdbb4e62b9b7c01"), looks := false }, kinds := [], alts := [], laidByText := true, laidKinds := [.data, .pinned], laidTests := true, laidLooks := .later }
def WireShortsMatchSpecCardSaid : Prop := Claim7.holds Tryd.pinned (.plain (OpenSpec.ofChange wireShortsMatchSpecSpec)) wireShortsMatchSpecCard

/-- THE TIED CARD OF 'interchangelaw2.WireTextsMatchSpec'. -/
def wireTextsMatchSpecCard : Claim7 := { stood := { row := wireTextsMatchSpecRow, standIns := [], harness := (true, "1f593a690abb7d03e2a301eeeaa3bdfee29aa8d69eb5f46f5cdbb4e62b9b7c01"), looks := false }, kinds := [], alts := [], laidByText := true, laidKinds := [.data, .pinned], laidTests := true, laidLooks := .later }
def WireTextsMatchSpecCardSaid : Prop := Claim7.holds Tryd.pinned (.plain (OpenSpec.ofChange wireTextsMatchSpecSpec)) wireTextsMatchSpecCard

/-- THE TIED CARD OF 'interchangelaw2.WirePutsAreFound'. -/
def wirePutsAreFoundCard : Claim7 := { stood := { row := wirePutsAreFoundRow, standIns := [], harness := (true, "1f593a690abb7d03e2a301eeeaa3bdfee29aa8d69eb5f46f5cdbb4e62b9b7c01"), looks := false }, kinds := [], alts := [], laidByText := true, laidKinds := [.data, .pinned], laidTests := true, laidLooks := .later }
def WirePutsAreFoundCardSaid : Prop := Claim7.holds Tryd.pinned (.plain (OpenSpec.ofChange wirePutsAreFoundSpec)) wirePutsAreFoundCard

/-- THE TIED CARD OF 'interchangelaw2.WireShortsSayTheSame'. -/
def wireShortsSayTheSameCard : Claim7 := { stood := { row := wireShortsSayTheSameRow, standIns := [], harness := (true, "1f593a690abb7d03e2a301eeeaa3bdfee29aa8d69eb5f46f5cdbb4e62b9b7c01"), looks := false }, kinds := [], alts := [], laidByText := true, laidKinds := [.data, .pinned], laidTests := true, laidLooks := .later }
def WireShortsSayTheSameCardSaid : Prop := Claim7.holds Tryd.pinned (.plain (OpenSpec.ofChange wireShortsSayTheSameSpec)) wireShortsSayTheSameCard

/-- THE TIED CARD OF 'interchangelaw7.ReplyAnswersCount'. -/
def replyAnswersCountCard : Claim7 := { stood := { row := replyAnswersCountRow, standIns := [], harness := (true, "1f593a690abb7d03e2a301eeeaa3bdfee29aa8d69eb5f46f5cdbb4e62b9b7c01"), looks := false }, kinds := [], alts := [], laidByText := true, laidKinds := [.data, .pinned], laidTests := true, laidLooks := .later }
def ReplyAnswersCountCardSaid : Prop := Claim7.holds Tryd.pinned (.plain (OpenSpec.ofChange replyAnswersCountSpec)) replyAnswersCountCard

/-- THE TIED CARD OF 'interchangelaw7.ReplyAnswersMatchSpec'. -/
def replyAnswersMatchSpecCard : Claim7 := { stood := { row := replyAnswersMatchSpecRow, standIns := [], harness := (true, "1f593a690abb7d03e2a301eeeaa3bdfee29aa8d69eb5f46f5cdbb4e62b9b7c01"), looks := false }, kinds := [], alts := [], laidByText := true, laidKinds := [.data, .pinned], laidTests := true, laidLooks := .later }
def ReplyAnswersMatchSpecCardSaid : Prop := Claim7.holds Tryd.pinned (.plain (OpenSpec.ofChange replyAnswersMatchSpecSpec)) replyAnswersMatchSpecCard

/-- THE TIED CARD OF 'interchangelaw7.ReplyChecksMatchSpec'. -/
def replyChecksMatchSpecCard : Claim7 := { stood := { row := replyChecksMatchSpecRow, standIns := [], harness := (true, "1f593a690abb7d03e2a301eeeaa3bdfee29aa8d69eb5f46f5cdbb4e62b9b7c01"), looks := false }, kinds := [], alts := [], laidByText := true, laidKinds := [.data, .data, .data, .data, .pinned], laidTests := true, laidLooks := .later }
def ReplyChecksMatchSpecCardSaid : Prop := Claim7.holds Tryd.pinned (.plain (OpenSpec.ofChange replyChecksMatchSpecSpec)) replyChecksMatchSpecCard

/-- THE TIED CARD OF 'interchangelaw7.ReplyStatesMatchSpec'. -/
def replyStatesMatchSpecCard : Claim7 := { stood := { row := replyStatesMatchSpecRow, standIns := [], harness := (true, "1f593a690abb7d03e2a301eeeaa3bdfee29aa8d69eb5f46f5cdbb4e62b9b7c01"), looks := false }, kinds := [], alts := [], laidByText := true, laidKinds := [.data, .pinned], laidTests := true, laidLooks := .later }
def ReplyStatesMatchSpecCardSaid : Prop := Claim7.holds Tryd.pinned (.plain (OpenSpec.ofChange replyStatesMatchSpecSpec)) replyStatesMatchSpecCard

/-- THE TIED CARD OF 'interchangelaw7.ReplyLaterChangesNothing'. -/
def replyLaterChangesNothingCard : Claim7 := { stood := { row := replyLaterChangesNothingRow, standIns := [], harness := (true, "1f593a690abb7d03e2a301eeeaa3bdfee29aa8d69eb5f46f5cdbb4e62b9b7c01"), looks := false }, kinds := [], alts := [], laidByText := true, laidKinds := [.data, .pinned], laidTests := true, laidLooks := .later }
def ReplyLaterChangesNothingCardSaid : Prop := Claim7.holds Tryd.pinned (.plain (OpenSpec.ofChange replyLaterChangesNothingSpec)) replyLaterChangesNothingCard

/-- THE SECOND FORM's CARD OF 'interchangelaw2.WireShortsMatchSpec'. -/
def wireShortsMatchSpecUptoCard : Claim7 := { stood := { row := wireShortsMatchSpecUptoRow, standIns := [], harness := (true, "1f593a690abb7d03e2a301eeeaa3bdfee29aa8d69eb5f46f5cdbb4e62b9b7c01"), looks := false }, kinds := [], alts := [], laidByText := true, laidKinds := [.data, .pinned], laidTests := true, laidLooks := .later }
def WireShortsMatchSpecUptoCardSaid : Prop := Claim7.holds Tryd.pinned (.plain (OpenSpec.upto wireShortsMatchSpecSpec)) wireShortsMatchSpecUptoCard

/-- THE SECOND FORM's CARD OF 'interchangelaw2.WireTextsMatchSpec'. -/
def wireTextsMatchSpecUptoCard : Claim7 := { stood := { row := wireTextsMatchSpecUptoRow, standIns := [], harness := (true, "1f593a690abb7d03e2a301eeeaa3bdfee29aa8d69eb5f46f5cdbb4e62b9b7c01"), looks := false }, kinds := [], alts := [], laidByText := true, laidKinds := [.data, .pinned], laidTests := true, laidLooks := .later }
def WireTextsMatchSpecUptoCardSaid : Prop := Claim7.holds Tryd.pinned (.plain (OpenSpec.upto wireTextsMatchSpecSpec)) wireTextsMatchSpecUptoCard

/-- THE SECOND FORM's CARD OF 'interchangelaw2.WirePutsAreFound'. -/
def wirePutsAreFoundUptoCard : Claim7 := { stood := { row := wirePutsAreFoundUptoRow, standIns := [], harness := (true, "1f593a690abb7d03e2a301eeeaa3bdfee29aa8d69eb5f46f5cdbb4e62b9b7c01"), looks := false }, kinds := [], alts := [], laidByText := true, laidKinds := [.data, .pinned], laidTests := true, laidLooks := .later }
def WirePutsAreFoundUptoCardSaid : Prop := Claim7.holds Tryd.pinned (.plain (OpenSpec.upto wirePutsAreFoundSpec)) wirePutsAreFoundUptoCard

/-- THE SECOND FORM's CARD OF 'interchangelaw2.WireShortsSayTheSame'. -/
def wireShortsSayTheSameUptoCard : Claim7 := { stood := { row := wireShortsSayTheSameUptoRow, standIns := [], harness := (true, "1f593a690abb7d03e2a301eeeaa3bdfee29aa8d69eb5f46f5cdbb4e62b9b7c01"), looks := false }, kinds := [], alts := [], laidByText := true, laidKinds := [.data, .pinned], laidTests := true, laidLooks := .later }
def WireShortsSayTheSameUptoCardSaid : Prop := Claim7.holds Tryd.pinned (.plain (OpenSpec.upto wireShortsSayTheSameSpec)) wireShortsSayTheSameUptoCard

/-- THE SECOND FORM's CARD OF 'interchangelaw7.ReplyAnswersCount'. -/
def replyAnswersCountUptoCard : Claim7 := { stood := { row := replyAnswersCountUptoRow, standIns := [], harness := (true, "1f593a690abb7d03e2a301eeeaa3bdfee29aa8d69eb5f46f5cdbb4e62b9b7c01"), looks := false }, kinds := [], alts := [], laidByText := true, laidKinds := [.data, .pinned], laidTests := true, laidLooks := .later }
def ReplyAnswersCountUptoCardSaid : Prop := Claim7.holds Tryd.pinned (.plain (OpenSpec.upto replyAnswersCountSpec)) replyAnswersCountUptoCard

/-- THE SECOND FORM's CARD OF 'interchangelaw7.ReplyAnswersMatchSpec'. -/
def replyAnswersMatchSpecUptoCard : Claim7 := { stood := { row := replyAnswersMatchSpecUptoRow, standIns := [], harness := (true, "1f593a690abb7d03e2a301eeeaa3bdfee29aa8d69eb5f46f5cdbb4e62b9b7c01"), looks := false }, kinds := [], alts := [], laidByText := true, laidKinds := [.data, .pinned], laidTests := true, laidLooks := .later }
def ReplyAnswersMatchSpecUptoCardSaid : Prop := Claim7.holds Tryd.pinned (.plain (OpenSpec.upto replyAnswersMatchSpecSpec)) replyAnswersMatchSpecUptoCard

/-- THE SECOND FORM's CARD OF 'interchangelaw7.ReplyChecksMatchSpec'. -/
def replyChecksMatchSpecUptoCard : Claim7 := { stood := { row := replyChecksMatchSpecUptoRow, standIns := [], harness := (true, "1f593a690abb7d03e2a301eeeaa3bdfee29aa8d69eb5f46f5cdbb4e62b9b7c01"), looks := false }, kinds := [], alts := [], laidByText := true, laidKinds := [.data, .data, .data, .data, .pinned], laidTests := true, laidLooks := .later }
def ReplyChecksMatchSpecUptoCardSaid : Prop := Claim7.holds Tryd.pinned (.plain (OpenSpec.upto replyChecksMatchSpecSpec)) replyChecksMatchSpecUptoCard

/-- THE SECOND FORM's CARD OF 'interchangelaw7.ReplyStatesMatchSpec'. -/
def replyStatesMatchSpecUptoCard : Claim7 := { stood := { row := replyStatesMatchSpecUptoRow, standIns := [], harness := (true, "1f593a690abb7d03e2a301eeeaa3bdfee29aa8d69eb5f46f5cdbb4e62b9b7c01"), looks := false }, kinds := [], alts := [], laidByText := true, laidKinds := [.data, .pinned], laidTests := true, laidLooks := .later }
def ReplyStatesMatchSpecUptoCardSaid : Prop := Claim7.holds Tryd.pinned (.plain (OpenSpec.upto replyStatesMatchSpecSpec)) replyStatesMatchSpecUptoCard

/-- THE SECOND FORM's CARD OF 'interchangelaw7.ReplyLaterChangesNothing'. -/
def replyLaterChangesNothingUptoCard : Claim7 := { stood := { row := replyLaterChangesNothingUptoRow, standIns := [], harness := (true, "1f593a690abb7d03e2a301eeeaa3bdfee29aa8d69eb5f46f5cdbb4e62b9b7c01"), looks := false }, kinds := [], alts := [], laidByText := true, laidKinds := [.data, .pinned], laidTests := true, laidLooks := .later }
def ReplyLaterChangesNothingUptoCardSaid : Prop := Claim7.holds Tryd.pinned (.plain (OpenSpec.upto replyLaterChangesNothingSpec)) replyLaterChangesNothingUptoCard
end Rows
end Go.Proofs.YthailknfgcegoaaDoor
