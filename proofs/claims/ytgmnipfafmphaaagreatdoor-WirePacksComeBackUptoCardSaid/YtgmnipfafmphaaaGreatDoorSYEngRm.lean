/-
  My text.
-/
import Derived.Test.YtgmnipfafmphaaaGreatDoorSYEngRl
namespace Go.Proofs.YtgmnipfafmphaaaGreatDoor
set_option linter.unusedSimpArgs false
set_option linter.unusedVariables false
open Go.RowKit
end Go.Proofs.YtgmnipfafmphaaaGreatDoor

