/-
  My text.
-/
import Derived.Test.YtgocgdgknpdknaaGreatDoorSXEngR
import Derived.Shelf.Vars
namespace Go.Proofs.YtgocgdgknpdknaaGreatDoor
set_option linter.unusedSimpArgs false
set_option linter.unusedVariables false
open Go.RowKit
