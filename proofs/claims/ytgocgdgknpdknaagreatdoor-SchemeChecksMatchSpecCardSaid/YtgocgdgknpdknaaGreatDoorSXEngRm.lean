/-
  My text.
-/
import Derived.Test.YtgocgdgknpdknaaGreatDoorSXEngRl
namespace Go.Proofs.YtgocgdgknpdknaaGreatDoor
set_option linter.unusedSimpArgs false
set_option linter.unusedVariables false
open Go.RowKit
