/-
  My text.
-/
import Derived.Test.YteaolfcegaidpaaGreatDoorSZEngR
import Derived.Shelf.Vars
namespace Go.Proofs.YteaolfcegaidpaaGreatDoor
set_option linter.unusedSimpArgs false
set_option linter.unusedVariables false
open Go.RowKit
