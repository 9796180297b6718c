/-
  My text.
-/
import Derived.Test.YteaolfcegaidpaaGreatDoorSZEngRl
namespace Go.Proofs.YteaolfcegaidpaaGreatDoor
set_option linter.unusedSimpArgs false
set_option linter.unusedVariables false
open Go.RowKit
