/-
  My text.
-/
import Derived.Test.YteaolfcegaidpaaGreatDoorSZEngRm
namespace Go.Proofs.YteaolfcegaidpaaGreatDoor
set_option linter.unusedSimpArgs false
set_option linter.unusedVariables false
open Go.RowKit
