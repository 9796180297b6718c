/-
  The engine, part Zz: slices that are frozen ahead of a statement, found by a slot that holds them.
-/
import Derived.Test.YtdkncdkdbddgoaaGreatDoorSCEngWk
namespace Go.Proofs.YtdkncdkdbddgoaaGreatDoor
set_option linter.unusedSimpArgs false
set_option linter.unusedVariables false
open Go.RowKit

end Go.Proofs.YtdkncdkdbddgoaaGreatDoor
