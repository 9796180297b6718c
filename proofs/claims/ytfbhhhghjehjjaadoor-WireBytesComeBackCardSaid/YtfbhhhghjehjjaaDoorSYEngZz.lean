/-
  The engine, part Zz: slices that are frozen ahead of a statement, found by a slot that holds them.
-/
import Derived.Test.YtfbhhhghjehjjaaDoorSYEngWk
namespace Go.Proofs.YtfbhhhghjehjjaaDoor
set_option linter.unusedSimpArgs false
set_option linter.unusedVariables false
open Go.RowKit

end Go.Proofs.YtfbhhhghjehjjaaDoor
