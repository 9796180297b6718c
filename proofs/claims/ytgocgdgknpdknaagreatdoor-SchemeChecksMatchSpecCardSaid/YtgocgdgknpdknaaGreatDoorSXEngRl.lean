/-
  My text.
-/
import Derived.Test.YtgocgdgknpdknaaGreatDoorSXEngRk
namespace Go.Proofs.YtgocgdgknpdknaaGreatDoor
set_option linter.unusedSimpArgs false
set_option linter.unusedVariables false
open Go.RowKit
section
variable {P:Program} {s:Nat->SV} {h:Nat->Ch} {K:St->Prop} {sos:List SO}
theorem Ba {α:Type} {row:α->List DV} (o:Option α):SV.cells? (.d (IY row o))=some [.d (IY row o)]:=by cases o<;>rfl
attribute [push_cast] Ba
end
