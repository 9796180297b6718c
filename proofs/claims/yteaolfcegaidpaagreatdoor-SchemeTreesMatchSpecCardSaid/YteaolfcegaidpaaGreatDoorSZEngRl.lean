/-
  My text.
-/
import Derived.Test.YteaolfcegaidpaaGreatDoorSZEngRk
namespace Go.Proofs.YteaolfcegaidpaaGreatDoor
set_option linter.unusedSimpArgs false
set_option linter.unusedVariables false
open Go.RowKit
section
variable {P:Program} {s:Nat->SV} {h:Nat->Ch} {K:St->Prop} {sos:List SO}
theorem HU {α:Type} {H:α->List DV} (o:Option α):SV.cells? (.d (RA H o))=some [.d (RA H o)]:=by cases o<;>rfl
attribute [push_cast] HU
end
