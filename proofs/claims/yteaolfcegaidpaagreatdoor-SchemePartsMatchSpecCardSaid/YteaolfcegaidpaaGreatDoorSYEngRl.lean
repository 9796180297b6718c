/-
  My text.
-/
import Derived.Test.YteaolfcegaidpaaGreatDoorSYEngRk
namespace Go.Proofs.YteaolfcegaidpaaGreatDoor
set_option linter.unusedSimpArgs false
set_option linter.unusedVariables false
open Go.RowKit
section
variable {P:Program} {s:Nat->SV} {h:Nat->Ch} {K:St->Prop} {sos:List SO}
theorem E_ {α:Type} {row:α->List DV} (o:Option α):SV.cells? (.d (NG row o))=some [.d (NG row o)]:=by cases o<;>rfl
attribute [push_cast] E_
end
