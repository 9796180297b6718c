/-
  My text.
-/
import Derived.Test.YteaolfcegaidpaaGreatDoorSZEngRi
namespace Go.Proofs.YteaolfcegaidpaaGreatDoor
set_option linter.unusedSimpArgs false
set_option linter.unusedVariables false
open Go.RowKit
variable {P:Program} {D:SC} {Q:AX->St->Prop} {α β:Type} {H:α->List DV} {B:β->List DV} {s:Nat->SV} {h:Nat->Ch} {ms ms':List cO} {l:List α}
