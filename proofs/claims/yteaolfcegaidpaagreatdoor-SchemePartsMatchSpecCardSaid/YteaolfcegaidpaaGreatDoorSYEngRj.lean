/-
  My text.
-/
import Derived.Test.YteaolfcegaidpaaGreatDoorSYEngRi
namespace Go.Proofs.YteaolfcegaidpaaGreatDoor
set_option linter.unusedSimpArgs false
set_option linter.unusedVariables false
open Go.RowKit
variable {P:Program} {x0:SC} {Q:AX->St->Prop} {α β:Type} {row:α->List DV} {row':β->List DV} {s:Nat->SV} {h:Nat->Ch} {ms ms':List cB} {l:List α}
