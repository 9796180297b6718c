/-
  My text.
-/
import Derived.Test.YteaolfcegaidpaaGreatDoorSYEngRm
namespace Go.Proofs.YteaolfcegaidpaaGreatDoor
set_option linter.unusedSimpArgs false
set_option linter.unusedVariables false
open Go.RowKit
section
variable {P:Program} {x0:SC} {Q:AX->St->Prop} {s:Nat->SV} {h:Nat->Ch} {K:St->Prop} {sos:List SO} {α β:Type} {row:α->List DV} {row':β->List DV} {ms ms':List cB} {l:List α} {l':List β}
end
