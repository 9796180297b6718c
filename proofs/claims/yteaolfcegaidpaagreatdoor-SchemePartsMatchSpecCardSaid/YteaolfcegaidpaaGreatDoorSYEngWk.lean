/-
  My text.
-/
import Derived.Test.YteaolfcegaidpaaGreatDoorSYEngW
namespace Go.Proofs.YteaolfcegaidpaaGreatDoor
set_option linter.unusedSimpArgs false
set_option linter.unusedVariables false
open Go.RowKit
section
variable {w:World} {M:Nat->Prop}
end
section
variable {P:Program} {s:Nat->SV} {h:Nat->Ch} {K:St->Prop} {sos:List SO} {α:Type} {row:α->List DV} {l:List α} {ms:List cB}
end
