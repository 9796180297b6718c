/-
  My text.
-/
import Derived.Test.YtgmnipfafmphaaaGreatDoorSYEngRi
namespace Go.Proofs.YtgmnipfafmphaaaGreatDoor
set_option linter.unusedSimpArgs false
set_option linter.unusedVariables false
open Go.RowKit
variable {P:Program} {B:SC} {Q:AX->St->Prop} {α β:Type} {H:α->List DV} {A:β->List DV} {s:Nat->SV} {h:Nat->Ch} {ms ms':List bj} {l:List α}
end Go.Proofs.YtgmnipfafmphaaaGreatDoor

