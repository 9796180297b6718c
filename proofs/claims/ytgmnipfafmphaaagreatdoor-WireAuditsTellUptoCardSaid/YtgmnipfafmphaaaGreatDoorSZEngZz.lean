/-
  My text.
-/
import Derived.Test.YtgmnipfafmphaaaGreatDoorSZEngWk
namespace Go.Proofs.YtgmnipfafmphaaaGreatDoor
set_option linter.unusedSimpArgs false
set_option linter.unusedVariables false
open Go.RowKit
theorem I9 {P:Program} (x:SC) {Q:AX->St->Prop} {σ:St} (hw:AW P x Q σ):AW P x Q σ:=hw
end Go.Proofs.YtgmnipfafmphaaaGreatDoor

