/-
  My text.
-/
import Derived.Test.YtgmnipfafmphaaaGreatDoorSZEngRk
namespace Go.Proofs.YtgmnipfafmphaaaGreatDoor
set_option linter.unusedSimpArgs false
set_option linter.unusedVariables false
open Go.RowKit
section
variable {P:Program} {s:Nat->SV} {h:Nat->Ch} {K:St->Prop} {sos:List SO}
theorem AL {α:Type} {row:α->List DV} (o:Option α):SV.cells? (.d (JW row o))=some [.d (JW row o)]:=by cases o<;>rfl
attribute [push_cast] AL
end
end Go.Proofs.YtgmnipfafmphaaaGreatDoor

