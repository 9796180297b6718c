/-
  My text.
-/
import Derived.Test.YtgocgdgknpdknaaGreatDoorSXEngWk
namespace Go.Proofs.YtgocgdgknpdknaaGreatDoor
set_option linter.unusedSimpArgs false
set_option linter.unusedVariables false
open Go.RowKit
theorem FG {P:Program} {x:SC} {Q:AX->St->Prop} (slot:Nat) {s:Nat->SV} {h:Nat->Ch} {id e sz:Nat} {rows:List (List SV)} {ds:List (List DV)} (h0:s slot= .vec id) (hv:h id= .vec e sz rows) (hf:SV.frzR rows=some ds) (hw:AW P x Q ⟨gE id (.slice ds) s,aI (pU id (.slice ds) h) id .dead⟩):AW P x Q ⟨s,h⟩:=IZ hv hf hw
