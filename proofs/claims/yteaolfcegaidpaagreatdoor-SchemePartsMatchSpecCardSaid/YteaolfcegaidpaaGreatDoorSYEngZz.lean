/-
  My text.
-/
import Derived.Test.YteaolfcegaidpaaGreatDoorSYEngWk
namespace Go.Proofs.YteaolfcegaidpaaGreatDoor
set_option linter.unusedSimpArgs false
set_option linter.unusedVariables false
open Go.RowKit
theorem MY {P:Program} {x:SC} {Q:AX->St->Prop} (slot:Nat) {s:Nat->SV} {h:Nat->Ch} {id e sz:Nat} {rows:List (List SV)} {ds:List (List DV)} (h0:s slot= .vec id) (hv:h id= .vec e sz rows) (hf:SV.frzR rows=some ds) (hw:AW P x Q ⟨gn id (.slice ds) s,aH (lv id (.slice ds) h) id .dead⟩):AW P x Q ⟨s,h⟩:=NH hv hf hw
