/-
  My text.
-/
import Derived.Test.YteaolfcegaidpaaGreatDoorSXEngWk
namespace Go.Proofs.YteaolfcegaidpaaGreatDoor
set_option linter.unusedSimpArgs false
set_option linter.unusedVariables false
open Go.RowKit
theorem H5 {P:Program} {x:SC} {Q:AX->St->Prop} (slot:Nat) {s:Nat->SV} {h:Nat->Ch} {id e sz:Nat} {rows:List (List SV)} {ds:List (List DV)} (h0:s slot= .vec id) (hv:h id= .vec e sz rows) (hf:SV.frzR rows=some ds) (hw:AW P x Q ⟨eF id (.slice ds) s,ay (jz id (.slice ds) h) id .dead⟩):AW P x Q ⟨s,h⟩:=Ln hv hf hw
