/-
  My text.
-/
import Derived.Test.YteaolfcegaidpaaGreatDoorSZEngWk
namespace Go.Proofs.YteaolfcegaidpaaGreatDoor
set_option linter.unusedSimpArgs false
set_option linter.unusedVariables false
open Go.RowKit
theorem M8 {P:Program} {x:SC} {Q:AX->St->Prop} (t:Nat) {s:Nat->SV} {h:Nat->Ch} {id e sz:Nat} {rows:List (List SV)} {O:List (List DV)} (h0:s t= .vec id) (hv:h id= .vec e sz rows) (hf:SV.frzR rows=some O) (G:AW P x Q ⟨eC id (.slice O) s,aD (hT id (.slice O) h) id .dead⟩):AW P x Q ⟨s,h⟩:=RB hv hf G
