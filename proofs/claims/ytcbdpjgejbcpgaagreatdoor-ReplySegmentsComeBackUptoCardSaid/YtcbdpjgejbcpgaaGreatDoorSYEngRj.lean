/-
  The engine, part Rj: rows opened at an index that is computed within the region.
-/
import Derived.Test.YtcbdpjgejbcpgaaGreatDoorSYEngRi
namespace Go.Proofs.YtcbdpjgejbcpgaaGreatDoor
set_option linter.unusedSimpArgs false
set_option linter.unusedVariables false
open Go.RowKit
variable {P : Program} {x0 : SC} {Q : AX → St → Prop} {α β : Type} {row : α → List DV} {row' : β → List DV} {s : Nat → SV} {h : Nat → Ch} {ms ms' : List Mask} {l : List α}

end Go.Proofs.YtcbdpjgejbcpgaaGreatDoor
