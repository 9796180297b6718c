/-
  The engine, part Rl: parts of strings that are read late.
-/
import Derived.Test.YtcnohbiegjahkaaGreatDoorSXEngRk
namespace Go.Proofs.YtcnohbiegjahkaaGreatDoor
set_option linter.unusedSimpArgs false
set_option linter.unusedVariables false
open Go.RowKit
section
variable {P : Program} {s : Nat → SV} {h : Nat → Ch} {K : St → Prop} {sos : List SO}
end
end Go.Proofs.YtcnohbiegjahkaaGreatDoor
