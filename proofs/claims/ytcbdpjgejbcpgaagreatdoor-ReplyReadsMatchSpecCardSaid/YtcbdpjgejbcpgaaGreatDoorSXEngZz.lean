/-
  The engine, part Zz: slices that are frozen ahead of a statement, found by a slot that holds them.
-/
import Derived.Test.YtcbdpjgejbcpgaaGreatDoorSXEngWk
namespace Go.Proofs.YtcbdpjgejbcpgaaGreatDoor
set_option linter.unusedSimpArgs false
set_option linter.unusedVariables false
open Go.RowKit

theorem W_same {P : Program} (x : SC) {Q : AX → St → Prop} {σ : St} (hw : AW P x Q σ) : AW P x Q σ := hw
end Go.Proofs.YtcbdpjgejbcpgaaGreatDoor
