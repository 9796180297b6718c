/-
  The engine, part Zz: slices that are frozen ahead of a statement, found by a slot that holds them.
-/
import Derived.Test.YtcnohbiegjahkaaGreatDoorSXEngWk
namespace Go.Proofs.YtcnohbiegjahkaaGreatDoor
set_option linter.unusedSimpArgs false
set_option linter.unusedVariables false
open Go.RowKit

theorem W_frzS {P : Program} {x : SC} {Q : AX → St → Prop} (slot : Nat) {s : Nat → SV} {h : Nat → Ch} {id e sz : Nat} {rows : List (List SV)} {ds : List (List DV)} (h0 : s slot = .vec id) (hv : h id = .vec e sz rows) (hf : SV.frzR rows = some ds) (hw : AW P x Q ⟨repS id (.slice ds) s, upd (repH id (.slice ds) h) id .dead⟩) : AW P x Q ⟨s, h⟩ := W_frz hv hf hw
theorem W_same {P : Program} (x : SC) {Q : AX → St → Prop} {σ : St} (hw : AW P x Q σ) : AW P x Q σ := hw
end Go.Proofs.YtcnohbiegjahkaaGreatDoor
