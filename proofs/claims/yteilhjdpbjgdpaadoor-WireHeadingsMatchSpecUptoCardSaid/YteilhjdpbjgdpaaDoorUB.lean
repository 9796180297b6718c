/-
  Bulk bounds lengths.
-/
import Derived.Test.YteilhjdpbjgdpaaDoorRow
namespace Go.Proofs.YteilhjdpbjgdpaaDoor
set_option linter.unusedSimpArgs false
set_option linter.unusedVariables false
open Go.RowKit

theorem dvBR_len {α : Type} {row : α → List DV} (h : ∀ a, 1 ≤ dvBL (row a)) : ∀ (l : List α), l.length ≤ dvBR (l.map row)
  | [] => by simp
  | x :: l => by
    have h1 := h x
    have h2 := dvBR_len h l
    simp only [List.map_cons, dvBR, List.length_cons]
    omega
theorem dvBR_bytes (l : List UInt8) : l.length ≤ dvBR (l.map rowY) := dvBR_len (fun a => by simp [rowY, dvBL, dvB]) l
end Go.Proofs.YteilhjdpbjgdpaaDoor
