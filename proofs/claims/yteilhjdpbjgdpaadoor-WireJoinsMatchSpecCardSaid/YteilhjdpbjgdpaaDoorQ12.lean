/-
  Plain laws of the wire: the law of Join.
-/
import Derived.Test.YteilhjdpbjgdpaaDoorQ11
import Derived.Test.YteilhjdpbjgdpaaDoorG8
namespace Go.Proofs.YteilhjdpbjgdpaaDoor
set_option linter.unusedSimpArgs false
set_option linter.unusedVariables false
open Go.RowKit

theorem law_joins (l : List Tapi_Segment) (m : Tapi_Marks) (lines : Bool) (ht : TagsShort l) : m_interchangelaw2_WireJoinsMatchSpec l m lines = some true := by
  have hE : ∀ a b, m_bytes_Equal a b = some (decide (a = b)) := fun a b => by
    unfold m_bytes_Equal sims_G8_0_0; dsimp only
  unfold m_interchangelaw2_WireJoinsMatchSpec sims_G8_1_0; dsimp only
  simp only [w_Join l m lines ht, r_Join l m lines ht, hE, awake_true, Option.bind_some, andO_some, decide_true, Bool.true_and, Bool.and_self]
end Go.Proofs.YteilhjdpbjgdpaaDoor
