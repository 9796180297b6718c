/-
  Plain laws of the wire: the law of the places.
-/
import Derived.Test.YteilhjdpbjgdpaaDoorAQ14
import Derived.Test.YteilhjdpbjgdpaaDoorAG9
namespace Go.Proofs.YteilhjdpbjgdpaaDoor
set_option linter.unusedSimpArgs false
set_option linter.unusedVariables false
open Go.RowKit

theorem law_places (l : List Tapi_Segment) (m : Tapi_Marks) (lines : Bool) (seg : Int) (at_ : Tapi_Spot) (place : Int) (ht : TagsShort l) (hl : l.length ≤ 9223372036854775807) : m_interchangelaw2_WirePlacesMatchSpec l m lines seg at_ place = some true := by
  unfold m_interchangelaw2_WirePlacesMatchSpec sims_G9_1_0; dsimp only
  simp only [w_Where l m lines seg at_ ht hl, r_Where l m lines seg at_ ht, w_SpotAt l m lines place ht, r_SpotAt l m lines place ht, awake_true, Option.bind_some, andO_some, decide_true, Bool.true_and, Bool.and_self]
end Go.Proofs.YteilhjdpbjgdpaaDoor
