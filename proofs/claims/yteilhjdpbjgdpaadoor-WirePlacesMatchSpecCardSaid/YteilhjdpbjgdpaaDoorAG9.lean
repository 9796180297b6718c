/-
  Bodies of functions and what they compute, printed by programs of mine (wip/tool/gen.py, sc.py) out of the translation; the kernel holds each against the translation.
-/
import Derived.Test.YteilhjdpbjgdpaaDoorAEngY
import Derived.Test.YteilhjdpbjgdpaaDoorProg
import Derived.KernelRfl
import Derived.Test.YteilhjdpbjgdpaaDoorALibT
import Derived.Test.YteilhjdpbjgdpaaDoorALibS
import Derived.Test.YteilhjdpbjgdpaaDoorALibH
import Derived.Test.YteilhjdpbjgdpaaDoorAG1
import Derived.Test.YteilhjdpbjgdpaaDoorAG2
import Derived.Test.YteilhjdpbjgdpaaDoorAG3
import Derived.Test.YteilhjdpbjgdpaaDoorAG4
import Derived.Test.YteilhjdpbjgdpaaDoorAG5
import Derived.Test.YteilhjdpbjgdpaaDoorAG6
namespace Go.Proofs.YteilhjdpbjgdpaaDoor
open Go.RowKit
set_option linter.unusedSimpArgs false
set_option linter.unusedVariables false
/-- interchange/interchangelaw2.WirePlacesMatchSpec -/
def sc_interchangelaw2_WirePlacesMatchSpec : SC :=
  (.seq (.reg [.r 7 (.boxI (.t 1)),
     .r 10 (.boxI (.t 4)),
     .r 12 (.mv (.c (.d (.bool false))))])
  (.seq (.reg [.r 24 (.mv (.t 0)),
     .o 25 (.ldA 5 (.t 7)),
     .r 26 (.mv (.t 2)),
     .r 27 (.mv (.t 3)),
     .o 28 (.ldA 3 (.t 10)),
     .c 29 (.f 40) [.t 24, .t 25, .t 26, .t 27, .t 28],
     .r 23 (.mv (.t 29)),
     .r 30 (.ext (.t 23) 0),
     .r 31 (.ext (.t 23) 1),
     .w 13 (.boxM (.c (.agg [.d (.int .i64 0), .d (.int .i64 0)]))),
     .w 0 (.st 2 (.t 13) (.t 30)),
     .r 14 (.mv (.t 31))])
  (.seq (.reg [.r 33 (.mv (.t 0)),
     .o 34 (.ldA 5 (.t 7)),
     .r 35 (.mv (.t 2)),
     .r 36 (.mv (.t 3)),
     .o 37 (.ldA 3 (.t 10)),
     .c 38 (.f 41) [.t 33, .t 34, .t 35, .t 36, .t 37],
     .r 32 (.mv (.t 38)),
     .r 39 (.ext (.t 32) 0),
     .r 40 (.ext (.t 32) 1),
     .w 15 (.boxM (.c (.agg [.d (.int .i64 0), .d (.int .i64 0)]))),
     .w 0 (.st 2 (.t 15) (.t 39)),
     .r 16 (.mv (.t 40))])
  (.seq (.reg [.r 42 (.mv (.t 0)),
     .o 43 (.ldA 5 (.t 7)),
     .r 44 (.mv (.t 2)),
     .r 45 (.mv (.t 5)),
     .c 46 (.f 42) [.t 42, .t 43, .t 44, .t 45],
     .r 41 (.mv (.t 46)),
     .r 47 (.ext (.t 41) 0),
     .r 48 (.ext (.t 41) 1),
     .r 49 (.ext (.t 41) 2),
     .w 18 (.boxM (.c (.agg [.d (.int .i64 0), .d (.int .i64 0), .d (.int .i64 0)]))),
     .r 17 (.mv (.t 47)),
     .w 0 (.st 3 (.t 18) (.t 48)),
     .r 19 (.mv (.t 49))])
  (.seq (.reg [.r 51 (.mv (.t 0)),
     .o 52 (.ldA 5 (.t 7)),
     .r 53 (.mv (.t 2)),
     .r 54 (.mv (.t 5)),
     .c 55 (.f 43) [.t 51, .t 52, .t 53, .t 54],
     .r 50 (.mv (.t 55)),
     .r 56 (.ext (.t 50) 0),
     .r 57 (.ext (.t 50) 1),
     .r 58 (.ext (.t 50) 2),
     .w 21 (.boxM (.c (.agg [.d (.int .i64 0), .d (.int .i64 0), .d (.int .i64 0)]))),
     .r 20 (.mv (.t 56)),
     .w 0 (.st 3 (.t 21) (.t 57)),
     .r 22 (.mv (.t 58))])
  (.seq (.reg (.o 59 (.ldA 2 (.t 13)) :: .o 60 (.ldA 2 (.t 15)) :: .r 61 (.eqs .eql [(.int .i64), (.int .i64)] (.t 59) (.t 60)) :: .r 62 (.mv (.t 61)) :: gapp [63, 64, 65] 62 true (.r 63 (.mv (.t 14)) :: .r 64 (.mv (.t 16)) :: .r 65 (.bin .eql (.t 63) (.t 64)) :: []) (.r 66 (.pick (.t 62) (.t 65) (.c (.d (.bool false)))) :: .r 67 (.mv (.t 66)) :: gapp [68, 69, 70] 67 true (.r 68 (.mv (.t 17)) :: .r 69 (.mv (.t 20)) :: .r 70 (.bin .eql (.t 68) (.t 69)) :: []) (.r 71 (.pick (.t 67) (.t 70) (.c (.d (.bool false)))) :: .r 72 (.mv (.t 71)) :: gapp [73, 74, 75] 72 true (.r 73 (.ldA 3 (.t 18)) :: .r 74 (.ldA 3 (.t 21)) :: .r 75 (.eqs .eql [(.int .i64), (.int .i64), (.int .i64)] (.t 73) (.t 74)) :: []) (.r 76 (.pick (.t 72) (.t 75) (.c (.d (.bool false)))) :: .r 77 (.mv (.t 76)) :: gapp [78, 79, 80] 77 true (.r 78 (.mv (.t 19)) :: .r 79 (.mv (.t 22)) :: .r 80 (.bin .eql (.t 78) (.t 79)) :: []) (.r 81 (.pick (.t 77) (.t 80) (.c (.d (.bool false)))) :: .r 82 (.mv (.t 81)) :: gapp [83] 82 true (.c 83 (.f 21) [] :: []) (.r 84 (.pick (.t 82) (.t 83) (.c (.d (.bool false)))) :: .r 12 (.mv (.t 84)) :: [])))))))
  .ret))))))
theorem fit_interchangelaw2_WirePlacesMatchSpec : fits Tryd.prog 11 Tryd.f11 sc_interchangelaw2_WirePlacesMatchSpec [.t 12] 6 = true := by kernel_rfl

set_option maxRecDepth 100000 in
set_option maxHeartbeats 40000000 in
noncomputable def sims_G9_1_0 : (∀ (x0 : List Tapi_Segment) (x1 : Tapi_Marks) (x2 : Bool) (x3 : Int) (x4 : Tapi_Spot) (x5 : Int), {m : Option (Bool) // ∀ r, m = some r → PureSpec Tryd.prog 11 [.slice (List.map rTapi_Segment x0), .agg (rTapi_Marks x1), .bool x2, .int .i64 x3, .agg (rTapi_Spot x4), .int .i64 x5] (.bool r)}) := by
  (intro x0 x1 x2 x3 x4 x5; apply Subtype.mk; intro r hm; apply pure_walk Tryd.func11 fit_interchangelaw2_WirePlacesMatchSpec; unfold sc_interchangelaw2_WirePlacesMatchSpec)
  repeat' (first | with_reducible refine W_seq ?_ | with_reducible refine W_reg ?_ | with_reducible refine W_block ?_ | with_reducible refine W_skip ?_ | with_reducible refine W_ret ?_ | with_reducible refine W_exit ?_ | with_reducible refine O_nil ?_ | with_reducible refine K_seq ?_ | with_reducible refine K_seqE ?_ | with_reducible refine K_seqR ?_ | with_reducible refine K_block ?_ | with_reducible refine K_blockR ?_ | with_reducible refine K_blockE ?_ | ((with_reducible apply K_blockN); decide) | with_reducible refine O_o2r ?_ | ((with_reducible apply O_r); (simp only [push_cast, seval]; rfl); (first | exact trivial | omega)) | ((with_reducible apply O_and hm); (simp only [push_cast, seval]; rfl); rfl; intro v hm; rotate_left; intro v g hm) | ((with_reducible apply W_condT); (focus (simp only [push_cast, seval]; done))) | ((with_reducible apply W_condF); (focus (simp only [push_cast, seval]; done))) | ((with_reducible apply O_cS hm); (simp only [push_cast, seval]; rfl); (focus (first | exact spec_wire_Where _ _ _ _ _ | exact spec_interchangeref2_Where _ _ _ _ _ | exact spec_wire_SpotAt _ _ _ _ | exact spec_interchangeref2_SpotAt _ _ _ _ | exact spec_interchangelaw2_awake)); intro x hm) | ((with_reducible apply O_cF hm); (simp only [push_cast, seval]; rfl); (first | apply spec_wire_Where _ _ _ _ _ | apply spec_interchangeref2_Where _ _ _ _ _ | apply spec_wire_SpotAt _ _ _ _ | apply spec_interchangeref2_SpotAt _ _ _ _ | apply spec_interchangelaw2_awake); (any_goals ((repeat' (first | rfl | (with_reducible first | apply fT_Tapi_Element | apply fT_Tapi_Marks | apply fT_Tapi_Range | apply fT_Tapi_Segment | apply fT_Tapi_Spot | apply fT_Tinterchangeref2_piece | apply fT_Tinterchangeref2_writer | apply fT_Twire_place | apply fT_Twire_writer | apply f_optN | apply f_optS | apply f_some | apply f_tup | apply f_agg | apply f_ptr | apply dv_slice | apply sv_d | apply f_cons | apply fold_nil | apply fold_cons | apply fold_app | apply f_rowI | apply f_rowY | apply f_rowS | apply f_rowB | apply f_rowL) | (with_reducible apply f_byte; decide))); done)); intro x hm) | ((with_reducible apply O_w); (simp only [push_cast, seval]; rfl); (first | exact trivial | omega)) | ((with_reducible apply S_condB hm); (simp only [push_cast, seval]; rfl); intro hm; rotate_left; intro hm) | ((with_reducible apply K_endS hm); (focus (simp only [resOf, resL, RV.get, push_cast, seval]; rfl)); (focus ((repeat' (first | rfl | (with_reducible first | apply fT_Tapi_Element | apply fT_Tapi_Marks | apply fT_Tapi_Range | apply fT_Tapi_Segment | apply fT_Tapi_Spot | apply fT_Tinterchangeref2_piece | apply fT_Tinterchangeref2_writer | apply fT_Twire_place | apply fT_Twire_writer | apply f_optN | apply f_optS | apply f_some | apply f_tup | apply f_agg | apply f_ptr | apply dv_slice | apply sv_d | apply f_cons | apply fold_nil | apply fold_cons | apply fold_app | apply f_rowI | apply f_rowY | apply f_rowS | apply f_rowB | apply f_rowL) | (with_reducible apply f_byte; decide))); done))) | ((with_reducible apply K_bool hm); (simp only [push_cast, seval]; rfl)))
noncomputable def m_interchangelaw2_WirePlacesMatchSpec (x0 : List Tapi_Segment) (x1 : Tapi_Marks) (x2 : Bool) (x3 : Int) (x4 : Tapi_Spot) (x5 : Int) : Option (Bool) := (sims_G9_1_0 x0 x1 x2 x3 x4 x5).1
theorem spec_interchangelaw2_WirePlacesMatchSpec (x0 : List Tapi_Segment) (x1 : Tapi_Marks) (x2 : Bool) (x3 : Int) (x4 : Tapi_Spot) (x5 : Int) : ∀ r, m_interchangelaw2_WirePlacesMatchSpec x0 x1 x2 x3 x4 x5 = some r → PureSpec Tryd.prog 11 [.slice (List.map rTapi_Segment x0), .agg (rTapi_Marks x1), .bool x2, .int .i64 x3, .agg (rTapi_Spot x4), .int .i64 x5] (.bool r) := (sims_G9_1_0 x0 x1 x2 x3 x4 x5).2

end Go.Proofs.YteilhjdpbjgdpaaDoor
