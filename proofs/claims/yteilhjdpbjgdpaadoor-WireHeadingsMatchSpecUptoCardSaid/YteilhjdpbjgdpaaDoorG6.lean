/-
  Bodies of functions and what they compute, printed by programs of mine (wip/tool/gen.py, sc.py) out of the translation; the kernel holds each against the translation.
-/
import Derived.Test.YteilhjdpbjgdpaaDoorEngY
import Derived.Test.YteilhjdpbjgdpaaDoorProg
import Derived.KernelRfl
import Derived.Test.YteilhjdpbjgdpaaDoorLibT
import Derived.Test.YteilhjdpbjgdpaaDoorLibS
import Derived.Test.YteilhjdpbjgdpaaDoorLibH
import Derived.Test.YteilhjdpbjgdpaaDoorG1
import Derived.Test.YteilhjdpbjgdpaaDoorG2
import Derived.Test.YteilhjdpbjgdpaaDoorG3
namespace Go.Proofs.YteilhjdpbjgdpaaDoor
open Go.RowKit
set_option linter.unusedSimpArgs false
set_option linter.unusedVariables false
/-- interchange/interchangelaw2.awake -/
def sc_interchangelaw2_awake : SC :=
  (.seq (.reg [.r 0 (.mv (.c (.d (.bool false))))])
  (.seq (.reg [.r 4 (.build [.d (.int .u8 0), .d (.int .u8 0), .d (.int .u8 0), .d (.int .u8 0), .d (.int .u8 0)] [(0, 1, .c (.d (.int .u8 42))), (1, 1, .c (.d (.int .u8 58))), (2, 1, .c (.d (.int .u8 94))), (3, 1, .c (.d (.int .u8 63))), (4, 1, .c (.d (.int .u8 126)))]),
     .c 5 (.f 15) [.t 4],
     .r 3 (.mv (.t 5)),
     .r 6 (.ext (.t 3) 0),
     .r 7 (.ext (.t 3) 1),
     .r 1 (.mv (.t 6)),
     .r 2 (.mv (.t 7))])
  (.seq (.reg (.r 8 (.mv (.t 2)) :: .r 9 (.bin .eql (.t 8) (.c (.d (.int .i64 0)))) :: .r 10 (.mv (.t 9)) :: gapp [11, 12, 13] 10 true (.r 11 (.mv (.t 1)) :: .r 12 (.cvbs (.t 11)) :: .r 13 (.bin .eql (.t 12) (.c (.d (.str [77, 82, 75, 42, 58, 94, 63, 126])))) :: []) (.r 14 (.pick (.t 10) (.t 13) (.c (.d (.bool false)))) :: .r 0 (.mv (.t 14)) :: [])))
  .ret)))
theorem fit_interchangelaw2_awake : fits Tryd.prog 21 Tryd.f21 sc_interchangelaw2_awake [.t 0] 0 = true := by kernel_rfl

set_option maxRecDepth 100000 in
set_option maxHeartbeats 40000000 in
noncomputable def sims_G6_1_0 : ({m : Option (Bool) // ∀ r, m = some r → PureSpec Tryd.prog 21 [] (.bool r)}) := by
  (apply Subtype.mk; intro r hm; apply pure_walk Tryd.func21 fit_interchangelaw2_awake; unfold sc_interchangelaw2_awake)
  repeat' (first | with_reducible refine W_seq ?_ | with_reducible refine W_reg ?_ | with_reducible refine W_block ?_ | with_reducible refine W_skip ?_ | with_reducible refine W_ret ?_ | with_reducible refine W_exit ?_ | with_reducible refine O_nil ?_ | with_reducible refine K_seq ?_ | with_reducible refine K_seqE ?_ | with_reducible refine K_seqR ?_ | with_reducible refine K_block ?_ | with_reducible refine K_blockR ?_ | with_reducible refine K_blockE ?_ | ((with_reducible apply K_blockN); decide) | ((with_reducible apply O_cvbsD); (simp only [push_cast, seval]; rfl)) | ((with_reducible apply O_cvbsL); (simp only [push_cast, seval]; rfl); (focus (repeat' (first | exact bytesC_nil | with_reducible apply bytesC_cons)))) | ((with_reducible apply O_cvbsV); (iterate 2 (simp only [push_cast, seval]; rfl))) | ((with_reducible apply O_r); (simp only [push_cast, seval]; rfl); (first | exact trivial | omega)) | ((with_reducible apply O_and hm); (simp only [push_cast, seval]; rfl); rfl; intro v hm; rotate_left; intro v g hm) | ((with_reducible apply W_condT); (focus (simp only [push_cast, seval]; done))) | ((with_reducible apply W_condF); (focus (simp only [push_cast, seval]; done))) | ((with_reducible apply O_cS hm); (simp only [push_cast, seval]; rfl); (focus (first | exact spec_wire_Heading _)); intro x hm) | ((with_reducible apply O_cF hm); (simp only [push_cast, seval]; rfl); (first | apply spec_wire_Heading _); (any_goals ((repeat' (first | rfl | (with_reducible first | apply fT_Tapi_Element | apply fT_Tapi_Marks | apply fT_Tapi_Segment | apply fT_Tapi_Spot | apply fT_Tinterchangeref2_piece | apply fT_Tinterchangeref2_writer | apply f_optN | apply f_optS | apply f_some | apply f_tup | apply f_agg | apply f_ptr | apply dv_slice | apply sv_d | apply f_cons | apply fold_nil | apply fold_cons | apply fold_app | apply f_rowI | apply f_rowY | apply f_rowS | apply f_rowB | apply f_rowL) | (with_reducible apply f_byte; decide))); done)); intro x hm) | ((with_reducible apply S_condB hm); (simp only [push_cast, seval]; rfl); intro hm; rotate_left; intro hm) | ((with_reducible apply K_endS hm); (focus (simp only [resOf, resL, RV.get, push_cast, seval]; rfl)); (focus ((repeat' (first | rfl | (with_reducible first | apply fT_Tapi_Element | apply fT_Tapi_Marks | apply fT_Tapi_Segment | apply fT_Tapi_Spot | apply fT_Tinterchangeref2_piece | apply fT_Tinterchangeref2_writer | apply f_optN | apply f_optS | apply f_some | apply f_tup | apply f_agg | apply f_ptr | apply dv_slice | apply sv_d | apply f_cons | apply fold_nil | apply fold_cons | apply fold_app | apply f_rowI | apply f_rowY | apply f_rowS | apply f_rowB | apply f_rowL) | (with_reducible apply f_byte; decide))); done))) | ((with_reducible apply K_bool hm); (simp only [push_cast, seval]; rfl)))
noncomputable def m_interchangelaw2_awake : Option (Bool) := (sims_G6_1_0 ).1
theorem spec_interchangelaw2_awake : ∀ r, m_interchangelaw2_awake  = some r → PureSpec Tryd.prog 21 [] (.bool r) := (sims_G6_1_0 ).2

/-- interchange/interchangelaw2.WireChecksMatchSpec -/
def sc_interchangelaw2_WireChecksMatchSpec : SC :=
  (.seq (.reg [.r 2 (.boxI (.t 0)),
     .r 4 (.mv (.c (.d (.bool false))))])
  (.seq (.reg [.r 10 (.mv (.t 1)),
     .o 11 (.ldA 5 (.t 2)),
     .c 12 (.f 22) [.t 10, .t 11],
     .r 9 (.mv (.t 12)),
     .r 13 (.ext (.t 9) 0),
     .r 14 (.ext (.t 9) 1),
     .r 5 (.mv (.t 13)),
     .r 6 (.mv (.t 14))])
  (.seq (.reg [.r 16 (.mv (.t 1)),
     .o 17 (.ldA 5 (.t 2)),
     .c 18 (.f 23) [.t 16, .t 17],
     .r 15 (.mv (.t 18)),
     .r 19 (.ext (.t 15) 0),
     .r 20 (.ext (.t 15) 1),
     .r 7 (.mv (.t 19)),
     .r 8 (.mv (.t 20))])
  (.seq (.regD (.r 21 (.ldA 5 (.t 2)) :: .c 22 (.f 24) [.t 21] :: .r 23 (.ldA 5 (.t 2)) :: .c 24 (.f 25) [.t 23] :: .r 25 (.bin .eql (.t 22) (.t 24)) :: .r 26 (.mv (.t 25)) :: gapp [27, 28, 29, 30, 31] 26 true (.r 27 (.mv (.t 1)) :: .c 28 (.f 26) [.t 27] :: .r 29 (.mv (.t 1)) :: .c 30 (.f 27) [.t 29] :: .r 31 (.bin .eql (.t 28) (.t 30)) :: []) (.r 32 (.pick (.t 26) (.t 31) (.c (.d (.bool false)))) :: .r 33 (.mv (.t 32)) :: gapp [34, 35, 36] 33 true (.r 34 (.mv (.t 5)) :: .r 35 (.mv (.t 7)) :: .r 36 (.bin .eql (.t 34) (.t 35)) :: []) (.r 37 (.pick (.t 33) (.t 36) (.c (.d (.bool false)))) :: .r 38 (.mv (.t 37)) :: gapp [39, 40, 41] 38 true (.r 39 (.mv (.t 6)) :: .r 40 (.mv (.t 8)) :: .r 41 (.bin .eql (.t 39) (.t 40)) :: []) (.r 42 (.pick (.t 38) (.t 41) (.c (.d (.bool false)))) :: .r 43 (.mv (.t 42)) :: gapp [44] 43 true (.c 44 (.f 21) [] :: []) (.r 45 (.pick (.t 43) (.t 44) (.c (.d (.bool false)))) :: .r 4 (.mv (.t 45)) :: []))))))
  .ret))))
theorem fit_interchangelaw2_WireChecksMatchSpec : fits Tryd.prog 4 Tryd.f4 sc_interchangelaw2_WireChecksMatchSpec [.t 4] 2 = true := by kernel_rfl

set_option maxRecDepth 100000 in
set_option maxHeartbeats 40000000 in
noncomputable def sims_G6_2_0 : (∀ (x0 : Tapi_Marks) (x1 : List Tapi_Segment), {m : Option (Bool) // ∀ r, m = some r → PureSpec Tryd.prog 4 [.agg (rTapi_Marks x0), .slice (List.map rTapi_Segment x1)] (.bool r)}) := by
  (intro x0 x1; apply Subtype.mk; intro r hm; apply pure_walk Tryd.func4 fit_interchangelaw2_WireChecksMatchSpec; unfold sc_interchangelaw2_WireChecksMatchSpec)
  repeat' (first | with_reducible refine W_seq ?_ | with_reducible refine W_reg ?_ | with_reducible refine W_regD ?_ | with_reducible refine W_block ?_ | with_reducible refine W_skip ?_ | with_reducible refine W_ret ?_ | with_reducible refine W_exit ?_ | with_reducible refine O_nil ?_ | with_reducible refine K_seq ?_ | with_reducible refine K_seqE ?_ | with_reducible refine K_seqR ?_ | with_reducible refine K_block ?_ | with_reducible refine K_blockR ?_ | with_reducible refine K_blockE ?_ | ((with_reducible apply K_blockN); decide) | with_reducible refine O_o2r ?_ | ((with_reducible apply O_r); (simp only [push_cast, seval]; rfl); (first | exact trivial | omega)) | ((with_reducible apply O_and hm); (simp only [push_cast, seval]; rfl); rfl; intro v hm; rotate_left; intro v g hm) | ((with_reducible apply W_condT); (focus (simp only [push_cast, seval]; done))) | ((with_reducible apply W_condF); (focus (simp only [push_cast, seval]; done))) | ((with_reducible apply O_cS hm); (simp only [push_cast, seval]; rfl); (focus (first | exact spec_wire_Escapes _ _ | exact spec_interchangeref2_Escapes _ _ | exact spec_wire_CheckMarks _ | exact spec_interchangeref2_CheckMarks _ | exact spec_wire_CheckSegments _ | exact spec_interchangeref2_CheckSegments _ | exact spec_interchangelaw2_awake)); intro x hm) | ((with_reducible apply O_cF hm); (simp only [push_cast, seval]; rfl); (first | apply spec_wire_Escapes _ _ | apply spec_interchangeref2_Escapes _ _ | apply spec_wire_CheckMarks _ | apply spec_interchangeref2_CheckMarks _ | apply spec_wire_CheckSegments _ | apply spec_interchangeref2_CheckSegments _ | apply spec_interchangelaw2_awake); (any_goals ((repeat' (first | rfl | (with_reducible first | apply fT_Tapi_Element | apply fT_Tapi_Marks | apply fT_Tapi_Segment | apply fT_Tapi_Spot | apply fT_Tinterchangeref2_piece | apply fT_Tinterchangeref2_writer | apply f_optN | apply f_optS | apply f_some | apply f_tup | apply f_agg | apply f_ptr | apply dv_slice | apply sv_d | apply f_cons | apply fold_nil | apply fold_cons | apply fold_app | apply f_rowI | apply f_rowY | apply f_rowS | apply f_rowB | apply f_rowL) | (with_reducible apply f_byte; decide))); done)); intro x hm) | ((with_reducible apply S_condB hm); (simp only [push_cast, seval]; rfl); intro hm; rotate_left; intro hm) | ((with_reducible apply K_endS hm); (focus (simp only [resOf, resL, RV.get, push_cast, seval]; rfl)); (focus ((repeat' (first | rfl | (with_reducible first | apply fT_Tapi_Element | apply fT_Tapi_Marks | apply fT_Tapi_Segment | apply fT_Tapi_Spot | apply fT_Tinterchangeref2_piece | apply fT_Tinterchangeref2_writer | apply f_optN | apply f_optS | apply f_some | apply f_tup | apply f_agg | apply f_ptr | apply dv_slice | apply sv_d | apply f_cons | apply fold_nil | apply fold_cons | apply fold_app | apply f_rowI | apply f_rowY | apply f_rowS | apply f_rowB | apply f_rowL) | (with_reducible apply f_byte; decide))); done))) | ((with_reducible apply K_bool hm); (simp only [push_cast, seval]; rfl)))
noncomputable def m_interchangelaw2_WireChecksMatchSpec (x0 : Tapi_Marks) (x1 : List Tapi_Segment) : Option (Bool) := (sims_G6_2_0 x0 x1).1
theorem spec_interchangelaw2_WireChecksMatchSpec (x0 : Tapi_Marks) (x1 : List Tapi_Segment) : ∀ r, m_interchangelaw2_WireChecksMatchSpec x0 x1 = some r → PureSpec Tryd.prog 4 [.agg (rTapi_Marks x0), .slice (List.map rTapi_Segment x1)] (.bool r) := (sims_G6_2_0 x0 x1).2

end Go.Proofs.YteilhjdpbjgdpaaDoor
