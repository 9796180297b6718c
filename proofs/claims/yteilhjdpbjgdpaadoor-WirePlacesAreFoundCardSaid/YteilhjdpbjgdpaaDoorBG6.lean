/-
  Bodies of functions and what they compute, printed by programs of mine (wip/tool/gen.py, sc.py) out of the translation; the kernel holds each against the translation.
-/
import Derived.Test.YteilhjdpbjgdpaaDoorBEngY
import Derived.Test.YteilhjdpbjgdpaaDoorProg
import Derived.KernelRfl
import Derived.Test.YteilhjdpbjgdpaaDoorBLibT
import Derived.Test.YteilhjdpbjgdpaaDoorBLibS
import Derived.Test.YteilhjdpbjgdpaaDoorBLibH
import Derived.Test.YteilhjdpbjgdpaaDoorBG1
import Derived.Test.YteilhjdpbjgdpaaDoorBG2
import Derived.Test.YteilhjdpbjgdpaaDoorBG3
namespace Go.Proofs.YteilhjdpbjgdpaaDoor
open Go.RowKit
set_option linter.unusedSimpArgs false
set_option linter.unusedVariables false
/-- interchange/interchangelaw2.awake -/
def sc_interchangelaw2_awake : SC :=
  (.seq (.reg [.r 0 (.mv (.c (.d (.bool false))))])
  (.seq (.reg [.r 4 (.build [.d (.int .u8 0), .d (.int .u8 0), .d (.int .u8 0), .d (.int .u8 0), .d (.int .u8 0)] [(0, 1, .c (.d (.int .u8 42))), (1, 1, .c (.d (.int .u8 58))), (2, 1, .c (.d (.int .u8 94))), (3, 1, .c (.d (.int .u8 63))), (4, 1, .c (.d (.int .u8 126)))]),
     .c 5 (.f 15) [.t 4],
     .r 3 (.mv (.t 5)),
     .r 6 (.ext (.t 3) 0),
     .r 7 (.ext (.t 3) 1),
     .r 1 (.mv (.t 6)),
     .r 2 (.mv (.t 7))])
  (.seq (.reg (.r 8 (.mv (.t 2)) :: .r 9 (.bin .eql (.t 8) (.c (.d (.int .i64 0)))) :: .r 10 (.mv (.t 9)) :: gapp [11, 12, 13] 10 true (.r 11 (.mv (.t 1)) :: .r 12 (.cvbs (.t 11)) :: .r 13 (.bin .eql (.t 12) (.c (.d (.str [77, 82, 75, 42, 58, 94, 63, 126])))) :: []) (.r 14 (.pick (.t 10) (.t 13) (.c (.d (.bool false)))) :: .r 0 (.mv (.t 14)) :: [])))
  .ret)))
theorem fit_interchangelaw2_awake : fits Tryd.prog 21 Tryd.f21 sc_interchangelaw2_awake [.t 0] 0 = true := by kernel_rfl

set_option maxRecDepth 100000 in
set_option maxHeartbeats 40000000 in
noncomputable def sims_G6_1_0 : ({m : Option (Bool) // ∀ r, m = some r → PureSpec Tryd.prog 21 [] (.bool r)}) := by
  (apply Subtype.mk; intro r hm; apply pure_walk Tryd.func21 fit_interchangelaw2_awake; unfold sc_interchangelaw2_awake)
  repeat' (first | with_reducible refine W_seq ?_ | with_reducible refine W_reg ?_ | with_reducible refine W_block ?_ | with_reducible refine W_skip ?_ | with_reducible refine W_ret ?_ | with_reducible refine W_exit ?_ | with_reducible refine O_nil ?_ | with_reducible refine K_seq ?_ | with_reducible refine K_seqE ?_ | with_reducible refine K_seqR ?_ | with_reducible refine K_block ?_ | with_reducible refine K_blockR ?_ | with_reducible refine K_blockE ?_ | ((with_reducible apply K_blockN); decide) | ((with_reducible apply O_cvbsD); (simp only [push_cast, seval]; rfl)) | ((with_reducible apply O_cvbsL); (simp only [push_cast, seval]; rfl); (focus (repeat' (first | exact bytesC_nil | with_reducible apply bytesC_cons)))) | ((with_reducible apply O_cvbsV); (iterate 2 (simp only [push_cast, seval]; rfl))) | ((with_reducible apply O_r); (simp only [push_cast, seval]; rfl); (first | exact trivial | omega)) | ((with_reducible apply O_and hm); (simp only [push_cast, seval]; rfl); rfl; intro v hm; rotate_left; intro v g hm) | ((with_reducible apply W_condT); (focus (simp only [push_cast, seval]; done))) | ((with_reducible apply W_condF); (focus (simp only [push_cast, seval]; done))) | ((with_reducible apply O_cS hm); (simp only [push_cast, seval]; rfl); (focus (first | exact spec_wire_Heading _)); intro x hm) | ((with_reducible apply O_cF hm); (simp only [push_cast, seval]; rfl); (first | apply spec_wire_Heading _); (any_goals ((repeat' (first | rfl | (with_reducible first | apply fT_Tapi_Element | apply fT_Tapi_Marks | apply fT_Tapi_Segment | apply fT_Tapi_Spot | apply fT_Tinterchangeref2_piece | apply fT_Tinterchangeref2_writer | apply f_optN | apply f_optS | apply f_some | apply f_tup | apply f_agg | apply f_ptr | apply dv_slice | apply sv_d | apply f_cons | apply fold_nil | apply fold_cons | apply fold_app | apply f_rowI | apply f_rowY | apply f_rowS | apply f_rowB | apply f_rowL) | (with_reducible apply f_byte; decide))); done)); intro x hm) | ((with_reducible apply S_condB hm); (simp only [push_cast, seval]; rfl); intro hm; rotate_left; intro hm) | ((with_reducible apply K_endS hm); (focus (simp only [resOf, resL, RV.get, push_cast, seval]; rfl)); (focus ((repeat' (first | rfl | (with_reducible first | apply fT_Tapi_Element | apply fT_Tapi_Marks | apply fT_Tapi_Segment | apply fT_Tapi_Spot | apply fT_Tinterchangeref2_piece | apply fT_Tinterchangeref2_writer | apply f_optN | apply f_optS | apply f_some | apply f_tup | apply f_agg | apply f_ptr | apply dv_slice | apply sv_d | apply f_cons | apply fold_nil | apply fold_cons | apply fold_app | apply f_rowI | apply f_rowY | apply f_rowS | apply f_rowB | apply f_rowL) | (with_reducible apply f_byte; decide))); done))) | ((with_reducible apply K_bool hm); (simp only [push_cast, seval]; rfl)))
noncomputable def m_interchangelaw2_awake : Option (Bool) := (sims_G6_1_0 ).1
theorem spec_interchangelaw2_awake : ∀ r, m_interchangelaw2_awake  = some r → PureSpec Tryd.prog 21 [] (.bool r) := (sims_G6_1_0 ).2

end Go.Proofs.YteilhjdpbjgdpaaDoor
