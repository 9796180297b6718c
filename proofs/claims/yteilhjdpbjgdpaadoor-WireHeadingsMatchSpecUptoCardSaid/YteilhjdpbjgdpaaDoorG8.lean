/-
  Bodies of functions and what they compute, printed by programs of mine (wip/tool/gen.py, sc.py) out of the translation; the kernel holds each against the translation.
-/
import Derived.Test.YteilhjdpbjgdpaaDoorEngY
import Derived.Test.YteilhjdpbjgdpaaDoorProg
import Derived.KernelRfl
import Derived.Test.YteilhjdpbjgdpaaDoorLibT
import Derived.Test.YteilhjdpbjgdpaaDoorLibS
import Derived.Test.YteilhjdpbjgdpaaDoorLibH
import Derived.Test.YteilhjdpbjgdpaaDoorG1
import Derived.Test.YteilhjdpbjgdpaaDoorG2
import Derived.Test.YteilhjdpbjgdpaaDoorG3
import Derived.Test.YteilhjdpbjgdpaaDoorG4
import Derived.Test.YteilhjdpbjgdpaaDoorG6
namespace Go.Proofs.YteilhjdpbjgdpaaDoor
open Go.RowKit
set_option linter.unusedSimpArgs false
set_option linter.unusedVariables false
/-- bytes.Equal -/
def sc_bytes_Equal : SC :=
  (.seq (.reg [.r 4 (.mv (.c (.d (.bool false))))])
  (.seq (.reg [.r 5 (.mv (.t 0)),
     .r 6 (.cvbs (.t 5)),
     .r 7 (.mv (.t 1)),
     .r 8 (.cvbs (.t 7)),
     .r 9 (.bin .eql (.t 6) (.t 8)),
     .r 4 (.mv (.t 9))])
  .ret))
theorem fit_bytes_Equal : fits Tryd.prog 19 Tryd.f19 sc_bytes_Equal [.t 4] 2 = true := by kernel_rfl

set_option maxRecDepth 100000 in
set_option maxHeartbeats 40000000 in
noncomputable def sims_G8_0_0 : (∀ (x0 : List UInt8) (x1 : List UInt8), {m : Option (Bool) // ∀ r, m = some r → PureSpec Tryd.prog 19 [.slice (List.map rowY x0), .slice (List.map rowY x1)] (.bool r)}) := by
  (intro x0 x1; apply Subtype.mk; intro r hm; apply pure_walk Tryd.func19 fit_bytes_Equal; unfold sc_bytes_Equal)
  repeat' (first | with_reducible refine W_seq ?_ | with_reducible refine W_reg ?_ | with_reducible refine W_block ?_ | with_reducible refine W_skip ?_ | with_reducible refine W_ret ?_ | with_reducible refine W_exit ?_ | with_reducible refine O_nil ?_ | with_reducible refine K_seq ?_ | with_reducible refine K_seqE ?_ | with_reducible refine K_seqR ?_ | with_reducible refine K_block ?_ | with_reducible refine K_blockR ?_ | with_reducible refine K_blockE ?_ | ((with_reducible apply K_blockN); decide) | ((with_reducible apply O_cvbsD); (simp only [push_cast, seval]; rfl)) | ((with_reducible apply O_cvbsL); (simp only [push_cast, seval]; rfl); (focus (repeat' (first | exact bytesC_nil | with_reducible apply bytesC_cons)))) | ((with_reducible apply O_cvbsV); (iterate 2 (simp only [push_cast, seval]; rfl))) | ((with_reducible apply O_r); (simp only [push_cast, seval]; rfl); (first | exact trivial | omega)) | ((with_reducible apply W_condT); (focus (simp only [push_cast, seval]; done))) | ((with_reducible apply W_condF); (focus (simp only [push_cast, seval]; done))) | ((with_reducible apply S_condB hm); (simp only [push_cast, seval]; rfl); intro hm; rotate_left; intro hm) | ((with_reducible apply K_endS hm); (focus (simp only [resOf, resL, RV.get, push_cast, seval]; rfl)); (focus ((repeat' (first | rfl | (with_reducible first | apply fT_Tapi_Element | apply fT_Tapi_Marks | apply fT_Tapi_Segment | apply fT_Tapi_Spot | apply fT_Tinterchangeref2_piece | apply fT_Tinterchangeref2_writer | apply fT_Twire_place | apply fT_Twire_writer | apply f_optN | apply f_optS | apply f_some | apply f_tup | apply f_agg | apply f_ptr | apply dv_slice | apply sv_d | apply f_cons | apply fold_nil | apply fold_cons | apply fold_app | apply f_rowI | apply f_rowY | apply f_rowS | apply f_rowB | apply f_rowL) | (with_reducible apply f_byte; decide))); done))))
noncomputable def m_bytes_Equal (x0 : List UInt8) (x1 : List UInt8) : Option (Bool) := (sims_G8_0_0 x0 x1).1
theorem spec_bytes_Equal (x0 : List UInt8) (x1 : List UInt8) : ∀ r, m_bytes_Equal x0 x1 = some r → PureSpec Tryd.prog 19 [.slice (List.map rowY x0), .slice (List.map rowY x1)] (.bool r) := (sims_G8_0_0 x0 x1).2

/-- interchange/interchangelaw2.WireJoinsMatchSpec -/
def sc_interchangelaw2_WireJoinsMatchSpec : SC :=
  (.seq (.reg [.r 4 (.boxI (.t 1)),
     .r 6 (.mv (.c (.d (.bool false))))])
  (.seq (.reg [.r 12 (.mv (.t 0)),
     .o 13 (.ldA 5 (.t 4)),
     .r 14 (.mv (.t 2)),
     .c 15 (.f 38) [.t 12, .t 13, .t 14],
     .r 11 (.mv (.t 15)),
     .r 16 (.ext (.t 11) 0),
     .r 17 (.ext (.t 11) 1),
     .r 7 (.mv (.t 16)),
     .r 8 (.mv (.t 17))])
  (.seq (.reg [.r 19 (.mv (.t 0)),
     .o 20 (.ldA 5 (.t 4)),
     .r 21 (.mv (.t 2)),
     .c 22 (.f 39) [.t 19, .t 20, .t 21],
     .r 18 (.mv (.t 22)),
     .r 23 (.ext (.t 18) 0),
     .r 24 (.ext (.t 18) 1),
     .r 9 (.mv (.t 23)),
     .r 10 (.mv (.t 24))])
  (.seq (.reg (.r 25 (.mv (.t 7)) :: .r 26 (.mv (.t 9)) :: .c 27 (.f 19) [.t 25, .t 26] :: .r 28 (.mv (.t 27)) :: gapp [29, 30, 31] 28 true (.r 29 (.mv (.t 8)) :: .r 30 (.mv (.t 10)) :: .r 31 (.bin .eql (.t 29) (.t 30)) :: []) (.r 32 (.pick (.t 28) (.t 31) (.c (.d (.bool false)))) :: .r 33 (.mv (.t 32)) :: gapp [34] 33 true (.c 34 (.f 21) [] :: []) (.r 35 (.pick (.t 33) (.t 34) (.c (.d (.bool false)))) :: .r 6 (.mv (.t 35)) :: []))))
  .ret))))
theorem fit_interchangelaw2_WireJoinsMatchSpec : fits Tryd.prog 10 Tryd.f10 sc_interchangelaw2_WireJoinsMatchSpec [.t 6] 3 = true := by kernel_rfl

set_option maxRecDepth 100000 in
set_option maxHeartbeats 40000000 in
noncomputable def sims_G8_1_0 : (∀ (x0 : List Tapi_Segment) (x1 : Tapi_Marks) (x2 : Bool), {m : Option (Bool) // ∀ r, m = some r → PureSpec Tryd.prog 10 [.slice (List.map rTapi_Segment x0), .agg (rTapi_Marks x1), .bool x2] (.bool r)}) := by
  (intro x0 x1 x2; apply Subtype.mk; intro r hm; apply pure_walk Tryd.func10 fit_interchangelaw2_WireJoinsMatchSpec; unfold sc_interchangelaw2_WireJoinsMatchSpec)
  repeat' (first | with_reducible refine W_seq ?_ | with_reducible refine W_reg ?_ | with_reducible refine W_block ?_ | with_reducible refine W_skip ?_ | with_reducible refine W_ret ?_ | with_reducible refine W_exit ?_ | with_reducible refine O_nil ?_ | with_reducible refine K_seq ?_ | with_reducible refine K_seqE ?_ | with_reducible refine K_seqR ?_ | with_reducible refine K_block ?_ | with_reducible refine K_blockR ?_ | with_reducible refine K_blockE ?_ | ((with_reducible apply K_blockN); decide) | with_reducible refine O_o2r ?_ | ((with_reducible apply O_r); (simp only [push_cast, seval]; rfl); (first | exact trivial | omega)) | ((with_reducible apply O_and hm); (simp only [push_cast, seval]; rfl); rfl; intro v hm; rotate_left; intro v g hm) | ((with_reducible apply W_condT); (focus (simp only [push_cast, seval]; done))) | ((with_reducible apply W_condF); (focus (simp only [push_cast, seval]; done))) | ((with_reducible apply O_cS hm); (simp only [push_cast, seval]; rfl); (focus (first | exact spec_wire_Join _ _ _ | exact spec_interchangeref2_Join _ _ _ | exact spec_bytes_Equal _ _ | exact spec_interchangelaw2_awake)); intro x hm) | ((with_reducible apply O_cF hm); (simp only [push_cast, seval]; rfl); (first | apply spec_wire_Join _ _ _ | apply spec_interchangeref2_Join _ _ _ | apply spec_bytes_Equal _ _ | apply spec_interchangelaw2_awake); (any_goals ((repeat' (first | rfl | (with_reducible first | apply fT_Tapi_Element | apply fT_Tapi_Marks | apply fT_Tapi_Segment | apply fT_Tapi_Spot | apply fT_Tinterchangeref2_piece | apply fT_Tinterchangeref2_writer | apply fT_Twire_place | apply fT_Twire_writer | apply f_optN | apply f_optS | apply f_some | apply f_tup | apply f_agg | apply f_ptr | apply dv_slice | apply sv_d | apply f_cons | apply fold_nil | apply fold_cons | apply fold_app | apply f_rowI | apply f_rowY | apply f_rowS | apply f_rowB | apply f_rowL) | (with_reducible apply f_byte; decide))); done)); intro x hm) | ((with_reducible apply S_condB hm); (simp only [push_cast, seval]; rfl); intro hm; rotate_left; intro hm) | ((with_reducible apply K_endS hm); (focus (simp only [resOf, resL, RV.get, push_cast, seval]; rfl)); (focus ((repeat' (first | rfl | (with_reducible first | apply fT_Tapi_Element | apply fT_Tapi_Marks | apply fT_Tapi_Segment | apply fT_Tapi_Spot | apply fT_Tinterchangeref2_piece | apply fT_Tinterchangeref2_writer | apply fT_Twire_place | apply fT_Twire_writer | apply f_optN | apply f_optS | apply f_some | apply f_tup | apply f_agg | apply f_ptr | apply dv_slice | apply sv_d | apply f_cons | apply fold_nil | apply fold_cons | apply fold_app | apply f_rowI | apply f_rowY | apply f_rowS | apply f_rowB | apply f_rowL) | (with_reducible apply f_byte; decide))); done))) | ((with_reducible apply K_bool hm); (simp only [push_cast, seval]; rfl)))
noncomputable def m_interchangelaw2_WireJoinsMatchSpec (x0 : List Tapi_Segment) (x1 : Tapi_Marks) (x2 : Bool) : Option (Bool) := (sims_G8_1_0 x0 x1 x2).1
theorem spec_interchangelaw2_WireJoinsMatchSpec (x0 : List Tapi_Segment) (x1 : Tapi_Marks) (x2 : Bool) : ∀ r, m_interchangelaw2_WireJoinsMatchSpec x0 x1 x2 = some r → PureSpec Tryd.prog 10 [.slice (List.map rTapi_Segment x0), .agg (rTapi_Marks x1), .bool x2] (.bool r) := (sims_G8_1_0 x0 x1 x2).2

end Go.Proofs.YteilhjdpbjgdpaaDoor
