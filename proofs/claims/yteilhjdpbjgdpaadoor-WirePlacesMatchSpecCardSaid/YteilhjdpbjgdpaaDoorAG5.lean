/-
  Bodies of functions and what they compute, printed by programs of mine (wip/tool/gen.py, sc.py) out of the translation; the kernel holds each against the translation.
-/
import Derived.Test.YteilhjdpbjgdpaaDoorAEngY
import Derived.Test.YteilhjdpbjgdpaaDoorProg
import Derived.KernelRfl
import Derived.Test.YteilhjdpbjgdpaaDoorALibT
import Derived.Test.YteilhjdpbjgdpaaDoorALibS
import Derived.Test.YteilhjdpbjgdpaaDoorALibH
import Derived.Test.YteilhjdpbjgdpaaDoorAG1
import Derived.Test.YteilhjdpbjgdpaaDoorAG2
import Derived.Test.YteilhjdpbjgdpaaDoorAG3
import Derived.Test.YteilhjdpbjgdpaaDoorAG4
namespace Go.Proofs.YteilhjdpbjgdpaaDoor
open Go.RowKit
set_option linter.unusedSimpArgs false
set_option linter.unusedVariables false
structure Tapi_Range where
  fFrom : Int
  fTo : Int
  deriving DecidableEq
def rTapi_Range (x : Tapi_Range) : List DV := [.int .i64 x.fFrom, .int .i64 x.fTo]
attribute [push_cast] rTapi_Range
theorem fT_Tapi_Range {d0 d1 : DV} {v0 : Int} {v1 : Int} (h0 : d0 = .int .i64 v0) (h1 : d1 = .int .i64 v1) : [d0, d1] = rTapi_Range ⟨v0, v1⟩ := by unfold rTapi_Range; simp only [h0, h1, List.cons_append, List.nil_append, List.append_assoc, List.append_nil]
theorem cT_Tapi_Range {d0 d1 : SV} {v0 : Int} {v1 : Int} (h0 : svle d0 (.d (.int .i64 v0))) (h1 : svle d1 (.d (.int .i64 v1))) : cellsle [d0, d1] (dR (rTapi_Range ⟨v0, v1⟩)) := by have h := (cellsle.append (cellsle.consS h0 cellsle.nil) (cellsle.consS h1 cellsle.nil)); simpa only [rTapi_Range, dR, List.map_append, List.map_cons, List.map_nil, List.cons_append, List.nil_append, List.append_assoc, List.append_nil] using h
/-- interchange/kit.Outside -/
def sc_kit_Outside : SC :=
  (.seq (.reg [.r 6 (.mv (.c (.d (.bool false))))])
  (.seq (.reg (.r 7 (.mv (.t 0)) :: .r 8 (.mv (.t 1)) :: .r 9 (.bin .lss (.t 7) (.t 8)) :: .r 10 (.mv (.t 9)) :: gapp [11, 12, 13] 10 false (.r 11 (.mv (.t 0)) :: .r 12 (.mv (.t 2)) :: .r 13 (.bin .gtr (.t 11) (.t 12)) :: []) (.r 14 (.pick (.t 10) (.c (.d (.bool true))) (.t 13)) :: .r 6 (.mv (.t 14)) :: [])))
  .ret))
theorem fit_kit_Outside : fits Tryd.prog 70 Tryd.f70 sc_kit_Outside [.t 6] 3 = true := by kernel_rfl

/-- interchange/wire.Where$1 -/
def sc_wire_Where_1 : SC :=
  (.seq (.reg [.r 3 (.boxI (.t 0)),
     .r 4 (.mv (.c (.d (.bool false))))])
  (.seq (.reg (.r 5 (.fld 0 (.t 3)) :: .o 6 (.ld1 (.t 5)) :: .o 7 (.ld1 (.t 1)) :: .r 8 (.bin .eql (.t 6) (.t 7)) :: .r 9 (.mv (.t 8)) :: gapp [10, 11, 12, 13] 9 true (.r 10 (.fld 1 (.t 3)) :: .r 11 (.ldA 3 (.t 10)) :: .r 12 (.ldA 3 (.t 2)) :: .r 13 (.eqs .eql [(.int .i64), (.int .i64), (.int .i64)] (.t 11) (.t 12)) :: []) (.r 14 (.pick (.t 9) (.t 13) (.c (.d (.bool false)))) :: .r 4 (.mv (.t 14)) :: [])))
  .ret))
theorem fit_wire_Where_1 : fits Tryd.prog 73 Tryd.f73 sc_wire_Where_1 [.t 4] 3 = true := by kernel_rfl

def sc_slices_IndexFunc_interchange_wire_place_interchange_wire_place_L1 : SC :=
  (.seq (.reg [.r 9 (.bin .lss (.t 8) (.t 7))])
  (.seq (.cond (.t 9)
    .skip
    (.exit 0))
  (.seq (.block 1 (.seq (.reg [.r 10 (.mv (.t 8)),
       .r 5 (.mv (.t 10))])
    (.seq (.reg [.r 11 (.mv (.t 1)),
       .r 12 (.mv (.t 0)),
       .r 13 (.mv (.t 5)),
       .r 14 (.idx 6 (.t 12) (.t 13)),
       .o 15 (.ldA 6 (.t 14)),
       .c 16 (.t 11) [.t 15]])
    (.cond (.t 16)
      (.seq (.reg [.r 17 (.mv (.t 5)),
         .r 4 (.mv (.t 17))])
      .ret)
      .skip))))
  (.reg [.r 18 (.bin .add (.t 8) (.c (.d (.int .i64 1)))),
     .r 8 (.mv (.t 18))]))))
def sc_slices_IndexFunc_interchange_wire_place_interchange_wire_place_B1 : SC := .block 0 (.loop sc_slices_IndexFunc_interchange_wire_place_interchange_wire_place_L1)
/-- slices.IndexFunc[[]interchange/wire.place,interchange/wire.place] -/
def sc_slices_IndexFunc_interchange_wire_place_interchange_wire_place : SC :=
  (.seq (.reg [.r 4 (.mv (.c (.d (.int .i64 0))))])
  (.seq (.seq (.reg [.r 6 (.mv (.t 0)),
     .r 7 (.len (.t 6)),
     .r 8 (.mv (.c (.d (.int .i64 0))))])
  sc_slices_IndexFunc_interchange_wire_place_interchange_wire_place_B1)
  (.seq (.reg [.r 4 (.mv (.c (.d (.int .i64 (-1)))))])
  .ret)))
theorem fit_slices_IndexFunc_interchange_wire_place_interchange_wire_place : fits Tryd.prog 72 Tryd.f72 sc_slices_IndexFunc_interchange_wire_place_interchange_wire_place [.t 4] 2 = true := by kernel_rfl

/-- interchange/interchangeref2.within -/
def sc_interchangeref2_within : SC :=
  (.seq (.reg [.r 4 (.mv (.c (.d (.bool false))))])
  (.seq (.reg (.r 5 (.mv (.t 0)) :: .r 6 (.bin .geq (.t 5) (.c (.d (.int .i64 1)))) :: .r 7 (.mv (.t 6)) :: gapp [8, 9, 10] 7 true (.r 8 (.mv (.t 0)) :: .r 9 (.mv (.t 1)) :: .r 10 (.bin .leq (.t 8) (.t 9)) :: []) (.r 11 (.pick (.t 7) (.t 10) (.c (.d (.bool false)))) :: .r 4 (.mv (.t 11)) :: [])))
  .ret))
theorem fit_interchangeref2_within : fits Tryd.prog 87 Tryd.f87 sc_interchangeref2_within [.t 4] 2 = true := by kernel_rfl

set_option maxRecDepth 100000 in
set_option maxHeartbeats 40000000 in
noncomputable def sims_G5_0_0 : (∀ (x0 : Int) (x1 : Int) (x2 : Int), {m : Option (Bool) // ∀ r, m = some r → PureSpec Tryd.prog 70 [.int .i64 x0, .int .i64 x1, .int .i64 x2] (.bool r)}) × (∀ (x0 : Twire_place) (y0 : Int) (y1 : Tapi_Spot), {m : Option (Bool) // ∀ r, m = some r → PureSpec Tryd.prog 73 [.agg (rTwire_place x0), .ptr (rowI y0), .ptr (rTapi_Spot y1)] (.bool r)}) × (∀ (x0 : List Twire_place) (f1 : FuncId) (c1 : List DV) (p1 : Twire_place → Option (Bool)) (h1 : ∀ a0 r, p1 a0 = some r → PureSpec Tryd.prog f1 ([.agg (rTwire_place a0)] ++ c1) (.bool r)), {m : Option (Int) // ∀ r, m = some r → PureSpec Tryd.prog 72 [.slice (List.map rTwire_place x0), .fn f1 c1] (.int .i64 r)}) × (∀ (x0 : Int) (x1 : Int), {m : Option (Bool) // ∀ r, m = some r → PureSpec Tryd.prog 87 [.int .i64 x0, .int .i64 x1] (.bool r)}) := by
  refine ⟨?g0, ?g1, ?g2, ?g3⟩
  case' g0 => (intro x0 x1 x2; apply Subtype.mk; intro r hm; apply pure_walk Tryd.func70 fit_kit_Outside; unfold sc_kit_Outside)
  case' g1 => (intro x0 y0 y1; apply Subtype.mk; intro r hm; apply pure_walk Tryd.func73 fit_wire_Where_1; unfold sc_wire_Where_1)
  case' g2 => (intro x0 f1 c1 p1 h1; apply Subtype.mk; intro r hm; apply pure_walk Tryd.func72 fit_slices_IndexFunc_interchange_wire_place_interchange_wire_place; unfold sc_slices_IndexFunc_interchange_wire_place_interchange_wire_place)
  case' g3 => (intro x0 x1; apply Subtype.mk; intro r hm; apply pure_walk Tryd.func87 fit_interchangeref2_within; unfold sc_interchangeref2_within)
  all_goals (repeat' (first | with_reducible refine W_seq ?_ | with_reducible refine W_reg ?_ | with_reducible refine W_block ?_ | with_reducible refine W_skip ?_ | with_reducible refine W_ret ?_ | with_reducible refine W_exit ?_ | with_reducible refine O_nil ?_ | with_reducible refine K_seq ?_ | with_reducible refine K_seqE ?_ | with_reducible refine K_seqR ?_ | with_reducible refine K_block ?_ | with_reducible refine K_blockR ?_ | with_reducible refine K_blockE ?_ | ((with_reducible apply K_blockN); decide) | with_reducible refine O_o2r ?_ | ((with_reducible apply O_idxr hm); (iterate 2 (simp only [push_cast, seval]; rfl)); (intro _; rfl); intro e hm) | ((with_reducible apply O_idxVr hm); (iterate 3 (simp only [push_cast, seval]; rfl)); intro e hm) | ((with_reducible apply O_r); (simp only [push_cast, seval]; rfl); (first | exact trivial | omega)) | ((with_reducible apply O_ldV1r hm); (iterate 2 (simp only [push_cast, seval]; rfl)); (intro _; rfl); intro e hm) | ((with_reducible apply O_strr hm); (iterate 2 (simp only [push_cast, seval]; rfl)); intro hm) | ((with_reducible apply O_and hm); (simp only [push_cast, seval]; rfl); rfl; intro v hm; rotate_left; intro v g hm) | ((with_reducible apply O_or hm); (simp only [push_cast, seval]; rfl); rfl; intro v hm; rotate_left; intro v g hm) | ((with_reducible apply W_condT); (focus (simp only [push_cast, seval]; done))) | ((with_reducible apply W_condF); (focus (simp only [push_cast, seval]; done))) | ((with_reducible apply O_cS hm); (simp only [push_cast, seval]; rfl); (focus (first | exact h1 _)); intro x hm) | ((with_reducible apply O_cF hm); (simp only [push_cast, seval]; rfl); (first | apply h1 _); (any_goals ((repeat' (first | rfl | (with_reducible first | apply fT_Tapi_Element | apply fT_Tapi_Marks | apply fT_Tapi_Segment | apply fT_Tapi_Spot | apply fT_Tinterchangeref2_piece | apply fT_Tinterchangeref2_writer | apply fT_Twire_place | apply fT_Twire_writer | apply fT_Tapi_Range | apply f_optN | apply f_optS | apply f_some | apply f_tup | apply f_agg | apply f_ptr | apply dv_slice | apply sv_d | apply f_cons | apply fold_nil | apply fold_cons | apply fold_app | apply f_rowI | apply f_rowY | apply f_rowS | apply f_rowB | apply f_rowL) | (with_reducible apply f_byte; decide))); done)); intro x hm) | ((with_reducible apply O_cvS hm); (iterate 2 (simp only [push_cast, seval]; rfl)); (focus (first | exact h1 _)); intro x hm) | ((with_reducible apply S_condB hm); (simp only [push_cast, seval]; rfl); intro hm; rotate_left; intro hm) | ((with_reducible apply K_endS hm); (focus (simp only [resOf, resL, RV.get, push_cast, seval]; rfl)); (focus ((repeat' (first | rfl | (with_reducible first | apply fT_Tapi_Element | apply fT_Tapi_Marks | apply fT_Tapi_Segment | apply fT_Tapi_Spot | apply fT_Tinterchangeref2_piece | apply fT_Tinterchangeref2_writer | apply fT_Twire_place | apply fT_Twire_writer | apply fT_Tapi_Range | apply f_optN | apply f_optS | apply f_some | apply f_tup | apply f_agg | apply f_ptr | apply dv_slice | apply sv_d | apply f_cons | apply fold_nil | apply fold_cons | apply fold_app | apply f_rowI | apply f_rowY | apply f_rowS | apply f_rowB | apply f_rowL) | (with_reducible apply f_byte; decide))); done))) | ((with_reducible apply K_bool hm); (simp only [push_cast, seval]; rfl)) | ((with_reducible apply K_leave hm); intro r hm) | ((with_reducible apply K_leaveR hm); intro r hm) | ((apply S_loopX (b := 0) (X := sc_slices_IndexFunc_interchange_wire_place_interchange_wire_place_B1) (x := sc_slices_IndexFunc_interchange_wire_place_interchange_wire_place_L1) rfl (fun (c : SV × SV × SV) (s : Int) => st [(0, c.1), (1, c.2.1), (7, c.2.2), (8, .d (.int .i64 s))] []) (c := (_, _, _)) (s0 := _) hm); (focus (first | (dsimp only; done) | (dsimp only; rfl) | rfl)); (focus ((apply imp_stT; (repeat' (first | with_reducible exact keepT_nil | with_reducible exact keepC_nil | with_reducible apply keepT_cons | with_reducible apply keepC_cons | ((with_reducible apply svle_eq); (focus (first | (simp only [push_cast, seval]; rfl) | rfl)); (focus ((repeat' (first | rfl | (with_reducible first | apply fT_Tapi_Element | apply fT_Tapi_Marks | apply fT_Tapi_Segment | apply fT_Tapi_Spot | apply fT_Tinterchangeref2_piece | apply fT_Tinterchangeref2_writer | apply fT_Twire_place | apply fT_Twire_writer | apply fT_Tapi_Range | apply f_optN | apply f_optS | apply f_some | apply f_tup | apply f_agg | apply f_ptr | apply dv_slice | apply sv_d | apply f_cons | apply fold_nil | apply fold_cons | apply fold_app | apply f_rowI | apply f_rowY | apply f_rowS | apply f_rowB | apply f_rowL) | (with_reducible apply f_byte; decide))); done))) | ((with_reducible apply svle_td); (focus (first | (simp only [push_cast, seval]; rfl) | rfl)); (focus (first | (simp only [push_cast, seval]; rfl) | rfl)); (focus ((repeat' (first | rfl | (with_reducible first | apply fT_Tapi_Element | apply fT_Tapi_Marks | apply fT_Tapi_Segment | apply fT_Tapi_Spot | apply fT_Tinterchangeref2_piece | apply fT_Tinterchangeref2_writer | apply fT_Twire_place | apply fT_Twire_writer | apply fT_Tapi_Range | apply f_optN | apply f_optS | apply f_some | apply f_tup | apply f_agg | apply f_ptr | apply dv_slice | apply sv_d | apply f_cons | apply fold_nil | apply fold_cons | apply fold_app | apply f_rowI | apply f_rowY | apply f_rowS | apply f_rowB | apply f_rowL) | (with_reducible apply f_byte; decide))); done))) | ((with_reducible apply chle_eq); (focus (first | (simp only [push_cast, seval]; rfl) | rfl)); (first | with_reducible exact chle_rfl rfl | with_reducible exact chle_map0 | with_reducible apply chle_vec | with_reducible apply chle_box)) | (with_reducible first | apply cT_Tapi_Element | apply cT_Tapi_Marks | apply cT_Tapi_Segment | apply cT_Tapi_Spot | apply cT_Tinterchangeref2_piece | apply cT_Tinterchangeref2_writer | apply cT_Twire_place | apply cT_Twire_writer | apply cT_Tapi_Range | apply vc_rfl | apply vc_nil | apply vc_cons | apply r_rfl | apply r_rows | apply r_nil | apply r_app | apply r_cons | apply c_rowI | apply c_rowY | apply c_rowS | apply c_rowB | apply c_rowL))); done))); (focus (first | (dsimp only; done) | (dsimp only; rfl) | rfl)); (focus ((intro _; repeat' (first | with_reducible exact impC_end | with_reducible exact impC_endF | with_reducible refine impC_seq ?_ | with_reducible refine impC_block ?_ | ((with_reducible refine impC_rnd ?_); intro _) | ((with_reducible refine impC_brk ?_); intro _))))); (intro s o hm; unfold sc_slices_IndexFunc_interchange_wire_place_interchange_wire_place_L1); rotate_left; intro s hm) | ((apply K_next (s' := _) hm); (focus (first | (dsimp only; done) | (dsimp only; rfl) | rfl)); (focus ((apply imp_stT; (repeat' (first | with_reducible exact keepT_nil | with_reducible exact keepC_nil | with_reducible apply keepT_cons | with_reducible apply keepC_cons | ((with_reducible apply svle_eq); (focus (first | (simp only [push_cast, seval]; rfl) | rfl)); (focus ((repeat' (first | rfl | (with_reducible first | apply fT_Tapi_Element | apply fT_Tapi_Marks | apply fT_Tapi_Segment | apply fT_Tapi_Spot | apply fT_Tinterchangeref2_piece | apply fT_Tinterchangeref2_writer | apply fT_Twire_place | apply fT_Twire_writer | apply fT_Tapi_Range | apply f_optN | apply f_optS | apply f_some | apply f_tup | apply f_agg | apply f_ptr | apply dv_slice | apply sv_d | apply f_cons | apply fold_nil | apply fold_cons | apply fold_app | apply f_rowI | apply f_rowY | apply f_rowS | apply f_rowB | apply f_rowL) | (with_reducible apply f_byte; decide))); done))) | ((with_reducible apply svle_td); (focus (first | (simp only [push_cast, seval]; rfl) | rfl)); (focus (first | (simp only [push_cast, seval]; rfl) | rfl)); (focus ((repeat' (first | rfl | (with_reducible first | apply fT_Tapi_Element | apply fT_Tapi_Marks | apply fT_Tapi_Segment | apply fT_Tapi_Spot | apply fT_Tinterchangeref2_piece | apply fT_Tinterchangeref2_writer | apply fT_Twire_place | apply fT_Twire_writer | apply fT_Tapi_Range | apply f_optN | apply f_optS | apply f_some | apply f_tup | apply f_agg | apply f_ptr | apply dv_slice | apply sv_d | apply f_cons | apply fold_nil | apply fold_cons | apply fold_app | apply f_rowI | apply f_rowY | apply f_rowS | apply f_rowB | apply f_rowL) | (with_reducible apply f_byte; decide))); done))) | ((with_reducible apply chle_eq); (focus (first | (simp only [push_cast, seval]; rfl) | rfl)); (first | with_reducible exact chle_rfl rfl | with_reducible exact chle_map0 | with_reducible apply chle_vec | with_reducible apply chle_box)) | (with_reducible first | apply cT_Tapi_Element | apply cT_Tapi_Marks | apply cT_Tapi_Segment | apply cT_Tapi_Spot | apply cT_Tinterchangeref2_piece | apply cT_Tinterchangeref2_writer | apply cT_Twire_place | apply cT_Twire_writer | apply cT_Tapi_Range | apply vc_rfl | apply vc_nil | apply vc_cons | apply r_rfl | apply r_rows | apply r_nil | apply r_app | apply r_cons | apply c_rowI | apply c_rowY | apply c_rowS | apply c_rowB | apply c_rowL))); done)))) | ((apply K_brk (s' := _) hm); (focus (first | (dsimp only; done) | (dsimp only; rfl) | rfl)); (focus ((apply imp_stT; (repeat' (first | with_reducible exact keepT_nil | with_reducible exact keepC_nil | with_reducible apply keepT_cons | with_reducible apply keepC_cons | ((with_reducible apply svle_eq); (focus (first | (simp only [push_cast, seval]; rfl) | rfl)); (focus ((repeat' (first | rfl | (with_reducible first | apply fT_Tapi_Element | apply fT_Tapi_Marks | apply fT_Tapi_Segment | apply fT_Tapi_Spot | apply fT_Tinterchangeref2_piece | apply fT_Tinterchangeref2_writer | apply fT_Twire_place | apply fT_Twire_writer | apply fT_Tapi_Range | apply f_optN | apply f_optS | apply f_some | apply f_tup | apply f_agg | apply f_ptr | apply dv_slice | apply sv_d | apply f_cons | apply fold_nil | apply fold_cons | apply fold_app | apply f_rowI | apply f_rowY | apply f_rowS | apply f_rowB | apply f_rowL) | (with_reducible apply f_byte; decide))); done))) | ((with_reducible apply svle_td); (focus (first | (simp only [push_cast, seval]; rfl) | rfl)); (focus (first | (simp only [push_cast, seval]; rfl) | rfl)); (focus ((repeat' (first | rfl | (with_reducible first | apply fT_Tapi_Element | apply fT_Tapi_Marks | apply fT_Tapi_Segment | apply fT_Tapi_Spot | apply fT_Tinterchangeref2_piece | apply fT_Tinterchangeref2_writer | apply fT_Twire_place | apply fT_Twire_writer | apply fT_Tapi_Range | apply f_optN | apply f_optS | apply f_some | apply f_tup | apply f_agg | apply f_ptr | apply dv_slice | apply sv_d | apply f_cons | apply fold_nil | apply fold_cons | apply fold_app | apply f_rowI | apply f_rowY | apply f_rowS | apply f_rowB | apply f_rowL) | (with_reducible apply f_byte; decide))); done))) | ((with_reducible apply chle_eq); (focus (first | (simp only [push_cast, seval]; rfl) | rfl)); (first | with_reducible exact chle_rfl rfl | with_reducible exact chle_map0 | with_reducible apply chle_vec | with_reducible apply chle_box)) | (with_reducible first | apply cT_Tapi_Element | apply cT_Tapi_Marks | apply cT_Tapi_Segment | apply cT_Tapi_Spot | apply cT_Tinterchangeref2_piece | apply cT_Tinterchangeref2_writer | apply cT_Twire_place | apply cT_Twire_writer | apply cT_Tapi_Range | apply vc_rfl | apply vc_nil | apply vc_cons | apply r_rfl | apply r_rows | apply r_nil | apply r_app | apply r_cons | apply c_rowI | apply c_rowY | apply c_rowS | apply c_rowB | apply c_rowL))); done)))) | (((with_reducible apply K_brkN hm); (focus decide); intro r hm)) | (((with_reducible apply K_brkR hm); intro r hm))))
noncomputable def m_kit_Outside (x0 : Int) (x1 : Int) (x2 : Int) : Option (Bool) := (sims_G5_0_0.1 x0 x1 x2).1
theorem spec_kit_Outside (x0 : Int) (x1 : Int) (x2 : Int) : ∀ r, m_kit_Outside x0 x1 x2 = some r → PureSpec Tryd.prog 70 [.int .i64 x0, .int .i64 x1, .int .i64 x2] (.bool r) := (sims_G5_0_0.1 x0 x1 x2).2
noncomputable def m_wire_Where_1 (x0 : Twire_place) (y0 : Int) (y1 : Tapi_Spot) : Option (Bool) := (sims_G5_0_0.2.1 x0 y0 y1).1
theorem spec_wire_Where_1 (x0 : Twire_place) (y0 : Int) (y1 : Tapi_Spot) : ∀ r, m_wire_Where_1 x0 y0 y1 = some r → PureSpec Tryd.prog 73 [.agg (rTwire_place x0), .ptr (rowI y0), .ptr (rTapi_Spot y1)] (.bool r) := (sims_G5_0_0.2.1 x0 y0 y1).2
noncomputable def m_slices_IndexFunc_interchange_wire_place_interchange_wire_place (x0 : List Twire_place) (f1 : FuncId) (c1 : List DV) (p1 : Twire_place → Option (Bool)) (h1 : ∀ a0 r, p1 a0 = some r → PureSpec Tryd.prog f1 ([.agg (rTwire_place a0)] ++ c1) (.bool r)) : Option (Int) := (sims_G5_0_0.2.2.1 x0 f1 c1 p1 h1).1
theorem spec_slices_IndexFunc_interchange_wire_place_interchange_wire_place (x0 : List Twire_place) (f1 : FuncId) (c1 : List DV) (p1 : Twire_place → Option (Bool)) (h1 : ∀ a0 r, p1 a0 = some r → PureSpec Tryd.prog f1 ([.agg (rTwire_place a0)] ++ c1) (.bool r)) : ∀ r, m_slices_IndexFunc_interchange_wire_place_interchange_wire_place x0 f1 c1 p1 h1 = some r → PureSpec Tryd.prog 72 [.slice (List.map rTwire_place x0), .fn f1 c1] (.int .i64 r) := (sims_G5_0_0.2.2.1 x0 f1 c1 p1 h1).2
noncomputable def m_interchangeref2_within (x0 : Int) (x1 : Int) : Option (Bool) := (sims_G5_0_0.2.2.2 x0 x1).1
theorem spec_interchangeref2_within (x0 : Int) (x1 : Int) : ∀ r, m_interchangeref2_within x0 x1 = some r → PureSpec Tryd.prog 87 [.int .i64 x0, .int .i64 x1] (.bool r) := (sims_G5_0_0.2.2.2 x0 x1).2

/-- interchange/wire.spotRange -/
def sc_wire_spotRange : SC :=
  (.seq (.reg [.r 1 (.boxI (.t 0)),
     .r 2 (.mv (.c (.d (.int .i64 0))))])
  (.seq (.seq (.reg (.r 3 (.fld 0 (.t 1)) :: .o 4 (.ld1 (.t 3)) :: .c 5 (.f 70) [.t 4, .c (.d (.int .i64 1)), .c (.d (.int .i64 50))] :: .r 6 (.mv (.t 5)) :: gapp [7, 8, 9] 6 false (.r 7 (.fld 1 (.t 1)) :: .r 8 (.ld1 (.t 7)) :: .c 9 (.f 70) [.t 8, .c (.d (.int .i64 1)), .c (.d (.int .i64 20))] :: []) (.r 10 (.pick (.t 6) (.c (.d (.bool true))) (.t 9)) :: .r 11 (.mv (.t 10)) :: gapp [12, 13, 14] 11 false (.r 12 (.fld 2 (.t 1)) :: .r 13 (.ld1 (.t 12)) :: .c 14 (.f 70) [.t 13, .c (.d (.int .i64 1)), .c (.d (.int .i64 20))] :: []) (.r 15 (.pick (.t 11) (.c (.d (.bool true))) (.t 14)) :: []))))
  (.cond (.t 15)
    (.seq (.reg [.r 2 (.mv (.c (.d (.int .i64 1))))])
    .ret)
    .skip))
  (.seq (.reg [.r 2 (.mv (.c (.d (.int .i64 0))))])
  .ret)))
theorem fit_wire_spotRange : fits Tryd.prog 71 Tryd.f71 sc_wire_spotRange [.t 2] 1 = true := by kernel_rfl

/-- interchange/interchangeref2.checkSpot -/
def sc_interchangeref2_checkSpot : SC :=
  (.seq (.reg [.r 2 (.boxI (.t 0)),
     .r 3 (.boxI (.t 1)),
     .r 4 (.mv (.c (.d (.int .i64 0))))])
  (.seq (.seq (.reg [.o 6 (.ldA 2 (.t 2)),
     .c 7 (.f 56) [.t 6],
     .r 5 (.mv (.t 7))])
  (.seq (.reg [.r 8 (.mv (.t 5)),
     .r 9 (.bin .neq (.t 8) (.c (.d (.int .i64 0))))])
  (.cond (.t 9)
    (.seq (.reg [.r 10 (.mv (.t 5)),
       .r 4 (.mv (.t 10))])
    .ret)
    .skip)))
  (.seq (.seq (.reg (.r 11 (.fld 0 (.t 3)) :: .o 12 (.ld1 (.t 11)) :: .c 13 (.f 87) [.t 12, .c (.d (.int .i64 50))] :: .r 14 (.not (.t 13)) :: .r 15 (.mv (.t 14)) :: gapp [16, 17, 18, 19] 15 false (.r 16 (.fld 1 (.t 3)) :: .r 17 (.ld1 (.t 16)) :: .c 18 (.f 87) [.t 17, .c (.d (.int .i64 20))] :: .r 19 (.not (.t 18)) :: []) (.r 20 (.pick (.t 15) (.c (.d (.bool true))) (.t 19)) :: .r 21 (.mv (.t 20)) :: gapp [22, 23, 24, 25] 21 false (.r 22 (.fld 2 (.t 3)) :: .r 23 (.ld1 (.t 22)) :: .c 24 (.f 87) [.t 23, .c (.d (.int .i64 20))] :: .r 25 (.not (.t 24)) :: []) (.r 26 (.pick (.t 21) (.c (.d (.bool true))) (.t 25)) :: []))))
  (.cond (.t 26)
    (.seq (.reg [.r 4 (.mv (.c (.d (.int .i64 1))))])
    .ret)
    .skip))
  (.seq (.reg [.r 4 (.mv (.c (.d (.int .i64 0))))])
  .ret))))
theorem fit_interchangeref2_checkSpot : fits Tryd.prog 62 Tryd.f62 sc_interchangeref2_checkSpot [.t 4] 2 = true := by kernel_rfl

def sc_wire_SpotAt_L1 : SC :=
  (.seq (.seq (.reg (.r 37 (.mv (.t 13)) :: .r 38 (.bin .add (.t 37) (.c (.d (.int .i64 1)))) :: .r 39 (.mv (.t 11)) :: .r 40 (.nilc (.t 39)) :: .r 41 (.fld 8 (.t 40)) :: .o 42 (.ld1 (.t 41)) :: .r 43 (.len (.t 42)) :: .r 44 (.bin .lss (.t 38) (.t 43)) :: .r 45 (.mv (.t 44)) :: gapp [46, 47, 48, 49, 50, 51, 52, 53, 54, 55] 45 true (.r 46 (.mv (.t 11)) :: .r 47 (.nilc (.t 46)) :: .r 48 (.fld 8 (.t 47)) :: .r 49 (.ld1 (.t 48)) :: .r 50 (.mv (.t 13)) :: .r 51 (.bin .add (.t 50) (.c (.d (.int .i64 1)))) :: .r 52 (.idx 1 (.t 49) (.t 51)) :: .r 53 (.ld1 (.t 52)) :: .r 54 (.mv (.t 3)) :: .r 55 (.bin .leq (.t 53) (.t 54)) :: []) (.r 56 (.pick (.t 45) (.t 55) (.c (.d (.bool false)))) :: [])))
  (.cond (.t 56)
    .skip
    (.exit 0)))
  (.block 1 (.reg [.r 57 (.mv (.t 13)),
       .r 58 (.bin .add (.t 57) (.c (.d (.int .i64 1)))),
       .r 13 (.mv (.t 58))])))
def sc_wire_SpotAt_B1 : SC := .block 0 (.loop sc_wire_SpotAt_L1)
def sc_wire_SpotAt_L2 : SC :=
  (.seq (.reg [.r 66 (.bin .lss (.t 65) (.t 64))])
  (.seq (.cond (.t 66)
    .skip
    (.exit 2))
  (.seq (.block 3 (.seq (.reg [.r 67 (.idx 6 (.t 63) (.t 65)),
       .o 68 (.ldA 6 (.t 67)),
       .w 16 (.boxM (.c (.agg [.d (.int .i64 0), .d (.int .i64 0), .d (.int .i64 0), .d (.int .i64 0), .d (.int .i64 0), .d (.int .i64 0)]))),
       .w 0 (.st 6 (.t 16) (.t 68))])
    (.seq (.reg (.r 69 (.fld 0 (.t 16)) :: .o 70 (.ld1 (.t 69)) :: .r 71 (.mv (.t 13)) :: .r 72 (.bin .eql (.t 70) (.t 71)) :: .r 73 (.mv (.t 72)) :: gapp [74, 75, 76, 77, 78] 73 true (.r 74 (.fld 4 (.t 16)) :: .r 75 (.ld1 (.t 74)) :: .r 76 (.bin .sub (.t 75) (.c (.d (.int .i64 1)))) :: .r 77 (.mv (.t 3)) :: .r 78 (.bin .leq (.t 76) (.t 77)) :: []) (.r 79 (.pick (.t 73) (.t 78) (.c (.d (.bool false)))) :: [])))
    (.cond (.t 79)
      (.reg [.r 80 (.fld 1 (.t 16)),
         .o 81 (.ldA 3 (.t 80)),
         .w 0 (.st 3 (.t 14) (.t 81))])
      .skip))))
  (.reg [.r 82 (.bin .add (.t 65) (.c (.d (.int .i64 1)))),
     .r 65 (.mv (.t 82))]))))
def sc_wire_SpotAt_B2 : SC := .block 2 (.loop sc_wire_SpotAt_L2)
/-- interchange/wire.SpotAt -/
def sc_wire_SpotAt : SC :=
  (.seq (.reg [.r 5 (.boxI (.t 1)),
     .r 8 (.mv (.c (.d (.int .i64 0)))),
     .w 9 (.boxM (.c (.agg [.d (.int .i64 0), .d (.int .i64 0), .d (.int .i64 0)]))),
     .r 10 (.mv (.c (.d (.int .i64 0))))])
  (.seq (.reg [.r 18 (.mv (.t 0)),
     .o 19 (.ldA 5 (.t 5)),
     .r 20 (.mv (.t 2)),
     .c 21 (.f 68) [.t 18, .t 19, .t 20, .c (.d (.int .i64 500000))],
     .r 17 (.mv (.t 21)),
     .r 22 (.ext (.t 17) 0),
     .r 23 (.ext (.t 17) 1),
     .r 11 (.mv (.t 22)),
     .r 12 (.mv (.t 23))])
  (.seq (.seq (.reg [.r 24 (.mv (.t 12)),
     .r 25 (.bin .neq (.t 24) (.c (.d (.int .i64 0))))])
  (.cond (.t 25)
    (.seq (.reg [.r 26 (.build [.d (.int .i64 0), .d (.int .i64 0), .d (.int .i64 0)] []),
       .r 27 (.mv (.t 12)),
       .r 8 (.mv (.c (.d (.int .i64 0)))),
       .w 0 (.st 3 (.t 9) (.t 26)),
       .r 10 (.mv (.t 27))])
    .ret)
    .skip))
  (.seq (.seq (.reg [.r 28 (.mv (.t 3)),
     .r 29 (.mv (.t 11)),
     .r 30 (.nilc (.t 29)),
     .r 31 (.fld 6 (.t 30)),
     .o 32 (.ld1 (.t 31)),
     .r 33 (.len (.t 32)),
     .r 34 (.bin .sub (.t 33) (.c (.d (.int .i64 1)))),
     .c 35 (.f 70) [.t 28, .c (.d (.int .i64 0)), .t 34]])
  (.cond (.t 35)
    (.seq (.reg [.r 36 (.build [.d (.int .i64 0), .d (.int .i64 0), .d (.int .i64 0)] []),
       .r 8 (.mv (.c (.d (.int .i64 0)))),
       .w 0 (.st 3 (.t 9) (.t 36)),
       .r 10 (.mv (.c (.d (.int .i64 1))))])
    .ret)
    .skip))
  (.seq (.reg [.r 13 (.mv (.c (.d (.int .i64 0))))])
  (.seq sc_wire_SpotAt_B1
  (.seq (.reg [.r 59 (.build [.d (.int .i64 0), .d (.int .i64 0), .d (.int .i64 0)] []),
     .w 14 (.boxM (.c (.agg [.d (.int .i64 0), .d (.int .i64 0), .d (.int .i64 0)]))),
     .w 0 (.st 3 (.t 14) (.t 59))])
  (.seq (.seq (.reg [.r 60 (.mv (.t 11)),
     .r 61 (.nilc (.t 60)),
     .r 62 (.fld 7 (.t 61)),
     .o 63 (.ld1 (.t 62)),
     .r 64 (.len (.t 63)),
     .r 65 (.mv (.c (.d (.int .i64 0))))])
  sc_wire_SpotAt_B2)
  (.seq (.regE [.r 83 (.mv (.t 13)),
     .r 84 (.ldA 3 (.t 14)),
     .r 8 (.mv (.t 83)),
     .x 0 (.st 3 (.t 9) (.t 84)) [],
     .r 10 (.mv (.c (.d (.int .i64 0))))])
  .ret)))))))))
theorem fit_wire_SpotAt : fits Tryd.prog 42 Tryd.f42 sc_wire_SpotAt [.t 8, .cell 9 3, .t 10] 4 = true := by kernel_rfl

def sc_interchangeref2_SpotAt_L1 : SC :=
  (.seq (.seq (.reg [.r 46 (.mv (.t 15)),
     .r 47 (.mv (.t 12)),
     .r 48 (.nilc (.t 47)),
     .r 49 (.fld 6 (.t 48)),
     .o 50 (.ld1 (.t 49)),
     .r 51 (.len (.t 50)),
     .r 52 (.bin .lss (.t 46) (.t 51))])
  (.cond (.t 52)
    .skip
    (.exit 0)))
  (.seq (.block 1 (.seq (.reg [.r 55 (.mv (.t 12)),
       .r 56 (.nilc (.t 55)),
       .r 57 (.fld 6 (.t 56)),
       .o 58 (.ld1 (.t 57)),
       .r 59 (.mv (.t 15)),
       .r 60 (.idx 7 (.t 58) (.t 59)),
       .r 61 (.fld 4 (.t 60)),
       .o 62 (.ld1 (.t 61)),
       .r 63 (.mv (.t 3)),
       .r 64 (.bin .leq (.t 62) (.t 63))])
    (.cond (.t 64)
      (.reg [.r 65 (.mv (.t 15)),
         .r 14 (.mv (.t 65))])
      .skip)))
  (.reg [.r 53 (.mv (.t 15)),
     .r 54 (.bin .add (.t 53) (.c (.d (.int .i64 1)))),
     .r 15 (.mv (.t 54))])))
def sc_interchangeref2_SpotAt_B1 : SC := .block 0 (.loop sc_interchangeref2_SpotAt_L1)
/-- interchange/interchangeref2.SpotAt -/
def sc_interchangeref2_SpotAt : SC :=
  (.seq (.reg [.r 5 (.boxI (.t 1)),
     .r 8 (.mv (.c (.d (.int .i64 0)))),
     .w 9 (.boxM (.c (.agg [.d (.int .i64 0), .d (.int .i64 0), .d (.int .i64 0)]))),
     .r 10 (.mv (.c (.d (.int .i64 0))))])
  (.seq (.seq (.reg [.r 16 (.mv (.t 0)),
     .o 17 (.ldA 5 (.t 5)),
     .c 18 (.f 49) [.t 16, .t 17],
     .r 11 (.mv (.t 18))])
  (.seq (.reg [.r 19 (.mv (.t 11)),
     .r 20 (.bin .neq (.t 19) (.c (.d (.int .i64 0))))])
  (.cond (.t 20)
    (.seq (.reg [.r 21 (.build [.d (.int .i64 0), .d (.int .i64 0), .d (.int .i64 0)] []),
       .r 22 (.mv (.t 11)),
       .r 8 (.mv (.c (.d (.int .i64 0)))),
       .w 0 (.st 3 (.t 9) (.t 21)),
       .r 10 (.mv (.t 22))])
    .ret)
    .skip)))
  (.seq (.reg [.r 24 (.mv (.t 0)),
     .o 25 (.ldA 5 (.t 5)),
     .r 26 (.mv (.t 2)),
     .c 27 (.f 69) [.t 24, .t 25, .t 26, .c (.d (.int .i64 500000))],
     .r 23 (.mv (.t 27)),
     .r 28 (.ext (.t 23) 0),
     .r 29 (.ext (.t 23) 1),
     .r 12 (.mv (.t 28)),
     .r 13 (.mv (.t 29))])
  (.seq (.seq (.reg [.r 30 (.mv (.t 13)),
     .r 31 (.bin .neq (.t 30) (.c (.d (.int .i64 0))))])
  (.cond (.t 31)
    (.seq (.reg [.r 32 (.build [.d (.int .i64 0), .d (.int .i64 0), .d (.int .i64 0)] []),
       .r 33 (.mv (.t 13)),
       .r 8 (.mv (.c (.d (.int .i64 0)))),
       .w 0 (.st 3 (.t 9) (.t 32)),
       .r 10 (.mv (.t 33))])
    .ret)
    .skip))
  (.seq (.seq (.reg (.r 34 (.mv (.t 3)) :: .r 35 (.bin .lss (.t 34) (.c (.d (.int .i64 0)))) :: .r 36 (.mv (.t 35)) :: gapp [37, 38, 39, 40, 41, 42, 43] 36 false (.r 37 (.mv (.t 3)) :: .r 38 (.mv (.t 12)) :: .r 39 (.nilc (.t 38)) :: .r 40 (.fld 5 (.t 39)) :: .r 41 (.ld1 (.t 40)) :: .r 42 (.len (.t 41)) :: .r 43 (.bin .geq (.t 37) (.t 42)) :: []) (.r 44 (.pick (.t 36) (.c (.d (.bool true))) (.t 43)) :: [])))
  (.cond (.t 44)
    (.seq (.reg [.r 45 (.build [.d (.int .i64 0), .d (.int .i64 0), .d (.int .i64 0)] []),
       .r 8 (.mv (.c (.d (.int .i64 0)))),
       .w 0 (.st 3 (.t 9) (.t 45)),
       .r 10 (.mv (.c (.d (.int .i64 1))))])
    .ret)
    .skip))
  (.seq (.reg [.r 14 (.mv (.c (.d (.int .i64 0))))])
  (.seq (.seq (.reg [.r 15 (.mv (.c (.d (.int .i64 0))))])
  sc_interchangeref2_SpotAt_B1)
  (.seq (.regE [.r 66 (.mv (.t 12)),
     .r 67 (.nilc (.t 66)),
     .r 68 (.fld 6 (.t 67)),
     .r 69 (.ld1 (.t 68)),
     .r 70 (.mv (.t 14)),
     .r 71 (.idx 7 (.t 69) (.t 70)),
     .r 72 (.fld 0 (.t 71)),
     .r 73 (.ld1 (.t 72)),
     .r 74 (.mv (.t 12)),
     .r 75 (.nilc (.t 74)),
     .r 76 (.fld 6 (.t 75)),
     .r 77 (.ld1 (.t 76)),
     .r 78 (.mv (.t 14)),
     .r 79 (.idx 7 (.t 77) (.t 78)),
     .r 80 (.fld 1 (.t 79)),
     .r 81 (.ldA 3 (.t 80)),
     .r 8 (.mv (.t 73)),
     .x 0 (.st 3 (.t 9) (.t 81)) [],
     .r 10 (.mv (.c (.d (.int .i64 0))))])
  .ret))))))))
theorem fit_interchangeref2_SpotAt : fits Tryd.prog 43 Tryd.f43 sc_interchangeref2_SpotAt [.t 8, .cell 9 3, .t 10] 4 = true := by kernel_rfl

set_option maxRecDepth 100000 in
set_option maxHeartbeats 40000000 in
noncomputable def sims_G5_1_0 : (∀ (x0 : Tapi_Spot), {m : Option (Int) // ∀ r, m = some r → PureSpec Tryd.prog 71 [.agg (rTapi_Spot x0)] (.int .i64 r)}) × (∀ (x0 : Tapi_Segment) (x1 : Tapi_Spot), {m : Option (Int) // ∀ r, m = some r → PureSpec Tryd.prog 62 [.agg (rTapi_Segment x0), .agg (rTapi_Spot x1)] (.int .i64 r)}) × (∀ (x0 : List Tapi_Segment) (x1 : Tapi_Marks) (x2 : Bool) (x3 : Int), {m : Option (Int × Tapi_Spot × Int) // ∀ r, m = some r → PureSpec Tryd.prog 42 [.slice (List.map rTapi_Segment x0), .agg (rTapi_Marks x1), .bool x2, .int .i64 x3] (.tup [.int .i64 r.1, .agg (rTapi_Spot r.2.1), .int .i64 r.2.2])}) × (∀ (x0 : List Tapi_Segment) (x1 : Tapi_Marks) (x2 : Bool) (x3 : Int), {m : Option (Int × Tapi_Spot × Int) // ∀ r, m = some r → PureSpec Tryd.prog 43 [.slice (List.map rTapi_Segment x0), .agg (rTapi_Marks x1), .bool x2, .int .i64 x3] (.tup [.int .i64 r.1, .agg (rTapi_Spot r.2.1), .int .i64 r.2.2])}) := by
  refine ⟨?g0, ?g1, ?g2, ?g3⟩
  case' g0 => (intro x0; apply Subtype.mk; intro r hm; apply pure_walk Tryd.func71 fit_wire_spotRange; unfold sc_wire_spotRange)
  case' g1 => (intro x0 x1; apply Subtype.mk; intro r hm; apply pure_walk Tryd.func62 fit_interchangeref2_checkSpot; unfold sc_interchangeref2_checkSpot)
  case' g2 => (intro x0 x1 x2 x3; apply Subtype.mk; intro r hm; apply pure_walk Tryd.func42 fit_wire_SpotAt; unfold sc_wire_SpotAt)
  case' g3 => (intro x0 x1 x2 x3; apply Subtype.mk; intro r hm; apply pure_walk Tryd.func43 fit_interchangeref2_SpotAt; unfold sc_interchangeref2_SpotAt)
  all_goals (repeat' (first | with_reducible refine W_seq ?_ | with_reducible refine W_reg ?_ | with_reducible refine W_regE ?_ | with_reducible refine W_block ?_ | with_reducible refine W_skip ?_ | with_reducible refine W_ret ?_ | with_reducible refine W_exit ?_ | with_reducible refine O_nil ?_ | with_reducible refine K_seq ?_ | with_reducible refine K_seqE ?_ | with_reducible refine K_seqR ?_ | with_reducible refine K_block ?_ | with_reducible refine K_blockR ?_ | with_reducible refine K_blockE ?_ | ((with_reducible apply K_blockN); decide) | with_reducible refine O_o2r ?_ | ((with_reducible apply O_idxr hm); (iterate 2 (simp only [push_cast, seval]; rfl)); (intro _; rfl); intro e hm) | ((with_reducible apply O_idxVr hm); (iterate 3 (simp only [push_cast, seval]; rfl)); intro e hm) | ((with_reducible apply O_nilcO hm); (simp only [push_cast, seval]; rfl); intro a hm) | ((with_reducible apply O_r); (simp only [push_cast, seval]; rfl); (first | exact trivial | omega)) | ((with_reducible apply O_ldV1r hm); (iterate 2 (simp only [push_cast, seval]; rfl)); (intro _; rfl); intro e hm) | ((with_reducible apply O_strr hm); (iterate 2 (simp only [push_cast, seval]; rfl)); intro hm) | ((with_reducible apply O_and hm); (simp only [push_cast, seval]; rfl); rfl; intro v hm; rotate_left; intro v g hm) | ((with_reducible apply O_or hm); (simp only [push_cast, seval]; rfl); rfl; intro v hm; rotate_left; intro v g hm) | ((with_reducible apply W_condT); (focus (simp only [push_cast, seval]; done))) | ((with_reducible apply W_condF); (focus (simp only [push_cast, seval]; done))) | ((with_reducible apply O_cS hm); (simp only [push_cast, seval]; rfl); (focus (first | exact spec_kit_Outside _ _ _ | exact spec_interchangeref2_CheckOne _ | exact spec_interchangeref2_within _ _ | exact spec_wire_written _ _ _ _ | exact spec_interchangeref2_both _ _ | exact spec_interchangeref2_join _ _ _ _)); intro x hm) | ((with_reducible apply O_cF hm); (simp only [push_cast, seval]; rfl); (first | apply spec_kit_Outside _ _ _ | apply spec_interchangeref2_CheckOne _ | apply spec_interchangeref2_within _ _ | apply spec_wire_written _ _ _ _ | apply spec_interchangeref2_both _ _ | apply spec_interchangeref2_join _ _ _ _); (any_goals ((repeat' (first | rfl | (with_reducible first | apply fT_Tapi_Element | apply fT_Tapi_Marks | apply fT_Tapi_Segment | apply fT_Tapi_Spot | apply fT_Tinterchangeref2_piece | apply fT_Tinterchangeref2_writer | apply fT_Twire_place | apply fT_Twire_writer | apply fT_Tapi_Range | apply f_optN | apply f_optS | apply f_some | apply f_tup | apply f_agg | apply f_ptr | apply dv_slice | apply sv_d | apply f_cons | apply fold_nil | apply fold_cons | apply fold_app | apply f_rowI | apply f_rowY | apply f_rowS | apply f_rowB | apply f_rowL) | (with_reducible apply f_byte; decide))); done)); intro x hm) | ((with_reducible apply O_w); (simp only [push_cast, seval]; rfl); (first | exact trivial | omega)) | ((with_reducible apply O_x); (simp only [push_cast, seval]; rfl); (first | exact trivial | omega); (focus ((repeat' (first | exact Rer_nil | ((with_reducible apply Rer_cons); (focus (simp only [push_cast, seval]; rfl)); (focus (first | exact trivial | omega)); (focus (simp only [push_cast, seval]))))); done))) | ((with_reducible apply S_condB hm); (simp only [push_cast, seval]; rfl); intro hm; rotate_left; intro hm) | ((with_reducible apply K_end3 hm); (focus (simp only [resOf, resL, RV.get, push_cast, seval]; rfl)); (focus (first | (dsimp only; done) | (dsimp only; rfl) | rfl)); (focus ((repeat' (first | rfl | (with_reducible first | apply fT_Tapi_Element | apply fT_Tapi_Marks | apply fT_Tapi_Segment | apply fT_Tapi_Spot | apply fT_Tinterchangeref2_piece | apply fT_Tinterchangeref2_writer | apply fT_Twire_place | apply fT_Twire_writer | apply fT_Tapi_Range | apply f_optN | apply f_optS | apply f_some | apply f_tup | apply f_agg | apply f_ptr | apply dv_slice | apply sv_d | apply f_cons | apply fold_nil | apply fold_cons | apply fold_app | apply f_rowI | apply f_rowY | apply f_rowS | apply f_rowB | apply f_rowL) | (with_reducible apply f_byte; decide))); done))) | ((with_reducible apply K_endS hm); (focus (simp only [resOf, resL, RV.get, push_cast, seval]; rfl)); (focus ((repeat' (first | rfl | (with_reducible first | apply fT_Tapi_Element | apply fT_Tapi_Marks | apply fT_Tapi_Segment | apply fT_Tapi_Spot | apply fT_Tinterchangeref2_piece | apply fT_Tinterchangeref2_writer | apply fT_Twire_place | apply fT_Twire_writer | apply fT_Tapi_Range | apply f_optN | apply f_optS | apply f_some | apply f_tup | apply f_agg | apply f_ptr | apply dv_slice | apply sv_d | apply f_cons | apply fold_nil | apply fold_cons | apply fold_app | apply f_rowI | apply f_rowY | apply f_rowS | apply f_rowB | apply f_rowL) | (with_reducible apply f_byte; decide))); done))) | ((with_reducible apply K_bool hm); (simp only [push_cast, seval]; rfl)) | ((with_reducible apply K_leave hm); intro r hm) | ((with_reducible apply K_leaveR hm); intro r hm) | ((apply S_loopX (b := 0) (X := sc_wire_SpotAt_B1) (x := sc_wire_SpotAt_L1) rfl (fun (c : SV × Ch × SV) (s : Int) => st [(3, c.1), (9, .ref 9 0), (11, c.2.2), (13, .d (.int .i64 s))] [(9, c.2.1)]) (c := (_, _, _)) (s0 := _) hm); (focus (first | (dsimp only; done) | (dsimp only; rfl) | rfl)); (focus ((apply imp_stT; (repeat' (first | with_reducible exact keepT_nil | with_reducible exact keepC_nil | with_reducible apply keepT_cons | with_reducible apply keepC_cons | ((with_reducible apply svle_eq); (focus (first | (simp only [push_cast, seval]; rfl) | rfl)); (focus ((repeat' (first | rfl | (with_reducible first | apply fT_Tapi_Element | apply fT_Tapi_Marks | apply fT_Tapi_Segment | apply fT_Tapi_Spot | apply fT_Tinterchangeref2_piece | apply fT_Tinterchangeref2_writer | apply fT_Twire_place | apply fT_Twire_writer | apply fT_Tapi_Range | apply f_optN | apply f_optS | apply f_some | apply f_tup | apply f_agg | apply f_ptr | apply dv_slice | apply sv_d | apply f_cons | apply fold_nil | apply fold_cons | apply fold_app | apply f_rowI | apply f_rowY | apply f_rowS | apply f_rowB | apply f_rowL) | (with_reducible apply f_byte; decide))); done))) | ((with_reducible apply svle_td); (focus (first | (simp only [push_cast, seval]; rfl) | rfl)); (focus (first | (simp only [push_cast, seval]; rfl) | rfl)); (focus ((repeat' (first | rfl | (with_reducible first | apply fT_Tapi_Element | apply fT_Tapi_Marks | apply fT_Tapi_Segment | apply fT_Tapi_Spot | apply fT_Tinterchangeref2_piece | apply fT_Tinterchangeref2_writer | apply fT_Twire_place | apply fT_Twire_writer | apply fT_Tapi_Range | apply f_optN | apply f_optS | apply f_some | apply f_tup | apply f_agg | apply f_ptr | apply dv_slice | apply sv_d | apply f_cons | apply fold_nil | apply fold_cons | apply fold_app | apply f_rowI | apply f_rowY | apply f_rowS | apply f_rowB | apply f_rowL) | (with_reducible apply f_byte; decide))); done))) | ((with_reducible apply chle_eq); (focus (first | (simp only [push_cast, seval]; rfl) | rfl)); (first | with_reducible exact chle_rfl rfl | with_reducible exact chle_map0 | with_reducible apply chle_vec | with_reducible apply chle_box)) | (with_reducible first | apply cT_Tapi_Element | apply cT_Tapi_Marks | apply cT_Tapi_Segment | apply cT_Tapi_Spot | apply cT_Tinterchangeref2_piece | apply cT_Tinterchangeref2_writer | apply cT_Twire_place | apply cT_Twire_writer | apply cT_Tapi_Range | apply vc_rfl | apply vc_nil | apply vc_cons | apply r_rfl | apply r_rows | apply r_nil | apply r_app | apply r_cons | apply c_rowI | apply c_rowY | apply c_rowS | apply c_rowB | apply c_rowL))); done))); (focus (first | (dsimp only; done) | (dsimp only; rfl) | rfl)); (focus ((intro _; repeat' (first | with_reducible exact impC_end | with_reducible exact impC_endF | with_reducible refine impC_seq ?_ | with_reducible refine impC_block ?_ | ((with_reducible refine impC_rnd ?_); intro _) | ((with_reducible refine impC_brk ?_); intro _))))); (intro s o hm; unfold sc_wire_SpotAt_L1); rotate_left; intro s hm) | ((apply S_loopX (b := 2) (X := sc_wire_SpotAt_B2) (x := sc_wire_SpotAt_L2) rfl (fun (c : SV × Ch × SV × SV × SV) (s : Tapi_Spot × Int) => st [(3, c.1), (9, .ref 9 0), (13, c.2.2.1), (14, .ref 14 0), (63, c.2.2.2.1), (64, c.2.2.2.2), (65, .d (.int .i64 s.2))] [(9, c.2.1), (14, .box (dR (rTapi_Spot s.1)))]) (c := (_, _, _, _, _)) (s0 := (_, _)) hm); (focus (first | (dsimp only; done) | (dsimp only; rfl) | rfl)); (focus ((apply imp_stT; (repeat' (first | with_reducible exact keepT_nil | with_reducible exact keepC_nil | with_reducible apply keepT_cons | with_reducible apply keepC_cons | ((with_reducible apply svle_eq); (focus (first | (simp only [push_cast, seval]; rfl) | rfl)); (focus ((repeat' (first | rfl | (with_reducible first | apply fT_Tapi_Element | apply fT_Tapi_Marks | apply fT_Tapi_Segment | apply fT_Tapi_Spot | apply fT_Tinterchangeref2_piece | apply fT_Tinterchangeref2_writer | apply fT_Twire_place | apply fT_Twire_writer | apply fT_Tapi_Range | apply f_optN | apply f_optS | apply f_some | apply f_tup | apply f_agg | apply f_ptr | apply dv_slice | apply sv_d | apply f_cons | apply fold_nil | apply fold_cons | apply fold_app | apply f_rowI | apply f_rowY | apply f_rowS | apply f_rowB | apply f_rowL) | (with_reducible apply f_byte; decide))); done))) | ((with_reducible apply svle_td); (focus (first | (simp only [push_cast, seval]; rfl) | rfl)); (focus (first | (simp only [push_cast, seval]; rfl) | rfl)); (focus ((repeat' (first | rfl | (with_reducible first | apply fT_Tapi_Element | apply fT_Tapi_Marks | apply fT_Tapi_Segment | apply fT_Tapi_Spot | apply fT_Tinterchangeref2_piece | apply fT_Tinterchangeref2_writer | apply fT_Twire_place | apply fT_Twire_writer | apply fT_Tapi_Range | apply f_optN | apply f_optS | apply f_some | apply f_tup | apply f_agg | apply f_ptr | apply dv_slice | apply sv_d | apply f_cons | apply fold_nil | apply fold_cons | apply fold_app | apply f_rowI | apply f_rowY | apply f_rowS | apply f_rowB | apply f_rowL) | (with_reducible apply f_byte; decide))); done))) | ((with_reducible apply chle_eq); (focus (first | (simp only [push_cast, seval]; rfl) | rfl)); (first | with_reducible exact chle_rfl rfl | with_reducible exact chle_map0 | with_reducible apply chle_vec | with_reducible apply chle_box)) | (with_reducible first | apply cT_Tapi_Element | apply cT_Tapi_Marks | apply cT_Tapi_Segment | apply cT_Tapi_Spot | apply cT_Tinterchangeref2_piece | apply cT_Tinterchangeref2_writer | apply cT_Twire_place | apply cT_Twire_writer | apply cT_Tapi_Range | apply vc_rfl | apply vc_nil | apply vc_cons | apply r_rfl | apply r_rows | apply r_nil | apply r_app | apply r_cons | apply c_rowI | apply c_rowY | apply c_rowS | apply c_rowB | apply c_rowL))); done))); (focus (first | (dsimp only; done) | (dsimp only; rfl) | rfl)); (focus ((intro _; repeat' (first | with_reducible exact impC_end | with_reducible exact impC_endF | with_reducible refine impC_seq ?_ | with_reducible refine impC_block ?_ | ((with_reducible refine impC_rnd ?_); intro _) | ((with_reducible refine impC_brk ?_); intro _))))); (intro s o hm; unfold sc_wire_SpotAt_L2); rotate_left; intro s hm) | ((apply S_loopX (b := 0) (X := sc_interchangeref2_SpotAt_B1) (x := sc_interchangeref2_SpotAt_L1) rfl (fun (c : SV × Ch × SV) (s : Int × Int) => st [(3, c.1), (9, .ref 9 0), (12, c.2.2), (14, .d (.int .i64 s.1)), (15, .d (.int .i64 s.2))] [(9, c.2.1)]) (c := (_, _, _)) (s0 := (_, _)) hm); (focus (first | (dsimp only; done) | (dsimp only; rfl) | rfl)); (focus ((apply imp_stT; (repeat' (first | with_reducible exact keepT_nil | with_reducible exact keepC_nil | with_reducible apply keepT_cons | with_reducible apply keepC_cons | ((with_reducible apply svle_eq); (focus (first | (simp only [push_cast, seval]; rfl) | rfl)); (focus ((repeat' (first | rfl | (with_reducible first | apply fT_Tapi_Element | apply fT_Tapi_Marks | apply fT_Tapi_Segment | apply fT_Tapi_Spot | apply fT_Tinterchangeref2_piece | apply fT_Tinterchangeref2_writer | apply fT_Twire_place | apply fT_Twire_writer | apply fT_Tapi_Range | apply f_optN | apply f_optS | apply f_some | apply f_tup | apply f_agg | apply f_ptr | apply dv_slice | apply sv_d | apply f_cons | apply fold_nil | apply fold_cons | apply fold_app | apply f_rowI | apply f_rowY | apply f_rowS | apply f_rowB | apply f_rowL) | (with_reducible apply f_byte; decide))); done))) | ((with_reducible apply svle_td); (focus (first | (simp only [push_cast, seval]; rfl) | rfl)); (focus (first | (simp only [push_cast, seval]; rfl) | rfl)); (focus ((repeat' (first | rfl | (with_reducible first | apply fT_Tapi_Element | apply fT_Tapi_Marks | apply fT_Tapi_Segment | apply fT_Tapi_Spot | apply fT_Tinterchangeref2_piece | apply fT_Tinterchangeref2_writer | apply fT_Twire_place | apply fT_Twire_writer | apply fT_Tapi_Range | apply f_optN | apply f_optS | apply f_some | apply f_tup | apply f_agg | apply f_ptr | apply dv_slice | apply sv_d | apply f_cons | apply fold_nil | apply fold_cons | apply fold_app | apply f_rowI | apply f_rowY | apply f_rowS | apply f_rowB | apply f_rowL) | (with_reducible apply f_byte; decide))); done))) | ((with_reducible apply chle_eq); (focus (first | (simp only [push_cast, seval]; rfl) | rfl)); (first | with_reducible exact chle_rfl rfl | with_reducible exact chle_map0 | with_reducible apply chle_vec | with_reducible apply chle_box)) | (with_reducible first | apply cT_Tapi_Element | apply cT_Tapi_Marks | apply cT_Tapi_Segment | apply cT_Tapi_Spot | apply cT_Tinterchangeref2_piece | apply cT_Tinterchangeref2_writer | apply cT_Twire_place | apply cT_Twire_writer | apply cT_Tapi_Range | apply vc_rfl | apply vc_nil | apply vc_cons | apply r_rfl | apply r_rows | apply r_nil | apply r_app | apply r_cons | apply c_rowI | apply c_rowY | apply c_rowS | apply c_rowB | apply c_rowL))); done))); (focus (first | (dsimp only; done) | (dsimp only; rfl) | rfl)); (focus ((intro _; repeat' (first | with_reducible exact impC_end | with_reducible exact impC_endF | with_reducible refine impC_seq ?_ | with_reducible refine impC_block ?_ | ((with_reducible refine impC_rnd ?_); intro _) | ((with_reducible refine impC_brk ?_); intro _))))); (intro s o hm; unfold sc_interchangeref2_SpotAt_L1); rotate_left; intro s hm) | ((apply K_next (s' := (_, _)) hm); (focus (first | (dsimp only; done) | (dsimp only; rfl) | rfl)); (focus ((apply imp_stT; (repeat' (first | with_reducible exact keepT_nil | with_reducible exact keepC_nil | with_reducible apply keepT_cons | with_reducible apply keepC_cons | ((with_reducible apply svle_eq); (focus (first | (simp only [push_cast, seval]; rfl) | rfl)); (focus ((repeat' (first | rfl | (with_reducible first | apply fT_Tapi_Element | apply fT_Tapi_Marks | apply fT_Tapi_Segment | apply fT_Tapi_Spot | apply fT_Tinterchangeref2_piece | apply fT_Tinterchangeref2_writer | apply fT_Twire_place | apply fT_Twire_writer | apply fT_Tapi_Range | apply f_optN | apply f_optS | apply f_some | apply f_tup | apply f_agg | apply f_ptr | apply dv_slice | apply sv_d | apply f_cons | apply fold_nil | apply fold_cons | apply fold_app | apply f_rowI | apply f_rowY | apply f_rowS | apply f_rowB | apply f_rowL) | (with_reducible apply f_byte; decide))); done))) | ((with_reducible apply svle_td); (focus (first | (simp only [push_cast, seval]; rfl) | rfl)); (focus (first | (simp only [push_cast, seval]; rfl) | rfl)); (focus ((repeat' (first | rfl | (with_reducible first | apply fT_Tapi_Element | apply fT_Tapi_Marks | apply fT_Tapi_Segment | apply fT_Tapi_Spot | apply fT_Tinterchangeref2_piece | apply fT_Tinterchangeref2_writer | apply fT_Twire_place | apply fT_Twire_writer | apply fT_Tapi_Range | apply f_optN | apply f_optS | apply f_some | apply f_tup | apply f_agg | apply f_ptr | apply dv_slice | apply sv_d | apply f_cons | apply fold_nil | apply fold_cons | apply fold_app | apply f_rowI | apply f_rowY | apply f_rowS | apply f_rowB | apply f_rowL) | (with_reducible apply f_byte; decide))); done))) | ((with_reducible apply chle_eq); (focus (first | (simp only [push_cast, seval]; rfl) | rfl)); (first | with_reducible exact chle_rfl rfl | with_reducible exact chle_map0 | with_reducible apply chle_vec | with_reducible apply chle_box)) | (with_reducible first | apply cT_Tapi_Element | apply cT_Tapi_Marks | apply cT_Tapi_Segment | apply cT_Tapi_Spot | apply cT_Tinterchangeref2_piece | apply cT_Tinterchangeref2_writer | apply cT_Twire_place | apply cT_Twire_writer | apply cT_Tapi_Range | apply vc_rfl | apply vc_nil | apply vc_cons | apply r_rfl | apply r_rows | apply r_nil | apply r_app | apply r_cons | apply c_rowI | apply c_rowY | apply c_rowS | apply c_rowB | apply c_rowL))); done)))) | ((apply K_brk (s' := (_, _)) hm); (focus (first | (dsimp only; done) | (dsimp only; rfl) | rfl)); (focus ((apply imp_stT; (repeat' (first | with_reducible exact keepT_nil | with_reducible exact keepC_nil | with_reducible apply keepT_cons | with_reducible apply keepC_cons | ((with_reducible apply svle_eq); (focus (first | (simp only [push_cast, seval]; rfl) | rfl)); (focus ((repeat' (first | rfl | (with_reducible first | apply fT_Tapi_Element | apply fT_Tapi_Marks | apply fT_Tapi_Segment | apply fT_Tapi_Spot | apply fT_Tinterchangeref2_piece | apply fT_Tinterchangeref2_writer | apply fT_Twire_place | apply fT_Twire_writer | apply fT_Tapi_Range | apply f_optN | apply f_optS | apply f_some | apply f_tup | apply f_agg | apply f_ptr | apply dv_slice | apply sv_d | apply f_cons | apply fold_nil | apply fold_cons | apply fold_app | apply f_rowI | apply f_rowY | apply f_rowS | apply f_rowB | apply f_rowL) | (with_reducible apply f_byte; decide))); done))) | ((with_reducible apply svle_td); (focus (first | (simp only [push_cast, seval]; rfl) | rfl)); (focus (first | (simp only [push_cast, seval]; rfl) | rfl)); (focus ((repeat' (first | rfl | (with_reducible first | apply fT_Tapi_Element | apply fT_Tapi_Marks | apply fT_Tapi_Segment | apply fT_Tapi_Spot | apply fT_Tinterchangeref2_piece | apply fT_Tinterchangeref2_writer | apply fT_Twire_place | apply fT_Twire_writer | apply fT_Tapi_Range | apply f_optN | apply f_optS | apply f_some | apply f_tup | apply f_agg | apply f_ptr | apply dv_slice | apply sv_d | apply f_cons | apply fold_nil | apply fold_cons | apply fold_app | apply f_rowI | apply f_rowY | apply f_rowS | apply f_rowB | apply f_rowL) | (with_reducible apply f_byte; decide))); done))) | ((with_reducible apply chle_eq); (focus (first | (simp only [push_cast, seval]; rfl) | rfl)); (first | with_reducible exact chle_rfl rfl | with_reducible exact chle_map0 | with_reducible apply chle_vec | with_reducible apply chle_box)) | (with_reducible first | apply cT_Tapi_Element | apply cT_Tapi_Marks | apply cT_Tapi_Segment | apply cT_Tapi_Spot | apply cT_Tinterchangeref2_piece | apply cT_Tinterchangeref2_writer | apply cT_Twire_place | apply cT_Twire_writer | apply cT_Tapi_Range | apply vc_rfl | apply vc_nil | apply vc_cons | apply r_rfl | apply r_rows | apply r_nil | apply r_app | apply r_cons | apply c_rowI | apply c_rowY | apply c_rowS | apply c_rowB | apply c_rowL))); done)))) | ((apply K_next (s' := _) hm); (focus (first | (dsimp only; done) | (dsimp only; rfl) | rfl)); (focus ((apply imp_stT; (repeat' (first | with_reducible exact keepT_nil | with_reducible exact keepC_nil | with_reducible apply keepT_cons | with_reducible apply keepC_cons | ((with_reducible apply svle_eq); (focus (first | (simp only [push_cast, seval]; rfl) | rfl)); (focus ((repeat' (first | rfl | (with_reducible first | apply fT_Tapi_Element | apply fT_Tapi_Marks | apply fT_Tapi_Segment | apply fT_Tapi_Spot | apply fT_Tinterchangeref2_piece | apply fT_Tinterchangeref2_writer | apply fT_Twire_place | apply fT_Twire_writer | apply fT_Tapi_Range | apply f_optN | apply f_optS | apply f_some | apply f_tup | apply f_agg | apply f_ptr | apply dv_slice | apply sv_d | apply f_cons | apply fold_nil | apply fold_cons | apply fold_app | apply f_rowI | apply f_rowY | apply f_rowS | apply f_rowB | apply f_rowL) | (with_reducible apply f_byte; decide))); done))) | ((with_reducible apply svle_td); (focus (first | (simp only [push_cast, seval]; rfl) | rfl)); (focus (first | (simp only [push_cast, seval]; rfl) | rfl)); (focus ((repeat' (first | rfl | (with_reducible first | apply fT_Tapi_Element | apply fT_Tapi_Marks | apply fT_Tapi_Segment | apply fT_Tapi_Spot | apply fT_Tinterchangeref2_piece | apply fT_Tinterchangeref2_writer | apply fT_Twire_place | apply fT_Twire_writer | apply fT_Tapi_Range | apply f_optN | apply f_optS | apply f_some | apply f_tup | apply f_agg | apply f_ptr | apply dv_slice | apply sv_d | apply f_cons | apply fold_nil | apply fold_cons | apply fold_app | apply f_rowI | apply f_rowY | apply f_rowS | apply f_rowB | apply f_rowL) | (with_reducible apply f_byte; decide))); done))) | ((with_reducible apply chle_eq); (focus (first | (simp only [push_cast, seval]; rfl) | rfl)); (first | with_reducible exact chle_rfl rfl | with_reducible exact chle_map0 | with_reducible apply chle_vec | with_reducible apply chle_box)) | (with_reducible first | apply cT_Tapi_Element | apply cT_Tapi_Marks | apply cT_Tapi_Segment | apply cT_Tapi_Spot | apply cT_Tinterchangeref2_piece | apply cT_Tinterchangeref2_writer | apply cT_Twire_place | apply cT_Twire_writer | apply cT_Tapi_Range | apply vc_rfl | apply vc_nil | apply vc_cons | apply r_rfl | apply r_rows | apply r_nil | apply r_app | apply r_cons | apply c_rowI | apply c_rowY | apply c_rowS | apply c_rowB | apply c_rowL))); done)))) | ((apply K_brk (s' := _) hm); (focus (first | (dsimp only; done) | (dsimp only; rfl) | rfl)); (focus ((apply imp_stT; (repeat' (first | with_reducible exact keepT_nil | with_reducible exact keepC_nil | with_reducible apply keepT_cons | with_reducible apply keepC_cons | ((with_reducible apply svle_eq); (focus (first | (simp only [push_cast, seval]; rfl) | rfl)); (focus ((repeat' (first | rfl | (with_reducible first | apply fT_Tapi_Element | apply fT_Tapi_Marks | apply fT_Tapi_Segment | apply fT_Tapi_Spot | apply fT_Tinterchangeref2_piece | apply fT_Tinterchangeref2_writer | apply fT_Twire_place | apply fT_Twire_writer | apply fT_Tapi_Range | apply f_optN | apply f_optS | apply f_some | apply f_tup | apply f_agg | apply f_ptr | apply dv_slice | apply sv_d | apply f_cons | apply fold_nil | apply fold_cons | apply fold_app | apply f_rowI | apply f_rowY | apply f_rowS | apply f_rowB | apply f_rowL) | (with_reducible apply f_byte; decide))); done))) | ((with_reducible apply svle_td); (focus (first | (simp only [push_cast, seval]; rfl) | rfl)); (focus (first | (simp only [push_cast, seval]; rfl) | rfl)); (focus ((repeat' (first | rfl | (with_reducible first | apply fT_Tapi_Element | apply fT_Tapi_Marks | apply fT_Tapi_Segment | apply fT_Tapi_Spot | apply fT_Tinterchangeref2_piece | apply fT_Tinterchangeref2_writer | apply fT_Twire_place | apply fT_Twire_writer | apply fT_Tapi_Range | apply f_optN | apply f_optS | apply f_some | apply f_tup | apply f_agg | apply f_ptr | apply dv_slice | apply sv_d | apply f_cons | apply fold_nil | apply fold_cons | apply fold_app | apply f_rowI | apply f_rowY | apply f_rowS | apply f_rowB | apply f_rowL) | (with_reducible apply f_byte; decide))); done))) | ((with_reducible apply chle_eq); (focus (first | (simp only [push_cast, seval]; rfl) | rfl)); (first | with_reducible exact chle_rfl rfl | with_reducible exact chle_map0 | with_reducible apply chle_vec | with_reducible apply chle_box)) | (with_reducible first | apply cT_Tapi_Element | apply cT_Tapi_Marks | apply cT_Tapi_Segment | apply cT_Tapi_Spot | apply cT_Tinterchangeref2_piece | apply cT_Tinterchangeref2_writer | apply cT_Twire_place | apply cT_Twire_writer | apply cT_Tapi_Range | apply vc_rfl | apply vc_nil | apply vc_cons | apply r_rfl | apply r_rows | apply r_nil | apply r_app | apply r_cons | apply c_rowI | apply c_rowY | apply c_rowS | apply c_rowB | apply c_rowL))); done)))) | (((with_reducible apply K_brkN hm); (focus decide); intro r hm)) | (((with_reducible apply K_brkR hm); intro r hm))))
noncomputable def m_wire_spotRange (x0 : Tapi_Spot) : Option (Int) := (sims_G5_1_0.1 x0).1
theorem spec_wire_spotRange (x0 : Tapi_Spot) : ∀ r, m_wire_spotRange x0 = some r → PureSpec Tryd.prog 71 [.agg (rTapi_Spot x0)] (.int .i64 r) := (sims_G5_1_0.1 x0).2
noncomputable def m_interchangeref2_checkSpot (x0 : Tapi_Segment) (x1 : Tapi_Spot) : Option (Int) := (sims_G5_1_0.2.1 x0 x1).1
theorem spec_interchangeref2_checkSpot (x0 : Tapi_Segment) (x1 : Tapi_Spot) : ∀ r, m_interchangeref2_checkSpot x0 x1 = some r → PureSpec Tryd.prog 62 [.agg (rTapi_Segment x0), .agg (rTapi_Spot x1)] (.int .i64 r) := (sims_G5_1_0.2.1 x0 x1).2
noncomputable def m_wire_SpotAt (x0 : List Tapi_Segment) (x1 : Tapi_Marks) (x2 : Bool) (x3 : Int) : Option (Int × Tapi_Spot × Int) := (sims_G5_1_0.2.2.1 x0 x1 x2 x3).1
theorem spec_wire_SpotAt (x0 : List Tapi_Segment) (x1 : Tapi_Marks) (x2 : Bool) (x3 : Int) : ∀ r, m_wire_SpotAt x0 x1 x2 x3 = some r → PureSpec Tryd.prog 42 [.slice (List.map rTapi_Segment x0), .agg (rTapi_Marks x1), .bool x2, .int .i64 x3] (.tup [.int .i64 r.1, .agg (rTapi_Spot r.2.1), .int .i64 r.2.2]) := (sims_G5_1_0.2.2.1 x0 x1 x2 x3).2
noncomputable def m_interchangeref2_SpotAt (x0 : List Tapi_Segment) (x1 : Tapi_Marks) (x2 : Bool) (x3 : Int) : Option (Int × Tapi_Spot × Int) := (sims_G5_1_0.2.2.2 x0 x1 x2 x3).1
theorem spec_interchangeref2_SpotAt (x0 : List Tapi_Segment) (x1 : Tapi_Marks) (x2 : Bool) (x3 : Int) : ∀ r, m_interchangeref2_SpotAt x0 x1 x2 x3 = some r → PureSpec Tryd.prog 43 [.slice (List.map rTapi_Segment x0), .agg (rTapi_Marks x1), .bool x2, .int .i64 x3] (.tup [.int .i64 r.1, .agg (rTapi_Spot r.2.1), .int .i64 r.2.2]) := (sims_G5_1_0.2.2.2 x0 x1 x2 x3).2

/-- interchange/wire.Where -/
def sc_wire_Where : SC :=
  (.seq (.reg [.r 6 (.boxI (.t 1)),
     .r 8 (.boxI (.t 3)),
     .r 9 (.boxI (.t 4)),
     .w 10 (.boxM (.c (.agg [.d (.int .i64 0), .d (.int .i64 0)]))),
     .r 11 (.mv (.c (.d (.int .i64 0))))])
  (.seq (.reg [.r 17 (.mv (.t 0)),
     .o 18 (.ldA 5 (.t 6)),
     .r 19 (.mv (.t 2)),
     .c 20 (.f 68) [.t 17, .t 18, .t 19, .c (.d (.int .i64 500000))],
     .r 16 (.mv (.t 20)),
     .r 21 (.ext (.t 16) 0),
     .r 22 (.ext (.t 16) 1),
     .r 12 (.mv (.t 21)),
     .r 13 (.mv (.t 22))])
  (.seq (.seq (.reg [.r 23 (.mv (.t 13)),
     .r 24 (.bin .neq (.t 23) (.c (.d (.int .i64 0))))])
  (.cond (.t 24)
    (.seq (.reg [.r 25 (.build [.d (.int .i64 0), .d (.int .i64 0)] []),
       .r 26 (.mv (.t 13)),
       .w 0 (.st 2 (.t 10) (.t 25)),
       .r 11 (.mv (.t 26))])
    .ret)
    .skip))
  (.seq (.seq (.reg [.o 27 (.ld1 (.t 8)),
     .r 28 (.mv (.t 0)),
     .r 29 (.len (.t 28)),
     .r 30 (.bin .sub (.t 29) (.c (.d (.int .i64 1)))),
     .c 31 (.f 70) [.t 27, .c (.d (.int .i64 0)), .t 30]])
  (.cond (.t 31)
    (.seq (.reg [.r 32 (.build [.d (.int .i64 0), .d (.int .i64 0)] []),
       .w 0 (.st 2 (.t 10) (.t 32)),
       .r 11 (.mv (.c (.d (.int .i64 1))))])
    .ret)
    .skip))
  (.seq (.seq (.reg [.o 33 (.ldA 3 (.t 9)),
     .c 34 (.f 71) [.t 33],
     .r 14 (.mv (.t 34))])
  (.seq (.reg [.r 35 (.mv (.t 14)),
     .r 36 (.bin .neq (.t 35) (.c (.d (.int .i64 0))))])
  (.cond (.t 36)
    (.seq (.reg [.r 37 (.build [.d (.int .i64 0), .d (.int .i64 0)] []),
       .r 38 (.mv (.t 14)),
       .w 0 (.st 2 (.t 10) (.t 37)),
       .r 11 (.mv (.t 38))])
    .ret)
    .skip)))
  (.seq (.reg [.r 39 (.mv (.t 12)),
     .r 40 (.nilc (.t 39)),
     .r 41 (.fld 7 (.t 40)),
     .o 42 (.ld1 (.t 41)),
     .r 43 (.mkfn 73 [.t 8, .t 9]),
     .c 44 (.f 72) [.t 42, .t 43],
     .r 15 (.mv (.t 44))])
  (.seq (.seq (.reg [.r 45 (.mv (.t 15)),
     .r 46 (.bin .lss (.t 45) (.c (.d (.int .i64 0))))])
  (.cond (.t 46)
    (.seq (.reg [.r 47 (.build [.d (.int .i64 0), .d (.int .i64 0)] []),
       .w 0 (.st 2 (.t 10) (.t 47)),
       .r 11 (.mv (.c (.d (.int .i64 9))))])
    .ret)
    .skip))
  (.seq (.regE [.r 48 (.mv (.t 12)),
     .r 49 (.nilc (.t 48)),
     .r 50 (.fld 7 (.t 49)),
     .r 51 (.ld1 (.t 50)),
     .r 52 (.mv (.t 15)),
     .r 53 (.idx 6 (.t 51) (.t 52)),
     .r 54 (.fld 4 (.t 53)),
     .r 55 (.ld1 (.t 54)),
     .r 56 (.mv (.t 12)),
     .r 57 (.nilc (.t 56)),
     .r 58 (.fld 7 (.t 57)),
     .r 59 (.ld1 (.t 58)),
     .r 60 (.mv (.t 15)),
     .r 61 (.idx 6 (.t 59) (.t 60)),
     .r 62 (.fld 5 (.t 61)),
     .r 63 (.ld1 (.t 62)),
     .r 64 (.build [.d (.int .i64 0), .d (.int .i64 0)] [(0, 1, .t 55), (1, 1, .t 63)]),
     .x 0 (.st 2 (.t 10) (.t 64)) [],
     .r 11 (.mv (.c (.d (.int .i64 0))))])
  .ret))))))))
theorem fit_wire_Where : fits Tryd.prog 40 Tryd.f40 sc_wire_Where [.cell 10 2, .t 11] 5 = true := by kernel_rfl

def sc_interchangeref2_Where_L1 : SC :=
  (.seq (.seq (.reg [.r 55 (.mv (.t 16)),
     .r 56 (.mv (.t 13)),
     .r 57 (.nilc (.t 56)),
     .r 58 (.fld 6 (.t 57)),
     .o 59 (.ld1 (.t 58)),
     .r 60 (.len (.t 59)),
     .r 61 (.bin .lss (.t 55) (.t 60))])
  (.cond (.t 61)
    .skip
    (.exit 0)))
  (.seq (.block 1 (.seq (.reg [.r 64 (.mv (.t 13)),
       .r 65 (.nilc (.t 64)),
       .r 66 (.fld 6 (.t 65)),
       .o 67 (.ld1 (.t 66)),
       .r 68 (.mv (.t 16)),
       .r 69 (.idx 7 (.t 67) (.t 68)),
       .o 70 (.ldA 7 (.t 69)),
       .w 17 (.boxM (.c (.agg [.d (.int .i64 0), .d (.int .i64 0), .d (.int .i64 0), .d (.int .i64 0), .d (.int .i64 0), .d (.int .i64 0), .d (.int .i64 0)]))),
       .w 0 (.st 7 (.t 17) (.t 70))])
    (.seq (.reg (.r 71 (.fld 0 (.t 17)) :: .o 72 (.ld1 (.t 71)) :: .r 73 (.mv (.t 3)) :: .r 74 (.bin .eql (.t 72) (.t 73)) :: .r 75 (.mv (.t 74)) :: gapp [76, 77, 78, 79] 75 true (.r 76 (.fld 1 (.t 17)) :: .r 77 (.ldA 3 (.t 76)) :: .r 78 (.ldA 3 (.t 9)) :: .r 79 (.eqs .eql [(.int .i64), (.int .i64), (.int .i64)] (.t 77) (.t 78)) :: []) (.r 80 (.pick (.t 75) (.t 79) (.c (.d (.bool false)))) :: [])))
    (.cond (.t 80)
      (.seq (.reg [.r 81 (.fld 5 (.t 17)),
         .o 82 (.ld1 (.t 81)),
         .r 83 (.fld 6 (.t 17)),
         .o 84 (.ld1 (.t 83)),
         .r 85 (.build [.d (.int .i64 0), .d (.int .i64 0)] [(0, 1, .t 82), (1, 1, .t 84)]),
         .w 0 (.st 2 (.t 10) (.t 85)),
         .r 11 (.mv (.c (.d (.int .i64 0))))])
      .ret)
      .skip))))
  (.reg [.r 62 (.mv (.t 16)),
     .r 63 (.bin .add (.t 62) (.c (.d (.int .i64 1)))),
     .r 16 (.mv (.t 63))])))
def sc_interchangeref2_Where_B1 : SC := .block 0 (.loop sc_interchangeref2_Where_L1)
/-- interchange/interchangeref2.Where -/
def sc_interchangeref2_Where : SC :=
  (.seq (.reg [.r 6 (.boxI (.t 1)),
     .r 9 (.boxI (.t 4)),
     .w 10 (.boxM (.c (.agg [.d (.int .i64 0), .d (.int .i64 0)]))),
     .r 11 (.mv (.c (.d (.int .i64 0))))])
  (.seq (.seq (.reg [.r 18 (.mv (.t 0)),
     .o 19 (.ldA 5 (.t 6)),
     .c 20 (.f 49) [.t 18, .t 19],
     .r 12 (.mv (.t 20))])
  (.seq (.reg [.r 21 (.mv (.t 12)),
     .r 22 (.bin .neq (.t 21) (.c (.d (.int .i64 0))))])
  (.cond (.t 22)
    (.seq (.reg [.r 23 (.build [.d (.int .i64 0), .d (.int .i64 0)] []),
       .r 24 (.mv (.t 12)),
       .w 0 (.st 2 (.t 10) (.t 23)),
       .r 11 (.mv (.t 24))])
    .ret)
    .skip)))
  (.seq (.reg [.r 26 (.mv (.t 0)),
     .o 27 (.ldA 5 (.t 6)),
     .r 28 (.mv (.t 2)),
     .c 29 (.f 69) [.t 26, .t 27, .t 28, .c (.d (.int .i64 500000))],
     .r 25 (.mv (.t 29)),
     .r 30 (.ext (.t 25) 0),
     .r 31 (.ext (.t 25) 1),
     .r 13 (.mv (.t 30)),
     .r 14 (.mv (.t 31))])
  (.seq (.seq (.reg [.r 32 (.mv (.t 14)),
     .r 33 (.bin .neq (.t 32) (.c (.d (.int .i64 0))))])
  (.cond (.t 33)
    (.seq (.reg [.r 34 (.build [.d (.int .i64 0), .d (.int .i64 0)] []),
       .r 35 (.mv (.t 14)),
       .w 0 (.st 2 (.t 10) (.t 34)),
       .r 11 (.mv (.t 35))])
    .ret)
    .skip))
  (.seq (.seq (.reg (.r 36 (.mv (.t 3)) :: .r 37 (.bin .lss (.t 36) (.c (.d (.int .i64 0)))) :: .r 38 (.mv (.t 37)) :: gapp [39, 40, 41, 42] 38 false (.r 39 (.mv (.t 3)) :: .r 40 (.mv (.t 0)) :: .r 41 (.len (.t 40)) :: .r 42 (.bin .geq (.t 39) (.t 41)) :: []) (.r 43 (.pick (.t 38) (.c (.d (.bool true))) (.t 42)) :: [])))
  (.cond (.t 43)
    (.seq (.reg [.r 44 (.build [.d (.int .i64 0), .d (.int .i64 0)] []),
       .w 0 (.st 2 (.t 10) (.t 44)),
       .r 11 (.mv (.c (.d (.int .i64 1))))])
    .ret)
    .skip))
  (.seq (.seq (.regD [.r 45 (.mv (.t 0)),
     .r 46 (.mv (.t 3)),
     .r 47 (.idx 2 (.t 45) (.t 46)),
     .r 48 (.ldA 2 (.t 47)),
     .r 49 (.ldA 3 (.t 9)),
     .c 50 (.f 62) [.t 48, .t 49],
     .r 15 (.mv (.t 50))])
  (.seq (.reg [.r 51 (.mv (.t 15)),
     .r 52 (.bin .neq (.t 51) (.c (.d (.int .i64 0))))])
  (.cond (.t 52)
    (.seq (.reg [.r 53 (.build [.d (.int .i64 0), .d (.int .i64 0)] []),
       .r 54 (.mv (.t 15)),
       .w 0 (.st 2 (.t 10) (.t 53)),
       .r 11 (.mv (.t 54))])
    .ret)
    .skip)))
  (.seq (.seq (.reg [.r 16 (.mv (.c (.d (.int .i64 0))))])
  sc_interchangeref2_Where_B1)
  (.seq (.reg [.r 86 (.build [.d (.int .i64 0), .d (.int .i64 0)] []),
     .w 0 (.st 2 (.t 10) (.t 86)),
     .r 11 (.mv (.c (.d (.int .i64 9))))])
  .ret))))))))
theorem fit_interchangeref2_Where : fits Tryd.prog 41 Tryd.f41 sc_interchangeref2_Where [.cell 10 2, .t 11] 5 = true := by kernel_rfl

set_option maxRecDepth 100000 in
set_option maxHeartbeats 40000000 in
noncomputable def sims_G5_2_0 : (∀ (x0 : List Tapi_Segment) (x1 : Tapi_Marks) (x2 : Bool) (x3 : Int) (x4 : Tapi_Spot), {m : Option (Tapi_Range × Int) // ∀ r, m = some r → PureSpec Tryd.prog 40 [.slice (List.map rTapi_Segment x0), .agg (rTapi_Marks x1), .bool x2, .int .i64 x3, .agg (rTapi_Spot x4)] (.tup [.agg (rTapi_Range r.1), .int .i64 r.2])}) × (∀ (x0 : List Tapi_Segment) (x1 : Tapi_Marks) (x2 : Bool) (x3 : Int) (x4 : Tapi_Spot), {m : Option (Tapi_Range × Int) // ∀ r, m = some r → PureSpec Tryd.prog 41 [.slice (List.map rTapi_Segment x0), .agg (rTapi_Marks x1), .bool x2, .int .i64 x3, .agg (rTapi_Spot x4)] (.tup [.agg (rTapi_Range r.1), .int .i64 r.2])}) := by
  refine ⟨?g0, ?g1⟩
  case' g0 => (intro x0 x1 x2 x3 x4; apply Subtype.mk; intro r hm; apply pure_walk Tryd.func40 fit_wire_Where; unfold sc_wire_Where)
  case' g1 => (intro x0 x1 x2 x3 x4; apply Subtype.mk; intro r hm; apply pure_walk Tryd.func41 fit_interchangeref2_Where; unfold sc_interchangeref2_Where)
  all_goals (repeat' (first | with_reducible refine W_seq ?_ | with_reducible refine W_reg ?_ | with_reducible refine W_regD ?_ | with_reducible refine W_regE ?_ | with_reducible refine W_block ?_ | with_reducible refine W_skip ?_ | with_reducible refine W_ret ?_ | with_reducible refine W_exit ?_ | with_reducible refine O_nil ?_ | with_reducible refine K_seq ?_ | with_reducible refine K_seqE ?_ | with_reducible refine K_seqR ?_ | with_reducible refine K_block ?_ | with_reducible refine K_blockR ?_ | with_reducible refine K_blockE ?_ | ((with_reducible apply K_blockN); decide) | with_reducible refine O_o2r ?_ | ((with_reducible apply O_idxr hm); (iterate 2 (simp only [push_cast, seval]; rfl)); (intro _; rfl); intro e hm) | ((with_reducible apply O_idxVr hm); (iterate 3 (simp only [push_cast, seval]; rfl)); intro e hm) | ((with_reducible apply O_nilcO hm); (simp only [push_cast, seval]; rfl); intro a hm) | ((with_reducible apply O_r); (simp only [push_cast, seval]; rfl); (first | exact trivial | omega)) | ((with_reducible apply O_ldV1r hm); (iterate 2 (simp only [push_cast, seval]; rfl)); (intro _; rfl); intro e hm) | ((with_reducible apply O_strr hm); (iterate 2 (simp only [push_cast, seval]; rfl)); intro hm) | ((with_reducible apply O_and hm); (simp only [push_cast, seval]; rfl); rfl; intro v hm; rotate_left; intro v g hm) | ((with_reducible apply O_or hm); (simp only [push_cast, seval]; rfl); rfl; intro v hm; rotate_left; intro v g hm) | ((with_reducible apply W_condT); (focus (simp only [push_cast, seval]; done))) | ((with_reducible apply W_condF); (focus (simp only [push_cast, seval]; done))) | ((with_reducible apply O_cS hm); (simp only [push_cast, seval]; rfl); (focus (first | exact spec_wire_written _ _ _ _ | exact spec_kit_Outside _ _ _ | exact spec_wire_spotRange _ | exact spec_slices_IndexFunc_interchange_wire_place_interchange_wire_place _ _ _ _ (fun a0 r h => spec_wire_Where_1 a0 _ _ r h) | exact spec_slices_IndexFunc_interchange_wire_place_interchange_wire_place _ _ _ _ (fun a0 a1 a2 a3 r h => spec_wire_written a0 a1 a2 a3 r h) | exact spec_slices_IndexFunc_interchange_wire_place_interchange_wire_place _ _ _ _ (fun a0 a1 a2 r h => spec_kit_Outside a0 a1 a2 r h) | exact spec_slices_IndexFunc_interchange_wire_place_interchange_wire_place _ _ _ _ (fun a0 r h => spec_wire_spotRange a0 r h) | exact spec_wire_Where_1 _ _ _ | exact spec_interchangeref2_both _ _ | exact spec_interchangeref2_join _ _ _ _ | exact spec_interchangeref2_checkSpot _ _)); intro x hm) | ((with_reducible apply O_cF hm); (simp only [push_cast, seval]; rfl); (first | apply spec_wire_written _ _ _ _ | apply spec_kit_Outside _ _ _ | apply spec_wire_spotRange _ | apply spec_slices_IndexFunc_interchange_wire_place_interchange_wire_place _ _ _ _ (fun a0 r h => spec_wire_Where_1 a0 _ _ r h) | apply spec_slices_IndexFunc_interchange_wire_place_interchange_wire_place _ _ _ _ (fun a0 a1 a2 a3 r h => spec_wire_written a0 a1 a2 a3 r h) | apply spec_slices_IndexFunc_interchange_wire_place_interchange_wire_place _ _ _ _ (fun a0 a1 a2 r h => spec_kit_Outside a0 a1 a2 r h) | apply spec_slices_IndexFunc_interchange_wire_place_interchange_wire_place _ _ _ _ (fun a0 r h => spec_wire_spotRange a0 r h) | apply spec_wire_Where_1 _ _ _ | apply spec_interchangeref2_both _ _ | apply spec_interchangeref2_join _ _ _ _ | apply spec_interchangeref2_checkSpot _ _); (any_goals ((repeat' (first | rfl | (with_reducible first | apply fT_Tapi_Element | apply fT_Tapi_Marks | apply fT_Tapi_Segment | apply fT_Tapi_Spot | apply fT_Tinterchangeref2_piece | apply fT_Tinterchangeref2_writer | apply fT_Twire_place | apply fT_Twire_writer | apply fT_Tapi_Range | apply f_optN | apply f_optS | apply f_some | apply f_tup | apply f_agg | apply f_ptr | apply dv_slice | apply sv_d | apply f_cons | apply fold_nil | apply fold_cons | apply fold_app | apply f_rowI | apply f_rowY | apply f_rowS | apply f_rowB | apply f_rowL) | (with_reducible apply f_byte; decide))); done)); intro x hm) | ((with_reducible apply O_cvS hm); (iterate 2 (simp only [push_cast, seval]; rfl)); (focus (first | exact spec_wire_written _ _ _ _ | exact spec_kit_Outside _ _ _ | exact spec_wire_spotRange _ | exact spec_slices_IndexFunc_interchange_wire_place_interchange_wire_place _ _ _ _ (fun a0 r h => spec_wire_Where_1 a0 _ _ r h) | exact spec_slices_IndexFunc_interchange_wire_place_interchange_wire_place _ _ _ _ (fun a0 a1 a2 a3 r h => spec_wire_written a0 a1 a2 a3 r h) | exact spec_slices_IndexFunc_interchange_wire_place_interchange_wire_place _ _ _ _ (fun a0 a1 a2 r h => spec_kit_Outside a0 a1 a2 r h) | exact spec_slices_IndexFunc_interchange_wire_place_interchange_wire_place _ _ _ _ (fun a0 r h => spec_wire_spotRange a0 r h) | exact spec_wire_Where_1 _ _ _ | exact spec_interchangeref2_both _ _ | exact spec_interchangeref2_join _ _ _ _ | exact spec_interchangeref2_checkSpot _ _)); intro x hm) | ((with_reducible apply O_w); (simp only [push_cast, seval]; rfl); (first | exact trivial | omega)) | ((with_reducible apply O_x); (simp only [push_cast, seval]; rfl); (first | exact trivial | omega); (focus ((repeat' (first | exact Rer_nil | ((with_reducible apply Rer_cons); (focus (simp only [push_cast, seval]; rfl)); (focus (first | exact trivial | omega)); (focus (simp only [push_cast, seval]))))); done))) | ((with_reducible apply S_condB hm); (simp only [push_cast, seval]; rfl); intro hm; rotate_left; intro hm) | ((with_reducible apply K_end2 hm); (focus (simp only [resOf, resL, RV.get, push_cast, seval]; rfl)); (focus (first | (dsimp only; done) | (dsimp only; rfl) | rfl)); (focus ((repeat' (first | rfl | (with_reducible first | apply fT_Tapi_Element | apply fT_Tapi_Marks | apply fT_Tapi_Segment | apply fT_Tapi_Spot | apply fT_Tinterchangeref2_piece | apply fT_Tinterchangeref2_writer | apply fT_Twire_place | apply fT_Twire_writer | apply fT_Tapi_Range | apply f_optN | apply f_optS | apply f_some | apply f_tup | apply f_agg | apply f_ptr | apply dv_slice | apply sv_d | apply f_cons | apply fold_nil | apply fold_cons | apply fold_app | apply f_rowI | apply f_rowY | apply f_rowS | apply f_rowB | apply f_rowL) | (with_reducible apply f_byte; decide))); done))) | ((with_reducible apply K_bool hm); (simp only [push_cast, seval]; rfl)) | ((with_reducible apply K_leave hm); intro r hm) | ((with_reducible apply K_leaveR hm); intro r hm) | ((apply S_loopX (b := 0) (X := sc_interchangeref2_Where_B1) (x := sc_interchangeref2_Where_L1) rfl (fun (c : SV × SV × SV) (s : Tapi_Range × Int) => st [(3, c.1), (9, c.2.1), (10, .ref 10 0), (13, c.2.2), (16, .d (.int .i64 s.2))] [(10, .box (dR (rTapi_Range s.1)))]) (c := (_, _, _)) (s0 := (_, _)) hm); (focus (first | (dsimp only; done) | (dsimp only; rfl) | rfl)); (focus ((apply imp_stT; (repeat' (first | with_reducible exact keepT_nil | with_reducible exact keepC_nil | with_reducible apply keepT_cons | with_reducible apply keepC_cons | ((with_reducible apply svle_eq); (focus (first | (simp only [push_cast, seval]; rfl) | rfl)); (focus ((repeat' (first | rfl | (with_reducible first | apply fT_Tapi_Element | apply fT_Tapi_Marks | apply fT_Tapi_Segment | apply fT_Tapi_Spot | apply fT_Tinterchangeref2_piece | apply fT_Tinterchangeref2_writer | apply fT_Twire_place | apply fT_Twire_writer | apply fT_Tapi_Range | apply f_optN | apply f_optS | apply f_some | apply f_tup | apply f_agg | apply f_ptr | apply dv_slice | apply sv_d | apply f_cons | apply fold_nil | apply fold_cons | apply fold_app | apply f_rowI | apply f_rowY | apply f_rowS | apply f_rowB | apply f_rowL) | (with_reducible apply f_byte; decide))); done))) | ((with_reducible apply svle_td); (focus (first | (simp only [push_cast, seval]; rfl) | rfl)); (focus (first | (simp only [push_cast, seval]; rfl) | rfl)); (focus ((repeat' (first | rfl | (with_reducible first | apply fT_Tapi_Element | apply fT_Tapi_Marks | apply fT_Tapi_Segment | apply fT_Tapi_Spot | apply fT_Tinterchangeref2_piece | apply fT_Tinterchangeref2_writer | apply fT_Twire_place | apply fT_Twire_writer | apply fT_Tapi_Range | apply f_optN | apply f_optS | apply f_some | apply f_tup | apply f_agg | apply f_ptr | apply dv_slice | apply sv_d | apply f_cons | apply fold_nil | apply fold_cons | apply fold_app | apply f_rowI | apply f_rowY | apply f_rowS | apply f_rowB | apply f_rowL) | (with_reducible apply f_byte; decide))); done))) | ((with_reducible apply chle_eq); (focus (first | (simp only [push_cast, seval]; rfl) | rfl)); (first | with_reducible exact chle_rfl rfl | with_reducible exact chle_map0 | with_reducible apply chle_vec | with_reducible apply chle_box)) | (with_reducible first | apply cT_Tapi_Element | apply cT_Tapi_Marks | apply cT_Tapi_Segment | apply cT_Tapi_Spot | apply cT_Tinterchangeref2_piece | apply cT_Tinterchangeref2_writer | apply cT_Twire_place | apply cT_Twire_writer | apply cT_Tapi_Range | apply vc_rfl | apply vc_nil | apply vc_cons | apply r_rfl | apply r_rows | apply r_nil | apply r_app | apply r_cons | apply c_rowI | apply c_rowY | apply c_rowS | apply c_rowB | apply c_rowL))); done))); (focus (first | (dsimp only; done) | (dsimp only; rfl) | rfl)); (focus ((intro _; repeat' (first | with_reducible exact impC_end | with_reducible exact impC_endF | with_reducible refine impC_seq ?_ | with_reducible refine impC_block ?_ | ((with_reducible refine impC_rnd ?_); intro _) | ((with_reducible refine impC_brk ?_); intro _))))); (intro s o hm; unfold sc_interchangeref2_Where_L1); rotate_left; intro s hm) | ((apply K_next (s' := (_, _)) hm); (focus (first | (dsimp only; done) | (dsimp only; rfl) | rfl)); (focus ((apply imp_stT; (repeat' (first | with_reducible exact keepT_nil | with_reducible exact keepC_nil | with_reducible apply keepT_cons | with_reducible apply keepC_cons | ((with_reducible apply svle_eq); (focus (first | (simp only [push_cast, seval]; rfl) | rfl)); (focus ((repeat' (first | rfl | (with_reducible first | apply fT_Tapi_Element | apply fT_Tapi_Marks | apply fT_Tapi_Segment | apply fT_Tapi_Spot | apply fT_Tinterchangeref2_piece | apply fT_Tinterchangeref2_writer | apply fT_Twire_place | apply fT_Twire_writer | apply fT_Tapi_Range | apply f_optN | apply f_optS | apply f_some | apply f_tup | apply f_agg | apply f_ptr | apply dv_slice | apply sv_d | apply f_cons | apply fold_nil | apply fold_cons | apply fold_app | apply f_rowI | apply f_rowY | apply f_rowS | apply f_rowB | apply f_rowL) | (with_reducible apply f_byte; decide))); done))) | ((with_reducible apply svle_td); (focus (first | (simp only [push_cast, seval]; rfl) | rfl)); (focus (first | (simp only [push_cast, seval]; rfl) | rfl)); (focus ((repeat' (first | rfl | (with_reducible first | apply fT_Tapi_Element | apply fT_Tapi_Marks | apply fT_Tapi_Segment | apply fT_Tapi_Spot | apply fT_Tinterchangeref2_piece | apply fT_Tinterchangeref2_writer | apply fT_Twire_place | apply fT_Twire_writer | apply fT_Tapi_Range | apply f_optN | apply f_optS | apply f_some | apply f_tup | apply f_agg | apply f_ptr | apply dv_slice | apply sv_d | apply f_cons | apply fold_nil | apply fold_cons | apply fold_app | apply f_rowI | apply f_rowY | apply f_rowS | apply f_rowB | apply f_rowL) | (with_reducible apply f_byte; decide))); done))) | ((with_reducible apply chle_eq); (focus (first | (simp only [push_cast, seval]; rfl) | rfl)); (first | with_reducible exact chle_rfl rfl | with_reducible exact chle_map0 | with_reducible apply chle_vec | with_reducible apply chle_box)) | (with_reducible first | apply cT_Tapi_Element | apply cT_Tapi_Marks | apply cT_Tapi_Segment | apply cT_Tapi_Spot | apply cT_Tinterchangeref2_piece | apply cT_Tinterchangeref2_writer | apply cT_Twire_place | apply cT_Twire_writer | apply cT_Tapi_Range | apply vc_rfl | apply vc_nil | apply vc_cons | apply r_rfl | apply r_rows | apply r_nil | apply r_app | apply r_cons | apply c_rowI | apply c_rowY | apply c_rowS | apply c_rowB | apply c_rowL))); done)))) | ((apply K_brk (s' := (_, _)) hm); (focus (first | (dsimp only; done) | (dsimp only; rfl) | rfl)); (focus ((apply imp_stT; (repeat' (first | with_reducible exact keepT_nil | with_reducible exact keepC_nil | with_reducible apply keepT_cons | with_reducible apply keepC_cons | ((with_reducible apply svle_eq); (focus (first | (simp only [push_cast, seval]; rfl) | rfl)); (focus ((repeat' (first | rfl | (with_reducible first | apply fT_Tapi_Element | apply fT_Tapi_Marks | apply fT_Tapi_Segment | apply fT_Tapi_Spot | apply fT_Tinterchangeref2_piece | apply fT_Tinterchangeref2_writer | apply fT_Twire_place | apply fT_Twire_writer | apply fT_Tapi_Range | apply f_optN | apply f_optS | apply f_some | apply f_tup | apply f_agg | apply f_ptr | apply dv_slice | apply sv_d | apply f_cons | apply fold_nil | apply fold_cons | apply fold_app | apply f_rowI | apply f_rowY | apply f_rowS | apply f_rowB | apply f_rowL) | (with_reducible apply f_byte; decide))); done))) | ((with_reducible apply svle_td); (focus (first | (simp only [push_cast, seval]; rfl) | rfl)); (focus (first | (simp only [push_cast, seval]; rfl) | rfl)); (focus ((repeat' (first | rfl | (with_reducible first | apply fT_Tapi_Element | apply fT_Tapi_Marks | apply fT_Tapi_Segment | apply fT_Tapi_Spot | apply fT_Tinterchangeref2_piece | apply fT_Tinterchangeref2_writer | apply fT_Twire_place | apply fT_Twire_writer | apply fT_Tapi_Range | apply f_optN | apply f_optS | apply f_some | apply f_tup | apply f_agg | apply f_ptr | apply dv_slice | apply sv_d | apply f_cons | apply fold_nil | apply fold_cons | apply fold_app | apply f_rowI | apply f_rowY | apply f_rowS | apply f_rowB | apply f_rowL) | (with_reducible apply f_byte; decide))); done))) | ((with_reducible apply chle_eq); (focus (first | (simp only [push_cast, seval]; rfl) | rfl)); (first | with_reducible exact chle_rfl rfl | with_reducible exact chle_map0 | with_reducible apply chle_vec | with_reducible apply chle_box)) | (with_reducible first | apply cT_Tapi_Element | apply cT_Tapi_Marks | apply cT_Tapi_Segment | apply cT_Tapi_Spot | apply cT_Tinterchangeref2_piece | apply cT_Tinterchangeref2_writer | apply cT_Twire_place | apply cT_Twire_writer | apply cT_Tapi_Range | apply vc_rfl | apply vc_nil | apply vc_cons | apply r_rfl | apply r_rows | apply r_nil | apply r_app | apply r_cons | apply c_rowI | apply c_rowY | apply c_rowS | apply c_rowB | apply c_rowL))); done)))) | (((with_reducible apply K_brkN hm); (focus decide); intro r hm)) | (((with_reducible apply K_brkR hm); intro r hm))))
noncomputable def m_wire_Where (x0 : List Tapi_Segment) (x1 : Tapi_Marks) (x2 : Bool) (x3 : Int) (x4 : Tapi_Spot) : Option (Tapi_Range × Int) := (sims_G5_2_0.1 x0 x1 x2 x3 x4).1
theorem spec_wire_Where (x0 : List Tapi_Segment) (x1 : Tapi_Marks) (x2 : Bool) (x3 : Int) (x4 : Tapi_Spot) : ∀ r, m_wire_Where x0 x1 x2 x3 x4 = some r → PureSpec Tryd.prog 40 [.slice (List.map rTapi_Segment x0), .agg (rTapi_Marks x1), .bool x2, .int .i64 x3, .agg (rTapi_Spot x4)] (.tup [.agg (rTapi_Range r.1), .int .i64 r.2]) := (sims_G5_2_0.1 x0 x1 x2 x3 x4).2
noncomputable def m_interchangeref2_Where (x0 : List Tapi_Segment) (x1 : Tapi_Marks) (x2 : Bool) (x3 : Int) (x4 : Tapi_Spot) : Option (Tapi_Range × Int) := (sims_G5_2_0.2 x0 x1 x2 x3 x4).1
theorem spec_interchangeref2_Where (x0 : List Tapi_Segment) (x1 : Tapi_Marks) (x2 : Bool) (x3 : Int) (x4 : Tapi_Spot) : ∀ r, m_interchangeref2_Where x0 x1 x2 x3 x4 = some r → PureSpec Tryd.prog 41 [.slice (List.map rTapi_Segment x0), .agg (rTapi_Marks x1), .bool x2, .int .i64 x3, .agg (rTapi_Spot x4)] (.tup [.agg (rTapi_Range r.1), .int .i64 r.2]) := (sims_G5_2_0.2 x0 x1 x2 x3 x4).2

end Go.Proofs.YteilhjdpbjgdpaaDoor
