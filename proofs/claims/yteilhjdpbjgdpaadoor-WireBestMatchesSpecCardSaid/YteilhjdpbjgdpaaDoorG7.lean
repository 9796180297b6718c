/-
  Bodies of functions and what they compute, printed by programs of mine (wip/tool/gen.py, sc.py) out of the translation; the kernel holds each against the translation.
-/
import Derived.Test.YteilhjdpbjgdpaaDoorEngY
import Derived.Test.YteilhjdpbjgdpaaDoorProg
import Derived.KernelRfl
import Derived.Test.YteilhjdpbjgdpaaDoorLibT
import Derived.Test.YteilhjdpbjgdpaaDoorLibS
import Derived.Test.YteilhjdpbjgdpaaDoorLibH
import Derived.Test.YteilhjdpbjgdpaaDoorG1
import Derived.Test.YteilhjdpbjgdpaaDoorG2
import Derived.Test.YteilhjdpbjgdpaaDoorG3
import Derived.Test.YteilhjdpbjgdpaaDoorG6
namespace Go.Proofs.YteilhjdpbjgdpaaDoor
open Go.RowKit
set_option linter.unusedSimpArgs false
set_option linter.unusedVariables false
def sc_wire_BestMarks_L1 : SC :=
  (.seq (.reg [.r 29 (.bin .lss (.t 28) (.t 27))])
  (.seq (.cond (.t 29)
    .skip
    (.exit 0))
  (.seq (.block 1 (.seq (.reg [.r 30 (.idx 5 (.t 26) (.t 28)),
       .o 31 (.ldA 5 (.t 30)),
       .w 8 (.boxM (.c (.agg [.d (.int .u8 0), .d (.int .u8 0), .d (.int .u8 0), .d (.int .u8 0), .d (.int .u8 0)]))),
       .w 0 (.st 5 (.t 8) (.t 31))])
    (.seq (.reg [.o 32 (.ldA 5 (.t 8)),
       .c 33 (.f 24) [.t 32],
       .r 9 (.mv (.t 33))])
    (.seq (.reg [.r 34 (.mv (.t 9)),
       .r 35 (.bin .neq (.t 34) (.c (.d (.int .i64 0))))])
    (.cond (.t 35)
      (.seq (.reg [.r 36 (.mv (.t 9)),
         .r 4 (.mv (.c (.d (.int .i64 0)))),
         .r 5 (.mv (.t 36))])
      .ret)
      .skip)))))
  (.reg [.r 37 (.bin .add (.t 28) (.c (.d (.int .i64 1)))),
     .r 28 (.mv (.t 37))]))))
def sc_wire_BestMarks_B1 : SC := .block 0 (.loop sc_wire_BestMarks_L1)
def sc_wire_BestMarks_L2 : SC :=
  (.seq (.reg [.r 41 (.bin .lss (.t 40) (.t 39))])
  (.seq (.cond (.t 41)
    .skip
    (.exit 2))
  (.seq (.block 3 (.seq (.reg [.r 42 (.mv (.t 40)),
       .r 43 (.idx 5 (.t 38) (.t 40)),
       .o 44 (.ldA 5 (.t 43)),
       .w 13 (.boxM (.c (.agg [.d (.int .u8 0), .d (.int .u8 0), .d (.int .u8 0), .d (.int .u8 0), .d (.int .u8 0)]))),
       .r 12 (.mv (.t 42)),
       .w 0 (.st 5 (.t 13) (.t 44))])
    (.seq (.reg [.r 45 (.mv (.t 0)),
       .o 46 (.ldA 5 (.t 13)),
       .c 47 (.f 48) [.t 45, .t 46],
       .r 14 (.mv (.t 47))])
    (.seq (.reg (.r 48 (.fld 3 (.t 13)) :: .o 49 (.ld1 (.t 48)) :: .r 50 (.bin .neq (.t 49) (.c (.d (.int .u8 0)))) :: .r 51 (.mv (.t 50)) :: gapp [52, 53] 51 false (.r 52 (.mv (.t 14)) :: .r 53 (.bin .eql (.t 52) (.c (.d (.int .i64 0)))) :: []) (.r 54 (.pick (.t 51) (.c (.d (.bool true))) (.t 53)) :: .r 55 (.mv (.t 54)) :: gapp [56, 57, 58, 59, 60, 61, 62] 55 true (.r 56 (.mv (.t 10)) :: .r 57 (.bin .lss (.t 56) (.c (.d (.int .i64 0)))) :: .r 58 (.mv (.t 57)) :: gapp [59, 60, 61] 58 false (.r 59 (.mv (.t 14)) :: .r 60 (.mv (.t 11)) :: .r 61 (.bin .lss (.t 59) (.t 60)) :: []) (.r 62 (.pick (.t 58) (.c (.d (.bool true))) (.t 61)) :: [])) (.r 63 (.pick (.t 55) (.t 62) (.c (.d (.bool false)))) :: []))))
    (.cond (.t 63)
      (.reg [.r 64 (.mv (.t 12)),
         .r 65 (.mv (.t 14)),
         .r 10 (.mv (.t 64)),
         .r 11 (.mv (.t 65))])
      .skip)))))
  (.reg [.r 66 (.bin .add (.t 40) (.c (.d (.int .i64 1)))),
     .r 40 (.mv (.t 66))]))))
def sc_wire_BestMarks_B2 : SC := .block 2 (.loop sc_wire_BestMarks_L2)
/-- interchange/wire.BestMarks -/
def sc_wire_BestMarks : SC :=
  (.seq (.reg [.r 4 (.mv (.c (.d (.int .i64 0)))),
     .r 5 (.mv (.c (.d (.int .i64 0))))])
  (.seq (.seq (.reg [.r 15 (.mv (.t 0)),
     .c 16 (.f 26) [.t 15],
     .r 6 (.mv (.t 16))])
  (.seq (.reg [.r 17 (.mv (.t 6)),
     .r 18 (.bin .neq (.t 17) (.c (.d (.int .i64 0))))])
  (.cond (.t 18)
    (.seq (.reg [.r 19 (.mv (.t 6)),
       .r 4 (.mv (.c (.d (.int .i64 0)))),
       .r 5 (.mv (.t 19))])
    .ret)
    .skip)))
  (.seq (.seq (.reg [.r 20 (.mv (.t 1)),
     .r 21 (.len (.t 20)),
     .r 22 (.bin .eql (.t 21) (.c (.d (.int .i64 0))))])
  (.cond (.t 22)
    (.seq (.reg [.r 4 (.mv (.c (.d (.int .i64 0)))),
       .r 5 (.mv (.c (.d (.int .i64 9))))])
    .ret)
    .skip))
  (.seq (.seq (.reg [.r 23 (.mv (.t 1)),
     .r 24 (.len (.t 23)),
     .r 25 (.bin .gtr (.t 24) (.c (.d (.int .i64 50))))])
  (.cond (.t 25)
    (.seq (.reg [.r 4 (.mv (.c (.d (.int .i64 0)))),
       .r 5 (.mv (.c (.d (.int .i64 2))))])
    .ret)
    .skip))
  (.seq (.seq (.reg [.r 26 (.mv (.t 1)),
     .r 27 (.len (.t 26)),
     .r 28 (.mv (.c (.d (.int .i64 0))))])
  sc_wire_BestMarks_B1)
  (.seq (.reg [.r 10 (.mv (.c (.d (.int .i64 (-1))))),
     .r 11 (.mv (.c (.d (.int .i64 0))))])
  (.seq (.seq (.reg [.r 38 (.mv (.t 1)),
     .r 39 (.len (.t 38)),
     .r 40 (.mv (.c (.d (.int .i64 0))))])
  sc_wire_BestMarks_B2)
  (.seq (.seq (.reg [.r 67 (.mv (.t 10)),
     .r 68 (.bin .lss (.t 67) (.c (.d (.int .i64 0))))])
  (.cond (.t 68)
    (.seq (.reg [.r 4 (.mv (.c (.d (.int .i64 0)))),
       .r 5 (.mv (.c (.d (.int .i64 9))))])
    .ret)
    .skip))
  (.seq (.reg [.r 69 (.mv (.t 10)),
     .r 4 (.mv (.t 69)),
     .r 5 (.mv (.c (.d (.int .i64 0))))])
  .ret)))))))))
theorem fit_wire_BestMarks : fits Tryd.prog 31 Tryd.f31 sc_wire_BestMarks [.t 4, .t 5] 2 = true := by kernel_rfl

def sc_interchangeref2_BestMarks_L1 : SC :=
  (.seq (.seq (.reg [.r 24 (.mv (.t 7)),
     .r 25 (.mv (.t 1)),
     .r 26 (.len (.t 25)),
     .r 27 (.bin .lss (.t 24) (.t 26))])
  (.cond (.t 27)
    .skip
    (.exit 0)))
  (.seq (.block 1 (.seq (.reg [.r 30 (.mv (.t 1)),
       .r 31 (.mv (.t 7)),
       .r 32 (.idx 5 (.t 30) (.t 31)),
       .o 33 (.ldA 5 (.t 32)),
       .c 34 (.f 25) [.t 33],
       .r 8 (.mv (.t 34))])
    (.seq (.reg [.r 35 (.mv (.t 8)),
       .r 36 (.bin .neq (.t 35) (.c (.d (.int .i64 0))))])
    (.cond (.t 36)
      (.seq (.reg [.r 37 (.mv (.t 8)),
         .r 4 (.mv (.c (.d (.int .i64 0)))),
         .r 5 (.mv (.t 37))])
      .ret)
      .skip))))
  (.reg [.r 28 (.mv (.t 7)),
     .r 29 (.bin .add (.t 28) (.c (.d (.int .i64 1)))),
     .r 7 (.mv (.t 29))])))
def sc_interchangeref2_BestMarks_B1 : SC := .block 0 (.loop sc_interchangeref2_BestMarks_L1)
def sc_interchangeref2_BestMarks_L2 : SC :=
  (.seq (.seq (.reg [.r 38 (.mv (.t 11)),
     .r 39 (.mv (.t 1)),
     .r 40 (.len (.t 39)),
     .r 41 (.bin .lss (.t 38) (.t 40))])
  (.cond (.t 41)
    .skip
    (.exit 2)))
  (.seq (.block 3 (.seq (.reg [.r 44 (.mv (.t 0)),
       .r 45 (.mv (.t 1)),
       .r 46 (.mv (.t 11)),
       .r 47 (.idx 5 (.t 45) (.t 46)),
       .o 48 (.ldA 5 (.t 47)),
       .c 49 (.f 50) [.t 44, .t 48, .c (.d (.bool false))],
       .r 50 (.nilc (.t 49)),
       .r 51 (.fld 7 (.t 50)),
       .o 52 (.ld1 (.t 51)),
       .r 12 (.mv (.t 52))])
    (.seq (.reg (.r 53 (.mv (.t 1)) :: .r 54 (.mv (.t 11)) :: .r 55 (.idx 5 (.t 53) (.t 54)) :: .r 56 (.fld 3 (.t 55)) :: .o 57 (.ld1 (.t 56)) :: .r 58 (.bin .neq (.t 57) (.c (.d (.int .u8 0)))) :: .r 59 (.mv (.t 58)) :: gapp [60, 61] 59 false (.r 60 (.mv (.t 12)) :: .r 61 (.bin .eql (.t 60) (.c (.d (.int .i64 0)))) :: []) (.r 62 (.pick (.t 59) (.c (.d (.bool true))) (.t 61)) :: .r 63 (.mv (.t 62)) :: gapp [64, 65, 66, 67, 68, 69, 70] 63 true (.r 64 (.mv (.t 9)) :: .r 65 (.bin .lss (.t 64) (.c (.d (.int .i64 0)))) :: .r 66 (.mv (.t 65)) :: gapp [67, 68, 69] 66 false (.r 67 (.mv (.t 12)) :: .r 68 (.mv (.t 10)) :: .r 69 (.bin .lss (.t 67) (.t 68)) :: []) (.r 70 (.pick (.t 66) (.c (.d (.bool true))) (.t 69)) :: [])) (.r 71 (.pick (.t 63) (.t 70) (.c (.d (.bool false)))) :: []))))
    (.cond (.t 71)
      (.reg [.r 72 (.mv (.t 11)),
         .r 73 (.mv (.t 12)),
         .r 9 (.mv (.t 72)),
         .r 10 (.mv (.t 73))])
      .skip))))
  (.reg [.r 42 (.mv (.t 11)),
     .r 43 (.bin .add (.t 42) (.c (.d (.int .i64 1)))),
     .r 11 (.mv (.t 43))])))
def sc_interchangeref2_BestMarks_B2 : SC := .block 2 (.loop sc_interchangeref2_BestMarks_L2)
/-- interchange/interchangeref2.BestMarks -/
def sc_interchangeref2_BestMarks : SC :=
  (.seq (.reg [.r 4 (.mv (.c (.d (.int .i64 0)))),
     .r 5 (.mv (.c (.d (.int .i64 0))))])
  (.seq (.seq (.reg [.r 13 (.mv (.t 0)),
     .c 14 (.f 27) [.t 13],
     .r 6 (.mv (.t 14))])
  (.seq (.reg [.r 15 (.mv (.t 6)),
     .r 16 (.bin .neq (.t 15) (.c (.d (.int .i64 0))))])
  (.cond (.t 16)
    (.seq (.reg [.r 17 (.mv (.t 6)),
       .r 4 (.mv (.c (.d (.int .i64 0)))),
       .r 5 (.mv (.t 17))])
    .ret)
    .skip)))
  (.seq (.seq (.reg [.r 18 (.mv (.t 1)),
     .r 19 (.len (.t 18)),
     .r 20 (.bin .eql (.t 19) (.c (.d (.int .i64 0))))])
  (.cond (.t 20)
    (.seq (.reg [.r 4 (.mv (.c (.d (.int .i64 0)))),
       .r 5 (.mv (.c (.d (.int .i64 9))))])
    .ret)
    .skip))
  (.seq (.seq (.reg [.r 21 (.mv (.t 1)),
     .r 22 (.len (.t 21)),
     .r 23 (.bin .gtr (.t 22) (.c (.d (.int .i64 50))))])
  (.cond (.t 23)
    (.seq (.reg [.r 4 (.mv (.c (.d (.int .i64 0)))),
       .r 5 (.mv (.c (.d (.int .i64 2))))])
    .ret)
    .skip))
  (.seq (.seq (.reg [.r 7 (.mv (.c (.d (.int .i64 0))))])
  sc_interchangeref2_BestMarks_B1)
  (.seq (.reg [.r 9 (.mv (.c (.d (.int .i64 (-1))))),
     .r 10 (.mv (.c (.d (.int .i64 0))))])
  (.seq (.seq (.reg [.r 11 (.mv (.c (.d (.int .i64 0))))])
  sc_interchangeref2_BestMarks_B2)
  (.seq (.seq (.reg [.r 74 (.mv (.t 9)),
     .r 75 (.bin .lss (.t 74) (.c (.d (.int .i64 0))))])
  (.cond (.t 75)
    (.seq (.reg [.r 4 (.mv (.c (.d (.int .i64 0)))),
       .r 5 (.mv (.c (.d (.int .i64 9))))])
    .ret)
    .skip))
  (.seq (.reg [.r 76 (.mv (.t 9)),
     .r 4 (.mv (.t 76)),
     .r 5 (.mv (.c (.d (.int .i64 0))))])
  .ret)))))))))
theorem fit_interchangeref2_BestMarks : fits Tryd.prog 32 Tryd.f32 sc_interchangeref2_BestMarks [.t 4, .t 5] 2 = true := by kernel_rfl

set_option maxRecDepth 100000 in
set_option maxHeartbeats 40000000 in
noncomputable def sims_G7_1_0 : (∀ (x0 : List Tapi_Segment) (x1 : List Tapi_Marks), {m : Option (Int × Int) // ∀ r, m = some r → PureSpec Tryd.prog 31 [.slice (List.map rTapi_Segment x0), .slice (List.map rTapi_Marks x1)] (.tup [.int .i64 r.1, .int .i64 r.2])}) × (∀ (x0 : List Tapi_Segment) (x1 : List Tapi_Marks), {m : Option (Int × Int) // ∀ r, m = some r → PureSpec Tryd.prog 32 [.slice (List.map rTapi_Segment x0), .slice (List.map rTapi_Marks x1)] (.tup [.int .i64 r.1, .int .i64 r.2])}) := by
  refine ⟨?g0, ?g1⟩
  case' g0 => (intro x0 x1; apply Subtype.mk; intro r hm; apply pure_walk Tryd.func31 fit_wire_BestMarks; unfold sc_wire_BestMarks)
  case' g1 => (intro x0 x1; apply Subtype.mk; intro r hm; apply pure_walk Tryd.func32 fit_interchangeref2_BestMarks; unfold sc_interchangeref2_BestMarks)
  all_goals (repeat' (first | with_reducible refine W_seq ?_ | with_reducible refine W_reg ?_ | with_reducible refine W_block ?_ | with_reducible refine W_skip ?_ | with_reducible refine W_ret ?_ | with_reducible refine W_exit ?_ | with_reducible refine O_nil ?_ | with_reducible refine K_seq ?_ | with_reducible refine K_seqE ?_ | with_reducible refine K_seqR ?_ | with_reducible refine K_block ?_ | with_reducible refine K_blockR ?_ | with_reducible refine K_blockE ?_ | ((with_reducible apply K_blockN); decide) | with_reducible refine O_o2r ?_ | ((with_reducible apply O_idxr hm); (iterate 2 (simp only [push_cast, seval]; rfl)); (intro _; rfl); intro e hm) | ((with_reducible apply O_idxVr hm); (iterate 3 (simp only [push_cast, seval]; rfl)); intro e hm) | ((with_reducible apply O_nilcO hm); (simp only [push_cast, seval]; rfl); intro a hm) | ((with_reducible apply O_r); (simp only [push_cast, seval]; rfl); (first | exact trivial | omega)) | ((with_reducible apply O_ldV1r hm); (iterate 2 (simp only [push_cast, seval]; rfl)); (intro _; rfl); intro e hm) | ((with_reducible apply O_strr hm); (iterate 2 (simp only [push_cast, seval]; rfl)); intro hm) | ((with_reducible apply O_and hm); (simp only [push_cast, seval]; rfl); rfl; intro v hm; rotate_left; intro v g hm) | ((with_reducible apply O_or hm); (simp only [push_cast, seval]; rfl); rfl; intro v hm; rotate_left; intro v g hm) | ((with_reducible apply W_condT); (focus (simp only [push_cast, seval]; done))) | ((with_reducible apply W_condF); (focus (simp only [push_cast, seval]; done))) | ((with_reducible apply O_cS hm); (simp only [push_cast, seval]; rfl); (focus (first | exact spec_wire_CheckSegments _ | exact spec_wire_CheckMarks _ | exact spec_wire_escapes _ _ | exact spec_interchangeref2_CheckSegments _ | exact spec_interchangeref2_CheckMarks _ | exact spec_interchangeref2_written _ _ _)); intro x hm) | ((with_reducible apply O_cF hm); (simp only [push_cast, seval]; rfl); (first | apply spec_wire_CheckSegments _ | apply spec_wire_CheckMarks _ | apply spec_wire_escapes _ _ | apply spec_interchangeref2_CheckSegments _ | apply spec_interchangeref2_CheckMarks _ | apply spec_interchangeref2_written _ _ _); (any_goals ((repeat' (first | rfl | (with_reducible first | apply fT_Tapi_Element | apply fT_Tapi_Marks | apply fT_Tapi_Segment | apply fT_Tapi_Spot | apply fT_Tinterchangeref2_piece | apply fT_Tinterchangeref2_writer | apply f_optN | apply f_optS | apply f_some | apply f_tup | apply f_agg | apply f_ptr | apply dv_slice | apply sv_d | apply f_cons | apply fold_nil | apply fold_cons | apply fold_app | apply f_rowI | apply f_rowY | apply f_rowS | apply f_rowB | apply f_rowL) | (with_reducible apply f_byte; decide))); done)); intro x hm) | ((with_reducible apply O_w); (simp only [push_cast, seval]; rfl); (first | exact trivial | omega)) | ((with_reducible apply S_condB hm); (simp only [push_cast, seval]; rfl); intro hm; rotate_left; intro hm) | ((with_reducible apply K_end2 hm); (focus (simp only [resOf, resL, RV.get, push_cast, seval]; rfl)); (focus (first | (dsimp only; done) | (dsimp only; rfl) | rfl)); (focus ((repeat' (first | rfl | (with_reducible first | apply fT_Tapi_Element | apply fT_Tapi_Marks | apply fT_Tapi_Segment | apply fT_Tapi_Spot | apply fT_Tinterchangeref2_piece | apply fT_Tinterchangeref2_writer | apply f_optN | apply f_optS | apply f_some | apply f_tup | apply f_agg | apply f_ptr | apply dv_slice | apply sv_d | apply f_cons | apply fold_nil | apply fold_cons | apply fold_app | apply f_rowI | apply f_rowY | apply f_rowS | apply f_rowB | apply f_rowL) | (with_reducible apply f_byte; decide))); done))) | ((with_reducible apply K_bool hm); (simp only [push_cast, seval]; rfl)) | ((with_reducible apply K_leave hm); intro r hm) | ((with_reducible apply K_leaveR hm); intro r hm) | ((apply S_loopX (b := 0) (X := sc_wire_BestMarks_B1) (x := sc_wire_BestMarks_L1) rfl (fun (c : SV × SV × SV × SV) (s : Int) => st [(0, c.1), (1, c.2.1), (26, c.2.2.1), (27, c.2.2.2), (28, .d (.int .i64 s))] []) (c := (_, _, _, _)) (s0 := _) hm); (focus (first | (dsimp only; done) | (dsimp only; rfl) | rfl)); (focus ((apply imp_stT; (repeat' (first | with_reducible exact keepT_nil | with_reducible exact keepC_nil | with_reducible apply keepT_cons | with_reducible apply keepC_cons | ((with_reducible apply svle_eq); (focus (first | (simp only [push_cast, seval]; rfl) | rfl)); (focus ((repeat' (first | rfl | (with_reducible first | apply fT_Tapi_Element | apply fT_Tapi_Marks | apply fT_Tapi_Segment | apply fT_Tapi_Spot | apply fT_Tinterchangeref2_piece | apply fT_Tinterchangeref2_writer | apply f_optN | apply f_optS | apply f_some | apply f_tup | apply f_agg | apply f_ptr | apply dv_slice | apply sv_d | apply f_cons | apply fold_nil | apply fold_cons | apply fold_app | apply f_rowI | apply f_rowY | apply f_rowS | apply f_rowB | apply f_rowL) | (with_reducible apply f_byte; decide))); done))) | ((with_reducible apply svle_td); (focus (first | (simp only [push_cast, seval]; rfl) | rfl)); (focus (first | (simp only [push_cast, seval]; rfl) | rfl)); (focus ((repeat' (first | rfl | (with_reducible first | apply fT_Tapi_Element | apply fT_Tapi_Marks | apply fT_Tapi_Segment | apply fT_Tapi_Spot | apply fT_Tinterchangeref2_piece | apply fT_Tinterchangeref2_writer | apply f_optN | apply f_optS | apply f_some | apply f_tup | apply f_agg | apply f_ptr | apply dv_slice | apply sv_d | apply f_cons | apply fold_nil | apply fold_cons | apply fold_app | apply f_rowI | apply f_rowY | apply f_rowS | apply f_rowB | apply f_rowL) | (with_reducible apply f_byte; decide))); done))) | ((with_reducible apply chle_eq); (focus (first | (simp only [push_cast, seval]; rfl) | rfl)); (first | with_reducible exact chle_rfl rfl | with_reducible exact chle_map0 | with_reducible apply chle_vec | with_reducible apply chle_box)) | (with_reducible first | apply cT_Tapi_Element | apply cT_Tapi_Marks | apply cT_Tapi_Segment | apply cT_Tapi_Spot | apply cT_Tinterchangeref2_piece | apply cT_Tinterchangeref2_writer | apply vc_rfl | apply vc_nil | apply vc_cons | apply r_rfl | apply r_rows | apply r_nil | apply r_app | apply r_cons | apply c_rowI | apply c_rowY | apply c_rowS | apply c_rowB | apply c_rowL))); done))); (focus (first | (dsimp only; done) | (dsimp only; rfl) | rfl)); (focus ((intro _; repeat' (first | with_reducible exact impC_end | with_reducible exact impC_endF | with_reducible refine impC_seq ?_ | with_reducible refine impC_block ?_ | ((with_reducible refine impC_rnd ?_); intro _) | ((with_reducible refine impC_brk ?_); intro _))))); (intro s o hm; unfold sc_wire_BestMarks_L1); rotate_left; intro s hm) | ((apply S_loopX (b := 2) (X := sc_wire_BestMarks_B2) (x := sc_wire_BestMarks_L2) rfl (fun (c : SV × SV × SV) (s : Int × Int × Int) => st [(0, c.1), (10, .d (.int .i64 s.1)), (11, .d (.int .i64 s.2.1)), (38, c.2.1), (39, c.2.2), (40, .d (.int .i64 s.2.2))] []) (c := (_, _, _)) (s0 := (_, _, _)) hm); (focus (first | (dsimp only; done) | (dsimp only; rfl) | rfl)); (focus ((apply imp_stT; (repeat' (first | with_reducible exact keepT_nil | with_reducible exact keepC_nil | with_reducible apply keepT_cons | with_reducible apply keepC_cons | ((with_reducible apply svle_eq); (focus (first | (simp only [push_cast, seval]; rfl) | rfl)); (focus ((repeat' (first | rfl | (with_reducible first | apply fT_Tapi_Element | apply fT_Tapi_Marks | apply fT_Tapi_Segment | apply fT_Tapi_Spot | apply fT_Tinterchangeref2_piece | apply fT_Tinterchangeref2_writer | apply f_optN | apply f_optS | apply f_some | apply f_tup | apply f_agg | apply f_ptr | apply dv_slice | apply sv_d | apply f_cons | apply fold_nil | apply fold_cons | apply fold_app | apply f_rowI | apply f_rowY | apply f_rowS | apply f_rowB | apply f_rowL) | (with_reducible apply f_byte; decide))); done))) | ((with_reducible apply svle_td); (focus (first | (simp only [push_cast, seval]; rfl) | rfl)); (focus (first | (simp only [push_cast, seval]; rfl) | rfl)); (focus ((repeat' (first | rfl | (with_reducible first | apply fT_Tapi_Element | apply fT_Tapi_Marks | apply fT_Tapi_Segment | apply fT_Tapi_Spot | apply fT_Tinterchangeref2_piece | apply fT_Tinterchangeref2_writer | apply f_optN | apply f_optS | apply f_some | apply f_tup | apply f_agg | apply f_ptr | apply dv_slice | apply sv_d | apply f_cons | apply fold_nil | apply fold_cons | apply fold_app | apply f_rowI | apply f_rowY | apply f_rowS | apply f_rowB | apply f_rowL) | (with_reducible apply f_byte; decide))); done))) | ((with_reducible apply chle_eq); (focus (first | (simp only [push_cast, seval]; rfl) | rfl)); (first | with_reducible exact chle_rfl rfl | with_reducible exact chle_map0 | with_reducible apply chle_vec | with_reducible apply chle_box)) | (with_reducible first | apply cT_Tapi_Element | apply cT_Tapi_Marks | apply cT_Tapi_Segment | apply cT_Tapi_Spot | apply cT_Tinterchangeref2_piece | apply cT_Tinterchangeref2_writer | apply vc_rfl | apply vc_nil | apply vc_cons | apply r_rfl | apply r_rows | apply r_nil | apply r_app | apply r_cons | apply c_rowI | apply c_rowY | apply c_rowS | apply c_rowB | apply c_rowL))); done))); (focus (first | (dsimp only; done) | (dsimp only; rfl) | rfl)); (focus ((intro _; repeat' (first | with_reducible exact impC_end | with_reducible exact impC_endF | with_reducible refine impC_seq ?_ | with_reducible refine impC_block ?_ | ((with_reducible refine impC_rnd ?_); intro _) | ((with_reducible refine impC_brk ?_); intro _))))); (intro s o hm; unfold sc_wire_BestMarks_L2); rotate_left; intro s hm) | ((apply S_loopX (b := 0) (X := sc_interchangeref2_BestMarks_B1) (x := sc_interchangeref2_BestMarks_L1) rfl (fun (c : SV × SV) (s : Int) => st [(0, c.1), (1, c.2), (7, .d (.int .i64 s))] []) (c := (_, _)) (s0 := _) hm); (focus (first | (dsimp only; done) | (dsimp only; rfl) | rfl)); (focus ((apply imp_stT; (repeat' (first | with_reducible exact keepT_nil | with_reducible exact keepC_nil | with_reducible apply keepT_cons | with_reducible apply keepC_cons | ((with_reducible apply svle_eq); (focus (first | (simp only [push_cast, seval]; rfl) | rfl)); (focus ((repeat' (first | rfl | (with_reducible first | apply fT_Tapi_Element | apply fT_Tapi_Marks | apply fT_Tapi_Segment | apply fT_Tapi_Spot | apply fT_Tinterchangeref2_piece | apply fT_Tinterchangeref2_writer | apply f_optN | apply f_optS | apply f_some | apply f_tup | apply f_agg | apply f_ptr | apply dv_slice | apply sv_d | apply f_cons | apply fold_nil | apply fold_cons | apply fold_app | apply f_rowI | apply f_rowY | apply f_rowS | apply f_rowB | apply f_rowL) | (with_reducible apply f_byte; decide))); done))) | ((with_reducible apply svle_td); (focus (first | (simp only [push_cast, seval]; rfl) | rfl)); (focus (first | (simp only [push_cast, seval]; rfl) | rfl)); (focus ((repeat' (first | rfl | (with_reducible first | apply fT_Tapi_Element | apply fT_Tapi_Marks | apply fT_Tapi_Segment | apply fT_Tapi_Spot | apply fT_Tinterchangeref2_piece | apply fT_Tinterchangeref2_writer | apply f_optN | apply f_optS | apply f_some | apply f_tup | apply f_agg | apply f_ptr | apply dv_slice | apply sv_d | apply f_cons | apply fold_nil | apply fold_cons | apply fold_app | apply f_rowI | apply f_rowY | apply f_rowS | apply f_rowB | apply f_rowL) | (with_reducible apply f_byte; decide))); done))) | ((with_reducible apply chle_eq); (focus (first | (simp only [push_cast, seval]; rfl) | rfl)); (first | with_reducible exact chle_rfl rfl | with_reducible exact chle_map0 | with_reducible apply chle_vec | with_reducible apply chle_box)) | (with_reducible first | apply cT_Tapi_Element | apply cT_Tapi_Marks | apply cT_Tapi_Segment | apply cT_Tapi_Spot | apply cT_Tinterchangeref2_piece | apply cT_Tinterchangeref2_writer | apply vc_rfl | apply vc_nil | apply vc_cons | apply r_rfl | apply r_rows | apply r_nil | apply r_app | apply r_cons | apply c_rowI | apply c_rowY | apply c_rowS | apply c_rowB | apply c_rowL))); done))); (focus (first | (dsimp only; done) | (dsimp only; rfl) | rfl)); (focus ((intro _; repeat' (first | with_reducible exact impC_end | with_reducible exact impC_endF | with_reducible refine impC_seq ?_ | with_reducible refine impC_block ?_ | ((with_reducible refine impC_rnd ?_); intro _) | ((with_reducible refine impC_brk ?_); intro _))))); (intro s o hm; unfold sc_interchangeref2_BestMarks_L1); rotate_left; intro s hm) | ((apply S_loopX (b := 2) (X := sc_interchangeref2_BestMarks_B2) (x := sc_interchangeref2_BestMarks_L2) rfl (fun (c : SV × SV) (s : Int × Int × Int) => st [(0, c.1), (1, c.2), (9, .d (.int .i64 s.1)), (10, .d (.int .i64 s.2.1)), (11, .d (.int .i64 s.2.2))] []) (c := (_, _)) (s0 := (_, _, _)) hm); (focus (first | (dsimp only; done) | (dsimp only; rfl) | rfl)); (focus ((apply imp_stT; (repeat' (first | with_reducible exact keepT_nil | with_reducible exact keepC_nil | with_reducible apply keepT_cons | with_reducible apply keepC_cons | ((with_reducible apply svle_eq); (focus (first | (simp only [push_cast, seval]; rfl) | rfl)); (focus ((repeat' (first | rfl | (with_reducible first | apply fT_Tapi_Element | apply fT_Tapi_Marks | apply fT_Tapi_Segment | apply fT_Tapi_Spot | apply fT_Tinterchangeref2_piece | apply fT_Tinterchangeref2_writer | apply f_optN | apply f_optS | apply f_some | apply f_tup | apply f_agg | apply f_ptr | apply dv_slice | apply sv_d | apply f_cons | apply fold_nil | apply fold_cons | apply fold_app | apply f_rowI | apply f_rowY | apply f_rowS | apply f_rowB | apply f_rowL) | (with_reducible apply f_byte; decide))); done))) | ((with_reducible apply svle_td); (focus (first | (simp only [push_cast, seval]; rfl) | rfl)); (focus (first | (simp only [push_cast, seval]; rfl) | rfl)); (focus ((repeat' (first | rfl | (with_reducible first | apply fT_Tapi_Element | apply fT_Tapi_Marks | apply fT_Tapi_Segment | apply fT_Tapi_Spot | apply fT_Tinterchangeref2_piece | apply fT_Tinterchangeref2_writer | apply f_optN | apply f_optS | apply f_some | apply f_tup | apply f_agg | apply f_ptr | apply dv_slice | apply sv_d | apply f_cons | apply fold_nil | apply fold_cons | apply fold_app | apply f_rowI | apply f_rowY | apply f_rowS | apply f_rowB | apply f_rowL) | (with_reducible apply f_byte; decide))); done))) | ((with_reducible apply chle_eq); (focus (first | (simp only [push_cast, seval]; rfl) | rfl)); (first | with_reducible exact chle_rfl rfl | with_reducible exact chle_map0 | with_reducible apply chle_vec | with_reducible apply chle_box)) | (with_reducible first | apply cT_Tapi_Element | apply cT_Tapi_Marks | apply cT_Tapi_Segment | apply cT_Tapi_Spot | apply cT_Tinterchangeref2_piece | apply cT_Tinterchangeref2_writer | apply vc_rfl | apply vc_nil | apply vc_cons | apply r_rfl | apply r_rows | apply r_nil | apply r_app | apply r_cons | apply c_rowI | apply c_rowY | apply c_rowS | apply c_rowB | apply c_rowL))); done))); (focus (first | (dsimp only; done) | (dsimp only; rfl) | rfl)); (focus ((intro _; repeat' (first | with_reducible exact impC_end | with_reducible exact impC_endF | with_reducible refine impC_seq ?_ | with_reducible refine impC_block ?_ | ((with_reducible refine impC_rnd ?_); intro _) | ((with_reducible refine impC_brk ?_); intro _))))); (intro s o hm; unfold sc_interchangeref2_BestMarks_L2); rotate_left; intro s hm) | ((apply K_next (s' := (_, _, _)) hm); (focus (first | (dsimp only; done) | (dsimp only; rfl) | rfl)); (focus ((apply imp_stT; (repeat' (first | with_reducible exact keepT_nil | with_reducible exact keepC_nil | with_reducible apply keepT_cons | with_reducible apply keepC_cons | ((with_reducible apply svle_eq); (focus (first | (simp only [push_cast, seval]; rfl) | rfl)); (focus ((repeat' (first | rfl | (with_reducible first | apply fT_Tapi_Element | apply fT_Tapi_Marks | apply fT_Tapi_Segment | apply fT_Tapi_Spot | apply fT_Tinterchangeref2_piece | apply fT_Tinterchangeref2_writer | apply f_optN | apply f_optS | apply f_some | apply f_tup | apply f_agg | apply f_ptr | apply dv_slice | apply sv_d | apply f_cons | apply fold_nil | apply fold_cons | apply fold_app | apply f_rowI | apply f_rowY | apply f_rowS | apply f_rowB | apply f_rowL) | (with_reducible apply f_byte; decide))); done))) | ((with_reducible apply svle_td); (focus (first | (simp only [push_cast, seval]; rfl) | rfl)); (focus (first | (simp only [push_cast, seval]; rfl) | rfl)); (focus ((repeat' (first | rfl | (with_reducible first | apply fT_Tapi_Element | apply fT_Tapi_Marks | apply fT_Tapi_Segment | apply fT_Tapi_Spot | apply fT_Tinterchangeref2_piece | apply fT_Tinterchangeref2_writer | apply f_optN | apply f_optS | apply f_some | apply f_tup | apply f_agg | apply f_ptr | apply dv_slice | apply sv_d | apply f_cons | apply fold_nil | apply fold_cons | apply fold_app | apply f_rowI | apply f_rowY | apply f_rowS | apply f_rowB | apply f_rowL) | (with_reducible apply f_byte; decide))); done))) | ((with_reducible apply chle_eq); (focus (first | (simp only [push_cast, seval]; rfl) | rfl)); (first | with_reducible exact chle_rfl rfl | with_reducible exact chle_map0 | with_reducible apply chle_vec | with_reducible apply chle_box)) | (with_reducible first | apply cT_Tapi_Element | apply cT_Tapi_Marks | apply cT_Tapi_Segment | apply cT_Tapi_Spot | apply cT_Tinterchangeref2_piece | apply cT_Tinterchangeref2_writer | apply vc_rfl | apply vc_nil | apply vc_cons | apply r_rfl | apply r_rows | apply r_nil | apply r_app | apply r_cons | apply c_rowI | apply c_rowY | apply c_rowS | apply c_rowB | apply c_rowL))); done)))) | ((apply K_brk (s' := (_, _, _)) hm); (focus (first | (dsimp only; done) | (dsimp only; rfl) | rfl)); (focus ((apply imp_stT; (repeat' (first | with_reducible exact keepT_nil | with_reducible exact keepC_nil | with_reducible apply keepT_cons | with_reducible apply keepC_cons | ((with_reducible apply svle_eq); (focus (first | (simp only [push_cast, seval]; rfl) | rfl)); (focus ((repeat' (first | rfl | (with_reducible first | apply fT_Tapi_Element | apply fT_Tapi_Marks | apply fT_Tapi_Segment | apply fT_Tapi_Spot | apply fT_Tinterchangeref2_piece | apply fT_Tinterchangeref2_writer | apply f_optN | apply f_optS | apply f_some | apply f_tup | apply f_agg | apply f_ptr | apply dv_slice | apply sv_d | apply f_cons | apply fold_nil | apply fold_cons | apply fold_app | apply f_rowI | apply f_rowY | apply f_rowS | apply f_rowB | apply f_rowL) | (with_reducible apply f_byte; decide))); done))) | ((with_reducible apply svle_td); (focus (first | (simp only [push_cast, seval]; rfl) | rfl)); (focus (first | (simp only [push_cast, seval]; rfl) | rfl)); (focus ((repeat' (first | rfl | (with_reducible first | apply fT_Tapi_Element | apply fT_Tapi_Marks | apply fT_Tapi_Segment | apply fT_Tapi_Spot | apply fT_Tinterchangeref2_piece | apply fT_Tinterchangeref2_writer | apply f_optN | apply f_optS | apply f_some | apply f_tup | apply f_agg | apply f_ptr | apply dv_slice | apply sv_d | apply f_cons | apply fold_nil | apply fold_cons | apply fold_app | apply f_rowI | apply f_rowY | apply f_rowS | apply f_rowB | apply f_rowL) | (with_reducible apply f_byte; decide))); done))) | ((with_reducible apply chle_eq); (focus (first | (simp only [push_cast, seval]; rfl) | rfl)); (first | with_reducible exact chle_rfl rfl | with_reducible exact chle_map0 | with_reducible apply chle_vec | with_reducible apply chle_box)) | (with_reducible first | apply cT_Tapi_Element | apply cT_Tapi_Marks | apply cT_Tapi_Segment | apply cT_Tapi_Spot | apply cT_Tinterchangeref2_piece | apply cT_Tinterchangeref2_writer | apply vc_rfl | apply vc_nil | apply vc_cons | apply r_rfl | apply r_rows | apply r_nil | apply r_app | apply r_cons | apply c_rowI | apply c_rowY | apply c_rowS | apply c_rowB | apply c_rowL))); done)))) | ((apply K_next (s' := _) hm); (focus (first | (dsimp only; done) | (dsimp only; rfl) | rfl)); (focus ((apply imp_stT; (repeat' (first | with_reducible exact keepT_nil | with_reducible exact keepC_nil | with_reducible apply keepT_cons | with_reducible apply keepC_cons | ((with_reducible apply svle_eq); (focus (first | (simp only [push_cast, seval]; rfl) | rfl)); (focus ((repeat' (first | rfl | (with_reducible first | apply fT_Tapi_Element | apply fT_Tapi_Marks | apply fT_Tapi_Segment | apply fT_Tapi_Spot | apply fT_Tinterchangeref2_piece | apply fT_Tinterchangeref2_writer | apply f_optN | apply f_optS | apply f_some | apply f_tup | apply f_agg | apply f_ptr | apply dv_slice | apply sv_d | apply f_cons | apply fold_nil | apply fold_cons | apply fold_app | apply f_rowI | apply f_rowY | apply f_rowS | apply f_rowB | apply f_rowL) | (with_reducible apply f_byte; decide))); done))) | ((with_reducible apply svle_td); (focus (first | (simp only [push_cast, seval]; rfl) | rfl)); (focus (first | (simp only [push_cast, seval]; rfl) | rfl)); (focus ((repeat' (first | rfl | (with_reducible first | apply fT_Tapi_Element | apply fT_Tapi_Marks | apply fT_Tapi_Segment | apply fT_Tapi_Spot | apply fT_Tinterchangeref2_piece | apply fT_Tinterchangeref2_writer | apply f_optN | apply f_optS | apply f_some | apply f_tup | apply f_agg | apply f_ptr | apply dv_slice | apply sv_d | apply f_cons | apply fold_nil | apply fold_cons | apply fold_app | apply f_rowI | apply f_rowY | apply f_rowS | apply f_rowB | apply f_rowL) | (with_reducible apply f_byte; decide))); done))) | ((with_reducible apply chle_eq); (focus (first | (simp only [push_cast, seval]; rfl) | rfl)); (first | with_reducible exact chle_rfl rfl | with_reducible exact chle_map0 | with_reducible apply chle_vec | with_reducible apply chle_box)) | (with_reducible first | apply cT_Tapi_Element | apply cT_Tapi_Marks | apply cT_Tapi_Segment | apply cT_Tapi_Spot | apply cT_Tinterchangeref2_piece | apply cT_Tinterchangeref2_writer | apply vc_rfl | apply vc_nil | apply vc_cons | apply r_rfl | apply r_rows | apply r_nil | apply r_app | apply r_cons | apply c_rowI | apply c_rowY | apply c_rowS | apply c_rowB | apply c_rowL))); done)))) | ((apply K_brk (s' := _) hm); (focus (first | (dsimp only; done) | (dsimp only; rfl) | rfl)); (focus ((apply imp_stT; (repeat' (first | with_reducible exact keepT_nil | with_reducible exact keepC_nil | with_reducible apply keepT_cons | with_reducible apply keepC_cons | ((with_reducible apply svle_eq); (focus (first | (simp only [push_cast, seval]; rfl) | rfl)); (focus ((repeat' (first | rfl | (with_reducible first | apply fT_Tapi_Element | apply fT_Tapi_Marks | apply fT_Tapi_Segment | apply fT_Tapi_Spot | apply fT_Tinterchangeref2_piece | apply fT_Tinterchangeref2_writer | apply f_optN | apply f_optS | apply f_some | apply f_tup | apply f_agg | apply f_ptr | apply dv_slice | apply sv_d | apply f_cons | apply fold_nil | apply fold_cons | apply fold_app | apply f_rowI | apply f_rowY | apply f_rowS | apply f_rowB | apply f_rowL) | (with_reducible apply f_byte; decide))); done))) | ((with_reducible apply svle_td); (focus (first | (simp only [push_cast, seval]; rfl) | rfl)); (focus (first | (simp only [push_cast, seval]; rfl) | rfl)); (focus ((repeat' (first | rfl | (with_reducible first | apply fT_Tapi_Element | apply fT_Tapi_Marks | apply fT_Tapi_Segment | apply fT_Tapi_Spot | apply fT_Tinterchangeref2_piece | apply fT_Tinterchangeref2_writer | apply f_optN | apply f_optS | apply f_some | apply f_tup | apply f_agg | apply f_ptr | apply dv_slice | apply sv_d | apply f_cons | apply fold_nil | apply fold_cons | apply fold_app | apply f_rowI | apply f_rowY | apply f_rowS | apply f_rowB | apply f_rowL) | (with_reducible apply f_byte; decide))); done))) | ((with_reducible apply chle_eq); (focus (first | (simp only [push_cast, seval]; rfl) | rfl)); (first | with_reducible exact chle_rfl rfl | with_reducible exact chle_map0 | with_reducible apply chle_vec | with_reducible apply chle_box)) | (with_reducible first | apply cT_Tapi_Element | apply cT_Tapi_Marks | apply cT_Tapi_Segment | apply cT_Tapi_Spot | apply cT_Tinterchangeref2_piece | apply cT_Tinterchangeref2_writer | apply vc_rfl | apply vc_nil | apply vc_cons | apply r_rfl | apply r_rows | apply r_nil | apply r_app | apply r_cons | apply c_rowI | apply c_rowY | apply c_rowS | apply c_rowB | apply c_rowL))); done)))) | (((with_reducible apply K_brkN hm); (focus decide); intro r hm)) | (((with_reducible apply K_brkR hm); intro r hm))))
noncomputable def m_wire_BestMarks (x0 : List Tapi_Segment) (x1 : List Tapi_Marks) : Option (Int × Int) := (sims_G7_1_0.1 x0 x1).1
theorem spec_wire_BestMarks (x0 : List Tapi_Segment) (x1 : List Tapi_Marks) : ∀ r, m_wire_BestMarks x0 x1 = some r → PureSpec Tryd.prog 31 [.slice (List.map rTapi_Segment x0), .slice (List.map rTapi_Marks x1)] (.tup [.int .i64 r.1, .int .i64 r.2]) := (sims_G7_1_0.1 x0 x1).2
noncomputable def m_interchangeref2_BestMarks (x0 : List Tapi_Segment) (x1 : List Tapi_Marks) : Option (Int × Int) := (sims_G7_1_0.2 x0 x1).1
theorem spec_interchangeref2_BestMarks (x0 : List Tapi_Segment) (x1 : List Tapi_Marks) : ∀ r, m_interchangeref2_BestMarks x0 x1 = some r → PureSpec Tryd.prog 32 [.slice (List.map rTapi_Segment x0), .slice (List.map rTapi_Marks x1)] (.tup [.int .i64 r.1, .int .i64 r.2]) := (sims_G7_1_0.2 x0 x1).2

def sc_interchangelaw2_WireBestMatchesSpec_L1 : SC :=
  (.seq (.seq (.reg [.r 47 (.mv (.t 10)),
     .r 48 (.mv (.t 1)),
     .r 49 (.len (.t 48)),
     .r 50 (.bin .lss (.t 47) (.t 49))])
  (.cond (.t 50)
    .skip
    (.exit 0)))
  (.seq (.block 1 (.seq (.reg [.r 54 (.mv (.t 0)),
       .r 55 (.mv (.t 1)),
       .r 56 (.mv (.t 10)),
       .r 57 (.idx 5 (.t 55) (.t 56)),
       .o 58 (.ldA 5 (.t 57)),
       .c 59 (.f 22) [.t 54, .t 58],
       .r 53 (.mv (.t 59)),
       .r 60 (.ext (.t 53) 0),
       .r 61 (.ext (.t 53) 1),
       .r 11 (.mv (.t 60)),
       .r 12 (.mv (.t 61))])
    (.seq (.reg (.r 62 (.mv (.t 12)) :: .r 63 (.bin .neq (.t 62) (.c (.d (.int .i64 0)))) :: .r 64 (.mv (.t 63)) :: gapp [65, 66, 67, 68, 69, 70, 71, 72, 73, 74, 75] 64 false (.r 65 (.mv (.t 1)) :: .r 66 (.mv (.t 10)) :: .r 67 (.idx 5 (.t 65) (.t 66)) :: .r 68 (.fld 3 (.t 67)) :: .r 69 (.ld1 (.t 68)) :: .r 70 (.bin .neq (.t 69) (.c (.d (.int .u8 0)))) :: .r 71 (.mv (.t 70)) :: gapp [72, 73, 74] 71 true (.r 72 (.mv (.t 11)) :: .r 73 (.mv (.t 9)) :: .r 74 (.bin .lss (.t 72) (.t 73)) :: []) (.r 75 (.pick (.t 71) (.t 74) (.c (.d (.bool false)))) :: [])) (.r 76 (.pick (.t 64) (.c (.d (.bool true))) (.t 75)) :: [])))
    (.cond (.t 76)
      (.seq (.reg [.r 4 (.mv (.c (.d (.bool false))))])
      .ret)
      .skip))))
  (.reg [.r 51 (.mv (.t 10)),
     .r 52 (.bin .add (.t 51) (.c (.d (.int .i64 1)))),
     .r 10 (.mv (.t 52))])))
def sc_interchangelaw2_WireBestMatchesSpec_B1 : SC := .block 0 (.loop sc_interchangelaw2_WireBestMatchesSpec_L1)
/-- interchange/interchangelaw2.WireBestMatchesSpec -/
def sc_interchangelaw2_WireBestMatchesSpec : SC :=
  (.seq (.reg [.r 4 (.mv (.c (.d (.bool false))))])
  (.seq (.reg [.r 14 (.mv (.t 0)),
     .r 15 (.mv (.t 1)),
     .c 16 (.f 31) [.t 14, .t 15],
     .r 13 (.mv (.t 16)),
     .r 17 (.ext (.t 13) 0),
     .r 18 (.ext (.t 13) 1),
     .r 5 (.mv (.t 17)),
     .r 6 (.mv (.t 18))])
  (.seq (.reg [.r 20 (.mv (.t 0)),
     .r 21 (.mv (.t 1)),
     .c 22 (.f 32) [.t 20, .t 21],
     .r 19 (.mv (.t 22)),
     .r 23 (.ext (.t 19) 0),
     .r 24 (.ext (.t 19) 1),
     .r 7 (.mv (.t 23)),
     .r 8 (.mv (.t 24))])
  (.seq (.seq (.reg (.r 25 (.mv (.t 5)) :: .r 26 (.mv (.t 7)) :: .r 27 (.bin .neq (.t 25) (.t 26)) :: .r 28 (.mv (.t 27)) :: gapp [29, 30, 31] 28 false (.r 29 (.mv (.t 6)) :: .r 30 (.mv (.t 8)) :: .r 31 (.bin .neq (.t 29) (.t 30)) :: []) (.r 32 (.pick (.t 28) (.c (.d (.bool true))) (.t 31)) :: [])))
  (.cond (.t 32)
    (.seq (.reg [.r 4 (.mv (.c (.d (.bool false))))])
    .ret)
    .skip))
  (.seq (.seq (.reg [.r 33 (.mv (.t 6)),
     .r 34 (.bin .neq (.t 33) (.c (.d (.int .i64 0))))])
  (.cond (.t 34)
    (.seq (.reg [.c 35 (.f 21) [],
       .r 4 (.mv (.t 35))])
    .ret)
    .skip))
  (.seq (.reg [.r 37 (.mv (.t 0)),
     .r 38 (.mv (.t 1)),
     .r 39 (.mv (.t 5)),
     .r 40 (.idx 5 (.t 38) (.t 39)),
     .o 41 (.ldA 5 (.t 40)),
     .c 42 (.f 22) [.t 37, .t 41],
     .r 36 (.mv (.t 42)),
     .r 43 (.ext (.t 36) 0),
     .r 44 (.ext (.t 36) 1),
     .r 9 (.mv (.t 43)),
     .r 6 (.mv (.t 44))])
  (.seq (.seq (.reg [.r 45 (.mv (.t 6)),
     .r 46 (.bin .neq (.t 45) (.c (.d (.int .i64 0))))])
  (.cond (.t 46)
    (.seq (.reg [.r 4 (.mv (.c (.d (.bool false))))])
    .ret)
    .skip))
  (.seq (.seq (.reg [.r 10 (.mv (.c (.d (.int .i64 0))))])
  sc_interchangelaw2_WireBestMatchesSpec_B1)
  (.seq (.reg [.c 77 (.f 21) [],
     .r 4 (.mv (.t 77))])
  .ret)))))))))
theorem fit_interchangelaw2_WireBestMatchesSpec : fits Tryd.prog 6 Tryd.f6 sc_interchangelaw2_WireBestMatchesSpec [.t 4] 2 = true := by kernel_rfl

set_option maxRecDepth 100000 in
set_option maxHeartbeats 40000000 in
noncomputable def sims_G7_2_0 : (∀ (x0 : List Tapi_Segment) (x1 : List Tapi_Marks), {m : Option (Bool) // ∀ r, m = some r → PureSpec Tryd.prog 6 [.slice (List.map rTapi_Segment x0), .slice (List.map rTapi_Marks x1)] (.bool r)}) := by
  (intro x0 x1; apply Subtype.mk; intro r hm; apply pure_walk Tryd.func6 fit_interchangelaw2_WireBestMatchesSpec; unfold sc_interchangelaw2_WireBestMatchesSpec)
  repeat' (first | with_reducible refine W_seq ?_ | with_reducible refine W_reg ?_ | with_reducible refine W_block ?_ | with_reducible refine W_skip ?_ | with_reducible refine W_ret ?_ | with_reducible refine W_exit ?_ | with_reducible refine O_nil ?_ | with_reducible refine K_seq ?_ | with_reducible refine K_seqE ?_ | with_reducible refine K_seqR ?_ | with_reducible refine K_block ?_ | with_reducible refine K_blockR ?_ | with_reducible refine K_blockE ?_ | ((with_reducible apply K_blockN); decide) | with_reducible refine O_o2r ?_ | ((with_reducible apply O_idxr hm); (iterate 2 (simp only [push_cast, seval]; rfl)); (intro _; rfl); intro e hm) | ((with_reducible apply O_idxVr hm); (iterate 3 (simp only [push_cast, seval]; rfl)); intro e hm) | ((with_reducible apply O_r); (simp only [push_cast, seval]; rfl); (first | exact trivial | omega)) | ((with_reducible apply O_ldV1r hm); (iterate 2 (simp only [push_cast, seval]; rfl)); (intro _; rfl); intro e hm) | ((with_reducible apply O_strr hm); (iterate 2 (simp only [push_cast, seval]; rfl)); intro hm) | ((with_reducible apply O_and hm); (simp only [push_cast, seval]; rfl); rfl; intro v hm; rotate_left; intro v g hm) | ((with_reducible apply O_or hm); (simp only [push_cast, seval]; rfl); rfl; intro v hm; rotate_left; intro v g hm) | ((with_reducible apply W_condT); (focus (simp only [push_cast, seval]; done))) | ((with_reducible apply W_condF); (focus (simp only [push_cast, seval]; done))) | ((with_reducible apply O_cS hm); (simp only [push_cast, seval]; rfl); (focus (first | exact spec_wire_BestMarks _ _ | exact spec_interchangeref2_BestMarks _ _ | exact spec_interchangelaw2_awake | exact spec_wire_Escapes _ _)); intro x hm) | ((with_reducible apply O_cF hm); (simp only [push_cast, seval]; rfl); (first | apply spec_wire_BestMarks _ _ | apply spec_interchangeref2_BestMarks _ _ | apply spec_interchangelaw2_awake | apply spec_wire_Escapes _ _); (any_goals ((repeat' (first | rfl | (with_reducible first | apply fT_Tapi_Element | apply fT_Tapi_Marks | apply fT_Tapi_Segment | apply fT_Tapi_Spot | apply fT_Tinterchangeref2_piece | apply fT_Tinterchangeref2_writer | apply f_optN | apply f_optS | apply f_some | apply f_tup | apply f_agg | apply f_ptr | apply dv_slice | apply sv_d | apply f_cons | apply fold_nil | apply fold_cons | apply fold_app | apply f_rowI | apply f_rowY | apply f_rowS | apply f_rowB | apply f_rowL) | (with_reducible apply f_byte; decide))); done)); intro x hm) | ((with_reducible apply S_condB hm); (simp only [push_cast, seval]; rfl); intro hm; rotate_left; intro hm) | ((with_reducible apply K_endS hm); (focus (simp only [resOf, resL, RV.get, push_cast, seval]; rfl)); (focus ((repeat' (first | rfl | (with_reducible first | apply fT_Tapi_Element | apply fT_Tapi_Marks | apply fT_Tapi_Segment | apply fT_Tapi_Spot | apply fT_Tinterchangeref2_piece | apply fT_Tinterchangeref2_writer | apply f_optN | apply f_optS | apply f_some | apply f_tup | apply f_agg | apply f_ptr | apply dv_slice | apply sv_d | apply f_cons | apply fold_nil | apply fold_cons | apply fold_app | apply f_rowI | apply f_rowY | apply f_rowS | apply f_rowB | apply f_rowL) | (with_reducible apply f_byte; decide))); done))) | ((with_reducible apply K_bool hm); (simp only [push_cast, seval]; rfl)) | ((with_reducible apply K_leave hm); intro r hm) | ((with_reducible apply K_leaveR hm); intro r hm) | ((apply S_loopX (b := 0) (X := sc_interchangelaw2_WireBestMatchesSpec_B1) (x := sc_interchangelaw2_WireBestMatchesSpec_L1) rfl (fun (c : SV × SV × SV) (s : Int) => st [(0, c.1), (1, c.2.1), (9, c.2.2), (10, .d (.int .i64 s))] []) (c := (_, _, _)) (s0 := _) hm); (focus (first | (dsimp only; done) | (dsimp only; rfl) | rfl)); (focus ((apply imp_stT; (repeat' (first | with_reducible exact keepT_nil | with_reducible exact keepC_nil | with_reducible apply keepT_cons | with_reducible apply keepC_cons | ((with_reducible apply svle_eq); (focus (first | (simp only [push_cast, seval]; rfl) | rfl)); (focus ((repeat' (first | rfl | (with_reducible first | apply fT_Tapi_Element | apply fT_Tapi_Marks | apply fT_Tapi_Segment | apply fT_Tapi_Spot | apply fT_Tinterchangeref2_piece | apply fT_Tinterchangeref2_writer | apply f_optN | apply f_optS | apply f_some | apply f_tup | apply f_agg | apply f_ptr | apply dv_slice | apply sv_d | apply f_cons | apply fold_nil | apply fold_cons | apply fold_app | apply f_rowI | apply f_rowY | apply f_rowS | apply f_rowB | apply f_rowL) | (with_reducible apply f_byte; decide))); done))) | ((with_reducible apply svle_td); (focus (first | (simp only [push_cast, seval]; rfl) | rfl)); (focus (first | (simp only [push_cast, seval]; rfl) | rfl)); (focus ((repeat' (first | rfl | (with_reducible first | apply fT_Tapi_Element | apply fT_Tapi_Marks | apply fT_Tapi_Segment | apply fT_Tapi_Spot | apply fT_Tinterchangeref2_piece | apply fT_Tinterchangeref2_writer | apply f_optN | apply f_optS | apply f_some | apply f_tup | apply f_agg | apply f_ptr | apply dv_slice | apply sv_d | apply f_cons | apply fold_nil | apply fold_cons | apply fold_app | apply f_rowI | apply f_rowY | apply f_rowS | apply f_rowB | apply f_rowL) | (with_reducible apply f_byte; decide))); done))) | ((with_reducible apply chle_eq); (focus (first | (simp only [push_cast, seval]; rfl) | rfl)); (first | with_reducible exact chle_rfl rfl | with_reducible exact chle_map0 | with_reducible apply chle_vec | with_reducible apply chle_box)) | (with_reducible first | apply cT_Tapi_Element | apply cT_Tapi_Marks | apply cT_Tapi_Segment | apply cT_Tapi_Spot | apply cT_Tinterchangeref2_piece | apply cT_Tinterchangeref2_writer | apply vc_rfl | apply vc_nil | apply vc_cons | apply r_rfl | apply r_rows | apply r_nil | apply r_app | apply r_cons | apply c_rowI | apply c_rowY | apply c_rowS | apply c_rowB | apply c_rowL))); done))); (focus (first | (dsimp only; done) | (dsimp only; rfl) | rfl)); (focus ((intro _; repeat' (first | with_reducible exact impC_end | with_reducible exact impC_endF | with_reducible refine impC_seq ?_ | with_reducible refine impC_block ?_ | ((with_reducible refine impC_rnd ?_); intro _) | ((with_reducible refine impC_brk ?_); intro _))))); (intro s o hm; unfold sc_interchangelaw2_WireBestMatchesSpec_L1); rotate_left; intro s hm) | ((apply K_next (s' := _) hm); (focus (first | (dsimp only; done) | (dsimp only; rfl) | rfl)); (focus ((apply imp_stT; (repeat' (first | with_reducible exact keepT_nil | with_reducible exact keepC_nil | with_reducible apply keepT_cons | with_reducible apply keepC_cons | ((with_reducible apply svle_eq); (focus (first | (simp only [push_cast, seval]; rfl) | rfl)); (focus ((repeat' (first | rfl | (with_reducible first | apply fT_Tapi_Element | apply fT_Tapi_Marks | apply fT_Tapi_Segment | apply fT_Tapi_Spot | apply fT_Tinterchangeref2_piece | apply fT_Tinterchangeref2_writer | apply f_optN | apply f_optS | apply f_some | apply f_tup | apply f_agg | apply f_ptr | apply dv_slice | apply sv_d | apply f_cons | apply fold_nil | apply fold_cons | apply fold_app | apply f_rowI | apply f_rowY | apply f_rowS | apply f_rowB | apply f_rowL) | (with_reducible apply f_byte; decide))); done))) | ((with_reducible apply svle_td); (focus (first | (simp only [push_cast, seval]; rfl) | rfl)); (focus (first | (simp only [push_cast, seval]; rfl) | rfl)); (focus ((repeat' (first | rfl | (with_reducible first | apply fT_Tapi_Element | apply fT_Tapi_Marks | apply fT_Tapi_Segment | apply fT_Tapi_Spot | apply fT_Tinterchangeref2_piece | apply fT_Tinterchangeref2_writer | apply f_optN | apply f_optS | apply f_some | apply f_tup | apply f_agg | apply f_ptr | apply dv_slice | apply sv_d | apply f_cons | apply fold_nil | apply fold_cons | apply fold_app | apply f_rowI | apply f_rowY | apply f_rowS | apply f_rowB | apply f_rowL) | (with_reducible apply f_byte; decide))); done))) | ((with_reducible apply chle_eq); (focus (first | (simp only [push_cast, seval]; rfl) | rfl)); (first | with_reducible exact chle_rfl rfl | with_reducible exact chle_map0 | with_reducible apply chle_vec | with_reducible apply chle_box)) | (with_reducible first | apply cT_Tapi_Element | apply cT_Tapi_Marks | apply cT_Tapi_Segment | apply cT_Tapi_Spot | apply cT_Tinterchangeref2_piece | apply cT_Tinterchangeref2_writer | apply vc_rfl | apply vc_nil | apply vc_cons | apply r_rfl | apply r_rows | apply r_nil | apply r_app | apply r_cons | apply c_rowI | apply c_rowY | apply c_rowS | apply c_rowB | apply c_rowL))); done)))) | ((apply K_brk (s' := _) hm); (focus (first | (dsimp only; done) | (dsimp only; rfl) | rfl)); (focus ((apply imp_stT; (repeat' (first | with_reducible exact keepT_nil | with_reducible exact keepC_nil | with_reducible apply keepT_cons | with_reducible apply keepC_cons | ((with_reducible apply svle_eq); (focus (first | (simp only [push_cast, seval]; rfl) | rfl)); (focus ((repeat' (first | rfl | (with_reducible first | apply fT_Tapi_Element | apply fT_Tapi_Marks | apply fT_Tapi_Segment | apply fT_Tapi_Spot | apply fT_Tinterchangeref2_piece | apply fT_Tinterchangeref2_writer | apply f_optN | apply f_optS | apply f_some | apply f_tup | apply f_agg | apply f_ptr | apply dv_slice | apply sv_d | apply f_cons | apply fold_nil | apply fold_cons | apply fold_app | apply f_rowI | apply f_rowY | apply f_rowS | apply f_rowB | apply f_rowL) | (with_reducible apply f_byte; decide))); done))) | ((with_reducible apply svle_td); (focus (first | (simp only [push_cast, seval]; rfl) | rfl)); (focus (first | (simp only [push_cast, seval]; rfl) | rfl)); (focus ((repeat' (first | rfl | (with_reducible first | apply fT_Tapi_Element | apply fT_Tapi_Marks | apply fT_Tapi_Segment | apply fT_Tapi_Spot | apply fT_Tinterchangeref2_piece | apply fT_Tinterchangeref2_writer | apply f_optN | apply f_optS | apply f_some | apply f_tup | apply f_agg | apply f_ptr | apply dv_slice | apply sv_d | apply f_cons | apply fold_nil | apply fold_cons | apply fold_app | apply f_rowI | apply f_rowY | apply f_rowS | apply f_rowB | apply f_rowL) | (with_reducible apply f_byte; decide))); done))) | ((with_reducible apply chle_eq); (focus (first | (simp only [push_cast, seval]; rfl) | rfl)); (first | with_reducible exact chle_rfl rfl | with_reducible exact chle_map0 | with_reducible apply chle_vec | with_reducible apply chle_box)) | (with_reducible first | apply cT_Tapi_Element | apply cT_Tapi_Marks | apply cT_Tapi_Segment | apply cT_Tapi_Spot | apply cT_Tinterchangeref2_piece | apply cT_Tinterchangeref2_writer | apply vc_rfl | apply vc_nil | apply vc_cons | apply r_rfl | apply r_rows | apply r_nil | apply r_app | apply r_cons | apply c_rowI | apply c_rowY | apply c_rowS | apply c_rowB | apply c_rowL))); done)))) | (((with_reducible apply K_brkN hm); (focus decide); intro r hm)) | (((with_reducible apply K_brkR hm); intro r hm)))
noncomputable def m_interchangelaw2_WireBestMatchesSpec (x0 : List Tapi_Segment) (x1 : List Tapi_Marks) : Option (Bool) := (sims_G7_2_0 x0 x1).1
theorem spec_interchangelaw2_WireBestMatchesSpec (x0 : List Tapi_Segment) (x1 : List Tapi_Marks) : ∀ r, m_interchangelaw2_WireBestMatchesSpec x0 x1 = some r → PureSpec Tryd.prog 6 [.slice (List.map rTapi_Segment x0), .slice (List.map rTapi_Marks x1)] (.bool r) := (sims_G7_2_0 x0 x1).2

end Go.Proofs.YteilhjdpbjgdpaaDoor
