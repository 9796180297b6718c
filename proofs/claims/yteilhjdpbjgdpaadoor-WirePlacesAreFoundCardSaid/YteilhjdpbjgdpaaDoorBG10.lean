/-
  Bodies of functions and what they compute, printed by programs of mine (wip/tool/gen.py, sc.py) out of the translation; the kernel holds each against the translation.
-/
import Derived.Test.YteilhjdpbjgdpaaDoorBEngY
import Derived.Test.YteilhjdpbjgdpaaDoorProg
import Derived.KernelRfl
import Derived.Test.YteilhjdpbjgdpaaDoorBLibT
import Derived.Test.YteilhjdpbjgdpaaDoorBLibS
import Derived.Test.YteilhjdpbjgdpaaDoorBLibH
import Derived.Test.YteilhjdpbjgdpaaDoorBG1
import Derived.Test.YteilhjdpbjgdpaaDoorBG2
import Derived.Test.YteilhjdpbjgdpaaDoorBG3
import Derived.Test.YteilhjdpbjgdpaaDoorBG4
import Derived.Test.YteilhjdpbjgdpaaDoorBG5
import Derived.Test.YteilhjdpbjgdpaaDoorBG6
namespace Go.Proofs.YteilhjdpbjgdpaaDoor
open Go.RowKit
set_option linter.unusedSimpArgs false
set_option linter.unusedVariables false
/-- interchange/wire.TextAt -/
def sc_wire_TextAt : SC :=
  (.seq (.reg [.r 2 (.boxI (.t 0)),
     .r 3 (.boxI (.t 1)),
     .r 4 (.mv (.c (.d (.str [])))),
     .r 5 (.mv (.c (.d (.bool false))))])
  (.seq (.seq (.reg [.r 7 (.fld 0 (.t 3)),
     .o 8 (.ld1 (.t 7)),
     .r 9 (.fld 1 (.t 2)),
     .o 10 (.ld1 (.t 9)),
     .r 11 (.len (.t 10)),
     .r 12 (.bin .gtr (.t 8) (.t 11))])
  (.cond (.t 12)
    (.seq (.reg [.r 4 (.mv (.c (.d (.str [])))),
       .r 5 (.mv (.c (.d (.bool false))))])
    .ret)
    .skip))
  (.seq (.reg [.r 13 (.fld 1 (.t 2)),
     .o 14 (.ld1 (.t 13)),
     .r 15 (.fld 0 (.t 3)),
     .o 16 (.ld1 (.t 15)),
     .r 17 (.bin .sub (.t 16) (.c (.d (.int .i64 1)))),
     .r 18 (.idx 1 (.t 14) (.t 17)),
     .r 19 (.fld 0 (.t 18)),
     .o 20 (.ld1 (.t 19)),
     .r 6 (.mv (.t 20))])
  (.seq (.seq (.regD (.r 21 (.fld 1 (.t 3)) :: .r 22 (.ld1 (.t 21)) :: .r 23 (.mv (.t 6)) :: .r 24 (.len (.t 23)) :: .r 25 (.bin .gtr (.t 22) (.t 24)) :: .r 26 (.mv (.t 25)) :: gapp [27, 28, 29, 30, 31, 32, 33, 34, 35, 36] 26 false (.r 27 (.fld 2 (.t 3)) :: .r 28 (.ld1 (.t 27)) :: .r 29 (.mv (.t 6)) :: .r 30 (.fld 1 (.t 3)) :: .r 31 (.ld1 (.t 30)) :: .r 32 (.bin .sub (.t 31) (.c (.d (.int .i64 1)))) :: .r 33 (.idx 1 (.t 29) (.t 32)) :: .r 34 (.ld1 (.t 33)) :: .r 35 (.len (.t 34)) :: .r 36 (.bin .gtr (.t 28) (.t 35)) :: []) (.r 37 (.pick (.t 26) (.c (.d (.bool true))) (.t 36)) :: [])))
  (.cond (.t 37)
    (.seq (.reg [.r 4 (.mv (.c (.d (.str [])))),
       .r 5 (.mv (.c (.d (.bool false))))])
    .ret)
    .skip))
  (.seq (.regD [.r 38 (.mv (.t 6)),
     .r 39 (.fld 1 (.t 3)),
     .r 40 (.ld1 (.t 39)),
     .r 41 (.bin .sub (.t 40) (.c (.d (.int .i64 1)))),
     .r 42 (.idx 1 (.t 38) (.t 41)),
     .r 43 (.ld1 (.t 42)),
     .r 44 (.fld 2 (.t 3)),
     .r 45 (.ld1 (.t 44)),
     .r 46 (.bin .sub (.t 45) (.c (.d (.int .i64 1)))),
     .r 47 (.idx 1 (.t 43) (.t 46)),
     .r 48 (.ld1 (.t 47)),
     .r 4 (.mv (.t 48)),
     .r 5 (.mv (.c (.d (.bool true))))])
  .ret)))))
theorem fit_wire_TextAt : fits Tryd.prog 61 Tryd.f61 sc_wire_TextAt [.t 4, .t 5] 2 = true := by kernel_rfl

set_option maxRecDepth 100000 in
set_option maxHeartbeats 40000000 in
noncomputable def sims_G10_0_0 : (∀ (x0 : Tapi_Segment) (x1 : Tapi_Spot), {m : Option ((List UInt8) × Bool) // ∀ r, m = some r → PureSpec Tryd.prog 61 [.agg (rTapi_Segment x0), .agg (rTapi_Spot x1)] (.tup [.str r.1, .bool r.2])}) := by
  (intro x0 x1; apply Subtype.mk; intro r hm; apply pure_walk Tryd.func61 fit_wire_TextAt; unfold sc_wire_TextAt)
  repeat' (first | with_reducible refine W_seq ?_ | with_reducible refine W_reg ?_ | with_reducible refine W_regD ?_ | with_reducible refine W_block ?_ | with_reducible refine W_skip ?_ | with_reducible refine W_ret ?_ | with_reducible refine W_exit ?_ | with_reducible refine O_nil ?_ | with_reducible refine K_seq ?_ | with_reducible refine K_seqE ?_ | with_reducible refine K_seqR ?_ | with_reducible refine K_block ?_ | with_reducible refine K_blockR ?_ | with_reducible refine K_blockE ?_ | ((with_reducible apply K_blockN); decide) | with_reducible refine O_o2r ?_ | ((with_reducible apply O_idxr hm); (iterate 2 (simp only [push_cast, seval]; rfl)); (intro _; rfl); intro e hm) | ((with_reducible apply O_idxVr hm); (iterate 3 (simp only [push_cast, seval]; rfl)); intro e hm) | ((with_reducible apply O_r); (simp only [push_cast, seval]; rfl); (first | exact trivial | omega)) | ((with_reducible apply O_ldV1r hm); (iterate 2 (simp only [push_cast, seval]; rfl)); (intro _; rfl); intro e hm) | ((with_reducible apply O_or hm); (simp only [push_cast, seval]; rfl); rfl; intro v hm; rotate_left; intro v g hm) | ((with_reducible apply W_condT); (focus (simp only [push_cast, seval]; done))) | ((with_reducible apply W_condF); (focus (simp only [push_cast, seval]; done))) | ((with_reducible apply S_condB hm); (simp only [push_cast, seval]; rfl); intro hm; rotate_left; intro hm) | ((with_reducible apply K_end2 hm); (focus (simp only [resOf, resL, RV.get, push_cast, seval]; rfl)); (focus (first | (dsimp only; done) | (dsimp only; rfl) | rfl)); (focus ((repeat' (first | rfl | (with_reducible first | apply fT_Tapi_Element | apply fT_Tapi_Marks | apply fT_Tapi_Range | apply fT_Tapi_Segment | apply fT_Tapi_Spot | apply fT_Tinterchangeref2_piece | apply fT_Tinterchangeref2_writer | apply fT_Twire_place | apply fT_Twire_writer | apply f_optN | apply f_optS | apply f_some | apply f_tup | apply f_agg | apply f_ptr | apply dv_slice | apply sv_d | apply f_cons | apply fold_nil | apply fold_cons | apply fold_app | apply f_rowI | apply f_rowY | apply f_rowS | apply f_rowB | apply f_rowL) | (with_reducible apply f_byte; decide))); done))) | ((with_reducible apply K_bool hm); (simp only [push_cast, seval]; rfl)))
noncomputable def m_wire_TextAt (x0 : Tapi_Segment) (x1 : Tapi_Spot) : Option ((List UInt8) × Bool) := (sims_G10_0_0 x0 x1).1
theorem spec_wire_TextAt (x0 : Tapi_Segment) (x1 : Tapi_Spot) : ∀ r, m_wire_TextAt x0 x1 = some r → PureSpec Tryd.prog 61 [.agg (rTapi_Segment x0), .agg (rTapi_Spot x1)] (.tup [.str r.1, .bool r.2]) := (sims_G10_0_0 x0 x1).2

/-- interchange/wire.spotFault -/
def sc_wire_spotFault : SC :=
  (.seq (.reg [.r 2 (.boxI (.t 0)),
     .r 3 (.boxI (.t 1)),
     .r 4 (.mv (.c (.d (.int .i64 0))))])
  (.seq (.seq (.reg [.o 6 (.ldA 2 (.t 2)),
     .r 7 (.bslice 2 [.t 6]),
     .c 8 (.f 26) [.t 7],
     .r 5 (.mv (.t 8))])
  (.seq (.reg [.r 9 (.mv (.t 5)),
     .r 10 (.bin .neq (.t 9) (.c (.d (.int .i64 0))))])
  (.cond (.t 10)
    (.seq (.reg [.r 11 (.mv (.t 5)),
       .r 4 (.mv (.t 11))])
    .ret)
    .skip)))
  (.seq (.reg [.o 12 (.ldA 3 (.t 3)),
     .c 13 (.f 71) [.t 12],
     .r 4 (.mv (.t 13))])
  .ret)))
theorem fit_wire_spotFault : fits Tryd.prog 60 Tryd.f60 sc_wire_spotFault [.t 4] 2 = true := by kernel_rfl

set_option maxRecDepth 100000 in
set_option maxHeartbeats 40000000 in
noncomputable def sims_G10_1_0 : (∀ (x0 : Tapi_Segment) (x1 : Tapi_Spot), {m : Option (Int) // ∀ r, m = some r → PureSpec Tryd.prog 60 [.agg (rTapi_Segment x0), .agg (rTapi_Spot x1)] (.int .i64 r)}) := by
  (intro x0 x1; apply Subtype.mk; intro r hm; apply pure_walk Tryd.func60 fit_wire_spotFault; unfold sc_wire_spotFault)
  repeat' (first | with_reducible refine W_seq ?_ | with_reducible refine W_reg ?_ | with_reducible refine W_block ?_ | with_reducible refine W_skip ?_ | with_reducible refine W_ret ?_ | with_reducible refine W_exit ?_ | with_reducible refine O_nil ?_ | with_reducible refine K_seq ?_ | with_reducible refine K_seqE ?_ | with_reducible refine K_seqR ?_ | with_reducible refine K_block ?_ | with_reducible refine K_blockR ?_ | with_reducible refine K_blockE ?_ | ((with_reducible apply K_blockN); decide) | with_reducible refine O_o2r ?_ | ((with_reducible apply O_r); (simp only [push_cast, seval]; rfl); (first | exact trivial | omega)) | ((with_reducible apply W_condT); (focus (simp only [push_cast, seval]; done))) | ((with_reducible apply W_condF); (focus (simp only [push_cast, seval]; done))) | ((with_reducible apply O_cS hm); (simp only [push_cast, seval]; rfl); (focus (first | exact spec_wire_CheckSegments _ | exact spec_wire_spotRange _)); intro x hm) | ((with_reducible apply O_cF hm); (simp only [push_cast, seval]; rfl); (first | apply spec_wire_CheckSegments _ | apply spec_wire_spotRange _); (any_goals ((repeat' (first | rfl | (with_reducible first | apply fT_Tapi_Element | apply fT_Tapi_Marks | apply fT_Tapi_Range | apply fT_Tapi_Segment | apply fT_Tapi_Spot | apply fT_Tinterchangeref2_piece | apply fT_Tinterchangeref2_writer | apply fT_Twire_place | apply fT_Twire_writer | apply f_optN | apply f_optS | apply f_some | apply f_tup | apply f_agg | apply f_ptr | apply dv_slice | apply sv_d | apply f_cons | apply fold_nil | apply fold_cons | apply fold_app | apply f_rowI | apply f_rowY | apply f_rowS | apply f_rowB | apply f_rowL) | (with_reducible apply f_byte; decide))); done)); intro x hm) | ((with_reducible apply S_condB hm); (simp only [push_cast, seval]; rfl); intro hm; rotate_left; intro hm) | ((with_reducible apply K_endS hm); (focus (simp only [resOf, resL, RV.get, push_cast, seval]; rfl)); (focus ((repeat' (first | rfl | (with_reducible first | apply fT_Tapi_Element | apply fT_Tapi_Marks | apply fT_Tapi_Range | apply fT_Tapi_Segment | apply fT_Tapi_Spot | apply fT_Tinterchangeref2_piece | apply fT_Tinterchangeref2_writer | apply fT_Twire_place | apply fT_Twire_writer | apply f_optN | apply f_optS | apply f_some | apply f_tup | apply f_agg | apply f_ptr | apply dv_slice | apply sv_d | apply f_cons | apply fold_nil | apply fold_cons | apply fold_app | apply f_rowI | apply f_rowY | apply f_rowS | apply f_rowB | apply f_rowL) | (with_reducible apply f_byte; decide))); done))))
noncomputable def m_wire_spotFault (x0 : Tapi_Segment) (x1 : Tapi_Spot) : Option (Int) := (sims_G10_1_0 x0 x1).1
theorem spec_wire_spotFault (x0 : Tapi_Segment) (x1 : Tapi_Spot) : ∀ r, m_wire_spotFault x0 x1 = some r → PureSpec Tryd.prog 60 [.agg (rTapi_Segment x0), .agg (rTapi_Spot x1)] (.int .i64 r) := (sims_G10_1_0 x0 x1).2

/-- interchange/wire.Text -/
def sc_wire_Text : SC :=
  (.seq (.reg [.r 2 (.boxI (.t 0)),
     .r 3 (.boxI (.t 1)),
     .r 4 (.mv (.c (.d (.str [])))),
     .r 5 (.mv (.c (.d (.bool false)))),
     .r 6 (.mv (.c (.d (.int .i64 0))))])
  (.seq (.seq (.reg [.o 10 (.ldA 2 (.t 2)),
     .o 11 (.ldA 3 (.t 3)),
     .c 12 (.f 60) [.t 10, .t 11],
     .r 7 (.mv (.t 12))])
  (.seq (.reg [.r 13 (.mv (.t 7)),
     .r 14 (.bin .neq (.t 13) (.c (.d (.int .i64 0))))])
  (.cond (.t 14)
    (.seq (.reg [.r 15 (.mv (.t 7)),
       .r 4 (.mv (.c (.d (.str [])))),
       .r 5 (.mv (.c (.d (.bool false)))),
       .r 6 (.mv (.t 15))])
    .ret)
    .skip)))
  (.seq (.reg [.o 17 (.ldA 2 (.t 2)),
     .o 18 (.ldA 3 (.t 3)),
     .c 19 (.f 61) [.t 17, .t 18],
     .r 16 (.mv (.t 19)),
     .r 20 (.ext (.t 16) 0),
     .r 21 (.ext (.t 16) 1),
     .r 8 (.mv (.t 20)),
     .r 9 (.mv (.t 21))])
  (.seq (.reg [.r 22 (.mv (.t 8)),
     .r 23 (.mv (.t 9)),
     .r 4 (.mv (.t 22)),
     .r 5 (.mv (.t 23)),
     .r 6 (.mv (.c (.d (.int .i64 0))))])
  .ret))))
theorem fit_wire_Text : fits Tryd.prog 33 Tryd.f33 sc_wire_Text [.t 4, .t 5, .t 6] 2 = true := by kernel_rfl

set_option maxRecDepth 100000 in
set_option maxHeartbeats 40000000 in
noncomputable def sims_G10_2_0 : (∀ (x0 : Tapi_Segment) (x1 : Tapi_Spot), {m : Option ((List UInt8) × Bool × Int) // ∀ r, m = some r → PureSpec Tryd.prog 33 [.agg (rTapi_Segment x0), .agg (rTapi_Spot x1)] (.tup [.str r.1, .bool r.2.1, .int .i64 r.2.2])}) := by
  (intro x0 x1; apply Subtype.mk; intro r hm; apply pure_walk Tryd.func33 fit_wire_Text; unfold sc_wire_Text)
  repeat' (first | with_reducible refine W_seq ?_ | with_reducible refine W_reg ?_ | with_reducible refine W_block ?_ | with_reducible refine W_skip ?_ | with_reducible refine W_ret ?_ | with_reducible refine W_exit ?_ | with_reducible refine O_nil ?_ | with_reducible refine K_seq ?_ | with_reducible refine K_seqE ?_ | with_reducible refine K_seqR ?_ | with_reducible refine K_block ?_ | with_reducible refine K_blockR ?_ | with_reducible refine K_blockE ?_ | ((with_reducible apply K_blockN); decide) | with_reducible refine O_o2r ?_ | ((with_reducible apply O_r); (simp only [push_cast, seval]; rfl); (first | exact trivial | omega)) | ((with_reducible apply W_condT); (focus (simp only [push_cast, seval]; done))) | ((with_reducible apply W_condF); (focus (simp only [push_cast, seval]; done))) | ((with_reducible apply O_cS hm); (simp only [push_cast, seval]; rfl); (focus (first | exact spec_wire_spotFault _ _ | exact spec_wire_TextAt _ _)); intro x hm) | ((with_reducible apply O_cF hm); (simp only [push_cast, seval]; rfl); (first | apply spec_wire_spotFault _ _ | apply spec_wire_TextAt _ _); (any_goals ((repeat' (first | rfl | (with_reducible first | apply fT_Tapi_Element | apply fT_Tapi_Marks | apply fT_Tapi_Range | apply fT_Tapi_Segment | apply fT_Tapi_Spot | apply fT_Tinterchangeref2_piece | apply fT_Tinterchangeref2_writer | apply fT_Twire_place | apply fT_Twire_writer | apply f_optN | apply f_optS | apply f_some | apply f_tup | apply f_agg | apply f_ptr | apply dv_slice | apply sv_d | apply f_cons | apply fold_nil | apply fold_cons | apply fold_app | apply f_rowI | apply f_rowY | apply f_rowS | apply f_rowB | apply f_rowL) | (with_reducible apply f_byte; decide))); done)); intro x hm) | ((with_reducible apply S_condB hm); (simp only [push_cast, seval]; rfl); intro hm; rotate_left; intro hm) | ((with_reducible apply K_end3 hm); (focus (simp only [resOf, resL, RV.get, push_cast, seval]; rfl)); (focus (first | (dsimp only; done) | (dsimp only; rfl) | rfl)); (focus ((repeat' (first | rfl | (with_reducible first | apply fT_Tapi_Element | apply fT_Tapi_Marks | apply fT_Tapi_Range | apply fT_Tapi_Segment | apply fT_Tapi_Spot | apply fT_Tinterchangeref2_piece | apply fT_Tinterchangeref2_writer | apply fT_Twire_place | apply fT_Twire_writer | apply f_optN | apply f_optS | apply f_some | apply f_tup | apply f_agg | apply f_ptr | apply dv_slice | apply sv_d | apply f_cons | apply fold_nil | apply fold_cons | apply fold_app | apply f_rowI | apply f_rowY | apply f_rowS | apply f_rowB | apply f_rowL) | (with_reducible apply f_byte; decide))); done))))
noncomputable def m_wire_Text (x0 : Tapi_Segment) (x1 : Tapi_Spot) : Option ((List UInt8) × Bool × Int) := (sims_G10_2_0 x0 x1).1
theorem spec_wire_Text (x0 : Tapi_Segment) (x1 : Tapi_Spot) : ∀ r, m_wire_Text x0 x1 = some r → PureSpec Tryd.prog 33 [.agg (rTapi_Segment x0), .agg (rTapi_Spot x1)] (.tup [.str r.1, .bool r.2.1, .int .i64 r.2.2]) := (sims_G10_2_0 x0 x1).2

def sc_interchangelaw2_WirePlacesAreFound_L1 : SC :=
  (.seq (.seq (.reg [.r 78 (.mv (.t 14)),
     .r 79 (.fld 1 (.t 11)),
     .o 80 (.ld1 (.t 79)),
     .r 81 (.bin .lss (.t 78) (.t 80))])
  (.cond (.t 81)
    .skip
    (.exit 0)))
  (.seq (.block 1 (.seq (.reg [.r 85 (.mv (.t 0)),
       .o 86 (.ldA 5 (.t 6)),
       .r 87 (.mv (.t 2)),
       .r 88 (.mv (.t 14)),
       .c 89 (.f 42) [.t 85, .t 86, .t 87, .t 88],
       .r 84 (.mv (.t 89)),
       .r 90 (.ext (.t 84) 0),
       .r 91 (.ext (.t 84) 1),
       .r 92 (.ext (.t 84) 2),
       .w 16 (.boxM (.c (.agg [.d (.int .i64 0), .d (.int .i64 0), .d (.int .i64 0)]))),
       .r 15 (.mv (.t 90)),
       .w 0 (.st 3 (.t 16) (.t 91)),
       .r 17 (.mv (.t 92))])
    (.seq (.reg (.r 93 (.mv (.t 17)) :: .r 94 (.bin .neq (.t 93) (.c (.d (.int .i64 0)))) :: .r 95 (.mv (.t 94)) :: gapp [96, 97, 98] 95 false (.r 96 (.mv (.t 15)) :: .r 97 (.mv (.t 3)) :: .r 98 (.bin .neq (.t 96) (.t 97)) :: []) (.r 99 (.pick (.t 95) (.c (.d (.bool true))) (.t 98)) :: .r 100 (.mv (.t 99)) :: gapp [101, 102, 103] 100 false (.r 101 (.ldA 3 (.t 16)) :: .r 102 (.ldA 3 (.t 9)) :: .r 103 (.eqs .neq [(.int .i64), (.int .i64), (.int .i64)] (.t 101) (.t 102)) :: []) (.r 104 (.pick (.t 100) (.c (.d (.bool true))) (.t 103)) :: []))))
    (.cond (.t 104)
      (.seq (.reg [.r 10 (.mv (.c (.d (.bool false))))])
      .ret)
      .skip))))
  (.reg [.r 82 (.mv (.t 14)),
     .r 83 (.bin .add (.t 82) (.c (.d (.int .i64 1)))),
     .r 14 (.mv (.t 83))])))
def sc_interchangelaw2_WirePlacesAreFound_B1 : SC := .block 0 (.loop sc_interchangelaw2_WirePlacesAreFound_L1)
/-- interchange/interchangelaw2.WirePlacesAreFound -/
def sc_interchangelaw2_WirePlacesAreFound : SC :=
  (.seq (.reg [.r 6 (.boxI (.t 1)),
     .r 9 (.boxI (.t 4)),
     .r 10 (.mv (.c (.d (.bool false))))])
  (.seq (.reg [.r 21 (.mv (.t 0)),
     .o 22 (.ldA 5 (.t 6)),
     .r 23 (.mv (.t 2)),
     .r 24 (.mv (.t 3)),
     .o 25 (.ldA 3 (.t 9)),
     .c 26 (.f 40) [.t 21, .t 22, .t 23, .t 24, .t 25],
     .r 20 (.mv (.t 26)),
     .r 27 (.ext (.t 20) 0),
     .r 28 (.ext (.t 20) 1),
     .w 11 (.boxM (.c (.agg [.d (.int .i64 0), .d (.int .i64 0)]))),
     .w 0 (.st 2 (.t 11) (.t 27)),
     .r 12 (.mv (.t 28))])
  (.seq (.seq (.reg [.r 29 (.mv (.t 12)),
     .r 30 (.bin .neq (.t 29) (.c (.d (.int .i64 0))))])
  (.cond (.t 30)
    (.seq (.reg (.o 31 (.ldA 2 (.t 11)) :: .r 32 (.build [.d (.int .i64 0), .d (.int .i64 0)] []) :: .r 33 (.eqs .eql [(.int .i64), (.int .i64)] (.t 31) (.t 32)) :: .r 34 (.mv (.t 33)) :: gapp [35] 34 true (.c 35 (.f 21) [] :: []) (.r 36 (.pick (.t 34) (.t 35) (.c (.d (.bool false)))) :: .r 10 (.mv (.t 36)) :: [])))
    .ret)
    .skip))
  (.seq (.reg [.r 38 (.mv (.t 0)),
     .o 39 (.ldA 5 (.t 6)),
     .r 40 (.mv (.t 2)),
     .c 41 (.f 38) [.t 38, .t 39, .t 40],
     .r 37 (.mv (.t 41)),
     .r 42 (.ext (.t 37) 0),
     .r 43 (.ext (.t 37) 1),
     .r 13 (.mv (.t 42)),
     .r 12 (.mv (.t 43))])
  (.seq (.seq (.reg (.r 44 (.mv (.t 12)) :: .r 45 (.bin .neq (.t 44) (.c (.d (.int .i64 0)))) :: .r 46 (.mv (.t 45)) :: gapp [47, 48, 49] 46 false (.r 47 (.fld 0 (.t 11)) :: .r 48 (.ld1 (.t 47)) :: .r 49 (.bin .lss (.t 48) (.c (.d (.int .i64 1)))) :: []) (.r 50 (.pick (.t 46) (.c (.d (.bool true))) (.t 49)) :: .r 51 (.mv (.t 50)) :: gapp [52, 53, 54, 55, 56] 51 false (.r 52 (.fld 1 (.t 11)) :: .r 53 (.ld1 (.t 52)) :: .r 54 (.fld 0 (.t 11)) :: .r 55 (.ld1 (.t 54)) :: .r 56 (.bin .lss (.t 53) (.t 55)) :: []) (.r 57 (.pick (.t 51) (.c (.d (.bool true))) (.t 56)) :: .r 58 (.mv (.t 57)) :: gapp [59, 60, 61, 62, 63] 58 false (.r 59 (.fld 1 (.t 11)) :: .r 60 (.ld1 (.t 59)) :: .r 61 (.mv (.t 13)) :: .r 62 (.len (.t 61)) :: .r 63 (.bin .gtr (.t 60) (.t 62)) :: []) (.r 64 (.pick (.t 58) (.c (.d (.bool true))) (.t 63)) :: .r 65 (.mv (.t 64)) :: gapp [66, 67] 65 false (.r 66 (.mv (.t 3)) :: .r 67 (.bin .lss (.t 66) (.c (.d (.int .i64 0)))) :: []) (.r 68 (.pick (.t 65) (.c (.d (.bool true))) (.t 67)) :: .r 69 (.mv (.t 68)) :: gapp [70, 71, 72, 73] 69 false (.r 70 (.mv (.t 3)) :: .r 71 (.mv (.t 0)) :: .r 72 (.len (.t 71)) :: .r 73 (.bin .geq (.t 70) (.t 72)) :: []) (.r 74 (.pick (.t 69) (.c (.d (.bool true))) (.t 73)) :: [])))))))
  (.cond (.t 74)
    (.seq (.reg [.r 10 (.mv (.c (.d (.bool false))))])
    .ret)
    .skip))
  (.seq (.seq (.reg [.r 75 (.fld 0 (.t 11)),
     .o 76 (.ld1 (.t 75)),
     .r 77 (.bin .sub (.t 76) (.c (.d (.int .i64 1)))),
     .r 14 (.mv (.t 77))])
  sc_interchangelaw2_WirePlacesAreFound_B1)
  (.seq (.regD [.r 106 (.mv (.t 0)),
     .r 107 (.mv (.t 3)),
     .r 108 (.idx 2 (.t 106) (.t 107)),
     .r 109 (.ldA 2 (.t 108)),
     .r 110 (.ldA 3 (.t 9)),
     .c 111 (.f 33) [.t 109, .t 110],
     .r 105 (.mv (.t 111)),
     .r 112 (.ext (.t 105) 0),
     .r 113 (.ext (.t 105) 1),
     .r 114 (.ext (.t 105) 2),
     .r 18 (.mv (.t 112)),
     .r 19 (.mv (.t 113)),
     .r 12 (.mv (.t 114))])
  (.seq (.reg (.r 115 (.mv (.t 12)) :: .r 116 (.bin .eql (.t 115) (.c (.d (.int .i64 0)))) :: .r 117 (.mv (.t 116)) :: gapp [118] 117 true (.r 118 (.mv (.t 19)) :: []) (.r 119 (.pick (.t 117) (.t 118) (.c (.d (.bool false)))) :: .r 120 (.mv (.t 119)) :: gapp [121, 122, 123, 124, 125, 126, 127, 128] 120 true (.r 121 (.fld 1 (.t 11)) :: .r 122 (.ld1 (.t 121)) :: .r 123 (.fld 0 (.t 11)) :: .r 124 (.ld1 (.t 123)) :: .r 125 (.bin .sub (.t 122) (.t 124)) :: .r 126 (.mv (.t 18)) :: .r 127 (.lenT (.t 126)) :: .r 128 (.bin .geq (.t 125) (.t 127)) :: []) (.r 129 (.pick (.t 120) (.t 128) (.c (.d (.bool false)))) :: .r 130 (.mv (.t 129)) :: gapp [131] 130 true (.c 131 (.f 21) [] :: []) (.r 132 (.pick (.t 130) (.t 131) (.c (.d (.bool false)))) :: .r 10 (.mv (.t 132)) :: [])))))
  .ret))))))))
theorem fit_interchangelaw2_WirePlacesAreFound : fits Tryd.prog 12 Tryd.f12 sc_interchangelaw2_WirePlacesAreFound [.t 10] 5 = true := by kernel_rfl

set_option maxRecDepth 100000 in
set_option maxHeartbeats 40000000 in
noncomputable def sims_G10_3_0 : (∀ (x0 : List Tapi_Segment) (x1 : Tapi_Marks) (x2 : Bool) (x3 : Int) (x4 : Tapi_Spot), {m : Option (Bool) // ∀ r, m = some r → PureSpec Tryd.prog 12 [.slice (List.map rTapi_Segment x0), .agg (rTapi_Marks x1), .bool x2, .int .i64 x3, .agg (rTapi_Spot x4)] (.bool r)}) := by
  (intro x0 x1 x2 x3 x4; apply Subtype.mk; intro r hm; apply pure_walk Tryd.func12 fit_interchangelaw2_WirePlacesAreFound; unfold sc_interchangelaw2_WirePlacesAreFound)
  repeat' (first | with_reducible refine W_seq ?_ | with_reducible refine W_reg ?_ | with_reducible refine W_regD ?_ | with_reducible refine W_block ?_ | with_reducible refine W_skip ?_ | with_reducible refine W_ret ?_ | with_reducible refine W_exit ?_ | with_reducible refine O_nil ?_ | with_reducible refine K_seq ?_ | with_reducible refine K_seqE ?_ | with_reducible refine K_seqR ?_ | with_reducible refine K_block ?_ | with_reducible refine K_blockR ?_ | with_reducible refine K_blockE ?_ | ((with_reducible apply K_blockN); decide) | with_reducible refine O_o2r ?_ | ((with_reducible apply O_idxr hm); (iterate 2 (simp only [push_cast, seval]; rfl)); (intro _; rfl); intro e hm) | ((with_reducible apply O_idxVr hm); (iterate 3 (simp only [push_cast, seval]; rfl)); intro e hm) | ((with_reducible apply O_r); (simp only [push_cast, seval]; rfl); (first | exact trivial | omega)) | ((with_reducible apply O_ldV1r hm); (iterate 2 (simp only [push_cast, seval]; rfl)); (intro _; rfl); intro e hm) | ((with_reducible apply O_strr hm); (iterate 2 (simp only [push_cast, seval]; rfl)); intro hm) | ((with_reducible apply O_and hm); (simp only [push_cast, seval]; rfl); rfl; intro v hm; rotate_left; intro v g hm) | ((with_reducible apply O_or hm); (simp only [push_cast, seval]; rfl); rfl; intro v hm; rotate_left; intro v g hm) | ((with_reducible apply W_condT); (focus (simp only [push_cast, seval]; done))) | ((with_reducible apply W_condF); (focus (simp only [push_cast, seval]; done))) | ((with_reducible apply O_cS hm); (simp only [push_cast, seval]; rfl); (focus (first | exact spec_wire_Where _ _ _ _ _ | exact spec_interchangelaw2_awake | exact spec_wire_Join _ _ _ | exact spec_wire_SpotAt _ _ _ _ | exact spec_wire_Text _ _)); intro x hm) | ((with_reducible apply O_cF hm); (simp only [push_cast, seval]; rfl); (first | apply spec_wire_Where _ _ _ _ _ | apply spec_interchangelaw2_awake | apply spec_wire_Join _ _ _ | apply spec_wire_SpotAt _ _ _ _ | apply spec_wire_Text _ _); (any_goals ((repeat' (first | rfl | (with_reducible first | apply fT_Tapi_Element | apply fT_Tapi_Marks | apply fT_Tapi_Range | apply fT_Tapi_Segment | apply fT_Tapi_Spot | apply fT_Tinterchangeref2_piece | apply fT_Tinterchangeref2_writer | apply fT_Twire_place | apply fT_Twire_writer | apply f_optN | apply f_optS | apply f_some | apply f_tup | apply f_agg | apply f_ptr | apply dv_slice | apply sv_d | apply f_cons | apply fold_nil | apply fold_cons | apply fold_app | apply f_rowI | apply f_rowY | apply f_rowS | apply f_rowB | apply f_rowL) | (with_reducible apply f_byte; decide))); done)); intro x hm) | ((with_reducible apply O_w); (simp only [push_cast, seval]; rfl); (first | exact trivial | omega)) | ((with_reducible apply S_condB hm); (simp only [push_cast, seval]; rfl); intro hm; rotate_left; intro hm) | ((with_reducible apply K_endS hm); (focus (simp only [resOf, resL, RV.get, push_cast, seval]; rfl)); (focus ((repeat' (first | rfl | (with_reducible first | apply fT_Tapi_Element | apply fT_Tapi_Marks | apply fT_Tapi_Range | apply fT_Tapi_Segment | apply fT_Tapi_Spot | apply fT_Tinterchangeref2_piece | apply fT_Tinterchangeref2_writer | apply fT_Twire_place | apply fT_Twire_writer | apply f_optN | apply f_optS | apply f_some | apply f_tup | apply f_agg | apply f_ptr | apply dv_slice | apply sv_d | apply f_cons | apply fold_nil | apply fold_cons | apply fold_app | apply f_rowI | apply f_rowY | apply f_rowS | apply f_rowB | apply f_rowL) | (with_reducible apply f_byte; decide))); done))) | ((with_reducible apply K_bool hm); (simp only [push_cast, seval]; rfl)) | ((with_reducible apply K_leave hm); intro r hm) | ((with_reducible apply K_leaveR hm); intro r hm) | ((apply S_loopX (b := 0) (X := sc_interchangelaw2_WirePlacesAreFound_B1) (x := sc_interchangelaw2_WirePlacesAreFound_L1) rfl (fun (c : SV × SV × SV × SV × SV × Ch) (s : Int) => st [(0, c.1), (2, c.2.1), (3, c.2.2.1), (6, c.2.2.2.1), (9, c.2.2.2.2.1), (11, .ref 11 0), (14, .d (.int .i64 s))] [(11, c.2.2.2.2.2)]) (c := (_, _, _, _, _, _)) (s0 := _) hm); (focus (first | (dsimp only; done) | (dsimp only; rfl) | rfl)); (focus ((apply imp_stT; (repeat' (first | with_reducible exact keepT_nil | with_reducible exact keepC_nil | with_reducible apply keepT_cons | with_reducible apply keepC_cons | ((with_reducible apply svle_eq); (focus (first | (simp only [push_cast, seval]; rfl) | rfl)); (focus ((repeat' (first | rfl | (with_reducible first | apply fT_Tapi_Element | apply fT_Tapi_Marks | apply fT_Tapi_Range | apply fT_Tapi_Segment | apply fT_Tapi_Spot | apply fT_Tinterchangeref2_piece | apply fT_Tinterchangeref2_writer | apply fT_Twire_place | apply fT_Twire_writer | apply f_optN | apply f_optS | apply f_some | apply f_tup | apply f_agg | apply f_ptr | apply dv_slice | apply sv_d | apply f_cons | apply fold_nil | apply fold_cons | apply fold_app | apply f_rowI | apply f_rowY | apply f_rowS | apply f_rowB | apply f_rowL) | (with_reducible apply f_byte; decide))); done))) | ((with_reducible apply svle_td); (focus (first | (simp only [push_cast, seval]; rfl) | rfl)); (focus (first | (simp only [push_cast, seval]; rfl) | rfl)); (focus ((repeat' (first | rfl | (with_reducible first | apply fT_Tapi_Element | apply fT_Tapi_Marks | apply fT_Tapi_Range | apply fT_Tapi_Segment | apply fT_Tapi_Spot | apply fT_Tinterchangeref2_piece | apply fT_Tinterchangeref2_writer | apply fT_Twire_place | apply fT_Twire_writer | apply f_optN | apply f_optS | apply f_some | apply f_tup | apply f_agg | apply f_ptr | apply dv_slice | apply sv_d | apply f_cons | apply fold_nil | apply fold_cons | apply fold_app | apply f_rowI | apply f_rowY | apply f_rowS | apply f_rowB | apply f_rowL) | (with_reducible apply f_byte; decide))); done))) | ((with_reducible apply chle_eq); (focus (first | (simp only [push_cast, seval]; rfl) | rfl)); (first | with_reducible exact chle_rfl rfl | with_reducible exact chle_map0 | with_reducible apply chle_vec | with_reducible apply chle_box)) | (with_reducible first | apply cT_Tapi_Element | apply cT_Tapi_Marks | apply cT_Tapi_Range | apply cT_Tapi_Segment | apply cT_Tapi_Spot | apply cT_Tinterchangeref2_piece | apply cT_Tinterchangeref2_writer | apply cT_Twire_place | apply cT_Twire_writer | apply vc_rfl | apply vc_nil | apply vc_cons | apply r_rfl | apply r_rows | apply r_nil | apply r_app | apply r_cons | apply c_rowI | apply c_rowY | apply c_rowS | apply c_rowB | apply c_rowL))); done))); (focus (first | (dsimp only; done) | (dsimp only; rfl) | rfl)); (focus ((intro _; repeat' (first | with_reducible exact impC_end | with_reducible exact impC_endF | with_reducible refine impC_seq ?_ | with_reducible refine impC_block ?_ | ((with_reducible refine impC_rnd ?_); intro _) | ((with_reducible refine impC_brk ?_); intro _))))); (intro s o hm; unfold sc_interchangelaw2_WirePlacesAreFound_L1); rotate_left; intro s hm) | ((apply K_next (s' := _) hm); (focus (first | (dsimp only; done) | (dsimp only; rfl) | rfl)); (focus ((apply imp_stT; (repeat' (first | with_reducible exact keepT_nil | with_reducible exact keepC_nil | with_reducible apply keepT_cons | with_reducible apply keepC_cons | ((with_reducible apply svle_eq); (focus (first | (simp only [push_cast, seval]; rfl) | rfl)); (focus ((repeat' (first | rfl | (with_reducible first | apply fT_Tapi_Element | apply fT_Tapi_Marks | apply fT_Tapi_Range | apply fT_Tapi_Segment | apply fT_Tapi_Spot | apply fT_Tinterchangeref2_piece | apply fT_Tinterchangeref2_writer | apply fT_Twire_place | apply fT_Twire_writer | apply f_optN | apply f_optS | apply f_some | apply f_tup | apply f_agg | apply f_ptr | apply dv_slice | apply sv_d | apply f_cons | apply fold_nil | apply fold_cons | apply fold_app | apply f_rowI | apply f_rowY | apply f_rowS | apply f_rowB | apply f_rowL) | (with_reducible apply f_byte; decide))); done))) | ((with_reducible apply svle_td); (focus (first | (simp only [push_cast, seval]; rfl) | rfl)); (focus (first | (simp only [push_cast, seval]; rfl) | rfl)); (focus ((repeat' (first | rfl | (with_reducible first | apply fT_Tapi_Element | apply fT_Tapi_Marks | apply fT_Tapi_Range | apply fT_Tapi_Segment | apply fT_Tapi_Spot | apply fT_Tinterchangeref2_piece | apply fT_Tinterchangeref2_writer | apply fT_Twire_place | apply fT_Twire_writer | apply f_optN | apply f_optS | apply f_some | apply f_tup | apply f_agg | apply f_ptr | apply dv_slice | apply sv_d | apply f_cons | apply fold_nil | apply fold_cons | apply fold_app | apply f_rowI | apply f_rowY | apply f_rowS | apply f_rowB | apply f_rowL) | (with_reducible apply f_byte; decide))); done))) | ((with_reducible apply chle_eq); (focus (first | (simp only [push_cast, seval]; rfl) | rfl)); (first | with_reducible exact chle_rfl rfl | with_reducible exact chle_map0 | with_reducible apply chle_vec | with_reducible apply chle_box)) | (with_reducible first | apply cT_Tapi_Element | apply cT_Tapi_Marks | apply cT_Tapi_Range | apply cT_Tapi_Segment | apply cT_Tapi_Spot | apply cT_Tinterchangeref2_piece | apply cT_Tinterchangeref2_writer | apply cT_Twire_place | apply cT_Twire_writer | apply vc_rfl | apply vc_nil | apply vc_cons | apply r_rfl | apply r_rows | apply r_nil | apply r_app | apply r_cons | apply c_rowI | apply c_rowY | apply c_rowS | apply c_rowB | apply c_rowL))); done)))) | ((apply K_brk (s' := _) hm); (focus (first | (dsimp only; done) | (dsimp only; rfl) | rfl)); (focus ((apply imp_stT; (repeat' (first | with_reducible exact keepT_nil | with_reducible exact keepC_nil | with_reducible apply keepT_cons | with_reducible apply keepC_cons | ((with_reducible apply svle_eq); (focus (first | (simp only [push_cast, seval]; rfl) | rfl)); (focus ((repeat' (first | rfl | (with_reducible first | apply fT_Tapi_Element | apply fT_Tapi_Marks | apply fT_Tapi_Range | apply fT_Tapi_Segment | apply fT_Tapi_Spot | apply fT_Tinterchangeref2_piece | apply fT_Tinterchangeref2_writer | apply fT_Twire_place | apply fT_Twire_writer | apply f_optN | apply f_optS | apply f_some | apply f_tup | apply f_agg | apply f_ptr | apply dv_slice | apply sv_d | apply f_cons | apply fold_nil | apply fold_cons | apply fold_app | apply f_rowI | apply f_rowY | apply f_rowS | apply f_rowB | apply f_rowL) | (with_reducible apply f_byte; decide))); done))) | ((with_reducible apply svle_td); (focus (first | (simp only [push_cast, seval]; rfl) | rfl)); (focus (first | (simp only [push_cast, seval]; rfl) | rfl)); (focus ((repeat' (first | rfl | (with_reducible first | apply fT_Tapi_Element | apply fT_Tapi_Marks | apply fT_Tapi_Range | apply fT_Tapi_Segment | apply fT_Tapi_Spot | apply fT_Tinterchangeref2_piece | apply fT_Tinterchangeref2_writer | apply fT_Twire_place | apply fT_Twire_writer | apply f_optN | apply f_optS | apply f_some | apply f_tup | apply f_agg | apply f_ptr | apply dv_slice | apply sv_d | apply f_cons | apply fold_nil | apply fold_cons | apply fold_app | apply f_rowI | apply f_rowY | apply f_rowS | apply f_rowB | apply f_rowL) | (with_reducible apply f_byte; decide))); done))) | ((with_reducible apply chle_eq); (focus (first | (simp only [push_cast, seval]; rfl) | rfl)); (first | with_reducible exact chle_rfl rfl | with_reducible exact chle_map0 | with_reducible apply chle_vec | with_reducible apply chle_box)) | (with_reducible first | apply cT_Tapi_Element | apply cT_Tapi_Marks | apply cT_Tapi_Range | apply cT_Tapi_Segment | apply cT_Tapi_Spot | apply cT_Tinterchangeref2_piece | apply cT_Tinterchangeref2_writer | apply cT_Twire_place | apply cT_Twire_writer | apply vc_rfl | apply vc_nil | apply vc_cons | apply r_rfl | apply r_rows | apply r_nil | apply r_app | apply r_cons | apply c_rowI | apply c_rowY | apply c_rowS | apply c_rowB | apply c_rowL))); done)))) | (((with_reducible apply K_brkN hm); (focus decide); intro r hm)) | (((with_reducible apply K_brkR hm); intro r hm)))
noncomputable def m_interchangelaw2_WirePlacesAreFound (x0 : List Tapi_Segment) (x1 : Tapi_Marks) (x2 : Bool) (x3 : Int) (x4 : Tapi_Spot) : Option (Bool) := (sims_G10_3_0 x0 x1 x2 x3 x4).1
theorem spec_interchangelaw2_WirePlacesAreFound (x0 : List Tapi_Segment) (x1 : Tapi_Marks) (x2 : Bool) (x3 : Int) (x4 : Tapi_Spot) : ∀ r, m_interchangelaw2_WirePlacesAreFound x0 x1 x2 x3 x4 = some r → PureSpec Tryd.prog 12 [.slice (List.map rTapi_Segment x0), .agg (rTapi_Marks x1), .bool x2, .int .i64 x3, .agg (rTapi_Spot x4)] (.bool r) := (sims_G10_3_0 x0 x1 x2 x3 x4).2

end Go.Proofs.YteilhjdpbjgdpaaDoor
