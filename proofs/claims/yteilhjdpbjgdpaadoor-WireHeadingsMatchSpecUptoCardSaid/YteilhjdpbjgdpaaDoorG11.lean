/-
  Bodies of functions and what they compute, printed by programs of mine (wip/tool/gen.py, sc.py) out of the translation; the kernel holds each against the translation.
-/
import Derived.Test.YteilhjdpbjgdpaaDoorEngZ
import Derived.Test.YteilhjdpbjgdpaaDoorProg
import Derived.KernelRfl
import Derived.Test.YteilhjdpbjgdpaaDoorLibT
import Derived.Test.YteilhjdpbjgdpaaDoorLibS
import Derived.Test.YteilhjdpbjgdpaaDoorLibH
import Derived.Test.YteilhjdpbjgdpaaDoorLibB
import Derived.Test.YteilhjdpbjgdpaaDoorG1
import Derived.Test.YteilhjdpbjgdpaaDoorG6
import Derived.Test.YteilhjdpbjgdpaaDoorG8
namespace Go.Proofs.YteilhjdpbjgdpaaDoor
open Go.RowKit
set_option linter.unusedSimpArgs false
set_option linter.unusedVariables false
/-- interchange/interchangeref2.heading -/
def sc_interchangeref2_heading : SC :=
  (.seq (.reg [.r 1 (.boxI (.t 0)),
     .r 2 (.mv (.c (.nils)))])
  (.seq (.reg [.r 4 (.fld 3 (.t 1)),
     .o 5 (.ld1 (.t 4)),
     .r 3 (.mv (.t 5))])
  (.seq (.seq (.reg [.r 6 (.mv (.t 3)),
     .r 7 (.bin .eql (.t 6) (.c (.d (.int .u8 0))))])
  (.cond (.t 7)
    (.reg [.r 3 (.mv (.c (.d (.int .u8 32))))])
    .skip))
  (.seq (.reg [.r 8 (.fld 0 (.t 1)),
     .o 9 (.ld1 (.t 8)),
     .r 10 (.fld 1 (.t 1)),
     .o 11 (.ld1 (.t 10)),
     .r 12 (.fld 2 (.t 1)),
     .o 13 (.ld1 (.t 12)),
     .r 14 (.mv (.t 3)),
     .r 15 (.fld 4 (.t 1)),
     .o 16 (.ld1 (.t 15)),
     .r 17 (.bslice 1 [.c (.d (.int .u8 77)), .c (.d (.int .u8 82)), .c (.d (.int .u8 75)), .t 9, .t 11, .t 13, .t 14, .t 16]),
     .r 2 (.mv (.t 17))])
  .ret))))
theorem fit_interchangeref2_heading : fits Tryd.prog 46 Tryd.f46 sc_interchangeref2_heading [.t 2] 1 = true := by kernel_rfl

set_option maxRecDepth 100000 in
set_option maxHeartbeats 40000000 in
noncomputable def sims_G11_0_0 : (∀ (x0 : Tapi_Marks), {m : Option ((List UInt8)) // ∀ r, m = some r → PureSpec Tryd.prog 46 [.agg (rTapi_Marks x0)] (.slice (List.map rowY r))}) := by
  (intro x0; apply Subtype.mk; intro r hm; apply pure_walk Tryd.func46 fit_interchangeref2_heading; unfold sc_interchangeref2_heading)
  repeat' (first | with_reducible refine W_seq ?_ | with_reducible refine W_reg ?_ | with_reducible refine W_block ?_ | with_reducible refine W_skip ?_ | with_reducible refine W_ret ?_ | with_reducible refine W_exit ?_ | with_reducible refine O_nil ?_ | with_reducible refine K_seq ?_ | with_reducible refine K_seqE ?_ | with_reducible refine K_seqR ?_ | with_reducible refine K_block ?_ | with_reducible refine K_blockR ?_ | with_reducible refine K_blockE ?_ | ((with_reducible apply K_blockN); decide) | with_reducible refine O_o2r ?_ | ((with_reducible apply O_r); (simp only [push_cast, seval]; rfl); (first | exact trivial | omega)) | ((with_reducible apply W_condT); (focus (simp only [push_cast, seval]; done))) | ((with_reducible apply W_condF); (focus (simp only [push_cast, seval]; done))) | ((with_reducible apply S_condB hm); (simp only [push_cast, seval]; rfl); intro hm; rotate_left; intro hm) | ((with_reducible apply K_endS hm); (focus (simp only [resOf, resL, RV.get, push_cast, seval]; rfl)); (focus ((repeat' (first | rfl | (with_reducible first | apply fT_Tapi_Marks | apply f_optN | apply f_optS | apply f_some | apply f_tup | apply f_agg | apply f_ptr | apply dv_slice | apply sv_d | apply f_cons | apply fold_nil | apply fold_cons | apply fold_app | apply f_rowI | apply f_rowY | apply f_rowS | apply f_rowB | apply f_rowL) | (with_reducible apply f_byte; decide))); done))))
noncomputable def m_interchangeref2_heading (x0 : Tapi_Marks) : Option ((List UInt8)) := (sims_G11_0_0 x0).1
theorem spec_interchangeref2_heading (x0 : Tapi_Marks) : ∀ r, m_interchangeref2_heading x0 = some r → PureSpec Tryd.prog 46 [.agg (rTapi_Marks x0)] (.slice (List.map rowY r)) := (sims_G11_0_0 x0).2

/-- interchange/interchangeref2.Heading -/
def sc_interchangeref2_Heading : SC :=
  (.seq (.reg [.r 1 (.boxI (.t 0)),
     .r 2 (.mv (.c (.nils))),
     .r 3 (.mv (.c (.d (.int .i64 0))))])
  (.seq (.seq (.reg [.o 5 (.ldA 5 (.t 1)),
     .c 6 (.f 25) [.t 5],
     .r 4 (.mv (.t 6))])
  (.seq (.reg [.r 7 (.mv (.t 4)),
     .r 8 (.bin .neq (.t 7) (.c (.d (.int .i64 0))))])
  (.cond (.t 8)
    (.seq (.reg [.r 9 (.mv (.t 4)),
       .r 2 (.mv (.c (.nils))),
       .r 3 (.mv (.t 9))])
    .ret)
    .skip)))
  (.seq (.reg [.o 10 (.ldA 5 (.t 1)),
     .c 11 (.f 46) [.t 10],
     .r 2 (.mv (.t 11)),
     .r 3 (.mv (.c (.d (.int .i64 0))))])
  .ret)))
theorem fit_interchangeref2_Heading : fits Tryd.prog 16 Tryd.f16 sc_interchangeref2_Heading [.t 2, .t 3] 1 = true := by kernel_rfl

def sc_wire_ReadHeading_L1 : SC :=
  (.seq (.reg [.r 9 (.bin .lss (.t 8) (.c (.d (.int .i64 3))))])
  (.seq (.cond (.t 9)
    .skip
    (.exit 0))
  (.seq (.block 1 (.seq (.reg [.r 10 (.mv (.t 8)),
       .r 5 (.mv (.t 10))])
    (.seq (.regD (.r 11 (.mv (.t 5)) :: .r 12 (.mv (.t 0)) :: .r 13 (.len (.t 12)) :: .r 14 (.bin .geq (.t 11) (.t 13)) :: .r 15 (.mv (.t 14)) :: gapp [16, 17, 18, 19, 20, 21, 22] 15 false (.r 16 (.mv (.t 0)) :: .r 17 (.mv (.t 5)) :: .r 18 (.idx 1 (.t 16) (.t 17)) :: .r 19 (.ld1 (.t 18)) :: .r 20 (.mv (.t 5)) :: .r 21 (.sidx (.c (.d (.str [77, 82, 75]))) (.t 20)) :: .r 22 (.bin .neq (.t 19) (.t 21)) :: []) (.r 23 (.pick (.t 15) (.c (.d (.bool true))) (.t 22)) :: [])))
    (.cond (.t 23)
      (.seq (.reg [.r 24 (.build [.d (.int .u8 0), .d (.int .u8 0), .d (.int .u8 0), .d (.int .u8 0), .d (.int .u8 0)] []),
         .r 25 (.mv (.t 5)),
         .w 0 (.st 5 (.t 2) (.t 24)),
         .r 3 (.mv (.t 25)),
         .r 4 (.mv (.c (.d (.int .i64 10))))])
      .ret)
      .skip))))
  (.reg [.r 26 (.bin .add (.t 8) (.c (.d (.int .i64 1)))),
     .r 8 (.mv (.t 26))]))))
def sc_wire_ReadHeading_B1 : SC := .block 0 (.loop sc_wire_ReadHeading_L1)
/-- interchange/wire.ReadHeading -/
def sc_wire_ReadHeading : SC :=
  (.seq (.reg [.w 2 (.boxM (.c (.agg [.d (.int .u8 0), .d (.int .u8 0), .d (.int .u8 0), .d (.int .u8 0), .d (.int .u8 0)]))),
     .r 3 (.mv (.c (.d (.int .i64 0)))),
     .r 4 (.mv (.c (.d (.int .i64 0))))])
  (.seq (.seq (.reg [.r 8 (.mv (.c (.d (.int .i64 0))))])
  sc_wire_ReadHeading_B1)
  (.seq (.seq (.reg [.r 27 (.mv (.t 0)),
     .r 28 (.len (.t 27)),
     .r 29 (.bin .lss (.t 28) (.c (.d (.int .i64 8))))])
  (.cond (.t 29)
    (.seq (.reg [.r 30 (.build [.d (.int .u8 0), .d (.int .u8 0), .d (.int .u8 0), .d (.int .u8 0), .d (.int .u8 0)] []),
       .r 31 (.mv (.t 0)),
       .r 32 (.len (.t 31)),
       .w 0 (.st 5 (.t 2) (.t 30)),
       .r 3 (.mv (.t 32)),
       .r 4 (.mv (.c (.d (.int .i64 10))))])
    .ret)
    .skip))
  (.seq (.seq (.reg [.r 33 (.mv (.t 0)),
     .r 34 (.idx 1 (.t 33) (.c (.d (.int .i64 6)))),
     .o 35 (.ld1 (.t 34)),
     .r 36 (.bin .eql (.t 35) (.c (.d (.int .u8 0))))])
  (.cond (.t 36)
    (.seq (.reg [.r 37 (.build [.d (.int .u8 0), .d (.int .u8 0), .d (.int .u8 0), .d (.int .u8 0), .d (.int .u8 0)] []),
       .w 0 (.st 5 (.t 2) (.t 37)),
       .r 3 (.mv (.c (.d (.int .i64 3)))),
       .r 4 (.mv (.c (.d (.int .i64 3))))])
    .ret)
    .skip))
  (.seq (.regE [.r 38 (.mv (.t 0)),
     .r 39 (.idx 1 (.t 38) (.c (.d (.int .i64 3)))),
     .r 40 (.ld1 (.t 39)),
     .r 41 (.mv (.t 0)),
     .r 42 (.idx 1 (.t 41) (.c (.d (.int .i64 4)))),
     .r 43 (.ld1 (.t 42)),
     .r 44 (.mv (.t 0)),
     .r 45 (.idx 1 (.t 44) (.c (.d (.int .i64 5)))),
     .r 46 (.ld1 (.t 45)),
     .r 47 (.mv (.t 0)),
     .r 48 (.idx 1 (.t 47) (.c (.d (.int .i64 6)))),
     .r 49 (.ld1 (.t 48)),
     .r 50 (.mv (.t 0)),
     .r 51 (.idx 1 (.t 50) (.c (.d (.int .i64 7)))),
     .r 52 (.ld1 (.t 51)),
     .r 53 (.build [.d (.int .u8 0), .d (.int .u8 0), .d (.int .u8 0), .d (.int .u8 0), .d (.int .u8 0)] [(0, 1, .t 40), (1, 1, .t 43), (2, 1, .t 46), (3, 1, .t 49), (4, 1, .t 52)]),
     .x 6 (.boxM (.c (.agg [.d (.int .u8 0), .d (.int .u8 0), .d (.int .u8 0), .d (.int .u8 0), .d (.int .u8 0)]))) [(0, 38, .mv (.t 0)), (1, 39, .idx 1 (.t 38) (.c (.d (.int .i64 3)))), (2, 40, .ld1 (.t 39)), (3, 41, .mv (.t 0)), (4, 42, .idx 1 (.t 41) (.c (.d (.int .i64 4)))), (5, 43, .ld1 (.t 42)), (6, 44, .mv (.t 0)), (7, 45, .idx 1 (.t 44) (.c (.d (.int .i64 5)))), (8, 46, .ld1 (.t 45)), (9, 47, .mv (.t 0)), (10, 48, .idx 1 (.t 47) (.c (.d (.int .i64 6)))), (11, 49, .ld1 (.t 48)), (12, 50, .mv (.t 0)), (13, 51, .idx 1 (.t 50) (.c (.d (.int .i64 7)))), (14, 52, .ld1 (.t 51)), (15, 53, .build [.d (.int .u8 0), .d (.int .u8 0), .d (.int .u8 0), .d (.int .u8 0), .d (.int .u8 0)] [(0, 1, .t 40), (1, 1, .t 43), (2, 1, .t 46), (3, 1, .t 49), (4, 1, .t 52)])],
     .x 0 (.st 5 (.t 6) (.t 53)) []])
  (.seq (.seq (.reg [.r 54 (.fld 3 (.t 6)),
     .o 55 (.ld1 (.t 54)),
     .r 56 (.bin .eql (.t 55) (.c (.d (.int .u8 32))))])
  (.cond (.t 56)
    (.reg [.r 57 (.fld 3 (.t 6)),
       .w 0 (.st 1 (.t 57) (.c (.d (.int .u8 0))))])
    .skip))
  (.seq (.seq (.reg [.o 58 (.ldA 5 (.t 6)),
     .c 59 (.f 24) [.t 58],
     .r 7 (.mv (.t 59))])
  (.seq (.reg [.r 60 (.mv (.t 7)),
     .r 61 (.bin .neq (.t 60) (.c (.d (.int .i64 0))))])
  (.cond (.t 61)
    (.seq (.reg [.r 62 (.build [.d (.int .u8 0), .d (.int .u8 0), .d (.int .u8 0), .d (.int .u8 0), .d (.int .u8 0)] []),
       .r 63 (.mv (.t 7)),
       .w 0 (.st 5 (.t 2) (.t 62)),
       .r 3 (.mv (.c (.d (.int .i64 3)))),
       .r 4 (.mv (.t 63))])
    .ret)
    .skip)))
  (.seq (.reg [.o 64 (.ldA 5 (.t 6)),
     .w 0 (.st 5 (.t 2) (.t 64)),
     .r 3 (.mv (.c (.d (.int .i64 0)))),
     .r 4 (.mv (.c (.d (.int .i64 0))))])
  .ret))))))))
theorem fit_wire_ReadHeading : fits Tryd.prog 17 Tryd.f17 sc_wire_ReadHeading [.cell 2 5, .t 3, .t 4] 1 = true := by kernel_rfl

def sc_interchangeref2_ReadHeading_L1 : SC :=
  (.seq (.seq (.reg [.r 8 (.mv (.t 5)),
     .r 9 (.bin .lss (.t 8) (.c (.d (.int .i64 3))))])
  (.cond (.t 9)
    .skip
    (.exit 0)))
  (.seq (.block 1 (.seq (.regD (.r 12 (.mv (.t 5)) :: .r 13 (.mv (.t 0)) :: .r 14 (.len (.t 13)) :: .r 15 (.bin .geq (.t 12) (.t 14)) :: .r 16 (.mv (.t 15)) :: gapp [17, 18, 19, 20, 21, 22, 23] 16 false (.r 17 (.mv (.t 0)) :: .r 18 (.mv (.t 5)) :: .r 19 (.idx 1 (.t 17) (.t 18)) :: .r 20 (.ld1 (.t 19)) :: .r 21 (.mv (.t 5)) :: .r 22 (.sidx (.c (.d (.str [77, 82, 75]))) (.t 21)) :: .r 23 (.bin .neq (.t 20) (.t 22)) :: []) (.r 24 (.pick (.t 16) (.c (.d (.bool true))) (.t 23)) :: [])))
    (.cond (.t 24)
      (.seq (.reg [.r 25 (.build [.d (.int .u8 0), .d (.int .u8 0), .d (.int .u8 0), .d (.int .u8 0), .d (.int .u8 0)] []),
         .r 26 (.mv (.t 5)),
         .w 0 (.st 5 (.t 2) (.t 25)),
         .r 3 (.mv (.t 26)),
         .r 4 (.mv (.c (.d (.int .i64 10))))])
      .ret)
      .skip)))
  (.reg [.r 10 (.mv (.t 5)),
     .r 11 (.bin .add (.t 10) (.c (.d (.int .i64 1)))),
     .r 5 (.mv (.t 11))])))
def sc_interchangeref2_ReadHeading_B1 : SC := .block 0 (.loop sc_interchangeref2_ReadHeading_L1)
/-- interchange/interchangeref2.ReadHeading -/
def sc_interchangeref2_ReadHeading : SC :=
  (.seq (.reg [.w 2 (.boxM (.c (.agg [.d (.int .u8 0), .d (.int .u8 0), .d (.int .u8 0), .d (.int .u8 0), .d (.int .u8 0)]))),
     .r 3 (.mv (.c (.d (.int .i64 0)))),
     .r 4 (.mv (.c (.d (.int .i64 0))))])
  (.seq (.seq (.reg [.r 5 (.mv (.c (.d (.int .i64 0))))])
  sc_interchangeref2_ReadHeading_B1)
  (.seq (.seq (.reg [.r 27 (.mv (.t 0)),
     .r 28 (.len (.t 27)),
     .r 29 (.bin .lss (.t 28) (.c (.d (.int .i64 8))))])
  (.cond (.t 29)
    (.seq (.reg [.r 30 (.build [.d (.int .u8 0), .d (.int .u8 0), .d (.int .u8 0), .d (.int .u8 0), .d (.int .u8 0)] []),
       .r 31 (.mv (.t 0)),
       .r 32 (.len (.t 31)),
       .w 0 (.st 5 (.t 2) (.t 30)),
       .r 3 (.mv (.t 32)),
       .r 4 (.mv (.c (.d (.int .i64 10))))])
    .ret)
    .skip))
  (.seq (.regE [.r 33 (.mv (.t 0)),
     .r 34 (.idx 1 (.t 33) (.c (.d (.int .i64 3)))),
     .r 35 (.ld1 (.t 34)),
     .r 36 (.mv (.t 0)),
     .r 37 (.idx 1 (.t 36) (.c (.d (.int .i64 4)))),
     .r 38 (.ld1 (.t 37)),
     .r 39 (.mv (.t 0)),
     .r 40 (.idx 1 (.t 39) (.c (.d (.int .i64 5)))),
     .r 41 (.ld1 (.t 40)),
     .r 42 (.mv (.t 0)),
     .r 43 (.idx 1 (.t 42) (.c (.d (.int .i64 6)))),
     .r 44 (.ld1 (.t 43)),
     .r 45 (.mv (.t 0)),
     .r 46 (.idx 1 (.t 45) (.c (.d (.int .i64 7)))),
     .r 47 (.ld1 (.t 46)),
     .r 48 (.build [.d (.int .u8 0), .d (.int .u8 0), .d (.int .u8 0), .d (.int .u8 0), .d (.int .u8 0)] [(0, 1, .t 35), (1, 1, .t 38), (2, 1, .t 41), (3, 1, .t 44), (4, 1, .t 47)]),
     .x 6 (.boxM (.c (.agg [.d (.int .u8 0), .d (.int .u8 0), .d (.int .u8 0), .d (.int .u8 0), .d (.int .u8 0)]))) [(0, 33, .mv (.t 0)), (1, 34, .idx 1 (.t 33) (.c (.d (.int .i64 3)))), (2, 35, .ld1 (.t 34)), (3, 36, .mv (.t 0)), (4, 37, .idx 1 (.t 36) (.c (.d (.int .i64 4)))), (5, 38, .ld1 (.t 37)), (6, 39, .mv (.t 0)), (7, 40, .idx 1 (.t 39) (.c (.d (.int .i64 5)))), (8, 41, .ld1 (.t 40)), (9, 42, .mv (.t 0)), (10, 43, .idx 1 (.t 42) (.c (.d (.int .i64 6)))), (11, 44, .ld1 (.t 43)), (12, 45, .mv (.t 0)), (13, 46, .idx 1 (.t 45) (.c (.d (.int .i64 7)))), (14, 47, .ld1 (.t 46)), (15, 48, .build [.d (.int .u8 0), .d (.int .u8 0), .d (.int .u8 0), .d (.int .u8 0), .d (.int .u8 0)] [(0, 1, .t 35), (1, 1, .t 38), (2, 1, .t 41), (3, 1, .t 44), (4, 1, .t 47)])],
     .x 0 (.st 5 (.t 6) (.t 48)) []])
  (.seq (.seq (.reg [.r 49 (.fld 3 (.t 6)),
     .o 50 (.ld1 (.t 49)),
     .r 51 (.bin .eql (.t 50) (.c (.d (.int .u8 0))))])
  (.cond (.t 51)
    (.seq (.reg [.r 52 (.build [.d (.int .u8 0), .d (.int .u8 0), .d (.int .u8 0), .d (.int .u8 0), .d (.int .u8 0)] []),
       .w 0 (.st 5 (.t 2) (.t 52)),
       .r 3 (.mv (.c (.d (.int .i64 3)))),
       .r 4 (.mv (.c (.d (.int .i64 3))))])
    .ret)
    .skip))
  (.seq (.seq (.reg [.r 53 (.fld 3 (.t 6)),
     .o 54 (.ld1 (.t 53)),
     .r 55 (.bin .eql (.t 54) (.c (.d (.int .u8 32))))])
  (.cond (.t 55)
    (.reg [.r 56 (.fld 3 (.t 6)),
       .w 0 (.st 1 (.t 56) (.c (.d (.int .u8 0))))])
    .skip))
  (.seq (.seq (.reg [.o 57 (.ldA 5 (.t 6)),
     .c 58 (.f 25) [.t 57],
     .r 7 (.mv (.t 58))])
  (.seq (.reg [.r 59 (.mv (.t 7)),
     .r 60 (.bin .neq (.t 59) (.c (.d (.int .i64 0))))])
  (.cond (.t 60)
    (.seq (.reg [.r 61 (.build [.d (.int .u8 0), .d (.int .u8 0), .d (.int .u8 0), .d (.int .u8 0), .d (.int .u8 0)] []),
       .r 62 (.mv (.t 7)),
       .w 0 (.st 5 (.t 2) (.t 61)),
       .r 3 (.mv (.c (.d (.int .i64 3)))),
       .r 4 (.mv (.t 62))])
    .ret)
    .skip)))
  (.seq (.reg [.o 63 (.ldA 5 (.t 6)),
     .w 0 (.st 5 (.t 2) (.t 63)),
     .r 3 (.mv (.c (.d (.int .i64 0)))),
     .r 4 (.mv (.c (.d (.int .i64 0))))])
  .ret))))))))
theorem fit_interchangeref2_ReadHeading : fits Tryd.prog 18 Tryd.f18 sc_interchangeref2_ReadHeading [.cell 2 5, .t 3, .t 4] 1 = true := by kernel_rfl

set_option maxRecDepth 100000 in
set_option maxHeartbeats 40000000 in
noncomputable def sims_G11_1_0 : (∀ (x0 : Tapi_Marks), {m : Option ((List UInt8) × Int) // ∀ r, m = some r → PureSpec Tryd.prog 16 [.agg (rTapi_Marks x0)] (.tup [.slice (List.map rowY r.1), .int .i64 r.2])}) × (∀ (x0 : List UInt8), {m : Option (Tapi_Marks × Int × Int) // ∀ r, m = some r → PureSpec Tryd.prog 17 [.slice (List.map rowY x0)] (.tup [.agg (rTapi_Marks r.1), .int .i64 r.2.1, .int .i64 r.2.2])}) × (∀ (x0 : List UInt8), {m : Option (Tapi_Marks × Int × Int) // ∀ r, m = some r → PureSpec Tryd.prog 18 [.slice (List.map rowY x0)] (.tup [.agg (rTapi_Marks r.1), .int .i64 r.2.1, .int .i64 r.2.2])}) := by
  refine ⟨?g0, ?g1, ?g2⟩
  case' g0 => (intro x0; apply Subtype.mk; intro r hm; apply pure_walk Tryd.func16 fit_interchangeref2_Heading; unfold sc_interchangeref2_Heading)
  case' g1 => (intro x0; apply Subtype.mk; intro r hm; apply pure_walk Tryd.func17 fit_wire_ReadHeading; unfold sc_wire_ReadHeading)
  case' g2 => (intro x0; apply Subtype.mk; intro r hm; apply pure_walk Tryd.func18 fit_interchangeref2_ReadHeading; unfold sc_interchangeref2_ReadHeading)
  all_goals (repeat' (first | with_reducible refine W_seq ?_ | with_reducible refine W_reg ?_ | with_reducible refine W_regD ?_ | with_reducible refine W_regE ?_ | with_reducible refine W_block ?_ | with_reducible refine W_skip ?_ | with_reducible refine W_ret ?_ | with_reducible refine W_exit ?_ | with_reducible refine O_nil ?_ | with_reducible refine K_seq ?_ | with_reducible refine K_seqE ?_ | with_reducible refine K_seqR ?_ | with_reducible refine K_block ?_ | with_reducible refine K_blockR ?_ | with_reducible refine K_blockE ?_ | ((with_reducible apply K_blockN); decide) | with_reducible refine O_o2r ?_ | ((with_reducible apply O_idxrE hm); (iterate 2 (simp only [push_cast, seval]; rfl)); (intro _; rfl); intro e he hm) | ((with_reducible apply O_idxVr hm); (iterate 3 (simp only [push_cast, seval]; rfl)); intro e hm) | ((with_reducible apply O_sidxr hm); (iterate 2 (simp only [push_cast, seval]; rfl)); intro e hm) | ((with_reducible apply O_r); (simp only [push_cast, seval]; rfl); (first | exact trivial | omega)) | ((with_reducible apply O_ldV1r hm); (iterate 2 (simp only [push_cast, seval]; rfl)); (intro _; rfl); intro e hm) | ((with_reducible apply O_strr hm); (iterate 2 (simp only [push_cast, seval]; rfl)); intro hm) | ((with_reducible apply O_or hm); (simp only [push_cast, seval]; rfl); rfl; intro v hm; rotate_left; intro v g hm) | ((with_reducible apply W_condT); (focus (simp only [push_cast, seval]; done))) | ((with_reducible apply W_condF); (focus (simp only [push_cast, seval]; done))) | ((with_reducible apply O_cS hm); (simp only [push_cast, seval]; rfl); (focus (first | exact spec_interchangeref2_CheckMarks _ | exact spec_interchangeref2_heading _ | exact spec_wire_CheckMarks _)); intro x hm) | ((with_reducible apply O_cF hm); (simp only [push_cast, seval]; rfl); (first | apply spec_interchangeref2_CheckMarks _ | apply spec_interchangeref2_heading _ | apply spec_wire_CheckMarks _); (any_goals ((repeat' (first | rfl | (with_reducible first | apply fT_Tapi_Marks | apply f_optN | apply f_optS | apply f_some | apply f_tup | apply f_agg | apply f_ptr | apply dv_slice | apply sv_d | apply f_cons | apply fold_nil | apply fold_cons | apply fold_app | apply f_rowI | apply f_rowY | apply f_rowS | apply f_rowB | apply f_rowL) | (with_reducible apply f_byte; decide))); done)); intro x hm) | ((with_reducible apply O_w); (simp only [push_cast, seval]; rfl); (first | exact trivial | omega)) | ((with_reducible apply O_x); (simp only [push_cast, seval]; rfl); (first | exact trivial | omega); (focus ((repeat' (first | exact Rer_nil | ((with_reducible apply Rer_idx); (focus (simp only [push_cast, seval]; rfl)); (focus (simp only [push_cast, seval]; rfl)); (focus assumption); (focus (intro _; rfl)); (focus (first | (simp only [push_cast, seval]; rfl) | (simp only [push_cast, seval]; done)))) | ((with_reducible apply Rer_cons); (focus (simp only [push_cast, seval]; rfl)); (focus (first | exact trivial | omega)); (focus (simp only [push_cast, seval]))))); done))) | ((with_reducible apply S_condB hm); (simp only [push_cast, seval]; rfl); intro hm; rotate_left; intro hm) | ((with_reducible apply K_end3 hm); (focus (simp only [resOf, resL, RV.get, push_cast, seval]; rfl)); (focus (first | (dsimp only; done) | (dsimp only; rfl) | rfl)); (focus ((repeat' (first | rfl | (with_reducible first | apply fT_Tapi_Marks | apply f_optN | apply f_optS | apply f_some | apply f_tup | apply f_agg | apply f_ptr | apply dv_slice | apply sv_d | apply f_cons | apply fold_nil | apply fold_cons | apply fold_app | apply f_rowI | apply f_rowY | apply f_rowS | apply f_rowB | apply f_rowL) | (with_reducible apply f_byte; decide))); done))) | ((with_reducible apply K_end2 hm); (focus (simp only [resOf, resL, RV.get, push_cast, seval]; rfl)); (focus (first | (dsimp only; done) | (dsimp only; rfl) | rfl)); (focus ((repeat' (first | rfl | (with_reducible first | apply fT_Tapi_Marks | apply f_optN | apply f_optS | apply f_some | apply f_tup | apply f_agg | apply f_ptr | apply dv_slice | apply sv_d | apply f_cons | apply fold_nil | apply fold_cons | apply fold_app | apply f_rowI | apply f_rowY | apply f_rowS | apply f_rowB | apply f_rowL) | (with_reducible apply f_byte; decide))); done))) | ((with_reducible apply K_bool hm); (simp only [push_cast, seval]; rfl)) | ((with_reducible apply K_leave hm); intro r hm) | ((with_reducible apply K_leaveR hm); intro r hm) | ((apply S_loopX (b := 0) (X := sc_wire_ReadHeading_B1) (x := sc_wire_ReadHeading_L1) rfl (fun (c : SV) (s : Tapi_Marks × Int) => st [(0, c), (2, .ref 2 0), (8, .d (.int .i64 s.2))] [(2, .box (dR (rTapi_Marks s.1)))]) (c := _) (s0 := (_, _)) hm); (focus (first | (dsimp only; done) | (dsimp only; rfl) | rfl)); (focus ((apply imp_stT; (repeat' (first | with_reducible exact keepT_nil | with_reducible exact keepC_nil | with_reducible apply keepT_cons | with_reducible apply keepC_cons | ((with_reducible apply svle_eq); (focus (first | (simp only [push_cast, seval]; rfl) | rfl)); (focus ((repeat' (first | rfl | (with_reducible first | apply fT_Tapi_Marks | apply f_optN | apply f_optS | apply f_some | apply f_tup | apply f_agg | apply f_ptr | apply dv_slice | apply sv_d | apply f_cons | apply fold_nil | apply fold_cons | apply fold_app | apply f_rowI | apply f_rowY | apply f_rowS | apply f_rowB | apply f_rowL) | (with_reducible apply f_byte; decide))); done))) | ((with_reducible apply svle_td); (focus (first | (simp only [push_cast, seval]; rfl) | rfl)); (focus (first | (simp only [push_cast, seval]; rfl) | rfl)); (focus ((repeat' (first | rfl | (with_reducible first | apply fT_Tapi_Marks | apply f_optN | apply f_optS | apply f_some | apply f_tup | apply f_agg | apply f_ptr | apply dv_slice | apply sv_d | apply f_cons | apply fold_nil | apply fold_cons | apply fold_app | apply f_rowI | apply f_rowY | apply f_rowS | apply f_rowB | apply f_rowL) | (with_reducible apply f_byte; decide))); done))) | ((with_reducible apply chle_eq); (focus (first | (simp only [push_cast, seval]; rfl) | rfl)); (first | with_reducible exact chle_rfl rfl | with_reducible exact chle_map0 | with_reducible apply chle_vec | with_reducible apply chle_box)) | (with_reducible first | apply cT_Tapi_Marks | apply vc_rfl | apply vc_nil | apply vc_cons | apply r_rfl | apply r_rows | apply r_nil | apply r_app | apply r_cons | apply c_rowI | apply c_rowY | apply c_rowS | apply c_rowB | apply c_rowL))); done))); (focus (first | (dsimp only; done) | (dsimp only; rfl) | rfl)); (focus ((intro _; repeat' (first | with_reducible exact impC_end | with_reducible exact impC_endF | with_reducible refine impC_seq ?_ | with_reducible refine impC_block ?_ | ((with_reducible refine impC_rnd ?_); intro _) | ((with_reducible refine impC_brk ?_); intro _))))); (intro s o hm; unfold sc_wire_ReadHeading_L1); rotate_left; intro s hm) | ((apply S_loopX (b := 0) (X := sc_interchangeref2_ReadHeading_B1) (x := sc_interchangeref2_ReadHeading_L1) rfl (fun (c : SV) (s : Tapi_Marks × Int) => st [(0, c), (2, .ref 2 0), (5, .d (.int .i64 s.2))] [(2, .box (dR (rTapi_Marks s.1)))]) (c := _) (s0 := (_, _)) hm); (focus (first | (dsimp only; done) | (dsimp only; rfl) | rfl)); (focus ((apply imp_stT; (repeat' (first | with_reducible exact keepT_nil | with_reducible exact keepC_nil | with_reducible apply keepT_cons | with_reducible apply keepC_cons | ((with_reducible apply svle_eq); (focus (first | (simp only [push_cast, seval]; rfl) | rfl)); (focus ((repeat' (first | rfl | (with_reducible first | apply fT_Tapi_Marks | apply f_optN | apply f_optS | apply f_some | apply f_tup | apply f_agg | apply f_ptr | apply dv_slice | apply sv_d | apply f_cons | apply fold_nil | apply fold_cons | apply fold_app | apply f_rowI | apply f_rowY | apply f_rowS | apply f_rowB | apply f_rowL) | (with_reducible apply f_byte; decide))); done))) | ((with_reducible apply svle_td); (focus (first | (simp only [push_cast, seval]; rfl) | rfl)); (focus (first | (simp only [push_cast, seval]; rfl) | rfl)); (focus ((repeat' (first | rfl | (with_reducible first | apply fT_Tapi_Marks | apply f_optN | apply f_optS | apply f_some | apply f_tup | apply f_agg | apply f_ptr | apply dv_slice | apply sv_d | apply f_cons | apply fold_nil | apply fold_cons | apply fold_app | apply f_rowI | apply f_rowY | apply f_rowS | apply f_rowB | apply f_rowL) | (with_reducible apply f_byte; decide))); done))) | ((with_reducible apply chle_eq); (focus (first | (simp only [push_cast, seval]; rfl) | rfl)); (first | with_reducible exact chle_rfl rfl | with_reducible exact chle_map0 | with_reducible apply chle_vec | with_reducible apply chle_box)) | (with_reducible first | apply cT_Tapi_Marks | apply vc_rfl | apply vc_nil | apply vc_cons | apply r_rfl | apply r_rows | apply r_nil | apply r_app | apply r_cons | apply c_rowI | apply c_rowY | apply c_rowS | apply c_rowB | apply c_rowL))); done))); (focus (first | (dsimp only; done) | (dsimp only; rfl) | rfl)); (focus ((intro _; repeat' (first | with_reducible exact impC_end | with_reducible exact impC_endF | with_reducible refine impC_seq ?_ | with_reducible refine impC_block ?_ | ((with_reducible refine impC_rnd ?_); intro _) | ((with_reducible refine impC_brk ?_); intro _))))); (intro s o hm; unfold sc_interchangeref2_ReadHeading_L1); rotate_left; intro s hm) | ((apply K_next (s' := (_, _)) hm); (focus (first | (dsimp only; done) | (dsimp only; rfl) | rfl)); (focus ((apply imp_stT; (repeat' (first | with_reducible exact keepT_nil | with_reducible exact keepC_nil | with_reducible apply keepT_cons | with_reducible apply keepC_cons | ((with_reducible apply svle_eq); (focus (first | (simp only [push_cast, seval]; rfl) | rfl)); (focus ((repeat' (first | rfl | (with_reducible first | apply fT_Tapi_Marks | apply f_optN | apply f_optS | apply f_some | apply f_tup | apply f_agg | apply f_ptr | apply dv_slice | apply sv_d | apply f_cons | apply fold_nil | apply fold_cons | apply fold_app | apply f_rowI | apply f_rowY | apply f_rowS | apply f_rowB | apply f_rowL) | (with_reducible apply f_byte; decide))); done))) | ((with_reducible apply svle_td); (focus (first | (simp only [push_cast, seval]; rfl) | rfl)); (focus (first | (simp only [push_cast, seval]; rfl) | rfl)); (focus ((repeat' (first | rfl | (with_reducible first | apply fT_Tapi_Marks | apply f_optN | apply f_optS | apply f_some | apply f_tup | apply f_agg | apply f_ptr | apply dv_slice | apply sv_d | apply f_cons | apply fold_nil | apply fold_cons | apply fold_app | apply f_rowI | apply f_rowY | apply f_rowS | apply f_rowB | apply f_rowL) | (with_reducible apply f_byte; decide))); done))) | ((with_reducible apply chle_eq); (focus (first | (simp only [push_cast, seval]; rfl) | rfl)); (first | with_reducible exact chle_rfl rfl | with_reducible exact chle_map0 | with_reducible apply chle_vec | with_reducible apply chle_box)) | (with_reducible first | apply cT_Tapi_Marks | apply vc_rfl | apply vc_nil | apply vc_cons | apply r_rfl | apply r_rows | apply r_nil | apply r_app | apply r_cons | apply c_rowI | apply c_rowY | apply c_rowS | apply c_rowB | apply c_rowL))); done)))) | ((apply K_brk (s' := (_, _)) hm); (focus (first | (dsimp only; done) | (dsimp only; rfl) | rfl)); (focus ((apply imp_stT; (repeat' (first | with_reducible exact keepT_nil | with_reducible exact keepC_nil | with_reducible apply keepT_cons | with_reducible apply keepC_cons | ((with_reducible apply svle_eq); (focus (first | (simp only [push_cast, seval]; rfl) | rfl)); (focus ((repeat' (first | rfl | (with_reducible first | apply fT_Tapi_Marks | apply f_optN | apply f_optS | apply f_some | apply f_tup | apply f_agg | apply f_ptr | apply dv_slice | apply sv_d | apply f_cons | apply fold_nil | apply fold_cons | apply fold_app | apply f_rowI | apply f_rowY | apply f_rowS | apply f_rowB | apply f_rowL) | (with_reducible apply f_byte; decide))); done))) | ((with_reducible apply svle_td); (focus (first | (simp only [push_cast, seval]; rfl) | rfl)); (focus (first | (simp only [push_cast, seval]; rfl) | rfl)); (focus ((repeat' (first | rfl | (with_reducible first | apply fT_Tapi_Marks | apply f_optN | apply f_optS | apply f_some | apply f_tup | apply f_agg | apply f_ptr | apply dv_slice | apply sv_d | apply f_cons | apply fold_nil | apply fold_cons | apply fold_app | apply f_rowI | apply f_rowY | apply f_rowS | apply f_rowB | apply f_rowL) | (with_reducible apply f_byte; decide))); done))) | ((with_reducible apply chle_eq); (focus (first | (simp only [push_cast, seval]; rfl) | rfl)); (first | with_reducible exact chle_rfl rfl | with_reducible exact chle_map0 | with_reducible apply chle_vec | with_reducible apply chle_box)) | (with_reducible first | apply cT_Tapi_Marks | apply vc_rfl | apply vc_nil | apply vc_cons | apply r_rfl | apply r_rows | apply r_nil | apply r_app | apply r_cons | apply c_rowI | apply c_rowY | apply c_rowS | apply c_rowB | apply c_rowL))); done)))) | (((with_reducible apply K_brkN hm); (focus decide); intro r hm)) | (((with_reducible apply K_brkR hm); intro r hm))))
noncomputable def m_interchangeref2_Heading (x0 : Tapi_Marks) : Option ((List UInt8) × Int) := (sims_G11_1_0.1 x0).1
theorem spec_interchangeref2_Heading (x0 : Tapi_Marks) : ∀ r, m_interchangeref2_Heading x0 = some r → PureSpec Tryd.prog 16 [.agg (rTapi_Marks x0)] (.tup [.slice (List.map rowY r.1), .int .i64 r.2]) := (sims_G11_1_0.1 x0).2
noncomputable def m_wire_ReadHeading (x0 : List UInt8) : Option (Tapi_Marks × Int × Int) := (sims_G11_1_0.2.1 x0).1
theorem spec_wire_ReadHeading (x0 : List UInt8) : ∀ r, m_wire_ReadHeading x0 = some r → PureSpec Tryd.prog 17 [.slice (List.map rowY x0)] (.tup [.agg (rTapi_Marks r.1), .int .i64 r.2.1, .int .i64 r.2.2]) := (sims_G11_1_0.2.1 x0).2
noncomputable def m_interchangeref2_ReadHeading (x0 : List UInt8) : Option (Tapi_Marks × Int × Int) := (sims_G11_1_0.2.2 x0).1
theorem spec_interchangeref2_ReadHeading (x0 : List UInt8) : ∀ r, m_interchangeref2_ReadHeading x0 = some r → PureSpec Tryd.prog 18 [.slice (List.map rowY x0)] (.tup [.agg (rTapi_Marks r.1), .int .i64 r.2.1, .int .i64 r.2.2]) := (sims_G11_1_0.2.2 x0).2

/-- interchange/interchangelaw2.WireHeadingsMatchSpec -/
def sc_interchangelaw2_WireHeadingsMatchSpec : SC :=
  (.seq (.reg [.r 2 (.boxI (.t 0)),
     .r 4 (.mv (.c (.d (.bool false))))])
  (.seq (.reg [.o 19 (.ldA 5 (.t 2)),
     .c 20 (.f 15) [.t 19],
     .r 18 (.mv (.t 20)),
     .r 21 (.ext (.t 18) 0),
     .r 22 (.ext (.t 18) 1),
     .r 5 (.mv (.t 21)),
     .r 6 (.mv (.t 22))])
  (.seq (.reg [.o 24 (.ldA 5 (.t 2)),
     .c 25 (.f 16) [.t 24],
     .r 23 (.mv (.t 25)),
     .r 26 (.ext (.t 23) 0),
     .r 27 (.ext (.t 23) 1),
     .r 7 (.mv (.t 26)),
     .r 8 (.mv (.t 27))])
  (.seq (.reg [.r 29 (.mv (.t 1)),
     .c 30 (.f 17) [.t 29],
     .r 28 (.mv (.t 30)),
     .r 31 (.ext (.t 28) 0),
     .r 32 (.ext (.t 28) 1),
     .r 33 (.ext (.t 28) 2),
     .w 9 (.boxM (.c (.agg [.d (.int .u8 0), .d (.int .u8 0), .d (.int .u8 0), .d (.int .u8 0), .d (.int .u8 0)]))),
     .w 0 (.st 5 (.t 9) (.t 31)),
     .r 10 (.mv (.t 32)),
     .r 11 (.mv (.t 33))])
  (.seq (.reg [.r 35 (.mv (.t 1)),
     .c 36 (.f 18) [.t 35],
     .r 34 (.mv (.t 36)),
     .r 37 (.ext (.t 34) 0),
     .r 38 (.ext (.t 34) 1),
     .r 39 (.ext (.t 34) 2),
     .w 12 (.boxM (.c (.agg [.d (.int .u8 0), .d (.int .u8 0), .d (.int .u8 0), .d (.int .u8 0), .d (.int .u8 0)]))),
     .w 0 (.st 5 (.t 12) (.t 37)),
     .r 13 (.mv (.t 38)),
     .r 14 (.mv (.t 39))])
  (.seq (.seq (.reg (.r 40 (.mv (.t 5)) :: .r 41 (.mv (.t 7)) :: .c 42 (.f 19) [.t 40, .t 41] :: .r 43 (.not (.t 42)) :: .r 44 (.mv (.t 43)) :: gapp [45, 46, 47] 44 false (.r 45 (.mv (.t 6)) :: .r 46 (.mv (.t 8)) :: .r 47 (.bin .neq (.t 45) (.t 46)) :: []) (.r 48 (.pick (.t 44) (.c (.d (.bool true))) (.t 47)) :: .r 49 (.mv (.t 48)) :: gapp [50, 51, 52] 49 false (.r 50 (.ldA 5 (.t 9)) :: .r 51 (.ldA 5 (.t 12)) :: .r 52 (.eqs .neq [(.int .u8), (.int .u8), (.int .u8), (.int .u8), (.int .u8)] (.t 50) (.t 51)) :: []) (.r 53 (.pick (.t 49) (.c (.d (.bool true))) (.t 52)) :: .r 54 (.mv (.t 53)) :: gapp [55, 56, 57] 54 false (.r 55 (.mv (.t 10)) :: .r 56 (.mv (.t 13)) :: .r 57 (.bin .neq (.t 55) (.t 56)) :: []) (.r 58 (.pick (.t 54) (.c (.d (.bool true))) (.t 57)) :: .r 59 (.mv (.t 58)) :: gapp [60, 61, 62] 59 false (.r 60 (.mv (.t 11)) :: .r 61 (.mv (.t 14)) :: .r 62 (.bin .neq (.t 60) (.t 61)) :: []) (.r 63 (.pick (.t 59) (.c (.d (.bool true))) (.t 62)) :: []))))))
  (.cond (.t 63)
    (.seq (.reg [.r 4 (.mv (.c (.d (.bool false))))])
    .ret)
    .skip))
  (.seq (.seq (.reg [.r 64 (.mv (.t 6)),
     .r 65 (.bin .eql (.t 64) (.c (.d (.int .i64 0))))])
  (.cond (.t 65)
    (.seq (.reg [.r 67 (.mv (.t 5)),
       .p (some 68) (.f 20) [.t 67],
       .r 69 (.mv (.t 1)),
       .w 70 (.app 5 1 (.t 68) (.t 69)),
       .c 71 (.f 17) [.t 70],
       .r 66 (.mv (.t 71)),
       .r 72 (.ext (.t 66) 0),
       .r 73 (.ext (.t 66) 1),
       .r 74 (.ext (.t 66) 2),
       .w 15 (.boxM (.c (.agg [.d (.int .u8 0), .d (.int .u8 0), .d (.int .u8 0), .d (.int .u8 0), .d (.int .u8 0)]))),
       .w 0 (.st 5 (.t 15) (.t 72)),
       .r 16 (.mv (.t 73)),
       .r 17 (.mv (.t 74))])
    (.seq (.reg (.r 75 (.mv (.t 17)) :: .r 76 (.bin .neq (.t 75) (.c (.d (.int .i64 0)))) :: .r 77 (.mv (.t 76)) :: gapp [78, 79, 80] 77 false (.r 78 (.ldA 5 (.t 15)) :: .r 79 (.ldA 5 (.t 2)) :: .r 80 (.eqs .neq [(.int .u8), (.int .u8), (.int .u8), (.int .u8), (.int .u8)] (.t 78) (.t 79)) :: []) (.r 81 (.pick (.t 77) (.c (.d (.bool true))) (.t 80)) :: [])))
    (.cond (.t 81)
      (.seq (.reg [.r 4 (.mv (.c (.d (.bool false))))])
      .ret)
      .skip)))
    .skip))
  (.seq (.reg [.c 82 (.f 21) [],
     .r 4 (.mv (.t 82))])
  .ret))))))))
theorem fit_interchangelaw2_WireHeadingsMatchSpec : fits Tryd.prog 3 Tryd.f3 sc_interchangelaw2_WireHeadingsMatchSpec [.t 4] 2 = true := by kernel_rfl

set_option maxRecDepth 100000 in
set_option maxHeartbeats 40000000 in
noncomputable def sims_G11_2_0 : (∀ (x0 : Tapi_Marks) (x1 : List UInt8), {m : Option (Bool) // ∀ r, m = some r → PureSpec Tryd.prog 3 [.agg (rTapi_Marks x0), .slice (List.map rowY x1)] (.bool r)}) := by
  (intro x0 x1; apply Subtype.mk; intro r hm; apply pure_walk Tryd.func3 fit_interchangelaw2_WireHeadingsMatchSpec; unfold sc_interchangelaw2_WireHeadingsMatchSpec)
  repeat' (first | with_reducible refine W_seq ?_ | with_reducible refine W_reg ?_ | with_reducible refine W_block ?_ | with_reducible refine W_skip ?_ | with_reducible refine W_ret ?_ | with_reducible refine W_exit ?_ | with_reducible refine O_nil ?_ | with_reducible refine K_seq ?_ | with_reducible refine K_seqE ?_ | with_reducible refine K_seqR ?_ | with_reducible refine K_block ?_ | with_reducible refine K_blockR ?_ | with_reducible refine K_blockE ?_ | ((with_reducible apply K_blockN); decide) | with_reducible refine O_o2r ?_ | ((with_reducible apply O_r); (simp only [push_cast, seval]; rfl); (first | exact trivial | omega)) | ((with_reducible apply O_or hm); (simp only [push_cast, seval]; rfl); rfl; intro v hm; rotate_left; intro v g hm) | ((with_reducible apply W_condT); (focus (simp only [push_cast, seval]; done))) | ((with_reducible apply W_condF); (focus (simp only [push_cast, seval]; done))) | ((with_reducible apply O_cS hm); (simp only [push_cast, seval]; rfl); (focus (first | exact spec_wire_Heading _ | exact spec_interchangeref2_Heading _ | exact spec_wire_ReadHeading _ | exact spec_interchangeref2_ReadHeading _ | exact spec_bytes_Equal _ _ | exact spec_bytes_Clone _ | exact spec_interchangelaw2_awake)); intro x hm) | ((with_reducible apply O_cF hm); (simp only [push_cast, seval]; rfl); (first | apply spec_wire_Heading _ | apply spec_interchangeref2_Heading _ | apply spec_wire_ReadHeading _ | apply spec_interchangeref2_ReadHeading _ | apply spec_bytes_Equal _ _ | apply spec_bytes_Clone _ | apply spec_interchangelaw2_awake); (any_goals ((repeat' (first | rfl | (with_reducible first | apply fT_Tapi_Marks | apply f_optN | apply f_optS | apply f_some | apply f_tup | apply f_agg | apply f_ptr | apply dv_slice | apply sv_d | apply f_cons | apply fold_nil | apply fold_cons | apply fold_app | apply f_rowI | apply f_rowY | apply f_rowS | apply f_rowB | apply f_rowL) | (with_reducible apply f_byte; decide))); done)); intro x hm) | ((with_reducible apply O_clS hm); (simp only [push_cast, seval]; rfl); (focus (first | exact spec_wire_Heading _ | exact spec_interchangeref2_Heading _ | exact spec_wire_ReadHeading _ | exact spec_interchangeref2_ReadHeading _ | exact spec_bytes_Equal _ _ | exact spec_bytes_Clone _ | exact spec_interchangelaw2_awake)); (intro _; rfl); intro x hm) | ((with_reducible apply O_w); (simp only [push_cast, seval]; rfl); (first | exact trivial | omega)) | ((with_reducible apply O_appV hm); (iterate 4 (simp only [push_cast, seval]; rfl)); (focus ((repeat' (first | rfl | (with_reducible first | apply fT_Tapi_Marks | apply f_optN | apply f_optS | apply f_some | apply f_tup | apply f_agg | apply f_ptr | apply dv_slice | apply sv_d | apply f_cons | apply fold_nil | apply fold_cons | apply fold_app | apply f_rowI | apply f_rowY | apply f_rowS | apply f_rowB | apply f_rowL) | (with_reducible apply f_byte; decide))); done)); decide; (intro _; rfl); intro hm) | ((with_reducible apply O_appN hm); (focus (simp only [push_cast, seval]; done)); (iterate 2 (simp only [push_cast, seval]; rfl)); (focus ((repeat' (first | rfl | (with_reducible first | apply fT_Tapi_Marks | apply f_optN | apply f_optS | apply f_some | apply f_tup | apply f_agg | apply f_ptr | apply dv_slice | apply sv_d | apply f_cons | apply fold_nil | apply fold_cons | apply fold_app | apply f_rowI | apply f_rowY | apply f_rowS | apply f_rowB | apply f_rowL) | (with_reducible apply f_byte; decide))); done)); decide; (intro _; rfl); intro hm) | ((with_reducible apply O_stV hm); (iterate 3 (simp only [push_cast, seval]; rfl)); rfl; (intro _; rfl); rfl; (focus (intro a; simp only [push_cast, seval]; rfl)); (focus (intro a; (repeat' (first | rfl | with_reducible apply eT_Tapi_Marks)); done)); intro e hm) | ((with_reducible apply S_condB hm); (simp only [push_cast, seval]; rfl); intro hm; rotate_left; intro hm) | ((with_reducible apply K_endS hm); (focus (simp only [resOf, resL, RV.get, push_cast, seval]; rfl)); (focus ((repeat' (first | rfl | (with_reducible first | apply fT_Tapi_Marks | apply f_optN | apply f_optS | apply f_some | apply f_tup | apply f_agg | apply f_ptr | apply dv_slice | apply sv_d | apply f_cons | apply fold_nil | apply fold_cons | apply fold_app | apply f_rowI | apply f_rowY | apply f_rowS | apply f_rowB | apply f_rowL) | (with_reducible apply f_byte; decide))); done))) | ((with_reducible apply K_bool hm); (simp only [push_cast, seval]; rfl)) | (((with_reducible apply O_pO hm); (focus (simp only [push_cast, seval]; rfl)); (first | apply spec_bytes_Clone _); (any_goals (focus ((repeat' (first | rfl | (with_reducible first | apply fT_Tapi_Marks | apply f_optN | apply f_optS | apply f_some | apply f_tup | apply f_agg | apply f_ptr | apply dv_slice | apply sv_d | apply f_cons | apply fold_nil | apply fold_cons | apply fold_app | apply f_rowI | apply f_rowY | apply f_rowS | apply f_rowB | apply f_rowL) | (with_reducible apply f_byte; decide))); done))); (any_goals (focus (intro _; rfl))); intro y hm)))
noncomputable def m_interchangelaw2_WireHeadingsMatchSpec (x0 : Tapi_Marks) (x1 : List UInt8) : Option (Bool) := (sims_G11_2_0 x0 x1).1
theorem spec_interchangelaw2_WireHeadingsMatchSpec (x0 : Tapi_Marks) (x1 : List UInt8) : ∀ r, m_interchangelaw2_WireHeadingsMatchSpec x0 x1 = some r → PureSpec Tryd.prog 3 [.agg (rTapi_Marks x0), .slice (List.map rowY x1)] (.bool r) := (sims_G11_2_0 x0 x1).2

end Go.Proofs.YteilhjdpbjgdpaaDoor
