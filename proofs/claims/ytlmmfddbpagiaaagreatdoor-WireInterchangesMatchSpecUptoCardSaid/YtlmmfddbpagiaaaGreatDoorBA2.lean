/-
  Texts of mine, one behind the other (SAG4, SAG6, SAG7, SARow, SAGW, SAGE, SAPL, SAPM, SAE1, SAQ1, SAQ2, SAQ3, SAQ4, SAGR, SAY1, SAY2, SAY7, SAY8, SAY9, SAY10, SAKS, SAK1, SAK2a).
-/
import Derived.Test.YtlmmfddbpagiaaaGreatDoorBA1
import Derived.Test.YtlmmfddbpagiaaaGreatDoorSAEngZz
import Derived.Test.YtlmmfddbpagiaaaGreatDoorProg
import Derived.KernelRfl
import Derived.Test.YtlmmfddbpagiaaaGreatDoorCards
import Derived.Test.YtlmmfddbpagiaaaGreatDoorTie
import Derived.Test.YtlmmfddbpagiaaaGreatDoorSAEngR
import Derived.Test.YtlmmfddbpagiaaaGreatDoorSAEngX
import Derived.Test.YtlmmfddbpagiaaaGreatDoorSAEngN
/-
  Bodies of functions and what they compute, printed by programs of mine (wip/tool/gen.py, sc.py) out of the translation; the kernel holds each against the translation.
-/
namespace Go.Proofs.YtlmmfddbpagiaaaGreatDoor
open Go.RowKit
set_option linter.unusedSimpArgs false
set_option linter.unusedVariables false
def bT_Tapi_Segment (p0 : List UInt8) (p1 : Nat) : List SV := [.d (.str p0)] ++ ([.vec p1])
attribute [push_cast] bT_Tapi_Segment
/-- interchange/interchangeref2.heading -/
def sc_interchangeref2_heading : SC :=
  (.seq (.reg [.r 1 (.boxI (.t 0)),
     .r 2 (.mv (.c (.nils)))])
  (.seq (.reg [.r 4 (.fld 3 (.t 1)),
     .o 5 (.ld1 (.t 4)),
     .r 3 (.mv (.t 5))])
  (.seq (.seq (.reg [.r 6 (.mv (.t 3)),
     .r 7 (.bin .eql (.t 6) (.c (.d (.int .u8 0))))])
  (.cond (.t 7)
    (.reg [.r 3 (.mv (.c (.d (.int .u8 32))))])
    .skip))
  (.seq (.reg [.r 8 (.fld 0 (.t 1)),
     .o 9 (.ld1 (.t 8)),
     .r 10 (.fld 1 (.t 1)),
     .o 11 (.ld1 (.t 10)),
     .r 12 (.fld 2 (.t 1)),
     .o 13 (.ld1 (.t 12)),
     .r 14 (.mv (.t 3)),
     .r 15 (.fld 4 (.t 1)),
     .o 16 (.ld1 (.t 15)),
     .w 17 (.slM 5 1 [.c (.d (.int .u8 77)), .c (.d (.int .u8 82)), .c (.d (.int .u8 75)), .t 9, .t 11, .t 13, .t 14, .t 16]),
     .r 2 (.mv (.t 17))])
  .ret))))
theorem fit_interchangeref2_heading : fits Tryz.prog 19 Tryz.f19 sc_interchangeref2_heading [.t 2] 1 = true := by kernel_rfl

set_option maxRecDepth 100000 in
set_option maxHeartbeats 40000000 in
noncomputable def sims_G4_0_0 : (∀ (x0 : Tapi_Marks), {m : Option ((List UInt8)) // ∀ r, m = some r → FSpec Tryz.prog 19 (List.map SV.d ([.agg (rTapi_Marks x0)] : List DV)) (.own (.sl 5 (List.replicate 1 .sh)) (.slice (List.map rowY r))) (List.map SV.d ([.agg (rTapi_Marks x0)] : List DV))}) := by
  (intro x0; apply Subtype.mk; intro r hm; apply fspec_walkD (N := 18) (k := 1) Tryz.func19 fit_interchangeref2_heading (by kernel_rfl) rfl rfl; unfold sc_interchangeref2_heading)
  repeat' (first | with_reducible refine W_seq ?_ | with_reducible refine W_reg ?_ | with_reducible refine W_skip ?_ | with_reducible refine W_ret ?_ | with_reducible refine O_nil ?_ | with_reducible refine K_seq ?_ | with_reducible refine O_o2r ?_ | ((with_reducible apply O_r); (simp only [push_cast, seval]; rfl); (first | exact trivial)) | ((with_reducible apply O_w); (simp only [push_cast, seval]; rfl); (first | exact trivial)) | ((with_reducible apply S_condB hm); (simp only [push_cast, seval]; rfl); intro hm; rotate_left; intro hm) | (((with_reducible apply K_endV hm); (focus (exact Imp.refl _)); (focus (simp only [push_cast, seval]; (try rfl); done)); (focus (simp only [push_cast, seval]; (try rfl); done)); (focus ((repeat' (first | (with_reducible first | apply r_nil | apply r_cons | apply c_rowY) | ((with_reducible apply svle_rfl); (focus ((repeat' (first | rfl | (with_reducible first | apply sv_d) | (with_reducible apply f_byte; decide))); done))))); done)); (focus (intro _; rfl)); (focus (simp only [push_cast, seval]; (try rfl); done)); (focus (simp only [push_cast, seval]; (try rfl); done)))))
noncomputable def m_interchangeref2_heading (x0 : Tapi_Marks) : Option ((List UInt8)) := (sims_G4_0_0 x0).1
theorem fspec_interchangeref2_heading (x0 : Tapi_Marks) : ∀ r, m_interchangeref2_heading x0 = some r → FSpec Tryz.prog 19 (List.map SV.d ([.agg (rTapi_Marks x0)] : List DV)) (.own (.sl 5 (List.replicate 1 .sh)) (.slice (List.map rowY r))) (List.map SV.d ([.agg (rTapi_Marks x0)] : List DV)) := (sims_G4_0_0 x0).2
def sc_wire_Made_L1 : SC :=
  (.seq (.reg [.r 13 (.bin .lss (.t 12) (.t 11))])
  (.seq (.cond (.t 13)
    .skip
    (.exit 0))
  (.seq (.block 1 (.seq (.reg [.r 14 (.idx 1 (.t 10) (.t 12)),
       .o 15 (.ld1 (.t 14)),
       .r 7 (.mv (.t 15))])
    (.reg [.r 16 (.fld 1 (.t 5)),
       .o 17 (.ld1 (.t 16)),
       .r 18 (.mv (.t 7)),
       .r 19 (.bslice 1 [.t 18]),
       .r 20 (.bslice 1 [.t 19]),
       .r 21 (.build [.nils] [(0, 1, .t 20)]),
       .r 22 (.bslice 1 [.t 21]),
       .w 23 (.app 83 1 (.t 17) (.t 22)),
       .r 24 (.fld 1 (.t 5)),
       .w 0 (.st 1 (.t 24) (.t 23))])))
  (.reg [.r 25 (.bin .add (.t 12) (.c (.d (.int .i64 1)))),
     .r 12 (.mv (.t 25))]))))
def sc_wire_Made_B1 : SC := .block 0 (.loop sc_wire_Made_L1)
/-- interchange/wire.Made -/
def sc_wire_Made : SC :=
  (.seq (.reg [.w 4 (.boxM (.c (.agg [.d (.str []), .nils])))])
  (.seq (.reg [.r 8 (.mv (.t 0)),
     .r 9 (.build [.d (.str []), .nils] [(0, 1, .t 8)]),
     .w 5 (.boxM (.c (.agg [.d (.str []), .nils]))),
     .w 0 (.st 2 (.t 5) (.t 9))])
  (.seq (.seq (.reg [.r 10 (.mv (.t 1)),
     .r 11 (.len (.t 10)),
     .r 12 (.mv (.c (.d (.int .i64 0))))])
  sc_wire_Made_B1)
  (.seq (.reg [.o 26 (.ldA 2 (.t 5)),
     .w 0 (.st 2 (.t 4) (.t 26))])
  .ret))))
theorem fit_wire_Made : fits Tryz.prog 30 Tryz.f30 sc_wire_Made [.cell 4 2] 2 = true := by kernel_rfl

set_option maxRecDepth 100000 in
set_option maxHeartbeats 40000000 in
noncomputable def sims_G4_0_1 : (∀ (x0 : List UInt8) (x1 : List (List UInt8)), {m : Option (Tapi_Segment) // ∀ r, m = some r → FSpec Tryz.prog 30 (List.map SV.d ([.str x0, .slice (List.map rowS x1)] : List DV)) (.agg (ownR [.sh, .sl 83 [.sh]] (rTapi_Segment r))) (List.map SV.d ([.str x0, .slice (List.map rowS x1)] : List DV))}) := by
  (intro x0 x1; apply Subtype.mk; intro r hm; apply fspec_walkD (N := 27) (k := 2) Tryz.func30 fit_wire_Made (by kernel_rfl) rfl rfl; unfold sc_wire_Made)
  repeat' (first | ((with_reducible apply W_nilB (id := 5) (cid := 1161) (off := 1) (n := 1) (e := 83)); (focus (simp only [push_cast, seval]; (try rfl); done)); (focus (simp only [push_cast, seval]; (try rfl); done)); (focus decide); (focus (simp only [push_cast, seval]; (try rfl); done))) | with_reducible refine W_seq ?_ | with_reducible refine W_reg ?_ | with_reducible refine W_block ?_ | with_reducible refine W_skip ?_ | with_reducible refine W_ret ?_ | with_reducible refine W_exit ?_ | with_reducible refine O_nil ?_ | with_reducible refine K_seq ?_ | with_reducible refine K_seqE ?_ | with_reducible refine K_block ?_ | with_reducible refine O_o2r ?_ | ((with_reducible apply O_idxr hm); (iterate 2 (simp only [push_cast, seval]; rfl)); (intro _; rfl); intro e hm) | ((with_reducible apply O_r); (simp only [push_cast, seval]; rfl); (first | exact trivial)) | ((with_reducible apply O_w); (simp only [push_cast, seval]; rfl); (first | exact trivial)) | ((with_reducible apply O_appV hm); (iterate 4 (simp only [push_cast, seval]; rfl)); (focus ((repeat' (first | rfl | (with_reducible first | apply fT_Tapi_Element | apply dv_slice | apply fold_nil | apply fold_cons | apply f_rowL))); done)); decide; (intro _; rfl); intro hm) | ((with_reducible apply S_condB hm); (simp only [push_cast, seval]; rfl); intro hm; rotate_left; intro hm) | ((with_reducible apply K_leave hm); intro r hm) | (((with_reducible apply K_endO hm (r0 := Tapi_Segment.mk _ _) (row := rTapi_Segment)); (focus (exact Imp.refl _)); (focus (simp only [push_cast, seval]; (try rfl); done)); (focus (simp only [push_cast, seval]; (try rfl); done)); (focus (simp only [push_cast, seval]; (try rfl); done)); (focus ((repeat' (first | exact ROkL.nil | (apply ROkL.data; (focus rfl)) | (apply ROk_vecS; (focus (simp only [push_cast, seval]; (try rfl); done)); (focus (intro _; rfl))))); (any_goals (first | decide)))); (focus (simp only [push_cast]; rfl)))) | ((apply S_loopY (b := 0) (X := sc_wire_Made_B1) (x := sc_wire_Made_L1) rfl (fun (c : Ch × SV × SV × SV × SV) (s : (List UInt8) × (List Tapi_Element) × Int) => st [(4, .ref 4 0), (5, .ref 5 0), (10, c.2.1), (11, c.2.2.1), (12, .d (.int .i64 s.2.2)), (27, c.2.2.2.1), (28, c.2.2.2.2)] [(1161, .vec 83 1 (vrow rTapi_Element s.2.1)), (5, .box (bT_Tapi_Segment s.1 1161)), (4, c.1)]) (c := (_, _, _, _, _)) (s0 := (_, _, _)) hm); (focus (first | (dsimp only; done))); (with_reducible refine Then.mk ?_ ?_)) | ((apply K_next (s' := (_, _, _)) hm); (focus (first | (dsimp only; done)))) | ((apply K_brk (s' := (_, _, _)) hm); (focus (first | (dsimp only; done)))) | (((with_reducible apply LoopB.of); (focus (first | (dsimp only; done))); (focus ((intro _; repeat' (first | with_reducible exact impC_endF | with_reducible refine impC_seq ?_)))); (intro s o hm; first | unfold sc_wire_Made_L1); rotate_left; intro s hm)) | (((apply imp_stT; (repeat' (first | with_reducible exact keepT_nil | with_reducible exact keepC_nil | with_reducible apply keepT_cons | with_reducible apply keepC_cons | ((with_reducible apply svle_eq); (focus (first | (simp only [push_cast, seval]; rfl))); (focus ((repeat' (first | rfl)); done))) | ((with_reducible apply chle_eq); (focus (first | (simp only [push_cast, seval]; rfl))); (first | with_reducible exact chle_rfl rfl | with_reducible apply chle_vec)) | (with_reducible first | apply r_nil))); done))))
noncomputable def m_wire_Made (x0 : List UInt8) (x1 : List (List UInt8)) : Option (Tapi_Segment) := (sims_G4_0_1 x0 x1).1
theorem fspec_wire_Made (x0 : List UInt8) (x1 : List (List UInt8)) : ∀ r, m_wire_Made x0 x1 = some r → FSpec Tryz.prog 30 (List.map SV.d ([.str x0, .slice (List.map rowS x1)] : List DV)) (.agg (ownR [.sh, .sl 83 [.sh]] (rTapi_Segment r))) (List.map SV.d ([.str x0, .slice (List.map rowS x1)] : List DV)) := (sims_G4_0_1 x0 x1).2
theorem spec_wire_Made (x0 : List UInt8) (x1 : List (List UInt8)) : ∀ r, m_wire_Made x0 x1 = some r → PureSpec Tryz.prog 30 [.str x0, .slice (List.map rowS x1)] (.agg (rTapi_Segment r)) := fun r h => (fspec_wire_Made x0 x1 r h).pure rfl

def sc_interchangeref2_plain_L1 : SC :=
  (.seq (.seq (.reg [.r 9 (.mv (.t 6)),
     .r 10 (.mv (.t 1)),
     .r 11 (.len (.t 10)),
     .r 12 (.bin .lss (.t 9) (.t 11))])
  (.cond (.t 12)
    .skip
    (.exit 0)))
  (.seq (.block 1 (.regE [.r 15 (.fld 1 (.t 5)),
       .r 16 (.ld1 (.t 15)),
       .r 17 (.mv (.t 1)),
       .r 18 (.mv (.t 6)),
       .r 19 (.idx 1 (.t 17) (.t 18)),
       .r 20 (.ld1 (.t 19)),
       .r 21 (.bslice 1 [.t 20]),
       .r 22 (.bslice 1 [.t 21]),
       .r 23 (.build [.nils] [(0, 1, .t 22)]),
       .r 24 (.bslice 1 [.t 23]),
       .x 25 (.app 83 1 (.t 16) (.t 24)) [],
       .r 26 (.fld 1 (.t 5)),
       .x 0 (.st 1 (.t 26) (.t 25)) []]))
  (.reg [.r 13 (.mv (.t 6)),
     .r 14 (.bin .add (.t 13) (.c (.d (.int .i64 1)))),
     .r 6 (.mv (.t 14))])))
def sc_interchangeref2_plain_B1 : SC := .block 0 (.loop sc_interchangeref2_plain_L1)
def sc_interchangeref2_plain_R6 : SC := (.reg [.o 27 (.ldA 2 (.t 5)),
     .w 0 (.st 2 (.t 4) (.t 27))])
/-- interchange/interchangeref2.plain -/
def sc_interchangeref2_plain : SC :=
  (.seq (.reg [.w 4 (.boxM (.c (.agg [.d (.str []), .nils])))])
  (.seq (.reg [.r 7 (.mv (.t 0)),
     .r 8 (.build [.d (.str []), .nils] [(0, 1, .t 7)]),
     .w 5 (.boxM (.c (.agg [.d (.str []), .nils]))),
     .w 0 (.st 2 (.t 5) (.t 8))])
  (.seq (.seq (.reg [.r 6 (.mv (.c (.d (.int .i64 0))))])
  sc_interchangeref2_plain_B1)
  (.seq sc_interchangeref2_plain_R6
  .ret))))
theorem fit_interchangeref2_plain : fits Tryz.prog 34 Tryz.f34 sc_interchangeref2_plain [.cell 4 2] 2 = true := by kernel_rfl

set_option maxRecDepth 100000 in
set_option maxHeartbeats 40000000 in
noncomputable def sims_G4_0_2 : (∀ (x0 : List UInt8) (x1 : List (List UInt8)), {m : Option (Tapi_Segment) // ∀ r, m = some r → PureSpec Tryz.prog 34 [.str x0, .slice (List.map rowS x1)] (.agg (rTapi_Segment r))}) := by
  (intro x0 x1; apply Subtype.mk; intro r hm; apply pure_walk Tryz.func34 fit_interchangeref2_plain; unfold sc_interchangeref2_plain)
  repeat' (first | ((with_reducible apply W_nilB (id := 5) (cid := 1161) (off := 1) (n := 1) (e := 83)); (focus (simp only [push_cast, seval]; (try rfl); done)); (focus (simp only [push_cast, seval]; (try rfl); done)); (focus decide); (focus (simp only [push_cast, seval]; (try rfl); done))) | ((apply W_frz (x := sc_interchangeref2_plain_R6) (id := 1161)); (focus (simp only [push_cast, seval]; (try rfl); done)); (focus (simp only [push_cast, seval]; (try rfl); done)); unfold sc_interchangeref2_plain_R6) | with_reducible refine W_seq ?_ | with_reducible refine W_reg ?_ | with_reducible refine W_regE ?_ | with_reducible refine W_block ?_ | with_reducible refine W_skip ?_ | with_reducible refine W_ret ?_ | with_reducible refine W_exit ?_ | with_reducible refine O_nil ?_ | with_reducible refine K_seq ?_ | with_reducible refine K_seqE ?_ | with_reducible refine K_block ?_ | with_reducible refine O_o2r ?_ | ((with_reducible apply O_idxr hm); (iterate 2 (simp only [push_cast, seval]; rfl)); (intro _; rfl); intro e hm) | ((with_reducible apply O_r); (simp only [push_cast, seval]; rfl); (first | exact trivial)) | ((with_reducible apply O_w); (simp only [push_cast, seval]; rfl); (first | exact trivial)) | ((with_reducible apply O_appX2 hm); (iterate 4 (simp only [push_cast, seval]; rfl)); rfl; (focus ((repeat' (first | exact Rer_nil)); done)); intro hm) | ((with_reducible apply O_x); (simp only [push_cast, seval]; rfl); (first | exact trivial); (focus ((repeat' (first | exact Rer_nil)); done))) | ((with_reducible apply S_condB hm); (simp only [push_cast, seval]; rfl); intro hm; rotate_left; intro hm) | ((with_reducible apply K_endS hm); (focus (simp only [resOf, resL, RV.get, push_cast, seval]; rfl)); (focus ((repeat' (first | rfl | (with_reducible first | apply fT_Tapi_Segment | apply f_agg))); done))) | ((with_reducible apply K_leave hm); intro r hm) | ((apply S_loopY (b := 0) (X := sc_interchangeref2_plain_B1) (x := sc_interchangeref2_plain_L1) rfl (fun (c : SV × Ch) (s : (List UInt8) × (List Tapi_Element) × Int) => st [(1, c.1), (4, .ref 4 0), (5, .ref 5 0), (6, .d (.int .i64 s.2.2))] [(1161, .vec 83 1 (vrow rTapi_Element s.2.1)), (5, .box (bT_Tapi_Segment s.1 1161)), (4, c.2)]) (c := (_, _)) (s0 := (_, _, _)) hm); (focus (first | (dsimp only; done))); (with_reducible refine Then.mk ?_ ?_)) | ((apply K_next (s' := (_, _, _)) hm); (focus (first | (dsimp only; done)))) | ((apply K_brk (s' := (_, _, _)) hm); (focus (first | (dsimp only; done)))) | (((with_reducible apply LoopB.of); (focus (first | (dsimp only; done))); (focus ((intro _; repeat' (first | with_reducible exact impC_end | with_reducible refine impC_seq ?_)))); (intro s o hm; first | unfold sc_interchangeref2_plain_L1); rotate_left; intro s hm)) | (((apply imp_stT; (repeat' (first | with_reducible exact keepT_nil | with_reducible exact keepC_nil | with_reducible apply keepT_cons | with_reducible apply keepC_cons | ((with_reducible apply svle_eq); (focus (first | (simp only [push_cast, seval]; rfl) | rfl)); (focus ((repeat' (first | rfl)); done))) | ((with_reducible apply svle_td); (focus (first | rfl)); (focus (first | (simp only [push_cast, seval]; rfl))); (focus ((repeat' (first | rfl | (with_reducible first | apply dv_slice | apply fold_nil | apply fold_cons | apply f_rowL))); done))) | ((with_reducible apply chle_eq); (focus (first | (simp only [push_cast, seval]; rfl))); (first | with_reducible exact chle_rfl rfl | with_reducible apply chle_vec)) | (with_reducible first | apply cT_Tapi_Element | apply r_rfl | apply r_nil | apply r_app | apply r_cons))); done))))
noncomputable def m_interchangeref2_plain (x0 : List UInt8) (x1 : List (List UInt8)) : Option (Tapi_Segment) := (sims_G4_0_2 x0 x1).1
theorem spec_interchangeref2_plain (x0 : List UInt8) (x1 : List (List UInt8)) : ∀ r, m_interchangeref2_plain x0 x1 = some r → PureSpec Tryz.prog 34 [.str x0, .slice (List.map rowS x1)] (.agg (rTapi_Segment r)) := (sims_G4_0_2 x0 x1).2

/-- interchange/wire.tail -/
def sc_wire_tail : SC :=
  (.seq (.reg [.w 6 (.boxM (.c (.agg [.d (.str []), .nils])))])
  (.seq (.reg [.r 7 (.mv (.t 0)),
     .r 8 (.mv (.t 1)),
     .c 9 (.f 31) [.t 8],
     .r 10 (.mv (.t 2)),
     .r 11 (.bslice 1 [.t 9, .t 10]),
     .c 12 (.f 30) [.t 7, .t 11],
     .w 0 (.st 2 (.t 6) (.t 12))])
  .ret))
theorem fit_wire_tail : fits Tryz.prog 33 Tryz.f33 sc_wire_tail [.cell 6 2] 3 = true := by kernel_rfl

def sc_interchangeref2_segments_L1 : SC :=
  (.seq (.seq (.reg [.r 72 (.mv (.t 9)),
     .r 73 (.fld 3 (.t 8)),
     .o 74 (.ld1 (.t 73)),
     .r 75 (.len (.t 74)),
     .r 76 (.bin .lss (.t 72) (.t 75))])
  (.cond (.t 76)
    .skip
    (.exit 4)))
  (.seq (.block 5 (.reg [.r 79 (.mv (.t 4)),
       .r 80 (.fld 3 (.t 8)),
       .o 81 (.ld1 (.t 80)),
       .r 82 (.mv (.t 9)),
       .r 83 (.idx 2 (.t 81) (.t 82)),
       .o 84 (.ldA 2 (.t 83)),
       .c 85 (.f 35) [.t 84],
       .r 86 (.bslice 2 [.t 85]),
       .w 87 (.app 71 2 (.t 79) (.t 86)),
       .r 4 (.mv (.t 87))]))
  (.reg [.r 77 (.mv (.t 9)),
     .r 78 (.bin .add (.t 77) (.c (.d (.int .i64 1)))),
     .r 9 (.mv (.t 78))])))
def sc_interchangeref2_segments_B1 : SC := .block 4 (.loop sc_interchangeref2_segments_L1)
def sc_interchangeref2_segments_L2 : SC :=
  (.seq (.seq (.reg [.r 49 (.mv (.t 7)),
     .r 50 (.fld 2 (.t 6)),
     .o 51 (.ld1 (.t 50)),
     .r 52 (.len (.t 51)),
     .r 53 (.bin .lss (.t 49) (.t 52))])
  (.cond (.t 53)
    .skip
    (.exit 2)))
  (.seq (.block 3 (.seq (.reg [.r 56 (.fld 2 (.t 6)),
       .o 57 (.ld1 (.t 56)),
       .r 58 (.mv (.t 7)),
       .r 59 (.idx 4 (.t 57) (.t 58)),
       .o 60 (.ldA 4 (.t 59)),
       .w 8 (.boxM (.c (.agg [.d (.str []), .d (.str []), .d (.str []), .nils]))),
       .w 0 (.st 4 (.t 8) (.t 60))])
    (.seq (.reg [.r 61 (.mv (.t 4)),
       .r 62 (.fld 0 (.t 8)),
       .o 63 (.ld1 (.t 62)),
       .r 64 (.fld 1 (.t 8)),
       .o 65 (.ld1 (.t 64)),
       .r 66 (.fld 2 (.t 8)),
       .o 67 (.ld1 (.t 66)),
       .r 68 (.bslice 1 [.t 63, .t 65, .t 67]),
       .c 69 (.f 34) [.c (.d (.str [77, 72, 68])), .t 68],
       .r 70 (.bslice 2 [.t 69]),
       .w 71 (.app 71 2 (.t 61) (.t 70)),
       .r 4 (.mv (.t 71))])
    (.seq (.seq (.reg [.r 9 (.mv (.c (.d (.int .i64 0))))])
    sc_interchangeref2_segments_B1)
    (.regE [.r 88 (.mv (.t 4)),
       .r 89 (.fld 3 (.t 8)),
       .r 90 (.ld1 (.t 89)),
       .r 91 (.len (.t 90)),
       .r 92 (.bin .add (.t 91) (.c (.d (.int .i64 2)))),
       .c 93 (.f 31) [.t 92],
       .r 94 (.fld 0 (.t 8)),
       .r 95 (.ld1 (.t 94)),
       .r 96 (.bslice 1 [.t 93, .t 95]),
       .c 97 (.f 34) [.c (.d (.str [77, 84, 82])), .t 96],
       .r 98 (.bslice 2 [.t 97]),
       .x 99 (.app 71 2 (.t 88) (.t 98)) [],
       .r 4 (.mv (.t 99))])))))
  (.reg [.r 54 (.mv (.t 7)),
     .r 55 (.bin .add (.t 54) (.c (.d (.int .i64 1)))),
     .r 7 (.mv (.t 55))])))
def sc_interchangeref2_segments_B2 : SC := .block 2 (.loop sc_interchangeref2_segments_L2)
def sc_interchangeref2_segments_L3 : SC :=
  (.seq (.seq (.reg [.r 28 (.mv (.t 5)),
     .r 29 (.fld 6 (.t 1)),
     .o 30 (.ld1 (.t 29)),
     .r 31 (.len (.t 30)),
     .r 32 (.bin .lss (.t 28) (.t 31))])
  (.cond (.t 32)
    .skip
    (.exit 0)))
  (.seq (.block 1 (.seq (.reg [.r 35 (.fld 6 (.t 1)),
       .o 36 (.ld1 (.t 35)),
       .r 37 (.mv (.t 5)),
       .r 38 (.idx 3 (.t 36) (.t 37)),
       .o 39 (.ldA 3 (.t 38)),
       .w 6 (.boxM (.c (.agg [.d (.str []), .d (.str []), .nils]))),
       .w 0 (.st 3 (.t 6) (.t 39))])
    (.seq (.reg [.r 40 (.mv (.t 4)),
       .r 41 (.fld 0 (.t 6)),
       .o 42 (.ld1 (.t 41)),
       .r 43 (.fld 1 (.t 6)),
       .o 44 (.ld1 (.t 43)),
       .r 45 (.bslice 1 [.t 42, .t 44]),
       .c 46 (.f 34) [.c (.d (.str [71, 72, 68])), .t 45],
       .r 47 (.bslice 2 [.t 46]),
       .w 48 (.app 71 2 (.t 40) (.t 47)),
       .r 4 (.mv (.t 48))])
    (.seq (.seq (.reg [.r 7 (.mv (.c (.d (.int .i64 0))))])
    sc_interchangeref2_segments_B2)
    (.regE [.r 100 (.mv (.t 4)),
       .r 101 (.fld 2 (.t 6)),
       .r 102 (.ld1 (.t 101)),
       .r 103 (.len (.t 102)),
       .c 104 (.f 31) [.t 103],
       .r 105 (.fld 0 (.t 6)),
       .r 106 (.ld1 (.t 105)),
       .r 107 (.bslice 1 [.t 104, .t 106]),
       .c 108 (.f 34) [.c (.d (.str [71, 84, 82])), .t 107],
       .r 109 (.bslice 2 [.t 108]),
       .x 110 (.app 71 2 (.t 100) (.t 109)) [],
       .r 4 (.mv (.t 110))])))))
  (.reg [.r 33 (.mv (.t 5)),
     .r 34 (.bin .add (.t 33) (.c (.d (.int .i64 1)))),
     .r 5 (.mv (.t 34))])))
def sc_interchangeref2_segments_B3 : SC := .block 0 (.loop sc_interchangeref2_segments_L3)
/-- interchange/interchangeref2.segments -/
def sc_interchangeref2_segments : SC :=
  (.seq (.reg [.r 1 (.boxI (.t 0)),
     .r 2 (.mv (.c (.nils)))])
  (.seq (.reg [.r 3 (.mv (.c (.d (.str []))))])
  (.seq (.seq (.reg [.r 10 (.fld 5 (.t 1)),
     .o 11 (.ld1 (.t 10))])
  (.cond (.t 11)
    (.reg [.r 3 (.mv (.c (.d (.str [49]))))])
    .skip))
  (.seq (.regE [.r 12 (.fld 0 (.t 1)),
     .r 13 (.ld1 (.t 12)),
     .r 14 (.fld 1 (.t 1)),
     .r 15 (.ld1 (.t 14)),
     .r 16 (.fld 2 (.t 1)),
     .r 17 (.ld1 (.t 16)),
     .r 18 (.fld 3 (.t 1)),
     .r 19 (.ld1 (.t 18)),
     .c 20 (.f 31) [.t 19],
     .r 21 (.fld 4 (.t 1)),
     .r 22 (.ld1 (.t 21)),
     .c 23 (.f 31) [.t 22],
     .r 24 (.mv (.t 3)),
     .r 25 (.bslice 1 [.t 13, .t 15, .t 17, .t 20, .t 23, .t 24]),
     .c 26 (.f 34) [.c (.d (.str [73, 72, 68])), .t 25],
     .x 27 (.slM 71 2 [.t 26]) [],
     .r 4 (.mv (.t 27))])
  (.seq (.seq (.reg [.r 5 (.mv (.c (.d (.int .i64 0))))])
  sc_interchangeref2_segments_B3)
  (.seq (.regE [.r 111 (.mv (.t 4)),
     .r 112 (.fld 6 (.t 1)),
     .r 113 (.ld1 (.t 112)),
     .r 114 (.len (.t 113)),
     .c 115 (.f 31) [.t 114],
     .r 116 (.fld 0 (.t 1)),
     .r 117 (.ld1 (.t 116)),
     .r 118 (.bslice 1 [.t 115, .t 117]),
     .c 119 (.f 34) [.c (.d (.str [73, 84, 82])), .t 118],
     .r 120 (.bslice 2 [.t 119]),
     .x 121 (.app 71 2 (.t 111) (.t 120)) [],
     .r 2 (.mv (.t 121))])
  .ret))))))
theorem fit_interchangeref2_segments : fits Tryz.prog 14 Tryz.f14 sc_interchangeref2_segments [.t 2] 1 = true := by kernel_rfl

set_option maxRecDepth 100000 in
set_option maxHeartbeats 40000000 in
noncomputable def sims_G4_1_0 : (∀ (x0 : List UInt8) (x1 : Int) (x2 : List UInt8), {m : Option (Tapi_Segment) // ∀ r, m = some r → PureSpec Tryz.prog 33 [.str x0, .int .i64 x1, .str x2] (.agg (rTapi_Segment r))}) × (∀ (x0 : Tapi_Interchange), {m : Option ((List Tapi_Segment)) // ∀ r, m = some r → PureSpec Tryz.prog 14 [.agg (rTapi_Interchange x0)] (.slice (List.map rTapi_Segment r))}) := by
  refine ⟨?g0, ?g1⟩
  case' g0 => (intro x0 x1 x2; apply Subtype.mk; intro r hm; apply pure_walk Tryz.func33 fit_wire_tail; unfold sc_wire_tail)
  case' g1 => (intro x0; apply Subtype.mk; intro r hm; apply pure_walk Tryz.func14 fit_interchangeref2_segments; unfold sc_interchangeref2_segments)
  all_goals (repeat' (first | with_reducible refine W_seq ?_ | with_reducible refine W_reg ?_ | with_reducible refine W_regE ?_ | with_reducible refine W_block ?_ | with_reducible refine W_skip ?_ | with_reducible refine W_ret ?_ | with_reducible refine W_exit ?_ | with_reducible refine O_nil ?_ | with_reducible refine K_seq ?_ | with_reducible refine K_seqE ?_ | with_reducible refine K_block ?_ | with_reducible refine O_o2r ?_ | ((with_reducible apply O_idxr hm); (iterate 2 (simp only [push_cast, seval]; rfl)); (intro _; rfl); intro e hm) | ((with_reducible apply O_r); (simp only [push_cast, seval]; rfl); (first | exact trivial)) | ((with_reducible apply O_cF hm); (simp only [push_cast, seval]; rfl); (first | apply spec_strconv_Itoa _ | apply spec_wire_Made _ _ | apply spec_interchangeref2_plain _ _ | apply spec_interchangeref2_copied _); (any_goals ((repeat' (first | rfl | (with_reducible first | apply dv_slice | apply f_cons | apply fold_nil | apply fold_cons))); done)); intro x hm) | ((with_reducible apply O_w); (simp only [push_cast, seval]; rfl); (first | exact trivial)) | ((with_reducible apply O_appV hm); (iterate 4 (simp only [push_cast, seval]; rfl)); (focus ((repeat' (first | rfl | (with_reducible first | apply dv_slice | apply fold_nil | apply fold_cons))); done)); decide; (intro _; rfl); intro hm) | ((with_reducible apply O_appVX hm); (iterate 2 (simp only [push_cast, seval]; rfl)); (focus ((repeat' (first | rfl)); done)); (simp only [push_cast, seval]; rfl); (focus ((repeat' (first | rfl | (with_reducible first | apply eR_nil | apply eR_cons))); done)); (intro _; rfl); (focus ((repeat' (first | exact Rer_nil)); done)); intro hm) | ((with_reducible apply O_x); (simp only [push_cast, seval]; rfl); (first | exact trivial); (focus ((repeat' (first | exact Rer_nil)); done))) | ((with_reducible apply S_condB hm); (simp only [push_cast, seval]; rfl); intro hm; rotate_left; intro hm) | ((with_reducible apply K_endS hm); (focus (simp only [resOf, resL, RV.get, push_cast, seval]; rfl)); (focus ((repeat' (first | rfl)); done))) | ((with_reducible apply K_leave hm); intro r hm) | ((apply S_loopY (b := 4) (X := sc_interchangeref2_segments_B1) (x := sc_interchangeref2_segments_L1) rfl (fun (c : SV × SV × Ch × SV × Ch) (s : (List Tapi_Segment) × Int) => st [(1, c.1), (4, .vec 27), (5, c.2.1), (6, .ref 6 0), (7, c.2.2.2.1), (8, .ref 8 0), (9, .d (.int .i64 s.2))] [(27, .vec 71 2 (vrow rTapi_Segment s.1)), (6, c.2.2.1), (8, c.2.2.2.2)]) (c := (_, _, _, _, _)) (s0 := (_, _)) hm); (focus (first | (dsimp only; done))); (with_reducible refine Then.mk ?_ ?_)) | ((apply S_loopY (b := 2) (X := sc_interchangeref2_segments_B2) (x := sc_interchangeref2_segments_L2) rfl (fun (c : SV × SV × Ch) (s : (List Tapi_Segment) × Int) => st [(1, c.1), (4, .vec 27), (5, c.2.1), (6, .ref 6 0), (7, .d (.int .i64 s.2))] [(27, .vec 71 2 (vrow rTapi_Segment s.1)), (6, c.2.2)]) (c := (_, _, _)) (s0 := (_, _)) hm); (focus (first | (dsimp only; done))); (with_reducible refine Then.mk ?_ ?_)) | ((apply S_loopY (b := 0) (X := sc_interchangeref2_segments_B3) (x := sc_interchangeref2_segments_L3) rfl (fun (c : SV) (s : (List Tapi_Segment) × Int) => st [(1, c), (4, .vec 27), (5, .d (.int .i64 s.2))] [(27, .vec 71 2 (vrow rTapi_Segment s.1))]) (c := _) (s0 := (_, _)) hm); (focus (first | (dsimp only; done))); (with_reducible refine Then.mk ?_ ?_)) | ((apply K_next (s' := (_, _)) hm); (focus (first | (dsimp only; done)))) | ((apply K_brk (s' := (_, _)) hm); (focus (first | (dsimp only; done)))) | (((with_reducible apply LoopB.of); (focus (first | (dsimp only; done))); (focus ((intro _; repeat' (first | with_reducible exact impC_end | with_reducible refine impC_seq ?_ | with_reducible refine impC_block ?_ | ((with_reducible refine impC_rnd ?_); intro _) | ((with_reducible refine impC_brk ?_); intro _))))); (intro s o hm; first | unfold sc_interchangeref2_segments_L1 | unfold sc_interchangeref2_segments_L2 | unfold sc_interchangeref2_segments_L3); rotate_left; intro s hm)) | (((apply imp_stT; (repeat' (first | with_reducible exact keepT_nil | with_reducible exact keepC_nil | with_reducible apply keepT_cons | with_reducible apply keepC_cons | ((with_reducible apply svle_eq); (focus (first | (simp only [push_cast, seval]; rfl) | rfl)); (focus ((repeat' (first | rfl)); done))) | ((with_reducible apply chle_eq); (focus (first | (simp only [push_cast, seval]; rfl))); (first | with_reducible exact chle_rfl rfl | with_reducible apply chle_vec)) | (with_reducible first | apply cT_Tapi_Segment | apply r_nil | apply r_cons))); done)))))
noncomputable def m_wire_tail (x0 : List UInt8) (x1 : Int) (x2 : List UInt8) : Option (Tapi_Segment) := (sims_G4_1_0.1 x0 x1 x2).1
theorem spec_wire_tail (x0 : List UInt8) (x1 : Int) (x2 : List UInt8) : ∀ r, m_wire_tail x0 x1 x2 = some r → PureSpec Tryz.prog 33 [.str x0, .int .i64 x1, .str x2] (.agg (rTapi_Segment r)) := (sims_G4_1_0.1 x0 x1 x2).2
noncomputable def m_interchangeref2_segments (x0 : Tapi_Interchange) : Option ((List Tapi_Segment)) := (sims_G4_1_0.2 x0).1
theorem spec_interchangeref2_segments (x0 : Tapi_Interchange) : ∀ r, m_interchangeref2_segments x0 = some r → PureSpec Tryz.prog 14 [.agg (rTapi_Interchange x0)] (.slice (List.map rTapi_Segment r)) := (sims_G4_1_0.2 x0).2

def sc_wire_segments_L1 : SC :=
  (.seq (.reg [.r 47 (.bin .lss (.t 46) (.t 45))])
  (.seq (.cond (.t 47)
    .skip
    (.exit 2))
  (.seq (.block 3 (.seq (.reg [.r 48 (.idx 4 (.t 44) (.t 46)),
       .o 49 (.ldA 4 (.t 48)),
       .w 8 (.boxM (.c (.agg [.d (.str []), .d (.str []), .d (.str []), .nils]))),
       .w 0 (.st 4 (.t 8) (.t 49))])
    (.seq (.reg [.r 50 (.mv (.t 4)),
       .r 51 (.fld 0 (.t 8)),
       .o 52 (.ld1 (.t 51)),
       .r 53 (.fld 1 (.t 8)),
       .o 54 (.ld1 (.t 53)),
       .r 55 (.fld 2 (.t 8)),
       .o 56 (.ld1 (.t 55)),
       .r 57 (.bslice 1 [.t 52, .t 54, .t 56]),
       .c 58 (.f 30) [.c (.d (.str [77, 72, 68])), .t 57],
       .r 59 (.bslice 2 [.t 58]),
       .w 60 (.app 71 2 (.t 50) (.t 59)),
       .r 4 (.mv (.t 60))])
    (.seq (.reg [.r 61 (.mv (.t 4)),
       .r 62 (.fld 3 (.t 8)),
       .o 63 (.ld1 (.t 62)),
       .c 64 (.f 32) [.t 63],
       .w 65 (.app 71 2 (.t 61) (.t 64)),
       .r 4 (.mv (.t 65))])
    (.reg [.r 66 (.mv (.t 4)),
       .r 67 (.fld 3 (.t 8)),
       .o 68 (.ld1 (.t 67)),
       .r 69 (.len (.t 68)),
       .r 70 (.bin .add (.t 69) (.c (.d (.int .i64 2)))),
       .r 71 (.fld 0 (.t 8)),
       .o 72 (.ld1 (.t 71)),
       .c 73 (.f 33) [.c (.d (.str [77, 84, 82])), .t 70, .t 72],
       .r 74 (.bslice 2 [.t 73]),
       .w 75 (.app 71 2 (.t 66) (.t 74)),
       .r 4 (.mv (.t 75))])))))
  (.reg [.r 76 (.bin .add (.t 46) (.c (.d (.int .i64 1)))),
     .r 46 (.mv (.t 76))]))))
def sc_wire_segments_B1 : SC := .block 2 (.loop sc_wire_segments_L1)
def sc_wire_segments_L2 : SC :=
  (.seq (.reg [.r 31 (.bin .lss (.t 30) (.t 29))])
  (.seq (.cond (.t 31)
    .skip
    (.exit 0))
  (.seq (.block 1 (.seq (.reg [.r 32 (.idx 3 (.t 28) (.t 30)),
       .o 33 (.ldA 3 (.t 32)),
       .w 6 (.boxM (.c (.agg [.d (.str []), .d (.str []), .nils]))),
       .w 0 (.st 3 (.t 6) (.t 33))])
    (.seq (.reg [.r 34 (.mv (.t 4)),
       .r 35 (.fld 0 (.t 6)),
       .o 36 (.ld1 (.t 35)),
       .r 37 (.fld 1 (.t 6)),
       .o 38 (.ld1 (.t 37)),
       .r 39 (.bslice 1 [.t 36, .t 38]),
       .c 40 (.f 30) [.c (.d (.str [71, 72, 68])), .t 39],
       .r 41 (.bslice 2 [.t 40]),
       .w 42 (.app 71 2 (.t 34) (.t 41)),
       .r 4 (.mv (.t 42))])
    (.seq (.seq (.reg [.r 43 (.fld 2 (.t 6)),
       .o 44 (.ld1 (.t 43)),
       .r 45 (.len (.t 44)),
       .r 46 (.mv (.c (.d (.int .i64 0))))])
    sc_wire_segments_B1)
    (.reg [.r 77 (.mv (.t 4)),
       .r 78 (.fld 2 (.t 6)),
       .o 79 (.ld1 (.t 78)),
       .r 80 (.len (.t 79)),
       .r 81 (.fld 0 (.t 6)),
       .o 82 (.ld1 (.t 81)),
       .c 83 (.f 33) [.c (.d (.str [71, 84, 82])), .t 80, .t 82],
       .r 84 (.bslice 2 [.t 83]),
       .w 85 (.app 71 2 (.t 77) (.t 84)),
       .r 4 (.mv (.t 85))])))))
  (.reg [.r 86 (.bin .add (.t 30) (.c (.d (.int .i64 1)))),
     .r 30 (.mv (.t 86))]))))
def sc_wire_segments_B2 : SC := .block 0 (.loop sc_wire_segments_L2)
/-- interchange/wire.segments -/
def sc_wire_segments : SC :=
  (.seq (.reg [.r 1 (.boxI (.t 0)),
     .r 2 (.mv (.c (.nils)))])
  (.seq (.reg [.r 3 (.mv (.c (.d (.str []))))])
  (.seq (.seq (.reg [.r 9 (.fld 5 (.t 1)),
     .o 10 (.ld1 (.t 9))])
  (.cond (.t 10)
    (.reg [.r 3 (.mv (.c (.d (.str [49]))))])
    .skip))
  (.seq (.regE [.r 11 (.fld 0 (.t 1)),
     .r 12 (.ld1 (.t 11)),
     .r 13 (.fld 1 (.t 1)),
     .r 14 (.ld1 (.t 13)),
     .r 15 (.fld 2 (.t 1)),
     .r 16 (.ld1 (.t 15)),
     .r 17 (.fld 3 (.t 1)),
     .r 18 (.ld1 (.t 17)),
     .c 19 (.f 31) [.t 18],
     .r 20 (.fld 4 (.t 1)),
     .r 21 (.ld1 (.t 20)),
     .c 22 (.f 31) [.t 21],
     .r 23 (.mv (.t 3)),
     .r 24 (.bslice 1 [.t 12, .t 14, .t 16, .t 19, .t 22, .t 23]),
     .c 25 (.f 30) [.c (.d (.str [73, 72, 68])), .t 24],
     .x 26 (.slM 71 2 [.t 25]) [],
     .r 4 (.mv (.t 26))])
  (.seq (.seq (.reg [.r 27 (.fld 6 (.t 1)),
     .o 28 (.ld1 (.t 27)),
     .r 29 (.len (.t 28)),
     .r 30 (.mv (.c (.d (.int .i64 0))))])
  sc_wire_segments_B2)
  (.seq (.reg [.r 87 (.mv (.t 4)),
     .r 88 (.fld 6 (.t 1)),
     .o 89 (.ld1 (.t 88)),
     .r 90 (.len (.t 89)),
     .r 91 (.fld 0 (.t 1)),
     .o 92 (.ld1 (.t 91)),
     .c 93 (.f 33) [.c (.d (.str [73, 84, 82])), .t 90, .t 92],
     .r 94 (.bslice 2 [.t 93]),
     .w 95 (.app 71 2 (.t 87) (.t 94)),
     .r 2 (.mv (.t 95))])
  .ret))))))
theorem fit_wire_segments : fits Tryz.prog 13 Tryz.f13 sc_wire_segments [.t 2] 1 = true := by kernel_rfl

/-- interchange/interchangeref2.Segments -/
def sc_interchangeref2_Segments : SC :=
  (.seq (.reg [.r 1 (.boxI (.t 0)),
     .r 2 (.mv (.c (.nils))),
     .r 3 (.mv (.c (.d (.int .i64 0))))])
  (.seq (.seq (.reg [.o 5 (.ldA 7 (.t 1)),
     .c 6 (.f 9) [.t 5],
     .r 4 (.mv (.t 6))])
  (.seq (.reg [.r 7 (.mv (.t 4)),
     .r 8 (.bin .neq (.t 7) (.c (.d (.int .i64 0))))])
  (.cond (.t 8)
    (.seq (.reg [.r 9 (.mv (.t 4)),
       .r 2 (.mv (.c (.nils))),
       .r 3 (.mv (.t 9))])
    .ret)
    .skip)))
  (.seq (.reg [.o 10 (.ldA 7 (.t 1)),
     .c 11 (.f 14) [.t 10],
     .r 2 (.mv (.t 11)),
     .r 3 (.mv (.c (.d (.int .i64 0))))])
  .ret)))
theorem fit_interchangeref2_Segments : fits Tryz.prog 5 Tryz.f5 sc_interchangeref2_Segments [.t 2, .t 3] 1 = true := by kernel_rfl

set_option maxRecDepth 100000 in
set_option maxHeartbeats 40000000 in
noncomputable def sims_G4_2_0 : (∀ (x0 : Tapi_Interchange), {m : Option ((List Tapi_Segment)) // ∀ r, m = some r → PureSpec Tryz.prog 13 [.agg (rTapi_Interchange x0)] (.slice (List.map rTapi_Segment r))}) × (∀ (x0 : Tapi_Interchange), {m : Option ((List Tapi_Segment) × Int) // ∀ r, m = some r → PureSpec Tryz.prog 5 [.agg (rTapi_Interchange x0)] (.tup [.slice (List.map rTapi_Segment r.1), .int .i64 r.2])}) := by
  refine ⟨?g0, ?g1⟩
  case' g0 => (intro x0; apply Subtype.mk; intro r hm; apply pure_walk Tryz.func13 fit_wire_segments; unfold sc_wire_segments)
  case' g1 => (intro x0; apply Subtype.mk; intro r hm; apply pure_walk Tryz.func5 fit_interchangeref2_Segments; unfold sc_interchangeref2_Segments)
  all_goals (repeat' (first | with_reducible refine W_seq ?_ | with_reducible refine W_reg ?_ | with_reducible refine W_regE ?_ | with_reducible refine W_block ?_ | with_reducible refine W_skip ?_ | with_reducible refine W_ret ?_ | with_reducible refine W_exit ?_ | with_reducible refine O_nil ?_ | with_reducible refine K_seq ?_ | with_reducible refine K_seqE ?_ | with_reducible refine K_seqR ?_ | with_reducible refine K_block ?_ | with_reducible refine O_o2r ?_ | ((with_reducible apply O_idxr hm); (iterate 2 (simp only [push_cast, seval]; rfl)); (intro _; rfl); intro e hm) | ((with_reducible apply O_r); (simp only [push_cast, seval]; rfl); (first | exact trivial)) | ((with_reducible apply O_cF hm); (simp only [push_cast, seval]; rfl); (first | apply spec_strconv_Itoa _ | apply spec_wire_Made _ _ | apply spec_wire_CloneAll _ | apply spec_wire_tail _ _ _ | apply spec_interchangeref2_CheckInterchange _ | apply spec_interchangeref2_segments _); (any_goals ((repeat' (first | rfl | (with_reducible first | apply dv_slice | apply f_cons | apply fold_nil | apply fold_cons))); done)); intro x hm) | ((with_reducible apply O_w); (simp only [push_cast, seval]; rfl); (first | exact trivial)) | ((with_reducible apply O_appV hm); (iterate 4 (simp only [push_cast, seval]; rfl)); (focus ((repeat' (first | rfl | (with_reducible first | apply dv_slice | apply fold_nil | apply fold_cons))); done)); decide; (intro _; rfl); intro hm) | ((with_reducible apply O_x); (simp only [push_cast, seval]; rfl); (first | exact trivial); (focus ((repeat' (first | exact Rer_nil)); done))) | ((with_reducible apply S_condB hm); (simp only [push_cast, seval]; rfl); intro hm; rotate_left; intro hm) | ((with_reducible apply K_end2 hm); (focus (simp only [resOf, resL, RV.get, push_cast, seval]; rfl)); (focus (first | (dsimp only; done))); (focus ((repeat' (first | rfl | (with_reducible first | apply f_tup | apply dv_slice | apply f_cons | apply fold_nil))); done))) | ((with_reducible apply K_endS hm); (focus (simp only [resOf, resL, RV.get, push_cast, seval]; rfl)); (focus ((repeat' (first | rfl)); done))) | ((with_reducible apply K_leave hm); intro r hm) | ((apply S_loopY (b := 2) (X := sc_wire_segments_B1) (x := sc_wire_segments_L1) rfl (fun (c : SV × Ch × SV × SV × SV × SV × SV) (s : (List Tapi_Segment) × Int) => st [(1, c.1), (4, .vec 26), (6, .ref 6 0), (28, c.2.2.1), (29, c.2.2.2.1), (30, c.2.2.2.2.1), (44, c.2.2.2.2.2.1), (45, c.2.2.2.2.2.2), (46, .d (.int .i64 s.2))] [(26, .vec 71 2 (vrow rTapi_Segment s.1)), (6, c.2.1)]) (c := (_, _, _, _, _, _, _)) (s0 := (_, _)) hm); (focus (first | (dsimp only; done))); (with_reducible refine Then.mk ?_ ?_)) | ((apply S_loopY (b := 0) (X := sc_wire_segments_B2) (x := sc_wire_segments_L2) rfl (fun (c : SV × SV × SV) (s : (List Tapi_Segment) × Int) => st [(1, c.1), (4, .vec 26), (28, c.2.1), (29, c.2.2), (30, .d (.int .i64 s.2))] [(26, .vec 71 2 (vrow rTapi_Segment s.1))]) (c := (_, _, _)) (s0 := (_, _)) hm); (focus (first | (dsimp only; done))); (with_reducible refine Then.mk ?_ ?_)) | ((apply K_next (s' := (_, _)) hm); (focus (first | (dsimp only; done)))) | ((apply K_brk (s' := (_, _)) hm); (focus (first | (dsimp only; done)))) | (((with_reducible apply LoopB.of); (focus (first | (dsimp only; done))); (focus ((intro _; repeat' (first | with_reducible exact impC_end | with_reducible refine impC_seq ?_ | with_reducible refine impC_block ?_ | ((with_reducible refine impC_rnd ?_); intro _) | ((with_reducible refine impC_brk ?_); intro _))))); (intro s o hm; first | unfold sc_wire_segments_L1 | unfold sc_wire_segments_L2); rotate_left; intro s hm)) | (((apply imp_stT; (repeat' (first | with_reducible exact keepT_nil | with_reducible exact keepC_nil | with_reducible apply keepT_cons | with_reducible apply keepC_cons | ((with_reducible apply svle_eq); (focus (first | (simp only [push_cast, seval]; rfl) | rfl)); (focus ((repeat' (first | rfl)); done))) | ((with_reducible apply chle_eq); (focus (first | (simp only [push_cast, seval]; rfl))); (first | with_reducible exact chle_rfl rfl | with_reducible apply chle_vec)) | (with_reducible first | apply cT_Tapi_Segment | apply r_nil | apply r_cons))); done)))))
noncomputable def m_wire_segments (x0 : Tapi_Interchange) : Option ((List Tapi_Segment)) := (sims_G4_2_0.1 x0).1
theorem spec_wire_segments (x0 : Tapi_Interchange) : ∀ r, m_wire_segments x0 = some r → PureSpec Tryz.prog 13 [.agg (rTapi_Interchange x0)] (.slice (List.map rTapi_Segment r)) := (sims_G4_2_0.1 x0).2
noncomputable def m_interchangeref2_Segments (x0 : Tapi_Interchange) : Option ((List Tapi_Segment) × Int) := (sims_G4_2_0.2 x0).1
theorem spec_interchangeref2_Segments (x0 : Tapi_Interchange) : ∀ r, m_interchangeref2_Segments x0 = some r → PureSpec Tryz.prog 5 [.agg (rTapi_Interchange x0)] (.tup [.slice (List.map rTapi_Segment r.1), .int .i64 r.2]) := (sims_G4_2_0.2 x0).2

/-- interchange/wire.Segments -/
def sc_wire_Segments : SC :=
  (.seq (.reg [.r 1 (.boxI (.t 0)),
     .r 2 (.mv (.c (.nils))),
     .r 3 (.mv (.c (.d (.int .i64 0))))])
  (.seq (.seq (.reg [.o 5 (.ldA 7 (.t 1)),
     .c 6 (.f 8) [.t 5],
     .r 4 (.mv (.t 6))])
  (.seq (.reg [.r 7 (.mv (.t 4)),
     .r 8 (.bin .neq (.t 7) (.c (.d (.int .i64 0))))])
  (.cond (.t 8)
    (.seq (.reg [.r 9 (.mv (.t 4)),
       .r 2 (.mv (.c (.nils))),
       .r 3 (.mv (.t 9))])
    .ret)
    .skip)))
  (.seq (.reg [.o 10 (.ldA 7 (.t 1)),
     .c 11 (.f 13) [.t 10],
     .r 2 (.mv (.t 11)),
     .r 3 (.mv (.c (.d (.int .i64 0))))])
  .ret)))
theorem fit_wire_Segments : fits Tryz.prog 4 Tryz.f4 sc_wire_Segments [.t 2, .t 3] 1 = true := by kernel_rfl

set_option maxRecDepth 100000 in
set_option maxHeartbeats 40000000 in
noncomputable def sims_G4_3_0 : (∀ (x0 : Tapi_Interchange), {m : Option ((List Tapi_Segment) × Int) // ∀ r, m = some r → PureSpec Tryz.prog 4 [.agg (rTapi_Interchange x0)] (.tup [.slice (List.map rTapi_Segment r.1), .int .i64 r.2])}) := by
  (intro x0; apply Subtype.mk; intro r hm; apply pure_walk Tryz.func4 fit_wire_Segments; unfold sc_wire_Segments)
  repeat' (first | with_reducible refine W_seq ?_ | with_reducible refine W_reg ?_ | with_reducible refine W_skip ?_ | with_reducible refine W_ret ?_ | with_reducible refine O_nil ?_ | with_reducible refine K_seq ?_ | with_reducible refine K_seqR ?_ | with_reducible refine O_o2r ?_ | ((with_reducible apply O_r); (simp only [push_cast, seval]; rfl); (first | exact trivial)) | ((with_reducible apply O_cF hm); (simp only [push_cast, seval]; rfl); (first | apply spec_wire_CheckInterchange _ | apply spec_wire_segments _); (any_goals ((repeat' (first | rfl)); done)); intro x hm) | ((with_reducible apply S_condB hm); (simp only [push_cast, seval]; rfl); intro hm; rotate_left; intro hm) | ((with_reducible apply K_end2 hm); (focus (simp only [resOf, resL, RV.get, push_cast, seval]; rfl)); (focus (first | (dsimp only; done))); (focus ((repeat' (first | rfl | (with_reducible first | apply f_tup | apply dv_slice | apply f_cons | apply fold_nil))); done))))
noncomputable def m_wire_Segments (x0 : Tapi_Interchange) : Option ((List Tapi_Segment) × Int) := (sims_G4_3_0 x0).1
theorem spec_wire_Segments (x0 : Tapi_Interchange) : ∀ r, m_wire_Segments x0 = some r → PureSpec Tryz.prog 4 [.agg (rTapi_Interchange x0)] (.tup [.slice (List.map rTapi_Segment r.1), .int .i64 r.2]) := (sims_G4_3_0 x0).2

end Go.Proofs.YtlmmfddbpagiaaaGreatDoor

/-
  Bodies of functions and what they compute, printed by programs of mine (wip/tool/gen.py, sc.py) out of the translation; the kernel holds each against the translation.
-/
namespace Go.Proofs.YtlmmfddbpagiaaaGreatDoor
open Go.RowKit
set_option linter.unusedSimpArgs false
set_option linter.unusedVariables false
structure Tapi_Spot where
  fElement : Int
  fRepeat : Int
  fPart : Int
  deriving DecidableEq
def rTapi_Spot (x : Tapi_Spot) : List DV := [.int .i64 x.fElement, .int .i64 x.fRepeat, .int .i64 x.fPart]
attribute [push_cast] rTapi_Spot
theorem fT_Tapi_Spot {d0 d1 d2 : DV} {v0 : Int} {v1 : Int} {v2 : Int} (h0 : d0 = .int .i64 v0) (h1 : d1 = .int .i64 v1) (h2 : d2 = .int .i64 v2) : [d0, d1, d2] = rTapi_Spot ⟨v0, v1, v2⟩ := by unfold rTapi_Spot; simp only [h0, h1, h2, List.cons_append, List.nil_append, List.append_assoc, List.append_nil]
theorem cT_Tapi_Spot {d0 d1 d2 : SV} {v0 : Int} {v1 : Int} {v2 : Int} (h0 : svle d0 (.d (.int .i64 v0))) (h1 : svle d1 (.d (.int .i64 v1))) (h2 : svle d2 (.d (.int .i64 v2))) : cellsle [d0, d1, d2] (dR (rTapi_Spot ⟨v0, v1, v2⟩)) := by have h := (cellsle.append (cellsle.consS h0 cellsle.nil) (cellsle.append (cellsle.consS h1 cellsle.nil) (cellsle.consS h2 cellsle.nil))); simpa only [rTapi_Spot, dR, List.map_append, List.map_cons, List.map_nil, List.cons_append, List.nil_append, List.append_assoc, List.append_nil] using h
structure Twire_place where
  fsegment : Int
  fat : Tapi_Spot
  ffrom : Int
  fto : Int
  deriving DecidableEq
def rTwire_place (x : Twire_place) : List DV := [.int .i64 x.fsegment] ++ rTapi_Spot x.fat ++ [.int .i64 x.ffrom, .int .i64 x.fto]
attribute [push_cast] rTwire_place
theorem cT_Twire_place {d0 d1 d2 d3 d4 d5 : SV} {v0 : Int} {v1 : Tapi_Spot} {v2 : Int} {v3 : Int} (h0 : svle d0 (.d (.int .i64 v0))) (h1 : cellsle [d1, d2, d3] (dR (rTapi_Spot v1))) (h2 : svle d4 (.d (.int .i64 v2))) (h3 : svle d5 (.d (.int .i64 v3))) : cellsle [d0, d1, d2, d3, d4, d5] (dR (rTwire_place ⟨v0, v1, v2, v3⟩)) := by have h := (cellsle.append (cellsle.consS h0 cellsle.nil) (cellsle.append h1 (cellsle.append (cellsle.consS h2 cellsle.nil) (cellsle.consS h3 cellsle.nil)))); simpa only [rTwire_place, dR, List.map_append, List.map_cons, List.map_nil, List.cons_append, List.nil_append, List.append_assoc, List.append_nil] using h

structure Twire_writer where
  fm : Tapi_Marks
  flines : Bool
  fb : List UInt8
  fplaces : List Twire_place
  fstarts : List Int
  fbad : Bool
  deriving DecidableEq
def rTwire_writer (x : Twire_writer) : List DV := rTapi_Marks x.fm ++ [.bool x.flines, .slice (List.map rowY x.fb), .slice (List.map rTwire_place x.fplaces), .slice (List.map rowI x.fstarts), .bool x.fbad]
attribute [push_cast] rTwire_writer
theorem fT_Twire_writer {d0 d1 d2 d3 d4 d5 d6 d7 d8 d9 : DV} {v0 : Tapi_Marks} {v1 : Bool} {v2 : List UInt8} {v3 : List Twire_place} {v4 : List Int} {v5 : Bool} (h0 : [d0, d1, d2, d3, d4] = rTapi_Marks v0) (h1 : d5 = .bool v1) (h2 : d6 = .slice (List.map rowY v2)) (h3 : d7 = .slice (List.map rTwire_place v3)) (h4 : d8 = .slice (List.map rowI v4)) (h5 : d9 = .bool v5) : [d0, d1, d2, d3, d4, d5, d6, d7, d8, d9] = rTwire_writer ⟨v0, v1, v2, v3, v4, v5⟩ := by unfold rTwire_writer; simp only [← h0, h1, h2, h3, h4, h5, List.cons_append, List.nil_append, List.append_assoc, List.append_nil]
theorem oT_Twire_writer {d0 d1 d2 d3 d4 d5 d6 d7 d8 d9 : SV} {v0 : Tapi_Marks} {v1 : Bool} {v2 : List UInt8} {v3 : List Twire_place} {v4 : List Int} {v5 : Bool} {m2 : List Mask} {m3 : List Mask} {m4 : List Mask} (h0 : cellsle [d0, d1, d2, d3, d4] (dR (rTapi_Marks v0))) (h1 : svle d5 (.d (.bool v1))) (h2 : cle d6 (.own (.sl 5 m2) (.slice (List.map rowY v2)))) (h3 : cle d7 (.own (.sl 100 m3) (.slice (List.map rTwire_place v3)))) (h4 : cle d8 (.own (.sl 3 m4) (.slice (List.map rowI v4)))) (h5 : svle d9 (.d (.bool v5))) : cellsle [d0, d1, d2, d3, d4, d5, d6, d7, d8, d9] (ownR [.sh, .sh, .sh, .sh, .sh, .sh, .sl 5 m2, .sl 100 m3, .sl 3 m4, .sh] (rTwire_writer ⟨v0, v1, v2, v3, v4, v5⟩)) := by have h := (cellsle.append h0 (cellsle.append (cellsle.consS h1 cellsle.nil) (cellsle.append (cellsle.cons h2 cellsle.nil) (cellsle.append (cellsle.cons h3 cellsle.nil) (cellsle.append (cellsle.cons h4 cellsle.nil) (cellsle.consS h5 cellsle.nil)))))); simp only [push_cast, seval, dR] at h ⊢; exact h
def bT_Twire_writer (p0 : Tapi_Marks) (p1 : Bool) (p2 : Nat) (p3 : Nat) (p4 : Nat) (p5 : Bool) : List SV := dR (rTapi_Marks p0) ++ ([.d (.bool p1)] ++ ([.vec p2] ++ ([.vec p3] ++ ([.vec p4] ++ ([.d (.bool p5)])))))
attribute [push_cast] bT_Twire_writer
structure Tinterchangeref2_piece where
  fsegment : Int
  fat : Tapi_Spot
  fbegin : Int
  ffrom : Int
  fto : Int
  deriving DecidableEq
def rTinterchangeref2_piece (x : Tinterchangeref2_piece) : List DV := [.int .i64 x.fsegment] ++ rTapi_Spot x.fat ++ [.int .i64 x.fbegin, .int .i64 x.ffrom, .int .i64 x.fto]
attribute [push_cast] rTinterchangeref2_piece
theorem cT_Tinterchangeref2_piece {d0 d1 d2 d3 d4 d5 d6 : SV} {v0 : Int} {v1 : Tapi_Spot} {v2 : Int} {v3 : Int} {v4 : Int} (h0 : svle d0 (.d (.int .i64 v0))) (h1 : cellsle [d1, d2, d3] (dR (rTapi_Spot v1))) (h2 : svle d4 (.d (.int .i64 v2))) (h3 : svle d5 (.d (.int .i64 v3))) (h4 : svle d6 (.d (.int .i64 v4))) : cellsle [d0, d1, d2, d3, d4, d5, d6] (dR (rTinterchangeref2_piece ⟨v0, v1, v2, v3, v4⟩)) := by have h := (cellsle.append (cellsle.consS h0 cellsle.nil) (cellsle.append h1 (cellsle.append (cellsle.consS h2 cellsle.nil) (cellsle.append (cellsle.consS h3 cellsle.nil) (cellsle.consS h4 cellsle.nil))))); simpa only [rTinterchangeref2_piece, dR, List.map_append, List.map_cons, List.map_nil, List.cons_append, List.nil_append, List.append_assoc, List.append_nil] using h

structure Tinterchangeref2_writer where
  fm : Tapi_Marks
  fout : List UInt8
  fpieces : List Tinterchangeref2_piece
  fescapes : Int
  deriving DecidableEq
def rTinterchangeref2_writer (x : Tinterchangeref2_writer) : List DV := rTapi_Marks x.fm ++ [.slice (List.map rowY x.fout), .slice (List.map rTinterchangeref2_piece x.fpieces), .int .i64 x.fescapes]
attribute [push_cast] rTinterchangeref2_writer
theorem fT_Tinterchangeref2_writer {d0 d1 d2 d3 d4 d5 d6 d7 : DV} {v0 : Tapi_Marks} {v1 : List UInt8} {v2 : List Tinterchangeref2_piece} {v3 : Int} (h0 : [d0, d1, d2, d3, d4] = rTapi_Marks v0) (h1 : d5 = .slice (List.map rowY v1)) (h2 : d6 = .slice (List.map rTinterchangeref2_piece v2)) (h3 : d7 = .int .i64 v3) : [d0, d1, d2, d3, d4, d5, d6, d7] = rTinterchangeref2_writer ⟨v0, v1, v2, v3⟩ := by unfold rTinterchangeref2_writer; simp only [← h0, h1, h2, h3, List.cons_append, List.nil_append, List.append_assoc, List.append_nil]
theorem oT_Tinterchangeref2_writer {d0 d1 d2 d3 d4 d5 d6 d7 : SV} {v0 : Tapi_Marks} {v1 : List UInt8} {v2 : List Tinterchangeref2_piece} {v3 : Int} {m1 : List Mask} {m2 : List Mask} (h0 : cellsle [d0, d1, d2, d3, d4] (dR (rTapi_Marks v0))) (h1 : cle d5 (.own (.sl 5 m1) (.slice (List.map rowY v1)))) (h2 : cle d6 (.own (.sl 104 m2) (.slice (List.map rTinterchangeref2_piece v2)))) (h3 : svle d7 (.d (.int .i64 v3))) : cellsle [d0, d1, d2, d3, d4, d5, d6, d7] (ownR [.sh, .sh, .sh, .sh, .sh, .sl 5 m1, .sl 104 m2, .sh] (rTinterchangeref2_writer ⟨v0, v1, v2, v3⟩)) := by have h := (cellsle.append h0 (cellsle.append (cellsle.cons h1 cellsle.nil) (cellsle.append (cellsle.cons h2 cellsle.nil) (cellsle.consS h3 cellsle.nil)))); simp only [push_cast, seval, dR] at h ⊢; exact h
def bT_Tinterchangeref2_writer (p0 : Tapi_Marks) (p1 : Nat) (p2 : Nat) (p3 : Int) : List SV := dR (rTapi_Marks p0) ++ ([.vec p1] ++ ([.vec p2] ++ ([.d (.int .i64 p3)])))
attribute [push_cast] bT_Tinterchangeref2_writer
/-- interchange/wire.isMark -/
def sc_wire_isMark : SC :=
  (.seq (.reg [.r 2 (.boxI (.t 0)),
     .r 4 (.mv (.c (.d (.bool false))))])
  (.seq (.reg (.r 5 (.mv (.t 1)) :: .r 6 (.fld 0 (.t 2)) :: .o 7 (.ld1 (.t 6)) :: .r 8 (.bin .eql (.t 5) (.t 7)) :: .r 9 (.mv (.t 8)) :: gapp [10, 11, 12, 13] 9 false (.r 10 (.mv (.t 1)) :: .r 11 (.fld 1 (.t 2)) :: .r 12 (.ld1 (.t 11)) :: .r 13 (.bin .eql (.t 10) (.t 12)) :: []) (.r 14 (.pick (.t 9) (.c (.d (.bool true))) (.t 13)) :: .r 15 (.mv (.t 14)) :: gapp [16, 17, 18, 19] 15 false (.r 16 (.mv (.t 1)) :: .r 17 (.fld 2 (.t 2)) :: .r 18 (.ld1 (.t 17)) :: .r 19 (.bin .eql (.t 16) (.t 18)) :: []) (.r 20 (.pick (.t 15) (.c (.d (.bool true))) (.t 19)) :: .r 21 (.mv (.t 20)) :: gapp [22, 23, 24, 25] 21 false (.r 22 (.mv (.t 1)) :: .r 23 (.fld 4 (.t 2)) :: .r 24 (.ld1 (.t 23)) :: .r 25 (.bin .eql (.t 22) (.t 24)) :: []) (.r 26 (.pick (.t 21) (.c (.d (.bool true))) (.t 25)) :: .r 27 (.mv (.t 26)) :: gapp [28, 29, 30, 31, 32, 33, 34, 35, 36] 27 false (.r 28 (.fld 3 (.t 2)) :: .r 29 (.ld1 (.t 28)) :: .r 30 (.bin .neq (.t 29) (.c (.d (.int .u8 0)))) :: .r 31 (.mv (.t 30)) :: gapp [32, 33, 34, 35] 31 true (.r 32 (.mv (.t 1)) :: .r 33 (.fld 3 (.t 2)) :: .r 34 (.ld1 (.t 33)) :: .r 35 (.bin .eql (.t 32) (.t 34)) :: []) (.r 36 (.pick (.t 31) (.t 35) (.c (.d (.bool false)))) :: [])) (.r 37 (.pick (.t 27) (.c (.d (.bool true))) (.t 36)) :: .r 4 (.mv (.t 37)) :: []))))))
  .ret))
theorem fit_wire_isMark : fits Tryz.prog 58 Tryz.f58 sc_wire_isMark [.t 4] 2 = true := by kernel_rfl

def sc_slices_IndexFunc_string_string_L1 : SC :=
  (.seq (.reg [.r 9 (.bin .lss (.t 8) (.t 7))])
  (.seq (.cond (.t 9)
    .skip
    (.exit 0))
  (.seq (.block 1 (.seq (.reg [.r 10 (.mv (.t 8)),
       .r 5 (.mv (.t 10))])
    (.seq (.reg [.r 11 (.mv (.t 1)),
       .r 12 (.mv (.t 0)),
       .r 13 (.mv (.t 5)),
       .r 14 (.idx 1 (.t 12) (.t 13)),
       .o 15 (.ld1 (.t 14)),
       .c 16 (.t 11) [.t 15]])
    (.cond (.t 16)
      (.seq (.reg [.r 17 (.mv (.t 5)),
         .r 4 (.mv (.t 17))])
      .ret)
      .skip))))
  (.reg [.r 18 (.bin .add (.t 8) (.c (.d (.int .i64 1)))),
     .r 8 (.mv (.t 18))]))))
def sc_slices_IndexFunc_string_string_B1 : SC := .block 0 (.loop sc_slices_IndexFunc_string_string_L1)
/-- slices.IndexFunc[[]string,string] -/
def sc_slices_IndexFunc_string_string : SC :=
  (.seq (.reg [.r 4 (.mv (.c (.d (.int .i64 0))))])
  (.seq (.seq (.reg [.r 6 (.mv (.t 0)),
     .r 7 (.len (.t 6)),
     .r 8 (.mv (.c (.d (.int .i64 0))))])
  sc_slices_IndexFunc_string_string_B1)
  (.seq (.reg [.r 4 (.mv (.c (.d (.int .i64 (-1)))))])
  .ret)))
theorem fit_slices_IndexFunc_string_string : fits Tryz.prog 57 Tryz.f57 sc_slices_IndexFunc_string_string [.t 4] 2 = true := by kernel_rfl

/-- interchange/interchangeref2.isMark -/
def sc_interchangeref2_isMark : SC :=
  (.seq (.reg [.r 2 (.boxI (.t 0)),
     .r 4 (.mv (.c (.d (.bool false))))])
  (.seq (.reg (.r 5 (.mv (.t 1)) :: .r 6 (.fld 0 (.t 2)) :: .o 7 (.ld1 (.t 6)) :: .r 8 (.bin .eql (.t 5) (.t 7)) :: .r 9 (.mv (.t 8)) :: gapp [10, 11, 12, 13] 9 false (.r 10 (.mv (.t 1)) :: .r 11 (.fld 1 (.t 2)) :: .r 12 (.ld1 (.t 11)) :: .r 13 (.bin .eql (.t 10) (.t 12)) :: []) (.r 14 (.pick (.t 9) (.c (.d (.bool true))) (.t 13)) :: .r 15 (.mv (.t 14)) :: gapp [16, 17, 18, 19] 15 false (.r 16 (.mv (.t 1)) :: .r 17 (.fld 2 (.t 2)) :: .r 18 (.ld1 (.t 17)) :: .r 19 (.bin .eql (.t 16) (.t 18)) :: []) (.r 20 (.pick (.t 15) (.c (.d (.bool true))) (.t 19)) :: .r 21 (.mv (.t 20)) :: gapp [22, 23, 24, 25] 21 false (.r 22 (.mv (.t 1)) :: .r 23 (.fld 4 (.t 2)) :: .r 24 (.ld1 (.t 23)) :: .r 25 (.bin .eql (.t 22) (.t 24)) :: []) (.r 26 (.pick (.t 21) (.c (.d (.bool true))) (.t 25)) :: .r 27 (.mv (.t 26)) :: gapp [28, 29, 30, 31, 32, 33, 34, 35, 36] 27 false (.r 28 (.fld 3 (.t 2)) :: .r 29 (.ld1 (.t 28)) :: .r 30 (.bin .neq (.t 29) (.c (.d (.int .u8 0)))) :: .r 31 (.mv (.t 30)) :: gapp [32, 33, 34, 35] 31 true (.r 32 (.mv (.t 1)) :: .r 33 (.fld 3 (.t 2)) :: .r 34 (.ld1 (.t 33)) :: .r 35 (.bin .eql (.t 32) (.t 34)) :: []) (.r 36 (.pick (.t 31) (.t 35) (.c (.d (.bool false)))) :: [])) (.r 37 (.pick (.t 27) (.c (.d (.bool true))) (.t 36)) :: .r 4 (.mv (.t 37)) :: []))))))
  .ret))
theorem fit_interchangeref2_isMark : fits Tryz.prog 85 Tryz.f85 sc_interchangeref2_isMark [.t 4] 2 = true := by kernel_rfl

set_option maxRecDepth 100000 in
set_option maxHeartbeats 40000000 in
noncomputable def sims_G6_0_0 : (∀ (x0 : Tapi_Marks) (x1 : UInt8), {m : Option (Bool) // ∀ r, m = some r → PureSpec Tryz.prog 58 [.agg (rTapi_Marks x0), .int .u8 (x1).toNat] (.bool r)}) × (∀ (x0 : List (List UInt8)) (f1 : FuncId) (c1 : List DV) (p1 : (List UInt8) → Option (Bool)) (h1 : ∀ a0 r, p1 a0 = some r → PureSpec Tryz.prog f1 ([.str a0] ++ c1) (.bool r)), {m : Option (Int) // ∀ r, m = some r → PureSpec Tryz.prog 57 [.slice (List.map rowS x0), .fn f1 c1] (.int .i64 r)}) × (∀ (x0 : Tapi_Marks) (x1 : UInt8), {m : Option (Bool) // ∀ r, m = some r → PureSpec Tryz.prog 85 [.agg (rTapi_Marks x0), .int .u8 (x1).toNat] (.bool r)}) := by
  refine ⟨?g0, ?g1, ?g2⟩
  case' g0 => (intro x0 x1; apply Subtype.mk; intro r hm; apply pure_walk Tryz.func58 fit_wire_isMark; unfold sc_wire_isMark)
  case' g1 => (intro x0 f1 c1 p1 h1; apply Subtype.mk; intro r hm; apply pure_walk Tryz.func57 fit_slices_IndexFunc_string_string; unfold sc_slices_IndexFunc_string_string)
  case' g2 => (intro x0 x1; apply Subtype.mk; intro r hm; apply pure_walk Tryz.func85 fit_interchangeref2_isMark; unfold sc_interchangeref2_isMark)
  all_goals (repeat' (first | with_reducible refine W_seq ?_ | with_reducible refine W_reg ?_ | with_reducible refine W_block ?_ | with_reducible refine W_skip ?_ | with_reducible refine W_ret ?_ | with_reducible refine W_exit ?_ | with_reducible refine O_nil ?_ | with_reducible refine K_seq ?_ | with_reducible refine K_seqE ?_ | with_reducible refine K_seqR ?_ | with_reducible refine K_block ?_ | with_reducible refine K_blockR ?_ | with_reducible refine O_o2r ?_ | ((with_reducible apply O_idxr hm); (iterate 2 (simp only [push_cast, seval]; rfl)); (intro _; rfl); intro e hm) | ((with_reducible apply O_r); (simp only [push_cast, seval]; rfl); (first | exact trivial)) | ((with_reducible apply O_and hm); (simp only [push_cast, seval]; rfl); rfl; intro v hm; rotate_left; intro v g hm) | ((with_reducible apply O_or hm); (simp only [push_cast, seval]; rfl); rfl; intro v hm; rotate_left; intro v g hm) | ((with_reducible apply O_cvS hm); (iterate 2 (simp only [push_cast, seval]; rfl)); (focus (first | exact h1 _)); intro x hm) | ((with_reducible apply S_condB hm); (simp only [push_cast, seval]; rfl); intro hm; rotate_left; intro hm) | ((with_reducible apply K_endS hm); (focus (simp only [resOf, resL, RV.get, push_cast, seval]; rfl)); (focus ((repeat' (first | rfl)); done))) | ((with_reducible apply K_bool hm); (simp only [push_cast, seval]; rfl)) | ((with_reducible apply K_leave hm); intro r hm) | ((with_reducible apply K_leaveR hm); intro r hm) | ((apply S_loopY (b := 0) (X := sc_slices_IndexFunc_string_string_B1) (x := sc_slices_IndexFunc_string_string_L1) rfl (fun (c : SV × SV × SV) (s : Int) => st [(0, c.1), (1, c.2.1), (7, c.2.2), (8, .d (.int .i64 s))] []) (c := (_, _, _)) (s0 := _) hm); (focus (first | (dsimp only; done))); (with_reducible refine Then.mk ?_ ?_)) | ((apply K_next (s' := _) hm); (focus (first | (dsimp only; done)))) | ((apply K_brk (s' := _) hm); (focus (first | (dsimp only; done)))) | (((with_reducible apply K_brkR hm); intro r hm)) | (((with_reducible apply LoopB.of); (focus (first | (dsimp only; done))); (focus ((intro _; repeat' (first | with_reducible exact impC_end | with_reducible refine impC_seq ?_)))); (intro s o hm; first | unfold sc_slices_IndexFunc_string_string_L1); rotate_left; intro s hm)) | (((apply imp_stT; (repeat' (first | with_reducible exact keepT_nil | with_reducible exact keepC_nil | with_reducible apply keepT_cons | ((with_reducible apply svle_eq); (focus (first | (simp only [push_cast, seval]; rfl))); (focus ((repeat' (first | rfl)); done))))); done)))))
noncomputable def m_wire_isMark (x0 : Tapi_Marks) (x1 : UInt8) : Option (Bool) := (sims_G6_0_0.1 x0 x1).1
theorem spec_wire_isMark (x0 : Tapi_Marks) (x1 : UInt8) : ∀ r, m_wire_isMark x0 x1 = some r → PureSpec Tryz.prog 58 [.agg (rTapi_Marks x0), .int .u8 (x1).toNat] (.bool r) := (sims_G6_0_0.1 x0 x1).2
noncomputable def m_slices_IndexFunc_string_string (x0 : List (List UInt8)) (f1 : FuncId) (c1 : List DV) (p1 : (List UInt8) → Option (Bool)) (h1 : ∀ a0 r, p1 a0 = some r → PureSpec Tryz.prog f1 ([.str a0] ++ c1) (.bool r)) : Option (Int) := (sims_G6_0_0.2.1 x0 f1 c1 p1 h1).1
theorem spec_slices_IndexFunc_string_string (x0 : List (List UInt8)) (f1 : FuncId) (c1 : List DV) (p1 : (List UInt8) → Option (Bool)) (h1 : ∀ a0 r, p1 a0 = some r → PureSpec Tryz.prog f1 ([.str a0] ++ c1) (.bool r)) : ∀ r, m_slices_IndexFunc_string_string x0 f1 c1 p1 h1 = some r → PureSpec Tryz.prog 57 [.slice (List.map rowS x0), .fn f1 c1] (.int .i64 r) := (sims_G6_0_0.2.1 x0 f1 c1 p1 h1).2
noncomputable def m_interchangeref2_isMark (x0 : Tapi_Marks) (x1 : UInt8) : Option (Bool) := (sims_G6_0_0.2.2 x0 x1).1
theorem spec_interchangeref2_isMark (x0 : Tapi_Marks) (x1 : UInt8) : ∀ r, m_interchangeref2_isMark x0 x1 = some r → PureSpec Tryz.prog 85 [.agg (rTapi_Marks x0), .int .u8 (x1).toNat] (.bool r) := (sims_G6_0_0.2.2 x0 x1).2

/-- interchange/wire.checkBoth -/
def sc_wire_checkBoth : SC :=
  (.seq (.reg [.r 3 (.boxI (.t 1)),
     .r 4 (.mv (.c (.d (.int .i64 0))))])
  (.seq (.seq (.reg [.r 6 (.mv (.t 0)),
     .c 7 (.f 55) [.t 6],
     .r 5 (.mv (.t 7))])
  (.seq (.reg [.r 8 (.mv (.t 5)),
     .r 9 (.bin .neq (.t 8) (.c (.d (.int .i64 0))))])
  (.cond (.t 9)
    (.seq (.reg [.r 10 (.mv (.t 5)),
       .r 4 (.mv (.t 10))])
    .ret)
    .skip)))
  (.seq (.reg [.o 11 (.ldA 5 (.t 3)),
     .c 12 (.f 36) [.t 11],
     .r 4 (.mv (.t 12))])
  .ret)))
theorem fit_wire_checkBoth : fits Tryz.prog 37 Tryz.f37 sc_wire_checkBoth [.t 4] 2 = true := by kernel_rfl

def sc_wire_needed_L1 : SC :=
  (.seq (.reg [.r 10 (.bin .lss (.t 9) (.t 8))])
  (.seq (.cond (.t 10)
    .skip
    (.exit 0))
  (.seq (.block 1 (.seq (.reg [.r 11 (.mv (.t 9)),
       .r 6 (.mv (.t 11))])
    (.seq (.regD [.r 12 (.ldA 5 (.t 2)),
       .r 13 (.mv (.t 1)),
       .r 14 (.mv (.t 6)),
       .r 15 (.sidx (.t 13) (.t 14)),
       .c 16 (.f 58) [.t 12, .t 15]])
    (.cond (.t 16)
      (.reg [.r 17 (.mv (.t 5)),
         .r 18 (.bin .add (.t 17) (.c (.d (.int .i64 1)))),
         .r 5 (.mv (.t 18))])
      .skip))))
  (.reg [.r 19 (.bin .add (.t 9) (.c (.d (.int .i64 1)))),
     .r 9 (.mv (.t 19))]))))
def sc_wire_needed_B1 : SC := .block 0 (.loop sc_wire_needed_L1)
/-- interchange/wire.needed -/
def sc_wire_needed : SC :=
  (.seq (.reg [.r 2 (.boxI (.t 0)),
     .r 4 (.mv (.c (.d (.int .i64 0))))])
  (.seq (.reg [.r 5 (.mv (.c (.d (.int .i64 0))))])
  (.seq (.seq (.reg [.r 7 (.mv (.t 1)),
     .r 8 (.lenT (.t 7)),
     .r 9 (.mv (.c (.d (.int .i64 0))))])
  sc_wire_needed_B1)
  (.seq (.reg [.r 20 (.mv (.t 5)),
     .r 4 (.mv (.t 20))])
  .ret))))
theorem fit_wire_needed : fits Tryz.prog 41 Tryz.f41 sc_wire_needed [.t 4] 2 = true := by kernel_rfl

/-- slices.ContainsFunc[[]string,string] -/
def sc_slices_ContainsFunc_string_string : SC :=
  (.seq (.reg [.r 4 (.mv (.c (.d (.bool false))))])
  (.seq (.reg [.r 5 (.mv (.t 0)),
     .r 6 (.mv (.t 1)),
     .c 7 (.f 57) [.t 5, .t 6],
     .r 8 (.bin .geq (.t 7) (.c (.d (.int .i64 0)))),
     .r 4 (.mv (.t 8))])
  .ret))
theorem fit_slices_ContainsFunc_string_string : fits Tryz.prog 39 Tryz.f39 sc_slices_ContainsFunc_string_string [.t 4] 2 = true := by kernel_rfl

/-- interchange/interchangelaw2.awake -/
def sc_interchangelaw2_awake : SC :=
  (.seq (.reg [.r 0 (.mv (.c (.d (.bool false))))])
  (.seq (.reg [.r 4 (.build [.d (.int .u8 0), .d (.int .u8 0), .d (.int .u8 0), .d (.int .u8 0), .d (.int .u8 0)] [(0, 1, .c (.d (.int .u8 42))), (1, 1, .c (.d (.int .u8 58))), (2, 1, .c (.d (.int .u8 94))), (3, 1, .c (.d (.int .u8 63))), (4, 1, .c (.d (.int .u8 126)))]),
     .c 5 (.f 15) [.t 4],
     .r 3 (.mv (.t 5)),
     .r 6 (.ext (.t 3) 0),
     .r 7 (.ext (.t 3) 1),
     .r 1 (.mv (.t 6)),
     .r 2 (.mv (.t 7))])
  (.seq (.reg (.r 8 (.mv (.t 2)) :: .r 9 (.bin .eql (.t 8) (.c (.d (.int .i64 0)))) :: .r 10 (.mv (.t 9)) :: gapp [11, 12, 13] 10 true (.r 11 (.mv (.t 1)) :: .r 12 (.cvbs (.t 11)) :: .r 13 (.bin .eql (.t 12) (.c (.d (.str [77, 82, 75, 42, 58, 94, 63, 126])))) :: []) (.r 14 (.pick (.t 10) (.t 13) (.c (.d (.bool false)))) :: .r 0 (.mv (.t 14)) :: [])))
  .ret)))
theorem fit_interchangelaw2_awake : fits Tryz.prog 12 Tryz.f12 sc_interchangelaw2_awake [.t 0] 0 = true := by kernel_rfl

set_option maxRecDepth 100000 in
set_option maxHeartbeats 40000000 in
noncomputable def sims_G6_1_0 : (∀ (x0 : List Tapi_Segment) (x1 : Tapi_Marks), {m : Option (Int) // ∀ r, m = some r → PureSpec Tryz.prog 37 [.slice (List.map rTapi_Segment x0), .agg (rTapi_Marks x1)] (.int .i64 r)}) × (∀ (x0 : Tapi_Marks) (x1 : List UInt8), {m : Option (Int) // ∀ r, m = some r → PureSpec Tryz.prog 41 [.agg (rTapi_Marks x0), .str x1] (.int .i64 r)}) × (∀ (x0 : List (List UInt8)) (f1 : FuncId) (c1 : List DV) (p1 : (List UInt8) → Option (Bool)) (h1 : ∀ a0 r, p1 a0 = some r → PureSpec Tryz.prog f1 ([.str a0] ++ c1) (.bool r)), {m : Option (Bool) // ∀ r, m = some r → PureSpec Tryz.prog 39 [.slice (List.map rowS x0), .fn f1 c1] (.bool r)}) × ({m : Option (Bool) // ∀ r, m = some r → PureSpec Tryz.prog 12 [] (.bool r)}) := by
  refine ⟨?g0, ?g1, ?g2, ?g3⟩
  case' g0 => (intro x0 x1; apply Subtype.mk; intro r hm; apply pure_walk Tryz.func37 fit_wire_checkBoth; unfold sc_wire_checkBoth)
  case' g1 => (intro x0 x1; apply Subtype.mk; intro r hm; apply pure_walk Tryz.func41 fit_wire_needed; unfold sc_wire_needed)
  case' g2 => (intro x0 f1 c1 p1 h1; apply Subtype.mk; intro r hm; apply pure_walk Tryz.func39 fit_slices_ContainsFunc_string_string; unfold sc_slices_ContainsFunc_string_string)
  case' g3 => (apply Subtype.mk; intro r hm; apply pure_walk Tryz.func12 fit_interchangelaw2_awake; unfold sc_interchangelaw2_awake)
  all_goals (repeat' (first | with_reducible refine W_seq ?_ | with_reducible refine W_reg ?_ | with_reducible refine W_regD ?_ | with_reducible refine W_block ?_ | with_reducible refine W_skip ?_ | with_reducible refine W_ret ?_ | with_reducible refine W_exit ?_ | with_reducible refine O_nil ?_ | with_reducible refine K_seq ?_ | with_reducible refine K_seqE ?_ | with_reducible refine K_seqR ?_ | with_reducible refine K_block ?_ | with_reducible refine O_o2r ?_ | ((with_reducible apply O_sidxr hm); (iterate 2 (simp only [push_cast, seval]; rfl)); intro e hm) | ((with_reducible apply O_cvbsD); (simp only [push_cast, seval]; rfl)) | ((with_reducible apply O_r); (simp only [push_cast, seval]; rfl); (first | exact trivial)) | ((with_reducible apply O_and hm); (simp only [push_cast, seval]; rfl); rfl; intro v hm; rotate_left; intro v g hm) | ((with_reducible apply O_cF hm); (simp only [push_cast, seval]; rfl); (first | apply spec_wire_CheckSegments _ | apply spec_wire_CheckMarks _ | apply spec_wire_isMark _ _ | apply spec_slices_IndexFunc_string_string _ _ _ _ h1 | apply spec_wire_Heading _); (any_goals ((repeat' (first | rfl | (with_reducible first | apply fT_Tapi_Marks | apply f_agg | apply f_cons) | (with_reducible apply f_byte; decide))); done)); intro x hm) | ((with_reducible apply S_condB hm); (simp only [push_cast, seval]; rfl); intro hm; rotate_left; intro hm) | ((with_reducible apply K_endS hm); (focus (simp only [resOf, resL, RV.get, push_cast, seval]; rfl)); (focus ((repeat' (first | rfl)); done))) | ((with_reducible apply K_bool hm); (simp only [push_cast, seval]; rfl)) | ((with_reducible apply K_leave hm); intro r hm) | ((apply S_loopY (b := 0) (X := sc_wire_needed_B1) (x := sc_wire_needed_L1) rfl (fun (c : SV × SV × SV) (s : Int × Int) => st [(1, c.1), (2, c.2.1), (5, .d (.int .i64 s.1)), (8, c.2.2), (9, .d (.int .i64 s.2))] []) (c := (_, _, _)) (s0 := (_, _)) hm); (focus (first | (dsimp only; done))); (with_reducible refine Then.mk ?_ ?_)) | ((apply K_next (s' := (_, _)) hm); (focus (first | (dsimp only; done)))) | ((apply K_brk (s' := (_, _)) hm); (focus (first | (dsimp only; done)))) | (((with_reducible apply LoopB.of); (focus (first | (dsimp only; done))); (focus ((intro _; repeat' (first | with_reducible exact impC_end | with_reducible refine impC_seq ?_)))); (intro s o hm; first | unfold sc_wire_needed_L1); rotate_left; intro s hm)) | (((apply imp_stT; (repeat' (first | with_reducible exact keepT_nil | with_reducible exact keepC_nil | with_reducible apply keepT_cons | ((with_reducible apply svle_eq); (focus (first | (simp only [push_cast, seval]; rfl))); (focus ((repeat' (first | rfl)); done))))); done)))))
noncomputable def m_wire_checkBoth (x0 : List Tapi_Segment) (x1 : Tapi_Marks) : Option (Int) := (sims_G6_1_0.1 x0 x1).1
theorem spec_wire_checkBoth (x0 : List Tapi_Segment) (x1 : Tapi_Marks) : ∀ r, m_wire_checkBoth x0 x1 = some r → PureSpec Tryz.prog 37 [.slice (List.map rTapi_Segment x0), .agg (rTapi_Marks x1)] (.int .i64 r) := (sims_G6_1_0.1 x0 x1).2
noncomputable def m_wire_needed (x0 : Tapi_Marks) (x1 : List UInt8) : Option (Int) := (sims_G6_1_0.2.1 x0 x1).1
theorem spec_wire_needed (x0 : Tapi_Marks) (x1 : List UInt8) : ∀ r, m_wire_needed x0 x1 = some r → PureSpec Tryz.prog 41 [.agg (rTapi_Marks x0), .str x1] (.int .i64 r) := (sims_G6_1_0.2.1 x0 x1).2
noncomputable def m_slices_ContainsFunc_string_string (x0 : List (List UInt8)) (f1 : FuncId) (c1 : List DV) (p1 : (List UInt8) → Option (Bool)) (h1 : ∀ a0 r, p1 a0 = some r → PureSpec Tryz.prog f1 ([.str a0] ++ c1) (.bool r)) : Option (Bool) := (sims_G6_1_0.2.2.1 x0 f1 c1 p1 h1).1
theorem spec_slices_ContainsFunc_string_string (x0 : List (List UInt8)) (f1 : FuncId) (c1 : List DV) (p1 : (List UInt8) → Option (Bool)) (h1 : ∀ a0 r, p1 a0 = some r → PureSpec Tryz.prog f1 ([.str a0] ++ c1) (.bool r)) : ∀ r, m_slices_ContainsFunc_string_string x0 f1 c1 p1 h1 = some r → PureSpec Tryz.prog 39 [.slice (List.map rowS x0), .fn f1 c1] (.bool r) := (sims_G6_1_0.2.2.1 x0 f1 c1 p1 h1).2
noncomputable def m_interchangelaw2_awake : Option (Bool) := (sims_G6_1_0.2.2.2 ).1
theorem spec_interchangelaw2_awake : ∀ r, m_interchangelaw2_awake  = some r → PureSpec Tryz.prog 12 [] (.bool r) := (sims_G6_1_0.2.2.2 ).2

def sc_interchange_wire_writer_text_L1 : SC :=
  (.seq (.reg [.r 8 (.bin .lss (.t 7) (.t 6))])
  (.seq (.cond (.t 8)
    .skip
    (.exit 0))
  (.seq (.block 1 (.seq (.reg [.r 9 (.mv (.t 7)),
       .r 4 (.mv (.t 9))])
    (.seq (.seq (.regD [.r 10 (.mv (.t 0)),
       .r 11 (.nilc (.t 10)),
       .r 12 (.fld 0 (.t 11)),
       .r 13 (.ldA 5 (.t 12)),
       .r 14 (.mv (.t 1)),
       .r 15 (.mv (.t 4)),
       .r 16 (.sidx (.t 14) (.t 15)),
       .c 17 (.f 58) [.t 13, .t 16]])
    (.cond (.t 17)
      (.seq (.reg (.r 18 (.mv (.t 0)) :: .r 19 (.mv (.t 0)) :: .r 20 (.nilc (.t 19)) :: .r 21 (.fld 9 (.t 20)) :: .o 22 (.ld1 (.t 21)) :: .r 23 (.mv (.t 22)) :: gapp [24, 25, 26, 27, 28, 29] 23 false (.r 24 (.mv (.t 0)) :: .r 25 (.nilc (.t 24)) :: .r 26 (.fld 0 (.t 25)) :: .r 27 (.fld 3 (.t 26)) :: .r 28 (.ld1 (.t 27)) :: .r 29 (.bin .eql (.t 28) (.c (.d (.int .u8 0)))) :: []) (.r 30 (.pick (.t 23) (.c (.d (.bool true))) (.t 29)) :: .r 31 (.nilc (.t 18)) :: .r 32 (.fld 9 (.t 31)) :: .w 0 (.st 1 (.t 32) (.t 30)) :: [])))
      (.regE [.r 33 (.mv (.t 0)),
         .r 34 (.mv (.t 0)),
         .r 35 (.nilc (.t 34)),
         .r 36 (.fld 6 (.t 35)),
         .r 37 (.ld1 (.t 36)),
         .r 38 (.mv (.t 0)),
         .r 39 (.nilc (.t 38)),
         .r 40 (.fld 0 (.t 39)),
         .r 41 (.fld 3 (.t 40)),
         .r 42 (.ld1 (.t 41)),
         .r 43 (.bslice 1 [.t 42]),
         .x 44 (.app 5 1 (.t 37) (.t 43)) [(0, 33, .mv (.t 0))],
         .r 45 (.nilc (.t 33)),
         .r 46 (.fld 6 (.t 45)),
         .x 0 (.st 1 (.t 46) (.t 44)) []]))
      .skip))
    (.regE [.r 47 (.mv (.t 0)),
       .r 48 (.mv (.t 0)),
       .r 49 (.nilc (.t 48)),
       .r 50 (.fld 6 (.t 49)),
       .r 51 (.ld1 (.t 50)),
       .r 52 (.mv (.t 1)),
       .r 53 (.mv (.t 4)),
       .r 54 (.sidx (.t 52) (.t 53)),
       .r 55 (.bslice 1 [.t 54]),
       .x 56 (.app 5 1 (.t 51) (.t 55)) [(0, 47, .mv (.t 0))],
       .r 57 (.nilc (.t 47)),
       .r 58 (.fld 6 (.t 57)),
       .x 0 (.st 1 (.t 58) (.t 56)) []]))))
  (.reg [.r 59 (.bin .add (.t 7) (.c (.d (.int .i64 1)))),
     .r 7 (.mv (.t 59))]))))
def sc_interchange_wire_writer_text_B1 : SC := .block 0 (.loop sc_interchange_wire_writer_text_L1)
/-- (*interchange/wire.writer).text -/
def sc_interchange_wire_writer_text : SC :=
  (.seq (.reg [.r 5 (.mv (.t 1)),
     .r 6 (.lenT (.t 5)),
     .r 7 (.mv (.c (.d (.int .i64 0))))])
  sc_interchange_wire_writer_text_B1)
theorem fit_interchange_wire_writer_text : fits Tryz.prog 56 Tryz.f56 sc_interchange_wire_writer_text [] 2 = true := by kernel_rfl

set_option maxRecDepth 100000 in
set_option maxHeartbeats 40000000 in
noncomputable def sims_G6_1_1 : (∀ (x0 : Twire_writer) (x1 : List UInt8), {m : Option ((Unit) × Twire_writer) // ∀ r, m = some r → FSpec Tryz.prog 56 (.own (.pt [.sh, .sh, .sh, .sh, .sh, .sh, .sl 5 (List.replicate 1 .sh), .sl 100 (List.replicate 6 .sh), .sl 3 (List.replicate 1 .sh), .sh]) (.ptr (rTwire_writer x0)) :: List.map SV.d ([.str x1] : List DV)) (.tup []) (.own (.pt [.sh, .sh, .sh, .sh, .sh, .sh, .sl 5 (List.replicate 1 .sh), .sl 100 (List.replicate 6 .sh), .sl 3 (List.replicate 1 .sh), .sh]) (.ptr (rTwire_writer r.2)) :: List.map SV.d ([.str x1] : List DV))}) := by
  (intro x0 x1; apply Subtype.mk; intro r hm; apply fspec_walk1 (N := 60) (k := 2) Tryz.func56 fit_interchange_wire_writer_text (by kernel_rfl) rfl rfl (by decide); unfold sc_interchange_wire_writer_text)
  repeat' (first | ((with_reducible apply W_openBs (id := 0) (cid := 1006) (off := 6) (n := 1) (e := 5)); (focus (simp only [push_cast, seval]; (try rfl); done)); (focus (simp only [push_cast, seval]; (try rfl); done)); (focus decide); (focus rfl); (focus (intro _; rfl)); (focus (simp only [push_cast, seval]; (try rfl); done))) | ((with_reducible apply W_openBs (id := 0) (cid := 1007) (off := 7) (n := 6) (e := 100)); (focus (simp only [push_cast, seval]; (try rfl); done)); (focus (simp only [push_cast, seval]; (try rfl); done)); (focus decide); (focus rfl); (focus (intro _; rfl)); (focus (simp only [push_cast, seval]; (try rfl); done))) | ((with_reducible apply W_openBs (id := 0) (cid := 1008) (off := 8) (n := 1) (e := 3)); (focus (simp only [push_cast, seval]; (try rfl); done)); (focus (simp only [push_cast, seval]; (try rfl); done)); (focus decide); (focus rfl); (focus (intro _; rfl)); (focus (simp only [push_cast, seval]; (try rfl); done))) | with_reducible refine W_seq ?_ | with_reducible refine W_reg ?_ | with_reducible refine W_regD ?_ | with_reducible refine W_regE ?_ | with_reducible refine W_block ?_ | with_reducible refine W_skip ?_ | with_reducible refine W_exit ?_ | with_reducible refine O_nil ?_ | with_reducible refine K_seq ?_ | with_reducible refine K_seqE ?_ | with_reducible refine K_block ?_ | with_reducible refine O_o2r ?_ | ((with_reducible apply O_sidxr hm); (iterate 2 (simp only [push_cast, seval]; rfl)); intro e hm) | ((with_reducible apply O_r); (simp only [push_cast, seval]; rfl); (first | exact trivial)) | ((with_reducible apply O_or hm); (simp only [push_cast, seval]; rfl); rfl; intro v hm; rotate_left; intro v g hm) | ((with_reducible apply O_cF hm); (simp only [push_cast, seval]; rfl); (first | apply spec_wire_isMark _ _); (any_goals ((repeat' (first | rfl)); done)); intro x hm) | ((with_reducible apply O_w); (simp only [push_cast, seval]; rfl); (first | exact trivial)) | ((with_reducible apply O_appVX hm); (iterate 2 (simp only [push_cast, seval]; rfl)); (focus ((repeat' (first | rfl)); done)); (simp only [push_cast, seval]; rfl); (focus ((repeat' (first | rfl | (with_reducible first | apply eR_nil | apply eR_cons))); done)); (intro _; rfl); (focus ((repeat' (first | exact Rer_nil | ((with_reducible apply Rer_cons); (focus (simp only [push_cast, seval]; rfl)); (focus (first | exact trivial)); (focus (simp only [push_cast, seval]))))); done)); intro hm) | ((with_reducible apply O_x); (simp only [push_cast, seval]; rfl); (first | exact trivial); (focus ((repeat' (first | exact Rer_nil)); done))) | ((with_reducible apply S_condB hm); (simp only [push_cast, seval]; rfl); intro hm; rotate_left; intro hm) | ((with_reducible apply K_bool hm); (simp only [push_cast, seval]; rfl)) | ((with_reducible apply K_leave hm); intro r hm) | ((apply S_loopY (b := 0) (X := sc_interchange_wire_writer_text_B1) (x := sc_interchange_wire_writer_text_L1) rfl (fun (c : SV × SV × SV) (s : Tapi_Marks × Bool × (List UInt8) × (List Twire_place) × (List Int) × Bool × Int) => st [(0, .ref 0 0), (1, c.1), (6, c.2.1), (7, .d (.int .i64 s.2.2.2.2.2.2)), (60, .ref 0 0), (61, c.2.2)] [(1006, .vec 5 1 (vrow rowY s.2.2.1)), (1007, .vec 100 6 (vrow rTwire_place s.2.2.2.1)), (1008, .vec 3 1 (vrow rowI s.2.2.2.2.1)), (0, .box (bT_Twire_writer s.1 s.2.1 1006 1007 1008 s.2.2.2.2.2.1))]) (c := (_, _, _)) (s0 := (_, _, _, _, _, _, _)) hm); (focus (first | (dsimp only; done))); (with_reducible refine Then.mk ?_ ?_)) | ((apply K_next (s' := (_, _, _, _, _, _, _)) hm); (focus (first | (dsimp only; done)))) | ((apply K_brk (s' := (_, _, _, _, _, _, _)) hm); (focus (first | (dsimp only; done)))) | (((with_reducible apply K_endPN (a := ()) hm (ms := [.sh, .sh, .sh, .sh, .sh, .sh, .sl 5 (List.replicate 1 .sh), .sl 100 (List.replicate 6 .sh), .sl 3 (List.replicate 1 .sh), .sh])); (focus ((try ((apply Imp.trans); (focus ((apply imp_closeBs (id := 0) (cid := 1006) (off := 6) (n := 1) (e := 5)); (focus (simp only [push_cast, seval]; (try rfl); done)); (focus (simp only [push_cast, seval]; (try rfl); done)); (focus decide); (focus (simp only [push_cast, seval]; (try rfl); done)); (focus ((repeat' (first | (with_reducible first | apply r_rfl))); done)); (focus (intro _; rfl)); (focus (simp only [push_cast, seval]; (try rfl); done)))))); (try ((apply Imp.trans); (focus ((apply imp_closeBs (id := 0) (cid := 1007) (off := 7) (n := 6) (e := 100)); (focus (simp only [push_cast, seval]; (try rfl); done)); (focus (simp only [push_cast, seval]; (try rfl); done)); (focus decide); (focus (simp only [push_cast, seval]; (try rfl); done)); (focus ((repeat' (first | (with_reducible first | apply r_rfl))); done)); (focus (intro _; rfl)); (focus (simp only [push_cast, seval]; (try rfl); done)))))); (try ((apply Imp.trans); (focus ((apply imp_closeBs (id := 0) (cid := 1008) (off := 8) (n := 1) (e := 3)); (focus (simp only [push_cast, seval]; (try rfl); done)); (focus (simp only [push_cast, seval]; (try rfl); done)); (focus decide); (focus (simp only [push_cast, seval]; (try rfl); done)); (focus ((repeat' (first | (with_reducible first | apply r_rfl))); done)); (focus (intro _; rfl)); (focus (simp only [push_cast, seval]; (try rfl); done)))))); exact Imp.refl _)); (focus (simp only [push_cast, seval]; (try rfl); done)); (focus ((repeat' (first | (with_reducible first | apply oT_Twire_writer | apply cT_Tapi_Marks) | ((with_reducible apply svle_eq); (focus (first | rfl)); (focus ((repeat' (first | rfl)); done))) | ((with_reducible apply cle_own); (focus rfl); (focus ((repeat' (first | rfl)); done))))); done)); (focus (intro _; rfl)); (focus (simp only [push_cast, seval]; (try rfl); done)); (focus (simp only [push_cast, seval]; (try rfl); done)); (focus (simp only [push_cast, seval]; (try rfl); done)); (focus (simp only [push_cast, seval]; (try rfl); done)); (focus (first | exact he_0)))) | (((with_reducible apply LoopB.of); (focus (first | (dsimp only; done))); (focus ((intro _; repeat' (first | with_reducible exact impC_endF)))); (intro s o hm; first | unfold sc_interchange_wire_writer_text_L1); rotate_left; intro s hm)) | (((apply imp_stT; (repeat' (first | with_reducible exact keepT_nil | with_reducible exact keepC_nil | with_reducible apply keepT_cons | with_reducible apply keepC_cons | ((with_reducible apply svle_eq); (focus (first | (simp only [push_cast, seval]; rfl))); (focus ((repeat' (first | rfl)); done))) | ((with_reducible apply chle_eq); (focus (first | (simp only [push_cast, seval]; rfl))); (first | with_reducible exact chle_rfl rfl)))); done))))
noncomputable def m_interchange_wire_writer_text (x0 : Twire_writer) (x1 : List UInt8) : Option ((Unit) × Twire_writer) := (sims_G6_1_1 x0 x1).1
theorem spec_interchange_wire_writer_text (x0 : Twire_writer) (x1 : List UInt8) : ∀ r, m_interchange_wire_writer_text x0 x1 = some r → FSpec Tryz.prog 56 (.own (.pt [.sh, .sh, .sh, .sh, .sh, .sh, .sl 5 (List.replicate 1 .sh), .sl 100 (List.replicate 6 .sh), .sl 3 (List.replicate 1 .sh), .sh]) (.ptr (rTwire_writer x0)) :: List.map SV.d ([.str x1] : List DV)) (.tup []) (.own (.pt [.sh, .sh, .sh, .sh, .sh, .sh, .sl 5 (List.replicate 1 .sh), .sl 100 (List.replicate 6 .sh), .sl 3 (List.replicate 1 .sh), .sh]) (.ptr (rTwire_writer r.2)) :: List.map SV.d ([.str x1] : List DV)) := (sims_G6_1_1 x0 x1).2

def sc_interchange_interchangeref2_writer_part_L1 : SC :=
  (.seq (.seq (.reg [.r 36 (.mv (.t 11)),
     .r 37 (.mv (.t 4)),
     .r 38 (.lenT (.t 37)),
     .r 39 (.bin .lss (.t 36) (.t 38))])
  (.cond (.t 39)
    .skip
    (.exit 0)))
  (.seq (.block 1 (.seq (.seq (.regD [.r 42 (.mv (.t 0)),
       .r 43 (.nilc (.t 42)),
       .r 44 (.fld 0 (.t 43)),
       .r 45 (.ldA 5 (.t 44)),
       .r 46 (.mv (.t 4)),
       .r 47 (.mv (.t 11)),
       .r 48 (.sidx (.t 46) (.t 47)),
       .c 49 (.f 85) [.t 45, .t 48]])
    (.cond (.t 49)
      (.seq (.reg [.r 50 (.mv (.t 0)),
         .r 51 (.nilc (.t 50)),
         .r 52 (.fld 7 (.t 51)),
         .o 53 (.ld1 (.t 52)),
         .r 54 (.bin .add (.t 53) (.c (.d (.int .i64 1)))),
         .r 55 (.nilc (.t 50)),
         .r 56 (.fld 7 (.t 55)),
         .w 0 (.st 1 (.t 56) (.t 54))])
      (.seq (.reg [.r 57 (.mv (.t 0)),
         .r 58 (.nilc (.t 57)),
         .r 59 (.fld 0 (.t 58)),
         .r 60 (.fld 3 (.t 59)),
         .o 61 (.ld1 (.t 60)),
         .r 62 (.bin .neq (.t 61) (.c (.d (.int .u8 0))))])
      (.cond (.t 62)
        (.regE [.r 63 (.mv (.t 0)),
           .r 64 (.mv (.t 0)),
           .r 65 (.nilc (.t 64)),
           .r 66 (.fld 5 (.t 65)),
           .r 67 (.ld1 (.t 66)),
           .r 68 (.mv (.t 0)),
           .r 69 (.nilc (.t 68)),
           .r 70 (.fld 0 (.t 69)),
           .r 71 (.fld 3 (.t 70)),
           .r 72 (.ld1 (.t 71)),
           .r 73 (.bslice 1 [.t 72]),
           .x 74 (.app 5 1 (.t 67) (.t 73)) [(0, 63, .mv (.t 0))],
           .r 75 (.nilc (.t 63)),
           .r 76 (.fld 5 (.t 75)),
           .x 0 (.st 1 (.t 76) (.t 74)) []])
        .skip)))
      .skip))
    (.regE [.r 77 (.mv (.t 0)),
       .r 78 (.mv (.t 0)),
       .r 79 (.nilc (.t 78)),
       .r 80 (.fld 5 (.t 79)),
       .r 81 (.ld1 (.t 80)),
       .r 82 (.mv (.t 4)),
       .r 83 (.mv (.t 11)),
       .r 84 (.sidx (.t 82) (.t 83)),
       .r 85 (.bslice 1 [.t 84]),
       .x 86 (.app 5 1 (.t 81) (.t 85)) [(0, 77, .mv (.t 0))],
       .r 87 (.nilc (.t 77)),
       .r 88 (.fld 5 (.t 87)),
       .x 0 (.st 1 (.t 88) (.t 86)) []])))
  (.reg [.r 40 (.mv (.t 11)),
     .r 41 (.bin .add (.t 40) (.c (.d (.int .i64 1)))),
     .r 11 (.mv (.t 41))])))
def sc_interchange_interchangeref2_writer_part_B1 : SC := .block 0 (.loop sc_interchange_interchangeref2_writer_part_L1)
/-- (*interchange/interchangeref2.writer).part -/
def sc_interchange_interchangeref2_writer_part : SC :=
  (.seq (.reg [.r 7 (.boxI (.t 2))])
  (.seq (.regE [.r 12 (.mv (.t 1)),
     .r 13 (.ldA 3 (.t 7)),
     .r 14 (.mv (.t 0)),
     .r 15 (.nilc (.t 14)),
     .r 16 (.fld 5 (.t 15)),
     .r 17 (.ld1 (.t 16)),
     .r 18 (.len (.t 17)),
     .r 19 (.build [.d (.int .i64 0), .d (.int .i64 0), .d (.int .i64 0), .d (.int .i64 0), .d (.int .i64 0), .d (.int .i64 0), .d (.int .i64 0)] [(0, 1, .t 12), (1, 3, .t 13), (4, 1, .t 18)]),
     .x 10 (.boxM (.c (.agg [.d (.int .i64 0), .d (.int .i64 0), .d (.int .i64 0), .d (.int .i64 0), .d (.int .i64 0), .d (.int .i64 0), .d (.int .i64 0)]))) [(0, 12, .mv (.t 1)), (1, 13, .ldA 3 (.t 7)), (2, 14, .mv (.t 0)), (3, 15, .nilc (.t 14)), (4, 16, .fld 5 (.t 15)), (5, 17, .ld1 (.t 16)), (6, 18, .len (.t 17)), (7, 19, .build [.d (.int .i64 0), .d (.int .i64 0), .d (.int .i64 0), .d (.int .i64 0), .d (.int .i64 0), .d (.int .i64 0), .d (.int .i64 0)] [(0, 1, .t 12), (1, 3, .t 13), (4, 1, .t 18)])],
     .x 0 (.st 7 (.t 10) (.t 19)) []])
  (.seq (.reg [.r 20 (.mv (.t 0)),
     .r 21 (.mv (.t 0)),
     .r 22 (.nilc (.t 21)),
     .r 23 (.fld 5 (.t 22)),
     .o 24 (.ld1 (.t 23)),
     .r 25 (.mv (.t 3)),
     .r 26 (.bslice 1 [.t 25]),
     .w 27 (.app 5 1 (.t 24) (.t 26)),
     .r 28 (.nilc (.t 20)),
     .r 29 (.fld 5 (.t 28)),
     .w 0 (.st 1 (.t 29) (.t 27))])
  (.seq (.reg [.r 30 (.mv (.t 0)),
     .r 31 (.nilc (.t 30)),
     .r 32 (.fld 5 (.t 31)),
     .o 33 (.ld1 (.t 32)),
     .r 34 (.len (.t 33)),
     .r 35 (.fld 5 (.t 10)),
     .w 0 (.st 1 (.t 35) (.t 34))])
  (.seq (.seq (.reg [.r 11 (.mv (.c (.d (.int .i64 0))))])
  sc_interchange_interchangeref2_writer_part_B1)
  (.seq (.reg [.r 89 (.mv (.t 0)),
     .r 90 (.nilc (.t 89)),
     .r 91 (.fld 5 (.t 90)),
     .o 92 (.ld1 (.t 91)),
     .r 93 (.len (.t 92)),
     .r 94 (.fld 6 (.t 10)),
     .w 0 (.st 1 (.t 94) (.t 93))])
  (.regE [.r 95 (.mv (.t 0)),
     .r 96 (.mv (.t 0)),
     .r 97 (.nilc (.t 96)),
     .r 98 (.fld 6 (.t 97)),
     .r 99 (.ld1 (.t 98)),
     .r 100 (.ldA 7 (.t 10)),
     .r 101 (.bslice 7 [.t 100]),
     .x 102 (.app 104 7 (.t 99) (.t 101)) [(0, 95, .mv (.t 0))],
     .r 103 (.nilc (.t 95)),
     .r 104 (.fld 6 (.t 103)),
     .x 0 (.st 1 (.t 104) (.t 102)) []])))))))
theorem fit_interchange_interchangeref2_writer_part : fits Tryz.prog 59 Tryz.f59 sc_interchange_interchangeref2_writer_part [] 5 = true := by kernel_rfl

set_option maxRecDepth 100000 in
set_option maxHeartbeats 40000000 in
noncomputable def sims_G6_1_2 : (∀ (x0 : Tinterchangeref2_writer) (x1 : Int) (x2 : Tapi_Spot) (x3 : UInt8) (x4 : List UInt8), {m : Option ((Unit) × Tinterchangeref2_writer) // ∀ r, m = some r → FSpec Tryz.prog 59 (.own (.pt [.sh, .sh, .sh, .sh, .sh, .sl 5 (List.replicate 1 .sh), .sl 104 (List.replicate 7 .sh), .sh]) (.ptr (rTinterchangeref2_writer x0)) :: List.map SV.d ([.int .i64 x1, .agg (rTapi_Spot x2), .int .u8 (x3).toNat, .str x4] : List DV)) (.tup []) (.own (.pt [.sh, .sh, .sh, .sh, .sh, .sl 5 (List.replicate 1 .sh), .sl 104 (List.replicate 7 .sh), .sh]) (.ptr (rTinterchangeref2_writer r.2)) :: List.map SV.d ([.int .i64 x1, .agg (rTapi_Spot x2), .int .u8 (x3).toNat, .str x4] : List DV))}) := by
  (intro x0 x1 x2 x3 x4; apply Subtype.mk; intro r hm; apply fspec_walk1 (N := 105) (k := 5) Tryz.func59 fit_interchange_interchangeref2_writer_part (by kernel_rfl) rfl rfl (by decide); unfold sc_interchange_interchangeref2_writer_part)
  repeat' (first | ((with_reducible apply W_openBs (id := 0) (cid := 1005) (off := 5) (n := 1) (e := 5)); (focus (simp only [push_cast, seval]; (try rfl); done)); (focus (simp only [push_cast, seval]; (try rfl); done)); (focus decide); (focus rfl); (focus (intro _; rfl)); (focus (simp only [push_cast, seval]; (try rfl); done))) | ((with_reducible apply W_openBs (id := 0) (cid := 1006) (off := 6) (n := 7) (e := 104)); (focus (simp only [push_cast, seval]; (try rfl); done)); (focus (simp only [push_cast, seval]; (try rfl); done)); (focus decide); (focus rfl); (focus (intro _; rfl)); (focus (simp only [push_cast, seval]; (try rfl); done))) | with_reducible refine W_seq ?_ | with_reducible refine W_reg ?_ | with_reducible refine W_regD ?_ | with_reducible refine W_regE ?_ | with_reducible refine W_block ?_ | with_reducible refine W_skip ?_ | with_reducible refine W_exit ?_ | with_reducible refine O_nil ?_ | with_reducible refine K_seq ?_ | with_reducible refine K_seqE ?_ | with_reducible refine K_block ?_ | with_reducible refine O_o2r ?_ | ((with_reducible apply O_sidxr hm); (iterate 2 (simp only [push_cast, seval]; rfl)); intro e hm) | ((with_reducible apply O_r); (simp only [push_cast, seval]; rfl); (first | exact trivial)) | ((with_reducible apply O_cF hm); (simp only [push_cast, seval]; rfl); (first | apply spec_interchangeref2_isMark _ _); (any_goals ((repeat' (first | rfl)); done)); intro x hm) | ((with_reducible apply O_w); (simp only [push_cast, seval]; rfl); (first | exact trivial)) | ((with_reducible apply O_appV hm); (iterate 4 (simp only [push_cast, seval]; rfl)); (focus ((repeat' (first | rfl | (with_reducible first | apply dv_slice | apply fold_nil | apply fold_cons))); done)); decide; (intro _; rfl); intro hm) | ((with_reducible apply O_appVX hm); (iterate 2 (simp only [push_cast, seval]; rfl)); (focus ((repeat' (first | rfl)); done)); (simp only [push_cast, seval]; rfl); (focus ((repeat' (first | rfl | (with_reducible first | apply eR_nil | apply eR_cons))); done)); (intro _; rfl); (focus ((repeat' (first | exact Rer_nil | ((with_reducible apply Rer_cons); (focus (simp only [push_cast, seval]; rfl)); (focus (first | exact trivial)); (focus (simp only [push_cast, seval]))))); done)); intro hm) | ((with_reducible apply O_appX2 hm); (iterate 4 (simp only [push_cast, seval]; rfl)); rfl; (focus ((repeat' (first | exact Rer_nil | ((with_reducible apply Rer_cons); (focus (simp only [push_cast, seval]; rfl)); (focus (first | exact trivial)); (focus (simp only [push_cast, seval]))))); done)); intro hm) | ((with_reducible apply O_x); (simp only [push_cast, seval]; rfl); (first | exact trivial); (focus ((repeat' (first | exact Rer_nil | ((with_reducible apply Rer_cons); (focus (simp only [push_cast, seval]; rfl)); (focus (first | exact trivial)); (focus (simp only [push_cast, seval]))))); done))) | ((with_reducible apply S_condB hm); (simp only [push_cast, seval]; rfl); intro hm; rotate_left; intro hm) | ((with_reducible apply K_leave hm); intro r hm) | ((apply S_loopY (b := 0) (X := sc_interchange_interchangeref2_writer_part_B1) (x := sc_interchange_interchangeref2_writer_part_L1) rfl (fun (c : SV × Ch × SV × SV × SV × SV) (s : Tapi_Marks × (List UInt8) × (List Tinterchangeref2_piece) × Int × Int) => st [(0, .ref 0 0), (4, c.1), (10, .ref 10 0), (11, .d (.int .i64 s.2.2.2.2)), (105, .ref 0 0), (106, c.2.2.1), (107, c.2.2.2.1), (108, c.2.2.2.2.1), (109, c.2.2.2.2.2)] [(1005, .vec 5 1 (vrow rowY s.2.1)), (1006, .vec 104 7 (vrow rTinterchangeref2_piece s.2.2.1)), (0, .box (bT_Tinterchangeref2_writer s.1 1005 1006 s.2.2.2.1)), (10, c.2.1)]) (c := (_, _, _, _, _, _)) (s0 := (_, _, _, _, _)) hm); (focus (first | (dsimp only; done))); (with_reducible refine Then.mk ?_ ?_)) | ((apply K_next (s' := (_, _, _, _, _)) hm); (focus (first | (dsimp only; done)))) | ((apply K_brk (s' := (_, _, _, _, _)) hm); (focus (first | (dsimp only; done)))) | (((with_reducible apply K_endPN (a := ()) hm (ms := [.sh, .sh, .sh, .sh, .sh, .sl 5 (List.replicate 1 .sh), .sl 104 (List.replicate 7 .sh), .sh])); (focus ((try ((apply Imp.trans); (focus ((apply imp_closeBs (id := 0) (cid := 1005) (off := 5) (n := 1) (e := 5)); (focus (simp only [push_cast, seval]; (try rfl); done)); (focus (simp only [push_cast, seval]; (try rfl); done)); (focus decide); (focus (simp only [push_cast, seval]; (try rfl); done)); (focus ((repeat' (first | (with_reducible first | apply r_rfl))); done)); (focus (intro _; rfl)); (focus (simp only [push_cast, seval]; (try rfl); done)))))); (try ((apply Imp.trans); (focus ((apply imp_closeBs (id := 0) (cid := 1006) (off := 6) (n := 7) (e := 104)); (focus (simp only [push_cast, seval]; (try rfl); done)); (focus (simp only [push_cast, seval]; (try rfl); done)); (focus decide); (focus (simp only [push_cast, seval]; (try rfl); done)); (focus ((repeat' (first | (with_reducible first | apply cT_Tapi_Spot | apply cT_Tinterchangeref2_piece | apply r_rfl | apply r_nil | apply r_app | apply r_cons) | ((with_reducible apply svle_rfl); (focus ((repeat' (first | rfl)); done))))); done)); (focus (intro _; rfl)); (focus (simp only [push_cast, seval]; (try rfl); done)))))); exact Imp.refl _)); (focus (simp only [push_cast, seval]; (try rfl); done)); (focus ((repeat' (first | (with_reducible first | apply oT_Tinterchangeref2_writer | apply cT_Tapi_Marks) | ((with_reducible apply svle_eq); (focus (first | rfl)); (focus ((repeat' (first | rfl)); done))) | ((with_reducible apply cle_own); (focus rfl); (focus ((repeat' (first | rfl)); done))))); done)); (focus (intro _; rfl)); (focus (simp only [push_cast, seval]; (try rfl); done)); (focus (simp only [push_cast, seval]; (try rfl); done)); (focus (simp only [push_cast, seval]; (try rfl); done)); (focus (simp only [push_cast, seval]; (try rfl); done)); (focus (first | exact he_0)))) | (((with_reducible apply LoopB.of); (focus (first | (dsimp only; done))); (focus ((intro _; repeat' (first | with_reducible exact impC_endF | with_reducible refine impC_seq ?_)))); (intro s o hm; first | unfold sc_interchange_interchangeref2_writer_part_L1); rotate_left; intro s hm)) | (((apply imp_stT; (repeat' (first | with_reducible exact keepT_nil | with_reducible exact keepC_nil | with_reducible apply keepT_cons | with_reducible apply keepC_cons | ((with_reducible apply svle_eq); (focus (first | (simp only [push_cast, seval]; rfl))); (focus ((repeat' (first | rfl)); done))) | ((with_reducible apply chle_eq); (focus (first | (simp only [push_cast, seval]; rfl))); (first | with_reducible exact chle_rfl rfl)))); done))))
noncomputable def m_interchange_interchangeref2_writer_part (x0 : Tinterchangeref2_writer) (x1 : Int) (x2 : Tapi_Spot) (x3 : UInt8) (x4 : List UInt8) : Option ((Unit) × Tinterchangeref2_writer) := (sims_G6_1_2 x0 x1 x2 x3 x4).1
theorem spec_interchange_interchangeref2_writer_part (x0 : Tinterchangeref2_writer) (x1 : Int) (x2 : Tapi_Spot) (x3 : UInt8) (x4 : List UInt8) : ∀ r, m_interchange_interchangeref2_writer_part x0 x1 x2 x3 x4 = some r → FSpec Tryz.prog 59 (.own (.pt [.sh, .sh, .sh, .sh, .sh, .sl 5 (List.replicate 1 .sh), .sl 104 (List.replicate 7 .sh), .sh]) (.ptr (rTinterchangeref2_writer x0)) :: List.map SV.d ([.int .i64 x1, .agg (rTapi_Spot x2), .int .u8 (x3).toNat, .str x4] : List DV)) (.tup []) (.own (.pt [.sh, .sh, .sh, .sh, .sh, .sl 5 (List.replicate 1 .sh), .sl 104 (List.replicate 7 .sh), .sh]) (.ptr (rTinterchangeref2_writer r.2)) :: List.map SV.d ([.int .i64 x1, .agg (rTapi_Spot x2), .int .u8 (x3).toNat, .str x4] : List DV)) := (sims_G6_1_2 x0 x1 x2 x3 x4).2

/-- interchange/wire.written$1 -/
def sc_wire_written_1 : SC :=
  (.seq (.reg [.r 3 (.mv (.c (.d (.bool false))))])
  (.seq (.reg [.o 4 (.ldA 5 (.t 1)),
     .r 5 (.mv (.t 0)),
     .c 6 (.f 41) [.t 4, .t 5],
     .r 7 (.bin .gtr (.t 6) (.c (.d (.int .i64 0)))),
     .r 3 (.mv (.t 7))])
  .ret))
theorem fit_wire_written_1 : fits Tryz.prog 40 Tryz.f40 sc_wire_written_1 [.t 3] 2 = true := by kernel_rfl

set_option maxRecDepth 100000 in
set_option maxHeartbeats 40000000 in
noncomputable def sims_G6_2_0 : (∀ (x0 : List UInt8) (y0 : Tapi_Marks), {m : Option (Bool) // ∀ r, m = some r → PureSpec Tryz.prog 40 [.str x0, .ptr (rTapi_Marks y0)] (.bool r)}) := by
  (intro x0 y0; apply Subtype.mk; intro r hm; apply pure_walk Tryz.func40 fit_wire_written_1; unfold sc_wire_written_1)
  repeat' (first | with_reducible refine W_seq ?_ | with_reducible refine W_reg ?_ | with_reducible refine W_ret ?_ | with_reducible refine O_nil ?_ | with_reducible refine K_seq ?_ | with_reducible refine O_o2r ?_ | ((with_reducible apply O_r); (simp only [push_cast, seval]; rfl); (first | exact trivial)) | ((with_reducible apply O_cF hm); (simp only [push_cast, seval]; rfl); (first | apply spec_wire_needed _ _); (any_goals ((repeat' (first | rfl)); done)); intro x hm) | ((with_reducible apply K_endS hm); (focus (simp only [resOf, resL, RV.get, push_cast, seval]; rfl)); (focus ((repeat' (first | rfl)); done))))
noncomputable def m_wire_written_1 (x0 : List UInt8) (y0 : Tapi_Marks) : Option (Bool) := (sims_G6_2_0 x0 y0).1
theorem spec_wire_written_1 (x0 : List UInt8) (y0 : Tapi_Marks) : ∀ r, m_wire_written_1 x0 y0 = some r → PureSpec Tryz.prog 40 [.str x0, .ptr (rTapi_Marks y0)] (.bool r) := (sims_G6_2_0 x0 y0).2

def sc_interchange_wire_writer_segment_L1 : SC :=
  (.seq (.reg [.r 62 (.bin .lss (.t 61) (.t 60))])
  (.seq (.cond (.t 62)
    .skip
    (.exit 4))
  (.seq (.block 5 (.seq (.reg [.r 63 (.mv (.t 61)),
       .r 64 (.idx 1 (.t 59) (.t 61)),
       .o 65 (.ld1 (.t 64)),
       .r 11 (.mv (.t 63)),
       .r 12 (.mv (.t 65))])
    (.seq (.reg [.r 66 (.mv (.t 0)),
       .r 67 (.mv (.t 0)),
       .r 68 (.nilc (.t 67)),
       .r 69 (.fld 6 (.t 68)),
       .o 70 (.ld1 (.t 69)),
       .r 71 (.mv (.t 8)),
       .r 72 (.bslice 1 [.t 71]),
       .w 73 (.app 5 1 (.t 70) (.t 72)),
       .r 74 (.nilc (.t 66)),
       .r 75 (.fld 6 (.t 74)),
       .w 0 (.st 1 (.t 75) (.t 73))])
    (.seq (.reg [.r 76 (.mv (.t 0)),
       .r 77 (.nilc (.t 76)),
       .r 78 (.fld 6 (.t 77)),
       .o 79 (.ld1 (.t 78)),
       .r 80 (.len (.t 79)),
       .r 13 (.mv (.t 80))])
    (.seq (.reg [.r 81 (.mv (.t 0)),
       .r 82 (.mv (.t 12)),
       .p (some 83) (.f 56) [.t 81, .t 82]])
    (.seq (.regE [.r 84 (.mv (.t 0)),
       .r 85 (.mv (.t 0)),
       .r 86 (.nilc (.t 85)),
       .r 87 (.fld 7 (.t 86)),
       .r 88 (.ld1 (.t 87)),
       .r 89 (.mv (.t 1)),
       .r 90 (.mv (.t 6)),
       .r 91 (.bin .add (.t 90) (.c (.d (.int .i64 1)))),
       .r 92 (.mv (.t 9)),
       .r 93 (.bin .add (.t 92) (.c (.d (.int .i64 1)))),
       .r 94 (.mv (.t 11)),
       .r 95 (.bin .add (.t 94) (.c (.d (.int .i64 1)))),
       .r 96 (.build [.d (.int .i64 0), .d (.int .i64 0), .d (.int .i64 0)] [(0, 1, .t 91), (1, 1, .t 93), (2, 1, .t 95)]),
       .r 97 (.mv (.t 13)),
       .r 98 (.mv (.t 0)),
       .r 99 (.nilc (.t 98)),
       .r 100 (.fld 6 (.t 99)),
       .r 101 (.ld1 (.t 100)),
       .r 102 (.len (.t 101)),
       .r 103 (.build [.d (.int .i64 0), .d (.int .i64 0), .d (.int .i64 0), .d (.int .i64 0), .d (.int .i64 0), .d (.int .i64 0)] [(0, 1, .t 89), (1, 3, .t 96), (4, 1, .t 97), (5, 1, .t 102)]),
       .r 104 (.bslice 6 [.t 103]),
       .x 105 (.app 100 6 (.t 88) (.t 104)) [(0, 84, .mv (.t 0))],
       .r 106 (.nilc (.t 84)),
       .r 107 (.fld 7 (.t 106)),
       .x 0 (.st 1 (.t 107) (.t 105)) []])
    (.reg [.r 108 (.mv (.t 0)),
       .r 109 (.nilc (.t 108)),
       .r 110 (.fld 0 (.t 109)),
       .r 111 (.fld 1 (.t 110)),
       .o 112 (.ld1 (.t 111)),
       .r 8 (.mv (.t 112))])))))))
  (.reg [.r 113 (.bin .add (.t 61) (.c (.d (.int .i64 1)))),
     .r 61 (.mv (.t 113))]))))
def sc_interchange_wire_writer_segment_B1 : SC := .block 4 (.loop sc_interchange_wire_writer_segment_L1)
def sc_interchange_wire_writer_segment_L2 : SC :=
  (.seq (.reg [.r 55 (.bin .lss (.t 54) (.t 53))])
  (.seq (.cond (.t 55)
    .skip
    (.exit 2))
  (.seq (.block 3 (.seq (.reg [.r 56 (.mv (.t 54)),
       .r 57 (.idx 1 (.t 52) (.t 54)),
       .o 58 (.ld1 (.t 57)),
       .r 9 (.mv (.t 56)),
       .r 10 (.mv (.t 58))])
    (.seq (.seq (.reg [.r 59 (.mv (.t 10)),
       .r 60 (.len (.t 59)),
       .r 61 (.mv (.c (.d (.int .i64 0))))])
    sc_interchange_wire_writer_segment_B1)
    (.reg [.r 114 (.mv (.t 0)),
       .r 115 (.nilc (.t 114)),
       .r 116 (.fld 0 (.t 115)),
       .r 117 (.fld 2 (.t 116)),
       .o 118 (.ld1 (.t 117)),
       .r 8 (.mv (.t 118))]))))
  (.reg [.r 119 (.bin .add (.t 54) (.c (.d (.int .i64 1)))),
     .r 54 (.mv (.t 119))]))))
def sc_interchange_wire_writer_segment_B2 : SC := .block 2 (.loop sc_interchange_wire_writer_segment_L2)
def sc_interchange_wire_writer_segment_L3 : SC :=
  (.seq (.reg [.r 42 (.bin .lss (.t 41) (.t 40))])
  (.seq (.cond (.t 42)
    .skip
    (.exit 0))
  (.seq (.block 1 (.seq (.reg [.r 43 (.mv (.t 41)),
       .r 44 (.idx 1 (.t 39) (.t 41)),
       .o 45 (.ldA 1 (.t 44)),
       .w 7 (.boxM (.c (.agg [.nils]))),
       .r 6 (.mv (.t 43)),
       .w 0 (.st 1 (.t 7) (.t 45))])
    (.seq (.reg [.r 46 (.mv (.t 0)),
       .r 47 (.nilc (.t 46)),
       .r 48 (.fld 0 (.t 47)),
       .r 49 (.fld 0 (.t 48)),
       .o 50 (.ld1 (.t 49)),
       .r 8 (.mv (.t 50))])
    (.seq (.reg [.r 51 (.fld 0 (.t 7)),
       .o 52 (.ld1 (.t 51)),
       .r 53 (.len (.t 52)),
       .r 54 (.mv (.c (.d (.int .i64 0))))])
    sc_interchange_wire_writer_segment_B2))))
  (.reg [.r 120 (.bin .add (.t 41) (.c (.d (.int .i64 1)))),
     .r 41 (.mv (.t 120))]))))
def sc_interchange_wire_writer_segment_B3 : SC := .block 0 (.loop sc_interchange_wire_writer_segment_L3)
/-- (*interchange/wire.writer).segment -/
def sc_interchange_wire_writer_segment : SC :=
  (.seq (.reg [.r 5 (.boxI (.t 2))])
  (.seq (.regE [.r 14 (.mv (.t 0)),
     .r 15 (.mv (.t 0)),
     .r 16 (.nilc (.t 15)),
     .r 17 (.fld 8 (.t 16)),
     .r 18 (.ld1 (.t 17)),
     .r 19 (.mv (.t 0)),
     .r 20 (.nilc (.t 19)),
     .r 21 (.fld 6 (.t 20)),
     .r 22 (.ld1 (.t 21)),
     .r 23 (.len (.t 22)),
     .r 24 (.bslice 1 [.t 23]),
     .x 25 (.app 3 1 (.t 18) (.t 24)) [(0, 14, .mv (.t 0))],
     .r 26 (.nilc (.t 14)),
     .r 27 (.fld 8 (.t 26)),
     .x 0 (.st 1 (.t 27) (.t 25)) []])
  (.seq (.regE [.r 28 (.mv (.t 0)),
     .r 29 (.mv (.t 0)),
     .r 30 (.nilc (.t 29)),
     .r 31 (.fld 6 (.t 30)),
     .r 32 (.ld1 (.t 31)),
     .r 33 (.fld 0 (.t 5)),
     .r 34 (.ld1 (.t 33)),
     .x 35 (.appS 5 (.t 32) (.t 34)) [(0, 28, .mv (.t 0))],
     .r 36 (.nilc (.t 28)),
     .r 37 (.fld 6 (.t 36)),
     .x 0 (.st 1 (.t 37) (.t 35)) []])
  (.seq (.seq (.reg [.r 38 (.fld 1 (.t 5)),
     .o 39 (.ld1 (.t 38)),
     .r 40 (.len (.t 39)),
     .r 41 (.mv (.c (.d (.int .i64 0))))])
  sc_interchange_wire_writer_segment_B3)
  (.seq (.regE [.r 121 (.mv (.t 0)),
     .r 122 (.mv (.t 0)),
     .r 123 (.nilc (.t 122)),
     .r 124 (.fld 6 (.t 123)),
     .r 125 (.ld1 (.t 124)),
     .r 126 (.mv (.t 0)),
     .r 127 (.nilc (.t 126)),
     .r 128 (.fld 0 (.t 127)),
     .r 129 (.fld 4 (.t 128)),
     .r 130 (.ld1 (.t 129)),
     .r 131 (.bslice 1 [.t 130]),
     .x 132 (.app 5 1 (.t 125) (.t 131)) [(0, 121, .mv (.t 0))],
     .r 133 (.nilc (.t 121)),
     .r 134 (.fld 6 (.t 133)),
     .x 0 (.st 1 (.t 134) (.t 132)) []])
  (.seq (.reg [.r 135 (.mv (.t 0)),
     .r 136 (.nilc (.t 135)),
     .r 137 (.fld 5 (.t 136)),
     .o 138 (.ld1 (.t 137))])
  (.cond (.t 138)
    (.reg [.r 139 (.mv (.t 0)),
       .r 140 (.mv (.t 0)),
       .r 141 (.nilc (.t 140)),
       .r 142 (.fld 6 (.t 141)),
       .o 143 (.ld1 (.t 142)),
       .r 144 (.bslice 1 [.c (.d (.int .u8 10))]),
       .w 145 (.app 5 1 (.t 143) (.t 144)),
       .r 146 (.nilc (.t 139)),
       .r 147 (.fld 6 (.t 146)),
       .w 0 (.st 1 (.t 147) (.t 145))])
    .skip)))))))
theorem fit_interchange_wire_writer_segment : fits Tryz.prog 38 Tryz.f38 sc_interchange_wire_writer_segment [] 3 = true := by kernel_rfl

set_option maxRecDepth 100000 in
set_option maxHeartbeats 40000000 in
noncomputable def sims_G6_2_1 : (∀ (x0 : Twire_writer) (x1 : Int) (x2 : Tapi_Segment), {m : Option ((Unit) × Twire_writer) // ∀ r, m = some r → FSpec Tryz.prog 38 (.own (.pt [.sh, .sh, .sh, .sh, .sh, .sh, .sl 5 (List.replicate 1 .sh), .sl 100 (List.replicate 6 .sh), .sl 3 (List.replicate 1 .sh), .sh]) (.ptr (rTwire_writer x0)) :: List.map SV.d ([.int .i64 x1, .agg (rTapi_Segment x2)] : List DV)) (.tup []) (.own (.pt [.sh, .sh, .sh, .sh, .sh, .sh, .sl 5 (List.replicate 1 .sh), .sl 100 (List.replicate 6 .sh), .sl 3 (List.replicate 1 .sh), .sh]) (.ptr (rTwire_writer r.2)) :: List.map SV.d ([.int .i64 x1, .agg (rTapi_Segment x2)] : List DV))}) := by
  (intro x0 x1 x2; apply Subtype.mk; intro r hm; apply fspec_walk1 (N := 148) (k := 3) Tryz.func38 fit_interchange_wire_writer_segment (by kernel_rfl) rfl rfl (by decide); unfold sc_interchange_wire_writer_segment)
  repeat' (first | ((with_reducible apply W_openBs (id := 0) (cid := 1006) (off := 6) (n := 1) (e := 5)); (focus (simp only [push_cast, seval]; (try rfl); done)); (focus (simp only [push_cast, seval]; (try rfl); done)); (focus decide); (focus rfl); (focus (intro _; rfl)); (focus (simp only [push_cast, seval]; (try rfl); done))) | ((with_reducible apply W_openBs (id := 0) (cid := 1007) (off := 7) (n := 6) (e := 100)); (focus (simp only [push_cast, seval]; (try rfl); done)); (focus (simp only [push_cast, seval]; (try rfl); done)); (focus decide); (focus rfl); (focus (intro _; rfl)); (focus (simp only [push_cast, seval]; (try rfl); done))) | ((with_reducible apply W_openBs (id := 0) (cid := 1008) (off := 8) (n := 1) (e := 3)); (focus (simp only [push_cast, seval]; (try rfl); done)); (focus (simp only [push_cast, seval]; (try rfl); done)); (focus decide); (focus rfl); (focus (intro _; rfl)); (focus (simp only [push_cast, seval]; (try rfl); done))) | with_reducible refine W_seq ?_ | with_reducible refine W_reg ?_ | with_reducible refine W_regE ?_ | with_reducible refine W_block ?_ | with_reducible refine W_skip ?_ | with_reducible refine W_exit ?_ | with_reducible refine O_nil ?_ | with_reducible refine K_seq ?_ | with_reducible refine K_seqE ?_ | with_reducible refine K_block ?_ | with_reducible refine O_o2r ?_ | ((with_reducible apply O_idxr hm); (iterate 2 (simp only [push_cast, seval]; rfl)); (intro _; rfl); intro e hm) | ((with_reducible apply O_r); (simp only [push_cast, seval]; rfl); (first | exact trivial)) | ((with_reducible apply O_w); (simp only [push_cast, seval]; rfl); (first | exact trivial)) | ((with_reducible apply O_appV hm); (iterate 4 (simp only [push_cast, seval]; rfl)); (focus ((repeat' (first | rfl | (with_reducible first | apply dv_slice | apply fold_nil | apply fold_cons | apply f_rowY) | (with_reducible apply f_byte; decide))); done)); decide; (intro _; rfl); intro hm) | ((with_reducible apply O_appSX hm); (iterate 3 (simp only [push_cast, seval]; rfl)); (focus ((repeat' (first | exact Rer_nil | ((with_reducible apply Rer_cons); (focus (simp only [push_cast, seval]; rfl)); (focus (first | exact trivial)); (focus (simp only [push_cast, seval]))))); done)); intro hm) | ((with_reducible apply O_appVX hm); (iterate 2 (simp only [push_cast, seval]; rfl)); (focus ((repeat' (first | rfl)); done)); (simp only [push_cast, seval]; rfl); (focus ((repeat' (first | rfl | (with_reducible first | apply eR_nil | apply eR_cons))); done)); (intro _; rfl); (focus ((repeat' (first | exact Rer_nil | ((with_reducible apply Rer_cons); (focus (simp only [push_cast, seval]; rfl)); (focus (first | exact trivial)); (focus (simp only [push_cast, seval]))))); done)); intro hm) | ((with_reducible apply O_appX2 hm); (iterate 4 (simp only [push_cast, seval]; rfl)); rfl; (focus ((repeat' (first | exact Rer_nil | ((with_reducible apply Rer_cons); (focus (simp only [push_cast, seval]; rfl)); (focus (first | exact trivial)); (focus (simp only [push_cast, seval]))))); done)); intro hm) | ((with_reducible apply O_x); (simp only [push_cast, seval]; rfl); (first | exact trivial); (focus ((repeat' (first | exact Rer_nil)); done))) | ((with_reducible apply S_condB hm); (simp only [push_cast, seval]; rfl); intro hm; rotate_left; intro hm) | ((with_reducible apply K_leave hm); intro r hm) | ((apply S_loopY (b := 4) (X := sc_interchange_wire_writer_segment_B1) (x := sc_interchange_wire_writer_segment_L1) rfl (fun (c : SV × SV × SV × SV × SV × SV × SV × SV × SV × SV × SV × SV × SV) (s : Tapi_Marks × Bool × (List UInt8) × (List Twire_place) × (List Int) × Bool × UInt8 × Int) => st [(0, .ref 0 0), (1, c.1), (6, c.2.1), (8, .d (.int .u8 (s.2.2.2.2.2.2.1).toNat)), (9, c.2.2.1), (39, c.2.2.2.1), (40, c.2.2.2.2.1), (41, c.2.2.2.2.2.1), (52, c.2.2.2.2.2.2.1), (53, c.2.2.2.2.2.2.2.1), (54, c.2.2.2.2.2.2.2.2.1), (59, c.2.2.2.2.2.2.2.2.2.1), (60, c.2.2.2.2.2.2.2.2.2.2.1), (61, .d (.int .i64 s.2.2.2.2.2.2.2)), (148, .ref 0 0), (149, c.2.2.2.2.2.2.2.2.2.2.2.1), (150, c.2.2.2.2.2.2.2.2.2.2.2.2)] [(1006, .vec 5 1 (vrow rowY s.2.2.1)), (1007, .vec 100 6 (vrow rTwire_place s.2.2.2.1)), (1008, .vec 3 1 (vrow rowI s.2.2.2.2.1)), (0, .box (bT_Twire_writer s.1 s.2.1 1006 1007 1008 s.2.2.2.2.2.1))]) (c := (_, _, _, _, _, _, _, _, _, _, _, _, _)) (s0 := (_, _, _, _, _, _, _, _)) hm); (focus (first | (dsimp only; done))); (with_reducible refine Then.mk ?_ ?_)) | ((apply S_loopY (b := 2) (X := sc_interchange_wire_writer_segment_B2) (x := sc_interchange_wire_writer_segment_L2) rfl (fun (c : SV × SV × SV × SV × SV × SV × SV × SV × SV) (s : Tapi_Marks × Bool × (List UInt8) × (List Twire_place) × (List Int) × Bool × UInt8 × Int) => st [(0, .ref 0 0), (1, c.1), (6, c.2.1), (8, .d (.int .u8 (s.2.2.2.2.2.2.1).toNat)), (39, c.2.2.1), (40, c.2.2.2.1), (41, c.2.2.2.2.1), (52, c.2.2.2.2.2.1), (53, c.2.2.2.2.2.2.1), (54, .d (.int .i64 s.2.2.2.2.2.2.2)), (148, .ref 0 0), (149, c.2.2.2.2.2.2.2.1), (150, c.2.2.2.2.2.2.2.2)] [(1006, .vec 5 1 (vrow rowY s.2.2.1)), (1007, .vec 100 6 (vrow rTwire_place s.2.2.2.1)), (1008, .vec 3 1 (vrow rowI s.2.2.2.2.1)), (0, .box (bT_Twire_writer s.1 s.2.1 1006 1007 1008 s.2.2.2.2.2.1))]) (c := (_, _, _, _, _, _, _, _, _)) (s0 := (_, _, _, _, _, _, _, _)) hm); (focus (first | (dsimp only; done))); (with_reducible refine Then.mk ?_ ?_)) | ((apply S_loopY (b := 0) (X := sc_interchange_wire_writer_segment_B3) (x := sc_interchange_wire_writer_segment_L3) rfl (fun (c : SV × SV × SV × SV × SV) (s : Tapi_Marks × Bool × (List UInt8) × (List Twire_place) × (List Int) × Bool × Int) => st [(0, .ref 0 0), (1, c.1), (39, c.2.1), (40, c.2.2.1), (41, .d (.int .i64 s.2.2.2.2.2.2)), (148, .ref 0 0), (149, c.2.2.2.1), (150, c.2.2.2.2)] [(1006, .vec 5 1 (vrow rowY s.2.2.1)), (1007, .vec 100 6 (vrow rTwire_place s.2.2.2.1)), (1008, .vec 3 1 (vrow rowI s.2.2.2.2.1)), (0, .box (bT_Twire_writer s.1 s.2.1 1006 1007 1008 s.2.2.2.2.2.1))]) (c := (_, _, _, _, _)) (s0 := (_, _, _, _, _, _, _)) hm); (focus (first | (dsimp only; done))); (with_reducible refine Then.mk ?_ ?_)) | ((apply K_next (s' := (_, _, _, _, _, _, _, _)) hm); (focus (first | (dsimp only; done)))) | ((apply K_brk (s' := (_, _, _, _, _, _, _, _)) hm); (focus (first | (dsimp only; done)))) | ((apply K_next (s' := (_, _, _, _, _, _, _)) hm); (focus (first | (dsimp only; done)))) | ((apply K_brk (s' := (_, _, _, _, _, _, _)) hm); (focus (first | (dsimp only; done)))) | (((with_reducible apply O_pM hm (id := 0) (ms := [.sh, .sh, .sh, .sh, .sh, .sh, .sl 5 (List.replicate 1 .sh), .sl 100 (List.replicate 6 .sh), .sl 3 (List.replicate 1 .sh), .sh])); (focus ((try ((apply Imp.trans); (focus ((apply imp_closeBs (id := 0) (cid := 1006) (off := 6) (n := 1) (e := 5)); (focus (simp only [push_cast, seval]; (try rfl); done)); (focus (simp only [push_cast, seval]; (try rfl); done)); (focus decide); (focus (simp only [push_cast, seval]; (try rfl); done)); (focus ((repeat' (first | (with_reducible first | apply r_rfl))); done)); (focus (intro _; rfl)); (focus (simp only [push_cast, seval]; (try rfl); done)))))); (try ((apply Imp.trans); (focus ((apply imp_closeBs (id := 0) (cid := 1007) (off := 7) (n := 6) (e := 100)); (focus (simp only [push_cast, seval]; (try rfl); done)); (focus (simp only [push_cast, seval]; (try rfl); done)); (focus decide); (focus (simp only [push_cast, seval]; (try rfl); done)); (focus ((repeat' (first | (with_reducible first | apply r_rfl))); done)); (focus (intro _; rfl)); (focus (simp only [push_cast, seval]; (try rfl); done)))))); (try ((apply Imp.trans); (focus ((apply imp_closeBs (id := 0) (cid := 1008) (off := 8) (n := 1) (e := 3)); (focus (simp only [push_cast, seval]; (try rfl); done)); (focus (simp only [push_cast, seval]; (try rfl); done)); (focus decide); (focus (simp only [push_cast, seval]; (try rfl); done)); (focus ((repeat' (first | (with_reducible first | apply r_rfl))); done)); (focus (intro _; rfl)); (focus (simp only [push_cast, seval]; (try rfl); done)))))); exact Imp.refl _)); (focus (simp only [push_cast, seval]; (try rfl); done)); (focus (simp only [push_cast, seval]; (try rfl); done)); (focus (simp only [push_cast, seval]; (try rfl); done)); (focus ((repeat' (first | (with_reducible first | apply oT_Twire_writer | apply cT_Tapi_Marks) | ((with_reducible apply svle_eq); (focus (first | rfl)); (focus ((repeat' (first | rfl)); done))) | ((with_reducible apply cle_own); (focus rfl); (focus ((repeat' (first | rfl)); done))))); done)); (focus rfl); (first | apply spec_interchange_wire_writer_text _ _); (any_goals (focus ((repeat' (first | rfl)); done))); (focus (intro _; exact ⟨rfl, rfl, rfl⟩)); intro y hm)) | (((with_reducible apply K_endPN (a := ()) hm (ms := [.sh, .sh, .sh, .sh, .sh, .sh, .sl 5 (List.replicate 1 .sh), .sl 100 (List.replicate 6 .sh), .sl 3 (List.replicate 1 .sh), .sh])); (focus ((try ((apply Imp.trans); (focus ((apply imp_closeBs (id := 0) (cid := 1006) (off := 6) (n := 1) (e := 5)); (focus (simp only [push_cast, seval]; (try rfl); done)); (focus (simp only [push_cast, seval]; (try rfl); done)); (focus decide); (focus (simp only [push_cast, seval]; (try rfl); done)); (focus ((repeat' (first | (with_reducible first | apply r_rfl))); done)); (focus (intro _; rfl)); (focus (simp only [push_cast, seval]; (try rfl); done)))))); (try ((apply Imp.trans); (focus ((apply imp_closeBs (id := 0) (cid := 1007) (off := 7) (n := 6) (e := 100)); (focus (simp only [push_cast, seval]; (try rfl); done)); (focus (simp only [push_cast, seval]; (try rfl); done)); (focus decide); (focus (simp only [push_cast, seval]; (try rfl); done)); (focus ((repeat' (first | (with_reducible first | apply r_rfl))); done)); (focus (intro _; rfl)); (focus (simp only [push_cast, seval]; (try rfl); done)))))); (try ((apply Imp.trans); (focus ((apply imp_closeBs (id := 0) (cid := 1008) (off := 8) (n := 1) (e := 3)); (focus (simp only [push_cast, seval]; (try rfl); done)); (focus (simp only [push_cast, seval]; (try rfl); done)); (focus decide); (focus (simp only [push_cast, seval]; (try rfl); done)); (focus ((repeat' (first | (with_reducible first | apply r_rfl))); done)); (focus (intro _; rfl)); (focus (simp only [push_cast, seval]; (try rfl); done)))))); exact Imp.refl _)); (focus (simp only [push_cast, seval]; (try rfl); done)); (focus ((repeat' (first | (with_reducible first | apply oT_Twire_writer | apply cT_Tapi_Marks) | ((with_reducible apply svle_eq); (focus (first | rfl)); (focus ((repeat' (first | rfl)); done))) | ((with_reducible apply cle_own); (focus rfl); (focus ((repeat' (first | rfl)); done))))); done)); (focus (intro _; rfl)); (focus (simp only [push_cast, seval]; (try rfl); done)); (focus (simp only [push_cast, seval]; (try rfl); done)); (focus (simp only [push_cast, seval]; (try rfl); done)); (focus (simp only [push_cast, seval]; (try rfl); done)); (focus (first | exact he_0)))) | (((with_reducible apply LoopB.of); (focus (first | (dsimp only; done))); (focus ((intro _; repeat' (first | with_reducible exact impC_endF | with_reducible refine impC_seq ?_ | with_reducible refine impC_block ?_ | ((with_reducible refine impC_rnd ?_); intro _) | ((with_reducible refine impC_brk ?_); intro _))))); (intro s o hm; first | unfold sc_interchange_wire_writer_segment_L1 | unfold sc_interchange_wire_writer_segment_L2 | unfold sc_interchange_wire_writer_segment_L3); rotate_left; intro s hm)) | (((apply imp_stT; (repeat' (first | with_reducible exact keepT_nil | with_reducible exact keepC_nil | with_reducible apply keepT_cons | with_reducible apply keepC_cons | ((with_reducible apply svle_eq); (focus (first | (simp only [push_cast, seval]; rfl) | rfl)); (focus ((repeat' (first | rfl)); done))) | ((with_reducible apply chle_eq); (focus (first | (simp only [push_cast, seval]; rfl))); (first | with_reducible exact chle_rfl rfl | with_reducible apply chle_vec)) | (with_reducible first | apply cT_Twire_place | apply cT_Tapi_Spot | apply r_rfl | apply r_nil | apply r_app | apply r_cons))); done))))
noncomputable def m_interchange_wire_writer_segment (x0 : Twire_writer) (x1 : Int) (x2 : Tapi_Segment) : Option ((Unit) × Twire_writer) := (sims_G6_2_1 x0 x1 x2).1
theorem spec_interchange_wire_writer_segment (x0 : Twire_writer) (x1 : Int) (x2 : Tapi_Segment) : ∀ r, m_interchange_wire_writer_segment x0 x1 x2 = some r → FSpec Tryz.prog 38 (.own (.pt [.sh, .sh, .sh, .sh, .sh, .sh, .sl 5 (List.replicate 1 .sh), .sl 100 (List.replicate 6 .sh), .sl 3 (List.replicate 1 .sh), .sh]) (.ptr (rTwire_writer x0)) :: List.map SV.d ([.int .i64 x1, .agg (rTapi_Segment x2)] : List DV)) (.tup []) (.own (.pt [.sh, .sh, .sh, .sh, .sh, .sh, .sl 5 (List.replicate 1 .sh), .sl 100 (List.replicate 6 .sh), .sl 3 (List.replicate 1 .sh), .sh]) (.ptr (rTwire_writer r.2)) :: List.map SV.d ([.int .i64 x1, .agg (rTapi_Segment x2)] : List DV)) := (sims_G6_2_1 x0 x1 x2).2

def sc_interchangeref2_written_L1 : SC :=
  (.seq (.seq (.reg [.r 107 (.mv (.t 13)),
     .r 108 (.mv (.t 12)),
     .r 109 (.len (.t 108)),
     .r 110 (.bin .lss (.t 107) (.t 109))])
  (.cond (.t 110)
    .skip
    (.exit 6)))
  (.seq (.block 7 (.seq (.reg [.r 113 (.mv (.t 7)),
       .r 114 (.mv (.t 8)),
       .r 115 (.mv (.t 9)),
       .r 116 (.bin .add (.t 115) (.c (.d (.int .i64 1)))),
       .r 117 (.mv (.t 11)),
       .r 118 (.bin .add (.t 117) (.c (.d (.int .i64 1)))),
       .r 119 (.mv (.t 13)),
       .r 120 (.bin .add (.t 119) (.c (.d (.int .i64 1)))),
       .r 121 (.build [.d (.int .i64 0), .d (.int .i64 0), .d (.int .i64 0)] [(0, 1, .t 116), (1, 1, .t 118), (2, 1, .t 120)]),
       .r 122 (.mv (.t 10)),
       .r 123 (.mv (.t 12)),
       .r 124 (.mv (.t 13)),
       .r 125 (.idx 1 (.t 123) (.t 124)),
       .o 126 (.ld1 (.t 125)),
       .p (some 127) (.f 59) [.t 113, .t 114, .t 121, .t 122, .t 126]])
    (.reg [.r 128 (.fld 1 (.t 4)),
       .o 129 (.ld1 (.t 128)),
       .r 10 (.mv (.t 129))])))
  (.reg [.r 111 (.mv (.t 13)),
     .r 112 (.bin .add (.t 111) (.c (.d (.int .i64 1)))),
     .r 13 (.mv (.t 112))])))
def sc_interchangeref2_written_B1 : SC := .block 6 (.loop sc_interchangeref2_written_L1)
def sc_interchangeref2_written_L2 : SC :=
  (.seq (.seq (.reg [.r 81 (.mv (.t 11)),
     .r 82 (.mv (.t 0)),
     .r 83 (.mv (.t 8)),
     .r 84 (.idx 2 (.t 82) (.t 83)),
     .r 85 (.fld 1 (.t 84)),
     .o 86 (.ld1 (.t 85)),
     .r 87 (.mv (.t 9)),
     .r 88 (.idx 1 (.t 86) (.t 87)),
     .r 89 (.fld 0 (.t 88)),
     .o 90 (.ld1 (.t 89)),
     .r 91 (.len (.t 90)),
     .r 92 (.bin .lss (.t 81) (.t 91))])
  (.cond (.t 92)
    .skip
    (.exit 4)))
  (.seq (.block 5 (.seq (.reg [.r 95 (.mv (.t 0)),
       .r 96 (.mv (.t 8)),
       .r 97 (.idx 2 (.t 95) (.t 96)),
       .r 98 (.fld 1 (.t 97)),
       .o 99 (.ld1 (.t 98)),
       .r 100 (.mv (.t 9)),
       .r 101 (.idx 1 (.t 99) (.t 100)),
       .r 102 (.fld 0 (.t 101)),
       .o 103 (.ld1 (.t 102)),
       .r 104 (.mv (.t 11)),
       .r 105 (.idx 1 (.t 103) (.t 104)),
       .o 106 (.ld1 (.t 105)),
       .r 12 (.mv (.t 106))])
    (.seq (.seq (.reg [.r 13 (.mv (.c (.d (.int .i64 0))))])
    sc_interchangeref2_written_B1)
    (.reg [.r 130 (.fld 2 (.t 4)),
       .o 131 (.ld1 (.t 130)),
       .r 10 (.mv (.t 131))]))))
  (.reg [.r 93 (.mv (.t 11)),
     .r 94 (.bin .add (.t 93) (.c (.d (.int .i64 1)))),
     .r 11 (.mv (.t 94))])))
def sc_interchangeref2_written_B2 : SC := .block 4 (.loop sc_interchangeref2_written_L2)
def sc_interchangeref2_written_L3 : SC :=
  (.seq (.seq (.reg [.r 69 (.mv (.t 9)),
     .r 70 (.mv (.t 0)),
     .r 71 (.mv (.t 8)),
     .r 72 (.idx 2 (.t 70) (.t 71)),
     .r 73 (.fld 1 (.t 72)),
     .o 74 (.ld1 (.t 73)),
     .r 75 (.len (.t 74)),
     .r 76 (.bin .lss (.t 69) (.t 75))])
  (.cond (.t 76)
    .skip
    (.exit 2)))
  (.seq (.block 3 (.seq (.reg [.r 79 (.fld 0 (.t 4)),
       .o 80 (.ld1 (.t 79)),
       .r 10 (.mv (.t 80))])
    (.seq (.reg [.r 11 (.mv (.c (.d (.int .i64 0))))])
    sc_interchangeref2_written_B2)))
  (.reg [.r 77 (.mv (.t 9)),
     .r 78 (.bin .add (.t 77) (.c (.d (.int .i64 1)))),
     .r 9 (.mv (.t 78))])))
def sc_interchangeref2_written_B3 : SC := .block 2 (.loop sc_interchangeref2_written_L3)
def sc_interchangeref2_written_L4 : SC :=
  (.seq (.seq (.reg [.r 17 (.mv (.t 8)),
     .r 18 (.mv (.t 0)),
     .r 19 (.len (.t 18)),
     .r 20 (.bin .lss (.t 17) (.t 19))])
  (.cond (.t 20)
    .skip
    (.exit 0)))
  (.seq (.block 1 (.seq (.regE [.r 23 (.mv (.t 7)),
       .r 24 (.mv (.t 7)),
       .r 25 (.nilc (.t 24)),
       .r 26 (.fld 6 (.t 25)),
       .r 27 (.ld1 (.t 26)),
       .r 28 (.mv (.t 8)),
       .r 29 (.mv (.t 7)),
       .r 30 (.nilc (.t 29)),
       .r 31 (.fld 5 (.t 30)),
       .r 32 (.ld1 (.t 31)),
       .r 33 (.len (.t 32)),
       .r 34 (.mv (.t 7)),
       .r 35 (.nilc (.t 34)),
       .r 36 (.fld 5 (.t 35)),
       .r 37 (.ld1 (.t 36)),
       .r 38 (.len (.t 37)),
       .r 39 (.mv (.t 7)),
       .r 40 (.nilc (.t 39)),
       .r 41 (.fld 5 (.t 40)),
       .r 42 (.ld1 (.t 41)),
       .r 43 (.len (.t 42)),
       .r 44 (.mv (.t 0)),
       .r 45 (.mv (.t 8)),
       .r 46 (.idx 2 (.t 44) (.t 45)),
       .r 47 (.fld 0 (.t 46)),
       .r 48 (.ld1 (.t 47)),
       .r 49 (.lenT (.t 48)),
       .r 50 (.bin .add (.t 43) (.t 49)),
       .r 51 (.build [.d (.int .i64 0), .d (.int .i64 0), .d (.int .i64 0), .d (.int .i64 0), .d (.int .i64 0), .d (.int .i64 0), .d (.int .i64 0)] [(0, 1, .t 28), (4, 1, .t 33), (5, 1, .t 38), (6, 1, .t 50)]),
       .r 52 (.bslice 7 [.t 51]),
       .x 53 (.app 104 7 (.t 27) (.t 52)) [(0, 23, .mv (.t 7))],
       .r 54 (.nilc (.t 23)),
       .r 55 (.fld 6 (.t 54)),
       .x 0 (.st 1 (.t 55) (.t 53)) []])
    (.seq (.regE [.r 56 (.mv (.t 7)),
       .r 57 (.mv (.t 7)),
       .r 58 (.nilc (.t 57)),
       .r 59 (.fld 5 (.t 58)),
       .r 60 (.ld1 (.t 59)),
       .r 61 (.mv (.t 0)),
       .r 62 (.mv (.t 8)),
       .r 63 (.idx 2 (.t 61) (.t 62)),
       .r 64 (.fld 0 (.t 63)),
       .r 65 (.ld1 (.t 64)),
       .x 66 (.appS 5 (.t 60) (.t 65)) [(0, 56, .mv (.t 7))],
       .r 67 (.nilc (.t 56)),
       .r 68 (.fld 5 (.t 67)),
       .x 0 (.st 1 (.t 68) (.t 66)) []])
    (.seq (.seq (.reg [.r 9 (.mv (.c (.d (.int .i64 0))))])
    sc_interchangeref2_written_B3)
    (.seq (.regE [.r 132 (.mv (.t 7)),
       .r 133 (.mv (.t 7)),
       .r 134 (.nilc (.t 133)),
       .r 135 (.fld 5 (.t 134)),
       .r 136 (.ld1 (.t 135)),
       .r 137 (.fld 4 (.t 4)),
       .r 138 (.ld1 (.t 137)),
       .r 139 (.bslice 1 [.t 138]),
       .x 140 (.app 5 1 (.t 136) (.t 139)) [(0, 132, .mv (.t 7))],
       .r 141 (.nilc (.t 132)),
       .r 142 (.fld 5 (.t 141)),
       .x 0 (.st 1 (.t 142) (.t 140)) []])
    (.seq (.reg [.r 143 (.mv (.t 2))])
    (.cond (.t 143)
      (.reg [.r 144 (.mv (.t 7)),
         .r 145 (.mv (.t 7)),
         .r 146 (.nilc (.t 145)),
         .r 147 (.fld 5 (.t 146)),
         .o 148 (.ld1 (.t 147)),
         .r 149 (.bslice 1 [.c (.d (.int .u8 10))]),
         .w 150 (.app 5 1 (.t 148) (.t 149)),
         .r 151 (.nilc (.t 144)),
         .r 152 (.fld 5 (.t 151)),
         .w 0 (.st 1 (.t 152) (.t 150))])
      .skip)))))))
  (.reg [.r 21 (.mv (.t 8)),
     .r 22 (.bin .add (.t 21) (.c (.d (.int .i64 1)))),
     .r 8 (.mv (.t 22))])))
def sc_interchangeref2_written_B4 : SC := .block 0 (.loop sc_interchangeref2_written_L4)
/-- interchange/interchangeref2.written -/
def sc_interchangeref2_written : SC :=
  (.seq (.reg [.r 4 (.boxI (.t 1)),
     .r 6 (.mv (.c (.d (.raw (.pointer none)))))])
  (.seq (.reg [.o 14 (.ldA 5 (.t 4)),
     .r 15 (.build [.d (.int .u8 0), .d (.int .u8 0), .d (.int .u8 0), .d (.int .u8 0), .d (.int .u8 0), .nils, .nils, .d (.int .i64 0)] [(0, 5, .t 14)]),
     .w 16 (.boxM (.t 15)),
     .r 7 (.mv (.t 16))])
  (.seq (.seq (.reg [.r 8 (.mv (.c (.d (.int .i64 0))))])
  sc_interchangeref2_written_B4)
  (.seq (.reg [.r 153 (.mv (.t 7)),
     .r 6 (.mv (.t 153))])
  .ret))))
theorem fit_interchangeref2_written : fits Tryz.prog 43 Tryz.f43 sc_interchangeref2_written [.t 6] 3 = true := by kernel_rfl

set_option maxRecDepth 100000 in
set_option maxHeartbeats 40000000 in
noncomputable def sims_G6_2_2 : (∀ (x0 : List Tapi_Segment) (x1 : Tapi_Marks) (x2 : Bool), {m : Option ((Option Tinterchangeref2_writer)) // ∀ r, m = some r → PureSpec Tryz.prog 43 [.slice (List.map rTapi_Segment x0), .agg (rTapi_Marks x1), .bool x2] ((optP rTinterchangeref2_writer r))}) := by
  (intro x0 x1 x2; apply Subtype.mk; intro r hm; apply pure_walk Tryz.func43 fit_interchangeref2_written; unfold sc_interchangeref2_written)
  repeat' (first | ((with_reducible apply W_openBs (id := 16) (cid := 1517) (off := 5) (n := 1) (e := 5)); (focus (simp only [push_cast, seval]; (try rfl); done)); (focus (simp only [push_cast, seval]; (try rfl); done)); (focus decide); (focus rfl); (focus (intro _; rfl)); (focus (simp only [push_cast, seval]; (try rfl); done))) | ((with_reducible apply W_nilB (id := 16) (cid := 1517) (off := 5) (n := 1) (e := 5)); (focus (simp only [push_cast, seval]; (try rfl); done)); (focus (simp only [push_cast, seval]; (try rfl); done)); (focus decide); (focus (simp only [push_cast, seval]; (try rfl); done))) | ((with_reducible apply W_openBs (id := 16) (cid := 1518) (off := 6) (n := 7) (e := 104)); (focus (simp only [push_cast, seval]; (try rfl); done)); (focus (simp only [push_cast, seval]; (try rfl); done)); (focus decide); (focus rfl); (focus (intro _; rfl)); (focus (simp only [push_cast, seval]; (try rfl); done))) | ((with_reducible apply W_nilB (id := 16) (cid := 1518) (off := 6) (n := 7) (e := 104)); (focus (simp only [push_cast, seval]; (try rfl); done)); (focus (simp only [push_cast, seval]; (try rfl); done)); (focus decide); (focus (simp only [push_cast, seval]; (try rfl); done))) | with_reducible refine W_seq ?_ | with_reducible refine W_reg ?_ | with_reducible refine W_regE ?_ | with_reducible refine W_block ?_ | with_reducible refine W_skip ?_ | with_reducible refine W_ret ?_ | with_reducible refine W_exit ?_ | with_reducible refine O_nil ?_ | with_reducible refine K_seq ?_ | with_reducible refine K_seqE ?_ | with_reducible refine K_block ?_ | with_reducible refine O_o2r ?_ | ((with_reducible apply O_idxr hm); (iterate 2 (simp only [push_cast, seval]; rfl)); (intro _; rfl); intro e hm) | ((with_reducible apply O_r); (simp only [push_cast, seval]; rfl); (first | exact trivial)) | ((with_reducible apply O_w); (simp only [push_cast, seval]; rfl); (first | exact trivial)) | ((with_reducible apply O_appV hm); (iterate 4 (simp only [push_cast, seval]; rfl)); (focus ((repeat' (first | (with_reducible first | apply dv_slice | apply fold_nil | apply fold_cons | apply f_rowY) | (with_reducible apply f_byte; decide))); done)); decide; (intro _; rfl); intro hm) | ((with_reducible apply O_appSX hm); (iterate 3 (simp only [push_cast, seval]; rfl)); (focus ((repeat' (first | exact Rer_nil | ((with_reducible apply Rer_cons); (focus (simp only [push_cast, seval]; rfl)); (focus (first | exact trivial)); (focus (simp only [push_cast, seval]))))); done)); intro hm) | ((with_reducible apply O_appVX hm); (iterate 2 (simp only [push_cast, seval]; rfl)); (focus ((repeat' (first | rfl)); done)); (simp only [push_cast, seval]; rfl); (focus ((repeat' (first | rfl | (with_reducible first | apply eR_nil | apply eR_cons))); done)); (intro _; rfl); (focus ((repeat' (first | exact Rer_nil | ((with_reducible apply Rer_cons); (focus (simp only [push_cast, seval]; rfl)); (focus (first | exact trivial)); (focus (simp only [push_cast, seval]))))); done)); intro hm) | ((with_reducible apply O_appX2 hm); (iterate 4 (simp only [push_cast, seval]; rfl)); rfl; (focus ((repeat' (first | exact Rer_nil | ((with_reducible apply Rer_cons); (focus (simp only [push_cast, seval]; rfl)); (focus (first | exact trivial)); (focus (simp only [push_cast, seval]))))); done)); intro hm) | ((with_reducible apply O_x); (simp only [push_cast, seval]; rfl); (first | exact trivial); (focus ((repeat' (first | exact Rer_nil)); done))) | ((with_reducible apply S_condB hm); (simp only [push_cast, seval]; rfl); intro hm; rotate_left; intro hm) | ((with_reducible apply K_endS hm); (focus (simp only [resOf, resL, RV.get, push_cast, seval]; rfl)); (focus ((repeat' (first | rfl | (with_reducible first | apply fT_Tinterchangeref2_writer | apply f_optS))); done))) | ((with_reducible apply K_leave hm); intro r hm) | ((apply S_loopY (b := 6) (X := sc_interchangeref2_written_B1) (x := sc_interchangeref2_written_L1) rfl (fun (c : SV × SV × SV × SV × SV × SV × SV) (s : Tapi_Marks × (List UInt8) × (List Tinterchangeref2_piece) × Int × UInt8 × Int) => st [(0, c.1), (2, c.2.1), (4, c.2.2.1), (7, .ref 16 0), (8, c.2.2.2.1), (9, c.2.2.2.2.1), (10, .d (.int .u8 (s.2.2.2.2.1).toNat)), (11, c.2.2.2.2.2.1), (12, c.2.2.2.2.2.2), (13, .d (.int .i64 s.2.2.2.2.2))] [(1517, .vec 5 1 (vrow rowY s.2.1)), (1518, .vec 104 7 (vrow rTinterchangeref2_piece s.2.2.1)), (16, .box (bT_Tinterchangeref2_writer s.1 1517 1518 s.2.2.2.1))]) (c := (_, _, _, _, _, _, _)) (s0 := (_, _, _, _, _, _)) hm); (focus (first | (dsimp only; done))); (with_reducible refine Then.mk ?_ ?_)) | ((apply S_loopY (b := 4) (X := sc_interchangeref2_written_B2) (x := sc_interchangeref2_written_L2) rfl (fun (c : SV × SV × SV × SV × SV) (s : Tapi_Marks × (List UInt8) × (List Tinterchangeref2_piece) × Int × UInt8 × Int) => st [(0, c.1), (2, c.2.1), (4, c.2.2.1), (7, .ref 16 0), (8, c.2.2.2.1), (9, c.2.2.2.2), (10, .d (.int .u8 (s.2.2.2.2.1).toNat)), (11, .d (.int .i64 s.2.2.2.2.2))] [(1517, .vec 5 1 (vrow rowY s.2.1)), (1518, .vec 104 7 (vrow rTinterchangeref2_piece s.2.2.1)), (16, .box (bT_Tinterchangeref2_writer s.1 1517 1518 s.2.2.2.1))]) (c := (_, _, _, _, _)) (s0 := (_, _, _, _, _, _)) hm); (focus (first | (dsimp only; done))); (with_reducible refine Then.mk ?_ ?_)) | ((apply S_loopY (b := 2) (X := sc_interchangeref2_written_B3) (x := sc_interchangeref2_written_L3) rfl (fun (c : SV × SV × SV × SV) (s : Tapi_Marks × (List UInt8) × (List Tinterchangeref2_piece) × Int × Int) => st [(0, c.1), (2, c.2.1), (4, c.2.2.1), (7, .ref 16 0), (8, c.2.2.2), (9, .d (.int .i64 s.2.2.2.2))] [(1517, .vec 5 1 (vrow rowY s.2.1)), (1518, .vec 104 7 (vrow rTinterchangeref2_piece s.2.2.1)), (16, .box (bT_Tinterchangeref2_writer s.1 1517 1518 s.2.2.2.1))]) (c := (_, _, _, _)) (s0 := (_, _, _, _, _)) hm); (focus (first | (dsimp only; done))); (with_reducible refine Then.mk ?_ ?_)) | ((apply S_loopY (b := 0) (X := sc_interchangeref2_written_B4) (x := sc_interchangeref2_written_L4) rfl (fun (c : SV × SV × SV) (s : Tapi_Marks × (List UInt8) × (List Tinterchangeref2_piece) × Int × Int) => st [(0, c.1), (2, c.2.1), (4, c.2.2), (7, .ref 16 0), (8, .d (.int .i64 s.2.2.2.2))] [(1517, .vec 5 1 (vrow rowY s.2.1)), (1518, .vec 104 7 (vrow rTinterchangeref2_piece s.2.2.1)), (16, .box (bT_Tinterchangeref2_writer s.1 1517 1518 s.2.2.2.1))]) (c := (_, _, _)) (s0 := (_, _, _, _, _)) hm); (focus (first | (dsimp only; done))); (with_reducible refine Then.mk ?_ ?_)) | ((apply K_next (s' := (_, _, _, _, _, _)) hm); (focus (first | (dsimp only; done)))) | ((apply K_brk (s' := (_, _, _, _, _, _)) hm); (focus (first | (dsimp only; done)))) | ((apply K_next (s' := (_, _, _, _, _)) hm); (focus (first | (dsimp only; done)))) | ((apply K_brk (s' := (_, _, _, _, _)) hm); (focus (first | (dsimp only; done)))) | (((with_reducible apply O_pM hm (id := 16) (ms := [.sh, .sh, .sh, .sh, .sh, .sl 5 (List.replicate 1 .sh), .sl 104 (List.replicate 7 .sh), .sh])); (focus ((try ((apply Imp.trans); (focus ((apply imp_closeBs (id := 16) (cid := 1517) (off := 5) (n := 1) (e := 5)); (focus (simp only [push_cast, seval]; (try rfl); done)); (focus (simp only [push_cast, seval]; (try rfl); done)); (focus decide); (focus (simp only [push_cast, seval]; (try rfl); done)); (focus ((repeat' (first | (with_reducible first | apply r_rfl))); done)); (focus (intro _; rfl)); (focus (simp only [push_cast, seval]; (try rfl); done)))))); (try ((apply Imp.trans); (focus ((apply imp_closeBs (id := 16) (cid := 1518) (off := 6) (n := 7) (e := 104)); (focus (simp only [push_cast, seval]; (try rfl); done)); (focus (simp only [push_cast, seval]; (try rfl); done)); (focus decide); (focus (simp only [push_cast, seval]; (try rfl); done)); (focus ((repeat' (first | (with_reducible first | apply r_rfl))); done)); (focus (intro _; rfl)); (focus (simp only [push_cast, seval]; (try rfl); done)))))); exact Imp.refl _)); (focus (simp only [push_cast, seval]; (try rfl); done)); (focus (simp only [push_cast, seval]; (try rfl); done)); (focus (simp only [push_cast, seval]; (try rfl); done)); (focus ((repeat' (first | (with_reducible first | apply oT_Tinterchangeref2_writer | apply cT_Tapi_Marks) | ((with_reducible apply svle_eq); (focus (first | rfl)); (focus ((repeat' (first | rfl)); done))) | ((with_reducible apply cle_own); (focus rfl); (focus ((repeat' (first | rfl)); done))))); done)); (focus rfl); (first | apply spec_interchange_interchangeref2_writer_part _ _ _ _ _); (any_goals (focus ((repeat' (first | rfl | (with_reducible first | apply fT_Tapi_Spot | apply f_agg | apply f_cons))); done))); (focus (intro _; exact ⟨rfl, rfl, rfl⟩)); intro y hm)) | (((with_reducible apply LoopB.of); (focus (first | (dsimp only; done))); (focus ((intro _; repeat' (first | with_reducible exact impC_end | with_reducible refine impC_seq ?_ | with_reducible refine impC_block ?_ | ((with_reducible refine impC_rnd ?_); intro _) | ((with_reducible refine impC_brk ?_); intro _))))); (intro s o hm; first | unfold sc_interchangeref2_written_L1 | unfold sc_interchangeref2_written_L2 | unfold sc_interchangeref2_written_L3 | unfold sc_interchangeref2_written_L4); rotate_left; intro s hm)) | (((apply imp_stT; (repeat' (first | with_reducible exact keepT_nil | with_reducible exact keepC_nil | with_reducible apply keepT_cons | with_reducible apply keepC_cons | ((with_reducible apply svle_eq); (focus (first | (simp only [push_cast, seval]; rfl) | rfl)); (focus ((repeat' (first | rfl)); done))) | ((with_reducible apply chle_eq); (focus (first | (simp only [push_cast, seval]; rfl))); (first | with_reducible exact chle_rfl rfl | with_reducible apply chle_vec)) | (with_reducible first | apply cT_Tapi_Spot | apply cT_Tinterchangeref2_piece | apply r_rfl | apply r_nil | apply r_app | apply r_cons))); done))))
noncomputable def m_interchangeref2_written (x0 : List Tapi_Segment) (x1 : Tapi_Marks) (x2 : Bool) : Option ((Option Tinterchangeref2_writer)) := (sims_G6_2_2 x0 x1 x2).1
theorem spec_interchangeref2_written (x0 : List Tapi_Segment) (x1 : Tapi_Marks) (x2 : Bool) : ∀ r, m_interchangeref2_written x0 x1 x2 = some r → PureSpec Tryz.prog 43 [.slice (List.map rTapi_Segment x0), .agg (rTapi_Marks x1), .bool x2] ((optP rTinterchangeref2_writer r)) := (sims_G6_2_2 x0 x1 x2).2

/-- interchange/interchangeref2.join -/
def sc_interchangeref2_join : SC :=
  (.seq (.reg [.r 5 (.boxI (.t 1)),
     .r 8 (.mv (.c (.d (.raw (.pointer none))))),
     .r 9 (.mv (.c (.d (.int .i64 0))))])
  (.seq (.reg [.r 11 (.mv (.t 0)),
     .o 12 (.ldA 5 (.t 5)),
     .r 13 (.mv (.t 2)),
     .c 14 (.f 43) [.t 11, .t 12, .t 13],
     .r 10 (.mv (.t 14))])
  (.seq (.seq (.reg (.r 15 (.fld 3 (.t 5)) :: .o 16 (.ld1 (.t 15)) :: .r 17 (.bin .eql (.t 16) (.c (.d (.int .u8 0)))) :: .r 18 (.mv (.t 17)) :: gapp [19, 20, 21, 22, 23] 18 true (.r 19 (.mv (.t 10)) :: .r 20 (.nilc (.t 19)) :: .r 21 (.fld 7 (.t 20)) :: .r 22 (.ld1 (.t 21)) :: .r 23 (.bin .gtr (.t 22) (.c (.d (.int .i64 0)))) :: []) (.r 24 (.pick (.t 18) (.t 23) (.c (.d (.bool false)))) :: [])))
  (.cond (.t 24)
    (.seq (.reg [.r 8 (.mv (.c (.d (.raw (.pointer none))))),
       .r 9 (.mv (.c (.d (.int .i64 3))))])
    .ret)
    .skip))
  (.seq (.seq (.reg [.r 25 (.mv (.t 10)),
     .r 26 (.nilc (.t 25)),
     .r 27 (.fld 5 (.t 26)),
     .o 28 (.ld1 (.t 27)),
     .r 29 (.len (.t 28)),
     .r 30 (.mv (.t 3)),
     .r 31 (.bin .gtr (.t 29) (.t 30))])
  (.cond (.t 31)
    (.seq (.reg [.r 8 (.mv (.c (.d (.raw (.pointer none))))),
       .r 9 (.mv (.c (.d (.int .i64 2))))])
    .ret)
    .skip))
  (.seq (.reg [.r 32 (.mv (.t 10)),
     .r 8 (.mv (.t 32)),
     .r 9 (.mv (.c (.d (.int .i64 0))))])
  .ret)))))
theorem fit_interchangeref2_join : fits Tryz.prog 18 Tryz.f18 sc_interchangeref2_join [.t 8, .t 9] 4 = true := by kernel_rfl

set_option maxRecDepth 100000 in
set_option maxHeartbeats 40000000 in
noncomputable def sims_G6_3_0 : (∀ (x0 : List Tapi_Segment) (x1 : Tapi_Marks) (x2 : Bool) (x3 : Int), {m : Option ((Option Tinterchangeref2_writer) × Int) // ∀ r, m = some r → PureSpec Tryz.prog 18 [.slice (List.map rTapi_Segment x0), .agg (rTapi_Marks x1), .bool x2, .int .i64 x3] (.tup [(optP rTinterchangeref2_writer r.1), .int .i64 r.2])}) := by
  (intro x0 x1 x2 x3; apply Subtype.mk; intro r hm; apply pure_walk Tryz.func18 fit_interchangeref2_join; unfold sc_interchangeref2_join)
  repeat' (first | with_reducible refine W_seq ?_ | with_reducible refine W_reg ?_ | with_reducible refine W_skip ?_ | with_reducible refine W_ret ?_ | with_reducible refine O_nil ?_ | with_reducible refine K_seq ?_ | with_reducible refine K_seqR ?_ | with_reducible refine O_o2r ?_ | ((with_reducible apply O_nilcO hm); (simp only [push_cast, seval]; rfl); intro a hm) | ((with_reducible apply O_r); (simp only [push_cast, seval]; rfl); (first | exact trivial)) | ((with_reducible apply O_and hm); (simp only [push_cast, seval]; rfl); rfl; intro v hm; rotate_left; intro v g hm) | ((with_reducible apply O_cF hm); (simp only [push_cast, seval]; rfl); (first | apply spec_interchangeref2_written _ _ _); (any_goals ((repeat' (first | rfl)); done)); intro x hm) | ((with_reducible apply S_condB hm); (simp only [push_cast, seval]; rfl); intro hm; rotate_left; intro hm) | ((with_reducible apply K_end2 hm); (focus (simp only [resOf, resL, RV.get, push_cast, seval]; rfl)); (focus (first | (dsimp only; done))); (focus ((repeat' (first | rfl | (with_reducible first | apply f_optN | apply f_tup | apply f_cons))); done))) | ((with_reducible apply K_bool hm); (simp only [push_cast, seval]; rfl)))
noncomputable def m_interchangeref2_join (x0 : List Tapi_Segment) (x1 : Tapi_Marks) (x2 : Bool) (x3 : Int) : Option ((Option Tinterchangeref2_writer) × Int) := (sims_G6_3_0 x0 x1 x2 x3).1
theorem spec_interchangeref2_join (x0 : List Tapi_Segment) (x1 : Tapi_Marks) (x2 : Bool) (x3 : Int) : ∀ r, m_interchangeref2_join x0 x1 x2 x3 = some r → PureSpec Tryz.prog 18 [.slice (List.map rTapi_Segment x0), .agg (rTapi_Marks x1), .bool x2, .int .i64 x3] (.tup [(optP rTinterchangeref2_writer r.1), .int .i64 r.2]) := (sims_G6_3_0 x0 x1 x2 x3).2

def sc_wire_written_L1 : SC :=
  (.seq (.reg [.r 57 (.bin .lss (.t 56) (.t 55))])
  (.seq (.cond (.t 57)
    .skip
    (.exit 4))
  (.seq (.block 5 (.seq (.reg [.r 58 (.idx 1 (.t 54) (.t 56)),
       .o 59 (.ld1 (.t 58)),
       .r 17 (.mv (.t 59))])
    (.reg (.r 60 (.mv (.t 11)) :: .r 61 (.mv (.t 11)) :: .r 62 (.nilc (.t 61)) :: .r 63 (.fld 9 (.t 62)) :: .o 64 (.ld1 (.t 63)) :: .r 65 (.mv (.t 64)) :: gapp [66, 67, 68, 69, 70, 71, 72, 73] 65 false (.r 66 (.fld 3 (.t 5)) :: .r 67 (.ld1 (.t 66)) :: .r 68 (.bin .eql (.t 67) (.c (.d (.int .u8 0)))) :: .r 69 (.mv (.t 68)) :: gapp [70, 71, 72] 69 true (.r 70 (.mv (.t 17)) :: .r 71 (.mkfn 40 [.t 5]) :: .c 72 (.f 39) [.t 70, .t 71] :: []) (.r 73 (.pick (.t 69) (.t 72) (.c (.d (.bool false)))) :: [])) (.r 74 (.pick (.t 65) (.c (.d (.bool true))) (.t 73)) :: .r 75 (.nilc (.t 60)) :: .r 76 (.fld 9 (.t 75)) :: .w 0 (.st 1 (.t 76) (.t 74)) :: [])))))
  (.reg [.r 77 (.bin .add (.t 56) (.c (.d (.int .i64 1)))),
     .r 56 (.mv (.t 77))]))))
def sc_wire_written_B1 : SC := .block 4 (.loop sc_wire_written_L1)
def sc_wire_written_L2 : SC :=
  (.seq (.reg [.r 50 (.bin .lss (.t 49) (.t 48))])
  (.seq (.cond (.t 50)
    .skip
    (.exit 2))
  (.seq (.block 3 (.seq (.reg [.r 51 (.idx 1 (.t 47) (.t 49)),
       .o 52 (.ldA 1 (.t 51)),
       .w 15 (.boxM (.c (.agg [.nils]))),
       .w 0 (.st 1 (.t 15) (.t 52))])
    (.seq (.reg [.r 53 (.fld 0 (.t 15)),
       .o 54 (.ld1 (.t 53)),
       .r 55 (.len (.t 54)),
       .r 56 (.mv (.c (.d (.int .i64 0))))])
    sc_wire_written_B1)))
  (.reg [.r 78 (.bin .add (.t 49) (.c (.d (.int .i64 1)))),
     .r 49 (.mv (.t 78))]))))
def sc_wire_written_B2 : SC := .block 2 (.loop sc_wire_written_L2)
def sc_wire_written_L3 : SC :=
  (.seq (.reg [.r 31 (.bin .lss (.t 30) (.t 29))])
  (.seq (.cond (.t 31)
    .skip
    (.exit 0))
  (.seq (.block 1 (.seq (.reg [.r 32 (.mv (.t 30)),
       .r 33 (.idx 2 (.t 28) (.t 30)),
       .o 34 (.ldA 2 (.t 33)),
       .w 13 (.boxM (.c (.agg [.d (.str []), .nils]))),
       .r 12 (.mv (.t 32)),
       .w 0 (.st 2 (.t 13) (.t 34))])
    (.seq (.seq (.reg [.r 35 (.mv (.t 11)),
       .r 36 (.nilc (.t 35)),
       .r 37 (.fld 6 (.t 36)),
       .o 38 (.ld1 (.t 37)),
       .r 39 (.len (.t 38)),
       .r 40 (.mv (.t 3)),
       .r 41 (.bin .leq (.t 39) (.t 40))])
    (.cond (.t 41)
      (.seq (.reg [.r 42 (.mv (.t 11)),
         .r 43 (.mv (.t 12)),
         .o 44 (.ldA 2 (.t 13)),
         .p (some 45) (.f 38) [.t 42, .t 43, .t 44]])
      (.exit 1))
      .skip))
    (.seq (.reg [.r 46 (.fld 1 (.t 13)),
       .o 47 (.ld1 (.t 46)),
       .r 48 (.len (.t 47)),
       .r 49 (.mv (.c (.d (.int .i64 0))))])
    sc_wire_written_B2))))
  (.reg [.r 79 (.bin .add (.t 30) (.c (.d (.int .i64 1)))),
     .r 30 (.mv (.t 79))]))))
def sc_wire_written_B3 : SC := .block 0 (.loop sc_wire_written_L3)
/-- interchange/wire.written -/
def sc_wire_written : SC :=
  (.seq (.reg [.r 5 (.boxI (.t 1)),
     .r 8 (.mv (.c (.d (.raw (.pointer none))))),
     .r 9 (.mv (.c (.d (.int .i64 0))))])
  (.seq (.seq (.reg [.r 18 (.mv (.t 0)),
     .o 19 (.ldA 5 (.t 5)),
     .c 20 (.f 37) [.t 18, .t 19],
     .r 10 (.mv (.t 20))])
  (.seq (.reg [.r 21 (.mv (.t 10)),
     .r 22 (.bin .neq (.t 21) (.c (.d (.int .i64 0))))])
  (.cond (.t 22)
    (.seq (.reg [.r 23 (.mv (.t 10)),
       .r 8 (.mv (.c (.d (.raw (.pointer none))))),
       .r 9 (.mv (.t 23))])
    .ret)
    .skip)))
  (.seq (.reg [.o 24 (.ldA 5 (.t 5)),
     .r 25 (.mv (.t 2)),
     .r 26 (.build [.d (.int .u8 0), .d (.int .u8 0), .d (.int .u8 0), .d (.int .u8 0), .d (.int .u8 0), .d (.bool false), .nils, .nils, .nils, .d (.bool false)] [(0, 5, .t 24), (5, 1, .t 25)]),
     .w 27 (.boxM (.t 26)),
     .r 11 (.mv (.t 27))])
  (.seq (.seq (.reg [.r 28 (.mv (.t 0)),
     .r 29 (.len (.t 28)),
     .r 30 (.mv (.c (.d (.int .i64 0))))])
  sc_wire_written_B3)
  (.seq (.seq (.reg [.r 80 (.mv (.t 11)),
     .r 81 (.nilc (.t 80)),
     .r 82 (.fld 9 (.t 81)),
     .o 83 (.ld1 (.t 82))])
  (.cond (.t 83)
    (.seq (.reg [.r 8 (.mv (.c (.d (.raw (.pointer none))))),
       .r 9 (.mv (.c (.d (.int .i64 3))))])
    .ret)
    .skip))
  (.seq (.seq (.reg [.r 84 (.mv (.t 11)),
     .r 85 (.nilc (.t 84)),
     .r 86 (.fld 6 (.t 85)),
     .o 87 (.ld1 (.t 86)),
     .r 88 (.len (.t 87)),
     .r 89 (.mv (.t 3)),
     .r 90 (.bin .gtr (.t 88) (.t 89))])
  (.cond (.t 90)
    (.seq (.reg [.r 8 (.mv (.c (.d (.raw (.pointer none))))),
       .r 9 (.mv (.c (.d (.int .i64 2))))])
    .ret)
    .skip))
  (.seq (.reg [.r 91 (.mv (.t 11)),
     .r 8 (.mv (.t 91)),
     .r 9 (.mv (.c (.d (.int .i64 0))))])
  .ret)))))))
theorem fit_wire_written : fits Tryz.prog 16 Tryz.f16 sc_wire_written [.t 8, .t 9] 4 = true := by kernel_rfl

set_option maxRecDepth 100000 in
set_option maxHeartbeats 40000000 in
noncomputable def sims_G6_3_1 : (∀ (x0 : List Tapi_Segment) (x1 : Tapi_Marks) (x2 : Bool) (x3 : Int), {m : Option ((Option Twire_writer) × Int) // ∀ r, m = some r → PureSpec Tryz.prog 16 [.slice (List.map rTapi_Segment x0), .agg (rTapi_Marks x1), .bool x2, .int .i64 x3] (.tup [(optP rTwire_writer r.1), .int .i64 r.2])}) := by
  (intro x0 x1 x2 x3; apply Subtype.mk; intro r hm; apply pure_walk Tryz.func16 fit_wire_written; unfold sc_wire_written)
  repeat' (first | ((with_reducible apply W_openBs (id := 27) (cid := 1870) (off := 6) (n := 1) (e := 5)); (focus (simp only [push_cast, seval]; (try rfl); done)); (focus (simp only [push_cast, seval]; (try rfl); done)); (focus decide); (focus rfl); (focus (intro _; rfl)); (focus (simp only [push_cast, seval]; (try rfl); done))) | ((with_reducible apply W_nilB (id := 27) (cid := 1870) (off := 6) (n := 1) (e := 5)); (focus (simp only [push_cast, seval]; (try rfl); done)); (focus (simp only [push_cast, seval]; (try rfl); done)); (focus decide); (focus (simp only [push_cast, seval]; (try rfl); done))) | ((with_reducible apply W_openBs (id := 27) (cid := 1871) (off := 7) (n := 6) (e := 100)); (focus (simp only [push_cast, seval]; (try rfl); done)); (focus (simp only [push_cast, seval]; (try rfl); done)); (focus decide); (focus rfl); (focus (intro _; rfl)); (focus (simp only [push_cast, seval]; (try rfl); done))) | ((with_reducible apply W_nilB (id := 27) (cid := 1871) (off := 7) (n := 6) (e := 100)); (focus (simp only [push_cast, seval]; (try rfl); done)); (focus (simp only [push_cast, seval]; (try rfl); done)); (focus decide); (focus (simp only [push_cast, seval]; (try rfl); done))) | ((with_reducible apply W_openBs (id := 27) (cid := 1872) (off := 8) (n := 1) (e := 3)); (focus (simp only [push_cast, seval]; (try rfl); done)); (focus (simp only [push_cast, seval]; (try rfl); done)); (focus decide); (focus rfl); (focus (intro _; rfl)); (focus (simp only [push_cast, seval]; (try rfl); done))) | ((with_reducible apply W_nilB (id := 27) (cid := 1872) (off := 8) (n := 1) (e := 3)); (focus (simp only [push_cast, seval]; (try rfl); done)); (focus (simp only [push_cast, seval]; (try rfl); done)); (focus decide); (focus (simp only [push_cast, seval]; (try rfl); done))) | with_reducible refine W_seq ?_ | with_reducible refine W_reg ?_ | with_reducible refine W_block ?_ | with_reducible refine W_skip ?_ | with_reducible refine W_ret ?_ | with_reducible refine W_exit ?_ | with_reducible refine O_nil ?_ | with_reducible refine K_seq ?_ | with_reducible refine K_seqE ?_ | with_reducible refine K_seqR ?_ | with_reducible refine K_block ?_ | with_reducible refine K_blockE ?_ | with_reducible refine O_o2r ?_ | ((with_reducible apply O_idxr hm); (iterate 2 (simp only [push_cast, seval]; rfl)); (intro _; rfl); intro e hm) | ((with_reducible apply O_r); (simp only [push_cast, seval]; rfl); (first | exact trivial)) | ((with_reducible apply O_and hm); (simp only [push_cast, seval]; rfl); rfl; intro v hm; rotate_left; intro v g hm) | ((with_reducible apply O_or hm); (simp only [push_cast, seval]; rfl); rfl; intro v hm; rotate_left; intro v g hm) | ((with_reducible apply O_cF hm); (simp only [push_cast, seval]; rfl); (first | apply spec_wire_checkBoth _ _ | apply spec_slices_ContainsFunc_string_string _ _ _ _ (fun a0 r h => spec_wire_written_1 a0 _ r h)); (any_goals ((repeat' (first | rfl)); done)); intro x hm) | ((with_reducible apply O_w); (simp only [push_cast, seval]; rfl); (first | exact trivial)) | ((with_reducible apply S_condB hm); (simp only [push_cast, seval]; rfl); intro hm; rotate_left; intro hm) | ((with_reducible apply K_end2 hm); (focus (simp only [resOf, resL, RV.get, push_cast, seval]; rfl)); (focus (first | (dsimp only; done))); (focus ((repeat' (first | rfl | (with_reducible first | apply fT_Twire_writer | apply f_optN | apply f_optS | apply f_tup | apply f_cons))); done))) | ((with_reducible apply K_bool hm); (simp only [push_cast, seval]; rfl)) | ((with_reducible apply K_leave hm); intro r hm) | ((apply S_loopY (b := 4) (X := sc_wire_written_B1) (x := sc_wire_written_L1) rfl (fun (c : SV × SV × SV × SV × SV × SV × SV × SV × SV × SV) (s : Tapi_Marks × Bool × (List UInt8) × (List Twire_place) × (List Int) × Bool × Int) => st [(3, c.1), (5, c.2.1), (11, .ref 27 0), (28, c.2.2.1), (29, c.2.2.2.1), (30, c.2.2.2.2.1), (47, c.2.2.2.2.2.1), (48, c.2.2.2.2.2.2.1), (49, c.2.2.2.2.2.2.2.1), (54, c.2.2.2.2.2.2.2.2.1), (55, c.2.2.2.2.2.2.2.2.2), (56, .d (.int .i64 s.2.2.2.2.2.2))] [(1870, .vec 5 1 (vrow rowY s.2.2.1)), (1871, .vec 100 6 (vrow rTwire_place s.2.2.2.1)), (1872, .vec 3 1 (vrow rowI s.2.2.2.2.1)), (27, .box (bT_Twire_writer s.1 s.2.1 1870 1871 1872 s.2.2.2.2.2.1))]) (c := (_, _, _, _, _, _, _, _, _, _)) (s0 := (_, _, _, _, _, _, _)) hm); (focus (first | (dsimp only; done))); (with_reducible refine Then.mk ?_ ?_)) | ((apply S_loopY (b := 2) (X := sc_wire_written_B2) (x := sc_wire_written_L2) rfl (fun (c : SV × SV × SV × SV × SV × SV × SV) (s : Tapi_Marks × Bool × (List UInt8) × (List Twire_place) × (List Int) × Bool × Int) => st [(3, c.1), (5, c.2.1), (11, .ref 27 0), (28, c.2.2.1), (29, c.2.2.2.1), (30, c.2.2.2.2.1), (47, c.2.2.2.2.2.1), (48, c.2.2.2.2.2.2), (49, .d (.int .i64 s.2.2.2.2.2.2))] [(1870, .vec 5 1 (vrow rowY s.2.2.1)), (1871, .vec 100 6 (vrow rTwire_place s.2.2.2.1)), (1872, .vec 3 1 (vrow rowI s.2.2.2.2.1)), (27, .box (bT_Twire_writer s.1 s.2.1 1870 1871 1872 s.2.2.2.2.2.1))]) (c := (_, _, _, _, _, _, _)) (s0 := (_, _, _, _, _, _, _)) hm); (focus (first | (dsimp only; done))); (with_reducible refine Then.mk ?_ ?_)) | ((apply S_loopY (b := 0) (X := sc_wire_written_B3) (x := sc_wire_written_L3) rfl (fun (c : SV × SV × SV × SV) (s : Tapi_Marks × Bool × (List UInt8) × (List Twire_place) × (List Int) × Bool × Int) => st [(3, c.1), (5, c.2.1), (11, .ref 27 0), (28, c.2.2.1), (29, c.2.2.2), (30, .d (.int .i64 s.2.2.2.2.2.2))] [(1870, .vec 5 1 (vrow rowY s.2.2.1)), (1871, .vec 100 6 (vrow rTwire_place s.2.2.2.1)), (1872, .vec 3 1 (vrow rowI s.2.2.2.2.1)), (27, .box (bT_Twire_writer s.1 s.2.1 1870 1871 1872 s.2.2.2.2.2.1))]) (c := (_, _, _, _)) (s0 := (_, _, _, _, _, _, _)) hm); (focus (first | (dsimp only; done))); (with_reducible refine Then.mk ?_ ?_)) | ((apply K_next (s' := (_, _, _, _, _, _, _)) hm); (focus (first | (dsimp only; done)))) | ((apply K_brk (s' := (_, _, _, _, _, _, _)) hm); (focus (first | (dsimp only; done)))) | (((with_reducible apply O_pM hm (id := 27) (ms := [.sh, .sh, .sh, .sh, .sh, .sh, .sl 5 (List.replicate 1 .sh), .sl 100 (List.replicate 6 .sh), .sl 3 (List.replicate 1 .sh), .sh])); (focus ((try ((apply Imp.trans); (focus ((apply imp_closeBs (id := 27) (cid := 1870) (off := 6) (n := 1) (e := 5)); (focus (simp only [push_cast, seval]; (try rfl); done)); (focus (simp only [push_cast, seval]; (try rfl); done)); (focus decide); (focus (simp only [push_cast, seval]; (try rfl); done)); (focus ((repeat' (first | (with_reducible first | apply r_rfl))); done)); (focus (intro _; rfl)); (focus (simp only [push_cast, seval]; (try rfl); done)))))); (try ((apply Imp.trans); (focus ((apply imp_closeBs (id := 27) (cid := 1871) (off := 7) (n := 6) (e := 100)); (focus (simp only [push_cast, seval]; (try rfl); done)); (focus (simp only [push_cast, seval]; (try rfl); done)); (focus decide); (focus (simp only [push_cast, seval]; (try rfl); done)); (focus ((repeat' (first | (with_reducible first | apply r_rfl))); done)); (focus (intro _; rfl)); (focus (simp only [push_cast, seval]; (try rfl); done)))))); (try ((apply Imp.trans); (focus ((apply imp_closeBs (id := 27) (cid := 1872) (off := 8) (n := 1) (e := 3)); (focus (simp only [push_cast, seval]; (try rfl); done)); (focus (simp only [push_cast, seval]; (try rfl); done)); (focus decide); (focus (simp only [push_cast, seval]; (try rfl); done)); (focus ((repeat' (first | (with_reducible first | apply r_rfl))); done)); (focus (intro _; rfl)); (focus (simp only [push_cast, seval]; (try rfl); done)))))); exact Imp.refl _)); (focus (simp only [push_cast, seval]; (try rfl); done)); (focus (simp only [push_cast, seval]; (try rfl); done)); (focus (simp only [push_cast, seval]; (try rfl); done)); (focus ((repeat' (first | (with_reducible first | apply oT_Twire_writer | apply cT_Tapi_Marks) | ((with_reducible apply svle_eq); (focus (first | rfl)); (focus ((repeat' (first | rfl)); done))) | ((with_reducible apply cle_own); (focus rfl); (focus ((repeat' (first | rfl)); done))))); done)); (focus rfl); (first | apply spec_interchange_wire_writer_segment _ _ _); (any_goals (focus ((repeat' (first | rfl)); done))); (focus (intro _; exact ⟨rfl, rfl, rfl⟩)); intro y hm)) | (((with_reducible apply LoopB.of); (focus (first | (dsimp only; done))); (focus ((intro _; repeat' (first | with_reducible exact impC_end | with_reducible refine impC_seq ?_ | with_reducible refine impC_block ?_ | ((with_reducible refine impC_rnd ?_); intro _) | ((with_reducible refine impC_brk ?_); intro _))))); (intro s o hm; first | unfold sc_wire_written_L1 | unfold sc_wire_written_L2 | unfold sc_wire_written_L3); rotate_left; intro s hm)) | (((apply imp_stT; (repeat' (first | with_reducible exact keepT_nil | with_reducible exact keepC_nil | with_reducible apply keepT_cons | with_reducible apply keepC_cons | ((with_reducible apply svle_eq); (focus (first | (simp only [push_cast, seval]; rfl))); (focus ((repeat' (first | rfl)); done))) | ((with_reducible apply chle_eq); (focus (first | (simp only [push_cast, seval]; rfl))); (first | with_reducible exact chle_rfl rfl | with_reducible apply chle_vec)) | (with_reducible first | apply r_nil))); done))))
noncomputable def m_wire_written (x0 : List Tapi_Segment) (x1 : Tapi_Marks) (x2 : Bool) (x3 : Int) : Option ((Option Twire_writer) × Int) := (sims_G6_3_1 x0 x1 x2 x3).1
theorem spec_wire_written (x0 : List Tapi_Segment) (x1 : Tapi_Marks) (x2 : Bool) (x3 : Int) : ∀ r, m_wire_written x0 x1 x2 x3 = some r → PureSpec Tryz.prog 16 [.slice (List.map rTapi_Segment x0), .agg (rTapi_Marks x1), .bool x2, .int .i64 x3] (.tup [(optP rTwire_writer r.1), .int .i64 r.2]) := (sims_G6_3_1 x0 x1 x2 x3).2

end Go.Proofs.YtlmmfddbpagiaaaGreatDoor

/-
  Bodies of functions and what they compute, printed by programs of mine (wip/tool/gen.py, sc.py) out of the translation; the kernel holds each against the translation.
-/
namespace Go.Proofs.YtlmmfddbpagiaaaGreatDoor
open Go.RowKit
set_option linter.unusedSimpArgs false
set_option linter.unusedVariables false
/-- interchange/wire.Pack -/
def sc_wire_Pack : SC :=
  (.seq (.reg [.r 3 (.boxI (.t 0)),
     .r 4 (.boxI (.t 1)),
     .r 6 (.mv (.c (.nils))),
     .r 7 (.mv (.c (.d (.int .i64 0))))])
  (.seq (.seq (.reg [.o 12 (.ldA 7 (.t 3)),
     .c 13 (.f 8) [.t 12],
     .r 8 (.mv (.t 13))])
  (.seq (.reg [.r 14 (.mv (.t 8)),
     .r 15 (.bin .neq (.t 14) (.c (.d (.int .i64 0))))])
  (.cond (.t 15)
    (.seq (.reg [.r 16 (.mv (.t 8)),
       .r 6 (.mv (.c (.nils))),
       .r 7 (.mv (.t 16))])
    .ret)
    .skip)))
  (.seq (.reg [.o 18 (.ldA 5 (.t 4)),
     .p (some 19) (.f 15) [.t 18],
     .r 17 (.mv (.t 19)),
     .r 20 (.ext (.t 17) 0),
     .r 21 (.ext (.t 17) 1),
     .r 9 (.mv (.t 20)),
     .r 10 (.mv (.t 21))])
  (.seq (.seq (.reg [.r 22 (.mv (.t 10)),
     .r 23 (.bin .neq (.t 22) (.c (.d (.int .i64 0))))])
  (.cond (.t 23)
    (.seq (.reg [.r 24 (.mv (.t 10)),
       .r 6 (.mv (.c (.nils))),
       .r 7 (.mv (.t 24))])
    .ret)
    .skip))
  (.seq (.regD [.r 26 (.ldA 7 (.t 3)),
     .c 27 (.f 13) [.t 26],
     .r 28 (.ldA 5 (.t 4)),
     .r 29 (.mv (.t 2)),
     .c 30 (.f 16) [.t 27, .t 28, .t 29, .c (.d (.int .i64 499992))],
     .r 25 (.mv (.t 30)),
     .r 31 (.ext (.t 25) 0),
     .r 32 (.ext (.t 25) 1),
     .r 11 (.mv (.t 31)),
     .r 10 (.mv (.t 32))])
  (.seq (.seq (.reg [.r 33 (.mv (.t 10)),
     .r 34 (.bin .neq (.t 33) (.c (.d (.int .i64 0))))])
  (.cond (.t 34)
    (.seq (.reg [.r 35 (.mv (.t 10)),
       .r 6 (.mv (.c (.nils))),
       .r 7 (.mv (.t 35))])
    .ret)
    .skip))
  (.seq (.reg [.r 36 (.mv (.t 9)),
     .r 37 (.mv (.t 11)),
     .r 38 (.nilc (.t 37)),
     .r 39 (.fld 6 (.t 38)),
     .o 40 (.ld1 (.t 39)),
     .w 41 (.app 5 1 (.t 36) (.t 40)),
     .r 6 (.mv (.t 41)),
     .r 7 (.mv (.c (.d (.int .i64 0))))])
  .ret)))))))
theorem fit_wire_Pack : fits Tryz.prog 6 Tryz.f6 sc_wire_Pack [.t 6, .t 7] 3 = true := by kernel_rfl

/-- interchange/interchangeref2.Pack -/
def sc_interchangeref2_Pack : SC :=
  (.seq (.reg [.r 3 (.boxI (.t 0)),
     .r 4 (.boxI (.t 1)),
     .r 6 (.mv (.c (.nils))),
     .r 7 (.mv (.c (.d (.int .i64 0))))])
  (.seq (.seq (.reg [.o 12 (.ldA 7 (.t 3)),
     .c 13 (.f 9) [.t 12],
     .r 8 (.mv (.t 13))])
  (.seq (.reg [.r 14 (.mv (.t 8)),
     .r 15 (.bin .neq (.t 14) (.c (.d (.int .i64 0))))])
  (.cond (.t 15)
    (.seq (.reg [.r 16 (.mv (.t 8)),
       .r 6 (.mv (.c (.nils))),
       .r 7 (.mv (.t 16))])
    .ret)
    .skip)))
  (.seq (.seq (.reg [.o 17 (.ldA 5 (.t 4)),
     .c 18 (.f 17) [.t 17],
     .r 9 (.mv (.t 18))])
  (.seq (.reg [.r 19 (.mv (.t 9)),
     .r 20 (.bin .neq (.t 19) (.c (.d (.int .i64 0))))])
  (.cond (.t 20)
    (.seq (.reg [.r 21 (.mv (.t 9)),
       .r 6 (.mv (.c (.nils))),
       .r 7 (.mv (.t 21))])
    .ret)
    .skip)))
  (.seq (.regD [.r 23 (.ldA 7 (.t 3)),
     .c 24 (.f 14) [.t 23],
     .r 25 (.ldA 5 (.t 4)),
     .r 26 (.mv (.t 2)),
     .c 27 (.f 18) [.t 24, .t 25, .t 26, .c (.d (.int .i64 499992))],
     .r 22 (.mv (.t 27)),
     .r 28 (.ext (.t 22) 0),
     .r 29 (.ext (.t 22) 1),
     .r 10 (.mv (.t 28)),
     .r 11 (.mv (.t 29))])
  (.seq (.seq (.reg [.r 30 (.mv (.t 11)),
     .r 31 (.bin .neq (.t 30) (.c (.d (.int .i64 0))))])
  (.cond (.t 31)
    (.seq (.reg [.r 32 (.mv (.t 11)),
       .r 6 (.mv (.c (.nils))),
       .r 7 (.mv (.t 32))])
    .ret)
    .skip))
  (.seq (.regP [0, 2, 3, 4, 5, 1, 6, 7, 8] [.r 33 (.ldA 5 (.t 4)),
     .r 35 (.mv (.t 10)),
     .r 36 (.nilc (.t 35)),
     .r 37 (.fld 5 (.t 36)),
     .r 38 (.ld1 (.t 37)),
     .q 34 (.f 19) [.t 33] [(1, 35, .mv (.t 10)), (2, 36, .nilc (.t 35)), (3, 37, .fld 5 (.t 36)), (4, 38, .ld1 (.t 37))],
     .x 39 (.app 5 1 (.t 34) (.t 38)) [],
     .r 6 (.mv (.t 39)),
     .r 7 (.mv (.c (.d (.int .i64 0))))])
  .ret))))))
theorem fit_interchangeref2_Pack : fits Tryz.prog 7 Tryz.f7 sc_interchangeref2_Pack [.t 6, .t 7] 3 = true := by kernel_rfl

set_option maxRecDepth 100000 in
set_option maxHeartbeats 40000000 in
noncomputable def sims_G7_1_0 : (∀ (x0 : Tapi_Interchange) (x1 : Tapi_Marks) (x2 : Bool), {m : Option ((List UInt8) × Int) // ∀ r, m = some r → PureSpec Tryz.prog 6 [.agg (rTapi_Interchange x0), .agg (rTapi_Marks x1), .bool x2] (.tup [.slice (List.map rowY r.1), .int .i64 r.2])}) × (∀ (x0 : Tapi_Interchange) (x1 : Tapi_Marks) (x2 : Bool), {m : Option ((List UInt8) × Int) // ∀ r, m = some r → PureSpec Tryz.prog 7 [.agg (rTapi_Interchange x0), .agg (rTapi_Marks x1), .bool x2] (.tup [.slice (List.map rowY r.1), .int .i64 r.2])}) := by
  refine ⟨?g0, ?g1⟩
  case' g0 => (intro x0 x1 x2; apply Subtype.mk; intro r hm; apply pure_walk Tryz.func6 fit_wire_Pack; unfold sc_wire_Pack)
  case' g1 => (intro x0 x1 x2; apply Subtype.mk; intro r hm; apply pure_walk Tryz.func7 fit_interchangeref2_Pack; unfold sc_interchangeref2_Pack)
  all_goals (repeat' (first | with_reducible refine W_seq ?_ | with_reducible refine W_reg ?_ | with_reducible refine W_regD ?_ | with_reducible refine W_regP ?_ | with_reducible refine W_skip ?_ | with_reducible refine W_ret ?_ | with_reducible refine O_nil ?_ | with_reducible refine K_seq ?_ | with_reducible refine K_seqR ?_ | with_reducible refine O_o2r ?_ | ((with_reducible apply O_nilcOE hm); (simp only [push_cast, seval]; rfl); intro a ha hm) | ((with_reducible apply O_r); (simp only [push_cast, seval]; rfl); (first | exact trivial)) | ((with_reducible apply O_cF hm); (simp only [push_cast, seval]; rfl); (first | apply spec_wire_CheckInterchange _ | apply spec_wire_segments _ | apply spec_wire_written _ _ _ _ | apply spec_interchangeref2_CheckInterchange _ | apply spec_interchangeref2_CheckMarks _ | apply spec_interchangeref2_segments _ | apply spec_interchangeref2_join _ _ _ _); (any_goals ((repeat' (first | rfl)); done)); intro x hm) | ((with_reducible apply O_appV hm); (iterate 4 (simp only [push_cast, seval]; rfl)); (focus ((repeat' (first | rfl)); done)); decide; (intro _; rfl); intro hm) | ((with_reducible apply O_appVX hm); (iterate 2 (simp only [push_cast, seval]; rfl)); (focus ((repeat' (first | rfl)); done)); (simp only [push_cast, seval]; rfl); (focus ((repeat' (first | rfl)); done)); (intro _; rfl); (focus ((repeat' (first | exact Rer_nil)); done)); intro hm) | ((with_reducible apply S_condB hm); (simp only [push_cast, seval]; rfl); intro hm; rotate_left; intro hm) | ((with_reducible apply K_end2 hm); (focus (simp only [resOf, resL, RV.get, push_cast, seval]; rfl)); (focus (first | (dsimp only; done))); (focus ((repeat' (first | rfl | (with_reducible first | apply f_tup | apply dv_slice | apply f_cons | apply fold_nil))); done))) | (((with_reducible apply O_pS hm (e := 5) (n := 1) (row := rowY) (l := fun y : (List UInt8) × Int => y.1)); (focus (simp only [push_cast, seval]; rfl)); (focus (apply fspec_wire_Heading)); (focus ((repeat' (first | rfl)); done)); (iterate 4 (focus (intro _; rfl))); intro y hm)) | (((with_reducible apply O_qO hm (l := fun y => y)); (focus (simp only [push_cast, seval]; rfl)); (focus (apply fspec_interchangeref2_heading)); (any_goals (focus ((repeat' (first | rfl)); done))); (any_goals (focus (intro _; rfl))); (focus (intro _; (repeat' (first | exact Rer_nil | ((with_reducible apply Rer_nilc); (focus (simp only [push_cast, seval]; rfl)); (focus assumption); (focus (simp only [push_cast, seval]; (try rfl); done))) | ((with_reducible apply Rer_cons); (focus (simp only [push_cast, seval]; rfl)); (focus (first | exact trivial)); (focus (simp only [push_cast, seval]))))))); intro y hm))))
noncomputable def m_wire_Pack (x0 : Tapi_Interchange) (x1 : Tapi_Marks) (x2 : Bool) : Option ((List UInt8) × Int) := (sims_G7_1_0.1 x0 x1 x2).1
theorem spec_wire_Pack (x0 : Tapi_Interchange) (x1 : Tapi_Marks) (x2 : Bool) : ∀ r, m_wire_Pack x0 x1 x2 = some r → PureSpec Tryz.prog 6 [.agg (rTapi_Interchange x0), .agg (rTapi_Marks x1), .bool x2] (.tup [.slice (List.map rowY r.1), .int .i64 r.2]) := (sims_G7_1_0.1 x0 x1 x2).2
noncomputable def m_interchangeref2_Pack (x0 : Tapi_Interchange) (x1 : Tapi_Marks) (x2 : Bool) : Option ((List UInt8) × Int) := (sims_G7_1_0.2 x0 x1 x2).1
theorem spec_interchangeref2_Pack (x0 : Tapi_Interchange) (x1 : Tapi_Marks) (x2 : Bool) : ∀ r, m_interchangeref2_Pack x0 x1 x2 = some r → PureSpec Tryz.prog 7 [.agg (rTapi_Interchange x0), .agg (rTapi_Marks x1), .bool x2] (.tup [.slice (List.map rowY r.1), .int .i64 r.2]) := (sims_G7_1_0.2 x0 x1 x2).2

/-- interchange/interchangelaw2.WireInterchangesMatchSpec -/
def sc_interchangelaw2_WireInterchangesMatchSpec : SC :=
  (.seq (.reg [.r 3 (.boxI (.t 0)),
     .r 4 (.boxI (.t 1)),
     .r 6 (.mv (.c (.d (.bool false))))])
  (.seq (.reg [.o 16 (.ldA 7 (.t 3)),
     .c 17 (.f 4) [.t 16],
     .r 15 (.mv (.t 17)),
     .r 18 (.ext (.t 15) 0),
     .r 19 (.ext (.t 15) 1),
     .r 7 (.mv (.t 18)),
     .r 8 (.mv (.t 19))])
  (.seq (.reg [.o 21 (.ldA 7 (.t 3)),
     .c 22 (.f 5) [.t 21],
     .r 20 (.mv (.t 22)),
     .r 23 (.ext (.t 20) 0),
     .r 24 (.ext (.t 20) 1),
     .r 9 (.mv (.t 23)),
     .r 10 (.mv (.t 24))])
  (.seq (.reg [.o 26 (.ldA 7 (.t 3)),
     .o 27 (.ldA 5 (.t 4)),
     .r 28 (.mv (.t 2)),
     .c 29 (.f 6) [.t 26, .t 27, .t 28],
     .r 25 (.mv (.t 29)),
     .r 30 (.ext (.t 25) 0),
     .r 31 (.ext (.t 25) 1),
     .r 11 (.mv (.t 30)),
     .r 12 (.mv (.t 31))])
  (.seq (.reg [.o 33 (.ldA 7 (.t 3)),
     .o 34 (.ldA 5 (.t 4)),
     .r 35 (.mv (.t 2)),
     .c 36 (.f 7) [.t 33, .t 34, .t 35],
     .r 32 (.mv (.t 36)),
     .r 37 (.ext (.t 32) 0),
     .r 38 (.ext (.t 32) 1),
     .r 13 (.mv (.t 37)),
     .r 14 (.mv (.t 38))])
  (.seq (.regD (.r 39 (.ldA 7 (.t 3)) :: .c 40 (.f 8) [.t 39] :: .r 41 (.ldA 7 (.t 3)) :: .c 42 (.f 9) [.t 41] :: .r 43 (.bin .eql (.t 40) (.t 42)) :: .r 44 (.mv (.t 43)) :: gapp [45, 46, 47] 44 true (.r 45 (.mv (.t 7)) :: .r 46 (.mv (.t 9)) :: .c 47 (.f 10) [.t 45, .t 46] :: []) (.r 48 (.pick (.t 44) (.t 47) (.c (.d (.bool false)))) :: .r 49 (.mv (.t 48)) :: gapp [50, 51, 52] 49 true (.r 50 (.mv (.t 8)) :: .r 51 (.mv (.t 10)) :: .r 52 (.bin .eql (.t 50) (.t 51)) :: []) (.r 53 (.pick (.t 49) (.t 52) (.c (.d (.bool false)))) :: .r 54 (.mv (.t 53)) :: gapp [55, 56, 57] 54 true (.r 55 (.mv (.t 11)) :: .r 56 (.mv (.t 13)) :: .c 57 (.f 11) [.t 55, .t 56] :: []) (.r 58 (.pick (.t 54) (.t 57) (.c (.d (.bool false)))) :: .r 59 (.mv (.t 58)) :: gapp [60, 61, 62] 59 true (.r 60 (.mv (.t 12)) :: .r 61 (.mv (.t 14)) :: .r 62 (.bin .eql (.t 60) (.t 61)) :: []) (.r 63 (.pick (.t 59) (.t 62) (.c (.d (.bool false)))) :: .r 64 (.mv (.t 63)) :: gapp [65] 64 true (.c 65 (.f 12) [] :: []) (.r 66 (.pick (.t 64) (.t 65) (.c (.d (.bool false)))) :: .r 6 (.mv (.t 66)) :: [])))))))
  .ret))))))
theorem fit_interchangelaw2_WireInterchangesMatchSpec : fits Tryz.prog 3 Tryz.f3 sc_interchangelaw2_WireInterchangesMatchSpec [.t 6] 3 = true := by kernel_rfl

set_option maxRecDepth 100000 in
set_option maxHeartbeats 40000000 in
noncomputable def sims_G7_2_0 : (∀ (x0 : Tapi_Interchange) (x1 : Tapi_Marks) (x2 : Bool), {m : Option (Bool) // ∀ r, m = some r → PureSpec Tryz.prog 3 [.agg (rTapi_Interchange x0), .agg (rTapi_Marks x1), .bool x2] (.bool r)}) := by
  (intro x0 x1 x2; apply Subtype.mk; intro r hm; apply pure_walk Tryz.func3 fit_interchangelaw2_WireInterchangesMatchSpec; unfold sc_interchangelaw2_WireInterchangesMatchSpec)
  repeat' (first | with_reducible refine W_seq ?_ | with_reducible refine W_reg ?_ | with_reducible refine W_regD ?_ | with_reducible refine W_ret ?_ | with_reducible refine O_nil ?_ | with_reducible refine K_seq ?_ | with_reducible refine O_o2r ?_ | ((with_reducible apply O_r); (simp only [push_cast, seval]; rfl); (first | exact trivial)) | ((with_reducible apply O_and hm); (simp only [push_cast, seval]; rfl); rfl; intro v hm; rotate_left; intro v g hm) | ((with_reducible apply O_cF hm); (simp only [push_cast, seval]; rfl); (first | apply spec_wire_Segments _ | apply spec_interchangeref2_Segments _ | apply spec_wire_Pack _ _ _ | apply spec_interchangeref2_Pack _ _ _ | apply spec_wire_CheckInterchange _ | apply spec_interchangeref2_CheckInterchange _ | apply spec_interchangeref2_SameSegments _ _ | apply spec_bytes_Equal _ _ | apply spec_interchangelaw2_awake); (any_goals ((repeat' (first | rfl)); done)); intro x hm) | ((with_reducible apply K_endS hm); (focus (simp only [resOf, resL, RV.get, push_cast, seval]; rfl)); (focus ((repeat' (first | rfl)); done))) | ((with_reducible apply K_bool hm); (simp only [push_cast, seval]; rfl)))
noncomputable def m_interchangelaw2_WireInterchangesMatchSpec (x0 : Tapi_Interchange) (x1 : Tapi_Marks) (x2 : Bool) : Option (Bool) := (sims_G7_2_0 x0 x1 x2).1
theorem spec_interchangelaw2_WireInterchangesMatchSpec (x0 : Tapi_Interchange) (x1 : Tapi_Marks) (x2 : Bool) : ∀ r, m_interchangelaw2_WireInterchangesMatchSpec x0 x1 x2 = some r → PureSpec Tryz.prog 3 [.agg (rTapi_Interchange x0), .agg (rTapi_Marks x1), .bool x2] (.bool r) := (sims_G7_2_0 x0 x1 x2).2

end Go.Proofs.YtlmmfddbpagiaaaGreatDoor

/-
  How the parameters of the laws of this seat read, and a world in which the listed tables lie (printed by wip/tool/row.py).
-/
namespace Go.Proofs.YtlmmfddbpagiaaaGreatDoor
open Go.ChangeShapes Go.WideShapes Go.ChangeAt Go.RowKit
set_option linter.unusedSimpArgs false
set_option linter.unusedVariables false
theorem and_t {a b : Bool} (h1 : a = true) (h2 : b = true) : (a && b) = true := by rw [h1, h2]; rfl
/-- How a value of a type reads. -/
def Wt (P : Program) (n : Nat) (t : TypeId) {α : Type} (row : α → List DV) (ok : α → Prop) : Prop := ∀ m ds, WT P (m + n) t ds → ∃ x, ds = row x ∧ ok x
theorem Wt.up {P : Program} {n : Nat} {t : TypeId} {α : Type} {row : α → List DV} {ok : α → Prop} (h : Wt P n t row ok) (k : Nat) : Wt P (n + k) t row ok := fun m ds hd => h (m + k) ds (by rwa [show m + k + n = m + (n + k) by omega])
def okI (n : Int) : Prop := -9223372036854775808 ≤ n ∧ n ≤ 9223372036854775807
def okS (s : List UInt8) : Prop := s.length ≤ 9223372036854775807
def okB (_ : Bool) : Prop := True
def okY (_ : UInt8) : Prop := True
def okL {α : Type} (ok : α → Prop) (l : List α) : Prop := l.length ≤ 9223372036854775807 ∧ ∀ a ∈ l, ok a
theorem WT_struct {P : Program} {n : Nat} {t : TypeId} {fs : Array Field} {ds : List DV} (hu : P.underlying t = some (.struct fs)) (h : WT P (n + 1) t ds) : WTS (WT P n) fs.toList ds := by
  simp only [WT, hu] at h; exact h
theorem wt_int {P : Program} {t : TypeId} (hu : P.underlying t = some (.int .i64)) : Wt P 1 t rowI okI := by
  intro m ds h
  simp only [WT, hu] at h
  obtain ⟨k, rfl, hw⟩ := h
  refine ⟨k, rfl, ?_⟩
  simp [Lit.wf] at hw
  have e : IntKind.i64.min = -9223372036854775808 := by decide
  unfold okI; omega
theorem wt_byte {P : Program} {t : TypeId} (hu : P.underlying t = some (.int .u8)) : Wt P 1 t rowY okY := by
  intro m ds h
  simp only [WT, hu] at h
  obtain ⟨k, rfl, hw⟩ := h
  simp [Lit.wf] at hw
  have e : IntKind.u8.min = 0 := by decide
  have e2 : IntKind.u8.max = 255 := by decide
  refine ⟨UInt8.ofNat k.toNat, ?_, trivial⟩
  have hk : 0 ≤ k ∧ k ≤ 255 := by omega
  unfold rowY
  rw [UInt8.toNat_ofNat_of_lt' (by show k.toNat < 256; omega)]
  congr 2; omega
theorem wt_bool {P : Program} {t : TypeId} (hu : P.underlying t = some .bool) : Wt P 1 t rowB okB := by
  intro m ds h
  simp only [WT, hu] at h
  obtain ⟨b, rfl⟩ := h
  exact ⟨b, rfl, trivial⟩
theorem wt_str {P : Program} {t : TypeId} (hu : P.underlying t = some .string) : Wt P 1 t rowS okS := by
  intro m ds h
  simp only [WT, hu] at h
  obtain ⟨b, rfl, hl⟩ := h
  exact ⟨b, rfl, by unfold okS; unfold maxLen at hl; omega⟩
theorem wt_slice {P : Program} {n : Nat} {t e : TypeId} {α : Type} {row : α → List DV} {ok : α → Prop} (hu : P.underlying t = some (.slice e)) (he : Wt P n e row ok) : Wt P (n + 1) t (rowL row) (okL ok) := by
  intro m ds h
  rw [show m + (n + 1) = (m + n) + 1 by omega] at h
  simp only [WT, hu] at h
  obtain ⟨rows, rfl, hl, hr⟩ := h
  have : ∀ rows : List (List DV), (∀ r ∈ rows, WT P (m + n) e r) → ∃ l : List α, rows = l.map row ∧ ∀ a ∈ l, ok a := by
    intro rows
    induction rows with
    | nil => intro _; exact ⟨[], rfl, by simp⟩
    | cons r rows ih =>
      intro h
      obtain ⟨a, rfl, ha⟩ := he m r (h r (by simp))
      obtain ⟨l, rfl, hl⟩ := ih (fun r hr => h r (by simp [hr]))
      exact ⟨a :: l, rfl, by simpa using ⟨ha, hl⟩⟩
  obtain ⟨l, rfl, hok⟩ := this rows hr
  exact ⟨l, rfl, by unfold maxLen at hl; simp at hl; omega, hok⟩
theorem ownK : ownKnob Tryz.prog.godebug = none := by kernel_rfl
theorem laidOut : laidOutB Tryz.prog = true := by kernel_rfl
theorem wt9 : Wt Tryz.prog 1 9 rowS okS := wt_str Tryz.underlying9
theorem wt3 : Wt Tryz.prog 1 3 rowI okI := wt_int Tryz.underlying3
theorem wt4 : Wt Tryz.prog 1 4 rowB okB := wt_bool Tryz.underlying4
theorem wt77 : Wt Tryz.prog 2 77 (rowL rowS) (okL okS) := wt_slice Tryz.underlying77 wt9
theorem wt81 : Wt Tryz.prog 3 81 (rowL (rowL rowS)) (okL (okL okS)) := wt_slice Tryz.underlying81 wt77
def okTapi_Element (x : Tapi_Element) : Prop := (okL (okL okS)) x.fRepeats
set_option maxRecDepth 100000 in
theorem wt83 : Wt Tryz.prog 4 83 rTapi_Element okTapi_Element := by
  intro m ds h
  have h := WT_struct Tryz.underlying83 h
  simp only [WTS] at h
  obtain ⟨a0, _, rfl, h0, rfl⟩ := h
  obtain ⟨x0, rfl, o0⟩ := (wt81.up 0) m _ h0
  refine ⟨⟨x0⟩, ?_, o0⟩
  simp only [rTapi_Element, rowI, rowY, rowS, rowB, rowL, List.append_assoc, List.cons_append, List.nil_append, List.append_nil]
theorem wt69 : Wt Tryz.prog 5 69 (rowL rTapi_Element) (okL okTapi_Element) := wt_slice Tryz.underlying69 wt83
def okTapi_Segment (x : Tapi_Segment) : Prop := okS x.fTag ∧ (okL okTapi_Element) x.fElements
set_option maxRecDepth 100000 in
theorem wt71 : Wt Tryz.prog 6 71 rTapi_Segment okTapi_Segment := by
  intro m ds h
  have h := WT_struct Tryz.underlying71 h
  simp only [WTS] at h
  obtain ⟨a0, _, rfl, h0, a1, _, rfl, h1, rfl⟩ := h
  obtain ⟨x0, rfl, o0⟩ := (wt9.up 4) m _ h0
  obtain ⟨x1, rfl, o1⟩ := (wt69.up 0) m _ h1
  refine ⟨⟨x0, x1⟩, ?_, o0, o1⟩
  simp only [rTapi_Segment, rowI, rowY, rowS, rowB, rowL, List.append_assoc, List.cons_append, List.nil_append, List.append_nil]
theorem wt27 : Wt Tryz.prog 7 27 (rowL rTapi_Segment) (okL okTapi_Segment) := wt_slice Tryz.underlying27 wt71
def okTapi_Message (x : Tapi_Message) : Prop := okS x.fRef ∧ okS x.fKind ∧ okS x.fVersion ∧ (okL okTapi_Segment) x.fSegments
set_option maxRecDepth 100000 in
theorem wt67 : Wt Tryz.prog 8 67 rTapi_Message okTapi_Message := by
  intro m ds h
  have h := WT_struct Tryz.underlying67 h
  simp only [WTS] at h
  obtain ⟨a0, _, rfl, h0, a1, _, rfl, h1, a2, _, rfl, h2, a3, _, rfl, h3, rfl⟩ := h
  obtain ⟨x0, rfl, o0⟩ := (wt9.up 6) m _ h0
  obtain ⟨x1, rfl, o1⟩ := (wt9.up 6) m _ h1
  obtain ⟨x2, rfl, o2⟩ := (wt9.up 6) m _ h2
  obtain ⟨x3, rfl, o3⟩ := (wt27.up 0) m _ h3
  refine ⟨⟨x0, x1, x2, x3⟩, ?_, o0, o1, o2, o3⟩
  simp only [rTapi_Message, rowI, rowY, rowS, rowB, rowL, List.append_assoc, List.cons_append, List.nil_append, List.append_nil]
theorem wt59 : Wt Tryz.prog 9 59 (rowL rTapi_Message) (okL okTapi_Message) := wt_slice Tryz.underlying59 wt67
def okTapi_Group (x : Tapi_Group) : Prop := okS x.fRef ∧ okS x.fKind ∧ (okL okTapi_Message) x.fMessages
set_option maxRecDepth 100000 in
theorem wt61 : Wt Tryz.prog 10 61 rTapi_Group okTapi_Group := by
  intro m ds h
  have h := WT_struct Tryz.underlying61 h
  simp only [WTS] at h
  obtain ⟨a0, _, rfl, h0, a1, _, rfl, h1, a2, _, rfl, h2, rfl⟩ := h
  obtain ⟨x0, rfl, o0⟩ := (wt9.up 8) m _ h0
  obtain ⟨x1, rfl, o1⟩ := (wt9.up 8) m _ h1
  obtain ⟨x2, rfl, o2⟩ := (wt59.up 0) m _ h2
  refine ⟨⟨x0, x1, x2⟩, ?_, o0, o1, o2⟩
  simp only [rTapi_Group, rowI, rowY, rowS, rowB, rowL, List.append_assoc, List.cons_append, List.nil_append, List.append_nil]
theorem wt22 : Wt Tryz.prog 11 22 (rowL rTapi_Group) (okL okTapi_Group) := wt_slice Tryz.underlying22 wt61
def okTapi_Interchange (x : Tapi_Interchange) : Prop := okS x.fRef ∧ okS x.fSender ∧ okS x.fReceiver ∧ okI x.fDay ∧ okI x.fSecond ∧ okB x.fTest ∧ (okL okTapi_Group) x.fGroups
set_option maxRecDepth 100000 in
theorem wt24 : Wt Tryz.prog 12 24 rTapi_Interchange okTapi_Interchange := by
  intro m ds h
  have h := WT_struct Tryz.underlying24 h
  simp only [WTS] at h
  obtain ⟨a0, _, rfl, h0, a1, _, rfl, h1, a2, _, rfl, h2, a3, _, rfl, h3, a4, _, rfl, h4, a5, _, rfl, h5, a6, _, rfl, h6, rfl⟩ := h
  obtain ⟨x0, rfl, o0⟩ := (wt9.up 10) m _ h0
  obtain ⟨x1, rfl, o1⟩ := (wt9.up 10) m _ h1
  obtain ⟨x2, rfl, o2⟩ := (wt9.up 10) m _ h2
  obtain ⟨x3, rfl, o3⟩ := (wt3.up 10) m _ h3
  obtain ⟨x4, rfl, o4⟩ := (wt3.up 10) m _ h4
  obtain ⟨x5, rfl, o5⟩ := (wt4.up 10) m _ h5
  obtain ⟨x6, rfl, o6⟩ := (wt22.up 0) m _ h6
  refine ⟨⟨x0, x1, x2, x3, x4, x5, x6⟩, ?_, o0, o1, o2, o3, o4, o5, o6⟩
  simp only [rTapi_Interchange, rowI, rowY, rowS, rowB, rowL, List.append_assoc, List.cons_append, List.nil_append, List.append_nil]
theorem wt5 : Wt Tryz.prog 1 5 rowY okY := wt_byte Tryz.underlying5
def okTapi_Marks (x : Tapi_Marks) : Prop := okY x.fElement ∧ okY x.fPart ∧ okY x.fRepeat ∧ okY x.fEscape ∧ okY x.fEnd
set_option maxRecDepth 100000 in
theorem wt26 : Wt Tryz.prog 2 26 rTapi_Marks okTapi_Marks := by
  intro m ds h
  have h := WT_struct Tryz.underlying26 h
  simp only [WTS] at h
  obtain ⟨a0, _, rfl, h0, a1, _, rfl, h1, a2, _, rfl, h2, a3, _, rfl, h3, a4, _, rfl, h4, rfl⟩ := h
  obtain ⟨x0, rfl, o0⟩ := (wt5.up 0) m _ h0
  obtain ⟨x1, rfl, o1⟩ := (wt5.up 0) m _ h1
  obtain ⟨x2, rfl, o2⟩ := (wt5.up 0) m _ h2
  obtain ⟨x3, rfl, o3⟩ := (wt5.up 0) m _ h3
  obtain ⟨x4, rfl, o4⟩ := (wt5.up 0) m _ h4
  refine ⟨⟨x0, x1, x2, x3, x4⟩, ?_, o0, o1, o2, o3, o4⟩
  simp only [rTapi_Marks, rowI, rowY, rowS, rowB, rowL, List.append_assoc, List.cons_append, List.nil_append, List.append_nil]
def layVals : Nat → DataW Unit → List Value
  | 0, _ => []
  | _ + 1, .lit (.int k n) => [.int k n]
  | n + 1, .agg ps => ps.flatMap (layVals n)
  | _ + 1, _ => []
/-- The settled world, with the listed tables in it. -/
def layCells (l : List Value) : Obj → Obj
  | .cells _ t frozen => .cells l.toArray t frozen
  | o => o
noncomputable def laidWorld (os : Os) : World :=
  { World.holding Tryz.prog os ⟨#[], #[], []⟩ with
    heap := ((((((World.holding Tryz.prog os ⟨#[], #[], []⟩).heap.modify 4 (layCells (layVals 5 Rows.laid_math_bits_deBruijn32tab))).modify 5 (layCells (layVals 5 Rows.laid_math_bits_deBruijn64tab))).modify 0 (layCells (layVals 5 Rows.laid_internal_strconv_uint64pow10))).modify 2 (layCells (layVals 5 Rows.laid_unicode_utf8_acceptRanges))).modify 1 (layCells (layVals 5 Rows.laid_unicode_utf8_first))) }
end Go.Proofs.YtlmmfddbpagiaaaGreatDoor

/- Imports alone. -/


/- Imports alone. -/


/-
  Plain laws: small computations, and loops whose rounds are known.
-/
namespace Go.Proofs.YtlmmfddbpagiaaaGreatDoor
set_option linter.unusedSimpArgs false
set_option linter.unusedVariables false
open Go.RowKit

/-! ### Small computations that cannot fail -/
theorem andO_some (a b : Bool) : andO a (some b) = some (a && b) := by cases a <;> rfl
theorem orO_some (a b : Bool) : orO a (some b) = some (a || b) := by cases a <;> rfl
theorem getI_nat {α : Type} (l : List α) (i : Nat) : getI l (i : Int) = l[i]? := by simp [getI]
theorem thenO_some {R : Type} {c : Option Unit} {m : Option R} (h : c = some ()) : thenO c m = m := by rw [h]; rfl
theorem lenO_ok {n : Nat} (h : n ≤ 137438953472) : lenO n = some () := by simp [lenO, h]
theorem wrapN (i : Nat) (h : i < 9223372036854775807) : IntKind.i64.wrap ((i : Int) + 1) = ((i + 1 : Nat) : Int) := by rw [wrap64 _ (by omega) (by omega)]; simp


/-! ### Loops whose rounds are known -/
theorem loop_trace {S A : Type} {f : S → Option (S ⊕ A)} {a : A} (st : Nat → S) (n : Nat) (hs : ∀ i, i < n → f (st i) = some (.inl (st (i + 1)))) (he : f (st n) = some (.inr a)) : loopC f (st 0) = some a := by
  have : ∀ k, k ≤ n → loopC f (st (n - k)) = some a := by
    intro k
    induction k with
    | zero => intro _; rw [loopC_eq, Nat.sub_zero, he]
    | succ k ih =>
      intro hk
      rw [loopC_eq, hs (n - (k + 1)) (by omega), show n - (k + 1) + 1 = n - k by omega]
      exact ih (by omega)
  have := this n (Nat.le_refl n)
  rwa [Nat.sub_self] at this
theorem bind_loop {S A R : Type} {f : S → Option (S ⊕ A)} {s0 : S} {k : A → Option R} {a : A} {r : Option R} (h : loopC f s0 = some a) (hk : k a = r) : (loopC f s0).bind k = r := by rw [h]; exact hk
/-- The first that there is. -/
def firstS {A : Type} (g : Nat → Option A) : Nat → Nat → Option A
  | _, 0 => none
  | i, n + 1 => match g i with
    | some a => some a
    | none => firstS g (i + 1) n
theorem firstS_skip {A : Type} {g : Nat → Option A} : ∀ (i n k : Nat), k ≤ n → (∀ j, i ≤ j → j < i + k → g j = none) → firstS g i n = firstS g (i + k) (n - k)
  | i, n, 0, _, _ => by simp
  | i, 0, k + 1, h, _ => by omega
  | i, n + 1, k + 1, h, hz => by
    have h1 := hz i (by omega) (by omega)
    simp only [firstS, h1]
    rw [firstS_skip (i + 1) n k (by omega) (fun j hj hj' => hz j (by omega) (by omega))]
    congr 1 <;> omega
theorem firstS_none {A : Type} {g : Nat → Option A} {n : Nat} (h : ∀ j, j < n → g j = none) : firstS g 0 n = none := by
  rw [firstS_skip 0 n n (by omega) (fun j _ hj => h j (by omega)), Nat.sub_self]; rfl
theorem firstS_some {A : Type} {g : Nat → Option A} {n k : Nat} {a : A} (hk : k < n) (hb : ∀ j, j < k → g j = none) (ha : g k = some a) : firstS g 0 n = some a := by
  rw [firstS_skip 0 n k (by omega) (fun j _ hj => hb j (by omega))]
  obtain ⟨m, hm⟩ : ∃ m, n - k = m + 1 := ⟨n - k - 1, by omega⟩
  rw [hm, Nat.zero_add]
  simp only [firstS, ha]
theorem firstS_cases {A : Type} (g : Nat → Option A) (n : Nat) : (firstS g 0 n = none ∧ ∀ j, j < n → g j = none) ∨ ∃ k a, k < n ∧ (∀ j, j < k → g j = none) ∧ g k = some a ∧ firstS g 0 n = some a := by
  by_cases h : ∃ k, k < n ∧ (g k).isSome = true
  · have : ∃ k, (k < n ∧ (g k).isSome = true) ∧ ∀ j, j < k → ¬ (j < n ∧ (g j).isSome = true) := by
      obtain ⟨k, hk⟩ := h
      induction k using Nat.strongRecOn with
      | _ k ih =>
        by_cases hj : ∃ j, j < k ∧ (j < n ∧ (g j).isSome = true)
        · obtain ⟨j, h1, h2⟩ := hj; exact ih j h1 h2
        · exact ⟨k, hk, fun j h1 h2 => hj ⟨j, h1, h2⟩⟩
    obtain ⟨k, ⟨h1, h2⟩, h3⟩ := this
    obtain ⟨a, ha⟩ := Option.isSome_iff_exists.1 h2
    have hb : ∀ j, j < k → g j = none := fun j hj => by
      have := h3 j hj
      cases hg : g j with
      | none => rfl
      | some b => exact absurd ⟨by omega, by simp [hg]⟩ this
    exact .inr ⟨k, a, h1, hb, ha, firstS_some h1 hb ha⟩
  · have hn : ∀ j, j < n → g j = none := fun j hj => by
      cases hg : g j with
      | none => rfl
      | some b => exact absurd ⟨j, hj, by simp [hg]⟩ h
    exact .inl ⟨firstS_none hn, hn⟩
theorem loop_first {S A : Type} {f : S → Option (S ⊕ A)} {z : A} (st : Nat → S) (n : Nat) (g : Nat → Option A) (hs : ∀ i, i < n → g i = none → f (st i) = some (.inl (st (i + 1)))) (hx : ∀ i a, i < n → g i = some a → f (st i) = some (.inr a)) (he : f (st n) = some (.inr z)) : loopC f (st 0) = some ((firstS g 0 n).getD z) := by
  rcases firstS_cases g n with ⟨h1, h2⟩ | ⟨k, a, h1, h2, h3, h4⟩
  · rw [h1, Option.getD_none]
    exact loop_trace st n (fun i hi => hs i hi (h2 i hi)) he
  · rw [h4, Option.getD_some]
    exact loop_trace st k (fun i hi => hs i (by omega) (h2 i hi)) (hx k a h1 h3)
theorem take_snoc {α : Type} {l : List α} {i : Nat} {e : α} (h : l[i]? = some e) : l.take (i + 1) = l.take i ++ [e] := by rw [List.take_add_one, h]; rfl
theorem foldl_snoc {α β : Type} {g : β → α → β} {b : β} {l : List α} {i : Nat} {e : α} (h : l[i]? = some e) : (l.take (i + 1)).foldl g b = g ((l.take i).foldl g b) e := by
  rw [take_snoc h, List.foldl_append]; rfl
theorem get_lt {α : Type} {l : List α} {i : Nat} (h : i < l.length) : ∃ e, l[i]? = some e := ⟨_, List.getElem?_eq_getElem h⟩
theorem lt_dec {i n : Nat} (h : i < n) : decide ((i : Int) < (n : Int)) = true := by simpa using h
theorem lt_dec_self (n : Nat) : decide ((n : Int) < (n : Int)) = false := by simp
end Go.Proofs.YtlmmfddbpagiaaaGreatDoor

/-
  Plain laws: loops over lists with a state and an early end; folds over nested lists.
-/
namespace Go.Proofs.YtlmmfddbpagiaaaGreatDoor
set_option linter.unusedSimpArgs false
set_option linter.unusedVariables false
open Go.RowKit

/-- A loop over a list: the number, the state and the element give the next state or the end. -/
def runI {α S A : Type} (g : Nat → S → α → Option (S ⊕ A)) (fin : S → Option A) : List α → Nat → S → Option A
  | [], _, s => fin s
  | e :: l, i, s => match g i s e with
    | some (.inl s') => runI g fin l (i + 1) s'
    | some (.inr a) => some a
    | none => none
theorem drop_head {α : Type} {l t : List α} {e : α} {i : Nat} (hd : l.drop i = e :: t) : l[i]? = some e ∧ i < l.length ∧ l.drop (i + 1) = t := by
  refine ⟨?_, ?_, ?_⟩
  · have := congrArg (fun q => q[0]?) hd
    simpa using this
  · rcases Nat.lt_or_ge i l.length with h | h
    · exact h
    · rw [List.drop_eq_nil_of_le h] at hd; cases hd
  · have := congrArg List.tail hd
    simpa using this
theorem drop_nil_len {α : Type} {l : List α} {i : Nat} (hd : l.drop i = []) (hi : i ≤ l.length) : i = l.length := by
  have := congrArg List.length hd; simp at this; omega
theorem loop_runI {α S T A : Type} (l : List α) (mk : Nat → S → T) (g : Nat → S → α → Option (S ⊕ A)) (fin : S → Option A) {f : T → Option (T ⊕ A)}
    (hb : ∀ (i : Nat) (e : α) (s : S), l[i]? = some e → f (mk i s) = (match g i s e with | some (.inl s') => some (.inl (mk (i + 1) s')) | some (.inr a) => some (.inr a) | none => none))
    (he : ∀ s, f (mk l.length s) = (fin s).map .inr) (s : S) : loopC f (mk 0 s) = runI g fin l 0 s := by
  have : ∀ (t : List α) (i : Nat) (s : S), l.drop i = t → i ≤ l.length → loopC f (mk i s) = runI g fin t i s := by
    intro t
    induction t with
    | nil =>
      intro i s hd hi
      have := drop_nil_len hd hi
      subst this
      rw [loopC_eq, he]
      simp only [runI]
      cases fin s <;> rfl
    | cons e t ih =>
      intro i s hd hi
      obtain ⟨h1, h2, h3⟩ := drop_head hd
      rw [loopC_eq, hb i e s h1]
      simp only [runI]
      cases g i s e with
      | none => rfl
      | some o =>
        cases o with
        | inr a => rfl
        | inl s' => exact ih (i + 1) s' h3 h2
  exact this l 0 s rfl (Nat.zero_le _)
/-- A loop over a list whose state before each round is known from what is before. -/
theorem loop_pre {α T A : Type} (l : List α) (st : Nat → List α → T) {f : T → Option (T ⊕ A)} {a : A}
    (hb : ∀ (i : Nat) (e : α), l[i]? = some e → f (st i (l.take i)) = some (.inl (st (i + 1) (l.take i ++ [e]))))
    (he : f (st l.length l) = some (.inr a)) : loopC f (st 0 []) = some a := by
  have := loop_trace (f := f) (a := a) (fun i => st i (l.take i)) l.length (fun i hi => by
    obtain ⟨e, h⟩ := get_lt hi
    show f (st i (l.take i)) = some (.inl (st (i + 1) (l.take (i + 1))))
    rw [hb i e h, take_snoc h]) (by
    show f (st l.length (l.take l.length)) = _
    rw [List.take_length]; exact he)
  simpa using this
/-- Each element with its number, and what becomes of them. -/
def ixMap {α β : Type} (f : Nat → α → List β) : Nat → List α → List β
  | _, [] => []
  | i, x :: l => f i x ++ ixMap f (i + 1) l
theorem ixMap_append {α β : Type} (f : Nat → α → List β) : ∀ (l l2 : List α) (i : Nat), ixMap f i (l ++ l2) = ixMap f i l ++ ixMap f (i + l.length) l2
  | [], l2, i => by simp [ixMap]
  | x :: l, l2, i => by
    simp only [List.cons_append, ixMap, ixMap_append f l l2 (i + 1), List.append_assoc, List.length_cons]
    rw [show i + 1 + l.length = i + (l.length + 1) by omega]
theorem ixMap_snoc {α β : Type} (f : Nat → α → List β) (l : List α) (e : α) : ixMap f 0 (l ++ [e]) = ixMap f 0 l ++ f l.length e := by
  rw [ixMap_append]; simp [ixMap]
theorem ixMap_mem {α β : Type} {f : Nat → α → List β} {y : β} : ∀ {l : List α} {i : Nat}, y ∈ ixMap f i l → ∃ k e, l[k]? = some e ∧ y ∈ f (i + k) e
  | [], i, h => by simp [ixMap] at h
  | x :: l, i, h => by
    simp only [ixMap, List.mem_append] at h
    rcases h with h | h
    · exact ⟨0, x, rfl, by simpa using h⟩
    · obtain ⟨k, e, h1, h2⟩ := ixMap_mem h
      exact ⟨k + 1, e, by simpa using h1, by rwa [show i + (k + 1) = i + 1 + k by omega]⟩
theorem ixMap_len {α β : Type} {f : Nat → α → List β} {b : Nat} : ∀ (l : List α) (i : Nat), (∀ i e, e ∈ l → (f i e).length ≤ b) → (ixMap f i l).length ≤ l.length * b
  | [], _, _ => by simp [ixMap]
  | x :: l, i, hf => by
    have h1 := hf i x (by simp)
    have h2 := ixMap_len l (i + 1) (fun i e he => hf i e (by simp [he]))
    simp only [ixMap, List.length_append, List.length_cons, Nat.add_mul, Nat.one_mul]
    omega
theorem take_len {α : Type} {l : List α} {i : Nat} {e : α} (h : l[i]? = some e) : (l.take i).length = i := by
  obtain ⟨hi, -⟩ := List.getElem?_eq_some_iff.1 h
  simp; omega
theorem get_le {α : Type} {l : List α} {i : Nat} {e : α} (h : l[i]? = some e) : i < l.length := (List.getElem?_eq_some_iff.1 h).1
theorem ixMap_all {α β : Type} {f : Nat → α → List β} {P : β → Prop} {l : List α} {i : Nat} (h : ∀ i e, e ∈ l → ∀ y ∈ f i e, P y) : ∀ y ∈ ixMap f i l, P y := fun y hy => by
  obtain ⟨k, e, h1, h2⟩ := ixMap_mem hy
  exact h _ e (List.mem_of_getElem? h1) y h2
theorem thenO_ok {R : Type} {n : Nat} {m : Option R} (h : n ≤ 137438953472) : thenO (lenO n) m = m := thenO_some (lenO_ok h)
theorem mem_take {α : Type} {l : List α} {i : Nat} {x : α} (h : x ∈ l.take i) : x ∈ l := List.mem_of_mem_take h
end Go.Proofs.YtlmmfddbpagiaaaGreatDoor

/-
  Plain laws: loops that put something behind; segments of texts; numbers as texts.
-/
namespace Go.Proofs.YtlmmfddbpagiaaaGreatDoor
set_option linter.unusedSimpArgs false
set_option linter.unusedVariables false
open Go.RowKit

/-! ### Loops that put something behind for each element -/
theorem app_loop {α β R : Type} (l : List α) (base : List β) (f : α → List β) (B : Nat) (hB : (base ++ l.flatMap f).length ≤ B) {F : List β × Int → Option ((List β × Int) ⊕ ((List β × Int) ⊕ R))} (K : List β × Int → Option R)
    (hb : ∀ (i : Nat) e (out : List β), l[i]? = some e → out.length + (f e).length ≤ B → F (out, (i : Int)) = some (.inl (out ++ f e, ((i + 1 : Nat) : Int)))) (he : ∀ out, F (out, (l.length : Int)) = some (.inr (.inl (out, (l.length : Int))))) :
    (loopC F (base, 0)).bind (outK K) = K (base ++ l.flatMap f, (l.length : Int)) := by
  refine bind_loop (a := .inl (base ++ l.flatMap f, (l.length : Int))) ?_ rfl
  have h := loop_pre (f := F) (a := .inl (base ++ l.flatMap f, (l.length : Int))) l (fun i q => (base ++ q.flatMap f, (i : Int))) (fun i e h => ?_) (he _)
  · simpa using h
  · have hlen : (base ++ (l.take i).flatMap f).length + (f e).length ≤ B := by
      have h1 : l.flatMap f = (l.take i).flatMap f ++ (f e ++ (l.drop (i + 1)).flatMap f) := by
        conv => lhs; rw [← List.take_append_drop i l]
        rw [List.flatMap_append, List.drop_eq_getElem_cons (get_le h)]
        rw [List.flatMap_cons]
        have : l[i]'(get_le h) = e := by
          have := List.getElem?_eq_getElem (get_le h)
          rw [h] at this; exact (Option.some.inj this).symm
        rw [this]
      rw [h1] at hB
      simp only [List.length_append] at hB ⊢
      omega
    rw [hb i e _ h hlen]
    simp [List.append_assoc]
theorem flat_len {α β : Type} {row : α → List DV} {f : α → List β} : ∀ {l : List α}, (∀ a ∈ l, (f a).length ≤ dvBL (row a)) → (l.flatMap f).length ≤ dvBR (l.map row)
  | [], _ => by simp
  | a :: l, h => by
    have h1 := h a (by simp)
    have h2 := flat_len (l := l) fun b hb => h b (by simp [hb])
    simp only [List.flatMap_cons, List.length_append, List.map_cons, dvBR]
    omega

/-! ### Segments of texts -/
def el1 (t : List UInt8) : Tapi_Element := ⟨[[t]]⟩
theorem made_eq (tag : List UInt8) (ts : List (List UInt8)) (h : ts.length ≤ 1000) : m_wire_Made tag ts = some ⟨tag, ts.map el1⟩ := by
  unfold m_wire_Made sims_G4_0_1; dsimp only
  refine bind_loop (a := .inl (tag, ts.map el1, (ts.length : Int))) (loop_pre ts (fun i q => (tag, q.map el1, (i : Int))) (fun i e he => ?_) ?_) rfl
  · have hi := get_le he
    simp only [lt_dec hi, cond_true, getI_nat, he, Option.bind_some, wrapN i (by omega)]
    rw [thenO_ok (by simp; omega), List.map_append]
    rfl
  · simp only [lt_dec_self, cond_false]; rfl
abbrev i64 (n : Int) : Prop := -9223372036854775808 ≤ n ∧ n ≤ 9223372036854775807
theorem itoa_eq {n : Int} (h : i64 n) : m_strconv_Itoa n = some (Lib.itoa n) := by unfold m_strconv_Itoa; rw [if_pos h]
theorem flat_in {α β : Type} {f : α → List β} : ∀ {l : List α} {i : Nat} {e : α}, l[i]? = some e → (f e).length ≤ (l.flatMap f).length
  | [], i, e, h => by simp at h
  | a :: l, 0, e, h => by simp at h; subst h; simp
  | a :: l, i + 1, e, h => by
    have := flat_in (f := f) (l := l) (i := i) (e := e) (by simpa using h)
    simp only [List.flatMap_cons, List.length_append]; omega
end Go.Proofs.YtlmmfddbpagiaaaGreatDoor

/-
  Plain laws of the wire: marks.
-/
namespace Go.Proofs.YtlmmfddbpagiaaaGreatDoor
set_option linter.unusedSimpArgs false
set_option linter.unusedVariables false
open Go.RowKit

def markB (b : UInt8) : Bool := !(decide ((b.toNat : Int) < 33) || decide (126 < (b.toNat : Int)) || decide ((b.toNat : Int) = 46) || decide ((b.toNat : Int) = 45) || decide ((b.toNat : Int) = 43) || decide ((b.toNat : Int) = 95)) && !(decide (65 ≤ (b.toNat : Int)) && decide ((b.toNat : Int) ≤ 90) || decide (97 ≤ (b.toNat : Int)) && decide ((b.toNat : Int) ≤ 122) || decide (48 ≤ (b.toNat : Int)) && decide ((b.toNat : Int) ≤ 57))
theorem bif_not (c d : Bool) : (bif c then some false else some (!d)) = some (!c && !d) := by cases c <;> rfl
theorem r_mark (b : UInt8) : m_interchangeref2_mark b = some (markB b) := by
  unfold m_interchangeref2_mark sims_G1_0_0; dsimp only
  simp only [orO_some, andO_some, Option.bind_some, markB]
  exact bif_not _ _
/-- A loop over a list that ends at the first element of which h says something. -/
theorem loop_find {α R : Type} (l : List α) (h : α → Option R) {f : Int → Option (Int ⊕ (Int ⊕ R))} (hb : ∀ (i : Nat) (e : α), l[i]? = some e → f (i : Int) = (match h e with | some a => some (.inr (.inr a)) | none => some (.inl ((i + 1 : Nat) : Int))))
    (he : f (l.length : Int) = some (.inr (.inl (l.length : Int)))) : loopC f 0 = some (match l.findSome? h with | some a => .inr a | none => .inl (l.length : Int)) := by
  have : ∀ (t : List α) (i : Nat), l.drop i = t → i ≤ l.length → loopC f (i : Int) = some (match t.findSome? h with | some a => .inr a | none => .inl (l.length : Int)) := by
    intro t
    induction t with
    | nil =>
      intro i hd hi
      have : i = l.length := by have := congrArg List.length hd; simp at this; omega
      subst this
      rw [loopC_eq, he]
      rfl
    | cons e t ih =>
      intro i hd hi
      have h1 : l[i]? = some e := by
        have := congrArg (fun q => q[0]?) hd
        simpa using this
      have h2 : i < l.length := by
        rcases Nat.lt_or_ge i l.length with h | h
        · exact h
        · rw [List.drop_eq_nil_of_le h] at hd; cases hd
      have h3 : l.drop (i + 1) = t := by
        have := congrArg List.tail hd
        simpa using this
      rw [loopC_eq, hb i e h1, List.findSome?_cons]
      cases h e with
      | some a => rfl
      | none => exact ih (i + 1) h3 h2
  exact this l 0 rfl (Nat.zero_le _)
theorem inBytes_eq (l : List UInt8) (lo hi : UInt8) (hl : l.length < 9223372036854775807) : m_kit_InBytes l lo hi = some (match l.findSome? fun x => if (decide ((x.toNat : Int) < (lo.toNat : Int)) || decide ((hi.toNat : Int) < (x.toNat : Int))) = true then some false else none with | some b => b | none => true) := by
  unfold m_kit_InBytes sims_G1_0_0; dsimp only
  refine bind_loop (loop_find l (fun x => if (decide ((x.toNat : Int) < (lo.toNat : Int)) || decide ((hi.toNat : Int) < (x.toNat : Int))) = true then some false else none) (fun i e h => ?_) ?_) ?_
  · obtain ⟨hi', -⟩ := List.getElem?_eq_some_iff.1 h
    simp only [lt_dec hi', cond_true, getI_nat, h, Option.bind_some, orO_some, wrapN i (by omega)]
    cases (decide ((e.toNat : Int) < (lo.toNat : Int)) || decide ((hi.toNat : Int) < (e.toNat : Int))) <;> rfl
  · simp only [lt_dec_self, cond_false]; rfl
  · cases l.findSome? _ <;> rfl
theorem enc_ascii (b : UInt8) (h : b.toNat < 128) : (Utf8.encode (b.toNat : Int)).data.toList = [b] := by
  have : ∀ n : Fin 128, (Utf8.encode ((n.1 : Nat) : Int)).data.toList = [UInt8.ofNat n.1] := by decide
  have := this ⟨b.toNat, h⟩
  rw [this]
  simp
end Go.Proofs.YtlmmfddbpagiaaaGreatDoor

/-
  Plain laws of the wire: a byte that may be a mark.
-/
namespace Go.Proofs.YtlmmfddbpagiaaaGreatDoor
set_option linter.unusedSimpArgs false
set_option linter.unusedVariables false
open Go.RowKit

def tagSet : List UInt8 := [65, 66, 67, 68, 69, 70, 71, 72, 73, 74, 75, 76, 77, 78, 79, 80, 81, 82, 83, 84, 85, 86, 87, 88, 89, 90, 48, 49, 50, 51, 52, 53, 54, 55, 56, 57]
theorem isTagPart_eq (l : List UInt8) (hl : l.length ≤ 9223372036854775807) : m_kit_IsTagPart l = some (decide (Lib.trimS l tagSet = [])) := by
  unfold m_kit_IsTagPart sims_G1_1_0; dsimp only
  have : m_strings_Trim l tagSet = some (Lib.trimS l tagSet) := by unfold m_strings_Trim; rw [if_pos ⟨hl, by decide, by decide⟩]
  simp only [tagSet] at this ⊢
  rw [this]
  rfl
def wMark (b : UInt8) : Bool := !decide (Lib.trimS [b] tagSet = []) && !(match [b].findSome? fun x => if (decide ((x.toNat : Int) < 97) || decide ((122 : Int) < (x.toNat : Int))) = true then some false else none with | some b => b | none => true) && !Lib.containsAny [b] [46, 45, 43, 95]
theorem wMark_all : (List.range 256).all (fun n => decide (n < 33) || decide (126 < n) || (wMark (UInt8.ofNat n) == markB (UInt8.ofNat n))) = true := by kernel_rfl
theorem w_mark (b : UInt8) : m_wire_isMarkByte b = some (markB b) := by
  unfold m_wire_isMarkByte sims_G1_2_0; dsimp only
  by_cases h : 33 ≤ b.toNat ∧ b.toNat ≤ 126
  · have hc : m_strings_ContainsAny [b] [46, 45, 43, 95] = some (Lib.containsAny [b] [46, 45, 43, 95]) := by
      unfold m_strings_ContainsAny
      rw [if_pos ⟨by simp, by simp, by simp; omega, by decide⟩]
    have hw := List.all_eq_true.1 wMark_all b.toNat (List.mem_range.2 b.toNat_lt)
    have hb : UInt8.ofNat b.toNat = b := by simp
    rw [hb] at hw
    have d1 : decide ((33 : Int) ≤ (b.toNat : Int)) = true := by simp; omega
    have d2 : decide ((b.toNat : Int) ≤ 126) = true := by simp; omega
    have d3 : decide (b.toNat < 33) = false := by simp; omega
    have d4 : decide (126 < b.toNat) = false := by simp; omega
    simp only [d3, d4, Bool.false_or, beq_iff_eq] at hw
    rw [← hw]
    simp only [enc_ascii b (by omega), isTagPart_eq [b] (by simp), inBytes_eq [b] _ _ (by simp), hc, andO_some, Option.bind_some, d1, d2, Bool.true_and]
    rfl
  · have hm : markB b = false := by
      unfold markB
      have : (decide ((b.toNat : Int) < 33) || decide (126 < (b.toNat : Int))) = true := by simp; omega
      rw [this]
      simp
    have d : (decide ((33 : Int) ≤ (b.toNat : Int)) && decide ((b.toNat : Int) ≤ 126)) = false := by simp; omega
    rw [hm]
    simp only [andO_some, Option.bind_some, d]
    rfl
end Go.Proofs.YtlmmfddbpagiaaaGreatDoor

/-
  Plain laws of the wire: texts.
-/
namespace Go.Proofs.YtlmmfddbpagiaaaGreatDoor
set_option linter.unusedSimpArgs false
set_option linter.unusedVariables false
open Go.RowKit

def badT (x : UInt8) : Bool := decide ((x.toNat : Int) < 32) || decide (126 < (x.toNat : Int))
def textF (t : List UInt8) : Int := if 1000 < t.length then 2 else match t.findSome? (fun x => if badT x = true then some (3 : Int) else none) with | some a => a | none => 0
theorem findSome_congr2 {α A B : Type} (p : α → Bool) (a : A) (b : B) : ∀ (l : List α), (l.findSome? (fun x => if p x = true then some a else none) = none ∧ l.findSome? (fun x => if p x = true then some b else none) = none) ∨ (l.findSome? (fun x => if p x = true then some a else none) = some a ∧ l.findSome? (fun x => if p x = true then some b else none) = some b)
  | [] => .inl ⟨rfl, rfl⟩
  | x :: l => by
    rw [List.findSome?_cons, List.findSome?_cons]
    cases h : p x with
    | true => exact .inr ⟨by simp, by simp⟩
    | false => simpa using findSome_congr2 p a b l
theorem r_text (t : List UInt8) : m_interchangeref2_checkText t = some (textF t) := by
  unfold m_interchangeref2_checkText sims_G1_0_0; dsimp only
  unfold textF
  by_cases h : 1000 < t.length
  · have : decide ((1000 : Int) < (t.length : Int)) = true := by simp; omega
    simp only [this, cond_true, h, if_true]
  · have : decide ((1000 : Int) < (t.length : Int)) = false := by simp; omega
    simp only [this, cond_false, h, if_false]
    refine bind_loop (loop_find t (fun x => if badT x = true then some (3 : Int) else none) (fun i e he => ?_) ?_) ?_
    · obtain ⟨hi', -⟩ := List.getElem?_eq_some_iff.1 he
      simp only [lt_dec hi', cond_true, getI_nat, he, Option.bind_some, orO_some, wrapN i (by omega)]
      show (bif badT e then inrO (inrO (some 3)) else some (Sum.inl ((i + 1 : Nat) : Int))) = _
      cases badT e <;> rfl
    · simp only [lt_dec_self, cond_false]; rfl
    · cases t.findSome? _ <;> rfl
theorem w_text (t : List UInt8) : m_wire_textFault t = some (textF t) := by
  unfold m_wire_textFault sims_G1_2_0; dsimp only
  unfold textF
  by_cases h : 1000 < t.length
  · have : decide ((1000 : Int) < (t.length : Int)) = true := by simp; omega
    simp only [this, cond_true, h, if_true]
  · have h1 : decide ((1000 : Int) < (t.length : Int)) = false := by simp; omega
    have h2 : decide ((t.length : Int) ≤ 1000) = true := by simp; omega
    have hT : m_kit_IsText t = some (match t.findSome? fun x => if badT x = true then some false else none with | some b => b | none => true) := by
      unfold m_kit_IsText sims_G1_1_0; dsimp only
      simp only [h2, inBytes_eq t _ _ (by omega), andO_some, Option.bind_some, Bool.true_and]
      rfl
    simp only [h1, cond_false, h, if_false, hT, Option.bind_some]
    rcases findSome_congr2 badT (3 : Int) false t with ⟨e1, e2⟩ | ⟨e1, e2⟩ <;> rw [e1, e2] <;> rfl
end Go.Proofs.YtlmmfddbpagiaaaGreatDoor

/-
  Plain laws of the wire: tags, elements, segments.
-/
namespace Go.Proofs.YtlmmfddbpagiaaaGreatDoor
set_option linter.unusedSimpArgs false
set_option linter.unusedVariables false
open Go.RowKit

/-- The first fault of a list. -/
def listF {α : Type} (h : α → Int) : List α → Int
  | [] => 0
  | e :: l => if h e = 0 then listF h l else h e
theorem loop_fault {α R : Type} (l : List α) (h : α → Int) (ret : Int → R) (k : Int → Option R) {f : Int → Option (Int ⊕ (Int ⊕ R))}
    (hb : ∀ (i : Nat) (e : α), l[i]? = some e → f (i : Int) = if h e = 0 then some (.inl ((i + 1 : Nat) : Int)) else some (.inr (.inr (ret (h e)))))
    (he : f (l.length : Int) = some (.inr (.inl (l.length : Int)))) : (loopC f 0).bind (outK k) = if listF h l = 0 then k (l.length : Int) else some (ret (listF h l)) := by
  have : ∀ (t : List α) (i : Nat), l.drop i = t → i ≤ l.length → loopC f (i : Int) = if listF h t = 0 then some (.inl (l.length : Int)) else some (.inr (ret (listF h t))) := by
    intro t
    induction t with
    | nil =>
      intro i hd hi
      have := drop_nil_len hd hi
      subst this
      rw [loopC_eq, he]
      rfl
    | cons e t ih =>
      intro i hd hi
      obtain ⟨h1, h2, h3⟩ := drop_head hd
      rw [loopC_eq, hb i e h1]
      by_cases h0 : h e = 0
      · simp only [listF, h0, if_true]; exact ih (i + 1) h3 h2
      · simp only [listF, h0, if_false]
  have e0 : loopC f 0 = if listF h l = 0 then some (.inl (l.length : Int)) else some (.inr (ret (listF h l))) := this l 0 rfl (Nat.zero_le _)
  rw [e0]
  by_cases h0 : listF h l = 0
  · rw [if_pos h0, if_pos h0]; rfl
  · rw [if_neg h0, if_neg h0]; rfl
theorem listF_zero {α : Type} {h : α → Int} : ∀ {l : List α}, listF h l = 0 → ∀ e ∈ l, h e = 0
  | [], _, e, he => by cases he
  | x :: l, hl, e, he => by
    simp only [listF] at hl
    split at hl
    · rename_i h0
      rcases List.mem_cons.1 he with rfl | he
      · exact h0
      · exact listF_zero hl e he
    · rename_i h0; exact absurd hl h0

/-! ### Elements -/
def repF (l : List (List UInt8)) : Int := if l.length = 0 then 9 else if 20 < l.length then 2 else listF textF l
def elemF (e : Tapi_Element) : Int := if e.fRepeats.length = 0 then 9 else if 20 < e.fRepeats.length then 2 else listF repF e.fRepeats
theorem w_elem (e : Tapi_Element) : m_wire_elementFault e = some (elemF e) := by
  unfold m_wire_elementFault sims_G1_3_0; dsimp only
  unfold elemF
  by_cases h0 : e.fRepeats.length = 0
  · have c : decide ((e.fRepeats.length : Int) = 0) = true := decide_eq_true (by omega)
    simp only [c, cond_true, if_pos h0]
  · have d0 : decide ((e.fRepeats.length : Int) = 0) = false := decide_eq_false (by omega)
    by_cases h1 : 20 < e.fRepeats.length
    · have d1 : decide ((20 : Int) < (e.fRepeats.length : Int)) = true := decide_eq_true (by omega)
      simp only [d0, d1, cond_true, cond_false, h0, h1, if_true, if_false]
    · have d1 : decide ((20 : Int) < (e.fRepeats.length : Int)) = false := decide_eq_false (by omega)
      simp only [d0, d1, cond_false, h0, h1, if_false]
      refine (loop_fault e.fRepeats repF (fun a => a) _ (fun i l he => ?_) ?_).trans ?_
      · have hi := get_le he
        simp only [lt_dec hi, cond_true, getI_nat, he, Option.bind_some, wrapN i (by omega), repF]
        by_cases g0 : l.length = 0
        · have c0 : decide ((l.length : Int) = 0) = true := decide_eq_true (by omega)
          simp only [c0, cond_true, if_pos g0]; rfl
        · have c0 : decide ((l.length : Int) = 0) = false := decide_eq_false (by omega)
          by_cases g1 : 20 < l.length
          · have c1 : decide ((20 : Int) < (l.length : Int)) = true := decide_eq_true (by omega)
            simp only [c0, c1, cond_true, cond_false, g0, g1, if_true, if_false]; rfl
          · have c1 : decide ((20 : Int) < (l.length : Int)) = false := decide_eq_false (by omega)
            simp only [c0, c1, cond_false, g0, g1, if_false]
            refine (loop_fault l textF (fun a => .inr (.inr a)) _ (fun j t ht => ?_) ?_).trans ?_
            · have hj := get_le ht
              simp only [lt_dec hj, cond_true, getI_nat, he, ht, Option.bind_some, wrapN j (by omega), w_text]
              by_cases hz : textF t = 0 <;> simp [hz, inrO]
            · simp only [getI_nat, he, Option.bind_some, lt_dec_self, cond_false]; rfl
            · split <;> rfl
      · simp only [lt_dec_self, cond_false]; rfl
      · split <;> simp_all
theorem r_elem (e : Tapi_Element) : m_interchangeref2_checkElement e = some (elemF e) := by
  unfold m_interchangeref2_checkElement sims_G1_1_0; dsimp only
  unfold elemF
  by_cases h0 : e.fRepeats.length = 0
  · have c : decide ((e.fRepeats.length : Int) = 0) = true := decide_eq_true (by omega)
    simp only [c, cond_true, if_pos h0]
  · have d0 : decide ((e.fRepeats.length : Int) = 0) = false := decide_eq_false (by omega)
    by_cases h1 : 20 < e.fRepeats.length
    · have d1 : decide ((20 : Int) < (e.fRepeats.length : Int)) = true := decide_eq_true (by omega)
      simp only [d0, d1, cond_true, cond_false, h0, h1, if_true, if_false]
    · have d1 : decide ((20 : Int) < (e.fRepeats.length : Int)) = false := decide_eq_false (by omega)
      simp only [d0, d1, cond_false, h0, h1, if_false]
      refine (loop_fault e.fRepeats repF (fun a => a) _ (fun i l he => ?_) ?_).trans ?_
      · have hi := get_le he
        simp only [lt_dec hi, cond_true, getI_nat, he, Option.bind_some, wrapN i (by omega), repF]
        by_cases g0 : l.length = 0
        · have c0 : decide ((l.length : Int) = 0) = true := decide_eq_true (by omega)
          simp only [c0, cond_true, if_pos g0]; rfl
        · have c0 : decide ((l.length : Int) = 0) = false := decide_eq_false (by omega)
          by_cases g1 : 20 < l.length
          · have c1 : decide ((20 : Int) < (l.length : Int)) = true := decide_eq_true (by omega)
            simp only [c0, c1, cond_true, cond_false, g0, g1, if_true, if_false]; rfl
          · have c1 : decide ((20 : Int) < (l.length : Int)) = false := decide_eq_false (by omega)
            simp only [c0, c1, cond_false, g0, g1, if_false]
            refine (loop_fault l textF (fun a => .inr (.inr a)) _ (fun j t ht => ?_) ?_).trans ?_
            · have hj := get_le ht
              simp only [lt_dec hj, cond_true, getI_nat, he, ht, Option.bind_some, wrapN j (by omega), r_text]
              by_cases hz : textF t = 0 <;> simp [hz, inrO]
            · simp only [getI_nat, he, Option.bind_some, lt_dec_self, cond_false]; rfl
            · split <;> rfl
      · simp only [lt_dec_self, cond_false]; rfl
      · split <;> simp_all
/-! ### Tags -/
theorem dropWhile_nil {p : UInt8 → Bool} : ∀ {l : List UInt8}, l.dropWhile p = [] ↔ ∀ x ∈ l, p x = true
  | [] => by simp
  | a :: l => by
    rw [List.dropWhile_cons]
    by_cases h : p a = true
    · simp [h, dropWhile_nil (l := l)]
    · simp [h]
theorem dropWhile_head {p : UInt8 → Bool} {a : UInt8} {r : List UInt8} : ∀ {l : List UInt8}, l.dropWhile p = a :: r → p a = false
  | [], h => by simp at h
  | b :: l, h => by
    rw [List.dropWhile_cons] at h
    by_cases hp : p b = true
    · simp only [hp, if_true] at h; exact dropWhile_head h
    · simp only [hp] at h
      simp at h; rw [← h.1]; simpa using hp
theorem trim_nil (l cs : List UInt8) : Lib.trimS l cs = [] ↔ ∀ x ∈ l, cs.contains x = true := by
  unfold Lib.trimS Lib.trimLeftS Lib.trimRightS
  constructor
  · intro h
    have h1 : List.dropWhile (fun x => cs.contains x) l.reverse = [] := by
      cases hr : List.dropWhile (fun x => cs.contains x) l.reverse with
      | nil => rfl
      | cons a r =>
        exfalso
        have h2 := dropWhile_head hr
        rw [hr, dropWhile_nil] at h
        have h3 := h a (by simp)
        rw [h2] at h3; cases h3
    rw [dropWhile_nil] at h1
    intro x hx
    exact h1 x (by simpa using hx)
  · intro h
    have h1 : List.dropWhile (fun x => cs.contains x) l.reverse = [] := dropWhile_nil.2 fun x hx => h x (by simpa using hx)
    rw [h1]; rfl
def letB (b : UInt8) : Bool := decide (65 ≤ (b.toNat : Int)) && decide ((b.toNat : Int) ≤ 90)
def tagB (b : UInt8) : Bool := letB b || !(decide ((b.toNat : Int) < 48) || decide (57 < (b.toNat : Int)))
theorem tagB_all : (List.range 256).all (fun n => tagSet.contains (UInt8.ofNat n) == tagB (UInt8.ofNat n)) = true := by kernel_rfl
theorem tagB_eq (b : UInt8) : tagSet.contains b = tagB b := by
  have := List.all_eq_true.1 tagB_all b.toNat (List.mem_range.2 b.toNat_lt)
  have hb : UInt8.ofNat b.toNat = b := by simp
  rw [hb] at this
  simpa using this
def upper : List UInt8 := [65, 66, 67, 68, 69, 70, 71, 72, 73, 74, 75, 76, 77, 78, 79, 80, 81, 82, 83, 84, 85, 86, 87, 88, 89, 90]
theorem letB_all : (List.range 256).all (fun n => decide (0 ≤ Lib.indexByte upper (UInt8.ofNat n)) == letB (UInt8.ofNat n)) = true := by kernel_rfl
theorem letB_eq (b : UInt8) : decide (0 ≤ Lib.indexByte upper b) = letB b := by
  have := List.all_eq_true.1 letB_all b.toNat (List.mem_range.2 b.toNat_lt)
  have hb : UInt8.ofNat b.toNat = b := by simp
  rw [hb] at this
  simpa using this
theorem trim_tag (l : List UInt8) : decide (Lib.trimS l tagSet = []) = l.all tagB := by
  rw [Bool.eq_iff_iff, decide_eq_true_eq, trim_nil, List.all_eq_true]
  simp only [tagB_eq]
/-- A tag. -/
def tagF : List UInt8 → Bool
  | [] => false
  | b :: l => decide (1 ≤ l.length) && decide (l.length ≤ 5) && letB b && l.all tagB
theorem w_tag (l : List UInt8) (hl : l.length ≤ 9223372036854775807) : m_kit_IsTag l = some (tagF l) := by
  unfold m_kit_IsTag sims_G1_2_0; dsimp only
  cases l with
  | nil => rfl
  | cons b l =>
    have hg : getI (b :: l) 0 = some b := rfl
    have hi : m_strings_IndexByte upper b = some (Lib.indexByte upper b) := rfl
    have hu : ([65, 66, 67, 68, 69, 70, 71, 72, 73, 74, 75, 76, 77, 78, 79, 80, 81, 82, 83, 84, 85, 86, 87, 88, 89, 90] : List UInt8) = upper := rfl
    simp only [isTagPart_eq (b :: l) hl, trim_tag, hg, hu, hi, Option.bind_some, andO_some, letB_eq, tagF]
    have h1 : decide ((2 : Int) ≤ ((b :: l).length : Int)) = decide (1 ≤ l.length) := by simp only [List.length_cons]; congr 1; apply propext; omega
    have h2 : decide (((b :: l).length : Int) ≤ 6) = decide (l.length ≤ 5) := by simp only [List.length_cons]; congr 1; apply propext; omega
    rw [h1, h2]
    cases hb : letB b with
    | false => simp
    | true => simp [tagB, hb]
def tagI (i : Nat) (b : UInt8) : Bool := letB b || (decide (i ≠ 0) && tagB b)
theorem r_begins (l : List UInt8) (hl : l.length ≤ 9223372036854775807) : m_interchangeref2_beginsTag l = some ((match l with | [] => true | b :: l => letB b && l.all tagB) && decide (l.length ≤ 6)) := by
  unfold m_interchangeref2_beginsTag sims_G1_0_0; dsimp only
  have key := loop_runI (f := fun s => bif decide (s < (l.length : Int)) then (getI l s).bind fun e => (andO (decide (65 ≤ (e.toNat : Int))) ((getI l s).bind fun e => some (decide ((e.toNat : Int) ≤ 90)))).bind fun v => (andO (!v) ((orO (decide (s = 0)) ((getI l s).bind fun e => some (decide ((e.toNat : Int) < 48)))).bind fun v => (orO v ((getI l s).bind fun e => some (decide (57 < (e.toNat : Int))))).bind fun v => some v)).bind fun v => bif v then inrO (inrO (some false)) else some (Sum.inl (IntKind.i64.wrap (s + 1))) else inrO (some (Sum.inl s)))
    l (fun i (_ : Unit) => (i : Int)) (fun i _ e => if tagI i e = true then some (.inl ()) else some (.inr (.inr false))) (fun _ => some (Sum.inl (l.length : Int))) (fun i e s he => ?_) (fun s => ?_) ()
  · rw [show ((0 : Nat) : Int) = 0 from rfl] at key
    rw [key]
    have h2 : ∀ (t : List UInt8) (i : Nat), 0 < i → runI (fun i (_ : Unit) e => if tagI i e = true then some (.inl ()) else some (.inr (.inr false))) (fun _ => some (Sum.inl (l.length : Int))) t i () = if t.all tagB = true then some (Sum.inl (l.length : Int)) else some (.inr false) := by
      intro t
      induction t with
      | nil => intro i _; rfl
      | cons b t ih =>
        intro i hi
        simp only [runI]
        have : tagI i b = tagB b := by
          unfold tagI
          rw [decide_eq_true (show i ≠ 0 by omega), Bool.true_and]
          unfold tagB
          cases letB b <;> simp
        rw [this]
        cases hb : tagB b with
        | true => simp only [if_true, ih (i + 1) (by omega), List.all_cons, hb, Bool.true_and]
        | false => simp [hb]
    cases l with
    | nil => rfl
    | cons b l =>
      simp only [runI]
      have h3 : tagI 0 b = letB b := by unfold tagI; cases letB b <;> simp
      have h4 : decide (((b :: l).length : Int) ≤ 6) = decide ((b :: l).length ≤ 6) := by congr 1; apply propext; omega
      rw [h3]
      cases hb : letB b with
      | false => simp [outK, hb]
      | true =>
        simp only [if_true]
        rw [h2 l 1 (by omega)]
        cases hl : l.all tagB with
        | true => simp [outK, hb, h4]; omega
        | false => simp [outK, hb]
  · have hi := get_le he
    simp only [lt_dec hi, cond_true, getI_nat, he, Option.bind_some, andO_some, orO_some, wrapN i (by omega)]
    have h0 : decide ((i : Int) = 0) = decide (i = 0) := by congr 1; apply propext; omega
    have h1 : (!(decide (65 ≤ (e.toNat : Int)) && decide ((e.toNat : Int) ≤ 90)) && (decide ((i : Int) = 0) || decide ((e.toNat : Int) < 48) || decide (57 < (e.toNat : Int)))) = !tagI i e := by
      rw [h0]
      unfold tagI tagB letB
      cases decide (65 ≤ (e.toNat : Int)) <;> cases decide ((e.toNat : Int) ≤ 90) <;> by_cases hi0 : i = 0 <;> simp [hi0]
    rw [h1]
    cases tagI i e <;> rfl
  · simp only [lt_dec_self, cond_false]; rfl
theorem r_tag (l : List UInt8) (hl : l.length ≤ 9223372036854775807) : m_interchangeref2_IsTag l = some (tagF l) := by
  unfold m_interchangeref2_IsTag sims_G1_1_0; dsimp only
  simp only [r_begins l hl, Option.bind_some, andO_some]
  cases l with
  | nil => rfl
  | cons b l =>
    have h1 : decide ((2 : Int) ≤ ((b :: l).length : Int)) = decide (1 ≤ l.length) := by simp only [List.length_cons]; congr 1; apply propext; omega
    have h2 : decide ((b :: l).length ≤ 6) = decide (l.length ≤ 5) := by simp only [List.length_cons]; congr 1; apply propext; omega
    rw [h1, h2]
    simp only [tagF]
    cases letB b <;> cases l.all tagB <;> simp
/-! ### Segments -/
def segF (s : Tapi_Segment) : Int := if tagF s.fTag = false then 5 else if 50 < s.fElements.length then 2 else listF elemF s.fElements
def segsF (l : List Tapi_Segment) : Int := if 2000 < l.length then 2 else listF segF l
/-- The strings that any machine has. -/
def TagsShort (l : List Tapi_Segment) : Prop := ∀ s ∈ l, s.fTag.length ≤ 9223372036854775807
theorem r_one (s : Tapi_Segment) (hs : s.fTag.length ≤ 9223372036854775807) : m_interchangeref2_CheckOne s = some (segF s) := by
  unfold m_interchangeref2_CheckOne sims_G1_2_0; dsimp only
  unfold segF
  rw [r_tag s.fTag hs]
  simp only [Option.bind_some]
  cases ht : tagF s.fTag with
  | false => simp
  | true =>
    simp only [Bool.not_true, cond_false, Bool.true_eq_false, if_false]
    by_cases h1 : 50 < s.fElements.length
    · have d1 : decide ((50 : Int) < (s.fElements.length : Int)) = true := decide_eq_true (by omega)
      simp only [d1, cond_true, h1, if_true]
    · have d1 : decide ((50 : Int) < (s.fElements.length : Int)) = false := decide_eq_false (by omega)
      simp only [d1, cond_false, h1, if_false]
      refine (loop_fault s.fElements elemF (fun a => a) _ (fun i e he => ?_) ?_).trans ?_
      · have hi := get_le he
        simp only [lt_dec hi, cond_true, getI_nat, he, Option.bind_some, wrapN i (by omega), r_elem]
        by_cases hz : elemF e = 0 <;> simp [hz, inrO]
      · simp only [lt_dec_self, cond_false]; rfl
      · split <;> simp_all
theorem r_segs (l : List Tapi_Segment) (hs : TagsShort l) : m_interchangeref2_CheckSegments l = some (segsF l) := by
  unfold m_interchangeref2_CheckSegments sims_G1_3_0; dsimp only
  unfold segsF
  by_cases h1 : 2000 < l.length
  · have d1 : decide ((2000 : Int) < (l.length : Int)) = true := decide_eq_true (by omega)
    simp only [d1, cond_true, h1, if_true]
  · have d1 : decide ((2000 : Int) < (l.length : Int)) = false := decide_eq_false (by omega)
    simp only [d1, cond_false, h1, if_false]
    refine (loop_fault l segF (fun a => a) _ (fun i e he => ?_) ?_).trans ?_
    · have hi := get_le he
      simp only [lt_dec hi, cond_true, getI_nat, he, Option.bind_some, wrapN i (by omega), r_one e (hs e (List.mem_of_getElem? he))]
      by_cases hz : segF e = 0 <;> simp [hz, inrO]
    · simp only [lt_dec_self, cond_false]; rfl
    · split <;> simp_all
theorem w_segs (l : List Tapi_Segment) (hs : TagsShort l) : m_wire_CheckSegments l = some (segsF l) := by
  unfold m_wire_CheckSegments sims_G1_4_0; dsimp only
  unfold segsF
  by_cases h1 : 2000 < l.length
  · have d1 : decide ((2000 : Int) < (l.length : Int)) = true := decide_eq_true (by omega)
    simp only [d1, cond_true, h1, if_true]
  · have d1 : decide ((2000 : Int) < (l.length : Int)) = false := decide_eq_false (by omega)
    simp only [d1, cond_false, h1, if_false]
    refine (loop_fault l segF (fun a => a) _ (fun i s hes => ?_) ?_).trans ?_
    · have hi := get_le hes
      have hst := hs s (List.mem_of_getElem? hes)
      simp only [lt_dec hi, cond_true, getI_nat, hes, Option.bind_some, wrapN i (by omega), w_tag s.fTag (by omega), segF]
      by_cases ht : tagF s.fTag = false
      · simp [ht, inrO]
      · replace ht : tagF s.fTag = true := by simpa using ht
        simp only [ht, Bool.not_true, cond_false, Bool.true_eq_false, if_false]
        by_cases h1 : 50 < s.fElements.length
        · have d1 : decide ((50 : Int) < (s.fElements.length : Int)) = true := decide_eq_true (by omega)
          simp only [d1, cond_true, h1, if_true]; rfl
        · have d1 : decide ((50 : Int) < (s.fElements.length : Int)) = false := decide_eq_false (by omega)
          simp only [d1, cond_false, h1, if_false]
          refine (loop_fault s.fElements elemF (fun a => .inr (.inr a)) _ (fun i e he => ?_) ?_).trans ?_
          · have hi := get_le he
            simp only [lt_dec hi, cond_true, getI_nat, he, Option.bind_some, wrapN i (by omega), w_elem]
            by_cases hz : elemF e = 0 <;> simp [hz, inrO]
          · simp only [lt_dec_self, cond_false]; rfl
          · split <;> rfl
    · simp only [lt_dec_self, cond_false]; rfl
    · split <;> simp_all
end Go.Proofs.YtlmmfddbpagiaaaGreatDoor

/- Imports alone. -/


/-
  Plain laws: numbers, references, and the checks of a book.
-/
namespace Go.Proofs.YtlmmfddbpagiaaaGreatDoor
set_option linter.unusedSimpArgs false
set_option linter.unusedVariables false
open Go.RowKit

def outside (n lo hi : Int) : Bool := decide (n < lo) || decide (hi < n)
theorem outside_eq (n lo hi : Int) : m_kit_Outside n lo hi = some (outside n lo hi) := by
  unfold m_kit_Outside sims_G3_0_0; dsimp only
  simp only [orO_some, Option.bind_some, outside]
/-! ### References -/
def refSet : List UInt8 := [65, 66, 67, 68, 69, 70, 71, 72, 73, 74, 75, 76, 77, 78, 79, 80, 81, 82, 83, 84, 85, 86, 87, 88, 89, 90, 48, 49, 50, 51, 52, 53, 54, 55, 56, 57, 45]
theorem dropWhile_nilP {p : UInt8 → Bool} : ∀ {l : List UInt8}, l.dropWhile p = [] ↔ ∀ x ∈ l, p x = true
  | [] => by simp
  | a :: l => by
    rw [List.dropWhile_cons]
    by_cases h : p a = true
    · simp [h, dropWhile_nilP (l := l)]
    · simp [h]
theorem dropWhile_headP {p : UInt8 → Bool} {a : UInt8} {r : List UInt8} : ∀ {l : List UInt8}, l.dropWhile p = a :: r → p a = false
  | [], h => by simp at h
  | b :: l, h => by
    rw [List.dropWhile_cons] at h
    by_cases hp : p b = true
    · simp only [hp, if_true] at h; exact dropWhile_headP h
    · simp only [hp] at h
      simp at h; rw [← h.1]; simpa using hp
theorem trim_nilP (l cs : List UInt8) : Lib.trimS l cs = [] ↔ ∀ x ∈ l, cs.contains x = true := by
  unfold Lib.trimS Lib.trimLeftS Lib.trimRightS
  constructor
  · intro h
    have h1 : List.dropWhile (fun x => cs.contains x) l.reverse = [] := by
      cases hr : List.dropWhile (fun x => cs.contains x) l.reverse with
      | nil => rfl
      | cons a r =>
        exfalso
        have h2 := dropWhile_headP hr
        rw [hr, dropWhile_nilP] at h
        have h3 := h a (by simp)
        rw [h2] at h3; cases h3
    rw [dropWhile_nilP] at h1
    intro x hx
    exact h1 x (by simpa using hx)
  · intro h
    have h1 : List.dropWhile (fun x => cs.contains x) l.reverse = [] := dropWhile_nilP.2 fun x hx => h x (by simpa using hx)
    rw [h1]; rfl
def refByte (b : UInt8) : Bool := refSet.contains b
def isRef (s : List UInt8) : Bool := decide (1 ≤ s.length ∧ s.length ≤ 14) && s.all refByte
theorem trim_all (s : List UInt8) : decide (Lib.trimS s refSet = []) = s.all refByte := by
  rw [Bool.eq_iff_iff, decide_eq_true_eq, trim_nilP, List.all_eq_true]; rfl
theorem refByte_eq (b : UInt8) : refByte b = decide ((65 ≤ b.toNat ∧ b.toNat ≤ 90) ∨ (48 ≤ b.toNat ∧ b.toNat ≤ 57) ∨ b.toNat = 45) := by
  have h : ∀ n, n < 256 → refByte (UInt8.ofNat n) = decide ((65 ≤ n ∧ n ≤ 90) ∨ (48 ≤ n ∧ n ≤ 57) ∨ n = 45) := by decide +kernel
  have := h b.toNat b.toNat_lt
  simpa using this
theorem trim_eq (s : List UInt8) (hs : s.length ≤ 9223372036854775807) : m_strings_Trim s refSet = some (Lib.trimS s refSet) := by
  unfold m_strings_Trim
  rw [if_pos ⟨hs, by decide, by decide⟩]
theorem isRef_eq (s : List UInt8) (hs : s.length ≤ 9223372036854775807) : m_kit_IsRef s = some (isRef s) := by
  have ht := trim_eq s hs
  have ha := trim_all s
  unfold refSet at ht ha
  unfold m_kit_IsRef sims_G3_1_0; dsimp only
  simp only [ht, Option.bind_some, ha, andO_some]
  congr 1; unfold isRef
  rw [Bool.eq_iff_iff]; simp; omega
theorem all_take_succ {p : UInt8 → Bool} {l : List UInt8} {i : Nat} {b : UInt8} (hb : l[i]? = some b) (h : (l.take i).all p = true) (hp : p b = true) : (l.take (i + 1)).all p = true := by
  rw [List.take_add_one, hb]; simp only [Option.toList_some, List.all_append, h, List.all_cons, hp]; rfl
theorem all_not {p : UInt8 → Bool} {l : List UInt8} {i : Nat} {b : UInt8} (hb : l[i]? = some b) (hp : p b = false) : l.all p = false := by
  rw [List.all_eq_false]; exact ⟨b, List.mem_of_getElem? hb, by simp [hp]⟩
theorem isReference_eq (s : List UInt8) (hs : s.length ≤ 9223372036854775807) : m_interchangeref2_IsReference s = some (isRef s) := by
  unfold m_interchangeref2_IsReference sims_G3_0_0; dsimp only
  generalize hf : (fun s_1 : Int => _) = f
  obtain ⟨a, ha, hp⟩ := loopC_inv (f := f) (fun i => ∃ k : Nat, i = k ∧ k ≤ s.length ∧ (s.take k).all refByte = true) (fun i => (s.length - i).toNat)
    (fun o => match o with | .inl _ => s.all refByte = true | .inr b => b = false ∧ s.all refByte = false) (s := 0) (by
      rintro _ ⟨k, rfl, hk, hall⟩
      subst hf
      by_cases hlt : k < s.length
      · obtain ⟨c, hc⟩ : ∃ c, s[k]? = some c := ⟨_, List.getElem?_eq_getElem hlt⟩
        have hb := refByte_eq c
        have hd : decide ((k : Int) < s.length) = true := by simpa using hlt
        simp only [hd, cond_true, getI_nat, hc, Option.bind_some, andO_some, orO_some]
        cases hr : refByte c with
        | true =>
          refine .inl ⟨((k + 1 : Nat) : Int), ?_, ⟨k + 1, rfl, hlt, all_take_succ hc hall hr⟩, by omega⟩
          rw [hr] at hb
          rw [wrapN k (by omega)]
          have : (!(decide (65 ≤ (c.toNat : Int)) && decide ((c.toNat : Int) ≤ 90) || decide (48 ≤ (c.toNat : Int)) && decide ((c.toNat : Int) ≤ 57) || decide ((c.toNat : Int) = 45))) = false := by
            simp at hb ⊢; omega
          rw [this]; rfl
        | false =>
          refine .inr ⟨.inr false, ?_, rfl, all_not hc hr⟩
          rw [hr] at hb
          have : (!(decide (65 ≤ (c.toNat : Int)) && decide ((c.toNat : Int) ≤ 90) || decide (48 ≤ (c.toNat : Int)) && decide ((c.toNat : Int) ≤ 57) || decide ((c.toNat : Int) = 45))) = true := by
            simp at hb ⊢; omega
          rw [this]; rfl
      · have hd : decide ((k : Int) < s.length) = false := by simpa using hlt
        refine .inr ⟨.inl k, ?_, ?_⟩
        · simp only [hd, cond_false]; rfl
        · rw [List.take_of_length_le (by omega)] at hall; exact hall) ⟨0, rfl, by omega, by simp⟩
  rw [ha]
  cases a with
  | inl i =>
    simp only [Option.bind_some, outK, andO_some, isRef, hp, Bool.and_true]
    congr 1; rw [Bool.eq_iff_iff]; cases s <;> simp <;> omega
  | inr b => obtain ⟨rfl, h⟩ := hp; simp only [Option.bind_some, outK, isRef, h, Bool.and_false]
end Go.Proofs.YtlmmfddbpagiaaaGreatDoor

/-
  Plain laws: the checks of a book.
-/
namespace Go.Proofs.YtlmmfddbpagiaaaGreatDoor
set_option linter.unusedSimpArgs false
set_option linter.unusedVariables false
open Go.RowKit

def firstF (f : Nat → Int) : Nat → Nat → Int
  | _, 0 => 0
  | i, n + 1 => if f i ≠ 0 then f i else firstF f (i + 1) n
theorem firstF_skip {f : Nat → Int} : ∀ (i n k : Nat), k ≤ n → (∀ j, i ≤ j → j < i + k → f j = 0) → firstF f i n = firstF f (i + k) (n - k)
  | i, n, 0, _, _ => by simp
  | i, 0, k + 1, h, _ => by omega
  | i, n + 1, k + 1, h, hz => by
    have h1 := hz i (by omega) (by omega)
    simp only [firstF, h1, ne_eq, not_true_eq_false, if_false]
    rw [firstF_skip (i + 1) n k (by omega) (fun j hj hj' => hz j (by omega) (by omega))]
    congr 1 <;> omega
theorem sliceI_take {α : Type} (l : List α) (n : Nat) (h : n ≤ l.length) : sliceI l 0 (n : Int) = some (l.take n) := by
  unfold sliceI
  rw [if_pos (by omega)]; simp
end Go.Proofs.YtlmmfddbpagiaaaGreatDoor

/-
  Plain laws: names, and loops that end at the first fault.
-/
namespace Go.Proofs.YtlmmfddbpagiaaaGreatDoor
set_option linter.unusedSimpArgs false
set_option linter.unusedVariables false
open Go.RowKit

abbrev MX : Nat := 9223372036854775807
/-! ### Loops that end at the first fault -/
theorem loop_fS {S : Type} (st : Nat → S) {n : Nat} {g : Nat → Int} {f : S → Option (S ⊕ (S ⊕ Int))} (hf : ∀ i, i < n → f (st i) = if g i = 0 then some (.inl (st (i + 1))) else some (.inr (.inr (g i))))
    (he : f (st n) = some (.inr (.inl (st n)))) (K : S → Option Int) : (loopC f (st 0)).bind (outK K) = if firstF g 0 n = 0 then K (st n) else some (firstF g 0 n) := by
  have h := loop_first (f := f) (z := .inl (st n)) st n (fun i => if g i = 0 then none else some (.inr (g i))) (fun i hi hg => by
    rw [hf i hi]
    by_cases hz : g i = 0
    · rw [if_pos hz]
    · simp only [hz, if_false] at hg; cases hg) (fun i a hi hg => by
    rw [hf i hi]
    by_cases hz : g i = 0
    · simp only [hz, if_true] at hg; cases hg
    · simp only [hz, if_false, Option.some.injEq] at hg; rw [if_neg hz, hg]) he
  rw [h]
  rcases firstS_cases (fun i => if g i = 0 then (none : Option (S ⊕ Int)) else some (.inr (g i))) n with ⟨h1, h2⟩ | ⟨k, a, h1, h2, h3, h4⟩
  · have : firstF g 0 n = 0 := by
      rw [firstF_skip 0 n n (by omega) (fun j _ hj => by
        have := h2 j (by omega)
        by_cases hz : g j = 0
        · exact hz
        · simp only [hz, if_false] at this; cases this)]
      simp [firstF]
    rw [h1, if_pos this]; rfl
  · have hz : g k ≠ 0 := by intro hz; simp only [hz, if_true] at h3; cases h3
    have : firstF g 0 n = g k := by
      rw [firstF_skip 0 n k (by omega) (fun j _ hj => by
        have := h2 j (by omega)
        by_cases hz : g j = 0
        · exact hz
        · simp only [hz, if_false] at this; cases this)]
      obtain ⟨m, hm⟩ : ∃ m, n - k = m + 1 := ⟨n - k - 1, by omega⟩
      rw [hm, Nat.zero_add]
      simp only [firstF, hz, ne_eq, not_false_eq_true, if_true]
    rw [h4, this, if_neg hz]
    simp only [hz, if_false, Option.some.injEq] at h3
    rw [← h3]; rfl
def anyAt {α : Type} (l : List α) (q : α → Bool) (c : Int) (k : Nat) : Int := match l[k]? with | some o => if q o = true then c else 0 | none => 0
theorem firstF_any {α : Type} (l : List α) (q : α → Bool) (c : Int) (hc : c ≠ 0) (i : Nat) (hi : i ≤ l.length) :
    firstF (anyAt l q c) 0 i = if (l.take i).any q = true then c else 0 := by
  have : ∀ d k, k + d = i → firstF (anyAt l q c) k d = if ((l.take i).drop k).any q = true then c else 0 := by
    intro d
    induction d with
    | zero =>
      intro k hk
      have : (l.take i).drop k = [] := List.drop_eq_nil_of_le (by rw [List.length_take]; omega)
      rw [this]; simp [firstF]
    | succ d ih =>
      intro k hk
      obtain ⟨e, he⟩ := get_lt (l := l) (i := k) (by omega)
      have ht : (l.take i)[k]? = some e := by rw [List.getElem?_take_of_lt (by omega), he]
      have hd : (l.take i).drop k = e :: (l.take i).drop (k + 1) := by
        have hlt := get_le ht
        rw [List.drop_eq_getElem_cons hlt]
        congr 1
        rw [List.getElem?_eq_getElem hlt] at ht; simpa using ht
      simp only [firstF, anyAt, he]
      rw [hd, List.any_cons, ih (k + 1) (by omega)]
      cases hq : q e <;> simp [hc]
  have := this i 0 (by omega)
  simpa using this
/-! ### Names -/
def lowB (b : UInt8) : Bool := decide (97 ≤ (b.toNat : Int)) && decide ((b.toNat : Int) ≤ 122)
def nameB (b : UInt8) : Bool := lowB b || (decide ((b.toNat : Int) = 45) || (decide (48 ≤ (b.toNat : Int)) && decide ((b.toNat : Int) ≤ 57)))
def nameSet : List UInt8 := [97, 98, 99, 100, 101, 102, 103, 104, 105, 106, 107, 108, 109, 110, 111, 112, 113, 114, 115, 116, 117, 118, 119, 120, 121, 122, 48, 49, 50, 51, 52, 53, 54, 55, 56, 57, 45]
theorem nameB_all : (List.range 256).all (fun n => nameSet.contains (UInt8.ofNat n) == nameB (UInt8.ofNat n)) = true := by decide +kernel
theorem nameB_eq (b : UInt8) : nameSet.contains b = nameB b := by
  have := List.all_eq_true.1 nameB_all b.toNat (List.mem_range.2 b.toNat_lt)
  have hb : UInt8.ofNat b.toNat = b := by simp
  rw [hb] at this
  simpa using this
theorem trim_name (l : List UInt8) : decide (Lib.trimS l nameSet = []) = l.all nameB := by
  rw [Bool.eq_iff_iff, decide_eq_true_eq, trim_nil, List.all_eq_true]
  simp only [nameB_eq]
/-- A name. -/
def nameF : List UInt8 → Bool
  | [] => false
  | b :: l => decide (l.length ≤ 39) && lowB b && l.all nameB
theorem w_name (l : List UInt8) (hl : l.length ≤ MX) : m_kit_IsName l = some (nameF l) := by
  have ht : m_strings_Trim l nameSet = some (Lib.trimS l nameSet) := by
    unfold m_strings_Trim
    rw [if_pos ⟨hl, by decide, by decide⟩]
  have hu : ([97, 98, 99, 100, 101, 102, 103, 104, 105, 106, 107, 108, 109, 110, 111, 112, 113, 114, 115, 116, 117, 118, 119, 120, 121, 122, 48, 49, 50, 51, 52, 53, 54, 55, 56, 57, 45] : List UInt8) = nameSet := rfl
  unfold m_kit_IsName sims_G3_1_0; dsimp only
  rw [hu]
  cases l with
  | nil => rfl
  | cons b l =>
    have hg : getI (b :: l) 0 = some b := rfl
    simp only [hg, Option.bind_some, orO_some, ht, trim_name, nameF]
    have h1 : decide (((b :: l).length : Int) < 1) = false := by simp only [List.length_cons]; apply decide_eq_false; omega
    have h2 : decide (40 < ((b :: l).length : Int)) = !decide (l.length ≤ 39) := by simp only [List.length_cons]; rw [Bool.eq_iff_iff]; simp <;> omega
    have h3 : (decide ((b.toNat : Int) < 97) || decide (122 < (b.toNat : Int))) = !lowB b := by unfold lowB; rw [Bool.eq_iff_iff]; simp
    rw [h1, h2, Bool.false_or, Bool.or_assoc, h3]
    cases hb : lowB b with
    | false => simp
    | true => cases decide (l.length ≤ 39) <;> simp [nameB, hb]
def nameI (i : Nat) (b : UInt8) : Bool := lowB b || (decide (i ≠ 0) && nameB b)
theorem r_name (l : List UInt8) (hl : l.length ≤ MX) : m_interchangeref2_IsName l = some (nameF l) := by
  unfold MX at hl
  unfold m_interchangeref2_IsName sims_G3_0_0; dsimp only
  generalize hf : (fun s : Int => _) = f
  have key := loop_runI (f := f) l (fun i (_ : Unit) => (i : Int)) (fun i _ e => if nameI i e = true then some (.inl ()) else some (.inr (.inr false))) (fun _ => some (Sum.inl (l.length : Int))) (fun i e s he => by
    subst hf
    have hi := get_le he
    simp only [lt_dec hi, cond_true, getI_nat, he, Option.bind_some, andO_some, orO_some, wrapN i (by omega)]
    have h0 : decide ((i : Int) = 0) = decide (i = 0) := by congr 1; apply propext; omega
    have h1 : (!(decide (97 ≤ (e.toNat : Int)) && decide ((e.toNat : Int) ≤ 122)) && (decide ((i : Int) = 0) || (!decide ((e.toNat : Int) = 45) && !(decide (48 ≤ (e.toNat : Int)) && decide ((e.toNat : Int) ≤ 57))))) = !nameI i e := by
      rw [h0]
      unfold nameI nameB lowB
      cases decide (97 ≤ (e.toNat : Int)) <;> cases decide ((e.toNat : Int) ≤ 122) <;> by_cases hi0 : i = 0 <;> simp [hi0]
    rw [h1]
    cases nameI i e <;> rfl) (fun s => by
    subst hf
    simp only [lt_dec_self, cond_false]; rfl) ()
  rw [show ((0 : Nat) : Int) = 0 from rfl] at key
  rw [key]
  have h2 : ∀ (t : List UInt8) (i : Nat), 0 < i → runI (fun i (_ : Unit) e => if nameI i e = true then some (.inl ()) else some (.inr (.inr false))) (fun _ => some (Sum.inl (l.length : Int))) t i () = if t.all nameB = true then some (.inl (l.length : Int)) else some (.inr false) := by
    intro t
    induction t with
    | nil => intro i _; rfl
    | cons b t ih =>
      intro i hi
      simp only [runI]
      have : nameI i b = nameB b := by
        unfold nameI
        rw [decide_eq_true (show i ≠ 0 by omega), Bool.true_and]
        unfold nameB
        cases lowB b <;> simp
      rw [this]
      cases hb : nameB b with
      | true => simp only [if_true, ih (i + 1) (by omega), List.all_cons, hb, Bool.true_and]
      | false => simp [hb]
  cases l with
  | nil => rfl
  | cons b l =>
    simp only [runI]
    have h3 : nameI 0 b = lowB b := by unfold nameI; cases lowB b <;> simp
    have h4 : decide (((b :: l).length : Int) ≤ 40) = decide (l.length ≤ 39) := by simp only [List.length_cons]; rw [Bool.eq_iff_iff]; simp; omega
    rw [h3]
    cases hb : lowB b with
    | false => simp [outK, hb, nameF]
    | true =>
      simp only [if_true]
      rw [h2 l 1 (by omega)]
      cases hl : l.all nameB with
      | true => simp [outK, hb, hl, nameF, andO_some]; try omega
      | false => simp [outK, hb, hl, nameF]
end Go.Proofs.YtlmmfddbpagiaaaGreatDoor

/-
  Plain laws of the replies: CheckReply on both sides.
-/
namespace Go.Proofs.YtlmmfddbpagiaaaGreatDoor
set_option linter.unusedSimpArgs false
set_option linter.unusedVariables false
open Go.RowKit

/-! ### What any machine has -/
/-! ### Is one in a list? -/
/-! ### Together -/
end Go.Proofs.YtlmmfddbpagiaaaGreatDoor

/-
  Plain laws of the replies: the faults.
-/
namespace Go.Proofs.YtlmmfddbpagiaaaGreatDoor
set_option linter.unusedSimpArgs false
set_option linter.unusedVariables false
open Go.RowKit

/-! ### Flaws -/
theorem big_dec (n k : Nat) : decide ((k : Int) < (n : Int)) = decide (k < n) := by congr 1; apply propext; omega
/-! ### Messages -/
end Go.Proofs.YtlmmfddbpagiaaaGreatDoor

/-
  Plain laws of the replies: messages of the reference, groups, CheckReply.
-/
namespace Go.Proofs.YtlmmfddbpagiaaaGreatDoor
set_option linter.unusedSimpArgs false
set_option linter.unusedVariables false
open Go.RowKit

/-- The loop that looks for one before. -/
theorem before_eq {α : Type} (l : List α) (i : Nat) (hi : i ≤ l.length) (hl : l.length ≤ MX) (q : α → Bool) {f : Int → Option (Int ⊕ (Int ⊕ Int))} (K : Int → Option Int)
    (hf : ∀ k o, k < i → l[k]? = some o → f (k : Int) = bif q o then some (.inr (.inr 7)) else some (.inl ((k + 1 : Nat) : Int))) (he : f (i : Int) = some (.inr (.inl (i : Int)))) :
    (loopC f 0).bind (outK K) = bif (l.take i).any q then some 7 else K (i : Int) := by
  refine (loop_fS (fun i : Nat => (i : Int)) (n := i) (g := anyAt l q 7) (fun k hk => ?_) he K).trans ?_
  · obtain ⟨o, ho⟩ := get_lt (l := l) (i := k) (by omega)
    rw [hf k o hk ho]
    simp only [anyAt, ho]
    cases q o <;> rfl
  · rw [firstF_any l q 7 (by decide) i hi]
    cases (l.take i).any q <;> rfl
/-! ### Groups -/
/-! ### Replies -/
end Go.Proofs.YtlmmfddbpagiaaaGreatDoor

/-
  Segments: when they are right; sameness.
-/
namespace Go.Proofs.YtlmmfddbpagiaaaGreatDoor
set_option linter.unusedSimpArgs false
set_option linter.unusedVariables false
open Go.RowKit

theorem listF_all {α : Type} {h : α → Int} : ∀ {l : List α}, (∀ e ∈ l, h e = 0) → listF h l = 0
  | [], _ => rfl
  | e :: l, hl => by
    unfold listF
    rw [if_pos (hl e (by simp))]
    exact listF_all fun e he => hl e (by simp [he])
theorem repF_iff {l : List (List UInt8)} : repF l = 0 ↔ (1 ≤ l.length ∧ l.length ≤ 20 ∧ ∀ t ∈ l, textF t = 0) := by
  unfold repF
  by_cases h1 : l.length = 0
  · simp [h1]
  · by_cases h2 : 20 < l.length
    · simp [h1, h2]; omega
    · rw [if_neg h1, if_neg h2]
      exact ⟨fun h => ⟨by omega, by omega, listF_zero h⟩, fun h => listF_all h.2.2⟩
theorem elemF_iff {e : Tapi_Element} : elemF e = 0 ↔ (1 ≤ e.fRepeats.length ∧ e.fRepeats.length ≤ 20 ∧ ∀ t ∈ e.fRepeats, repF t = 0) := by
  unfold elemF
  by_cases h1 : e.fRepeats.length = 0
  · simp [h1]
  · by_cases h2 : 20 < e.fRepeats.length
    · simp [h1, h2]; omega
    · rw [if_neg h1, if_neg h2]
      exact ⟨fun h => ⟨by omega, by omega, listF_zero h⟩, fun h => listF_all h.2.2⟩
theorem segF_iff {s : Tapi_Segment} : segF s = 0 ↔ (tagF s.fTag = true ∧ s.fElements.length ≤ 50 ∧ ∀ e ∈ s.fElements, elemF e = 0) := by
  unfold segF
  by_cases h1 : tagF s.fTag = false
  · simp [h1]
  · by_cases h2 : 50 < s.fElements.length
    · simp [h1, h2]; intro h; omega
    · rw [if_neg h1, if_neg h2]
      exact ⟨fun h => ⟨by simpa using h1, by omega, listF_zero h⟩, fun h => listF_all h.2.2⟩
theorem seg_ok {s : Tapi_Segment} (h : segF s = 0) : cloneOk s := by
  obtain ⟨_, h2, h3⟩ := segF_iff.1 h
  refine ⟨by omega, fun e he => ?_⟩
  obtain ⟨_, h5, h6⟩ := elemF_iff.1 (h3 e he)
  refine ⟨by omega, fun p hp => ?_⟩
  obtain ⟨_, h8, _⟩ := repF_iff.1 (h6 p hp)
  omega
theorem sameTexts_refl (l : List (List UInt8)) (hl : l.length ≤ 137438953472) : m_interchangeref2_SameTexts l l = some true := by
  unfold m_interchangeref2_SameTexts sims_G3_0_1; dsimp only
  simp only [decide_true, Bool.not_true, cond_false]
  refine bind_loop (a := .inl (l.length : Int)) (loop_trace (fun i => (i : Int)) l.length (fun i hi => ?_) ?_) rfl
  · obtain ⟨e, he⟩ := get_lt hi
    simp only [lt_dec hi, cond_true, getI_nat, he, Option.bind_some, decide_true, Bool.not_true, cond_false, wrapN i (by omega)]
  · simp only [lt_dec_self, cond_false]; rfl
theorem sameSeg_refl (x : Tapi_Segment) (hx : cloneOk x) : m_interchangeref2_SameSegment x x = some true := by
  obtain ⟨h1, h2⟩ := hx
  unfold m_interchangeref2_SameSegment sims_G3_1_0; dsimp only
  simp only [decide_true, Bool.not_true, orO_some, Bool.or_self, Option.bind_some, cond_false]
  refine bind_loop (a := .inl (x.fElements.length : Int)) (loop_trace (fun i => (i : Int)) x.fElements.length (fun i hi => ?_) ?_) rfl
  · obtain ⟨e, he⟩ := get_lt hi
    obtain ⟨h3, h4⟩ := h2 e (List.mem_of_getElem? he)
    simp only [lt_dec hi, cond_true, getI_nat, he, Option.bind_some, decide_true, Bool.not_true, cond_false, wrapN i (by omega)]
    refine bind_loop (a := .inl (e.fRepeats.length : Int)) (loop_trace (fun i => (i : Int)) e.fRepeats.length (fun k hk => ?_) ?_) rfl
    · obtain ⟨p, hp⟩ := get_lt hk
      simp only [lt_dec hk, cond_true, getI_nat, hp, Option.bind_some, sameTexts_refl p (h4 p (List.mem_of_getElem? hp)), Bool.not_true, cond_false, wrapN k (by omega)]
    · simp only [lt_dec_self, cond_false]; rfl
  · simp only [lt_dec_self, cond_false]; rfl
theorem sameSegs_refl (l : List Tapi_Segment) (hl : l.length ≤ 137438953472) (hx : ∀ x ∈ l, cloneOk x) : m_interchangeref2_SameSegments l l = some true := by
  unfold m_interchangeref2_SameSegments sims_G3_2_0; dsimp only
  simp only [decide_true, Bool.not_true, cond_false]
  refine bind_loop (a := .inl (l.length : Int)) (loop_trace (fun i => (i : Int)) l.length (fun i hi => ?_) ?_) rfl
  · obtain ⟨e, he⟩ := get_lt hi
    simp only [lt_dec hi, cond_true, getI_nat, he, Option.bind_some, sameSeg_refl e (hx e (List.mem_of_getElem? he)), Bool.not_true, cond_false, wrapN i (by omega)]
  · simp only [lt_dec_self, cond_false]; rfl

theorem segs_in {l : List Tapi_Segment} (h : segsF l = 0) : l.length ≤ 2000 ∧ ∀ x ∈ l, segF x = 0 := by
  unfold segsF at h
  by_cases h1 : 2000 < l.length
  · simp [h1] at h
  · rw [if_neg h1] at h; exact ⟨by omega, listF_zero h⟩
end Go.Proofs.YtlmmfddbpagiaaaGreatDoor

/-
  Plain laws of interchanges: CheckInterchange on both sides.
-/
namespace Go.Proofs.YtlmmfddbpagiaaaGreatDoor
set_option linter.unusedSimpArgs false
set_option linter.unusedVariables false
open Go.RowKit

abbrev Ms := Tapi_Message
abbrev Gp := Tapi_Group
abbrev Ix := Tapi_Interchange
structure MsOk (m : Ms) : Prop where
  ref : m.fRef.length ≤ MX
  kind : m.fKind.length ≤ MX
  ver : m.fVersion.length ≤ MX
  len : m.fSegments.length ≤ 1048576
  tags : TagsShort m.fSegments
structure GpOk (g : Gp) : Prop where
  ref : g.fRef.length ≤ MX
  kind : g.fKind.length ≤ MX
  len : g.fMessages.length ≤ 1048576
  msg : ∀ m ∈ g.fMessages, MsOk m
structure IxOk (x : Ix) : Prop where
  ref : x.fRef.length ≤ MX
  snd : x.fSender.length ≤ MX
  rcv : x.fReceiver.length ≤ MX
  len : x.fGroups.length ≤ 1048576
  grp : ∀ g ∈ x.fGroups, GpOk g

/-! ### Loops that look whether all are so -/
theorem firstF_zero {f : Nat → Int} : ∀ {n i : Nat}, firstF f i n = 0 → ∀ j, i ≤ j → j < i + n → f j = 0
  | 0, i, _, j, h1, h2 => by omega
  | n + 1, i, h, j, h1, h2 => by
    unfold firstF at h
    by_cases hz : f i = 0
    · rw [if_neg (by simpa using hz)] at h
      rcases Nat.lt_or_ge i j with hlt | hge
      · exact firstF_zero h j (by omega) (by omega)
      · obtain rfl : j = i := by omega
        exact hz
    · rw [if_pos hz] at h; exact absurd h hz
theorem anyIG_eq (l : List Gp) (hl : l.length ≤ MX) (f1 : FuncId) (c1 : List DV) (p1 : Gp → Option Bool) (h1) (q : Gp → Bool) (hq : ∀ a, p1 a = some (q a)) :
    m_slices_ContainsFunc_interchange_api_Group_interchange_api_Group l f1 c1 p1 h1 = some (l.any q) := by
  unfold MX at hl
  unfold m_slices_ContainsFunc_interchange_api_Group_interchange_api_Group sims_G3_1_0; dsimp only
  unfold m_slices_IndexFunc_interchange_api_Group_interchange_api_Group sims_G3_0_0; dsimp only
  generalize hf : (fun s : Int => _) = f
  have key := loop_first (f := f) (z := .inl (l.length : Int)) (fun i : Nat => (i : Int)) l.length (fun i => match l[i]? with | some o => if q o = true then some (.inr (i : Int)) else none | none => none) (fun i hi hg => by
    subst hf
    obtain ⟨e, he⟩ := get_lt hi
    simp only [he] at hg
    cases hb : q e with
    | true => simp [hb] at hg
    | false => simp only [lt_dec hi, cond_true, getI_nat, he, Option.bind_some, hq, hb, cond_false, wrapN i (by omega)]) (fun i a hi hg => by
    subst hf
    obtain ⟨e, he⟩ := get_lt hi
    simp only [he] at hg
    cases hb : q e with
    | false => simp [hb] at hg
    | true =>
      simp only [hb, if_true, Option.some.injEq] at hg
      simp only [lt_dec hi, cond_true, getI_nat, he, Option.bind_some, hq, hb, ← hg]; rfl) (by
    subst hf
    simp only [lt_dec_self, cond_false]; rfl)
  rw [show ((0 : Nat) : Int) = 0 from rfl] at key
  rw [key]
  rcases firstS_cases (fun i => match l[i]? with | some o => if q o = true then some (.inr (i : Int)) else none | none => (none : Option (Int ⊕ Int))) l.length with ⟨h1, h2⟩ | ⟨k, a, h1, h2, h3, h4⟩
  · rw [h1]
    have : l.any q = false := by
      rw [List.any_eq_false]
      intro x hx
      obtain ⟨i, hi, rfl⟩ := List.mem_iff_getElem.1 hx
      have := h2 i hi
      simp only [List.getElem?_eq_getElem hi] at this
      intro hb; simp [hb] at this
    rw [this]; rfl
  · rw [h4]
    obtain ⟨e, he⟩ := get_lt h1
    simp only [he] at h3
    cases hb : q e with
    | false => simp [hb] at h3
    | true =>
      simp only [hb, if_true, Option.some.injEq] at h3
      have : l.any q = true := List.any_eq_true.2 ⟨e, List.mem_of_getElem? he, hb⟩
      rw [this, ← h3]
      simp [outK]
theorem anyIM_eq (l : List Ms) (hl : l.length ≤ MX) (f1 : FuncId) (c1 : List DV) (p1 : Ms → Option Bool) (h1) (q : Ms → Bool) (hq : ∀ a, p1 a = some (q a)) :
    m_slices_ContainsFunc_interchange_api_Message_interchange_api_Message l f1 c1 p1 h1 = some (l.any q) := by
  unfold MX at hl
  unfold m_slices_ContainsFunc_interchange_api_Message_interchange_api_Message sims_G3_1_0; dsimp only
  unfold m_slices_IndexFunc_interchange_api_Message_interchange_api_Message sims_G3_0_0; dsimp only
  generalize hf : (fun s : Int => _) = f
  have key := loop_first (f := f) (z := .inl (l.length : Int)) (fun i : Nat => (i : Int)) l.length (fun i => match l[i]? with | some o => if q o = true then some (.inr (i : Int)) else none | none => none) (fun i hi hg => by
    subst hf
    obtain ⟨e, he⟩ := get_lt hi
    simp only [he] at hg
    cases hb : q e with
    | true => simp [hb] at hg
    | false => simp only [lt_dec hi, cond_true, getI_nat, he, Option.bind_some, hq, hb, cond_false, wrapN i (by omega)]) (fun i a hi hg => by
    subst hf
    obtain ⟨e, he⟩ := get_lt hi
    simp only [he] at hg
    cases hb : q e with
    | false => simp [hb] at hg
    | true =>
      simp only [hb, if_true, Option.some.injEq] at hg
      simp only [lt_dec hi, cond_true, getI_nat, he, Option.bind_some, hq, hb, ← hg]; rfl) (by
    subst hf
    simp only [lt_dec_self, cond_false]; rfl)
  rw [show ((0 : Nat) : Int) = 0 from rfl] at key
  rw [key]
  rcases firstS_cases (fun i => match l[i]? with | some o => if q o = true then some (.inr (i : Int)) else none | none => (none : Option (Int ⊕ Int))) l.length with ⟨h1, h2⟩ | ⟨k, a, h1, h2, h3, h4⟩
  · rw [h1]
    have : l.any q = false := by
      rw [List.any_eq_false]
      intro x hx
      obtain ⟨i, hi, rfl⟩ := List.mem_iff_getElem.1 hx
      have := h2 i hi
      simp only [List.getElem?_eq_getElem hi] at this
      intro hb; simp [hb] at this
    rw [this]; rfl
  · rw [h4]
    obtain ⟨e, he⟩ := get_lt h1
    simp only [he] at h3
    cases hb : q e with
    | false => simp [hb] at h3
    | true =>
      simp only [hb, if_true, Option.some.injEq] at h3
      have : l.any q = true := List.any_eq_true.2 ⟨e, List.mem_of_getElem? he, hb⟩
      rw [this, ← h3]
      simp [outK]

/-! ### A string in a list -/
theorem containsS_eq (l : List (List UInt8)) (t : List UInt8) (hl : l.length ≤ 1048576) : m_slices_Contains_string_string l t = some (l.any fun e => decide (t = e)) := by
  unfold m_slices_Contains_string_string sims_G3_1_0; dsimp only
  unfold m_slices_Index_string_string sims_G3_0_0; dsimp only
  generalize hf : (fun s : Int => _) = f
  have key := loop_first (f := f) (z := .inl (l.length : Int)) (fun i : Nat => (i : Int)) l.length (fun i => match l[i]? with | some o => if t = o then some (.inr (i : Int)) else none | none => none) (fun i hi hg => by
    subst hf
    obtain ⟨e, he⟩ := get_lt hi
    simp only [he] at hg
    have hb : ¬ t = e := fun h => by simp [h] at hg
    simp only [lt_dec hi, cond_true, getI_nat, he, Option.bind_some, hb, decide_false, cond_false, wrapN i (by omega)]) (fun i a hi hg => by
    subst hf
    obtain ⟨e, he⟩ := get_lt hi
    simp only [he] at hg
    by_cases hb : t = e
    · simp only [hb, if_true, Option.some.injEq] at hg
      simp only [lt_dec hi, cond_true, getI_nat, he, Option.bind_some, hb, decide_true, ← hg]; rfl
    · simp [hb] at hg) (by
    subst hf
    simp only [lt_dec_self, cond_false]; rfl)
  rw [show ((0 : Nat) : Int) = 0 from rfl] at key
  rw [key]
  rcases firstS_cases (fun i => match l[i]? with | some o => if t = o then some (.inr (i : Int)) else none | none => (none : Option (Int ⊕ Int))) l.length with ⟨h1, h2⟩ | ⟨k, a, h1, h2, h3, h4⟩
  · rw [h1]
    have : (l.any fun e => decide (t = e)) = false := by
      rw [List.any_eq_false]
      intro x hx
      obtain ⟨i, hi, rfl⟩ := List.mem_iff_getElem.1 hx
      have := h2 i hi
      simp only [List.getElem?_eq_getElem hi] at this
      intro hb
      have hb' := of_decide_eq_true hb
      rw [if_pos hb'] at this; cases this
    rw [this]; rfl
  · rw [h4]
    obtain ⟨e, he⟩ := get_lt h1
    simp only [he] at h3
    by_cases hb : t = e
    · simp only [hb, if_true, Option.some.injEq] at h3
      have : (l.any fun e => decide (t = e)) = true := List.any_eq_true.2 ⟨e, List.mem_of_getElem? he, decide_eq_true hb⟩
      rw [this, ← h3]
      simp [outK]
    · simp [hb] at h3
def headTags : List (List UInt8) := [[73, 72, 68], [71, 72, 68], [77, 72, 68]]
def tailTags : List (List UInt8) := [[73, 84, 82], [71, 84, 82], [77, 84, 82]]
def envT (t : List UInt8) : Bool := (headTags.any fun e => decide (t = e)) || (tailTags.any fun e => decide (t = e))
theorem w_head (t : List UInt8) : m_slices_Contains_string_string [[73, 72, 68], [71, 72, 68], [77, 72, 68]] t = some (headTags.any fun e => decide (t = e)) := containsS_eq _ t (by decide)
theorem w_tail (t : List UInt8) : m_slices_Contains_string_string [[73, 84, 82], [71, 84, 82], [77, 84, 82]] t = some (tailTags.any fun e => decide (t = e)) := containsS_eq _ t (by decide)
theorem r_env (t : List UInt8) : m_interchangeref2_isEnvelope t = some (envT t) := by
  unfold m_interchangeref2_isEnvelope sims_G3_1_0; dsimp only
  unfold m_interchangeref2_levelOf sims_G3_0_0; dsimp only
  unfold envT headTags tailTags
  simp only [List.any_cons, List.any_nil, Bool.or_false]
  by_cases h1 : t = [73, 72, 68]
  · subst h1; rfl
  · by_cases h2 : t = [71, 72, 68]
    · subst h2; rfl
    · by_cases h3 : t = [77, 72, 68]
      · subst h3; rfl
      · by_cases h4 : t = [73, 84, 82]
        · subst h4; rfl
        · by_cases h5 : t = [71, 84, 82]
          · subst h5; rfl
          · by_cases h6 : t = [77, 84, 82]
            · subst h6; rfl
            · simp [h1, h2, h3, h4, h5, h6]

/-! ### Messages -/
def imN (a b c : Bool) (fs : Int) (e : Bool) : Int := bif !a then 3 else bif b then 5 else bif c then 7 else bif !decide (fs = 0) then fs else bif e then 4 else 0
def imF (m : Ms) (tw : Bool) : Int := imN (isRef m.fRef) (!nameF m.fKind || !nameF m.fVersion) tw (segsF m.fSegments) (m.fSegments.any fun s => envT s.fTag)
theorem w_heads : m_wire_heads = some [[73, 72, 68], [71, 72, 68], [77, 72, 68]] := by unfold m_wire_heads sims_G3_0_0; dsimp only
theorem w_tails : m_wire_tails = some [[73, 84, 82], [71, 84, 82], [77, 84, 82]] := by unfold m_wire_tails sims_G3_0_0; dsimp only
theorem env_end (l : List Tapi_Segment) : (if firstF (anyAt l (fun s => envT s.fTag) 4) 0 l.length = 0 then some 0 else some (firstF (anyAt l (fun s => envT s.fTag) 4) 0 l.length)) = some (bif l.any fun s => envT s.fTag then (4 : Int) else 0) := by
  rw [firstF_any l _ 4 (by decide) l.length (Nat.le_refl _), List.take_length]
  cases l.any fun s => envT s.fTag <;> rfl
theorem w_msg (m : Ms) (h : MsOk m) (l : List Ms) (hl : l.length ≤ MX) : m_wire_messageFault m l = some (imF m (l.any fun o => decide (o.fRef = m.fRef))) := by
  have hlen := h.len
  have h1 : ∀ a, m_wire_messageFault_1 a m = some (decide (a.fRef = m.fRef)) := fun a => by unfold m_wire_messageFault_1 sims_G3_0_0; dsimp only
  unfold m_wire_messageFault sims_G3_2_0; dsimp only
  simp only [orO_some, Option.bind_some, isRef_eq _ h.ref, w_name _ h.kind, w_name _ h.ver, anyIM_eq l hl _ _ _ _ _ h1, w_segs _ h.tags]
  unfold imF imN
  cases isRef m.fRef with
  | false => rfl
  | true =>
  cases (!nameF m.fKind || !nameF m.fVersion) with
  | true => rfl
  | false =>
  cases (l.any fun o => decide (o.fRef = m.fRef)) with
  | true => rfl
  | false =>
  cases hz : decide (segsF m.fSegments = 0) with
  | false => rfl
  | true =>
  simp only [Bool.not_true, cond_false, w_heads, w_tails, Option.bind_some, w_head, w_tail, orO_some]
  refine (loop_fS (fun i : Nat => (i : Int)) (n := m.fSegments.length) (g := anyAt m.fSegments (fun s => envT s.fTag) 4) (fun i hi => ?_) (by simp only [lt_dec_self, cond_false]; rfl) _).trans (env_end _)
  obtain ⟨e, he⟩ := get_lt hi
  simp only [lt_dec hi, cond_true, getI_nat, he, Option.bind_some, wrapN i (by omega), anyAt]
  change (bif envT e.fTag then _ else _) = _
  by_cases hb : envT e.fTag = true <;> simp [hb, inrO]
theorem r_msg (l : List Ms) (i : Nat) {m : Ms} (hm : l[i]? = some m) (h : MsOk m) (hl : l.length ≤ MX) : m_interchangeref2_checkMessage l i = some (imF m ((l.take i).any fun o => decide (o.fRef = m.fRef))) := by
  have hlen := h.len
  have hil := get_le hm
  have hl' := hl
  unfold MX at hl'
  unfold m_interchangeref2_checkMessage sims_G3_2_0; dsimp only
  simp only [getI_nat, hm, orO_some, Option.bind_some, isReference_eq _ h.ref, r_name _ h.kind, r_name _ h.ver, r_segs _ h.tags]
  unfold imF imN
  cases isRef m.fRef with
  | false => rfl
  | true =>
  cases (!nameF m.fKind || !nameF m.fVersion) with
  | true => rfl
  | false =>
  simp only [Bool.not_true, cond_false]
  rw [before_eq l i (by omega) hl (fun o => decide (o.fRef = m.fRef)) _ (fun k o hk ho => by
    simp only [lt_dec hk, cond_true, getI_nat, ho, Option.bind_some, wrapN k (by omega)]
    cases decide (o.fRef = m.fRef) <;> rfl) (by simp only [lt_dec_self, cond_false]; rfl)]
  cases ((l.take i).any fun o => decide (o.fRef = m.fRef)) with
  | true => rfl
  | false =>
  cases hz : decide (segsF m.fSegments = 0) with
  | false => rfl
  | true =>
  simp only [Bool.not_true, cond_false, r_env, Option.bind_some]
  refine (loop_fS (fun i : Nat => (i : Int)) (n := m.fSegments.length) (g := anyAt m.fSegments (fun s => envT s.fTag) 4) (fun i hi => ?_) (by simp only [lt_dec_self, cond_false]; rfl) _).trans (env_end _)
  obtain ⟨e, he⟩ := get_lt hi
  simp only [lt_dec hi, cond_true, getI_nat, he, Option.bind_some, wrapN i (by omega), anyAt]
  by_cases hb : envT e.fTag = true <;> simp [hb, inrO]
/-! ### Groups -/
def imAt (l : List Ms) (i : Nat) : Int := match l[i]? with
  | some m => imF m ((l.take i).any fun o => decide (o.fRef = m.fRef))
  | none => 0
def igN (a b c : Bool) (fm : Int) : Int := bif !a then 3 else bif !b then 5 else bif c then 7 else fm
def igF (g : Gp) (tw : Bool) : Int := igN (isRef g.fRef) (nameF g.fKind) tw (firstF (imAt g.fMessages) 0 g.fMessages.length)
theorem if_same (a : Int) : (if a = 0 then some 0 else some a) = some a := by split <;> simp_all
theorem sliceI_to {α : Type} (l : List α) {i : Nat} (h : i ≤ l.length) : sliceI l ((none : Option Int).getD 0) ((some (i : Int)).getD (l.length : Int)) = some (l.take i) := sliceI_take l i h
theorem w_grp (g : Gp) (h : GpOk g) (l : List Gp) (hl : l.length ≤ MX) : m_wire_groupFault g l = some (igF g (l.any fun o => decide (o.fRef = g.fRef))) := by
  have hlen := h.len
  have h1 : ∀ a, m_wire_groupFault_1 a g = some (decide (a.fRef = g.fRef)) := fun a => by unfold m_wire_groupFault_1 sims_G3_0_0; dsimp only
  unfold m_wire_groupFault sims_G3_3_0; dsimp only
  simp only [Option.bind_some, isRef_eq _ h.ref, w_name _ h.kind, anyIG_eq l hl _ _ _ _ _ h1]
  unfold igF igN
  cases isRef g.fRef with
  | false => rfl
  | true =>
  cases nameF g.fKind with
  | false => rfl
  | true =>
  cases (l.any fun o => decide (o.fRef = g.fRef)) with
  | true => rfl
  | false =>
  simp only [Bool.not_true, cond_false]
  refine (loop_fS (fun i : Nat => (i : Int)) (n := g.fMessages.length) (g := imAt g.fMessages) (fun i hi => ?_) (by simp only [lt_dec_self, cond_false]; rfl) _).trans (if_same _)
  obtain ⟨e, he⟩ := get_lt hi
  have hs := h.msg e (List.mem_of_getElem? he)
  simp only [lt_dec hi, cond_true, getI_nat, he, Option.bind_some, sliceI_to g.fMessages (Nat.le_of_lt hi), w_msg e hs _ (show (g.fMessages.take i).length ≤ MX by rw [List.length_take]; unfold MX; omega), wrapN i (by omega), imAt]
  generalize imF e _ = a
  by_cases ha : a = 0 <;> simp [ha, inrO]
theorem r_grp (l : List Gp) (i : Nat) {g : Gp} (hg : l[i]? = some g) (h : GpOk g) (hl : l.length ≤ MX) : m_interchangeref2_checkGroup l i = some (igF g ((l.take i).any fun o => decide (o.fRef = g.fRef))) := by
  have hlen := h.len
  have hil := get_le hg
  have hl' := hl
  unfold MX at hl'
  unfold m_interchangeref2_checkGroup sims_G3_3_0; dsimp only
  simp only [getI_nat, hg, Option.bind_some, isReference_eq _ h.ref, r_name _ h.kind]
  unfold igF igN
  cases isRef g.fRef with
  | false => rfl
  | true =>
  cases nameF g.fKind with
  | false => rfl
  | true =>
  simp only [Bool.not_true, cond_false]
  rw [before_eq l i (by omega) hl (fun o => decide (o.fRef = g.fRef)) _ (fun k o hk ho => by
    simp only [lt_dec hk, cond_true, getI_nat, ho, Option.bind_some, wrapN k (by omega)]
    cases decide (o.fRef = g.fRef) <;> rfl) (by simp only [lt_dec_self, cond_false]; rfl)]
  cases ((l.take i).any fun o => decide (o.fRef = g.fRef)) with
  | true => rfl
  | false =>
  simp only [cond_false]
  refine (loop_fS (fun i : Nat => (i : Int)) (n := g.fMessages.length) (g := imAt g.fMessages) (fun i hi => ?_) (by simp only [lt_dec_self, cond_false]; rfl) _).trans (if_same _)
  obtain ⟨e, he⟩ := get_lt hi
  have hs := h.msg e (List.mem_of_getElem? he)
  simp only [lt_dec hi, cond_true, r_msg g.fMessages i he hs (show g.fMessages.length ≤ MX by unfold MX; omega), Option.bind_some, wrapN i (by omega), imAt, he]
  generalize imF e _ = a
  by_cases ha : a = 0 <;> simp [ha, inrO]
/-! ### Interchanges -/
def igAt (l : List Gp) (i : Nat) : Int := match l[i]? with
  | some g => igF g ((l.take i).any fun o => decide (o.fRef = g.fRef))
  | none => 0
def segN (l : List Ms) (n : Int) : Int := l.foldl (fun n m => IntKind.i64.wrap (n + IntKind.i64.wrap (2 + (m.fSegments.length : Int)))) n
def cntF (l : List Gp) : Int × Int := l.foldl (fun s g => (IntKind.i64.wrap (s.1 + (g.fMessages.length : Int)), segN g.fMessages (IntKind.i64.wrap (s.2 + 2)))) (0, 2)
def ciN (a b c d : Bool) (fg : Int) (e : Bool) : Int := bif !a then 3 else bif b then 5 else bif c then 1 else bif d then 2 else if fg = 0 then (bif e then 2 else 0) else fg
def ciF (x : Ix) : Int := ciN (isRef x.fRef) (!nameF x.fSender || !nameF x.fReceiver) (outside x.fDay 1 3652059 || outside x.fSecond 0 86399) (decide (50 < x.fGroups.length)) (firstF (igAt x.fGroups) 0 x.fGroups.length)
  (decide (200 < (cntF x.fGroups).1) || decide (2000 < (cntF x.fGroups).2))
theorem seg_loop (l : List Ms) (hl : l.length ≤ 1048576) (n : Int) {R : Type} {f : Int × Int → Option ((Int × Int) ⊕ ((Int × Int) ⊕ R))} (K : Int × Int → Option R)
    (hf : ∀ (i : Nat) e (a : Int), l[i]? = some e → f (a, (i : Int)) = some (.inl (IntKind.i64.wrap (a + IntKind.i64.wrap (2 + (e.fSegments.length : Int))), ((i + 1 : Nat) : Int)))) (he : ∀ a, f (a, (l.length : Int)) = some (.inr (.inl (a, (l.length : Int))))) :
    (loopC f (n, 0)).bind (outK K) = K (segN l n, (l.length : Int)) := by
  refine bind_loop (a := .inl (segN l n, (l.length : Int))) (loop_pre l (fun i q => (segN q n, (i : Int))) (fun i e h => ?_) (he _)) rfl
  rw [hf i e _ h]
  unfold segN
  rw [List.foldl_append]; rfl
theorem w_counts (x : Ix) (h : IxOk x) : m_wire_counts x = some (cntF x.fGroups) := by
  have hlen := h.len
  unfold m_wire_counts sims_G3_0_0; dsimp only
  refine bind_loop (a := .inl ((cntF x.fGroups).1, (cntF x.fGroups).2, (x.fGroups.length : Int))) (loop_pre x.fGroups (fun i q => ((cntF q).1, (cntF q).2, (i : Int))) (fun i e he => ?_) (by simp only [lt_dec_self, cond_false]; rfl)) rfl
  have hi := get_le he
  have hg := (h.grp e (List.mem_of_getElem? he)).len
  simp only [lt_dec hi, cond_true, getI_nat, he, Option.bind_some]
  refine (seg_loop e.fMessages hg _ _ (fun k m a hm => ?_) (fun a => by simp only [lt_dec_self, cond_false]; rfl)).trans ?_
  · have hk := get_le hm
    simp only [lt_dec hk, cond_true, getI_nat, hm, Option.bind_some, wrapN k (by omega)]
  · simp only [wrapN i (by omega)]
    unfold cntF
    rw [List.foldl_append]; rfl
theorem w_ci (x : Ix) (h : IxOk x) : m_wire_CheckInterchange x = some (ciF x) := by
  have hlen := h.len
  have hday : m_kit_IsDay x.fDay = some (!outside x.fDay 1 3652059) := by unfold m_kit_IsDay sims_G3_1_0; dsimp only; simp only [outside_eq, Option.bind_some]
  unfold m_wire_CheckInterchange sims_G3_4_0; dsimp only
  rw [show decide ((50 : Int) < (x.fGroups.length : Int)) = decide (50 < x.fGroups.length) from big_dec x.fGroups.length 50]
  simp only [Option.bind_some, orO_some, isRef_eq _ h.ref, w_name _ h.snd, w_name _ h.rcv, hday, outside_eq, Bool.not_not, w_counts x h]
  unfold ciF ciN
  cases isRef x.fRef with
  | false => rfl
  | true =>
  cases (!nameF x.fSender || !nameF x.fReceiver) with
  | true => rfl
  | false =>
  cases (outside x.fDay 1 3652059 || outside x.fSecond 0 86399) with
  | true => rfl
  | false =>
  cases decide (50 < x.fGroups.length) with
  | true => rfl
  | false =>
  simp only [Bool.not_true, cond_false]
  refine (loop_fS (fun i : Nat => (i : Int)) (n := x.fGroups.length) (g := igAt x.fGroups) (fun i hi => ?_) (by simp only [lt_dec_self, cond_false]; rfl) _).trans ?_
  · obtain ⟨e, he⟩ := get_lt hi
    have hs := h.grp e (List.mem_of_getElem? he)
    simp only [lt_dec hi, cond_true, getI_nat, he, Option.bind_some, sliceI_to x.fGroups (Nat.le_of_lt hi), w_grp e hs _ (show (x.fGroups.take i).length ≤ MX by rw [List.length_take]; unfold MX; omega), wrapN i (by omega), igAt]
    generalize igF e _ = a
    by_cases ha : a = 0 <;> simp [ha, inrO]
  · by_cases hq : firstF (igAt x.fGroups) 0 x.fGroups.length = 0
    · rw [if_pos hq, if_pos hq]
      cases decide (200 < (cntF x.fGroups).1) <;> cases decide (2000 < (cntF x.fGroups).2) <;> rfl
    · rw [if_neg hq, if_neg hq]
theorem r_ci (x : Ix) (h : IxOk x) : m_interchangeref2_CheckInterchange x = some (ciF x) := by
  have hlen := h.len
  unfold m_interchangeref2_CheckInterchange sims_G3_4_0; dsimp only
  rw [show decide ((50 : Int) < (x.fGroups.length : Int)) = decide (50 < x.fGroups.length) from big_dec x.fGroups.length 50]
  simp only [Option.bind_some, orO_some, isReference_eq _ h.ref, r_name _ h.snd, r_name _ h.rcv]
  have hr : (decide (x.fDay < 1) || decide (3652059 < x.fDay) || decide (x.fSecond < 0) || decide (86399 < x.fSecond)) = (outside x.fDay 1 3652059 || outside x.fSecond 0 86399) := by unfold outside; simp only [Bool.or_assoc]
  rw [hr]
  unfold ciF ciN
  cases isRef x.fRef with
  | false => rfl
  | true =>
  cases (!nameF x.fSender || !nameF x.fReceiver) with
  | true => rfl
  | false =>
  cases (outside x.fDay 1 3652059 || outside x.fSecond 0 86399) with
  | true => rfl
  | false =>
  cases decide (50 < x.fGroups.length) with
  | true => rfl
  | false =>
  simp only [Bool.not_true, cond_false]
  refine (loop_fS (fun i : Nat => ((cntF (x.fGroups.take i)).1, (cntF (x.fGroups.take i)).2, (i : Int))) (n := x.fGroups.length) (g := igAt x.fGroups) (fun i hi => ?_) (by simp only [lt_dec_self, cond_false]; rfl) _).trans ?_
  · obtain ⟨e, he⟩ := get_lt hi
    have hs := h.grp e (List.mem_of_getElem? he)
    have hg := hs.len
    simp only [lt_dec hi, cond_true, r_grp x.fGroups i he hs (show x.fGroups.length ≤ MX by unfold MX; omega), getI_nat, he, Option.bind_some, igAt]
    generalize igF e _ = a
    by_cases ha : a = 0
    · simp only [ha, decide_true, Bool.not_true, cond_false, if_true]
      refine (seg_loop e.fMessages hg _ _ (fun k m a hm => ?_) (fun a => by simp only [lt_dec_self, cond_false]; rfl)).trans ?_
      · have hk := get_le hm
        simp only [lt_dec hk, cond_true, getI_nat, hm, Option.bind_some, wrapN k (by omega)]
      · have hc : cntF (x.fGroups.take (i + 1)) = (IntKind.i64.wrap ((cntF (x.fGroups.take i)).1 + (e.fMessages.length : Int)), segN e.fMessages (IntKind.i64.wrap ((cntF (x.fGroups.take i)).2 + 2))) := foldl_snoc he
        simp only [hc, wrapN i (by omega)]
    · simp [ha, inrO]
  · by_cases hq : firstF (igAt x.fGroups) 0 x.fGroups.length = 0
    · rw [if_pos hq, if_pos hq]
      simp only [List.take_length]
      cases decide (200 < (cntF x.fGroups).1) <;> cases decide (2000 < (cntF x.fGroups).2) <;> rfl
    · rw [if_neg hq, if_neg hq]
end Go.Proofs.YtlmmfddbpagiaaaGreatDoor

/-
  Plain laws: what a right interchange has; copies of segments.
-/
namespace Go.Proofs.YtlmmfddbpagiaaaGreatDoor
set_option linter.unusedSimpArgs false
set_option linter.unusedVariables false
open Go.RowKit

/-! ### What a right interchange has -/
def SegsOk (l : List Tapi_Segment) : Prop := l.length ≤ 137438953472 ∧ ∀ s ∈ l, cloneOk s
theorem segs_ok {l : List Tapi_Segment} (h : segsF l = 0) : SegsOk l := by
  obtain ⟨h1, h2⟩ := segs_in h
  exact ⟨by omega, fun s hs => seg_ok (h2 s hs)⟩
theorem cloneAll_eq (l : List Tapi_Segment) (h : SegsOk l) : m_wire_CloneAll l = some l := by
  obtain ⟨h1, h2⟩ := h
  have hc : m_slices_Clone_interchange_api_Segment_interchange_api_Segment l = some l := by
    unfold m_slices_Clone_interchange_api_Segment_interchange_api_Segment
    rw [if_pos h1]
  unfold m_wire_CloneAll sims_G3_1_0; dsimp only
  rw [hc]
  simp only [Option.bind_some]
  refine bind_loop (a := .inl (l, (l.length : Int))) (loop_trace (fun i : Nat => (l, (i : Int))) l.length (fun i hi => ?_) ?_) rfl
  · obtain ⟨e, he⟩ := get_lt hi
    have hm : m_wire_Clone e = some e := by unfold m_wire_Clone; rw [if_pos (h2 e (List.mem_of_getElem? he))]
    have hs : l.set i e = l := by
      obtain ⟨hi', rfl⟩ := List.getElem?_eq_some_iff.1 he
      exact List.set_getElem_self hi'
    simp only [lt_dec hi, cond_true, getI_nat, he, Option.bind_some, Int.toNat_natCast, hm, hs, wrapN i (by omega)]
  · simp only [lt_dec_self, cond_false]; rfl

end Go.Proofs.YtlmmfddbpagiaaaGreatDoor
