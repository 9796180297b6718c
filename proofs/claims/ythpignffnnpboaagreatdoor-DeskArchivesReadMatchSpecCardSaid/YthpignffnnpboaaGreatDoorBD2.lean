/-
  Texts of mine, one behind the other (SDG1, SDG2, SDRow, SDPL, SDPM, SDH1, SDH2).
-/
import Derived.Test.YthpignffnnpboaaGreatDoorBD1
import Derived.Test.YthpignffnnpboaaGreatDoorSDEngZz
import Derived.Test.YthpignffnnpboaaGreatDoorProg
import Derived.KernelRfl
import Derived.Test.YthpignffnnpboaaGreatDoorSDEngRk
import Derived.Test.YthpignffnnpboaaGreatDoorCards
import Derived.Test.YthpignffnnpboaaGreatDoorTie
import Derived.Test.YthpignffnnpboaaGreatDoorSDEngR
import Derived.Test.YthpignffnnpboaaGreatDoorSDEngX
import Derived.Lib.ItoaLen
import Derived.Lib.Repeat
/-
  Bodies of functions and what they compute, printed by programs of mine (wip/tool/gen.py, sc.py) out of the translation; the kernel holds each against the translation.
-/
namespace Go.Proofs.YthpignffnnpboaaGreatDoor
open Go.RowKit
set_option linter.unusedSimpArgs false
set_option linter.unusedVariables false
structure Tapi_Record where
  fTime : Int
  fKind : List UInt8
  fKey : List UInt8
  fDigest : List UInt8
  fDropped : Bool
  fText : List UInt8
  deriving DecidableEq
def rTapi_Record (x : Tapi_Record) : List DV := [.int .i64 x.fTime, .str x.fKind, .str x.fKey, .str x.fDigest, .bool x.fDropped, .str x.fText]
attribute [push_cast] rTapi_Record
theorem fT_Tapi_Record {d0 d1 d2 d3 d4 d5 : DV} {v0 : Int} {v1 : List UInt8} {v2 : List UInt8} {v3 : List UInt8} {v4 : Bool} {v5 : List UInt8} (h0 : d0 = .int .i64 v0) (h1 : d1 = .str v1) (h2 : d2 = .str v2) (h3 : d3 = .str v3) (h4 : d4 = .bool v4) (h5 : d5 = .str v5) : [d0, d1, d2, d3, d4, d5] = rTapi_Record ⟨v0, v1, v2, v3, v4, v5⟩ := by unfold rTapi_Record; simp only [h0, h1, h2, h3, h4, h5, List.cons_append, List.nil_append, List.append_assoc, List.append_nil]
theorem cT_Tapi_Record {d0 d1 d2 d3 d4 d5 : SV} {v0 : Int} {v1 : List UInt8} {v2 : List UInt8} {v3 : List UInt8} {v4 : Bool} {v5 : List UInt8} (h0 : svle d0 (.d (.int .i64 v0))) (h1 : svle d1 (.d (.str v1))) (h2 : svle d2 (.d (.str v2))) (h3 : svle d3 (.d (.str v3))) (h4 : svle d4 (.d (.bool v4))) (h5 : svle d5 (.d (.str v5))) : cellsle [d0, d1, d2, d3, d4, d5] (dR (rTapi_Record ⟨v0, v1, v2, v3, v4, v5⟩)) := by have h := (cellsle.append (cellsle.consS h0 cellsle.nil) (cellsle.append (cellsle.consS h1 cellsle.nil) (cellsle.append (cellsle.consS h2 cellsle.nil) (cellsle.append (cellsle.consS h3 cellsle.nil) (cellsle.append (cellsle.consS h4 cellsle.nil) (cellsle.consS h5 cellsle.nil)))))); simpa only [rTapi_Record, dR, List.map_append, List.map_cons, List.map_nil, List.cons_append, List.nil_append, List.append_assoc, List.append_nil] using h
theorem eT_Tapi_Record {d0 d1 d2 d3 d4 d5 : SV} {v0 : Int} {v1 : List UInt8} {v2 : List UInt8} {v3 : List UInt8} {v4 : Bool} {v5 : List UInt8} (h0 : d0 = .d (.int .i64 v0)) (h1 : d1 = .d (.str v1)) (h2 : d2 = .d (.str v2)) (h3 : d3 = .d (.str v3)) (h4 : d4 = .d (.bool v4)) (h5 : d5 = .d (.str v5)) : [d0, d1, d2, d3, d4, d5] = dR (rTapi_Record ⟨v0, v1, v2, v3, v4, v5⟩) := by simp only [rTapi_Record, dR, List.map_append, List.map_cons, List.map_nil, List.cons_append, List.nil_append, List.append_assoc, List.append_nil, h0, h1, h2, h3, h4, h5]

/-- interchange/kit.Lines -/
def sc_kit_Lines : SC :=
  (.seq (.reg [.r 2 (.mv (.c (.nils))),
     .r 3 (.mv (.c (.d (.bool false))))])
  (.seq (.seq (.reg [.r 6 (.mv (.t 0)),
     .r 7 (.bin .eql (.t 6) (.c (.d (.str []))))])
  (.cond (.t 7)
    (.seq (.reg [.r 2 (.mv (.c (.nils))),
       .r 3 (.mv (.c (.d (.bool true))))])
    .ret)
    .skip))
  (.seq (.reg [.r 9 (.mv (.t 0)),
     .c 10 (.f 37) [.t 9, .c (.d (.str [10]))],
     .r 8 (.mv (.t 10)),
     .r 11 (.ext (.t 8) 0),
     .r 12 (.ext (.t 8) 1),
     .r 4 (.mv (.t 11)),
     .r 5 (.mv (.t 12))])
  (.seq (.reg [.r 13 (.mv (.t 4)),
     .c 14 (.f 38) [.t 13, .c (.d (.str [10]))],
     .r 15 (.mv (.t 5)),
     .r 2 (.mv (.t 14)),
     .r 3 (.mv (.t 15))])
  .ret))))
theorem fit_kit_Lines : fits Tryz.prog 18 Tryz.f18 sc_kit_Lines [.t 2, .t 3] 1 = true := by kernel_rfl

set_option maxRecDepth 100000 in
set_option maxHeartbeats 40000000 in
noncomputable def sims_G1_0_0 : (∀ (x0 : List UInt8), {m : Option ((List (List UInt8)) × Bool) // ∀ r, m = some r → PureSpec Tryz.prog 18 [.str x0] (.tup [.slice (List.map rowS r.1), .bool r.2])}) := by
  (intro x0; apply Subtype.mk; intro r hm; apply pure_walk Tryz.func18 fit_kit_Lines; unfold sc_kit_Lines)
  repeat' (first | with_reducible refine W_seq ?_ | with_reducible refine W_reg ?_ | with_reducible refine W_block ?_ | with_reducible refine W_skip ?_ | with_reducible refine W_ret ?_ | with_reducible refine W_exit ?_ | with_reducible refine O_nil ?_ | with_reducible refine K_seq ?_ | with_reducible refine K_seqE ?_ | with_reducible refine K_seqR ?_ | with_reducible refine K_block ?_ | with_reducible refine K_blockR ?_ | with_reducible refine K_blockE ?_ | ((with_reducible apply K_blockN); decide) | ((with_reducible apply O_r); (simp only [push_cast, seval]; rfl); (first | exact trivial | omega)) | ((with_reducible apply W_condT); (focus (simp only [push_cast, seval]; done))) | ((with_reducible apply W_condF); (focus (simp only [push_cast, seval]; done))) | ((with_reducible apply O_cF hm); (simp only [push_cast, seval]; rfl); (first | apply spec_strings_CutSuffix _ _ | apply spec_strings_Split _ _); (any_goals ((repeat' (first | rfl | (with_reducible first | apply f_optN | apply f_optS | apply f_some | apply f_tup | apply f_agg | apply f_ptr | apply f_fn | apply dv_slice | apply sv_d | apply f_cons | apply fold_nil | apply fold_cons | apply fold_app | apply f_rowI | apply f_rowY | apply f_rowS | apply f_rowB | apply f_rowL) | (with_reducible apply f_byte; decide))); done)); intro x hm) | ((with_reducible apply S_condB hm); (simp only [push_cast, seval]; rfl); intro hm; rotate_left; intro hm) | ((with_reducible apply K_end2 hm); (focus (simp only [resOf, resL, RV.get, push_cast, seval]; rfl)); (focus (first | (dsimp only; done) | (dsimp only; rfl) | rfl)); (focus ((repeat' (first | rfl | (with_reducible first | apply f_optN | apply f_optS | apply f_some | apply f_tup | apply f_agg | apply f_ptr | apply f_fn | apply dv_slice | apply sv_d | apply f_cons | apply fold_nil | apply fold_cons | apply fold_app | apply f_rowI | apply f_rowY | apply f_rowS | apply f_rowB | apply f_rowL) | (with_reducible apply f_byte; decide))); done))))
noncomputable def m_kit_Lines (x0 : List UInt8) : Option ((List (List UInt8)) × Bool) := (sims_G1_0_0 x0).1
theorem spec_kit_Lines (x0 : List UInt8) : ∀ r, m_kit_Lines x0 = some r → PureSpec Tryz.prog 18 [.str x0] (.tup [.slice (List.map rowS r.1), .bool r.2]) := (sims_G1_0_0 x0).2

def sc_slices_Index_string_string_L1 : SC :=
  (.seq (.reg [.r 9 (.bin .lss (.t 8) (.t 7))])
  (.seq (.cond (.t 9)
    .skip
    (.exit 0))
  (.seq (.block 1 (.seq (.reg [.r 10 (.mv (.t 8)),
       .r 5 (.mv (.t 10))])
    (.seq (.reg [.r 11 (.mv (.t 1)),
       .r 12 (.mv (.t 0)),
       .r 13 (.mv (.t 5)),
       .r 14 (.idx 1 (.t 12) (.t 13)),
       .o 15 (.ld1 (.t 14)),
       .r 16 (.bin .eql (.t 11) (.t 15))])
    (.cond (.t 16)
      (.seq (.reg [.r 17 (.mv (.t 5)),
         .r 4 (.mv (.t 17))])
      .ret)
      .skip))))
  (.reg [.r 18 (.bin .add (.t 8) (.c (.d (.int .i64 1)))),
     .r 8 (.mv (.t 18))]))))
def sc_slices_Index_string_string_B1 : SC := .block 0 (.loop sc_slices_Index_string_string_L1)
/-- slices.Index[[]string,string] -/
def sc_slices_Index_string_string : SC :=
  (.seq (.reg [.r 4 (.mv (.c (.d (.int .i64 0))))])
  (.seq (.seq (.reg [.r 6 (.mv (.t 0)),
     .r 7 (.len (.t 6)),
     .r 8 (.mv (.c (.d (.int .i64 0))))])
  sc_slices_Index_string_string_B1)
  (.seq (.reg [.r 4 (.mv (.c (.d (.int .i64 (-1)))))])
  .ret)))
theorem fit_slices_Index_string_string : fits Tryz.prog 105 Tryz.f105 sc_slices_Index_string_string [.t 4] 2 = true := by kernel_rfl

set_option maxRecDepth 100000 in
set_option maxHeartbeats 40000000 in
noncomputable def sims_G1_0_1 : (∀ (x0 : List (List UInt8)) (x1 : List UInt8), {m : Option (Int) // ∀ r, m = some r → PureSpec Tryz.prog 105 [.slice (List.map rowS x0), .str x1] (.int .i64 r)}) := by
  (intro x0 x1; apply Subtype.mk; intro r hm; apply pure_walk Tryz.func105 fit_slices_Index_string_string; unfold sc_slices_Index_string_string)
  repeat' (first | with_reducible refine W_seq ?_ | with_reducible refine W_reg ?_ | with_reducible refine W_block ?_ | with_reducible refine W_skip ?_ | with_reducible refine W_ret ?_ | with_reducible refine W_exit ?_ | with_reducible refine O_nil ?_ | with_reducible refine K_seq ?_ | with_reducible refine K_seqE ?_ | with_reducible refine K_seqR ?_ | with_reducible refine K_block ?_ | with_reducible refine K_blockR ?_ | with_reducible refine K_blockE ?_ | ((with_reducible apply K_blockN); decide) | with_reducible refine O_o2r ?_ | ((with_reducible apply O_idxr hm); (iterate 2 (simp only [push_cast, seval]; rfl)); (intro _; rfl); intro e hm) | ((with_reducible apply O_idxVr hm); (iterate 3 (simp only [push_cast, seval]; rfl)); intro e hm) | ((with_reducible apply O_r); (simp only [push_cast, seval]; rfl); (first | exact trivial | omega)) | ((with_reducible apply O_ldV1r hm); (iterate 2 (simp only [push_cast, seval]; rfl)); (intro _; rfl); intro e hm) | ((with_reducible apply O_strr hm); (iterate 2 (simp only [push_cast, seval]; rfl)); intro hm) | ((with_reducible apply W_condT); (focus (simp only [push_cast, seval]; done))) | ((with_reducible apply W_condF); (focus (simp only [push_cast, seval]; done))) | ((with_reducible apply S_condB hm); (simp only [push_cast, seval]; rfl); intro hm; rotate_left; intro hm) | ((with_reducible apply K_endS hm); (focus (simp only [resOf, resL, RV.get, push_cast, seval]; rfl)); (focus ((repeat' (first | rfl | (with_reducible first | apply f_optN | apply f_optS | apply f_some | apply f_tup | apply f_agg | apply f_ptr | apply f_fn | apply dv_slice | apply sv_d | apply f_cons | apply fold_nil | apply fold_cons | apply fold_app | apply f_rowI | apply f_rowY | apply f_rowS | apply f_rowB | apply f_rowL) | (with_reducible apply f_byte; decide))); done))) | ((with_reducible apply K_leave hm); intro r hm) | ((with_reducible apply K_leaveR hm); intro r hm) | ((apply S_loopY (b := 0) (X := sc_slices_Index_string_string_B1) (x := sc_slices_Index_string_string_L1) rfl (fun (c : SV × SV × SV) (s : Int) => st [(0, c.1), (1, c.2.1), (7, c.2.2), (8, .d (.int .i64 s))] []) (c := (_, _, _)) (s0 := _) hm); (focus (first | (dsimp only; done) | (dsimp only; rfl) | rfl)); (with_reducible refine Then.mk ?_ ?_)) | ((apply K_next (s' := _) hm); (focus (first | (dsimp only; done) | (dsimp only; rfl) | rfl))) | ((apply K_brk (s' := _) hm); (focus (first | (dsimp only; done) | (dsimp only; rfl) | rfl))) | (((with_reducible apply K_brkN hm); (focus decide); intro r hm)) | (((with_reducible apply K_brkR hm); intro r hm)) | (((with_reducible apply LoopB.of); (focus (first | (dsimp only; done) | (dsimp only; rfl) | rfl)); (focus ((intro _; repeat' (first | with_reducible exact impC_end | with_reducible exact impC_endF | with_reducible refine impC_seq ?_ | with_reducible refine impC_block ?_ | ((with_reducible refine impC_rnd ?_); intro _) | ((with_reducible refine impC_brk ?_); intro _))))); (intro s o hm; first | unfold sc_slices_Index_string_string_L1); rotate_left; intro s hm)) | (((apply imp_stT; (repeat' (first | with_reducible exact keepT_nil | with_reducible exact keepC_nil | with_reducible apply keepT_cons | with_reducible apply keepC_cons | ((with_reducible apply svle_eq); (focus (first | (simp only [push_cast, seval]; rfl) | rfl)); (focus ((repeat' (first | rfl | (with_reducible first | apply f_optN | apply f_optS | apply f_some | apply f_tup | apply f_agg | apply f_ptr | apply f_fn | apply dv_slice | apply sv_d | apply f_cons | apply fold_nil | apply fold_cons | apply fold_app | apply f_rowI | apply f_rowY | apply f_rowS | apply f_rowB | apply f_rowL) | (with_reducible apply f_byte; decide))); done))) | ((with_reducible apply svle_td); (focus (first | (simp only [push_cast, seval]; rfl) | rfl)); (focus (first | (simp only [push_cast, seval]; rfl) | rfl)); (focus ((repeat' (first | rfl | (with_reducible first | apply f_optN | apply f_optS | apply f_some | apply f_tup | apply f_agg | apply f_ptr | apply f_fn | apply dv_slice | apply sv_d | apply f_cons | apply fold_nil | apply fold_cons | apply fold_app | apply f_rowI | apply f_rowY | apply f_rowS | apply f_rowB | apply f_rowL) | (with_reducible apply f_byte; decide))); done))) | ((with_reducible apply chle_eq); (focus (first | (simp only [push_cast, seval]; rfl) | rfl)); (first | with_reducible exact chle_rfl rfl | with_reducible exact chle_map0 | with_reducible apply chle_vec | with_reducible apply chle_box)) | (with_reducible first | apply r_shS | apply r_shI | apply r_rflO | apply r_oneO | apply r_appO | apply r_nilO | apply c_ownN | apply c_ownL | apply vc_rfl | apply vc_nil | apply vc_cons | apply r_rfl | apply r_rows | apply r_nil | apply r_app | apply r_cons | apply c_rowI | apply c_rowY | apply c_rowS | apply c_rowB | apply c_rowL))); done))))
noncomputable def m_slices_Index_string_string (x0 : List (List UInt8)) (x1 : List UInt8) : Option (Int) := (sims_G1_0_1 x0 x1).1
theorem spec_slices_Index_string_string (x0 : List (List UInt8)) (x1 : List UInt8) : ∀ r, m_slices_Index_string_string x0 x1 = some r → PureSpec Tryz.prog 105 [.slice (List.map rowS x0), .str x1] (.int .i64 r) := (sims_G1_0_1 x0 x1).2

def sc_slices_IndexFunc_string_string_L1 : SC :=
  (.seq (.reg [.r 9 (.bin .lss (.t 8) (.t 7))])
  (.seq (.cond (.t 9)
    .skip
    (.exit 0))
  (.seq (.block 1 (.seq (.reg [.r 10 (.mv (.t 8)),
       .r 5 (.mv (.t 10))])
    (.seq (.reg [.r 11 (.mv (.t 1)),
       .r 12 (.mv (.t 0)),
       .r 13 (.mv (.t 5)),
       .r 14 (.idx 1 (.t 12) (.t 13)),
       .o 15 (.ld1 (.t 14)),
       .c 16 (.t 11) [.t 15]])
    (.cond (.t 16)
      (.seq (.reg [.r 17 (.mv (.t 5)),
         .r 4 (.mv (.t 17))])
      .ret)
      .skip))))
  (.reg [.r 18 (.bin .add (.t 8) (.c (.d (.int .i64 1)))),
     .r 8 (.mv (.t 18))]))))
def sc_slices_IndexFunc_string_string_B1 : SC := .block 0 (.loop sc_slices_IndexFunc_string_string_L1)
/-- slices.IndexFunc[[]string,string] -/
def sc_slices_IndexFunc_string_string : SC :=
  (.seq (.reg [.r 4 (.mv (.c (.d (.int .i64 0))))])
  (.seq (.seq (.reg [.r 6 (.mv (.t 0)),
     .r 7 (.len (.t 6)),
     .r 8 (.mv (.c (.d (.int .i64 0))))])
  sc_slices_IndexFunc_string_string_B1)
  (.seq (.reg [.r 4 (.mv (.c (.d (.int .i64 (-1)))))])
  .ret)))
theorem fit_slices_IndexFunc_string_string : fits Tryz.prog 72 Tryz.f72 sc_slices_IndexFunc_string_string [.t 4] 2 = true := by kernel_rfl

set_option maxRecDepth 100000 in
set_option maxHeartbeats 40000000 in
noncomputable def sims_G1_0_2 : (∀ (x0 : List (List UInt8)) (f1 : FuncId) (c1 : List DV) (p1 : (List UInt8) → Option (Bool)) (h1 : ∀ a0 r, p1 a0 = some r → PureSpec Tryz.prog f1 ([.str a0] ++ c1) (.bool r)), {m : Option (Int) // ∀ r, m = some r → PureSpec Tryz.prog 72 [.slice (List.map rowS x0), .fn f1 c1] (.int .i64 r)}) := by
  (intro x0 f1 c1 p1 h1; apply Subtype.mk; intro r hm; apply pure_walk Tryz.func72 fit_slices_IndexFunc_string_string; unfold sc_slices_IndexFunc_string_string)
  repeat' (first | with_reducible refine W_seq ?_ | with_reducible refine W_reg ?_ | with_reducible refine W_block ?_ | with_reducible refine W_skip ?_ | with_reducible refine W_ret ?_ | with_reducible refine W_exit ?_ | with_reducible refine O_nil ?_ | with_reducible refine K_seq ?_ | with_reducible refine K_seqE ?_ | with_reducible refine K_seqR ?_ | with_reducible refine K_block ?_ | with_reducible refine K_blockR ?_ | with_reducible refine K_blockE ?_ | ((with_reducible apply K_blockN); decide) | with_reducible refine O_o2r ?_ | ((with_reducible apply O_idxr hm); (iterate 2 (simp only [push_cast, seval]; rfl)); (intro _; rfl); intro e hm) | ((with_reducible apply O_idxVr hm); (iterate 3 (simp only [push_cast, seval]; rfl)); intro e hm) | ((with_reducible apply O_r); (simp only [push_cast, seval]; rfl); (first | exact trivial | omega)) | ((with_reducible apply O_ldV1r hm); (iterate 2 (simp only [push_cast, seval]; rfl)); (intro _; rfl); intro e hm) | ((with_reducible apply O_strr hm); (iterate 2 (simp only [push_cast, seval]; rfl)); intro hm) | ((with_reducible apply W_condT); (focus (simp only [push_cast, seval]; done))) | ((with_reducible apply W_condF); (focus (simp only [push_cast, seval]; done))) | ((with_reducible apply O_cF hm); (simp only [push_cast, seval]; rfl); (first | apply h1 _); (any_goals ((repeat' (first | rfl | (with_reducible first | apply f_optN | apply f_optS | apply f_some | apply f_tup | apply f_agg | apply f_ptr | apply f_fn | apply dv_slice | apply sv_d | apply f_cons | apply fold_nil | apply fold_cons | apply fold_app | apply f_rowI | apply f_rowY | apply f_rowS | apply f_rowB | apply f_rowL) | (with_reducible apply f_byte; decide))); done)); intro x hm) | ((with_reducible apply O_cvS hm); (iterate 2 (simp only [push_cast, seval]; rfl)); (focus (first | exact h1 _)); intro x hm) | ((with_reducible apply S_condB hm); (simp only [push_cast, seval]; rfl); intro hm; rotate_left; intro hm) | ((with_reducible apply K_endS hm); (focus (simp only [resOf, resL, RV.get, push_cast, seval]; rfl)); (focus ((repeat' (first | rfl | (with_reducible first | apply f_optN | apply f_optS | apply f_some | apply f_tup | apply f_agg | apply f_ptr | apply f_fn | apply dv_slice | apply sv_d | apply f_cons | apply fold_nil | apply fold_cons | apply fold_app | apply f_rowI | apply f_rowY | apply f_rowS | apply f_rowB | apply f_rowL) | (with_reducible apply f_byte; decide))); done))) | ((with_reducible apply K_leave hm); intro r hm) | ((with_reducible apply K_leaveR hm); intro r hm) | ((apply S_loopY (b := 0) (X := sc_slices_IndexFunc_string_string_B1) (x := sc_slices_IndexFunc_string_string_L1) rfl (fun (c : SV × SV × SV) (s : Int) => st [(0, c.1), (1, c.2.1), (7, c.2.2), (8, .d (.int .i64 s))] []) (c := (_, _, _)) (s0 := _) hm); (focus (first | (dsimp only; done) | (dsimp only; rfl) | rfl)); (with_reducible refine Then.mk ?_ ?_)) | ((apply K_next (s' := _) hm); (focus (first | (dsimp only; done) | (dsimp only; rfl) | rfl))) | ((apply K_brk (s' := _) hm); (focus (first | (dsimp only; done) | (dsimp only; rfl) | rfl))) | (((with_reducible apply K_brkN hm); (focus decide); intro r hm)) | (((with_reducible apply K_brkR hm); intro r hm)) | (((with_reducible apply LoopB.of); (focus (first | (dsimp only; done) | (dsimp only; rfl) | rfl)); (focus ((intro _; repeat' (first | with_reducible exact impC_end | with_reducible exact impC_endF | with_reducible refine impC_seq ?_ | with_reducible refine impC_block ?_ | ((with_reducible refine impC_rnd ?_); intro _) | ((with_reducible refine impC_brk ?_); intro _))))); (intro s o hm; first | unfold sc_slices_IndexFunc_string_string_L1); rotate_left; intro s hm)) | (((apply imp_stT; (repeat' (first | with_reducible exact keepT_nil | with_reducible exact keepC_nil | with_reducible apply keepT_cons | with_reducible apply keepC_cons | ((with_reducible apply svle_eq); (focus (first | (simp only [push_cast, seval]; rfl) | rfl)); (focus ((repeat' (first | rfl | (with_reducible first | apply f_optN | apply f_optS | apply f_some | apply f_tup | apply f_agg | apply f_ptr | apply f_fn | apply dv_slice | apply sv_d | apply f_cons | apply fold_nil | apply fold_cons | apply fold_app | apply f_rowI | apply f_rowY | apply f_rowS | apply f_rowB | apply f_rowL) | (with_reducible apply f_byte; decide))); done))) | ((with_reducible apply svle_td); (focus (first | (simp only [push_cast, seval]; rfl) | rfl)); (focus (first | (simp only [push_cast, seval]; rfl) | rfl)); (focus ((repeat' (first | rfl | (with_reducible first | apply f_optN | apply f_optS | apply f_some | apply f_tup | apply f_agg | apply f_ptr | apply f_fn | apply dv_slice | apply sv_d | apply f_cons | apply fold_nil | apply fold_cons | apply fold_app | apply f_rowI | apply f_rowY | apply f_rowS | apply f_rowB | apply f_rowL) | (with_reducible apply f_byte; decide))); done))) | ((with_reducible apply chle_eq); (focus (first | (simp only [push_cast, seval]; rfl) | rfl)); (first | with_reducible exact chle_rfl rfl | with_reducible exact chle_map0 | with_reducible apply chle_vec | with_reducible apply chle_box)) | (with_reducible first | apply r_shS | apply r_shI | apply r_rflO | apply r_oneO | apply r_appO | apply r_nilO | apply c_ownN | apply c_ownL | apply vc_rfl | apply vc_nil | apply vc_cons | apply r_rfl | apply r_rows | apply r_nil | apply r_app | apply r_cons | apply c_rowI | apply c_rowY | apply c_rowS | apply c_rowB | apply c_rowL))); done))))
noncomputable def m_slices_IndexFunc_string_string (x0 : List (List UInt8)) (f1 : FuncId) (c1 : List DV) (p1 : (List UInt8) → Option (Bool)) (h1 : ∀ a0 r, p1 a0 = some r → PureSpec Tryz.prog f1 ([.str a0] ++ c1) (.bool r)) : Option (Int) := (sims_G1_0_2 x0 f1 c1 p1 h1).1
theorem spec_slices_IndexFunc_string_string (x0 : List (List UInt8)) (f1 : FuncId) (c1 : List DV) (p1 : (List UInt8) → Option (Bool)) (h1 : ∀ a0 r, p1 a0 = some r → PureSpec Tryz.prog f1 ([.str a0] ++ c1) (.bool r)) : ∀ r, m_slices_IndexFunc_string_string x0 f1 c1 p1 h1 = some r → PureSpec Tryz.prog 72 [.slice (List.map rowS x0), .fn f1 c1] (.int .i64 r) := (sims_G1_0_2 x0 f1 c1 p1 h1).2

def sc_kit_InBytes_L1 : SC :=
  (.seq (.reg [.r 11 (.bin .lss (.t 10) (.t 9))])
  (.seq (.cond (.t 11)
    .skip
    (.exit 0))
  (.seq (.block 1 (.seq (.reg [.r 12 (.mv (.t 10)),
       .r 7 (.mv (.t 12))])
    (.seq (.reg (.r 13 (.mv (.t 0)) :: .r 14 (.mv (.t 7)) :: .r 15 (.sidx (.t 13) (.t 14)) :: .r 16 (.mv (.t 1)) :: .r 17 (.bin .lss (.t 15) (.t 16)) :: .r 18 (.mv (.t 17)) :: gapp [19, 20, 21, 22, 23] 18 false (.r 19 (.mv (.t 0)) :: .r 20 (.mv (.t 7)) :: .r 21 (.sidx (.t 19) (.t 20)) :: .r 22 (.mv (.t 2)) :: .r 23 (.bin .gtr (.t 21) (.t 22)) :: []) (.r 24 (.pick (.t 18) (.c (.d (.bool true))) (.t 23)) :: [])))
    (.cond (.t 24)
      (.seq (.reg [.r 6 (.mv (.c (.d (.bool false))))])
      .ret)
      .skip))))
  (.reg [.r 25 (.bin .add (.t 10) (.c (.d (.int .i64 1)))),
     .r 10 (.mv (.t 25))]))))
def sc_kit_InBytes_B1 : SC := .block 0 (.loop sc_kit_InBytes_L1)
/-- interchange/kit.InBytes -/
def sc_kit_InBytes : SC :=
  (.seq (.reg [.r 6 (.mv (.c (.d (.bool false))))])
  (.seq (.seq (.reg [.r 8 (.mv (.t 0)),
     .r 9 (.lenT (.t 8)),
     .r 10 (.mv (.c (.d (.int .i64 0))))])
  sc_kit_InBytes_B1)
  (.seq (.reg [.r 6 (.mv (.c (.d (.bool true))))])
  .ret)))
theorem fit_kit_InBytes : fits Tryz.prog 42 Tryz.f42 sc_kit_InBytes [.t 6] 3 = true := by kernel_rfl

set_option maxRecDepth 100000 in
set_option maxHeartbeats 40000000 in
noncomputable def sims_G1_0_3 : (∀ (x0 : List UInt8) (x1 : UInt8) (x2 : UInt8), {m : Option (Bool) // ∀ r, m = some r → PureSpec Tryz.prog 42 [.str x0, .int .u8 (x1).toNat, .int .u8 (x2).toNat] (.bool r)}) := by
  (intro x0 x1 x2; apply Subtype.mk; intro r hm; apply pure_walk Tryz.func42 fit_kit_InBytes; unfold sc_kit_InBytes)
  repeat' (first | with_reducible refine W_seq ?_ | with_reducible refine W_reg ?_ | with_reducible refine W_block ?_ | with_reducible refine W_skip ?_ | with_reducible refine W_ret ?_ | with_reducible refine W_exit ?_ | with_reducible refine O_nil ?_ | with_reducible refine K_seq ?_ | with_reducible refine K_seqE ?_ | with_reducible refine K_seqR ?_ | with_reducible refine K_block ?_ | with_reducible refine K_blockR ?_ | with_reducible refine K_blockE ?_ | ((with_reducible apply K_blockN); decide) | ((with_reducible apply O_sidxr hm); (iterate 2 (simp only [push_cast, seval]; rfl)); intro e hm) | ((with_reducible apply O_r); (simp only [push_cast, seval]; rfl); (first | exact trivial | omega)) | ((with_reducible apply O_strr hm); (iterate 2 (simp only [push_cast, seval]; rfl)); intro hm) | ((with_reducible apply O_or hm); (simp only [push_cast, seval]; rfl); rfl; intro v hm; rotate_left; intro v g hm) | ((with_reducible apply W_condT); (focus (simp only [push_cast, seval]; done))) | ((with_reducible apply W_condF); (focus (simp only [push_cast, seval]; done))) | ((with_reducible apply S_condB hm); (simp only [push_cast, seval]; rfl); intro hm; rotate_left; intro hm) | ((with_reducible apply K_endS hm); (focus (simp only [resOf, resL, RV.get, push_cast, seval]; rfl)); (focus ((repeat' (first | rfl | (with_reducible first | apply f_optN | apply f_optS | apply f_some | apply f_tup | apply f_agg | apply f_ptr | apply f_fn | apply dv_slice | apply sv_d | apply f_cons | apply fold_nil | apply fold_cons | apply fold_app | apply f_rowI | apply f_rowY | apply f_rowS | apply f_rowB | apply f_rowL) | (with_reducible apply f_byte; decide))); done))) | ((with_reducible apply K_bool hm); (simp only [push_cast, seval]; rfl)) | ((with_reducible apply K_leave hm); intro r hm) | ((with_reducible apply K_leaveR hm); intro r hm) | ((apply S_loopY (b := 0) (X := sc_kit_InBytes_B1) (x := sc_kit_InBytes_L1) rfl (fun (c : SV × SV × SV × SV) (s : Int) => st [(0, c.1), (1, c.2.1), (2, c.2.2.1), (9, c.2.2.2), (10, .d (.int .i64 s))] []) (c := (_, _, _, _)) (s0 := _) hm); (focus (first | (dsimp only; done) | (dsimp only; rfl) | rfl)); (with_reducible refine Then.mk ?_ ?_)) | ((apply K_next (s' := _) hm); (focus (first | (dsimp only; done) | (dsimp only; rfl) | rfl))) | ((apply K_brk (s' := _) hm); (focus (first | (dsimp only; done) | (dsimp only; rfl) | rfl))) | (((with_reducible apply K_brkN hm); (focus decide); intro r hm)) | (((with_reducible apply K_brkR hm); intro r hm)) | (((with_reducible apply LoopB.of); (focus (first | (dsimp only; done) | (dsimp only; rfl) | rfl)); (focus ((intro _; repeat' (first | with_reducible exact impC_end | with_reducible exact impC_endF | with_reducible refine impC_seq ?_ | with_reducible refine impC_block ?_ | ((with_reducible refine impC_rnd ?_); intro _) | ((with_reducible refine impC_brk ?_); intro _))))); (intro s o hm; first | unfold sc_kit_InBytes_L1); rotate_left; intro s hm)) | (((apply imp_stT; (repeat' (first | with_reducible exact keepT_nil | with_reducible exact keepC_nil | with_reducible apply keepT_cons | with_reducible apply keepC_cons | ((with_reducible apply svle_eq); (focus (first | (simp only [push_cast, seval]; rfl) | rfl)); (focus ((repeat' (first | rfl | (with_reducible first | apply f_optN | apply f_optS | apply f_some | apply f_tup | apply f_agg | apply f_ptr | apply f_fn | apply dv_slice | apply sv_d | apply f_cons | apply fold_nil | apply fold_cons | apply fold_app | apply f_rowI | apply f_rowY | apply f_rowS | apply f_rowB | apply f_rowL) | (with_reducible apply f_byte; decide))); done))) | ((with_reducible apply svle_td); (focus (first | (simp only [push_cast, seval]; rfl) | rfl)); (focus (first | (simp only [push_cast, seval]; rfl) | rfl)); (focus ((repeat' (first | rfl | (with_reducible first | apply f_optN | apply f_optS | apply f_some | apply f_tup | apply f_agg | apply f_ptr | apply f_fn | apply dv_slice | apply sv_d | apply f_cons | apply fold_nil | apply fold_cons | apply fold_app | apply f_rowI | apply f_rowY | apply f_rowS | apply f_rowB | apply f_rowL) | (with_reducible apply f_byte; decide))); done))) | ((with_reducible apply chle_eq); (focus (first | (simp only [push_cast, seval]; rfl) | rfl)); (first | with_reducible exact chle_rfl rfl | with_reducible exact chle_map0 | with_reducible apply chle_vec | with_reducible apply chle_box)) | (with_reducible first | apply r_shS | apply r_shI | apply r_rflO | apply r_oneO | apply r_appO | apply r_nilO | apply c_ownN | apply c_ownL | apply vc_rfl | apply vc_nil | apply vc_cons | apply r_rfl | apply r_rows | apply r_nil | apply r_app | apply r_cons | apply c_rowI | apply c_rowY | apply c_rowS | apply c_rowB | apply c_rowL))); done))))
noncomputable def m_kit_InBytes (x0 : List UInt8) (x1 : UInt8) (x2 : UInt8) : Option (Bool) := (sims_G1_0_3 x0 x1 x2).1
theorem spec_kit_InBytes (x0 : List UInt8) (x1 : UInt8) (x2 : UInt8) : ∀ r, m_kit_InBytes x0 x1 x2 = some r → PureSpec Tryz.prog 42 [.str x0, .int .u8 (x1).toNat, .int .u8 (x2).toNat] (.bool r) := (sims_G1_0_3 x0 x1 x2).2

/-- interchange/kit.Outside -/
def sc_kit_Outside : SC :=
  (.seq (.reg [.r 6 (.mv (.c (.d (.bool false))))])
  (.seq (.reg (.r 7 (.mv (.t 0)) :: .r 8 (.mv (.t 1)) :: .r 9 (.bin .lss (.t 7) (.t 8)) :: .r 10 (.mv (.t 9)) :: gapp [11, 12, 13] 10 false (.r 11 (.mv (.t 0)) :: .r 12 (.mv (.t 2)) :: .r 13 (.bin .gtr (.t 11) (.t 12)) :: []) (.r 14 (.pick (.t 10) (.c (.d (.bool true))) (.t 13)) :: .r 6 (.mv (.t 14)) :: [])))
  .ret))
theorem fit_kit_Outside : fits Tryz.prog 53 Tryz.f53 sc_kit_Outside [.t 6] 3 = true := by kernel_rfl

set_option maxRecDepth 100000 in
set_option maxHeartbeats 40000000 in
noncomputable def sims_G1_0_4 : (∀ (x0 : Int) (x1 : Int) (x2 : Int), {m : Option (Bool) // ∀ r, m = some r → PureSpec Tryz.prog 53 [.int .i64 x0, .int .i64 x1, .int .i64 x2] (.bool r)}) := by
  (intro x0 x1 x2; apply Subtype.mk; intro r hm; apply pure_walk Tryz.func53 fit_kit_Outside; unfold sc_kit_Outside)
  repeat' (first | with_reducible refine W_seq ?_ | with_reducible refine W_reg ?_ | with_reducible refine W_block ?_ | with_reducible refine W_skip ?_ | with_reducible refine W_ret ?_ | with_reducible refine W_exit ?_ | with_reducible refine O_nil ?_ | with_reducible refine K_seq ?_ | with_reducible refine K_seqE ?_ | with_reducible refine K_seqR ?_ | with_reducible refine K_block ?_ | with_reducible refine K_blockR ?_ | with_reducible refine K_blockE ?_ | ((with_reducible apply K_blockN); decide) | ((with_reducible apply O_r); (simp only [push_cast, seval]; rfl); (first | exact trivial | omega)) | ((with_reducible apply O_or hm); (simp only [push_cast, seval]; rfl); rfl; intro v hm; rotate_left; intro v g hm) | ((with_reducible apply W_condT); (focus (simp only [push_cast, seval]; done))) | ((with_reducible apply W_condF); (focus (simp only [push_cast, seval]; done))) | ((with_reducible apply S_condB hm); (simp only [push_cast, seval]; rfl); intro hm; rotate_left; intro hm) | ((with_reducible apply K_endS hm); (focus (simp only [resOf, resL, RV.get, push_cast, seval]; rfl)); (focus ((repeat' (first | rfl | (with_reducible first | apply f_optN | apply f_optS | apply f_some | apply f_tup | apply f_agg | apply f_ptr | apply f_fn | apply dv_slice | apply sv_d | apply f_cons | apply fold_nil | apply fold_cons | apply fold_app | apply f_rowI | apply f_rowY | apply f_rowS | apply f_rowB | apply f_rowL) | (with_reducible apply f_byte; decide))); done))) | ((with_reducible apply K_bool hm); (simp only [push_cast, seval]; rfl)))
noncomputable def m_kit_Outside (x0 : Int) (x1 : Int) (x2 : Int) : Option (Bool) := (sims_G1_0_4 x0 x1 x2).1
theorem spec_kit_Outside (x0 : Int) (x1 : Int) (x2 : Int) : ∀ r, m_kit_Outside x0 x1 x2 = some r → PureSpec Tryz.prog 53 [.int .i64 x0, .int .i64 x1, .int .i64 x2] (.bool r) := (sims_G1_0_4 x0 x1 x2).2

/-- interchange/kit.IsName -/
def sc_kit_IsName : SC :=
  (.seq (.reg [.r 2 (.mv (.c (.d (.bool false))))])
  (.seq (.seq (.reg (.r 3 (.mv (.t 0)) :: .r 4 (.lenT (.t 3)) :: .r 5 (.bin .lss (.t 4) (.c (.d (.int .i64 1)))) :: .r 6 (.mv (.t 5)) :: gapp [7, 8, 9] 6 false (.r 7 (.mv (.t 0)) :: .r 8 (.lenT (.t 7)) :: .r 9 (.bin .gtr (.t 8) (.c (.d (.int .i64 40)))) :: []) (.r 10 (.pick (.t 6) (.c (.d (.bool true))) (.t 9)) :: .r 11 (.mv (.t 10)) :: gapp [12, 13, 14] 11 false (.r 12 (.mv (.t 0)) :: .r 13 (.sidx (.t 12) (.c (.d (.int .i64 0)))) :: .r 14 (.bin .lss (.t 13) (.c (.d (.int .u8 97)))) :: []) (.r 15 (.pick (.t 11) (.c (.d (.bool true))) (.t 14)) :: .r 16 (.mv (.t 15)) :: gapp [17, 18, 19] 16 false (.r 17 (.mv (.t 0)) :: .r 18 (.sidx (.t 17) (.c (.d (.int .i64 0)))) :: .r 19 (.bin .gtr (.t 18) (.c (.d (.int .u8 122)))) :: []) (.r 20 (.pick (.t 16) (.c (.d (.bool true))) (.t 19)) :: [])))))
  (.cond (.t 20)
    (.seq (.reg [.r 2 (.mv (.c (.d (.bool false))))])
    .ret)
    .skip))
  (.seq (.reg [.r 21 (.mv (.t 0)),
     .c 22 (.f 109) [.t 21, .c (.d (.str [97, 98, 99, 100, 101, 102, 103, 104, 105, 106, 107, 108, 109, 110, 111, 112, 113, 114, 115, 116, 117, 118, 119, 120, 121, 122, 48, 49, 50, 51, 52, 53, 54, 55, 56, 57, 45]))],
     .r 23 (.bin .eql (.t 22) (.c (.d (.str [])))),
     .r 2 (.mv (.t 23))])
  .ret)))
theorem fit_kit_IsName : fits Tryz.prog 91 Tryz.f91 sc_kit_IsName [.t 2] 1 = true := by kernel_rfl

set_option maxRecDepth 100000 in
set_option maxHeartbeats 40000000 in
noncomputable def sims_G1_0_5 : (∀ (x0 : List UInt8), {m : Option (Bool) // ∀ r, m = some r → PureSpec Tryz.prog 91 [.str x0] (.bool r)}) := by
  (intro x0; apply Subtype.mk; intro r hm; apply pure_walk Tryz.func91 fit_kit_IsName; unfold sc_kit_IsName)
  repeat' (first | with_reducible refine W_seq ?_ | with_reducible refine W_reg ?_ | with_reducible refine W_block ?_ | with_reducible refine W_skip ?_ | with_reducible refine W_ret ?_ | with_reducible refine W_exit ?_ | with_reducible refine O_nil ?_ | with_reducible refine K_seq ?_ | with_reducible refine K_seqE ?_ | with_reducible refine K_seqR ?_ | with_reducible refine K_block ?_ | with_reducible refine K_blockR ?_ | with_reducible refine K_blockE ?_ | ((with_reducible apply K_blockN); decide) | ((with_reducible apply O_sidxr hm); (iterate 2 (simp only [push_cast, seval]; rfl)); intro e hm) | ((with_reducible apply O_r); (simp only [push_cast, seval]; rfl); (first | exact trivial | omega)) | ((with_reducible apply O_or hm); (simp only [push_cast, seval]; rfl); rfl; intro v hm; rotate_left; intro v g hm) | ((with_reducible apply W_condT); (focus (simp only [push_cast, seval]; done))) | ((with_reducible apply W_condF); (focus (simp only [push_cast, seval]; done))) | ((with_reducible apply O_cF hm); (simp only [push_cast, seval]; rfl); (first | apply spec_strings_Trim _ _); (any_goals ((repeat' (first | rfl | (with_reducible first | apply f_optN | apply f_optS | apply f_some | apply f_tup | apply f_agg | apply f_ptr | apply f_fn | apply dv_slice | apply sv_d | apply f_cons | apply fold_nil | apply fold_cons | apply fold_app | apply f_rowI | apply f_rowY | apply f_rowS | apply f_rowB | apply f_rowL) | (with_reducible apply f_byte; decide))); done)); intro x hm) | ((with_reducible apply S_condB hm); (simp only [push_cast, seval]; rfl); intro hm; rotate_left; intro hm) | ((with_reducible apply K_endS hm); (focus (simp only [resOf, resL, RV.get, push_cast, seval]; rfl)); (focus ((repeat' (first | rfl | (with_reducible first | apply f_optN | apply f_optS | apply f_some | apply f_tup | apply f_agg | apply f_ptr | apply f_fn | apply dv_slice | apply sv_d | apply f_cons | apply fold_nil | apply fold_cons | apply fold_app | apply f_rowI | apply f_rowY | apply f_rowS | apply f_rowB | apply f_rowL) | (with_reducible apply f_byte; decide))); done))) | ((with_reducible apply K_bool hm); (simp only [push_cast, seval]; rfl)))
noncomputable def m_kit_IsName (x0 : List UInt8) : Option (Bool) := (sims_G1_0_5 x0).1
theorem spec_kit_IsName (x0 : List UInt8) : ∀ r, m_kit_IsName x0 = some r → PureSpec Tryz.prog 91 [.str x0] (.bool r) := (sims_G1_0_5 x0).2

/-- interchange/desk.isDigest -/
def sc_desk_isDigest : SC :=
  (.seq (.reg [.r 2 (.mv (.c (.d (.bool false))))])
  (.seq (.reg (.r 3 (.mv (.t 0)) :: .r 4 (.lenT (.t 3)) :: .r 5 (.bin .eql (.t 4) (.c (.d (.int .i64 16)))) :: .r 6 (.mv (.t 5)) :: gapp [7, 8, 9] 6 true (.r 7 (.mv (.t 0)) :: .c 8 (.f 109) [.t 7, .c (.d (.str [48, 49, 50, 51, 52, 53, 54, 55, 56, 57, 97, 98, 99, 100, 101, 102]))] :: .r 9 (.bin .eql (.t 8) (.c (.d (.str [])))) :: []) (.r 10 (.pick (.t 6) (.t 9) (.c (.d (.bool false)))) :: .r 2 (.mv (.t 10)) :: [])))
  .ret))
theorem fit_desk_isDigest : fits Tryz.prog 77 Tryz.f77 sc_desk_isDigest [.t 2] 1 = true := by kernel_rfl

set_option maxRecDepth 100000 in
set_option maxHeartbeats 40000000 in
noncomputable def sims_G1_0_6 : (∀ (x0 : List UInt8), {m : Option (Bool) // ∀ r, m = some r → PureSpec Tryz.prog 77 [.str x0] (.bool r)}) := by
  (intro x0; apply Subtype.mk; intro r hm; apply pure_walk Tryz.func77 fit_desk_isDigest; unfold sc_desk_isDigest)
  repeat' (first | with_reducible refine W_seq ?_ | with_reducible refine W_reg ?_ | with_reducible refine W_block ?_ | with_reducible refine W_skip ?_ | with_reducible refine W_ret ?_ | with_reducible refine W_exit ?_ | with_reducible refine O_nil ?_ | with_reducible refine K_seq ?_ | with_reducible refine K_seqE ?_ | with_reducible refine K_seqR ?_ | with_reducible refine K_block ?_ | with_reducible refine K_blockR ?_ | with_reducible refine K_blockE ?_ | ((with_reducible apply K_blockN); decide) | ((with_reducible apply O_r); (simp only [push_cast, seval]; rfl); (first | exact trivial | omega)) | ((with_reducible apply O_and hm); (simp only [push_cast, seval]; rfl); rfl; intro v hm; rotate_left; intro v g hm) | ((with_reducible apply W_condT); (focus (simp only [push_cast, seval]; done))) | ((with_reducible apply W_condF); (focus (simp only [push_cast, seval]; done))) | ((with_reducible apply O_cF hm); (simp only [push_cast, seval]; rfl); (first | apply spec_strings_Trim _ _); (any_goals ((repeat' (first | rfl | (with_reducible first | apply f_optN | apply f_optS | apply f_some | apply f_tup | apply f_agg | apply f_ptr | apply f_fn | apply dv_slice | apply sv_d | apply f_cons | apply fold_nil | apply fold_cons | apply fold_app | apply f_rowI | apply f_rowY | apply f_rowS | apply f_rowB | apply f_rowL) | (with_reducible apply f_byte; decide))); done)); intro x hm) | ((with_reducible apply S_condB hm); (simp only [push_cast, seval]; rfl); intro hm; rotate_left; intro hm) | ((with_reducible apply K_endS hm); (focus (simp only [resOf, resL, RV.get, push_cast, seval]; rfl)); (focus ((repeat' (first | rfl | (with_reducible first | apply f_optN | apply f_optS | apply f_some | apply f_tup | apply f_agg | apply f_ptr | apply f_fn | apply dv_slice | apply sv_d | apply f_cons | apply fold_nil | apply fold_cons | apply fold_app | apply f_rowI | apply f_rowY | apply f_rowS | apply f_rowB | apply f_rowL) | (with_reducible apply f_byte; decide))); done))) | ((with_reducible apply K_bool hm); (simp only [push_cast, seval]; rfl)))
noncomputable def m_desk_isDigest (x0 : List UInt8) : Option (Bool) := (sims_G1_0_6 x0).1
theorem spec_desk_isDigest (x0 : List UInt8) : ∀ r, m_desk_isDigest x0 = some r → PureSpec Tryz.prog 77 [.str x0] (.bool r) := (sims_G1_0_6 x0).2

def sc_partner_Digest_L1 : SC :=
  (.seq (.reg [.r 10 (.bin .lss (.t 9) (.t 8))])
  (.seq (.cond (.t 10)
    .skip
    (.exit 0))
  (.seq (.block 1 (.seq (.reg [.r 11 (.idx 1 (.t 7) (.t 9)),
       .o 12 (.ld1 (.t 11)),
       .r 5 (.mv (.t 12))])
    (.reg [.r 13 (.mv (.t 3)),
       .r 14 (.mv (.t 5)),
       .r 15 (.cvi .u64 (.t 14)),
       .r 16 (.bin .xor (.t 13) (.t 15)),
       .r 17 (.bin .mul (.t 16) (.c (.d (.int .u64 1099511628211)))),
       .r 3 (.mv (.t 17))])))
  (.reg [.r 18 (.bin .add (.t 9) (.c (.d (.int .i64 1)))),
     .r 9 (.mv (.t 18))]))))
def sc_partner_Digest_B1 : SC := .block 0 (.loop sc_partner_Digest_L1)
/-- interchange/partner.Digest -/
def sc_partner_Digest : SC :=
  (.seq (.reg [.r 2 (.mv (.c (.d (.str []))))])
  (.seq (.reg [.r 3 (.mv (.c (.d (.int .u64 14695981039346656037))))])
  (.seq (.seq (.reg [.r 7 (.mv (.t 0)),
     .r 8 (.len (.t 7)),
     .r 9 (.mv (.c (.d (.int .i64 0))))])
  sc_partner_Digest_B1)
  (.seq (.reg [.r 19 (.mv (.t 3)),
     .c 20 (.f 110) [.t 19, .c (.d (.int .i64 16))],
     .r 6 (.mv (.t 20))])
  (.seq (.reg [.r 21 (.mv (.t 6)),
     .r 22 (.lenT (.t 21)),
     .r 23 (.bin .sub (.c (.d (.int .i64 16))) (.t 22)),
     .c 24 (.f 86) [.c (.d (.str [48])), .t 23],
     .r 25 (.mv (.t 6)),
     .r 26 (.bin .add (.t 24) (.t 25)),
     .r 2 (.mv (.t 26))])
  .ret)))))
theorem fit_partner_Digest : fits Tryz.prog 78 Tryz.f78 sc_partner_Digest [.t 2] 1 = true := by kernel_rfl

set_option maxRecDepth 100000 in
set_option maxHeartbeats 40000000 in
noncomputable def sims_G1_0_7 : (∀ (x0 : List UInt8), {m : Option ((List UInt8)) // ∀ r, m = some r → PureSpec Tryz.prog 78 [.slice (List.map rowY x0)] (.str r)}) := by
  (intro x0; apply Subtype.mk; intro r hm; apply pure_walk Tryz.func78 fit_partner_Digest; unfold sc_partner_Digest)
  repeat' (first | with_reducible refine W_seq ?_ | with_reducible refine W_reg ?_ | with_reducible refine W_block ?_ | with_reducible refine W_skip ?_ | with_reducible refine W_ret ?_ | with_reducible refine W_exit ?_ | with_reducible refine O_nil ?_ | with_reducible refine K_seq ?_ | with_reducible refine K_seqE ?_ | with_reducible refine K_seqR ?_ | with_reducible refine K_block ?_ | with_reducible refine K_blockR ?_ | with_reducible refine K_blockE ?_ | ((with_reducible apply K_blockN); decide) | with_reducible refine O_o2r ?_ | ((with_reducible apply O_idxr hm); (iterate 2 (simp only [push_cast, seval]; rfl)); (intro _; rfl); intro e hm) | ((with_reducible apply O_idxVr hm); (iterate 3 (simp only [push_cast, seval]; rfl)); intro e hm) | ((with_reducible apply O_r); (simp only [push_cast, seval]; rfl); (first | exact trivial | omega)) | ((with_reducible apply O_ldV1r hm); (iterate 2 (simp only [push_cast, seval]; rfl)); (intro _; rfl); intro e hm) | ((with_reducible apply O_strr hm); (iterate 2 (simp only [push_cast, seval]; rfl)); intro hm) | ((with_reducible apply W_condT); (focus (simp only [push_cast, seval]; done))) | ((with_reducible apply W_condF); (focus (simp only [push_cast, seval]; done))) | ((with_reducible apply O_cF hm); (simp only [push_cast, seval]; rfl); (first | apply spec_strconv_FormatUint _ _ | apply spec_strings_Repeat _ _); (any_goals ((repeat' (first | rfl | (with_reducible first | apply f_optN | apply f_optS | apply f_some | apply f_tup | apply f_agg | apply f_ptr | apply f_fn | apply dv_slice | apply sv_d | apply f_cons | apply fold_nil | apply fold_cons | apply fold_app | apply f_rowI | apply f_rowY | apply f_rowS | apply f_rowB | apply f_rowL) | (with_reducible apply f_byte; decide))); done)); intro x hm) | ((with_reducible apply S_condB hm); (simp only [push_cast, seval]; rfl); intro hm; rotate_left; intro hm) | ((with_reducible apply K_endS hm); (focus (simp only [resOf, resL, RV.get, push_cast, seval]; rfl)); (focus ((repeat' (first | rfl | (with_reducible first | apply f_optN | apply f_optS | apply f_some | apply f_tup | apply f_agg | apply f_ptr | apply f_fn | apply dv_slice | apply sv_d | apply f_cons | apply fold_nil | apply fold_cons | apply fold_app | apply f_rowI | apply f_rowY | apply f_rowS | apply f_rowB | apply f_rowL) | (with_reducible apply f_byte; decide))); done))) | ((with_reducible apply K_leave hm); intro r hm) | ((with_reducible apply K_leaveR hm); intro r hm) | ((apply S_loopY (b := 0) (X := sc_partner_Digest_B1) (x := sc_partner_Digest_L1) rfl (fun (c : SV × SV) (s : Int × Int) => st [(3, .d (.int .u64 s.1)), (7, c.1), (8, c.2), (9, .d (.int .i64 s.2))] []) (c := (_, _)) (s0 := (_, _)) hm); (focus (first | (dsimp only; done) | (dsimp only; rfl) | rfl)); (with_reducible refine Then.mk ?_ ?_)) | ((apply K_next (s' := (_, _)) hm); (focus (first | (dsimp only; done) | (dsimp only; rfl) | rfl))) | ((apply K_brk (s' := (_, _)) hm); (focus (first | (dsimp only; done) | (dsimp only; rfl) | rfl))) | (((with_reducible apply K_brkN hm); (focus decide); intro r hm)) | (((with_reducible apply K_brkR hm); intro r hm)) | (((with_reducible apply LoopB.of); (focus (first | (dsimp only; done) | (dsimp only; rfl) | rfl)); (focus ((intro _; repeat' (first | with_reducible exact impC_end | with_reducible exact impC_endF | with_reducible refine impC_seq ?_ | with_reducible refine impC_block ?_ | ((with_reducible refine impC_rnd ?_); intro _) | ((with_reducible refine impC_brk ?_); intro _))))); (intro s o hm; first | unfold sc_partner_Digest_L1); rotate_left; intro s hm)) | (((apply imp_stT; (repeat' (first | with_reducible exact keepT_nil | with_reducible exact keepC_nil | with_reducible apply keepT_cons | with_reducible apply keepC_cons | ((with_reducible apply svle_eq); (focus (first | (simp only [push_cast, seval]; rfl) | rfl)); (focus ((repeat' (first | rfl | (with_reducible first | apply f_optN | apply f_optS | apply f_some | apply f_tup | apply f_agg | apply f_ptr | apply f_fn | apply dv_slice | apply sv_d | apply f_cons | apply fold_nil | apply fold_cons | apply fold_app | apply f_rowI | apply f_rowY | apply f_rowS | apply f_rowB | apply f_rowL) | (with_reducible apply f_byte; decide))); done))) | ((with_reducible apply svle_td); (focus (first | (simp only [push_cast, seval]; rfl) | rfl)); (focus (first | (simp only [push_cast, seval]; rfl) | rfl)); (focus ((repeat' (first | rfl | (with_reducible first | apply f_optN | apply f_optS | apply f_some | apply f_tup | apply f_agg | apply f_ptr | apply f_fn | apply dv_slice | apply sv_d | apply f_cons | apply fold_nil | apply fold_cons | apply fold_app | apply f_rowI | apply f_rowY | apply f_rowS | apply f_rowB | apply f_rowL) | (with_reducible apply f_byte; decide))); done))) | ((with_reducible apply chle_eq); (focus (first | (simp only [push_cast, seval]; rfl) | rfl)); (first | with_reducible exact chle_rfl rfl | with_reducible exact chle_map0 | with_reducible apply chle_vec | with_reducible apply chle_box)) | (with_reducible first | apply r_shS | apply r_shI | apply r_rflO | apply r_oneO | apply r_appO | apply r_nilO | apply c_ownN | apply c_ownL | apply vc_rfl | apply vc_nil | apply vc_cons | apply r_rfl | apply r_rows | apply r_nil | apply r_app | apply r_cons | apply c_rowI | apply c_rowY | apply c_rowS | apply c_rowB | apply c_rowL))); done))))
noncomputable def m_partner_Digest (x0 : List UInt8) : Option ((List UInt8)) := (sims_G1_0_7 x0).1
theorem spec_partner_Digest (x0 : List UInt8) : ∀ r, m_partner_Digest x0 = some r → PureSpec Tryz.prog 78 [.slice (List.map rowY x0)] (.str r) := (sims_G1_0_7 x0).2

def sc_interchangeref12_bytesWithin_L1 : SC :=
  (.seq (.seq (.reg [.r 6 (.mv (.t 5)),
     .r 7 (.mv (.t 0)),
     .r 8 (.lenT (.t 7)),
     .r 9 (.bin .lss (.t 6) (.t 8))])
  (.cond (.t 9)
    .skip
    (.exit 0)))
  (.seq (.block 1 (.seq (.reg (.r 12 (.mv (.t 0)) :: .r 13 (.mv (.t 5)) :: .r 14 (.sidx (.t 12) (.t 13)) :: .r 15 (.mv (.t 1)) :: .r 16 (.bin .lss (.t 14) (.t 15)) :: .r 17 (.mv (.t 16)) :: gapp [18, 19, 20, 21] 17 false (.r 18 (.mv (.t 0)) :: .r 19 (.mv (.t 5)) :: .r 20 (.sidx (.t 18) (.t 19)) :: .r 21 (.bin .gtr (.t 20) (.c (.d (.int .u8 126)))) :: []) (.r 22 (.pick (.t 17) (.c (.d (.bool true))) (.t 21)) :: [])))
    (.cond (.t 22)
      (.seq (.reg [.r 4 (.mv (.c (.d (.bool false))))])
      .ret)
      .skip)))
  (.reg [.r 10 (.mv (.t 5)),
     .r 11 (.bin .add (.t 10) (.c (.d (.int .i64 1)))),
     .r 5 (.mv (.t 11))])))
def sc_interchangeref12_bytesWithin_B1 : SC := .block 0 (.loop sc_interchangeref12_bytesWithin_L1)
/-- interchange/interchangeref12.bytesWithin -/
def sc_interchangeref12_bytesWithin : SC :=
  (.seq (.reg [.r 4 (.mv (.c (.d (.bool false))))])
  (.seq (.seq (.reg [.r 5 (.mv (.c (.d (.int .i64 0))))])
  sc_interchangeref12_bytesWithin_B1)
  (.seq (.reg [.r 4 (.mv (.c (.d (.bool true))))])
  .ret)))
theorem fit_interchangeref12_bytesWithin : fits Tryz.prog 80 Tryz.f80 sc_interchangeref12_bytesWithin [.t 4] 2 = true := by kernel_rfl

set_option maxRecDepth 100000 in
set_option maxHeartbeats 40000000 in
noncomputable def sims_G1_0_8 : (∀ (x0 : List UInt8) (x1 : UInt8), {m : Option (Bool) // ∀ r, m = some r → PureSpec Tryz.prog 80 [.str x0, .int .u8 (x1).toNat] (.bool r)}) := by
  (intro x0 x1; apply Subtype.mk; intro r hm; apply pure_walk Tryz.func80 fit_interchangeref12_bytesWithin; unfold sc_interchangeref12_bytesWithin)
  repeat' (first | with_reducible refine W_seq ?_ | with_reducible refine W_reg ?_ | with_reducible refine W_block ?_ | with_reducible refine W_skip ?_ | with_reducible refine W_ret ?_ | with_reducible refine W_exit ?_ | with_reducible refine O_nil ?_ | with_reducible refine K_seq ?_ | with_reducible refine K_seqE ?_ | with_reducible refine K_seqR ?_ | with_reducible refine K_block ?_ | with_reducible refine K_blockR ?_ | with_reducible refine K_blockE ?_ | ((with_reducible apply K_blockN); decide) | ((with_reducible apply O_sidxr hm); (iterate 2 (simp only [push_cast, seval]; rfl)); intro e hm) | ((with_reducible apply O_r); (simp only [push_cast, seval]; rfl); (first | exact trivial | omega)) | ((with_reducible apply O_strr hm); (iterate 2 (simp only [push_cast, seval]; rfl)); intro hm) | ((with_reducible apply O_or hm); (simp only [push_cast, seval]; rfl); rfl; intro v hm; rotate_left; intro v g hm) | ((with_reducible apply W_condT); (focus (simp only [push_cast, seval]; done))) | ((with_reducible apply W_condF); (focus (simp only [push_cast, seval]; done))) | ((with_reducible apply S_condB hm); (simp only [push_cast, seval]; rfl); intro hm; rotate_left; intro hm) | ((with_reducible apply K_endS hm); (focus (simp only [resOf, resL, RV.get, push_cast, seval]; rfl)); (focus ((repeat' (first | rfl | (with_reducible first | apply f_optN | apply f_optS | apply f_some | apply f_tup | apply f_agg | apply f_ptr | apply f_fn | apply dv_slice | apply sv_d | apply f_cons | apply fold_nil | apply fold_cons | apply fold_app | apply f_rowI | apply f_rowY | apply f_rowS | apply f_rowB | apply f_rowL) | (with_reducible apply f_byte; decide))); done))) | ((with_reducible apply K_bool hm); (simp only [push_cast, seval]; rfl)) | ((with_reducible apply K_leave hm); intro r hm) | ((with_reducible apply K_leaveR hm); intro r hm) | ((apply S_loopY (b := 0) (X := sc_interchangeref12_bytesWithin_B1) (x := sc_interchangeref12_bytesWithin_L1) rfl (fun (c : SV × SV) (s : Int) => st [(0, c.1), (1, c.2), (5, .d (.int .i64 s))] []) (c := (_, _)) (s0 := _) hm); (focus (first | (dsimp only; done) | (dsimp only; rfl) | rfl)); (with_reducible refine Then.mk ?_ ?_)) | ((apply K_next (s' := _) hm); (focus (first | (dsimp only; done) | (dsimp only; rfl) | rfl))) | ((apply K_brk (s' := _) hm); (focus (first | (dsimp only; done) | (dsimp only; rfl) | rfl))) | (((with_reducible apply K_brkN hm); (focus decide); intro r hm)) | (((with_reducible apply K_brkR hm); intro r hm)) | (((with_reducible apply LoopB.of); (focus (first | (dsimp only; done) | (dsimp only; rfl) | rfl)); (focus ((intro _; repeat' (first | with_reducible exact impC_end | with_reducible exact impC_endF | with_reducible refine impC_seq ?_ | with_reducible refine impC_block ?_ | ((with_reducible refine impC_rnd ?_); intro _) | ((with_reducible refine impC_brk ?_); intro _))))); (intro s o hm; first | unfold sc_interchangeref12_bytesWithin_L1); rotate_left; intro s hm)) | (((apply imp_stT; (repeat' (first | with_reducible exact keepT_nil | with_reducible exact keepC_nil | with_reducible apply keepT_cons | with_reducible apply keepC_cons | ((with_reducible apply svle_eq); (focus (first | (simp only [push_cast, seval]; rfl) | rfl)); (focus ((repeat' (first | rfl | (with_reducible first | apply f_optN | apply f_optS | apply f_some | apply f_tup | apply f_agg | apply f_ptr | apply f_fn | apply dv_slice | apply sv_d | apply f_cons | apply fold_nil | apply fold_cons | apply fold_app | apply f_rowI | apply f_rowY | apply f_rowS | apply f_rowB | apply f_rowL) | (with_reducible apply f_byte; decide))); done))) | ((with_reducible apply svle_td); (focus (first | (simp only [push_cast, seval]; rfl) | rfl)); (focus (first | (simp only [push_cast, seval]; rfl) | rfl)); (focus ((repeat' (first | rfl | (with_reducible first | apply f_optN | apply f_optS | apply f_some | apply f_tup | apply f_agg | apply f_ptr | apply f_fn | apply dv_slice | apply sv_d | apply f_cons | apply fold_nil | apply fold_cons | apply fold_app | apply f_rowI | apply f_rowY | apply f_rowS | apply f_rowB | apply f_rowL) | (with_reducible apply f_byte; decide))); done))) | ((with_reducible apply chle_eq); (focus (first | (simp only [push_cast, seval]; rfl) | rfl)); (first | with_reducible exact chle_rfl rfl | with_reducible exact chle_map0 | with_reducible apply chle_vec | with_reducible apply chle_box)) | (with_reducible first | apply r_shS | apply r_shI | apply r_rflO | apply r_oneO | apply r_appO | apply r_nilO | apply c_ownN | apply c_ownL | apply vc_rfl | apply vc_nil | apply vc_cons | apply r_rfl | apply r_rows | apply r_nil | apply r_app | apply r_cons | apply c_rowI | apply c_rowY | apply c_rowS | apply c_rowB | apply c_rowL))); done))))
noncomputable def m_interchangeref12_bytesWithin (x0 : List UInt8) (x1 : UInt8) : Option (Bool) := (sims_G1_0_8 x0 x1).1
theorem spec_interchangeref12_bytesWithin (x0 : List UInt8) (x1 : UInt8) : ∀ r, m_interchangeref12_bytesWithin x0 x1 = some r → PureSpec Tryz.prog 80 [.str x0, .int .u8 (x1).toNat] (.bool r) := (sims_G1_0_8 x0 x1).2

def sc_interchangeref12_longNumber_L1 : SC :=
  (.seq (.seq (.reg [.r 24 (.mv (.t 4)),
     .r 25 (.mv (.t 0)),
     .r 26 (.lenT (.t 25)),
     .r 27 (.bin .lss (.t 24) (.t 26))])
  (.cond (.t 27)
    .skip
    (.exit 0)))
  (.seq (.block 1 (.seq (.reg (.r 30 (.mv (.t 0)) :: .r 31 (.mv (.t 4)) :: .r 32 (.sidx (.t 30) (.t 31)) :: .r 33 (.bin .lss (.t 32) (.c (.d (.int .u8 48)))) :: .r 34 (.mv (.t 33)) :: gapp [35, 36, 37, 38] 34 false (.r 35 (.mv (.t 0)) :: .r 36 (.mv (.t 4)) :: .r 37 (.sidx (.t 35) (.t 36)) :: .r 38 (.bin .gtr (.t 37) (.c (.d (.int .u8 57)))) :: []) (.r 39 (.pick (.t 34) (.c (.d (.bool true))) (.t 38)) :: [])))
    (.cond (.t 39)
      (.seq (.reg [.r 2 (.mv (.c (.d (.int .i64 0)))),
         .r 3 (.mv (.c (.d (.bool false))))])
      .ret)
      .skip)))
  (.reg [.r 28 (.mv (.t 4)),
     .r 29 (.bin .add (.t 28) (.c (.d (.int .i64 1)))),
     .r 4 (.mv (.t 29))])))
def sc_interchangeref12_longNumber_B1 : SC := .block 0 (.loop sc_interchangeref12_longNumber_L1)
/-- interchange/interchangeref12.longNumber -/
def sc_interchangeref12_longNumber : SC :=
  (.seq (.reg [.r 2 (.mv (.c (.d (.int .i64 0)))),
     .r 3 (.mv (.c (.d (.bool false))))])
  (.seq (.seq (.reg (.r 7 (.mv (.t 0)) :: .r 8 (.bin .eql (.t 7) (.c (.d (.str [])))) :: .r 9 (.mv (.t 8)) :: gapp [10, 11, 12] 9 false (.r 10 (.mv (.t 0)) :: .r 11 (.lenT (.t 10)) :: .r 12 (.bin .gtr (.t 11) (.c (.d (.int .i64 16)))) :: []) (.r 13 (.pick (.t 9) (.c (.d (.bool true))) (.t 12)) :: .r 14 (.mv (.t 13)) :: gapp [15, 16, 17, 18, 19, 20, 21, 22] 14 false (.r 15 (.mv (.t 0)) :: .r 16 (.lenT (.t 15)) :: .r 17 (.bin .gtr (.t 16) (.c (.d (.int .i64 1)))) :: .r 18 (.mv (.t 17)) :: gapp [19, 20, 21] 18 true (.r 19 (.mv (.t 0)) :: .r 20 (.sidx (.t 19) (.c (.d (.int .i64 0)))) :: .r 21 (.bin .eql (.t 20) (.c (.d (.int .u8 48)))) :: []) (.r 22 (.pick (.t 18) (.t 21) (.c (.d (.bool false)))) :: [])) (.r 23 (.pick (.t 14) (.c (.d (.bool true))) (.t 22)) :: []))))
  (.cond (.t 23)
    (.seq (.reg [.r 2 (.mv (.c (.d (.int .i64 0)))),
       .r 3 (.mv (.c (.d (.bool false))))])
    .ret)
    .skip))
  (.seq (.seq (.reg [.r 4 (.mv (.c (.d (.int .i64 0))))])
  sc_interchangeref12_longNumber_B1)
  (.seq (.reg [.r 41 (.mv (.t 0)),
     .c 42 (.f 74) [.t 41],
     .r 40 (.mv (.t 42)),
     .r 43 (.ext (.t 40) 0),
     .r 44 (.ext (.t 40) 1),
     .r 5 (.mv (.t 43)),
     .r 6 (.mv (.t 44))])
  (.seq (.reg [.r 45 (.mv (.t 5)),
     .r 2 (.mv (.t 45)),
     .r 3 (.mv (.c (.d (.bool true))))])
  .ret)))))
theorem fit_interchangeref12_longNumber : fits Tryz.prog 49 Tryz.f49 sc_interchangeref12_longNumber [.t 2, .t 3] 1 = true := by kernel_rfl

set_option maxRecDepth 100000 in
set_option maxHeartbeats 40000000 in
noncomputable def sims_G1_0_9 : (∀ (x0 : List UInt8), {m : Option (Int × Bool) // ∀ r, m = some r → PureSpec Tryz.prog 49 [.str x0] (.tup [.int .i64 r.1, .bool r.2])}) := by
  (intro x0; apply Subtype.mk; intro r hm; apply pure_walk Tryz.func49 fit_interchangeref12_longNumber; unfold sc_interchangeref12_longNumber)
  repeat' (first | with_reducible refine W_seq ?_ | with_reducible refine W_reg ?_ | with_reducible refine W_block ?_ | with_reducible refine W_skip ?_ | with_reducible refine W_ret ?_ | with_reducible refine W_exit ?_ | with_reducible refine O_nil ?_ | with_reducible refine K_seq ?_ | with_reducible refine K_seqE ?_ | with_reducible refine K_seqR ?_ | with_reducible refine K_block ?_ | with_reducible refine K_blockR ?_ | with_reducible refine K_blockE ?_ | ((with_reducible apply K_blockN); decide) | ((with_reducible apply O_sidxr hm); (iterate 2 (simp only [push_cast, seval]; rfl)); intro e hm) | ((with_reducible apply O_r); (simp only [push_cast, seval]; rfl); (first | exact trivial | omega)) | ((with_reducible apply O_strr hm); (iterate 2 (simp only [push_cast, seval]; rfl)); intro hm) | ((with_reducible apply O_and hm); (simp only [push_cast, seval]; rfl); rfl; intro v hm; rotate_left; intro v g hm) | ((with_reducible apply O_or hm); (simp only [push_cast, seval]; rfl); rfl; intro v hm; rotate_left; intro v g hm) | ((with_reducible apply W_condT); (focus (simp only [push_cast, seval]; done))) | ((with_reducible apply W_condF); (focus (simp only [push_cast, seval]; done))) | ((with_reducible apply O_cF hm); (simp only [push_cast, seval]; rfl); (first | apply spec_strconv_Atoi _); (any_goals ((repeat' (first | rfl | (with_reducible first | apply f_optN | apply f_optS | apply f_some | apply f_tup | apply f_agg | apply f_ptr | apply f_fn | apply dv_slice | apply sv_d | apply f_cons | apply fold_nil | apply fold_cons | apply fold_app | apply f_rowI | apply f_rowY | apply f_rowS | apply f_rowB | apply f_rowL) | (with_reducible apply f_byte; decide))); done)); intro x hm) | ((with_reducible apply S_condB hm); (simp only [push_cast, seval]; rfl); intro hm; rotate_left; intro hm) | ((with_reducible apply K_end2 hm); (focus (simp only [resOf, resL, RV.get, push_cast, seval]; rfl)); (focus (first | (dsimp only; done) | (dsimp only; rfl) | rfl)); (focus ((repeat' (first | rfl | (with_reducible first | apply f_optN | apply f_optS | apply f_some | apply f_tup | apply f_agg | apply f_ptr | apply f_fn | apply dv_slice | apply sv_d | apply f_cons | apply fold_nil | apply fold_cons | apply fold_app | apply f_rowI | apply f_rowY | apply f_rowS | apply f_rowB | apply f_rowL) | (with_reducible apply f_byte; decide))); done))) | ((with_reducible apply K_bool hm); (simp only [push_cast, seval]; rfl)) | ((with_reducible apply K_leave hm); intro r hm) | ((with_reducible apply K_leaveR hm); intro r hm) | ((apply S_loopY (b := 0) (X := sc_interchangeref12_longNumber_B1) (x := sc_interchangeref12_longNumber_L1) rfl (fun (c : SV) (s : Int) => st [(0, c), (4, .d (.int .i64 s))] []) (c := _) (s0 := _) hm); (focus (first | (dsimp only; done) | (dsimp only; rfl) | rfl)); (with_reducible refine Then.mk ?_ ?_)) | ((apply K_next (s' := _) hm); (focus (first | (dsimp only; done) | (dsimp only; rfl) | rfl))) | ((apply K_brk (s' := _) hm); (focus (first | (dsimp only; done) | (dsimp only; rfl) | rfl))) | (((with_reducible apply K_brkN hm); (focus decide); intro r hm)) | (((with_reducible apply K_brkR hm); intro r hm)) | (((with_reducible apply LoopB.of); (focus (first | (dsimp only; done) | (dsimp only; rfl) | rfl)); (focus ((intro _; repeat' (first | with_reducible exact impC_end | with_reducible exact impC_endF | with_reducible refine impC_seq ?_ | with_reducible refine impC_block ?_ | ((with_reducible refine impC_rnd ?_); intro _) | ((with_reducible refine impC_brk ?_); intro _))))); (intro s o hm; first | unfold sc_interchangeref12_longNumber_L1); rotate_left; intro s hm)) | (((apply imp_stT; (repeat' (first | with_reducible exact keepT_nil | with_reducible exact keepC_nil | with_reducible apply keepT_cons | with_reducible apply keepC_cons | ((with_reducible apply svle_eq); (focus (first | (simp only [push_cast, seval]; rfl) | rfl)); (focus ((repeat' (first | rfl | (with_reducible first | apply f_optN | apply f_optS | apply f_some | apply f_tup | apply f_agg | apply f_ptr | apply f_fn | apply dv_slice | apply sv_d | apply f_cons | apply fold_nil | apply fold_cons | apply fold_app | apply f_rowI | apply f_rowY | apply f_rowS | apply f_rowB | apply f_rowL) | (with_reducible apply f_byte; decide))); done))) | ((with_reducible apply svle_td); (focus (first | (simp only [push_cast, seval]; rfl) | rfl)); (focus (first | (simp only [push_cast, seval]; rfl) | rfl)); (focus ((repeat' (first | rfl | (with_reducible first | apply f_optN | apply f_optS | apply f_some | apply f_tup | apply f_agg | apply f_ptr | apply f_fn | apply dv_slice | apply sv_d | apply f_cons | apply fold_nil | apply fold_cons | apply fold_app | apply f_rowI | apply f_rowY | apply f_rowS | apply f_rowB | apply f_rowL) | (with_reducible apply f_byte; decide))); done))) | ((with_reducible apply chle_eq); (focus (first | (simp only [push_cast, seval]; rfl) | rfl)); (first | with_reducible exact chle_rfl rfl | with_reducible exact chle_map0 | with_reducible apply chle_vec | with_reducible apply chle_box)) | (with_reducible first | apply r_shS | apply r_shI | apply r_rflO | apply r_oneO | apply r_appO | apply r_nilO | apply c_ownN | apply c_ownL | apply vc_rfl | apply vc_nil | apply vc_cons | apply r_rfl | apply r_rows | apply r_nil | apply r_app | apply r_cons | apply c_rowI | apply c_rowY | apply c_rowS | apply c_rowB | apply c_rowL))); done))))
noncomputable def m_interchangeref12_longNumber (x0 : List UInt8) : Option (Int × Bool) := (sims_G1_0_9 x0).1
theorem spec_interchangeref12_longNumber (x0 : List UInt8) : ∀ r, m_interchangeref12_longNumber x0 = some r → PureSpec Tryz.prog 49 [.str x0] (.tup [.int .i64 r.1, .bool r.2]) := (sims_G1_0_9 x0).2

/-- internal/stringslite.HasPrefix -/
def sc_internal_stringslite_HasPrefix : SC :=
  (.seq (.reg [.r 4 (.mv (.c (.d (.bool false))))])
  (.seq (.reg (.r 5 (.mv (.t 0)) :: .r 6 (.lenT (.t 5)) :: .r 7 (.mv (.t 1)) :: .r 8 (.lenT (.t 7)) :: .r 9 (.bin .geq (.t 6) (.t 8)) :: .r 10 (.mv (.t 9)) :: gapp [11, 12, 13, 14, 15, 16] 10 true (.r 11 (.mv (.t 0)) :: .r 12 (.mv (.t 1)) :: .r 13 (.lenT (.t 12)) :: .r 14 (.sslc (.t 11) none (some (.t 13))) :: .r 15 (.mv (.t 1)) :: .r 16 (.bin .eql (.t 14) (.t 15)) :: []) (.r 17 (.pick (.t 10) (.t 16) (.c (.d (.bool false)))) :: .r 4 (.mv (.t 17)) :: [])))
  .ret))
theorem fit_internal_stringslite_HasPrefix : fits Tryz.prog 82 Tryz.f82 sc_internal_stringslite_HasPrefix [.t 4] 2 = true := by kernel_rfl

set_option maxRecDepth 100000 in
set_option maxHeartbeats 40000000 in
noncomputable def sims_G1_0_10 : (∀ (x0 : List UInt8) (x1 : List UInt8), {m : Option (Bool) // ∀ r, m = some r → PureSpec Tryz.prog 82 [.str x0, .str x1] (.bool r)}) := by
  (intro x0 x1; apply Subtype.mk; intro r hm; apply pure_walk Tryz.func82 fit_internal_stringslite_HasPrefix; unfold sc_internal_stringslite_HasPrefix)
  repeat' (first | with_reducible refine W_seq ?_ | with_reducible refine W_reg ?_ | with_reducible refine W_block ?_ | with_reducible refine W_skip ?_ | with_reducible refine W_ret ?_ | with_reducible refine W_exit ?_ | with_reducible refine O_nil ?_ | with_reducible refine K_seq ?_ | with_reducible refine K_seqE ?_ | with_reducible refine K_seqR ?_ | with_reducible refine K_block ?_ | with_reducible refine K_blockR ?_ | with_reducible refine K_blockE ?_ | ((with_reducible apply K_blockN); decide) | ((with_reducible apply O_sslcr hm); (iterate 3 (simp only [push_cast, seval]; rfl)); intro e hm) | ((with_reducible apply O_r); (simp only [push_cast, seval]; rfl); (first | exact trivial | omega)) | ((with_reducible apply O_and hm); (simp only [push_cast, seval]; rfl); rfl; intro v hm; rotate_left; intro v g hm) | ((with_reducible apply W_condT); (focus (simp only [push_cast, seval]; done))) | ((with_reducible apply W_condF); (focus (simp only [push_cast, seval]; done))) | ((with_reducible apply S_condB hm); (simp only [push_cast, seval]; rfl); intro hm; rotate_left; intro hm) | ((with_reducible apply K_endS hm); (focus (simp only [resOf, resL, RV.get, push_cast, seval]; rfl)); (focus ((repeat' (first | rfl | (with_reducible first | apply f_optN | apply f_optS | apply f_some | apply f_tup | apply f_agg | apply f_ptr | apply f_fn | apply dv_slice | apply sv_d | apply f_cons | apply fold_nil | apply fold_cons | apply fold_app | apply f_rowI | apply f_rowY | apply f_rowS | apply f_rowB | apply f_rowL) | (with_reducible apply f_byte; decide))); done))) | ((with_reducible apply K_bool hm); (simp only [push_cast, seval]; rfl)))
noncomputable def m_internal_stringslite_HasPrefix (x0 : List UInt8) (x1 : List UInt8) : Option (Bool) := (sims_G1_0_10 x0 x1).1
theorem spec_internal_stringslite_HasPrefix (x0 : List UInt8) (x1 : List UInt8) : ∀ r, m_internal_stringslite_HasPrefix x0 x1 = some r → PureSpec Tryz.prog 82 [.str x0, .str x1] (.bool r) := (sims_G1_0_10 x0 x1).2

/-- interchange/interchangeref12.within -/
def sc_interchangeref12_within : SC :=
  (.seq (.reg [.r 6 (.mv (.c (.d (.bool false))))])
  (.seq (.reg (.r 7 (.mv (.t 0)) :: .r 8 (.mv (.t 1)) :: .r 9 (.bin .geq (.t 7) (.t 8)) :: .r 10 (.mv (.t 9)) :: gapp [11, 12, 13] 10 true (.r 11 (.mv (.t 0)) :: .r 12 (.mv (.t 2)) :: .r 13 (.bin .leq (.t 11) (.t 12)) :: []) (.r 14 (.pick (.t 10) (.t 13) (.c (.d (.bool false)))) :: .r 6 (.mv (.t 14)) :: [])))
  .ret))
theorem fit_interchangeref12_within : fits Tryz.prog 115 Tryz.f115 sc_interchangeref12_within [.t 6] 3 = true := by kernel_rfl

set_option maxRecDepth 100000 in
set_option maxHeartbeats 40000000 in
noncomputable def sims_G1_0_11 : (∀ (x0 : Int) (x1 : Int) (x2 : Int), {m : Option (Bool) // ∀ r, m = some r → PureSpec Tryz.prog 115 [.int .i64 x0, .int .i64 x1, .int .i64 x2] (.bool r)}) := by
  (intro x0 x1 x2; apply Subtype.mk; intro r hm; apply pure_walk Tryz.func115 fit_interchangeref12_within; unfold sc_interchangeref12_within)
  repeat' (first | with_reducible refine W_seq ?_ | with_reducible refine W_reg ?_ | with_reducible refine W_block ?_ | with_reducible refine W_skip ?_ | with_reducible refine W_ret ?_ | with_reducible refine W_exit ?_ | with_reducible refine O_nil ?_ | with_reducible refine K_seq ?_ | with_reducible refine K_seqE ?_ | with_reducible refine K_seqR ?_ | with_reducible refine K_block ?_ | with_reducible refine K_blockR ?_ | with_reducible refine K_blockE ?_ | ((with_reducible apply K_blockN); decide) | ((with_reducible apply O_r); (simp only [push_cast, seval]; rfl); (first | exact trivial | omega)) | ((with_reducible apply O_and hm); (simp only [push_cast, seval]; rfl); rfl; intro v hm; rotate_left; intro v g hm) | ((with_reducible apply W_condT); (focus (simp only [push_cast, seval]; done))) | ((with_reducible apply W_condF); (focus (simp only [push_cast, seval]; done))) | ((with_reducible apply S_condB hm); (simp only [push_cast, seval]; rfl); intro hm; rotate_left; intro hm) | ((with_reducible apply K_endS hm); (focus (simp only [resOf, resL, RV.get, push_cast, seval]; rfl)); (focus ((repeat' (first | rfl | (with_reducible first | apply f_optN | apply f_optS | apply f_some | apply f_tup | apply f_agg | apply f_ptr | apply f_fn | apply dv_slice | apply sv_d | apply f_cons | apply fold_nil | apply fold_cons | apply fold_app | apply f_rowI | apply f_rowY | apply f_rowS | apply f_rowB | apply f_rowL) | (with_reducible apply f_byte; decide))); done))) | ((with_reducible apply K_bool hm); (simp only [push_cast, seval]; rfl)))
noncomputable def m_interchangeref12_within (x0 : Int) (x1 : Int) (x2 : Int) : Option (Bool) := (sims_G1_0_11 x0 x1 x2).1
theorem spec_interchangeref12_within (x0 : Int) (x1 : Int) (x2 : Int) : ∀ r, m_interchangeref12_within x0 x1 x2 = some r → PureSpec Tryz.prog 115 [.int .i64 x0, .int .i64 x1, .int .i64 x2] (.bool r) := (sims_G1_0_11 x0 x1 x2).2

def sc_interchangeref2_IsName_L1 : SC :=
  (.seq (.seq (.reg [.r 6 (.mv (.t 3)),
     .r 7 (.mv (.t 0)),
     .r 8 (.lenT (.t 7)),
     .r 9 (.bin .lss (.t 6) (.t 8))])
  (.cond (.t 9)
    .skip
    (.exit 0)))
  (.seq (.block 1 (.seq (.reg [.r 12 (.mv (.t 0)),
       .r 13 (.mv (.t 3)),
       .r 14 (.sidx (.t 12) (.t 13)),
       .r 4 (.mv (.t 14))])
    (.seq (.reg (.r 15 (.mv (.t 4)) :: .r 16 (.bin .geq (.t 15) (.c (.d (.int .u8 97)))) :: .r 17 (.mv (.t 16)) :: gapp [18, 19] 17 true (.r 18 (.mv (.t 4)) :: .r 19 (.bin .leq (.t 18) (.c (.d (.int .u8 122)))) :: []) (.r 20 (.pick (.t 17) (.t 19) (.c (.d (.bool false)))) :: .r 5 (.mv (.t 20)) :: [])))
    (.seq (.reg (.r 21 (.mv (.t 5)) :: .r 22 (.not (.t 21)) :: .r 23 (.mv (.t 22)) :: gapp [24, 25, 26, 27, 28, 29, 30, 31, 32, 33, 34, 35, 36, 37, 38] 23 true (.r 24 (.mv (.t 3)) :: .r 25 (.bin .eql (.t 24) (.c (.d (.int .i64 0)))) :: .r 26 (.mv (.t 25)) :: gapp [27, 28, 29, 30, 31, 32, 33, 34, 35, 36, 37] 26 false (.r 27 (.mv (.t 4)) :: .r 28 (.bin .neq (.t 27) (.c (.d (.int .u8 45)))) :: .r 29 (.mv (.t 28)) :: gapp [30, 31, 32, 33, 34, 35, 36] 29 true (.r 30 (.mv (.t 4)) :: .r 31 (.bin .geq (.t 30) (.c (.d (.int .u8 48)))) :: .r 32 (.mv (.t 31)) :: gapp [33, 34] 32 true (.r 33 (.mv (.t 4)) :: .r 34 (.bin .leq (.t 33) (.c (.d (.int .u8 57)))) :: []) (.r 35 (.pick (.t 32) (.t 34) (.c (.d (.bool false)))) :: .r 36 (.not (.t 35)) :: [])) (.r 37 (.pick (.t 29) (.t 36) (.c (.d (.bool false)))) :: [])) (.r 38 (.pick (.t 26) (.c (.d (.bool true))) (.t 37)) :: [])) (.r 39 (.pick (.t 23) (.t 38) (.c (.d (.bool false)))) :: [])))
    (.cond (.t 39)
      (.seq (.reg [.r 2 (.mv (.c (.d (.bool false))))])
      .ret)
      .skip)))))
  (.reg [.r 10 (.mv (.t 3)),
     .r 11 (.bin .add (.t 10) (.c (.d (.int .i64 1)))),
     .r 3 (.mv (.t 11))])))
def sc_interchangeref2_IsName_B1 : SC := .block 0 (.loop sc_interchangeref2_IsName_L1)
/-- interchange/interchangeref2.IsName -/
def sc_interchangeref2_IsName : SC :=
  (.seq (.reg [.r 2 (.mv (.c (.d (.bool false))))])
  (.seq (.seq (.reg [.r 3 (.mv (.c (.d (.int .i64 0))))])
  sc_interchangeref2_IsName_B1)
  (.seq (.reg (.r 40 (.mv (.t 0)) :: .r 41 (.bin .neq (.t 40) (.c (.d (.str [])))) :: .r 42 (.mv (.t 41)) :: gapp [43, 44, 45] 42 true (.r 43 (.mv (.t 0)) :: .r 44 (.lenT (.t 43)) :: .r 45 (.bin .leq (.t 44) (.c (.d (.int .i64 40)))) :: []) (.r 46 (.pick (.t 42) (.t 45) (.c (.d (.bool false)))) :: .r 2 (.mv (.t 46)) :: [])))
  .ret)))
theorem fit_interchangeref2_IsName : fits Tryz.prog 62 Tryz.f62 sc_interchangeref2_IsName [.t 2] 1 = true := by kernel_rfl

set_option maxRecDepth 100000 in
set_option maxHeartbeats 40000000 in
noncomputable def sims_G1_0_12 : (∀ (x0 : List UInt8), {m : Option (Bool) // ∀ r, m = some r → PureSpec Tryz.prog 62 [.str x0] (.bool r)}) := by
  (intro x0; apply Subtype.mk; intro r hm; apply pure_walk Tryz.func62 fit_interchangeref2_IsName; unfold sc_interchangeref2_IsName)
  repeat' (first | with_reducible refine W_seq ?_ | with_reducible refine W_reg ?_ | with_reducible refine W_block ?_ | with_reducible refine W_skip ?_ | with_reducible refine W_ret ?_ | with_reducible refine W_exit ?_ | with_reducible refine O_nil ?_ | with_reducible refine K_seq ?_ | with_reducible refine K_seqE ?_ | with_reducible refine K_seqR ?_ | with_reducible refine K_block ?_ | with_reducible refine K_blockR ?_ | with_reducible refine K_blockE ?_ | ((with_reducible apply K_blockN); decide) | ((with_reducible apply O_sidxr hm); (iterate 2 (simp only [push_cast, seval]; rfl)); intro e hm) | ((with_reducible apply O_r); (simp only [push_cast, seval]; rfl); (first | exact trivial | omega)) | ((with_reducible apply O_strr hm); (iterate 2 (simp only [push_cast, seval]; rfl)); intro hm) | ((with_reducible apply O_and hm); (simp only [push_cast, seval]; rfl); rfl; intro v hm; rotate_left; intro v g hm) | ((with_reducible apply O_or hm); (simp only [push_cast, seval]; rfl); rfl; intro v hm; rotate_left; intro v g hm) | ((with_reducible apply W_condT); (focus (simp only [push_cast, seval]; done))) | ((with_reducible apply W_condF); (focus (simp only [push_cast, seval]; done))) | ((with_reducible apply S_condB hm); (simp only [push_cast, seval]; rfl); intro hm; rotate_left; intro hm) | ((with_reducible apply K_endS hm); (focus (simp only [resOf, resL, RV.get, push_cast, seval]; rfl)); (focus ((repeat' (first | rfl | (with_reducible first | apply f_optN | apply f_optS | apply f_some | apply f_tup | apply f_agg | apply f_ptr | apply f_fn | apply dv_slice | apply sv_d | apply f_cons | apply fold_nil | apply fold_cons | apply fold_app | apply f_rowI | apply f_rowY | apply f_rowS | apply f_rowB | apply f_rowL) | (with_reducible apply f_byte; decide))); done))) | ((with_reducible apply K_bool hm); (simp only [push_cast, seval]; rfl)) | ((with_reducible apply K_leave hm); intro r hm) | ((with_reducible apply K_leaveR hm); intro r hm) | ((apply S_loopY (b := 0) (X := sc_interchangeref2_IsName_B1) (x := sc_interchangeref2_IsName_L1) rfl (fun (c : SV) (s : Int) => st [(0, c), (3, .d (.int .i64 s))] []) (c := _) (s0 := _) hm); (focus (first | (dsimp only; done) | (dsimp only; rfl) | rfl)); (with_reducible refine Then.mk ?_ ?_)) | ((apply K_next (s' := _) hm); (focus (first | (dsimp only; done) | (dsimp only; rfl) | rfl))) | ((apply K_brk (s' := _) hm); (focus (first | (dsimp only; done) | (dsimp only; rfl) | rfl))) | (((with_reducible apply K_brkN hm); (focus decide); intro r hm)) | (((with_reducible apply K_brkR hm); intro r hm)) | (((with_reducible apply LoopB.of); (focus (first | (dsimp only; done) | (dsimp only; rfl) | rfl)); (focus ((intro _; repeat' (first | with_reducible exact impC_end | with_reducible exact impC_endF | with_reducible refine impC_seq ?_ | with_reducible refine impC_block ?_ | ((with_reducible refine impC_rnd ?_); intro _) | ((with_reducible refine impC_brk ?_); intro _))))); (intro s o hm; first | unfold sc_interchangeref2_IsName_L1); rotate_left; intro s hm)) | (((apply imp_stT; (repeat' (first | with_reducible exact keepT_nil | with_reducible exact keepC_nil | with_reducible apply keepT_cons | with_reducible apply keepC_cons | ((with_reducible apply svle_eq); (focus (first | (simp only [push_cast, seval]; rfl) | rfl)); (focus ((repeat' (first | rfl | (with_reducible first | apply f_optN | apply f_optS | apply f_some | apply f_tup | apply f_agg | apply f_ptr | apply f_fn | apply dv_slice | apply sv_d | apply f_cons | apply fold_nil | apply fold_cons | apply fold_app | apply f_rowI | apply f_rowY | apply f_rowS | apply f_rowB | apply f_rowL) | (with_reducible apply f_byte; decide))); done))) | ((with_reducible apply svle_td); (focus (first | (simp only [push_cast, seval]; rfl) | rfl)); (focus (first | (simp only [push_cast, seval]; rfl) | rfl)); (focus ((repeat' (first | rfl | (with_reducible first | apply f_optN | apply f_optS | apply f_some | apply f_tup | apply f_agg | apply f_ptr | apply f_fn | apply dv_slice | apply sv_d | apply f_cons | apply fold_nil | apply fold_cons | apply fold_app | apply f_rowI | apply f_rowY | apply f_rowS | apply f_rowB | apply f_rowL) | (with_reducible apply f_byte; decide))); done))) | ((with_reducible apply chle_eq); (focus (first | (simp only [push_cast, seval]; rfl) | rfl)); (first | with_reducible exact chle_rfl rfl | with_reducible exact chle_map0 | with_reducible apply chle_vec | with_reducible apply chle_box)) | (with_reducible first | apply r_shS | apply r_shI | apply r_rflO | apply r_oneO | apply r_appO | apply r_nilO | apply c_ownN | apply c_ownL | apply vc_rfl | apply vc_nil | apply vc_cons | apply r_rfl | apply r_rows | apply r_nil | apply r_app | apply r_cons | apply c_rowI | apply c_rowY | apply c_rowS | apply c_rowB | apply c_rowL))); done))))
noncomputable def m_interchangeref2_IsName (x0 : List UInt8) : Option (Bool) := (sims_G1_0_12 x0).1
theorem spec_interchangeref2_IsName (x0 : List UInt8) : ∀ r, m_interchangeref2_IsName x0 = some r → PureSpec Tryz.prog 62 [.str x0] (.bool r) := (sims_G1_0_12 x0).2

def sc_interchangeref12_isDigest_L1 : SC :=
  (.seq (.seq (.reg [.r 4 (.mv (.t 3)),
     .r 5 (.mv (.t 0)),
     .r 6 (.lenT (.t 5)),
     .r 7 (.bin .lss (.t 4) (.t 6))])
  (.cond (.t 7)
    .skip
    (.exit 0)))
  (.seq (.block 1 (.seq (.reg (.r 10 (.mv (.t 0)) :: .r 11 (.mv (.t 3)) :: .r 12 (.sidx (.t 10) (.t 11)) :: .r 13 (.bin .geq (.t 12) (.c (.d (.int .u8 48)))) :: .r 14 (.mv (.t 13)) :: gapp [15, 16, 17, 18] 14 true (.r 15 (.mv (.t 0)) :: .r 16 (.mv (.t 3)) :: .r 17 (.sidx (.t 15) (.t 16)) :: .r 18 (.bin .leq (.t 17) (.c (.d (.int .u8 57)))) :: []) (.r 19 (.pick (.t 14) (.t 18) (.c (.d (.bool false)))) :: .r 20 (.mv (.t 19)) :: gapp [21, 22, 23, 24, 25, 26, 27, 28, 29, 30] 20 false (.r 21 (.mv (.t 0)) :: .r 22 (.mv (.t 3)) :: .r 23 (.sidx (.t 21) (.t 22)) :: .r 24 (.bin .geq (.t 23) (.c (.d (.int .u8 97)))) :: .r 25 (.mv (.t 24)) :: gapp [26, 27, 28, 29] 25 true (.r 26 (.mv (.t 0)) :: .r 27 (.mv (.t 3)) :: .r 28 (.sidx (.t 26) (.t 27)) :: .r 29 (.bin .leq (.t 28) (.c (.d (.int .u8 102)))) :: []) (.r 30 (.pick (.t 25) (.t 29) (.c (.d (.bool false)))) :: [])) (.r 31 (.pick (.t 20) (.c (.d (.bool true))) (.t 30)) :: .r 32 (.not (.t 31)) :: []))))
    (.cond (.t 32)
      (.seq (.reg [.r 2 (.mv (.c (.d (.bool false))))])
      .ret)
      .skip)))
  (.reg [.r 8 (.mv (.t 3)),
     .r 9 (.bin .add (.t 8) (.c (.d (.int .i64 1)))),
     .r 3 (.mv (.t 9))])))
def sc_interchangeref12_isDigest_B1 : SC := .block 0 (.loop sc_interchangeref12_isDigest_L1)
/-- interchange/interchangeref12.isDigest -/
def sc_interchangeref12_isDigest : SC :=
  (.seq (.reg [.r 2 (.mv (.c (.d (.bool false))))])
  (.seq (.seq (.reg [.r 3 (.mv (.c (.d (.int .i64 0))))])
  sc_interchangeref12_isDigest_B1)
  (.seq (.reg [.r 33 (.mv (.t 0)),
     .r 34 (.lenT (.t 33)),
     .r 35 (.bin .eql (.t 34) (.c (.d (.int .i64 16)))),
     .r 2 (.mv (.t 35))])
  .ret)))
theorem fit_interchangeref12_isDigest : fits Tryz.prog 84 Tryz.f84 sc_interchangeref12_isDigest [.t 2] 1 = true := by kernel_rfl

set_option maxRecDepth 100000 in
set_option maxHeartbeats 40000000 in
noncomputable def sims_G1_0_13 : (∀ (x0 : List UInt8), {m : Option (Bool) // ∀ r, m = some r → PureSpec Tryz.prog 84 [.str x0] (.bool r)}) := by
  (intro x0; apply Subtype.mk; intro r hm; apply pure_walk Tryz.func84 fit_interchangeref12_isDigest; unfold sc_interchangeref12_isDigest)
  repeat' (first | with_reducible refine W_seq ?_ | with_reducible refine W_reg ?_ | with_reducible refine W_block ?_ | with_reducible refine W_skip ?_ | with_reducible refine W_ret ?_ | with_reducible refine W_exit ?_ | with_reducible refine O_nil ?_ | with_reducible refine K_seq ?_ | with_reducible refine K_seqE ?_ | with_reducible refine K_seqR ?_ | with_reducible refine K_block ?_ | with_reducible refine K_blockR ?_ | with_reducible refine K_blockE ?_ | ((with_reducible apply K_blockN); decide) | ((with_reducible apply O_sidxr hm); (iterate 2 (simp only [push_cast, seval]; rfl)); intro e hm) | ((with_reducible apply O_r); (simp only [push_cast, seval]; rfl); (first | exact trivial | omega)) | ((with_reducible apply O_strr hm); (iterate 2 (simp only [push_cast, seval]; rfl)); intro hm) | ((with_reducible apply O_and hm); (simp only [push_cast, seval]; rfl); rfl; intro v hm; rotate_left; intro v g hm) | ((with_reducible apply O_or hm); (simp only [push_cast, seval]; rfl); rfl; intro v hm; rotate_left; intro v g hm) | ((with_reducible apply W_condT); (focus (simp only [push_cast, seval]; done))) | ((with_reducible apply W_condF); (focus (simp only [push_cast, seval]; done))) | ((with_reducible apply S_condB hm); (simp only [push_cast, seval]; rfl); intro hm; rotate_left; intro hm) | ((with_reducible apply K_endS hm); (focus (simp only [resOf, resL, RV.get, push_cast, seval]; rfl)); (focus ((repeat' (first | rfl | (with_reducible first | apply f_optN | apply f_optS | apply f_some | apply f_tup | apply f_agg | apply f_ptr | apply f_fn | apply dv_slice | apply sv_d | apply f_cons | apply fold_nil | apply fold_cons | apply fold_app | apply f_rowI | apply f_rowY | apply f_rowS | apply f_rowB | apply f_rowL) | (with_reducible apply f_byte; decide))); done))) | ((with_reducible apply K_bool hm); (simp only [push_cast, seval]; rfl)) | ((with_reducible apply K_leave hm); intro r hm) | ((with_reducible apply K_leaveR hm); intro r hm) | ((apply S_loopY (b := 0) (X := sc_interchangeref12_isDigest_B1) (x := sc_interchangeref12_isDigest_L1) rfl (fun (c : SV) (s : Int) => st [(0, c), (3, .d (.int .i64 s))] []) (c := _) (s0 := _) hm); (focus (first | (dsimp only; done) | (dsimp only; rfl) | rfl)); (with_reducible refine Then.mk ?_ ?_)) | ((apply K_next (s' := _) hm); (focus (first | (dsimp only; done) | (dsimp only; rfl) | rfl))) | ((apply K_brk (s' := _) hm); (focus (first | (dsimp only; done) | (dsimp only; rfl) | rfl))) | (((with_reducible apply K_brkN hm); (focus decide); intro r hm)) | (((with_reducible apply K_brkR hm); intro r hm)) | (((with_reducible apply LoopB.of); (focus (first | (dsimp only; done) | (dsimp only; rfl) | rfl)); (focus ((intro _; repeat' (first | with_reducible exact impC_end | with_reducible exact impC_endF | with_reducible refine impC_seq ?_ | with_reducible refine impC_block ?_ | ((with_reducible refine impC_rnd ?_); intro _) | ((with_reducible refine impC_brk ?_); intro _))))); (intro s o hm; first | unfold sc_interchangeref12_isDigest_L1); rotate_left; intro s hm)) | (((apply imp_stT; (repeat' (first | with_reducible exact keepT_nil | with_reducible exact keepC_nil | with_reducible apply keepT_cons | with_reducible apply keepC_cons | ((with_reducible apply svle_eq); (focus (first | (simp only [push_cast, seval]; rfl) | rfl)); (focus ((repeat' (first | rfl | (with_reducible first | apply f_optN | apply f_optS | apply f_some | apply f_tup | apply f_agg | apply f_ptr | apply f_fn | apply dv_slice | apply sv_d | apply f_cons | apply fold_nil | apply fold_cons | apply fold_app | apply f_rowI | apply f_rowY | apply f_rowS | apply f_rowB | apply f_rowL) | (with_reducible apply f_byte; decide))); done))) | ((with_reducible apply svle_td); (focus (first | (simp only [push_cast, seval]; rfl) | rfl)); (focus (first | (simp only [push_cast, seval]; rfl) | rfl)); (focus ((repeat' (first | rfl | (with_reducible first | apply f_optN | apply f_optS | apply f_some | apply f_tup | apply f_agg | apply f_ptr | apply f_fn | apply dv_slice | apply sv_d | apply f_cons | apply fold_nil | apply fold_cons | apply fold_app | apply f_rowI | apply f_rowY | apply f_rowS | apply f_rowB | apply f_rowL) | (with_reducible apply f_byte; decide))); done))) | ((with_reducible apply chle_eq); (focus (first | (simp only [push_cast, seval]; rfl) | rfl)); (first | with_reducible exact chle_rfl rfl | with_reducible exact chle_map0 | with_reducible apply chle_vec | with_reducible apply chle_box)) | (with_reducible first | apply r_shS | apply r_shI | apply r_rflO | apply r_oneO | apply r_appO | apply r_nilO | apply c_ownN | apply c_ownL | apply vc_rfl | apply vc_nil | apply vc_cons | apply r_rfl | apply r_rows | apply r_nil | apply r_app | apply r_cons | apply c_rowI | apply c_rowY | apply c_rowS | apply c_rowB | apply c_rowL))); done))))
noncomputable def m_interchangeref12_isDigest (x0 : List UInt8) : Option (Bool) := (sims_G1_0_13 x0).1
theorem spec_interchangeref12_isDigest (x0 : List UInt8) : ∀ r, m_interchangeref12_isDigest x0 = some r → PureSpec Tryz.prog 84 [.str x0] (.bool r) := (sims_G1_0_13 x0).2

def sc_interchangeref8_Digest_L1 : SC :=
  (.seq (.reg [.r 11 (.bin .lss (.t 10) (.t 9))])
  (.seq (.cond (.t 11)
    .skip
    (.exit 0))
  (.seq (.block 1 (.seq (.reg [.r 12 (.idx 1 (.t 8) (.t 10)),
       .o 13 (.ld1 (.t 12)),
       .r 5 (.mv (.t 13))])
    (.reg [.r 14 (.mv (.t 3)),
       .r 15 (.mv (.t 5)),
       .r 16 (.cvi .u64 (.t 15)),
       .r 17 (.bin .xor (.t 14) (.t 16)),
       .r 18 (.bin .mul (.t 17) (.c (.d (.int .u64 1099511628211)))),
       .r 3 (.mv (.t 18))])))
  (.reg [.r 19 (.bin .add (.t 10) (.c (.d (.int .i64 1)))),
     .r 10 (.mv (.t 19))]))))
def sc_interchangeref8_Digest_B1 : SC := .block 0 (.loop sc_interchangeref8_Digest_L1)
def sc_interchangeref8_Digest_L2 : SC :=
  (.seq (.seq (.reg [.r 20 (.mv (.t 7)),
     .r 21 (.bin .geq (.t 20) (.c (.d (.int .i64 0))))])
  (.cond (.t 21)
    .skip
    (.exit 2)))
  (.seq (.block 3 (.reg [.r 24 (.mv (.t 6)),
       .r 25 (.mv (.t 3)),
       .r 26 (.mv (.t 7)),
       .r 27 (.bin .mul (.c (.d (.int .i64 4))) (.t 26)),
       .r 28 (.bin .shr (.t 25) (.t 27)),
       .r 29 (.bin .and (.t 28) (.c (.d (.int .u64 15)))),
       .r 30 (.sidx (.c (.d (.str [48, 49, 50, 51, 52, 53, 54, 55, 56, 57, 97, 98, 99, 100, 101, 102]))) (.t 29)),
       .r 31 (.bslice 1 [.t 30]),
       .w 32 (.app 5 1 (.t 24) (.t 31)),
       .r 6 (.mv (.t 32))]))
  (.reg [.r 22 (.mv (.t 7)),
     .r 23 (.bin .sub (.t 22) (.c (.d (.int .i64 1)))),
     .r 7 (.mv (.t 23))])))
def sc_interchangeref8_Digest_B2 : SC := .block 2 (.loop sc_interchangeref8_Digest_L2)
/-- interchange/interchangeref8.Digest -/
def sc_interchangeref8_Digest : SC :=
  (.seq (.reg [.r 2 (.mv (.c (.d (.str []))))])
  (.seq (.reg [.r 3 (.mv (.c (.d (.int .u64 14695981039346656037))))])
  (.seq (.seq (.reg [.r 8 (.mv (.t 0)),
     .r 9 (.len (.t 8)),
     .r 10 (.mv (.c (.d (.int .i64 0))))])
  sc_interchangeref8_Digest_B1)
  (.seq (.reg [.r 6 (.mv (.c (.nils)))])
  (.seq (.seq (.reg [.r 7 (.mv (.c (.d (.int .i64 15))))])
  sc_interchangeref8_Digest_B2)
  (.seq (.reg [.r 33 (.mv (.t 6)),
     .r 34 (.cvbs (.t 33)),
     .r 2 (.mv (.t 34))])
  .ret))))))
theorem fit_interchangeref8_Digest : fits Tryz.prog 85 Tryz.f85 sc_interchangeref8_Digest [.t 2] 1 = true := by kernel_rfl

set_option maxRecDepth 100000 in
set_option maxHeartbeats 40000000 in
noncomputable def sims_G1_0_14 : (∀ (x0 : List UInt8), {m : Option ((List UInt8)) // ∀ r, m = some r → PureSpec Tryz.prog 85 [.slice (List.map rowY x0)] (.str r)}) := by
  (intro x0; apply Subtype.mk; intro r hm; apply pure_walk Tryz.func85 fit_interchangeref8_Digest; unfold sc_interchangeref8_Digest)
  repeat' (first | with_reducible refine W_seq ?_ | with_reducible refine W_reg ?_ | with_reducible refine W_block ?_ | with_reducible refine W_skip ?_ | with_reducible refine W_ret ?_ | with_reducible refine W_exit ?_ | with_reducible refine O_nil ?_ | with_reducible refine K_seq ?_ | with_reducible refine K_seqE ?_ | with_reducible refine K_seqR ?_ | with_reducible refine K_block ?_ | with_reducible refine K_blockR ?_ | with_reducible refine K_blockE ?_ | ((with_reducible apply K_blockN); decide) | with_reducible refine O_o2r ?_ | ((with_reducible apply O_idxr hm); (iterate 2 (simp only [push_cast, seval]; rfl)); (intro _; rfl); intro e hm) | ((with_reducible apply O_idxVr hm); (iterate 3 (simp only [push_cast, seval]; rfl)); intro e hm) | ((with_reducible apply O_sidxr hm); (iterate 2 (simp only [push_cast, seval]; rfl)); intro e hm) | ((with_reducible apply O_cvbsD); (simp only [push_cast, seval]; rfl)) | ((with_reducible apply O_cvbsL); (simp only [push_cast, seval]; rfl); (focus (repeat' (first | exact bytesC_nil | with_reducible apply bytesC_cons)))) | ((with_reducible apply O_cvbsV); (iterate 2 (simp only [push_cast, seval]; rfl))) | ((with_reducible apply O_idxLr hm (row := rowY)); (iterate 2 (simp only [push_cast, seval]; rfl)); (focus ((repeat' (first | rfl | (with_reducible first | apply f_optN | apply f_optS | apply f_some | apply f_tup | apply f_agg | apply f_ptr | apply f_fn | apply dv_slice | apply sv_d | apply f_cons | apply fold_nil | apply fold_cons | apply fold_app | apply f_rowI | apply f_rowY | apply f_rowS | apply f_rowB | apply f_rowL) | (with_reducible apply f_byte; decide))); done)); (simp only [push_cast, seval]; rfl); (intro _; rfl); intro e hm) | ((with_reducible apply O_r); (simp only [push_cast, seval]; rfl); (first | exact trivial | omega)) | ((with_reducible apply O_ldV1r hm); (iterate 2 (simp only [push_cast, seval]; rfl)); (intro _; rfl); intro e hm) | ((with_reducible apply O_strr hm); (iterate 2 (simp only [push_cast, seval]; rfl)); intro hm) | ((with_reducible apply O_shr hm); (iterate 2 (simp only [push_cast, seval]; rfl)); intro hm) | ((with_reducible apply W_condT); (focus (simp only [push_cast, seval]; done))) | ((with_reducible apply W_condF); (focus (simp only [push_cast, seval]; done))) | ((with_reducible apply O_w); (simp only [push_cast, seval]; rfl); (first | exact trivial | omega)) | ((with_reducible apply O_appL hm (row := rowY)); (iterate 5 (simp only [push_cast, seval]; rfl)); (focus ((repeat' (first | rfl | (with_reducible first | apply f_optN | apply f_optS | apply f_some | apply f_tup | apply f_agg | apply f_ptr | apply f_fn | apply dv_slice | apply sv_d | apply f_cons | apply fold_nil | apply fold_cons | apply fold_app | apply f_rowI | apply f_rowY | apply f_rowS | apply f_rowB | apply f_rowL) | (with_reducible apply f_byte; decide))); done)); (focus ((repeat' (first | rfl | (with_reducible first | apply f_optN | apply f_optS | apply f_some | apply f_tup | apply f_agg | apply f_ptr | apply f_fn | apply dv_slice | apply sv_d | apply f_cons | apply fold_nil | apply fold_cons | apply fold_app | apply f_rowI | apply f_rowY | apply f_rowS | apply f_rowB | apply f_rowL) | (with_reducible apply f_byte; decide))); done)); rfl; decide; (intro _; rfl); intro hm) | ((with_reducible apply O_appV hm); (iterate 4 (simp only [push_cast, seval]; rfl)); (focus ((repeat' (first | rfl | (with_reducible first | apply f_optN | apply f_optS | apply f_some | apply f_tup | apply f_agg | apply f_ptr | apply f_fn | apply dv_slice | apply sv_d | apply f_cons | apply fold_nil | apply fold_cons | apply fold_app | apply f_rowI | apply f_rowY | apply f_rowS | apply f_rowB | apply f_rowL) | (with_reducible apply f_byte; decide))); done)); decide; (intro _; rfl); intro hm) | ((with_reducible apply O_appN hm); (focus (simp only [push_cast, seval]; done)); (iterate 2 (simp only [push_cast, seval]; rfl)); (focus ((repeat' (first | rfl | (with_reducible first | apply f_optN | apply f_optS | apply f_some | apply f_tup | apply f_agg | apply f_ptr | apply f_fn | apply dv_slice | apply sv_d | apply f_cons | apply fold_nil | apply fold_cons | apply fold_app | apply f_rowI | apply f_rowY | apply f_rowS | apply f_rowB | apply f_rowL) | (with_reducible apply f_byte; decide))); done)); decide; (intro _; rfl); intro hm) | ((with_reducible apply S_condB hm); (simp only [push_cast, seval]; rfl); intro hm; rotate_left; intro hm) | ((with_reducible apply K_endS hm); (focus (simp only [resOf, resL, RV.get, push_cast, seval]; rfl)); (focus ((repeat' (first | rfl | (with_reducible first | apply f_optN | apply f_optS | apply f_some | apply f_tup | apply f_agg | apply f_ptr | apply f_fn | apply dv_slice | apply sv_d | apply f_cons | apply fold_nil | apply fold_cons | apply fold_app | apply f_rowI | apply f_rowY | apply f_rowS | apply f_rowB | apply f_rowL) | (with_reducible apply f_byte; decide))); done))) | ((with_reducible apply K_leave hm); intro r hm) | ((with_reducible apply K_leaveR hm); intro r hm) | ((apply S_loopY (b := 0) (X := sc_interchangeref8_Digest_B1) (x := sc_interchangeref8_Digest_L1) rfl (fun (c : SV × SV) (s : Int × Int) => st [(3, .d (.int .u64 s.1)), (8, c.1), (9, c.2), (10, .d (.int .i64 s.2))] []) (c := (_, _)) (s0 := (_, _)) hm); (focus (first | (dsimp only; done) | (dsimp only; rfl) | rfl)); (with_reducible refine Then.mk ?_ ?_)) | ((apply S_loopY (b := 2) (X := sc_interchangeref8_Digest_B2) (x := sc_interchangeref8_Digest_L2) rfl (fun (c : SV) (s : (List UInt8) × Int) => st [(3, c), (6, .vec 6), (7, .d (.int .i64 s.2))] [(6, .vec 5 1 (vrow rowY s.1))]) (c := _) (s0 := (_, _)) hm); (focus (first | (dsimp only; done) | (dsimp only; rfl) | rfl)); (with_reducible refine Then.mk ?_ ?_); apply Imp.trans; (focus (apply imp_vecnil (slot := 6) (id := 6) (e := 5) (sz := 1); (focus (simp only [push_cast, seval]; done))))) | ((apply K_next (s' := (_, _)) hm); (focus (first | (dsimp only; done) | (dsimp only; rfl) | rfl))) | ((apply K_brk (s' := (_, _)) hm); (focus (first | (dsimp only; done) | (dsimp only; rfl) | rfl))) | (((with_reducible apply K_brkN hm); (focus decide); intro r hm)) | (((with_reducible apply K_brkR hm); intro r hm)) | (((with_reducible apply LoopB.of); (focus (first | (dsimp only; done) | (dsimp only; rfl) | rfl)); (focus ((intro _; repeat' (first | with_reducible exact impC_end | with_reducible exact impC_endF | with_reducible refine impC_seq ?_ | with_reducible refine impC_block ?_ | ((with_reducible refine impC_rnd ?_); intro _) | ((with_reducible refine impC_brk ?_); intro _))))); (intro s o hm; first | unfold sc_interchangeref8_Digest_L1 | unfold sc_interchangeref8_Digest_L2); rotate_left; intro s hm)) | (((apply imp_stT; (repeat' (first | with_reducible exact keepT_nil | with_reducible exact keepC_nil | with_reducible apply keepT_cons | with_reducible apply keepC_cons | ((with_reducible apply svle_eq); (focus (first | (simp only [push_cast, seval]; rfl) | rfl)); (focus ((repeat' (first | rfl | (with_reducible first | apply f_optN | apply f_optS | apply f_some | apply f_tup | apply f_agg | apply f_ptr | apply f_fn | apply dv_slice | apply sv_d | apply f_cons | apply fold_nil | apply fold_cons | apply fold_app | apply f_rowI | apply f_rowY | apply f_rowS | apply f_rowB | apply f_rowL) | (with_reducible apply f_byte; decide))); done))) | ((with_reducible apply svle_td); (focus (first | (simp only [push_cast, seval]; rfl) | rfl)); (focus (first | (simp only [push_cast, seval]; rfl) | rfl)); (focus ((repeat' (first | rfl | (with_reducible first | apply f_optN | apply f_optS | apply f_some | apply f_tup | apply f_agg | apply f_ptr | apply f_fn | apply dv_slice | apply sv_d | apply f_cons | apply fold_nil | apply fold_cons | apply fold_app | apply f_rowI | apply f_rowY | apply f_rowS | apply f_rowB | apply f_rowL) | (with_reducible apply f_byte; decide))); done))) | ((with_reducible apply chle_eq); (focus (first | (simp only [push_cast, seval]; rfl) | rfl)); (first | with_reducible exact chle_rfl rfl | with_reducible exact chle_map0 | with_reducible apply chle_vec | with_reducible apply chle_box)) | (with_reducible first | apply r_shS | apply r_shI | apply r_rflO | apply r_oneO | apply r_appO | apply r_nilO | apply c_ownN | apply c_ownL | apply vc_rfl | apply vc_nil | apply vc_cons | apply r_rfl | apply r_rows | apply r_nil | apply r_app | apply r_cons | apply c_rowI | apply c_rowY | apply c_rowS | apply c_rowB | apply c_rowL))); done))))
noncomputable def m_interchangeref8_Digest (x0 : List UInt8) : Option ((List UInt8)) := (sims_G1_0_14 x0).1
theorem spec_interchangeref8_Digest (x0 : List UInt8) : ∀ r, m_interchangeref8_Digest x0 = some r → PureSpec Tryz.prog 85 [.slice (List.map rowY x0)] (.str r) := (sims_G1_0_14 x0).2

def sc_slices_Equal_interchange_api_Record_interchange_api_Record_L1 : SC :=
  (.seq (.reg [.r 14 (.bin .lss (.t 13) (.t 12))])
  (.seq (.cond (.t 14)
    .skip
    (.exit 0))
  (.seq (.block 1 (.seq (.reg [.r 15 (.mv (.t 13)),
       .r 5 (.mv (.t 15))])
    (.seq (.regD [.r 16 (.mv (.t 0)),
       .r 17 (.mv (.t 5)),
       .r 18 (.idx 6 (.t 16) (.t 17)),
       .r 19 (.ldA 6 (.t 18)),
       .r 20 (.mv (.t 1)),
       .r 21 (.mv (.t 5)),
       .r 22 (.idx 6 (.t 20) (.t 21)),
       .r 23 (.ldA 6 (.t 22)),
       .r 24 (.eqs .neq [(.int .i64), .str, .str, .str, .bool, .str] (.t 19) (.t 23))])
    (.cond (.t 24)
      (.seq (.reg [.r 4 (.mv (.c (.d (.bool false))))])
      .ret)
      .skip))))
  (.reg [.r 25 (.bin .add (.t 13) (.c (.d (.int .i64 1)))),
     .r 13 (.mv (.t 25))]))))
def sc_slices_Equal_interchange_api_Record_interchange_api_Record_B1 : SC := .block 0 (.loop sc_slices_Equal_interchange_api_Record_interchange_api_Record_L1)
/-- slices.Equal[[]interchange/api.Record,interchange/api.Record] -/
def sc_slices_Equal_interchange_api_Record_interchange_api_Record : SC :=
  (.seq (.reg [.r 4 (.mv (.c (.d (.bool false))))])
  (.seq (.seq (.reg [.r 6 (.mv (.t 0)),
     .r 7 (.len (.t 6)),
     .r 8 (.mv (.t 1)),
     .r 9 (.len (.t 8)),
     .r 10 (.bin .neq (.t 7) (.t 9))])
  (.cond (.t 10)
    (.seq (.reg [.r 4 (.mv (.c (.d (.bool false))))])
    .ret)
    .skip))
  (.seq (.seq (.reg [.r 11 (.mv (.t 0)),
     .r 12 (.len (.t 11)),
     .r 13 (.mv (.c (.d (.int .i64 0))))])
  sc_slices_Equal_interchange_api_Record_interchange_api_Record_B1)
  (.seq (.reg [.r 4 (.mv (.c (.d (.bool true))))])
  .ret))))
theorem fit_slices_Equal_interchange_api_Record_interchange_api_Record : fits Tryz.prog 7 Tryz.f7 sc_slices_Equal_interchange_api_Record_interchange_api_Record [.t 4] 2 = true := by kernel_rfl

set_option maxRecDepth 100000 in
set_option maxHeartbeats 40000000 in
noncomputable def sims_G1_0_15 : (∀ (x0 : List Tapi_Record) (x1 : List Tapi_Record), {m : Option (Bool) // ∀ r, m = some r → PureSpec Tryz.prog 7 [.slice (List.map rTapi_Record x0), .slice (List.map rTapi_Record x1)] (.bool r)}) := by
  (intro x0 x1; apply Subtype.mk; intro r hm; apply pure_walk Tryz.func7 fit_slices_Equal_interchange_api_Record_interchange_api_Record; unfold sc_slices_Equal_interchange_api_Record_interchange_api_Record)
  repeat' (first | with_reducible refine W_seq ?_ | with_reducible refine W_reg ?_ | with_reducible refine W_regD ?_ | with_reducible refine W_block ?_ | with_reducible refine W_skip ?_ | with_reducible refine W_ret ?_ | with_reducible refine W_exit ?_ | with_reducible refine O_nil ?_ | with_reducible refine K_seq ?_ | with_reducible refine K_seqE ?_ | with_reducible refine K_seqR ?_ | with_reducible refine K_block ?_ | with_reducible refine K_blockR ?_ | with_reducible refine K_blockE ?_ | ((with_reducible apply K_blockN); decide) | ((with_reducible apply O_idxr hm); (iterate 2 (simp only [push_cast, seval]; rfl)); (intro _; rfl); intro e hm) | ((with_reducible apply O_idxVr hm); (iterate 3 (simp only [push_cast, seval]; rfl)); intro e hm) | ((with_reducible apply O_r); (simp only [push_cast, seval]; rfl); (first | exact trivial | omega)) | ((with_reducible apply O_ldV1r hm); (iterate 2 (simp only [push_cast, seval]; rfl)); (intro _; rfl); intro e hm) | ((with_reducible apply O_ldAVr hm); (iterate 2 (simp only [push_cast, seval]; rfl)); (intro _; rfl); intro e hm) | ((with_reducible apply O_strr hm); (iterate 2 (simp only [push_cast, seval]; rfl)); intro hm) | ((with_reducible apply W_condT); (focus (simp only [push_cast, seval]; done))) | ((with_reducible apply W_condF); (focus (simp only [push_cast, seval]; done))) | ((with_reducible apply S_condB hm); (simp only [push_cast, seval]; rfl); intro hm; rotate_left; intro hm) | ((with_reducible apply K_endS hm); (focus (simp only [resOf, resL, RV.get, push_cast, seval]; rfl)); (focus ((repeat' (first | rfl | (with_reducible first | apply fT_Tapi_Record | apply f_optN | apply f_optS | apply f_some | apply f_tup | apply f_agg | apply f_ptr | apply f_fn | apply dv_slice | apply sv_d | apply f_cons | apply fold_nil | apply fold_cons | apply fold_app | apply f_rowI | apply f_rowY | apply f_rowS | apply f_rowB | apply f_rowL) | (with_reducible apply f_byte; decide))); done))) | ((with_reducible apply K_leave hm); intro r hm) | ((with_reducible apply K_leaveR hm); intro r hm) | ((apply S_loopY (b := 0) (X := sc_slices_Equal_interchange_api_Record_interchange_api_Record_B1) (x := sc_slices_Equal_interchange_api_Record_interchange_api_Record_L1) rfl (fun (c : SV × SV × SV) (s : Int) => st [(0, c.1), (1, c.2.1), (12, c.2.2), (13, .d (.int .i64 s))] []) (c := (_, _, _)) (s0 := _) hm); (focus (first | (dsimp only; done) | (dsimp only; rfl) | rfl)); (with_reducible refine Then.mk ?_ ?_)) | ((apply K_next (s' := _) hm); (focus (first | (dsimp only; done) | (dsimp only; rfl) | rfl))) | ((apply K_brk (s' := _) hm); (focus (first | (dsimp only; done) | (dsimp only; rfl) | rfl))) | (((with_reducible apply K_brkN hm); (focus decide); intro r hm)) | (((with_reducible apply K_brkR hm); intro r hm)) | (((with_reducible apply LoopB.of); (focus (first | (dsimp only; done) | (dsimp only; rfl) | rfl)); (focus ((intro _; repeat' (first | with_reducible exact impC_end | with_reducible exact impC_endF | with_reducible refine impC_seq ?_ | with_reducible refine impC_block ?_ | ((with_reducible refine impC_rnd ?_); intro _) | ((with_reducible refine impC_brk ?_); intro _))))); (intro s o hm; first | unfold sc_slices_Equal_interchange_api_Record_interchange_api_Record_L1); rotate_left; intro s hm)) | (((apply imp_stT; (repeat' (first | with_reducible exact keepT_nil | with_reducible exact keepC_nil | with_reducible apply keepT_cons | with_reducible apply keepC_cons | ((with_reducible apply svle_eq); (focus (first | (simp only [push_cast, seval]; rfl) | rfl)); (focus ((repeat' (first | rfl | (with_reducible first | apply fT_Tapi_Record | apply f_optN | apply f_optS | apply f_some | apply f_tup | apply f_agg | apply f_ptr | apply f_fn | apply dv_slice | apply sv_d | apply f_cons | apply fold_nil | apply fold_cons | apply fold_app | apply f_rowI | apply f_rowY | apply f_rowS | apply f_rowB | apply f_rowL) | (with_reducible apply f_byte; decide))); done))) | ((with_reducible apply svle_td); (focus (first | (simp only [push_cast, seval]; rfl) | rfl)); (focus (first | (simp only [push_cast, seval]; rfl) | rfl)); (focus ((repeat' (first | rfl | (with_reducible first | apply fT_Tapi_Record | apply f_optN | apply f_optS | apply f_some | apply f_tup | apply f_agg | apply f_ptr | apply f_fn | apply dv_slice | apply sv_d | apply f_cons | apply fold_nil | apply fold_cons | apply fold_app | apply f_rowI | apply f_rowY | apply f_rowS | apply f_rowB | apply f_rowL) | (with_reducible apply f_byte; decide))); done))) | ((with_reducible apply chle_eq); (focus (first | (simp only [push_cast, seval]; rfl) | rfl)); (first | with_reducible exact chle_rfl rfl | with_reducible exact chle_map0 | with_reducible apply chle_vec | with_reducible apply chle_box)) | (with_reducible first | apply cT_Tapi_Record | apply r_shS | apply r_shI | apply r_rflO | apply r_oneO | apply r_appO | apply r_nilO | apply c_ownN | apply c_ownL | apply vc_rfl | apply vc_nil | apply vc_cons | apply r_rfl | apply r_rows | apply r_nil | apply r_app | apply r_cons | apply c_rowI | apply c_rowY | apply c_rowS | apply c_rowB | apply c_rowL))); done))))
noncomputable def m_slices_Equal_interchange_api_Record_interchange_api_Record (x0 : List Tapi_Record) (x1 : List Tapi_Record) : Option (Bool) := (sims_G1_0_15 x0 x1).1
theorem spec_slices_Equal_interchange_api_Record_interchange_api_Record (x0 : List Tapi_Record) (x1 : List Tapi_Record) : ∀ r, m_slices_Equal_interchange_api_Record_interchange_api_Record x0 x1 = some r → PureSpec Tryz.prog 7 [.slice (List.map rTapi_Record x0), .slice (List.map rTapi_Record x1)] (.bool r) := (sims_G1_0_15 x0 x1).2

/-- interchange/desk.body -/
def sc_desk_body : SC :=
  (.seq (.reg [.r 1 (.boxI (.t 0)),
     .r 2 (.mv (.c (.d (.str []))))])
  (.seq (.regD [.r 3 (.fld 0 (.t 1)),
     .r 4 (.ld1 (.t 3)),
     .c 5 (.f 121) [.t 4],
     .r 6 (.bin .add (.t 5) (.c (.d (.str [32])))),
     .r 7 (.fld 1 (.t 1)),
     .r 8 (.ld1 (.t 7)),
     .r 9 (.bin .add (.t 6) (.t 8)),
     .r 10 (.bin .add (.t 9) (.c (.d (.str [32])))),
     .r 11 (.fld 2 (.t 1)),
     .r 12 (.ld1 (.t 11)),
     .r 13 (.bin .add (.t 10) (.t 12)),
     .r 14 (.bin .add (.t 13) (.c (.d (.str [32])))),
     .r 15 (.fld 3 (.t 1)),
     .r 16 (.ld1 (.t 15)),
     .r 17 (.bin .add (.t 14) (.t 16)),
     .r 2 (.mv (.t 17))])
  .ret))
theorem fit_desk_body : fits Tryz.prog 87 Tryz.f87 sc_desk_body [.t 2] 1 = true := by kernel_rfl

set_option maxRecDepth 100000 in
set_option maxHeartbeats 40000000 in
noncomputable def sims_G1_0_16 : (∀ (x0 : Tapi_Record), {m : Option ((List UInt8)) // ∀ r, m = some r → PureSpec Tryz.prog 87 [.agg (rTapi_Record x0)] (.str r)}) := by
  (intro x0; apply Subtype.mk; intro r hm; apply pure_walk Tryz.func87 fit_desk_body; unfold sc_desk_body)
  repeat' (first | with_reducible refine W_seq ?_ | with_reducible refine W_reg ?_ | with_reducible refine W_regD ?_ | with_reducible refine W_block ?_ | with_reducible refine W_skip ?_ | with_reducible refine W_ret ?_ | with_reducible refine W_exit ?_ | with_reducible refine O_nil ?_ | with_reducible refine K_seq ?_ | with_reducible refine K_seqE ?_ | with_reducible refine K_seqR ?_ | with_reducible refine K_block ?_ | with_reducible refine K_blockR ?_ | with_reducible refine K_blockE ?_ | ((with_reducible apply K_blockN); decide) | ((with_reducible apply O_r); (simp only [push_cast, seval]; rfl); (first | exact trivial | omega)) | ((with_reducible apply O_strr hm); (iterate 2 (simp only [push_cast, seval]; rfl)); intro hm) | ((with_reducible apply W_condT); (focus (simp only [push_cast, seval]; done))) | ((with_reducible apply W_condF); (focus (simp only [push_cast, seval]; done))) | ((with_reducible apply O_cF hm); (simp only [push_cast, seval]; rfl); (first | apply spec_strconv_Itoa _); (any_goals ((repeat' (first | rfl | (with_reducible first | apply fT_Tapi_Record | apply f_optN | apply f_optS | apply f_some | apply f_tup | apply f_agg | apply f_ptr | apply f_fn | apply dv_slice | apply sv_d | apply f_cons | apply fold_nil | apply fold_cons | apply fold_app | apply f_rowI | apply f_rowY | apply f_rowS | apply f_rowB | apply f_rowL) | (with_reducible apply f_byte; decide))); done)); intro x hm) | ((with_reducible apply S_condB hm); (simp only [push_cast, seval]; rfl); intro hm; rotate_left; intro hm) | ((with_reducible apply K_endS hm); (focus (simp only [resOf, resL, RV.get, push_cast, seval]; rfl)); (focus ((repeat' (first | rfl | (with_reducible first | apply fT_Tapi_Record | apply f_optN | apply f_optS | apply f_some | apply f_tup | apply f_agg | apply f_ptr | apply f_fn | apply dv_slice | apply sv_d | apply f_cons | apply fold_nil | apply fold_cons | apply fold_app | apply f_rowI | apply f_rowY | apply f_rowS | apply f_rowB | apply f_rowL) | (with_reducible apply f_byte; decide))); done))))
noncomputable def m_desk_body (x0 : Tapi_Record) : Option ((List UInt8)) := (sims_G1_0_16 x0).1
theorem spec_desk_body (x0 : Tapi_Record) : ∀ r, m_desk_body x0 = some r → PureSpec Tryz.prog 87 [.agg (rTapi_Record x0)] (.str r) := (sims_G1_0_16 x0).2

/-- slices.Contains[[]string,string] -/
def sc_slices_Contains_string_string : SC :=
  (.seq (.reg [.r 4 (.mv (.c (.d (.bool false))))])
  (.seq (.reg [.r 5 (.mv (.t 0)),
     .r 6 (.mv (.t 1)),
     .c 7 (.f 105) [.t 5, .t 6],
     .r 8 (.bin .geq (.t 7) (.c (.d (.int .i64 0)))),
     .r 4 (.mv (.t 8))])
  .ret))
theorem fit_slices_Contains_string_string : fits Tryz.prog 71 Tryz.f71 sc_slices_Contains_string_string [.t 4] 2 = true := by kernel_rfl

set_option maxRecDepth 100000 in
set_option maxHeartbeats 40000000 in
noncomputable def sims_G1_1_0 : (∀ (x0 : List (List UInt8)) (x1 : List UInt8), {m : Option (Bool) // ∀ r, m = some r → PureSpec Tryz.prog 71 [.slice (List.map rowS x0), .str x1] (.bool r)}) := by
  (intro x0 x1; apply Subtype.mk; intro r hm; apply pure_walk Tryz.func71 fit_slices_Contains_string_string; unfold sc_slices_Contains_string_string)
  repeat' (first | with_reducible refine W_seq ?_ | with_reducible refine W_reg ?_ | with_reducible refine W_block ?_ | with_reducible refine W_skip ?_ | with_reducible refine W_ret ?_ | with_reducible refine W_exit ?_ | with_reducible refine O_nil ?_ | with_reducible refine K_seq ?_ | with_reducible refine K_seqE ?_ | with_reducible refine K_seqR ?_ | with_reducible refine K_block ?_ | with_reducible refine K_blockR ?_ | with_reducible refine K_blockE ?_ | ((with_reducible apply K_blockN); decide) | ((with_reducible apply O_r); (simp only [push_cast, seval]; rfl); (first | exact trivial | omega)) | ((with_reducible apply W_condT); (focus (simp only [push_cast, seval]; done))) | ((with_reducible apply W_condF); (focus (simp only [push_cast, seval]; done))) | ((with_reducible apply O_cF hm); (simp only [push_cast, seval]; rfl); (first | apply spec_slices_Index_string_string _ _); (any_goals ((repeat' (first | rfl | (with_reducible first | apply f_optN | apply f_optS | apply f_some | apply f_tup | apply f_agg | apply f_ptr | apply f_fn | apply dv_slice | apply sv_d | apply f_cons | apply fold_nil | apply fold_cons | apply fold_app | apply f_rowI | apply f_rowY | apply f_rowS | apply f_rowB | apply f_rowL) | (with_reducible apply f_byte; decide))); done)); intro x hm) | ((with_reducible apply S_condB hm); (simp only [push_cast, seval]; rfl); intro hm; rotate_left; intro hm) | ((with_reducible apply K_endS hm); (focus (simp only [resOf, resL, RV.get, push_cast, seval]; rfl)); (focus ((repeat' (first | rfl | (with_reducible first | apply f_optN | apply f_optS | apply f_some | apply f_tup | apply f_agg | apply f_ptr | apply f_fn | apply dv_slice | apply sv_d | apply f_cons | apply fold_nil | apply fold_cons | apply fold_app | apply f_rowI | apply f_rowY | apply f_rowS | apply f_rowB | apply f_rowL) | (with_reducible apply f_byte; decide))); done))))
noncomputable def m_slices_Contains_string_string (x0 : List (List UInt8)) (x1 : List UInt8) : Option (Bool) := (sims_G1_1_0 x0 x1).1
theorem spec_slices_Contains_string_string (x0 : List (List UInt8)) (x1 : List UInt8) : ∀ r, m_slices_Contains_string_string x0 x1 = some r → PureSpec Tryz.prog 71 [.slice (List.map rowS x0), .str x1] (.bool r) := (sims_G1_1_0 x0 x1).2

/-- slices.ContainsFunc[[]string,string] -/
def sc_slices_ContainsFunc_string_string : SC :=
  (.seq (.reg [.r 4 (.mv (.c (.d (.bool false))))])
  (.seq (.reg [.r 5 (.mv (.t 0)),
     .r 6 (.mv (.t 1)),
     .c 7 (.f 72) [.t 5, .t 6],
     .r 8 (.bin .geq (.t 7) (.c (.d (.int .i64 0)))),
     .r 4 (.mv (.t 8))])
  .ret))
theorem fit_slices_ContainsFunc_string_string : fits Tryz.prog 40 Tryz.f40 sc_slices_ContainsFunc_string_string [.t 4] 2 = true := by kernel_rfl

set_option maxRecDepth 100000 in
set_option maxHeartbeats 40000000 in
noncomputable def sims_G1_1_1 : (∀ (x0 : List (List UInt8)) (f1 : FuncId) (c1 : List DV) (p1 : (List UInt8) → Option (Bool)) (h1 : ∀ a0 r, p1 a0 = some r → PureSpec Tryz.prog f1 ([.str a0] ++ c1) (.bool r)), {m : Option (Bool) // ∀ r, m = some r → PureSpec Tryz.prog 40 [.slice (List.map rowS x0), .fn f1 c1] (.bool r)}) := by
  (intro x0 f1 c1 p1 h1; apply Subtype.mk; intro r hm; apply pure_walk Tryz.func40 fit_slices_ContainsFunc_string_string; unfold sc_slices_ContainsFunc_string_string)
  repeat' (first | with_reducible refine W_seq ?_ | with_reducible refine W_reg ?_ | with_reducible refine W_block ?_ | with_reducible refine W_skip ?_ | with_reducible refine W_ret ?_ | with_reducible refine W_exit ?_ | with_reducible refine O_nil ?_ | with_reducible refine K_seq ?_ | with_reducible refine K_seqE ?_ | with_reducible refine K_seqR ?_ | with_reducible refine K_block ?_ | with_reducible refine K_blockR ?_ | with_reducible refine K_blockE ?_ | ((with_reducible apply K_blockN); decide) | ((with_reducible apply O_r); (simp only [push_cast, seval]; rfl); (first | exact trivial | omega)) | ((with_reducible apply W_condT); (focus (simp only [push_cast, seval]; done))) | ((with_reducible apply W_condF); (focus (simp only [push_cast, seval]; done))) | ((with_reducible apply O_cF hm); (simp only [push_cast, seval]; rfl); (first | apply spec_slices_IndexFunc_string_string _ _ _ _ h1 | apply h1 _); (any_goals ((repeat' (first | rfl | (with_reducible first | apply f_optN | apply f_optS | apply f_some | apply f_tup | apply f_agg | apply f_ptr | apply f_fn | apply dv_slice | apply sv_d | apply f_cons | apply fold_nil | apply fold_cons | apply fold_app | apply f_rowI | apply f_rowY | apply f_rowS | apply f_rowB | apply f_rowL) | (with_reducible apply f_byte; decide))); done)); intro x hm) | ((with_reducible apply S_condB hm); (simp only [push_cast, seval]; rfl); intro hm; rotate_left; intro hm) | ((with_reducible apply K_endS hm); (focus (simp only [resOf, resL, RV.get, push_cast, seval]; rfl)); (focus ((repeat' (first | rfl | (with_reducible first | apply f_optN | apply f_optS | apply f_some | apply f_tup | apply f_agg | apply f_ptr | apply f_fn | apply dv_slice | apply sv_d | apply f_cons | apply fold_nil | apply fold_cons | apply fold_app | apply f_rowI | apply f_rowY | apply f_rowS | apply f_rowB | apply f_rowL) | (with_reducible apply f_byte; decide))); done))))
noncomputable def m_slices_ContainsFunc_string_string (x0 : List (List UInt8)) (f1 : FuncId) (c1 : List DV) (p1 : (List UInt8) → Option (Bool)) (h1 : ∀ a0 r, p1 a0 = some r → PureSpec Tryz.prog f1 ([.str a0] ++ c1) (.bool r)) : Option (Bool) := (sims_G1_1_1 x0 f1 c1 p1 h1).1
theorem spec_slices_ContainsFunc_string_string (x0 : List (List UInt8)) (f1 : FuncId) (c1 : List DV) (p1 : (List UInt8) → Option (Bool)) (h1 : ∀ a0 r, p1 a0 = some r → PureSpec Tryz.prog f1 ([.str a0] ++ c1) (.bool r)) : ∀ r, m_slices_ContainsFunc_string_string x0 f1 c1 p1 h1 = some r → PureSpec Tryz.prog 40 [.slice (List.map rowS x0), .fn f1 c1] (.bool r) := (sims_G1_1_1 x0 f1 c1 p1 h1).2

/-- interchange/desk.readRecord$1 -/
def sc_desk_readRecord_1 : SC :=
  (.seq (.reg [.r 2 (.mv (.c (.d (.bool false))))])
  (.seq (.reg [.r 3 (.mv (.t 0)),
     .c 4 (.f 42) [.t 3, .c (.d (.int .u8 33)), .c (.d (.int .u8 126))],
     .r 5 (.not (.t 4)),
     .r 2 (.mv (.t 5))])
  .ret))
theorem fit_desk_readRecord_1 : fits Tryz.prog 41 Tryz.f41 sc_desk_readRecord_1 [.t 2] 1 = true := by kernel_rfl

set_option maxRecDepth 100000 in
set_option maxHeartbeats 40000000 in
noncomputable def sims_G1_1_2 : (∀ (x0 : List UInt8), {m : Option (Bool) // ∀ r, m = some r → PureSpec Tryz.prog 41 [.str x0] (.bool r)}) := by
  (intro x0; apply Subtype.mk; intro r hm; apply pure_walk Tryz.func41 fit_desk_readRecord_1; unfold sc_desk_readRecord_1)
  repeat' (first | with_reducible refine W_seq ?_ | with_reducible refine W_reg ?_ | with_reducible refine W_block ?_ | with_reducible refine W_skip ?_ | with_reducible refine W_ret ?_ | with_reducible refine W_exit ?_ | with_reducible refine O_nil ?_ | with_reducible refine K_seq ?_ | with_reducible refine K_seqE ?_ | with_reducible refine K_seqR ?_ | with_reducible refine K_block ?_ | with_reducible refine K_blockR ?_ | with_reducible refine K_blockE ?_ | ((with_reducible apply K_blockN); decide) | ((with_reducible apply O_r); (simp only [push_cast, seval]; rfl); (first | exact trivial | omega)) | ((with_reducible apply W_condT); (focus (simp only [push_cast, seval]; done))) | ((with_reducible apply W_condF); (focus (simp only [push_cast, seval]; done))) | ((with_reducible apply O_cF hm); (simp only [push_cast, seval]; rfl); (first | apply spec_kit_InBytes _ _ _); (any_goals ((repeat' (first | rfl | (with_reducible first | apply f_optN | apply f_optS | apply f_some | apply f_tup | apply f_agg | apply f_ptr | apply f_fn | apply dv_slice | apply sv_d | apply f_cons | apply fold_nil | apply fold_cons | apply fold_app | apply f_rowI | apply f_rowY | apply f_rowS | apply f_rowB | apply f_rowL) | (with_reducible apply f_byte; decide))); done)); intro x hm) | ((with_reducible apply S_condB hm); (simp only [push_cast, seval]; rfl); intro hm; rotate_left; intro hm) | ((with_reducible apply K_endS hm); (focus (simp only [resOf, resL, RV.get, push_cast, seval]; rfl)); (focus ((repeat' (first | rfl | (with_reducible first | apply f_optN | apply f_optS | apply f_some | apply f_tup | apply f_agg | apply f_ptr | apply f_fn | apply dv_slice | apply sv_d | apply f_cons | apply fold_nil | apply fold_cons | apply fold_app | apply f_rowI | apply f_rowY | apply f_rowS | apply f_rowB | apply f_rowL) | (with_reducible apply f_byte; decide))); done))))
noncomputable def m_desk_readRecord_1 (x0 : List UInt8) : Option (Bool) := (sims_G1_1_2 x0).1
theorem spec_desk_readRecord_1 (x0 : List UInt8) : ∀ r, m_desk_readRecord_1 x0 = some r → PureSpec Tryz.prog 41 [.str x0] (.bool r) := (sims_G1_1_2 x0).2

/-- interchange/kit.IsDigits -/
def sc_kit_IsDigits : SC :=
  (.seq (.reg [.r 2 (.mv (.c (.d (.bool false))))])
  (.seq (.reg (.r 3 (.mv (.t 0)) :: .r 4 (.bin .neq (.t 3) (.c (.d (.str [])))) :: .r 5 (.mv (.t 4)) :: gapp [6, 7] 5 true (.r 6 (.mv (.t 0)) :: .c 7 (.f 42) [.t 6, .c (.d (.int .u8 48)), .c (.d (.int .u8 57))] :: []) (.r 8 (.pick (.t 5) (.t 7) (.c (.d (.bool false)))) :: .r 2 (.mv (.t 8)) :: [])))
  .ret))
theorem fit_kit_IsDigits : fits Tryz.prog 73 Tryz.f73 sc_kit_IsDigits [.t 2] 1 = true := by kernel_rfl

set_option maxRecDepth 100000 in
set_option maxHeartbeats 40000000 in
noncomputable def sims_G1_1_3 : (∀ (x0 : List UInt8), {m : Option (Bool) // ∀ r, m = some r → PureSpec Tryz.prog 73 [.str x0] (.bool r)}) := by
  (intro x0; apply Subtype.mk; intro r hm; apply pure_walk Tryz.func73 fit_kit_IsDigits; unfold sc_kit_IsDigits)
  repeat' (first | with_reducible refine W_seq ?_ | with_reducible refine W_reg ?_ | with_reducible refine W_block ?_ | with_reducible refine W_skip ?_ | with_reducible refine W_ret ?_ | with_reducible refine W_exit ?_ | with_reducible refine O_nil ?_ | with_reducible refine K_seq ?_ | with_reducible refine K_seqE ?_ | with_reducible refine K_seqR ?_ | with_reducible refine K_block ?_ | with_reducible refine K_blockR ?_ | with_reducible refine K_blockE ?_ | ((with_reducible apply K_blockN); decide) | ((with_reducible apply O_r); (simp only [push_cast, seval]; rfl); (first | exact trivial | omega)) | ((with_reducible apply O_and hm); (simp only [push_cast, seval]; rfl); rfl; intro v hm; rotate_left; intro v g hm) | ((with_reducible apply W_condT); (focus (simp only [push_cast, seval]; done))) | ((with_reducible apply W_condF); (focus (simp only [push_cast, seval]; done))) | ((with_reducible apply O_cF hm); (simp only [push_cast, seval]; rfl); (first | apply spec_kit_InBytes _ _ _); (any_goals ((repeat' (first | rfl | (with_reducible first | apply f_optN | apply f_optS | apply f_some | apply f_tup | apply f_agg | apply f_ptr | apply f_fn | apply dv_slice | apply sv_d | apply f_cons | apply fold_nil | apply fold_cons | apply fold_app | apply f_rowI | apply f_rowY | apply f_rowS | apply f_rowB | apply f_rowL) | (with_reducible apply f_byte; decide))); done)); intro x hm) | ((with_reducible apply S_condB hm); (simp only [push_cast, seval]; rfl); intro hm; rotate_left; intro hm) | ((with_reducible apply K_endS hm); (focus (simp only [resOf, resL, RV.get, push_cast, seval]; rfl)); (focus ((repeat' (first | rfl | (with_reducible first | apply f_optN | apply f_optS | apply f_some | apply f_tup | apply f_agg | apply f_ptr | apply f_fn | apply dv_slice | apply sv_d | apply f_cons | apply fold_nil | apply fold_cons | apply fold_app | apply f_rowI | apply f_rowY | apply f_rowS | apply f_rowB | apply f_rowL) | (with_reducible apply f_byte; decide))); done))) | ((with_reducible apply K_bool hm); (simp only [push_cast, seval]; rfl)))
noncomputable def m_kit_IsDigits (x0 : List UInt8) : Option (Bool) := (sims_G1_1_3 x0).1
theorem spec_kit_IsDigits (x0 : List UInt8) : ∀ r, m_kit_IsDigits x0 = some r → PureSpec Tryz.prog 73 [.str x0] (.bool r) := (sims_G1_1_3 x0).2

/-- interchange/kit.IsMoment -/
def sc_kit_IsMoment : SC :=
  (.seq (.reg [.r 2 (.mv (.c (.d (.bool false))))])
  (.seq (.reg [.r 3 (.mv (.t 0)),
     .c 4 (.f 53) [.t 3, .c (.d (.int .i64 0)), .c (.d (.int .i64 1000000000000000))],
     .r 5 (.not (.t 4)),
     .r 2 (.mv (.t 5))])
  .ret))
theorem fit_kit_IsMoment : fits Tryz.prog 108 Tryz.f108 sc_kit_IsMoment [.t 2] 1 = true := by kernel_rfl

set_option maxRecDepth 100000 in
set_option maxHeartbeats 40000000 in
noncomputable def sims_G1_1_4 : (∀ (x0 : Int), {m : Option (Bool) // ∀ r, m = some r → PureSpec Tryz.prog 108 [.int .i64 x0] (.bool r)}) := by
  (intro x0; apply Subtype.mk; intro r hm; apply pure_walk Tryz.func108 fit_kit_IsMoment; unfold sc_kit_IsMoment)
  repeat' (first | with_reducible refine W_seq ?_ | with_reducible refine W_reg ?_ | with_reducible refine W_block ?_ | with_reducible refine W_skip ?_ | with_reducible refine W_ret ?_ | with_reducible refine W_exit ?_ | with_reducible refine O_nil ?_ | with_reducible refine K_seq ?_ | with_reducible refine K_seqE ?_ | with_reducible refine K_seqR ?_ | with_reducible refine K_block ?_ | with_reducible refine K_blockR ?_ | with_reducible refine K_blockE ?_ | ((with_reducible apply K_blockN); decide) | ((with_reducible apply O_r); (simp only [push_cast, seval]; rfl); (first | exact trivial | omega)) | ((with_reducible apply W_condT); (focus (simp only [push_cast, seval]; done))) | ((with_reducible apply W_condF); (focus (simp only [push_cast, seval]; done))) | ((with_reducible apply O_cF hm); (simp only [push_cast, seval]; rfl); (first | apply spec_kit_Outside _ _ _); (any_goals ((repeat' (first | rfl | (with_reducible first | apply f_optN | apply f_optS | apply f_some | apply f_tup | apply f_agg | apply f_ptr | apply f_fn | apply dv_slice | apply sv_d | apply f_cons | apply fold_nil | apply fold_cons | apply fold_app | apply f_rowI | apply f_rowY | apply f_rowS | apply f_rowB | apply f_rowL) | (with_reducible apply f_byte; decide))); done)); intro x hm) | ((with_reducible apply S_condB hm); (simp only [push_cast, seval]; rfl); intro hm; rotate_left; intro hm) | ((with_reducible apply K_endS hm); (focus (simp only [resOf, resL, RV.get, push_cast, seval]; rfl)); (focus ((repeat' (first | rfl | (with_reducible first | apply f_optN | apply f_optS | apply f_some | apply f_tup | apply f_agg | apply f_ptr | apply f_fn | apply dv_slice | apply sv_d | apply f_cons | apply fold_nil | apply fold_cons | apply fold_app | apply f_rowI | apply f_rowY | apply f_rowS | apply f_rowB | apply f_rowL) | (with_reducible apply f_byte; decide))); done))))
noncomputable def m_kit_IsMoment (x0 : Int) : Option (Bool) := (sims_G1_1_4 x0).1
theorem spec_kit_IsMoment (x0 : Int) : ∀ r, m_kit_IsMoment x0 = some r → PureSpec Tryz.prog 108 [.int .i64 x0] (.bool r) := (sims_G1_1_4 x0).2

/-- interchange/interchangeref12.isWord -/
def sc_interchangeref12_isWord : SC :=
  (.seq (.reg [.r 2 (.mv (.c (.d (.bool false))))])
  (.seq (.reg (.r 3 (.mv (.t 0)) :: .r 4 (.bin .neq (.t 3) (.c (.d (.str [])))) :: .r 5 (.mv (.t 4)) :: gapp [6, 7] 5 true (.r 6 (.mv (.t 0)) :: .c 7 (.f 80) [.t 6, .c (.d (.int .u8 33))] :: []) (.r 8 (.pick (.t 5) (.t 7) (.c (.d (.bool false)))) :: .r 2 (.mv (.t 8)) :: [])))
  .ret))
theorem fit_interchangeref12_isWord : fits Tryz.prog 48 Tryz.f48 sc_interchangeref12_isWord [.t 2] 1 = true := by kernel_rfl

set_option maxRecDepth 100000 in
set_option maxHeartbeats 40000000 in
noncomputable def sims_G1_1_5 : (∀ (x0 : List UInt8), {m : Option (Bool) // ∀ r, m = some r → PureSpec Tryz.prog 48 [.str x0] (.bool r)}) := by
  (intro x0; apply Subtype.mk; intro r hm; apply pure_walk Tryz.func48 fit_interchangeref12_isWord; unfold sc_interchangeref12_isWord)
  repeat' (first | with_reducible refine W_seq ?_ | with_reducible refine W_reg ?_ | with_reducible refine W_block ?_ | with_reducible refine W_skip ?_ | with_reducible refine W_ret ?_ | with_reducible refine W_exit ?_ | with_reducible refine O_nil ?_ | with_reducible refine K_seq ?_ | with_reducible refine K_seqE ?_ | with_reducible refine K_seqR ?_ | with_reducible refine K_block ?_ | with_reducible refine K_blockR ?_ | with_reducible refine K_blockE ?_ | ((with_reducible apply K_blockN); decide) | ((with_reducible apply O_r); (simp only [push_cast, seval]; rfl); (first | exact trivial | omega)) | ((with_reducible apply O_and hm); (simp only [push_cast, seval]; rfl); rfl; intro v hm; rotate_left; intro v g hm) | ((with_reducible apply W_condT); (focus (simp only [push_cast, seval]; done))) | ((with_reducible apply W_condF); (focus (simp only [push_cast, seval]; done))) | ((with_reducible apply O_cF hm); (simp only [push_cast, seval]; rfl); (first | apply spec_interchangeref12_bytesWithin _ _); (any_goals ((repeat' (first | rfl | (with_reducible first | apply f_optN | apply f_optS | apply f_some | apply f_tup | apply f_agg | apply f_ptr | apply f_fn | apply dv_slice | apply sv_d | apply f_cons | apply fold_nil | apply fold_cons | apply fold_app | apply f_rowI | apply f_rowY | apply f_rowS | apply f_rowB | apply f_rowL) | (with_reducible apply f_byte; decide))); done)); intro x hm) | ((with_reducible apply S_condB hm); (simp only [push_cast, seval]; rfl); intro hm; rotate_left; intro hm) | ((with_reducible apply K_endS hm); (focus (simp only [resOf, resL, RV.get, push_cast, seval]; rfl)); (focus ((repeat' (first | rfl | (with_reducible first | apply f_optN | apply f_optS | apply f_some | apply f_tup | apply f_agg | apply f_ptr | apply f_fn | apply dv_slice | apply sv_d | apply f_cons | apply fold_nil | apply fold_cons | apply fold_app | apply f_rowI | apply f_rowY | apply f_rowS | apply f_rowB | apply f_rowL) | (with_reducible apply f_byte; decide))); done))) | ((with_reducible apply K_bool hm); (simp only [push_cast, seval]; rfl)))
noncomputable def m_interchangeref12_isWord (x0 : List UInt8) : Option (Bool) := (sims_G1_1_5 x0).1
theorem spec_interchangeref12_isWord (x0 : List UInt8) : ∀ r, m_interchangeref12_isWord x0 = some r → PureSpec Tryz.prog 48 [.str x0] (.bool r) := (sims_G1_1_5 x0).2

/-- internal/stringslite.TrimPrefix -/
def sc_internal_stringslite_TrimPrefix : SC :=
  (.seq (.reg [.r 4 (.mv (.c (.d (.str []))))])
  (.seq (.seq (.reg [.r 5 (.mv (.t 0)),
     .r 6 (.mv (.t 1)),
     .c 7 (.f 82) [.t 5, .t 6]])
  (.cond (.t 7)
    (.seq (.reg [.r 8 (.mv (.t 0)),
       .r 9 (.mv (.t 1)),
       .r 10 (.lenT (.t 9)),
       .r 11 (.sslc (.t 8) (some (.t 10)) none),
       .r 4 (.mv (.t 11))])
    .ret)
    .skip))
  (.seq (.reg [.r 12 (.mv (.t 0)),
     .r 4 (.mv (.t 12))])
  .ret)))
theorem fit_internal_stringslite_TrimPrefix : fits Tryz.prog 81 Tryz.f81 sc_internal_stringslite_TrimPrefix [.t 4] 2 = true := by kernel_rfl

set_option maxRecDepth 100000 in
set_option maxHeartbeats 40000000 in
noncomputable def sims_G1_1_6 : (∀ (x0 : List UInt8) (x1 : List UInt8), {m : Option ((List UInt8)) // ∀ r, m = some r → PureSpec Tryz.prog 81 [.str x0, .str x1] (.str r)}) := by
  (intro x0 x1; apply Subtype.mk; intro r hm; apply pure_walk Tryz.func81 fit_internal_stringslite_TrimPrefix; unfold sc_internal_stringslite_TrimPrefix)
  repeat' (first | with_reducible refine W_seq ?_ | with_reducible refine W_reg ?_ | with_reducible refine W_block ?_ | with_reducible refine W_skip ?_ | with_reducible refine W_ret ?_ | with_reducible refine W_exit ?_ | with_reducible refine O_nil ?_ | with_reducible refine K_seq ?_ | with_reducible refine K_seqE ?_ | with_reducible refine K_seqR ?_ | with_reducible refine K_block ?_ | with_reducible refine K_blockR ?_ | with_reducible refine K_blockE ?_ | ((with_reducible apply K_blockN); decide) | ((with_reducible apply O_sslcr hm); (iterate 3 (simp only [push_cast, seval]; rfl)); intro e hm) | ((with_reducible apply O_r); (simp only [push_cast, seval]; rfl); (first | exact trivial | omega)) | ((with_reducible apply W_condT); (focus (simp only [push_cast, seval]; done))) | ((with_reducible apply W_condF); (focus (simp only [push_cast, seval]; done))) | ((with_reducible apply O_cF hm); (simp only [push_cast, seval]; rfl); (first | apply spec_internal_stringslite_HasPrefix _ _); (any_goals ((repeat' (first | rfl | (with_reducible first | apply f_optN | apply f_optS | apply f_some | apply f_tup | apply f_agg | apply f_ptr | apply f_fn | apply dv_slice | apply sv_d | apply f_cons | apply fold_nil | apply fold_cons | apply fold_app | apply f_rowI | apply f_rowY | apply f_rowS | apply f_rowB | apply f_rowL) | (with_reducible apply f_byte; decide))); done)); intro x hm) | ((with_reducible apply S_condB hm); (simp only [push_cast, seval]; rfl); intro hm; rotate_left; intro hm) | ((with_reducible apply K_endS hm); (focus (simp only [resOf, resL, RV.get, push_cast, seval]; rfl)); (focus ((repeat' (first | rfl | (with_reducible first | apply f_optN | apply f_optS | apply f_some | apply f_tup | apply f_agg | apply f_ptr | apply f_fn | apply dv_slice | apply sv_d | apply f_cons | apply fold_nil | apply fold_cons | apply fold_app | apply f_rowI | apply f_rowY | apply f_rowS | apply f_rowB | apply f_rowL) | (with_reducible apply f_byte; decide))); done))))
noncomputable def m_internal_stringslite_TrimPrefix (x0 : List UInt8) (x1 : List UInt8) : Option ((List UInt8)) := (sims_G1_1_6 x0 x1).1
theorem spec_internal_stringslite_TrimPrefix (x0 : List UInt8) (x1 : List UInt8) : ∀ r, m_internal_stringslite_TrimPrefix x0 x1 = some r → PureSpec Tryz.prog 81 [.str x0, .str x1] (.str r) := (sims_G1_1_6 x0 x1).2

/-- strings.HasPrefix -/
def sc_strings_HasPrefix : SC :=
  (.seq (.reg [.r 4 (.mv (.c (.d (.bool false))))])
  (.seq (.reg [.r 5 (.mv (.t 0)),
     .r 6 (.mv (.t 1)),
     .c 7 (.f 82) [.t 5, .t 6],
     .r 4 (.mv (.t 7))])
  .ret))
theorem fit_strings_HasPrefix : fits Tryz.prog 51 Tryz.f51 sc_strings_HasPrefix [.t 4] 2 = true := by kernel_rfl

set_option maxRecDepth 100000 in
set_option maxHeartbeats 40000000 in
noncomputable def sims_G1_1_7 : (∀ (x0 : List UInt8) (x1 : List UInt8), {m : Option (Bool) // ∀ r, m = some r → PureSpec Tryz.prog 51 [.str x0, .str x1] (.bool r)}) := by
  (intro x0 x1; apply Subtype.mk; intro r hm; apply pure_walk Tryz.func51 fit_strings_HasPrefix; unfold sc_strings_HasPrefix)
  repeat' (first | with_reducible refine W_seq ?_ | with_reducible refine W_reg ?_ | with_reducible refine W_block ?_ | with_reducible refine W_skip ?_ | with_reducible refine W_ret ?_ | with_reducible refine W_exit ?_ | with_reducible refine O_nil ?_ | with_reducible refine K_seq ?_ | with_reducible refine K_seqE ?_ | with_reducible refine K_seqR ?_ | with_reducible refine K_block ?_ | with_reducible refine K_blockR ?_ | with_reducible refine K_blockE ?_ | ((with_reducible apply K_blockN); decide) | ((with_reducible apply O_r); (simp only [push_cast, seval]; rfl); (first | exact trivial | omega)) | ((with_reducible apply W_condT); (focus (simp only [push_cast, seval]; done))) | ((with_reducible apply W_condF); (focus (simp only [push_cast, seval]; done))) | ((with_reducible apply O_cS hm); (simp only [push_cast, seval]; rfl); (focus (first | exact spec_internal_stringslite_HasPrefix _ _)); intro x hm) | ((with_reducible apply S_condB hm); (simp only [push_cast, seval]; rfl); intro hm; rotate_left; intro hm) | ((with_reducible apply K_endS hm); (focus (simp only [resOf, resL, RV.get, push_cast, seval]; rfl)); (focus ((repeat' (first | rfl | (with_reducible first | apply f_optN | apply f_optS | apply f_some | apply f_tup | apply f_agg | apply f_ptr | apply f_fn | apply dv_slice | apply sv_d | apply f_cons | apply fold_nil | apply fold_cons | apply fold_app | apply f_rowI | apply f_rowY | apply f_rowS | apply f_rowB | apply f_rowL) | (with_reducible apply f_byte; decide))); done))))
noncomputable def m_strings_HasPrefix (x0 : List UInt8) (x1 : List UInt8) : Option (Bool) := (sims_G1_1_7 x0 x1).1
theorem spec_strings_HasPrefix (x0 : List UInt8) (x1 : List UInt8) : ∀ r, m_strings_HasPrefix x0 x1 = some r → PureSpec Tryz.prog 51 [.str x0, .str x1] (.bool r) := (sims_G1_1_7 x0 x1).2

/-- interchange/interchangeref12.checkFields -/
def sc_interchangeref12_checkFields : SC :=
  (.seq (.reg [.r 8 (.mv (.c (.d (.int .i64 0))))])
  (.seq (.seq (.reg [.r 9 (.mv (.t 0)),
     .c 10 (.f 115) [.t 9, .c (.d (.int .i64 0)), .c (.d (.int .i64 1000000000000000))],
     .r 11 (.not (.t 10))])
  (.cond (.t 11)
    (.seq (.reg [.r 8 (.mv (.c (.d (.int .i64 1))))])
    .ret)
    .skip))
  (.seq (.seq (.reg [.r 12 (.mv (.t 1)),
     .c 13 (.f 62) [.t 12],
     .r 14 (.not (.t 13))])
  (.cond (.t 14)
    (.seq (.reg [.r 8 (.mv (.c (.d (.int .i64 5))))])
    .ret)
    .skip))
  (.seq (.seq (.reg (.r 15 (.mv (.t 2)) :: .r 16 (.lenT (.t 15)) :: .c 17 (.f 115) [.t 16, .c (.d (.int .i64 1)), .c (.d (.int .i64 40))] :: .r 18 (.not (.t 17)) :: .r 19 (.mv (.t 18)) :: gapp [20, 21, 22] 19 false (.r 20 (.mv (.t 2)) :: .c 21 (.f 80) [.t 20, .c (.d (.int .u8 33))] :: .r 22 (.not (.t 21)) :: []) (.r 23 (.pick (.t 19) (.c (.d (.bool true))) (.t 22)) :: [])))
  (.cond (.t 23)
    (.seq (.reg [.r 8 (.mv (.c (.d (.int .i64 3))))])
    .ret)
    .skip))
  (.seq (.seq (.reg [.r 24 (.mv (.t 3)),
     .r 25 (.lenT (.t 24)),
     .r 26 (.bin .gtr (.t 25) (.c (.d (.int .i64 2000))))])
  (.cond (.t 26)
    (.seq (.reg [.r 8 (.mv (.c (.d (.int .i64 2))))])
    .ret)
    .skip))
  (.seq (.seq (.reg [.r 27 (.mv (.t 3)),
     .c 28 (.f 80) [.t 27, .c (.d (.int .u8 32))],
     .r 29 (.not (.t 28))])
  (.cond (.t 29)
    (.seq (.reg [.r 8 (.mv (.c (.d (.int .i64 3))))])
    .ret)
    .skip))
  (.seq (.reg [.r 8 (.mv (.c (.d (.int .i64 0))))])
  .ret)))))))
theorem fit_interchangeref12_checkFields : fits Tryz.prog 83 Tryz.f83 sc_interchangeref12_checkFields [.t 8] 4 = true := by kernel_rfl

set_option maxRecDepth 100000 in
set_option maxHeartbeats 40000000 in
noncomputable def sims_G1_1_8 : (∀ (x0 : Int) (x1 : List UInt8) (x2 : List UInt8) (x3 : List UInt8), {m : Option (Int) // ∀ r, m = some r → PureSpec Tryz.prog 83 [.int .i64 x0, .str x1, .str x2, .str x3] (.int .i64 r)}) := by
  (intro x0 x1 x2 x3; apply Subtype.mk; intro r hm; apply pure_walk Tryz.func83 fit_interchangeref12_checkFields; unfold sc_interchangeref12_checkFields)
  repeat' (first | with_reducible refine W_seq ?_ | with_reducible refine W_reg ?_ | with_reducible refine W_block ?_ | with_reducible refine W_skip ?_ | with_reducible refine W_ret ?_ | with_reducible refine W_exit ?_ | with_reducible refine O_nil ?_ | with_reducible refine K_seq ?_ | with_reducible refine K_seqE ?_ | with_reducible refine K_seqR ?_ | with_reducible refine K_block ?_ | with_reducible refine K_blockR ?_ | with_reducible refine K_blockE ?_ | ((with_reducible apply K_blockN); decide) | ((with_reducible apply O_r); (simp only [push_cast, seval]; rfl); (first | exact trivial | omega)) | ((with_reducible apply O_or hm); (simp only [push_cast, seval]; rfl); rfl; intro v hm; rotate_left; intro v g hm) | ((with_reducible apply W_condT); (focus (simp only [push_cast, seval]; done))) | ((with_reducible apply W_condF); (focus (simp only [push_cast, seval]; done))) | ((with_reducible apply O_cF hm); (simp only [push_cast, seval]; rfl); (first | apply spec_interchangeref12_within _ _ _ | apply spec_interchangeref2_IsName _ | apply spec_interchangeref12_bytesWithin _ _); (any_goals ((repeat' (first | rfl | (with_reducible first | apply f_optN | apply f_optS | apply f_some | apply f_tup | apply f_agg | apply f_ptr | apply f_fn | apply dv_slice | apply sv_d | apply f_cons | apply fold_nil | apply fold_cons | apply fold_app | apply f_rowI | apply f_rowY | apply f_rowS | apply f_rowB | apply f_rowL) | (with_reducible apply f_byte; decide))); done)); intro x hm) | ((with_reducible apply S_condB hm); (simp only [push_cast, seval]; rfl); intro hm; rotate_left; intro hm) | ((with_reducible apply K_endS hm); (focus (simp only [resOf, resL, RV.get, push_cast, seval]; rfl)); (focus ((repeat' (first | rfl | (with_reducible first | apply f_optN | apply f_optS | apply f_some | apply f_tup | apply f_agg | apply f_ptr | apply f_fn | apply dv_slice | apply sv_d | apply f_cons | apply fold_nil | apply fold_cons | apply fold_app | apply f_rowI | apply f_rowY | apply f_rowS | apply f_rowB | apply f_rowL) | (with_reducible apply f_byte; decide))); done))) | ((with_reducible apply K_bool hm); (simp only [push_cast, seval]; rfl)))
noncomputable def m_interchangeref12_checkFields (x0 : Int) (x1 : List UInt8) (x2 : List UInt8) (x3 : List UInt8) : Option (Int) := (sims_G1_1_8 x0 x1 x2 x3).1
theorem spec_interchangeref12_checkFields (x0 : Int) (x1 : List UInt8) (x2 : List UInt8) (x3 : List UInt8) : ∀ r, m_interchangeref12_checkFields x0 x1 x2 x3 = some r → PureSpec Tryz.prog 83 [.int .i64 x0, .str x1, .str x2, .str x3] (.int .i64 r) := (sims_G1_1_8 x0 x1 x2 x3).2

def sc_desk_headOf_L1 : SC :=
  (.seq (.reg [.r 10 (.bin .lss (.t 9) (.t 8))])
  (.seq (.cond (.t 10)
    .skip
    (.exit 0))
  (.seq (.block 1 (.seq (.reg [.r 11 (.idx 6 (.t 7) (.t 9)),
       .o 12 (.ldA 6 (.t 11)),
       .w 5 (.boxM (.c (.agg [.d (.int .i64 0), .d (.str []), .d (.str []), .d (.str []), .d (.bool false), .d (.str [])]))),
       .w 0 (.st 6 (.t 5) (.t 12))])
    (.reg [.r 13 (.mv (.t 3)),
       .r 14 (.bin .add (.t 13) (.c (.d (.str [32])))),
       .o 15 (.ldA 6 (.t 5)),
       .c 16 (.f 87) [.t 15],
       .r 17 (.bin .add (.t 14) (.t 16)),
       .r 18 (.cvsb (.t 17)),
       .c 19 (.f 78) [.t 18],
       .r 3 (.mv (.t 19))])))
  (.reg [.r 20 (.bin .add (.t 9) (.c (.d (.int .i64 1)))),
     .r 9 (.mv (.t 20))]))))
def sc_desk_headOf_B1 : SC := .block 0 (.loop sc_desk_headOf_L1)
/-- interchange/desk.headOf -/
def sc_desk_headOf : SC :=
  (.seq (.reg [.r 2 (.mv (.c (.d (.str []))))])
  (.seq (.reg [.c 6 (.f 86) [.c (.d (.str [48])), .c (.d (.int .i64 16))],
     .r 3 (.mv (.t 6))])
  (.seq (.seq (.reg [.r 7 (.mv (.t 0)),
     .r 8 (.len (.t 7)),
     .r 9 (.mv (.c (.d (.int .i64 0))))])
  sc_desk_headOf_B1)
  (.seq (.reg [.r 21 (.mv (.t 3)),
     .r 2 (.mv (.t 21))])
  .ret))))
theorem fit_desk_headOf : fits Tryz.prog 54 Tryz.f54 sc_desk_headOf [.t 2] 1 = true := by kernel_rfl

set_option maxRecDepth 100000 in
set_option maxHeartbeats 40000000 in
noncomputable def sims_G1_1_9 : (∀ (x0 : List Tapi_Record), {m : Option ((List UInt8)) // ∀ r, m = some r → PureSpec Tryz.prog 54 [.slice (List.map rTapi_Record x0)] (.str r)}) := by
  (intro x0; apply Subtype.mk; intro r hm; apply pure_walk Tryz.func54 fit_desk_headOf; unfold sc_desk_headOf)
  repeat' (first | with_reducible refine W_seq ?_ | with_reducible refine W_reg ?_ | with_reducible refine W_block ?_ | with_reducible refine W_skip ?_ | with_reducible refine W_ret ?_ | with_reducible refine W_exit ?_ | with_reducible refine O_nil ?_ | with_reducible refine K_seq ?_ | with_reducible refine K_seqE ?_ | with_reducible refine K_seqR ?_ | with_reducible refine K_block ?_ | with_reducible refine K_blockR ?_ | with_reducible refine K_blockE ?_ | ((with_reducible apply K_blockN); decide) | with_reducible refine O_o2r ?_ | ((with_reducible apply O_idxr hm); (iterate 2 (simp only [push_cast, seval]; rfl)); (intro _; rfl); intro e hm) | ((with_reducible apply O_idxVr hm); (iterate 3 (simp only [push_cast, seval]; rfl)); intro e hm) | ((with_reducible apply O_cvsb); (simp only [push_cast, seval]; rfl)) | ((with_reducible apply O_r); (simp only [push_cast, seval]; rfl); (first | exact trivial | omega)) | ((with_reducible apply O_ldV1r hm); (iterate 2 (simp only [push_cast, seval]; rfl)); (intro _; rfl); intro e hm) | ((with_reducible apply O_ldAVr hm); (iterate 2 (simp only [push_cast, seval]; rfl)); (intro _; rfl); intro e hm) | ((with_reducible apply O_strr hm); (iterate 2 (simp only [push_cast, seval]; rfl)); intro hm) | ((with_reducible apply W_condT); (focus (simp only [push_cast, seval]; done))) | ((with_reducible apply W_condF); (focus (simp only [push_cast, seval]; done))) | ((with_reducible apply O_cF hm); (simp only [push_cast, seval]; rfl); (first | apply spec_strings_Repeat _ _ | apply spec_desk_body _ | apply spec_partner_Digest _); (any_goals ((repeat' (first | rfl | (with_reducible first | apply fT_Tapi_Record | apply f_optN | apply f_optS | apply f_some | apply f_tup | apply f_agg | apply f_ptr | apply f_fn | apply dv_slice | apply sv_d | apply f_cons | apply fold_nil | apply fold_cons | apply fold_app | apply f_rowI | apply f_rowY | apply f_rowS | apply f_rowB | apply f_rowL) | (with_reducible apply f_byte; decide))); done)); intro x hm) | ((with_reducible apply O_w); (simp only [push_cast, seval]; rfl); (first | exact trivial | omega)) | ((with_reducible apply O_stVA hm); (iterate 4 (simp only [push_cast, seval]; rfl)); (focus ((repeat' (first | rfl | (with_reducible first | apply fT_Tapi_Record | apply f_optN | apply f_optS | apply f_some | apply f_tup | apply f_agg | apply f_ptr | apply f_fn | apply dv_slice | apply sv_d | apply f_cons | apply fold_nil | apply fold_cons | apply fold_app | apply f_rowI | apply f_rowY | apply f_rowS | apply f_rowB | apply f_rowL) | (with_reducible apply f_byte; decide))); done)); decide; (intro _; rfl); intro e hm) | ((with_reducible apply S_condB hm); (simp only [push_cast, seval]; rfl); intro hm; rotate_left; intro hm) | ((with_reducible apply K_endS hm); (focus (simp only [resOf, resL, RV.get, push_cast, seval]; rfl)); (focus ((repeat' (first | rfl | (with_reducible first | apply fT_Tapi_Record | apply f_optN | apply f_optS | apply f_some | apply f_tup | apply f_agg | apply f_ptr | apply f_fn | apply dv_slice | apply sv_d | apply f_cons | apply fold_nil | apply fold_cons | apply fold_app | apply f_rowI | apply f_rowY | apply f_rowS | apply f_rowB | apply f_rowL) | (with_reducible apply f_byte; decide))); done))) | ((with_reducible apply K_leave hm); intro r hm) | ((with_reducible apply K_leaveR hm); intro r hm) | ((apply S_loopY (b := 0) (X := sc_desk_headOf_B1) (x := sc_desk_headOf_L1) rfl (fun (c : SV × SV) (s : (List UInt8) × Int) => st [(3, .d (.str s.1)), (7, c.1), (8, c.2), (9, .d (.int .i64 s.2))] []) (c := (_, _)) (s0 := (_, _)) hm); (focus (first | (dsimp only; done) | (dsimp only; rfl) | rfl)); (with_reducible refine Then.mk ?_ ?_)) | ((apply K_next (s' := (_, _)) hm); (focus (first | (dsimp only; done) | (dsimp only; rfl) | rfl))) | ((apply K_brk (s' := (_, _)) hm); (focus (first | (dsimp only; done) | (dsimp only; rfl) | rfl))) | (((with_reducible apply K_brkN hm); (focus decide); intro r hm)) | (((with_reducible apply K_brkR hm); intro r hm)) | (((with_reducible apply LoopB.of); (focus (first | (dsimp only; done) | (dsimp only; rfl) | rfl)); (focus ((intro _; repeat' (first | with_reducible exact impC_end | with_reducible exact impC_endF | with_reducible refine impC_seq ?_ | with_reducible refine impC_block ?_ | ((with_reducible refine impC_rnd ?_); intro _) | ((with_reducible refine impC_brk ?_); intro _))))); (intro s o hm; first | unfold sc_desk_headOf_L1); rotate_left; intro s hm)) | (((apply imp_stT; (repeat' (first | with_reducible exact keepT_nil | with_reducible exact keepC_nil | with_reducible apply keepT_cons | with_reducible apply keepC_cons | ((with_reducible apply svle_eq); (focus (first | (simp only [push_cast, seval]; rfl) | rfl)); (focus ((repeat' (first | rfl | (with_reducible first | apply fT_Tapi_Record | apply f_optN | apply f_optS | apply f_some | apply f_tup | apply f_agg | apply f_ptr | apply f_fn | apply dv_slice | apply sv_d | apply f_cons | apply fold_nil | apply fold_cons | apply fold_app | apply f_rowI | apply f_rowY | apply f_rowS | apply f_rowB | apply f_rowL) | (with_reducible apply f_byte; decide))); done))) | ((with_reducible apply svle_td); (focus (first | (simp only [push_cast, seval]; rfl) | rfl)); (focus (first | (simp only [push_cast, seval]; rfl) | rfl)); (focus ((repeat' (first | rfl | (with_reducible first | apply fT_Tapi_Record | apply f_optN | apply f_optS | apply f_some | apply f_tup | apply f_agg | apply f_ptr | apply f_fn | apply dv_slice | apply sv_d | apply f_cons | apply fold_nil | apply fold_cons | apply fold_app | apply f_rowI | apply f_rowY | apply f_rowS | apply f_rowB | apply f_rowL) | (with_reducible apply f_byte; decide))); done))) | ((with_reducible apply chle_eq); (focus (first | (simp only [push_cast, seval]; rfl) | rfl)); (first | with_reducible exact chle_rfl rfl | with_reducible exact chle_map0 | with_reducible apply chle_vec | with_reducible apply chle_box)) | (with_reducible first | apply cT_Tapi_Record | apply r_shS | apply r_shI | apply r_rflO | apply r_oneO | apply r_appO | apply r_nilO | apply c_ownN | apply c_ownL | apply vc_rfl | apply vc_nil | apply vc_cons | apply r_rfl | apply r_rows | apply r_nil | apply r_app | apply r_cons | apply c_rowI | apply c_rowY | apply c_rowS | apply c_rowB | apply c_rowL))); done))))
noncomputable def m_desk_headOf (x0 : List Tapi_Record) : Option ((List UInt8)) := (sims_G1_1_9 x0).1
theorem spec_desk_headOf (x0 : List Tapi_Record) : ∀ r, m_desk_headOf x0 = some r → PureSpec Tryz.prog 54 [.slice (List.map rTapi_Record x0)] (.str r) := (sims_G1_1_9 x0).2

/-- interchange/desk.head -/
def sc_desk_head : SC :=
  (.seq (.reg [.r 4 (.mv (.c (.nils))),
     .r 5 (.mv (.c (.d (.str [])))),
     .r 6 (.mv (.c (.d (.bool false))))])
  (.seq (.reg [.r 8 (.mv (.t 0)),
     .r 9 (.mv (.t 1)),
     .r 10 (.bin .add (.t 9) (.c (.d (.int .i64 1)))),
     .c 11 (.f 47) [.t 8, .c (.d (.str [32])), .t 10],
     .r 7 (.mv (.t 11))])
  (.seq (.seq (.reg (.r 12 (.mv (.t 7)) :: .r 13 (.len (.t 12)) :: .r 14 (.mv (.t 1)) :: .r 15 (.bin .add (.t 14) (.c (.d (.int .i64 1)))) :: .r 16 (.bin .neq (.t 13) (.t 15)) :: .r 17 (.mv (.t 16)) :: gapp [18, 19, 20, 21, 22] 17 false (.r 18 (.mv (.t 7)) :: .r 19 (.mv (.t 1)) :: .r 20 (.idx 1 (.t 18) (.t 19)) :: .r 21 (.ld1 (.t 20)) :: .r 22 (.bin .eql (.t 21) (.c (.d (.str [])))) :: []) (.r 23 (.pick (.t 17) (.c (.d (.bool true))) (.t 22)) :: .r 24 (.mv (.t 23)) :: gapp [25, 26, 27, 28] 24 false (.r 25 (.mv (.t 7)) :: .r 26 (.mv (.t 1)) :: .r 27 (.slc 1 (.t 25) none (some (.t 26))) :: .c 28 (.f 71) [.t 27, .c (.d (.str []))] :: []) (.r 29 (.pick (.t 24) (.c (.d (.bool true))) (.t 28)) :: []))))
  (.cond (.t 29)
    (.seq (.reg [.r 4 (.mv (.c (.nils))),
       .r 5 (.mv (.c (.d (.str [])))),
       .r 6 (.mv (.c (.d (.bool false))))])
    .ret)
    .skip))
  (.seq (.regD [.r 30 (.mv (.t 7)),
     .r 31 (.mv (.t 1)),
     .r 32 (.slc 1 (.t 30) none (some (.t 31))),
     .r 33 (.mv (.t 7)),
     .r 34 (.mv (.t 1)),
     .r 35 (.idx 1 (.t 33) (.t 34)),
     .r 36 (.ld1 (.t 35)),
     .r 4 (.mv (.t 32)),
     .r 5 (.mv (.t 36)),
     .r 6 (.mv (.c (.d (.bool true))))])
  .ret))))
theorem fit_desk_head : fits Tryz.prog 39 Tryz.f39 sc_desk_head [.t 4, .t 5, .t 6] 2 = true := by kernel_rfl

set_option maxRecDepth 100000 in
set_option maxHeartbeats 40000000 in
noncomputable def sims_G1_2_0 : (∀ (x0 : List UInt8) (x1 : Int), {m : Option ((List (List UInt8)) × (List UInt8) × Bool) // ∀ r, m = some r → PureSpec Tryz.prog 39 [.str x0, .int .i64 x1] (.tup [.slice (List.map rowS r.1), .str r.2.1, .bool r.2.2])}) := by
  (intro x0 x1; apply Subtype.mk; intro r hm; apply pure_walk Tryz.func39 fit_desk_head; unfold sc_desk_head)
  repeat' (first | with_reducible refine W_seq ?_ | with_reducible refine W_reg ?_ | with_reducible refine W_regD ?_ | with_reducible refine W_block ?_ | with_reducible refine W_skip ?_ | with_reducible refine W_ret ?_ | with_reducible refine W_exit ?_ | with_reducible refine O_nil ?_ | with_reducible refine K_seq ?_ | with_reducible refine K_seqE ?_ | with_reducible refine K_seqR ?_ | with_reducible refine K_block ?_ | with_reducible refine K_blockR ?_ | with_reducible refine K_blockE ?_ | ((with_reducible apply K_blockN); decide) | ((with_reducible apply O_idxr hm); (iterate 2 (simp only [push_cast, seval]; rfl)); (intro _; rfl); intro e hm) | ((with_reducible apply O_idxVr hm); (iterate 3 (simp only [push_cast, seval]; rfl)); intro e hm) | ((with_reducible apply O_slcr hm); (iterate 3 (simp only [push_cast, seval]; rfl)); (intro _; rfl); intro e hm) | ((with_reducible apply O_r); (simp only [push_cast, seval]; rfl); (first | exact trivial | omega)) | ((with_reducible apply O_ldV1r hm); (iterate 2 (simp only [push_cast, seval]; rfl)); (intro _; rfl); intro e hm) | ((with_reducible apply O_strr hm); (iterate 2 (simp only [push_cast, seval]; rfl)); intro hm) | ((with_reducible apply O_or hm); (simp only [push_cast, seval]; rfl); rfl; intro v hm; rotate_left; intro v g hm) | ((with_reducible apply W_condT); (focus (simp only [push_cast, seval]; done))) | ((with_reducible apply W_condF); (focus (simp only [push_cast, seval]; done))) | ((with_reducible apply O_cF hm); (simp only [push_cast, seval]; rfl); (first | apply spec_strings_SplitN _ _ _ | apply spec_slices_Contains_string_string _ _); (any_goals ((repeat' (first | rfl | (with_reducible first | apply f_optN | apply f_optS | apply f_some | apply f_tup | apply f_agg | apply f_ptr | apply f_fn | apply dv_slice | apply sv_d | apply f_cons | apply fold_nil | apply fold_cons | apply fold_app | apply f_rowI | apply f_rowY | apply f_rowS | apply f_rowB | apply f_rowL) | (with_reducible apply f_byte; decide))); done)); intro x hm) | ((with_reducible apply S_condB hm); (simp only [push_cast, seval]; rfl); intro hm; rotate_left; intro hm) | ((with_reducible apply K_end3 hm); (focus (simp only [resOf, resL, RV.get, push_cast, seval]; rfl)); (focus (first | (dsimp only; done) | (dsimp only; rfl) | rfl)); (focus ((repeat' (first | rfl | (with_reducible first | apply f_optN | apply f_optS | apply f_some | apply f_tup | apply f_agg | apply f_ptr | apply f_fn | apply dv_slice | apply sv_d | apply f_cons | apply fold_nil | apply fold_cons | apply fold_app | apply f_rowI | apply f_rowY | apply f_rowS | apply f_rowB | apply f_rowL) | (with_reducible apply f_byte; decide))); done))) | ((with_reducible apply K_bool hm); (simp only [push_cast, seval]; rfl)))
noncomputable def m_desk_head (x0 : List UInt8) (x1 : Int) : Option ((List (List UInt8)) × (List UInt8) × Bool) := (sims_G1_2_0 x0 x1).1
theorem spec_desk_head (x0 : List UInt8) (x1 : Int) : ∀ r, m_desk_head x0 x1 = some r → PureSpec Tryz.prog 39 [.str x0, .int .i64 x1] (.tup [.slice (List.map rowS r.1), .str r.2.1, .bool r.2.2]) := (sims_G1_2_0 x0 x1).2

/-- interchange/kit.Number -/
def sc_kit_Number : SC :=
  (.seq (.reg [.r 4 (.mv (.c (.d (.int .i64 0)))),
     .r 5 (.mv (.c (.d (.bool false))))])
  (.seq (.seq (.reg (.r 8 (.mv (.t 0)) :: .r 9 (.lenT (.t 8)) :: .r 10 (.mv (.t 1)) :: .r 11 (.bin .gtr (.t 9) (.t 10)) :: .r 12 (.mv (.t 11)) :: gapp [13, 14, 15] 12 false (.r 13 (.mv (.t 0)) :: .c 14 (.f 73) [.t 13] :: .r 15 (.not (.t 14)) :: []) (.r 16 (.pick (.t 12) (.c (.d (.bool true))) (.t 15)) :: .r 17 (.mv (.t 16)) :: gapp [18, 19, 20, 21, 22, 23, 24, 25] 17 false (.r 18 (.mv (.t 0)) :: .r 19 (.lenT (.t 18)) :: .r 20 (.bin .gtr (.t 19) (.c (.d (.int .i64 1)))) :: .r 21 (.mv (.t 20)) :: gapp [22, 23, 24] 21 true (.r 22 (.mv (.t 0)) :: .r 23 (.sidx (.t 22) (.c (.d (.int .i64 0)))) :: .r 24 (.bin .eql (.t 23) (.c (.d (.int .u8 48)))) :: []) (.r 25 (.pick (.t 21) (.t 24) (.c (.d (.bool false)))) :: [])) (.r 26 (.pick (.t 17) (.c (.d (.bool true))) (.t 25)) :: []))))
  (.cond (.t 26)
    (.seq (.reg [.r 4 (.mv (.c (.d (.int .i64 0)))),
       .r 5 (.mv (.c (.d (.bool false))))])
    .ret)
    .skip))
  (.seq (.reg [.r 28 (.mv (.t 0)),
     .c 29 (.f 74) [.t 28],
     .r 27 (.mv (.t 29)),
     .r 30 (.ext (.t 27) 0),
     .r 31 (.ext (.t 27) 1),
     .r 6 (.mv (.t 30)),
     .r 7 (.mv (.t 31))])
  (.seq (.regD [.r 32 (.mv (.t 6)),
     .r 33 (.mv (.t 7)),
     .r 34 (.binI .eql (.t 33) (.c (.d (.raw .nilIface)))),
     .r 4 (.mv (.t 32)),
     .r 5 (.mv (.t 34))])
  .ret))))
theorem fit_kit_Number : fits Tryz.prog 43 Tryz.f43 sc_kit_Number [.t 4, .t 5] 2 = true := by kernel_rfl

set_option maxRecDepth 100000 in
set_option maxHeartbeats 40000000 in
noncomputable def sims_G1_2_1 : (∀ (x0 : List UInt8) (x1 : Int), {m : Option (Int × Bool) // ∀ r, m = some r → PureSpec Tryz.prog 43 [.str x0, .int .i64 x1] (.tup [.int .i64 r.1, .bool r.2])}) := by
  (intro x0 x1; apply Subtype.mk; intro r hm; apply pure_walk Tryz.func43 fit_kit_Number; unfold sc_kit_Number)
  repeat' (first | with_reducible refine W_seq ?_ | with_reducible refine W_reg ?_ | with_reducible refine W_regD ?_ | with_reducible refine W_block ?_ | with_reducible refine W_skip ?_ | with_reducible refine W_ret ?_ | with_reducible refine W_exit ?_ | with_reducible refine O_nil ?_ | with_reducible refine K_seq ?_ | with_reducible refine K_seqE ?_ | with_reducible refine K_seqR ?_ | with_reducible refine K_block ?_ | with_reducible refine K_blockR ?_ | with_reducible refine K_blockE ?_ | ((with_reducible apply K_blockN); decide) | ((with_reducible apply O_sidxr hm); (iterate 2 (simp only [push_cast, seval]; rfl)); intro e hm) | ((with_reducible apply O_r); (simp only [push_cast, seval]; rfl); (first | exact trivial | omega)) | ((with_reducible apply O_and hm); (simp only [push_cast, seval]; rfl); rfl; intro v hm; rotate_left; intro v g hm) | ((with_reducible apply O_or hm); (simp only [push_cast, seval]; rfl); rfl; intro v hm; rotate_left; intro v g hm) | ((with_reducible apply W_condT); (focus (simp only [push_cast, seval]; done))) | ((with_reducible apply W_condF); (focus (simp only [push_cast, seval]; done))) | ((with_reducible apply O_cF hm); (simp only [push_cast, seval]; rfl); (first | apply spec_kit_IsDigits _ | apply spec_strconv_Atoi _); (any_goals ((repeat' (first | rfl | (with_reducible first | apply f_optN | apply f_optS | apply f_some | apply f_tup | apply f_agg | apply f_ptr | apply f_fn | apply dv_slice | apply sv_d | apply f_cons | apply fold_nil | apply fold_cons | apply fold_app | apply f_rowI | apply f_rowY | apply f_rowS | apply f_rowB | apply f_rowL) | (with_reducible apply f_byte; decide))); done)); intro x hm) | ((with_reducible apply S_condB hm); (simp only [push_cast, seval]; rfl); intro hm; rotate_left; intro hm) | ((with_reducible apply K_end2 hm); (focus (simp only [resOf, resL, RV.get, push_cast, seval]; rfl)); (focus (first | (dsimp only; done) | (dsimp only; rfl) | rfl)); (focus ((repeat' (first | rfl | (with_reducible first | apply f_optN | apply f_optS | apply f_some | apply f_tup | apply f_agg | apply f_ptr | apply f_fn | apply dv_slice | apply sv_d | apply f_cons | apply fold_nil | apply fold_cons | apply fold_app | apply f_rowI | apply f_rowY | apply f_rowS | apply f_rowB | apply f_rowL) | (with_reducible apply f_byte; decide))); done))) | ((with_reducible apply K_bool hm); (simp only [push_cast, seval]; rfl)))
noncomputable def m_kit_Number (x0 : List UInt8) (x1 : Int) : Option (Int × Bool) := (sims_G1_2_1 x0 x1).1
theorem spec_kit_Number (x0 : List UInt8) (x1 : Int) : ∀ r, m_kit_Number x0 x1 = some r → PureSpec Tryz.prog 43 [.str x0, .int .i64 x1] (.tup [.int .i64 r.1, .bool r.2]) := (sims_G1_2_1 x0 x1).2

/-- interchange/desk.fieldsFault -/
def sc_desk_fieldsFault : SC :=
  (.seq (.reg [.r 8 (.mv (.c (.d (.int .i64 0))))])
  (.seq (.block 0 (.seq (.reg [.r 10 (.mv (.t 0)),
       .c 11 (.f 108) [.t 10],
       .r 12 (.not (.t 11)),
       .r 9 (.mv (.t 12))])
    (.cond (.t 9)
      (.seq (.reg [.r 8 (.mv (.c (.d (.int .i64 1))))])
      .ret)
      (.seq (.reg [.r 14 (.mv (.t 1)),
         .c 15 (.f 91) [.t 14],
         .r 16 (.not (.t 15)),
         .r 13 (.mv (.t 16))])
      (.cond (.t 13)
        (.seq (.reg [.r 8 (.mv (.c (.d (.int .i64 5))))])
        .ret)
        (.seq (.reg (.r 18 (.mv (.t 2)) :: .r 19 (.lenT (.t 18)) :: .r 20 (.bin .lss (.t 19) (.c (.d (.int .i64 1)))) :: .r 21 (.mv (.t 20)) :: gapp [22, 23, 24] 21 false (.r 22 (.mv (.t 2)) :: .r 23 (.lenT (.t 22)) :: .r 24 (.bin .gtr (.t 23) (.c (.d (.int .i64 40)))) :: []) (.r 25 (.pick (.t 21) (.c (.d (.bool true))) (.t 24)) :: .r 26 (.mv (.t 25)) :: gapp [27, 28, 29] 26 false (.r 27 (.mv (.t 2)) :: .c 28 (.f 42) [.t 27, .c (.d (.int .u8 33)), .c (.d (.int .u8 126))] :: .r 29 (.not (.t 28)) :: []) (.r 30 (.pick (.t 26) (.c (.d (.bool true))) (.t 29)) :: .r 17 (.mv (.t 30)) :: []))))
        (.cond (.t 17)
          (.seq (.reg [.r 8 (.mv (.c (.d (.int .i64 3))))])
          .ret)
          (.seq (.reg [.r 32 (.mv (.t 3)),
             .r 33 (.lenT (.t 32)),
             .r 34 (.bin .gtr (.t 33) (.c (.d (.int .i64 2000)))),
             .r 31 (.mv (.t 34))])
          (.cond (.t 31)
            (.seq (.reg [.r 8 (.mv (.c (.d (.int .i64 2))))])
            .ret)
            (.seq (.reg [.r 36 (.mv (.t 3)),
               .c 37 (.f 42) [.t 36, .c (.d (.int .u8 32)), .c (.d (.int .u8 126))],
               .r 38 (.not (.t 37)),
               .r 35 (.mv (.t 38))])
            (.cond (.t 35)
              (.seq (.reg [.r 8 (.mv (.c (.d (.int .i64 3))))])
              .ret)
              .skip)))))))))))
  (.seq (.reg [.r 8 (.mv (.c (.d (.int .i64 0))))])
  .ret)))
theorem fit_desk_fieldsFault : fits Tryz.prog 76 Tryz.f76 sc_desk_fieldsFault [.t 8] 4 = true := by kernel_rfl

set_option maxRecDepth 100000 in
set_option maxHeartbeats 40000000 in
noncomputable def sims_G1_2_2 : (∀ (x0 : Int) (x1 : List UInt8) (x2 : List UInt8) (x3 : List UInt8), {m : Option (Int) // ∀ r, m = some r → PureSpec Tryz.prog 76 [.int .i64 x0, .str x1, .str x2, .str x3] (.int .i64 r)}) := by
  (intro x0 x1 x2 x3; apply Subtype.mk; intro r hm; apply pure_walk Tryz.func76 fit_desk_fieldsFault; unfold sc_desk_fieldsFault)
  repeat' (first | with_reducible refine W_seq ?_ | with_reducible refine W_reg ?_ | with_reducible refine W_block ?_ | with_reducible refine W_skip ?_ | with_reducible refine W_ret ?_ | with_reducible refine W_exit ?_ | with_reducible refine O_nil ?_ | with_reducible refine K_seq ?_ | with_reducible refine K_seqE ?_ | with_reducible refine K_seqR ?_ | with_reducible refine K_block ?_ | with_reducible refine K_blockR ?_ | with_reducible refine K_blockE ?_ | ((with_reducible apply K_blockN); decide) | ((with_reducible apply O_r); (simp only [push_cast, seval]; rfl); (first | exact trivial | omega)) | ((with_reducible apply O_or hm); (simp only [push_cast, seval]; rfl); rfl; intro v hm; rotate_left; intro v g hm) | ((with_reducible apply W_condT); (focus (simp only [push_cast, seval]; done))) | ((with_reducible apply W_condF); (focus (simp only [push_cast, seval]; done))) | ((with_reducible apply O_cF hm); (simp only [push_cast, seval]; rfl); (first | apply spec_kit_IsMoment _ | apply spec_kit_IsName _ | apply spec_kit_InBytes _ _ _); (any_goals ((repeat' (first | rfl | (with_reducible first | apply f_optN | apply f_optS | apply f_some | apply f_tup | apply f_agg | apply f_ptr | apply f_fn | apply dv_slice | apply sv_d | apply f_cons | apply fold_nil | apply fold_cons | apply fold_app | apply f_rowI | apply f_rowY | apply f_rowS | apply f_rowB | apply f_rowL) | (with_reducible apply f_byte; decide))); done)); intro x hm) | ((with_reducible apply S_condB hm); (simp only [push_cast, seval]; rfl); intro hm; rotate_left; intro hm) | ((with_reducible apply K_endS hm); (focus (simp only [resOf, resL, RV.get, push_cast, seval]; rfl)); (focus ((repeat' (first | rfl | (with_reducible first | apply f_optN | apply f_optS | apply f_some | apply f_tup | apply f_agg | apply f_ptr | apply f_fn | apply dv_slice | apply sv_d | apply f_cons | apply fold_nil | apply fold_cons | apply fold_app | apply f_rowI | apply f_rowY | apply f_rowS | apply f_rowB | apply f_rowL) | (with_reducible apply f_byte; decide))); done))) | ((with_reducible apply K_bool hm); (simp only [push_cast, seval]; rfl)))
noncomputable def m_desk_fieldsFault (x0 : Int) (x1 : List UInt8) (x2 : List UInt8) (x3 : List UInt8) : Option (Int) := (sims_G1_2_2 x0 x1 x2 x3).1
theorem spec_desk_fieldsFault (x0 : Int) (x1 : List UInt8) (x2 : List UInt8) (x3 : List UInt8) : ∀ r, m_desk_fieldsFault x0 x1 x2 x3 = some r → PureSpec Tryz.prog 76 [.int .i64 x0, .str x1, .str x2, .str x3] (.int .i64 r) := (sims_G1_2_2 x0 x1 x2 x3).2

/-- strings.TrimPrefix -/
def sc_strings_TrimPrefix : SC :=
  (.seq (.reg [.r 4 (.mv (.c (.d (.str []))))])
  (.seq (.reg [.r 5 (.mv (.t 0)),
     .r 6 (.mv (.t 1)),
     .c 7 (.f 81) [.t 5, .t 6],
     .r 4 (.mv (.t 7))])
  .ret))
theorem fit_strings_TrimPrefix : fits Tryz.prog 50 Tryz.f50 sc_strings_TrimPrefix [.t 4] 2 = true := by kernel_rfl

set_option maxRecDepth 100000 in
set_option maxHeartbeats 40000000 in
noncomputable def sims_G1_2_3 : (∀ (x0 : List UInt8) (x1 : List UInt8), {m : Option ((List UInt8)) // ∀ r, m = some r → PureSpec Tryz.prog 50 [.str x0, .str x1] (.str r)}) := by
  (intro x0 x1; apply Subtype.mk; intro r hm; apply pure_walk Tryz.func50 fit_strings_TrimPrefix; unfold sc_strings_TrimPrefix)
  repeat' (first | with_reducible refine W_seq ?_ | with_reducible refine W_reg ?_ | with_reducible refine W_block ?_ | with_reducible refine W_skip ?_ | with_reducible refine W_ret ?_ | with_reducible refine W_exit ?_ | with_reducible refine O_nil ?_ | with_reducible refine K_seq ?_ | with_reducible refine K_seqE ?_ | with_reducible refine K_seqR ?_ | with_reducible refine K_block ?_ | with_reducible refine K_blockR ?_ | with_reducible refine K_blockE ?_ | ((with_reducible apply K_blockN); decide) | ((with_reducible apply O_r); (simp only [push_cast, seval]; rfl); (first | exact trivial | omega)) | ((with_reducible apply W_condT); (focus (simp only [push_cast, seval]; done))) | ((with_reducible apply W_condF); (focus (simp only [push_cast, seval]; done))) | ((with_reducible apply O_cF hm); (simp only [push_cast, seval]; rfl); (first | apply spec_internal_stringslite_TrimPrefix _ _); (any_goals ((repeat' (first | rfl | (with_reducible first | apply f_optN | apply f_optS | apply f_some | apply f_tup | apply f_agg | apply f_ptr | apply f_fn | apply dv_slice | apply sv_d | apply f_cons | apply fold_nil | apply fold_cons | apply fold_app | apply f_rowI | apply f_rowY | apply f_rowS | apply f_rowB | apply f_rowL) | (with_reducible apply f_byte; decide))); done)); intro x hm) | ((with_reducible apply S_condB hm); (simp only [push_cast, seval]; rfl); intro hm; rotate_left; intro hm) | ((with_reducible apply K_endS hm); (focus (simp only [resOf, resL, RV.get, push_cast, seval]; rfl)); (focus ((repeat' (first | rfl | (with_reducible first | apply f_optN | apply f_optS | apply f_some | apply f_tup | apply f_agg | apply f_ptr | apply f_fn | apply dv_slice | apply sv_d | apply f_cons | apply fold_nil | apply fold_cons | apply fold_app | apply f_rowI | apply f_rowY | apply f_rowS | apply f_rowB | apply f_rowL) | (with_reducible apply f_byte; decide))); done))))
noncomputable def m_strings_TrimPrefix (x0 : List UInt8) (x1 : List UInt8) : Option ((List UInt8)) := (sims_G1_2_3 x0 x1).1
theorem spec_strings_TrimPrefix (x0 : List UInt8) (x1 : List UInt8) : ∀ r, m_strings_TrimPrefix x0 x1 = some r → PureSpec Tryz.prog 50 [.str x0, .str x1] (.str r) := (sims_G1_2_3 x0 x1).2

/-- interchange/interchangeref12.checkRecord -/
def sc_interchangeref12_checkRecord : SC :=
  (.seq (.reg [.r 1 (.boxI (.t 0)),
     .r 2 (.mv (.c (.d (.int .i64 0))))])
  (.seq (.reg [.r 5 (.fld 5 (.t 1)),
     .o 6 (.ld1 (.t 5)),
     .r 3 (.mv (.t 6))])
  (.seq (.seq (.reg [.r 7 (.fld 4 (.t 1)),
     .o 8 (.ld1 (.t 7))])
  (.cond (.t 8)
    (.reg [.r 3 (.mv (.c (.d (.str []))))])
    .skip))
  (.seq (.seq (.reg [.r 9 (.fld 0 (.t 1)),
     .o 10 (.ld1 (.t 9)),
     .r 11 (.fld 1 (.t 1)),
     .o 12 (.ld1 (.t 11)),
     .r 13 (.fld 2 (.t 1)),
     .o 14 (.ld1 (.t 13)),
     .r 15 (.mv (.t 3)),
     .c 16 (.f 83) [.t 10, .t 12, .t 14, .t 15],
     .r 4 (.mv (.t 16))])
  (.seq (.reg [.r 17 (.mv (.t 4)),
     .r 18 (.bin .neq (.t 17) (.c (.d (.int .i64 0))))])
  (.cond (.t 18)
    (.seq (.reg [.r 19 (.mv (.t 4)),
       .r 2 (.mv (.t 19))])
    .ret)
    .skip)))
  (.seq (.seq (.reg (.r 20 (.fld 4 (.t 1)) :: .o 21 (.ld1 (.t 20)) :: .r 22 (.mv (.t 21)) :: gapp [23, 24, 25] 22 true (.r 23 (.fld 5 (.t 1)) :: .r 24 (.ld1 (.t 23)) :: .r 25 (.bin .neq (.t 24) (.c (.d (.str [])))) :: []) (.r 26 (.pick (.t 22) (.t 25) (.c (.d (.bool false)))) :: .r 27 (.mv (.t 26)) :: gapp [28, 29, 30, 31] 27 false (.r 28 (.fld 3 (.t 1)) :: .r 29 (.ld1 (.t 28)) :: .c 30 (.f 84) [.t 29] :: .r 31 (.not (.t 30)) :: []) (.r 32 (.pick (.t 27) (.c (.d (.bool true))) (.t 31)) :: []))))
  (.cond (.t 32)
    (.seq (.reg [.r 2 (.mv (.c (.d (.int .i64 3))))])
    .ret)
    .skip))
  (.seq (.seq (.regD (.r 33 (.fld 4 (.t 1)) :: .r 34 (.ld1 (.t 33)) :: .r 35 (.not (.t 34)) :: .r 36 (.mv (.t 35)) :: gapp [37, 38, 39, 40, 41, 42, 43] 36 true (.r 37 (.fld 3 (.t 1)) :: .r 38 (.ld1 (.t 37)) :: .r 39 (.fld 5 (.t 1)) :: .r 40 (.ld1 (.t 39)) :: .r 41 (.cvsb (.t 40)) :: .c 42 (.f 85) [.t 41] :: .r 43 (.bin .neq (.t 38) (.t 42)) :: []) (.r 44 (.pick (.t 36) (.t 43) (.c (.d (.bool false)))) :: [])))
  (.cond (.t 44)
    (.seq (.reg [.r 2 (.mv (.c (.d (.int .i64 15))))])
    .ret)
    .skip))
  (.seq (.reg [.r 2 (.mv (.c (.d (.int .i64 0))))])
  .ret)))))))
theorem fit_interchangeref12_checkRecord : fits Tryz.prog 52 Tryz.f52 sc_interchangeref12_checkRecord [.t 2] 1 = true := by kernel_rfl

set_option maxRecDepth 100000 in
set_option maxHeartbeats 40000000 in
noncomputable def sims_G1_2_4 : (∀ (x0 : Tapi_Record), {m : Option (Int) // ∀ r, m = some r → PureSpec Tryz.prog 52 [.agg (rTapi_Record x0)] (.int .i64 r)}) := by
  (intro x0; apply Subtype.mk; intro r hm; apply pure_walk Tryz.func52 fit_interchangeref12_checkRecord; unfold sc_interchangeref12_checkRecord)
  repeat' (first | with_reducible refine W_seq ?_ | with_reducible refine W_reg ?_ | with_reducible refine W_regD ?_ | with_reducible refine W_block ?_ | with_reducible refine W_skip ?_ | with_reducible refine W_ret ?_ | with_reducible refine W_exit ?_ | with_reducible refine O_nil ?_ | with_reducible refine K_seq ?_ | with_reducible refine K_seqE ?_ | with_reducible refine K_seqR ?_ | with_reducible refine K_block ?_ | with_reducible refine K_blockR ?_ | with_reducible refine K_blockE ?_ | ((with_reducible apply K_blockN); decide) | with_reducible refine O_o2r ?_ | ((with_reducible apply O_cvsb); (simp only [push_cast, seval]; rfl)) | ((with_reducible apply O_r); (simp only [push_cast, seval]; rfl); (first | exact trivial | omega)) | ((with_reducible apply O_and hm); (simp only [push_cast, seval]; rfl); rfl; intro v hm; rotate_left; intro v g hm) | ((with_reducible apply O_or hm); (simp only [push_cast, seval]; rfl); rfl; intro v hm; rotate_left; intro v g hm) | ((with_reducible apply W_condT); (focus (simp only [push_cast, seval]; done))) | ((with_reducible apply W_condF); (focus (simp only [push_cast, seval]; done))) | ((with_reducible apply O_cF hm); (simp only [push_cast, seval]; rfl); (first | apply spec_interchangeref12_checkFields _ _ _ _ | apply spec_interchangeref12_isDigest _ | apply spec_interchangeref8_Digest _); (any_goals ((repeat' (first | rfl | (with_reducible first | apply fT_Tapi_Record | apply f_optN | apply f_optS | apply f_some | apply f_tup | apply f_agg | apply f_ptr | apply f_fn | apply dv_slice | apply sv_d | apply f_cons | apply fold_nil | apply fold_cons | apply fold_app | apply f_rowI | apply f_rowY | apply f_rowS | apply f_rowB | apply f_rowL) | (with_reducible apply f_byte; decide))); done)); intro x hm) | ((with_reducible apply S_condB hm); (simp only [push_cast, seval]; rfl); intro hm; rotate_left; intro hm) | ((with_reducible apply K_endS hm); (focus (simp only [resOf, resL, RV.get, push_cast, seval]; rfl)); (focus ((repeat' (first | rfl | (with_reducible first | apply fT_Tapi_Record | apply f_optN | apply f_optS | apply f_some | apply f_tup | apply f_agg | apply f_ptr | apply f_fn | apply dv_slice | apply sv_d | apply f_cons | apply fold_nil | apply fold_cons | apply fold_app | apply f_rowI | apply f_rowY | apply f_rowS | apply f_rowB | apply f_rowL) | (with_reducible apply f_byte; decide))); done))) | ((with_reducible apply K_bool hm); (simp only [push_cast, seval]; rfl)))
noncomputable def m_interchangeref12_checkRecord (x0 : Tapi_Record) : Option (Int) := (sims_G1_2_4 x0).1
theorem spec_interchangeref12_checkRecord (x0 : Tapi_Record) : ∀ r, m_interchangeref12_checkRecord x0 = some r → PureSpec Tryz.prog 52 [.agg (rTapi_Record x0)] (.int .i64 r) := (sims_G1_2_4 x0).2

/-- interchange/desk.readRecord -/
def sc_desk_readRecord : SC :=
  (.seq (.reg [.w 2 (.boxM (.c (.agg [.d (.int .i64 0), .d (.str []), .d (.str []), .d (.str []), .d (.bool false), .d (.str [])]))),
     .r 3 (.mv (.c (.d (.bool false))))])
  (.seq (.reg [.r 12 (.mv (.t 0)),
     .c 13 (.f 39) [.t 12, .c (.d (.int .i64 4))],
     .r 11 (.mv (.t 13)),
     .r 14 (.ext (.t 11) 0),
     .r 15 (.ext (.t 11) 1),
     .r 16 (.ext (.t 11) 2),
     .r 4 (.mv (.t 14)),
     .r 5 (.mv (.t 15)),
     .r 6 (.mv (.t 16))])
  (.seq (.seq (.reg (.r 17 (.mv (.t 6)) :: .r 18 (.not (.t 17)) :: .r 19 (.mv (.t 18)) :: gapp [20, 21] 19 false (.r 20 (.mv (.t 4)) :: .c 21 (.f 40) [.t 20, .f 41] :: []) (.r 22 (.pick (.t 19) (.c (.d (.bool true))) (.t 21)) :: [])))
  (.cond (.t 22)
    (.seq (.reg [.r 23 (.build [.d (.int .i64 0), .d (.str []), .d (.str []), .d (.str []), .d (.bool false), .d (.str [])] []),
       .w 0 (.st 6 (.t 2) (.t 23)),
       .r 3 (.mv (.c (.d (.bool false))))])
    .ret)
    .skip))
  (.seq (.reg [.r 25 (.mv (.t 4)),
     .r 26 (.idx 1 (.t 25) (.c (.d (.int .i64 0)))),
     .o 27 (.ld1 (.t 26)),
     .c 28 (.f 43) [.t 27, .c (.d (.int .i64 16))],
     .r 24 (.mv (.t 28)),
     .r 29 (.ext (.t 24) 0),
     .r 30 (.ext (.t 24) 1),
     .r 7 (.mv (.t 29)),
     .r 6 (.mv (.t 30))])
  (.seq (.regE [.r 31 (.mv (.t 7)),
     .r 32 (.mv (.t 4)),
     .r 33 (.idx 1 (.t 32) (.c (.d (.int .i64 1)))),
     .r 34 (.ld1 (.t 33)),
     .r 35 (.mv (.t 4)),
     .r 36 (.idx 1 (.t 35) (.c (.d (.int .i64 2)))),
     .r 37 (.ld1 (.t 36)),
     .r 38 (.mv (.t 4)),
     .r 39 (.idx 1 (.t 38) (.c (.d (.int .i64 3)))),
     .r 40 (.ld1 (.t 39)),
     .r 41 (.build [.d (.int .i64 0), .d (.str []), .d (.str []), .d (.str []), .d (.bool false), .d (.str [])] [(0, 1, .t 31), (1, 1, .t 34), (2, 1, .t 37), (3, 1, .t 40)]),
     .x 8 (.boxM (.c (.agg [.d (.int .i64 0), .d (.str []), .d (.str []), .d (.str []), .d (.bool false), .d (.str [])]))) [(0, 31, .mv (.t 7)), (1, 32, .mv (.t 4)), (2, 33, .idx 1 (.t 32) (.c (.d (.int .i64 1)))), (3, 34, .ld1 (.t 33)), (4, 35, .mv (.t 4)), (5, 36, .idx 1 (.t 35) (.c (.d (.int .i64 2)))), (6, 37, .ld1 (.t 36)), (7, 38, .mv (.t 4)), (8, 39, .idx 1 (.t 38) (.c (.d (.int .i64 3)))), (9, 40, .ld1 (.t 39)), (10, 41, .build [.d (.int .i64 0), .d (.str []), .d (.str []), .d (.str []), .d (.bool false), .d (.str [])] [(0, 1, .t 31), (1, 1, .t 34), (2, 1, .t 37), (3, 1, .t 40)])],
     .x 0 (.st 6 (.t 8) (.t 41)) []])
  (.seq (.seq (.reg [.r 43 (.mv (.t 5)),
     .c 44 (.f 44) [.t 43, .c (.d (.str [58]))],
     .r 42 (.mv (.t 44)),
     .r 45 (.ext (.t 42) 0),
     .r 46 (.ext (.t 42) 1),
     .r 9 (.mv (.t 45)),
     .r 10 (.mv (.t 46))])
  (.seq (.reg [.r 47 (.mv (.t 10))])
  (.cond (.t 47)
    (.reg [.r 48 (.mv (.t 9)),
       .r 49 (.fld 5 (.t 8)),
       .w 0 (.st 1 (.t 49) (.t 48))])
    (.seq (.reg [.r 50 (.fld 4 (.t 8)),
       .w 0 (.st 1 (.t 50) (.c (.d (.bool true))))])
    (.reg (.r 51 (.mv (.t 6)) :: .r 52 (.mv (.t 51)) :: gapp [53, 54] 52 true (.r 53 (.mv (.t 5)) :: .r 54 (.bin .eql (.t 53) (.c (.d (.str [100, 114, 111, 112, 112, 101, 100])))) :: []) (.r 55 (.pick (.t 52) (.t 54) (.c (.d (.bool false)))) :: .r 6 (.mv (.t 55)) :: [])))))))
  (.seq (.reg [.o 56 (.ldA 6 (.t 8)),
     .r 57 (.mv (.t 6)),
     .w 0 (.st 6 (.t 2) (.t 56)),
     .r 3 (.mv (.t 57))])
  .ret)))))))
theorem fit_desk_readRecord : fits Tryz.prog 19 Tryz.f19 sc_desk_readRecord [.cell 2 6, .t 3] 1 = true := by kernel_rfl

set_option maxRecDepth 100000 in
set_option maxHeartbeats 40000000 in
noncomputable def sims_G1_3_0 : (∀ (x0 : List UInt8), {m : Option (Tapi_Record × Bool) // ∀ r, m = some r → PureSpec Tryz.prog 19 [.str x0] (.tup [.agg (rTapi_Record r.1), .bool r.2])}) := by
  (intro x0; apply Subtype.mk; intro r hm; apply pure_walk Tryz.func19 fit_desk_readRecord; unfold sc_desk_readRecord)
  repeat' (first | with_reducible refine W_seq ?_ | with_reducible refine W_reg ?_ | with_reducible refine W_regE ?_ | with_reducible refine W_block ?_ | with_reducible refine W_skip ?_ | with_reducible refine W_ret ?_ | with_reducible refine W_exit ?_ | with_reducible refine O_nil ?_ | with_reducible refine K_seq ?_ | with_reducible refine K_seqE ?_ | with_reducible refine K_seqR ?_ | with_reducible refine K_block ?_ | with_reducible refine K_blockR ?_ | with_reducible refine K_blockE ?_ | ((with_reducible apply K_blockN); decide) | with_reducible refine O_o2r ?_ | ((with_reducible apply O_idxrE hm); (iterate 2 (simp only [push_cast, seval]; rfl)); (intro _; rfl); intro e he hm) | ((with_reducible apply O_idxVr hm); (iterate 3 (simp only [push_cast, seval]; rfl)); intro e hm) | ((with_reducible apply O_r); (simp only [push_cast, seval]; rfl); (first | exact trivial | omega)) | ((with_reducible apply O_ldV1r hm); (iterate 2 (simp only [push_cast, seval]; rfl)); (intro _; rfl); intro e hm) | ((with_reducible apply O_ldAVr hm); (iterate 2 (simp only [push_cast, seval]; rfl)); (intro _; rfl); intro e hm) | ((with_reducible apply O_andX hm); (simp only [push_cast, seval]; rfl); (iterate 2 rfl); intro v hm; rotate_left; intro v g hm) | ((with_reducible apply O_and hm); (simp only [push_cast, seval]; rfl); rfl; intro v hm; rotate_left; intro v g hm) | ((with_reducible apply O_or hm); (simp only [push_cast, seval]; rfl); rfl; intro v hm; rotate_left; intro v g hm) | ((with_reducible apply W_condT); (focus (simp only [push_cast, seval]; done))) | ((with_reducible apply W_condF); (focus (simp only [push_cast, seval]; done))) | ((with_reducible apply O_cF hm); (simp only [push_cast, seval]; rfl); (first | apply spec_desk_head _ _ | apply spec_slices_ContainsFunc_string_string _ _ _ _ (fun a0 a1 r h => spec_desk_head a0 a1 r h) | apply spec_slices_ContainsFunc_string_string _ _ _ _ (fun a0 r h => spec_desk_readRecord_1 a0 r h) | apply spec_slices_ContainsFunc_string_string _ _ _ _ (fun a0 a1 r h => spec_kit_Number a0 a1 r h) | apply spec_slices_ContainsFunc_string_string _ _ _ _ (fun a0 a1 r h => spec_strings_CutPrefix a0 a1 r h) | apply spec_desk_readRecord_1 _ | apply spec_kit_Number _ _ | apply spec_strings_CutPrefix _ _); (any_goals ((repeat' (first | rfl | (with_reducible first | apply fT_Tapi_Record | apply f_optN | apply f_optS | apply f_some | apply f_tup | apply f_agg | apply f_ptr | apply f_fn | apply dv_slice | apply sv_d | apply f_cons | apply fold_nil | apply fold_cons | apply fold_app | apply f_rowI | apply f_rowY | apply f_rowS | apply f_rowB | apply f_rowL) | (with_reducible apply f_byte; decide))); done)); intro x hm) | ((with_reducible apply O_w); (simp only [push_cast, seval]; rfl); (first | exact trivial | omega)) | ((with_reducible apply O_stVA hm); (iterate 4 (simp only [push_cast, seval]; rfl)); (focus ((repeat' (first | rfl | (with_reducible first | apply fT_Tapi_Record | apply f_optN | apply f_optS | apply f_some | apply f_tup | apply f_agg | apply f_ptr | apply f_fn | apply dv_slice | apply sv_d | apply f_cons | apply fold_nil | apply fold_cons | apply fold_app | apply f_rowI | apply f_rowY | apply f_rowS | apply f_rowB | apply f_rowL) | (with_reducible apply f_byte; decide))); done)); decide; (intro _; rfl); intro e hm) | ((with_reducible apply O_stVAX hm); (iterate 3 (simp only [push_cast, seval]; rfl)); (focus ((repeat' (first | rfl | (with_reducible first | apply fT_Tapi_Record | apply f_optN | apply f_optS | apply f_some | apply f_tup | apply f_agg | apply f_ptr | apply f_fn | apply dv_slice | apply sv_d | apply f_cons | apply fold_nil | apply fold_cons | apply fold_app | apply f_rowI | apply f_rowY | apply f_rowS | apply f_rowB | apply f_rowL) | (with_reducible apply f_byte; decide))); done)); (intro _; rfl); (focus ((repeat' (first | exact Rer_nil | ((with_reducible apply Rer_idx); (focus (simp only [push_cast, seval]; rfl)); (focus (simp only [push_cast, seval]; rfl)); rotate_left 2; (focus (first | (simp only [push_cast, seval]; rfl) | (simp only [push_cast, seval]; done))); rotate_left; (focus assumption); (focus (intro _; rfl))) | ((with_reducible apply Rer_cons); (focus (simp only [push_cast, seval]; rfl)); (focus (first | exact trivial | omega)); (focus (simp only [push_cast, seval]))))); done)); intro e hm) | ((with_reducible apply O_x); (simp only [push_cast, seval]; rfl); (first | exact trivial | omega); (focus ((repeat' (first | exact Rer_nil | ((with_reducible apply Rer_idx); (focus (simp only [push_cast, seval]; rfl)); (focus (simp only [push_cast, seval]; rfl)); rotate_left 2; (focus (first | (simp only [push_cast, seval]; rfl) | (simp only [push_cast, seval]; done))); rotate_left; (focus assumption); (focus (intro _; rfl))) | ((with_reducible apply Rer_cons); (focus (simp only [push_cast, seval]; rfl)); (focus (first | exact trivial | omega)); (focus (simp only [push_cast, seval]))))); done))) | ((with_reducible apply S_condB hm); (simp only [push_cast, seval]; rfl); intro hm; rotate_left; intro hm) | ((with_reducible apply K_end2 hm); (focus (simp only [resOf, resL, RV.get, push_cast, seval]; rfl)); (focus (first | (dsimp only; done) | (dsimp only; rfl) | rfl)); (focus ((repeat' (first | rfl | (with_reducible first | apply fT_Tapi_Record | apply f_optN | apply f_optS | apply f_some | apply f_tup | apply f_agg | apply f_ptr | apply f_fn | apply dv_slice | apply sv_d | apply f_cons | apply fold_nil | apply fold_cons | apply fold_app | apply f_rowI | apply f_rowY | apply f_rowS | apply f_rowB | apply f_rowL) | (with_reducible apply f_byte; decide))); done))) | ((with_reducible apply K_bool hm); (simp only [push_cast, seval]; rfl)))
noncomputable def m_desk_readRecord (x0 : List UInt8) : Option (Tapi_Record × Bool) := (sims_G1_3_0 x0).1
theorem spec_desk_readRecord (x0 : List UInt8) : ∀ r, m_desk_readRecord x0 = some r → PureSpec Tryz.prog 19 [.str x0] (.tup [.agg (rTapi_Record r.1), .bool r.2]) := (sims_G1_3_0 x0).2

/-- interchange/desk.recordFault -/
def sc_desk_recordFault : SC :=
  (.seq (.reg [.r 1 (.boxI (.t 0)),
     .r 2 (.mv (.c (.d (.int .i64 0))))])
  (.seq (.seq (.reg [.r 4 (.fld 0 (.t 1)),
     .o 5 (.ld1 (.t 4)),
     .r 6 (.fld 1 (.t 1)),
     .o 7 (.ld1 (.t 6)),
     .r 8 (.fld 2 (.t 1)),
     .o 9 (.ld1 (.t 8)),
     .r 10 (.fld 5 (.t 1)),
     .o 11 (.ld1 (.t 10)),
     .c 12 (.f 76) [.t 5, .t 7, .t 9, .t 11],
     .r 3 (.mv (.t 12))])
  (.seq (.reg [.r 13 (.mv (.t 3)),
     .r 14 (.bin .neq (.t 13) (.c (.d (.int .i64 0))))])
  (.cond (.t 14)
    (.seq (.reg [.r 15 (.mv (.t 3)),
       .r 2 (.mv (.t 15))])
    .ret)
    .skip)))
  (.seq (.block 0 (.seq (.seq (.reg (.r 17 (.fld 4 (.t 1)) :: .o 18 (.ld1 (.t 17)) :: .r 19 (.mv (.t 18)) :: gapp [20, 21, 22] 19 true (.r 20 (.fld 5 (.t 1)) :: .r 21 (.ld1 (.t 20)) :: .r 22 (.bin .neq (.t 21) (.c (.d (.str [])))) :: []) (.r 23 (.pick (.t 19) (.t 22) (.c (.d (.bool false)))) :: .r 16 (.mv (.t 23)) :: [])))
    (.cond (.t 16)
      .skip
      (.reg [.r 24 (.fld 3 (.t 1)),
         .o 25 (.ld1 (.t 24)),
         .c 26 (.f 77) [.t 25],
         .r 27 (.not (.t 26)),
         .r 16 (.mv (.t 27))])))
    (.cond (.t 16)
      (.seq (.reg [.r 2 (.mv (.c (.d (.int .i64 3))))])
      .ret)
      (.seq (.regD (.r 29 (.fld 4 (.t 1)) :: .r 30 (.ld1 (.t 29)) :: .r 31 (.not (.t 30)) :: .r 32 (.mv (.t 31)) :: gapp [33, 34, 35, 36, 37, 38, 39] 32 true (.r 33 (.fld 5 (.t 1)) :: .r 34 (.ld1 (.t 33)) :: .r 35 (.cvsb (.t 34)) :: .c 36 (.f 78) [.t 35] :: .r 37 (.fld 3 (.t 1)) :: .r 38 (.ld1 (.t 37)) :: .r 39 (.bin .neq (.t 36) (.t 38)) :: []) (.r 40 (.pick (.t 32) (.t 39) (.c (.d (.bool false)))) :: .r 28 (.mv (.t 40)) :: [])))
      (.cond (.t 28)
        (.seq (.reg [.r 2 (.mv (.c (.d (.int .i64 15))))])
        .ret)
        .skip)))))
  (.seq (.reg [.r 2 (.mv (.c (.d (.int .i64 0))))])
  .ret))))
theorem fit_desk_recordFault : fits Tryz.prog 45 Tryz.f45 sc_desk_recordFault [.t 2] 1 = true := by kernel_rfl

set_option maxRecDepth 100000 in
set_option maxHeartbeats 40000000 in
noncomputable def sims_G1_3_1 : (∀ (x0 : Tapi_Record), {m : Option (Int) // ∀ r, m = some r → PureSpec Tryz.prog 45 [.agg (rTapi_Record x0)] (.int .i64 r)}) := by
  (intro x0; apply Subtype.mk; intro r hm; apply pure_walk Tryz.func45 fit_desk_recordFault; unfold sc_desk_recordFault)
  repeat' (first | with_reducible refine W_seq ?_ | with_reducible refine W_reg ?_ | with_reducible refine W_regD ?_ | with_reducible refine W_block ?_ | with_reducible refine W_skip ?_ | with_reducible refine W_ret ?_ | with_reducible refine W_exit ?_ | with_reducible refine O_nil ?_ | with_reducible refine K_seq ?_ | with_reducible refine K_seqE ?_ | with_reducible refine K_seqR ?_ | with_reducible refine K_block ?_ | with_reducible refine K_blockR ?_ | with_reducible refine K_blockE ?_ | ((with_reducible apply K_blockN); decide) | with_reducible refine O_o2r ?_ | ((with_reducible apply O_cvsb); (simp only [push_cast, seval]; rfl)) | ((with_reducible apply O_r); (simp only [push_cast, seval]; rfl); (first | exact trivial | omega)) | ((with_reducible apply O_and hm); (simp only [push_cast, seval]; rfl); rfl; intro v hm; rotate_left; intro v g hm) | ((with_reducible apply W_condT); (focus (simp only [push_cast, seval]; done))) | ((with_reducible apply W_condF); (focus (simp only [push_cast, seval]; done))) | ((with_reducible apply O_cF hm); (simp only [push_cast, seval]; rfl); (first | apply spec_desk_fieldsFault _ _ _ _ | apply spec_desk_isDigest _ | apply spec_partner_Digest _); (any_goals ((repeat' (first | rfl | (with_reducible first | apply fT_Tapi_Record | apply f_optN | apply f_optS | apply f_some | apply f_tup | apply f_agg | apply f_ptr | apply f_fn | apply dv_slice | apply sv_d | apply f_cons | apply fold_nil | apply fold_cons | apply fold_app | apply f_rowI | apply f_rowY | apply f_rowS | apply f_rowB | apply f_rowL) | (with_reducible apply f_byte; decide))); done)); intro x hm) | ((with_reducible apply S_condB hm); (simp only [push_cast, seval]; rfl); intro hm; rotate_left; intro hm) | ((with_reducible apply K_endS hm); (focus (simp only [resOf, resL, RV.get, push_cast, seval]; rfl)); (focus ((repeat' (first | rfl | (with_reducible first | apply fT_Tapi_Record | apply f_optN | apply f_optS | apply f_some | apply f_tup | apply f_agg | apply f_ptr | apply f_fn | apply dv_slice | apply sv_d | apply f_cons | apply fold_nil | apply fold_cons | apply fold_app | apply f_rowI | apply f_rowY | apply f_rowS | apply f_rowB | apply f_rowL) | (with_reducible apply f_byte; decide))); done))) | ((with_reducible apply K_bool hm); (simp only [push_cast, seval]; rfl)))
noncomputable def m_desk_recordFault (x0 : Tapi_Record) : Option (Int) := (sims_G1_3_1 x0).1
theorem spec_desk_recordFault (x0 : Tapi_Record) : ∀ r, m_desk_recordFault x0 = some r → PureSpec Tryz.prog 45 [.agg (rTapi_Record x0)] (.int .i64 r) := (sims_G1_3_1 x0).2

/-- interchange/interchangeref12.recordOf -/
def sc_interchangeref12_recordOf : SC :=
  (.seq (.reg [.w 2 (.boxM (.c (.agg [.d (.int .i64 0), .d (.str []), .d (.str []), .d (.str []), .d (.bool false), .d (.str [])]))),
     .r 3 (.mv (.c (.d (.bool false))))])
  (.seq (.reg [.r 8 (.mv (.t 0)),
     .c 9 (.f 47) [.t 8, .c (.d (.str [32])), .c (.d (.int .i64 5))],
     .r 4 (.mv (.t 9))])
  (.seq (.seq (.reg (.r 10 (.mv (.t 4)) :: .r 11 (.len (.t 10)) :: .r 12 (.bin .neq (.t 11) (.c (.d (.int .i64 5)))) :: .r 13 (.mv (.t 12)) :: gapp [14, 15, 16, 17, 18] 13 false (.r 14 (.mv (.t 4)) :: .r 15 (.idx 1 (.t 14) (.c (.d (.int .i64 1)))) :: .r 16 (.ld1 (.t 15)) :: .c 17 (.f 48) [.t 16] :: .r 18 (.not (.t 17)) :: []) (.r 19 (.pick (.t 13) (.c (.d (.bool true))) (.t 18)) :: .r 20 (.mv (.t 19)) :: gapp [21, 22, 23, 24, 25] 20 false (.r 21 (.mv (.t 4)) :: .r 22 (.idx 1 (.t 21) (.c (.d (.int .i64 2)))) :: .r 23 (.ld1 (.t 22)) :: .c 24 (.f 48) [.t 23] :: .r 25 (.not (.t 24)) :: []) (.r 26 (.pick (.t 20) (.c (.d (.bool true))) (.t 25)) :: .r 27 (.mv (.t 26)) :: gapp [28, 29, 30, 31, 32] 27 false (.r 28 (.mv (.t 4)) :: .r 29 (.idx 1 (.t 28) (.c (.d (.int .i64 3)))) :: .r 30 (.ld1 (.t 29)) :: .c 31 (.f 48) [.t 30] :: .r 32 (.not (.t 31)) :: []) (.r 33 (.pick (.t 27) (.c (.d (.bool true))) (.t 32)) :: [])))))
  (.cond (.t 33)
    (.seq (.reg [.r 34 (.build [.d (.int .i64 0), .d (.str []), .d (.str []), .d (.str []), .d (.bool false), .d (.str [])] []),
       .w 0 (.st 6 (.t 2) (.t 34)),
       .r 3 (.mv (.c (.d (.bool false))))])
    .ret)
    .skip))
  (.seq (.reg [.r 36 (.mv (.t 4)),
     .r 37 (.idx 1 (.t 36) (.c (.d (.int .i64 0)))),
     .o 38 (.ld1 (.t 37)),
     .c 39 (.f 49) [.t 38],
     .r 35 (.mv (.t 39)),
     .r 40 (.ext (.t 35) 0),
     .r 41 (.ext (.t 35) 1),
     .r 5 (.mv (.t 40)),
     .r 6 (.mv (.t 41))])
  (.seq (.regE [.r 42 (.mv (.t 5)),
     .r 43 (.mv (.t 4)),
     .r 44 (.idx 1 (.t 43) (.c (.d (.int .i64 1)))),
     .r 45 (.ld1 (.t 44)),
     .r 46 (.mv (.t 4)),
     .r 47 (.idx 1 (.t 46) (.c (.d (.int .i64 2)))),
     .r 48 (.ld1 (.t 47)),
     .r 49 (.mv (.t 4)),
     .r 50 (.idx 1 (.t 49) (.c (.d (.int .i64 3)))),
     .r 51 (.ld1 (.t 50)),
     .r 52 (.build [.d (.int .i64 0), .d (.str []), .d (.str []), .d (.str []), .d (.bool false), .d (.str [])] [(0, 1, .t 42), (1, 1, .t 45), (2, 1, .t 48), (3, 1, .t 51)]),
     .x 7 (.boxM (.c (.agg [.d (.int .i64 0), .d (.str []), .d (.str []), .d (.str []), .d (.bool false), .d (.str [])]))) [(0, 42, .mv (.t 5)), (1, 43, .mv (.t 4)), (2, 44, .idx 1 (.t 43) (.c (.d (.int .i64 1)))), (3, 45, .ld1 (.t 44)), (4, 46, .mv (.t 4)), (5, 47, .idx 1 (.t 46) (.c (.d (.int .i64 2)))), (6, 48, .ld1 (.t 47)), (7, 49, .mv (.t 4)), (8, 50, .idx 1 (.t 49) (.c (.d (.int .i64 3)))), (9, 51, .ld1 (.t 50)), (10, 52, .build [.d (.int .i64 0), .d (.str []), .d (.str []), .d (.str []), .d (.bool false), .d (.str [])] [(0, 1, .t 42), (1, 1, .t 45), (2, 1, .t 48), (3, 1, .t 51)])],
     .x 0 (.st 6 (.t 7) (.t 52)) []])
  (.seq (.seq (.reg [.r 53 (.mv (.t 4)),
     .r 54 (.idx 1 (.t 53) (.c (.d (.int .i64 4)))),
     .o 55 (.ld1 (.t 54)),
     .r 56 (.bin .eql (.t 55) (.c (.d (.str [100, 114, 111, 112, 112, 101, 100]))))])
  (.cond (.t 56)
    (.seq (.reg [.r 57 (.fld 4 (.t 7)),
       .w 0 (.st 1 (.t 57) (.c (.d (.bool true))))])
    (.seq (.reg [.o 58 (.ldA 6 (.t 7)),
       .r 59 (.mv (.t 6)),
       .w 0 (.st 6 (.t 2) (.t 58)),
       .r 3 (.mv (.t 59))])
    .ret))
    .skip))
  (.seq (.reg [.r 60 (.mv (.t 4)),
     .r 61 (.idx 1 (.t 60) (.c (.d (.int .i64 4)))),
     .o 62 (.ld1 (.t 61)),
     .c 63 (.f 50) [.t 62, .c (.d (.str [58]))],
     .r 64 (.fld 5 (.t 7)),
     .w 0 (.st 1 (.t 64) (.t 63))])
  (.seq (.regE (.r 65 (.ldA 6 (.t 7)) :: .r 66 (.mv (.t 6)) :: .r 67 (.mv (.t 66)) :: gapp [68, 69, 70, 71] 67 true (.r 68 (.mv (.t 4)) :: .r 69 (.idx 1 (.t 68) (.c (.d (.int .i64 4)))) :: .r 70 (.ld1 (.t 69)) :: .c 71 (.f 51) [.t 70, .c (.d (.str [58]))] :: []) (.r 72 (.pick (.t 67) (.t 71) (.c (.d (.bool false)))) :: .x 0 (.st 6 (.t 2) (.t 65)) [(7, 72, .pick (.t 67) (.t 71) (.c (.d (.bool false))))] :: .r 3 (.mv (.t 72)) :: [])))
  .ret))))))))
theorem fit_interchangeref12_recordOf : fits Tryz.prog 22 Tryz.f22 sc_interchangeref12_recordOf [.cell 2 6, .t 3] 1 = true := by kernel_rfl

set_option maxRecDepth 100000 in
set_option maxHeartbeats 40000000 in
noncomputable def sims_G1_3_2 : (∀ (x0 : List UInt8), {m : Option (Tapi_Record × Bool) // ∀ r, m = some r → PureSpec Tryz.prog 22 [.str x0] (.tup [.agg (rTapi_Record r.1), .bool r.2])}) := by
  (intro x0; apply Subtype.mk; intro r hm; apply pure_walk Tryz.func22 fit_interchangeref12_recordOf; unfold sc_interchangeref12_recordOf)
  repeat' (first | with_reducible refine W_seq ?_ | with_reducible refine W_reg ?_ | with_reducible refine W_regE ?_ | with_reducible refine W_block ?_ | with_reducible refine W_skip ?_ | with_reducible refine W_ret ?_ | with_reducible refine W_exit ?_ | with_reducible refine O_nil ?_ | with_reducible refine K_seq ?_ | with_reducible refine K_seqE ?_ | with_reducible refine K_seqR ?_ | with_reducible refine K_block ?_ | with_reducible refine K_blockR ?_ | with_reducible refine K_blockE ?_ | ((with_reducible apply K_blockN); decide) | with_reducible refine O_o2r ?_ | ((with_reducible apply O_idxrE hm); (iterate 2 (simp only [push_cast, seval]; rfl)); (intro _; rfl); intro e he hm) | ((with_reducible apply O_idxVr hm); (iterate 3 (simp only [push_cast, seval]; rfl)); intro e hm) | ((with_reducible apply O_r); (simp only [push_cast, seval]; rfl); (first | exact trivial | omega)) | ((with_reducible apply O_ldV1r hm); (iterate 2 (simp only [push_cast, seval]; rfl)); (intro _; rfl); intro e hm) | ((with_reducible apply O_ldAVr hm); (iterate 2 (simp only [push_cast, seval]; rfl)); (intro _; rfl); intro e hm) | ((with_reducible apply O_andX hm); (simp only [push_cast, seval]; rfl); (iterate 2 rfl); intro v hm; rotate_left; intro v g hm) | ((with_reducible apply O_and hm); (simp only [push_cast, seval]; rfl); rfl; intro v hm; rotate_left; intro v g hm) | ((with_reducible apply O_or hm); (simp only [push_cast, seval]; rfl); rfl; intro v hm; rotate_left; intro v g hm) | ((with_reducible apply W_condT); (focus (simp only [push_cast, seval]; done))) | ((with_reducible apply W_condF); (focus (simp only [push_cast, seval]; done))) | ((with_reducible apply O_cF hm); (simp only [push_cast, seval]; rfl); (first | apply spec_strings_SplitN _ _ _ | apply spec_interchangeref12_isWord _ | apply spec_interchangeref12_longNumber _ | apply spec_strings_TrimPrefix _ _ | apply spec_strings_HasPrefix _ _); (any_goals ((repeat' (first | rfl | (with_reducible first | apply fT_Tapi_Record | apply f_optN | apply f_optS | apply f_some | apply f_tup | apply f_agg | apply f_ptr | apply f_fn | apply dv_slice | apply sv_d | apply f_cons | apply fold_nil | apply fold_cons | apply fold_app | apply f_rowI | apply f_rowY | apply f_rowS | apply f_rowB | apply f_rowL) | (with_reducible apply f_byte; decide))); done)); intro x hm) | ((with_reducible apply O_w); (simp only [push_cast, seval]; rfl); (first | exact trivial | omega)) | ((with_reducible apply O_stVA hm); (iterate 4 (simp only [push_cast, seval]; rfl)); (focus ((repeat' (first | rfl | (with_reducible first | apply fT_Tapi_Record | apply f_optN | apply f_optS | apply f_some | apply f_tup | apply f_agg | apply f_ptr | apply f_fn | apply dv_slice | apply sv_d | apply f_cons | apply fold_nil | apply fold_cons | apply fold_app | apply f_rowI | apply f_rowY | apply f_rowS | apply f_rowB | apply f_rowL) | (with_reducible apply f_byte; decide))); done)); decide; (intro _; rfl); intro e hm) | ((with_reducible apply O_stVAX hm); (iterate 3 (simp only [push_cast, seval]; rfl)); (focus ((repeat' (first | rfl | (with_reducible first | apply fT_Tapi_Record | apply f_optN | apply f_optS | apply f_some | apply f_tup | apply f_agg | apply f_ptr | apply f_fn | apply dv_slice | apply sv_d | apply f_cons | apply fold_nil | apply fold_cons | apply fold_app | apply f_rowI | apply f_rowY | apply f_rowS | apply f_rowB | apply f_rowL) | (with_reducible apply f_byte; decide))); done)); (intro _; rfl); (focus ((repeat' (first | exact Rer_nil | ((with_reducible apply Rer_idx); (focus (simp only [push_cast, seval]; rfl)); (focus (simp only [push_cast, seval]; rfl)); rotate_left 2; (focus (first | (simp only [push_cast, seval]; rfl) | (simp only [push_cast, seval]; done))); rotate_left; (focus assumption); (focus (intro _; rfl))) | ((with_reducible apply Rer_cons); (focus (simp only [push_cast, seval]; rfl)); (focus (first | exact trivial | omega)); (focus (simp only [push_cast, seval]))))); done)); intro e hm) | ((with_reducible apply O_x); (simp only [push_cast, seval]; rfl); (first | exact trivial | omega); (focus ((repeat' (first | exact Rer_nil | ((with_reducible apply Rer_idx); (focus (simp only [push_cast, seval]; rfl)); (focus (simp only [push_cast, seval]; rfl)); rotate_left 2; (focus (first | (simp only [push_cast, seval]; rfl) | (simp only [push_cast, seval]; done))); rotate_left; (focus assumption); (focus (intro _; rfl))) | ((with_reducible apply Rer_cons); (focus (simp only [push_cast, seval]; rfl)); (focus (first | exact trivial | omega)); (focus (simp only [push_cast, seval]))))); done))) | ((with_reducible apply S_condB hm); (simp only [push_cast, seval]; rfl); intro hm; rotate_left; intro hm) | ((with_reducible apply K_end2 hm); (focus (simp only [resOf, resL, RV.get, push_cast, seval]; rfl)); (focus (first | (dsimp only; done) | (dsimp only; rfl) | rfl)); (focus ((repeat' (first | rfl | (with_reducible first | apply fT_Tapi_Record | apply f_optN | apply f_optS | apply f_some | apply f_tup | apply f_agg | apply f_ptr | apply f_fn | apply dv_slice | apply sv_d | apply f_cons | apply fold_nil | apply fold_cons | apply fold_app | apply f_rowI | apply f_rowY | apply f_rowS | apply f_rowB | apply f_rowL) | (with_reducible apply f_byte; decide))); done))) | ((with_reducible apply K_bool hm); (simp only [push_cast, seval]; rfl)))
noncomputable def m_interchangeref12_recordOf (x0 : List UInt8) : Option (Tapi_Record × Bool) := (sims_G1_3_2 x0).1
theorem spec_interchangeref12_recordOf (x0 : List UInt8) : ∀ r, m_interchangeref12_recordOf x0 = some r → PureSpec Tryz.prog 22 [.str x0] (.tup [.agg (rTapi_Record r.1), .bool r.2]) := (sims_G1_3_2 x0).2

def sc_interchangeref12_CheckArchive_L1 : SC :=
  (.seq (.seq (.reg [.r 8 (.mv (.t 3)),
     .r 9 (.mv (.t 0)),
     .r 10 (.len (.t 9)),
     .r 11 (.bin .lss (.t 8) (.t 10))])
  (.cond (.t 11)
    .skip
    (.exit 0)))
  (.seq (.block 1 (.seq (.seq (.reg [.r 14 (.mv (.t 0)),
       .r 15 (.mv (.t 3)),
       .r 16 (.idx 6 (.t 14) (.t 15)),
       .o 17 (.ldA 6 (.t 16)),
       .c 18 (.f 52) [.t 17],
       .r 4 (.mv (.t 18))])
    (.seq (.reg [.r 19 (.mv (.t 4)),
       .r 20 (.bin .neq (.t 19) (.c (.d (.int .i64 0))))])
    (.cond (.t 20)
      (.seq (.reg [.r 21 (.mv (.t 4)),
         .r 2 (.mv (.t 21))])
      .ret)
      .skip)))
    (.seq (.regD (.r 22 (.mv (.t 3)) :: .r 23 (.bin .gtr (.t 22) (.c (.d (.int .i64 0)))) :: .r 24 (.mv (.t 23)) :: gapp [25, 26, 27, 28, 29, 30, 31, 32, 33, 34, 35, 36] 24 true (.r 25 (.mv (.t 0)) :: .r 26 (.mv (.t 3)) :: .r 27 (.idx 6 (.t 25) (.t 26)) :: .r 28 (.fld 0 (.t 27)) :: .r 29 (.ld1 (.t 28)) :: .r 30 (.mv (.t 0)) :: .r 31 (.mv (.t 3)) :: .r 32 (.bin .sub (.t 31) (.c (.d (.int .i64 1)))) :: .r 33 (.idx 6 (.t 30) (.t 32)) :: .r 34 (.fld 0 (.t 33)) :: .r 35 (.ld1 (.t 34)) :: .r 36 (.bin .lss (.t 29) (.t 35)) :: []) (.r 37 (.pick (.t 24) (.t 36) (.c (.d (.bool false)))) :: [])))
    (.cond (.t 37)
      (.seq (.reg [.r 2 (.mv (.c (.d (.int .i64 8))))])
      .ret)
      .skip))))
  (.reg [.r 12 (.mv (.t 3)),
     .r 13 (.bin .add (.t 12) (.c (.d (.int .i64 1)))),
     .r 3 (.mv (.t 13))])))
def sc_interchangeref12_CheckArchive_B1 : SC := .block 0 (.loop sc_interchangeref12_CheckArchive_L1)
/-- interchange/interchangeref12.CheckArchive -/
def sc_interchangeref12_CheckArchive : SC :=
  (.seq (.reg [.r 2 (.mv (.c (.d (.int .i64 0))))])
  (.seq (.seq (.reg [.r 5 (.mv (.t 0)),
     .r 6 (.len (.t 5)),
     .r 7 (.bin .gtr (.t 6) (.c (.d (.int .i64 2000))))])
  (.cond (.t 7)
    (.seq (.reg [.r 2 (.mv (.c (.d (.int .i64 2))))])
    .ret)
    .skip))
  (.seq (.seq (.reg [.r 3 (.mv (.c (.d (.int .i64 0))))])
  sc_interchangeref12_CheckArchive_B1)
  (.seq (.reg [.r 2 (.mv (.c (.d (.int .i64 0))))])
  .ret))))
theorem fit_interchangeref12_CheckArchive : fits Tryz.prog 23 Tryz.f23 sc_interchangeref12_CheckArchive [.t 2] 1 = true := by kernel_rfl

set_option maxRecDepth 100000 in
set_option maxHeartbeats 40000000 in
noncomputable def sims_G1_3_3 : (∀ (x0 : List Tapi_Record), {m : Option (Int) // ∀ r, m = some r → PureSpec Tryz.prog 23 [.slice (List.map rTapi_Record x0)] (.int .i64 r)}) := by
  (intro x0; apply Subtype.mk; intro r hm; apply pure_walk Tryz.func23 fit_interchangeref12_CheckArchive; unfold sc_interchangeref12_CheckArchive)
  repeat' (first | with_reducible refine W_seq ?_ | with_reducible refine W_reg ?_ | with_reducible refine W_regD ?_ | with_reducible refine W_block ?_ | with_reducible refine W_skip ?_ | with_reducible refine W_ret ?_ | with_reducible refine W_exit ?_ | with_reducible refine O_nil ?_ | with_reducible refine K_seq ?_ | with_reducible refine K_seqE ?_ | with_reducible refine K_seqR ?_ | with_reducible refine K_block ?_ | with_reducible refine K_blockR ?_ | with_reducible refine K_blockE ?_ | ((with_reducible apply K_blockN); decide) | with_reducible refine O_o2r ?_ | ((with_reducible apply O_idxr hm); (iterate 2 (simp only [push_cast, seval]; rfl)); (intro _; rfl); intro e hm) | ((with_reducible apply O_idxVr hm); (iterate 3 (simp only [push_cast, seval]; rfl)); intro e hm) | ((with_reducible apply O_r); (simp only [push_cast, seval]; rfl); (first | exact trivial | omega)) | ((with_reducible apply O_ldV1r hm); (iterate 2 (simp only [push_cast, seval]; rfl)); (intro _; rfl); intro e hm) | ((with_reducible apply O_ldAVr hm); (iterate 2 (simp only [push_cast, seval]; rfl)); (intro _; rfl); intro e hm) | ((with_reducible apply O_strr hm); (iterate 2 (simp only [push_cast, seval]; rfl)); intro hm) | ((with_reducible apply O_and hm); (simp only [push_cast, seval]; rfl); rfl; intro v hm; rotate_left; intro v g hm) | ((with_reducible apply W_condT); (focus (simp only [push_cast, seval]; done))) | ((with_reducible apply W_condF); (focus (simp only [push_cast, seval]; done))) | ((with_reducible apply O_cF hm); (simp only [push_cast, seval]; rfl); (first | apply spec_interchangeref12_checkRecord _); (any_goals ((repeat' (first | rfl | (with_reducible first | apply fT_Tapi_Record | apply f_optN | apply f_optS | apply f_some | apply f_tup | apply f_agg | apply f_ptr | apply f_fn | apply dv_slice | apply sv_d | apply f_cons | apply fold_nil | apply fold_cons | apply fold_app | apply f_rowI | apply f_rowY | apply f_rowS | apply f_rowB | apply f_rowL) | (with_reducible apply f_byte; decide))); done)); intro x hm) | ((with_reducible apply S_condB hm); (simp only [push_cast, seval]; rfl); intro hm; rotate_left; intro hm) | ((with_reducible apply K_endS hm); (focus (simp only [resOf, resL, RV.get, push_cast, seval]; rfl)); (focus ((repeat' (first | rfl | (with_reducible first | apply fT_Tapi_Record | apply f_optN | apply f_optS | apply f_some | apply f_tup | apply f_agg | apply f_ptr | apply f_fn | apply dv_slice | apply sv_d | apply f_cons | apply fold_nil | apply fold_cons | apply fold_app | apply f_rowI | apply f_rowY | apply f_rowS | apply f_rowB | apply f_rowL) | (with_reducible apply f_byte; decide))); done))) | ((with_reducible apply K_bool hm); (simp only [push_cast, seval]; rfl)) | ((with_reducible apply K_leave hm); intro r hm) | ((with_reducible apply K_leaveR hm); intro r hm) | ((apply S_loopY (b := 0) (X := sc_interchangeref12_CheckArchive_B1) (x := sc_interchangeref12_CheckArchive_L1) rfl (fun (c : SV) (s : Int) => st [(0, c), (3, .d (.int .i64 s))] []) (c := _) (s0 := _) hm); (focus (first | (dsimp only; done) | (dsimp only; rfl) | rfl)); (with_reducible refine Then.mk ?_ ?_)) | ((apply K_next (s' := _) hm); (focus (first | (dsimp only; done) | (dsimp only; rfl) | rfl))) | ((apply K_brk (s' := _) hm); (focus (first | (dsimp only; done) | (dsimp only; rfl) | rfl))) | (((with_reducible apply K_brkN hm); (focus decide); intro r hm)) | (((with_reducible apply K_brkR hm); intro r hm)) | (((with_reducible apply LoopB.of); (focus (first | (dsimp only; done) | (dsimp only; rfl) | rfl)); (focus ((intro _; repeat' (first | with_reducible exact impC_end | with_reducible exact impC_endF | with_reducible refine impC_seq ?_ | with_reducible refine impC_block ?_ | ((with_reducible refine impC_rnd ?_); intro _) | ((with_reducible refine impC_brk ?_); intro _))))); (intro s o hm; first | unfold sc_interchangeref12_CheckArchive_L1); rotate_left; intro s hm)) | (((apply imp_stT; (repeat' (first | with_reducible exact keepT_nil | with_reducible exact keepC_nil | with_reducible apply keepT_cons | with_reducible apply keepC_cons | ((with_reducible apply svle_eq); (focus (first | (simp only [push_cast, seval]; rfl) | rfl)); (focus ((repeat' (first | rfl | (with_reducible first | apply fT_Tapi_Record | apply f_optN | apply f_optS | apply f_some | apply f_tup | apply f_agg | apply f_ptr | apply f_fn | apply dv_slice | apply sv_d | apply f_cons | apply fold_nil | apply fold_cons | apply fold_app | apply f_rowI | apply f_rowY | apply f_rowS | apply f_rowB | apply f_rowL) | (with_reducible apply f_byte; decide))); done))) | ((with_reducible apply svle_td); (focus (first | (simp only [push_cast, seval]; rfl) | rfl)); (focus (first | (simp only [push_cast, seval]; rfl) | rfl)); (focus ((repeat' (first | rfl | (with_reducible first | apply fT_Tapi_Record | apply f_optN | apply f_optS | apply f_some | apply f_tup | apply f_agg | apply f_ptr | apply f_fn | apply dv_slice | apply sv_d | apply f_cons | apply fold_nil | apply fold_cons | apply fold_app | apply f_rowI | apply f_rowY | apply f_rowS | apply f_rowB | apply f_rowL) | (with_reducible apply f_byte; decide))); done))) | ((with_reducible apply chle_eq); (focus (first | (simp only [push_cast, seval]; rfl) | rfl)); (first | with_reducible exact chle_rfl rfl | with_reducible exact chle_map0 | with_reducible apply chle_vec | with_reducible apply chle_box)) | (with_reducible first | apply cT_Tapi_Record | apply r_shS | apply r_shI | apply r_rflO | apply r_oneO | apply r_appO | apply r_nilO | apply c_ownN | apply c_ownL | apply vc_rfl | apply vc_nil | apply vc_cons | apply r_rfl | apply r_rows | apply r_nil | apply r_app | apply r_cons | apply c_rowI | apply c_rowY | apply c_rowS | apply c_rowB | apply c_rowL))); done))))
noncomputable def m_interchangeref12_CheckArchive (x0 : List Tapi_Record) : Option (Int) := (sims_G1_3_3 x0).1
theorem spec_interchangeref12_CheckArchive (x0 : List Tapi_Record) : ∀ r, m_interchangeref12_CheckArchive x0 = some r → PureSpec Tryz.prog 23 [.slice (List.map rTapi_Record x0)] (.int .i64 r) := (sims_G1_3_3 x0).2

def sc_desk_CheckArchive_L1 : SC :=
  (.seq (.reg [.r 12 (.bin .lss (.t 11) (.t 10))])
  (.seq (.cond (.t 12)
    .skip
    (.exit 0))
  (.seq (.block 1 (.seq (.reg [.r 13 (.mv (.t 11)),
       .r 14 (.idx 6 (.t 9) (.t 11)),
       .o 15 (.ldA 6 (.t 14)),
       .w 4 (.boxM (.c (.agg [.d (.int .i64 0), .d (.str []), .d (.str []), .d (.str []), .d (.bool false), .d (.str [])]))),
       .r 3 (.mv (.t 13)),
       .w 0 (.st 6 (.t 4) (.t 15))])
    (.seq (.seq (.reg [.o 16 (.ldA 6 (.t 4)),
       .c 17 (.f 45) [.t 16],
       .r 5 (.mv (.t 17))])
    (.seq (.reg [.r 18 (.mv (.t 5)),
       .r 19 (.bin .neq (.t 18) (.c (.d (.int .i64 0))))])
    (.cond (.t 19)
      (.seq (.reg [.r 20 (.mv (.t 5)),
         .r 2 (.mv (.t 20))])
      .ret)
      .skip)))
    (.seq (.regD (.r 21 (.mv (.t 3)) :: .r 22 (.bin .gtr (.t 21) (.c (.d (.int .i64 0)))) :: .r 23 (.mv (.t 22)) :: gapp [24, 25, 26, 27, 28, 29, 30, 31, 32] 23 true (.r 24 (.fld 0 (.t 4)) :: .r 25 (.ld1 (.t 24)) :: .r 26 (.mv (.t 0)) :: .r 27 (.mv (.t 3)) :: .r 28 (.bin .sub (.t 27) (.c (.d (.int .i64 1)))) :: .r 29 (.idx 6 (.t 26) (.t 28)) :: .r 30 (.fld 0 (.t 29)) :: .r 31 (.ld1 (.t 30)) :: .r 32 (.bin .lss (.t 25) (.t 31)) :: []) (.r 33 (.pick (.t 23) (.t 32) (.c (.d (.bool false)))) :: [])))
    (.cond (.t 33)
      (.seq (.reg [.r 2 (.mv (.c (.d (.int .i64 8))))])
      .ret)
      .skip)))))
  (.reg [.r 34 (.bin .add (.t 11) (.c (.d (.int .i64 1)))),
     .r 11 (.mv (.t 34))]))))
def sc_desk_CheckArchive_B1 : SC := .block 0 (.loop sc_desk_CheckArchive_L1)
/-- interchange/desk.CheckArchive -/
def sc_desk_CheckArchive : SC :=
  (.seq (.reg [.r 2 (.mv (.c (.d (.int .i64 0))))])
  (.seq (.seq (.reg [.r 6 (.mv (.t 0)),
     .r 7 (.len (.t 6)),
     .r 8 (.bin .gtr (.t 7) (.c (.d (.int .i64 2000))))])
  (.cond (.t 8)
    (.seq (.reg [.r 2 (.mv (.c (.d (.int .i64 2))))])
    .ret)
    .skip))
  (.seq (.seq (.reg [.r 9 (.mv (.t 0)),
     .r 10 (.len (.t 9)),
     .r 11 (.mv (.c (.d (.int .i64 0))))])
  sc_desk_CheckArchive_B1)
  (.seq (.reg [.r 2 (.mv (.c (.d (.int .i64 0))))])
  .ret))))
theorem fit_desk_CheckArchive : fits Tryz.prog 20 Tryz.f20 sc_desk_CheckArchive [.t 2] 1 = true := by kernel_rfl

set_option maxRecDepth 100000 in
set_option maxHeartbeats 40000000 in
noncomputable def sims_G1_4_0 : (∀ (x0 : List Tapi_Record), {m : Option (Int) // ∀ r, m = some r → PureSpec Tryz.prog 20 [.slice (List.map rTapi_Record x0)] (.int .i64 r)}) := by
  (intro x0; apply Subtype.mk; intro r hm; apply pure_walk Tryz.func20 fit_desk_CheckArchive; unfold sc_desk_CheckArchive)
  repeat' (first | with_reducible refine W_seq ?_ | with_reducible refine W_reg ?_ | with_reducible refine W_regD ?_ | with_reducible refine W_block ?_ | with_reducible refine W_skip ?_ | with_reducible refine W_ret ?_ | with_reducible refine W_exit ?_ | with_reducible refine O_nil ?_ | with_reducible refine K_seq ?_ | with_reducible refine K_seqE ?_ | with_reducible refine K_seqR ?_ | with_reducible refine K_block ?_ | with_reducible refine K_blockR ?_ | with_reducible refine K_blockE ?_ | ((with_reducible apply K_blockN); decide) | with_reducible refine O_o2r ?_ | ((with_reducible apply O_idxr hm); (iterate 2 (simp only [push_cast, seval]; rfl)); (intro _; rfl); intro e hm) | ((with_reducible apply O_idxVr hm); (iterate 3 (simp only [push_cast, seval]; rfl)); intro e hm) | ((with_reducible apply O_r); (simp only [push_cast, seval]; rfl); (first | exact trivial | omega)) | ((with_reducible apply O_ldV1r hm); (iterate 2 (simp only [push_cast, seval]; rfl)); (intro _; rfl); intro e hm) | ((with_reducible apply O_ldAVr hm); (iterate 2 (simp only [push_cast, seval]; rfl)); (intro _; rfl); intro e hm) | ((with_reducible apply O_strr hm); (iterate 2 (simp only [push_cast, seval]; rfl)); intro hm) | ((with_reducible apply O_and hm); (simp only [push_cast, seval]; rfl); rfl; intro v hm; rotate_left; intro v g hm) | ((with_reducible apply W_condT); (focus (simp only [push_cast, seval]; done))) | ((with_reducible apply W_condF); (focus (simp only [push_cast, seval]; done))) | ((with_reducible apply O_cF hm); (simp only [push_cast, seval]; rfl); (first | apply spec_desk_recordFault _); (any_goals ((repeat' (first | rfl | (with_reducible first | apply fT_Tapi_Record | apply f_optN | apply f_optS | apply f_some | apply f_tup | apply f_agg | apply f_ptr | apply f_fn | apply dv_slice | apply sv_d | apply f_cons | apply fold_nil | apply fold_cons | apply fold_app | apply f_rowI | apply f_rowY | apply f_rowS | apply f_rowB | apply f_rowL) | (with_reducible apply f_byte; decide))); done)); intro x hm) | ((with_reducible apply O_w); (simp only [push_cast, seval]; rfl); (first | exact trivial | omega)) | ((with_reducible apply O_stVA hm); (iterate 4 (simp only [push_cast, seval]; rfl)); (focus ((repeat' (first | rfl | (with_reducible first | apply fT_Tapi_Record | apply f_optN | apply f_optS | apply f_some | apply f_tup | apply f_agg | apply f_ptr | apply f_fn | apply dv_slice | apply sv_d | apply f_cons | apply fold_nil | apply fold_cons | apply fold_app | apply f_rowI | apply f_rowY | apply f_rowS | apply f_rowB | apply f_rowL) | (with_reducible apply f_byte; decide))); done)); decide; (intro _; rfl); intro e hm) | ((with_reducible apply S_condB hm); (simp only [push_cast, seval]; rfl); intro hm; rotate_left; intro hm) | ((with_reducible apply K_endS hm); (focus (simp only [resOf, resL, RV.get, push_cast, seval]; rfl)); (focus ((repeat' (first | rfl | (with_reducible first | apply fT_Tapi_Record | apply f_optN | apply f_optS | apply f_some | apply f_tup | apply f_agg | apply f_ptr | apply f_fn | apply dv_slice | apply sv_d | apply f_cons | apply fold_nil | apply fold_cons | apply fold_app | apply f_rowI | apply f_rowY | apply f_rowS | apply f_rowB | apply f_rowL) | (with_reducible apply f_byte; decide))); done))) | ((with_reducible apply K_bool hm); (simp only [push_cast, seval]; rfl)) | ((with_reducible apply K_leave hm); intro r hm) | ((with_reducible apply K_leaveR hm); intro r hm) | ((apply S_loopY (b := 0) (X := sc_desk_CheckArchive_B1) (x := sc_desk_CheckArchive_L1) rfl (fun (c : SV × SV × SV) (s : Int) => st [(0, c.1), (9, c.2.1), (10, c.2.2), (11, .d (.int .i64 s))] []) (c := (_, _, _)) (s0 := _) hm); (focus (first | (dsimp only; done) | (dsimp only; rfl) | rfl)); (with_reducible refine Then.mk ?_ ?_)) | ((apply K_next (s' := _) hm); (focus (first | (dsimp only; done) | (dsimp only; rfl) | rfl))) | ((apply K_brk (s' := _) hm); (focus (first | (dsimp only; done) | (dsimp only; rfl) | rfl))) | (((with_reducible apply K_brkN hm); (focus decide); intro r hm)) | (((with_reducible apply K_brkR hm); intro r hm)) | (((with_reducible apply LoopB.of); (focus (first | (dsimp only; done) | (dsimp only; rfl) | rfl)); (focus ((intro _; repeat' (first | with_reducible exact impC_end | with_reducible exact impC_endF | with_reducible refine impC_seq ?_ | with_reducible refine impC_block ?_ | ((with_reducible refine impC_rnd ?_); intro _) | ((with_reducible refine impC_brk ?_); intro _))))); (intro s o hm; first | unfold sc_desk_CheckArchive_L1); rotate_left; intro s hm)) | (((apply imp_stT; (repeat' (first | with_reducible exact keepT_nil | with_reducible exact keepC_nil | with_reducible apply keepT_cons | with_reducible apply keepC_cons | ((with_reducible apply svle_eq); (focus (first | (simp only [push_cast, seval]; rfl) | rfl)); (focus ((repeat' (first | rfl | (with_reducible first | apply fT_Tapi_Record | apply f_optN | apply f_optS | apply f_some | apply f_tup | apply f_agg | apply f_ptr | apply f_fn | apply dv_slice | apply sv_d | apply f_cons | apply fold_nil | apply fold_cons | apply fold_app | apply f_rowI | apply f_rowY | apply f_rowS | apply f_rowB | apply f_rowL) | (with_reducible apply f_byte; decide))); done))) | ((with_reducible apply svle_td); (focus (first | (simp only [push_cast, seval]; rfl) | rfl)); (focus (first | (simp only [push_cast, seval]; rfl) | rfl)); (focus ((repeat' (first | rfl | (with_reducible first | apply fT_Tapi_Record | apply f_optN | apply f_optS | apply f_some | apply f_tup | apply f_agg | apply f_ptr | apply f_fn | apply dv_slice | apply sv_d | apply f_cons | apply fold_nil | apply fold_cons | apply fold_app | apply f_rowI | apply f_rowY | apply f_rowS | apply f_rowB | apply f_rowL) | (with_reducible apply f_byte; decide))); done))) | ((with_reducible apply chle_eq); (focus (first | (simp only [push_cast, seval]; rfl) | rfl)); (first | with_reducible exact chle_rfl rfl | with_reducible exact chle_map0 | with_reducible apply chle_vec | with_reducible apply chle_box)) | (with_reducible first | apply cT_Tapi_Record | apply r_shS | apply r_shI | apply r_rflO | apply r_oneO | apply r_appO | apply r_nilO | apply c_ownN | apply c_ownL | apply vc_rfl | apply vc_nil | apply vc_cons | apply r_rfl | apply r_rows | apply r_nil | apply r_app | apply r_cons | apply c_rowI | apply c_rowY | apply c_rowS | apply c_rowB | apply c_rowL))); done))))
noncomputable def m_desk_CheckArchive (x0 : List Tapi_Record) : Option (Int) := (sims_G1_4_0 x0).1
theorem spec_desk_CheckArchive (x0 : List Tapi_Record) : ∀ r, m_desk_CheckArchive x0 = some r → PureSpec Tryz.prog 20 [.slice (List.map rTapi_Record x0)] (.int .i64 r) := (sims_G1_4_0 x0).2

def sc_interchangeref12_Read_L1 : SC :=
  (.seq (.seq (.reg [.r 15 (.mv (.t 0)),
     .r 16 (.bin .neq (.t 15) (.c (.d (.str []))))])
  (.cond (.t 16)
    .skip
    (.exit 0)))
  (.block 1 (.seq (.reg [.r 18 (.mv (.t 0)),
       .c 19 (.f 21) [.t 18, .c (.d (.str [10]))],
       .r 17 (.mv (.t 19)),
       .r 20 (.ext (.t 17) 0),
       .r 21 (.ext (.t 17) 1),
       .r 22 (.ext (.t 17) 2),
       .r 6 (.mv (.t 20)),
       .r 7 (.mv (.t 21)),
       .r 8 (.mv (.t 22))])
    (.seq (.reg [.r 24 (.mv (.t 6)),
       .c 25 (.f 22) [.t 24],
       .r 23 (.mv (.t 25)),
       .r 26 (.ext (.t 23) 0),
       .r 27 (.ext (.t 23) 1),
       .w 9 (.boxM (.c (.agg [.d (.int .i64 0), .d (.str []), .d (.str []), .d (.str []), .d (.bool false), .d (.str [])]))),
       .w 0 (.st 6 (.t 9) (.t 26)),
       .r 10 (.mv (.t 27))])
    (.seq (.seq (.reg (.r 28 (.mv (.t 8)) :: .r 29 (.not (.t 28)) :: .r 30 (.mv (.t 29)) :: gapp [31, 32] 30 false (.r 31 (.mv (.t 10)) :: .r 32 (.not (.t 31)) :: []) (.r 33 (.pick (.t 30) (.c (.d (.bool true))) (.t 32)) :: [])))
    (.cond (.t 33)
      (.seq (.reg [.r 34 (.mv (.t 5)),
         .r 35 (.len (.t 34)),
         .r 36 (.bin .add (.t 35) (.c (.d (.int .i64 1)))),
         .r 2 (.mv (.c (.nils))),
         .r 3 (.mv (.t 36)),
         .r 4 (.mv (.c (.d (.int .i64 10))))])
      .ret)
      .skip))
    (.seq (.reg [.r 37 (.mv (.t 5)),
       .o 38 (.ldA 6 (.t 9)),
       .r 39 (.bslice 6 [.t 38]),
       .w 40 (.app 28 6 (.t 37) (.t 39)),
       .r 5 (.mv (.t 40))])
    (.reg [.r 41 (.mv (.t 7)),
       .r 0 (.mv (.t 41))])))))))
def sc_interchangeref12_Read_B1 : SC := .block 0 (.loop sc_interchangeref12_Read_L1)
/-- interchange/interchangeref12.Read -/
def sc_interchangeref12_Read : SC :=
  (.seq (.reg [.r 2 (.mv (.c (.nils))),
     .r 3 (.mv (.c (.d (.int .i64 0)))),
     .r 4 (.mv (.c (.d (.int .i64 0))))])
  (.seq (.seq (.reg [.r 12 (.mv (.t 0)),
     .r 13 (.lenT (.t 12)),
     .r 14 (.bin .gtr (.t 13) (.c (.d (.int .i64 500000))))])
  (.cond (.t 14)
    (.seq (.reg [.r 2 (.mv (.c (.nils))),
       .r 3 (.mv (.c (.d (.int .i64 0)))),
       .r 4 (.mv (.c (.d (.int .i64 2))))])
    .ret)
    .skip))
  (.seq (.reg [.r 5 (.mv (.c (.nils)))])
  (.seq sc_interchangeref12_Read_B1
  (.seq (.seq (.reg [.r 42 (.mv (.t 5)),
     .c 43 (.f 23) [.t 42],
     .r 11 (.mv (.t 43))])
  (.seq (.reg [.r 44 (.mv (.t 11)),
     .r 45 (.bin .neq (.t 44) (.c (.d (.int .i64 0))))])
  (.cond (.t 45)
    (.seq (.reg [.r 46 (.mv (.t 11)),
       .r 2 (.mv (.c (.nils))),
       .r 3 (.mv (.c (.d (.int .i64 0)))),
       .r 4 (.mv (.t 46))])
    .ret)
    .skip)))
  (.seq (.reg [.r 47 (.mv (.t 5)),
     .r 2 (.mv (.t 47)),
     .r 3 (.mv (.c (.d (.int .i64 0)))),
     .r 4 (.mv (.c (.d (.int .i64 0))))])
  .ret))))))
theorem fit_interchangeref12_Read : fits Tryz.prog 6 Tryz.f6 sc_interchangeref12_Read [.t 2, .t 3, .t 4] 1 = true := by kernel_rfl

set_option maxRecDepth 100000 in
set_option maxHeartbeats 40000000 in
noncomputable def sims_G1_4_1 : (∀ (x0 : List UInt8), {m : Option ((List Tapi_Record) × Int × Int) // ∀ r, m = some r → PureSpec Tryz.prog 6 [.str x0] (.tup [.slice (List.map rTapi_Record r.1), .int .i64 r.2.1, .int .i64 r.2.2])}) := by
  (intro x0; apply Subtype.mk; intro r hm; apply pure_walk Tryz.func6 fit_interchangeref12_Read; unfold sc_interchangeref12_Read)
  repeat' (first | with_reducible refine W_seq ?_ | with_reducible refine W_reg ?_ | with_reducible refine W_block ?_ | with_reducible refine W_skip ?_ | with_reducible refine W_ret ?_ | with_reducible refine W_exit ?_ | with_reducible refine O_nil ?_ | with_reducible refine K_seq ?_ | with_reducible refine K_seqE ?_ | with_reducible refine K_seqR ?_ | with_reducible refine K_block ?_ | with_reducible refine K_blockR ?_ | with_reducible refine K_blockE ?_ | ((with_reducible apply K_blockN); decide) | with_reducible refine O_o2r ?_ | ((with_reducible apply O_r); (simp only [push_cast, seval]; rfl); (first | exact trivial | omega)) | ((with_reducible apply O_strr hm); (iterate 2 (simp only [push_cast, seval]; rfl)); intro hm) | ((with_reducible apply O_or hm); (simp only [push_cast, seval]; rfl); rfl; intro v hm; rotate_left; intro v g hm) | ((with_reducible apply W_condT); (focus (simp only [push_cast, seval]; done))) | ((with_reducible apply W_condF); (focus (simp only [push_cast, seval]; done))) | ((with_reducible apply O_cF hm); (simp only [push_cast, seval]; rfl); (first | apply spec_strings_Cut _ _ | apply spec_interchangeref12_recordOf _ | apply spec_interchangeref12_CheckArchive _); (any_goals ((repeat' (first | rfl | (with_reducible first | apply fT_Tapi_Record | apply f_optN | apply f_optS | apply f_some | apply f_tup | apply f_agg | apply f_ptr | apply f_fn | apply dv_slice | apply sv_d | apply f_cons | apply fold_nil | apply fold_cons | apply fold_app | apply f_rowI | apply f_rowY | apply f_rowS | apply f_rowB | apply f_rowL) | (with_reducible apply f_byte; decide))); done)); intro x hm) | ((with_reducible apply O_clS hm); (simp only [push_cast, seval]; rfl); (focus (first | exact spec_strings_Cut _ _ | exact spec_interchangeref12_recordOf _ | exact spec_interchangeref12_CheckArchive _)); (intro _; rfl); intro x hm) | ((with_reducible apply O_w); (simp only [push_cast, seval]; rfl); (first | exact trivial | omega)) | ((with_reducible apply O_appL hm (row := rTapi_Record)); (iterate 5 (simp only [push_cast, seval]; rfl)); (focus ((repeat' (first | rfl | (with_reducible first | apply fT_Tapi_Record | apply f_optN | apply f_optS | apply f_some | apply f_tup | apply f_agg | apply f_ptr | apply f_fn | apply dv_slice | apply sv_d | apply f_cons | apply fold_nil | apply fold_cons | apply fold_app | apply f_rowI | apply f_rowY | apply f_rowS | apply f_rowB | apply f_rowL) | (with_reducible apply f_byte; decide))); done)); (focus ((repeat' (first | rfl | (with_reducible first | apply fT_Tapi_Record | apply f_optN | apply f_optS | apply f_some | apply f_tup | apply f_agg | apply f_ptr | apply f_fn | apply dv_slice | apply sv_d | apply f_cons | apply fold_nil | apply fold_cons | apply fold_app | apply f_rowI | apply f_rowY | apply f_rowS | apply f_rowB | apply f_rowL) | (with_reducible apply f_byte; decide))); done)); rfl; decide; (intro _; rfl); intro hm) | ((with_reducible apply O_appV hm); (iterate 4 (simp only [push_cast, seval]; rfl)); (focus ((repeat' (first | rfl | (with_reducible first | apply fT_Tapi_Record | apply f_optN | apply f_optS | apply f_some | apply f_tup | apply f_agg | apply f_ptr | apply f_fn | apply dv_slice | apply sv_d | apply f_cons | apply fold_nil | apply fold_cons | apply fold_app | apply f_rowI | apply f_rowY | apply f_rowS | apply f_rowB | apply f_rowL) | (with_reducible apply f_byte; decide))); done)); decide; (intro _; rfl); intro hm) | ((with_reducible apply O_appN hm); (focus (simp only [push_cast, seval]; done)); (iterate 2 (simp only [push_cast, seval]; rfl)); (focus ((repeat' (first | rfl | (with_reducible first | apply fT_Tapi_Record | apply f_optN | apply f_optS | apply f_some | apply f_tup | apply f_agg | apply f_ptr | apply f_fn | apply dv_slice | apply sv_d | apply f_cons | apply fold_nil | apply fold_cons | apply fold_app | apply f_rowI | apply f_rowY | apply f_rowS | apply f_rowB | apply f_rowL) | (with_reducible apply f_byte; decide))); done)); decide; (intro _; rfl); intro hm) | ((with_reducible apply O_stV hm); (iterate 3 (simp only [push_cast, seval]; rfl)); rfl; (intro _; rfl); rfl; (focus (intro a; simp only [push_cast, seval]; rfl)); (focus (intro a; (repeat' (first | rfl | with_reducible apply eT_Tapi_Record)); done)); intro e hm) | ((with_reducible apply S_condB hm); (simp only [push_cast, seval]; rfl); intro hm; rotate_left; intro hm) | ((with_reducible apply K_end3 hm); (focus (simp only [resOf, resL, RV.get, push_cast, seval]; rfl)); (focus (first | (dsimp only; done) | (dsimp only; rfl) | rfl)); (focus ((repeat' (first | rfl | (with_reducible first | apply fT_Tapi_Record | apply f_optN | apply f_optS | apply f_some | apply f_tup | apply f_agg | apply f_ptr | apply f_fn | apply dv_slice | apply sv_d | apply f_cons | apply fold_nil | apply fold_cons | apply fold_app | apply f_rowI | apply f_rowY | apply f_rowS | apply f_rowB | apply f_rowL) | (with_reducible apply f_byte; decide))); done))) | ((with_reducible apply K_bool hm); (simp only [push_cast, seval]; rfl)) | ((with_reducible apply K_leave hm); intro r hm) | ((with_reducible apply K_leaveR hm); intro r hm) | ((apply S_loopY (b := 0) (X := sc_interchangeref12_Read_B1) (x := sc_interchangeref12_Read_L1) rfl (fun (c : Unit) (s : (List UInt8) × (List Tapi_Record)) => st [(0, .d (.str s.1)), (5, .vec 5)] [(5, .vec 28 6 (vrow rTapi_Record s.2))]) (c := ()) (s0 := (_, _)) hm); (focus (first | (dsimp only; done) | (dsimp only; rfl) | rfl)); (with_reducible refine Then.mk ?_ ?_); apply Imp.trans; (focus (apply imp_vecnil (slot := 5) (id := 5) (e := 28) (sz := 6); (focus (simp only [push_cast, seval]; done))))) | ((apply K_next (s' := (_, _)) hm); (focus (first | (dsimp only; done) | (dsimp only; rfl) | rfl))) | ((apply K_brk (s' := (_, _)) hm); (focus (first | (dsimp only; done) | (dsimp only; rfl) | rfl))) | (((with_reducible apply K_brkN hm); (focus decide); intro r hm)) | (((with_reducible apply K_brkR hm); intro r hm)) | (((with_reducible apply LoopB.of); (focus (first | (dsimp only; done) | (dsimp only; rfl) | rfl)); (focus ((intro _; repeat' (first | with_reducible exact impC_end | with_reducible exact impC_endF | with_reducible refine impC_seq ?_ | with_reducible refine impC_block ?_ | ((with_reducible refine impC_rnd ?_); intro _) | ((with_reducible refine impC_brk ?_); intro _))))); (intro s o hm; first | unfold sc_interchangeref12_Read_L1); rotate_left; intro s hm)) | (((apply imp_stT; (repeat' (first | with_reducible exact keepT_nil | with_reducible exact keepC_nil | with_reducible apply keepT_cons | with_reducible apply keepC_cons | ((with_reducible apply svle_eq); (focus (first | (simp only [push_cast, seval]; rfl) | rfl)); (focus ((repeat' (first | rfl | (with_reducible first | apply fT_Tapi_Record | apply f_optN | apply f_optS | apply f_some | apply f_tup | apply f_agg | apply f_ptr | apply f_fn | apply dv_slice | apply sv_d | apply f_cons | apply fold_nil | apply fold_cons | apply fold_app | apply f_rowI | apply f_rowY | apply f_rowS | apply f_rowB | apply f_rowL) | (with_reducible apply f_byte; decide))); done))) | ((with_reducible apply svle_td); (focus (first | (simp only [push_cast, seval]; rfl) | rfl)); (focus (first | (simp only [push_cast, seval]; rfl) | rfl)); (focus ((repeat' (first | rfl | (with_reducible first | apply fT_Tapi_Record | apply f_optN | apply f_optS | apply f_some | apply f_tup | apply f_agg | apply f_ptr | apply f_fn | apply dv_slice | apply sv_d | apply f_cons | apply fold_nil | apply fold_cons | apply fold_app | apply f_rowI | apply f_rowY | apply f_rowS | apply f_rowB | apply f_rowL) | (with_reducible apply f_byte; decide))); done))) | ((with_reducible apply chle_eq); (focus (first | (simp only [push_cast, seval]; rfl) | rfl)); (first | with_reducible exact chle_rfl rfl | with_reducible exact chle_map0 | with_reducible apply chle_vec | with_reducible apply chle_box)) | (with_reducible first | apply cT_Tapi_Record | apply r_shS | apply r_shI | apply r_rflO | apply r_oneO | apply r_appO | apply r_nilO | apply c_ownN | apply c_ownL | apply vc_rfl | apply vc_nil | apply vc_cons | apply r_rfl | apply r_rows | apply r_nil | apply r_app | apply r_cons | apply c_rowI | apply c_rowY | apply c_rowS | apply c_rowB | apply c_rowL))); done))))
noncomputable def m_interchangeref12_Read (x0 : List UInt8) : Option ((List Tapi_Record) × Int × Int) := (sims_G1_4_1 x0).1
theorem spec_interchangeref12_Read (x0 : List UInt8) : ∀ r, m_interchangeref12_Read x0 = some r → PureSpec Tryz.prog 6 [.str x0] (.tup [.slice (List.map rTapi_Record r.1), .int .i64 r.2.1, .int .i64 r.2.2]) := (sims_G1_4_1 x0).2

def sc_desk_Read_L1 : SC :=
  (.seq (.reg [.r 24 (.bin .lss (.t 23) (.t 22))])
  (.seq (.cond (.t 24)
    .skip
    (.exit 0))
  (.seq (.block 1 (.seq (.reg [.r 25 (.mv (.t 23)),
       .r 26 (.idx 1 (.t 21) (.t 23)),
       .o 27 (.ld1 (.t 26)),
       .r 8 (.mv (.t 25)),
       .r 9 (.mv (.t 27))])
    (.seq (.reg [.r 29 (.mv (.t 9)),
       .c 30 (.f 19) [.t 29],
       .r 28 (.mv (.t 30)),
       .r 31 (.ext (.t 28) 0),
       .r 32 (.ext (.t 28) 1),
       .w 10 (.boxM (.c (.agg [.d (.int .i64 0), .d (.str []), .d (.str []), .d (.str []), .d (.bool false), .d (.str [])]))),
       .w 0 (.st 6 (.t 10) (.t 31)),
       .r 11 (.mv (.t 32))])
    (.seq (.seq (.reg (.r 33 (.mv (.t 11)) :: .r 34 (.not (.t 33)) :: .r 35 (.mv (.t 34)) :: gapp [36, 37, 38, 39, 40, 41, 42, 43, 44] 35 false (.r 36 (.mv (.t 6)) :: .r 37 (.not (.t 36)) :: .r 38 (.mv (.t 37)) :: gapp [39, 40, 41, 42, 43] 38 true (.r 39 (.mv (.t 8)) :: .r 40 (.mv (.t 5)) :: .r 41 (.len (.t 40)) :: .r 42 (.bin .sub (.t 41) (.c (.d (.int .i64 1)))) :: .r 43 (.bin .eql (.t 39) (.t 42)) :: []) (.r 44 (.pick (.t 38) (.t 43) (.c (.d (.bool false)))) :: [])) (.r 45 (.pick (.t 35) (.c (.d (.bool true))) (.t 44)) :: [])))
    (.cond (.t 45)
      (.seq (.reg [.r 46 (.mv (.t 8)),
         .r 47 (.bin .add (.t 46) (.c (.d (.int .i64 1)))),
         .r 2 (.mv (.c (.nils))),
         .r 3 (.mv (.t 47)),
         .r 4 (.mv (.c (.d (.int .i64 10))))])
      .ret)
      .skip))
    (.reg [.r 48 (.mv (.t 7)),
       .o 49 (.ldA 6 (.t 10)),
       .r 50 (.bslice 6 [.t 49]),
       .w 51 (.app 28 6 (.t 48) (.t 50)),
       .r 7 (.mv (.t 51))])))))
  (.reg [.r 52 (.bin .add (.t 23) (.c (.d (.int .i64 1)))),
     .r 23 (.mv (.t 52))]))))
def sc_desk_Read_B1 : SC := .block 0 (.loop sc_desk_Read_L1)
/-- interchange/desk.Read -/
def sc_desk_Read : SC :=
  (.seq (.reg [.r 2 (.mv (.c (.nils))),
     .r 3 (.mv (.c (.d (.int .i64 0)))),
     .r 4 (.mv (.c (.d (.int .i64 0))))])
  (.seq (.seq (.reg [.r 13 (.mv (.t 0)),
     .r 14 (.lenT (.t 13)),
     .r 15 (.bin .gtr (.t 14) (.c (.d (.int .i64 500000))))])
  (.cond (.t 15)
    (.seq (.reg [.r 2 (.mv (.c (.nils))),
       .r 3 (.mv (.c (.d (.int .i64 0)))),
       .r 4 (.mv (.c (.d (.int .i64 2))))])
    .ret)
    .skip))
  (.seq (.reg [.r 17 (.mv (.t 0)),
     .c 18 (.f 18) [.t 17],
     .r 16 (.mv (.t 18)),
     .r 19 (.ext (.t 16) 0),
     .r 20 (.ext (.t 16) 1),
     .r 5 (.mv (.t 19)),
     .r 6 (.mv (.t 20))])
  (.seq (.reg [.r 7 (.mv (.c (.nils)))])
  (.seq (.seq (.reg [.r 21 (.mv (.t 5)),
     .r 22 (.len (.t 21)),
     .r 23 (.mv (.c (.d (.int .i64 0))))])
  sc_desk_Read_B1)
  (.seq (.seq (.reg [.r 53 (.mv (.t 7)),
     .c 54 (.f 20) [.t 53],
     .r 12 (.mv (.t 54))])
  (.seq (.reg [.r 55 (.mv (.t 12)),
     .r 56 (.bin .neq (.t 55) (.c (.d (.int .i64 0))))])
  (.cond (.t 56)
    (.seq (.reg [.r 57 (.mv (.t 12)),
       .r 2 (.mv (.c (.nils))),
       .r 3 (.mv (.c (.d (.int .i64 0)))),
       .r 4 (.mv (.t 57))])
    .ret)
    .skip)))
  (.seq (.reg [.r 58 (.mv (.t 7)),
     .r 2 (.mv (.t 58)),
     .r 3 (.mv (.c (.d (.int .i64 0)))),
     .r 4 (.mv (.c (.d (.int .i64 0))))])
  .ret)))))))
theorem fit_desk_Read : fits Tryz.prog 5 Tryz.f5 sc_desk_Read [.t 2, .t 3, .t 4] 1 = true := by kernel_rfl

set_option maxRecDepth 100000 in
set_option maxHeartbeats 40000000 in
noncomputable def sims_G1_5_0 : (∀ (x0 : List UInt8), {m : Option ((List Tapi_Record) × Int × Int) // ∀ r, m = some r → PureSpec Tryz.prog 5 [.str x0] (.tup [.slice (List.map rTapi_Record r.1), .int .i64 r.2.1, .int .i64 r.2.2])}) := by
  (intro x0; apply Subtype.mk; intro r hm; apply pure_walk Tryz.func5 fit_desk_Read; unfold sc_desk_Read)
  repeat' (first | with_reducible refine W_seq ?_ | with_reducible refine W_reg ?_ | with_reducible refine W_block ?_ | with_reducible refine W_skip ?_ | with_reducible refine W_ret ?_ | with_reducible refine W_exit ?_ | with_reducible refine O_nil ?_ | with_reducible refine K_seq ?_ | with_reducible refine K_seqE ?_ | with_reducible refine K_seqR ?_ | with_reducible refine K_block ?_ | with_reducible refine K_blockR ?_ | with_reducible refine K_blockE ?_ | ((with_reducible apply K_blockN); decide) | with_reducible refine O_o2r ?_ | ((with_reducible apply O_idxr hm); (iterate 2 (simp only [push_cast, seval]; rfl)); (intro _; rfl); intro e hm) | ((with_reducible apply O_idxVr hm); (iterate 3 (simp only [push_cast, seval]; rfl)); intro e hm) | ((with_reducible apply O_idxLr hm (row := rTapi_Record)); (iterate 2 (simp only [push_cast, seval]; rfl)); (focus ((repeat' (first | rfl | (with_reducible first | apply fT_Tapi_Record | apply f_optN | apply f_optS | apply f_some | apply f_tup | apply f_agg | apply f_ptr | apply f_fn | apply dv_slice | apply sv_d | apply f_cons | apply fold_nil | apply fold_cons | apply fold_app | apply f_rowI | apply f_rowY | apply f_rowS | apply f_rowB | apply f_rowL) | (with_reducible apply f_byte; decide))); done)); (simp only [push_cast, seval]; rfl); (intro _; rfl); intro e hm) | ((with_reducible apply O_r); (simp only [push_cast, seval]; rfl); (first | exact trivial | omega)) | ((with_reducible apply O_ldV1r hm); (iterate 2 (simp only [push_cast, seval]; rfl)); (intro _; rfl); intro e hm) | ((with_reducible apply O_ldAVr hm); (iterate 2 (simp only [push_cast, seval]; rfl)); (intro _; rfl); intro e hm) | ((with_reducible apply O_strr hm); (iterate 2 (simp only [push_cast, seval]; rfl)); intro hm) | ((with_reducible apply O_and hm); (simp only [push_cast, seval]; rfl); rfl; intro v hm; rotate_left; intro v g hm) | ((with_reducible apply O_or hm); (simp only [push_cast, seval]; rfl); rfl; intro v hm; rotate_left; intro v g hm) | ((with_reducible apply W_condT); (focus (simp only [push_cast, seval]; done))) | ((with_reducible apply W_condF); (focus (simp only [push_cast, seval]; done))) | ((with_reducible apply O_cF hm); (simp only [push_cast, seval]; rfl); (first | apply spec_kit_Lines _ | apply spec_desk_readRecord _ | apply spec_desk_CheckArchive _); (any_goals ((repeat' (first | rfl | (with_reducible first | apply fT_Tapi_Record | apply f_optN | apply f_optS | apply f_some | apply f_tup | apply f_agg | apply f_ptr | apply f_fn | apply dv_slice | apply sv_d | apply f_cons | apply fold_nil | apply fold_cons | apply fold_app | apply f_rowI | apply f_rowY | apply f_rowS | apply f_rowB | apply f_rowL) | (with_reducible apply f_byte; decide))); done)); intro x hm) | ((with_reducible apply O_clS hm); (simp only [push_cast, seval]; rfl); (focus (first | exact spec_kit_Lines _ | exact spec_desk_readRecord _ | exact spec_desk_CheckArchive _)); (intro _; rfl); intro x hm) | ((with_reducible apply O_w); (simp only [push_cast, seval]; rfl); (first | exact trivial | omega)) | ((with_reducible apply O_appL hm (row := rTapi_Record)); (iterate 5 (simp only [push_cast, seval]; rfl)); (focus ((repeat' (first | rfl | (with_reducible first | apply fT_Tapi_Record | apply f_optN | apply f_optS | apply f_some | apply f_tup | apply f_agg | apply f_ptr | apply f_fn | apply dv_slice | apply sv_d | apply f_cons | apply fold_nil | apply fold_cons | apply fold_app | apply f_rowI | apply f_rowY | apply f_rowS | apply f_rowB | apply f_rowL) | (with_reducible apply f_byte; decide))); done)); (focus ((repeat' (first | rfl | (with_reducible first | apply fT_Tapi_Record | apply f_optN | apply f_optS | apply f_some | apply f_tup | apply f_agg | apply f_ptr | apply f_fn | apply dv_slice | apply sv_d | apply f_cons | apply fold_nil | apply fold_cons | apply fold_app | apply f_rowI | apply f_rowY | apply f_rowS | apply f_rowB | apply f_rowL) | (with_reducible apply f_byte; decide))); done)); rfl; decide; (intro _; rfl); intro hm) | ((with_reducible apply O_appV hm); (iterate 4 (simp only [push_cast, seval]; rfl)); (focus ((repeat' (first | rfl | (with_reducible first | apply fT_Tapi_Record | apply f_optN | apply f_optS | apply f_some | apply f_tup | apply f_agg | apply f_ptr | apply f_fn | apply dv_slice | apply sv_d | apply f_cons | apply fold_nil | apply fold_cons | apply fold_app | apply f_rowI | apply f_rowY | apply f_rowS | apply f_rowB | apply f_rowL) | (with_reducible apply f_byte; decide))); done)); decide; (intro _; rfl); intro hm) | ((with_reducible apply O_appN hm); (focus (simp only [push_cast, seval]; done)); (iterate 2 (simp only [push_cast, seval]; rfl)); (focus ((repeat' (first | rfl | (with_reducible first | apply fT_Tapi_Record | apply f_optN | apply f_optS | apply f_some | apply f_tup | apply f_agg | apply f_ptr | apply f_fn | apply dv_slice | apply sv_d | apply f_cons | apply fold_nil | apply fold_cons | apply fold_app | apply f_rowI | apply f_rowY | apply f_rowS | apply f_rowB | apply f_rowL) | (with_reducible apply f_byte; decide))); done)); decide; (intro _; rfl); intro hm) | ((with_reducible apply O_stVA hm); (iterate 4 (simp only [push_cast, seval]; rfl)); (focus ((repeat' (first | rfl | (with_reducible first | apply fT_Tapi_Record | apply f_optN | apply f_optS | apply f_some | apply f_tup | apply f_agg | apply f_ptr | apply f_fn | apply dv_slice | apply sv_d | apply f_cons | apply fold_nil | apply fold_cons | apply fold_app | apply f_rowI | apply f_rowY | apply f_rowS | apply f_rowB | apply f_rowL) | (with_reducible apply f_byte; decide))); done)); decide; (intro _; rfl); intro e hm) | ((with_reducible apply O_stV hm); (iterate 3 (simp only [push_cast, seval]; rfl)); rfl; (intro _; rfl); rfl; (focus (intro a; simp only [push_cast, seval]; rfl)); (focus (intro a; (repeat' (first | rfl | with_reducible apply eT_Tapi_Record)); done)); intro e hm) | ((with_reducible apply S_condB hm); (simp only [push_cast, seval]; rfl); intro hm; rotate_left; intro hm) | ((with_reducible apply K_end3 hm); (focus (simp only [resOf, resL, RV.get, push_cast, seval]; rfl)); (focus (first | (dsimp only; done) | (dsimp only; rfl) | rfl)); (focus ((repeat' (first | rfl | (with_reducible first | apply fT_Tapi_Record | apply f_optN | apply f_optS | apply f_some | apply f_tup | apply f_agg | apply f_ptr | apply f_fn | apply dv_slice | apply sv_d | apply f_cons | apply fold_nil | apply fold_cons | apply fold_app | apply f_rowI | apply f_rowY | apply f_rowS | apply f_rowB | apply f_rowL) | (with_reducible apply f_byte; decide))); done))) | ((with_reducible apply K_bool hm); (simp only [push_cast, seval]; rfl)) | ((with_reducible apply K_leave hm); intro r hm) | ((with_reducible apply K_leaveR hm); intro r hm) | ((apply S_loopY (b := 0) (X := sc_desk_Read_B1) (x := sc_desk_Read_L1) rfl (fun (c : SV × SV × SV × SV) (s : (List Tapi_Record) × Int) => st [(5, c.1), (6, c.2.1), (7, .vec 7), (21, c.2.2.1), (22, c.2.2.2), (23, .d (.int .i64 s.2))] [(7, .vec 28 6 (vrow rTapi_Record s.1))]) (c := (_, _, _, _)) (s0 := (_, _)) hm); (focus (first | (dsimp only; done) | (dsimp only; rfl) | rfl)); (with_reducible refine Then.mk ?_ ?_); apply Imp.trans; (focus (apply imp_vecnil (slot := 7) (id := 7) (e := 28) (sz := 6); (focus (simp only [push_cast, seval]; done))))) | ((apply K_next (s' := (_, _)) hm); (focus (first | (dsimp only; done) | (dsimp only; rfl) | rfl))) | ((apply K_brk (s' := (_, _)) hm); (focus (first | (dsimp only; done) | (dsimp only; rfl) | rfl))) | (((with_reducible apply K_brkN hm); (focus decide); intro r hm)) | (((with_reducible apply K_brkR hm); intro r hm)) | (((with_reducible apply LoopB.of); (focus (first | (dsimp only; done) | (dsimp only; rfl) | rfl)); (focus ((intro _; repeat' (first | with_reducible exact impC_end | with_reducible exact impC_endF | with_reducible refine impC_seq ?_ | with_reducible refine impC_block ?_ | ((with_reducible refine impC_rnd ?_); intro _) | ((with_reducible refine impC_brk ?_); intro _))))); (intro s o hm; first | unfold sc_desk_Read_L1); rotate_left; intro s hm)) | (((apply imp_stT; (repeat' (first | with_reducible exact keepT_nil | with_reducible exact keepC_nil | with_reducible apply keepT_cons | with_reducible apply keepC_cons | ((with_reducible apply svle_eq); (focus (first | (simp only [push_cast, seval]; rfl) | rfl)); (focus ((repeat' (first | rfl | (with_reducible first | apply fT_Tapi_Record | apply f_optN | apply f_optS | apply f_some | apply f_tup | apply f_agg | apply f_ptr | apply f_fn | apply dv_slice | apply sv_d | apply f_cons | apply fold_nil | apply fold_cons | apply fold_app | apply f_rowI | apply f_rowY | apply f_rowS | apply f_rowB | apply f_rowL) | (with_reducible apply f_byte; decide))); done))) | ((with_reducible apply svle_td); (focus (first | (simp only [push_cast, seval]; rfl) | rfl)); (focus (first | (simp only [push_cast, seval]; rfl) | rfl)); (focus ((repeat' (first | rfl | (with_reducible first | apply fT_Tapi_Record | apply f_optN | apply f_optS | apply f_some | apply f_tup | apply f_agg | apply f_ptr | apply f_fn | apply dv_slice | apply sv_d | apply f_cons | apply fold_nil | apply fold_cons | apply fold_app | apply f_rowI | apply f_rowY | apply f_rowS | apply f_rowB | apply f_rowL) | (with_reducible apply f_byte; decide))); done))) | ((with_reducible apply chle_eq); (focus (first | (simp only [push_cast, seval]; rfl) | rfl)); (first | with_reducible exact chle_rfl rfl | with_reducible exact chle_map0 | with_reducible apply chle_vec | with_reducible apply chle_box)) | (with_reducible first | apply cT_Tapi_Record | apply r_shS | apply r_shI | apply r_rflO | apply r_oneO | apply r_appO | apply r_nilO | apply c_ownN | apply c_ownL | apply vc_rfl | apply vc_nil | apply vc_cons | apply r_rfl | apply r_rows | apply r_nil | apply r_app | apply r_cons | apply c_rowI | apply c_rowY | apply c_rowS | apply c_rowB | apply c_rowL))); done))))
noncomputable def m_desk_Read (x0 : List UInt8) : Option ((List Tapi_Record) × Int × Int) := (sims_G1_5_0 x0).1
theorem spec_desk_Read (x0 : List UInt8) : ∀ r, m_desk_Read x0 = some r → PureSpec Tryz.prog 5 [.str x0] (.tup [.slice (List.map rTapi_Record r.1), .int .i64 r.2.1, .int .i64 r.2.2]) := (sims_G1_5_0 x0).2

/-- interchange/desk.Head -/
def sc_desk_Head : SC :=
  (.seq (.reg [.r 4 (.mv (.c (.d (.str [])))),
     .r 5 (.mv (.c (.d (.int .i64 0))))])
  (.seq (.seq (.reg [.r 7 (.mv (.t 0)),
     .c 8 (.f 20) [.t 7],
     .r 6 (.mv (.t 8))])
  (.seq (.reg [.r 9 (.mv (.t 6)),
     .r 10 (.bin .neq (.t 9) (.c (.d (.int .i64 0))))])
  (.cond (.t 10)
    (.seq (.reg [.r 11 (.mv (.t 6)),
       .r 4 (.mv (.c (.d (.str [])))),
       .r 5 (.mv (.t 11))])
    .ret)
    .skip)))
  (.seq (.seq (.reg [.r 12 (.mv (.t 1)),
     .r 13 (.mv (.t 0)),
     .r 14 (.len (.t 13)),
     .c 15 (.f 53) [.t 12, .c (.d (.int .i64 0)), .t 14]])
  (.cond (.t 15)
    (.seq (.reg [.r 4 (.mv (.c (.d (.str [])))),
       .r 5 (.mv (.c (.d (.int .i64 1))))])
    .ret)
    .skip))
  (.seq (.reg [.r 16 (.mv (.t 0)),
     .r 17 (.mv (.t 1)),
     .r 18 (.slc 6 (.t 16) none (some (.t 17))),
     .c 19 (.f 54) [.t 18],
     .r 4 (.mv (.t 19)),
     .r 5 (.mv (.c (.d (.int .i64 0))))])
  .ret))))
theorem fit_desk_Head : fits Tryz.prog 24 Tryz.f24 sc_desk_Head [.t 4, .t 5] 2 = true := by kernel_rfl

set_option maxRecDepth 100000 in
set_option maxHeartbeats 40000000 in
noncomputable def sims_G1_5_1 : (∀ (x0 : List Tapi_Record) (x1 : Int), {m : Option ((List UInt8) × Int) // ∀ r, m = some r → PureSpec Tryz.prog 24 [.slice (List.map rTapi_Record x0), .int .i64 x1] (.tup [.str r.1, .int .i64 r.2])}) := by
  (intro x0 x1; apply Subtype.mk; intro r hm; apply pure_walk Tryz.func24 fit_desk_Head; unfold sc_desk_Head)
  repeat' (first | with_reducible refine W_seq ?_ | with_reducible refine W_reg ?_ | with_reducible refine W_block ?_ | with_reducible refine W_skip ?_ | with_reducible refine W_ret ?_ | with_reducible refine W_exit ?_ | with_reducible refine O_nil ?_ | with_reducible refine K_seq ?_ | with_reducible refine K_seqE ?_ | with_reducible refine K_seqR ?_ | with_reducible refine K_block ?_ | with_reducible refine K_blockR ?_ | with_reducible refine K_blockE ?_ | ((with_reducible apply K_blockN); decide) | ((with_reducible apply O_slcr hm); (iterate 3 (simp only [push_cast, seval]; rfl)); (intro _; rfl); intro e hm) | ((with_reducible apply O_r); (simp only [push_cast, seval]; rfl); (first | exact trivial | omega)) | ((with_reducible apply W_condT); (focus (simp only [push_cast, seval]; done))) | ((with_reducible apply W_condF); (focus (simp only [push_cast, seval]; done))) | ((with_reducible apply O_cF hm); (simp only [push_cast, seval]; rfl); (first | apply spec_desk_CheckArchive _ | apply spec_kit_Outside _ _ _ | apply spec_desk_headOf _); (any_goals ((repeat' (first | rfl | (with_reducible first | apply fT_Tapi_Record | apply f_optN | apply f_optS | apply f_some | apply f_tup | apply f_agg | apply f_ptr | apply f_fn | apply dv_slice | apply sv_d | apply f_cons | apply fold_nil | apply fold_cons | apply fold_app | apply f_rowI | apply f_rowY | apply f_rowS | apply f_rowB | apply f_rowL) | (with_reducible apply f_byte; decide))); done)); intro x hm) | ((with_reducible apply S_condB hm); (simp only [push_cast, seval]; rfl); intro hm; rotate_left; intro hm) | ((with_reducible apply K_end2 hm); (focus (simp only [resOf, resL, RV.get, push_cast, seval]; rfl)); (focus (first | (dsimp only; done) | (dsimp only; rfl) | rfl)); (focus ((repeat' (first | rfl | (with_reducible first | apply fT_Tapi_Record | apply f_optN | apply f_optS | apply f_some | apply f_tup | apply f_agg | apply f_ptr | apply f_fn | apply dv_slice | apply sv_d | apply f_cons | apply fold_nil | apply fold_cons | apply fold_app | apply f_rowI | apply f_rowY | apply f_rowS | apply f_rowB | apply f_rowL) | (with_reducible apply f_byte; decide))); done))))
noncomputable def m_desk_Head (x0 : List Tapi_Record) (x1 : Int) : Option ((List UInt8) × Int) := (sims_G1_5_1 x0 x1).1
theorem spec_desk_Head (x0 : List Tapi_Record) (x1 : Int) : ∀ r, m_desk_Head x0 x1 = some r → PureSpec Tryz.prog 24 [.slice (List.map rTapi_Record x0), .int .i64 x1] (.tup [.str r.1, .int .i64 r.2]) := (sims_G1_5_1 x0 x1).2

/-- interchange/interchangelaw12.awake -/
def sc_interchangelaw12_awake : SC :=
  (.seq (.reg [.r 0 (.mv (.c (.d (.bool false))))])
  (.seq (.reg [.r 4 (.bslice 6 []),
     .c 5 (.f 24) [.t 4, .c (.d (.int .i64 0))],
     .r 3 (.mv (.t 5)),
     .r 6 (.ext (.t 3) 0),
     .r 7 (.ext (.t 3) 1),
     .r 1 (.mv (.t 6)),
     .r 2 (.mv (.t 7))])
  (.seq (.reg (.r 8 (.mv (.t 2)) :: .r 9 (.bin .eql (.t 8) (.c (.d (.int .i64 0)))) :: .r 10 (.mv (.t 9)) :: gapp [11, 12] 10 true (.r 11 (.mv (.t 1)) :: .r 12 (.bin .eql (.t 11) (.c (.d (.str [48, 48, 48, 48, 48, 48, 48, 48, 48, 48, 48, 48, 48, 48, 48, 48])))) :: []) (.r 13 (.pick (.t 10) (.t 12) (.c (.d (.bool false)))) :: .r 0 (.mv (.t 13)) :: [])))
  .ret)))
theorem fit_interchangelaw12_awake : fits Tryz.prog 8 Tryz.f8 sc_interchangelaw12_awake [.t 0] 0 = true := by kernel_rfl

set_option maxRecDepth 100000 in
set_option maxHeartbeats 40000000 in
noncomputable def sims_G1_6_0 : ({m : Option (Bool) // ∀ r, m = some r → PureSpec Tryz.prog 8 [] (.bool r)}) := by
  (apply Subtype.mk; intro r hm; apply pure_walk Tryz.func8 fit_interchangelaw12_awake; unfold sc_interchangelaw12_awake)
  repeat' (first | with_reducible refine W_seq ?_ | with_reducible refine W_reg ?_ | with_reducible refine W_block ?_ | with_reducible refine W_skip ?_ | with_reducible refine W_ret ?_ | with_reducible refine W_exit ?_ | with_reducible refine O_nil ?_ | with_reducible refine K_seq ?_ | with_reducible refine K_seqE ?_ | with_reducible refine K_seqR ?_ | with_reducible refine K_block ?_ | with_reducible refine K_blockR ?_ | with_reducible refine K_blockE ?_ | ((with_reducible apply K_blockN); decide) | ((with_reducible apply O_r); (simp only [push_cast, seval]; rfl); (first | exact trivial | omega)) | ((with_reducible apply O_and hm); (simp only [push_cast, seval]; rfl); rfl; intro v hm; rotate_left; intro v g hm) | ((with_reducible apply W_condT); (focus (simp only [push_cast, seval]; done))) | ((with_reducible apply W_condF); (focus (simp only [push_cast, seval]; done))) | ((with_reducible apply O_cF hm); (simp only [push_cast, seval]; rfl); (first | apply spec_desk_Head _ _); (any_goals ((repeat' (first | rfl | (with_reducible first | apply fT_Tapi_Record | apply f_optN | apply f_optS | apply f_some | apply f_tup | apply f_agg | apply f_ptr | apply f_fn | apply dv_slice | apply sv_d | apply f_cons | apply fold_nil | apply fold_cons | apply fold_app | apply f_rowI | apply f_rowY | apply f_rowS | apply f_rowB | apply f_rowL) | (with_reducible apply f_byte; decide))); done)); intro x hm) | ((with_reducible apply S_condB hm); (simp only [push_cast, seval]; rfl); intro hm; rotate_left; intro hm) | ((with_reducible apply K_endS hm); (focus (simp only [resOf, resL, RV.get, push_cast, seval]; rfl)); (focus ((repeat' (first | rfl | (with_reducible first | apply fT_Tapi_Record | apply f_optN | apply f_optS | apply f_some | apply f_tup | apply f_agg | apply f_ptr | apply f_fn | apply dv_slice | apply sv_d | apply f_cons | apply fold_nil | apply fold_cons | apply fold_app | apply f_rowI | apply f_rowY | apply f_rowS | apply f_rowB | apply f_rowL) | (with_reducible apply f_byte; decide))); done))) | ((with_reducible apply K_bool hm); (simp only [push_cast, seval]; rfl)))
noncomputable def m_interchangelaw12_awake : Option (Bool) := (sims_G1_6_0 ).1
theorem spec_interchangelaw12_awake : ∀ r, m_interchangelaw12_awake  = some r → PureSpec Tryz.prog 8 [] (.bool r) := (sims_G1_6_0 ).2

/-- interchange/interchangelaw12.DeskArchivesReadMatchSpec -/
def sc_interchangelaw12_DeskArchivesReadMatchSpec : SC :=
  (.seq (.reg [.r 2 (.mv (.c (.d (.bool false))))])
  (.seq (.reg [.r 10 (.mv (.t 0)),
     .c 11 (.f 5) [.t 10],
     .r 9 (.mv (.t 11)),
     .r 12 (.ext (.t 9) 0),
     .r 13 (.ext (.t 9) 1),
     .r 14 (.ext (.t 9) 2),
     .r 3 (.mv (.t 12)),
     .r 4 (.mv (.t 13)),
     .r 5 (.mv (.t 14))])
  (.seq (.reg [.r 16 (.mv (.t 0)),
     .c 17 (.f 6) [.t 16],
     .r 15 (.mv (.t 17)),
     .r 18 (.ext (.t 15) 0),
     .r 19 (.ext (.t 15) 1),
     .r 20 (.ext (.t 15) 2),
     .r 6 (.mv (.t 18)),
     .r 7 (.mv (.t 19)),
     .r 8 (.mv (.t 20))])
  (.seq (.reg (.r 21 (.mv (.t 3)) :: .r 22 (.mv (.t 6)) :: .c 23 (.f 7) [.t 21, .t 22] :: .r 24 (.mv (.t 23)) :: gapp [25, 26, 27] 24 true (.r 25 (.mv (.t 4)) :: .r 26 (.mv (.t 7)) :: .r 27 (.bin .eql (.t 25) (.t 26)) :: []) (.r 28 (.pick (.t 24) (.t 27) (.c (.d (.bool false)))) :: .r 29 (.mv (.t 28)) :: gapp [30, 31, 32] 29 true (.r 30 (.mv (.t 5)) :: .r 31 (.mv (.t 8)) :: .r 32 (.bin .eql (.t 30) (.t 31)) :: []) (.r 33 (.pick (.t 29) (.t 32) (.c (.d (.bool false)))) :: .r 34 (.mv (.t 33)) :: gapp [35] 34 true (.c 35 (.f 8) [] :: []) (.r 36 (.pick (.t 34) (.t 35) (.c (.d (.bool false)))) :: .r 2 (.mv (.t 36)) :: [])))))
  .ret))))
theorem fit_interchangelaw12_DeskArchivesReadMatchSpec : fits Tryz.prog 3 Tryz.f3 sc_interchangelaw12_DeskArchivesReadMatchSpec [.t 2] 1 = true := by kernel_rfl

set_option maxRecDepth 100000 in
set_option maxHeartbeats 40000000 in
noncomputable def sims_G1_7_0 : (∀ (x0 : List UInt8), {m : Option (Bool) // ∀ r, m = some r → PureSpec Tryz.prog 3 [.str x0] (.bool r)}) := by
  (intro x0; apply Subtype.mk; intro r hm; apply pure_walk Tryz.func3 fit_interchangelaw12_DeskArchivesReadMatchSpec; unfold sc_interchangelaw12_DeskArchivesReadMatchSpec)
  repeat' (first | with_reducible refine W_seq ?_ | with_reducible refine W_reg ?_ | with_reducible refine W_block ?_ | with_reducible refine W_skip ?_ | with_reducible refine W_ret ?_ | with_reducible refine W_exit ?_ | with_reducible refine O_nil ?_ | with_reducible refine K_seq ?_ | with_reducible refine K_seqE ?_ | with_reducible refine K_seqR ?_ | with_reducible refine K_block ?_ | with_reducible refine K_blockR ?_ | with_reducible refine K_blockE ?_ | ((with_reducible apply K_blockN); decide) | ((with_reducible apply O_r); (simp only [push_cast, seval]; rfl); (first | exact trivial | omega)) | ((with_reducible apply O_and hm); (simp only [push_cast, seval]; rfl); rfl; intro v hm; rotate_left; intro v g hm) | ((with_reducible apply W_condT); (focus (simp only [push_cast, seval]; done))) | ((with_reducible apply W_condF); (focus (simp only [push_cast, seval]; done))) | ((with_reducible apply O_cS hm); (simp only [push_cast, seval]; rfl); (focus (first | exact spec_desk_Read _ | exact spec_interchangeref12_Read _ | exact spec_slices_Equal_interchange_api_Record_interchange_api_Record _ _ | exact spec_interchangelaw12_awake)); intro x hm) | ((with_reducible apply S_condB hm); (simp only [push_cast, seval]; rfl); intro hm; rotate_left; intro hm) | ((with_reducible apply K_endS hm); (focus (simp only [resOf, resL, RV.get, push_cast, seval]; rfl)); (focus ((repeat' (first | rfl | (with_reducible first | apply fT_Tapi_Record | apply f_optN | apply f_optS | apply f_some | apply f_tup | apply f_agg | apply f_ptr | apply f_fn | apply dv_slice | apply sv_d | apply f_cons | apply fold_nil | apply fold_cons | apply fold_app | apply f_rowI | apply f_rowY | apply f_rowS | apply f_rowB | apply f_rowL) | (with_reducible apply f_byte; decide))); done))) | ((with_reducible apply K_bool hm); (simp only [push_cast, seval]; rfl)))
noncomputable def m_interchangelaw12_DeskArchivesReadMatchSpec (x0 : List UInt8) : Option (Bool) := (sims_G1_7_0 x0).1
theorem spec_interchangelaw12_DeskArchivesReadMatchSpec (x0 : List UInt8) : ∀ r, m_interchangelaw12_DeskArchivesReadMatchSpec x0 = some r → PureSpec Tryz.prog 3 [.str x0] (.bool r) := (sims_G1_7_0 x0).2

end Go.Proofs.YthpignffnnpboaaGreatDoor


namespace Go.Proofs.YthpignffnnpboaaGreatDoor
end Go.Proofs.YthpignffnnpboaaGreatDoor

/-
  How the parameters of the laws of this seat read, and a world in which the listed tables lie (printed by wip/tool/row.py).
-/
namespace Go.Proofs.YthpignffnnpboaaGreatDoor
open Go.ChangeShapes Go.WideShapes Go.ChangeAt Go.RowKit
set_option linter.unusedSimpArgs false
set_option linter.unusedVariables false
theorem and_t {a b : Bool} (h1 : a = true) (h2 : b = true) : (a && b) = true := by rw [h1, h2]; rfl
/-- How a value of a type reads. -/
def Wt (P : Program) (n : Nat) (t : TypeId) {α : Type} (row : α → List DV) (ok : α → Prop) : Prop := ∀ m ds, WT P (m + n) t ds → ∃ x, ds = row x ∧ ok x
theorem Wt.up {P : Program} {n : Nat} {t : TypeId} {α : Type} {row : α → List DV} {ok : α → Prop} (h : Wt P n t row ok) (k : Nat) : Wt P (n + k) t row ok := fun m ds hd => h (m + k) ds (by rwa [show m + k + n = m + (n + k) by omega])
def okS (s : List UInt8) : Prop := s.length ≤ 9223372036854775807
theorem wt_str {P : Program} {t : TypeId} (hu : P.underlying t = some .string) : Wt P 1 t rowS okS := by
  intro m ds h
  simp only [WT, hu] at h
  obtain ⟨b, rfl, hl⟩ := h
  exact ⟨b, rfl, by unfold okS; unfold maxLen at hl; omega⟩
theorem ownK : ownKnob Tryz.prog.godebug = none := by kernel_rfl
theorem laidOut : laidOutB Tryz.prog = true := by kernel_rfl
theorem wt9 : Wt Tryz.prog 1 9 rowS okS := wt_str Tryz.underlying9
def layVals : Nat → DataW Unit → List Value
  | 0, _ => []
  | _ + 1, .lit (.int k n) => [.int k n]
  | n + 1, .agg ps => ps.flatMap (layVals n)
  | _ + 1, _ => []
/-- The settled world, with the listed tables in it. -/
def layCells (l : List Value) : Obj → Obj
  | .cells _ t frozen => .cells l.toArray t frozen
  | o => o
noncomputable def lowWorld : Nat := (World.holding Tryz.prog default ⟨#[], #[], []⟩).heap.size
noncomputable def laidWorld (os : Os) : World :=
  { World.holding Tryz.prog os ⟨#[], #[], []⟩ with
    heap := ((((((((World.holding Tryz.prog os ⟨#[.cells #[.string ⟨#[118, 97, 108, 117, 101, 32, 111, 117, 116, 32, 111, 102, 32, 114, 97, 110, 103, 101]⟩] 190, .cells #[.string ⟨#[105, 110, 118, 97, 108, 105, 100, 32, 115, 121, 110, 116, 97, 120]⟩] 190], #[], []⟩).heap.modify 6 (layCells (layVals 5 Rows.laid_math_bits_deBruijn32tab))).modify 7 (layCells (layVals 5 Rows.laid_math_bits_deBruijn64tab))).modify 5 (layCells (layVals 5 Rows.laid_internal_strconv_uint64pow10))).modify 4 (layCells (layVals 5 Rows.laid_unicode_utf8_acceptRanges))).modify 2 (layCells [.iface 188 (.pointer (some ⟨lowWorld + 0, 0, none⟩))])).modify 1 (layCells [.iface 188 (.pointer (some ⟨lowWorld + 1, 0, none⟩))])).modify 3 (layCells (layVals 5 Rows.laid_unicode_utf8_first))) }
end Go.Proofs.YthpignffnnpboaaGreatDoor

/-
  Plain laws: small computations, and loops whose rounds are known.
-/
namespace Go.Proofs.YthpignffnnpboaaGreatDoor
set_option linter.unusedSimpArgs false
set_option linter.unusedVariables false
open Go.RowKit

/-! ### Small computations that cannot fail -/
theorem andO_some (a b : Bool) : andO a (some b) = some (a && b) := by cases a <;> rfl
theorem orO_some (a b : Bool) : orO a (some b) = some (a || b) := by cases a <;> rfl
theorem getI_nat {α : Type} (l : List α) (i : Nat) : getI l (i : Int) = l[i]? := by simp [getI]
theorem thenO_some {R : Type} {c : Option Unit} {m : Option R} (h : c = some ()) : thenO c m = m := by rw [h]; rfl
theorem lenO_ok {n : Nat} (h : n ≤ 137438953472) : lenO n = some () := by simp [lenO, h]
theorem wrapN (i : Nat) (h : i < 9223372036854775807) : IntKind.i64.wrap ((i : Int) + 1) = ((i + 1 : Nat) : Int) := by rw [wrap64 _ (by omega) (by omega)]; simp


/-! ### Loops whose rounds are known -/
theorem loop_trace {S A : Type} {f : S → Option (S ⊕ A)} {a : A} (st : Nat → S) (n : Nat) (hs : ∀ i, i < n → f (st i) = some (.inl (st (i + 1)))) (he : f (st n) = some (.inr a)) : loopC f (st 0) = some a := by
  have : ∀ k, k ≤ n → loopC f (st (n - k)) = some a := by
    intro k
    induction k with
    | zero => intro _; rw [loopC_eq, Nat.sub_zero, he]
    | succ k ih =>
      intro hk
      rw [loopC_eq, hs (n - (k + 1)) (by omega), show n - (k + 1) + 1 = n - k by omega]
      exact ih (by omega)
  have := this n (Nat.le_refl n)
  rwa [Nat.sub_self] at this
theorem bind_loop {S A R : Type} {f : S → Option (S ⊕ A)} {s0 : S} {k : A → Option R} {a : A} {r : Option R} (h : loopC f s0 = some a) (hk : k a = r) : (loopC f s0).bind k = r := by rw [h]; exact hk
/-- The first that there is. -/
def firstS {A : Type} (g : Nat → Option A) : Nat → Nat → Option A
  | _, 0 => none
  | i, n + 1 => match g i with
    | some a => some a
    | none => firstS g (i + 1) n
theorem firstS_skip {A : Type} {g : Nat → Option A} : ∀ (i n k : Nat), k ≤ n → (∀ j, i ≤ j → j < i + k → g j = none) → firstS g i n = firstS g (i + k) (n - k)
  | i, n, 0, _, _ => by simp
  | i, 0, k + 1, h, _ => by omega
  | i, n + 1, k + 1, h, hz => by
    have h1 := hz i (by omega) (by omega)
    simp only [firstS, h1]
    rw [firstS_skip (i + 1) n k (by omega) (fun j hj hj' => hz j (by omega) (by omega))]
    congr 1 <;> omega
theorem firstS_none {A : Type} {g : Nat → Option A} {n : Nat} (h : ∀ j, j < n → g j = none) : firstS g 0 n = none := by
  rw [firstS_skip 0 n n (by omega) (fun j _ hj => h j (by omega)), Nat.sub_self]; rfl
theorem firstS_some {A : Type} {g : Nat → Option A} {n k : Nat} {a : A} (hk : k < n) (hb : ∀ j, j < k → g j = none) (ha : g k = some a) : firstS g 0 n = some a := by
  rw [firstS_skip 0 n k (by omega) (fun j _ hj => hb j (by omega))]
  obtain ⟨m, hm⟩ : ∃ m, n - k = m + 1 := ⟨n - k - 1, by omega⟩
  rw [hm, Nat.zero_add]
  simp only [firstS, ha]
theorem firstS_cases {A : Type} (g : Nat → Option A) (n : Nat) : (firstS g 0 n = none ∧ ∀ j, j < n → g j = none) ∨ ∃ k a, k < n ∧ (∀ j, j < k → g j = none) ∧ g k = some a ∧ firstS g 0 n = some a := by
  by_cases h : ∃ k, k < n ∧ (g k).isSome = true
  · have : ∃ k, (k < n ∧ (g k).isSome = true) ∧ ∀ j, j < k → ¬ (j < n ∧ (g j).isSome = true) := by
      obtain ⟨k, hk⟩ := h
      induction k using Nat.strongRecOn with
      | _ k ih =>
        by_cases hj : ∃ j, j < k ∧ (j < n ∧ (g j).isSome = true)
        · obtain ⟨j, h1, h2⟩ := hj; exact ih j h1 h2
        · exact ⟨k, hk, fun j h1 h2 => hj ⟨j, h1, h2⟩⟩
    obtain ⟨k, ⟨h1, h2⟩, h3⟩ := this
    obtain ⟨a, ha⟩ := Option.isSome_iff_exists.1 h2
    have hb : ∀ j, j < k → g j = none := fun j hj => by
      have := h3 j hj
      cases hg : g j with
      | none => rfl
      | some b => exact absurd ⟨by omega, by simp [hg]⟩ this
    exact .inr ⟨k, a, h1, hb, ha, firstS_some h1 hb ha⟩
  · have hn : ∀ j, j < n → g j = none := fun j hj => by
      cases hg : g j with
      | none => rfl
      | some b => exact absurd ⟨j, hj, by simp [hg]⟩ h
    exact .inl ⟨firstS_none hn, hn⟩
theorem loop_first {S A : Type} {f : S → Option (S ⊕ A)} {z : A} (st : Nat → S) (n : Nat) (g : Nat → Option A) (hs : ∀ i, i < n → g i = none → f (st i) = some (.inl (st (i + 1)))) (hx : ∀ i a, i < n → g i = some a → f (st i) = some (.inr a)) (he : f (st n) = some (.inr z)) : loopC f (st 0) = some ((firstS g 0 n).getD z) := by
  rcases firstS_cases g n with ⟨h1, h2⟩ | ⟨k, a, h1, h2, h3, h4⟩
  · rw [h1, Option.getD_none]
    exact loop_trace st n (fun i hi => hs i hi (h2 i hi)) he
  · rw [h4, Option.getD_some]
    exact loop_trace st k (fun i hi => hs i (by omega) (h2 i hi)) (hx k a h1 h3)
theorem take_snoc {α : Type} {l : List α} {i : Nat} {e : α} (h : l[i]? = some e) : l.take (i + 1) = l.take i ++ [e] := by rw [List.take_add_one, h]; rfl
theorem get_lt {α : Type} {l : List α} {i : Nat} (h : i < l.length) : ∃ e, l[i]? = some e := ⟨_, List.getElem?_eq_getElem h⟩
theorem lt_dec {i n : Nat} (h : i < n) : decide ((i : Int) < (n : Int)) = true := by simpa using h
theorem lt_dec_self (n : Nat) : decide ((n : Int) < (n : Int)) = false := by simp
end Go.Proofs.YthpignffnnpboaaGreatDoor

/-
  Plain laws: loops over lists with a state and an early end; folds over nested lists.
-/
namespace Go.Proofs.YthpignffnnpboaaGreatDoor
set_option linter.unusedSimpArgs false
set_option linter.unusedVariables false
open Go.RowKit

/-- A loop over a list: the number, the state and the element give the next state or the end. -/
def runI {α S A : Type} (g : Nat → S → α → Option (S ⊕ A)) (fin : S → Option A) : List α → Nat → S → Option A
  | [], _, s => fin s
  | e :: l, i, s => match g i s e with
    | some (.inl s') => runI g fin l (i + 1) s'
    | some (.inr a) => some a
    | none => none
theorem drop_head {α : Type} {l t : List α} {e : α} {i : Nat} (hd : l.drop i = e :: t) : l[i]? = some e ∧ i < l.length ∧ l.drop (i + 1) = t := by
  refine ⟨?_, ?_, ?_⟩
  · have := congrArg (fun q => q[0]?) hd
    simpa using this
  · rcases Nat.lt_or_ge i l.length with h | h
    · exact h
    · rw [List.drop_eq_nil_of_le h] at hd; cases hd
  · have := congrArg List.tail hd
    simpa using this
theorem drop_nil_len {α : Type} {l : List α} {i : Nat} (hd : l.drop i = []) (hi : i ≤ l.length) : i = l.length := by
  have := congrArg List.length hd; simp at this; omega
theorem loop_runI {α S T A : Type} (l : List α) (mk : Nat → S → T) (g : Nat → S → α → Option (S ⊕ A)) (fin : S → Option A) {f : T → Option (T ⊕ A)}
    (hb : ∀ (i : Nat) (e : α) (s : S), l[i]? = some e → f (mk i s) = (match g i s e with | some (.inl s') => some (.inl (mk (i + 1) s')) | some (.inr a) => some (.inr a) | none => none))
    (he : ∀ s, f (mk l.length s) = (fin s).map .inr) (s : S) : loopC f (mk 0 s) = runI g fin l 0 s := by
  have : ∀ (t : List α) (i : Nat) (s : S), l.drop i = t → i ≤ l.length → loopC f (mk i s) = runI g fin t i s := by
    intro t
    induction t with
    | nil =>
      intro i s hd hi
      have := drop_nil_len hd hi
      subst this
      rw [loopC_eq, he]
      simp only [runI]
      cases fin s <;> rfl
    | cons e t ih =>
      intro i s hd hi
      obtain ⟨h1, h2, h3⟩ := drop_head hd
      rw [loopC_eq, hb i e s h1]
      simp only [runI]
      cases g i s e with
      | none => rfl
      | some o =>
        cases o with
        | inr a => rfl
        | inl s' => exact ih (i + 1) s' h3 h2
  exact this l 0 s rfl (Nat.zero_le _)
/-- A loop over a list whose state before each round is known from what is before. -/
theorem loop_pre {α T A : Type} (l : List α) (st : Nat → List α → T) {f : T → Option (T ⊕ A)} {a : A}
    (hb : ∀ (i : Nat) (e : α), l[i]? = some e → f (st i (l.take i)) = some (.inl (st (i + 1) (l.take i ++ [e]))))
    (he : f (st l.length l) = some (.inr a)) : loopC f (st 0 []) = some a := by
  have := loop_trace (f := f) (a := a) (fun i => st i (l.take i)) l.length (fun i hi => by
    obtain ⟨e, h⟩ := get_lt hi
    show f (st i (l.take i)) = some (.inl (st (i + 1) (l.take (i + 1))))
    rw [hb i e h, take_snoc h]) (by
    show f (st l.length (l.take l.length)) = _
    rw [List.take_length]; exact he)
  simpa using this
theorem get_le {α : Type} {l : List α} {i : Nat} {e : α} (h : l[i]? = some e) : i < l.length := (List.getElem?_eq_some_iff.1 h).1
end Go.Proofs.YthpignffnnpboaaGreatDoor

/-
  Plain laws of the archive: digests are sixteen digits.
-/
namespace Go.Proofs.YthpignffnnpboaaGreatDoor
set_option linter.unusedSimpArgs false
set_option linter.unusedVariables false
open Go.RowKit

def hexSet : List UInt8 := [48, 49, 50, 51, 52, 53, 54, 55, 56, 57, 97, 98, 99, 100, 101, 102]
def hexB (b : UInt8) : Bool := hexSet.contains b
def dig36 : List UInt8 := [48, 49, 50, 51, 52, 53, 54, 55, 56, 57, 97, 98, 99, 100, 101, 102, 103, 104, 105, 106, 107, 108, 109, 110, 111, 112, 113, 114, 115, 116, 117, 118, 119, 120, 121, 122]
theorem dig_hex (n : Int) (h0 : 0 ≤ n) (h1 : n < 16) : ∃ e, getI dig36 n = some e ∧ hexB e = true := by
  obtain ⟨k, rfl⟩ : ∃ k : Nat, n = (k : Int) := ⟨n.toNat, by omega⟩
  have : ∀ j : Fin 16, ∃ e, dig36[j.1]? = some e ∧ hexB e = true := by decide
  obtain ⟨e, h2, h3⟩ := this ⟨k, by omega⟩
  exact ⟨e, by rw [getI_nat]; exact h2, h3⟩
theorem and_lt (u : Int) : 0 ≤ bitI .and .u64 u 15 ∧ bitI .and .u64 u 15 < 16 := by
  unfold bitI
  simp only
  rw [IntKind.wrap_u64]
  have h := Nat.and_le_right (n := (BitVec.ofInt IntKind.u64.bits u).toNat) (m := (BitVec.ofInt IntKind.u64.bits 15).toNat)
  have h15 : (BitVec.ofInt IntKind.u64.bits 15).toNat = 15 := by decide
  rw [h15] at h
  have e : (BitVec.ofInt IntKind.u64.bits u &&& BitVec.ofInt IntKind.u64.bits 15).toNat = (BitVec.ofInt IntKind.u64.bits u).toNat &&& 15 := by rw [BitVec.toNat_and, h15]
  rw [e]
  omega
/-- The digits that are laid from a place on. -/
structure Laid (arr : List UInt8) (k : Nat) : Prop where
  len : arr.length = 65
  hex : ∀ j, 65 - k ≤ j → j < 65 → ∃ b, arr[j]? = some b ∧ hexB b = true
theorem Laid.set {arr : List UInt8} {k : Nat} {e : UInt8} (h : Laid arr k) (hk : k ≤ 64) (he : hexB e = true) : Laid (arr.set (64 - k) e) (k + 1) := by
  refine ⟨by simp [h.len], fun j h1 h2 => ?_⟩
  have := h.len
  by_cases hj : 64 - k = j
  · exact ⟨e, by rw [List.getElem?_set, if_pos hj, if_pos (by omega)], he⟩
  · obtain ⟨b, h3, h4⟩ := h.hex j (by omega) h2
    exact ⟨b, by rw [List.getElem?_set, if_neg hj]; exact h3, h4⟩
theorem i_dec (k : Nat) (hk : k ≤ 64) : IntKind.i64.wrap (((65 - k : Nat) : Int) - 1) = ((64 - k : Nat) : Int) := by rw [wrap64 _ (by omega) (by omega)]; omega
theorem fmt_loop {f : Int × List UInt8 × Int → Option ((Int × List UInt8 × Int) ⊕ ((Int × List UInt8 × Int) ⊕ (List UInt8 × List UInt8)))}
    (hf : ∀ (u : Int) (arr : List UInt8) (i : Int), f (u, arr, i) = bif decide (16 ≤ u) then (getI dig36 (bitI .and .u64 u 15)).bind fun e => thenO (inO (IntKind.i64.wrap (i - 1)) 65) (arr[(IntKind.i64.wrap (i - 1)).toNat]?.bind fun _ => some (.inl (u / 2 ^ 4, arr.set (IntKind.i64.wrap (i - 1)).toNat e, IntKind.i64.wrap (i - 1)))) else some (.inr (.inl (u, arr, i)))) :
    ∀ (n k : Nat) (u : Int) (arr : List UInt8), k + n = 15 → 0 ≤ u → u < 16 ^ (n + 1) → Laid arr k → ∃ u' arr' k', loopC f (u, arr, ((65 - k : Nat) : Int)) = some (.inl (u', arr', ((65 - k' : Nat) : Int))) ∧ k' ≤ 15 ∧ 0 ≤ u' ∧ u' < 16 ∧ Laid arr' k' := by
  intro n
  induction n with
  | zero =>
    intro k u arr hk h0 h1 hL
    refine ⟨u, arr, k, ?_, by omega, h0, by simpa using h1, hL⟩
    rw [loopC_eq, hf, decide_eq_false (by simp at h1; omega)]
    rfl
  | succ n ih =>
    intro k u arr hk h0 h1 hL
    by_cases hu : 16 ≤ u
    · obtain ⟨e, he, hx⟩ := dig_hex _ (and_lt u).1 (and_lt u).2
      have hl := hL.len
      obtain ⟨b, hb⟩ := get_lt (show 64 - k < arr.length by omega)
      have hin : inO (((64 - k : Nat) : Int)) 65 = some () := by unfold inO; rw [if_pos (by omega)]
      have h16 : u / 2 ^ 4 < 16 ^ (n + 1) := by
        have : (2 : Int) ^ 4 = 16 := by decide
        rw [this]
        refine Int.ediv_lt_of_lt_mul (by decide) ?_
        rw [← Int.pow_succ]; exact h1
      obtain ⟨u', arr', k', h2, h3⟩ := ih (k + 1) (u / 2 ^ 4) (arr.set (64 - k) e) (by omega) (Int.ediv_nonneg h0 (by decide)) h16 (hL.set (by omega) hx)
      refine ⟨u', arr', k', ?_, h3⟩
      rw [loopC_eq, hf, decide_eq_true hu]
      simp only [cond_true, he, Option.bind_some, i_dec k (by omega), hin, thenO_some, Int.toNat_natCast, hb]
      rw [show (65 - (k + 1)) = 64 - k by omega] at h2
      exact h2
    · refine ⟨u, arr, k, ?_, by omega, h0, by omega, hL⟩
      rw [loopC_eq, hf, decide_eq_false hu]
      rfl
theorem fmt_use {F : Int × List UInt8 × Int → Option ((Int × List UInt8 × Int) ⊕ ((Int × List UInt8 × Int) ⊕ (List UInt8 × List UInt8)))} {s0 : Int × List UInt8 × Int} {K : Int × List UInt8 × Int → Option (List UInt8 × List UInt8)} {Q : List UInt8 → Prop}
    (hl : ∃ u' arr' k', loopC F s0 = some (.inl (u', arr', ((65 - k' : Nat) : Int))) ∧ k' ≤ 15 ∧ 0 ≤ u' ∧ u' < 16 ∧ Laid arr' k')
    (hK : ∀ (u' : Int) (arr' : List UInt8) (k' : Nat), k' ≤ 15 → 0 ≤ u' → u' < 16 → Laid arr' k' → ∃ x, K (u', arr', ((65 - k' : Nat) : Int)) = some x ∧ Q x.2) :
    ∃ s, ((((loopC F s0).bind (outK K)).bind fun x => some x.snd).bind fun x => some x) = some s ∧ Q s := by
  obtain ⟨u', arr', k', h1, h2, h3, h4, h5⟩ := hl
  obtain ⟨x, h6, h7⟩ := hK u' arr' k' h2 h3 h4 h5
  refine ⟨x.2, ?_, h7⟩
  rw [h1]
  simp only [Option.bind_some, outK, h6]
theorem fmt (u : Int) (h0 : 0 ≤ u) (h1 : u < 18446744073709551616) : ∃ s, m_strconv_FormatUint u 16 = some s ∧ s.length ≤ 16 ∧ ∀ b ∈ s, hexB b = true := by
  have hp : m_internal_strconv_isPowerOfTwo 16 = some true := by
    unfold m_internal_strconv_isPowerOfTwo sims_F1_0_0; dsimp only
    decide
  have ht : m_math_bits_TrailingZeros 16 = some 4 := by
    unfold m_math_bits_TrailingZeros sims_F1_0_0; dsimp only
    rfl
  have w16 : IntKind.u64.wrap 16 = 16 := by decide
  have w15 : IntKind.u64.wrap (16 - 1) = 15 := by decide
  have w4 : IntKind.u64.wrap 4 = 4 := by decide
  have hs : shO IntKind.u64 4 = some () := by decide
  unfold m_strconv_FormatUint sims_F1_3_0; dsimp only
  unfold m_internal_strconv_FormatUint sims_F1_2_0; dsimp only
  unfold m_internal_strconv_formatBits sims_F1_1_0; dsimp only
  simp only [w16, w15, hp, ht, Option.bind_some, orO_some, w4, hs, thenO_some]
  rw [show decide ((16 : Int) = 10) = false from rfl, show (decide ((16 : Int) < 2) || false || decide ((36 : Int) < 16)) = false from rfl]
  simp only [cond_false, cond_true]
  have hL : Laid (List.replicate 65 0) 0 := ⟨by simp, fun j h2 h3 => by omega⟩
  refine fmt_use (Q := fun s => s.length ≤ 16 ∧ ∀ b ∈ s, hexB b = true) (fmt_loop (fun u arr i => rfl) 15 0 u (List.replicate 65 0) rfl h0 (by simpa using h1) hL) ?_
  intro u' arr' k' h2 h3 h4 h5
  obtain ⟨e, he, hx⟩ := dig_hex u' h3 h4
  have hl := h5.len
  obtain ⟨b, hb⟩ := get_lt (show 64 - k' < arr'.length by omega)
  have hin : inO (((64 - k' : Nat) : Int)) 65 = some () := by unfold inO; rw [if_pos (by omega)]
  have hin2 : inO (((64 - k' : Nat) : Int)) (65 + 1) = some () := by unfold inO; rw [if_pos (by omega)]
  have hln : lnO (arr'.set (64 - k') e).length 65 = some () := by unfold lnO; rw [if_pos (by simp [hl])]
  have he' : getI [48, 49, 50, 51, 52, 53, 54, 55, 56, 57, 97, 98, 99, 100, 101, 102, 103, 104, 105, 106, 107, 108, 109, 110, 111, 112, 113, 114, 115, 116, 117, 118, 119, 120, 121, 122] u' = some e := he
  have hL2 := h5.set (by omega) hx
  refine ⟨([], (arr'.set (64 - k') e).drop (64 - k')), ?_, ?_, fun q hq => ?_⟩
  · simp only [he', Option.bind_some, i_dec k' (by omega), hin, hin2, thenO_some, Int.toNat_natCast, hb, hln]
  · simp [hl]; omega
  · obtain ⟨j, hj⟩ := List.getElem?_of_mem hq
    rw [List.getElem?_drop] at hj
    have hlt := (List.getElem?_eq_some_iff.1 hj).1
    rw [hL2.len] at hlt
    obtain ⟨b2, h6, h7⟩ := hL2.hex (64 - k' + j) (by omega) hlt
    rw [hj] at h6
    cases h6
    exact h7
/-! ### Digests -/
def stepH (h : Int) (e : UInt8) : Int := IntKind.u64.wrap (bitI BinOp.xor IntKind.u64 h (IntKind.u64.wrap (e.toNat : Int)) * 1099511628211)
def hashF (b : List UInt8) : Int := b.foldl stepH 14695981039346656037
theorem wrap_rng (n : Int) : 0 ≤ IntKind.u64.wrap n ∧ IntKind.u64.wrap n < 18446744073709551616 := by rw [IntKind.wrap_u64]; omega
theorem hash_rng (b : List UInt8) : 0 ≤ hashF b ∧ hashF b < 18446744073709551616 := by
  have : ∀ (l : List UInt8) (h : Int), 0 ≤ h ∧ h < 18446744073709551616 → 0 ≤ l.foldl stepH h ∧ l.foldl stepH h < 18446744073709551616 := by
    intro l
    induction l with
    | nil => intro h hh; exact hh
    | cons e l ih => intro h _; exact ih _ (wrap_rng _)
  exact this b _ (by decide)
noncomputable def dg (b : List UInt8) : List UInt8 := (m_partner_Digest b).getD []
theorem dg_eq (b : List UInt8) (hb : b.length ≤ 9223372036854775807) : m_partner_Digest b = some (dg b) ∧ (dg b).length = 16 ∧ ∀ x ∈ dg b, hexB x = true := by
  have : ∃ s, m_partner_Digest b = some s ∧ s.length = 16 ∧ ∀ x ∈ s, hexB x = true := by
    obtain ⟨s, h1, h2, h3⟩ := fmt (hashF b) (hash_rng b).1 (hash_rng b).2
    refine ⟨Lib.repeatL [48] (16 - s.length) ++ s, ?_, ?_, fun x hx => ?_⟩
    · unfold m_partner_Digest sims_G1_0_7; dsimp only
      refine bind_loop (a := .inl (hashF b, (b.length : Int))) (loop_pre b (fun i q => (hashF q, (i : Int))) (fun i e he => ?_) (by simp only [lt_dec_self, cond_false]; rfl)) ?_
      · have hi := get_le he
        simp only [lt_dec hi, cond_true, getI_nat, he, Option.bind_some, wrapN i (by omega)]
        simp only [hashF, List.foldl_append, List.foldl_cons, List.foldl_nil]
        rfl
      · have hr : m_strings_Repeat [48] (((16 - s.length : Nat)) : Int) = some (Lib.repeatL [48] (16 - s.length)) := by
          unfold m_strings_Repeat
          rw [if_pos ⟨by omega, by omega, by decide⟩, Int.toNat_natCast]
        simp only [outK, h1, Option.bind_some]
        rw [wrap64 _ (by omega) (by omega), show (16 : Int) - (s.length : Int) = ((16 - s.length : Nat) : Int) by omega, hr]
        simp only [Option.bind_some]
        rw [thenO_some (strO_some.2 (by rw [Lib.repeatL_length]; simp; omega))]
    · rw [List.length_append, Lib.repeatL_length]; simp; omega
    · rcases List.mem_append.1 hx with hx | hx
      · have := Lib.repeatL_replicate 48 1 (16 - s.length)
        simp only [List.replicate_succ, List.replicate_zero] at this
        rw [this] at hx
        rw [(List.mem_replicate.1 hx).2]; decide
      · exact h3 x hx
  obtain ⟨s, h1, h2⟩ := this
  unfold dg
  rw [h1]
  exact ⟨rfl, h2⟩
end Go.Proofs.YthpignffnnpboaaGreatDoor

/-
  Plain laws of the archive: DeskHeadsStay.
-/
namespace Go.Proofs.YthpignffnnpboaaGreatDoor
set_option linter.unusedSimpArgs false
set_option linter.unusedVariables false
open Go.RowKit

abbrev Rc := Tapi_Record
theorem name_some (l : List UInt8) (hl : l.length ≤ 9223372036854775807) : ∃ b, m_kit_IsName l = some b ∧ (b = true → l.length ≤ 40) := by
  unfold m_kit_IsName sims_G1_0_5; dsimp only
  cases l with
  | nil => exact ⟨false, rfl, fun h => by cases h⟩
  | cons b l =>
    have hg : getI (b :: l) 0 = some b := rfl
    simp only [hg, Option.bind_some, orO_some]
    have ht : ∃ t, m_strings_Trim (b :: l) [97, 98, 99, 100, 101, 102, 103, 104, 105, 106, 107, 108, 109, 110, 111, 112, 113, 114, 115, 116, 117, 118, 119, 120, 121, 122, 48, 49, 50, 51, 52, 53, 54, 55, 56, 57, 45] = some t := by
      unfold m_strings_Trim
      rw [if_pos ⟨hl, by decide, by decide⟩]
      exact ⟨_, rfl⟩
    obtain ⟨t, ht⟩ := ht
    rw [ht]
    cases hv : (decide (((b :: l).length : Int) < 1) || decide ((40 : Int) < ((b :: l).length : Int)) || decide ((b.toNat : Int) < 97) || decide ((122 : Int) < (b.toNat : Int))) with
    | true => exact ⟨false, rfl, fun h => by cases h⟩
    | false =>
      refine ⟨decide (t = []), rfl, fun _ => ?_⟩
      simp only [Bool.or_eq_false_iff, decide_eq_false_iff_not] at hv
      omega
theorem inb_some (l : List UInt8) (lo hi : UInt8) (hl : l.length ≤ 1000000) : ∃ b, m_kit_InBytes l lo hi = some b := by
  unfold m_kit_InBytes sims_G1_0_3; dsimp only
  have key : ∀ (v : Int ⊕ Bool), ∃ b, outK (fun _ => some true) v = some b := fun v => by cases v <;> exact ⟨_, rfl⟩
  obtain ⟨b, hb⟩ := key ((firstS (fun i => match l[i]? with | some e => bif (decide ((e.toNat : Int) < (lo.toNat : Int)) || decide ((hi.toNat : Int) < (e.toNat : Int))) then some (Sum.inr false) else none | none => none) 0 l.length).getD (.inl (l.length : Int)))
  refine ⟨b, bind_loop (loop_first (fun i => (i : Int)) l.length (fun i => match l[i]? with | some e => bif (decide ((e.toNat : Int) < (lo.toNat : Int)) || decide ((hi.toNat : Int) < (e.toNat : Int))) then some (Sum.inr false) else none | none => none) (fun i hi2 hn => ?_) (fun i a hi2 ha => ?_) ?_) hb⟩
  · obtain ⟨e, he⟩ := get_lt hi2
    simp only [he] at hn
    simp only [lt_dec hi2, cond_true, getI_nat, he, Option.bind_some, orO_some, wrapN i (by omega)]
    cases hc : (decide ((e.toNat : Int) < (lo.toNat : Int)) || decide ((hi.toNat : Int) < (e.toNat : Int))) with
    | true => rw [hc] at hn; cases hn
    | false => rfl
  · obtain ⟨e, he⟩ := get_lt hi2
    simp only [he] at ha
    simp only [lt_dec hi2, cond_true, getI_nat, he, Option.bind_some, orO_some]
    cases hc : (decide ((e.toNat : Int) < (lo.toNat : Int)) || decide ((hi.toNat : Int) < (e.toNat : Int))) with
    | true => rw [hc] at ha; cases ha; rfl
    | false => rw [hc] at ha; cases ha
  · simp only [lt_dec_self, cond_false]; rfl
noncomputable def nmB (l : List UInt8) : Bool := (m_kit_IsName l).getD false
noncomputable def inB (l : List UInt8) (lo : UInt8) : Bool := (m_kit_InBytes l lo (UInt8.ofNat (Int.toNat 126))).getD false
def momB (t : Int) : Bool := !(decide (t < 0) || decide (1000000000000000 < t))
theorem nm_eq (l : List UInt8) (hl : l.length ≤ 9223372036854775807) : m_kit_IsName l = some (nmB l) := by
  obtain ⟨b, h, _⟩ := name_some l hl
  unfold nmB; rw [h]; rfl
theorem nm_len {l : List UInt8} (hl : l.length ≤ 9223372036854775807) (h : nmB l = true) : l.length ≤ 40 := by
  obtain ⟨b, h1, h2⟩ := name_some l hl
  unfold nmB at h; rw [h1] at h
  exact h2 h
theorem in_eq (l : List UInt8) (lo : UInt8) (hl : l.length ≤ 1000000) : m_kit_InBytes l lo (UInt8.ofNat (Int.toNat 126)) = some (inB l lo) := by
  obtain ⟨b, h⟩ := inb_some l lo (UInt8.ofNat (Int.toNat 126)) hl
  unfold inB; rw [h]; rfl
theorem mom_eq (t : Int) : m_kit_IsMoment t = some (momB t) := by
  unfold m_kit_IsMoment sims_G1_1_4; dsimp only
  unfold m_kit_Outside sims_G1_0_4; dsimp only
  simp only [orO_some, Option.bind_some]; rfl
noncomputable def keyBad (k : List UInt8) : Bool := decide ((k.length : Int) < 1) || decide (40 < (k.length : Int)) || !inB k (UInt8.ofNat (Int.toNat 33))
noncomputable def ffF (t : Int) (k key text : List UInt8) : Int :=
  bif !momB t then 1 else bif !nmB k then 5 else bif keyBad key then 3 else bif decide (2000 < (text.length : Int)) then 2 else bif !inB text (UInt8.ofNat (Int.toNat 32)) then 3 else 0
theorem ff_eq (t : Int) (k key text : List UInt8) (hk : k.length ≤ 9223372036854775807) : m_desk_fieldsFault t k key text = some (ffF t k key text) := by
  unfold m_desk_fieldsFault sims_G1_2_2; dsimp only
  simp only [mom_eq, nm_eq k hk, Option.bind_some, orO_some]
  unfold ffF keyBad
  cases momB t with
  | false => rfl
  | true =>
  cases nmB k with
  | false => rfl
  | true =>
  simp only [Bool.not_true, cond_false]
  cases hv : (decide ((key.length : Int) < 1) || decide (40 < (key.length : Int))) with
  | true => rfl
  | false =>
  have hkl : key.length ≤ 1000000 := by simp only [Bool.or_eq_false_iff, decide_eq_false_iff_not] at hv; omega
  rw [in_eq key _ hkl]
  simp only [Option.bind_some, orO_some, Bool.false_or]
  cases !inB key (UInt8.ofNat (Int.toNat 33)) with
  | true => rfl
  | false =>
  simp only [cond_false]
  cases ht : decide (2000 < (text.length : Int)) with
  | true => rfl
  | false =>
  have htl : text.length ≤ 1000000 := by have := of_decide_eq_false ht; omega
  rw [in_eq text _ htl]
  simp only [Option.bind_some, cond_false]
  cases inB text (UInt8.ofNat (Int.toNat 32)) <;> rfl
structure FfOk (t : Int) (k key text : List UInt8) : Prop where
  mom : momB t = true
  nm : nmB k = true
  key : keyBad key = false
  len : decide (2000 < (text.length : Int)) = false
  inb : inB text (UInt8.ofNat (Int.toNat 32)) = true
theorem ff_zero {t : Int} {k key text : List UInt8} : ffF t k key text = 0 ↔ FfOk t k key text := by
  unfold ffF
  constructor
  · intro h
    cases h1 : momB t with
    | false => rw [h1] at h; cases h
    | true =>
    cases h2 : nmB k with
    | false => rw [h1, h2] at h; cases h
    | true =>
    cases h3 : keyBad key with
    | true => rw [h1, h2, h3] at h; cases h
    | false =>
    cases h4 : decide (2000 < (text.length : Int)) with
    | true => rw [h1, h2, h3, h4] at h; cases h
    | false =>
    cases h5 : inB text (UInt8.ofNat (Int.toNat 32)) with
    | false => rw [h1, h2, h3, h4, h5] at h; cases h
    | true => exact ⟨h1, h2, h3, h4, h5⟩
  · rintro ⟨h1, h2, h3, h4, h5⟩
    rw [h1, h2, h3, h4, h5]; rfl
def digB (s : List UInt8) : Bool := decide ((s.length : Int) = 16) && decide (Lib.trimS s hexSet = [])
theorem isDig_eq (s : List UInt8) (hs : s.length ≤ 9223372036854775807) : m_desk_isDigest s = some (digB s) := by
  have ht : m_strings_Trim s hexSet = some (Lib.trimS s hexSet) := by
    unfold m_strings_Trim
    rw [if_pos ⟨hs, by decide, by decide⟩]
  have hu : ([48, 49, 50, 51, 52, 53, 54, 55, 56, 57, 97, 98, 99, 100, 101, 102] : List UInt8) = hexSet := rfl
  unfold m_desk_isDigest sims_G1_0_6; dsimp only
  rw [hu, ht]
  simp only [Option.bind_some, andO_some, digB]
theorem dig_len {s : List UInt8} (h : digB s = true) : s.length = 16 := by
  unfold digB at h
  simp only [Bool.and_eq_true, decide_eq_true_eq] at h
  omega
structure RecOk (r : Rc) : Prop where
  kind : r.fKind.length ≤ 9223372036854775807
  key : r.fKey.length ≤ 9223372036854775807
  dig : r.fDigest.length ≤ 9223372036854775807
  text : r.fText.length ≤ 9223372036854775807
noncomputable def rfF (r : Rc) : Int :=
  if ffF r.fTime r.fKind r.fKey r.fText = 0 then (bif r.fDropped && !decide (r.fText = []) then 3 else bif !digB r.fDigest then 3 else bif !r.fDropped && !decide (dg r.fText = r.fDigest) then 15 else 0) else ffF r.fTime r.fKind r.fKey r.fText
theorem rf_eq (r : Rc) (h : RecOk r) : m_desk_recordFault r = some (rfF r) := by
  unfold m_desk_recordFault sims_G1_3_1; dsimp only
  rw [ff_eq _ _ _ _ h.kind, isDig_eq _ h.dig, (dg_eq _ h.text).1]
  simp only [Option.bind_some, andO_some]
  unfold rfF
  by_cases hf : ffF r.fTime r.fKind r.fKey r.fText = 0
  · rw [if_pos hf, decide_eq_true hf]
    simp only [Bool.not_true, cond_false]
    cases r.fDropped && !decide (r.fText = []) with
    | true => rfl
    | false =>
    cases digB r.fDigest with
    | false => rfl
    | true =>
    cases !r.fDropped && !decide (dg r.fText = r.fDigest) <;> rfl
  · rw [if_neg hf, decide_eq_false hf]; rfl
structure RfOk (r : Rc) : Prop where
  ff : FfOk r.fTime r.fKind r.fKey r.fText
  drop : (r.fDropped && !decide (r.fText = [])) = false
  dig : digB r.fDigest = true
  dam : (!r.fDropped && !decide (dg r.fText = r.fDigest)) = false
theorem rf_zero {r : Rc} : rfF r = 0 ↔ RfOk r := by
  unfold rfF
  constructor
  · intro h
    by_cases hf : ffF r.fTime r.fKind r.fKey r.fText = 0
    · rw [if_pos hf] at h
      cases h1 : (r.fDropped && !decide (r.fText = [])) with
      | true => rw [h1] at h; cases h
      | false =>
      cases h2 : digB r.fDigest with
      | false => rw [h1, h2] at h; cases h
      | true =>
      cases h3 : (!r.fDropped && !decide (dg r.fText = r.fDigest)) with
      | true => rw [h1, h2, h3] at h; cases h
      | false => exact ⟨ff_zero.1 hf, h1, h2, h3⟩
    · rw [if_neg hf] at h; exact absurd h hf
  · rintro ⟨h0, h1, h2, h3⟩
    rw [if_pos (ff_zero.2 h0), h1, h2, h3]; rfl
/-! ### Archives -/
def caAt (rf : Rc → Int) (l : List Rc) (i : Nat) : Option Int := match l[i]? with
  | some r => if rf r = 0 then (match l[i - 1]? with | some q => bif decide (0 < i) && decide (r.fTime < q.fTime) then some 8 else none | none => none) else some (rf r)
  | none => none
noncomputable def caF (l : List Rc) : Int := bif decide (2000 < (l.length : Int)) then 2 else (firstS (caAt rfF l) 0 l.length).getD 0
theorem firstS_map {A B : Type} (h : A → B) (g : Nat → Option A) : ∀ (n i : Nat), firstS (fun j => (g j).map h) i n = (firstS g i n).map h
  | 0, _ => rfl
  | n + 1, i => by
    simp only [firstS]
    cases g i with
    | some a => rfl
    | none => exact firstS_map h g n (i + 1)
theorem lt_int (i : Nat) : decide ((0 : Int) < (i : Int)) = decide (0 < i) := by
  by_cases h : 0 < i
  · rw [decide_eq_true h, decide_eq_true (by omega)]
  · rw [decide_eq_false h, decide_eq_false (by omega)]
theorem prev_eq {l : List Rc} {i : Nat} {r : Rc} (hr : l[i]? = some r) (hl : l.length ≤ 2000) : ∃ q, l[i - 1]? = some q ∧ (andO (decide ((0 : Int) < (i : Int))) ((getI l (IntKind.i64.wrap ((i : Int) - 1))).bind fun e => some (decide (r.fTime < e.fTime)))) = some (decide (0 < i) && decide (r.fTime < q.fTime)) := by
  have hi := get_le hr
  obtain ⟨q, hq⟩ := get_lt (show i - 1 < l.length by omega)
  refine ⟨q, hq, ?_⟩
  rw [lt_int]
  by_cases hz : 0 < i
  · rw [wrap64 _ (by omega) (by omega), show (i : Int) - 1 = ((i - 1 : Nat) : Int) by omega, getI_nat, hq]
    simp only [Option.bind_some, andO_some]
  · rw [decide_eq_false hz]; rfl
theorem ca_eq (l : List Rc) (h : ∀ r ∈ l, RecOk r) : m_desk_CheckArchive l = some (caF l) := by
  unfold m_desk_CheckArchive sims_G1_4_0; dsimp only
  unfold caF
  cases hl : decide (2000 < (l.length : Int)) with
  | true => rfl
  | false =>
  have hl2 : l.length ≤ 2000 := by have := of_decide_eq_false hl; omega
  simp only [cond_false]
  refine bind_loop (loop_first (z := .inl (l.length : Int)) (fun i => (i : Int)) l.length (fun i => (caAt rfF l i).map .inr) (fun i hi hn => ?_) (fun i a hi ha => ?_) (by simp only [lt_dec_self, cond_false]; rfl)) ?_
  · obtain ⟨r, hr⟩ := get_lt hi
    obtain ⟨q, hq, hp⟩ := prev_eq hr hl2
    simp only [lt_dec hi, cond_true, getI_nat, hr, Option.bind_some, rf_eq r (h r (List.mem_of_getElem? hr))]
    have hn : caAt rfF l i = none := by simpa using hn
    unfold caAt at hn
    rw [hr, hq] at hn
    simp only at hn
    by_cases hf : rfF r = 0
    · rw [if_pos hf] at hn
      rw [decide_eq_true hf]
      simp only [Bool.not_true, cond_false]
      rw [hp]
      cases hc : (decide (0 < i) && decide (r.fTime < q.fTime)) with
      | true => rw [hc] at hn; cases hn
      | false => simp only [Option.bind_some, cond_false, wrapN i (by omega)]
    · rw [if_neg hf] at hn; cases hn
  · obtain ⟨r, hr⟩ := get_lt hi
    obtain ⟨q, hq, hp⟩ := prev_eq hr hl2
    simp only [lt_dec hi, cond_true, getI_nat, hr, Option.bind_some, rf_eq r (h r (List.mem_of_getElem? hr))]
    unfold caAt at ha
    rw [hr, hq] at ha
    simp only at ha
    by_cases hf : rfF r = 0
    · rw [if_pos hf] at ha
      rw [decide_eq_true hf]
      simp only [Bool.not_true, cond_false]
      rw [hp]
      cases hc : (decide (0 < i) && decide (r.fTime < q.fTime)) with
      | true => rw [hc] at ha; cases ha; rfl
      | false => rw [hc] at ha; cases ha
    · rw [if_neg hf] at ha
      rw [decide_eq_false hf]
      cases ha; rfl
  · rw [firstS_map]
    cases firstS (caAt rfF l) 0 l.length <;> rfl
structure CaOk (l : List Rc) : Prop where
  len : l.length ≤ 2000
  rf : ∀ r ∈ l, RfOk r
  ord : ∀ (i : Nat) (r q : Rc), 0 < i → l[i]? = some r → l[i - 1]? = some q → ¬ r.fTime < q.fTime
theorem ca_zero {l : List Rc} : caF l = 0 ↔ CaOk l := by
  unfold caF
  constructor
  · intro h
    cases hl : decide (2000 < (l.length : Int)) with
    | true => rw [hl] at h; cases h
    | false =>
    have hl2 : l.length ≤ 2000 := by have := of_decide_eq_false hl; omega
    rw [hl] at h
    simp only [cond_false] at h
    rcases firstS_cases (caAt rfF l) l.length with ⟨h1, h2⟩ | ⟨k, a, hk, _, h3, h4⟩
    · have hat : ∀ (i : Nat) (r : Rc), l[i]? = some r → rfF r = 0 ∧ ∀ q, 0 < i → l[i - 1]? = some q → ¬ r.fTime < q.fTime := by
        intro i r hr
        have := h2 i (get_le hr)
        obtain ⟨q, hq, _⟩ := prev_eq hr hl2
        unfold caAt at this
        rw [hr, hq] at this
        simp only at this
        by_cases hf : rfF r = 0
        · rw [if_pos hf] at this
          refine ⟨hf, fun q' h0 hq' ht => ?_⟩
          rw [hq] at hq'; cases hq'
          rw [decide_eq_true h0, decide_eq_true ht] at this; cases this
        · rw [if_neg hf] at this; cases this
      refine ⟨hl2, fun r hr => ?_, fun i r q h0 hr hq => (hat i r hr).2 q h0 hq⟩
      obtain ⟨i, hi⟩ := List.getElem?_of_mem hr
      exact rf_zero.1 (hat i r hi).1
    · rw [h4] at h
      simp only [Option.getD_some] at h
      subst h
      exfalso
      obtain ⟨r, hr⟩ := get_lt hk
      obtain ⟨q, hq, _⟩ := prev_eq hr hl2
      unfold caAt at h3
      rw [hr, hq] at h3
      simp only at h3
      by_cases hf : rfF r = 0
      · rw [if_pos hf] at h3
        cases hc : (decide (0 < k) && decide (r.fTime < q.fTime)) with
        | true => rw [hc] at h3; cases h3
        | false => rw [hc] at h3; cases h3
      · rw [if_neg hf] at h3
        exact hf (Option.some.inj h3)
  · rintro ⟨h1, h2, h3⟩
    rw [decide_eq_false (by omega)]
    simp only [cond_false]
    rw [firstS_none (fun i hi => ?_)]
    · rfl
    · obtain ⟨r, hr⟩ := get_lt hi
      obtain ⟨q, hq, _⟩ := prev_eq hr h1
      unfold caAt
      rw [hr, hq]
      simp only
      rw [if_pos (rf_zero.2 (h2 r (List.mem_of_getElem? hr)))]
      by_cases hz : 0 < i
      · rw [decide_eq_false (h3 i r q hz hr hq), Bool.and_false]; rfl
      · rw [decide_eq_false hz]; rfl
end Go.Proofs.YthpignffnnpboaaGreatDoor
