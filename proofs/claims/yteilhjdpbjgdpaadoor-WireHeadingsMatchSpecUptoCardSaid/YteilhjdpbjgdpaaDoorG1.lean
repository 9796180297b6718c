/-
  Bodies of functions and what they compute, printed by programs of mine (wip/tool/gen.py, sc.py) out of the translation; the kernel holds each against the translation.
-/
import Derived.Test.YteilhjdpbjgdpaaDoorEngY
import Derived.Test.YteilhjdpbjgdpaaDoorProg
import Derived.KernelRfl
import Derived.Test.YteilhjdpbjgdpaaDoorLibT
import Derived.Test.YteilhjdpbjgdpaaDoorLibS
namespace Go.Proofs.YteilhjdpbjgdpaaDoor
open Go.RowKit
set_option linter.unusedSimpArgs false
set_option linter.unusedVariables false
structure Tapi_Marks where
  fElement : UInt8
  fPart : UInt8
  fRepeat : UInt8
  fEscape : UInt8
  fEnd : UInt8
  deriving DecidableEq
def rTapi_Marks (x : Tapi_Marks) : List DV := [.int .u8 (x.fElement).toNat, .int .u8 (x.fPart).toNat, .int .u8 (x.fRepeat).toNat, .int .u8 (x.fEscape).toNat, .int .u8 (x.fEnd).toNat]
attribute [push_cast] rTapi_Marks
theorem fT_Tapi_Marks {d0 d1 d2 d3 d4 : DV} {v0 : UInt8} {v1 : UInt8} {v2 : UInt8} {v3 : UInt8} {v4 : UInt8} (h0 : d0 = .int .u8 (v0).toNat) (h1 : d1 = .int .u8 (v1).toNat) (h2 : d2 = .int .u8 (v2).toNat) (h3 : d3 = .int .u8 (v3).toNat) (h4 : d4 = .int .u8 (v4).toNat) : [d0, d1, d2, d3, d4] = rTapi_Marks ⟨v0, v1, v2, v3, v4⟩ := by unfold rTapi_Marks; simp only [h0, h1, h2, h3, h4, List.cons_append, List.nil_append, List.append_assoc, List.append_nil]
theorem cT_Tapi_Marks {d0 d1 d2 d3 d4 : SV} {v0 : UInt8} {v1 : UInt8} {v2 : UInt8} {v3 : UInt8} {v4 : UInt8} (h0 : svle d0 (.d (.int .u8 (v0).toNat))) (h1 : svle d1 (.d (.int .u8 (v1).toNat))) (h2 : svle d2 (.d (.int .u8 (v2).toNat))) (h3 : svle d3 (.d (.int .u8 (v3).toNat))) (h4 : svle d4 (.d (.int .u8 (v4).toNat))) : cellsle [d0, d1, d2, d3, d4] (dR (rTapi_Marks ⟨v0, v1, v2, v3, v4⟩)) := by have h := (cellsle.append (cellsle.consS h0 cellsle.nil) (cellsle.append (cellsle.consS h1 cellsle.nil) (cellsle.append (cellsle.consS h2 cellsle.nil) (cellsle.append (cellsle.consS h3 cellsle.nil) (cellsle.consS h4 cellsle.nil))))); simpa only [rTapi_Marks, dR, List.map_append, List.map_cons, List.map_nil, List.cons_append, List.nil_append, List.append_assoc, List.append_nil] using h
theorem eT_Tapi_Marks {d0 d1 d2 d3 d4 : SV} {v0 : UInt8} {v1 : UInt8} {v2 : UInt8} {v3 : UInt8} {v4 : UInt8} (h0 : d0 = .d (.int .u8 (v0).toNat)) (h1 : d1 = .d (.int .u8 (v1).toNat)) (h2 : d2 = .d (.int .u8 (v2).toNat)) (h3 : d3 = .d (.int .u8 (v3).toNat)) (h4 : d4 = .d (.int .u8 (v4).toNat)) : [d0, d1, d2, d3, d4] = dR (rTapi_Marks ⟨v0, v1, v2, v3, v4⟩) := by simp only [rTapi_Marks, dR, List.map_append, List.map_cons, List.map_nil, List.cons_append, List.nil_append, List.append_assoc, List.append_nil, h0, h1, h2, h3, h4]

def sc_kit_InBytes_L1 : SC :=
  (.seq (.reg [.r 11 (.bin .lss (.t 10) (.t 9))])
  (.seq (.cond (.t 11)
    .skip
    (.exit 0))
  (.seq (.block 1 (.seq (.reg [.r 12 (.mv (.t 10)),
       .r 7 (.mv (.t 12))])
    (.seq (.reg (.r 13 (.mv (.t 0)) :: .r 14 (.mv (.t 7)) :: .r 15 (.sidx (.t 13) (.t 14)) :: .r 16 (.mv (.t 1)) :: .r 17 (.bin .lss (.t 15) (.t 16)) :: .r 18 (.mv (.t 17)) :: gapp [19, 20, 21, 22, 23] 18 false (.r 19 (.mv (.t 0)) :: .r 20 (.mv (.t 7)) :: .r 21 (.sidx (.t 19) (.t 20)) :: .r 22 (.mv (.t 2)) :: .r 23 (.bin .gtr (.t 21) (.t 22)) :: []) (.r 24 (.pick (.t 18) (.c (.d (.bool true))) (.t 23)) :: [])))
    (.cond (.t 24)
      (.seq (.reg [.r 6 (.mv (.c (.d (.bool false))))])
      .ret)
      .skip))))
  (.reg [.r 25 (.bin .add (.t 10) (.c (.d (.int .i64 1)))),
     .r 10 (.mv (.t 25))]))))
def sc_kit_InBytes_B1 : SC := .block 0 (.loop sc_kit_InBytes_L1)
/-- interchange/kit.InBytes -/
def sc_kit_InBytes : SC :=
  (.seq (.reg [.r 6 (.mv (.c (.d (.bool false))))])
  (.seq (.seq (.reg [.r 8 (.mv (.t 0)),
     .r 9 (.lenT (.t 8)),
     .r 10 (.mv (.c (.d (.int .i64 0))))])
  sc_kit_InBytes_B1)
  (.seq (.reg [.r 6 (.mv (.c (.d (.bool true))))])
  .ret)))
theorem fit_kit_InBytes : fits Tryd.prog 79 Tryd.f79 sc_kit_InBytes [.t 6] 3 = true := by kernel_rfl

def sc_slices_Index_byte_byte_L1 : SC :=
  (.seq (.reg [.r 9 (.bin .lss (.t 8) (.t 7))])
  (.seq (.cond (.t 9)
    .skip
    (.exit 0))
  (.seq (.block 1 (.seq (.reg [.r 10 (.mv (.t 8)),
       .r 5 (.mv (.t 10))])
    (.seq (.reg [.r 11 (.mv (.t 1)),
       .r 12 (.mv (.t 0)),
       .r 13 (.mv (.t 5)),
       .r 14 (.idx 1 (.t 12) (.t 13)),
       .o 15 (.ld1 (.t 14)),
       .r 16 (.bin .eql (.t 11) (.t 15))])
    (.cond (.t 16)
      (.seq (.reg [.r 17 (.mv (.t 5)),
         .r 4 (.mv (.t 17))])
      .ret)
      .skip))))
  (.reg [.r 18 (.bin .add (.t 8) (.c (.d (.int .i64 1)))),
     .r 8 (.mv (.t 18))]))))
def sc_slices_Index_byte_byte_B1 : SC := .block 0 (.loop sc_slices_Index_byte_byte_L1)
/-- slices.Index[[]byte,byte] -/
def sc_slices_Index_byte_byte : SC :=
  (.seq (.reg [.r 4 (.mv (.c (.d (.int .i64 0))))])
  (.seq (.seq (.reg [.r 6 (.mv (.t 0)),
     .r 7 (.len (.t 6)),
     .r 8 (.mv (.c (.d (.int .i64 0))))])
  sc_slices_Index_byte_byte_B1)
  (.seq (.reg [.r 4 (.mv (.c (.d (.int .i64 (-1)))))])
  .ret)))
theorem fit_slices_Index_byte_byte : fits Tryd.prog 81 Tryd.f81 sc_slices_Index_byte_byte [.t 4] 2 = true := by kernel_rfl

/-- interchange/interchangeref2.mark -/
def sc_interchangeref2_mark : SC :=
  (.seq (.reg [.r 2 (.mv (.c (.d (.bool false))))])
  (.seq (.seq (.reg (.r 3 (.mv (.t 0)) :: .r 4 (.bin .lss (.t 3) (.c (.d (.int .u8 33)))) :: .r 5 (.mv (.t 4)) :: gapp [6, 7] 5 false (.r 6 (.mv (.t 0)) :: .r 7 (.bin .gtr (.t 6) (.c (.d (.int .u8 126)))) :: []) (.r 8 (.pick (.t 5) (.c (.d (.bool true))) (.t 7)) :: .r 9 (.mv (.t 8)) :: gapp [10, 11] 9 false (.r 10 (.mv (.t 0)) :: .r 11 (.bin .eql (.t 10) (.c (.d (.int .u8 46)))) :: []) (.r 12 (.pick (.t 9) (.c (.d (.bool true))) (.t 11)) :: .r 13 (.mv (.t 12)) :: gapp [14, 15] 13 false (.r 14 (.mv (.t 0)) :: .r 15 (.bin .eql (.t 14) (.c (.d (.int .u8 45)))) :: []) (.r 16 (.pick (.t 13) (.c (.d (.bool true))) (.t 15)) :: .r 17 (.mv (.t 16)) :: gapp [18, 19] 17 false (.r 18 (.mv (.t 0)) :: .r 19 (.bin .eql (.t 18) (.c (.d (.int .u8 43)))) :: []) (.r 20 (.pick (.t 17) (.c (.d (.bool true))) (.t 19)) :: .r 21 (.mv (.t 20)) :: gapp [22, 23] 21 false (.r 22 (.mv (.t 0)) :: .r 23 (.bin .eql (.t 22) (.c (.d (.int .u8 95)))) :: []) (.r 24 (.pick (.t 21) (.c (.d (.bool true))) (.t 23)) :: [])))))))
  (.cond (.t 24)
    (.seq (.reg [.r 2 (.mv (.c (.d (.bool false))))])
    .ret)
    .skip))
  (.seq (.reg (.r 25 (.mv (.t 0)) :: .r 26 (.bin .geq (.t 25) (.c (.d (.int .u8 65)))) :: .r 27 (.mv (.t 26)) :: gapp [28, 29] 27 true (.r 28 (.mv (.t 0)) :: .r 29 (.bin .leq (.t 28) (.c (.d (.int .u8 90)))) :: []) (.r 30 (.pick (.t 27) (.t 29) (.c (.d (.bool false)))) :: .r 31 (.mv (.t 30)) :: gapp [32, 33, 34, 35, 36, 37] 31 false (.r 32 (.mv (.t 0)) :: .r 33 (.bin .geq (.t 32) (.c (.d (.int .u8 97)))) :: .r 34 (.mv (.t 33)) :: gapp [35, 36] 34 true (.r 35 (.mv (.t 0)) :: .r 36 (.bin .leq (.t 35) (.c (.d (.int .u8 122)))) :: []) (.r 37 (.pick (.t 34) (.t 36) (.c (.d (.bool false)))) :: [])) (.r 38 (.pick (.t 31) (.c (.d (.bool true))) (.t 37)) :: .r 39 (.mv (.t 38)) :: gapp [40, 41, 42, 43, 44, 45] 39 false (.r 40 (.mv (.t 0)) :: .r 41 (.bin .geq (.t 40) (.c (.d (.int .u8 48)))) :: .r 42 (.mv (.t 41)) :: gapp [43, 44] 42 true (.r 43 (.mv (.t 0)) :: .r 44 (.bin .leq (.t 43) (.c (.d (.int .u8 57)))) :: []) (.r 45 (.pick (.t 42) (.t 44) (.c (.d (.bool false)))) :: [])) (.r 46 (.pick (.t 39) (.c (.d (.bool true))) (.t 45)) :: .r 47 (.not (.t 46)) :: .r 2 (.mv (.t 47)) :: [])))))
  .ret)))
theorem fit_interchangeref2_mark : fits Tryd.prog 53 Tryd.f53 sc_interchangeref2_mark [.t 2] 1 = true := by kernel_rfl

set_option maxRecDepth 100000 in
set_option maxHeartbeats 40000000 in
noncomputable def sims_G1_0_0 : (∀ (x0 : List UInt8) (x1 : UInt8) (x2 : UInt8), {m : Option (Bool) // ∀ r, m = some r → PureSpec Tryd.prog 79 [.str x0, .int .u8 (x1).toNat, .int .u8 (x2).toNat] (.bool r)}) × (∀ (x0 : List UInt8) (x1 : UInt8), {m : Option (Int) // ∀ r, m = some r → PureSpec Tryd.prog 81 [.slice (List.map rowY x0), .int .u8 (x1).toNat] (.int .i64 r)}) × (∀ (x0 : UInt8), {m : Option (Bool) // ∀ r, m = some r → PureSpec Tryd.prog 53 [.int .u8 (x0).toNat] (.bool r)}) := by
  refine ⟨?g0, ?g1, ?g2⟩
  case' g0 => (intro x0 x1 x2; apply Subtype.mk; intro r hm; apply pure_walk Tryd.func79 fit_kit_InBytes; unfold sc_kit_InBytes)
  case' g1 => (intro x0 x1; apply Subtype.mk; intro r hm; apply pure_walk Tryd.func81 fit_slices_Index_byte_byte; unfold sc_slices_Index_byte_byte)
  case' g2 => (intro x0; apply Subtype.mk; intro r hm; apply pure_walk Tryd.func53 fit_interchangeref2_mark; unfold sc_interchangeref2_mark)
  all_goals (repeat' (first | with_reducible refine W_seq ?_ | with_reducible refine W_reg ?_ | with_reducible refine W_block ?_ | with_reducible refine W_skip ?_ | with_reducible refine W_ret ?_ | with_reducible refine W_exit ?_ | with_reducible refine O_nil ?_ | with_reducible refine K_seq ?_ | with_reducible refine K_seqE ?_ | with_reducible refine K_seqR ?_ | with_reducible refine K_block ?_ | with_reducible refine K_blockR ?_ | with_reducible refine K_blockE ?_ | ((with_reducible apply K_blockN); decide) | with_reducible refine O_o2r ?_ | ((with_reducible apply O_idxr hm); (iterate 2 (simp only [push_cast, seval]; rfl)); (intro _; rfl); intro e hm) | ((with_reducible apply O_idxVr hm); (iterate 3 (simp only [push_cast, seval]; rfl)); intro e hm) | ((with_reducible apply O_sidxr hm); (iterate 2 (simp only [push_cast, seval]; rfl)); intro e hm) | ((with_reducible apply O_r); (simp only [push_cast, seval]; rfl); (first | exact trivial | omega)) | ((with_reducible apply O_ldV1r hm); (iterate 2 (simp only [push_cast, seval]; rfl)); (intro _; rfl); intro e hm) | ((with_reducible apply O_strr hm); (iterate 2 (simp only [push_cast, seval]; rfl)); intro hm) | ((with_reducible apply O_and hm); (simp only [push_cast, seval]; rfl); rfl; intro v hm; rotate_left; intro v g hm) | ((with_reducible apply O_or hm); (simp only [push_cast, seval]; rfl); rfl; intro v hm; rotate_left; intro v g hm) | ((with_reducible apply W_condT); (focus (simp only [push_cast, seval]; done))) | ((with_reducible apply W_condF); (focus (simp only [push_cast, seval]; done))) | ((with_reducible apply S_condB hm); (simp only [push_cast, seval]; rfl); intro hm; rotate_left; intro hm) | ((with_reducible apply K_endS hm); (focus (simp only [resOf, resL, RV.get, push_cast, seval]; rfl)); (focus ((repeat' (first | rfl | (with_reducible first | apply fT_Tapi_Marks | apply f_optN | apply f_optS | apply f_some | apply f_tup | apply f_agg | apply f_ptr | apply dv_slice | apply sv_d | apply f_cons | apply fold_nil | apply fold_cons | apply fold_app | apply f_rowI | apply f_rowY | apply f_rowS | apply f_rowB | apply f_rowL) | (with_reducible apply f_byte; decide))); done))) | ((with_reducible apply K_bool hm); (simp only [push_cast, seval]; rfl)) | ((with_reducible apply K_leave hm); intro r hm) | ((with_reducible apply K_leaveR hm); intro r hm) | ((apply S_loopX (b := 0) (X := sc_kit_InBytes_B1) (x := sc_kit_InBytes_L1) rfl (fun (c : SV × SV × SV × SV) (s : Int) => st [(0, c.1), (1, c.2.1), (2, c.2.2.1), (9, c.2.2.2), (10, .d (.int .i64 s))] []) (c := (_, _, _, _)) (s0 := _) hm); (focus (first | (dsimp only; done) | (dsimp only; rfl) | rfl)); (focus ((apply imp_stT; (repeat' (first | with_reducible exact keepT_nil | with_reducible exact keepC_nil | with_reducible apply keepT_cons | with_reducible apply keepC_cons | ((with_reducible apply svle_eq); (focus (first | (simp only [push_cast, seval]; rfl) | rfl)); (focus ((repeat' (first | rfl | (with_reducible first | apply fT_Tapi_Marks | apply f_optN | apply f_optS | apply f_some | apply f_tup | apply f_agg | apply f_ptr | apply dv_slice | apply sv_d | apply f_cons | apply fold_nil | apply fold_cons | apply fold_app | apply f_rowI | apply f_rowY | apply f_rowS | apply f_rowB | apply f_rowL) | (with_reducible apply f_byte; decide))); done))) | ((with_reducible apply svle_td); (focus (first | (simp only [push_cast, seval]; rfl) | rfl)); (focus (first | (simp only [push_cast, seval]; rfl) | rfl)); (focus ((repeat' (first | rfl | (with_reducible first | apply fT_Tapi_Marks | apply f_optN | apply f_optS | apply f_some | apply f_tup | apply f_agg | apply f_ptr | apply dv_slice | apply sv_d | apply f_cons | apply fold_nil | apply fold_cons | apply fold_app | apply f_rowI | apply f_rowY | apply f_rowS | apply f_rowB | apply f_rowL) | (with_reducible apply f_byte; decide))); done))) | ((with_reducible apply chle_eq); (focus (first | (simp only [push_cast, seval]; rfl) | rfl)); (first | with_reducible exact chle_rfl rfl | with_reducible exact chle_map0 | with_reducible apply chle_vec | with_reducible apply chle_box)) | (with_reducible first | apply cT_Tapi_Marks | apply vc_rfl | apply vc_nil | apply vc_cons | apply r_rfl | apply r_rows | apply r_nil | apply r_app | apply r_cons | apply c_rowI | apply c_rowY | apply c_rowS | apply c_rowB | apply c_rowL))); done))); (focus (first | (dsimp only; done) | (dsimp only; rfl) | rfl)); (focus ((intro _; repeat' (first | with_reducible exact impC_end | with_reducible exact impC_endF | with_reducible refine impC_seq ?_ | with_reducible refine impC_block ?_ | ((with_reducible refine impC_rnd ?_); intro _) | ((with_reducible refine impC_brk ?_); intro _))))); (intro s o hm; unfold sc_kit_InBytes_L1); rotate_left; intro s hm) | ((apply S_loopX (b := 0) (X := sc_slices_Index_byte_byte_B1) (x := sc_slices_Index_byte_byte_L1) rfl (fun (c : SV × SV × SV) (s : Int) => st [(0, c.1), (1, c.2.1), (7, c.2.2), (8, .d (.int .i64 s))] []) (c := (_, _, _)) (s0 := _) hm); (focus (first | (dsimp only; done) | (dsimp only; rfl) | rfl)); (focus ((apply imp_stT; (repeat' (first | with_reducible exact keepT_nil | with_reducible exact keepC_nil | with_reducible apply keepT_cons | with_reducible apply keepC_cons | ((with_reducible apply svle_eq); (focus (first | (simp only [push_cast, seval]; rfl) | rfl)); (focus ((repeat' (first | rfl | (with_reducible first | apply fT_Tapi_Marks | apply f_optN | apply f_optS | apply f_some | apply f_tup | apply f_agg | apply f_ptr | apply dv_slice | apply sv_d | apply f_cons | apply fold_nil | apply fold_cons | apply fold_app | apply f_rowI | apply f_rowY | apply f_rowS | apply f_rowB | apply f_rowL) | (with_reducible apply f_byte; decide))); done))) | ((with_reducible apply svle_td); (focus (first | (simp only [push_cast, seval]; rfl) | rfl)); (focus (first | (simp only [push_cast, seval]; rfl) | rfl)); (focus ((repeat' (first | rfl | (with_reducible first | apply fT_Tapi_Marks | apply f_optN | apply f_optS | apply f_some | apply f_tup | apply f_agg | apply f_ptr | apply dv_slice | apply sv_d | apply f_cons | apply fold_nil | apply fold_cons | apply fold_app | apply f_rowI | apply f_rowY | apply f_rowS | apply f_rowB | apply f_rowL) | (with_reducible apply f_byte; decide))); done))) | ((with_reducible apply chle_eq); (focus (first | (simp only [push_cast, seval]; rfl) | rfl)); (first | with_reducible exact chle_rfl rfl | with_reducible exact chle_map0 | with_reducible apply chle_vec | with_reducible apply chle_box)) | (with_reducible first | apply cT_Tapi_Marks | apply vc_rfl | apply vc_nil | apply vc_cons | apply r_rfl | apply r_rows | apply r_nil | apply r_app | apply r_cons | apply c_rowI | apply c_rowY | apply c_rowS | apply c_rowB | apply c_rowL))); done))); (focus (first | (dsimp only; done) | (dsimp only; rfl) | rfl)); (focus ((intro _; repeat' (first | with_reducible exact impC_end | with_reducible exact impC_endF | with_reducible refine impC_seq ?_ | with_reducible refine impC_block ?_ | ((with_reducible refine impC_rnd ?_); intro _) | ((with_reducible refine impC_brk ?_); intro _))))); (intro s o hm; unfold sc_slices_Index_byte_byte_L1); rotate_left; intro s hm) | ((apply K_next (s' := _) hm); (focus (first | (dsimp only; done) | (dsimp only; rfl) | rfl)); (focus ((apply imp_stT; (repeat' (first | with_reducible exact keepT_nil | with_reducible exact keepC_nil | with_reducible apply keepT_cons | with_reducible apply keepC_cons | ((with_reducible apply svle_eq); (focus (first | (simp only [push_cast, seval]; rfl) | rfl)); (focus ((repeat' (first | rfl | (with_reducible first | apply fT_Tapi_Marks | apply f_optN | apply f_optS | apply f_some | apply f_tup | apply f_agg | apply f_ptr | apply dv_slice | apply sv_d | apply f_cons | apply fold_nil | apply fold_cons | apply fold_app | apply f_rowI | apply f_rowY | apply f_rowS | apply f_rowB | apply f_rowL) | (with_reducible apply f_byte; decide))); done))) | ((with_reducible apply svle_td); (focus (first | (simp only [push_cast, seval]; rfl) | rfl)); (focus (first | (simp only [push_cast, seval]; rfl) | rfl)); (focus ((repeat' (first | rfl | (with_reducible first | apply fT_Tapi_Marks | apply f_optN | apply f_optS | apply f_some | apply f_tup | apply f_agg | apply f_ptr | apply dv_slice | apply sv_d | apply f_cons | apply fold_nil | apply fold_cons | apply fold_app | apply f_rowI | apply f_rowY | apply f_rowS | apply f_rowB | apply f_rowL) | (with_reducible apply f_byte; decide))); done))) | ((with_reducible apply chle_eq); (focus (first | (simp only [push_cast, seval]; rfl) | rfl)); (first | with_reducible exact chle_rfl rfl | with_reducible exact chle_map0 | with_reducible apply chle_vec | with_reducible apply chle_box)) | (with_reducible first | apply cT_Tapi_Marks | apply vc_rfl | apply vc_nil | apply vc_cons | apply r_rfl | apply r_rows | apply r_nil | apply r_app | apply r_cons | apply c_rowI | apply c_rowY | apply c_rowS | apply c_rowB | apply c_rowL))); done)))) | ((apply K_brk (s' := _) hm); (focus (first | (dsimp only; done) | (dsimp only; rfl) | rfl)); (focus ((apply imp_stT; (repeat' (first | with_reducible exact keepT_nil | with_reducible exact keepC_nil | with_reducible apply keepT_cons | with_reducible apply keepC_cons | ((with_reducible apply svle_eq); (focus (first | (simp only [push_cast, seval]; rfl) | rfl)); (focus ((repeat' (first | rfl | (with_reducible first | apply fT_Tapi_Marks | apply f_optN | apply f_optS | apply f_some | apply f_tup | apply f_agg | apply f_ptr | apply dv_slice | apply sv_d | apply f_cons | apply fold_nil | apply fold_cons | apply fold_app | apply f_rowI | apply f_rowY | apply f_rowS | apply f_rowB | apply f_rowL) | (with_reducible apply f_byte; decide))); done))) | ((with_reducible apply svle_td); (focus (first | (simp only [push_cast, seval]; rfl) | rfl)); (focus (first | (simp only [push_cast, seval]; rfl) | rfl)); (focus ((repeat' (first | rfl | (with_reducible first | apply fT_Tapi_Marks | apply f_optN | apply f_optS | apply f_some | apply f_tup | apply f_agg | apply f_ptr | apply dv_slice | apply sv_d | apply f_cons | apply fold_nil | apply fold_cons | apply fold_app | apply f_rowI | apply f_rowY | apply f_rowS | apply f_rowB | apply f_rowL) | (with_reducible apply f_byte; decide))); done))) | ((with_reducible apply chle_eq); (focus (first | (simp only [push_cast, seval]; rfl) | rfl)); (first | with_reducible exact chle_rfl rfl | with_reducible exact chle_map0 | with_reducible apply chle_vec | with_reducible apply chle_box)) | (with_reducible first | apply cT_Tapi_Marks | apply vc_rfl | apply vc_nil | apply vc_cons | apply r_rfl | apply r_rows | apply r_nil | apply r_app | apply r_cons | apply c_rowI | apply c_rowY | apply c_rowS | apply c_rowB | apply c_rowL))); done)))) | (((with_reducible apply K_brkN hm); (focus decide); intro r hm)) | (((with_reducible apply K_brkR hm); intro r hm))))
noncomputable def m_kit_InBytes (x0 : List UInt8) (x1 : UInt8) (x2 : UInt8) : Option (Bool) := (sims_G1_0_0.1 x0 x1 x2).1
theorem spec_kit_InBytes (x0 : List UInt8) (x1 : UInt8) (x2 : UInt8) : ∀ r, m_kit_InBytes x0 x1 x2 = some r → PureSpec Tryd.prog 79 [.str x0, .int .u8 (x1).toNat, .int .u8 (x2).toNat] (.bool r) := (sims_G1_0_0.1 x0 x1 x2).2
noncomputable def m_slices_Index_byte_byte (x0 : List UInt8) (x1 : UInt8) : Option (Int) := (sims_G1_0_0.2.1 x0 x1).1
theorem spec_slices_Index_byte_byte (x0 : List UInt8) (x1 : UInt8) : ∀ r, m_slices_Index_byte_byte x0 x1 = some r → PureSpec Tryd.prog 81 [.slice (List.map rowY x0), .int .u8 (x1).toNat] (.int .i64 r) := (sims_G1_0_0.2.1 x0 x1).2
noncomputable def m_interchangeref2_mark (x0 : UInt8) : Option (Bool) := (sims_G1_0_0.2.2 x0).1
theorem spec_interchangeref2_mark (x0 : UInt8) : ∀ r, m_interchangeref2_mark x0 = some r → PureSpec Tryd.prog 53 [.int .u8 (x0).toNat] (.bool r) := (sims_G1_0_0.2.2 x0).2

/-- interchange/kit.IsTagPart -/
def sc_kit_IsTagPart : SC :=
  (.seq (.reg [.r 2 (.mv (.c (.d (.bool false))))])
  (.seq (.reg [.r 3 (.mv (.t 0)),
     .c 4 (.f 97) [.t 3, .c (.d (.str [65, 66, 67, 68, 69, 70, 71, 72, 73, 74, 75, 76, 77, 78, 79, 80, 81, 82, 83, 84, 85, 86, 87, 88, 89, 90, 48, 49, 50, 51, 52, 53, 54, 55, 56, 57]))],
     .r 5 (.bin .eql (.t 4) (.c (.d (.str [])))),
     .r 2 (.mv (.t 5))])
  .ret))
theorem fit_kit_IsTagPart : fits Tryd.prog 78 Tryd.f78 sc_kit_IsTagPart [.t 2] 1 = true := by kernel_rfl

/-- slices.Contains[[]byte,byte] -/
def sc_slices_Contains_byte_byte : SC :=
  (.seq (.reg [.r 4 (.mv (.c (.d (.bool false))))])
  (.seq (.reg [.r 5 (.mv (.t 0)),
     .r 6 (.mv (.t 1)),
     .c 7 (.f 81) [.t 5, .t 6],
     .r 8 (.bin .geq (.t 7) (.c (.d (.int .i64 0)))),
     .r 4 (.mv (.t 8))])
  .ret))
theorem fit_slices_Contains_byte_byte : fits Tryd.prog 52 Tryd.f52 sc_slices_Contains_byte_byte [.t 4] 2 = true := by kernel_rfl

def sc_interchangeref2_CheckMarks_L1 : SC :=
  (.seq (.seq (.reg [.r 56 (.mv (.t 5)),
     .r 57 (.mv (.t 4)),
     .r 58 (.bin .lss (.t 56) (.t 57))])
  (.cond (.t 58)
    .skip
    (.exit 2)))
  (.seq (.block 3 (.seq (.regD [.r 61 (.mv (.t 3)),
       .r 62 (.mv (.t 4)),
       .r 63 (.idx 1 (.t 61) (.t 62)),
       .r 64 (.ld1 (.t 63)),
       .r 65 (.mv (.t 3)),
       .r 66 (.mv (.t 5)),
       .r 67 (.idx 1 (.t 65) (.t 66)),
       .r 68 (.ld1 (.t 67)),
       .r 69 (.bin .eql (.t 64) (.t 68))])
    (.cond (.t 69)
      (.seq (.reg [.r 2 (.mv (.c (.d (.int .i64 7))))])
      .ret)
      .skip)))
  (.reg [.r 59 (.mv (.t 5)),
     .r 60 (.bin .add (.t 59) (.c (.d (.int .i64 1)))),
     .r 5 (.mv (.t 60))])))
def sc_interchangeref2_CheckMarks_B1 : SC := .block 2 (.loop sc_interchangeref2_CheckMarks_L1)
def sc_interchangeref2_CheckMarks_L2 : SC :=
  (.seq (.seq (.reg [.r 50 (.mv (.t 4)),
     .r 51 (.mv (.t 3)),
     .r 52 (.len (.t 51)),
     .r 53 (.bin .lss (.t 50) (.t 52))])
  (.cond (.t 53)
    .skip
    (.exit 0)))
  (.seq (.block 1 (.seq (.reg [.r 5 (.mv (.c (.d (.int .i64 0))))])
    sc_interchangeref2_CheckMarks_B1))
  (.reg [.r 54 (.mv (.t 4)),
     .r 55 (.bin .add (.t 54) (.c (.d (.int .i64 1)))),
     .r 4 (.mv (.t 55))])))
def sc_interchangeref2_CheckMarks_B2 : SC := .block 0 (.loop sc_interchangeref2_CheckMarks_L2)
/-- interchange/interchangeref2.CheckMarks -/
def sc_interchangeref2_CheckMarks : SC :=
  (.seq (.reg [.r 1 (.boxI (.t 0)),
     .r 2 (.mv (.c (.d (.int .i64 0))))])
  (.seq (.seq (.reg (.r 6 (.fld 0 (.t 1)) :: .o 7 (.ld1 (.t 6)) :: .c 8 (.f 53) [.t 7] :: .r 9 (.not (.t 8)) :: .r 10 (.mv (.t 9)) :: gapp [11, 12, 13, 14] 10 false (.r 11 (.fld 1 (.t 1)) :: .r 12 (.ld1 (.t 11)) :: .c 13 (.f 53) [.t 12] :: .r 14 (.not (.t 13)) :: []) (.r 15 (.pick (.t 10) (.c (.d (.bool true))) (.t 14)) :: .r 16 (.mv (.t 15)) :: gapp [17, 18, 19, 20] 16 false (.r 17 (.fld 2 (.t 1)) :: .r 18 (.ld1 (.t 17)) :: .c 19 (.f 53) [.t 18] :: .r 20 (.not (.t 19)) :: []) (.r 21 (.pick (.t 16) (.c (.d (.bool true))) (.t 20)) :: .r 22 (.mv (.t 21)) :: gapp [23, 24, 25, 26] 22 false (.r 23 (.fld 4 (.t 1)) :: .r 24 (.ld1 (.t 23)) :: .c 25 (.f 53) [.t 24] :: .r 26 (.not (.t 25)) :: []) (.r 27 (.pick (.t 22) (.c (.d (.bool true))) (.t 26)) :: .r 28 (.mv (.t 27)) :: gapp [29, 30, 31, 32, 33, 34, 35, 36, 37] 28 false (.r 29 (.fld 3 (.t 1)) :: .r 30 (.ld1 (.t 29)) :: .r 31 (.bin .neq (.t 30) (.c (.d (.int .u8 0)))) :: .r 32 (.mv (.t 31)) :: gapp [33, 34, 35, 36] 32 true (.r 33 (.fld 3 (.t 1)) :: .r 34 (.ld1 (.t 33)) :: .c 35 (.f 53) [.t 34] :: .r 36 (.not (.t 35)) :: []) (.r 37 (.pick (.t 32) (.t 36) (.c (.d (.bool false)))) :: [])) (.r 38 (.pick (.t 28) (.c (.d (.bool true))) (.t 37)) :: []))))))
  (.cond (.t 38)
    (.seq (.reg [.r 2 (.mv (.c (.d (.int .i64 3))))])
    .ret)
    .skip))
  (.seq (.reg [.r 39 (.fld 0 (.t 1)),
     .o 40 (.ld1 (.t 39)),
     .r 41 (.fld 1 (.t 1)),
     .o 42 (.ld1 (.t 41)),
     .r 43 (.fld 2 (.t 1)),
     .o 44 (.ld1 (.t 43)),
     .r 45 (.fld 3 (.t 1)),
     .o 46 (.ld1 (.t 45)),
     .r 47 (.fld 4 (.t 1)),
     .o 48 (.ld1 (.t 47)),
     .r 49 (.bslice 1 [.t 40, .t 42, .t 44, .t 46, .t 48]),
     .r 3 (.mv (.t 49))])
  (.seq (.seq (.reg [.r 4 (.mv (.c (.d (.int .i64 0))))])
  sc_interchangeref2_CheckMarks_B2)
  (.seq (.reg [.r 2 (.mv (.c (.d (.int .i64 0))))])
  .ret)))))
theorem fit_interchangeref2_CheckMarks : fits Tryd.prog 25 Tryd.f25 sc_interchangeref2_CheckMarks [.t 2] 1 = true := by kernel_rfl

set_option maxRecDepth 100000 in
set_option maxHeartbeats 40000000 in
noncomputable def sims_G1_1_0 : (∀ (x0 : List UInt8), {m : Option (Bool) // ∀ r, m = some r → PureSpec Tryd.prog 78 [.str x0] (.bool r)}) × (∀ (x0 : List UInt8) (x1 : UInt8), {m : Option (Bool) // ∀ r, m = some r → PureSpec Tryd.prog 52 [.slice (List.map rowY x0), .int .u8 (x1).toNat] (.bool r)}) × (∀ (x0 : Tapi_Marks), {m : Option (Int) // ∀ r, m = some r → PureSpec Tryd.prog 25 [.agg (rTapi_Marks x0)] (.int .i64 r)}) := by
  refine ⟨?g0, ?g1, ?g2⟩
  case' g0 => (intro x0; apply Subtype.mk; intro r hm; apply pure_walk Tryd.func78 fit_kit_IsTagPart; unfold sc_kit_IsTagPart)
  case' g1 => (intro x0 x1; apply Subtype.mk; intro r hm; apply pure_walk Tryd.func52 fit_slices_Contains_byte_byte; unfold sc_slices_Contains_byte_byte)
  case' g2 => (intro x0; apply Subtype.mk; intro r hm; apply pure_walk Tryd.func25 fit_interchangeref2_CheckMarks; unfold sc_interchangeref2_CheckMarks)
  all_goals (repeat' (first | with_reducible refine W_seq ?_ | with_reducible refine W_reg ?_ | with_reducible refine W_regD ?_ | with_reducible refine W_block ?_ | with_reducible refine W_skip ?_ | with_reducible refine W_ret ?_ | with_reducible refine W_exit ?_ | with_reducible refine O_nil ?_ | with_reducible refine K_seq ?_ | with_reducible refine K_seqE ?_ | with_reducible refine K_seqR ?_ | with_reducible refine K_block ?_ | with_reducible refine K_blockR ?_ | with_reducible refine K_blockE ?_ | ((with_reducible apply K_blockN); decide) | with_reducible refine O_o2r ?_ | ((with_reducible apply O_idxr hm); (iterate 2 (simp only [push_cast, seval]; rfl)); (intro _; rfl); intro e hm) | ((with_reducible apply O_idxVr hm); (iterate 3 (simp only [push_cast, seval]; rfl)); intro e hm) | ((with_reducible apply O_idxLr hm (row := rowY)); (iterate 2 (simp only [push_cast, seval]; rfl)); (focus ((repeat' (first | rfl | (with_reducible first | apply fT_Tapi_Marks | apply f_optN | apply f_optS | apply f_some | apply f_tup | apply f_agg | apply f_ptr | apply dv_slice | apply sv_d | apply f_cons | apply fold_nil | apply fold_cons | apply fold_app | apply f_rowI | apply f_rowY | apply f_rowS | apply f_rowB | apply f_rowL) | (with_reducible apply f_byte; decide))); done)); (simp only [push_cast, seval]; rfl); (intro _; rfl); intro e hm) | ((with_reducible apply O_r); (simp only [push_cast, seval]; rfl); (first | exact trivial | omega)) | ((with_reducible apply O_ldV1r hm); (iterate 2 (simp only [push_cast, seval]; rfl)); (intro _; rfl); intro e hm) | ((with_reducible apply O_strr hm); (iterate 2 (simp only [push_cast, seval]; rfl)); intro hm) | ((with_reducible apply O_and hm); (simp only [push_cast, seval]; rfl); rfl; intro v hm; rotate_left; intro v g hm) | ((with_reducible apply O_or hm); (simp only [push_cast, seval]; rfl); rfl; intro v hm; rotate_left; intro v g hm) | ((with_reducible apply W_condT); (focus (simp only [push_cast, seval]; done))) | ((with_reducible apply W_condF); (focus (simp only [push_cast, seval]; done))) | ((with_reducible apply O_cS hm); (simp only [push_cast, seval]; rfl); (focus (first | exact spec_strings_Trim _ _ | exact spec_slices_Index_byte_byte _ _ | exact spec_interchangeref2_mark _)); intro x hm) | ((with_reducible apply O_cF hm); (simp only [push_cast, seval]; rfl); (first | apply spec_strings_Trim _ _ | apply spec_slices_Index_byte_byte _ _ | apply spec_interchangeref2_mark _); (any_goals ((repeat' (first | rfl | (with_reducible first | apply fT_Tapi_Marks | apply f_optN | apply f_optS | apply f_some | apply f_tup | apply f_agg | apply f_ptr | apply dv_slice | apply sv_d | apply f_cons | apply fold_nil | apply fold_cons | apply fold_app | apply f_rowI | apply f_rowY | apply f_rowS | apply f_rowB | apply f_rowL) | (with_reducible apply f_byte; decide))); done)); intro x hm) | ((with_reducible apply S_condB hm); (simp only [push_cast, seval]; rfl); intro hm; rotate_left; intro hm) | ((with_reducible apply K_endS hm); (focus (simp only [resOf, resL, RV.get, push_cast, seval]; rfl)); (focus ((repeat' (first | rfl | (with_reducible first | apply fT_Tapi_Marks | apply f_optN | apply f_optS | apply f_some | apply f_tup | apply f_agg | apply f_ptr | apply dv_slice | apply sv_d | apply f_cons | apply fold_nil | apply fold_cons | apply fold_app | apply f_rowI | apply f_rowY | apply f_rowS | apply f_rowB | apply f_rowL) | (with_reducible apply f_byte; decide))); done))) | ((with_reducible apply K_bool hm); (simp only [push_cast, seval]; rfl)) | ((with_reducible apply K_leave hm); intro r hm) | ((with_reducible apply K_leaveR hm); intro r hm) | ((apply S_loopX (b := 2) (X := sc_interchangeref2_CheckMarks_B1) (x := sc_interchangeref2_CheckMarks_L1) rfl (fun (c : SV × SV) (s : Int) => st [(3, c.1), (4, c.2), (5, .d (.int .i64 s))] []) (c := (_, _)) (s0 := _) hm); (focus (first | (dsimp only; done) | (dsimp only; rfl) | rfl)); (focus ((apply imp_stT; (repeat' (first | with_reducible exact keepT_nil | with_reducible exact keepC_nil | with_reducible apply keepT_cons | with_reducible apply keepC_cons | ((with_reducible apply svle_eq); (focus (first | (simp only [push_cast, seval]; rfl) | rfl)); (focus ((repeat' (first | rfl | (with_reducible first | apply fT_Tapi_Marks | apply f_optN | apply f_optS | apply f_some | apply f_tup | apply f_agg | apply f_ptr | apply dv_slice | apply sv_d | apply f_cons | apply fold_nil | apply fold_cons | apply fold_app | apply f_rowI | apply f_rowY | apply f_rowS | apply f_rowB | apply f_rowL) | (with_reducible apply f_byte; decide))); done))) | ((with_reducible apply svle_td); (focus (first | (simp only [push_cast, seval]; rfl) | rfl)); (focus (first | (simp only [push_cast, seval]; rfl) | rfl)); (focus ((repeat' (first | rfl | (with_reducible first | apply fT_Tapi_Marks | apply f_optN | apply f_optS | apply f_some | apply f_tup | apply f_agg | apply f_ptr | apply dv_slice | apply sv_d | apply f_cons | apply fold_nil | apply fold_cons | apply fold_app | apply f_rowI | apply f_rowY | apply f_rowS | apply f_rowB | apply f_rowL) | (with_reducible apply f_byte; decide))); done))) | ((with_reducible apply chle_eq); (focus (first | (simp only [push_cast, seval]; rfl) | rfl)); (first | with_reducible exact chle_rfl rfl | with_reducible exact chle_map0 | with_reducible apply chle_vec | with_reducible apply chle_box)) | (with_reducible first | apply cT_Tapi_Marks | apply vc_rfl | apply vc_nil | apply vc_cons | apply r_rfl | apply r_rows | apply r_nil | apply r_app | apply r_cons | apply c_rowI | apply c_rowY | apply c_rowS | apply c_rowB | apply c_rowL))); done))); (focus (first | (dsimp only; done) | (dsimp only; rfl) | rfl)); (focus ((intro _; repeat' (first | with_reducible exact impC_end | with_reducible exact impC_endF | with_reducible refine impC_seq ?_ | with_reducible refine impC_block ?_ | ((with_reducible refine impC_rnd ?_); intro _) | ((with_reducible refine impC_brk ?_); intro _))))); (intro s o hm; unfold sc_interchangeref2_CheckMarks_L1); rotate_left; intro s hm) | ((apply S_loopX (b := 0) (X := sc_interchangeref2_CheckMarks_B2) (x := sc_interchangeref2_CheckMarks_L2) rfl (fun (c : SV) (s : Int) => st [(3, c), (4, .d (.int .i64 s))] []) (c := _) (s0 := _) hm); (focus (first | (dsimp only; done) | (dsimp only; rfl) | rfl)); (focus ((apply imp_stT; (repeat' (first | with_reducible exact keepT_nil | with_reducible exact keepC_nil | with_reducible apply keepT_cons | with_reducible apply keepC_cons | ((with_reducible apply svle_eq); (focus (first | (simp only [push_cast, seval]; rfl) | rfl)); (focus ((repeat' (first | rfl | (with_reducible first | apply fT_Tapi_Marks | apply f_optN | apply f_optS | apply f_some | apply f_tup | apply f_agg | apply f_ptr | apply dv_slice | apply sv_d | apply f_cons | apply fold_nil | apply fold_cons | apply fold_app | apply f_rowI | apply f_rowY | apply f_rowS | apply f_rowB | apply f_rowL) | (with_reducible apply f_byte; decide))); done))) | ((with_reducible apply svle_td); (focus (first | (simp only [push_cast, seval]; rfl) | rfl)); (focus (first | (simp only [push_cast, seval]; rfl) | rfl)); (focus ((repeat' (first | rfl | (with_reducible first | apply fT_Tapi_Marks | apply f_optN | apply f_optS | apply f_some | apply f_tup | apply f_agg | apply f_ptr | apply dv_slice | apply sv_d | apply f_cons | apply fold_nil | apply fold_cons | apply fold_app | apply f_rowI | apply f_rowY | apply f_rowS | apply f_rowB | apply f_rowL) | (with_reducible apply f_byte; decide))); done))) | ((with_reducible apply chle_eq); (focus (first | (simp only [push_cast, seval]; rfl) | rfl)); (first | with_reducible exact chle_rfl rfl | with_reducible exact chle_map0 | with_reducible apply chle_vec | with_reducible apply chle_box)) | (with_reducible first | apply cT_Tapi_Marks | apply vc_rfl | apply vc_nil | apply vc_cons | apply r_rfl | apply r_rows | apply r_nil | apply r_app | apply r_cons | apply c_rowI | apply c_rowY | apply c_rowS | apply c_rowB | apply c_rowL))); done))); (focus (first | (dsimp only; done) | (dsimp only; rfl) | rfl)); (focus ((intro _; repeat' (first | with_reducible exact impC_end | with_reducible exact impC_endF | with_reducible refine impC_seq ?_ | with_reducible refine impC_block ?_ | ((with_reducible refine impC_rnd ?_); intro _) | ((with_reducible refine impC_brk ?_); intro _))))); (intro s o hm; unfold sc_interchangeref2_CheckMarks_L2); rotate_left; intro s hm) | ((apply K_next (s' := _) hm); (focus (first | (dsimp only; done) | (dsimp only; rfl) | rfl)); (focus ((apply imp_stT; (repeat' (first | with_reducible exact keepT_nil | with_reducible exact keepC_nil | with_reducible apply keepT_cons | with_reducible apply keepC_cons | ((with_reducible apply svle_eq); (focus (first | (simp only [push_cast, seval]; rfl) | rfl)); (focus ((repeat' (first | rfl | (with_reducible first | apply fT_Tapi_Marks | apply f_optN | apply f_optS | apply f_some | apply f_tup | apply f_agg | apply f_ptr | apply dv_slice | apply sv_d | apply f_cons | apply fold_nil | apply fold_cons | apply fold_app | apply f_rowI | apply f_rowY | apply f_rowS | apply f_rowB | apply f_rowL) | (with_reducible apply f_byte; decide))); done))) | ((with_reducible apply svle_td); (focus (first | (simp only [push_cast, seval]; rfl) | rfl)); (focus (first | (simp only [push_cast, seval]; rfl) | rfl)); (focus ((repeat' (first | rfl | (with_reducible first | apply fT_Tapi_Marks | apply f_optN | apply f_optS | apply f_some | apply f_tup | apply f_agg | apply f_ptr | apply dv_slice | apply sv_d | apply f_cons | apply fold_nil | apply fold_cons | apply fold_app | apply f_rowI | apply f_rowY | apply f_rowS | apply f_rowB | apply f_rowL) | (with_reducible apply f_byte; decide))); done))) | ((with_reducible apply chle_eq); (focus (first | (simp only [push_cast, seval]; rfl) | rfl)); (first | with_reducible exact chle_rfl rfl | with_reducible exact chle_map0 | with_reducible apply chle_vec | with_reducible apply chle_box)) | (with_reducible first | apply cT_Tapi_Marks | apply vc_rfl | apply vc_nil | apply vc_cons | apply r_rfl | apply r_rows | apply r_nil | apply r_app | apply r_cons | apply c_rowI | apply c_rowY | apply c_rowS | apply c_rowB | apply c_rowL))); done)))) | ((apply K_brk (s' := _) hm); (focus (first | (dsimp only; done) | (dsimp only; rfl) | rfl)); (focus ((apply imp_stT; (repeat' (first | with_reducible exact keepT_nil | with_reducible exact keepC_nil | with_reducible apply keepT_cons | with_reducible apply keepC_cons | ((with_reducible apply svle_eq); (focus (first | (simp only [push_cast, seval]; rfl) | rfl)); (focus ((repeat' (first | rfl | (with_reducible first | apply fT_Tapi_Marks | apply f_optN | apply f_optS | apply f_some | apply f_tup | apply f_agg | apply f_ptr | apply dv_slice | apply sv_d | apply f_cons | apply fold_nil | apply fold_cons | apply fold_app | apply f_rowI | apply f_rowY | apply f_rowS | apply f_rowB | apply f_rowL) | (with_reducible apply f_byte; decide))); done))) | ((with_reducible apply svle_td); (focus (first | (simp only [push_cast, seval]; rfl) | rfl)); (focus (first | (simp only [push_cast, seval]; rfl) | rfl)); (focus ((repeat' (first | rfl | (with_reducible first | apply fT_Tapi_Marks | apply f_optN | apply f_optS | apply f_some | apply f_tup | apply f_agg | apply f_ptr | apply dv_slice | apply sv_d | apply f_cons | apply fold_nil | apply fold_cons | apply fold_app | apply f_rowI | apply f_rowY | apply f_rowS | apply f_rowB | apply f_rowL) | (with_reducible apply f_byte; decide))); done))) | ((with_reducible apply chle_eq); (focus (first | (simp only [push_cast, seval]; rfl) | rfl)); (first | with_reducible exact chle_rfl rfl | with_reducible exact chle_map0 | with_reducible apply chle_vec | with_reducible apply chle_box)) | (with_reducible first | apply cT_Tapi_Marks | apply vc_rfl | apply vc_nil | apply vc_cons | apply r_rfl | apply r_rows | apply r_nil | apply r_app | apply r_cons | apply c_rowI | apply c_rowY | apply c_rowS | apply c_rowB | apply c_rowL))); done)))) | (((with_reducible apply K_brkN hm); (focus decide); intro r hm)) | (((with_reducible apply K_brkR hm); intro r hm))))
noncomputable def m_kit_IsTagPart (x0 : List UInt8) : Option (Bool) := (sims_G1_1_0.1 x0).1
theorem spec_kit_IsTagPart (x0 : List UInt8) : ∀ r, m_kit_IsTagPart x0 = some r → PureSpec Tryd.prog 78 [.str x0] (.bool r) := (sims_G1_1_0.1 x0).2
noncomputable def m_slices_Contains_byte_byte (x0 : List UInt8) (x1 : UInt8) : Option (Bool) := (sims_G1_1_0.2.1 x0 x1).1
theorem spec_slices_Contains_byte_byte (x0 : List UInt8) (x1 : UInt8) : ∀ r, m_slices_Contains_byte_byte x0 x1 = some r → PureSpec Tryd.prog 52 [.slice (List.map rowY x0), .int .u8 (x1).toNat] (.bool r) := (sims_G1_1_0.2.1 x0 x1).2
noncomputable def m_interchangeref2_CheckMarks (x0 : Tapi_Marks) : Option (Int) := (sims_G1_1_0.2.2 x0).1
theorem spec_interchangeref2_CheckMarks (x0 : Tapi_Marks) : ∀ r, m_interchangeref2_CheckMarks x0 = some r → PureSpec Tryd.prog 25 [.agg (rTapi_Marks x0)] (.int .i64 r) := (sims_G1_1_0.2.2 x0).2

/-- interchange/wire.isMarkByte -/
def sc_wire_isMarkByte : SC :=
  (.seq (.reg [.r 2 (.mv (.c (.d (.bool false))))])
  (.seq (.reg [.r 4 (.mv (.t 0)),
     .r 5 (.cvis (.t 4)),
     .r 3 (.mv (.t 5))])
  (.seq (.reg (.r 6 (.mv (.t 0)) :: .r 7 (.bin .geq (.t 6) (.c (.d (.int .u8 33)))) :: .r 8 (.mv (.t 7)) :: gapp [9, 10] 8 true (.r 9 (.mv (.t 0)) :: .r 10 (.bin .leq (.t 9) (.c (.d (.int .u8 126)))) :: []) (.r 11 (.pick (.t 8) (.t 10) (.c (.d (.bool false)))) :: .r 12 (.mv (.t 11)) :: gapp [13, 14, 15] 12 true (.r 13 (.mv (.t 3)) :: .c 14 (.f 78) [.t 13] :: .r 15 (.not (.t 14)) :: []) (.r 16 (.pick (.t 12) (.t 15) (.c (.d (.bool false)))) :: .r 17 (.mv (.t 16)) :: gapp [18, 19, 20] 17 true (.r 18 (.mv (.t 3)) :: .c 19 (.f 79) [.t 18, .c (.d (.int .u8 97)), .c (.d (.int .u8 122))] :: .r 20 (.not (.t 19)) :: []) (.r 21 (.pick (.t 17) (.t 20) (.c (.d (.bool false)))) :: .r 22 (.mv (.t 21)) :: gapp [23, 24, 25] 22 true (.r 23 (.mv (.t 3)) :: .c 24 (.f 80) [.t 23, .c (.d (.str [46, 45, 43, 95]))] :: .r 25 (.not (.t 24)) :: []) (.r 26 (.pick (.t 22) (.t 25) (.c (.d (.bool false)))) :: .r 2 (.mv (.t 26)) :: []))))))
  .ret)))
theorem fit_wire_isMarkByte : fits Tryd.prog 51 Tryd.f51 sc_wire_isMarkByte [.t 2] 1 = true := by kernel_rfl

set_option maxRecDepth 100000 in
set_option maxHeartbeats 40000000 in
noncomputable def sims_G1_2_0 : (∀ (x0 : UInt8), {m : Option (Bool) // ∀ r, m = some r → PureSpec Tryd.prog 51 [.int .u8 (x0).toNat] (.bool r)}) := by
  (intro x0; apply Subtype.mk; intro r hm; apply pure_walk Tryd.func51 fit_wire_isMarkByte; unfold sc_wire_isMarkByte)
  repeat' (first | with_reducible refine W_seq ?_ | with_reducible refine W_reg ?_ | with_reducible refine W_block ?_ | with_reducible refine W_skip ?_ | with_reducible refine W_ret ?_ | with_reducible refine W_exit ?_ | with_reducible refine O_nil ?_ | with_reducible refine K_seq ?_ | with_reducible refine K_seqE ?_ | with_reducible refine K_seqR ?_ | with_reducible refine K_block ?_ | with_reducible refine K_blockR ?_ | with_reducible refine K_blockE ?_ | ((with_reducible apply K_blockN); decide) | ((with_reducible apply O_r); (simp only [push_cast, seval]; rfl); (first | exact trivial | omega)) | ((with_reducible apply O_and hm); (simp only [push_cast, seval]; rfl); rfl; intro v hm; rotate_left; intro v g hm) | ((with_reducible apply W_condT); (focus (simp only [push_cast, seval]; done))) | ((with_reducible apply W_condF); (focus (simp only [push_cast, seval]; done))) | ((with_reducible apply O_cS hm); (simp only [push_cast, seval]; rfl); (focus (first | exact spec_kit_IsTagPart _ | exact spec_kit_InBytes _ _ _ | exact spec_strings_ContainsAny _ _)); intro x hm) | ((with_reducible apply O_cF hm); (simp only [push_cast, seval]; rfl); (first | apply spec_kit_IsTagPart _ | apply spec_kit_InBytes _ _ _ | apply spec_strings_ContainsAny _ _); (any_goals ((repeat' (first | rfl | (with_reducible first | apply fT_Tapi_Marks | apply f_optN | apply f_optS | apply f_some | apply f_tup | apply f_agg | apply f_ptr | apply dv_slice | apply sv_d | apply f_cons | apply fold_nil | apply fold_cons | apply fold_app | apply f_rowI | apply f_rowY | apply f_rowS | apply f_rowB | apply f_rowL) | (with_reducible apply f_byte; decide))); done)); intro x hm) | ((with_reducible apply S_condB hm); (simp only [push_cast, seval]; rfl); intro hm; rotate_left; intro hm) | ((with_reducible apply K_endS hm); (focus (simp only [resOf, resL, RV.get, push_cast, seval]; rfl)); (focus ((repeat' (first | rfl | (with_reducible first | apply fT_Tapi_Marks | apply f_optN | apply f_optS | apply f_some | apply f_tup | apply f_agg | apply f_ptr | apply dv_slice | apply sv_d | apply f_cons | apply fold_nil | apply fold_cons | apply fold_app | apply f_rowI | apply f_rowY | apply f_rowS | apply f_rowB | apply f_rowL) | (with_reducible apply f_byte; decide))); done))) | ((with_reducible apply K_bool hm); (simp only [push_cast, seval]; rfl)))
noncomputable def m_wire_isMarkByte (x0 : UInt8) : Option (Bool) := (sims_G1_2_0 x0).1
theorem spec_wire_isMarkByte (x0 : UInt8) : ∀ r, m_wire_isMarkByte x0 = some r → PureSpec Tryd.prog 51 [.int .u8 (x0).toNat] (.bool r) := (sims_G1_2_0 x0).2

def sc_wire_CheckMarks_L1 : SC :=
  (.seq (.reg [.r 20 (.bin .lss (.t 19) (.t 18))])
  (.seq (.cond (.t 20)
    .skip
    (.exit 0))
  (.seq (.block 1 (.seq (.reg [.r 21 (.idx 1 (.t 17) (.t 19)),
       .o 22 (.ld1 (.t 21)),
       .r 5 (.mv (.t 22))])
    (.seq (.reg [.r 23 (.mv (.t 5)),
       .c 24 (.f 51) [.t 23],
       .r 25 (.not (.t 24))])
    (.cond (.t 25)
      (.seq (.reg [.r 2 (.mv (.c (.d (.int .i64 3))))])
      .ret)
      .skip))))
  (.reg [.r 26 (.bin .add (.t 19) (.c (.d (.int .i64 1)))),
     .r 19 (.mv (.t 26))]))))
def sc_wire_CheckMarks_B1 : SC := .block 0 (.loop sc_wire_CheckMarks_L1)
def sc_wire_CheckMarks_L2 : SC :=
  (.seq (.reg [.r 43 (.bin .lss (.t 42) (.t 41))])
  (.seq (.cond (.t 43)
    .skip
    (.exit 2))
  (.seq (.block 3 (.seq (.reg [.r 44 (.mv (.t 42)),
       .r 45 (.idx 1 (.t 40) (.t 42)),
       .o 46 (.ld1 (.t 45)),
       .r 6 (.mv (.t 44)),
       .r 7 (.mv (.t 46))])
    (.seq (.reg [.r 47 (.mv (.t 3)),
       .r 48 (.mv (.t 6)),
       .r 49 (.mv (.t 3)),
       .r 50 (.len (.t 49)),
       .r 51 (.mins (.t 48) [.t 50]),
       .r 52 (.slc 1 (.t 47) none (some (.t 51))),
       .r 53 (.mv (.t 7)),
       .c 54 (.f 52) [.t 52, .t 53]])
    (.cond (.t 54)
      (.seq (.reg [.r 2 (.mv (.c (.d (.int .i64 7))))])
      .ret)
      .skip))))
  (.reg [.r 55 (.bin .add (.t 42) (.c (.d (.int .i64 1)))),
     .r 42 (.mv (.t 55))]))))
def sc_wire_CheckMarks_B2 : SC := .block 2 (.loop sc_wire_CheckMarks_L2)
/-- interchange/wire.CheckMarks -/
def sc_wire_CheckMarks : SC :=
  (.seq (.reg [.r 1 (.boxI (.t 0)),
     .r 2 (.mv (.c (.d (.int .i64 0))))])
  (.seq (.reg [.r 8 (.fld 0 (.t 1)),
     .o 9 (.ld1 (.t 8)),
     .r 10 (.fld 1 (.t 1)),
     .o 11 (.ld1 (.t 10)),
     .r 12 (.fld 2 (.t 1)),
     .o 13 (.ld1 (.t 12)),
     .r 14 (.fld 4 (.t 1)),
     .o 15 (.ld1 (.t 14)),
     .r 16 (.bslice 1 [.t 9, .t 11, .t 13, .t 15]),
     .r 3 (.mv (.t 16))])
  (.seq (.seq (.reg [.r 17 (.mv (.t 3)),
     .r 18 (.len (.t 17)),
     .r 19 (.mv (.c (.d (.int .i64 0))))])
  sc_wire_CheckMarks_B1)
  (.seq (.seq (.reg (.r 27 (.fld 3 (.t 1)) :: .o 28 (.ld1 (.t 27)) :: .r 29 (.bin .neq (.t 28) (.c (.d (.int .u8 0)))) :: .r 30 (.mv (.t 29)) :: gapp [31, 32, 33, 34] 30 true (.r 31 (.fld 3 (.t 1)) :: .r 32 (.ld1 (.t 31)) :: .c 33 (.f 51) [.t 32] :: .r 34 (.not (.t 33)) :: []) (.r 35 (.pick (.t 30) (.t 34) (.c (.d (.bool false)))) :: [])))
  (.cond (.t 35)
    (.seq (.reg [.r 2 (.mv (.c (.d (.int .i64 3))))])
    .ret)
    .skip))
  (.seq (.seq (.reg [.r 36 (.mv (.t 3)),
     .r 37 (.fld 3 (.t 1)),
     .o 38 (.ld1 (.t 37)),
     .r 39 (.bslice 1 [.t 38]),
     .w 40 (.app 5 1 (.t 36) (.t 39)),
     .r 41 (.len (.t 40)),
     .r 42 (.mv (.c (.d (.int .i64 0))))])
  sc_wire_CheckMarks_B2)
  (.seq (.reg [.r 2 (.mv (.c (.d (.int .i64 0))))])
  .ret))))))
theorem fit_wire_CheckMarks : fits Tryd.prog 24 Tryd.f24 sc_wire_CheckMarks [.t 2] 1 = true := by kernel_rfl

set_option maxRecDepth 100000 in
set_option maxHeartbeats 40000000 in
noncomputable def sims_G1_3_0 : (∀ (x0 : Tapi_Marks), {m : Option (Int) // ∀ r, m = some r → PureSpec Tryd.prog 24 [.agg (rTapi_Marks x0)] (.int .i64 r)}) := by
  (intro x0; apply Subtype.mk; intro r hm; apply pure_walk Tryd.func24 fit_wire_CheckMarks; unfold sc_wire_CheckMarks)
  repeat' (first | with_reducible refine W_seq ?_ | with_reducible refine W_reg ?_ | with_reducible refine W_block ?_ | with_reducible refine W_skip ?_ | with_reducible refine W_ret ?_ | with_reducible refine W_exit ?_ | with_reducible refine O_nil ?_ | with_reducible refine K_seq ?_ | with_reducible refine K_seqE ?_ | with_reducible refine K_seqR ?_ | with_reducible refine K_block ?_ | with_reducible refine K_blockR ?_ | with_reducible refine K_blockE ?_ | ((with_reducible apply K_blockN); decide) | with_reducible refine O_o2r ?_ | ((with_reducible apply O_idxr hm); (iterate 2 (simp only [push_cast, seval]; rfl)); (intro _; rfl); intro e hm) | ((with_reducible apply O_idxVr hm); (iterate 3 (simp only [push_cast, seval]; rfl)); intro e hm) | ((with_reducible apply O_slcr hm); (iterate 3 (simp only [push_cast, seval]; rfl)); (intro _; rfl); intro e hm) | ((with_reducible apply O_idxLr hm (row := rowY)); (iterate 2 (simp only [push_cast, seval]; rfl)); (focus ((repeat' (first | rfl | (with_reducible first | apply fT_Tapi_Marks | apply f_optN | apply f_optS | apply f_some | apply f_tup | apply f_agg | apply f_ptr | apply dv_slice | apply sv_d | apply f_cons | apply fold_nil | apply fold_cons | apply fold_app | apply f_rowI | apply f_rowY | apply f_rowS | apply f_rowB | apply f_rowL) | (with_reducible apply f_byte; decide))); done)); (simp only [push_cast, seval]; rfl); (intro _; rfl); intro e hm) | ((with_reducible apply O_slcLr hm (row := rowY)); (iterate 2 (simp only [push_cast, seval]; rfl)); (focus ((repeat' (first | rfl | (with_reducible first | apply fT_Tapi_Marks | apply f_optN | apply f_optS | apply f_some | apply f_tup | apply f_agg | apply f_ptr | apply dv_slice | apply sv_d | apply f_cons | apply fold_nil | apply fold_cons | apply fold_app | apply f_rowI | apply f_rowY | apply f_rowS | apply f_rowB | apply f_rowL) | (with_reducible apply f_byte; decide))); done)); (iterate 2 (simp only [push_cast, seval]; rfl)); intro e hm) | ((with_reducible apply O_r); (simp only [push_cast, seval]; rfl); (first | exact trivial | omega)) | ((with_reducible apply O_ldV1r hm); (iterate 2 (simp only [push_cast, seval]; rfl)); (intro _; rfl); intro e hm) | ((with_reducible apply O_strr hm); (iterate 2 (simp only [push_cast, seval]; rfl)); intro hm) | ((with_reducible apply O_and hm); (simp only [push_cast, seval]; rfl); rfl; intro v hm; rotate_left; intro v g hm) | ((with_reducible apply W_condT); (focus (simp only [push_cast, seval]; done))) | ((with_reducible apply W_condF); (focus (simp only [push_cast, seval]; done))) | ((with_reducible apply O_cS hm); (simp only [push_cast, seval]; rfl); (focus (first | exact spec_wire_isMarkByte _ | exact spec_slices_Contains_byte_byte _ _)); intro x hm) | ((with_reducible apply O_cF hm); (simp only [push_cast, seval]; rfl); (first | apply spec_wire_isMarkByte _ | apply spec_slices_Contains_byte_byte _ _); (any_goals ((repeat' (first | rfl | (with_reducible first | apply fT_Tapi_Marks | apply f_optN | apply f_optS | apply f_some | apply f_tup | apply f_agg | apply f_ptr | apply dv_slice | apply sv_d | apply f_cons | apply fold_nil | apply fold_cons | apply fold_app | apply f_rowI | apply f_rowY | apply f_rowS | apply f_rowB | apply f_rowL) | (with_reducible apply f_byte; decide))); done)); intro x hm) | ((with_reducible apply O_clS hm); (simp only [push_cast, seval]; rfl); (focus (first | exact spec_wire_isMarkByte _ | exact spec_slices_Contains_byte_byte _ _)); (intro _; rfl); intro x hm) | ((with_reducible apply O_w); (simp only [push_cast, seval]; rfl); (first | exact trivial | omega)) | ((with_reducible apply O_appL hm (row := rowY)); (iterate 5 (simp only [push_cast, seval]; rfl)); (focus ((repeat' (first | rfl | (with_reducible first | apply fT_Tapi_Marks | apply f_optN | apply f_optS | apply f_some | apply f_tup | apply f_agg | apply f_ptr | apply dv_slice | apply sv_d | apply f_cons | apply fold_nil | apply fold_cons | apply fold_app | apply f_rowI | apply f_rowY | apply f_rowS | apply f_rowB | apply f_rowL) | (with_reducible apply f_byte; decide))); done)); (focus ((repeat' (first | rfl | (with_reducible first | apply fT_Tapi_Marks | apply f_optN | apply f_optS | apply f_some | apply f_tup | apply f_agg | apply f_ptr | apply dv_slice | apply sv_d | apply f_cons | apply fold_nil | apply fold_cons | apply fold_app | apply f_rowI | apply f_rowY | apply f_rowS | apply f_rowB | apply f_rowL) | (with_reducible apply f_byte; decide))); done)); rfl; decide; (intro _; rfl); intro hm) | ((with_reducible apply O_appV hm); (iterate 4 (simp only [push_cast, seval]; rfl)); (focus ((repeat' (first | rfl | (with_reducible first | apply fT_Tapi_Marks | apply f_optN | apply f_optS | apply f_some | apply f_tup | apply f_agg | apply f_ptr | apply dv_slice | apply sv_d | apply f_cons | apply fold_nil | apply fold_cons | apply fold_app | apply f_rowI | apply f_rowY | apply f_rowS | apply f_rowB | apply f_rowL) | (with_reducible apply f_byte; decide))); done)); decide; (intro _; rfl); intro hm) | ((with_reducible apply O_appN hm); (focus (simp only [push_cast, seval]; done)); (iterate 2 (simp only [push_cast, seval]; rfl)); (focus ((repeat' (first | rfl | (with_reducible first | apply fT_Tapi_Marks | apply f_optN | apply f_optS | apply f_some | apply f_tup | apply f_agg | apply f_ptr | apply dv_slice | apply sv_d | apply f_cons | apply fold_nil | apply fold_cons | apply fold_app | apply f_rowI | apply f_rowY | apply f_rowS | apply f_rowB | apply f_rowL) | (with_reducible apply f_byte; decide))); done)); decide; (intro _; rfl); intro hm) | ((with_reducible apply S_condB hm); (simp only [push_cast, seval]; rfl); intro hm; rotate_left; intro hm) | ((with_reducible apply K_endS hm); (focus (simp only [resOf, resL, RV.get, push_cast, seval]; rfl)); (focus ((repeat' (first | rfl | (with_reducible first | apply fT_Tapi_Marks | apply f_optN | apply f_optS | apply f_some | apply f_tup | apply f_agg | apply f_ptr | apply dv_slice | apply sv_d | apply f_cons | apply fold_nil | apply fold_cons | apply fold_app | apply f_rowI | apply f_rowY | apply f_rowS | apply f_rowB | apply f_rowL) | (with_reducible apply f_byte; decide))); done))) | ((with_reducible apply K_bool hm); (simp only [push_cast, seval]; rfl)) | ((with_reducible apply K_leave hm); intro r hm) | ((with_reducible apply K_leaveR hm); intro r hm) | ((apply S_loopX (b := 0) (X := sc_wire_CheckMarks_B1) (x := sc_wire_CheckMarks_L1) rfl (fun (c : SV × SV × SV × SV) (s : Int) => st [(1, c.1), (3, c.2.1), (17, c.2.2.1), (18, c.2.2.2), (19, .d (.int .i64 s))] []) (c := (_, _, _, _)) (s0 := _) hm); (focus (first | (dsimp only; done) | (dsimp only; rfl) | rfl)); (focus ((apply imp_stT; (repeat' (first | with_reducible exact keepT_nil | with_reducible exact keepC_nil | with_reducible apply keepT_cons | with_reducible apply keepC_cons | ((with_reducible apply svle_eq); (focus (first | (simp only [push_cast, seval]; rfl) | rfl)); (focus ((repeat' (first | rfl | (with_reducible first | apply fT_Tapi_Marks | apply f_optN | apply f_optS | apply f_some | apply f_tup | apply f_agg | apply f_ptr | apply dv_slice | apply sv_d | apply f_cons | apply fold_nil | apply fold_cons | apply fold_app | apply f_rowI | apply f_rowY | apply f_rowS | apply f_rowB | apply f_rowL) | (with_reducible apply f_byte; decide))); done))) | ((with_reducible apply svle_td); (focus (first | (simp only [push_cast, seval]; rfl) | rfl)); (focus (first | (simp only [push_cast, seval]; rfl) | rfl)); (focus ((repeat' (first | rfl | (with_reducible first | apply fT_Tapi_Marks | apply f_optN | apply f_optS | apply f_some | apply f_tup | apply f_agg | apply f_ptr | apply dv_slice | apply sv_d | apply f_cons | apply fold_nil | apply fold_cons | apply fold_app | apply f_rowI | apply f_rowY | apply f_rowS | apply f_rowB | apply f_rowL) | (with_reducible apply f_byte; decide))); done))) | ((with_reducible apply chle_eq); (focus (first | (simp only [push_cast, seval]; rfl) | rfl)); (first | with_reducible exact chle_rfl rfl | with_reducible exact chle_map0 | with_reducible apply chle_vec | with_reducible apply chle_box)) | (with_reducible first | apply cT_Tapi_Marks | apply vc_rfl | apply vc_nil | apply vc_cons | apply r_rfl | apply r_rows | apply r_nil | apply r_app | apply r_cons | apply c_rowI | apply c_rowY | apply c_rowS | apply c_rowB | apply c_rowL))); done))); (focus (first | (dsimp only; done) | (dsimp only; rfl) | rfl)); (focus ((intro _; repeat' (first | with_reducible exact impC_end | with_reducible exact impC_endF | with_reducible refine impC_seq ?_ | with_reducible refine impC_block ?_ | ((with_reducible refine impC_rnd ?_); intro _) | ((with_reducible refine impC_brk ?_); intro _))))); (intro s o hm; unfold sc_wire_CheckMarks_L1); rotate_left; intro s hm) | ((apply S_loopX (b := 2) (X := sc_wire_CheckMarks_B2) (x := sc_wire_CheckMarks_L2) rfl (fun (c : SV × Ch × SV) (s : Int) => st [(3, c.1), (40, .vec 40), (41, c.2.2), (42, .d (.int .i64 s))] [(40, c.2.1)]) (c := (_, _, _)) (s0 := _) hm); (focus (first | (dsimp only; done) | (dsimp only; rfl) | rfl)); (focus ((apply imp_stT; (repeat' (first | with_reducible exact keepT_nil | with_reducible exact keepC_nil | with_reducible apply keepT_cons | with_reducible apply keepC_cons | ((with_reducible apply svle_eq); (focus (first | (simp only [push_cast, seval]; rfl) | rfl)); (focus ((repeat' (first | rfl | (with_reducible first | apply fT_Tapi_Marks | apply f_optN | apply f_optS | apply f_some | apply f_tup | apply f_agg | apply f_ptr | apply dv_slice | apply sv_d | apply f_cons | apply fold_nil | apply fold_cons | apply fold_app | apply f_rowI | apply f_rowY | apply f_rowS | apply f_rowB | apply f_rowL) | (with_reducible apply f_byte; decide))); done))) | ((with_reducible apply svle_td); (focus (first | (simp only [push_cast, seval]; rfl) | rfl)); (focus (first | (simp only [push_cast, seval]; rfl) | rfl)); (focus ((repeat' (first | rfl | (with_reducible first | apply fT_Tapi_Marks | apply f_optN | apply f_optS | apply f_some | apply f_tup | apply f_agg | apply f_ptr | apply dv_slice | apply sv_d | apply f_cons | apply fold_nil | apply fold_cons | apply fold_app | apply f_rowI | apply f_rowY | apply f_rowS | apply f_rowB | apply f_rowL) | (with_reducible apply f_byte; decide))); done))) | ((with_reducible apply chle_eq); (focus (first | (simp only [push_cast, seval]; rfl) | rfl)); (first | with_reducible exact chle_rfl rfl | with_reducible exact chle_map0 | with_reducible apply chle_vec | with_reducible apply chle_box)) | (with_reducible first | apply cT_Tapi_Marks | apply vc_rfl | apply vc_nil | apply vc_cons | apply r_rfl | apply r_rows | apply r_nil | apply r_app | apply r_cons | apply c_rowI | apply c_rowY | apply c_rowS | apply c_rowB | apply c_rowL))); done))); (focus (first | (dsimp only; done) | (dsimp only; rfl) | rfl)); (focus ((intro _; repeat' (first | with_reducible exact impC_end | with_reducible exact impC_endF | with_reducible refine impC_seq ?_ | with_reducible refine impC_block ?_ | ((with_reducible refine impC_rnd ?_); intro _) | ((with_reducible refine impC_brk ?_); intro _))))); (intro s o hm; unfold sc_wire_CheckMarks_L2); rotate_left; intro s hm) | ((apply K_next (s' := _) hm); (focus (first | (dsimp only; done) | (dsimp only; rfl) | rfl)); (focus ((apply imp_stT; (repeat' (first | with_reducible exact keepT_nil | with_reducible exact keepC_nil | with_reducible apply keepT_cons | with_reducible apply keepC_cons | ((with_reducible apply svle_eq); (focus (first | (simp only [push_cast, seval]; rfl) | rfl)); (focus ((repeat' (first | rfl | (with_reducible first | apply fT_Tapi_Marks | apply f_optN | apply f_optS | apply f_some | apply f_tup | apply f_agg | apply f_ptr | apply dv_slice | apply sv_d | apply f_cons | apply fold_nil | apply fold_cons | apply fold_app | apply f_rowI | apply f_rowY | apply f_rowS | apply f_rowB | apply f_rowL) | (with_reducible apply f_byte; decide))); done))) | ((with_reducible apply svle_td); (focus (first | (simp only [push_cast, seval]; rfl) | rfl)); (focus (first | (simp only [push_cast, seval]; rfl) | rfl)); (focus ((repeat' (first | rfl | (with_reducible first | apply fT_Tapi_Marks | apply f_optN | apply f_optS | apply f_some | apply f_tup | apply f_agg | apply f_ptr | apply dv_slice | apply sv_d | apply f_cons | apply fold_nil | apply fold_cons | apply fold_app | apply f_rowI | apply f_rowY | apply f_rowS | apply f_rowB | apply f_rowL) | (with_reducible apply f_byte; decide))); done))) | ((with_reducible apply chle_eq); (focus (first | (simp only [push_cast, seval]; rfl) | rfl)); (first | with_reducible exact chle_rfl rfl | with_reducible exact chle_map0 | with_reducible apply chle_vec | with_reducible apply chle_box)) | (with_reducible first | apply cT_Tapi_Marks | apply vc_rfl | apply vc_nil | apply vc_cons | apply r_rfl | apply r_rows | apply r_nil | apply r_app | apply r_cons | apply c_rowI | apply c_rowY | apply c_rowS | apply c_rowB | apply c_rowL))); done)))) | ((apply K_brk (s' := _) hm); (focus (first | (dsimp only; done) | (dsimp only; rfl) | rfl)); (focus ((apply imp_stT; (repeat' (first | with_reducible exact keepT_nil | with_reducible exact keepC_nil | with_reducible apply keepT_cons | with_reducible apply keepC_cons | ((with_reducible apply svle_eq); (focus (first | (simp only [push_cast, seval]; rfl) | rfl)); (focus ((repeat' (first | rfl | (with_reducible first | apply fT_Tapi_Marks | apply f_optN | apply f_optS | apply f_some | apply f_tup | apply f_agg | apply f_ptr | apply dv_slice | apply sv_d | apply f_cons | apply fold_nil | apply fold_cons | apply fold_app | apply f_rowI | apply f_rowY | apply f_rowS | apply f_rowB | apply f_rowL) | (with_reducible apply f_byte; decide))); done))) | ((with_reducible apply svle_td); (focus (first | (simp only [push_cast, seval]; rfl) | rfl)); (focus (first | (simp only [push_cast, seval]; rfl) | rfl)); (focus ((repeat' (first | rfl | (with_reducible first | apply fT_Tapi_Marks | apply f_optN | apply f_optS | apply f_some | apply f_tup | apply f_agg | apply f_ptr | apply dv_slice | apply sv_d | apply f_cons | apply fold_nil | apply fold_cons | apply fold_app | apply f_rowI | apply f_rowY | apply f_rowS | apply f_rowB | apply f_rowL) | (with_reducible apply f_byte; decide))); done))) | ((with_reducible apply chle_eq); (focus (first | (simp only [push_cast, seval]; rfl) | rfl)); (first | with_reducible exact chle_rfl rfl | with_reducible exact chle_map0 | with_reducible apply chle_vec | with_reducible apply chle_box)) | (with_reducible first | apply cT_Tapi_Marks | apply vc_rfl | apply vc_nil | apply vc_cons | apply r_rfl | apply r_rows | apply r_nil | apply r_app | apply r_cons | apply c_rowI | apply c_rowY | apply c_rowS | apply c_rowB | apply c_rowL))); done)))) | (((with_reducible apply K_brkN hm); (focus decide); intro r hm)) | (((with_reducible apply K_brkR hm); intro r hm)))
noncomputable def m_wire_CheckMarks (x0 : Tapi_Marks) : Option (Int) := (sims_G1_3_0 x0).1
theorem spec_wire_CheckMarks (x0 : Tapi_Marks) : ∀ r, m_wire_CheckMarks x0 = some r → PureSpec Tryd.prog 24 [.agg (rTapi_Marks x0)] (.int .i64 r) := (sims_G1_3_0 x0).2

end Go.Proofs.YteilhjdpbjgdpaaDoor
