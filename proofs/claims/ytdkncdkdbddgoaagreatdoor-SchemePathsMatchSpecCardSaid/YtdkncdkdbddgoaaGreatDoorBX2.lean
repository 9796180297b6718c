/-
  Texts of mine, one behind the other (SXG7, SXRow, SXGW, SXG1, SXPL, SXQ1, SXQ2, SXQ3, SXPM).
-/
import Derived.Test.YtdkncdkdbddgoaaGreatDoorBX1
import Derived.Test.YtdkncdkdbddgoaaGreatDoorSXEngZz
import Derived.Test.YtdkncdkdbddgoaaGreatDoorProg
import Derived.KernelRfl
import Derived.Test.YtdkncdkdbddgoaaGreatDoorSXEngRl
import Derived.Test.YtdkncdkdbddgoaaGreatDoorCards
import Derived.Test.YtdkncdkdbddgoaaGreatDoorTie
import Derived.Test.YtdkncdkdbddgoaaGreatDoorSXEngNr
import Derived.Test.YtdkncdkdbddgoaaGreatDoorSXEngR
import Derived.Test.YtdkncdkdbddgoaaGreatDoorSXEngX
/-
  Bodies of functions and what they compute, printed by programs of mine (wip/tool/gen.py, sc.py) out of the translation; the kernel holds each against the translation.
-/
namespace Go.Proofs.YtdkncdkdbddgoaaGreatDoor
open Go.RowKit
set_option linter.unusedSimpArgs false
set_option linter.unusedVariables false
structure Tscheme_Way where
  fNames : List (List UInt8)
  fTag : List UInt8
  fElement : Int
  fPart : Int
  deriving DecidableEq
def rTscheme_Way (x : Tscheme_Way) : List DV := [.slice (List.map rowS x.fNames), .str x.fTag, .int .i64 x.fElement, .int .i64 x.fPart]
attribute [push_cast] rTscheme_Way
theorem fT_Tscheme_Way {d0 d1 d2 d3 : DV} {v0 : List (List UInt8)} {v1 : List UInt8} {v2 : Int} {v3 : Int} (h0 : d0 = .slice (List.map rowS v0)) (h1 : d1 = .str v1) (h2 : d2 = .int .i64 v2) (h3 : d3 = .int .i64 v3) : [d0, d1, d2, d3] = rTscheme_Way ⟨v0, v1, v2, v3⟩ := by unfold rTscheme_Way; simp only [h0, h1, h2, h3, List.cons_append, List.nil_append, List.append_assoc, List.append_nil]
theorem cT_Tscheme_Way {d0 d1 d2 d3 : SV} {v0 : List (List UInt8)} {v1 : List UInt8} {v2 : Int} {v3 : Int} (h0 : svle d0 (.d (.slice (List.map rowS v0)))) (h1 : svle d1 (.d (.str v1))) (h2 : svle d2 (.d (.int .i64 v2))) (h3 : svle d3 (.d (.int .i64 v3))) : cellsle [d0, d1, d2, d3] (dR (rTscheme_Way ⟨v0, v1, v2, v3⟩)) := by have h := (cellsle.append (cellsle.consS h0 cellsle.nil) (cellsle.append (cellsle.consS h1 cellsle.nil) (cellsle.append (cellsle.consS h2 cellsle.nil) (cellsle.consS h3 cellsle.nil)))); simpa only [rTscheme_Way, dR, List.map_append, List.map_cons, List.map_nil, List.cons_append, List.nil_append, List.append_assoc, List.append_nil] using h
theorem eT_Tscheme_Way {d0 d1 d2 d3 : SV} {v0 : List (List UInt8)} {v1 : List UInt8} {v2 : Int} {v3 : Int} (h0 : d0 = .d (.slice (List.map rowS v0))) (h1 : d1 = .d (.str v1)) (h2 : d2 = .d (.int .i64 v2)) (h3 : d3 = .d (.int .i64 v3)) : [d0, d1, d2, d3] = dR (rTscheme_Way ⟨v0, v1, v2, v3⟩) := by simp only [rTscheme_Way, dR, List.map_append, List.map_cons, List.map_nil, List.cons_append, List.nil_append, List.append_assoc, List.append_nil, h0, h1, h2, h3]

structure Tapi_Spot where
  fElement : Int
  fRepeat : Int
  fPart : Int
  deriving DecidableEq
def rTapi_Spot (x : Tapi_Spot) : List DV := [.int .i64 x.fElement, .int .i64 x.fRepeat, .int .i64 x.fPart]
attribute [push_cast] rTapi_Spot
theorem fT_Tapi_Spot {d0 d1 d2 : DV} {v0 : Int} {v1 : Int} {v2 : Int} (h0 : d0 = .int .i64 v0) (h1 : d1 = .int .i64 v1) (h2 : d2 = .int .i64 v2) : [d0, d1, d2] = rTapi_Spot ⟨v0, v1, v2⟩ := by unfold rTapi_Spot; simp only [h0, h1, h2, List.cons_append, List.nil_append, List.append_assoc, List.append_nil]
theorem cT_Tapi_Spot {d0 d1 d2 : SV} {v0 : Int} {v1 : Int} {v2 : Int} (h0 : svle d0 (.d (.int .i64 v0))) (h1 : svle d1 (.d (.int .i64 v1))) (h2 : svle d2 (.d (.int .i64 v2))) : cellsle [d0, d1, d2] (dR (rTapi_Spot ⟨v0, v1, v2⟩)) := by have h := (cellsle.append (cellsle.consS h0 cellsle.nil) (cellsle.append (cellsle.consS h1 cellsle.nil) (cellsle.consS h2 cellsle.nil))); simpa only [rTapi_Spot, dR, List.map_append, List.map_cons, List.map_nil, List.cons_append, List.nil_append, List.append_assoc, List.append_nil] using h
theorem eT_Tapi_Spot {d0 d1 d2 : SV} {v0 : Int} {v1 : Int} {v2 : Int} (h0 : d0 = .d (.int .i64 v0)) (h1 : d1 = .d (.int .i64 v1)) (h2 : d2 = .d (.int .i64 v2)) : [d0, d1, d2] = dR (rTapi_Spot ⟨v0, v1, v2⟩) := by simp only [rTapi_Spot, dR, List.map_append, List.map_cons, List.map_nil, List.cons_append, List.nil_append, List.append_assoc, List.append_nil, h0, h1, h2]

structure Tinterchangeref3_Path where
  fNames : List (List UInt8)
  fTag : List UInt8
  fElement : Int
  fPart : Int
  deriving DecidableEq
def rTinterchangeref3_Path (x : Tinterchangeref3_Path) : List DV := [.slice (List.map rowS x.fNames), .str x.fTag, .int .i64 x.fElement, .int .i64 x.fPart]
attribute [push_cast] rTinterchangeref3_Path
theorem fT_Tinterchangeref3_Path {d0 d1 d2 d3 : DV} {v0 : List (List UInt8)} {v1 : List UInt8} {v2 : Int} {v3 : Int} (h0 : d0 = .slice (List.map rowS v0)) (h1 : d1 = .str v1) (h2 : d2 = .int .i64 v2) (h3 : d3 = .int .i64 v3) : [d0, d1, d2, d3] = rTinterchangeref3_Path ⟨v0, v1, v2, v3⟩ := by unfold rTinterchangeref3_Path; simp only [h0, h1, h2, h3, List.cons_append, List.nil_append, List.append_assoc, List.append_nil]
theorem cT_Tinterchangeref3_Path {d0 d1 d2 d3 : SV} {v0 : List (List UInt8)} {v1 : List UInt8} {v2 : Int} {v3 : Int} (h0 : svle d0 (.d (.slice (List.map rowS v0)))) (h1 : svle d1 (.d (.str v1))) (h2 : svle d2 (.d (.int .i64 v2))) (h3 : svle d3 (.d (.int .i64 v3))) : cellsle [d0, d1, d2, d3] (dR (rTinterchangeref3_Path ⟨v0, v1, v2, v3⟩)) := by have h := (cellsle.append (cellsle.consS h0 cellsle.nil) (cellsle.append (cellsle.consS h1 cellsle.nil) (cellsle.append (cellsle.consS h2 cellsle.nil) (cellsle.consS h3 cellsle.nil)))); simpa only [rTinterchangeref3_Path, dR, List.map_append, List.map_cons, List.map_nil, List.cons_append, List.nil_append, List.append_assoc, List.append_nil] using h
theorem eT_Tinterchangeref3_Path {d0 d1 d2 d3 : SV} {v0 : List (List UInt8)} {v1 : List UInt8} {v2 : Int} {v3 : Int} (h0 : d0 = .d (.slice (List.map rowS v0))) (h1 : d1 = .d (.str v1)) (h2 : d2 = .d (.int .i64 v2)) (h3 : d3 = .d (.int .i64 v3)) : [d0, d1, d2, d3] = dR (rTinterchangeref3_Path ⟨v0, v1, v2, v3⟩) := by simp only [rTinterchangeref3_Path, dR, List.map_append, List.map_cons, List.map_nil, List.cons_append, List.nil_append, List.append_assoc, List.append_nil, h0, h1, h2, h3]
theorem oT_Tinterchangeref3_Path {d0 d1 d2 d3 : SV} {v0 : List (List UInt8)} {v1 : List UInt8} {v2 : Int} {v3 : Int} {m0 : List Mask} (h0 : cle d0 (.own (.sl 9 m0) (.slice (List.map rowS v0)))) (h1 : svle d1 (.d (.str v1))) (h2 : svle d2 (.d (.int .i64 v2))) (h3 : svle d3 (.d (.int .i64 v3))) : cellsle [d0, d1, d2, d3] (ownR [.sl 9 m0, .sh, .sh, .sh] (rTinterchangeref3_Path ⟨v0, v1, v2, v3⟩)) := by have h := (cellsle.append (cellsle.cons h0 cellsle.nil) (cellsle.append (cellsle.consS h1 cellsle.nil) (cellsle.append (cellsle.consS h2 cellsle.nil) (cellsle.consS h3 cellsle.nil)))); simp only [push_cast, seval, dR] at h ⊢; exact h
def bT_Tinterchangeref3_Path (p0 : Nat) (p1 : List UInt8) (p2 : Int) (p3 : Int) : List SV := [.vec p0] ++ ([.d (.str p1)] ++ ([.d (.int .i64 p2)] ++ ([.d (.int .i64 p3)])))
attribute [push_cast] bT_Tinterchangeref3_Path
theorem bcT_Tinterchangeref3_Path {d1 d2 d3 : SV} {a0 : Nat} {v1 : List UInt8} {v2 : Int} {v3 : Int} (h1 : svle d1 (.d (.str v1))) (h2 : svle d2 (.d (.int .i64 v2))) (h3 : svle d3 (.d (.int .i64 v3))) : cellsle [.vec a0, d1, d2, d3] (bT_Tinterchangeref3_Path a0 v1 v2 v3) := by have h := (cellsle.append (cellsle.rfl (l := [.vec a0])) (cellsle.append (cellsle.consS h1 cellsle.nil) (cellsle.append (cellsle.consS h2 cellsle.nil) (cellsle.consS h3 cellsle.nil)))); simp only [bT_Tinterchangeref3_Path, push_cast, seval, dR] at h ⊢; exact h

def sc_internal_bytealg_LastIndexByteString_L1 : SC :=
  (.seq (.seq (.reg [.r 9 (.mv (.t 5)),
     .r 10 (.bin .geq (.t 9) (.c (.d (.int .i64 0))))])
  (.cond (.t 10)
    .skip
    (.exit 0)))
  (.seq (.block 1 (.seq (.reg [.r 13 (.mv (.t 0)),
       .r 14 (.mv (.t 5)),
       .r 15 (.sidx (.t 13) (.t 14)),
       .r 16 (.mv (.t 1)),
       .r 17 (.bin .eql (.t 15) (.t 16))])
    (.cond (.t 17)
      (.seq (.reg [.r 18 (.mv (.t 5)),
         .r 4 (.mv (.t 18))])
      .ret)
      .skip)))
  (.reg [.r 11 (.mv (.t 5)),
     .r 12 (.bin .sub (.t 11) (.c (.d (.int .i64 1)))),
     .r 5 (.mv (.t 12))])))
def sc_internal_bytealg_LastIndexByteString_B1 : SC := .block 0 (.loop sc_internal_bytealg_LastIndexByteString_L1)
/-- internal/bytealg.LastIndexByteString -/
def sc_internal_bytealg_LastIndexByteString : SC :=
  (.seq (.reg [.r 4 (.mv (.c (.d (.int .i64 0))))])
  (.seq (.seq (.reg [.r 6 (.mv (.t 0)),
     .r 7 (.lenT (.t 6)),
     .r 8 (.bin .sub (.t 7) (.c (.d (.int .i64 1)))),
     .r 5 (.mv (.t 8))])
  sc_internal_bytealg_LastIndexByteString_B1)
  (.seq (.reg [.r 4 (.mv (.c (.d (.int .i64 (-1)))))])
  .ret)))
theorem fit_internal_bytealg_LastIndexByteString : fits Tryz.prog 66 Tryz.f66 sc_internal_bytealg_LastIndexByteString [.t 4] 2 = true := by kernel_rfl

set_option maxRecDepth 100000 in
set_option maxHeartbeats 40000000 in
noncomputable def sims_G7_0_0 : (∀ (x0 : List UInt8) (x1 : UInt8), {m : Option (Int) // ∀ r, m = some r → PureSpec Tryz.prog 66 [.str x0, .int .u8 (x1).toNat] (.int .i64 r)}) := by
  (intro x0 x1; apply Subtype.mk; intro r hm; apply pure_walk Tryz.func66 fit_internal_bytealg_LastIndexByteString; unfold sc_internal_bytealg_LastIndexByteString)
  repeat' (first | with_reducible refine W_seq ?_ | with_reducible refine W_reg ?_ | with_reducible refine W_block ?_ | with_reducible refine W_skip ?_ | with_reducible refine W_ret ?_ | with_reducible refine W_exit ?_ | with_reducible refine O_nil ?_ | with_reducible refine K_seq ?_ | with_reducible refine K_seqE ?_ | with_reducible refine K_seqR ?_ | with_reducible refine K_block ?_ | with_reducible refine K_blockR ?_ | with_reducible refine K_blockE ?_ | ((with_reducible apply K_blockN); decide) | ((with_reducible apply O_sidxr hm); (iterate 2 (simp only [push_cast, seval]; rfl)); intro e hm) | ((with_reducible apply O_r); (simp only [push_cast, seval]; rfl); (first | exact trivial | omega)) | ((with_reducible apply W_condT); (focus (simp only [push_cast, seval]; done))) | ((with_reducible apply W_condF); (focus (simp only [push_cast, seval]; done))) | ((with_reducible apply S_condB hm); (simp only [push_cast, seval]; rfl); intro hm; rotate_left; intro hm) | ((with_reducible apply K_endS hm); (focus (simp only [resOf, resL, RV.get, push_cast, seval]; rfl)); (focus ((repeat' (first | rfl | (with_reducible first | apply f_optN | apply f_optS | apply f_some | apply f_tup | apply f_agg | apply f_ptr | apply f_fn | apply dv_slice | apply sv_d | apply f_cons | apply fold_nil | apply fold_cons | apply fold_app | apply f_rowI | apply f_rowY | apply f_rowS | apply f_rowB | apply f_rowL) | (with_reducible apply f_byte; decide))); done))) | ((with_reducible apply K_leave hm); intro r hm) | ((with_reducible apply K_leaveR hm); intro r hm) | ((apply S_loopY (b := 0) (X := sc_internal_bytealg_LastIndexByteString_B1) (x := sc_internal_bytealg_LastIndexByteString_L1) rfl (fun (c : SV × SV) (s : Int) => st [(0, c.1), (1, c.2), (5, .d (.int .i64 s))] []) (c := (_, _)) (s0 := _) hm); (focus (first | (dsimp only; done) | (dsimp only; rfl) | rfl)); (with_reducible refine Then.mk ?_ ?_)) | ((apply K_next (s' := _) hm); (focus (first | (dsimp only; done) | (dsimp only; rfl) | rfl))) | ((apply K_brk (s' := _) hm); (focus (first | (dsimp only; done) | (dsimp only; rfl) | rfl))) | (((with_reducible apply K_brkN hm); (focus decide); intro r hm)) | (((with_reducible apply K_brkR hm); intro r hm)) | (((with_reducible apply LoopB.of); (focus (first | (dsimp only; done) | (dsimp only; rfl) | rfl)); (focus ((intro _; repeat' (first | with_reducible exact impC_end | with_reducible exact impC_endF | with_reducible refine impC_seq ?_ | with_reducible refine impC_block ?_ | ((with_reducible refine impC_rnd ?_); intro _) | ((with_reducible refine impC_brk ?_); intro _))))); (intro s o hm; first | unfold sc_internal_bytealg_LastIndexByteString_L1); rotate_left; intro s hm)) | (((apply imp_stT; (repeat' (first | with_reducible exact keepT_nil | with_reducible exact keepC_nil | with_reducible apply keepT_cons | with_reducible apply keepC_cons | ((with_reducible apply svle_eq); (focus (first | (simp only [push_cast, seval]; rfl) | rfl)); (focus ((repeat' (first | rfl | (with_reducible first | apply f_optN | apply f_optS | apply f_some | apply f_tup | apply f_agg | apply f_ptr | apply f_fn | apply dv_slice | apply sv_d | apply f_cons | apply fold_nil | apply fold_cons | apply fold_app | apply f_rowI | apply f_rowY | apply f_rowS | apply f_rowB | apply f_rowL) | (with_reducible apply f_byte; decide))); done))) | ((with_reducible apply svle_td); (focus (first | (simp only [push_cast, seval]; rfl) | rfl)); (focus (first | (simp only [push_cast, seval]; rfl) | rfl)); (focus ((repeat' (first | rfl | (with_reducible first | apply f_optN | apply f_optS | apply f_some | apply f_tup | apply f_agg | apply f_ptr | apply f_fn | apply dv_slice | apply sv_d | apply f_cons | apply fold_nil | apply fold_cons | apply fold_app | apply f_rowI | apply f_rowY | apply f_rowS | apply f_rowB | apply f_rowL) | (with_reducible apply f_byte; decide))); done))) | ((with_reducible apply chle_eq); (focus (first | (simp only [push_cast, seval]; rfl) | rfl)); (first | with_reducible exact chle_rfl rfl | with_reducible exact chle_map0 | with_reducible apply chle_vec | with_reducible apply chle_box)) | (with_reducible first | apply r_shS | apply r_shI | apply r_rflO | apply r_oneO | apply r_appO | apply r_nilO | apply c_ownN | apply c_ownL | apply vc_rfl | apply vc_nil | apply vc_cons | apply r_rfl | apply r_rows | apply r_nil | apply r_app | apply r_cons | apply c_rowI | apply c_rowY | apply c_rowS | apply c_rowB | apply c_rowL))); done))))
noncomputable def m_internal_bytealg_LastIndexByteString (x0 : List UInt8) (x1 : UInt8) : Option (Int) := (sims_G7_0_0 x0 x1).1
theorem spec_internal_bytealg_LastIndexByteString (x0 : List UInt8) (x1 : UInt8) : ∀ r, m_internal_bytealg_LastIndexByteString x0 x1 = some r → PureSpec Tryz.prog 66 [.str x0, .int .u8 (x1).toNat] (.int .i64 r) := (sims_G7_0_0 x0 x1).2

def sc_slices_IndexFunc_string_string_L1 : SC :=
  (.seq (.reg [.r 9 (.bin .lss (.t 8) (.t 7))])
  (.seq (.cond (.t 9)
    .skip
    (.exit 0))
  (.seq (.block 1 (.seq (.reg [.r 10 (.mv (.t 8)),
       .r 5 (.mv (.t 10))])
    (.seq (.reg [.r 11 (.mv (.t 1)),
       .r 12 (.mv (.t 0)),
       .r 13 (.mv (.t 5)),
       .r 14 (.idx 1 (.t 12) (.t 13)),
       .o 15 (.ld1 (.t 14)),
       .c 16 (.t 11) [.t 15]])
    (.cond (.t 16)
      (.seq (.reg [.r 17 (.mv (.t 5)),
         .r 4 (.mv (.t 17))])
      .ret)
      .skip))))
  (.reg [.r 18 (.bin .add (.t 8) (.c (.d (.int .i64 1)))),
     .r 8 (.mv (.t 18))]))))
def sc_slices_IndexFunc_string_string_B1 : SC := .block 0 (.loop sc_slices_IndexFunc_string_string_L1)
/-- slices.IndexFunc[[]string,string] -/
def sc_slices_IndexFunc_string_string : SC :=
  (.seq (.reg [.r 4 (.mv (.c (.d (.int .i64 0))))])
  (.seq (.seq (.reg [.r 6 (.mv (.t 0)),
     .r 7 (.len (.t 6)),
     .r 8 (.mv (.c (.d (.int .i64 0))))])
  sc_slices_IndexFunc_string_string_B1)
  (.seq (.reg [.r 4 (.mv (.c (.d (.int .i64 (-1)))))])
  .ret)))
theorem fit_slices_IndexFunc_string_string : fits Tryz.prog 89 Tryz.f89 sc_slices_IndexFunc_string_string [.t 4] 2 = true := by kernel_rfl

set_option maxRecDepth 100000 in
set_option maxHeartbeats 40000000 in
noncomputable def sims_G7_0_1 : (∀ (x0 : List (List UInt8)) (f1 : FuncId) (c1 : List DV) (p1 : (List UInt8) → Option (Bool)) (h1 : ∀ a0 r, p1 a0 = some r → PureSpec Tryz.prog f1 ([.str a0] ++ c1) (.bool r)), {m : Option (Int) // ∀ r, m = some r → PureSpec Tryz.prog 89 [.slice (List.map rowS x0), .fn f1 c1] (.int .i64 r)}) := by
  (intro x0 f1 c1 p1 h1; apply Subtype.mk; intro r hm; apply pure_walk Tryz.func89 fit_slices_IndexFunc_string_string; unfold sc_slices_IndexFunc_string_string)
  repeat' (first | with_reducible refine W_seq ?_ | with_reducible refine W_reg ?_ | with_reducible refine W_block ?_ | with_reducible refine W_skip ?_ | with_reducible refine W_ret ?_ | with_reducible refine W_exit ?_ | with_reducible refine O_nil ?_ | with_reducible refine K_seq ?_ | with_reducible refine K_seqE ?_ | with_reducible refine K_seqR ?_ | with_reducible refine K_block ?_ | with_reducible refine K_blockR ?_ | with_reducible refine K_blockE ?_ | ((with_reducible apply K_blockN); decide) | with_reducible refine O_o2r ?_ | ((with_reducible apply O_idxr hm); (iterate 2 (simp only [push_cast, seval]; rfl)); (intro _; rfl); intro e hm) | ((with_reducible apply O_idxVr hm); (iterate 3 (simp only [push_cast, seval]; rfl)); intro e hm) | ((with_reducible apply O_r); (simp only [push_cast, seval]; rfl); (first | exact trivial | omega)) | ((with_reducible apply O_ldV1r hm); (iterate 2 (simp only [push_cast, seval]; rfl)); (intro _; rfl); intro e hm) | ((with_reducible apply O_strr hm); (iterate 2 (simp only [push_cast, seval]; rfl)); intro hm) | ((with_reducible apply W_condT); (focus (simp only [push_cast, seval]; done))) | ((with_reducible apply W_condF); (focus (simp only [push_cast, seval]; done))) | ((with_reducible apply O_cF hm); (simp only [push_cast, seval]; rfl); (first | apply h1 _); (any_goals ((repeat' (first | rfl | (with_reducible first | apply f_optN | apply f_optS | apply f_some | apply f_tup | apply f_agg | apply f_ptr | apply f_fn | apply dv_slice | apply sv_d | apply f_cons | apply fold_nil | apply fold_cons | apply fold_app | apply f_rowI | apply f_rowY | apply f_rowS | apply f_rowB | apply f_rowL) | (with_reducible apply f_byte; decide))); done)); intro x hm) | ((with_reducible apply O_cvS hm); (iterate 2 (simp only [push_cast, seval]; rfl)); (focus (first | exact h1 _)); intro x hm) | ((with_reducible apply S_condB hm); (simp only [push_cast, seval]; rfl); intro hm; rotate_left; intro hm) | ((with_reducible apply K_endS hm); (focus (simp only [resOf, resL, RV.get, push_cast, seval]; rfl)); (focus ((repeat' (first | rfl | (with_reducible first | apply f_optN | apply f_optS | apply f_some | apply f_tup | apply f_agg | apply f_ptr | apply f_fn | apply dv_slice | apply sv_d | apply f_cons | apply fold_nil | apply fold_cons | apply fold_app | apply f_rowI | apply f_rowY | apply f_rowS | apply f_rowB | apply f_rowL) | (with_reducible apply f_byte; decide))); done))) | ((with_reducible apply K_leave hm); intro r hm) | ((with_reducible apply K_leaveR hm); intro r hm) | ((apply S_loopY (b := 0) (X := sc_slices_IndexFunc_string_string_B1) (x := sc_slices_IndexFunc_string_string_L1) rfl (fun (c : SV × SV × SV) (s : Int) => st [(0, c.1), (1, c.2.1), (7, c.2.2), (8, .d (.int .i64 s))] []) (c := (_, _, _)) (s0 := _) hm); (focus (first | (dsimp only; done) | (dsimp only; rfl) | rfl)); (with_reducible refine Then.mk ?_ ?_)) | ((apply K_next (s' := _) hm); (focus (first | (dsimp only; done) | (dsimp only; rfl) | rfl))) | ((apply K_brk (s' := _) hm); (focus (first | (dsimp only; done) | (dsimp only; rfl) | rfl))) | (((with_reducible apply K_brkN hm); (focus decide); intro r hm)) | (((with_reducible apply K_brkR hm); intro r hm)) | (((with_reducible apply LoopB.of); (focus (first | (dsimp only; done) | (dsimp only; rfl) | rfl)); (focus ((intro _; repeat' (first | with_reducible exact impC_end | with_reducible exact impC_endF | with_reducible refine impC_seq ?_ | with_reducible refine impC_block ?_ | ((with_reducible refine impC_rnd ?_); intro _) | ((with_reducible refine impC_brk ?_); intro _))))); (intro s o hm; first | unfold sc_slices_IndexFunc_string_string_L1); rotate_left; intro s hm)) | (((apply imp_stT; (repeat' (first | with_reducible exact keepT_nil | with_reducible exact keepC_nil | with_reducible apply keepT_cons | with_reducible apply keepC_cons | ((with_reducible apply svle_eq); (focus (first | (simp only [push_cast, seval]; rfl) | rfl)); (focus ((repeat' (first | rfl | (with_reducible first | apply f_optN | apply f_optS | apply f_some | apply f_tup | apply f_agg | apply f_ptr | apply f_fn | apply dv_slice | apply sv_d | apply f_cons | apply fold_nil | apply fold_cons | apply fold_app | apply f_rowI | apply f_rowY | apply f_rowS | apply f_rowB | apply f_rowL) | (with_reducible apply f_byte; decide))); done))) | ((with_reducible apply svle_td); (focus (first | (simp only [push_cast, seval]; rfl) | rfl)); (focus (first | (simp only [push_cast, seval]; rfl) | rfl)); (focus ((repeat' (first | rfl | (with_reducible first | apply f_optN | apply f_optS | apply f_some | apply f_tup | apply f_agg | apply f_ptr | apply f_fn | apply dv_slice | apply sv_d | apply f_cons | apply fold_nil | apply fold_cons | apply fold_app | apply f_rowI | apply f_rowY | apply f_rowS | apply f_rowB | apply f_rowL) | (with_reducible apply f_byte; decide))); done))) | ((with_reducible apply chle_eq); (focus (first | (simp only [push_cast, seval]; rfl) | rfl)); (first | with_reducible exact chle_rfl rfl | with_reducible exact chle_map0 | with_reducible apply chle_vec | with_reducible apply chle_box)) | (with_reducible first | apply r_shS | apply r_shI | apply r_rflO | apply r_oneO | apply r_appO | apply r_nilO | apply c_ownN | apply c_ownL | apply vc_rfl | apply vc_nil | apply vc_cons | apply r_rfl | apply r_rows | apply r_nil | apply r_app | apply r_cons | apply c_rowI | apply c_rowY | apply c_rowS | apply c_rowB | apply c_rowL))); done))))
noncomputable def m_slices_IndexFunc_string_string (x0 : List (List UInt8)) (f1 : FuncId) (c1 : List DV) (p1 : (List UInt8) → Option (Bool)) (h1 : ∀ a0 r, p1 a0 = some r → PureSpec Tryz.prog f1 ([.str a0] ++ c1) (.bool r)) : Option (Int) := (sims_G7_0_1 x0 f1 c1 p1 h1).1
theorem spec_slices_IndexFunc_string_string (x0 : List (List UInt8)) (f1 : FuncId) (c1 : List DV) (p1 : (List UInt8) → Option (Bool)) (h1 : ∀ a0 r, p1 a0 = some r → PureSpec Tryz.prog f1 ([.str a0] ++ c1) (.bool r)) : ∀ r, m_slices_IndexFunc_string_string x0 f1 c1 p1 h1 = some r → PureSpec Tryz.prog 89 [.slice (List.map rowS x0), .fn f1 c1] (.int .i64 r) := (sims_G7_0_1 x0 f1 c1 p1 h1).2

/-- interchange/scheme.namesOf$1 -/
def sc_scheme_namesOf_1 : SC :=
  (.seq (.reg [.r 2 (.mv (.c (.d (.bool false))))])
  (.seq (.reg [.r 3 (.mv (.t 0)),
     .c 4 (.f 68) [.t 3],
     .r 5 (.not (.t 4)),
     .r 2 (.mv (.t 5))])
  .ret))
theorem fit_scheme_namesOf_1 : fits Tryz.prog 67 Tryz.f67 sc_scheme_namesOf_1 [.t 2] 1 = true := by kernel_rfl

set_option maxRecDepth 100000 in
set_option maxHeartbeats 40000000 in
noncomputable def sims_G7_0_2 : (∀ (x0 : List UInt8), {m : Option (Bool) // ∀ r, m = some r → PureSpec Tryz.prog 67 [.str x0] (.bool r)}) := by
  (intro x0; apply Subtype.mk; intro r hm; apply pure_walk Tryz.func67 fit_scheme_namesOf_1; unfold sc_scheme_namesOf_1)
  repeat' (first | with_reducible refine W_seq ?_ | with_reducible refine W_reg ?_ | with_reducible refine W_block ?_ | with_reducible refine W_skip ?_ | with_reducible refine W_ret ?_ | with_reducible refine W_exit ?_ | with_reducible refine O_nil ?_ | with_reducible refine K_seq ?_ | with_reducible refine K_seqE ?_ | with_reducible refine K_seqR ?_ | with_reducible refine K_block ?_ | with_reducible refine K_blockR ?_ | with_reducible refine K_blockE ?_ | ((with_reducible apply K_blockN); decide) | ((with_reducible apply O_r); (simp only [push_cast, seval]; rfl); (first | exact trivial | omega)) | ((with_reducible apply W_condT); (focus (simp only [push_cast, seval]; done))) | ((with_reducible apply W_condF); (focus (simp only [push_cast, seval]; done))) | ((with_reducible apply O_cS hm); (simp only [push_cast, seval]; rfl); (focus (first | exact spec_kit_IsName _)); intro x hm) | ((with_reducible apply S_condB hm); (simp only [push_cast, seval]; rfl); intro hm; rotate_left; intro hm) | ((with_reducible apply K_endS hm); (focus (simp only [resOf, resL, RV.get, push_cast, seval]; rfl)); (focus ((repeat' (first | rfl | (with_reducible first | apply f_optN | apply f_optS | apply f_some | apply f_tup | apply f_agg | apply f_ptr | apply f_fn | apply dv_slice | apply sv_d | apply f_cons | apply fold_nil | apply fold_cons | apply fold_app | apply f_rowI | apply f_rowY | apply f_rowS | apply f_rowB | apply f_rowL) | (with_reducible apply f_byte; decide))); done))))
noncomputable def m_scheme_namesOf_1 (x0 : List UInt8) : Option (Bool) := (sims_G7_0_2 x0).1
theorem spec_scheme_namesOf_1 (x0 : List UInt8) : ∀ r, m_scheme_namesOf_1 x0 = some r → PureSpec Tryz.prog 67 [.str x0] (.bool r) := (sims_G7_0_2 x0).2

/-- interchange/kit.IsDigits -/
def sc_kit_IsDigits : SC :=
  (.seq (.reg [.r 2 (.mv (.c (.d (.bool false))))])
  (.seq (.reg (.r 3 (.mv (.t 0)) :: .r 4 (.bin .neq (.t 3) (.c (.d (.str [])))) :: .r 5 (.mv (.t 4)) :: gapp [6, 7] 5 true (.r 6 (.mv (.t 0)) :: .c 7 (.f 62) [.t 6, .c (.d (.int .u8 48)), .c (.d (.int .u8 57))] :: []) (.r 8 (.pick (.t 5) (.t 7) (.c (.d (.bool false)))) :: .r 2 (.mv (.t 8)) :: [])))
  .ret))
theorem fit_kit_IsDigits : fits Tryz.prog 72 Tryz.f72 sc_kit_IsDigits [.t 2] 1 = true := by kernel_rfl

set_option maxRecDepth 100000 in
set_option maxHeartbeats 40000000 in
noncomputable def sims_G7_0_3 : (∀ (x0 : List UInt8), {m : Option (Bool) // ∀ r, m = some r → PureSpec Tryz.prog 72 [.str x0] (.bool r)}) := by
  (intro x0; apply Subtype.mk; intro r hm; apply pure_walk Tryz.func72 fit_kit_IsDigits; unfold sc_kit_IsDigits)
  repeat' (first | with_reducible refine W_seq ?_ | with_reducible refine W_reg ?_ | with_reducible refine W_block ?_ | with_reducible refine W_skip ?_ | with_reducible refine W_ret ?_ | with_reducible refine W_exit ?_ | with_reducible refine O_nil ?_ | with_reducible refine K_seq ?_ | with_reducible refine K_seqE ?_ | with_reducible refine K_seqR ?_ | with_reducible refine K_block ?_ | with_reducible refine K_blockR ?_ | with_reducible refine K_blockE ?_ | ((with_reducible apply K_blockN); decide) | ((with_reducible apply O_r); (simp only [push_cast, seval]; rfl); (first | exact trivial | omega)) | ((with_reducible apply O_and hm); (simp only [push_cast, seval]; rfl); rfl; intro v hm; rotate_left; intro v g hm) | ((with_reducible apply W_condT); (focus (simp only [push_cast, seval]; done))) | ((with_reducible apply W_condF); (focus (simp only [push_cast, seval]; done))) | ((with_reducible apply O_cF hm); (simp only [push_cast, seval]; rfl); (first | apply spec_kit_InBytes _ _ _); (any_goals ((repeat' (first | rfl | (with_reducible first | apply f_optN | apply f_optS | apply f_some | apply f_tup | apply f_agg | apply f_ptr | apply f_fn | apply dv_slice | apply sv_d | apply f_cons | apply fold_nil | apply fold_cons | apply fold_app | apply f_rowI | apply f_rowY | apply f_rowS | apply f_rowB | apply f_rowL) | (with_reducible apply f_byte; decide))); done)); intro x hm) | ((with_reducible apply S_condB hm); (simp only [push_cast, seval]; rfl); intro hm; rotate_left; intro hm) | ((with_reducible apply K_endS hm); (focus (simp only [resOf, resL, RV.get, push_cast, seval]; rfl)); (focus ((repeat' (first | rfl | (with_reducible first | apply f_optN | apply f_optS | apply f_some | apply f_tup | apply f_agg | apply f_ptr | apply f_fn | apply dv_slice | apply sv_d | apply f_cons | apply fold_nil | apply fold_cons | apply fold_app | apply f_rowI | apply f_rowY | apply f_rowS | apply f_rowB | apply f_rowL) | (with_reducible apply f_byte; decide))); done))) | ((with_reducible apply K_bool hm); (simp only [push_cast, seval]; rfl)))
noncomputable def m_kit_IsDigits (x0 : List UInt8) : Option (Bool) := (sims_G7_0_3 x0).1
theorem spec_kit_IsDigits (x0 : List UInt8) : ∀ r, m_kit_IsDigits x0 = some r → PureSpec Tryz.prog 72 [.str x0] (.bool r) := (sims_G7_0_3 x0).2

/-- interchange/kit.Outside -/
def sc_kit_Outside : SC :=
  (.seq (.reg [.r 6 (.mv (.c (.d (.bool false))))])
  (.seq (.reg (.r 7 (.mv (.t 0)) :: .r 8 (.mv (.t 1)) :: .r 9 (.bin .lss (.t 7) (.t 8)) :: .r 10 (.mv (.t 9)) :: gapp [11, 12, 13] 10 false (.r 11 (.mv (.t 0)) :: .r 12 (.mv (.t 2)) :: .r 13 (.bin .gtr (.t 11) (.t 12)) :: []) (.r 14 (.pick (.t 10) (.c (.d (.bool true))) (.t 13)) :: .r 6 (.mv (.t 14)) :: [])))
  .ret))
theorem fit_kit_Outside : fits Tryz.prog 44 Tryz.f44 sc_kit_Outside [.t 6] 3 = true := by kernel_rfl

set_option maxRecDepth 100000 in
set_option maxHeartbeats 40000000 in
noncomputable def sims_G7_0_4 : (∀ (x0 : Int) (x1 : Int) (x2 : Int), {m : Option (Bool) // ∀ r, m = some r → PureSpec Tryz.prog 44 [.int .i64 x0, .int .i64 x1, .int .i64 x2] (.bool r)}) := by
  (intro x0 x1 x2; apply Subtype.mk; intro r hm; apply pure_walk Tryz.func44 fit_kit_Outside; unfold sc_kit_Outside)
  repeat' (first | with_reducible refine W_seq ?_ | with_reducible refine W_reg ?_ | with_reducible refine W_block ?_ | with_reducible refine W_skip ?_ | with_reducible refine W_ret ?_ | with_reducible refine W_exit ?_ | with_reducible refine O_nil ?_ | with_reducible refine K_seq ?_ | with_reducible refine K_seqE ?_ | with_reducible refine K_seqR ?_ | with_reducible refine K_block ?_ | with_reducible refine K_blockR ?_ | with_reducible refine K_blockE ?_ | ((with_reducible apply K_blockN); decide) | ((with_reducible apply O_r); (simp only [push_cast, seval]; rfl); (first | exact trivial | omega)) | ((with_reducible apply O_or hm); (simp only [push_cast, seval]; rfl); rfl; intro v hm; rotate_left; intro v g hm) | ((with_reducible apply W_condT); (focus (simp only [push_cast, seval]; done))) | ((with_reducible apply W_condF); (focus (simp only [push_cast, seval]; done))) | ((with_reducible apply S_condB hm); (simp only [push_cast, seval]; rfl); intro hm; rotate_left; intro hm) | ((with_reducible apply K_endS hm); (focus (simp only [resOf, resL, RV.get, push_cast, seval]; rfl)); (focus ((repeat' (first | rfl | (with_reducible first | apply f_optN | apply f_optS | apply f_some | apply f_tup | apply f_agg | apply f_ptr | apply f_fn | apply dv_slice | apply sv_d | apply f_cons | apply fold_nil | apply fold_cons | apply fold_app | apply f_rowI | apply f_rowY | apply f_rowS | apply f_rowB | apply f_rowL) | (with_reducible apply f_byte; decide))); done))) | ((with_reducible apply K_bool hm); (simp only [push_cast, seval]; rfl)))
noncomputable def m_kit_Outside (x0 : Int) (x1 : Int) (x2 : Int) : Option (Bool) := (sims_G7_0_4 x0 x1 x2).1
theorem spec_kit_Outside (x0 : Int) (x1 : Int) (x2 : Int) : ∀ r, m_kit_Outside x0 x1 x2 = some r → PureSpec Tryz.prog 44 [.int .i64 x0, .int .i64 x1, .int .i64 x2] (.bool r) := (sims_G7_0_4 x0 x1 x2).2

def sc_scheme_kidsOf_L1 : SC :=
  (.seq (.reg [.r 30 (.bin .lss (.t 29) (.t 28))])
  (.seq (.cond (.t 30)
    .skip
    (.exit 4))
  (.seq (.block 5 (.seq (.reg [.r 31 (.idx 4 (.t 27) (.t 29)),
       .o 32 (.ldA 4 (.t 31)),
       .w 12 (.boxM (.c (.agg [.d (.str []), .d (.str []), .nils, .nils]))),
       .w 0 (.st 4 (.t 12) (.t 32))])
    (.seq (.reg [.r 33 (.fld 0 (.t 12)),
       .o 34 (.ld1 (.t 33)),
       .r 35 (.mv (.t 7)),
       .r 36 (.bin .eql (.t 34) (.t 35))])
    (.cond (.t 36)
      (.reg [.r 37 (.mv (.t 8)),
         .r 38 (.fld 3 (.t 12)),
         .o 39 (.ld1 (.t 38)),
         .r 40 (.bslice 1 [.t 39]),
         .w 41 (.app 22 1 (.t 37) (.t 40)),
         .r 8 (.mv (.t 41))])
      .skip))))
  (.reg [.r 42 (.bin .add (.t 29) (.c (.d (.int .i64 1)))),
     .r 29 (.mv (.t 42))]))))
def sc_scheme_kidsOf_B1 : SC := .block 4 (.loop sc_scheme_kidsOf_L1)
def sc_scheme_kidsOf_L2 : SC :=
  (.seq (.reg [.r 24 (.bin .lss (.t 23) (.t 22))])
  (.seq (.cond (.t 24)
    .skip
    (.exit 2))
  (.seq (.block 3 (.seq (.reg [.r 25 (.idx 1 (.t 21) (.t 23)),
       .o 26 (.ld1 (.t 25)),
       .r 10 (.mv (.t 26))])
    (.seq (.reg [.r 27 (.mv (.t 10)),
       .r 28 (.len (.t 27)),
       .r 29 (.mv (.c (.d (.int .i64 0))))])
    sc_scheme_kidsOf_B1)))
  (.reg [.r 43 (.bin .add (.t 23) (.c (.d (.int .i64 1)))),
     .r 23 (.mv (.t 43))]))))
def sc_scheme_kidsOf_B2 : SC := .block 2 (.loop sc_scheme_kidsOf_L2)
def sc_scheme_kidsOf_R16 : SC := (.reg [.r 44 (.mv (.t 8)),
       .r 5 (.mv (.t 44))])
def sc_scheme_kidsOf_L3 : SC :=
  (.seq (.reg [.r 18 (.bin .lss (.t 17) (.t 16))])
  (.seq (.cond (.t 18)
    .skip
    (.exit 0))
  (.seq (.block 1 (.seq (.reg [.r 19 (.idx 1 (.t 15) (.t 17)),
       .o 20 (.ld1 (.t 19)),
       .r 7 (.mv (.t 20))])
    (.seq (.reg [.r 8 (.mv (.c (.nils)))])
    (.seq (.seq (.reg [.r 21 (.mv (.t 5)),
       .r 22 (.len (.t 21)),
       .r 23 (.mv (.c (.d (.int .i64 0))))])
    sc_scheme_kidsOf_B2)
    sc_scheme_kidsOf_R16))))
  (.reg [.r 45 (.bin .add (.t 17) (.c (.d (.int .i64 1)))),
     .r 17 (.mv (.t 45))]))))
def sc_scheme_kidsOf_B3 : SC := .block 0 (.loop sc_scheme_kidsOf_L3)
/-- interchange/scheme.kidsOf -/
def sc_scheme_kidsOf : SC :=
  (.seq (.reg [.r 4 (.mv (.c (.nils)))])
  (.seq (.reg [.r 13 (.mv (.t 0)),
     .r 14 (.bslice 1 [.t 13]),
     .r 5 (.mv (.t 14))])
  (.seq (.seq (.reg [.r 15 (.mv (.t 1)),
     .r 16 (.len (.t 15)),
     .r 17 (.mv (.c (.d (.int .i64 0))))])
  sc_scheme_kidsOf_B3)
  (.seq (.reg [.r 46 (.mv (.t 5)),
     .r 4 (.mv (.t 46))])
  .ret))))
theorem fit_scheme_kidsOf : fits Tryz.prog 45 Tryz.f45 sc_scheme_kidsOf [.t 4] 2 = true := by kernel_rfl

set_option maxRecDepth 100000 in
set_option maxHeartbeats 40000000 in
noncomputable def sims_G7_0_5 : (∀ (x0 : List Tapi_Branch) (x1 : List (List UInt8)), {m : Option ((List (List Tapi_Branch))) // ∀ r, m = some r → PureSpec Tryz.prog 45 [.slice (List.map rTapi_Branch x0), .slice (List.map rowS x1)] (.slice (List.map (rowL rTapi_Branch) r))}) := by
  (intro x0 x1; apply Subtype.mk; intro r hm; apply pure_walk Tryz.func45 fit_scheme_kidsOf; unfold sc_scheme_kidsOf)
  repeat' (first | ((with_reducible apply W_frzS (x := sc_scheme_kidsOf_R16) 8); (focus (simp only [push_cast, seval]; (try rfl); done)); (focus (simp only [push_cast, seval]; (try rfl); done)); (focus (simp only [push_cast, seval]; (try rfl); done)); unfold sc_scheme_kidsOf_R16) | ((with_reducible apply W_same sc_scheme_kidsOf_R16); unfold sc_scheme_kidsOf_R16) | with_reducible refine W_seq ?_ | with_reducible refine W_reg ?_ | with_reducible refine W_block ?_ | with_reducible refine W_skip ?_ | with_reducible refine W_ret ?_ | with_reducible refine W_exit ?_ | with_reducible refine O_nil ?_ | with_reducible refine K_seq ?_ | with_reducible refine K_seqE ?_ | with_reducible refine K_seqR ?_ | with_reducible refine K_block ?_ | with_reducible refine K_blockR ?_ | with_reducible refine K_blockE ?_ | ((with_reducible apply K_blockN); decide) | with_reducible refine O_o2r ?_ | ((with_reducible apply O_idxr hm); (iterate 2 (simp only [push_cast, seval]; rfl)); (intro _; rfl); intro e hm) | ((with_reducible apply O_idxVr hm); (iterate 3 (simp only [push_cast, seval]; rfl)); intro e hm) | ((with_reducible apply O_idxLr hm (row := (rowL rTapi_Branch))); (iterate 2 (simp only [push_cast, seval]; rfl)); (focus ((repeat' (first | rfl | (with_reducible first | apply fT_Tapi_Branch | apply fT_Tapi_Element | apply fT_Tapi_Segment | apply f_optN | apply f_optS | apply f_some | apply f_tup | apply f_agg | apply f_ptr | apply f_fn | apply dv_slice | apply sv_d | apply f_cons | apply fold_nil | apply fold_cons | apply fold_app | apply f_rowI | apply f_rowY | apply f_rowS | apply f_rowB | apply f_rowL) | (with_reducible apply f_byte; decide))); done)); (simp only [push_cast, seval]; rfl); (intro _; rfl); intro e hm) | ((with_reducible apply O_r); (simp only [push_cast, seval]; rfl); (first | exact trivial | omega)) | ((with_reducible apply O_ldV1r hm); (iterate 2 (simp only [push_cast, seval]; rfl)); (intro _; rfl); intro e hm) | ((with_reducible apply O_ldAVr hm); (iterate 2 (simp only [push_cast, seval]; rfl)); (intro _; rfl); intro e hm) | ((with_reducible apply O_strr hm); (iterate 2 (simp only [push_cast, seval]; rfl)); intro hm) | ((with_reducible apply W_condT); (focus (simp only [push_cast, seval]; done))) | ((with_reducible apply W_condF); (focus (simp only [push_cast, seval]; done))) | ((with_reducible apply O_w); (simp only [push_cast, seval]; rfl); (first | exact trivial | omega)) | ((with_reducible apply O_appL hm (row := (rowL rTapi_Branch))); (iterate 5 (simp only [push_cast, seval]; rfl)); (focus ((repeat' (first | rfl | (with_reducible first | apply fT_Tapi_Branch | apply fT_Tapi_Element | apply fT_Tapi_Segment | apply f_optN | apply f_optS | apply f_some | apply f_tup | apply f_agg | apply f_ptr | apply f_fn | apply dv_slice | apply sv_d | apply f_cons | apply fold_nil | apply fold_cons | apply fold_app | apply f_rowI | apply f_rowY | apply f_rowS | apply f_rowB | apply f_rowL) | (with_reducible apply f_byte; decide))); done)); (focus ((repeat' (first | rfl | (with_reducible first | apply fT_Tapi_Branch | apply fT_Tapi_Element | apply fT_Tapi_Segment | apply f_optN | apply f_optS | apply f_some | apply f_tup | apply f_agg | apply f_ptr | apply f_fn | apply dv_slice | apply sv_d | apply f_cons | apply fold_nil | apply fold_cons | apply fold_app | apply f_rowI | apply f_rowY | apply f_rowS | apply f_rowB | apply f_rowL) | (with_reducible apply f_byte; decide))); done)); rfl; decide; (intro _; rfl); intro hm) | ((with_reducible apply O_appV hm); (iterate 4 (simp only [push_cast, seval]; rfl)); (focus ((repeat' (first | rfl | (with_reducible first | apply fT_Tapi_Branch | apply fT_Tapi_Element | apply fT_Tapi_Segment | apply f_optN | apply f_optS | apply f_some | apply f_tup | apply f_agg | apply f_ptr | apply f_fn | apply dv_slice | apply sv_d | apply f_cons | apply fold_nil | apply fold_cons | apply fold_app | apply f_rowI | apply f_rowY | apply f_rowS | apply f_rowB | apply f_rowL) | (with_reducible apply f_byte; decide))); done)); decide; (intro _; rfl); intro hm) | ((with_reducible apply O_appN hm); (focus (simp only [push_cast, seval]; done)); (iterate 2 (simp only [push_cast, seval]; rfl)); (focus ((repeat' (first | rfl | (with_reducible first | apply fT_Tapi_Branch | apply fT_Tapi_Element | apply fT_Tapi_Segment | apply f_optN | apply f_optS | apply f_some | apply f_tup | apply f_agg | apply f_ptr | apply f_fn | apply dv_slice | apply sv_d | apply f_cons | apply fold_nil | apply fold_cons | apply fold_app | apply f_rowI | apply f_rowY | apply f_rowS | apply f_rowB | apply f_rowL) | (with_reducible apply f_byte; decide))); done)); decide; (intro _; rfl); intro hm) | ((with_reducible apply O_stVA hm); (iterate 4 (simp only [push_cast, seval]; rfl)); (focus ((repeat' (first | rfl | (with_reducible first | apply fT_Tapi_Branch | apply fT_Tapi_Element | apply fT_Tapi_Segment | apply f_optN | apply f_optS | apply f_some | apply f_tup | apply f_agg | apply f_ptr | apply f_fn | apply dv_slice | apply sv_d | apply f_cons | apply fold_nil | apply fold_cons | apply fold_app | apply f_rowI | apply f_rowY | apply f_rowS | apply f_rowB | apply f_rowL) | (with_reducible apply f_byte; decide))); done)); decide; (intro _; rfl); intro e hm) | ((with_reducible apply O_stV hm); (iterate 3 (simp only [push_cast, seval]; rfl)); rfl; (intro _; rfl); rfl; (focus (intro a; simp only [push_cast, seval]; rfl)); (focus (intro a; (repeat' (first | rfl | with_reducible apply eT_Tapi_Branch | with_reducible apply eT_Tapi_Element | with_reducible apply eT_Tapi_Segment)); done)); intro e hm) | ((with_reducible apply S_condB hm); (simp only [push_cast, seval]; rfl); intro hm; rotate_left; intro hm) | ((with_reducible apply K_endS hm); (focus (simp only [resOf, resL, RV.get, push_cast, seval]; rfl)); (focus ((repeat' (first | rfl | (with_reducible first | apply fT_Tapi_Branch | apply fT_Tapi_Element | apply fT_Tapi_Segment | apply f_optN | apply f_optS | apply f_some | apply f_tup | apply f_agg | apply f_ptr | apply f_fn | apply dv_slice | apply sv_d | apply f_cons | apply fold_nil | apply fold_cons | apply fold_app | apply f_rowI | apply f_rowY | apply f_rowS | apply f_rowB | apply f_rowL) | (with_reducible apply f_byte; decide))); done))) | ((with_reducible apply K_leave hm); intro r hm) | ((with_reducible apply K_leaveR hm); intro r hm) | ((apply S_loopY (b := 4) (X := sc_scheme_kidsOf_B1) (x := sc_scheme_kidsOf_L1) rfl (fun (c : SV × SV × SV × SV × SV × SV × SV × SV × SV) (s : (List (List Tapi_Branch)) × Int) => st [(7, c.1), (8, .vec 8), (15, c.2.1), (16, c.2.2.1), (17, c.2.2.2.1), (21, c.2.2.2.2.1), (22, c.2.2.2.2.2.1), (23, c.2.2.2.2.2.2.1), (27, c.2.2.2.2.2.2.2.1), (28, c.2.2.2.2.2.2.2.2), (29, .d (.int .i64 s.2))] [(8, .vec 22 1 (vrow (rowL rTapi_Branch) s.1))]) (c := (_, _, _, _, _, _, _, _, _)) (s0 := (_, _)) hm); (focus (first | (dsimp only; done) | (dsimp only; rfl) | rfl)); (with_reducible refine Then.mk ?_ ?_)) | ((apply S_loopY (b := 2) (X := sc_scheme_kidsOf_B2) (x := sc_scheme_kidsOf_L2) rfl (fun (c : SV × SV × SV × SV × SV × SV) (s : (List (List Tapi_Branch)) × Int) => st [(7, c.1), (8, .vec 8), (15, c.2.1), (16, c.2.2.1), (17, c.2.2.2.1), (21, c.2.2.2.2.1), (22, c.2.2.2.2.2), (23, .d (.int .i64 s.2))] [(8, .vec 22 1 (vrow (rowL rTapi_Branch) s.1))]) (c := (_, _, _, _, _, _)) (s0 := (_, _)) hm); (focus (first | (dsimp only; done) | (dsimp only; rfl) | rfl)); (with_reducible refine Then.mk ?_ ?_); apply Imp.trans; (focus (apply imp_vecnil (slot := 8) (id := 8) (e := 22) (sz := 1); (focus (simp only [push_cast, seval]; done))))) | ((apply S_loopY (b := 0) (X := sc_scheme_kidsOf_B3) (x := sc_scheme_kidsOf_L3) rfl (fun (c : SV × SV) (s : (List (List Tapi_Branch)) × Int) => st [(5, .d (.slice (List.map (rowL rTapi_Branch) s.1))), (15, c.1), (16, c.2), (17, .d (.int .i64 s.2))] []) (c := (_, _)) (s0 := (_, _)) hm); (focus (first | (dsimp only; done) | (dsimp only; rfl) | rfl)); (with_reducible refine Then.mk ?_ ?_)) | ((apply K_next (s' := (_, _)) hm); (focus (first | (dsimp only; done) | (dsimp only; rfl) | rfl))) | ((apply K_brk (s' := (_, _)) hm); (focus (first | (dsimp only; done) | (dsimp only; rfl) | rfl))) | (((with_reducible apply K_brkN hm); (focus decide); intro r hm)) | (((with_reducible apply K_brkR hm); intro r hm)) | (((with_reducible apply LoopB.of); (focus (first | (dsimp only; done) | (dsimp only; rfl) | rfl)); (focus ((intro _; repeat' (first | with_reducible exact impC_end | with_reducible exact impC_endF | with_reducible refine impC_seq ?_ | with_reducible refine impC_block ?_ | ((with_reducible refine impC_rnd ?_); intro _) | ((with_reducible refine impC_brk ?_); intro _))))); (intro s o hm; first | unfold sc_scheme_kidsOf_L1 | unfold sc_scheme_kidsOf_L2 | unfold sc_scheme_kidsOf_L3); rotate_left; intro s hm)) | (((apply imp_stT; (repeat' (first | with_reducible exact keepT_nil | with_reducible exact keepC_nil | with_reducible apply keepT_cons | with_reducible apply keepC_cons | ((with_reducible apply svle_eq); (focus (first | (simp only [push_cast, seval]; rfl) | rfl)); (focus ((repeat' (first | rfl | (with_reducible first | apply fT_Tapi_Branch | apply fT_Tapi_Element | apply fT_Tapi_Segment | apply f_optN | apply f_optS | apply f_some | apply f_tup | apply f_agg | apply f_ptr | apply f_fn | apply dv_slice | apply sv_d | apply f_cons | apply fold_nil | apply fold_cons | apply fold_app | apply f_rowI | apply f_rowY | apply f_rowS | apply f_rowB | apply f_rowL) | (with_reducible apply f_byte; decide))); done))) | ((with_reducible apply svle_td); (focus (first | (simp only [push_cast, seval]; rfl) | rfl)); (focus (first | (simp only [push_cast, seval]; rfl) | rfl)); (focus ((repeat' (first | rfl | (with_reducible first | apply fT_Tapi_Branch | apply fT_Tapi_Element | apply fT_Tapi_Segment | apply f_optN | apply f_optS | apply f_some | apply f_tup | apply f_agg | apply f_ptr | apply f_fn | apply dv_slice | apply sv_d | apply f_cons | apply fold_nil | apply fold_cons | apply fold_app | apply f_rowI | apply f_rowY | apply f_rowS | apply f_rowB | apply f_rowL) | (with_reducible apply f_byte; decide))); done))) | ((with_reducible apply chle_eq); (focus (first | (simp only [push_cast, seval]; rfl) | rfl)); (first | with_reducible exact chle_rfl rfl | with_reducible exact chle_map0 | with_reducible apply chle_vec | with_reducible apply chle_box)) | (with_reducible first | apply cT_Tapi_Branch | apply cT_Tapi_Element | apply cT_Tapi_Segment | apply r_shS | apply r_shI | apply r_rflO | apply r_oneO | apply r_appO | apply r_nilO | apply c_ownN | apply c_ownL | apply vc_rfl | apply vc_nil | apply vc_cons | apply r_rfl | apply r_rows | apply r_nil | apply r_app | apply r_cons | apply c_rowI | apply c_rowY | apply c_rowS | apply c_rowB | apply c_rowL))); done))))
noncomputable def m_scheme_kidsOf (x0 : List Tapi_Branch) (x1 : List (List UInt8)) : Option ((List (List Tapi_Branch))) := (sims_G7_0_5 x0 x1).1
theorem spec_scheme_kidsOf (x0 : List Tapi_Branch) (x1 : List (List UInt8)) : ∀ r, m_scheme_kidsOf x0 x1 = some r → PureSpec Tryz.prog 45 [.slice (List.map rTapi_Branch x0), .slice (List.map rowS x1)] (.slice (List.map (rowL rTapi_Branch) r)) := (sims_G7_0_5 x0 x1).2

/-- interchange/wire.TextAt -/
def sc_wire_TextAt : SC :=
  (.seq (.reg [.r 2 (.boxI (.t 0)),
     .r 3 (.boxI (.t 1)),
     .r 4 (.mv (.c (.d (.str [])))),
     .r 5 (.mv (.c (.d (.bool false))))])
  (.seq (.seq (.reg [.r 7 (.fld 0 (.t 3)),
     .o 8 (.ld1 (.t 7)),
     .r 9 (.fld 1 (.t 2)),
     .o 10 (.ld1 (.t 9)),
     .r 11 (.len (.t 10)),
     .r 12 (.bin .gtr (.t 8) (.t 11))])
  (.cond (.t 12)
    (.seq (.reg [.r 4 (.mv (.c (.d (.str [])))),
       .r 5 (.mv (.c (.d (.bool false))))])
    .ret)
    .skip))
  (.seq (.reg [.r 13 (.fld 1 (.t 2)),
     .o 14 (.ld1 (.t 13)),
     .r 15 (.fld 0 (.t 3)),
     .o 16 (.ld1 (.t 15)),
     .r 17 (.bin .sub (.t 16) (.c (.d (.int .i64 1)))),
     .r 18 (.idx 1 (.t 14) (.t 17)),
     .r 19 (.fld 0 (.t 18)),
     .o 20 (.ld1 (.t 19)),
     .r 6 (.mv (.t 20))])
  (.seq (.seq (.regD (.r 21 (.fld 1 (.t 3)) :: .r 22 (.ld1 (.t 21)) :: .r 23 (.mv (.t 6)) :: .r 24 (.len (.t 23)) :: .r 25 (.bin .gtr (.t 22) (.t 24)) :: .r 26 (.mv (.t 25)) :: gapp [27, 28, 29, 30, 31, 32, 33, 34, 35, 36] 26 false (.r 27 (.fld 2 (.t 3)) :: .r 28 (.ld1 (.t 27)) :: .r 29 (.mv (.t 6)) :: .r 30 (.fld 1 (.t 3)) :: .r 31 (.ld1 (.t 30)) :: .r 32 (.bin .sub (.t 31) (.c (.d (.int .i64 1)))) :: .r 33 (.idx 1 (.t 29) (.t 32)) :: .r 34 (.ld1 (.t 33)) :: .r 35 (.len (.t 34)) :: .r 36 (.bin .gtr (.t 28) (.t 35)) :: []) (.r 37 (.pick (.t 26) (.c (.d (.bool true))) (.t 36)) :: [])))
  (.cond (.t 37)
    (.seq (.reg [.r 4 (.mv (.c (.d (.str [])))),
       .r 5 (.mv (.c (.d (.bool false))))])
    .ret)
    .skip))
  (.seq (.regD [.r 38 (.mv (.t 6)),
     .r 39 (.fld 1 (.t 3)),
     .r 40 (.ld1 (.t 39)),
     .r 41 (.bin .sub (.t 40) (.c (.d (.int .i64 1)))),
     .r 42 (.idx 1 (.t 38) (.t 41)),
     .r 43 (.ld1 (.t 42)),
     .r 44 (.fld 2 (.t 3)),
     .r 45 (.ld1 (.t 44)),
     .r 46 (.bin .sub (.t 45) (.c (.d (.int .i64 1)))),
     .r 47 (.idx 1 (.t 43) (.t 46)),
     .r 48 (.ld1 (.t 47)),
     .r 4 (.mv (.t 48)),
     .r 5 (.mv (.c (.d (.bool true))))])
  .ret)))))
theorem fit_wire_TextAt : fits Tryz.prog 46 Tryz.f46 sc_wire_TextAt [.t 4, .t 5] 2 = true := by kernel_rfl

set_option maxRecDepth 100000 in
set_option maxHeartbeats 40000000 in
noncomputable def sims_G7_0_6 : (∀ (x0 : Tapi_Segment) (x1 : Tapi_Spot), {m : Option ((List UInt8) × Bool) // ∀ r, m = some r → PureSpec Tryz.prog 46 [.agg (rTapi_Segment x0), .agg (rTapi_Spot x1)] (.tup [.str r.1, .bool r.2])}) := by
  (intro x0 x1; apply Subtype.mk; intro r hm; apply pure_walk Tryz.func46 fit_wire_TextAt; unfold sc_wire_TextAt)
  repeat' (first | with_reducible refine W_seq ?_ | with_reducible refine W_reg ?_ | with_reducible refine W_regD ?_ | with_reducible refine W_block ?_ | with_reducible refine W_skip ?_ | with_reducible refine W_ret ?_ | with_reducible refine W_exit ?_ | with_reducible refine O_nil ?_ | with_reducible refine K_seq ?_ | with_reducible refine K_seqE ?_ | with_reducible refine K_seqR ?_ | with_reducible refine K_block ?_ | with_reducible refine K_blockR ?_ | with_reducible refine K_blockE ?_ | ((with_reducible apply K_blockN); decide) | with_reducible refine O_o2r ?_ | ((with_reducible apply O_idxr hm); (iterate 2 (simp only [push_cast, seval]; rfl)); (intro _; rfl); intro e hm) | ((with_reducible apply O_idxVr hm); (iterate 3 (simp only [push_cast, seval]; rfl)); intro e hm) | ((with_reducible apply O_r); (simp only [push_cast, seval]; rfl); (first | exact trivial | omega)) | ((with_reducible apply O_ldV1r hm); (iterate 2 (simp only [push_cast, seval]; rfl)); (intro _; rfl); intro e hm) | ((with_reducible apply O_or hm); (simp only [push_cast, seval]; rfl); rfl; intro v hm; rotate_left; intro v g hm) | ((with_reducible apply W_condT); (focus (simp only [push_cast, seval]; done))) | ((with_reducible apply W_condF); (focus (simp only [push_cast, seval]; done))) | ((with_reducible apply S_condB hm); (simp only [push_cast, seval]; rfl); intro hm; rotate_left; intro hm) | ((with_reducible apply K_end2 hm); (focus (simp only [resOf, resL, RV.get, push_cast, seval]; rfl)); (focus (first | (dsimp only; done) | (dsimp only; rfl) | rfl)); (focus ((repeat' (first | rfl | (with_reducible first | apply fT_Tapi_Element | apply fT_Tapi_Segment | apply fT_Tapi_Spot | apply f_optN | apply f_optS | apply f_some | apply f_tup | apply f_agg | apply f_ptr | apply f_fn | apply dv_slice | apply sv_d | apply f_cons | apply fold_nil | apply fold_cons | apply fold_app | apply f_rowI | apply f_rowY | apply f_rowS | apply f_rowB | apply f_rowL) | (with_reducible apply f_byte; decide))); done))) | ((with_reducible apply K_bool hm); (simp only [push_cast, seval]; rfl)))
noncomputable def m_wire_TextAt (x0 : Tapi_Segment) (x1 : Tapi_Spot) : Option ((List UInt8) × Bool) := (sims_G7_0_6 x0 x1).1
theorem spec_wire_TextAt (x0 : Tapi_Segment) (x1 : Tapi_Spot) : ∀ r, m_wire_TextAt x0 x1 = some r → PureSpec Tryz.prog 46 [.agg (rTapi_Segment x0), .agg (rTapi_Spot x1)] (.tup [.str r.1, .bool r.2]) := (sims_G7_0_6 x0 x1).2

def sc_interchangeref3_counted_L1 : SC :=
  (.seq (.seq (.reg [.r 27 (.mv (.t 6)),
     .r 28 (.mv (.t 0)),
     .r 29 (.lenT (.t 28)),
     .r 30 (.bin .lss (.t 27) (.t 29))])
  (.cond (.t 30)
    .skip
    (.exit 0)))
  (.seq (.block 1 (.seq (.reg (.r 33 (.mv (.t 0)) :: .r 34 (.mv (.t 6)) :: .r 35 (.sidx (.t 33) (.t 34)) :: .r 36 (.bin .lss (.t 35) (.c (.d (.int .u8 48)))) :: .r 37 (.mv (.t 36)) :: gapp [38, 39, 40, 41] 37 false (.r 38 (.mv (.t 0)) :: .r 39 (.mv (.t 6)) :: .r 40 (.sidx (.t 38) (.t 39)) :: .r 41 (.bin .gtr (.t 40) (.c (.d (.int .u8 57)))) :: []) (.r 42 (.pick (.t 37) (.c (.d (.bool true))) (.t 41)) :: [])))
    (.cond (.t 42)
      (.seq (.reg [.r 4 (.mv (.c (.d (.int .i64 0)))),
         .r 5 (.mv (.c (.d (.bool false))))])
      .ret)
      .skip)))
  (.reg [.r 31 (.mv (.t 6)),
     .r 32 (.bin .add (.t 31) (.c (.d (.int .i64 1)))),
     .r 6 (.mv (.t 32))])))
def sc_interchangeref3_counted_B1 : SC := .block 0 (.loop sc_interchangeref3_counted_L1)
/-- interchange/interchangeref3.counted -/
def sc_interchangeref3_counted : SC :=
  (.seq (.reg [.r 4 (.mv (.c (.d (.int .i64 0)))),
     .r 5 (.mv (.c (.d (.bool false))))])
  (.seq (.seq (.reg (.r 9 (.mv (.t 0)) :: .r 10 (.bin .eql (.t 9) (.c (.d (.str [])))) :: .r 11 (.mv (.t 10)) :: gapp [12, 13, 14, 15] 11 false (.r 12 (.mv (.t 0)) :: .r 13 (.lenT (.t 12)) :: .r 14 (.mv (.t 1)) :: .r 15 (.bin .gtr (.t 13) (.t 14)) :: []) (.r 16 (.pick (.t 11) (.c (.d (.bool true))) (.t 15)) :: .r 17 (.mv (.t 16)) :: gapp [18, 19, 20, 21, 22, 23, 24, 25] 17 false (.r 18 (.mv (.t 0)) :: .r 19 (.lenT (.t 18)) :: .r 20 (.bin .gtr (.t 19) (.c (.d (.int .i64 1)))) :: .r 21 (.mv (.t 20)) :: gapp [22, 23, 24] 21 true (.r 22 (.mv (.t 0)) :: .r 23 (.sidx (.t 22) (.c (.d (.int .i64 0)))) :: .r 24 (.bin .eql (.t 23) (.c (.d (.int .u8 48)))) :: []) (.r 25 (.pick (.t 21) (.t 24) (.c (.d (.bool false)))) :: [])) (.r 26 (.pick (.t 17) (.c (.d (.bool true))) (.t 25)) :: []))))
  (.cond (.t 26)
    (.seq (.reg [.r 4 (.mv (.c (.d (.int .i64 0)))),
       .r 5 (.mv (.c (.d (.bool false))))])
    .ret)
    .skip))
  (.seq (.seq (.reg [.r 6 (.mv (.c (.d (.int .i64 0))))])
  sc_interchangeref3_counted_B1)
  (.seq (.reg [.r 44 (.mv (.t 0)),
     .c 45 (.f 73) [.t 44],
     .r 43 (.mv (.t 45)),
     .r 46 (.ext (.t 43) 0),
     .r 47 (.ext (.t 43) 1),
     .r 7 (.mv (.t 46)),
     .r 8 (.mv (.t 47))])
  (.seq (.reg [.r 48 (.mv (.t 7)),
     .r 4 (.mv (.t 48)),
     .r 5 (.mv (.c (.d (.bool true))))])
  .ret)))))
theorem fit_interchangeref3_counted : fits Tryz.prog 76 Tryz.f76 sc_interchangeref3_counted [.t 4, .t 5] 2 = true := by kernel_rfl

set_option maxRecDepth 100000 in
set_option maxHeartbeats 40000000 in
noncomputable def sims_G7_0_7 : (∀ (x0 : List UInt8) (x1 : Int), {m : Option (Int × Bool) // ∀ r, m = some r → PureSpec Tryz.prog 76 [.str x0, .int .i64 x1] (.tup [.int .i64 r.1, .bool r.2])}) := by
  (intro x0 x1; apply Subtype.mk; intro r hm; apply pure_walk Tryz.func76 fit_interchangeref3_counted; unfold sc_interchangeref3_counted)
  repeat' (first | with_reducible refine W_seq ?_ | with_reducible refine W_reg ?_ | with_reducible refine W_block ?_ | with_reducible refine W_skip ?_ | with_reducible refine W_ret ?_ | with_reducible refine W_exit ?_ | with_reducible refine O_nil ?_ | with_reducible refine K_seq ?_ | with_reducible refine K_seqE ?_ | with_reducible refine K_seqR ?_ | with_reducible refine K_block ?_ | with_reducible refine K_blockR ?_ | with_reducible refine K_blockE ?_ | ((with_reducible apply K_blockN); decide) | ((with_reducible apply O_sidxr hm); (iterate 2 (simp only [push_cast, seval]; rfl)); intro e hm) | ((with_reducible apply O_r); (simp only [push_cast, seval]; rfl); (first | exact trivial | omega)) | ((with_reducible apply O_strr hm); (iterate 2 (simp only [push_cast, seval]; rfl)); intro hm) | ((with_reducible apply O_and hm); (simp only [push_cast, seval]; rfl); rfl; intro v hm; rotate_left; intro v g hm) | ((with_reducible apply O_or hm); (simp only [push_cast, seval]; rfl); rfl; intro v hm; rotate_left; intro v g hm) | ((with_reducible apply W_condT); (focus (simp only [push_cast, seval]; done))) | ((with_reducible apply W_condF); (focus (simp only [push_cast, seval]; done))) | ((with_reducible apply O_cF hm); (simp only [push_cast, seval]; rfl); (first | apply spec_strconv_Atoi _); (any_goals ((repeat' (first | rfl | (with_reducible first | apply f_optN | apply f_optS | apply f_some | apply f_tup | apply f_agg | apply f_ptr | apply f_fn | apply dv_slice | apply sv_d | apply f_cons | apply fold_nil | apply fold_cons | apply fold_app | apply f_rowI | apply f_rowY | apply f_rowS | apply f_rowB | apply f_rowL) | (with_reducible apply f_byte; decide))); done)); intro x hm) | ((with_reducible apply S_condB hm); (simp only [push_cast, seval]; rfl); intro hm; rotate_left; intro hm) | ((with_reducible apply K_end2 hm); (focus (simp only [resOf, resL, RV.get, push_cast, seval]; rfl)); (focus (first | (dsimp only; done) | (dsimp only; rfl) | rfl)); (focus ((repeat' (first | rfl | (with_reducible first | apply f_optN | apply f_optS | apply f_some | apply f_tup | apply f_agg | apply f_ptr | apply f_fn | apply dv_slice | apply sv_d | apply f_cons | apply fold_nil | apply fold_cons | apply fold_app | apply f_rowI | apply f_rowY | apply f_rowS | apply f_rowB | apply f_rowL) | (with_reducible apply f_byte; decide))); done))) | ((with_reducible apply K_bool hm); (simp only [push_cast, seval]; rfl)) | ((with_reducible apply K_leave hm); intro r hm) | ((with_reducible apply K_leaveR hm); intro r hm) | ((apply S_loopY (b := 0) (X := sc_interchangeref3_counted_B1) (x := sc_interchangeref3_counted_L1) rfl (fun (c : SV) (s : Int) => st [(0, c), (6, .d (.int .i64 s))] []) (c := _) (s0 := _) hm); (focus (first | (dsimp only; done) | (dsimp only; rfl) | rfl)); (with_reducible refine Then.mk ?_ ?_)) | ((apply K_next (s' := _) hm); (focus (first | (dsimp only; done) | (dsimp only; rfl) | rfl))) | ((apply K_brk (s' := _) hm); (focus (first | (dsimp only; done) | (dsimp only; rfl) | rfl))) | (((with_reducible apply K_brkN hm); (focus decide); intro r hm)) | (((with_reducible apply K_brkR hm); intro r hm)) | (((with_reducible apply LoopB.of); (focus (first | (dsimp only; done) | (dsimp only; rfl) | rfl)); (focus ((intro _; repeat' (first | with_reducible exact impC_end | with_reducible exact impC_endF | with_reducible refine impC_seq ?_ | with_reducible refine impC_block ?_ | ((with_reducible refine impC_rnd ?_); intro _) | ((with_reducible refine impC_brk ?_); intro _))))); (intro s o hm; first | unfold sc_interchangeref3_counted_L1); rotate_left; intro s hm)) | (((apply imp_stT; (repeat' (first | with_reducible exact keepT_nil | with_reducible exact keepC_nil | with_reducible apply keepT_cons | with_reducible apply keepC_cons | ((with_reducible apply svle_eq); (focus (first | (simp only [push_cast, seval]; rfl) | rfl)); (focus ((repeat' (first | rfl | (with_reducible first | apply f_optN | apply f_optS | apply f_some | apply f_tup | apply f_agg | apply f_ptr | apply f_fn | apply dv_slice | apply sv_d | apply f_cons | apply fold_nil | apply fold_cons | apply fold_app | apply f_rowI | apply f_rowY | apply f_rowS | apply f_rowB | apply f_rowL) | (with_reducible apply f_byte; decide))); done))) | ((with_reducible apply svle_td); (focus (first | (simp only [push_cast, seval]; rfl) | rfl)); (focus (first | (simp only [push_cast, seval]; rfl) | rfl)); (focus ((repeat' (first | rfl | (with_reducible first | apply f_optN | apply f_optS | apply f_some | apply f_tup | apply f_agg | apply f_ptr | apply f_fn | apply dv_slice | apply sv_d | apply f_cons | apply fold_nil | apply fold_cons | apply fold_app | apply f_rowI | apply f_rowY | apply f_rowS | apply f_rowB | apply f_rowL) | (with_reducible apply f_byte; decide))); done))) | ((with_reducible apply chle_eq); (focus (first | (simp only [push_cast, seval]; rfl) | rfl)); (first | with_reducible exact chle_rfl rfl | with_reducible exact chle_map0 | with_reducible apply chle_vec | with_reducible apply chle_box)) | (with_reducible first | apply r_shS | apply r_shI | apply r_rflO | apply r_oneO | apply r_appO | apply r_nilO | apply c_ownN | apply c_ownL | apply vc_rfl | apply vc_nil | apply vc_cons | apply r_rfl | apply r_rows | apply r_nil | apply r_app | apply r_cons | apply c_rowI | apply c_rowY | apply c_rowS | apply c_rowB | apply c_rowL))); done))))
noncomputable def m_interchangeref3_counted (x0 : List UInt8) (x1 : Int) : Option (Int × Bool) := (sims_G7_0_7 x0 x1).1
theorem spec_interchangeref3_counted (x0 : List UInt8) (x1 : Int) : ∀ r, m_interchangeref3_counted x0 x1 = some r → PureSpec Tryz.prog 76 [.str x0, .int .i64 x1] (.tup [.int .i64 r.1, .bool r.2]) := (sims_G7_0_7 x0 x1).2

/-- interchange/interchangeref3.within -/
def sc_interchangeref3_within : SC :=
  (.seq (.reg [.r 6 (.mv (.c (.d (.bool false))))])
  (.seq (.reg (.r 7 (.mv (.t 0)) :: .r 8 (.mv (.t 1)) :: .r 9 (.bin .geq (.t 7) (.t 8)) :: .r 10 (.mv (.t 9)) :: gapp [11, 12, 13] 10 true (.r 11 (.mv (.t 0)) :: .r 12 (.mv (.t 2)) :: .r 13 (.bin .leq (.t 11) (.t 12)) :: []) (.r 14 (.pick (.t 10) (.t 13) (.c (.d (.bool false)))) :: .r 6 (.mv (.t 14)) :: [])))
  .ret))
theorem fit_interchangeref3_within : fits Tryz.prog 77 Tryz.f77 sc_interchangeref3_within [.t 6] 3 = true := by kernel_rfl

set_option maxRecDepth 100000 in
set_option maxHeartbeats 40000000 in
noncomputable def sims_G7_0_8 : (∀ (x0 : Int) (x1 : Int) (x2 : Int), {m : Option (Bool) // ∀ r, m = some r → PureSpec Tryz.prog 77 [.int .i64 x0, .int .i64 x1, .int .i64 x2] (.bool r)}) := by
  (intro x0 x1 x2; apply Subtype.mk; intro r hm; apply pure_walk Tryz.func77 fit_interchangeref3_within; unfold sc_interchangeref3_within)
  repeat' (first | with_reducible refine W_seq ?_ | with_reducible refine W_reg ?_ | with_reducible refine W_block ?_ | with_reducible refine W_skip ?_ | with_reducible refine W_ret ?_ | with_reducible refine W_exit ?_ | with_reducible refine O_nil ?_ | with_reducible refine K_seq ?_ | with_reducible refine K_seqE ?_ | with_reducible refine K_seqR ?_ | with_reducible refine K_block ?_ | with_reducible refine K_blockR ?_ | with_reducible refine K_blockE ?_ | ((with_reducible apply K_blockN); decide) | ((with_reducible apply O_r); (simp only [push_cast, seval]; rfl); (first | exact trivial | omega)) | ((with_reducible apply O_and hm); (simp only [push_cast, seval]; rfl); rfl; intro v hm; rotate_left; intro v g hm) | ((with_reducible apply W_condT); (focus (simp only [push_cast, seval]; done))) | ((with_reducible apply W_condF); (focus (simp only [push_cast, seval]; done))) | ((with_reducible apply S_condB hm); (simp only [push_cast, seval]; rfl); intro hm; rotate_left; intro hm) | ((with_reducible apply K_endS hm); (focus (simp only [resOf, resL, RV.get, push_cast, seval]; rfl)); (focus ((repeat' (first | rfl | (with_reducible first | apply f_optN | apply f_optS | apply f_some | apply f_tup | apply f_agg | apply f_ptr | apply f_fn | apply dv_slice | apply sv_d | apply f_cons | apply fold_nil | apply fold_cons | apply fold_app | apply f_rowI | apply f_rowY | apply f_rowS | apply f_rowB | apply f_rowL) | (with_reducible apply f_byte; decide))); done))) | ((with_reducible apply K_bool hm); (simp only [push_cast, seval]; rfl)))
noncomputable def m_interchangeref3_within (x0 : Int) (x1 : Int) (x2 : Int) : Option (Bool) := (sims_G7_0_8 x0 x1 x2).1
theorem spec_interchangeref3_within (x0 : Int) (x1 : Int) (x2 : Int) : ∀ r, m_interchangeref3_within x0 x1 x2 = some r → PureSpec Tryz.prog 77 [.int .i64 x0, .int .i64 x1, .int .i64 x2] (.bool r) := (sims_G7_0_8 x0 x1 x2).2

def sc_slices_Equal_string_string_L1 : SC :=
  (.seq (.reg [.r 14 (.bin .lss (.t 13) (.t 12))])
  (.seq (.cond (.t 14)
    .skip
    (.exit 0))
  (.seq (.block 1 (.seq (.reg [.r 15 (.mv (.t 13)),
       .r 5 (.mv (.t 15))])
    (.seq (.regD [.r 16 (.mv (.t 0)),
       .r 17 (.mv (.t 5)),
       .r 18 (.idx 1 (.t 16) (.t 17)),
       .r 19 (.ld1 (.t 18)),
       .r 20 (.mv (.t 1)),
       .r 21 (.mv (.t 5)),
       .r 22 (.idx 1 (.t 20) (.t 21)),
       .r 23 (.ld1 (.t 22)),
       .r 24 (.bin .neq (.t 19) (.t 23))])
    (.cond (.t 24)
      (.seq (.reg [.r 4 (.mv (.c (.d (.bool false))))])
      .ret)
      .skip))))
  (.reg [.r 25 (.bin .add (.t 13) (.c (.d (.int .i64 1)))),
     .r 13 (.mv (.t 25))]))))
def sc_slices_Equal_string_string_B1 : SC := .block 0 (.loop sc_slices_Equal_string_string_L1)
/-- slices.Equal[[]string,string] -/
def sc_slices_Equal_string_string : SC :=
  (.seq (.reg [.r 4 (.mv (.c (.d (.bool false))))])
  (.seq (.seq (.reg [.r 6 (.mv (.t 0)),
     .r 7 (.len (.t 6)),
     .r 8 (.mv (.t 1)),
     .r 9 (.len (.t 8)),
     .r 10 (.bin .neq (.t 7) (.t 9))])
  (.cond (.t 10)
    (.seq (.reg [.r 4 (.mv (.c (.d (.bool false))))])
    .ret)
    .skip))
  (.seq (.seq (.reg [.r 11 (.mv (.t 0)),
     .r 12 (.len (.t 11)),
     .r 13 (.mv (.c (.d (.int .i64 0))))])
  sc_slices_Equal_string_string_B1)
  (.seq (.reg [.r 4 (.mv (.c (.d (.bool true))))])
  .ret))))
theorem fit_slices_Equal_string_string : fits Tryz.prog 9 Tryz.f9 sc_slices_Equal_string_string [.t 4] 2 = true := by kernel_rfl

set_option maxRecDepth 100000 in
set_option maxHeartbeats 40000000 in
noncomputable def sims_G7_0_9 : (∀ (x0 : List (List UInt8)) (x1 : List (List UInt8)), {m : Option (Bool) // ∀ r, m = some r → PureSpec Tryz.prog 9 [.slice (List.map rowS x0), .slice (List.map rowS x1)] (.bool r)}) := by
  (intro x0 x1; apply Subtype.mk; intro r hm; apply pure_walk Tryz.func9 fit_slices_Equal_string_string; unfold sc_slices_Equal_string_string)
  repeat' (first | with_reducible refine W_seq ?_ | with_reducible refine W_reg ?_ | with_reducible refine W_regD ?_ | with_reducible refine W_block ?_ | with_reducible refine W_skip ?_ | with_reducible refine W_ret ?_ | with_reducible refine W_exit ?_ | with_reducible refine O_nil ?_ | with_reducible refine K_seq ?_ | with_reducible refine K_seqE ?_ | with_reducible refine K_seqR ?_ | with_reducible refine K_block ?_ | with_reducible refine K_blockR ?_ | with_reducible refine K_blockE ?_ | ((with_reducible apply K_blockN); decide) | ((with_reducible apply O_idxr hm); (iterate 2 (simp only [push_cast, seval]; rfl)); (intro _; rfl); intro e hm) | ((with_reducible apply O_idxVr hm); (iterate 3 (simp only [push_cast, seval]; rfl)); intro e hm) | ((with_reducible apply O_r); (simp only [push_cast, seval]; rfl); (first | exact trivial | omega)) | ((with_reducible apply O_ldV1r hm); (iterate 2 (simp only [push_cast, seval]; rfl)); (intro _; rfl); intro e hm) | ((with_reducible apply O_strr hm); (iterate 2 (simp only [push_cast, seval]; rfl)); intro hm) | ((with_reducible apply W_condT); (focus (simp only [push_cast, seval]; done))) | ((with_reducible apply W_condF); (focus (simp only [push_cast, seval]; done))) | ((with_reducible apply S_condB hm); (simp only [push_cast, seval]; rfl); intro hm; rotate_left; intro hm) | ((with_reducible apply K_endS hm); (focus (simp only [resOf, resL, RV.get, push_cast, seval]; rfl)); (focus ((repeat' (first | rfl | (with_reducible first | apply f_optN | apply f_optS | apply f_some | apply f_tup | apply f_agg | apply f_ptr | apply f_fn | apply dv_slice | apply sv_d | apply f_cons | apply fold_nil | apply fold_cons | apply fold_app | apply f_rowI | apply f_rowY | apply f_rowS | apply f_rowB | apply f_rowL) | (with_reducible apply f_byte; decide))); done))) | ((with_reducible apply K_leave hm); intro r hm) | ((with_reducible apply K_leaveR hm); intro r hm) | ((apply S_loopY (b := 0) (X := sc_slices_Equal_string_string_B1) (x := sc_slices_Equal_string_string_L1) rfl (fun (c : SV × SV × SV) (s : Int) => st [(0, c.1), (1, c.2.1), (12, c.2.2), (13, .d (.int .i64 s))] []) (c := (_, _, _)) (s0 := _) hm); (focus (first | (dsimp only; done) | (dsimp only; rfl) | rfl)); (with_reducible refine Then.mk ?_ ?_)) | ((apply K_next (s' := _) hm); (focus (first | (dsimp only; done) | (dsimp only; rfl) | rfl))) | ((apply K_brk (s' := _) hm); (focus (first | (dsimp only; done) | (dsimp only; rfl) | rfl))) | (((with_reducible apply K_brkN hm); (focus decide); intro r hm)) | (((with_reducible apply K_brkR hm); intro r hm)) | (((with_reducible apply LoopB.of); (focus (first | (dsimp only; done) | (dsimp only; rfl) | rfl)); (focus ((intro _; repeat' (first | with_reducible exact impC_end | with_reducible exact impC_endF | with_reducible refine impC_seq ?_ | with_reducible refine impC_block ?_ | ((with_reducible refine impC_rnd ?_); intro _) | ((with_reducible refine impC_brk ?_); intro _))))); (intro s o hm; first | unfold sc_slices_Equal_string_string_L1); rotate_left; intro s hm)) | (((apply imp_stT; (repeat' (first | with_reducible exact keepT_nil | with_reducible exact keepC_nil | with_reducible apply keepT_cons | with_reducible apply keepC_cons | ((with_reducible apply svle_eq); (focus (first | (simp only [push_cast, seval]; rfl) | rfl)); (focus ((repeat' (first | rfl | (with_reducible first | apply f_optN | apply f_optS | apply f_some | apply f_tup | apply f_agg | apply f_ptr | apply f_fn | apply dv_slice | apply sv_d | apply f_cons | apply fold_nil | apply fold_cons | apply fold_app | apply f_rowI | apply f_rowY | apply f_rowS | apply f_rowB | apply f_rowL) | (with_reducible apply f_byte; decide))); done))) | ((with_reducible apply svle_td); (focus (first | (simp only [push_cast, seval]; rfl) | rfl)); (focus (first | (simp only [push_cast, seval]; rfl) | rfl)); (focus ((repeat' (first | rfl | (with_reducible first | apply f_optN | apply f_optS | apply f_some | apply f_tup | apply f_agg | apply f_ptr | apply f_fn | apply dv_slice | apply sv_d | apply f_cons | apply fold_nil | apply fold_cons | apply fold_app | apply f_rowI | apply f_rowY | apply f_rowS | apply f_rowB | apply f_rowL) | (with_reducible apply f_byte; decide))); done))) | ((with_reducible apply chle_eq); (focus (first | (simp only [push_cast, seval]; rfl) | rfl)); (first | with_reducible exact chle_rfl rfl | with_reducible exact chle_map0 | with_reducible apply chle_vec | with_reducible apply chle_box)) | (with_reducible first | apply r_shS | apply r_shI | apply r_rflO | apply r_oneO | apply r_appO | apply r_nilO | apply c_ownN | apply c_ownL | apply vc_rfl | apply vc_nil | apply vc_cons | apply r_rfl | apply r_rows | apply r_nil | apply r_app | apply r_cons | apply c_rowI | apply c_rowY | apply c_rowS | apply c_rowB | apply c_rowL))); done))))
noncomputable def m_slices_Equal_string_string (x0 : List (List UInt8)) (x1 : List (List UInt8)) : Option (Bool) := (sims_G7_0_9 x0 x1).1
theorem spec_slices_Equal_string_string (x0 : List (List UInt8)) (x1 : List (List UInt8)) : ∀ r, m_slices_Equal_string_string x0 x1 = some r → PureSpec Tryz.prog 9 [.slice (List.map rowS x0), .slice (List.map rowS x1)] (.bool r) := (sims_G7_0_9 x0 x1).2

def sc_interchangeref3_NamesOf_L1 : SC :=
  (.seq (.seq (.reg [.r 13 (.mv (.t 5)),
     .r 14 (.mv (.t 4)),
     .r 15 (.len (.t 14)),
     .r 16 (.bin .lss (.t 13) (.t 15))])
  (.cond (.t 16)
    .skip
    (.exit 0)))
  (.seq (.block 1 (.seq (.reg [.r 19 (.mv (.t 4)),
       .r 20 (.mv (.t 5)),
       .r 21 (.idx 1 (.t 19) (.t 20)),
       .o 22 (.ld1 (.t 21)),
       .c 23 (.f 48) [.t 22],
       .r 24 (.not (.t 23))])
    (.cond (.t 24)
      (.seq (.reg [.r 2 (.mv (.c (.nils))),
         .r 3 (.mv (.c (.d (.int .i64 10))))])
      .ret)
      .skip)))
  (.reg [.r 17 (.mv (.t 5)),
     .r 18 (.bin .add (.t 17) (.c (.d (.int .i64 1)))),
     .r 5 (.mv (.t 18))])))
def sc_interchangeref3_NamesOf_B1 : SC := .block 0 (.loop sc_interchangeref3_NamesOf_L1)
/-- interchange/interchangeref3.NamesOf -/
def sc_interchangeref3_NamesOf : SC :=
  (.seq (.reg [.r 2 (.mv (.c (.nils))),
     .r 3 (.mv (.c (.d (.int .i64 0))))])
  (.seq (.seq (.reg [.r 6 (.mv (.t 0)),
     .r 7 (.lenT (.t 6)),
     .r 8 (.bin .gtr (.t 7) (.c (.d (.int .i64 200))))])
  (.cond (.t 8)
    (.seq (.reg [.r 2 (.mv (.c (.nils))),
       .r 3 (.mv (.c (.d (.int .i64 2))))])
    .ret)
    .skip))
  (.seq (.seq (.reg [.r 9 (.mv (.t 0)),
     .r 10 (.bin .eql (.t 9) (.c (.d (.str []))))])
  (.cond (.t 10)
    (.seq (.reg [.r 2 (.mv (.c (.nils))),
       .r 3 (.mv (.c (.d (.int .i64 0))))])
    .ret)
    .skip))
  (.seq (.reg [.r 11 (.mv (.t 0)),
     .c 12 (.f 41) [.t 11, .c (.d (.str [47]))],
     .r 4 (.mv (.t 12))])
  (.seq (.seq (.reg [.r 5 (.mv (.c (.d (.int .i64 0))))])
  sc_interchangeref3_NamesOf_B1)
  (.seq (.reg [.r 25 (.mv (.t 4)),
     .r 2 (.mv (.t 25)),
     .r 3 (.mv (.c (.d (.int .i64 0))))])
  .ret))))))
theorem fit_interchangeref3_NamesOf : fits Tryz.prog 27 Tryz.f27 sc_interchangeref3_NamesOf [.t 2, .t 3] 1 = true := by kernel_rfl

set_option maxRecDepth 100000 in
set_option maxHeartbeats 40000000 in
noncomputable def sims_G7_0_10 : (∀ (x0 : List UInt8), {m : Option ((List (List UInt8)) × Int) // ∀ r, m = some r → PureSpec Tryz.prog 27 [.str x0] (.tup [.slice (List.map rowS r.1), .int .i64 r.2])}) := by
  (intro x0; apply Subtype.mk; intro r hm; apply pure_walk Tryz.func27 fit_interchangeref3_NamesOf; unfold sc_interchangeref3_NamesOf)
  repeat' (first | with_reducible refine W_seq ?_ | with_reducible refine W_reg ?_ | with_reducible refine W_block ?_ | with_reducible refine W_skip ?_ | with_reducible refine W_ret ?_ | with_reducible refine W_exit ?_ | with_reducible refine O_nil ?_ | with_reducible refine K_seq ?_ | with_reducible refine K_seqE ?_ | with_reducible refine K_seqR ?_ | with_reducible refine K_block ?_ | with_reducible refine K_blockR ?_ | with_reducible refine K_blockE ?_ | ((with_reducible apply K_blockN); decide) | with_reducible refine O_o2r ?_ | ((with_reducible apply O_idxr hm); (iterate 2 (simp only [push_cast, seval]; rfl)); (intro _; rfl); intro e hm) | ((with_reducible apply O_idxVr hm); (iterate 3 (simp only [push_cast, seval]; rfl)); intro e hm) | ((with_reducible apply O_r); (simp only [push_cast, seval]; rfl); (first | exact trivial | omega)) | ((with_reducible apply O_ldV1r hm); (iterate 2 (simp only [push_cast, seval]; rfl)); (intro _; rfl); intro e hm) | ((with_reducible apply O_strr hm); (iterate 2 (simp only [push_cast, seval]; rfl)); intro hm) | ((with_reducible apply W_condT); (focus (simp only [push_cast, seval]; done))) | ((with_reducible apply W_condF); (focus (simp only [push_cast, seval]; done))) | ((with_reducible apply O_cF hm); (simp only [push_cast, seval]; rfl); (first | apply spec_strings_Split _ _ | apply spec_interchangeref2_IsName _); (any_goals ((repeat' (first | rfl | (with_reducible first | apply f_optN | apply f_optS | apply f_some | apply f_tup | apply f_agg | apply f_ptr | apply f_fn | apply dv_slice | apply sv_d | apply f_cons | apply fold_nil | apply fold_cons | apply fold_app | apply f_rowI | apply f_rowY | apply f_rowS | apply f_rowB | apply f_rowL) | (with_reducible apply f_byte; decide))); done)); intro x hm) | ((with_reducible apply S_condB hm); (simp only [push_cast, seval]; rfl); intro hm; rotate_left; intro hm) | ((with_reducible apply K_end2 hm); (focus (simp only [resOf, resL, RV.get, push_cast, seval]; rfl)); (focus (first | (dsimp only; done) | (dsimp only; rfl) | rfl)); (focus ((repeat' (first | rfl | (with_reducible first | apply f_optN | apply f_optS | apply f_some | apply f_tup | apply f_agg | apply f_ptr | apply f_fn | apply dv_slice | apply sv_d | apply f_cons | apply fold_nil | apply fold_cons | apply fold_app | apply f_rowI | apply f_rowY | apply f_rowS | apply f_rowB | apply f_rowL) | (with_reducible apply f_byte; decide))); done))) | ((with_reducible apply K_leave hm); intro r hm) | ((with_reducible apply K_leaveR hm); intro r hm) | ((apply S_loopY (b := 0) (X := sc_interchangeref3_NamesOf_B1) (x := sc_interchangeref3_NamesOf_L1) rfl (fun (c : SV) (s : Int) => st [(4, c), (5, .d (.int .i64 s))] []) (c := _) (s0 := _) hm); (focus (first | (dsimp only; done) | (dsimp only; rfl) | rfl)); (with_reducible refine Then.mk ?_ ?_)) | ((apply K_next (s' := _) hm); (focus (first | (dsimp only; done) | (dsimp only; rfl) | rfl))) | ((apply K_brk (s' := _) hm); (focus (first | (dsimp only; done) | (dsimp only; rfl) | rfl))) | (((with_reducible apply K_brkN hm); (focus decide); intro r hm)) | (((with_reducible apply K_brkR hm); intro r hm)) | (((with_reducible apply LoopB.of); (focus (first | (dsimp only; done) | (dsimp only; rfl) | rfl)); (focus ((intro _; repeat' (first | with_reducible exact impC_end | with_reducible exact impC_endF | with_reducible refine impC_seq ?_ | with_reducible refine impC_block ?_ | ((with_reducible refine impC_rnd ?_); intro _) | ((with_reducible refine impC_brk ?_); intro _))))); (intro s o hm; first | unfold sc_interchangeref3_NamesOf_L1); rotate_left; intro s hm)) | (((apply imp_stT; (repeat' (first | with_reducible exact keepT_nil | with_reducible exact keepC_nil | with_reducible apply keepT_cons | with_reducible apply keepC_cons | ((with_reducible apply svle_eq); (focus (first | (simp only [push_cast, seval]; rfl) | rfl)); (focus ((repeat' (first | rfl | (with_reducible first | apply f_optN | apply f_optS | apply f_some | apply f_tup | apply f_agg | apply f_ptr | apply f_fn | apply dv_slice | apply sv_d | apply f_cons | apply fold_nil | apply fold_cons | apply fold_app | apply f_rowI | apply f_rowY | apply f_rowS | apply f_rowB | apply f_rowL) | (with_reducible apply f_byte; decide))); done))) | ((with_reducible apply svle_td); (focus (first | (simp only [push_cast, seval]; rfl) | rfl)); (focus (first | (simp only [push_cast, seval]; rfl) | rfl)); (focus ((repeat' (first | rfl | (with_reducible first | apply f_optN | apply f_optS | apply f_some | apply f_tup | apply f_agg | apply f_ptr | apply f_fn | apply dv_slice | apply sv_d | apply f_cons | apply fold_nil | apply fold_cons | apply fold_app | apply f_rowI | apply f_rowY | apply f_rowS | apply f_rowB | apply f_rowL) | (with_reducible apply f_byte; decide))); done))) | ((with_reducible apply chle_eq); (focus (first | (simp only [push_cast, seval]; rfl) | rfl)); (first | with_reducible exact chle_rfl rfl | with_reducible exact chle_map0 | with_reducible apply chle_vec | with_reducible apply chle_box)) | (with_reducible first | apply r_shS | apply r_shI | apply r_rflO | apply r_oneO | apply r_appO | apply r_nilO | apply c_ownN | apply c_ownL | apply vc_rfl | apply vc_nil | apply vc_cons | apply r_rfl | apply r_rows | apply r_nil | apply r_app | apply r_cons | apply c_rowI | apply c_rowY | apply c_rowS | apply c_rowB | apply c_rowL))); done))))
noncomputable def m_interchangeref3_NamesOf (x0 : List UInt8) : Option ((List (List UInt8)) × Int) := (sims_G7_0_10 x0).1
theorem spec_interchangeref3_NamesOf (x0 : List UInt8) : ∀ r, m_interchangeref3_NamesOf x0 = some r → PureSpec Tryz.prog 27 [.str x0] (.tup [.slice (List.map rowS r.1), .int .i64 r.2]) := (sims_G7_0_10 x0).2

def sc_interchangeref3_TextsOf_L1 : SC :=
  (.seq (.seq (.reg [.r 33 (.mv (.t 8)),
     .r 34 (.mv (.t 6)),
     .r 35 (.len (.t 34)),
     .r 36 (.bin .lss (.t 33) (.t 35))])
  (.cond (.t 36)
    .skip
    (.exit 0)))
  (.seq (.block 1 (.seq (.reg (.r 39 (.mv (.t 7)) :: .r 40 (.mv (.t 6)) :: .r 41 (.mv (.t 8)) :: .r 42 (.idx 1 (.t 40) (.t 41)) :: .o 43 (.ld1 (.t 42)) :: .r 44 (.len (.t 43)) :: .r 45 (.bin .leq (.t 39) (.t 44)) :: .r 46 (.mv (.t 45)) :: gapp [47, 48, 49, 50, 51, 52, 53, 54, 55] 46 true (.r 47 (.mv (.t 6)) :: .r 48 (.mv (.t 8)) :: .r 49 (.idx 1 (.t 47) (.t 48)) :: .r 50 (.ld1 (.t 49)) :: .r 51 (.mv (.t 7)) :: .r 52 (.bin .sub (.t 51) (.c (.d (.int .i64 1)))) :: .r 53 (.idx 1 (.t 50) (.t 52)) :: .r 54 (.ld1 (.t 53)) :: .r 55 (.bin .neq (.t 54) (.c (.d (.str [])))) :: []) (.r 56 (.pick (.t 46) (.t 55) (.c (.d (.bool false)))) :: [])))
    (.cond (.t 56)
      (.reg [.r 57 (.mv (.t 5)),
         .r 58 (.mv (.t 6)),
         .r 59 (.mv (.t 8)),
         .r 60 (.idx 1 (.t 58) (.t 59)),
         .o 61 (.ld1 (.t 60)),
         .r 62 (.mv (.t 7)),
         .r 63 (.bin .sub (.t 62) (.c (.d (.int .i64 1)))),
         .r 64 (.idx 1 (.t 61) (.t 63)),
         .o 65 (.ld1 (.t 64)),
         .r 66 (.bslice 1 [.t 65]),
         .w 67 (.app 9 1 (.t 57) (.t 66)),
         .r 5 (.mv (.t 67))])
      .skip)))
  (.reg [.r 37 (.mv (.t 8)),
     .r 38 (.bin .add (.t 37) (.c (.d (.int .i64 1)))),
     .r 8 (.mv (.t 38))])))
def sc_interchangeref3_TextsOf_B1 : SC := .block 0 (.loop sc_interchangeref3_TextsOf_L1)
/-- interchange/interchangeref3.TextsOf -/
def sc_interchangeref3_TextsOf : SC :=
  (.seq (.reg [.r 2 (.boxI (.t 0)),
     .w 3 (.boxM (.t 1)),
     .r 4 (.mv (.c (.nils)))])
  (.seq (.seq (.reg [.r 9 (.fld 2 (.t 3)),
     .o 10 (.ld1 (.t 9)),
     .r 11 (.bin .eql (.t 10) (.c (.d (.int .i64 0))))])
  (.cond (.t 11)
    (.seq (.reg [.r 12 (.fld 0 (.t 2)),
       .o 13 (.ld1 (.t 12)),
       .r 14 (.bslice 1 [.t 13]),
       .r 4 (.mv (.t 14))])
    .ret)
    .skip))
  (.seq (.reg [.r 5 (.mv (.c (.nils)))])
  (.seq (.seq (.reg [.r 15 (.fld 2 (.t 3)),
     .o 16 (.ld1 (.t 15)),
     .r 17 (.fld 1 (.t 2)),
     .o 18 (.ld1 (.t 17)),
     .r 19 (.len (.t 18)),
     .r 20 (.bin .gtr (.t 16) (.t 19))])
  (.cond (.t 20)
    (.seq (.reg [.r 21 (.mv (.t 5)),
       .r 4 (.mv (.t 21))])
    .ret)
    .skip))
  (.seq (.reg [.r 22 (.fld 1 (.t 2)),
     .o 23 (.ld1 (.t 22)),
     .r 24 (.fld 2 (.t 3)),
     .o 25 (.ld1 (.t 24)),
     .r 26 (.bin .sub (.t 25) (.c (.d (.int .i64 1)))),
     .r 27 (.idx 1 (.t 23) (.t 26)),
     .r 28 (.fld 0 (.t 27)),
     .o 29 (.ld1 (.t 28)),
     .r 6 (.mv (.t 29))])
  (.seq (.reg [.r 30 (.fld 3 (.t 3)),
     .o 31 (.ld1 (.t 30)),
     .r 32 (.maxs (.t 31) [.c (.d (.int .i64 1))]),
     .r 7 (.mv (.t 32))])
  (.seq (.seq (.reg [.r 8 (.mv (.c (.d (.int .i64 0))))])
  sc_interchangeref3_TextsOf_B1)
  (.seq (.reg [.r 68 (.mv (.t 5)),
     .r 4 (.mv (.t 68))])
  .ret))))))))
theorem fit_interchangeref3_TextsOf : fits Tryz.prog 51 Tryz.f51 sc_interchangeref3_TextsOf [.t 4] 2 = true := by kernel_rfl

set_option maxRecDepth 100000 in
set_option maxHeartbeats 40000000 in
noncomputable def sims_G7_0_11 : (∀ (x0 : Tapi_Segment) (x1 : Tinterchangeref3_Path), {m : Option ((List (List UInt8))) // ∀ r, m = some r → PureSpec Tryz.prog 51 [.agg (rTapi_Segment x0), .agg (rTinterchangeref3_Path x1)] (.slice (List.map rowS r))}) := by
  (intro x0 x1; apply Subtype.mk; intro r hm; apply pure_walk Tryz.func51 fit_interchangeref3_TextsOf; unfold sc_interchangeref3_TextsOf)
  repeat' (first | ((with_reducible apply W_openBs (id := 3) (cid := 1096) (off := 0) (n := 1) (e := 9)); (focus (simp only [push_cast, seval]; (try rfl); done)); (focus (simp only [push_cast, seval]; (try rfl); done)); (focus decide); (focus rfl); (focus (intro _; rfl)); (focus (simp only [push_cast, seval]; (try rfl); done))) | ((with_reducible apply W_nilB (id := 3) (cid := 1096) (off := 0) (n := 1) (e := 9)); (focus (simp only [push_cast, seval]; (try rfl); done)); (focus (simp only [push_cast, seval]; (try rfl); done)); (focus decide); (focus (simp only [push_cast, seval]; (try rfl); done))) | with_reducible refine W_seq ?_ | with_reducible refine W_reg ?_ | with_reducible refine W_block ?_ | with_reducible refine W_skip ?_ | with_reducible refine W_ret ?_ | with_reducible refine W_exit ?_ | with_reducible refine O_nil ?_ | with_reducible refine K_seq ?_ | with_reducible refine K_seqE ?_ | with_reducible refine K_seqR ?_ | with_reducible refine K_block ?_ | with_reducible refine K_blockR ?_ | with_reducible refine K_blockE ?_ | ((with_reducible apply K_blockN); decide) | with_reducible refine O_o2r ?_ | ((with_reducible apply O_idxr hm); (iterate 2 (simp only [push_cast, seval]; rfl)); (intro _; rfl); intro e hm) | ((with_reducible apply O_idxVr hm); (iterate 3 (simp only [push_cast, seval]; rfl)); intro e hm) | ((with_reducible apply O_idxLr hm (row := rowS)); (iterate 2 (simp only [push_cast, seval]; rfl)); (focus ((repeat' (first | rfl | (with_reducible first | apply fT_Tapi_Element | apply fT_Tapi_Segment | apply fT_Tinterchangeref3_Path | apply f_optN | apply f_optS | apply f_some | apply f_tup | apply f_agg | apply f_ptr | apply f_fn | apply dv_slice | apply sv_d | apply f_cons | apply fold_nil | apply fold_cons | apply fold_app | apply f_rowI | apply f_rowY | apply f_rowS | apply f_rowB | apply f_rowL) | (with_reducible apply f_byte; decide))); done)); (simp only [push_cast, seval]; rfl); (intro _; rfl); intro e hm) | ((with_reducible apply O_r); (simp only [push_cast, seval]; rfl); (first | exact trivial | omega)) | ((with_reducible apply O_ldV1r hm); (iterate 2 (simp only [push_cast, seval]; rfl)); (intro _; rfl); intro e hm) | ((with_reducible apply O_strr hm); (iterate 2 (simp only [push_cast, seval]; rfl)); intro hm) | ((with_reducible apply O_and hm); (simp only [push_cast, seval]; rfl); rfl; intro v hm; rotate_left; intro v g hm) | ((with_reducible apply W_condT); (focus (simp only [push_cast, seval]; done))) | ((with_reducible apply W_condF); (focus (simp only [push_cast, seval]; done))) | ((with_reducible apply O_w); (simp only [push_cast, seval]; rfl); (first | exact trivial | omega)) | ((with_reducible apply O_appL hm (row := rowS)); (iterate 5 (simp only [push_cast, seval]; rfl)); (focus ((repeat' (first | rfl | (with_reducible first | apply fT_Tapi_Element | apply fT_Tapi_Segment | apply fT_Tinterchangeref3_Path | apply f_optN | apply f_optS | apply f_some | apply f_tup | apply f_agg | apply f_ptr | apply f_fn | apply dv_slice | apply sv_d | apply f_cons | apply fold_nil | apply fold_cons | apply fold_app | apply f_rowI | apply f_rowY | apply f_rowS | apply f_rowB | apply f_rowL) | (with_reducible apply f_byte; decide))); done)); (focus ((repeat' (first | rfl | (with_reducible first | apply fT_Tapi_Element | apply fT_Tapi_Segment | apply fT_Tinterchangeref3_Path | apply f_optN | apply f_optS | apply f_some | apply f_tup | apply f_agg | apply f_ptr | apply f_fn | apply dv_slice | apply sv_d | apply f_cons | apply fold_nil | apply fold_cons | apply fold_app | apply f_rowI | apply f_rowY | apply f_rowS | apply f_rowB | apply f_rowL) | (with_reducible apply f_byte; decide))); done)); rfl; decide; (intro _; rfl); intro hm) | ((with_reducible apply O_appV hm); (iterate 4 (simp only [push_cast, seval]; rfl)); (focus ((repeat' (first | rfl | (with_reducible first | apply fT_Tapi_Element | apply fT_Tapi_Segment | apply fT_Tinterchangeref3_Path | apply f_optN | apply f_optS | apply f_some | apply f_tup | apply f_agg | apply f_ptr | apply f_fn | apply dv_slice | apply sv_d | apply f_cons | apply fold_nil | apply fold_cons | apply fold_app | apply f_rowI | apply f_rowY | apply f_rowS | apply f_rowB | apply f_rowL) | (with_reducible apply f_byte; decide))); done)); decide; (intro _; rfl); intro hm) | ((with_reducible apply O_appN hm); (focus (simp only [push_cast, seval]; done)); (iterate 2 (simp only [push_cast, seval]; rfl)); (focus ((repeat' (first | rfl | (with_reducible first | apply fT_Tapi_Element | apply fT_Tapi_Segment | apply fT_Tinterchangeref3_Path | apply f_optN | apply f_optS | apply f_some | apply f_tup | apply f_agg | apply f_ptr | apply f_fn | apply dv_slice | apply sv_d | apply f_cons | apply fold_nil | apply fold_cons | apply fold_app | apply f_rowI | apply f_rowY | apply f_rowS | apply f_rowB | apply f_rowL) | (with_reducible apply f_byte; decide))); done)); decide; (intro _; rfl); intro hm) | ((with_reducible apply S_condB hm); (simp only [push_cast, seval]; rfl); intro hm; rotate_left; intro hm) | ((with_reducible apply K_endS hm); (focus (simp only [resOf, resL, RV.get, push_cast, seval]; rfl)); (focus ((repeat' (first | rfl | (with_reducible first | apply fT_Tapi_Element | apply fT_Tapi_Segment | apply fT_Tinterchangeref3_Path | apply f_optN | apply f_optS | apply f_some | apply f_tup | apply f_agg | apply f_ptr | apply f_fn | apply dv_slice | apply sv_d | apply f_cons | apply fold_nil | apply fold_cons | apply fold_app | apply f_rowI | apply f_rowY | apply f_rowS | apply f_rowB | apply f_rowL) | (with_reducible apply f_byte; decide))); done))) | ((with_reducible apply K_bool hm); (simp only [push_cast, seval]; rfl)) | ((with_reducible apply K_leave hm); intro r hm) | ((with_reducible apply K_leaveR hm); intro r hm) | ((apply S_loopY (b := 0) (X := sc_interchangeref3_TextsOf_B1) (x := sc_interchangeref3_TextsOf_L1) rfl (fun (c : SV × SV) (s : (List (List UInt8)) × Int) => st [(5, .vec 5), (6, c.1), (7, c.2), (8, .d (.int .i64 s.2))] [(5, .vec 9 1 (vrow rowS s.1))]) (c := (_, _)) (s0 := (_, _)) hm); (focus (first | (dsimp only; done) | (dsimp only; rfl) | rfl)); (with_reducible refine Then.mk ?_ ?_); apply Imp.trans; (focus (apply imp_vecnil (slot := 5) (id := 5) (e := 9) (sz := 1); (focus (simp only [push_cast, seval]; done))))) | ((apply K_next (s' := (_, _)) hm); (focus (first | (dsimp only; done) | (dsimp only; rfl) | rfl))) | ((apply K_brk (s' := (_, _)) hm); (focus (first | (dsimp only; done) | (dsimp only; rfl) | rfl))) | (((with_reducible apply K_brkN hm); (focus decide); intro r hm)) | (((with_reducible apply K_brkR hm); intro r hm)) | (((with_reducible apply LoopB.of); (focus (first | (dsimp only; done) | (dsimp only; rfl) | rfl)); (focus ((intro _; repeat' (first | with_reducible exact impC_end | with_reducible exact impC_endF | with_reducible refine impC_seq ?_ | with_reducible refine impC_block ?_ | ((with_reducible refine impC_rnd ?_); intro _) | ((with_reducible refine impC_brk ?_); intro _))))); (intro s o hm; first | unfold sc_interchangeref3_TextsOf_L1); rotate_left; intro s hm)) | (((with_reducible apply Imp.trans); (focus ((apply imp_openBs (id := 3) (cid := 1096) (off := 0) (n := 1) (e := 9)); (focus (simp only [push_cast, seval]; (try rfl); done)); (focus (simp only [push_cast, seval]; (try rfl); done)); (focus decide); (focus rfl); (focus (intro _; rfl)); (focus (simp only [push_cast, seval]; (try rfl); done)))))) | (((with_reducible apply Imp.trans); (focus ((apply imp_nilB (id := 3) (cid := 1096) (off := 0) (n := 1) (e := 9)); (focus (simp only [push_cast, seval]; (try rfl); done)); (focus (simp only [push_cast, seval]; (try rfl); done)); (focus decide); (focus (simp only [push_cast, seval]; (try rfl); done)))))) | (((apply imp_stT; (repeat' (first | with_reducible exact keepT_nil | with_reducible exact keepC_nil | with_reducible apply keepT_cons | with_reducible apply keepC_cons | ((with_reducible apply svle_eq); (focus (first | (simp only [push_cast, seval]; rfl) | rfl)); (focus ((repeat' (first | rfl | (with_reducible first | apply fT_Tapi_Element | apply fT_Tapi_Segment | apply fT_Tinterchangeref3_Path | apply f_optN | apply f_optS | apply f_some | apply f_tup | apply f_agg | apply f_ptr | apply f_fn | apply dv_slice | apply sv_d | apply f_cons | apply fold_nil | apply fold_cons | apply fold_app | apply f_rowI | apply f_rowY | apply f_rowS | apply f_rowB | apply f_rowL) | (with_reducible apply f_byte; decide))); done))) | ((with_reducible apply svle_td); (focus (first | (simp only [push_cast, seval]; rfl) | rfl)); (focus (first | (simp only [push_cast, seval]; rfl) | rfl)); (focus ((repeat' (first | rfl | (with_reducible first | apply fT_Tapi_Element | apply fT_Tapi_Segment | apply fT_Tinterchangeref3_Path | apply f_optN | apply f_optS | apply f_some | apply f_tup | apply f_agg | apply f_ptr | apply f_fn | apply dv_slice | apply sv_d | apply f_cons | apply fold_nil | apply fold_cons | apply fold_app | apply f_rowI | apply f_rowY | apply f_rowS | apply f_rowB | apply f_rowL) | (with_reducible apply f_byte; decide))); done))) | ((with_reducible apply chle_eq); (focus (first | (simp only [push_cast, seval]; rfl) | rfl)); (first | with_reducible exact chle_rfl rfl | with_reducible exact chle_map0 | with_reducible apply chle_vec | with_reducible apply chle_box)) | (with_reducible first | apply cT_Tapi_Element | apply cT_Tapi_Segment | apply cT_Tinterchangeref3_Path | apply bcT_Tinterchangeref3_Path | apply r_shS | apply r_shI | apply r_rflO | apply r_oneO | apply r_appO | apply r_nilO | apply c_ownN | apply c_ownL | apply vc_rfl | apply vc_nil | apply vc_cons | apply r_rfl | apply r_rows | apply r_nil | apply r_app | apply r_cons | apply c_rowI | apply c_rowY | apply c_rowS | apply c_rowB | apply c_rowL))); done))))
noncomputable def m_interchangeref3_TextsOf (x0 : Tapi_Segment) (x1 : Tinterchangeref3_Path) : Option ((List (List UInt8))) := (sims_G7_0_11 x0 x1).1
theorem spec_interchangeref3_TextsOf (x0 : Tapi_Segment) (x1 : Tinterchangeref3_Path) : ∀ r, m_interchangeref3_TextsOf x0 x1 = some r → PureSpec Tryz.prog 51 [.agg (rTapi_Segment x0), .agg (rTinterchangeref3_Path x1)] (.slice (List.map rowS r)) := (sims_G7_0_11 x0 x1).2

def sc_scheme_CloneTree_L1 : SC :=
  (.seq (.reg [.r 10 (.bin .lss (.t 9) (.t 8))])
  (.seq (.cond (.t 10)
    .skip
    (.exit 0))
  (.seq (.block 1 (.seq (.reg [.r 11 (.mv (.t 9)),
       .r 12 (.idx 4 (.t 7) (.t 9)),
       .o 13 (.ldA 4 (.t 12)),
       .w 4 (.boxM (.c (.agg [.d (.str []), .d (.str []), .nils, .nils]))),
       .r 3 (.mv (.t 11)),
       .w 0 (.st 4 (.t 4) (.t 13))])
    (.regE [.r 14 (.mv (.t 0)),
       .r 15 (.mv (.t 3)),
       .r 16 (.mv (.t 0)),
       .r 17 (.mv (.t 3)),
       .r 18 (.fld 1 (.t 4)),
       .r 19 (.ldA 2 (.t 18)),
       .c 20 (.f 53) [.t 19],
       .r 21 (.fld 3 (.t 4)),
       .r 22 (.ld1 (.t 21)),
       .c 23 (.f 26) [.t 22],
       .r 24 (.idx 4 (.t 14) (.t 15)),
       .r 25 (.fld 1 (.t 24)),
       .x 0 (.st 2 (.t 25) (.t 20)) [(2, 16, .mv (.t 0)), (3, 17, .mv (.t 3))],
       .r 26 (.idx 4 (.t 16) (.t 17)),
       .r 27 (.fld 3 (.t 26)),
       .x 0 (.st 1 (.t 27) (.t 23)) []])))
  (.reg [.r 28 (.bin .add (.t 9) (.c (.d (.int .i64 1)))),
     .r 9 (.mv (.t 28))]))))
def sc_scheme_CloneTree_B1 : SC := .block 0 (.loop sc_scheme_CloneTree_L1)
/-- interchange/scheme.CloneTree -/
def sc_scheme_CloneTree : SC :=
  (.seq (.reg [.r 2 (.mv (.c (.nils)))])
  (.seq (.reg [.r 5 (.mv (.t 0)),
     .p (some 6) (.f 52) [.t 5],
     .r 0 (.mv (.t 6))])
  (.seq (.seq (.reg [.r 7 (.mv (.t 0)),
     .r 8 (.len (.t 7)),
     .r 9 (.mv (.c (.d (.int .i64 0))))])
  sc_scheme_CloneTree_B1)
  (.seq (.reg [.r 29 (.mv (.t 0)),
     .r 2 (.mv (.t 29))])
  .ret))))
theorem fit_scheme_CloneTree : fits Tryz.prog 26 Tryz.f26 sc_scheme_CloneTree [.t 2] 1 = true := by kernel_rfl

set_option maxRecDepth 100000 in
set_option maxHeartbeats 40000000 in
noncomputable def step_G7_0_12 : ((∀ (x0 : List Tapi_Branch), {m : Option ((List Tapi_Branch)) // ∀ r, m = some r → PureSpec Tryz.prog 26 [.slice (List.map rTapi_Branch x0)] (.slice (List.map rTapi_Branch r))})) → ((∀ (x0 : List Tapi_Branch), {m : Option ((List Tapi_Branch)) // ∀ r, m = some r → PureSpec Tryz.prog 26 [.slice (List.map rTapi_Branch x0)] (.slice (List.map rTapi_Branch r))})) := by
  intro ih
  have spec_scheme_CloneTree : ∀ (x0 : List Tapi_Branch), ∀ r, (ih x0).1 = some r → PureSpec Tryz.prog 26 [.slice (List.map rTapi_Branch x0)] (.slice (List.map rTapi_Branch r)) := fun x0 => (ih x0).2
  (intro x0; apply Subtype.mk; intro r hm; apply pure_walk Tryz.func26 fit_scheme_CloneTree; unfold sc_scheme_CloneTree)
  repeat' (first | with_reducible refine W_seq ?_ | with_reducible refine W_reg ?_ | with_reducible refine W_regE ?_ | with_reducible refine W_block ?_ | with_reducible refine W_skip ?_ | with_reducible refine W_ret ?_ | with_reducible refine W_exit ?_ | with_reducible refine O_nil ?_ | with_reducible refine K_seq ?_ | with_reducible refine K_seqE ?_ | with_reducible refine K_seqR ?_ | with_reducible refine K_block ?_ | with_reducible refine K_blockR ?_ | with_reducible refine K_blockE ?_ | ((with_reducible apply K_blockN); decide) | with_reducible refine O_o2r ?_ | ((with_reducible apply O_idxr hm); (iterate 2 (simp only [push_cast, seval]; rfl)); (intro _; rfl); intro e hm) | ((with_reducible apply O_idxVr hm); (iterate 3 (simp only [push_cast, seval]; rfl)); intro e hm) | ((with_reducible apply O_r); (simp only [push_cast, seval]; rfl); (first | exact trivial | omega)) | ((with_reducible apply O_ldV1r hm); (iterate 2 (simp only [push_cast, seval]; rfl)); (intro _; rfl); intro e hm) | ((with_reducible apply O_ldAVr hm); (iterate 2 (simp only [push_cast, seval]; rfl)); (intro _; rfl); intro e hm) | ((with_reducible apply O_strr hm); (iterate 2 (simp only [push_cast, seval]; rfl)); intro hm) | ((with_reducible apply W_condT); (focus (simp only [push_cast, seval]; done))) | ((with_reducible apply W_condF); (focus (simp only [push_cast, seval]; done))) | ((with_reducible apply O_cF hm); (simp only [push_cast, seval]; rfl); (first | apply spec_slices_Clone_interchange_api_Branch_interchange_api_Branch _ | apply spec_wire_Clone _ | apply spec_scheme_CloneTree _); (any_goals ((repeat' (first | rfl | (with_reducible first | apply fT_Tapi_Branch | apply fT_Tapi_Element | apply fT_Tapi_Segment | apply f_optN | apply f_optS | apply f_some | apply f_tup | apply f_agg | apply f_ptr | apply f_fn | apply dv_slice | apply sv_d | apply f_cons | apply fold_nil | apply fold_cons | apply fold_app | apply f_rowI | apply f_rowY | apply f_rowS | apply f_rowB | apply f_rowL) | (with_reducible apply f_byte; decide))); done)); intro x hm) | ((with_reducible apply O_w); (simp only [push_cast, seval]; rfl); (first | exact trivial | omega)) | ((with_reducible apply O_stVA hm); (iterate 4 (simp only [push_cast, seval]; rfl)); (focus ((repeat' (first | rfl | (with_reducible first | apply fT_Tapi_Branch | apply fT_Tapi_Element | apply fT_Tapi_Segment | apply f_optN | apply f_optS | apply f_some | apply f_tup | apply f_agg | apply f_ptr | apply f_fn | apply dv_slice | apply sv_d | apply f_cons | apply fold_nil | apply fold_cons | apply fold_app | apply f_rowI | apply f_rowY | apply f_rowS | apply f_rowB | apply f_rowL) | (with_reducible apply f_byte; decide))); done)); decide; (intro _; rfl); intro e hm) | ((with_reducible apply O_stV hm); (iterate 3 (simp only [push_cast, seval]; rfl)); rfl; (intro _; rfl); rfl; (focus (intro a; simp only [push_cast, seval]; rfl)); (focus (intro a; (repeat' (first | rfl | with_reducible apply eT_Tapi_Branch | with_reducible apply eT_Tapi_Element | with_reducible apply eT_Tapi_Segment)); done)); intro e hm) | ((with_reducible apply O_stVAX hm); (iterate 3 (simp only [push_cast, seval]; rfl)); (focus ((repeat' (first | rfl | (with_reducible first | apply fT_Tapi_Branch | apply fT_Tapi_Element | apply fT_Tapi_Segment | apply f_optN | apply f_optS | apply f_some | apply f_tup | apply f_agg | apply f_ptr | apply f_fn | apply dv_slice | apply sv_d | apply f_cons | apply fold_nil | apply fold_cons | apply fold_app | apply f_rowI | apply f_rowY | apply f_rowS | apply f_rowB | apply f_rowL) | (with_reducible apply f_byte; decide))); done)); (intro _; rfl); (focus ((repeat' (first | exact Rer_nil | ((with_reducible apply Rer_cons); (focus (simp only [push_cast, seval]; rfl)); (focus (first | exact trivial | omega)); (focus (simp only [push_cast, seval]))))); done)); intro e hm) | ((with_reducible apply O_stVX hm); (iterate 3 (simp only [push_cast, seval]; rfl)); rfl; (intro _; rfl); rfl; (focus (intro a; simp only [push_cast, seval]; rfl)); (focus (intro a; (repeat' (first | rfl | with_reducible apply eT_Tapi_Branch | with_reducible apply eT_Tapi_Element | with_reducible apply eT_Tapi_Segment)); done)); (focus (intro _; (repeat' (first | exact Rer_nil | ((with_reducible apply Rer_cons); (focus (simp only [push_cast, seval]; rfl)); (focus (first | exact trivial | omega)); (focus (simp only [push_cast, seval]))))); done)); intro e hm) | ((with_reducible apply O_x); (simp only [push_cast, seval]; rfl); (first | exact trivial | omega); (focus ((repeat' (first | exact Rer_nil | ((with_reducible apply Rer_cons); (focus (simp only [push_cast, seval]; rfl)); (focus (first | exact trivial | omega)); (focus (simp only [push_cast, seval]))))); done))) | ((with_reducible apply S_condB hm); (simp only [push_cast, seval]; rfl); intro hm; rotate_left; intro hm) | ((with_reducible apply K_endS hm); (focus (simp only [resOf, resL, RV.get, push_cast, seval]; rfl)); (focus ((repeat' (first | rfl | (with_reducible first | apply fT_Tapi_Branch | apply fT_Tapi_Element | apply fT_Tapi_Segment | apply f_optN | apply f_optS | apply f_some | apply f_tup | apply f_agg | apply f_ptr | apply f_fn | apply dv_slice | apply sv_d | apply f_cons | apply fold_nil | apply fold_cons | apply fold_app | apply f_rowI | apply f_rowY | apply f_rowS | apply f_rowB | apply f_rowL) | (with_reducible apply f_byte; decide))); done))) | ((with_reducible apply K_leave hm); intro r hm) | ((with_reducible apply K_leaveR hm); intro r hm) | ((apply S_loopY (b := 0) (X := sc_scheme_CloneTree_B1) (x := sc_scheme_CloneTree_L1) rfl (fun (c : SV) (s : (List Tapi_Branch) × Int) => st [(0, .vec 6), (7, .vec 6), (8, c), (9, .d (.int .i64 s.2))] [(6, .vec 62 4 (vrow rTapi_Branch s.1))]) (c := _) (s0 := (_, _)) hm); (focus (first | (dsimp only; done) | (dsimp only; rfl) | rfl)); (with_reducible refine Then.mk ?_ ?_)) | ((apply K_next (s' := (_, _)) hm); (focus (first | (dsimp only; done) | (dsimp only; rfl) | rfl))) | ((apply K_brk (s' := (_, _)) hm); (focus (first | (dsimp only; done) | (dsimp only; rfl) | rfl))) | (((with_reducible apply K_brkN hm); (focus decide); intro r hm)) | (((with_reducible apply K_brkR hm); intro r hm)) | (((with_reducible apply O_pO hm); (focus (simp only [push_cast, seval]; rfl)); (first | apply spec_slices_Clone_interchange_api_Branch_interchange_api_Branch _); (any_goals (focus ((repeat' (first | rfl | (with_reducible first | apply fT_Tapi_Branch | apply fT_Tapi_Element | apply fT_Tapi_Segment | apply f_optN | apply f_optS | apply f_some | apply f_tup | apply f_agg | apply f_ptr | apply f_fn | apply dv_slice | apply sv_d | apply f_cons | apply fold_nil | apply fold_cons | apply fold_app | apply f_rowI | apply f_rowY | apply f_rowS | apply f_rowB | apply f_rowL) | (with_reducible apply f_byte; decide))); done))); (any_goals (focus (intro _; rfl))); intro y hm)) | (((with_reducible apply LoopB.of); (focus (first | (dsimp only; done) | (dsimp only; rfl) | rfl)); (focus ((intro _; repeat' (first | with_reducible exact impC_end | with_reducible exact impC_endF | with_reducible refine impC_seq ?_ | with_reducible refine impC_block ?_ | ((with_reducible refine impC_rnd ?_); intro _) | ((with_reducible refine impC_brk ?_); intro _))))); (intro s o hm; first | unfold sc_scheme_CloneTree_L1); rotate_left; intro s hm)) | (((apply imp_stT; (repeat' (first | with_reducible exact keepT_nil | with_reducible exact keepC_nil | with_reducible apply keepT_cons | with_reducible apply keepC_cons | ((with_reducible apply svle_eq); (focus (first | (simp only [push_cast, seval]; rfl) | rfl)); (focus ((repeat' (first | rfl | (with_reducible first | apply fT_Tapi_Branch | apply fT_Tapi_Element | apply fT_Tapi_Segment | apply f_optN | apply f_optS | apply f_some | apply f_tup | apply f_agg | apply f_ptr | apply f_fn | apply dv_slice | apply sv_d | apply f_cons | apply fold_nil | apply fold_cons | apply fold_app | apply f_rowI | apply f_rowY | apply f_rowS | apply f_rowB | apply f_rowL) | (with_reducible apply f_byte; decide))); done))) | ((with_reducible apply svle_td); (focus (first | (simp only [push_cast, seval]; rfl) | rfl)); (focus (first | (simp only [push_cast, seval]; rfl) | rfl)); (focus ((repeat' (first | rfl | (with_reducible first | apply fT_Tapi_Branch | apply fT_Tapi_Element | apply fT_Tapi_Segment | apply f_optN | apply f_optS | apply f_some | apply f_tup | apply f_agg | apply f_ptr | apply f_fn | apply dv_slice | apply sv_d | apply f_cons | apply fold_nil | apply fold_cons | apply fold_app | apply f_rowI | apply f_rowY | apply f_rowS | apply f_rowB | apply f_rowL) | (with_reducible apply f_byte; decide))); done))) | ((with_reducible apply chle_eq); (focus (first | (simp only [push_cast, seval]; rfl) | rfl)); (first | with_reducible exact chle_rfl rfl | with_reducible exact chle_map0 | with_reducible apply chle_vec | with_reducible apply chle_box)) | (with_reducible first | apply cT_Tapi_Branch | apply cT_Tapi_Element | apply cT_Tapi_Segment | apply r_shS | apply r_shI | apply r_rflO | apply r_oneO | apply r_appO | apply r_nilO | apply c_ownN | apply c_ownL | apply vc_rfl | apply vc_nil | apply vc_cons | apply r_rfl | apply r_rows | apply r_nil | apply r_app | apply r_cons | apply c_rowI | apply c_rowY | apply c_rowS | apply c_rowB | apply c_rowL))); done))))
noncomputable def sims_G7_0_12 (fu : Nat) : (∀ (x0 : List Tapi_Branch), {m : Option ((List Tapi_Branch)) // ∀ r, m = some r → PureSpec Tryz.prog 26 [.slice (List.map rTapi_Branch x0)] (.slice (List.map rTapi_Branch r))}) := Nat.rec (fun x0 => ⟨none, fun r h => by cases h⟩) (fun _ ih => step_G7_0_12 ih) fu
noncomputable def m_scheme_CloneTree (fu : Nat) (x0 : List Tapi_Branch) : Option ((List Tapi_Branch)) := ((sims_G7_0_12 fu) x0).1
theorem m_scheme_CloneTree_fold (fu : Nat) (x0 : List Tapi_Branch) : ((sims_G7_0_12 fu) x0).1 = m_scheme_CloneTree fu x0 := rfl
theorem m_scheme_CloneTree_succ (fu : Nat) (x0 : List Tapi_Branch) : m_scheme_CloneTree (fu + 1) x0 = ((step_G7_0_12 (sims_G7_0_12 fu)) x0).1 := rfl
theorem spec_scheme_CloneTree (fu : Nat) (x0 : List Tapi_Branch) : ∀ r, m_scheme_CloneTree fu x0 = some r → PureSpec Tryz.prog 26 [.slice (List.map rTapi_Branch x0)] (.slice (List.map rTapi_Branch r)) := ((sims_G7_0_12 fu) x0).2

/-- strings.LastIndexByte -/
def sc_strings_LastIndexByte : SC :=
  (.seq (.reg [.r 4 (.mv (.c (.d (.int .i64 0))))])
  (.seq (.reg [.r 5 (.mv (.t 0)),
     .r 6 (.mv (.t 1)),
     .c 7 (.f 66) [.t 5, .t 6],
     .r 4 (.mv (.t 7))])
  .ret))
theorem fit_strings_LastIndexByte : fits Tryz.prog 39 Tryz.f39 sc_strings_LastIndexByte [.t 4] 2 = true := by kernel_rfl

set_option maxRecDepth 100000 in
set_option maxHeartbeats 40000000 in
noncomputable def sims_G7_1_0 : (∀ (x0 : List UInt8) (x1 : UInt8), {m : Option (Int) // ∀ r, m = some r → PureSpec Tryz.prog 39 [.str x0, .int .u8 (x1).toNat] (.int .i64 r)}) := by
  (intro x0 x1; apply Subtype.mk; intro r hm; apply pure_walk Tryz.func39 fit_strings_LastIndexByte; unfold sc_strings_LastIndexByte)
  repeat' (first | with_reducible refine W_seq ?_ | with_reducible refine W_reg ?_ | with_reducible refine W_block ?_ | with_reducible refine W_skip ?_ | with_reducible refine W_ret ?_ | with_reducible refine W_exit ?_ | with_reducible refine O_nil ?_ | with_reducible refine K_seq ?_ | with_reducible refine K_seqE ?_ | with_reducible refine K_seqR ?_ | with_reducible refine K_block ?_ | with_reducible refine K_blockR ?_ | with_reducible refine K_blockE ?_ | ((with_reducible apply K_blockN); decide) | ((with_reducible apply O_r); (simp only [push_cast, seval]; rfl); (first | exact trivial | omega)) | ((with_reducible apply W_condT); (focus (simp only [push_cast, seval]; done))) | ((with_reducible apply W_condF); (focus (simp only [push_cast, seval]; done))) | ((with_reducible apply O_cF hm); (simp only [push_cast, seval]; rfl); (first | apply spec_internal_bytealg_LastIndexByteString _ _); (any_goals ((repeat' (first | rfl | (with_reducible first | apply f_optN | apply f_optS | apply f_some | apply f_tup | apply f_agg | apply f_ptr | apply f_fn | apply dv_slice | apply sv_d | apply f_cons | apply fold_nil | apply fold_cons | apply fold_app | apply f_rowI | apply f_rowY | apply f_rowS | apply f_rowB | apply f_rowL) | (with_reducible apply f_byte; decide))); done)); intro x hm) | ((with_reducible apply S_condB hm); (simp only [push_cast, seval]; rfl); intro hm; rotate_left; intro hm) | ((with_reducible apply K_endS hm); (focus (simp only [resOf, resL, RV.get, push_cast, seval]; rfl)); (focus ((repeat' (first | rfl | (with_reducible first | apply f_optN | apply f_optS | apply f_some | apply f_tup | apply f_agg | apply f_ptr | apply f_fn | apply dv_slice | apply sv_d | apply f_cons | apply fold_nil | apply fold_cons | apply fold_app | apply f_rowI | apply f_rowY | apply f_rowS | apply f_rowB | apply f_rowL) | (with_reducible apply f_byte; decide))); done))))
noncomputable def m_strings_LastIndexByte (x0 : List UInt8) (x1 : UInt8) : Option (Int) := (sims_G7_1_0 x0 x1).1
theorem spec_strings_LastIndexByte (x0 : List UInt8) (x1 : UInt8) : ∀ r, m_strings_LastIndexByte x0 x1 = some r → PureSpec Tryz.prog 39 [.str x0, .int .u8 (x1).toNat] (.int .i64 r) := (sims_G7_1_0 x0 x1).2

/-- slices.ContainsFunc[[]string,string] -/
def sc_slices_ContainsFunc_string_string : SC :=
  (.seq (.reg [.r 4 (.mv (.c (.d (.bool false))))])
  (.seq (.reg [.r 5 (.mv (.t 0)),
     .r 6 (.mv (.t 1)),
     .c 7 (.f 89) [.t 5, .t 6],
     .r 8 (.bin .geq (.t 7) (.c (.d (.int .i64 0)))),
     .r 4 (.mv (.t 8))])
  .ret))
theorem fit_slices_ContainsFunc_string_string : fits Tryz.prog 60 Tryz.f60 sc_slices_ContainsFunc_string_string [.t 4] 2 = true := by kernel_rfl

set_option maxRecDepth 100000 in
set_option maxHeartbeats 40000000 in
noncomputable def sims_G7_1_1 : (∀ (x0 : List (List UInt8)) (f1 : FuncId) (c1 : List DV) (p1 : (List UInt8) → Option (Bool)) (h1 : ∀ a0 r, p1 a0 = some r → PureSpec Tryz.prog f1 ([.str a0] ++ c1) (.bool r)), {m : Option (Bool) // ∀ r, m = some r → PureSpec Tryz.prog 60 [.slice (List.map rowS x0), .fn f1 c1] (.bool r)}) := by
  (intro x0 f1 c1 p1 h1; apply Subtype.mk; intro r hm; apply pure_walk Tryz.func60 fit_slices_ContainsFunc_string_string; unfold sc_slices_ContainsFunc_string_string)
  repeat' (first | with_reducible refine W_seq ?_ | with_reducible refine W_reg ?_ | with_reducible refine W_block ?_ | with_reducible refine W_skip ?_ | with_reducible refine W_ret ?_ | with_reducible refine W_exit ?_ | with_reducible refine O_nil ?_ | with_reducible refine K_seq ?_ | with_reducible refine K_seqE ?_ | with_reducible refine K_seqR ?_ | with_reducible refine K_block ?_ | with_reducible refine K_blockR ?_ | with_reducible refine K_blockE ?_ | ((with_reducible apply K_blockN); decide) | ((with_reducible apply O_r); (simp only [push_cast, seval]; rfl); (first | exact trivial | omega)) | ((with_reducible apply W_condT); (focus (simp only [push_cast, seval]; done))) | ((with_reducible apply W_condF); (focus (simp only [push_cast, seval]; done))) | ((with_reducible apply O_cF hm); (simp only [push_cast, seval]; rfl); (first | apply spec_slices_IndexFunc_string_string _ _ _ _ h1 | apply h1 _); (any_goals ((repeat' (first | rfl | (with_reducible first | apply f_optN | apply f_optS | apply f_some | apply f_tup | apply f_agg | apply f_ptr | apply f_fn | apply dv_slice | apply sv_d | apply f_cons | apply fold_nil | apply fold_cons | apply fold_app | apply f_rowI | apply f_rowY | apply f_rowS | apply f_rowB | apply f_rowL) | (with_reducible apply f_byte; decide))); done)); intro x hm) | ((with_reducible apply S_condB hm); (simp only [push_cast, seval]; rfl); intro hm; rotate_left; intro hm) | ((with_reducible apply K_endS hm); (focus (simp only [resOf, resL, RV.get, push_cast, seval]; rfl)); (focus ((repeat' (first | rfl | (with_reducible first | apply f_optN | apply f_optS | apply f_some | apply f_tup | apply f_agg | apply f_ptr | apply f_fn | apply dv_slice | apply sv_d | apply f_cons | apply fold_nil | apply fold_cons | apply fold_app | apply f_rowI | apply f_rowY | apply f_rowS | apply f_rowB | apply f_rowL) | (with_reducible apply f_byte; decide))); done))))
noncomputable def m_slices_ContainsFunc_string_string (x0 : List (List UInt8)) (f1 : FuncId) (c1 : List DV) (p1 : (List UInt8) → Option (Bool)) (h1 : ∀ a0 r, p1 a0 = some r → PureSpec Tryz.prog f1 ([.str a0] ++ c1) (.bool r)) : Option (Bool) := (sims_G7_1_1 x0 f1 c1 p1 h1).1
theorem spec_slices_ContainsFunc_string_string (x0 : List (List UInt8)) (f1 : FuncId) (c1 : List DV) (p1 : (List UInt8) → Option (Bool)) (h1 : ∀ a0 r, p1 a0 = some r → PureSpec Tryz.prog f1 ([.str a0] ++ c1) (.bool r)) : ∀ r, m_slices_ContainsFunc_string_string x0 f1 c1 p1 h1 = some r → PureSpec Tryz.prog 60 [.slice (List.map rowS x0), .fn f1 c1] (.bool r) := (sims_G7_1_1 x0 f1 c1 p1 h1).2

/-- interchange/kit.Number -/
def sc_kit_Number : SC :=
  (.seq (.reg [.r 4 (.mv (.c (.d (.int .i64 0)))),
     .r 5 (.mv (.c (.d (.bool false))))])
  (.seq (.seq (.reg (.r 8 (.mv (.t 0)) :: .r 9 (.lenT (.t 8)) :: .r 10 (.mv (.t 1)) :: .r 11 (.bin .gtr (.t 9) (.t 10)) :: .r 12 (.mv (.t 11)) :: gapp [13, 14, 15] 12 false (.r 13 (.mv (.t 0)) :: .c 14 (.f 72) [.t 13] :: .r 15 (.not (.t 14)) :: []) (.r 16 (.pick (.t 12) (.c (.d (.bool true))) (.t 15)) :: .r 17 (.mv (.t 16)) :: gapp [18, 19, 20, 21, 22, 23, 24, 25] 17 false (.r 18 (.mv (.t 0)) :: .r 19 (.lenT (.t 18)) :: .r 20 (.bin .gtr (.t 19) (.c (.d (.int .i64 1)))) :: .r 21 (.mv (.t 20)) :: gapp [22, 23, 24] 21 true (.r 22 (.mv (.t 0)) :: .r 23 (.sidx (.t 22) (.c (.d (.int .i64 0)))) :: .r 24 (.bin .eql (.t 23) (.c (.d (.int .u8 48)))) :: []) (.r 25 (.pick (.t 21) (.t 24) (.c (.d (.bool false)))) :: [])) (.r 26 (.pick (.t 17) (.c (.d (.bool true))) (.t 25)) :: []))))
  (.cond (.t 26)
    (.seq (.reg [.r 4 (.mv (.c (.d (.int .i64 0)))),
       .r 5 (.mv (.c (.d (.bool false))))])
    .ret)
    .skip))
  (.seq (.reg [.r 28 (.mv (.t 0)),
     .c 29 (.f 73) [.t 28],
     .r 27 (.mv (.t 29)),
     .r 30 (.ext (.t 27) 0),
     .r 31 (.ext (.t 27) 1),
     .r 6 (.mv (.t 30)),
     .r 7 (.mv (.t 31))])
  (.seq (.regD [.r 32 (.mv (.t 6)),
     .r 33 (.mv (.t 7)),
     .r 34 (.binI .eql (.t 33) (.c (.d (.raw .nilIface)))),
     .r 4 (.mv (.t 32)),
     .r 5 (.mv (.t 34))])
  .ret))))
theorem fit_kit_Number : fits Tryz.prog 43 Tryz.f43 sc_kit_Number [.t 4, .t 5] 2 = true := by kernel_rfl

set_option maxRecDepth 100000 in
set_option maxHeartbeats 40000000 in
noncomputable def sims_G7_1_2 : (∀ (x0 : List UInt8) (x1 : Int), {m : Option (Int × Bool) // ∀ r, m = some r → PureSpec Tryz.prog 43 [.str x0, .int .i64 x1] (.tup [.int .i64 r.1, .bool r.2])}) := by
  (intro x0 x1; apply Subtype.mk; intro r hm; apply pure_walk Tryz.func43 fit_kit_Number; unfold sc_kit_Number)
  repeat' (first | with_reducible refine W_seq ?_ | with_reducible refine W_reg ?_ | with_reducible refine W_regD ?_ | with_reducible refine W_block ?_ | with_reducible refine W_skip ?_ | with_reducible refine W_ret ?_ | with_reducible refine W_exit ?_ | with_reducible refine O_nil ?_ | with_reducible refine K_seq ?_ | with_reducible refine K_seqE ?_ | with_reducible refine K_seqR ?_ | with_reducible refine K_block ?_ | with_reducible refine K_blockR ?_ | with_reducible refine K_blockE ?_ | ((with_reducible apply K_blockN); decide) | ((with_reducible apply O_sidxr hm); (iterate 2 (simp only [push_cast, seval]; rfl)); intro e hm) | ((with_reducible apply O_r); (simp only [push_cast, seval]; rfl); (first | exact trivial | omega)) | ((with_reducible apply O_and hm); (simp only [push_cast, seval]; rfl); rfl; intro v hm; rotate_left; intro v g hm) | ((with_reducible apply O_or hm); (simp only [push_cast, seval]; rfl); rfl; intro v hm; rotate_left; intro v g hm) | ((with_reducible apply W_condT); (focus (simp only [push_cast, seval]; done))) | ((with_reducible apply W_condF); (focus (simp only [push_cast, seval]; done))) | ((with_reducible apply O_cF hm); (simp only [push_cast, seval]; rfl); (first | apply spec_kit_IsDigits _ | apply spec_strconv_Atoi _); (any_goals ((repeat' (first | rfl | (with_reducible first | apply f_optN | apply f_optS | apply f_some | apply f_tup | apply f_agg | apply f_ptr | apply f_fn | apply dv_slice | apply sv_d | apply f_cons | apply fold_nil | apply fold_cons | apply fold_app | apply f_rowI | apply f_rowY | apply f_rowS | apply f_rowB | apply f_rowL) | (with_reducible apply f_byte; decide))); done)); intro x hm) | ((with_reducible apply S_condB hm); (simp only [push_cast, seval]; rfl); intro hm; rotate_left; intro hm) | ((with_reducible apply K_end2 hm); (focus (simp only [resOf, resL, RV.get, push_cast, seval]; rfl)); (focus (first | (dsimp only; done) | (dsimp only; rfl) | rfl)); (focus ((repeat' (first | rfl | (with_reducible first | apply f_optN | apply f_optS | apply f_some | apply f_tup | apply f_agg | apply f_ptr | apply f_fn | apply dv_slice | apply sv_d | apply f_cons | apply fold_nil | apply fold_cons | apply fold_app | apply f_rowI | apply f_rowY | apply f_rowS | apply f_rowB | apply f_rowL) | (with_reducible apply f_byte; decide))); done))) | ((with_reducible apply K_bool hm); (simp only [push_cast, seval]; rfl)))
noncomputable def m_kit_Number (x0 : List UInt8) (x1 : Int) : Option (Int × Bool) := (sims_G7_1_2 x0 x1).1
theorem spec_kit_Number (x0 : List UInt8) (x1 : Int) : ∀ r, m_kit_Number x0 x1 = some r → PureSpec Tryz.prog 43 [.str x0, .int .i64 x1] (.tup [.int .i64 r.1, .bool r.2]) := (sims_G7_1_2 x0 x1).2

def sc_scheme_Texts_L1 : SC :=
  (.seq (.reg [.r 66 (.bin .lss (.t 65) (.t 64))])
  (.seq (.cond (.t 66)
    .skip
    (.exit 4))
  (.seq (.block 5 (.seq (.reg [.r 67 (.mv (.t 65)),
       .r 10 (.mv (.t 67))])
    (.seq (.reg [.r 68 (.fld 2 (.t 3)),
       .o 69 (.ld1 (.t 68)),
       .r 70 (.mv (.t 10)),
       .r 71 (.bin .add (.t 70) (.c (.d (.int .i64 1)))),
       .r 72 (.fld 3 (.t 3)),
       .o 73 (.ld1 (.t 72)),
       .r 74 (.maxs (.t 73) [.c (.d (.int .i64 1))]),
       .r 75 (.build [.d (.int .i64 0), .d (.int .i64 0), .d (.int .i64 0)] [(0, 1, .t 69), (1, 1, .t 71), (2, 1, .t 74)]),
       .w 11 (.boxM (.c (.agg [.d (.int .i64 0), .d (.int .i64 0), .d (.int .i64 0)]))),
       .w 0 (.st 3 (.t 11) (.t 75))])
    (.seq (.reg [.r 77 (.fld 1 (.t 9)),
       .o 78 (.ldA 2 (.t 77)),
       .o 79 (.ldA 3 (.t 11)),
       .c 80 (.f 46) [.t 78, .t 79],
       .r 76 (.mv (.t 80)),
       .r 81 (.ext (.t 76) 0),
       .r 82 (.ext (.t 76) 1),
       .r 12 (.mv (.t 81)),
       .r 13 (.mv (.t 82))])
    (.seq (.reg [.r 83 (.mv (.t 12)),
       .r 84 (.bin .neq (.t 83) (.c (.d (.str []))))])
    (.cond (.t 84)
      (.reg [.r 85 (.mv (.t 5)),
         .r 86 (.mv (.t 12)),
         .r 87 (.bslice 1 [.t 86]),
         .w 88 (.app 9 1 (.t 85) (.t 87)),
         .r 5 (.mv (.t 88))])
      .skip))))))
  (.reg [.r 89 (.bin .add (.t 65) (.c (.d (.int .i64 1)))),
     .r 65 (.mv (.t 89))]))))
def sc_scheme_Texts_B1 : SC := .block 4 (.loop sc_scheme_Texts_L1)
def sc_scheme_Texts_L2 : SC :=
  (.seq (.reg [.r 26 (.bin .lss (.t 25) (.t 24))])
  (.seq (.cond (.t 26)
    .skip
    (.exit 2))
  (.seq (.block 3 (.seq (.reg [.r 27 (.idx 4 (.t 23) (.t 25)),
       .o 28 (.ldA 4 (.t 27)),
       .w 9 (.boxM (.c (.agg [.d (.str []), .d (.str []), .nils, .nils]))),
       .w 0 (.st 4 (.t 9) (.t 28))])
    (.seq (.seq (.reg (.r 29 (.fld 0 (.t 9)) :: .o 30 (.ld1 (.t 29)) :: .r 31 (.bin .neq (.t 30) (.c (.d (.str [])))) :: .r 32 (.mv (.t 31)) :: gapp [33, 34, 35, 36, 37, 38] 32 false (.r 33 (.fld 1 (.t 9)) :: .r 34 (.fld 0 (.t 33)) :: .r 35 (.ld1 (.t 34)) :: .r 36 (.fld 1 (.t 3)) :: .r 37 (.ld1 (.t 36)) :: .r 38 (.bin .neq (.t 35) (.t 37)) :: []) (.r 39 (.pick (.t 32) (.c (.d (.bool true))) (.t 38)) :: [])))
    (.cond (.t 39)
      (.exit 3)
      .skip))
    (.seq (.seq (.reg [.r 40 (.fld 2 (.t 3)),
       .o 41 (.ld1 (.t 40)),
       .r 42 (.bin .eql (.t 41) (.c (.d (.int .i64 0))))])
    (.cond (.t 42)
      (.seq (.reg [.r 43 (.mv (.t 5)),
         .r 44 (.fld 1 (.t 3)),
         .o 45 (.ld1 (.t 44)),
         .r 46 (.bslice 1 [.t 45]),
         .w 47 (.app 9 1 (.t 43) (.t 46)),
         .r 5 (.mv (.t 47))])
      (.exit 3))
      .skip))
    (.seq (.seq (.reg [.r 48 (.fld 2 (.t 3)),
       .o 49 (.ld1 (.t 48)),
       .r 50 (.fld 1 (.t 9)),
       .r 51 (.fld 1 (.t 50)),
       .o 52 (.ld1 (.t 51)),
       .r 53 (.len (.t 52)),
       .r 54 (.bin .gtr (.t 49) (.t 53))])
    (.cond (.t 54)
      (.exit 3)
      .skip))
    (.seq (.reg [.r 55 (.fld 1 (.t 9)),
       .r 56 (.fld 1 (.t 55)),
       .o 57 (.ld1 (.t 56)),
       .r 58 (.fld 2 (.t 3)),
       .o 59 (.ld1 (.t 58)),
       .r 60 (.bin .sub (.t 59) (.c (.d (.int .i64 1)))),
       .r 61 (.idx 1 (.t 57) (.t 60)),
       .r 62 (.fld 0 (.t 61)),
       .o 63 (.ld1 (.t 62)),
       .r 64 (.len (.t 63)),
       .r 65 (.mv (.c (.d (.int .i64 0))))])
    sc_scheme_Texts_B1))))))
  (.reg [.r 90 (.bin .add (.t 25) (.c (.d (.int .i64 1)))),
     .r 25 (.mv (.t 90))]))))
def sc_scheme_Texts_B2 : SC := .block 2 (.loop sc_scheme_Texts_L2)
def sc_scheme_Texts_L3 : SC :=
  (.seq (.reg [.r 20 (.bin .lss (.t 19) (.t 18))])
  (.seq (.cond (.t 20)
    .skip
    (.exit 0))
  (.seq (.block 1 (.seq (.reg [.r 21 (.idx 1 (.t 17) (.t 19)),
       .o 22 (.ld1 (.t 21)),
       .r 7 (.mv (.t 22))])
    (.seq (.reg [.r 23 (.mv (.t 7)),
       .r 24 (.len (.t 23)),
       .r 25 (.mv (.c (.d (.int .i64 0))))])
    sc_scheme_Texts_B2)))
  (.reg [.r 91 (.bin .add (.t 19) (.c (.d (.int .i64 1)))),
     .r 19 (.mv (.t 91))]))))
def sc_scheme_Texts_B3 : SC := .block 0 (.loop sc_scheme_Texts_L3)
/-- interchange/scheme.Texts -/
def sc_scheme_Texts : SC :=
  (.seq (.reg [.r 3 (.boxI (.t 1)),
     .r 4 (.mv (.c (.nils)))])
  (.seq (.reg [.r 5 (.mv (.c (.nils)))])
  (.seq (.seq (.reg [.r 14 (.mv (.t 0)),
     .r 15 (.fld 0 (.t 3)),
     .o 16 (.ld1 (.t 15)),
     .c 17 (.f 45) [.t 14, .t 16],
     .r 18 (.len (.t 17)),
     .r 19 (.mv (.c (.d (.int .i64 0))))])
  sc_scheme_Texts_B3)
  (.seq (.reg [.r 92 (.mv (.t 5)),
     .r 4 (.mv (.t 92))])
  .ret))))
theorem fit_scheme_Texts : fits Tryz.prog 20 Tryz.f20 sc_scheme_Texts [.t 4] 2 = true := by kernel_rfl

set_option maxRecDepth 100000 in
set_option maxHeartbeats 40000000 in
noncomputable def sims_G7_1_3 : (∀ (x0 : List Tapi_Branch) (x1 : Tscheme_Way), {m : Option ((List (List UInt8))) // ∀ r, m = some r → PureSpec Tryz.prog 20 [.slice (List.map rTapi_Branch x0), .agg (rTscheme_Way x1)] (.slice (List.map rowS r))}) := by
  (intro x0 x1; apply Subtype.mk; intro r hm; apply pure_walk Tryz.func20 fit_scheme_Texts; unfold sc_scheme_Texts)
  repeat' (first | with_reducible refine W_seq ?_ | with_reducible refine W_reg ?_ | with_reducible refine W_block ?_ | with_reducible refine W_skip ?_ | with_reducible refine W_ret ?_ | with_reducible refine W_exit ?_ | with_reducible refine O_nil ?_ | with_reducible refine K_seq ?_ | with_reducible refine K_seqE ?_ | with_reducible refine K_seqR ?_ | with_reducible refine K_block ?_ | with_reducible refine K_blockR ?_ | with_reducible refine K_blockE ?_ | ((with_reducible apply K_blockN); decide) | with_reducible refine O_o2r ?_ | ((with_reducible apply O_idxr hm); (iterate 2 (simp only [push_cast, seval]; rfl)); (intro _; rfl); intro e hm) | ((with_reducible apply O_idxVr hm); (iterate 3 (simp only [push_cast, seval]; rfl)); intro e hm) | ((with_reducible apply O_idxLr hm (row := rowS)); (iterate 2 (simp only [push_cast, seval]; rfl)); (focus ((repeat' (first | rfl | (with_reducible first | apply fT_Tapi_Branch | apply fT_Tapi_Element | apply fT_Tapi_Segment | apply fT_Tscheme_Way | apply fT_Tapi_Spot | apply f_optN | apply f_optS | apply f_some | apply f_tup | apply f_agg | apply f_ptr | apply f_fn | apply dv_slice | apply sv_d | apply f_cons | apply fold_nil | apply fold_cons | apply fold_app | apply f_rowI | apply f_rowY | apply f_rowS | apply f_rowB | apply f_rowL) | (with_reducible apply f_byte; decide))); done)); (simp only [push_cast, seval]; rfl); (intro _; rfl); intro e hm) | ((with_reducible apply O_r); (simp only [push_cast, seval]; rfl); (first | exact trivial | omega)) | ((with_reducible apply O_ldV1r hm); (iterate 2 (simp only [push_cast, seval]; rfl)); (intro _; rfl); intro e hm) | ((with_reducible apply O_ldAVr hm); (iterate 2 (simp only [push_cast, seval]; rfl)); (intro _; rfl); intro e hm) | ((with_reducible apply O_strr hm); (iterate 2 (simp only [push_cast, seval]; rfl)); intro hm) | ((with_reducible apply O_or hm); (simp only [push_cast, seval]; rfl); rfl; intro v hm; rotate_left; intro v g hm) | ((with_reducible apply W_condT); (focus (simp only [push_cast, seval]; done))) | ((with_reducible apply W_condF); (focus (simp only [push_cast, seval]; done))) | ((with_reducible apply O_cF hm); (simp only [push_cast, seval]; rfl); (first | apply spec_scheme_kidsOf _ _ | apply spec_wire_TextAt _ _); (any_goals ((repeat' (first | rfl | (with_reducible first | apply fT_Tapi_Branch | apply fT_Tapi_Element | apply fT_Tapi_Segment | apply fT_Tscheme_Way | apply fT_Tapi_Spot | apply f_optN | apply f_optS | apply f_some | apply f_tup | apply f_agg | apply f_ptr | apply f_fn | apply dv_slice | apply sv_d | apply f_cons | apply fold_nil | apply fold_cons | apply fold_app | apply f_rowI | apply f_rowY | apply f_rowS | apply f_rowB | apply f_rowL) | (with_reducible apply f_byte; decide))); done)); intro x hm) | ((with_reducible apply O_clS hm); (simp only [push_cast, seval]; rfl); (focus (first | exact spec_scheme_kidsOf _ _ | exact spec_wire_TextAt _ _)); (intro _; rfl); intro x hm) | ((with_reducible apply O_w); (simp only [push_cast, seval]; rfl); (first | exact trivial | omega)) | ((with_reducible apply O_appL hm (row := rowS)); (iterate 5 (simp only [push_cast, seval]; rfl)); (focus ((repeat' (first | rfl | (with_reducible first | apply fT_Tapi_Branch | apply fT_Tapi_Element | apply fT_Tapi_Segment | apply fT_Tscheme_Way | apply fT_Tapi_Spot | apply f_optN | apply f_optS | apply f_some | apply f_tup | apply f_agg | apply f_ptr | apply f_fn | apply dv_slice | apply sv_d | apply f_cons | apply fold_nil | apply fold_cons | apply fold_app | apply f_rowI | apply f_rowY | apply f_rowS | apply f_rowB | apply f_rowL) | (with_reducible apply f_byte; decide))); done)); (focus ((repeat' (first | rfl | (with_reducible first | apply fT_Tapi_Branch | apply fT_Tapi_Element | apply fT_Tapi_Segment | apply fT_Tscheme_Way | apply fT_Tapi_Spot | apply f_optN | apply f_optS | apply f_some | apply f_tup | apply f_agg | apply f_ptr | apply f_fn | apply dv_slice | apply sv_d | apply f_cons | apply fold_nil | apply fold_cons | apply fold_app | apply f_rowI | apply f_rowY | apply f_rowS | apply f_rowB | apply f_rowL) | (with_reducible apply f_byte; decide))); done)); rfl; decide; (intro _; rfl); intro hm) | ((with_reducible apply O_appV hm); (iterate 4 (simp only [push_cast, seval]; rfl)); (focus ((repeat' (first | rfl | (with_reducible first | apply fT_Tapi_Branch | apply fT_Tapi_Element | apply fT_Tapi_Segment | apply fT_Tscheme_Way | apply fT_Tapi_Spot | apply f_optN | apply f_optS | apply f_some | apply f_tup | apply f_agg | apply f_ptr | apply f_fn | apply dv_slice | apply sv_d | apply f_cons | apply fold_nil | apply fold_cons | apply fold_app | apply f_rowI | apply f_rowY | apply f_rowS | apply f_rowB | apply f_rowL) | (with_reducible apply f_byte; decide))); done)); decide; (intro _; rfl); intro hm) | ((with_reducible apply O_appN hm); (focus (simp only [push_cast, seval]; done)); (iterate 2 (simp only [push_cast, seval]; rfl)); (focus ((repeat' (first | rfl | (with_reducible first | apply fT_Tapi_Branch | apply fT_Tapi_Element | apply fT_Tapi_Segment | apply fT_Tscheme_Way | apply fT_Tapi_Spot | apply f_optN | apply f_optS | apply f_some | apply f_tup | apply f_agg | apply f_ptr | apply f_fn | apply dv_slice | apply sv_d | apply f_cons | apply fold_nil | apply fold_cons | apply fold_app | apply f_rowI | apply f_rowY | apply f_rowS | apply f_rowB | apply f_rowL) | (with_reducible apply f_byte; decide))); done)); decide; (intro _; rfl); intro hm) | ((with_reducible apply O_stVA hm); (iterate 4 (simp only [push_cast, seval]; rfl)); (focus ((repeat' (first | rfl | (with_reducible first | apply fT_Tapi_Branch | apply fT_Tapi_Element | apply fT_Tapi_Segment | apply fT_Tscheme_Way | apply fT_Tapi_Spot | apply f_optN | apply f_optS | apply f_some | apply f_tup | apply f_agg | apply f_ptr | apply f_fn | apply dv_slice | apply sv_d | apply f_cons | apply fold_nil | apply fold_cons | apply fold_app | apply f_rowI | apply f_rowY | apply f_rowS | apply f_rowB | apply f_rowL) | (with_reducible apply f_byte; decide))); done)); decide; (intro _; rfl); intro e hm) | ((with_reducible apply O_stV hm); (iterate 3 (simp only [push_cast, seval]; rfl)); rfl; (intro _; rfl); rfl; (focus (intro a; simp only [push_cast, seval]; rfl)); (focus (intro a; (repeat' (first | rfl | with_reducible apply eT_Tapi_Branch | with_reducible apply eT_Tapi_Element | with_reducible apply eT_Tapi_Segment | with_reducible apply eT_Tscheme_Way | with_reducible apply eT_Tapi_Spot)); done)); intro e hm) | ((with_reducible apply S_condB hm); (simp only [push_cast, seval]; rfl); intro hm; rotate_left; intro hm) | ((with_reducible apply K_endS hm); (focus (simp only [resOf, resL, RV.get, push_cast, seval]; rfl)); (focus ((repeat' (first | rfl | (with_reducible first | apply fT_Tapi_Branch | apply fT_Tapi_Element | apply fT_Tapi_Segment | apply fT_Tscheme_Way | apply fT_Tapi_Spot | apply f_optN | apply f_optS | apply f_some | apply f_tup | apply f_agg | apply f_ptr | apply f_fn | apply dv_slice | apply sv_d | apply f_cons | apply fold_nil | apply fold_cons | apply fold_app | apply f_rowI | apply f_rowY | apply f_rowS | apply f_rowB | apply f_rowL) | (with_reducible apply f_byte; decide))); done))) | ((with_reducible apply K_bool hm); (simp only [push_cast, seval]; rfl)) | ((with_reducible apply K_leave hm); intro r hm) | ((with_reducible apply K_leaveR hm); intro r hm) | ((apply S_loopY (b := 4) (X := sc_scheme_Texts_B1) (x := sc_scheme_Texts_L1) rfl (fun (c : SV × Ch × SV × SV × SV × SV × SV × SV × SV) (s : (List (List UInt8)) × Int) => st [(3, c.1), (5, .vec 5), (9, .ref 9 0), (17, c.2.2.1), (18, c.2.2.2.1), (19, c.2.2.2.2.1), (23, c.2.2.2.2.2.1), (24, c.2.2.2.2.2.2.1), (25, c.2.2.2.2.2.2.2.1), (64, c.2.2.2.2.2.2.2.2), (65, .d (.int .i64 s.2))] [(5, .vec 9 1 (vrow rowS s.1)), (9, c.2.1)]) (c := (_, _, _, _, _, _, _, _, _)) (s0 := (_, _)) hm); (focus (first | (dsimp only; done) | (dsimp only; rfl) | rfl)); (with_reducible refine Then.mk ?_ ?_)) | ((apply S_loopY (b := 2) (X := sc_scheme_Texts_B2) (x := sc_scheme_Texts_L2) rfl (fun (c : SV × SV × SV × SV × SV × SV) (s : (List (List UInt8)) × Int) => st [(3, c.1), (5, .vec 5), (17, c.2.1), (18, c.2.2.1), (19, c.2.2.2.1), (23, c.2.2.2.2.1), (24, c.2.2.2.2.2), (25, .d (.int .i64 s.2))] [(5, .vec 9 1 (vrow rowS s.1))]) (c := (_, _, _, _, _, _)) (s0 := (_, _)) hm); (focus (first | (dsimp only; done) | (dsimp only; rfl) | rfl)); (with_reducible refine Then.mk ?_ ?_)) | ((apply S_loopY (b := 0) (X := sc_scheme_Texts_B3) (x := sc_scheme_Texts_L3) rfl (fun (c : SV × SV × SV) (s : (List (List UInt8)) × Int) => st [(3, c.1), (5, .vec 5), (17, c.2.1), (18, c.2.2), (19, .d (.int .i64 s.2))] [(5, .vec 9 1 (vrow rowS s.1))]) (c := (_, _, _)) (s0 := (_, _)) hm); (focus (first | (dsimp only; done) | (dsimp only; rfl) | rfl)); (with_reducible refine Then.mk ?_ ?_); apply Imp.trans; (focus (apply imp_vecnil (slot := 5) (id := 5) (e := 9) (sz := 1); (focus (simp only [push_cast, seval]; done))))) | ((apply K_next (s' := (_, _)) hm); (focus (first | (dsimp only; done) | (dsimp only; rfl) | rfl))) | ((apply K_brk (s' := (_, _)) hm); (focus (first | (dsimp only; done) | (dsimp only; rfl) | rfl))) | (((with_reducible apply K_brkN hm); (focus decide); intro r hm)) | (((with_reducible apply K_brkR hm); intro r hm)) | (((with_reducible apply LoopB.of); (focus (first | (dsimp only; done) | (dsimp only; rfl) | rfl)); (focus ((intro _; repeat' (first | with_reducible exact impC_end | with_reducible exact impC_endF | with_reducible refine impC_seq ?_ | with_reducible refine impC_block ?_ | ((with_reducible refine impC_rnd ?_); intro _) | ((with_reducible refine impC_brk ?_); intro _))))); (intro s o hm; first | unfold sc_scheme_Texts_L1 | unfold sc_scheme_Texts_L2 | unfold sc_scheme_Texts_L3); rotate_left; intro s hm)) | (((apply imp_stT; (repeat' (first | with_reducible exact keepT_nil | with_reducible exact keepC_nil | with_reducible apply keepT_cons | with_reducible apply keepC_cons | ((with_reducible apply svle_eq); (focus (first | (simp only [push_cast, seval]; rfl) | rfl)); (focus ((repeat' (first | rfl | (with_reducible first | apply fT_Tapi_Branch | apply fT_Tapi_Element | apply fT_Tapi_Segment | apply fT_Tscheme_Way | apply fT_Tapi_Spot | apply f_optN | apply f_optS | apply f_some | apply f_tup | apply f_agg | apply f_ptr | apply f_fn | apply dv_slice | apply sv_d | apply f_cons | apply fold_nil | apply fold_cons | apply fold_app | apply f_rowI | apply f_rowY | apply f_rowS | apply f_rowB | apply f_rowL) | (with_reducible apply f_byte; decide))); done))) | ((with_reducible apply svle_td); (focus (first | (simp only [push_cast, seval]; rfl) | rfl)); (focus (first | (simp only [push_cast, seval]; rfl) | rfl)); (focus ((repeat' (first | rfl | (with_reducible first | apply fT_Tapi_Branch | apply fT_Tapi_Element | apply fT_Tapi_Segment | apply fT_Tscheme_Way | apply fT_Tapi_Spot | apply f_optN | apply f_optS | apply f_some | apply f_tup | apply f_agg | apply f_ptr | apply f_fn | apply dv_slice | apply sv_d | apply f_cons | apply fold_nil | apply fold_cons | apply fold_app | apply f_rowI | apply f_rowY | apply f_rowS | apply f_rowB | apply f_rowL) | (with_reducible apply f_byte; decide))); done))) | ((with_reducible apply chle_eq); (focus (first | (simp only [push_cast, seval]; rfl) | rfl)); (first | with_reducible exact chle_rfl rfl | with_reducible exact chle_map0 | with_reducible apply chle_vec | with_reducible apply chle_box)) | (with_reducible first | apply cT_Tapi_Branch | apply cT_Tapi_Element | apply cT_Tapi_Segment | apply cT_Tscheme_Way | apply cT_Tapi_Spot | apply r_shS | apply r_shI | apply r_rflO | apply r_oneO | apply r_appO | apply r_nilO | apply c_ownN | apply c_ownL | apply vc_rfl | apply vc_nil | apply vc_cons | apply r_rfl | apply r_rows | apply r_nil | apply r_app | apply r_cons | apply c_rowI | apply c_rowY | apply c_rowS | apply c_rowB | apply c_rowL))); done))))
noncomputable def m_scheme_Texts (x0 : List Tapi_Branch) (x1 : Tscheme_Way) : Option ((List (List UInt8))) := (sims_G7_1_3 x0 x1).1
theorem spec_scheme_Texts (x0 : List Tapi_Branch) (x1 : Tscheme_Way) : ∀ r, m_scheme_Texts x0 x1 = some r → PureSpec Tryz.prog 20 [.slice (List.map rTapi_Branch x0), .agg (rTscheme_Way x1)] (.slice (List.map rowS r)) := (sims_G7_1_3 x0 x1).2

/-- interchange/interchangeref3.small -/
def sc_interchangeref3_small : SC :=
  (.seq (.reg [.r 4 (.mv (.c (.d (.int .i64 0)))),
     .r 5 (.mv (.c (.d (.bool false))))])
  (.seq (.reg [.r 9 (.mv (.t 0)),
     .c 10 (.f 76) [.t 9, .c (.d (.int .i64 3))],
     .r 8 (.mv (.t 10)),
     .r 11 (.ext (.t 8) 0),
     .r 12 (.ext (.t 8) 1),
     .r 6 (.mv (.t 11)),
     .r 7 (.mv (.t 12))])
  (.seq (.reg (.r 13 (.mv (.t 6)) :: .r 14 (.mv (.t 7)) :: .r 15 (.mv (.t 14)) :: gapp [16, 17, 18] 15 true (.r 16 (.mv (.t 6)) :: .r 17 (.mv (.t 1)) :: .c 18 (.f 77) [.t 16, .c (.d (.int .i64 1)), .t 17] :: []) (.r 19 (.pick (.t 15) (.t 18) (.c (.d (.bool false)))) :: .r 4 (.mv (.t 13)) :: .r 5 (.mv (.t 19)) :: [])))
  .ret)))
theorem fit_interchangeref3_small : fits Tryz.prog 50 Tryz.f50 sc_interchangeref3_small [.t 4, .t 5] 2 = true := by kernel_rfl

set_option maxRecDepth 100000 in
set_option maxHeartbeats 40000000 in
noncomputable def sims_G7_1_4 : (∀ (x0 : List UInt8) (x1 : Int), {m : Option (Int × Bool) // ∀ r, m = some r → PureSpec Tryz.prog 50 [.str x0, .int .i64 x1] (.tup [.int .i64 r.1, .bool r.2])}) := by
  (intro x0 x1; apply Subtype.mk; intro r hm; apply pure_walk Tryz.func50 fit_interchangeref3_small; unfold sc_interchangeref3_small)
  repeat' (first | with_reducible refine W_seq ?_ | with_reducible refine W_reg ?_ | with_reducible refine W_block ?_ | with_reducible refine W_skip ?_ | with_reducible refine W_ret ?_ | with_reducible refine W_exit ?_ | with_reducible refine O_nil ?_ | with_reducible refine K_seq ?_ | with_reducible refine K_seqE ?_ | with_reducible refine K_seqR ?_ | with_reducible refine K_block ?_ | with_reducible refine K_blockR ?_ | with_reducible refine K_blockE ?_ | ((with_reducible apply K_blockN); decide) | ((with_reducible apply O_r); (simp only [push_cast, seval]; rfl); (first | exact trivial | omega)) | ((with_reducible apply O_and hm); (simp only [push_cast, seval]; rfl); rfl; intro v hm; rotate_left; intro v g hm) | ((with_reducible apply W_condT); (focus (simp only [push_cast, seval]; done))) | ((with_reducible apply W_condF); (focus (simp only [push_cast, seval]; done))) | ((with_reducible apply O_cF hm); (simp only [push_cast, seval]; rfl); (first | apply spec_interchangeref3_counted _ _ | apply spec_interchangeref3_within _ _ _); (any_goals ((repeat' (first | rfl | (with_reducible first | apply f_optN | apply f_optS | apply f_some | apply f_tup | apply f_agg | apply f_ptr | apply f_fn | apply dv_slice | apply sv_d | apply f_cons | apply fold_nil | apply fold_cons | apply fold_app | apply f_rowI | apply f_rowY | apply f_rowS | apply f_rowB | apply f_rowL) | (with_reducible apply f_byte; decide))); done)); intro x hm) | ((with_reducible apply S_condB hm); (simp only [push_cast, seval]; rfl); intro hm; rotate_left; intro hm) | ((with_reducible apply K_end2 hm); (focus (simp only [resOf, resL, RV.get, push_cast, seval]; rfl)); (focus (first | (dsimp only; done) | (dsimp only; rfl) | rfl)); (focus ((repeat' (first | rfl | (with_reducible first | apply f_optN | apply f_optS | apply f_some | apply f_tup | apply f_agg | apply f_ptr | apply f_fn | apply dv_slice | apply sv_d | apply f_cons | apply fold_nil | apply fold_cons | apply fold_app | apply f_rowI | apply f_rowY | apply f_rowS | apply f_rowB | apply f_rowL) | (with_reducible apply f_byte; decide))); done))) | ((with_reducible apply K_bool hm); (simp only [push_cast, seval]; rfl)))
noncomputable def m_interchangeref3_small (x0 : List UInt8) (x1 : Int) : Option (Int × Bool) := (sims_G7_1_4 x0 x1).1
theorem spec_interchangeref3_small (x0 : List UInt8) (x1 : Int) : ∀ r, m_interchangeref3_small x0 x1 = some r → PureSpec Tryz.prog 50 [.str x0, .int .i64 x1] (.tup [.int .i64 r.1, .bool r.2]) := (sims_G7_1_4 x0 x1).2

def sc_interchangeref3_FindIn_L1 : SC :=
  (.seq (.seq (.reg [.r 18 (.mv (.t 8)),
     .r 19 (.mv (.t 7)),
     .r 20 (.len (.t 19)),
     .r 21 (.bin .lss (.t 18) (.t 20))])
  (.cond (.t 21)
    .skip
    (.exit 2)))
  (.seq (.block 3 (.seq (.regD (.r 24 (.mv (.t 7)) :: .r 25 (.mv (.t 8)) :: .r 26 (.idx 4 (.t 24) (.t 25)) :: .r 27 (.fld 0 (.t 26)) :: .r 28 (.ld1 (.t 27)) :: .r 29 (.bin .eql (.t 28) (.c (.d (.str [])))) :: .r 30 (.mv (.t 29)) :: gapp [31, 32, 33, 34, 35, 36, 37, 38, 39] 30 true (.r 31 (.mv (.t 7)) :: .r 32 (.mv (.t 8)) :: .r 33 (.idx 4 (.t 31) (.t 32)) :: .r 34 (.fld 1 (.t 33)) :: .r 35 (.fld 0 (.t 34)) :: .r 36 (.ld1 (.t 35)) :: .r 37 (.fld 1 (.t 3)) :: .r 38 (.ld1 (.t 37)) :: .r 39 (.bin .eql (.t 36) (.t 38)) :: []) (.r 40 (.pick (.t 30) (.t 39) (.c (.d (.bool false)))) :: [])))
    (.cond (.t 40)
      (.regE [.r 41 (.mv (.t 5)),
         .r 42 (.mv (.t 7)),
         .r 43 (.mv (.t 8)),
         .r 44 (.idx 4 (.t 42) (.t 43)),
         .r 45 (.fld 1 (.t 44)),
         .r 46 (.ldA 2 (.t 45)),
         .r 47 (.ldA 4 (.t 3)),
         .c 48 (.f 51) [.t 46, .t 47],
         .x 49 (.app 9 1 (.t 41) (.t 48)) [],
         .r 5 (.mv (.t 49))])
      .skip)))
  (.reg [.r 22 (.mv (.t 8)),
     .r 23 (.bin .add (.t 22) (.c (.d (.int .i64 1)))),
     .r 8 (.mv (.t 23))])))
def sc_interchangeref3_FindIn_B1 : SC := .block 2 (.loop sc_interchangeref3_FindIn_L1)
def sc_interchangeref3_FindIn_L2 : SC :=
  (.seq (.reg [.r 15 (.bin .lss (.t 14) (.t 13))])
  (.seq (.cond (.t 15)
    .skip
    (.exit 0))
  (.seq (.block 1 (.seq (.reg [.r 16 (.idx 1 (.t 12) (.t 14)),
       .o 17 (.ld1 (.t 16)),
       .r 7 (.mv (.t 17))])
    (.seq (.reg [.r 8 (.mv (.c (.d (.int .i64 0))))])
    sc_interchangeref3_FindIn_B1)))
  (.reg [.r 50 (.bin .add (.t 14) (.c (.d (.int .i64 1)))),
     .r 14 (.mv (.t 50))]))))
def sc_interchangeref3_FindIn_B2 : SC := .block 0 (.loop sc_interchangeref3_FindIn_L2)
/-- interchange/interchangeref3.FindIn -/
def sc_interchangeref3_FindIn : SC :=
  (.seq (.reg [.w 3 (.boxM (.t 1)),
     .r 4 (.mv (.c (.nils)))])
  (.seq (.reg [.r 5 (.mv (.c (.nils)))])
  (.seq (.seq (.reg [.r 9 (.mv (.t 0)),
     .r 10 (.fld 0 (.t 3)),
     .o 11 (.ld1 (.t 10)),
     .c 12 (.f 28) [.t 9, .t 11],
     .r 13 (.len (.t 12)),
     .r 14 (.mv (.c (.d (.int .i64 0))))])
  sc_interchangeref3_FindIn_B2)
  (.seq (.reg [.r 51 (.mv (.t 5)),
     .r 4 (.mv (.t 51))])
  .ret))))
theorem fit_interchangeref3_FindIn : fits Tryz.prog 23 Tryz.f23 sc_interchangeref3_FindIn [.t 4] 2 = true := by kernel_rfl

set_option maxRecDepth 100000 in
set_option maxHeartbeats 40000000 in
noncomputable def sims_G7_1_5 : (∀ (x0 : List Tapi_Branch) (x1 : Tinterchangeref3_Path), {m : Option ((List (List UInt8))) // ∀ r, m = some r → PureSpec Tryz.prog 23 [.slice (List.map rTapi_Branch x0), .agg (rTinterchangeref3_Path x1)] (.slice (List.map rowS r))}) := by
  (intro x0 x1; apply Subtype.mk; intro r hm; apply pure_walk Tryz.func23 fit_interchangeref3_FindIn; unfold sc_interchangeref3_FindIn)
  repeat' (first | with_reducible refine W_seq ?_ | with_reducible refine W_reg ?_ | with_reducible refine W_regD ?_ | with_reducible refine W_regE ?_ | with_reducible refine W_block ?_ | with_reducible refine W_skip ?_ | with_reducible refine W_ret ?_ | with_reducible refine W_exit ?_ | with_reducible refine O_nil ?_ | with_reducible refine K_seq ?_ | with_reducible refine K_seqE ?_ | with_reducible refine K_seqR ?_ | with_reducible refine K_block ?_ | with_reducible refine K_blockR ?_ | with_reducible refine K_blockE ?_ | ((with_reducible apply K_blockN); decide) | with_reducible refine O_o2r ?_ | ((with_reducible apply O_idxr hm); (iterate 2 (simp only [push_cast, seval]; rfl)); (intro _; rfl); intro e hm) | ((with_reducible apply O_idxVr hm); (iterate 3 (simp only [push_cast, seval]; rfl)); intro e hm) | ((with_reducible apply O_r); (simp only [push_cast, seval]; rfl); (first | exact trivial | omega)) | ((with_reducible apply O_ldV1r hm); (iterate 2 (simp only [push_cast, seval]; rfl)); (intro _; rfl); intro e hm) | ((with_reducible apply O_ldAVr hm); (iterate 2 (simp only [push_cast, seval]; rfl)); (intro _; rfl); intro e hm) | ((with_reducible apply O_strr hm); (iterate 2 (simp only [push_cast, seval]; rfl)); intro hm) | ((with_reducible apply O_and hm); (simp only [push_cast, seval]; rfl); rfl; intro v hm; rotate_left; intro v g hm) | ((with_reducible apply W_condT); (focus (simp only [push_cast, seval]; done))) | ((with_reducible apply W_condF); (focus (simp only [push_cast, seval]; done))) | ((with_reducible apply O_cF hm); (simp only [push_cast, seval]; rfl); (first | apply spec_interchangeref3_Inside FU _ _ | apply spec_interchangeref3_TextsOf _ _); (any_goals ((repeat' (first | rfl | (with_reducible first | apply fT_Tapi_Branch | apply fT_Tapi_Element | apply fT_Tapi_Segment | apply fT_Tinterchangeref3_Path | apply f_optN | apply f_optS | apply f_some | apply f_tup | apply f_agg | apply f_ptr | apply f_fn | apply dv_slice | apply sv_d | apply f_cons | apply fold_nil | apply fold_cons | apply fold_app | apply f_rowI | apply f_rowY | apply f_rowS | apply f_rowB | apply f_rowL) | (with_reducible apply f_byte; decide))); done)); intro x hm) | ((with_reducible apply O_clS hm); (simp only [push_cast, seval]; rfl); (focus (first | exact spec_interchangeref3_Inside FU _ _ | exact spec_interchangeref3_TextsOf _ _)); (intro _; rfl); intro x hm) | ((with_reducible apply O_w); (simp only [push_cast, seval]; rfl); (first | exact trivial | omega)) | ((with_reducible apply O_appV hm); (iterate 4 (simp only [push_cast, seval]; rfl)); (focus ((repeat' (first | rfl | (with_reducible first | apply fT_Tapi_Branch | apply fT_Tapi_Element | apply fT_Tapi_Segment | apply fT_Tinterchangeref3_Path | apply f_optN | apply f_optS | apply f_some | apply f_tup | apply f_agg | apply f_ptr | apply f_fn | apply dv_slice | apply sv_d | apply f_cons | apply fold_nil | apply fold_cons | apply fold_app | apply f_rowI | apply f_rowY | apply f_rowS | apply f_rowB | apply f_rowL) | (with_reducible apply f_byte; decide))); done)); decide; (intro _; rfl); intro hm) | ((with_reducible apply O_appN hm); (focus (simp only [push_cast, seval]; done)); (iterate 2 (simp only [push_cast, seval]; rfl)); (focus ((repeat' (first | rfl | (with_reducible first | apply fT_Tapi_Branch | apply fT_Tapi_Element | apply fT_Tapi_Segment | apply fT_Tinterchangeref3_Path | apply f_optN | apply f_optS | apply f_some | apply f_tup | apply f_agg | apply f_ptr | apply f_fn | apply dv_slice | apply sv_d | apply f_cons | apply fold_nil | apply fold_cons | apply fold_app | apply f_rowI | apply f_rowY | apply f_rowS | apply f_rowB | apply f_rowL) | (with_reducible apply f_byte; decide))); done)); decide; (intro _; rfl); intro hm) | ((with_reducible apply O_stVAX hm); (iterate 3 (simp only [push_cast, seval]; rfl)); (focus ((repeat' (first | rfl | (with_reducible first | apply fT_Tapi_Branch | apply fT_Tapi_Element | apply fT_Tapi_Segment | apply fT_Tinterchangeref3_Path | apply f_optN | apply f_optS | apply f_some | apply f_tup | apply f_agg | apply f_ptr | apply f_fn | apply dv_slice | apply sv_d | apply f_cons | apply fold_nil | apply fold_cons | apply fold_app | apply f_rowI | apply f_rowY | apply f_rowS | apply f_rowB | apply f_rowL) | (with_reducible apply f_byte; decide))); done)); (intro _; rfl); (focus ((repeat' (first | exact Rer_nil | ((with_reducible apply Rer_cons); (focus (simp only [push_cast, seval]; rfl)); (focus (first | exact trivial | omega)); (focus (simp only [push_cast, seval]))))); done)); intro e hm) | ((with_reducible apply O_appVX hm); (iterate 2 (simp only [push_cast, seval]; rfl)); (focus ((repeat' (first | rfl | (with_reducible first | apply eR_nil | apply eR_app | apply eR_cons | apply eT_Tapi_Branch | apply eT_Tapi_Element | apply eT_Tapi_Segment | apply eT_Tinterchangeref3_Path | apply eR_I | apply eR_Y | apply eR_S | apply eR_B) | (with_reducible apply sv_d; (focus ((repeat' (first | rfl | (with_reducible first | apply fT_Tapi_Branch | apply fT_Tapi_Element | apply fT_Tapi_Segment | apply fT_Tinterchangeref3_Path | apply f_optN | apply f_optS | apply f_some | apply f_tup | apply f_agg | apply f_ptr | apply f_fn | apply dv_slice | apply sv_d | apply f_cons | apply fold_nil | apply fold_cons | apply fold_app | apply f_rowI | apply f_rowY | apply f_rowS | apply f_rowB | apply f_rowL) | (with_reducible apply f_byte; decide))); done))))); done)); (simp only [push_cast, seval]; rfl); (focus ((repeat' (first | rfl | (with_reducible first | apply eR_nil | apply eR_app | apply eR_cons | apply eT_Tapi_Branch | apply eT_Tapi_Element | apply eT_Tapi_Segment | apply eT_Tinterchangeref3_Path | apply eR_I | apply eR_Y | apply eR_S | apply eR_B) | (with_reducible apply sv_d; (focus ((repeat' (first | rfl | (with_reducible first | apply fT_Tapi_Branch | apply fT_Tapi_Element | apply fT_Tapi_Segment | apply fT_Tinterchangeref3_Path | apply f_optN | apply f_optS | apply f_some | apply f_tup | apply f_agg | apply f_ptr | apply f_fn | apply dv_slice | apply sv_d | apply f_cons | apply fold_nil | apply fold_cons | apply fold_app | apply f_rowI | apply f_rowY | apply f_rowS | apply f_rowB | apply f_rowL) | (with_reducible apply f_byte; decide))); done))))); done)); (intro _; rfl); (focus ((repeat' (first | exact Rer_nil | ((with_reducible apply Rer_cons); (focus (simp only [push_cast, seval]; rfl)); (focus (first | exact trivial | omega)); (focus (simp only [push_cast, seval]))))); done)); intro hm) | ((with_reducible apply O_appX2 hm); (iterate 4 (simp only [push_cast, seval]; rfl)); rfl; (focus ((repeat' (first | exact Rer_nil | ((with_reducible apply Rer_cons); (focus (simp only [push_cast, seval]; rfl)); (focus (first | exact trivial | omega)); (focus (simp only [push_cast, seval]))))); done)); intro hm) | ((with_reducible apply O_appNX hm); (focus (simp only [push_cast, seval]; done)); (iterate 2 (simp only [push_cast, seval]; rfl)); rfl; (focus ((repeat' (first | exact Rer_nil | ((with_reducible apply Rer_cons); (focus (simp only [push_cast, seval]; rfl)); (focus (first | exact trivial | omega)); (focus (simp only [push_cast, seval]))))); done)); intro hm) | ((with_reducible apply O_stVX hm); (iterate 3 (simp only [push_cast, seval]; rfl)); rfl; (intro _; rfl); rfl; (focus (intro a; simp only [push_cast, seval]; rfl)); (focus (intro a; (repeat' (first | rfl | with_reducible apply eT_Tapi_Branch | with_reducible apply eT_Tapi_Element | with_reducible apply eT_Tapi_Segment | with_reducible apply eT_Tinterchangeref3_Path)); done)); (focus (intro _; (repeat' (first | exact Rer_nil | ((with_reducible apply Rer_cons); (focus (simp only [push_cast, seval]; rfl)); (focus (first | exact trivial | omega)); (focus (simp only [push_cast, seval]))))); done)); intro e hm) | ((with_reducible apply O_x); (simp only [push_cast, seval]; rfl); (first | exact trivial | omega); (focus ((repeat' (first | exact Rer_nil | ((with_reducible apply Rer_cons); (focus (simp only [push_cast, seval]; rfl)); (focus (first | exact trivial | omega)); (focus (simp only [push_cast, seval]))))); done))) | ((with_reducible apply S_condB hm); (simp only [push_cast, seval]; rfl); intro hm; rotate_left; intro hm) | ((with_reducible apply K_endS hm); (focus (simp only [resOf, resL, RV.get, push_cast, seval]; rfl)); (focus ((repeat' (first | rfl | (with_reducible first | apply fT_Tapi_Branch | apply fT_Tapi_Element | apply fT_Tapi_Segment | apply fT_Tinterchangeref3_Path | apply f_optN | apply f_optS | apply f_some | apply f_tup | apply f_agg | apply f_ptr | apply f_fn | apply dv_slice | apply sv_d | apply f_cons | apply fold_nil | apply fold_cons | apply fold_app | apply f_rowI | apply f_rowY | apply f_rowS | apply f_rowB | apply f_rowL) | (with_reducible apply f_byte; decide))); done))) | ((with_reducible apply K_bool hm); (simp only [push_cast, seval]; rfl)) | ((with_reducible apply K_leave hm); intro r hm) | ((with_reducible apply K_leaveR hm); intro r hm) | ((apply S_loopY (b := 2) (X := sc_interchangeref3_FindIn_B1) (x := sc_interchangeref3_FindIn_L1) rfl (fun (c : Ch × SV × SV × SV × SV) (s : (List (List UInt8)) × Int) => st [(3, .ref 3 0), (5, .vec 5), (7, c.2.1), (8, .d (.int .i64 s.2)), (12, c.2.2.1), (13, c.2.2.2.1), (14, c.2.2.2.2)] [(3, c.1), (5, .vec 9 1 (vrow rowS s.1))]) (c := (_, _, _, _, _)) (s0 := (_, _)) hm); (focus (first | (dsimp only; done) | (dsimp only; rfl) | rfl)); (with_reducible refine Then.mk ?_ ?_)) | ((apply S_loopY (b := 0) (X := sc_interchangeref3_FindIn_B2) (x := sc_interchangeref3_FindIn_L2) rfl (fun (c : Ch × SV × SV) (s : (List (List UInt8)) × Int) => st [(3, .ref 3 0), (5, .vec 5), (12, c.2.1), (13, c.2.2), (14, .d (.int .i64 s.2))] [(3, c.1), (5, .vec 9 1 (vrow rowS s.1))]) (c := (_, _, _)) (s0 := (_, _)) hm); (focus (first | (dsimp only; done) | (dsimp only; rfl) | rfl)); (with_reducible refine Then.mk ?_ ?_); apply Imp.trans; (focus (apply imp_vecnil (slot := 5) (id := 5) (e := 9) (sz := 1); (focus (simp only [push_cast, seval]; done))))) | ((apply K_next (s' := (_, _)) hm); (focus (first | (dsimp only; done) | (dsimp only; rfl) | rfl))) | ((apply K_brk (s' := (_, _)) hm); (focus (first | (dsimp only; done) | (dsimp only; rfl) | rfl))) | (((with_reducible apply K_brkN hm); (focus decide); intro r hm)) | (((with_reducible apply K_brkR hm); intro r hm)) | (((with_reducible apply LoopB.of); (focus (first | (dsimp only; done) | (dsimp only; rfl) | rfl)); (focus ((intro _; repeat' (first | with_reducible exact impC_end | with_reducible exact impC_endF | with_reducible refine impC_seq ?_ | with_reducible refine impC_block ?_ | ((with_reducible refine impC_rnd ?_); intro _) | ((with_reducible refine impC_brk ?_); intro _))))); (intro s o hm; first | unfold sc_interchangeref3_FindIn_L1 | unfold sc_interchangeref3_FindIn_L2); rotate_left; intro s hm)) | (((apply imp_stT; (repeat' (first | with_reducible exact keepT_nil | with_reducible exact keepC_nil | with_reducible apply keepT_cons | with_reducible apply keepC_cons | ((with_reducible apply svle_eq); (focus (first | (simp only [push_cast, seval]; rfl) | rfl)); (focus ((repeat' (first | rfl | (with_reducible first | apply fT_Tapi_Branch | apply fT_Tapi_Element | apply fT_Tapi_Segment | apply fT_Tinterchangeref3_Path | apply f_optN | apply f_optS | apply f_some | apply f_tup | apply f_agg | apply f_ptr | apply f_fn | apply dv_slice | apply sv_d | apply f_cons | apply fold_nil | apply fold_cons | apply fold_app | apply f_rowI | apply f_rowY | apply f_rowS | apply f_rowB | apply f_rowL) | (with_reducible apply f_byte; decide))); done))) | ((with_reducible apply svle_td); (focus (first | (simp only [push_cast, seval]; rfl) | rfl)); (focus (first | (simp only [push_cast, seval]; rfl) | rfl)); (focus ((repeat' (first | rfl | (with_reducible first | apply fT_Tapi_Branch | apply fT_Tapi_Element | apply fT_Tapi_Segment | apply fT_Tinterchangeref3_Path | apply f_optN | apply f_optS | apply f_some | apply f_tup | apply f_agg | apply f_ptr | apply f_fn | apply dv_slice | apply sv_d | apply f_cons | apply fold_nil | apply fold_cons | apply fold_app | apply f_rowI | apply f_rowY | apply f_rowS | apply f_rowB | apply f_rowL) | (with_reducible apply f_byte; decide))); done))) | ((with_reducible apply chle_eq); (focus (first | (simp only [push_cast, seval]; rfl) | rfl)); (first | with_reducible exact chle_rfl rfl | with_reducible exact chle_map0 | with_reducible apply chle_vec | with_reducible apply chle_box)) | (with_reducible first | apply cT_Tapi_Branch | apply cT_Tapi_Element | apply cT_Tapi_Segment | apply cT_Tinterchangeref3_Path | apply bcT_Tinterchangeref3_Path | apply r_shS | apply r_shI | apply r_rflO | apply r_oneO | apply r_appO | apply r_nilO | apply c_ownN | apply c_ownL | apply vc_rfl | apply vc_nil | apply vc_cons | apply r_rfl | apply r_rows | apply r_nil | apply r_app | apply r_cons | apply c_rowI | apply c_rowY | apply c_rowS | apply c_rowB | apply c_rowL))); done))))
noncomputable def m_interchangeref3_FindIn (x0 : List Tapi_Branch) (x1 : Tinterchangeref3_Path) : Option ((List (List UInt8))) := (sims_G7_1_5 x0 x1).1
theorem spec_interchangeref3_FindIn (x0 : List Tapi_Branch) (x1 : Tinterchangeref3_Path) : ∀ r, m_interchangeref3_FindIn x0 x1 = some r → PureSpec Tryz.prog 23 [.slice (List.map rTapi_Branch x0), .agg (rTinterchangeref3_Path x1)] (.slice (List.map rowS r)) := (sims_G7_1_5 x0 x1).2

/-- interchange/interchangeref3.Groups -/
def sc_interchangeref3_Groups : SC :=
  (.seq (.reg [.r 4 (.mv (.c (.nils))),
     .r 5 (.mv (.c (.d (.int .i64 0))))])
  (.seq (.seq (.reg [.r 9 (.mv (.t 0)),
     .c 10 (.f 21) [.t 9],
     .r 6 (.mv (.t 10))])
  (.seq (.reg [.r 11 (.mv (.t 6)),
     .r 12 (.bin .neq (.t 11) (.c (.d (.int .i64 0))))])
  (.cond (.t 12)
    (.seq (.reg [.r 13 (.mv (.t 6)),
       .r 4 (.mv (.c (.nils))),
       .r 5 (.mv (.t 13))])
    .ret)
    .skip)))
  (.seq (.reg [.r 15 (.mv (.t 1)),
     .c 16 (.f 27) [.t 15],
     .r 14 (.mv (.t 16)),
     .r 17 (.ext (.t 14) 0),
     .r 18 (.ext (.t 14) 1),
     .r 7 (.mv (.t 17)),
     .r 8 (.mv (.t 18))])
  (.seq (.seq (.reg [.r 19 (.mv (.t 8)),
     .r 20 (.bin .neq (.t 19) (.c (.d (.int .i64 0))))])
  (.cond (.t 20)
    (.seq (.reg [.r 21 (.mv (.t 8)),
       .r 4 (.mv (.c (.nils))),
       .r 5 (.mv (.t 21))])
    .ret)
    .skip))
  (.seq (.reg [.r 22 (.mv (.t 0)),
     .r 23 (.mv (.t 7)),
     .c 24 (.f 28) [.t 22, .t 23],
     .r 4 (.mv (.t 24)),
     .r 5 (.mv (.c (.d (.int .i64 0))))])
  .ret)))))
theorem fit_interchangeref3_Groups : fits Tryz.prog 11 Tryz.f11 sc_interchangeref3_Groups [.t 4, .t 5] 2 = true := by kernel_rfl

set_option maxRecDepth 100000 in
set_option maxHeartbeats 40000000 in
noncomputable def sims_G7_1_6 : (∀ (x0 : List Tapi_Branch) (x1 : List UInt8), {m : Option ((List (List Tapi_Branch)) × Int) // ∀ r, m = some r → PureSpec Tryz.prog 11 [.slice (List.map rTapi_Branch x0), .str x1] (.tup [.slice (List.map (rowL rTapi_Branch) r.1), .int .i64 r.2])}) := by
  (intro x0 x1; apply Subtype.mk; intro r hm; apply pure_walk Tryz.func11 fit_interchangeref3_Groups; unfold sc_interchangeref3_Groups)
  repeat' (first | with_reducible refine W_seq ?_ | with_reducible refine W_reg ?_ | with_reducible refine W_block ?_ | with_reducible refine W_skip ?_ | with_reducible refine W_ret ?_ | with_reducible refine W_exit ?_ | with_reducible refine O_nil ?_ | with_reducible refine K_seq ?_ | with_reducible refine K_seqE ?_ | with_reducible refine K_seqR ?_ | with_reducible refine K_block ?_ | with_reducible refine K_blockR ?_ | with_reducible refine K_blockE ?_ | ((with_reducible apply K_blockN); decide) | ((with_reducible apply O_r); (simp only [push_cast, seval]; rfl); (first | exact trivial | omega)) | ((with_reducible apply W_condT); (focus (simp only [push_cast, seval]; done))) | ((with_reducible apply W_condF); (focus (simp only [push_cast, seval]; done))) | ((with_reducible apply O_cF hm); (simp only [push_cast, seval]; rfl); (first | apply spec_interchangeref3_CheckTree _ | apply spec_interchangeref3_NamesOf _ | apply spec_interchangeref3_Inside FU _ _); (any_goals ((repeat' (first | rfl | (with_reducible first | apply fT_Tapi_Branch | apply fT_Tapi_Element | apply fT_Tapi_Segment | apply f_optN | apply f_optS | apply f_some | apply f_tup | apply f_agg | apply f_ptr | apply f_fn | apply dv_slice | apply sv_d | apply f_cons | apply fold_nil | apply fold_cons | apply fold_app | apply f_rowI | apply f_rowY | apply f_rowS | apply f_rowB | apply f_rowL) | (with_reducible apply f_byte; decide))); done)); intro x hm) | ((with_reducible apply S_condB hm); (simp only [push_cast, seval]; rfl); intro hm; rotate_left; intro hm) | ((with_reducible apply K_end2 hm); (focus (simp only [resOf, resL, RV.get, push_cast, seval]; rfl)); (focus (first | (dsimp only; done) | (dsimp only; rfl) | rfl)); (focus ((repeat' (first | rfl | (with_reducible first | apply fT_Tapi_Branch | apply fT_Tapi_Element | apply fT_Tapi_Segment | apply f_optN | apply f_optS | apply f_some | apply f_tup | apply f_agg | apply f_ptr | apply f_fn | apply dv_slice | apply sv_d | apply f_cons | apply fold_nil | apply fold_cons | apply fold_app | apply f_rowI | apply f_rowY | apply f_rowS | apply f_rowB | apply f_rowL) | (with_reducible apply f_byte; decide))); done))))
noncomputable def m_interchangeref3_Groups (x0 : List Tapi_Branch) (x1 : List UInt8) : Option ((List (List Tapi_Branch)) × Int) := (sims_G7_1_6 x0 x1).1
theorem spec_interchangeref3_Groups (x0 : List Tapi_Branch) (x1 : List UInt8) : ∀ r, m_interchangeref3_Groups x0 x1 = some r → PureSpec Tryz.prog 11 [.slice (List.map rTapi_Branch x0), .str x1] (.tup [.slice (List.map (rowL rTapi_Branch) r.1), .int .i64 r.2]) := (sims_G7_1_6 x0 x1).2

/-- interchange/scheme.namesOf -/
def sc_scheme_namesOf : SC :=
  (.seq (.reg [.r 2 (.mv (.c (.nils))),
     .r 3 (.mv (.c (.d (.bool false))))])
  (.seq (.reg [.r 5 (.mv (.t 0)),
     .c 6 (.f 41) [.t 5, .c (.d (.str [47]))],
     .r 4 (.mv (.t 6))])
  (.seq (.reg [.r 7 (.mv (.t 4)),
     .r 8 (.mv (.t 4)),
     .c 9 (.f 60) [.t 8, .f 67],
     .r 10 (.not (.t 9)),
     .r 2 (.mv (.t 7)),
     .r 3 (.mv (.t 10))])
  .ret)))
theorem fit_scheme_namesOf : fits Tryz.prog 40 Tryz.f40 sc_scheme_namesOf [.t 2, .t 3] 1 = true := by kernel_rfl

set_option maxRecDepth 100000 in
set_option maxHeartbeats 40000000 in
noncomputable def sims_G7_2_0 : (∀ (x0 : List UInt8), {m : Option ((List (List UInt8)) × Bool) // ∀ r, m = some r → PureSpec Tryz.prog 40 [.str x0] (.tup [.slice (List.map rowS r.1), .bool r.2])}) := by
  (intro x0; apply Subtype.mk; intro r hm; apply pure_walk Tryz.func40 fit_scheme_namesOf; unfold sc_scheme_namesOf)
  repeat' (first | with_reducible refine W_seq ?_ | with_reducible refine W_reg ?_ | with_reducible refine W_block ?_ | with_reducible refine W_skip ?_ | with_reducible refine W_ret ?_ | with_reducible refine W_exit ?_ | with_reducible refine O_nil ?_ | with_reducible refine K_seq ?_ | with_reducible refine K_seqE ?_ | with_reducible refine K_seqR ?_ | with_reducible refine K_block ?_ | with_reducible refine K_blockR ?_ | with_reducible refine K_blockE ?_ | ((with_reducible apply K_blockN); decide) | ((with_reducible apply O_r); (simp only [push_cast, seval]; rfl); (first | exact trivial | omega)) | ((with_reducible apply W_condT); (focus (simp only [push_cast, seval]; done))) | ((with_reducible apply W_condF); (focus (simp only [push_cast, seval]; done))) | ((with_reducible apply O_cF hm); (simp only [push_cast, seval]; rfl); (first | apply spec_strings_Split _ _ | apply spec_slices_ContainsFunc_string_string _ _ _ _ (fun a0 a1 r h => spec_strings_Split a0 a1 r h) | apply spec_slices_ContainsFunc_string_string _ _ _ _ (fun a0 r h => spec_scheme_namesOf_1 a0 r h) | apply spec_scheme_namesOf_1 _); (any_goals ((repeat' (first | rfl | (with_reducible first | apply f_optN | apply f_optS | apply f_some | apply f_tup | apply f_agg | apply f_ptr | apply f_fn | apply dv_slice | apply sv_d | apply f_cons | apply fold_nil | apply fold_cons | apply fold_app | apply f_rowI | apply f_rowY | apply f_rowS | apply f_rowB | apply f_rowL) | (with_reducible apply f_byte; decide))); done)); intro x hm) | ((with_reducible apply S_condB hm); (simp only [push_cast, seval]; rfl); intro hm; rotate_left; intro hm) | ((with_reducible apply K_end2 hm); (focus (simp only [resOf, resL, RV.get, push_cast, seval]; rfl)); (focus (first | (dsimp only; done) | (dsimp only; rfl) | rfl)); (focus ((repeat' (first | rfl | (with_reducible first | apply f_optN | apply f_optS | apply f_some | apply f_tup | apply f_agg | apply f_ptr | apply f_fn | apply dv_slice | apply sv_d | apply f_cons | apply fold_nil | apply fold_cons | apply fold_app | apply f_rowI | apply f_rowY | apply f_rowS | apply f_rowB | apply f_rowL) | (with_reducible apply f_byte; decide))); done))))
noncomputable def m_scheme_namesOf (x0 : List UInt8) : Option ((List (List UInt8)) × Bool) := (sims_G7_2_0 x0).1
theorem spec_scheme_namesOf (x0 : List UInt8) : ∀ r, m_scheme_namesOf x0 = some r → PureSpec Tryz.prog 40 [.str x0] (.tup [.slice (List.map rowS r.1), .bool r.2]) := (sims_G7_2_0 x0).2

def sc_interchangeref3_PathOf_L1 : SC :=
  (.seq (.seq (.reg [.r 16 (.mv (.t 6)),
     .r 17 (.bin .add (.t 16) (.c (.d (.int .i64 1)))),
     .r 18 (.mv (.t 4)),
     .r 19 (.len (.t 18)),
     .r 20 (.bin .lss (.t 17) (.t 19))])
  (.cond (.t 20)
    .skip
    (.exit 0)))
  (.seq (.block 1 (.seq (.seq (.reg [.r 23 (.mv (.t 4)),
       .r 24 (.mv (.t 6)),
       .r 25 (.idx 1 (.t 23) (.t 24)),
       .o 26 (.ld1 (.t 25)),
       .c 27 (.f 48) [.t 26],
       .r 28 (.not (.t 27))])
    (.cond (.t 28)
      (.seq (.reg [.r 29 (.build [.nils, .d (.str []), .d (.int .i64 0), .d (.int .i64 0)] []),
         .w 0 (.st 4 (.t 2) (.t 29)),
         .r 3 (.mv (.c (.d (.int .i64 10))))])
      .ret)
      .skip))
    (.regE [.r 30 (.fld 0 (.t 5)),
       .r 31 (.ld1 (.t 30)),
       .r 32 (.mv (.t 4)),
       .r 33 (.mv (.t 6)),
       .r 34 (.idx 1 (.t 32) (.t 33)),
       .r 35 (.ld1 (.t 34)),
       .r 36 (.bslice 1 [.t 35]),
       .x 37 (.app 9 1 (.t 31) (.t 36)) [],
       .r 38 (.fld 0 (.t 5)),
       .x 0 (.st 1 (.t 38) (.t 37)) []])))
  (.reg [.r 21 (.mv (.t 6)),
     .r 22 (.bin .add (.t 21) (.c (.d (.int .i64 1)))),
     .r 6 (.mv (.t 22))])))
def sc_interchangeref3_PathOf_B1 : SC := .block 0 (.loop sc_interchangeref3_PathOf_L1)
def sc_interchangeref3_PathOf_R20 : SC := (.reg [.o 90 (.ldA 4 (.t 5)),
     .w 0 (.st 4 (.t 2) (.t 90)),
     .r 3 (.mv (.c (.d (.int .i64 0))))])
/-- interchange/interchangeref3.PathOf -/
def sc_interchangeref3_PathOf : SC :=
  (.seq (.reg [.w 2 (.boxM (.c (.agg [.nils, .d (.str []), .d (.int .i64 0), .d (.int .i64 0)]))),
     .r 3 (.mv (.c (.d (.int .i64 0))))])
  (.seq (.seq (.reg [.r 9 (.mv (.t 0)),
     .r 10 (.lenT (.t 9)),
     .r 11 (.bin .gtr (.t 10) (.c (.d (.int .i64 200))))])
  (.cond (.t 11)
    (.seq (.reg [.r 12 (.build [.nils, .d (.str []), .d (.int .i64 0), .d (.int .i64 0)] []),
       .w 0 (.st 4 (.t 2) (.t 12)),
       .r 3 (.mv (.c (.d (.int .i64 2))))])
    .ret)
    .skip))
  (.seq (.reg [.r 13 (.mv (.t 0)),
     .c 14 (.f 41) [.t 13, .c (.d (.str [47]))],
     .r 4 (.mv (.t 14))])
  (.seq (.reg [.r 15 (.build [.nils, .d (.str []), .d (.int .i64 0), .d (.int .i64 0)] []),
     .w 5 (.boxM (.c (.agg [.nils, .d (.str []), .d (.int .i64 0), .d (.int .i64 0)]))),
     .w 0 (.st 4 (.t 5) (.t 15))])
  (.seq (.seq (.reg [.r 6 (.mv (.c (.d (.int .i64 0))))])
  sc_interchangeref3_PathOf_B1)
  (.seq (.reg [.r 39 (.mv (.t 4)),
     .r 40 (.mv (.t 4)),
     .r 41 (.len (.t 40)),
     .r 42 (.bin .sub (.t 41) (.c (.d (.int .i64 1)))),
     .r 43 (.idx 1 (.t 39) (.t 42)),
     .o 44 (.ld1 (.t 43)),
     .c 45 (.f 41) [.t 44, .c (.d (.str [46]))],
     .r 7 (.mv (.t 45))])
  (.seq (.reg (.r 46 (.mv (.t 7)) :: .r 47 (.len (.t 46)) :: .r 48 (.bin .leq (.t 47) (.c (.d (.int .i64 3)))) :: .r 49 (.mv (.t 48)) :: gapp [50, 51, 52, 53] 49 true (.r 50 (.mv (.t 7)) :: .r 51 (.idx 1 (.t 50) (.c (.d (.int .i64 0)))) :: .r 52 (.ld1 (.t 51)) :: .c 53 (.f 49) [.t 52] :: []) (.r 54 (.pick (.t 49) (.t 53) (.c (.d (.bool false)))) :: .r 8 (.mv (.t 54)) :: [])))
  (.seq (.reg [.r 55 (.mv (.t 7)),
     .r 56 (.idx 1 (.t 55) (.c (.d (.int .i64 0)))),
     .o 57 (.ld1 (.t 56)),
     .r 58 (.fld 1 (.t 5)),
     .w 0 (.st 1 (.t 58) (.t 57))])
  (.seq (.seq (.reg (.r 59 (.mv (.t 8)) :: .r 60 (.mv (.t 59)) :: gapp [61, 62, 63] 60 true (.r 61 (.mv (.t 7)) :: .r 62 (.len (.t 61)) :: .r 63 (.bin .gtr (.t 62) (.c (.d (.int .i64 1)))) :: []) (.r 64 (.pick (.t 60) (.t 63) (.c (.d (.bool false)))) :: [])))
  (.cond (.t 64)
    (.reg [.r 66 (.mv (.t 7)),
       .r 67 (.idx 1 (.t 66) (.c (.d (.int .i64 1)))),
       .o 68 (.ld1 (.t 67)),
       .c 69 (.f 50) [.t 68, .c (.d (.int .i64 50))],
       .r 65 (.mv (.t 69)),
       .r 70 (.ext (.t 65) 0),
       .r 71 (.ext (.t 65) 1),
       .r 72 (.fld 2 (.t 5)),
       .w 0 (.st 1 (.t 72) (.t 70)),
       .r 8 (.mv (.t 71))])
    .skip))
  (.seq (.seq (.reg (.r 73 (.mv (.t 8)) :: .r 74 (.mv (.t 73)) :: gapp [75, 76, 77] 74 true (.r 75 (.mv (.t 7)) :: .r 76 (.len (.t 75)) :: .r 77 (.bin .gtr (.t 76) (.c (.d (.int .i64 2)))) :: []) (.r 78 (.pick (.t 74) (.t 77) (.c (.d (.bool false)))) :: [])))
  (.cond (.t 78)
    (.reg [.r 80 (.mv (.t 7)),
       .r 81 (.idx 1 (.t 80) (.c (.d (.int .i64 2)))),
       .o 82 (.ld1 (.t 81)),
       .c 83 (.f 50) [.t 82, .c (.d (.int .i64 20))],
       .r 79 (.mv (.t 83)),
       .r 84 (.ext (.t 79) 0),
       .r 85 (.ext (.t 79) 1),
       .r 86 (.fld 3 (.t 5)),
       .w 0 (.st 1 (.t 86) (.t 84)),
       .r 8 (.mv (.t 85))])
    .skip))
  (.seq (.seq (.reg [.r 87 (.mv (.t 8)),
     .r 88 (.not (.t 87))])
  (.cond (.t 88)
    (.seq (.reg [.r 89 (.build [.nils, .d (.str []), .d (.int .i64 0), .d (.int .i64 0)] []),
       .w 0 (.st 4 (.t 2) (.t 89)),
       .r 3 (.mv (.c (.d (.int .i64 10))))])
    .ret)
    .skip))
  (.seq sc_interchangeref3_PathOf_R20
  .ret))))))))))))
theorem fit_interchangeref3_PathOf : fits Tryz.prog 22 Tryz.f22 sc_interchangeref3_PathOf [.cell 2 4, .t 3] 1 = true := by kernel_rfl

set_option maxRecDepth 100000 in
set_option maxHeartbeats 40000000 in
noncomputable def sims_G7_2_1 : (∀ (x0 : List UInt8), {m : Option (Tinterchangeref3_Path × Int) // ∀ r, m = some r → PureSpec Tryz.prog 22 [.str x0] (.tup [.agg (rTinterchangeref3_Path r.1), .int .i64 r.2])}) := by
  (intro x0; apply Subtype.mk; intro r hm; apply pure_walk Tryz.func22 fit_interchangeref3_PathOf; unfold sc_interchangeref3_PathOf)
  repeat' (first | ((with_reducible apply W_openBs (id := 2) (cid := 1064) (off := 0) (n := 1) (e := 9)); (focus (simp only [push_cast, seval]; (try rfl); done)); (focus (simp only [push_cast, seval]; (try rfl); done)); (focus decide); (focus rfl); (focus (intro _; rfl)); (focus (simp only [push_cast, seval]; (try rfl); done))) | ((with_reducible apply W_nilB (id := 2) (cid := 1064) (off := 0) (n := 1) (e := 9)); (focus (simp only [push_cast, seval]; (try rfl); done)); (focus (simp only [push_cast, seval]; (try rfl); done)); (focus decide); (focus (simp only [push_cast, seval]; (try rfl); done))) | ((with_reducible apply W_openBs (id := 5) (cid := 1160) (off := 0) (n := 1) (e := 9)); (focus (simp only [push_cast, seval]; (try rfl); done)); (focus (simp only [push_cast, seval]; (try rfl); done)); (focus decide); (focus rfl); (focus (intro _; rfl)); (focus (simp only [push_cast, seval]; (try rfl); done))) | ((with_reducible apply W_nilB (id := 5) (cid := 1160) (off := 0) (n := 1) (e := 9)); (focus (simp only [push_cast, seval]; (try rfl); done)); (focus (simp only [push_cast, seval]; (try rfl); done)); (focus decide); (focus (simp only [push_cast, seval]; (try rfl); done))) | ((with_reducible apply W_moveBV (id := 5) (c := 37) (cid := 1160) (off := 0) (n := 1) (e := 9)); (focus (simp only [push_cast, seval]; (try rfl); done)); (focus (simp only [push_cast, seval]; (try rfl); done)); (focus decide); (focus decide); (focus (simp only [push_cast, seval]; (try rfl); done)); (focus ((repeat' (first | (with_reducible first | apply cT_Tinterchangeref3_Path | apply bcT_Tinterchangeref3_Path | apply r_shS | apply r_shI | apply r_rflO | apply r_oneO | apply r_appO | apply r_nilO | apply c_ownN | apply c_ownL | apply vc_rfl | apply vc_nil | apply vc_cons | apply r_rfl | apply r_rows | apply r_nil | apply r_app | apply r_cons | apply c_rowI | apply c_rowY | apply c_rowS | apply c_rowB | apply c_rowL | apply oT_Tinterchangeref3_Path) | ((with_reducible apply svle_rfl); (focus ((repeat' (first | rfl | (with_reducible first | apply fT_Tinterchangeref3_Path | apply f_optN | apply f_optS | apply f_some | apply f_tup | apply f_agg | apply f_ptr | apply f_fn | apply dv_slice | apply sv_d | apply f_cons | apply fold_nil | apply fold_cons | apply fold_app | apply f_rowI | apply f_rowY | apply f_rowS | apply f_rowB | apply f_rowL) | (with_reducible apply f_byte; decide))); done))) | ((with_reducible apply cle_own); (focus rfl); (focus ((repeat' (first | rfl | (with_reducible first | apply fT_Tinterchangeref3_Path | apply f_optN | apply f_optS | apply f_some | apply f_tup | apply f_agg | apply f_ptr | apply f_fn | apply dv_slice | apply sv_d | apply f_cons | apply fold_nil | apply fold_cons | apply fold_app | apply f_rowI | apply f_rowY | apply f_rowS | apply f_rowB | apply f_rowL) | (with_reducible apply f_byte; decide))); done))) | ((with_reducible apply cle_nil); (focus rfl)) | ((with_reducible apply cle_nilM); (focus rfl)) | ((with_reducible apply r_shG); (focus rfl); (focus (intro _; rfl))))); done)); (focus (intro _; rfl)); (focus (simp only [push_cast, seval]; (try rfl); done)); (focus (first | decide | (simp only [push_cast, seval]; (try rfl); done))); (focus (simp only [push_cast, seval]; (try rfl); done))) | ((apply W_frz (x := sc_interchangeref3_PathOf_R20) (id := 1160)); (focus (simp only [push_cast, seval]; (try rfl); done)); (focus (simp only [push_cast, seval]; (try rfl); done)); unfold sc_interchangeref3_PathOf_R20) | with_reducible refine W_seq ?_ | with_reducible refine W_reg ?_ | with_reducible refine W_regE ?_ | with_reducible refine W_block ?_ | with_reducible refine W_skip ?_ | with_reducible refine W_ret ?_ | with_reducible refine W_exit ?_ | with_reducible refine O_nil ?_ | with_reducible refine K_seq ?_ | with_reducible refine K_seqE ?_ | with_reducible refine K_seqR ?_ | with_reducible refine K_block ?_ | with_reducible refine K_blockR ?_ | with_reducible refine K_blockE ?_ | ((with_reducible apply K_blockN); decide) | with_reducible refine O_o2r ?_ | ((with_reducible apply O_idxr hm); (iterate 2 (simp only [push_cast, seval]; rfl)); (intro _; rfl); intro e hm) | ((with_reducible apply O_idxVr hm); (iterate 3 (simp only [push_cast, seval]; rfl)); intro e hm) | ((with_reducible apply O_idxLr hm (row := rowS)); (iterate 2 (simp only [push_cast, seval]; rfl)); (focus ((repeat' (first | rfl | (with_reducible first | apply fT_Tinterchangeref3_Path | apply f_optN | apply f_optS | apply f_some | apply f_tup | apply f_agg | apply f_ptr | apply f_fn | apply dv_slice | apply sv_d | apply f_cons | apply fold_nil | apply fold_cons | apply fold_app | apply f_rowI | apply f_rowY | apply f_rowS | apply f_rowB | apply f_rowL) | (with_reducible apply f_byte; decide))); done)); (simp only [push_cast, seval]; rfl); (intro _; rfl); intro e hm) | ((with_reducible apply O_r); (simp only [push_cast, seval]; rfl); (first | exact trivial | omega)) | ((with_reducible apply O_ldV1r hm); (iterate 2 (simp only [push_cast, seval]; rfl)); (intro _; rfl); intro e hm) | ((with_reducible apply O_ldAVr hm); (iterate 2 (simp only [push_cast, seval]; rfl)); (intro _; rfl); intro e hm) | ((with_reducible apply O_strr hm); (iterate 2 (simp only [push_cast, seval]; rfl)); intro hm) | ((with_reducible apply O_andX hm); (simp only [push_cast, seval]; rfl); (iterate 2 rfl); intro v hm; rotate_left; intro v g hm) | ((with_reducible apply O_and hm); (simp only [push_cast, seval]; rfl); rfl; intro v hm; rotate_left; intro v g hm) | ((with_reducible apply W_condT); (focus (simp only [push_cast, seval]; done))) | ((with_reducible apply W_condF); (focus (simp only [push_cast, seval]; done))) | ((with_reducible apply O_cF hm); (simp only [push_cast, seval]; rfl); (first | apply spec_strings_Split _ _ | apply spec_interchangeref2_IsName _ | apply spec_interchangeref2_IsTag _ | apply spec_interchangeref3_small _ _); (any_goals ((repeat' (first | rfl | (with_reducible first | apply fT_Tinterchangeref3_Path | apply f_optN | apply f_optS | apply f_some | apply f_tup | apply f_agg | apply f_ptr | apply f_fn | apply dv_slice | apply sv_d | apply f_cons | apply fold_nil | apply fold_cons | apply fold_app | apply f_rowI | apply f_rowY | apply f_rowS | apply f_rowB | apply f_rowL) | (with_reducible apply f_byte; decide))); done)); intro x hm) | ((with_reducible apply O_clS hm); (simp only [push_cast, seval]; rfl); (focus (first | exact spec_strings_Split _ _ | exact spec_interchangeref2_IsName _ | exact spec_interchangeref2_IsTag _ | exact spec_interchangeref3_small _ _)); (intro _; rfl); intro x hm) | ((with_reducible apply O_w); (simp only [push_cast, seval]; rfl); (first | exact trivial | omega)) | ((with_reducible apply O_appL hm (row := rowS)); (iterate 5 (simp only [push_cast, seval]; rfl)); (focus ((repeat' (first | rfl | (with_reducible first | apply fT_Tinterchangeref3_Path | apply f_optN | apply f_optS | apply f_some | apply f_tup | apply f_agg | apply f_ptr | apply f_fn | apply dv_slice | apply sv_d | apply f_cons | apply fold_nil | apply fold_cons | apply fold_app | apply f_rowI | apply f_rowY | apply f_rowS | apply f_rowB | apply f_rowL) | (with_reducible apply f_byte; decide))); done)); (focus ((repeat' (first | rfl | (with_reducible first | apply fT_Tinterchangeref3_Path | apply f_optN | apply f_optS | apply f_some | apply f_tup | apply f_agg | apply f_ptr | apply f_fn | apply dv_slice | apply sv_d | apply f_cons | apply fold_nil | apply fold_cons | apply fold_app | apply f_rowI | apply f_rowY | apply f_rowS | apply f_rowB | apply f_rowL) | (with_reducible apply f_byte; decide))); done)); rfl; decide; (intro _; rfl); intro hm) | ((with_reducible apply O_appV hm); (iterate 4 (simp only [push_cast, seval]; rfl)); (focus ((repeat' (first | rfl | (with_reducible first | apply fT_Tinterchangeref3_Path | apply f_optN | apply f_optS | apply f_some | apply f_tup | apply f_agg | apply f_ptr | apply f_fn | apply dv_slice | apply sv_d | apply f_cons | apply fold_nil | apply fold_cons | apply fold_app | apply f_rowI | apply f_rowY | apply f_rowS | apply f_rowB | apply f_rowL) | (with_reducible apply f_byte; decide))); done)); decide; (intro _; rfl); intro hm) | ((with_reducible apply O_appN hm); (focus (simp only [push_cast, seval]; done)); (iterate 2 (simp only [push_cast, seval]; rfl)); (focus ((repeat' (first | rfl | (with_reducible first | apply fT_Tinterchangeref3_Path | apply f_optN | apply f_optS | apply f_some | apply f_tup | apply f_agg | apply f_ptr | apply f_fn | apply dv_slice | apply sv_d | apply f_cons | apply fold_nil | apply fold_cons | apply fold_app | apply f_rowI | apply f_rowY | apply f_rowS | apply f_rowB | apply f_rowL) | (with_reducible apply f_byte; decide))); done)); decide; (intro _; rfl); intro hm) | ((with_reducible apply O_stVA hm); (iterate 4 (simp only [push_cast, seval]; rfl)); (focus ((repeat' (first | rfl | (with_reducible first | apply fT_Tinterchangeref3_Path | apply f_optN | apply f_optS | apply f_some | apply f_tup | apply f_agg | apply f_ptr | apply f_fn | apply dv_slice | apply sv_d | apply f_cons | apply fold_nil | apply fold_cons | apply fold_app | apply f_rowI | apply f_rowY | apply f_rowS | apply f_rowB | apply f_rowL) | (with_reducible apply f_byte; decide))); done)); decide; (intro _; rfl); intro e hm) | ((with_reducible apply O_stV hm); (iterate 3 (simp only [push_cast, seval]; rfl)); rfl; (intro _; rfl); rfl; (focus (intro a; simp only [push_cast, seval]; rfl)); (focus (intro a; (repeat' (first | rfl | with_reducible apply eT_Tinterchangeref3_Path)); done)); intro e hm) | ((with_reducible apply O_stVAX hm); (iterate 3 (simp only [push_cast, seval]; rfl)); (focus ((repeat' (first | rfl | (with_reducible first | apply fT_Tinterchangeref3_Path | apply f_optN | apply f_optS | apply f_some | apply f_tup | apply f_agg | apply f_ptr | apply f_fn | apply dv_slice | apply sv_d | apply f_cons | apply fold_nil | apply fold_cons | apply fold_app | apply f_rowI | apply f_rowY | apply f_rowS | apply f_rowB | apply f_rowL) | (with_reducible apply f_byte; decide))); done)); (intro _; rfl); (focus ((repeat' (first | exact Rer_nil | ((with_reducible apply Rer_cons); (focus (simp only [push_cast, seval]; rfl)); (focus (first | exact trivial | omega)); (focus (simp only [push_cast, seval]))))); done)); intro e hm) | ((with_reducible apply O_appVX hm); (iterate 2 (simp only [push_cast, seval]; rfl)); (focus ((repeat' (first | rfl | (with_reducible first | apply eR_nil | apply eR_app | apply eR_cons | apply eT_Tinterchangeref3_Path | apply eR_I | apply eR_Y | apply eR_S | apply eR_B) | (with_reducible apply sv_d; (focus ((repeat' (first | rfl | (with_reducible first | apply fT_Tinterchangeref3_Path | apply f_optN | apply f_optS | apply f_some | apply f_tup | apply f_agg | apply f_ptr | apply f_fn | apply dv_slice | apply sv_d | apply f_cons | apply fold_nil | apply fold_cons | apply fold_app | apply f_rowI | apply f_rowY | apply f_rowS | apply f_rowB | apply f_rowL) | (with_reducible apply f_byte; decide))); done))))); done)); (simp only [push_cast, seval]; rfl); (focus ((repeat' (first | rfl | (with_reducible first | apply eR_nil | apply eR_app | apply eR_cons | apply eT_Tinterchangeref3_Path | apply eR_I | apply eR_Y | apply eR_S | apply eR_B) | (with_reducible apply sv_d; (focus ((repeat' (first | rfl | (with_reducible first | apply fT_Tinterchangeref3_Path | apply f_optN | apply f_optS | apply f_some | apply f_tup | apply f_agg | apply f_ptr | apply f_fn | apply dv_slice | apply sv_d | apply f_cons | apply fold_nil | apply fold_cons | apply fold_app | apply f_rowI | apply f_rowY | apply f_rowS | apply f_rowB | apply f_rowL) | (with_reducible apply f_byte; decide))); done))))); done)); (intro _; rfl); (focus ((repeat' (first | exact Rer_nil | ((with_reducible apply Rer_cons); (focus (simp only [push_cast, seval]; rfl)); (focus (first | exact trivial | omega)); (focus (simp only [push_cast, seval]))))); done)); intro hm) | ((with_reducible apply O_appX2 hm); (iterate 4 (simp only [push_cast, seval]; rfl)); rfl; (focus ((repeat' (first | exact Rer_nil | ((with_reducible apply Rer_cons); (focus (simp only [push_cast, seval]; rfl)); (focus (first | exact trivial | omega)); (focus (simp only [push_cast, seval]))))); done)); intro hm) | ((with_reducible apply O_appNX hm); (focus (simp only [push_cast, seval]; done)); (iterate 2 (simp only [push_cast, seval]; rfl)); rfl; (focus ((repeat' (first | exact Rer_nil | ((with_reducible apply Rer_cons); (focus (simp only [push_cast, seval]; rfl)); (focus (first | exact trivial | omega)); (focus (simp only [push_cast, seval]))))); done)); intro hm) | ((with_reducible apply O_stVX hm); (iterate 3 (simp only [push_cast, seval]; rfl)); rfl; (intro _; rfl); rfl; (focus (intro a; simp only [push_cast, seval]; rfl)); (focus (intro a; (repeat' (first | rfl | with_reducible apply eT_Tinterchangeref3_Path)); done)); (focus (intro _; (repeat' (first | exact Rer_nil | ((with_reducible apply Rer_cons); (focus (simp only [push_cast, seval]; rfl)); (focus (first | exact trivial | omega)); (focus (simp only [push_cast, seval]))))); done)); intro e hm) | ((with_reducible apply O_x); (simp only [push_cast, seval]; rfl); (first | exact trivial | omega); (focus ((repeat' (first | exact Rer_nil | ((with_reducible apply Rer_cons); (focus (simp only [push_cast, seval]; rfl)); (focus (first | exact trivial | omega)); (focus (simp only [push_cast, seval]))))); done))) | ((with_reducible apply S_condB hm); (simp only [push_cast, seval]; rfl); intro hm; rotate_left; intro hm) | ((with_reducible apply K_end2 hm); (focus (simp only [resOf, resL, RV.get, push_cast, seval]; rfl)); (focus (first | (dsimp only; done) | (dsimp only; rfl) | rfl)); (focus ((repeat' (first | rfl | (with_reducible first | apply fT_Tinterchangeref3_Path | apply f_optN | apply f_optS | apply f_some | apply f_tup | apply f_agg | apply f_ptr | apply f_fn | apply dv_slice | apply sv_d | apply f_cons | apply fold_nil | apply fold_cons | apply fold_app | apply f_rowI | apply f_rowY | apply f_rowS | apply f_rowB | apply f_rowL) | (with_reducible apply f_byte; decide))); done))) | ((with_reducible apply K_bool hm); (simp only [push_cast, seval]; rfl)) | ((with_reducible apply K_leave hm); intro r hm) | ((with_reducible apply K_leaveR hm); intro r hm) | ((apply S_loopY (b := 0) (X := sc_interchangeref3_PathOf_B1) (x := sc_interchangeref3_PathOf_L1) rfl (fun (c : SV) (s : (List (List UInt8)) × (List UInt8) × Int × Int × (List (List UInt8)) × (List UInt8) × Int × Int × Int) => st [(2, .ref 2 0), (4, c), (5, .ref 5 0), (6, .d (.int .i64 s.2.2.2.2.2.2.2.2))] [(1064, .vec 9 1 (vrow rowS s.1)), (2, .box (bT_Tinterchangeref3_Path 1064 s.2.1 s.2.2.1 s.2.2.2.1)), (1160, .vec 9 1 (vrow rowS s.2.2.2.2.1)), (5, .box (bT_Tinterchangeref3_Path 1160 s.2.2.2.2.2.1 s.2.2.2.2.2.2.1 s.2.2.2.2.2.2.2.1))]) (c := _) (s0 := (_, _, _, _, _, _, _, _, _)) hm); (focus (first | (dsimp only; done) | (dsimp only; rfl) | rfl)); (with_reducible refine Then.mk ?_ ?_)) | ((apply K_next (s' := (_, _, _, _, _, _, _, _, _)) hm); (focus (first | (dsimp only; done) | (dsimp only; rfl) | rfl))) | ((apply K_brk (s' := (_, _, _, _, _, _, _, _, _)) hm); (focus (first | (dsimp only; done) | (dsimp only; rfl) | rfl))) | (((with_reducible apply K_brkN hm); (focus decide); intro r hm)) | (((with_reducible apply K_brkR hm); intro r hm)) | (((with_reducible apply LoopB.of); (focus (first | (dsimp only; done) | (dsimp only; rfl) | rfl)); (focus ((intro _; repeat' (first | with_reducible exact impC_end | with_reducible exact impC_endF | with_reducible refine impC_seq ?_ | with_reducible refine impC_block ?_ | ((with_reducible refine impC_rnd ?_); intro _) | ((with_reducible refine impC_brk ?_); intro _))))); (intro s o hm; first | unfold sc_interchangeref3_PathOf_L1); rotate_left; intro s hm)) | (((with_reducible apply Imp.trans); (focus ((apply imp_openBs (id := 2) (cid := 1064) (off := 0) (n := 1) (e := 9)); (focus (simp only [push_cast, seval]; (try rfl); done)); (focus (simp only [push_cast, seval]; (try rfl); done)); (focus decide); (focus rfl); (focus (intro _; rfl)); (focus (simp only [push_cast, seval]; (try rfl); done)))))) | (((with_reducible apply Imp.trans); (focus ((apply imp_nilB (id := 2) (cid := 1064) (off := 0) (n := 1) (e := 9)); (focus (simp only [push_cast, seval]; (try rfl); done)); (focus (simp only [push_cast, seval]; (try rfl); done)); (focus decide); (focus (simp only [push_cast, seval]; (try rfl); done)))))) | (((with_reducible apply Imp.trans); (focus ((apply imp_openBs (id := 5) (cid := 1160) (off := 0) (n := 1) (e := 9)); (focus (simp only [push_cast, seval]; (try rfl); done)); (focus (simp only [push_cast, seval]; (try rfl); done)); (focus decide); (focus rfl); (focus (intro _; rfl)); (focus (simp only [push_cast, seval]; (try rfl); done)))))) | (((with_reducible apply Imp.trans); (focus ((apply imp_nilB (id := 5) (cid := 1160) (off := 0) (n := 1) (e := 9)); (focus (simp only [push_cast, seval]; (try rfl); done)); (focus (simp only [push_cast, seval]; (try rfl); done)); (focus decide); (focus (simp only [push_cast, seval]; (try rfl); done)))))) | (((apply imp_stT; (repeat' (first | with_reducible exact keepT_nil | with_reducible exact keepC_nil | with_reducible apply keepT_cons | with_reducible apply keepC_cons | ((with_reducible apply svle_eq); (focus (first | (simp only [push_cast, seval]; rfl) | rfl)); (focus ((repeat' (first | rfl | (with_reducible first | apply fT_Tinterchangeref3_Path | apply f_optN | apply f_optS | apply f_some | apply f_tup | apply f_agg | apply f_ptr | apply f_fn | apply dv_slice | apply sv_d | apply f_cons | apply fold_nil | apply fold_cons | apply fold_app | apply f_rowI | apply f_rowY | apply f_rowS | apply f_rowB | apply f_rowL) | (with_reducible apply f_byte; decide))); done))) | ((with_reducible apply svle_td); (focus (first | (simp only [push_cast, seval]; rfl) | rfl)); (focus (first | (simp only [push_cast, seval]; rfl) | rfl)); (focus ((repeat' (first | rfl | (with_reducible first | apply fT_Tinterchangeref3_Path | apply f_optN | apply f_optS | apply f_some | apply f_tup | apply f_agg | apply f_ptr | apply f_fn | apply dv_slice | apply sv_d | apply f_cons | apply fold_nil | apply fold_cons | apply fold_app | apply f_rowI | apply f_rowY | apply f_rowS | apply f_rowB | apply f_rowL) | (with_reducible apply f_byte; decide))); done))) | ((with_reducible apply chle_eq); (focus (first | (simp only [push_cast, seval]; rfl) | rfl)); (first | with_reducible exact chle_rfl rfl | with_reducible exact chle_map0 | with_reducible apply chle_vec | with_reducible apply chle_box)) | (with_reducible first | apply cT_Tinterchangeref3_Path | apply bcT_Tinterchangeref3_Path | apply r_shS | apply r_shI | apply r_rflO | apply r_oneO | apply r_appO | apply r_nilO | apply c_ownN | apply c_ownL | apply vc_rfl | apply vc_nil | apply vc_cons | apply r_rfl | apply r_rows | apply r_nil | apply r_app | apply r_cons | apply c_rowI | apply c_rowY | apply c_rowS | apply c_rowB | apply c_rowL))); done))))
noncomputable def m_interchangeref3_PathOf (x0 : List UInt8) : Option (Tinterchangeref3_Path × Int) := (sims_G7_2_1 x0).1
theorem spec_interchangeref3_PathOf (x0 : List UInt8) : ∀ r, m_interchangeref3_PathOf x0 = some r → PureSpec Tryz.prog 22 [.str x0] (.tup [.agg (rTinterchangeref3_Path r.1), .int .i64 r.2]) := (sims_G7_2_1 x0).2

def sc_scheme_WayOf_L1 : SC :=
  (.seq (.reg [.r 55 (.bin .lss (.t 54) (.t 53))])
  (.seq (.cond (.t 55)
    .skip
    (.exit 0))
  (.seq (.block 1 (.seq (.reg [.r 56 (.mv (.t 54)),
       .r 57 (.idx 1 (.t 52) (.t 54)),
       .o 58 (.ld1 (.t 57)),
       .r 9 (.mv (.t 56)),
       .r 10 (.mv (.t 58))])
    (.seq (.reg [.r 60 (.mv (.t 10)),
       .c 61 (.f 43) [.t 60, .c (.d (.int .i64 3))],
       .r 59 (.mv (.t 61)),
       .r 62 (.ext (.t 59) 0),
       .r 63 (.ext (.t 59) 1),
       .r 11 (.mv (.t 62)),
       .r 12 (.mv (.t 63))])
    (.seq (.seq (.reg (.r 64 (.mv (.t 12)) :: .r 65 (.not (.t 64)) :: .r 66 (.mv (.t 65)) :: gapp [67, 68, 69, 70, 71, 72] 66 false (.r 67 (.mv (.t 11)) :: .r 68 (.bslice 1 [.c (.d (.int .i64 50)), .c (.d (.int .i64 20))]) :: .r 69 (.mv (.t 9)) :: .r 70 (.idx 1 (.t 68) (.t 69)) :: .r 71 (.ld1 (.t 70)) :: .c 72 (.f 44) [.t 67, .c (.d (.int .i64 1)), .t 71] :: []) (.r 73 (.pick (.t 66) (.c (.d (.bool true))) (.t 72)) :: [])))
    (.cond (.t 73)
      (.seq (.reg [.o 74 (.ldA 4 (.t 4)),
         .w 0 (.st 4 (.t 2) (.t 74)),
         .r 3 (.mv (.c (.d (.bool false))))])
      .ret)
      .skip))
    (.seq (.reg [.r 75 (.mv (.t 9)),
       .r 76 (.bin .eql (.t 75) (.c (.d (.int .i64 0))))])
    (.cond (.t 76)
      (.reg [.r 77 (.mv (.t 11)),
         .r 78 (.fld 2 (.t 4)),
         .w 0 (.st 1 (.t 78) (.t 77))])
      (.reg [.r 79 (.mv (.t 11)),
         .r 80 (.fld 3 (.t 4)),
         .w 0 (.st 1 (.t 80) (.t 79))])))))))
  (.reg [.r 81 (.bin .add (.t 54) (.c (.d (.int .i64 1)))),
     .r 54 (.mv (.t 81))]))))
def sc_scheme_WayOf_B1 : SC := .block 0 (.loop sc_scheme_WayOf_L1)
/-- interchange/scheme.WayOf -/
def sc_scheme_WayOf : SC :=
  (.seq (.reg [.w 2 (.boxM (.c (.agg [.nils, .d (.str []), .d (.int .i64 0), .d (.int .i64 0)]))),
     .r 3 (.mv (.c (.d (.bool false))))])
  (.seq (.reg [.r 13 (.build [.nils, .d (.str []), .d (.int .i64 0), .d (.int .i64 0)] []),
     .w 4 (.boxM (.c (.agg [.nils, .d (.str []), .d (.int .i64 0), .d (.int .i64 0)]))),
     .w 0 (.st 4 (.t 4) (.t 13))])
  (.seq (.seq (.reg [.r 14 (.mv (.t 0)),
     .c 15 (.f 39) [.t 14, .c (.d (.int .u8 47))],
     .r 5 (.mv (.t 15))])
  (.seq (.reg [.r 16 (.mv (.t 5)),
     .r 17 (.bin .geq (.t 16) (.c (.d (.int .i64 0))))])
  (.cond (.t 17)
    (.seq (.reg [.r 19 (.mv (.t 0)),
       .r 20 (.mv (.t 5)),
       .r 21 (.sslc (.t 19) none (some (.t 20))),
       .c 22 (.f 40) [.t 21],
       .r 18 (.mv (.t 22)),
       .r 23 (.ext (.t 18) 0),
       .r 24 (.ext (.t 18) 1),
       .r 6 (.mv (.t 23)),
       .r 7 (.mv (.t 24))])
    (.seq (.seq (.reg [.r 25 (.mv (.t 7)),
       .r 26 (.not (.t 25))])
    (.cond (.t 26)
      (.seq (.reg [.o 27 (.ldA 4 (.t 4)),
         .w 0 (.st 4 (.t 2) (.t 27)),
         .r 3 (.mv (.c (.d (.bool false))))])
      .ret)
      .skip))
    (.regE [.r 28 (.mv (.t 6)),
       .r 29 (.mv (.t 0)),
       .r 30 (.mv (.t 5)),
       .r 31 (.bin .add (.t 30) (.c (.d (.int .i64 1)))),
       .r 32 (.sslc (.t 29) (some (.t 31)) none),
       .r 33 (.fld 0 (.t 4)),
       .x 0 (.st 1 (.t 33) (.t 28)) [(1, 29, .mv (.t 0)), (1, 29, .cl 29 [0]), (2, 30, .mv (.t 5)), (3, 31, .bin .add (.t 30) (.c (.d (.int .i64 1)))), (4, 32, .sslc (.t 29) (some (.t 31)) none)],
       .r 0 (.mv (.t 32))])))
    .skip)))
  (.seq (.reg [.r 34 (.mv (.t 0)),
     .c 35 (.f 41) [.t 34, .c (.d (.str [46]))],
     .r 8 (.mv (.t 35))])
  (.seq (.seq (.reg (.r 36 (.mv (.t 8)) :: .r 37 (.len (.t 36)) :: .r 38 (.bin .gtr (.t 37) (.c (.d (.int .i64 3)))) :: .r 39 (.mv (.t 38)) :: gapp [40, 41, 42, 43, 44] 39 false (.r 40 (.mv (.t 8)) :: .r 41 (.idx 1 (.t 40) (.c (.d (.int .i64 0)))) :: .r 42 (.ld1 (.t 41)) :: .c 43 (.f 42) [.t 42] :: .r 44 (.not (.t 43)) :: []) (.r 45 (.pick (.t 39) (.c (.d (.bool true))) (.t 44)) :: [])))
  (.cond (.t 45)
    (.seq (.reg [.o 46 (.ldA 4 (.t 4)),
       .w 0 (.st 4 (.t 2) (.t 46)),
       .r 3 (.mv (.c (.d (.bool false))))])
    .ret)
    .skip))
  (.seq (.reg [.r 47 (.mv (.t 8)),
     .r 48 (.idx 1 (.t 47) (.c (.d (.int .i64 0)))),
     .o 49 (.ld1 (.t 48)),
     .r 50 (.fld 1 (.t 4)),
     .w 0 (.st 1 (.t 50) (.t 49))])
  (.seq (.seq (.reg [.r 51 (.mv (.t 8)),
     .r 52 (.slc 1 (.t 51) (some (.c (.d (.int .i64 1)))) none),
     .r 53 (.len (.t 52)),
     .r 54 (.mv (.c (.d (.int .i64 0))))])
  sc_scheme_WayOf_B1)
  (.seq (.reg [.o 82 (.ldA 4 (.t 4)),
     .w 0 (.st 4 (.t 2) (.t 82)),
     .r 3 (.mv (.c (.d (.bool true))))])
  .ret))))))))
theorem fit_scheme_WayOf : fits Tryz.prog 19 Tryz.f19 sc_scheme_WayOf [.cell 2 4, .t 3] 1 = true := by kernel_rfl

set_option maxRecDepth 100000 in
set_option maxHeartbeats 40000000 in
noncomputable def sims_G7_3_0 : (∀ (x0 : List UInt8), {m : Option (Tscheme_Way × Bool) // ∀ r, m = some r → PureSpec Tryz.prog 19 [.str x0] (.tup [.agg (rTscheme_Way r.1), .bool r.2])}) := by
  (intro x0; apply Subtype.mk; intro r hm; apply pure_walk Tryz.func19 fit_scheme_WayOf; unfold sc_scheme_WayOf)
  repeat' (first | with_reducible refine W_seq ?_ | with_reducible refine W_reg ?_ | with_reducible refine W_regE ?_ | with_reducible refine W_block ?_ | with_reducible refine W_skip ?_ | with_reducible refine W_ret ?_ | with_reducible refine W_exit ?_ | with_reducible refine O_nil ?_ | with_reducible refine K_seq ?_ | with_reducible refine K_seqE ?_ | with_reducible refine K_seqR ?_ | with_reducible refine K_block ?_ | with_reducible refine K_blockR ?_ | with_reducible refine K_blockE ?_ | ((with_reducible apply K_blockN); decide) | with_reducible refine O_o2r ?_ | ((with_reducible apply O_idxr hm); (iterate 2 (simp only [push_cast, seval]; rfl)); (intro _; rfl); intro e hm) | ((with_reducible apply O_idxVr hm); (iterate 3 (simp only [push_cast, seval]; rfl)); intro e hm) | ((with_reducible apply O_slcr hm); (iterate 3 (simp only [push_cast, seval]; rfl)); (intro _; rfl); intro e hm) | ((with_reducible apply O_sslcrE hm); (iterate 3 (simp only [push_cast, seval]; rfl)); intro e he hm) | ((with_reducible apply O_idxLr hm (row := rowI)); (iterate 2 (simp only [push_cast, seval]; rfl)); (focus ((repeat' (first | rfl | (with_reducible first | apply fT_Tscheme_Way | apply f_optN | apply f_optS | apply f_some | apply f_tup | apply f_agg | apply f_ptr | apply f_fn | apply dv_slice | apply sv_d | apply f_cons | apply fold_nil | apply fold_cons | apply fold_app | apply f_rowI | apply f_rowY | apply f_rowS | apply f_rowB | apply f_rowL) | (with_reducible apply f_byte; decide))); done)); (simp only [push_cast, seval]; rfl); (intro _; rfl); intro e hm) | ((with_reducible apply O_slcLr hm (row := rowI)); (iterate 2 (simp only [push_cast, seval]; rfl)); (focus ((repeat' (first | rfl | (with_reducible first | apply fT_Tscheme_Way | apply f_optN | apply f_optS | apply f_some | apply f_tup | apply f_agg | apply f_ptr | apply f_fn | apply dv_slice | apply sv_d | apply f_cons | apply fold_nil | apply fold_cons | apply fold_app | apply f_rowI | apply f_rowY | apply f_rowS | apply f_rowB | apply f_rowL) | (with_reducible apply f_byte; decide))); done)); (iterate 2 (simp only [push_cast, seval]; rfl)); intro e hm) | ((with_reducible apply O_r); (simp only [push_cast, seval]; rfl); (first | exact trivial | omega)) | ((with_reducible apply O_ldV1r hm); (iterate 2 (simp only [push_cast, seval]; rfl)); (intro _; rfl); intro e hm) | ((with_reducible apply O_ldAVr hm); (iterate 2 (simp only [push_cast, seval]; rfl)); (intro _; rfl); intro e hm) | ((with_reducible apply O_strr hm); (iterate 2 (simp only [push_cast, seval]; rfl)); intro hm) | ((with_reducible apply O_or hm); (simp only [push_cast, seval]; rfl); rfl; intro v hm; rotate_left; intro v g hm) | ((with_reducible apply W_condT); (focus (simp only [push_cast, seval]; done))) | ((with_reducible apply W_condF); (focus (simp only [push_cast, seval]; done))) | ((with_reducible apply O_cF hm); (simp only [push_cast, seval]; rfl); (first | apply spec_strings_LastIndexByte _ _ | apply spec_scheme_namesOf _ | apply spec_strings_Split _ _ | apply spec_kit_IsTag _ | apply spec_kit_Number _ _ | apply spec_kit_Outside _ _ _); (any_goals ((repeat' (first | rfl | (with_reducible first | apply fT_Tscheme_Way | apply f_optN | apply f_optS | apply f_some | apply f_tup | apply f_agg | apply f_ptr | apply f_fn | apply dv_slice | apply sv_d | apply f_cons | apply fold_nil | apply fold_cons | apply fold_app | apply f_rowI | apply f_rowY | apply f_rowS | apply f_rowB | apply f_rowL) | (with_reducible apply f_byte; decide))); done)); intro x hm) | ((with_reducible apply O_w); (simp only [push_cast, seval]; rfl); (first | exact trivial | omega)) | ((with_reducible apply O_stVA hm); (iterate 4 (simp only [push_cast, seval]; rfl)); (focus ((repeat' (first | rfl | (with_reducible first | apply fT_Tscheme_Way | apply f_optN | apply f_optS | apply f_some | apply f_tup | apply f_agg | apply f_ptr | apply f_fn | apply dv_slice | apply sv_d | apply f_cons | apply fold_nil | apply fold_cons | apply fold_app | apply f_rowI | apply f_rowY | apply f_rowS | apply f_rowB | apply f_rowL) | (with_reducible apply f_byte; decide))); done)); decide; (intro _; rfl); intro e hm) | ((with_reducible apply O_stVAX hm); (iterate 3 (simp only [push_cast, seval]; rfl)); (focus ((repeat' (first | rfl | (with_reducible first | apply fT_Tscheme_Way | apply f_optN | apply f_optS | apply f_some | apply f_tup | apply f_agg | apply f_ptr | apply f_fn | apply dv_slice | apply sv_d | apply f_cons | apply fold_nil | apply fold_cons | apply fold_app | apply f_rowI | apply f_rowY | apply f_rowS | apply f_rowB | apply f_rowL) | (with_reducible apply f_byte; decide))); done)); (intro _; rfl); (focus ((repeat' (first | exact Rer_nil | ((with_reducible apply Rer_sslc); (focus (simp only [push_cast, seval]; rfl)); (focus (simp only [push_cast, seval]; rfl)); (focus (simp only [push_cast, seval]; rfl)); (focus (simp only [push_cast, seval]; rfl)); (focus assumption)) | ((with_reducible apply Rer_cons); (focus (simp only [push_cast, seval]; rfl)); (focus (first | exact trivial | omega)); (focus (simp only [push_cast, seval]))))); done)); intro e hm) | ((with_reducible apply O_stVX hm); (iterate 3 (simp only [push_cast, seval]; rfl)); rfl; (intro _; rfl); rfl; (focus (intro a; simp only [push_cast, seval]; rfl)); (focus (intro a; (repeat' (first | rfl | with_reducible apply eT_Tscheme_Way)); done)); (focus (intro _; (repeat' (first | exact Rer_nil | ((with_reducible apply Rer_sslc); (focus (simp only [push_cast, seval]; rfl)); (focus (simp only [push_cast, seval]; rfl)); (focus (simp only [push_cast, seval]; rfl)); (focus (simp only [push_cast, seval]; rfl)); (focus assumption)) | ((with_reducible apply Rer_cons); (focus (simp only [push_cast, seval]; rfl)); (focus (first | exact trivial | omega)); (focus (simp only [push_cast, seval]))))); done)); intro e hm) | ((with_reducible apply O_x); (simp only [push_cast, seval]; rfl); (first | exact trivial | omega); (focus ((repeat' (first | exact Rer_nil | ((with_reducible apply Rer_sslc); (focus (simp only [push_cast, seval]; rfl)); (focus (simp only [push_cast, seval]; rfl)); (focus (simp only [push_cast, seval]; rfl)); (focus (simp only [push_cast, seval]; rfl)); (focus assumption)) | ((with_reducible apply Rer_cons); (focus (simp only [push_cast, seval]; rfl)); (focus (first | exact trivial | omega)); (focus (simp only [push_cast, seval]))))); done))) | ((with_reducible apply S_condB hm); (simp only [push_cast, seval]; rfl); intro hm; rotate_left; intro hm) | ((with_reducible apply K_end2 hm); (focus (simp only [resOf, resL, RV.get, push_cast, seval]; rfl)); (focus (first | (dsimp only; done) | (dsimp only; rfl) | rfl)); (focus ((repeat' (first | rfl | (with_reducible first | apply fT_Tscheme_Way | apply f_optN | apply f_optS | apply f_some | apply f_tup | apply f_agg | apply f_ptr | apply f_fn | apply dv_slice | apply sv_d | apply f_cons | apply fold_nil | apply fold_cons | apply fold_app | apply f_rowI | apply f_rowY | apply f_rowS | apply f_rowB | apply f_rowL) | (with_reducible apply f_byte; decide))); done))) | ((with_reducible apply K_bool hm); (simp only [push_cast, seval]; rfl)) | ((with_reducible apply K_leave hm); intro r hm) | ((with_reducible apply K_leaveR hm); intro r hm) | ((apply S_loopY (b := 0) (X := sc_scheme_WayOf_B1) (x := sc_scheme_WayOf_L1) rfl (fun (c : SV × SV) (s : Tscheme_Way × Tscheme_Way × Int) => st [(2, .ref 2 0), (4, .ref 4 0), (52, c.1), (53, c.2), (54, .d (.int .i64 s.2.2))] [(2, .box (dR (rTscheme_Way s.1))), (4, .box (dR (rTscheme_Way s.2.1)))]) (c := (_, _)) (s0 := (_, _, _)) hm); (focus (first | (dsimp only; done) | (dsimp only; rfl) | rfl)); (with_reducible refine Then.mk ?_ ?_)) | ((apply K_next (s' := (_, _, _)) hm); (focus (first | (dsimp only; done) | (dsimp only; rfl) | rfl))) | ((apply K_brk (s' := (_, _, _)) hm); (focus (first | (dsimp only; done) | (dsimp only; rfl) | rfl))) | (((with_reducible apply K_brkN hm); (focus decide); intro r hm)) | (((with_reducible apply K_brkR hm); intro r hm)) | (((with_reducible apply LoopB.of); (focus (first | (dsimp only; done) | (dsimp only; rfl) | rfl)); (focus ((intro _; repeat' (first | with_reducible exact impC_end | with_reducible exact impC_endF | with_reducible refine impC_seq ?_ | with_reducible refine impC_block ?_ | ((with_reducible refine impC_rnd ?_); intro _) | ((with_reducible refine impC_brk ?_); intro _))))); (intro s o hm; first | unfold sc_scheme_WayOf_L1); rotate_left; intro s hm)) | (((apply imp_stT; (repeat' (first | with_reducible exact keepT_nil | with_reducible exact keepC_nil | with_reducible apply keepT_cons | with_reducible apply keepC_cons | ((with_reducible apply svle_eq); (focus (first | (simp only [push_cast, seval]; rfl) | rfl)); (focus ((repeat' (first | rfl | (with_reducible first | apply fT_Tscheme_Way | apply f_optN | apply f_optS | apply f_some | apply f_tup | apply f_agg | apply f_ptr | apply f_fn | apply dv_slice | apply sv_d | apply f_cons | apply fold_nil | apply fold_cons | apply fold_app | apply f_rowI | apply f_rowY | apply f_rowS | apply f_rowB | apply f_rowL) | (with_reducible apply f_byte; decide))); done))) | ((with_reducible apply svle_td); (focus (first | (simp only [push_cast, seval]; rfl) | rfl)); (focus (first | (simp only [push_cast, seval]; rfl) | rfl)); (focus ((repeat' (first | rfl | (with_reducible first | apply fT_Tscheme_Way | apply f_optN | apply f_optS | apply f_some | apply f_tup | apply f_agg | apply f_ptr | apply f_fn | apply dv_slice | apply sv_d | apply f_cons | apply fold_nil | apply fold_cons | apply fold_app | apply f_rowI | apply f_rowY | apply f_rowS | apply f_rowB | apply f_rowL) | (with_reducible apply f_byte; decide))); done))) | ((with_reducible apply chle_eq); (focus (first | (simp only [push_cast, seval]; rfl) | rfl)); (first | with_reducible exact chle_rfl rfl | with_reducible exact chle_map0 | with_reducible apply chle_vec | with_reducible apply chle_box)) | (with_reducible first | apply cT_Tscheme_Way | apply r_shS | apply r_shI | apply r_rflO | apply r_oneO | apply r_appO | apply r_nilO | apply c_ownN | apply c_ownL | apply vc_rfl | apply vc_nil | apply vc_cons | apply r_rfl | apply r_rows | apply r_nil | apply r_app | apply r_cons | apply c_rowI | apply c_rowY | apply c_rowS | apply c_rowB | apply c_rowL))); done))))
noncomputable def m_scheme_WayOf (x0 : List UInt8) : Option (Tscheme_Way × Bool) := (sims_G7_3_0 x0).1
theorem spec_scheme_WayOf (x0 : List UInt8) : ∀ r, m_scheme_WayOf x0 = some r → PureSpec Tryz.prog 19 [.str x0] (.tup [.agg (rTscheme_Way r.1), .bool r.2]) := (sims_G7_3_0 x0).2

/-- interchange/scheme.CheckGroups -/
def sc_scheme_CheckGroups : SC :=
  (.seq (.reg [.r 2 (.mv (.c (.d (.int .i64 0))))])
  (.seq (.seq (.reg [.r 5 (.mv (.t 0)),
     .r 6 (.lenT (.t 5)),
     .r 7 (.bin .gtr (.t 6) (.c (.d (.int .i64 200))))])
  (.cond (.t 7)
    (.seq (.reg [.r 2 (.mv (.c (.d (.int .i64 2))))])
    .ret)
    .skip))
  (.seq (.seq (.reg [.r 9 (.mv (.t 0)),
     .c 10 (.f 40) [.t 9],
     .r 8 (.mv (.t 10)),
     .r 11 (.ext (.t 8) 0),
     .r 12 (.ext (.t 8) 1),
     .r 3 (.mv (.t 11)),
     .r 4 (.mv (.t 12))])
  (.seq (.reg (.r 13 (.mv (.t 0)) :: .r 14 (.bin .neq (.t 13) (.c (.d (.str [])))) :: .r 15 (.mv (.t 14)) :: gapp [16, 17] 15 true (.r 16 (.mv (.t 4)) :: .r 17 (.not (.t 16)) :: []) (.r 18 (.pick (.t 15) (.t 17) (.c (.d (.bool false)))) :: [])))
  (.cond (.t 18)
    (.seq (.reg [.r 2 (.mv (.c (.d (.int .i64 10))))])
    .ret)
    .skip)))
  (.seq (.reg [.r 2 (.mv (.c (.d (.int .i64 0))))])
  .ret))))
theorem fit_scheme_CheckGroups : fits Tryz.prog 24 Tryz.f24 sc_scheme_CheckGroups [.t 2] 1 = true := by kernel_rfl

set_option maxRecDepth 100000 in
set_option maxHeartbeats 40000000 in
noncomputable def sims_G7_3_1 : (∀ (x0 : List UInt8), {m : Option (Int) // ∀ r, m = some r → PureSpec Tryz.prog 24 [.str x0] (.int .i64 r)}) := by
  (intro x0; apply Subtype.mk; intro r hm; apply pure_walk Tryz.func24 fit_scheme_CheckGroups; unfold sc_scheme_CheckGroups)
  repeat' (first | with_reducible refine W_seq ?_ | with_reducible refine W_reg ?_ | with_reducible refine W_block ?_ | with_reducible refine W_skip ?_ | with_reducible refine W_ret ?_ | with_reducible refine W_exit ?_ | with_reducible refine O_nil ?_ | with_reducible refine K_seq ?_ | with_reducible refine K_seqE ?_ | with_reducible refine K_seqR ?_ | with_reducible refine K_block ?_ | with_reducible refine K_blockR ?_ | with_reducible refine K_blockE ?_ | ((with_reducible apply K_blockN); decide) | ((with_reducible apply O_r); (simp only [push_cast, seval]; rfl); (first | exact trivial | omega)) | ((with_reducible apply O_and hm); (simp only [push_cast, seval]; rfl); rfl; intro v hm; rotate_left; intro v g hm) | ((with_reducible apply W_condT); (focus (simp only [push_cast, seval]; done))) | ((with_reducible apply W_condF); (focus (simp only [push_cast, seval]; done))) | ((with_reducible apply O_cF hm); (simp only [push_cast, seval]; rfl); (first | apply spec_scheme_namesOf _); (any_goals ((repeat' (first | rfl | (with_reducible first | apply f_optN | apply f_optS | apply f_some | apply f_tup | apply f_agg | apply f_ptr | apply f_fn | apply dv_slice | apply sv_d | apply f_cons | apply fold_nil | apply fold_cons | apply fold_app | apply f_rowI | apply f_rowY | apply f_rowS | apply f_rowB | apply f_rowL) | (with_reducible apply f_byte; decide))); done)); intro x hm) | ((with_reducible apply S_condB hm); (simp only [push_cast, seval]; rfl); intro hm; rotate_left; intro hm) | ((with_reducible apply K_endS hm); (focus (simp only [resOf, resL, RV.get, push_cast, seval]; rfl)); (focus ((repeat' (first | rfl | (with_reducible first | apply f_optN | apply f_optS | apply f_some | apply f_tup | apply f_agg | apply f_ptr | apply f_fn | apply dv_slice | apply sv_d | apply f_cons | apply fold_nil | apply fold_cons | apply fold_app | apply f_rowI | apply f_rowY | apply f_rowS | apply f_rowB | apply f_rowL) | (with_reducible apply f_byte; decide))); done))) | ((with_reducible apply K_bool hm); (simp only [push_cast, seval]; rfl)))
noncomputable def m_scheme_CheckGroups (x0 : List UInt8) : Option (Int) := (sims_G7_3_1 x0).1
theorem spec_scheme_CheckGroups (x0 : List UInt8) : ∀ r, m_scheme_CheckGroups x0 = some r → PureSpec Tryz.prog 24 [.str x0] (.int .i64 r) := (sims_G7_3_1 x0).2

/-- interchange/scheme.Kids -/
def sc_scheme_Kids : SC :=
  (.seq (.reg [.r 4 (.mv (.c (.nils)))])
  (.seq (.seq (.reg [.r 7 (.mv (.t 1)),
     .r 8 (.bin .eql (.t 7) (.c (.d (.str []))))])
  (.cond (.t 8)
    (.seq (.reg [.r 9 (.mv (.t 0)),
       .r 10 (.bslice 1 [.t 9]),
       .r 4 (.mv (.t 10))])
    .ret)
    .skip))
  (.seq (.reg [.r 12 (.mv (.t 1)),
     .c 13 (.f 40) [.t 12],
     .r 11 (.mv (.t 13)),
     .r 14 (.ext (.t 11) 0),
     .r 15 (.ext (.t 11) 1),
     .r 5 (.mv (.t 14)),
     .r 6 (.mv (.t 15))])
  (.seq (.reg [.r 16 (.mv (.t 0)),
     .r 17 (.mv (.t 5)),
     .c 18 (.f 45) [.t 16, .t 17],
     .r 4 (.mv (.t 18))])
  .ret))))
theorem fit_scheme_Kids : fits Tryz.prog 25 Tryz.f25 sc_scheme_Kids [.t 4] 2 = true := by kernel_rfl

set_option maxRecDepth 100000 in
set_option maxHeartbeats 40000000 in
noncomputable def sims_G7_3_2 : (∀ (x0 : List Tapi_Branch) (x1 : List UInt8), {m : Option ((List (List Tapi_Branch))) // ∀ r, m = some r → PureSpec Tryz.prog 25 [.slice (List.map rTapi_Branch x0), .str x1] (.slice (List.map (rowL rTapi_Branch) r))}) := by
  (intro x0 x1; apply Subtype.mk; intro r hm; apply pure_walk Tryz.func25 fit_scheme_Kids; unfold sc_scheme_Kids)
  repeat' (first | with_reducible refine W_seq ?_ | with_reducible refine W_reg ?_ | with_reducible refine W_block ?_ | with_reducible refine W_skip ?_ | with_reducible refine W_ret ?_ | with_reducible refine W_exit ?_ | with_reducible refine O_nil ?_ | with_reducible refine K_seq ?_ | with_reducible refine K_seqE ?_ | with_reducible refine K_seqR ?_ | with_reducible refine K_block ?_ | with_reducible refine K_blockR ?_ | with_reducible refine K_blockE ?_ | ((with_reducible apply K_blockN); decide) | ((with_reducible apply O_r); (simp only [push_cast, seval]; rfl); (first | exact trivial | omega)) | ((with_reducible apply W_condT); (focus (simp only [push_cast, seval]; done))) | ((with_reducible apply W_condF); (focus (simp only [push_cast, seval]; done))) | ((with_reducible apply O_cF hm); (simp only [push_cast, seval]; rfl); (first | apply spec_scheme_namesOf _ | apply spec_scheme_kidsOf _ _); (any_goals ((repeat' (first | rfl | (with_reducible first | apply fT_Tapi_Branch | apply fT_Tapi_Element | apply fT_Tapi_Segment | apply f_optN | apply f_optS | apply f_some | apply f_tup | apply f_agg | apply f_ptr | apply f_fn | apply dv_slice | apply sv_d | apply f_cons | apply fold_nil | apply fold_cons | apply fold_app | apply f_rowI | apply f_rowY | apply f_rowS | apply f_rowB | apply f_rowL) | (with_reducible apply f_byte; decide))); done)); intro x hm) | ((with_reducible apply S_condB hm); (simp only [push_cast, seval]; rfl); intro hm; rotate_left; intro hm) | ((with_reducible apply K_endS hm); (focus (simp only [resOf, resL, RV.get, push_cast, seval]; rfl)); (focus ((repeat' (first | rfl | (with_reducible first | apply fT_Tapi_Branch | apply fT_Tapi_Element | apply fT_Tapi_Segment | apply f_optN | apply f_optS | apply f_some | apply f_tup | apply f_agg | apply f_ptr | apply f_fn | apply dv_slice | apply sv_d | apply f_cons | apply fold_nil | apply fold_cons | apply fold_app | apply f_rowI | apply f_rowY | apply f_rowS | apply f_rowB | apply f_rowL) | (with_reducible apply f_byte; decide))); done))))
noncomputable def m_scheme_Kids (x0 : List Tapi_Branch) (x1 : List UInt8) : Option ((List (List Tapi_Branch))) := (sims_G7_3_2 x0 x1).1
theorem spec_scheme_Kids (x0 : List Tapi_Branch) (x1 : List UInt8) : ∀ r, m_scheme_Kids x0 x1 = some r → PureSpec Tryz.prog 25 [.slice (List.map rTapi_Branch x0), .str x1] (.slice (List.map (rowL rTapi_Branch) r)) := (sims_G7_3_2 x0 x1).2

/-- interchange/interchangeref3.Find -/
def sc_interchangeref3_Find : SC :=
  (.seq (.reg [.r 4 (.mv (.c (.nils))),
     .r 5 (.mv (.c (.d (.int .i64 0))))])
  (.seq (.seq (.reg [.r 9 (.mv (.t 0)),
     .c 10 (.f 21) [.t 9],
     .r 6 (.mv (.t 10))])
  (.seq (.reg [.r 11 (.mv (.t 6)),
     .r 12 (.bin .neq (.t 11) (.c (.d (.int .i64 0))))])
  (.cond (.t 12)
    (.seq (.reg [.r 13 (.mv (.t 6)),
       .r 4 (.mv (.c (.nils))),
       .r 5 (.mv (.t 13))])
    .ret)
    .skip)))
  (.seq (.reg [.r 15 (.mv (.t 1)),
     .c 16 (.f 22) [.t 15],
     .r 14 (.mv (.t 16)),
     .r 17 (.ext (.t 14) 0),
     .r 18 (.ext (.t 14) 1),
     .w 7 (.boxM (.c (.agg [.nils, .d (.str []), .d (.int .i64 0), .d (.int .i64 0)]))),
     .w 0 (.st 4 (.t 7) (.t 17)),
     .r 8 (.mv (.t 18))])
  (.seq (.seq (.reg [.r 19 (.mv (.t 8)),
     .r 20 (.bin .neq (.t 19) (.c (.d (.int .i64 0))))])
  (.cond (.t 20)
    (.seq (.reg [.r 21 (.mv (.t 8)),
       .r 4 (.mv (.c (.nils))),
       .r 5 (.mv (.t 21))])
    .ret)
    .skip))
  (.seq (.reg [.r 22 (.mv (.t 0)),
     .o 23 (.ldA 4 (.t 7)),
     .c 24 (.f 23) [.t 22, .t 23],
     .r 4 (.mv (.t 24)),
     .r 5 (.mv (.c (.d (.int .i64 0))))])
  .ret)))))
theorem fit_interchangeref3_Find : fits Tryz.prog 6 Tryz.f6 sc_interchangeref3_Find [.t 4, .t 5] 2 = true := by kernel_rfl

set_option maxRecDepth 100000 in
set_option maxHeartbeats 40000000 in
noncomputable def sims_G7_3_3 : (∀ (x0 : List Tapi_Branch) (x1 : List UInt8), {m : Option ((List (List UInt8)) × Int) // ∀ r, m = some r → PureSpec Tryz.prog 6 [.slice (List.map rTapi_Branch x0), .str x1] (.tup [.slice (List.map rowS r.1), .int .i64 r.2])}) := by
  (intro x0 x1; apply Subtype.mk; intro r hm; apply pure_walk Tryz.func6 fit_interchangeref3_Find; unfold sc_interchangeref3_Find)
  repeat' (first | ((with_reducible apply W_openBs (id := 7) (cid := 1224) (off := 0) (n := 1) (e := 9)); (focus (simp only [push_cast, seval]; (try rfl); done)); (focus (simp only [push_cast, seval]; (try rfl); done)); (focus decide); (focus rfl); (focus (intro _; rfl)); (focus (simp only [push_cast, seval]; (try rfl); done))) | ((with_reducible apply W_nilB (id := 7) (cid := 1224) (off := 0) (n := 1) (e := 9)); (focus (simp only [push_cast, seval]; (try rfl); done)); (focus (simp only [push_cast, seval]; (try rfl); done)); (focus decide); (focus (simp only [push_cast, seval]; (try rfl); done))) | with_reducible refine W_seq ?_ | with_reducible refine W_reg ?_ | with_reducible refine W_block ?_ | with_reducible refine W_skip ?_ | with_reducible refine W_ret ?_ | with_reducible refine W_exit ?_ | with_reducible refine O_nil ?_ | with_reducible refine K_seq ?_ | with_reducible refine K_seqE ?_ | with_reducible refine K_seqR ?_ | with_reducible refine K_block ?_ | with_reducible refine K_blockR ?_ | with_reducible refine K_blockE ?_ | ((with_reducible apply K_blockN); decide) | with_reducible refine O_o2r ?_ | ((with_reducible apply O_r); (simp only [push_cast, seval]; rfl); (first | exact trivial | omega)) | ((with_reducible apply W_condT); (focus (simp only [push_cast, seval]; done))) | ((with_reducible apply W_condF); (focus (simp only [push_cast, seval]; done))) | ((with_reducible apply O_cF hm); (simp only [push_cast, seval]; rfl); (first | apply spec_interchangeref3_CheckTree _ | apply spec_interchangeref3_PathOf _ | apply spec_interchangeref3_FindIn _ _); (any_goals ((repeat' (first | rfl | (with_reducible first | apply fT_Tapi_Branch | apply fT_Tapi_Element | apply fT_Tapi_Segment | apply fT_Tinterchangeref3_Path | apply f_optN | apply f_optS | apply f_some | apply f_tup | apply f_agg | apply f_ptr | apply f_fn | apply dv_slice | apply sv_d | apply f_cons | apply fold_nil | apply fold_cons | apply fold_app | apply f_rowI | apply f_rowY | apply f_rowS | apply f_rowB | apply f_rowL) | (with_reducible apply f_byte; decide))); done)); intro x hm) | ((with_reducible apply O_w); (simp only [push_cast, seval]; rfl); (first | exact trivial | omega)) | ((with_reducible apply S_condB hm); (simp only [push_cast, seval]; rfl); intro hm; rotate_left; intro hm) | ((with_reducible apply K_end2 hm); (focus (simp only [resOf, resL, RV.get, push_cast, seval]; rfl)); (focus (first | (dsimp only; done) | (dsimp only; rfl) | rfl)); (focus ((repeat' (first | rfl | (with_reducible first | apply fT_Tapi_Branch | apply fT_Tapi_Element | apply fT_Tapi_Segment | apply fT_Tinterchangeref3_Path | apply f_optN | apply f_optS | apply f_some | apply f_tup | apply f_agg | apply f_ptr | apply f_fn | apply dv_slice | apply sv_d | apply f_cons | apply fold_nil | apply fold_cons | apply fold_app | apply f_rowI | apply f_rowY | apply f_rowS | apply f_rowB | apply f_rowL) | (with_reducible apply f_byte; decide))); done))))
noncomputable def m_interchangeref3_Find (x0 : List Tapi_Branch) (x1 : List UInt8) : Option ((List (List UInt8)) × Int) := (sims_G7_3_3 x0 x1).1
theorem spec_interchangeref3_Find (x0 : List Tapi_Branch) (x1 : List UInt8) : ∀ r, m_interchangeref3_Find x0 x1 = some r → PureSpec Tryz.prog 6 [.slice (List.map rTapi_Branch x0), .str x1] (.tup [.slice (List.map rowS r.1), .int .i64 r.2]) := (sims_G7_3_3 x0 x1).2

/-- interchange/interchangeref3.CheckPath -/
def sc_interchangeref3_CheckPath : SC :=
  (.seq (.reg [.r 2 (.mv (.c (.d (.int .i64 0))))])
  (.seq (.reg [.r 6 (.mv (.t 0)),
     .c 7 (.f 22) [.t 6],
     .r 5 (.mv (.t 7)),
     .r 8 (.ext (.t 5) 0),
     .r 9 (.ext (.t 5) 1),
     .w 3 (.boxM (.c (.agg [.nils, .d (.str []), .d (.int .i64 0), .d (.int .i64 0)]))),
     .w 0 (.st 4 (.t 3) (.t 8)),
     .r 4 (.mv (.t 9))])
  (.seq (.reg [.r 10 (.mv (.t 4)),
     .r 2 (.mv (.t 10))])
  .ret)))
theorem fit_interchangeref3_CheckPath : fits Tryz.prog 8 Tryz.f8 sc_interchangeref3_CheckPath [.t 2] 1 = true := by kernel_rfl

set_option maxRecDepth 100000 in
set_option maxHeartbeats 40000000 in
noncomputable def sims_G7_3_4 : (∀ (x0 : List UInt8), {m : Option (Int) // ∀ r, m = some r → PureSpec Tryz.prog 8 [.str x0] (.int .i64 r)}) := by
  (intro x0; apply Subtype.mk; intro r hm; apply pure_walk Tryz.func8 fit_interchangeref3_CheckPath; unfold sc_interchangeref3_CheckPath)
  repeat' (first | ((with_reducible apply W_openBs (id := 3) (cid := 1096) (off := 0) (n := 1) (e := 9)); (focus (simp only [push_cast, seval]; (try rfl); done)); (focus (simp only [push_cast, seval]; (try rfl); done)); (focus decide); (focus rfl); (focus (intro _; rfl)); (focus (simp only [push_cast, seval]; (try rfl); done))) | ((with_reducible apply W_nilB (id := 3) (cid := 1096) (off := 0) (n := 1) (e := 9)); (focus (simp only [push_cast, seval]; (try rfl); done)); (focus (simp only [push_cast, seval]; (try rfl); done)); (focus decide); (focus (simp only [push_cast, seval]; (try rfl); done))) | with_reducible refine W_seq ?_ | with_reducible refine W_reg ?_ | with_reducible refine W_block ?_ | with_reducible refine W_skip ?_ | with_reducible refine W_ret ?_ | with_reducible refine W_exit ?_ | with_reducible refine O_nil ?_ | with_reducible refine K_seq ?_ | with_reducible refine K_seqE ?_ | with_reducible refine K_seqR ?_ | with_reducible refine K_block ?_ | with_reducible refine K_blockR ?_ | with_reducible refine K_blockE ?_ | ((with_reducible apply K_blockN); decide) | ((with_reducible apply O_r); (simp only [push_cast, seval]; rfl); (first | exact trivial | omega)) | ((with_reducible apply W_condT); (focus (simp only [push_cast, seval]; done))) | ((with_reducible apply W_condF); (focus (simp only [push_cast, seval]; done))) | ((with_reducible apply O_cF hm); (simp only [push_cast, seval]; rfl); (first | apply spec_interchangeref3_PathOf _); (any_goals ((repeat' (first | rfl | (with_reducible first | apply fT_Tinterchangeref3_Path | apply f_optN | apply f_optS | apply f_some | apply f_tup | apply f_agg | apply f_ptr | apply f_fn | apply dv_slice | apply sv_d | apply f_cons | apply fold_nil | apply fold_cons | apply fold_app | apply f_rowI | apply f_rowY | apply f_rowS | apply f_rowB | apply f_rowL) | (with_reducible apply f_byte; decide))); done)); intro x hm) | ((with_reducible apply O_w); (simp only [push_cast, seval]; rfl); (first | exact trivial | omega)) | ((with_reducible apply S_condB hm); (simp only [push_cast, seval]; rfl); intro hm; rotate_left; intro hm) | ((with_reducible apply K_endS hm); (focus (simp only [resOf, resL, RV.get, push_cast, seval]; rfl)); (focus ((repeat' (first | rfl | (with_reducible first | apply fT_Tinterchangeref3_Path | apply f_optN | apply f_optS | apply f_some | apply f_tup | apply f_agg | apply f_ptr | apply f_fn | apply dv_slice | apply sv_d | apply f_cons | apply fold_nil | apply fold_cons | apply fold_app | apply f_rowI | apply f_rowY | apply f_rowS | apply f_rowB | apply f_rowL) | (with_reducible apply f_byte; decide))); done))))
noncomputable def m_interchangeref3_CheckPath (x0 : List UInt8) : Option (Int) := (sims_G7_3_4 x0).1
theorem spec_interchangeref3_CheckPath (x0 : List UInt8) : ∀ r, m_interchangeref3_CheckPath x0 = some r → PureSpec Tryz.prog 8 [.str x0] (.int .i64 r) := (sims_G7_3_4 x0).2

/-- interchange/scheme.CheckPath -/
def sc_scheme_CheckPath : SC :=
  (.seq (.reg [.r 2 (.mv (.c (.d (.int .i64 0))))])
  (.seq (.seq (.reg [.r 5 (.mv (.t 0)),
     .r 6 (.lenT (.t 5)),
     .r 7 (.bin .gtr (.t 6) (.c (.d (.int .i64 200))))])
  (.cond (.t 7)
    (.seq (.reg [.r 2 (.mv (.c (.d (.int .i64 2))))])
    .ret)
    .skip))
  (.seq (.seq (.reg [.r 9 (.mv (.t 0)),
     .c 10 (.f 19) [.t 9],
     .r 8 (.mv (.t 10)),
     .r 11 (.ext (.t 8) 0),
     .r 12 (.ext (.t 8) 1),
     .w 3 (.boxM (.c (.agg [.nils, .d (.str []), .d (.int .i64 0), .d (.int .i64 0)]))),
     .w 0 (.st 4 (.t 3) (.t 11)),
     .r 4 (.mv (.t 12))])
  (.seq (.reg [.r 13 (.mv (.t 4)),
     .r 14 (.not (.t 13))])
  (.cond (.t 14)
    (.seq (.reg [.r 2 (.mv (.c (.d (.int .i64 10))))])
    .ret)
    .skip)))
  (.seq (.reg [.r 2 (.mv (.c (.d (.int .i64 0))))])
  .ret))))
theorem fit_scheme_CheckPath : fits Tryz.prog 7 Tryz.f7 sc_scheme_CheckPath [.t 2] 1 = true := by kernel_rfl

set_option maxRecDepth 100000 in
set_option maxHeartbeats 40000000 in
noncomputable def sims_G7_4_0 : (∀ (x0 : List UInt8), {m : Option (Int) // ∀ r, m = some r → PureSpec Tryz.prog 7 [.str x0] (.int .i64 r)}) := by
  (intro x0; apply Subtype.mk; intro r hm; apply pure_walk Tryz.func7 fit_scheme_CheckPath; unfold sc_scheme_CheckPath)
  repeat' (first | with_reducible refine W_seq ?_ | with_reducible refine W_reg ?_ | with_reducible refine W_block ?_ | with_reducible refine W_skip ?_ | with_reducible refine W_ret ?_ | with_reducible refine W_exit ?_ | with_reducible refine O_nil ?_ | with_reducible refine K_seq ?_ | with_reducible refine K_seqE ?_ | with_reducible refine K_seqR ?_ | with_reducible refine K_block ?_ | with_reducible refine K_blockR ?_ | with_reducible refine K_blockE ?_ | ((with_reducible apply K_blockN); decide) | ((with_reducible apply O_r); (simp only [push_cast, seval]; rfl); (first | exact trivial | omega)) | ((with_reducible apply W_condT); (focus (simp only [push_cast, seval]; done))) | ((with_reducible apply W_condF); (focus (simp only [push_cast, seval]; done))) | ((with_reducible apply O_cF hm); (simp only [push_cast, seval]; rfl); (first | apply spec_scheme_WayOf _); (any_goals ((repeat' (first | rfl | (with_reducible first | apply fT_Tscheme_Way | apply f_optN | apply f_optS | apply f_some | apply f_tup | apply f_agg | apply f_ptr | apply f_fn | apply dv_slice | apply sv_d | apply f_cons | apply fold_nil | apply fold_cons | apply fold_app | apply f_rowI | apply f_rowY | apply f_rowS | apply f_rowB | apply f_rowL) | (with_reducible apply f_byte; decide))); done)); intro x hm) | ((with_reducible apply O_w); (simp only [push_cast, seval]; rfl); (first | exact trivial | omega)) | ((with_reducible apply S_condB hm); (simp only [push_cast, seval]; rfl); intro hm; rotate_left; intro hm) | ((with_reducible apply K_endS hm); (focus (simp only [resOf, resL, RV.get, push_cast, seval]; rfl)); (focus ((repeat' (first | rfl | (with_reducible first | apply fT_Tscheme_Way | apply f_optN | apply f_optS | apply f_some | apply f_tup | apply f_agg | apply f_ptr | apply f_fn | apply dv_slice | apply sv_d | apply f_cons | apply fold_nil | apply fold_cons | apply fold_app | apply f_rowI | apply f_rowY | apply f_rowS | apply f_rowB | apply f_rowL) | (with_reducible apply f_byte; decide))); done))))
noncomputable def m_scheme_CheckPath (x0 : List UInt8) : Option (Int) := (sims_G7_4_0 x0).1
theorem spec_scheme_CheckPath (x0 : List UInt8) : ∀ r, m_scheme_CheckPath x0 = some r → PureSpec Tryz.prog 7 [.str x0] (.int .i64 r) := (sims_G7_4_0 x0).2

def sc_scheme_Groups_L1 : SC :=
  (.seq (.reg [.r 26 (.bin .lss (.t 25) (.t 24))])
  (.seq (.cond (.t 26)
    .skip
    (.exit 0))
  (.seq (.block 1 (.seq (.reg [.r 27 (.idx 1 (.t 23) (.t 25)),
       .o 28 (.ld1 (.t 27)),
       .r 10 (.mv (.t 28))])
    (.reg [.r 29 (.mv (.t 8)),
       .r 30 (.mv (.t 10)),
       .c 31 (.f 26) [.t 30],
       .r 32 (.bslice 1 [.t 31]),
       .w 33 (.app 22 1 (.t 29) (.t 32)),
       .r 8 (.mv (.t 33))])))
  (.reg [.r 34 (.bin .add (.t 25) (.c (.d (.int .i64 1)))),
     .r 25 (.mv (.t 34))]))))
def sc_scheme_Groups_B1 : SC := .block 0 (.loop sc_scheme_Groups_L1)
/-- interchange/scheme.Groups -/
def sc_scheme_Groups : SC :=
  (.seq (.reg [.r 4 (.mv (.c (.nils))),
     .r 5 (.mv (.c (.d (.int .i64 0))))])
  (.seq (.seq (.reg [.r 11 (.mv (.t 0)),
     .c 12 (.f 18) [.t 11],
     .r 6 (.mv (.t 12))])
  (.seq (.reg [.r 13 (.mv (.t 6)),
     .r 14 (.bin .neq (.t 13) (.c (.d (.int .i64 0))))])
  (.cond (.t 14)
    (.seq (.reg [.r 15 (.mv (.t 6)),
       .r 4 (.mv (.c (.nils))),
       .r 5 (.mv (.t 15))])
    .ret)
    .skip)))
  (.seq (.seq (.reg [.r 16 (.mv (.t 1)),
     .c 17 (.f 24) [.t 16],
     .r 7 (.mv (.t 17))])
  (.seq (.reg [.r 18 (.mv (.t 7)),
     .r 19 (.bin .neq (.t 18) (.c (.d (.int .i64 0))))])
  (.cond (.t 19)
    (.seq (.reg [.r 20 (.mv (.t 7)),
       .r 4 (.mv (.c (.nils))),
       .r 5 (.mv (.t 20))])
    .ret)
    .skip)))
  (.seq (.reg [.r 8 (.mv (.c (.nils)))])
  (.seq (.seq (.reg [.r 21 (.mv (.t 0)),
     .r 22 (.mv (.t 1)),
     .c 23 (.f 25) [.t 21, .t 22],
     .r 24 (.len (.t 23)),
     .r 25 (.mv (.c (.d (.int .i64 0))))])
  sc_scheme_Groups_B1)
  (.seq (.reg [.r 35 (.mv (.t 8)),
     .r 4 (.mv (.t 35)),
     .r 5 (.mv (.c (.d (.int .i64 0))))])
  .ret))))))
theorem fit_scheme_Groups : fits Tryz.prog 10 Tryz.f10 sc_scheme_Groups [.t 4, .t 5] 2 = true := by kernel_rfl

set_option maxRecDepth 100000 in
set_option maxHeartbeats 40000000 in
noncomputable def sims_G7_4_1 : (∀ (x0 : List Tapi_Branch) (x1 : List UInt8), {m : Option ((List (List Tapi_Branch)) × Int) // ∀ r, m = some r → PureSpec Tryz.prog 10 [.slice (List.map rTapi_Branch x0), .str x1] (.tup [.slice (List.map (rowL rTapi_Branch) r.1), .int .i64 r.2])}) := by
  (intro x0 x1; apply Subtype.mk; intro r hm; apply pure_walk Tryz.func10 fit_scheme_Groups; unfold sc_scheme_Groups)
  repeat' (first | with_reducible refine W_seq ?_ | with_reducible refine W_reg ?_ | with_reducible refine W_block ?_ | with_reducible refine W_skip ?_ | with_reducible refine W_ret ?_ | with_reducible refine W_exit ?_ | with_reducible refine O_nil ?_ | with_reducible refine K_seq ?_ | with_reducible refine K_seqE ?_ | with_reducible refine K_seqR ?_ | with_reducible refine K_block ?_ | with_reducible refine K_blockR ?_ | with_reducible refine K_blockE ?_ | ((with_reducible apply K_blockN); decide) | with_reducible refine O_o2r ?_ | ((with_reducible apply O_idxr hm); (iterate 2 (simp only [push_cast, seval]; rfl)); (intro _; rfl); intro e hm) | ((with_reducible apply O_idxVr hm); (iterate 3 (simp only [push_cast, seval]; rfl)); intro e hm) | ((with_reducible apply O_idxLr hm (row := (rowL rTapi_Branch))); (iterate 2 (simp only [push_cast, seval]; rfl)); (focus ((repeat' (first | rfl | (with_reducible first | apply fT_Tapi_Branch | apply fT_Tapi_Element | apply fT_Tapi_Segment | apply f_optN | apply f_optS | apply f_some | apply f_tup | apply f_agg | apply f_ptr | apply f_fn | apply dv_slice | apply sv_d | apply f_cons | apply fold_nil | apply fold_cons | apply fold_app | apply f_rowI | apply f_rowY | apply f_rowS | apply f_rowB | apply f_rowL) | (with_reducible apply f_byte; decide))); done)); (simp only [push_cast, seval]; rfl); (intro _; rfl); intro e hm) | ((with_reducible apply O_r); (simp only [push_cast, seval]; rfl); (first | exact trivial | omega)) | ((with_reducible apply O_ldV1r hm); (iterate 2 (simp only [push_cast, seval]; rfl)); (intro _; rfl); intro e hm) | ((with_reducible apply O_strr hm); (iterate 2 (simp only [push_cast, seval]; rfl)); intro hm) | ((with_reducible apply W_condT); (focus (simp only [push_cast, seval]; done))) | ((with_reducible apply W_condF); (focus (simp only [push_cast, seval]; done))) | ((with_reducible apply O_cF hm); (simp only [push_cast, seval]; rfl); (first | apply spec_scheme_CheckTree _ | apply spec_scheme_CheckGroups _ | apply spec_scheme_Kids _ _ | apply spec_scheme_CloneTree FU _); (any_goals ((repeat' (first | rfl | (with_reducible first | apply fT_Tapi_Branch | apply fT_Tapi_Element | apply fT_Tapi_Segment | apply f_optN | apply f_optS | apply f_some | apply f_tup | apply f_agg | apply f_ptr | apply f_fn | apply dv_slice | apply sv_d | apply f_cons | apply fold_nil | apply fold_cons | apply fold_app | apply f_rowI | apply f_rowY | apply f_rowS | apply f_rowB | apply f_rowL) | (with_reducible apply f_byte; decide))); done)); intro x hm) | ((with_reducible apply O_clS hm); (simp only [push_cast, seval]; rfl); (focus (first | exact spec_scheme_CheckTree _ | exact spec_scheme_CheckGroups _ | exact spec_scheme_Kids _ _ | exact spec_scheme_CloneTree FU _)); (intro _; rfl); intro x hm) | ((with_reducible apply O_w); (simp only [push_cast, seval]; rfl); (first | exact trivial | omega)) | ((with_reducible apply O_appL hm (row := (rowL rTapi_Branch))); (iterate 5 (simp only [push_cast, seval]; rfl)); (focus ((repeat' (first | rfl | (with_reducible first | apply fT_Tapi_Branch | apply fT_Tapi_Element | apply fT_Tapi_Segment | apply f_optN | apply f_optS | apply f_some | apply f_tup | apply f_agg | apply f_ptr | apply f_fn | apply dv_slice | apply sv_d | apply f_cons | apply fold_nil | apply fold_cons | apply fold_app | apply f_rowI | apply f_rowY | apply f_rowS | apply f_rowB | apply f_rowL) | (with_reducible apply f_byte; decide))); done)); (focus ((repeat' (first | rfl | (with_reducible first | apply fT_Tapi_Branch | apply fT_Tapi_Element | apply fT_Tapi_Segment | apply f_optN | apply f_optS | apply f_some | apply f_tup | apply f_agg | apply f_ptr | apply f_fn | apply dv_slice | apply sv_d | apply f_cons | apply fold_nil | apply fold_cons | apply fold_app | apply f_rowI | apply f_rowY | apply f_rowS | apply f_rowB | apply f_rowL) | (with_reducible apply f_byte; decide))); done)); rfl; decide; (intro _; rfl); intro hm) | ((with_reducible apply O_appV hm); (iterate 4 (simp only [push_cast, seval]; rfl)); (focus ((repeat' (first | rfl | (with_reducible first | apply fT_Tapi_Branch | apply fT_Tapi_Element | apply fT_Tapi_Segment | apply f_optN | apply f_optS | apply f_some | apply f_tup | apply f_agg | apply f_ptr | apply f_fn | apply dv_slice | apply sv_d | apply f_cons | apply fold_nil | apply fold_cons | apply fold_app | apply f_rowI | apply f_rowY | apply f_rowS | apply f_rowB | apply f_rowL) | (with_reducible apply f_byte; decide))); done)); decide; (intro _; rfl); intro hm) | ((with_reducible apply O_appN hm); (focus (simp only [push_cast, seval]; done)); (iterate 2 (simp only [push_cast, seval]; rfl)); (focus ((repeat' (first | rfl | (with_reducible first | apply fT_Tapi_Branch | apply fT_Tapi_Element | apply fT_Tapi_Segment | apply f_optN | apply f_optS | apply f_some | apply f_tup | apply f_agg | apply f_ptr | apply f_fn | apply dv_slice | apply sv_d | apply f_cons | apply fold_nil | apply fold_cons | apply fold_app | apply f_rowI | apply f_rowY | apply f_rowS | apply f_rowB | apply f_rowL) | (with_reducible apply f_byte; decide))); done)); decide; (intro _; rfl); intro hm) | ((with_reducible apply S_condB hm); (simp only [push_cast, seval]; rfl); intro hm; rotate_left; intro hm) | ((with_reducible apply K_end2 hm); (focus (simp only [resOf, resL, RV.get, push_cast, seval]; rfl)); (focus (first | (dsimp only; done) | (dsimp only; rfl) | rfl)); (focus ((repeat' (first | rfl | (with_reducible first | apply fT_Tapi_Branch | apply fT_Tapi_Element | apply fT_Tapi_Segment | apply f_optN | apply f_optS | apply f_some | apply f_tup | apply f_agg | apply f_ptr | apply f_fn | apply dv_slice | apply sv_d | apply f_cons | apply fold_nil | apply fold_cons | apply fold_app | apply f_rowI | apply f_rowY | apply f_rowS | apply f_rowB | apply f_rowL) | (with_reducible apply f_byte; decide))); done))) | ((with_reducible apply K_leave hm); intro r hm) | ((with_reducible apply K_leaveR hm); intro r hm) | ((apply S_loopY (b := 0) (X := sc_scheme_Groups_B1) (x := sc_scheme_Groups_L1) rfl (fun (c : SV × SV) (s : (List (List Tapi_Branch)) × Int) => st [(8, .vec 8), (23, c.1), (24, c.2), (25, .d (.int .i64 s.2))] [(8, .vec 22 1 (vrow (rowL rTapi_Branch) s.1))]) (c := (_, _)) (s0 := (_, _)) hm); (focus (first | (dsimp only; done) | (dsimp only; rfl) | rfl)); (with_reducible refine Then.mk ?_ ?_); apply Imp.trans; (focus (apply imp_vecnil (slot := 8) (id := 8) (e := 22) (sz := 1); (focus (simp only [push_cast, seval]; done))))) | ((apply K_next (s' := (_, _)) hm); (focus (first | (dsimp only; done) | (dsimp only; rfl) | rfl))) | ((apply K_brk (s' := (_, _)) hm); (focus (first | (dsimp only; done) | (dsimp only; rfl) | rfl))) | (((with_reducible apply K_brkN hm); (focus decide); intro r hm)) | (((with_reducible apply K_brkR hm); intro r hm)) | (((with_reducible apply LoopB.of); (focus (first | (dsimp only; done) | (dsimp only; rfl) | rfl)); (focus ((intro _; repeat' (first | with_reducible exact impC_end | with_reducible exact impC_endF | with_reducible refine impC_seq ?_ | with_reducible refine impC_block ?_ | ((with_reducible refine impC_rnd ?_); intro _) | ((with_reducible refine impC_brk ?_); intro _))))); (intro s o hm; first | unfold sc_scheme_Groups_L1); rotate_left; intro s hm)) | (((apply imp_stT; (repeat' (first | with_reducible exact keepT_nil | with_reducible exact keepC_nil | with_reducible apply keepT_cons | with_reducible apply keepC_cons | ((with_reducible apply svle_eq); (focus (first | (simp only [push_cast, seval]; rfl) | rfl)); (focus ((repeat' (first | rfl | (with_reducible first | apply fT_Tapi_Branch | apply fT_Tapi_Element | apply fT_Tapi_Segment | apply f_optN | apply f_optS | apply f_some | apply f_tup | apply f_agg | apply f_ptr | apply f_fn | apply dv_slice | apply sv_d | apply f_cons | apply fold_nil | apply fold_cons | apply fold_app | apply f_rowI | apply f_rowY | apply f_rowS | apply f_rowB | apply f_rowL) | (with_reducible apply f_byte; decide))); done))) | ((with_reducible apply svle_td); (focus (first | (simp only [push_cast, seval]; rfl) | rfl)); (focus (first | (simp only [push_cast, seval]; rfl) | rfl)); (focus ((repeat' (first | rfl | (with_reducible first | apply fT_Tapi_Branch | apply fT_Tapi_Element | apply fT_Tapi_Segment | apply f_optN | apply f_optS | apply f_some | apply f_tup | apply f_agg | apply f_ptr | apply f_fn | apply dv_slice | apply sv_d | apply f_cons | apply fold_nil | apply fold_cons | apply fold_app | apply f_rowI | apply f_rowY | apply f_rowS | apply f_rowB | apply f_rowL) | (with_reducible apply f_byte; decide))); done))) | ((with_reducible apply chle_eq); (focus (first | (simp only [push_cast, seval]; rfl) | rfl)); (first | with_reducible exact chle_rfl rfl | with_reducible exact chle_map0 | with_reducible apply chle_vec | with_reducible apply chle_box)) | (with_reducible first | apply cT_Tapi_Branch | apply cT_Tapi_Element | apply cT_Tapi_Segment | apply r_shS | apply r_shI | apply r_rflO | apply r_oneO | apply r_appO | apply r_nilO | apply c_ownN | apply c_ownL | apply vc_rfl | apply vc_nil | apply vc_cons | apply r_rfl | apply r_rows | apply r_nil | apply r_app | apply r_cons | apply c_rowI | apply c_rowY | apply c_rowS | apply c_rowB | apply c_rowL))); done))))
noncomputable def m_scheme_Groups (x0 : List Tapi_Branch) (x1 : List UInt8) : Option ((List (List Tapi_Branch)) × Int) := (sims_G7_4_1 x0 x1).1
theorem spec_scheme_Groups (x0 : List Tapi_Branch) (x1 : List UInt8) : ∀ r, m_scheme_Groups x0 x1 = some r → PureSpec Tryz.prog 10 [.slice (List.map rTapi_Branch x0), .str x1] (.tup [.slice (List.map (rowL rTapi_Branch) r.1), .int .i64 r.2]) := (sims_G7_4_1 x0 x1).2

/-- interchange/scheme.Find -/
def sc_scheme_Find : SC :=
  (.seq (.reg [.r 4 (.mv (.c (.nils))),
     .r 5 (.mv (.c (.d (.int .i64 0))))])
  (.seq (.seq (.reg [.r 10 (.mv (.t 0)),
     .c 11 (.f 18) [.t 10],
     .r 6 (.mv (.t 11))])
  (.seq (.reg [.r 12 (.mv (.t 6)),
     .r 13 (.bin .neq (.t 12) (.c (.d (.int .i64 0))))])
  (.cond (.t 13)
    (.seq (.reg [.r 14 (.mv (.t 6)),
       .r 4 (.mv (.c (.nils))),
       .r 5 (.mv (.t 14))])
    .ret)
    .skip)))
  (.seq (.seq (.reg [.r 15 (.mv (.t 1)),
     .c 16 (.f 7) [.t 15],
     .r 7 (.mv (.t 16))])
  (.seq (.reg [.r 17 (.mv (.t 7)),
     .r 18 (.bin .neq (.t 17) (.c (.d (.int .i64 0))))])
  (.cond (.t 18)
    (.seq (.reg [.r 19 (.mv (.t 7)),
       .r 4 (.mv (.c (.nils))),
       .r 5 (.mv (.t 19))])
    .ret)
    .skip)))
  (.seq (.reg [.r 21 (.mv (.t 1)),
     .c 22 (.f 19) [.t 21],
     .r 20 (.mv (.t 22)),
     .r 23 (.ext (.t 20) 0),
     .r 24 (.ext (.t 20) 1),
     .w 8 (.boxM (.c (.agg [.nils, .d (.str []), .d (.int .i64 0), .d (.int .i64 0)]))),
     .w 0 (.st 4 (.t 8) (.t 23)),
     .r 9 (.mv (.t 24))])
  (.seq (.reg [.r 25 (.mv (.t 0)),
     .o 26 (.ldA 4 (.t 8)),
     .c 27 (.f 20) [.t 25, .t 26],
     .r 4 (.mv (.t 27)),
     .r 5 (.mv (.c (.d (.int .i64 0))))])
  .ret)))))
theorem fit_scheme_Find : fits Tryz.prog 5 Tryz.f5 sc_scheme_Find [.t 4, .t 5] 2 = true := by kernel_rfl

set_option maxRecDepth 100000 in
set_option maxHeartbeats 40000000 in
noncomputable def sims_G7_5_0 : (∀ (x0 : List Tapi_Branch) (x1 : List UInt8), {m : Option ((List (List UInt8)) × Int) // ∀ r, m = some r → PureSpec Tryz.prog 5 [.slice (List.map rTapi_Branch x0), .str x1] (.tup [.slice (List.map rowS r.1), .int .i64 r.2])}) := by
  (intro x0 x1; apply Subtype.mk; intro r hm; apply pure_walk Tryz.func5 fit_scheme_Find; unfold sc_scheme_Find)
  repeat' (first | with_reducible refine W_seq ?_ | with_reducible refine W_reg ?_ | with_reducible refine W_block ?_ | with_reducible refine W_skip ?_ | with_reducible refine W_ret ?_ | with_reducible refine W_exit ?_ | with_reducible refine O_nil ?_ | with_reducible refine K_seq ?_ | with_reducible refine K_seqE ?_ | with_reducible refine K_seqR ?_ | with_reducible refine K_block ?_ | with_reducible refine K_blockR ?_ | with_reducible refine K_blockE ?_ | ((with_reducible apply K_blockN); decide) | with_reducible refine O_o2r ?_ | ((with_reducible apply O_r); (simp only [push_cast, seval]; rfl); (first | exact trivial | omega)) | ((with_reducible apply W_condT); (focus (simp only [push_cast, seval]; done))) | ((with_reducible apply W_condF); (focus (simp only [push_cast, seval]; done))) | ((with_reducible apply O_cF hm); (simp only [push_cast, seval]; rfl); (first | apply spec_scheme_CheckTree _ | apply spec_scheme_CheckPath _ | apply spec_scheme_WayOf _ | apply spec_scheme_Texts _ _); (any_goals ((repeat' (first | rfl | (with_reducible first | apply fT_Tapi_Branch | apply fT_Tapi_Element | apply fT_Tapi_Segment | apply fT_Tscheme_Way | apply f_optN | apply f_optS | apply f_some | apply f_tup | apply f_agg | apply f_ptr | apply f_fn | apply dv_slice | apply sv_d | apply f_cons | apply fold_nil | apply fold_cons | apply fold_app | apply f_rowI | apply f_rowY | apply f_rowS | apply f_rowB | apply f_rowL) | (with_reducible apply f_byte; decide))); done)); intro x hm) | ((with_reducible apply O_w); (simp only [push_cast, seval]; rfl); (first | exact trivial | omega)) | ((with_reducible apply S_condB hm); (simp only [push_cast, seval]; rfl); intro hm; rotate_left; intro hm) | ((with_reducible apply K_end2 hm); (focus (simp only [resOf, resL, RV.get, push_cast, seval]; rfl)); (focus (first | (dsimp only; done) | (dsimp only; rfl) | rfl)); (focus ((repeat' (first | rfl | (with_reducible first | apply fT_Tapi_Branch | apply fT_Tapi_Element | apply fT_Tapi_Segment | apply fT_Tscheme_Way | apply f_optN | apply f_optS | apply f_some | apply f_tup | apply f_agg | apply f_ptr | apply f_fn | apply dv_slice | apply sv_d | apply f_cons | apply fold_nil | apply fold_cons | apply fold_app | apply f_rowI | apply f_rowY | apply f_rowS | apply f_rowB | apply f_rowL) | (with_reducible apply f_byte; decide))); done))))
noncomputable def m_scheme_Find (x0 : List Tapi_Branch) (x1 : List UInt8) : Option ((List (List UInt8)) × Int) := (sims_G7_5_0 x0 x1).1
theorem spec_scheme_Find (x0 : List Tapi_Branch) (x1 : List UInt8) : ∀ r, m_scheme_Find x0 x1 = some r → PureSpec Tryz.prog 5 [.slice (List.map rTapi_Branch x0), .str x1] (.tup [.slice (List.map rowS r.1), .int .i64 r.2]) := (sims_G7_5_0 x0 x1).2

/-- interchange/interchangelaw3.awake -/
def sc_interchangelaw3_awake : SC :=
  (.seq (.reg [.r 0 (.mv (.c (.d (.bool false))))])
  (.seq (.reg [.r 4 (.build [.d (.str []), .nils] [(0, 1, .c (.d (.str [66, 71, 77])))]),
     .r 5 (.build [.d (.str []), .d (.str []), .nils, .nils] [(1, 2, .t 4)]),
     .r 6 (.bslice 4 [.t 5]),
     .c 7 (.f 5) [.t 6, .c (.d (.str [66, 71, 77]))],
     .r 3 (.mv (.t 7)),
     .r 8 (.ext (.t 3) 0),
     .r 9 (.ext (.t 3) 1),
     .r 1 (.mv (.t 8)),
     .r 2 (.mv (.t 9))])
  (.seq (.reg (.r 10 (.mv (.t 2)) :: .r 11 (.bin .eql (.t 10) (.c (.d (.int .i64 0)))) :: .r 12 (.mv (.t 11)) :: gapp [13, 14, 15] 12 true (.r 13 (.mv (.t 1)) :: .r 14 (.len (.t 13)) :: .r 15 (.bin .eql (.t 14) (.c (.d (.int .i64 1)))) :: []) (.r 16 (.pick (.t 12) (.t 15) (.c (.d (.bool false)))) :: .r 17 (.mv (.t 16)) :: gapp [18, 19, 20, 21] 17 true (.r 18 (.mv (.t 1)) :: .r 19 (.idx 1 (.t 18) (.c (.d (.int .i64 0)))) :: .r 20 (.ld1 (.t 19)) :: .r 21 (.bin .eql (.t 20) (.c (.d (.str [66, 71, 77])))) :: []) (.r 22 (.pick (.t 17) (.t 21) (.c (.d (.bool false)))) :: .r 0 (.mv (.t 22)) :: []))))
  .ret)))
theorem fit_interchangelaw3_awake : fits Tryz.prog 13 Tryz.f13 sc_interchangelaw3_awake [.t 0] 0 = true := by kernel_rfl

set_option maxRecDepth 100000 in
set_option maxHeartbeats 40000000 in
noncomputable def sims_G7_6_0 : ({m : Option (Bool) // ∀ r, m = some r → PureSpec Tryz.prog 13 [] (.bool r)}) := by
  (apply Subtype.mk; intro r hm; apply pure_walk Tryz.func13 fit_interchangelaw3_awake; unfold sc_interchangelaw3_awake)
  repeat' (first | with_reducible refine W_seq ?_ | with_reducible refine W_reg ?_ | with_reducible refine W_block ?_ | with_reducible refine W_skip ?_ | with_reducible refine W_ret ?_ | with_reducible refine W_exit ?_ | with_reducible refine O_nil ?_ | with_reducible refine K_seq ?_ | with_reducible refine K_seqE ?_ | with_reducible refine K_seqR ?_ | with_reducible refine K_block ?_ | with_reducible refine K_blockR ?_ | with_reducible refine K_blockE ?_ | ((with_reducible apply K_blockN); decide) | ((with_reducible apply O_idxr hm); (iterate 2 (simp only [push_cast, seval]; rfl)); (intro _; rfl); intro e hm) | ((with_reducible apply O_idxVr hm); (iterate 3 (simp only [push_cast, seval]; rfl)); intro e hm) | ((with_reducible apply O_idxLr hm (row := rTapi_Branch)); (iterate 2 (simp only [push_cast, seval]; rfl)); (focus ((repeat' (first | rfl | (with_reducible first | apply fT_Tapi_Branch | apply fT_Tapi_Element | apply fT_Tapi_Segment | apply f_optN | apply f_optS | apply f_some | apply f_tup | apply f_agg | apply f_ptr | apply f_fn | apply dv_slice | apply sv_d | apply f_cons | apply fold_nil | apply fold_cons | apply fold_app | apply f_rowI | apply f_rowY | apply f_rowS | apply f_rowB | apply f_rowL) | (with_reducible apply f_byte; decide))); done)); (simp only [push_cast, seval]; rfl); (intro _; rfl); intro e hm) | ((with_reducible apply O_r); (simp only [push_cast, seval]; rfl); (first | exact trivial | omega)) | ((with_reducible apply O_ldV1r hm); (iterate 2 (simp only [push_cast, seval]; rfl)); (intro _; rfl); intro e hm) | ((with_reducible apply O_and hm); (simp only [push_cast, seval]; rfl); rfl; intro v hm; rotate_left; intro v g hm) | ((with_reducible apply W_condT); (focus (simp only [push_cast, seval]; done))) | ((with_reducible apply W_condF); (focus (simp only [push_cast, seval]; done))) | ((with_reducible apply O_cF hm); (simp only [push_cast, seval]; rfl); (first | apply spec_scheme_Find _ _); (any_goals ((repeat' (first | rfl | (with_reducible first | apply fT_Tapi_Branch | apply fT_Tapi_Element | apply fT_Tapi_Segment | apply f_optN | apply f_optS | apply f_some | apply f_tup | apply f_agg | apply f_ptr | apply f_fn | apply dv_slice | apply sv_d | apply f_cons | apply fold_nil | apply fold_cons | apply fold_app | apply f_rowI | apply f_rowY | apply f_rowS | apply f_rowB | apply f_rowL) | (with_reducible apply f_byte; decide))); done)); intro x hm) | ((with_reducible apply S_condB hm); (simp only [push_cast, seval]; rfl); intro hm; rotate_left; intro hm) | ((with_reducible apply K_endS hm); (focus (simp only [resOf, resL, RV.get, push_cast, seval]; rfl)); (focus ((repeat' (first | rfl | (with_reducible first | apply fT_Tapi_Branch | apply fT_Tapi_Element | apply fT_Tapi_Segment | apply f_optN | apply f_optS | apply f_some | apply f_tup | apply f_agg | apply f_ptr | apply f_fn | apply dv_slice | apply sv_d | apply f_cons | apply fold_nil | apply fold_cons | apply fold_app | apply f_rowI | apply f_rowY | apply f_rowS | apply f_rowB | apply f_rowL) | (with_reducible apply f_byte; decide))); done))) | ((with_reducible apply K_bool hm); (simp only [push_cast, seval]; rfl)))
noncomputable def m_interchangelaw3_awake : Option (Bool) := (sims_G7_6_0 ).1
theorem spec_interchangelaw3_awake : ∀ r, m_interchangelaw3_awake  = some r → PureSpec Tryz.prog 13 [] (.bool r) := (sims_G7_6_0 ).2

def sc_interchangelaw3_SchemePathsMatchSpec_L1 : SC :=
  (.seq (.seq (.reg [.r 62 (.mv (.t 11)),
     .r 63 (.mv (.t 9)),
     .r 64 (.len (.t 63)),
     .r 65 (.bin .lss (.t 62) (.t 64))])
  (.cond (.t 65)
    .skip
    (.exit 0)))
  (.seq (.block 1 (.seq (.regD [.r 68 (.mv (.t 9)),
       .r 69 (.mv (.t 11)),
       .r 70 (.idx 1 (.t 68) (.t 69)),
       .r 71 (.ld1 (.t 70)),
       .r 72 (.mv (.t 10)),
       .r 73 (.mv (.t 11)),
       .r 74 (.idx 1 (.t 72) (.t 73)),
       .r 75 (.ld1 (.t 74)),
       .c 76 (.f 12) [.t 71, .t 75],
       .r 77 (.not (.t 76))])
    (.cond (.t 77)
      (.seq (.reg [.r 4 (.mv (.c (.d (.bool false))))])
      .ret)
      .skip)))
  (.reg [.r 66 (.mv (.t 11)),
     .r 67 (.bin .add (.t 66) (.c (.d (.int .i64 1)))),
     .r 11 (.mv (.t 67))])))
def sc_interchangelaw3_SchemePathsMatchSpec_B1 : SC := .block 0 (.loop sc_interchangelaw3_SchemePathsMatchSpec_L1)
/-- interchange/interchangelaw3.SchemePathsMatchSpec -/
def sc_interchangelaw3_SchemePathsMatchSpec : SC :=
  (.seq (.reg [.r 4 (.mv (.c (.d (.bool false))))])
  (.seq (.reg [.r 13 (.mv (.t 0)),
     .r 14 (.mv (.t 1)),
     .c 15 (.f 5) [.t 13, .t 14],
     .r 12 (.mv (.t 15)),
     .r 16 (.ext (.t 12) 0),
     .r 17 (.ext (.t 12) 1),
     .r 5 (.mv (.t 16)),
     .r 6 (.mv (.t 17))])
  (.seq (.reg [.r 19 (.mv (.t 0)),
     .r 20 (.mv (.t 1)),
     .c 21 (.f 6) [.t 19, .t 20],
     .r 18 (.mv (.t 21)),
     .r 22 (.ext (.t 18) 0),
     .r 23 (.ext (.t 18) 1),
     .r 7 (.mv (.t 22)),
     .r 8 (.mv (.t 23))])
  (.seq (.seq (.reg (.r 24 (.mv (.t 1)) :: .c 25 (.f 7) [.t 24] :: .r 26 (.mv (.t 1)) :: .c 27 (.f 8) [.t 26] :: .r 28 (.bin .neq (.t 25) (.t 27)) :: .r 29 (.mv (.t 28)) :: gapp [30, 31, 32, 33] 29 false (.r 30 (.mv (.t 5)) :: .r 31 (.mv (.t 7)) :: .c 32 (.f 9) [.t 30, .t 31] :: .r 33 (.not (.t 32)) :: []) (.r 34 (.pick (.t 29) (.c (.d (.bool true))) (.t 33)) :: .r 35 (.mv (.t 34)) :: gapp [36, 37, 38] 35 false (.r 36 (.mv (.t 6)) :: .r 37 (.mv (.t 8)) :: .r 38 (.bin .neq (.t 36) (.t 37)) :: []) (.r 39 (.pick (.t 35) (.c (.d (.bool true))) (.t 38)) :: []))))
  (.cond (.t 39)
    (.seq (.reg [.r 4 (.mv (.c (.d (.bool false))))])
    .ret)
    .skip))
  (.seq (.reg [.r 41 (.mv (.t 0)),
     .r 42 (.mv (.t 1)),
     .c 43 (.f 10) [.t 41, .t 42],
     .r 40 (.mv (.t 43)),
     .r 44 (.ext (.t 40) 0),
     .r 45 (.ext (.t 40) 1),
     .r 9 (.mv (.t 44)),
     .r 6 (.mv (.t 45))])
  (.seq (.reg [.r 47 (.mv (.t 0)),
     .r 48 (.mv (.t 1)),
     .c 49 (.f 11) [.t 47, .t 48],
     .r 46 (.mv (.t 49)),
     .r 50 (.ext (.t 46) 0),
     .r 51 (.ext (.t 46) 1),
     .r 10 (.mv (.t 50)),
     .r 8 (.mv (.t 51))])
  (.seq (.seq (.reg (.r 52 (.mv (.t 9)) :: .r 53 (.len (.t 52)) :: .r 54 (.mv (.t 10)) :: .r 55 (.len (.t 54)) :: .r 56 (.bin .neq (.t 53) (.t 55)) :: .r 57 (.mv (.t 56)) :: gapp [58, 59, 60] 57 false (.r 58 (.mv (.t 6)) :: .r 59 (.mv (.t 8)) :: .r 60 (.bin .neq (.t 58) (.t 59)) :: []) (.r 61 (.pick (.t 57) (.c (.d (.bool true))) (.t 60)) :: [])))
  (.cond (.t 61)
    (.seq (.reg [.r 4 (.mv (.c (.d (.bool false))))])
    .ret)
    .skip))
  (.seq (.seq (.reg [.r 11 (.mv (.c (.d (.int .i64 0))))])
  sc_interchangelaw3_SchemePathsMatchSpec_B1)
  (.seq (.reg [.c 78 (.f 13) [],
     .r 4 (.mv (.t 78))])
  .ret)))))))))
theorem fit_interchangelaw3_SchemePathsMatchSpec : fits Tryz.prog 3 Tryz.f3 sc_interchangelaw3_SchemePathsMatchSpec [.t 4] 2 = true := by kernel_rfl

set_option maxRecDepth 100000 in
set_option maxHeartbeats 40000000 in
noncomputable def sims_G7_7_0 : (∀ (x0 : List Tapi_Branch) (x1 : List UInt8), {m : Option (Bool) // ∀ r, m = some r → PureSpec Tryz.prog 3 [.slice (List.map rTapi_Branch x0), .str x1] (.bool r)}) := by
  (intro x0 x1; apply Subtype.mk; intro r hm; apply pure_walk Tryz.func3 fit_interchangelaw3_SchemePathsMatchSpec; unfold sc_interchangelaw3_SchemePathsMatchSpec)
  repeat' (first | with_reducible refine W_seq ?_ | with_reducible refine W_reg ?_ | with_reducible refine W_regD ?_ | with_reducible refine W_block ?_ | with_reducible refine W_skip ?_ | with_reducible refine W_ret ?_ | with_reducible refine W_exit ?_ | with_reducible refine O_nil ?_ | with_reducible refine K_seq ?_ | with_reducible refine K_seqE ?_ | with_reducible refine K_seqR ?_ | with_reducible refine K_block ?_ | with_reducible refine K_blockR ?_ | with_reducible refine K_blockE ?_ | ((with_reducible apply K_blockN); decide) | ((with_reducible apply O_idxr hm); (iterate 2 (simp only [push_cast, seval]; rfl)); (intro _; rfl); intro e hm) | ((with_reducible apply O_idxVr hm); (iterate 3 (simp only [push_cast, seval]; rfl)); intro e hm) | ((with_reducible apply O_r); (simp only [push_cast, seval]; rfl); (first | exact trivial | omega)) | ((with_reducible apply O_ldV1r hm); (iterate 2 (simp only [push_cast, seval]; rfl)); (intro _; rfl); intro e hm) | ((with_reducible apply O_strr hm); (iterate 2 (simp only [push_cast, seval]; rfl)); intro hm) | ((with_reducible apply O_or hm); (simp only [push_cast, seval]; rfl); rfl; intro v hm; rotate_left; intro v g hm) | ((with_reducible apply W_condT); (focus (simp only [push_cast, seval]; done))) | ((with_reducible apply W_condF); (focus (simp only [push_cast, seval]; done))) | ((with_reducible apply O_cF hm); (simp only [push_cast, seval]; rfl); (first | apply spec_scheme_Find _ _ | apply spec_interchangeref3_Find _ _ | apply spec_scheme_CheckPath _ | apply spec_interchangeref3_CheckPath _ | apply spec_slices_Equal_string_string _ _ | apply spec_scheme_Groups _ _ | apply spec_interchangeref3_Groups _ _ | apply spec_interchangeref3_SameTree FU _ _ | apply spec_interchangelaw3_awake); (any_goals ((repeat' (first | rfl | (with_reducible first | apply fT_Tapi_Branch | apply fT_Tapi_Element | apply fT_Tapi_Segment | apply f_optN | apply f_optS | apply f_some | apply f_tup | apply f_agg | apply f_ptr | apply f_fn | apply dv_slice | apply sv_d | apply f_cons | apply fold_nil | apply fold_cons | apply fold_app | apply f_rowI | apply f_rowY | apply f_rowS | apply f_rowB | apply f_rowL) | (with_reducible apply f_byte; decide))); done)); intro x hm) | ((with_reducible apply S_condB hm); (simp only [push_cast, seval]; rfl); intro hm; rotate_left; intro hm) | ((with_reducible apply K_endS hm); (focus (simp only [resOf, resL, RV.get, push_cast, seval]; rfl)); (focus ((repeat' (first | rfl | (with_reducible first | apply fT_Tapi_Branch | apply fT_Tapi_Element | apply fT_Tapi_Segment | apply f_optN | apply f_optS | apply f_some | apply f_tup | apply f_agg | apply f_ptr | apply f_fn | apply dv_slice | apply sv_d | apply f_cons | apply fold_nil | apply fold_cons | apply fold_app | apply f_rowI | apply f_rowY | apply f_rowS | apply f_rowB | apply f_rowL) | (with_reducible apply f_byte; decide))); done))) | ((with_reducible apply K_bool hm); (simp only [push_cast, seval]; rfl)) | ((with_reducible apply K_leave hm); intro r hm) | ((with_reducible apply K_leaveR hm); intro r hm) | ((apply S_loopY (b := 0) (X := sc_interchangelaw3_SchemePathsMatchSpec_B1) (x := sc_interchangelaw3_SchemePathsMatchSpec_L1) rfl (fun (c : SV × SV) (s : Int) => st [(9, c.1), (10, c.2), (11, .d (.int .i64 s))] []) (c := (_, _)) (s0 := _) hm); (focus (first | (dsimp only; done) | (dsimp only; rfl) | rfl)); (with_reducible refine Then.mk ?_ ?_)) | ((apply K_next (s' := _) hm); (focus (first | (dsimp only; done) | (dsimp only; rfl) | rfl))) | ((apply K_brk (s' := _) hm); (focus (first | (dsimp only; done) | (dsimp only; rfl) | rfl))) | (((with_reducible apply K_brkN hm); (focus decide); intro r hm)) | (((with_reducible apply K_brkR hm); intro r hm)) | (((with_reducible apply LoopB.of); (focus (first | (dsimp only; done) | (dsimp only; rfl) | rfl)); (focus ((intro _; repeat' (first | with_reducible exact impC_end | with_reducible exact impC_endF | with_reducible refine impC_seq ?_ | with_reducible refine impC_block ?_ | ((with_reducible refine impC_rnd ?_); intro _) | ((with_reducible refine impC_brk ?_); intro _))))); (intro s o hm; first | unfold sc_interchangelaw3_SchemePathsMatchSpec_L1); rotate_left; intro s hm)) | (((apply imp_stT; (repeat' (first | with_reducible exact keepT_nil | with_reducible exact keepC_nil | with_reducible apply keepT_cons | with_reducible apply keepC_cons | ((with_reducible apply svle_eq); (focus (first | (simp only [push_cast, seval]; rfl) | rfl)); (focus ((repeat' (first | rfl | (with_reducible first | apply fT_Tapi_Branch | apply fT_Tapi_Element | apply fT_Tapi_Segment | apply f_optN | apply f_optS | apply f_some | apply f_tup | apply f_agg | apply f_ptr | apply f_fn | apply dv_slice | apply sv_d | apply f_cons | apply fold_nil | apply fold_cons | apply fold_app | apply f_rowI | apply f_rowY | apply f_rowS | apply f_rowB | apply f_rowL) | (with_reducible apply f_byte; decide))); done))) | ((with_reducible apply svle_td); (focus (first | (simp only [push_cast, seval]; rfl) | rfl)); (focus (first | (simp only [push_cast, seval]; rfl) | rfl)); (focus ((repeat' (first | rfl | (with_reducible first | apply fT_Tapi_Branch | apply fT_Tapi_Element | apply fT_Tapi_Segment | apply f_optN | apply f_optS | apply f_some | apply f_tup | apply f_agg | apply f_ptr | apply f_fn | apply dv_slice | apply sv_d | apply f_cons | apply fold_nil | apply fold_cons | apply fold_app | apply f_rowI | apply f_rowY | apply f_rowS | apply f_rowB | apply f_rowL) | (with_reducible apply f_byte; decide))); done))) | ((with_reducible apply chle_eq); (focus (first | (simp only [push_cast, seval]; rfl) | rfl)); (first | with_reducible exact chle_rfl rfl | with_reducible exact chle_map0 | with_reducible apply chle_vec | with_reducible apply chle_box)) | (with_reducible first | apply cT_Tapi_Branch | apply cT_Tapi_Element | apply cT_Tapi_Segment | apply r_shS | apply r_shI | apply r_rflO | apply r_oneO | apply r_appO | apply r_nilO | apply c_ownN | apply c_ownL | apply vc_rfl | apply vc_nil | apply vc_cons | apply r_rfl | apply r_rows | apply r_nil | apply r_app | apply r_cons | apply c_rowI | apply c_rowY | apply c_rowS | apply c_rowB | apply c_rowL))); done))))
noncomputable def m_interchangelaw3_SchemePathsMatchSpec (x0 : List Tapi_Branch) (x1 : List UInt8) : Option (Bool) := (sims_G7_7_0 x0 x1).1
theorem spec_interchangelaw3_SchemePathsMatchSpec (x0 : List Tapi_Branch) (x1 : List UInt8) : ∀ r, m_interchangelaw3_SchemePathsMatchSpec x0 x1 = some r → PureSpec Tryz.prog 3 [.slice (List.map rTapi_Branch x0), .str x1] (.bool r) := (sims_G7_7_0 x0 x1).2

end Go.Proofs.YtdkncdkdbddgoaaGreatDoor

/-
  How the parameters of the laws of this seat read, and a world in which the listed tables lie (printed by wip/tool/row.py).
-/
namespace Go.Proofs.YtdkncdkdbddgoaaGreatDoor
open Go.ChangeShapes Go.WideShapes Go.ChangeAt Go.RowKit
set_option linter.unusedSimpArgs false
set_option linter.unusedVariables false
theorem and_t {a b : Bool} (h1 : a = true) (h2 : b = true) : (a && b) = true := by rw [h1, h2]; rfl
/-- How a value of a type reads. -/
def Wt (P : Program) (n : Nat) (t : TypeId) {α : Type} (row : α → List DV) (ok : α → Prop) : Prop := ∀ m ds, WT P (m + n) t ds → ∃ x, ds = row x ∧ ok x
theorem Wt.up {P : Program} {n : Nat} {t : TypeId} {α : Type} {row : α → List DV} {ok : α → Prop} (h : Wt P n t row ok) (k : Nat) : Wt P (n + k) t row ok := fun m ds hd => h (m + k) ds (by rwa [show m + k + n = m + (n + k) by omega])
def okS (s : List UInt8) : Prop := s.length ≤ 9223372036854775807
def okL {α : Type} (ok : α → Prop) (l : List α) : Prop := l.length ≤ 9223372036854775807 ∧ ∀ a ∈ l, ok a
theorem WT_struct {P : Program} {n : Nat} {t : TypeId} {fs : Array Field} {ds : List DV} (hu : P.underlying t = some (.struct fs)) (h : WT P (n + 1) t ds) : WTS (WT P n) fs.toList ds := by
  simp only [WT, hu] at h; exact h
theorem wt_str {P : Program} {t : TypeId} (hu : P.underlying t = some .string) : Wt P 1 t rowS okS := by
  intro m ds h
  simp only [WT, hu] at h
  obtain ⟨b, rfl, hl⟩ := h
  exact ⟨b, rfl, by unfold okS; unfold maxLen at hl; omega⟩
theorem wt_slice {P : Program} {n : Nat} {t e : TypeId} {α : Type} {row : α → List DV} {ok : α → Prop} (hu : P.underlying t = some (.slice e)) (he : Wt P n e row ok) : Wt P (n + 1) t (rowL row) (okL ok) := by
  intro m ds h
  rw [show m + (n + 1) = (m + n) + 1 by omega] at h
  simp only [WT, hu] at h
  obtain ⟨rows, rfl, hl, hr⟩ := h
  have : ∀ rows : List (List DV), (∀ r ∈ rows, WT P (m + n) e r) → ∃ l : List α, rows = l.map row ∧ ∀ a ∈ l, ok a := by
    intro rows
    induction rows with
    | nil => intro _; exact ⟨[], rfl, by simp⟩
    | cons r rows ih =>
      intro h
      obtain ⟨a, rfl, ha⟩ := he m r (h r (by simp))
      obtain ⟨l, rfl, hl⟩ := ih (fun r hr => h r (by simp [hr]))
      exact ⟨a :: l, rfl, by simpa using ⟨ha, hl⟩⟩
  obtain ⟨l, rfl, hok⟩ := this rows hr
  exact ⟨l, rfl, by unfold maxLen at hl; simp at hl; omega, hok⟩
theorem ownK : ownKnob Tryz.prog.godebug = none := by kernel_rfl
theorem laidOut : laidOutB Tryz.prog = true := by kernel_rfl
/-- How a value of a type reads, at every depth. -/
def WtR (P : Program) (t : TypeId) {α : Type} (row : α → List DV) (ok : α → Prop) : Prop := ∀ m ds, WT P m t ds → ∃ x, ds = row x ∧ ok x
theorem Wt.all {P : Program} {n : Nat} {t : TypeId} {α : Type} {row : α → List DV} {ok : α → Prop} (h : Wt P n t row ok) : WtR P t row ok := fun m ds hw => h m ds (WT_mono (by omega) hw)
theorem wr_rows {P : Program} {e : TypeId} {α : Type} {row : α → List DV} {ok : α → Prop} {m : Nat} (he : ∀ r, WT P m e r → ∃ x, r = row x ∧ ok x) : ∀ rows : List (List DV), (∀ r ∈ rows, WT P m e r) → ∃ l : List α, rows = l.map row ∧ ∀ a ∈ l, ok a
  | [], _ => ⟨[], rfl, by simp⟩
  | r :: rows, h => by
    obtain ⟨a, rfl, ha⟩ := he r (h r (by simp))
    obtain ⟨l, rfl, hl⟩ := wr_rows he rows (fun r hr => h r (by simp [hr]))
    exact ⟨a :: l, rfl, by simpa using ⟨ha, hl⟩⟩
theorem wr_kids {P : Program} {t e : TypeId} {α : Type} {row : α → List DV} {ok : α → Prop} {m : Nat} {ds : List DV} (hu : P.underlying t = some (.slice e)) (he : ∀ r m', m' ≤ m → WT P m' e r → ∃ x, r = row x ∧ ok x) (h : WT P m t ds) :
    ∃ l : List α, ds = rowL row l ∧ l.length ≤ 9223372036854775807 ∧ ∀ a ∈ l, ok a := by
  cases m with
  | zero => simp [WT] at h
  | succ m =>
    simp only [WT, hu] at h
    obtain ⟨rows, rfl, hl, hr⟩ := h
    obtain ⟨l, rfl, hok⟩ := wr_rows (fun r hw => he r m (by omega) hw) rows hr
    exact ⟨l, rfl, by unfold maxLen at hl; simp at hl; omega, hok⟩
theorem wr_slice {P : Program} {t e : TypeId} {α : Type} {row : α → List DV} {ok : α → Prop} (hu : P.underlying t = some (.slice e)) (he : WtR P e row ok) : WtR P t (rowL row) (okL ok) := fun m ds h => by
  obtain ⟨l, h1, h2, h3⟩ := wr_kids hu (fun r m' _ hw => he m' r hw) h
  exact ⟨l, h1, h2, h3⟩
theorem wt9 : Wt Tryz.prog 1 9 rowS okS := wt_str Tryz.underlying9
theorem wt23 : Wt Tryz.prog 2 23 (rowL rowS) (okL okS) := wt_slice Tryz.underlying23 wt9
theorem wt92 : Wt Tryz.prog 3 92 (rowL (rowL rowS)) (okL (okL okS)) := wt_slice Tryz.underlying92 wt23
def okTapi_Element (x : Tapi_Element) : Prop := (okL (okL okS)) x.fRepeats
set_option maxRecDepth 100000 in
theorem wt94 : Wt Tryz.prog 4 94 rTapi_Element okTapi_Element := by
  intro m ds h
  have h := WT_struct Tryz.underlying94 h
  simp only [WTS] at h
  obtain ⟨a0, _, rfl, h0, rfl⟩ := h
  obtain ⟨x0, rfl, o0⟩ := (wt92.up 0) m _ h0
  refine ⟨⟨x0⟩, ?_, o0⟩
  simp only [rTapi_Element, rowI, rowY, rowS, rowB, rowL, List.append_assoc, List.cons_append, List.nil_append, List.append_nil]
theorem wt58 : Wt Tryz.prog 5 58 (rowL rTapi_Element) (okL okTapi_Element) := wt_slice Tryz.underlying58 wt94
def okTapi_Segment (x : Tapi_Segment) : Prop := okS x.fTag ∧ (okL okTapi_Element) x.fElements
set_option maxRecDepth 100000 in
theorem wt60 : Wt Tryz.prog 6 60 rTapi_Segment okTapi_Segment := by
  intro m ds h
  have h := WT_struct Tryz.underlying60 h
  simp only [WTS] at h
  obtain ⟨a0, _, rfl, h0, a1, _, rfl, h1, rfl⟩ := h
  obtain ⟨x0, rfl, o0⟩ := (wt9.up 4) m _ h0
  obtain ⟨x1, rfl, o1⟩ := (wt58.up 0) m _ h1
  refine ⟨⟨x0, x1⟩, ?_, o0, o1⟩
  simp only [rTapi_Segment, rowI, rowY, rowS, rowB, rowL, List.append_assoc, List.cons_append, List.nil_append, List.append_nil]
inductive okTapi_Branch : Tapi_Branch → Prop
  | mk {x : Tapi_Branch} : okS x.fName → okTapi_Segment x.fSegment → x.fKids.length ≤ 9223372036854775807 → (∀ a ∈ x.fKids, okTapi_Branch a) → okTapi_Branch x
set_option maxRecDepth 100000 in
theorem wrS62 : ∀ n m, m ≤ n → ∀ ds, WT Tryz.prog m 62 ds → ∃ x : Tapi_Branch, ds = rTapi_Branch x ∧ okTapi_Branch x
  | n, 0, _, ds, h => by simp [WT] at h
  | 0, m + 1, hm, ds, h => by omega
  | n + 1, m + 1, hm, ds, h => by
    have h := WT_struct Tryz.underlying62 h
    simp only [WTS] at h
    obtain ⟨a0, _, rfl, h0, a1, _, rfl, h1, a2, _, rfl, h2, rfl⟩ := h
    obtain ⟨x0, rfl, o0⟩ := wt9.all m _ h0
    obtain ⟨x1, rfl, o1⟩ := wt60.all m _ h1
    obtain ⟨x2, rfl, o2, q2⟩ := wr_kids Tryz.underlying22 (fun r m' hr hw => wrS62 n m' (by omega) r hw) h2
    refine ⟨⟨x0, x1, x2⟩, ?_, .mk o0 o1 o2 q2⟩
    rw [rTapi_Branch_eq]; simp only [rowI, rowY, rowS, rowB, rowL, List.append_assoc, List.cons_append, List.nil_append, List.append_nil]
theorem wr62 : WtR Tryz.prog 62 rTapi_Branch okTapi_Branch := fun m ds h => wrS62 m m (Nat.le_refl _) ds h
theorem wr22 : WtR Tryz.prog 22 (rowL rTapi_Branch) (okL okTapi_Branch) := wr_slice Tryz.underlying22 wr62
def layVals : Nat → DataW Unit → List Value
  | 0, _ => []
  | _ + 1, .lit (.int k n) => [.int k n]
  | n + 1, .agg ps => ps.flatMap (layVals n)
  | _ + 1, _ => []
/-- The settled world, with the listed tables in it. -/
def layCells (l : List Value) : Obj → Obj
  | .cells _ t frozen => .cells l.toArray t frozen
  | o => o
noncomputable def lowWorld : Nat := (World.holding Tryz.prog default ⟨#[], #[], []⟩).heap.size
noncomputable def laidWorld (os : Os) : World :=
  { World.holding Tryz.prog os ⟨#[], #[], []⟩ with
    heap := ((((((((World.holding Tryz.prog os ⟨#[.cells #[.string ⟨#[118, 97, 108, 117, 101, 32, 111, 117, 116, 32, 111, 102, 32, 114, 97, 110, 103, 101]⟩] 193, .cells #[.string ⟨#[105, 110, 118, 97, 108, 105, 100, 32, 115, 121, 110, 116, 97, 120]⟩] 193], #[], []⟩).heap.modify 6 (layCells (layVals 5 Rows.laid_math_bits_deBruijn32tab))).modify 7 (layCells (layVals 5 Rows.laid_math_bits_deBruijn64tab))).modify 3 (layCells (layVals 5 Rows.laid_internal_strconv_uint64pow10))).modify 5 (layCells (layVals 5 Rows.laid_unicode_utf8_acceptRanges))).modify 2 (layCells [.iface 191 (.pointer (some ⟨lowWorld + 0, 0, none⟩))])).modify 1 (layCells [.iface 191 (.pointer (some ⟨lowWorld + 1, 0, none⟩))])).modify 4 (layCells (layVals 5 Rows.laid_unicode_utf8_first))) }
end Go.Proofs.YtdkncdkdbddgoaaGreatDoor

/-
  A stub.
-/


/-
  A stub.
-/


/-
  Plain laws: small computations, and loops whose rounds are known.
-/
namespace Go.Proofs.YtdkncdkdbddgoaaGreatDoor
set_option linter.unusedSimpArgs false
set_option linter.unusedVariables false
open Go.RowKit

/-! ### Small computations that cannot fail -/
theorem andO_some (a b : Bool) : andO a (some b) = some (a && b) := by cases a <;> rfl
theorem orO_some (a b : Bool) : orO a (some b) = some (a || b) := by cases a <;> rfl
theorem getI_nat {α : Type} (l : List α) (i : Nat) : getI l (i : Int) = l[i]? := by simp [getI]
theorem thenO_some {R : Type} {c : Option Unit} {m : Option R} (h : c = some ()) : thenO c m = m := by rw [h]; rfl
theorem lenO_ok {n : Nat} (h : n ≤ 137438953472) : lenO n = some () := by simp [lenO, h]
theorem wrapN (i : Nat) (h : i < 9223372036854775807) : IntKind.i64.wrap ((i : Int) + 1) = ((i + 1 : Nat) : Int) := by rw [wrap64 _ (by omega) (by omega)]; simp


/-! ### Loops whose rounds are known -/
theorem loop_trace {S A : Type} {f : S → Option (S ⊕ A)} {a : A} (st : Nat → S) (n : Nat) (hs : ∀ i, i < n → f (st i) = some (.inl (st (i + 1)))) (he : f (st n) = some (.inr a)) : loopC f (st 0) = some a := by
  have : ∀ k, k ≤ n → loopC f (st (n - k)) = some a := by
    intro k
    induction k with
    | zero => intro _; rw [loopC_eq, Nat.sub_zero, he]
    | succ k ih =>
      intro hk
      rw [loopC_eq, hs (n - (k + 1)) (by omega), show n - (k + 1) + 1 = n - k by omega]
      exact ih (by omega)
  have := this n (Nat.le_refl n)
  rwa [Nat.sub_self] at this
theorem bind_loop {S A R : Type} {f : S → Option (S ⊕ A)} {s0 : S} {k : A → Option R} {a : A} {r : Option R} (h : loopC f s0 = some a) (hk : k a = r) : (loopC f s0).bind k = r := by rw [h]; exact hk
/-- The first that there is. -/
def firstS {A : Type} (g : Nat → Option A) : Nat → Nat → Option A
  | _, 0 => none
  | i, n + 1 => match g i with
    | some a => some a
    | none => firstS g (i + 1) n
theorem firstS_skip {A : Type} {g : Nat → Option A} : ∀ (i n k : Nat), k ≤ n → (∀ j, i ≤ j → j < i + k → g j = none) → firstS g i n = firstS g (i + k) (n - k)
  | i, n, 0, _, _ => by simp
  | i, 0, k + 1, h, _ => by omega
  | i, n + 1, k + 1, h, hz => by
    have h1 := hz i (by omega) (by omega)
    simp only [firstS, h1]
    rw [firstS_skip (i + 1) n k (by omega) (fun j hj hj' => hz j (by omega) (by omega))]
    congr 1 <;> omega
theorem firstS_none {A : Type} {g : Nat → Option A} {n : Nat} (h : ∀ j, j < n → g j = none) : firstS g 0 n = none := by
  rw [firstS_skip 0 n n (by omega) (fun j _ hj => h j (by omega)), Nat.sub_self]; rfl
theorem firstS_some {A : Type} {g : Nat → Option A} {n k : Nat} {a : A} (hk : k < n) (hb : ∀ j, j < k → g j = none) (ha : g k = some a) : firstS g 0 n = some a := by
  rw [firstS_skip 0 n k (by omega) (fun j _ hj => hb j (by omega))]
  obtain ⟨m, hm⟩ : ∃ m, n - k = m + 1 := ⟨n - k - 1, by omega⟩
  rw [hm, Nat.zero_add]
  simp only [firstS, ha]
theorem firstS_cases {A : Type} (g : Nat → Option A) (n : Nat) : (firstS g 0 n = none ∧ ∀ j, j < n → g j = none) ∨ ∃ k a, k < n ∧ (∀ j, j < k → g j = none) ∧ g k = some a ∧ firstS g 0 n = some a := by
  by_cases h : ∃ k, k < n ∧ (g k).isSome = true
  · have : ∃ k, (k < n ∧ (g k).isSome = true) ∧ ∀ j, j < k → ¬ (j < n ∧ (g j).isSome = true) := by
      obtain ⟨k, hk⟩ := h
      induction k using Nat.strongRecOn with
      | _ k ih =>
        by_cases hj : ∃ j, j < k ∧ (j < n ∧ (g j).isSome = true)
        · obtain ⟨j, h1, h2⟩ := hj; exact ih j h1 h2
        · exact ⟨k, hk, fun j h1 h2 => hj ⟨j, h1, h2⟩⟩
    obtain ⟨k, ⟨h1, h2⟩, h3⟩ := this
    obtain ⟨a, ha⟩ := Option.isSome_iff_exists.1 h2
    have hb : ∀ j, j < k → g j = none := fun j hj => by
      have := h3 j hj
      cases hg : g j with
      | none => rfl
      | some b => exact absurd ⟨by omega, by simp [hg]⟩ this
    exact .inr ⟨k, a, h1, hb, ha, firstS_some h1 hb ha⟩
  · have hn : ∀ j, j < n → g j = none := fun j hj => by
      cases hg : g j with
      | none => rfl
      | some b => exact absurd ⟨j, hj, by simp [hg]⟩ h
    exact .inl ⟨firstS_none hn, hn⟩
theorem loop_first {S A : Type} {f : S → Option (S ⊕ A)} {z : A} (st : Nat → S) (n : Nat) (g : Nat → Option A) (hs : ∀ i, i < n → g i = none → f (st i) = some (.inl (st (i + 1)))) (hx : ∀ i a, i < n → g i = some a → f (st i) = some (.inr a)) (he : f (st n) = some (.inr z)) : loopC f (st 0) = some ((firstS g 0 n).getD z) := by
  rcases firstS_cases g n with ⟨h1, h2⟩ | ⟨k, a, h1, h2, h3, h4⟩
  · rw [h1, Option.getD_none]
    exact loop_trace st n (fun i hi => hs i hi (h2 i hi)) he
  · rw [h4, Option.getD_some]
    exact loop_trace st k (fun i hi => hs i (by omega) (h2 i hi)) (hx k a h1 h3)
theorem take_snoc {α : Type} {l : List α} {i : Nat} {e : α} (h : l[i]? = some e) : l.take (i + 1) = l.take i ++ [e] := by rw [List.take_add_one, h]; rfl
theorem get_lt {α : Type} {l : List α} {i : Nat} (h : i < l.length) : ∃ e, l[i]? = some e := ⟨_, List.getElem?_eq_getElem h⟩
theorem lt_dec {i n : Nat} (h : i < n) : decide ((i : Int) < (n : Int)) = true := by simpa using h
theorem lt_dec_self (n : Nat) : decide ((n : Int) < (n : Int)) = false := by simp
end Go.Proofs.YtdkncdkdbddgoaaGreatDoor

/-
  Plain laws of the wire: marks.
-/
namespace Go.Proofs.YtdkncdkdbddgoaaGreatDoor
set_option linter.unusedSimpArgs false
set_option linter.unusedVariables false
open Go.RowKit

/-- A loop over a list that ends at the first element of which h says something. -/
theorem loop_find {α R : Type} (l : List α) (h : α → Option R) {f : Int → Option (Int ⊕ (Int ⊕ R))} (hb : ∀ (i : Nat) (e : α), l[i]? = some e → f (i : Int) = (match h e with | some a => some (.inr (.inr a)) | none => some (.inl ((i + 1 : Nat) : Int))))
    (he : f (l.length : Int) = some (.inr (.inl (l.length : Int)))) : loopC f 0 = some (match l.findSome? h with | some a => .inr a | none => .inl (l.length : Int)) := by
  have : ∀ (t : List α) (i : Nat), l.drop i = t → i ≤ l.length → loopC f (i : Int) = some (match t.findSome? h with | some a => .inr a | none => .inl (l.length : Int)) := by
    intro t
    induction t with
    | nil =>
      intro i hd hi
      have : i = l.length := by have := congrArg List.length hd; simp at this; omega
      subst this
      rw [loopC_eq, he]
      rfl
    | cons e t ih =>
      intro i hd hi
      have h1 : l[i]? = some e := by
        have := congrArg (fun q => q[0]?) hd
        simpa using this
      have h2 : i < l.length := by
        rcases Nat.lt_or_ge i l.length with h | h
        · exact h
        · rw [List.drop_eq_nil_of_le h] at hd; cases hd
      have h3 : l.drop (i + 1) = t := by
        have := congrArg List.tail hd
        simpa using this
      rw [loopC_eq, hb i e h1, List.findSome?_cons]
      cases h e with
      | some a => rfl
      | none => exact ih (i + 1) h3 h2
  exact this l 0 rfl (Nat.zero_le _)
theorem inBytes_eq (l : List UInt8) (lo hi : UInt8) (hl : l.length < 9223372036854775807) : m_kit_InBytes l lo hi = some (match l.findSome? fun x => if (decide ((x.toNat : Int) < (lo.toNat : Int)) || decide ((hi.toNat : Int) < (x.toNat : Int))) = true then some false else none with | some b => b | none => true) := by
  unfold m_kit_InBytes sims_G6_0_0; dsimp only
  refine bind_loop (loop_find l (fun x => if (decide ((x.toNat : Int) < (lo.toNat : Int)) || decide ((hi.toNat : Int) < (x.toNat : Int))) = true then some false else none) (fun i e h => ?_) ?_) ?_
  · obtain ⟨hi', -⟩ := List.getElem?_eq_some_iff.1 h
    simp only [lt_dec hi', cond_true, getI_nat, h, Option.bind_some, orO_some, wrapN i (by omega)]
    cases (decide ((e.toNat : Int) < (lo.toNat : Int)) || decide ((hi.toNat : Int) < (e.toNat : Int))) <;> rfl
  · simp only [lt_dec_self, cond_false]; rfl
  · cases l.findSome? _ <;> rfl
end Go.Proofs.YtdkncdkdbddgoaaGreatDoor

/-
  Plain laws of the wire: a byte that may be a mark.
-/
namespace Go.Proofs.YtdkncdkdbddgoaaGreatDoor
set_option linter.unusedSimpArgs false
set_option linter.unusedVariables false
open Go.RowKit

def tagSet : List UInt8 := [65, 66, 67, 68, 69, 70, 71, 72, 73, 74, 75, 76, 77, 78, 79, 80, 81, 82, 83, 84, 85, 86, 87, 88, 89, 90, 48, 49, 50, 51, 52, 53, 54, 55, 56, 57]
theorem isTagPart_eq (l : List UInt8) (hl : l.length ≤ 9223372036854775807) : m_kit_IsTagPart l = some (decide (Lib.trimS l tagSet = [])) := by
  unfold m_kit_IsTagPart sims_G6_0_0; dsimp only
  have : m_strings_Trim l tagSet = some (Lib.trimS l tagSet) := by unfold m_strings_Trim; rw [if_pos ⟨hl, by decide, by decide⟩]
  simp only [tagSet] at this ⊢
  rw [this]
  rfl
end Go.Proofs.YtdkncdkdbddgoaaGreatDoor

/-
  Plain laws of the wire: texts.
-/
namespace Go.Proofs.YtdkncdkdbddgoaaGreatDoor
set_option linter.unusedSimpArgs false
set_option linter.unusedVariables false
open Go.RowKit

def badT (x : UInt8) : Bool := decide ((x.toNat : Int) < 32) || decide (126 < (x.toNat : Int))
def textF (t : List UInt8) : Int := if 1000 < t.length then 2 else match t.findSome? (fun x => if badT x = true then some (3 : Int) else none) with | some a => a | none => 0
theorem findSome_congr2 {α A B : Type} (p : α → Bool) (a : A) (b : B) : ∀ (l : List α), (l.findSome? (fun x => if p x = true then some a else none) = none ∧ l.findSome? (fun x => if p x = true then some b else none) = none) ∨ (l.findSome? (fun x => if p x = true then some a else none) = some a ∧ l.findSome? (fun x => if p x = true then some b else none) = some b)
  | [] => .inl ⟨rfl, rfl⟩
  | x :: l => by
    rw [List.findSome?_cons, List.findSome?_cons]
    cases h : p x with
    | true => exact .inr ⟨by simp, by simp⟩
    | false => simpa using findSome_congr2 p a b l
theorem r_text (t : List UInt8) : m_interchangeref2_checkText t = some (textF t) := by
  unfold m_interchangeref2_checkText sims_G6_0_0; dsimp only
  unfold textF
  by_cases h : 1000 < t.length
  · have : decide ((1000 : Int) < (t.length : Int)) = true := by simp; omega
    simp only [this, cond_true, h, if_true]
  · have : decide ((1000 : Int) < (t.length : Int)) = false := by simp; omega
    simp only [this, cond_false, h, if_false]
    refine bind_loop (loop_find t (fun x => if badT x = true then some (3 : Int) else none) (fun i e he => ?_) ?_) ?_
    · obtain ⟨hi', -⟩ := List.getElem?_eq_some_iff.1 he
      simp only [lt_dec hi', cond_true, getI_nat, he, Option.bind_some, orO_some, wrapN i (by omega)]
      show (bif badT e then inrO (inrO (some 3)) else some (Sum.inl ((i + 1 : Nat) : Int))) = _
      cases badT e <;> rfl
    · simp only [lt_dec_self, cond_false]; rfl
    · cases t.findSome? _ <;> rfl
theorem w_text (t : List UInt8) : m_wire_textFault t = some (textF t) := by
  unfold m_wire_textFault sims_G6_2_0; dsimp only
  unfold textF
  by_cases h : 1000 < t.length
  · have : decide ((1000 : Int) < (t.length : Int)) = true := by simp; omega
    simp only [this, cond_true, h, if_true]
  · have h1 : decide ((1000 : Int) < (t.length : Int)) = false := by simp; omega
    have h2 : decide ((t.length : Int) ≤ 1000) = true := by simp; omega
    have hT : m_kit_IsText t = some (match t.findSome? fun x => if badT x = true then some false else none with | some b => b | none => true) := by
      unfold m_kit_IsText sims_G6_1_0; dsimp only
      simp only [h2, inBytes_eq t _ _ (by omega), andO_some, Option.bind_some, Bool.true_and]
      rfl
    simp only [h1, cond_false, h, if_false, hT, Option.bind_some]
    rcases findSome_congr2 badT (3 : Int) false t with ⟨e1, e2⟩ | ⟨e1, e2⟩ <;> rw [e1, e2] <;> rfl
end Go.Proofs.YtdkncdkdbddgoaaGreatDoor

/-
  Plain laws: loops over lists with a state and an early end; folds over nested lists.
-/
namespace Go.Proofs.YtdkncdkdbddgoaaGreatDoor
set_option linter.unusedSimpArgs false
set_option linter.unusedVariables false
open Go.RowKit

/-- A loop over a list: the number, the state and the element give the next state or the end. -/
def runI {α S A : Type} (g : Nat → S → α → Option (S ⊕ A)) (fin : S → Option A) : List α → Nat → S → Option A
  | [], _, s => fin s
  | e :: l, i, s => match g i s e with
    | some (.inl s') => runI g fin l (i + 1) s'
    | some (.inr a) => some a
    | none => none
theorem drop_head {α : Type} {l t : List α} {e : α} {i : Nat} (hd : l.drop i = e :: t) : l[i]? = some e ∧ i < l.length ∧ l.drop (i + 1) = t := by
  refine ⟨?_, ?_, ?_⟩
  · have := congrArg (fun q => q[0]?) hd
    simpa using this
  · rcases Nat.lt_or_ge i l.length with h | h
    · exact h
    · rw [List.drop_eq_nil_of_le h] at hd; cases hd
  · have := congrArg List.tail hd
    simpa using this
theorem drop_nil_len {α : Type} {l : List α} {i : Nat} (hd : l.drop i = []) (hi : i ≤ l.length) : i = l.length := by
  have := congrArg List.length hd; simp at this; omega
theorem loop_runI {α S T A : Type} (l : List α) (mk : Nat → S → T) (g : Nat → S → α → Option (S ⊕ A)) (fin : S → Option A) {f : T → Option (T ⊕ A)}
    (hb : ∀ (i : Nat) (e : α) (s : S), l[i]? = some e → f (mk i s) = (match g i s e with | some (.inl s') => some (.inl (mk (i + 1) s')) | some (.inr a) => some (.inr a) | none => none))
    (he : ∀ s, f (mk l.length s) = (fin s).map .inr) (s : S) : loopC f (mk 0 s) = runI g fin l 0 s := by
  have : ∀ (t : List α) (i : Nat) (s : S), l.drop i = t → i ≤ l.length → loopC f (mk i s) = runI g fin t i s := by
    intro t
    induction t with
    | nil =>
      intro i s hd hi
      have := drop_nil_len hd hi
      subst this
      rw [loopC_eq, he]
      simp only [runI]
      cases fin s <;> rfl
    | cons e t ih =>
      intro i s hd hi
      obtain ⟨h1, h2, h3⟩ := drop_head hd
      rw [loopC_eq, hb i e s h1]
      simp only [runI]
      cases g i s e with
      | none => rfl
      | some o =>
        cases o with
        | inr a => rfl
        | inl s' => exact ih (i + 1) s' h3 h2
  exact this l 0 s rfl (Nat.zero_le _)
/-- A loop over a list whose state before each round is known from what is before. -/
theorem loop_pre {α T A : Type} (l : List α) (st : Nat → List α → T) {f : T → Option (T ⊕ A)} {a : A}
    (hb : ∀ (i : Nat) (e : α), l[i]? = some e → f (st i (l.take i)) = some (.inl (st (i + 1) (l.take i ++ [e]))))
    (he : f (st l.length l) = some (.inr a)) : loopC f (st 0 []) = some a := by
  have := loop_trace (f := f) (a := a) (fun i => st i (l.take i)) l.length (fun i hi => by
    obtain ⟨e, h⟩ := get_lt hi
    show f (st i (l.take i)) = some (.inl (st (i + 1) (l.take (i + 1))))
    rw [hb i e h, take_snoc h]) (by
    show f (st l.length (l.take l.length)) = _
    rw [List.take_length]; exact he)
  simpa using this
theorem get_le {α : Type} {l : List α} {i : Nat} {e : α} (h : l[i]? = some e) : i < l.length := (List.getElem?_eq_some_iff.1 h).1
end Go.Proofs.YtdkncdkdbddgoaaGreatDoor
