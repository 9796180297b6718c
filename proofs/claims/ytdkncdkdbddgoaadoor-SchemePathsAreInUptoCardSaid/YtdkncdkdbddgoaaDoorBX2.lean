/-
  Texts of mine, one behind the other (SXG7, SXRow, SXGW, SXG1, SXPL, SXQ1, SXQ2, SXQ3, SXPM, SXQ4, SXGR, SXY1, SXY2, SXY7, SXKS, SXD1, SXSP0, SXSP1, SXSP2, SXGE, SXE1, SXSP3, SXSP6, SXSP4, SXSP7, SXSP9, SXSP5, SXSP8, SXSP10).
-/
import Derived.Test.YtdkncdkdbddgoaaDoorBX1
import Derived.Test.YtdkncdkdbddgoaaDoorSXEngZz
import Derived.Test.YtdkncdkdbddgoaaDoorProg
import Derived.KernelRfl
import Derived.Test.YtdkncdkdbddgoaaDoorSXEngRk
import Derived.Test.YtdkncdkdbddgoaaDoorSXEngRl
import Derived.Test.YtdkncdkdbddgoaaDoorCards
import Derived.Test.YtdkncdkdbddgoaaDoorTie
import Derived.Test.YtdkncdkdbddgoaaDoorSXEngNr
import Derived.Test.YtdkncdkdbddgoaaDoorSXEngR
import Derived.Test.YtdkncdkdbddgoaaDoorSXEngX
import Derived.Lib.Split
import Derived.Lib.SplitLaws
import Derived.Test.YtdkncdkdbddgoaaDoorSXEngN
/-
  Bodies of functions and what they compute, printed by programs of mine (wip/tool/gen.py, sc.py) out of the translation; the kernel holds each against the translation.
-/
namespace Go.Proofs.YtdkncdkdbddgoaaDoor
open Go.RowKit
set_option linter.unusedSimpArgs false
set_option linter.unusedVariables false
structure Tscheme_Way where
  fNames : List (List UInt8)
  fTag : List UInt8
  fElement : Int
  fPart : Int
  deriving DecidableEq
def rTscheme_Way (x : Tscheme_Way) : List DV := [.slice (List.map rowS x.fNames), .str x.fTag, .int .i64 x.fElement, .int .i64 x.fPart]
attribute [push_cast] rTscheme_Way
theorem fT_Tscheme_Way {d0 d1 d2 d3 : DV} {v0 : List (List UInt8)} {v1 : List UInt8} {v2 : Int} {v3 : Int} (h0 : d0 = .slice (List.map rowS v0)) (h1 : d1 = .str v1) (h2 : d2 = .int .i64 v2) (h3 : d3 = .int .i64 v3) : [d0, d1, d2, d3] = rTscheme_Way ⟨v0, v1, v2, v3⟩ := by unfold rTscheme_Way; simp only [h0, h1, h2, h3, List.cons_append, List.nil_append, List.append_assoc, List.append_nil]
theorem cT_Tscheme_Way {d0 d1 d2 d3 : SV} {v0 : List (List UInt8)} {v1 : List UInt8} {v2 : Int} {v3 : Int} (h0 : svle d0 (.d (.slice (List.map rowS v0)))) (h1 : svle d1 (.d (.str v1))) (h2 : svle d2 (.d (.int .i64 v2))) (h3 : svle d3 (.d (.int .i64 v3))) : cellsle [d0, d1, d2, d3] (dR (rTscheme_Way ⟨v0, v1, v2, v3⟩)) := by have h := (cellsle.append (cellsle.consS h0 cellsle.nil) (cellsle.append (cellsle.consS h1 cellsle.nil) (cellsle.append (cellsle.consS h2 cellsle.nil) (cellsle.consS h3 cellsle.nil)))); simpa only [rTscheme_Way, dR, List.map_append, List.map_cons, List.map_nil, List.cons_append, List.nil_append, List.append_assoc, List.append_nil] using h
theorem eT_Tscheme_Way {d0 d1 d2 d3 : SV} {v0 : List (List UInt8)} {v1 : List UInt8} {v2 : Int} {v3 : Int} (h0 : d0 = .d (.slice (List.map rowS v0))) (h1 : d1 = .d (.str v1)) (h2 : d2 = .d (.int .i64 v2)) (h3 : d3 = .d (.int .i64 v3)) : [d0, d1, d2, d3] = dR (rTscheme_Way ⟨v0, v1, v2, v3⟩) := by simp only [rTscheme_Way, dR, List.map_append, List.map_cons, List.map_nil, List.cons_append, List.nil_append, List.append_assoc, List.append_nil, h0, h1, h2, h3]

structure Tapi_Spot where
  fElement : Int
  fRepeat : Int
  fPart : Int
  deriving DecidableEq
def rTapi_Spot (x : Tapi_Spot) : List DV := [.int .i64 x.fElement, .int .i64 x.fRepeat, .int .i64 x.fPart]
attribute [push_cast] rTapi_Spot
theorem fT_Tapi_Spot {d0 d1 d2 : DV} {v0 : Int} {v1 : Int} {v2 : Int} (h0 : d0 = .int .i64 v0) (h1 : d1 = .int .i64 v1) (h2 : d2 = .int .i64 v2) : [d0, d1, d2] = rTapi_Spot ⟨v0, v1, v2⟩ := by unfold rTapi_Spot; simp only [h0, h1, h2, List.cons_append, List.nil_append, List.append_assoc, List.append_nil]
theorem cT_Tapi_Spot {d0 d1 d2 : SV} {v0 : Int} {v1 : Int} {v2 : Int} (h0 : svle d0 (.d (.int .i64 v0))) (h1 : svle d1 (.d (.int .i64 v1))) (h2 : svle d2 (.d (.int .i64 v2))) : cellsle [d0, d1, d2] (dR (rTapi_Spot ⟨v0, v1, v2⟩)) := by have h := (cellsle.append (cellsle.consS h0 cellsle.nil) (cellsle.append (cellsle.consS h1 cellsle.nil) (cellsle.consS h2 cellsle.nil))); simpa only [rTapi_Spot, dR, List.map_append, List.map_cons, List.map_nil, List.cons_append, List.nil_append, List.append_assoc, List.append_nil] using h
theorem eT_Tapi_Spot {d0 d1 d2 : SV} {v0 : Int} {v1 : Int} {v2 : Int} (h0 : d0 = .d (.int .i64 v0)) (h1 : d1 = .d (.int .i64 v1)) (h2 : d2 = .d (.int .i64 v2)) : [d0, d1, d2] = dR (rTapi_Spot ⟨v0, v1, v2⟩) := by simp only [rTapi_Spot, dR, List.map_append, List.map_cons, List.map_nil, List.cons_append, List.nil_append, List.append_assoc, List.append_nil, h0, h1, h2]

def sc_slices_IndexFunc_string_string_L1 : SC :=
  (.seq (.reg [.r 9 (.bin .lss (.t 8) (.t 7))])
  (.seq (.cond (.t 9)
    .skip
    (.exit 0))
  (.seq (.block 1 (.seq (.reg [.r 10 (.mv (.t 8)),
       .r 5 (.mv (.t 10))])
    (.seq (.reg [.r 11 (.mv (.t 1)),
       .r 12 (.mv (.t 0)),
       .r 13 (.mv (.t 5)),
       .r 14 (.idx 1 (.t 12) (.t 13)),
       .o 15 (.ld1 (.t 14)),
       .c 16 (.t 11) [.t 15]])
    (.cond (.t 16)
      (.seq (.reg [.r 17 (.mv (.t 5)),
         .r 4 (.mv (.t 17))])
      .ret)
      .skip))))
  (.reg [.r 18 (.bin .add (.t 8) (.c (.d (.int .i64 1)))),
     .r 8 (.mv (.t 18))]))))
def sc_slices_IndexFunc_string_string_B1 : SC := .block 0 (.loop sc_slices_IndexFunc_string_string_L1)
/-- slices.IndexFunc[[]string,string] -/
def sc_slices_IndexFunc_string_string : SC :=
  (.seq (.reg [.r 4 (.mv (.c (.d (.int .i64 0))))])
  (.seq (.seq (.reg [.r 6 (.mv (.t 0)),
     .r 7 (.len (.t 6)),
     .r 8 (.mv (.c (.d (.int .i64 0))))])
  sc_slices_IndexFunc_string_string_B1)
  (.seq (.reg [.r 4 (.mv (.c (.d (.int .i64 (-1)))))])
  .ret)))
theorem fit_slices_IndexFunc_string_string : fits Tryd.prog 41 Tryd.f41 sc_slices_IndexFunc_string_string [.t 4] 2 = true := by kernel_rfl

set_option maxRecDepth 100000 in
set_option maxHeartbeats 40000000 in
noncomputable def sims_G7_0_0 : (∀ (x0 : List (List UInt8)) (f1 : FuncId) (c1 : List DV) (p1 : (List UInt8) → Option (Bool)) (h1 : ∀ a0 r, p1 a0 = some r → PureSpec Tryd.prog f1 ([.str a0] ++ c1) (.bool r)), {m : Option (Int) // ∀ r, m = some r → PureSpec Tryd.prog 41 [.slice (List.map rowS x0), .fn f1 c1] (.int .i64 r)}) := by
  (intro x0 f1 c1 p1 h1; apply Subtype.mk; intro r hm; apply pure_walk Tryd.func41 fit_slices_IndexFunc_string_string; unfold sc_slices_IndexFunc_string_string)
  repeat' (first | with_reducible refine W_seq ?_ | with_reducible refine W_reg ?_ | with_reducible refine W_block ?_ | with_reducible refine W_skip ?_ | with_reducible refine W_ret ?_ | with_reducible refine W_exit ?_ | with_reducible refine O_nil ?_ | with_reducible refine K_seq ?_ | with_reducible refine K_seqE ?_ | with_reducible refine K_seqR ?_ | with_reducible refine K_block ?_ | with_reducible refine K_blockR ?_ | with_reducible refine K_blockE ?_ | ((with_reducible apply K_blockN); decide) | with_reducible refine O_o2r ?_ | ((with_reducible apply O_idxr hm); (iterate 2 (simp only [push_cast, seval]; rfl)); (intro _; rfl); intro e hm) | ((with_reducible apply O_idxVr hm); (iterate 3 (simp only [push_cast, seval]; rfl)); intro e hm) | ((with_reducible apply O_r); (simp only [push_cast, seval]; rfl); (first | exact trivial | omega)) | ((with_reducible apply O_ldV1r hm); (iterate 2 (simp only [push_cast, seval]; rfl)); (intro _; rfl); intro e hm) | ((with_reducible apply O_strr hm); (iterate 2 (simp only [push_cast, seval]; rfl)); intro hm) | ((with_reducible apply W_condT); (focus (simp only [push_cast, seval]; done))) | ((with_reducible apply W_condF); (focus (simp only [push_cast, seval]; done))) | ((with_reducible apply O_cF hm); (simp only [push_cast, seval]; rfl); (first | apply h1 _); (any_goals ((repeat' (first | rfl | (with_reducible first | apply f_optN | apply f_optS | apply f_some | apply f_tup | apply f_agg | apply f_ptr | apply f_fn | apply dv_slice | apply sv_d | apply f_cons | apply fold_nil | apply fold_cons | apply fold_app | apply f_rowI | apply f_rowY | apply f_rowS | apply f_rowB | apply f_rowL) | (with_reducible apply f_byte; decide))); done)); intro x hm) | ((with_reducible apply O_cvS hm); (iterate 2 (simp only [push_cast, seval]; rfl)); (focus (first | exact h1 _)); intro x hm) | ((with_reducible apply S_condB hm); (simp only [push_cast, seval]; rfl); intro hm; rotate_left; intro hm) | ((with_reducible apply K_endS hm); (focus (simp only [resOf, resL, RV.get, push_cast, seval]; rfl)); (focus ((repeat' (first | rfl | (with_reducible first | apply f_optN | apply f_optS | apply f_some | apply f_tup | apply f_agg | apply f_ptr | apply f_fn | apply dv_slice | apply sv_d | apply f_cons | apply fold_nil | apply fold_cons | apply fold_app | apply f_rowI | apply f_rowY | apply f_rowS | apply f_rowB | apply f_rowL) | (with_reducible apply f_byte; decide))); done))) | ((with_reducible apply K_leave hm); intro r hm) | ((with_reducible apply K_leaveR hm); intro r hm) | ((apply S_loopY (b := 0) (X := sc_slices_IndexFunc_string_string_B1) (x := sc_slices_IndexFunc_string_string_L1) rfl (fun (c : SV × SV × SV) (s : Int) => st [(0, c.1), (1, c.2.1), (7, c.2.2), (8, .d (.int .i64 s))] []) (c := (_, _, _)) (s0 := _) hm); (focus (first | (dsimp only; done) | (dsimp only; rfl) | rfl)); (with_reducible refine Then.mk ?_ ?_)) | ((apply K_next (s' := _) hm); (focus (first | (dsimp only; done) | (dsimp only; rfl) | rfl))) | ((apply K_brk (s' := _) hm); (focus (first | (dsimp only; done) | (dsimp only; rfl) | rfl))) | (((with_reducible apply K_brkN hm); (focus decide); intro r hm)) | (((with_reducible apply K_brkR hm); intro r hm)) | (((with_reducible apply LoopB.of); (focus (first | (dsimp only; done) | (dsimp only; rfl) | rfl)); (focus ((intro _; repeat' (first | with_reducible exact impC_end | with_reducible exact impC_endF | with_reducible refine impC_seq ?_ | with_reducible refine impC_block ?_ | ((with_reducible refine impC_rnd ?_); intro _) | ((with_reducible refine impC_brk ?_); intro _))))); (intro s o hm; first | unfold sc_slices_IndexFunc_string_string_L1); rotate_left; intro s hm)) | (((apply imp_stT; (repeat' (first | with_reducible exact keepT_nil | with_reducible exact keepC_nil | with_reducible apply keepT_cons | with_reducible apply keepC_cons | ((with_reducible apply svle_eq); (focus (first | (simp only [push_cast, seval]; rfl) | rfl)); (focus ((repeat' (first | rfl | (with_reducible first | apply f_optN | apply f_optS | apply f_some | apply f_tup | apply f_agg | apply f_ptr | apply f_fn | apply dv_slice | apply sv_d | apply f_cons | apply fold_nil | apply fold_cons | apply fold_app | apply f_rowI | apply f_rowY | apply f_rowS | apply f_rowB | apply f_rowL) | (with_reducible apply f_byte; decide))); done))) | ((with_reducible apply svle_td); (focus (first | (simp only [push_cast, seval]; rfl) | rfl)); (focus (first | (simp only [push_cast, seval]; rfl) | rfl)); (focus ((repeat' (first | rfl | (with_reducible first | apply f_optN | apply f_optS | apply f_some | apply f_tup | apply f_agg | apply f_ptr | apply f_fn | apply dv_slice | apply sv_d | apply f_cons | apply fold_nil | apply fold_cons | apply fold_app | apply f_rowI | apply f_rowY | apply f_rowS | apply f_rowB | apply f_rowL) | (with_reducible apply f_byte; decide))); done))) | ((with_reducible apply chle_eq); (focus (first | (simp only [push_cast, seval]; rfl) | rfl)); (first | with_reducible exact chle_rfl rfl | with_reducible exact chle_map0 | with_reducible apply chle_vec | with_reducible apply chle_box)) | (with_reducible first | apply r_shS | apply r_shI | apply r_rflO | apply r_oneO | apply r_appO | apply r_nilO | apply c_ownN | apply c_ownL | apply vc_rfl | apply vc_nil | apply vc_cons | apply r_rfl | apply r_rows | apply r_nil | apply r_app | apply r_cons | apply c_rowI | apply c_rowY | apply c_rowS | apply c_rowB | apply c_rowL))); done))))
noncomputable def m_slices_IndexFunc_string_string (x0 : List (List UInt8)) (f1 : FuncId) (c1 : List DV) (p1 : (List UInt8) → Option (Bool)) (h1 : ∀ a0 r, p1 a0 = some r → PureSpec Tryd.prog f1 ([.str a0] ++ c1) (.bool r)) : Option (Int) := (sims_G7_0_0 x0 f1 c1 p1 h1).1
theorem spec_slices_IndexFunc_string_string (x0 : List (List UInt8)) (f1 : FuncId) (c1 : List DV) (p1 : (List UInt8) → Option (Bool)) (h1 : ∀ a0 r, p1 a0 = some r → PureSpec Tryd.prog f1 ([.str a0] ++ c1) (.bool r)) : ∀ r, m_slices_IndexFunc_string_string x0 f1 c1 p1 h1 = some r → PureSpec Tryd.prog 41 [.slice (List.map rowS x0), .fn f1 c1] (.int .i64 r) := (sims_G7_0_0 x0 f1 c1 p1 h1).2

/-- interchange/scheme.namesOf$1 -/
def sc_scheme_namesOf_1 : SC :=
  (.seq (.reg [.r 2 (.mv (.c (.d (.bool false))))])
  (.seq (.reg [.r 3 (.mv (.t 0)),
     .c 4 (.f 29) [.t 3],
     .r 5 (.not (.t 4)),
     .r 2 (.mv (.t 5))])
  .ret))
theorem fit_scheme_namesOf_1 : fits Tryd.prog 28 Tryd.f28 sc_scheme_namesOf_1 [.t 2] 1 = true := by kernel_rfl

set_option maxRecDepth 100000 in
set_option maxHeartbeats 40000000 in
noncomputable def sims_G7_0_1 : (∀ (x0 : List UInt8), {m : Option (Bool) // ∀ r, m = some r → PureSpec Tryd.prog 28 [.str x0] (.bool r)}) := by
  (intro x0; apply Subtype.mk; intro r hm; apply pure_walk Tryd.func28 fit_scheme_namesOf_1; unfold sc_scheme_namesOf_1)
  repeat' (first | with_reducible refine W_seq ?_ | with_reducible refine W_reg ?_ | with_reducible refine W_block ?_ | with_reducible refine W_skip ?_ | with_reducible refine W_ret ?_ | with_reducible refine W_exit ?_ | with_reducible refine O_nil ?_ | with_reducible refine K_seq ?_ | with_reducible refine K_seqE ?_ | with_reducible refine K_seqR ?_ | with_reducible refine K_block ?_ | with_reducible refine K_blockR ?_ | with_reducible refine K_blockE ?_ | ((with_reducible apply K_blockN); decide) | ((with_reducible apply O_r); (simp only [push_cast, seval]; rfl); (first | exact trivial | omega)) | ((with_reducible apply W_condT); (focus (simp only [push_cast, seval]; done))) | ((with_reducible apply W_condF); (focus (simp only [push_cast, seval]; done))) | ((with_reducible apply O_cS hm); (simp only [push_cast, seval]; rfl); (focus (first | exact spec_kit_IsName _)); intro x hm) | ((with_reducible apply S_condB hm); (simp only [push_cast, seval]; rfl); intro hm; rotate_left; intro hm) | ((with_reducible apply K_endS hm); (focus (simp only [resOf, resL, RV.get, push_cast, seval]; rfl)); (focus ((repeat' (first | rfl | (with_reducible first | apply f_optN | apply f_optS | apply f_some | apply f_tup | apply f_agg | apply f_ptr | apply f_fn | apply dv_slice | apply sv_d | apply f_cons | apply fold_nil | apply fold_cons | apply fold_app | apply f_rowI | apply f_rowY | apply f_rowS | apply f_rowB | apply f_rowL) | (with_reducible apply f_byte; decide))); done))))
noncomputable def m_scheme_namesOf_1 (x0 : List UInt8) : Option (Bool) := (sims_G7_0_1 x0).1
theorem spec_scheme_namesOf_1 (x0 : List UInt8) : ∀ r, m_scheme_namesOf_1 x0 = some r → PureSpec Tryd.prog 28 [.str x0] (.bool r) := (sims_G7_0_1 x0).2

def sc_scheme_kidsOf_L1 : SC :=
  (.seq (.reg [.r 30 (.bin .lss (.t 29) (.t 28))])
  (.seq (.cond (.t 30)
    .skip
    (.exit 4))
  (.seq (.block 5 (.seq (.reg [.r 31 (.idx 4 (.t 27) (.t 29)),
       .o 32 (.ldA 4 (.t 31)),
       .w 12 (.boxM (.c (.agg [.d (.str []), .d (.str []), .nils, .nils]))),
       .w 0 (.st 4 (.t 12) (.t 32))])
    (.seq (.reg [.r 33 (.fld 0 (.t 12)),
       .o 34 (.ld1 (.t 33)),
       .r 35 (.mv (.t 7)),
       .r 36 (.bin .eql (.t 34) (.t 35))])
    (.cond (.t 36)
      (.reg [.r 37 (.mv (.t 8)),
         .r 38 (.fld 3 (.t 12)),
         .o 39 (.ld1 (.t 38)),
         .r 40 (.bslice 1 [.t 39]),
         .w 41 (.app 22 1 (.t 37) (.t 40)),
         .r 8 (.mv (.t 41))])
      .skip))))
  (.reg [.r 42 (.bin .add (.t 29) (.c (.d (.int .i64 1)))),
     .r 29 (.mv (.t 42))]))))
def sc_scheme_kidsOf_B1 : SC := .block 4 (.loop sc_scheme_kidsOf_L1)
def sc_scheme_kidsOf_L2 : SC :=
  (.seq (.reg [.r 24 (.bin .lss (.t 23) (.t 22))])
  (.seq (.cond (.t 24)
    .skip
    (.exit 2))
  (.seq (.block 3 (.seq (.reg [.r 25 (.idx 1 (.t 21) (.t 23)),
       .o 26 (.ld1 (.t 25)),
       .r 10 (.mv (.t 26))])
    (.seq (.reg [.r 27 (.mv (.t 10)),
       .r 28 (.len (.t 27)),
       .r 29 (.mv (.c (.d (.int .i64 0))))])
    sc_scheme_kidsOf_B1)))
  (.reg [.r 43 (.bin .add (.t 23) (.c (.d (.int .i64 1)))),
     .r 23 (.mv (.t 43))]))))
def sc_scheme_kidsOf_B2 : SC := .block 2 (.loop sc_scheme_kidsOf_L2)
def sc_scheme_kidsOf_R16 : SC := (.reg [.r 44 (.mv (.t 8)),
       .r 5 (.mv (.t 44))])
def sc_scheme_kidsOf_L3 : SC :=
  (.seq (.reg [.r 18 (.bin .lss (.t 17) (.t 16))])
  (.seq (.cond (.t 18)
    .skip
    (.exit 0))
  (.seq (.block 1 (.seq (.reg [.r 19 (.idx 1 (.t 15) (.t 17)),
       .o 20 (.ld1 (.t 19)),
       .r 7 (.mv (.t 20))])
    (.seq (.reg [.r 8 (.mv (.c (.nils)))])
    (.seq (.seq (.reg [.r 21 (.mv (.t 5)),
       .r 22 (.len (.t 21)),
       .r 23 (.mv (.c (.d (.int .i64 0))))])
    sc_scheme_kidsOf_B2)
    sc_scheme_kidsOf_R16))))
  (.reg [.r 45 (.bin .add (.t 17) (.c (.d (.int .i64 1)))),
     .r 17 (.mv (.t 45))]))))
def sc_scheme_kidsOf_B3 : SC := .block 0 (.loop sc_scheme_kidsOf_L3)
/-- interchange/scheme.kidsOf -/
def sc_scheme_kidsOf : SC :=
  (.seq (.reg [.r 4 (.mv (.c (.nils)))])
  (.seq (.reg [.r 13 (.mv (.t 0)),
     .r 14 (.bslice 1 [.t 13]),
     .r 5 (.mv (.t 14))])
  (.seq (.seq (.reg [.r 15 (.mv (.t 1)),
     .r 16 (.len (.t 15)),
     .r 17 (.mv (.c (.d (.int .i64 0))))])
  sc_scheme_kidsOf_B3)
  (.seq (.reg [.r 46 (.mv (.t 5)),
     .r 4 (.mv (.t 46))])
  .ret))))
theorem fit_scheme_kidsOf : fits Tryd.prog 17 Tryd.f17 sc_scheme_kidsOf [.t 4] 2 = true := by kernel_rfl

set_option maxRecDepth 100000 in
set_option maxHeartbeats 40000000 in
noncomputable def sims_G7_0_2 : (∀ (x0 : List Tapi_Branch) (x1 : List (List UInt8)), {m : Option ((List (List Tapi_Branch))) // ∀ r, m = some r → PureSpec Tryd.prog 17 [.slice (List.map rTapi_Branch x0), .slice (List.map rowS x1)] (.slice (List.map (rowL rTapi_Branch) r))}) := by
  (intro x0 x1; apply Subtype.mk; intro r hm; apply pure_walk Tryd.func17 fit_scheme_kidsOf; unfold sc_scheme_kidsOf)
  repeat' (first | ((with_reducible apply W_frzS (x := sc_scheme_kidsOf_R16) 8); (focus (simp only [push_cast, seval]; (try rfl); done)); (focus (simp only [push_cast, seval]; (try rfl); done)); (focus (simp only [push_cast, seval]; (try rfl); done)); unfold sc_scheme_kidsOf_R16) | ((with_reducible apply W_same sc_scheme_kidsOf_R16); unfold sc_scheme_kidsOf_R16) | with_reducible refine W_seq ?_ | with_reducible refine W_reg ?_ | with_reducible refine W_block ?_ | with_reducible refine W_skip ?_ | with_reducible refine W_ret ?_ | with_reducible refine W_exit ?_ | with_reducible refine O_nil ?_ | with_reducible refine K_seq ?_ | with_reducible refine K_seqE ?_ | with_reducible refine K_seqR ?_ | with_reducible refine K_block ?_ | with_reducible refine K_blockR ?_ | with_reducible refine K_blockE ?_ | ((with_reducible apply K_blockN); decide) | with_reducible refine O_o2r ?_ | ((with_reducible apply O_idxr hm); (iterate 2 (simp only [push_cast, seval]; rfl)); (intro _; rfl); intro e hm) | ((with_reducible apply O_idxVr hm); (iterate 3 (simp only [push_cast, seval]; rfl)); intro e hm) | ((with_reducible apply O_idxLr hm (row := (rowL rTapi_Branch))); (iterate 2 (simp only [push_cast, seval]; rfl)); (focus ((repeat' (first | rfl | (with_reducible first | apply fT_Tapi_Branch | apply fT_Tapi_Element | apply fT_Tapi_Segment | apply f_optN | apply f_optS | apply f_some | apply f_tup | apply f_agg | apply f_ptr | apply f_fn | apply dv_slice | apply sv_d | apply f_cons | apply fold_nil | apply fold_cons | apply fold_app | apply f_rowI | apply f_rowY | apply f_rowS | apply f_rowB | apply f_rowL) | (with_reducible apply f_byte; decide))); done)); (simp only [push_cast, seval]; rfl); (intro _; rfl); intro e hm) | ((with_reducible apply O_r); (simp only [push_cast, seval]; rfl); (first | exact trivial | omega)) | ((with_reducible apply O_ldV1r hm); (iterate 2 (simp only [push_cast, seval]; rfl)); (intro _; rfl); intro e hm) | ((with_reducible apply O_ldAVr hm); (iterate 2 (simp only [push_cast, seval]; rfl)); (intro _; rfl); intro e hm) | ((with_reducible apply O_strr hm); (iterate 2 (simp only [push_cast, seval]; rfl)); intro hm) | ((with_reducible apply W_condT); (focus (simp only [push_cast, seval]; done))) | ((with_reducible apply W_condF); (focus (simp only [push_cast, seval]; done))) | ((with_reducible apply O_w); (simp only [push_cast, seval]; rfl); (first | exact trivial | omega)) | ((with_reducible apply O_appL hm (row := (rowL rTapi_Branch))); (iterate 5 (simp only [push_cast, seval]; rfl)); (focus ((repeat' (first | rfl | (with_reducible first | apply fT_Tapi_Branch | apply fT_Tapi_Element | apply fT_Tapi_Segment | apply f_optN | apply f_optS | apply f_some | apply f_tup | apply f_agg | apply f_ptr | apply f_fn | apply dv_slice | apply sv_d | apply f_cons | apply fold_nil | apply fold_cons | apply fold_app | apply f_rowI | apply f_rowY | apply f_rowS | apply f_rowB | apply f_rowL) | (with_reducible apply f_byte; decide))); done)); (focus ((repeat' (first | rfl | (with_reducible first | apply fT_Tapi_Branch | apply fT_Tapi_Element | apply fT_Tapi_Segment | apply f_optN | apply f_optS | apply f_some | apply f_tup | apply f_agg | apply f_ptr | apply f_fn | apply dv_slice | apply sv_d | apply f_cons | apply fold_nil | apply fold_cons | apply fold_app | apply f_rowI | apply f_rowY | apply f_rowS | apply f_rowB | apply f_rowL) | (with_reducible apply f_byte; decide))); done)); rfl; decide; (intro _; rfl); intro hm) | ((with_reducible apply O_appV hm); (iterate 4 (simp only [push_cast, seval]; rfl)); (focus ((repeat' (first | rfl | (with_reducible first | apply fT_Tapi_Branch | apply fT_Tapi_Element | apply fT_Tapi_Segment | apply f_optN | apply f_optS | apply f_some | apply f_tup | apply f_agg | apply f_ptr | apply f_fn | apply dv_slice | apply sv_d | apply f_cons | apply fold_nil | apply fold_cons | apply fold_app | apply f_rowI | apply f_rowY | apply f_rowS | apply f_rowB | apply f_rowL) | (with_reducible apply f_byte; decide))); done)); decide; (intro _; rfl); intro hm) | ((with_reducible apply O_appN hm); (focus (simp only [push_cast, seval]; done)); (iterate 2 (simp only [push_cast, seval]; rfl)); (focus ((repeat' (first | rfl | (with_reducible first | apply fT_Tapi_Branch | apply fT_Tapi_Element | apply fT_Tapi_Segment | apply f_optN | apply f_optS | apply f_some | apply f_tup | apply f_agg | apply f_ptr | apply f_fn | apply dv_slice | apply sv_d | apply f_cons | apply fold_nil | apply fold_cons | apply fold_app | apply f_rowI | apply f_rowY | apply f_rowS | apply f_rowB | apply f_rowL) | (with_reducible apply f_byte; decide))); done)); decide; (intro _; rfl); intro hm) | ((with_reducible apply O_stVA hm); (iterate 4 (simp only [push_cast, seval]; rfl)); (focus ((repeat' (first | rfl | (with_reducible first | apply fT_Tapi_Branch | apply fT_Tapi_Element | apply fT_Tapi_Segment | apply f_optN | apply f_optS | apply f_some | apply f_tup | apply f_agg | apply f_ptr | apply f_fn | apply dv_slice | apply sv_d | apply f_cons | apply fold_nil | apply fold_cons | apply fold_app | apply f_rowI | apply f_rowY | apply f_rowS | apply f_rowB | apply f_rowL) | (with_reducible apply f_byte; decide))); done)); decide; (intro _; rfl); intro e hm) | ((with_reducible apply O_stV hm); (iterate 3 (simp only [push_cast, seval]; rfl)); rfl; (intro _; rfl); rfl; (focus (intro a; simp only [push_cast, seval]; rfl)); (focus (intro a; (repeat' (first | rfl | with_reducible apply eT_Tapi_Branch | with_reducible apply eT_Tapi_Element | with_reducible apply eT_Tapi_Segment)); done)); intro e hm) | ((with_reducible apply S_condB hm); (simp only [push_cast, seval]; rfl); intro hm; rotate_left; intro hm) | ((with_reducible apply K_endS hm); (focus (simp only [resOf, resL, RV.get, push_cast, seval]; rfl)); (focus ((repeat' (first | rfl | (with_reducible first | apply fT_Tapi_Branch | apply fT_Tapi_Element | apply fT_Tapi_Segment | apply f_optN | apply f_optS | apply f_some | apply f_tup | apply f_agg | apply f_ptr | apply f_fn | apply dv_slice | apply sv_d | apply f_cons | apply fold_nil | apply fold_cons | apply fold_app | apply f_rowI | apply f_rowY | apply f_rowS | apply f_rowB | apply f_rowL) | (with_reducible apply f_byte; decide))); done))) | ((with_reducible apply K_leave hm); intro r hm) | ((with_reducible apply K_leaveR hm); intro r hm) | ((apply S_loopY (b := 4) (X := sc_scheme_kidsOf_B1) (x := sc_scheme_kidsOf_L1) rfl (fun (c : SV × SV × SV × SV × SV × SV × SV × SV × SV) (s : (List (List Tapi_Branch)) × Int) => st [(7, c.1), (8, .vec 8), (15, c.2.1), (16, c.2.2.1), (17, c.2.2.2.1), (21, c.2.2.2.2.1), (22, c.2.2.2.2.2.1), (23, c.2.2.2.2.2.2.1), (27, c.2.2.2.2.2.2.2.1), (28, c.2.2.2.2.2.2.2.2), (29, .d (.int .i64 s.2))] [(8, .vec 22 1 (vrow (rowL rTapi_Branch) s.1))]) (c := (_, _, _, _, _, _, _, _, _)) (s0 := (_, _)) hm); (focus (first | (dsimp only; done) | (dsimp only; rfl) | rfl)); (with_reducible refine Then.mk ?_ ?_)) | ((apply S_loopY (b := 2) (X := sc_scheme_kidsOf_B2) (x := sc_scheme_kidsOf_L2) rfl (fun (c : SV × SV × SV × SV × SV × SV) (s : (List (List Tapi_Branch)) × Int) => st [(7, c.1), (8, .vec 8), (15, c.2.1), (16, c.2.2.1), (17, c.2.2.2.1), (21, c.2.2.2.2.1), (22, c.2.2.2.2.2), (23, .d (.int .i64 s.2))] [(8, .vec 22 1 (vrow (rowL rTapi_Branch) s.1))]) (c := (_, _, _, _, _, _)) (s0 := (_, _)) hm); (focus (first | (dsimp only; done) | (dsimp only; rfl) | rfl)); (with_reducible refine Then.mk ?_ ?_); apply Imp.trans; (focus (apply imp_vecnil (slot := 8) (id := 8) (e := 22) (sz := 1); (focus (simp only [push_cast, seval]; done))))) | ((apply S_loopY (b := 0) (X := sc_scheme_kidsOf_B3) (x := sc_scheme_kidsOf_L3) rfl (fun (c : SV × SV) (s : (List (List Tapi_Branch)) × Int) => st [(5, .d (.slice (List.map (rowL rTapi_Branch) s.1))), (15, c.1), (16, c.2), (17, .d (.int .i64 s.2))] []) (c := (_, _)) (s0 := (_, _)) hm); (focus (first | (dsimp only; done) | (dsimp only; rfl) | rfl)); (with_reducible refine Then.mk ?_ ?_)) | ((apply K_next (s' := (_, _)) hm); (focus (first | (dsimp only; done) | (dsimp only; rfl) | rfl))) | ((apply K_brk (s' := (_, _)) hm); (focus (first | (dsimp only; done) | (dsimp only; rfl) | rfl))) | (((with_reducible apply K_brkN hm); (focus decide); intro r hm)) | (((with_reducible apply K_brkR hm); intro r hm)) | (((with_reducible apply LoopB.of); (focus (first | (dsimp only; done) | (dsimp only; rfl) | rfl)); (focus ((intro _; repeat' (first | with_reducible exact impC_end | with_reducible exact impC_endF | with_reducible refine impC_seq ?_ | with_reducible refine impC_block ?_ | ((with_reducible refine impC_rnd ?_); intro _) | ((with_reducible refine impC_brk ?_); intro _))))); (intro s o hm; first | unfold sc_scheme_kidsOf_L1 | unfold sc_scheme_kidsOf_L2 | unfold sc_scheme_kidsOf_L3); rotate_left; intro s hm)) | (((apply imp_stT; (repeat' (first | with_reducible exact keepT_nil | with_reducible exact keepC_nil | with_reducible apply keepT_cons | with_reducible apply keepC_cons | ((with_reducible apply svle_eq); (focus (first | (simp only [push_cast, seval]; rfl) | rfl)); (focus ((repeat' (first | rfl | (with_reducible first | apply fT_Tapi_Branch | apply fT_Tapi_Element | apply fT_Tapi_Segment | apply f_optN | apply f_optS | apply f_some | apply f_tup | apply f_agg | apply f_ptr | apply f_fn | apply dv_slice | apply sv_d | apply f_cons | apply fold_nil | apply fold_cons | apply fold_app | apply f_rowI | apply f_rowY | apply f_rowS | apply f_rowB | apply f_rowL) | (with_reducible apply f_byte; decide))); done))) | ((with_reducible apply svle_td); (focus (first | (simp only [push_cast, seval]; rfl) | rfl)); (focus (first | (simp only [push_cast, seval]; rfl) | rfl)); (focus ((repeat' (first | rfl | (with_reducible first | apply fT_Tapi_Branch | apply fT_Tapi_Element | apply fT_Tapi_Segment | apply f_optN | apply f_optS | apply f_some | apply f_tup | apply f_agg | apply f_ptr | apply f_fn | apply dv_slice | apply sv_d | apply f_cons | apply fold_nil | apply fold_cons | apply fold_app | apply f_rowI | apply f_rowY | apply f_rowS | apply f_rowB | apply f_rowL) | (with_reducible apply f_byte; decide))); done))) | ((with_reducible apply chle_eq); (focus (first | (simp only [push_cast, seval]; rfl) | rfl)); (first | with_reducible exact chle_rfl rfl | with_reducible exact chle_map0 | with_reducible apply chle_vec | with_reducible apply chle_box)) | (with_reducible first | apply cT_Tapi_Branch | apply cT_Tapi_Element | apply cT_Tapi_Segment | apply r_shS | apply r_shI | apply r_rflO | apply r_oneO | apply r_appO | apply r_nilO | apply c_ownN | apply c_ownL | apply vc_rfl | apply vc_nil | apply vc_cons | apply r_rfl | apply r_rows | apply r_nil | apply r_app | apply r_cons | apply c_rowI | apply c_rowY | apply c_rowS | apply c_rowB | apply c_rowL))); done))))
noncomputable def m_scheme_kidsOf (x0 : List Tapi_Branch) (x1 : List (List UInt8)) : Option ((List (List Tapi_Branch))) := (sims_G7_0_2 x0 x1).1
theorem spec_scheme_kidsOf (x0 : List Tapi_Branch) (x1 : List (List UInt8)) : ∀ r, m_scheme_kidsOf x0 x1 = some r → PureSpec Tryd.prog 17 [.slice (List.map rTapi_Branch x0), .slice (List.map rowS x1)] (.slice (List.map (rowL rTapi_Branch) r)) := (sims_G7_0_2 x0 x1).2

def sc_internal_bytealg_LastIndexByteString_L1 : SC :=
  (.seq (.seq (.reg [.r 9 (.mv (.t 5)),
     .r 10 (.bin .geq (.t 9) (.c (.d (.int .i64 0))))])
  (.cond (.t 10)
    .skip
    (.exit 0)))
  (.seq (.block 1 (.seq (.reg [.r 13 (.mv (.t 0)),
       .r 14 (.mv (.t 5)),
       .r 15 (.sidx (.t 13) (.t 14)),
       .r 16 (.mv (.t 1)),
       .r 17 (.bin .eql (.t 15) (.t 16))])
    (.cond (.t 17)
      (.seq (.reg [.r 18 (.mv (.t 5)),
         .r 4 (.mv (.t 18))])
      .ret)
      .skip)))
  (.reg [.r 11 (.mv (.t 5)),
     .r 12 (.bin .sub (.t 11) (.c (.d (.int .i64 1)))),
     .r 5 (.mv (.t 12))])))
def sc_internal_bytealg_LastIndexByteString_B1 : SC := .block 0 (.loop sc_internal_bytealg_LastIndexByteString_L1)
/-- internal/bytealg.LastIndexByteString -/
def sc_internal_bytealg_LastIndexByteString : SC :=
  (.seq (.reg [.r 4 (.mv (.c (.d (.int .i64 0))))])
  (.seq (.seq (.reg [.r 6 (.mv (.t 0)),
     .r 7 (.lenT (.t 6)),
     .r 8 (.bin .sub (.t 7) (.c (.d (.int .i64 1)))),
     .r 5 (.mv (.t 8))])
  sc_internal_bytealg_LastIndexByteString_B1)
  (.seq (.reg [.r 4 (.mv (.c (.d (.int .i64 (-1)))))])
  .ret)))
theorem fit_internal_bytealg_LastIndexByteString : fits Tryd.prog 33 Tryd.f33 sc_internal_bytealg_LastIndexByteString [.t 4] 2 = true := by kernel_rfl

set_option maxRecDepth 100000 in
set_option maxHeartbeats 40000000 in
noncomputable def sims_G7_0_3 : (∀ (x0 : List UInt8) (x1 : UInt8), {m : Option (Int) // ∀ r, m = some r → PureSpec Tryd.prog 33 [.str x0, .int .u8 (x1).toNat] (.int .i64 r)}) := by
  (intro x0 x1; apply Subtype.mk; intro r hm; apply pure_walk Tryd.func33 fit_internal_bytealg_LastIndexByteString; unfold sc_internal_bytealg_LastIndexByteString)
  repeat' (first | with_reducible refine W_seq ?_ | with_reducible refine W_reg ?_ | with_reducible refine W_block ?_ | with_reducible refine W_skip ?_ | with_reducible refine W_ret ?_ | with_reducible refine W_exit ?_ | with_reducible refine O_nil ?_ | with_reducible refine K_seq ?_ | with_reducible refine K_seqE ?_ | with_reducible refine K_seqR ?_ | with_reducible refine K_block ?_ | with_reducible refine K_blockR ?_ | with_reducible refine K_blockE ?_ | ((with_reducible apply K_blockN); decide) | ((with_reducible apply O_sidxr hm); (iterate 2 (simp only [push_cast, seval]; rfl)); intro e hm) | ((with_reducible apply O_r); (simp only [push_cast, seval]; rfl); (first | exact trivial | omega)) | ((with_reducible apply W_condT); (focus (simp only [push_cast, seval]; done))) | ((with_reducible apply W_condF); (focus (simp only [push_cast, seval]; done))) | ((with_reducible apply S_condB hm); (simp only [push_cast, seval]; rfl); intro hm; rotate_left; intro hm) | ((with_reducible apply K_endS hm); (focus (simp only [resOf, resL, RV.get, push_cast, seval]; rfl)); (focus ((repeat' (first | rfl | (with_reducible first | apply f_optN | apply f_optS | apply f_some | apply f_tup | apply f_agg | apply f_ptr | apply f_fn | apply dv_slice | apply sv_d | apply f_cons | apply fold_nil | apply fold_cons | apply fold_app | apply f_rowI | apply f_rowY | apply f_rowS | apply f_rowB | apply f_rowL) | (with_reducible apply f_byte; decide))); done))) | ((with_reducible apply K_leave hm); intro r hm) | ((with_reducible apply K_leaveR hm); intro r hm) | ((apply S_loopY (b := 0) (X := sc_internal_bytealg_LastIndexByteString_B1) (x := sc_internal_bytealg_LastIndexByteString_L1) rfl (fun (c : SV × SV) (s : Int) => st [(0, c.1), (1, c.2), (5, .d (.int .i64 s))] []) (c := (_, _)) (s0 := _) hm); (focus (first | (dsimp only; done) | (dsimp only; rfl) | rfl)); (with_reducible refine Then.mk ?_ ?_)) | ((apply K_next (s' := _) hm); (focus (first | (dsimp only; done) | (dsimp only; rfl) | rfl))) | ((apply K_brk (s' := _) hm); (focus (first | (dsimp only; done) | (dsimp only; rfl) | rfl))) | (((with_reducible apply K_brkN hm); (focus decide); intro r hm)) | (((with_reducible apply K_brkR hm); intro r hm)) | (((with_reducible apply LoopB.of); (focus (first | (dsimp only; done) | (dsimp only; rfl) | rfl)); (focus ((intro _; repeat' (first | with_reducible exact impC_end | with_reducible exact impC_endF | with_reducible refine impC_seq ?_ | with_reducible refine impC_block ?_ | ((with_reducible refine impC_rnd ?_); intro _) | ((with_reducible refine impC_brk ?_); intro _))))); (intro s o hm; first | unfold sc_internal_bytealg_LastIndexByteString_L1); rotate_left; intro s hm)) | (((apply imp_stT; (repeat' (first | with_reducible exact keepT_nil | with_reducible exact keepC_nil | with_reducible apply keepT_cons | with_reducible apply keepC_cons | ((with_reducible apply svle_eq); (focus (first | (simp only [push_cast, seval]; rfl) | rfl)); (focus ((repeat' (first | rfl | (with_reducible first | apply f_optN | apply f_optS | apply f_some | apply f_tup | apply f_agg | apply f_ptr | apply f_fn | apply dv_slice | apply sv_d | apply f_cons | apply fold_nil | apply fold_cons | apply fold_app | apply f_rowI | apply f_rowY | apply f_rowS | apply f_rowB | apply f_rowL) | (with_reducible apply f_byte; decide))); done))) | ((with_reducible apply svle_td); (focus (first | (simp only [push_cast, seval]; rfl) | rfl)); (focus (first | (simp only [push_cast, seval]; rfl) | rfl)); (focus ((repeat' (first | rfl | (with_reducible first | apply f_optN | apply f_optS | apply f_some | apply f_tup | apply f_agg | apply f_ptr | apply f_fn | apply dv_slice | apply sv_d | apply f_cons | apply fold_nil | apply fold_cons | apply fold_app | apply f_rowI | apply f_rowY | apply f_rowS | apply f_rowB | apply f_rowL) | (with_reducible apply f_byte; decide))); done))) | ((with_reducible apply chle_eq); (focus (first | (simp only [push_cast, seval]; rfl) | rfl)); (first | with_reducible exact chle_rfl rfl | with_reducible exact chle_map0 | with_reducible apply chle_vec | with_reducible apply chle_box)) | (with_reducible first | apply r_shS | apply r_shI | apply r_rflO | apply r_oneO | apply r_appO | apply r_nilO | apply c_ownN | apply c_ownL | apply vc_rfl | apply vc_nil | apply vc_cons | apply r_rfl | apply r_rows | apply r_nil | apply r_app | apply r_cons | apply c_rowI | apply c_rowY | apply c_rowS | apply c_rowB | apply c_rowL))); done))))
noncomputable def m_internal_bytealg_LastIndexByteString (x0 : List UInt8) (x1 : UInt8) : Option (Int) := (sims_G7_0_3 x0 x1).1
theorem spec_internal_bytealg_LastIndexByteString (x0 : List UInt8) (x1 : UInt8) : ∀ r, m_internal_bytealg_LastIndexByteString x0 x1 = some r → PureSpec Tryd.prog 33 [.str x0, .int .u8 (x1).toNat] (.int .i64 r) := (sims_G7_0_3 x0 x1).2

/-- interchange/kit.IsDigits -/
def sc_kit_IsDigits : SC :=
  (.seq (.reg [.r 2 (.mv (.c (.d (.bool false))))])
  (.seq (.reg (.r 3 (.mv (.t 0)) :: .r 4 (.bin .neq (.t 3) (.c (.d (.str [])))) :: .r 5 (.mv (.t 4)) :: gapp [6, 7] 5 true (.r 6 (.mv (.t 0)) :: .c 7 (.f 47) [.t 6, .c (.d (.int .u8 48)), .c (.d (.int .u8 57))] :: []) (.r 8 (.pick (.t 5) (.t 7) (.c (.d (.bool false)))) :: .r 2 (.mv (.t 8)) :: [])))
  .ret))
theorem fit_kit_IsDigits : fits Tryd.prog 37 Tryd.f37 sc_kit_IsDigits [.t 2] 1 = true := by kernel_rfl

set_option maxRecDepth 100000 in
set_option maxHeartbeats 40000000 in
noncomputable def sims_G7_0_4 : (∀ (x0 : List UInt8), {m : Option (Bool) // ∀ r, m = some r → PureSpec Tryd.prog 37 [.str x0] (.bool r)}) := by
  (intro x0; apply Subtype.mk; intro r hm; apply pure_walk Tryd.func37 fit_kit_IsDigits; unfold sc_kit_IsDigits)
  repeat' (first | with_reducible refine W_seq ?_ | with_reducible refine W_reg ?_ | with_reducible refine W_block ?_ | with_reducible refine W_skip ?_ | with_reducible refine W_ret ?_ | with_reducible refine W_exit ?_ | with_reducible refine O_nil ?_ | with_reducible refine K_seq ?_ | with_reducible refine K_seqE ?_ | with_reducible refine K_seqR ?_ | with_reducible refine K_block ?_ | with_reducible refine K_blockR ?_ | with_reducible refine K_blockE ?_ | ((with_reducible apply K_blockN); decide) | ((with_reducible apply O_r); (simp only [push_cast, seval]; rfl); (first | exact trivial | omega)) | ((with_reducible apply O_and hm); (simp only [push_cast, seval]; rfl); rfl; intro v hm; rotate_left; intro v g hm) | ((with_reducible apply W_condT); (focus (simp only [push_cast, seval]; done))) | ((with_reducible apply W_condF); (focus (simp only [push_cast, seval]; done))) | ((with_reducible apply O_cF hm); (simp only [push_cast, seval]; rfl); (first | apply spec_kit_InBytes _ _ _); (any_goals ((repeat' (first | rfl | (with_reducible first | apply f_optN | apply f_optS | apply f_some | apply f_tup | apply f_agg | apply f_ptr | apply f_fn | apply dv_slice | apply sv_d | apply f_cons | apply fold_nil | apply fold_cons | apply fold_app | apply f_rowI | apply f_rowY | apply f_rowS | apply f_rowB | apply f_rowL) | (with_reducible apply f_byte; decide))); done)); intro x hm) | ((with_reducible apply S_condB hm); (simp only [push_cast, seval]; rfl); intro hm; rotate_left; intro hm) | ((with_reducible apply K_endS hm); (focus (simp only [resOf, resL, RV.get, push_cast, seval]; rfl)); (focus ((repeat' (first | rfl | (with_reducible first | apply f_optN | apply f_optS | apply f_some | apply f_tup | apply f_agg | apply f_ptr | apply f_fn | apply dv_slice | apply sv_d | apply f_cons | apply fold_nil | apply fold_cons | apply fold_app | apply f_rowI | apply f_rowY | apply f_rowS | apply f_rowB | apply f_rowL) | (with_reducible apply f_byte; decide))); done))) | ((with_reducible apply K_bool hm); (simp only [push_cast, seval]; rfl)))
noncomputable def m_kit_IsDigits (x0 : List UInt8) : Option (Bool) := (sims_G7_0_4 x0).1
theorem spec_kit_IsDigits (x0 : List UInt8) : ∀ r, m_kit_IsDigits x0 = some r → PureSpec Tryd.prog 37 [.str x0] (.bool r) := (sims_G7_0_4 x0).2

/-- interchange/kit.Outside -/
def sc_kit_Outside : SC :=
  (.seq (.reg [.r 6 (.mv (.c (.d (.bool false))))])
  (.seq (.reg (.r 7 (.mv (.t 0)) :: .r 8 (.mv (.t 1)) :: .r 9 (.bin .lss (.t 7) (.t 8)) :: .r 10 (.mv (.t 9)) :: gapp [11, 12, 13] 10 false (.r 11 (.mv (.t 0)) :: .r 12 (.mv (.t 2)) :: .r 13 (.bin .gtr (.t 11) (.t 12)) :: []) (.r 14 (.pick (.t 10) (.c (.d (.bool true))) (.t 13)) :: .r 6 (.mv (.t 14)) :: [])))
  .ret))
theorem fit_kit_Outside : fits Tryd.prog 24 Tryd.f24 sc_kit_Outside [.t 6] 3 = true := by kernel_rfl

set_option maxRecDepth 100000 in
set_option maxHeartbeats 40000000 in
noncomputable def sims_G7_0_5 : (∀ (x0 : Int) (x1 : Int) (x2 : Int), {m : Option (Bool) // ∀ r, m = some r → PureSpec Tryd.prog 24 [.int .i64 x0, .int .i64 x1, .int .i64 x2] (.bool r)}) := by
  (intro x0 x1 x2; apply Subtype.mk; intro r hm; apply pure_walk Tryd.func24 fit_kit_Outside; unfold sc_kit_Outside)
  repeat' (first | with_reducible refine W_seq ?_ | with_reducible refine W_reg ?_ | with_reducible refine W_block ?_ | with_reducible refine W_skip ?_ | with_reducible refine W_ret ?_ | with_reducible refine W_exit ?_ | with_reducible refine O_nil ?_ | with_reducible refine K_seq ?_ | with_reducible refine K_seqE ?_ | with_reducible refine K_seqR ?_ | with_reducible refine K_block ?_ | with_reducible refine K_blockR ?_ | with_reducible refine K_blockE ?_ | ((with_reducible apply K_blockN); decide) | ((with_reducible apply O_r); (simp only [push_cast, seval]; rfl); (first | exact trivial | omega)) | ((with_reducible apply O_or hm); (simp only [push_cast, seval]; rfl); rfl; intro v hm; rotate_left; intro v g hm) | ((with_reducible apply W_condT); (focus (simp only [push_cast, seval]; done))) | ((with_reducible apply W_condF); (focus (simp only [push_cast, seval]; done))) | ((with_reducible apply S_condB hm); (simp only [push_cast, seval]; rfl); intro hm; rotate_left; intro hm) | ((with_reducible apply K_endS hm); (focus (simp only [resOf, resL, RV.get, push_cast, seval]; rfl)); (focus ((repeat' (first | rfl | (with_reducible first | apply f_optN | apply f_optS | apply f_some | apply f_tup | apply f_agg | apply f_ptr | apply f_fn | apply dv_slice | apply sv_d | apply f_cons | apply fold_nil | apply fold_cons | apply fold_app | apply f_rowI | apply f_rowY | apply f_rowS | apply f_rowB | apply f_rowL) | (with_reducible apply f_byte; decide))); done))) | ((with_reducible apply K_bool hm); (simp only [push_cast, seval]; rfl)))
noncomputable def m_kit_Outside (x0 : Int) (x1 : Int) (x2 : Int) : Option (Bool) := (sims_G7_0_5 x0 x1 x2).1
theorem spec_kit_Outside (x0 : Int) (x1 : Int) (x2 : Int) : ∀ r, m_kit_Outside x0 x1 x2 = some r → PureSpec Tryd.prog 24 [.int .i64 x0, .int .i64 x1, .int .i64 x2] (.bool r) := (sims_G7_0_5 x0 x1 x2).2

/-- interchange/wire.TextAt -/
def sc_wire_TextAt : SC :=
  (.seq (.reg [.r 2 (.boxI (.t 0)),
     .r 3 (.boxI (.t 1)),
     .r 4 (.mv (.c (.d (.str [])))),
     .r 5 (.mv (.c (.d (.bool false))))])
  (.seq (.seq (.reg [.r 7 (.fld 0 (.t 3)),
     .o 8 (.ld1 (.t 7)),
     .r 9 (.fld 1 (.t 2)),
     .o 10 (.ld1 (.t 9)),
     .r 11 (.len (.t 10)),
     .r 12 (.bin .gtr (.t 8) (.t 11))])
  (.cond (.t 12)
    (.seq (.reg [.r 4 (.mv (.c (.d (.str [])))),
       .r 5 (.mv (.c (.d (.bool false))))])
    .ret)
    .skip))
  (.seq (.reg [.r 13 (.fld 1 (.t 2)),
     .o 14 (.ld1 (.t 13)),
     .r 15 (.fld 0 (.t 3)),
     .o 16 (.ld1 (.t 15)),
     .r 17 (.bin .sub (.t 16) (.c (.d (.int .i64 1)))),
     .r 18 (.idx 1 (.t 14) (.t 17)),
     .r 19 (.fld 0 (.t 18)),
     .o 20 (.ld1 (.t 19)),
     .r 6 (.mv (.t 20))])
  (.seq (.seq (.regD (.r 21 (.fld 1 (.t 3)) :: .r 22 (.ld1 (.t 21)) :: .r 23 (.mv (.t 6)) :: .r 24 (.len (.t 23)) :: .r 25 (.bin .gtr (.t 22) (.t 24)) :: .r 26 (.mv (.t 25)) :: gapp [27, 28, 29, 30, 31, 32, 33, 34, 35, 36] 26 false (.r 27 (.fld 2 (.t 3)) :: .r 28 (.ld1 (.t 27)) :: .r 29 (.mv (.t 6)) :: .r 30 (.fld 1 (.t 3)) :: .r 31 (.ld1 (.t 30)) :: .r 32 (.bin .sub (.t 31) (.c (.d (.int .i64 1)))) :: .r 33 (.idx 1 (.t 29) (.t 32)) :: .r 34 (.ld1 (.t 33)) :: .r 35 (.len (.t 34)) :: .r 36 (.bin .gtr (.t 28) (.t 35)) :: []) (.r 37 (.pick (.t 26) (.c (.d (.bool true))) (.t 36)) :: [])))
  (.cond (.t 37)
    (.seq (.reg [.r 4 (.mv (.c (.d (.str [])))),
       .r 5 (.mv (.c (.d (.bool false))))])
    .ret)
    .skip))
  (.seq (.regD [.r 38 (.mv (.t 6)),
     .r 39 (.fld 1 (.t 3)),
     .r 40 (.ld1 (.t 39)),
     .r 41 (.bin .sub (.t 40) (.c (.d (.int .i64 1)))),
     .r 42 (.idx 1 (.t 38) (.t 41)),
     .r 43 (.ld1 (.t 42)),
     .r 44 (.fld 2 (.t 3)),
     .r 45 (.ld1 (.t 44)),
     .r 46 (.bin .sub (.t 45) (.c (.d (.int .i64 1)))),
     .r 47 (.idx 1 (.t 43) (.t 46)),
     .r 48 (.ld1 (.t 47)),
     .r 4 (.mv (.t 48)),
     .r 5 (.mv (.c (.d (.bool true))))])
  .ret)))))
theorem fit_wire_TextAt : fits Tryd.prog 25 Tryd.f25 sc_wire_TextAt [.t 4, .t 5] 2 = true := by kernel_rfl

set_option maxRecDepth 100000 in
set_option maxHeartbeats 40000000 in
noncomputable def sims_G7_0_6 : (∀ (x0 : Tapi_Segment) (x1 : Tapi_Spot), {m : Option ((List UInt8) × Bool) // ∀ r, m = some r → PureSpec Tryd.prog 25 [.agg (rTapi_Segment x0), .agg (rTapi_Spot x1)] (.tup [.str r.1, .bool r.2])}) := by
  (intro x0 x1; apply Subtype.mk; intro r hm; apply pure_walk Tryd.func25 fit_wire_TextAt; unfold sc_wire_TextAt)
  repeat' (first | with_reducible refine W_seq ?_ | with_reducible refine W_reg ?_ | with_reducible refine W_regD ?_ | with_reducible refine W_block ?_ | with_reducible refine W_skip ?_ | with_reducible refine W_ret ?_ | with_reducible refine W_exit ?_ | with_reducible refine O_nil ?_ | with_reducible refine K_seq ?_ | with_reducible refine K_seqE ?_ | with_reducible refine K_seqR ?_ | with_reducible refine K_block ?_ | with_reducible refine K_blockR ?_ | with_reducible refine K_blockE ?_ | ((with_reducible apply K_blockN); decide) | with_reducible refine O_o2r ?_ | ((with_reducible apply O_idxr hm); (iterate 2 (simp only [push_cast, seval]; rfl)); (intro _; rfl); intro e hm) | ((with_reducible apply O_idxVr hm); (iterate 3 (simp only [push_cast, seval]; rfl)); intro e hm) | ((with_reducible apply O_r); (simp only [push_cast, seval]; rfl); (first | exact trivial | omega)) | ((with_reducible apply O_ldV1r hm); (iterate 2 (simp only [push_cast, seval]; rfl)); (intro _; rfl); intro e hm) | ((with_reducible apply O_or hm); (simp only [push_cast, seval]; rfl); rfl; intro v hm; rotate_left; intro v g hm) | ((with_reducible apply W_condT); (focus (simp only [push_cast, seval]; done))) | ((with_reducible apply W_condF); (focus (simp only [push_cast, seval]; done))) | ((with_reducible apply S_condB hm); (simp only [push_cast, seval]; rfl); intro hm; rotate_left; intro hm) | ((with_reducible apply K_end2 hm); (focus (simp only [resOf, resL, RV.get, push_cast, seval]; rfl)); (focus (first | (dsimp only; done) | (dsimp only; rfl) | rfl)); (focus ((repeat' (first | rfl | (with_reducible first | apply fT_Tapi_Element | apply fT_Tapi_Segment | apply fT_Tapi_Spot | apply f_optN | apply f_optS | apply f_some | apply f_tup | apply f_agg | apply f_ptr | apply f_fn | apply dv_slice | apply sv_d | apply f_cons | apply fold_nil | apply fold_cons | apply fold_app | apply f_rowI | apply f_rowY | apply f_rowS | apply f_rowB | apply f_rowL) | (with_reducible apply f_byte; decide))); done))) | ((with_reducible apply K_bool hm); (simp only [push_cast, seval]; rfl)))
noncomputable def m_wire_TextAt (x0 : Tapi_Segment) (x1 : Tapi_Spot) : Option ((List UInt8) × Bool) := (sims_G7_0_6 x0 x1).1
theorem spec_wire_TextAt (x0 : Tapi_Segment) (x1 : Tapi_Spot) : ∀ r, m_wire_TextAt x0 x1 = some r → PureSpec Tryd.prog 25 [.agg (rTapi_Segment x0), .agg (rTapi_Spot x1)] (.tup [.str r.1, .bool r.2]) := (sims_G7_0_6 x0 x1).2

def sc_slices_Equal_string_string_L1 : SC :=
  (.seq (.reg [.r 14 (.bin .lss (.t 13) (.t 12))])
  (.seq (.cond (.t 14)
    .skip
    (.exit 0))
  (.seq (.block 1 (.seq (.reg [.r 15 (.mv (.t 13)),
       .r 5 (.mv (.t 15))])
    (.seq (.regD [.r 16 (.mv (.t 0)),
       .r 17 (.mv (.t 5)),
       .r 18 (.idx 1 (.t 16) (.t 17)),
       .r 19 (.ld1 (.t 18)),
       .r 20 (.mv (.t 1)),
       .r 21 (.mv (.t 5)),
       .r 22 (.idx 1 (.t 20) (.t 21)),
       .r 23 (.ld1 (.t 22)),
       .r 24 (.bin .neq (.t 19) (.t 23))])
    (.cond (.t 24)
      (.seq (.reg [.r 4 (.mv (.c (.d (.bool false))))])
      .ret)
      .skip))))
  (.reg [.r 25 (.bin .add (.t 13) (.c (.d (.int .i64 1)))),
     .r 13 (.mv (.t 25))]))))
def sc_slices_Equal_string_string_B1 : SC := .block 0 (.loop sc_slices_Equal_string_string_L1)
/-- slices.Equal[[]string,string] -/
def sc_slices_Equal_string_string : SC :=
  (.seq (.reg [.r 4 (.mv (.c (.d (.bool false))))])
  (.seq (.seq (.reg [.r 6 (.mv (.t 0)),
     .r 7 (.len (.t 6)),
     .r 8 (.mv (.t 1)),
     .r 9 (.len (.t 8)),
     .r 10 (.bin .neq (.t 7) (.t 9))])
  (.cond (.t 10)
    (.seq (.reg [.r 4 (.mv (.c (.d (.bool false))))])
    .ret)
    .skip))
  (.seq (.seq (.reg [.r 11 (.mv (.t 0)),
     .r 12 (.len (.t 11)),
     .r 13 (.mv (.c (.d (.int .i64 0))))])
  sc_slices_Equal_string_string_B1)
  (.seq (.reg [.r 4 (.mv (.c (.d (.bool true))))])
  .ret))))
theorem fit_slices_Equal_string_string : fits Tryd.prog 7 Tryd.f7 sc_slices_Equal_string_string [.t 4] 2 = true := by kernel_rfl

set_option maxRecDepth 100000 in
set_option maxHeartbeats 40000000 in
noncomputable def sims_G7_0_7 : (∀ (x0 : List (List UInt8)) (x1 : List (List UInt8)), {m : Option (Bool) // ∀ r, m = some r → PureSpec Tryd.prog 7 [.slice (List.map rowS x0), .slice (List.map rowS x1)] (.bool r)}) := by
  (intro x0 x1; apply Subtype.mk; intro r hm; apply pure_walk Tryd.func7 fit_slices_Equal_string_string; unfold sc_slices_Equal_string_string)
  repeat' (first | with_reducible refine W_seq ?_ | with_reducible refine W_reg ?_ | with_reducible refine W_regD ?_ | with_reducible refine W_block ?_ | with_reducible refine W_skip ?_ | with_reducible refine W_ret ?_ | with_reducible refine W_exit ?_ | with_reducible refine O_nil ?_ | with_reducible refine K_seq ?_ | with_reducible refine K_seqE ?_ | with_reducible refine K_seqR ?_ | with_reducible refine K_block ?_ | with_reducible refine K_blockR ?_ | with_reducible refine K_blockE ?_ | ((with_reducible apply K_blockN); decide) | ((with_reducible apply O_idxr hm); (iterate 2 (simp only [push_cast, seval]; rfl)); (intro _; rfl); intro e hm) | ((with_reducible apply O_idxVr hm); (iterate 3 (simp only [push_cast, seval]; rfl)); intro e hm) | ((with_reducible apply O_r); (simp only [push_cast, seval]; rfl); (first | exact trivial | omega)) | ((with_reducible apply O_ldV1r hm); (iterate 2 (simp only [push_cast, seval]; rfl)); (intro _; rfl); intro e hm) | ((with_reducible apply O_strr hm); (iterate 2 (simp only [push_cast, seval]; rfl)); intro hm) | ((with_reducible apply W_condT); (focus (simp only [push_cast, seval]; done))) | ((with_reducible apply W_condF); (focus (simp only [push_cast, seval]; done))) | ((with_reducible apply S_condB hm); (simp only [push_cast, seval]; rfl); intro hm; rotate_left; intro hm) | ((with_reducible apply K_endS hm); (focus (simp only [resOf, resL, RV.get, push_cast, seval]; rfl)); (focus ((repeat' (first | rfl | (with_reducible first | apply f_optN | apply f_optS | apply f_some | apply f_tup | apply f_agg | apply f_ptr | apply f_fn | apply dv_slice | apply sv_d | apply f_cons | apply fold_nil | apply fold_cons | apply fold_app | apply f_rowI | apply f_rowY | apply f_rowS | apply f_rowB | apply f_rowL) | (with_reducible apply f_byte; decide))); done))) | ((with_reducible apply K_leave hm); intro r hm) | ((with_reducible apply K_leaveR hm); intro r hm) | ((apply S_loopY (b := 0) (X := sc_slices_Equal_string_string_B1) (x := sc_slices_Equal_string_string_L1) rfl (fun (c : SV × SV × SV) (s : Int) => st [(0, c.1), (1, c.2.1), (12, c.2.2), (13, .d (.int .i64 s))] []) (c := (_, _, _)) (s0 := _) hm); (focus (first | (dsimp only; done) | (dsimp only; rfl) | rfl)); (with_reducible refine Then.mk ?_ ?_)) | ((apply K_next (s' := _) hm); (focus (first | (dsimp only; done) | (dsimp only; rfl) | rfl))) | ((apply K_brk (s' := _) hm); (focus (first | (dsimp only; done) | (dsimp only; rfl) | rfl))) | (((with_reducible apply K_brkN hm); (focus decide); intro r hm)) | (((with_reducible apply K_brkR hm); intro r hm)) | (((with_reducible apply LoopB.of); (focus (first | (dsimp only; done) | (dsimp only; rfl) | rfl)); (focus ((intro _; repeat' (first | with_reducible exact impC_end | with_reducible exact impC_endF | with_reducible refine impC_seq ?_ | with_reducible refine impC_block ?_ | ((with_reducible refine impC_rnd ?_); intro _) | ((with_reducible refine impC_brk ?_); intro _))))); (intro s o hm; first | unfold sc_slices_Equal_string_string_L1); rotate_left; intro s hm)) | (((apply imp_stT; (repeat' (first | with_reducible exact keepT_nil | with_reducible exact keepC_nil | with_reducible apply keepT_cons | with_reducible apply keepC_cons | ((with_reducible apply svle_eq); (focus (first | (simp only [push_cast, seval]; rfl) | rfl)); (focus ((repeat' (first | rfl | (with_reducible first | apply f_optN | apply f_optS | apply f_some | apply f_tup | apply f_agg | apply f_ptr | apply f_fn | apply dv_slice | apply sv_d | apply f_cons | apply fold_nil | apply fold_cons | apply fold_app | apply f_rowI | apply f_rowY | apply f_rowS | apply f_rowB | apply f_rowL) | (with_reducible apply f_byte; decide))); done))) | ((with_reducible apply svle_td); (focus (first | (simp only [push_cast, seval]; rfl) | rfl)); (focus (first | (simp only [push_cast, seval]; rfl) | rfl)); (focus ((repeat' (first | rfl | (with_reducible first | apply f_optN | apply f_optS | apply f_some | apply f_tup | apply f_agg | apply f_ptr | apply f_fn | apply dv_slice | apply sv_d | apply f_cons | apply fold_nil | apply fold_cons | apply fold_app | apply f_rowI | apply f_rowY | apply f_rowS | apply f_rowB | apply f_rowL) | (with_reducible apply f_byte; decide))); done))) | ((with_reducible apply chle_eq); (focus (first | (simp only [push_cast, seval]; rfl) | rfl)); (first | with_reducible exact chle_rfl rfl | with_reducible exact chle_map0 | with_reducible apply chle_vec | with_reducible apply chle_box)) | (with_reducible first | apply r_shS | apply r_shI | apply r_rflO | apply r_oneO | apply r_appO | apply r_nilO | apply c_ownN | apply c_ownL | apply vc_rfl | apply vc_nil | apply vc_cons | apply r_rfl | apply r_rows | apply r_nil | apply r_app | apply r_cons | apply c_rowI | apply c_rowY | apply c_rowS | apply c_rowB | apply c_rowL))); done))))
noncomputable def m_slices_Equal_string_string (x0 : List (List UInt8)) (x1 : List (List UInt8)) : Option (Bool) := (sims_G7_0_7 x0 x1).1
theorem spec_slices_Equal_string_string (x0 : List (List UInt8)) (x1 : List (List UInt8)) : ∀ r, m_slices_Equal_string_string x0 x1 = some r → PureSpec Tryd.prog 7 [.slice (List.map rowS x0), .slice (List.map rowS x1)] (.bool r) := (sims_G7_0_7 x0 x1).2

def sc_scheme_CloneTree_L1 : SC :=
  (.seq (.reg [.r 10 (.bin .lss (.t 9) (.t 8))])
  (.seq (.cond (.t 10)
    .skip
    (.exit 0))
  (.seq (.block 1 (.seq (.reg [.r 11 (.mv (.t 9)),
       .r 12 (.idx 4 (.t 7) (.t 9)),
       .o 13 (.ldA 4 (.t 12)),
       .w 4 (.boxM (.c (.agg [.d (.str []), .d (.str []), .nils, .nils]))),
       .r 3 (.mv (.t 11)),
       .w 0 (.st 4 (.t 4) (.t 13))])
    (.regE [.r 14 (.mv (.t 0)),
       .r 15 (.mv (.t 3)),
       .r 16 (.mv (.t 0)),
       .r 17 (.mv (.t 3)),
       .r 18 (.fld 1 (.t 4)),
       .r 19 (.ldA 2 (.t 18)),
       .c 20 (.f 19) [.t 19],
       .r 21 (.fld 3 (.t 4)),
       .r 22 (.ld1 (.t 21)),
       .c 23 (.f 11) [.t 22],
       .r 24 (.idx 4 (.t 14) (.t 15)),
       .r 25 (.fld 1 (.t 24)),
       .x 0 (.st 2 (.t 25) (.t 20)) [(2, 16, .mv (.t 0)), (3, 17, .mv (.t 3))],
       .r 26 (.idx 4 (.t 16) (.t 17)),
       .r 27 (.fld 3 (.t 26)),
       .x 0 (.st 1 (.t 27) (.t 23)) []])))
  (.reg [.r 28 (.bin .add (.t 9) (.c (.d (.int .i64 1)))),
     .r 9 (.mv (.t 28))]))))
def sc_scheme_CloneTree_B1 : SC := .block 0 (.loop sc_scheme_CloneTree_L1)
/-- interchange/scheme.CloneTree -/
def sc_scheme_CloneTree : SC :=
  (.seq (.reg [.r 2 (.mv (.c (.nils)))])
  (.seq (.reg [.r 5 (.mv (.t 0)),
     .p (some 6) (.f 18) [.t 5],
     .r 0 (.mv (.t 6))])
  (.seq (.seq (.reg [.r 7 (.mv (.t 0)),
     .r 8 (.len (.t 7)),
     .r 9 (.mv (.c (.d (.int .i64 0))))])
  sc_scheme_CloneTree_B1)
  (.seq (.reg [.r 29 (.mv (.t 0)),
     .r 2 (.mv (.t 29))])
  .ret))))
theorem fit_scheme_CloneTree : fits Tryd.prog 11 Tryd.f11 sc_scheme_CloneTree [.t 2] 1 = true := by kernel_rfl

set_option maxRecDepth 100000 in
set_option maxHeartbeats 40000000 in
noncomputable def step_G7_0_8 : ((∀ (x0 : List Tapi_Branch), {m : Option ((List Tapi_Branch)) // ∀ r, m = some r → PureSpec Tryd.prog 11 [.slice (List.map rTapi_Branch x0)] (.slice (List.map rTapi_Branch r))})) → ((∀ (x0 : List Tapi_Branch), {m : Option ((List Tapi_Branch)) // ∀ r, m = some r → PureSpec Tryd.prog 11 [.slice (List.map rTapi_Branch x0)] (.slice (List.map rTapi_Branch r))})) := by
  intro ih
  have spec_scheme_CloneTree : ∀ (x0 : List Tapi_Branch), ∀ r, (ih x0).1 = some r → PureSpec Tryd.prog 11 [.slice (List.map rTapi_Branch x0)] (.slice (List.map rTapi_Branch r)) := fun x0 => (ih x0).2
  (intro x0; apply Subtype.mk; intro r hm; apply pure_walk Tryd.func11 fit_scheme_CloneTree; unfold sc_scheme_CloneTree)
  repeat' (first | with_reducible refine W_seq ?_ | with_reducible refine W_reg ?_ | with_reducible refine W_regE ?_ | with_reducible refine W_block ?_ | with_reducible refine W_skip ?_ | with_reducible refine W_ret ?_ | with_reducible refine W_exit ?_ | with_reducible refine O_nil ?_ | with_reducible refine K_seq ?_ | with_reducible refine K_seqE ?_ | with_reducible refine K_seqR ?_ | with_reducible refine K_block ?_ | with_reducible refine K_blockR ?_ | with_reducible refine K_blockE ?_ | ((with_reducible apply K_blockN); decide) | with_reducible refine O_o2r ?_ | ((with_reducible apply O_idxr hm); (iterate 2 (simp only [push_cast, seval]; rfl)); (intro _; rfl); intro e hm) | ((with_reducible apply O_idxVr hm); (iterate 3 (simp only [push_cast, seval]; rfl)); intro e hm) | ((with_reducible apply O_r); (simp only [push_cast, seval]; rfl); (first | exact trivial | omega)) | ((with_reducible apply O_ldV1r hm); (iterate 2 (simp only [push_cast, seval]; rfl)); (intro _; rfl); intro e hm) | ((with_reducible apply O_ldAVr hm); (iterate 2 (simp only [push_cast, seval]; rfl)); (intro _; rfl); intro e hm) | ((with_reducible apply O_strr hm); (iterate 2 (simp only [push_cast, seval]; rfl)); intro hm) | ((with_reducible apply W_condT); (focus (simp only [push_cast, seval]; done))) | ((with_reducible apply W_condF); (focus (simp only [push_cast, seval]; done))) | ((with_reducible apply O_cF hm); (simp only [push_cast, seval]; rfl); (first | apply spec_slices_Clone_interchange_api_Branch_interchange_api_Branch _ | apply spec_wire_Clone _ | apply spec_scheme_CloneTree _); (any_goals ((repeat' (first | rfl | (with_reducible first | apply fT_Tapi_Branch | apply fT_Tapi_Element | apply fT_Tapi_Segment | apply f_optN | apply f_optS | apply f_some | apply f_tup | apply f_agg | apply f_ptr | apply f_fn | apply dv_slice | apply sv_d | apply f_cons | apply fold_nil | apply fold_cons | apply fold_app | apply f_rowI | apply f_rowY | apply f_rowS | apply f_rowB | apply f_rowL) | (with_reducible apply f_byte; decide))); done)); intro x hm) | ((with_reducible apply O_w); (simp only [push_cast, seval]; rfl); (first | exact trivial | omega)) | ((with_reducible apply O_stVA hm); (iterate 4 (simp only [push_cast, seval]; rfl)); (focus ((repeat' (first | rfl | (with_reducible first | apply fT_Tapi_Branch | apply fT_Tapi_Element | apply fT_Tapi_Segment | apply f_optN | apply f_optS | apply f_some | apply f_tup | apply f_agg | apply f_ptr | apply f_fn | apply dv_slice | apply sv_d | apply f_cons | apply fold_nil | apply fold_cons | apply fold_app | apply f_rowI | apply f_rowY | apply f_rowS | apply f_rowB | apply f_rowL) | (with_reducible apply f_byte; decide))); done)); decide; (intro _; rfl); intro e hm) | ((with_reducible apply O_stV hm); (iterate 3 (simp only [push_cast, seval]; rfl)); rfl; (intro _; rfl); rfl; (focus (intro a; simp only [push_cast, seval]; rfl)); (focus (intro a; (repeat' (first | rfl | with_reducible apply eT_Tapi_Branch | with_reducible apply eT_Tapi_Element | with_reducible apply eT_Tapi_Segment)); done)); intro e hm) | ((with_reducible apply O_stVAX hm); (iterate 3 (simp only [push_cast, seval]; rfl)); (focus ((repeat' (first | rfl | (with_reducible first | apply fT_Tapi_Branch | apply fT_Tapi_Element | apply fT_Tapi_Segment | apply f_optN | apply f_optS | apply f_some | apply f_tup | apply f_agg | apply f_ptr | apply f_fn | apply dv_slice | apply sv_d | apply f_cons | apply fold_nil | apply fold_cons | apply fold_app | apply f_rowI | apply f_rowY | apply f_rowS | apply f_rowB | apply f_rowL) | (with_reducible apply f_byte; decide))); done)); (intro _; rfl); (focus ((repeat' (first | exact Rer_nil | ((with_reducible apply Rer_cons); (focus (simp only [push_cast, seval]; rfl)); (focus (first | exact trivial | omega)); (focus (simp only [push_cast, seval]))))); done)); intro e hm) | ((with_reducible apply O_stVX hm); (iterate 3 (simp only [push_cast, seval]; rfl)); rfl; (intro _; rfl); rfl; (focus (intro a; simp only [push_cast, seval]; rfl)); (focus (intro a; (repeat' (first | rfl | with_reducible apply eT_Tapi_Branch | with_reducible apply eT_Tapi_Element | with_reducible apply eT_Tapi_Segment)); done)); (focus (intro _; (repeat' (first | exact Rer_nil | ((with_reducible apply Rer_cons); (focus (simp only [push_cast, seval]; rfl)); (focus (first | exact trivial | omega)); (focus (simp only [push_cast, seval]))))); done)); intro e hm) | ((with_reducible apply O_x); (simp only [push_cast, seval]; rfl); (first | exact trivial | omega); (focus ((repeat' (first | exact Rer_nil | ((with_reducible apply Rer_cons); (focus (simp only [push_cast, seval]; rfl)); (focus (first | exact trivial | omega)); (focus (simp only [push_cast, seval]))))); done))) | ((with_reducible apply S_condB hm); (simp only [push_cast, seval]; rfl); intro hm; rotate_left; intro hm) | ((with_reducible apply K_endS hm); (focus (simp only [resOf, resL, RV.get, push_cast, seval]; rfl)); (focus ((repeat' (first | rfl | (with_reducible first | apply fT_Tapi_Branch | apply fT_Tapi_Element | apply fT_Tapi_Segment | apply f_optN | apply f_optS | apply f_some | apply f_tup | apply f_agg | apply f_ptr | apply f_fn | apply dv_slice | apply sv_d | apply f_cons | apply fold_nil | apply fold_cons | apply fold_app | apply f_rowI | apply f_rowY | apply f_rowS | apply f_rowB | apply f_rowL) | (with_reducible apply f_byte; decide))); done))) | ((with_reducible apply K_leave hm); intro r hm) | ((with_reducible apply K_leaveR hm); intro r hm) | ((apply S_loopY (b := 0) (X := sc_scheme_CloneTree_B1) (x := sc_scheme_CloneTree_L1) rfl (fun (c : SV) (s : (List Tapi_Branch) × Int) => st [(0, .vec 6), (7, .vec 6), (8, c), (9, .d (.int .i64 s.2))] [(6, .vec 41 4 (vrow rTapi_Branch s.1))]) (c := _) (s0 := (_, _)) hm); (focus (first | (dsimp only; done) | (dsimp only; rfl) | rfl)); (with_reducible refine Then.mk ?_ ?_)) | ((apply K_next (s' := (_, _)) hm); (focus (first | (dsimp only; done) | (dsimp only; rfl) | rfl))) | ((apply K_brk (s' := (_, _)) hm); (focus (first | (dsimp only; done) | (dsimp only; rfl) | rfl))) | (((with_reducible apply K_brkN hm); (focus decide); intro r hm)) | (((with_reducible apply K_brkR hm); intro r hm)) | (((with_reducible apply O_pO hm); (focus (simp only [push_cast, seval]; rfl)); (first | apply spec_slices_Clone_interchange_api_Branch_interchange_api_Branch _); (any_goals (focus ((repeat' (first | rfl | (with_reducible first | apply fT_Tapi_Branch | apply fT_Tapi_Element | apply fT_Tapi_Segment | apply f_optN | apply f_optS | apply f_some | apply f_tup | apply f_agg | apply f_ptr | apply f_fn | apply dv_slice | apply sv_d | apply f_cons | apply fold_nil | apply fold_cons | apply fold_app | apply f_rowI | apply f_rowY | apply f_rowS | apply f_rowB | apply f_rowL) | (with_reducible apply f_byte; decide))); done))); (any_goals (focus (intro _; rfl))); intro y hm)) | (((with_reducible apply LoopB.of); (focus (first | (dsimp only; done) | (dsimp only; rfl) | rfl)); (focus ((intro _; repeat' (first | with_reducible exact impC_end | with_reducible exact impC_endF | with_reducible refine impC_seq ?_ | with_reducible refine impC_block ?_ | ((with_reducible refine impC_rnd ?_); intro _) | ((with_reducible refine impC_brk ?_); intro _))))); (intro s o hm; first | unfold sc_scheme_CloneTree_L1); rotate_left; intro s hm)) | (((apply imp_stT; (repeat' (first | with_reducible exact keepT_nil | with_reducible exact keepC_nil | with_reducible apply keepT_cons | with_reducible apply keepC_cons | ((with_reducible apply svle_eq); (focus (first | (simp only [push_cast, seval]; rfl) | rfl)); (focus ((repeat' (first | rfl | (with_reducible first | apply fT_Tapi_Branch | apply fT_Tapi_Element | apply fT_Tapi_Segment | apply f_optN | apply f_optS | apply f_some | apply f_tup | apply f_agg | apply f_ptr | apply f_fn | apply dv_slice | apply sv_d | apply f_cons | apply fold_nil | apply fold_cons | apply fold_app | apply f_rowI | apply f_rowY | apply f_rowS | apply f_rowB | apply f_rowL) | (with_reducible apply f_byte; decide))); done))) | ((with_reducible apply svle_td); (focus (first | (simp only [push_cast, seval]; rfl) | rfl)); (focus (first | (simp only [push_cast, seval]; rfl) | rfl)); (focus ((repeat' (first | rfl | (with_reducible first | apply fT_Tapi_Branch | apply fT_Tapi_Element | apply fT_Tapi_Segment | apply f_optN | apply f_optS | apply f_some | apply f_tup | apply f_agg | apply f_ptr | apply f_fn | apply dv_slice | apply sv_d | apply f_cons | apply fold_nil | apply fold_cons | apply fold_app | apply f_rowI | apply f_rowY | apply f_rowS | apply f_rowB | apply f_rowL) | (with_reducible apply f_byte; decide))); done))) | ((with_reducible apply chle_eq); (focus (first | (simp only [push_cast, seval]; rfl) | rfl)); (first | with_reducible exact chle_rfl rfl | with_reducible exact chle_map0 | with_reducible apply chle_vec | with_reducible apply chle_box)) | (with_reducible first | apply cT_Tapi_Branch | apply cT_Tapi_Element | apply cT_Tapi_Segment | apply r_shS | apply r_shI | apply r_rflO | apply r_oneO | apply r_appO | apply r_nilO | apply c_ownN | apply c_ownL | apply vc_rfl | apply vc_nil | apply vc_cons | apply r_rfl | apply r_rows | apply r_nil | apply r_app | apply r_cons | apply c_rowI | apply c_rowY | apply c_rowS | apply c_rowB | apply c_rowL))); done))))
noncomputable def sims_G7_0_8 (fu : Nat) : (∀ (x0 : List Tapi_Branch), {m : Option ((List Tapi_Branch)) // ∀ r, m = some r → PureSpec Tryd.prog 11 [.slice (List.map rTapi_Branch x0)] (.slice (List.map rTapi_Branch r))}) := Nat.rec (fun x0 => ⟨none, fun r h => by cases h⟩) (fun _ ih => step_G7_0_8 ih) fu
noncomputable def m_scheme_CloneTree (fu : Nat) (x0 : List Tapi_Branch) : Option ((List Tapi_Branch)) := ((sims_G7_0_8 fu) x0).1
theorem m_scheme_CloneTree_fold (fu : Nat) (x0 : List Tapi_Branch) : ((sims_G7_0_8 fu) x0).1 = m_scheme_CloneTree fu x0 := rfl
theorem m_scheme_CloneTree_succ (fu : Nat) (x0 : List Tapi_Branch) : m_scheme_CloneTree (fu + 1) x0 = ((step_G7_0_8 (sims_G7_0_8 fu)) x0).1 := rfl
theorem spec_scheme_CloneTree (fu : Nat) (x0 : List Tapi_Branch) : ∀ r, m_scheme_CloneTree fu x0 = some r → PureSpec Tryd.prog 11 [.slice (List.map rTapi_Branch x0)] (.slice (List.map rTapi_Branch r)) := ((sims_G7_0_8 fu) x0).2

/-- slices.ContainsFunc[[]string,string] -/
def sc_slices_ContainsFunc_string_string : SC :=
  (.seq (.reg [.r 4 (.mv (.c (.d (.bool false))))])
  (.seq (.reg [.r 5 (.mv (.t 0)),
     .r 6 (.mv (.t 1)),
     .c 7 (.f 41) [.t 5, .t 6],
     .r 8 (.bin .geq (.t 7) (.c (.d (.int .i64 0)))),
     .r 4 (.mv (.t 8))])
  .ret))
theorem fit_slices_ContainsFunc_string_string : fits Tryd.prog 27 Tryd.f27 sc_slices_ContainsFunc_string_string [.t 4] 2 = true := by kernel_rfl

set_option maxRecDepth 100000 in
set_option maxHeartbeats 40000000 in
noncomputable def sims_G7_1_0 : (∀ (x0 : List (List UInt8)) (f1 : FuncId) (c1 : List DV) (p1 : (List UInt8) → Option (Bool)) (h1 : ∀ a0 r, p1 a0 = some r → PureSpec Tryd.prog f1 ([.str a0] ++ c1) (.bool r)), {m : Option (Bool) // ∀ r, m = some r → PureSpec Tryd.prog 27 [.slice (List.map rowS x0), .fn f1 c1] (.bool r)}) := by
  (intro x0 f1 c1 p1 h1; apply Subtype.mk; intro r hm; apply pure_walk Tryd.func27 fit_slices_ContainsFunc_string_string; unfold sc_slices_ContainsFunc_string_string)
  repeat' (first | with_reducible refine W_seq ?_ | with_reducible refine W_reg ?_ | with_reducible refine W_block ?_ | with_reducible refine W_skip ?_ | with_reducible refine W_ret ?_ | with_reducible refine W_exit ?_ | with_reducible refine O_nil ?_ | with_reducible refine K_seq ?_ | with_reducible refine K_seqE ?_ | with_reducible refine K_seqR ?_ | with_reducible refine K_block ?_ | with_reducible refine K_blockR ?_ | with_reducible refine K_blockE ?_ | ((with_reducible apply K_blockN); decide) | ((with_reducible apply O_r); (simp only [push_cast, seval]; rfl); (first | exact trivial | omega)) | ((with_reducible apply W_condT); (focus (simp only [push_cast, seval]; done))) | ((with_reducible apply W_condF); (focus (simp only [push_cast, seval]; done))) | ((with_reducible apply O_cF hm); (simp only [push_cast, seval]; rfl); (first | apply spec_slices_IndexFunc_string_string _ _ _ _ h1 | apply h1 _); (any_goals ((repeat' (first | rfl | (with_reducible first | apply f_optN | apply f_optS | apply f_some | apply f_tup | apply f_agg | apply f_ptr | apply f_fn | apply dv_slice | apply sv_d | apply f_cons | apply fold_nil | apply fold_cons | apply fold_app | apply f_rowI | apply f_rowY | apply f_rowS | apply f_rowB | apply f_rowL) | (with_reducible apply f_byte; decide))); done)); intro x hm) | ((with_reducible apply S_condB hm); (simp only [push_cast, seval]; rfl); intro hm; rotate_left; intro hm) | ((with_reducible apply K_endS hm); (focus (simp only [resOf, resL, RV.get, push_cast, seval]; rfl)); (focus ((repeat' (first | rfl | (with_reducible first | apply f_optN | apply f_optS | apply f_some | apply f_tup | apply f_agg | apply f_ptr | apply f_fn | apply dv_slice | apply sv_d | apply f_cons | apply fold_nil | apply fold_cons | apply fold_app | apply f_rowI | apply f_rowY | apply f_rowS | apply f_rowB | apply f_rowL) | (with_reducible apply f_byte; decide))); done))))
noncomputable def m_slices_ContainsFunc_string_string (x0 : List (List UInt8)) (f1 : FuncId) (c1 : List DV) (p1 : (List UInt8) → Option (Bool)) (h1 : ∀ a0 r, p1 a0 = some r → PureSpec Tryd.prog f1 ([.str a0] ++ c1) (.bool r)) : Option (Bool) := (sims_G7_1_0 x0 f1 c1 p1 h1).1
theorem spec_slices_ContainsFunc_string_string (x0 : List (List UInt8)) (f1 : FuncId) (c1 : List DV) (p1 : (List UInt8) → Option (Bool)) (h1 : ∀ a0 r, p1 a0 = some r → PureSpec Tryd.prog f1 ([.str a0] ++ c1) (.bool r)) : ∀ r, m_slices_ContainsFunc_string_string x0 f1 c1 p1 h1 = some r → PureSpec Tryd.prog 27 [.slice (List.map rowS x0), .fn f1 c1] (.bool r) := (sims_G7_1_0 x0 f1 c1 p1 h1).2

/-- strings.LastIndexByte -/
def sc_strings_LastIndexByte : SC :=
  (.seq (.reg [.r 4 (.mv (.c (.d (.int .i64 0))))])
  (.seq (.reg [.r 5 (.mv (.t 0)),
     .r 6 (.mv (.t 1)),
     .c 7 (.f 33) [.t 5, .t 6],
     .r 4 (.mv (.t 7))])
  .ret))
theorem fit_strings_LastIndexByte : fits Tryd.prog 20 Tryd.f20 sc_strings_LastIndexByte [.t 4] 2 = true := by kernel_rfl

set_option maxRecDepth 100000 in
set_option maxHeartbeats 40000000 in
noncomputable def sims_G7_1_1 : (∀ (x0 : List UInt8) (x1 : UInt8), {m : Option (Int) // ∀ r, m = some r → PureSpec Tryd.prog 20 [.str x0, .int .u8 (x1).toNat] (.int .i64 r)}) := by
  (intro x0 x1; apply Subtype.mk; intro r hm; apply pure_walk Tryd.func20 fit_strings_LastIndexByte; unfold sc_strings_LastIndexByte)
  repeat' (first | with_reducible refine W_seq ?_ | with_reducible refine W_reg ?_ | with_reducible refine W_block ?_ | with_reducible refine W_skip ?_ | with_reducible refine W_ret ?_ | with_reducible refine W_exit ?_ | with_reducible refine O_nil ?_ | with_reducible refine K_seq ?_ | with_reducible refine K_seqE ?_ | with_reducible refine K_seqR ?_ | with_reducible refine K_block ?_ | with_reducible refine K_blockR ?_ | with_reducible refine K_blockE ?_ | ((with_reducible apply K_blockN); decide) | ((with_reducible apply O_r); (simp only [push_cast, seval]; rfl); (first | exact trivial | omega)) | ((with_reducible apply W_condT); (focus (simp only [push_cast, seval]; done))) | ((with_reducible apply W_condF); (focus (simp only [push_cast, seval]; done))) | ((with_reducible apply O_cF hm); (simp only [push_cast, seval]; rfl); (first | apply spec_internal_bytealg_LastIndexByteString _ _); (any_goals ((repeat' (first | rfl | (with_reducible first | apply f_optN | apply f_optS | apply f_some | apply f_tup | apply f_agg | apply f_ptr | apply f_fn | apply dv_slice | apply sv_d | apply f_cons | apply fold_nil | apply fold_cons | apply fold_app | apply f_rowI | apply f_rowY | apply f_rowS | apply f_rowB | apply f_rowL) | (with_reducible apply f_byte; decide))); done)); intro x hm) | ((with_reducible apply S_condB hm); (simp only [push_cast, seval]; rfl); intro hm; rotate_left; intro hm) | ((with_reducible apply K_endS hm); (focus (simp only [resOf, resL, RV.get, push_cast, seval]; rfl)); (focus ((repeat' (first | rfl | (with_reducible first | apply f_optN | apply f_optS | apply f_some | apply f_tup | apply f_agg | apply f_ptr | apply f_fn | apply dv_slice | apply sv_d | apply f_cons | apply fold_nil | apply fold_cons | apply fold_app | apply f_rowI | apply f_rowY | apply f_rowS | apply f_rowB | apply f_rowL) | (with_reducible apply f_byte; decide))); done))))
noncomputable def m_strings_LastIndexByte (x0 : List UInt8) (x1 : UInt8) : Option (Int) := (sims_G7_1_1 x0 x1).1
theorem spec_strings_LastIndexByte (x0 : List UInt8) (x1 : UInt8) : ∀ r, m_strings_LastIndexByte x0 x1 = some r → PureSpec Tryd.prog 20 [.str x0, .int .u8 (x1).toNat] (.int .i64 r) := (sims_G7_1_1 x0 x1).2

/-- interchange/kit.Number -/
def sc_kit_Number : SC :=
  (.seq (.reg [.r 4 (.mv (.c (.d (.int .i64 0)))),
     .r 5 (.mv (.c (.d (.bool false))))])
  (.seq (.seq (.reg (.r 8 (.mv (.t 0)) :: .r 9 (.lenT (.t 8)) :: .r 10 (.mv (.t 1)) :: .r 11 (.bin .gtr (.t 9) (.t 10)) :: .r 12 (.mv (.t 11)) :: gapp [13, 14, 15] 12 false (.r 13 (.mv (.t 0)) :: .c 14 (.f 37) [.t 13] :: .r 15 (.not (.t 14)) :: []) (.r 16 (.pick (.t 12) (.c (.d (.bool true))) (.t 15)) :: .r 17 (.mv (.t 16)) :: gapp [18, 19, 20, 21, 22, 23, 24, 25] 17 false (.r 18 (.mv (.t 0)) :: .r 19 (.lenT (.t 18)) :: .r 20 (.bin .gtr (.t 19) (.c (.d (.int .i64 1)))) :: .r 21 (.mv (.t 20)) :: gapp [22, 23, 24] 21 true (.r 22 (.mv (.t 0)) :: .r 23 (.sidx (.t 22) (.c (.d (.int .i64 0)))) :: .r 24 (.bin .eql (.t 23) (.c (.d (.int .u8 48)))) :: []) (.r 25 (.pick (.t 21) (.t 24) (.c (.d (.bool false)))) :: [])) (.r 26 (.pick (.t 17) (.c (.d (.bool true))) (.t 25)) :: []))))
  (.cond (.t 26)
    (.seq (.reg [.r 4 (.mv (.c (.d (.int .i64 0)))),
       .r 5 (.mv (.c (.d (.bool false))))])
    .ret)
    .skip))
  (.seq (.reg [.r 28 (.mv (.t 0)),
     .c 29 (.f 38) [.t 28],
     .r 27 (.mv (.t 29)),
     .r 30 (.ext (.t 27) 0),
     .r 31 (.ext (.t 27) 1),
     .r 6 (.mv (.t 30)),
     .r 7 (.mv (.t 31))])
  (.seq (.regD [.r 32 (.mv (.t 6)),
     .r 33 (.mv (.t 7)),
     .r 34 (.binI .eql (.t 33) (.c (.d (.raw .nilIface)))),
     .r 4 (.mv (.t 32)),
     .r 5 (.mv (.t 34))])
  .ret))))
theorem fit_kit_Number : fits Tryd.prog 23 Tryd.f23 sc_kit_Number [.t 4, .t 5] 2 = true := by kernel_rfl

set_option maxRecDepth 100000 in
set_option maxHeartbeats 40000000 in
noncomputable def sims_G7_1_2 : (∀ (x0 : List UInt8) (x1 : Int), {m : Option (Int × Bool) // ∀ r, m = some r → PureSpec Tryd.prog 23 [.str x0, .int .i64 x1] (.tup [.int .i64 r.1, .bool r.2])}) := by
  (intro x0 x1; apply Subtype.mk; intro r hm; apply pure_walk Tryd.func23 fit_kit_Number; unfold sc_kit_Number)
  repeat' (first | with_reducible refine W_seq ?_ | with_reducible refine W_reg ?_ | with_reducible refine W_regD ?_ | with_reducible refine W_block ?_ | with_reducible refine W_skip ?_ | with_reducible refine W_ret ?_ | with_reducible refine W_exit ?_ | with_reducible refine O_nil ?_ | with_reducible refine K_seq ?_ | with_reducible refine K_seqE ?_ | with_reducible refine K_seqR ?_ | with_reducible refine K_block ?_ | with_reducible refine K_blockR ?_ | with_reducible refine K_blockE ?_ | ((with_reducible apply K_blockN); decide) | ((with_reducible apply O_sidxr hm); (iterate 2 (simp only [push_cast, seval]; rfl)); intro e hm) | ((with_reducible apply O_r); (simp only [push_cast, seval]; rfl); (first | exact trivial | omega)) | ((with_reducible apply O_and hm); (simp only [push_cast, seval]; rfl); rfl; intro v hm; rotate_left; intro v g hm) | ((with_reducible apply O_or hm); (simp only [push_cast, seval]; rfl); rfl; intro v hm; rotate_left; intro v g hm) | ((with_reducible apply W_condT); (focus (simp only [push_cast, seval]; done))) | ((with_reducible apply W_condF); (focus (simp only [push_cast, seval]; done))) | ((with_reducible apply O_cF hm); (simp only [push_cast, seval]; rfl); (first | apply spec_kit_IsDigits _ | apply spec_strconv_Atoi _); (any_goals ((repeat' (first | rfl | (with_reducible first | apply f_optN | apply f_optS | apply f_some | apply f_tup | apply f_agg | apply f_ptr | apply f_fn | apply dv_slice | apply sv_d | apply f_cons | apply fold_nil | apply fold_cons | apply fold_app | apply f_rowI | apply f_rowY | apply f_rowS | apply f_rowB | apply f_rowL) | (with_reducible apply f_byte; decide))); done)); intro x hm) | ((with_reducible apply S_condB hm); (simp only [push_cast, seval]; rfl); intro hm; rotate_left; intro hm) | ((with_reducible apply K_end2 hm); (focus (simp only [resOf, resL, RV.get, push_cast, seval]; rfl)); (focus (first | (dsimp only; done) | (dsimp only; rfl) | rfl)); (focus ((repeat' (first | rfl | (with_reducible first | apply f_optN | apply f_optS | apply f_some | apply f_tup | apply f_agg | apply f_ptr | apply f_fn | apply dv_slice | apply sv_d | apply f_cons | apply fold_nil | apply fold_cons | apply fold_app | apply f_rowI | apply f_rowY | apply f_rowS | apply f_rowB | apply f_rowL) | (with_reducible apply f_byte; decide))); done))) | ((with_reducible apply K_bool hm); (simp only [push_cast, seval]; rfl)))
noncomputable def m_kit_Number (x0 : List UInt8) (x1 : Int) : Option (Int × Bool) := (sims_G7_1_2 x0 x1).1
theorem spec_kit_Number (x0 : List UInt8) (x1 : Int) : ∀ r, m_kit_Number x0 x1 = some r → PureSpec Tryd.prog 23 [.str x0, .int .i64 x1] (.tup [.int .i64 r.1, .bool r.2]) := (sims_G7_1_2 x0 x1).2

def sc_scheme_Texts_L1 : SC :=
  (.seq (.reg [.r 66 (.bin .lss (.t 65) (.t 64))])
  (.seq (.cond (.t 66)
    .skip
    (.exit 4))
  (.seq (.block 5 (.seq (.reg [.r 67 (.mv (.t 65)),
       .r 10 (.mv (.t 67))])
    (.seq (.reg [.r 68 (.fld 2 (.t 3)),
       .o 69 (.ld1 (.t 68)),
       .r 70 (.mv (.t 10)),
       .r 71 (.bin .add (.t 70) (.c (.d (.int .i64 1)))),
       .r 72 (.fld 3 (.t 3)),
       .o 73 (.ld1 (.t 72)),
       .r 74 (.maxs (.t 73) [.c (.d (.int .i64 1))]),
       .r 75 (.build [.d (.int .i64 0), .d (.int .i64 0), .d (.int .i64 0)] [(0, 1, .t 69), (1, 1, .t 71), (2, 1, .t 74)]),
       .w 11 (.boxM (.c (.agg [.d (.int .i64 0), .d (.int .i64 0), .d (.int .i64 0)]))),
       .w 0 (.st 3 (.t 11) (.t 75))])
    (.seq (.reg [.r 77 (.fld 1 (.t 9)),
       .o 78 (.ldA 2 (.t 77)),
       .o 79 (.ldA 3 (.t 11)),
       .c 80 (.f 25) [.t 78, .t 79],
       .r 76 (.mv (.t 80)),
       .r 81 (.ext (.t 76) 0),
       .r 82 (.ext (.t 76) 1),
       .r 12 (.mv (.t 81)),
       .r 13 (.mv (.t 82))])
    (.seq (.reg [.r 83 (.mv (.t 12)),
       .r 84 (.bin .neq (.t 83) (.c (.d (.str []))))])
    (.cond (.t 84)
      (.reg [.r 85 (.mv (.t 5)),
         .r 86 (.mv (.t 12)),
         .r 87 (.bslice 1 [.t 86]),
         .w 88 (.app 9 1 (.t 85) (.t 87)),
         .r 5 (.mv (.t 88))])
      .skip))))))
  (.reg [.r 89 (.bin .add (.t 65) (.c (.d (.int .i64 1)))),
     .r 65 (.mv (.t 89))]))))
def sc_scheme_Texts_B1 : SC := .block 4 (.loop sc_scheme_Texts_L1)
def sc_scheme_Texts_L2 : SC :=
  (.seq (.reg [.r 26 (.bin .lss (.t 25) (.t 24))])
  (.seq (.cond (.t 26)
    .skip
    (.exit 2))
  (.seq (.block 3 (.seq (.reg [.r 27 (.idx 4 (.t 23) (.t 25)),
       .o 28 (.ldA 4 (.t 27)),
       .w 9 (.boxM (.c (.agg [.d (.str []), .d (.str []), .nils, .nils]))),
       .w 0 (.st 4 (.t 9) (.t 28))])
    (.seq (.seq (.reg (.r 29 (.fld 0 (.t 9)) :: .o 30 (.ld1 (.t 29)) :: .r 31 (.bin .neq (.t 30) (.c (.d (.str [])))) :: .r 32 (.mv (.t 31)) :: gapp [33, 34, 35, 36, 37, 38] 32 false (.r 33 (.fld 1 (.t 9)) :: .r 34 (.fld 0 (.t 33)) :: .r 35 (.ld1 (.t 34)) :: .r 36 (.fld 1 (.t 3)) :: .r 37 (.ld1 (.t 36)) :: .r 38 (.bin .neq (.t 35) (.t 37)) :: []) (.r 39 (.pick (.t 32) (.c (.d (.bool true))) (.t 38)) :: [])))
    (.cond (.t 39)
      (.exit 3)
      .skip))
    (.seq (.seq (.reg [.r 40 (.fld 2 (.t 3)),
       .o 41 (.ld1 (.t 40)),
       .r 42 (.bin .eql (.t 41) (.c (.d (.int .i64 0))))])
    (.cond (.t 42)
      (.seq (.reg [.r 43 (.mv (.t 5)),
         .r 44 (.fld 1 (.t 3)),
         .o 45 (.ld1 (.t 44)),
         .r 46 (.bslice 1 [.t 45]),
         .w 47 (.app 9 1 (.t 43) (.t 46)),
         .r 5 (.mv (.t 47))])
      (.exit 3))
      .skip))
    (.seq (.seq (.reg [.r 48 (.fld 2 (.t 3)),
       .o 49 (.ld1 (.t 48)),
       .r 50 (.fld 1 (.t 9)),
       .r 51 (.fld 1 (.t 50)),
       .o 52 (.ld1 (.t 51)),
       .r 53 (.len (.t 52)),
       .r 54 (.bin .gtr (.t 49) (.t 53))])
    (.cond (.t 54)
      (.exit 3)
      .skip))
    (.seq (.reg [.r 55 (.fld 1 (.t 9)),
       .r 56 (.fld 1 (.t 55)),
       .o 57 (.ld1 (.t 56)),
       .r 58 (.fld 2 (.t 3)),
       .o 59 (.ld1 (.t 58)),
       .r 60 (.bin .sub (.t 59) (.c (.d (.int .i64 1)))),
       .r 61 (.idx 1 (.t 57) (.t 60)),
       .r 62 (.fld 0 (.t 61)),
       .o 63 (.ld1 (.t 62)),
       .r 64 (.len (.t 63)),
       .r 65 (.mv (.c (.d (.int .i64 0))))])
    sc_scheme_Texts_B1))))))
  (.reg [.r 90 (.bin .add (.t 25) (.c (.d (.int .i64 1)))),
     .r 25 (.mv (.t 90))]))))
def sc_scheme_Texts_B2 : SC := .block 2 (.loop sc_scheme_Texts_L2)
def sc_scheme_Texts_L3 : SC :=
  (.seq (.reg [.r 20 (.bin .lss (.t 19) (.t 18))])
  (.seq (.cond (.t 20)
    .skip
    (.exit 0))
  (.seq (.block 1 (.seq (.reg [.r 21 (.idx 1 (.t 17) (.t 19)),
       .o 22 (.ld1 (.t 21)),
       .r 7 (.mv (.t 22))])
    (.seq (.reg [.r 23 (.mv (.t 7)),
       .r 24 (.len (.t 23)),
       .r 25 (.mv (.c (.d (.int .i64 0))))])
    sc_scheme_Texts_B2)))
  (.reg [.r 91 (.bin .add (.t 19) (.c (.d (.int .i64 1)))),
     .r 19 (.mv (.t 91))]))))
def sc_scheme_Texts_B3 : SC := .block 0 (.loop sc_scheme_Texts_L3)
/-- interchange/scheme.Texts -/
def sc_scheme_Texts : SC :=
  (.seq (.reg [.r 3 (.boxI (.t 1)),
     .r 4 (.mv (.c (.nils)))])
  (.seq (.reg [.r 5 (.mv (.c (.nils)))])
  (.seq (.seq (.reg [.r 14 (.mv (.t 0)),
     .r 15 (.fld 0 (.t 3)),
     .o 16 (.ld1 (.t 15)),
     .c 17 (.f 17) [.t 14, .t 16],
     .r 18 (.len (.t 17)),
     .r 19 (.mv (.c (.d (.int .i64 0))))])
  sc_scheme_Texts_B3)
  (.seq (.reg [.r 92 (.mv (.t 5)),
     .r 4 (.mv (.t 92))])
  .ret))))
theorem fit_scheme_Texts : fits Tryd.prog 14 Tryd.f14 sc_scheme_Texts [.t 4] 2 = true := by kernel_rfl

set_option maxRecDepth 100000 in
set_option maxHeartbeats 40000000 in
noncomputable def sims_G7_1_3 : (∀ (x0 : List Tapi_Branch) (x1 : Tscheme_Way), {m : Option ((List (List UInt8))) // ∀ r, m = some r → PureSpec Tryd.prog 14 [.slice (List.map rTapi_Branch x0), .agg (rTscheme_Way x1)] (.slice (List.map rowS r))}) := by
  (intro x0 x1; apply Subtype.mk; intro r hm; apply pure_walk Tryd.func14 fit_scheme_Texts; unfold sc_scheme_Texts)
  repeat' (first | with_reducible refine W_seq ?_ | with_reducible refine W_reg ?_ | with_reducible refine W_block ?_ | with_reducible refine W_skip ?_ | with_reducible refine W_ret ?_ | with_reducible refine W_exit ?_ | with_reducible refine O_nil ?_ | with_reducible refine K_seq ?_ | with_reducible refine K_seqE ?_ | with_reducible refine K_seqR ?_ | with_reducible refine K_block ?_ | with_reducible refine K_blockR ?_ | with_reducible refine K_blockE ?_ | ((with_reducible apply K_blockN); decide) | with_reducible refine O_o2r ?_ | ((with_reducible apply O_idxr hm); (iterate 2 (simp only [push_cast, seval]; rfl)); (intro _; rfl); intro e hm) | ((with_reducible apply O_idxVr hm); (iterate 3 (simp only [push_cast, seval]; rfl)); intro e hm) | ((with_reducible apply O_idxLr hm (row := rowS)); (iterate 2 (simp only [push_cast, seval]; rfl)); (focus ((repeat' (first | rfl | (with_reducible first | apply fT_Tapi_Branch | apply fT_Tapi_Element | apply fT_Tapi_Segment | apply fT_Tscheme_Way | apply fT_Tapi_Spot | apply f_optN | apply f_optS | apply f_some | apply f_tup | apply f_agg | apply f_ptr | apply f_fn | apply dv_slice | apply sv_d | apply f_cons | apply fold_nil | apply fold_cons | apply fold_app | apply f_rowI | apply f_rowY | apply f_rowS | apply f_rowB | apply f_rowL) | (with_reducible apply f_byte; decide))); done)); (simp only [push_cast, seval]; rfl); (intro _; rfl); intro e hm) | ((with_reducible apply O_r); (simp only [push_cast, seval]; rfl); (first | exact trivial | omega)) | ((with_reducible apply O_ldV1r hm); (iterate 2 (simp only [push_cast, seval]; rfl)); (intro _; rfl); intro e hm) | ((with_reducible apply O_ldAVr hm); (iterate 2 (simp only [push_cast, seval]; rfl)); (intro _; rfl); intro e hm) | ((with_reducible apply O_strr hm); (iterate 2 (simp only [push_cast, seval]; rfl)); intro hm) | ((with_reducible apply O_or hm); (simp only [push_cast, seval]; rfl); rfl; intro v hm; rotate_left; intro v g hm) | ((with_reducible apply W_condT); (focus (simp only [push_cast, seval]; done))) | ((with_reducible apply W_condF); (focus (simp only [push_cast, seval]; done))) | ((with_reducible apply O_cF hm); (simp only [push_cast, seval]; rfl); (first | apply spec_scheme_kidsOf _ _ | apply spec_wire_TextAt _ _); (any_goals ((repeat' (first | rfl | (with_reducible first | apply fT_Tapi_Branch | apply fT_Tapi_Element | apply fT_Tapi_Segment | apply fT_Tscheme_Way | apply fT_Tapi_Spot | apply f_optN | apply f_optS | apply f_some | apply f_tup | apply f_agg | apply f_ptr | apply f_fn | apply dv_slice | apply sv_d | apply f_cons | apply fold_nil | apply fold_cons | apply fold_app | apply f_rowI | apply f_rowY | apply f_rowS | apply f_rowB | apply f_rowL) | (with_reducible apply f_byte; decide))); done)); intro x hm) | ((with_reducible apply O_clS hm); (simp only [push_cast, seval]; rfl); (focus (first | exact spec_scheme_kidsOf _ _ | exact spec_wire_TextAt _ _)); (intro _; rfl); intro x hm) | ((with_reducible apply O_w); (simp only [push_cast, seval]; rfl); (first | exact trivial | omega)) | ((with_reducible apply O_appL hm (row := rowS)); (iterate 5 (simp only [push_cast, seval]; rfl)); (focus ((repeat' (first | rfl | (with_reducible first | apply fT_Tapi_Branch | apply fT_Tapi_Element | apply fT_Tapi_Segment | apply fT_Tscheme_Way | apply fT_Tapi_Spot | apply f_optN | apply f_optS | apply f_some | apply f_tup | apply f_agg | apply f_ptr | apply f_fn | apply dv_slice | apply sv_d | apply f_cons | apply fold_nil | apply fold_cons | apply fold_app | apply f_rowI | apply f_rowY | apply f_rowS | apply f_rowB | apply f_rowL) | (with_reducible apply f_byte; decide))); done)); (focus ((repeat' (first | rfl | (with_reducible first | apply fT_Tapi_Branch | apply fT_Tapi_Element | apply fT_Tapi_Segment | apply fT_Tscheme_Way | apply fT_Tapi_Spot | apply f_optN | apply f_optS | apply f_some | apply f_tup | apply f_agg | apply f_ptr | apply f_fn | apply dv_slice | apply sv_d | apply f_cons | apply fold_nil | apply fold_cons | apply fold_app | apply f_rowI | apply f_rowY | apply f_rowS | apply f_rowB | apply f_rowL) | (with_reducible apply f_byte; decide))); done)); rfl; decide; (intro _; rfl); intro hm) | ((with_reducible apply O_appV hm); (iterate 4 (simp only [push_cast, seval]; rfl)); (focus ((repeat' (first | rfl | (with_reducible first | apply fT_Tapi_Branch | apply fT_Tapi_Element | apply fT_Tapi_Segment | apply fT_Tscheme_Way | apply fT_Tapi_Spot | apply f_optN | apply f_optS | apply f_some | apply f_tup | apply f_agg | apply f_ptr | apply f_fn | apply dv_slice | apply sv_d | apply f_cons | apply fold_nil | apply fold_cons | apply fold_app | apply f_rowI | apply f_rowY | apply f_rowS | apply f_rowB | apply f_rowL) | (with_reducible apply f_byte; decide))); done)); decide; (intro _; rfl); intro hm) | ((with_reducible apply O_appN hm); (focus (simp only [push_cast, seval]; done)); (iterate 2 (simp only [push_cast, seval]; rfl)); (focus ((repeat' (first | rfl | (with_reducible first | apply fT_Tapi_Branch | apply fT_Tapi_Element | apply fT_Tapi_Segment | apply fT_Tscheme_Way | apply fT_Tapi_Spot | apply f_optN | apply f_optS | apply f_some | apply f_tup | apply f_agg | apply f_ptr | apply f_fn | apply dv_slice | apply sv_d | apply f_cons | apply fold_nil | apply fold_cons | apply fold_app | apply f_rowI | apply f_rowY | apply f_rowS | apply f_rowB | apply f_rowL) | (with_reducible apply f_byte; decide))); done)); decide; (intro _; rfl); intro hm) | ((with_reducible apply O_stVA hm); (iterate 4 (simp only [push_cast, seval]; rfl)); (focus ((repeat' (first | rfl | (with_reducible first | apply fT_Tapi_Branch | apply fT_Tapi_Element | apply fT_Tapi_Segment | apply fT_Tscheme_Way | apply fT_Tapi_Spot | apply f_optN | apply f_optS | apply f_some | apply f_tup | apply f_agg | apply f_ptr | apply f_fn | apply dv_slice | apply sv_d | apply f_cons | apply fold_nil | apply fold_cons | apply fold_app | apply f_rowI | apply f_rowY | apply f_rowS | apply f_rowB | apply f_rowL) | (with_reducible apply f_byte; decide))); done)); decide; (intro _; rfl); intro e hm) | ((with_reducible apply O_stV hm); (iterate 3 (simp only [push_cast, seval]; rfl)); rfl; (intro _; rfl); rfl; (focus (intro a; simp only [push_cast, seval]; rfl)); (focus (intro a; (repeat' (first | rfl | with_reducible apply eT_Tapi_Branch | with_reducible apply eT_Tapi_Element | with_reducible apply eT_Tapi_Segment | with_reducible apply eT_Tscheme_Way | with_reducible apply eT_Tapi_Spot)); done)); intro e hm) | ((with_reducible apply S_condB hm); (simp only [push_cast, seval]; rfl); intro hm; rotate_left; intro hm) | ((with_reducible apply K_endS hm); (focus (simp only [resOf, resL, RV.get, push_cast, seval]; rfl)); (focus ((repeat' (first | rfl | (with_reducible first | apply fT_Tapi_Branch | apply fT_Tapi_Element | apply fT_Tapi_Segment | apply fT_Tscheme_Way | apply fT_Tapi_Spot | apply f_optN | apply f_optS | apply f_some | apply f_tup | apply f_agg | apply f_ptr | apply f_fn | apply dv_slice | apply sv_d | apply f_cons | apply fold_nil | apply fold_cons | apply fold_app | apply f_rowI | apply f_rowY | apply f_rowS | apply f_rowB | apply f_rowL) | (with_reducible apply f_byte; decide))); done))) | ((with_reducible apply K_bool hm); (simp only [push_cast, seval]; rfl)) | ((with_reducible apply K_leave hm); intro r hm) | ((with_reducible apply K_leaveR hm); intro r hm) | ((apply S_loopY (b := 4) (X := sc_scheme_Texts_B1) (x := sc_scheme_Texts_L1) rfl (fun (c : SV × Ch × SV × SV × SV × SV × SV × SV × SV) (s : (List (List UInt8)) × Int) => st [(3, c.1), (5, .vec 5), (9, .ref 9 0), (17, c.2.2.1), (18, c.2.2.2.1), (19, c.2.2.2.2.1), (23, c.2.2.2.2.2.1), (24, c.2.2.2.2.2.2.1), (25, c.2.2.2.2.2.2.2.1), (64, c.2.2.2.2.2.2.2.2), (65, .d (.int .i64 s.2))] [(5, .vec 9 1 (vrow rowS s.1)), (9, c.2.1)]) (c := (_, _, _, _, _, _, _, _, _)) (s0 := (_, _)) hm); (focus (first | (dsimp only; done) | (dsimp only; rfl) | rfl)); (with_reducible refine Then.mk ?_ ?_)) | ((apply S_loopY (b := 2) (X := sc_scheme_Texts_B2) (x := sc_scheme_Texts_L2) rfl (fun (c : SV × SV × SV × SV × SV × SV) (s : (List (List UInt8)) × Int) => st [(3, c.1), (5, .vec 5), (17, c.2.1), (18, c.2.2.1), (19, c.2.2.2.1), (23, c.2.2.2.2.1), (24, c.2.2.2.2.2), (25, .d (.int .i64 s.2))] [(5, .vec 9 1 (vrow rowS s.1))]) (c := (_, _, _, _, _, _)) (s0 := (_, _)) hm); (focus (first | (dsimp only; done) | (dsimp only; rfl) | rfl)); (with_reducible refine Then.mk ?_ ?_)) | ((apply S_loopY (b := 0) (X := sc_scheme_Texts_B3) (x := sc_scheme_Texts_L3) rfl (fun (c : SV × SV × SV) (s : (List (List UInt8)) × Int) => st [(3, c.1), (5, .vec 5), (17, c.2.1), (18, c.2.2), (19, .d (.int .i64 s.2))] [(5, .vec 9 1 (vrow rowS s.1))]) (c := (_, _, _)) (s0 := (_, _)) hm); (focus (first | (dsimp only; done) | (dsimp only; rfl) | rfl)); (with_reducible refine Then.mk ?_ ?_); apply Imp.trans; (focus (apply imp_vecnil (slot := 5) (id := 5) (e := 9) (sz := 1); (focus (simp only [push_cast, seval]; done))))) | ((apply K_next (s' := (_, _)) hm); (focus (first | (dsimp only; done) | (dsimp only; rfl) | rfl))) | ((apply K_brk (s' := (_, _)) hm); (focus (first | (dsimp only; done) | (dsimp only; rfl) | rfl))) | (((with_reducible apply K_brkN hm); (focus decide); intro r hm)) | (((with_reducible apply K_brkR hm); intro r hm)) | (((with_reducible apply LoopB.of); (focus (first | (dsimp only; done) | (dsimp only; rfl) | rfl)); (focus ((intro _; repeat' (first | with_reducible exact impC_end | with_reducible exact impC_endF | with_reducible refine impC_seq ?_ | with_reducible refine impC_block ?_ | ((with_reducible refine impC_rnd ?_); intro _) | ((with_reducible refine impC_brk ?_); intro _))))); (intro s o hm; first | unfold sc_scheme_Texts_L1 | unfold sc_scheme_Texts_L2 | unfold sc_scheme_Texts_L3); rotate_left; intro s hm)) | (((apply imp_stT; (repeat' (first | with_reducible exact keepT_nil | with_reducible exact keepC_nil | with_reducible apply keepT_cons | with_reducible apply keepC_cons | ((with_reducible apply svle_eq); (focus (first | (simp only [push_cast, seval]; rfl) | rfl)); (focus ((repeat' (first | rfl | (with_reducible first | apply fT_Tapi_Branch | apply fT_Tapi_Element | apply fT_Tapi_Segment | apply fT_Tscheme_Way | apply fT_Tapi_Spot | apply f_optN | apply f_optS | apply f_some | apply f_tup | apply f_agg | apply f_ptr | apply f_fn | apply dv_slice | apply sv_d | apply f_cons | apply fold_nil | apply fold_cons | apply fold_app | apply f_rowI | apply f_rowY | apply f_rowS | apply f_rowB | apply f_rowL) | (with_reducible apply f_byte; decide))); done))) | ((with_reducible apply svle_td); (focus (first | (simp only [push_cast, seval]; rfl) | rfl)); (focus (first | (simp only [push_cast, seval]; rfl) | rfl)); (focus ((repeat' (first | rfl | (with_reducible first | apply fT_Tapi_Branch | apply fT_Tapi_Element | apply fT_Tapi_Segment | apply fT_Tscheme_Way | apply fT_Tapi_Spot | apply f_optN | apply f_optS | apply f_some | apply f_tup | apply f_agg | apply f_ptr | apply f_fn | apply dv_slice | apply sv_d | apply f_cons | apply fold_nil | apply fold_cons | apply fold_app | apply f_rowI | apply f_rowY | apply f_rowS | apply f_rowB | apply f_rowL) | (with_reducible apply f_byte; decide))); done))) | ((with_reducible apply chle_eq); (focus (first | (simp only [push_cast, seval]; rfl) | rfl)); (first | with_reducible exact chle_rfl rfl | with_reducible exact chle_map0 | with_reducible apply chle_vec | with_reducible apply chle_box)) | (with_reducible first | apply cT_Tapi_Branch | apply cT_Tapi_Element | apply cT_Tapi_Segment | apply cT_Tscheme_Way | apply cT_Tapi_Spot | apply r_shS | apply r_shI | apply r_rflO | apply r_oneO | apply r_appO | apply r_nilO | apply c_ownN | apply c_ownL | apply vc_rfl | apply vc_nil | apply vc_cons | apply r_rfl | apply r_rows | apply r_nil | apply r_app | apply r_cons | apply c_rowI | apply c_rowY | apply c_rowS | apply c_rowB | apply c_rowL))); done))))
noncomputable def m_scheme_Texts (x0 : List Tapi_Branch) (x1 : Tscheme_Way) : Option ((List (List UInt8))) := (sims_G7_1_3 x0 x1).1
theorem spec_scheme_Texts (x0 : List Tapi_Branch) (x1 : Tscheme_Way) : ∀ r, m_scheme_Texts x0 x1 = some r → PureSpec Tryd.prog 14 [.slice (List.map rTapi_Branch x0), .agg (rTscheme_Way x1)] (.slice (List.map rowS r)) := (sims_G7_1_3 x0 x1).2

/-- interchange/scheme.namesOf -/
def sc_scheme_namesOf : SC :=
  (.seq (.reg [.r 2 (.mv (.c (.nils))),
     .r 3 (.mv (.c (.d (.bool false))))])
  (.seq (.reg [.r 5 (.mv (.t 0)),
     .c 6 (.f 21) [.t 5, .c (.d (.str [47]))],
     .r 4 (.mv (.t 6))])
  (.seq (.reg [.r 7 (.mv (.t 4)),
     .r 8 (.mv (.t 4)),
     .c 9 (.f 27) [.t 8, .f 28],
     .r 10 (.not (.t 9)),
     .r 2 (.mv (.t 7)),
     .r 3 (.mv (.t 10))])
  .ret)))
theorem fit_scheme_namesOf : fits Tryd.prog 16 Tryd.f16 sc_scheme_namesOf [.t 2, .t 3] 1 = true := by kernel_rfl

set_option maxRecDepth 100000 in
set_option maxHeartbeats 40000000 in
noncomputable def sims_G7_2_0 : (∀ (x0 : List UInt8), {m : Option ((List (List UInt8)) × Bool) // ∀ r, m = some r → PureSpec Tryd.prog 16 [.str x0] (.tup [.slice (List.map rowS r.1), .bool r.2])}) := by
  (intro x0; apply Subtype.mk; intro r hm; apply pure_walk Tryd.func16 fit_scheme_namesOf; unfold sc_scheme_namesOf)
  repeat' (first | with_reducible refine W_seq ?_ | with_reducible refine W_reg ?_ | with_reducible refine W_block ?_ | with_reducible refine W_skip ?_ | with_reducible refine W_ret ?_ | with_reducible refine W_exit ?_ | with_reducible refine O_nil ?_ | with_reducible refine K_seq ?_ | with_reducible refine K_seqE ?_ | with_reducible refine K_seqR ?_ | with_reducible refine K_block ?_ | with_reducible refine K_blockR ?_ | with_reducible refine K_blockE ?_ | ((with_reducible apply K_blockN); decide) | ((with_reducible apply O_r); (simp only [push_cast, seval]; rfl); (first | exact trivial | omega)) | ((with_reducible apply W_condT); (focus (simp only [push_cast, seval]; done))) | ((with_reducible apply W_condF); (focus (simp only [push_cast, seval]; done))) | ((with_reducible apply O_cF hm); (simp only [push_cast, seval]; rfl); (first | apply spec_strings_Split _ _ | apply spec_slices_ContainsFunc_string_string _ _ _ _ (fun a0 a1 r h => spec_strings_Split a0 a1 r h) | apply spec_slices_ContainsFunc_string_string _ _ _ _ (fun a0 r h => spec_scheme_namesOf_1 a0 r h) | apply spec_scheme_namesOf_1 _); (any_goals ((repeat' (first | rfl | (with_reducible first | apply f_optN | apply f_optS | apply f_some | apply f_tup | apply f_agg | apply f_ptr | apply f_fn | apply dv_slice | apply sv_d | apply f_cons | apply fold_nil | apply fold_cons | apply fold_app | apply f_rowI | apply f_rowY | apply f_rowS | apply f_rowB | apply f_rowL) | (with_reducible apply f_byte; decide))); done)); intro x hm) | ((with_reducible apply S_condB hm); (simp only [push_cast, seval]; rfl); intro hm; rotate_left; intro hm) | ((with_reducible apply K_end2 hm); (focus (simp only [resOf, resL, RV.get, push_cast, seval]; rfl)); (focus (first | (dsimp only; done) | (dsimp only; rfl) | rfl)); (focus ((repeat' (first | rfl | (with_reducible first | apply f_optN | apply f_optS | apply f_some | apply f_tup | apply f_agg | apply f_ptr | apply f_fn | apply dv_slice | apply sv_d | apply f_cons | apply fold_nil | apply fold_cons | apply fold_app | apply f_rowI | apply f_rowY | apply f_rowS | apply f_rowB | apply f_rowL) | (with_reducible apply f_byte; decide))); done))))
noncomputable def m_scheme_namesOf (x0 : List UInt8) : Option ((List (List UInt8)) × Bool) := (sims_G7_2_0 x0).1
theorem spec_scheme_namesOf (x0 : List UInt8) : ∀ r, m_scheme_namesOf x0 = some r → PureSpec Tryd.prog 16 [.str x0] (.tup [.slice (List.map rowS r.1), .bool r.2]) := (sims_G7_2_0 x0).2

/-- interchange/scheme.CheckGroups -/
def sc_scheme_CheckGroups : SC :=
  (.seq (.reg [.r 2 (.mv (.c (.d (.int .i64 0))))])
  (.seq (.seq (.reg [.r 5 (.mv (.t 0)),
     .r 6 (.lenT (.t 5)),
     .r 7 (.bin .gtr (.t 6) (.c (.d (.int .i64 200))))])
  (.cond (.t 7)
    (.seq (.reg [.r 2 (.mv (.c (.d (.int .i64 2))))])
    .ret)
    .skip))
  (.seq (.seq (.reg [.r 9 (.mv (.t 0)),
     .c 10 (.f 16) [.t 9],
     .r 8 (.mv (.t 10)),
     .r 11 (.ext (.t 8) 0),
     .r 12 (.ext (.t 8) 1),
     .r 3 (.mv (.t 11)),
     .r 4 (.mv (.t 12))])
  (.seq (.reg (.r 13 (.mv (.t 0)) :: .r 14 (.bin .neq (.t 13) (.c (.d (.str [])))) :: .r 15 (.mv (.t 14)) :: gapp [16, 17] 15 true (.r 16 (.mv (.t 4)) :: .r 17 (.not (.t 16)) :: []) (.r 18 (.pick (.t 15) (.t 17) (.c (.d (.bool false)))) :: [])))
  (.cond (.t 18)
    (.seq (.reg [.r 2 (.mv (.c (.d (.int .i64 10))))])
    .ret)
    .skip)))
  (.seq (.reg [.r 2 (.mv (.c (.d (.int .i64 0))))])
  .ret))))
theorem fit_scheme_CheckGroups : fits Tryd.prog 9 Tryd.f9 sc_scheme_CheckGroups [.t 2] 1 = true := by kernel_rfl

set_option maxRecDepth 100000 in
set_option maxHeartbeats 40000000 in
noncomputable def sims_G7_3_0 : (∀ (x0 : List UInt8), {m : Option (Int) // ∀ r, m = some r → PureSpec Tryd.prog 9 [.str x0] (.int .i64 r)}) := by
  (intro x0; apply Subtype.mk; intro r hm; apply pure_walk Tryd.func9 fit_scheme_CheckGroups; unfold sc_scheme_CheckGroups)
  repeat' (first | with_reducible refine W_seq ?_ | with_reducible refine W_reg ?_ | with_reducible refine W_block ?_ | with_reducible refine W_skip ?_ | with_reducible refine W_ret ?_ | with_reducible refine W_exit ?_ | with_reducible refine O_nil ?_ | with_reducible refine K_seq ?_ | with_reducible refine K_seqE ?_ | with_reducible refine K_seqR ?_ | with_reducible refine K_block ?_ | with_reducible refine K_blockR ?_ | with_reducible refine K_blockE ?_ | ((with_reducible apply K_blockN); decide) | ((with_reducible apply O_r); (simp only [push_cast, seval]; rfl); (first | exact trivial | omega)) | ((with_reducible apply O_and hm); (simp only [push_cast, seval]; rfl); rfl; intro v hm; rotate_left; intro v g hm) | ((with_reducible apply W_condT); (focus (simp only [push_cast, seval]; done))) | ((with_reducible apply W_condF); (focus (simp only [push_cast, seval]; done))) | ((with_reducible apply O_cF hm); (simp only [push_cast, seval]; rfl); (first | apply spec_scheme_namesOf _); (any_goals ((repeat' (first | rfl | (with_reducible first | apply f_optN | apply f_optS | apply f_some | apply f_tup | apply f_agg | apply f_ptr | apply f_fn | apply dv_slice | apply sv_d | apply f_cons | apply fold_nil | apply fold_cons | apply fold_app | apply f_rowI | apply f_rowY | apply f_rowS | apply f_rowB | apply f_rowL) | (with_reducible apply f_byte; decide))); done)); intro x hm) | ((with_reducible apply S_condB hm); (simp only [push_cast, seval]; rfl); intro hm; rotate_left; intro hm) | ((with_reducible apply K_endS hm); (focus (simp only [resOf, resL, RV.get, push_cast, seval]; rfl)); (focus ((repeat' (first | rfl | (with_reducible first | apply f_optN | apply f_optS | apply f_some | apply f_tup | apply f_agg | apply f_ptr | apply f_fn | apply dv_slice | apply sv_d | apply f_cons | apply fold_nil | apply fold_cons | apply fold_app | apply f_rowI | apply f_rowY | apply f_rowS | apply f_rowB | apply f_rowL) | (with_reducible apply f_byte; decide))); done))) | ((with_reducible apply K_bool hm); (simp only [push_cast, seval]; rfl)))
noncomputable def m_scheme_CheckGroups (x0 : List UInt8) : Option (Int) := (sims_G7_3_0 x0).1
theorem spec_scheme_CheckGroups (x0 : List UInt8) : ∀ r, m_scheme_CheckGroups x0 = some r → PureSpec Tryd.prog 9 [.str x0] (.int .i64 r) := (sims_G7_3_0 x0).2

/-- interchange/scheme.Kids -/
def sc_scheme_Kids : SC :=
  (.seq (.reg [.r 4 (.mv (.c (.nils)))])
  (.seq (.seq (.reg [.r 7 (.mv (.t 1)),
     .r 8 (.bin .eql (.t 7) (.c (.d (.str []))))])
  (.cond (.t 8)
    (.seq (.reg [.r 9 (.mv (.t 0)),
       .r 10 (.bslice 1 [.t 9]),
       .r 4 (.mv (.t 10))])
    .ret)
    .skip))
  (.seq (.reg [.r 12 (.mv (.t 1)),
     .c 13 (.f 16) [.t 12],
     .r 11 (.mv (.t 13)),
     .r 14 (.ext (.t 11) 0),
     .r 15 (.ext (.t 11) 1),
     .r 5 (.mv (.t 14)),
     .r 6 (.mv (.t 15))])
  (.seq (.reg [.r 16 (.mv (.t 0)),
     .r 17 (.mv (.t 5)),
     .c 18 (.f 17) [.t 16, .t 17],
     .r 4 (.mv (.t 18))])
  .ret))))
theorem fit_scheme_Kids : fits Tryd.prog 10 Tryd.f10 sc_scheme_Kids [.t 4] 2 = true := by kernel_rfl

set_option maxRecDepth 100000 in
set_option maxHeartbeats 40000000 in
noncomputable def sims_G7_3_1 : (∀ (x0 : List Tapi_Branch) (x1 : List UInt8), {m : Option ((List (List Tapi_Branch))) // ∀ r, m = some r → PureSpec Tryd.prog 10 [.slice (List.map rTapi_Branch x0), .str x1] (.slice (List.map (rowL rTapi_Branch) r))}) := by
  (intro x0 x1; apply Subtype.mk; intro r hm; apply pure_walk Tryd.func10 fit_scheme_Kids; unfold sc_scheme_Kids)
  repeat' (first | with_reducible refine W_seq ?_ | with_reducible refine W_reg ?_ | with_reducible refine W_block ?_ | with_reducible refine W_skip ?_ | with_reducible refine W_ret ?_ | with_reducible refine W_exit ?_ | with_reducible refine O_nil ?_ | with_reducible refine K_seq ?_ | with_reducible refine K_seqE ?_ | with_reducible refine K_seqR ?_ | with_reducible refine K_block ?_ | with_reducible refine K_blockR ?_ | with_reducible refine K_blockE ?_ | ((with_reducible apply K_blockN); decide) | ((with_reducible apply O_r); (simp only [push_cast, seval]; rfl); (first | exact trivial | omega)) | ((with_reducible apply W_condT); (focus (simp only [push_cast, seval]; done))) | ((with_reducible apply W_condF); (focus (simp only [push_cast, seval]; done))) | ((with_reducible apply O_cF hm); (simp only [push_cast, seval]; rfl); (first | apply spec_scheme_namesOf _ | apply spec_scheme_kidsOf _ _); (any_goals ((repeat' (first | rfl | (with_reducible first | apply fT_Tapi_Branch | apply fT_Tapi_Element | apply fT_Tapi_Segment | apply f_optN | apply f_optS | apply f_some | apply f_tup | apply f_agg | apply f_ptr | apply f_fn | apply dv_slice | apply sv_d | apply f_cons | apply fold_nil | apply fold_cons | apply fold_app | apply f_rowI | apply f_rowY | apply f_rowS | apply f_rowB | apply f_rowL) | (with_reducible apply f_byte; decide))); done)); intro x hm) | ((with_reducible apply S_condB hm); (simp only [push_cast, seval]; rfl); intro hm; rotate_left; intro hm) | ((with_reducible apply K_endS hm); (focus (simp only [resOf, resL, RV.get, push_cast, seval]; rfl)); (focus ((repeat' (first | rfl | (with_reducible first | apply fT_Tapi_Branch | apply fT_Tapi_Element | apply fT_Tapi_Segment | apply f_optN | apply f_optS | apply f_some | apply f_tup | apply f_agg | apply f_ptr | apply f_fn | apply dv_slice | apply sv_d | apply f_cons | apply fold_nil | apply fold_cons | apply fold_app | apply f_rowI | apply f_rowY | apply f_rowS | apply f_rowB | apply f_rowL) | (with_reducible apply f_byte; decide))); done))))
noncomputable def m_scheme_Kids (x0 : List Tapi_Branch) (x1 : List UInt8) : Option ((List (List Tapi_Branch))) := (sims_G7_3_1 x0 x1).1
theorem spec_scheme_Kids (x0 : List Tapi_Branch) (x1 : List UInt8) : ∀ r, m_scheme_Kids x0 x1 = some r → PureSpec Tryd.prog 10 [.slice (List.map rTapi_Branch x0), .str x1] (.slice (List.map (rowL rTapi_Branch) r)) := (sims_G7_3_1 x0 x1).2

def sc_scheme_WayOf_L1 : SC :=
  (.seq (.reg [.r 55 (.bin .lss (.t 54) (.t 53))])
  (.seq (.cond (.t 55)
    .skip
    (.exit 0))
  (.seq (.block 1 (.seq (.reg [.r 56 (.mv (.t 54)),
       .r 57 (.idx 1 (.t 52) (.t 54)),
       .o 58 (.ld1 (.t 57)),
       .r 9 (.mv (.t 56)),
       .r 10 (.mv (.t 58))])
    (.seq (.reg [.r 60 (.mv (.t 10)),
       .c 61 (.f 23) [.t 60, .c (.d (.int .i64 3))],
       .r 59 (.mv (.t 61)),
       .r 62 (.ext (.t 59) 0),
       .r 63 (.ext (.t 59) 1),
       .r 11 (.mv (.t 62)),
       .r 12 (.mv (.t 63))])
    (.seq (.seq (.reg (.r 64 (.mv (.t 12)) :: .r 65 (.not (.t 64)) :: .r 66 (.mv (.t 65)) :: gapp [67, 68, 69, 70, 71, 72] 66 false (.r 67 (.mv (.t 11)) :: .r 68 (.bslice 1 [.c (.d (.int .i64 50)), .c (.d (.int .i64 20))]) :: .r 69 (.mv (.t 9)) :: .r 70 (.idx 1 (.t 68) (.t 69)) :: .r 71 (.ld1 (.t 70)) :: .c 72 (.f 24) [.t 67, .c (.d (.int .i64 1)), .t 71] :: []) (.r 73 (.pick (.t 66) (.c (.d (.bool true))) (.t 72)) :: [])))
    (.cond (.t 73)
      (.seq (.reg [.o 74 (.ldA 4 (.t 4)),
         .w 0 (.st 4 (.t 2) (.t 74)),
         .r 3 (.mv (.c (.d (.bool false))))])
      .ret)
      .skip))
    (.seq (.reg [.r 75 (.mv (.t 9)),
       .r 76 (.bin .eql (.t 75) (.c (.d (.int .i64 0))))])
    (.cond (.t 76)
      (.reg [.r 77 (.mv (.t 11)),
         .r 78 (.fld 2 (.t 4)),
         .w 0 (.st 1 (.t 78) (.t 77))])
      (.reg [.r 79 (.mv (.t 11)),
         .r 80 (.fld 3 (.t 4)),
         .w 0 (.st 1 (.t 80) (.t 79))])))))))
  (.reg [.r 81 (.bin .add (.t 54) (.c (.d (.int .i64 1)))),
     .r 54 (.mv (.t 81))]))))
def sc_scheme_WayOf_B1 : SC := .block 0 (.loop sc_scheme_WayOf_L1)
/-- interchange/scheme.WayOf -/
def sc_scheme_WayOf : SC :=
  (.seq (.reg [.w 2 (.boxM (.c (.agg [.nils, .d (.str []), .d (.int .i64 0), .d (.int .i64 0)]))),
     .r 3 (.mv (.c (.d (.bool false))))])
  (.seq (.reg [.r 13 (.build [.nils, .d (.str []), .d (.int .i64 0), .d (.int .i64 0)] []),
     .w 4 (.boxM (.c (.agg [.nils, .d (.str []), .d (.int .i64 0), .d (.int .i64 0)]))),
     .w 0 (.st 4 (.t 4) (.t 13))])
  (.seq (.seq (.reg [.r 14 (.mv (.t 0)),
     .c 15 (.f 20) [.t 14, .c (.d (.int .u8 47))],
     .r 5 (.mv (.t 15))])
  (.seq (.reg [.r 16 (.mv (.t 5)),
     .r 17 (.bin .geq (.t 16) (.c (.d (.int .i64 0))))])
  (.cond (.t 17)
    (.seq (.reg [.r 19 (.mv (.t 0)),
       .r 20 (.mv (.t 5)),
       .r 21 (.sslc (.t 19) none (some (.t 20))),
       .c 22 (.f 16) [.t 21],
       .r 18 (.mv (.t 22)),
       .r 23 (.ext (.t 18) 0),
       .r 24 (.ext (.t 18) 1),
       .r 6 (.mv (.t 23)),
       .r 7 (.mv (.t 24))])
    (.seq (.seq (.reg [.r 25 (.mv (.t 7)),
       .r 26 (.not (.t 25))])
    (.cond (.t 26)
      (.seq (.reg [.o 27 (.ldA 4 (.t 4)),
         .w 0 (.st 4 (.t 2) (.t 27)),
         .r 3 (.mv (.c (.d (.bool false))))])
      .ret)
      .skip))
    (.regE [.r 28 (.mv (.t 6)),
       .r 29 (.mv (.t 0)),
       .r 30 (.mv (.t 5)),
       .r 31 (.bin .add (.t 30) (.c (.d (.int .i64 1)))),
       .r 32 (.sslc (.t 29) (some (.t 31)) none),
       .r 33 (.fld 0 (.t 4)),
       .x 0 (.st 1 (.t 33) (.t 28)) [(1, 29, .mv (.t 0)), (1, 29, .cl 29 [0]), (2, 30, .mv (.t 5)), (3, 31, .bin .add (.t 30) (.c (.d (.int .i64 1)))), (4, 32, .sslc (.t 29) (some (.t 31)) none)],
       .r 0 (.mv (.t 32))])))
    .skip)))
  (.seq (.reg [.r 34 (.mv (.t 0)),
     .c 35 (.f 21) [.t 34, .c (.d (.str [46]))],
     .r 8 (.mv (.t 35))])
  (.seq (.seq (.reg (.r 36 (.mv (.t 8)) :: .r 37 (.len (.t 36)) :: .r 38 (.bin .gtr (.t 37) (.c (.d (.int .i64 3)))) :: .r 39 (.mv (.t 38)) :: gapp [40, 41, 42, 43, 44] 39 false (.r 40 (.mv (.t 8)) :: .r 41 (.idx 1 (.t 40) (.c (.d (.int .i64 0)))) :: .r 42 (.ld1 (.t 41)) :: .c 43 (.f 22) [.t 42] :: .r 44 (.not (.t 43)) :: []) (.r 45 (.pick (.t 39) (.c (.d (.bool true))) (.t 44)) :: [])))
  (.cond (.t 45)
    (.seq (.reg [.o 46 (.ldA 4 (.t 4)),
       .w 0 (.st 4 (.t 2) (.t 46)),
       .r 3 (.mv (.c (.d (.bool false))))])
    .ret)
    .skip))
  (.seq (.reg [.r 47 (.mv (.t 8)),
     .r 48 (.idx 1 (.t 47) (.c (.d (.int .i64 0)))),
     .o 49 (.ld1 (.t 48)),
     .r 50 (.fld 1 (.t 4)),
     .w 0 (.st 1 (.t 50) (.t 49))])
  (.seq (.seq (.reg [.r 51 (.mv (.t 8)),
     .r 52 (.slc 1 (.t 51) (some (.c (.d (.int .i64 1)))) none),
     .r 53 (.len (.t 52)),
     .r 54 (.mv (.c (.d (.int .i64 0))))])
  sc_scheme_WayOf_B1)
  (.seq (.reg [.o 82 (.ldA 4 (.t 4)),
     .w 0 (.st 4 (.t 2) (.t 82)),
     .r 3 (.mv (.c (.d (.bool true))))])
  .ret))))))))
theorem fit_scheme_WayOf : fits Tryd.prog 13 Tryd.f13 sc_scheme_WayOf [.cell 2 4, .t 3] 1 = true := by kernel_rfl

set_option maxRecDepth 100000 in
set_option maxHeartbeats 40000000 in
noncomputable def sims_G7_3_2 : (∀ (x0 : List UInt8), {m : Option (Tscheme_Way × Bool) // ∀ r, m = some r → PureSpec Tryd.prog 13 [.str x0] (.tup [.agg (rTscheme_Way r.1), .bool r.2])}) := by
  (intro x0; apply Subtype.mk; intro r hm; apply pure_walk Tryd.func13 fit_scheme_WayOf; unfold sc_scheme_WayOf)
  repeat' (first | with_reducible refine W_seq ?_ | with_reducible refine W_reg ?_ | with_reducible refine W_regE ?_ | with_reducible refine W_block ?_ | with_reducible refine W_skip ?_ | with_reducible refine W_ret ?_ | with_reducible refine W_exit ?_ | with_reducible refine O_nil ?_ | with_reducible refine K_seq ?_ | with_reducible refine K_seqE ?_ | with_reducible refine K_seqR ?_ | with_reducible refine K_block ?_ | with_reducible refine K_blockR ?_ | with_reducible refine K_blockE ?_ | ((with_reducible apply K_blockN); decide) | with_reducible refine O_o2r ?_ | ((with_reducible apply O_idxr hm); (iterate 2 (simp only [push_cast, seval]; rfl)); (intro _; rfl); intro e hm) | ((with_reducible apply O_idxVr hm); (iterate 3 (simp only [push_cast, seval]; rfl)); intro e hm) | ((with_reducible apply O_slcr hm); (iterate 3 (simp only [push_cast, seval]; rfl)); (intro _; rfl); intro e hm) | ((with_reducible apply O_sslcrE hm); (iterate 3 (simp only [push_cast, seval]; rfl)); intro e he hm) | ((with_reducible apply O_idxLr hm (row := rowI)); (iterate 2 (simp only [push_cast, seval]; rfl)); (focus ((repeat' (first | rfl | (with_reducible first | apply fT_Tscheme_Way | apply f_optN | apply f_optS | apply f_some | apply f_tup | apply f_agg | apply f_ptr | apply f_fn | apply dv_slice | apply sv_d | apply f_cons | apply fold_nil | apply fold_cons | apply fold_app | apply f_rowI | apply f_rowY | apply f_rowS | apply f_rowB | apply f_rowL) | (with_reducible apply f_byte; decide))); done)); (simp only [push_cast, seval]; rfl); (intro _; rfl); intro e hm) | ((with_reducible apply O_slcLr hm (row := rowI)); (iterate 2 (simp only [push_cast, seval]; rfl)); (focus ((repeat' (first | rfl | (with_reducible first | apply fT_Tscheme_Way | apply f_optN | apply f_optS | apply f_some | apply f_tup | apply f_agg | apply f_ptr | apply f_fn | apply dv_slice | apply sv_d | apply f_cons | apply fold_nil | apply fold_cons | apply fold_app | apply f_rowI | apply f_rowY | apply f_rowS | apply f_rowB | apply f_rowL) | (with_reducible apply f_byte; decide))); done)); (iterate 2 (simp only [push_cast, seval]; rfl)); intro e hm) | ((with_reducible apply O_r); (simp only [push_cast, seval]; rfl); (first | exact trivial | omega)) | ((with_reducible apply O_ldV1r hm); (iterate 2 (simp only [push_cast, seval]; rfl)); (intro _; rfl); intro e hm) | ((with_reducible apply O_ldAVr hm); (iterate 2 (simp only [push_cast, seval]; rfl)); (intro _; rfl); intro e hm) | ((with_reducible apply O_strr hm); (iterate 2 (simp only [push_cast, seval]; rfl)); intro hm) | ((with_reducible apply O_or hm); (simp only [push_cast, seval]; rfl); rfl; intro v hm; rotate_left; intro v g hm) | ((with_reducible apply W_condT); (focus (simp only [push_cast, seval]; done))) | ((with_reducible apply W_condF); (focus (simp only [push_cast, seval]; done))) | ((with_reducible apply O_cF hm); (simp only [push_cast, seval]; rfl); (first | apply spec_strings_LastIndexByte _ _ | apply spec_scheme_namesOf _ | apply spec_strings_Split _ _ | apply spec_kit_IsTag _ | apply spec_kit_Number _ _ | apply spec_kit_Outside _ _ _); (any_goals ((repeat' (first | rfl | (with_reducible first | apply fT_Tscheme_Way | apply f_optN | apply f_optS | apply f_some | apply f_tup | apply f_agg | apply f_ptr | apply f_fn | apply dv_slice | apply sv_d | apply f_cons | apply fold_nil | apply fold_cons | apply fold_app | apply f_rowI | apply f_rowY | apply f_rowS | apply f_rowB | apply f_rowL) | (with_reducible apply f_byte; decide))); done)); intro x hm) | ((with_reducible apply O_w); (simp only [push_cast, seval]; rfl); (first | exact trivial | omega)) | ((with_reducible apply O_stVA hm); (iterate 4 (simp only [push_cast, seval]; rfl)); (focus ((repeat' (first | rfl | (with_reducible first | apply fT_Tscheme_Way | apply f_optN | apply f_optS | apply f_some | apply f_tup | apply f_agg | apply f_ptr | apply f_fn | apply dv_slice | apply sv_d | apply f_cons | apply fold_nil | apply fold_cons | apply fold_app | apply f_rowI | apply f_rowY | apply f_rowS | apply f_rowB | apply f_rowL) | (with_reducible apply f_byte; decide))); done)); decide; (intro _; rfl); intro e hm) | ((with_reducible apply O_stVAX hm); (iterate 3 (simp only [push_cast, seval]; rfl)); (focus ((repeat' (first | rfl | (with_reducible first | apply fT_Tscheme_Way | apply f_optN | apply f_optS | apply f_some | apply f_tup | apply f_agg | apply f_ptr | apply f_fn | apply dv_slice | apply sv_d | apply f_cons | apply fold_nil | apply fold_cons | apply fold_app | apply f_rowI | apply f_rowY | apply f_rowS | apply f_rowB | apply f_rowL) | (with_reducible apply f_byte; decide))); done)); (intro _; rfl); (focus ((repeat' (first | exact Rer_nil | ((with_reducible apply Rer_sslc); (focus (simp only [push_cast, seval]; rfl)); (focus (simp only [push_cast, seval]; rfl)); (focus (simp only [push_cast, seval]; rfl)); (focus (simp only [push_cast, seval]; rfl)); (focus assumption)) | ((with_reducible apply Rer_cons); (focus (simp only [push_cast, seval]; rfl)); (focus (first | exact trivial | omega)); (focus (simp only [push_cast, seval]))))); done)); intro e hm) | ((with_reducible apply O_stVX hm); (iterate 3 (simp only [push_cast, seval]; rfl)); rfl; (intro _; rfl); rfl; (focus (intro a; simp only [push_cast, seval]; rfl)); (focus (intro a; (repeat' (first | rfl | with_reducible apply eT_Tscheme_Way)); done)); (focus (intro _; (repeat' (first | exact Rer_nil | ((with_reducible apply Rer_sslc); (focus (simp only [push_cast, seval]; rfl)); (focus (simp only [push_cast, seval]; rfl)); (focus (simp only [push_cast, seval]; rfl)); (focus (simp only [push_cast, seval]; rfl)); (focus assumption)) | ((with_reducible apply Rer_cons); (focus (simp only [push_cast, seval]; rfl)); (focus (first | exact trivial | omega)); (focus (simp only [push_cast, seval]))))); done)); intro e hm) | ((with_reducible apply O_x); (simp only [push_cast, seval]; rfl); (first | exact trivial | omega); (focus ((repeat' (first | exact Rer_nil | ((with_reducible apply Rer_sslc); (focus (simp only [push_cast, seval]; rfl)); (focus (simp only [push_cast, seval]; rfl)); (focus (simp only [push_cast, seval]; rfl)); (focus (simp only [push_cast, seval]; rfl)); (focus assumption)) | ((with_reducible apply Rer_cons); (focus (simp only [push_cast, seval]; rfl)); (focus (first | exact trivial | omega)); (focus (simp only [push_cast, seval]))))); done))) | ((with_reducible apply S_condB hm); (simp only [push_cast, seval]; rfl); intro hm; rotate_left; intro hm) | ((with_reducible apply K_end2 hm); (focus (simp only [resOf, resL, RV.get, push_cast, seval]; rfl)); (focus (first | (dsimp only; done) | (dsimp only; rfl) | rfl)); (focus ((repeat' (first | rfl | (with_reducible first | apply fT_Tscheme_Way | apply f_optN | apply f_optS | apply f_some | apply f_tup | apply f_agg | apply f_ptr | apply f_fn | apply dv_slice | apply sv_d | apply f_cons | apply fold_nil | apply fold_cons | apply fold_app | apply f_rowI | apply f_rowY | apply f_rowS | apply f_rowB | apply f_rowL) | (with_reducible apply f_byte; decide))); done))) | ((with_reducible apply K_bool hm); (simp only [push_cast, seval]; rfl)) | ((with_reducible apply K_leave hm); intro r hm) | ((with_reducible apply K_leaveR hm); intro r hm) | ((apply S_loopY (b := 0) (X := sc_scheme_WayOf_B1) (x := sc_scheme_WayOf_L1) rfl (fun (c : SV × SV) (s : Tscheme_Way × Tscheme_Way × Int) => st [(2, .ref 2 0), (4, .ref 4 0), (52, c.1), (53, c.2), (54, .d (.int .i64 s.2.2))] [(2, .box (dR (rTscheme_Way s.1))), (4, .box (dR (rTscheme_Way s.2.1)))]) (c := (_, _)) (s0 := (_, _, _)) hm); (focus (first | (dsimp only; done) | (dsimp only; rfl) | rfl)); (with_reducible refine Then.mk ?_ ?_)) | ((apply K_next (s' := (_, _, _)) hm); (focus (first | (dsimp only; done) | (dsimp only; rfl) | rfl))) | ((apply K_brk (s' := (_, _, _)) hm); (focus (first | (dsimp only; done) | (dsimp only; rfl) | rfl))) | (((with_reducible apply K_brkN hm); (focus decide); intro r hm)) | (((with_reducible apply K_brkR hm); intro r hm)) | (((with_reducible apply LoopB.of); (focus (first | (dsimp only; done) | (dsimp only; rfl) | rfl)); (focus ((intro _; repeat' (first | with_reducible exact impC_end | with_reducible exact impC_endF | with_reducible refine impC_seq ?_ | with_reducible refine impC_block ?_ | ((with_reducible refine impC_rnd ?_); intro _) | ((with_reducible refine impC_brk ?_); intro _))))); (intro s o hm; first | unfold sc_scheme_WayOf_L1); rotate_left; intro s hm)) | (((apply imp_stT; (repeat' (first | with_reducible exact keepT_nil | with_reducible exact keepC_nil | with_reducible apply keepT_cons | with_reducible apply keepC_cons | ((with_reducible apply svle_eq); (focus (first | (simp only [push_cast, seval]; rfl) | rfl)); (focus ((repeat' (first | rfl | (with_reducible first | apply fT_Tscheme_Way | apply f_optN | apply f_optS | apply f_some | apply f_tup | apply f_agg | apply f_ptr | apply f_fn | apply dv_slice | apply sv_d | apply f_cons | apply fold_nil | apply fold_cons | apply fold_app | apply f_rowI | apply f_rowY | apply f_rowS | apply f_rowB | apply f_rowL) | (with_reducible apply f_byte; decide))); done))) | ((with_reducible apply svle_td); (focus (first | (simp only [push_cast, seval]; rfl) | rfl)); (focus (first | (simp only [push_cast, seval]; rfl) | rfl)); (focus ((repeat' (first | rfl | (with_reducible first | apply fT_Tscheme_Way | apply f_optN | apply f_optS | apply f_some | apply f_tup | apply f_agg | apply f_ptr | apply f_fn | apply dv_slice | apply sv_d | apply f_cons | apply fold_nil | apply fold_cons | apply fold_app | apply f_rowI | apply f_rowY | apply f_rowS | apply f_rowB | apply f_rowL) | (with_reducible apply f_byte; decide))); done))) | ((with_reducible apply chle_eq); (focus (first | (simp only [push_cast, seval]; rfl) | rfl)); (first | with_reducible exact chle_rfl rfl | with_reducible exact chle_map0 | with_reducible apply chle_vec | with_reducible apply chle_box)) | (with_reducible first | apply cT_Tscheme_Way | apply r_shS | apply r_shI | apply r_rflO | apply r_oneO | apply r_appO | apply r_nilO | apply c_ownN | apply c_ownL | apply vc_rfl | apply vc_nil | apply vc_cons | apply r_rfl | apply r_rows | apply r_nil | apply r_app | apply r_cons | apply c_rowI | apply c_rowY | apply c_rowS | apply c_rowB | apply c_rowL))); done))))
noncomputable def m_scheme_WayOf (x0 : List UInt8) : Option (Tscheme_Way × Bool) := (sims_G7_3_2 x0).1
theorem spec_scheme_WayOf (x0 : List UInt8) : ∀ r, m_scheme_WayOf x0 = some r → PureSpec Tryd.prog 13 [.str x0] (.tup [.agg (rTscheme_Way r.1), .bool r.2]) := (sims_G7_3_2 x0).2

def sc_scheme_Groups_L1 : SC :=
  (.seq (.reg [.r 26 (.bin .lss (.t 25) (.t 24))])
  (.seq (.cond (.t 26)
    .skip
    (.exit 0))
  (.seq (.block 1 (.seq (.reg [.r 27 (.idx 1 (.t 23) (.t 25)),
       .o 28 (.ld1 (.t 27)),
       .r 10 (.mv (.t 28))])
    (.reg [.r 29 (.mv (.t 8)),
       .r 30 (.mv (.t 10)),
       .c 31 (.f 11) [.t 30],
       .r 32 (.bslice 1 [.t 31]),
       .w 33 (.app 22 1 (.t 29) (.t 32)),
       .r 8 (.mv (.t 33))])))
  (.reg [.r 34 (.bin .add (.t 25) (.c (.d (.int .i64 1)))),
     .r 25 (.mv (.t 34))]))))
def sc_scheme_Groups_B1 : SC := .block 0 (.loop sc_scheme_Groups_L1)
/-- interchange/scheme.Groups -/
def sc_scheme_Groups : SC :=
  (.seq (.reg [.r 4 (.mv (.c (.nils))),
     .r 5 (.mv (.c (.d (.int .i64 0))))])
  (.seq (.seq (.reg [.r 11 (.mv (.t 0)),
     .c 12 (.f 8) [.t 11],
     .r 6 (.mv (.t 12))])
  (.seq (.reg [.r 13 (.mv (.t 6)),
     .r 14 (.bin .neq (.t 13) (.c (.d (.int .i64 0))))])
  (.cond (.t 14)
    (.seq (.reg [.r 15 (.mv (.t 6)),
       .r 4 (.mv (.c (.nils))),
       .r 5 (.mv (.t 15))])
    .ret)
    .skip)))
  (.seq (.seq (.reg [.r 16 (.mv (.t 1)),
     .c 17 (.f 9) [.t 16],
     .r 7 (.mv (.t 17))])
  (.seq (.reg [.r 18 (.mv (.t 7)),
     .r 19 (.bin .neq (.t 18) (.c (.d (.int .i64 0))))])
  (.cond (.t 19)
    (.seq (.reg [.r 20 (.mv (.t 7)),
       .r 4 (.mv (.c (.nils))),
       .r 5 (.mv (.t 20))])
    .ret)
    .skip)))
  (.seq (.reg [.r 8 (.mv (.c (.nils)))])
  (.seq (.seq (.reg [.r 21 (.mv (.t 0)),
     .r 22 (.mv (.t 1)),
     .c 23 (.f 10) [.t 21, .t 22],
     .r 24 (.len (.t 23)),
     .r 25 (.mv (.c (.d (.int .i64 0))))])
  sc_scheme_Groups_B1)
  (.seq (.reg [.r 35 (.mv (.t 8)),
     .r 4 (.mv (.t 35)),
     .r 5 (.mv (.c (.d (.int .i64 0))))])
  .ret))))))
theorem fit_scheme_Groups : fits Tryd.prog 4 Tryd.f4 sc_scheme_Groups [.t 4, .t 5] 2 = true := by kernel_rfl

set_option maxRecDepth 100000 in
set_option maxHeartbeats 40000000 in
noncomputable def sims_G7_4_0 : (∀ (x0 : List Tapi_Branch) (x1 : List UInt8), {m : Option ((List (List Tapi_Branch)) × Int) // ∀ r, m = some r → PureSpec Tryd.prog 4 [.slice (List.map rTapi_Branch x0), .str x1] (.tup [.slice (List.map (rowL rTapi_Branch) r.1), .int .i64 r.2])}) := by
  (intro x0 x1; apply Subtype.mk; intro r hm; apply pure_walk Tryd.func4 fit_scheme_Groups; unfold sc_scheme_Groups)
  repeat' (first | with_reducible refine W_seq ?_ | with_reducible refine W_reg ?_ | with_reducible refine W_block ?_ | with_reducible refine W_skip ?_ | with_reducible refine W_ret ?_ | with_reducible refine W_exit ?_ | with_reducible refine O_nil ?_ | with_reducible refine K_seq ?_ | with_reducible refine K_seqE ?_ | with_reducible refine K_seqR ?_ | with_reducible refine K_block ?_ | with_reducible refine K_blockR ?_ | with_reducible refine K_blockE ?_ | ((with_reducible apply K_blockN); decide) | with_reducible refine O_o2r ?_ | ((with_reducible apply O_idxr hm); (iterate 2 (simp only [push_cast, seval]; rfl)); (intro _; rfl); intro e hm) | ((with_reducible apply O_idxVr hm); (iterate 3 (simp only [push_cast, seval]; rfl)); intro e hm) | ((with_reducible apply O_idxLr hm (row := (rowL rTapi_Branch))); (iterate 2 (simp only [push_cast, seval]; rfl)); (focus ((repeat' (first | rfl | (with_reducible first | apply fT_Tapi_Branch | apply fT_Tapi_Element | apply fT_Tapi_Segment | apply f_optN | apply f_optS | apply f_some | apply f_tup | apply f_agg | apply f_ptr | apply f_fn | apply dv_slice | apply sv_d | apply f_cons | apply fold_nil | apply fold_cons | apply fold_app | apply f_rowI | apply f_rowY | apply f_rowS | apply f_rowB | apply f_rowL) | (with_reducible apply f_byte; decide))); done)); (simp only [push_cast, seval]; rfl); (intro _; rfl); intro e hm) | ((with_reducible apply O_r); (simp only [push_cast, seval]; rfl); (first | exact trivial | omega)) | ((with_reducible apply O_ldV1r hm); (iterate 2 (simp only [push_cast, seval]; rfl)); (intro _; rfl); intro e hm) | ((with_reducible apply O_strr hm); (iterate 2 (simp only [push_cast, seval]; rfl)); intro hm) | ((with_reducible apply W_condT); (focus (simp only [push_cast, seval]; done))) | ((with_reducible apply W_condF); (focus (simp only [push_cast, seval]; done))) | ((with_reducible apply O_cF hm); (simp only [push_cast, seval]; rfl); (first | apply spec_scheme_CheckTree _ | apply spec_scheme_CheckGroups _ | apply spec_scheme_Kids _ _ | apply spec_scheme_CloneTree FU _); (any_goals ((repeat' (first | rfl | (with_reducible first | apply fT_Tapi_Branch | apply fT_Tapi_Element | apply fT_Tapi_Segment | apply f_optN | apply f_optS | apply f_some | apply f_tup | apply f_agg | apply f_ptr | apply f_fn | apply dv_slice | apply sv_d | apply f_cons | apply fold_nil | apply fold_cons | apply fold_app | apply f_rowI | apply f_rowY | apply f_rowS | apply f_rowB | apply f_rowL) | (with_reducible apply f_byte; decide))); done)); intro x hm) | ((with_reducible apply O_clS hm); (simp only [push_cast, seval]; rfl); (focus (first | exact spec_scheme_CheckTree _ | exact spec_scheme_CheckGroups _ | exact spec_scheme_Kids _ _ | exact spec_scheme_CloneTree FU _)); (intro _; rfl); intro x hm) | ((with_reducible apply O_w); (simp only [push_cast, seval]; rfl); (first | exact trivial | omega)) | ((with_reducible apply O_appL hm (row := (rowL rTapi_Branch))); (iterate 5 (simp only [push_cast, seval]; rfl)); (focus ((repeat' (first | rfl | (with_reducible first | apply fT_Tapi_Branch | apply fT_Tapi_Element | apply fT_Tapi_Segment | apply f_optN | apply f_optS | apply f_some | apply f_tup | apply f_agg | apply f_ptr | apply f_fn | apply dv_slice | apply sv_d | apply f_cons | apply fold_nil | apply fold_cons | apply fold_app | apply f_rowI | apply f_rowY | apply f_rowS | apply f_rowB | apply f_rowL) | (with_reducible apply f_byte; decide))); done)); (focus ((repeat' (first | rfl | (with_reducible first | apply fT_Tapi_Branch | apply fT_Tapi_Element | apply fT_Tapi_Segment | apply f_optN | apply f_optS | apply f_some | apply f_tup | apply f_agg | apply f_ptr | apply f_fn | apply dv_slice | apply sv_d | apply f_cons | apply fold_nil | apply fold_cons | apply fold_app | apply f_rowI | apply f_rowY | apply f_rowS | apply f_rowB | apply f_rowL) | (with_reducible apply f_byte; decide))); done)); rfl; decide; (intro _; rfl); intro hm) | ((with_reducible apply O_appV hm); (iterate 4 (simp only [push_cast, seval]; rfl)); (focus ((repeat' (first | rfl | (with_reducible first | apply fT_Tapi_Branch | apply fT_Tapi_Element | apply fT_Tapi_Segment | apply f_optN | apply f_optS | apply f_some | apply f_tup | apply f_agg | apply f_ptr | apply f_fn | apply dv_slice | apply sv_d | apply f_cons | apply fold_nil | apply fold_cons | apply fold_app | apply f_rowI | apply f_rowY | apply f_rowS | apply f_rowB | apply f_rowL) | (with_reducible apply f_byte; decide))); done)); decide; (intro _; rfl); intro hm) | ((with_reducible apply O_appN hm); (focus (simp only [push_cast, seval]; done)); (iterate 2 (simp only [push_cast, seval]; rfl)); (focus ((repeat' (first | rfl | (with_reducible first | apply fT_Tapi_Branch | apply fT_Tapi_Element | apply fT_Tapi_Segment | apply f_optN | apply f_optS | apply f_some | apply f_tup | apply f_agg | apply f_ptr | apply f_fn | apply dv_slice | apply sv_d | apply f_cons | apply fold_nil | apply fold_cons | apply fold_app | apply f_rowI | apply f_rowY | apply f_rowS | apply f_rowB | apply f_rowL) | (with_reducible apply f_byte; decide))); done)); decide; (intro _; rfl); intro hm) | ((with_reducible apply S_condB hm); (simp only [push_cast, seval]; rfl); intro hm; rotate_left; intro hm) | ((with_reducible apply K_end2 hm); (focus (simp only [resOf, resL, RV.get, push_cast, seval]; rfl)); (focus (first | (dsimp only; done) | (dsimp only; rfl) | rfl)); (focus ((repeat' (first | rfl | (with_reducible first | apply fT_Tapi_Branch | apply fT_Tapi_Element | apply fT_Tapi_Segment | apply f_optN | apply f_optS | apply f_some | apply f_tup | apply f_agg | apply f_ptr | apply f_fn | apply dv_slice | apply sv_d | apply f_cons | apply fold_nil | apply fold_cons | apply fold_app | apply f_rowI | apply f_rowY | apply f_rowS | apply f_rowB | apply f_rowL) | (with_reducible apply f_byte; decide))); done))) | ((with_reducible apply K_leave hm); intro r hm) | ((with_reducible apply K_leaveR hm); intro r hm) | ((apply S_loopY (b := 0) (X := sc_scheme_Groups_B1) (x := sc_scheme_Groups_L1) rfl (fun (c : SV × SV) (s : (List (List Tapi_Branch)) × Int) => st [(8, .vec 8), (23, c.1), (24, c.2), (25, .d (.int .i64 s.2))] [(8, .vec 22 1 (vrow (rowL rTapi_Branch) s.1))]) (c := (_, _)) (s0 := (_, _)) hm); (focus (first | (dsimp only; done) | (dsimp only; rfl) | rfl)); (with_reducible refine Then.mk ?_ ?_); apply Imp.trans; (focus (apply imp_vecnil (slot := 8) (id := 8) (e := 22) (sz := 1); (focus (simp only [push_cast, seval]; done))))) | ((apply K_next (s' := (_, _)) hm); (focus (first | (dsimp only; done) | (dsimp only; rfl) | rfl))) | ((apply K_brk (s' := (_, _)) hm); (focus (first | (dsimp only; done) | (dsimp only; rfl) | rfl))) | (((with_reducible apply K_brkN hm); (focus decide); intro r hm)) | (((with_reducible apply K_brkR hm); intro r hm)) | (((with_reducible apply LoopB.of); (focus (first | (dsimp only; done) | (dsimp only; rfl) | rfl)); (focus ((intro _; repeat' (first | with_reducible exact impC_end | with_reducible exact impC_endF | with_reducible refine impC_seq ?_ | with_reducible refine impC_block ?_ | ((with_reducible refine impC_rnd ?_); intro _) | ((with_reducible refine impC_brk ?_); intro _))))); (intro s o hm; first | unfold sc_scheme_Groups_L1); rotate_left; intro s hm)) | (((apply imp_stT; (repeat' (first | with_reducible exact keepT_nil | with_reducible exact keepC_nil | with_reducible apply keepT_cons | with_reducible apply keepC_cons | ((with_reducible apply svle_eq); (focus (first | (simp only [push_cast, seval]; rfl) | rfl)); (focus ((repeat' (first | rfl | (with_reducible first | apply fT_Tapi_Branch | apply fT_Tapi_Element | apply fT_Tapi_Segment | apply f_optN | apply f_optS | apply f_some | apply f_tup | apply f_agg | apply f_ptr | apply f_fn | apply dv_slice | apply sv_d | apply f_cons | apply fold_nil | apply fold_cons | apply fold_app | apply f_rowI | apply f_rowY | apply f_rowS | apply f_rowB | apply f_rowL) | (with_reducible apply f_byte; decide))); done))) | ((with_reducible apply svle_td); (focus (first | (simp only [push_cast, seval]; rfl) | rfl)); (focus (first | (simp only [push_cast, seval]; rfl) | rfl)); (focus ((repeat' (first | rfl | (with_reducible first | apply fT_Tapi_Branch | apply fT_Tapi_Element | apply fT_Tapi_Segment | apply f_optN | apply f_optS | apply f_some | apply f_tup | apply f_agg | apply f_ptr | apply f_fn | apply dv_slice | apply sv_d | apply f_cons | apply fold_nil | apply fold_cons | apply fold_app | apply f_rowI | apply f_rowY | apply f_rowS | apply f_rowB | apply f_rowL) | (with_reducible apply f_byte; decide))); done))) | ((with_reducible apply chle_eq); (focus (first | (simp only [push_cast, seval]; rfl) | rfl)); (first | with_reducible exact chle_rfl rfl | with_reducible exact chle_map0 | with_reducible apply chle_vec | with_reducible apply chle_box)) | (with_reducible first | apply cT_Tapi_Branch | apply cT_Tapi_Element | apply cT_Tapi_Segment | apply r_shS | apply r_shI | apply r_rflO | apply r_oneO | apply r_appO | apply r_nilO | apply c_ownN | apply c_ownL | apply vc_rfl | apply vc_nil | apply vc_cons | apply r_rfl | apply r_rows | apply r_nil | apply r_app | apply r_cons | apply c_rowI | apply c_rowY | apply c_rowS | apply c_rowB | apply c_rowL))); done))))
noncomputable def m_scheme_Groups (x0 : List Tapi_Branch) (x1 : List UInt8) : Option ((List (List Tapi_Branch)) × Int) := (sims_G7_4_0 x0 x1).1
theorem spec_scheme_Groups (x0 : List Tapi_Branch) (x1 : List UInt8) : ∀ r, m_scheme_Groups x0 x1 = some r → PureSpec Tryd.prog 4 [.slice (List.map rTapi_Branch x0), .str x1] (.tup [.slice (List.map (rowL rTapi_Branch) r.1), .int .i64 r.2]) := (sims_G7_4_0 x0 x1).2

/-- interchange/scheme.CheckPath -/
def sc_scheme_CheckPath : SC :=
  (.seq (.reg [.r 2 (.mv (.c (.d (.int .i64 0))))])
  (.seq (.seq (.reg [.r 5 (.mv (.t 0)),
     .r 6 (.lenT (.t 5)),
     .r 7 (.bin .gtr (.t 6) (.c (.d (.int .i64 200))))])
  (.cond (.t 7)
    (.seq (.reg [.r 2 (.mv (.c (.d (.int .i64 2))))])
    .ret)
    .skip))
  (.seq (.seq (.reg [.r 9 (.mv (.t 0)),
     .c 10 (.f 13) [.t 9],
     .r 8 (.mv (.t 10)),
     .r 11 (.ext (.t 8) 0),
     .r 12 (.ext (.t 8) 1),
     .w 3 (.boxM (.c (.agg [.nils, .d (.str []), .d (.int .i64 0), .d (.int .i64 0)]))),
     .w 0 (.st 4 (.t 3) (.t 11)),
     .r 4 (.mv (.t 12))])
  (.seq (.reg [.r 13 (.mv (.t 4)),
     .r 14 (.not (.t 13))])
  (.cond (.t 14)
    (.seq (.reg [.r 2 (.mv (.c (.d (.int .i64 10))))])
    .ret)
    .skip)))
  (.seq (.reg [.r 2 (.mv (.c (.d (.int .i64 0))))])
  .ret))))
theorem fit_scheme_CheckPath : fits Tryd.prog 12 Tryd.f12 sc_scheme_CheckPath [.t 2] 1 = true := by kernel_rfl

set_option maxRecDepth 100000 in
set_option maxHeartbeats 40000000 in
noncomputable def sims_G7_4_1 : (∀ (x0 : List UInt8), {m : Option (Int) // ∀ r, m = some r → PureSpec Tryd.prog 12 [.str x0] (.int .i64 r)}) := by
  (intro x0; apply Subtype.mk; intro r hm; apply pure_walk Tryd.func12 fit_scheme_CheckPath; unfold sc_scheme_CheckPath)
  repeat' (first | with_reducible refine W_seq ?_ | with_reducible refine W_reg ?_ | with_reducible refine W_block ?_ | with_reducible refine W_skip ?_ | with_reducible refine W_ret ?_ | with_reducible refine W_exit ?_ | with_reducible refine O_nil ?_ | with_reducible refine K_seq ?_ | with_reducible refine K_seqE ?_ | with_reducible refine K_seqR ?_ | with_reducible refine K_block ?_ | with_reducible refine K_blockR ?_ | with_reducible refine K_blockE ?_ | ((with_reducible apply K_blockN); decide) | ((with_reducible apply O_r); (simp only [push_cast, seval]; rfl); (first | exact trivial | omega)) | ((with_reducible apply W_condT); (focus (simp only [push_cast, seval]; done))) | ((with_reducible apply W_condF); (focus (simp only [push_cast, seval]; done))) | ((with_reducible apply O_cF hm); (simp only [push_cast, seval]; rfl); (first | apply spec_scheme_WayOf _); (any_goals ((repeat' (first | rfl | (with_reducible first | apply fT_Tscheme_Way | apply f_optN | apply f_optS | apply f_some | apply f_tup | apply f_agg | apply f_ptr | apply f_fn | apply dv_slice | apply sv_d | apply f_cons | apply fold_nil | apply fold_cons | apply fold_app | apply f_rowI | apply f_rowY | apply f_rowS | apply f_rowB | apply f_rowL) | (with_reducible apply f_byte; decide))); done)); intro x hm) | ((with_reducible apply O_w); (simp only [push_cast, seval]; rfl); (first | exact trivial | omega)) | ((with_reducible apply S_condB hm); (simp only [push_cast, seval]; rfl); intro hm; rotate_left; intro hm) | ((with_reducible apply K_endS hm); (focus (simp only [resOf, resL, RV.get, push_cast, seval]; rfl)); (focus ((repeat' (first | rfl | (with_reducible first | apply fT_Tscheme_Way | apply f_optN | apply f_optS | apply f_some | apply f_tup | apply f_agg | apply f_ptr | apply f_fn | apply dv_slice | apply sv_d | apply f_cons | apply fold_nil | apply fold_cons | apply fold_app | apply f_rowI | apply f_rowY | apply f_rowS | apply f_rowB | apply f_rowL) | (with_reducible apply f_byte; decide))); done))))
noncomputable def m_scheme_CheckPath (x0 : List UInt8) : Option (Int) := (sims_G7_4_1 x0).1
theorem spec_scheme_CheckPath (x0 : List UInt8) : ∀ r, m_scheme_CheckPath x0 = some r → PureSpec Tryd.prog 12 [.str x0] (.int .i64 r) := (sims_G7_4_1 x0).2

/-- interchange/scheme.Find -/
def sc_scheme_Find : SC :=
  (.seq (.reg [.r 4 (.mv (.c (.nils))),
     .r 5 (.mv (.c (.d (.int .i64 0))))])
  (.seq (.seq (.reg [.r 10 (.mv (.t 0)),
     .c 11 (.f 8) [.t 10],
     .r 6 (.mv (.t 11))])
  (.seq (.reg [.r 12 (.mv (.t 6)),
     .r 13 (.bin .neq (.t 12) (.c (.d (.int .i64 0))))])
  (.cond (.t 13)
    (.seq (.reg [.r 14 (.mv (.t 6)),
       .r 4 (.mv (.c (.nils))),
       .r 5 (.mv (.t 14))])
    .ret)
    .skip)))
  (.seq (.seq (.reg [.r 15 (.mv (.t 1)),
     .c 16 (.f 12) [.t 15],
     .r 7 (.mv (.t 16))])
  (.seq (.reg [.r 17 (.mv (.t 7)),
     .r 18 (.bin .neq (.t 17) (.c (.d (.int .i64 0))))])
  (.cond (.t 18)
    (.seq (.reg [.r 19 (.mv (.t 7)),
       .r 4 (.mv (.c (.nils))),
       .r 5 (.mv (.t 19))])
    .ret)
    .skip)))
  (.seq (.reg [.r 21 (.mv (.t 1)),
     .c 22 (.f 13) [.t 21],
     .r 20 (.mv (.t 22)),
     .r 23 (.ext (.t 20) 0),
     .r 24 (.ext (.t 20) 1),
     .w 8 (.boxM (.c (.agg [.nils, .d (.str []), .d (.int .i64 0), .d (.int .i64 0)]))),
     .w 0 (.st 4 (.t 8) (.t 23)),
     .r 9 (.mv (.t 24))])
  (.seq (.reg [.r 25 (.mv (.t 0)),
     .o 26 (.ldA 4 (.t 8)),
     .c 27 (.f 14) [.t 25, .t 26],
     .r 4 (.mv (.t 27)),
     .r 5 (.mv (.c (.d (.int .i64 0))))])
  .ret)))))
theorem fit_scheme_Find : fits Tryd.prog 6 Tryd.f6 sc_scheme_Find [.t 4, .t 5] 2 = true := by kernel_rfl

set_option maxRecDepth 100000 in
set_option maxHeartbeats 40000000 in
noncomputable def sims_G7_5_0 : (∀ (x0 : List Tapi_Branch) (x1 : List UInt8), {m : Option ((List (List UInt8)) × Int) // ∀ r, m = some r → PureSpec Tryd.prog 6 [.slice (List.map rTapi_Branch x0), .str x1] (.tup [.slice (List.map rowS r.1), .int .i64 r.2])}) := by
  (intro x0 x1; apply Subtype.mk; intro r hm; apply pure_walk Tryd.func6 fit_scheme_Find; unfold sc_scheme_Find)
  repeat' (first | with_reducible refine W_seq ?_ | with_reducible refine W_reg ?_ | with_reducible refine W_block ?_ | with_reducible refine W_skip ?_ | with_reducible refine W_ret ?_ | with_reducible refine W_exit ?_ | with_reducible refine O_nil ?_ | with_reducible refine K_seq ?_ | with_reducible refine K_seqE ?_ | with_reducible refine K_seqR ?_ | with_reducible refine K_block ?_ | with_reducible refine K_blockR ?_ | with_reducible refine K_blockE ?_ | ((with_reducible apply K_blockN); decide) | with_reducible refine O_o2r ?_ | ((with_reducible apply O_r); (simp only [push_cast, seval]; rfl); (first | exact trivial | omega)) | ((with_reducible apply W_condT); (focus (simp only [push_cast, seval]; done))) | ((with_reducible apply W_condF); (focus (simp only [push_cast, seval]; done))) | ((with_reducible apply O_cF hm); (simp only [push_cast, seval]; rfl); (first | apply spec_scheme_CheckTree _ | apply spec_scheme_CheckPath _ | apply spec_scheme_WayOf _ | apply spec_scheme_Texts _ _); (any_goals ((repeat' (first | rfl | (with_reducible first | apply fT_Tapi_Branch | apply fT_Tapi_Element | apply fT_Tapi_Segment | apply fT_Tscheme_Way | apply f_optN | apply f_optS | apply f_some | apply f_tup | apply f_agg | apply f_ptr | apply f_fn | apply dv_slice | apply sv_d | apply f_cons | apply fold_nil | apply fold_cons | apply fold_app | apply f_rowI | apply f_rowY | apply f_rowS | apply f_rowB | apply f_rowL) | (with_reducible apply f_byte; decide))); done)); intro x hm) | ((with_reducible apply O_w); (simp only [push_cast, seval]; rfl); (first | exact trivial | omega)) | ((with_reducible apply S_condB hm); (simp only [push_cast, seval]; rfl); intro hm; rotate_left; intro hm) | ((with_reducible apply K_end2 hm); (focus (simp only [resOf, resL, RV.get, push_cast, seval]; rfl)); (focus (first | (dsimp only; done) | (dsimp only; rfl) | rfl)); (focus ((repeat' (first | rfl | (with_reducible first | apply fT_Tapi_Branch | apply fT_Tapi_Element | apply fT_Tapi_Segment | apply fT_Tscheme_Way | apply f_optN | apply f_optS | apply f_some | apply f_tup | apply f_agg | apply f_ptr | apply f_fn | apply dv_slice | apply sv_d | apply f_cons | apply fold_nil | apply fold_cons | apply fold_app | apply f_rowI | apply f_rowY | apply f_rowS | apply f_rowB | apply f_rowL) | (with_reducible apply f_byte; decide))); done))))
noncomputable def m_scheme_Find (x0 : List Tapi_Branch) (x1 : List UInt8) : Option ((List (List UInt8)) × Int) := (sims_G7_5_0 x0 x1).1
theorem spec_scheme_Find (x0 : List Tapi_Branch) (x1 : List UInt8) : ∀ r, m_scheme_Find x0 x1 = some r → PureSpec Tryd.prog 6 [.slice (List.map rTapi_Branch x0), .str x1] (.tup [.slice (List.map rowS r.1), .int .i64 r.2]) := (sims_G7_5_0 x0 x1).2

/-- interchange/interchangelaw3.awake -/
def sc_interchangelaw3_awake : SC :=
  (.seq (.reg [.r 0 (.mv (.c (.d (.bool false))))])
  (.seq (.reg [.r 4 (.build [.d (.str []), .nils] [(0, 1, .c (.d (.str [66, 71, 77])))]),
     .r 5 (.build [.d (.str []), .d (.str []), .nils, .nils] [(1, 2, .t 4)]),
     .r 6 (.bslice 4 [.t 5]),
     .c 7 (.f 6) [.t 6, .c (.d (.str [66, 71, 77]))],
     .r 3 (.mv (.t 7)),
     .r 8 (.ext (.t 3) 0),
     .r 9 (.ext (.t 3) 1),
     .r 1 (.mv (.t 8)),
     .r 2 (.mv (.t 9))])
  (.seq (.reg (.r 10 (.mv (.t 2)) :: .r 11 (.bin .eql (.t 10) (.c (.d (.int .i64 0)))) :: .r 12 (.mv (.t 11)) :: gapp [13, 14, 15] 12 true (.r 13 (.mv (.t 1)) :: .r 14 (.len (.t 13)) :: .r 15 (.bin .eql (.t 14) (.c (.d (.int .i64 1)))) :: []) (.r 16 (.pick (.t 12) (.t 15) (.c (.d (.bool false)))) :: .r 17 (.mv (.t 16)) :: gapp [18, 19, 20, 21] 17 true (.r 18 (.mv (.t 1)) :: .r 19 (.idx 1 (.t 18) (.c (.d (.int .i64 0)))) :: .r 20 (.ld1 (.t 19)) :: .r 21 (.bin .eql (.t 20) (.c (.d (.str [66, 71, 77])))) :: []) (.r 22 (.pick (.t 17) (.t 21) (.c (.d (.bool false)))) :: .r 0 (.mv (.t 22)) :: []))))
  .ret)))
theorem fit_interchangelaw3_awake : fits Tryd.prog 5 Tryd.f5 sc_interchangelaw3_awake [.t 0] 0 = true := by kernel_rfl

set_option maxRecDepth 100000 in
set_option maxHeartbeats 40000000 in
noncomputable def sims_G7_6_0 : ({m : Option (Bool) // ∀ r, m = some r → PureSpec Tryd.prog 5 [] (.bool r)}) := by
  (apply Subtype.mk; intro r hm; apply pure_walk Tryd.func5 fit_interchangelaw3_awake; unfold sc_interchangelaw3_awake)
  repeat' (first | with_reducible refine W_seq ?_ | with_reducible refine W_reg ?_ | with_reducible refine W_block ?_ | with_reducible refine W_skip ?_ | with_reducible refine W_ret ?_ | with_reducible refine W_exit ?_ | with_reducible refine O_nil ?_ | with_reducible refine K_seq ?_ | with_reducible refine K_seqE ?_ | with_reducible refine K_seqR ?_ | with_reducible refine K_block ?_ | with_reducible refine K_blockR ?_ | with_reducible refine K_blockE ?_ | ((with_reducible apply K_blockN); decide) | ((with_reducible apply O_idxr hm); (iterate 2 (simp only [push_cast, seval]; rfl)); (intro _; rfl); intro e hm) | ((with_reducible apply O_idxVr hm); (iterate 3 (simp only [push_cast, seval]; rfl)); intro e hm) | ((with_reducible apply O_idxLr hm (row := rTapi_Branch)); (iterate 2 (simp only [push_cast, seval]; rfl)); (focus ((repeat' (first | rfl | (with_reducible first | apply fT_Tapi_Branch | apply fT_Tapi_Element | apply fT_Tapi_Segment | apply f_optN | apply f_optS | apply f_some | apply f_tup | apply f_agg | apply f_ptr | apply f_fn | apply dv_slice | apply sv_d | apply f_cons | apply fold_nil | apply fold_cons | apply fold_app | apply f_rowI | apply f_rowY | apply f_rowS | apply f_rowB | apply f_rowL) | (with_reducible apply f_byte; decide))); done)); (simp only [push_cast, seval]; rfl); (intro _; rfl); intro e hm) | ((with_reducible apply O_r); (simp only [push_cast, seval]; rfl); (first | exact trivial | omega)) | ((with_reducible apply O_ldV1r hm); (iterate 2 (simp only [push_cast, seval]; rfl)); (intro _; rfl); intro e hm) | ((with_reducible apply O_and hm); (simp only [push_cast, seval]; rfl); rfl; intro v hm; rotate_left; intro v g hm) | ((with_reducible apply W_condT); (focus (simp only [push_cast, seval]; done))) | ((with_reducible apply W_condF); (focus (simp only [push_cast, seval]; done))) | ((with_reducible apply O_cF hm); (simp only [push_cast, seval]; rfl); (first | apply spec_scheme_Find _ _); (any_goals ((repeat' (first | rfl | (with_reducible first | apply fT_Tapi_Branch | apply fT_Tapi_Element | apply fT_Tapi_Segment | apply f_optN | apply f_optS | apply f_some | apply f_tup | apply f_agg | apply f_ptr | apply f_fn | apply dv_slice | apply sv_d | apply f_cons | apply fold_nil | apply fold_cons | apply fold_app | apply f_rowI | apply f_rowY | apply f_rowS | apply f_rowB | apply f_rowL) | (with_reducible apply f_byte; decide))); done)); intro x hm) | ((with_reducible apply S_condB hm); (simp only [push_cast, seval]; rfl); intro hm; rotate_left; intro hm) | ((with_reducible apply K_endS hm); (focus (simp only [resOf, resL, RV.get, push_cast, seval]; rfl)); (focus ((repeat' (first | rfl | (with_reducible first | apply fT_Tapi_Branch | apply fT_Tapi_Element | apply fT_Tapi_Segment | apply f_optN | apply f_optS | apply f_some | apply f_tup | apply f_agg | apply f_ptr | apply f_fn | apply dv_slice | apply sv_d | apply f_cons | apply fold_nil | apply fold_cons | apply fold_app | apply f_rowI | apply f_rowY | apply f_rowS | apply f_rowB | apply f_rowL) | (with_reducible apply f_byte; decide))); done))) | ((with_reducible apply K_bool hm); (simp only [push_cast, seval]; rfl)))
noncomputable def m_interchangelaw3_awake : Option (Bool) := (sims_G7_6_0 ).1
theorem spec_interchangelaw3_awake : ∀ r, m_interchangelaw3_awake  = some r → PureSpec Tryd.prog 5 [] (.bool r) := (sims_G7_6_0 ).2

def sc_interchangelaw3_SchemePathsAreIn_L1 : SC :=
  (.seq (.seq (.reg [.r 50 (.mv (.t 12)),
     .r 51 (.mv (.t 7)),
     .r 52 (.len (.t 51)),
     .r 53 (.bin .lss (.t 50) (.t 52))])
  (.cond (.t 53)
    .skip
    (.exit 0)))
  (.seq (.block 1 (.seq (.reg [.r 57 (.mv (.t 7)),
       .r 58 (.mv (.t 12)),
       .r 59 (.idx 1 (.t 57) (.t 58)),
       .o 60 (.ld1 (.t 59)),
       .r 61 (.mv (.t 2)),
       .c 62 (.f 6) [.t 60, .t 61],
       .r 56 (.mv (.t 62)),
       .r 63 (.ext (.t 56) 0),
       .r 64 (.ext (.t 56) 1),
       .r 13 (.mv (.t 63)),
       .r 14 (.mv (.t 64))])
    (.seq (.seq (.reg [.r 65 (.mv (.t 14)),
       .r 66 (.bin .neq (.t 65) (.c (.d (.int .i64 0))))])
    (.cond (.t 66)
      (.seq (.reg [.r 6 (.mv (.c (.d (.bool false))))])
      .ret)
      .skip))
    (.reg [.r 67 (.mv (.t 11)),
       .r 68 (.mv (.t 13)),
       .w 69 (.app 9 1 (.t 67) (.t 68)),
       .r 11 (.mv (.t 69))]))))
  (.reg [.r 54 (.mv (.t 12)),
     .r 55 (.bin .add (.t 54) (.c (.d (.int .i64 1)))),
     .r 12 (.mv (.t 55))])))
def sc_interchangelaw3_SchemePathsAreIn_B1 : SC := .block 0 (.loop sc_interchangelaw3_SchemePathsAreIn_L1)
/-- interchange/interchangelaw3.SchemePathsAreIn -/
def sc_interchangelaw3_SchemePathsAreIn : SC :=
  (.seq (.reg [.r 6 (.mv (.c (.d (.bool false))))])
  (.seq (.reg [.r 16 (.mv (.t 0)),
     .r 17 (.mv (.t 1)),
     .c 18 (.f 4) [.t 16, .t 17],
     .r 15 (.mv (.t 18)),
     .r 19 (.ext (.t 15) 0),
     .r 20 (.ext (.t 15) 1),
     .r 7 (.mv (.t 19)),
     .r 8 (.mv (.t 20))])
  (.seq (.seq (.reg [.r 21 (.mv (.t 8)),
     .r 22 (.bin .neq (.t 21) (.c (.d (.int .i64 0))))])
  (.cond (.t 22)
    (.seq (.reg (.r 23 (.mv (.t 7)) :: .r 24 (.len (.t 23)) :: .r 25 (.bin .eql (.t 24) (.c (.d (.int .i64 0)))) :: .r 26 (.mv (.t 25)) :: gapp [27] 26 true (.c 27 (.f 5) [] :: []) (.r 28 (.pick (.t 26) (.t 27) (.c (.d (.bool false)))) :: .r 6 (.mv (.t 28)) :: [])))
    .ret)
    .skip))
  (.seq (.reg [.r 29 (.mv (.t 2)),
     .r 9 (.mv (.t 29))])
  (.seq (.seq (.reg [.r 30 (.mv (.t 1)),
     .r 31 (.bin .neq (.t 30) (.c (.d (.str []))))])
  (.cond (.t 31)
    (.reg [.r 32 (.mv (.t 1)),
       .r 33 (.bin .add (.t 32) (.c (.d (.str [47])))),
       .r 34 (.mv (.t 2)),
       .r 35 (.bin .add (.t 33) (.t 34)),
       .r 9 (.mv (.t 35))])
    .skip))
  (.seq (.reg [.r 37 (.mv (.t 0)),
     .r 38 (.mv (.t 9)),
     .c 39 (.f 6) [.t 37, .t 38],
     .r 36 (.mv (.t 39)),
     .r 40 (.ext (.t 36) 0),
     .r 41 (.ext (.t 36) 1),
     .r 10 (.mv (.t 40)),
     .r 8 (.mv (.t 41))])
  (.seq (.seq (.reg [.r 42 (.mv (.t 8)),
     .r 43 (.bin .neq (.t 42) (.c (.d (.int .i64 0))))])
  (.cond (.t 43)
    (.seq (.reg (.r 44 (.mv (.t 10)) :: .r 45 (.len (.t 44)) :: .r 46 (.bin .eql (.t 45) (.c (.d (.int .i64 0)))) :: .r 47 (.mv (.t 46)) :: gapp [48] 47 true (.c 48 (.f 5) [] :: []) (.r 49 (.pick (.t 47) (.t 48) (.c (.d (.bool false)))) :: .r 6 (.mv (.t 49)) :: [])))
    .ret)
    .skip))
  (.seq (.reg [.r 11 (.mv (.c (.nils)))])
  (.seq (.seq (.reg [.r 12 (.mv (.c (.d (.int .i64 0))))])
  sc_interchangelaw3_SchemePathsAreIn_B1)
  (.seq (.reg (.r 70 (.mv (.t 10)) :: .r 71 (.mv (.t 11)) :: .c 72 (.f 7) [.t 70, .t 71] :: .r 73 (.mv (.t 72)) :: gapp [74] 73 true (.c 74 (.f 5) [] :: []) (.r 75 (.pick (.t 73) (.t 74) (.c (.d (.bool false)))) :: .r 6 (.mv (.t 75)) :: [])))
  .ret))))))))))
theorem fit_interchangelaw3_SchemePathsAreIn : fits Tryd.prog 3 Tryd.f3 sc_interchangelaw3_SchemePathsAreIn [.t 6] 3 = true := by kernel_rfl

set_option maxRecDepth 100000 in
set_option maxHeartbeats 40000000 in
noncomputable def sims_G7_7_0 : (∀ (x0 : List Tapi_Branch) (x1 : List UInt8) (x2 : List UInt8), {m : Option (Bool) // ∀ r, m = some r → PureSpec Tryd.prog 3 [.slice (List.map rTapi_Branch x0), .str x1, .str x2] (.bool r)}) := by
  (intro x0 x1 x2; apply Subtype.mk; intro r hm; apply pure_walk Tryd.func3 fit_interchangelaw3_SchemePathsAreIn; unfold sc_interchangelaw3_SchemePathsAreIn)
  repeat' (first | with_reducible refine W_seq ?_ | with_reducible refine W_reg ?_ | with_reducible refine W_block ?_ | with_reducible refine W_skip ?_ | with_reducible refine W_ret ?_ | with_reducible refine W_exit ?_ | with_reducible refine O_nil ?_ | with_reducible refine K_seq ?_ | with_reducible refine K_seqE ?_ | with_reducible refine K_seqR ?_ | with_reducible refine K_block ?_ | with_reducible refine K_blockR ?_ | with_reducible refine K_blockE ?_ | ((with_reducible apply K_blockN); decide) | with_reducible refine O_o2r ?_ | ((with_reducible apply O_idxr hm); (iterate 2 (simp only [push_cast, seval]; rfl)); (intro _; rfl); intro e hm) | ((with_reducible apply O_idxVr hm); (iterate 3 (simp only [push_cast, seval]; rfl)); intro e hm) | ((with_reducible apply O_r); (simp only [push_cast, seval]; rfl); (first | exact trivial | omega)) | ((with_reducible apply O_ldV1r hm); (iterate 2 (simp only [push_cast, seval]; rfl)); (intro _; rfl); intro e hm) | ((with_reducible apply O_strr hm); (iterate 2 (simp only [push_cast, seval]; rfl)); intro hm) | ((with_reducible apply O_and hm); (simp only [push_cast, seval]; rfl); rfl; intro v hm; rotate_left; intro v g hm) | ((with_reducible apply W_condT); (focus (simp only [push_cast, seval]; done))) | ((with_reducible apply W_condF); (focus (simp only [push_cast, seval]; done))) | ((with_reducible apply O_cF hm); (simp only [push_cast, seval]; rfl); (first | apply spec_scheme_Groups _ _ | apply spec_interchangelaw3_awake | apply spec_scheme_Find _ _ | apply spec_slices_Equal_string_string _ _); (any_goals ((repeat' (first | rfl | (with_reducible first | apply fT_Tapi_Branch | apply fT_Tapi_Element | apply fT_Tapi_Segment | apply f_optN | apply f_optS | apply f_some | apply f_tup | apply f_agg | apply f_ptr | apply f_fn | apply dv_slice | apply sv_d | apply f_cons | apply fold_nil | apply fold_cons | apply fold_app | apply f_rowI | apply f_rowY | apply f_rowS | apply f_rowB | apply f_rowL) | (with_reducible apply f_byte; decide))); done)); intro x hm) | ((with_reducible apply O_clS hm); (simp only [push_cast, seval]; rfl); (focus (first | exact spec_scheme_Groups _ _ | exact spec_interchangelaw3_awake | exact spec_scheme_Find _ _ | exact spec_slices_Equal_string_string _ _)); (intro _; rfl); intro x hm) | ((with_reducible apply O_w); (simp only [push_cast, seval]; rfl); (first | exact trivial | omega)) | ((with_reducible apply O_appV hm); (iterate 4 (simp only [push_cast, seval]; rfl)); (focus ((repeat' (first | rfl | (with_reducible first | apply fT_Tapi_Branch | apply fT_Tapi_Element | apply fT_Tapi_Segment | apply f_optN | apply f_optS | apply f_some | apply f_tup | apply f_agg | apply f_ptr | apply f_fn | apply dv_slice | apply sv_d | apply f_cons | apply fold_nil | apply fold_cons | apply fold_app | apply f_rowI | apply f_rowY | apply f_rowS | apply f_rowB | apply f_rowL) | (with_reducible apply f_byte; decide))); done)); decide; (intro _; rfl); intro hm) | ((with_reducible apply O_appN hm); (focus (simp only [push_cast, seval]; done)); (iterate 2 (simp only [push_cast, seval]; rfl)); (focus ((repeat' (first | rfl | (with_reducible first | apply fT_Tapi_Branch | apply fT_Tapi_Element | apply fT_Tapi_Segment | apply f_optN | apply f_optS | apply f_some | apply f_tup | apply f_agg | apply f_ptr | apply f_fn | apply dv_slice | apply sv_d | apply f_cons | apply fold_nil | apply fold_cons | apply fold_app | apply f_rowI | apply f_rowY | apply f_rowS | apply f_rowB | apply f_rowL) | (with_reducible apply f_byte; decide))); done)); decide; (intro _; rfl); intro hm) | ((with_reducible apply S_condB hm); (simp only [push_cast, seval]; rfl); intro hm; rotate_left; intro hm) | ((with_reducible apply K_endS hm); (focus (simp only [resOf, resL, RV.get, push_cast, seval]; rfl)); (focus ((repeat' (first | rfl | (with_reducible first | apply fT_Tapi_Branch | apply fT_Tapi_Element | apply fT_Tapi_Segment | apply f_optN | apply f_optS | apply f_some | apply f_tup | apply f_agg | apply f_ptr | apply f_fn | apply dv_slice | apply sv_d | apply f_cons | apply fold_nil | apply fold_cons | apply fold_app | apply f_rowI | apply f_rowY | apply f_rowS | apply f_rowB | apply f_rowL) | (with_reducible apply f_byte; decide))); done))) | ((with_reducible apply K_bool hm); (simp only [push_cast, seval]; rfl)) | ((with_reducible apply K_leave hm); intro r hm) | ((with_reducible apply K_leaveR hm); intro r hm) | ((apply S_loopY (b := 0) (X := sc_interchangelaw3_SchemePathsAreIn_B1) (x := sc_interchangelaw3_SchemePathsAreIn_L1) rfl (fun (c : SV × SV × SV) (s : (List (List UInt8)) × Int) => st [(2, c.1), (7, c.2.1), (10, c.2.2), (11, .vec 11), (12, .d (.int .i64 s.2))] [(11, .vec 9 1 (vrow rowS s.1))]) (c := (_, _, _)) (s0 := (_, _)) hm); (focus (first | (dsimp only; done) | (dsimp only; rfl) | rfl)); (with_reducible refine Then.mk ?_ ?_); apply Imp.trans; (focus (apply imp_vecnil (slot := 11) (id := 11) (e := 9) (sz := 1); (focus (simp only [push_cast, seval]; done))))) | ((apply K_next (s' := (_, _)) hm); (focus (first | (dsimp only; done) | (dsimp only; rfl) | rfl))) | ((apply K_brk (s' := (_, _)) hm); (focus (first | (dsimp only; done) | (dsimp only; rfl) | rfl))) | (((with_reducible apply K_brkN hm); (focus decide); intro r hm)) | (((with_reducible apply K_brkR hm); intro r hm)) | (((with_reducible apply LoopB.of); (focus (first | (dsimp only; done) | (dsimp only; rfl) | rfl)); (focus ((intro _; repeat' (first | with_reducible exact impC_end | with_reducible exact impC_endF | with_reducible refine impC_seq ?_ | with_reducible refine impC_block ?_ | ((with_reducible refine impC_rnd ?_); intro _) | ((with_reducible refine impC_brk ?_); intro _))))); (intro s o hm; first | unfold sc_interchangelaw3_SchemePathsAreIn_L1); rotate_left; intro s hm)) | (((apply imp_stT; (repeat' (first | with_reducible exact keepT_nil | with_reducible exact keepC_nil | with_reducible apply keepT_cons | with_reducible apply keepC_cons | ((with_reducible apply svle_eq); (focus (first | (simp only [push_cast, seval]; rfl) | rfl)); (focus ((repeat' (first | rfl | (with_reducible first | apply fT_Tapi_Branch | apply fT_Tapi_Element | apply fT_Tapi_Segment | apply f_optN | apply f_optS | apply f_some | apply f_tup | apply f_agg | apply f_ptr | apply f_fn | apply dv_slice | apply sv_d | apply f_cons | apply fold_nil | apply fold_cons | apply fold_app | apply f_rowI | apply f_rowY | apply f_rowS | apply f_rowB | apply f_rowL) | (with_reducible apply f_byte; decide))); done))) | ((with_reducible apply svle_td); (focus (first | (simp only [push_cast, seval]; rfl) | rfl)); (focus (first | (simp only [push_cast, seval]; rfl) | rfl)); (focus ((repeat' (first | rfl | (with_reducible first | apply fT_Tapi_Branch | apply fT_Tapi_Element | apply fT_Tapi_Segment | apply f_optN | apply f_optS | apply f_some | apply f_tup | apply f_agg | apply f_ptr | apply f_fn | apply dv_slice | apply sv_d | apply f_cons | apply fold_nil | apply fold_cons | apply fold_app | apply f_rowI | apply f_rowY | apply f_rowS | apply f_rowB | apply f_rowL) | (with_reducible apply f_byte; decide))); done))) | ((with_reducible apply chle_eq); (focus (first | (simp only [push_cast, seval]; rfl) | rfl)); (first | with_reducible exact chle_rfl rfl | with_reducible exact chle_map0 | with_reducible apply chle_vec | with_reducible apply chle_box)) | (with_reducible first | apply cT_Tapi_Branch | apply cT_Tapi_Element | apply cT_Tapi_Segment | apply r_shS | apply r_shI | apply r_rflO | apply r_oneO | apply r_appO | apply r_nilO | apply c_ownN | apply c_ownL | apply vc_rfl | apply vc_nil | apply vc_cons | apply r_rfl | apply r_rows | apply r_nil | apply r_app | apply r_cons | apply c_rowI | apply c_rowY | apply c_rowS | apply c_rowB | apply c_rowL))); done))))
noncomputable def m_interchangelaw3_SchemePathsAreIn (x0 : List Tapi_Branch) (x1 : List UInt8) (x2 : List UInt8) : Option (Bool) := (sims_G7_7_0 x0 x1 x2).1
theorem spec_interchangelaw3_SchemePathsAreIn (x0 : List Tapi_Branch) (x1 : List UInt8) (x2 : List UInt8) : ∀ r, m_interchangelaw3_SchemePathsAreIn x0 x1 x2 = some r → PureSpec Tryd.prog 3 [.slice (List.map rTapi_Branch x0), .str x1, .str x2] (.bool r) := (sims_G7_7_0 x0 x1 x2).2

end Go.Proofs.YtdkncdkdbddgoaaDoor

/-
  How the parameters of the laws of this seat read, and a world in which the listed tables lie (printed by wip/tool/row.py).
-/
namespace Go.Proofs.YtdkncdkdbddgoaaDoor
open Go.ChangeShapes Go.WideShapes Go.ChangeAt Go.RowKit
set_option linter.unusedSimpArgs false
set_option linter.unusedVariables false
theorem and_t {a b : Bool} (h1 : a = true) (h2 : b = true) : (a && b) = true := by rw [h1, h2]; rfl
/-- How a value of a type reads. -/
def Wt (P : Program) (n : Nat) (t : TypeId) {α : Type} (row : α → List DV) (ok : α → Prop) : Prop := ∀ m ds, WT P (m + n) t ds → ∃ x, ds = row x ∧ ok x
theorem Wt.up {P : Program} {n : Nat} {t : TypeId} {α : Type} {row : α → List DV} {ok : α → Prop} (h : Wt P n t row ok) (k : Nat) : Wt P (n + k) t row ok := fun m ds hd => h (m + k) ds (by rwa [show m + k + n = m + (n + k) by omega])
def okS (s : List UInt8) : Prop := s.length ≤ 9223372036854775807
def okL {α : Type} (ok : α → Prop) (l : List α) : Prop := l.length ≤ 9223372036854775807 ∧ ∀ a ∈ l, ok a
theorem WT_struct {P : Program} {n : Nat} {t : TypeId} {fs : Array Field} {ds : List DV} (hu : P.underlying t = some (.struct fs)) (h : WT P (n + 1) t ds) : WTS (WT P n) fs.toList ds := by
  simp only [WT, hu] at h; exact h
theorem wt_str {P : Program} {t : TypeId} (hu : P.underlying t = some .string) : Wt P 1 t rowS okS := by
  intro m ds h
  simp only [WT, hu] at h
  obtain ⟨b, rfl, hl⟩ := h
  exact ⟨b, rfl, by unfold okS; unfold maxLen at hl; omega⟩
theorem wt_slice {P : Program} {n : Nat} {t e : TypeId} {α : Type} {row : α → List DV} {ok : α → Prop} (hu : P.underlying t = some (.slice e)) (he : Wt P n e row ok) : Wt P (n + 1) t (rowL row) (okL ok) := by
  intro m ds h
  rw [show m + (n + 1) = (m + n) + 1 by omega] at h
  simp only [WT, hu] at h
  obtain ⟨rows, rfl, hl, hr⟩ := h
  have : ∀ rows : List (List DV), (∀ r ∈ rows, WT P (m + n) e r) → ∃ l : List α, rows = l.map row ∧ ∀ a ∈ l, ok a := by
    intro rows
    induction rows with
    | nil => intro _; exact ⟨[], rfl, by simp⟩
    | cons r rows ih =>
      intro h
      obtain ⟨a, rfl, ha⟩ := he m r (h r (by simp))
      obtain ⟨l, rfl, hl⟩ := ih (fun r hr => h r (by simp [hr]))
      exact ⟨a :: l, rfl, by simpa using ⟨ha, hl⟩⟩
  obtain ⟨l, rfl, hok⟩ := this rows hr
  exact ⟨l, rfl, by unfold maxLen at hl; simp at hl; omega, hok⟩
theorem ownK : ownKnob Tryd.prog.godebug = none := by kernel_rfl
theorem laidOut : laidOutB Tryd.prog = true := by kernel_rfl
/-- How a value of a type reads, at every depth. -/
def WtR (P : Program) (t : TypeId) {α : Type} (row : α → List DV) (ok : α → Prop) : Prop := ∀ m ds, WT P m t ds → ∃ x, ds = row x ∧ ok x
theorem Wt.all {P : Program} {n : Nat} {t : TypeId} {α : Type} {row : α → List DV} {ok : α → Prop} (h : Wt P n t row ok) : WtR P t row ok := fun m ds hw => h m ds (WT_mono (by omega) hw)
theorem wr_rows {P : Program} {e : TypeId} {α : Type} {row : α → List DV} {ok : α → Prop} {m : Nat} (he : ∀ r, WT P m e r → ∃ x, r = row x ∧ ok x) : ∀ rows : List (List DV), (∀ r ∈ rows, WT P m e r) → ∃ l : List α, rows = l.map row ∧ ∀ a ∈ l, ok a
  | [], _ => ⟨[], rfl, by simp⟩
  | r :: rows, h => by
    obtain ⟨a, rfl, ha⟩ := he r (h r (by simp))
    obtain ⟨l, rfl, hl⟩ := wr_rows he rows (fun r hr => h r (by simp [hr]))
    exact ⟨a :: l, rfl, by simpa using ⟨ha, hl⟩⟩
theorem wr_kids {P : Program} {t e : TypeId} {α : Type} {row : α → List DV} {ok : α → Prop} {m : Nat} {ds : List DV} (hu : P.underlying t = some (.slice e)) (he : ∀ r m', m' ≤ m → WT P m' e r → ∃ x, r = row x ∧ ok x) (h : WT P m t ds) :
    ∃ l : List α, ds = rowL row l ∧ l.length ≤ 9223372036854775807 ∧ ∀ a ∈ l, ok a := by
  cases m with
  | zero => simp [WT] at h
  | succ m =>
    simp only [WT, hu] at h
    obtain ⟨rows, rfl, hl, hr⟩ := h
    obtain ⟨l, rfl, hok⟩ := wr_rows (fun r hw => he r m (by omega) hw) rows hr
    exact ⟨l, rfl, by unfold maxLen at hl; simp at hl; omega, hok⟩
theorem wr_slice {P : Program} {t e : TypeId} {α : Type} {row : α → List DV} {ok : α → Prop} (hu : P.underlying t = some (.slice e)) (he : WtR P e row ok) : WtR P t (rowL row) (okL ok) := fun m ds h => by
  obtain ⟨l, h1, h2, h3⟩ := wr_kids hu (fun r m' _ hw => he m' r hw) h
  exact ⟨l, h1, h2, h3⟩
theorem wt9 : Wt Tryd.prog 1 9 rowS okS := wt_str Tryd.underlying9
theorem wt28 : Wt Tryd.prog 2 28 (rowL rowS) (okL okS) := wt_slice Tryd.underlying28 wt9
theorem wt62 : Wt Tryd.prog 3 62 (rowL (rowL rowS)) (okL (okL okS)) := wt_slice Tryd.underlying62 wt28
def okTapi_Element (x : Tapi_Element) : Prop := (okL (okL okS)) x.fRepeats
set_option maxRecDepth 100000 in
theorem wt64 : Wt Tryd.prog 4 64 rTapi_Element okTapi_Element := by
  intro m ds h
  have h := WT_struct Tryd.underlying64 h
  simp only [WTS] at h
  obtain ⟨a0, _, rfl, h0, rfl⟩ := h
  obtain ⟨x0, rfl, o0⟩ := (wt62.up 0) m _ h0
  refine ⟨⟨x0⟩, ?_, o0⟩
  simp only [rTapi_Element, rowI, rowY, rowS, rowB, rowL, List.append_assoc, List.cons_append, List.nil_append, List.append_nil]
theorem wt37 : Wt Tryd.prog 5 37 (rowL rTapi_Element) (okL okTapi_Element) := wt_slice Tryd.underlying37 wt64
def okTapi_Segment (x : Tapi_Segment) : Prop := okS x.fTag ∧ (okL okTapi_Element) x.fElements
set_option maxRecDepth 100000 in
theorem wt39 : Wt Tryd.prog 6 39 rTapi_Segment okTapi_Segment := by
  intro m ds h
  have h := WT_struct Tryd.underlying39 h
  simp only [WTS] at h
  obtain ⟨a0, _, rfl, h0, a1, _, rfl, h1, rfl⟩ := h
  obtain ⟨x0, rfl, o0⟩ := (wt9.up 4) m _ h0
  obtain ⟨x1, rfl, o1⟩ := (wt37.up 0) m _ h1
  refine ⟨⟨x0, x1⟩, ?_, o0, o1⟩
  simp only [rTapi_Segment, rowI, rowY, rowS, rowB, rowL, List.append_assoc, List.cons_append, List.nil_append, List.append_nil]
inductive okTapi_Branch : Tapi_Branch → Prop
  | mk {x : Tapi_Branch} : okS x.fName → okTapi_Segment x.fSegment → x.fKids.length ≤ 9223372036854775807 → (∀ a ∈ x.fKids, okTapi_Branch a) → okTapi_Branch x
set_option maxRecDepth 100000 in
theorem wrS41 : ∀ n m, m ≤ n → ∀ ds, WT Tryd.prog m 41 ds → ∃ x : Tapi_Branch, ds = rTapi_Branch x ∧ okTapi_Branch x
  | n, 0, _, ds, h => by simp [WT] at h
  | 0, m + 1, hm, ds, h => by omega
  | n + 1, m + 1, hm, ds, h => by
    have h := WT_struct Tryd.underlying41 h
    simp only [WTS] at h
    obtain ⟨a0, _, rfl, h0, a1, _, rfl, h1, a2, _, rfl, h2, rfl⟩ := h
    obtain ⟨x0, rfl, o0⟩ := wt9.all m _ h0
    obtain ⟨x1, rfl, o1⟩ := wt39.all m _ h1
    obtain ⟨x2, rfl, o2, q2⟩ := wr_kids Tryd.underlying22 (fun r m' hr hw => wrS41 n m' (by omega) r hw) h2
    refine ⟨⟨x0, x1, x2⟩, ?_, .mk o0 o1 o2 q2⟩
    rw [rTapi_Branch_eq]; simp only [rowI, rowY, rowS, rowB, rowL, List.append_assoc, List.cons_append, List.nil_append, List.append_nil]
theorem wr41 : WtR Tryd.prog 41 rTapi_Branch okTapi_Branch := fun m ds h => wrS41 m m (Nat.le_refl _) ds h
theorem wr22 : WtR Tryd.prog 22 (rowL rTapi_Branch) (okL okTapi_Branch) := wr_slice Tryd.underlying22 wr41
def layVals : Nat → DataW Unit → List Value
  | 0, _ => []
  | _ + 1, .lit (.int k n) => [.int k n]
  | n + 1, .agg ps => ps.flatMap (layVals n)
  | _ + 1, _ => []
/-- The settled world, with the listed tables in it. -/
def layCells (l : List Value) : Obj → Obj
  | .cells _ t frozen => .cells l.toArray t frozen
  | o => o
noncomputable def lowWorld : Nat := (World.holding Tryd.prog default ⟨#[], #[], []⟩).heap.size
noncomputable def laidWorld (os : Os) : World :=
  { World.holding Tryd.prog os ⟨#[], #[], []⟩ with
    heap := ((((((((World.holding Tryd.prog os ⟨#[.cells #[.string ⟨#[118, 97, 108, 117, 101, 32, 111, 117, 116, 32, 111, 102, 32, 114, 97, 110, 103, 101]⟩] 130, .cells #[.string ⟨#[105, 110, 118, 97, 108, 105, 100, 32, 115, 121, 110, 116, 97, 120]⟩] 130], #[], []⟩).heap.modify 6 (layCells (layVals 5 Rows.laid_math_bits_deBruijn32tab))).modify 7 (layCells (layVals 5 Rows.laid_math_bits_deBruijn64tab))).modify 5 (layCells (layVals 5 Rows.laid_internal_strconv_uint64pow10))).modify 4 (layCells (layVals 5 Rows.laid_unicode_utf8_acceptRanges))).modify 2 (layCells [.iface 128 (.pointer (some ⟨lowWorld + 0, 0, none⟩))])).modify 1 (layCells [.iface 128 (.pointer (some ⟨lowWorld + 1, 0, none⟩))])).modify 3 (layCells (layVals 5 Rows.laid_unicode_utf8_first))) }
end Go.Proofs.YtdkncdkdbddgoaaDoor

/- Imports alone. -/


/- Imports alone. -/


/-
  Plain laws: small computations, and loops whose rounds are known.
-/
namespace Go.Proofs.YtdkncdkdbddgoaaDoor
set_option linter.unusedSimpArgs false
set_option linter.unusedVariables false
open Go.RowKit

/-! ### Small computations that cannot fail -/
theorem andO_some (a b : Bool) : andO a (some b) = some (a && b) := by cases a <;> rfl
theorem orO_some (a b : Bool) : orO a (some b) = some (a || b) := by cases a <;> rfl
theorem getI_nat {α : Type} (l : List α) (i : Nat) : getI l (i : Int) = l[i]? := by simp [getI]
theorem thenO_some {R : Type} {c : Option Unit} {m : Option R} (h : c = some ()) : thenO c m = m := by rw [h]; rfl
theorem lenO_ok {n : Nat} (h : n ≤ 137438953472) : lenO n = some () := by simp [lenO, h]
theorem wrapN (i : Nat) (h : i < 9223372036854775807) : IntKind.i64.wrap ((i : Int) + 1) = ((i + 1 : Nat) : Int) := by rw [wrap64 _ (by omega) (by omega)]; simp


/-! ### Loops whose rounds are known -/
theorem loop_trace {S A : Type} {f : S → Option (S ⊕ A)} {a : A} (st : Nat → S) (n : Nat) (hs : ∀ i, i < n → f (st i) = some (.inl (st (i + 1)))) (he : f (st n) = some (.inr a)) : loopC f (st 0) = some a := by
  have : ∀ k, k ≤ n → loopC f (st (n - k)) = some a := by
    intro k
    induction k with
    | zero => intro _; rw [loopC_eq, Nat.sub_zero, he]
    | succ k ih =>
      intro hk
      rw [loopC_eq, hs (n - (k + 1)) (by omega), show n - (k + 1) + 1 = n - k by omega]
      exact ih (by omega)
  have := this n (Nat.le_refl n)
  rwa [Nat.sub_self] at this
theorem bind_loop {S A R : Type} {f : S → Option (S ⊕ A)} {s0 : S} {k : A → Option R} {a : A} {r : Option R} (h : loopC f s0 = some a) (hk : k a = r) : (loopC f s0).bind k = r := by rw [h]; exact hk
/-- The first that there is. -/
def firstS {A : Type} (g : Nat → Option A) : Nat → Nat → Option A
  | _, 0 => none
  | i, n + 1 => match g i with
    | some a => some a
    | none => firstS g (i + 1) n
theorem firstS_skip {A : Type} {g : Nat → Option A} : ∀ (i n k : Nat), k ≤ n → (∀ j, i ≤ j → j < i + k → g j = none) → firstS g i n = firstS g (i + k) (n - k)
  | i, n, 0, _, _ => by simp
  | i, 0, k + 1, h, _ => by omega
  | i, n + 1, k + 1, h, hz => by
    have h1 := hz i (by omega) (by omega)
    simp only [firstS, h1]
    rw [firstS_skip (i + 1) n k (by omega) (fun j hj hj' => hz j (by omega) (by omega))]
    congr 1 <;> omega
theorem firstS_none {A : Type} {g : Nat → Option A} {n : Nat} (h : ∀ j, j < n → g j = none) : firstS g 0 n = none := by
  rw [firstS_skip 0 n n (by omega) (fun j _ hj => h j (by omega)), Nat.sub_self]; rfl
theorem firstS_some {A : Type} {g : Nat → Option A} {n k : Nat} {a : A} (hk : k < n) (hb : ∀ j, j < k → g j = none) (ha : g k = some a) : firstS g 0 n = some a := by
  rw [firstS_skip 0 n k (by omega) (fun j _ hj => hb j (by omega))]
  obtain ⟨m, hm⟩ : ∃ m, n - k = m + 1 := ⟨n - k - 1, by omega⟩
  rw [hm, Nat.zero_add]
  simp only [firstS, ha]
theorem firstS_cases {A : Type} (g : Nat → Option A) (n : Nat) : (firstS g 0 n = none ∧ ∀ j, j < n → g j = none) ∨ ∃ k a, k < n ∧ (∀ j, j < k → g j = none) ∧ g k = some a ∧ firstS g 0 n = some a := by
  by_cases h : ∃ k, k < n ∧ (g k).isSome = true
  · have : ∃ k, (k < n ∧ (g k).isSome = true) ∧ ∀ j, j < k → ¬ (j < n ∧ (g j).isSome = true) := by
      obtain ⟨k, hk⟩ := h
      induction k using Nat.strongRecOn with
      | _ k ih =>
        by_cases hj : ∃ j, j < k ∧ (j < n ∧ (g j).isSome = true)
        · obtain ⟨j, h1, h2⟩ := hj; exact ih j h1 h2
        · exact ⟨k, hk, fun j h1 h2 => hj ⟨j, h1, h2⟩⟩
    obtain ⟨k, ⟨h1, h2⟩, h3⟩ := this
    obtain ⟨a, ha⟩ := Option.isSome_iff_exists.1 h2
    have hb : ∀ j, j < k → g j = none := fun j hj => by
      have := h3 j hj
      cases hg : g j with
      | none => rfl
      | some b => exact absurd ⟨by omega, by simp [hg]⟩ this
    exact .inr ⟨k, a, h1, hb, ha, firstS_some h1 hb ha⟩
  · have hn : ∀ j, j < n → g j = none := fun j hj => by
      cases hg : g j with
      | none => rfl
      | some b => exact absurd ⟨j, hj, by simp [hg]⟩ h
    exact .inl ⟨firstS_none hn, hn⟩
theorem loop_first {S A : Type} {f : S → Option (S ⊕ A)} {z : A} (st : Nat → S) (n : Nat) (g : Nat → Option A) (hs : ∀ i, i < n → g i = none → f (st i) = some (.inl (st (i + 1)))) (hx : ∀ i a, i < n → g i = some a → f (st i) = some (.inr a)) (he : f (st n) = some (.inr z)) : loopC f (st 0) = some ((firstS g 0 n).getD z) := by
  rcases firstS_cases g n with ⟨h1, h2⟩ | ⟨k, a, h1, h2, h3, h4⟩
  · rw [h1, Option.getD_none]
    exact loop_trace st n (fun i hi => hs i hi (h2 i hi)) he
  · rw [h4, Option.getD_some]
    exact loop_trace st k (fun i hi => hs i (by omega) (h2 i hi)) (hx k a h1 h3)
theorem take_snoc {α : Type} {l : List α} {i : Nat} {e : α} (h : l[i]? = some e) : l.take (i + 1) = l.take i ++ [e] := by rw [List.take_add_one, h]; rfl
theorem get_lt {α : Type} {l : List α} {i : Nat} (h : i < l.length) : ∃ e, l[i]? = some e := ⟨_, List.getElem?_eq_getElem h⟩
theorem lt_dec {i n : Nat} (h : i < n) : decide ((i : Int) < (n : Int)) = true := by simpa using h
theorem lt_dec_self (n : Nat) : decide ((n : Int) < (n : Int)) = false := by simp
end Go.Proofs.YtdkncdkdbddgoaaDoor

/-
  Plain laws of the wire: marks.
-/
namespace Go.Proofs.YtdkncdkdbddgoaaDoor
set_option linter.unusedSimpArgs false
set_option linter.unusedVariables false
open Go.RowKit

/-- A loop over a list that ends at the first element of which h says something. -/
theorem loop_find {α R : Type} (l : List α) (h : α → Option R) {f : Int → Option (Int ⊕ (Int ⊕ R))} (hb : ∀ (i : Nat) (e : α), l[i]? = some e → f (i : Int) = (match h e with | some a => some (.inr (.inr a)) | none => some (.inl ((i + 1 : Nat) : Int))))
    (he : f (l.length : Int) = some (.inr (.inl (l.length : Int)))) : loopC f 0 = some (match l.findSome? h with | some a => .inr a | none => .inl (l.length : Int)) := by
  have : ∀ (t : List α) (i : Nat), l.drop i = t → i ≤ l.length → loopC f (i : Int) = some (match t.findSome? h with | some a => .inr a | none => .inl (l.length : Int)) := by
    intro t
    induction t with
    | nil =>
      intro i hd hi
      have : i = l.length := by have := congrArg List.length hd; simp at this; omega
      subst this
      rw [loopC_eq, he]
      rfl
    | cons e t ih =>
      intro i hd hi
      have h1 : l[i]? = some e := by
        have := congrArg (fun q => q[0]?) hd
        simpa using this
      have h2 : i < l.length := by
        rcases Nat.lt_or_ge i l.length with h | h
        · exact h
        · rw [List.drop_eq_nil_of_le h] at hd; cases hd
      have h3 : l.drop (i + 1) = t := by
        have := congrArg List.tail hd
        simpa using this
      rw [loopC_eq, hb i e h1, List.findSome?_cons]
      cases h e with
      | some a => rfl
      | none => exact ih (i + 1) h3 h2
  exact this l 0 rfl (Nat.zero_le _)
theorem inBytes_eq (l : List UInt8) (lo hi : UInt8) (hl : l.length < 9223372036854775807) : m_kit_InBytes l lo hi = some (match l.findSome? fun x => if (decide ((x.toNat : Int) < (lo.toNat : Int)) || decide ((hi.toNat : Int) < (x.toNat : Int))) = true then some false else none with | some b => b | none => true) := by
  unfold m_kit_InBytes sims_G6_0_0; dsimp only
  refine bind_loop (loop_find l (fun x => if (decide ((x.toNat : Int) < (lo.toNat : Int)) || decide ((hi.toNat : Int) < (x.toNat : Int))) = true then some false else none) (fun i e h => ?_) ?_) ?_
  · obtain ⟨hi', -⟩ := List.getElem?_eq_some_iff.1 h
    simp only [lt_dec hi', cond_true, getI_nat, h, Option.bind_some, orO_some, wrapN i (by omega)]
    cases (decide ((e.toNat : Int) < (lo.toNat : Int)) || decide ((hi.toNat : Int) < (e.toNat : Int))) <;> rfl
  · simp only [lt_dec_self, cond_false]; rfl
  · cases l.findSome? _ <;> rfl
end Go.Proofs.YtdkncdkdbddgoaaDoor

/-
  Plain laws of the wire: a byte that may be a mark.
-/
namespace Go.Proofs.YtdkncdkdbddgoaaDoor
set_option linter.unusedSimpArgs false
set_option linter.unusedVariables false
open Go.RowKit

def tagSet : List UInt8 := [65, 66, 67, 68, 69, 70, 71, 72, 73, 74, 75, 76, 77, 78, 79, 80, 81, 82, 83, 84, 85, 86, 87, 88, 89, 90, 48, 49, 50, 51, 52, 53, 54, 55, 56, 57]
theorem isTagPart_eq (l : List UInt8) (hl : l.length ≤ 9223372036854775807) : m_kit_IsTagPart l = some (decide (Lib.trimS l tagSet = [])) := by
  unfold m_kit_IsTagPart sims_G6_0_0; dsimp only
  have : m_strings_Trim l tagSet = some (Lib.trimS l tagSet) := by unfold m_strings_Trim; rw [if_pos ⟨hl, by decide, by decide⟩]
  simp only [tagSet] at this ⊢
  rw [this]
  rfl
end Go.Proofs.YtdkncdkdbddgoaaDoor

/-
  Plain laws of the wire: texts.
-/
namespace Go.Proofs.YtdkncdkdbddgoaaDoor
set_option linter.unusedSimpArgs false
set_option linter.unusedVariables false
open Go.RowKit

def badT (x : UInt8) : Bool := decide ((x.toNat : Int) < 32) || decide (126 < (x.toNat : Int))
def textF (t : List UInt8) : Int := if 1000 < t.length then 2 else match t.findSome? (fun x => if badT x = true then some (3 : Int) else none) with | some a => a | none => 0
theorem findSome_congr2 {α A B : Type} (p : α → Bool) (a : A) (b : B) : ∀ (l : List α), (l.findSome? (fun x => if p x = true then some a else none) = none ∧ l.findSome? (fun x => if p x = true then some b else none) = none) ∨ (l.findSome? (fun x => if p x = true then some a else none) = some a ∧ l.findSome? (fun x => if p x = true then some b else none) = some b)
  | [] => .inl ⟨rfl, rfl⟩
  | x :: l => by
    rw [List.findSome?_cons, List.findSome?_cons]
    cases h : p x with
    | true => exact .inr ⟨by simp, by simp⟩
    | false => simpa using findSome_congr2 p a b l
theorem w_text (t : List UInt8) : m_wire_textFault t = some (textF t) := by
  unfold m_wire_textFault sims_G6_2_0; dsimp only
  unfold textF
  by_cases h : 1000 < t.length
  · have : decide ((1000 : Int) < (t.length : Int)) = true := by simp; omega
    simp only [this, cond_true, h, if_true]
  · have h1 : decide ((1000 : Int) < (t.length : Int)) = false := by simp; omega
    have h2 : decide ((t.length : Int) ≤ 1000) = true := by simp; omega
    have hT : m_kit_IsText t = some (match t.findSome? fun x => if badT x = true then some false else none with | some b => b | none => true) := by
      unfold m_kit_IsText sims_G6_1_0; dsimp only
      simp only [h2, inBytes_eq t _ _ (by omega), andO_some, Option.bind_some, Bool.true_and]
      rfl
    simp only [h1, cond_false, h, if_false, hT, Option.bind_some]
    rcases findSome_congr2 badT (3 : Int) false t with ⟨e1, e2⟩ | ⟨e1, e2⟩ <;> rw [e1, e2] <;> rfl
end Go.Proofs.YtdkncdkdbddgoaaDoor

/-
  Plain laws: loops over lists with a state and an early end; folds over nested lists.
-/
namespace Go.Proofs.YtdkncdkdbddgoaaDoor
set_option linter.unusedSimpArgs false
set_option linter.unusedVariables false
open Go.RowKit

theorem drop_head {α : Type} {l t : List α} {e : α} {i : Nat} (hd : l.drop i = e :: t) : l[i]? = some e ∧ i < l.length ∧ l.drop (i + 1) = t := by
  refine ⟨?_, ?_, ?_⟩
  · have := congrArg (fun q => q[0]?) hd
    simpa using this
  · rcases Nat.lt_or_ge i l.length with h | h
    · exact h
    · rw [List.drop_eq_nil_of_le h] at hd; cases hd
  · have := congrArg List.tail hd
    simpa using this
theorem drop_nil_len {α : Type} {l : List α} {i : Nat} (hd : l.drop i = []) (hi : i ≤ l.length) : i = l.length := by
  have := congrArg List.length hd; simp at this; omega
/-- A loop over a list whose state before each round is known from what is before. -/
theorem loop_pre {α T A : Type} (l : List α) (st : Nat → List α → T) {f : T → Option (T ⊕ A)} {a : A}
    (hb : ∀ (i : Nat) (e : α), l[i]? = some e → f (st i (l.take i)) = some (.inl (st (i + 1) (l.take i ++ [e]))))
    (he : f (st l.length l) = some (.inr a)) : loopC f (st 0 []) = some a := by
  have := loop_trace (f := f) (a := a) (fun i => st i (l.take i)) l.length (fun i hi => by
    obtain ⟨e, h⟩ := get_lt hi
    show f (st i (l.take i)) = some (.inl (st (i + 1) (l.take (i + 1))))
    rw [hb i e h, take_snoc h]) (by
    show f (st l.length (l.take l.length)) = _
    rw [List.take_length]; exact he)
  simpa using this
theorem get_le {α : Type} {l : List α} {i : Nat} {e : α} (h : l[i]? = some e) : i < l.length := (List.getElem?_eq_some_iff.1 h).1
end Go.Proofs.YtdkncdkdbddgoaaDoor

/-
  Plain laws of the wire: tags, elements, segments.
-/
namespace Go.Proofs.YtdkncdkdbddgoaaDoor
set_option linter.unusedSimpArgs false
set_option linter.unusedVariables false
open Go.RowKit

/-- The first fault of a list. -/
def listF {α : Type} (h : α → Int) : List α → Int
  | [] => 0
  | e :: l => if h e = 0 then listF h l else h e
theorem loop_fault {α R : Type} (l : List α) (h : α → Int) (ret : Int → R) (k : Int → Option R) {f : Int → Option (Int ⊕ (Int ⊕ R))}
    (hb : ∀ (i : Nat) (e : α), l[i]? = some e → f (i : Int) = if h e = 0 then some (.inl ((i + 1 : Nat) : Int)) else some (.inr (.inr (ret (h e)))))
    (he : f (l.length : Int) = some (.inr (.inl (l.length : Int)))) : (loopC f 0).bind (outK k) = if listF h l = 0 then k (l.length : Int) else some (ret (listF h l)) := by
  have : ∀ (t : List α) (i : Nat), l.drop i = t → i ≤ l.length → loopC f (i : Int) = if listF h t = 0 then some (.inl (l.length : Int)) else some (.inr (ret (listF h t))) := by
    intro t
    induction t with
    | nil =>
      intro i hd hi
      have := drop_nil_len hd hi
      subst this
      rw [loopC_eq, he]
      rfl
    | cons e t ih =>
      intro i hd hi
      obtain ⟨h1, h2, h3⟩ := drop_head hd
      rw [loopC_eq, hb i e h1]
      by_cases h0 : h e = 0
      · simp only [listF, h0, if_true]; exact ih (i + 1) h3 h2
      · simp only [listF, h0, if_false]
  have e0 : loopC f 0 = if listF h l = 0 then some (.inl (l.length : Int)) else some (.inr (ret (listF h l))) := this l 0 rfl (Nat.zero_le _)
  rw [e0]
  by_cases h0 : listF h l = 0
  · rw [if_pos h0, if_pos h0]; rfl
  · rw [if_neg h0, if_neg h0]; rfl
theorem listF_zero {α : Type} {h : α → Int} : ∀ {l : List α}, listF h l = 0 → ∀ e ∈ l, h e = 0
  | [], _, e, he => by cases he
  | x :: l, hl, e, he => by
    simp only [listF] at hl
    split at hl
    · rename_i h0
      rcases List.mem_cons.1 he with rfl | he
      · exact h0
      · exact listF_zero hl e he
    · rename_i h0; exact absurd hl h0

/-! ### Elements -/
def repF (l : List (List UInt8)) : Int := if l.length = 0 then 9 else if 20 < l.length then 2 else listF textF l
def elemF (e : Tapi_Element) : Int := if e.fRepeats.length = 0 then 9 else if 20 < e.fRepeats.length then 2 else listF repF e.fRepeats
theorem w_elem (e : Tapi_Element) : m_wire_elementFault e = some (elemF e) := by
  unfold m_wire_elementFault sims_G6_3_0; dsimp only
  unfold elemF
  by_cases h0 : e.fRepeats.length = 0
  · have c : decide ((e.fRepeats.length : Int) = 0) = true := decide_eq_true (by omega)
    simp only [c, cond_true, if_pos h0]
  · have d0 : decide ((e.fRepeats.length : Int) = 0) = false := decide_eq_false (by omega)
    by_cases h1 : 20 < e.fRepeats.length
    · have d1 : decide ((20 : Int) < (e.fRepeats.length : Int)) = true := decide_eq_true (by omega)
      simp only [d0, d1, cond_true, cond_false, h0, h1, if_true, if_false]
    · have d1 : decide ((20 : Int) < (e.fRepeats.length : Int)) = false := decide_eq_false (by omega)
      simp only [d0, d1, cond_false, h0, h1, if_false]
      refine (loop_fault e.fRepeats repF (fun a => a) _ (fun i l he => ?_) ?_).trans ?_
      · have hi := get_le he
        simp only [lt_dec hi, cond_true, getI_nat, he, Option.bind_some, wrapN i (by omega), repF]
        by_cases g0 : l.length = 0
        · have c0 : decide ((l.length : Int) = 0) = true := decide_eq_true (by omega)
          simp only [c0, cond_true, if_pos g0]; rfl
        · have c0 : decide ((l.length : Int) = 0) = false := decide_eq_false (by omega)
          by_cases g1 : 20 < l.length
          · have c1 : decide ((20 : Int) < (l.length : Int)) = true := decide_eq_true (by omega)
            simp only [c0, c1, cond_true, cond_false, g0, g1, if_true, if_false]; rfl
          · have c1 : decide ((20 : Int) < (l.length : Int)) = false := decide_eq_false (by omega)
            simp only [c0, c1, cond_false, g0, g1, if_false]
            refine (loop_fault l textF (fun a => .inr (.inr a)) _ (fun j t ht => ?_) ?_).trans ?_
            · have hj := get_le ht
              simp only [lt_dec hj, cond_true, getI_nat, he, ht, Option.bind_some, wrapN j (by omega), w_text]
              by_cases hz : textF t = 0 <;> simp [hz, inrO]
            · simp only [getI_nat, he, Option.bind_some, lt_dec_self, cond_false]; rfl
            · split <;> rfl
      · simp only [lt_dec_self, cond_false]; rfl
      · split <;> simp_all
/-! ### Tags -/
theorem dropWhile_nil {p : UInt8 → Bool} : ∀ {l : List UInt8}, l.dropWhile p = [] ↔ ∀ x ∈ l, p x = true
  | [] => by simp
  | a :: l => by
    rw [List.dropWhile_cons]
    by_cases h : p a = true
    · simp [h, dropWhile_nil (l := l)]
    · simp [h]
theorem dropWhile_head {p : UInt8 → Bool} {a : UInt8} {r : List UInt8} : ∀ {l : List UInt8}, l.dropWhile p = a :: r → p a = false
  | [], h => by simp at h
  | b :: l, h => by
    rw [List.dropWhile_cons] at h
    by_cases hp : p b = true
    · simp only [hp, if_true] at h; exact dropWhile_head h
    · simp only [hp] at h
      simp at h; rw [← h.1]; simpa using hp
theorem trim_nil (l cs : List UInt8) : Lib.trimS l cs = [] ↔ ∀ x ∈ l, cs.contains x = true := by
  unfold Lib.trimS Lib.trimLeftS Lib.trimRightS
  constructor
  · intro h
    have h1 : List.dropWhile (fun x => cs.contains x) l.reverse = [] := by
      cases hr : List.dropWhile (fun x => cs.contains x) l.reverse with
      | nil => rfl
      | cons a r =>
        exfalso
        have h2 := dropWhile_head hr
        rw [hr, dropWhile_nil] at h
        have h3 := h a (by simp)
        rw [h2] at h3; cases h3
    rw [dropWhile_nil] at h1
    intro x hx
    exact h1 x (by simpa using hx)
  · intro h
    have h1 : List.dropWhile (fun x => cs.contains x) l.reverse = [] := dropWhile_nil.2 fun x hx => h x (by simpa using hx)
    rw [h1]; rfl
def letB (b : UInt8) : Bool := decide (65 ≤ (b.toNat : Int)) && decide ((b.toNat : Int) ≤ 90)
def tagB (b : UInt8) : Bool := letB b || !(decide ((b.toNat : Int) < 48) || decide (57 < (b.toNat : Int)))
theorem tagB_all : (List.range 256).all (fun n => tagSet.contains (UInt8.ofNat n) == tagB (UInt8.ofNat n)) = true := by kernel_rfl
theorem tagB_eq (b : UInt8) : tagSet.contains b = tagB b := by
  have := List.all_eq_true.1 tagB_all b.toNat (List.mem_range.2 b.toNat_lt)
  have hb : UInt8.ofNat b.toNat = b := by simp
  rw [hb] at this
  simpa using this
def upper : List UInt8 := [65, 66, 67, 68, 69, 70, 71, 72, 73, 74, 75, 76, 77, 78, 79, 80, 81, 82, 83, 84, 85, 86, 87, 88, 89, 90]
theorem letB_all : (List.range 256).all (fun n => decide (0 ≤ Lib.indexByte upper (UInt8.ofNat n)) == letB (UInt8.ofNat n)) = true := by kernel_rfl
theorem letB_eq (b : UInt8) : decide (0 ≤ Lib.indexByte upper b) = letB b := by
  have := List.all_eq_true.1 letB_all b.toNat (List.mem_range.2 b.toNat_lt)
  have hb : UInt8.ofNat b.toNat = b := by simp
  rw [hb] at this
  simpa using this
theorem trim_tag (l : List UInt8) : decide (Lib.trimS l tagSet = []) = l.all tagB := by
  rw [Bool.eq_iff_iff, decide_eq_true_eq, trim_nil, List.all_eq_true]
  simp only [tagB_eq]
/-- A tag. -/
def tagF : List UInt8 → Bool
  | [] => false
  | b :: l => decide (1 ≤ l.length) && decide (l.length ≤ 5) && letB b && l.all tagB
theorem w_tag (l : List UInt8) (hl : l.length ≤ 9223372036854775807) : m_kit_IsTag l = some (tagF l) := by
  unfold m_kit_IsTag sims_G6_1_0; dsimp only
  cases l with
  | nil => rfl
  | cons b l =>
    have hg : getI (b :: l) 0 = some b := rfl
    have hi : m_strings_IndexByte upper b = some (Lib.indexByte upper b) := rfl
    have hu : ([65, 66, 67, 68, 69, 70, 71, 72, 73, 74, 75, 76, 77, 78, 79, 80, 81, 82, 83, 84, 85, 86, 87, 88, 89, 90] : List UInt8) = upper := rfl
    simp only [isTagPart_eq (b :: l) hl, trim_tag, hg, hu, hi, Option.bind_some, andO_some, letB_eq, tagF]
    have h1 : decide ((2 : Int) ≤ ((b :: l).length : Int)) = decide (1 ≤ l.length) := by simp only [List.length_cons]; congr 1; apply propext; omega
    have h2 : decide (((b :: l).length : Int) ≤ 6) = decide (l.length ≤ 5) := by simp only [List.length_cons]; congr 1; apply propext; omega
    rw [h1, h2]
    cases hb : letB b with
    | false => simp
    | true => simp [tagB, hb]
/-! ### Segments -/
def segF (s : Tapi_Segment) : Int := if tagF s.fTag = false then 5 else if 50 < s.fElements.length then 2 else listF elemF s.fElements
def segsF (l : List Tapi_Segment) : Int := if 2000 < l.length then 2 else listF segF l
/-- The strings that any machine has. -/
def TagsShort (l : List Tapi_Segment) : Prop := ∀ s ∈ l, s.fTag.length ≤ 9223372036854775807
theorem w_segs (l : List Tapi_Segment) (hs : TagsShort l) : m_wire_CheckSegments l = some (segsF l) := by
  unfold m_wire_CheckSegments sims_G6_4_0; dsimp only
  unfold segsF
  by_cases h1 : 2000 < l.length
  · have d1 : decide ((2000 : Int) < (l.length : Int)) = true := decide_eq_true (by omega)
    simp only [d1, cond_true, h1, if_true]
  · have d1 : decide ((2000 : Int) < (l.length : Int)) = false := decide_eq_false (by omega)
    simp only [d1, cond_false, h1, if_false]
    refine (loop_fault l segF (fun a => a) _ (fun i s hes => ?_) ?_).trans ?_
    · have hi := get_le hes
      have hst := hs s (List.mem_of_getElem? hes)
      simp only [lt_dec hi, cond_true, getI_nat, hes, Option.bind_some, wrapN i (by omega), w_tag s.fTag (by omega), segF]
      by_cases ht : tagF s.fTag = false
      · simp [ht, inrO]
      · replace ht : tagF s.fTag = true := by simpa using ht
        simp only [ht, Bool.not_true, cond_false, Bool.true_eq_false, if_false]
        by_cases h1 : 50 < s.fElements.length
        · have d1 : decide ((50 : Int) < (s.fElements.length : Int)) = true := decide_eq_true (by omega)
          simp only [d1, cond_true, h1, if_true]; rfl
        · have d1 : decide ((50 : Int) < (s.fElements.length : Int)) = false := decide_eq_false (by omega)
          simp only [d1, cond_false, h1, if_false]
          refine (loop_fault s.fElements elemF (fun a => .inr (.inr a)) _ (fun i e he => ?_) ?_).trans ?_
          · have hi := get_le he
            simp only [lt_dec hi, cond_true, getI_nat, he, Option.bind_some, wrapN i (by omega), w_elem]
            by_cases hz : elemF e = 0 <;> simp [hz, inrO]
          · simp only [lt_dec_self, cond_false]; rfl
          · split <;> rfl
    · simp only [lt_dec_self, cond_false]; rfl
    · split <;> simp_all
end Go.Proofs.YtdkncdkdbddgoaaDoor

/- Imports alone. -/


/-
  Plain laws: numbers, references, and the checks of a book.
-/
namespace Go.Proofs.YtdkncdkdbddgoaaDoor
set_option linter.unusedSimpArgs false
set_option linter.unusedVariables false
open Go.RowKit

def outside (n lo hi : Int) : Bool := decide (n < lo) || decide (hi < n)
/-! ### References -/
end Go.Proofs.YtdkncdkdbddgoaaDoor

/-
  Plain laws: the checks of a book.
-/
namespace Go.Proofs.YtdkncdkdbddgoaaDoor
set_option linter.unusedSimpArgs false
set_option linter.unusedVariables false
open Go.RowKit

end Go.Proofs.YtdkncdkdbddgoaaDoor

/-
  Plain laws: names, and loops that end at the first fault.
-/
namespace Go.Proofs.YtdkncdkdbddgoaaDoor
set_option linter.unusedSimpArgs false
set_option linter.unusedVariables false
open Go.RowKit

abbrev MX : Nat := 9223372036854775807
/-! ### Loops that end at the first fault -/
/-! ### Names -/
def lowB (b : UInt8) : Bool := decide (97 ≤ (b.toNat : Int)) && decide ((b.toNat : Int) ≤ 122)
def nameB (b : UInt8) : Bool := lowB b || (decide ((b.toNat : Int) = 45) || (decide (48 ≤ (b.toNat : Int)) && decide ((b.toNat : Int) ≤ 57)))
def nameSet : List UInt8 := [97, 98, 99, 100, 101, 102, 103, 104, 105, 106, 107, 108, 109, 110, 111, 112, 113, 114, 115, 116, 117, 118, 119, 120, 121, 122, 48, 49, 50, 51, 52, 53, 54, 55, 56, 57, 45]
theorem nameB_all : (List.range 256).all (fun n => nameSet.contains (UInt8.ofNat n) == nameB (UInt8.ofNat n)) = true := by decide +kernel
theorem nameB_eq (b : UInt8) : nameSet.contains b = nameB b := by
  have := List.all_eq_true.1 nameB_all b.toNat (List.mem_range.2 b.toNat_lt)
  have hb : UInt8.ofNat b.toNat = b := by simp
  rw [hb] at this
  simpa using this
theorem trim_name (l : List UInt8) : decide (Lib.trimS l nameSet = []) = l.all nameB := by
  rw [Bool.eq_iff_iff, decide_eq_true_eq, trim_nil, List.all_eq_true]
  simp only [nameB_eq]
/-- A name. -/
def nameF : List UInt8 → Bool
  | [] => false
  | b :: l => decide (l.length ≤ 39) && lowB b && l.all nameB
theorem w_name (l : List UInt8) (hl : l.length ≤ MX) : m_kit_IsName l = some (nameF l) := by
  have ht : m_strings_Trim l nameSet = some (Lib.trimS l nameSet) := by
    unfold m_strings_Trim
    rw [if_pos ⟨hl, by decide, by decide⟩]
  have hu : ([97, 98, 99, 100, 101, 102, 103, 104, 105, 106, 107, 108, 109, 110, 111, 112, 113, 114, 115, 116, 117, 118, 119, 120, 121, 122, 48, 49, 50, 51, 52, 53, 54, 55, 56, 57, 45] : List UInt8) = nameSet := rfl
  unfold m_kit_IsName sims_G6_0_0; dsimp only
  rw [hu]
  cases l with
  | nil => rfl
  | cons b l =>
    have hg : getI (b :: l) 0 = some b := rfl
    simp only [hg, Option.bind_some, orO_some, ht, trim_name, nameF]
    have h1 : decide (((b :: l).length : Int) < 1) = false := by simp only [List.length_cons]; apply decide_eq_false; omega
    have h2 : decide (40 < ((b :: l).length : Int)) = !decide (l.length ≤ 39) := by simp only [List.length_cons]; rw [Bool.eq_iff_iff]; simp <;> omega
    have h3 : (decide ((b.toNat : Int) < 97) || decide (122 < (b.toNat : Int))) = !lowB b := by unfold lowB; rw [Bool.eq_iff_iff]; simp
    rw [h1, h2, Bool.false_or, Bool.or_assoc, h3]
    cases hb : lowB b with
    | false => simp
    | true => cases decide (l.length ≤ 39) <;> simp [nameB, hb]
end Go.Proofs.YtdkncdkdbddgoaaDoor

/-
  Segments: when they are right; sameness.
-/
namespace Go.Proofs.YtdkncdkdbddgoaaDoor
set_option linter.unusedSimpArgs false
set_option linter.unusedVariables false
open Go.RowKit

theorem listF_all {α : Type} {h : α → Int} : ∀ {l : List α}, (∀ e ∈ l, h e = 0) → listF h l = 0
  | [], _ => rfl
  | e :: l, hl => by
    unfold listF
    rw [if_pos (hl e (by simp))]
    exact listF_all fun e he => hl e (by simp [he])
theorem repF_iff {l : List (List UInt8)} : repF l = 0 ↔ (1 ≤ l.length ∧ l.length ≤ 20 ∧ ∀ t ∈ l, textF t = 0) := by
  unfold repF
  by_cases h1 : l.length = 0
  · simp [h1]
  · by_cases h2 : 20 < l.length
    · simp [h1, h2]; omega
    · rw [if_neg h1, if_neg h2]
      exact ⟨fun h => ⟨by omega, by omega, listF_zero h⟩, fun h => listF_all h.2.2⟩
theorem elemF_iff {e : Tapi_Element} : elemF e = 0 ↔ (1 ≤ e.fRepeats.length ∧ e.fRepeats.length ≤ 20 ∧ ∀ t ∈ e.fRepeats, repF t = 0) := by
  unfold elemF
  by_cases h1 : e.fRepeats.length = 0
  · simp [h1]
  · by_cases h2 : 20 < e.fRepeats.length
    · simp [h1, h2]; omega
    · rw [if_neg h1, if_neg h2]
      exact ⟨fun h => ⟨by omega, by omega, listF_zero h⟩, fun h => listF_all h.2.2⟩
theorem segF_iff {s : Tapi_Segment} : segF s = 0 ↔ (tagF s.fTag = true ∧ s.fElements.length ≤ 50 ∧ ∀ e ∈ s.fElements, elemF e = 0) := by
  unfold segF
  by_cases h1 : tagF s.fTag = false
  · simp [h1]
  · by_cases h2 : 50 < s.fElements.length
    · simp [h1, h2]; intro h; omega
    · rw [if_neg h1, if_neg h2]
      exact ⟨fun h => ⟨by simpa using h1, by omega, listF_zero h⟩, fun h => listF_all h.2.2⟩
theorem seg_ok {s : Tapi_Segment} (h : segF s = 0) : cloneOk s := by
  obtain ⟨_, h2, h3⟩ := segF_iff.1 h
  refine ⟨by omega, fun e he => ?_⟩
  obtain ⟨_, h5, h6⟩ := elemF_iff.1 (h3 e he)
  refine ⟨by omega, fun p hp => ?_⟩
  obtain ⟨_, h8, _⟩ := repF_iff.1 (h6 p hp)
  omega
end Go.Proofs.YtdkncdkdbddgoaaDoor

/-
  Plain laws: lines of a text (strings.Cut, Split, CutSuffix at one byte).
-/
namespace Go.Proofs.YtdkncdkdbddgoaaDoor
set_option linter.unusedSimpArgs false
set_option linter.unusedVariables false

theorem ix_eq (c : UInt8) (l : List UInt8) : Lib.index (c :: l) [c] = 0 := by
  unfold Lib.index
  rw [if_pos (by simp)]
theorem ix_ne {c x : UInt8} (l : List UInt8) (h : x ≠ c) : Lib.index (x :: l) [c] = if Lib.index l [c] == -1 then -1 else Lib.index l [c] + 1 := by
  rw [Lib.index, if_neg (by simp; exact fun e => h e.symm)]
theorem ix_none {c : UInt8} : ∀ {l : List UInt8}, (∀ b ∈ l, b ≠ c) → Lib.index l [c] = -1
  | [], _ => rfl
  | x :: l, h => by
    rw [ix_ne l (h x (by simp)), ix_none (l := l) fun b hb => h b (by simp [hb])]; rfl
theorem ix_at {c : UInt8} (b : List UInt8) : ∀ {a : List UInt8}, (∀ x ∈ a, x ≠ c) → Lib.index (a ++ c :: b) [c] = (a.length : Int)
  | [], _ => ix_eq c b
  | x :: a, h => by
    rw [List.cons_append, ix_ne _ (h x (by simp)), ix_at b (a := a) fun y hy => h y (by simp [hy])]
    rw [if_neg (by simp), List.length_cons]; rfl
theorem split_none {c : UInt8} {l : List UInt8} (h : ∀ b ∈ l, b ≠ c) : Lib.split l [c] = [l] := by
  unfold Lib.split
  cases hc : Lib.count l [c] with
  | zero => rfl
  | succ k => unfold Lib.splitK; rw [ix_none h]; rfl
theorem split_at {c : UInt8} {a b : List UInt8} (h : ∀ x ∈ a, x ≠ c) : Lib.split (a ++ c :: b) [c] = a :: Lib.split b [c] := by
  have hc : Lib.count (a ++ c :: b) [c] = Lib.count b [c] + 1 := by
    rw [Lib.count_one, Lib.count_one, List.count_append, List.count_cons_self, List.count_eq_zero.2 fun hm => h c hm rfl]; omega
  unfold Lib.split
  rw [hc]
  show (if Lib.index (a ++ c :: b) [c] == -1 then _ else _) = _
  rw [ix_at b h]
  rw [if_neg (by simp)]
  simp
/-- Lines, each with its end, and what is behind the last end. -/
structure Lns (L : List (List UInt8)) (t s : List UInt8) : Prop where
  eq : s = (L.map (· ++ [10])).flatten ++ t
  no : ∀ l ∈ L, ∀ b ∈ l, b ≠ (10 : UInt8)
  nt : ∀ b ∈ t, b ≠ (10 : UInt8)
theorem Lns.tail {a : List UInt8} {L : List (List UInt8)} {t s : List UInt8} (h : Lns (a :: L) t s) : ∃ b, s = a ++ 10 :: b ∧ Lns L t b :=
  ⟨_, by rw [h.eq]; simp, ⟨rfl, fun l hl => h.no l (by simp [hl]), h.nt⟩⟩
theorem Lns.split : ∀ {L : List (List UInt8)} {t s : List UInt8}, Lns L t s → Lib.split s [10] = L ++ [t]
  | [], t, s, h => by
    have := h.eq
    simp at this
    subst this
    exact split_none h.nt
  | a :: L, t, s, h => by
    obtain ⟨b, rfl, hb⟩ := h.tail
    rw [split_at (h.no a (by simp)), hb.split]; rfl
theorem suf_last (s : List UInt8) (b c : UInt8) : Lib.hasSuffix (s ++ [b]) [c] = (c == b) := by
  unfold Lib.hasSuffix List.isSuffixOf
  rw [List.reverse_append]
  show (c == b && [].isPrefixOf _) = _
  simp
theorem snoc_of {α : Type} {l : List α} (h : l ≠ []) : ∃ l' x, l = l' ++ [x] := ⟨l.dropLast, l.getLast h, (List.dropLast_concat_getLast h).symm⟩
theorem Lns.open {L : List (List UInt8)} {t s : List UInt8} (h : Lns L t s) (ht : t ≠ []) : Lib.hasSuffix s [10] = false ∧ Lib.split (Lib.trimSuffix s [10]) [10] = L ++ [t] := by
  obtain ⟨t', b, rfl⟩ := snoc_of ht
  have he : s = ((L.map (· ++ [10])).flatten ++ t') ++ [b] := by rw [h.eq]; simp
  have hb : b ≠ 10 := h.nt b (by simp)
  have hf : Lib.hasSuffix s [10] = false := by
    rw [he, suf_last]; simpa using fun e => hb e.symm
  have hs := h.split
  refine ⟨hf, ?_⟩
  unfold Lib.trimSuffix
  rw [hf]
  exact hs
end Go.Proofs.YtdkncdkdbddgoaaDoor

/-
  Plain laws: a text divided at one byte; lists within lists.
-/
namespace Go.Proofs.YtdkncdkdbddgoaaDoor
set_option linter.unusedSimpArgs false
set_option linter.unusedVariables false
open Go.RowKit

/-- Pieces, each with the mark behind it, and what is behind the last mark. -/
structure Pcs (c : UInt8) (L : List (List UInt8)) (t s : List UInt8) : Prop where
  eq : s = (L.map (· ++ [c])).flatten ++ t
  no : ∀ l ∈ L, ∀ b ∈ l, b ≠ c
  nt : ∀ b ∈ t, b ≠ c
theorem first_at (c : UInt8) (s : List UInt8) : (∀ b ∈ s, b ≠ c) ∨ ∃ a b, (∀ x ∈ a, x ≠ c) ∧ s = a ++ c :: b := by
  induction s with
  | nil => exact .inl (by simp)
  | cons x s ih =>
    by_cases hx : x = c
    · exact .inr ⟨[], s, by simp, by rw [hx]; rfl⟩
    · rcases ih with h | ⟨a, b, h1, h2⟩
      · exact .inl fun b hb => by
          rcases List.mem_cons.1 hb with rfl | hb
          · exact hx
          · exact h b hb
      · refine .inr ⟨x :: a, b, fun y hy => ?_, by rw [h2]; rfl⟩
        rcases List.mem_cons.1 hy with rfl | hy
        · exact hx
        · exact h1 y hy
theorem pcs_ex (c : UInt8) : ∀ (n : Nat) (s : List UInt8), s.length ≤ n → ∃ L t, Pcs c L t s
  | 0, s, h => ⟨[], s, ⟨rfl, by simp, by have : s = [] := List.length_eq_zero_iff.1 (by omega); subst this; simp⟩⟩
  | n + 1, s, h => by
    rcases first_at c s with h1 | ⟨a, b, h1, rfl⟩
    · exact ⟨[], s, ⟨rfl, by simp, h1⟩⟩
    · obtain ⟨L, t, hL⟩ := pcs_ex c n b (by simp at h; omega)
      refine ⟨a :: L, t, ⟨?_, fun l hl => ?_, hL.nt⟩⟩
      · rw [hL.eq]; simp
      · rcases List.mem_cons.1 hl with rfl | hl
        · exact h1
        · exact hL.no l hl
theorem Pcs.tail {c : UInt8} {a : List UInt8} {L : List (List UInt8)} {t s : List UInt8} (h : Pcs c (a :: L) t s) : ∃ b, s = a ++ c :: b ∧ Pcs c L t b :=
  ⟨_, by rw [h.eq]; simp, ⟨rfl, fun l hl => h.no l (by simp [hl]), h.nt⟩⟩
theorem Pcs.split {c : UInt8} : ∀ {L : List (List UInt8)} {t s : List UInt8}, Pcs c L t s → Lib.split s [c] = L ++ [t]
  | [], t, s, h => by
    have := h.eq
    simp at this
    subst this
    exact split_none h.nt
  | a :: L, t, s, h => by
    obtain ⟨b, rfl, hb⟩ := h.tail
    rw [split_at (h.no a (by simp)), hb.split]; rfl
/-- The pieces and the rest, from what Split gives. -/
theorem Pcs.of {c : UInt8} {s : List UInt8} : ∃ L t, Pcs c L t s ∧ Lib.split s [c] = L ++ [t] := by
  obtain ⟨L, t, h⟩ := pcs_ex c s.length s (Nat.le_refl _)
  exact ⟨L, t, h, h.split⟩
theorem Pcs.len {c : UInt8} {L : List (List UInt8)} {t s : List UInt8} (h : Pcs c L t s) : L.length ≤ s.length ∧ t.length ≤ s.length ∧ ∀ e ∈ L, e.length ≤ s.length := by
  rw [h.eq]
  have key : ∀ L : List (List UInt8), L.length ≤ (L.map (· ++ [c])).flatten.length ∧ ∀ e ∈ L, e.length ≤ (L.map (· ++ [c])).flatten.length := fun L => by
    induction L with
    | nil => simp
    | cons a L ih =>
      obtain ⟨h1, h2⟩ := ih
      simp only [List.map_cons, List.flatten_cons, List.length_append, List.length_cons, List.length_nil, List.mem_cons, forall_eq_or_imp]
      exact ⟨by omega, by omega, fun e he => by have := h2 e he; omega⟩
  obtain ⟨h1, h2⟩ := key L
  simp only [List.length_append]
  exact ⟨by omega, by omega, fun e he => by have := h2 e he; omega⟩
/-- All pieces but the last, with marks between. -/
theorem pcs_init {c : UInt8} {L : List (List UInt8)} {t s : List UInt8} (h : Pcs c L t s) (hL : L ≠ []) : ∃ p, s = p ++ c :: t ∧ Lib.split p [c] = L := by
  obtain ⟨L', x, rfl⟩ := snoc_of hL
  refine ⟨(L'.map (· ++ [c])).flatten ++ x, ?_, ?_⟩
  · rw [h.eq]; simp
  · exact Pcs.split ⟨rfl, fun l hl => h.no l (by simp [hl]), h.no x (by simp)⟩
theorem flatMap_flatMap {α β γ : Type} (f : α → List β) (g : β → List γ) : ∀ l : List α, (l.flatMap f).flatMap g = l.flatMap fun a => (f a).flatMap g
  | [] => rfl
  | a :: l => by simp only [List.flatMap_cons, List.flatMap_append, flatMap_flatMap f g l]
theorem flatMap_len {α β : Type} {f : α → List β} {g : α → Nat} : ∀ {l : List α}, (∀ a ∈ l, (f a).length ≤ g a) → (l.flatMap f).length ≤ (l.map g).sum
  | [], _ => by simp
  | a :: l, h => by
    have h1 := h a (by simp)
    have h2 := flatMap_len (l := l) fun b hb => h b (by simp [hb])
    simp only [List.flatMap_cons, List.length_append, List.map_cons, List.sum_cons]
    omega
theorem sum_map_le {α : Type} {f g : α → Nat} : ∀ {l : List α}, (∀ a ∈ l, f a ≤ g a) → (l.map f).sum ≤ (l.map g).sum
  | [], _ => by simp
  | a :: l, h => by
    have h1 := h a (by simp)
    have h2 := sum_map_le (l := l) fun b hb => h b (by simp [hb])
    simp only [List.map_cons, List.sum_cons]
    omega
theorem sum_flatMap {α β : Type} {f : α → List β} {g : β → Nat} : ∀ {l : List α}, ((l.flatMap f).map g).sum = (l.map fun a => ((f a).map g).sum).sum
  | [] => rfl
  | a :: l => by simp only [List.flatMap_cons, List.map_append, List.sum_append, List.map_cons, List.sum_cons, sum_flatMap (l := l)]
theorem sum_map_mul {α : Type} (k : Nat) (f : α → Nat) : ∀ l : List α, (l.map fun a => k * f a).sum = k * (l.map f).sum
  | [] => by simp
  | a :: l => by simp only [List.map_cons, List.sum_cons, sum_map_mul k f l, Nat.mul_add]
theorem len_sum {α : Type} : ∀ l : List α, (l.map fun _ => 1).sum = l.length
  | [] => rfl
  | a :: l => by simp only [List.map_cons, List.sum_cons, len_sum l, List.length_cons]; omega
end Go.Proofs.YtdkncdkdbddgoaaDoor

/-
  Plain laws: CheckTree.
-/
namespace Go.Proofs.YtdkncdkdbddgoaaDoor
set_option linter.unusedSimpArgs false
set_option linter.unusedVariables false
open Go.RowKit

abbrev Br := Tapi_Branch
/-- Texts and lists of a branch are no longer than any that there is. -/
inductive ShB : Br → Prop
  | mk {x : Br} : x.fName.length ≤ MX → x.fSegment.fTag.length ≤ MX → x.fKids.length ≤ MX → (∀ a ∈ x.fKids, ShB a) → ShB x
theorem ShB.name {x : Br} (h : ShB x) : x.fName.length ≤ MX := by cases h; assumption
theorem ShB.tag {x : Br} (h : ShB x) : x.fSegment.fTag.length ≤ MX := by cases h; assumption
theorem ShB.len {x : Br} (h : ShB x) : x.fKids.length ≤ MX := by cases h; assumption
theorem ShB.kids {x : Br} (h : ShB x) : ∀ a ∈ x.fKids, ShB a := by cases h; assumption

/-- A loop over a list whose state keeps what is asked. -/
def runL {α S A : Type} (g : S → α → S ⊕ A) (fin : S → A) : List α → S → A
  | [], s => fin s
  | e :: l, s => match g s e with
    | .inl s' => runL g fin l s'
    | .inr a => a
theorem loop_inv {α S T A : Type} (l : List α) (mk : Nat → S → T) (g : S → α → S ⊕ A) (fin : S → A) (I : S → Prop) {f : T → Option (T ⊕ A)}
    (hb : ∀ (i : Nat) (e : α) (s : S), l[i]? = some e → I s → f (mk i s) = some (match g s e with | .inl s' => .inl (mk (i + 1) s') | .inr a => .inr a))
    (hi : ∀ (e : α) (s s' : S), e ∈ l → I s → g s e = .inl s' → I s') (he : ∀ s, I s → f (mk l.length s) = some (.inr (fin s))) (s : S) (h0 : I s) : loopC f (mk 0 s) = some (runL g fin l s) := by
  have : ∀ (t : List α) (i : Nat) (s : S), l.drop i = t → i ≤ l.length → I s → loopC f (mk i s) = some (runL g fin t s) := by
    intro t
    induction t with
    | nil =>
      intro i s hd hle hs
      have := drop_nil_len hd hle
      subst this
      rw [loopC_eq, he s hs]
      rfl
    | cons e t ih =>
      intro i s hd hle hs
      obtain ⟨h1, h2, h3⟩ := drop_head hd
      rw [loopC_eq, hb i e s h1 hs]
      simp only [runL]
      cases hg : g s e with
      | inr a => rfl
      | inl s' => exact ih (i + 1) s' h3 h2 (hi e s s' (List.mem_of_getElem? h1) hs hg)
  exact this l 0 s rfl (Nat.zero_le _) h0

def badHead : List Br → Bool
  | [] => true
  | c :: _ => !decide (c.fName = [])
def bareF (s : Tapi_Segment) : Bool := decide (s.fTag = []) && decide ((s.fElements.length : Int) = 0)
def formB (b : Br) : Bool := bif decide (b.fName = []) then decide (0 < (b.fKids.length : Int)) else (!bareF b.fSegment || badHead b.fKids)
def cntB (many : Int) (b : Br) : Int := if b.fName = [] then many + 1 else many
/-- The fault of a branch, and how many segments there are with it. -/
def brF (g : List Br → Int → Int × Int) (deep many : Int) (b : Br) : Int × Int :=
  if 2000 < cntB many b ∨ 6 < deep then (2, cntB many b)
  else if b.fName ≠ [] ∧ nameF b.fName = false then (5, cntB many b)
  else if formB b = true then (3, cntB many b)
  else if b.fName = [] then (segF b.fSegment, cntB many b)
  else g b.fKids (cntB many b)
def liF (g : Int → Br → Int × Int) : List Br → Int → Int × Int
  | [], many => (0, many)
  | b :: l, many => if (g many b).1 = 0 then liF g l (g many b).2 else g many b
def ctF : Nat → List Br → Int → Int → Int × Int
  | 0, _, _, many => (0, many)
  | k + 1, l, deep, many => liF (brF (fun kids m => ctF k kids (deep + 1) m) deep) l many

theorem li_ok {g : Int → Br → Int × Int} (hg : ∀ many b, 0 ≤ many → (g many b).1 = 0 → many ≤ (g many b).2 ∧ (g many b).2 ≤ 2000 ∨ (g many b).2 = many) : ∀ {l : List Br} {many : Int}, 0 ≤ many → (liF g l many).1 = 0 → many ≤ (liF g l many).2 ∧ (many ≤ 2000 → (liF g l many).2 ≤ 2000)
  | [], many, _, _ => ⟨Int.le_refl _, fun h => h⟩
  | b :: l, many, h0, h => by
    unfold liF at h ⊢
    by_cases hb : (g many b).1 = 0
    · rw [if_pos hb] at h ⊢
      rcases hg many b h0 hb with ⟨h1, h2⟩ | h1
      · obtain ⟨k1, k2⟩ := li_ok hg (by omega) h
        exact ⟨by omega, fun _ => k2 h2⟩
      · rw [h1] at h ⊢
        exact li_ok hg h0 h
    · rw [if_neg hb] at h ⊢
      exact absurd h hb
theorem cnt_ge (many : Int) (b : Br) : many ≤ cntB many b ∧ cntB many b ≤ many + 1 := by unfold cntB; split <;> omega
theorem br_ok {g : List Br → Int → Int × Int} (hg : ∀ l m, 0 ≤ m → (g l m).1 = 0 → m ≤ (g l m).2 ∧ (m ≤ 2000 → (g l m).2 ≤ 2000)) {deep many : Int} {b : Br} (h0 : 0 ≤ many) (h : (brF g deep many b).1 = 0) : many ≤ (brF g deep many b).2 ∧ (brF g deep many b).2 ≤ 2000 := by
  have hc := cnt_ge many b
  unfold brF at h ⊢
  split at h
  · cases h
  · rename_i h1
    rw [if_neg h1]
    split at h
    · cases h
    · rename_i h2
      rw [if_neg h2]
      split at h
      · cases h
      · rename_i h3
        rw [if_neg h3]
        split at h
        · rename_i h4; rw [if_pos h4]; exact ⟨by simp only; omega, by simp only; omega⟩
        · rename_i h4
          rw [if_neg h4]
          obtain ⟨k1, k2⟩ := hg _ _ (by omega) h
          exact ⟨by omega, k2 (by omega)⟩
theorem ct_ok : ∀ (k : Nat) {l : List Br} {deep many : Int}, 0 ≤ many → (ctF k l deep many).1 = 0 → many ≤ (ctF k l deep many).2 ∧ (many ≤ 2000 → (ctF k l deep many).2 ≤ 2000)
  | 0, _, _, _, _, _ => ⟨Int.le_refl _, fun h => h⟩
  | k + 1, l, deep, many, h0, h => li_ok (fun many b h0 hb => .inl (br_ok (fun l m h0 h => ct_ok k h0 h) h0 hb)) h0 h
/-- What stops the loop is what stops the fold. -/
theorem run_li {R : Type} {g : Int → Br → Int × Int} {ret : Int × Int → R} {i : Int} : ∀ {l : List Br} {many : Int} {fin : Int → (Int × Int) ⊕ R},
    runL (fun s e => if (g s e).1 = 0 then (.inl (g s e).2 : Int ⊕ ((Int × Int) ⊕ R)) else .inr (.inr (ret (g s e)))) fin l many = if (liF g l many).1 = 0 then fin (liF g l many).2 else .inr (ret (liF g l many))
  | [], many, fin => by simp [runL, liF]
  | b :: l, many, fin => by
    unfold runL liF
    by_cases hb : (g many b).1 = 0
    · simp only [hb, if_true]; exact run_li (i := i)
    · simp only [hb, if_false]
theorem seg_one {s : Tapi_Segment} (hs : s.fTag.length ≤ MX) : m_wire_CheckSegments [s] = some (segF s) := by
  rw [w_segs [s] (fun x hx => by simp at hx; subst hx; exact hs)]
  unfold segsF
  rw [if_neg (by simp)]
  unfold listF listF
  split <;> simp_all
theorem zero_eq (s : Tapi_Segment) : m_scheme_isZero s = some (bareF s) := by
  unfold m_scheme_isZero sims_G6_0_0; dsimp only
  simp only [andO_some, Option.bind_some]; rfl
theorem head_eq (l : List Br) (v : Bool) : (orO (v || decide ((l.length : Int) = 0)) ((getI l 0).bind fun e => some !decide (e.fName = []))) = some (v || badHead l) := by
  cases l with
  | nil => cases v <;> rfl
  | cons c l =>
    rw [decide_eq_false (by simp only [List.length_cons]; omega)]
    have : getI (c :: l) 0 = some c := rfl
    simp only [this, Option.bind_some, orO_some, Bool.or_false, badHead]
theorem p_branch {fu : Nat} {b : Br} {deep many : Int} {g : List Br → Int → Int × Int} (hb : ShB b) (h0 : 0 ≤ many) (h1 : many ≤ 2001) (hd0 : 0 ≤ deep) (hd : deep ≤ 7)
    (hrec : deep ≤ 6 → m_interchange_scheme_pathed_list fu ⟨many⟩ b.fKids (deep + 1) = some ((g b.fKids many).1, ⟨(g b.fKids many).2⟩)) :
    m_interchange_scheme_pathed_branch (fu + 1) ⟨many⟩ b deep = some ((brF g deep many b).1, ⟨(brF g deep many b).2⟩) := by
  rw [m_interchange_scheme_pathed_branch_succ]; unfold step_G6_5_0; dsimp only; simp only [m_interchange_scheme_pathed_list_fold]
  rw [wrap64 (many + 1) (by omega) (by omega), wrap64 (deep + 1) (by omega) (by omega)]
  unfold brF cntB formB
  by_cases hn : b.fName = []
  · simp only [hn, decide_true, cond_true, if_true, orO_some, andO_some, Option.bind_some, Bool.not_true, Bool.false_and, ne_eq, not_true_eq_false, false_and, if_false]
    by_cases c1 : 2000 < many + 1 ∨ 6 < deep
    · rw [if_pos c1]
      have : (decide (2000 < many + 1) || decide (6 < deep)) = true := by simpa using c1
      rw [this]; rfl
    · rw [if_neg c1]
      have : (decide (2000 < many + 1) || decide (6 < deep)) = false := by simpa using c1
      rw [this]
      simp only [cond_false, andO, Option.bind_some, Bool.true_and]
      cases c2 : decide (0 < (b.fKids.length : Int)) with
      | true => rfl
      | false =>
        simp only [cond_false, Bool.false_eq_true, if_false]
        rw [seg_one hb.tag]; rfl
  · have hn' : decide (b.fName = []) = false := decide_eq_false hn
    simp only [hn', cond_false, hn, if_false, Bool.not_false, Bool.false_and, orO_some, andO_some, Option.bind_some, Bool.true_and, ne_eq, not_false_eq_true, true_and, decide_false, zero_eq, head_eq]
    by_cases c1 : 2000 < many ∨ 6 < deep
    · rw [if_pos c1]
      have : (decide (2000 < many) || decide (6 < deep)) = true := by simpa using c1
      rw [this]; rfl
    · rw [if_neg c1]
      have : (decide (2000 < many) || decide (6 < deep)) = false := by simpa using c1
      rw [this, w_name _ hb.name]
      simp only [cond_false, Option.bind_some]
      cases c2 : nameF b.fName with
      | false => rfl
      | true =>
        simp only [Bool.not_true, cond_false, Bool.true_eq_false, if_false]
        try simp only [Option.bind_some, andO_some, Bool.true_and]
        cases c3 : (!bareF b.fSegment || badHead b.fKids) with
        | true => rfl
        | false =>
          simp only [cond_false, Bool.false_eq_true, if_false]
          rw [hrec (by omega)]; rfl
theorem p_tree : ∀ (k : Nat) (deep : Nat) (l : List Br) (many : Int) (fu : Nat), deep ≤ 7 → 8 ≤ k + deep → 2 * k ≤ fu → 0 ≤ many → many ≤ 2000 → (∀ b ∈ l, ShB b) → l.length ≤ MX →
    m_interchange_scheme_pathed_list fu ⟨many⟩ l (deep : Int) = some ((ctF k l deep many).1, ⟨(ctF k l deep many).2⟩)
  | 0, deep, _, _, _, h1, h2, _, _, _, _, _ => by omega
  | k + 1, deep, l, many, 0, _, _, h3, _, _, _, _ => by omega
  | k + 1, deep, l, many, 1, _, _, h3, _, _, _, _ => by omega
  | k + 1, deep, l, many, fu + 2, h1, h2, h3, h4, h5, hl, hlen => by
    rw [m_interchange_scheme_pathed_list_succ]; unfold step_G6_5_0; dsimp only; simp only [m_interchange_scheme_pathed_branch_fold]
    have hMX : MX = 9223372036854775807 := rfl
    refine bind_loop (loop_inv l (fun i (s : Int) => (s, (i : Int))) (fun s e => if (brF (fun kids m => ctF k kids ((deep : Int) + 1) m) deep s e).1 = 0 then .inl (brF (fun kids m => ctF k kids ((deep : Int) + 1) m) deep s e).2 else .inr (.inr ((brF (fun kids m => ctF k kids ((deep : Int) + 1) m) deep s e).1, ⟨(brF (fun kids m => ctF k kids ((deep : Int) + 1) m) deep s e).2⟩)))
      (fun s => .inl (s, (l.length : Int))) (fun s => 0 ≤ s ∧ s ≤ 2000) (fun i e s he hs => ?_) (fun e s s' he hs hg => ?_) (fun s hs => ?_) many ⟨h4, h5⟩) ?_
    · have hi := get_le he
      have hm := List.mem_of_getElem? he
      simp only [lt_dec hi, cond_true, getI_nat, he, Option.bind_some, wrapN i (by omega)]
      rw [Tapi_Branch_eta e, p_branch (g := fun kids m => ctF k kids ((deep : Int) + 1) m) (hl e hm) hs.1 (by omega) (by omega) (by omega) (fun hd => ?_)]
      · simp only [Option.bind_some]
        by_cases hf : (brF (fun kids m => ctF k kids ((deep : Int) + 1) m) deep s e).1 = 0
        · rw [if_pos hf, decide_eq_true hf]; rfl
        · rw [if_neg hf, decide_eq_false hf]; rfl
      · exact p_tree k (deep + 1) e.fKids s fu (by omega) (by omega) (by omega) hs.1 hs.2 (hl e hm).kids (hl e hm).len
    · by_cases hf : (brF (fun kids m => ctF k kids ((deep : Int) + 1) m) deep s e).1 = 0
      · rw [if_pos hf] at hg
        cases hg
        have := br_ok (fun l m h0 h => ct_ok k h0 h) hs.1 hf
        exact ⟨by omega, this.2⟩
      · rw [if_neg hf] at hg; cases hg
    · simp only [lt_dec_self, cond_false]; rfl
    · rw [run_li (R := Int × Tscheme_pathed) (ret := fun r => (r.1, ⟨r.2⟩)) (i := 0)]
      show _ = some ((liF _ l many).1, _)
      by_cases hf : (liF (brF (fun kids m => ctF k kids ((deep : Int) + 1) m) deep) l many).1 = 0
      · rw [if_pos hf]
        show some (0, _) = _
        rw [← hf]; rfl
      · rw [if_neg hf]; rfl
theorem p_check (l : List Br) (hl : ∀ b ∈ l, ShB b) (hlen : l.length ≤ MX) : m_scheme_CheckTree l = some (ctF 8 l 0 0).1 := by
  have hFU := FU_big
  unfold m_scheme_CheckTree sims_G6_6_0; dsimp only
  have := p_tree 8 0 l 0 FU (by omega) (by omega) (by omega) (by omega) (by omega) hl hlen
  rw [show (0 : Int) = ((0 : Nat) : Int) from rfl] at *
  rw [this]; rfl
end Go.Proofs.YtdkncdkdbddgoaaDoor

/-
  Plain laws: CheckTree of the reference; what a right tree is.
-/
namespace Go.Proofs.YtdkncdkdbddgoaaDoor
set_option linter.unusedSimpArgs false
set_option linter.unusedVariables false
open Go.RowKit

/-! ### A right tree -/
def LeafOk (b : Br) : Prop := b.fName = [] ∧ segF b.fSegment = 0 ∧ b.fKids = []
def TOk : Nat → List Br → Prop
  | 0, l => l = []
  | d + 1, l => ∀ b ∈ l, LeafOk b ∨ (b.fName ≠ [] ∧ bareF b.fSegment = true ∧ badHead b.fKids = false ∧ TOk d b.fKids)
def leaves : Nat → List Br → Nat
  | 0, _ => 0
  | d + 1, l => (l.map fun b => if b.fName = [] then 1 else leaves d b.fKids).sum
theorem ct_zero : ∀ (d : Nat) (l : List Br) (many : Int), d ≤ 7 → (ctF (d + 1) l (7 - (d : Int)) many).1 = 0 → TOk d l ∧ (ctF (d + 1) l (7 - (d : Int)) many).2 = many + leaves d l
  | 0, [], many, _, _ => ⟨rfl, by simp [ctF, liF, leaves]⟩
  | 0, b :: l, many, _, h => by
    exfalso
    have hz : (brF (fun kids m => ctF 0 kids (7 - ((0 : Nat) : Int) + 1) m) (7 - ((0 : Nat) : Int)) many b).1 ≠ 0 := by
      unfold brF
      rw [if_pos (.inr (by omega))]; simp
    unfold ctF liF at h
    rw [if_neg hz] at h
    exact hz h
  | d + 1, [], many, _, _ => ⟨(fun b hb => by cases hb), by simp [ctF, liF, leaves]⟩
  | d + 1, b :: l, many, hd, h => by
    have hdeep : (7 - ((d + 1 : Nat) : Int)) + 1 = 7 - (d : Int) := by omega
    have hstep : ∀ (l : List Br) (m : Int), ctF (d + 1 + 1) l (7 - ((d + 1 : Nat) : Int)) m = liF (brF (fun kids m => ctF (d + 1) kids (7 - (d : Int)) m) (7 - ((d + 1 : Nat) : Int))) l m := fun l m => by
      show liF (brF (fun kids m => ctF (d + 1) kids (7 - ((d + 1 : Nat) : Int) + 1) m) (7 - ((d + 1 : Nat) : Int))) l m = _
      rw [hdeep]
    rw [hstep] at h ⊢
    unfold liF at h ⊢
    by_cases hb : (brF (fun kids m => ctF (d + 1) kids (7 - (d : Int)) m) (7 - ((d + 1 : Nat) : Int)) many b).1 = 0
    · rw [if_pos hb] at h ⊢
      rw [← hstep] at h ⊢
      obtain ⟨k1, k2⟩ := ct_zero (d + 1) l _ hd h
      have hone : (LeafOk b ∨ (b.fName ≠ [] ∧ bareF b.fSegment = true ∧ badHead b.fKids = false ∧ TOk d b.fKids)) ∧ (brF (fun kids m => ctF (d + 1) kids (7 - (d : Int)) m) (7 - ((d + 1 : Nat) : Int)) many b).2 = many + ((if b.fName = [] then 1 else leaves d b.fKids : Nat) : Int) := by
        unfold brF at hb ⊢
        split at hb
        · cases hb
        · rename_i c1
          rw [if_neg c1]
          split at hb
          · cases hb
          · rename_i c2
            rw [if_neg c2]
            split at hb
            · cases hb
            · rename_i c3
              rw [if_neg c3]
              unfold cntB formB at *
              by_cases hn : b.fName = []
              · simp only [hn, if_true, decide_true, cond_true, decide_eq_true_eq] at hb c3 ⊢
                exact ⟨.inl ⟨hn, hb, List.length_eq_zero_iff.1 (by omega)⟩, rfl⟩
              · simp only [hn, if_false, decide_false, cond_false, Bool.or_eq_true, Bool.not_eq_true', not_or, Bool.not_eq_false, Bool.not_eq_true] at hb c3 ⊢
                obtain ⟨q1, q2⟩ := ct_zero d b.fKids many (by omega) hb
                exact ⟨.inr ⟨hn, c3.1, c3.2, q1⟩, q2⟩
      refine ⟨fun q hq => ?_, ?_⟩
      · rcases List.mem_cons.1 hq with rfl | hq
        · exact hone.1
        · exact k1 q hq
      · rw [k2, hone.2]
        simp only [leaves, List.map_cons, List.sum_cons]
        omega
    · rw [if_neg hb] at h
      exact absurd h hb
/-- What CheckTree lets be. -/
theorem tree_ok {l : List Br} (h : (ctF 8 l 0 0).1 = 0) : TOk 7 l ∧ leaves 7 l ≤ 2000 := by
  obtain ⟨h1, h2⟩ := ct_zero 7 l 0 (by omega) h
  have h3 := (ct_ok 8 (l := l) (deep := 0) (many := 0) (by omega) h).2 (by omega)
  have h4 : (ctF 8 l 0 0).2 = 0 + leaves 7 l := h2
  exact ⟨h1, by omega⟩
theorem tok_up : ∀ (d : Nat) {l : List Br}, TOk d l → TOk (d + 1) l
  | 0, l, h => by
    have h : l = [] := h
    subst h
    intro b hb; cases hb
  | d + 1, l, h => fun b hb => by
    rcases h b hb with h | ⟨h1, h2, h3, h4⟩
    · exact .inl h
    · exact .inr ⟨h1, h2, h3, tok_up d h4⟩
theorem leaves_up : ∀ (d : Nat) {l : List Br}, TOk d l → leaves (d + 1) l = leaves d l
  | 0, l, h => by
    have h : l = [] := h
    subst h; rfl
  | d + 1, l, h => by
    show (l.map _).sum = (l.map _).sum
    congr 1
    refine List.map_congr_left fun b hb => ?_
    rcases h b hb with h | ⟨h1, h2, h3, h4⟩
    · rw [if_pos h.1, if_pos h.1]
    · rw [if_neg h1, if_neg h1, leaves_up d h4]
/-- How many branches there are in a right tree, in all lists. -/
theorem leaf_pos (d : Nat) {l : List Br} (h : TOk d l) (hb : badHead l = false) : 1 ≤ leaves d l := by
  cases d with
  | zero => have h : l = [] := h; subst h; cases hb
  | succ d =>
    cases l with
    | nil => cases hb
    | cons c l =>
      have hc : c.fName = [] := by simpa [badHead] using hb
      simp only [leaves, List.map_cons, List.sum_cons, hc, if_true]
      omega
theorem len_leaves (d : Nat) {l : List Br} (h : TOk d l) : l.length ≤ leaves d l := by
  cases d with
  | zero => have h : l = [] := h; subst h; simp
  | succ d =>
    rw [← len_sum l]
    refine sum_map_le fun b hb => ?_
    rcases h b hb with h | ⟨h1, h2, h3, h4⟩
    · rw [if_pos h.1]; omega
    · rw [if_neg h1]; exact leaf_pos d h4 h3
end Go.Proofs.YtdkncdkdbddgoaaDoor

/- Imports alone. -/


/-
  Plain laws: loops that put something behind; segments of texts; numbers as texts.
-/
namespace Go.Proofs.YtdkncdkdbddgoaaDoor
set_option linter.unusedSimpArgs false
set_option linter.unusedVariables false
open Go.RowKit

/-! ### Loops that put something behind for each element -/
theorem app_loop {α β R : Type} (l : List α) (base : List β) (f : α → List β) (B : Nat) (hB : (base ++ l.flatMap f).length ≤ B) {F : List β × Int → Option ((List β × Int) ⊕ ((List β × Int) ⊕ R))} (K : List β × Int → Option R)
    (hb : ∀ (i : Nat) e (out : List β), l[i]? = some e → out.length + (f e).length ≤ B → F (out, (i : Int)) = some (.inl (out ++ f e, ((i + 1 : Nat) : Int)))) (he : ∀ out, F (out, (l.length : Int)) = some (.inr (.inl (out, (l.length : Int))))) :
    (loopC F (base, 0)).bind (outK K) = K (base ++ l.flatMap f, (l.length : Int)) := by
  refine bind_loop (a := .inl (base ++ l.flatMap f, (l.length : Int))) ?_ rfl
  have h := loop_pre (f := F) (a := .inl (base ++ l.flatMap f, (l.length : Int))) l (fun i q => (base ++ q.flatMap f, (i : Int))) (fun i e h => ?_) (he _)
  · simpa using h
  · have hlen : (base ++ (l.take i).flatMap f).length + (f e).length ≤ B := by
      have h1 : l.flatMap f = (l.take i).flatMap f ++ (f e ++ (l.drop (i + 1)).flatMap f) := by
        conv => lhs; rw [← List.take_append_drop i l]
        rw [List.flatMap_append, List.drop_eq_getElem_cons (get_le h)]
        rw [List.flatMap_cons]
        have : l[i]'(get_le h) = e := by
          have := List.getElem?_eq_getElem (get_le h)
          rw [h] at this; exact (Option.some.inj this).symm
        rw [this]
      rw [h1] at hB
      simp only [List.length_append] at hB ⊢
      omega
    rw [hb i e _ h hlen]
    simp [List.append_assoc]
/-! ### Segments of texts -/
abbrev i64 (n : Int) : Prop := -9223372036854775808 ≤ n ∧ n ≤ 9223372036854775807
end Go.Proofs.YtdkncdkdbddgoaaDoor

/-
  Plain laws: groups to which names lead.
-/
namespace Go.Proofs.YtdkncdkdbddgoaaDoor
set_option linter.unusedSimpArgs false
set_option linter.unusedVariables false
open Go.RowKit

theorem runL_all {α R : Type} (q : α → Bool) (a : R) (z : Int) : ∀ (l : List α), runL (fun (_ : Unit) e => if q e = true then (.inl () : Unit ⊕ (Int ⊕ R)) else .inr (.inr a)) (fun _ => .inl z) l () = if l.all q = true then .inl z else .inr a
  | [] => by simp [runL]
  | e :: l => by
    unfold runL
    cases h : q e with
    | true => simp only [if_true, List.all_cons, h, Bool.true_and]; exact runL_all q a z l
    | false => simp [h]
theorem loop_allU {α R : Type} (l : List α) (q : α → Bool) (a : R) {f : Int → Option (Int ⊕ (Int ⊕ R))} {K : Int → Option R}
    (hb : ∀ (i : Nat) (e : α), l[i]? = some e → f (i : Int) = if q e = true then some (.inl ((i + 1 : Nat) : Int)) else some (.inr (.inr a))) (he : f (l.length : Int) = some (.inr (.inl (l.length : Int)))) :
    (loopC f 0).bind (outK K) = if l.all q = true then K (l.length : Int) else some a := by
  have := loop_inv l (fun i (_ : Unit) => (i : Int)) (fun _ e => if q e = true then (.inl () : Unit ⊕ (Int ⊕ R)) else .inr (.inr a)) (fun _ => .inl (l.length : Int)) (fun _ => True) (f := f) (fun i e s h _ => by
    rw [hb i e h]; split <;> rfl) (fun _ _ _ _ _ _ => trivial) (fun _ _ => he) () trivial
  have h0 : loopC f 0 = _ := this
  rw [h0, runL_all]
  simp only [Option.bind_some]
  split <;> rfl

/-! ### Names of a path -/
theorem anyS_eq (l : List (List UInt8)) (hl : l.length ≤ MX) (f1 : FuncId) (c1 : List DV) (p1 : List UInt8 → Option Bool) (h1) (q : List UInt8 → Bool) (hq : ∀ a ∈ l, p1 a = some (q a)) :
    m_slices_ContainsFunc_string_string l f1 c1 p1 h1 = some (l.any q) := by
  unfold MX at hl
  unfold m_slices_ContainsFunc_string_string sims_G7_1_0; dsimp only
  unfold m_slices_IndexFunc_string_string sims_G7_0_0; dsimp only
  generalize hf : (fun s : Int => _) = f
  have key := loop_first (f := f) (z := .inl (l.length : Int)) (fun i : Nat => (i : Int)) l.length (fun i => match l[i]? with | some o => if q o = true then some (.inr (i : Int)) else none | none => none) (fun i hi hg => by
    subst hf
    obtain ⟨e, he⟩ := get_lt hi
    simp only [he] at hg
    cases hb : q e with
    | true => simp [hb] at hg
    | false => simp only [lt_dec hi, cond_true, getI_nat, he, Option.bind_some, hq e (List.mem_of_getElem? he), hb, cond_false, wrapN i (by omega)]) (fun i a hi hg => by
    subst hf
    obtain ⟨e, he⟩ := get_lt hi
    simp only [he] at hg
    cases hb : q e with
    | false => simp [hb] at hg
    | true =>
      simp only [hb, if_true, Option.some.injEq] at hg
      simp only [lt_dec hi, cond_true, getI_nat, he, Option.bind_some, hq e (List.mem_of_getElem? he), hb, ← hg]; rfl) (by
    subst hf
    simp only [lt_dec_self, cond_false]; rfl)
  rw [show ((0 : Nat) : Int) = 0 from rfl] at key
  rw [key]
  rcases firstS_cases (fun i => match l[i]? with | some o => if q o = true then some (.inr (i : Int)) else none | none => (none : Option (Int ⊕ Int))) l.length with ⟨h1, h2⟩ | ⟨k, a, h1, h2, h3, h4⟩
  · rw [h1]
    have : l.any q = false := by
      rw [List.any_eq_false]
      intro x hx
      obtain ⟨i, hi, rfl⟩ := List.mem_iff_getElem.1 hx
      have := h2 i hi
      simp only [List.getElem?_eq_getElem hi] at this
      intro hb; simp [hb] at this
    rw [this]; rfl
  · rw [h4]
    obtain ⟨e, he⟩ := get_lt h1
    simp only [he] at h3
    cases hb : q e with
    | false => simp [hb] at h3
    | true =>
      simp only [hb, if_true, Option.some.injEq] at h3
      have : l.any q = true := List.any_eq_true.2 ⟨e, List.mem_of_getElem? he, hb⟩
      rw [this, ← h3]
      simp [outK]
theorem any_not (l : List (List UInt8)) : (!l.any fun s => !nameF s) = l.all nameF := by
  induction l with
  | nil => rfl
  | cons a l ih => simp only [List.any_cons, List.all_cons, Bool.not_or, Bool.not_not, ih]
theorem names_eq {s : List UInt8} (hs : s.length ≤ 200) : m_scheme_namesOf s = some (Lib.split s [47], (Lib.split s [47]).all nameF) := by
  obtain ⟨L, t, h, hsp⟩ := Pcs.of (c := 47) (s := s)
  obtain ⟨l1, l2, l3⟩ := h.len
  have hMX : MX = 9223372036854775807 := rfl
  have hm : m_strings_Split s [47] = some (Lib.split s [47]) := by
    unfold m_strings_Split; rw [if_pos ⟨by omega, by decide⟩]
  have hle : ∀ e ∈ Lib.split s [47], e.length ≤ MX := fun e he => by
    rw [hsp] at he
    rcases List.mem_append.1 he with he | he
    · have := l3 e he; omega
    · rw [List.mem_singleton.1 he]; omega
  unfold m_scheme_namesOf sims_G7_2_0; dsimp only
  rw [hm]
  simp only [Option.bind_some]
  rw [anyS_eq _ (by rw [hsp]; simp only [List.length_append, List.length_cons, List.length_nil]; omega) _ _ _ _ (fun s => !nameF s) (fun a ha => by
    unfold m_scheme_namesOf_1 sims_G7_0_1; dsimp only
    rw [w_name a (hle a ha)]; rfl)]
  simp only [Option.bind_some, any_not]
theorem groups_check (s : List UInt8) : m_scheme_CheckGroups s = some (if 200 < s.length then 2 else if s ≠ [] ∧ (Lib.split s [47]).all nameF = false then 10 else 0) := by
  unfold m_scheme_CheckGroups sims_G7_3_0; dsimp only
  by_cases h : 200 < s.length
  · rw [decide_eq_true (by omega), if_pos h]; rfl
  · rw [decide_eq_false (by omega), if_neg h, names_eq (by omega)]
    simp only [cond_false, Option.bind_some, andO_some]
    by_cases h0 : s = []
    · subst h0; rfl
    · rw [decide_eq_false h0]
      cases (Lib.split s [47]).all nameF <;> simp [h0]

/-! ### Groups -/
def kidsN (n : List UInt8) (l : List Br) : List (List Br) := l.flatMap fun b => if b.fName = n then [b.fKids] else []
def insF : List (List UInt8) → List Br → List (List Br)
  | [], l => [l]
  | n :: ns, l => (kidsN n l).flatMap (insF ns)
def levF : List (List UInt8) → List (List Br) → List (List Br)
  | [], ls => ls
  | n :: ns, ls => levF ns (ls.flatMap (kidsN n))
theorem lev_ins : ∀ (ns : List (List UInt8)) (ls : List (List Br)), levF ns ls = ls.flatMap (insF ns)
  | [], ls => by
    show ls = ls.flatMap fun l => [l]
    induction ls with
    | nil => rfl
    | cons a l ih => rw [List.flatMap_cons, ← ih]; rfl
  | n :: ns, ls => by
    show levF ns (ls.flatMap (kidsN n)) = _
    rw [lev_ins ns, flatMap_flatMap]; rfl
abbrev T7 (l : List Br) : Prop := TOk 7 l
abbrev L7 (l : List Br) : Nat := leaves 7 l
theorem t7_kids {l : List Br} (h : T7 l) {b : Br} (hb : b ∈ l) (hn : b.fName ≠ []) : T7 b.fKids ∧ 1 ≤ L7 b.fKids ∧ badHead b.fKids = false ∧ L7 b.fKids = leaves 6 b.fKids := by
  rcases h b hb with h | ⟨h1, h2, h3, h4⟩
  · exact absurd h.1 hn
  · have e := leaves_up 6 h4
    exact ⟨tok_up 6 h4, by show 1 ≤ leaves 7 _; rw [e]; exact leaf_pos 6 h4 h3, h3, e⟩
theorem kidsN_mem {n : List UInt8} {l : List Br} {k : List Br} (h : k ∈ kidsN n l) : ∃ b ∈ l, b.fName = n ∧ b.fKids = k := by
  obtain ⟨b, hb, hk⟩ := List.mem_flatMap.1 h
  split at hk
  · rename_i hn; exact ⟨b, hb, hn, (List.mem_singleton.1 hk).symm⟩
  · cases hk
theorem kidsN_ok {n : List UInt8} (hn : n ≠ []) {l : List Br} (h : T7 l) : (∀ k ∈ kidsN n l, T7 k ∧ 1 ≤ L7 k) ∧ ((kidsN n l).map L7).sum ≤ L7 l ∧ (kidsN n l).length ≤ L7 l := by
  refine ⟨fun k hk => ?_, ?_, ?_⟩
  · obtain ⟨b, hb, h1, rfl⟩ := kidsN_mem hk
    have := t7_kids h hb (by rw [h1]; exact hn)
    exact ⟨this.1, this.2.1⟩
  · show ((l.flatMap _).map L7).sum ≤ (l.map _).sum
    rw [sum_flatMap]
    refine sum_map_le fun b hb => ?_
    split
    · rename_i h1
      have := t7_kids h hb (by rw [h1]; exact hn)
      rw [if_neg (by rw [h1]; exact hn)]
      simp only [List.map_cons, List.map_nil, List.sum_cons, List.sum_nil, Nat.add_zero]
      exact Nat.le_of_eq this.2.2.2
    · simp
  · show (l.flatMap _).length ≤ (l.map _).sum
    refine flatMap_len fun b hb => ?_
    split
    · rename_i h1
      have := t7_kids h hb (by rw [h1]; exact hn)
      rw [if_neg (by rw [h1]; exact hn), ← this.2.2.2]
      exact this.2.1
    · simp
/-- Lists that are right, and have so many segments together. -/
structure LsOk (ls : List (List Br)) : Prop where
  all : ∀ l ∈ ls, T7 l
  sum : (ls.map L7).sum ≤ 2000
  len : ls.length ≤ 2000
theorem LsOk.step {ls : List (List Br)} (h : LsOk ls) {n : List UInt8} (hn : n ≠ []) : LsOk (ls.flatMap (kidsN n)) := by
  refine ⟨fun k hk => ?_, ?_, ?_⟩
  · obtain ⟨l, hl, hk⟩ := List.mem_flatMap.1 hk
    exact ((kidsN_ok hn (h.all l hl)).1 k hk).1
  · rw [sum_flatMap]
    exact Nat.le_trans (sum_map_le fun l hl => (kidsN_ok hn (h.all l hl)).2.1) h.sum
  · exact Nat.le_trans (flatMap_len fun l hl => (kidsN_ok hn (h.all l hl)).2.2) h.sum
theorem LsOk.lens {ls : List (List Br)} (h : LsOk ls) : ∀ l ∈ ls, l.length ≤ 2000 := fun l hl => by
  have h1 := len_leaves 7 (h.all l hl)
  have h2 : ∀ (ls : List (List Br)), l ∈ ls → L7 l ≤ (ls.map L7).sum := fun ls => by
    induction ls with
    | nil => intro h; cases h
    | cons a ls ih =>
      intro h
      simp only [List.map_cons, List.sum_cons]
      rcases List.mem_cons.1 h with rfl | h
      · omega
      · have := ih h; omega
  have h3 := h2 ls hl
  have h4 := h.sum
  show l.length ≤ 2000
  have h5 : leaves 7 l = L7 l := rfl
  omega
theorem one_ok {l : List Br} (h : T7 l) (hL : L7 l ≤ 2000) : LsOk [l] := ⟨fun x hx => by rw [List.mem_singleton.1 hx]; exact h, by simpa using hL, by simp⟩
theorem lev_ok : ∀ {ns : List (List UInt8)} {ls : List (List Br)}, (∀ n ∈ ns, n ≠ []) → LsOk ls → LsOk (levF ns ls)
  | [], _, _, h => h
  | n :: ns, ls, hn, h => lev_ok (ns := ns) (fun m hm => hn m (by simp [hm])) (h.step (hn n (by simp)))
theorem lo_ok {R : Type} {n : Nat} {m : Option R} (h : n ≤ 10000000) : thenO (lenO n) m = m := thenO_some (lenO_ok (by omega))
theorem kids_eq {tree : List Br} {names : List (List UInt8)} (h : T7 tree) (hL : L7 tree ≤ 2000) (hn : ∀ n ∈ names, n ≠ []) (hlen : names.length ≤ 1000) : m_scheme_kidsOf tree names = some (levF names [tree]) := by
  unfold m_scheme_kidsOf sims_G7_0_2; dsimp only
  have key : ∀ (t : List (List UInt8)) (i : Nat) (ls : List (List Br)), names.drop i = t → i ≤ names.length → LsOk ls → ∀ {f : List (List Br) × Int → Option ((List (List Br) × Int) ⊕ ((List (List Br) × Int) ⊕ (List (List Br))))},
      (∀ s : List (List Br) × Int, f s = bif decide (s.snd < (names.length : Int)) then
                (getI names s.snd).bind fun e =>
                  (loopC
                        (fun s_1 : List (List Br) × Int =>
                          bif decide (s_1.snd < (s.fst.length : Int)) then
                            (getI s.fst s_1.snd).bind fun e_1 =>
                              (loopC
                                    (fun s : List (List Br) × Int =>
                                      bif decide (s.snd < (e_1.length : Int)) then
                                        (getI e_1 s.snd).bind fun e_2 =>
                                          bif decide (e_2.fName = e) then
                                            thenO (lenO (s.fst.length + [e_2.fKids].length))
                                              (some (Sum.inl (s.fst ++ [e_2.fKids], IntKind.i64.wrap (s.snd + 1))))
                                          else some (Sum.inl (s.fst, IntKind.i64.wrap (s.snd + 1)))
                                      else inrO (some (Sum.inl (s.fst, s.snd))))
                                    (s_1.fst, 0)).bind
                                (outK fun s => some (Sum.inl (s.fst, IntKind.i64.wrap (s_1.snd + 1))))
                          else inrO (some (Sum.inl (s_1.fst, s_1.snd))))
                        ([], 0)).bind
                    (outK fun s_1 => some (Sum.inl (s_1.fst, IntKind.i64.wrap (s.snd + 1))))
              else inrO (some (Sum.inl (s.fst, s.snd)))) → loopC f (ls, (i : Int)) = some (.inl (levF t ls, (names.length : Int))) := by
    intro t
    induction t with
    | nil =>
      intro i ls hd hi hls f hf
      have := drop_nil_len hd hi
      subst this
      rw [loopC_eq, hf]
      simp only [lt_dec_self, cond_false]; rfl
    | cons n t ih =>
      intro i ls hd hi hls f hf
      obtain ⟨h1, h2, h3⟩ := drop_head hd
      have hnn := hn n (List.mem_of_getElem? h1)
      have hstep := hls.step hnn
      have inner : f (ls, (i : Int)) = some (.inl (ls.flatMap (kidsN n), ((i + 1 : Nat) : Int))) := by
        rw [hf]
        simp only [lt_dec h2, cond_true, getI_nat, h1, Option.bind_some, wrapN i (by omega)]
        refine (app_loop ls [] (kidsN n) 2000 (by simpa using hstep.len) _ (fun k l out hk hout => ?_) (fun out => by simp only [lt_dec_self, cond_false]; rfl)).trans ?_
        · have hk2 := get_le hk
          have hkl := hls.len
          have hll := hls.lens l (List.mem_of_getElem? hk)
          simp only [lt_dec hk2, cond_true, getI_nat, hk, Option.bind_some, wrapN k (by omega)]
          refine (app_loop l out (fun b => if b.fName = n then [b.fKids] else []) 2000 (by rw [List.length_append]; exact hout) _ (fun j b o hj ho => ?_) (fun out => by simp only [lt_dec_self, cond_false]; rfl)).trans ?_
          · have hj2 := get_le hj
            simp only [lt_dec hj2, cond_true, getI_nat, hj, Option.bind_some, wrapN j (by omega)]
            by_cases hb : b.fName = n
            · rw [decide_eq_true hb, if_pos hb]
              simp only [cond_true]
              rw [if_pos hb] at ho
              rw [lo_ok (by omega)]
            · rw [decide_eq_false hb, if_neg hb]
              simp
          · rfl
        · rfl
      rw [loopC_eq, inner]
      exact ih (i + 1) _ h3 h2 hstep hf
  rw [show (0 : Int) = ((0 : Nat) : Int) from rfl]
  refine bind_loop (key names 0 [tree] rfl (Nat.zero_le _) (one_ok h hL) (fun s => rfl)) rfl
end Go.Proofs.YtdkncdkdbddgoaaDoor

/-
  Plain laws: numbers of a path; the last mark.
-/
namespace Go.Proofs.YtdkncdkdbddgoaaDoor
set_option linter.unusedSimpArgs false
set_option linter.unusedVariables false
open Go.RowKit

def isD (b : UInt8) : Bool := !(decide ((b.toNat : Int) < 48) || decide (57 < (b.toNat : Int)))
theorem isD_iff (b : UInt8) : isD b = true ↔ 48 ≤ b.toNat ∧ b.toNat ≤ 57 := by
  unfold isD
  simp only [Bool.not_eq_true', Bool.or_eq_false_iff, decide_eq_false_iff_not]
  omega
def h48 : List UInt8 → Bool
  | b :: _ => decide ((b.toNat : Int) = 48)
  | [] => false
def numOk (l : List UInt8) : Bool := !decide (l = []) && !decide (3 < (l.length : Int)) && l.all isD && !(decide (1 < (l.length : Int)) && h48 l)
noncomputable def numV (l : List UInt8) : Int := (m_strconv_Atoi l).getD 0
theorem dec_some : ∀ (l : List UInt8) (a : Nat), l.all isD = true → ∃ n, Lib.decFrom a l = some n
  | [], a, _ => ⟨a, rfl⟩
  | b :: l, a, h => by
    simp only [List.all_cons, Bool.and_eq_true] at h
    obtain ⟨n, hn⟩ := dec_some l (a * 10 + (b.toNat - 48)) h.2
    refine ⟨n, ?_⟩
    unfold Lib.decFrom Lib.digitVal
    rw [if_pos ((isD_iff b).1 h.1)]
    exact hn
theorem atoi_ok {l : List UInt8} (h1 : l ≠ []) (h2 : l.length ≤ 18) (h3 : l.all isD = true) : m_strconv_Atoi l = some (numV l) := by
  have : ∃ n, m_strconv_Atoi l = some n := by
    unfold m_strconv_Atoi
    rw [if_pos h2]
    cases l with
    | nil => exact absurd rfl h1
    | cons b r =>
      have hb := (isD_iff b).1 (by simp only [List.all_cons, Bool.and_eq_true] at h3; exact h3.1)
      obtain ⟨n, hn⟩ := dec_some (b :: r) 0 h3
      refine ⟨(n : Int), ?_⟩
      have e1 : (b == 45) = false := by rw [beq_eq_false_iff_ne]; rintro rfl; revert hb; decide
      have e2 : (b == 43) = false := by rw [beq_eq_false_iff_ne]; rintro rfl; revert hb; decide
      have e3 : Lib.decNat (b :: r) = some n := by unfold Lib.decNat; rw [if_neg (by simp)]; exact hn
      simp only [Lib.atoi, e1, e2, e3]
      rfl
  obtain ⟨n, hn⟩ := this
  unfold numV
  rw [hn]; rfl
theorem inb_dig (l : List UInt8) (hl : l.length ≤ 1000) : m_kit_InBytes l (UInt8.ofNat (Int.toNat 48)) (UInt8.ofNat (Int.toNat 57)) = some (l.all isD) := by
  have a1 : ((UInt8.ofNat (Int.toNat 48)).toNat : Int) = 48 := by decide
  have a2 : ((UInt8.ofNat (Int.toNat 57)).toNat : Int) = 57 := by decide
  unfold m_kit_InBytes sims_G6_0_0; dsimp only
  refine (loop_allU l isD false (fun i e he => ?_) (by simp only [lt_dec_self, cond_false]; rfl)).trans ?_
  · have hi := get_le he
    simp only [lt_dec hi, cond_true, getI_nat, he, Option.bind_some, orO_some, wrapN i (by omega), a1, a2]
    unfold isD
    cases (decide ((e.toNat : Int) < 48) || decide (57 < (e.toNat : Int))) <;> rfl
  · cases l.all isD <;> rfl
theorem num_p (l : List UInt8) (hl : l.length ≤ 1000) : m_kit_Number l 3 = some (if numOk l = true then (numV l, true) else (0, false)) := by
  have hd : m_kit_IsDigits l = some (!decide (l = []) && l.all isD) := by
    unfold m_kit_IsDigits sims_G7_0_4; dsimp only
    rw [inb_dig l hl]
    simp only [Option.bind_some, andO_some]
  unfold m_kit_Number sims_G7_1_2; dsimp only
  rw [hd]
  unfold numOk
  cases l with
  | nil => rfl
  | cons b r =>
    have hg : getI (b :: r) 0 = some b := rfl
    simp only [hg, Option.bind_some, orO_some, andO_some, h48, show decide (b :: r = []) = false from rfl, Bool.not_false, Bool.true_and]
    cases h1 : decide (3 < ((b :: r).length : Int)) with
    | true => rfl
    | false =>
    cases h2 : (b :: r).all isD with
    | false => rfl
    | true =>
    cases h3 : (decide (1 < ((b :: r).length : Int)) && decide ((b.toNat : Int) = 48)) with
    | true => rfl
    | false =>
      simp only [Bool.not_true, Bool.or_self, Bool.not_false, Bool.and_self, cond_false, if_true]
      rw [atoi_ok (by simp) (by have := of_decide_eq_false h1; omega) h2]
      rfl
/-- A number from 1 to most. -/
noncomputable def numE (most : Int) (l : List UInt8) : Option Int := if numOk l = true ∧ 1 ≤ numV l ∧ numV l ≤ most then some (numV l) else none
theorem out_eq (n lo hi : Int) : m_kit_Outside n lo hi = some (decide (n < lo) || decide (hi < n)) := by
  unfold m_kit_Outside sims_G7_0_5; dsimp only
  simp only [orO_some, Option.bind_some]
/-! ### The last mark -/
theorem u47 (e : UInt8) : decide ((e.toNat : Int) = ((UInt8.ofNat (Int.toNat 47)).toNat : Int)) = decide (e = 47) := by
  have a : ((UInt8.ofNat (Int.toNat 47)).toNat : Int) = 47 := by decide
  rw [a]
  by_cases h : e = 47
  · subst h; rfl
  · rw [decide_eq_false h, decide_eq_false]
    intro h2
    apply h
    apply UInt8.toNat_inj.1
    have : (47 : UInt8).toNat = 47 := rfl
    omega
theorem last_none {t : List UInt8} (ht : ∀ b ∈ t, b ≠ (47 : UInt8)) (hl : t.length ≤ 1000) : m_strings_LastIndexByte t (UInt8.ofNat (Int.toNat 47)) = some (-1) := by
  unfold m_strings_LastIndexByte sims_G7_1_1; dsimp only
  unfold m_internal_bytealg_LastIndexByteString sims_G7_0_3; dsimp only
  have key : ∀ {f : Int → Option (Int ⊕ (Int ⊕ Int))}, (∀ s, f s = bif decide (0 ≤ s) then (getI t s).bind fun e => bif decide ((e.toNat : Int) = ((UInt8.ofNat (Int.toNat 47)).toNat : Int)) then inrO (inrO (some s)) else some (Sum.inl (IntKind.i64.wrap (s - 1))) else inrO (some (Sum.inl s))) →
      loopC f ((t.length : Int) - 1) = some (.inl (-1)) := fun {f} hf => by
    have := loop_trace (f := f) (a := .inl (-1)) (fun k => (t.length : Int) - 1 - (k : Int)) t.length (fun i hi => by
      obtain ⟨e, he⟩ := get_lt (show t.length - 1 - i < t.length by omega)
      rw [hf, decide_eq_true (by omega), show (t.length : Int) - 1 - (i : Int) = ((t.length - 1 - i : Nat) : Int) by omega, getI_nat, he]
      simp only [cond_true, Option.bind_some, u47, decide_eq_false (ht e (List.mem_of_getElem? he)), cond_false]
      rw [wrap64 _ (by omega) (by omega)]
      congr 2; omega) (by
      rw [hf, decide_eq_false (by omega)]
      simp only [cond_false]
      rw [show (t.length : Int) - 1 - (t.length : Int) = -1 by omega]; rfl)
    simpa using this
  rw [wrap64 _ (by omega) (by omega), key fun s => rfl]
  rfl
theorem last_at {p t : List UInt8} (ht : ∀ b ∈ t, b ≠ (47 : UInt8)) (hl : (p ++ 47 :: t).length ≤ 1000) : m_strings_LastIndexByte (p ++ 47 :: t) (UInt8.ofNat (Int.toNat 47)) = some (p.length : Int) := by
  have hlen : (p ++ (47 : UInt8) :: t).length = p.length + t.length + 1 := by simp; omega
  unfold m_strings_LastIndexByte sims_G7_1_1; dsimp only
  unfold m_internal_bytealg_LastIndexByteString sims_G7_0_3; dsimp only
  have key : ∀ {f : Int → Option (Int ⊕ (Int ⊕ Int))}, (∀ s, f s = bif decide (0 ≤ s) then (getI (p ++ 47 :: t) s).bind fun e => bif decide ((e.toNat : Int) = ((UInt8.ofNat (Int.toNat 47)).toNat : Int)) then inrO (inrO (some s)) else some (Sum.inl (IntKind.i64.wrap (s - 1))) else inrO (some (Sum.inl s))) →
      loopC f (((p ++ (47 : UInt8) :: t).length : Int) - 1) = some (.inr (p.length : Int)) := fun {f} hf => by
    have := loop_trace (f := f) (a := .inr (p.length : Int)) (fun k => ((p ++ (47 : UInt8) :: t).length : Int) - 1 - (k : Int)) t.length (fun i hi => by
      obtain ⟨e, he⟩ := get_lt (show t.length - 1 - i < t.length by omega)
      have hix : (p ++ (47 : UInt8) :: t)[p.length + 1 + (t.length - 1 - i)]? = some e := by
        rw [List.getElem?_append_right (by omega), show p.length + 1 + (t.length - 1 - i) - p.length = (t.length - 1 - i) + 1 by omega, List.getElem?_cons_succ]
        exact he
      rw [hf, decide_eq_true (by omega), show ((p ++ (47 : UInt8) :: t).length : Int) - 1 - (i : Int) = ((p.length + 1 + (t.length - 1 - i) : Nat) : Int) by omega, getI_nat, hix]
      simp only [cond_true, Option.bind_some, u47, decide_eq_false (ht e (List.mem_of_getElem? he)), cond_false]
      rw [wrap64 _ (by omega) (by omega)]
      congr 2; omega) (by
      have hix : (p ++ (47 : UInt8) :: t)[p.length]? = some 47 := by simp
      rw [hf, decide_eq_true (by omega), show ((p ++ (47 : UInt8) :: t).length : Int) - 1 - (t.length : Int) = ((p.length : Nat) : Int) by omega, getI_nat, hix]
      simp only [cond_true, Option.bind_some, u47, decide_true]; rfl)
    simpa using this
  rw [wrap64 _ (by omega) (by omega), key fun s => rfl]
  rfl
end Go.Proofs.YtdkncdkdbddgoaaDoor

/-
  Plain laws: Groups of the program; copies of trees.
-/
namespace Go.Proofs.YtdkncdkdbddgoaaDoor
set_option linter.unusedSimpArgs false
set_option linter.unusedVariables false
open Go.RowKit

theorem mem_sum {α : Type} {g : α → Nat} {x : α} : ∀ {l : List α}, x ∈ l → g x ≤ (l.map g).sum
  | [], h => by cases h
  | a :: l, h => by
    simp only [List.map_cons, List.sum_cons]
    rcases List.mem_cons.1 h with rfl | h
    · omega
    · have := mem_sum (g := g) h; omega
theorem set_same {α : Type} {l : List α} {i : Nat} {e : α} (h : l[i]? = some e) : l.set i e = l := by
  apply List.ext_getElem?
  intro j
  by_cases hj : i = j
  · subst hj
    rw [List.getElem?_set_self (get_le h), h]
  · rw [List.getElem?_set_ne hj]
theorem kid_lt {d : Nat} {l : List Br} {b : Br} (hb : b ∈ l) (hn : b.fName ≠ []) : leaves d b.fKids ≤ leaves (d + 1) l := by
  have := mem_sum (g := fun b : Br => if b.fName = [] then 1 else leaves d b.fKids) hb
  simp only [hn, if_false] at this
  exact this
theorem bare_clone {s : Tapi_Segment} (h : bareF s = true) : cloneOk s := by
  unfold bareF at h
  simp only [Bool.and_eq_true, decide_eq_true_eq] at h
  have : s.fElements = [] := List.length_eq_zero_iff.1 (by omega)
  refine ⟨by rw [this]; simp, fun e he => by rw [this] at he; cases he⟩
theorem seg_clone {d : Nat} {l : List Br} (h : TOk d l) {b : Br} (hb : b ∈ l) : cloneOk b.fSegment := by
  cases d with
  | zero => have h : l = [] := h; subst h; cases hb
  | succ d =>
    rcases h b hb with h | ⟨_, h2, _⟩
    · exact seg_ok h.2.1
    · exact bare_clone h2
theorem clone_step {fu : Nat} {l : List Br} (hl : l.length ≤ 2000) (h : ∀ b ∈ l, cloneOk b.fSegment ∧ m_scheme_CloneTree fu b.fKids = some b.fKids) : m_scheme_CloneTree (fu + 1) l = some l := by
  rw [m_scheme_CloneTree_succ]; unfold step_G7_0_8; dsimp only; simp only [m_scheme_CloneTree_fold]
  have hc : m_slices_Clone_interchange_api_Branch_interchange_api_Branch l = some l := by
    unfold m_slices_Clone_interchange_api_Branch_interchange_api_Branch; rw [if_pos (by omega)]
  rw [hc]
  simp only [Option.bind_some]
  refine bind_loop (a := .inl (l, (l.length : Int))) (loop_trace (fun i => (l, (i : Int))) l.length (fun i hi => ?_) (by simp only [lt_dec_self, cond_false]; rfl)) rfl
  obtain ⟨e, he⟩ := get_lt hi
  obtain ⟨h1, h2⟩ := h e (List.mem_of_getElem? he)
  have hw : m_wire_Clone e.fSegment = some e.fSegment := by unfold m_wire_Clone; rw [if_pos h1]
  have hs : l.set i e = l := set_same he
  simp only [lt_dec hi, cond_true, getI_nat, he, Option.bind_some, Int.toNat_natCast, hw, h2, Tapi_Branch_eta, hs, wrapN i (by omega)]
theorem clone_tree : ∀ (d : Nat) (fu : Nat) {l : List Br}, d < fu → TOk d l → leaves d l ≤ 2000 → m_scheme_CloneTree fu l = some l
  | d, 0, _, h, _, _ => by omega
  | 0, fu + 1, l, _, h, _ => by
    have h : l = [] := h
    subst h
    exact clone_step (by simp) fun b hb => by cases hb
  | d + 1, fu + 1, l, hd, h, hL => by
    have hlen := len_leaves (d + 1) h
    refine clone_step (by omega) fun b hb => ⟨seg_clone h hb, ?_⟩
    rcases h b hb with h | ⟨h1, h2, h3, h4⟩
    · rw [h.2.2]
      cases fu with
      | zero => omega
      | succ fu => exact clone_step (by simp) fun b hb => by cases hb
    · exact clone_tree d fu (by omega) h4 (Nat.le_trans (kid_lt hb h1) hL)
def namesF (s : List UInt8) : List (List UInt8) := if s = [] then [] else Lib.split s [47]
def grpBad (s : List UInt8) : Bool := decide (s ≠ []) && !(Lib.split s [47]).all nameF
/-- The groups at a path, of a tree. -/
def grpF (l : List Br) (s : List UInt8) : List (List Br) × Int :=
  if (ctF 8 l 0 0).1 ≠ 0 then ([], (ctF 8 l 0 0).1) else if 200 < s.length then ([], 2) else if grpBad s = true then ([], 10) else (insF (namesF s) l, 0)
theorem nm_ne {n : List UInt8} (h : nameF n = true) : n ≠ [] := by rintro rfl; cases h
theorem names_ne {s : List UInt8} (h : grpBad s = false) : ∀ n ∈ namesF s, n ≠ [] := fun n hn => by
  unfold namesF at hn
  split at hn
  · cases hn
  · rename_i h0
    unfold grpBad at h
    rw [decide_eq_true h0] at h
    simp only [Bool.true_and, Bool.not_eq_false'] at h
    exact nm_ne (List.all_eq_true.1 h n hn)
theorem names_len {s : List UInt8} (hs : s.length ≤ 200) : (namesF s).length ≤ 201 := by
  unfold namesF
  split
  · simp
  · obtain ⟨L, t, h, hsp⟩ := Pcs.of (c := 47) (s := s)
    obtain ⟨l1, l2, l3⟩ := h.len
    rw [hsp]; simp only [List.length_append, List.length_cons, List.length_nil]; omega
theorem flat_self {α : Type} : ∀ l : List α, l.flatMap (fun a => [a]) = l
  | [] => rfl
  | a :: l => by rw [List.flatMap_cons, flat_self l]; rfl
theorem tree_l7 {l : List Br} (h : (ctF 8 l 0 0).1 = 0) : T7 l ∧ L7 l ≤ 2000 := tree_ok h
theorem ins_ok {l : List Br} (h : T7 l) (hL : L7 l ≤ 2000) {ns : List (List UInt8)} (hn : ∀ n ∈ ns, n ≠ []) : LsOk (insF ns l) := by
  have := lev_ok hn (one_ok h hL)
  rw [lev_ins] at this
  simpa using this
theorem lev_one (ns : List (List UInt8)) (l : List Br) : levF ns [l] = insF ns l := by rw [lev_ins]; simp
theorem p_groups (l : List Br) (s : List UInt8) (hl : ∀ b ∈ l, ShB b) (hlen : l.length ≤ MX) : m_scheme_Groups l s = some (grpF l s) := by
  have hFU := FU_big
  unfold m_scheme_Groups sims_G7_4_0; dsimp only
  rw [p_check l hl hlen]
  unfold grpF
  simp only [Option.bind_some]
  by_cases hc : (ctF 8 l 0 0).1 = 0
  · rw [decide_eq_true hc, if_neg (by simp [hc]), groups_check]
    simp only [Bool.not_true, cond_false, Option.bind_some]
    by_cases h2 : 200 < s.length
    · rw [if_pos h2, if_pos h2]; rfl
    · rw [if_neg h2, if_neg h2]
      have hb : (s ≠ [] ∧ (Lib.split s [47]).all nameF = false) ↔ grpBad s = true := by unfold grpBad; simp
      simp only [hb]
      by_cases h3 : grpBad s = true
      · rw [if_pos h3, if_pos h3]; rfl
      · rw [if_neg h3, if_neg h3]
        have h3 : grpBad s = false := by simpa using h3
        obtain ⟨ht, hL⟩ := tree_l7 hc
        have hk : m_scheme_Kids l s = some (insF (namesF s) l) := by
          unfold m_scheme_Kids sims_G7_3_1; dsimp only
          unfold namesF
          by_cases h0 : s = []
          · rw [decide_eq_true h0, if_pos h0]; rfl
          · rw [decide_eq_false h0, if_neg h0, names_eq (by omega)]
            simp only [cond_false, Option.bind_some]
            have e1 : namesF s = Lib.split s [47] := if_neg h0
            rw [kids_eq ht hL (by rw [← e1]; exact names_ne h3) (by rw [← e1]; have := names_len (s := s) (by omega); omega), lev_one]
            rfl
        have ho := ins_ok ht hL (names_ne h3)
        rw [hk]
        simp only [decide_true, Bool.not_true, cond_false, Option.bind_some]
        refine (app_loop (insF (namesF s) l) [] (fun a => [a]) 2000 (by rw [flat_self]; simpa using ho.len) _ (fun i e out he hout => ?_) (fun out => by simp only [lt_dec_self, cond_false]; rfl)).trans ?_
        · have hi := get_le he
          have hlen := ho.len
          have hm := List.mem_of_getElem? he
          have hsum := mem_sum (g := L7) hm
          have h2000 := ho.sum
          simp only [lt_dec hi, cond_true, getI_nat, he, Option.bind_some, wrapN i (by omega)]
          rw [clone_tree 7 FU (by omega) (ho.all e hm) (by show L7 e ≤ 2000; omega)]
          simp only [Option.bind_some]
          simp only [List.length_cons, List.length_nil] at hout
          rw [lo_ok (by simp only [List.length_cons, List.length_nil]; omega)]
        · rw [flat_self]; rfl
  · rw [decide_eq_false hc, if_pos (by simpa using hc)]; rfl
end Go.Proofs.YtdkncdkdbddgoaaDoor

/-
  Plain laws: paths.
-/
namespace Go.Proofs.YtdkncdkdbddgoaaDoor
set_option linter.unusedSimpArgs false
set_option linter.unusedVariables false
open Go.RowKit

noncomputable def tailF : List (List UInt8) → Option (List UInt8 × Int × Int)
  | [a] => if tagF a = true then some (a, 0, 0) else none
  | [a, b] => if tagF a = true then (numE 50 b).map fun n => (a, n, 0) else none
  | [a, b, c] => if tagF a = true then (numE 50 b).bind fun n => (numE 20 c).map fun k => (a, n, k) else none
  | _ => none
/-- What a path says. -/
noncomputable def wayF (s : List UInt8) : Option (List (List UInt8) × List UInt8 × Int × Int) :=
  if (Lib.split s [47]).dropLast.all nameF = true then (tailF (Lib.split ((Lib.split s [47]).getLast?.getD []) [46])).map fun r => ((Lib.split s [47]).dropLast, r) else none

noncomputable def wLoopF (e_1 : List (List UInt8)) (s : Tscheme_Way × Tscheme_Way × Int) : Option ((Tscheme_Way × Tscheme_Way × Int) ⊕ ((Tscheme_Way × Tscheme_Way × Int) ⊕ (Tscheme_Way × Bool))) :=
  bif decide (s.snd.snd < (e_1.length : Int)) then
    (getI e_1 s.snd.snd).bind fun e =>
      (m_kit_Number e 3).bind fun x =>
        (orO (!x.snd) ((getI [50, 20] s.snd.snd).bind fun e => (m_kit_Outside x.fst 1 e).bind fun x => some x)).bind fun v =>
          bif v then inrO (inrO (some (s.snd.fst, false)))
          else
            bif decide (s.snd.snd = 0) then
              some (Sum.inl (s.fst, { fNames := s.snd.fst.fNames, fTag := s.snd.fst.fTag, fElement := x.fst, fPart := s.snd.fst.fPart }, IntKind.i64.wrap (s.snd.snd + 1)))
            else
              some (Sum.inl (s.fst, { fNames := s.snd.fst.fNames, fTag := s.snd.fst.fTag, fElement := s.snd.fst.fElement, fPart := x.fst }, IntKind.i64.wrap (s.snd.snd + 1)))
  else inrO (some (Sum.inl (s.fst, s.snd.fst, s.snd.snd)))
noncomputable def wTail (ns : List (List UInt8)) (e : List UInt8) : Option (Tscheme_Way × Bool) :=
  (m_strings_Split e [46]).bind fun x =>
    (orO (decide (3 < (x.length : Int))) ((getI x 0).bind fun e => (m_kit_IsTag e).bind fun x => some !x)).bind fun v =>
      bif v then some ({ fNames := ns, fTag := [], fElement := 0, fPart := 0 }, false)
      else
        (getI x 0).bind fun e =>
          (sliceI x ((some 1).getD 0) (none.getD (x.length : Int))).bind fun e_1 =>
            (loopC (wLoopF e_1) ({ fNames := [], fTag := [], fElement := 0, fPart := 0 }, { fNames := ns, fTag := e, fElement := 0, fPart := 0 }, 0)).bind
              (outK fun s => some (s.snd.fst, true))
theorem wl_end (r : List (List UInt8)) (w0 w : Tscheme_Way) : wLoopF r (w0, w, (r.length : Int)) = some (.inr (.inl (w0, w, (r.length : Int)))) := by
  unfold wLoopF
  simp only [lt_dec_self, cond_false]; rfl
theorem num_step {b : List UInt8} (hb : b.length ≤ 1000) {most : Int} {A : Type} {bad : Option A} {good : Int → Option A} :
    ((m_kit_Number b 3).bind fun x => (orO (!x.snd) ((some most).bind fun e => (m_kit_Outside x.fst 1 e).bind fun x => some x)).bind fun v => bif v then bad else good x.fst) = match numE most b with | some n => good n | none => bad := by
  rw [num_p b hb]
  unfold numE
  by_cases h : numOk b = true
  · simp only [h, if_true, Option.bind_some, out_eq, orO_some, Bool.not_true, Bool.false_or, true_and]
    by_cases hr : 1 ≤ numV b ∧ numV b ≤ most
    · rw [if_pos hr, decide_eq_false (by omega), decide_eq_false (by omega)]; rfl
    · have : (decide (numV b < 1) || decide (most < numV b)) = true := by
        rw [Bool.or_eq_true, decide_eq_true_eq, decide_eq_true_eq]; omega
      rw [if_neg hr, this]; rfl
  · simp only [h, Bool.false_eq_true, if_false, Option.bind_some, orO_some, Bool.not_false, Bool.true_or, false_and]; rfl
theorem wl_0 {b : List UInt8} (hb : b.length ≤ 1000) (r : List (List UInt8)) (w0 w : Tscheme_Way) : wLoopF (b :: r) (w0, w, 0) = match numE 50 b with | some n => some (.inl (w0, { fNames := w.fNames, fTag := w.fTag, fElement := n, fPart := w.fPart }, 1)) | none => some (.inr (.inr (w, false))) := by
  unfold wLoopF
  have h0 : getI (b :: r) 0 = some b := rfl
  have h1 : getI [(50 : Int), 20] 0 = some 50 := rfl
  have h2 : decide ((0 : Int) < ((b :: r).length : Int)) = true := decide_eq_true (by simp only [List.length_cons]; omega)
  simp only [h0, h1, h2, cond_true]
  rw [Option.bind_some]
  simp only [show decide ((0 : Int) = 0) = true from rfl, decide_true, cond_true, show IntKind.i64.wrap ((0 : Int) + 1) = 1 from rfl]
  exact num_step hb (most := 50) (A := (Tscheme_Way × Tscheme_Way × Int) ⊕ ((Tscheme_Way × Tscheme_Way × Int) ⊕ (Tscheme_Way × Bool))) (good := fun n => some (.inl (w0, { fNames := w.fNames, fTag := w.fTag, fElement := n, fPart := w.fPart }, 1)))
theorem wl_1 {b : List UInt8} (hb : b.length ≤ 1000) (a : List UInt8) (r : List (List UInt8)) (w0 w : Tscheme_Way) : wLoopF (a :: b :: r) (w0, w, 1) = match numE 20 b with | some n => some (.inl (w0, { fNames := w.fNames, fTag := w.fTag, fElement := w.fElement, fPart := n }, 2)) | none => some (.inr (.inr (w, false))) := by
  unfold wLoopF
  have h0 : getI (a :: b :: r) 1 = some b := rfl
  have h1 : getI [(50 : Int), 20] 1 = some 20 := rfl
  have h2 : decide ((1 : Int) < ((a :: b :: r).length : Int)) = true := decide_eq_true (by simp only [List.length_cons]; omega)
  simp only [h0, h1, h2, cond_true]
  rw [Option.bind_some]
  simp only [show decide ((1 : Int) = 0) = false from rfl, cond_false, show IntKind.i64.wrap ((1 : Int) + 1) = 2 from rfl]
  exact num_step hb (most := 20) (A := (Tscheme_Way × Tscheme_Way × Int) ⊕ ((Tscheme_Way × Tscheme_Way × Int) ⊕ (Tscheme_Way × Bool))) (good := fun n => some (.inl (w0, { fNames := w.fNames, fTag := w.fTag, fElement := w.fElement, fPart := n }, 2)))
theorem split_le (c : UInt8) (s : List UInt8) : (∀ e ∈ Lib.split s [c], e.length ≤ s.length) ∧ Lib.split s [c] ≠ [] ∧ (Lib.split s [c]).length ≤ s.length + 1 := by
  obtain ⟨L, t, h, hsp⟩ := Pcs.of (c := c) (s := s)
  obtain ⟨l1, l2, l3⟩ := h.len
  rw [hsp]
  refine ⟨fun e he => ?_, by simp, by simp only [List.length_append, List.length_cons, List.length_nil]; omega⟩
  rcases List.mem_append.1 he with he | he
  · exact l3 e he
  · rw [List.mem_singleton.1 he]; exact l2
theorem sl_tail {α : Type} (a : α) (r : List α) : sliceI (a :: r) ((some 1).getD 0) (Option.none.getD ((a :: r).length : Int)) = some r := by
  unfold sliceI
  rw [if_pos (by simp only [List.length_cons, Option.getD_some, Option.getD_none]; omega)]
  simp
theorem w_tail (ns : List (List UInt8)) (e : List UInt8) (he : e.length ≤ 200) : ∃ w, wTail ns e = some (w, (tailF (Lib.split e [46])).isSome) ∧ ∀ a n k, tailF (Lib.split e [46]) = some (a, n, k) → w = ⟨ns, a, n, k⟩ := by
  obtain ⟨h1, h2, h3⟩ := split_le 46 e
  have hm : m_strings_Split e [46] = some (Lib.split e [46]) := by
    unfold m_strings_Split; rw [if_pos ⟨by omega, by decide⟩]
  have hMX : MX = 9223372036854775807 := rfl
  unfold wTail
  rw [hm]
  simp only [Option.bind_some]
  revert h1 h2
  generalize Lib.split e [46] = l
  intro h1 h2
  match l, h1, h2 with
  | [], _, h2 => exact absurd rfl h2
  | a :: r, h1, _ =>
    have h0 : getI (a :: r) 0 = some a := rfl
    have hla := h1 a (by simp)
    simp only [h0, Option.bind_some, w_tag a (by omega), orO_some, sl_tail]
    by_cases hlong : 3 < ((a :: r).length : Int)
    · rw [decide_eq_true hlong]
      have : tailF (a :: r) = none := by
        match r, hlong with
        | [], h => simp at h
        | [b], h => simp at h
        | [b, c], h => simp at h
        | b :: c :: d :: r, _ => rfl
      rw [this]
      exact ⟨_, rfl, fun _ _ _ h => by cases h⟩
    · rw [decide_eq_false hlong]
      cases ht : tagF a with
      | false =>
        have : tailF (a :: r) = none := by
          match r, hlong with
          | [], _ => simp [tailF, ht]
          | [b], _ => simp [tailF, ht]
          | [b, c], _ => simp [tailF, ht]
          | b :: c :: d :: r, h => simp only [List.length_cons] at h; omega
        rw [this]
        exact ⟨_, rfl, fun _ _ _ h => by cases h⟩
      | true =>
        simp only [Bool.not_true, Bool.or_self, cond_false]
        match r, hlong, h1 with
        | [], _, _ =>
          have hend := wl_end [] ⟨[], [], 0, 0⟩ ⟨ns, a, 0, 0⟩
          rw [show ((([] : List (List UInt8)).length : Nat) : Int) = 0 from rfl] at hend
          rw [loopC_eq, hend]
          simp only [tailF, ht, if_true]
          exact ⟨_, rfl, fun a' n k h => by cases h; rfl⟩
        | [b], _, h1 =>
          have hlb := h1 b (by simp)
          have hend := fun w => wl_end [b] ⟨[], [], 0, 0⟩ w
          rw [show ((([b] : List (List UInt8)).length : Nat) : Int) = 1 from rfl] at hend
          rw [loopC_eq, wl_0 (by omega)]
          simp only [tailF, ht, if_true]
          cases hb : numE 50 b with
          | none => exact ⟨_, rfl, fun a' n k h => by cases h⟩
          | some n =>
            simp only
            rw [loopC_eq, hend]
            exact ⟨_, rfl, fun a' n k h => by cases h; rfl⟩
        | [b, c], _, h1 =>
          have hlb := h1 b (by simp)
          have hlc := h1 c (by simp)
          have hend := fun w => wl_end [b, c] ⟨[], [], 0, 0⟩ w
          rw [show ((([b, c] : List (List UInt8)).length : Nat) : Int) = 2 from rfl] at hend
          rw [loopC_eq, wl_0 (by omega)]
          simp only [tailF, ht, if_true]
          cases hb : numE 50 b with
          | none => exact ⟨_, rfl, fun a' n k h => by cases h⟩
          | some n =>
            simp only
            rw [loopC_eq, wl_1 (by omega)]
            cases hc : numE 20 c with
            | none => exact ⟨_, rfl, fun a' n k h => by cases h⟩
            | some k =>
              simp only
              rw [loopC_eq, hend]
              exact ⟨_, rfl, fun a' n k h => by cases h; rfl⟩
        | b :: c :: d :: r, h, _ => simp only [List.length_cons] at h; omega
theorem way_eq (s : List UInt8) (hs : s.length ≤ 200) : ∃ w, m_scheme_WayOf s = some (w, (wayF s).isSome) ∧ ∀ ns a n k, wayF s = some (ns, a, n, k) → w = ⟨ns, a, n, k⟩ := by
  obtain ⟨L, t, h, hsp⟩ := Pcs.of (c := 47) (s := s)
  obtain ⟨l1, l2, l3⟩ := h.len
  have e1 : (Lib.split s [47]).dropLast = L := by rw [hsp]; simp
  have e2 : (Lib.split s [47]).getLast?.getD [] = t := by rw [hsp]; simp
  obtain ⟨w, hw1, hw2⟩ := w_tail L t (by omega)
  unfold wayF
  rw [e1, e2]
  unfold m_scheme_WayOf sims_G7_3_2; dsimp only
  by_cases hL : L = []
  · subst hL
    have hst : s = t := by have := h.eq; simpa using this
    subst hst
    rw [last_none h.nt (by omega)]
    simp only [Option.bind_some, show decide ((0 : Int) ≤ -1) = false from rfl, cond_false, List.all_nil, if_true, Option.isSome_map]
    refine ⟨w, hw1, fun ns a n k hk => ?_⟩
    cases ht : tailF (Lib.split s [46]) with
    | none => rw [ht] at hk; cases hk
    | some r =>
      obtain ⟨a', n', k'⟩ := r
      rw [ht] at hk
      cases hk
      exact hw2 _ _ _ ht
  · obtain ⟨p, hp, hsplit⟩ := pcs_init h hL
    subst hp
    have hlen : (p ++ (47 : UInt8) :: t).length = p.length + t.length + 1 := by simp; omega
    have s1 : sliceI (p ++ (47 : UInt8) :: t) (Option.none.getD 0) ((some (p.length : Int)).getD ((p ++ (47 : UInt8) :: t).length : Int)) = some p := by
      unfold sliceI
      rw [if_pos (by simp only [Option.getD_none, Option.getD_some]; omega)]
      simp
    have s2 : sliceI (p ++ (47 : UInt8) :: t) ((some (IntKind.i64.wrap ((p.length : Int) + 1))).getD 0) (Option.none.getD ((p ++ (47 : UInt8) :: t).length : Int)) = some t := by
      rw [wrapN p.length (by omega)]
      unfold sliceI
      rw [if_pos (by simp only [Option.getD_none, Option.getD_some]; omega)]
      simp only [Option.getD_none, Option.getD_some, Int.toNat_natCast, List.take_length, Option.some.injEq]
      rw [show p.length + 1 = (p ++ [(47 : UInt8)]).length by simp, show p ++ (47 : UInt8) :: t = (p ++ [47]) ++ t by simp]
      exact List.drop_left
    rw [last_at h.nt (by omega)]
    simp only [Option.bind_some, decide_eq_true (Int.natCast_nonneg p.length), cond_true]
    rw [s1]
    simp only [Option.bind_some]
    rw [names_eq (by omega), hsplit]
    simp only [Option.bind_some]
    cases hall : L.all nameF with
    | false =>
      simp only [Bool.not_false, cond_true, Bool.false_eq_true, if_false]
      exact ⟨_, rfl, fun _ _ _ _ h => by cases h⟩
    | true =>
      simp only [Bool.not_true, cond_false, if_true, Option.isSome_map]
      rw [s2]
      simp only [Option.bind_some]
      refine ⟨w, hw1, fun ns a n k hk => ?_⟩
      cases ht : tailF (Lib.split t [46]) with
      | none => rw [ht] at hk; cases hk
      | some r =>
        obtain ⟨a', n', k'⟩ := r
        rw [ht] at hk
        cases hk
        exact hw2 _ _ _ ht
theorem p_path (s : List UInt8) : m_scheme_CheckPath s = some (if 200 < s.length then 2 else if (wayF s).isSome = true then 0 else 10) := by
  unfold m_scheme_CheckPath sims_G7_4_1; dsimp only
  by_cases h : 200 < s.length
  · rw [decide_eq_true (by omega), if_pos h]; rfl
  · rw [decide_eq_false (by omega), if_neg h]
    obtain ⟨w, h1, _⟩ := way_eq s (by omega)
    rw [h1]
    simp only [cond_false, Option.bind_some]
    cases (wayF s).isSome <;> rfl
end Go.Proofs.YtdkncdkdbddgoaaDoor

/-
  Plain laws: what a path finds, in the program.
-/
namespace Go.Proofs.YtdkncdkdbddgoaaDoor
set_option linter.unusedSimpArgs false
set_option linter.unusedVariables false
open Go.RowKit

def maxP (k : Int) : Int := if 1 > k then 1 else k
/-- The text of a repeat that a path means, if it is there. -/
def repT (k : Int) (r : List (List UInt8)) : List (List UInt8) := match r[(maxP k - 1).toNat]? with
  | some t => if t = [] then [] else [t]
  | none => []
def segT (s : Tapi_Segment) (a : List UInt8) (n k : Int) : List (List UInt8) :=
  if n = 0 then [a] else match s.fElements[(n - 1).toNat]? with
    | some e => e.fRepeats.flatMap (repT k)
    | none => []
def brT (a : List UInt8) (n k : Int) (b : Br) : List (List UInt8) := if b.fName = [] ∧ b.fSegment.fTag = a then segT b.fSegment a n k else []
def findF (l : List Br) (ns : List (List UInt8)) (a : List UInt8) (n k : Int) : List (List UInt8) := (insF ns l).flatMap fun l => l.flatMap (brT a n k)

theorem elem_rep {s : Tapi_Segment} (h : segF s = 0) {e : Tapi_Element} (he : e ∈ s.fElements) : e.fRepeats.length ≤ 20 := by
  obtain ⟨_, _, h3⟩ := segF_iff.1 h
  obtain ⟨_, h5, _⟩ := elemF_iff.1 (h3 e he)
  omega
theorem elem_len {s : Tapi_Segment} (h : segF s = 0) : s.fElements.length ≤ 50 := by
  obtain ⟨_, h2, _⟩ := segF_iff.1 h
  omega
theorem repT_len (k : Int) (r : List (List UInt8)) : (repT k r).length ≤ 1 := by
  unfold repT
  split
  · split <;> simp
  · simp
theorem segT_len {s : Tapi_Segment} (h : segF s = 0) (a : List UInt8) (n k : Int) : (segT s a n k).length ≤ 20 := by
  unfold segT
  split
  · simp
  · split
    · rename_i e he
      have h1 := elem_rep h (List.mem_of_getElem? he)
      refine Nat.le_trans (flatMap_len (g := fun _ => 1) fun r _ => repT_len k r) ?_
      rw [len_sum]; exact h1
    · simp
theorem leaf_seg {l : List Br} (h : T7 l) {b : Br} (hb : b ∈ l) (hn : b.fName = []) : segF b.fSegment = 0 := by
  rcases h b hb with h | ⟨h1, _⟩
  · exact h.2.1
  · exact absurd hn h1
theorem brT_len {l : List Br} (h : T7 l) {b : Br} (hb : b ∈ l) (a : List UInt8) (n k : Int) : (brT a n k b).length ≤ 20 := by
  unfold brT
  split
  · rename_i hc; exact segT_len (leaf_seg h hb hc.1) a n k
  · simp
theorem list_len {l : List Br} (h : T7 l) (a : List UInt8) (n k : Int) : (l.flatMap (brT a n k)).length ≤ 20 * l.length := by
  refine Nat.le_trans (flatMap_len (g := fun _ => 20 * 1) fun b hb => brT_len h hb a n k) ?_
  rw [sum_map_mul 20 (fun _ => 1), len_sum]
  exact Nat.le_refl _
theorem lists_len {ls : List (List Br)} (h : LsOk ls) (a : List UInt8) (n k : Int) : (ls.flatMap fun l => l.flatMap (brT a n k)).length ≤ 40000 := by
  refine Nat.le_trans (flatMap_len (g := fun l => 20 * L7 l) fun l hl => Nat.le_trans (list_len (h.all l hl) a n k) (Nat.mul_le_mul_left _ (len_leaves 7 (h.all l hl)))) ?_
  rw [sum_map_mul]
  have := h.sum
  omega

theorem text_at {s : Tapi_Segment} {n P : Int} {i : Nat} {e : Tapi_Element} {r : List (List UInt8)} (hn : 1 ≤ n) (hn2 : n ≤ 50) (hP : 1 ≤ P) (hP2 : P ≤ 20) (he : s.fElements[(n - 1).toNat]? = some e) (hr : e.fRepeats[i]? = some r) (hi : i < 20) :
    ∃ b, m_wire_TextAt s ⟨n, (i : Int) + 1, P⟩ = some (r[(P - 1).toNat]?.getD [], b) := by
  have h1 := get_le he
  have h2 := get_le hr
  have eN : ((n - 1).toNat : Int) = n - 1 := Int.toNat_of_nonneg (by omega)
  have eP : ((P - 1).toNat : Int) = P - 1 := Int.toNat_of_nonneg (by omega)
  have g1 : getI s.fElements (IntKind.i64.wrap (n - 1)) = some e := by
    rw [wrap64 _ (by omega) (by omega), ← eN, getI_nat]; exact he
  have g2 : getI e.fRepeats (IntKind.i64.wrap ((i : Int) + 1 - 1)) = some r := by
    rw [wrap64 _ (by omega) (by omega), show (i : Int) + 1 - 1 = (i : Int) by omega, getI_nat]; exact hr
  unfold m_wire_TextAt sims_G7_0_6; dsimp only
  rw [decide_eq_false (by omega)]
  simp only [cond_false]
  rw [g1]
  simp only [Option.bind_some]
  rw [decide_eq_false (show ¬ (e.fRepeats.length : Int) < (i : Int) + 1 by omega), g2]
  simp only [Option.bind_some, orO_some, Bool.false_or]
  by_cases hl : (r.length : Int) < P
  · rw [decide_eq_true hl]
    refine ⟨false, ?_⟩
    rw [List.getElem?_eq_none (by omega)]; rfl
  · rw [decide_eq_false hl]
    obtain ⟨t, ht⟩ := get_lt (show (P - 1).toNat < r.length by omega)
    have g3 : getI r (IntKind.i64.wrap (P - 1)) = some t := by
      rw [wrap64 _ (by omega) (by omega), ← eP, getI_nat]; exact ht
    refine ⟨true, ?_⟩
    simp only [cond_false]
    rw [g3, ht]; rfl
/-- What numbers of a path may be. -/
structure NumOk (n k : Int) : Prop where
  n0 : 0 ≤ n
  n1 : n ≤ 50
  k0 : 0 ≤ k
  k1 : k ≤ 20
theorem NumOk.max {n k : Int} (h : NumOk n k) : 1 ≤ maxP k ∧ maxP k ≤ 20 := by
  obtain ⟨_, _, h3, h4⟩ := h
  unfold maxP
  split <;> omega
theorem p_texts {l : List Br} {ns : List (List UInt8)} {a : List UInt8} {n k : Int} (h : T7 l) (hL : L7 l ≤ 2000) (hn : ∀ x ∈ ns, x ≠ []) (hlen : ns.length ≤ 1000) (hk : NumOk n k) : m_scheme_Texts l ⟨ns, a, n, k⟩ = some (findF l ns a n k) := by
  have ho := ins_ok h hL hn
  have hMX : MX = 9223372036854775807 := rfl
  unfold m_scheme_Texts sims_G7_1_3; dsimp only
  rw [kids_eq h hL hn hlen, lev_one]
  simp only [Option.bind_some]
  unfold findF
  have htot := lists_len ho a n k
  have holen := ho.len
  refine (app_loop (insF ns l) [] (fun l => l.flatMap (brT a n k)) 40000 (by rw [List.nil_append]; exact htot) _ (fun i q out hq hout => ?_) (fun out => by simp only [lt_dec_self, cond_false]; rfl)).trans ?_
  · have hi := get_le hq
    have hqm := List.mem_of_getElem? hq
    have hq7 := ho.all q hqm
    have hql := ho.lens q hqm
    simp only [lt_dec hi, cond_true, getI_nat, hq, Option.bind_some, wrapN i (by omega)]
    refine (app_loop q out (brT a n k) 40000 (by rw [List.length_append]; exact hout) _ (fun j b o hb ho => ?_) (fun out => by simp only [lt_dec_self, cond_false]; rfl)).trans ?_
    · have hj := get_le hb
      have hbm := List.mem_of_getElem? hb
      simp only [lt_dec hj, cond_true, getI_nat, hb, Option.bind_some, orO_some, wrapN j (by omega)]
      unfold brT at ho ⊢
      by_cases hc : b.fName = [] ∧ b.fSegment.fTag = a
      · rw [if_pos hc] at ho ⊢
        rw [decide_eq_true hc.1, decide_eq_true hc.2]
        have hseg := leaf_seg hq7 hbm hc.1
        simp only [Bool.not_true, Bool.or_self, cond_false]
        unfold segT at ho ⊢
        by_cases hn0 : n = 0
        · rw [if_pos hn0] at ho ⊢
          rw [decide_eq_true hn0]
          simp only [cond_true]
          rw [lo_ok (by omega)]
        · rw [if_neg hn0] at ho ⊢
          rw [decide_eq_false hn0]
          simp only [cond_false]
          have hn1 : 1 ≤ n := by have := hk.n0; omega
          have hel := elem_len hseg
          by_cases hlt : (b.fSegment.fElements.length : Int) < n
          · rw [decide_eq_true hlt]
            rw [List.getElem?_eq_none (by omega)]
            simp
          · rw [decide_eq_false hlt]
            obtain ⟨e, he⟩ := get_lt (show (n - 1).toNat < b.fSegment.fElements.length by omega)
            have eN : ((n - 1).toNat : Int) = n - 1 := Int.toNat_of_nonneg (by omega)
            have hn50 := hk.n1
            have g1 : getI b.fSegment.fElements (IntKind.i64.wrap (n - 1)) = some e := by
              rw [wrap64 _ (by omega) (by omega), ← eN, getI_nat]; exact he
            rw [he] at ho ⊢
            simp only at ho ⊢
            simp only [cond_false]
            rw [g1]
            simp only [Option.bind_some]
            have hrl := elem_rep hseg (List.mem_of_getElem? he)
            refine (app_loop e.fRepeats o (repT k) 40000 (by rw [List.length_append]; exact ho) _ (fun m r o2 hr ho2 => ?_) (fun out => by simp only [lt_dec_self, cond_false]; rfl)).trans ?_
            · have hm := get_le hr
              obtain ⟨m1, m2⟩ := hk.max
              obtain ⟨bb, hta⟩ := text_at (s := b.fSegment) (i := m) hn1 hn50 m1 m2 he hr (by omega)
              simp only [lt_dec hm, cond_true, wrapN m (by omega)]
              have hmx : (if 1 > k then 1 else k) = maxP k := rfl
              rw [hmx, show ((m + 1 : Nat) : Int) = (m : Int) + 1 by omega, hta]
              simp only [Option.bind_some]
              unfold repT at ho2 ⊢
              cases hg : r[(maxP k - 1).toNat]? with
              | none => simp
              | some t =>
                rw [hg] at ho2
                simp only [Option.getD_some]
                by_cases ht : t = []
                · rw [decide_eq_true ht]; simp [ht]
                · simp only [ht, if_false] at ho2
                  rw [decide_eq_false ht]
                  simp only [Bool.not_false, cond_true, ht, if_false]
                  rw [lo_ok (by omega)]
            · rfl
      · rw [if_neg hc]
        have : (!decide (b.fName = []) || !decide (b.fSegment.fTag = a)) = true := by
          rw [Bool.or_eq_true, Bool.not_eq_true', Bool.not_eq_true', decide_eq_false_iff_not, decide_eq_false_iff_not]
          by_cases h1 : b.fName = []
          · exact .inr fun h2 => hc ⟨h1, h2⟩
          · exact .inl h1
        rw [this]
        simp
    · rfl
  · rfl
theorem tail_num {l : List (List UInt8)} {a : List UInt8} {n k : Int} (h : tailF l = some (a, n, k)) : NumOk n k := by
  have hE : ∀ {m b x}, numE m b = some x → 1 ≤ x ∧ x ≤ m := fun {m b x} h => by
    unfold numE at h
    split at h
    · rename_i hc; cases h; exact hc.2
    · cases h
  match l, h with
  | [], h => cases h
  | [x], h =>
    simp only [tailF] at h
    split at h
    · cases h; exact ⟨by omega, by omega, by omega, by omega⟩
    · cases h
  | [x, y], h =>
    simp only [tailF] at h
    split at h
    · cases hy : numE 50 y with
      | none => rw [hy] at h; cases h
      | some z => rw [hy] at h; cases h; have := hE hy; exact ⟨by omega, by omega, by omega, by omega⟩
    · cases h
  | [x, y, w], h =>
    simp only [tailF] at h
    split at h
    · cases hy : numE 50 y with
      | none => rw [hy] at h; cases h
      | some z =>
        cases hw : numE 20 w with
        | none => rw [hy, hw] at h; cases h
        | some v => rw [hy, hw] at h; cases h; have h1 := hE hy; have h2 := hE hw; exact ⟨by omega, by omega, by omega, by omega⟩
    · cases h
  | x :: y :: w :: v :: r, h => cases h
theorem way_ok {s : List UInt8} (hs : s.length ≤ 200) {ns : List (List UInt8)} {a : List UInt8} {n k : Int} (h : wayF s = some (ns, a, n, k)) : (∀ x ∈ ns, x ≠ []) ∧ ns.length ≤ 201 ∧ NumOk n k ∧ (Lib.split s [47]).dropLast = ns ∧ ns.all nameF = true ∧ tailF (Lib.split ((Lib.split s [47]).getLast?.getD []) [46]) = some (a, n, k) := by
  unfold wayF at h
  split at h
  · rename_i hall
    cases ht : tailF (Lib.split ((Lib.split s [47]).getLast?.getD []) [46]) with
    | none => rw [ht] at h; cases h
    | some r =>
      rw [ht] at h
      cases h
      obtain ⟨_, _, h3⟩ := split_le 47 s
      refine ⟨fun x hx => nm_ne (List.all_eq_true.1 hall x hx), by rw [List.length_dropLast]; omega, tail_num ht, rfl, hall, rfl⟩
  · cases h
/-- What Find says. -/
noncomputable def fndF (l : List Br) (s : List UInt8) : List (List UInt8) × Int :=
  if (ctF 8 l 0 0).1 ≠ 0 then ([], (ctF 8 l 0 0).1) else if 200 < s.length then ([], 2) else match wayF s with
    | none => ([], 10)
    | some (ns, a, n, k) => (findF l ns a n k, 0)
theorem p_find (l : List Br) (s : List UInt8) (hl : ∀ b ∈ l, ShB b) (hlen : l.length ≤ MX) : m_scheme_Find l s = some (fndF l s) := by
  unfold m_scheme_Find sims_G7_5_0; dsimp only
  rw [p_check l hl hlen]
  unfold fndF
  simp only [Option.bind_some]
  by_cases hc : (ctF 8 l 0 0).1 = 0
  · rw [decide_eq_true hc, if_neg (by simp [hc])]
    obtain ⟨ht, hL⟩ := tree_l7 hc
    simp only [Bool.not_true, cond_false]
    rw [p_path]
    simp only [Option.bind_some]
    by_cases h2 : 200 < s.length
    · rw [if_pos h2, if_pos h2]; rfl
    · rw [if_neg h2, if_neg h2]
      obtain ⟨w, hw1, hw2⟩ := way_eq s (by omega)
      cases hw : wayF s with
      | none => rfl
      | some r =>
        obtain ⟨ns, a, n, k⟩ := r
        simp only [Option.isSome_some, if_true, decide_true, Bool.not_true, cond_false]
        obtain ⟨k1, k2, k3, _⟩ := way_ok (by omega) hw
        rw [hw1, hw2 _ _ _ _ hw]
        simp only [Option.bind_some]
        rw [p_texts ht hL k1 (by omega) k3]; rfl
  · rw [decide_eq_false hc, if_pos (by simpa using hc)]; rfl
end Go.Proofs.YtdkncdkdbddgoaaDoor

/-
  Plain laws: Groups of the reference; sameness of trees.
-/
namespace Go.Proofs.YtdkncdkdbddgoaaDoor
set_option linter.unusedSimpArgs false
set_option linter.unusedVariables false
open Go.RowKit

end Go.Proofs.YtdkncdkdbddgoaaDoor

/-
  Plain laws: paths of the reference.
-/
namespace Go.Proofs.YtdkncdkdbddgoaaDoor
set_option linter.unusedSimpArgs false
set_option linter.unusedVariables false
open Go.RowKit

end Go.Proofs.YtdkncdkdbddgoaaDoor

/-
  Plain laws: what a path finds, in the reference; SchemePathsMatchSpec.
-/
namespace Go.Proofs.YtdkncdkdbddgoaaDoor
set_option linter.unusedSimpArgs false
set_option linter.unusedVariables false
open Go.RowKit

theorem eqS_refl (l : List (List UInt8)) (hl : l.length ≤ 1000000) : m_slices_Equal_string_string l l = some true := by
  unfold m_slices_Equal_string_string sims_G7_0_7; dsimp only
  simp only [decide_true, Bool.not_true, cond_false]
  refine bind_loop (a := .inl (l.length : Int)) (loop_trace (fun i => (i : Int)) l.length (fun i hi => ?_) (by simp only [lt_dec_self, cond_false]; rfl)) rfl
  obtain ⟨e, he⟩ := get_lt hi
  simp only [lt_dec hi, cond_true, getI_nat, he, Option.bind_some, decide_true, Bool.not_true, cond_false, wrapN i (by omega)]
/-- One simple tree. -/
abbrev tr1 : List Br := [⟨[], ⟨[66, 71, 77], []⟩, []⟩]
theorem tr1_sh : ∀ b ∈ tr1, ShB b := fun b hb => by
  rw [List.mem_singleton.1 hb]
  exact .mk (by decide) (by decide) (by decide) fun a ha => by cases ha
theorem awake_eq : m_interchangelaw3_awake = some true := by
  have h1 : (ctF 8 tr1 0 0).1 = 0 := by
    have hs : segF ⟨[66, 71, 77], []⟩ = 0 := by decide
    simp [ctF, liF, brF, cntB, formB, hs]
  have hw : wayF [66, 71, 77] = some ([], [66, 71, 77], 0, 0) := by
    have e1 : Lib.split [66, 71, 77] [47] = [[66, 71, 77]] := split_none (by decide)
    have e2 : Lib.split [66, 71, 77] [46] = [[66, 71, 77]] := split_none (by decide)
    unfold wayF
    rw [e1]
    simp only [List.dropLast, List.all_nil, if_true, List.getLast?_singleton, Option.getD_some, e2]
    have ht : tagF [66, 71, 77] = true := by decide
    simp [tailF, ht]
  have hf : fndF tr1 [66, 71, 77] = ([[66, 71, 77]], 0) := by
    unfold fndF
    rw [if_neg (by simp [h1]), if_neg (by decide), hw]
    simp [findF, insF, brT, segT]
  unfold m_interchangelaw3_awake sims_G7_6_0; dsimp only
  rw [p_find tr1 _ tr1_sh (by decide), hf]
  rfl
end Go.Proofs.YtdkncdkdbddgoaaDoor
