/-
  Bodies of functions and what they compute, printed by programs of mine (wip/tool/gen.py, sc.py) out of the translation; the kernel holds each against the translation.
-/
import Derived.Test.YteilhjdpbjgdpaaDoorEngY
import Derived.Test.YteilhjdpbjgdpaaDoorProg
import Derived.KernelRfl
import Derived.Test.YteilhjdpbjgdpaaDoorLibT
import Derived.Test.YteilhjdpbjgdpaaDoorLibS
import Derived.Test.YteilhjdpbjgdpaaDoorLibH
import Derived.Test.YteilhjdpbjgdpaaDoorG1
namespace Go.Proofs.YteilhjdpbjgdpaaDoor
open Go.RowKit
set_option linter.unusedSimpArgs false
set_option linter.unusedVariables false
structure Tapi_Element where
  fRepeats : List (List (List UInt8))
  deriving DecidableEq
def rTapi_Element (x : Tapi_Element) : List DV := [.slice (List.map (rowL rowS) x.fRepeats)]
attribute [push_cast] rTapi_Element
theorem fT_Tapi_Element {d0 : DV} {v0 : List (List (List UInt8))} (h0 : d0 = .slice (List.map (rowL rowS) v0)) : [d0] = rTapi_Element ⟨v0⟩ := by unfold rTapi_Element; simp only [h0, List.cons_append, List.nil_append, List.append_assoc, List.append_nil]
theorem cT_Tapi_Element {d0 : SV} {v0 : List (List (List UInt8))} (h0 : svle d0 (.d (.slice (List.map (rowL rowS) v0)))) : cellsle [d0] (dR (rTapi_Element ⟨v0⟩)) := by have h := (cellsle.consS h0 cellsle.nil); simpa only [rTapi_Element, dR, List.map_append, List.map_cons, List.map_nil, List.cons_append, List.nil_append, List.append_assoc, List.append_nil] using h
theorem eT_Tapi_Element {d0 : SV} {v0 : List (List (List UInt8))} (h0 : d0 = .d (.slice (List.map (rowL rowS) v0))) : [d0] = dR (rTapi_Element ⟨v0⟩) := by simp only [rTapi_Element, dR, List.map_append, List.map_cons, List.map_nil, List.cons_append, List.nil_append, List.append_assoc, List.append_nil, h0]

structure Tapi_Segment where
  fTag : List UInt8
  fElements : List Tapi_Element
  deriving DecidableEq
def rTapi_Segment (x : Tapi_Segment) : List DV := [.str x.fTag, .slice (List.map rTapi_Element x.fElements)]
attribute [push_cast] rTapi_Segment
theorem fT_Tapi_Segment {d0 d1 : DV} {v0 : List UInt8} {v1 : List Tapi_Element} (h0 : d0 = .str v0) (h1 : d1 = .slice (List.map rTapi_Element v1)) : [d0, d1] = rTapi_Segment ⟨v0, v1⟩ := by unfold rTapi_Segment; simp only [h0, h1, List.cons_append, List.nil_append, List.append_assoc, List.append_nil]
theorem cT_Tapi_Segment {d0 d1 : SV} {v0 : List UInt8} {v1 : List Tapi_Element} (h0 : svle d0 (.d (.str v0))) (h1 : svle d1 (.d (.slice (List.map rTapi_Element v1)))) : cellsle [d0, d1] (dR (rTapi_Segment ⟨v0, v1⟩)) := by have h := (cellsle.append (cellsle.consS h0 cellsle.nil) (cellsle.consS h1 cellsle.nil)); simpa only [rTapi_Segment, dR, List.map_append, List.map_cons, List.map_nil, List.cons_append, List.nil_append, List.append_assoc, List.append_nil] using h
theorem eT_Tapi_Segment {d0 d1 : SV} {v0 : List UInt8} {v1 : List Tapi_Element} (h0 : d0 = .d (.str v0)) (h1 : d1 = .d (.slice (List.map rTapi_Element v1))) : [d0, d1] = dR (rTapi_Segment ⟨v0, v1⟩) := by simp only [rTapi_Segment, dR, List.map_append, List.map_cons, List.map_nil, List.cons_append, List.nil_append, List.append_assoc, List.append_nil, h0, h1]

def sc_interchangeref2_beginsTag_L1 : SC :=
  (.seq (.seq (.reg [.r 5 (.mv (.t 3)),
     .r 6 (.mv (.t 0)),
     .r 7 (.lenT (.t 6)),
     .r 8 (.bin .lss (.t 5) (.t 7))])
  (.cond (.t 8)
    .skip
    (.exit 0)))
  (.seq (.block 1 (.seq (.reg (.r 11 (.mv (.t 0)) :: .r 12 (.mv (.t 3)) :: .r 13 (.sidx (.t 11) (.t 12)) :: .r 14 (.bin .geq (.t 13) (.c (.d (.int .u8 65)))) :: .r 15 (.mv (.t 14)) :: gapp [16, 17, 18, 19] 15 true (.r 16 (.mv (.t 0)) :: .r 17 (.mv (.t 3)) :: .r 18 (.sidx (.t 16) (.t 17)) :: .r 19 (.bin .leq (.t 18) (.c (.d (.int .u8 90)))) :: []) (.r 20 (.pick (.t 15) (.t 19) (.c (.d (.bool false)))) :: .r 4 (.mv (.t 20)) :: [])))
    (.seq (.reg (.r 21 (.mv (.t 4)) :: .r 22 (.not (.t 21)) :: .r 23 (.mv (.t 22)) :: gapp [24, 25, 26, 27, 28, 29, 30, 31, 32, 33, 34, 35, 36, 37] 23 true (.r 24 (.mv (.t 3)) :: .r 25 (.bin .eql (.t 24) (.c (.d (.int .i64 0)))) :: .r 26 (.mv (.t 25)) :: gapp [27, 28, 29, 30] 26 false (.r 27 (.mv (.t 0)) :: .r 28 (.mv (.t 3)) :: .r 29 (.sidx (.t 27) (.t 28)) :: .r 30 (.bin .lss (.t 29) (.c (.d (.int .u8 48)))) :: []) (.r 31 (.pick (.t 26) (.c (.d (.bool true))) (.t 30)) :: .r 32 (.mv (.t 31)) :: gapp [33, 34, 35, 36] 32 false (.r 33 (.mv (.t 0)) :: .r 34 (.mv (.t 3)) :: .r 35 (.sidx (.t 33) (.t 34)) :: .r 36 (.bin .gtr (.t 35) (.c (.d (.int .u8 57)))) :: []) (.r 37 (.pick (.t 32) (.c (.d (.bool true))) (.t 36)) :: []))) (.r 38 (.pick (.t 23) (.t 37) (.c (.d (.bool false)))) :: [])))
    (.cond (.t 38)
      (.seq (.reg [.r 2 (.mv (.c (.d (.bool false))))])
      .ret)
      .skip))))
  (.reg [.r 9 (.mv (.t 3)),
     .r 10 (.bin .add (.t 9) (.c (.d (.int .i64 1)))),
     .r 3 (.mv (.t 10))])))
def sc_interchangeref2_beginsTag_B1 : SC := .block 0 (.loop sc_interchangeref2_beginsTag_L1)
/-- interchange/interchangeref2.beginsTag -/
def sc_interchangeref2_beginsTag : SC :=
  (.seq (.reg [.r 2 (.mv (.c (.d (.bool false))))])
  (.seq (.seq (.reg [.r 3 (.mv (.c (.d (.int .i64 0))))])
  sc_interchangeref2_beginsTag_B1)
  (.seq (.reg [.r 39 (.mv (.t 0)),
     .r 40 (.lenT (.t 39)),
     .r 41 (.bin .leq (.t 40) (.c (.d (.int .i64 6)))),
     .r 2 (.mv (.t 41))])
  .ret)))
theorem fit_interchangeref2_beginsTag : fits Tryd.prog 100 Tryd.f100 sc_interchangeref2_beginsTag [.t 2] 1 = true := by kernel_rfl

def sc_interchangeref2_checkText_L1 : SC :=
  (.seq (.seq (.reg [.r 7 (.mv (.t 3)),
     .r 8 (.mv (.t 0)),
     .r 9 (.lenT (.t 8)),
     .r 10 (.bin .lss (.t 7) (.t 9))])
  (.cond (.t 10)
    .skip
    (.exit 0)))
  (.seq (.block 1 (.seq (.reg (.r 13 (.mv (.t 0)) :: .r 14 (.mv (.t 3)) :: .r 15 (.sidx (.t 13) (.t 14)) :: .r 16 (.bin .lss (.t 15) (.c (.d (.int .u8 32)))) :: .r 17 (.mv (.t 16)) :: gapp [18, 19, 20, 21] 17 false (.r 18 (.mv (.t 0)) :: .r 19 (.mv (.t 3)) :: .r 20 (.sidx (.t 18) (.t 19)) :: .r 21 (.bin .gtr (.t 20) (.c (.d (.int .u8 126)))) :: []) (.r 22 (.pick (.t 17) (.c (.d (.bool true))) (.t 21)) :: [])))
    (.cond (.t 22)
      (.seq (.reg [.r 2 (.mv (.c (.d (.int .i64 3))))])
      .ret)
      .skip)))
  (.reg [.r 11 (.mv (.t 3)),
     .r 12 (.bin .add (.t 11) (.c (.d (.int .i64 1)))),
     .r 3 (.mv (.t 12))])))
def sc_interchangeref2_checkText_B1 : SC := .block 0 (.loop sc_interchangeref2_checkText_L1)
/-- interchange/interchangeref2.checkText -/
def sc_interchangeref2_checkText : SC :=
  (.seq (.reg [.r 2 (.mv (.c (.d (.int .i64 0))))])
  (.seq (.seq (.reg [.r 4 (.mv (.t 0)),
     .r 5 (.lenT (.t 4)),
     .r 6 (.bin .gtr (.t 5) (.c (.d (.int .i64 1000))))])
  (.cond (.t 6)
    (.seq (.reg [.r 2 (.mv (.c (.d (.int .i64 2))))])
    .ret)
    .skip))
  (.seq (.seq (.reg [.r 3 (.mv (.c (.d (.int .i64 0))))])
  sc_interchangeref2_checkText_B1)
  (.seq (.reg [.r 2 (.mv (.c (.d (.int .i64 0))))])
  .ret))))
theorem fit_interchangeref2_checkText : fits Tryd.prog 66 Tryd.f66 sc_interchangeref2_checkText [.t 2] 1 = true := by kernel_rfl

set_option maxRecDepth 100000 in
set_option maxHeartbeats 40000000 in
noncomputable def sims_G2_0_0 : (∀ (x0 : List UInt8), {m : Option (Bool) // ∀ r, m = some r → PureSpec Tryd.prog 100 [.str x0] (.bool r)}) × (∀ (x0 : List UInt8), {m : Option (Int) // ∀ r, m = some r → PureSpec Tryd.prog 66 [.str x0] (.int .i64 r)}) := by
  refine ⟨?g0, ?g1⟩
  case' g0 => (intro x0; apply Subtype.mk; intro r hm; apply pure_walk Tryd.func100 fit_interchangeref2_beginsTag; unfold sc_interchangeref2_beginsTag)
  case' g1 => (intro x0; apply Subtype.mk; intro r hm; apply pure_walk Tryd.func66 fit_interchangeref2_checkText; unfold sc_interchangeref2_checkText)
  all_goals (repeat' (first | with_reducible refine W_seq ?_ | with_reducible refine W_reg ?_ | with_reducible refine W_block ?_ | with_reducible refine W_skip ?_ | with_reducible refine W_ret ?_ | with_reducible refine W_exit ?_ | with_reducible refine O_nil ?_ | with_reducible refine K_seq ?_ | with_reducible refine K_seqE ?_ | with_reducible refine K_seqR ?_ | with_reducible refine K_block ?_ | with_reducible refine K_blockR ?_ | with_reducible refine K_blockE ?_ | ((with_reducible apply K_blockN); decide) | ((with_reducible apply O_sidxr hm); (iterate 2 (simp only [push_cast, seval]; rfl)); intro e hm) | ((with_reducible apply O_r); (simp only [push_cast, seval]; rfl); (first | exact trivial | omega)) | ((with_reducible apply O_strr hm); (iterate 2 (simp only [push_cast, seval]; rfl)); intro hm) | ((with_reducible apply O_and hm); (simp only [push_cast, seval]; rfl); rfl; intro v hm; rotate_left; intro v g hm) | ((with_reducible apply O_or hm); (simp only [push_cast, seval]; rfl); rfl; intro v hm; rotate_left; intro v g hm) | ((with_reducible apply W_condT); (focus (simp only [push_cast, seval]; done))) | ((with_reducible apply W_condF); (focus (simp only [push_cast, seval]; done))) | ((with_reducible apply S_condB hm); (simp only [push_cast, seval]; rfl); intro hm; rotate_left; intro hm) | ((with_reducible apply K_endS hm); (focus (simp only [resOf, resL, RV.get, push_cast, seval]; rfl)); (focus ((repeat' (first | rfl | (with_reducible first | apply fT_Tapi_Marks | apply fT_Tapi_Element | apply fT_Tapi_Segment | apply f_optN | apply f_optS | apply f_some | apply f_tup | apply f_agg | apply f_ptr | apply dv_slice | apply sv_d | apply f_cons | apply fold_nil | apply fold_cons | apply fold_app | apply f_rowI | apply f_rowY | apply f_rowS | apply f_rowB | apply f_rowL) | (with_reducible apply f_byte; decide))); done))) | ((with_reducible apply K_bool hm); (simp only [push_cast, seval]; rfl)) | ((with_reducible apply K_leave hm); intro r hm) | ((with_reducible apply K_leaveR hm); intro r hm) | ((apply S_loopX (b := 0) (X := sc_interchangeref2_beginsTag_B1) (x := sc_interchangeref2_beginsTag_L1) rfl (fun (c : SV) (s : Int) => st [(0, c), (3, .d (.int .i64 s))] []) (c := _) (s0 := _) hm); (focus (first | (dsimp only; done) | (dsimp only; rfl) | rfl)); (focus ((apply imp_stT; (repeat' (first | with_reducible exact keepT_nil | with_reducible exact keepC_nil | with_reducible apply keepT_cons | with_reducible apply keepC_cons | ((with_reducible apply svle_eq); (focus (first | (simp only [push_cast, seval]; rfl) | rfl)); (focus ((repeat' (first | rfl | (with_reducible first | apply fT_Tapi_Marks | apply fT_Tapi_Element | apply fT_Tapi_Segment | apply f_optN | apply f_optS | apply f_some | apply f_tup | apply f_agg | apply f_ptr | apply dv_slice | apply sv_d | apply f_cons | apply fold_nil | apply fold_cons | apply fold_app | apply f_rowI | apply f_rowY | apply f_rowS | apply f_rowB | apply f_rowL) | (with_reducible apply f_byte; decide))); done))) | ((with_reducible apply svle_td); (focus (first | (simp only [push_cast, seval]; rfl) | rfl)); (focus (first | (simp only [push_cast, seval]; rfl) | rfl)); (focus ((repeat' (first | rfl | (with_reducible first | apply fT_Tapi_Marks | apply fT_Tapi_Element | apply fT_Tapi_Segment | apply f_optN | apply f_optS | apply f_some | apply f_tup | apply f_agg | apply f_ptr | apply dv_slice | apply sv_d | apply f_cons | apply fold_nil | apply fold_cons | apply fold_app | apply f_rowI | apply f_rowY | apply f_rowS | apply f_rowB | apply f_rowL) | (with_reducible apply f_byte; decide))); done))) | ((with_reducible apply chle_eq); (focus (first | (simp only [push_cast, seval]; rfl) | rfl)); (first | with_reducible exact chle_rfl rfl | with_reducible exact chle_map0 | with_reducible apply chle_vec | with_reducible apply chle_box)) | (with_reducible first | apply cT_Tapi_Marks | apply cT_Tapi_Element | apply cT_Tapi_Segment | apply vc_rfl | apply vc_nil | apply vc_cons | apply r_rfl | apply r_rows | apply r_nil | apply r_app | apply r_cons | apply c_rowI | apply c_rowY | apply c_rowS | apply c_rowB | apply c_rowL))); done))); (focus (first | (dsimp only; done) | (dsimp only; rfl) | rfl)); (focus ((intro _; repeat' (first | with_reducible exact impC_end | with_reducible exact impC_endF | with_reducible refine impC_seq ?_ | with_reducible refine impC_block ?_ | ((with_reducible refine impC_rnd ?_); intro _) | ((with_reducible refine impC_brk ?_); intro _))))); (intro s o hm; unfold sc_interchangeref2_beginsTag_L1); rotate_left; intro s hm) | ((apply S_loopX (b := 0) (X := sc_interchangeref2_checkText_B1) (x := sc_interchangeref2_checkText_L1) rfl (fun (c : SV) (s : Int) => st [(0, c), (3, .d (.int .i64 s))] []) (c := _) (s0 := _) hm); (focus (first | (dsimp only; done) | (dsimp only; rfl) | rfl)); (focus ((apply imp_stT; (repeat' (first | with_reducible exact keepT_nil | with_reducible exact keepC_nil | with_reducible apply keepT_cons | with_reducible apply keepC_cons | ((with_reducible apply svle_eq); (focus (first | (simp only [push_cast, seval]; rfl) | rfl)); (focus ((repeat' (first | rfl | (with_reducible first | apply fT_Tapi_Marks | apply fT_Tapi_Element | apply fT_Tapi_Segment | apply f_optN | apply f_optS | apply f_some | apply f_tup | apply f_agg | apply f_ptr | apply dv_slice | apply sv_d | apply f_cons | apply fold_nil | apply fold_cons | apply fold_app | apply f_rowI | apply f_rowY | apply f_rowS | apply f_rowB | apply f_rowL) | (with_reducible apply f_byte; decide))); done))) | ((with_reducible apply svle_td); (focus (first | (simp only [push_cast, seval]; rfl) | rfl)); (focus (first | (simp only [push_cast, seval]; rfl) | rfl)); (focus ((repeat' (first | rfl | (with_reducible first | apply fT_Tapi_Marks | apply fT_Tapi_Element | apply fT_Tapi_Segment | apply f_optN | apply f_optS | apply f_some | apply f_tup | apply f_agg | apply f_ptr | apply dv_slice | apply sv_d | apply f_cons | apply fold_nil | apply fold_cons | apply fold_app | apply f_rowI | apply f_rowY | apply f_rowS | apply f_rowB | apply f_rowL) | (with_reducible apply f_byte; decide))); done))) | ((with_reducible apply chle_eq); (focus (first | (simp only [push_cast, seval]; rfl) | rfl)); (first | with_reducible exact chle_rfl rfl | with_reducible exact chle_map0 | with_reducible apply chle_vec | with_reducible apply chle_box)) | (with_reducible first | apply cT_Tapi_Marks | apply cT_Tapi_Element | apply cT_Tapi_Segment | apply vc_rfl | apply vc_nil | apply vc_cons | apply r_rfl | apply r_rows | apply r_nil | apply r_app | apply r_cons | apply c_rowI | apply c_rowY | apply c_rowS | apply c_rowB | apply c_rowL))); done))); (focus (first | (dsimp only; done) | (dsimp only; rfl) | rfl)); (focus ((intro _; repeat' (first | with_reducible exact impC_end | with_reducible exact impC_endF | with_reducible refine impC_seq ?_ | with_reducible refine impC_block ?_ | ((with_reducible refine impC_rnd ?_); intro _) | ((with_reducible refine impC_brk ?_); intro _))))); (intro s o hm; unfold sc_interchangeref2_checkText_L1); rotate_left; intro s hm) | ((apply K_next (s' := _) hm); (focus (first | (dsimp only; done) | (dsimp only; rfl) | rfl)); (focus ((apply imp_stT; (repeat' (first | with_reducible exact keepT_nil | with_reducible exact keepC_nil | with_reducible apply keepT_cons | with_reducible apply keepC_cons | ((with_reducible apply svle_eq); (focus (first | (simp only [push_cast, seval]; rfl) | rfl)); (focus ((repeat' (first | rfl | (with_reducible first | apply fT_Tapi_Marks | apply fT_Tapi_Element | apply fT_Tapi_Segment | apply f_optN | apply f_optS | apply f_some | apply f_tup | apply f_agg | apply f_ptr | apply dv_slice | apply sv_d | apply f_cons | apply fold_nil | apply fold_cons | apply fold_app | apply f_rowI | apply f_rowY | apply f_rowS | apply f_rowB | apply f_rowL) | (with_reducible apply f_byte; decide))); done))) | ((with_reducible apply svle_td); (focus (first | (simp only [push_cast, seval]; rfl) | rfl)); (focus (first | (simp only [push_cast, seval]; rfl) | rfl)); (focus ((repeat' (first | rfl | (with_reducible first | apply fT_Tapi_Marks | apply fT_Tapi_Element | apply fT_Tapi_Segment | apply f_optN | apply f_optS | apply f_some | apply f_tup | apply f_agg | apply f_ptr | apply dv_slice | apply sv_d | apply f_cons | apply fold_nil | apply fold_cons | apply fold_app | apply f_rowI | apply f_rowY | apply f_rowS | apply f_rowB | apply f_rowL) | (with_reducible apply f_byte; decide))); done))) | ((with_reducible apply chle_eq); (focus (first | (simp only [push_cast, seval]; rfl) | rfl)); (first | with_reducible exact chle_rfl rfl | with_reducible exact chle_map0 | with_reducible apply chle_vec | with_reducible apply chle_box)) | (with_reducible first | apply cT_Tapi_Marks | apply cT_Tapi_Element | apply cT_Tapi_Segment | apply vc_rfl | apply vc_nil | apply vc_cons | apply r_rfl | apply r_rows | apply r_nil | apply r_app | apply r_cons | apply c_rowI | apply c_rowY | apply c_rowS | apply c_rowB | apply c_rowL))); done)))) | ((apply K_brk (s' := _) hm); (focus (first | (dsimp only; done) | (dsimp only; rfl) | rfl)); (focus ((apply imp_stT; (repeat' (first | with_reducible exact keepT_nil | with_reducible exact keepC_nil | with_reducible apply keepT_cons | with_reducible apply keepC_cons | ((with_reducible apply svle_eq); (focus (first | (simp only [push_cast, seval]; rfl) | rfl)); (focus ((repeat' (first | rfl | (with_reducible first | apply fT_Tapi_Marks | apply fT_Tapi_Element | apply fT_Tapi_Segment | apply f_optN | apply f_optS | apply f_some | apply f_tup | apply f_agg | apply f_ptr | apply dv_slice | apply sv_d | apply f_cons | apply fold_nil | apply fold_cons | apply fold_app | apply f_rowI | apply f_rowY | apply f_rowS | apply f_rowB | apply f_rowL) | (with_reducible apply f_byte; decide))); done))) | ((with_reducible apply svle_td); (focus (first | (simp only [push_cast, seval]; rfl) | rfl)); (focus (first | (simp only [push_cast, seval]; rfl) | rfl)); (focus ((repeat' (first | rfl | (with_reducible first | apply fT_Tapi_Marks | apply fT_Tapi_Element | apply fT_Tapi_Segment | apply f_optN | apply f_optS | apply f_some | apply f_tup | apply f_agg | apply f_ptr | apply dv_slice | apply sv_d | apply f_cons | apply fold_nil | apply fold_cons | apply fold_app | apply f_rowI | apply f_rowY | apply f_rowS | apply f_rowB | apply f_rowL) | (with_reducible apply f_byte; decide))); done))) | ((with_reducible apply chle_eq); (focus (first | (simp only [push_cast, seval]; rfl) | rfl)); (first | with_reducible exact chle_rfl rfl | with_reducible exact chle_map0 | with_reducible apply chle_vec | with_reducible apply chle_box)) | (with_reducible first | apply cT_Tapi_Marks | apply cT_Tapi_Element | apply cT_Tapi_Segment | apply vc_rfl | apply vc_nil | apply vc_cons | apply r_rfl | apply r_rows | apply r_nil | apply r_app | apply r_cons | apply c_rowI | apply c_rowY | apply c_rowS | apply c_rowB | apply c_rowL))); done)))) | (((with_reducible apply K_brkN hm); (focus decide); intro r hm)) | (((with_reducible apply K_brkR hm); intro r hm))))
noncomputable def m_interchangeref2_beginsTag (x0 : List UInt8) : Option (Bool) := (sims_G2_0_0.1 x0).1
theorem spec_interchangeref2_beginsTag (x0 : List UInt8) : ∀ r, m_interchangeref2_beginsTag x0 = some r → PureSpec Tryd.prog 100 [.str x0] (.bool r) := (sims_G2_0_0.1 x0).2
noncomputable def m_interchangeref2_checkText (x0 : List UInt8) : Option (Int) := (sims_G2_0_0.2 x0).1
theorem spec_interchangeref2_checkText (x0 : List UInt8) : ∀ r, m_interchangeref2_checkText x0 = some r → PureSpec Tryd.prog 66 [.str x0] (.int .i64 r) := (sims_G2_0_0.2 x0).2

/-- interchange/kit.IsTag -/
def sc_kit_IsTag : SC :=
  (.seq (.reg [.r 2 (.mv (.c (.d (.bool false))))])
  (.seq (.reg (.r 3 (.mv (.t 0)) :: .r 4 (.lenT (.t 3)) :: .r 5 (.bin .geq (.t 4) (.c (.d (.int .i64 2)))) :: .r 6 (.mv (.t 5)) :: gapp [7, 8, 9] 6 true (.r 7 (.mv (.t 0)) :: .r 8 (.lenT (.t 7)) :: .r 9 (.bin .leq (.t 8) (.c (.d (.int .i64 6)))) :: []) (.r 10 (.pick (.t 6) (.t 9) (.c (.d (.bool false)))) :: .r 11 (.mv (.t 10)) :: gapp [12, 13, 14, 15] 11 true (.r 12 (.mv (.t 0)) :: .r 13 (.sidx (.t 12) (.c (.d (.int .i64 0)))) :: .c 14 (.f 82) [.c (.d (.str [65, 66, 67, 68, 69, 70, 71, 72, 73, 74, 75, 76, 77, 78, 79, 80, 81, 82, 83, 84, 85, 86, 87, 88, 89, 90])), .t 13] :: .r 15 (.bin .geq (.t 14) (.c (.d (.int .i64 0)))) :: []) (.r 16 (.pick (.t 11) (.t 15) (.c (.d (.bool false)))) :: .r 17 (.mv (.t 16)) :: gapp [18, 19] 17 true (.r 18 (.mv (.t 0)) :: .c 19 (.f 78) [.t 18] :: []) (.r 20 (.pick (.t 17) (.t 19) (.c (.d (.bool false)))) :: .r 2 (.mv (.t 20)) :: [])))))
  .ret))
theorem fit_kit_IsTag : fits Tryd.prog 54 Tryd.f54 sc_kit_IsTag [.t 2] 1 = true := by kernel_rfl

/-- interchange/kit.IsText -/
def sc_kit_IsText : SC :=
  (.seq (.reg [.r 2 (.mv (.c (.d (.bool false))))])
  (.seq (.reg (.r 3 (.mv (.t 0)) :: .r 4 (.lenT (.t 3)) :: .r 5 (.bin .leq (.t 4) (.c (.d (.int .i64 1000)))) :: .r 6 (.mv (.t 5)) :: gapp [7, 8] 6 true (.r 7 (.mv (.t 0)) :: .c 8 (.f 79) [.t 7, .c (.d (.int .u8 32)), .c (.d (.int .u8 126))] :: []) (.r 9 (.pick (.t 6) (.t 8) (.c (.d (.bool false)))) :: .r 2 (.mv (.t 9)) :: [])))
  .ret))
theorem fit_kit_IsText : fits Tryd.prog 88 Tryd.f88 sc_kit_IsText [.t 2] 1 = true := by kernel_rfl

/-- interchange/interchangeref2.IsTag -/
def sc_interchangeref2_IsTag : SC :=
  (.seq (.reg [.r 2 (.mv (.c (.d (.bool false))))])
  (.seq (.reg (.r 3 (.mv (.t 0)) :: .r 4 (.lenT (.t 3)) :: .r 5 (.bin .geq (.t 4) (.c (.d (.int .i64 2)))) :: .r 6 (.mv (.t 5)) :: gapp [7, 8] 6 true (.r 7 (.mv (.t 0)) :: .c 8 (.f 100) [.t 7] :: []) (.r 9 (.pick (.t 6) (.t 8) (.c (.d (.bool false)))) :: .r 2 (.mv (.t 9)) :: [])))
  .ret))
theorem fit_interchangeref2_IsTag : fits Tryd.prog 83 Tryd.f83 sc_interchangeref2_IsTag [.t 2] 1 = true := by kernel_rfl

def sc_interchangeref2_checkElement_L1 : SC :=
  (.seq (.seq (.reg [.r 35 (.mv (.t 4)),
     .r 36 (.fld 0 (.t 1)),
     .o 37 (.ld1 (.t 36)),
     .r 38 (.mv (.t 3)),
     .r 39 (.idx 1 (.t 37) (.t 38)),
     .o 40 (.ld1 (.t 39)),
     .r 41 (.len (.t 40)),
     .r 42 (.bin .lss (.t 35) (.t 41))])
  (.cond (.t 42)
    .skip
    (.exit 2)))
  (.seq (.block 3 (.seq (.reg [.r 45 (.fld 0 (.t 1)),
       .o 46 (.ld1 (.t 45)),
       .r 47 (.mv (.t 3)),
       .r 48 (.idx 1 (.t 46) (.t 47)),
       .o 49 (.ld1 (.t 48)),
       .r 50 (.mv (.t 4)),
       .r 51 (.idx 1 (.t 49) (.t 50)),
       .o 52 (.ld1 (.t 51)),
       .c 53 (.f 66) [.t 52],
       .r 5 (.mv (.t 53))])
    (.seq (.reg [.r 54 (.mv (.t 5)),
       .r 55 (.bin .neq (.t 54) (.c (.d (.int .i64 0))))])
    (.cond (.t 55)
      (.seq (.reg [.r 56 (.mv (.t 5)),
         .r 2 (.mv (.t 56))])
      .ret)
      .skip))))
  (.reg [.r 43 (.mv (.t 4)),
     .r 44 (.bin .add (.t 43) (.c (.d (.int .i64 1)))),
     .r 4 (.mv (.t 44))])))
def sc_interchangeref2_checkElement_B1 : SC := .block 2 (.loop sc_interchangeref2_checkElement_L1)
def sc_interchangeref2_checkElement_L2 : SC :=
  (.seq (.seq (.reg [.r 14 (.mv (.t 3)),
     .r 15 (.fld 0 (.t 1)),
     .o 16 (.ld1 (.t 15)),
     .r 17 (.len (.t 16)),
     .r 18 (.bin .lss (.t 14) (.t 17))])
  (.cond (.t 18)
    .skip
    (.exit 0)))
  (.seq (.block 1 (.seq (.seq (.reg [.r 21 (.fld 0 (.t 1)),
       .o 22 (.ld1 (.t 21)),
       .r 23 (.mv (.t 3)),
       .r 24 (.idx 1 (.t 22) (.t 23)),
       .o 25 (.ld1 (.t 24)),
       .r 26 (.len (.t 25)),
       .r 27 (.bin .eql (.t 26) (.c (.d (.int .i64 0))))])
    (.cond (.t 27)
      (.seq (.reg [.r 2 (.mv (.c (.d (.int .i64 9))))])
      .ret)
      .skip))
    (.seq (.seq (.reg [.r 28 (.fld 0 (.t 1)),
       .o 29 (.ld1 (.t 28)),
       .r 30 (.mv (.t 3)),
       .r 31 (.idx 1 (.t 29) (.t 30)),
       .o 32 (.ld1 (.t 31)),
       .r 33 (.len (.t 32)),
       .r 34 (.bin .gtr (.t 33) (.c (.d (.int .i64 20))))])
    (.cond (.t 34)
      (.seq (.reg [.r 2 (.mv (.c (.d (.int .i64 2))))])
      .ret)
      .skip))
    (.seq (.reg [.r 4 (.mv (.c (.d (.int .i64 0))))])
    sc_interchangeref2_checkElement_B1))))
  (.reg [.r 19 (.mv (.t 3)),
     .r 20 (.bin .add (.t 19) (.c (.d (.int .i64 1)))),
     .r 3 (.mv (.t 20))])))
def sc_interchangeref2_checkElement_B2 : SC := .block 0 (.loop sc_interchangeref2_checkElement_L2)
/-- interchange/interchangeref2.checkElement -/
def sc_interchangeref2_checkElement : SC :=
  (.seq (.reg [.r 1 (.boxI (.t 0)),
     .r 2 (.mv (.c (.d (.int .i64 0))))])
  (.seq (.seq (.reg [.r 6 (.fld 0 (.t 1)),
     .o 7 (.ld1 (.t 6)),
     .r 8 (.len (.t 7)),
     .r 9 (.bin .eql (.t 8) (.c (.d (.int .i64 0))))])
  (.cond (.t 9)
    (.seq (.reg [.r 2 (.mv (.c (.d (.int .i64 9))))])
    .ret)
    .skip))
  (.seq (.seq (.reg [.r 10 (.fld 0 (.t 1)),
     .o 11 (.ld1 (.t 10)),
     .r 12 (.len (.t 11)),
     .r 13 (.bin .gtr (.t 12) (.c (.d (.int .i64 20))))])
  (.cond (.t 13)
    (.seq (.reg [.r 2 (.mv (.c (.d (.int .i64 2))))])
    .ret)
    .skip))
  (.seq (.seq (.reg [.r 3 (.mv (.c (.d (.int .i64 0))))])
  sc_interchangeref2_checkElement_B2)
  (.seq (.reg [.r 2 (.mv (.c (.d (.int .i64 0))))])
  .ret)))))
theorem fit_interchangeref2_checkElement : fits Tryd.prog 84 Tryd.f84 sc_interchangeref2_checkElement [.t 2] 1 = true := by kernel_rfl

set_option maxRecDepth 100000 in
set_option maxHeartbeats 40000000 in
noncomputable def sims_G2_1_0 : (∀ (x0 : List UInt8), {m : Option (Bool) // ∀ r, m = some r → PureSpec Tryd.prog 54 [.str x0] (.bool r)}) × (∀ (x0 : List UInt8), {m : Option (Bool) // ∀ r, m = some r → PureSpec Tryd.prog 88 [.str x0] (.bool r)}) × (∀ (x0 : List UInt8), {m : Option (Bool) // ∀ r, m = some r → PureSpec Tryd.prog 83 [.str x0] (.bool r)}) × (∀ (x0 : Tapi_Element), {m : Option (Int) // ∀ r, m = some r → PureSpec Tryd.prog 84 [.agg (rTapi_Element x0)] (.int .i64 r)}) := by
  refine ⟨?g0, ?g1, ?g2, ?g3⟩
  case' g0 => (intro x0; apply Subtype.mk; intro r hm; apply pure_walk Tryd.func54 fit_kit_IsTag; unfold sc_kit_IsTag)
  case' g1 => (intro x0; apply Subtype.mk; intro r hm; apply pure_walk Tryd.func88 fit_kit_IsText; unfold sc_kit_IsText)
  case' g2 => (intro x0; apply Subtype.mk; intro r hm; apply pure_walk Tryd.func83 fit_interchangeref2_IsTag; unfold sc_interchangeref2_IsTag)
  case' g3 => (intro x0; apply Subtype.mk; intro r hm; apply pure_walk Tryd.func84 fit_interchangeref2_checkElement; unfold sc_interchangeref2_checkElement)
  all_goals (repeat' (first | with_reducible refine W_seq ?_ | with_reducible refine W_reg ?_ | with_reducible refine W_block ?_ | with_reducible refine W_skip ?_ | with_reducible refine W_ret ?_ | with_reducible refine W_exit ?_ | with_reducible refine O_nil ?_ | with_reducible refine K_seq ?_ | with_reducible refine K_seqE ?_ | with_reducible refine K_seqR ?_ | with_reducible refine K_block ?_ | with_reducible refine K_blockR ?_ | with_reducible refine K_blockE ?_ | ((with_reducible apply K_blockN); decide) | with_reducible refine O_o2r ?_ | ((with_reducible apply O_idxr hm); (iterate 2 (simp only [push_cast, seval]; rfl)); (intro _; rfl); intro e hm) | ((with_reducible apply O_idxVr hm); (iterate 3 (simp only [push_cast, seval]; rfl)); intro e hm) | ((with_reducible apply O_sidxr hm); (iterate 2 (simp only [push_cast, seval]; rfl)); intro e hm) | ((with_reducible apply O_r); (simp only [push_cast, seval]; rfl); (first | exact trivial | omega)) | ((with_reducible apply O_ldV1r hm); (iterate 2 (simp only [push_cast, seval]; rfl)); (intro _; rfl); intro e hm) | ((with_reducible apply O_strr hm); (iterate 2 (simp only [push_cast, seval]; rfl)); intro hm) | ((with_reducible apply O_and hm); (simp only [push_cast, seval]; rfl); rfl; intro v hm; rotate_left; intro v g hm) | ((with_reducible apply W_condT); (focus (simp only [push_cast, seval]; done))) | ((with_reducible apply W_condF); (focus (simp only [push_cast, seval]; done))) | ((with_reducible apply O_cS hm); (simp only [push_cast, seval]; rfl); (focus (first | exact spec_strings_IndexByte _ _ | exact spec_kit_IsTagPart _ | exact spec_kit_InBytes _ _ _ | exact spec_interchangeref2_beginsTag _ | exact spec_interchangeref2_checkText _)); intro x hm) | ((with_reducible apply O_cF hm); (simp only [push_cast, seval]; rfl); (first | apply spec_strings_IndexByte _ _ | apply spec_kit_IsTagPart _ | apply spec_kit_InBytes _ _ _ | apply spec_interchangeref2_beginsTag _ | apply spec_interchangeref2_checkText _); (any_goals ((repeat' (first | rfl | (with_reducible first | apply fT_Tapi_Marks | apply fT_Tapi_Element | apply fT_Tapi_Segment | apply f_optN | apply f_optS | apply f_some | apply f_tup | apply f_agg | apply f_ptr | apply dv_slice | apply sv_d | apply f_cons | apply fold_nil | apply fold_cons | apply fold_app | apply f_rowI | apply f_rowY | apply f_rowS | apply f_rowB | apply f_rowL) | (with_reducible apply f_byte; decide))); done)); intro x hm) | ((with_reducible apply S_condB hm); (simp only [push_cast, seval]; rfl); intro hm; rotate_left; intro hm) | ((with_reducible apply K_endS hm); (focus (simp only [resOf, resL, RV.get, push_cast, seval]; rfl)); (focus ((repeat' (first | rfl | (with_reducible first | apply fT_Tapi_Marks | apply fT_Tapi_Element | apply fT_Tapi_Segment | apply f_optN | apply f_optS | apply f_some | apply f_tup | apply f_agg | apply f_ptr | apply dv_slice | apply sv_d | apply f_cons | apply fold_nil | apply fold_cons | apply fold_app | apply f_rowI | apply f_rowY | apply f_rowS | apply f_rowB | apply f_rowL) | (with_reducible apply f_byte; decide))); done))) | ((with_reducible apply K_bool hm); (simp only [push_cast, seval]; rfl)) | ((with_reducible apply K_leave hm); intro r hm) | ((with_reducible apply K_leaveR hm); intro r hm) | ((apply S_loopX (b := 2) (X := sc_interchangeref2_checkElement_B1) (x := sc_interchangeref2_checkElement_L1) rfl (fun (c : SV × SV) (s : Int) => st [(1, c.1), (3, c.2), (4, .d (.int .i64 s))] []) (c := (_, _)) (s0 := _) hm); (focus (first | (dsimp only; done) | (dsimp only; rfl) | rfl)); (focus ((apply imp_stT; (repeat' (first | with_reducible exact keepT_nil | with_reducible exact keepC_nil | with_reducible apply keepT_cons | with_reducible apply keepC_cons | ((with_reducible apply svle_eq); (focus (first | (simp only [push_cast, seval]; rfl) | rfl)); (focus ((repeat' (first | rfl | (with_reducible first | apply fT_Tapi_Marks | apply fT_Tapi_Element | apply fT_Tapi_Segment | apply f_optN | apply f_optS | apply f_some | apply f_tup | apply f_agg | apply f_ptr | apply dv_slice | apply sv_d | apply f_cons | apply fold_nil | apply fold_cons | apply fold_app | apply f_rowI | apply f_rowY | apply f_rowS | apply f_rowB | apply f_rowL) | (with_reducible apply f_byte; decide))); done))) | ((with_reducible apply svle_td); (focus (first | (simp only [push_cast, seval]; rfl) | rfl)); (focus (first | (simp only [push_cast, seval]; rfl) | rfl)); (focus ((repeat' (first | rfl | (with_reducible first | apply fT_Tapi_Marks | apply fT_Tapi_Element | apply fT_Tapi_Segment | apply f_optN | apply f_optS | apply f_some | apply f_tup | apply f_agg | apply f_ptr | apply dv_slice | apply sv_d | apply f_cons | apply fold_nil | apply fold_cons | apply fold_app | apply f_rowI | apply f_rowY | apply f_rowS | apply f_rowB | apply f_rowL) | (with_reducible apply f_byte; decide))); done))) | ((with_reducible apply chle_eq); (focus (first | (simp only [push_cast, seval]; rfl) | rfl)); (first | with_reducible exact chle_rfl rfl | with_reducible exact chle_map0 | with_reducible apply chle_vec | with_reducible apply chle_box)) | (with_reducible first | apply cT_Tapi_Marks | apply cT_Tapi_Element | apply cT_Tapi_Segment | apply vc_rfl | apply vc_nil | apply vc_cons | apply r_rfl | apply r_rows | apply r_nil | apply r_app | apply r_cons | apply c_rowI | apply c_rowY | apply c_rowS | apply c_rowB | apply c_rowL))); done))); (focus (first | (dsimp only; done) | (dsimp only; rfl) | rfl)); (focus ((intro _; repeat' (first | with_reducible exact impC_end | with_reducible exact impC_endF | with_reducible refine impC_seq ?_ | with_reducible refine impC_block ?_ | ((with_reducible refine impC_rnd ?_); intro _) | ((with_reducible refine impC_brk ?_); intro _))))); (intro s o hm; unfold sc_interchangeref2_checkElement_L1); rotate_left; intro s hm) | ((apply S_loopX (b := 0) (X := sc_interchangeref2_checkElement_B2) (x := sc_interchangeref2_checkElement_L2) rfl (fun (c : SV) (s : Int) => st [(1, c), (3, .d (.int .i64 s))] []) (c := _) (s0 := _) hm); (focus (first | (dsimp only; done) | (dsimp only; rfl) | rfl)); (focus ((apply imp_stT; (repeat' (first | with_reducible exact keepT_nil | with_reducible exact keepC_nil | with_reducible apply keepT_cons | with_reducible apply keepC_cons | ((with_reducible apply svle_eq); (focus (first | (simp only [push_cast, seval]; rfl) | rfl)); (focus ((repeat' (first | rfl | (with_reducible first | apply fT_Tapi_Marks | apply fT_Tapi_Element | apply fT_Tapi_Segment | apply f_optN | apply f_optS | apply f_some | apply f_tup | apply f_agg | apply f_ptr | apply dv_slice | apply sv_d | apply f_cons | apply fold_nil | apply fold_cons | apply fold_app | apply f_rowI | apply f_rowY | apply f_rowS | apply f_rowB | apply f_rowL) | (with_reducible apply f_byte; decide))); done))) | ((with_reducible apply svle_td); (focus (first | (simp only [push_cast, seval]; rfl) | rfl)); (focus (first | (simp only [push_cast, seval]; rfl) | rfl)); (focus ((repeat' (first | rfl | (with_reducible first | apply fT_Tapi_Marks | apply fT_Tapi_Element | apply fT_Tapi_Segment | apply f_optN | apply f_optS | apply f_some | apply f_tup | apply f_agg | apply f_ptr | apply dv_slice | apply sv_d | apply f_cons | apply fold_nil | apply fold_cons | apply fold_app | apply f_rowI | apply f_rowY | apply f_rowS | apply f_rowB | apply f_rowL) | (with_reducible apply f_byte; decide))); done))) | ((with_reducible apply chle_eq); (focus (first | (simp only [push_cast, seval]; rfl) | rfl)); (first | with_reducible exact chle_rfl rfl | with_reducible exact chle_map0 | with_reducible apply chle_vec | with_reducible apply chle_box)) | (with_reducible first | apply cT_Tapi_Marks | apply cT_Tapi_Element | apply cT_Tapi_Segment | apply vc_rfl | apply vc_nil | apply vc_cons | apply r_rfl | apply r_rows | apply r_nil | apply r_app | apply r_cons | apply c_rowI | apply c_rowY | apply c_rowS | apply c_rowB | apply c_rowL))); done))); (focus (first | (dsimp only; done) | (dsimp only; rfl) | rfl)); (focus ((intro _; repeat' (first | with_reducible exact impC_end | with_reducible exact impC_endF | with_reducible refine impC_seq ?_ | with_reducible refine impC_block ?_ | ((with_reducible refine impC_rnd ?_); intro _) | ((with_reducible refine impC_brk ?_); intro _))))); (intro s o hm; unfold sc_interchangeref2_checkElement_L2); rotate_left; intro s hm) | ((apply K_next (s' := _) hm); (focus (first | (dsimp only; done) | (dsimp only; rfl) | rfl)); (focus ((apply imp_stT; (repeat' (first | with_reducible exact keepT_nil | with_reducible exact keepC_nil | with_reducible apply keepT_cons | with_reducible apply keepC_cons | ((with_reducible apply svle_eq); (focus (first | (simp only [push_cast, seval]; rfl) | rfl)); (focus ((repeat' (first | rfl | (with_reducible first | apply fT_Tapi_Marks | apply fT_Tapi_Element | apply fT_Tapi_Segment | apply f_optN | apply f_optS | apply f_some | apply f_tup | apply f_agg | apply f_ptr | apply dv_slice | apply sv_d | apply f_cons | apply fold_nil | apply fold_cons | apply fold_app | apply f_rowI | apply f_rowY | apply f_rowS | apply f_rowB | apply f_rowL) | (with_reducible apply f_byte; decide))); done))) | ((with_reducible apply svle_td); (focus (first | (simp only [push_cast, seval]; rfl) | rfl)); (focus (first | (simp only [push_cast, seval]; rfl) | rfl)); (focus ((repeat' (first | rfl | (with_reducible first | apply fT_Tapi_Marks | apply fT_Tapi_Element | apply fT_Tapi_Segment | apply f_optN | apply f_optS | apply f_some | apply f_tup | apply f_agg | apply f_ptr | apply dv_slice | apply sv_d | apply f_cons | apply fold_nil | apply fold_cons | apply fold_app | apply f_rowI | apply f_rowY | apply f_rowS | apply f_rowB | apply f_rowL) | (with_reducible apply f_byte; decide))); done))) | ((with_reducible apply chle_eq); (focus (first | (simp only [push_cast, seval]; rfl) | rfl)); (first | with_reducible exact chle_rfl rfl | with_reducible exact chle_map0 | with_reducible apply chle_vec | with_reducible apply chle_box)) | (with_reducible first | apply cT_Tapi_Marks | apply cT_Tapi_Element | apply cT_Tapi_Segment | apply vc_rfl | apply vc_nil | apply vc_cons | apply r_rfl | apply r_rows | apply r_nil | apply r_app | apply r_cons | apply c_rowI | apply c_rowY | apply c_rowS | apply c_rowB | apply c_rowL))); done)))) | ((apply K_brk (s' := _) hm); (focus (first | (dsimp only; done) | (dsimp only; rfl) | rfl)); (focus ((apply imp_stT; (repeat' (first | with_reducible exact keepT_nil | with_reducible exact keepC_nil | with_reducible apply keepT_cons | with_reducible apply keepC_cons | ((with_reducible apply svle_eq); (focus (first | (simp only [push_cast, seval]; rfl) | rfl)); (focus ((repeat' (first | rfl | (with_reducible first | apply fT_Tapi_Marks | apply fT_Tapi_Element | apply fT_Tapi_Segment | apply f_optN | apply f_optS | apply f_some | apply f_tup | apply f_agg | apply f_ptr | apply dv_slice | apply sv_d | apply f_cons | apply fold_nil | apply fold_cons | apply fold_app | apply f_rowI | apply f_rowY | apply f_rowS | apply f_rowB | apply f_rowL) | (with_reducible apply f_byte; decide))); done))) | ((with_reducible apply svle_td); (focus (first | (simp only [push_cast, seval]; rfl) | rfl)); (focus (first | (simp only [push_cast, seval]; rfl) | rfl)); (focus ((repeat' (first | rfl | (with_reducible first | apply fT_Tapi_Marks | apply fT_Tapi_Element | apply fT_Tapi_Segment | apply f_optN | apply f_optS | apply f_some | apply f_tup | apply f_agg | apply f_ptr | apply dv_slice | apply sv_d | apply f_cons | apply fold_nil | apply fold_cons | apply fold_app | apply f_rowI | apply f_rowY | apply f_rowS | apply f_rowB | apply f_rowL) | (with_reducible apply f_byte; decide))); done))) | ((with_reducible apply chle_eq); (focus (first | (simp only [push_cast, seval]; rfl) | rfl)); (first | with_reducible exact chle_rfl rfl | with_reducible exact chle_map0 | with_reducible apply chle_vec | with_reducible apply chle_box)) | (with_reducible first | apply cT_Tapi_Marks | apply cT_Tapi_Element | apply cT_Tapi_Segment | apply vc_rfl | apply vc_nil | apply vc_cons | apply r_rfl | apply r_rows | apply r_nil | apply r_app | apply r_cons | apply c_rowI | apply c_rowY | apply c_rowS | apply c_rowB | apply c_rowL))); done)))) | (((with_reducible apply K_brkN hm); (focus decide); intro r hm)) | (((with_reducible apply K_brkR hm); intro r hm))))
noncomputable def m_kit_IsTag (x0 : List UInt8) : Option (Bool) := (sims_G2_1_0.1 x0).1
theorem spec_kit_IsTag (x0 : List UInt8) : ∀ r, m_kit_IsTag x0 = some r → PureSpec Tryd.prog 54 [.str x0] (.bool r) := (sims_G2_1_0.1 x0).2
noncomputable def m_kit_IsText (x0 : List UInt8) : Option (Bool) := (sims_G2_1_0.2.1 x0).1
theorem spec_kit_IsText (x0 : List UInt8) : ∀ r, m_kit_IsText x0 = some r → PureSpec Tryd.prog 88 [.str x0] (.bool r) := (sims_G2_1_0.2.1 x0).2
noncomputable def m_interchangeref2_IsTag (x0 : List UInt8) : Option (Bool) := (sims_G2_1_0.2.2.1 x0).1
theorem spec_interchangeref2_IsTag (x0 : List UInt8) : ∀ r, m_interchangeref2_IsTag x0 = some r → PureSpec Tryd.prog 83 [.str x0] (.bool r) := (sims_G2_1_0.2.2.1 x0).2
noncomputable def m_interchangeref2_checkElement (x0 : Tapi_Element) : Option (Int) := (sims_G2_1_0.2.2.2 x0).1
theorem spec_interchangeref2_checkElement (x0 : Tapi_Element) : ∀ r, m_interchangeref2_checkElement x0 = some r → PureSpec Tryd.prog 84 [.agg (rTapi_Element x0)] (.int .i64 r) := (sims_G2_1_0.2.2.2 x0).2

/-- interchange/wire.textFault -/
def sc_wire_textFault : SC :=
  (.seq (.reg [.r 2 (.mv (.c (.d (.int .i64 0))))])
  (.seq (.seq (.reg [.r 3 (.mv (.t 0)),
     .r 4 (.lenT (.t 3)),
     .r 5 (.bin .gtr (.t 4) (.c (.d (.int .i64 1000))))])
  (.cond (.t 5)
    (.seq (.reg [.r 2 (.mv (.c (.d (.int .i64 2))))])
    .ret)
    .skip))
  (.seq (.seq (.reg [.r 6 (.mv (.t 0)),
     .c 7 (.f 88) [.t 6],
     .r 8 (.not (.t 7))])
  (.cond (.t 8)
    (.seq (.reg [.r 2 (.mv (.c (.d (.int .i64 3))))])
    .ret)
    .skip))
  (.seq (.reg [.r 2 (.mv (.c (.d (.int .i64 0))))])
  .ret))))
theorem fit_wire_textFault : fits Tryd.prog 64 Tryd.f64 sc_wire_textFault [.t 2] 1 = true := by kernel_rfl

def sc_interchangeref2_CheckOne_L1 : SC :=
  (.seq (.seq (.reg [.r 13 (.mv (.t 3)),
     .r 14 (.fld 1 (.t 1)),
     .o 15 (.ld1 (.t 14)),
     .r 16 (.len (.t 15)),
     .r 17 (.bin .lss (.t 13) (.t 16))])
  (.cond (.t 17)
    .skip
    (.exit 0)))
  (.seq (.block 1 (.seq (.reg [.r 20 (.fld 1 (.t 1)),
       .o 21 (.ld1 (.t 20)),
       .r 22 (.mv (.t 3)),
       .r 23 (.idx 1 (.t 21) (.t 22)),
       .o 24 (.ldA 1 (.t 23)),
       .c 25 (.f 84) [.t 24],
       .r 4 (.mv (.t 25))])
    (.seq (.reg [.r 26 (.mv (.t 4)),
       .r 27 (.bin .neq (.t 26) (.c (.d (.int .i64 0))))])
    (.cond (.t 27)
      (.seq (.reg [.r 28 (.mv (.t 4)),
         .r 2 (.mv (.t 28))])
      .ret)
      .skip))))
  (.reg [.r 18 (.mv (.t 3)),
     .r 19 (.bin .add (.t 18) (.c (.d (.int .i64 1)))),
     .r 3 (.mv (.t 19))])))
def sc_interchangeref2_CheckOne_B1 : SC := .block 0 (.loop sc_interchangeref2_CheckOne_L1)
/-- interchange/interchangeref2.CheckOne -/
def sc_interchangeref2_CheckOne : SC :=
  (.seq (.reg [.r 1 (.boxI (.t 0)),
     .r 2 (.mv (.c (.d (.int .i64 0))))])
  (.seq (.seq (.reg [.r 5 (.fld 0 (.t 1)),
     .o 6 (.ld1 (.t 5)),
     .c 7 (.f 83) [.t 6],
     .r 8 (.not (.t 7))])
  (.cond (.t 8)
    (.seq (.reg [.r 2 (.mv (.c (.d (.int .i64 5))))])
    .ret)
    .skip))
  (.seq (.seq (.reg [.r 9 (.fld 1 (.t 1)),
     .o 10 (.ld1 (.t 9)),
     .r 11 (.len (.t 10)),
     .r 12 (.bin .gtr (.t 11) (.c (.d (.int .i64 50))))])
  (.cond (.t 12)
    (.seq (.reg [.r 2 (.mv (.c (.d (.int .i64 2))))])
    .ret)
    .skip))
  (.seq (.seq (.reg [.r 3 (.mv (.c (.d (.int .i64 0))))])
  sc_interchangeref2_CheckOne_B1)
  (.seq (.reg [.r 2 (.mv (.c (.d (.int .i64 0))))])
  .ret)))))
theorem fit_interchangeref2_CheckOne : fits Tryd.prog 56 Tryd.f56 sc_interchangeref2_CheckOne [.t 2] 1 = true := by kernel_rfl

set_option maxRecDepth 100000 in
set_option maxHeartbeats 40000000 in
noncomputable def sims_G2_2_0 : (∀ (x0 : List UInt8), {m : Option (Int) // ∀ r, m = some r → PureSpec Tryd.prog 64 [.str x0] (.int .i64 r)}) × (∀ (x0 : Tapi_Segment), {m : Option (Int) // ∀ r, m = some r → PureSpec Tryd.prog 56 [.agg (rTapi_Segment x0)] (.int .i64 r)}) := by
  refine ⟨?g0, ?g1⟩
  case' g0 => (intro x0; apply Subtype.mk; intro r hm; apply pure_walk Tryd.func64 fit_wire_textFault; unfold sc_wire_textFault)
  case' g1 => (intro x0; apply Subtype.mk; intro r hm; apply pure_walk Tryd.func56 fit_interchangeref2_CheckOne; unfold sc_interchangeref2_CheckOne)
  all_goals (repeat' (first | with_reducible refine W_seq ?_ | with_reducible refine W_reg ?_ | with_reducible refine W_block ?_ | with_reducible refine W_skip ?_ | with_reducible refine W_ret ?_ | with_reducible refine W_exit ?_ | with_reducible refine O_nil ?_ | with_reducible refine K_seq ?_ | with_reducible refine K_seqE ?_ | with_reducible refine K_seqR ?_ | with_reducible refine K_block ?_ | with_reducible refine K_blockR ?_ | with_reducible refine K_blockE ?_ | ((with_reducible apply K_blockN); decide) | with_reducible refine O_o2r ?_ | ((with_reducible apply O_idxr hm); (iterate 2 (simp only [push_cast, seval]; rfl)); (intro _; rfl); intro e hm) | ((with_reducible apply O_idxVr hm); (iterate 3 (simp only [push_cast, seval]; rfl)); intro e hm) | ((with_reducible apply O_r); (simp only [push_cast, seval]; rfl); (first | exact trivial | omega)) | ((with_reducible apply O_ldV1r hm); (iterate 2 (simp only [push_cast, seval]; rfl)); (intro _; rfl); intro e hm) | ((with_reducible apply O_strr hm); (iterate 2 (simp only [push_cast, seval]; rfl)); intro hm) | ((with_reducible apply W_condT); (focus (simp only [push_cast, seval]; done))) | ((with_reducible apply W_condF); (focus (simp only [push_cast, seval]; done))) | ((with_reducible apply O_cS hm); (simp only [push_cast, seval]; rfl); (focus (first | exact spec_kit_IsText _ | exact spec_interchangeref2_IsTag _ | exact spec_interchangeref2_checkElement _)); intro x hm) | ((with_reducible apply O_cF hm); (simp only [push_cast, seval]; rfl); (first | apply spec_kit_IsText _ | apply spec_interchangeref2_IsTag _ | apply spec_interchangeref2_checkElement _); (any_goals ((repeat' (first | rfl | (with_reducible first | apply fT_Tapi_Marks | apply fT_Tapi_Element | apply fT_Tapi_Segment | apply f_optN | apply f_optS | apply f_some | apply f_tup | apply f_agg | apply f_ptr | apply dv_slice | apply sv_d | apply f_cons | apply fold_nil | apply fold_cons | apply fold_app | apply f_rowI | apply f_rowY | apply f_rowS | apply f_rowB | apply f_rowL) | (with_reducible apply f_byte; decide))); done)); intro x hm) | ((with_reducible apply S_condB hm); (simp only [push_cast, seval]; rfl); intro hm; rotate_left; intro hm) | ((with_reducible apply K_endS hm); (focus (simp only [resOf, resL, RV.get, push_cast, seval]; rfl)); (focus ((repeat' (first | rfl | (with_reducible first | apply fT_Tapi_Marks | apply fT_Tapi_Element | apply fT_Tapi_Segment | apply f_optN | apply f_optS | apply f_some | apply f_tup | apply f_agg | apply f_ptr | apply dv_slice | apply sv_d | apply f_cons | apply fold_nil | apply fold_cons | apply fold_app | apply f_rowI | apply f_rowY | apply f_rowS | apply f_rowB | apply f_rowL) | (with_reducible apply f_byte; decide))); done))) | ((with_reducible apply K_leave hm); intro r hm) | ((with_reducible apply K_leaveR hm); intro r hm) | ((apply S_loopX (b := 0) (X := sc_interchangeref2_CheckOne_B1) (x := sc_interchangeref2_CheckOne_L1) rfl (fun (c : SV) (s : Int) => st [(1, c), (3, .d (.int .i64 s))] []) (c := _) (s0 := _) hm); (focus (first | (dsimp only; done) | (dsimp only; rfl) | rfl)); (focus ((apply imp_stT; (repeat' (first | with_reducible exact keepT_nil | with_reducible exact keepC_nil | with_reducible apply keepT_cons | with_reducible apply keepC_cons | ((with_reducible apply svle_eq); (focus (first | (simp only [push_cast, seval]; rfl) | rfl)); (focus ((repeat' (first | rfl | (with_reducible first | apply fT_Tapi_Marks | apply fT_Tapi_Element | apply fT_Tapi_Segment | apply f_optN | apply f_optS | apply f_some | apply f_tup | apply f_agg | apply f_ptr | apply dv_slice | apply sv_d | apply f_cons | apply fold_nil | apply fold_cons | apply fold_app | apply f_rowI | apply f_rowY | apply f_rowS | apply f_rowB | apply f_rowL) | (with_reducible apply f_byte; decide))); done))) | ((with_reducible apply svle_td); (focus (first | (simp only [push_cast, seval]; rfl) | rfl)); (focus (first | (simp only [push_cast, seval]; rfl) | rfl)); (focus ((repeat' (first | rfl | (with_reducible first | apply fT_Tapi_Marks | apply fT_Tapi_Element | apply fT_Tapi_Segment | apply f_optN | apply f_optS | apply f_some | apply f_tup | apply f_agg | apply f_ptr | apply dv_slice | apply sv_d | apply f_cons | apply fold_nil | apply fold_cons | apply fold_app | apply f_rowI | apply f_rowY | apply f_rowS | apply f_rowB | apply f_rowL) | (with_reducible apply f_byte; decide))); done))) | ((with_reducible apply chle_eq); (focus (first | (simp only [push_cast, seval]; rfl) | rfl)); (first | with_reducible exact chle_rfl rfl | with_reducible exact chle_map0 | with_reducible apply chle_vec | with_reducible apply chle_box)) | (with_reducible first | apply cT_Tapi_Marks | apply cT_Tapi_Element | apply cT_Tapi_Segment | apply vc_rfl | apply vc_nil | apply vc_cons | apply r_rfl | apply r_rows | apply r_nil | apply r_app | apply r_cons | apply c_rowI | apply c_rowY | apply c_rowS | apply c_rowB | apply c_rowL))); done))); (focus (first | (dsimp only; done) | (dsimp only; rfl) | rfl)); (focus ((intro _; repeat' (first | with_reducible exact impC_end | with_reducible exact impC_endF | with_reducible refine impC_seq ?_ | with_reducible refine impC_block ?_ | ((with_reducible refine impC_rnd ?_); intro _) | ((with_reducible refine impC_brk ?_); intro _))))); (intro s o hm; unfold sc_interchangeref2_CheckOne_L1); rotate_left; intro s hm) | ((apply K_next (s' := _) hm); (focus (first | (dsimp only; done) | (dsimp only; rfl) | rfl)); (focus ((apply imp_stT; (repeat' (first | with_reducible exact keepT_nil | with_reducible exact keepC_nil | with_reducible apply keepT_cons | with_reducible apply keepC_cons | ((with_reducible apply svle_eq); (focus (first | (simp only [push_cast, seval]; rfl) | rfl)); (focus ((repeat' (first | rfl | (with_reducible first | apply fT_Tapi_Marks | apply fT_Tapi_Element | apply fT_Tapi_Segment | apply f_optN | apply f_optS | apply f_some | apply f_tup | apply f_agg | apply f_ptr | apply dv_slice | apply sv_d | apply f_cons | apply fold_nil | apply fold_cons | apply fold_app | apply f_rowI | apply f_rowY | apply f_rowS | apply f_rowB | apply f_rowL) | (with_reducible apply f_byte; decide))); done))) | ((with_reducible apply svle_td); (focus (first | (simp only [push_cast, seval]; rfl) | rfl)); (focus (first | (simp only [push_cast, seval]; rfl) | rfl)); (focus ((repeat' (first | rfl | (with_reducible first | apply fT_Tapi_Marks | apply fT_Tapi_Element | apply fT_Tapi_Segment | apply f_optN | apply f_optS | apply f_some | apply f_tup | apply f_agg | apply f_ptr | apply dv_slice | apply sv_d | apply f_cons | apply fold_nil | apply fold_cons | apply fold_app | apply f_rowI | apply f_rowY | apply f_rowS | apply f_rowB | apply f_rowL) | (with_reducible apply f_byte; decide))); done))) | ((with_reducible apply chle_eq); (focus (first | (simp only [push_cast, seval]; rfl) | rfl)); (first | with_reducible exact chle_rfl rfl | with_reducible exact chle_map0 | with_reducible apply chle_vec | with_reducible apply chle_box)) | (with_reducible first | apply cT_Tapi_Marks | apply cT_Tapi_Element | apply cT_Tapi_Segment | apply vc_rfl | apply vc_nil | apply vc_cons | apply r_rfl | apply r_rows | apply r_nil | apply r_app | apply r_cons | apply c_rowI | apply c_rowY | apply c_rowS | apply c_rowB | apply c_rowL))); done)))) | ((apply K_brk (s' := _) hm); (focus (first | (dsimp only; done) | (dsimp only; rfl) | rfl)); (focus ((apply imp_stT; (repeat' (first | with_reducible exact keepT_nil | with_reducible exact keepC_nil | with_reducible apply keepT_cons | with_reducible apply keepC_cons | ((with_reducible apply svle_eq); (focus (first | (simp only [push_cast, seval]; rfl) | rfl)); (focus ((repeat' (first | rfl | (with_reducible first | apply fT_Tapi_Marks | apply fT_Tapi_Element | apply fT_Tapi_Segment | apply f_optN | apply f_optS | apply f_some | apply f_tup | apply f_agg | apply f_ptr | apply dv_slice | apply sv_d | apply f_cons | apply fold_nil | apply fold_cons | apply fold_app | apply f_rowI | apply f_rowY | apply f_rowS | apply f_rowB | apply f_rowL) | (with_reducible apply f_byte; decide))); done))) | ((with_reducible apply svle_td); (focus (first | (simp only [push_cast, seval]; rfl) | rfl)); (focus (first | (simp only [push_cast, seval]; rfl) | rfl)); (focus ((repeat' (first | rfl | (with_reducible first | apply fT_Tapi_Marks | apply fT_Tapi_Element | apply fT_Tapi_Segment | apply f_optN | apply f_optS | apply f_some | apply f_tup | apply f_agg | apply f_ptr | apply dv_slice | apply sv_d | apply f_cons | apply fold_nil | apply fold_cons | apply fold_app | apply f_rowI | apply f_rowY | apply f_rowS | apply f_rowB | apply f_rowL) | (with_reducible apply f_byte; decide))); done))) | ((with_reducible apply chle_eq); (focus (first | (simp only [push_cast, seval]; rfl) | rfl)); (first | with_reducible exact chle_rfl rfl | with_reducible exact chle_map0 | with_reducible apply chle_vec | with_reducible apply chle_box)) | (with_reducible first | apply cT_Tapi_Marks | apply cT_Tapi_Element | apply cT_Tapi_Segment | apply vc_rfl | apply vc_nil | apply vc_cons | apply r_rfl | apply r_rows | apply r_nil | apply r_app | apply r_cons | apply c_rowI | apply c_rowY | apply c_rowS | apply c_rowB | apply c_rowL))); done)))) | (((with_reducible apply K_brkN hm); (focus decide); intro r hm)) | (((with_reducible apply K_brkR hm); intro r hm))))
noncomputable def m_wire_textFault (x0 : List UInt8) : Option (Int) := (sims_G2_2_0.1 x0).1
theorem spec_wire_textFault (x0 : List UInt8) : ∀ r, m_wire_textFault x0 = some r → PureSpec Tryd.prog 64 [.str x0] (.int .i64 r) := (sims_G2_2_0.1 x0).2
noncomputable def m_interchangeref2_CheckOne (x0 : Tapi_Segment) : Option (Int) := (sims_G2_2_0.2 x0).1
theorem spec_interchangeref2_CheckOne (x0 : Tapi_Segment) : ∀ r, m_interchangeref2_CheckOne x0 = some r → PureSpec Tryd.prog 56 [.agg (rTapi_Segment x0)] (.int .i64 r) := (sims_G2_2_0.2 x0).2

def sc_wire_elementFault_L1 : SC :=
  (.seq (.reg [.r 32 (.bin .lss (.t 31) (.t 30))])
  (.seq (.cond (.t 32)
    .skip
    (.exit 2))
  (.seq (.block 3 (.seq (.reg [.r 33 (.idx 1 (.t 29) (.t 31)),
       .o 34 (.ld1 (.t 33)),
       .r 6 (.mv (.t 34))])
    (.seq (.reg [.r 35 (.mv (.t 6)),
       .c 36 (.f 64) [.t 35],
       .r 7 (.mv (.t 36))])
    (.seq (.reg [.r 37 (.mv (.t 7)),
       .r 38 (.bin .neq (.t 37) (.c (.d (.int .i64 0))))])
    (.cond (.t 38)
      (.seq (.reg [.r 39 (.mv (.t 7)),
         .r 2 (.mv (.t 39))])
      .ret)
      .skip)))))
  (.reg [.r 40 (.bin .add (.t 31) (.c (.d (.int .i64 1)))),
     .r 31 (.mv (.t 40))]))))
def sc_wire_elementFault_B1 : SC := .block 2 (.loop sc_wire_elementFault_L1)
def sc_wire_elementFault_L2 : SC :=
  (.seq (.reg [.r 20 (.bin .lss (.t 19) (.t 18))])
  (.seq (.cond (.t 20)
    .skip
    (.exit 0))
  (.seq (.block 1 (.seq (.reg [.r 21 (.idx 1 (.t 17) (.t 19)),
       .o 22 (.ld1 (.t 21)),
       .r 4 (.mv (.t 22))])
    (.seq (.seq (.reg [.r 23 (.mv (.t 4)),
       .r 24 (.len (.t 23)),
       .r 25 (.bin .eql (.t 24) (.c (.d (.int .i64 0))))])
    (.cond (.t 25)
      (.seq (.reg [.r 2 (.mv (.c (.d (.int .i64 9))))])
      .ret)
      .skip))
    (.seq (.seq (.reg [.r 26 (.mv (.t 4)),
       .r 27 (.len (.t 26)),
       .r 28 (.bin .gtr (.t 27) (.c (.d (.int .i64 20))))])
    (.cond (.t 28)
      (.seq (.reg [.r 2 (.mv (.c (.d (.int .i64 2))))])
      .ret)
      .skip))
    (.seq (.reg [.r 29 (.mv (.t 4)),
       .r 30 (.len (.t 29)),
       .r 31 (.mv (.c (.d (.int .i64 0))))])
    sc_wire_elementFault_B1)))))
  (.reg [.r 41 (.bin .add (.t 19) (.c (.d (.int .i64 1)))),
     .r 19 (.mv (.t 41))]))))
def sc_wire_elementFault_B2 : SC := .block 0 (.loop sc_wire_elementFault_L2)
/-- interchange/wire.elementFault -/
def sc_wire_elementFault : SC :=
  (.seq (.reg [.r 1 (.boxI (.t 0)),
     .r 2 (.mv (.c (.d (.int .i64 0))))])
  (.seq (.seq (.reg [.r 8 (.fld 0 (.t 1)),
     .o 9 (.ld1 (.t 8)),
     .r 10 (.len (.t 9)),
     .r 11 (.bin .eql (.t 10) (.c (.d (.int .i64 0))))])
  (.cond (.t 11)
    (.seq (.reg [.r 2 (.mv (.c (.d (.int .i64 9))))])
    .ret)
    .skip))
  (.seq (.seq (.reg [.r 12 (.fld 0 (.t 1)),
     .o 13 (.ld1 (.t 12)),
     .r 14 (.len (.t 13)),
     .r 15 (.bin .gtr (.t 14) (.c (.d (.int .i64 20))))])
  (.cond (.t 15)
    (.seq (.reg [.r 2 (.mv (.c (.d (.int .i64 2))))])
    .ret)
    .skip))
  (.seq (.seq (.reg [.r 16 (.fld 0 (.t 1)),
     .o 17 (.ld1 (.t 16)),
     .r 18 (.len (.t 17)),
     .r 19 (.mv (.c (.d (.int .i64 0))))])
  sc_wire_elementFault_B2)
  (.seq (.reg [.r 2 (.mv (.c (.d (.int .i64 0))))])
  .ret)))))
theorem fit_wire_elementFault : fits Tryd.prog 55 Tryd.f55 sc_wire_elementFault [.t 2] 1 = true := by kernel_rfl

def sc_interchangeref2_CheckSegments_L1 : SC :=
  (.seq (.seq (.reg [.r 8 (.mv (.t 3)),
     .r 9 (.mv (.t 0)),
     .r 10 (.len (.t 9)),
     .r 11 (.bin .lss (.t 8) (.t 10))])
  (.cond (.t 11)
    .skip
    (.exit 0)))
  (.seq (.block 1 (.seq (.reg [.r 14 (.mv (.t 0)),
       .r 15 (.mv (.t 3)),
       .r 16 (.idx 2 (.t 14) (.t 15)),
       .o 17 (.ldA 2 (.t 16)),
       .c 18 (.f 56) [.t 17],
       .r 4 (.mv (.t 18))])
    (.seq (.reg [.r 19 (.mv (.t 4)),
       .r 20 (.bin .neq (.t 19) (.c (.d (.int .i64 0))))])
    (.cond (.t 20)
      (.seq (.reg [.r 21 (.mv (.t 4)),
         .r 2 (.mv (.t 21))])
      .ret)
      .skip))))
  (.reg [.r 12 (.mv (.t 3)),
     .r 13 (.bin .add (.t 12) (.c (.d (.int .i64 1)))),
     .r 3 (.mv (.t 13))])))
def sc_interchangeref2_CheckSegments_B1 : SC := .block 0 (.loop sc_interchangeref2_CheckSegments_L1)
/-- interchange/interchangeref2.CheckSegments -/
def sc_interchangeref2_CheckSegments : SC :=
  (.seq (.reg [.r 2 (.mv (.c (.d (.int .i64 0))))])
  (.seq (.seq (.reg [.r 5 (.mv (.t 0)),
     .r 6 (.len (.t 5)),
     .r 7 (.bin .gtr (.t 6) (.c (.d (.int .i64 2000))))])
  (.cond (.t 7)
    (.seq (.reg [.r 2 (.mv (.c (.d (.int .i64 2))))])
    .ret)
    .skip))
  (.seq (.seq (.reg [.r 3 (.mv (.c (.d (.int .i64 0))))])
  sc_interchangeref2_CheckSegments_B1)
  (.seq (.reg [.r 2 (.mv (.c (.d (.int .i64 0))))])
  .ret))))
theorem fit_interchangeref2_CheckSegments : fits Tryd.prog 27 Tryd.f27 sc_interchangeref2_CheckSegments [.t 2] 1 = true := by kernel_rfl

set_option maxRecDepth 100000 in
set_option maxHeartbeats 40000000 in
noncomputable def sims_G2_3_0 : (∀ (x0 : Tapi_Element), {m : Option (Int) // ∀ r, m = some r → PureSpec Tryd.prog 55 [.agg (rTapi_Element x0)] (.int .i64 r)}) × (∀ (x0 : List Tapi_Segment), {m : Option (Int) // ∀ r, m = some r → PureSpec Tryd.prog 27 [.slice (List.map rTapi_Segment x0)] (.int .i64 r)}) := by
  refine ⟨?g0, ?g1⟩
  case' g0 => (intro x0; apply Subtype.mk; intro r hm; apply pure_walk Tryd.func55 fit_wire_elementFault; unfold sc_wire_elementFault)
  case' g1 => (intro x0; apply Subtype.mk; intro r hm; apply pure_walk Tryd.func27 fit_interchangeref2_CheckSegments; unfold sc_interchangeref2_CheckSegments)
  all_goals (repeat' (first | with_reducible refine W_seq ?_ | with_reducible refine W_reg ?_ | with_reducible refine W_block ?_ | with_reducible refine W_skip ?_ | with_reducible refine W_ret ?_ | with_reducible refine W_exit ?_ | with_reducible refine O_nil ?_ | with_reducible refine K_seq ?_ | with_reducible refine K_seqE ?_ | with_reducible refine K_seqR ?_ | with_reducible refine K_block ?_ | with_reducible refine K_blockR ?_ | with_reducible refine K_blockE ?_ | ((with_reducible apply K_blockN); decide) | with_reducible refine O_o2r ?_ | ((with_reducible apply O_idxr hm); (iterate 2 (simp only [push_cast, seval]; rfl)); (intro _; rfl); intro e hm) | ((with_reducible apply O_idxVr hm); (iterate 3 (simp only [push_cast, seval]; rfl)); intro e hm) | ((with_reducible apply O_r); (simp only [push_cast, seval]; rfl); (first | exact trivial | omega)) | ((with_reducible apply O_ldV1r hm); (iterate 2 (simp only [push_cast, seval]; rfl)); (intro _; rfl); intro e hm) | ((with_reducible apply O_strr hm); (iterate 2 (simp only [push_cast, seval]; rfl)); intro hm) | ((with_reducible apply W_condT); (focus (simp only [push_cast, seval]; done))) | ((with_reducible apply W_condF); (focus (simp only [push_cast, seval]; done))) | ((with_reducible apply O_cS hm); (simp only [push_cast, seval]; rfl); (focus (first | exact spec_wire_textFault _ | exact spec_interchangeref2_CheckOne _)); intro x hm) | ((with_reducible apply O_cF hm); (simp only [push_cast, seval]; rfl); (first | apply spec_wire_textFault _ | apply spec_interchangeref2_CheckOne _); (any_goals ((repeat' (first | rfl | (with_reducible first | apply fT_Tapi_Marks | apply fT_Tapi_Element | apply fT_Tapi_Segment | apply f_optN | apply f_optS | apply f_some | apply f_tup | apply f_agg | apply f_ptr | apply dv_slice | apply sv_d | apply f_cons | apply fold_nil | apply fold_cons | apply fold_app | apply f_rowI | apply f_rowY | apply f_rowS | apply f_rowB | apply f_rowL) | (with_reducible apply f_byte; decide))); done)); intro x hm) | ((with_reducible apply S_condB hm); (simp only [push_cast, seval]; rfl); intro hm; rotate_left; intro hm) | ((with_reducible apply K_endS hm); (focus (simp only [resOf, resL, RV.get, push_cast, seval]; rfl)); (focus ((repeat' (first | rfl | (with_reducible first | apply fT_Tapi_Marks | apply fT_Tapi_Element | apply fT_Tapi_Segment | apply f_optN | apply f_optS | apply f_some | apply f_tup | apply f_agg | apply f_ptr | apply dv_slice | apply sv_d | apply f_cons | apply fold_nil | apply fold_cons | apply fold_app | apply f_rowI | apply f_rowY | apply f_rowS | apply f_rowB | apply f_rowL) | (with_reducible apply f_byte; decide))); done))) | ((with_reducible apply K_leave hm); intro r hm) | ((with_reducible apply K_leaveR hm); intro r hm) | ((apply S_loopX (b := 2) (X := sc_wire_elementFault_B1) (x := sc_wire_elementFault_L1) rfl (fun (c : SV × SV × SV × SV × SV) (s : Int) => st [(17, c.1), (18, c.2.1), (19, c.2.2.1), (29, c.2.2.2.1), (30, c.2.2.2.2), (31, .d (.int .i64 s))] []) (c := (_, _, _, _, _)) (s0 := _) hm); (focus (first | (dsimp only; done) | (dsimp only; rfl) | rfl)); (focus ((apply imp_stT; (repeat' (first | with_reducible exact keepT_nil | with_reducible exact keepC_nil | with_reducible apply keepT_cons | with_reducible apply keepC_cons | ((with_reducible apply svle_eq); (focus (first | (simp only [push_cast, seval]; rfl) | rfl)); (focus ((repeat' (first | rfl | (with_reducible first | apply fT_Tapi_Marks | apply fT_Tapi_Element | apply fT_Tapi_Segment | apply f_optN | apply f_optS | apply f_some | apply f_tup | apply f_agg | apply f_ptr | apply dv_slice | apply sv_d | apply f_cons | apply fold_nil | apply fold_cons | apply fold_app | apply f_rowI | apply f_rowY | apply f_rowS | apply f_rowB | apply f_rowL) | (with_reducible apply f_byte; decide))); done))) | ((with_reducible apply svle_td); (focus (first | (simp only [push_cast, seval]; rfl) | rfl)); (focus (first | (simp only [push_cast, seval]; rfl) | rfl)); (focus ((repeat' (first | rfl | (with_reducible first | apply fT_Tapi_Marks | apply fT_Tapi_Element | apply fT_Tapi_Segment | apply f_optN | apply f_optS | apply f_some | apply f_tup | apply f_agg | apply f_ptr | apply dv_slice | apply sv_d | apply f_cons | apply fold_nil | apply fold_cons | apply fold_app | apply f_rowI | apply f_rowY | apply f_rowS | apply f_rowB | apply f_rowL) | (with_reducible apply f_byte; decide))); done))) | ((with_reducible apply chle_eq); (focus (first | (simp only [push_cast, seval]; rfl) | rfl)); (first | with_reducible exact chle_rfl rfl | with_reducible exact chle_map0 | with_reducible apply chle_vec | with_reducible apply chle_box)) | (with_reducible first | apply cT_Tapi_Marks | apply cT_Tapi_Element | apply cT_Tapi_Segment | apply vc_rfl | apply vc_nil | apply vc_cons | apply r_rfl | apply r_rows | apply r_nil | apply r_app | apply r_cons | apply c_rowI | apply c_rowY | apply c_rowS | apply c_rowB | apply c_rowL))); done))); (focus (first | (dsimp only; done) | (dsimp only; rfl) | rfl)); (focus ((intro _; repeat' (first | with_reducible exact impC_end | with_reducible exact impC_endF | with_reducible refine impC_seq ?_ | with_reducible refine impC_block ?_ | ((with_reducible refine impC_rnd ?_); intro _) | ((with_reducible refine impC_brk ?_); intro _))))); (intro s o hm; unfold sc_wire_elementFault_L1); rotate_left; intro s hm) | ((apply S_loopX (b := 0) (X := sc_wire_elementFault_B2) (x := sc_wire_elementFault_L2) rfl (fun (c : SV × SV) (s : Int) => st [(17, c.1), (18, c.2), (19, .d (.int .i64 s))] []) (c := (_, _)) (s0 := _) hm); (focus (first | (dsimp only; done) | (dsimp only; rfl) | rfl)); (focus ((apply imp_stT; (repeat' (first | with_reducible exact keepT_nil | with_reducible exact keepC_nil | with_reducible apply keepT_cons | with_reducible apply keepC_cons | ((with_reducible apply svle_eq); (focus (first | (simp only [push_cast, seval]; rfl) | rfl)); (focus ((repeat' (first | rfl | (with_reducible first | apply fT_Tapi_Marks | apply fT_Tapi_Element | apply fT_Tapi_Segment | apply f_optN | apply f_optS | apply f_some | apply f_tup | apply f_agg | apply f_ptr | apply dv_slice | apply sv_d | apply f_cons | apply fold_nil | apply fold_cons | apply fold_app | apply f_rowI | apply f_rowY | apply f_rowS | apply f_rowB | apply f_rowL) | (with_reducible apply f_byte; decide))); done))) | ((with_reducible apply svle_td); (focus (first | (simp only [push_cast, seval]; rfl) | rfl)); (focus (first | (simp only [push_cast, seval]; rfl) | rfl)); (focus ((repeat' (first | rfl | (with_reducible first | apply fT_Tapi_Marks | apply fT_Tapi_Element | apply fT_Tapi_Segment | apply f_optN | apply f_optS | apply f_some | apply f_tup | apply f_agg | apply f_ptr | apply dv_slice | apply sv_d | apply f_cons | apply fold_nil | apply fold_cons | apply fold_app | apply f_rowI | apply f_rowY | apply f_rowS | apply f_rowB | apply f_rowL) | (with_reducible apply f_byte; decide))); done))) | ((with_reducible apply chle_eq); (focus (first | (simp only [push_cast, seval]; rfl) | rfl)); (first | with_reducible exact chle_rfl rfl | with_reducible exact chle_map0 | with_reducible apply chle_vec | with_reducible apply chle_box)) | (with_reducible first | apply cT_Tapi_Marks | apply cT_Tapi_Element | apply cT_Tapi_Segment | apply vc_rfl | apply vc_nil | apply vc_cons | apply r_rfl | apply r_rows | apply r_nil | apply r_app | apply r_cons | apply c_rowI | apply c_rowY | apply c_rowS | apply c_rowB | apply c_rowL))); done))); (focus (first | (dsimp only; done) | (dsimp only; rfl) | rfl)); (focus ((intro _; repeat' (first | with_reducible exact impC_end | with_reducible exact impC_endF | with_reducible refine impC_seq ?_ | with_reducible refine impC_block ?_ | ((with_reducible refine impC_rnd ?_); intro _) | ((with_reducible refine impC_brk ?_); intro _))))); (intro s o hm; unfold sc_wire_elementFault_L2); rotate_left; intro s hm) | ((apply S_loopX (b := 0) (X := sc_interchangeref2_CheckSegments_B1) (x := sc_interchangeref2_CheckSegments_L1) rfl (fun (c : SV) (s : Int) => st [(0, c), (3, .d (.int .i64 s))] []) (c := _) (s0 := _) hm); (focus (first | (dsimp only; done) | (dsimp only; rfl) | rfl)); (focus ((apply imp_stT; (repeat' (first | with_reducible exact keepT_nil | with_reducible exact keepC_nil | with_reducible apply keepT_cons | with_reducible apply keepC_cons | ((with_reducible apply svle_eq); (focus (first | (simp only [push_cast, seval]; rfl) | rfl)); (focus ((repeat' (first | rfl | (with_reducible first | apply fT_Tapi_Marks | apply fT_Tapi_Element | apply fT_Tapi_Segment | apply f_optN | apply f_optS | apply f_some | apply f_tup | apply f_agg | apply f_ptr | apply dv_slice | apply sv_d | apply f_cons | apply fold_nil | apply fold_cons | apply fold_app | apply f_rowI | apply f_rowY | apply f_rowS | apply f_rowB | apply f_rowL) | (with_reducible apply f_byte; decide))); done))) | ((with_reducible apply svle_td); (focus (first | (simp only [push_cast, seval]; rfl) | rfl)); (focus (first | (simp only [push_cast, seval]; rfl) | rfl)); (focus ((repeat' (first | rfl | (with_reducible first | apply fT_Tapi_Marks | apply fT_Tapi_Element | apply fT_Tapi_Segment | apply f_optN | apply f_optS | apply f_some | apply f_tup | apply f_agg | apply f_ptr | apply dv_slice | apply sv_d | apply f_cons | apply fold_nil | apply fold_cons | apply fold_app | apply f_rowI | apply f_rowY | apply f_rowS | apply f_rowB | apply f_rowL) | (with_reducible apply f_byte; decide))); done))) | ((with_reducible apply chle_eq); (focus (first | (simp only [push_cast, seval]; rfl) | rfl)); (first | with_reducible exact chle_rfl rfl | with_reducible exact chle_map0 | with_reducible apply chle_vec | with_reducible apply chle_box)) | (with_reducible first | apply cT_Tapi_Marks | apply cT_Tapi_Element | apply cT_Tapi_Segment | apply vc_rfl | apply vc_nil | apply vc_cons | apply r_rfl | apply r_rows | apply r_nil | apply r_app | apply r_cons | apply c_rowI | apply c_rowY | apply c_rowS | apply c_rowB | apply c_rowL))); done))); (focus (first | (dsimp only; done) | (dsimp only; rfl) | rfl)); (focus ((intro _; repeat' (first | with_reducible exact impC_end | with_reducible exact impC_endF | with_reducible refine impC_seq ?_ | with_reducible refine impC_block ?_ | ((with_reducible refine impC_rnd ?_); intro _) | ((with_reducible refine impC_brk ?_); intro _))))); (intro s o hm; unfold sc_interchangeref2_CheckSegments_L1); rotate_left; intro s hm) | ((apply K_next (s' := _) hm); (focus (first | (dsimp only; done) | (dsimp only; rfl) | rfl)); (focus ((apply imp_stT; (repeat' (first | with_reducible exact keepT_nil | with_reducible exact keepC_nil | with_reducible apply keepT_cons | with_reducible apply keepC_cons | ((with_reducible apply svle_eq); (focus (first | (simp only [push_cast, seval]; rfl) | rfl)); (focus ((repeat' (first | rfl | (with_reducible first | apply fT_Tapi_Marks | apply fT_Tapi_Element | apply fT_Tapi_Segment | apply f_optN | apply f_optS | apply f_some | apply f_tup | apply f_agg | apply f_ptr | apply dv_slice | apply sv_d | apply f_cons | apply fold_nil | apply fold_cons | apply fold_app | apply f_rowI | apply f_rowY | apply f_rowS | apply f_rowB | apply f_rowL) | (with_reducible apply f_byte; decide))); done))) | ((with_reducible apply svle_td); (focus (first | (simp only [push_cast, seval]; rfl) | rfl)); (focus (first | (simp only [push_cast, seval]; rfl) | rfl)); (focus ((repeat' (first | rfl | (with_reducible first | apply fT_Tapi_Marks | apply fT_Tapi_Element | apply fT_Tapi_Segment | apply f_optN | apply f_optS | apply f_some | apply f_tup | apply f_agg | apply f_ptr | apply dv_slice | apply sv_d | apply f_cons | apply fold_nil | apply fold_cons | apply fold_app | apply f_rowI | apply f_rowY | apply f_rowS | apply f_rowB | apply f_rowL) | (with_reducible apply f_byte; decide))); done))) | ((with_reducible apply chle_eq); (focus (first | (simp only [push_cast, seval]; rfl) | rfl)); (first | with_reducible exact chle_rfl rfl | with_reducible exact chle_map0 | with_reducible apply chle_vec | with_reducible apply chle_box)) | (with_reducible first | apply cT_Tapi_Marks | apply cT_Tapi_Element | apply cT_Tapi_Segment | apply vc_rfl | apply vc_nil | apply vc_cons | apply r_rfl | apply r_rows | apply r_nil | apply r_app | apply r_cons | apply c_rowI | apply c_rowY | apply c_rowS | apply c_rowB | apply c_rowL))); done)))) | ((apply K_brk (s' := _) hm); (focus (first | (dsimp only; done) | (dsimp only; rfl) | rfl)); (focus ((apply imp_stT; (repeat' (first | with_reducible exact keepT_nil | with_reducible exact keepC_nil | with_reducible apply keepT_cons | with_reducible apply keepC_cons | ((with_reducible apply svle_eq); (focus (first | (simp only [push_cast, seval]; rfl) | rfl)); (focus ((repeat' (first | rfl | (with_reducible first | apply fT_Tapi_Marks | apply fT_Tapi_Element | apply fT_Tapi_Segment | apply f_optN | apply f_optS | apply f_some | apply f_tup | apply f_agg | apply f_ptr | apply dv_slice | apply sv_d | apply f_cons | apply fold_nil | apply fold_cons | apply fold_app | apply f_rowI | apply f_rowY | apply f_rowS | apply f_rowB | apply f_rowL) | (with_reducible apply f_byte; decide))); done))) | ((with_reducible apply svle_td); (focus (first | (simp only [push_cast, seval]; rfl) | rfl)); (focus (first | (simp only [push_cast, seval]; rfl) | rfl)); (focus ((repeat' (first | rfl | (with_reducible first | apply fT_Tapi_Marks | apply fT_Tapi_Element | apply fT_Tapi_Segment | apply f_optN | apply f_optS | apply f_some | apply f_tup | apply f_agg | apply f_ptr | apply dv_slice | apply sv_d | apply f_cons | apply fold_nil | apply fold_cons | apply fold_app | apply f_rowI | apply f_rowY | apply f_rowS | apply f_rowB | apply f_rowL) | (with_reducible apply f_byte; decide))); done))) | ((with_reducible apply chle_eq); (focus (first | (simp only [push_cast, seval]; rfl) | rfl)); (first | with_reducible exact chle_rfl rfl | with_reducible exact chle_map0 | with_reducible apply chle_vec | with_reducible apply chle_box)) | (with_reducible first | apply cT_Tapi_Marks | apply cT_Tapi_Element | apply cT_Tapi_Segment | apply vc_rfl | apply vc_nil | apply vc_cons | apply r_rfl | apply r_rows | apply r_nil | apply r_app | apply r_cons | apply c_rowI | apply c_rowY | apply c_rowS | apply c_rowB | apply c_rowL))); done)))) | (((with_reducible apply K_brkN hm); (focus decide); intro r hm)) | (((with_reducible apply K_brkR hm); intro r hm))))
noncomputable def m_wire_elementFault (x0 : Tapi_Element) : Option (Int) := (sims_G2_3_0.1 x0).1
theorem spec_wire_elementFault (x0 : Tapi_Element) : ∀ r, m_wire_elementFault x0 = some r → PureSpec Tryd.prog 55 [.agg (rTapi_Element x0)] (.int .i64 r) := (sims_G2_3_0.1 x0).2
noncomputable def m_interchangeref2_CheckSegments (x0 : List Tapi_Segment) : Option (Int) := (sims_G2_3_0.2 x0).1
theorem spec_interchangeref2_CheckSegments (x0 : List Tapi_Segment) : ∀ r, m_interchangeref2_CheckSegments x0 = some r → PureSpec Tryd.prog 27 [.slice (List.map rTapi_Segment x0)] (.int .i64 r) := (sims_G2_3_0.2 x0).2

def sc_wire_CheckSegments_L1 : SC :=
  (.seq (.reg [.r 29 (.bin .lss (.t 28) (.t 27))])
  (.seq (.cond (.t 29)
    .skip
    (.exit 2))
  (.seq (.block 3 (.seq (.reg [.r 30 (.idx 1 (.t 26) (.t 28)),
       .o 31 (.ldA 1 (.t 30)),
       .w 6 (.boxM (.c (.agg [.nils]))),
       .w 0 (.st 1 (.t 6) (.t 31))])
    (.seq (.reg [.o 32 (.ldA 1 (.t 6)),
       .c 33 (.f 55) [.t 32],
       .r 7 (.mv (.t 33))])
    (.seq (.reg [.r 34 (.mv (.t 7)),
       .r 35 (.bin .neq (.t 34) (.c (.d (.int .i64 0))))])
    (.cond (.t 35)
      (.seq (.reg [.r 36 (.mv (.t 7)),
         .r 2 (.mv (.t 36))])
      .ret)
      .skip)))))
  (.reg [.r 37 (.bin .add (.t 28) (.c (.d (.int .i64 1)))),
     .r 28 (.mv (.t 37))]))))
def sc_wire_CheckSegments_B1 : SC := .block 2 (.loop sc_wire_CheckSegments_L1)
def sc_wire_CheckSegments_L2 : SC :=
  (.seq (.reg [.r 14 (.bin .lss (.t 13) (.t 12))])
  (.seq (.cond (.t 14)
    .skip
    (.exit 0))
  (.seq (.block 1 (.seq (.reg [.r 15 (.idx 2 (.t 11) (.t 13)),
       .o 16 (.ldA 2 (.t 15)),
       .w 4 (.boxM (.c (.agg [.d (.str []), .nils]))),
       .w 0 (.st 2 (.t 4) (.t 16))])
    (.seq (.seq (.reg [.r 17 (.fld 0 (.t 4)),
       .o 18 (.ld1 (.t 17)),
       .c 19 (.f 54) [.t 18],
       .r 20 (.not (.t 19))])
    (.cond (.t 20)
      (.seq (.reg [.r 2 (.mv (.c (.d (.int .i64 5))))])
      .ret)
      .skip))
    (.seq (.seq (.reg [.r 21 (.fld 1 (.t 4)),
       .o 22 (.ld1 (.t 21)),
       .r 23 (.len (.t 22)),
       .r 24 (.bin .gtr (.t 23) (.c (.d (.int .i64 50))))])
    (.cond (.t 24)
      (.seq (.reg [.r 2 (.mv (.c (.d (.int .i64 2))))])
      .ret)
      .skip))
    (.seq (.reg [.r 25 (.fld 1 (.t 4)),
       .o 26 (.ld1 (.t 25)),
       .r 27 (.len (.t 26)),
       .r 28 (.mv (.c (.d (.int .i64 0))))])
    sc_wire_CheckSegments_B1)))))
  (.reg [.r 38 (.bin .add (.t 13) (.c (.d (.int .i64 1)))),
     .r 13 (.mv (.t 38))]))))
def sc_wire_CheckSegments_B2 : SC := .block 0 (.loop sc_wire_CheckSegments_L2)
/-- interchange/wire.CheckSegments -/
def sc_wire_CheckSegments : SC :=
  (.seq (.reg [.r 2 (.mv (.c (.d (.int .i64 0))))])
  (.seq (.seq (.reg [.r 8 (.mv (.t 0)),
     .r 9 (.len (.t 8)),
     .r 10 (.bin .gtr (.t 9) (.c (.d (.int .i64 2000))))])
  (.cond (.t 10)
    (.seq (.reg [.r 2 (.mv (.c (.d (.int .i64 2))))])
    .ret)
    .skip))
  (.seq (.seq (.reg [.r 11 (.mv (.t 0)),
     .r 12 (.len (.t 11)),
     .r 13 (.mv (.c (.d (.int .i64 0))))])
  sc_wire_CheckSegments_B2)
  (.seq (.reg [.r 2 (.mv (.c (.d (.int .i64 0))))])
  .ret))))
theorem fit_wire_CheckSegments : fits Tryd.prog 26 Tryd.f26 sc_wire_CheckSegments [.t 2] 1 = true := by kernel_rfl

set_option maxRecDepth 100000 in
set_option maxHeartbeats 40000000 in
noncomputable def sims_G2_4_0 : (∀ (x0 : List Tapi_Segment), {m : Option (Int) // ∀ r, m = some r → PureSpec Tryd.prog 26 [.slice (List.map rTapi_Segment x0)] (.int .i64 r)}) := by
  (intro x0; apply Subtype.mk; intro r hm; apply pure_walk Tryd.func26 fit_wire_CheckSegments; unfold sc_wire_CheckSegments)
  repeat' (first | with_reducible refine W_seq ?_ | with_reducible refine W_reg ?_ | with_reducible refine W_block ?_ | with_reducible refine W_skip ?_ | with_reducible refine W_ret ?_ | with_reducible refine W_exit ?_ | with_reducible refine O_nil ?_ | with_reducible refine K_seq ?_ | with_reducible refine K_seqE ?_ | with_reducible refine K_seqR ?_ | with_reducible refine K_block ?_ | with_reducible refine K_blockR ?_ | with_reducible refine K_blockE ?_ | ((with_reducible apply K_blockN); decide) | with_reducible refine O_o2r ?_ | ((with_reducible apply O_idxr hm); (iterate 2 (simp only [push_cast, seval]; rfl)); (intro _; rfl); intro e hm) | ((with_reducible apply O_idxVr hm); (iterate 3 (simp only [push_cast, seval]; rfl)); intro e hm) | ((with_reducible apply O_r); (simp only [push_cast, seval]; rfl); (first | exact trivial | omega)) | ((with_reducible apply O_ldV1r hm); (iterate 2 (simp only [push_cast, seval]; rfl)); (intro _; rfl); intro e hm) | ((with_reducible apply O_strr hm); (iterate 2 (simp only [push_cast, seval]; rfl)); intro hm) | ((with_reducible apply W_condT); (focus (simp only [push_cast, seval]; done))) | ((with_reducible apply W_condF); (focus (simp only [push_cast, seval]; done))) | ((with_reducible apply O_cS hm); (simp only [push_cast, seval]; rfl); (focus (first | exact spec_kit_IsTag _ | exact spec_wire_elementFault _)); intro x hm) | ((with_reducible apply O_cF hm); (simp only [push_cast, seval]; rfl); (first | apply spec_kit_IsTag _ | apply spec_wire_elementFault _); (any_goals ((repeat' (first | rfl | (with_reducible first | apply fT_Tapi_Marks | apply fT_Tapi_Element | apply fT_Tapi_Segment | apply f_optN | apply f_optS | apply f_some | apply f_tup | apply f_agg | apply f_ptr | apply dv_slice | apply sv_d | apply f_cons | apply fold_nil | apply fold_cons | apply fold_app | apply f_rowI | apply f_rowY | apply f_rowS | apply f_rowB | apply f_rowL) | (with_reducible apply f_byte; decide))); done)); intro x hm) | ((with_reducible apply O_w); (simp only [push_cast, seval]; rfl); (first | exact trivial | omega)) | ((with_reducible apply S_condB hm); (simp only [push_cast, seval]; rfl); intro hm; rotate_left; intro hm) | ((with_reducible apply K_endS hm); (focus (simp only [resOf, resL, RV.get, push_cast, seval]; rfl)); (focus ((repeat' (first | rfl | (with_reducible first | apply fT_Tapi_Marks | apply fT_Tapi_Element | apply fT_Tapi_Segment | apply f_optN | apply f_optS | apply f_some | apply f_tup | apply f_agg | apply f_ptr | apply dv_slice | apply sv_d | apply f_cons | apply fold_nil | apply fold_cons | apply fold_app | apply f_rowI | apply f_rowY | apply f_rowS | apply f_rowB | apply f_rowL) | (with_reducible apply f_byte; decide))); done))) | ((with_reducible apply K_leave hm); intro r hm) | ((with_reducible apply K_leaveR hm); intro r hm) | ((apply S_loopX (b := 2) (X := sc_wire_CheckSegments_B1) (x := sc_wire_CheckSegments_L1) rfl (fun (c : SV × SV × SV × SV × SV) (s : Int) => st [(11, c.1), (12, c.2.1), (13, c.2.2.1), (26, c.2.2.2.1), (27, c.2.2.2.2), (28, .d (.int .i64 s))] []) (c := (_, _, _, _, _)) (s0 := _) hm); (focus (first | (dsimp only; done) | (dsimp only; rfl) | rfl)); (focus ((apply imp_stT; (repeat' (first | with_reducible exact keepT_nil | with_reducible exact keepC_nil | with_reducible apply keepT_cons | with_reducible apply keepC_cons | ((with_reducible apply svle_eq); (focus (first | (simp only [push_cast, seval]; rfl) | rfl)); (focus ((repeat' (first | rfl | (with_reducible first | apply fT_Tapi_Marks | apply fT_Tapi_Element | apply fT_Tapi_Segment | apply f_optN | apply f_optS | apply f_some | apply f_tup | apply f_agg | apply f_ptr | apply dv_slice | apply sv_d | apply f_cons | apply fold_nil | apply fold_cons | apply fold_app | apply f_rowI | apply f_rowY | apply f_rowS | apply f_rowB | apply f_rowL) | (with_reducible apply f_byte; decide))); done))) | ((with_reducible apply svle_td); (focus (first | (simp only [push_cast, seval]; rfl) | rfl)); (focus (first | (simp only [push_cast, seval]; rfl) | rfl)); (focus ((repeat' (first | rfl | (with_reducible first | apply fT_Tapi_Marks | apply fT_Tapi_Element | apply fT_Tapi_Segment | apply f_optN | apply f_optS | apply f_some | apply f_tup | apply f_agg | apply f_ptr | apply dv_slice | apply sv_d | apply f_cons | apply fold_nil | apply fold_cons | apply fold_app | apply f_rowI | apply f_rowY | apply f_rowS | apply f_rowB | apply f_rowL) | (with_reducible apply f_byte; decide))); done))) | ((with_reducible apply chle_eq); (focus (first | (simp only [push_cast, seval]; rfl) | rfl)); (first | with_reducible exact chle_rfl rfl | with_reducible exact chle_map0 | with_reducible apply chle_vec | with_reducible apply chle_box)) | (with_reducible first | apply cT_Tapi_Marks | apply cT_Tapi_Element | apply cT_Tapi_Segment | apply vc_rfl | apply vc_nil | apply vc_cons | apply r_rfl | apply r_rows | apply r_nil | apply r_app | apply r_cons | apply c_rowI | apply c_rowY | apply c_rowS | apply c_rowB | apply c_rowL))); done))); (focus (first | (dsimp only; done) | (dsimp only; rfl) | rfl)); (focus ((intro _; repeat' (first | with_reducible exact impC_end | with_reducible exact impC_endF | with_reducible refine impC_seq ?_ | with_reducible refine impC_block ?_ | ((with_reducible refine impC_rnd ?_); intro _) | ((with_reducible refine impC_brk ?_); intro _))))); (intro s o hm; unfold sc_wire_CheckSegments_L1); rotate_left; intro s hm) | ((apply S_loopX (b := 0) (X := sc_wire_CheckSegments_B2) (x := sc_wire_CheckSegments_L2) rfl (fun (c : SV × SV) (s : Int) => st [(11, c.1), (12, c.2), (13, .d (.int .i64 s))] []) (c := (_, _)) (s0 := _) hm); (focus (first | (dsimp only; done) | (dsimp only; rfl) | rfl)); (focus ((apply imp_stT; (repeat' (first | with_reducible exact keepT_nil | with_reducible exact keepC_nil | with_reducible apply keepT_cons | with_reducible apply keepC_cons | ((with_reducible apply svle_eq); (focus (first | (simp only [push_cast, seval]; rfl) | rfl)); (focus ((repeat' (first | rfl | (with_reducible first | apply fT_Tapi_Marks | apply fT_Tapi_Element | apply fT_Tapi_Segment | apply f_optN | apply f_optS | apply f_some | apply f_tup | apply f_agg | apply f_ptr | apply dv_slice | apply sv_d | apply f_cons | apply fold_nil | apply fold_cons | apply fold_app | apply f_rowI | apply f_rowY | apply f_rowS | apply f_rowB | apply f_rowL) | (with_reducible apply f_byte; decide))); done))) | ((with_reducible apply svle_td); (focus (first | (simp only [push_cast, seval]; rfl) | rfl)); (focus (first | (simp only [push_cast, seval]; rfl) | rfl)); (focus ((repeat' (first | rfl | (with_reducible first | apply fT_Tapi_Marks | apply fT_Tapi_Element | apply fT_Tapi_Segment | apply f_optN | apply f_optS | apply f_some | apply f_tup | apply f_agg | apply f_ptr | apply dv_slice | apply sv_d | apply f_cons | apply fold_nil | apply fold_cons | apply fold_app | apply f_rowI | apply f_rowY | apply f_rowS | apply f_rowB | apply f_rowL) | (with_reducible apply f_byte; decide))); done))) | ((with_reducible apply chle_eq); (focus (first | (simp only [push_cast, seval]; rfl) | rfl)); (first | with_reducible exact chle_rfl rfl | with_reducible exact chle_map0 | with_reducible apply chle_vec | with_reducible apply chle_box)) | (with_reducible first | apply cT_Tapi_Marks | apply cT_Tapi_Element | apply cT_Tapi_Segment | apply vc_rfl | apply vc_nil | apply vc_cons | apply r_rfl | apply r_rows | apply r_nil | apply r_app | apply r_cons | apply c_rowI | apply c_rowY | apply c_rowS | apply c_rowB | apply c_rowL))); done))); (focus (first | (dsimp only; done) | (dsimp only; rfl) | rfl)); (focus ((intro _; repeat' (first | with_reducible exact impC_end | with_reducible exact impC_endF | with_reducible refine impC_seq ?_ | with_reducible refine impC_block ?_ | ((with_reducible refine impC_rnd ?_); intro _) | ((with_reducible refine impC_brk ?_); intro _))))); (intro s o hm; unfold sc_wire_CheckSegments_L2); rotate_left; intro s hm) | ((apply K_next (s' := _) hm); (focus (first | (dsimp only; done) | (dsimp only; rfl) | rfl)); (focus ((apply imp_stT; (repeat' (first | with_reducible exact keepT_nil | with_reducible exact keepC_nil | with_reducible apply keepT_cons | with_reducible apply keepC_cons | ((with_reducible apply svle_eq); (focus (first | (simp only [push_cast, seval]; rfl) | rfl)); (focus ((repeat' (first | rfl | (with_reducible first | apply fT_Tapi_Marks | apply fT_Tapi_Element | apply fT_Tapi_Segment | apply f_optN | apply f_optS | apply f_some | apply f_tup | apply f_agg | apply f_ptr | apply dv_slice | apply sv_d | apply f_cons | apply fold_nil | apply fold_cons | apply fold_app | apply f_rowI | apply f_rowY | apply f_rowS | apply f_rowB | apply f_rowL) | (with_reducible apply f_byte; decide))); done))) | ((with_reducible apply svle_td); (focus (first | (simp only [push_cast, seval]; rfl) | rfl)); (focus (first | (simp only [push_cast, seval]; rfl) | rfl)); (focus ((repeat' (first | rfl | (with_reducible first | apply fT_Tapi_Marks | apply fT_Tapi_Element | apply fT_Tapi_Segment | apply f_optN | apply f_optS | apply f_some | apply f_tup | apply f_agg | apply f_ptr | apply dv_slice | apply sv_d | apply f_cons | apply fold_nil | apply fold_cons | apply fold_app | apply f_rowI | apply f_rowY | apply f_rowS | apply f_rowB | apply f_rowL) | (with_reducible apply f_byte; decide))); done))) | ((with_reducible apply chle_eq); (focus (first | (simp only [push_cast, seval]; rfl) | rfl)); (first | with_reducible exact chle_rfl rfl | with_reducible exact chle_map0 | with_reducible apply chle_vec | with_reducible apply chle_box)) | (with_reducible first | apply cT_Tapi_Marks | apply cT_Tapi_Element | apply cT_Tapi_Segment | apply vc_rfl | apply vc_nil | apply vc_cons | apply r_rfl | apply r_rows | apply r_nil | apply r_app | apply r_cons | apply c_rowI | apply c_rowY | apply c_rowS | apply c_rowB | apply c_rowL))); done)))) | ((apply K_brk (s' := _) hm); (focus (first | (dsimp only; done) | (dsimp only; rfl) | rfl)); (focus ((apply imp_stT; (repeat' (first | with_reducible exact keepT_nil | with_reducible exact keepC_nil | with_reducible apply keepT_cons | with_reducible apply keepC_cons | ((with_reducible apply svle_eq); (focus (first | (simp only [push_cast, seval]; rfl) | rfl)); (focus ((repeat' (first | rfl | (with_reducible first | apply fT_Tapi_Marks | apply fT_Tapi_Element | apply fT_Tapi_Segment | apply f_optN | apply f_optS | apply f_some | apply f_tup | apply f_agg | apply f_ptr | apply dv_slice | apply sv_d | apply f_cons | apply fold_nil | apply fold_cons | apply fold_app | apply f_rowI | apply f_rowY | apply f_rowS | apply f_rowB | apply f_rowL) | (with_reducible apply f_byte; decide))); done))) | ((with_reducible apply svle_td); (focus (first | (simp only [push_cast, seval]; rfl) | rfl)); (focus (first | (simp only [push_cast, seval]; rfl) | rfl)); (focus ((repeat' (first | rfl | (with_reducible first | apply fT_Tapi_Marks | apply fT_Tapi_Element | apply fT_Tapi_Segment | apply f_optN | apply f_optS | apply f_some | apply f_tup | apply f_agg | apply f_ptr | apply dv_slice | apply sv_d | apply f_cons | apply fold_nil | apply fold_cons | apply fold_app | apply f_rowI | apply f_rowY | apply f_rowS | apply f_rowB | apply f_rowL) | (with_reducible apply f_byte; decide))); done))) | ((with_reducible apply chle_eq); (focus (first | (simp only [push_cast, seval]; rfl) | rfl)); (first | with_reducible exact chle_rfl rfl | with_reducible exact chle_map0 | with_reducible apply chle_vec | with_reducible apply chle_box)) | (with_reducible first | apply cT_Tapi_Marks | apply cT_Tapi_Element | apply cT_Tapi_Segment | apply vc_rfl | apply vc_nil | apply vc_cons | apply r_rfl | apply r_rows | apply r_nil | apply r_app | apply r_cons | apply c_rowI | apply c_rowY | apply c_rowS | apply c_rowB | apply c_rowL))); done)))) | (((with_reducible apply K_brkN hm); (focus decide); intro r hm)) | (((with_reducible apply K_brkR hm); intro r hm)))
noncomputable def m_wire_CheckSegments (x0 : List Tapi_Segment) : Option (Int) := (sims_G2_4_0 x0).1
theorem spec_wire_CheckSegments (x0 : List Tapi_Segment) : ∀ r, m_wire_CheckSegments x0 = some r → PureSpec Tryd.prog 26 [.slice (List.map rTapi_Segment x0)] (.int .i64 r) := (sims_G2_4_0 x0).2

end Go.Proofs.YteilhjdpbjgdpaaDoor
