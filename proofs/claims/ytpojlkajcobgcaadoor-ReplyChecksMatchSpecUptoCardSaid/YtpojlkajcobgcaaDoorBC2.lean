/-
  Texts of mine, one behind the other (SAG6, SAG7, SAG8, SAG9, SARow, SAGR, SAG2, SAPL, SAQ1, SAQ2, SAQ3, SAPM, SAQ4, SAY1, SAY2, SAY7, SAY8, SAY9).
-/
import Derived.Test.YtpojlkajcobgcaaDoorBC1
import Derived.Test.YtpojlkajcobgcaaDoorSAEngZ
import Derived.Test.YtpojlkajcobgcaaDoorProg
import Derived.KernelRfl
import Derived.Test.YtpojlkajcobgcaaDoorSAEngZz
import Derived.Test.YtpojlkajcobgcaaDoorCards
import Derived.Test.YtpojlkajcobgcaaDoorTie
import Derived.Test.YtpojlkajcobgcaaDoorSAEngR
import Derived.Test.YtpojlkajcobgcaaDoorSAEngX
/-
  Bodies of functions and what they compute, printed by programs of mine (wip/tool/gen.py, sc.py) out of the translation; the kernel holds each against the translation.
-/
namespace Go.Proofs.YtpojlkajcobgcaaDoor
open Go.RowKit
set_option linter.unusedSimpArgs false
set_option linter.unusedVariables false
theorem oT_Tapi_Segment {d0 d1 : SV} {v0 : List UInt8} {v1 : List Tapi_Element} {m1 : List Mask} (h0 : svle d0 (.d (.str v0))) (h1 : cle d1 (.own (.sl 157 m1) (.slice (List.map rTapi_Element v1)))) : cellsle [d0, d1] (ownR [.sh, .sl 157 m1] (rTapi_Segment ⟨v0, v1⟩)) := by have h := (cellsle.append (cellsle.consS h0 cellsle.nil) (cellsle.cons h1 cellsle.nil)); simp only [push_cast, seval, dR] at h ⊢; exact h
def bT_Tapi_Segment (p0 : List UInt8) (p1 : Nat) : List SV := [.d (.str p0)] ++ ([.vec p1])
attribute [push_cast] bT_Tapi_Segment
theorem bcT_Tapi_Segment {d0 : SV} {a1 : Nat} {v0 : List UInt8} (h0 : svle d0 (.d (.str v0))) : cellsle [d0, .vec a1] (bT_Tapi_Segment v0 a1) := by have h := (cellsle.append (cellsle.consS h0 cellsle.nil) (cellsle.rfl (l := [.vec a1]))); simp only [bT_Tapi_Segment, push_cast, seval, dR] at h ⊢; exact h

/-- interchange/reply.element -/
def sc_reply_element : SC :=
  (.seq (.reg [.w 2 (.boxM (.c (.agg [.nils])))])
  (.seq (.reg [.r 3 (.mv (.t 0)),
     .r 4 (.bslice 1 [.t 3]),
     .r 5 (.build [.nils] [(0, 1, .t 4)]),
     .w 0 (.st 1 (.t 2) (.t 5))])
  .ret))
theorem fit_reply_element : fits Tryd.prog 125 Tryd.f125 sc_reply_element [.cell 2 1] 1 = true := by kernel_rfl

set_option maxRecDepth 100000 in
set_option maxHeartbeats 40000000 in
noncomputable def sims_G6_0_0 : (∀ (x0 : List (List UInt8)), {m : Option (Tapi_Element) // ∀ r, m = some r → PureSpec Tryd.prog 125 [.slice (List.map rowS x0)] (.agg (rTapi_Element r))}) := by
  (intro x0; apply Subtype.mk; intro r hm; apply pure_walk Tryd.func125 fit_reply_element; unfold sc_reply_element)
  repeat' (first | with_reducible refine W_seq ?_ | with_reducible refine W_reg ?_ | with_reducible refine W_block ?_ | with_reducible refine W_skip ?_ | with_reducible refine W_ret ?_ | with_reducible refine W_exit ?_ | with_reducible refine O_nil ?_ | with_reducible refine K_seq ?_ | with_reducible refine K_seqE ?_ | with_reducible refine K_seqR ?_ | with_reducible refine K_block ?_ | with_reducible refine K_blockR ?_ | with_reducible refine K_blockE ?_ | ((with_reducible apply K_blockN); decide) | ((with_reducible apply O_r); (simp only [push_cast, seval]; rfl); (first | exact trivial | omega)) | ((with_reducible apply W_condT); (focus (simp only [push_cast, seval]; done))) | ((with_reducible apply W_condF); (focus (simp only [push_cast, seval]; done))) | ((with_reducible apply O_w); (simp only [push_cast, seval]; rfl); (first | exact trivial | omega)) | ((with_reducible apply S_condB hm); (simp only [push_cast, seval]; rfl); intro hm; rotate_left; intro hm) | ((with_reducible apply K_endS hm); (focus (simp only [resOf, resL, RV.get, push_cast, seval]; rfl)); (focus ((repeat' (first | rfl | (with_reducible first | apply fT_Tapi_Element | apply f_optN | apply f_optS | apply f_some | apply f_tup | apply f_agg | apply f_ptr | apply f_fn | apply dv_slice | apply sv_d | apply f_cons | apply fold_nil | apply fold_cons | apply fold_app | apply f_rowI | apply f_rowY | apply f_rowS | apply f_rowB | apply f_rowL) | (with_reducible apply f_byte; decide))); done))))
noncomputable def m_reply_element (x0 : List (List UInt8)) : Option (Tapi_Element) := (sims_G6_0_0 x0).1
theorem spec_reply_element (x0 : List (List UInt8)) : ∀ r, m_reply_element x0 = some r → PureSpec Tryd.prog 125 [.slice (List.map rowS x0)] (.agg (rTapi_Element r)) := (sims_G6_0_0 x0).2

def sc_wire_Made_L1 : SC :=
  (.seq (.reg [.r 13 (.bin .lss (.t 12) (.t 11))])
  (.seq (.cond (.t 13)
    .skip
    (.exit 0))
  (.seq (.block 1 (.seq (.reg [.r 14 (.idx 1 (.t 10) (.t 12)),
       .o 15 (.ld1 (.t 14)),
       .r 7 (.mv (.t 15))])
    (.reg [.r 16 (.fld 1 (.t 5)),
       .o 17 (.ld1 (.t 16)),
       .r 18 (.mv (.t 7)),
       .r 19 (.bslice 1 [.t 18]),
       .r 20 (.bslice 1 [.t 19]),
       .r 21 (.build [.nils] [(0, 1, .t 20)]),
       .r 22 (.bslice 1 [.t 21]),
       .w 23 (.app 157 1 (.t 17) (.t 22)),
       .r 24 (.fld 1 (.t 5)),
       .w 0 (.st 1 (.t 24) (.t 23))])))
  (.reg [.r 25 (.bin .add (.t 12) (.c (.d (.int .i64 1)))),
     .r 12 (.mv (.t 25))]))))
def sc_wire_Made_B1 : SC := .block 0 (.loop sc_wire_Made_L1)
/-- interchange/wire.Made -/
def sc_wire_Made : SC :=
  (.seq (.reg [.w 4 (.boxM (.c (.agg [.d (.str []), .nils])))])
  (.seq (.reg [.r 8 (.mv (.t 0)),
     .r 9 (.build [.d (.str []), .nils] [(0, 1, .t 8)]),
     .w 5 (.boxM (.c (.agg [.d (.str []), .nils]))),
     .w 0 (.st 2 (.t 5) (.t 9))])
  (.seq (.seq (.reg [.r 10 (.mv (.t 1)),
     .r 11 (.len (.t 10)),
     .r 12 (.mv (.c (.d (.int .i64 0))))])
  sc_wire_Made_B1)
  (.seq (.reg [.o 26 (.ldA 2 (.t 5)),
     .w 0 (.st 2 (.t 4) (.t 26))])
  .ret))))
theorem fit_wire_Made : fits Tryd.prog 84 Tryd.f84 sc_wire_Made [.cell 4 2] 2 = true := by kernel_rfl

set_option maxRecDepth 100000 in
set_option maxHeartbeats 40000000 in
noncomputable def sims_G6_0_1 : (∀ (x0 : List UInt8) (x1 : List (List UInt8)), {m : Option (Tapi_Segment) // ∀ r, m = some r → FSpec Tryd.prog 84 (List.map SV.d ([.str x0, .slice (List.map rowS x1)] : List DV)) (.agg (ownR [.sh, .sl 157 [.sh]] (rTapi_Segment r))) (List.map SV.d ([.str x0, .slice (List.map rowS x1)] : List DV))}) := by
  (intro x0 x1; apply Subtype.mk; intro r hm; apply fspec_walkD (N := 27) (k := 2) Tryd.func84 fit_wire_Made (by kernel_rfl) rfl rfl; unfold sc_wire_Made)
  repeat' (first | ((with_reducible apply W_openBs (id := 5) (cid := 1161) (off := 1) (n := 1) (e := 157)); (focus (simp only [push_cast, seval]; (try rfl); done)); (focus (simp only [push_cast, seval]; (try rfl); done)); (focus decide); (focus rfl); (focus (intro _; rfl)); (focus (simp only [push_cast, seval]; (try rfl); done))) | ((with_reducible apply W_nilB (id := 5) (cid := 1161) (off := 1) (n := 1) (e := 157)); (focus (simp only [push_cast, seval]; (try rfl); done)); (focus (simp only [push_cast, seval]; (try rfl); done)); (focus decide); (focus (simp only [push_cast, seval]; (try rfl); done))) | ((with_reducible apply W_moveBV (id := 5) (c := 23) (cid := 1161) (off := 1) (n := 1) (e := 157)); (focus (simp only [push_cast, seval]; (try rfl); done)); (focus (simp only [push_cast, seval]; (try rfl); done)); (focus decide); (focus decide); (focus (simp only [push_cast, seval]; (try rfl); done)); (focus ((repeat' (first | (with_reducible first | apply cT_Tapi_Element | apply cT_Tapi_Segment | apply bcT_Tapi_Segment | apply r_shS | apply r_shI | apply r_rflO | apply r_oneO | apply r_appO | apply r_nilO | apply c_ownN | apply c_ownL | apply vc_rfl | apply vc_nil | apply vc_cons | apply r_rfl | apply r_rows | apply r_nil | apply r_app | apply r_cons | apply c_rowI | apply c_rowY | apply c_rowS | apply c_rowB | apply c_rowL | apply oT_Tapi_Segment) | ((with_reducible apply svle_rfl); (focus ((repeat' (first | rfl | (with_reducible first | apply fT_Tapi_Element | apply fT_Tapi_Segment | apply f_optN | apply f_optS | apply f_some | apply f_tup | apply f_agg | apply f_ptr | apply f_fn | apply dv_slice | apply sv_d | apply f_cons | apply fold_nil | apply fold_cons | apply fold_app | apply f_rowI | apply f_rowY | apply f_rowS | apply f_rowB | apply f_rowL) | (with_reducible apply f_byte; decide))); done))) | ((with_reducible apply cle_own); (focus rfl); (focus ((repeat' (first | rfl | (with_reducible first | apply fT_Tapi_Element | apply fT_Tapi_Segment | apply f_optN | apply f_optS | apply f_some | apply f_tup | apply f_agg | apply f_ptr | apply f_fn | apply dv_slice | apply sv_d | apply f_cons | apply fold_nil | apply fold_cons | apply fold_app | apply f_rowI | apply f_rowY | apply f_rowS | apply f_rowB | apply f_rowL) | (with_reducible apply f_byte; decide))); done))) | ((with_reducible apply cle_nil); (focus rfl)))); done)); (focus (intro _; rfl)); (focus (simp only [push_cast, seval]; (try rfl); done)); (focus (first | decide | (simp only [push_cast, seval]; (try rfl); done))); (focus (simp only [push_cast, seval]; (try rfl); done))) | with_reducible refine W_seq ?_ | with_reducible refine W_reg ?_ | with_reducible refine W_block ?_ | with_reducible refine W_skip ?_ | with_reducible refine W_ret ?_ | with_reducible refine W_exit ?_ | with_reducible refine O_nil ?_ | with_reducible refine K_seq ?_ | with_reducible refine K_seqE ?_ | with_reducible refine K_seqR ?_ | with_reducible refine K_block ?_ | with_reducible refine K_blockR ?_ | with_reducible refine K_blockE ?_ | ((with_reducible apply K_blockN); decide) | with_reducible refine O_o2r ?_ | ((with_reducible apply O_idxr hm); (iterate 2 (simp only [push_cast, seval]; rfl)); (intro _; rfl); intro e hm) | ((with_reducible apply O_idxVr hm); (iterate 3 (simp only [push_cast, seval]; rfl)); intro e hm) | ((with_reducible apply O_idxLr hm (row := rowS)); (iterate 2 (simp only [push_cast, seval]; rfl)); (focus ((repeat' (first | rfl | (with_reducible first | apply fT_Tapi_Element | apply fT_Tapi_Segment | apply f_optN | apply f_optS | apply f_some | apply f_tup | apply f_agg | apply f_ptr | apply f_fn | apply dv_slice | apply sv_d | apply f_cons | apply fold_nil | apply fold_cons | apply fold_app | apply f_rowI | apply f_rowY | apply f_rowS | apply f_rowB | apply f_rowL) | (with_reducible apply f_byte; decide))); done)); (simp only [push_cast, seval]; rfl); (intro _; rfl); intro e hm) | ((with_reducible apply O_idxLr hm (row := (rowL rowS))); (iterate 2 (simp only [push_cast, seval]; rfl)); (focus ((repeat' (first | rfl | (with_reducible first | apply fT_Tapi_Element | apply fT_Tapi_Segment | apply f_optN | apply f_optS | apply f_some | apply f_tup | apply f_agg | apply f_ptr | apply f_fn | apply dv_slice | apply sv_d | apply f_cons | apply fold_nil | apply fold_cons | apply fold_app | apply f_rowI | apply f_rowY | apply f_rowS | apply f_rowB | apply f_rowL) | (with_reducible apply f_byte; decide))); done)); (simp only [push_cast, seval]; rfl); (intro _; rfl); intro e hm) | ((with_reducible apply O_idxLr hm (row := rTapi_Element)); (iterate 2 (simp only [push_cast, seval]; rfl)); (focus ((repeat' (first | rfl | (with_reducible first | apply fT_Tapi_Element | apply fT_Tapi_Segment | apply f_optN | apply f_optS | apply f_some | apply f_tup | apply f_agg | apply f_ptr | apply f_fn | apply dv_slice | apply sv_d | apply f_cons | apply fold_nil | apply fold_cons | apply fold_app | apply f_rowI | apply f_rowY | apply f_rowS | apply f_rowB | apply f_rowL) | (with_reducible apply f_byte; decide))); done)); (simp only [push_cast, seval]; rfl); (intro _; rfl); intro e hm) | ((with_reducible apply O_r); (simp only [push_cast, seval]; rfl); (first | exact trivial | omega)) | ((with_reducible apply O_ldV1r hm); (iterate 2 (simp only [push_cast, seval]; rfl)); (intro _; rfl); intro e hm) | ((with_reducible apply O_ldAVr hm); (iterate 2 (simp only [push_cast, seval]; rfl)); (intro _; rfl); intro e hm) | ((with_reducible apply O_strr hm); (iterate 2 (simp only [push_cast, seval]; rfl)); intro hm) | ((with_reducible apply W_condT); (focus (simp only [push_cast, seval]; done))) | ((with_reducible apply W_condF); (focus (simp only [push_cast, seval]; done))) | ((with_reducible apply O_w); (simp only [push_cast, seval]; rfl); (first | exact trivial | omega)) | ((with_reducible apply O_appL hm (row := rowS)); (iterate 5 (simp only [push_cast, seval]; rfl)); (focus ((repeat' (first | rfl | (with_reducible first | apply fT_Tapi_Element | apply fT_Tapi_Segment | apply f_optN | apply f_optS | apply f_some | apply f_tup | apply f_agg | apply f_ptr | apply f_fn | apply dv_slice | apply sv_d | apply f_cons | apply fold_nil | apply fold_cons | apply fold_app | apply f_rowI | apply f_rowY | apply f_rowS | apply f_rowB | apply f_rowL) | (with_reducible apply f_byte; decide))); done)); (focus ((repeat' (first | rfl | (with_reducible first | apply fT_Tapi_Element | apply fT_Tapi_Segment | apply f_optN | apply f_optS | apply f_some | apply f_tup | apply f_agg | apply f_ptr | apply f_fn | apply dv_slice | apply sv_d | apply f_cons | apply fold_nil | apply fold_cons | apply fold_app | apply f_rowI | apply f_rowY | apply f_rowS | apply f_rowB | apply f_rowL) | (with_reducible apply f_byte; decide))); done)); rfl; decide; (intro _; rfl); intro hm) | ((with_reducible apply O_appL hm (row := (rowL rowS))); (iterate 5 (simp only [push_cast, seval]; rfl)); (focus ((repeat' (first | rfl | (with_reducible first | apply fT_Tapi_Element | apply fT_Tapi_Segment | apply f_optN | apply f_optS | apply f_some | apply f_tup | apply f_agg | apply f_ptr | apply f_fn | apply dv_slice | apply sv_d | apply f_cons | apply fold_nil | apply fold_cons | apply fold_app | apply f_rowI | apply f_rowY | apply f_rowS | apply f_rowB | apply f_rowL) | (with_reducible apply f_byte; decide))); done)); (focus ((repeat' (first | rfl | (with_reducible first | apply fT_Tapi_Element | apply fT_Tapi_Segment | apply f_optN | apply f_optS | apply f_some | apply f_tup | apply f_agg | apply f_ptr | apply f_fn | apply dv_slice | apply sv_d | apply f_cons | apply fold_nil | apply fold_cons | apply fold_app | apply f_rowI | apply f_rowY | apply f_rowS | apply f_rowB | apply f_rowL) | (with_reducible apply f_byte; decide))); done)); rfl; decide; (intro _; rfl); intro hm) | ((with_reducible apply O_appL hm (row := rTapi_Element)); (iterate 5 (simp only [push_cast, seval]; rfl)); (focus ((repeat' (first | rfl | (with_reducible first | apply fT_Tapi_Element | apply fT_Tapi_Segment | apply f_optN | apply f_optS | apply f_some | apply f_tup | apply f_agg | apply f_ptr | apply f_fn | apply dv_slice | apply sv_d | apply f_cons | apply fold_nil | apply fold_cons | apply fold_app | apply f_rowI | apply f_rowY | apply f_rowS | apply f_rowB | apply f_rowL) | (with_reducible apply f_byte; decide))); done)); (focus ((repeat' (first | rfl | (with_reducible first | apply fT_Tapi_Element | apply fT_Tapi_Segment | apply f_optN | apply f_optS | apply f_some | apply f_tup | apply f_agg | apply f_ptr | apply f_fn | apply dv_slice | apply sv_d | apply f_cons | apply fold_nil | apply fold_cons | apply fold_app | apply f_rowI | apply f_rowY | apply f_rowS | apply f_rowB | apply f_rowL) | (with_reducible apply f_byte; decide))); done)); rfl; decide; (intro _; rfl); intro hm) | ((with_reducible apply O_appV hm); (iterate 4 (simp only [push_cast, seval]; rfl)); (focus ((repeat' (first | rfl | (with_reducible first | apply fT_Tapi_Element | apply fT_Tapi_Segment | apply f_optN | apply f_optS | apply f_some | apply f_tup | apply f_agg | apply f_ptr | apply f_fn | apply dv_slice | apply sv_d | apply f_cons | apply fold_nil | apply fold_cons | apply fold_app | apply f_rowI | apply f_rowY | apply f_rowS | apply f_rowB | apply f_rowL) | (with_reducible apply f_byte; decide))); done)); decide; (intro _; rfl); intro hm) | ((with_reducible apply O_appN hm); (focus (simp only [push_cast, seval]; done)); (iterate 2 (simp only [push_cast, seval]; rfl)); (focus ((repeat' (first | rfl | (with_reducible first | apply fT_Tapi_Element | apply fT_Tapi_Segment | apply f_optN | apply f_optS | apply f_some | apply f_tup | apply f_agg | apply f_ptr | apply f_fn | apply dv_slice | apply sv_d | apply f_cons | apply fold_nil | apply fold_cons | apply fold_app | apply f_rowI | apply f_rowY | apply f_rowS | apply f_rowB | apply f_rowL) | (with_reducible apply f_byte; decide))); done)); decide; (intro _; rfl); intro hm) | ((with_reducible apply O_stVA hm); (iterate 4 (simp only [push_cast, seval]; rfl)); (focus ((repeat' (first | rfl | (with_reducible first | apply fT_Tapi_Element | apply fT_Tapi_Segment | apply f_optN | apply f_optS | apply f_some | apply f_tup | apply f_agg | apply f_ptr | apply f_fn | apply dv_slice | apply sv_d | apply f_cons | apply fold_nil | apply fold_cons | apply fold_app | apply f_rowI | apply f_rowY | apply f_rowS | apply f_rowB | apply f_rowL) | (with_reducible apply f_byte; decide))); done)); decide; (intro _; rfl); intro e hm) | ((with_reducible apply O_stV hm); (iterate 3 (simp only [push_cast, seval]; rfl)); rfl; (intro _; rfl); rfl; (focus (intro a; simp only [push_cast, seval]; rfl)); (focus (intro a; (repeat' (first | rfl | with_reducible apply eT_Tapi_Element | with_reducible apply eT_Tapi_Segment)); done)); intro e hm) | ((with_reducible apply S_condB hm); (simp only [push_cast, seval]; rfl); intro hm; rotate_left; intro hm) | ((with_reducible apply K_endS hm); (focus (simp only [resOf, resL, RV.get, push_cast, seval]; rfl)); (focus ((repeat' (first | rfl | (with_reducible first | apply fT_Tapi_Element | apply fT_Tapi_Segment | apply f_optN | apply f_optS | apply f_some | apply f_tup | apply f_agg | apply f_ptr | apply f_fn | apply dv_slice | apply sv_d | apply f_cons | apply fold_nil | apply fold_cons | apply fold_app | apply f_rowI | apply f_rowY | apply f_rowS | apply f_rowB | apply f_rowL) | (with_reducible apply f_byte; decide))); done))) | ((with_reducible apply K_leave hm); intro r hm) | ((with_reducible apply K_leaveR hm); intro r hm) | (((with_reducible apply K_endO hm (r0 := Tapi_Segment.mk _ _) (row := rTapi_Segment)); (focus (exact Imp.refl _)); (focus (simp only [push_cast, seval]; (try rfl); done)); (focus (simp only [push_cast, seval]; (try rfl); done)); (focus (simp only [push_cast, seval]; (try rfl); done)); (focus ((repeat' (first | exact ROkL.nil | (apply ROkL.data; (focus rfl)) | (apply ROk_vec; (focus (simp only [push_cast, seval]; (try rfl); done)); (focus rfl); (focus (intro _; rfl))) | (apply ROk_vecS; (focus (simp only [push_cast, seval]; (try rfl); done)); (focus (intro _; rfl))))); (any_goals (first | decide | simp)))); (focus (simp only [push_cast]; rfl)))) | ((apply S_loopY (b := 0) (X := sc_wire_Made_B1) (x := sc_wire_Made_L1) rfl (fun (c : Ch × SV × SV × SV × SV) (s : (List UInt8) × (List Tapi_Element) × Int) => st [(4, .ref 4 0), (5, .ref 5 0), (10, c.2.1), (11, c.2.2.1), (12, .d (.int .i64 s.2.2)), (27, c.2.2.2.1), (28, c.2.2.2.2)] [(1161, .vec 157 1 (vrow rTapi_Element s.2.1)), (5, .box (bT_Tapi_Segment s.1 1161)), (4, c.1)]) (c := (_, _, _, _, _)) (s0 := (_, _, _)) hm); (focus (first | (dsimp only; done) | (dsimp only; rfl) | rfl)); (with_reducible refine Then.mk ?_ ?_)) | ((apply K_next (s' := (_, _, _)) hm); (focus (first | (dsimp only; done) | (dsimp only; rfl) | rfl))) | ((apply K_brk (s' := (_, _, _)) hm); (focus (first | (dsimp only; done) | (dsimp only; rfl) | rfl))) | (((with_reducible apply K_brkN hm); (focus decide); intro r hm)) | (((with_reducible apply K_brkR hm); intro r hm)) | (((with_reducible apply LoopB.of); (focus (first | (dsimp only; done) | (dsimp only; rfl) | rfl)); (focus ((intro _; repeat' (first | with_reducible exact impC_end | with_reducible exact impC_endF | with_reducible refine impC_seq ?_ | with_reducible refine impC_block ?_ | ((with_reducible refine impC_rnd ?_); intro _) | ((with_reducible refine impC_brk ?_); intro _))))); (intro s o hm; first | unfold sc_wire_Made_L1); rotate_left; intro s hm)) | (((with_reducible apply Imp.trans); (focus ((apply imp_openBs (id := 5) (cid := 1161) (off := 1) (n := 1) (e := 157)); (focus (simp only [push_cast, seval]; (try rfl); done)); (focus (simp only [push_cast, seval]; (try rfl); done)); (focus decide); (focus rfl); (focus (intro _; rfl)); (focus (simp only [push_cast, seval]; (try rfl); done)))))) | (((with_reducible apply Imp.trans); (focus ((apply imp_nilB (id := 5) (cid := 1161) (off := 1) (n := 1) (e := 157)); (focus (simp only [push_cast, seval]; (try rfl); done)); (focus (simp only [push_cast, seval]; (try rfl); done)); (focus decide); (focus (simp only [push_cast, seval]; (try rfl); done)))))) | (((apply imp_stT; (repeat' (first | with_reducible exact keepT_nil | with_reducible exact keepC_nil | with_reducible apply keepT_cons | with_reducible apply keepC_cons | ((with_reducible apply svle_eq); (focus (first | (simp only [push_cast, seval]; rfl) | rfl)); (focus ((repeat' (first | rfl | (with_reducible first | apply fT_Tapi_Element | apply fT_Tapi_Segment | apply f_optN | apply f_optS | apply f_some | apply f_tup | apply f_agg | apply f_ptr | apply f_fn | apply dv_slice | apply sv_d | apply f_cons | apply fold_nil | apply fold_cons | apply fold_app | apply f_rowI | apply f_rowY | apply f_rowS | apply f_rowB | apply f_rowL) | (with_reducible apply f_byte; decide))); done))) | ((with_reducible apply svle_td); (focus (first | (simp only [push_cast, seval]; rfl) | rfl)); (focus (first | (simp only [push_cast, seval]; rfl) | rfl)); (focus ((repeat' (first | rfl | (with_reducible first | apply fT_Tapi_Element | apply fT_Tapi_Segment | apply f_optN | apply f_optS | apply f_some | apply f_tup | apply f_agg | apply f_ptr | apply f_fn | apply dv_slice | apply sv_d | apply f_cons | apply fold_nil | apply fold_cons | apply fold_app | apply f_rowI | apply f_rowY | apply f_rowS | apply f_rowB | apply f_rowL) | (with_reducible apply f_byte; decide))); done))) | ((with_reducible apply chle_eq); (focus (first | (simp only [push_cast, seval]; rfl) | rfl)); (first | with_reducible exact chle_rfl rfl | with_reducible exact chle_map0 | with_reducible apply chle_vec | with_reducible apply chle_box)) | (with_reducible first | apply cT_Tapi_Element | apply cT_Tapi_Segment | apply bcT_Tapi_Segment | apply r_shS | apply r_shI | apply r_rflO | apply r_oneO | apply r_appO | apply r_nilO | apply c_ownN | apply c_ownL | apply vc_rfl | apply vc_nil | apply vc_cons | apply r_rfl | apply r_rows | apply r_nil | apply r_app | apply r_cons | apply c_rowI | apply c_rowY | apply c_rowS | apply c_rowB | apply c_rowL))); done))))
noncomputable def m_wire_Made (x0 : List UInt8) (x1 : List (List UInt8)) : Option (Tapi_Segment) := (sims_G6_0_1 x0 x1).1
theorem fspec_wire_Made (x0 : List UInt8) (x1 : List (List UInt8)) : ∀ r, m_wire_Made x0 x1 = some r → FSpec Tryd.prog 84 (List.map SV.d ([.str x0, .slice (List.map rowS x1)] : List DV)) (.agg (ownR [.sh, .sl 157 [.sh]] (rTapi_Segment r))) (List.map SV.d ([.str x0, .slice (List.map rowS x1)] : List DV)) := (sims_G6_0_1 x0 x1).2
theorem spec_wire_Made (x0 : List UInt8) (x1 : List (List UInt8)) : ∀ r, m_wire_Made x0 x1 = some r → PureSpec Tryd.prog 84 [.str x0, .slice (List.map rowS x1)] (.agg (rTapi_Segment r)) := fun r h => (fspec_wire_Made x0 x1 r h).pure rfl

def sc_interchangeref7_segment_L1 : SC :=
  (.seq (.seq (.reg [.r 9 (.mv (.t 6)),
     .r 10 (.mv (.t 1)),
     .r 11 (.len (.t 10)),
     .r 12 (.bin .lss (.t 9) (.t 11))])
  (.cond (.t 12)
    .skip
    (.exit 0)))
  (.seq (.block 1 (.regE [.r 15 (.fld 1 (.t 5)),
       .r 16 (.ld1 (.t 15)),
       .r 17 (.mv (.t 1)),
       .r 18 (.mv (.t 6)),
       .r 19 (.idx 1 (.t 17) (.t 18)),
       .r 20 (.ld1 (.t 19)),
       .r 21 (.bslice 1 [.t 20]),
       .r 22 (.build [.nils] [(0, 1, .t 21)]),
       .r 23 (.bslice 1 [.t 22]),
       .x 24 (.app 157 1 (.t 16) (.t 23)) [],
       .r 25 (.fld 1 (.t 5)),
       .x 0 (.st 1 (.t 25) (.t 24)) []]))
  (.reg [.r 13 (.mv (.t 6)),
     .r 14 (.bin .add (.t 13) (.c (.d (.int .i64 1)))),
     .r 6 (.mv (.t 14))])))
def sc_interchangeref7_segment_B1 : SC := .block 0 (.loop sc_interchangeref7_segment_L1)
def sc_interchangeref7_segment_R6 : SC := (.reg [.o 26 (.ldA 2 (.t 5)),
     .w 0 (.st 2 (.t 4) (.t 26))])
/-- interchange/interchangeref7.segment -/
def sc_interchangeref7_segment : SC :=
  (.seq (.reg [.w 4 (.boxM (.c (.agg [.d (.str []), .nils])))])
  (.seq (.reg [.r 7 (.mv (.t 0)),
     .r 8 (.build [.d (.str []), .nils] [(0, 1, .t 7)]),
     .w 5 (.boxM (.c (.agg [.d (.str []), .nils]))),
     .w 0 (.st 2 (.t 5) (.t 8))])
  (.seq (.seq (.reg [.r 6 (.mv (.c (.d (.int .i64 0))))])
  sc_interchangeref7_segment_B1)
  (.seq sc_interchangeref7_segment_R6
  .ret))))
theorem fit_interchangeref7_segment : fits Tryd.prog 41 Tryd.f41 sc_interchangeref7_segment [.cell 4 2] 2 = true := by kernel_rfl

set_option maxRecDepth 100000 in
set_option maxHeartbeats 40000000 in
noncomputable def sims_G6_0_2 : (∀ (x0 : List UInt8) (x1 : List (List (List UInt8))), {m : Option (Tapi_Segment) // ∀ r, m = some r → PureSpec Tryd.prog 41 [.str x0, .slice (List.map (rowL rowS) x1)] (.agg (rTapi_Segment r))}) := by
  (intro x0 x1; apply Subtype.mk; intro r hm; apply pure_walk Tryd.func41 fit_interchangeref7_segment; unfold sc_interchangeref7_segment)
  repeat' (first | ((with_reducible apply W_openBs (id := 5) (cid := 1161) (off := 1) (n := 1) (e := 157)); (focus (simp only [push_cast, seval]; (try rfl); done)); (focus (simp only [push_cast, seval]; (try rfl); done)); (focus decide); (focus rfl); (focus (intro _; rfl)); (focus (simp only [push_cast, seval]; (try rfl); done))) | ((with_reducible apply W_nilB (id := 5) (cid := 1161) (off := 1) (n := 1) (e := 157)); (focus (simp only [push_cast, seval]; (try rfl); done)); (focus (simp only [push_cast, seval]; (try rfl); done)); (focus decide); (focus (simp only [push_cast, seval]; (try rfl); done))) | ((with_reducible apply W_moveBV (id := 5) (c := 24) (cid := 1161) (off := 1) (n := 1) (e := 157)); (focus (simp only [push_cast, seval]; (try rfl); done)); (focus (simp only [push_cast, seval]; (try rfl); done)); (focus decide); (focus decide); (focus (simp only [push_cast, seval]; (try rfl); done)); (focus ((repeat' (first | (with_reducible first | apply cT_Tapi_Element | apply cT_Tapi_Segment | apply bcT_Tapi_Segment | apply r_shS | apply r_shI | apply r_rflO | apply r_oneO | apply r_appO | apply r_nilO | apply c_ownN | apply c_ownL | apply vc_rfl | apply vc_nil | apply vc_cons | apply r_rfl | apply r_rows | apply r_nil | apply r_app | apply r_cons | apply c_rowI | apply c_rowY | apply c_rowS | apply c_rowB | apply c_rowL | apply oT_Tapi_Segment) | ((with_reducible apply svle_rfl); (focus ((repeat' (first | rfl | (with_reducible first | apply fT_Tapi_Element | apply fT_Tapi_Segment | apply f_optN | apply f_optS | apply f_some | apply f_tup | apply f_agg | apply f_ptr | apply f_fn | apply dv_slice | apply sv_d | apply f_cons | apply fold_nil | apply fold_cons | apply fold_app | apply f_rowI | apply f_rowY | apply f_rowS | apply f_rowB | apply f_rowL) | (with_reducible apply f_byte; decide))); done))) | ((with_reducible apply cle_own); (focus rfl); (focus ((repeat' (first | rfl | (with_reducible first | apply fT_Tapi_Element | apply fT_Tapi_Segment | apply f_optN | apply f_optS | apply f_some | apply f_tup | apply f_agg | apply f_ptr | apply f_fn | apply dv_slice | apply sv_d | apply f_cons | apply fold_nil | apply fold_cons | apply fold_app | apply f_rowI | apply f_rowY | apply f_rowS | apply f_rowB | apply f_rowL) | (with_reducible apply f_byte; decide))); done))) | ((with_reducible apply cle_nil); (focus rfl)))); done)); (focus (intro _; rfl)); (focus (simp only [push_cast, seval]; (try rfl); done)); (focus (first | decide | (simp only [push_cast, seval]; (try rfl); done))); (focus (simp only [push_cast, seval]; (try rfl); done))) | ((apply W_frz (x := sc_interchangeref7_segment_R6) (id := 1161)); (focus (simp only [push_cast, seval]; (try rfl); done)); (focus (simp only [push_cast, seval]; (try rfl); done)); unfold sc_interchangeref7_segment_R6) | with_reducible refine W_seq ?_ | with_reducible refine W_reg ?_ | with_reducible refine W_regE ?_ | with_reducible refine W_block ?_ | with_reducible refine W_skip ?_ | with_reducible refine W_ret ?_ | with_reducible refine W_exit ?_ | with_reducible refine O_nil ?_ | with_reducible refine K_seq ?_ | with_reducible refine K_seqE ?_ | with_reducible refine K_seqR ?_ | with_reducible refine K_block ?_ | with_reducible refine K_blockR ?_ | with_reducible refine K_blockE ?_ | ((with_reducible apply K_blockN); decide) | with_reducible refine O_o2r ?_ | ((with_reducible apply O_idxr hm); (iterate 2 (simp only [push_cast, seval]; rfl)); (intro _; rfl); intro e hm) | ((with_reducible apply O_idxVr hm); (iterate 3 (simp only [push_cast, seval]; rfl)); intro e hm) | ((with_reducible apply O_idxLr hm (row := (rowL rowS))); (iterate 2 (simp only [push_cast, seval]; rfl)); (focus ((repeat' (first | rfl | (with_reducible first | apply fT_Tapi_Element | apply fT_Tapi_Segment | apply f_optN | apply f_optS | apply f_some | apply f_tup | apply f_agg | apply f_ptr | apply f_fn | apply dv_slice | apply sv_d | apply f_cons | apply fold_nil | apply fold_cons | apply fold_app | apply f_rowI | apply f_rowY | apply f_rowS | apply f_rowB | apply f_rowL) | (with_reducible apply f_byte; decide))); done)); (simp only [push_cast, seval]; rfl); (intro _; rfl); intro e hm) | ((with_reducible apply O_idxLr hm (row := rTapi_Element)); (iterate 2 (simp only [push_cast, seval]; rfl)); (focus ((repeat' (first | rfl | (with_reducible first | apply fT_Tapi_Element | apply fT_Tapi_Segment | apply f_optN | apply f_optS | apply f_some | apply f_tup | apply f_agg | apply f_ptr | apply f_fn | apply dv_slice | apply sv_d | apply f_cons | apply fold_nil | apply fold_cons | apply fold_app | apply f_rowI | apply f_rowY | apply f_rowS | apply f_rowB | apply f_rowL) | (with_reducible apply f_byte; decide))); done)); (simp only [push_cast, seval]; rfl); (intro _; rfl); intro e hm) | ((with_reducible apply O_r); (simp only [push_cast, seval]; rfl); (first | exact trivial | omega)) | ((with_reducible apply O_ldV1r hm); (iterate 2 (simp only [push_cast, seval]; rfl)); (intro _; rfl); intro e hm) | ((with_reducible apply O_ldAVr hm); (iterate 2 (simp only [push_cast, seval]; rfl)); (intro _; rfl); intro e hm) | ((with_reducible apply O_strr hm); (iterate 2 (simp only [push_cast, seval]; rfl)); intro hm) | ((with_reducible apply W_condT); (focus (simp only [push_cast, seval]; done))) | ((with_reducible apply W_condF); (focus (simp only [push_cast, seval]; done))) | ((with_reducible apply O_w); (simp only [push_cast, seval]; rfl); (first | exact trivial | omega)) | ((with_reducible apply O_appL hm (row := (rowL rowS))); (iterate 5 (simp only [push_cast, seval]; rfl)); (focus ((repeat' (first | rfl | (with_reducible first | apply fT_Tapi_Element | apply fT_Tapi_Segment | apply f_optN | apply f_optS | apply f_some | apply f_tup | apply f_agg | apply f_ptr | apply f_fn | apply dv_slice | apply sv_d | apply f_cons | apply fold_nil | apply fold_cons | apply fold_app | apply f_rowI | apply f_rowY | apply f_rowS | apply f_rowB | apply f_rowL) | (with_reducible apply f_byte; decide))); done)); (focus ((repeat' (first | rfl | (with_reducible first | apply fT_Tapi_Element | apply fT_Tapi_Segment | apply f_optN | apply f_optS | apply f_some | apply f_tup | apply f_agg | apply f_ptr | apply f_fn | apply dv_slice | apply sv_d | apply f_cons | apply fold_nil | apply fold_cons | apply fold_app | apply f_rowI | apply f_rowY | apply f_rowS | apply f_rowB | apply f_rowL) | (with_reducible apply f_byte; decide))); done)); rfl; decide; (intro _; rfl); intro hm) | ((with_reducible apply O_appL hm (row := rTapi_Element)); (iterate 5 (simp only [push_cast, seval]; rfl)); (focus ((repeat' (first | rfl | (with_reducible first | apply fT_Tapi_Element | apply fT_Tapi_Segment | apply f_optN | apply f_optS | apply f_some | apply f_tup | apply f_agg | apply f_ptr | apply f_fn | apply dv_slice | apply sv_d | apply f_cons | apply fold_nil | apply fold_cons | apply fold_app | apply f_rowI | apply f_rowY | apply f_rowS | apply f_rowB | apply f_rowL) | (with_reducible apply f_byte; decide))); done)); (focus ((repeat' (first | rfl | (with_reducible first | apply fT_Tapi_Element | apply fT_Tapi_Segment | apply f_optN | apply f_optS | apply f_some | apply f_tup | apply f_agg | apply f_ptr | apply f_fn | apply dv_slice | apply sv_d | apply f_cons | apply fold_nil | apply fold_cons | apply fold_app | apply f_rowI | apply f_rowY | apply f_rowS | apply f_rowB | apply f_rowL) | (with_reducible apply f_byte; decide))); done)); rfl; decide; (intro _; rfl); intro hm) | ((with_reducible apply O_appV hm); (iterate 4 (simp only [push_cast, seval]; rfl)); (focus ((repeat' (first | rfl | (with_reducible first | apply fT_Tapi_Element | apply fT_Tapi_Segment | apply f_optN | apply f_optS | apply f_some | apply f_tup | apply f_agg | apply f_ptr | apply f_fn | apply dv_slice | apply sv_d | apply f_cons | apply fold_nil | apply fold_cons | apply fold_app | apply f_rowI | apply f_rowY | apply f_rowS | apply f_rowB | apply f_rowL) | (with_reducible apply f_byte; decide))); done)); decide; (intro _; rfl); intro hm) | ((with_reducible apply O_appN hm); (focus (simp only [push_cast, seval]; done)); (iterate 2 (simp only [push_cast, seval]; rfl)); (focus ((repeat' (first | rfl | (with_reducible first | apply fT_Tapi_Element | apply fT_Tapi_Segment | apply f_optN | apply f_optS | apply f_some | apply f_tup | apply f_agg | apply f_ptr | apply f_fn | apply dv_slice | apply sv_d | apply f_cons | apply fold_nil | apply fold_cons | apply fold_app | apply f_rowI | apply f_rowY | apply f_rowS | apply f_rowB | apply f_rowL) | (with_reducible apply f_byte; decide))); done)); decide; (intro _; rfl); intro hm) | ((with_reducible apply O_stVA hm); (iterate 4 (simp only [push_cast, seval]; rfl)); (focus ((repeat' (first | rfl | (with_reducible first | apply fT_Tapi_Element | apply fT_Tapi_Segment | apply f_optN | apply f_optS | apply f_some | apply f_tup | apply f_agg | apply f_ptr | apply f_fn | apply dv_slice | apply sv_d | apply f_cons | apply fold_nil | apply fold_cons | apply fold_app | apply f_rowI | apply f_rowY | apply f_rowS | apply f_rowB | apply f_rowL) | (with_reducible apply f_byte; decide))); done)); decide; (intro _; rfl); intro e hm) | ((with_reducible apply O_stV hm); (iterate 3 (simp only [push_cast, seval]; rfl)); rfl; (intro _; rfl); rfl; (focus (intro a; simp only [push_cast, seval]; rfl)); (focus (intro a; (repeat' (first | rfl | with_reducible apply eT_Tapi_Element | with_reducible apply eT_Tapi_Segment)); done)); intro e hm) | ((with_reducible apply O_stVAX hm); (iterate 3 (simp only [push_cast, seval]; rfl)); (focus ((repeat' (first | rfl | (with_reducible first | apply fT_Tapi_Element | apply fT_Tapi_Segment | apply f_optN | apply f_optS | apply f_some | apply f_tup | apply f_agg | apply f_ptr | apply f_fn | apply dv_slice | apply sv_d | apply f_cons | apply fold_nil | apply fold_cons | apply fold_app | apply f_rowI | apply f_rowY | apply f_rowS | apply f_rowB | apply f_rowL) | (with_reducible apply f_byte; decide))); done)); (intro _; rfl); (focus ((repeat' (first | exact Rer_nil | ((with_reducible apply Rer_cons); (focus (simp only [push_cast, seval]; rfl)); (focus (first | exact trivial | omega)); (focus (simp only [push_cast, seval]))))); done)); intro e hm) | ((with_reducible apply O_appVX hm); (iterate 2 (simp only [push_cast, seval]; rfl)); (focus ((repeat' (first | rfl | (with_reducible first | apply eR_nil | apply eR_app | apply eR_cons | apply eT_Tapi_Element | apply eT_Tapi_Segment | apply eR_I | apply eR_Y | apply eR_S | apply eR_B) | (with_reducible apply sv_d; (focus ((repeat' (first | rfl | (with_reducible first | apply fT_Tapi_Element | apply fT_Tapi_Segment | apply f_optN | apply f_optS | apply f_some | apply f_tup | apply f_agg | apply f_ptr | apply f_fn | apply dv_slice | apply sv_d | apply f_cons | apply fold_nil | apply fold_cons | apply fold_app | apply f_rowI | apply f_rowY | apply f_rowS | apply f_rowB | apply f_rowL) | (with_reducible apply f_byte; decide))); done))))); done)); (simp only [push_cast, seval]; rfl); (focus ((repeat' (first | rfl | (with_reducible first | apply eR_nil | apply eR_app | apply eR_cons | apply eT_Tapi_Element | apply eT_Tapi_Segment | apply eR_I | apply eR_Y | apply eR_S | apply eR_B) | (with_reducible apply sv_d; (focus ((repeat' (first | rfl | (with_reducible first | apply fT_Tapi_Element | apply fT_Tapi_Segment | apply f_optN | apply f_optS | apply f_some | apply f_tup | apply f_agg | apply f_ptr | apply f_fn | apply dv_slice | apply sv_d | apply f_cons | apply fold_nil | apply fold_cons | apply fold_app | apply f_rowI | apply f_rowY | apply f_rowS | apply f_rowB | apply f_rowL) | (with_reducible apply f_byte; decide))); done))))); done)); (intro _; rfl); (focus ((repeat' (first | exact Rer_nil | ((with_reducible apply Rer_cons); (focus (simp only [push_cast, seval]; rfl)); (focus (first | exact trivial | omega)); (focus (simp only [push_cast, seval]))))); done)); intro hm) | ((with_reducible apply O_appX2 hm); (iterate 4 (simp only [push_cast, seval]; rfl)); rfl; (focus ((repeat' (first | exact Rer_nil | ((with_reducible apply Rer_cons); (focus (simp only [push_cast, seval]; rfl)); (focus (first | exact trivial | omega)); (focus (simp only [push_cast, seval]))))); done)); intro hm) | ((with_reducible apply O_appNX hm); (focus (simp only [push_cast, seval]; done)); (iterate 2 (simp only [push_cast, seval]; rfl)); rfl; (focus ((repeat' (first | exact Rer_nil | ((with_reducible apply Rer_cons); (focus (simp only [push_cast, seval]; rfl)); (focus (first | exact trivial | omega)); (focus (simp only [push_cast, seval]))))); done)); intro hm) | ((with_reducible apply O_stVX hm); (iterate 3 (simp only [push_cast, seval]; rfl)); rfl; (intro _; rfl); rfl; (focus (intro a; simp only [push_cast, seval]; rfl)); (focus (intro a; (repeat' (first | rfl | with_reducible apply eT_Tapi_Element | with_reducible apply eT_Tapi_Segment)); done)); (focus (intro _; (repeat' (first | exact Rer_nil | ((with_reducible apply Rer_cons); (focus (simp only [push_cast, seval]; rfl)); (focus (first | exact trivial | omega)); (focus (simp only [push_cast, seval]))))); done)); intro e hm) | ((with_reducible apply O_x); (simp only [push_cast, seval]; rfl); (first | exact trivial | omega); (focus ((repeat' (first | exact Rer_nil | ((with_reducible apply Rer_cons); (focus (simp only [push_cast, seval]; rfl)); (focus (first | exact trivial | omega)); (focus (simp only [push_cast, seval]))))); done))) | ((with_reducible apply S_condB hm); (simp only [push_cast, seval]; rfl); intro hm; rotate_left; intro hm) | ((with_reducible apply K_endS hm); (focus (simp only [resOf, resL, RV.get, push_cast, seval]; rfl)); (focus ((repeat' (first | rfl | (with_reducible first | apply fT_Tapi_Element | apply fT_Tapi_Segment | apply f_optN | apply f_optS | apply f_some | apply f_tup | apply f_agg | apply f_ptr | apply f_fn | apply dv_slice | apply sv_d | apply f_cons | apply fold_nil | apply fold_cons | apply fold_app | apply f_rowI | apply f_rowY | apply f_rowS | apply f_rowB | apply f_rowL) | (with_reducible apply f_byte; decide))); done))) | ((with_reducible apply K_leave hm); intro r hm) | ((with_reducible apply K_leaveR hm); intro r hm) | ((apply S_loopY (b := 0) (X := sc_interchangeref7_segment_B1) (x := sc_interchangeref7_segment_L1) rfl (fun (c : SV × Ch) (s : (List UInt8) × (List Tapi_Element) × Int) => st [(1, c.1), (4, .ref 4 0), (5, .ref 5 0), (6, .d (.int .i64 s.2.2))] [(1161, .vec 157 1 (vrow rTapi_Element s.2.1)), (5, .box (bT_Tapi_Segment s.1 1161)), (4, c.2)]) (c := (_, _)) (s0 := (_, _, _)) hm); (focus (first | (dsimp only; done) | (dsimp only; rfl) | rfl)); (with_reducible refine Then.mk ?_ ?_)) | ((apply K_next (s' := (_, _, _)) hm); (focus (first | (dsimp only; done) | (dsimp only; rfl) | rfl))) | ((apply K_brk (s' := (_, _, _)) hm); (focus (first | (dsimp only; done) | (dsimp only; rfl) | rfl))) | (((with_reducible apply K_brkN hm); (focus decide); intro r hm)) | (((with_reducible apply K_brkR hm); intro r hm)) | (((with_reducible apply LoopB.of); (focus (first | (dsimp only; done) | (dsimp only; rfl) | rfl)); (focus ((intro _; repeat' (first | with_reducible exact impC_end | with_reducible exact impC_endF | with_reducible refine impC_seq ?_ | with_reducible refine impC_block ?_ | ((with_reducible refine impC_rnd ?_); intro _) | ((with_reducible refine impC_brk ?_); intro _))))); (intro s o hm; first | unfold sc_interchangeref7_segment_L1); rotate_left; intro s hm)) | (((with_reducible apply Imp.trans); (focus ((apply imp_openBs (id := 5) (cid := 1161) (off := 1) (n := 1) (e := 157)); (focus (simp only [push_cast, seval]; (try rfl); done)); (focus (simp only [push_cast, seval]; (try rfl); done)); (focus decide); (focus rfl); (focus (intro _; rfl)); (focus (simp only [push_cast, seval]; (try rfl); done)))))) | (((with_reducible apply Imp.trans); (focus ((apply imp_nilB (id := 5) (cid := 1161) (off := 1) (n := 1) (e := 157)); (focus (simp only [push_cast, seval]; (try rfl); done)); (focus (simp only [push_cast, seval]; (try rfl); done)); (focus decide); (focus (simp only [push_cast, seval]; (try rfl); done)))))) | (((apply imp_stT; (repeat' (first | with_reducible exact keepT_nil | with_reducible exact keepC_nil | with_reducible apply keepT_cons | with_reducible apply keepC_cons | ((with_reducible apply svle_eq); (focus (first | (simp only [push_cast, seval]; rfl) | rfl)); (focus ((repeat' (first | rfl | (with_reducible first | apply fT_Tapi_Element | apply fT_Tapi_Segment | apply f_optN | apply f_optS | apply f_some | apply f_tup | apply f_agg | apply f_ptr | apply f_fn | apply dv_slice | apply sv_d | apply f_cons | apply fold_nil | apply fold_cons | apply fold_app | apply f_rowI | apply f_rowY | apply f_rowS | apply f_rowB | apply f_rowL) | (with_reducible apply f_byte; decide))); done))) | ((with_reducible apply svle_td); (focus (first | (simp only [push_cast, seval]; rfl) | rfl)); (focus (first | (simp only [push_cast, seval]; rfl) | rfl)); (focus ((repeat' (first | rfl | (with_reducible first | apply fT_Tapi_Element | apply fT_Tapi_Segment | apply f_optN | apply f_optS | apply f_some | apply f_tup | apply f_agg | apply f_ptr | apply f_fn | apply dv_slice | apply sv_d | apply f_cons | apply fold_nil | apply fold_cons | apply fold_app | apply f_rowI | apply f_rowY | apply f_rowS | apply f_rowB | apply f_rowL) | (with_reducible apply f_byte; decide))); done))) | ((with_reducible apply chle_eq); (focus (first | (simp only [push_cast, seval]; rfl) | rfl)); (first | with_reducible exact chle_rfl rfl | with_reducible exact chle_map0 | with_reducible apply chle_vec | with_reducible apply chle_box)) | (with_reducible first | apply cT_Tapi_Element | apply cT_Tapi_Segment | apply bcT_Tapi_Segment | apply r_shS | apply r_shI | apply r_rflO | apply r_oneO | apply r_appO | apply r_nilO | apply c_ownN | apply c_ownL | apply vc_rfl | apply vc_nil | apply vc_cons | apply r_rfl | apply r_rows | apply r_nil | apply r_app | apply r_cons | apply c_rowI | apply c_rowY | apply c_rowS | apply c_rowB | apply c_rowL))); done))))
noncomputable def m_interchangeref7_segment (x0 : List UInt8) (x1 : List (List (List UInt8))) : Option (Tapi_Segment) := (sims_G6_0_2 x0 x1).1
theorem spec_interchangeref7_segment (x0 : List UInt8) (x1 : List (List (List UInt8))) : ∀ r, m_interchangeref7_segment x0 x1 = some r → PureSpec Tryd.prog 41 [.str x0, .slice (List.map (rowL rowS) x1)] (.agg (rTapi_Segment r)) := (sims_G6_0_2 x0 x1).2

end Go.Proofs.YtpojlkajcobgcaaDoor

/-
  Bodies of functions and what they compute, printed by programs of mine (wip/tool/gen.py, sc.py) out of the translation; the kernel holds each against the translation.
-/
namespace Go.Proofs.YtpojlkajcobgcaaDoor
open Go.RowKit
set_option linter.unusedSimpArgs false
set_option linter.unusedVariables false
/-- interchange/reply.flawSegment -/
def sc_reply_flawSegment : SC :=
  (.seq (.reg [.r 1 (.boxI (.t 0)),
     .w 2 (.boxM (.c (.agg [.d (.str []), .nils])))])
  (.seq (.regV [0, 1, 2, 3, 4, 5, 6, 8, 7, 9] [.r 4 (.fld 0 (.t 1)), .r 5 (.ld1 (.t 4)), .c 6 (.f 42) [.t 5], .r 7 (.fld 1 (.t 1)), .r 8 (.ld1 (.t 7)), .c 9 (.f 42) [.t 8], .r 10 (.bslice 1 [.t 6, .t 9])] (.q 11 (.f 84) [.c (.d (.str [65, 75, 70])), .t 10] []) (.x 3 (.boxM (.c (.agg [.d (.str []), .nils]))) [(0, 4, .fld 0 (.t 1)), (1, 5, .ld1 (.t 4)), (2, 6, .cl 6 [5]), (3, 7, .fld 1 (.t 1)), (4, 8, .ld1 (.t 7)), (5, 9, .cl 9 [8]), (6, 10, .bslice 1 [.t 6, .t 9])]) [.x 0 (.st 2 (.t 3) (.t 11)) []])
  (.seq (.seq (.reg [.r 12 (.fld 2 (.t 1)),
     .o 13 (.ldA 3 (.t 12)),
     .r 14 (.build [.d (.int .i64 0), .d (.int .i64 0), .d (.int .i64 0)] []),
     .r 15 (.eqs .neq [(.int .i64), (.int .i64), (.int .i64)] (.t 13) (.t 14))])
  (.cond (.t 15)
    (.regE [.r 16 (.fld 1 (.t 3)),
       .r 17 (.ld1 (.t 16)),
       .r 18 (.fld 2 (.t 1)),
       .r 19 (.fld 0 (.t 18)),
       .r 20 (.ld1 (.t 19)),
       .c 21 (.f 42) [.t 20],
       .r 22 (.fld 2 (.t 1)),
       .r 23 (.fld 1 (.t 22)),
       .r 24 (.ld1 (.t 23)),
       .c 25 (.f 42) [.t 24],
       .r 26 (.fld 2 (.t 1)),
       .r 27 (.fld 2 (.t 26)),
       .r 28 (.ld1 (.t 27)),
       .c 29 (.f 42) [.t 28],
       .r 30 (.bslice 1 [.t 21, .t 25, .t 29]),
       .c 31 (.f 125) [.t 30],
       .r 32 (.bslice 1 [.t 31]),
       .x 33 (.app 157 1 (.t 17) (.t 32)) [],
       .r 34 (.fld 1 (.t 3)),
       .x 0 (.st 1 (.t 34) (.t 33)) []])
    (.seq (.reg [.r 35 (.fld 5 (.t 1)),
       .o 36 (.ld1 (.t 35)),
       .r 37 (.bin .neq (.t 36) (.c (.d (.str []))))])
    (.cond (.t 37)
      (.regE [.r 38 (.fld 1 (.t 3)),
         .r 39 (.ld1 (.t 38)),
         .r 40 (.bslice 1 [.c (.d (.str []))]),
         .c 41 (.f 125) [.t 40],
         .r 42 (.bslice 1 [.t 41]),
         .x 43 (.app 157 1 (.t 39) (.t 42)) [],
         .r 44 (.fld 1 (.t 3)),
         .x 0 (.st 1 (.t 44) (.t 43)) []])
      .skip))))
  (.seq (.seq (.reg [.r 45 (.fld 5 (.t 1)),
     .o 46 (.ld1 (.t 45)),
     .r 47 (.bin .neq (.t 46) (.c (.d (.str []))))])
  (.cond (.t 47)
    (.regE [.r 48 (.fld 1 (.t 3)),
       .r 49 (.ld1 (.t 48)),
       .r 50 (.fld 5 (.t 1)),
       .r 51 (.ld1 (.t 50)),
       .r 52 (.bslice 1 [.t 51]),
       .c 53 (.f 125) [.t 52],
       .r 54 (.bslice 1 [.t 53]),
       .x 55 (.app 157 1 (.t 49) (.t 54)) [],
       .r 56 (.fld 1 (.t 3)),
       .x 0 (.st 1 (.t 56) (.t 55)) []])
    .skip))
  (.seq (.reg [.o 57 (.ldA 2 (.t 3)),
     .w 0 (.st 2 (.t 2) (.t 57))])
  .ret)))))
theorem fit_reply_flawSegment : fits Tryd.prog 85 Tryd.f85 sc_reply_flawSegment [.cell 2 2] 1 = true := by kernel_rfl

set_option maxRecDepth 100000 in
set_option maxHeartbeats 40000000 in
noncomputable def sims_G7_1_0 : (∀ (x0 : Tapi_Flaw), {m : Option (Tapi_Segment) // ∀ r, m = some r → PureSpec Tryd.prog 85 [.agg (rTapi_Flaw x0)] (.agg (rTapi_Segment r))}) := by
  (intro x0; apply Subtype.mk; intro r hm; apply pure_walk Tryd.func85 fit_reply_flawSegment; unfold sc_reply_flawSegment)
  repeat' (first | ((with_reducible apply W_openBs (id := 3) (cid := 1097) (off := 1) (n := 1) (e := 157)); (focus (simp only [push_cast, seval]; (try rfl); done)); (focus (simp only [push_cast, seval]; (try rfl); done)); (focus decide); (focus rfl); (focus (intro _; rfl)); (focus (simp only [push_cast, seval]; (try rfl); done))) | ((with_reducible apply W_nilB (id := 3) (cid := 1097) (off := 1) (n := 1) (e := 157)); (focus (simp only [push_cast, seval]; (try rfl); done)); (focus (simp only [push_cast, seval]; (try rfl); done)); (focus decide); (focus (simp only [push_cast, seval]; (try rfl); done))) | ((with_reducible apply W_moveBV (id := 3) (c := 11) (cid := 1097) (off := 1) (n := 1) (e := 157)); (focus (simp only [push_cast, seval]; (try rfl); done)); (focus (simp only [push_cast, seval]; (try rfl); done)); (focus decide); (focus decide); (focus (simp only [push_cast, seval]; (try rfl); done)); (focus ((repeat' (first | (with_reducible first | apply cT_Tapi_Element | apply cT_Tapi_Flaw | apply cT_Tapi_Segment | apply cT_Tapi_Spot | apply bcT_Tapi_Segment | apply r_shS | apply r_shI | apply r_rflO | apply r_oneO | apply r_appO | apply r_nilO | apply c_ownN | apply c_ownL | apply vc_rfl | apply vc_nil | apply vc_cons | apply r_rfl | apply r_rows | apply r_nil | apply r_app | apply r_cons | apply c_rowI | apply c_rowY | apply c_rowS | apply c_rowB | apply c_rowL | apply oT_Tapi_Segment) | ((with_reducible apply svle_rfl); (focus ((repeat' (first | rfl | (with_reducible first | apply fT_Tapi_Element | apply fT_Tapi_Flaw | apply fT_Tapi_Segment | apply fT_Tapi_Spot | apply f_optN | apply f_optS | apply f_some | apply f_tup | apply f_agg | apply f_ptr | apply f_fn | apply dv_slice | apply sv_d | apply f_cons | apply fold_nil | apply fold_cons | apply fold_app | apply f_rowI | apply f_rowY | apply f_rowS | apply f_rowB | apply f_rowL) | (with_reducible apply f_byte; decide))); done))) | ((with_reducible apply cle_own); (focus rfl); (focus ((repeat' (first | rfl | (with_reducible first | apply fT_Tapi_Element | apply fT_Tapi_Flaw | apply fT_Tapi_Segment | apply fT_Tapi_Spot | apply f_optN | apply f_optS | apply f_some | apply f_tup | apply f_agg | apply f_ptr | apply f_fn | apply dv_slice | apply sv_d | apply f_cons | apply fold_nil | apply fold_cons | apply fold_app | apply f_rowI | apply f_rowY | apply f_rowS | apply f_rowB | apply f_rowL) | (with_reducible apply f_byte; decide))); done))) | ((with_reducible apply cle_nil); (focus rfl)))); done)); (focus (intro _; rfl)); (focus (simp only [push_cast, seval]; (try rfl); done)); (focus (first | decide | (simp only [push_cast, seval]; (try rfl); done))); (focus (simp only [push_cast, seval]; (try rfl); done))) | with_reducible refine W_seq ?_ | with_reducible refine W_reg ?_ | with_reducible refine W_regE ?_ | with_reducible refine W_regV ?_ | with_reducible refine W_block ?_ | with_reducible refine W_skip ?_ | with_reducible refine W_ret ?_ | with_reducible refine W_exit ?_ | with_reducible refine O_nil ?_ | with_reducible refine K_seq ?_ | with_reducible refine K_seqE ?_ | with_reducible refine K_seqR ?_ | with_reducible refine K_block ?_ | with_reducible refine K_blockR ?_ | with_reducible refine K_blockE ?_ | ((with_reducible apply K_blockN); decide) | with_reducible refine O_o2r ?_ | ((with_reducible apply O_r); (simp only [push_cast, seval]; rfl); (first | exact trivial | omega)) | ((with_reducible apply W_condT); (focus (simp only [push_cast, seval]; done))) | ((with_reducible apply W_condF); (focus (simp only [push_cast, seval]; done))) | ((with_reducible apply O_cF hm); (simp only [push_cast, seval]; rfl); (first | apply spec_strconv_Itoa _ | apply spec_wire_Made _ _ | apply spec_reply_element _); (any_goals ((repeat' (first | rfl | (with_reducible first | apply fT_Tapi_Element | apply fT_Tapi_Flaw | apply fT_Tapi_Segment | apply fT_Tapi_Spot | apply f_optN | apply f_optS | apply f_some | apply f_tup | apply f_agg | apply f_ptr | apply f_fn | apply dv_slice | apply sv_d | apply f_cons | apply fold_nil | apply fold_cons | apply fold_app | apply f_rowI | apply f_rowY | apply f_rowS | apply f_rowB | apply f_rowL) | (with_reducible apply f_byte; decide))); done)); intro x hm) | ((with_reducible apply O_clS hm); (simp only [push_cast, seval]; rfl); (focus (first | exact spec_strconv_Itoa _ | exact spec_wire_Made _ _ | exact spec_reply_element _)); (intro _; rfl); intro x hm) | ((with_reducible apply K_pair); (iterate 2 rfl); decide; (iterate 4 rfl); (focus ((repeat' (first | exact Rer_nil | ((with_reducible apply Rer_cons); (focus (simp only [push_cast, seval]; rfl)); (focus (first | exact trivial | omega)); (focus (simp only [push_cast, seval]))))); done)); (focus ((repeat' (first | exact Rer_nil | ((with_reducible apply Rer_cons); (focus (simp only [push_cast, seval]; rfl)); (focus (first | exact trivial | omega)); (focus (simp only [push_cast, seval]))))); done)); (focus ((repeat' (first | exact Rer_nil | ((with_reducible apply Rer_cons); (focus (simp only [push_cast, seval]; rfl)); (focus (first | exact trivial | omega)); (focus (simp only [push_cast, seval]))))); done)); (focus ((repeat' (first | exact Rer_nil | ((with_reducible apply Rer_cons); (focus (simp only [push_cast, seval]; rfl)); (focus (first | exact trivial | omega)); (focus (simp only [push_cast, seval]))))); done))) | ((with_reducible apply O_w); (simp only [push_cast, seval]; rfl); (first | exact trivial | omega)) | ((with_reducible apply O_appL hm (row := rowS)); (iterate 5 (simp only [push_cast, seval]; rfl)); (focus ((repeat' (first | rfl | (with_reducible first | apply fT_Tapi_Element | apply fT_Tapi_Flaw | apply fT_Tapi_Segment | apply fT_Tapi_Spot | apply f_optN | apply f_optS | apply f_some | apply f_tup | apply f_agg | apply f_ptr | apply f_fn | apply dv_slice | apply sv_d | apply f_cons | apply fold_nil | apply fold_cons | apply fold_app | apply f_rowI | apply f_rowY | apply f_rowS | apply f_rowB | apply f_rowL) | (with_reducible apply f_byte; decide))); done)); (focus ((repeat' (first | rfl | (with_reducible first | apply fT_Tapi_Element | apply fT_Tapi_Flaw | apply fT_Tapi_Segment | apply fT_Tapi_Spot | apply f_optN | apply f_optS | apply f_some | apply f_tup | apply f_agg | apply f_ptr | apply f_fn | apply dv_slice | apply sv_d | apply f_cons | apply fold_nil | apply fold_cons | apply fold_app | apply f_rowI | apply f_rowY | apply f_rowS | apply f_rowB | apply f_rowL) | (with_reducible apply f_byte; decide))); done)); rfl; decide; (intro _; rfl); intro hm) | ((with_reducible apply O_appL hm (row := rTapi_Element)); (iterate 5 (simp only [push_cast, seval]; rfl)); (focus ((repeat' (first | rfl | (with_reducible first | apply fT_Tapi_Element | apply fT_Tapi_Flaw | apply fT_Tapi_Segment | apply fT_Tapi_Spot | apply f_optN | apply f_optS | apply f_some | apply f_tup | apply f_agg | apply f_ptr | apply f_fn | apply dv_slice | apply sv_d | apply f_cons | apply fold_nil | apply fold_cons | apply fold_app | apply f_rowI | apply f_rowY | apply f_rowS | apply f_rowB | apply f_rowL) | (with_reducible apply f_byte; decide))); done)); (focus ((repeat' (first | rfl | (with_reducible first | apply fT_Tapi_Element | apply fT_Tapi_Flaw | apply fT_Tapi_Segment | apply fT_Tapi_Spot | apply f_optN | apply f_optS | apply f_some | apply f_tup | apply f_agg | apply f_ptr | apply f_fn | apply dv_slice | apply sv_d | apply f_cons | apply fold_nil | apply fold_cons | apply fold_app | apply f_rowI | apply f_rowY | apply f_rowS | apply f_rowB | apply f_rowL) | (with_reducible apply f_byte; decide))); done)); rfl; decide; (intro _; rfl); intro hm) | ((with_reducible apply O_appV hm); (iterate 4 (simp only [push_cast, seval]; rfl)); (focus ((repeat' (first | rfl | (with_reducible first | apply fT_Tapi_Element | apply fT_Tapi_Flaw | apply fT_Tapi_Segment | apply fT_Tapi_Spot | apply f_optN | apply f_optS | apply f_some | apply f_tup | apply f_agg | apply f_ptr | apply f_fn | apply dv_slice | apply sv_d | apply f_cons | apply fold_nil | apply fold_cons | apply fold_app | apply f_rowI | apply f_rowY | apply f_rowS | apply f_rowB | apply f_rowL) | (with_reducible apply f_byte; decide))); done)); decide; (intro _; rfl); intro hm) | ((with_reducible apply O_appN hm); (focus (simp only [push_cast, seval]; done)); (iterate 2 (simp only [push_cast, seval]; rfl)); (focus ((repeat' (first | rfl | (with_reducible first | apply fT_Tapi_Element | apply fT_Tapi_Flaw | apply fT_Tapi_Segment | apply fT_Tapi_Spot | apply f_optN | apply f_optS | apply f_some | apply f_tup | apply f_agg | apply f_ptr | apply f_fn | apply dv_slice | apply sv_d | apply f_cons | apply fold_nil | apply fold_cons | apply fold_app | apply f_rowI | apply f_rowY | apply f_rowS | apply f_rowB | apply f_rowL) | (with_reducible apply f_byte; decide))); done)); decide; (intro _; rfl); intro hm) | ((with_reducible apply O_stV hm); (iterate 3 (simp only [push_cast, seval]; rfl)); rfl; (intro _; rfl); rfl; (focus (intro a; simp only [push_cast, seval]; rfl)); (focus (intro a; (repeat' (first | rfl | with_reducible apply eT_Tapi_Element | with_reducible apply eT_Tapi_Flaw | with_reducible apply eT_Tapi_Segment | with_reducible apply eT_Tapi_Spot)); done)); intro e hm) | ((with_reducible apply O_appVX hm); (iterate 2 (simp only [push_cast, seval]; rfl)); (focus ((repeat' (first | rfl | (with_reducible first | apply eR_nil | apply eR_app | apply eR_cons | apply eT_Tapi_Element | apply eT_Tapi_Flaw | apply eT_Tapi_Segment | apply eT_Tapi_Spot | apply eR_I | apply eR_Y | apply eR_S | apply eR_B) | (with_reducible apply sv_d; (focus ((repeat' (first | rfl | (with_reducible first | apply fT_Tapi_Element | apply fT_Tapi_Flaw | apply fT_Tapi_Segment | apply fT_Tapi_Spot | apply f_optN | apply f_optS | apply f_some | apply f_tup | apply f_agg | apply f_ptr | apply f_fn | apply dv_slice | apply sv_d | apply f_cons | apply fold_nil | apply fold_cons | apply fold_app | apply f_rowI | apply f_rowY | apply f_rowS | apply f_rowB | apply f_rowL) | (with_reducible apply f_byte; decide))); done))))); done)); (simp only [push_cast, seval]; rfl); (focus ((repeat' (first | rfl | (with_reducible first | apply eR_nil | apply eR_app | apply eR_cons | apply eT_Tapi_Element | apply eT_Tapi_Flaw | apply eT_Tapi_Segment | apply eT_Tapi_Spot | apply eR_I | apply eR_Y | apply eR_S | apply eR_B) | (with_reducible apply sv_d; (focus ((repeat' (first | rfl | (with_reducible first | apply fT_Tapi_Element | apply fT_Tapi_Flaw | apply fT_Tapi_Segment | apply fT_Tapi_Spot | apply f_optN | apply f_optS | apply f_some | apply f_tup | apply f_agg | apply f_ptr | apply f_fn | apply dv_slice | apply sv_d | apply f_cons | apply fold_nil | apply fold_cons | apply fold_app | apply f_rowI | apply f_rowY | apply f_rowS | apply f_rowB | apply f_rowL) | (with_reducible apply f_byte; decide))); done))))); done)); (intro _; rfl); (focus ((repeat' (first | exact Rer_nil | ((with_reducible apply Rer_cons); (focus (simp only [push_cast, seval]; rfl)); (focus (first | exact trivial | omega)); (focus (simp only [push_cast, seval]))))); done)); intro hm) | ((with_reducible apply O_appX2 hm); (iterate 4 (simp only [push_cast, seval]; rfl)); rfl; (focus ((repeat' (first | exact Rer_nil | ((with_reducible apply Rer_cons); (focus (simp only [push_cast, seval]; rfl)); (focus (first | exact trivial | omega)); (focus (simp only [push_cast, seval]))))); done)); intro hm) | ((with_reducible apply O_appNX hm); (focus (simp only [push_cast, seval]; done)); (iterate 2 (simp only [push_cast, seval]; rfl)); rfl; (focus ((repeat' (first | exact Rer_nil | ((with_reducible apply Rer_cons); (focus (simp only [push_cast, seval]; rfl)); (focus (first | exact trivial | omega)); (focus (simp only [push_cast, seval]))))); done)); intro hm) | ((with_reducible apply O_stVX hm); (iterate 3 (simp only [push_cast, seval]; rfl)); rfl; (intro _; rfl); rfl; (focus (intro a; simp only [push_cast, seval]; rfl)); (focus (intro a; (repeat' (first | rfl | with_reducible apply eT_Tapi_Element | with_reducible apply eT_Tapi_Flaw | with_reducible apply eT_Tapi_Segment | with_reducible apply eT_Tapi_Spot)); done)); (focus (intro _; (repeat' (first | exact Rer_nil | ((with_reducible apply Rer_cons); (focus (simp only [push_cast, seval]; rfl)); (focus (first | exact trivial | omega)); (focus (simp only [push_cast, seval]))))); done)); intro e hm) | ((with_reducible apply O_x); (simp only [push_cast, seval]; rfl); (first | exact trivial | omega); (focus ((repeat' (first | exact Rer_nil | ((with_reducible apply Rer_cons); (focus (simp only [push_cast, seval]; rfl)); (focus (first | exact trivial | omega)); (focus (simp only [push_cast, seval]))))); done))) | ((with_reducible apply S_condB hm); (simp only [push_cast, seval]; rfl); intro hm; rotate_left; intro hm) | ((with_reducible apply K_endS hm); (focus (simp only [resOf, resL, RV.get, push_cast, seval]; rfl)); (focus ((repeat' (first | rfl | (with_reducible first | apply fT_Tapi_Element | apply fT_Tapi_Flaw | apply fT_Tapi_Segment | apply fT_Tapi_Spot | apply f_optN | apply f_optS | apply f_some | apply f_tup | apply f_agg | apply f_ptr | apply f_fn | apply dv_slice | apply sv_d | apply f_cons | apply fold_nil | apply fold_cons | apply fold_app | apply f_rowI | apply f_rowY | apply f_rowS | apply f_rowB | apply f_rowL) | (with_reducible apply f_byte; decide))); done))) | (((with_reducible apply O_pS hm (e := 157) (n := 1) (row := rTapi_Element) (l := fun y : Tapi_Segment => y.fElements)); (focus (simp only [push_cast, seval]; rfl)); (focus (apply fspec_wire_Made)); (focus ((repeat' (first | rfl | (with_reducible first | apply fT_Tapi_Element | apply fT_Tapi_Flaw | apply fT_Tapi_Segment | apply fT_Tapi_Spot | apply f_optN | apply f_optS | apply f_some | apply f_tup | apply f_agg | apply f_ptr | apply f_fn | apply dv_slice | apply sv_d | apply f_cons | apply fold_nil | apply fold_cons | apply fold_app | apply f_rowI | apply f_rowY | apply f_rowS | apply f_rowB | apply f_rowL) | (with_reducible apply f_byte; decide))); done)); (iterate 4 (focus (intro _; rfl))); intro y hm)) | (((with_reducible apply K_pairA hm (e := 157) (n := 1) (row := rTapi_Element) (l := fun y : Tapi_Segment => y.fElements)); (focus (simp only [push_cast, seval]; rfl)); (focus (apply fspec_wire_Made)); (focus ((repeat' (first | rfl | (with_reducible first | apply fT_Tapi_Element | apply fT_Tapi_Flaw | apply fT_Tapi_Segment | apply fT_Tapi_Spot | apply f_optN | apply f_optS | apply f_some | apply f_tup | apply f_agg | apply f_ptr | apply f_fn | apply dv_slice | apply sv_d | apply f_cons | apply fold_nil | apply fold_cons | apply fold_app | apply f_rowI | apply f_rowY | apply f_rowS | apply f_rowB | apply f_rowL) | (with_reducible apply f_byte; decide))); done)); (iterate 4 (focus (intro _; rfl))); (focus rfl); (focus decide); (focus rfl); (focus rfl); (focus (simp only [push_cast, seval]; (try rfl); done)); (focus (intro _; rfl)); (focus (intro _; (repeat' (first | exact Rer_nil | ((with_reducible apply Rer_cons); (focus (simp only [push_cast, seval]; rfl)); (focus (first | exact trivial | omega)); (focus (simp only [push_cast, seval]))))))); (focus (repeat' (first | exact Rer_nil | ((with_reducible apply Rer_cons); (focus (simp only [push_cast, seval]; rfl)); (focus (first | exact trivial | omega)); (focus (simp only [push_cast, seval])))))); (focus (intro _; (repeat' (first | exact Rer_nil | ((with_reducible apply Rer_cons); (focus (simp only [push_cast, seval]; rfl)); (focus (first | exact trivial | omega)); (focus (simp only [push_cast, seval]))))))); (focus (intro _; (repeat' (first | exact Rer_nil | ((with_reducible apply Rer_cons); (focus (simp only [push_cast, seval]; rfl)); (focus (first | exact trivial | omega)); (focus (simp only [push_cast, seval]))))))); intro y hm)))
noncomputable def m_reply_flawSegment (x0 : Tapi_Flaw) : Option (Tapi_Segment) := (sims_G7_1_0 x0).1
theorem spec_reply_flawSegment (x0 : Tapi_Flaw) : ∀ r, m_reply_flawSegment x0 = some r → PureSpec Tryd.prog 85 [.agg (rTapi_Flaw x0)] (.agg (rTapi_Segment r)) := (sims_G7_1_0 x0).2

end Go.Proofs.YtpojlkajcobgcaaDoor

/-
  Bodies of functions and what they compute, printed by programs of mine (wip/tool/gen.py, sc.py) out of the translation; the kernel holds each against the translation.
-/
namespace Go.Proofs.YtpojlkajcobgcaaDoor
open Go.RowKit
set_option linter.unusedSimpArgs false
set_option linter.unusedVariables false
def sc_reply_segments_R12 : SC := (.reg [.r 56 (.mv (.t 3)),
       .r 57 (.mv (.t 8)),
       .c 58 (.f 84) [.c (.d (.str [65, 75, 77])), .t 57],
       .r 59 (.bslice 2 [.t 58]),
       .w 60 (.app 87 2 (.t 56) (.t 59)),
       .r 3 (.mv (.t 60))])
def sc_reply_segments_L1 : SC :=
  (.seq (.reg [.r 65 (.bin .lss (.t 64) (.t 63))])
  (.seq (.cond (.t 65)
    .skip
    (.exit 4))
  (.seq (.block 5 (.seq (.reg [.r 66 (.idx 6 (.t 62) (.t 64)),
       .o 67 (.ldA 6 (.t 66)),
       .w 10 (.boxM (.c (.agg [.d (.int .i64 0), .d (.int .i64 0), .d (.int .i64 0), .d (.int .i64 0), .d (.int .i64 0), .d (.str [])]))),
       .w 0 (.st 6 (.t 10) (.t 67))])
    (.reg [.r 68 (.mv (.t 3)),
       .o 69 (.ldA 6 (.t 10)),
       .c 70 (.f 85) [.t 69],
       .r 71 (.bslice 2 [.t 70]),
       .w 72 (.app 87 2 (.t 68) (.t 71)),
       .r 3 (.mv (.t 72))])))
  (.reg [.r 73 (.bin .add (.t 64) (.c (.d (.int .i64 1)))),
     .r 64 (.mv (.t 73))]))))
def sc_reply_segments_B1 : SC := .block 4 (.loop sc_reply_segments_L1)
def sc_reply_segments_L2 : SC :=
  (.seq (.reg [.r 78 (.bin .lss (.t 77) (.t 76))])
  (.seq (.cond (.t 78)
    .skip
    (.exit 6))
  (.seq (.block 7 (.seq (.reg [.r 79 (.idx 1 (.t 75) (.t 77)),
       .o 80 (.ld1 (.t 79)),
       .r 12 (.mv (.t 80))])
    (.reg [.r 81 (.mv (.t 3)),
       .r 82 (.mv (.t 12)),
       .r 83 (.bslice 1 [.t 82]),
       .c 84 (.f 84) [.c (.d (.str [65, 75, 82])), .t 83],
       .r 85 (.bslice 2 [.t 84]),
       .w 86 (.app 87 2 (.t 81) (.t 85)),
       .r 3 (.mv (.t 86))])))
  (.reg [.r 87 (.bin .add (.t 77) (.c (.d (.int .i64 1)))),
     .r 77 (.mv (.t 87))]))))
def sc_reply_segments_B2 : SC := .block 6 (.loop sc_reply_segments_L2)
def sc_reply_segments_L3 : SC :=
  (.seq (.reg [.r 42 (.bin .lss (.t 41) (.t 40))])
  (.seq (.cond (.t 42)
    .skip
    (.exit 2))
  (.seq (.block 3 (.seq (.reg [.r 43 (.idx 5 (.t 39) (.t 41)),
       .o 44 (.ldA 5 (.t 43)),
       .w 7 (.boxM (.c (.agg [.d (.str []), .d (.int .i64 0), .d (.bool false), .nils, .nils]))),
       .w 0 (.st 5 (.t 7) (.t 44))])
    (.seq (.regD [.r 45 (.fld 0 (.t 7)),
       .r 46 (.ld1 (.t 45)),
       .r 47 (.fld 1 (.t 7)),
       .r 48 (.ld1 (.t 47)),
       .c 49 (.f 42) [.t 48],
       .r 50 (.bslice 1 [.t 46, .t 49]),
       .r 8 (.mv (.t 50))])
    (.seq (.seq (.reg [.r 51 (.fld 2 (.t 7)),
       .o 52 (.ld1 (.t 51))])
    (.cond (.t 52)
      (.reg [.r 53 (.mv (.t 8)),
         .r 54 (.bslice 1 [.c (.d (.str [49]))]),
         .w 55 (.app 9 1 (.t 53) (.t 54)),
         .r 8 (.mv (.t 55))])
      .skip))
    (.seq sc_reply_segments_R12
    (.seq (.seq (.reg [.r 61 (.fld 3 (.t 7)),
       .o 62 (.ld1 (.t 61)),
       .r 63 (.len (.t 62)),
       .r 64 (.mv (.c (.d (.int .i64 0))))])
    sc_reply_segments_B1)
    (.seq (.reg [.r 74 (.fld 4 (.t 7)),
       .o 75 (.ld1 (.t 74)),
       .r 76 (.len (.t 75)),
       .r 77 (.mv (.c (.d (.int .i64 0))))])
    sc_reply_segments_B2)))))))
  (.reg [.r 88 (.bin .add (.t 41) (.c (.d (.int .i64 1)))),
     .r 41 (.mv (.t 88))]))))
def sc_reply_segments_B3 : SC := .block 2 (.loop sc_reply_segments_L3)
def sc_reply_segments_L4 : SC :=
  (.seq (.reg [.r 25 (.bin .lss (.t 24) (.t 23))])
  (.seq (.cond (.t 25)
    .skip
    (.exit 0))
  (.seq (.block 1 (.seq (.reg [.r 26 (.idx 3 (.t 22) (.t 24)),
       .o 27 (.ldA 3 (.t 26)),
       .w 5 (.boxM (.c (.agg [.d (.str []), .d (.int .i64 0), .nils]))),
       .w 0 (.st 3 (.t 5) (.t 27))])
    (.seq (.regE [.r 28 (.mv (.t 3)),
       .r 29 (.fld 0 (.t 5)),
       .r 30 (.ld1 (.t 29)),
       .r 31 (.fld 1 (.t 5)),
       .r 32 (.ld1 (.t 31)),
       .c 33 (.f 42) [.t 32],
       .r 34 (.bslice 1 [.t 30, .t 33]),
       .c 35 (.f 84) [.c (.d (.str [65, 75, 71])), .t 34],
       .r 36 (.bslice 2 [.t 35]),
       .x 37 (.app 87 2 (.t 28) (.t 36)) [],
       .r 3 (.mv (.t 37))])
    (.seq (.reg [.r 38 (.fld 2 (.t 5)),
       .o 39 (.ld1 (.t 38)),
       .r 40 (.len (.t 39)),
       .r 41 (.mv (.c (.d (.int .i64 0))))])
    sc_reply_segments_B3))))
  (.reg [.r 89 (.bin .add (.t 24) (.c (.d (.int .i64 1)))),
     .r 24 (.mv (.t 89))]))))
def sc_reply_segments_B4 : SC := .block 0 (.loop sc_reply_segments_L4)
/-- interchange/reply.segments -/
def sc_reply_segments : SC :=
  (.seq (.reg [.r 1 (.boxI (.t 0)),
     .r 2 (.mv (.c (.nils)))])
  (.seq (.regE [.r 13 (.fld 0 (.t 1)),
     .r 14 (.ld1 (.t 13)),
     .r 15 (.fld 1 (.t 1)),
     .r 16 (.ld1 (.t 15)),
     .c 17 (.f 42) [.t 16],
     .r 18 (.bslice 1 [.t 14, .t 17]),
     .c 19 (.f 84) [.c (.d (.str [65, 75, 73])), .t 18],
     .x 20 (.slM 87 2 [.t 19]) [],
     .r 3 (.mv (.t 20))])
  (.seq (.seq (.reg [.r 21 (.fld 2 (.t 1)),
     .o 22 (.ld1 (.t 21)),
     .r 23 (.len (.t 22)),
     .r 24 (.mv (.c (.d (.int .i64 0))))])
  sc_reply_segments_B4)
  (.seq (.reg [.r 90 (.mv (.t 3)),
     .r 2 (.mv (.t 90))])
  .ret))))
theorem fit_reply_segments : fits Tryd.prog 40 Tryd.f40 sc_reply_segments [.t 2] 1 = true := by kernel_rfl

def sc_interchangeref7_flawSegment_R8 : SC := (.reg [.r 49 (.mv (.t 3)),
     .c 50 (.f 41) [.c (.d (.str [65, 75, 70])), .t 49],
     .w 0 (.st 2 (.t 2) (.t 50))])
/-- interchange/interchangeref7.flawSegment -/
def sc_interchangeref7_flawSegment : SC :=
  (.seq (.reg [.r 1 (.boxI (.t 0)),
     .w 2 (.boxM (.c (.agg [.d (.str []), .nils])))])
  (.seq (.regE [.r 4 (.fld 0 (.t 1)),
     .r 5 (.ld1 (.t 4)),
     .c 6 (.f 42) [.t 5],
     .r 7 (.bslice 1 [.t 6]),
     .r 8 (.fld 1 (.t 1)),
     .r 9 (.ld1 (.t 8)),
     .c 10 (.f 42) [.t 9],
     .r 11 (.bslice 1 [.t 10]),
     .x 12 (.slM 40 1 [.t 7, .t 11]) [],
     .r 3 (.mv (.t 12))])
  (.seq (.seq (.reg [.r 13 (.fld 2 (.t 1)),
     .o 14 (.ldA 3 (.t 13)),
     .r 15 (.build [.d (.int .i64 0), .d (.int .i64 0), .d (.int .i64 0)] []),
     .r 16 (.eqs .neq [(.int .i64), (.int .i64), (.int .i64)] (.t 14) (.t 15))])
  (.cond (.t 16)
    (.regE [.r 17 (.mv (.t 3)),
       .r 18 (.fld 2 (.t 1)),
       .r 19 (.fld 0 (.t 18)),
       .r 20 (.ld1 (.t 19)),
       .c 21 (.f 42) [.t 20],
       .r 22 (.fld 2 (.t 1)),
       .r 23 (.fld 1 (.t 22)),
       .r 24 (.ld1 (.t 23)),
       .c 25 (.f 42) [.t 24],
       .r 26 (.fld 2 (.t 1)),
       .r 27 (.fld 2 (.t 26)),
       .r 28 (.ld1 (.t 27)),
       .c 29 (.f 42) [.t 28],
       .r 30 (.bslice 1 [.t 21, .t 25, .t 29]),
       .r 31 (.bslice 1 [.t 30]),
       .x 32 (.app 40 1 (.t 17) (.t 31)) [],
       .r 3 (.mv (.t 32))])
    (.seq (.reg [.r 33 (.fld 5 (.t 1)),
       .o 34 (.ld1 (.t 33)),
       .r 35 (.bin .neq (.t 34) (.c (.d (.str []))))])
    (.cond (.t 35)
      (.reg [.r 36 (.mv (.t 3)),
         .r 37 (.bslice 1 [.c (.d (.str []))]),
         .r 38 (.bslice 1 [.t 37]),
         .w 39 (.app 40 1 (.t 36) (.t 38)),
         .r 3 (.mv (.t 39))])
      .skip))))
  (.seq (.seq (.reg [.r 40 (.fld 5 (.t 1)),
     .o 41 (.ld1 (.t 40)),
     .r 42 (.bin .neq (.t 41) (.c (.d (.str []))))])
  (.cond (.t 42)
    (.reg [.r 43 (.mv (.t 3)),
       .r 44 (.fld 5 (.t 1)),
       .o 45 (.ld1 (.t 44)),
       .r 46 (.bslice 1 [.t 45]),
       .r 47 (.bslice 1 [.t 46]),
       .w 48 (.app 40 1 (.t 43) (.t 47)),
       .r 3 (.mv (.t 48))])
    .skip))
  (.seq sc_interchangeref7_flawSegment_R8
  .ret)))))
theorem fit_interchangeref7_flawSegment : fits Tryd.prog 43 Tryd.f43 sc_interchangeref7_flawSegment [.cell 2 2] 1 = true := by kernel_rfl

set_option maxRecDepth 100000 in
set_option maxHeartbeats 40000000 in
noncomputable def sims_G8_1_0 : (∀ (x0 : Tapi_Reply), {m : Option ((List Tapi_Segment)) // ∀ r, m = some r → PureSpec Tryd.prog 40 [.agg (rTapi_Reply x0)] (.slice (List.map rTapi_Segment r))}) × (∀ (x0 : Tapi_Flaw), {m : Option (Tapi_Segment) // ∀ r, m = some r → PureSpec Tryd.prog 43 [.agg (rTapi_Flaw x0)] (.agg (rTapi_Segment r))}) := by
  refine ⟨?g0, ?g1⟩
  case' g0 => (intro x0; apply Subtype.mk; intro r hm; apply pure_walk Tryd.func40 fit_reply_segments; unfold sc_reply_segments)
  case' g1 => (intro x0; apply Subtype.mk; intro r hm; apply pure_walk Tryd.func43 fit_interchangeref7_flawSegment; unfold sc_interchangeref7_flawSegment)
  all_goals (repeat' (first | ((with_reducible apply W_frzS (x := sc_reply_segments_R12) 8); (focus (simp only [push_cast, seval]; (try rfl); done)); (focus (simp only [push_cast, seval]; (try rfl); done)); (focus (simp only [push_cast, seval]; (try rfl); done)); unfold sc_reply_segments_R12) | ((with_reducible apply W_same sc_reply_segments_R12); unfold sc_reply_segments_R12) | ((with_reducible apply W_frzS (x := sc_interchangeref7_flawSegment_R8) 3); (focus (simp only [push_cast, seval]; (try rfl); done)); (focus (simp only [push_cast, seval]; (try rfl); done)); (focus (simp only [push_cast, seval]; (try rfl); done)); unfold sc_interchangeref7_flawSegment_R8) | ((with_reducible apply W_same sc_interchangeref7_flawSegment_R8); unfold sc_interchangeref7_flawSegment_R8) | with_reducible refine W_seq ?_ | with_reducible refine W_reg ?_ | with_reducible refine W_regD ?_ | with_reducible refine W_regE ?_ | with_reducible refine W_block ?_ | with_reducible refine W_skip ?_ | with_reducible refine W_ret ?_ | with_reducible refine W_exit ?_ | with_reducible refine O_nil ?_ | with_reducible refine K_seq ?_ | with_reducible refine K_seqE ?_ | with_reducible refine K_seqR ?_ | with_reducible refine K_block ?_ | with_reducible refine K_blockR ?_ | with_reducible refine K_blockE ?_ | ((with_reducible apply K_blockN); decide) | with_reducible refine O_o2r ?_ | ((with_reducible apply O_idxr hm); (iterate 2 (simp only [push_cast, seval]; rfl)); (intro _; rfl); intro e hm) | ((with_reducible apply O_idxVr hm); (iterate 3 (simp only [push_cast, seval]; rfl)); intro e hm) | ((with_reducible apply O_idxLr hm (row := rowS)); (iterate 2 (simp only [push_cast, seval]; rfl)); (focus ((repeat' (first | rfl | (with_reducible first | apply fT_Tapi_Element | apply fT_Tapi_Flaw | apply fT_Tapi_GroupReply | apply fT_Tapi_MessageReply | apply fT_Tapi_Reply | apply fT_Tapi_Segment | apply fT_Tapi_Spot | apply f_optN | apply f_optS | apply f_some | apply f_tup | apply f_agg | apply f_ptr | apply f_fn | apply dv_slice | apply sv_d | apply f_cons | apply fold_nil | apply fold_cons | apply fold_app | apply f_rowI | apply f_rowY | apply f_rowS | apply f_rowB | apply f_rowL) | (with_reducible apply f_byte; decide))); done)); (simp only [push_cast, seval]; rfl); (intro _; rfl); intro e hm) | ((with_reducible apply O_idxLr hm (row := rTapi_Segment)); (iterate 2 (simp only [push_cast, seval]; rfl)); (focus ((repeat' (first | rfl | (with_reducible first | apply fT_Tapi_Element | apply fT_Tapi_Flaw | apply fT_Tapi_GroupReply | apply fT_Tapi_MessageReply | apply fT_Tapi_Reply | apply fT_Tapi_Segment | apply fT_Tapi_Spot | apply f_optN | apply f_optS | apply f_some | apply f_tup | apply f_agg | apply f_ptr | apply f_fn | apply dv_slice | apply sv_d | apply f_cons | apply fold_nil | apply fold_cons | apply fold_app | apply f_rowI | apply f_rowY | apply f_rowS | apply f_rowB | apply f_rowL) | (with_reducible apply f_byte; decide))); done)); (simp only [push_cast, seval]; rfl); (intro _; rfl); intro e hm) | ((with_reducible apply O_idxLr hm (row := (rowL rowS))); (iterate 2 (simp only [push_cast, seval]; rfl)); (focus ((repeat' (first | rfl | (with_reducible first | apply fT_Tapi_Element | apply fT_Tapi_Flaw | apply fT_Tapi_GroupReply | apply fT_Tapi_MessageReply | apply fT_Tapi_Reply | apply fT_Tapi_Segment | apply fT_Tapi_Spot | apply f_optN | apply f_optS | apply f_some | apply f_tup | apply f_agg | apply f_ptr | apply f_fn | apply dv_slice | apply sv_d | apply f_cons | apply fold_nil | apply fold_cons | apply fold_app | apply f_rowI | apply f_rowY | apply f_rowS | apply f_rowB | apply f_rowL) | (with_reducible apply f_byte; decide))); done)); (simp only [push_cast, seval]; rfl); (intro _; rfl); intro e hm) | ((with_reducible apply O_r); (simp only [push_cast, seval]; rfl); (first | exact trivial | omega)) | ((with_reducible apply O_ldV1r hm); (iterate 2 (simp only [push_cast, seval]; rfl)); (intro _; rfl); intro e hm) | ((with_reducible apply O_ldAVr hm); (iterate 2 (simp only [push_cast, seval]; rfl)); (intro _; rfl); intro e hm) | ((with_reducible apply O_strr hm); (iterate 2 (simp only [push_cast, seval]; rfl)); intro hm) | ((with_reducible apply W_condT); (focus (simp only [push_cast, seval]; done))) | ((with_reducible apply W_condF); (focus (simp only [push_cast, seval]; done))) | ((with_reducible apply O_cF hm); (simp only [push_cast, seval]; rfl); (first | apply spec_strconv_Itoa _ | apply spec_wire_Made _ _ | apply spec_reply_flawSegment _ | apply spec_interchangeref7_segment _ _); (any_goals ((repeat' (first | rfl | (with_reducible first | apply fT_Tapi_Element | apply fT_Tapi_Flaw | apply fT_Tapi_GroupReply | apply fT_Tapi_MessageReply | apply fT_Tapi_Reply | apply fT_Tapi_Segment | apply fT_Tapi_Spot | apply f_optN | apply f_optS | apply f_some | apply f_tup | apply f_agg | apply f_ptr | apply f_fn | apply dv_slice | apply sv_d | apply f_cons | apply fold_nil | apply fold_cons | apply fold_app | apply f_rowI | apply f_rowY | apply f_rowS | apply f_rowB | apply f_rowL) | (with_reducible apply f_byte; decide))); done)); intro x hm) | ((with_reducible apply O_clS hm); (simp only [push_cast, seval]; rfl); (focus (first | exact spec_strconv_Itoa _ | exact spec_wire_Made _ _ | exact spec_reply_flawSegment _ | exact spec_interchangeref7_segment _ _)); (intro _; rfl); intro x hm) | ((with_reducible apply O_w); (simp only [push_cast, seval]; rfl); (first | exact trivial | omega)) | ((with_reducible apply O_appL hm (row := rowS)); (iterate 5 (simp only [push_cast, seval]; rfl)); (focus ((repeat' (first | rfl | (with_reducible first | apply fT_Tapi_Element | apply fT_Tapi_Flaw | apply fT_Tapi_GroupReply | apply fT_Tapi_MessageReply | apply fT_Tapi_Reply | apply fT_Tapi_Segment | apply fT_Tapi_Spot | apply f_optN | apply f_optS | apply f_some | apply f_tup | apply f_agg | apply f_ptr | apply f_fn | apply dv_slice | apply sv_d | apply f_cons | apply fold_nil | apply fold_cons | apply fold_app | apply f_rowI | apply f_rowY | apply f_rowS | apply f_rowB | apply f_rowL) | (with_reducible apply f_byte; decide))); done)); (focus ((repeat' (first | rfl | (with_reducible first | apply fT_Tapi_Element | apply fT_Tapi_Flaw | apply fT_Tapi_GroupReply | apply fT_Tapi_MessageReply | apply fT_Tapi_Reply | apply fT_Tapi_Segment | apply fT_Tapi_Spot | apply f_optN | apply f_optS | apply f_some | apply f_tup | apply f_agg | apply f_ptr | apply f_fn | apply dv_slice | apply sv_d | apply f_cons | apply fold_nil | apply fold_cons | apply fold_app | apply f_rowI | apply f_rowY | apply f_rowS | apply f_rowB | apply f_rowL) | (with_reducible apply f_byte; decide))); done)); rfl; decide; (intro _; rfl); intro hm) | ((with_reducible apply O_appL hm (row := rTapi_Segment)); (iterate 5 (simp only [push_cast, seval]; rfl)); (focus ((repeat' (first | rfl | (with_reducible first | apply fT_Tapi_Element | apply fT_Tapi_Flaw | apply fT_Tapi_GroupReply | apply fT_Tapi_MessageReply | apply fT_Tapi_Reply | apply fT_Tapi_Segment | apply fT_Tapi_Spot | apply f_optN | apply f_optS | apply f_some | apply f_tup | apply f_agg | apply f_ptr | apply f_fn | apply dv_slice | apply sv_d | apply f_cons | apply fold_nil | apply fold_cons | apply fold_app | apply f_rowI | apply f_rowY | apply f_rowS | apply f_rowB | apply f_rowL) | (with_reducible apply f_byte; decide))); done)); (focus ((repeat' (first | rfl | (with_reducible first | apply fT_Tapi_Element | apply fT_Tapi_Flaw | apply fT_Tapi_GroupReply | apply fT_Tapi_MessageReply | apply fT_Tapi_Reply | apply fT_Tapi_Segment | apply fT_Tapi_Spot | apply f_optN | apply f_optS | apply f_some | apply f_tup | apply f_agg | apply f_ptr | apply f_fn | apply dv_slice | apply sv_d | apply f_cons | apply fold_nil | apply fold_cons | apply fold_app | apply f_rowI | apply f_rowY | apply f_rowS | apply f_rowB | apply f_rowL) | (with_reducible apply f_byte; decide))); done)); rfl; decide; (intro _; rfl); intro hm) | ((with_reducible apply O_appL hm (row := (rowL rowS))); (iterate 5 (simp only [push_cast, seval]; rfl)); (focus ((repeat' (first | rfl | (with_reducible first | apply fT_Tapi_Element | apply fT_Tapi_Flaw | apply fT_Tapi_GroupReply | apply fT_Tapi_MessageReply | apply fT_Tapi_Reply | apply fT_Tapi_Segment | apply fT_Tapi_Spot | apply f_optN | apply f_optS | apply f_some | apply f_tup | apply f_agg | apply f_ptr | apply f_fn | apply dv_slice | apply sv_d | apply f_cons | apply fold_nil | apply fold_cons | apply fold_app | apply f_rowI | apply f_rowY | apply f_rowS | apply f_rowB | apply f_rowL) | (with_reducible apply f_byte; decide))); done)); (focus ((repeat' (first | rfl | (with_reducible first | apply fT_Tapi_Element | apply fT_Tapi_Flaw | apply fT_Tapi_GroupReply | apply fT_Tapi_MessageReply | apply fT_Tapi_Reply | apply fT_Tapi_Segment | apply fT_Tapi_Spot | apply f_optN | apply f_optS | apply f_some | apply f_tup | apply f_agg | apply f_ptr | apply f_fn | apply dv_slice | apply sv_d | apply f_cons | apply fold_nil | apply fold_cons | apply fold_app | apply f_rowI | apply f_rowY | apply f_rowS | apply f_rowB | apply f_rowL) | (with_reducible apply f_byte; decide))); done)); rfl; decide; (intro _; rfl); intro hm) | ((with_reducible apply O_appV hm); (iterate 4 (simp only [push_cast, seval]; rfl)); (focus ((repeat' (first | rfl | (with_reducible first | apply fT_Tapi_Element | apply fT_Tapi_Flaw | apply fT_Tapi_GroupReply | apply fT_Tapi_MessageReply | apply fT_Tapi_Reply | apply fT_Tapi_Segment | apply fT_Tapi_Spot | apply f_optN | apply f_optS | apply f_some | apply f_tup | apply f_agg | apply f_ptr | apply f_fn | apply dv_slice | apply sv_d | apply f_cons | apply fold_nil | apply fold_cons | apply fold_app | apply f_rowI | apply f_rowY | apply f_rowS | apply f_rowB | apply f_rowL) | (with_reducible apply f_byte; decide))); done)); decide; (intro _; rfl); intro hm) | ((with_reducible apply O_appN hm); (focus (simp only [push_cast, seval]; done)); (iterate 2 (simp only [push_cast, seval]; rfl)); (focus ((repeat' (first | rfl | (with_reducible first | apply fT_Tapi_Element | apply fT_Tapi_Flaw | apply fT_Tapi_GroupReply | apply fT_Tapi_MessageReply | apply fT_Tapi_Reply | apply fT_Tapi_Segment | apply fT_Tapi_Spot | apply f_optN | apply f_optS | apply f_some | apply f_tup | apply f_agg | apply f_ptr | apply f_fn | apply dv_slice | apply sv_d | apply f_cons | apply fold_nil | apply fold_cons | apply fold_app | apply f_rowI | apply f_rowY | apply f_rowS | apply f_rowB | apply f_rowL) | (with_reducible apply f_byte; decide))); done)); decide; (intro _; rfl); intro hm) | ((with_reducible apply O_appW2 hm); (iterate 4 (simp only [push_cast, seval]; rfl)); rfl; intro hm) | ((with_reducible apply O_stVA hm); (iterate 4 (simp only [push_cast, seval]; rfl)); (focus ((repeat' (first | rfl | (with_reducible first | apply fT_Tapi_Element | apply fT_Tapi_Flaw | apply fT_Tapi_GroupReply | apply fT_Tapi_MessageReply | apply fT_Tapi_Reply | apply fT_Tapi_Segment | apply fT_Tapi_Spot | apply f_optN | apply f_optS | apply f_some | apply f_tup | apply f_agg | apply f_ptr | apply f_fn | apply dv_slice | apply sv_d | apply f_cons | apply fold_nil | apply fold_cons | apply fold_app | apply f_rowI | apply f_rowY | apply f_rowS | apply f_rowB | apply f_rowL) | (with_reducible apply f_byte; decide))); done)); decide; (intro _; rfl); intro e hm) | ((with_reducible apply O_stV hm); (iterate 3 (simp only [push_cast, seval]; rfl)); rfl; (intro _; rfl); rfl; (focus (intro a; simp only [push_cast, seval]; rfl)); (focus (intro a; (repeat' (first | rfl | with_reducible apply eT_Tapi_Element | with_reducible apply eT_Tapi_Flaw | with_reducible apply eT_Tapi_GroupReply | with_reducible apply eT_Tapi_MessageReply | with_reducible apply eT_Tapi_Reply | with_reducible apply eT_Tapi_Segment | with_reducible apply eT_Tapi_Spot)); done)); intro e hm) | ((with_reducible apply O_stVAX hm); (iterate 3 (simp only [push_cast, seval]; rfl)); (focus ((repeat' (first | rfl | (with_reducible first | apply fT_Tapi_Element | apply fT_Tapi_Flaw | apply fT_Tapi_GroupReply | apply fT_Tapi_MessageReply | apply fT_Tapi_Reply | apply fT_Tapi_Segment | apply fT_Tapi_Spot | apply f_optN | apply f_optS | apply f_some | apply f_tup | apply f_agg | apply f_ptr | apply f_fn | apply dv_slice | apply sv_d | apply f_cons | apply fold_nil | apply fold_cons | apply fold_app | apply f_rowI | apply f_rowY | apply f_rowS | apply f_rowB | apply f_rowL) | (with_reducible apply f_byte; decide))); done)); (intro _; rfl); (focus ((repeat' (first | exact Rer_nil | ((with_reducible apply Rer_cons); (focus (simp only [push_cast, seval]; rfl)); (focus (first | exact trivial | omega)); (focus (simp only [push_cast, seval]))))); done)); intro e hm) | ((with_reducible apply O_appVX hm); (iterate 2 (simp only [push_cast, seval]; rfl)); (focus ((repeat' (first | rfl | (with_reducible first | apply eR_nil | apply eR_app | apply eR_cons | apply eT_Tapi_Element | apply eT_Tapi_Flaw | apply eT_Tapi_GroupReply | apply eT_Tapi_MessageReply | apply eT_Tapi_Reply | apply eT_Tapi_Segment | apply eT_Tapi_Spot | apply eR_I | apply eR_Y | apply eR_S | apply eR_B) | (with_reducible apply sv_d; (focus ((repeat' (first | rfl | (with_reducible first | apply fT_Tapi_Element | apply fT_Tapi_Flaw | apply fT_Tapi_GroupReply | apply fT_Tapi_MessageReply | apply fT_Tapi_Reply | apply fT_Tapi_Segment | apply fT_Tapi_Spot | apply f_optN | apply f_optS | apply f_some | apply f_tup | apply f_agg | apply f_ptr | apply f_fn | apply dv_slice | apply sv_d | apply f_cons | apply fold_nil | apply fold_cons | apply fold_app | apply f_rowI | apply f_rowY | apply f_rowS | apply f_rowB | apply f_rowL) | (with_reducible apply f_byte; decide))); done))))); done)); (simp only [push_cast, seval]; rfl); (focus ((repeat' (first | rfl | (with_reducible first | apply eR_nil | apply eR_app | apply eR_cons | apply eT_Tapi_Element | apply eT_Tapi_Flaw | apply eT_Tapi_GroupReply | apply eT_Tapi_MessageReply | apply eT_Tapi_Reply | apply eT_Tapi_Segment | apply eT_Tapi_Spot | apply eR_I | apply eR_Y | apply eR_S | apply eR_B) | (with_reducible apply sv_d; (focus ((repeat' (first | rfl | (with_reducible first | apply fT_Tapi_Element | apply fT_Tapi_Flaw | apply fT_Tapi_GroupReply | apply fT_Tapi_MessageReply | apply fT_Tapi_Reply | apply fT_Tapi_Segment | apply fT_Tapi_Spot | apply f_optN | apply f_optS | apply f_some | apply f_tup | apply f_agg | apply f_ptr | apply f_fn | apply dv_slice | apply sv_d | apply f_cons | apply fold_nil | apply fold_cons | apply fold_app | apply f_rowI | apply f_rowY | apply f_rowS | apply f_rowB | apply f_rowL) | (with_reducible apply f_byte; decide))); done))))); done)); (intro _; rfl); (focus ((repeat' (first | exact Rer_nil | ((with_reducible apply Rer_cons); (focus (simp only [push_cast, seval]; rfl)); (focus (first | exact trivial | omega)); (focus (simp only [push_cast, seval]))))); done)); intro hm) | ((with_reducible apply O_appX2 hm); (iterate 4 (simp only [push_cast, seval]; rfl)); rfl; (focus ((repeat' (first | exact Rer_nil | ((with_reducible apply Rer_cons); (focus (simp only [push_cast, seval]; rfl)); (focus (first | exact trivial | omega)); (focus (simp only [push_cast, seval]))))); done)); intro hm) | ((with_reducible apply O_appNX hm); (focus (simp only [push_cast, seval]; done)); (iterate 2 (simp only [push_cast, seval]; rfl)); rfl; (focus ((repeat' (first | exact Rer_nil | ((with_reducible apply Rer_cons); (focus (simp only [push_cast, seval]; rfl)); (focus (first | exact trivial | omega)); (focus (simp only [push_cast, seval]))))); done)); intro hm) | ((with_reducible apply O_stVX hm); (iterate 3 (simp only [push_cast, seval]; rfl)); rfl; (intro _; rfl); rfl; (focus (intro a; simp only [push_cast, seval]; rfl)); (focus (intro a; (repeat' (first | rfl | with_reducible apply eT_Tapi_Element | with_reducible apply eT_Tapi_Flaw | with_reducible apply eT_Tapi_GroupReply | with_reducible apply eT_Tapi_MessageReply | with_reducible apply eT_Tapi_Reply | with_reducible apply eT_Tapi_Segment | with_reducible apply eT_Tapi_Spot)); done)); (focus (intro _; (repeat' (first | exact Rer_nil | ((with_reducible apply Rer_cons); (focus (simp only [push_cast, seval]; rfl)); (focus (first | exact trivial | omega)); (focus (simp only [push_cast, seval]))))); done)); intro e hm) | ((with_reducible apply O_x); (simp only [push_cast, seval]; rfl); (first | exact trivial | omega); (focus ((repeat' (first | exact Rer_nil | ((with_reducible apply Rer_cons); (focus (simp only [push_cast, seval]; rfl)); (focus (first | exact trivial | omega)); (focus (simp only [push_cast, seval]))))); done))) | ((with_reducible apply S_condB hm); (simp only [push_cast, seval]; rfl); intro hm; rotate_left; intro hm) | ((with_reducible apply K_endS hm); (focus (simp only [resOf, resL, RV.get, push_cast, seval]; rfl)); (focus ((repeat' (first | rfl | (with_reducible first | apply fT_Tapi_Element | apply fT_Tapi_Flaw | apply fT_Tapi_GroupReply | apply fT_Tapi_MessageReply | apply fT_Tapi_Reply | apply fT_Tapi_Segment | apply fT_Tapi_Spot | apply f_optN | apply f_optS | apply f_some | apply f_tup | apply f_agg | apply f_ptr | apply f_fn | apply dv_slice | apply sv_d | apply f_cons | apply fold_nil | apply fold_cons | apply fold_app | apply f_rowI | apply f_rowY | apply f_rowS | apply f_rowB | apply f_rowL) | (with_reducible apply f_byte; decide))); done))) | ((with_reducible apply K_leave hm); intro r hm) | ((with_reducible apply K_leaveR hm); intro r hm) | ((apply S_loopY (b := 4) (X := sc_reply_segments_B1) (x := sc_reply_segments_L1) rfl (fun (c : Ch × SV × SV × SV × SV × SV × SV × SV × SV) (s : (List Tapi_Segment) × Int) => st [(3, .vec 20), (7, .ref 7 0), (22, c.2.1), (23, c.2.2.1), (24, c.2.2.2.1), (39, c.2.2.2.2.1), (40, c.2.2.2.2.2.1), (41, c.2.2.2.2.2.2.1), (62, c.2.2.2.2.2.2.2.1), (63, c.2.2.2.2.2.2.2.2), (64, .d (.int .i64 s.2))] [(20, .vec 87 2 (vrow rTapi_Segment s.1)), (7, c.1)]) (c := (_, _, _, _, _, _, _, _, _)) (s0 := (_, _)) hm); (focus (first | (dsimp only; done) | (dsimp only; rfl) | rfl)); (with_reducible refine Then.mk ?_ ?_)) | ((apply S_loopY (b := 6) (X := sc_reply_segments_B2) (x := sc_reply_segments_L2) rfl (fun (c : SV × SV × SV × SV × SV × SV × SV × SV) (s : (List Tapi_Segment) × Int) => st [(3, .vec 20), (22, c.1), (23, c.2.1), (24, c.2.2.1), (39, c.2.2.2.1), (40, c.2.2.2.2.1), (41, c.2.2.2.2.2.1), (75, c.2.2.2.2.2.2.1), (76, c.2.2.2.2.2.2.2), (77, .d (.int .i64 s.2))] [(20, .vec 87 2 (vrow rTapi_Segment s.1))]) (c := (_, _, _, _, _, _, _, _)) (s0 := (_, _)) hm); (focus (first | (dsimp only; done) | (dsimp only; rfl) | rfl)); (with_reducible refine Then.mk ?_ ?_)) | ((apply S_loopY (b := 2) (X := sc_reply_segments_B3) (x := sc_reply_segments_L3) rfl (fun (c : SV × SV × SV × SV × SV) (s : (List Tapi_Segment) × Int) => st [(3, .vec 20), (22, c.1), (23, c.2.1), (24, c.2.2.1), (39, c.2.2.2.1), (40, c.2.2.2.2), (41, .d (.int .i64 s.2))] [(20, .vec 87 2 (vrow rTapi_Segment s.1))]) (c := (_, _, _, _, _)) (s0 := (_, _)) hm); (focus (first | (dsimp only; done) | (dsimp only; rfl) | rfl)); (with_reducible refine Then.mk ?_ ?_)) | ((apply S_loopY (b := 0) (X := sc_reply_segments_B4) (x := sc_reply_segments_L4) rfl (fun (c : SV × SV) (s : (List Tapi_Segment) × Int) => st [(3, .vec 20), (22, c.1), (23, c.2), (24, .d (.int .i64 s.2))] [(20, .vec 87 2 (vrow rTapi_Segment s.1))]) (c := (_, _)) (s0 := (_, _)) hm); (focus (first | (dsimp only; done) | (dsimp only; rfl) | rfl)); (with_reducible refine Then.mk ?_ ?_)) | (((with_reducible first | apply O_slM | apply O_slMx); (focus (simp only [push_cast, seval]; (try rfl); done)); (focus (simp only [push_cast, seval]; rfl)); (try (focus (simp only [push_cast, seval]; (try rfl); done))))) | ((apply K_next (s' := (_, _)) hm); (focus (first | (dsimp only; done) | (dsimp only; rfl) | rfl))) | ((apply K_brk (s' := (_, _)) hm); (focus (first | (dsimp only; done) | (dsimp only; rfl) | rfl))) | (((with_reducible apply K_brkN hm); (focus decide); intro r hm)) | (((with_reducible apply K_brkR hm); intro r hm)) | (((with_reducible apply LoopB.of); (focus (first | (dsimp only; done) | (dsimp only; rfl) | rfl)); (focus ((intro _; repeat' (first | with_reducible exact impC_end | with_reducible exact impC_endF | with_reducible refine impC_seq ?_ | with_reducible refine impC_block ?_ | ((with_reducible refine impC_rnd ?_); intro _) | ((with_reducible refine impC_brk ?_); intro _))))); (intro s o hm; first | unfold sc_reply_segments_L1 | unfold sc_reply_segments_L2 | unfold sc_reply_segments_L3 | unfold sc_reply_segments_L4); rotate_left; intro s hm)) | (((apply imp_stT; (repeat' (first | with_reducible exact keepT_nil | with_reducible exact keepC_nil | with_reducible apply keepT_cons | with_reducible apply keepC_cons | ((with_reducible apply svle_eq); (focus (first | (simp only [push_cast, seval]; rfl) | rfl)); (focus ((repeat' (first | rfl | (with_reducible first | apply fT_Tapi_Element | apply fT_Tapi_Flaw | apply fT_Tapi_GroupReply | apply fT_Tapi_MessageReply | apply fT_Tapi_Reply | apply fT_Tapi_Segment | apply fT_Tapi_Spot | apply f_optN | apply f_optS | apply f_some | apply f_tup | apply f_agg | apply f_ptr | apply f_fn | apply dv_slice | apply sv_d | apply f_cons | apply fold_nil | apply fold_cons | apply fold_app | apply f_rowI | apply f_rowY | apply f_rowS | apply f_rowB | apply f_rowL) | (with_reducible apply f_byte; decide))); done))) | ((with_reducible apply svle_td); (focus (first | (simp only [push_cast, seval]; rfl) | rfl)); (focus (first | (simp only [push_cast, seval]; rfl) | rfl)); (focus ((repeat' (first | rfl | (with_reducible first | apply fT_Tapi_Element | apply fT_Tapi_Flaw | apply fT_Tapi_GroupReply | apply fT_Tapi_MessageReply | apply fT_Tapi_Reply | apply fT_Tapi_Segment | apply fT_Tapi_Spot | apply f_optN | apply f_optS | apply f_some | apply f_tup | apply f_agg | apply f_ptr | apply f_fn | apply dv_slice | apply sv_d | apply f_cons | apply fold_nil | apply fold_cons | apply fold_app | apply f_rowI | apply f_rowY | apply f_rowS | apply f_rowB | apply f_rowL) | (with_reducible apply f_byte; decide))); done))) | ((with_reducible apply chle_eq); (focus (first | (simp only [push_cast, seval]; rfl) | rfl)); (first | with_reducible exact chle_rfl rfl | with_reducible exact chle_map0 | with_reducible apply chle_vec | with_reducible apply chle_box)) | (with_reducible first | apply cT_Tapi_Element | apply cT_Tapi_Flaw | apply cT_Tapi_GroupReply | apply cT_Tapi_MessageReply | apply cT_Tapi_Reply | apply cT_Tapi_Segment | apply cT_Tapi_Spot | apply bcT_Tapi_Segment | apply r_shS | apply r_shI | apply r_rflO | apply r_oneO | apply r_appO | apply r_nilO | apply c_ownN | apply c_ownL | apply vc_rfl | apply vc_nil | apply vc_cons | apply r_rfl | apply r_rows | apply r_nil | apply r_app | apply r_cons | apply c_rowI | apply c_rowY | apply c_rowS | apply c_rowB | apply c_rowL))); done)))))
noncomputable def m_reply_segments (x0 : Tapi_Reply) : Option ((List Tapi_Segment)) := (sims_G8_1_0.1 x0).1
theorem spec_reply_segments (x0 : Tapi_Reply) : ∀ r, m_reply_segments x0 = some r → PureSpec Tryd.prog 40 [.agg (rTapi_Reply x0)] (.slice (List.map rTapi_Segment r)) := (sims_G8_1_0.1 x0).2
noncomputable def m_interchangeref7_flawSegment (x0 : Tapi_Flaw) : Option (Tapi_Segment) := (sims_G8_1_0.2 x0).1
theorem spec_interchangeref7_flawSegment (x0 : Tapi_Flaw) : ∀ r, m_interchangeref7_flawSegment x0 = some r → PureSpec Tryd.prog 43 [.agg (rTapi_Flaw x0)] (.agg (rTapi_Segment r)) := (sims_G8_1_0.2 x0).2

/-- interchange/reply.Segments -/
def sc_reply_Segments : SC :=
  (.seq (.reg [.r 1 (.boxI (.t 0)),
     .r 2 (.mv (.c (.nils))),
     .r 3 (.mv (.c (.d (.int .i64 0))))])
  (.seq (.seq (.reg [.o 6 (.ldA 3 (.t 1)),
     .c 7 (.f 12) [.t 6],
     .r 4 (.mv (.t 7))])
  (.seq (.reg [.r 8 (.mv (.t 4)),
     .r 9 (.bin .neq (.t 8) (.c (.d (.int .i64 0))))])
  (.cond (.t 9)
    (.seq (.reg [.r 10 (.mv (.t 4)),
       .r 2 (.mv (.c (.nils))),
       .r 3 (.mv (.t 10))])
    .ret)
    .skip)))
  (.seq (.reg [.o 11 (.ldA 3 (.t 1)),
     .c 12 (.f 40) [.t 11],
     .r 5 (.mv (.t 12))])
  (.seq (.seq (.reg [.r 13 (.mv (.t 5)),
     .r 14 (.len (.t 13)),
     .r 15 (.bin .gtr (.t 14) (.c (.d (.int .i64 2000))))])
  (.cond (.t 15)
    (.seq (.reg [.r 2 (.mv (.c (.nils))),
       .r 3 (.mv (.c (.d (.int .i64 2))))])
    .ret)
    .skip))
  (.seq (.reg [.r 16 (.mv (.t 5)),
     .r 2 (.mv (.t 16)),
     .r 3 (.mv (.c (.d (.int .i64 0))))])
  .ret)))))
theorem fit_reply_Segments : fits Tryd.prog 10 Tryd.f10 sc_reply_Segments [.t 2, .t 3] 1 = true := by kernel_rfl

def sc_interchangeref7_Segments_R15 : SC := (.reg [.r 68 (.mv (.t 5)),
       .r 69 (.mv (.t 10)),
       .c 70 (.f 41) [.c (.d (.str [65, 75, 77])), .t 69],
       .r 71 (.bslice 2 [.t 70]),
       .w 72 (.app 87 2 (.t 68) (.t 71)),
       .r 5 (.mv (.t 72))])
def sc_interchangeref7_Segments_L1 : SC :=
  (.seq (.seq (.reg [.r 73 (.mv (.t 11)),
     .r 74 (.fld 3 (.t 9)),
     .o 75 (.ld1 (.t 74)),
     .r 76 (.len (.t 75)),
     .r 77 (.bin .lss (.t 73) (.t 76))])
  (.cond (.t 77)
    .skip
    (.exit 4)))
  (.seq (.block 5 (.reg [.r 80 (.mv (.t 5)),
       .r 81 (.fld 3 (.t 9)),
       .o 82 (.ld1 (.t 81)),
       .r 83 (.mv (.t 11)),
       .r 84 (.idx 6 (.t 82) (.t 83)),
       .o 85 (.ldA 6 (.t 84)),
       .c 86 (.f 43) [.t 85],
       .r 87 (.bslice 2 [.t 86]),
       .w 88 (.app 87 2 (.t 80) (.t 87)),
       .r 5 (.mv (.t 88))]))
  (.reg [.r 78 (.mv (.t 11)),
     .r 79 (.bin .add (.t 78) (.c (.d (.int .i64 1)))),
     .r 11 (.mv (.t 79))])))
def sc_interchangeref7_Segments_B1 : SC := .block 4 (.loop sc_interchangeref7_Segments_L1)
def sc_interchangeref7_Segments_L2 : SC :=
  (.seq (.seq (.reg [.r 89 (.mv (.t 12)),
     .r 90 (.fld 4 (.t 9)),
     .o 91 (.ld1 (.t 90)),
     .r 92 (.len (.t 91)),
     .r 93 (.bin .lss (.t 89) (.t 92))])
  (.cond (.t 93)
    .skip
    (.exit 6)))
  (.seq (.block 7 (.reg [.r 96 (.mv (.t 5)),
       .r 97 (.fld 4 (.t 9)),
       .o 98 (.ld1 (.t 97)),
       .r 99 (.mv (.t 12)),
       .r 100 (.idx 1 (.t 98) (.t 99)),
       .o 101 (.ld1 (.t 100)),
       .r 102 (.bslice 1 [.t 101]),
       .r 103 (.bslice 1 [.t 102]),
       .c 104 (.f 41) [.c (.d (.str [65, 75, 82])), .t 103],
       .r 105 (.bslice 2 [.t 104]),
       .w 106 (.app 87 2 (.t 96) (.t 105)),
       .r 5 (.mv (.t 106))]))
  (.reg [.r 94 (.mv (.t 12)),
     .r 95 (.bin .add (.t 94) (.c (.d (.int .i64 1)))),
     .r 12 (.mv (.t 95))])))
def sc_interchangeref7_Segments_B2 : SC := .block 6 (.loop sc_interchangeref7_Segments_L2)
def sc_interchangeref7_Segments_L3 : SC :=
  (.seq (.reg [.r 51 (.bin .lss (.t 50) (.t 49))])
  (.seq (.cond (.t 51)
    .skip
    (.exit 2))
  (.seq (.block 3 (.seq (.reg [.r 52 (.idx 5 (.t 48) (.t 50)),
       .o 53 (.ldA 5 (.t 52)),
       .w 9 (.boxM (.c (.agg [.d (.str []), .d (.int .i64 0), .d (.bool false), .nils, .nils]))),
       .w 0 (.st 5 (.t 9) (.t 53))])
    (.seq (.regD [.r 54 (.fld 0 (.t 9)),
       .r 55 (.ld1 (.t 54)),
       .r 56 (.bslice 1 [.t 55]),
       .r 57 (.fld 1 (.t 9)),
       .r 58 (.ld1 (.t 57)),
       .c 59 (.f 42) [.t 58],
       .r 60 (.bslice 1 [.t 59]),
       .r 61 (.bslice 1 [.t 56, .t 60]),
       .r 10 (.mv (.t 61))])
    (.seq (.seq (.reg [.r 62 (.fld 2 (.t 9)),
       .o 63 (.ld1 (.t 62))])
    (.cond (.t 63)
      (.reg [.r 64 (.mv (.t 10)),
         .r 65 (.bslice 1 [.c (.d (.str [49]))]),
         .r 66 (.bslice 1 [.t 65]),
         .w 67 (.app 40 1 (.t 64) (.t 66)),
         .r 10 (.mv (.t 67))])
      .skip))
    (.seq sc_interchangeref7_Segments_R15
    (.seq (.seq (.reg [.r 11 (.mv (.c (.d (.int .i64 0))))])
    sc_interchangeref7_Segments_B1)
    (.seq (.reg [.r 12 (.mv (.c (.d (.int .i64 0))))])
    sc_interchangeref7_Segments_B2)))))))
  (.reg [.r 107 (.bin .add (.t 50) (.c (.d (.int .i64 1)))),
     .r 50 (.mv (.t 107))]))))
def sc_interchangeref7_Segments_B3 : SC := .block 2 (.loop sc_interchangeref7_Segments_L3)
def sc_interchangeref7_Segments_L4 : SC :=
  (.seq (.reg [.r 32 (.bin .lss (.t 31) (.t 30))])
  (.seq (.cond (.t 32)
    .skip
    (.exit 0))
  (.seq (.block 1 (.seq (.reg [.r 33 (.idx 3 (.t 29) (.t 31)),
       .o 34 (.ldA 3 (.t 33)),
       .w 7 (.boxM (.c (.agg [.d (.str []), .d (.int .i64 0), .nils]))),
       .w 0 (.st 3 (.t 7) (.t 34))])
    (.seq (.regE [.r 35 (.mv (.t 5)),
       .r 36 (.fld 0 (.t 7)),
       .r 37 (.ld1 (.t 36)),
       .r 38 (.bslice 1 [.t 37]),
       .r 39 (.fld 1 (.t 7)),
       .r 40 (.ld1 (.t 39)),
       .c 41 (.f 42) [.t 40],
       .r 42 (.bslice 1 [.t 41]),
       .r 43 (.bslice 1 [.t 38, .t 42]),
       .c 44 (.f 41) [.c (.d (.str [65, 75, 71])), .t 43],
       .r 45 (.bslice 2 [.t 44]),
       .x 46 (.app 87 2 (.t 35) (.t 45)) [],
       .r 5 (.mv (.t 46))])
    (.seq (.reg [.r 47 (.fld 2 (.t 7)),
       .o 48 (.ld1 (.t 47)),
       .r 49 (.len (.t 48)),
       .r 50 (.mv (.c (.d (.int .i64 0))))])
    sc_interchangeref7_Segments_B3))))
  (.reg [.r 108 (.bin .add (.t 31) (.c (.d (.int .i64 1)))),
     .r 31 (.mv (.t 108))]))))
def sc_interchangeref7_Segments_B4 : SC := .block 0 (.loop sc_interchangeref7_Segments_L4)
/-- interchange/interchangeref7.Segments -/
def sc_interchangeref7_Segments : SC :=
  (.seq (.reg [.r 1 (.boxI (.t 0)),
     .r 2 (.mv (.c (.nils))),
     .r 3 (.mv (.c (.d (.int .i64 0))))])
  (.seq (.seq (.reg [.o 13 (.ldA 3 (.t 1)),
     .c 14 (.f 13) [.t 13],
     .r 4 (.mv (.t 14))])
  (.seq (.reg [.r 15 (.mv (.t 4)),
     .r 16 (.bin .neq (.t 15) (.c (.d (.int .i64 0))))])
  (.cond (.t 16)
    (.seq (.reg [.r 17 (.mv (.t 4)),
       .r 2 (.mv (.c (.nils))),
       .r 3 (.mv (.t 17))])
    .ret)
    .skip)))
  (.seq (.regE [.r 18 (.fld 0 (.t 1)),
     .r 19 (.ld1 (.t 18)),
     .r 20 (.bslice 1 [.t 19]),
     .r 21 (.fld 1 (.t 1)),
     .r 22 (.ld1 (.t 21)),
     .c 23 (.f 42) [.t 22],
     .r 24 (.bslice 1 [.t 23]),
     .r 25 (.bslice 1 [.t 20, .t 24]),
     .c 26 (.f 41) [.c (.d (.str [65, 75, 73])), .t 25],
     .x 27 (.slM 87 2 [.t 26]) [],
     .r 5 (.mv (.t 27))])
  (.seq (.seq (.reg [.r 28 (.fld 2 (.t 1)),
     .o 29 (.ld1 (.t 28)),
     .r 30 (.len (.t 29)),
     .r 31 (.mv (.c (.d (.int .i64 0))))])
  sc_interchangeref7_Segments_B4)
  (.seq (.seq (.reg [.r 109 (.mv (.t 5)),
     .r 110 (.len (.t 109)),
     .r 111 (.bin .gtr (.t 110) (.c (.d (.int .i64 2000))))])
  (.cond (.t 111)
    (.seq (.reg [.r 2 (.mv (.c (.nils))),
       .r 3 (.mv (.c (.d (.int .i64 2))))])
    .ret)
    .skip))
  (.seq (.reg [.r 112 (.mv (.t 5)),
     .r 2 (.mv (.t 112)),
     .r 3 (.mv (.c (.d (.int .i64 0))))])
  .ret))))))
theorem fit_interchangeref7_Segments : fits Tryd.prog 11 Tryd.f11 sc_interchangeref7_Segments [.t 2, .t 3] 1 = true := by kernel_rfl

set_option maxRecDepth 100000 in
set_option maxHeartbeats 40000000 in
noncomputable def sims_G8_2_0 : (∀ (x0 : Tapi_Reply), {m : Option ((List Tapi_Segment) × Int) // ∀ r, m = some r → PureSpec Tryd.prog 10 [.agg (rTapi_Reply x0)] (.tup [.slice (List.map rTapi_Segment r.1), .int .i64 r.2])}) × (∀ (x0 : Tapi_Reply), {m : Option ((List Tapi_Segment) × Int) // ∀ r, m = some r → PureSpec Tryd.prog 11 [.agg (rTapi_Reply x0)] (.tup [.slice (List.map rTapi_Segment r.1), .int .i64 r.2])}) := by
  refine ⟨?g0, ?g1⟩
  case' g0 => (intro x0; apply Subtype.mk; intro r hm; apply pure_walk Tryd.func10 fit_reply_Segments; unfold sc_reply_Segments)
  case' g1 => (intro x0; apply Subtype.mk; intro r hm; apply pure_walk Tryd.func11 fit_interchangeref7_Segments; unfold sc_interchangeref7_Segments)
  all_goals (repeat' (first | ((with_reducible apply W_frzS (x := sc_interchangeref7_Segments_R15) 10); (focus (simp only [push_cast, seval]; (try rfl); done)); (focus (simp only [push_cast, seval]; (try rfl); done)); (focus (simp only [push_cast, seval]; (try rfl); done)); unfold sc_interchangeref7_Segments_R15) | ((with_reducible apply W_same sc_interchangeref7_Segments_R15); unfold sc_interchangeref7_Segments_R15) | with_reducible refine W_seq ?_ | with_reducible refine W_reg ?_ | with_reducible refine W_regD ?_ | with_reducible refine W_regE ?_ | with_reducible refine W_block ?_ | with_reducible refine W_skip ?_ | with_reducible refine W_ret ?_ | with_reducible refine W_exit ?_ | with_reducible refine O_nil ?_ | with_reducible refine K_seq ?_ | with_reducible refine K_seqE ?_ | with_reducible refine K_seqR ?_ | with_reducible refine K_block ?_ | with_reducible refine K_blockR ?_ | with_reducible refine K_blockE ?_ | ((with_reducible apply K_blockN); decide) | with_reducible refine O_o2r ?_ | ((with_reducible apply O_idxr hm); (iterate 2 (simp only [push_cast, seval]; rfl)); (intro _; rfl); intro e hm) | ((with_reducible apply O_idxVr hm); (iterate 3 (simp only [push_cast, seval]; rfl)); intro e hm) | ((with_reducible apply O_idxLr hm (row := rowS)); (iterate 2 (simp only [push_cast, seval]; rfl)); (focus ((repeat' (first | rfl | (with_reducible first | apply fT_Tapi_Element | apply fT_Tapi_Flaw | apply fT_Tapi_GroupReply | apply fT_Tapi_MessageReply | apply fT_Tapi_Reply | apply fT_Tapi_Segment | apply fT_Tapi_Spot | apply f_optN | apply f_optS | apply f_some | apply f_tup | apply f_agg | apply f_ptr | apply f_fn | apply dv_slice | apply sv_d | apply f_cons | apply fold_nil | apply fold_cons | apply fold_app | apply f_rowI | apply f_rowY | apply f_rowS | apply f_rowB | apply f_rowL) | (with_reducible apply f_byte; decide))); done)); (simp only [push_cast, seval]; rfl); (intro _; rfl); intro e hm) | ((with_reducible apply O_idxLr hm (row := (rowL rowS))); (iterate 2 (simp only [push_cast, seval]; rfl)); (focus ((repeat' (first | rfl | (with_reducible first | apply fT_Tapi_Element | apply fT_Tapi_Flaw | apply fT_Tapi_GroupReply | apply fT_Tapi_MessageReply | apply fT_Tapi_Reply | apply fT_Tapi_Segment | apply fT_Tapi_Spot | apply f_optN | apply f_optS | apply f_some | apply f_tup | apply f_agg | apply f_ptr | apply f_fn | apply dv_slice | apply sv_d | apply f_cons | apply fold_nil | apply fold_cons | apply fold_app | apply f_rowI | apply f_rowY | apply f_rowS | apply f_rowB | apply f_rowL) | (with_reducible apply f_byte; decide))); done)); (simp only [push_cast, seval]; rfl); (intro _; rfl); intro e hm) | ((with_reducible apply O_idxLr hm (row := rTapi_Segment)); (iterate 2 (simp only [push_cast, seval]; rfl)); (focus ((repeat' (first | rfl | (with_reducible first | apply fT_Tapi_Element | apply fT_Tapi_Flaw | apply fT_Tapi_GroupReply | apply fT_Tapi_MessageReply | apply fT_Tapi_Reply | apply fT_Tapi_Segment | apply fT_Tapi_Spot | apply f_optN | apply f_optS | apply f_some | apply f_tup | apply f_agg | apply f_ptr | apply f_fn | apply dv_slice | apply sv_d | apply f_cons | apply fold_nil | apply fold_cons | apply fold_app | apply f_rowI | apply f_rowY | apply f_rowS | apply f_rowB | apply f_rowL) | (with_reducible apply f_byte; decide))); done)); (simp only [push_cast, seval]; rfl); (intro _; rfl); intro e hm) | ((with_reducible apply O_r); (simp only [push_cast, seval]; rfl); (first | exact trivial | omega)) | ((with_reducible apply O_ldV1r hm); (iterate 2 (simp only [push_cast, seval]; rfl)); (intro _; rfl); intro e hm) | ((with_reducible apply O_ldAVr hm); (iterate 2 (simp only [push_cast, seval]; rfl)); (intro _; rfl); intro e hm) | ((with_reducible apply O_strr hm); (iterate 2 (simp only [push_cast, seval]; rfl)); intro hm) | ((with_reducible apply W_condT); (focus (simp only [push_cast, seval]; done))) | ((with_reducible apply W_condF); (focus (simp only [push_cast, seval]; done))) | ((with_reducible apply O_cF hm); (simp only [push_cast, seval]; rfl); (first | apply spec_reply_CheckReply _ | apply spec_reply_segments _ | apply spec_interchangeref7_CheckReply _ | apply spec_strconv_Itoa _ | apply spec_interchangeref7_segment _ _ | apply spec_interchangeref7_flawSegment _); (any_goals ((repeat' (first | rfl | (with_reducible first | apply fT_Tapi_Element | apply fT_Tapi_Flaw | apply fT_Tapi_GroupReply | apply fT_Tapi_MessageReply | apply fT_Tapi_Reply | apply fT_Tapi_Segment | apply fT_Tapi_Spot | apply f_optN | apply f_optS | apply f_some | apply f_tup | apply f_agg | apply f_ptr | apply f_fn | apply dv_slice | apply sv_d | apply f_cons | apply fold_nil | apply fold_cons | apply fold_app | apply f_rowI | apply f_rowY | apply f_rowS | apply f_rowB | apply f_rowL) | (with_reducible apply f_byte; decide))); done)); intro x hm) | ((with_reducible apply O_clS hm); (simp only [push_cast, seval]; rfl); (focus (first | exact spec_reply_CheckReply _ | exact spec_reply_segments _ | exact spec_interchangeref7_CheckReply _ | exact spec_strconv_Itoa _ | exact spec_interchangeref7_segment _ _ | exact spec_interchangeref7_flawSegment _)); (intro _; rfl); intro x hm) | ((with_reducible apply O_w); (simp only [push_cast, seval]; rfl); (first | exact trivial | omega)) | ((with_reducible apply O_appL hm (row := rowS)); (iterate 5 (simp only [push_cast, seval]; rfl)); (focus ((repeat' (first | rfl | (with_reducible first | apply fT_Tapi_Element | apply fT_Tapi_Flaw | apply fT_Tapi_GroupReply | apply fT_Tapi_MessageReply | apply fT_Tapi_Reply | apply fT_Tapi_Segment | apply fT_Tapi_Spot | apply f_optN | apply f_optS | apply f_some | apply f_tup | apply f_agg | apply f_ptr | apply f_fn | apply dv_slice | apply sv_d | apply f_cons | apply fold_nil | apply fold_cons | apply fold_app | apply f_rowI | apply f_rowY | apply f_rowS | apply f_rowB | apply f_rowL) | (with_reducible apply f_byte; decide))); done)); (focus ((repeat' (first | rfl | (with_reducible first | apply fT_Tapi_Element | apply fT_Tapi_Flaw | apply fT_Tapi_GroupReply | apply fT_Tapi_MessageReply | apply fT_Tapi_Reply | apply fT_Tapi_Segment | apply fT_Tapi_Spot | apply f_optN | apply f_optS | apply f_some | apply f_tup | apply f_agg | apply f_ptr | apply f_fn | apply dv_slice | apply sv_d | apply f_cons | apply fold_nil | apply fold_cons | apply fold_app | apply f_rowI | apply f_rowY | apply f_rowS | apply f_rowB | apply f_rowL) | (with_reducible apply f_byte; decide))); done)); rfl; decide; (intro _; rfl); intro hm) | ((with_reducible apply O_appL hm (row := (rowL rowS))); (iterate 5 (simp only [push_cast, seval]; rfl)); (focus ((repeat' (first | rfl | (with_reducible first | apply fT_Tapi_Element | apply fT_Tapi_Flaw | apply fT_Tapi_GroupReply | apply fT_Tapi_MessageReply | apply fT_Tapi_Reply | apply fT_Tapi_Segment | apply fT_Tapi_Spot | apply f_optN | apply f_optS | apply f_some | apply f_tup | apply f_agg | apply f_ptr | apply f_fn | apply dv_slice | apply sv_d | apply f_cons | apply fold_nil | apply fold_cons | apply fold_app | apply f_rowI | apply f_rowY | apply f_rowS | apply f_rowB | apply f_rowL) | (with_reducible apply f_byte; decide))); done)); (focus ((repeat' (first | rfl | (with_reducible first | apply fT_Tapi_Element | apply fT_Tapi_Flaw | apply fT_Tapi_GroupReply | apply fT_Tapi_MessageReply | apply fT_Tapi_Reply | apply fT_Tapi_Segment | apply fT_Tapi_Spot | apply f_optN | apply f_optS | apply f_some | apply f_tup | apply f_agg | apply f_ptr | apply f_fn | apply dv_slice | apply sv_d | apply f_cons | apply fold_nil | apply fold_cons | apply fold_app | apply f_rowI | apply f_rowY | apply f_rowS | apply f_rowB | apply f_rowL) | (with_reducible apply f_byte; decide))); done)); rfl; decide; (intro _; rfl); intro hm) | ((with_reducible apply O_appL hm (row := rTapi_Segment)); (iterate 5 (simp only [push_cast, seval]; rfl)); (focus ((repeat' (first | rfl | (with_reducible first | apply fT_Tapi_Element | apply fT_Tapi_Flaw | apply fT_Tapi_GroupReply | apply fT_Tapi_MessageReply | apply fT_Tapi_Reply | apply fT_Tapi_Segment | apply fT_Tapi_Spot | apply f_optN | apply f_optS | apply f_some | apply f_tup | apply f_agg | apply f_ptr | apply f_fn | apply dv_slice | apply sv_d | apply f_cons | apply fold_nil | apply fold_cons | apply fold_app | apply f_rowI | apply f_rowY | apply f_rowS | apply f_rowB | apply f_rowL) | (with_reducible apply f_byte; decide))); done)); (focus ((repeat' (first | rfl | (with_reducible first | apply fT_Tapi_Element | apply fT_Tapi_Flaw | apply fT_Tapi_GroupReply | apply fT_Tapi_MessageReply | apply fT_Tapi_Reply | apply fT_Tapi_Segment | apply fT_Tapi_Spot | apply f_optN | apply f_optS | apply f_some | apply f_tup | apply f_agg | apply f_ptr | apply f_fn | apply dv_slice | apply sv_d | apply f_cons | apply fold_nil | apply fold_cons | apply fold_app | apply f_rowI | apply f_rowY | apply f_rowS | apply f_rowB | apply f_rowL) | (with_reducible apply f_byte; decide))); done)); rfl; decide; (intro _; rfl); intro hm) | ((with_reducible apply O_appV hm); (iterate 4 (simp only [push_cast, seval]; rfl)); (focus ((repeat' (first | rfl | (with_reducible first | apply fT_Tapi_Element | apply fT_Tapi_Flaw | apply fT_Tapi_GroupReply | apply fT_Tapi_MessageReply | apply fT_Tapi_Reply | apply fT_Tapi_Segment | apply fT_Tapi_Spot | apply f_optN | apply f_optS | apply f_some | apply f_tup | apply f_agg | apply f_ptr | apply f_fn | apply dv_slice | apply sv_d | apply f_cons | apply fold_nil | apply fold_cons | apply fold_app | apply f_rowI | apply f_rowY | apply f_rowS | apply f_rowB | apply f_rowL) | (with_reducible apply f_byte; decide))); done)); decide; (intro _; rfl); intro hm) | ((with_reducible apply O_appN hm); (focus (simp only [push_cast, seval]; done)); (iterate 2 (simp only [push_cast, seval]; rfl)); (focus ((repeat' (first | rfl | (with_reducible first | apply fT_Tapi_Element | apply fT_Tapi_Flaw | apply fT_Tapi_GroupReply | apply fT_Tapi_MessageReply | apply fT_Tapi_Reply | apply fT_Tapi_Segment | apply fT_Tapi_Spot | apply f_optN | apply f_optS | apply f_some | apply f_tup | apply f_agg | apply f_ptr | apply f_fn | apply dv_slice | apply sv_d | apply f_cons | apply fold_nil | apply fold_cons | apply fold_app | apply f_rowI | apply f_rowY | apply f_rowS | apply f_rowB | apply f_rowL) | (with_reducible apply f_byte; decide))); done)); decide; (intro _; rfl); intro hm) | ((with_reducible apply O_appW2 hm); (iterate 4 (simp only [push_cast, seval]; rfl)); rfl; intro hm) | ((with_reducible apply O_stVA hm); (iterate 4 (simp only [push_cast, seval]; rfl)); (focus ((repeat' (first | rfl | (with_reducible first | apply fT_Tapi_Element | apply fT_Tapi_Flaw | apply fT_Tapi_GroupReply | apply fT_Tapi_MessageReply | apply fT_Tapi_Reply | apply fT_Tapi_Segment | apply fT_Tapi_Spot | apply f_optN | apply f_optS | apply f_some | apply f_tup | apply f_agg | apply f_ptr | apply f_fn | apply dv_slice | apply sv_d | apply f_cons | apply fold_nil | apply fold_cons | apply fold_app | apply f_rowI | apply f_rowY | apply f_rowS | apply f_rowB | apply f_rowL) | (with_reducible apply f_byte; decide))); done)); decide; (intro _; rfl); intro e hm) | ((with_reducible apply O_stV hm); (iterate 3 (simp only [push_cast, seval]; rfl)); rfl; (intro _; rfl); rfl; (focus (intro a; simp only [push_cast, seval]; rfl)); (focus (intro a; (repeat' (first | rfl | with_reducible apply eT_Tapi_Element | with_reducible apply eT_Tapi_Flaw | with_reducible apply eT_Tapi_GroupReply | with_reducible apply eT_Tapi_MessageReply | with_reducible apply eT_Tapi_Reply | with_reducible apply eT_Tapi_Segment | with_reducible apply eT_Tapi_Spot)); done)); intro e hm) | ((with_reducible apply O_stVAX hm); (iterate 3 (simp only [push_cast, seval]; rfl)); (focus ((repeat' (first | rfl | (with_reducible first | apply fT_Tapi_Element | apply fT_Tapi_Flaw | apply fT_Tapi_GroupReply | apply fT_Tapi_MessageReply | apply fT_Tapi_Reply | apply fT_Tapi_Segment | apply fT_Tapi_Spot | apply f_optN | apply f_optS | apply f_some | apply f_tup | apply f_agg | apply f_ptr | apply f_fn | apply dv_slice | apply sv_d | apply f_cons | apply fold_nil | apply fold_cons | apply fold_app | apply f_rowI | apply f_rowY | apply f_rowS | apply f_rowB | apply f_rowL) | (with_reducible apply f_byte; decide))); done)); (intro _; rfl); (focus ((repeat' (first | exact Rer_nil | ((with_reducible apply Rer_cons); (focus (simp only [push_cast, seval]; rfl)); (focus (first | exact trivial | omega)); (focus (simp only [push_cast, seval]))))); done)); intro e hm) | ((with_reducible apply O_appVX hm); (iterate 2 (simp only [push_cast, seval]; rfl)); (focus ((repeat' (first | rfl | (with_reducible first | apply eR_nil | apply eR_app | apply eR_cons | apply eT_Tapi_Element | apply eT_Tapi_Flaw | apply eT_Tapi_GroupReply | apply eT_Tapi_MessageReply | apply eT_Tapi_Reply | apply eT_Tapi_Segment | apply eT_Tapi_Spot | apply eR_I | apply eR_Y | apply eR_S | apply eR_B) | (with_reducible apply sv_d; (focus ((repeat' (first | rfl | (with_reducible first | apply fT_Tapi_Element | apply fT_Tapi_Flaw | apply fT_Tapi_GroupReply | apply fT_Tapi_MessageReply | apply fT_Tapi_Reply | apply fT_Tapi_Segment | apply fT_Tapi_Spot | apply f_optN | apply f_optS | apply f_some | apply f_tup | apply f_agg | apply f_ptr | apply f_fn | apply dv_slice | apply sv_d | apply f_cons | apply fold_nil | apply fold_cons | apply fold_app | apply f_rowI | apply f_rowY | apply f_rowS | apply f_rowB | apply f_rowL) | (with_reducible apply f_byte; decide))); done))))); done)); (simp only [push_cast, seval]; rfl); (focus ((repeat' (first | rfl | (with_reducible first | apply eR_nil | apply eR_app | apply eR_cons | apply eT_Tapi_Element | apply eT_Tapi_Flaw | apply eT_Tapi_GroupReply | apply eT_Tapi_MessageReply | apply eT_Tapi_Reply | apply eT_Tapi_Segment | apply eT_Tapi_Spot | apply eR_I | apply eR_Y | apply eR_S | apply eR_B) | (with_reducible apply sv_d; (focus ((repeat' (first | rfl | (with_reducible first | apply fT_Tapi_Element | apply fT_Tapi_Flaw | apply fT_Tapi_GroupReply | apply fT_Tapi_MessageReply | apply fT_Tapi_Reply | apply fT_Tapi_Segment | apply fT_Tapi_Spot | apply f_optN | apply f_optS | apply f_some | apply f_tup | apply f_agg | apply f_ptr | apply f_fn | apply dv_slice | apply sv_d | apply f_cons | apply fold_nil | apply fold_cons | apply fold_app | apply f_rowI | apply f_rowY | apply f_rowS | apply f_rowB | apply f_rowL) | (with_reducible apply f_byte; decide))); done))))); done)); (intro _; rfl); (focus ((repeat' (first | exact Rer_nil | ((with_reducible apply Rer_cons); (focus (simp only [push_cast, seval]; rfl)); (focus (first | exact trivial | omega)); (focus (simp only [push_cast, seval]))))); done)); intro hm) | ((with_reducible apply O_appX2 hm); (iterate 4 (simp only [push_cast, seval]; rfl)); rfl; (focus ((repeat' (first | exact Rer_nil | ((with_reducible apply Rer_cons); (focus (simp only [push_cast, seval]; rfl)); (focus (first | exact trivial | omega)); (focus (simp only [push_cast, seval]))))); done)); intro hm) | ((with_reducible apply O_appNX hm); (focus (simp only [push_cast, seval]; done)); (iterate 2 (simp only [push_cast, seval]; rfl)); rfl; (focus ((repeat' (first | exact Rer_nil | ((with_reducible apply Rer_cons); (focus (simp only [push_cast, seval]; rfl)); (focus (first | exact trivial | omega)); (focus (simp only [push_cast, seval]))))); done)); intro hm) | ((with_reducible apply O_stVX hm); (iterate 3 (simp only [push_cast, seval]; rfl)); rfl; (intro _; rfl); rfl; (focus (intro a; simp only [push_cast, seval]; rfl)); (focus (intro a; (repeat' (first | rfl | with_reducible apply eT_Tapi_Element | with_reducible apply eT_Tapi_Flaw | with_reducible apply eT_Tapi_GroupReply | with_reducible apply eT_Tapi_MessageReply | with_reducible apply eT_Tapi_Reply | with_reducible apply eT_Tapi_Segment | with_reducible apply eT_Tapi_Spot)); done)); (focus (intro _; (repeat' (first | exact Rer_nil | ((with_reducible apply Rer_cons); (focus (simp only [push_cast, seval]; rfl)); (focus (first | exact trivial | omega)); (focus (simp only [push_cast, seval]))))); done)); intro e hm) | ((with_reducible apply O_x); (simp only [push_cast, seval]; rfl); (first | exact trivial | omega); (focus ((repeat' (first | exact Rer_nil | ((with_reducible apply Rer_cons); (focus (simp only [push_cast, seval]; rfl)); (focus (first | exact trivial | omega)); (focus (simp only [push_cast, seval]))))); done))) | ((with_reducible apply S_condB hm); (simp only [push_cast, seval]; rfl); intro hm; rotate_left; intro hm) | ((with_reducible apply K_end2 hm); (focus (simp only [resOf, resL, RV.get, push_cast, seval]; rfl)); (focus (first | (dsimp only; done) | (dsimp only; rfl) | rfl)); (focus ((repeat' (first | rfl | (with_reducible first | apply fT_Tapi_Element | apply fT_Tapi_Flaw | apply fT_Tapi_GroupReply | apply fT_Tapi_MessageReply | apply fT_Tapi_Reply | apply fT_Tapi_Segment | apply fT_Tapi_Spot | apply f_optN | apply f_optS | apply f_some | apply f_tup | apply f_agg | apply f_ptr | apply f_fn | apply dv_slice | apply sv_d | apply f_cons | apply fold_nil | apply fold_cons | apply fold_app | apply f_rowI | apply f_rowY | apply f_rowS | apply f_rowB | apply f_rowL) | (with_reducible apply f_byte; decide))); done))) | ((with_reducible apply K_leave hm); intro r hm) | ((with_reducible apply K_leaveR hm); intro r hm) | ((apply S_loopY (b := 4) (X := sc_interchangeref7_Segments_B1) (x := sc_interchangeref7_Segments_L1) rfl (fun (c : Ch × SV × SV × SV × SV × SV × SV) (s : (List Tapi_Segment) × Int) => st [(5, .vec 27), (9, .ref 9 0), (11, .d (.int .i64 s.2)), (29, c.2.1), (30, c.2.2.1), (31, c.2.2.2.1), (48, c.2.2.2.2.1), (49, c.2.2.2.2.2.1), (50, c.2.2.2.2.2.2)] [(27, .vec 87 2 (vrow rTapi_Segment s.1)), (9, c.1)]) (c := (_, _, _, _, _, _, _)) (s0 := (_, _)) hm); (focus (first | (dsimp only; done) | (dsimp only; rfl) | rfl)); (with_reducible refine Then.mk ?_ ?_)) | ((apply S_loopY (b := 6) (X := sc_interchangeref7_Segments_B2) (x := sc_interchangeref7_Segments_L2) rfl (fun (c : Ch × SV × SV × SV × SV × SV × SV) (s : (List Tapi_Segment) × Int) => st [(5, .vec 27), (9, .ref 9 0), (12, .d (.int .i64 s.2)), (29, c.2.1), (30, c.2.2.1), (31, c.2.2.2.1), (48, c.2.2.2.2.1), (49, c.2.2.2.2.2.1), (50, c.2.2.2.2.2.2)] [(27, .vec 87 2 (vrow rTapi_Segment s.1)), (9, c.1)]) (c := (_, _, _, _, _, _, _)) (s0 := (_, _)) hm); (focus (first | (dsimp only; done) | (dsimp only; rfl) | rfl)); (with_reducible refine Then.mk ?_ ?_)) | ((apply S_loopY (b := 2) (X := sc_interchangeref7_Segments_B3) (x := sc_interchangeref7_Segments_L3) rfl (fun (c : SV × SV × SV × SV × SV) (s : (List Tapi_Segment) × Int) => st [(5, .vec 27), (29, c.1), (30, c.2.1), (31, c.2.2.1), (48, c.2.2.2.1), (49, c.2.2.2.2), (50, .d (.int .i64 s.2))] [(27, .vec 87 2 (vrow rTapi_Segment s.1))]) (c := (_, _, _, _, _)) (s0 := (_, _)) hm); (focus (first | (dsimp only; done) | (dsimp only; rfl) | rfl)); (with_reducible refine Then.mk ?_ ?_)) | ((apply S_loopY (b := 0) (X := sc_interchangeref7_Segments_B4) (x := sc_interchangeref7_Segments_L4) rfl (fun (c : SV × SV) (s : (List Tapi_Segment) × Int) => st [(5, .vec 27), (29, c.1), (30, c.2), (31, .d (.int .i64 s.2))] [(27, .vec 87 2 (vrow rTapi_Segment s.1))]) (c := (_, _)) (s0 := (_, _)) hm); (focus (first | (dsimp only; done) | (dsimp only; rfl) | rfl)); (with_reducible refine Then.mk ?_ ?_)) | (((with_reducible first | apply O_slM | apply O_slMx); (focus (simp only [push_cast, seval]; (try rfl); done)); (focus (simp only [push_cast, seval]; rfl)); (try (focus (simp only [push_cast, seval]; (try rfl); done))))) | ((apply K_next (s' := (_, _)) hm); (focus (first | (dsimp only; done) | (dsimp only; rfl) | rfl))) | ((apply K_brk (s' := (_, _)) hm); (focus (first | (dsimp only; done) | (dsimp only; rfl) | rfl))) | (((with_reducible apply K_brkN hm); (focus decide); intro r hm)) | (((with_reducible apply K_brkR hm); intro r hm)) | (((with_reducible apply LoopB.of); (focus (first | (dsimp only; done) | (dsimp only; rfl) | rfl)); (focus ((intro _; repeat' (first | with_reducible exact impC_end | with_reducible exact impC_endF | with_reducible refine impC_seq ?_ | with_reducible refine impC_block ?_ | ((with_reducible refine impC_rnd ?_); intro _) | ((with_reducible refine impC_brk ?_); intro _))))); (intro s o hm; first | unfold sc_interchangeref7_Segments_L1 | unfold sc_interchangeref7_Segments_L2 | unfold sc_interchangeref7_Segments_L3 | unfold sc_interchangeref7_Segments_L4); rotate_left; intro s hm)) | (((apply imp_stT; (repeat' (first | with_reducible exact keepT_nil | with_reducible exact keepC_nil | with_reducible apply keepT_cons | with_reducible apply keepC_cons | ((with_reducible apply svle_eq); (focus (first | (simp only [push_cast, seval]; rfl) | rfl)); (focus ((repeat' (first | rfl | (with_reducible first | apply fT_Tapi_Element | apply fT_Tapi_Flaw | apply fT_Tapi_GroupReply | apply fT_Tapi_MessageReply | apply fT_Tapi_Reply | apply fT_Tapi_Segment | apply fT_Tapi_Spot | apply f_optN | apply f_optS | apply f_some | apply f_tup | apply f_agg | apply f_ptr | apply f_fn | apply dv_slice | apply sv_d | apply f_cons | apply fold_nil | apply fold_cons | apply fold_app | apply f_rowI | apply f_rowY | apply f_rowS | apply f_rowB | apply f_rowL) | (with_reducible apply f_byte; decide))); done))) | ((with_reducible apply svle_td); (focus (first | (simp only [push_cast, seval]; rfl) | rfl)); (focus (first | (simp only [push_cast, seval]; rfl) | rfl)); (focus ((repeat' (first | rfl | (with_reducible first | apply fT_Tapi_Element | apply fT_Tapi_Flaw | apply fT_Tapi_GroupReply | apply fT_Tapi_MessageReply | apply fT_Tapi_Reply | apply fT_Tapi_Segment | apply fT_Tapi_Spot | apply f_optN | apply f_optS | apply f_some | apply f_tup | apply f_agg | apply f_ptr | apply f_fn | apply dv_slice | apply sv_d | apply f_cons | apply fold_nil | apply fold_cons | apply fold_app | apply f_rowI | apply f_rowY | apply f_rowS | apply f_rowB | apply f_rowL) | (with_reducible apply f_byte; decide))); done))) | ((with_reducible apply chle_eq); (focus (first | (simp only [push_cast, seval]; rfl) | rfl)); (first | with_reducible exact chle_rfl rfl | with_reducible exact chle_map0 | with_reducible apply chle_vec | with_reducible apply chle_box)) | (with_reducible first | apply cT_Tapi_Element | apply cT_Tapi_Flaw | apply cT_Tapi_GroupReply | apply cT_Tapi_MessageReply | apply cT_Tapi_Reply | apply cT_Tapi_Segment | apply cT_Tapi_Spot | apply bcT_Tapi_Segment | apply r_shS | apply r_shI | apply r_rflO | apply r_oneO | apply r_appO | apply r_nilO | apply c_ownN | apply c_ownL | apply vc_rfl | apply vc_nil | apply vc_cons | apply r_rfl | apply r_rows | apply r_nil | apply r_app | apply r_cons | apply c_rowI | apply c_rowY | apply c_rowS | apply c_rowB | apply c_rowL))); done)))))
noncomputable def m_reply_Segments (x0 : Tapi_Reply) : Option ((List Tapi_Segment) × Int) := (sims_G8_2_0.1 x0).1
theorem spec_reply_Segments (x0 : Tapi_Reply) : ∀ r, m_reply_Segments x0 = some r → PureSpec Tryd.prog 10 [.agg (rTapi_Reply x0)] (.tup [.slice (List.map rTapi_Segment r.1), .int .i64 r.2]) := (sims_G8_2_0.1 x0).2
noncomputable def m_interchangeref7_Segments (x0 : Tapi_Reply) : Option ((List Tapi_Segment) × Int) := (sims_G8_2_0.2 x0).1
theorem spec_interchangeref7_Segments (x0 : Tapi_Reply) : ∀ r, m_interchangeref7_Segments x0 = some r → PureSpec Tryd.prog 11 [.agg (rTapi_Reply x0)] (.tup [.slice (List.map rTapi_Segment r.1), .int .i64 r.2]) := (sims_G8_2_0.2 x0).2

end Go.Proofs.YtpojlkajcobgcaaDoor

/-
  Bodies of functions and what they compute, printed by programs of mine (wip/tool/gen.py, sc.py) out of the translation; the kernel holds each against the translation.
-/
namespace Go.Proofs.YtpojlkajcobgcaaDoor
open Go.RowKit
set_option linter.unusedSimpArgs false
set_option linter.unusedVariables false
structure Tapi_BookEvent where
  fKind : Int
  fTime : Int
  fDue : Int
  fRef : List UInt8
  fVerdict : Int
  deriving DecidableEq
def rTapi_BookEvent (x : Tapi_BookEvent) : List DV := [.int .i64 x.fKind, .int .i64 x.fTime, .int .i64 x.fDue, .str x.fRef, .int .i64 x.fVerdict]
attribute [push_cast] rTapi_BookEvent
theorem fT_Tapi_BookEvent {d0 d1 d2 d3 d4 : DV} {v0 : Int} {v1 : Int} {v2 : Int} {v3 : List UInt8} {v4 : Int} (h0 : d0 = .int .i64 v0) (h1 : d1 = .int .i64 v1) (h2 : d2 = .int .i64 v2) (h3 : d3 = .str v3) (h4 : d4 = .int .i64 v4) : [d0, d1, d2, d3, d4] = rTapi_BookEvent ⟨v0, v1, v2, v3, v4⟩ := by unfold rTapi_BookEvent; simp only [h0, h1, h2, h3, h4, List.cons_append, List.nil_append, List.append_assoc, List.append_nil]
theorem cT_Tapi_BookEvent {d0 d1 d2 d3 d4 : SV} {v0 : Int} {v1 : Int} {v2 : Int} {v3 : List UInt8} {v4 : Int} (h0 : svle d0 (.d (.int .i64 v0))) (h1 : svle d1 (.d (.int .i64 v1))) (h2 : svle d2 (.d (.int .i64 v2))) (h3 : svle d3 (.d (.str v3))) (h4 : svle d4 (.d (.int .i64 v4))) : cellsle [d0, d1, d2, d3, d4] (dR (rTapi_BookEvent ⟨v0, v1, v2, v3, v4⟩)) := by have h := (cellsle.append (cellsle.consS h0 cellsle.nil) (cellsle.append (cellsle.consS h1 cellsle.nil) (cellsle.append (cellsle.consS h2 cellsle.nil) (cellsle.append (cellsle.consS h3 cellsle.nil) (cellsle.consS h4 cellsle.nil))))); simpa only [rTapi_BookEvent, dR, List.map_append, List.map_cons, List.map_nil, List.cons_append, List.nil_append, List.append_assoc, List.append_nil] using h
theorem eT_Tapi_BookEvent {d0 d1 d2 d3 d4 : SV} {v0 : Int} {v1 : Int} {v2 : Int} {v3 : List UInt8} {v4 : Int} (h0 : d0 = .d (.int .i64 v0)) (h1 : d1 = .d (.int .i64 v1)) (h2 : d2 = .d (.int .i64 v2)) (h3 : d3 = .d (.str v3)) (h4 : d4 = .d (.int .i64 v4)) : [d0, d1, d2, d3, d4] = dR (rTapi_BookEvent ⟨v0, v1, v2, v3, v4⟩) := by simp only [rTapi_BookEvent, dR, List.map_append, List.map_cons, List.map_nil, List.cons_append, List.nil_append, List.append_assoc, List.append_nil, h0, h1, h2, h3, h4]

structure Tapi_Sending where
  fRef : List UInt8
  fTime : Int
  fDue : Int
  fAnswer : Int
  fVerdict : Int
  deriving DecidableEq
def rTapi_Sending (x : Tapi_Sending) : List DV := [.str x.fRef, .int .i64 x.fTime, .int .i64 x.fDue, .int .i64 x.fAnswer, .int .i64 x.fVerdict]
attribute [push_cast] rTapi_Sending
theorem fT_Tapi_Sending {d0 d1 d2 d3 d4 : DV} {v0 : List UInt8} {v1 : Int} {v2 : Int} {v3 : Int} {v4 : Int} (h0 : d0 = .str v0) (h1 : d1 = .int .i64 v1) (h2 : d2 = .int .i64 v2) (h3 : d3 = .int .i64 v3) (h4 : d4 = .int .i64 v4) : [d0, d1, d2, d3, d4] = rTapi_Sending ⟨v0, v1, v2, v3, v4⟩ := by unfold rTapi_Sending; simp only [h0, h1, h2, h3, h4, List.cons_append, List.nil_append, List.append_assoc, List.append_nil]
theorem cT_Tapi_Sending {d0 d1 d2 d3 d4 : SV} {v0 : List UInt8} {v1 : Int} {v2 : Int} {v3 : Int} {v4 : Int} (h0 : svle d0 (.d (.str v0))) (h1 : svle d1 (.d (.int .i64 v1))) (h2 : svle d2 (.d (.int .i64 v2))) (h3 : svle d3 (.d (.int .i64 v3))) (h4 : svle d4 (.d (.int .i64 v4))) : cellsle [d0, d1, d2, d3, d4] (dR (rTapi_Sending ⟨v0, v1, v2, v3, v4⟩)) := by have h := (cellsle.append (cellsle.consS h0 cellsle.nil) (cellsle.append (cellsle.consS h1 cellsle.nil) (cellsle.append (cellsle.consS h2 cellsle.nil) (cellsle.append (cellsle.consS h3 cellsle.nil) (cellsle.consS h4 cellsle.nil))))); simpa only [rTapi_Sending, dR, List.map_append, List.map_cons, List.map_nil, List.cons_append, List.nil_append, List.append_assoc, List.append_nil] using h
theorem eT_Tapi_Sending {d0 d1 d2 d3 d4 : SV} {v0 : List UInt8} {v1 : Int} {v2 : Int} {v3 : Int} {v4 : Int} (h0 : d0 = .d (.str v0)) (h1 : d1 = .d (.int .i64 v1)) (h2 : d2 = .d (.int .i64 v2)) (h3 : d3 = .d (.int .i64 v3)) (h4 : d4 = .d (.int .i64 v4)) : [d0, d1, d2, d3, d4] = dR (rTapi_Sending ⟨v0, v1, v2, v3, v4⟩) := by simp only [rTapi_Sending, dR, List.map_append, List.map_cons, List.map_nil, List.cons_append, List.nil_append, List.append_assoc, List.append_nil, h0, h1, h2, h3, h4]

structure Tapi_Standing where
  fWaits : Int
  fLate : Int
  fTaken : Int
  fFlawed : Int
  fRefused : Int
  fOverdue : Int
  deriving DecidableEq
def rTapi_Standing (x : Tapi_Standing) : List DV := [.int .i64 x.fWaits, .int .i64 x.fLate, .int .i64 x.fTaken, .int .i64 x.fFlawed, .int .i64 x.fRefused, .int .i64 x.fOverdue]
attribute [push_cast] rTapi_Standing
theorem fT_Tapi_Standing {d0 d1 d2 d3 d4 d5 : DV} {v0 : Int} {v1 : Int} {v2 : Int} {v3 : Int} {v4 : Int} {v5 : Int} (h0 : d0 = .int .i64 v0) (h1 : d1 = .int .i64 v1) (h2 : d2 = .int .i64 v2) (h3 : d3 = .int .i64 v3) (h4 : d4 = .int .i64 v4) (h5 : d5 = .int .i64 v5) : [d0, d1, d2, d3, d4, d5] = rTapi_Standing ⟨v0, v1, v2, v3, v4, v5⟩ := by unfold rTapi_Standing; simp only [h0, h1, h2, h3, h4, h5, List.cons_append, List.nil_append, List.append_assoc, List.append_nil]
theorem cT_Tapi_Standing {d0 d1 d2 d3 d4 d5 : SV} {v0 : Int} {v1 : Int} {v2 : Int} {v3 : Int} {v4 : Int} {v5 : Int} (h0 : svle d0 (.d (.int .i64 v0))) (h1 : svle d1 (.d (.int .i64 v1))) (h2 : svle d2 (.d (.int .i64 v2))) (h3 : svle d3 (.d (.int .i64 v3))) (h4 : svle d4 (.d (.int .i64 v4))) (h5 : svle d5 (.d (.int .i64 v5))) : cellsle [d0, d1, d2, d3, d4, d5] (dR (rTapi_Standing ⟨v0, v1, v2, v3, v4, v5⟩)) := by have h := (cellsle.append (cellsle.consS h0 cellsle.nil) (cellsle.append (cellsle.consS h1 cellsle.nil) (cellsle.append (cellsle.consS h2 cellsle.nil) (cellsle.append (cellsle.consS h3 cellsle.nil) (cellsle.append (cellsle.consS h4 cellsle.nil) (cellsle.consS h5 cellsle.nil)))))); simpa only [rTapi_Standing, dR, List.map_append, List.map_cons, List.map_nil, List.cons_append, List.nil_append, List.append_assoc, List.append_nil] using h
/-- interchange/reply.stateOf -/
def sc_reply_stateOf : SC :=
  (.seq (.reg [.r 2 (.boxI (.t 0)),
     .r 4 (.mv (.c (.d (.int .i64 0))))])
  (.seq (.block 0 (.seq (.reg [.r 6 (.fld 3 (.t 2)),
       .o 7 (.ld1 (.t 6)),
       .r 8 (.bin .geq (.t 7) (.c (.d (.int .i64 0)))),
       .r 5 (.mv (.t 8))])
    (.cond (.t 5)
      (.seq (.reg [.r 4 (.mv (.c (.d (.int .i64 3))))])
      .ret)
      (.seq (.reg [.r 10 (.mv (.t 1)),
         .r 11 (.fld 2 (.t 2)),
         .o 12 (.ld1 (.t 11)),
         .r 13 (.bin .gtr (.t 10) (.t 12)),
         .r 9 (.mv (.t 13))])
      (.cond (.t 9)
        (.seq (.reg [.r 4 (.mv (.c (.d (.int .i64 2))))])
        .ret)
        .skip)))))
  (.seq (.reg [.r 4 (.mv (.c (.d (.int .i64 1))))])
  .ret)))
theorem fit_reply_stateOf : fits Tryd.prog 57 Tryd.f57 sc_reply_stateOf [.t 4] 2 = true := by kernel_rfl

set_option maxRecDepth 100000 in
set_option maxHeartbeats 40000000 in
noncomputable def sims_G9_0_0 : (∀ (x0 : Tapi_Sending) (x1 : Int), {m : Option (Int) // ∀ r, m = some r → PureSpec Tryd.prog 57 [.agg (rTapi_Sending x0), .int .i64 x1] (.int .i64 r)}) := by
  (intro x0 x1; apply Subtype.mk; intro r hm; apply pure_walk Tryd.func57 fit_reply_stateOf; unfold sc_reply_stateOf)
  repeat' (first | with_reducible refine W_seq ?_ | with_reducible refine W_reg ?_ | with_reducible refine W_block ?_ | with_reducible refine W_skip ?_ | with_reducible refine W_ret ?_ | with_reducible refine W_exit ?_ | with_reducible refine O_nil ?_ | with_reducible refine K_seq ?_ | with_reducible refine K_seqE ?_ | with_reducible refine K_seqR ?_ | with_reducible refine K_block ?_ | with_reducible refine K_blockR ?_ | with_reducible refine K_blockE ?_ | ((with_reducible apply K_blockN); decide) | with_reducible refine O_o2r ?_ | ((with_reducible apply O_r); (simp only [push_cast, seval]; rfl); (first | exact trivial | omega)) | ((with_reducible apply W_condT); (focus (simp only [push_cast, seval]; done))) | ((with_reducible apply W_condF); (focus (simp only [push_cast, seval]; done))) | ((with_reducible apply S_condB hm); (simp only [push_cast, seval]; rfl); intro hm; rotate_left; intro hm) | ((with_reducible apply K_endS hm); (focus (simp only [resOf, resL, RV.get, push_cast, seval]; rfl)); (focus ((repeat' (first | rfl | (with_reducible first | apply fT_Tapi_Sending | apply f_optN | apply f_optS | apply f_some | apply f_tup | apply f_agg | apply f_ptr | apply f_fn | apply dv_slice | apply sv_d | apply f_cons | apply fold_nil | apply fold_cons | apply fold_app | apply f_rowI | apply f_rowY | apply f_rowS | apply f_rowB | apply f_rowL) | (with_reducible apply f_byte; decide))); done))))
noncomputable def m_reply_stateOf (x0 : Tapi_Sending) (x1 : Int) : Option (Int) := (sims_G9_0_0 x0 x1).1
theorem spec_reply_stateOf (x0 : Tapi_Sending) (x1 : Int) : ∀ r, m_reply_stateOf x0 x1 = some r → PureSpec Tryd.prog 57 [.agg (rTapi_Sending x0), .int .i64 x1] (.int .i64 r) := (sims_G9_0_0 x0 x1).2

def sc_reply_book_R8 : SC :=
  (.regE [.r 22 (.mv (.t 6)),
   .r 23 (.fld 3 (.t 8)),
   .r 24 (.ld1 (.t 23)),
   .r 25 (.mv (.t 6)),
   .r 26 (.fld 3 (.t 8)),
   .r 27 (.ld1 (.t 26)),
   .r 28 (.look .str (.nils) false (.t 25) (.t 27)),
   .r 29 (.mv (.t 4)),
   .r 30 (.len (.t 29)),
   .r 31 (.bslice 1 [.t 30]),
   .x 32 (.app 3 1 (.t 28) (.t 31)) [(0, 22, .mv (.t 6)), (1, 23, .fld 3 (.t 8)), (2, 24, .ld1 (.t 23))],
   .x 0 (.mset .str (.t 22) (.t 24) (.t 32)) []])
def sc_reply_book_L1 : SC :=
  (.seq (.reg [.r 15 (.bin .lss (.t 14) (.t 13))])
  (.seq (.cond (.t 15)
    .skip
    (.exit 0))
  (.seq (.block 1 (.seq (.reg [.r 16 (.mv (.t 14)),
       .r 17 (.idx 5 (.t 12) (.t 14)),
       .o 18 (.ldA 5 (.t 17)),
       .w 8 (.boxM (.c (.agg [.d (.int .i64 0), .d (.int .i64 0), .d (.int .i64 0), .d (.str []), .d (.int .i64 0)]))),
       .r 7 (.mv (.t 16)),
       .w 0 (.st 5 (.t 8) (.t 18))])
    (.seq (.seq (.reg [.r 19 (.fld 0 (.t 8)),
       .o 20 (.ld1 (.t 19)),
       .r 21 (.bin .eql (.t 20) (.c (.d (.int .i64 1))))])
    (.cond (.t 21)
      (.seq sc_reply_book_R8
      (.seq (.reg [.r 33 (.mv (.t 4)),
         .r 34 (.fld 3 (.t 8)),
         .o 35 (.ld1 (.t 34)),
         .r 36 (.fld 1 (.t 8)),
         .o 37 (.ld1 (.t 36)),
         .r 38 (.fld 2 (.t 8)),
         .o 39 (.ld1 (.t 38)),
         .r 40 (.build [.d (.str []), .d (.int .i64 0), .d (.int .i64 0), .d (.int .i64 0), .d (.int .i64 0)] [(0, 1, .t 35), (1, 1, .t 37), (2, 1, .t 39), (3, 1, .c (.d (.int .i64 (-1))))]),
         .r 41 (.bslice 5 [.t 40]),
         .w 42 (.app 114 5 (.t 33) (.t 41)),
         .r 4 (.mv (.t 42))])
      (.exit 1)))
      .skip))
    (.seq (.reg [.r 43 (.mv (.t 6)),
       .r 44 (.fld 3 (.t 8)),
       .o 45 (.ld1 (.t 44)),
       .o 46 (.look .str (.nils) false (.t 43) (.t 45)),
       .r 9 (.mv (.t 46))])
    (.seq (.seq (.reg [.r 47 (.mv (.t 9)),
       .r 48 (.len (.t 47)),
       .r 49 (.bin .eql (.t 48) (.c (.d (.int .i64 0))))])
    (.cond (.t 49)
      (.seq (.reg [.r 50 (.mv (.t 5)),
         .r 51 (.mv (.t 7)),
         .r 52 (.bslice 1 [.t 51]),
         .w 53 (.app 3 1 (.t 50) (.t 52)),
         .r 5 (.mv (.t 53))])
      (.exit 1))
      .skip))
    (.seq (.reg [.r 54 (.mv (.t 4)),
       .r 55 (.mv (.t 9)),
       .r 56 (.mv (.t 9)),
       .r 57 (.len (.t 56)),
       .r 58 (.bin .sub (.t 57) (.c (.d (.int .i64 1)))),
       .r 59 (.idx 1 (.t 55) (.t 58)),
       .o 60 (.ld1 (.t 59)),
       .r 61 (.idx 5 (.t 54) (.t 60)),
       .r 10 (.mv (.t 61))])
    (.seq (.regE [.r 62 (.mv (.t 10)),
       .r 63 (.mv (.t 10)),
       .r 64 (.fld 1 (.t 8)),
       .r 65 (.ld1 (.t 64)),
       .r 66 (.fld 4 (.t 8)),
       .r 67 (.ld1 (.t 66)),
       .r 68 (.nilc (.t 62)),
       .r 69 (.fld 3 (.t 68)),
       .x 0 (.st 1 (.t 69) (.t 65)) [(1, 63, .mv (.t 10)), (4, 66, .fld 4 (.t 8)), (5, 67, .ld1 (.t 66))],
       .r 70 (.nilc (.t 63)),
       .r 71 (.fld 4 (.t 70)),
       .x 0 (.st 1 (.t 71) (.t 67)) []])
    (.regE [.r 72 (.mv (.t 6)),
       .r 73 (.fld 3 (.t 8)),
       .r 74 (.ld1 (.t 73)),
       .r 75 (.mv (.t 9)),
       .r 76 (.mv (.t 9)),
       .r 77 (.len (.t 76)),
       .r 78 (.bin .sub (.t 77) (.c (.d (.int .i64 1)))),
       .x 79 (.trunc 1 (.t 75) (.t 78)) [(0, 72, .mv (.t 6)), (1, 73, .fld 3 (.t 8)), (2, 74, .ld1 (.t 73))],
       .x 0 (.mset .str (.t 72) (.t 74) (.t 79)) []]))))))))
  (.reg [.r 80 (.bin .add (.t 14) (.c (.d (.int .i64 1)))),
     .r 14 (.mv (.t 80))]))))
def sc_reply_book_B1 : SC := .block 0 (.loop sc_reply_book_L1)
/-- interchange/reply.book -/
def sc_reply_book : SC :=
  (.seq (.reg [.r 2 (.mv (.c (.nils))),
     .r 3 (.mv (.c (.nils)))])
  (.seq (.reg [.r 4 (.mv (.c (.nils)))])
  (.seq (.reg [.r 5 (.mv (.c (.nils)))])
  (.seq (.reg [.w 11 (.mkmap .str),
     .r 6 (.mv (.t 11))])
  (.seq (.seq (.reg [.r 12 (.mv (.t 0)),
     .r 13 (.len (.t 12)),
     .r 14 (.mv (.c (.d (.int .i64 0))))])
  sc_reply_book_B1)
  (.seq (.reg [.r 81 (.mv (.t 4)),
     .r 82 (.mv (.t 5)),
     .r 2 (.mv (.t 81)),
     .r 3 (.mv (.t 82))])
  .ret))))))
theorem fit_reply_book : fits Tryd.prog 98 Tryd.f98 sc_reply_book [.t 2, .t 3] 1 = true := by kernel_rfl

set_option maxRecDepth 100000 in
set_option maxHeartbeats 40000000 in
noncomputable def sims_G9_0_1 : (∀ (x0 : List Tapi_BookEvent), {m : Option ((List Tapi_Sending) × (List Int)) // ∀ r, m = some r → PureSpec Tryd.prog 98 [.slice (List.map rTapi_BookEvent x0)] (.tup [.slice (List.map rTapi_Sending r.1), .slice (List.map rowI r.2)])}) := by
  (intro x0; apply Subtype.mk; intro r hm; apply pure_walk Tryd.func98 fit_reply_book; unfold sc_reply_book)
  repeat' (first | with_reducible refine W_seq ?_ | with_reducible refine W_reg ?_ | with_reducible refine W_regE ?_ | with_reducible refine W_block ?_ | with_reducible refine W_skip ?_ | with_reducible refine W_ret ?_ | with_reducible refine W_exit ?_ | with_reducible refine O_nil ?_ | with_reducible refine K_seq ?_ | with_reducible refine K_seqE ?_ | with_reducible refine K_seqR ?_ | with_reducible refine K_block ?_ | with_reducible refine K_blockR ?_ | with_reducible refine K_blockE ?_ | ((with_reducible apply K_blockN); decide) | ((with_reducible apply O_lookO hm); (iterate 3 (simp only [push_cast, seval, -List.reduceReplicate]; rfl)); decide; (intro _; rfl); rfl; (focus (simp only [push_cast, seval, -List.reduceReplicate]; done)); (focus (simp only [push_cast, seval, -List.reduceReplicate]; done)); intro hm; rotate_left; intro w hm) | with_reducible refine O_o2r ?_ | ((with_reducible apply O_idxr hm); (iterate 2 (simp only [push_cast, seval, -List.reduceReplicate]; rfl)); (intro _; rfl); intro e hm) | ((with_reducible apply O_idxVr hm); (iterate 3 (simp only [push_cast, seval, -List.reduceReplicate]; rfl)); intro e hm) | ((with_reducible apply O_nilcO hm); (simp only [push_cast, seval, -List.reduceReplicate]; rfl); intro a hm) | ((with_reducible apply O_idxLr hm (row := rowI)); (iterate 2 (simp only [push_cast, seval, -List.reduceReplicate]; rfl)); (focus ((repeat' (first | rfl | (with_reducible first | apply fT_Tapi_BookEvent | apply fT_Tapi_Sending | apply f_optN | apply f_optS | apply f_some | apply f_tup | apply f_agg | apply f_ptr | apply f_fn | apply dv_slice | apply sv_d | apply f_cons | apply fold_nil | apply fold_cons | apply fold_app | apply f_rowI | apply f_rowY | apply f_rowS | apply f_rowB | apply f_rowL) | (with_reducible apply f_byte; decide))); done)); (simp only [push_cast, seval, -List.reduceReplicate]; rfl); (intro _; rfl); intro e hm) | ((with_reducible apply O_idxLr hm (row := rTapi_Sending)); (iterate 2 (simp only [push_cast, seval, -List.reduceReplicate]; rfl)); (focus ((repeat' (first | rfl | (with_reducible first | apply fT_Tapi_BookEvent | apply fT_Tapi_Sending | apply f_optN | apply f_optS | apply f_some | apply f_tup | apply f_agg | apply f_ptr | apply f_fn | apply dv_slice | apply sv_d | apply f_cons | apply fold_nil | apply fold_cons | apply fold_app | apply f_rowI | apply f_rowY | apply f_rowS | apply f_rowB | apply f_rowL) | (with_reducible apply f_byte; decide))); done)); (simp only [push_cast, seval, -List.reduceReplicate]; rfl); (intro _; rfl); intro e hm) | ((with_reducible apply O_r); (simp only [push_cast, seval, -List.reduceReplicate]; rfl); (first | exact trivial | omega)) | ((with_reducible apply O_ldV1r hm); (iterate 2 (simp only [push_cast, seval, -List.reduceReplicate]; rfl)); (intro _; rfl); intro e hm) | ((with_reducible apply O_ldAVr hm); (iterate 2 (simp only [push_cast, seval, -List.reduceReplicate]; rfl)); (intro _; rfl); intro e hm) | ((with_reducible apply O_strr hm); (iterate 2 (simp only [push_cast, seval, -List.reduceReplicate]; rfl)); intro hm) | ((with_reducible apply O_or hm); (simp only [push_cast, seval, -List.reduceReplicate]; rfl); rfl; intro v hm; rotate_left; intro v g hm) | ((with_reducible apply W_condT); (focus (simp only [push_cast, seval, -List.reduceReplicate]; done))) | ((with_reducible apply W_condF); (focus (simp only [push_cast, seval, -List.reduceReplicate]; done))) | ((with_reducible apply O_w); (simp only [push_cast, seval, -List.reduceReplicate]; rfl); (first | exact trivial | omega)) | ((with_reducible apply O_appL hm (row := rowI)); (iterate 5 (simp only [push_cast, seval, -List.reduceReplicate]; rfl)); (focus ((repeat' (first | rfl | (with_reducible first | apply fT_Tapi_BookEvent | apply fT_Tapi_Sending | apply f_optN | apply f_optS | apply f_some | apply f_tup | apply f_agg | apply f_ptr | apply f_fn | apply dv_slice | apply sv_d | apply f_cons | apply fold_nil | apply fold_cons | apply fold_app | apply f_rowI | apply f_rowY | apply f_rowS | apply f_rowB | apply f_rowL) | (with_reducible apply f_byte; decide))); done)); (focus ((repeat' (first | rfl | (with_reducible first | apply fT_Tapi_BookEvent | apply fT_Tapi_Sending | apply f_optN | apply f_optS | apply f_some | apply f_tup | apply f_agg | apply f_ptr | apply f_fn | apply dv_slice | apply sv_d | apply f_cons | apply fold_nil | apply fold_cons | apply fold_app | apply f_rowI | apply f_rowY | apply f_rowS | apply f_rowB | apply f_rowL) | (with_reducible apply f_byte; decide))); done)); rfl; decide; (intro _; rfl); intro hm) | ((with_reducible apply O_appL hm (row := rTapi_Sending)); (iterate 5 (simp only [push_cast, seval, -List.reduceReplicate]; rfl)); (focus ((repeat' (first | rfl | (with_reducible first | apply fT_Tapi_BookEvent | apply fT_Tapi_Sending | apply f_optN | apply f_optS | apply f_some | apply f_tup | apply f_agg | apply f_ptr | apply f_fn | apply dv_slice | apply sv_d | apply f_cons | apply fold_nil | apply fold_cons | apply fold_app | apply f_rowI | apply f_rowY | apply f_rowS | apply f_rowB | apply f_rowL) | (with_reducible apply f_byte; decide))); done)); (focus ((repeat' (first | rfl | (with_reducible first | apply fT_Tapi_BookEvent | apply fT_Tapi_Sending | apply f_optN | apply f_optS | apply f_some | apply f_tup | apply f_agg | apply f_ptr | apply f_fn | apply dv_slice | apply sv_d | apply f_cons | apply fold_nil | apply fold_cons | apply fold_app | apply f_rowI | apply f_rowY | apply f_rowS | apply f_rowB | apply f_rowL) | (with_reducible apply f_byte; decide))); done)); rfl; decide; (intro _; rfl); intro hm) | ((with_reducible apply O_appV hm); (iterate 4 (simp only [push_cast, seval, -List.reduceReplicate]; rfl)); (focus ((repeat' (first | rfl | (with_reducible first | apply fT_Tapi_BookEvent | apply fT_Tapi_Sending | apply f_optN | apply f_optS | apply f_some | apply f_tup | apply f_agg | apply f_ptr | apply f_fn | apply dv_slice | apply sv_d | apply f_cons | apply fold_nil | apply fold_cons | apply fold_app | apply f_rowI | apply f_rowY | apply f_rowS | apply f_rowB | apply f_rowL) | (with_reducible apply f_byte; decide))); done)); decide; (intro _; rfl); intro hm) | ((with_reducible apply O_appN hm); (focus (simp only [push_cast, seval, -List.reduceReplicate]; done)); (iterate 2 (simp only [push_cast, seval, -List.reduceReplicate]; rfl)); (focus ((repeat' (first | rfl | (with_reducible first | apply fT_Tapi_BookEvent | apply fT_Tapi_Sending | apply f_optN | apply f_optS | apply f_some | apply f_tup | apply f_agg | apply f_ptr | apply f_fn | apply dv_slice | apply sv_d | apply f_cons | apply fold_nil | apply fold_cons | apply fold_app | apply f_rowI | apply f_rowY | apply f_rowS | apply f_rowB | apply f_rowL) | (with_reducible apply f_byte; decide))); done)); decide; (intro _; rfl); intro hm) | ((with_reducible apply O_stVA hm); (iterate 4 (simp only [push_cast, seval, -List.reduceReplicate]; rfl)); (focus ((repeat' (first | rfl | (with_reducible first | apply fT_Tapi_BookEvent | apply fT_Tapi_Sending | apply f_optN | apply f_optS | apply f_some | apply f_tup | apply f_agg | apply f_ptr | apply f_fn | apply dv_slice | apply sv_d | apply f_cons | apply fold_nil | apply fold_cons | apply fold_app | apply f_rowI | apply f_rowY | apply f_rowS | apply f_rowB | apply f_rowL) | (with_reducible apply f_byte; decide))); done)); decide; (intro _; rfl); intro e hm) | ((with_reducible apply O_stV hm); (iterate 3 (simp only [push_cast, seval, -List.reduceReplicate]; rfl)); rfl; (intro _; rfl); rfl; (focus (intro a; simp only [push_cast, seval, -List.reduceReplicate]; rfl)); (focus (intro a; (repeat' (first | rfl | with_reducible apply eT_Tapi_BookEvent | with_reducible apply eT_Tapi_Sending)); done)); intro e hm) | ((with_reducible apply O_stVAX hm); (iterate 3 (simp only [push_cast, seval, -List.reduceReplicate]; rfl)); (focus ((repeat' (first | rfl | (with_reducible first | apply fT_Tapi_BookEvent | apply fT_Tapi_Sending | apply f_optN | apply f_optS | apply f_some | apply f_tup | apply f_agg | apply f_ptr | apply f_fn | apply dv_slice | apply sv_d | apply f_cons | apply fold_nil | apply fold_cons | apply fold_app | apply f_rowI | apply f_rowY | apply f_rowS | apply f_rowB | apply f_rowL) | (with_reducible apply f_byte; decide))); done)); (intro _; rfl); (focus ((repeat' (first | exact Rer_nil | ((with_reducible apply Rer_cons); (focus (simp only [push_cast, seval, -List.reduceReplicate]; rfl)); (focus (first | exact trivial | omega)); (focus (simp only [push_cast, seval, -List.reduceReplicate]))))); done)); intro e hm) | ((with_reducible apply O_appVX hm); (iterate 2 (simp only [push_cast, seval, -List.reduceReplicate]; rfl)); (focus ((repeat' (first | rfl | (with_reducible first | apply eR_nil | apply eR_app | apply eR_cons | apply eT_Tapi_BookEvent | apply eT_Tapi_Sending | apply eR_I | apply eR_Y | apply eR_S | apply eR_B) | (with_reducible apply sv_d; (focus ((repeat' (first | rfl | (with_reducible first | apply fT_Tapi_BookEvent | apply fT_Tapi_Sending | apply f_optN | apply f_optS | apply f_some | apply f_tup | apply f_agg | apply f_ptr | apply f_fn | apply dv_slice | apply sv_d | apply f_cons | apply fold_nil | apply fold_cons | apply fold_app | apply f_rowI | apply f_rowY | apply f_rowS | apply f_rowB | apply f_rowL) | (with_reducible apply f_byte; decide))); done))))); done)); (simp only [push_cast, seval, -List.reduceReplicate]; rfl); (focus ((repeat' (first | rfl | (with_reducible first | apply eR_nil | apply eR_app | apply eR_cons | apply eT_Tapi_BookEvent | apply eT_Tapi_Sending | apply eR_I | apply eR_Y | apply eR_S | apply eR_B) | (with_reducible apply sv_d; (focus ((repeat' (first | rfl | (with_reducible first | apply fT_Tapi_BookEvent | apply fT_Tapi_Sending | apply f_optN | apply f_optS | apply f_some | apply f_tup | apply f_agg | apply f_ptr | apply f_fn | apply dv_slice | apply sv_d | apply f_cons | apply fold_nil | apply fold_cons | apply fold_app | apply f_rowI | apply f_rowY | apply f_rowS | apply f_rowB | apply f_rowL) | (with_reducible apply f_byte; decide))); done))))); done)); (intro _; rfl); (focus ((repeat' (first | exact Rer_nil | ((with_reducible apply Rer_cons); (focus (simp only [push_cast, seval, -List.reduceReplicate]; rfl)); (focus (first | exact trivial | omega)); (focus (simp only [push_cast, seval, -List.reduceReplicate]))))); done)); intro hm) | ((with_reducible apply O_appX2 hm); (iterate 4 (simp only [push_cast, seval, -List.reduceReplicate]; rfl)); rfl; (focus ((repeat' (first | exact Rer_nil | ((with_reducible apply Rer_cons); (focus (simp only [push_cast, seval, -List.reduceReplicate]; rfl)); (focus (first | exact trivial | omega)); (focus (simp only [push_cast, seval, -List.reduceReplicate]))))); done)); intro hm) | ((with_reducible apply O_appNX hm); (focus (simp only [push_cast, seval, -List.reduceReplicate]; done)); (iterate 2 (simp only [push_cast, seval, -List.reduceReplicate]; rfl)); rfl; (focus ((repeat' (first | exact Rer_nil | ((with_reducible apply Rer_cons); (focus (simp only [push_cast, seval, -List.reduceReplicate]; rfl)); (focus (first | exact trivial | omega)); (focus (simp only [push_cast, seval, -List.reduceReplicate]))))); done)); intro hm) | ((with_reducible apply O_stVX hm); (iterate 3 (simp only [push_cast, seval, -List.reduceReplicate]; rfl)); rfl; (intro _; rfl); rfl; (focus (intro a; simp only [push_cast, seval, -List.reduceReplicate]; rfl)); (focus (intro a; (repeat' (first | rfl | with_reducible apply eT_Tapi_BookEvent | with_reducible apply eT_Tapi_Sending)); done)); (focus (intro _; (repeat' (first | exact Rer_nil | ((with_reducible apply Rer_cons); (focus (simp only [push_cast, seval, -List.reduceReplicate]; rfl)); (focus (first | exact trivial | omega)); (focus (simp only [push_cast, seval, -List.reduceReplicate]))))); done)); intro e hm) | ((with_reducible apply O_truncX hm); (iterate 3 (simp only [push_cast, seval, -List.reduceReplicate]; rfl)); (focus (intro _; (repeat' (first | exact Rer_nil | ((with_reducible apply Rer_cons); (focus (simp only [push_cast, seval, -List.reduceReplicate]; rfl)); (focus (first | exact trivial | omega)); (focus (simp only [push_cast, seval, -List.reduceReplicate]))))); done)); intro l hm) | ((with_reducible apply O_x); (simp only [push_cast, seval, -List.reduceReplicate]; rfl); (first | exact trivial | omega); (focus ((repeat' (first | exact Rer_nil | ((with_reducible apply Rer_cons); (focus (simp only [push_cast, seval, -List.reduceReplicate]; rfl)); (focus (first | exact trivial | omega)); (focus (simp only [push_cast, seval, -List.reduceReplicate]))))); done))) | ((with_reducible apply O_lookM); (iterate 3 (simp only [push_cast, seval, -List.reduceReplicate]; rfl)); (focus (first | exact look_none (by assumption) | exact look_set)); rfl) | ((with_reducible apply S_condB hm); (simp only [push_cast, seval, -List.reduceReplicate]; rfl); intro hm; rotate_left; intro hm) | ((with_reducible apply K_end2 hm); (focus (simp only [resOf, resL, RV.get, push_cast, seval]; rfl)); (focus (first | (dsimp only; done) | (dsimp only; rfl) | rfl)); (focus ((repeat' (first | rfl | (with_reducible first | apply fT_Tapi_BookEvent | apply fT_Tapi_Sending | apply f_optN | apply f_optS | apply f_some | apply f_tup | apply f_agg | apply f_ptr | apply f_fn | apply dv_slice | apply sv_d | apply f_cons | apply fold_nil | apply fold_cons | apply fold_app | apply f_rowI | apply f_rowY | apply f_rowS | apply f_rowB | apply f_rowL) | (with_reducible apply f_byte; decide))); done))) | ((with_reducible apply K_leave hm); intro r hm) | ((with_reducible apply K_leaveR hm); intro r hm) | ((apply S_loopY (b := 0) (X := sc_reply_book_B1) (x := sc_reply_book_L1) rfl (fun (c : SV × SV) (s : (List Tapi_Sending) × (List Int) × (List ((List UInt8) × (List Int))) × Int) => st [(4, .vec 4), (5, .vec 5), (6, .mp 11), (12, c.1), (13, c.2), (14, .d (.int .i64 s.2.2.2))] [(4, .vec 114 5 (vrow rTapi_Sending s.1)), (5, .vec 3 1 (vrow rowI s.2.1)), (11, .map .str (encM .str (ownV 3 (List.replicate 1 .sh) rowI) s.2.2.1))]) (c := (_, _)) (s0 := (_, _, _, _)) hm); (focus (first | (dsimp only; done) | (dsimp only; rfl) | rfl)); (with_reducible refine Then.mk ?_ ?_); apply Imp.trans; (focus (apply imp_vecnil (slot := 4) (id := 4) (e := 114) (sz := 5); (focus (simp only [push_cast, seval, -List.reduceReplicate]; done)))); apply Imp.trans; (focus (apply imp_vecnil (slot := 5) (id := 5) (e := 3) (sz := 1); (focus (simp only [push_cast, seval, -List.reduceReplicate]; done))))) | ((apply W_openM (x := sc_reply_book_R8) 32 6 8 3 hm); (focus (simp only [push_cast, seval, -List.reduceReplicate]; rfl)); (focus (simp only [push_cast, seval, -List.reduceReplicate]; rfl)); (focus (simp only [push_cast, seval, -List.reduceReplicate]; rfl)); (focus decide); (focus (intro _; rfl)); (intro hl hm; unfold sc_reply_book_R8); rotate_left; (intro w hm; unfold sc_reply_book_R8)) | ((apply K_next (s' := (_, _, _, _)) hm); (focus (first | (dsimp only; done) | (dsimp only; rfl) | rfl)); (focus ((apply imp_stT; (repeat' (first | with_reducible exact keepT_nil | with_reducible exact keepC_nil | with_reducible apply keepT_cons | with_reducible apply keepC_cons | ((with_reducible apply svle_eq); (focus (first | (simp only [push_cast, seval]; rfl) | rfl)); (focus ((repeat' (first | rfl | (with_reducible first | apply fT_Tapi_BookEvent | apply fT_Tapi_Sending | apply f_optN | apply f_optS | apply f_some | apply f_tup | apply f_agg | apply f_ptr | apply f_fn | apply dv_slice | apply sv_d | apply f_cons | apply fold_nil | apply fold_cons | apply fold_app | apply f_rowI | apply f_rowY | apply f_rowS | apply f_rowB | apply f_rowL) | (with_reducible apply f_byte; decide))); done))) | ((with_reducible apply svle_td); (focus (first | (simp only [push_cast, seval]; rfl) | rfl)); (focus (first | (simp only [push_cast, seval]; rfl) | rfl)); (focus ((repeat' (first | rfl | (with_reducible first | apply fT_Tapi_BookEvent | apply fT_Tapi_Sending | apply f_optN | apply f_optS | apply f_some | apply f_tup | apply f_agg | apply f_ptr | apply f_fn | apply dv_slice | apply sv_d | apply f_cons | apply fold_nil | apply fold_cons | apply fold_app | apply f_rowI | apply f_rowY | apply f_rowS | apply f_rowB | apply f_rowL) | (with_reducible apply f_byte; decide))); done))) | ((with_reducible apply chle_eq); (focus (first | (simp only [push_cast, seval]; rfl) | rfl)); (first | with_reducible exact chle_rfl rfl | with_reducible exact chle_map0 | with_reducible apply chle_vec | with_reducible apply chle_box)) | (with_reducible first | apply cT_Tapi_BookEvent | apply cT_Tapi_Sending | apply r_shS | apply r_shI | apply r_rflO | apply r_oneO | apply r_appO | apply r_nilO | apply c_ownN | apply c_ownL | apply vc_rfl | apply vc_nil | apply vc_cons | apply r_rfl | apply r_rows | apply r_nil | apply r_app | apply r_cons | apply c_rowI | apply c_rowY | apply c_rowS | apply c_rowB | apply c_rowL))); done)))) | ((apply K_brk (s' := (_, _, _, _)) hm); (focus (first | (dsimp only; done) | (dsimp only; rfl) | rfl)); (focus ((apply imp_stT; (repeat' (first | with_reducible exact keepT_nil | with_reducible exact keepC_nil | with_reducible apply keepT_cons | with_reducible apply keepC_cons | ((with_reducible apply svle_eq); (focus (first | (simp only [push_cast, seval]; rfl) | rfl)); (focus ((repeat' (first | rfl | (with_reducible first | apply fT_Tapi_BookEvent | apply fT_Tapi_Sending | apply f_optN | apply f_optS | apply f_some | apply f_tup | apply f_agg | apply f_ptr | apply f_fn | apply dv_slice | apply sv_d | apply f_cons | apply fold_nil | apply fold_cons | apply fold_app | apply f_rowI | apply f_rowY | apply f_rowS | apply f_rowB | apply f_rowL) | (with_reducible apply f_byte; decide))); done))) | ((with_reducible apply svle_td); (focus (first | (simp only [push_cast, seval]; rfl) | rfl)); (focus (first | (simp only [push_cast, seval]; rfl) | rfl)); (focus ((repeat' (first | rfl | (with_reducible first | apply fT_Tapi_BookEvent | apply fT_Tapi_Sending | apply f_optN | apply f_optS | apply f_some | apply f_tup | apply f_agg | apply f_ptr | apply f_fn | apply dv_slice | apply sv_d | apply f_cons | apply fold_nil | apply fold_cons | apply fold_app | apply f_rowI | apply f_rowY | apply f_rowS | apply f_rowB | apply f_rowL) | (with_reducible apply f_byte; decide))); done))) | ((with_reducible apply chle_eq); (focus (first | (simp only [push_cast, seval]; rfl) | rfl)); (first | with_reducible exact chle_rfl rfl | with_reducible exact chle_map0 | with_reducible apply chle_vec | with_reducible apply chle_box)) | (with_reducible first | apply cT_Tapi_BookEvent | apply cT_Tapi_Sending | apply r_shS | apply r_shI | apply r_rflO | apply r_oneO | apply r_appO | apply r_nilO | apply c_ownN | apply c_ownL | apply vc_rfl | apply vc_nil | apply vc_cons | apply r_rfl | apply r_rows | apply r_nil | apply r_app | apply r_cons | apply c_rowI | apply c_rowY | apply c_rowS | apply c_rowB | apply c_rowL))); done)))) | ((apply K_next (s' := (_, _, _, _)) hm); (focus (first | (dsimp only; done) | (dsimp only; rfl) | rfl)); (focus (apply Imp.trans; (focus (apply imp_closeR (id := 11) (id' := 28); (focus decide); (focus (simp only [push_cast, seval, -List.reduceReplicate]; rfl)); (focus rfl); (focus (simp only [push_cast, seval, -List.reduceReplicate]; rfl)); (focus ((repeat' (first | (with_reducible first | apply cT_Tapi_BookEvent | apply cT_Tapi_Sending | apply r_shS | apply r_shI | apply r_rflO | apply r_oneO | apply r_appO | apply r_nilO | apply c_ownN | apply c_ownL | apply vc_rfl | apply vc_nil | apply vc_cons | apply r_rfl | apply r_rows | apply r_nil | apply r_app | apply r_cons | apply c_rowI | apply c_rowY | apply c_rowS | apply c_rowB | apply c_rowL) | ((with_reducible apply svle_rfl); (focus ((repeat' (first | rfl | (with_reducible first | apply fT_Tapi_BookEvent | apply fT_Tapi_Sending | apply f_optN | apply f_optS | apply f_some | apply f_tup | apply f_agg | apply f_ptr | apply f_fn | apply dv_slice | apply sv_d | apply f_cons | apply fold_nil | apply fold_cons | apply fold_app | apply f_rowI | apply f_rowY | apply f_rowS | apply f_rowB | apply f_rowL) | (with_reducible apply f_byte; decide))); done))))); done)); (focus (intro _; rfl)))); (apply imp_stT; (repeat' (first | with_reducible exact keepT_nil | with_reducible exact keepC_nil | with_reducible apply keepT_cons | with_reducible apply keepC_cons | ((with_reducible apply svle_eq); (focus (first | (simp only [push_cast, seval]; rfl) | rfl)); (focus ((repeat' (first | rfl | (with_reducible first | apply fT_Tapi_BookEvent | apply fT_Tapi_Sending | apply f_optN | apply f_optS | apply f_some | apply f_tup | apply f_agg | apply f_ptr | apply f_fn | apply dv_slice | apply sv_d | apply f_cons | apply fold_nil | apply fold_cons | apply fold_app | apply f_rowI | apply f_rowY | apply f_rowS | apply f_rowB | apply f_rowL) | (with_reducible apply f_byte; decide))); done))) | ((with_reducible apply svle_td); (focus (first | (simp only [push_cast, seval]; rfl) | rfl)); (focus (first | (simp only [push_cast, seval]; rfl) | rfl)); (focus ((repeat' (first | rfl | (with_reducible first | apply fT_Tapi_BookEvent | apply fT_Tapi_Sending | apply f_optN | apply f_optS | apply f_some | apply f_tup | apply f_agg | apply f_ptr | apply f_fn | apply dv_slice | apply sv_d | apply f_cons | apply fold_nil | apply fold_cons | apply fold_app | apply f_rowI | apply f_rowY | apply f_rowS | apply f_rowB | apply f_rowL) | (with_reducible apply f_byte; decide))); done))) | ((with_reducible apply chle_eq); (focus (first | (simp only [push_cast, seval]; rfl) | rfl)); (first | with_reducible exact chle_rfl rfl | with_reducible exact chle_map0 | with_reducible apply chle_vec | with_reducible apply chle_box)) | (with_reducible first | apply cT_Tapi_BookEvent | apply cT_Tapi_Sending | apply r_shS | apply r_shI | apply r_rflO | apply r_oneO | apply r_appO | apply r_nilO | apply c_ownN | apply c_ownL | apply vc_rfl | apply vc_nil | apply vc_cons | apply r_rfl | apply r_rows | apply r_nil | apply r_app | apply r_cons | apply c_rowI | apply c_rowY | apply c_rowS | apply c_rowB | apply c_rowL))); done)))) | ((apply K_next (s' := (_, _, _, _)) hm); (focus (first | (dsimp only; done) | (dsimp only; rfl) | rfl)); (focus (apply Imp.trans; (focus (apply imp_closeR (id := 11) (id' := 32); (focus decide); (focus (simp only [push_cast, seval, -List.reduceReplicate]; rfl)); (focus rfl); (focus (simp only [push_cast, seval, -List.reduceReplicate]; rfl)); (focus ((repeat' (first | (with_reducible first | apply cT_Tapi_BookEvent | apply cT_Tapi_Sending | apply r_shS | apply r_shI | apply r_rflO | apply r_oneO | apply r_appO | apply r_nilO | apply c_ownN | apply c_ownL | apply vc_rfl | apply vc_nil | apply vc_cons | apply r_rfl | apply r_rows | apply r_nil | apply r_app | apply r_cons | apply c_rowI | apply c_rowY | apply c_rowS | apply c_rowB | apply c_rowL) | ((with_reducible apply svle_rfl); (focus ((repeat' (first | rfl | (with_reducible first | apply fT_Tapi_BookEvent | apply fT_Tapi_Sending | apply f_optN | apply f_optS | apply f_some | apply f_tup | apply f_agg | apply f_ptr | apply f_fn | apply dv_slice | apply sv_d | apply f_cons | apply fold_nil | apply fold_cons | apply fold_app | apply f_rowI | apply f_rowY | apply f_rowS | apply f_rowB | apply f_rowL) | (with_reducible apply f_byte; decide))); done))))); done)); (focus (intro _; rfl)))); (apply imp_stT; (repeat' (first | with_reducible exact keepT_nil | with_reducible exact keepC_nil | with_reducible apply keepT_cons | with_reducible apply keepC_cons | ((with_reducible apply svle_eq); (focus (first | (simp only [push_cast, seval]; rfl) | rfl)); (focus ((repeat' (first | rfl | (with_reducible first | apply fT_Tapi_BookEvent | apply fT_Tapi_Sending | apply f_optN | apply f_optS | apply f_some | apply f_tup | apply f_agg | apply f_ptr | apply f_fn | apply dv_slice | apply sv_d | apply f_cons | apply fold_nil | apply fold_cons | apply fold_app | apply f_rowI | apply f_rowY | apply f_rowS | apply f_rowB | apply f_rowL) | (with_reducible apply f_byte; decide))); done))) | ((with_reducible apply svle_td); (focus (first | (simp only [push_cast, seval]; rfl) | rfl)); (focus (first | (simp only [push_cast, seval]; rfl) | rfl)); (focus ((repeat' (first | rfl | (with_reducible first | apply fT_Tapi_BookEvent | apply fT_Tapi_Sending | apply f_optN | apply f_optS | apply f_some | apply f_tup | apply f_agg | apply f_ptr | apply f_fn | apply dv_slice | apply sv_d | apply f_cons | apply fold_nil | apply fold_cons | apply fold_app | apply f_rowI | apply f_rowY | apply f_rowS | apply f_rowB | apply f_rowL) | (with_reducible apply f_byte; decide))); done))) | ((with_reducible apply chle_eq); (focus (first | (simp only [push_cast, seval]; rfl) | rfl)); (first | with_reducible exact chle_rfl rfl | with_reducible exact chle_map0 | with_reducible apply chle_vec | with_reducible apply chle_box)) | (with_reducible first | apply cT_Tapi_BookEvent | apply cT_Tapi_Sending | apply r_shS | apply r_shI | apply r_rflO | apply r_oneO | apply r_appO | apply r_nilO | apply c_ownN | apply c_ownL | apply vc_rfl | apply vc_nil | apply vc_cons | apply r_rfl | apply r_rows | apply r_nil | apply r_app | apply r_cons | apply c_rowI | apply c_rowY | apply c_rowS | apply c_rowB | apply c_rowL))); done)))) | ((apply K_next (s' := (_, _, _, _)) hm); (focus (first | (dsimp only; done) | (dsimp only; rfl) | rfl)); (focus (apply Imp.trans; (focus (apply imp_closeR (id := 11) (id' := 46); (focus decide); (focus (simp only [push_cast, seval, -List.reduceReplicate]; rfl)); (focus rfl); (focus (simp only [push_cast, seval, -List.reduceReplicate]; rfl)); (focus ((repeat' (first | (with_reducible first | apply cT_Tapi_BookEvent | apply cT_Tapi_Sending | apply r_shS | apply r_shI | apply r_rflO | apply r_oneO | apply r_appO | apply r_nilO | apply c_ownN | apply c_ownL | apply vc_rfl | apply vc_nil | apply vc_cons | apply r_rfl | apply r_rows | apply r_nil | apply r_app | apply r_cons | apply c_rowI | apply c_rowY | apply c_rowS | apply c_rowB | apply c_rowL) | ((with_reducible apply svle_rfl); (focus ((repeat' (first | rfl | (with_reducible first | apply fT_Tapi_BookEvent | apply fT_Tapi_Sending | apply f_optN | apply f_optS | apply f_some | apply f_tup | apply f_agg | apply f_ptr | apply f_fn | apply dv_slice | apply sv_d | apply f_cons | apply fold_nil | apply fold_cons | apply fold_app | apply f_rowI | apply f_rowY | apply f_rowS | apply f_rowB | apply f_rowL) | (with_reducible apply f_byte; decide))); done))))); done)); (focus (intro _; rfl)))); (apply imp_stT; (repeat' (first | with_reducible exact keepT_nil | with_reducible exact keepC_nil | with_reducible apply keepT_cons | with_reducible apply keepC_cons | ((with_reducible apply svle_eq); (focus (first | (simp only [push_cast, seval]; rfl) | rfl)); (focus ((repeat' (first | rfl | (with_reducible first | apply fT_Tapi_BookEvent | apply fT_Tapi_Sending | apply f_optN | apply f_optS | apply f_some | apply f_tup | apply f_agg | apply f_ptr | apply f_fn | apply dv_slice | apply sv_d | apply f_cons | apply fold_nil | apply fold_cons | apply fold_app | apply f_rowI | apply f_rowY | apply f_rowS | apply f_rowB | apply f_rowL) | (with_reducible apply f_byte; decide))); done))) | ((with_reducible apply svle_td); (focus (first | (simp only [push_cast, seval]; rfl) | rfl)); (focus (first | (simp only [push_cast, seval]; rfl) | rfl)); (focus ((repeat' (first | rfl | (with_reducible first | apply fT_Tapi_BookEvent | apply fT_Tapi_Sending | apply f_optN | apply f_optS | apply f_some | apply f_tup | apply f_agg | apply f_ptr | apply f_fn | apply dv_slice | apply sv_d | apply f_cons | apply fold_nil | apply fold_cons | apply fold_app | apply f_rowI | apply f_rowY | apply f_rowS | apply f_rowB | apply f_rowL) | (with_reducible apply f_byte; decide))); done))) | ((with_reducible apply chle_eq); (focus (first | (simp only [push_cast, seval]; rfl) | rfl)); (first | with_reducible exact chle_rfl rfl | with_reducible exact chle_map0 | with_reducible apply chle_vec | with_reducible apply chle_box)) | (with_reducible first | apply cT_Tapi_BookEvent | apply cT_Tapi_Sending | apply r_shS | apply r_shI | apply r_rflO | apply r_oneO | apply r_appO | apply r_nilO | apply c_ownN | apply c_ownL | apply vc_rfl | apply vc_nil | apply vc_cons | apply r_rfl | apply r_rows | apply r_nil | apply r_app | apply r_cons | apply c_rowI | apply c_rowY | apply c_rowS | apply c_rowB | apply c_rowL))); done)))) | (((with_reducible apply K_brkN hm); (focus decide); intro r hm)) | (((with_reducible apply K_brkR hm); intro r hm)) | (((with_reducible apply LoopB.of); (focus (first | (dsimp only; done) | (dsimp only; rfl) | rfl)); (focus ((intro _; repeat' (first | with_reducible exact impC_end | with_reducible exact impC_endF | with_reducible refine impC_seq ?_ | with_reducible refine impC_block ?_ | ((with_reducible refine impC_rnd ?_); intro _) | ((with_reducible refine impC_brk ?_); intro _))))); (intro s o hm; first | unfold sc_reply_book_L1); rotate_left; intro s hm)) | (((apply imp_stT; (repeat' (first | with_reducible exact keepT_nil | with_reducible exact keepC_nil | with_reducible apply keepT_cons | with_reducible apply keepC_cons | ((with_reducible apply svle_eq); (focus (first | (simp only [push_cast, seval]; rfl) | rfl)); (focus ((repeat' (first | rfl | (with_reducible first | apply fT_Tapi_BookEvent | apply fT_Tapi_Sending | apply f_optN | apply f_optS | apply f_some | apply f_tup | apply f_agg | apply f_ptr | apply f_fn | apply dv_slice | apply sv_d | apply f_cons | apply fold_nil | apply fold_cons | apply fold_app | apply f_rowI | apply f_rowY | apply f_rowS | apply f_rowB | apply f_rowL) | (with_reducible apply f_byte; decide))); done))) | ((with_reducible apply svle_td); (focus (first | (simp only [push_cast, seval]; rfl) | rfl)); (focus (first | (simp only [push_cast, seval]; rfl) | rfl)); (focus ((repeat' (first | rfl | (with_reducible first | apply fT_Tapi_BookEvent | apply fT_Tapi_Sending | apply f_optN | apply f_optS | apply f_some | apply f_tup | apply f_agg | apply f_ptr | apply f_fn | apply dv_slice | apply sv_d | apply f_cons | apply fold_nil | apply fold_cons | apply fold_app | apply f_rowI | apply f_rowY | apply f_rowS | apply f_rowB | apply f_rowL) | (with_reducible apply f_byte; decide))); done))) | ((with_reducible apply chle_eq); (focus (first | (simp only [push_cast, seval]; rfl) | rfl)); (first | with_reducible exact chle_rfl rfl | with_reducible exact chle_map0 | with_reducible apply chle_vec | with_reducible apply chle_box)) | (with_reducible first | apply cT_Tapi_BookEvent | apply cT_Tapi_Sending | apply r_shS | apply r_shI | apply r_rflO | apply r_oneO | apply r_appO | apply r_nilO | apply c_ownN | apply c_ownL | apply vc_rfl | apply vc_nil | apply vc_cons | apply r_rfl | apply r_rows | apply r_nil | apply r_app | apply r_cons | apply c_rowI | apply c_rowY | apply c_rowS | apply c_rowB | apply c_rowL))); done))))
noncomputable def m_reply_book (x0 : List Tapi_BookEvent) : Option ((List Tapi_Sending) × (List Int)) := (sims_G9_0_1 x0).1
theorem spec_reply_book (x0 : List Tapi_BookEvent) : ∀ r, m_reply_book x0 = some r → PureSpec Tryd.prog 98 [.slice (List.map rTapi_BookEvent x0)] (.tup [.slice (List.map rTapi_Sending r.1), .slice (List.map rowI r.2)]) := (sims_G9_0_1 x0).2

/-- interchange/kit.IsMoment -/
def sc_kit_IsMoment : SC :=
  (.seq (.reg [.r 2 (.mv (.c (.d (.bool false))))])
  (.seq (.reg [.r 3 (.mv (.t 0)),
     .c 4 (.f 55) [.t 3, .c (.d (.int .i64 0)), .c (.d (.int .i64 1000000000000000))],
     .r 5 (.not (.t 4)),
     .r 2 (.mv (.t 5))])
  .ret))
theorem fit_kit_IsMoment : fits Tryd.prog 56 Tryd.f56 sc_kit_IsMoment [.t 2] 1 = true := by kernel_rfl

def sc_reply_at_L1 : SC :=
  (.seq (.seq (.reg (.r 8 (.mv (.t 5)) :: .r 9 (.mv (.t 0)) :: .r 10 (.len (.t 9)) :: .r 11 (.bin .lss (.t 8) (.t 10)) :: .r 12 (.mv (.t 11)) :: gapp [13, 14, 15, 16, 17, 18, 19] 12 true (.r 13 (.mv (.t 0)) :: .r 14 (.mv (.t 5)) :: .r 15 (.idx 5 (.t 13) (.t 14)) :: .r 16 (.fld 1 (.t 15)) :: .r 17 (.ld1 (.t 16)) :: .r 18 (.mv (.t 1)) :: .r 19 (.bin .leq (.t 17) (.t 18)) :: []) (.r 20 (.pick (.t 12) (.t 19) (.c (.d (.bool false)))) :: [])))
  (.cond (.t 20)
    .skip
    (.exit 0)))
  (.block 1 (.reg [.r 21 (.mv (.t 5)),
       .r 22 (.bin .add (.t 21) (.c (.d (.int .i64 1)))),
       .r 5 (.mv (.t 22))])))
def sc_reply_at_B1 : SC := .block 0 (.loop sc_reply_at_L1)
/-- interchange/reply.at -/
def sc_reply_at : SC :=
  (.seq (.reg [.r 4 (.mv (.c (.nils)))])
  (.seq (.reg [.r 5 (.mv (.c (.d (.int .i64 0))))])
  (.seq sc_reply_at_B1
  (.seq (.reg [.r 24 (.mv (.t 0)),
     .r 25 (.mv (.t 5)),
     .r 26 (.slc 5 (.t 24) none (some (.t 25))),
     .c 27 (.f 98) [.t 26],
     .r 23 (.mv (.t 27)),
     .r 28 (.ext (.t 23) 0),
     .r 29 (.ext (.t 23) 1),
     .r 6 (.mv (.t 28)),
     .r 7 (.mv (.t 29))])
  (.seq (.reg [.r 30 (.mv (.t 6)),
     .r 4 (.mv (.t 30))])
  .ret)))))
theorem fit_reply_at : fits Tryd.prog 54 Tryd.f54 sc_reply_at [.t 4] 2 = true := by kernel_rfl

set_option maxRecDepth 100000 in
set_option maxHeartbeats 40000000 in
noncomputable def sims_G9_1_0 : (∀ (x0 : Int), {m : Option (Bool) // ∀ r, m = some r → PureSpec Tryd.prog 56 [.int .i64 x0] (.bool r)}) × (∀ (x0 : List Tapi_BookEvent) (x1 : Int), {m : Option ((List Tapi_Sending)) // ∀ r, m = some r → PureSpec Tryd.prog 54 [.slice (List.map rTapi_BookEvent x0), .int .i64 x1] (.slice (List.map rTapi_Sending r))}) := by
  refine ⟨?g0, ?g1⟩
  case' g0 => (intro x0; apply Subtype.mk; intro r hm; apply pure_walk Tryd.func56 fit_kit_IsMoment; unfold sc_kit_IsMoment)
  case' g1 => (intro x0 x1; apply Subtype.mk; intro r hm; apply pure_walk Tryd.func54 fit_reply_at; unfold sc_reply_at)
  all_goals (repeat' (first | with_reducible refine W_seq ?_ | with_reducible refine W_reg ?_ | with_reducible refine W_block ?_ | with_reducible refine W_skip ?_ | with_reducible refine W_ret ?_ | with_reducible refine W_exit ?_ | with_reducible refine O_nil ?_ | with_reducible refine K_seq ?_ | with_reducible refine K_seqE ?_ | with_reducible refine K_seqR ?_ | with_reducible refine K_block ?_ | with_reducible refine K_blockR ?_ | with_reducible refine K_blockE ?_ | ((with_reducible apply K_blockN); decide) | ((with_reducible apply O_idxr hm); (iterate 2 (simp only [push_cast, seval]; rfl)); (intro _; rfl); intro e hm) | ((with_reducible apply O_idxVr hm); (iterate 3 (simp only [push_cast, seval]; rfl)); intro e hm) | ((with_reducible apply O_slcr hm); (iterate 3 (simp only [push_cast, seval]; rfl)); (intro _; rfl); intro e hm) | ((with_reducible apply O_r); (simp only [push_cast, seval]; rfl); (first | exact trivial | omega)) | ((with_reducible apply O_ldV1r hm); (iterate 2 (simp only [push_cast, seval]; rfl)); (intro _; rfl); intro e hm) | ((with_reducible apply O_strr hm); (iterate 2 (simp only [push_cast, seval]; rfl)); intro hm) | ((with_reducible apply O_and hm); (simp only [push_cast, seval]; rfl); rfl; intro v hm; rotate_left; intro v g hm) | ((with_reducible apply W_condT); (focus (simp only [push_cast, seval]; done))) | ((with_reducible apply W_condF); (focus (simp only [push_cast, seval]; done))) | ((with_reducible apply O_cF hm); (simp only [push_cast, seval]; rfl); (first | apply spec_kit_Outside _ _ _ | apply spec_reply_book _); (any_goals ((repeat' (first | rfl | (with_reducible first | apply fT_Tapi_BookEvent | apply fT_Tapi_Sending | apply f_optN | apply f_optS | apply f_some | apply f_tup | apply f_agg | apply f_ptr | apply f_fn | apply dv_slice | apply sv_d | apply f_cons | apply fold_nil | apply fold_cons | apply fold_app | apply f_rowI | apply f_rowY | apply f_rowS | apply f_rowB | apply f_rowL) | (with_reducible apply f_byte; decide))); done)); intro x hm) | ((with_reducible apply S_condB hm); (simp only [push_cast, seval]; rfl); intro hm; rotate_left; intro hm) | ((with_reducible apply K_endS hm); (focus (simp only [resOf, resL, RV.get, push_cast, seval]; rfl)); (focus ((repeat' (first | rfl | (with_reducible first | apply fT_Tapi_BookEvent | apply fT_Tapi_Sending | apply f_optN | apply f_optS | apply f_some | apply f_tup | apply f_agg | apply f_ptr | apply f_fn | apply dv_slice | apply sv_d | apply f_cons | apply fold_nil | apply fold_cons | apply fold_app | apply f_rowI | apply f_rowY | apply f_rowS | apply f_rowB | apply f_rowL) | (with_reducible apply f_byte; decide))); done))) | ((with_reducible apply K_bool hm); (simp only [push_cast, seval]; rfl)) | ((with_reducible apply K_leave hm); intro r hm) | ((with_reducible apply K_leaveR hm); intro r hm) | ((apply S_loopY (b := 0) (X := sc_reply_at_B1) (x := sc_reply_at_L1) rfl (fun (c : SV × SV) (s : Int) => st [(0, c.1), (1, c.2), (5, .d (.int .i64 s))] []) (c := (_, _)) (s0 := _) hm); (focus (first | (dsimp only; done) | (dsimp only; rfl) | rfl)); (with_reducible refine Then.mk ?_ ?_)) | ((apply K_next (s' := _) hm); (focus (first | (dsimp only; done) | (dsimp only; rfl) | rfl))) | ((apply K_brk (s' := _) hm); (focus (first | (dsimp only; done) | (dsimp only; rfl) | rfl))) | (((with_reducible apply K_brkN hm); (focus decide); intro r hm)) | (((with_reducible apply K_brkR hm); intro r hm)) | (((with_reducible apply LoopB.of); (focus (first | (dsimp only; done) | (dsimp only; rfl) | rfl)); (focus ((intro _; repeat' (first | with_reducible exact impC_end | with_reducible exact impC_endF | with_reducible refine impC_seq ?_ | with_reducible refine impC_block ?_ | ((with_reducible refine impC_rnd ?_); intro _) | ((with_reducible refine impC_brk ?_); intro _))))); (intro s o hm; first | unfold sc_reply_at_L1); rotate_left; intro s hm)) | (((apply imp_stT; (repeat' (first | with_reducible exact keepT_nil | with_reducible exact keepC_nil | with_reducible apply keepT_cons | with_reducible apply keepC_cons | ((with_reducible apply svle_eq); (focus (first | (simp only [push_cast, seval]; rfl) | rfl)); (focus ((repeat' (first | rfl | (with_reducible first | apply fT_Tapi_BookEvent | apply fT_Tapi_Sending | apply f_optN | apply f_optS | apply f_some | apply f_tup | apply f_agg | apply f_ptr | apply f_fn | apply dv_slice | apply sv_d | apply f_cons | apply fold_nil | apply fold_cons | apply fold_app | apply f_rowI | apply f_rowY | apply f_rowS | apply f_rowB | apply f_rowL) | (with_reducible apply f_byte; decide))); done))) | ((with_reducible apply svle_td); (focus (first | (simp only [push_cast, seval]; rfl) | rfl)); (focus (first | (simp only [push_cast, seval]; rfl) | rfl)); (focus ((repeat' (first | rfl | (with_reducible first | apply fT_Tapi_BookEvent | apply fT_Tapi_Sending | apply f_optN | apply f_optS | apply f_some | apply f_tup | apply f_agg | apply f_ptr | apply f_fn | apply dv_slice | apply sv_d | apply f_cons | apply fold_nil | apply fold_cons | apply fold_app | apply f_rowI | apply f_rowY | apply f_rowS | apply f_rowB | apply f_rowL) | (with_reducible apply f_byte; decide))); done))) | ((with_reducible apply chle_eq); (focus (first | (simp only [push_cast, seval]; rfl) | rfl)); (first | with_reducible exact chle_rfl rfl | with_reducible exact chle_map0 | with_reducible apply chle_vec | with_reducible apply chle_box)) | (with_reducible first | apply cT_Tapi_BookEvent | apply cT_Tapi_Sending | apply r_shS | apply r_shI | apply r_rflO | apply r_oneO | apply r_appO | apply r_nilO | apply c_ownN | apply c_ownL | apply vc_rfl | apply vc_nil | apply vc_cons | apply r_rfl | apply r_rows | apply r_nil | apply r_app | apply r_cons | apply c_rowI | apply c_rowY | apply c_rowS | apply c_rowB | apply c_rowL))); done)))))
noncomputable def m_kit_IsMoment (x0 : Int) : Option (Bool) := (sims_G9_1_0.1 x0).1
theorem spec_kit_IsMoment (x0 : Int) : ∀ r, m_kit_IsMoment x0 = some r → PureSpec Tryd.prog 56 [.int .i64 x0] (.bool r) := (sims_G9_1_0.1 x0).2
noncomputable def m_reply_at (x0 : List Tapi_BookEvent) (x1 : Int) : Option ((List Tapi_Sending)) := (sims_G9_1_0.2 x0 x1).1
theorem spec_reply_at (x0 : List Tapi_BookEvent) (x1 : Int) : ∀ r, m_reply_at x0 x1 = some r → PureSpec Tryd.prog 54 [.slice (List.map rTapi_BookEvent x0), .int .i64 x1] (.slice (List.map rTapi_Sending r)) := (sims_G9_1_0.2 x0 x1).2

/-- interchange/reply.eventFault -/
def sc_reply_eventFault : SC :=
  (.seq (.reg [.r 4 (.mv (.c (.d (.int .i64 0))))])
  (.seq (.reg [.r 6 (.mv (.t 0)),
     .r 7 (.mv (.t 1)),
     .r 8 (.idx 5 (.t 6) (.t 7)),
     .o 9 (.ldA 5 (.t 8)),
     .w 5 (.boxM (.c (.agg [.d (.int .i64 0), .d (.int .i64 0), .d (.int .i64 0), .d (.str []), .d (.int .i64 0)]))),
     .w 0 (.st 5 (.t 5) (.t 9))])
  (.seq (.seq (.reg [.r 10 (.fld 0 (.t 5)),
     .o 11 (.ld1 (.t 10)),
     .c 12 (.f 55) [.t 11, .c (.d (.int .i64 1)), .c (.d (.int .i64 2))]])
  (.cond (.t 12)
    (.seq (.reg [.r 4 (.mv (.c (.d (.int .i64 4))))])
    .ret)
    .skip))
  (.seq (.seq (.reg [.r 13 (.fld 1 (.t 5)),
     .o 14 (.ld1 (.t 13)),
     .c 15 (.f 56) [.t 14],
     .r 16 (.not (.t 15))])
  (.cond (.t 16)
    (.seq (.reg [.r 4 (.mv (.c (.d (.int .i64 1))))])
    .ret)
    .skip))
  (.seq (.seq (.reg [.r 17 (.fld 3 (.t 5)),
     .o 18 (.ld1 (.t 17)),
     .c 19 (.f 44) [.t 18],
     .r 20 (.not (.t 19))])
  (.cond (.t 20)
    (.seq (.reg [.r 4 (.mv (.c (.d (.int .i64 3))))])
    .ret)
    .skip))
  (.seq (.block 0 (.seq (.reg (.r 22 (.fld 0 (.t 5)) :: .o 23 (.ld1 (.t 22)) :: .r 24 (.bin .eql (.t 23) (.c (.d (.int .i64 1)))) :: .r 25 (.mv (.t 24)) :: gapp [26, 27, 28] 25 true (.r 26 (.fld 4 (.t 5)) :: .r 27 (.ld1 (.t 26)) :: .r 28 (.bin .neq (.t 27) (.c (.d (.int .i64 0)))) :: []) (.r 29 (.pick (.t 25) (.t 28) (.c (.d (.bool false)))) :: .r 21 (.mv (.t 29)) :: [])))
    (.cond (.t 21)
      (.seq (.reg [.r 4 (.mv (.c (.d (.int .i64 3))))])
      .ret)
      (.seq (.reg (.r 31 (.fld 0 (.t 5)) :: .o 32 (.ld1 (.t 31)) :: .r 33 (.bin .eql (.t 32) (.c (.d (.int .i64 1)))) :: .r 34 (.mv (.t 33)) :: gapp [35, 36, 37, 38, 39, 40, 41, 42] 34 true (.r 35 (.fld 2 (.t 5)) :: .r 36 (.ld1 (.t 35)) :: .r 37 (.fld 1 (.t 5)) :: .r 38 (.ld1 (.t 37)) :: .r 39 (.fld 1 (.t 5)) :: .r 40 (.ld1 (.t 39)) :: .r 41 (.bin .add (.t 40) (.c (.d (.int .i64 10000000)))) :: .c 42 (.f 55) [.t 36, .t 38, .t 41] :: []) (.r 43 (.pick (.t 34) (.t 42) (.c (.d (.bool false)))) :: .r 30 (.mv (.t 43)) :: [])))
      (.cond (.t 30)
        (.seq (.reg [.r 4 (.mv (.c (.d (.int .i64 1))))])
        .ret)
        (.seq (.reg (.r 45 (.fld 0 (.t 5)) :: .o 46 (.ld1 (.t 45)) :: .r 47 (.bin .eql (.t 46) (.c (.d (.int .i64 2)))) :: .r 48 (.mv (.t 47)) :: gapp [49, 50, 51] 48 true (.r 49 (.fld 2 (.t 5)) :: .r 50 (.ld1 (.t 49)) :: .r 51 (.bin .neq (.t 50) (.c (.d (.int .i64 0)))) :: []) (.r 52 (.pick (.t 48) (.t 51) (.c (.d (.bool false)))) :: .r 44 (.mv (.t 52)) :: [])))
        (.cond (.t 44)
          (.seq (.reg [.r 4 (.mv (.c (.d (.int .i64 3))))])
          .ret)
          (.seq (.reg (.r 54 (.fld 0 (.t 5)) :: .o 55 (.ld1 (.t 54)) :: .r 56 (.bin .eql (.t 55) (.c (.d (.int .i64 2)))) :: .r 57 (.mv (.t 56)) :: gapp [58, 59, 60, 61] 57 true (.r 58 (.fld 4 (.t 5)) :: .r 59 (.ld1 (.t 58)) :: .c 60 (.f 45) [.t 59] :: .r 61 (.not (.t 60)) :: []) (.r 62 (.pick (.t 57) (.t 61) (.c (.d (.bool false)))) :: .r 53 (.mv (.t 62)) :: [])))
          (.cond (.t 53)
            (.seq (.reg [.r 4 (.mv (.c (.d (.int .i64 4))))])
            .ret)
            (.seq (.regD (.r 64 (.mv (.t 1)) :: .r 65 (.bin .gtr (.t 64) (.c (.d (.int .i64 0)))) :: .r 66 (.mv (.t 65)) :: gapp [67, 68, 69, 70, 71, 72, 73, 74, 75] 66 true (.r 67 (.fld 1 (.t 5)) :: .r 68 (.ld1 (.t 67)) :: .r 69 (.mv (.t 0)) :: .r 70 (.mv (.t 1)) :: .r 71 (.bin .sub (.t 70) (.c (.d (.int .i64 1)))) :: .r 72 (.idx 5 (.t 69) (.t 71)) :: .r 73 (.fld 1 (.t 72)) :: .r 74 (.ld1 (.t 73)) :: .r 75 (.bin .lss (.t 68) (.t 74)) :: []) (.r 76 (.pick (.t 66) (.t 75) (.c (.d (.bool false)))) :: .r 63 (.mv (.t 76)) :: [])))
            (.cond (.t 63)
              (.seq (.reg [.r 4 (.mv (.c (.d (.int .i64 8))))])
              .ret)
              .skip)))))))))))
  (.seq (.reg [.r 4 (.mv (.c (.d (.int .i64 0))))])
  .ret)))))))
theorem fit_reply_eventFault : fits Tryd.prog 97 Tryd.f97 sc_reply_eventFault [.t 4] 2 = true := by kernel_rfl

set_option maxRecDepth 100000 in
set_option maxHeartbeats 40000000 in
noncomputable def sims_G9_2_0 : (∀ (x0 : List Tapi_BookEvent) (x1 : Int), {m : Option (Int) // ∀ r, m = some r → PureSpec Tryd.prog 97 [.slice (List.map rTapi_BookEvent x0), .int .i64 x1] (.int .i64 r)}) := by
  (intro x0 x1; apply Subtype.mk; intro r hm; apply pure_walk Tryd.func97 fit_reply_eventFault; unfold sc_reply_eventFault)
  repeat' (first | with_reducible refine W_seq ?_ | with_reducible refine W_reg ?_ | with_reducible refine W_regD ?_ | with_reducible refine W_block ?_ | with_reducible refine W_skip ?_ | with_reducible refine W_ret ?_ | with_reducible refine W_exit ?_ | with_reducible refine O_nil ?_ | with_reducible refine K_seq ?_ | with_reducible refine K_seqE ?_ | with_reducible refine K_seqR ?_ | with_reducible refine K_block ?_ | with_reducible refine K_blockR ?_ | with_reducible refine K_blockE ?_ | ((with_reducible apply K_blockN); decide) | with_reducible refine O_o2r ?_ | ((with_reducible apply O_idxr hm); (iterate 2 (simp only [push_cast, seval]; rfl)); (intro _; rfl); intro e hm) | ((with_reducible apply O_idxVr hm); (iterate 3 (simp only [push_cast, seval]; rfl)); intro e hm) | ((with_reducible apply O_r); (simp only [push_cast, seval]; rfl); (first | exact trivial | omega)) | ((with_reducible apply O_ldV1r hm); (iterate 2 (simp only [push_cast, seval]; rfl)); (intro _; rfl); intro e hm) | ((with_reducible apply O_ldAVr hm); (iterate 2 (simp only [push_cast, seval]; rfl)); (intro _; rfl); intro e hm) | ((with_reducible apply O_strr hm); (iterate 2 (simp only [push_cast, seval]; rfl)); intro hm) | ((with_reducible apply O_and hm); (simp only [push_cast, seval]; rfl); rfl; intro v hm; rotate_left; intro v g hm) | ((with_reducible apply W_condT); (focus (simp only [push_cast, seval]; done))) | ((with_reducible apply W_condF); (focus (simp only [push_cast, seval]; done))) | ((with_reducible apply O_cF hm); (simp only [push_cast, seval]; rfl); (first | apply spec_kit_Outside _ _ _ | apply spec_kit_IsMoment _ | apply spec_kit_IsRef _ | apply spec_reply_isVerdict _); (any_goals ((repeat' (first | rfl | (with_reducible first | apply fT_Tapi_BookEvent | apply f_optN | apply f_optS | apply f_some | apply f_tup | apply f_agg | apply f_ptr | apply f_fn | apply dv_slice | apply sv_d | apply f_cons | apply fold_nil | apply fold_cons | apply fold_app | apply f_rowI | apply f_rowY | apply f_rowS | apply f_rowB | apply f_rowL) | (with_reducible apply f_byte; decide))); done)); intro x hm) | ((with_reducible apply O_w); (simp only [push_cast, seval]; rfl); (first | exact trivial | omega)) | ((with_reducible apply O_stVA hm); (iterate 4 (simp only [push_cast, seval]; rfl)); (focus ((repeat' (first | rfl | (with_reducible first | apply fT_Tapi_BookEvent | apply f_optN | apply f_optS | apply f_some | apply f_tup | apply f_agg | apply f_ptr | apply f_fn | apply dv_slice | apply sv_d | apply f_cons | apply fold_nil | apply fold_cons | apply fold_app | apply f_rowI | apply f_rowY | apply f_rowS | apply f_rowB | apply f_rowL) | (with_reducible apply f_byte; decide))); done)); decide; (intro _; rfl); intro e hm) | ((with_reducible apply S_condB hm); (simp only [push_cast, seval]; rfl); intro hm; rotate_left; intro hm) | ((with_reducible apply K_endS hm); (focus (simp only [resOf, resL, RV.get, push_cast, seval]; rfl)); (focus ((repeat' (first | rfl | (with_reducible first | apply fT_Tapi_BookEvent | apply f_optN | apply f_optS | apply f_some | apply f_tup | apply f_agg | apply f_ptr | apply f_fn | apply dv_slice | apply sv_d | apply f_cons | apply fold_nil | apply fold_cons | apply fold_app | apply f_rowI | apply f_rowY | apply f_rowS | apply f_rowB | apply f_rowL) | (with_reducible apply f_byte; decide))); done))) | ((with_reducible apply K_bool hm); (simp only [push_cast, seval]; rfl)))
noncomputable def m_reply_eventFault (x0 : List Tapi_BookEvent) (x1 : Int) : Option (Int) := (sims_G9_2_0 x0 x1).1
theorem spec_reply_eventFault (x0 : List Tapi_BookEvent) (x1 : Int) : ∀ r, m_reply_eventFault x0 x1 = some r → PureSpec Tryd.prog 97 [.slice (List.map rTapi_BookEvent x0), .int .i64 x1] (.int .i64 r) := (sims_G9_2_0 x0 x1).2

def sc_reply_CheckBook_L1 : SC :=
  (.seq (.reg [.r 11 (.bin .lss (.t 10) (.t 9))])
  (.seq (.cond (.t 11)
    .skip
    (.exit 0))
  (.seq (.block 1 (.seq (.reg [.r 12 (.mv (.t 10)),
       .r 3 (.mv (.t 12))])
    (.seq (.reg [.r 13 (.mv (.t 0)),
       .r 14 (.mv (.t 3)),
       .c 15 (.f 97) [.t 13, .t 14],
       .r 4 (.mv (.t 15))])
    (.seq (.reg [.r 16 (.mv (.t 4)),
       .r 17 (.bin .neq (.t 16) (.c (.d (.int .i64 0))))])
    (.cond (.t 17)
      (.seq (.reg [.r 18 (.mv (.t 4)),
         .r 2 (.mv (.t 18))])
      .ret)
      .skip)))))
  (.reg [.r 19 (.bin .add (.t 10) (.c (.d (.int .i64 1)))),
     .r 10 (.mv (.t 19))]))))
def sc_reply_CheckBook_B1 : SC := .block 0 (.loop sc_reply_CheckBook_L1)
/-- interchange/reply.CheckBook -/
def sc_reply_CheckBook : SC :=
  (.seq (.reg [.r 2 (.mv (.c (.d (.int .i64 0))))])
  (.seq (.seq (.reg [.r 5 (.mv (.t 0)),
     .r 6 (.len (.t 5)),
     .r 7 (.bin .gtr (.t 6) (.c (.d (.int .i64 3000))))])
  (.cond (.t 7)
    (.seq (.reg [.r 2 (.mv (.c (.d (.int .i64 2))))])
    .ret)
    .skip))
  (.seq (.seq (.reg [.r 8 (.mv (.t 0)),
     .r 9 (.len (.t 8)),
     .r 10 (.mv (.c (.d (.int .i64 0))))])
  sc_reply_CheckBook_B1)
  (.seq (.reg [.r 2 (.mv (.c (.d (.int .i64 0))))])
  .ret))))
theorem fit_reply_CheckBook : fits Tryd.prog 53 Tryd.f53 sc_reply_CheckBook [.t 2] 1 = true := by kernel_rfl

set_option maxRecDepth 100000 in
set_option maxHeartbeats 40000000 in
noncomputable def sims_G9_3_0 : (∀ (x0 : List Tapi_BookEvent), {m : Option (Int) // ∀ r, m = some r → PureSpec Tryd.prog 53 [.slice (List.map rTapi_BookEvent x0)] (.int .i64 r)}) := by
  (intro x0; apply Subtype.mk; intro r hm; apply pure_walk Tryd.func53 fit_reply_CheckBook; unfold sc_reply_CheckBook)
  repeat' (first | with_reducible refine W_seq ?_ | with_reducible refine W_reg ?_ | with_reducible refine W_block ?_ | with_reducible refine W_skip ?_ | with_reducible refine W_ret ?_ | with_reducible refine W_exit ?_ | with_reducible refine O_nil ?_ | with_reducible refine K_seq ?_ | with_reducible refine K_seqE ?_ | with_reducible refine K_seqR ?_ | with_reducible refine K_block ?_ | with_reducible refine K_blockR ?_ | with_reducible refine K_blockE ?_ | ((with_reducible apply K_blockN); decide) | ((with_reducible apply O_r); (simp only [push_cast, seval]; rfl); (first | exact trivial | omega)) | ((with_reducible apply O_strr hm); (iterate 2 (simp only [push_cast, seval]; rfl)); intro hm) | ((with_reducible apply W_condT); (focus (simp only [push_cast, seval]; done))) | ((with_reducible apply W_condF); (focus (simp only [push_cast, seval]; done))) | ((with_reducible apply O_cF hm); (simp only [push_cast, seval]; rfl); (first | apply spec_reply_eventFault _ _); (any_goals ((repeat' (first | rfl | (with_reducible first | apply fT_Tapi_BookEvent | apply f_optN | apply f_optS | apply f_some | apply f_tup | apply f_agg | apply f_ptr | apply f_fn | apply dv_slice | apply sv_d | apply f_cons | apply fold_nil | apply fold_cons | apply fold_app | apply f_rowI | apply f_rowY | apply f_rowS | apply f_rowB | apply f_rowL) | (with_reducible apply f_byte; decide))); done)); intro x hm) | ((with_reducible apply S_condB hm); (simp only [push_cast, seval]; rfl); intro hm; rotate_left; intro hm) | ((with_reducible apply K_endS hm); (focus (simp only [resOf, resL, RV.get, push_cast, seval]; rfl)); (focus ((repeat' (first | rfl | (with_reducible first | apply fT_Tapi_BookEvent | apply f_optN | apply f_optS | apply f_some | apply f_tup | apply f_agg | apply f_ptr | apply f_fn | apply dv_slice | apply sv_d | apply f_cons | apply fold_nil | apply fold_cons | apply fold_app | apply f_rowI | apply f_rowY | apply f_rowS | apply f_rowB | apply f_rowL) | (with_reducible apply f_byte; decide))); done))) | ((with_reducible apply K_leave hm); intro r hm) | ((with_reducible apply K_leaveR hm); intro r hm) | ((apply S_loopY (b := 0) (X := sc_reply_CheckBook_B1) (x := sc_reply_CheckBook_L1) rfl (fun (c : SV × SV) (s : Int) => st [(0, c.1), (9, c.2), (10, .d (.int .i64 s))] []) (c := (_, _)) (s0 := _) hm); (focus (first | (dsimp only; done) | (dsimp only; rfl) | rfl)); (with_reducible refine Then.mk ?_ ?_)) | ((apply K_next (s' := _) hm); (focus (first | (dsimp only; done) | (dsimp only; rfl) | rfl))) | ((apply K_brk (s' := _) hm); (focus (first | (dsimp only; done) | (dsimp only; rfl) | rfl))) | (((with_reducible apply K_brkN hm); (focus decide); intro r hm)) | (((with_reducible apply K_brkR hm); intro r hm)) | (((with_reducible apply LoopB.of); (focus (first | (dsimp only; done) | (dsimp only; rfl) | rfl)); (focus ((intro _; repeat' (first | with_reducible exact impC_end | with_reducible exact impC_endF | with_reducible refine impC_seq ?_ | with_reducible refine impC_block ?_ | ((with_reducible refine impC_rnd ?_); intro _) | ((with_reducible refine impC_brk ?_); intro _))))); (intro s o hm; first | unfold sc_reply_CheckBook_L1); rotate_left; intro s hm)) | (((apply imp_stT; (repeat' (first | with_reducible exact keepT_nil | with_reducible exact keepC_nil | with_reducible apply keepT_cons | with_reducible apply keepC_cons | ((with_reducible apply svle_eq); (focus (first | (simp only [push_cast, seval]; rfl) | rfl)); (focus ((repeat' (first | rfl | (with_reducible first | apply fT_Tapi_BookEvent | apply f_optN | apply f_optS | apply f_some | apply f_tup | apply f_agg | apply f_ptr | apply f_fn | apply dv_slice | apply sv_d | apply f_cons | apply fold_nil | apply fold_cons | apply fold_app | apply f_rowI | apply f_rowY | apply f_rowS | apply f_rowB | apply f_rowL) | (with_reducible apply f_byte; decide))); done))) | ((with_reducible apply svle_td); (focus (first | (simp only [push_cast, seval]; rfl) | rfl)); (focus (first | (simp only [push_cast, seval]; rfl) | rfl)); (focus ((repeat' (first | rfl | (with_reducible first | apply fT_Tapi_BookEvent | apply f_optN | apply f_optS | apply f_some | apply f_tup | apply f_agg | apply f_ptr | apply f_fn | apply dv_slice | apply sv_d | apply f_cons | apply fold_nil | apply fold_cons | apply fold_app | apply f_rowI | apply f_rowY | apply f_rowS | apply f_rowB | apply f_rowL) | (with_reducible apply f_byte; decide))); done))) | ((with_reducible apply chle_eq); (focus (first | (simp only [push_cast, seval]; rfl) | rfl)); (first | with_reducible exact chle_rfl rfl | with_reducible exact chle_map0 | with_reducible apply chle_vec | with_reducible apply chle_box)) | (with_reducible first | apply cT_Tapi_BookEvent | apply r_shS | apply r_shI | apply r_rflO | apply r_oneO | apply r_appO | apply r_nilO | apply c_ownN | apply c_ownL | apply vc_rfl | apply vc_nil | apply vc_cons | apply r_rfl | apply r_rows | apply r_nil | apply r_app | apply r_cons | apply c_rowI | apply c_rowY | apply c_rowS | apply c_rowB | apply c_rowL))); done))))
noncomputable def m_reply_CheckBook (x0 : List Tapi_BookEvent) : Option (Int) := (sims_G9_3_0 x0).1
theorem spec_reply_CheckBook (x0 : List Tapi_BookEvent) : ∀ r, m_reply_CheckBook x0 = some r → PureSpec Tryd.prog 53 [.slice (List.map rTapi_BookEvent x0)] (.int .i64 r) := (sims_G9_3_0 x0).2

def sc_reply_StandingAt_L1 : SC :=
  (.seq (.reg [.r 26 (.bin .lss (.t 25) (.t 24))])
  (.seq (.cond (.t 26)
    .skip
    (.exit 0))
  (.seq (.block 1 (.seq (.reg [.r 27 (.idx 5 (.t 23) (.t 25)),
       .o 28 (.ldA 5 (.t 27)),
       .w 9 (.boxM (.c (.agg [.d (.str []), .d (.int .i64 0), .d (.int .i64 0), .d (.int .i64 0), .d (.int .i64 0)]))),
       .w 0 (.st 5 (.t 9) (.t 28))])
    (.seq (.seq (.reg [.o 29 (.ldA 5 (.t 9)),
       .r 30 (.mv (.t 1)),
       .c 31 (.f 57) [.t 29, .t 30]])
    (.block 2 (.seq (.reg [.r 33 (.bin .eql (.t 31) (.c (.d (.int .i64 1)))),
         .r 32 (.mv (.t 33))])
      (.cond (.t 32)
        (.reg [.r 34 (.fld 0 (.t 7)),
           .o 35 (.ld1 (.t 34)),
           .r 36 (.bin .add (.t 35) (.c (.d (.int .i64 1)))),
           .r 37 (.fld 0 (.t 7)),
           .w 0 (.st 1 (.t 37) (.t 36))])
        (.seq (.reg [.r 39 (.bin .eql (.t 31) (.c (.d (.int .i64 2)))),
           .r 38 (.mv (.t 39))])
        (.cond (.t 38)
          (.reg [.r 40 (.fld 1 (.t 7)),
             .o 41 (.ld1 (.t 40)),
             .r 42 (.bin .add (.t 41) (.c (.d (.int .i64 1)))),
             .r 43 (.fld 1 (.t 7)),
             .w 0 (.st 1 (.t 43) (.t 42))])
          .skip))))))
    (.seq (.seq (.reg [.r 44 (.fld 4 (.t 9)),
       .o 45 (.ld1 (.t 44))])
    (.block 3 (.seq (.reg [.r 47 (.bin .eql (.t 45) (.c (.d (.int .i64 1)))),
         .r 46 (.mv (.t 47))])
      (.cond (.t 46)
        (.reg [.r 48 (.fld 2 (.t 7)),
           .o 49 (.ld1 (.t 48)),
           .r 50 (.bin .add (.t 49) (.c (.d (.int .i64 1)))),
           .r 51 (.fld 2 (.t 7)),
           .w 0 (.st 1 (.t 51) (.t 50))])
        (.seq (.reg [.r 53 (.bin .eql (.t 45) (.c (.d (.int .i64 2)))),
           .r 52 (.mv (.t 53))])
        (.cond (.t 52)
          (.reg [.r 54 (.fld 3 (.t 7)),
             .o 55 (.ld1 (.t 54)),
             .r 56 (.bin .add (.t 55) (.c (.d (.int .i64 1)))),
             .r 57 (.fld 3 (.t 7)),
             .w 0 (.st 1 (.t 57) (.t 56))])
          (.seq (.reg [.r 59 (.bin .eql (.t 45) (.c (.d (.int .i64 3)))),
             .r 58 (.mv (.t 59))])
          (.cond (.t 58)
            (.reg [.r 60 (.fld 4 (.t 7)),
               .o 61 (.ld1 (.t 60)),
               .r 62 (.bin .add (.t 61) (.c (.d (.int .i64 1)))),
               .r 63 (.fld 4 (.t 7)),
               .w 0 (.st 1 (.t 63) (.t 62))])
            .skip))))))))
    (.seq (.reg [.r 64 (.fld 3 (.t 9)),
       .o 65 (.ld1 (.t 64)),
       .r 66 (.fld 2 (.t 9)),
       .o 67 (.ld1 (.t 66)),
       .r 68 (.bin .gtr (.t 65) (.t 67))])
    (.cond (.t 68)
      (.reg [.r 69 (.fld 5 (.t 7)),
         .o 70 (.ld1 (.t 69)),
         .r 71 (.bin .add (.t 70) (.c (.d (.int .i64 1)))),
         .r 72 (.fld 5 (.t 7)),
         .w 0 (.st 1 (.t 72) (.t 71))])
      .skip))))))
  (.reg [.r 73 (.bin .add (.t 25) (.c (.d (.int .i64 1)))),
     .r 25 (.mv (.t 73))]))))
def sc_reply_StandingAt_B1 : SC := .block 0 (.loop sc_reply_StandingAt_L1)
/-- interchange/reply.StandingAt -/
def sc_reply_StandingAt : SC :=
  (.seq (.reg [.w 4 (.boxM (.c (.agg [.d (.int .i64 0), .d (.int .i64 0), .d (.int .i64 0), .d (.int .i64 0), .d (.int .i64 0), .d (.int .i64 0)]))),
     .r 5 (.mv (.c (.d (.int .i64 0))))])
  (.seq (.seq (.reg [.r 10 (.mv (.t 0)),
     .c 11 (.f 53) [.t 10],
     .r 6 (.mv (.t 11))])
  (.seq (.reg [.r 12 (.mv (.t 6)),
     .r 13 (.bin .neq (.t 12) (.c (.d (.int .i64 0))))])
  (.cond (.t 13)
    (.seq (.reg [.r 14 (.build [.d (.int .i64 0), .d (.int .i64 0), .d (.int .i64 0), .d (.int .i64 0), .d (.int .i64 0), .d (.int .i64 0)] []),
       .r 15 (.mv (.t 6)),
       .w 0 (.st 6 (.t 4) (.t 14)),
       .r 5 (.mv (.t 15))])
    .ret)
    .skip)))
  (.seq (.seq (.reg [.r 16 (.mv (.t 1)),
     .c 17 (.f 56) [.t 16],
     .r 18 (.not (.t 17))])
  (.cond (.t 18)
    (.seq (.reg [.r 19 (.build [.d (.int .i64 0), .d (.int .i64 0), .d (.int .i64 0), .d (.int .i64 0), .d (.int .i64 0), .d (.int .i64 0)] []),
       .w 0 (.st 6 (.t 4) (.t 19)),
       .r 5 (.mv (.c (.d (.int .i64 1))))])
    .ret)
    .skip))
  (.seq (.reg [.r 20 (.build [.d (.int .i64 0), .d (.int .i64 0), .d (.int .i64 0), .d (.int .i64 0), .d (.int .i64 0), .d (.int .i64 0)] []),
     .w 7 (.boxM (.c (.agg [.d (.int .i64 0), .d (.int .i64 0), .d (.int .i64 0), .d (.int .i64 0), .d (.int .i64 0), .d (.int .i64 0)]))),
     .w 0 (.st 6 (.t 7) (.t 20))])
  (.seq (.seq (.reg [.r 21 (.mv (.t 0)),
     .r 22 (.mv (.t 1)),
     .c 23 (.f 54) [.t 21, .t 22],
     .r 24 (.len (.t 23)),
     .r 25 (.mv (.c (.d (.int .i64 0))))])
  sc_reply_StandingAt_B1)
  (.seq (.reg [.o 74 (.ldA 6 (.t 7)),
     .w 0 (.st 6 (.t 4) (.t 74)),
     .r 5 (.mv (.c (.d (.int .i64 0))))])
  .ret))))))
theorem fit_reply_StandingAt : fits Tryd.prog 18 Tryd.f18 sc_reply_StandingAt [.cell 4 6, .t 5] 2 = true := by kernel_rfl

set_option maxRecDepth 100000 in
set_option maxHeartbeats 40000000 in
noncomputable def sims_G9_4_0 : (∀ (x0 : List Tapi_BookEvent) (x1 : Int), {m : Option (Tapi_Standing × Int) // ∀ r, m = some r → PureSpec Tryd.prog 18 [.slice (List.map rTapi_BookEvent x0), .int .i64 x1] (.tup [.agg (rTapi_Standing r.1), .int .i64 r.2])}) := by
  (intro x0 x1; apply Subtype.mk; intro r hm; apply pure_walk Tryd.func18 fit_reply_StandingAt; unfold sc_reply_StandingAt)
  repeat' (first | with_reducible refine W_seq ?_ | with_reducible refine W_reg ?_ | with_reducible refine W_block ?_ | with_reducible refine W_skip ?_ | with_reducible refine W_ret ?_ | with_reducible refine W_exit ?_ | with_reducible refine O_nil ?_ | with_reducible refine K_seq ?_ | with_reducible refine K_seqE ?_ | with_reducible refine K_seqR ?_ | with_reducible refine K_block ?_ | with_reducible refine K_blockR ?_ | with_reducible refine K_blockE ?_ | ((with_reducible apply K_blockN); decide) | with_reducible refine O_o2r ?_ | ((with_reducible apply O_idxr hm); (iterate 2 (simp only [push_cast, seval]; rfl)); (intro _; rfl); intro e hm) | ((with_reducible apply O_idxVr hm); (iterate 3 (simp only [push_cast, seval]; rfl)); intro e hm) | ((with_reducible apply O_r); (simp only [push_cast, seval]; rfl); (first | exact trivial | omega)) | ((with_reducible apply O_ldV1r hm); (iterate 2 (simp only [push_cast, seval]; rfl)); (intro _; rfl); intro e hm) | ((with_reducible apply O_ldAVr hm); (iterate 2 (simp only [push_cast, seval]; rfl)); (intro _; rfl); intro e hm) | ((with_reducible apply O_strr hm); (iterate 2 (simp only [push_cast, seval]; rfl)); intro hm) | ((with_reducible apply W_condT); (focus (simp only [push_cast, seval]; done))) | ((with_reducible apply W_condF); (focus (simp only [push_cast, seval]; done))) | ((with_reducible apply O_cF hm); (simp only [push_cast, seval]; rfl); (first | apply spec_reply_CheckBook _ | apply spec_kit_IsMoment _ | apply spec_reply_at _ _ | apply spec_reply_stateOf _ _); (any_goals ((repeat' (first | rfl | (with_reducible first | apply fT_Tapi_BookEvent | apply fT_Tapi_Sending | apply fT_Tapi_Standing | apply f_optN | apply f_optS | apply f_some | apply f_tup | apply f_agg | apply f_ptr | apply f_fn | apply dv_slice | apply sv_d | apply f_cons | apply fold_nil | apply fold_cons | apply fold_app | apply f_rowI | apply f_rowY | apply f_rowS | apply f_rowB | apply f_rowL) | (with_reducible apply f_byte; decide))); done)); intro x hm) | ((with_reducible apply O_w); (simp only [push_cast, seval]; rfl); (first | exact trivial | omega)) | ((with_reducible apply O_stVA hm); (iterate 4 (simp only [push_cast, seval]; rfl)); (focus ((repeat' (first | rfl | (with_reducible first | apply fT_Tapi_BookEvent | apply fT_Tapi_Sending | apply fT_Tapi_Standing | apply f_optN | apply f_optS | apply f_some | apply f_tup | apply f_agg | apply f_ptr | apply f_fn | apply dv_slice | apply sv_d | apply f_cons | apply fold_nil | apply fold_cons | apply fold_app | apply f_rowI | apply f_rowY | apply f_rowS | apply f_rowB | apply f_rowL) | (with_reducible apply f_byte; decide))); done)); decide; (intro _; rfl); intro e hm) | ((with_reducible apply S_condB hm); (simp only [push_cast, seval]; rfl); intro hm; rotate_left; intro hm) | ((with_reducible apply K_end2 hm); (focus (simp only [resOf, resL, RV.get, push_cast, seval]; rfl)); (focus (first | (dsimp only; done) | (dsimp only; rfl) | rfl)); (focus ((repeat' (first | rfl | (with_reducible first | apply fT_Tapi_BookEvent | apply fT_Tapi_Sending | apply fT_Tapi_Standing | apply f_optN | apply f_optS | apply f_some | apply f_tup | apply f_agg | apply f_ptr | apply f_fn | apply dv_slice | apply sv_d | apply f_cons | apply fold_nil | apply fold_cons | apply fold_app | apply f_rowI | apply f_rowY | apply f_rowS | apply f_rowB | apply f_rowL) | (with_reducible apply f_byte; decide))); done))) | ((with_reducible apply K_leave hm); intro r hm) | ((with_reducible apply K_leaveR hm); intro r hm) | ((apply S_loopY (b := 0) (X := sc_reply_StandingAt_B1) (x := sc_reply_StandingAt_L1) rfl (fun (c : SV × Ch × SV × SV) (s : Tapi_Standing × Int) => st [(1, c.1), (4, .ref 4 0), (7, .ref 7 0), (23, c.2.2.1), (24, c.2.2.2), (25, .d (.int .i64 s.2))] [(4, c.2.1), (7, .box (dR (rTapi_Standing s.1)))]) (c := (_, _, _, _)) (s0 := (_, _)) hm); (focus (first | (dsimp only; done) | (dsimp only; rfl) | rfl)); (with_reducible refine Then.mk ?_ ?_)) | ((apply K_next (s' := (_, _)) hm); (focus (first | (dsimp only; done) | (dsimp only; rfl) | rfl))) | ((apply K_brk (s' := (_, _)) hm); (focus (first | (dsimp only; done) | (dsimp only; rfl) | rfl))) | (((with_reducible apply K_brkN hm); (focus decide); intro r hm)) | (((with_reducible apply K_brkR hm); intro r hm)) | (((with_reducible apply LoopB.of); (focus (first | (dsimp only; done) | (dsimp only; rfl) | rfl)); (focus ((intro _; repeat' (first | with_reducible exact impC_end | with_reducible exact impC_endF | with_reducible refine impC_seq ?_ | with_reducible refine impC_block ?_ | ((with_reducible refine impC_rnd ?_); intro _) | ((with_reducible refine impC_brk ?_); intro _))))); (intro s o hm; first | unfold sc_reply_StandingAt_L1); rotate_left; intro s hm)) | (((apply imp_stT; (repeat' (first | with_reducible exact keepT_nil | with_reducible exact keepC_nil | with_reducible apply keepT_cons | with_reducible apply keepC_cons | ((with_reducible apply svle_eq); (focus (first | (simp only [push_cast, seval]; rfl) | rfl)); (focus ((repeat' (first | rfl | (with_reducible first | apply fT_Tapi_BookEvent | apply fT_Tapi_Sending | apply fT_Tapi_Standing | apply f_optN | apply f_optS | apply f_some | apply f_tup | apply f_agg | apply f_ptr | apply f_fn | apply dv_slice | apply sv_d | apply f_cons | apply fold_nil | apply fold_cons | apply fold_app | apply f_rowI | apply f_rowY | apply f_rowS | apply f_rowB | apply f_rowL) | (with_reducible apply f_byte; decide))); done))) | ((with_reducible apply svle_td); (focus (first | (simp only [push_cast, seval]; rfl) | rfl)); (focus (first | (simp only [push_cast, seval]; rfl) | rfl)); (focus ((repeat' (first | rfl | (with_reducible first | apply fT_Tapi_BookEvent | apply fT_Tapi_Sending | apply fT_Tapi_Standing | apply f_optN | apply f_optS | apply f_some | apply f_tup | apply f_agg | apply f_ptr | apply f_fn | apply dv_slice | apply sv_d | apply f_cons | apply fold_nil | apply fold_cons | apply fold_app | apply f_rowI | apply f_rowY | apply f_rowS | apply f_rowB | apply f_rowL) | (with_reducible apply f_byte; decide))); done))) | ((with_reducible apply chle_eq); (focus (first | (simp only [push_cast, seval]; rfl) | rfl)); (first | with_reducible exact chle_rfl rfl | with_reducible exact chle_map0 | with_reducible apply chle_vec | with_reducible apply chle_box)) | (with_reducible first | apply cT_Tapi_BookEvent | apply cT_Tapi_Sending | apply cT_Tapi_Standing | apply r_shS | apply r_shI | apply r_rflO | apply r_oneO | apply r_appO | apply r_nilO | apply c_ownN | apply c_ownL | apply vc_rfl | apply vc_nil | apply vc_cons | apply r_rfl | apply r_rows | apply r_nil | apply r_app | apply r_cons | apply c_rowI | apply c_rowY | apply c_rowS | apply c_rowB | apply c_rowL))); done))))
noncomputable def m_reply_StandingAt (x0 : List Tapi_BookEvent) (x1 : Int) : Option (Tapi_Standing × Int) := (sims_G9_4_0 x0 x1).1
theorem spec_reply_StandingAt (x0 : List Tapi_BookEvent) (x1 : Int) : ∀ r, m_reply_StandingAt x0 x1 = some r → PureSpec Tryd.prog 18 [.slice (List.map rTapi_BookEvent x0), .int .i64 x1] (.tup [.agg (rTapi_Standing r.1), .int .i64 r.2]) := (sims_G9_4_0 x0 x1).2

/-- interchange/interchangelaw7.awake -/
def sc_interchangelaw7_awake : SC :=
  (.seq (.reg [.r 0 (.mv (.c (.d (.bool false))))])
  (.seq (.reg [.r 4 (.build [.d (.int .i64 0), .d (.int .i64 0), .d (.int .i64 0), .d (.str []), .d (.int .i64 0)] [(0, 1, .c (.d (.int .i64 1))), (3, 1, .c (.d (.str [65])))]),
     .r 5 (.bslice 5 [.t 4]),
     .c 6 (.f 18) [.t 5, .c (.d (.int .i64 0))],
     .r 3 (.mv (.t 6)),
     .r 7 (.ext (.t 3) 0),
     .r 8 (.ext (.t 3) 1),
     .w 1 (.boxM (.c (.agg [.d (.int .i64 0), .d (.int .i64 0), .d (.int .i64 0), .d (.int .i64 0), .d (.int .i64 0), .d (.int .i64 0)]))),
     .w 0 (.st 6 (.t 1) (.t 7)),
     .r 2 (.mv (.t 8))])
  (.seq (.reg (.r 9 (.mv (.t 2)) :: .r 10 (.bin .eql (.t 9) (.c (.d (.int .i64 0)))) :: .r 11 (.mv (.t 10)) :: gapp [12, 13, 14] 11 true (.r 12 (.fld 0 (.t 1)) :: .r 13 (.ld1 (.t 12)) :: .r 14 (.bin .eql (.t 13) (.c (.d (.int .i64 1)))) :: []) (.r 15 (.pick (.t 11) (.t 14) (.c (.d (.bool false)))) :: .r 0 (.mv (.t 15)) :: [])))
  .ret)))
theorem fit_interchangelaw7_awake : fits Tryd.prog 15 Tryd.f15 sc_interchangelaw7_awake [.t 0] 0 = true := by kernel_rfl

set_option maxRecDepth 100000 in
set_option maxHeartbeats 40000000 in
noncomputable def sims_G9_5_0 : ({m : Option (Bool) // ∀ r, m = some r → PureSpec Tryd.prog 15 [] (.bool r)}) := by
  (apply Subtype.mk; intro r hm; apply pure_walk Tryd.func15 fit_interchangelaw7_awake; unfold sc_interchangelaw7_awake)
  repeat' (first | with_reducible refine W_seq ?_ | with_reducible refine W_reg ?_ | with_reducible refine W_block ?_ | with_reducible refine W_skip ?_ | with_reducible refine W_ret ?_ | with_reducible refine W_exit ?_ | with_reducible refine O_nil ?_ | with_reducible refine K_seq ?_ | with_reducible refine K_seqE ?_ | with_reducible refine K_seqR ?_ | with_reducible refine K_block ?_ | with_reducible refine K_blockR ?_ | with_reducible refine K_blockE ?_ | ((with_reducible apply K_blockN); decide) | ((with_reducible apply O_r); (simp only [push_cast, seval]; rfl); (first | exact trivial | omega)) | ((with_reducible apply O_and hm); (simp only [push_cast, seval]; rfl); rfl; intro v hm; rotate_left; intro v g hm) | ((with_reducible apply W_condT); (focus (simp only [push_cast, seval]; done))) | ((with_reducible apply W_condF); (focus (simp only [push_cast, seval]; done))) | ((with_reducible apply O_cF hm); (simp only [push_cast, seval]; rfl); (first | apply spec_reply_StandingAt _ _); (any_goals ((repeat' (first | rfl | (with_reducible first | apply fT_Tapi_BookEvent | apply fT_Tapi_Standing | apply f_optN | apply f_optS | apply f_some | apply f_tup | apply f_agg | apply f_ptr | apply f_fn | apply dv_slice | apply sv_d | apply f_cons | apply fold_nil | apply fold_cons | apply fold_app | apply f_rowI | apply f_rowY | apply f_rowS | apply f_rowB | apply f_rowL) | (with_reducible apply f_byte; decide))); done)); intro x hm) | ((with_reducible apply O_w); (simp only [push_cast, seval]; rfl); (first | exact trivial | omega)) | ((with_reducible apply S_condB hm); (simp only [push_cast, seval]; rfl); intro hm; rotate_left; intro hm) | ((with_reducible apply K_endS hm); (focus (simp only [resOf, resL, RV.get, push_cast, seval]; rfl)); (focus ((repeat' (first | rfl | (with_reducible first | apply fT_Tapi_BookEvent | apply fT_Tapi_Standing | apply f_optN | apply f_optS | apply f_some | apply f_tup | apply f_agg | apply f_ptr | apply f_fn | apply dv_slice | apply sv_d | apply f_cons | apply fold_nil | apply fold_cons | apply fold_app | apply f_rowI | apply f_rowY | apply f_rowS | apply f_rowB | apply f_rowL) | (with_reducible apply f_byte; decide))); done))) | ((with_reducible apply K_bool hm); (simp only [push_cast, seval]; rfl)))
noncomputable def m_interchangelaw7_awake : Option (Bool) := (sims_G9_5_0 ).1
theorem spec_interchangelaw7_awake : ∀ r, m_interchangelaw7_awake  = some r → PureSpec Tryd.prog 15 [] (.bool r) := (sims_G9_5_0 ).2

/-- interchange/interchangelaw7.ReplyChecksMatchSpec -/
def sc_interchangelaw7_ReplyChecksMatchSpec : SC :=
  (.seq (.reg [.r 1 (.boxI (.t 0)),
     .r 2 (.mv (.c (.d (.bool false))))])
  (.seq (.reg [.o 8 (.ldA 3 (.t 1)),
     .c 9 (.f 10) [.t 8],
     .r 7 (.mv (.t 9)),
     .r 10 (.ext (.t 7) 0),
     .r 11 (.ext (.t 7) 1),
     .r 3 (.mv (.t 10)),
     .r 4 (.mv (.t 11))])
  (.seq (.reg [.o 13 (.ldA 3 (.t 1)),
     .c 14 (.f 11) [.t 13],
     .r 12 (.mv (.t 14)),
     .r 15 (.ext (.t 12) 0),
     .r 16 (.ext (.t 12) 1),
     .r 5 (.mv (.t 15)),
     .r 6 (.mv (.t 16))])
  (.seq (.regD (.r 17 (.ldA 3 (.t 1)) :: .c 18 (.f 12) [.t 17] :: .r 19 (.ldA 3 (.t 1)) :: .c 20 (.f 13) [.t 19] :: .r 21 (.bin .eql (.t 18) (.t 20)) :: .r 22 (.mv (.t 21)) :: gapp [23, 24, 25] 22 true (.r 23 (.mv (.t 3)) :: .r 24 (.mv (.t 5)) :: .c 25 (.f 14) [.t 23, .t 24] :: []) (.r 26 (.pick (.t 22) (.t 25) (.c (.d (.bool false)))) :: .r 27 (.mv (.t 26)) :: gapp [28, 29, 30] 27 true (.r 28 (.mv (.t 4)) :: .r 29 (.mv (.t 6)) :: .r 30 (.bin .eql (.t 28) (.t 29)) :: []) (.r 31 (.pick (.t 27) (.t 30) (.c (.d (.bool false)))) :: .r 32 (.mv (.t 31)) :: gapp [33] 32 true (.c 33 (.f 15) [] :: []) (.r 34 (.pick (.t 32) (.t 33) (.c (.d (.bool false)))) :: .r 2 (.mv (.t 34)) :: [])))))
  .ret))))
theorem fit_interchangelaw7_ReplyChecksMatchSpec : fits Tryd.prog 3 Tryd.f3 sc_interchangelaw7_ReplyChecksMatchSpec [.t 2] 1 = true := by kernel_rfl

set_option maxRecDepth 100000 in
set_option maxHeartbeats 40000000 in
noncomputable def sims_G9_6_0 : (∀ (x0 : Tapi_Reply), {m : Option (Bool) // ∀ r, m = some r → PureSpec Tryd.prog 3 [.agg (rTapi_Reply x0)] (.bool r)}) := by
  (intro x0; apply Subtype.mk; intro r hm; apply pure_walk Tryd.func3 fit_interchangelaw7_ReplyChecksMatchSpec; unfold sc_interchangelaw7_ReplyChecksMatchSpec)
  repeat' (first | with_reducible refine W_seq ?_ | with_reducible refine W_reg ?_ | with_reducible refine W_regD ?_ | with_reducible refine W_block ?_ | with_reducible refine W_skip ?_ | with_reducible refine W_ret ?_ | with_reducible refine W_exit ?_ | with_reducible refine O_nil ?_ | with_reducible refine K_seq ?_ | with_reducible refine K_seqE ?_ | with_reducible refine K_seqR ?_ | with_reducible refine K_block ?_ | with_reducible refine K_blockR ?_ | with_reducible refine K_blockE ?_ | ((with_reducible apply K_blockN); decide) | with_reducible refine O_o2r ?_ | ((with_reducible apply O_r); (simp only [push_cast, seval]; rfl); (first | exact trivial | omega)) | ((with_reducible apply O_and hm); (simp only [push_cast, seval]; rfl); rfl; intro v hm; rotate_left; intro v g hm) | ((with_reducible apply W_condT); (focus (simp only [push_cast, seval]; done))) | ((with_reducible apply W_condF); (focus (simp only [push_cast, seval]; done))) | ((with_reducible apply O_cF hm); (simp only [push_cast, seval]; rfl); (first | apply spec_reply_Segments _ | apply spec_interchangeref7_Segments _ | apply spec_reply_CheckReply _ | apply spec_interchangeref7_CheckReply _ | apply spec_interchangeref2_SameSegments _ _ | apply spec_interchangelaw7_awake); (any_goals ((repeat' (first | rfl | (with_reducible first | apply fT_Tapi_Element | apply fT_Tapi_Flaw | apply fT_Tapi_GroupReply | apply fT_Tapi_MessageReply | apply fT_Tapi_Reply | apply fT_Tapi_Segment | apply fT_Tapi_Spot | apply f_optN | apply f_optS | apply f_some | apply f_tup | apply f_agg | apply f_ptr | apply f_fn | apply dv_slice | apply sv_d | apply f_cons | apply fold_nil | apply fold_cons | apply fold_app | apply f_rowI | apply f_rowY | apply f_rowS | apply f_rowB | apply f_rowL) | (with_reducible apply f_byte; decide))); done)); intro x hm) | ((with_reducible apply S_condB hm); (simp only [push_cast, seval]; rfl); intro hm; rotate_left; intro hm) | ((with_reducible apply K_endS hm); (focus (simp only [resOf, resL, RV.get, push_cast, seval]; rfl)); (focus ((repeat' (first | rfl | (with_reducible first | apply fT_Tapi_Element | apply fT_Tapi_Flaw | apply fT_Tapi_GroupReply | apply fT_Tapi_MessageReply | apply fT_Tapi_Reply | apply fT_Tapi_Segment | apply fT_Tapi_Spot | apply f_optN | apply f_optS | apply f_some | apply f_tup | apply f_agg | apply f_ptr | apply f_fn | apply dv_slice | apply sv_d | apply f_cons | apply fold_nil | apply fold_cons | apply fold_app | apply f_rowI | apply f_rowY | apply f_rowS | apply f_rowB | apply f_rowL) | (with_reducible apply f_byte; decide))); done))) | ((with_reducible apply K_bool hm); (simp only [push_cast, seval]; rfl)))
noncomputable def m_interchangelaw7_ReplyChecksMatchSpec (x0 : Tapi_Reply) : Option (Bool) := (sims_G9_6_0 x0).1
theorem spec_interchangelaw7_ReplyChecksMatchSpec (x0 : Tapi_Reply) : ∀ r, m_interchangelaw7_ReplyChecksMatchSpec x0 = some r → PureSpec Tryd.prog 3 [.agg (rTapi_Reply x0)] (.bool r) := (sims_G9_6_0 x0).2

end Go.Proofs.YtpojlkajcobgcaaDoor

/-
  How the parameters of the laws of this seat read, and a world in which the listed tables lie (printed by wip/tool/row.py).
-/
namespace Go.Proofs.YtpojlkajcobgcaaDoor
open Go.ChangeShapes Go.WideShapes Go.ChangeAt Go.RowKit
set_option linter.unusedSimpArgs false
set_option linter.unusedVariables false
theorem and_t {a b : Bool} (h1 : a = true) (h2 : b = true) : (a && b) = true := by rw [h1, h2]; rfl
/-- How a value of a type reads. -/
def Wt (P : Program) (n : Nat) (t : TypeId) {α : Type} (row : α → List DV) (ok : α → Prop) : Prop := ∀ m ds, WT P (m + n) t ds → ∃ x, ds = row x ∧ ok x
theorem Wt.up {P : Program} {n : Nat} {t : TypeId} {α : Type} {row : α → List DV} {ok : α → Prop} (h : Wt P n t row ok) (k : Nat) : Wt P (n + k) t row ok := fun m ds hd => h (m + k) ds (by rwa [show m + k + n = m + (n + k) by omega])
def okI (n : Int) : Prop := -9223372036854775808 ≤ n ∧ n ≤ 9223372036854775807
def okS (s : List UInt8) : Prop := s.length ≤ 9223372036854775807
def okB (_ : Bool) : Prop := True
def okL {α : Type} (ok : α → Prop) (l : List α) : Prop := l.length ≤ 9223372036854775807 ∧ ∀ a ∈ l, ok a
theorem WT_struct {P : Program} {n : Nat} {t : TypeId} {fs : Array Field} {ds : List DV} (hu : P.underlying t = some (.struct fs)) (h : WT P (n + 1) t ds) : WTS (WT P n) fs.toList ds := by
  simp only [WT, hu] at h; exact h
theorem wt_int {P : Program} {t : TypeId} (hu : P.underlying t = some (.int .i64)) : Wt P 1 t rowI okI := by
  intro m ds h
  simp only [WT, hu] at h
  obtain ⟨k, rfl, hw⟩ := h
  refine ⟨k, rfl, ?_⟩
  simp [Lit.wf] at hw
  have e : IntKind.i64.min = -9223372036854775808 := by decide
  unfold okI; omega
theorem wt_bool {P : Program} {t : TypeId} (hu : P.underlying t = some .bool) : Wt P 1 t rowB okB := by
  intro m ds h
  simp only [WT, hu] at h
  obtain ⟨b, rfl⟩ := h
  exact ⟨b, rfl, trivial⟩
theorem wt_str {P : Program} {t : TypeId} (hu : P.underlying t = some .string) : Wt P 1 t rowS okS := by
  intro m ds h
  simp only [WT, hu] at h
  obtain ⟨b, rfl, hl⟩ := h
  exact ⟨b, rfl, by unfold okS; unfold maxLen at hl; omega⟩
theorem wt_slice {P : Program} {n : Nat} {t e : TypeId} {α : Type} {row : α → List DV} {ok : α → Prop} (hu : P.underlying t = some (.slice e)) (he : Wt P n e row ok) : Wt P (n + 1) t (rowL row) (okL ok) := by
  intro m ds h
  rw [show m + (n + 1) = (m + n) + 1 by omega] at h
  simp only [WT, hu] at h
  obtain ⟨rows, rfl, hl, hr⟩ := h
  have : ∀ rows : List (List DV), (∀ r ∈ rows, WT P (m + n) e r) → ∃ l : List α, rows = l.map row ∧ ∀ a ∈ l, ok a := by
    intro rows
    induction rows with
    | nil => intro _; exact ⟨[], rfl, by simp⟩
    | cons r rows ih =>
      intro h
      obtain ⟨a, rfl, ha⟩ := he m r (h r (by simp))
      obtain ⟨l, rfl, hl⟩ := ih (fun r hr => h r (by simp [hr]))
      exact ⟨a :: l, rfl, by simpa using ⟨ha, hl⟩⟩
  obtain ⟨l, rfl, hok⟩ := this rows hr
  exact ⟨l, rfl, by unfold maxLen at hl; simp at hl; omega, hok⟩
theorem ownK : ownKnob Tryd.prog.godebug = none := by kernel_rfl
theorem laidOut : laidOutB Tryd.prog = true := by kernel_rfl
theorem wt9 : Wt Tryd.prog 1 9 rowS okS := wt_str Tryd.underlying9
theorem wt3 : Wt Tryd.prog 1 3 rowI okI := wt_int Tryd.underlying3
theorem wt4 : Wt Tryd.prog 1 4 rowB okB := wt_bool Tryd.underlying4
def okTapi_Spot (x : Tapi_Spot) : Prop := okI x.fElement ∧ okI x.fRepeat ∧ okI x.fPart
set_option maxRecDepth 100000 in
theorem wt99 : Wt Tryd.prog 2 99 rTapi_Spot okTapi_Spot := by
  intro m ds h
  have h := WT_struct Tryd.underlying99 h
  simp only [WTS] at h
  obtain ⟨a0, _, rfl, h0, a1, _, rfl, h1, a2, _, rfl, h2, rfl⟩ := h
  obtain ⟨x0, rfl, o0⟩ := (wt3.up 0) m _ h0
  obtain ⟨x1, rfl, o1⟩ := (wt3.up 0) m _ h1
  obtain ⟨x2, rfl, o2⟩ := (wt3.up 0) m _ h2
  refine ⟨⟨x0, x1, x2⟩, ?_, o0, o1, o2⟩
  simp only [rTapi_Spot, rowI, rowY, rowS, rowB, rowL, List.append_assoc, List.cons_append, List.nil_append, List.append_nil]
def okTapi_Flaw (x : Tapi_Flaw) : Prop := okI x.fKind ∧ okI x.fSegment ∧ okTapi_Spot x.fAt ∧ okS x.fName
set_option maxRecDepth 100000 in
theorem wt101 : Wt Tryd.prog 3 101 rTapi_Flaw okTapi_Flaw := by
  intro m ds h
  have h := WT_struct Tryd.underlying101 h
  simp only [WTS] at h
  obtain ⟨a0, _, rfl, h0, a1, _, rfl, h1, a2, _, rfl, h2, a3, _, rfl, h3, rfl⟩ := h
  obtain ⟨x0, rfl, o0⟩ := (wt3.up 1) m _ h0
  obtain ⟨x1, rfl, o1⟩ := (wt3.up 1) m _ h1
  obtain ⟨x2, rfl, o2⟩ := (wt99.up 0) m _ h2
  obtain ⟨x3, rfl, o3⟩ := (wt9.up 1) m _ h3
  refine ⟨⟨x0, x1, x2, x3⟩, ?_, o0, o1, o2, o3⟩
  simp only [rTapi_Flaw, rowI, rowY, rowS, rowB, rowL, List.append_assoc, List.cons_append, List.nil_append, List.append_nil]
theorem wt94 : Wt Tryd.prog 4 94 (rowL rTapi_Flaw) (okL okTapi_Flaw) := wt_slice Tryd.underlying94 wt101
theorem wt40 : Wt Tryd.prog 2 40 (rowL rowS) (okL okS) := wt_slice Tryd.underlying40 wt9
def okTapi_MessageReply (x : Tapi_MessageReply) : Prop := okS x.fRef ∧ okI x.fVerdict ∧ okB x.fUnknown ∧ (okL okTapi_Flaw) x.fFlaws ∧ (okL okS) x.fFailing
set_option maxRecDepth 100000 in
theorem wt96 : Wt Tryd.prog 5 96 rTapi_MessageReply okTapi_MessageReply := by
  intro m ds h
  have h := WT_struct Tryd.underlying96 h
  simp only [WTS] at h
  obtain ⟨a0, _, rfl, h0, a1, _, rfl, h1, a2, _, rfl, h2, a3, _, rfl, h3, a4, _, rfl, h4, rfl⟩ := h
  obtain ⟨x0, rfl, o0⟩ := (wt9.up 3) m _ h0
  obtain ⟨x1, rfl, o1⟩ := (wt3.up 3) m _ h1
  obtain ⟨x2, rfl, o2⟩ := (wt4.up 3) m _ h2
  obtain ⟨x3, rfl, o3⟩ := (wt94.up 0) m _ h3
  obtain ⟨x4, rfl, o4⟩ := (wt40.up 2) m _ h4
  refine ⟨⟨x0, x1, x2, x3, x4⟩, ?_, o0, o1, o2, o3, o4⟩
  simp only [rTapi_MessageReply, rowI, rowY, rowS, rowB, rowL, List.append_assoc, List.cons_append, List.nil_append, List.append_nil]
theorem wt91 : Wt Tryd.prog 6 91 (rowL rTapi_MessageReply) (okL okTapi_MessageReply) := wt_slice Tryd.underlying91 wt96
def okTapi_GroupReply (x : Tapi_GroupReply) : Prop := okS x.fRef ∧ okI x.fVerdict ∧ (okL okTapi_MessageReply) x.fMessages
set_option maxRecDepth 100000 in
theorem wt93 : Wt Tryd.prog 7 93 rTapi_GroupReply okTapi_GroupReply := by
  intro m ds h
  have h := WT_struct Tryd.underlying93 h
  simp only [WTS] at h
  obtain ⟨a0, _, rfl, h0, a1, _, rfl, h1, a2, _, rfl, h2, rfl⟩ := h
  obtain ⟨x0, rfl, o0⟩ := (wt9.up 5) m _ h0
  obtain ⟨x1, rfl, o1⟩ := (wt3.up 5) m _ h1
  obtain ⟨x2, rfl, o2⟩ := (wt91.up 0) m _ h2
  refine ⟨⟨x0, x1, x2⟩, ?_, o0, o1, o2⟩
  simp only [rTapi_GroupReply, rowI, rowY, rowS, rowB, rowL, List.append_assoc, List.cons_append, List.nil_append, List.append_nil]
theorem wt22 : Wt Tryd.prog 8 22 (rowL rTapi_GroupReply) (okL okTapi_GroupReply) := wt_slice Tryd.underlying22 wt93
def okTapi_Reply (x : Tapi_Reply) : Prop := okS x.fRef ∧ okI x.fVerdict ∧ (okL okTapi_GroupReply) x.fGroups
set_option maxRecDepth 100000 in
theorem wt24 : Wt Tryd.prog 9 24 rTapi_Reply okTapi_Reply := by
  intro m ds h
  have h := WT_struct Tryd.underlying24 h
  simp only [WTS] at h
  obtain ⟨a0, _, rfl, h0, a1, _, rfl, h1, a2, _, rfl, h2, rfl⟩ := h
  obtain ⟨x0, rfl, o0⟩ := (wt9.up 7) m _ h0
  obtain ⟨x1, rfl, o1⟩ := (wt3.up 7) m _ h1
  obtain ⟨x2, rfl, o2⟩ := (wt22.up 0) m _ h2
  refine ⟨⟨x0, x1, x2⟩, ?_, o0, o1, o2⟩
  simp only [rTapi_Reply, rowI, rowY, rowS, rowB, rowL, List.append_assoc, List.cons_append, List.nil_append, List.append_nil]
def layVals : Nat → DataW Unit → List Value
  | 0, _ => []
  | _ + 1, .lit (.int k n) => [.int k n]
  | n + 1, .agg ps => ps.flatMap (layVals n)
  | _ + 1, _ => []
/-- The settled world, with the listed tables in it. -/
def layCells (l : List Value) : Obj → Obj
  | .cells _ t frozen => .cells l.toArray t frozen
  | o => o
noncomputable def laidWorld (os : Os) : World :=
  { World.holding Tryd.prog os ⟨#[], #[], []⟩ with
    heap := ((((((World.holding Tryd.prog os ⟨#[], #[], []⟩).heap.modify 4 (layCells (layVals 5 Rows.laid_math_bits_deBruijn32tab))).modify 5 (layCells (layVals 5 Rows.laid_math_bits_deBruijn64tab))).modify 0 (layCells (layVals 5 Rows.laid_internal_strconv_uint64pow10))).modify 3 (layCells (layVals 5 Rows.laid_unicode_utf8_acceptRanges))).modify 2 (layCells (layVals 5 Rows.laid_unicode_utf8_first))) }
end Go.Proofs.YtpojlkajcobgcaaDoor

/-
  Gathers texts.
-/


/-
  Gathers texts.
-/


/-
  Plain laws: small computations, and loops whose rounds are known.
-/
namespace Go.Proofs.YtpojlkajcobgcaaDoor
set_option linter.unusedSimpArgs false
set_option linter.unusedVariables false
open Go.RowKit

/-! ### Small computations that cannot fail -/
theorem andO_some (a b : Bool) : andO a (some b) = some (a && b) := by cases a <;> rfl
theorem orO_some (a b : Bool) : orO a (some b) = some (a || b) := by cases a <;> rfl
theorem getI_nat {α : Type} (l : List α) (i : Nat) : getI l (i : Int) = l[i]? := by simp [getI]
theorem thenO_some {R : Type} {c : Option Unit} {m : Option R} (h : c = some ()) : thenO c m = m := by rw [h]; rfl
theorem lenO_ok {n : Nat} (h : n ≤ 137438953472) : lenO n = some () := by simp [lenO, h]
theorem wrapN (i : Nat) (h : i < 9223372036854775807) : IntKind.i64.wrap ((i : Int) + 1) = ((i + 1 : Nat) : Int) := by rw [wrap64 _ (by omega) (by omega)]; simp


/-! ### Loops whose rounds are known -/
theorem loop_trace {S A : Type} {f : S → Option (S ⊕ A)} {a : A} (st : Nat → S) (n : Nat) (hs : ∀ i, i < n → f (st i) = some (.inl (st (i + 1)))) (he : f (st n) = some (.inr a)) : loopC f (st 0) = some a := by
  have : ∀ k, k ≤ n → loopC f (st (n - k)) = some a := by
    intro k
    induction k with
    | zero => intro _; rw [loopC_eq, Nat.sub_zero, he]
    | succ k ih =>
      intro hk
      rw [loopC_eq, hs (n - (k + 1)) (by omega), show n - (k + 1) + 1 = n - k by omega]
      exact ih (by omega)
  have := this n (Nat.le_refl n)
  rwa [Nat.sub_self] at this
theorem bind_loop {S A R : Type} {f : S → Option (S ⊕ A)} {s0 : S} {k : A → Option R} {a : A} {r : Option R} (h : loopC f s0 = some a) (hk : k a = r) : (loopC f s0).bind k = r := by rw [h]; exact hk
/-- The first that there is. -/
def firstS {A : Type} (g : Nat → Option A) : Nat → Nat → Option A
  | _, 0 => none
  | i, n + 1 => match g i with
    | some a => some a
    | none => firstS g (i + 1) n
theorem firstS_skip {A : Type} {g : Nat → Option A} : ∀ (i n k : Nat), k ≤ n → (∀ j, i ≤ j → j < i + k → g j = none) → firstS g i n = firstS g (i + k) (n - k)
  | i, n, 0, _, _ => by simp
  | i, 0, k + 1, h, _ => by omega
  | i, n + 1, k + 1, h, hz => by
    have h1 := hz i (by omega) (by omega)
    simp only [firstS, h1]
    rw [firstS_skip (i + 1) n k (by omega) (fun j hj hj' => hz j (by omega) (by omega))]
    congr 1 <;> omega
theorem firstS_none {A : Type} {g : Nat → Option A} {n : Nat} (h : ∀ j, j < n → g j = none) : firstS g 0 n = none := by
  rw [firstS_skip 0 n n (by omega) (fun j _ hj => h j (by omega)), Nat.sub_self]; rfl
theorem firstS_some {A : Type} {g : Nat → Option A} {n k : Nat} {a : A} (hk : k < n) (hb : ∀ j, j < k → g j = none) (ha : g k = some a) : firstS g 0 n = some a := by
  rw [firstS_skip 0 n k (by omega) (fun j _ hj => hb j (by omega))]
  obtain ⟨m, hm⟩ : ∃ m, n - k = m + 1 := ⟨n - k - 1, by omega⟩
  rw [hm, Nat.zero_add]
  simp only [firstS, ha]
theorem firstS_cases {A : Type} (g : Nat → Option A) (n : Nat) : (firstS g 0 n = none ∧ ∀ j, j < n → g j = none) ∨ ∃ k a, k < n ∧ (∀ j, j < k → g j = none) ∧ g k = some a ∧ firstS g 0 n = some a := by
  by_cases h : ∃ k, k < n ∧ (g k).isSome = true
  · have : ∃ k, (k < n ∧ (g k).isSome = true) ∧ ∀ j, j < k → ¬ (j < n ∧ (g j).isSome = true) := by
      obtain ⟨k, hk⟩ := h
      induction k using Nat.strongRecOn with
      | _ k ih =>
        by_cases hj : ∃ j, j < k ∧ (j < n ∧ (g j).isSome = true)
        · obtain ⟨j, h1, h2⟩ := hj; exact ih j h1 h2
        · exact ⟨k, hk, fun j h1 h2 => hj ⟨j, h1, h2⟩⟩
    obtain ⟨k, ⟨h1, h2⟩, h3⟩ := this
    obtain ⟨a, ha⟩ := Option.isSome_iff_exists.1 h2
    have hb : ∀ j, j < k → g j = none := fun j hj => by
      have := h3 j hj
      cases hg : g j with
      | none => rfl
      | some b => exact absurd ⟨by omega, by simp [hg]⟩ this
    exact .inr ⟨k, a, h1, hb, ha, firstS_some h1 hb ha⟩
  · have hn : ∀ j, j < n → g j = none := fun j hj => by
      cases hg : g j with
      | none => rfl
      | some b => exact absurd ⟨j, hj, by simp [hg]⟩ h
    exact .inl ⟨firstS_none hn, hn⟩
theorem loop_first {S A : Type} {f : S → Option (S ⊕ A)} {z : A} (st : Nat → S) (n : Nat) (g : Nat → Option A) (hs : ∀ i, i < n → g i = none → f (st i) = some (.inl (st (i + 1)))) (hx : ∀ i a, i < n → g i = some a → f (st i) = some (.inr a)) (he : f (st n) = some (.inr z)) : loopC f (st 0) = some ((firstS g 0 n).getD z) := by
  rcases firstS_cases g n with ⟨h1, h2⟩ | ⟨k, a, h1, h2, h3, h4⟩
  · rw [h1, Option.getD_none]
    exact loop_trace st n (fun i hi => hs i hi (h2 i hi)) he
  · rw [h4, Option.getD_some]
    exact loop_trace st k (fun i hi => hs i (by omega) (h2 i hi)) (hx k a h1 h3)
theorem take_snoc {α : Type} {l : List α} {i : Nat} {e : α} (h : l[i]? = some e) : l.take (i + 1) = l.take i ++ [e] := by rw [List.take_add_one, h]; rfl
theorem foldl_snoc {α β : Type} {g : β → α → β} {b : β} {l : List α} {i : Nat} {e : α} (h : l[i]? = some e) : (l.take (i + 1)).foldl g b = g ((l.take i).foldl g b) e := by
  rw [take_snoc h, List.foldl_append]; rfl
theorem get_lt {α : Type} {l : List α} {i : Nat} (h : i < l.length) : ∃ e, l[i]? = some e := ⟨_, List.getElem?_eq_getElem h⟩
theorem lt_dec {i n : Nat} (h : i < n) : decide ((i : Int) < (n : Int)) = true := by simpa using h
theorem lt_dec_self (n : Nat) : decide ((n : Int) < (n : Int)) = false := by simp
end Go.Proofs.YtpojlkajcobgcaaDoor

/-
  Plain laws of the wire: marks.
-/
namespace Go.Proofs.YtpojlkajcobgcaaDoor
set_option linter.unusedSimpArgs false
set_option linter.unusedVariables false
open Go.RowKit

end Go.Proofs.YtpojlkajcobgcaaDoor

/-
  Plain laws of the wire: a byte that may be a mark.
-/
namespace Go.Proofs.YtpojlkajcobgcaaDoor
set_option linter.unusedSimpArgs false
set_option linter.unusedVariables false
open Go.RowKit

def tagSet : List UInt8 := [65, 66, 67, 68, 69, 70, 71, 72, 73, 74, 75, 76, 77, 78, 79, 80, 81, 82, 83, 84, 85, 86, 87, 88, 89, 90, 48, 49, 50, 51, 52, 53, 54, 55, 56, 57]
theorem isTagPart_eq (l : List UInt8) (hl : l.length ≤ 9223372036854775807) : m_kit_IsTagPart l = some (decide (Lib.trimS l tagSet = [])) := by
  unfold m_kit_IsTagPart sims_G1_1_0; dsimp only
  have : m_strings_Trim l tagSet = some (Lib.trimS l tagSet) := by unfold m_strings_Trim; rw [if_pos ⟨hl, by decide, by decide⟩]
  simp only [tagSet] at this ⊢
  rw [this]
  rfl
end Go.Proofs.YtpojlkajcobgcaaDoor

/-
  Plain laws of the wire: texts.
-/
namespace Go.Proofs.YtpojlkajcobgcaaDoor
set_option linter.unusedSimpArgs false
set_option linter.unusedVariables false
open Go.RowKit

end Go.Proofs.YtpojlkajcobgcaaDoor

/-
  Plain laws: loops over lists with a state and an early end; folds over nested lists.
-/
namespace Go.Proofs.YtpojlkajcobgcaaDoor
set_option linter.unusedSimpArgs false
set_option linter.unusedVariables false
open Go.RowKit

/-- A loop over a list: the number, the state and the element give the next state or the end. -/
def runI {α S A : Type} (g : Nat → S → α → Option (S ⊕ A)) (fin : S → Option A) : List α → Nat → S → Option A
  | [], _, s => fin s
  | e :: l, i, s => match g i s e with
    | some (.inl s') => runI g fin l (i + 1) s'
    | some (.inr a) => some a
    | none => none
theorem drop_head {α : Type} {l t : List α} {e : α} {i : Nat} (hd : l.drop i = e :: t) : l[i]? = some e ∧ i < l.length ∧ l.drop (i + 1) = t := by
  refine ⟨?_, ?_, ?_⟩
  · have := congrArg (fun q => q[0]?) hd
    simpa using this
  · rcases Nat.lt_or_ge i l.length with h | h
    · exact h
    · rw [List.drop_eq_nil_of_le h] at hd; cases hd
  · have := congrArg List.tail hd
    simpa using this
theorem drop_nil_len {α : Type} {l : List α} {i : Nat} (hd : l.drop i = []) (hi : i ≤ l.length) : i = l.length := by
  have := congrArg List.length hd; simp at this; omega
theorem loop_runI {α S T A : Type} (l : List α) (mk : Nat → S → T) (g : Nat → S → α → Option (S ⊕ A)) (fin : S → Option A) {f : T → Option (T ⊕ A)}
    (hb : ∀ (i : Nat) (e : α) (s : S), l[i]? = some e → f (mk i s) = (match g i s e with | some (.inl s') => some (.inl (mk (i + 1) s')) | some (.inr a) => some (.inr a) | none => none))
    (he : ∀ s, f (mk l.length s) = (fin s).map .inr) (s : S) : loopC f (mk 0 s) = runI g fin l 0 s := by
  have : ∀ (t : List α) (i : Nat) (s : S), l.drop i = t → i ≤ l.length → loopC f (mk i s) = runI g fin t i s := by
    intro t
    induction t with
    | nil =>
      intro i s hd hi
      have := drop_nil_len hd hi
      subst this
      rw [loopC_eq, he]
      simp only [runI]
      cases fin s <;> rfl
    | cons e t ih =>
      intro i s hd hi
      obtain ⟨h1, h2, h3⟩ := drop_head hd
      rw [loopC_eq, hb i e s h1]
      simp only [runI]
      cases g i s e with
      | none => rfl
      | some o =>
        cases o with
        | inr a => rfl
        | inl s' => exact ih (i + 1) s' h3 h2
  exact this l 0 s rfl (Nat.zero_le _)
/-- A loop over a list whose state before each round is known from what is before. -/
theorem loop_pre {α T A : Type} (l : List α) (st : Nat → List α → T) {f : T → Option (T ⊕ A)} {a : A}
    (hb : ∀ (i : Nat) (e : α), l[i]? = some e → f (st i (l.take i)) = some (.inl (st (i + 1) (l.take i ++ [e]))))
    (he : f (st l.length l) = some (.inr a)) : loopC f (st 0 []) = some a := by
  have := loop_trace (f := f) (a := a) (fun i => st i (l.take i)) l.length (fun i hi => by
    obtain ⟨e, h⟩ := get_lt hi
    show f (st i (l.take i)) = some (.inl (st (i + 1) (l.take (i + 1))))
    rw [hb i e h, take_snoc h]) (by
    show f (st l.length (l.take l.length)) = _
    rw [List.take_length]; exact he)
  simpa using this
theorem get_le {α : Type} {l : List α} {i : Nat} {e : α} (h : l[i]? = some e) : i < l.length := (List.getElem?_eq_some_iff.1 h).1
theorem thenO_ok {R : Type} {n : Nat} {m : Option R} (h : n ≤ 137438953472) : thenO (lenO n) m = m := thenO_some (lenO_ok h)
end Go.Proofs.YtpojlkajcobgcaaDoor

/-
  Plain laws of the wire: tags, elements, segments.
-/
namespace Go.Proofs.YtpojlkajcobgcaaDoor
set_option linter.unusedSimpArgs false
set_option linter.unusedVariables false
open Go.RowKit

/-! ### Elements -/
/-! ### Tags -/
theorem dropWhile_nil {p : UInt8 → Bool} : ∀ {l : List UInt8}, l.dropWhile p = [] ↔ ∀ x ∈ l, p x = true
  | [] => by simp
  | a :: l => by
    rw [List.dropWhile_cons]
    by_cases h : p a = true
    · simp [h, dropWhile_nil (l := l)]
    · simp [h]
theorem dropWhile_head {p : UInt8 → Bool} {a : UInt8} {r : List UInt8} : ∀ {l : List UInt8}, l.dropWhile p = a :: r → p a = false
  | [], h => by simp at h
  | b :: l, h => by
    rw [List.dropWhile_cons] at h
    by_cases hp : p b = true
    · simp only [hp, if_true] at h; exact dropWhile_head h
    · simp only [hp] at h
      simp at h; rw [← h.1]; simpa using hp
theorem trim_nil (l cs : List UInt8) : Lib.trimS l cs = [] ↔ ∀ x ∈ l, cs.contains x = true := by
  unfold Lib.trimS Lib.trimLeftS Lib.trimRightS
  constructor
  · intro h
    have h1 : List.dropWhile (fun x => cs.contains x) l.reverse = [] := by
      cases hr : List.dropWhile (fun x => cs.contains x) l.reverse with
      | nil => rfl
      | cons a r =>
        exfalso
        have h2 := dropWhile_head hr
        rw [hr, dropWhile_nil] at h
        have h3 := h a (by simp)
        rw [h2] at h3; cases h3
    rw [dropWhile_nil] at h1
    intro x hx
    exact h1 x (by simpa using hx)
  · intro h
    have h1 : List.dropWhile (fun x => cs.contains x) l.reverse = [] := dropWhile_nil.2 fun x hx => h x (by simpa using hx)
    rw [h1]; rfl
def letB (b : UInt8) : Bool := decide (65 ≤ (b.toNat : Int)) && decide ((b.toNat : Int) ≤ 90)
def tagB (b : UInt8) : Bool := letB b || !(decide ((b.toNat : Int) < 48) || decide (57 < (b.toNat : Int)))
theorem tagB_all : (List.range 256).all (fun n => tagSet.contains (UInt8.ofNat n) == tagB (UInt8.ofNat n)) = true := by kernel_rfl
theorem tagB_eq (b : UInt8) : tagSet.contains b = tagB b := by
  have := List.all_eq_true.1 tagB_all b.toNat (List.mem_range.2 b.toNat_lt)
  have hb : UInt8.ofNat b.toNat = b := by simp
  rw [hb] at this
  simpa using this
def upper : List UInt8 := [65, 66, 67, 68, 69, 70, 71, 72, 73, 74, 75, 76, 77, 78, 79, 80, 81, 82, 83, 84, 85, 86, 87, 88, 89, 90]
theorem letB_all : (List.range 256).all (fun n => decide (0 ≤ Lib.indexByte upper (UInt8.ofNat n)) == letB (UInt8.ofNat n)) = true := by kernel_rfl
theorem letB_eq (b : UInt8) : decide (0 ≤ Lib.indexByte upper b) = letB b := by
  have := List.all_eq_true.1 letB_all b.toNat (List.mem_range.2 b.toNat_lt)
  have hb : UInt8.ofNat b.toNat = b := by simp
  rw [hb] at this
  simpa using this
theorem trim_tag (l : List UInt8) : decide (Lib.trimS l tagSet = []) = l.all tagB := by
  rw [Bool.eq_iff_iff, decide_eq_true_eq, trim_nil, List.all_eq_true]
  simp only [tagB_eq]
/-- A tag. -/
def tagF : List UInt8 → Bool
  | [] => false
  | b :: l => decide (1 ≤ l.length) && decide (l.length ≤ 5) && letB b && l.all tagB
theorem w_tag (l : List UInt8) (hl : l.length ≤ 9223372036854775807) : m_kit_IsTag l = some (tagF l) := by
  unfold m_kit_IsTag sims_G1_2_0; dsimp only
  cases l with
  | nil => rfl
  | cons b l =>
    have hg : getI (b :: l) 0 = some b := rfl
    have hi : m_strings_IndexByte upper b = some (Lib.indexByte upper b) := rfl
    have hu : ([65, 66, 67, 68, 69, 70, 71, 72, 73, 74, 75, 76, 77, 78, 79, 80, 81, 82, 83, 84, 85, 86, 87, 88, 89, 90] : List UInt8) = upper := rfl
    simp only [isTagPart_eq (b :: l) hl, trim_tag, hg, hu, hi, Option.bind_some, andO_some, letB_eq, tagF]
    have h1 : decide ((2 : Int) ≤ ((b :: l).length : Int)) = decide (1 ≤ l.length) := by simp only [List.length_cons]; congr 1; apply propext; omega
    have h2 : decide (((b :: l).length : Int) ≤ 6) = decide (l.length ≤ 5) := by simp only [List.length_cons]; congr 1; apply propext; omega
    rw [h1, h2]
    cases hb : letB b with
    | false => simp
    | true => simp [tagB, hb]
def tagI (i : Nat) (b : UInt8) : Bool := letB b || (decide (i ≠ 0) && tagB b)
theorem r_begins (l : List UInt8) (hl : l.length ≤ 9223372036854775807) : m_interchangeref2_beginsTag l = some ((match l with | [] => true | b :: l => letB b && l.all tagB) && decide (l.length ≤ 6)) := by
  unfold m_interchangeref2_beginsTag sims_G1_0_0; dsimp only
  have key := loop_runI (f := fun s => bif decide (s < (l.length : Int)) then (getI l s).bind fun e => (andO (decide (65 ≤ (e.toNat : Int))) ((getI l s).bind fun e => some (decide ((e.toNat : Int) ≤ 90)))).bind fun v => (andO (!v) ((orO (decide (s = 0)) ((getI l s).bind fun e => some (decide ((e.toNat : Int) < 48)))).bind fun v => (orO v ((getI l s).bind fun e => some (decide (57 < (e.toNat : Int))))).bind fun v => some v)).bind fun v => bif v then inrO (inrO (some false)) else some (Sum.inl (IntKind.i64.wrap (s + 1))) else inrO (some (Sum.inl s)))
    l (fun i (_ : Unit) => (i : Int)) (fun i _ e => if tagI i e = true then some (.inl ()) else some (.inr (.inr false))) (fun _ => some (Sum.inl (l.length : Int))) (fun i e s he => ?_) (fun s => ?_) ()
  · rw [show ((0 : Nat) : Int) = 0 from rfl] at key
    rw [key]
    have h2 : ∀ (t : List UInt8) (i : Nat), 0 < i → runI (fun i (_ : Unit) e => if tagI i e = true then some (.inl ()) else some (.inr (.inr false))) (fun _ => some (Sum.inl (l.length : Int))) t i () = if t.all tagB = true then some (Sum.inl (l.length : Int)) else some (.inr false) := by
      intro t
      induction t with
      | nil => intro i _; rfl
      | cons b t ih =>
        intro i hi
        simp only [runI]
        have : tagI i b = tagB b := by
          unfold tagI
          rw [decide_eq_true (show i ≠ 0 by omega), Bool.true_and]
          unfold tagB
          cases letB b <;> simp
        rw [this]
        cases hb : tagB b with
        | true => simp only [if_true, ih (i + 1) (by omega), List.all_cons, hb, Bool.true_and]
        | false => simp [hb]
    cases l with
    | nil => rfl
    | cons b l =>
      simp only [runI]
      have h3 : tagI 0 b = letB b := by unfold tagI; cases letB b <;> simp
      have h4 : decide (((b :: l).length : Int) ≤ 6) = decide ((b :: l).length ≤ 6) := by congr 1; apply propext; omega
      rw [h3]
      cases hb : letB b with
      | false => simp [outK, hb]
      | true =>
        simp only [if_true]
        rw [h2 l 1 (by omega)]
        cases hl : l.all tagB with
        | true => simp [outK, hb, h4]; omega
        | false => simp [outK, hb]
  · have hi := get_le he
    simp only [lt_dec hi, cond_true, getI_nat, he, Option.bind_some, andO_some, orO_some, wrapN i (by omega)]
    have h0 : decide ((i : Int) = 0) = decide (i = 0) := by congr 1; apply propext; omega
    have h1 : (!(decide (65 ≤ (e.toNat : Int)) && decide ((e.toNat : Int) ≤ 90)) && (decide ((i : Int) = 0) || decide ((e.toNat : Int) < 48) || decide (57 < (e.toNat : Int)))) = !tagI i e := by
      rw [h0]
      unfold tagI tagB letB
      cases decide (65 ≤ (e.toNat : Int)) <;> cases decide ((e.toNat : Int) ≤ 90) <;> by_cases hi0 : i = 0 <;> simp [hi0]
    rw [h1]
    cases tagI i e <;> rfl
  · simp only [lt_dec_self, cond_false]; rfl
theorem r_tag (l : List UInt8) (hl : l.length ≤ 9223372036854775807) : m_interchangeref2_IsTag l = some (tagF l) := by
  unfold m_interchangeref2_IsTag sims_G1_1_0; dsimp only
  simp only [r_begins l hl, Option.bind_some, andO_some]
  cases l with
  | nil => rfl
  | cons b l =>
    have h1 : decide ((2 : Int) ≤ ((b :: l).length : Int)) = decide (1 ≤ l.length) := by simp only [List.length_cons]; congr 1; apply propext; omega
    have h2 : decide ((b :: l).length ≤ 6) = decide (l.length ≤ 5) := by simp only [List.length_cons]; congr 1; apply propext; omega
    rw [h1, h2]
    simp only [tagF]
    cases letB b <;> cases l.all tagB <;> simp
/-! ### Segments -/
end Go.Proofs.YtpojlkajcobgcaaDoor

/-
  Plain laws: numbers, references, and the checks of a book.
-/
namespace Go.Proofs.YtpojlkajcobgcaaDoor
set_option linter.unusedSimpArgs false
set_option linter.unusedVariables false
open Go.RowKit

def outside (n lo hi : Int) : Bool := decide (n < lo) || decide (hi < n)
theorem outside_eq (n lo hi : Int) : m_kit_Outside n lo hi = some (outside n lo hi) := by
  unfold m_kit_Outside sims_G5_0_0; dsimp only
  simp only [orO_some, Option.bind_some, outside]
theorem within_eq (n lo hi : Int) : m_interchangeref7_within n lo hi = some (!outside n lo hi) := by
  unfold m_interchangeref7_within sims_G5_0_0; dsimp only
  simp only [andO_some, Option.bind_some, outside]
  congr 1; rw [Bool.eq_iff_iff]; simp
def isVerdict (n : Int) : Bool := !outside n 1 3
theorem isVerdict_eq (n : Int) : m_reply_isVerdict n = some (isVerdict n) := by
  unfold m_reply_isVerdict sims_G5_1_0; dsimp only
  simp only [outside_eq, Option.bind_some, isVerdict]
theorem isVerdictR_eq (n : Int) : m_interchangeref7_isVerdict n = some (isVerdict n) := by
  unfold m_interchangeref7_isVerdict sims_G5_1_0; dsimp only
  simp only [within_eq, Option.bind_some, isVerdict]

/-! ### References -/
def refSet : List UInt8 := [65, 66, 67, 68, 69, 70, 71, 72, 73, 74, 75, 76, 77, 78, 79, 80, 81, 82, 83, 84, 85, 86, 87, 88, 89, 90, 48, 49, 50, 51, 52, 53, 54, 55, 56, 57, 45]
theorem dropWhile_nilP {p : UInt8 → Bool} : ∀ {l : List UInt8}, l.dropWhile p = [] ↔ ∀ x ∈ l, p x = true
  | [] => by simp
  | a :: l => by
    rw [List.dropWhile_cons]
    by_cases h : p a = true
    · simp [h, dropWhile_nilP (l := l)]
    · simp [h]
theorem dropWhile_headP {p : UInt8 → Bool} {a : UInt8} {r : List UInt8} : ∀ {l : List UInt8}, l.dropWhile p = a :: r → p a = false
  | [], h => by simp at h
  | b :: l, h => by
    rw [List.dropWhile_cons] at h
    by_cases hp : p b = true
    · simp only [hp, if_true] at h; exact dropWhile_headP h
    · simp only [hp] at h
      simp at h; rw [← h.1]; simpa using hp
theorem trim_nilP (l cs : List UInt8) : Lib.trimS l cs = [] ↔ ∀ x ∈ l, cs.contains x = true := by
  unfold Lib.trimS Lib.trimLeftS Lib.trimRightS
  constructor
  · intro h
    have h1 : List.dropWhile (fun x => cs.contains x) l.reverse = [] := by
      cases hr : List.dropWhile (fun x => cs.contains x) l.reverse with
      | nil => rfl
      | cons a r =>
        exfalso
        have h2 := dropWhile_headP hr
        rw [hr, dropWhile_nilP] at h
        have h3 := h a (by simp)
        rw [h2] at h3; cases h3
    rw [dropWhile_nilP] at h1
    intro x hx
    exact h1 x (by simpa using hx)
  · intro h
    have h1 : List.dropWhile (fun x => cs.contains x) l.reverse = [] := dropWhile_nilP.2 fun x hx => h x (by simpa using hx)
    rw [h1]; rfl
def refByte (b : UInt8) : Bool := refSet.contains b
def isRef (s : List UInt8) : Bool := decide (1 ≤ s.length ∧ s.length ≤ 14) && s.all refByte
theorem trim_all (s : List UInt8) : decide (Lib.trimS s refSet = []) = s.all refByte := by
  rw [Bool.eq_iff_iff, decide_eq_true_eq, trim_nilP, List.all_eq_true]; rfl
theorem refByte_eq (b : UInt8) : refByte b = decide ((65 ≤ b.toNat ∧ b.toNat ≤ 90) ∨ (48 ≤ b.toNat ∧ b.toNat ≤ 57) ∨ b.toNat = 45) := by
  have h : ∀ n, n < 256 → refByte (UInt8.ofNat n) = decide ((65 ≤ n ∧ n ≤ 90) ∨ (48 ≤ n ∧ n ≤ 57) ∨ n = 45) := by decide +kernel
  have := h b.toNat b.toNat_lt
  simpa using this
theorem trim_eq (s : List UInt8) (hs : s.length ≤ 9223372036854775807) : m_strings_Trim s refSet = some (Lib.trimS s refSet) := by
  unfold m_strings_Trim
  rw [if_pos ⟨hs, by decide, by decide⟩]
theorem isRef_eq (s : List UInt8) (hs : s.length ≤ 9223372036854775807) : m_kit_IsRef s = some (isRef s) := by
  have ht := trim_eq s hs
  have ha := trim_all s
  unfold refSet at ht ha
  unfold m_kit_IsRef sims_G5_1_0; dsimp only
  simp only [ht, Option.bind_some, ha, andO_some]
  congr 1; unfold isRef
  rw [Bool.eq_iff_iff]; simp; omega
theorem all_take_succ {p : UInt8 → Bool} {l : List UInt8} {i : Nat} {b : UInt8} (hb : l[i]? = some b) (h : (l.take i).all p = true) (hp : p b = true) : (l.take (i + 1)).all p = true := by
  rw [List.take_add_one, hb]; simp only [Option.toList_some, List.all_append, h, List.all_cons, hp]; rfl
theorem all_not {p : UInt8 → Bool} {l : List UInt8} {i : Nat} {b : UInt8} (hb : l[i]? = some b) (hp : p b = false) : l.all p = false := by
  rw [List.all_eq_false]; exact ⟨b, List.mem_of_getElem? hb, by simp [hp]⟩
theorem isReference_eq (s : List UInt8) (hs : s.length ≤ 9223372036854775807) : m_interchangeref2_IsReference s = some (isRef s) := by
  unfold m_interchangeref2_IsReference sims_G5_0_0; dsimp only
  generalize hf : (fun s_1 : Int => _) = f
  obtain ⟨a, ha, hp⟩ := loopC_inv (f := f) (fun i => ∃ k : Nat, i = k ∧ k ≤ s.length ∧ (s.take k).all refByte = true) (fun i => (s.length - i).toNat)
    (fun o => match o with | .inl _ => s.all refByte = true | .inr b => b = false ∧ s.all refByte = false) (s := 0) (by
      rintro _ ⟨k, rfl, hk, hall⟩
      subst hf
      by_cases hlt : k < s.length
      · obtain ⟨c, hc⟩ : ∃ c, s[k]? = some c := ⟨_, List.getElem?_eq_getElem hlt⟩
        have hb := refByte_eq c
        have hd : decide ((k : Int) < s.length) = true := by simpa using hlt
        simp only [hd, cond_true, getI_nat, hc, Option.bind_some, andO_some, orO_some]
        cases hr : refByte c with
        | true =>
          refine .inl ⟨((k + 1 : Nat) : Int), ?_, ⟨k + 1, rfl, hlt, all_take_succ hc hall hr⟩, by omega⟩
          rw [hr] at hb
          rw [wrapN k (by omega)]
          have : (!(decide (65 ≤ (c.toNat : Int)) && decide ((c.toNat : Int) ≤ 90) || decide (48 ≤ (c.toNat : Int)) && decide ((c.toNat : Int) ≤ 57) || decide ((c.toNat : Int) = 45))) = false := by
            simp at hb ⊢; omega
          rw [this]; rfl
        | false =>
          refine .inr ⟨.inr false, ?_, rfl, all_not hc hr⟩
          rw [hr] at hb
          have : (!(decide (65 ≤ (c.toNat : Int)) && decide ((c.toNat : Int) ≤ 90) || decide (48 ≤ (c.toNat : Int)) && decide ((c.toNat : Int) ≤ 57) || decide ((c.toNat : Int) = 45))) = true := by
            simp at hb ⊢; omega
          rw [this]; rfl
      · have hd : decide ((k : Int) < s.length) = false := by simpa using hlt
        refine .inr ⟨.inl k, ?_, ?_⟩
        · simp only [hd, cond_false]; rfl
        · rw [List.take_of_length_le (by omega)] at hall; exact hall) ⟨0, rfl, by omega, by simp⟩
  rw [ha]
  cases a with
  | inl i =>
    simp only [Option.bind_some, outK, andO_some, isRef, hp, Bool.and_true]
    congr 1; rw [Bool.eq_iff_iff]; cases s <;> simp <;> omega
  | inr b => obtain ⟨rfl, h⟩ := hp; simp only [Option.bind_some, outK, isRef, h, Bool.and_false]
end Go.Proofs.YtpojlkajcobgcaaDoor

/-
  Plain laws: the checks of a book.
-/
namespace Go.Proofs.YtpojlkajcobgcaaDoor
set_option linter.unusedSimpArgs false
set_option linter.unusedVariables false
open Go.RowKit

def firstF (f : Nat → Int) : Nat → Nat → Int
  | _, 0 => 0
  | i, n + 1 => if f i ≠ 0 then f i else firstF f (i + 1) n
theorem firstF_skip {f : Nat → Int} : ∀ (i n k : Nat), k ≤ n → (∀ j, i ≤ j → j < i + k → f j = 0) → firstF f i n = firstF f (i + k) (n - k)
  | i, n, 0, _, _ => by simp
  | i, 0, k + 1, h, _ => by omega
  | i, n + 1, k + 1, h, hz => by
    have h1 := hz i (by omega) (by omega)
    simp only [firstF, h1, ne_eq, not_true_eq_false, if_false]
    rw [firstF_skip (i + 1) n k (by omega) (fun j hj hj' => hz j (by omega) (by omega))]
    congr 1 <;> omega
theorem sliceI_take {α : Type} (l : List α) (n : Nat) (h : n ≤ l.length) : sliceI l 0 (n : Int) = some (l.take n) := by
  unfold sliceI
  rw [if_pos (by omega)]; simp
end Go.Proofs.YtpojlkajcobgcaaDoor

/-
  Plain laws: names, and loops that end at the first fault.
-/
namespace Go.Proofs.YtpojlkajcobgcaaDoor
set_option linter.unusedSimpArgs false
set_option linter.unusedVariables false
open Go.RowKit

abbrev MX : Nat := 9223372036854775807
/-! ### Loops that end at the first fault -/
theorem loop_fS {S : Type} (st : Nat → S) {n : Nat} {g : Nat → Int} {f : S → Option (S ⊕ (S ⊕ Int))} (hf : ∀ i, i < n → f (st i) = if g i = 0 then some (.inl (st (i + 1))) else some (.inr (.inr (g i))))
    (he : f (st n) = some (.inr (.inl (st n)))) (K : S → Option Int) : (loopC f (st 0)).bind (outK K) = if firstF g 0 n = 0 then K (st n) else some (firstF g 0 n) := by
  have h := loop_first (f := f) (z := .inl (st n)) st n (fun i => if g i = 0 then none else some (.inr (g i))) (fun i hi hg => by
    rw [hf i hi]
    by_cases hz : g i = 0
    · rw [if_pos hz]
    · simp only [hz, if_false] at hg; cases hg) (fun i a hi hg => by
    rw [hf i hi]
    by_cases hz : g i = 0
    · simp only [hz, if_true] at hg; cases hg
    · simp only [hz, if_false, Option.some.injEq] at hg; rw [if_neg hz, hg]) he
  rw [h]
  rcases firstS_cases (fun i => if g i = 0 then (none : Option (S ⊕ Int)) else some (.inr (g i))) n with ⟨h1, h2⟩ | ⟨k, a, h1, h2, h3, h4⟩
  · have : firstF g 0 n = 0 := by
      rw [firstF_skip 0 n n (by omega) (fun j _ hj => by
        have := h2 j (by omega)
        by_cases hz : g j = 0
        · exact hz
        · simp only [hz, if_false] at this; cases this)]
      simp [firstF]
    rw [h1, if_pos this]; rfl
  · have hz : g k ≠ 0 := by intro hz; simp only [hz, if_true] at h3; cases h3
    have : firstF g 0 n = g k := by
      rw [firstF_skip 0 n k (by omega) (fun j _ hj => by
        have := h2 j (by omega)
        by_cases hz : g j = 0
        · exact hz
        · simp only [hz, if_false] at this; cases this)]
      obtain ⟨m, hm⟩ : ∃ m, n - k = m + 1 := ⟨n - k - 1, by omega⟩
      rw [hm, Nat.zero_add]
      simp only [firstF, hz, ne_eq, not_false_eq_true, if_true]
    rw [h4, this, if_neg hz]
    simp only [hz, if_false, Option.some.injEq] at h3
    rw [← h3]; rfl
def anyAt {α : Type} (l : List α) (q : α → Bool) (c : Int) (k : Nat) : Int := match l[k]? with | some o => if q o = true then c else 0 | none => 0
theorem firstF_any {α : Type} (l : List α) (q : α → Bool) (c : Int) (hc : c ≠ 0) (i : Nat) (hi : i ≤ l.length) :
    firstF (anyAt l q c) 0 i = if (l.take i).any q = true then c else 0 := by
  have : ∀ d k, k + d = i → firstF (anyAt l q c) k d = if ((l.take i).drop k).any q = true then c else 0 := by
    intro d
    induction d with
    | zero =>
      intro k hk
      have : (l.take i).drop k = [] := List.drop_eq_nil_of_le (by rw [List.length_take]; omega)
      rw [this]; simp [firstF]
    | succ d ih =>
      intro k hk
      obtain ⟨e, he⟩ := get_lt (l := l) (i := k) (by omega)
      have ht : (l.take i)[k]? = some e := by rw [List.getElem?_take_of_lt (by omega), he]
      have hd : (l.take i).drop k = e :: (l.take i).drop (k + 1) := by
        have hlt := get_le ht
        rw [List.drop_eq_getElem_cons hlt]
        congr 1
        rw [List.getElem?_eq_getElem hlt] at ht; simpa using ht
      simp only [firstF, anyAt, he]
      rw [hd, List.any_cons, ih (k + 1) (by omega)]
      cases hq : q e <;> simp [hc]
  have := this i 0 (by omega)
  simpa using this
theorem prev_eq {α : Type} (l : List α) (i : Nat) {p : α} (hp : l[i - 1]? = some p) (hl : l.length ≤ MX) (hi : i < l.length) (c : α → Option Bool) {b : Bool} (hb : c p = some b) :
    andO (decide (0 < (i : Int))) ((getI l (IntKind.i64.wrap ((i : Int) - 1))).bind c) = some (decide (0 < i) && b) := by
  unfold MX at hl
  by_cases h0 : 0 < i
  · have : IntKind.i64.wrap ((i : Int) - 1) = ((i - 1 : Nat) : Int) := by rw [wrap64 _ (by omega) (by omega)]; omega
    rw [this, getI_nat, hp, Option.bind_some, hb, andO_some]; simp
  · simp [andO, h0]

/-! ### Names -/
def lowB (b : UInt8) : Bool := decide (97 ≤ (b.toNat : Int)) && decide ((b.toNat : Int) ≤ 122)
def nameB (b : UInt8) : Bool := lowB b || (decide ((b.toNat : Int) = 45) || (decide (48 ≤ (b.toNat : Int)) && decide ((b.toNat : Int) ≤ 57)))
def nameSet : List UInt8 := [97, 98, 99, 100, 101, 102, 103, 104, 105, 106, 107, 108, 109, 110, 111, 112, 113, 114, 115, 116, 117, 118, 119, 120, 121, 122, 48, 49, 50, 51, 52, 53, 54, 55, 56, 57, 45]
theorem nameB_all : (List.range 256).all (fun n => nameSet.contains (UInt8.ofNat n) == nameB (UInt8.ofNat n)) = true := by decide +kernel
theorem nameB_eq (b : UInt8) : nameSet.contains b = nameB b := by
  have := List.all_eq_true.1 nameB_all b.toNat (List.mem_range.2 b.toNat_lt)
  have hb : UInt8.ofNat b.toNat = b := by simp
  rw [hb] at this
  simpa using this
theorem trim_name (l : List UInt8) : decide (Lib.trimS l nameSet = []) = l.all nameB := by
  rw [Bool.eq_iff_iff, decide_eq_true_eq, trim_nil, List.all_eq_true]
  simp only [nameB_eq]
/-- A name. -/
def nameF : List UInt8 → Bool
  | [] => false
  | b :: l => decide (l.length ≤ 39) && lowB b && l.all nameB
theorem w_name (l : List UInt8) (hl : l.length ≤ MX) : m_kit_IsName l = some (nameF l) := by
  have ht : m_strings_Trim l nameSet = some (Lib.trimS l nameSet) := by
    unfold m_strings_Trim
    rw [if_pos ⟨hl, by decide, by decide⟩]
  have hu : ([97, 98, 99, 100, 101, 102, 103, 104, 105, 106, 107, 108, 109, 110, 111, 112, 113, 114, 115, 116, 117, 118, 119, 120, 121, 122, 48, 49, 50, 51, 52, 53, 54, 55, 56, 57, 45] : List UInt8) = nameSet := rfl
  unfold m_kit_IsName sims_G5_1_0; dsimp only
  rw [hu]
  cases l with
  | nil => rfl
  | cons b l =>
    have hg : getI (b :: l) 0 = some b := rfl
    simp only [hg, Option.bind_some, orO_some, ht, trim_name, nameF]
    have h1 : decide (((b :: l).length : Int) < 1) = false := by simp only [List.length_cons]; apply decide_eq_false; omega
    have h2 : decide (40 < ((b :: l).length : Int)) = !decide (l.length ≤ 39) := by simp only [List.length_cons]; rw [Bool.eq_iff_iff]; simp <;> omega
    have h3 : (decide ((b.toNat : Int) < 97) || decide (122 < (b.toNat : Int))) = !lowB b := by unfold lowB; rw [Bool.eq_iff_iff]; simp
    rw [h1, h2, Bool.false_or, Bool.or_assoc, h3]
    cases hb : lowB b with
    | false => simp
    | true => cases decide (l.length ≤ 39) <;> simp [nameB, hb]
def nameI (i : Nat) (b : UInt8) : Bool := lowB b || (decide (i ≠ 0) && nameB b)
theorem r_name (l : List UInt8) (hl : l.length ≤ MX) : m_interchangeref2_IsName l = some (nameF l) := by
  unfold MX at hl
  unfold m_interchangeref2_IsName sims_G5_0_0; dsimp only
  generalize hf : (fun s : Int => _) = f
  have key := loop_runI (f := f) l (fun i (_ : Unit) => (i : Int)) (fun i _ e => if nameI i e = true then some (.inl ()) else some (.inr (.inr false))) (fun _ => some (Sum.inl (l.length : Int))) (fun i e s he => by
    subst hf
    have hi := get_le he
    simp only [lt_dec hi, cond_true, getI_nat, he, Option.bind_some, andO_some, orO_some, wrapN i (by omega)]
    have h0 : decide ((i : Int) = 0) = decide (i = 0) := by congr 1; apply propext; omega
    have h1 : (!(decide (97 ≤ (e.toNat : Int)) && decide ((e.toNat : Int) ≤ 122)) && (decide ((i : Int) = 0) || (!decide ((e.toNat : Int) = 45) && !(decide (48 ≤ (e.toNat : Int)) && decide ((e.toNat : Int) ≤ 57))))) = !nameI i e := by
      rw [h0]
      unfold nameI nameB lowB
      cases decide (97 ≤ (e.toNat : Int)) <;> cases decide ((e.toNat : Int) ≤ 122) <;> by_cases hi0 : i = 0 <;> simp [hi0]
    rw [h1]
    cases nameI i e <;> rfl) (fun s => by
    subst hf
    simp only [lt_dec_self, cond_false]; rfl) ()
  rw [show ((0 : Nat) : Int) = 0 from rfl] at key
  rw [key]
  have h2 : ∀ (t : List UInt8) (i : Nat), 0 < i → runI (fun i (_ : Unit) e => if nameI i e = true then some (.inl ()) else some (.inr (.inr false))) (fun _ => some (Sum.inl (l.length : Int))) t i () = if t.all nameB = true then some (.inl (l.length : Int)) else some (.inr false) := by
    intro t
    induction t with
    | nil => intro i _; rfl
    | cons b t ih =>
      intro i hi
      simp only [runI]
      have : nameI i b = nameB b := by
        unfold nameI
        rw [decide_eq_true (show i ≠ 0 by omega), Bool.true_and]
        unfold nameB
        cases lowB b <;> simp
      rw [this]
      cases hb : nameB b with
      | true => simp only [if_true, ih (i + 1) (by omega), List.all_cons, hb, Bool.true_and]
      | false => simp [hb]
  cases l with
  | nil => rfl
  | cons b l =>
    simp only [runI]
    have h3 : nameI 0 b = lowB b := by unfold nameI; cases lowB b <;> simp
    have h4 : decide (((b :: l).length : Int) ≤ 40) = decide (l.length ≤ 39) := by simp only [List.length_cons]; rw [Bool.eq_iff_iff]; simp; omega
    rw [h3]
    cases hb : lowB b with
    | false => simp [outK, hb, nameF]
    | true =>
      simp only [if_true]
      rw [h2 l 1 (by omega)]
      cases hl : l.all nameB with
      | true => simp [outK, hb, hl, nameF, andO_some]; try omega
      | false => simp [outK, hb, hl, nameF]
end Go.Proofs.YtpojlkajcobgcaaDoor

/-
  Plain laws of the replies: CheckReply on both sides.
-/
namespace Go.Proofs.YtpojlkajcobgcaaDoor
set_option linter.unusedSimpArgs false
set_option linter.unusedVariables false
open Go.RowKit

abbrev Fl := Tapi_Flaw
abbrev Mr := Tapi_MessageReply
abbrev Gr := Tapi_GroupReply
abbrev Rp := Tapi_Reply
/-! ### What any machine has -/
structure MsgOk (m : Mr) : Prop where
  ref : m.fRef.length ≤ MX
  flaws : m.fFlaws.length ≤ MX
  names : ∀ f ∈ m.fFlaws, f.fName.length ≤ MX
  fails : m.fFailing.length ≤ MX
  fail : ∀ s ∈ m.fFailing, s.length ≤ MX
structure GrpOk (g : Gr) : Prop where
  ref : g.fRef.length ≤ MX
  len : g.fMessages.length ≤ 1048576
  msg : ∀ m ∈ g.fMessages, MsgOk m
structure RepOk (r : Rp) : Prop where
  ref : r.fRef.length ≤ MX
  len : r.fGroups.length ≤ MX
  grp : ∀ g ∈ r.fGroups, GrpOk g

/-! ### Is one in a list? -/
theorem anyG_eq (l : List Gr) (hl : l.length ≤ MX) (f1 : FuncId) (c1 : List DV) (p1 : Gr → Option Bool) (h1) (q : Gr → Bool) (hq : ∀ a, p1 a = some (q a)) :
    m_slices_ContainsFunc_interchange_api_GroupReply_interchange_api_GroupReply l f1 c1 p1 h1 = some (l.any q) := by
  unfold MX at hl
  unfold m_slices_ContainsFunc_interchange_api_GroupReply_interchange_api_GroupReply sims_G5_1_0; dsimp only
  unfold m_slices_IndexFunc_interchange_api_GroupReply_interchange_api_GroupReply sims_G5_0_0; dsimp only
  generalize hf : (fun s : Int => _) = f
  have key := loop_first (f := f) (z := .inl (l.length : Int)) (fun i : Nat => (i : Int)) l.length (fun i => match l[i]? with | some o => if q o = true then some (.inr (i : Int)) else none | none => none) (fun i hi hg => by
    subst hf
    obtain ⟨e, he⟩ := get_lt hi
    simp only [he] at hg
    cases hb : q e with
    | true => simp [hb] at hg
    | false => simp only [lt_dec hi, cond_true, getI_nat, he, Option.bind_some, hq, hb, cond_false, wrapN i (by omega)]) (fun i a hi hg => by
    subst hf
    obtain ⟨e, he⟩ := get_lt hi
    simp only [he] at hg
    cases hb : q e with
    | false => simp [hb] at hg
    | true =>
      simp only [hb, if_true, Option.some.injEq] at hg
      simp only [lt_dec hi, cond_true, getI_nat, he, Option.bind_some, hq, hb, ← hg]; rfl) (by
    subst hf
    simp only [lt_dec_self, cond_false]; rfl)
  rw [show ((0 : Nat) : Int) = 0 from rfl] at key
  rw [key]
  rcases firstS_cases (fun i => match l[i]? with | some o => if q o = true then some (.inr (i : Int)) else none | none => (none : Option (Int ⊕ Int))) l.length with ⟨h1, h2⟩ | ⟨k, a, h1, h2, h3, h4⟩
  · rw [h1]
    have : l.any q = false := by
      rw [List.any_eq_false]
      intro x hx
      obtain ⟨i, hi, rfl⟩ := List.mem_iff_getElem.1 hx
      have := h2 i hi
      simp only [List.getElem?_eq_getElem hi] at this
      intro hb; simp [hb] at this
    rw [this]; rfl
  · rw [h4]
    obtain ⟨e, he⟩ := get_lt h1
    simp only [he] at h3
    cases hb : q e with
    | false => simp [hb] at h3
    | true =>
      simp only [hb, if_true, Option.some.injEq] at h3
      have : l.any q = true := List.any_eq_true.2 ⟨e, List.mem_of_getElem? he, hb⟩
      rw [this, ← h3]
      simp [outK]
theorem anyM_eq (l : List Mr) (hl : l.length ≤ MX) (f1 : FuncId) (c1 : List DV) (p1 : Mr → Option Bool) (h1) (q : Mr → Bool) (hq : ∀ a, p1 a = some (q a)) :
    m_slices_ContainsFunc_interchange_api_MessageReply_interchange_api_MessageReply l f1 c1 p1 h1 = some (l.any q) := by
  unfold MX at hl
  unfold m_slices_ContainsFunc_interchange_api_MessageReply_interchange_api_MessageReply sims_G5_1_0; dsimp only
  unfold m_slices_IndexFunc_interchange_api_MessageReply_interchange_api_MessageReply sims_G5_0_0; dsimp only
  generalize hf : (fun s : Int => _) = f
  have key := loop_first (f := f) (z := .inl (l.length : Int)) (fun i : Nat => (i : Int)) l.length (fun i => match l[i]? with | some o => if q o = true then some (.inr (i : Int)) else none | none => none) (fun i hi hg => by
    subst hf
    obtain ⟨e, he⟩ := get_lt hi
    simp only [he] at hg
    cases hb : q e with
    | true => simp [hb] at hg
    | false => simp only [lt_dec hi, cond_true, getI_nat, he, Option.bind_some, hq, hb, cond_false, wrapN i (by omega)]) (fun i a hi hg => by
    subst hf
    obtain ⟨e, he⟩ := get_lt hi
    simp only [he] at hg
    cases hb : q e with
    | false => simp [hb] at hg
    | true =>
      simp only [hb, if_true, Option.some.injEq] at hg
      simp only [lt_dec hi, cond_true, getI_nat, he, Option.bind_some, hq, hb, ← hg]; rfl) (by
    subst hf
    simp only [lt_dec_self, cond_false]; rfl)
  rw [show ((0 : Nat) : Int) = 0 from rfl] at key
  rw [key]
  rcases firstS_cases (fun i => match l[i]? with | some o => if q o = true then some (.inr (i : Int)) else none | none => (none : Option (Int ⊕ Int))) l.length with ⟨h1, h2⟩ | ⟨k, a, h1, h2, h3, h4⟩
  · rw [h1]
    have : l.any q = false := by
      rw [List.any_eq_false]
      intro x hx
      obtain ⟨i, hi, rfl⟩ := List.mem_iff_getElem.1 hx
      have := h2 i hi
      simp only [List.getElem?_eq_getElem hi] at this
      intro hb; simp [hb] at this
    rw [this]; rfl
  · rw [h4]
    obtain ⟨e, he⟩ := get_lt h1
    simp only [he] at h3
    cases hb : q e with
    | false => simp [hb] at h3
    | true =>
      simp only [hb, if_true, Option.some.injEq] at h3
      have : l.any q = true := List.any_eq_true.2 ⟨e, List.mem_of_getElem? he, hb⟩
      rw [this, ← h3]
      simp [outK]
theorem anyI_eq (l : List Int) (hl : l.length ≤ MX) (f1 : FuncId) (c1 : List DV) (p1 : Int → Option Bool) (h1) (q : Int → Bool) (hq : ∀ a, p1 a = some (q a)) :
    m_slices_ContainsFunc_int_int l f1 c1 p1 h1 = some (l.any q) := by
  unfold MX at hl
  unfold m_slices_ContainsFunc_int_int sims_G5_1_0; dsimp only
  unfold m_slices_IndexFunc_int_int sims_G5_0_0; dsimp only
  generalize hf : (fun s : Int => _) = f
  have key := loop_first (f := f) (z := .inl (l.length : Int)) (fun i : Nat => (i : Int)) l.length (fun i => match l[i]? with | some o => if q o = true then some (.inr (i : Int)) else none | none => none) (fun i hi hg => by
    subst hf
    obtain ⟨e, he⟩ := get_lt hi
    simp only [he] at hg
    cases hb : q e with
    | true => simp [hb] at hg
    | false => simp only [lt_dec hi, cond_true, getI_nat, he, Option.bind_some, hq, hb, cond_false, wrapN i (by omega)]) (fun i a hi hg => by
    subst hf
    obtain ⟨e, he⟩ := get_lt hi
    simp only [he] at hg
    cases hb : q e with
    | false => simp [hb] at hg
    | true =>
      simp only [hb, if_true, Option.some.injEq] at hg
      simp only [lt_dec hi, cond_true, getI_nat, he, Option.bind_some, hq, hb, ← hg]; rfl) (by
    subst hf
    simp only [lt_dec_self, cond_false]; rfl)
  rw [show ((0 : Nat) : Int) = 0 from rfl] at key
  rw [key]
  rcases firstS_cases (fun i => match l[i]? with | some o => if q o = true then some (.inr (i : Int)) else none | none => (none : Option (Int ⊕ Int))) l.length with ⟨h1, h2⟩ | ⟨k, a, h1, h2, h3, h4⟩
  · rw [h1]
    have : l.any q = false := by
      rw [List.any_eq_false]
      intro x hx
      obtain ⟨i, hi, rfl⟩ := List.mem_iff_getElem.1 hx
      have := h2 i hi
      simp only [List.getElem?_eq_getElem hi] at this
      intro hb; simp [hb] at this
    rw [this]; rfl
  · rw [h4]
    obtain ⟨e, he⟩ := get_lt h1
    simp only [he] at h3
    cases hb : q e with
    | false => simp [hb] at h3
    | true =>
      simp only [hb, if_true, Option.some.injEq] at h3
      have : l.any q = true := List.any_eq_true.2 ⟨e, List.mem_of_getElem? he, hb⟩
      rw [this, ← h3]
      simp [outK]
/-! ### Together -/
def togF (l : List Int) : Int := if l.any (fun x => !decide (x = 1)) = false then 1 else if l.any (fun x => !decide (x = 3)) = false then 3 else 2
theorem tog_eq (l : List Int) (hl : l.length ≤ MX) : m_reply_together l = some (togF l) := by
  unfold m_reply_together sims_G5_2_0; dsimp only
  have h1 : ∀ v, m_reply_together_1 v = some v := fun v => by unfold m_reply_together_1 sims_G5_1_0; dsimp only
  have h2 : ∀ a v, m_reply_together_1_1 a v = some (!decide (a = v)) := fun a v => by unfold m_reply_together_1_1 sims_G5_0_0; dsimp only
  simp only [h1, Option.bind_some]
  rw [anyI_eq l hl _ _ _ _ (fun x => !decide (x = 1)) (fun a => h2 a 1), anyI_eq l hl _ _ _ _ (fun x => !decide (x = 3)) (fun a => h2 a 3)]
  unfold togF
  cases l.any (fun x => !decide (x = 1)) <;> cases l.any (fun x => !decide (x = 3)) <;> rfl
theorem all_not_any (l : List Int) (v : Int) : l.all (fun x => decide (x = v)) = !l.any (fun x => !decide (x = v)) := by
  induction l with
  | nil => rfl
  | cons a l ih => simp only [List.all_cons, List.any_cons, ih, Bool.not_or, Bool.not_not]
theorem togR_eq (l : List Int) (hl : l.length ≤ MX) : m_interchangeref7_together l = some (togF l) := by
  unfold MX at hl
  unfold m_interchangeref7_together sims_G5_0_0; dsimp only
  refine bind_loop (loop_trace (a := .inl (l.all (fun x => decide (x = 1)), l.all (fun x => decide (x = 3)), (l.length : Int))) (fun i : Nat => ((l.take i).all (fun x => decide (x = 1)), (l.take i).all (fun x => decide (x = 3)), (i : Int))) l.length (fun i hi => ?_) ?_) ?_
  · obtain ⟨e, he⟩ := get_lt hi
    simp only [lt_dec hi, cond_true, getI_nat, he, Option.bind_some, andO_some, wrapN i (by omega), take_snoc he, List.all_append, List.all_cons, List.all_nil, Bool.and_true]
  · simp only [lt_dec_self, cond_false, List.take_length]; rfl
  · simp only [outK, all_not_any, togF]
    cases l.any (fun x => !decide (x = 1)) <;> cases l.any (fun x => !decide (x = 3)) <;> rfl
def vG (g : Gr) : Int := togF (g.fMessages.map (·.fVerdict))
def vR (r : Rp) : Int := togF (r.fGroups.map (·.fVerdict))
theorem vG_eq (x : Gr) (hl : x.fMessages.length ≤ 1048576) : m_reply_verdictOfGroup x = some (vG x) := by
  unfold m_reply_verdictOfGroup sims_G5_3_0; dsimp only
  refine bind_loop (loop_trace (a := .inl (x.fMessages.map (·.fVerdict), (x.fMessages.length : Int))) (fun i : Nat => ((x.fMessages.take i).map (·.fVerdict), (i : Int))) x.fMessages.length (fun i hi => ?_) ?_) ?_
  · obtain ⟨e, he⟩ := get_lt hi
    simp only [lt_dec hi, cond_true, getI_nat, he, Option.bind_some, wrapN i (by omega), take_snoc he, List.map_append, List.map_cons, List.map_nil]
    rw [thenO_some (lenO_ok (by simp only [List.length_map, List.length_take, List.length_cons, List.length_nil]; omega))]
  · simp only [lt_dec_self, cond_false, List.take_length]; rfl
  · simp only [outK, tog_eq (x.fMessages.map (·.fVerdict)) (by rw [List.length_map]; unfold MX; omega), Option.bind_some]; rfl
theorem vGR_eq (x : Gr) (hl : x.fMessages.length ≤ 1048576) : m_interchangeref7_OfGroup x = some (vG x) := by
  unfold m_interchangeref7_OfGroup sims_G5_1_0; dsimp only
  refine bind_loop (loop_trace (a := .inl (x.fMessages.map (·.fVerdict), (x.fMessages.length : Int))) (fun i : Nat => ((x.fMessages.take i).map (·.fVerdict), (i : Int))) x.fMessages.length (fun i hi => ?_) ?_) ?_
  · obtain ⟨e, he⟩ := get_lt hi
    simp only [lt_dec hi, cond_true, getI_nat, he, Option.bind_some, wrapN i (by omega), take_snoc he, List.map_append, List.map_cons, List.map_nil]
    rw [thenO_some (lenO_ok (by simp only [List.length_map, List.length_take, List.length_cons, List.length_nil]; omega))]
  · simp only [lt_dec_self, cond_false, List.take_length]; rfl
  · simp only [outK, togR_eq (x.fMessages.map (·.fVerdict)) (by rw [List.length_map]; unfold MX; omega), Option.bind_some]; rfl
theorem vR_eq (x : Rp) (hl : x.fGroups.length ≤ 1048576) : m_reply_verdictOf x = some (vR x) := by
  unfold m_reply_verdictOf sims_G5_3_0; dsimp only
  refine bind_loop (loop_trace (a := .inl (x.fGroups.map (·.fVerdict), (x.fGroups.length : Int))) (fun i : Nat => ((x.fGroups.take i).map (·.fVerdict), (i : Int))) x.fGroups.length (fun i hi => ?_) ?_) ?_
  · obtain ⟨e, he⟩ := get_lt hi
    simp only [lt_dec hi, cond_true, getI_nat, he, Option.bind_some, wrapN i (by omega), take_snoc he, List.map_append, List.map_cons, List.map_nil]
    rw [thenO_some (lenO_ok (by simp only [List.length_map, List.length_take, List.length_cons, List.length_nil]; omega))]
  · simp only [lt_dec_self, cond_false, List.take_length]; rfl
  · simp only [outK, tog_eq (x.fGroups.map (·.fVerdict)) (by rw [List.length_map]; unfold MX; omega), Option.bind_some]; rfl
theorem vRR_eq (x : Rp) (hl : x.fGroups.length ≤ 1048576) : m_interchangeref7_OfAll x = some (vR x) := by
  unfold m_interchangeref7_OfAll sims_G5_1_0; dsimp only
  refine bind_loop (loop_trace (a := .inl (x.fGroups.map (·.fVerdict), (x.fGroups.length : Int))) (fun i : Nat => ((x.fGroups.take i).map (·.fVerdict), (i : Int))) x.fGroups.length (fun i hi => ?_) ?_) ?_
  · obtain ⟨e, he⟩ := get_lt hi
    simp only [lt_dec hi, cond_true, getI_nat, he, Option.bind_some, wrapN i (by omega), take_snoc he, List.map_append, List.map_cons, List.map_nil]
    rw [thenO_some (lenO_ok (by simp only [List.length_map, List.length_take, List.length_cons, List.length_nil]; omega))]
  · simp only [lt_dec_self, cond_false, List.take_length]; rfl
  · simp only [outK, togR_eq (x.fGroups.map (·.fVerdict)) (by rw [List.length_map]; unfold MX; omega), Option.bind_some]; rfl
end Go.Proofs.YtpojlkajcobgcaaDoor

/-
  Plain laws of the replies: the faults.
-/
namespace Go.Proofs.YtpojlkajcobgcaaDoor
set_option linter.unusedSimpArgs false
set_option linter.unusedVariables false
open Go.RowKit

theorem isFlaw_eq (n : Int) : m_reply_isFlaw n = some (!outside n 1 12) := by
  unfold m_reply_isFlaw sims_G5_1_0; dsimp only
  simp only [outside_eq, Option.bind_some]
/-! ### Flaws -/
def flawN (a b c d : Bool) : Int := bif a then 4 else bif b then 1 else bif c then 3 else bif d then 8 else 0
def flawAt (l : List Fl) (i : Nat) : Int := match l[i]?, l[i - 1]? with
  | some e, some p => flawN (outside e.fKind 1 12) (outside e.fSegment 0 2000 || outside e.fAt.fElement 0 51 || outside e.fAt.fRepeat 0 21 || outside e.fAt.fPart 0 21)
    (!decide (e.fName = []) && !tagF e.fName && !nameF e.fName) (decide (0 < i) && decide (e.fSegment < p.fSegment))
  | _, _ => 0
def flawsF (l : List Fl) : Int := if 500 < l.length then 2 else firstF (flawAt l) 0 l.length
theorem big_dec (n k : Nat) : decide ((k : Int) < (n : Int)) = decide (k < n) := by congr 1; apply propext; omega
theorem flaws_eq (l : List Fl) (hl : l.length ≤ MX) (hn : ∀ f ∈ l, f.fName.length ≤ MX) : m_reply_flawsFault l = some (flawsF l) := by
  have hl' := hl
  unfold MX at hl'
  unfold m_reply_flawsFault sims_G5_2_0; dsimp only
  rw [show decide ((500 : Int) < (l.length : Int)) = decide (500 < l.length) from big_dec l.length 500]
  unfold flawsF
  by_cases hb : 500 < l.length
  · simp [hb]
  · simp only [hb, decide_false, cond_false, if_false]
    refine (loop_fS (fun i : Nat => (i : Int)) (n := l.length) (g := flawAt l) (fun i hi => ?_) (by simp only [lt_dec_self, cond_false]; rfl) _).trans ?_
    · obtain ⟨e, he⟩ := get_lt hi
      obtain ⟨p, hp⟩ := get_lt (l := l) (i := i - 1) (by omega)
      have hs := hn e (List.mem_of_getElem? he)
      simp only [lt_dec hi, cond_true, getI_nat, he, Option.bind_some, isFlaw_eq, outside_eq, orO_some, andO_some, w_tag _ hs, w_name _ hs, prev_eq l i hp hl hi (fun e_1 => some (decide (e.fSegment < e_1.fSegment))) rfl, wrapN i (by omega), flawAt, hp]
      generalize outside e.fKind 1 12 = a
      generalize (outside e.fSegment 0 2000 || outside e.fAt.fElement 0 51 || outside e.fAt.fRepeat 0 21 || outside e.fAt.fPart 0 21) = b
      generalize (!decide (e.fName = []) && !tagF e.fName && !nameF e.fName) = c
      generalize (decide (0 < i) && decide (e.fSegment < p.fSegment)) = d
      cases a <;> cases b <;> cases c <;> cases d <;> rfl
    · split
      · rename_i h; rw [h]
      · rfl
theorem flawsR_eq (l : List Fl) (hl : l.length ≤ MX) (hn : ∀ f ∈ l, f.fName.length ≤ MX) : m_interchangeref7_checkFlaws l = some (flawsF l) := by
  have hl' := hl
  unfold MX at hl'
  unfold m_interchangeref7_checkFlaws sims_G5_1_0; dsimp only
  rw [show decide ((500 : Int) < (l.length : Int)) = decide (500 < l.length) from big_dec l.length 500]
  unfold flawsF
  by_cases hb : 500 < l.length
  · simp [hb]
  · simp only [hb, decide_false, cond_false, if_false]
    refine (loop_fS (fun i : Nat => (i : Int)) (n := l.length) (g := flawAt l) (fun i hi => ?_) (by simp only [lt_dec_self, cond_false]; rfl) _).trans ?_
    · obtain ⟨e, he⟩ := get_lt hi
      obtain ⟨p, hp⟩ := get_lt (l := l) (i := i - 1) (by omega)
      have hs := hn e (List.mem_of_getElem? he)
      simp only [lt_dec hi, cond_true, getI_nat, he, Option.bind_some, within_eq, orO_some, andO_some, r_tag _ hs, r_name _ hs, prev_eq l i hp hl hi (fun e_1 => some (decide (e.fSegment < e_1.fSegment))) rfl, wrapN i (by omega), flawAt, hp, Bool.not_not]
      generalize outside e.fKind 1 12 = a
      generalize (outside e.fSegment 0 2000 || outside e.fAt.fElement 0 51 || outside e.fAt.fRepeat 0 21 || outside e.fAt.fPart 0 21) = b
      generalize (!decide (e.fName = []) && !tagF e.fName && !nameF e.fName) = c
      generalize (decide (0 < i) && decide (e.fSegment < p.fSegment)) = d
      cases a <;> cases b <;> cases c <;> cases d <;> rfl
    · split
      · rename_i h; rw [h]
      · rfl
/-! ### Messages -/
def failN (a b : Bool) : Int := bif a then (bif b then 8 else 0) else 5
def failAt (l : List (List UInt8)) (i : Nat) : Int := match l[i]?, l[i - 1]? with
  | some e, some p => failN (nameF e) (decide (0 < i) && (Op.bytesLess e p || decide (e = p)))
  | _, _ => 0
def someM (m : Mr) : Bool := decide (0 < m.fFlaws.length) || decide (0 < m.fFailing.length)
def msgN (a b c d : Bool) (fl : Int) (g : Bool) (fr : Int) (e : Bool) : Int :=
  bif !a then 3 else bif !b then 4 else bif c then 7 else bif d then 12 else bif !decide (fl = 0) then fl else bif g then 2 else if fr = 0 then (bif e then 12 else 0) else fr
def msgF (m : Mr) (twice : Bool) : Int :=
  msgN (isRef m.fRef) (isVerdict m.fVerdict) twice (m.fUnknown && (!decide (m.fVerdict = 3) || someM m)) (flawsF m.fFlaws) (decide (200 < m.fFailing.length)) (firstF (failAt m.fFailing) 0 m.fFailing.length) (decide (m.fVerdict = 1) && someM m)
theorem pos_dec (n : Nat) : decide (0 < (n : Int)) = decide (0 < n) := by congr 1; apply propext; omega
theorem msg_eq (m : Mr) (h : MsgOk m) (l : List Mr) (hl : l.length ≤ MX) : m_reply_messageFault m l = some (msgF m (l.any fun o => decide (o.fRef = m.fRef))) := by
  have hf := h.fails
  unfold MX at hf
  have h1 : ∀ a, m_reply_messageFault_1 a m = some (decide (a.fRef = m.fRef)) := fun a => by unfold m_reply_messageFault_1 sims_G5_0_0; dsimp only
  unfold m_reply_messageFault sims_G5_3_0; dsimp only
  simp only [orO_some, andO_some, Option.bind_some, isRef_eq _ h.ref, isVerdict_eq, anyM_eq l hl _ _ _ _ _ h1, flaws_eq _ h.flaws h.names, pos_dec]
  rw [show decide ((200 : Int) < (m.fFailing.length : Int)) = decide (200 < m.fFailing.length) from big_dec m.fFailing.length 200]
  unfold msgF
  have hsm : (decide (0 < m.fFlaws.length) || decide (0 < m.fFailing.length)) = someM m := rfl
  rw [hsm]
  unfold msgN
  cases isRef m.fRef with
  | false => rfl
  | true =>
  cases isVerdict m.fVerdict with
  | false => rfl
  | true =>
  cases (l.any fun o => decide (o.fRef = m.fRef)) with
  | true => rfl
  | false =>
  cases (m.fUnknown && (!decide (m.fVerdict = 3) || someM m)) with
  | true => rfl
  | false =>
  cases hz : decide (flawsF m.fFlaws = 0) with
  | false => rfl
  | true =>
  cases hb : decide (200 < m.fFailing.length) with
  | true => rfl
  | false =>
  simp only [Bool.not_true, cond_false]
  refine (loop_fS (fun i : Nat => (i : Int)) (n := m.fFailing.length) (g := failAt m.fFailing) (fun i hi => ?_) (by simp only [lt_dec_self, cond_false]; rfl) _).trans ?_
  · obtain ⟨e, he⟩ := get_lt hi
    obtain ⟨p, hp⟩ := get_lt (l := m.fFailing) (i := i - 1) (by omega)
    have hs := h.fail e (List.mem_of_getElem? he)
    simp only [lt_dec hi, cond_true, getI_nat, he, Option.bind_some, w_name _ hs, prev_eq m.fFailing i hp h.fails hi (fun e_1 => some (Op.bytesLess e e_1 || decide (e = e_1))) rfl, wrapN i (by omega), failAt, hp]
    generalize nameF e = a
    generalize (decide (0 < i) && (Op.bytesLess e p || decide (e = p))) = b
    cases a <;> cases b <;> rfl
  · by_cases hq : firstF (failAt m.fFailing) 0 m.fFailing.length = 0
    · rw [if_pos hq, if_pos hq]; cases decide (m.fVerdict = 1) && someM m <;> rfl
    · rw [if_neg hq, if_neg hq]
end Go.Proofs.YtpojlkajcobgcaaDoor
