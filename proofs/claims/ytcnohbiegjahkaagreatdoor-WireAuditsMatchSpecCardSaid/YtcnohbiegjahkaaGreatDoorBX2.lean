/-
  Texts of mine, one behind the other (SXGB, SXGC, SXGD, SXGE, SXGF, SXGW1, SXRow, SXGW, SXQ1, SXQ2, SXQ3, SXPM, SXQ4, SXGR, SXY1, SXY2, SXY7, SXPN, SXAU1, SXAU2, SXAU3, SXAU4).
-/
import Derived.Test.YtcnohbiegjahkaaGreatDoorBX1
import Derived.Test.YtcnohbiegjahkaaGreatDoorSXEngZz
import Derived.Test.YtcnohbiegjahkaaGreatDoorProg
import Derived.KernelRfl
import Derived.Test.YtcnohbiegjahkaaGreatDoorSXEngRq
import Derived.Test.YtcnohbiegjahkaaGreatDoorSXEngRi
import Derived.Test.YtcnohbiegjahkaaGreatDoorSXEngRj
import Derived.Test.YtcnohbiegjahkaaGreatDoorSXEngRo
import Derived.Test.YtcnohbiegjahkaaGreatDoorCards
import Derived.Test.YtcnohbiegjahkaaGreatDoorTie
import Derived.Test.YtcnohbiegjahkaaGreatDoorSXEngR
import Derived.Test.YtcnohbiegjahkaaGreatDoorSXPL
/-
  Bodies of functions and what they compute, printed by programs of mine (wip/tool/gen.py, sc.py) out of the translation; the kernel holds each against the translation.
-/
namespace Go.Proofs.YtcnohbiegjahkaaGreatDoor
open Go.RowKit
set_option linter.unusedSimpArgs false
set_option linter.unusedVariables false
structure Twire_open where
  fknown : Bool
  fref : List UInt8
  fat : Int
  fmany : Int
  frefs : List ((List UInt8) × Bool)
  deriving DecidableEq
def rTwire_open (x : Twire_open) : List DV := [.bool x.fknown, .str x.fref, .int .i64 x.fat, .int .i64 x.fmany, (dvM .str (fun v => .bool v) x.frefs)]
attribute [push_cast] rTwire_open
theorem oT_Twire_open {d0 d1 d2 d3 d4 : SV} {v0 : Bool} {v1 : List UInt8} {v2 : Int} {v3 : Int} {v4 : List ((List UInt8) × Bool)}  (h0 : svle d0 (.d (.bool v0))) (h1 : svle d1 (.d (.str v1))) (h2 : svle d2 (.d (.int .i64 v2))) (h3 : svle d3 (.d (.int .i64 v3))) (h4 : cle d4 (.own (.mp .str .sh) (dvM .str (fun v => .bool v) v4))) : cellsle [d0, d1, d2, d3, d4] (ownR [.sh, .sh, .sh, .sh, .mp .str .sh] (rTwire_open ⟨v0, v1, v2, v3, v4⟩)) := by have h := (cellsle.append (cellsle.consS h0 cellsle.nil) (cellsle.append (cellsle.consS h1 cellsle.nil) (cellsle.append (cellsle.consS h2 cellsle.nil) (cellsle.append (cellsle.consS h3 cellsle.nil) (cellsle.cons h4 cellsle.nil))))); simp only [push_cast, seval, dR] at h ⊢; exact h
def bT_Twire_open (p0 : Bool) (p1 : List UInt8) (p2 : Int) (p3 : Int) (p4 : Nat) : List SV := [.d (.bool p0)] ++ ([.d (.str p1)] ++ ([.d (.int .i64 p2)] ++ ([.d (.int .i64 p3)] ++ ([.mp p4]))))
attribute [push_cast] bT_Twire_open
structure Twire_auditor where
  flevels : List Twire_open
  fnotes : List Tapi_Note
  deriving DecidableEq
def rTwire_auditor (x : Twire_auditor) : List DV := [.slice (List.map (rowP rTwire_open) x.flevels), .slice (List.map rTapi_Note x.fnotes)]
attribute [push_cast] rTwire_auditor
theorem oT_Twire_auditor {d0 d1 : SV} {v0 : List Twire_open} {v1 : List Tapi_Note} {m0 : List Mask} {m1 : List Mask} (h0 : cle d0 (.own (.sl 93 m0) (.slice (List.map (rowP rTwire_open) v0)))) (h1 : cle d1 (.own (.sl 29 m1) (.slice (List.map rTapi_Note v1)))) : cellsle [d0, d1] (ownR [.sl 93 m0, .sl 29 m1] (rTwire_auditor ⟨v0, v1⟩)) := by have h := (cellsle.append (cellsle.cons h0 cellsle.nil) (cellsle.cons h1 cellsle.nil)); simp only [push_cast, seval, dR] at h ⊢; exact h
def bT_Twire_auditor (p0 : Nat) (p1 : Nat) : List SV := [.vec p0] ++ ([.vec p1])
attribute [push_cast] bT_Twire_auditor
def sc_slices_Index_string_string_L1 : SC :=
  (.seq (.reg [.r 9 (.bin .lss (.t 8) (.t 7))])
  (.seq (.cond (.t 9)
    .skip
    (.exit 0))
  (.seq (.block 1 (.seq (.reg [.r 10 (.mv (.t 8)),
       .r 5 (.mv (.t 10))])
    (.seq (.reg [.r 11 (.mv (.t 1)),
       .r 12 (.mv (.t 0)),
       .r 13 (.mv (.t 5)),
       .r 14 (.idx 1 (.t 12) (.t 13)),
       .o 15 (.ld1 (.t 14)),
       .r 16 (.bin .eql (.t 11) (.t 15))])
    (.cond (.t 16)
      (.seq (.reg [.r 17 (.mv (.t 5)),
         .r 4 (.mv (.t 17))])
      .ret)
      .skip))))
  (.reg [.r 18 (.bin .add (.t 8) (.c (.d (.int .i64 1)))),
     .r 8 (.mv (.t 18))]))))
def sc_slices_Index_string_string_B1 : SC := .block 0 (.loop sc_slices_Index_string_string_L1)
/-- slices.Index[[]string,string] -/
def sc_slices_Index_string_string : SC :=
  (.seq (.reg [.r 4 (.mv (.c (.d (.int .i64 0))))])
  (.seq (.seq (.reg [.r 6 (.mv (.t 0)),
     .r 7 (.len (.t 6)),
     .r 8 (.mv (.c (.d (.int .i64 0))))])
  sc_slices_Index_string_string_B1)
  (.seq (.reg [.r 4 (.mv (.c (.d (.int .i64 (-1)))))])
  .ret)))
theorem fit_slices_Index_string_string : fits Tryz.prog 20 Tryz.f20 sc_slices_Index_string_string [.t 4] 2 = true := by kernel_rfl

/-- interchange/wire.audit$1 -/
def sc_wire_audit_1 : SC :=
  (.seq (.reg [.r 2 (.boxI (.t 0)),
     .r 3 (.boxI (.t 1)),
     .r 4 (.mv (.c (.d (.int .i64 0))))])
  (.seq (.seq (.reg [.r 5 (.fld 1 (.t 2)),
     .o 6 (.ld1 (.t 5)),
     .r 7 (.fld 1 (.t 3)),
     .o 8 (.ld1 (.t 7)),
     .r 9 (.bin .neq (.t 6) (.t 8))])
  (.cond (.t 9)
    (.seq (.reg [.r 10 (.fld 1 (.t 2)),
       .o 11 (.ld1 (.t 10)),
       .r 12 (.fld 1 (.t 3)),
       .o 13 (.ld1 (.t 12)),
       .r 14 (.bin .sub (.t 11) (.t 13)),
       .r 4 (.mv (.t 14))])
    .ret)
    .skip))
  (.seq (.reg [.r 15 (.fld 0 (.t 2)),
     .o 16 (.ld1 (.t 15)),
     .r 17 (.fld 0 (.t 3)),
     .o 18 (.ld1 (.t 17)),
     .r 19 (.bin .sub (.t 16) (.t 18)),
     .r 4 (.mv (.t 19))])
  .ret)))
theorem fit_wire_audit_1 : fits Tryz.prog 30 Tryz.f30 sc_wire_audit_1 [.t 4] 2 = true := by kernel_rfl

set_option maxRecDepth 100000 in
set_option maxHeartbeats 40000000 in
noncomputable def sims_GB_0_0 : (∀ (x0 : List (List UInt8)) (x1 : List UInt8), {m : Option (Int) // ∀ r, m = some r → PureSpec Tryz.prog 20 [.slice (List.map rowS x0), .str x1] (.int .i64 r)}) × (∀ (x0 : Tapi_Note) (x1 : Tapi_Note), {m : Option (Int) // ∀ r, m = some r → PureSpec Tryz.prog 30 [.agg (rTapi_Note x0), .agg (rTapi_Note x1)] (.int .i64 r)}) := by
  refine ⟨?g0, ?g1⟩
  case' g0 => (intro x0 x1; apply Subtype.mk; intro r hm; apply pure_walk Tryz.func20 fit_slices_Index_string_string; unfold sc_slices_Index_string_string)
  case' g1 => (intro x0 x1; apply Subtype.mk; intro r hm; apply pure_walk Tryz.func30 fit_wire_audit_1; unfold sc_wire_audit_1)
  all_goals (repeat' (first | with_reducible refine W_seq ?_ | with_reducible refine W_reg ?_ | with_reducible refine W_block ?_ | with_reducible refine W_skip ?_ | with_reducible refine W_ret ?_ | with_reducible refine W_exit ?_ | with_reducible refine O_nil ?_ | with_reducible refine K_seq ?_ | with_reducible refine K_seqE ?_ | with_reducible refine K_seqR ?_ | with_reducible refine K_block ?_ | with_reducible refine K_blockR ?_ | with_reducible refine O_o2r ?_ | ((with_reducible apply O_idxr hm); (iterate 2 (simp only [push_cast, seval]; rfl)); (intro _; rfl); intro e hm) | ((with_reducible apply O_r); (simp only [push_cast, seval]; rfl); (first | exact trivial)) | ((with_reducible apply S_condB hm); (simp only [push_cast, seval]; rfl); intro hm; rotate_left; intro hm) | ((with_reducible apply K_endS hm); (focus (simp only [resOf, resL, RV.get, push_cast, seval]; rfl)); (focus ((repeat' (first | rfl)); done))) | ((with_reducible apply K_leave hm); intro r hm) | ((with_reducible apply K_leaveR hm); intro r hm) | ((apply S_loopY (b := 0) (X := sc_slices_Index_string_string_B1) (x := sc_slices_Index_string_string_L1) rfl (fun (c : SV × SV × SV) (s : Int) => st [(0, c.1), (1, c.2.1), (7, c.2.2), (8, .d (.int .i64 s))] []) (c := (_, _, _)) (s0 := _) hm); (focus (first | (dsimp only; done))); (with_reducible refine Then.mk ?_ ?_)) | ((apply K_next (s' := _) hm); (focus (first | (dsimp only; done)))) | ((apply K_brk (s' := _) hm); (focus (first | (dsimp only; done)))) | (((with_reducible apply K_brkR hm); intro r hm)) | (((with_reducible apply LoopB.of); (focus (first | (dsimp only; done))); (focus ((intro _; repeat' (first | with_reducible exact impC_end | with_reducible refine impC_seq ?_)))); (intro s o hm; first | unfold sc_slices_Index_string_string_L1); rotate_left; intro s hm)) | (((apply imp_stT; (repeat' (first | with_reducible exact keepT_nil | with_reducible exact keepC_nil | with_reducible apply keepT_cons | ((with_reducible apply svle_eq); (focus (first | (simp only [push_cast, seval]; rfl))); (focus ((repeat' (first | rfl)); done))))); done)))))
noncomputable def m_slices_Index_string_string (x0 : List (List UInt8)) (x1 : List UInt8) : Option (Int) := (sims_GB_0_0.1 x0 x1).1
theorem spec_slices_Index_string_string (x0 : List (List UInt8)) (x1 : List UInt8) : ∀ r, m_slices_Index_string_string x0 x1 = some r → PureSpec Tryz.prog 20 [.slice (List.map rowS x0), .str x1] (.int .i64 r) := (sims_GB_0_0.1 x0 x1).2
noncomputable def m_wire_audit_1 (x0 : Tapi_Note) (x1 : Tapi_Note) : Option (Int) := (sims_GB_0_0.2 x0 x1).1
theorem spec_wire_audit_1 (x0 : Tapi_Note) (x1 : Tapi_Note) : ∀ r, m_wire_audit_1 x0 x1 = some r → PureSpec Tryz.prog 30 [.agg (rTapi_Note x0), .agg (rTapi_Note x1)] (.int .i64 r) := (sims_GB_0_0.2 x0 x1).2

/-- (*interchange/wire.auditor).note -/
def sc_interchange_wire_auditor_note : SC :=
  (.reg [.r 6 (.mv (.t 0)),
     .r 7 (.mv (.t 0)),
     .r 8 (.nilc (.t 7)),
     .r 9 (.fld 1 (.t 8)),
     .o 10 (.ld1 (.t 9)),
     .r 11 (.mv (.t 1)),
     .r 12 (.mv (.t 2)),
     .r 13 (.build [.d (.int .i64 0), .d (.int .i64 0)] [(0, 1, .t 11), (1, 1, .t 12)]),
     .r 14 (.bslice 2 [.t 13]),
     .w 15 (.app 29 2 (.t 10) (.t 14)),
     .r 16 (.nilc (.t 6)),
     .r 17 (.fld 1 (.t 16)),
     .w 0 (.st 1 (.t 17) (.t 15))])
theorem fit_interchange_wire_auditor_note : fits Tryz.prog 27 Tryz.f27 sc_interchange_wire_auditor_note [] 3 = true := by kernel_rfl

set_option maxRecDepth 100000 in
set_option maxHeartbeats 40000000 in
noncomputable def sims_GB_0_1 : (∀ (x0 : Twire_auditor) (x1 : Int) (x2 : Int), {m : Option ((Unit) × Twire_auditor) // ∀ r, m = some r → FSpec Tryz.prog 27 (.own (.pt [.sl 93 [.pt [.sh, .sh, .sh, .sh, .mp .str .sh]], .sl 29 (List.replicate 2 .sh)]) (.ptr (rTwire_auditor x0)) :: List.map SV.d ([.int .i64 x1, .int .i64 x2] : List DV)) (.tup []) (.own (.pt [.sl 93 [.pt [.sh, .sh, .sh, .sh, .mp .str .sh]], .sl 29 (List.replicate 2 .sh)]) (.ptr (rTwire_auditor r.2)) :: List.map SV.d ([.int .i64 x1, .int .i64 x2] : List DV))}) := by
  (intro x0 x1 x2; apply Subtype.mk; intro r hm; apply fspec_walk1 (N := 18) (k := 3) Tryz.func27 fit_interchange_wire_auditor_note (by kernel_rfl) rfl rfl (by decide); unfold sc_interchange_wire_auditor_note)
  repeat' (first | ((with_reducible apply W_openBO (id := 0) (cid := 1000) (off := 0) (n := 1) (e := 93) (ms := [.pt [.sh, .sh, .sh, .sh, .mp .str .sh]]) (row := (rowP rTwire_open))); (focus (simp only [push_cast, seval]; (try rfl); done)); (focus (simp only [push_cast, seval]; (try rfl); done)); (focus decide); (focus rfl); (focus (simp only [push_cast, seval]; (try rfl); done))) | ((with_reducible apply W_openBs (id := 0) (cid := 1001) (off := 1) (n := 2) (e := 29)); (focus (simp only [push_cast, seval]; (try rfl); done)); (focus (simp only [push_cast, seval]; (try rfl); done)); (focus decide); (focus rfl); (focus (intro _; rfl)); (focus (simp only [push_cast, seval]; (try rfl); done))) | with_reducible refine W_reg ?_ | with_reducible refine O_nil ?_ | with_reducible refine O_o2r ?_ | ((with_reducible apply O_r); (simp only [push_cast, seval]; rfl); (first | exact trivial)) | ((with_reducible apply O_w); (simp only [push_cast, seval]; rfl); (first | exact trivial)) | ((with_reducible apply O_appV hm); (iterate 4 (simp only [push_cast, seval]; rfl)); (focus ((repeat' (first | rfl | (with_reducible first | apply fT_Tapi_Note | apply dv_slice | apply fold_nil | apply fold_cons))); done)); decide; (intro _; rfl); intro hm) | (((with_reducible apply K_endPN (a := ()) hm (ms := [.sl 93 [.pt [.sh, .sh, .sh, .sh, .mp .str .sh]], .sl 29 (List.replicate 2 .sh)])); (focus ((try ((apply Imp.trans); (focus ((apply imp_closeBO (id := 0) (cid := 1000) (off := 0) (n := 1) (e := 93) (ms := [.pt [.sh, .sh, .sh, .sh, .mp .str .sh]]) (row := (rowP rTwire_open))); (focus (simp only [push_cast, seval]; (try rfl); done)); (focus (simp only [push_cast, seval]; (try rfl); done)); (focus decide); (focus (simp only [push_cast, seval]; (try rfl); done)); (focus ((repeat' (first | (with_reducible first | apply r_rflO))); done)); (focus rfl); (focus (intro _; rfl)); (focus (simp only [push_cast, seval]; (try rfl); done)))))); (try ((apply Imp.trans); (focus ((apply imp_closeBs (id := 0) (cid := 1001) (off := 1) (n := 2) (e := 29)); (focus (simp only [push_cast, seval]; (try rfl); done)); (focus (simp only [push_cast, seval]; (try rfl); done)); (focus decide); (focus (simp only [push_cast, seval]; (try rfl); done)); (focus ((repeat' (first | (with_reducible first | apply r_rfl))); done)); (focus (intro _; rfl)); (focus (simp only [push_cast, seval]; (try rfl); done)))))); exact Imp.refl _)); (focus (simp only [push_cast, seval]; (try rfl); done)); (focus ((repeat' (first | (with_reducible first | apply oT_Twire_auditor) | ((with_reducible apply cle_own); (focus rfl); (focus ((repeat' (first | rfl)); done))))); done)); (focus (intro _; rfl)); (focus (simp only [push_cast, seval]; (try rfl); done)); (focus (simp only [push_cast, seval]; (try rfl); done)); (focus (simp only [push_cast, seval]; (try rfl); done)); (focus (simp only [push_cast, seval]; (try rfl); done)); (focus (first | exact he_0)))))
noncomputable def m_interchange_wire_auditor_note (x0 : Twire_auditor) (x1 : Int) (x2 : Int) : Option ((Unit) × Twire_auditor) := (sims_GB_0_1 x0 x1 x2).1
theorem spec_interchange_wire_auditor_note (x0 : Twire_auditor) (x1 : Int) (x2 : Int) : ∀ r, m_interchange_wire_auditor_note x0 x1 x2 = some r → FSpec Tryz.prog 27 (.own (.pt [.sl 93 [.pt [.sh, .sh, .sh, .sh, .mp .str .sh]], .sl 29 (List.replicate 2 .sh)]) (.ptr (rTwire_auditor x0)) :: List.map SV.d ([.int .i64 x1, .int .i64 x2] : List DV)) (.tup []) (.own (.pt [.sl 93 [.pt [.sh, .sh, .sh, .sh, .mp .str .sh]], .sl 29 (List.replicate 2 .sh)]) (.ptr (rTwire_auditor r.2)) :: List.map SV.d ([.int .i64 x1, .int .i64 x2] : List DV)) := (sims_GB_0_1 x0 x1 x2).2

def sc_interchange_wire_auditor_close_L1 : SC :=
  (.seq (.seq (.reg [.r 6 (.mv (.t 0)),
     .r 7 (.nilc (.t 6)),
     .r 8 (.fld 0 (.t 7)),
     .o 9 (.ld1 (.t 8)),
     .r 10 (.len (.t 9)),
     .r 11 (.mv (.t 1)),
     .r 12 (.bin .gtr (.t 10) (.t 11))])
  (.cond (.t 12)
    .skip
    (.exit 0)))
  (.block 1 (.seq (.reg [.r 13 (.mv (.t 0)),
       .r 14 (.mv (.t 2)),
       .p (some 15) (.f 27) [.t 13, .c (.d (.int .i64 2)), .t 14]])
    (.regE [.r 16 (.mv (.t 0)),
       .r 17 (.mv (.t 0)),
       .r 18 (.nilc (.t 17)),
       .r 19 (.fld 0 (.t 18)),
       .r 20 (.ld1 (.t 19)),
       .r 21 (.mv (.t 0)),
       .r 22 (.nilc (.t 21)),
       .r 23 (.fld 0 (.t 22)),
       .r 24 (.ld1 (.t 23)),
       .r 25 (.len (.t 24)),
       .r 26 (.bin .sub (.t 25) (.c (.d (.int .i64 1)))),
       .x 27 (.trunc 1 (.t 20) (.t 26)) [(0, 16, .mv (.t 0))],
       .r 28 (.nilc (.t 16)),
       .r 29 (.fld 0 (.t 28)),
       .x 0 (.st 1 (.t 29) (.t 27)) []]))))
def sc_interchange_wire_auditor_close_B1 : SC := .block 0 (.loop sc_interchange_wire_auditor_close_L1)
/-- (*interchange/wire.auditor).close -/
def sc_interchange_wire_auditor_close : SC :=
  sc_interchange_wire_auditor_close_B1
theorem fit_interchange_wire_auditor_close : fits Tryz.prog 28 Tryz.f28 sc_interchange_wire_auditor_close [] 3 = true := by kernel_rfl

set_option maxRecDepth 100000 in
set_option maxHeartbeats 40000000 in
noncomputable def sims_GB_1_0 : (∀ (x0 : Twire_auditor) (x1 : Int) (x2 : Int), {m : Option ((Unit) × Twire_auditor) // ∀ r, m = some r → FSpec Tryz.prog 28 (.own (.pt [.sl 93 [.pt [.sh, .sh, .sh, .sh, .mp .str .sh]], .sl 29 (List.replicate 2 .sh)]) (.ptr (rTwire_auditor x0)) :: List.map SV.d ([.int .i64 x1, .int .i64 x2] : List DV)) (.tup []) (.own (.pt [.sl 93 [.pt [.sh, .sh, .sh, .sh, .mp .str .sh]], .sl 29 (List.replicate 2 .sh)]) (.ptr (rTwire_auditor r.2)) :: List.map SV.d ([.int .i64 x1, .int .i64 x2] : List DV))}) := by
  (intro x0 x1 x2; apply Subtype.mk; intro r hm; apply fspec_walk1 (N := 30) (k := 3) Tryz.func28 fit_interchange_wire_auditor_close (by kernel_rfl) rfl rfl (by decide); unfold sc_interchange_wire_auditor_close)
  repeat' (first | ((with_reducible apply W_openBO (id := 0) (cid := 1000) (off := 0) (n := 1) (e := 93) (ms := [.pt [.sh, .sh, .sh, .sh, .mp .str .sh]]) (row := (rowP rTwire_open))); (focus (simp only [push_cast, seval]; (try rfl); done)); (focus (simp only [push_cast, seval]; (try rfl); done)); (focus decide); (focus rfl); (focus (simp only [push_cast, seval]; (try rfl); done))) | ((with_reducible apply W_openBs (id := 0) (cid := 1001) (off := 1) (n := 2) (e := 29)); (focus (simp only [push_cast, seval]; (try rfl); done)); (focus (simp only [push_cast, seval]; (try rfl); done)); (focus decide); (focus rfl); (focus (intro _; rfl)); (focus (simp only [push_cast, seval]; (try rfl); done))) | with_reducible refine W_seq ?_ | with_reducible refine W_reg ?_ | with_reducible refine W_regE ?_ | with_reducible refine W_block ?_ | with_reducible refine W_skip ?_ | with_reducible refine W_exit ?_ | with_reducible refine O_nil ?_ | with_reducible refine K_seq ?_ | with_reducible refine K_seqE ?_ | with_reducible refine K_block ?_ | with_reducible refine O_o2r ?_ | ((with_reducible apply O_r); (simp only [push_cast, seval]; rfl); (first | exact trivial)) | ((with_reducible apply O_truncVOx hm); (iterate 3 (simp only [push_cast, seval]; rfl)); (focus (first | (simp only [push_cast, seval]; rfl))); (focus (first | rfl)); (focus (intro _ _; (repeat' (first | exact Rer_nil | ((with_reducible apply Rer_cons); (focus (simp only [push_cast, seval]; rfl)); (focus (first | exact trivial)); (focus (simp only [push_cast, seval]))))); done)); intro l hm) | ((with_reducible apply O_x); (simp only [push_cast, seval]; rfl); (first | exact trivial); (focus ((repeat' (first | exact Rer_nil)); done))) | ((with_reducible apply S_condB hm); (simp only [push_cast, seval]; rfl); intro hm; rotate_left; intro hm) | ((with_reducible apply K_leave hm); intro r hm) | ((apply S_loopY (b := 0) (X := sc_interchange_wire_auditor_close_B1) (x := sc_interchange_wire_auditor_close_L1) rfl (fun (c : SV × SV × SV × SV) (s : (List Twire_open) × (List Tapi_Note)) => st [(0, .ref 0 0), (1, c.1), (2, c.2.1), (30, .ref 0 0), (31, c.2.2.1), (32, c.2.2.2)] [(1000, .vec 93 1 (vrowO [.pt [.sh, .sh, .sh, .sh, .mp .str .sh]] (rowP rTwire_open) s.1)), (1001, .vec 29 2 (vrow rTapi_Note s.2)), (0, .box (bT_Twire_auditor 1000 1001))]) (c := (_, _, _, _)) (s0 := (_, _)) hm); (focus (first | (dsimp only; done))); (with_reducible refine Then.mk ?_ ?_)) | ((apply K_next (s' := (_, _)) hm); (focus (first | (dsimp only; done)))) | ((apply K_brk (s' := (_, _)) hm); (focus (first | (dsimp only; done)))) | (((with_reducible apply O_pM hm (id := 0) (ms := [.sl 93 [.pt [.sh, .sh, .sh, .sh, .mp .str .sh]], .sl 29 (List.replicate 2 .sh)])); (focus ((try ((apply Imp.trans); (focus ((apply imp_closeBO (id := 0) (cid := 1000) (off := 0) (n := 1) (e := 93) (ms := [.pt [.sh, .sh, .sh, .sh, .mp .str .sh]]) (row := (rowP rTwire_open))); (focus (simp only [push_cast, seval]; (try rfl); done)); (focus (simp only [push_cast, seval]; (try rfl); done)); (focus decide); (focus (simp only [push_cast, seval]; (try rfl); done)); (focus ((repeat' (first | (with_reducible first | apply r_rflO))); done)); (focus rfl); (focus (intro _; rfl)); (focus (simp only [push_cast, seval]; (try rfl); done)))))); (try ((apply Imp.trans); (focus ((apply imp_closeBs (id := 0) (cid := 1001) (off := 1) (n := 2) (e := 29)); (focus (simp only [push_cast, seval]; (try rfl); done)); (focus (simp only [push_cast, seval]; (try rfl); done)); (focus decide); (focus (simp only [push_cast, seval]; (try rfl); done)); (focus ((repeat' (first | (with_reducible first | apply r_rfl))); done)); (focus (intro _; rfl)); (focus (simp only [push_cast, seval]; (try rfl); done)))))); exact Imp.refl _)); (focus (simp only [push_cast, seval]; (try rfl); done)); (focus (simp only [push_cast, seval]; (try rfl); done)); (focus (simp only [push_cast, seval]; (try rfl); done)); (focus ((repeat' (first | (with_reducible first | apply oT_Twire_auditor) | ((with_reducible apply cle_own); (focus rfl); (focus ((repeat' (first | rfl)); done))))); done)); (focus rfl); (first | apply spec_interchange_wire_auditor_note _ _ _); (any_goals (focus ((repeat' (first | rfl)); done))); (focus (intro _; exact ⟨rfl, rfl, rfl⟩)); intro y hm)) | (((with_reducible apply K_endPN (a := ()) hm (ms := [.sl 93 [.pt [.sh, .sh, .sh, .sh, .mp .str .sh]], .sl 29 (List.replicate 2 .sh)])); (focus ((try ((apply Imp.trans); (focus ((apply imp_closeBO (id := 0) (cid := 1000) (off := 0) (n := 1) (e := 93) (ms := [.pt [.sh, .sh, .sh, .sh, .mp .str .sh]]) (row := (rowP rTwire_open))); (focus (simp only [push_cast, seval]; (try rfl); done)); (focus (simp only [push_cast, seval]; (try rfl); done)); (focus decide); (focus (simp only [push_cast, seval]; (try rfl); done)); (focus ((repeat' (first | (with_reducible first | apply r_rflO))); done)); (focus rfl); (focus (intro _; rfl)); (focus (simp only [push_cast, seval]; (try rfl); done)))))); (try ((apply Imp.trans); (focus ((apply imp_closeBs (id := 0) (cid := 1001) (off := 1) (n := 2) (e := 29)); (focus (simp only [push_cast, seval]; (try rfl); done)); (focus (simp only [push_cast, seval]; (try rfl); done)); (focus decide); (focus (simp only [push_cast, seval]; (try rfl); done)); (focus ((repeat' (first | (with_reducible first | apply r_rfl))); done)); (focus (intro _; rfl)); (focus (simp only [push_cast, seval]; (try rfl); done)))))); exact Imp.refl _)); (focus (simp only [push_cast, seval]; (try rfl); done)); (focus ((repeat' (first | (with_reducible first | apply oT_Twire_auditor) | ((with_reducible apply cle_own); (focus rfl); (focus ((repeat' (first | rfl)); done))))); done)); (focus (intro _; rfl)); (focus (simp only [push_cast, seval]; (try rfl); done)); (focus (simp only [push_cast, seval]; (try rfl); done)); (focus (simp only [push_cast, seval]; (try rfl); done)); (focus (simp only [push_cast, seval]; (try rfl); done)); (focus (first | exact he_0)))) | (((with_reducible apply LoopB.of); (focus (first | (dsimp only; done))); (focus ((intro _; repeat' (first | with_reducible exact impC_endF)))); (intro s o hm; first | unfold sc_interchange_wire_auditor_close_L1); rotate_left; intro s hm)) | (((apply imp_stT; (repeat' (first | with_reducible exact keepT_nil | with_reducible exact keepC_nil | with_reducible apply keepT_cons | with_reducible apply keepC_cons | ((with_reducible apply svle_eq); (focus (first | (simp only [push_cast, seval]; rfl))); (focus ((repeat' (first | rfl)); done))) | ((with_reducible apply chle_eq); (focus (first | (simp only [push_cast, seval]; rfl))); (first | with_reducible exact chle_rfl rfl)))); done))))
noncomputable def m_interchange_wire_auditor_close (x0 : Twire_auditor) (x1 : Int) (x2 : Int) : Option ((Unit) × Twire_auditor) := (sims_GB_1_0 x0 x1 x2).1
theorem spec_interchange_wire_auditor_close (x0 : Twire_auditor) (x1 : Int) (x2 : Int) : ∀ r, m_interchange_wire_auditor_close x0 x1 x2 = some r → FSpec Tryz.prog 28 (.own (.pt [.sl 93 [.pt [.sh, .sh, .sh, .sh, .mp .str .sh]], .sl 29 (List.replicate 2 .sh)]) (.ptr (rTwire_auditor x0)) :: List.map SV.d ([.int .i64 x1, .int .i64 x2] : List DV)) (.tup []) (.own (.pt [.sl 93 [.pt [.sh, .sh, .sh, .sh, .mp .str .sh]], .sl 29 (List.replicate 2 .sh)]) (.ptr (rTwire_auditor r.2)) :: List.map SV.d ([.int .i64 x1, .int .i64 x2] : List DV)) := (sims_GB_1_0 x0 x1 x2).2

def sc_interchange_wire_auditor_head_L1 : SC :=
  (.seq (.seq (.reg [.r 25 (.mv (.t 0)),
     .r 26 (.nilc (.t 25)),
     .r 27 (.fld 0 (.t 26)),
     .o 28 (.ld1 (.t 27)),
     .r 29 (.len (.t 28)),
     .r 30 (.mv (.t 2)),
     .r 31 (.bin .lss (.t 29) (.t 30))])
  (.cond (.t 31)
    .skip
    (.exit 0)))
  (.block 1 (.reg [.r 32 (.mv (.t 0)),
       .r 33 (.mv (.t 0)),
       .r 34 (.nilc (.t 33)),
       .r 35 (.fld 0 (.t 34)),
       .o 36 (.ld1 (.t 35)),
       .w 37 (.mkmap .str),
       .r 38 (.build [.d (.bool false), .d (.str []), .d (.int .i64 0), .d (.int .i64 0), .d (.raw (.map none))] [(4, 1, .t 37)]),
       .w 39 (.boxM (.t 38)),
       .r 40 (.bslice 1 [.t 39]),
       .w 41 (.app 93 1 (.t 36) (.t 40)),
       .r 42 (.nilc (.t 32)),
       .r 43 (.fld 0 (.t 42)),
       .w 0 (.st 1 (.t 43) (.t 41))])))
def sc_interchange_wire_auditor_head_B1 : SC := .block 0 (.loop sc_interchange_wire_auditor_head_L1)
def sc_interchange_wire_auditor_head_R17 : SC := (.reg [.r 89 (.mv (.t 0)),
     .r 90 (.mv (.t 0)),
     .r 91 (.nilc (.t 90)),
     .r 92 (.fld 0 (.t 91)),
     .o 93 (.ld1 (.t 92)),
     .r 94 (.mv (.t 8)),
     .r 95 (.mv (.t 3)),
     .w 96 (.mkmap .str),
     .r 97 (.build [.d (.bool false), .d (.str []), .d (.int .i64 0), .d (.int .i64 0), .d (.raw (.map none))] [(0, 1, .c (.d (.bool true))), (1, 1, .t 94), (2, 1, .t 95), (4, 1, .t 96)]),
     .w 98 (.boxM (.t 97)),
     .r 99 (.bslice 1 [.t 98]),
     .w 100 (.app 93 1 (.t 93) (.t 99)),
     .r 101 (.nilc (.t 89)),
     .r 102 (.fld 0 (.t 101)),
     .w 0 (.st 1 (.t 102) (.t 100))])
/-- (*interchange/wire.auditor).head -/
def sc_interchange_wire_auditor_head : SC :=
  (.seq (.reg [.r 5 (.boxI (.t 1))])
  (.seq (.reg [.r 11 (.mv (.t 0)),
     .r 12 (.mv (.t 2)),
     .r 13 (.mv (.t 3)),
     .p (some 14) (.f 28) [.t 11, .t 12, .t 13]])
  (.seq (.seq (.reg [.r 15 (.mv (.t 0)),
     .r 16 (.nilc (.t 15)),
     .r 17 (.fld 0 (.t 16)),
     .o 18 (.ld1 (.t 17)),
     .r 19 (.len (.t 18)),
     .r 20 (.mv (.t 2)),
     .r 21 (.bin .lss (.t 19) (.t 20))])
  (.cond (.t 21)
    (.seq (.reg [.r 22 (.mv (.t 0)),
       .r 23 (.mv (.t 3)),
       .p (some 24) (.f 27) [.t 22, .c (.d (.int .i64 1)), .t 23]])
    sc_interchange_wire_auditor_head_B1)
    .skip))
  (.seq (.reg [.o 44 (.ldA 2 (.t 5)),
     .c 45 (.f 52) [.t 44],
     .r 8 (.mv (.t 45))])
  (.seq (.seq (.reg [.o 46 (.ldA 2 (.t 5)),
     .c 47 (.f 53) [.t 46],
     .r 48 (.not (.t 47))])
  (.cond (.t 48)
    (.reg [.r 49 (.mv (.t 0)),
       .r 50 (.mv (.t 3)),
       .p (some 51) (.f 27) [.t 49, .c (.d (.int .i64 6)), .t 50]])
    .skip))
  (.seq (.seq (.reg [.r 52 (.mv (.t 2)),
     .r 53 (.bin .gtr (.t 52) (.c (.d (.int .i64 0))))])
  (.cond (.t 53)
    (.seq (.reg [.r 54 (.mv (.t 0)),
       .r 55 (.nilc (.t 54)),
       .r 56 (.fld 0 (.t 55)),
       .o 57 (.ld1 (.t 56)),
       .r 58 (.mv (.t 2)),
       .r 59 (.bin .sub (.t 58) (.c (.d (.int .i64 1)))),
       .r 60 (.idx 1 (.t 57) (.t 59)),
       .o 61 (.ld1 (.t 60)),
       .r 9 (.mv (.t 61))])
    (.seq (.reg [.r 62 (.mv (.t 9)),
       .r 63 (.nilc (.t 62)),
       .r 64 (.fld 3 (.t 63)),
       .o 65 (.ld1 (.t 64)),
       .r 66 (.bin .add (.t 65) (.c (.d (.int .i64 1)))),
       .r 67 (.nilc (.t 62)),
       .r 68 (.fld 3 (.t 67)),
       .w 0 (.st 1 (.t 68) (.t 66))])
    (.seq (.reg [.o 69 (.ldA 2 (.t 5)),
       .c 70 (.f 54) [.t 69],
       .r 10 (.mv (.t 70))])
    (.seq (.reg (.r 71 (.mv (.t 10)) :: .r 72 (.mv (.t 71)) :: gapp [73, 74, 75, 76, 77, 78] 72 true (.r 73 (.mv (.t 9)) :: .r 74 (.nilc (.t 73)) :: .r 75 (.fld 4 (.t 74)) :: .r 76 (.ld1 (.t 75)) :: .r 77 (.mv (.t 8)) :: .r 78 (.look .str (.d (.bool false)) false (.t 76) (.t 77)) :: []) (.r 79 (.pick (.t 72) (.t 78) (.c (.d (.bool false)))) :: [])))
    (.cond (.t 79)
      (.reg [.r 80 (.mv (.t 0)),
         .r 81 (.mv (.t 3)),
         .p (some 82) (.f 27) [.t 80, .c (.d (.int .i64 5)), .t 81]])
      (.seq (.reg [.r 83 (.mv (.t 10))])
      (.cond (.t 83)
        (.reg [.r 84 (.mv (.t 9)),
           .r 85 (.nilc (.t 84)),
           .r 86 (.fld 4 (.t 85)),
           .o 87 (.ld1 (.t 86)),
           .r 88 (.mv (.t 8)),
           .w 0 (.mset .str (.t 87) (.t 88) (.c (.d (.bool true))))])
        .skip)))))))
    .skip))
  sc_interchange_wire_auditor_head_R17))))))
theorem fit_interchange_wire_auditor_head : fits Tryz.prog 24 Tryz.f24 sc_interchange_wire_auditor_head [] 4 = true := by kernel_rfl

set_option maxRecDepth 100000 in
set_option maxHeartbeats 40000000 in
noncomputable def sims_GB_2_0 : (∀ (x0 : Twire_auditor) (x1 : Tapi_Segment) (x2 : Int) (x3 : Int), {m : Option ((Unit) × Twire_auditor) // ∀ r, m = some r → FSpec Tryz.prog 24 (.own (.pt [.sl 93 [.pt [.sh, .sh, .sh, .sh, .mp .str .sh]], .sl 29 (List.replicate 2 .sh)]) (.ptr (rTwire_auditor x0)) :: List.map SV.d ([.agg (rTapi_Segment x1), .int .i64 x2, .int .i64 x3] : List DV)) (.tup []) (.own (.pt [.sl 93 [.pt [.sh, .sh, .sh, .sh, .mp .str .sh]], .sl 29 (List.replicate 2 .sh)]) (.ptr (rTwire_auditor r.2)) :: List.map SV.d ([.agg (rTapi_Segment x1), .int .i64 x2, .int .i64 x3] : List DV))}) := by
  (intro x0 x1 x2 x3; apply Subtype.mk; intro r hm; apply fspec_walk1 (N := 103) (k := 4) Tryz.func24 fit_interchange_wire_auditor_head (by kernel_rfl) rfl rfl (by decide); unfold sc_interchange_wire_auditor_head)
  repeat' (first | ((with_reducible apply W_openBO (id := 0) (cid := 1000) (off := 0) (n := 1) (e := 93) (ms := [.pt [.sh, .sh, .sh, .sh, .mp .str .sh]]) (row := (rowP rTwire_open))); (focus (simp only [push_cast, seval, -List.reduceReplicate]; (try rfl); done)); (focus (simp only [push_cast, seval, -List.reduceReplicate]; (try rfl); done)); (focus decide); (focus rfl); (focus (simp only [push_cast, seval, -List.reduceReplicate]; (try rfl); done))) | ((with_reducible apply W_openBs (id := 0) (cid := 1001) (off := 1) (n := 2) (e := 29)); (focus (simp only [push_cast, seval, -List.reduceReplicate]; (try rfl); done)); (focus (simp only [push_cast, seval, -List.reduceReplicate]; (try rfl); done)); (focus decide); (focus rfl); (focus (intro _; rfl)); (focus (simp only [push_cast, seval, -List.reduceReplicate]; (try rfl); done))) | ((with_reducible apply O_oPt (dst := 61) (C := 40010) (ms := [.sh, .sh, .sh, .sh, .mp .str .sh]) (row := rTwire_open)); (focus (simp only [push_cast, seval, -List.reduceReplicate]; (try rfl); done)); (focus (simp only [push_cast, seval, -List.reduceReplicate]; (try rfl); done)); (focus exact getI_get (by assumption)); (focus decide)) | ((with_reducible apply O_oMB (dst := 61) (id := 40010) (mid := 40011) (off := 4) (kk := .str) (ke := .str) (fv := (fun v => .bool v))); (focus (simp only [push_cast, seval, -List.reduceReplicate]; (try rfl); done)); (focus (simp only [push_cast, seval, -List.reduceReplicate]; (try rfl); done)); (focus decide); (focus (simp only [push_cast, seval, -List.reduceReplicate]; (try rfl); done))) | ((apply W_impAt sc_interchange_wire_auditor_head_R17); (focus ((apply imp_closeMB (id := 40010) (mid := 40011) (off := 4) (kk := .str) (ke := .str) (fv := (fun v => .bool v))); (focus (simp only [push_cast, seval, -List.reduceReplicate]; (try rfl); done)); (focus (simp only [push_cast, seval, -List.reduceReplicate]; (try rfl); done)); (focus decide); (focus (simp only [push_cast, seval, -List.reduceReplicate]; (try rfl); done)); (focus (first | exact chle_rfl rfl | (apply chle_mapS; rfl))); (focus (simp only [push_cast, seval, -List.reduceReplicate]; (try rfl); done))))) | ((apply W_impAt sc_interchange_wire_auditor_head_R17); (focus ((apply imp_closePt (id := 1000) (C := 40010) (ms := [.sh, .sh, .sh, .sh, .mp .str .sh]) (row := rTwire_open)); (focus (simp only [push_cast, seval, -List.reduceReplicate]; (try rfl); done)); (focus (simp only [push_cast, seval, -List.reduceReplicate]; (try rfl); done)); (focus ((repeat' (first | (with_reducible first | apply oT_Twire_open) | ((with_reducible apply svle_eq); (focus (first | rfl)); (focus ((repeat' (first | rfl)); done))) | ((with_reducible apply cle_own); (focus rfl); (focus ((repeat' (first | rfl)); done))))); done)); (focus (intro _; rfl)); (focus (first | exact getI_lt (by assumption))); (focus decide)))) | ((with_reducible apply W_same sc_interchange_wire_auditor_head_R17); unfold sc_interchange_wire_auditor_head_R17) | with_reducible refine W_seq ?_ | with_reducible refine W_reg ?_ | with_reducible refine W_block ?_ | with_reducible refine W_skip ?_ | with_reducible refine W_exit ?_ | with_reducible refine O_nil ?_ | with_reducible refine K_seq ?_ | with_reducible refine K_seqE ?_ | with_reducible refine K_block ?_ | with_reducible refine O_o2r ?_ | ((with_reducible apply O_idxVO hm); (iterate 2 (simp only [push_cast, seval, -List.reduceReplicate]; rfl)); (focus (first | (simp only [push_cast, seval, -List.reduceReplicate]; rfl))); (simp only [push_cast, seval, -List.reduceReplicate]; rfl); intro e he hm) | ((with_reducible apply O_ldF); (iterate 2 (simp only [push_cast, seval, -List.reduceReplicate]; rfl)); (focus (first | (simp only [push_cast, seval, -List.reduceReplicate]; exact getI_lt (by assumption)))); (iterate 2 rfl)) | ((with_reducible apply O_r); (simp only [push_cast, seval, -List.reduceReplicate]; rfl); (first | exact trivial)) | ((with_reducible apply O_and hm); (simp only [push_cast, seval, -List.reduceReplicate]; rfl); rfl; intro v hm; rotate_left; intro v g hm) | ((with_reducible apply O_cF hm); (simp only [push_cast, seval, -List.reduceReplicate]; rfl); (first | apply spec_wire_first _ | apply spec_wire_isHead _ | apply spec_wire_hasRef _); (any_goals ((repeat' (first | rfl)); done)); intro x hm) | ((with_reducible apply O_w); (simp only [push_cast, seval, -List.reduceReplicate]; rfl); (first | exact trivial)) | ((with_reducible apply O_appVO hm); (iterate 3 (simp only [push_cast, seval, -List.reduceReplicate]; rfl)); rfl; (focus (first | decide)); intro hm) | ((with_reducible apply O_lookD); (iterate 3 (simp only [push_cast, seval, -List.reduceReplicate]; rfl)); (iterate 2 rfl)) | ((with_reducible apply S_condB hm); (simp only [push_cast, seval, -List.reduceReplicate]; rfl); intro hm; rotate_left; intro hm) | ((with_reducible apply K_bool hm); (simp only [push_cast, seval, -List.reduceReplicate]; rfl)) | ((with_reducible apply K_leave hm); intro r hm) | ((apply S_loopY (b := 0) (X := sc_interchange_wire_auditor_head_B1) (x := sc_interchange_wire_auditor_head_L1) rfl (fun (c : SV × SV × SV × SV × SV × SV) (s : (List Twire_open) × (List Tapi_Note)) => st [(0, .ref 0 0), (2, c.1), (3, c.2.1), (5, c.2.2.1), (103, .ref 0 0), (104, c.2.2.2.1), (105, c.2.2.2.2.1), (106, c.2.2.2.2.2)] [(1000, .vec 93 1 (vrowO [.pt [.sh, .sh, .sh, .sh, .mp .str .sh]] (rowP rTwire_open) s.1)), (1001, .vec 29 2 (vrow rTapi_Note s.2)), (0, .box (bT_Twire_auditor 1000 1001))]) (c := (_, _, _, _, _, _)) (s0 := (_, _)) hm); (focus (first | (dsimp only; done))); (with_reducible refine Then.mk ?_ ?_)) | ((apply K_next (s' := (_, _)) hm); (focus (first | (dsimp only; done))); (focus ((try ((apply Imp.trans); (focus ((apply imp_closeMB (id := 40010) (mid := 40011) (off := 4) (kk := .str) (ke := .str) (fv := (fun v => .bool v))); (focus (simp only [push_cast, seval, -List.reduceReplicate]; (try rfl); done)); (focus (simp only [push_cast, seval, -List.reduceReplicate]; (try rfl); done)); (focus decide); (focus (simp only [push_cast, seval, -List.reduceReplicate]; (try rfl); done)); (focus (fail)); (focus (simp only [push_cast, seval, -List.reduceReplicate]; (try rfl); done)))))); (try ((apply Imp.trans); (focus ((apply imp_closePt (id := 1000) (C := 40010) (ms := [.sh, .sh, .sh, .sh, .mp .str .sh]) (row := rTwire_open)); (focus (simp only [push_cast, seval, -List.reduceReplicate]; (try rfl); done)); (focus (simp only [push_cast, seval, -List.reduceReplicate]; (try rfl); done)); (focus ((repeat' (fail)); done)); (focus (intro _; rfl)); (focus (fail)); (focus decide))))); (try ((apply Imp.trans); (focus ((apply imp_closeMB (id := 39) (mid := 37) (off := 4) (kk := .str) (ke := .str) (fv := (fun v => .bool v))); (focus (simp only [push_cast, seval, -List.reduceReplicate]; (try rfl); done)); (focus (simp only [push_cast, seval, -List.reduceReplicate]; (try rfl); done)); (focus decide); (focus (simp only [push_cast, seval, -List.reduceReplicate]; (try rfl); done)); (focus (first | exact chle_map0)); (focus (simp only [push_cast, seval, -List.reduceReplicate]; (try rfl); done)))))); (try ((apply Imp.trans); (focus ((apply imp_closePa (id := 1000) (C := 39) (ms := [.sh, .sh, .sh, .sh, .mp .str .sh]) (row := rTwire_open)); (focus (simp only [push_cast, seval, -List.reduceReplicate]; (try rfl); done)); (focus ((repeat' (first | (with_reducible first | apply r_rflO))); done)); (focus (simp only [push_cast, seval, -List.reduceReplicate]; (try rfl); done)); (focus ((repeat' (first | (with_reducible first | apply oT_Twire_open) | ((with_reducible apply svle_eq); (focus (first | rfl)); (focus ((repeat' (first | rfl)); done))) | ((with_reducible apply cle_own); (focus rfl); (focus ((repeat' (first | rfl)); done))))); done)); (focus (intro _; rfl)); (focus decide))))); (try ((apply Imp.trans); (focus ((apply imp_closeMB (id := 98) (mid := 96) (off := 4) (kk := .str) (ke := .str) (fv := (fun v => .bool v))); (focus (simp only [push_cast, seval, -List.reduceReplicate]; (try rfl); done)); (focus (simp only [push_cast, seval, -List.reduceReplicate]; (try rfl); done)); (focus decide); (focus (simp only [push_cast, seval, -List.reduceReplicate]; (try rfl); done)); (focus (fail)); (focus (simp only [push_cast, seval, -List.reduceReplicate]; (try rfl); done)))))); (try ((apply Imp.trans); (focus ((apply imp_closePa (id := 1000) (C := 98) (ms := [.sh, .sh, .sh, .sh, .mp .str .sh]) (row := rTwire_open)); (focus (simp only [push_cast, seval, -List.reduceReplicate]; (try rfl); done)); (focus ((repeat' (fail)); done)); (focus (simp only [push_cast, seval, -List.reduceReplicate]; (try rfl); done)); (focus ((repeat' (fail)); done)); (focus (intro _; rfl)); (focus decide))))); (try ((apply Imp.trans); (focus ((apply imp_normO 1000 [.pt [.sh, .sh, .sh, .sh, .mp .str .sh]] (rowP rTwire_open)); (focus (simp only [push_cast, seval, -List.reduceReplicate]; rfl)); (focus ((repeat' (fail)); done)))))); (try ((apply Imp.trans); (focus ((apply imp_norm1 1000 [.pt [.sh, .sh, .sh, .sh, .mp .str .sh]] (rowP rTwire_open)); (focus (simp only [push_cast, seval, -List.reduceReplicate]; rfl)); (focus ((repeat' (fail)); done)))))); (apply imp_stT; (repeat' (first | with_reducible exact keepT_nil | with_reducible exact keepC_nil | with_reducible apply keepT_cons | with_reducible apply keepC_cons | ((with_reducible apply svle_eq); (focus (first | (simp only [push_cast, seval]; rfl))); (focus ((repeat' (first | rfl)); done))) | ((with_reducible apply chle_eq); (focus (first | (simp only [push_cast, seval]; rfl))); (first | with_reducible exact chle_rfl rfl)))); done)))) | ((apply K_brk (s' := (_, _)) hm); (focus (first | (dsimp only; done))); (focus ((apply imp_stT; (repeat' (first | with_reducible exact keepT_nil | with_reducible exact keepC_nil | with_reducible apply keepT_cons | with_reducible apply keepC_cons | ((with_reducible apply svle_eq); (focus (first | (simp only [push_cast, seval]; rfl))); (focus ((repeat' (first | rfl)); done))) | ((with_reducible apply chle_eq); (focus (first | (simp only [push_cast, seval]; rfl))); (first | with_reducible exact chle_rfl rfl)))); done)))) | (((with_reducible apply O_pM hm (id := 0) (ms := [.sl 93 [.pt [.sh, .sh, .sh, .sh, .mp .str .sh]], .sl 29 (List.replicate 2 .sh)])); (focus ((try ((apply Imp.trans); (focus ((apply imp_closeMB (id := 40010) (mid := 40011) (off := 4) (kk := .str) (ke := .str) (fv := (fun v => .bool v))); (focus (simp only [push_cast, seval, -List.reduceReplicate]; (try rfl); done)); (focus (simp only [push_cast, seval, -List.reduceReplicate]; (try rfl); done)); (focus decide); (focus (simp only [push_cast, seval, -List.reduceReplicate]; (try rfl); done)); (focus (first | exact chle_rfl rfl)); (focus (simp only [push_cast, seval, -List.reduceReplicate]; (try rfl); done)))))); (try ((apply Imp.trans); (focus ((apply imp_closePt (id := 1000) (C := 40010) (ms := [.sh, .sh, .sh, .sh, .mp .str .sh]) (row := rTwire_open)); (focus (simp only [push_cast, seval, -List.reduceReplicate]; (try rfl); done)); (focus (simp only [push_cast, seval, -List.reduceReplicate]; (try rfl); done)); (focus ((repeat' (first | (with_reducible first | apply oT_Twire_open) | ((with_reducible apply svle_eq); (focus (first | rfl)); (focus ((repeat' (first | rfl)); done))) | ((with_reducible apply cle_own); (focus rfl); (focus ((repeat' (first | rfl)); done))))); done)); (focus (intro _; rfl)); (focus (first | exact getI_lt (by assumption))); (focus decide))))); (try ((apply Imp.trans); (focus ((apply imp_closeMB (id := 39) (mid := 37) (off := 4) (kk := .str) (ke := .str) (fv := (fun v => .bool v))); (focus (simp only [push_cast, seval, -List.reduceReplicate]; (try rfl); done)); (focus (simp only [push_cast, seval, -List.reduceReplicate]; (try rfl); done)); (focus decide); (focus (simp only [push_cast, seval, -List.reduceReplicate]; (try rfl); done)); (focus (fail)); (focus (simp only [push_cast, seval, -List.reduceReplicate]; (try rfl); done)))))); (try ((apply Imp.trans); (focus ((apply imp_closePa (id := 1000) (C := 39) (ms := [.sh, .sh, .sh, .sh, .mp .str .sh]) (row := rTwire_open)); (focus (simp only [push_cast, seval, -List.reduceReplicate]; (try rfl); done)); (focus ((repeat' (fail)); done)); (focus (simp only [push_cast, seval, -List.reduceReplicate]; (try rfl); done)); (focus ((repeat' (fail)); done)); (focus (intro _; rfl)); (focus decide))))); (try ((apply Imp.trans); (focus ((apply imp_closeMB (id := 98) (mid := 96) (off := 4) (kk := .str) (ke := .str) (fv := (fun v => .bool v))); (focus (simp only [push_cast, seval, -List.reduceReplicate]; (try rfl); done)); (focus (simp only [push_cast, seval, -List.reduceReplicate]; (try rfl); done)); (focus decide); (focus (simp only [push_cast, seval, -List.reduceReplicate]; (try rfl); done)); (focus (fail)); (focus (simp only [push_cast, seval, -List.reduceReplicate]; (try rfl); done)))))); (try ((apply Imp.trans); (focus ((apply imp_closePa (id := 1000) (C := 98) (ms := [.sh, .sh, .sh, .sh, .mp .str .sh]) (row := rTwire_open)); (focus (simp only [push_cast, seval, -List.reduceReplicate]; (try rfl); done)); (focus ((repeat' (fail)); done)); (focus (simp only [push_cast, seval, -List.reduceReplicate]; (try rfl); done)); (focus ((repeat' (fail)); done)); (focus (intro _; rfl)); (focus decide))))); (try ((apply Imp.trans); (focus ((apply imp_closeBO (id := 0) (cid := 1000) (off := 0) (n := 1) (e := 93) (ms := [.pt [.sh, .sh, .sh, .sh, .mp .str .sh]]) (row := (rowP rTwire_open))); (focus (simp only [push_cast, seval, -List.reduceReplicate]; (try rfl); done)); (focus (simp only [push_cast, seval, -List.reduceReplicate]; (try rfl); done)); (focus decide); (focus (simp only [push_cast, seval, -List.reduceReplicate]; (try rfl); done)); (focus ((repeat' (first | (with_reducible first | apply r_rflO))); done)); (focus rfl); (focus (intro _; rfl)); (focus (simp only [push_cast, seval, -List.reduceReplicate]; (try rfl); done)))))); (try ((apply Imp.trans); (focus ((apply imp_closeBs (id := 0) (cid := 1001) (off := 1) (n := 2) (e := 29)); (focus (simp only [push_cast, seval, -List.reduceReplicate]; (try rfl); done)); (focus (simp only [push_cast, seval, -List.reduceReplicate]; (try rfl); done)); (focus decide); (focus (simp only [push_cast, seval, -List.reduceReplicate]; (try rfl); done)); (focus ((repeat' (first | (with_reducible first | apply r_rfl))); done)); (focus (intro _; rfl)); (focus (simp only [push_cast, seval, -List.reduceReplicate]; (try rfl); done)))))); exact Imp.refl _)); (focus (simp only [push_cast, seval, -List.reduceReplicate]; (try rfl); done)); (focus (simp only [push_cast, seval, -List.reduceReplicate]; (try rfl); done)); (focus (simp only [push_cast, seval, -List.reduceReplicate]; (try rfl); done)); (focus ((repeat' (first | (with_reducible first | apply oT_Twire_auditor) | ((with_reducible apply cle_own); (focus rfl); (focus ((repeat' (first | rfl)); done))))); done)); (focus rfl); (first | apply spec_interchange_wire_auditor_close _ _ _ | apply spec_interchange_wire_auditor_note _ _ _); (any_goals (focus ((repeat' (first | rfl)); done))); (focus (intro _; exact ⟨rfl, rfl, rfl⟩)); intro y hm)) | (((with_reducible apply K_endPN (a := ()) hm (ms := [.sl 93 [.pt [.sh, .sh, .sh, .sh, .mp .str .sh]], .sl 29 (List.replicate 2 .sh)])); (focus ((try ((apply Imp.trans); (focus ((apply imp_closeMB (id := 40010) (mid := 40011) (off := 4) (kk := .str) (ke := .str) (fv := (fun v => .bool v))); (focus (simp only [push_cast, seval, -List.reduceReplicate]; (try rfl); done)); (focus (simp only [push_cast, seval, -List.reduceReplicate]; (try rfl); done)); (focus decide); (focus (simp only [push_cast, seval, -List.reduceReplicate]; (try rfl); done)); (focus (fail)); (focus (simp only [push_cast, seval, -List.reduceReplicate]; (try rfl); done)))))); (try ((apply Imp.trans); (focus ((apply imp_closePt (id := 1000) (C := 40010) (ms := [.sh, .sh, .sh, .sh, .mp .str .sh]) (row := rTwire_open)); (focus (simp only [push_cast, seval, -List.reduceReplicate]; (try rfl); done)); (focus (simp only [push_cast, seval, -List.reduceReplicate]; (try rfl); done)); (focus ((repeat' (fail)); done)); (focus (intro _; rfl)); (focus (fail)); (focus decide))))); (try ((apply Imp.trans); (focus ((apply imp_closeMB (id := 39) (mid := 37) (off := 4) (kk := .str) (ke := .str) (fv := (fun v => .bool v))); (focus (simp only [push_cast, seval, -List.reduceReplicate]; (try rfl); done)); (focus (simp only [push_cast, seval, -List.reduceReplicate]; (try rfl); done)); (focus decide); (focus (simp only [push_cast, seval, -List.reduceReplicate]; (try rfl); done)); (focus (fail)); (focus (simp only [push_cast, seval, -List.reduceReplicate]; (try rfl); done)))))); (try ((apply Imp.trans); (focus ((apply imp_closePa (id := 1000) (C := 39) (ms := [.sh, .sh, .sh, .sh, .mp .str .sh]) (row := rTwire_open)); (focus (simp only [push_cast, seval, -List.reduceReplicate]; (try rfl); done)); (focus ((repeat' (fail)); done)); (focus (simp only [push_cast, seval, -List.reduceReplicate]; (try rfl); done)); (focus ((repeat' (fail)); done)); (focus (intro _; rfl)); (focus decide))))); (try ((apply Imp.trans); (focus ((apply imp_closeMB (id := 98) (mid := 96) (off := 4) (kk := .str) (ke := .str) (fv := (fun v => .bool v))); (focus (simp only [push_cast, seval, -List.reduceReplicate]; (try rfl); done)); (focus (simp only [push_cast, seval, -List.reduceReplicate]; (try rfl); done)); (focus decide); (focus (simp only [push_cast, seval, -List.reduceReplicate]; (try rfl); done)); (focus (first | exact chle_map0)); (focus (simp only [push_cast, seval, -List.reduceReplicate]; (try rfl); done)))))); (try ((apply Imp.trans); (focus ((apply imp_closePa (id := 1000) (C := 98) (ms := [.sh, .sh, .sh, .sh, .mp .str .sh]) (row := rTwire_open)); (focus (simp only [push_cast, seval, -List.reduceReplicate]; (try rfl); done)); (focus ((repeat' (first | (with_reducible first | apply r_rflO))); done)); (focus (simp only [push_cast, seval, -List.reduceReplicate]; (try rfl); done)); (focus ((repeat' (first | (with_reducible first | apply oT_Twire_open) | ((with_reducible apply svle_eq); (focus (first | rfl)); (focus ((repeat' (first | rfl)); done))) | ((with_reducible apply cle_own); (focus rfl); (focus ((repeat' (first | rfl)); done))))); done)); (focus (intro _; rfl)); (focus decide))))); (try ((apply Imp.trans); (focus ((apply imp_closeBO (id := 0) (cid := 1000) (off := 0) (n := 1) (e := 93) (ms := [.pt [.sh, .sh, .sh, .sh, .mp .str .sh]]) (row := (rowP rTwire_open))); (focus (simp only [push_cast, seval, -List.reduceReplicate]; (try rfl); done)); (focus (simp only [push_cast, seval, -List.reduceReplicate]; (try rfl); done)); (focus decide); (focus (simp only [push_cast, seval, -List.reduceReplicate]; (try rfl); done)); (focus ((repeat' (first | (with_reducible first | apply r_rflO))); done)); (focus rfl); (focus (intro _; rfl)); (focus (simp only [push_cast, seval, -List.reduceReplicate]; (try rfl); done)))))); (try ((apply Imp.trans); (focus ((apply imp_closeBs (id := 0) (cid := 1001) (off := 1) (n := 2) (e := 29)); (focus (simp only [push_cast, seval, -List.reduceReplicate]; (try rfl); done)); (focus (simp only [push_cast, seval, -List.reduceReplicate]; (try rfl); done)); (focus decide); (focus (simp only [push_cast, seval, -List.reduceReplicate]; (try rfl); done)); (focus ((repeat' (first | (with_reducible first | apply r_rfl))); done)); (focus (intro _; rfl)); (focus (simp only [push_cast, seval, -List.reduceReplicate]; (try rfl); done)))))); exact Imp.refl _)); (focus (simp only [push_cast, seval, -List.reduceReplicate]; (try rfl); done)); (focus ((repeat' (first | (with_reducible first | apply oT_Twire_auditor) | ((with_reducible apply cle_own); (focus rfl); (focus ((repeat' (first | rfl)); done))))); done)); (focus (intro _; rfl)); (focus (simp only [push_cast, seval, -List.reduceReplicate]; (try rfl); done)); (focus (simp only [push_cast, seval, -List.reduceReplicate]; (try rfl); done)); (focus (simp only [push_cast, seval, -List.reduceReplicate]; (try rfl); done)); (focus (simp only [push_cast, seval, -List.reduceReplicate]; (try rfl); done)); (focus (first | exact he_0)))) | (((with_reducible apply LoopB.of); (focus (first | (dsimp only; done))); (focus ((intro _; repeat' (first | with_reducible exact impC_endF | with_reducible refine impC_seq ?_)))); (intro s o hm; first | unfold sc_interchange_wire_auditor_head_L1); rotate_left; intro s hm)) | (((apply imp_stT; (repeat' (first | with_reducible exact keepT_nil | with_reducible exact keepC_nil | with_reducible apply keepT_cons | with_reducible apply keepC_cons | ((with_reducible apply svle_eq); (focus (first | (simp only [push_cast, seval]; rfl))); (focus ((repeat' (first | rfl)); done))) | ((with_reducible apply chle_eq); (focus (first | (simp only [push_cast, seval]; rfl))); (first | with_reducible exact chle_rfl rfl)))); done))))
noncomputable def m_interchange_wire_auditor_head (x0 : Twire_auditor) (x1 : Tapi_Segment) (x2 : Int) (x3 : Int) : Option ((Unit) × Twire_auditor) := (sims_GB_2_0 x0 x1 x2 x3).1
theorem spec_interchange_wire_auditor_head (x0 : Twire_auditor) (x1 : Tapi_Segment) (x2 : Int) (x3 : Int) : ∀ r, m_interchange_wire_auditor_head x0 x1 x2 x3 = some r → FSpec Tryz.prog 24 (.own (.pt [.sl 93 [.pt [.sh, .sh, .sh, .sh, .mp .str .sh]], .sl 29 (List.replicate 2 .sh)]) (.ptr (rTwire_auditor x0)) :: List.map SV.d ([.agg (rTapi_Segment x1), .int .i64 x2, .int .i64 x3] : List DV)) (.tup []) (.own (.pt [.sl 93 [.pt [.sh, .sh, .sh, .sh, .mp .str .sh]], .sl 29 (List.replicate 2 .sh)]) (.ptr (rTwire_auditor r.2)) :: List.map SV.d ([.agg (rTapi_Segment x1), .int .i64 x2, .int .i64 x3] : List DV)) := (sims_GB_2_0 x0 x1 x2 x3).2

/-- (*interchange/wire.auditor).tail -/
def sc_interchange_wire_auditor_tail : SC :=
  (.seq (.reg [.r 5 (.boxI (.t 1))])
  (.seq (.seq (.reg [.r 13 (.mv (.t 0)),
     .r 14 (.nilc (.t 13)),
     .r 15 (.fld 0 (.t 14)),
     .o 16 (.ld1 (.t 15)),
     .r 17 (.len (.t 16)),
     .r 18 (.mv (.t 2)),
     .r 19 (.bin .leq (.t 17) (.t 18))])
  (.cond (.t 19)
    (.seq (.reg [.r 20 (.mv (.t 0)),
       .r 21 (.mv (.t 3)),
       .p (some 22) (.f 27) [.t 20, .c (.d (.int .i64 1)), .t 21]])
    .ret)
    .skip))
  (.seq (.reg [.r 23 (.mv (.t 0)),
     .r 24 (.mv (.t 2)),
     .r 25 (.bin .add (.t 24) (.c (.d (.int .i64 1)))),
     .r 26 (.mv (.t 3)),
     .p (some 27) (.f 28) [.t 23, .t 25, .t 26]])
  (.seq (.reg [.r 28 (.mv (.t 0)),
     .r 29 (.nilc (.t 28)),
     .r 30 (.fld 0 (.t 29)),
     .o 31 (.ld1 (.t 30)),
     .r 32 (.mv (.t 2)),
     .r 33 (.idx 1 (.t 31) (.t 32)),
     .o 34 (.ld1 (.t 33)),
     .r 8 (.mv (.t 34))])
  (.seq (.reg [.r 35 (.mv (.t 0)),
     .r 36 (.mv (.t 0)),
     .r 37 (.nilc (.t 36)),
     .r 38 (.fld 0 (.t 37)),
     .o 39 (.ld1 (.t 38)),
     .r 40 (.mv (.t 2)),
     .w 41 (.trunc 1 (.t 39) (.t 40)),
     .r 42 (.nilc (.t 35)),
     .r 43 (.fld 0 (.t 42)),
     .w 0 (.st 1 (.t 43) (.t 41))])
  (.seq (.reg [.o 45 (.ldA 2 (.t 5)),
     .c 46 (.f 55) [.t 45],
     .r 44 (.mv (.t 46)),
     .r 47 (.ext (.t 44) 0),
     .r 48 (.ext (.t 44) 1),
     .r 9 (.mv (.t 47)),
     .r 10 (.mv (.t 48))])
  (.seq (.seq (.reg (.r 49 (.mv (.t 10)) :: .r 50 (.not (.t 49)) :: .r 51 (.mv (.t 50)) :: gapp [52, 53, 54] 51 false (.r 52 (.mv (.t 9)) :: .r 53 (.len (.t 52)) :: .r 54 (.bin .neq (.t 53) (.c (.d (.int .i64 2)))) :: []) (.r 55 (.pick (.t 51) (.c (.d (.bool true))) (.t 54)) :: .r 56 (.mv (.t 55)) :: gapp [57, 58, 59, 60, 61] 56 false (.r 57 (.mv (.t 9)) :: .r 58 (.idx 1 (.t 57) (.c (.d (.int .i64 1)))) :: .r 59 (.ld1 (.t 58)) :: .c 60 (.f 39) [.t 59] :: .r 61 (.not (.t 60)) :: []) (.r 62 (.pick (.t 56) (.c (.d (.bool true))) (.t 61)) :: []))))
  (.cond (.t 62)
    (.seq (.reg [.r 63 (.mv (.t 0)),
       .r 64 (.mv (.t 3)),
       .p (some 65) (.f 27) [.t 63, .c (.d (.int .i64 6)), .t 64]])
    .ret)
    .skip))
  (.seq (.reg [.r 67 (.mv (.t 9)),
     .r 68 (.idx 1 (.t 67) (.c (.d (.int .i64 0)))),
     .o 69 (.ld1 (.t 68)),
     .c 70 (.f 56) [.t 69, .c (.d (.int .i64 9))],
     .r 66 (.mv (.t 70)),
     .r 71 (.ext (.t 66) 0),
     .r 72 (.ext (.t 66) 1),
     .r 11 (.mv (.t 71)),
     .r 10 (.mv (.t 72))])
  (.seq (.seq (.reg [.r 73 (.mv (.t 10)),
     .r 74 (.not (.t 73))])
  (.cond (.t 74)
    (.seq (.reg [.r 75 (.mv (.t 0)),
       .r 76 (.mv (.t 3)),
       .p (some 77) (.f 27) [.t 75, .c (.d (.int .i64 6)), .t 76]])
    .ret)
    .skip))
  (.seq (.seq (.reg [.r 78 (.mv (.t 8)),
     .r 79 (.nilc (.t 78)),
     .r 80 (.fld 0 (.t 79)),
     .o 81 (.ld1 (.t 80)),
     .r 82 (.not (.t 81))])
  (.cond (.t 82)
    .ret
    .skip))
  (.seq (.reg [.r 83 (.mv (.t 8)),
     .r 84 (.nilc (.t 83)),
     .r 85 (.fld 3 (.t 84)),
     .o 86 (.ld1 (.t 85)),
     .r 12 (.mv (.t 86))])
  (.seq (.seq (.reg [.r 87 (.mv (.t 2)),
     .c 88 (.f 23) [],
     .r 89 (.len (.t 88)),
     .r 90 (.bin .sub (.t 89) (.c (.d (.int .i64 1)))),
     .r 91 (.bin .eql (.t 87) (.t 90))])
  (.cond (.t 91)
    (.reg [.r 92 (.mv (.t 3)),
       .r 93 (.mv (.t 8)),
       .r 94 (.nilc (.t 93)),
       .r 95 (.fld 2 (.t 94)),
       .o 96 (.ld1 (.t 95)),
       .r 97 (.bin .sub (.t 92) (.t 96)),
       .r 98 (.bin .add (.t 97) (.c (.d (.int .i64 1)))),
       .r 12 (.mv (.t 98))])
    .skip))
  (.seq (.seq (.reg [.r 99 (.mv (.t 11)),
     .r 100 (.mv (.t 12)),
     .r 101 (.bin .neq (.t 99) (.t 100))])
  (.cond (.t 101)
    (.reg [.r 102 (.mv (.t 0)),
       .r 103 (.mv (.t 3)),
       .p (some 104) (.f 27) [.t 102, .c (.d (.int .i64 3)), .t 103]])
    .skip))
  (.seq (.regD [.r 105 (.mv (.t 9)),
     .r 106 (.idx 1 (.t 105) (.c (.d (.int .i64 1)))),
     .r 107 (.ld1 (.t 106)),
     .r 108 (.mv (.t 8)),
     .r 109 (.nilc (.t 108)),
     .r 110 (.fld 1 (.t 109)),
     .r 111 (.ld1 (.t 110)),
     .r 112 (.bin .neq (.t 107) (.t 111))])
  (.cond (.t 112)
    (.reg [.r 113 (.mv (.t 0)),
       .r 114 (.mv (.t 3)),
       .p (some 115) (.f 27) [.t 113, .c (.d (.int .i64 4)), .t 114]])
    .skip)))))))))))))))
theorem fit_interchange_wire_auditor_tail : fits Tryz.prog 26 Tryz.f26 sc_interchange_wire_auditor_tail [] 4 = true := by kernel_rfl

set_option maxRecDepth 100000 in
set_option maxHeartbeats 40000000 in
noncomputable def sims_GB_2_1 : (∀ (x0 : Twire_auditor) (x1 : Tapi_Segment) (x2 : Int) (x3 : Int), {m : Option ((Unit) × Twire_auditor) // ∀ r, m = some r → FSpec Tryz.prog 26 (.own (.pt [.sl 93 [.pt [.sh, .sh, .sh, .sh, .mp .str .sh]], .sl 29 (List.replicate 2 .sh)]) (.ptr (rTwire_auditor x0)) :: List.map SV.d ([.agg (rTapi_Segment x1), .int .i64 x2, .int .i64 x3] : List DV)) (.tup []) (.own (.pt [.sl 93 [.pt [.sh, .sh, .sh, .sh, .mp .str .sh]], .sl 29 (List.replicate 2 .sh)]) (.ptr (rTwire_auditor r.2)) :: List.map SV.d ([.agg (rTapi_Segment x1), .int .i64 x2, .int .i64 x3] : List DV))}) := by
  (intro x0 x1 x2 x3; apply Subtype.mk; intro r hm; apply fspec_walk1 (N := 116) (k := 4) Tryz.func26 fit_interchange_wire_auditor_tail (by kernel_rfl) rfl rfl (by decide); unfold sc_interchange_wire_auditor_tail)
  repeat' (first | ((with_reducible apply W_openBO (id := 0) (cid := 1000) (off := 0) (n := 1) (e := 93) (ms := [.pt [.sh, .sh, .sh, .sh, .mp .str .sh]]) (row := (rowP rTwire_open))); (focus (simp only [push_cast, seval]; (try rfl); done)); (focus (simp only [push_cast, seval]; (try rfl); done)); (focus decide); (focus rfl); (focus (simp only [push_cast, seval]; (try rfl); done))) | ((with_reducible apply W_openBs (id := 0) (cid := 1001) (off := 1) (n := 2) (e := 29)); (focus (simp only [push_cast, seval]; (try rfl); done)); (focus (simp only [push_cast, seval]; (try rfl); done)); (focus decide); (focus rfl); (focus (intro _; rfl)); (focus (simp only [push_cast, seval]; (try rfl); done))) | ((with_reducible apply O_oPt (dst := 34) (C := 40010) (ms := [.sh, .sh, .sh, .sh, .mp .str .sh]) (row := rTwire_open)); (focus (simp only [push_cast, seval]; (try rfl); done)); (focus (simp only [push_cast, seval]; (try rfl); done)); (focus exact getI_get (by assumption)); (focus decide)) | ((with_reducible apply O_oMB (dst := 34) (id := 40010) (mid := 40011) (off := 4) (kk := .str) (ke := .str) (fv := (fun v => .bool v))); (focus (simp only [push_cast, seval]; (try rfl); done)); (focus (simp only [push_cast, seval]; (try rfl); done)); (focus decide); (focus (simp only [push_cast, seval]; (try rfl); done))) | with_reducible refine W_seq ?_ | with_reducible refine W_reg ?_ | with_reducible refine W_regD ?_ | with_reducible refine W_skip ?_ | with_reducible refine W_ret ?_ | with_reducible refine O_nil ?_ | with_reducible refine K_seq ?_ | with_reducible refine K_seqR ?_ | with_reducible refine O_o2r ?_ | ((with_reducible apply O_idxr hm); (iterate 2 (simp only [push_cast, seval]; rfl)); (intro _; rfl); intro e hm) | ((with_reducible apply O_idxVO hm); (iterate 2 (simp only [push_cast, seval]; rfl)); (focus (first | (simp only [push_cast, seval]; rfl))); (simp only [push_cast, seval]; rfl); intro e he hm) | ((with_reducible apply O_ldF); (iterate 2 (simp only [push_cast, seval]; rfl)); (focus (first | (simp only [push_cast, seval]; exact getI_lt (by assumption)))); (iterate 2 rfl)) | ((with_reducible apply O_r); (simp only [push_cast, seval]; rfl); (first | exact trivial)) | ((with_reducible apply O_or hm); (simp only [push_cast, seval]; rfl); rfl; intro v hm; rotate_left; intro v g hm) | ((with_reducible apply O_cF hm); (simp only [push_cast, seval]; rfl); (first | apply spec_wire_texts _ | apply spec_kit_IsRef _ | apply spec_kit_Number _ _ | apply spec_wire_heads); (any_goals ((repeat' (first | rfl)); done)); intro x hm) | ((with_reducible apply O_w); (simp only [push_cast, seval]; rfl); (first | exact trivial)) | ((with_reducible apply O_truncVO hm); (iterate 3 (simp only [push_cast, seval]; rfl)); (focus (first | (simp only [push_cast, seval]; rfl))); (focus (first | exact take_setN (Nat.le_refl _))); intro l hm) | ((with_reducible apply S_condB hm); (simp only [push_cast, seval]; rfl); intro hm; rotate_left; intro hm) | ((with_reducible apply K_bool hm); (simp only [push_cast, seval]; rfl)) | (((with_reducible apply O_pM hm (id := 0) (ms := [.sl 93 [.pt [.sh, .sh, .sh, .sh, .mp .str .sh]], .sl 29 (List.replicate 2 .sh)])); (focus ((try ((apply Imp.trans); (focus ((apply imp_closeMB (id := 40010) (mid := 40011) (off := 4) (kk := .str) (ke := .str) (fv := (fun v => .bool v))); (focus (simp only [push_cast, seval]; (try rfl); done)); (focus (simp only [push_cast, seval]; (try rfl); done)); (focus decide); (focus (simp only [push_cast, seval]; (try rfl); done)); (focus (first | exact chle_rfl rfl)); (focus (simp only [push_cast, seval]; (try rfl); done)))))); (try ((apply Imp.trans); (focus ((apply imp_closePt (id := 1000) (C := 40010) (ms := [.sh, .sh, .sh, .sh, .mp .str .sh]) (row := rTwire_open)); (focus (simp only [push_cast, seval]; (try rfl); done)); (focus (simp only [push_cast, seval]; (try rfl); done)); (focus ((repeat' (fail)); done)); (focus (intro _; rfl)); (focus (fail)); (focus decide))))); (try ((apply Imp.trans); (focus ((apply imp_closeBO (id := 0) (cid := 1000) (off := 0) (n := 1) (e := 93) (ms := [.pt [.sh, .sh, .sh, .sh, .mp .str .sh]]) (row := (rowP rTwire_open))); (focus (simp only [push_cast, seval]; (try rfl); done)); (focus (simp only [push_cast, seval]; (try rfl); done)); (focus decide); (focus (simp only [push_cast, seval]; (try rfl); done)); (focus ((repeat' (first | (with_reducible first | apply r_rflO))); done)); (focus rfl); (focus (intro _; rfl)); (focus (simp only [push_cast, seval]; (try rfl); done)))))); (try ((apply Imp.trans); (focus ((apply imp_closeBs (id := 0) (cid := 1001) (off := 1) (n := 2) (e := 29)); (focus (simp only [push_cast, seval]; (try rfl); done)); (focus (simp only [push_cast, seval]; (try rfl); done)); (focus decide); (focus (simp only [push_cast, seval]; (try rfl); done)); (focus ((repeat' (first | (with_reducible first | apply r_rfl))); done)); (focus (intro _; rfl)); (focus (simp only [push_cast, seval]; (try rfl); done)))))); exact Imp.refl _)); (focus (simp only [push_cast, seval]; (try rfl); done)); (focus (simp only [push_cast, seval]; (try rfl); done)); (focus (simp only [push_cast, seval]; (try rfl); done)); (focus ((repeat' (first | (with_reducible first | apply oT_Twire_auditor) | ((with_reducible apply cle_own); (focus rfl); (focus ((repeat' (first | rfl)); done))))); done)); (focus rfl); (first | apply spec_interchange_wire_auditor_note _ _ _ | apply spec_interchange_wire_auditor_close _ _ _); (any_goals (focus ((repeat' (first | rfl)); done))); (focus (intro _; exact ⟨rfl, rfl, rfl⟩)); intro y hm)) | (((with_reducible apply K_endP (a := ()) hm (ms := [.sl 93 [.pt [.sh, .sh, .sh, .sh, .mp .str .sh]], .sl 29 (List.replicate 2 .sh)])); (focus ((try ((apply Imp.trans); (focus ((apply imp_closeMB (id := 40010) (mid := 40011) (off := 4) (kk := .str) (ke := .str) (fv := (fun v => .bool v))); (focus (simp only [push_cast, seval]; (try rfl); done)); (focus (simp only [push_cast, seval]; (try rfl); done)); (focus decide); (focus (simp only [push_cast, seval]; (try rfl); done)); (focus (first | exact chle_rfl rfl)); (focus (simp only [push_cast, seval]; (try rfl); done)))))); (try ((apply Imp.trans); (focus ((apply imp_closePt (id := 1000) (C := 40010) (ms := [.sh, .sh, .sh, .sh, .mp .str .sh]) (row := rTwire_open)); (focus (simp only [push_cast, seval]; (try rfl); done)); (focus (simp only [push_cast, seval]; (try rfl); done)); (focus ((repeat' (fail)); done)); (focus (intro _; rfl)); (focus (fail)); (focus decide))))); (try ((apply Imp.trans); (focus ((apply imp_closeBO (id := 0) (cid := 1000) (off := 0) (n := 1) (e := 93) (ms := [.pt [.sh, .sh, .sh, .sh, .mp .str .sh]]) (row := (rowP rTwire_open))); (focus (simp only [push_cast, seval]; (try rfl); done)); (focus (simp only [push_cast, seval]; (try rfl); done)); (focus decide); (focus (simp only [push_cast, seval]; (try rfl); done)); (focus ((repeat' (first | (with_reducible first | apply r_rflO))); done)); (focus rfl); (focus (intro _; rfl)); (focus (simp only [push_cast, seval]; (try rfl); done)))))); (try ((apply Imp.trans); (focus ((apply imp_closeBs (id := 0) (cid := 1001) (off := 1) (n := 2) (e := 29)); (focus (simp only [push_cast, seval]; (try rfl); done)); (focus (simp only [push_cast, seval]; (try rfl); done)); (focus decide); (focus (simp only [push_cast, seval]; (try rfl); done)); (focus ((repeat' (first | (with_reducible first | apply r_rfl))); done)); (focus (intro _; rfl)); (focus (simp only [push_cast, seval]; (try rfl); done)))))); exact Imp.refl _)); (focus (simp only [push_cast, seval]; (try rfl); done)); (focus ((repeat' (first | (with_reducible first | apply oT_Twire_auditor) | ((with_reducible apply cle_own); (focus rfl); (focus ((repeat' (first | rfl)); done))))); done)); (focus (intro _; rfl)); (focus (simp only [push_cast, seval]; (try rfl); done)); (focus (simp only [push_cast, seval]; (try rfl); done)); (focus (simp only [push_cast, seval]; (try rfl); done)); (focus (simp only [push_cast, seval]; (try rfl); done)); (focus (first | exact he_0)))) | (((with_reducible apply K_endPN (a := ()) hm (ms := [.sl 93 [.pt [.sh, .sh, .sh, .sh, .mp .str .sh]], .sl 29 (List.replicate 2 .sh)])); (focus ((try ((apply Imp.trans); (focus ((apply imp_closeMB (id := 40010) (mid := 40011) (off := 4) (kk := .str) (ke := .str) (fv := (fun v => .bool v))); (focus (simp only [push_cast, seval]; (try rfl); done)); (focus (simp only [push_cast, seval]; (try rfl); done)); (focus decide); (focus (simp only [push_cast, seval]; (try rfl); done)); (focus (first | exact chle_rfl rfl)); (focus (simp only [push_cast, seval]; (try rfl); done)))))); (try ((apply Imp.trans); (focus ((apply imp_closePt (id := 1000) (C := 40010) (ms := [.sh, .sh, .sh, .sh, .mp .str .sh]) (row := rTwire_open)); (focus (simp only [push_cast, seval]; (try rfl); done)); (focus (simp only [push_cast, seval]; (try rfl); done)); (focus ((repeat' (fail)); done)); (focus (intro _; rfl)); (focus (fail)); (focus decide))))); (try ((apply Imp.trans); (focus ((apply imp_closeBO (id := 0) (cid := 1000) (off := 0) (n := 1) (e := 93) (ms := [.pt [.sh, .sh, .sh, .sh, .mp .str .sh]]) (row := (rowP rTwire_open))); (focus (simp only [push_cast, seval]; (try rfl); done)); (focus (simp only [push_cast, seval]; (try rfl); done)); (focus decide); (focus (simp only [push_cast, seval]; (try rfl); done)); (focus ((repeat' (first | (with_reducible first | apply r_rflO))); done)); (focus rfl); (focus (intro _; rfl)); (focus (simp only [push_cast, seval]; (try rfl); done)))))); (try ((apply Imp.trans); (focus ((apply imp_closeBs (id := 0) (cid := 1001) (off := 1) (n := 2) (e := 29)); (focus (simp only [push_cast, seval]; (try rfl); done)); (focus (simp only [push_cast, seval]; (try rfl); done)); (focus decide); (focus (simp only [push_cast, seval]; (try rfl); done)); (focus ((repeat' (first | (with_reducible first | apply r_rfl))); done)); (focus (intro _; rfl)); (focus (simp only [push_cast, seval]; (try rfl); done)))))); exact Imp.refl _)); (focus (simp only [push_cast, seval]; (try rfl); done)); (focus ((repeat' (first | (with_reducible first | apply oT_Twire_auditor) | ((with_reducible apply cle_own); (focus rfl); (focus ((repeat' (first | rfl)); done))))); done)); (focus (intro _; rfl)); (focus (simp only [push_cast, seval]; (try rfl); done)); (focus (simp only [push_cast, seval]; (try rfl); done)); (focus (simp only [push_cast, seval]; (try rfl); done)); (focus (simp only [push_cast, seval]; (try rfl); done)); (focus (first | exact he_0)))))
noncomputable def m_interchange_wire_auditor_tail (x0 : Twire_auditor) (x1 : Tapi_Segment) (x2 : Int) (x3 : Int) : Option ((Unit) × Twire_auditor) := (sims_GB_2_1 x0 x1 x2 x3).1
theorem spec_interchange_wire_auditor_tail (x0 : Twire_auditor) (x1 : Tapi_Segment) (x2 : Int) (x3 : Int) : ∀ r, m_interchange_wire_auditor_tail x0 x1 x2 x3 = some r → FSpec Tryz.prog 26 (.own (.pt [.sl 93 [.pt [.sh, .sh, .sh, .sh, .mp .str .sh]], .sl 29 (List.replicate 2 .sh)]) (.ptr (rTwire_auditor x0)) :: List.map SV.d ([.agg (rTapi_Segment x1), .int .i64 x2, .int .i64 x3] : List DV)) (.tup []) (.own (.pt [.sl 93 [.pt [.sh, .sh, .sh, .sh, .mp .str .sh]], .sl 29 (List.replicate 2 .sh)]) (.ptr (rTwire_auditor r.2)) :: List.map SV.d ([.agg (rTapi_Segment x1), .int .i64 x2, .int .i64 x3] : List DV)) := (sims_GB_2_1 x0 x1 x2 x3).2

def sc_wire_audit_L1 : SC :=
  (.seq (.reg [.r 13 (.bin .lss (.t 12) (.t 11))])
  (.seq (.cond (.t 13)
    .skip
    (.exit 0))
  (.seq (.block 1 (.seq (.reg [.r 14 (.mv (.t 12)),
       .r 15 (.idx 2 (.t 10) (.t 12)),
       .o 16 (.ldA 2 (.t 15)),
       .w 5 (.boxM (.c (.agg [.d (.str []), .nils]))),
       .r 4 (.mv (.t 14)),
       .w 0 (.st 2 (.t 5) (.t 16))])
    (.seq (.regD [.c 17 (.f 23) [],
       .r 18 (.fld 0 (.t 5)),
       .r 19 (.ld1 (.t 18)),
       .c 20 (.f 20) [.t 17, .t 19],
       .r 6 (.mv (.t 20))])
    (.seq (.reg [.r 21 (.mv (.t 6)),
       .r 22 (.bin .geq (.t 21) (.c (.d (.int .i64 0))))])
    (.cond (.t 22)
      (.reg [.r 23 (.mv (.t 3)),
         .o 24 (.ldA 2 (.t 5)),
         .r 25 (.mv (.t 6)),
         .r 26 (.mv (.t 4)),
         .p (some 27) (.f 24) [.t 23, .t 24, .t 25, .t 26]])
      (.seq (.regD [.c 28 (.f 25) [],
         .r 29 (.fld 0 (.t 5)),
         .r 30 (.ld1 (.t 29)),
         .c 31 (.f 20) [.t 28, .t 30],
         .r 7 (.mv (.t 31))])
      (.seq (.reg [.r 32 (.mv (.t 7)),
         .r 33 (.bin .geq (.t 32) (.c (.d (.int .i64 0))))])
      (.cond (.t 33)
        (.reg [.r 34 (.mv (.t 3)),
           .o 35 (.ldA 2 (.t 5)),
           .r 36 (.mv (.t 7)),
           .r 37 (.mv (.t 4)),
           .p (some 38) (.f 26) [.t 34, .t 35, .t 36, .t 37]])
        (.seq (.regD [.r 39 (.mv (.t 3)),
           .r 40 (.nilc (.t 39)),
           .r 41 (.fld 0 (.t 40)),
           .r 42 (.ld1 (.t 41)),
           .r 43 (.len (.t 42)),
           .c 44 (.f 23) [],
           .r 45 (.len (.t 44)),
           .r 46 (.bin .lss (.t 43) (.t 45))])
        (.cond (.t 46)
          (.reg [.r 47 (.mv (.t 3)),
             .r 48 (.mv (.t 4)),
             .p (some 49) (.f 27) [.t 47, .c (.d (.int .i64 7)), .t 48]])
          .skip))))))))))
  (.reg [.r 50 (.bin .add (.t 12) (.c (.d (.int .i64 1)))),
     .r 12 (.mv (.t 50))]))))
def sc_wire_audit_B1 : SC := .block 0 (.loop sc_wire_audit_L1)
/-- interchange/wire.audit -/
def sc_wire_audit : SC :=
  (.seq (.reg [.r 2 (.mv (.c (.nils)))])
  (.seq (.reg [.r 8 (.build [.nils, .nils] []),
     .w 9 (.boxM (.t 8)),
     .r 3 (.mv (.t 9))])
  (.seq (.seq (.reg [.r 10 (.mv (.t 0)),
     .r 11 (.len (.t 10)),
     .r 12 (.mv (.c (.d (.int .i64 0))))])
  sc_wire_audit_B1)
  (.seq (.reg [.r 51 (.mv (.t 3)),
     .r 52 (.mv (.t 0)),
     .r 53 (.len (.t 52)),
     .p (some 54) (.f 28) [.t 51, .c (.d (.int .i64 0)), .t 53]])
  (.seq (.reg [.r 55 (.mv (.t 3)),
     .r 56 (.nilc (.t 55)),
     .r 57 (.fld 1 (.t 56)),
     .o 58 (.ld1 (.t 57)),
     .p (some 59) (.f 29) [.t 58, .f 30]])
  (.seq (.reg [.r 60 (.mv (.t 3)),
     .r 61 (.nilc (.t 60)),
     .r 62 (.fld 1 (.t 61)),
     .o 63 (.ld1 (.t 62)),
     .r 2 (.mv (.t 63))])
  .ret))))))
theorem fit_wire_audit : fits Tryz.prog 14 Tryz.f14 sc_wire_audit [.t 2] 1 = true := by kernel_rfl

set_option maxRecDepth 100000 in
set_option maxHeartbeats 40000000 in
noncomputable def sims_GB_3_0 : (∀ (x0 : List Tapi_Segment), {m : Option ((List Tapi_Note)) // ∀ r, m = some r → PureSpec Tryz.prog 14 [.slice (List.map rTapi_Segment x0)] (.slice (List.map rTapi_Note r))}) := by
  (intro x0; apply Subtype.mk; intro r hm; apply pure_walk Tryz.func14 fit_wire_audit; unfold sc_wire_audit)
  repeat' (first | ((with_reducible apply W_openBO (id := 9) (cid := 1288) (off := 0) (n := 1) (e := 93) (ms := [.pt [.sh, .sh, .sh, .sh, .mp .str .sh]]) (row := (rowP rTwire_open))); (focus (simp only [push_cast, seval]; (try rfl); done)); (focus (simp only [push_cast, seval]; (try rfl); done)); (focus decide); (focus rfl); (focus (simp only [push_cast, seval]; (try rfl); done))) | ((with_reducible apply W_nilB (id := 9) (cid := 1288) (off := 0) (n := 1) (e := 93)); (focus (simp only [push_cast, seval]; (try rfl); done)); (focus (simp only [push_cast, seval]; (try rfl); done)); (focus decide); (focus (simp only [push_cast, seval]; (try rfl); done))) | ((with_reducible apply W_openBs (id := 9) (cid := 1289) (off := 1) (n := 2) (e := 29)); (focus (simp only [push_cast, seval]; (try rfl); done)); (focus (simp only [push_cast, seval]; (try rfl); done)); (focus decide); (focus rfl); (focus (intro _; rfl)); (focus (simp only [push_cast, seval]; (try rfl); done))) | ((with_reducible apply W_nilB (id := 9) (cid := 1289) (off := 1) (n := 2) (e := 29)); (focus (simp only [push_cast, seval]; (try rfl); done)); (focus (simp only [push_cast, seval]; (try rfl); done)); (focus decide); (focus (simp only [push_cast, seval]; (try rfl); done))) | with_reducible refine W_seq ?_ | with_reducible refine W_reg ?_ | with_reducible refine W_regD ?_ | with_reducible refine W_block ?_ | with_reducible refine W_skip ?_ | with_reducible refine W_ret ?_ | with_reducible refine W_exit ?_ | with_reducible refine O_nil ?_ | with_reducible refine K_seq ?_ | with_reducible refine K_seqE ?_ | with_reducible refine K_block ?_ | with_reducible refine O_o2r ?_ | ((with_reducible apply O_idxr hm); (iterate 2 (simp only [push_cast, seval]; rfl)); (intro _; rfl); intro e hm) | ((with_reducible apply O_r); (simp only [push_cast, seval]; rfl); (first | exact trivial)) | ((with_reducible apply O_cF hm); (simp only [push_cast, seval]; rfl); (first | apply spec_wire_heads | apply spec_slices_Index_string_string _ _ | apply spec_wire_tails); (any_goals ((repeat' (first | rfl)); done)); intro x hm) | ((with_reducible apply O_w); (simp only [push_cast, seval]; rfl); (first | exact trivial)) | ((with_reducible apply S_condB hm); (simp only [push_cast, seval]; rfl); intro hm; rotate_left; intro hm) | ((with_reducible apply K_endS hm); (focus (simp only [resOf, resL, RV.get, push_cast, seval]; rfl)); (focus ((repeat' (first | rfl)); done))) | ((with_reducible apply K_leave hm); intro r hm) | ((apply S_loopY (b := 0) (X := sc_wire_audit_B1) (x := sc_wire_audit_L1) rfl (fun (c : SV × SV × SV) (s : (List Twire_open) × (List Tapi_Note) × Int) => st [(0, c.1), (3, .ref 9 0), (10, c.2.1), (11, c.2.2), (12, .d (.int .i64 s.2.2))] [(1288, .vec 93 1 (vrowO [.pt [.sh, .sh, .sh, .sh, .mp .str .sh]] (rowP rTwire_open) s.1)), (1289, .vec 29 2 (vrow rTapi_Note s.2.1)), (9, .box (bT_Twire_auditor 1288 1289))]) (c := (_, _, _)) (s0 := (_, _, _)) hm); (focus (first | (dsimp only; done))); (with_reducible refine Then.mk ?_ ?_)) | ((apply K_next (s' := (_, _, _)) hm); (focus (first | (dsimp only; done)))) | ((apply K_brk (s' := (_, _, _)) hm); (focus (first | (dsimp only; done)))) | (((with_reducible apply O_pM hm (id := 9) (ms := [.sl 93 [.pt [.sh, .sh, .sh, .sh, .mp .str .sh]], .sl 29 (List.replicate 2 .sh)])); (focus ((try ((apply Imp.trans); (focus ((apply imp_closeBO (id := 9) (cid := 1288) (off := 0) (n := 1) (e := 93) (ms := [.pt [.sh, .sh, .sh, .sh, .mp .str .sh]]) (row := (rowP rTwire_open))); (focus (simp only [push_cast, seval]; (try rfl); done)); (focus (simp only [push_cast, seval]; (try rfl); done)); (focus decide); (focus (simp only [push_cast, seval]; (try rfl); done)); (focus ((repeat' (first | (with_reducible first | apply r_rflO))); done)); (focus rfl); (focus (intro _; rfl)); (focus (simp only [push_cast, seval]; (try rfl); done)))))); (try ((apply Imp.trans); (focus ((apply imp_closeBs (id := 9) (cid := 1289) (off := 1) (n := 2) (e := 29)); (focus (simp only [push_cast, seval]; (try rfl); done)); (focus (simp only [push_cast, seval]; (try rfl); done)); (focus decide); (focus (simp only [push_cast, seval]; (try rfl); done)); (focus ((repeat' (first | (with_reducible first | apply r_rfl))); done)); (focus (intro _; rfl)); (focus (simp only [push_cast, seval]; (try rfl); done)))))); exact Imp.refl _)); (focus (simp only [push_cast, seval]; (try rfl); done)); (focus (simp only [push_cast, seval]; (try rfl); done)); (focus (simp only [push_cast, seval]; (try rfl); done)); (focus ((repeat' (first | (with_reducible first | apply oT_Twire_auditor) | ((with_reducible apply cle_own); (focus rfl); (focus ((repeat' (first | rfl)); done))))); done)); (focus rfl); (first | apply spec_interchange_wire_auditor_head _ _ _ _ | apply spec_interchange_wire_auditor_tail _ _ _ _ | apply spec_interchange_wire_auditor_note _ _ _ | apply spec_interchange_wire_auditor_close _ _ _); (any_goals (focus ((repeat' (first | rfl)); done))); (focus (intro _; exact ⟨rfl, rfl, rfl⟩)); intro y hm)) | (((with_reducible apply O_pLs0 hm); (focus (simp only [push_cast, seval]; (try rfl); done)); (focus (simp only [push_cast, seval]; (try rfl); done)); (focus (simp only [push_cast, seval]; (try rfl); done)); (focus (intro _; rfl)); (focus (first | apply spec_slices_SortStableFunc_interchange_api_Note_interchange_api_Note _ _ _ _ (fun a0 a1 r h => spec_wire_audit_1 a0 a1 r h))); (any_goals (focus ((repeat' (first | rfl)); done))); (focus (intro _; exact ⟨rfl, rfl⟩)); intro y hm)) | (((with_reducible apply LoopB.of); (focus (first | (dsimp only; done))); (focus ((intro _; repeat' (first | with_reducible exact impC_end | with_reducible refine impC_seq ?_)))); (intro s o hm; first | unfold sc_wire_audit_L1); rotate_left; intro s hm)) | (((apply imp_stT; (repeat' (first | with_reducible exact keepT_nil | with_reducible exact keepC_nil | with_reducible apply keepT_cons | with_reducible apply keepC_cons | ((with_reducible apply svle_eq); (focus (first | (simp only [push_cast, seval]; rfl))); (focus ((repeat' (first | rfl)); done))) | ((with_reducible apply chle_eq); (focus (first | (simp only [push_cast, seval]; rfl))); (first | with_reducible exact chle_rfl rfl | with_reducible apply chle_vec)) | (with_reducible first | apply r_nilO | apply r_nil))); done))))
noncomputable def m_wire_audit (x0 : List Tapi_Segment) : Option ((List Tapi_Note)) := (sims_GB_3_0 x0).1
theorem spec_wire_audit (x0 : List Tapi_Segment) : ∀ r, m_wire_audit x0 = some r → PureSpec Tryz.prog 14 [.slice (List.map rTapi_Segment x0)] (.slice (List.map rTapi_Note r)) := (sims_GB_3_0 x0).2

/-- interchange/wire.Audit -/
def sc_wire_Audit : SC :=
  (.seq (.reg [.r 2 (.mv (.c (.nils))),
     .r 3 (.mv (.c (.d (.int .i64 0))))])
  (.seq (.seq (.reg [.r 5 (.mv (.t 0)),
     .c 6 (.f 13) [.t 5],
     .r 4 (.mv (.t 6))])
  (.seq (.reg [.r 7 (.mv (.t 4)),
     .r 8 (.bin .neq (.t 7) (.c (.d (.int .i64 0))))])
  (.cond (.t 8)
    (.seq (.reg [.r 9 (.mv (.t 4)),
       .r 2 (.mv (.c (.nils))),
       .r 3 (.mv (.t 9))])
    .ret)
    .skip)))
  (.seq (.reg [.r 10 (.mv (.t 0)),
     .c 11 (.f 14) [.t 10],
     .r 2 (.mv (.t 11)),
     .r 3 (.mv (.c (.d (.int .i64 0))))])
  .ret)))
theorem fit_wire_Audit : fits Tryz.prog 5 Tryz.f5 sc_wire_Audit [.t 2, .t 3] 1 = true := by kernel_rfl

set_option maxRecDepth 100000 in
set_option maxHeartbeats 40000000 in
noncomputable def sims_GB_4_0 : (∀ (x0 : List Tapi_Segment), {m : Option ((List Tapi_Note) × Int) // ∀ r, m = some r → PureSpec Tryz.prog 5 [.slice (List.map rTapi_Segment x0)] (.tup [.slice (List.map rTapi_Note r.1), .int .i64 r.2])}) := by
  (intro x0; apply Subtype.mk; intro r hm; apply pure_walk Tryz.func5 fit_wire_Audit; unfold sc_wire_Audit)
  repeat' (first | with_reducible refine W_seq ?_ | with_reducible refine W_reg ?_ | with_reducible refine W_skip ?_ | with_reducible refine W_ret ?_ | with_reducible refine O_nil ?_ | with_reducible refine K_seq ?_ | with_reducible refine K_seqR ?_ | ((with_reducible apply O_r); (simp only [push_cast, seval]; rfl); (first | exact trivial)) | ((with_reducible apply O_cF hm); (simp only [push_cast, seval]; rfl); (first | apply spec_wire_CheckSegments _ | apply spec_wire_audit _); (any_goals ((repeat' (first | rfl)); done)); intro x hm) | ((with_reducible apply S_condB hm); (simp only [push_cast, seval]; rfl); intro hm; rotate_left; intro hm) | ((with_reducible apply K_end2 hm); (focus (simp only [resOf, resL, RV.get, push_cast, seval]; rfl)); (focus (first | (dsimp only; done))); (focus ((repeat' (first | rfl | (with_reducible first | apply f_tup | apply dv_slice | apply f_cons | apply fold_nil))); done))))
noncomputable def m_wire_Audit (x0 : List Tapi_Segment) : Option ((List Tapi_Note) × Int) := (sims_GB_4_0 x0).1
theorem spec_wire_Audit (x0 : List Tapi_Segment) : ∀ r, m_wire_Audit x0 = some r → PureSpec Tryz.prog 5 [.slice (List.map rTapi_Segment x0)] (.tup [.slice (List.map rTapi_Note r.1), .int .i64 r.2]) := (sims_GB_4_0 x0).2

end Go.Proofs.YtcnohbiegjahkaaGreatDoor

/-
  Bodies of functions and what they compute, printed by programs of mine (wip/tool/gen.py, sc.py) out of the translation; the kernel holds each against the translation.
-/
namespace Go.Proofs.YtcnohbiegjahkaaGreatDoor
open Go.RowKit
set_option linter.unusedSimpArgs false
set_option linter.unusedVariables false
structure Tinterchangeref2_open where
  fheaded : Bool
  fref : List UInt8
  fmany : Int
  frefs : List (List UInt8)
  deriving DecidableEq
def rTinterchangeref2_open (x : Tinterchangeref2_open) : List DV := [.bool x.fheaded, .str x.fref, .int .i64 x.fmany, .slice (List.map rowS x.frefs)]
attribute [push_cast] rTinterchangeref2_open
theorem oT_Tinterchangeref2_open {d0 d1 d2 d3 : SV} {v0 : Bool} {v1 : List UInt8} {v2 : Int} {v3 : List (List UInt8)} {m3 : List Mask} (h0 : svle d0 (.d (.bool v0))) (h1 : svle d1 (.d (.str v1))) (h2 : svle d2 (.d (.int .i64 v2))) (h3 : cle d3 (.own (.sl 9 m3) (.slice (List.map rowS v3)))) : cellsle [d0, d1, d2, d3] (ownR [.sh, .sh, .sh, .sl 9 m3] (rTinterchangeref2_open ⟨v0, v1, v2, v3⟩)) := by have h := (cellsle.append (cellsle.consS h0 cellsle.nil) (cellsle.append (cellsle.consS h1 cellsle.nil) (cellsle.append (cellsle.consS h2 cellsle.nil) (cellsle.cons h3 cellsle.nil)))); simp only [push_cast, seval, dR] at h ⊢; exact h
def bT_Tinterchangeref2_open (p0 : Bool) (p1 : List UInt8) (p2 : Int) (p3 : Nat) : List SV := [.d (.bool p0)] ++ ([.d (.str p1)] ++ ([.d (.int .i64 p2)] ++ ([.vec p3])))
attribute [push_cast] bT_Tinterchangeref2_open
structure Tinterchangeref2_auditor where
  flevels : List Tinterchangeref2_open
  fnotes : List Tapi_Note
  deriving DecidableEq
def rTinterchangeref2_auditor (x : Tinterchangeref2_auditor) : List DV := [.slice (List.map rTinterchangeref2_open x.flevels), .slice (List.map rTapi_Note x.fnotes)]
attribute [push_cast] rTinterchangeref2_auditor
theorem oT_Tinterchangeref2_auditor {d0 d1 : SV} {v0 : List Tinterchangeref2_open} {v1 : List Tapi_Note} {m0 : List Mask} {m1 : List Mask} (h0 : cle d0 (.own (.sl 76 m0) (.slice (List.map rTinterchangeref2_open v0)))) (h1 : cle d1 (.own (.sl 29 m1) (.slice (List.map rTapi_Note v1)))) : cellsle [d0, d1] (ownR [.sl 76 m0, .sl 29 m1] (rTinterchangeref2_auditor ⟨v0, v1⟩)) := by have h := (cellsle.append (cellsle.cons h0 cellsle.nil) (cellsle.cons h1 cellsle.nil)); simp only [push_cast, seval, dR] at h ⊢; exact h
def bT_Tinterchangeref2_auditor (p0 : Nat) (p1 : Nat) : List SV := [.vec p0] ++ ([.vec p1])
attribute [push_cast] bT_Tinterchangeref2_auditor
theorem frzO_Tinterchangeref2_open {l : List Tinterchangeref2_open} : SV.frzR (vrowO [.sh, .sh, .sh, .sl 9 [.sh]] rTinterchangeref2_open l) = some (l.map rTinterchangeref2_open) := frzR_vrowO rfl (fun _ => rfl)
attribute [push_cast] frzO_Tinterchangeref2_open

/-- (*interchange/interchangeref2.auditor).note -/
def sc_interchange_interchangeref2_auditor_note : SC :=
  (.reg [.r 6 (.mv (.t 0)),
     .r 7 (.mv (.t 0)),
     .r 8 (.nilc (.t 7)),
     .r 9 (.fld 1 (.t 8)),
     .o 10 (.ld1 (.t 9)),
     .r 11 (.mv (.t 1)),
     .r 12 (.mv (.t 2)),
     .r 13 (.build [.d (.int .i64 0), .d (.int .i64 0)] [(0, 1, .t 11), (1, 1, .t 12)]),
     .r 14 (.bslice 2 [.t 13]),
     .w 15 (.app 29 2 (.t 10) (.t 14)),
     .r 16 (.nilc (.t 6)),
     .r 17 (.fld 1 (.t 16)),
     .w 0 (.st 1 (.t 17) (.t 15))])
theorem fit_interchange_interchangeref2_auditor_note : fits Tryz.prog 36 Tryz.f36 sc_interchange_interchangeref2_auditor_note [] 3 = true := by kernel_rfl

set_option maxRecDepth 100000 in
set_option maxHeartbeats 40000000 in
noncomputable def sims_GC_0_0 : (∀ (x0 : Tinterchangeref2_auditor) (x1 : Int) (x2 : Int), {m : Option ((Unit) × Tinterchangeref2_auditor) // ∀ r, m = some r → FSpec Tryz.prog 36 (.own (.pt [.sl 76 [.sh, .sh, .sh, .sl 9 [.sh]], .sl 29 (List.replicate 2 .sh)]) (.ptr (rTinterchangeref2_auditor x0)) :: List.map SV.d ([.int .i64 x1, .int .i64 x2] : List DV)) (.tup []) (.own (.pt [.sl 76 [.sh, .sh, .sh, .sl 9 [.sh]], .sl 29 (List.replicate 2 .sh)]) (.ptr (rTinterchangeref2_auditor r.2)) :: List.map SV.d ([.int .i64 x1, .int .i64 x2] : List DV))}) := by
  (intro x0 x1 x2; apply Subtype.mk; intro r hm; apply fspec_walk1 (N := 18) (k := 3) Tryz.func36 fit_interchange_interchangeref2_auditor_note (by kernel_rfl) rfl rfl (by decide); unfold sc_interchange_interchangeref2_auditor_note)
  repeat' (first | ((with_reducible apply W_openBO (id := 0) (cid := 1000) (off := 0) (n := 4) (e := 76) (ms := [.sh, .sh, .sh, .sl 9 [.sh]]) (row := rTinterchangeref2_open)); (focus (simp only [push_cast, seval]; (try rfl); done)); (focus (simp only [push_cast, seval]; (try rfl); done)); (focus decide); (focus rfl); (focus (simp only [push_cast, seval]; (try rfl); done))) | ((with_reducible apply W_openBs (id := 0) (cid := 1001) (off := 1) (n := 2) (e := 29)); (focus (simp only [push_cast, seval]; (try rfl); done)); (focus (simp only [push_cast, seval]; (try rfl); done)); (focus decide); (focus rfl); (focus (intro _; rfl)); (focus (simp only [push_cast, seval]; (try rfl); done))) | with_reducible refine W_reg ?_ | with_reducible refine O_nil ?_ | with_reducible refine O_o2r ?_ | ((with_reducible apply O_r); (simp only [push_cast, seval]; rfl); (first | exact trivial)) | ((with_reducible apply O_w); (simp only [push_cast, seval]; rfl); (first | exact trivial)) | ((with_reducible apply O_appV hm); (iterate 4 (simp only [push_cast, seval]; rfl)); (focus ((repeat' (first | rfl | (with_reducible first | apply fT_Tapi_Note | apply dv_slice | apply fold_nil | apply fold_cons))); done)); decide; (intro _; rfl); intro hm) | (((with_reducible apply K_endPN (a := ()) hm (ms := [.sl 76 [.sh, .sh, .sh, .sl 9 [.sh]], .sl 29 (List.replicate 2 .sh)])); (focus ((try ((apply Imp.trans); (focus ((apply imp_closeBO (id := 0) (cid := 1000) (off := 0) (n := 4) (e := 76) (ms := [.sh, .sh, .sh, .sl 9 [.sh]]) (row := rTinterchangeref2_open)); (focus (simp only [push_cast, seval]; (try rfl); done)); (focus (simp only [push_cast, seval]; (try rfl); done)); (focus decide); (focus (simp only [push_cast, seval]; (try rfl); done)); (focus ((repeat' (first | (with_reducible first | apply r_rflO))); done)); (focus rfl); (focus (intro _; rfl)); (focus (simp only [push_cast, seval]; (try rfl); done)))))); (try ((apply Imp.trans); (focus ((apply imp_closeBs (id := 0) (cid := 1001) (off := 1) (n := 2) (e := 29)); (focus (simp only [push_cast, seval]; (try rfl); done)); (focus (simp only [push_cast, seval]; (try rfl); done)); (focus decide); (focus (simp only [push_cast, seval]; (try rfl); done)); (focus ((repeat' (first | (with_reducible first | apply r_rfl))); done)); (focus (intro _; rfl)); (focus (simp only [push_cast, seval]; (try rfl); done)))))); exact Imp.refl _)); (focus (simp only [push_cast, seval]; (try rfl); done)); (focus ((repeat' (first | (with_reducible first | apply oT_Tinterchangeref2_auditor) | ((with_reducible apply cle_own); (focus rfl); (focus ((repeat' (first | rfl)); done))))); done)); (focus (intro _; rfl)); (focus (simp only [push_cast, seval]; (try rfl); done)); (focus (simp only [push_cast, seval]; (try rfl); done)); (focus (simp only [push_cast, seval]; (try rfl); done)); (focus (simp only [push_cast, seval]; (try rfl); done)); (focus (first | exact he_0)))))
noncomputable def m_interchange_interchangeref2_auditor_note (x0 : Tinterchangeref2_auditor) (x1 : Int) (x2 : Int) : Option ((Unit) × Tinterchangeref2_auditor) := (sims_GC_0_0 x0 x1 x2).1
theorem spec_interchange_interchangeref2_auditor_note (x0 : Tinterchangeref2_auditor) (x1 : Int) (x2 : Int) : ∀ r, m_interchange_interchangeref2_auditor_note x0 x1 x2 = some r → FSpec Tryz.prog 36 (.own (.pt [.sl 76 [.sh, .sh, .sh, .sl 9 [.sh]], .sl 29 (List.replicate 2 .sh)]) (.ptr (rTinterchangeref2_auditor x0)) :: List.map SV.d ([.int .i64 x1, .int .i64 x2] : List DV)) (.tup []) (.own (.pt [.sl 76 [.sh, .sh, .sh, .sl 9 [.sh]], .sl 29 (List.replicate 2 .sh)]) (.ptr (rTinterchangeref2_auditor r.2)) :: List.map SV.d ([.int .i64 x1, .int .i64 x2] : List DV)) := (sims_GC_0_0 x0 x1 x2).2

def sc_interchange_interchangeref2_auditor_inside_R2 : SC :=
  (.reg [.r 16 (.mv (.t 0)),
   .r 17 (.nilc (.t 16)),
   .r 18 (.fld 0 (.t 17)),
   .o 19 (.ld1 (.t 18)),
   .r 20 (.mv (.t 6)),
   .r 21 (.bin .sub (.t 20) (.c (.d (.int .i64 1)))),
   .r 22 (.idx 4 (.t 19) (.t 21)),
   .o 23 (.ldA 4 (.t 22)),
   .w 7 (.boxM (.c (.agg [.d (.bool false), .d (.str []), .d (.int .i64 0), .nils]))),
   .w 0 (.st 4 (.t 7) (.t 23))])
def sc_interchange_interchangeref2_auditor_inside_I9 : SC := .inl 2 [.r 44 (.mv (.t 0)),
   .r 45 (.mv (.t 1)),
   .p (some 46) (.f 36) [.t 44, .c (.d (.int .i64 5)), .t 45]] 18 sc_interchange_interchangeref2_auditor_note []
def sc_interchange_interchangeref2_auditor_inside_L1 : SC :=
  (.seq (.seq (.reg [.r 30 (.mv (.t 8)),
     .r 31 (.fld 3 (.t 7)),
     .o 32 (.ld1 (.t 31)),
     .r 33 (.len (.t 32)),
     .r 34 (.bin .lss (.t 30) (.t 33))])
  (.cond (.t 34)
    .skip
    (.exit 0)))
  (.seq (.block 1 (.seq (.reg [.r 37 (.fld 3 (.t 7)),
       .o 38 (.ld1 (.t 37)),
       .r 39 (.mv (.t 8)),
       .r 40 (.idx 1 (.t 38) (.t 39)),
       .o 41 (.ld1 (.t 40)),
       .r 42 (.mv (.t 2)),
       .r 43 (.bin .eql (.t 41) (.t 42))])
    (.cond (.t 43)
      (.seq sc_interchange_interchangeref2_auditor_inside_I9
      (.exit 0))
      .skip)))
  (.reg [.r 35 (.mv (.t 8)),
     .r 36 (.bin .add (.t 35) (.c (.d (.int .i64 1)))),
     .r 8 (.mv (.t 36))])))
def sc_interchange_interchangeref2_auditor_inside_B1 : SC := .block 0 (.loop sc_interchange_interchangeref2_auditor_inside_L1)
/-- (*interchange/interchangeref2.auditor).inside -/
def sc_interchange_interchangeref2_auditor_inside : SC :=
  (.seq (.reg [.r 9 (.mv (.t 0)),
     .r 10 (.nilc (.t 9)),
     .r 11 (.fld 0 (.t 10)),
     .o 12 (.ld1 (.t 11)),
     .r 13 (.len (.t 12)),
     .r 6 (.mv (.t 13))])
  (.seq (.seq (.reg [.r 14 (.mv (.t 6)),
     .r 15 (.bin .eql (.t 14) (.c (.d (.int .i64 0))))])
  (.cond (.t 15)
    .ret
    .skip))
  (.seq sc_interchange_interchangeref2_auditor_inside_R2
  (.seq (.reg [.r 24 (.fld 2 (.t 7)),
     .o 25 (.ld1 (.t 24)),
     .r 26 (.bin .add (.t 25) (.c (.d (.int .i64 1)))),
     .r 27 (.fld 2 (.t 7)),
     .w 0 (.st 1 (.t 27) (.t 26))])
  (.seq (.seq (.reg [.r 28 (.mv (.t 2)),
     .c 29 (.f 65) [.t 28]])
  (.cond (.t 29)
    (.seq (.seq (.reg [.r 8 (.mv (.c (.d (.int .i64 0))))])
    sc_interchange_interchangeref2_auditor_inside_B1)
    (.reg [.r 47 (.fld 3 (.t 7)),
       .o 48 (.ld1 (.t 47)),
       .r 49 (.mv (.t 2)),
       .r 50 (.bslice 1 [.t 49]),
       .w 51 (.app 9 1 (.t 48) (.t 50)),
       .r 52 (.fld 3 (.t 7)),
       .w 0 (.st 1 (.t 52) (.t 51))]))
    .skip))
  (.regE [.r 53 (.mv (.t 0)),
     .r 54 (.nilc (.t 53)),
     .r 55 (.fld 0 (.t 54)),
     .r 56 (.ld1 (.t 55)),
     .r 57 (.mv (.t 6)),
     .r 58 (.bin .sub (.t 57) (.c (.d (.int .i64 1)))),
     .r 59 (.ldA 4 (.t 7)),
     .r 60 (.idx 4 (.t 56) (.t 58)),
     .x 0 (.st 4 (.t 60) (.t 59)) []]))))))
theorem fit_interchange_interchangeref2_auditor_inside : fits Tryz.prog 62 Tryz.f62 sc_interchange_interchangeref2_auditor_inside [] 3 = true := by kernel_rfl

set_option maxRecDepth 100000 in
set_option maxHeartbeats 40000000 in
noncomputable def sims_GC_1_0 : (∀ (x0 : Tinterchangeref2_auditor) (x1 : Int) (x2 : List UInt8), {m : Option ((Unit) × Tinterchangeref2_auditor) // ∀ r, m = some r → FSpec Tryz.prog 62 (.own (.pt [.sl 76 [.sh, .sh, .sh, .sl 9 [.sh]], .sl 29 (List.replicate 2 .sh)]) (.ptr (rTinterchangeref2_auditor x0)) :: List.map SV.d ([.int .i64 x1, .str x2] : List DV)) (.tup []) (.own (.pt [.sl 76 [.sh, .sh, .sh, .sl 9 [.sh]], .sl 29 (List.replicate 2 .sh)]) (.ptr (rTinterchangeref2_auditor r.2)) :: List.map SV.d ([.int .i64 x1, .str x2] : List DV))}) := by
  (intro x0 x1 x2; apply Subtype.mk; intro r hm; apply fspec_walk1 (N := 61) (k := 3) Tryz.func62 fit_interchange_interchangeref2_auditor_inside (by kernel_rfl) rfl rfl (by decide); unfold sc_interchange_interchangeref2_auditor_inside)
  repeat' (first | ((with_reducible apply W_openBO (id := 0) (cid := 1000) (off := 0) (n := 4) (e := 76) (ms := [.sh, .sh, .sh, .sl 9 [.sh]]) (row := rTinterchangeref2_open)); (focus (simp only [push_cast, seval]; (try rfl); done)); (focus (simp only [push_cast, seval]; (try rfl); done)); (focus decide); (focus rfl); (focus (simp only [push_cast, seval]; (try rfl); done))) | ((with_reducible apply W_openBs (id := 0) (cid := 1001) (off := 1) (n := 2) (e := 29)); (focus (simp only [push_cast, seval]; (try rfl); done)); (focus (simp only [push_cast, seval]; (try rfl); done)); (focus decide); (focus rfl); (focus (intro _; rfl)); (focus (simp only [push_cast, seval]; (try rfl); done))) | with_reducible refine W_seq ?_ | with_reducible refine W_reg ?_ | with_reducible refine W_regE ?_ | with_reducible refine W_block ?_ | with_reducible refine W_skip ?_ | with_reducible refine W_ret ?_ | with_reducible refine W_exit ?_ | with_reducible refine O_nil ?_ | with_reducible refine K_seq ?_ | with_reducible refine K_seqE ?_ | with_reducible refine K_seqR ?_ | with_reducible refine K_block ?_ | ((with_reducible apply K_blockN); decide) | with_reducible refine O_o2r ?_ | ((with_reducible apply O_idxVr hm); (iterate 3 (simp only [push_cast, seval]; rfl)); intro e hm) | ((with_reducible apply O_idxVO hm); (iterate 2 (simp only [push_cast, seval]; rfl)); (focus (first | (simp only [push_cast, seval]; rfl))); (simp only [push_cast, seval]; rfl); intro e he hm) | ((with_reducible apply O_ldFA); (iterate 2 (simp only [push_cast, seval]; rfl)); (focus (first | (simp only [push_cast, seval]; exact getI_lt (by assumption)))); (iterate 2 rfl); (focus (first | simp))) | ((with_reducible apply O_r); (simp only [push_cast, seval]; rfl); (first | exact trivial)) | ((with_reducible apply O_ldV1r hm); (iterate 2 (simp only [push_cast, seval]; rfl)); (intro _; rfl); intro e hm) | ((with_reducible apply O_cF hm); (simp only [push_cast, seval]; rfl); (first | apply spec_interchangeref2_IsReference _); (any_goals ((repeat' (first | rfl)); done)); intro x hm) | ((with_reducible apply O_w); (simp only [push_cast, seval]; rfl); (first | exact trivial)) | ((with_reducible apply O_appV hm); (iterate 4 (simp only [push_cast, seval]; rfl)); (focus ((repeat' (first | rfl | (with_reducible first | apply fT_Tapi_Note | apply dv_slice | apply fold_nil | apply fold_cons))); done)); decide; (intro _; rfl); intro hm) | ((with_reducible apply O_stFAx); (simp only [push_cast, seval]; rfl); (focus (first | (simp only [push_cast, seval]; rfl))); (simp only [push_cast, seval]; rfl); (focus (first | (simp only [push_cast, seval]; exact getI_lt (by assumption)))); (iterate 2 rfl); (focus ((repeat' (first | exact Rer_nil)); done))) | ((with_reducible apply S_condB hm); (simp only [push_cast, seval]; rfl); intro hm; rotate_left; intro hm) | ((with_reducible apply K_leave hm); intro r hm) | ((apply S_loopY (b := 0) (X := sc_interchange_interchangeref2_auditor_inside_B1) (x := sc_interchange_interchangeref2_auditor_inside_L1) rfl (fun (c : Ch × Ch × SV × SV × SV × SV × SV) (s : (List Tapi_Note) × Bool × (List UInt8) × Int × Int) => st [(0, .ref 0 0), (1, c.2.2.1), (2, c.2.2.2.1), (6, c.2.2.2.2.1), (7, .ref 7 0), (8, .d (.int .i64 s.2.2.2.2)), (61, .ref 0 0), (62, c.2.2.2.2.2.1), (63, c.2.2.2.2.2.2)] [(1000, c.1), (1001, .vec 29 2 (vrow rTapi_Note s.1)), (0, .box (bT_Tinterchangeref2_auditor 1000 1001)), (1227, c.2.1), (7, .box (bT_Tinterchangeref2_open s.2.1 s.2.2.1 s.2.2.2.1 1227))]) (c := (_, _, _, _, _, _, _)) (s0 := (_, _, _, _, _)) hm); (focus (first | (dsimp only; done))); (with_reducible refine Then.mk ?_ ?_)) | (((apply S_inlx (site := 100000) (X := sc_interchange_interchangeref2_auditor_inside_I9) rfl); (focus rfl); (focus (simp only [push_cast, seval]; rfl)); (focus (simp only [push_cast, seval]; rfl)); (focus decide))) | (((apply K_enter (site := 100000) (M := st [(0, _), (1, _), (2, _), (18, _), (19, _), (20, _), (24, _), (25, _), (26, _), (27, _), (28, _), (29, _), (30, _), (31, _), (32, _), (33, _), (34, _), (35, _), (36, _), (37, _), (38, _), (39, _), (40, _), (41, _), (42, _), (43, _), (44, _), (45, _), (46, _), (47, _), (48, _), (49, _), (50, _), (51, _), (52, _), (55, _), (56, _), (57, _), (58, _), (59, _), (60, _), (61, _), (62, _), (63, _), (79, _), (80, _), (81, _)] [(100000, _), (100007, _), (101000, _), (101001, _), (101227, _)])); (focus ((apply imp_stT; (repeat' (first | with_reducible exact keepT_nil | with_reducible exact keepC_nil | with_reducible apply keepT_cons | with_reducible apply keepC_cons | ((with_reducible apply svle_eq); (focus (first | (simp only [push_cast, seval]; rfl))); (focus ((repeat' (first | rfl)); done))) | ((with_reducible apply chle_eq); (focus (first | (simp only [push_cast, seval]; rfl))); (first | with_reducible exact chle_rfl rfl)))); done))); unfold sc_interchange_interchangeref2_auditor_note)) | (((apply K_inlN (site := 100000) (M := st [(0, _), (1, _), (2, _), (6, _), (7, _), (8, _), (9, _), (10, _), (11, _), (12, _), (13, _), (14, _), (15, _), (16, _), (17, _), (18, _), (19, _), (20, _), (21, _), (22, _), (23, _), (24, _), (25, _), (26, _), (27, _), (28, _), (29, _), (30, _), (31, _), (32, _), (33, _), (34, _), (37, _), (38, _), (39, _), (40, _), (41, _), (42, _), (43, _), (44, _), (45, _), (46, _), (61, _), (62, _), (63, _)] [(0, _), (7, _), (1000, _), (1001, _), (1227, _)])); (focus (simp only [push_cast, seval]; rfl)); (focus ((apply imp_stT; (repeat' (first | with_reducible exact keepT_nil | with_reducible exact keepC_nil | with_reducible apply keepT_cons | with_reducible apply keepC_cons | ((with_reducible apply svle_eq); (focus (first | (simp only [push_cast, seval]; rfl))); (focus ((repeat' (first | rfl)); done))) | ((with_reducible apply chle_eq); (focus (first | (simp only [push_cast, seval]; rfl))); (first | with_reducible exact chle_rfl rfl)))); done))))) | (((apply W_openVd (x0 := sc_interchange_interchangeref2_auditor_inside_R2) 1227 6 (id := 1000) (off := 3) (n' := 1) (row := rTinterchangeref2_open) (ms := [.sh, .sh, .sh, .sl 9 [.sh]]) (row' := rowS) (fld := fun x : Tinterchangeref2_open => x.frefs) (cells := fun x => [.d (.bool x.fheaded), .d (.str x.fref), .d (.int .i64 x.fmany), .vec 1227]) hm); (focus (simp only [push_cast, seval]; rfl)); (focus (simp only [push_cast, seval]; rfl)); (focus rfl); (focus rfl); (focus (intro _; rfl)); (focus (intro _; rfl)); (focus decide); (focus (intro _; rfl)); (intro x he hm; unfold sc_interchange_interchangeref2_auditor_inside_R2))) | ((apply K_next (s' := (_, _, _, _, _)) hm); (focus (first | (dsimp only; done)))) | ((apply K_brk (s' := (_, _, _, _, _)) hm); (focus (first | (dsimp only; done)))) | (((with_reducible apply K_endP (a := ()) hm (ms := [.sl 76 [.sh, .sh, .sh, .sl 9 [.sh]], .sl 29 (List.replicate 2 .sh)])); (focus ((try ((apply Imp.trans); (focus ((apply imp_closeG (id := 1000) (cid := 1227) (off := 3) (n' := 1) (row := rTinterchangeref2_open) (ms := [.sh, .sh, .sh, .sl 9 [.sh]]) (row' := rowS) (ms' := [.sh])); (focus (simp only [push_cast, seval]; rfl)); (focus (simp only [push_cast, seval]; rfl)); (focus rfl); (focus ((repeat' (fail)); done)); (focus rfl); (focus (intro _; rfl)); (focus (fail)); (focus decide); (focus (simp only [push_cast, seval]; rfl)))))); (try ((apply Imp.trans); (focus ((apply imp_normS (id := 1000) (row := rTinterchangeref2_open) (ms := [.sh, .sh, .sh, .sl 9 [.sh]]) (x' := Tinterchangeref2_open.mk _ _ _ _)); (focus (simp only [push_cast, seval]; rfl)); (focus ((repeat' (fail)); done)))))); (try ((apply Imp.trans); (focus ((apply imp_freeze (id := 1227)); (focus (simp only [push_cast, seval]; (try rfl); done)); (focus (simp only [push_cast, seval]; (try rfl); done)))))); (try ((apply Imp.trans); (focus ((apply imp_freeze (id := 101000)); (focus (simp only [push_cast, seval]; (try rfl); done)); (focus (simp only [push_cast, seval]; (try rfl); done)))))); (try ((apply Imp.trans); (focus ((apply imp_freeze (id := 101001)); (focus (simp only [push_cast, seval]; (try rfl); done)); (focus (simp only [push_cast, seval]; (try rfl); done)))))); (try ((apply Imp.trans); (focus ((apply imp_freeze (id := 101227)); (focus (simp only [push_cast, seval]; (try rfl); done)); (focus (simp only [push_cast, seval]; (try rfl); done)))))); (try ((apply Imp.trans); (focus ((apply imp_closeBO (id := 0) (cid := 1000) (off := 0) (n := 4) (e := 76) (ms := [.sh, .sh, .sh, .sl 9 [.sh]]) (row := rTinterchangeref2_open)); (focus (simp only [push_cast, seval]; (try rfl); done)); (focus (simp only [push_cast, seval]; (try rfl); done)); (focus decide); (focus (simp only [push_cast, seval]; (try rfl); done)); (focus ((repeat' (first | (with_reducible first | apply r_rflO))); done)); (focus rfl); (focus (intro _; rfl)); (focus (simp only [push_cast, seval]; (try rfl); done)))))); (try ((apply Imp.trans); (focus ((apply imp_closeBs (id := 0) (cid := 1001) (off := 1) (n := 2) (e := 29)); (focus (simp only [push_cast, seval]; (try rfl); done)); (focus (simp only [push_cast, seval]; (try rfl); done)); (focus decide); (focus (simp only [push_cast, seval]; (try rfl); done)); (focus ((repeat' (first | (with_reducible first | apply r_rfl))); done)); (focus (intro _; rfl)); (focus (simp only [push_cast, seval]; (try rfl); done)))))); exact Imp.refl _)); (focus (simp only [push_cast, seval]; (try rfl); done)); (focus ((repeat' (first | (with_reducible first | apply oT_Tinterchangeref2_auditor) | ((with_reducible apply cle_own); (focus rfl); (focus ((repeat' (first | rfl)); done))))); done)); (focus (intro _; rfl)); (focus (simp only [push_cast, seval]; (try rfl); done)); (focus (simp only [push_cast, seval]; (try rfl); done)); (focus (simp only [push_cast, seval]; (try rfl); done)); (focus (simp only [push_cast, seval]; (try rfl); done)); (focus (first | exact he_0)))) | (((with_reducible apply K_endPN (a := ()) hm (ms := [.sl 76 [.sh, .sh, .sh, .sl 9 [.sh]], .sl 29 (List.replicate 2 .sh)])); (focus ((try ((apply Imp.trans); (focus ((apply imp_closeG (id := 1000) (cid := 1227) (off := 3) (n' := 1) (row := rTinterchangeref2_open) (ms := [.sh, .sh, .sh, .sl 9 [.sh]]) (row' := rowS) (ms' := [.sh])); (focus (simp only [push_cast, seval]; rfl)); (focus (simp only [push_cast, seval]; rfl)); (focus rfl); (focus ((repeat' (first | (with_reducible first | apply r_shS))); done)); (focus rfl); (focus (intro _; rfl)); (focus (first | exact getI_lt (by assumption))); (focus decide); (focus (simp only [push_cast, seval]; rfl)))))); (try ((apply Imp.trans); (focus ((apply imp_normS (id := 1000) (row := rTinterchangeref2_open) (ms := [.sh, .sh, .sh, .sl 9 [.sh]]) (x' := Tinterchangeref2_open.mk _ _ _ _)); (focus (simp only [push_cast, seval]; rfl)); (focus ((repeat' (first | (with_reducible first | apply oT_Tinterchangeref2_open) | ((with_reducible apply svle_eq); (focus (first | rfl)); (focus ((repeat' (first | rfl)); done))) | ((with_reducible apply cle_own); (focus rfl); (focus ((repeat' (first | rfl)); done))))); done)))))); (try ((apply Imp.trans); (focus ((apply imp_freeze (id := 1227)); (focus (simp only [push_cast, seval]; (try rfl); done)); (focus (simp only [push_cast, seval]; (try rfl); done)))))); (try ((apply Imp.trans); (focus ((apply imp_freeze (id := 101000)); (focus (simp only [push_cast, seval]; (try rfl); done)); (focus (simp only [push_cast, seval]; (try rfl); done)))))); (try ((apply Imp.trans); (focus ((apply imp_freeze (id := 101001)); (focus (simp only [push_cast, seval]; (try rfl); done)); (focus (simp only [push_cast, seval]; (try rfl); done)))))); (try ((apply Imp.trans); (focus ((apply imp_freeze (id := 101227)); (focus (simp only [push_cast, seval]; (try rfl); done)); (focus (simp only [push_cast, seval]; (try rfl); done)))))); (try ((apply Imp.trans); (focus ((apply imp_closeBO (id := 0) (cid := 1000) (off := 0) (n := 4) (e := 76) (ms := [.sh, .sh, .sh, .sl 9 [.sh]]) (row := rTinterchangeref2_open)); (focus (simp only [push_cast, seval]; (try rfl); done)); (focus (simp only [push_cast, seval]; (try rfl); done)); (focus decide); (focus (simp only [push_cast, seval]; (try rfl); done)); (focus ((repeat' (first | (with_reducible first | apply r_rflO))); done)); (focus rfl); (focus (intro _; rfl)); (focus (simp only [push_cast, seval]; (try rfl); done)))))); (try ((apply Imp.trans); (focus ((apply imp_closeBs (id := 0) (cid := 1001) (off := 1) (n := 2) (e := 29)); (focus (simp only [push_cast, seval]; (try rfl); done)); (focus (simp only [push_cast, seval]; (try rfl); done)); (focus decide); (focus (simp only [push_cast, seval]; (try rfl); done)); (focus ((repeat' (first | (with_reducible first | apply r_rfl))); done)); (focus (intro _; rfl)); (focus (simp only [push_cast, seval]; (try rfl); done)))))); exact Imp.refl _)); (focus (simp only [push_cast, seval]; (try rfl); done)); (focus ((repeat' (first | (with_reducible first | apply oT_Tinterchangeref2_auditor) | ((with_reducible apply cle_own); (focus rfl); (focus ((repeat' (first | rfl)); done))))); done)); (focus (intro _; rfl)); (focus (simp only [push_cast, seval]; (try rfl); done)); (focus (simp only [push_cast, seval]; (try rfl); done)); (focus (simp only [push_cast, seval]; (try rfl); done)); (focus (simp only [push_cast, seval]; (try rfl); done)); (focus (first | exact he_0)))) | (((with_reducible apply LoopB.of); (focus (first | (dsimp only; done))); (focus ((intro _; repeat' (first | with_reducible exact impC_endF | with_reducible refine impC_seq ?_)))); (intro s o hm; first | unfold sc_interchange_interchangeref2_auditor_inside_L1); rotate_left; intro s hm)) | (((apply imp_stT; (repeat' (first | with_reducible exact keepT_nil | with_reducible exact keepC_nil | with_reducible apply keepT_cons | with_reducible apply keepC_cons | ((with_reducible apply svle_eq); (focus (first | (simp only [push_cast, seval]; rfl))); (focus ((repeat' (first | rfl)); done))) | ((with_reducible apply chle_eq); (focus (first | (simp only [push_cast, seval]; rfl))); (first | with_reducible exact chle_rfl rfl)))); done))))
noncomputable def m_interchange_interchangeref2_auditor_inside (x0 : Tinterchangeref2_auditor) (x1 : Int) (x2 : List UInt8) : Option ((Unit) × Tinterchangeref2_auditor) := (sims_GC_1_0 x0 x1 x2).1
theorem spec_interchange_interchangeref2_auditor_inside (x0 : Tinterchangeref2_auditor) (x1 : Int) (x2 : List UInt8) : ∀ r, m_interchange_interchangeref2_auditor_inside x0 x1 x2 = some r → FSpec Tryz.prog 62 (.own (.pt [.sl 76 [.sh, .sh, .sh, .sl 9 [.sh]], .sl 29 (List.replicate 2 .sh)]) (.ptr (rTinterchangeref2_auditor x0)) :: List.map SV.d ([.int .i64 x1, .str x2] : List DV)) (.tup []) (.own (.pt [.sl 76 [.sh, .sh, .sh, .sl 9 [.sh]], .sl 29 (List.replicate 2 .sh)]) (.ptr (rTinterchangeref2_auditor r.2)) :: List.map SV.d ([.int .i64 x1, .str x2] : List DV)) := (sims_GC_1_0 x0 x1 x2).2

def sc_interchange_interchangeref2_auditor_leave_L1 : SC :=
  (.seq (.seq (.reg [.r 6 (.mv (.t 0)),
     .r 7 (.nilc (.t 6)),
     .r 8 (.fld 0 (.t 7)),
     .o 9 (.ld1 (.t 8)),
     .r 10 (.len (.t 9)),
     .r 11 (.mv (.t 1)),
     .r 12 (.bin .gtr (.t 10) (.t 11))])
  (.cond (.t 12)
    .skip
    (.exit 0)))
  (.block 1 (.seq (.reg [.r 13 (.mv (.t 0)),
       .r 14 (.mv (.t 2)),
       .p (some 15) (.f 36) [.t 13, .c (.d (.int .i64 2)), .t 14]])
    (.regE [.r 16 (.mv (.t 0)),
       .r 17 (.mv (.t 0)),
       .r 18 (.nilc (.t 17)),
       .r 19 (.fld 0 (.t 18)),
       .r 20 (.ld1 (.t 19)),
       .r 21 (.mv (.t 0)),
       .r 22 (.nilc (.t 21)),
       .r 23 (.fld 0 (.t 22)),
       .r 24 (.ld1 (.t 23)),
       .r 25 (.len (.t 24)),
       .r 26 (.bin .sub (.t 25) (.c (.d (.int .i64 1)))),
       .x 27 (.trunc 4 (.t 20) (.t 26)) [(0, 16, .mv (.t 0))],
       .r 28 (.nilc (.t 16)),
       .r 29 (.fld 0 (.t 28)),
       .x 0 (.st 1 (.t 29) (.t 27)) []]))))
def sc_interchange_interchangeref2_auditor_leave_B1 : SC := .block 0 (.loop sc_interchange_interchangeref2_auditor_leave_L1)
/-- (*interchange/interchangeref2.auditor).leave -/
def sc_interchange_interchangeref2_auditor_leave : SC :=
  sc_interchange_interchangeref2_auditor_leave_B1
theorem fit_interchange_interchangeref2_auditor_leave : fits Tryz.prog 37 Tryz.f37 sc_interchange_interchangeref2_auditor_leave [] 3 = true := by kernel_rfl

set_option maxRecDepth 100000 in
set_option maxHeartbeats 40000000 in
noncomputable def sims_GC_1_1 : (∀ (x0 : Tinterchangeref2_auditor) (x1 : Int) (x2 : Int), {m : Option ((Unit) × Tinterchangeref2_auditor) // ∀ r, m = some r → FSpec Tryz.prog 37 (.own (.pt [.sl 76 [.sh, .sh, .sh, .sl 9 [.sh]], .sl 29 (List.replicate 2 .sh)]) (.ptr (rTinterchangeref2_auditor x0)) :: List.map SV.d ([.int .i64 x1, .int .i64 x2] : List DV)) (.tup []) (.own (.pt [.sl 76 [.sh, .sh, .sh, .sl 9 [.sh]], .sl 29 (List.replicate 2 .sh)]) (.ptr (rTinterchangeref2_auditor r.2)) :: List.map SV.d ([.int .i64 x1, .int .i64 x2] : List DV))}) := by
  (intro x0 x1 x2; apply Subtype.mk; intro r hm; apply fspec_walk1 (N := 30) (k := 3) Tryz.func37 fit_interchange_interchangeref2_auditor_leave (by kernel_rfl) rfl rfl (by decide); unfold sc_interchange_interchangeref2_auditor_leave)
  repeat' (first | ((with_reducible apply W_openBO (id := 0) (cid := 1000) (off := 0) (n := 4) (e := 76) (ms := [.sh, .sh, .sh, .sl 9 [.sh]]) (row := rTinterchangeref2_open)); (focus (simp only [push_cast, seval]; (try rfl); done)); (focus (simp only [push_cast, seval]; (try rfl); done)); (focus decide); (focus rfl); (focus (simp only [push_cast, seval]; (try rfl); done))) | ((with_reducible apply W_openBs (id := 0) (cid := 1001) (off := 1) (n := 2) (e := 29)); (focus (simp only [push_cast, seval]; (try rfl); done)); (focus (simp only [push_cast, seval]; (try rfl); done)); (focus decide); (focus rfl); (focus (intro _; rfl)); (focus (simp only [push_cast, seval]; (try rfl); done))) | with_reducible refine W_seq ?_ | with_reducible refine W_reg ?_ | with_reducible refine W_regE ?_ | with_reducible refine W_block ?_ | with_reducible refine W_skip ?_ | with_reducible refine W_exit ?_ | with_reducible refine O_nil ?_ | with_reducible refine K_seq ?_ | with_reducible refine K_seqE ?_ | with_reducible refine K_block ?_ | with_reducible refine O_o2r ?_ | ((with_reducible apply O_r); (simp only [push_cast, seval]; rfl); (first | exact trivial)) | ((with_reducible apply O_truncVOx hm); (iterate 3 (simp only [push_cast, seval]; rfl)); (focus (first | (simp only [push_cast, seval]; rfl))); (focus (first | rfl)); (focus (intro _ _; (repeat' (first | exact Rer_nil | ((with_reducible apply Rer_cons); (focus (simp only [push_cast, seval]; rfl)); (focus (first | exact trivial)); (focus (simp only [push_cast, seval]))))); done)); intro l hm) | ((with_reducible apply O_x); (simp only [push_cast, seval]; rfl); (first | exact trivial); (focus ((repeat' (first | exact Rer_nil)); done))) | ((with_reducible apply S_condB hm); (simp only [push_cast, seval]; rfl); intro hm; rotate_left; intro hm) | ((with_reducible apply K_leave hm); intro r hm) | ((apply S_loopY (b := 0) (X := sc_interchange_interchangeref2_auditor_leave_B1) (x := sc_interchange_interchangeref2_auditor_leave_L1) rfl (fun (c : SV × SV × SV × SV) (s : (List Tinterchangeref2_open) × (List Tapi_Note)) => st [(0, .ref 0 0), (1, c.1), (2, c.2.1), (30, .ref 0 0), (31, c.2.2.1), (32, c.2.2.2)] [(1000, .vec 76 4 (vrowO [.sh, .sh, .sh, .sl 9 [.sh]] rTinterchangeref2_open s.1)), (1001, .vec 29 2 (vrow rTapi_Note s.2)), (0, .box (bT_Tinterchangeref2_auditor 1000 1001))]) (c := (_, _, _, _)) (s0 := (_, _)) hm); (focus (first | (dsimp only; done))); (with_reducible refine Then.mk ?_ ?_)) | ((apply K_next (s' := (_, _)) hm); (focus (first | (dsimp only; done)))) | ((apply K_brk (s' := (_, _)) hm); (focus (first | (dsimp only; done)))) | (((with_reducible apply O_pM hm (id := 0) (ms := [.sl 76 [.sh, .sh, .sh, .sl 9 [.sh]], .sl 29 (List.replicate 2 .sh)])); (focus ((try ((apply Imp.trans); (focus ((apply imp_closeBO (id := 0) (cid := 1000) (off := 0) (n := 4) (e := 76) (ms := [.sh, .sh, .sh, .sl 9 [.sh]]) (row := rTinterchangeref2_open)); (focus (simp only [push_cast, seval]; (try rfl); done)); (focus (simp only [push_cast, seval]; (try rfl); done)); (focus decide); (focus (simp only [push_cast, seval]; (try rfl); done)); (focus ((repeat' (first | (with_reducible first | apply r_rflO))); done)); (focus rfl); (focus (intro _; rfl)); (focus (simp only [push_cast, seval]; (try rfl); done)))))); (try ((apply Imp.trans); (focus ((apply imp_closeBs (id := 0) (cid := 1001) (off := 1) (n := 2) (e := 29)); (focus (simp only [push_cast, seval]; (try rfl); done)); (focus (simp only [push_cast, seval]; (try rfl); done)); (focus decide); (focus (simp only [push_cast, seval]; (try rfl); done)); (focus ((repeat' (first | (with_reducible first | apply r_rfl))); done)); (focus (intro _; rfl)); (focus (simp only [push_cast, seval]; (try rfl); done)))))); exact Imp.refl _)); (focus (simp only [push_cast, seval]; (try rfl); done)); (focus (simp only [push_cast, seval]; (try rfl); done)); (focus (simp only [push_cast, seval]; (try rfl); done)); (focus ((repeat' (first | (with_reducible first | apply oT_Tinterchangeref2_auditor) | ((with_reducible apply cle_own); (focus rfl); (focus ((repeat' (first | rfl)); done))))); done)); (focus rfl); (first | apply spec_interchange_interchangeref2_auditor_note _ _ _); (any_goals (focus ((repeat' (first | rfl)); done))); (focus (intro _; exact ⟨rfl, rfl, rfl⟩)); intro y hm)) | (((with_reducible apply K_endPN (a := ()) hm (ms := [.sl 76 [.sh, .sh, .sh, .sl 9 [.sh]], .sl 29 (List.replicate 2 .sh)])); (focus ((try ((apply Imp.trans); (focus ((apply imp_closeBO (id := 0) (cid := 1000) (off := 0) (n := 4) (e := 76) (ms := [.sh, .sh, .sh, .sl 9 [.sh]]) (row := rTinterchangeref2_open)); (focus (simp only [push_cast, seval]; (try rfl); done)); (focus (simp only [push_cast, seval]; (try rfl); done)); (focus decide); (focus (simp only [push_cast, seval]; (try rfl); done)); (focus ((repeat' (first | (with_reducible first | apply r_rflO))); done)); (focus rfl); (focus (intro _; rfl)); (focus (simp only [push_cast, seval]; (try rfl); done)))))); (try ((apply Imp.trans); (focus ((apply imp_closeBs (id := 0) (cid := 1001) (off := 1) (n := 2) (e := 29)); (focus (simp only [push_cast, seval]; (try rfl); done)); (focus (simp only [push_cast, seval]; (try rfl); done)); (focus decide); (focus (simp only [push_cast, seval]; (try rfl); done)); (focus ((repeat' (first | (with_reducible first | apply r_rfl))); done)); (focus (intro _; rfl)); (focus (simp only [push_cast, seval]; (try rfl); done)))))); exact Imp.refl _)); (focus (simp only [push_cast, seval]; (try rfl); done)); (focus ((repeat' (first | (with_reducible first | apply oT_Tinterchangeref2_auditor) | ((with_reducible apply cle_own); (focus rfl); (focus ((repeat' (first | rfl)); done))))); done)); (focus (intro _; rfl)); (focus (simp only [push_cast, seval]; (try rfl); done)); (focus (simp only [push_cast, seval]; (try rfl); done)); (focus (simp only [push_cast, seval]; (try rfl); done)); (focus (simp only [push_cast, seval]; (try rfl); done)); (focus (first | exact he_0)))) | (((with_reducible apply LoopB.of); (focus (first | (dsimp only; done))); (focus ((intro _; repeat' (first | with_reducible exact impC_endF)))); (intro s o hm; first | unfold sc_interchange_interchangeref2_auditor_leave_L1); rotate_left; intro s hm)) | (((apply imp_stT; (repeat' (first | with_reducible exact keepT_nil | with_reducible exact keepC_nil | with_reducible apply keepT_cons | with_reducible apply keepC_cons | ((with_reducible apply svle_eq); (focus (first | (simp only [push_cast, seval]; rfl))); (focus ((repeat' (first | rfl)); done))) | ((with_reducible apply chle_eq); (focus (first | (simp only [push_cast, seval]; rfl))); (first | with_reducible exact chle_rfl rfl)))); done))))
noncomputable def m_interchange_interchangeref2_auditor_leave (x0 : Tinterchangeref2_auditor) (x1 : Int) (x2 : Int) : Option ((Unit) × Tinterchangeref2_auditor) := (sims_GC_1_1 x0 x1 x2).1
theorem spec_interchange_interchangeref2_auditor_leave (x0 : Tinterchangeref2_auditor) (x1 : Int) (x2 : Int) : ∀ r, m_interchange_interchangeref2_auditor_leave x0 x1 x2 = some r → FSpec Tryz.prog 37 (.own (.pt [.sl 76 [.sh, .sh, .sh, .sl 9 [.sh]], .sl 29 (List.replicate 2 .sh)]) (.ptr (rTinterchangeref2_auditor x0)) :: List.map SV.d ([.int .i64 x1, .int .i64 x2] : List DV)) (.tup []) (.own (.pt [.sl 76 [.sh, .sh, .sh, .sl 9 [.sh]], .sl 29 (List.replicate 2 .sh)]) (.ptr (rTinterchangeref2_auditor r.2)) :: List.map SV.d ([.int .i64 x1, .int .i64 x2] : List DV)) := (sims_GC_1_1 x0 x1 x2).2

end Go.Proofs.YtcnohbiegjahkaaGreatDoor

/-
  Bodies of functions and what they compute, printed by programs of mine (wip/tool/gen.py, sc.py) out of the translation; the kernel holds each against the translation.
-/
namespace Go.Proofs.YtcnohbiegjahkaaGreatDoor
open Go.RowKit
set_option linter.unusedSimpArgs false
set_option linter.unusedVariables false
def sc_interchange_interchangeref2_auditor_tail_R5 : SC :=
  (.reg [.r 29 (.mv (.t 0)),
   .r 30 (.nilc (.t 29)),
   .r 31 (.fld 0 (.t 30)),
   .o 32 (.ld1 (.t 31)),
   .r 33 (.mv (.t 6)),
   .r 34 (.bin .sub (.t 33) (.c (.d (.int .i64 1)))),
   .r 35 (.idx 4 (.t 32) (.t 34)),
   .o 36 (.ldA 4 (.t 35)),
   .w 7 (.boxM (.c (.agg [.d (.bool false), .d (.str []), .d (.int .i64 0), .nils]))),
   .w 0 (.st 4 (.t 7) (.t 36))])
/-- (*interchange/interchangeref2.auditor).tail -/
def sc_interchange_interchangeref2_auditor_tail : SC :=
  (.seq (.reg [.r 4 (.boxI (.t 1))])
  (.seq (.reg [.r 12 (.fld 0 (.t 4)),
     .o 13 (.ld1 (.t 12)),
     .c 14 (.f 60) [.t 13],
     .r 6 (.mv (.t 14))])
  (.seq (.seq (.reg [.r 15 (.mv (.t 0)),
     .r 16 (.nilc (.t 15)),
     .r 17 (.fld 0 (.t 16)),
     .o 18 (.ld1 (.t 17)),
     .r 19 (.len (.t 18)),
     .r 20 (.mv (.t 6)),
     .r 21 (.bin .lss (.t 19) (.t 20))])
  (.cond (.t 21)
    (.seq (.reg [.r 22 (.mv (.t 0)),
       .r 23 (.mv (.t 2)),
       .p (some 24) (.f 36) [.t 22, .c (.d (.int .i64 1)), .t 23]])
    .ret)
    .skip))
  (.seq (.reg [.r 25 (.mv (.t 0)),
     .r 26 (.mv (.t 6)),
     .r 27 (.mv (.t 2)),
     .p (some 28) (.f 37) [.t 25, .t 26, .t 27]])
  (.seq sc_interchange_interchangeref2_auditor_tail_R5
  (.seq (.seq (.reg [.r 37 (.fld 0 (.t 4)),
     .o 38 (.ld1 (.t 37)),
     .r 39 (.bin .eql (.t 38) (.c (.d (.str [77, 84, 82]))))])
  (.cond (.t 39)
    (.reg [.r 40 (.fld 2 (.t 7)),
       .o 41 (.ld1 (.t 40)),
       .r 42 (.bin .add (.t 41) (.c (.d (.int .i64 1)))),
       .r 43 (.fld 2 (.t 7)),
       .w 0 (.st 1 (.t 43) (.t 42))])
    .skip))
  (.seq (.reg [.o 45 (.ldA 2 (.t 4)),
     .c 46 (.f 63) [.t 45],
     .r 44 (.mv (.t 46)),
     .r 47 (.ext (.t 44) 0),
     .r 48 (.ext (.t 44) 1),
     .r 8 (.mv (.t 47)),
     .r 9 (.mv (.t 48))])
  (.seq (.reg [.r 10 (.mv (.c (.d (.int .i64 0)))),
     .r 11 (.mv (.c (.d (.bool false))))])
  (.seq (.seq (.reg (.r 49 (.mv (.t 9)) :: .r 50 (.mv (.t 49)) :: gapp [51, 52, 53] 50 true (.r 51 (.mv (.t 8)) :: .r 52 (.len (.t 51)) :: .r 53 (.bin .eql (.t 52) (.c (.d (.int .i64 2)))) :: []) (.r 54 (.pick (.t 50) (.t 53) (.c (.d (.bool false)))) :: [])))
  (.cond (.t 54)
    (.reg [.r 56 (.mv (.t 8)),
       .r 57 (.idx 1 (.t 56) (.c (.d (.int .i64 0)))),
       .o 58 (.ld1 (.t 57)),
       .c 59 (.f 64) [.t 58, .c (.d (.int .i64 9)), .c (.d (.int .i64 999999999))],
       .r 55 (.mv (.t 59)),
       .r 60 (.ext (.t 55) 0),
       .r 61 (.ext (.t 55) 1),
       .r 10 (.mv (.t 60)),
       .r 11 (.mv (.t 61))])
    .skip))
  (.seq (.seq (.reg (.r 62 (.mv (.t 11)) :: .r 63 (.not (.t 62)) :: .r 64 (.mv (.t 63)) :: gapp [65, 66, 67, 68, 69] 64 false (.r 65 (.mv (.t 8)) :: .r 66 (.idx 1 (.t 65) (.c (.d (.int .i64 1)))) :: .r 67 (.ld1 (.t 66)) :: .c 68 (.f 65) [.t 67] :: .r 69 (.not (.t 68)) :: []) (.r 70 (.pick (.t 64) (.c (.d (.bool true))) (.t 69)) :: [])))
  (.cond (.t 70)
    (.reg [.r 71 (.mv (.t 0)),
       .r 72 (.mv (.t 2)),
       .p (some 73) (.f 36) [.t 71, .c (.d (.int .i64 6)), .t 72]])
    (.seq (.reg [.r 74 (.fld 0 (.t 7)),
       .o 75 (.ld1 (.t 74))])
    (.cond (.t 75)
      (.seq (.seq (.reg [.r 76 (.mv (.t 10)),
         .r 77 (.fld 2 (.t 7)),
         .o 78 (.ld1 (.t 77)),
         .r 79 (.bin .neq (.t 76) (.t 78))])
      (.cond (.t 79)
        (.reg [.r 80 (.mv (.t 0)),
           .r 81 (.mv (.t 2)),
           .p (some 82) (.f 36) [.t 80, .c (.d (.int .i64 3)), .t 81]])
        .skip))
      (.seq (.regD [.r 83 (.mv (.t 8)),
         .r 84 (.idx 1 (.t 83) (.c (.d (.int .i64 1)))),
         .r 85 (.ld1 (.t 84)),
         .r 86 (.fld 1 (.t 7)),
         .r 87 (.ld1 (.t 86)),
         .r 88 (.bin .neq (.t 85) (.t 87))])
      (.cond (.t 88)
        (.reg [.r 89 (.mv (.t 0)),
           .r 90 (.mv (.t 2)),
           .p (some 91) (.f 36) [.t 89, .c (.d (.int .i64 4)), .t 90]])
        .skip)))
      .skip))))
  (.reg [.r 92 (.mv (.t 0)),
     .r 93 (.mv (.t 0)),
     .r 94 (.nilc (.t 93)),
     .r 95 (.fld 0 (.t 94)),
     .o 96 (.ld1 (.t 95)),
     .r 97 (.mv (.t 6)),
     .r 98 (.bin .sub (.t 97) (.c (.d (.int .i64 1)))),
     .w 99 (.trunc 4 (.t 96) (.t 98)),
     .r 100 (.nilc (.t 92)),
     .r 101 (.fld 0 (.t 100)),
     .w 0 (.st 1 (.t 101) (.t 99))])))))))))))
theorem fit_interchange_interchangeref2_auditor_tail : fits Tryz.prog 35 Tryz.f35 sc_interchange_interchangeref2_auditor_tail [] 3 = true := by kernel_rfl

set_option maxRecDepth 100000 in
set_option maxHeartbeats 40000000 in
noncomputable def sims_GD_0_0 : (∀ (x0 : Tinterchangeref2_auditor) (x1 : Tapi_Segment) (x2 : Int), {m : Option ((Unit) × Tinterchangeref2_auditor) // ∀ r, m = some r → FSpec Tryz.prog 35 (.own (.pt [.sl 76 [.sh, .sh, .sh, .sl 9 [.sh]], .sl 29 (List.replicate 2 .sh)]) (.ptr (rTinterchangeref2_auditor x0)) :: List.map SV.d ([.agg (rTapi_Segment x1), .int .i64 x2] : List DV)) (.tup []) (.own (.pt [.sl 76 [.sh, .sh, .sh, .sl 9 [.sh]], .sl 29 (List.replicate 2 .sh)]) (.ptr (rTinterchangeref2_auditor r.2)) :: List.map SV.d ([.agg (rTapi_Segment x1), .int .i64 x2] : List DV))}) := by
  (intro x0 x1 x2; apply Subtype.mk; intro r hm; apply fspec_walk1 (N := 102) (k := 3) Tryz.func35 fit_interchange_interchangeref2_auditor_tail (by kernel_rfl) rfl rfl (by decide); unfold sc_interchange_interchangeref2_auditor_tail)
  repeat' (first | ((with_reducible apply W_openBO (id := 0) (cid := 1000) (off := 0) (n := 4) (e := 76) (ms := [.sh, .sh, .sh, .sl 9 [.sh]]) (row := rTinterchangeref2_open)); (focus (simp only [push_cast, seval]; (try rfl); done)); (focus (simp only [push_cast, seval]; (try rfl); done)); (focus decide); (focus rfl); (focus (simp only [push_cast, seval]; (try rfl); done))) | ((with_reducible apply W_openBs (id := 0) (cid := 1001) (off := 1) (n := 2) (e := 29)); (focus (simp only [push_cast, seval]; (try rfl); done)); (focus (simp only [push_cast, seval]; (try rfl); done)); (focus decide); (focus rfl); (focus (intro _; rfl)); (focus (simp only [push_cast, seval]; (try rfl); done))) | with_reducible refine W_seq ?_ | with_reducible refine W_reg ?_ | with_reducible refine W_regD ?_ | with_reducible refine W_skip ?_ | with_reducible refine W_ret ?_ | with_reducible refine O_nil ?_ | with_reducible refine K_seq ?_ | with_reducible refine K_seqR ?_ | with_reducible refine O_o2r ?_ | ((with_reducible apply O_idxr hm); (iterate 2 (simp only [push_cast, seval]; rfl)); (intro _; rfl); intro e hm) | ((with_reducible apply O_idxVO hm); (iterate 2 (simp only [push_cast, seval]; rfl)); (focus (first | (simp only [push_cast, seval]; rfl))); (simp only [push_cast, seval]; rfl); intro e he hm) | ((with_reducible apply O_ldFA); (iterate 2 (simp only [push_cast, seval]; rfl)); (focus (first | (simp only [push_cast, seval]; exact getI_lt (by assumption)))); (iterate 2 rfl); (focus (first | simp))) | ((with_reducible apply O_r); (simp only [push_cast, seval]; rfl); (first | exact trivial)) | ((with_reducible apply O_orT); (focus (simp only [push_cast, seval]; done)); rfl; intro g) | ((with_reducible apply O_and hm); (simp only [push_cast, seval]; rfl); rfl; intro v hm; rotate_left; intro v g hm) | ((with_reducible apply O_or hm); (simp only [push_cast, seval]; rfl); rfl; intro v hm; rotate_left; intro v g hm) | ((with_reducible apply W_condT); (focus (simp only [push_cast, seval]; done))) | ((with_reducible apply O_cF hm); (simp only [push_cast, seval]; rfl); (first | apply spec_interchangeref2_levelOf _ | apply spec_interchangeref2_texts _ | apply spec_interchangeref2_numbered _ _ _ | apply spec_interchangeref2_IsReference _); (any_goals ((repeat' (first | rfl)); done)); intro x hm) | ((with_reducible apply O_w); (simp only [push_cast, seval]; rfl); (first | exact trivial)) | ((with_reducible apply O_truncVO hm); (iterate 3 (simp only [push_cast, seval]; rfl)); (focus (first | (simp only [push_cast, seval]; rfl))); (focus (first | rfl | exact take_setN (Nat.le_refl _))); intro l hm) | ((with_reducible apply S_condB hm); (simp only [push_cast, seval]; rfl); intro hm; rotate_left; intro hm) | ((with_reducible apply K_bool hm); (simp only [push_cast, seval]; rfl)) | (((apply W_openVd (x0 := sc_interchange_interchangeref2_auditor_tail_R5) 1227 6 (id := 1000) (off := 3) (n' := 1) (row := rTinterchangeref2_open) (ms := [.sh, .sh, .sh, .sl 9 [.sh]]) (row' := rowS) (fld := fun x : Tinterchangeref2_open => x.frefs) (cells := fun x => [.d (.bool x.fheaded), .d (.str x.fref), .d (.int .i64 x.fmany), .vec 1227]) hm); (focus (simp only [push_cast, seval]; rfl)); (focus (simp only [push_cast, seval]; rfl)); (focus rfl); (focus rfl); (focus (intro _; rfl)); (focus (intro _; rfl)); (focus decide); (focus (intro _; rfl)); (intro x he hm; unfold sc_interchange_interchangeref2_auditor_tail_R5))) | (((with_reducible apply O_pM hm (id := 0) (ms := [.sl 76 [.sh, .sh, .sh, .sl 9 [.sh]], .sl 29 (List.replicate 2 .sh)])); (focus ((try ((apply Imp.trans); (focus ((apply imp_closeG (id := 1000) (cid := 1227) (off := 3) (n' := 1) (row := rTinterchangeref2_open) (ms := [.sh, .sh, .sh, .sl 9 [.sh]]) (row' := rowS) (ms' := [.sh])); (focus (simp only [push_cast, seval]; rfl)); (focus (simp only [push_cast, seval]; rfl)); (focus rfl); (focus ((repeat' (first | (with_reducible first | apply r_shS))); done)); (focus rfl); (focus (intro _; rfl)); (focus (first | exact getI_lt (by assumption))); (focus decide); (focus (simp only [push_cast, seval]; rfl)))))); (try ((apply Imp.trans); (focus ((apply imp_normS (id := 1000) (row := rTinterchangeref2_open) (ms := [.sh, .sh, .sh, .sl 9 [.sh]]) (x' := Tinterchangeref2_open.mk _ _ _ _)); (focus (simp only [push_cast, seval]; rfl)); (focus ((repeat' (first | (with_reducible first | apply oT_Tinterchangeref2_open) | ((with_reducible apply svle_eq); (focus (first | rfl)); (focus ((repeat' (first | rfl)); done))) | ((with_reducible apply cle_own); (focus rfl); (focus ((repeat' (first | rfl)); done))))); done)))))); (try ((apply Imp.trans); (focus ((apply imp_closeBO (id := 0) (cid := 1000) (off := 0) (n := 4) (e := 76) (ms := [.sh, .sh, .sh, .sl 9 [.sh]]) (row := rTinterchangeref2_open)); (focus (simp only [push_cast, seval]; (try rfl); done)); (focus (simp only [push_cast, seval]; (try rfl); done)); (focus decide); (focus (simp only [push_cast, seval]; (try rfl); done)); (focus ((repeat' (first | (with_reducible first | apply r_rflO))); done)); (focus rfl); (focus (intro _; rfl)); (focus (simp only [push_cast, seval]; (try rfl); done)))))); (try ((apply Imp.trans); (focus ((apply imp_closeBs (id := 0) (cid := 1001) (off := 1) (n := 2) (e := 29)); (focus (simp only [push_cast, seval]; (try rfl); done)); (focus (simp only [push_cast, seval]; (try rfl); done)); (focus decide); (focus (simp only [push_cast, seval]; (try rfl); done)); (focus ((repeat' (first | (with_reducible first | apply r_rfl))); done)); (focus (intro _; rfl)); (focus (simp only [push_cast, seval]; (try rfl); done)))))); exact Imp.refl _)); (focus (simp only [push_cast, seval]; (try rfl); done)); (focus (simp only [push_cast, seval]; (try rfl); done)); (focus (simp only [push_cast, seval]; (try rfl); done)); (focus ((repeat' (first | (with_reducible first | apply oT_Tinterchangeref2_auditor) | ((with_reducible apply cle_own); (focus rfl); (focus ((repeat' (first | rfl)); done))))); done)); (focus rfl); (first | apply spec_interchange_interchangeref2_auditor_note _ _ _ | apply spec_interchange_interchangeref2_auditor_leave _ _ _); (any_goals (focus ((repeat' (first | rfl)); done))); (focus (intro _; exact ⟨rfl, rfl, rfl⟩)); intro y hm)) | (((with_reducible apply K_endP (a := ()) hm (ms := [.sl 76 [.sh, .sh, .sh, .sl 9 [.sh]], .sl 29 (List.replicate 2 .sh)])); (focus ((try ((apply Imp.trans); (focus ((apply imp_closeG (id := 1000) (cid := 1227) (off := 3) (n' := 1) (row := rTinterchangeref2_open) (ms := [.sh, .sh, .sh, .sl 9 [.sh]]) (row' := rowS) (ms' := [.sh])); (focus (simp only [push_cast, seval]; rfl)); (focus (simp only [push_cast, seval]; rfl)); (focus rfl); (focus ((repeat' (fail)); done)); (focus rfl); (focus (intro _; rfl)); (focus (fail)); (focus decide); (focus (simp only [push_cast, seval]; rfl)))))); (try ((apply Imp.trans); (focus ((apply imp_normS (id := 1000) (row := rTinterchangeref2_open) (ms := [.sh, .sh, .sh, .sl 9 [.sh]]) (x' := Tinterchangeref2_open.mk _ _ _ _)); (focus (simp only [push_cast, seval]; rfl)); (focus ((repeat' (fail)); done)))))); (try ((apply Imp.trans); (focus ((apply imp_freeze (id := 1227)); (focus (simp only [push_cast, seval]; (try rfl); done)); (focus (simp only [push_cast, seval]; (try rfl); done)))))); (try ((apply Imp.trans); (focus ((apply imp_closeBO (id := 0) (cid := 1000) (off := 0) (n := 4) (e := 76) (ms := [.sh, .sh, .sh, .sl 9 [.sh]]) (row := rTinterchangeref2_open)); (focus (simp only [push_cast, seval]; (try rfl); done)); (focus (simp only [push_cast, seval]; (try rfl); done)); (focus decide); (focus (simp only [push_cast, seval]; (try rfl); done)); (focus ((repeat' (first | (with_reducible first | apply r_rflO))); done)); (focus rfl); (focus (intro _; rfl)); (focus (simp only [push_cast, seval]; (try rfl); done)))))); (try ((apply Imp.trans); (focus ((apply imp_closeBs (id := 0) (cid := 1001) (off := 1) (n := 2) (e := 29)); (focus (simp only [push_cast, seval]; (try rfl); done)); (focus (simp only [push_cast, seval]; (try rfl); done)); (focus decide); (focus (simp only [push_cast, seval]; (try rfl); done)); (focus ((repeat' (first | (with_reducible first | apply r_rfl))); done)); (focus (intro _; rfl)); (focus (simp only [push_cast, seval]; (try rfl); done)))))); exact Imp.refl _)); (focus (simp only [push_cast, seval]; (try rfl); done)); (focus ((repeat' (first | (with_reducible first | apply oT_Tinterchangeref2_auditor) | ((with_reducible apply cle_own); (focus rfl); (focus ((repeat' (first | rfl)); done))))); done)); (focus (intro _; rfl)); (focus (simp only [push_cast, seval]; (try rfl); done)); (focus (simp only [push_cast, seval]; (try rfl); done)); (focus (simp only [push_cast, seval]; (try rfl); done)); (focus (simp only [push_cast, seval]; (try rfl); done)); (focus (first | exact he_0)))) | (((with_reducible apply K_endPN (a := ()) hm (ms := [.sl 76 [.sh, .sh, .sh, .sl 9 [.sh]], .sl 29 (List.replicate 2 .sh)])); (focus ((try ((apply Imp.trans); (focus ((apply imp_closeG (id := 1000) (cid := 1227) (off := 3) (n' := 1) (row := rTinterchangeref2_open) (ms := [.sh, .sh, .sh, .sl 9 [.sh]]) (row' := rowS) (ms' := [.sh])); (focus (simp only [push_cast, seval]; rfl)); (focus (simp only [push_cast, seval]; rfl)); (focus rfl); (focus ((repeat' (fail)); done)); (focus rfl); (focus (intro _; rfl)); (focus (fail)); (focus decide); (focus (simp only [push_cast, seval]; rfl)))))); (try ((apply Imp.trans); (focus ((apply imp_normS (id := 1000) (row := rTinterchangeref2_open) (ms := [.sh, .sh, .sh, .sl 9 [.sh]]) (x' := Tinterchangeref2_open.mk _ _ _ _)); (focus (simp only [push_cast, seval]; rfl)); (focus ((repeat' (fail)); done)))))); (try ((apply Imp.trans); (focus ((apply imp_freeze (id := 1227)); (focus (simp only [push_cast, seval]; (try rfl); done)); (focus (simp only [push_cast, seval]; (try rfl); done)))))); (try ((apply Imp.trans); (focus ((apply imp_closeBO (id := 0) (cid := 1000) (off := 0) (n := 4) (e := 76) (ms := [.sh, .sh, .sh, .sl 9 [.sh]]) (row := rTinterchangeref2_open)); (focus (simp only [push_cast, seval]; (try rfl); done)); (focus (simp only [push_cast, seval]; (try rfl); done)); (focus decide); (focus (simp only [push_cast, seval]; (try rfl); done)); (focus ((repeat' (first | (with_reducible first | apply r_rflO))); done)); (focus rfl); (focus (intro _; rfl)); (focus (simp only [push_cast, seval]; (try rfl); done)))))); (try ((apply Imp.trans); (focus ((apply imp_closeBs (id := 0) (cid := 1001) (off := 1) (n := 2) (e := 29)); (focus (simp only [push_cast, seval]; (try rfl); done)); (focus (simp only [push_cast, seval]; (try rfl); done)); (focus decide); (focus (simp only [push_cast, seval]; (try rfl); done)); (focus ((repeat' (first | (with_reducible first | apply r_rfl))); done)); (focus (intro _; rfl)); (focus (simp only [push_cast, seval]; (try rfl); done)))))); exact Imp.refl _)); (focus (simp only [push_cast, seval]; (try rfl); done)); (focus ((repeat' (first | (with_reducible first | apply oT_Tinterchangeref2_auditor) | ((with_reducible apply cle_own); (focus rfl); (focus ((repeat' (first | rfl)); done))))); done)); (focus (intro _; rfl)); (focus (simp only [push_cast, seval]; (try rfl); done)); (focus (simp only [push_cast, seval]; (try rfl); done)); (focus (simp only [push_cast, seval]; (try rfl); done)); (focus (simp only [push_cast, seval]; (try rfl); done)); (focus (first | exact he_0)))))
noncomputable def m_interchange_interchangeref2_auditor_tail (x0 : Tinterchangeref2_auditor) (x1 : Tapi_Segment) (x2 : Int) : Option ((Unit) × Tinterchangeref2_auditor) := (sims_GD_0_0 x0 x1 x2).1
theorem spec_interchange_interchangeref2_auditor_tail (x0 : Tinterchangeref2_auditor) (x1 : Tapi_Segment) (x2 : Int) : ∀ r, m_interchange_interchangeref2_auditor_tail x0 x1 x2 = some r → FSpec Tryz.prog 35 (.own (.pt [.sl 76 [.sh, .sh, .sh, .sl 9 [.sh]], .sl 29 (List.replicate 2 .sh)]) (.ptr (rTinterchangeref2_auditor x0)) :: List.map SV.d ([.agg (rTapi_Segment x1), .int .i64 x2] : List DV)) (.tup []) (.own (.pt [.sl 76 [.sh, .sh, .sh, .sl 9 [.sh]], .sl 29 (List.replicate 2 .sh)]) (.ptr (rTinterchangeref2_auditor r.2)) :: List.map SV.d ([.agg (rTapi_Segment x1), .int .i64 x2] : List DV)) := (sims_GD_0_0 x0 x1 x2).2

end Go.Proofs.YtcnohbiegjahkaaGreatDoor

/-
  Bodies of functions and what they compute, printed by programs of mine (wip/tool/gen.py, sc.py) out of the translation; the kernel holds each against the translation.
-/
namespace Go.Proofs.YtcnohbiegjahkaaGreatDoor
open Go.RowKit
set_option linter.unusedSimpArgs false
set_option linter.unusedVariables false
def sc_interchange_interchangeref2_auditor_head_L1 : SC :=
  (.seq (.seq (.reg [.r 29 (.mv (.t 0)),
     .r 30 (.nilc (.t 29)),
     .r 31 (.fld 0 (.t 30)),
     .o 32 (.ld1 (.t 31)),
     .r 33 (.len (.t 32)),
     .r 34 (.mv (.t 6)),
     .r 35 (.bin .lss (.t 33) (.t 34))])
  (.cond (.t 35)
    .skip
    (.exit 0)))
  (.block 1 (.reg [.r 36 (.mv (.t 0)),
       .r 37 (.mv (.t 0)),
       .r 38 (.nilc (.t 37)),
       .r 39 (.fld 0 (.t 38)),
       .o 40 (.ld1 (.t 39)),
       .r 41 (.build [.d (.bool false), .d (.str []), .d (.int .i64 0), .nils] []),
       .r 42 (.bslice 4 [.t 41]),
       .w 43 (.app 76 4 (.t 40) (.t 42)),
       .r 44 (.nilc (.t 36)),
       .r 45 (.fld 0 (.t 44)),
       .w 0 (.st 1 (.t 45) (.t 43))])))
def sc_interchange_interchangeref2_auditor_head_B1 : SC := .block 0 (.loop sc_interchange_interchangeref2_auditor_head_L1)
/-- (*interchange/interchangeref2.auditor).head -/
def sc_interchange_interchangeref2_auditor_head : SC :=
  (.seq (.reg [.r 4 (.boxI (.t 1))])
  (.seq (.reg [.r 11 (.fld 0 (.t 4)),
     .o 12 (.ld1 (.t 11)),
     .c 13 (.f 60) [.t 12],
     .r 14 (.bin .sub (.t 13) (.c (.d (.int .i64 1)))),
     .r 6 (.mv (.t 14))])
  (.seq (.reg [.r 15 (.mv (.t 0)),
     .r 16 (.mv (.t 6)),
     .r 17 (.mv (.t 2)),
     .p (some 18) (.f 37) [.t 15, .t 16, .t 17]])
  (.seq (.seq (.reg [.r 19 (.mv (.t 0)),
     .r 20 (.nilc (.t 19)),
     .r 21 (.fld 0 (.t 20)),
     .o 22 (.ld1 (.t 21)),
     .r 23 (.len (.t 22)),
     .r 24 (.mv (.t 6)),
     .r 25 (.bin .lss (.t 23) (.t 24))])
  (.cond (.t 25)
    (.seq (.reg [.r 26 (.mv (.t 0)),
       .r 27 (.mv (.t 2)),
       .p (some 28) (.f 36) [.t 26, .c (.d (.int .i64 1)), .t 27]])
    sc_interchange_interchangeref2_auditor_head_B1)
    .skip))
  (.seq (.seq (.reg [.o 46 (.ldA 2 (.t 4)),
     .c 47 (.f 61) [.t 46],
     .r 48 (.not (.t 47))])
  (.cond (.t 48)
    (.reg [.r 49 (.mv (.t 0)),
       .r 50 (.mv (.t 2)),
       .p (some 51) (.f 36) [.t 49, .c (.d (.int .i64 6)), .t 50]])
    .skip))
  (.seq (.reg [.r 7 (.mv (.c (.d (.str []))))])
  (.seq (.seq (.reg [.r 52 (.fld 1 (.t 4)),
     .o 53 (.ld1 (.t 52)),
     .r 54 (.len (.t 53)),
     .r 55 (.bin .gtr (.t 54) (.c (.d (.int .i64 0))))])
  (.cond (.t 55)
    (.seq (.reg [.r 56 (.fld 1 (.t 4)),
       .o 57 (.ld1 (.t 56)),
       .r 58 (.idx 1 (.t 57) (.c (.d (.int .i64 0)))),
       .r 59 (.fld 0 (.t 58)),
       .o 60 (.ld1 (.t 59)),
       .r 8 (.mv (.t 60))])
    (.seq (.reg (.r 61 (.mv (.t 8)) :: .r 62 (.len (.t 61)) :: .r 63 (.bin .eql (.t 62) (.c (.d (.int .i64 1)))) :: .r 64 (.mv (.t 63)) :: gapp [65, 66, 67, 68, 69] 64 true (.r 65 (.mv (.t 8)) :: .r 66 (.idx 1 (.t 65) (.c (.d (.int .i64 0)))) :: .r 67 (.ld1 (.t 66)) :: .r 68 (.len (.t 67)) :: .r 69 (.bin .eql (.t 68) (.c (.d (.int .i64 1)))) :: []) (.r 70 (.pick (.t 64) (.t 69) (.c (.d (.bool false)))) :: [])))
    (.cond (.t 70)
      (.reg [.r 71 (.mv (.t 8)),
         .r 72 (.idx 1 (.t 71) (.c (.d (.int .i64 0)))),
         .o 73 (.ld1 (.t 72)),
         .r 74 (.idx 1 (.t 73) (.c (.d (.int .i64 0)))),
         .o 75 (.ld1 (.t 74)),
         .r 7 (.mv (.t 75))])
      .skip)))
    .skip))
  (.seq (.reg [.r 76 (.mv (.t 0)),
     .r 77 (.mv (.t 2)),
     .r 78 (.mv (.t 7)),
     .p (some 79) (.f 62) [.t 76, .t 77, .t 78]])
  (.seq (.reg [.r 9 (.mv (.c (.d (.str []))))])
  (.seq (.seq (.reg [.r 80 (.fld 1 (.t 4)),
     .o 81 (.ld1 (.t 80)),
     .r 82 (.len (.t 81)),
     .r 83 (.bin .gtr (.t 82) (.c (.d (.int .i64 0))))])
  (.cond (.t 83)
    (.reg [.r 84 (.fld 1 (.t 4)),
       .o 85 (.ld1 (.t 84)),
       .r 86 (.idx 1 (.t 85) (.c (.d (.int .i64 0)))),
       .r 87 (.fld 0 (.t 86)),
       .o 88 (.ld1 (.t 87)),
       .r 89 (.idx 1 (.t 88) (.c (.d (.int .i64 0)))),
       .o 90 (.ld1 (.t 89)),
       .r 91 (.idx 1 (.t 90) (.c (.d (.int .i64 0)))),
       .o 92 (.ld1 (.t 91)),
       .r 9 (.mv (.t 92))])
    .skip))
  (.seq (.reg [.r 93 (.mv (.t 9)),
     .r 94 (.build [.d (.bool false), .d (.str []), .d (.int .i64 0), .nils] [(0, 1, .c (.d (.bool true))), (1, 1, .t 93)]),
     .w 10 (.boxM (.c (.agg [.d (.bool false), .d (.str []), .d (.int .i64 0), .nils]))),
     .w 0 (.st 4 (.t 10) (.t 94))])
  (.seq (.seq (.reg [.r 95 (.fld 0 (.t 4)),
     .o 96 (.ld1 (.t 95)),
     .r 97 (.bin .eql (.t 96) (.c (.d (.str [77, 72, 68]))))])
  (.cond (.t 97)
    (.reg [.r 98 (.fld 2 (.t 10)),
       .w 0 (.st 1 (.t 98) (.c (.d (.int .i64 1))))])
    .skip))
  (.regE [.r 99 (.mv (.t 0)),
     .r 100 (.mv (.t 0)),
     .r 101 (.nilc (.t 100)),
     .r 102 (.fld 0 (.t 101)),
     .r 103 (.ld1 (.t 102)),
     .r 104 (.ldA 4 (.t 10)),
     .r 105 (.bslice 4 [.t 104]),
     .x 106 (.app 76 4 (.t 103) (.t 105)) [(0, 99, .mv (.t 0))],
     .r 107 (.nilc (.t 99)),
     .r 108 (.fld 0 (.t 107)),
     .x 0 (.st 1 (.t 108) (.t 106)) []])))))))))))))
theorem fit_interchange_interchangeref2_auditor_head : fits Tryz.prog 33 Tryz.f33 sc_interchange_interchangeref2_auditor_head [] 3 = true := by kernel_rfl

set_option maxRecDepth 100000 in
set_option maxHeartbeats 40000000 in
noncomputable def sims_GE_0_0 : (∀ (x0 : Tinterchangeref2_auditor) (x1 : Tapi_Segment) (x2 : Int), {m : Option ((Unit) × Tinterchangeref2_auditor) // ∀ r, m = some r → FSpec Tryz.prog 33 (.own (.pt [.sl 76 [.sh, .sh, .sh, .sl 9 [.sh]], .sl 29 (List.replicate 2 .sh)]) (.ptr (rTinterchangeref2_auditor x0)) :: List.map SV.d ([.agg (rTapi_Segment x1), .int .i64 x2] : List DV)) (.tup []) (.own (.pt [.sl 76 [.sh, .sh, .sh, .sl 9 [.sh]], .sl 29 (List.replicate 2 .sh)]) (.ptr (rTinterchangeref2_auditor r.2)) :: List.map SV.d ([.agg (rTapi_Segment x1), .int .i64 x2] : List DV))}) := by
  (intro x0 x1 x2; apply Subtype.mk; intro r hm; apply fspec_walk1 (N := 109) (k := 3) Tryz.func33 fit_interchange_interchangeref2_auditor_head (by kernel_rfl) rfl rfl (by decide); unfold sc_interchange_interchangeref2_auditor_head)
  repeat' (first | ((with_reducible apply W_openBO (id := 0) (cid := 1000) (off := 0) (n := 4) (e := 76) (ms := [.sh, .sh, .sh, .sl 9 [.sh]]) (row := rTinterchangeref2_open)); (focus (simp only [push_cast, seval]; (try rfl); done)); (focus (simp only [push_cast, seval]; (try rfl); done)); (focus decide); (focus rfl); (focus (simp only [push_cast, seval]; (try rfl); done))) | ((with_reducible apply W_openBs (id := 0) (cid := 1001) (off := 1) (n := 2) (e := 29)); (focus (simp only [push_cast, seval]; (try rfl); done)); (focus (simp only [push_cast, seval]; (try rfl); done)); (focus decide); (focus rfl); (focus (intro _; rfl)); (focus (simp only [push_cast, seval]; (try rfl); done))) | with_reducible refine W_seq ?_ | with_reducible refine W_reg ?_ | with_reducible refine W_regE ?_ | with_reducible refine W_block ?_ | with_reducible refine W_skip ?_ | with_reducible refine W_exit ?_ | with_reducible refine O_nil ?_ | with_reducible refine K_seq ?_ | with_reducible refine K_seqE ?_ | with_reducible refine K_block ?_ | with_reducible refine O_o2r ?_ | ((with_reducible apply O_idxr hm); (iterate 2 (simp only [push_cast, seval]; rfl)); (intro _; rfl); intro e hm) | ((with_reducible apply O_r); (simp only [push_cast, seval]; rfl); (first | exact trivial)) | ((with_reducible apply O_and hm); (simp only [push_cast, seval]; rfl); rfl; intro v hm; rotate_left; intro v g hm) | ((with_reducible apply O_cF hm); (simp only [push_cast, seval]; rfl); (first | apply spec_interchangeref2_levelOf _ | apply spec_interchangeref2_headForm _); (any_goals ((repeat' (first | rfl)); done)); intro x hm) | ((with_reducible apply O_w); (simp only [push_cast, seval]; rfl); (first | exact trivial)) | ((with_reducible apply O_appVO hm); (iterate 3 (simp only [push_cast, seval]; rfl)); rfl; (focus (first | decide)); intro hm) | ((with_reducible apply O_appVOx hm); (iterate 3 (simp only [push_cast, seval]; rfl)); rfl; (focus (first | decide | exact all_len rfl)); (focus ((repeat' (first | exact Rer_nil | ((with_reducible apply Rer_cons); (focus (simp only [push_cast, seval]; rfl)); (focus (first | exact trivial)); (focus (simp only [push_cast, seval]))))); done)); intro hm) | ((with_reducible apply O_x); (simp only [push_cast, seval]; rfl); (first | exact trivial); (focus ((repeat' (first | exact Rer_nil)); done))) | ((with_reducible apply S_condB hm); (simp only [push_cast, seval]; rfl); intro hm; rotate_left; intro hm) | ((with_reducible apply K_bool hm); (simp only [push_cast, seval]; rfl)) | ((with_reducible apply K_leave hm); intro r hm) | ((apply S_loopY (b := 0) (X := sc_interchange_interchangeref2_auditor_head_B1) (x := sc_interchange_interchangeref2_auditor_head_L1) rfl (fun (c : SV × SV × SV × SV × SV) (s : (List Tinterchangeref2_open) × (List Tapi_Note)) => st [(0, .ref 0 0), (2, c.1), (4, c.2.1), (6, c.2.2.1), (109, .ref 0 0), (110, c.2.2.2.1), (111, c.2.2.2.2)] [(1000, .vec 76 4 (vrowO [.sh, .sh, .sh, .sl 9 [.sh]] rTinterchangeref2_open s.1)), (1001, .vec 29 2 (vrow rTapi_Note s.2)), (0, .box (bT_Tinterchangeref2_auditor 1000 1001))]) (c := (_, _, _, _, _)) (s0 := (_, _)) hm); (focus (first | (dsimp only; done))); (with_reducible refine Then.mk ?_ ?_)) | ((apply K_next (s' := (_, _)) hm); (focus (first | (dsimp only; done))); (focus ((try ((apply Imp.trans); (focus ((apply imp_normO 1000 [.sh, .sh, .sh, .sl 9 [.sh]] rTinterchangeref2_open); (focus (simp only [push_cast, seval]; rfl)); (focus ((repeat' (first | (with_reducible first | apply r_rflO | apply r_oneO | apply r_appO | apply oT_Tinterchangeref2_open) | ((with_reducible apply svle_rfl); (focus ((repeat' (first | rfl)); done))) | ((with_reducible apply cle_nilM); (focus rfl)))); done)))))); (try ((apply Imp.trans); (focus ((apply imp_norm1 1000 [.sh, .sh, .sh, .sl 9 [.sh]] rTinterchangeref2_open); (focus (simp only [push_cast, seval]; rfl)); (focus ((repeat' (fail)); done)))))); (apply imp_stT; (repeat' (first | with_reducible exact keepT_nil | with_reducible exact keepC_nil | with_reducible apply keepT_cons | with_reducible apply keepC_cons | ((with_reducible apply svle_eq); (focus (first | (simp only [push_cast, seval]; rfl))); (focus ((repeat' (first | rfl)); done))) | ((with_reducible apply chle_eq); (focus (first | (simp only [push_cast, seval]; rfl))); (first | with_reducible exact chle_rfl rfl)))); done)))) | ((apply K_brk (s' := (_, _)) hm); (focus (first | (dsimp only; done))); (focus ((apply imp_stT; (repeat' (first | with_reducible exact keepT_nil | with_reducible exact keepC_nil | with_reducible apply keepT_cons | with_reducible apply keepC_cons | ((with_reducible apply svle_eq); (focus (first | (simp only [push_cast, seval]; rfl))); (focus ((repeat' (first | rfl)); done))) | ((with_reducible apply chle_eq); (focus (first | (simp only [push_cast, seval]; rfl))); (first | with_reducible exact chle_rfl rfl)))); done)))) | (((with_reducible apply O_pM hm (id := 0) (ms := [.sl 76 [.sh, .sh, .sh, .sl 9 [.sh]], .sl 29 (List.replicate 2 .sh)])); (focus ((try ((apply Imp.trans); (focus ((apply imp_closeBO (id := 0) (cid := 1000) (off := 0) (n := 4) (e := 76) (ms := [.sh, .sh, .sh, .sl 9 [.sh]]) (row := rTinterchangeref2_open)); (focus (simp only [push_cast, seval]; (try rfl); done)); (focus (simp only [push_cast, seval]; (try rfl); done)); (focus decide); (focus (simp only [push_cast, seval]; (try rfl); done)); (focus ((repeat' (first | (with_reducible first | apply r_rflO))); done)); (focus rfl); (focus (intro _; rfl)); (focus (simp only [push_cast, seval]; (try rfl); done)))))); (try ((apply Imp.trans); (focus ((apply imp_closeBs (id := 0) (cid := 1001) (off := 1) (n := 2) (e := 29)); (focus (simp only [push_cast, seval]; (try rfl); done)); (focus (simp only [push_cast, seval]; (try rfl); done)); (focus decide); (focus (simp only [push_cast, seval]; (try rfl); done)); (focus ((repeat' (first | (with_reducible first | apply r_rfl))); done)); (focus (intro _; rfl)); (focus (simp only [push_cast, seval]; (try rfl); done)))))); exact Imp.refl _)); (focus (simp only [push_cast, seval]; (try rfl); done)); (focus (simp only [push_cast, seval]; (try rfl); done)); (focus (simp only [push_cast, seval]; (try rfl); done)); (focus ((repeat' (first | (with_reducible first | apply oT_Tinterchangeref2_auditor) | ((with_reducible apply cle_own); (focus rfl); (focus ((repeat' (first | rfl)); done))))); done)); (focus rfl); (first | apply spec_interchange_interchangeref2_auditor_leave _ _ _ | apply spec_interchange_interchangeref2_auditor_note _ _ _ | apply spec_interchange_interchangeref2_auditor_inside _ _ _); (any_goals (focus ((repeat' (first | rfl)); done))); (focus (intro _; exact ⟨rfl, rfl, rfl⟩)); intro y hm)) | (((with_reducible apply K_endPN (a := ()) hm (ms := [.sl 76 [.sh, .sh, .sh, .sl 9 [.sh]], .sl 29 (List.replicate 2 .sh)])); (focus ((try ((apply Imp.trans); (focus ((apply imp_closeBO (id := 0) (cid := 1000) (off := 0) (n := 4) (e := 76) (ms := [.sh, .sh, .sh, .sl 9 [.sh]]) (row := rTinterchangeref2_open)); (focus (simp only [push_cast, seval]; (try rfl); done)); (focus (simp only [push_cast, seval]; (try rfl); done)); (focus decide); (focus (simp only [push_cast, seval]; (try rfl); done)); (focus ((repeat' (first | (with_reducible first | apply r_rflO | apply r_oneO | apply r_appO | apply oT_Tinterchangeref2_open) | ((with_reducible apply svle_rfl); (focus ((repeat' (first | rfl)); done))) | ((with_reducible apply cle_nilM); (focus rfl)))); done)); (focus rfl); (focus (intro _; rfl)); (focus (simp only [push_cast, seval]; (try rfl); done)))))); (try ((apply Imp.trans); (focus ((apply imp_closeBs (id := 0) (cid := 1001) (off := 1) (n := 2) (e := 29)); (focus (simp only [push_cast, seval]; (try rfl); done)); (focus (simp only [push_cast, seval]; (try rfl); done)); (focus decide); (focus (simp only [push_cast, seval]; (try rfl); done)); (focus ((repeat' (first | (with_reducible first | apply r_rfl))); done)); (focus (intro _; rfl)); (focus (simp only [push_cast, seval]; (try rfl); done)))))); exact Imp.refl _)); (focus (simp only [push_cast, seval]; (try rfl); done)); (focus ((repeat' (first | (with_reducible first | apply oT_Tinterchangeref2_auditor) | ((with_reducible apply cle_own); (focus rfl); (focus ((repeat' (first | rfl)); done))))); done)); (focus (intro _; rfl)); (focus (simp only [push_cast, seval]; (try rfl); done)); (focus (simp only [push_cast, seval]; (try rfl); done)); (focus (simp only [push_cast, seval]; (try rfl); done)); (focus (simp only [push_cast, seval]; (try rfl); done)); (focus (first | exact he_0)))) | (((with_reducible apply LoopB.of); (focus (first | (dsimp only; done))); (focus ((intro _; repeat' (first | with_reducible exact impC_endF | with_reducible refine impC_seq ?_)))); (intro s o hm; first | unfold sc_interchange_interchangeref2_auditor_head_L1); rotate_left; intro s hm)) | (((apply imp_stT; (repeat' (first | with_reducible exact keepT_nil | with_reducible exact keepC_nil | with_reducible apply keepT_cons | with_reducible apply keepC_cons | ((with_reducible apply svle_eq); (focus (first | (simp only [push_cast, seval]; rfl))); (focus ((repeat' (first | rfl)); done))) | ((with_reducible apply chle_eq); (focus (first | (simp only [push_cast, seval]; rfl))); (first | with_reducible exact chle_rfl rfl)))); done))))
noncomputable def m_interchange_interchangeref2_auditor_head (x0 : Tinterchangeref2_auditor) (x1 : Tapi_Segment) (x2 : Int) : Option ((Unit) × Tinterchangeref2_auditor) := (sims_GE_0_0 x0 x1 x2).1
theorem spec_interchange_interchangeref2_auditor_head (x0 : Tinterchangeref2_auditor) (x1 : Tapi_Segment) (x2 : Int) : ∀ r, m_interchange_interchangeref2_auditor_head x0 x1 x2 = some r → FSpec Tryz.prog 33 (.own (.pt [.sl 76 [.sh, .sh, .sh, .sl 9 [.sh]], .sl 29 (List.replicate 2 .sh)]) (.ptr (rTinterchangeref2_auditor x0)) :: List.map SV.d ([.agg (rTapi_Segment x1), .int .i64 x2] : List DV)) (.tup []) (.own (.pt [.sl 76 [.sh, .sh, .sh, .sl 9 [.sh]], .sl 29 (List.replicate 2 .sh)]) (.ptr (rTinterchangeref2_auditor r.2)) :: List.map SV.d ([.agg (rTapi_Segment x1), .int .i64 x2] : List DV)) := (sims_GE_0_0 x0 x1 x2).2

end Go.Proofs.YtcnohbiegjahkaaGreatDoor

/-
  Bodies of functions and what they compute, printed by programs of mine (wip/tool/gen.py, sc.py) out of the translation; the kernel holds each against the translation.
-/
namespace Go.Proofs.YtcnohbiegjahkaaGreatDoor
open Go.RowKit
set_option linter.unusedSimpArgs false
set_option linter.unusedVariables false
def sc_interchangeref2_audit_L1 : SC :=
  (.seq (.seq (.reg [.r 13 (.mv (.t 4)),
     .r 14 (.mv (.t 0)),
     .r 15 (.len (.t 14)),
     .r 16 (.bin .lss (.t 13) (.t 15))])
  (.cond (.t 16)
    .skip
    (.exit 0)))
  (.seq (.block 1 (.seq (.reg [.r 19 (.mv (.t 0)),
       .r 20 (.mv (.t 4)),
       .r 21 (.idx 2 (.t 19) (.t 20)),
       .r 22 (.fld 0 (.t 21)),
       .o 23 (.ld1 (.t 22)),
       .r 5 (.mv (.t 23))])
    (.seq (.reg [.r 24 (.mv (.t 5)),
       .c 25 (.f 32) [.t 24]])
    (.cond (.t 25)
      (.reg [.r 26 (.mv (.t 3)),
         .r 27 (.mv (.t 0)),
         .r 28 (.mv (.t 4)),
         .r 29 (.idx 2 (.t 27) (.t 28)),
         .o 30 (.ldA 2 (.t 29)),
         .r 31 (.mv (.t 4)),
         .p (some 32) (.f 33) [.t 26, .t 30, .t 31]])
      (.seq (.reg [.r 33 (.mv (.t 5)),
         .c 34 (.f 34) [.t 33]])
      (.cond (.t 34)
        (.reg [.r 35 (.mv (.t 3)),
           .r 36 (.mv (.t 0)),
           .r 37 (.mv (.t 4)),
           .r 38 (.idx 2 (.t 36) (.t 37)),
           .o 39 (.ldA 2 (.t 38)),
           .r 40 (.mv (.t 4)),
           .p (some 41) (.f 35) [.t 35, .t 39, .t 40]])
        (.seq (.reg [.r 42 (.mv (.t 3)),
           .r 43 (.nilc (.t 42)),
           .r 44 (.fld 0 (.t 43)),
           .o 45 (.ld1 (.t 44)),
           .r 46 (.len (.t 45)),
           .r 47 (.bin .lss (.t 46) (.c (.d (.int .i64 3))))])
        (.cond (.t 47)
          (.reg [.r 48 (.mv (.t 3)),
             .r 49 (.mv (.t 4)),
             .p (some 50) (.f 36) [.t 48, .c (.d (.int .i64 7)), .t 49]])
          (.reg [.r 51 (.mv (.t 3)),
             .r 52 (.nilc (.t 51)),
             .r 53 (.fld 0 (.t 52)),
             .o 54 (.ld1 (.t 53)),
             .r 55 (.idx 4 (.t 54) (.c (.d (.int .i64 2)))),
             .r 56 (.fld 2 (.t 55)),
             .o 57 (.ld1 (.t 56)),
             .r 58 (.bin .add (.t 57) (.c (.d (.int .i64 1)))),
             .r 59 (.idx 4 (.t 54) (.c (.d (.int .i64 2)))),
             .r 60 (.fld 2 (.t 59)),
             .w 0 (.st 1 (.t 60) (.t 58))])))))))))
  (.reg [.r 17 (.mv (.t 4)),
     .r 18 (.bin .add (.t 17) (.c (.d (.int .i64 1)))),
     .r 4 (.mv (.t 18))])))
def sc_interchangeref2_audit_B1 : SC := .block 0 (.loop sc_interchangeref2_audit_L1)
def sc_interchangeref2_audit_L2 : SC :=
  (.seq (.seq (.regD (.r 83 (.mv (.t 9)) :: .r 84 (.bin .gtr (.t 83) (.c (.d (.int .i64 0)))) :: .r 85 (.mv (.t 84)) :: gapp [86, 87, 88, 89, 90, 91, 92, 93, 94, 95, 96, 97, 98, 99, 100, 101, 102, 103, 104, 105, 106, 107, 108, 109, 110, 111, 112, 113, 114, 115, 116] 85 true (.r 86 (.mv (.t 6)) :: .r 87 (.mv (.t 9)) :: .r 88 (.bin .sub (.t 87) (.c (.d (.int .i64 1)))) :: .r 89 (.idx 2 (.t 86) (.t 88)) :: .r 90 (.fld 1 (.t 89)) :: .r 91 (.ld1 (.t 90)) :: .r 92 (.fld 1 (.t 8)) :: .r 93 (.ld1 (.t 92)) :: .r 94 (.bin .gtr (.t 91) (.t 93)) :: .r 95 (.mv (.t 94)) :: gapp [96, 97, 98, 99, 100, 101, 102, 103, 104, 105, 106, 107, 108, 109, 110, 111, 112, 113, 114, 115] 95 false (.r 96 (.mv (.t 6)) :: .r 97 (.mv (.t 9)) :: .r 98 (.bin .sub (.t 97) (.c (.d (.int .i64 1)))) :: .r 99 (.idx 2 (.t 96) (.t 98)) :: .r 100 (.fld 1 (.t 99)) :: .r 101 (.ld1 (.t 100)) :: .r 102 (.fld 1 (.t 8)) :: .r 103 (.ld1 (.t 102)) :: .r 104 (.bin .eql (.t 101) (.t 103)) :: .r 105 (.mv (.t 104)) :: gapp [106, 107, 108, 109, 110, 111, 112, 113, 114] 105 true (.r 106 (.mv (.t 6)) :: .r 107 (.mv (.t 9)) :: .r 108 (.bin .sub (.t 107) (.c (.d (.int .i64 1)))) :: .r 109 (.idx 2 (.t 106) (.t 108)) :: .r 110 (.fld 0 (.t 109)) :: .r 111 (.ld1 (.t 110)) :: .r 112 (.fld 0 (.t 8)) :: .r 113 (.ld1 (.t 112)) :: .r 114 (.bin .gtr (.t 111) (.t 113)) :: []) (.r 115 (.pick (.t 105) (.t 114) (.c (.d (.bool false)))) :: [])) (.r 116 (.pick (.t 95) (.c (.d (.bool true))) (.t 115)) :: [])) (.r 117 (.pick (.t 85) (.t 116) (.c (.d (.bool false)))) :: [])))
  (.cond (.t 117)
    .skip
    (.exit 4)))
  (.block 5 (.reg [.r 118 (.mv (.t 9)),
       .r 119 (.bin .sub (.t 118) (.c (.d (.int .i64 1)))),
       .r 9 (.mv (.t 119))])))
def sc_interchangeref2_audit_B2 : SC := .block 4 (.loop sc_interchangeref2_audit_L2)
def sc_interchangeref2_audit_R17 : SC := (.reg [.r 72 (.mv (.t 7)),
     .r 73 (.bin .add (.t 72) (.c (.d (.int .i64 1)))),
     .r 7 (.mv (.t 73))])
def sc_interchangeref2_audit_L3 : SC :=
  (.seq (.seq (.reg [.r 65 (.mv (.t 7)),
     .r 66 (.mv (.t 3)),
     .r 67 (.nilc (.t 66)),
     .r 68 (.fld 1 (.t 67)),
     .o 69 (.ld1 (.t 68)),
     .r 70 (.len (.t 69)),
     .r 71 (.bin .lss (.t 65) (.t 70))])
  (.cond (.t 71)
    .skip
    (.exit 2)))
  (.seq (.block 3 (.seq (.reg [.r 74 (.mv (.t 3)),
       .r 75 (.nilc (.t 74)),
       .r 76 (.fld 1 (.t 75)),
       .o 77 (.ld1 (.t 76)),
       .r 78 (.mv (.t 7)),
       .r 79 (.idx 2 (.t 77) (.t 78)),
       .o 80 (.ldA 2 (.t 79)),
       .w 8 (.boxM (.c (.agg [.d (.int .i64 0), .d (.int .i64 0)]))),
       .w 0 (.st 2 (.t 8) (.t 80))])
    (.seq (.reg [.r 81 (.mv (.t 6)),
       .r 82 (.len (.t 81)),
       .r 9 (.mv (.t 82))])
    (.seq sc_interchangeref2_audit_B2
    (.seq (.reg [.r 10 (.mv (.c (.nils)))])
    (.seq (.reg [.r 120 (.mv (.t 10)),
       .r 121 (.mv (.t 6)),
       .r 122 (.mv (.t 9)),
       .r 123 (.slc 2 (.t 121) none (some (.t 122))),
       .w 124 (.app 29 2 (.t 120) (.t 123)),
       .r 10 (.mv (.t 124))])
    (.seq (.reg [.r 125 (.mv (.t 10)),
       .o 126 (.ldA 2 (.t 8)),
       .r 127 (.bslice 2 [.t 126]),
       .w 128 (.app 29 2 (.t 125) (.t 127)),
       .r 10 (.mv (.t 128))])
    (.reg [.r 129 (.mv (.t 10)),
       .r 130 (.mv (.t 6)),
       .r 131 (.mv (.t 9)),
       .r 132 (.slc 2 (.t 130) (some (.t 131)) none),
       .w 133 (.app 29 2 (.t 129) (.t 132)),
       .r 6 (.mv (.t 133))]))))))))
  sc_interchangeref2_audit_R17))
def sc_interchangeref2_audit_B3 : SC := .block 2 (.loop sc_interchangeref2_audit_L3)
/-- interchange/interchangeref2.audit -/
def sc_interchangeref2_audit : SC :=
  (.seq (.reg [.r 2 (.mv (.c (.nils)))])
  (.seq (.reg [.r 11 (.build [.nils, .nils] []),
     .w 12 (.boxM (.t 11)),
     .r 3 (.mv (.t 12))])
  (.seq (.seq (.reg [.r 4 (.mv (.c (.d (.int .i64 0))))])
  sc_interchangeref2_audit_B1)
  (.seq (.reg [.r 61 (.mv (.t 3)),
     .r 62 (.mv (.t 0)),
     .r 63 (.len (.t 62)),
     .p (some 64) (.f 37) [.t 61, .c (.d (.int .i64 0)), .t 63]])
  (.seq (.reg [.r 6 (.mv (.c (.nils)))])
  (.seq (.seq (.reg [.r 7 (.mv (.c (.d (.int .i64 0))))])
  sc_interchangeref2_audit_B3)
  (.seq (.reg [.r 134 (.mv (.t 6)),
     .r 2 (.mv (.t 134))])
  .ret)))))))
theorem fit_interchangeref2_audit : fits Tryz.prog 16 Tryz.f16 sc_interchangeref2_audit [.t 2] 1 = true := by kernel_rfl

set_option maxRecDepth 100000 in
set_option maxHeartbeats 40000000 in
noncomputable def sims_GF_0_0 : (∀ (x0 : List Tapi_Segment), {m : Option ((List Tapi_Note)) // ∀ r, m = some r → PureSpec Tryz.prog 16 [.slice (List.map rTapi_Segment x0)] (.slice (List.map rTapi_Note r))}) := by
  (intro x0; apply Subtype.mk; intro r hm; apply pure_walk Tryz.func16 fit_interchangeref2_audit; unfold sc_interchangeref2_audit)
  repeat' (first | ((with_reducible apply W_openBO (id := 12) (cid := 1384) (off := 0) (n := 4) (e := 76) (ms := [.sh, .sh, .sh, .sl 9 [.sh]]) (row := rTinterchangeref2_open)); (focus (simp only [push_cast, seval]; (try rfl); done)); (focus (simp only [push_cast, seval]; (try rfl); done)); (focus decide); (focus rfl); (focus (simp only [push_cast, seval]; (try rfl); done))) | ((with_reducible apply W_nilB (id := 12) (cid := 1384) (off := 0) (n := 4) (e := 76)); (focus (simp only [push_cast, seval]; (try rfl); done)); (focus (simp only [push_cast, seval]; (try rfl); done)); (focus decide); (focus (simp only [push_cast, seval]; (try rfl); done))) | ((with_reducible apply W_openBs (id := 12) (cid := 1385) (off := 1) (n := 2) (e := 29)); (focus (simp only [push_cast, seval]; (try rfl); done)); (focus (simp only [push_cast, seval]; (try rfl); done)); (focus decide); (focus rfl); (focus (intro _; rfl)); (focus (simp only [push_cast, seval]; (try rfl); done))) | ((with_reducible apply W_nilB (id := 12) (cid := 1385) (off := 1) (n := 2) (e := 29)); (focus (simp only [push_cast, seval]; (try rfl); done)); (focus (simp only [push_cast, seval]; (try rfl); done)); (focus decide); (focus (simp only [push_cast, seval]; (try rfl); done))) | ((with_reducible apply W_frzS (x := sc_interchangeref2_audit_R17) 6); (focus (simp only [push_cast, seval]; (try rfl); done)); (focus (simp only [push_cast, seval]; (try rfl); done)); (focus (simp only [push_cast, seval]; (try rfl); done)); unfold sc_interchangeref2_audit_R17) | ((with_reducible apply O_stVOd (row := rTinterchangeref2_open) (ms := [.sh, .sh, .sh, .sl 9 [.sh]]) (x' := Tinterchangeref2_open.mk _ _ _ _)); (focus (simp only [push_cast, seval]; (try rfl); done)); (focus (simp only [push_cast, seval]; (try rfl); done)); (focus (simp only [push_cast, seval]; (try rfl); done)); (focus (first | exact getI_lit (by assumption))); (focus rfl); (focus (simp only [push_cast, seval]; rfl)); (focus (intro _; rfl))) | with_reducible refine W_seq ?_ | with_reducible refine W_reg ?_ | with_reducible refine W_regD ?_ | with_reducible refine W_block ?_ | with_reducible refine W_skip ?_ | with_reducible refine W_ret ?_ | with_reducible refine W_exit ?_ | with_reducible refine O_nil ?_ | with_reducible refine K_seq ?_ | with_reducible refine K_seqE ?_ | with_reducible refine K_block ?_ | with_reducible refine O_o2r ?_ | ((with_reducible apply O_idxr hm); (iterate 2 (simp only [push_cast, seval]; rfl)); (intro _; rfl); intro e hm) | ((with_reducible apply O_idxVr hm); (iterate 3 (simp only [push_cast, seval]; rfl)); intro e hm) | ((with_reducible apply O_slcr hm); (iterate 3 (simp only [push_cast, seval]; rfl)); (intro _; rfl); intro e hm) | ((with_reducible apply O_idxVO hm); (iterate 2 (simp only [push_cast, seval]; rfl)); (focus (first | (simp only [push_cast, seval]; rfl))); (simp only [push_cast, seval]; rfl); intro e he hm) | ((with_reducible apply O_ldGi); (iterate 2 (simp only [push_cast, seval]; rfl)); (focus (first | exact getI_lit (by assumption))); (iterate 2 rfl)) | ((with_reducible apply O_r); (simp only [push_cast, seval]; rfl); (first | exact trivial)) | ((with_reducible apply O_ldAVr hm); (iterate 2 (simp only [push_cast, seval]; rfl)); (intro _; rfl); intro e hm) | ((with_reducible apply O_and hm); (simp only [push_cast, seval]; rfl); rfl; intro v hm; rotate_left; intro v g hm) | ((with_reducible apply O_or hm); (simp only [push_cast, seval]; rfl); rfl; intro v hm; rotate_left; intro v g hm) | ((with_reducible apply O_cF hm); (simp only [push_cast, seval]; rfl); (first | apply spec_interchangeref2_isHead _ | apply spec_interchangeref2_isEnvelope _); (any_goals ((repeat' (first | rfl)); done)); intro x hm) | ((with_reducible apply O_w); (simp only [push_cast, seval]; rfl); (first | exact trivial)) | ((with_reducible apply O_appV hm); (iterate 4 (simp only [push_cast, seval]; rfl)); (focus ((repeat' (first | rfl | (with_reducible first | apply dv_slice | apply fold_nil | apply fold_cons))); done)); decide; (intro _; rfl); intro hm) | ((with_reducible apply O_appN hm); (focus (simp only [push_cast, seval]; done)); (iterate 2 (simp only [push_cast, seval]; rfl)); (focus ((repeat' (first | rfl)); done)); decide; (intro _; rfl); intro hm) | ((with_reducible apply S_condB hm); (simp only [push_cast, seval]; rfl); intro hm; rotate_left; intro hm) | ((with_reducible apply K_endS hm); (focus (simp only [resOf, resL, RV.get, push_cast, seval]; rfl)); (focus ((repeat' (first | rfl)); done))) | ((with_reducible apply K_bool hm); (simp only [push_cast, seval]; rfl)) | ((with_reducible apply K_leave hm); intro r hm) | ((apply S_loopY (b := 0) (X := sc_interchangeref2_audit_B1) (x := sc_interchangeref2_audit_L1) rfl (fun (c : SV) (s : (List Tinterchangeref2_open) × (List Tapi_Note) × Int) => st [(0, c), (3, .ref 12 0), (4, .d (.int .i64 s.2.2))] [(1384, .vec 76 4 (vrowO [.sh, .sh, .sh, .sl 9 [.sh]] rTinterchangeref2_open s.1)), (1385, .vec 29 2 (vrow rTapi_Note s.2.1)), (12, .box (bT_Tinterchangeref2_auditor 1384 1385))]) (c := _) (s0 := (_, _, _)) hm); (focus (first | (dsimp only; done))); (with_reducible refine Then.mk ?_ ?_)) | ((apply S_loopY (b := 4) (X := sc_interchangeref2_audit_B2) (x := sc_interchangeref2_audit_L2) rfl (fun (c : SV × SV × Ch) (s : (List Tinterchangeref2_open) × (List Tapi_Note) × Int) => st [(3, .ref 12 0), (6, c.1), (7, c.2.1), (8, .ref 8 0), (9, .d (.int .i64 s.2.2))] [(1384, .vec 76 4 (vrowO [.sh, .sh, .sh, .sl 9 [.sh]] rTinterchangeref2_open s.1)), (1385, .vec 29 2 (vrow rTapi_Note s.2.1)), (12, .box (bT_Tinterchangeref2_auditor 1384 1385)), (8, c.2.2)]) (c := (_, _, _)) (s0 := (_, _, _)) hm); (focus (first | (dsimp only; done))); (with_reducible refine Then.mk ?_ ?_)) | ((apply S_loopY (b := 2) (X := sc_interchangeref2_audit_B3) (x := sc_interchangeref2_audit_L3) rfl (fun (c : Unit) (s : (List Tinterchangeref2_open) × (List Tapi_Note) × (List Tapi_Note) × Int) => st [(3, .ref 12 0), (6, .d (.slice (List.map rTapi_Note s.2.2.1))), (7, .d (.int .i64 s.2.2.2))] [(1384, .vec 76 4 (vrowO [.sh, .sh, .sh, .sl 9 [.sh]] rTinterchangeref2_open s.1)), (1385, .vec 29 2 (vrow rTapi_Note s.2.1)), (12, .box (bT_Tinterchangeref2_auditor 1384 1385))]) (c := ()) (s0 := (_, _, _, _)) hm); (focus (first | (dsimp only; done))); (with_reducible refine Then.mk ?_ ?_)) | ((apply K_next (s' := (_, _, _, _)) hm); (focus (first | (dsimp only; done)))) | ((apply K_brk (s' := (_, _, _, _)) hm); (focus (first | (dsimp only; done)))) | ((apply K_next (s' := (_, _, _)) hm); (focus (first | (dsimp only; done)))) | ((apply K_brk (s' := (_, _, _)) hm); (focus (first | (dsimp only; done)))) | (((with_reducible apply O_pM hm (id := 12) (ms := [.sl 76 [.sh, .sh, .sh, .sl 9 [.sh]], .sl 29 (List.replicate 2 .sh)])); (focus ((try ((apply Imp.trans); (focus ((apply imp_closeBO (id := 12) (cid := 1384) (off := 0) (n := 4) (e := 76) (ms := [.sh, .sh, .sh, .sl 9 [.sh]]) (row := rTinterchangeref2_open)); (focus (simp only [push_cast, seval]; (try rfl); done)); (focus (simp only [push_cast, seval]; (try rfl); done)); (focus decide); (focus (simp only [push_cast, seval]; (try rfl); done)); (focus ((repeat' (first | (with_reducible first | apply r_rflO))); done)); (focus rfl); (focus (intro _; rfl)); (focus (simp only [push_cast, seval]; (try rfl); done)))))); (try ((apply Imp.trans); (focus ((apply imp_closeBs (id := 12) (cid := 1385) (off := 1) (n := 2) (e := 29)); (focus (simp only [push_cast, seval]; (try rfl); done)); (focus (simp only [push_cast, seval]; (try rfl); done)); (focus decide); (focus (simp only [push_cast, seval]; (try rfl); done)); (focus ((repeat' (first | (with_reducible first | apply r_rfl))); done)); (focus (intro _; rfl)); (focus (simp only [push_cast, seval]; (try rfl); done)))))); exact Imp.refl _)); (focus (simp only [push_cast, seval]; (try rfl); done)); (focus (simp only [push_cast, seval]; (try rfl); done)); (focus (simp only [push_cast, seval]; (try rfl); done)); (focus ((repeat' (first | (with_reducible first | apply oT_Tinterchangeref2_auditor) | ((with_reducible apply cle_own); (focus rfl); (focus ((repeat' (first | rfl)); done))))); done)); (focus rfl); (first | apply spec_interchange_interchangeref2_auditor_head _ _ _ | apply spec_interchange_interchangeref2_auditor_tail _ _ _ | apply spec_interchange_interchangeref2_auditor_note _ _ _ | apply spec_interchange_interchangeref2_auditor_leave _ _ _); (any_goals (focus ((repeat' (first | rfl)); done))); (focus (intro _; exact ⟨rfl, rfl, rfl⟩)); intro y hm)) | (((with_reducible apply LoopB.of); (focus (first | (dsimp only; done))); (focus ((intro _; repeat' (first | with_reducible exact impC_end | with_reducible refine impC_seq ?_ | with_reducible refine impC_block ?_ | ((with_reducible refine impC_rnd ?_); intro _) | ((with_reducible refine impC_brk ?_); intro _))))); (intro s o hm; first | unfold sc_interchangeref2_audit_L1 | unfold sc_interchangeref2_audit_L2 | unfold sc_interchangeref2_audit_L3); rotate_left; intro s hm)) | (((apply imp_stT; (repeat' (first | with_reducible exact keepT_nil | with_reducible exact keepC_nil | with_reducible apply keepT_cons | with_reducible apply keepC_cons | ((with_reducible apply svle_eq); (focus (first | (simp only [push_cast, seval]; rfl))); (focus ((repeat' (first | rfl)); done))) | ((with_reducible apply svle_td); (focus (first | (simp only [push_cast, seval]; rfl))); (focus (first | (simp only [push_cast, seval]; rfl))); (focus ((repeat' (first | (with_reducible first | apply dv_slice | apply fold_nil))); done))) | ((with_reducible apply chle_eq); (focus (first | (simp only [push_cast, seval]; rfl))); (first | with_reducible exact chle_rfl rfl | with_reducible apply chle_vec)) | (with_reducible first | apply r_nilO | apply r_nil))); done))))
noncomputable def m_interchangeref2_audit (x0 : List Tapi_Segment) : Option ((List Tapi_Note)) := (sims_GF_0_0 x0).1
theorem spec_interchangeref2_audit (x0 : List Tapi_Segment) : ∀ r, m_interchangeref2_audit x0 = some r → PureSpec Tryz.prog 16 [.slice (List.map rTapi_Segment x0)] (.slice (List.map rTapi_Note r)) := (sims_GF_0_0 x0).2

/-- interchange/interchangeref2.Audit -/
def sc_interchangeref2_Audit : SC :=
  (.seq (.reg [.r 2 (.mv (.c (.nils))),
     .r 3 (.mv (.c (.d (.int .i64 0))))])
  (.seq (.seq (.reg [.r 5 (.mv (.t 0)),
     .c 6 (.f 15) [.t 5],
     .r 4 (.mv (.t 6))])
  (.seq (.reg [.r 7 (.mv (.t 4)),
     .r 8 (.bin .neq (.t 7) (.c (.d (.int .i64 0))))])
  (.cond (.t 8)
    (.seq (.reg [.r 9 (.mv (.t 4)),
       .r 2 (.mv (.c (.nils))),
       .r 3 (.mv (.t 9))])
    .ret)
    .skip)))
  (.seq (.reg [.r 10 (.mv (.t 0)),
     .c 11 (.f 16) [.t 10],
     .r 2 (.mv (.t 11)),
     .r 3 (.mv (.c (.d (.int .i64 0))))])
  .ret)))
theorem fit_interchangeref2_Audit : fits Tryz.prog 6 Tryz.f6 sc_interchangeref2_Audit [.t 2, .t 3] 1 = true := by kernel_rfl

set_option maxRecDepth 100000 in
set_option maxHeartbeats 40000000 in
noncomputable def sims_GF_1_0 : (∀ (x0 : List Tapi_Segment), {m : Option ((List Tapi_Note) × Int) // ∀ r, m = some r → PureSpec Tryz.prog 6 [.slice (List.map rTapi_Segment x0)] (.tup [.slice (List.map rTapi_Note r.1), .int .i64 r.2])}) := by
  (intro x0; apply Subtype.mk; intro r hm; apply pure_walk Tryz.func6 fit_interchangeref2_Audit; unfold sc_interchangeref2_Audit)
  repeat' (first | with_reducible refine W_seq ?_ | with_reducible refine W_reg ?_ | with_reducible refine W_skip ?_ | with_reducible refine W_ret ?_ | with_reducible refine O_nil ?_ | with_reducible refine K_seq ?_ | with_reducible refine K_seqR ?_ | ((with_reducible apply O_r); (simp only [push_cast, seval]; rfl); (first | exact trivial)) | ((with_reducible apply O_cF hm); (simp only [push_cast, seval]; rfl); (first | apply spec_interchangeref2_CheckSegments _ | apply spec_interchangeref2_audit _); (any_goals ((repeat' (first | rfl)); done)); intro x hm) | ((with_reducible apply S_condB hm); (simp only [push_cast, seval]; rfl); intro hm; rotate_left; intro hm) | ((with_reducible apply K_end2 hm); (focus (simp only [resOf, resL, RV.get, push_cast, seval]; rfl)); (focus (first | (dsimp only; done))); (focus ((repeat' (first | rfl | (with_reducible first | apply f_tup | apply dv_slice | apply f_cons | apply fold_nil))); done))))
noncomputable def m_interchangeref2_Audit (x0 : List Tapi_Segment) : Option ((List Tapi_Note) × Int) := (sims_GF_1_0 x0).1
theorem spec_interchangeref2_Audit (x0 : List Tapi_Segment) : ∀ r, m_interchangeref2_Audit x0 = some r → PureSpec Tryz.prog 6 [.slice (List.map rTapi_Segment x0)] (.tup [.slice (List.map rTapi_Note r.1), .int .i64 r.2]) := (sims_GF_1_0 x0).2

end Go.Proofs.YtcnohbiegjahkaaGreatDoor

/-
  Bodies of functions and what they compute, printed by programs of mine (wip/tool/gen.py, sc.py) out of the translation; the kernel holds each against the translation.
-/
namespace Go.Proofs.YtcnohbiegjahkaaGreatDoor
open Go.RowKit
set_option linter.unusedSimpArgs false
set_option linter.unusedVariables false
/-- interchange/interchangelaw2.awake -/
def sc_interchangelaw2_awake : SC :=
  (.seq (.reg [.r 0 (.mv (.c (.d (.bool false))))])
  (.seq (.reg [.r 4 (.build [.d (.int .u8 0), .d (.int .u8 0), .d (.int .u8 0), .d (.int .u8 0), .d (.int .u8 0)] [(0, 1, .c (.d (.int .u8 42))), (1, 1, .c (.d (.int .u8 58))), (2, 1, .c (.d (.int .u8 94))), (3, 1, .c (.d (.int .u8 63))), (4, 1, .c (.d (.int .u8 126)))]),
     .c 5 (.f 17) [.t 4],
     .r 3 (.mv (.t 5)),
     .r 6 (.ext (.t 3) 0),
     .r 7 (.ext (.t 3) 1),
     .r 1 (.mv (.t 6)),
     .r 2 (.mv (.t 7))])
  (.seq (.reg (.r 8 (.mv (.t 2)) :: .r 9 (.bin .eql (.t 8) (.c (.d (.int .i64 0)))) :: .r 10 (.mv (.t 9)) :: gapp [11, 12, 13] 10 true (.r 11 (.mv (.t 1)) :: .r 12 (.cvbs (.t 11)) :: .r 13 (.bin .eql (.t 12) (.c (.d (.str [77, 82, 75, 42, 58, 94, 63, 126])))) :: []) (.r 14 (.pick (.t 10) (.t 13) (.c (.d (.bool false)))) :: .r 0 (.mv (.t 14)) :: [])))
  .ret)))
theorem fit_interchangelaw2_awake : fits Tryz.prog 8 Tryz.f8 sc_interchangelaw2_awake [.t 0] 0 = true := by kernel_rfl

def sc_slices_Equal_interchange_api_Note_interchange_api_Note_L1 : SC :=
  (.seq (.reg [.r 14 (.bin .lss (.t 13) (.t 12))])
  (.seq (.cond (.t 14)
    .skip
    (.exit 0))
  (.seq (.block 1 (.seq (.reg [.r 15 (.mv (.t 13)),
       .r 5 (.mv (.t 15))])
    (.seq (.regD [.r 16 (.mv (.t 0)),
       .r 17 (.mv (.t 5)),
       .r 18 (.idx 2 (.t 16) (.t 17)),
       .r 19 (.ldA 2 (.t 18)),
       .r 20 (.mv (.t 1)),
       .r 21 (.mv (.t 5)),
       .r 22 (.idx 2 (.t 20) (.t 21)),
       .r 23 (.ldA 2 (.t 22)),
       .r 24 (.eqs .neq [(.int .i64), (.int .i64)] (.t 19) (.t 23))])
    (.cond (.t 24)
      (.seq (.reg [.r 4 (.mv (.c (.d (.bool false))))])
      .ret)
      .skip))))
  (.reg [.r 25 (.bin .add (.t 13) (.c (.d (.int .i64 1)))),
     .r 13 (.mv (.t 25))]))))
def sc_slices_Equal_interchange_api_Note_interchange_api_Note_B1 : SC := .block 0 (.loop sc_slices_Equal_interchange_api_Note_interchange_api_Note_L1)
/-- slices.Equal[[]interchange/api.Note,interchange/api.Note] -/
def sc_slices_Equal_interchange_api_Note_interchange_api_Note : SC :=
  (.seq (.reg [.r 4 (.mv (.c (.d (.bool false))))])
  (.seq (.seq (.reg [.r 6 (.mv (.t 0)),
     .r 7 (.len (.t 6)),
     .r 8 (.mv (.t 1)),
     .r 9 (.len (.t 8)),
     .r 10 (.bin .neq (.t 7) (.t 9))])
  (.cond (.t 10)
    (.seq (.reg [.r 4 (.mv (.c (.d (.bool false))))])
    .ret)
    .skip))
  (.seq (.seq (.reg [.r 11 (.mv (.t 0)),
     .r 12 (.len (.t 11)),
     .r 13 (.mv (.c (.d (.int .i64 0))))])
  sc_slices_Equal_interchange_api_Note_interchange_api_Note_B1)
  (.seq (.reg [.r 4 (.mv (.c (.d (.bool true))))])
  .ret))))
theorem fit_slices_Equal_interchange_api_Note_interchange_api_Note : fits Tryz.prog 7 Tryz.f7 sc_slices_Equal_interchange_api_Note_interchange_api_Note [.t 4] 2 = true := by kernel_rfl

set_option maxRecDepth 100000 in
set_option maxHeartbeats 40000000 in
noncomputable def sims_GW1_0_0 : ({m : Option (Bool) // ∀ r, m = some r → PureSpec Tryz.prog 8 [] (.bool r)}) × (∀ (x0 : List Tapi_Note) (x1 : List Tapi_Note), {m : Option (Bool) // ∀ r, m = some r → PureSpec Tryz.prog 7 [.slice (List.map rTapi_Note x0), .slice (List.map rTapi_Note x1)] (.bool r)}) := by
  refine ⟨?g0, ?g1⟩
  case' g0 => (apply Subtype.mk; intro r hm; apply pure_walk Tryz.func8 fit_interchangelaw2_awake; unfold sc_interchangelaw2_awake)
  case' g1 => (intro x0 x1; apply Subtype.mk; intro r hm; apply pure_walk Tryz.func7 fit_slices_Equal_interchange_api_Note_interchange_api_Note; unfold sc_slices_Equal_interchange_api_Note_interchange_api_Note)
  all_goals (repeat' (first | with_reducible refine W_seq ?_ | with_reducible refine W_reg ?_ | with_reducible refine W_regD ?_ | with_reducible refine W_block ?_ | with_reducible refine W_skip ?_ | with_reducible refine W_ret ?_ | with_reducible refine W_exit ?_ | with_reducible refine O_nil ?_ | with_reducible refine K_seq ?_ | with_reducible refine K_seqE ?_ | with_reducible refine K_seqR ?_ | with_reducible refine K_block ?_ | with_reducible refine K_blockR ?_ | ((with_reducible apply O_idxr hm); (iterate 2 (simp only [push_cast, seval]; rfl)); (intro _; rfl); intro e hm) | ((with_reducible apply O_cvbsD); (simp only [push_cast, seval]; rfl)) | ((with_reducible apply O_r); (simp only [push_cast, seval]; rfl); (first | exact trivial)) | ((with_reducible apply O_and hm); (simp only [push_cast, seval]; rfl); rfl; intro v hm; rotate_left; intro v g hm) | ((with_reducible apply O_cF hm); (simp only [push_cast, seval]; rfl); (first | apply spec_wire_Heading _); (any_goals ((repeat' (first | rfl | (with_reducible first | apply fT_Tapi_Marks | apply f_agg | apply f_cons) | (with_reducible apply f_byte; decide))); done)); intro x hm) | ((with_reducible apply S_condB hm); (simp only [push_cast, seval]; rfl); intro hm; rotate_left; intro hm) | ((with_reducible apply K_endS hm); (focus (simp only [resOf, resL, RV.get, push_cast, seval]; rfl)); (focus ((repeat' (first | rfl)); done))) | ((with_reducible apply K_bool hm); (simp only [push_cast, seval]; rfl)) | ((with_reducible apply K_leave hm); intro r hm) | ((with_reducible apply K_leaveR hm); intro r hm) | ((apply S_loopY (b := 0) (X := sc_slices_Equal_interchange_api_Note_interchange_api_Note_B1) (x := sc_slices_Equal_interchange_api_Note_interchange_api_Note_L1) rfl (fun (c : SV × SV × SV) (s : Int) => st [(0, c.1), (1, c.2.1), (12, c.2.2), (13, .d (.int .i64 s))] []) (c := (_, _, _)) (s0 := _) hm); (focus (first | (dsimp only; done))); (with_reducible refine Then.mk ?_ ?_)) | ((apply K_next (s' := _) hm); (focus (first | (dsimp only; done)))) | ((apply K_brk (s' := _) hm); (focus (first | (dsimp only; done)))) | (((with_reducible apply K_brkR hm); intro r hm)) | (((with_reducible apply LoopB.of); (focus (first | (dsimp only; done))); (focus ((intro _; repeat' (first | with_reducible exact impC_end | with_reducible refine impC_seq ?_)))); (intro s o hm; first | unfold sc_slices_Equal_interchange_api_Note_interchange_api_Note_L1); rotate_left; intro s hm)) | (((apply imp_stT; (repeat' (first | with_reducible exact keepT_nil | with_reducible exact keepC_nil | with_reducible apply keepT_cons | ((with_reducible apply svle_eq); (focus (first | (simp only [push_cast, seval]; rfl))); (focus ((repeat' (first | rfl)); done))))); done)))))
noncomputable def m_interchangelaw2_awake : Option (Bool) := (sims_GW1_0_0.1 ).1
theorem spec_interchangelaw2_awake : ∀ r, m_interchangelaw2_awake  = some r → PureSpec Tryz.prog 8 [] (.bool r) := (sims_GW1_0_0.1 ).2
noncomputable def m_slices_Equal_interchange_api_Note_interchange_api_Note (x0 : List Tapi_Note) (x1 : List Tapi_Note) : Option (Bool) := (sims_GW1_0_0.2 x0 x1).1
theorem spec_slices_Equal_interchange_api_Note_interchange_api_Note (x0 : List Tapi_Note) (x1 : List Tapi_Note) : ∀ r, m_slices_Equal_interchange_api_Note_interchange_api_Note x0 x1 = some r → PureSpec Tryz.prog 7 [.slice (List.map rTapi_Note x0), .slice (List.map rTapi_Note x1)] (.bool r) := (sims_GW1_0_0.2 x0 x1).2

/-- interchange/interchangelaw2.WireAuditsMatchSpec -/
def sc_interchangelaw2_WireAuditsMatchSpec : SC :=
  (.seq (.reg [.r 2 (.mv (.c (.d (.bool false))))])
  (.seq (.reg [.r 8 (.mv (.t 0)),
     .c 9 (.f 5) [.t 8],
     .r 7 (.mv (.t 9)),
     .r 10 (.ext (.t 7) 0),
     .r 11 (.ext (.t 7) 1),
     .r 3 (.mv (.t 10)),
     .r 4 (.mv (.t 11))])
  (.seq (.reg [.r 13 (.mv (.t 0)),
     .c 14 (.f 6) [.t 13],
     .r 12 (.mv (.t 14)),
     .r 15 (.ext (.t 12) 0),
     .r 16 (.ext (.t 12) 1),
     .r 5 (.mv (.t 15)),
     .r 6 (.mv (.t 16))])
  (.seq (.reg (.r 17 (.mv (.t 3)) :: .r 18 (.mv (.t 5)) :: .c 19 (.f 7) [.t 17, .t 18] :: .r 20 (.mv (.t 19)) :: gapp [21, 22, 23] 20 true (.r 21 (.mv (.t 4)) :: .r 22 (.mv (.t 6)) :: .r 23 (.bin .eql (.t 21) (.t 22)) :: []) (.r 24 (.pick (.t 20) (.t 23) (.c (.d (.bool false)))) :: .r 25 (.mv (.t 24)) :: gapp [26] 25 true (.c 26 (.f 8) [] :: []) (.r 27 (.pick (.t 25) (.t 26) (.c (.d (.bool false)))) :: .r 2 (.mv (.t 27)) :: []))))
  .ret))))
theorem fit_interchangelaw2_WireAuditsMatchSpec : fits Tryz.prog 3 Tryz.f3 sc_interchangelaw2_WireAuditsMatchSpec [.t 2] 1 = true := by kernel_rfl

set_option maxRecDepth 100000 in
set_option maxHeartbeats 40000000 in
noncomputable def sims_GW1_1_0 : (∀ (x0 : List Tapi_Segment), {m : Option (Bool) // ∀ r, m = some r → PureSpec Tryz.prog 3 [.slice (List.map rTapi_Segment x0)] (.bool r)}) := by
  (intro x0; apply Subtype.mk; intro r hm; apply pure_walk Tryz.func3 fit_interchangelaw2_WireAuditsMatchSpec; unfold sc_interchangelaw2_WireAuditsMatchSpec)
  repeat' (first | with_reducible refine W_seq ?_ | with_reducible refine W_reg ?_ | with_reducible refine W_ret ?_ | with_reducible refine O_nil ?_ | with_reducible refine K_seq ?_ | ((with_reducible apply O_r); (simp only [push_cast, seval]; rfl); (first | exact trivial)) | ((with_reducible apply O_and hm); (simp only [push_cast, seval]; rfl); rfl; intro v hm; rotate_left; intro v g hm) | ((with_reducible apply O_cS hm); (simp only [push_cast, seval]; rfl); (focus (first | exact spec_wire_Audit _ | exact spec_interchangeref2_Audit _ | exact spec_slices_Equal_interchange_api_Note_interchange_api_Note _ _ | exact spec_interchangelaw2_awake)); intro x hm) | ((with_reducible apply K_endS hm); (focus (simp only [resOf, resL, RV.get, push_cast, seval]; rfl)); (focus ((repeat' (first | rfl)); done))) | ((with_reducible apply K_bool hm); (simp only [push_cast, seval]; rfl)))
noncomputable def m_interchangelaw2_WireAuditsMatchSpec (x0 : List Tapi_Segment) : Option (Bool) := (sims_GW1_1_0 x0).1
theorem spec_interchangelaw2_WireAuditsMatchSpec (x0 : List Tapi_Segment) : ∀ r, m_interchangelaw2_WireAuditsMatchSpec x0 = some r → PureSpec Tryz.prog 3 [.slice (List.map rTapi_Segment x0)] (.bool r) := (sims_GW1_1_0 x0).2

end Go.Proofs.YtcnohbiegjahkaaGreatDoor

/-
  How the parameters of the laws of this seat read, and a world in which the listed tables lie (printed by wip/tool/row.py).
-/
namespace Go.Proofs.YtcnohbiegjahkaaGreatDoor
open Go.ChangeShapes Go.WideShapes Go.ChangeAt Go.RowKit
set_option linter.unusedSimpArgs false
set_option linter.unusedVariables false
theorem and_t {a b : Bool} (h1 : a = true) (h2 : b = true) : (a && b) = true := by rw [h1, h2]; rfl
/-- How a value of a type reads. -/
def Wt (P : Program) (n : Nat) (t : TypeId) {α : Type} (row : α → List DV) (ok : α → Prop) : Prop := ∀ m ds, WT P (m + n) t ds → ∃ x, ds = row x ∧ ok x
theorem Wt.up {P : Program} {n : Nat} {t : TypeId} {α : Type} {row : α → List DV} {ok : α → Prop} (h : Wt P n t row ok) (k : Nat) : Wt P (n + k) t row ok := fun m ds hd => h (m + k) ds (by rwa [show m + k + n = m + (n + k) by omega])
def okS (s : List UInt8) : Prop := s.length ≤ 9223372036854775807
def okL {α : Type} (ok : α → Prop) (l : List α) : Prop := l.length ≤ 9223372036854775807 ∧ ∀ a ∈ l, ok a
theorem WT_struct {P : Program} {n : Nat} {t : TypeId} {fs : Array Field} {ds : List DV} (hu : P.underlying t = some (.struct fs)) (h : WT P (n + 1) t ds) : WTS (WT P n) fs.toList ds := by
  simp only [WT, hu] at h; exact h
theorem wt_str {P : Program} {t : TypeId} (hu : P.underlying t = some .string) : Wt P 1 t rowS okS := by
  intro m ds h
  simp only [WT, hu] at h
  obtain ⟨b, rfl, hl⟩ := h
  exact ⟨b, rfl, by unfold okS; unfold maxLen at hl; omega⟩
theorem wt_slice {P : Program} {n : Nat} {t e : TypeId} {α : Type} {row : α → List DV} {ok : α → Prop} (hu : P.underlying t = some (.slice e)) (he : Wt P n e row ok) : Wt P (n + 1) t (rowL row) (okL ok) := by
  intro m ds h
  rw [show m + (n + 1) = (m + n) + 1 by omega] at h
  simp only [WT, hu] at h
  obtain ⟨rows, rfl, hl, hr⟩ := h
  have : ∀ rows : List (List DV), (∀ r ∈ rows, WT P (m + n) e r) → ∃ l : List α, rows = l.map row ∧ ∀ a ∈ l, ok a := by
    intro rows
    induction rows with
    | nil => intro _; exact ⟨[], rfl, by simp⟩
    | cons r rows ih =>
      intro h
      obtain ⟨a, rfl, ha⟩ := he m r (h r (by simp))
      obtain ⟨l, rfl, hl⟩ := ih (fun r hr => h r (by simp [hr]))
      exact ⟨a :: l, rfl, by simpa using ⟨ha, hl⟩⟩
  obtain ⟨l, rfl, hok⟩ := this rows hr
  exact ⟨l, rfl, by unfold maxLen at hl; simp at hl; omega, hok⟩
theorem ownK : ownKnob Tryz.prog.godebug = none := by kernel_rfl
theorem laidOut : laidOutB Tryz.prog = true := by kernel_rfl
theorem wt9 : Wt Tryz.prog 1 9 rowS okS := wt_str Tryz.underlying9
theorem wt38 : Wt Tryz.prog 2 38 (rowL rowS) (okL okS) := wt_slice Tryz.underlying38 wt9
theorem wt56 : Wt Tryz.prog 3 56 (rowL (rowL rowS)) (okL (okL okS)) := wt_slice Tryz.underlying56 wt38
def okTapi_Element (x : Tapi_Element) : Prop := (okL (okL okS)) x.fRepeats
set_option maxRecDepth 100000 in
theorem wt58 : Wt Tryz.prog 4 58 rTapi_Element okTapi_Element := by
  intro m ds h
  have h := WT_struct Tryz.underlying58 h
  simp only [WTS] at h
  obtain ⟨a0, _, rfl, h0, rfl⟩ := h
  obtain ⟨x0, rfl, o0⟩ := (wt56.up 0) m _ h0
  refine ⟨⟨x0⟩, ?_, o0⟩
  simp only [rTapi_Element, rowI, rowY, rowS, rowB, rowL, List.append_assoc, List.cons_append, List.nil_append, List.append_nil]
theorem wt39 : Wt Tryz.prog 5 39 (rowL rTapi_Element) (okL okTapi_Element) := wt_slice Tryz.underlying39 wt58
def okTapi_Segment (x : Tapi_Segment) : Prop := okS x.fTag ∧ (okL okTapi_Element) x.fElements
set_option maxRecDepth 100000 in
theorem wt41 : Wt Tryz.prog 6 41 rTapi_Segment okTapi_Segment := by
  intro m ds h
  have h := WT_struct Tryz.underlying41 h
  simp only [WTS] at h
  obtain ⟨a0, _, rfl, h0, a1, _, rfl, h1, rfl⟩ := h
  obtain ⟨x0, rfl, o0⟩ := (wt9.up 4) m _ h0
  obtain ⟨x1, rfl, o1⟩ := (wt39.up 0) m _ h1
  refine ⟨⟨x0, x1⟩, ?_, o0, o1⟩
  simp only [rTapi_Segment, rowI, rowY, rowS, rowB, rowL, List.append_assoc, List.cons_append, List.nil_append, List.append_nil]
theorem wt22 : Wt Tryz.prog 7 22 (rowL rTapi_Segment) (okL okTapi_Segment) := wt_slice Tryz.underlying22 wt41
def layVals : Nat → DataW Unit → List Value
  | 0, _ => []
  | _ + 1, .lit (.int k n) => [.int k n]
  | n + 1, .agg ps => ps.flatMap (layVals n)
  | _ + 1, _ => []
/-- The settled world, with the listed tables in it. -/
def layCells (l : List Value) : Obj → Obj
  | .cells _ t frozen => .cells l.toArray t frozen
  | o => o
noncomputable def lowWorld : Nat := (World.holding Tryz.prog default ⟨#[], #[], []⟩).heap.size
noncomputable def laidWorld (os : Os) : World :=
  { World.holding Tryz.prog os ⟨#[], #[], []⟩ with
    heap := ((((((((World.holding Tryz.prog os ⟨#[.cells #[.string ⟨#[118, 97, 108, 117, 101, 32, 111, 117, 116, 32, 111, 102, 32, 114, 97, 110, 103, 101]⟩] 183, .cells #[.string ⟨#[105, 110, 118, 97, 108, 105, 100, 32, 115, 121, 110, 116, 97, 120]⟩] 183], #[], []⟩).heap.modify 6 (layCells (layVals 5 Rows.laid_math_bits_deBruijn32tab))).modify 7 (layCells (layVals 5 Rows.laid_math_bits_deBruijn64tab))).modify 1 (layCells (layVals 5 Rows.laid_internal_strconv_uint64pow10))).modify 5 (layCells (layVals 5 Rows.laid_unicode_utf8_acceptRanges))).modify 3 (layCells [.iface 181 (.pointer (some ⟨lowWorld + 0, 0, none⟩))])).modify 2 (layCells [.iface 181 (.pointer (some ⟨lowWorld + 1, 0, none⟩))])).modify 4 (layCells (layVals 5 Rows.laid_unicode_utf8_first))) }
end Go.Proofs.YtcnohbiegjahkaaGreatDoor




/-
  Plain laws of the wire: marks.
-/
namespace Go.Proofs.YtcnohbiegjahkaaGreatDoor
set_option linter.unusedSimpArgs false
set_option linter.unusedVariables false
open Go.RowKit

def markB (b : UInt8) : Bool := !(decide ((b.toNat : Int) < 33) || decide (126 < (b.toNat : Int)) || decide ((b.toNat : Int) = 46) || decide ((b.toNat : Int) = 45) || decide ((b.toNat : Int) = 43) || decide ((b.toNat : Int) = 95)) && !(decide (65 ≤ (b.toNat : Int)) && decide ((b.toNat : Int) ≤ 90) || decide (97 ≤ (b.toNat : Int)) && decide ((b.toNat : Int) ≤ 122) || decide (48 ≤ (b.toNat : Int)) && decide ((b.toNat : Int) ≤ 57))
/-- A loop over a list that ends at the first element of which h says something. -/
theorem loop_find {α R : Type} (l : List α) (h : α → Option R) {f : Int → Option (Int ⊕ (Int ⊕ R))} (hb : ∀ (i : Nat) (e : α), l[i]? = some e → f (i : Int) = (match h e with | some a => some (.inr (.inr a)) | none => some (.inl ((i + 1 : Nat) : Int))))
    (he : f (l.length : Int) = some (.inr (.inl (l.length : Int)))) : loopC f 0 = some (match l.findSome? h with | some a => .inr a | none => .inl (l.length : Int)) := by
  have : ∀ (t : List α) (i : Nat), l.drop i = t → i ≤ l.length → loopC f (i : Int) = some (match t.findSome? h with | some a => .inr a | none => .inl (l.length : Int)) := by
    intro t
    induction t with
    | nil =>
      intro i hd hi
      have : i = l.length := by have := congrArg List.length hd; simp at this; omega
      subst this
      rw [loopC_eq, he]
      rfl
    | cons e t ih =>
      intro i hd hi
      have h1 : l[i]? = some e := by
        have := congrArg (fun q => q[0]?) hd
        simpa using this
      have h2 : i < l.length := by
        rcases Nat.lt_or_ge i l.length with h | h
        · exact h
        · rw [List.drop_eq_nil_of_le h] at hd; cases hd
      have h3 : l.drop (i + 1) = t := by
        have := congrArg List.tail hd
        simpa using this
      rw [loopC_eq, hb i e h1, List.findSome?_cons]
      cases h e with
      | some a => rfl
      | none => exact ih (i + 1) h3 h2
  exact this l 0 rfl (Nat.zero_le _)
theorem inBytes_eq (l : List UInt8) (lo hi : UInt8) (hl : l.length < 9223372036854775807) : m_kit_InBytes l lo hi = some (match l.findSome? fun x => if (decide ((x.toNat : Int) < (lo.toNat : Int)) || decide ((hi.toNat : Int) < (x.toNat : Int))) = true then some false else none with | some b => b | none => true) := by
  unfold m_kit_InBytes sims_G1_0_0; dsimp only
  refine bind_loop (loop_find l (fun x => if (decide ((x.toNat : Int) < (lo.toNat : Int)) || decide ((hi.toNat : Int) < (x.toNat : Int))) = true then some false else none) (fun i e h => ?_) ?_) ?_
  · obtain ⟨hi', -⟩ := List.getElem?_eq_some_iff.1 h
    simp only [lt_dec hi', cond_true, getI_nat, h, Option.bind_some, orO_some, wrapN i (by omega)]
    cases (decide ((e.toNat : Int) < (lo.toNat : Int)) || decide ((hi.toNat : Int) < (e.toNat : Int))) <;> rfl
  · simp only [lt_dec_self, cond_false]; rfl
  · cases l.findSome? _ <;> rfl
theorem enc_ascii (b : UInt8) (h : b.toNat < 128) : (Utf8.encode (b.toNat : Int)).data.toList = [b] := by
  have : ∀ n : Fin 128, (Utf8.encode ((n.1 : Nat) : Int)).data.toList = [UInt8.ofNat n.1] := by decide
  have := this ⟨b.toNat, h⟩
  rw [this]
  simp
end Go.Proofs.YtcnohbiegjahkaaGreatDoor

/-
  Plain laws of the wire: a byte that may be a mark.
-/
namespace Go.Proofs.YtcnohbiegjahkaaGreatDoor
set_option linter.unusedSimpArgs false
set_option linter.unusedVariables false
open Go.RowKit

def tagSet : List UInt8 := [65, 66, 67, 68, 69, 70, 71, 72, 73, 74, 75, 76, 77, 78, 79, 80, 81, 82, 83, 84, 85, 86, 87, 88, 89, 90, 48, 49, 50, 51, 52, 53, 54, 55, 56, 57]
theorem isTagPart_eq (l : List UInt8) (hl : l.length ≤ 9223372036854775807) : m_kit_IsTagPart l = some (decide (Lib.trimS l tagSet = [])) := by
  unfold m_kit_IsTagPart sims_G1_0_0; dsimp only
  have : m_strings_Trim l tagSet = some (Lib.trimS l tagSet) := by unfold m_strings_Trim; rw [if_pos ⟨hl, by decide, by decide⟩]
  simp only [tagSet] at this ⊢
  rw [this]
  rfl
def wMark (b : UInt8) : Bool := !decide (Lib.trimS [b] tagSet = []) && !(match [b].findSome? fun x => if (decide ((x.toNat : Int) < 97) || decide ((122 : Int) < (x.toNat : Int))) = true then some false else none with | some b => b | none => true) && !Lib.containsAny [b] [46, 45, 43, 95]
theorem wMark_all : (List.range 256).all (fun n => decide (n < 33) || decide (126 < n) || (wMark (UInt8.ofNat n) == markB (UInt8.ofNat n))) = true := by kernel_rfl
end Go.Proofs.YtcnohbiegjahkaaGreatDoor

/-
  Plain laws of the wire: texts.
-/
namespace Go.Proofs.YtcnohbiegjahkaaGreatDoor
set_option linter.unusedSimpArgs false
set_option linter.unusedVariables false
open Go.RowKit

def badT (x : UInt8) : Bool := decide ((x.toNat : Int) < 32) || decide (126 < (x.toNat : Int))
def textF (t : List UInt8) : Int := if 1000 < t.length then 2 else match t.findSome? (fun x => if badT x = true then some (3 : Int) else none) with | some a => a | none => 0
theorem findSome_congr2 {α A B : Type} (p : α → Bool) (a : A) (b : B) : ∀ (l : List α), (l.findSome? (fun x => if p x = true then some a else none) = none ∧ l.findSome? (fun x => if p x = true then some b else none) = none) ∨ (l.findSome? (fun x => if p x = true then some a else none) = some a ∧ l.findSome? (fun x => if p x = true then some b else none) = some b)
  | [] => .inl ⟨rfl, rfl⟩
  | x :: l => by
    rw [List.findSome?_cons, List.findSome?_cons]
    cases h : p x with
    | true => exact .inr ⟨by simp, by simp⟩
    | false => simpa using findSome_congr2 p a b l
theorem r_text (t : List UInt8) : m_interchangeref2_checkText t = some (textF t) := by
  unfold m_interchangeref2_checkText sims_G1_0_0; dsimp only
  unfold textF
  by_cases h : 1000 < t.length
  · have : decide ((1000 : Int) < (t.length : Int)) = true := by simp; omega
    simp only [this, cond_true, h, if_true]
  · have : decide ((1000 : Int) < (t.length : Int)) = false := by simp; omega
    simp only [this, cond_false, h, if_false]
    refine bind_loop (loop_find t (fun x => if badT x = true then some (3 : Int) else none) (fun i e he => ?_) ?_) ?_
    · obtain ⟨hi', -⟩ := List.getElem?_eq_some_iff.1 he
      simp only [lt_dec hi', cond_true, getI_nat, he, Option.bind_some, orO_some, wrapN i (by omega)]
      show (bif badT e then inrO (inrO (some 3)) else some (Sum.inl ((i + 1 : Nat) : Int))) = _
      cases badT e <;> rfl
    · simp only [lt_dec_self, cond_false]; rfl
    · cases t.findSome? _ <;> rfl
theorem w_text (t : List UInt8) : m_wire_textFault t = some (textF t) := by
  unfold m_wire_textFault sims_G1_2_0; dsimp only
  unfold textF
  by_cases h : 1000 < t.length
  · have : decide ((1000 : Int) < (t.length : Int)) = true := by simp; omega
    simp only [this, cond_true, h, if_true]
  · have h1 : decide ((1000 : Int) < (t.length : Int)) = false := by simp; omega
    have h2 : decide ((t.length : Int) ≤ 1000) = true := by simp; omega
    have hT : m_kit_IsText t = some (match t.findSome? fun x => if badT x = true then some false else none with | some b => b | none => true) := by
      unfold m_kit_IsText sims_G1_1_0; dsimp only
      simp only [h2, inBytes_eq t _ _ (by omega), andO_some, Option.bind_some, Bool.true_and]
      rfl
    simp only [h1, cond_false, h, if_false, hT, Option.bind_some]
    rcases findSome_congr2 badT (3 : Int) false t with ⟨e1, e2⟩ | ⟨e1, e2⟩ <;> rw [e1, e2] <;> rfl
end Go.Proofs.YtcnohbiegjahkaaGreatDoor

/-
  Plain laws: loops over lists with a state and an early end; folds over nested lists.
-/
namespace Go.Proofs.YtcnohbiegjahkaaGreatDoor
set_option linter.unusedSimpArgs false
set_option linter.unusedVariables false
open Go.RowKit

/-- A loop over a list: the number, the state and the element give the next state or the end. -/
def runI {α S A : Type} (g : Nat → S → α → Option (S ⊕ A)) (fin : S → Option A) : List α → Nat → S → Option A
  | [], _, s => fin s
  | e :: l, i, s => match g i s e with
    | some (.inl s') => runI g fin l (i + 1) s'
    | some (.inr a) => some a
    | none => none
theorem drop_head {α : Type} {l t : List α} {e : α} {i : Nat} (hd : l.drop i = e :: t) : l[i]? = some e ∧ i < l.length ∧ l.drop (i + 1) = t := by
  refine ⟨?_, ?_, ?_⟩
  · have := congrArg (fun q => q[0]?) hd
    simpa using this
  · rcases Nat.lt_or_ge i l.length with h | h
    · exact h
    · rw [List.drop_eq_nil_of_le h] at hd; cases hd
  · have := congrArg List.tail hd
    simpa using this
theorem drop_nil_len {α : Type} {l : List α} {i : Nat} (hd : l.drop i = []) (hi : i ≤ l.length) : i = l.length := by
  have := congrArg List.length hd; simp at this; omega
theorem loop_runI {α S T A : Type} (l : List α) (mk : Nat → S → T) (g : Nat → S → α → Option (S ⊕ A)) (fin : S → Option A) {f : T → Option (T ⊕ A)}
    (hb : ∀ (i : Nat) (e : α) (s : S), l[i]? = some e → f (mk i s) = (match g i s e with | some (.inl s') => some (.inl (mk (i + 1) s')) | some (.inr a) => some (.inr a) | none => none))
    (he : ∀ s, f (mk l.length s) = (fin s).map .inr) (s : S) : loopC f (mk 0 s) = runI g fin l 0 s := by
  have : ∀ (t : List α) (i : Nat) (s : S), l.drop i = t → i ≤ l.length → loopC f (mk i s) = runI g fin t i s := by
    intro t
    induction t with
    | nil =>
      intro i s hd hi
      have := drop_nil_len hd hi
      subst this
      rw [loopC_eq, he]
      simp only [runI]
      cases fin s <;> rfl
    | cons e t ih =>
      intro i s hd hi
      obtain ⟨h1, h2, h3⟩ := drop_head hd
      rw [loopC_eq, hb i e s h1]
      simp only [runI]
      cases g i s e with
      | none => rfl
      | some o =>
        cases o with
        | inr a => rfl
        | inl s' => exact ih (i + 1) s' h3 h2
  exact this l 0 s rfl (Nat.zero_le _)
theorem get_le {α : Type} {l : List α} {i : Nat} {e : α} (h : l[i]? = some e) : i < l.length := (List.getElem?_eq_some_iff.1 h).1
end Go.Proofs.YtcnohbiegjahkaaGreatDoor

/-
  Plain laws of the wire: tags, elements, segments.
-/
namespace Go.Proofs.YtcnohbiegjahkaaGreatDoor
set_option linter.unusedSimpArgs false
set_option linter.unusedVariables false
open Go.RowKit

/-- The first fault of a list. -/
def listF {α : Type} (h : α → Int) : List α → Int
  | [] => 0
  | e :: l => if h e = 0 then listF h l else h e
theorem loop_fault {α R : Type} (l : List α) (h : α → Int) (ret : Int → R) (k : Int → Option R) {f : Int → Option (Int ⊕ (Int ⊕ R))}
    (hb : ∀ (i : Nat) (e : α), l[i]? = some e → f (i : Int) = if h e = 0 then some (.inl ((i + 1 : Nat) : Int)) else some (.inr (.inr (ret (h e)))))
    (he : f (l.length : Int) = some (.inr (.inl (l.length : Int)))) : (loopC f 0).bind (outK k) = if listF h l = 0 then k (l.length : Int) else some (ret (listF h l)) := by
  have : ∀ (t : List α) (i : Nat), l.drop i = t → i ≤ l.length → loopC f (i : Int) = if listF h t = 0 then some (.inl (l.length : Int)) else some (.inr (ret (listF h t))) := by
    intro t
    induction t with
    | nil =>
      intro i hd hi
      have := drop_nil_len hd hi
      subst this
      rw [loopC_eq, he]
      rfl
    | cons e t ih =>
      intro i hd hi
      obtain ⟨h1, h2, h3⟩ := drop_head hd
      rw [loopC_eq, hb i e h1]
      by_cases h0 : h e = 0
      · simp only [listF, h0, if_true]; exact ih (i + 1) h3 h2
      · simp only [listF, h0, if_false]
  have e0 : loopC f 0 = if listF h l = 0 then some (.inl (l.length : Int)) else some (.inr (ret (listF h l))) := this l 0 rfl (Nat.zero_le _)
  rw [e0]
  by_cases h0 : listF h l = 0
  · rw [if_pos h0, if_pos h0]; rfl
  · rw [if_neg h0, if_neg h0]; rfl
theorem listF_zero {α : Type} {h : α → Int} : ∀ {l : List α}, listF h l = 0 → ∀ e ∈ l, h e = 0
  | [], _, e, he => by cases he
  | x :: l, hl, e, he => by
    simp only [listF] at hl
    split at hl
    · rename_i h0
      rcases List.mem_cons.1 he with rfl | he
      · exact h0
      · exact listF_zero hl e he
    · rename_i h0; exact absurd hl h0

/-! ### Elements -/
def repF (l : List (List UInt8)) : Int := if l.length = 0 then 9 else if 20 < l.length then 2 else listF textF l
def elemF (e : Tapi_Element) : Int := if e.fRepeats.length = 0 then 9 else if 20 < e.fRepeats.length then 2 else listF repF e.fRepeats
theorem w_elem (e : Tapi_Element) : m_wire_elementFault e = some (elemF e) := by
  unfold m_wire_elementFault sims_G1_3_0; dsimp only
  unfold elemF
  by_cases h0 : e.fRepeats.length = 0
  · have c : decide ((e.fRepeats.length : Int) = 0) = true := decide_eq_true (by omega)
    simp only [c, cond_true, if_pos h0]
  · have d0 : decide ((e.fRepeats.length : Int) = 0) = false := decide_eq_false (by omega)
    by_cases h1 : 20 < e.fRepeats.length
    · have d1 : decide ((20 : Int) < (e.fRepeats.length : Int)) = true := decide_eq_true (by omega)
      simp only [d0, d1, cond_true, cond_false, h0, h1, if_true, if_false]
    · have d1 : decide ((20 : Int) < (e.fRepeats.length : Int)) = false := decide_eq_false (by omega)
      simp only [d0, d1, cond_false, h0, h1, if_false]
      refine (loop_fault e.fRepeats repF (fun a => a) _ (fun i l he => ?_) ?_).trans ?_
      · have hi := get_le he
        simp only [lt_dec hi, cond_true, getI_nat, he, Option.bind_some, wrapN i (by omega), repF]
        by_cases g0 : l.length = 0
        · have c0 : decide ((l.length : Int) = 0) = true := decide_eq_true (by omega)
          simp only [c0, cond_true, if_pos g0]; rfl
        · have c0 : decide ((l.length : Int) = 0) = false := decide_eq_false (by omega)
          by_cases g1 : 20 < l.length
          · have c1 : decide ((20 : Int) < (l.length : Int)) = true := decide_eq_true (by omega)
            simp only [c0, c1, cond_true, cond_false, g0, g1, if_true, if_false]; rfl
          · have c1 : decide ((20 : Int) < (l.length : Int)) = false := decide_eq_false (by omega)
            simp only [c0, c1, cond_false, g0, g1, if_false]
            refine (loop_fault l textF (fun a => .inr (.inr a)) _ (fun j t ht => ?_) ?_).trans ?_
            · have hj := get_le ht
              simp only [lt_dec hj, cond_true, getI_nat, he, ht, Option.bind_some, wrapN j (by omega), w_text]
              by_cases hz : textF t = 0 <;> simp [hz, inrO]
            · simp only [getI_nat, he, Option.bind_some, lt_dec_self, cond_false]; rfl
            · split <;> rfl
      · simp only [lt_dec_self, cond_false]; rfl
      · split <;> simp_all
theorem r_elem (e : Tapi_Element) : m_interchangeref2_checkElement e = some (elemF e) := by
  unfold m_interchangeref2_checkElement sims_G1_1_0; dsimp only
  unfold elemF
  by_cases h0 : e.fRepeats.length = 0
  · have c : decide ((e.fRepeats.length : Int) = 0) = true := decide_eq_true (by omega)
    simp only [c, cond_true, if_pos h0]
  · have d0 : decide ((e.fRepeats.length : Int) = 0) = false := decide_eq_false (by omega)
    by_cases h1 : 20 < e.fRepeats.length
    · have d1 : decide ((20 : Int) < (e.fRepeats.length : Int)) = true := decide_eq_true (by omega)
      simp only [d0, d1, cond_true, cond_false, h0, h1, if_true, if_false]
    · have d1 : decide ((20 : Int) < (e.fRepeats.length : Int)) = false := decide_eq_false (by omega)
      simp only [d0, d1, cond_false, h0, h1, if_false]
      refine (loop_fault e.fRepeats repF (fun a => a) _ (fun i l he => ?_) ?_).trans ?_
      · have hi := get_le he
        simp only [lt_dec hi, cond_true, getI_nat, he, Option.bind_some, wrapN i (by omega), repF]
        by_cases g0 : l.length = 0
        · have c0 : decide ((l.length : Int) = 0) = true := decide_eq_true (by omega)
          simp only [c0, cond_true, if_pos g0]; rfl
        · have c0 : decide ((l.length : Int) = 0) = false := decide_eq_false (by omega)
          by_cases g1 : 20 < l.length
          · have c1 : decide ((20 : Int) < (l.length : Int)) = true := decide_eq_true (by omega)
            simp only [c0, c1, cond_true, cond_false, g0, g1, if_true, if_false]; rfl
          · have c1 : decide ((20 : Int) < (l.length : Int)) = false := decide_eq_false (by omega)
            simp only [c0, c1, cond_false, g0, g1, if_false]
            refine (loop_fault l textF (fun a => .inr (.inr a)) _ (fun j t ht => ?_) ?_).trans ?_
            · have hj := get_le ht
              simp only [lt_dec hj, cond_true, getI_nat, he, ht, Option.bind_some, wrapN j (by omega), r_text]
              by_cases hz : textF t = 0 <;> simp [hz, inrO]
            · simp only [getI_nat, he, Option.bind_some, lt_dec_self, cond_false]; rfl
            · split <;> rfl
      · simp only [lt_dec_self, cond_false]; rfl
      · split <;> simp_all
/-! ### Tags -/
theorem dropWhile_nil {p : UInt8 → Bool} : ∀ {l : List UInt8}, l.dropWhile p = [] ↔ ∀ x ∈ l, p x = true
  | [] => by simp
  | a :: l => by
    rw [List.dropWhile_cons]
    by_cases h : p a = true
    · simp [h, dropWhile_nil (l := l)]
    · simp [h]
theorem dropWhile_head {p : UInt8 → Bool} {a : UInt8} {r : List UInt8} : ∀ {l : List UInt8}, l.dropWhile p = a :: r → p a = false
  | [], h => by simp at h
  | b :: l, h => by
    rw [List.dropWhile_cons] at h
    by_cases hp : p b = true
    · simp only [hp, if_true] at h; exact dropWhile_head h
    · simp only [hp] at h
      simp at h; rw [← h.1]; simpa using hp
theorem trim_nil (l cs : List UInt8) : Lib.trimS l cs = [] ↔ ∀ x ∈ l, cs.contains x = true := by
  unfold Lib.trimS Lib.trimLeftS Lib.trimRightS
  constructor
  · intro h
    have h1 : List.dropWhile (fun x => cs.contains x) l.reverse = [] := by
      cases hr : List.dropWhile (fun x => cs.contains x) l.reverse with
      | nil => rfl
      | cons a r =>
        exfalso
        have h2 := dropWhile_head hr
        rw [hr, dropWhile_nil] at h
        have h3 := h a (by simp)
        rw [h2] at h3; cases h3
    rw [dropWhile_nil] at h1
    intro x hx
    exact h1 x (by simpa using hx)
  · intro h
    have h1 : List.dropWhile (fun x => cs.contains x) l.reverse = [] := dropWhile_nil.2 fun x hx => h x (by simpa using hx)
    rw [h1]; rfl
def letB (b : UInt8) : Bool := decide (65 ≤ (b.toNat : Int)) && decide ((b.toNat : Int) ≤ 90)
def tagB (b : UInt8) : Bool := letB b || !(decide ((b.toNat : Int) < 48) || decide (57 < (b.toNat : Int)))
theorem tagB_all : (List.range 256).all (fun n => tagSet.contains (UInt8.ofNat n) == tagB (UInt8.ofNat n)) = true := by kernel_rfl
theorem tagB_eq (b : UInt8) : tagSet.contains b = tagB b := by
  have := List.all_eq_true.1 tagB_all b.toNat (List.mem_range.2 b.toNat_lt)
  have hb : UInt8.ofNat b.toNat = b := by simp
  rw [hb] at this
  simpa using this
def upper : List UInt8 := [65, 66, 67, 68, 69, 70, 71, 72, 73, 74, 75, 76, 77, 78, 79, 80, 81, 82, 83, 84, 85, 86, 87, 88, 89, 90]
theorem letB_all : (List.range 256).all (fun n => decide (0 ≤ Lib.indexByte upper (UInt8.ofNat n)) == letB (UInt8.ofNat n)) = true := by kernel_rfl
theorem letB_eq (b : UInt8) : decide (0 ≤ Lib.indexByte upper b) = letB b := by
  have := List.all_eq_true.1 letB_all b.toNat (List.mem_range.2 b.toNat_lt)
  have hb : UInt8.ofNat b.toNat = b := by simp
  rw [hb] at this
  simpa using this
theorem trim_tag (l : List UInt8) : decide (Lib.trimS l tagSet = []) = l.all tagB := by
  rw [Bool.eq_iff_iff, decide_eq_true_eq, trim_nil, List.all_eq_true]
  simp only [tagB_eq]
/-- A tag. -/
def tagF : List UInt8 → Bool
  | [] => false
  | b :: l => decide (1 ≤ l.length) && decide (l.length ≤ 5) && letB b && l.all tagB
theorem w_tag (l : List UInt8) (hl : l.length ≤ 9223372036854775807) : m_kit_IsTag l = some (tagF l) := by
  unfold m_kit_IsTag sims_G1_1_0; dsimp only
  cases l with
  | nil => rfl
  | cons b l =>
    have hg : getI (b :: l) 0 = some b := rfl
    have hi : m_strings_IndexByte upper b = some (Lib.indexByte upper b) := rfl
    have hu : ([65, 66, 67, 68, 69, 70, 71, 72, 73, 74, 75, 76, 77, 78, 79, 80, 81, 82, 83, 84, 85, 86, 87, 88, 89, 90] : List UInt8) = upper := rfl
    simp only [isTagPart_eq (b :: l) hl, trim_tag, hg, hu, hi, Option.bind_some, andO_some, letB_eq, tagF]
    have h1 : decide ((2 : Int) ≤ ((b :: l).length : Int)) = decide (1 ≤ l.length) := by simp only [List.length_cons]; congr 1; apply propext; omega
    have h2 : decide (((b :: l).length : Int) ≤ 6) = decide (l.length ≤ 5) := by simp only [List.length_cons]; congr 1; apply propext; omega
    rw [h1, h2]
    cases hb : letB b with
    | false => simp
    | true => simp [tagB, hb]
def tagI (i : Nat) (b : UInt8) : Bool := letB b || (decide (i ≠ 0) && tagB b)
theorem r_begins (l : List UInt8) (hl : l.length ≤ 9223372036854775807) : m_interchangeref2_beginsTag l = some ((match l with | [] => true | b :: l => letB b && l.all tagB) && decide (l.length ≤ 6)) := by
  unfold m_interchangeref2_beginsTag sims_G1_0_0; dsimp only
  have key := loop_runI (f := fun s => bif decide (s < (l.length : Int)) then (getI l s).bind fun e => (andO (decide (65 ≤ (e.toNat : Int))) ((getI l s).bind fun e => some (decide ((e.toNat : Int) ≤ 90)))).bind fun v => (andO (!v) ((orO (decide (s = 0)) ((getI l s).bind fun e => some (decide ((e.toNat : Int) < 48)))).bind fun v => (orO v ((getI l s).bind fun e => some (decide (57 < (e.toNat : Int))))).bind fun v => some v)).bind fun v => bif v then inrO (inrO (some false)) else some (Sum.inl (IntKind.i64.wrap (s + 1))) else inrO (some (Sum.inl s)))
    l (fun i (_ : Unit) => (i : Int)) (fun i _ e => if tagI i e = true then some (.inl ()) else some (.inr (.inr false))) (fun _ => some (Sum.inl (l.length : Int))) (fun i e s he => ?_) (fun s => ?_) ()
  · rw [show ((0 : Nat) : Int) = 0 from rfl] at key
    rw [key]
    have h2 : ∀ (t : List UInt8) (i : Nat), 0 < i → runI (fun i (_ : Unit) e => if tagI i e = true then some (.inl ()) else some (.inr (.inr false))) (fun _ => some (Sum.inl (l.length : Int))) t i () = if t.all tagB = true then some (Sum.inl (l.length : Int)) else some (.inr false) := by
      intro t
      induction t with
      | nil => intro i _; rfl
      | cons b t ih =>
        intro i hi
        simp only [runI]
        have : tagI i b = tagB b := by
          unfold tagI
          rw [decide_eq_true (show i ≠ 0 by omega), Bool.true_and]
          unfold tagB
          cases letB b <;> simp
        rw [this]
        cases hb : tagB b with
        | true => simp only [if_true, ih (i + 1) (by omega), List.all_cons, hb, Bool.true_and]
        | false => simp [hb]
    cases l with
    | nil => rfl
    | cons b l =>
      simp only [runI]
      have h3 : tagI 0 b = letB b := by unfold tagI; cases letB b <;> simp
      have h4 : decide (((b :: l).length : Int) ≤ 6) = decide ((b :: l).length ≤ 6) := by congr 1; apply propext; omega
      rw [h3]
      cases hb : letB b with
      | false => simp [outK, hb]
      | true =>
        simp only [if_true]
        rw [h2 l 1 (by omega)]
        cases hl : l.all tagB with
        | true => simp [outK, hb, h4]; omega
        | false => simp [outK, hb]
  · have hi := get_le he
    simp only [lt_dec hi, cond_true, getI_nat, he, Option.bind_some, andO_some, orO_some, wrapN i (by omega)]
    have h0 : decide ((i : Int) = 0) = decide (i = 0) := by congr 1; apply propext; omega
    have h1 : (!(decide (65 ≤ (e.toNat : Int)) && decide ((e.toNat : Int) ≤ 90)) && (decide ((i : Int) = 0) || decide ((e.toNat : Int) < 48) || decide (57 < (e.toNat : Int)))) = !tagI i e := by
      rw [h0]
      unfold tagI tagB letB
      cases decide (65 ≤ (e.toNat : Int)) <;> cases decide ((e.toNat : Int) ≤ 90) <;> by_cases hi0 : i = 0 <;> simp [hi0]
    rw [h1]
    cases tagI i e <;> rfl
  · simp only [lt_dec_self, cond_false]; rfl
theorem r_tag (l : List UInt8) (hl : l.length ≤ 9223372036854775807) : m_interchangeref2_IsTag l = some (tagF l) := by
  unfold m_interchangeref2_IsTag sims_G1_1_0; dsimp only
  simp only [r_begins l hl, Option.bind_some, andO_some]
  cases l with
  | nil => rfl
  | cons b l =>
    have h1 : decide ((2 : Int) ≤ ((b :: l).length : Int)) = decide (1 ≤ l.length) := by simp only [List.length_cons]; congr 1; apply propext; omega
    have h2 : decide ((b :: l).length ≤ 6) = decide (l.length ≤ 5) := by simp only [List.length_cons]; congr 1; apply propext; omega
    rw [h1, h2]
    simp only [tagF]
    cases letB b <;> cases l.all tagB <;> simp
/-! ### Segments -/
def segF (s : Tapi_Segment) : Int := if tagF s.fTag = false then 5 else if 50 < s.fElements.length then 2 else listF elemF s.fElements
def segsF (l : List Tapi_Segment) : Int := if 2000 < l.length then 2 else listF segF l
/-- The strings that any machine has. -/
def TagsShort (l : List Tapi_Segment) : Prop := ∀ s ∈ l, s.fTag.length ≤ 9223372036854775807
theorem r_one (s : Tapi_Segment) (hs : s.fTag.length ≤ 9223372036854775807) : m_interchangeref2_CheckOne s = some (segF s) := by
  unfold m_interchangeref2_CheckOne sims_G1_2_0; dsimp only
  unfold segF
  rw [r_tag s.fTag hs]
  simp only [Option.bind_some]
  cases ht : tagF s.fTag with
  | false => simp
  | true =>
    simp only [Bool.not_true, cond_false, Bool.true_eq_false, if_false]
    by_cases h1 : 50 < s.fElements.length
    · have d1 : decide ((50 : Int) < (s.fElements.length : Int)) = true := decide_eq_true (by omega)
      simp only [d1, cond_true, h1, if_true]
    · have d1 : decide ((50 : Int) < (s.fElements.length : Int)) = false := decide_eq_false (by omega)
      simp only [d1, cond_false, h1, if_false]
      refine (loop_fault s.fElements elemF (fun a => a) _ (fun i e he => ?_) ?_).trans ?_
      · have hi := get_le he
        simp only [lt_dec hi, cond_true, getI_nat, he, Option.bind_some, wrapN i (by omega), r_elem]
        by_cases hz : elemF e = 0 <;> simp [hz, inrO]
      · simp only [lt_dec_self, cond_false]; rfl
      · split <;> simp_all
theorem r_segs (l : List Tapi_Segment) (hs : TagsShort l) : m_interchangeref2_CheckSegments l = some (segsF l) := by
  unfold m_interchangeref2_CheckSegments sims_G1_3_0; dsimp only
  unfold segsF
  by_cases h1 : 2000 < l.length
  · have d1 : decide ((2000 : Int) < (l.length : Int)) = true := decide_eq_true (by omega)
    simp only [d1, cond_true, h1, if_true]
  · have d1 : decide ((2000 : Int) < (l.length : Int)) = false := decide_eq_false (by omega)
    simp only [d1, cond_false, h1, if_false]
    refine (loop_fault l segF (fun a => a) _ (fun i e he => ?_) ?_).trans ?_
    · have hi := get_le he
      simp only [lt_dec hi, cond_true, getI_nat, he, Option.bind_some, wrapN i (by omega), r_one e (hs e (List.mem_of_getElem? he))]
      by_cases hz : segF e = 0 <;> simp [hz, inrO]
    · simp only [lt_dec_self, cond_false]; rfl
    · split <;> simp_all
theorem w_segs (l : List Tapi_Segment) (hs : TagsShort l) : m_wire_CheckSegments l = some (segsF l) := by
  unfold m_wire_CheckSegments sims_G1_4_0; dsimp only
  unfold segsF
  by_cases h1 : 2000 < l.length
  · have d1 : decide ((2000 : Int) < (l.length : Int)) = true := decide_eq_true (by omega)
    simp only [d1, cond_true, h1, if_true]
  · have d1 : decide ((2000 : Int) < (l.length : Int)) = false := decide_eq_false (by omega)
    simp only [d1, cond_false, h1, if_false]
    refine (loop_fault l segF (fun a => a) _ (fun i s hes => ?_) ?_).trans ?_
    · have hi := get_le hes
      have hst := hs s (List.mem_of_getElem? hes)
      simp only [lt_dec hi, cond_true, getI_nat, hes, Option.bind_some, wrapN i (by omega), w_tag s.fTag (by omega), segF]
      by_cases ht : tagF s.fTag = false
      · simp [ht, inrO]
      · replace ht : tagF s.fTag = true := by simpa using ht
        simp only [ht, Bool.not_true, cond_false, Bool.true_eq_false, if_false]
        by_cases h1 : 50 < s.fElements.length
        · have d1 : decide ((50 : Int) < (s.fElements.length : Int)) = true := decide_eq_true (by omega)
          simp only [d1, cond_true, h1, if_true]; rfl
        · have d1 : decide ((50 : Int) < (s.fElements.length : Int)) = false := decide_eq_false (by omega)
          simp only [d1, cond_false, h1, if_false]
          refine (loop_fault s.fElements elemF (fun a => .inr (.inr a)) _ (fun i e he => ?_) ?_).trans ?_
          · have hi := get_le he
            simp only [lt_dec hi, cond_true, getI_nat, he, Option.bind_some, wrapN i (by omega), w_elem]
            by_cases hz : elemF e = 0 <;> simp [hz, inrO]
          · simp only [lt_dec_self, cond_false]; rfl
          · split <;> rfl
    · simp only [lt_dec_self, cond_false]; rfl
    · split <;> simp_all
end Go.Proofs.YtcnohbiegjahkaaGreatDoor




/-
  Plain laws: numbers, references, and the checks of a book.
-/
namespace Go.Proofs.YtcnohbiegjahkaaGreatDoor
set_option linter.unusedSimpArgs false
set_option linter.unusedVariables false
open Go.RowKit

def outside (n lo hi : Int) : Bool := decide (n < lo) || decide (hi < n)
/-! ### References -/
def refSet : List UInt8 := [65, 66, 67, 68, 69, 70, 71, 72, 73, 74, 75, 76, 77, 78, 79, 80, 81, 82, 83, 84, 85, 86, 87, 88, 89, 90, 48, 49, 50, 51, 52, 53, 54, 55, 56, 57, 45]
theorem dropWhile_nilP {p : UInt8 → Bool} : ∀ {l : List UInt8}, l.dropWhile p = [] ↔ ∀ x ∈ l, p x = true
  | [] => by simp
  | a :: l => by
    rw [List.dropWhile_cons]
    by_cases h : p a = true
    · simp [h, dropWhile_nilP (l := l)]
    · simp [h]
theorem dropWhile_headP {p : UInt8 → Bool} {a : UInt8} {r : List UInt8} : ∀ {l : List UInt8}, l.dropWhile p = a :: r → p a = false
  | [], h => by simp at h
  | b :: l, h => by
    rw [List.dropWhile_cons] at h
    by_cases hp : p b = true
    · simp only [hp, if_true] at h; exact dropWhile_headP h
    · simp only [hp] at h
      simp at h; rw [← h.1]; simpa using hp
theorem trim_nilP (l cs : List UInt8) : Lib.trimS l cs = [] ↔ ∀ x ∈ l, cs.contains x = true := by
  unfold Lib.trimS Lib.trimLeftS Lib.trimRightS
  constructor
  · intro h
    have h1 : List.dropWhile (fun x => cs.contains x) l.reverse = [] := by
      cases hr : List.dropWhile (fun x => cs.contains x) l.reverse with
      | nil => rfl
      | cons a r =>
        exfalso
        have h2 := dropWhile_headP hr
        rw [hr, dropWhile_nilP] at h
        have h3 := h a (by simp)
        rw [h2] at h3; cases h3
    rw [dropWhile_nilP] at h1
    intro x hx
    exact h1 x (by simpa using hx)
  · intro h
    have h1 : List.dropWhile (fun x => cs.contains x) l.reverse = [] := dropWhile_nilP.2 fun x hx => h x (by simpa using hx)
    rw [h1]; rfl
def refByte (b : UInt8) : Bool := refSet.contains b
def isRef (s : List UInt8) : Bool := decide (1 ≤ s.length ∧ s.length ≤ 14) && s.all refByte
theorem trim_all (s : List UInt8) : decide (Lib.trimS s refSet = []) = s.all refByte := by
  rw [Bool.eq_iff_iff, decide_eq_true_eq, trim_nilP, List.all_eq_true]; rfl
theorem refByte_eq (b : UInt8) : refByte b = decide ((65 ≤ b.toNat ∧ b.toNat ≤ 90) ∨ (48 ≤ b.toNat ∧ b.toNat ≤ 57) ∨ b.toNat = 45) := by
  have h : ∀ n, n < 256 → refByte (UInt8.ofNat n) = decide ((65 ≤ n ∧ n ≤ 90) ∨ (48 ≤ n ∧ n ≤ 57) ∨ n = 45) := by decide +kernel
  have := h b.toNat b.toNat_lt
  simpa using this
theorem trim_eq (s : List UInt8) (hs : s.length ≤ 9223372036854775807) : m_strings_Trim s refSet = some (Lib.trimS s refSet) := by
  unfold m_strings_Trim
  rw [if_pos ⟨hs, by decide, by decide⟩]
theorem isRef_eq (s : List UInt8) (hs : s.length ≤ 9223372036854775807) : m_kit_IsRef s = some (isRef s) := by
  have ht := trim_eq s hs
  have ha := trim_all s
  unfold refSet at ht ha
  unfold m_kit_IsRef sims_GA_0_0; dsimp only
  simp only [ht, Option.bind_some, ha, andO_some]
  congr 1; unfold isRef
  rw [Bool.eq_iff_iff]; simp; omega
theorem all_take_succ {p : UInt8 → Bool} {l : List UInt8} {i : Nat} {b : UInt8} (hb : l[i]? = some b) (h : (l.take i).all p = true) (hp : p b = true) : (l.take (i + 1)).all p = true := by
  rw [List.take_add_one, hb]; simp only [Option.toList_some, List.all_append, h, List.all_cons, hp]; rfl
theorem all_not {p : UInt8 → Bool} {l : List UInt8} {i : Nat} {b : UInt8} (hb : l[i]? = some b) (hp : p b = false) : l.all p = false := by
  rw [List.all_eq_false]; exact ⟨b, List.mem_of_getElem? hb, by simp [hp]⟩
theorem isReference_eq (s : List UInt8) (hs : s.length ≤ 9223372036854775807) : m_interchangeref2_IsReference s = some (isRef s) := by
  unfold m_interchangeref2_IsReference sims_GA2_0_0; dsimp only
  generalize hf : (fun s_1 : Int => _) = f
  obtain ⟨a, ha, hp⟩ := loopC_inv (f := f) (fun i => ∃ k : Nat, i = k ∧ k ≤ s.length ∧ (s.take k).all refByte = true) (fun i => (s.length - i).toNat)
    (fun o => match o with | .inl _ => s.all refByte = true | .inr b => b = false ∧ s.all refByte = false) (s := 0) (by
      rintro _ ⟨k, rfl, hk, hall⟩
      subst hf
      by_cases hlt : k < s.length
      · obtain ⟨c, hc⟩ : ∃ c, s[k]? = some c := ⟨_, List.getElem?_eq_getElem hlt⟩
        have hb := refByte_eq c
        have hd : decide ((k : Int) < s.length) = true := by simpa using hlt
        simp only [hd, cond_true, getI_nat, hc, Option.bind_some, andO_some, orO_some]
        cases hr : refByte c with
        | true =>
          refine .inl ⟨((k + 1 : Nat) : Int), ?_, ⟨k + 1, rfl, hlt, all_take_succ hc hall hr⟩, by omega⟩
          rw [hr] at hb
          rw [wrapN k (by omega)]
          have : (!(decide (65 ≤ (c.toNat : Int)) && decide ((c.toNat : Int) ≤ 90) || decide (48 ≤ (c.toNat : Int)) && decide ((c.toNat : Int) ≤ 57) || decide ((c.toNat : Int) = 45))) = false := by
            simp at hb ⊢; omega
          rw [this]; rfl
        | false =>
          refine .inr ⟨.inr false, ?_, rfl, all_not hc hr⟩
          rw [hr] at hb
          have : (!(decide (65 ≤ (c.toNat : Int)) && decide ((c.toNat : Int) ≤ 90) || decide (48 ≤ (c.toNat : Int)) && decide ((c.toNat : Int) ≤ 57) || decide ((c.toNat : Int) = 45))) = true := by
            simp at hb ⊢; omega
          rw [this]; rfl
      · have hd : decide ((k : Int) < s.length) = false := by simpa using hlt
        refine .inr ⟨.inl k, ?_, ?_⟩
        · simp only [hd, cond_false]; rfl
        · rw [List.take_of_length_le (by omega)] at hall; exact hall) ⟨0, rfl, by omega, by simp⟩
  rw [ha]
  cases a with
  | inl i =>
    simp only [Option.bind_some, outK, andO_some, isRef, hp, Bool.and_true]
    congr 1; rw [Bool.eq_iff_iff]; cases s <;> simp <;> omega
  | inr b => obtain ⟨rfl, h⟩ := hp; simp only [Option.bind_some, outK, isRef, h, Bool.and_false]
end Go.Proofs.YtcnohbiegjahkaaGreatDoor

/-
  Plain laws: the checks of a book.
-/
namespace Go.Proofs.YtcnohbiegjahkaaGreatDoor
set_option linter.unusedSimpArgs false
set_option linter.unusedVariables false
open Go.RowKit

theorem sliceI_take {α : Type} (l : List α) (n : Nat) (h : n ≤ l.length) : sliceI l 0 (n : Int) = some (l.take n) := by
  unfold sliceI
  rw [if_pos (by omega)]; simp
end Go.Proofs.YtcnohbiegjahkaaGreatDoor

/-
  Plain laws: names, and loops that end at the first fault.
-/
namespace Go.Proofs.YtcnohbiegjahkaaGreatDoor
set_option linter.unusedSimpArgs false
set_option linter.unusedVariables false
open Go.RowKit

abbrev MX : Nat := 9223372036854775807
/-! ### Loops that end at the first fault -/
/-! ### Names -/
def lowB (b : UInt8) : Bool := decide (97 ≤ (b.toNat : Int)) && decide ((b.toNat : Int) ≤ 122)
def nameB (b : UInt8) : Bool := lowB b || (decide ((b.toNat : Int) = 45) || (decide (48 ≤ (b.toNat : Int)) && decide ((b.toNat : Int) ≤ 57)))
def nameSet : List UInt8 := [97, 98, 99, 100, 101, 102, 103, 104, 105, 106, 107, 108, 109, 110, 111, 112, 113, 114, 115, 116, 117, 118, 119, 120, 121, 122, 48, 49, 50, 51, 52, 53, 54, 55, 56, 57, 45]
theorem nameB_all : (List.range 256).all (fun n => nameSet.contains (UInt8.ofNat n) == nameB (UInt8.ofNat n)) = true := by decide +kernel
theorem nameB_eq (b : UInt8) : nameSet.contains b = nameB b := by
  have := List.all_eq_true.1 nameB_all b.toNat (List.mem_range.2 b.toNat_lt)
  have hb : UInt8.ofNat b.toNat = b := by simp
  rw [hb] at this
  simpa using this
theorem trim_name (l : List UInt8) : decide (Lib.trimS l nameSet = []) = l.all nameB := by
  rw [Bool.eq_iff_iff, decide_eq_true_eq, trim_nil, List.all_eq_true]
  simp only [nameB_eq]
/-- A name. -/
def nameF : List UInt8 → Bool
  | [] => false
  | b :: l => decide (l.length ≤ 39) && lowB b && l.all nameB
theorem w_name (l : List UInt8) (hl : l.length ≤ MX) : m_kit_IsName l = some (nameF l) := by
  have ht : m_strings_Trim l nameSet = some (Lib.trimS l nameSet) := by
    unfold m_strings_Trim
    rw [if_pos ⟨hl, by decide, by decide⟩]
  have hu : ([97, 98, 99, 100, 101, 102, 103, 104, 105, 106, 107, 108, 109, 110, 111, 112, 113, 114, 115, 116, 117, 118, 119, 120, 121, 122, 48, 49, 50, 51, 52, 53, 54, 55, 56, 57, 45] : List UInt8) = nameSet := rfl
  unfold m_kit_IsName sims_GA_0_0; dsimp only
  rw [hu]
  cases l with
  | nil => rfl
  | cons b l =>
    have hg : getI (b :: l) 0 = some b := rfl
    simp only [hg, Option.bind_some, orO_some, ht, trim_name, nameF]
    have h1 : decide (((b :: l).length : Int) < 1) = false := by simp only [List.length_cons]; apply decide_eq_false; omega
    have h2 : decide (40 < ((b :: l).length : Int)) = !decide (l.length ≤ 39) := by simp only [List.length_cons]; rw [Bool.eq_iff_iff]; simp <;> omega
    have h3 : (decide ((b.toNat : Int) < 97) || decide (122 < (b.toNat : Int))) = !lowB b := by unfold lowB; rw [Bool.eq_iff_iff]; simp
    rw [h1, h2, Bool.false_or, Bool.or_assoc, h3]
    cases hb : lowB b with
    | false => simp
    | true => cases decide (l.length ≤ 39) <;> simp [nameB, hb]
def nameI (i : Nat) (b : UInt8) : Bool := lowB b || (decide (i ≠ 0) && nameB b)
theorem r_name (l : List UInt8) (hl : l.length ≤ MX) : m_interchangeref2_IsName l = some (nameF l) := by
  unfold MX at hl
  unfold m_interchangeref2_IsName sims_GA2_0_0; dsimp only
  generalize hf : (fun s : Int => _) = f
  have key := loop_runI (f := f) l (fun i (_ : Unit) => (i : Int)) (fun i _ e => if nameI i e = true then some (.inl ()) else some (.inr (.inr false))) (fun _ => some (Sum.inl (l.length : Int))) (fun i e s he => by
    subst hf
    have hi := get_le he
    simp only [lt_dec hi, cond_true, getI_nat, he, Option.bind_some, andO_some, orO_some, wrapN i (by omega)]
    have h0 : decide ((i : Int) = 0) = decide (i = 0) := by congr 1; apply propext; omega
    have h1 : (!(decide (97 ≤ (e.toNat : Int)) && decide ((e.toNat : Int) ≤ 122)) && (decide ((i : Int) = 0) || (!decide ((e.toNat : Int) = 45) && !(decide (48 ≤ (e.toNat : Int)) && decide ((e.toNat : Int) ≤ 57))))) = !nameI i e := by
      rw [h0]
      unfold nameI nameB lowB
      cases decide (97 ≤ (e.toNat : Int)) <;> cases decide ((e.toNat : Int) ≤ 122) <;> by_cases hi0 : i = 0 <;> simp [hi0]
    rw [h1]
    cases nameI i e <;> rfl) (fun s => by
    subst hf
    simp only [lt_dec_self, cond_false]; rfl) ()
  rw [show ((0 : Nat) : Int) = 0 from rfl] at key
  rw [key]
  have h2 : ∀ (t : List UInt8) (i : Nat), 0 < i → runI (fun i (_ : Unit) e => if nameI i e = true then some (.inl ()) else some (.inr (.inr false))) (fun _ => some (Sum.inl (l.length : Int))) t i () = if t.all nameB = true then some (.inl (l.length : Int)) else some (.inr false) := by
    intro t
    induction t with
    | nil => intro i _; rfl
    | cons b t ih =>
      intro i hi
      simp only [runI]
      have : nameI i b = nameB b := by
        unfold nameI
        rw [decide_eq_true (show i ≠ 0 by omega), Bool.true_and]
        unfold nameB
        cases lowB b <;> simp
      rw [this]
      cases hb : nameB b with
      | true => simp only [if_true, ih (i + 1) (by omega), List.all_cons, hb, Bool.true_and]
      | false => simp [hb]
  cases l with
  | nil => rfl
  | cons b l =>
    simp only [runI]
    have h3 : nameI 0 b = lowB b := by unfold nameI; cases lowB b <;> simp
    have h4 : decide (((b :: l).length : Int) ≤ 40) = decide (l.length ≤ 39) := by simp only [List.length_cons]; rw [Bool.eq_iff_iff]; simp; omega
    rw [h3]
    cases hb : lowB b with
    | false => simp [outK, hb, nameF]
    | true =>
      simp only [if_true]
      rw [h2 l 1 (by omega)]
      cases hl : l.all nameB with
      | true => simp [outK, hb, hl, nameF, andO_some]; try omega
      | false => simp [outK, hb, hl, nameF]
end Go.Proofs.YtcnohbiegjahkaaGreatDoor

/-
  Plain laws: loops whose invariant says what comes out.
-/
namespace Go.Proofs.YtcnohbiegjahkaaGreatDoor
set_option linter.unusedSimpArgs false
set_option linter.unusedVariables false
open Go.RowKit

theorem loop_to {X S A R : Type} {f : S → Option (S ⊕ A)} {k : A → Option R} {c : Option R} (st : X → S) (μ : X → Nat) (P : X → Prop)
    (h : ∀ x, P x → (∃ y, P y ∧ μ y < μ x ∧ f (st x) = some (.inl (st y))) ∨ (∃ a, f (st x) = some (.inr a) ∧ k a = c)) (x : X) (hx : P x) : (loopC f (st x)).bind k = c := by
  have : ∀ n x, μ x ≤ n → P x → (loopC f (st x)).bind k = c := by
    intro n
    induction n with
    | zero =>
      intro x hn hx
      rcases h x hx with ⟨y, _, h2, _⟩ | ⟨a, h1, h2⟩
      · omega
      · rw [loopC_eq, h1]; exact h2
    | succ n ih =>
      intro x hn hx
      rcases h x hx with ⟨y, h1, h2, h3⟩ | ⟨a, h1, h2⟩
      · rw [loopC_eq, h3]; exact ih y (by omega) h1
      · rw [loopC_eq, h1]; exact h2
  exact this (μ x) x (Nat.le_refl _) hx
theorem loop_to' {X S A R : Type} {f : S → Option (S ⊕ A)} {k : A → Option R} {C : R → Prop} (st : X → S) (μ : X → Nat) (P : X → Prop)
    (h : ∀ x, P x → (∃ y, P y ∧ μ y < μ x ∧ f (st x) = some (.inl (st y))) ∨ (∃ a c, f (st x) = some (.inr a) ∧ k a = some c ∧ C c)) (x : X) (hx : P x) : ∃ c, (loopC f (st x)).bind k = some c ∧ C c := by
  have : ∀ n x, μ x ≤ n → P x → ∃ c, (loopC f (st x)).bind k = some c ∧ C c := by
    intro n
    induction n with
    | zero =>
      intro x hn hx
      rcases h x hx with ⟨y, _, h2, _⟩ | ⟨a, c, h1, h2, h3⟩
      · omega
      · rw [loopC_eq, h1]; exact ⟨c, h2, h3⟩
    | succ n ih =>
      intro x hn hx
      rcases h x hx with ⟨y, h1, h2, h3⟩ | ⟨a, c, h1, h2, h3⟩
      · rw [loopC_eq, h3]; exact ih y (by omega) h1
      · rw [loopC_eq, h1]; exact ⟨c, h2, h3⟩
  exact this (μ x) x (Nat.le_refl _) hx
theorem loop_allV {α R : Type} (l : List α) (q : α → Bool) (a : R) {f : Int → Option (Int ⊕ (Int ⊕ R))} {K : Int → Option R}
    (hb : ∀ (i : Nat) (e : α), l[i]? = some e → f (i : Int) = if q e = true then some (.inl ((i + 1 : Nat) : Int)) else some (.inr (.inr a))) (he : f (l.length : Int) = some (.inr (.inl (l.length : Int)))) :
    (loopC f 0).bind (outK K) = if l.all q = true then K (l.length : Int) else some a := by
  refine loop_to (X := Nat) (fun i => ((i : Nat) : Int)) (fun i => l.length - i) (fun i => i ≤ l.length ∧ (l.take i).all q = true) ?_ 0 ⟨Nat.zero_le _, rfl⟩
  rintro i ⟨h1, h2⟩
  rcases Nat.lt_or_ge i l.length with hi | hi
  · obtain ⟨e, hx⟩ := get_lt hi
    cases hq : q e with
    | true =>
      refine .inl ⟨i + 1, ⟨hi, ?_⟩, by omega, by rw [hb i e hx, hq]; rfl⟩
      rw [take_snoc hx, List.all_append, h2]
      simp [hq]
    | false =>
      refine .inr ⟨_, by rw [hb i e hx, hq]; rfl, ?_⟩
      have : l.all q = false := by
        rw [List.all_eq_false]
        exact ⟨e, List.mem_of_getElem? hx, by rw [hq]; decide⟩
      rw [this]; rfl
  · have hl : i = l.length := by omega
    subst hl
    rw [List.take_length] at h2
    refine .inr ⟨_, he, ?_⟩
    rw [h2]; rfl
theorem getI_last {α : Type} (l : List α) (x : α) (h : l.length < 9223372036854775807) : getI (l ++ [x]) (IntKind.i64.wrap (((l ++ [x]).length : Int) - 1)) = some x ∧ (IntKind.i64.wrap (((l ++ [x]).length : Int) - 1)).toNat = l.length := by
  have e : IntKind.i64.wrap (((l ++ [x]).length : Int) - 1) = ((l.length : Nat) : Int) := by
    rw [List.length_append, List.length_singleton, wrap64 _ (by omega) (by omega)]; omega
  rw [e, getI_nat, List.getElem?_append_right (Nat.le_refl _), Nat.sub_self]
  exact ⟨rfl, by omega⟩
end Go.Proofs.YtcnohbiegjahkaaGreatDoor

/-
  Plain laws of the audit: numbers, the texts of a segment, the form of a head.
-/
namespace Go.Proofs.YtcnohbiegjahkaaGreatDoor
set_option linter.unusedSimpArgs false
set_option linter.unusedVariables false
open Go.RowKit

def isD (b : UInt8) : Bool := !(decide ((b.toNat : Int) < 48) || decide (57 < (b.toNat : Int)))
theorem isD_iff (b : UInt8) : isD b = true ↔ 48 ≤ b.toNat ∧ b.toNat ≤ 57 := by
  unfold isD
  simp only [Bool.not_eq_true', Bool.or_eq_false_iff, decide_eq_false_iff_not]
  omega
def h48 : List UInt8 → Bool
  | b :: _ => decide ((b.toNat : Int) = 48)
  | [] => false
def numOk (l : List UInt8) : Bool := !decide (l = []) && !decide (9 < (l.length : Int)) && l.all isD && !(decide (1 < (l.length : Int)) && h48 l)
noncomputable def numV (l : List UInt8) : Int := (m_strconv_Atoi l).getD 0
theorem dec_some : ∀ (l : List UInt8) (a : Nat), l.all isD = true → ∃ n, Lib.decFrom a l = some n
  | [], a, _ => ⟨a, rfl⟩
  | b :: l, a, h => by
    simp only [List.all_cons, Bool.and_eq_true] at h
    obtain ⟨n, hn⟩ := dec_some l (a * 10 + (b.toNat - 48)) h.2
    refine ⟨n, ?_⟩
    unfold Lib.decFrom Lib.digitVal
    rw [if_pos ((isD_iff b).1 h.1)]
    exact hn
theorem atoi_nat {l : List UInt8} (h1 : l ≠ []) (h2 : l.length ≤ 18) (h3 : l.all isD = true) : ∃ n : Nat, m_strconv_Atoi l = some (n : Int) := by
  unfold m_strconv_Atoi
  rw [if_pos h2]
  cases l with
  | nil => exact absurd rfl h1
  | cons b r =>
    have hb := (isD_iff b).1 (by simp only [List.all_cons, Bool.and_eq_true] at h3; exact h3.1)
    obtain ⟨n, hn⟩ := dec_some (b :: r) 0 h3
    refine ⟨n, ?_⟩
    have e1 : (b == 45) = false := by rw [beq_eq_false_iff_ne]; rintro rfl; revert hb; decide
    have e2 : (b == 43) = false := by rw [beq_eq_false_iff_ne]; rintro rfl; revert hb; decide
    have e3 : Lib.decNat (b :: r) = some n := by unfold Lib.decNat; rw [if_neg (by simp)]; exact hn
    simp only [Lib.atoi, e1, e2, e3]
    rfl
theorem atoi_ok {l : List UInt8} (h1 : l ≠ []) (h2 : l.length ≤ 18) (h3 : l.all isD = true) : m_strconv_Atoi l = some (numV l) := by
  obtain ⟨n, hn⟩ := atoi_nat h1 h2 h3
  unfold numV
  rw [hn]; rfl
theorem numV_nonneg {l : List UInt8} (h : numOk l = true) : 0 ≤ numV l := by
  unfold numOk at h
  simp only [Bool.and_eq_true, Bool.not_eq_true', decide_eq_false_iff_not] at h
  obtain ⟨n, hn⟩ := atoi_nat h.1.1.1 (by omega) h.1.2
  unfold numV
  rw [hn]; simp
theorem decFrom_lt : ∀ (l : List UInt8) (a n : Nat), l.all isD = true → Lib.decFrom a l = some n → n < (a + 1) * 10 ^ l.length
  | [], a, n, _, h => by
    have : a = n := by simpa [Lib.decFrom] using h
    subst this
    simp
  | b :: l, a, n, h, hn => by
    simp only [List.all_cons, Bool.and_eq_true] at h
    unfold Lib.decFrom Lib.digitVal at hn
    rw [if_pos ((isD_iff b).1 h.1)] at hn
    have := decFrom_lt l (a * 10 + (b.toNat - 48)) n h.2 hn
    have hb := (isD_iff b).1 h.1
    refine Nat.lt_of_lt_of_le this ?_
    rw [List.length_cons, Nat.pow_succ, Nat.mul_comm (10 ^ l.length) 10, ← Nat.mul_assoc]
    exact Nat.mul_le_mul_right _ (by omega)
theorem numV_le {l : List UInt8} (h : numOk l = true) : numV l ≤ 999999999 := by
  unfold numOk at h
  simp only [Bool.and_eq_true, Bool.not_eq_true', decide_eq_false_iff_not] at h
  obtain ⟨⟨⟨h1, h2⟩, h3⟩, -⟩ := h
  unfold numV m_strconv_Atoi
  rw [if_pos (by omega)]
  cases l with
  | nil => exact absurd rfl h1
  | cons b r =>
    have hb := (isD_iff b).1 (by simp only [List.all_cons, Bool.and_eq_true] at h3; exact h3.1)
    obtain ⟨n, hn⟩ := dec_some (b :: r) 0 h3
    have hlt := decFrom_lt (b :: r) 0 n h3 hn
    have hp : 10 ^ (b :: r).length ≤ 10 ^ 9 := Nat.pow_le_pow_right (by decide) (by omega)
    have e1 : (b == 45) = false := by rw [beq_eq_false_iff_ne]; rintro rfl; revert hb; decide
    have e2 : (b == 43) = false := by rw [beq_eq_false_iff_ne]; rintro rfl; revert hb; decide
    have e3 : Lib.decNat (b :: r) = some n := by unfold Lib.decNat; rw [if_neg (by simp)]; exact hn
    simp only [Lib.atoi, e1, e2, e3]
    show ((n : Nat) : Int) ≤ 999999999
    have : (10 : Nat) ^ 9 = 1000000000 := by decide
    omega
theorem inb_dig (l : List UInt8) (hl : l.length ≤ MX) : m_kit_InBytes l (UInt8.ofNat (Int.toNat 48)) (UInt8.ofNat (Int.toNat 57)) = some (l.all isD) := by
  have a1 : ((UInt8.ofNat (Int.toNat 48)).toNat : Int) = 48 := by decide
  have a2 : ((UInt8.ofNat (Int.toNat 57)).toNat : Int) = 57 := by decide
  unfold MX at hl
  unfold m_kit_InBytes sims_G1_0_0; dsimp only
  refine (loop_allV l isD false (fun i e he => ?_) (by simp only [lt_dec_self, cond_false]; rfl)).trans ?_
  · have hi := get_le he
    simp only [lt_dec hi, cond_true, getI_nat, he, Option.bind_some, orO_some, wrapN i (by omega), a1, a2]
    unfold isD
    cases (decide ((e.toNat : Int) < 48) || decide (57 < (e.toNat : Int))) <;> rfl
  · cases l.all isD <;> rfl
theorem num_p (l : List UInt8) (hl : l.length ≤ MX) : m_kit_Number l 9 = some (if numOk l = true then (numV l, true) else (0, false)) := by
  have hd : m_kit_IsDigits l = some (!decide (l = []) && l.all isD) := by
    unfold m_kit_IsDigits sims_GA_0_0; dsimp only
    rw [inb_dig l hl]
    simp only [Option.bind_some, andO_some]
  unfold m_kit_Number sims_GA_1_0; dsimp only
  rw [hd]
  unfold numOk
  cases l with
  | nil => rfl
  | cons b r =>
    have hg : getI (b :: r) 0 = some b := rfl
    simp only [hg, Option.bind_some, orO_some, andO_some, h48, show decide (b :: r = []) = false from rfl, Bool.not_false, Bool.true_and]
    cases h1 : decide (9 < ((b :: r).length : Int)) with
    | true => rfl
    | false =>
    cases h2 : (b :: r).all isD with
    | false => rfl
    | true =>
    cases h3 : (decide (1 < ((b :: r).length : Int)) && decide ((b.toNat : Int) = 48)) with
    | true => rfl
    | false =>
      simp only [Bool.not_true, Bool.or_self, Bool.not_false, Bool.and_self, cond_false, if_true]
      rw [atoi_ok (by simp) (by have := of_decide_eq_false h1; omega) h2]
      rfl
theorem num_r (l : List UInt8) (most : Int) (hl : l.length ≤ MX) : m_interchangeref2_numbered l 9 most = some (if numOk l = true then (numV l, decide (numV l ≤ most)) else (0, false)) := by
  unfold MX at hl
  unfold m_interchangeref2_numbered sims_GA2_0_0; dsimp only
  unfold numOk
  cases l with
  | nil => rfl
  | cons b r =>
    have hg : getI (b :: r) 0 = some b := rfl
    simp only [hg, Option.bind_some, orO_some, andO_some, h48, show decide (b :: r = []) = false from rfl, Bool.not_false, Bool.true_and, Bool.false_or]
    cases h1 : decide (9 < ((b :: r).length : Int)) with
    | true => rfl
    | false =>
    cases h3 : (decide (1 < ((b :: r).length : Int)) && decide ((b.toNat : Int) = 48)) with
    | true => simp
    | false =>
      simp only [Bool.or_self, cond_false]
      refine (loop_allV (b :: r) isD (0, false) (fun i e he => ?_) (by simp only [lt_dec_self, cond_false]; rfl)).trans ?_
      · have hi := get_le he
        simp only [lt_dec hi, cond_true, getI_nat, he, Option.bind_some, orO_some, wrapN i (by omega)]
        unfold isD
        cases (decide ((e.toNat : Int) < 48) || decide (57 < (e.toNat : Int))) <;> rfl
      · cases h2 : (b :: r).all isD with
        | false => rfl
        | true =>
          simp only [if_true]
          rw [atoi_ok (by simp) (by have := of_decide_eq_false h1; omega) h2]
          rfl

/-! ### Texts of a segment -/
def single (e : Tapi_Element) : Bool := match e.fRepeats with | [[_]] => true | _ => false
def firstT (e : Tapi_Element) : List UInt8 := match e.fRepeats with | (t :: _) :: _ => t | _ => []
def ElOk (es : List Tapi_Element) : Prop := es.length ≤ 50 ∧ ∀ e ∈ es, elemF e = 0
theorem textF_len {t : List UInt8} (h : textF t = 0) : t.length ≤ 1000 := by
  unfold textF at h
  split at h
  · cases h
  · omega
theorem el_shape {e : Tapi_Element} (h : elemF e = 0) : ∃ t ts rs, e.fRepeats = (t :: ts) :: rs ∧ t.length ≤ 1000 := by
  unfold elemF at h
  split at h
  · cases h
  · split at h
    · cases h
    · cases hr : e.fRepeats with
      | nil => rename_i h1 _; rw [hr] at h1; exact absurd rfl h1
      | cons r rs =>
        rw [hr] at h
        have h1 := listF_zero h r (by simp)
        unfold repF at h1
        split at h1
        · cases h1
        · split at h1
          · cases h1
          · cases r with
            | nil => rename_i h2 _; exact absurd rfl h2
            | cons t ts => exact ⟨t, ts, rs, rfl, textF_len (listF_zero h1 t (by simp))⟩
theorem firstT_len {es : List Tapi_Element} (h : ElOk es) : ∀ t ∈ es.map firstT, t.length ≤ MX := by
  intro t ht
  obtain ⟨e, he, rfl⟩ := List.mem_map.1 ht
  obtain ⟨u, us, rs, hr, hl⟩ := el_shape (h.2 e he)
  unfold firstT MX
  rw [hr]; simp only; omega
/-- What the loops ask of an element. -/
theorem el_ask {e : Tapi_Element} (h : elemF e = 0) : ∃ r, getI e.fRepeats 0 = some r ∧ getI r 0 = some (firstT e) ∧ (decide ((e.fRepeats.length : Int) = 1) && decide ((r.length : Int) = 1)) = single e := by
  obtain ⟨t, ts, rs, hr, -⟩ := el_shape h
  refine ⟨t :: ts, by rw [hr]; rfl, by unfold firstT; rw [hr]; rfl, ?_⟩
  unfold single
  rw [hr]
  cases rs <;> cases ts <;> simp <;> omega
noncomputable def txW (es : List Tapi_Element) : List (List UInt8) × Bool := if es.all single = true then (es.map firstT, true) else ([], false)
theorem w_texts {es : List Tapi_Element} (tag : List UInt8) (h : ElOk es) : m_wire_texts ⟨tag, es⟩ = some (txW es) := by
  unfold m_wire_texts sims_GA_0_0; dsimp only
  unfold txW
  have key := loop_to (X := Nat) (k := outK fun s => some (s.1, true)) (c := some (if es.all single = true then (es.map firstT, true) else ([], false)))
    (f := fun s : List (List UInt8) × Int => bif decide (s.2 < (es.length : Int)) then (getI es s.2).bind fun e => (orO (!decide ((e.fRepeats.length : Int) = 1)) ((getI e.fRepeats 0).bind fun e => some !decide ((e.length : Int) = 1))).bind fun v =>
      bif v then inrO (inrO (some ([], false))) else (getI e.fRepeats 0).bind fun e => (getI e 0).bind fun e => thenO (lenO (s.1.length + [e].length)) (some (.inl (s.1 ++ [e], IntKind.i64.wrap (s.2 + 1)))) else inrO (some (.inl (s.1, s.2))))
    (fun i => ((es.take i).map firstT, (i : Int))) (fun i => es.length - i) (fun i => i ≤ es.length ∧ (es.take i).all single = true) (by
    rintro i ⟨hi, hs⟩
    rcases Nat.lt_or_ge i es.length with h1 | h1
    · obtain ⟨e, he⟩ := get_lt h1
      have hm := h.2 e (List.mem_of_getElem? he)
      obtain ⟨r, r1, r2, r3⟩ := el_ask hm
      have hl : lenO (((es.take i).map firstT).length + [firstT e].length) = some () := by
        unfold lenO
        have := h.1
        rw [if_pos (by simp only [List.length_map, List.length_take, List.length_cons, List.length_nil]; omega)]
      have hd : (!decide ((e.fRepeats.length : Int) = 1) || !decide ((r.length : Int) = 1)) = !single e := by rw [← r3, Bool.not_and]
      cases hsi : single e with
      | true =>
        refine .inl ⟨i + 1, ⟨h1, by rw [take_snoc he, List.all_append, hs]; simp [hsi]⟩, by omega, ?_⟩
        simp only [lt_dec h1, cond_true, getI_nat, he, Option.bind_some, r1, orO_some, hd, hsi, Bool.not_true, cond_false, r2, thenO, hl, wrapN i (by have := h.1; omega)]
        rw [take_snoc he, List.map_append]; rfl
      | false =>
        refine .inr ⟨.inr ([], false), ?_, ?_⟩
        · simp only [lt_dec h1, cond_true, getI_nat, he, Option.bind_some, r1, orO_some, hd, hsi, Bool.not_false, cond_true]
          rfl
        · have : es.all single = false := by
            rw [List.all_eq_false]
            exact ⟨e, List.mem_of_getElem? he, by simp [hsi]⟩
          rw [this]; rfl
    · have : i = es.length := by omega
      subst this
      refine .inr ⟨.inl (es.map firstT, (es.length : Int)), ?_, ?_⟩
      · simp only [lt_dec_self, cond_false, List.take_length]; rfl
      · rw [List.take_length] at hs
        rw [hs]; rfl) 0 ⟨Nat.zero_le _, rfl⟩
  exact key
theorem r_texts {es : List Tapi_Element} (tag : List UInt8) (h : ElOk es) : m_interchangeref2_texts ⟨tag, es⟩ = some (es.map firstT, es.all single) := by
  unfold m_interchangeref2_texts sims_GA2_0_0; dsimp only
  have key := loop_to (X := Nat) (k := outK fun s : List (List UInt8) × Bool × Int => some (s.1, s.2.1)) (c := some (es.map firstT, es.all single))
    (f := fun s : List (List UInt8) × Bool × Int => bif decide (s.2.2 < (es.length : Int)) then (getI es s.2.2).bind fun e => (andO s.2.1 (some (decide ((e.fRepeats.length : Int) = 1)))).bind fun v => (andO v ((getI e.fRepeats 0).bind fun e => some (decide ((e.length : Int) = 1)))).bind fun v =>
      (getI e.fRepeats 0).bind fun e => (getI e 0).bind fun e => thenO (lenO (s.1.length + [e].length)) (some (.inl (s.1 ++ [e], v, IntKind.i64.wrap (s.2.2 + 1)))) else inrO (some (.inl (s.1, s.2.1, s.2.2))))
    (fun i => ((es.take i).map firstT, (es.take i).all single, (i : Int))) (fun i => es.length - i) (fun i => i ≤ es.length) (by
    rintro i hi
    rcases Nat.lt_or_ge i es.length with h1 | h1
    · obtain ⟨e, he⟩ := get_lt h1
      have hm := h.2 e (List.mem_of_getElem? he)
      obtain ⟨r, r1, r2, r3⟩ := el_ask hm
      have hl : lenO (((es.take i).map firstT).length + [firstT e].length) = some () := by
        unfold lenO
        have := h.1
        rw [if_pos (by simp only [List.length_map, List.length_take, List.length_cons, List.length_nil]; omega)]
      refine .inl ⟨i + 1, h1, by omega, ?_⟩
      simp only [lt_dec h1, cond_true, getI_nat, he, Option.bind_some, r1, andO_some, r2, thenO, hl, wrapN i (by have := h.1; omega), Bool.and_assoc, r3]
      rw [take_snoc he, List.map_append, List.all_append]
      simp
    · have : i = es.length := by omega
      subst this
      refine .inr ⟨.inl (es.map firstT, es.all single, (es.length : Int)), ?_, rfl⟩
      simp only [lt_dec_self, cond_false, List.take_length]; rfl) 0 (Nat.zero_le _)
  exact key
def first0 (es : List Tapi_Element) : List UInt8 := match es with | [] => [] | e :: _ => firstT e
def own0 (es : List Tapi_Element) : Bool := match es with | [] => false | e :: _ => single e && isRef (firstT e)
theorem w_first (s : Tapi_Segment) (h : ElOk s.fElements) : m_wire_first s = some (first0 s.fElements) := by
  unfold m_wire_first sims_GA_1_0; dsimp only
  unfold m_wire_TextAt sims_GA_0_0; dsimp only
  have w0 : IntKind.i64.wrap ((1 : Int) - 1) = 0 := by rw [wrap64 _ (by omega) (by omega)]; omega
  cases hs : s.fElements with
  | nil => rfl
  | cons e es =>
    rw [hs] at h
    obtain ⟨t, ts, rs, hr, -⟩ := el_shape (h.2 e (by simp))
    have d1 : decide (((e :: es).length : Int) < 1) = false := by simp only [List.length_cons, decide_eq_false_iff_not]; omega
    have d2 : decide ((((t :: ts) :: rs).length : Int) < 1) = false := by simp only [List.length_cons, decide_eq_false_iff_not]; omega
    have d3 : decide (((t :: ts).length : Int) < 1) = false := by simp only [List.length_cons, decide_eq_false_iff_not]; omega
    have g1 : getI (e :: es) 0 = some e := rfl
    have g2 : getI ((t :: ts) :: rs) 0 = some (t :: ts) := rfl
    have g3 : getI (t :: ts) 0 = some t := rfl
    simp only [d1, cond_false, w0, g1, Option.bind_some, hr, d2, g2, d3, orO_some, Bool.or_self, g3]
    have : firstT e = t := by unfold firstT; rw [hr]
    show some t = some (firstT e)
    rw [this]
theorem w_own (s : Tapi_Segment) (h : ElOk s.fElements) : m_wire_hasRef s = some (own0 s.fElements) := by
  unfold m_wire_hasRef sims_GA_1_0; dsimp only
  cases hs : s.fElements with
  | nil => rfl
  | cons e es =>
    rw [hs] at h
    have d1 : decide (((e :: es).length : Int) = 0) = false := by simp only [List.length_cons, decide_eq_false_iff_not]; omega
    have g1 : sliceI (e :: es) ((none : Option Int).getD 0) ((some 1).getD ((e :: es).length : Int)) = some [e] := by
      unfold sliceI
      rw [if_pos ⟨by simp, by simp, by simp only [Option.getD_some, List.length_cons]; omega⟩]
      rfl
    have ho : ElOk [e] := ⟨by simp, fun x hx => by rw [List.mem_singleton.1 hx]; exact h.2 e (by simp)⟩
    rw [d1]
    simp only [cond_false, g1, Option.bind_some]
    rw [w_texts [] ho]
    have hlen := firstT_len ho (firstT e) (by simp)
    unfold txW own0
    simp only [List.all_cons, List.all_nil, Bool.and_true]
    cases hsi : single e with
    | false => rfl
    | true =>
      have g2 : getI ([e].map firstT) 0 = some (firstT e) := rfl
      simp only [if_true, Option.bind_some, g2, isRef_eq _ hlen, andO_some, Bool.true_and]
end Go.Proofs.YtcnohbiegjahkaaGreatDoor

/-
  Plain laws of the audit: the form of a head.
-/
namespace Go.Proofs.YtcnohbiegjahkaaGreatDoor
set_option linter.unusedSimpArgs false
set_option linter.unusedVariables false
open Go.RowKit

theorem orO_t (m : Option Bool) : orO true m = some true := rfl
theorem orO_f (m : Option Bool) : orO false m = m := rfl
theorem andO_t (m : Option Bool) : andO true m = m := rfl
theorem andO_f (m : Option Bool) : andO false m = some false := rfl
def tIHD : List UInt8 := [73, 72, 68]
def tGHD : List UInt8 := [71, 72, 68]
def tMHD : List UInt8 := [77, 72, 68]
def tITR : List UInt8 := [73, 84, 82]
def tGTR : List UInt8 := [71, 84, 82]
def tMTR : List UInt8 := [77, 84, 82]
noncomputable def dayOk (l : List UInt8) : Bool := numOk l && decide (1 ≤ numV l) && decide (numV l ≤ 3652059)
noncomputable def secOk (l : List UInt8) : Bool := numOk l && decide (numV l ≤ 86399)
def hdG : List (List UInt8) → Bool
  | [a, b] => isRef a && nameF b
  | _ => false
def hdM : List (List UInt8) → Bool
  | [a, b, c] => isRef a && nameF b && nameF c
  | _ => false
noncomputable def hdI : List (List UInt8) → Bool
  | [a, b, c, d, e, f] => isRef a && nameF b && nameF c && dayOk d && secOk e && (decide (f = []) || decide (f = [49]))
  | _ => false
noncomputable def hdF (s : Tapi_Segment) : Bool := s.fElements.all single && (if s.fTag = tGHD then hdG (s.fElements.map firstT) else if s.fTag = tMHD then hdM (s.fElements.map firstT) else hdI (s.fElements.map firstT))
theorem out_eq (n lo hi : Int) : m_kit_Outside n lo hi = some (decide (n < lo) || decide (hi < n)) := by
  unfold m_kit_Outside sims_GA_0_0; dsimp only
  simp only [orO_some, Option.bind_some]
theorem day_eq (n : Int) : m_kit_IsDay n = some (decide (1 ≤ n) && decide (n ≤ 3652059)) := by
  unfold m_kit_IsDay sims_GA_1_0; dsimp only
  rw [out_eq]
  simp only [Option.bind_some]
  congr 1
  rw [Bool.eq_iff_iff]; simp
theorem num_pS {l : List UInt8} (hl : l.length ≤ MX) : ∃ n, m_kit_Number l 9 = some (n, numOk l) ∧ (numOk l = true → n = numV l) := by
  rw [num_p l hl]
  cases h : numOk l with
  | true => exact ⟨_, by simp, fun _ => rfl⟩
  | false => exact ⟨0, by simp, fun h => by cases h⟩
theorem num_rS {l : List UInt8} (most : Int) (hl : l.length ≤ MX) : ∃ n, m_interchangeref2_numbered l 9 most = some (n, numOk l && decide (numV l ≤ most)) ∧ (numOk l = true → n = numV l) := by
  rw [num_r l most hl]
  cases h : numOk l with
  | true => exact ⟨_, by simp, fun _ => rfl⟩
  | false => exact ⟨0, by simp, fun h => by cases h⟩

theorem w_head (s : Tapi_Segment) (h : ElOk s.fElements) : m_wire_isHead s = some (hdF s) := by
  obtain ⟨tag, es⟩ := s
  have hl := firstT_len h
  have ht := w_texts tag h
  unfold m_wire_isHead sims_GA_2_0; dsimp only
  simp only at h hl ht
  rw [ht]
  unfold hdF txW
  simp only
  cases hs : es.all single with
  | false => rfl
  | true =>
    simp only [if_true, Option.bind_some, Bool.not_true, orO_f, Bool.true_and]
    generalize es.map firstT = ts at hl
    cases ts with
    | nil =>
      simp only [orO_t, Option.bind_some, show decide ((([] : List (List UInt8)).length : Int) = 0) = true from rfl, cond_true, hdG, hdM, hdI]
      split
      · rfl
      · split <;> rfl
    | cons a ts =>
      have d1 : decide (((a :: ts).length : Int) = 0) = false := by simp only [List.length_cons, decide_eq_false_iff_not]; omega
      have g0 : getI (a :: ts) 0 = some a := rfl
      have ra := isRef_eq a (hl a (by simp))
      simp only [d1, orO_f, Option.bind_some, g0, ra]
      cases hra : isRef a with
      | false =>
        simp only [Bool.not_false, cond_true]
        cases ts with
        | nil => simp only [hdG, hdM, hdI, ite_self]
        | cons b ts =>
          cases ts with
          | nil => simp [hdG, hdM, hdI, hra]
          | cons c ts =>
            cases ts with
            | nil => simp [hdG, hdM, hdI, hra]
            | cons d ts =>
              cases ts with
              | nil => simp [hdG, hdM, hdI, hra]
              | cons e ts =>
                cases ts with
                | nil => simp [hdG, hdM, hdI, hra]
                | cons f ts => cases ts <;> simp [hdG, hdM, hdI, hra]
      | true =>
        simp only [Bool.not_true, cond_false]
        by_cases hG : tag = tGHD
        · have e1 : decide (tag = [71, 72, 68]) = true := decide_eq_true hG
          rw [if_pos hG]; simp only [e1, cond_true]
          match ts with
          | [] => rfl
          | [b] =>
            have g1 : getI [a, b] 1 = some b := rfl
            have d2 : decide ((([a, b] : List (List UInt8)).length : Int) = 2) = true := rfl
            simp only [d2, andO_t, g1, Option.bind_some, w_name b (hl b (by simp)), hdG, hra, Bool.true_and]
          | b :: c :: ts =>
            have d2 : decide (((a :: b :: c :: ts).length : Int) = 2) = false := by simp only [List.length_cons, decide_eq_false_iff_not]; omega
            simp only [d2, andO_f, Option.bind_some, hdG]
        · have e1 : decide (tag = [71, 72, 68]) = false := decide_eq_false hG
          simp only [e1, cond_false, hG, if_false]
          by_cases hM : tag = tMHD
          · have e2 : decide (tag = [77, 72, 68]) = true := decide_eq_true hM
            rw [if_pos hM]; simp only [e2, cond_true]
            match ts with
            | [] => rfl
            | [b] => rfl
            | [b, c] =>
              have g1 : getI [a, b, c] 1 = some b := rfl
              have g2 : getI [a, b, c] 2 = some c := rfl
              have d2 : decide ((([a, b, c] : List (List UInt8)).length : Int) = 3) = true := rfl
              simp only [d2, andO_t, g1, g2, Option.bind_some, w_name b (hl b (by simp)), w_name c (hl c (by simp)), andO_some, hdM, hra, Bool.true_and]
            | b :: c :: d :: ts =>
              have d2 : decide (((a :: b :: c :: d :: ts).length : Int) = 3) = false := by simp only [List.length_cons, decide_eq_false_iff_not]; omega
              simp only [d2, andO_f, Option.bind_some, hdM]
          · have e2 : decide (tag = [77, 72, 68]) = false := decide_eq_false hM
            simp only [e2, cond_false, hM, if_false]
            match ts with
            | [] => rfl
            | [b] => rfl
            | [b, c] => rfl
            | [b, c, d] => rfl
            | [b, c, d, e] => rfl
            | [b, c, d, e, f] =>
              have g1 : getI [a, b, c, d, e, f] 1 = some b := rfl
              have g2 : getI [a, b, c, d, e, f] 2 = some c := rfl
              have g3 : getI [a, b, c, d, e, f] 3 = some d := rfl
              have g4 : getI [a, b, c, d, e, f] 4 = some e := rfl
              have g5 : getI [a, b, c, d, e, f] 5 = some f := rfl
              have d2 : decide ((([a, b, c, d, e, f] : List (List UInt8)).length : Int) = 6) = true := rfl
              obtain ⟨n1, k1, k2⟩ := num_pS (hl d (by simp))
              obtain ⟨n2, k3, k4⟩ := num_pS (hl e (by simp))
              simp only [d2, Bool.not_true, orO_f, g1, g2, g3, g4, g5, Option.bind_some, w_name b (hl b (by simp)), w_name c (hl c (by simp)), orO_some, andO_some, k1, k3, day_eq, out_eq, hdI, hra, Bool.true_and]
              unfold dayOk secOk
              cases nameF b <;> cases nameF c <;> cases h1 : decide (f = []) <;> cases h2 : decide (f = [49]) <;> simp
              all_goals
                cases h3 : numOk d <;> cases h4 : numOk e <;> simp
                have := numV_nonneg h4
                rw [k2 h3, k4 h4]
                rw [Bool.eq_iff_iff]; simp; omega
            | b :: c :: d :: e :: f :: g :: ts =>
              have d2 : decide (((a :: b :: c :: d :: e :: f :: g :: ts).length : Int) = 6) = false := by simp only [List.length_cons, decide_eq_false_iff_not]; omega
              simp only [d2, Bool.not_false, orO_t, Option.bind_some, cond_true, hdI]
theorem r_isRef {l : List UInt8} (hl : l.length ≤ MX) : m_interchangeref2_IsReference l = some (isRef l) := isReference_eq l hl
theorem r_head (s : Tapi_Segment) (h : ElOk s.fElements) (hT : s.fTag = tIHD ∨ s.fTag = tGHD ∨ s.fTag = tMHD) : m_interchangeref2_headForm s = some (hdF s) := by
  obtain ⟨tag, es⟩ := s
  have hl := firstT_len h
  have ht := r_texts tag h
  unfold m_interchangeref2_headForm sims_GA2_1_0; dsimp only
  simp only at h hl ht hT
  rw [ht]
  unfold hdF
  simp only [Option.bind_some]
  generalize es.map firstT = ts at hl
  rcases hT with rfl | rfl | rfl
  · have e1 : decide (tIHD = [73, 72, 68]) = true := rfl
    rw [if_neg (by decide), if_neg (by decide)]
    simp only [e1, cond_true]
    cases hs : es.all single with
    | false => rfl
    | true =>
      simp only [Bool.not_true, orO_f, Option.bind_some, Bool.true_and]
      match ts with
      | [] => rfl
      | [a] => rfl
      | [a, b] => rfl
      | [a, b, c] => rfl
      | [a, b, c, d] => rfl
      | [a, b, c, d, e] => rfl
      | [a, b, c, d, e, f] =>
        have g0 : getI [a, b, c, d, e, f] 0 = some a := rfl
        have g1 : getI [a, b, c, d, e, f] 1 = some b := rfl
        have g2 : getI [a, b, c, d, e, f] 2 = some c := rfl
        have g3 : getI [a, b, c, d, e, f] 3 = some d := rfl
        have g4 : getI [a, b, c, d, e, f] 4 = some e := rfl
        have g5 : getI [a, b, c, d, e, f] 5 = some f := rfl
        have d2 : decide ((([a, b, c, d, e, f] : List (List UInt8)).length : Int) = 6) = true := rfl
        obtain ⟨n1, k1, k2⟩ := num_rS 3652059 (hl d (by simp))
        obtain ⟨n2, k3, k4⟩ := num_rS 86399 (hl e (by simp))
        simp only [d2, Bool.not_true, cond_false, g0, g1, g2, g3, g4, g5, Option.bind_some, r_isRef (hl a (by simp)), r_name b (hl b (by simp)), r_name c (hl c (by simp)), orO_some, andO_some, k1, k3, hdI]
        unfold dayOk secOk
        cases h3 : numOk d with
        | false => simp
        | true =>
          rw [k2 h3]
          cases isRef a <;> cases nameF b <;> cases nameF c <;> cases numOk e <;> cases decide (1 ≤ numV d) <;> cases decide (numV d ≤ 3652059) <;> cases decide (numV e ≤ 86399) <;> rfl
      | a :: b :: c :: d :: e :: f :: g :: ts =>
        have d2 : decide (((a :: b :: c :: d :: e :: f :: g :: ts).length : Int) = 6) = false := by simp only [List.length_cons, decide_eq_false_iff_not]; omega
        simp only [d2, Bool.not_false, cond_true, hdI]
  · have e1 : decide (tGHD = [73, 72, 68]) = false := rfl
    have e2 : decide (tGHD = [71, 72, 68]) = true := rfl
    rw [if_pos rfl]
    simp only [e1, e2, cond_true, cond_false]
    cases hs : es.all single with
    | false => rfl
    | true =>
      simp only [andO_t, Option.bind_some, Bool.true_and]
      match ts with
      | [] => rfl
      | [a] => rfl
      | [a, b] =>
        have g0 : getI [a, b] 0 = some a := rfl
        have g1 : getI [a, b] 1 = some b := rfl
        have d2 : decide ((([a, b] : List (List UInt8)).length : Int) = 2) = true := rfl
        simp only [d2, g0, g1, Option.bind_some, r_isRef (hl a (by simp)), r_name b (hl b (by simp)), andO_some, hdG, Bool.true_and]
      | a :: b :: c :: ts =>
        have d2 : decide (((a :: b :: c :: ts).length : Int) = 2) = false := by simp only [List.length_cons, decide_eq_false_iff_not]; omega
        simp only [d2, andO_f, Option.bind_some, hdG]
  · have e1 : decide (tMHD = [73, 72, 68]) = false := rfl
    have e2 : decide (tMHD = [71, 72, 68]) = false := rfl
    rw [if_neg (by decide), if_pos rfl]
    simp only [e1, e2, cond_false]
    cases hs : es.all single with
    | false => rfl
    | true =>
      simp only [andO_t, Option.bind_some, Bool.true_and]
      match ts with
      | [] => rfl
      | [a] => rfl
      | [a, b] => rfl
      | [a, b, c] =>
        have g0 : getI [a, b, c] 0 = some a := rfl
        have g1 : getI [a, b, c] 1 = some b := rfl
        have g2 : getI [a, b, c] 2 = some c := rfl
        have d2 : decide ((([a, b, c] : List (List UInt8)).length : Int) = 3) = true := rfl
        simp only [d2, g0, g1, g2, Option.bind_some, r_isRef (hl a (by simp)), r_name b (hl b (by simp)), r_name c (hl c (by simp)), andO_some, hdM, Bool.true_and]
      | a :: b :: c :: d :: ts =>
        have d2 : decide (((a :: b :: c :: d :: ts).length : Int) = 3) = false := by simp only [List.length_cons, decide_eq_false_iff_not]; omega
        simp only [d2, andO_f, Option.bind_some, hdM]
end Go.Proofs.YtcnohbiegjahkaaGreatDoor

/-
  Plain laws of the audit: what the reference's auditor does, as a function of its state.
-/
namespace Go.Proofs.YtcnohbiegjahkaaGreatDoor
set_option linter.unusedSimpArgs false
set_option linter.unusedVariables false
open Go.RowKit

abbrev RA := Tinterchangeref2_auditor
abbrev RO := Tinterchangeref2_open
abbrev Nt := Tapi_Note

/-! ### Tags -/
def lvlT (tag : List UInt8) : Nat := if tag = tIHD ∨ tag = tITR then 1 else if tag = tGHD ∨ tag = tGTR then 2 else if tag = tMHD ∨ tag = tMTR then 3 else 0
def headT (tag : List UInt8) : Bool := decide (tag = tIHD) || decide (tag = tGHD) || decide (tag = tMHD)
theorem r_isHead (tag : List UInt8) : m_interchangeref2_isHead tag = some (headT tag) := by
  unfold m_interchangeref2_isHead sims_GA2_0_0; dsimp only
  simp only [orO_some, Option.bind_some]; rfl
theorem r_level (tag : List UInt8) : m_interchangeref2_levelOf tag = some (lvlT tag : Int) := by
  unfold m_interchangeref2_levelOf sims_GA2_0_0; dsimp only
  unfold lvlT tIHD tGHD tMHD tITR tGTR tMTR
  by_cases h1 : tag = [73, 72, 68]
  · subst h1; rfl
  by_cases h2 : tag = [73, 84, 82]
  · subst h2; rfl
  by_cases h3 : tag = [71, 72, 68]
  · subst h3; rfl
  by_cases h4 : tag = [71, 84, 82]
  · subst h4; rfl
  by_cases h5 : tag = [77, 72, 68]
  · subst h5; rfl
  by_cases h6 : tag = [77, 84, 82]
  · subst h6; rfl
  simp [h1, h2, h3, h4, h5, h6]
theorem r_env (tag : List UInt8) : m_interchangeref2_isEnvelope tag = some (decide (0 < lvlT tag)) := by
  unfold m_interchangeref2_isEnvelope sims_GA2_1_0; dsimp only
  rw [r_level]
  simp

/-! ### Notes, closing -/
def noteS (a : RA) (k i : Int) : RA := ⟨a.flevels, a.fnotes ++ [⟨k, i⟩]⟩
theorem r_note (a : RA) (k i : Int) (h : a.fnotes.length ≤ 100000) : m_interchange_interchangeref2_auditor_note a k i = some ((), noteS a k i) := by
  unfold m_interchange_interchangeref2_auditor_note sims_GC_0_0; dsimp only
  unfold lenO thenO
  rw [if_pos (by simp only [List.length_cons, List.length_nil]; omega)]
  rfl
def leaveS (to : Nat) (i : Int) (a : RA) : RA := ⟨a.flevels.take to, a.fnotes ++ List.replicate (a.flevels.length - to) ⟨2, i⟩⟩
theorem rep_snoc {α : Type} (n : Nat) (x : α) : List.replicate n x ++ [x] = List.replicate (n + 1) x := by
  rw [List.replicate_succ']
theorem r_leave (a : RA) (to : Nat) (i : Int) (h : a.fnotes.length ≤ 50000) (hl : a.flevels.length ≤ 3) : m_interchange_interchangeref2_auditor_leave a (to : Int) i = some ((), leaveS to i a) := by
  unfold m_interchange_interchangeref2_auditor_leave sims_GC_1_1; dsimp only
  rw [show (a.flevels, a.fnotes) = ((fun d : Nat => (a.flevels.take (a.flevels.length - d), a.fnotes ++ List.replicate d (⟨2, i⟩ : Nt))) 0) by simp]
  refine loop_to (X := Nat) (fun d : Nat => (a.flevels.take (a.flevels.length - d), a.fnotes ++ List.replicate d (⟨2, i⟩ : Nt))) (fun d => a.flevels.length - d) (fun d => d ≤ a.flevels.length - to) ?_ 0 (Nat.zero_le _)
  · intro d hd
    have hlen : (a.flevels.take (a.flevels.length - d)).length = a.flevels.length - d := by rw [List.length_take]; omega
    rcases Nat.lt_or_ge d (a.flevels.length - to) with h1 | h1
    · refine .inl ⟨d + 1, h1, by omega, ?_⟩
      have d1 : decide ((to : Int) < ((a.flevels.take (a.flevels.length - d)).length : Int)) = true := decide_eq_true (by rw [hlen]; omega)
      have hn := r_note ⟨a.flevels.take (a.flevels.length - d), a.fnotes ++ List.replicate d ⟨2, i⟩⟩ 2 i (by simp only [List.length_append, List.length_replicate]; omega)
      have w : IntKind.i64.wrap (((a.flevels.take (a.flevels.length - d)).length : Int) - 1) = ((a.flevels.length - (d + 1) : Nat) : Int) := by rw [hlen, wrap64 _ (by omega) (by omega)]; omega
      dsimp only
      rw [d1, hn]
      simp only [cond_true, Option.bind_some, noteS, w]
      rw [sliceI_take _ _ (by rw [hlen]; omega), List.take_take, Nat.min_eq_left (by omega), List.append_assoc, rep_snoc]
      rfl
    · have hd' : d = a.flevels.length - to := by omega
      have d1 : decide ((to : Int) < ((a.flevels.take (a.flevels.length - d)).length : Int)) = false := decide_eq_false (by rw [hlen]; omega)
      refine .inr ⟨.inl (a.flevels.take (a.flevels.length - d), a.fnotes ++ List.replicate d ⟨2, i⟩), ?_, ?_⟩
      · dsimp only
        rw [d1]; rfl
      · unfold leaveS outK
        rw [hd']
        have : a.flevels.take (a.flevels.length - (a.flevels.length - to)) = a.flevels.take to := by
          rcases Nat.lt_or_ge to a.flevels.length with h2 | h2
          · rw [show a.flevels.length - (a.flevels.length - to) = to by omega]
          · rw [List.take_of_length_le h2, List.take_of_length_le (by omega)]
        rw [this]

/-! ### inside -/
def insO (ref : List UInt8) (x : RO) : RO := ⟨x.fheaded, x.fref, x.fmany + 1, if isRef ref = true then x.frefs ++ [ref] else x.frefs⟩
def insN (ref : List UInt8) (x : RO) (i : Int) : List Nt := if isRef ref = true ∧ ref ∈ x.frefs then [⟨5, i⟩] else []
theorem r_inside0 (N : List Nt) (i : Int) (ref : List UInt8) : m_interchange_interchangeref2_auditor_inside ⟨[], N⟩ i ref = some ((), ⟨[], N⟩) := by
  unfold m_interchange_interchangeref2_auditor_inside sims_GC_1_0; dsimp only
  rfl
theorem r_inside (L : List RO) (x : RO) (N : List Nt) (i : Int) (ref : List UInt8) (h1 : ref.length ≤ MX) (h2 : L.length ≤ 3) (h3 : N.length ≤ 100000) (h4 : x.frefs.length ≤ 100000) (h5 : 0 ≤ x.fmany ∧ x.fmany ≤ 100000) :
    m_interchange_interchangeref2_auditor_inside ⟨L ++ [x], N⟩ i ref = some ((), ⟨L ++ [insO ref x], N ++ insN ref x i⟩) := by
  unfold m_interchange_interchangeref2_auditor_inside sims_GC_1_0; dsimp only
  obtain ⟨g1, g2⟩ := getI_last L x (by omega)
  have d1 : decide (((L ++ [x]).length : Int) = 0) = false := by simp only [List.length_append, List.length_cons, List.length_nil, decide_eq_false_iff_not]; omega
  have w : IntKind.i64.wrap (x.fmany + 1) = x.fmany + 1 := wrap64 _ (by omega) (by omega)
  simp only [d1, cond_false, g1, g2, Option.bind_some, r_isRef h1, w]
  have hset : ∀ y : RO, (L ++ [x]).set L.length y = L ++ [y] := fun y => by simp
  simp only [hset]
  cases hr : isRef ref with
  | false => simp [insO, insN, hr]
  | true =>
    simp only [cond_true]
    have hl1 : lenO (x.frefs.length + [ref].length) = some () := by unfold lenO; rw [if_pos (by simp only [List.length_cons, List.length_nil]; omega)]
    have hl2 : lenO (N.length + [(⟨5, i⟩ : Nt)].length) = some () := by unfold lenO; rw [if_pos (by simp only [List.length_cons, List.length_nil]; omega)]
    simp only [hl1, hl2]
    refine (loop_to (X := Nat) (fun j => (N, x.fheaded, x.fref, x.fmany + 1, (j : Int))) (fun j => x.frefs.length - j) (fun j => j ≤ x.frefs.length ∧ ref ∉ x.frefs.take j) ?_ 0 ⟨Nat.zero_le _, by simp⟩)
    rintro j ⟨hj, hm⟩
    rcases Nat.lt_or_ge j x.frefs.length with h6 | h6
    · obtain ⟨e, he⟩ := get_lt h6
      dsimp only
      simp only [lt_dec h6, cond_true, getI_nat, he, Option.bind_some, Int.toNat_natCast, thenO, wrapN j (by omega), hl2]
      by_cases hq : e = ref
      · refine .inr ⟨.inl (N ++ [⟨5, i⟩], x.fheaded, x.fref, x.fmany + 1, (j : Int)), ?_, ?_⟩
        · rw [decide_eq_true hq]; rfl
        · have : ref ∈ x.frefs := hq ▸ List.mem_of_getElem? he
          simp [outK, insO, insN, hr, this]
      · refine .inl ⟨j + 1, ⟨h6, ?_⟩, by omega, ?_⟩
        · rw [take_snoc he, List.mem_append]
          rintro (h | h)
          · exact hm h
          · exact hq (List.mem_singleton.1 h).symm
        · rw [decide_eq_false hq]; rfl
    · have : j = x.frefs.length := by omega
      subst this
      rw [List.take_length] at hm
      refine .inr ⟨.inl (N, x.fheaded, x.fref, x.fmany + 1, ((x.frefs.length : Nat) : Int)), ?_, ?_⟩
      · dsimp only
        rw [lt_dec_self]; rfl
      · simp [outK, insO, insN, hr, hm, thenO]
end Go.Proofs.YtcnohbiegjahkaaGreatDoor

/-
  Plain laws of the audit: the reference's head and tail.
-/
namespace Go.Proofs.YtcnohbiegjahkaaGreatDoor
set_option linter.unusedSimpArgs false
set_option linter.unusedVariables false
open Go.RowKit

/-- Bounds that a state keeps. -/
structure Bd (n : Nat) (a : RA) : Prop where
  lv : a.flevels.length ≤ 3
  nt : a.fnotes.length ≤ 10 * n
  ma : ∀ x ∈ a.flevels, 0 ≤ x.fmany ∧ x.fmany ≤ (n : Int) + 1 ∧ x.frefs.length ≤ n

noncomputable def tlN (ts : List (List UInt8)) (lv : Nat) (i : Int) (x : RO) : List Nt :=
  match ts with
  | [p, q] => if numOk p = true ∧ isRef q = true then (if x.fheaded = true then (if numV p = x.fmany + (if lv = 2 then 1 else 0) then [] else [⟨3, i⟩]) ++ (if q = x.fref then [] else [⟨4, i⟩]) else []) else [⟨6, i⟩]
  | _ => [⟨6, i⟩]
noncomputable def tailS (s : Tapi_Segment) (lv : Nat) (i : Int) (a : RA) : RA :=
  if a.flevels.length ≤ lv then noteS a 1 i else
    match a.flevels[lv]? with
    | none => a
    | some x => ⟨a.flevels.take lv, (leaveS (lv + 1) i a).fnotes ++ (if s.fElements.all single = true then tlN (s.fElements.map firstT) lv i x else [⟨6, i⟩])⟩
def tailTag (lv : Nat) : List UInt8 := if lv = 0 then tITR else if lv = 1 then tGTR else tMTR
theorem r_tail (a : RA) (s : Tapi_Segment) (lv : Nat) (i : Nat) {n : Nat} (hn : n ≤ 2001) (hB : Bd n a) (hlv : lv ≤ 2) (hT : s.fTag = tailTag lv) (hE : ElOk s.fElements) :
    m_interchange_interchangeref2_auditor_tail a s (i : Int) = some ((), tailS s lv (i : Int) a) := by
  obtain ⟨b1, b2, b3⟩ := hB
  have hL : lvlT s.fTag = lv + 1 := by
    rw [hT]
    have : lv = 0 ∨ lv = 1 ∨ lv = 2 := by omega
    rcases this with rfl | rfl | rfl <;> rfl
  have hM : decide (s.fTag = [77, 84, 82]) = decide (lv = 2) := by
    rw [hT]
    have : lv = 0 ∨ lv = 1 ∨ lv = 2 := by omega
    rcases this with rfl | rfl | rfl <;> rfl
  have hl := firstT_len hE
  have ht := r_texts s.fTag hE
  unfold m_interchange_interchangeref2_auditor_tail sims_GD_0_0; dsimp only
  rw [r_level, hL]
  simp only [Option.bind_some]
  rw [hM]
  unfold tailS
  rcases Nat.lt_or_ge lv a.flevels.length with h1 | h1
  · rw [if_neg (by omega)]
    have d1 : decide ((a.flevels.length : Int) < ((lv + 1 : Nat) : Int)) = false := decide_eq_false (by omega)
    obtain ⟨x, hx⟩ := get_lt h1
    have hlea := r_leave a (lv + 1) (i : Int) (by omega) b1
    have hp : a.flevels.take (lv + 1) = a.flevels.take lv ++ [x] := take_snoc hx
    have hpl : (a.flevels.take lv).length = lv := by rw [List.length_take]; omega
    have w : IntKind.i64.wrap (((lv + 1 : Nat) : Int) - 1) = (lv : Int) := by rw [wrap64 _ (by omega) (by omega)]; omega
    have hN : (leaveS (lv + 1) (i : Int) a).fnotes.length ≤ 10 * n + 3 := by simp only [leaveS, List.length_append, List.length_replicate]; omega
    obtain ⟨c1, c2, c3⟩ := b3 x (List.mem_of_getElem? hx)
    rw [d1, hlea]
    simp only [cond_false, Option.bind_some, w, hx]
    rw [show (leaveS (lv + 1) (i : Int) a).flevels = a.flevels.take lv ++ [x] from hp]
    generalize (leaveS (lv + 1) (i : Int) a).fnotes = N at hN
    generalize a.flevels.take lv = P at hpl
    have g1 : getI (P ++ [x]) (lv : Int) = some x := by rw [getI_nat, ← hpl]; simp
    have g2 : ∀ y : RO, (P ++ [x]).set lv y = P ++ [y] := fun y => by rw [← hpl]; simp
    have g3 : ∀ y : RO, sliceI (P ++ [y]) 0 (lv : Int) = some P := fun y => by rw [sliceI_take _ _ (by simp; omega), ← hpl]; simp
    have n1 : ∀ L k, m_interchange_interchangeref2_auditor_note ⟨L, N⟩ k (i : Int) = some ((), ⟨L, N ++ [⟨k, i⟩]⟩) := fun L k => r_note _ _ _ (by simp only; omega)
    have n2 : ∀ L k j, m_interchange_interchangeref2_auditor_note ⟨L, N ++ [⟨j, i⟩]⟩ k (i : Int) = some ((), ⟨L, N ++ [⟨j, i⟩] ++ [⟨k, i⟩]⟩) := fun L k j => r_note _ _ _ (by simp only [List.length_append, List.length_cons, List.length_nil]; omega)
    have w2 : IntKind.i64.wrap (x.fmany + 1) = x.fmany + 1 := wrap64 _ (by omega) (by omega)
    have ht' : m_interchangeref2_texts s = some (s.fElements.map firstT, s.fElements.all single) := ht
    simp only [g1, Option.bind_some, ht', Int.toNat_natCast, g2, w2]
    generalize s.fElements.map firstT = ts at hl
    cases hs : s.fElements.all single with
    | false =>
      simp only [andO_f, Option.bind_some, cond_false, n1, g3]
      cases decide (lv = 2) <;> rfl
    | true =>
      simp only [andO_t, Option.bind_some, if_true]
      match ts with
      | [] => simp only [show decide ((([] : List (List UInt8)).length : Int) = 2) = false from rfl, cond_false, n1, g3, Option.bind_some, tlN]; cases decide (lv = 2) <;> rfl
      | [p] => simp only [show decide ((([p] : List (List UInt8)).length : Int) = 2) = false from rfl, cond_false, n1, g3, Option.bind_some, tlN]; cases decide (lv = 2) <;> rfl
      | p :: q :: r :: ts =>
        have d2 : decide (((p :: q :: r :: ts).length : Int) = 2) = false := by simp only [List.length_cons, decide_eq_false_iff_not]; omega
        simp only [d2, cond_false, n1, g3, Option.bind_some, tlN]; cases decide (lv = 2) <;> rfl
      | [p, q] =>
        have d2 : decide ((([p, q] : List (List UInt8)).length : Int) = 2) = true := rfl
        have e0 : getI [p, q] 0 = some p := rfl
        have e1 : getI [p, q] 1 = some q := rfl
        have hnum : m_interchangeref2_numbered p 9 999999999 = some (if numOk p = true then numV p else 0, numOk p) := by
          rw [num_r p _ (hl p (by simp))]
          cases h : numOk p with
          | true => simp [numV_le h]
          | false => simp
        simp only [d2, cond_true, e0, e1, Option.bind_some, hnum, r_isRef (hl q (by simp)), orO_some, n1, g3, tlN]
        cases hp1 : numOk p with
        | false => simp only [Bool.not_false, Bool.true_or, cond_true]; cases decide (lv = 2) <;> simp
        | true =>
          cases hq1 : isRef q with
          | false => simp only [Bool.not_true, Bool.not_false, Bool.false_or, cond_true]; cases decide (lv = 2) <;> simp
          | true =>
            simp only [Bool.not_true, Bool.false_or, cond_false, if_true, and_self]
            cases hx1 : x.fheaded with
            | false => simp only [cond_false]; cases decide (lv = 2) <;> simp
            | true =>
              simp only [cond_true, if_true]
              by_cases h2 : lv = 2
              · rw [decide_eq_true h2, if_pos h2]
                simp only [cond_true]
                by_cases h3 : numV p = x.fmany + 1 <;> by_cases h4 : q = x.fref <;> simp [h3, h4, n1, n2, g3, hx1]
              · rw [decide_eq_false h2, if_neg h2]
                simp only [cond_false, Int.add_zero]
                by_cases h3 : numV p = x.fmany <;> by_cases h4 : q = x.fref <;> simp [h3, h4, n1, n2, g3, hx1]
  · rw [if_pos h1]
    have d1 : decide ((a.flevels.length : Int) < ((lv + 1 : Nat) : Int)) = true := decide_eq_true (by omega)
    rw [d1, r_note a 1 (i : Int) (by omega)]
    rfl
end Go.Proofs.YtcnohbiegjahkaaGreatDoor
