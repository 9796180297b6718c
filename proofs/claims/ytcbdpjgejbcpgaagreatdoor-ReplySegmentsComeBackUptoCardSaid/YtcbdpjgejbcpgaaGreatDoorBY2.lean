/-
  Texts of mine, one behind the other (SYGA, SYCK, SYNX, SYG6, SYG7, SYG8, SYGTW, SYGM, SYRow, SYGR, SYGW, SYPL, SYQ1, SYQ2, SYQ3, SYPM, SYQ4, SYY1, SYY2, SYY7, SYY8, SYY9, SYY10, SYKS, SYK0, SYGE, SYE1, SYC1, SYUC, SYPN, SYRN, SYRN2, SYRP1, SYRP2, SYRP3, SYRP4, SYRP5, SYRP6, SYGP).
-/
import Derived.Test.YtcbdpjgejbcpgaaGreatDoorBY1
import Derived.Test.YtcbdpjgejbcpgaaGreatDoorSYEngZz
import Derived.Test.YtcbdpjgejbcpgaaGreatDoorProg
import Derived.KernelRfl
import Derived.Test.YtcbdpjgejbcpgaaGreatDoorSYEngRj
import Derived.Test.YtcbdpjgejbcpgaaGreatDoorSYEngRo
import Derived.Test.YtcbdpjgejbcpgaaGreatDoorCards
import Derived.Test.YtcbdpjgejbcpgaaGreatDoorTie
import Derived.Test.YtcbdpjgejbcpgaaGreatDoorSYEngR
import Derived.Test.YtcbdpjgejbcpgaaGreatDoorSYEngX
import Derived.Test.YtcbdpjgejbcpgaaGreatDoorSYEngN
/-
  Bodies of functions and what they compute, printed by programs of mine (wip/tool/gen.py, sc.py) out of the translation; the kernel holds each against the translation.
-/
namespace Go.Proofs.YtcbdpjgejbcpgaaGreatDoor
open Go.RowKit
set_option linter.unusedSimpArgs false
set_option linter.unusedVariables false
structure Tapi_BookEvent where
  fKind : Int
  fTime : Int
  fDue : Int
  fRef : List UInt8
  fVerdict : Int
  deriving DecidableEq
def rTapi_BookEvent (x : Tapi_BookEvent) : List DV := [.int .i64 x.fKind, .int .i64 x.fTime, .int .i64 x.fDue, .str x.fRef, .int .i64 x.fVerdict]
attribute [push_cast] rTapi_BookEvent
theorem fT_Tapi_BookEvent {d0 d1 d2 d3 d4 : DV} {v0 : Int} {v1 : Int} {v2 : Int} {v3 : List UInt8} {v4 : Int} (h0 : d0 = .int .i64 v0) (h1 : d1 = .int .i64 v1) (h2 : d2 = .int .i64 v2) (h3 : d3 = .str v3) (h4 : d4 = .int .i64 v4) : [d0, d1, d2, d3, d4] = rTapi_BookEvent ⟨v0, v1, v2, v3, v4⟩ := by unfold rTapi_BookEvent; simp only [h0, h1, h2, h3, h4, List.cons_append, List.nil_append, List.append_assoc, List.append_nil]
structure Tapi_Sending where
  fRef : List UInt8
  fTime : Int
  fDue : Int
  fAnswer : Int
  fVerdict : Int
  deriving DecidableEq
def rTapi_Sending (x : Tapi_Sending) : List DV := [.str x.fRef, .int .i64 x.fTime, .int .i64 x.fDue, .int .i64 x.fAnswer, .int .i64 x.fVerdict]
attribute [push_cast] rTapi_Sending
theorem fT_Tapi_Sending {d0 d1 d2 d3 d4 : DV} {v0 : List UInt8} {v1 : Int} {v2 : Int} {v3 : Int} {v4 : Int} (h0 : d0 = .str v0) (h1 : d1 = .int .i64 v1) (h2 : d2 = .int .i64 v2) (h3 : d3 = .int .i64 v3) (h4 : d4 = .int .i64 v4) : [d0, d1, d2, d3, d4] = rTapi_Sending ⟨v0, v1, v2, v3, v4⟩ := by unfold rTapi_Sending; simp only [h0, h1, h2, h3, h4, List.cons_append, List.nil_append, List.append_assoc, List.append_nil]
theorem eT_Tapi_Sending {d0 d1 d2 d3 d4 : SV} {v0 : List UInt8} {v1 : Int} {v2 : Int} {v3 : Int} {v4 : Int} (h0 : d0 = .d (.str v0)) (h1 : d1 = .d (.int .i64 v1)) (h2 : d2 = .d (.int .i64 v2)) (h3 : d3 = .d (.int .i64 v3)) (h4 : d4 = .d (.int .i64 v4)) : [d0, d1, d2, d3, d4] = dR (rTapi_Sending ⟨v0, v1, v2, v3, v4⟩) := by simp only [rTapi_Sending, dR, List.map_append, List.map_cons, List.map_nil, List.cons_append, List.nil_append, List.append_assoc, List.append_nil, h0, h1, h2, h3, h4]

structure Tapi_Standing where
  fWaits : Int
  fLate : Int
  fTaken : Int
  fFlawed : Int
  fRefused : Int
  fOverdue : Int
  deriving DecidableEq
def rTapi_Standing (x : Tapi_Standing) : List DV := [.int .i64 x.fWaits, .int .i64 x.fLate, .int .i64 x.fTaken, .int .i64 x.fFlawed, .int .i64 x.fRefused, .int .i64 x.fOverdue]
attribute [push_cast] rTapi_Standing
theorem fT_Tapi_Standing {d0 d1 d2 d3 d4 d5 : DV} {v0 : Int} {v1 : Int} {v2 : Int} {v3 : Int} {v4 : Int} {v5 : Int} (h0 : d0 = .int .i64 v0) (h1 : d1 = .int .i64 v1) (h2 : d2 = .int .i64 v2) (h3 : d3 = .int .i64 v3) (h4 : d4 = .int .i64 v4) (h5 : d5 = .int .i64 v5) : [d0, d1, d2, d3, d4, d5] = rTapi_Standing ⟨v0, v1, v2, v3, v4, v5⟩ := by unfold rTapi_Standing; simp only [h0, h1, h2, h3, h4, h5, List.cons_append, List.nil_append, List.append_assoc, List.append_nil]
theorem cT_Tapi_Standing {d0 d1 d2 d3 d4 d5 : SV} {v0 : Int} {v1 : Int} {v2 : Int} {v3 : Int} {v4 : Int} {v5 : Int} (h0 : svle d0 (.d (.int .i64 v0))) (h1 : svle d1 (.d (.int .i64 v1))) (h2 : svle d2 (.d (.int .i64 v2))) (h3 : svle d3 (.d (.int .i64 v3))) (h4 : svle d4 (.d (.int .i64 v4))) (h5 : svle d5 (.d (.int .i64 v5))) : cellsle [d0, d1, d2, d3, d4, d5] (dR (rTapi_Standing ⟨v0, v1, v2, v3, v4, v5⟩)) := by have h := (cellsle.append (cellsle.consS h0 cellsle.nil) (cellsle.append (cellsle.consS h1 cellsle.nil) (cellsle.append (cellsle.consS h2 cellsle.nil) (cellsle.append (cellsle.consS h3 cellsle.nil) (cellsle.append (cellsle.consS h4 cellsle.nil) (cellsle.consS h5 cellsle.nil)))))); simpa only [rTapi_Standing, dR, List.map_append, List.map_cons, List.map_nil, List.cons_append, List.nil_append, List.append_assoc, List.append_nil] using h
/-- interchange/kit.IsMoment -/
def sc_kit_IsMoment : SC :=
  (.seq (.reg [.r 2 (.mv (.c (.d (.bool false))))])
  (.seq (.reg [.r 3 (.mv (.t 0)),
     .c 4 (.f 55) [.t 3, .c (.d (.int .i64 0)), .c (.d (.int .i64 1000000000000000))],
     .r 5 (.not (.t 4)),
     .r 2 (.mv (.t 5))])
  .ret))
theorem fit_kit_IsMoment : fits Tryz.prog 43 Tryz.f43 sc_kit_IsMoment [.t 2] 1 = true := by kernel_rfl

/-- interchange/reply.stateOf -/
def sc_reply_stateOf : SC :=
  (.seq (.reg [.r 2 (.boxI (.t 0)),
     .r 4 (.mv (.c (.d (.int .i64 0))))])
  (.seq (.block 0 (.seq (.reg [.r 6 (.fld 3 (.t 2)),
       .o 7 (.ld1 (.t 6)),
       .r 8 (.bin .geq (.t 7) (.c (.d (.int .i64 0)))),
       .r 5 (.mv (.t 8))])
    (.cond (.t 5)
      (.seq (.reg [.r 4 (.mv (.c (.d (.int .i64 3))))])
      .ret)
      (.seq (.reg [.r 10 (.mv (.t 1)),
         .r 11 (.fld 2 (.t 2)),
         .o 12 (.ld1 (.t 11)),
         .r 13 (.bin .gtr (.t 10) (.t 12)),
         .r 9 (.mv (.t 13))])
      (.cond (.t 9)
        (.seq (.reg [.r 4 (.mv (.c (.d (.int .i64 2))))])
        .ret)
        .skip)))))
  (.seq (.reg [.r 4 (.mv (.c (.d (.int .i64 1))))])
  .ret)))
theorem fit_reply_stateOf : fits Tryz.prog 45 Tryz.f45 sc_reply_stateOf [.t 4] 2 = true := by kernel_rfl

set_option maxRecDepth 100000 in
set_option maxHeartbeats 40000000 in
noncomputable def sims_GA_0_0 : (∀ (x0 : Int), {m : Option (Bool) // ∀ r, m = some r → PureSpec Tryz.prog 43 [.int .i64 x0] (.bool r)}) × (∀ (x0 : Tapi_Sending) (x1 : Int), {m : Option (Int) // ∀ r, m = some r → PureSpec Tryz.prog 45 [.agg (rTapi_Sending x0), .int .i64 x1] (.int .i64 r)}) := by
  refine ⟨?g0, ?g1⟩
  case' g0 => (intro x0; apply Subtype.mk; intro r hm; apply pure_walk Tryz.func43 fit_kit_IsMoment; unfold sc_kit_IsMoment)
  case' g1 => (intro x0 x1; apply Subtype.mk; intro r hm; apply pure_walk Tryz.func45 fit_reply_stateOf; unfold sc_reply_stateOf)
  all_goals (repeat' (first | with_reducible refine W_seq ?_ | with_reducible refine W_reg ?_ | with_reducible refine W_block ?_ | with_reducible refine W_skip ?_ | with_reducible refine W_ret ?_ | with_reducible refine O_nil ?_ | with_reducible refine K_seq ?_ | with_reducible refine K_seqR ?_ | with_reducible refine K_block ?_ | with_reducible refine K_blockR ?_ | with_reducible refine O_o2r ?_ | ((with_reducible apply O_r); (simp only [push_cast, seval]; rfl); (first | exact trivial)) | ((with_reducible apply O_cF hm); (simp only [push_cast, seval]; rfl); (first | apply spec_kit_Outside _ _ _); (any_goals ((repeat' (first | rfl)); done)); intro x hm) | ((with_reducible apply S_condB hm); (simp only [push_cast, seval]; rfl); intro hm; rotate_left; intro hm) | ((with_reducible apply K_endS hm); (focus (simp only [resOf, resL, RV.get, push_cast, seval]; rfl)); (focus ((repeat' (first | rfl)); done)))))
noncomputable def m_kit_IsMoment (x0 : Int) : Option (Bool) := (sims_GA_0_0.1 x0).1
theorem spec_kit_IsMoment (x0 : Int) : ∀ r, m_kit_IsMoment x0 = some r → PureSpec Tryz.prog 43 [.int .i64 x0] (.bool r) := (sims_GA_0_0.1 x0).2
noncomputable def m_reply_stateOf (x0 : Tapi_Sending) (x1 : Int) : Option (Int) := (sims_GA_0_0.2 x0 x1).1
theorem spec_reply_stateOf (x0 : Tapi_Sending) (x1 : Int) : ∀ r, m_reply_stateOf x0 x1 = some r → PureSpec Tryz.prog 45 [.agg (rTapi_Sending x0), .int .i64 x1] (.int .i64 r) := (sims_GA_0_0.2 x0 x1).2

def sc_reply_book_R8 : SC :=
  (.regE [.r 22 (.mv (.t 6)),
   .r 23 (.fld 3 (.t 8)),
   .r 24 (.ld1 (.t 23)),
   .r 25 (.mv (.t 6)),
   .r 26 (.fld 3 (.t 8)),
   .r 27 (.ld1 (.t 26)),
   .r 28 (.look .str (.nils) false (.t 25) (.t 27)),
   .r 29 (.mv (.t 4)),
   .r 30 (.len (.t 29)),
   .r 31 (.bslice 1 [.t 30]),
   .x 32 (.app 3 1 (.t 28) (.t 31)) [(0, 22, .mv (.t 6)), (1, 23, .fld 3 (.t 8)), (2, 24, .ld1 (.t 23))],
   .x 0 (.mset .str (.t 22) (.t 24) (.t 32)) []])
def sc_reply_book_L1 : SC :=
  (.seq (.reg [.r 15 (.bin .lss (.t 14) (.t 13))])
  (.seq (.cond (.t 15)
    .skip
    (.exit 0))
  (.seq (.block 1 (.seq (.reg [.r 16 (.mv (.t 14)),
       .r 17 (.idx 5 (.t 12) (.t 14)),
       .o 18 (.ldA 5 (.t 17)),
       .w 8 (.boxM (.c (.agg [.d (.int .i64 0), .d (.int .i64 0), .d (.int .i64 0), .d (.str []), .d (.int .i64 0)]))),
       .r 7 (.mv (.t 16)),
       .w 0 (.st 5 (.t 8) (.t 18))])
    (.seq (.seq (.reg [.r 19 (.fld 0 (.t 8)),
       .o 20 (.ld1 (.t 19)),
       .r 21 (.bin .eql (.t 20) (.c (.d (.int .i64 1))))])
    (.cond (.t 21)
      (.seq sc_reply_book_R8
      (.seq (.reg [.r 33 (.mv (.t 4)),
         .r 34 (.fld 3 (.t 8)),
         .o 35 (.ld1 (.t 34)),
         .r 36 (.fld 1 (.t 8)),
         .o 37 (.ld1 (.t 36)),
         .r 38 (.fld 2 (.t 8)),
         .o 39 (.ld1 (.t 38)),
         .r 40 (.build [.d (.str []), .d (.int .i64 0), .d (.int .i64 0), .d (.int .i64 0), .d (.int .i64 0)] [(0, 1, .t 35), (1, 1, .t 37), (2, 1, .t 39), (3, 1, .c (.d (.int .i64 (-1))))]),
         .r 41 (.bslice 5 [.t 40]),
         .w 42 (.app 99 5 (.t 33) (.t 41)),
         .r 4 (.mv (.t 42))])
      (.exit 1)))
      .skip))
    (.seq (.reg [.r 43 (.mv (.t 6)),
       .r 44 (.fld 3 (.t 8)),
       .o 45 (.ld1 (.t 44)),
       .o 46 (.look .str (.nils) false (.t 43) (.t 45)),
       .r 9 (.mv (.t 46))])
    (.seq (.seq (.reg [.r 47 (.mv (.t 9)),
       .r 48 (.len (.t 47)),
       .r 49 (.bin .eql (.t 48) (.c (.d (.int .i64 0))))])
    (.cond (.t 49)
      (.seq (.reg [.r 50 (.mv (.t 5)),
         .r 51 (.mv (.t 7)),
         .r 52 (.bslice 1 [.t 51]),
         .w 53 (.app 3 1 (.t 50) (.t 52)),
         .r 5 (.mv (.t 53))])
      (.exit 1))
      .skip))
    (.seq (.reg [.r 54 (.mv (.t 4)),
       .r 55 (.mv (.t 9)),
       .r 56 (.mv (.t 9)),
       .r 57 (.len (.t 56)),
       .r 58 (.bin .sub (.t 57) (.c (.d (.int .i64 1)))),
       .r 59 (.idx 1 (.t 55) (.t 58)),
       .o 60 (.ld1 (.t 59)),
       .r 61 (.idx 5 (.t 54) (.t 60)),
       .r 10 (.mv (.t 61))])
    (.seq (.regE [.r 62 (.mv (.t 10)),
       .r 63 (.mv (.t 10)),
       .r 64 (.fld 1 (.t 8)),
       .r 65 (.ld1 (.t 64)),
       .r 66 (.fld 4 (.t 8)),
       .r 67 (.ld1 (.t 66)),
       .r 68 (.nilc (.t 62)),
       .r 69 (.fld 3 (.t 68)),
       .x 0 (.st 1 (.t 69) (.t 65)) [(1, 63, .mv (.t 10)), (4, 66, .fld 4 (.t 8)), (5, 67, .ld1 (.t 66))],
       .r 70 (.nilc (.t 63)),
       .r 71 (.fld 4 (.t 70)),
       .x 0 (.st 1 (.t 71) (.t 67)) []])
    (.regE [.r 72 (.mv (.t 6)),
       .r 73 (.fld 3 (.t 8)),
       .r 74 (.ld1 (.t 73)),
       .r 75 (.mv (.t 9)),
       .r 76 (.mv (.t 9)),
       .r 77 (.len (.t 76)),
       .r 78 (.bin .sub (.t 77) (.c (.d (.int .i64 1)))),
       .x 79 (.trunc 1 (.t 75) (.t 78)) [(0, 72, .mv (.t 6)), (1, 73, .fld 3 (.t 8)), (2, 74, .ld1 (.t 73))],
       .x 0 (.mset .str (.t 72) (.t 74) (.t 79)) []]))))))))
  (.reg [.r 80 (.bin .add (.t 14) (.c (.d (.int .i64 1)))),
     .r 14 (.mv (.t 80))]))))
def sc_reply_book_B1 : SC := .block 0 (.loop sc_reply_book_L1)
/-- interchange/reply.book -/
def sc_reply_book : SC :=
  (.seq (.reg [.r 2 (.mv (.c (.nils))),
     .r 3 (.mv (.c (.nils)))])
  (.seq (.reg [.r 4 (.mv (.c (.nils)))])
  (.seq (.reg [.r 5 (.mv (.c (.nils)))])
  (.seq (.reg [.w 11 (.mkmap .str),
     .r 6 (.mv (.t 11))])
  (.seq (.seq (.reg [.r 12 (.mv (.t 0)),
     .r 13 (.len (.t 12)),
     .r 14 (.mv (.c (.d (.int .i64 0))))])
  sc_reply_book_B1)
  (.seq (.reg [.r 81 (.mv (.t 4)),
     .r 82 (.mv (.t 5)),
     .r 2 (.mv (.t 81)),
     .r 3 (.mv (.t 82))])
  .ret))))))
theorem fit_reply_book : fits Tryz.prog 69 Tryz.f69 sc_reply_book [.t 2, .t 3] 1 = true := by kernel_rfl

set_option maxRecDepth 100000 in
set_option maxHeartbeats 40000000 in
noncomputable def sims_GA_0_1 : (∀ (x0 : List Tapi_BookEvent), {m : Option ((List Tapi_Sending) × (List Int)) // ∀ r, m = some r → PureSpec Tryz.prog 69 [.slice (List.map rTapi_BookEvent x0)] (.tup [.slice (List.map rTapi_Sending r.1), .slice (List.map rowI r.2)])}) := by
  (intro x0; apply Subtype.mk; intro r hm; apply pure_walk Tryz.func69 fit_reply_book; unfold sc_reply_book)
  repeat' (first | with_reducible refine W_seq ?_ | with_reducible refine W_reg ?_ | with_reducible refine W_regE ?_ | with_reducible refine W_block ?_ | with_reducible refine W_skip ?_ | with_reducible refine W_ret ?_ | with_reducible refine W_exit ?_ | with_reducible refine O_nil ?_ | with_reducible refine K_seq ?_ | with_reducible refine K_seqE ?_ | with_reducible refine K_block ?_ | with_reducible refine K_blockE ?_ | ((with_reducible apply O_lookO hm); (iterate 3 (simp only [push_cast, seval, -List.reduceReplicate]; rfl)); decide; (intro _; rfl); rfl; (focus (simp only [push_cast, seval, -List.reduceReplicate]; done)); (focus (simp only [push_cast, seval, -List.reduceReplicate]; done)); intro hm; rotate_left; intro w hm) | with_reducible refine O_o2r ?_ | ((with_reducible apply O_idxr hm); (iterate 2 (simp only [push_cast, seval, -List.reduceReplicate]; rfl)); (intro _; rfl); intro e hm) | ((with_reducible apply O_idxVr hm); (iterate 3 (simp only [push_cast, seval, -List.reduceReplicate]; rfl)); intro e hm) | ((with_reducible apply O_r); (simp only [push_cast, seval, -List.reduceReplicate]; rfl); (first | exact trivial)) | ((with_reducible apply O_ldV1r hm); (iterate 2 (simp only [push_cast, seval, -List.reduceReplicate]; rfl)); (intro _; rfl); intro e hm) | ((with_reducible apply W_condT); (focus (simp only [push_cast, seval, -List.reduceReplicate]; done))) | ((with_reducible apply O_w); (simp only [push_cast, seval, -List.reduceReplicate]; rfl); (first | exact trivial)) | ((with_reducible apply O_appV hm); (iterate 4 (simp only [push_cast, seval, -List.reduceReplicate]; rfl)); (focus ((repeat' (first | rfl | (with_reducible first | apply fT_Tapi_Sending | apply dv_slice | apply fold_nil | apply fold_cons))); done)); decide; (intro _; rfl); intro hm) | ((with_reducible apply O_appVX hm); (iterate 2 (simp only [push_cast, seval, -List.reduceReplicate]; rfl)); (focus ((repeat' (first | rfl)); done)); (simp only [push_cast, seval, -List.reduceReplicate]; rfl); (focus ((repeat' (first | rfl | (with_reducible first | apply eR_nil | apply eR_cons))); done)); (intro _; rfl); (focus ((repeat' (first | exact Rer_nil | ((with_reducible apply Rer_cons); (focus (simp only [push_cast, seval, -List.reduceReplicate]; rfl)); (focus (first | exact trivial)); (focus (simp only [push_cast, seval, -List.reduceReplicate]))))); done)); intro hm) | ((with_reducible apply O_appNX hm); (focus (simp only [push_cast, seval, -List.reduceReplicate]; done)); (iterate 2 (simp only [push_cast, seval, -List.reduceReplicate]; rfl)); rfl; (focus ((repeat' (first | exact Rer_nil | ((with_reducible apply Rer_cons); (focus (simp only [push_cast, seval, -List.reduceReplicate]; rfl)); (focus (first | exact trivial)); (focus (simp only [push_cast, seval, -List.reduceReplicate]))))); done)); intro hm) | ((with_reducible apply O_stVX hm); (iterate 3 (simp only [push_cast, seval, -List.reduceReplicate]; rfl)); rfl; (intro _; rfl); rfl; (focus (intro a; simp only [push_cast, seval, -List.reduceReplicate]; rfl)); (focus (intro a; (repeat' (first | rfl | with_reducible apply eT_Tapi_Sending)); done)); (focus (intro _; (repeat' (first | exact Rer_nil | ((with_reducible apply Rer_cons); (focus (simp only [push_cast, seval, -List.reduceReplicate]; rfl)); (focus (first | exact trivial)); (focus (simp only [push_cast, seval, -List.reduceReplicate]))))); done)); intro e hm) | ((with_reducible apply O_truncX hm); (iterate 3 (simp only [push_cast, seval, -List.reduceReplicate]; rfl)); (focus (intro _; (repeat' (first | exact Rer_nil | ((with_reducible apply Rer_cons); (focus (simp only [push_cast, seval, -List.reduceReplicate]; rfl)); (focus (first | exact trivial)); (focus (simp only [push_cast, seval, -List.reduceReplicate]))))); done)); intro l hm) | ((with_reducible apply O_x); (simp only [push_cast, seval, -List.reduceReplicate]; rfl); (first | exact trivial); (focus ((repeat' (first | exact Rer_nil)); done))) | ((with_reducible apply O_lookM); (iterate 3 (simp only [push_cast, seval, -List.reduceReplicate]; rfl)); (focus (first | exact look_none (by assumption) | exact look_set)); rfl) | ((with_reducible apply S_condB hm); (simp only [push_cast, seval, -List.reduceReplicate]; rfl); intro hm; rotate_left; intro hm) | ((with_reducible apply K_end2 hm); (focus (simp only [resOf, resL, RV.get, push_cast, seval]; rfl)); (focus (first | (dsimp only; done))); (focus ((repeat' (first | rfl)); done))) | ((with_reducible apply K_leave hm); intro r hm) | ((apply S_loopY (b := 0) (X := sc_reply_book_B1) (x := sc_reply_book_L1) rfl (fun (c : SV × SV) (s : (List Tapi_Sending) × (List Int) × (List ((List UInt8) × (List Int))) × Int) => st [(4, .vec 4), (5, .vec 5), (6, .mp 11), (12, c.1), (13, c.2), (14, .d (.int .i64 s.2.2.2))] [(4, .vec 99 5 (vrow rTapi_Sending s.1)), (5, .vec 3 1 (vrow rowI s.2.1)), (11, .map .str (encM .str (ownV 3 (List.replicate 1 .sh) rowI) s.2.2.1))]) (c := (_, _)) (s0 := (_, _, _, _)) hm); (focus (first | (dsimp only; done))); (with_reducible refine Then.mk ?_ ?_); apply Imp.trans; (focus (apply imp_vecnil (slot := 4) (id := 4) (e := 99) (sz := 5); (focus (simp only [push_cast, seval, -List.reduceReplicate]; done)))); apply Imp.trans; (focus (apply imp_vecnil (slot := 5) (id := 5) (e := 3) (sz := 1); (focus (simp only [push_cast, seval, -List.reduceReplicate]; done))))) | ((apply W_openM (x := sc_reply_book_R8) 32 6 8 3 hm); (focus (simp only [push_cast, seval, -List.reduceReplicate]; rfl)); (focus (simp only [push_cast, seval, -List.reduceReplicate]; rfl)); (focus (simp only [push_cast, seval, -List.reduceReplicate]; rfl)); (focus decide); (focus (intro _; rfl)); (intro hl hm; unfold sc_reply_book_R8); rotate_left; (intro w hm; unfold sc_reply_book_R8)) | ((apply K_next (s' := (_, _, _, _)) hm); (focus (first | (dsimp only; done))); (focus ((apply imp_stT; (repeat' (first | with_reducible exact keepT_nil | with_reducible exact keepC_nil | with_reducible apply keepT_cons | with_reducible apply keepC_cons | ((with_reducible apply svle_eq); (focus (first | (simp only [push_cast, seval]; rfl))); (focus ((repeat' (first | rfl)); done))) | ((with_reducible apply chle_eq); (focus (first | (simp only [push_cast, seval]; rfl))); (first | with_reducible exact chle_rfl rfl)))); done)))) | ((apply K_brk (s' := (_, _, _, _)) hm); (focus (first | (dsimp only; done))); (focus ((apply imp_stT; (repeat' (first | with_reducible exact keepT_nil | with_reducible exact keepC_nil | with_reducible apply keepT_cons | with_reducible apply keepC_cons | ((with_reducible apply svle_eq); (focus (first | (simp only [push_cast, seval]; rfl))); (focus ((repeat' (first | rfl)); done))) | ((with_reducible apply chle_eq); (focus (first | (simp only [push_cast, seval]; rfl))); (first | with_reducible exact chle_rfl rfl)))); done)))) | ((apply K_next (s' := (_, _, _, _)) hm); (focus (first | (dsimp only; done))); (focus (apply Imp.trans; (focus (apply imp_closeR (id := 11) (id' := 32); (focus decide); (focus (simp only [push_cast, seval, -List.reduceReplicate]; rfl)); (focus rfl); (focus (simp only [push_cast, seval, -List.reduceReplicate]; rfl)); (focus ((repeat' (first | (with_reducible first | apply r_rfl | apply r_nil | apply r_cons | apply c_rowI) | ((with_reducible apply svle_rfl); (focus ((repeat' (first | rfl)); done))))); done)); (focus (intro _; rfl)))); (apply imp_stT; (repeat' (first | with_reducible exact keepT_nil | with_reducible exact keepC_nil | with_reducible apply keepT_cons | with_reducible apply keepC_cons | ((with_reducible apply svle_eq); (focus (first | (simp only [push_cast, seval]; rfl))); (focus ((repeat' (first | rfl)); done))) | ((with_reducible apply chle_eq); (focus (first | (simp only [push_cast, seval]; rfl))); (first | with_reducible exact chle_rfl rfl)))); done)))) | ((apply K_next (s' := (_, _, _, _)) hm); (focus (first | (dsimp only; done))); (focus (apply Imp.trans; (focus (apply imp_closeR (id := 11) (id' := 46); (focus decide); (focus (simp only [push_cast, seval, -List.reduceReplicate]; rfl)); (focus rfl); (focus (simp only [push_cast, seval, -List.reduceReplicate]; rfl)); (focus ((repeat' (first | (with_reducible first | apply r_rfl))); done)); (focus (intro _; rfl)))); (apply imp_stT; (repeat' (first | with_reducible exact keepT_nil | with_reducible exact keepC_nil | with_reducible apply keepT_cons | with_reducible apply keepC_cons | ((with_reducible apply svle_eq); (focus (first | (simp only [push_cast, seval]; rfl))); (focus ((repeat' (first | rfl)); done))) | ((with_reducible apply chle_eq); (focus (first | (simp only [push_cast, seval]; rfl))); (first | with_reducible exact chle_rfl rfl)))); done)))) | (((with_reducible apply LoopB.of); (focus (first | (dsimp only; done))); (focus ((intro _; repeat' (first | with_reducible exact impC_end | with_reducible refine impC_seq ?_)))); (intro s o hm; first | unfold sc_reply_book_L1); rotate_left; intro s hm)) | (((apply imp_stT; (repeat' (first | with_reducible exact keepT_nil | with_reducible exact keepC_nil | with_reducible apply keepT_cons | with_reducible apply keepC_cons | ((with_reducible apply svle_eq); (focus (first | (simp only [push_cast, seval]; rfl))); (focus ((repeat' (first | rfl)); done))) | ((with_reducible apply chle_eq); (focus (first | (simp only [push_cast, seval]; rfl))); (first | with_reducible exact chle_map0 | with_reducible apply chle_vec)) | (with_reducible first | apply r_nil))); done))))
noncomputable def m_reply_book (x0 : List Tapi_BookEvent) : Option ((List Tapi_Sending) × (List Int)) := (sims_GA_0_1 x0).1
theorem spec_reply_book (x0 : List Tapi_BookEvent) : ∀ r, m_reply_book x0 = some r → PureSpec Tryz.prog 69 [.slice (List.map rTapi_BookEvent x0)] (.tup [.slice (List.map rTapi_Sending r.1), .slice (List.map rowI r.2)]) := (sims_GA_0_1 x0).2

/-- interchange/reply.eventFault -/
def sc_reply_eventFault : SC :=
  (.seq (.reg [.r 4 (.mv (.c (.d (.int .i64 0))))])
  (.seq (.reg [.r 6 (.mv (.t 0)),
     .r 7 (.mv (.t 1)),
     .r 8 (.idx 5 (.t 6) (.t 7)),
     .o 9 (.ldA 5 (.t 8)),
     .w 5 (.boxM (.c (.agg [.d (.int .i64 0), .d (.int .i64 0), .d (.int .i64 0), .d (.str []), .d (.int .i64 0)]))),
     .w 0 (.st 5 (.t 5) (.t 9))])
  (.seq (.seq (.reg [.r 10 (.fld 0 (.t 5)),
     .o 11 (.ld1 (.t 10)),
     .c 12 (.f 55) [.t 11, .c (.d (.int .i64 1)), .c (.d (.int .i64 2))]])
  (.cond (.t 12)
    (.seq (.reg [.r 4 (.mv (.c (.d (.int .i64 4))))])
    .ret)
    .skip))
  (.seq (.seq (.reg [.r 13 (.fld 1 (.t 5)),
     .o 14 (.ld1 (.t 13)),
     .c 15 (.f 43) [.t 14],
     .r 16 (.not (.t 15))])
  (.cond (.t 16)
    (.seq (.reg [.r 4 (.mv (.c (.d (.int .i64 1))))])
    .ret)
    .skip))
  (.seq (.seq (.reg [.r 17 (.fld 3 (.t 5)),
     .o 18 (.ld1 (.t 17)),
     .c 19 (.f 28) [.t 18],
     .r 20 (.not (.t 19))])
  (.cond (.t 20)
    (.seq (.reg [.r 4 (.mv (.c (.d (.int .i64 3))))])
    .ret)
    .skip))
  (.seq (.block 0 (.seq (.reg (.r 22 (.fld 0 (.t 5)) :: .o 23 (.ld1 (.t 22)) :: .r 24 (.bin .eql (.t 23) (.c (.d (.int .i64 1)))) :: .r 25 (.mv (.t 24)) :: gapp [26, 27, 28] 25 true (.r 26 (.fld 4 (.t 5)) :: .r 27 (.ld1 (.t 26)) :: .r 28 (.bin .neq (.t 27) (.c (.d (.int .i64 0)))) :: []) (.r 29 (.pick (.t 25) (.t 28) (.c (.d (.bool false)))) :: .r 21 (.mv (.t 29)) :: [])))
    (.cond (.t 21)
      (.seq (.reg [.r 4 (.mv (.c (.d (.int .i64 3))))])
      .ret)
      (.seq (.reg (.r 31 (.fld 0 (.t 5)) :: .o 32 (.ld1 (.t 31)) :: .r 33 (.bin .eql (.t 32) (.c (.d (.int .i64 1)))) :: .r 34 (.mv (.t 33)) :: gapp [35, 36, 37, 38, 39, 40, 41, 42] 34 true (.r 35 (.fld 2 (.t 5)) :: .r 36 (.ld1 (.t 35)) :: .r 37 (.fld 1 (.t 5)) :: .r 38 (.ld1 (.t 37)) :: .r 39 (.fld 1 (.t 5)) :: .r 40 (.ld1 (.t 39)) :: .r 41 (.bin .add (.t 40) (.c (.d (.int .i64 10000000)))) :: .c 42 (.f 55) [.t 36, .t 38, .t 41] :: []) (.r 43 (.pick (.t 34) (.t 42) (.c (.d (.bool false)))) :: .r 30 (.mv (.t 43)) :: [])))
      (.cond (.t 30)
        (.seq (.reg [.r 4 (.mv (.c (.d (.int .i64 1))))])
        .ret)
        (.seq (.reg (.r 45 (.fld 0 (.t 5)) :: .o 46 (.ld1 (.t 45)) :: .r 47 (.bin .eql (.t 46) (.c (.d (.int .i64 2)))) :: .r 48 (.mv (.t 47)) :: gapp [49, 50, 51] 48 true (.r 49 (.fld 2 (.t 5)) :: .r 50 (.ld1 (.t 49)) :: .r 51 (.bin .neq (.t 50) (.c (.d (.int .i64 0)))) :: []) (.r 52 (.pick (.t 48) (.t 51) (.c (.d (.bool false)))) :: .r 44 (.mv (.t 52)) :: [])))
        (.cond (.t 44)
          (.seq (.reg [.r 4 (.mv (.c (.d (.int .i64 3))))])
          .ret)
          (.seq (.reg (.r 54 (.fld 0 (.t 5)) :: .o 55 (.ld1 (.t 54)) :: .r 56 (.bin .eql (.t 55) (.c (.d (.int .i64 2)))) :: .r 57 (.mv (.t 56)) :: gapp [58, 59, 60, 61] 57 true (.r 58 (.fld 4 (.t 5)) :: .r 59 (.ld1 (.t 58)) :: .c 60 (.f 29) [.t 59] :: .r 61 (.not (.t 60)) :: []) (.r 62 (.pick (.t 57) (.t 61) (.c (.d (.bool false)))) :: .r 53 (.mv (.t 62)) :: [])))
          (.cond (.t 53)
            (.seq (.reg [.r 4 (.mv (.c (.d (.int .i64 4))))])
            .ret)
            (.seq (.regD (.r 64 (.mv (.t 1)) :: .r 65 (.bin .gtr (.t 64) (.c (.d (.int .i64 0)))) :: .r 66 (.mv (.t 65)) :: gapp [67, 68, 69, 70, 71, 72, 73, 74, 75] 66 true (.r 67 (.fld 1 (.t 5)) :: .r 68 (.ld1 (.t 67)) :: .r 69 (.mv (.t 0)) :: .r 70 (.mv (.t 1)) :: .r 71 (.bin .sub (.t 70) (.c (.d (.int .i64 1)))) :: .r 72 (.idx 5 (.t 69) (.t 71)) :: .r 73 (.fld 1 (.t 72)) :: .r 74 (.ld1 (.t 73)) :: .r 75 (.bin .lss (.t 68) (.t 74)) :: []) (.r 76 (.pick (.t 66) (.t 75) (.c (.d (.bool false)))) :: .r 63 (.mv (.t 76)) :: [])))
            (.cond (.t 63)
              (.seq (.reg [.r 4 (.mv (.c (.d (.int .i64 8))))])
              .ret)
              .skip)))))))))))
  (.seq (.reg [.r 4 (.mv (.c (.d (.int .i64 0))))])
  .ret)))))))
theorem fit_reply_eventFault : fits Tryz.prog 68 Tryz.f68 sc_reply_eventFault [.t 4] 2 = true := by kernel_rfl

def sc_reply_at_L1 : SC :=
  (.seq (.seq (.reg (.r 8 (.mv (.t 5)) :: .r 9 (.mv (.t 0)) :: .r 10 (.len (.t 9)) :: .r 11 (.bin .lss (.t 8) (.t 10)) :: .r 12 (.mv (.t 11)) :: gapp [13, 14, 15, 16, 17, 18, 19] 12 true (.r 13 (.mv (.t 0)) :: .r 14 (.mv (.t 5)) :: .r 15 (.idx 5 (.t 13) (.t 14)) :: .r 16 (.fld 1 (.t 15)) :: .r 17 (.ld1 (.t 16)) :: .r 18 (.mv (.t 1)) :: .r 19 (.bin .leq (.t 17) (.t 18)) :: []) (.r 20 (.pick (.t 12) (.t 19) (.c (.d (.bool false)))) :: [])))
  (.cond (.t 20)
    .skip
    (.exit 0)))
  (.block 1 (.reg [.r 21 (.mv (.t 5)),
       .r 22 (.bin .add (.t 21) (.c (.d (.int .i64 1)))),
       .r 5 (.mv (.t 22))])))
def sc_reply_at_B1 : SC := .block 0 (.loop sc_reply_at_L1)
/-- interchange/reply.at -/
def sc_reply_at : SC :=
  (.seq (.reg [.r 4 (.mv (.c (.nils)))])
  (.seq (.reg [.r 5 (.mv (.c (.d (.int .i64 0))))])
  (.seq sc_reply_at_B1
  (.seq (.reg [.r 24 (.mv (.t 0)),
     .r 25 (.mv (.t 5)),
     .r 26 (.slc 5 (.t 24) none (some (.t 25))),
     .c 27 (.f 69) [.t 26],
     .r 23 (.mv (.t 27)),
     .r 28 (.ext (.t 23) 0),
     .r 29 (.ext (.t 23) 1),
     .r 6 (.mv (.t 28)),
     .r 7 (.mv (.t 29))])
  (.seq (.reg [.r 30 (.mv (.t 6)),
     .r 4 (.mv (.t 30))])
  .ret)))))
theorem fit_reply_at : fits Tryz.prog 44 Tryz.f44 sc_reply_at [.t 4] 2 = true := by kernel_rfl

set_option maxRecDepth 100000 in
set_option maxHeartbeats 40000000 in
noncomputable def sims_GA_1_0 : (∀ (x0 : List Tapi_BookEvent) (x1 : Int), {m : Option (Int) // ∀ r, m = some r → PureSpec Tryz.prog 68 [.slice (List.map rTapi_BookEvent x0), .int .i64 x1] (.int .i64 r)}) × (∀ (x0 : List Tapi_BookEvent) (x1 : Int), {m : Option ((List Tapi_Sending)) // ∀ r, m = some r → PureSpec Tryz.prog 44 [.slice (List.map rTapi_BookEvent x0), .int .i64 x1] (.slice (List.map rTapi_Sending r))}) := by
  refine ⟨?g0, ?g1⟩
  case' g0 => (intro x0 x1; apply Subtype.mk; intro r hm; apply pure_walk Tryz.func68 fit_reply_eventFault; unfold sc_reply_eventFault)
  case' g1 => (intro x0 x1; apply Subtype.mk; intro r hm; apply pure_walk Tryz.func44 fit_reply_at; unfold sc_reply_at)
  all_goals (repeat' (first | with_reducible refine W_seq ?_ | with_reducible refine W_reg ?_ | with_reducible refine W_regD ?_ | with_reducible refine W_block ?_ | with_reducible refine W_skip ?_ | with_reducible refine W_ret ?_ | with_reducible refine W_exit ?_ | with_reducible refine O_nil ?_ | with_reducible refine K_seq ?_ | with_reducible refine K_seqE ?_ | with_reducible refine K_seqR ?_ | with_reducible refine K_block ?_ | with_reducible refine K_blockR ?_ | with_reducible refine O_o2r ?_ | ((with_reducible apply O_idxr hm); (iterate 2 (simp only [push_cast, seval]; rfl)); (intro _; rfl); intro e hm) | ((with_reducible apply O_slcr hm); (iterate 3 (simp only [push_cast, seval]; rfl)); (intro _; rfl); intro e hm) | ((with_reducible apply O_r); (simp only [push_cast, seval]; rfl); (first | exact trivial)) | ((with_reducible apply O_and hm); (simp only [push_cast, seval]; rfl); rfl; intro v hm; rotate_left; intro v g hm) | ((with_reducible apply O_cF hm); (simp only [push_cast, seval]; rfl); (first | apply spec_kit_Outside _ _ _ | apply spec_kit_IsMoment _ | apply spec_kit_IsRef _ | apply spec_reply_isVerdict _ | apply spec_reply_book _); (any_goals ((repeat' (first | rfl)); done)); intro x hm) | ((with_reducible apply O_w); (simp only [push_cast, seval]; rfl); (first | exact trivial)) | ((with_reducible apply S_condB hm); (simp only [push_cast, seval]; rfl); intro hm; rotate_left; intro hm) | ((with_reducible apply K_endS hm); (focus (simp only [resOf, resL, RV.get, push_cast, seval]; rfl)); (focus ((repeat' (first | rfl)); done))) | ((with_reducible apply K_bool hm); (simp only [push_cast, seval]; rfl)) | ((with_reducible apply K_leave hm); intro r hm) | ((apply S_loopY (b := 0) (X := sc_reply_at_B1) (x := sc_reply_at_L1) rfl (fun (c : SV × SV) (s : Int) => st [(0, c.1), (1, c.2), (5, .d (.int .i64 s))] []) (c := (_, _)) (s0 := _) hm); (focus (first | (dsimp only; done))); (with_reducible refine Then.mk ?_ ?_)) | ((apply K_next (s' := _) hm); (focus (first | (dsimp only; done)))) | ((apply K_brk (s' := _) hm); (focus (first | (dsimp only; done)))) | (((with_reducible apply LoopB.of); (focus (first | (dsimp only; done))); (focus ((intro _; repeat' (first | with_reducible exact impC_end | with_reducible refine impC_seq ?_)))); (intro s o hm; first | unfold sc_reply_at_L1); rotate_left; intro s hm)) | (((apply imp_stT; (repeat' (first | with_reducible exact keepT_nil | with_reducible exact keepC_nil | with_reducible apply keepT_cons | ((with_reducible apply svle_eq); (focus (first | (simp only [push_cast, seval]; rfl))); (focus ((repeat' (first | rfl)); done))))); done)))))
noncomputable def m_reply_eventFault (x0 : List Tapi_BookEvent) (x1 : Int) : Option (Int) := (sims_GA_1_0.1 x0 x1).1
theorem spec_reply_eventFault (x0 : List Tapi_BookEvent) (x1 : Int) : ∀ r, m_reply_eventFault x0 x1 = some r → PureSpec Tryz.prog 68 [.slice (List.map rTapi_BookEvent x0), .int .i64 x1] (.int .i64 r) := (sims_GA_1_0.1 x0 x1).2
noncomputable def m_reply_at (x0 : List Tapi_BookEvent) (x1 : Int) : Option ((List Tapi_Sending)) := (sims_GA_1_0.2 x0 x1).1
theorem spec_reply_at (x0 : List Tapi_BookEvent) (x1 : Int) : ∀ r, m_reply_at x0 x1 = some r → PureSpec Tryz.prog 44 [.slice (List.map rTapi_BookEvent x0), .int .i64 x1] (.slice (List.map rTapi_Sending r)) := (sims_GA_1_0.2 x0 x1).2

def sc_reply_CheckBook_L1 : SC :=
  (.seq (.reg [.r 11 (.bin .lss (.t 10) (.t 9))])
  (.seq (.cond (.t 11)
    .skip
    (.exit 0))
  (.seq (.block 1 (.seq (.reg [.r 12 (.mv (.t 10)),
       .r 3 (.mv (.t 12))])
    (.seq (.reg [.r 13 (.mv (.t 0)),
       .r 14 (.mv (.t 3)),
       .c 15 (.f 68) [.t 13, .t 14],
       .r 4 (.mv (.t 15))])
    (.seq (.reg [.r 16 (.mv (.t 4)),
       .r 17 (.bin .neq (.t 16) (.c (.d (.int .i64 0))))])
    (.cond (.t 17)
      (.seq (.reg [.r 18 (.mv (.t 4)),
         .r 2 (.mv (.t 18))])
      .ret)
      .skip)))))
  (.reg [.r 19 (.bin .add (.t 10) (.c (.d (.int .i64 1)))),
     .r 10 (.mv (.t 19))]))))
def sc_reply_CheckBook_B1 : SC := .block 0 (.loop sc_reply_CheckBook_L1)
/-- interchange/reply.CheckBook -/
def sc_reply_CheckBook : SC :=
  (.seq (.reg [.r 2 (.mv (.c (.d (.int .i64 0))))])
  (.seq (.seq (.reg [.r 5 (.mv (.t 0)),
     .r 6 (.len (.t 5)),
     .r 7 (.bin .gtr (.t 6) (.c (.d (.int .i64 3000))))])
  (.cond (.t 7)
    (.seq (.reg [.r 2 (.mv (.c (.d (.int .i64 2))))])
    .ret)
    .skip))
  (.seq (.seq (.reg [.r 8 (.mv (.t 0)),
     .r 9 (.len (.t 8)),
     .r 10 (.mv (.c (.d (.int .i64 0))))])
  sc_reply_CheckBook_B1)
  (.seq (.reg [.r 2 (.mv (.c (.d (.int .i64 0))))])
  .ret))))
theorem fit_reply_CheckBook : fits Tryz.prog 42 Tryz.f42 sc_reply_CheckBook [.t 2] 1 = true := by kernel_rfl

set_option maxRecDepth 100000 in
set_option maxHeartbeats 40000000 in
noncomputable def sims_GA_2_0 : (∀ (x0 : List Tapi_BookEvent), {m : Option (Int) // ∀ r, m = some r → PureSpec Tryz.prog 42 [.slice (List.map rTapi_BookEvent x0)] (.int .i64 r)}) := by
  (intro x0; apply Subtype.mk; intro r hm; apply pure_walk Tryz.func42 fit_reply_CheckBook; unfold sc_reply_CheckBook)
  repeat' (first | with_reducible refine W_seq ?_ | with_reducible refine W_reg ?_ | with_reducible refine W_block ?_ | with_reducible refine W_skip ?_ | with_reducible refine W_ret ?_ | with_reducible refine W_exit ?_ | with_reducible refine O_nil ?_ | with_reducible refine K_seq ?_ | with_reducible refine K_seqE ?_ | with_reducible refine K_seqR ?_ | with_reducible refine K_block ?_ | with_reducible refine K_blockR ?_ | ((with_reducible apply O_r); (simp only [push_cast, seval]; rfl); (first | exact trivial)) | ((with_reducible apply O_cF hm); (simp only [push_cast, seval]; rfl); (first | apply spec_reply_eventFault _ _); (any_goals ((repeat' (first | rfl)); done)); intro x hm) | ((with_reducible apply S_condB hm); (simp only [push_cast, seval]; rfl); intro hm; rotate_left; intro hm) | ((with_reducible apply K_endS hm); (focus (simp only [resOf, resL, RV.get, push_cast, seval]; rfl)); (focus ((repeat' (first | rfl)); done))) | ((with_reducible apply K_leave hm); intro r hm) | ((with_reducible apply K_leaveR hm); intro r hm) | ((apply S_loopY (b := 0) (X := sc_reply_CheckBook_B1) (x := sc_reply_CheckBook_L1) rfl (fun (c : SV × SV) (s : Int) => st [(0, c.1), (9, c.2), (10, .d (.int .i64 s))] []) (c := (_, _)) (s0 := _) hm); (focus (first | (dsimp only; done))); (with_reducible refine Then.mk ?_ ?_)) | ((apply K_next (s' := _) hm); (focus (first | (dsimp only; done)))) | ((apply K_brk (s' := _) hm); (focus (first | (dsimp only; done)))) | (((with_reducible apply K_brkR hm); intro r hm)) | (((with_reducible apply LoopB.of); (focus (first | (dsimp only; done))); (focus ((intro _; repeat' (first | with_reducible exact impC_end | with_reducible refine impC_seq ?_)))); (intro s o hm; first | unfold sc_reply_CheckBook_L1); rotate_left; intro s hm)) | (((apply imp_stT; (repeat' (first | with_reducible exact keepT_nil | with_reducible exact keepC_nil | with_reducible apply keepT_cons | ((with_reducible apply svle_eq); (focus (first | (simp only [push_cast, seval]; rfl))); (focus ((repeat' (first | rfl)); done))))); done))))
noncomputable def m_reply_CheckBook (x0 : List Tapi_BookEvent) : Option (Int) := (sims_GA_2_0 x0).1
theorem spec_reply_CheckBook (x0 : List Tapi_BookEvent) : ∀ r, m_reply_CheckBook x0 = some r → PureSpec Tryz.prog 42 [.slice (List.map rTapi_BookEvent x0)] (.int .i64 r) := (sims_GA_2_0 x0).2

def sc_reply_StandingAt_L1 : SC :=
  (.seq (.reg [.r 26 (.bin .lss (.t 25) (.t 24))])
  (.seq (.cond (.t 26)
    .skip
    (.exit 0))
  (.seq (.block 1 (.seq (.reg [.r 27 (.idx 5 (.t 23) (.t 25)),
       .o 28 (.ldA 5 (.t 27)),
       .w 9 (.boxM (.c (.agg [.d (.str []), .d (.int .i64 0), .d (.int .i64 0), .d (.int .i64 0), .d (.int .i64 0)]))),
       .w 0 (.st 5 (.t 9) (.t 28))])
    (.seq (.seq (.reg [.o 29 (.ldA 5 (.t 9)),
       .r 30 (.mv (.t 1)),
       .c 31 (.f 45) [.t 29, .t 30]])
    (.block 2 (.seq (.reg [.r 33 (.bin .eql (.t 31) (.c (.d (.int .i64 1)))),
         .r 32 (.mv (.t 33))])
      (.cond (.t 32)
        (.reg [.r 34 (.fld 0 (.t 7)),
           .o 35 (.ld1 (.t 34)),
           .r 36 (.bin .add (.t 35) (.c (.d (.int .i64 1)))),
           .r 37 (.fld 0 (.t 7)),
           .w 0 (.st 1 (.t 37) (.t 36))])
        (.seq (.reg [.r 39 (.bin .eql (.t 31) (.c (.d (.int .i64 2)))),
           .r 38 (.mv (.t 39))])
        (.cond (.t 38)
          (.reg [.r 40 (.fld 1 (.t 7)),
             .o 41 (.ld1 (.t 40)),
             .r 42 (.bin .add (.t 41) (.c (.d (.int .i64 1)))),
             .r 43 (.fld 1 (.t 7)),
             .w 0 (.st 1 (.t 43) (.t 42))])
          .skip))))))
    (.seq (.seq (.reg [.r 44 (.fld 4 (.t 9)),
       .o 45 (.ld1 (.t 44))])
    (.block 3 (.seq (.reg [.r 47 (.bin .eql (.t 45) (.c (.d (.int .i64 1)))),
         .r 46 (.mv (.t 47))])
      (.cond (.t 46)
        (.reg [.r 48 (.fld 2 (.t 7)),
           .o 49 (.ld1 (.t 48)),
           .r 50 (.bin .add (.t 49) (.c (.d (.int .i64 1)))),
           .r 51 (.fld 2 (.t 7)),
           .w 0 (.st 1 (.t 51) (.t 50))])
        (.seq (.reg [.r 53 (.bin .eql (.t 45) (.c (.d (.int .i64 2)))),
           .r 52 (.mv (.t 53))])
        (.cond (.t 52)
          (.reg [.r 54 (.fld 3 (.t 7)),
             .o 55 (.ld1 (.t 54)),
             .r 56 (.bin .add (.t 55) (.c (.d (.int .i64 1)))),
             .r 57 (.fld 3 (.t 7)),
             .w 0 (.st 1 (.t 57) (.t 56))])
          (.seq (.reg [.r 59 (.bin .eql (.t 45) (.c (.d (.int .i64 3)))),
             .r 58 (.mv (.t 59))])
          (.cond (.t 58)
            (.reg [.r 60 (.fld 4 (.t 7)),
               .o 61 (.ld1 (.t 60)),
               .r 62 (.bin .add (.t 61) (.c (.d (.int .i64 1)))),
               .r 63 (.fld 4 (.t 7)),
               .w 0 (.st 1 (.t 63) (.t 62))])
            .skip))))))))
    (.seq (.reg [.r 64 (.fld 3 (.t 9)),
       .o 65 (.ld1 (.t 64)),
       .r 66 (.fld 2 (.t 9)),
       .o 67 (.ld1 (.t 66)),
       .r 68 (.bin .gtr (.t 65) (.t 67))])
    (.cond (.t 68)
      (.reg [.r 69 (.fld 5 (.t 7)),
         .o 70 (.ld1 (.t 69)),
         .r 71 (.bin .add (.t 70) (.c (.d (.int .i64 1)))),
         .r 72 (.fld 5 (.t 7)),
         .w 0 (.st 1 (.t 72) (.t 71))])
      .skip))))))
  (.reg [.r 73 (.bin .add (.t 25) (.c (.d (.int .i64 1)))),
     .r 25 (.mv (.t 73))]))))
def sc_reply_StandingAt_B1 : SC := .block 0 (.loop sc_reply_StandingAt_L1)
/-- interchange/reply.StandingAt -/
def sc_reply_StandingAt : SC :=
  (.seq (.reg [.w 4 (.boxM (.c (.agg [.d (.int .i64 0), .d (.int .i64 0), .d (.int .i64 0), .d (.int .i64 0), .d (.int .i64 0), .d (.int .i64 0)]))),
     .r 5 (.mv (.c (.d (.int .i64 0))))])
  (.seq (.seq (.reg [.r 10 (.mv (.t 0)),
     .c 11 (.f 42) [.t 10],
     .r 6 (.mv (.t 11))])
  (.seq (.reg [.r 12 (.mv (.t 6)),
     .r 13 (.bin .neq (.t 12) (.c (.d (.int .i64 0))))])
  (.cond (.t 13)
    (.seq (.reg [.r 14 (.build [.d (.int .i64 0), .d (.int .i64 0), .d (.int .i64 0), .d (.int .i64 0), .d (.int .i64 0), .d (.int .i64 0)] []),
       .r 15 (.mv (.t 6)),
       .w 0 (.st 6 (.t 4) (.t 14)),
       .r 5 (.mv (.t 15))])
    .ret)
    .skip)))
  (.seq (.seq (.reg [.r 16 (.mv (.t 1)),
     .c 17 (.f 43) [.t 16],
     .r 18 (.not (.t 17))])
  (.cond (.t 18)
    (.seq (.reg [.r 19 (.build [.d (.int .i64 0), .d (.int .i64 0), .d (.int .i64 0), .d (.int .i64 0), .d (.int .i64 0), .d (.int .i64 0)] []),
       .w 0 (.st 6 (.t 4) (.t 19)),
       .r 5 (.mv (.c (.d (.int .i64 1))))])
    .ret)
    .skip))
  (.seq (.reg [.r 20 (.build [.d (.int .i64 0), .d (.int .i64 0), .d (.int .i64 0), .d (.int .i64 0), .d (.int .i64 0), .d (.int .i64 0)] []),
     .w 7 (.boxM (.c (.agg [.d (.int .i64 0), .d (.int .i64 0), .d (.int .i64 0), .d (.int .i64 0), .d (.int .i64 0), .d (.int .i64 0)]))),
     .w 0 (.st 6 (.t 7) (.t 20))])
  (.seq (.seq (.reg [.r 21 (.mv (.t 0)),
     .r 22 (.mv (.t 1)),
     .c 23 (.f 44) [.t 21, .t 22],
     .r 24 (.len (.t 23)),
     .r 25 (.mv (.c (.d (.int .i64 0))))])
  sc_reply_StandingAt_B1)
  (.seq (.reg [.o 74 (.ldA 6 (.t 7)),
     .w 0 (.st 6 (.t 4) (.t 74)),
     .r 5 (.mv (.c (.d (.int .i64 0))))])
  .ret))))))
theorem fit_reply_StandingAt : fits Tryz.prog 18 Tryz.f18 sc_reply_StandingAt [.cell 4 6, .t 5] 2 = true := by kernel_rfl

set_option maxRecDepth 100000 in
set_option maxHeartbeats 40000000 in
noncomputable def sims_GA_3_0 : (∀ (x0 : List Tapi_BookEvent) (x1 : Int), {m : Option (Tapi_Standing × Int) // ∀ r, m = some r → PureSpec Tryz.prog 18 [.slice (List.map rTapi_BookEvent x0), .int .i64 x1] (.tup [.agg (rTapi_Standing r.1), .int .i64 r.2])}) := by
  (intro x0 x1; apply Subtype.mk; intro r hm; apply pure_walk Tryz.func18 fit_reply_StandingAt; unfold sc_reply_StandingAt)
  repeat' (first | with_reducible refine W_seq ?_ | with_reducible refine W_reg ?_ | with_reducible refine W_block ?_ | with_reducible refine W_skip ?_ | with_reducible refine W_ret ?_ | with_reducible refine W_exit ?_ | with_reducible refine O_nil ?_ | with_reducible refine K_seq ?_ | with_reducible refine K_seqE ?_ | with_reducible refine K_seqR ?_ | with_reducible refine K_block ?_ | with_reducible refine O_o2r ?_ | ((with_reducible apply O_idxr hm); (iterate 2 (simp only [push_cast, seval]; rfl)); (intro _; rfl); intro e hm) | ((with_reducible apply O_r); (simp only [push_cast, seval]; rfl); (first | exact trivial)) | ((with_reducible apply O_cF hm); (simp only [push_cast, seval]; rfl); (first | apply spec_reply_CheckBook _ | apply spec_kit_IsMoment _ | apply spec_reply_at _ _ | apply spec_reply_stateOf _ _); (any_goals ((repeat' (first | rfl)); done)); intro x hm) | ((with_reducible apply O_w); (simp only [push_cast, seval]; rfl); (first | exact trivial)) | ((with_reducible apply S_condB hm); (simp only [push_cast, seval]; rfl); intro hm; rotate_left; intro hm) | ((with_reducible apply K_end2 hm); (focus (simp only [resOf, resL, RV.get, push_cast, seval]; rfl)); (focus (first | (dsimp only; done))); (focus ((repeat' (first | rfl | (with_reducible first | apply fT_Tapi_Standing | apply f_tup | apply f_agg | apply f_cons))); done))) | ((with_reducible apply K_leave hm); intro r hm) | ((apply S_loopY (b := 0) (X := sc_reply_StandingAt_B1) (x := sc_reply_StandingAt_L1) rfl (fun (c : SV × Ch × SV × SV) (s : Tapi_Standing × Int) => st [(1, c.1), (4, .ref 4 0), (7, .ref 7 0), (23, c.2.2.1), (24, c.2.2.2), (25, .d (.int .i64 s.2))] [(4, c.2.1), (7, .box (dR (rTapi_Standing s.1)))]) (c := (_, _, _, _)) (s0 := (_, _)) hm); (focus (first | (dsimp only; done))); (with_reducible refine Then.mk ?_ ?_)) | ((apply K_next (s' := (_, _)) hm); (focus (first | (dsimp only; done)))) | ((apply K_brk (s' := (_, _)) hm); (focus (first | (dsimp only; done)))) | (((with_reducible apply LoopB.of); (focus (first | (dsimp only; done))); (focus ((intro _; repeat' (first | with_reducible exact impC_end | with_reducible refine impC_seq ?_)))); (intro s o hm; first | unfold sc_reply_StandingAt_L1); rotate_left; intro s hm)) | (((apply imp_stT; (repeat' (first | with_reducible exact keepT_nil | with_reducible exact keepC_nil | with_reducible apply keepT_cons | with_reducible apply keepC_cons | ((with_reducible apply svle_eq); (focus (first | (simp only [push_cast, seval]; rfl) | rfl)); (focus ((repeat' (first | rfl)); done))) | ((with_reducible apply chle_eq); (focus (first | (simp only [push_cast, seval]; rfl))); (first | with_reducible exact chle_rfl rfl | with_reducible apply chle_box)) | (with_reducible first | apply cT_Tapi_Standing))); done))))
noncomputable def m_reply_StandingAt (x0 : List Tapi_BookEvent) (x1 : Int) : Option (Tapi_Standing × Int) := (sims_GA_3_0 x0 x1).1
theorem spec_reply_StandingAt (x0 : List Tapi_BookEvent) (x1 : Int) : ∀ r, m_reply_StandingAt x0 x1 = some r → PureSpec Tryz.prog 18 [.slice (List.map rTapi_BookEvent x0), .int .i64 x1] (.tup [.agg (rTapi_Standing r.1), .int .i64 r.2]) := (sims_GA_3_0 x0 x1).2

/-- interchange/interchangelaw7.awake -/
def sc_interchangelaw7_awake : SC :=
  (.seq (.reg [.r 0 (.mv (.c (.d (.bool false))))])
  (.seq (.reg [.r 4 (.build [.d (.int .i64 0), .d (.int .i64 0), .d (.int .i64 0), .d (.str []), .d (.int .i64 0)] [(0, 1, .c (.d (.int .i64 1))), (3, 1, .c (.d (.str [65])))]),
     .r 5 (.bslice 5 [.t 4]),
     .c 6 (.f 18) [.t 5, .c (.d (.int .i64 0))],
     .r 3 (.mv (.t 6)),
     .r 7 (.ext (.t 3) 0),
     .r 8 (.ext (.t 3) 1),
     .w 1 (.boxM (.c (.agg [.d (.int .i64 0), .d (.int .i64 0), .d (.int .i64 0), .d (.int .i64 0), .d (.int .i64 0), .d (.int .i64 0)]))),
     .w 0 (.st 6 (.t 1) (.t 7)),
     .r 2 (.mv (.t 8))])
  (.seq (.reg (.r 9 (.mv (.t 2)) :: .r 10 (.bin .eql (.t 9) (.c (.d (.int .i64 0)))) :: .r 11 (.mv (.t 10)) :: gapp [12, 13, 14] 11 true (.r 12 (.fld 0 (.t 1)) :: .r 13 (.ld1 (.t 12)) :: .r 14 (.bin .eql (.t 13) (.c (.d (.int .i64 1)))) :: []) (.r 15 (.pick (.t 11) (.t 14) (.c (.d (.bool false)))) :: .r 0 (.mv (.t 15)) :: [])))
  .ret)))
theorem fit_interchangelaw7_awake : fits Tryz.prog 8 Tryz.f8 sc_interchangelaw7_awake [.t 0] 0 = true := by kernel_rfl

set_option maxRecDepth 100000 in
set_option maxHeartbeats 40000000 in
noncomputable def sims_GA_4_0 : ({m : Option (Bool) // ∀ r, m = some r → PureSpec Tryz.prog 8 [] (.bool r)}) := by
  (apply Subtype.mk; intro r hm; apply pure_walk Tryz.func8 fit_interchangelaw7_awake; unfold sc_interchangelaw7_awake)
  repeat' (first | with_reducible refine W_seq ?_ | with_reducible refine W_reg ?_ | with_reducible refine W_ret ?_ | with_reducible refine O_nil ?_ | with_reducible refine K_seq ?_ | ((with_reducible apply O_r); (simp only [push_cast, seval]; rfl); (first | exact trivial)) | ((with_reducible apply O_and hm); (simp only [push_cast, seval]; rfl); rfl; intro v hm; rotate_left; intro v g hm) | ((with_reducible apply O_cF hm); (simp only [push_cast, seval]; rfl); (first | apply spec_reply_StandingAt _ _); (any_goals ((repeat' (first | rfl | (with_reducible first | apply fT_Tapi_BookEvent | apply dv_slice | apply f_cons | apply fold_nil | apply fold_cons))); done)); intro x hm) | ((with_reducible apply O_w); (simp only [push_cast, seval]; rfl); (first | exact trivial)) | ((with_reducible apply K_endS hm); (focus (simp only [resOf, resL, RV.get, push_cast, seval]; rfl)); (focus ((repeat' (first | rfl)); done))) | ((with_reducible apply K_bool hm); (simp only [push_cast, seval]; rfl)))
noncomputable def m_interchangelaw7_awake : Option (Bool) := (sims_GA_4_0 ).1
theorem spec_interchangelaw7_awake : ∀ r, m_interchangelaw7_awake  = some r → PureSpec Tryz.prog 8 [] (.bool r) := (sims_GA_4_0 ).2

end Go.Proofs.YtcbdpjgejbcpgaaGreatDoor

/-
  What can be copied: lists that any machine has.
-/
namespace Go.Proofs.YtcbdpjgejbcpgaaGreatDoor
set_option linter.unusedSimpArgs false
set_option linter.unusedVariables false
def cloneOk (x : Tapi_Segment) : Prop := x.fElements.length ≤ 137438953472 ∧ ∀ e ∈ x.fElements, e.fRepeats.length ≤ 137438953472 ∧ ∀ p ∈ e.fRepeats, p.length ≤ 137438953472
end Go.Proofs.YtcbdpjgejbcpgaaGreatDoor




/-
  Bodies of functions and what they compute, printed by programs of mine (wip/tool/gen.py, sc.py) out of the translation; the kernel holds each against the translation.
-/
namespace Go.Proofs.YtcbdpjgejbcpgaaGreatDoor
open Go.RowKit
set_option linter.unusedSimpArgs false
set_option linter.unusedVariables false
def bT_Tapi_Segment (p0 : List UInt8) (p1 : Nat) : List SV := [.d (.str p0)] ++ ([.vec p1])
attribute [push_cast] bT_Tapi_Segment
/-- interchange/reply.element -/
def sc_reply_element : SC :=
  (.seq (.reg [.w 2 (.boxM (.c (.agg [.nils])))])
  (.seq (.reg [.r 3 (.mv (.t 0)),
     .r 4 (.bslice 1 [.t 3]),
     .r 5 (.build [.nils] [(0, 1, .t 4)]),
     .w 0 (.st 1 (.t 2) (.t 5))])
  .ret))
theorem fit_reply_element : fits Tryz.prog 71 Tryz.f71 sc_reply_element [.cell 2 1] 1 = true := by kernel_rfl

set_option maxRecDepth 100000 in
set_option maxHeartbeats 40000000 in
noncomputable def sims_G6_0_0 : (∀ (x0 : List (List UInt8)), {m : Option (Tapi_Element) // ∀ r, m = some r → PureSpec Tryz.prog 71 [.slice (List.map rowS x0)] (.agg (rTapi_Element r))}) := by
  (intro x0; apply Subtype.mk; intro r hm; apply pure_walk Tryz.func71 fit_reply_element; unfold sc_reply_element)
  repeat' (first | with_reducible refine W_seq ?_ | with_reducible refine W_reg ?_ | with_reducible refine W_ret ?_ | with_reducible refine O_nil ?_ | with_reducible refine K_seq ?_ | ((with_reducible apply O_r); (simp only [push_cast, seval]; rfl); (first | exact trivial)) | ((with_reducible apply O_w); (simp only [push_cast, seval]; rfl); (first | exact trivial)) | ((with_reducible apply K_endS hm); (focus (simp only [resOf, resL, RV.get, push_cast, seval]; rfl)); (focus ((repeat' (first | rfl | (with_reducible first | apply fT_Tapi_Element | apply f_agg | apply dv_slice | apply fold_nil | apply fold_cons))); done))))
noncomputable def m_reply_element (x0 : List (List UInt8)) : Option (Tapi_Element) := (sims_G6_0_0 x0).1
theorem spec_reply_element (x0 : List (List UInt8)) : ∀ r, m_reply_element x0 = some r → PureSpec Tryz.prog 71 [.slice (List.map rowS x0)] (.agg (rTapi_Element r)) := (sims_G6_0_0 x0).2

def sc_wire_Made_L1 : SC :=
  (.seq (.reg [.r 13 (.bin .lss (.t 12) (.t 11))])
  (.seq (.cond (.t 13)
    .skip
    (.exit 0))
  (.seq (.block 1 (.seq (.reg [.r 14 (.idx 1 (.t 10) (.t 12)),
       .o 15 (.ld1 (.t 14)),
       .r 7 (.mv (.t 15))])
    (.reg [.r 16 (.fld 1 (.t 5)),
       .o 17 (.ld1 (.t 16)),
       .r 18 (.mv (.t 7)),
       .r 19 (.bslice 1 [.t 18]),
       .r 20 (.bslice 1 [.t 19]),
       .r 21 (.build [.nils] [(0, 1, .t 20)]),
       .r 22 (.bslice 1 [.t 21]),
       .w 23 (.app 67 1 (.t 17) (.t 22)),
       .r 24 (.fld 1 (.t 5)),
       .w 0 (.st 1 (.t 24) (.t 23))])))
  (.reg [.r 25 (.bin .add (.t 12) (.c (.d (.int .i64 1)))),
     .r 12 (.mv (.t 25))]))))
def sc_wire_Made_B1 : SC := .block 0 (.loop sc_wire_Made_L1)
/-- interchange/wire.Made -/
def sc_wire_Made : SC :=
  (.seq (.reg [.w 4 (.boxM (.c (.agg [.d (.str []), .nils])))])
  (.seq (.reg [.r 8 (.mv (.t 0)),
     .r 9 (.build [.d (.str []), .nils] [(0, 1, .t 8)]),
     .w 5 (.boxM (.c (.agg [.d (.str []), .nils]))),
     .w 0 (.st 2 (.t 5) (.t 9))])
  (.seq (.seq (.reg [.r 10 (.mv (.t 1)),
     .r 11 (.len (.t 10)),
     .r 12 (.mv (.c (.d (.int .i64 0))))])
  sc_wire_Made_B1)
  (.seq (.reg [.o 26 (.ldA 2 (.t 5)),
     .w 0 (.st 2 (.t 4) (.t 26))])
  .ret))))
theorem fit_wire_Made : fits Tryz.prog 46 Tryz.f46 sc_wire_Made [.cell 4 2] 2 = true := by kernel_rfl

set_option maxRecDepth 100000 in
set_option maxHeartbeats 40000000 in
noncomputable def sims_G6_0_1 : (∀ (x0 : List UInt8) (x1 : List (List UInt8)), {m : Option (Tapi_Segment) // ∀ r, m = some r → FSpec Tryz.prog 46 (List.map SV.d ([.str x0, .slice (List.map rowS x1)] : List DV)) (.agg (ownR [.sh, .sl 67 [.sh]] (rTapi_Segment r))) (List.map SV.d ([.str x0, .slice (List.map rowS x1)] : List DV))}) := by
  (intro x0 x1; apply Subtype.mk; intro r hm; apply fspec_walkD (N := 27) (k := 2) Tryz.func46 fit_wire_Made (by kernel_rfl) rfl rfl; unfold sc_wire_Made)
  repeat' (first | ((with_reducible apply W_nilB (id := 5) (cid := 1161) (off := 1) (n := 1) (e := 67)); (focus (simp only [push_cast, seval]; (try rfl); done)); (focus (simp only [push_cast, seval]; (try rfl); done)); (focus decide); (focus (simp only [push_cast, seval]; (try rfl); done))) | with_reducible refine W_seq ?_ | with_reducible refine W_reg ?_ | with_reducible refine W_block ?_ | with_reducible refine W_skip ?_ | with_reducible refine W_ret ?_ | with_reducible refine W_exit ?_ | with_reducible refine O_nil ?_ | with_reducible refine K_seq ?_ | with_reducible refine K_seqE ?_ | with_reducible refine K_block ?_ | with_reducible refine O_o2r ?_ | ((with_reducible apply O_idxr hm); (iterate 2 (simp only [push_cast, seval]; rfl)); (intro _; rfl); intro e hm) | ((with_reducible apply O_r); (simp only [push_cast, seval]; rfl); (first | exact trivial)) | ((with_reducible apply O_w); (simp only [push_cast, seval]; rfl); (first | exact trivial)) | ((with_reducible apply O_appV hm); (iterate 4 (simp only [push_cast, seval]; rfl)); (focus ((repeat' (first | rfl | (with_reducible first | apply fT_Tapi_Element | apply dv_slice | apply fold_nil | apply fold_cons | apply f_rowL))); done)); decide; (intro _; rfl); intro hm) | ((with_reducible apply S_condB hm); (simp only [push_cast, seval]; rfl); intro hm; rotate_left; intro hm) | ((with_reducible apply K_leave hm); intro r hm) | (((with_reducible apply K_endO hm (r0 := Tapi_Segment.mk _ _) (row := rTapi_Segment)); (focus (exact Imp.refl _)); (focus (simp only [push_cast, seval]; (try rfl); done)); (focus (simp only [push_cast, seval]; (try rfl); done)); (focus (simp only [push_cast, seval]; (try rfl); done)); (focus ((repeat' (first | exact ROkL.nil | (apply ROkL.data; (focus rfl)) | (apply ROk_vecS; (focus (simp only [push_cast, seval]; (try rfl); done)); (focus (intro _; rfl))))); (any_goals (first | decide)))); (focus (simp only [push_cast]; rfl)))) | ((apply S_loopY (b := 0) (X := sc_wire_Made_B1) (x := sc_wire_Made_L1) rfl (fun (c : Ch × SV × SV × SV × SV) (s : (List UInt8) × (List Tapi_Element) × Int) => st [(4, .ref 4 0), (5, .ref 5 0), (10, c.2.1), (11, c.2.2.1), (12, .d (.int .i64 s.2.2)), (27, c.2.2.2.1), (28, c.2.2.2.2)] [(1161, .vec 67 1 (vrow rTapi_Element s.2.1)), (5, .box (bT_Tapi_Segment s.1 1161)), (4, c.1)]) (c := (_, _, _, _, _)) (s0 := (_, _, _)) hm); (focus (first | (dsimp only; done))); (with_reducible refine Then.mk ?_ ?_)) | ((apply K_next (s' := (_, _, _)) hm); (focus (first | (dsimp only; done)))) | ((apply K_brk (s' := (_, _, _)) hm); (focus (first | (dsimp only; done)))) | (((with_reducible apply LoopB.of); (focus (first | (dsimp only; done))); (focus ((intro _; repeat' (first | with_reducible exact impC_endF | with_reducible refine impC_seq ?_)))); (intro s o hm; first | unfold sc_wire_Made_L1); rotate_left; intro s hm)) | (((apply imp_stT; (repeat' (first | with_reducible exact keepT_nil | with_reducible exact keepC_nil | with_reducible apply keepT_cons | with_reducible apply keepC_cons | ((with_reducible apply svle_eq); (focus (first | (simp only [push_cast, seval]; rfl))); (focus ((repeat' (first | rfl)); done))) | ((with_reducible apply chle_eq); (focus (first | (simp only [push_cast, seval]; rfl))); (first | with_reducible exact chle_rfl rfl | with_reducible apply chle_vec)) | (with_reducible first | apply r_nil))); done))))
noncomputable def m_wire_Made (x0 : List UInt8) (x1 : List (List UInt8)) : Option (Tapi_Segment) := (sims_G6_0_1 x0 x1).1
theorem fspec_wire_Made (x0 : List UInt8) (x1 : List (List UInt8)) : ∀ r, m_wire_Made x0 x1 = some r → FSpec Tryz.prog 46 (List.map SV.d ([.str x0, .slice (List.map rowS x1)] : List DV)) (.agg (ownR [.sh, .sl 67 [.sh]] (rTapi_Segment r))) (List.map SV.d ([.str x0, .slice (List.map rowS x1)] : List DV)) := (sims_G6_0_1 x0 x1).2
theorem spec_wire_Made (x0 : List UInt8) (x1 : List (List UInt8)) : ∀ r, m_wire_Made x0 x1 = some r → PureSpec Tryz.prog 46 [.str x0, .slice (List.map rowS x1)] (.agg (rTapi_Segment r)) := fun r h => (fspec_wire_Made x0 x1 r h).pure rfl

end Go.Proofs.YtcbdpjgejbcpgaaGreatDoor

/-
  Bodies of functions and what they compute, printed by programs of mine (wip/tool/gen.py, sc.py) out of the translation; the kernel holds each against the translation.
-/
namespace Go.Proofs.YtcbdpjgejbcpgaaGreatDoor
open Go.RowKit
set_option linter.unusedSimpArgs false
set_option linter.unusedVariables false
/-- interchange/reply.flawSegment -/
def sc_reply_flawSegment : SC :=
  (.seq (.reg [.r 1 (.boxI (.t 0)),
     .w 2 (.boxM (.c (.agg [.d (.str []), .nils])))])
  (.seq (.regV [0, 1, 2, 3, 4, 5, 6, 8, 7, 9] [.r 4 (.fld 0 (.t 1)), .r 5 (.ld1 (.t 4)), .c 6 (.f 47) [.t 5], .r 7 (.fld 1 (.t 1)), .r 8 (.ld1 (.t 7)), .c 9 (.f 47) [.t 8], .r 10 (.bslice 1 [.t 6, .t 9])] (.q 11 (.f 46) [.c (.d (.str [65, 75, 70])), .t 10] []) (.x 3 (.boxM (.c (.agg [.d (.str []), .nils]))) [(0, 4, .fld 0 (.t 1)), (1, 5, .ld1 (.t 4)), (2, 6, .cl 6 [5]), (3, 7, .fld 1 (.t 1)), (4, 8, .ld1 (.t 7)), (5, 9, .cl 9 [8]), (6, 10, .bslice 1 [.t 6, .t 9])]) [.x 0 (.st 2 (.t 3) (.t 11)) []])
  (.seq (.seq (.reg [.r 12 (.fld 2 (.t 1)),
     .o 13 (.ldA 3 (.t 12)),
     .r 14 (.build [.d (.int .i64 0), .d (.int .i64 0), .d (.int .i64 0)] []),
     .r 15 (.eqs .neq [(.int .i64), (.int .i64), (.int .i64)] (.t 13) (.t 14))])
  (.cond (.t 15)
    (.regE [.r 16 (.fld 1 (.t 3)),
       .r 17 (.ld1 (.t 16)),
       .r 18 (.fld 2 (.t 1)),
       .r 19 (.fld 0 (.t 18)),
       .r 20 (.ld1 (.t 19)),
       .c 21 (.f 47) [.t 20],
       .r 22 (.fld 2 (.t 1)),
       .r 23 (.fld 1 (.t 22)),
       .r 24 (.ld1 (.t 23)),
       .c 25 (.f 47) [.t 24],
       .r 26 (.fld 2 (.t 1)),
       .r 27 (.fld 2 (.t 26)),
       .r 28 (.ld1 (.t 27)),
       .c 29 (.f 47) [.t 28],
       .r 30 (.bslice 1 [.t 21, .t 25, .t 29]),
       .c 31 (.f 71) [.t 30],
       .r 32 (.bslice 1 [.t 31]),
       .x 33 (.app 67 1 (.t 17) (.t 32)) [],
       .r 34 (.fld 1 (.t 3)),
       .x 0 (.st 1 (.t 34) (.t 33)) []])
    (.seq (.reg [.r 35 (.fld 5 (.t 1)),
       .o 36 (.ld1 (.t 35)),
       .r 37 (.bin .neq (.t 36) (.c (.d (.str []))))])
    (.cond (.t 37)
      (.regE [.r 38 (.fld 1 (.t 3)),
         .r 39 (.ld1 (.t 38)),
         .r 40 (.bslice 1 [.c (.d (.str []))]),
         .c 41 (.f 71) [.t 40],
         .r 42 (.bslice 1 [.t 41]),
         .x 43 (.app 67 1 (.t 39) (.t 42)) [],
         .r 44 (.fld 1 (.t 3)),
         .x 0 (.st 1 (.t 44) (.t 43)) []])
      .skip))))
  (.seq (.seq (.reg [.r 45 (.fld 5 (.t 1)),
     .o 46 (.ld1 (.t 45)),
     .r 47 (.bin .neq (.t 46) (.c (.d (.str []))))])
  (.cond (.t 47)
    (.regE [.r 48 (.fld 1 (.t 3)),
       .r 49 (.ld1 (.t 48)),
       .r 50 (.fld 5 (.t 1)),
       .r 51 (.ld1 (.t 50)),
       .r 52 (.bslice 1 [.t 51]),
       .c 53 (.f 71) [.t 52],
       .r 54 (.bslice 1 [.t 53]),
       .x 55 (.app 67 1 (.t 49) (.t 54)) [],
       .r 56 (.fld 1 (.t 3)),
       .x 0 (.st 1 (.t 56) (.t 55)) []])
    .skip))
  (.seq (.reg [.o 57 (.ldA 2 (.t 3)),
     .w 0 (.st 2 (.t 2) (.t 57))])
  .ret)))))
theorem fit_reply_flawSegment : fits Tryz.prog 48 Tryz.f48 sc_reply_flawSegment [.cell 2 2] 1 = true := by kernel_rfl

set_option maxRecDepth 100000 in
set_option maxHeartbeats 40000000 in
noncomputable def sims_G7_0_0 : (∀ (x0 : Tapi_Flaw), {m : Option (Tapi_Segment) // ∀ r, m = some r → PureSpec Tryz.prog 48 [.agg (rTapi_Flaw x0)] (.agg (rTapi_Segment r))}) := by
  (intro x0; apply Subtype.mk; intro r hm; apply pure_walk Tryz.func48 fit_reply_flawSegment; unfold sc_reply_flawSegment)
  repeat' (first | ((with_reducible apply W_moveBV (id := 3) (c := 11) (cid := 1097) (off := 1) (n := 1) (e := 67)); (focus (simp only [push_cast, seval]; (try rfl); done)); (focus (simp only [push_cast, seval]; (try rfl); done)); (focus decide); (focus decide); (focus (simp only [push_cast, seval]; (try rfl); done)); (focus ((repeat' (first | (with_reducible first | apply r_rfl))); done)); (focus (intro _; rfl)); (focus (simp only [push_cast, seval]; (try rfl); done)); (focus (first | (simp only [push_cast, seval]; (try rfl); done))); (focus (simp only [push_cast, seval]; (try rfl); done))) | with_reducible refine W_seq ?_ | with_reducible refine W_reg ?_ | with_reducible refine W_regE ?_ | with_reducible refine W_regV ?_ | with_reducible refine W_skip ?_ | with_reducible refine W_ret ?_ | with_reducible refine O_nil ?_ | with_reducible refine K_seq ?_ | with_reducible refine O_o2r ?_ | ((with_reducible apply O_r); (simp only [push_cast, seval]; rfl); (first | exact trivial)) | ((with_reducible apply O_cF hm); (simp only [push_cast, seval]; rfl); (first | apply spec_strconv_Itoa _ | apply spec_reply_element _); (any_goals ((repeat' (first | rfl | (with_reducible first | apply dv_slice | apply f_cons | apply fold_nil | apply fold_cons))); done)); intro x hm) | ((with_reducible apply O_w); (simp only [push_cast, seval]; rfl); (first | exact trivial)) | ((with_reducible apply O_appVX hm); (iterate 2 (simp only [push_cast, seval]; rfl)); (focus ((repeat' (first | rfl)); done)); (simp only [push_cast, seval]; rfl); (focus ((repeat' (first | rfl | (with_reducible first | apply eR_nil | apply eR_cons))); done)); (intro _; rfl); (focus ((repeat' (first | exact Rer_nil)); done)); intro hm) | ((with_reducible apply O_x); (simp only [push_cast, seval]; rfl); (first | exact trivial); (focus ((repeat' (first | exact Rer_nil)); done))) | ((with_reducible apply S_condB hm); (simp only [push_cast, seval]; rfl); intro hm; rotate_left; intro hm) | ((with_reducible apply K_endS hm); (focus (simp only [resOf, resL, RV.get, push_cast, seval]; rfl)); (focus ((repeat' (first | rfl | (with_reducible first | apply fT_Tapi_Segment | apply f_agg))); done))) | (((with_reducible apply K_pairA hm (e := 67) (n := 1) (row := rTapi_Element) (l := fun y : Tapi_Segment => y.fElements)); (focus (simp only [push_cast, seval]; rfl)); (focus (apply fspec_wire_Made)); (focus ((repeat' (first | rfl | (with_reducible first | apply dv_slice | apply f_cons | apply fold_nil | apply fold_cons))); done)); (iterate 4 (focus (intro _; rfl))); (focus rfl); (focus decide); (focus rfl); (focus rfl); (focus (simp only [push_cast, seval]; (try rfl); done)); (focus (intro _; rfl)); (focus (intro _; (repeat' (first | exact Rer_nil)))); (focus (repeat' (first | exact Rer_nil | ((with_reducible apply Rer_cons); (focus (simp only [push_cast, seval]; rfl)); (focus (first | exact trivial)); (focus (simp only [push_cast, seval])))))); (focus (intro _; (repeat' (first | exact Rer_nil)))); (focus (intro _; (repeat' (first | exact Rer_nil | ((with_reducible apply Rer_cons); (focus (simp only [push_cast, seval]; rfl)); (focus (first | exact trivial)); (focus (simp only [push_cast, seval]))))))); intro y hm)))
noncomputable def m_reply_flawSegment (x0 : Tapi_Flaw) : Option (Tapi_Segment) := (sims_G7_0_0 x0).1
theorem spec_reply_flawSegment (x0 : Tapi_Flaw) : ∀ r, m_reply_flawSegment x0 = some r → PureSpec Tryz.prog 48 [.agg (rTapi_Flaw x0)] (.agg (rTapi_Segment r)) := (sims_G7_0_0 x0).2

end Go.Proofs.YtcbdpjgejbcpgaaGreatDoor

/-
  Bodies of functions and what they compute, printed by programs of mine (wip/tool/gen.py, sc.py) out of the translation; the kernel holds each against the translation.
-/
namespace Go.Proofs.YtcbdpjgejbcpgaaGreatDoor
open Go.RowKit
set_option linter.unusedSimpArgs false
set_option linter.unusedVariables false
def sc_reply_segments_R12 : SC := (.reg [.r 56 (.mv (.t 3)),
       .r 57 (.mv (.t 8)),
       .c 58 (.f 46) [.c (.d (.str [65, 75, 77])), .t 57],
       .r 59 (.bslice 2 [.t 58]),
       .w 60 (.app 42 2 (.t 56) (.t 59)),
       .r 3 (.mv (.t 60))])
def sc_reply_segments_L1 : SC :=
  (.seq (.reg [.r 65 (.bin .lss (.t 64) (.t 63))])
  (.seq (.cond (.t 65)
    .skip
    (.exit 4))
  (.seq (.block 5 (.seq (.reg [.r 66 (.idx 6 (.t 62) (.t 64)),
       .o 67 (.ldA 6 (.t 66)),
       .w 10 (.boxM (.c (.agg [.d (.int .i64 0), .d (.int .i64 0), .d (.int .i64 0), .d (.int .i64 0), .d (.int .i64 0), .d (.str [])]))),
       .w 0 (.st 6 (.t 10) (.t 67))])
    (.reg [.r 68 (.mv (.t 3)),
       .o 69 (.ldA 6 (.t 10)),
       .c 70 (.f 48) [.t 69],
       .r 71 (.bslice 2 [.t 70]),
       .w 72 (.app 42 2 (.t 68) (.t 71)),
       .r 3 (.mv (.t 72))])))
  (.reg [.r 73 (.bin .add (.t 64) (.c (.d (.int .i64 1)))),
     .r 64 (.mv (.t 73))]))))
def sc_reply_segments_B1 : SC := .block 4 (.loop sc_reply_segments_L1)
def sc_reply_segments_L2 : SC :=
  (.seq (.reg [.r 78 (.bin .lss (.t 77) (.t 76))])
  (.seq (.cond (.t 78)
    .skip
    (.exit 6))
  (.seq (.block 7 (.seq (.reg [.r 79 (.idx 1 (.t 75) (.t 77)),
       .o 80 (.ld1 (.t 79)),
       .r 12 (.mv (.t 80))])
    (.reg [.r 81 (.mv (.t 3)),
       .r 82 (.mv (.t 12)),
       .r 83 (.bslice 1 [.t 82]),
       .c 84 (.f 46) [.c (.d (.str [65, 75, 82])), .t 83],
       .r 85 (.bslice 2 [.t 84]),
       .w 86 (.app 42 2 (.t 81) (.t 85)),
       .r 3 (.mv (.t 86))])))
  (.reg [.r 87 (.bin .add (.t 77) (.c (.d (.int .i64 1)))),
     .r 77 (.mv (.t 87))]))))
def sc_reply_segments_B2 : SC := .block 6 (.loop sc_reply_segments_L2)
def sc_reply_segments_L3 : SC :=
  (.seq (.reg [.r 42 (.bin .lss (.t 41) (.t 40))])
  (.seq (.cond (.t 42)
    .skip
    (.exit 2))
  (.seq (.block 3 (.seq (.reg [.r 43 (.idx 5 (.t 39) (.t 41)),
       .o 44 (.ldA 5 (.t 43)),
       .w 7 (.boxM (.c (.agg [.d (.str []), .d (.int .i64 0), .d (.bool false), .nils, .nils]))),
       .w 0 (.st 5 (.t 7) (.t 44))])
    (.seq (.regD [.r 45 (.fld 0 (.t 7)),
       .r 46 (.ld1 (.t 45)),
       .r 47 (.fld 1 (.t 7)),
       .r 48 (.ld1 (.t 47)),
       .c 49 (.f 47) [.t 48],
       .r 50 (.bslice 1 [.t 46, .t 49]),
       .r 8 (.mv (.t 50))])
    (.seq (.seq (.reg [.r 51 (.fld 2 (.t 7)),
       .o 52 (.ld1 (.t 51))])
    (.cond (.t 52)
      (.reg [.r 53 (.mv (.t 8)),
         .r 54 (.bslice 1 [.c (.d (.str [49]))]),
         .w 55 (.app 9 1 (.t 53) (.t 54)),
         .r 8 (.mv (.t 55))])
      .skip))
    (.seq sc_reply_segments_R12
    (.seq (.seq (.reg [.r 61 (.fld 3 (.t 7)),
       .o 62 (.ld1 (.t 61)),
       .r 63 (.len (.t 62)),
       .r 64 (.mv (.c (.d (.int .i64 0))))])
    sc_reply_segments_B1)
    (.seq (.reg [.r 74 (.fld 4 (.t 7)),
       .o 75 (.ld1 (.t 74)),
       .r 76 (.len (.t 75)),
       .r 77 (.mv (.c (.d (.int .i64 0))))])
    sc_reply_segments_B2)))))))
  (.reg [.r 88 (.bin .add (.t 41) (.c (.d (.int .i64 1)))),
     .r 41 (.mv (.t 88))]))))
def sc_reply_segments_B3 : SC := .block 2 (.loop sc_reply_segments_L3)
def sc_reply_segments_L4 : SC :=
  (.seq (.reg [.r 25 (.bin .lss (.t 24) (.t 23))])
  (.seq (.cond (.t 25)
    .skip
    (.exit 0))
  (.seq (.block 1 (.seq (.reg [.r 26 (.idx 3 (.t 22) (.t 24)),
       .o 27 (.ldA 3 (.t 26)),
       .w 5 (.boxM (.c (.agg [.d (.str []), .d (.int .i64 0), .nils]))),
       .w 0 (.st 3 (.t 5) (.t 27))])
    (.seq (.regE [.r 28 (.mv (.t 3)),
       .r 29 (.fld 0 (.t 5)),
       .r 30 (.ld1 (.t 29)),
       .r 31 (.fld 1 (.t 5)),
       .r 32 (.ld1 (.t 31)),
       .c 33 (.f 47) [.t 32],
       .r 34 (.bslice 1 [.t 30, .t 33]),
       .c 35 (.f 46) [.c (.d (.str [65, 75, 71])), .t 34],
       .r 36 (.bslice 2 [.t 35]),
       .x 37 (.app 42 2 (.t 28) (.t 36)) [],
       .r 3 (.mv (.t 37))])
    (.seq (.reg [.r 38 (.fld 2 (.t 5)),
       .o 39 (.ld1 (.t 38)),
       .r 40 (.len (.t 39)),
       .r 41 (.mv (.c (.d (.int .i64 0))))])
    sc_reply_segments_B3))))
  (.reg [.r 89 (.bin .add (.t 24) (.c (.d (.int .i64 1)))),
     .r 24 (.mv (.t 89))]))))
def sc_reply_segments_B4 : SC := .block 0 (.loop sc_reply_segments_L4)
/-- interchange/reply.segments -/
def sc_reply_segments : SC :=
  (.seq (.reg [.r 1 (.boxI (.t 0)),
     .r 2 (.mv (.c (.nils)))])
  (.seq (.regE [.r 13 (.fld 0 (.t 1)),
     .r 14 (.ld1 (.t 13)),
     .r 15 (.fld 1 (.t 1)),
     .r 16 (.ld1 (.t 15)),
     .c 17 (.f 47) [.t 16],
     .r 18 (.bslice 1 [.t 14, .t 17]),
     .c 19 (.f 46) [.c (.d (.str [65, 75, 73])), .t 18],
     .x 20 (.slM 42 2 [.t 19]) [],
     .r 3 (.mv (.t 20))])
  (.seq (.seq (.reg [.r 21 (.fld 2 (.t 1)),
     .o 22 (.ld1 (.t 21)),
     .r 23 (.len (.t 22)),
     .r 24 (.mv (.c (.d (.int .i64 0))))])
  sc_reply_segments_B4)
  (.seq (.reg [.r 90 (.mv (.t 3)),
     .r 2 (.mv (.t 90))])
  .ret))))
theorem fit_reply_segments : fits Tryz.prog 19 Tryz.f19 sc_reply_segments [.t 2] 1 = true := by kernel_rfl

set_option maxRecDepth 100000 in
set_option maxHeartbeats 40000000 in
noncomputable def sims_G8_0_0 : (∀ (x0 : Tapi_Reply), {m : Option ((List Tapi_Segment)) // ∀ r, m = some r → PureSpec Tryz.prog 19 [.agg (rTapi_Reply x0)] (.slice (List.map rTapi_Segment r))}) := by
  (intro x0; apply Subtype.mk; intro r hm; apply pure_walk Tryz.func19 fit_reply_segments; unfold sc_reply_segments)
  repeat' (first | ((with_reducible apply W_frzS (x := sc_reply_segments_R12) 8); (focus (simp only [push_cast, seval]; (try rfl); done)); (focus (simp only [push_cast, seval]; (try rfl); done)); (focus (simp only [push_cast, seval]; (try rfl); done)); unfold sc_reply_segments_R12) | ((with_reducible apply W_same sc_reply_segments_R12); unfold sc_reply_segments_R12) | with_reducible refine W_seq ?_ | with_reducible refine W_reg ?_ | with_reducible refine W_regD ?_ | with_reducible refine W_regE ?_ | with_reducible refine W_block ?_ | with_reducible refine W_skip ?_ | with_reducible refine W_ret ?_ | with_reducible refine W_exit ?_ | with_reducible refine O_nil ?_ | with_reducible refine K_seq ?_ | with_reducible refine K_seqE ?_ | with_reducible refine K_block ?_ | with_reducible refine O_o2r ?_ | ((with_reducible apply O_idxr hm); (iterate 2 (simp only [push_cast, seval]; rfl)); (intro _; rfl); intro e hm) | ((with_reducible apply O_r); (simp only [push_cast, seval]; rfl); (first | exact trivial)) | ((with_reducible apply O_cF hm); (simp only [push_cast, seval]; rfl); (first | apply spec_strconv_Itoa _ | apply spec_wire_Made _ _ | apply spec_reply_flawSegment _); (any_goals ((repeat' (first | rfl | (with_reducible first | apply dv_slice | apply f_cons | apply fold_nil | apply fold_cons))); done)); intro x hm) | ((with_reducible apply O_w); (simp only [push_cast, seval]; rfl); (first | exact trivial)) | ((with_reducible apply O_appL hm (row := rowS)); (iterate 5 (simp only [push_cast, seval]; rfl)); (focus ((repeat' (first | rfl | (with_reducible first | apply dv_slice | apply fold_nil | apply fold_cons))); done)); (focus ((repeat' (first | rfl | (with_reducible first | apply dv_slice | apply fold_nil | apply fold_cons))); done)); rfl; decide; (intro _; rfl); intro hm) | ((with_reducible apply O_appV hm); (iterate 4 (simp only [push_cast, seval]; rfl)); (focus ((repeat' (first | rfl | (with_reducible first | apply dv_slice | apply fold_nil | apply fold_cons))); done)); decide; (intro _; rfl); intro hm) | ((with_reducible apply O_appVX hm); (iterate 2 (simp only [push_cast, seval]; rfl)); (focus ((repeat' (first | rfl)); done)); (simp only [push_cast, seval]; rfl); (focus ((repeat' (first | rfl | (with_reducible first | apply eR_nil | apply eR_cons))); done)); (intro _; rfl); (focus ((repeat' (first | exact Rer_nil)); done)); intro hm) | ((with_reducible apply O_x); (simp only [push_cast, seval]; rfl); (first | exact trivial); (focus ((repeat' (first | exact Rer_nil)); done))) | ((with_reducible apply S_condB hm); (simp only [push_cast, seval]; rfl); intro hm; rotate_left; intro hm) | ((with_reducible apply K_endS hm); (focus (simp only [resOf, resL, RV.get, push_cast, seval]; rfl)); (focus ((repeat' (first | rfl)); done))) | ((with_reducible apply K_leave hm); intro r hm) | ((apply S_loopY (b := 4) (X := sc_reply_segments_B1) (x := sc_reply_segments_L1) rfl (fun (c : Ch × SV × SV × SV × SV × SV × SV × SV × SV) (s : (List Tapi_Segment) × Int) => st [(3, .vec 20), (7, .ref 7 0), (22, c.2.1), (23, c.2.2.1), (24, c.2.2.2.1), (39, c.2.2.2.2.1), (40, c.2.2.2.2.2.1), (41, c.2.2.2.2.2.2.1), (62, c.2.2.2.2.2.2.2.1), (63, c.2.2.2.2.2.2.2.2), (64, .d (.int .i64 s.2))] [(20, .vec 42 2 (vrow rTapi_Segment s.1)), (7, c.1)]) (c := (_, _, _, _, _, _, _, _, _)) (s0 := (_, _)) hm); (focus (first | (dsimp only; done))); (with_reducible refine Then.mk ?_ ?_)) | ((apply S_loopY (b := 6) (X := sc_reply_segments_B2) (x := sc_reply_segments_L2) rfl (fun (c : SV × SV × SV × SV × SV × SV × SV × SV) (s : (List Tapi_Segment) × Int) => st [(3, .vec 20), (22, c.1), (23, c.2.1), (24, c.2.2.1), (39, c.2.2.2.1), (40, c.2.2.2.2.1), (41, c.2.2.2.2.2.1), (75, c.2.2.2.2.2.2.1), (76, c.2.2.2.2.2.2.2), (77, .d (.int .i64 s.2))] [(20, .vec 42 2 (vrow rTapi_Segment s.1))]) (c := (_, _, _, _, _, _, _, _)) (s0 := (_, _)) hm); (focus (first | (dsimp only; done))); (with_reducible refine Then.mk ?_ ?_)) | ((apply S_loopY (b := 2) (X := sc_reply_segments_B3) (x := sc_reply_segments_L3) rfl (fun (c : SV × SV × SV × SV × SV) (s : (List Tapi_Segment) × Int) => st [(3, .vec 20), (22, c.1), (23, c.2.1), (24, c.2.2.1), (39, c.2.2.2.1), (40, c.2.2.2.2), (41, .d (.int .i64 s.2))] [(20, .vec 42 2 (vrow rTapi_Segment s.1))]) (c := (_, _, _, _, _)) (s0 := (_, _)) hm); (focus (first | (dsimp only; done))); (with_reducible refine Then.mk ?_ ?_)) | ((apply S_loopY (b := 0) (X := sc_reply_segments_B4) (x := sc_reply_segments_L4) rfl (fun (c : SV × SV) (s : (List Tapi_Segment) × Int) => st [(3, .vec 20), (22, c.1), (23, c.2), (24, .d (.int .i64 s.2))] [(20, .vec 42 2 (vrow rTapi_Segment s.1))]) (c := (_, _)) (s0 := (_, _)) hm); (focus (first | (dsimp only; done))); (with_reducible refine Then.mk ?_ ?_)) | ((apply K_next (s' := (_, _)) hm); (focus (first | (dsimp only; done)))) | ((apply K_brk (s' := (_, _)) hm); (focus (first | (dsimp only; done)))) | (((with_reducible apply LoopB.of); (focus (first | (dsimp only; done))); (focus ((intro _; repeat' (first | with_reducible exact impC_end | with_reducible refine impC_seq ?_ | with_reducible refine impC_block ?_ | ((with_reducible refine impC_rnd ?_); intro _) | ((with_reducible refine impC_brk ?_); intro _))))); (intro s o hm; first | unfold sc_reply_segments_L1 | unfold sc_reply_segments_L2 | unfold sc_reply_segments_L3 | unfold sc_reply_segments_L4); rotate_left; intro s hm)) | (((apply imp_stT; (repeat' (first | with_reducible exact keepT_nil | with_reducible exact keepC_nil | with_reducible apply keepT_cons | with_reducible apply keepC_cons | ((with_reducible apply svle_eq); (focus (first | (simp only [push_cast, seval]; rfl) | rfl)); (focus ((repeat' (first | rfl)); done))) | ((with_reducible apply chle_eq); (focus (first | (simp only [push_cast, seval]; rfl))); (first | with_reducible exact chle_rfl rfl | with_reducible apply chle_vec)) | (with_reducible first | apply cT_Tapi_Segment | apply r_nil | apply r_cons))); done))))
noncomputable def m_reply_segments (x0 : Tapi_Reply) : Option ((List Tapi_Segment)) := (sims_G8_0_0 x0).1
theorem spec_reply_segments (x0 : Tapi_Reply) : ∀ r, m_reply_segments x0 = some r → PureSpec Tryz.prog 19 [.agg (rTapi_Reply x0)] (.slice (List.map rTapi_Segment r)) := (sims_G8_0_0 x0).2

/-- interchange/reply.Segments -/
def sc_reply_Segments : SC :=
  (.seq (.reg [.r 1 (.boxI (.t 0)),
     .r 2 (.mv (.c (.nils))),
     .r 3 (.mv (.c (.d (.int .i64 0))))])
  (.seq (.seq (.reg [.o 6 (.ldA 3 (.t 1)),
     .c 7 (.f 13) [.t 6],
     .r 4 (.mv (.t 7))])
  (.seq (.reg [.r 8 (.mv (.t 4)),
     .r 9 (.bin .neq (.t 8) (.c (.d (.int .i64 0))))])
  (.cond (.t 9)
    (.seq (.reg [.r 10 (.mv (.t 4)),
       .r 2 (.mv (.c (.nils))),
       .r 3 (.mv (.t 10))])
    .ret)
    .skip)))
  (.seq (.reg [.o 11 (.ldA 3 (.t 1)),
     .c 12 (.f 19) [.t 11],
     .r 5 (.mv (.t 12))])
  (.seq (.seq (.reg [.r 13 (.mv (.t 5)),
     .r 14 (.len (.t 13)),
     .r 15 (.bin .gtr (.t 14) (.c (.d (.int .i64 2000))))])
  (.cond (.t 15)
    (.seq (.reg [.r 2 (.mv (.c (.nils))),
       .r 3 (.mv (.c (.d (.int .i64 2))))])
    .ret)
    .skip))
  (.seq (.reg [.r 16 (.mv (.t 5)),
     .r 2 (.mv (.t 16)),
     .r 3 (.mv (.c (.d (.int .i64 0))))])
  .ret)))))
theorem fit_reply_Segments : fits Tryz.prog 9 Tryz.f9 sc_reply_Segments [.t 2, .t 3] 1 = true := by kernel_rfl

set_option maxRecDepth 100000 in
set_option maxHeartbeats 40000000 in
noncomputable def sims_G8_1_0 : (∀ (x0 : Tapi_Reply), {m : Option ((List Tapi_Segment) × Int) // ∀ r, m = some r → PureSpec Tryz.prog 9 [.agg (rTapi_Reply x0)] (.tup [.slice (List.map rTapi_Segment r.1), .int .i64 r.2])}) := by
  (intro x0; apply Subtype.mk; intro r hm; apply pure_walk Tryz.func9 fit_reply_Segments; unfold sc_reply_Segments)
  repeat' (first | with_reducible refine W_seq ?_ | with_reducible refine W_reg ?_ | with_reducible refine W_skip ?_ | with_reducible refine W_ret ?_ | with_reducible refine O_nil ?_ | with_reducible refine K_seq ?_ | with_reducible refine K_seqR ?_ | with_reducible refine O_o2r ?_ | ((with_reducible apply O_r); (simp only [push_cast, seval]; rfl); (first | exact trivial)) | ((with_reducible apply O_cF hm); (simp only [push_cast, seval]; rfl); (first | apply spec_reply_CheckReply _ | apply spec_reply_segments _); (any_goals ((repeat' (first | rfl)); done)); intro x hm) | ((with_reducible apply S_condB hm); (simp only [push_cast, seval]; rfl); intro hm; rotate_left; intro hm) | ((with_reducible apply K_end2 hm); (focus (simp only [resOf, resL, RV.get, push_cast, seval]; rfl)); (focus (first | (dsimp only; done))); (focus ((repeat' (first | rfl | (with_reducible first | apply f_tup | apply dv_slice | apply f_cons | apply fold_nil))); done))))
noncomputable def m_reply_Segments (x0 : Tapi_Reply) : Option ((List Tapi_Segment) × Int) := (sims_G8_1_0 x0).1
theorem spec_reply_Segments (x0 : Tapi_Reply) : ∀ r, m_reply_Segments x0 = some r → PureSpec Tryz.prog 9 [.agg (rTapi_Reply x0)] (.tup [.slice (List.map rTapi_Segment r.1), .int .i64 r.2]) := (sims_G8_1_0 x0).2

end Go.Proofs.YtcbdpjgejbcpgaaGreatDoor

/-
  Bodies of functions and what they compute, printed by programs of mine (wip/tool/gen.py, sc.py) out of the translation; the kernel holds each against the translation.
-/
namespace Go.Proofs.YtcbdpjgejbcpgaaGreatDoor
open Go.RowKit
set_option linter.unusedSimpArgs false
set_option linter.unusedVariables false
theorem oT_Tapi_MessageReply {d0 d1 d2 d3 d4 : SV} {v0 : List UInt8} {v1 : Int} {v2 : Bool} {v3 : List Tapi_Flaw} {v4 : List (List UInt8)} {m3 : List Mask} {m4 : List Mask} (h0 : svle d0 (.d (.str v0))) (h1 : svle d1 (.d (.int .i64 v1))) (h2 : svle d2 (.d (.bool v2))) (h3 : cle d3 (.own (.sl 78 m3) (.slice (List.map rTapi_Flaw v3)))) (h4 : cle d4 (.own (.sl 9 m4) (.slice (List.map rowS v4)))) : cellsle [d0, d1, d2, d3, d4] (ownR [.sh, .sh, .sh, .sl 78 m3, .sl 9 m4] (rTapi_MessageReply ⟨v0, v1, v2, v3, v4⟩)) := by have h := (cellsle.append (cellsle.consS h0 cellsle.nil) (cellsle.append (cellsle.consS h1 cellsle.nil) (cellsle.append (cellsle.consS h2 cellsle.nil) (cellsle.append (cellsle.cons h3 cellsle.nil) (cellsle.cons h4 cellsle.nil))))); simp only [push_cast, seval, dR] at h ⊢; exact h
def bT_Tapi_MessageReply (p0 : List UInt8) (p1 : Int) (p2 : Bool) (p3 : Nat) (p4 : Nat) : List SV := [.d (.str p0)] ++ ([.d (.int .i64 p1)] ++ ([.d (.bool p2)] ++ ([.vec p3] ++ ([.vec p4]))))
attribute [push_cast] bT_Tapi_MessageReply
theorem oT_Tapi_GroupReply {d0 d1 d2 : SV} {v0 : List UInt8} {v1 : Int} {v2 : List Tapi_MessageReply} {m2 : List Mask} (h0 : svle d0 (.d (.str v0))) (h1 : svle d1 (.d (.int .i64 v1))) (h2 : cle d2 (.own (.sl 54 m2) (.slice (List.map rTapi_MessageReply v2)))) : cellsle [d0, d1, d2] (ownR [.sh, .sh, .sl 54 m2] (rTapi_GroupReply ⟨v0, v1, v2⟩)) := by have h := (cellsle.append (cellsle.consS h0 cellsle.nil) (cellsle.append (cellsle.consS h1 cellsle.nil) (cellsle.cons h2 cellsle.nil))); simp only [push_cast, seval, dR] at h ⊢; exact h
def bT_Tapi_GroupReply (p0 : List UInt8) (p1 : Int) (p2 : Nat) : List SV := [.d (.str p0)] ++ ([.d (.int .i64 p1)] ++ ([.vec p2]))
attribute [push_cast] bT_Tapi_GroupReply
def bT_Tapi_Reply (p0 : List UInt8) (p1 : Int) (p2 : Nat) : List SV := [.d (.str p0)] ++ ([.d (.int .i64 p1)] ++ ([.vec p2]))
attribute [push_cast] bT_Tapi_Reply
structure Treply_reader where
  fr : Tapi_Reply
  fbegun : Bool
  ffails : Bool
  deriving DecidableEq
def rTreply_reader (x : Treply_reader) : List DV := rTapi_Reply x.fr ++ [.bool x.fbegun, .bool x.ffails]
attribute [push_cast] rTreply_reader
def bT_Treply_reader (p0 : List UInt8) (p1 : Int) (p2 : Nat) (p3 : Bool) (p4 : Bool) : List SV := [.d (.str p0)] ++ ([.d (.int .i64 p1)] ++ ([.vec p2] ++ ([.d (.bool p3)] ++ ([.d (.bool p4)]))))
attribute [push_cast] bT_Treply_reader
theorem frzO_Tapi_GroupReply {l : List Tapi_GroupReply} : SV.frzR (vrowO [.sh, .sh, .sl 54 [.sh, .sh, .sh, .sl 78 [.sh, .sh, .sh, .sh, .sh, .sh], .sl 9 [.sh]]] rTapi_GroupReply l) = some (l.map rTapi_GroupReply) := frzR_vrowO rfl (fun _ => rfl)
attribute [push_cast] frzO_Tapi_GroupReply

theorem frzO_Tapi_MessageReply {l : List Tapi_MessageReply} : SV.frzR (vrowO [.sh, .sh, .sh, .sl 78 [.sh, .sh, .sh, .sh, .sh, .sh], .sl 9 [.sh]] rTapi_MessageReply l) = some (l.map rTapi_MessageReply) := frzR_vrowO rfl (fun _ => rfl)
attribute [push_cast] frzO_Tapi_MessageReply

/-- (*interchange/reply.reader).group -/
def sc_interchange_reply_reader_group : SC :=
  (.seq (.reg [.r 2 (.mv (.c (.d (.raw (.pointer none)))))])
  (.seq (.seq (.reg [.r 3 (.mv (.t 0)),
     .r 4 (.nilc (.t 3)),
     .r 5 (.fld 0 (.t 4)),
     .r 6 (.fld 2 (.t 5)),
     .o 7 (.ld1 (.t 6)),
     .r 8 (.len (.t 7)),
     .r 9 (.bin .eql (.t 8) (.c (.d (.int .i64 0))))])
  (.cond (.t 9)
    (.seq (.reg [.r 2 (.mv (.c (.d (.raw (.pointer none)))))])
    .ret)
    .skip))
  (.seq (.regD [.r 10 (.mv (.t 0)),
     .r 11 (.nilc (.t 10)),
     .r 12 (.fld 0 (.t 11)),
     .r 13 (.fld 2 (.t 12)),
     .r 14 (.ld1 (.t 13)),
     .r 15 (.mv (.t 0)),
     .r 16 (.nilc (.t 15)),
     .r 17 (.fld 0 (.t 16)),
     .r 18 (.fld 2 (.t 17)),
     .r 19 (.ld1 (.t 18)),
     .r 20 (.len (.t 19)),
     .r 21 (.bin .sub (.t 20) (.c (.d (.int .i64 1)))),
     .r 22 (.idx 3 (.t 14) (.t 21)),
     .r 2 (.mv (.t 22))])
  .ret)))
def sc_interchange_reply_reader_message_I1 : SC := .inl 1 [.r 4 (.mv (.t 0)),
   .p (some 5) (.f 24) [.t 4],
   .r 3 (.mv (.t 5))] 23 sc_interchange_reply_reader_group [.t 2]
def sc_interchange_reply_reader_message_R2 : SC :=
  (.reg (.r 6 (.mv (.t 3)) :: .r 7 (.binP .eql (.t 6) (.c (.d (.raw (.pointer none))))) :: .r 8 (.mv (.t 7)) :: gapp [9, 10, 11, 12, 13, 14] 8 false (.r 9 (.mv (.t 3)) :: .r 10 (.nilc (.t 9)) :: .r 11 (.fld 2 (.t 10)) :: .r 12 (.ld1 (.t 11)) :: .r 13 (.len (.t 12)) :: .r 14 (.bin .eql (.t 13) (.c (.d (.int .i64 0)))) :: []) (.r 15 (.pick (.t 8) (.c (.d (.bool true))) (.t 14)) :: [])))
def sc_interchange_reply_reader_message_R4 : SC :=
  (.regD [.r 16 (.mv (.t 3)),
   .r 17 (.nilc (.t 16)),
   .r 18 (.fld 2 (.t 17)),
   .r 19 (.ld1 (.t 18)),
   .r 20 (.mv (.t 3)),
   .r 21 (.nilc (.t 20)),
   .r 22 (.fld 2 (.t 21)),
   .r 23 (.ld1 (.t 22)),
   .r 24 (.len (.t 23)),
   .r 25 (.bin .sub (.t 24) (.c (.d (.int .i64 1)))),
   .r 26 (.idx 5 (.t 19) (.t 25)),
   .r 2 (.mv (.t 26))])
/-- (*interchange/reply.reader).message -/
def sc_interchange_reply_reader_message : SC :=
  (.seq (.reg [.r 2 (.mv (.c (.d (.raw (.pointer none)))))])
  (.seq sc_interchange_reply_reader_message_I1
  (.seq (.seq sc_interchange_reply_reader_message_R2
  (.cond (.t 15)
    (.seq (.reg [.r 2 (.mv (.c (.d (.raw (.pointer none)))))])
    .ret)
    .skip))
  (.seq sc_interchange_reply_reader_message_R4
  .ret))))
def sc_interchange_reply_reader_segment_I12 : SC := .inl 1 [.r 89 (.mv (.t 0)),
   .p (some 90) (.f 24) [.t 89],
   .r 17 (.mv (.t 90))] 23 sc_interchange_reply_reader_group [.t 2]
def sc_interchange_reply_reader_segment_R15 : SC :=
  (.reg [.r 93 (.mv (.t 17)),
   .r 94 (.mv (.t 17)),
   .r 95 (.nilc (.t 94)),
   .r 96 (.fld 2 (.t 95)),
   .o 97 (.ld1 (.t 96)),
   .r 98 (.mv (.t 13)),
   .r 99 (.mv (.t 14)),
   .r 100 (.mv (.t 15)),
   .r 101 (.build [.d (.str []), .d (.int .i64 0), .d (.bool false), .nils, .nils] [(0, 1, .t 98), (1, 1, .t 99), (2, 1, .t 100)]),
   .r 102 (.bslice 5 [.t 101]),
   .w 103 (.app 54 5 (.t 97) (.t 102)),
   .r 104 (.nilc (.t 93)),
   .r 105 (.fld 2 (.t 104)),
   .w 0 (.st 1 (.t 105) (.t 103))])
def sc_interchange_reply_reader_segment_I18 : SC := .inl 1 [.r 110 (.mv (.t 0)),
   .p (some 111) (.f 25) [.t 110],
   .r 18 (.mv (.t 111))] 27 sc_interchange_reply_reader_message [.t 2]
def sc_interchange_reply_reader_segment_R24 : SC :=
  (.regE [.r 123 (.mv (.t 18)),
   .r 124 (.mv (.t 18)),
   .r 125 (.nilc (.t 124)),
   .r 126 (.fld 3 (.t 125)),
   .r 127 (.ld1 (.t 126)),
   .r 128 (.ldA 6 (.t 19)),
   .r 129 (.bslice 6 [.t 128]),
   .x 130 (.app 78 6 (.t 127) (.t 129)) [(0, 123, .mv (.t 18))],
   .r 131 (.nilc (.t 123)),
   .r 132 (.fld 3 (.t 131)),
   .x 0 (.st 1 (.t 132) (.t 130)) []])
def sc_interchange_reply_reader_segment_R30 : SC :=
  (.regE [.r 155 (.mv (.t 18)),
   .r 156 (.mv (.t 18)),
   .r 157 (.nilc (.t 156)),
   .r 158 (.fld 4 (.t 157)),
   .r 159 (.ld1 (.t 158)),
   .r 160 (.mv (.t 21)),
   .r 161 (.idx 1 (.t 160) (.c (.d (.int .i64 0)))),
   .r 162 (.ld1 (.t 161)),
   .r 163 (.bslice 1 [.t 162]),
   .x 164 (.app 9 1 (.t 159) (.t 163)) [(0, 155, .mv (.t 18))],
   .r 165 (.nilc (.t 155)),
   .r 166 (.fld 4 (.t 165)),
   .x 0 (.st 1 (.t 166) (.t 164)) []])
/-- (*interchange/reply.reader).segment -/
def sc_interchange_reply_reader_segment : SC :=
  (.seq (.reg [.r 3 (.boxI (.t 1)),
     .r 4 (.mv (.c (.d (.bool false))))])
  (.seq (.seq (.reg [.r 23 (.mv (.t 0)),
     .r 24 (.nilc (.t 23)),
     .r 25 (.fld 3 (.t 24)),
     .o 26 (.ld1 (.t 25)),
     .r 27 (.not (.t 26))])
  (.cond (.t 27)
    (.seq (.reg [.o 29 (.ldA 2 (.t 3)),
       .c 30 (.f 23) [.t 29, .c (.d (.bool false))],
       .r 28 (.mv (.t 30)),
       .r 31 (.ext (.t 28) 0),
       .r 32 (.ext (.t 28) 1),
       .r 33 (.ext (.t 28) 2),
       .r 34 (.ext (.t 28) 3),
       .r 5 (.mv (.t 31)),
       .r 6 (.mv (.t 32)),
       .r 7 (.mv (.t 33)),
       .r 8 (.mv (.t 34))])
    (.seq (.reg [.r 35 (.mv (.t 0)),
       .r 36 (.mv (.t 0)),
       .r 37 (.mv (.t 0)),
       .r 38 (.mv (.t 5)),
       .r 39 (.mv (.t 6)),
       .r 40 (.nilc (.t 35)),
       .r 41 (.fld 0 (.t 40)),
       .r 42 (.fld 0 (.t 41)),
       .w 0 (.st 1 (.t 42) (.t 38)),
       .r 43 (.nilc (.t 36)),
       .r 44 (.fld 0 (.t 43)),
       .r 45 (.fld 1 (.t 44)),
       .w 0 (.st 1 (.t 45) (.t 39)),
       .r 46 (.nilc (.t 37)),
       .r 47 (.fld 3 (.t 46)),
       .w 0 (.st 1 (.t 47) (.c (.d (.bool true))))])
    (.seq (.reg (.r 48 (.mv (.t 8)) :: .r 49 (.mv (.t 48)) :: gapp [50, 51, 52] 49 true (.r 50 (.fld 0 (.t 3)) :: .r 51 (.ld1 (.t 50)) :: .r 52 (.bin .eql (.t 51) (.c (.d (.str [65, 75, 73])))) :: []) (.r 53 (.pick (.t 49) (.t 52) (.c (.d (.bool false)))) :: .r 4 (.mv (.t 53)) :: [])))
    .ret)))
    .skip))
  (.seq (.seq (.reg [.r 54 (.fld 0 (.t 3)),
     .o 55 (.ld1 (.t 54))])
  (.block 0 (.seq (.reg [.r 57 (.bin .eql (.t 55) (.c (.d (.str [65, 75, 71])))),
       .r 56 (.mv (.t 57))])
    (.cond (.t 56)
      (.seq (.reg [.o 59 (.ldA 2 (.t 3)),
         .c 60 (.f 23) [.t 59, .c (.d (.bool false))],
         .r 58 (.mv (.t 60)),
         .r 61 (.ext (.t 58) 0),
         .r 62 (.ext (.t 58) 1),
         .r 63 (.ext (.t 58) 2),
         .r 64 (.ext (.t 58) 3),
         .r 9 (.mv (.t 61)),
         .r 10 (.mv (.t 62)),
         .r 11 (.mv (.t 63)),
         .r 12 (.mv (.t 64))])
      (.seq (.reg [.r 65 (.mv (.t 0)),
         .r 66 (.mv (.t 0)),
         .r 67 (.nilc (.t 66)),
         .r 68 (.fld 0 (.t 67)),
         .r 69 (.fld 2 (.t 68)),
         .o 70 (.ld1 (.t 69)),
         .r 71 (.mv (.t 9)),
         .r 72 (.mv (.t 10)),
         .r 73 (.build [.d (.str []), .d (.int .i64 0), .nils] [(0, 1, .t 71), (1, 1, .t 72)]),
         .r 74 (.bslice 3 [.t 73]),
         .w 75 (.app 49 3 (.t 70) (.t 74)),
         .r 76 (.nilc (.t 65)),
         .r 77 (.fld 0 (.t 76)),
         .r 78 (.fld 2 (.t 77)),
         .w 0 (.st 1 (.t 78) (.t 75))])
      (.seq (.reg [.r 79 (.mv (.t 12)),
         .r 4 (.mv (.t 79))])
      .ret)))
      (.seq (.reg [.r 81 (.bin .eql (.t 55) (.c (.d (.str [65, 75, 77])))),
         .r 80 (.mv (.t 81))])
      (.cond (.t 80)
        (.seq (.reg [.o 83 (.ldA 2 (.t 3)),
           .c 84 (.f 23) [.t 83, .c (.d (.bool true))],
           .r 82 (.mv (.t 84)),
           .r 85 (.ext (.t 82) 0),
           .r 86 (.ext (.t 82) 1),
           .r 87 (.ext (.t 82) 2),
           .r 88 (.ext (.t 82) 3),
           .r 13 (.mv (.t 85)),
           .r 14 (.mv (.t 86)),
           .r 15 (.mv (.t 87)),
           .r 16 (.mv (.t 88))])
        (.seq sc_interchange_reply_reader_segment_I12
        (.seq (.seq (.reg [.r 91 (.mv (.t 17)),
           .r 92 (.binP .eql (.t 91) (.c (.d (.raw (.pointer none)))))])
        (.cond (.t 92)
          (.seq (.reg [.r 4 (.mv (.c (.d (.bool false))))])
          .ret)
          .skip))
        (.seq sc_interchange_reply_reader_segment_R15
        (.seq (.reg [.r 106 (.mv (.t 0)),
           .r 107 (.nilc (.t 106)),
           .r 108 (.fld 4 (.t 107)),
           .w 0 (.st 1 (.t 108) (.c (.d (.bool false))))])
        (.seq (.reg [.r 109 (.mv (.t 16)),
           .r 4 (.mv (.t 109))])
        .ret))))))
        .skip))))))
  (.seq sc_interchange_reply_reader_segment_I18
  (.seq (.seq (.reg [.r 112 (.mv (.t 18)),
     .r 113 (.binP .eql (.t 112) (.c (.d (.raw (.pointer none)))))])
  (.cond (.t 113)
    (.seq (.reg [.r 4 (.mv (.c (.d (.bool false))))])
    .ret)
    .skip))
  (.seq (.seq (.reg [.r 114 (.fld 0 (.t 3)),
     .o 115 (.ld1 (.t 114))])
  (.block 1 (.seq (.reg [.r 117 (.bin .eql (.t 115) (.c (.d (.str [65, 75, 70])))),
       .r 116 (.mv (.t 117))])
    (.cond (.t 116)
      (.seq (.reg [.o 119 (.ldA 2 (.t 3)),
         .c 120 (.f 26) [.t 119],
         .r 118 (.mv (.t 120)),
         .r 121 (.ext (.t 118) 0),
         .r 122 (.ext (.t 118) 1),
         .w 19 (.boxM (.c (.agg [.d (.int .i64 0), .d (.int .i64 0), .d (.int .i64 0), .d (.int .i64 0), .d (.int .i64 0), .d (.str [])]))),
         .w 0 (.st 6 (.t 19) (.t 121)),
         .r 20 (.mv (.t 122))])
      (.seq sc_interchange_reply_reader_segment_R24
      (.seq (.reg (.r 133 (.mv (.t 20)) :: .r 134 (.mv (.t 133)) :: gapp [135, 136, 137, 138, 139] 134 true (.r 135 (.mv (.t 0)) :: .r 136 (.nilc (.t 135)) :: .r 137 (.fld 4 (.t 136)) :: .r 138 (.ld1 (.t 137)) :: .r 139 (.not (.t 138)) :: []) (.r 140 (.pick (.t 134) (.t 139) (.c (.d (.bool false)))) :: .r 4 (.mv (.t 140)) :: [])))
      .ret)))
      (.seq (.reg [.r 142 (.bin .eql (.t 115) (.c (.d (.str [65, 75, 82])))),
         .r 141 (.mv (.t 142))])
      (.cond (.t 141)
        (.seq (.reg [.o 144 (.ldA 2 (.t 3)),
           .c 145 (.f 27) [.t 144],
           .r 143 (.mv (.t 145)),
           .r 146 (.ext (.t 143) 0),
           .r 147 (.ext (.t 143) 1),
           .r 21 (.mv (.t 146)),
           .r 22 (.mv (.t 147))])
        (.seq (.seq (.reg (.r 148 (.mv (.t 22)) :: .r 149 (.not (.t 148)) :: .r 150 (.mv (.t 149)) :: gapp [151, 152, 153] 150 false (.r 151 (.mv (.t 21)) :: .r 152 (.len (.t 151)) :: .r 153 (.bin .neq (.t 152) (.c (.d (.int .i64 1)))) :: []) (.r 154 (.pick (.t 150) (.c (.d (.bool true))) (.t 153)) :: [])))
        (.cond (.t 154)
          (.seq (.reg [.r 4 (.mv (.c (.d (.bool false))))])
          .ret)
          .skip))
        (.seq sc_interchange_reply_reader_segment_R30
        (.seq (.reg [.r 167 (.mv (.t 0)),
           .r 168 (.nilc (.t 167)),
           .r 169 (.fld 4 (.t 168)),
           .w 0 (.st 1 (.t 169) (.c (.d (.bool true))))])
        (.seq (.reg [.r 4 (.mv (.c (.d (.bool true))))])
        .ret)))))
        .skip))))))
  (.seq (.reg [.r 4 (.mv (.c (.d (.bool false))))])
  .ret)))))))
def sc_reply_Read_I8 : SC := .inl 2 [.r 25 (.mv (.t 6)),
   .o 26 (.ldA 2 (.t 8)),
   .p (some 27) (.f 12) [.t 25, .t 26],
   .r 28 (.not (.t 27))] 170 sc_interchange_reply_reader_segment [.t 4]
def sc_reply_Read_L1 : SC :=
  (.seq (.reg [.r 21 (.bin .lss (.t 20) (.t 19))])
  (.seq (.cond (.t 21)
    .skip
    (.exit 0))
  (.seq (.block 1 (.seq (.reg [.r 22 (.mv (.t 20)),
       .r 23 (.idx 2 (.t 18) (.t 20)),
       .o 24 (.ldA 2 (.t 23)),
       .w 8 (.boxM (.c (.agg [.d (.str []), .nils]))),
       .r 7 (.mv (.t 22)),
       .w 0 (.st 2 (.t 8) (.t 24))])
    (.seq sc_reply_Read_I8
    (.cond (.t 28)
      (.seq (.reg [.r 29 (.build [.d (.str []), .d (.int .i64 0), .nils] []),
         .r 30 (.mv (.t 7)),
         .w 0 (.st 3 (.t 2) (.t 29)),
         .r 3 (.mv (.t 30)),
         .r 4 (.mv (.c (.d (.int .i64 10))))])
      .ret)
      .skip))))
  (.reg [.r 31 (.bin .add (.t 20) (.c (.d (.int .i64 1)))),
     .r 20 (.mv (.t 31))]))))
def sc_reply_Read_B1 : SC := .block 0 (.loop sc_reply_Read_L1)
def sc_reply_Read_R13 : SC := (.reg [.r 40 (.mv (.t 6)),
     .r 41 (.nilc (.t 40)),
     .r 42 (.fld 0 (.t 41)),
     .o 43 (.ldA 3 (.t 42)),
     .c 44 (.f 13) [.t 43],
     .r 9 (.mv (.t 44))])
/-- interchange/reply.Read -/
def sc_reply_Read : SC :=
  (.seq (.reg [.w 2 (.boxM (.c (.agg [.d (.str []), .d (.int .i64 0), .nils]))),
     .r 3 (.mv (.c (.d (.int .i64 0)))),
     .r 4 (.mv (.c (.d (.int .i64 0))))])
  (.seq (.seq (.reg [.r 10 (.mv (.t 0)),
     .c 11 (.f 11) [.t 10],
     .r 5 (.mv (.t 11))])
  (.seq (.reg [.r 12 (.mv (.t 5)),
     .r 13 (.bin .neq (.t 12) (.c (.d (.int .i64 0))))])
  (.cond (.t 13)
    (.seq (.reg [.r 14 (.build [.d (.str []), .d (.int .i64 0), .nils] []),
       .r 15 (.mv (.t 5)),
       .w 0 (.st 3 (.t 2) (.t 14)),
       .r 3 (.mv (.c (.d (.int .i64 0)))),
       .r 4 (.mv (.t 15))])
    .ret)
    .skip)))
  (.seq (.reg [.r 16 (.build [.d (.str []), .d (.int .i64 0), .nils, .d (.bool false), .d (.bool false)] []),
     .w 17 (.boxM (.t 16)),
     .r 6 (.mv (.t 17))])
  (.seq (.seq (.reg [.r 18 (.mv (.t 0)),
     .r 19 (.len (.t 18)),
     .r 20 (.mv (.c (.d (.int .i64 0))))])
  sc_reply_Read_B1)
  (.seq (.seq (.reg [.r 32 (.mv (.t 6)),
     .r 33 (.nilc (.t 32)),
     .r 34 (.fld 3 (.t 33)),
     .o 35 (.ld1 (.t 34)),
     .r 36 (.not (.t 35))])
  (.cond (.t 36)
    (.seq (.reg [.r 37 (.build [.d (.str []), .d (.int .i64 0), .nils] []),
       .r 38 (.mv (.t 0)),
       .r 39 (.len (.t 38)),
       .w 0 (.st 3 (.t 2) (.t 37)),
       .r 3 (.mv (.t 39)),
       .r 4 (.mv (.c (.d (.int .i64 10))))])
    .ret)
    .skip))
  (.seq (.seq sc_reply_Read_R13
  (.seq (.reg [.r 45 (.mv (.t 9)),
     .r 46 (.bin .neq (.t 45) (.c (.d (.int .i64 0))))])
  (.cond (.t 46)
    (.seq (.reg [.r 47 (.build [.d (.str []), .d (.int .i64 0), .nils] []),
       .r 48 (.mv (.t 9)),
       .w 0 (.st 3 (.t 2) (.t 47)),
       .r 3 (.mv (.c (.d (.int .i64 0)))),
       .r 4 (.mv (.t 48))])
    .ret)
    .skip)))
  (.seq (.reg [.r 49 (.mv (.t 6)),
     .r 50 (.nilc (.t 49)),
     .r 51 (.fld 0 (.t 50)),
     .o 52 (.ldA 3 (.t 51)),
     .w 0 (.st 3 (.t 2) (.t 52)),
     .r 3 (.mv (.c (.d (.int .i64 0)))),
     .r 4 (.mv (.c (.d (.int .i64 0))))])
  .ret)))))))
theorem fit_reply_Read : fits Tryz.prog 5 Tryz.f5 sc_reply_Read [.cell 2 3, .t 3, .t 4] 1 = true := by kernel_rfl

set_option maxRecDepth 100000 in
set_option maxHeartbeats 40000000 in
noncomputable def sims_GTW_3_0 : (∀ (x0 : List Tapi_Segment), {m : Option (Tapi_Reply × Int × Int) // ∀ r, m = some r → PureSpec Tryz.prog 5 [.slice (List.map rTapi_Segment x0)] (.tup [.agg (rTapi_Reply r.1), .int .i64 r.2.1, .int .i64 r.2.2])}) := by
  (intro x0; apply Subtype.mk; intro r hm; apply pure_walk Tryz.func5 fit_reply_Read; unfold sc_reply_Read)
  repeat' (first | ((with_reducible apply W_nilB (id := 17) (cid := 1546) (off := 2) (n := 3) (e := 49)); (focus (simp only [push_cast, seval]; (try rfl); done)); (focus (simp only [push_cast, seval]; (try rfl); done)); (focus decide); (focus (simp only [push_cast, seval]; (try rfl); done))) | ((apply W_frz (x := sc_reply_Read_R13) (id := 1546)); (focus (simp only [push_cast, seval]; (try rfl); done)); (focus (simp only [push_cast, seval]; (try rfl); done)); unfold sc_reply_Read_R13) | ((with_reducible apply W_normO 40010 [.sh, .sh, .sh, .sl 78 [.sh, .sh, .sh, .sh, .sh, .sh], .sl 9 [.sh]] rTapi_MessageReply); (focus (simp only [push_cast, seval]; rfl)); (focus ((repeat' (first | (with_reducible first | apply r_rflO | apply r_oneO | apply r_appO | apply oT_Tapi_MessageReply) | ((with_reducible apply svle_rfl); (focus ((repeat' (first | rfl)); done))) | ((with_reducible apply cle_nilM); (focus rfl)))); done))) | ((with_reducible apply W_normO 101546 [.sh, .sh, .sl 54 [.sh, .sh, .sh, .sl 78 [.sh, .sh, .sh, .sh, .sh, .sh], .sl 9 [.sh]]] rTapi_GroupReply); (focus (simp only [push_cast, seval]; rfl)); (focus ((repeat' (first | (with_reducible first | apply r_rflO | apply r_oneO | apply r_appO | apply oT_Tapi_GroupReply) | ((with_reducible apply svle_rfl); (focus ((repeat' (first | rfl)); done))) | ((with_reducible apply cle_nilM); (focus rfl)))); done))) | with_reducible refine W_seq ?_ | with_reducible refine W_reg ?_ | with_reducible refine W_regD ?_ | with_reducible refine W_regE ?_ | with_reducible refine W_block ?_ | with_reducible refine W_skip ?_ | with_reducible refine W_ret ?_ | with_reducible refine W_exit ?_ | with_reducible refine O_nil ?_ | with_reducible refine K_seq ?_ | with_reducible refine K_seqE ?_ | with_reducible refine K_seqR ?_ | with_reducible refine K_block ?_ | with_reducible refine K_blockR ?_ | with_reducible refine O_o2r ?_ | ((with_reducible apply O_idxr hm); (iterate 2 (simp only [push_cast, seval]; rfl)); (intro _; rfl); intro e hm) | ((with_reducible apply O_idxVO hm); (iterate 2 (simp only [push_cast, seval]; rfl)); (focus (first | (simp only [push_cast, seval]; rfl))); (simp only [push_cast, seval]; rfl); intro e he hm) | ((with_reducible apply O_ldF); (iterate 2 (simp only [push_cast, seval]; rfl)); (focus (first | (simp only [push_cast, seval]; exact getI_lt (by assumption)))); (iterate 2 rfl)) | ((with_reducible apply O_r); (simp only [push_cast, seval]; rfl); (first | exact trivial)) | ((with_reducible apply O_orT); (focus (simp only [push_cast, seval]; done)); rfl; intro g) | ((with_reducible apply O_and hm); (simp only [push_cast, seval]; rfl); rfl; intro v hm; rotate_left; intro v g hm) | ((with_reducible apply O_or hm); (simp only [push_cast, seval]; rfl); rfl; intro v hm; rotate_left; intro v g hm) | ((with_reducible apply W_condT); (focus (simp only [push_cast, seval]; done))) | ((with_reducible apply W_condF); (focus (simp only [push_cast, seval]; done))) | ((with_reducible apply O_cF hm); (simp only [push_cast, seval]; rfl); (first | apply spec_wire_CheckSegments _ | apply spec_reply_CheckReply _ | apply spec_reply_head _ _ | apply spec_reply_flawOf _ | apply spec_reply_plain _); (any_goals ((repeat' (first | rfl | (with_reducible first | apply fT_Tapi_Reply | apply f_agg | apply f_cons))); done)); intro x hm) | ((with_reducible apply O_w); (simp only [push_cast, seval]; rfl); (first | exact trivial)) | ((with_reducible apply O_appVO hm); (iterate 3 (simp only [push_cast, seval]; rfl)); rfl; (focus (first | exact all_len rfl)); intro hm) | ((with_reducible apply O_stFwE); (simp only [push_cast, seval]; rfl); (focus (first | (simp only [push_cast, seval]; rfl))); (simp only [push_cast, seval]; rfl); (focus (first | (simp only [push_cast, seval]; exact getI_lt (by assumption)))); (focus (first | (simp only [push_cast, seval]; done))); rfl) | ((with_reducible apply O_stFx); (simp only [push_cast, seval]; rfl); (focus (first | (simp only [push_cast, seval]; rfl))); (simp only [push_cast, seval]; rfl); (focus (first | (simp only [push_cast, seval]; exact getI_lt (by assumption)))); (focus (first | (simp only [push_cast, seval]; done))); rfl; (focus ((repeat' (first | exact Rer_nil)); done))) | ((with_reducible apply O_appVX hm); (iterate 2 (simp only [push_cast, seval]; rfl)); (focus ((repeat' (first | rfl)); done)); (simp only [push_cast, seval]; rfl); (focus ((repeat' (first | rfl | (with_reducible first | apply eR_nil | apply eR_cons))); done)); (intro _; rfl); (focus ((repeat' (first | exact Rer_nil | ((with_reducible apply Rer_cons); (focus (simp only [push_cast, seval]; rfl)); (focus (first | exact trivial)); (focus (simp only [push_cast, seval]))))); done)); intro hm) | ((with_reducible apply S_condB hm); (simp only [push_cast, seval]; rfl); intro hm; rotate_left; intro hm) | ((with_reducible apply K_end3 hm); (focus (simp only [resOf, resL, RV.get, push_cast, seval]; rfl)); (focus (first | (dsimp only; done))); (focus ((repeat' (first | rfl | (with_reducible first | apply fT_Tapi_Reply | apply f_tup | apply f_agg | apply dv_slice | apply f_cons | apply fold_nil))); done))) | ((with_reducible apply K_bool hm); (simp only [push_cast, seval]; rfl)) | ((with_reducible apply K_leave hm); intro r hm) | ((with_reducible apply K_leaveR hm); intro r hm) | ((apply S_loopY (b := 0) (X := sc_reply_Read_B1) (x := sc_reply_Read_L1) rfl (fun (c : SV × SV × SV) (s : (List UInt8) × Int × (List Tapi_GroupReply) × Bool × Bool × Tapi_Reply × Int) => st [(0, c.1), (2, .ref 2 0), (6, .ref 17 0), (18, c.2.1), (19, c.2.2), (20, .d (.int .i64 s.2.2.2.2.2.2))] [(1546, .vec 49 3 (vrowO [.sh, .sh, .sl 54 [.sh, .sh, .sh, .sl 78 [.sh, .sh, .sh, .sh, .sh, .sh], .sl 9 [.sh]]] rTapi_GroupReply s.2.2.1)), (17, .box (bT_Treply_reader s.1 s.2.1 1546 s.2.2.2.1 s.2.2.2.2.1)), (2, .box (dR (rTapi_Reply s.2.2.2.2.2.1)))]) (c := (_, _, _)) (s0 := (_, _, _, _, _, _, _)) hm); (focus (first | (dsimp only; done))); (with_reducible refine Then.mk ?_ ?_)) | (((apply S_inlx (site := 100000) (X := sc_reply_Read_I8) rfl); (focus rfl); (focus (simp only [push_cast, seval]; rfl)); (focus (simp only [push_cast, seval]; rfl)); (focus decide))) | (((apply K_enter (site := 100000) (M := st [(0, _), (1, _), (170, _), (172, _), (176, _), (177, _), (188, _), (189, _), (190, _)] [(19, _), (40010, _), (40030, _), (40040, _), (100002, _), (100008, _), (100017, _), (101546, _), (340020, _)])); (focus ((apply imp_stT; (repeat' (first | with_reducible exact keepT_nil | with_reducible exact keepC_nil | with_reducible apply keepT_cons | with_reducible apply keepC_cons | ((with_reducible apply svle_eq); (focus (first | (simp only [push_cast, seval]; rfl))); (focus ((repeat' (first | rfl)); done))) | ((with_reducible apply chle_eq); (focus (first | (simp only [push_cast, seval]; rfl))); (first | with_reducible exact chle_rfl rfl)))); done))); unfold sc_interchange_reply_reader_segment)) | (((apply K_inlR (site := 100000) (M := st [(0, _), (2, _), (6, _), (7, _), (18, _), (19, _), (20, _), (27, _)] [(2, _), (8, _), (17, _), (1546, _), (100019, _), (140010, _), (140030, _), (140040, _), (340020, _)])); (focus (simp only [push_cast, seval]; rfl)); (focus ((apply imp_stT; (repeat' (first | with_reducible exact keepT_nil | with_reducible exact keepC_nil | with_reducible apply keepT_cons | with_reducible apply keepC_cons | ((with_reducible apply svle_eq); (focus (first | (simp only [push_cast, seval]; rfl))); (focus ((repeat' (first | rfl)); done))) | ((with_reducible apply chle_eq); (focus (first | (simp only [push_cast, seval]; rfl))); (first | with_reducible exact chle_rfl rfl)))); done))))) | (((apply S_inlx (site := 200000) (X := sc_interchange_reply_reader_segment_I12) rfl); (focus rfl); (focus (simp only [push_cast, seval]; rfl)); (focus (simp only [push_cast, seval]; rfl)); (focus decide))) | (((apply K_enter (site := 200000) (M := st [(0, _), (23, _), (36, _), (37, _), (38, _), (39, _), (193, _), (195, _), (199, _), (200, _), (211, _), (212, _), (213, _)] [(100002, _), (100008, _), (100017, _), (101546, _), (200019, _), (240010, _), (240030, _), (240040, _), (340020, _)])); (focus ((apply imp_stT; (repeat' (first | with_reducible exact keepT_nil | with_reducible exact keepC_nil | with_reducible apply keepT_cons | with_reducible apply keepC_cons | ((with_reducible apply svle_eq); (focus (first | (simp only [push_cast, seval]; rfl))); (focus ((repeat' (first | rfl)); done))) | ((with_reducible apply chle_eq); (focus (first | (simp only [push_cast, seval]; rfl))); (first | with_reducible exact chle_rfl rfl)))); done))); unfold sc_interchange_reply_reader_group)) | (((apply K_inlR (site := 200000) (M := st [(0, _), (13, _), (14, _), (15, _), (16, _), (90, _), (170, _), (172, _), (176, _), (177, _), (188, _), (189, _), (190, _)] [(19, _), (40010, _), (40030, _), (40040, _), (100002, _), (100008, _), (100017, _), (101546, _), (340020, _)])); (focus (simp only [push_cast, seval]; rfl)); (focus ((apply imp_stT; (repeat' (first | with_reducible exact keepT_nil | with_reducible exact keepC_nil | with_reducible apply keepT_cons | with_reducible apply keepC_cons | ((with_reducible apply svle_eq); (focus (first | (simp only [push_cast, seval]; rfl))); (focus ((repeat' (first | rfl)); done))) | ((with_reducible apply chle_eq); (focus (first | (simp only [push_cast, seval]; rfl))); (first | with_reducible exact chle_rfl rfl)))); done))))) | (((apply S_inlx (site := 300000) (X := sc_interchange_reply_reader_segment_I18) rfl); (focus rfl); (focus (simp only [push_cast, seval]; rfl)); (focus (simp only [push_cast, seval]; rfl)); (focus decide))) | (((apply K_enter (site := 300000) (M := st [(0, _), (27, _), (30, _), (197, _), (199, _), (203, _), (204, _), (215, _), (216, _), (217, _)] [(40020, _), (100002, _), (100008, _), (100017, _), (101546, _), (300019, _), (340010, _), (340030, _), (340040, _)])); (focus ((apply imp_stT; (repeat' (first | with_reducible exact keepT_nil | with_reducible exact keepC_nil | with_reducible apply keepT_cons | with_reducible apply keepC_cons | ((with_reducible apply svle_eq); (focus (first | (simp only [push_cast, seval]; rfl))); (focus ((repeat' (first | rfl)); done))) | ((with_reducible apply chle_eq); (focus (first | (simp only [push_cast, seval]; rfl))); (first | with_reducible exact chle_rfl rfl)))); done))); unfold sc_interchange_reply_reader_message)) | (((apply K_inlR (site := 300000) (M := st [(0, _), (3, _), (111, _), (170, _), (172, _), (176, _), (177, _), (188, _), (189, _), (190, _)] [(19, _), (40010, _), (40030, _), (40040, _), (100002, _), (100008, _), (100017, _), (101546, _), (340020, _)])); (focus (simp only [push_cast, seval]; rfl)); (focus ((apply imp_stT; (repeat' (first | with_reducible exact keepT_nil | with_reducible exact keepC_nil | with_reducible apply keepT_cons | with_reducible apply keepC_cons | ((with_reducible apply svle_eq); (focus (first | (simp only [push_cast, seval]; rfl))); (focus ((repeat' (first | rfl)); done))) | ((with_reducible apply chle_eq); (focus (first | (simp only [push_cast, seval]; rfl))); (first | with_reducible exact chle_rfl rfl)))); done))))) | (((apply S_inlx (site := 400000) (X := sc_interchange_reply_reader_message_I1) rfl); (focus rfl); (focus (simp only [push_cast, seval]; rfl)); (focus (simp only [push_cast, seval]; rfl)); (focus decide))) | (((apply K_enter (site := 400000) (M := st [(0, _), (50, _), (53, _), (220, _), (222, _), (226, _), (227, _), (238, _), (239, _), (240, _)] [(100002, _), (100008, _), (100017, _), (101546, _), (300019, _), (340010, _), (340030, _), (340040, _), (440020, _)])); (focus ((apply imp_stT; (repeat' (first | with_reducible exact keepT_nil | with_reducible exact keepC_nil | with_reducible apply keepT_cons | with_reducible apply keepC_cons | ((with_reducible apply svle_eq); (focus (first | (simp only [push_cast, seval]; rfl))); (focus ((repeat' (first | rfl)); done))) | ((with_reducible apply chle_eq); (focus (first | (simp only [push_cast, seval]; rfl))); (first | with_reducible exact chle_rfl rfl)))); done))); unfold sc_interchange_reply_reader_group)) | (((apply K_inlR (site := 400000) (M := st [(5, _), (27, _), (30, _), (197, _), (199, _), (203, _), (204, _), (215, _), (216, _), (217, _)] [(40020, _), (100002, _), (100008, _), (100017, _), (101546, _), (300019, _), (340010, _), (340030, _), (340040, _)])); (focus (simp only [push_cast, seval]; rfl)); (focus ((apply imp_stT; (repeat' (first | with_reducible exact keepT_nil | with_reducible exact keepC_nil | with_reducible apply keepT_cons | with_reducible apply keepC_cons | ((with_reducible apply svle_eq); (focus (first | (simp only [push_cast, seval]; rfl))); (focus ((repeat' (first | rfl)); done))) | ((with_reducible apply chle_eq); (focus (first | (simp only [push_cast, seval]; rfl))); (first | with_reducible exact chle_rfl rfl)))); done))))) | (((apply W_openP (x0 := sc_interchange_reply_reader_segment_R15) 40010 17 (id := 101546) (off := 2) (n' := 5) (row := rTapi_GroupReply) (ms := [.sh, .sh, .sl 54 [.sh, .sh, .sh, .sl 78 [.sh, .sh, .sh, .sh, .sh, .sh], .sl 9 [.sh]]]) (row' := rTapi_MessageReply) (ms' := [.sh, .sh, .sh, .sl 78 [.sh, .sh, .sh, .sh, .sh, .sh], .sl 9 [.sh]]) (fld := fun x : Tapi_GroupReply => x.fMessages) (cells := fun x => [.d (.str x.fRef), .d (.int .i64 x.fVerdict), .vec 40010])); (focus (simp only [push_cast, seval]; rfl)); (focus (simp only [push_cast, seval]; rfl)); (focus exact getI_get (by assumption)); (focus rfl); (focus (intro _; rfl)); (focus (intro _; rfl)); (focus decide); (focus rfl); unfold sc_interchange_reply_reader_segment_R15)) | (((apply W_openPs (x0 := sc_interchange_reply_reader_segment_R24) 40030 18 (id := 340020) (off := 3) (n' := 6) (row := rTapi_MessageReply) (ms := [.sh, .sh, .sh, .sl 78 [.sh, .sh, .sh, .sh, .sh, .sh], .sl 9 [.sh]]) (row' := rTapi_Flaw) (fld := fun x : Tapi_MessageReply => x.fFlaws) (cells := fun x => [.d (.str x.fRef), .d (.int .i64 x.fVerdict), .d (.bool x.fUnknown), .vec 40030, .own (.sl 9 [.sh]) (.slice (List.map rowS x.fFailing))])); (focus (simp only [push_cast, seval]; rfl)); (focus (simp only [push_cast, seval]; rfl)); (focus exact getI_get (by assumption)); (focus rfl); (focus (intro _; rfl)); (focus (intro _; rfl)); (focus decide); (focus (intro _; rfl)); unfold sc_interchange_reply_reader_segment_R24)) | (((apply W_openPs (x0 := sc_interchange_reply_reader_segment_R30) 40040 18 (id := 340020) (off := 4) (n' := 1) (row := rTapi_MessageReply) (ms := [.sh, .sh, .sh, .sl 78 [.sh, .sh, .sh, .sh, .sh, .sh], .sl 9 [.sh]]) (row' := rowS) (fld := fun x : Tapi_MessageReply => x.fFailing) (cells := fun x => [.d (.str x.fRef), .d (.int .i64 x.fVerdict), .d (.bool x.fUnknown), .own (.sl 78 [.sh, .sh, .sh, .sh, .sh, .sh]) (.slice (List.map rTapi_Flaw x.fFlaws)), .vec 40040])); (focus (simp only [push_cast, seval]; rfl)); (focus (simp only [push_cast, seval]; rfl)); (focus exact getI_get (by assumption)); (focus rfl); (focus (intro _; rfl)); (focus (intro _; rfl)); (focus decide); (focus (intro _; rfl)); unfold sc_interchange_reply_reader_segment_R30)) | (((apply W_openP (x0 := sc_interchange_reply_reader_message_R2) 40020 3 (id := 101546) (off := 2) (n' := 5) (row := rTapi_GroupReply) (ms := [.sh, .sh, .sl 54 [.sh, .sh, .sh, .sl 78 [.sh, .sh, .sh, .sh, .sh, .sh], .sl 9 [.sh]]]) (row' := rTapi_MessageReply) (ms' := [.sh, .sh, .sh, .sl 78 [.sh, .sh, .sh, .sh, .sh, .sh], .sl 9 [.sh]]) (fld := fun x : Tapi_GroupReply => x.fMessages) (cells := fun x => [.d (.str x.fRef), .d (.int .i64 x.fVerdict), .vec 40020])); (focus (simp only [push_cast, seval]; rfl)); (focus (simp only [push_cast, seval]; rfl)); (focus exact getI_get (by assumption)); (focus rfl); (focus (intro _; rfl)); (focus (intro _; rfl)); (focus decide); (focus rfl); unfold sc_interchange_reply_reader_message_R2)) | (((with_reducible apply W_same sc_interchange_reply_reader_message_R2); unfold sc_interchange_reply_reader_message_R2)) | (((with_reducible apply W_same sc_interchange_reply_reader_message_R4); unfold sc_interchange_reply_reader_message_R4)) | ((apply K_next (s' := (_, _, _, _, _, _, _)) hm); (focus (first | (dsimp only; done))); (focus ((try ((apply Imp.trans); (focus ((apply imp_closeW (id := 1546) (cid := 140010) (off := 2) (n' := 5) (row := rTapi_GroupReply) (ms := [.sh, .sh, .sl 54 [.sh, .sh, .sh, .sl 78 [.sh, .sh, .sh, .sh, .sh, .sh], .sl 9 [.sh]]]) (row' := rTapi_MessageReply) (ms' := [.sh, .sh, .sh, .sl 78 [.sh, .sh, .sh, .sh, .sh, .sh], .sl 9 [.sh]]) (x' := Tapi_GroupReply.mk _ _ _)); (focus (simp only [push_cast, seval]; rfl)); (focus (simp only [push_cast, seval]; rfl)); rotate_left; (focus rfl); (focus ((repeat' (first | (with_reducible first | apply r_rflO))); done)); (focus rfl); (focus rfl); (focus (intro _; rfl)); (focus exact Nat.lt_of_sub_pos (Nat.zero_lt_succ _)); (focus (simp only [push_cast, seval]; rfl)); (focus decide); (first | (focus exact getI_get (by assumption))))))); (try ((apply Imp.trans); (focus ((apply imp_closeG (id := 340020) (cid := 140040) (off := 4) (n' := 1) (row := rTapi_MessageReply) (ms := [.sh, .sh, .sh, .sl 78 [.sh, .sh, .sh, .sh, .sh, .sh], .sl 9 [.sh]]) (row' := rowS) (ms' := [.sh])); (focus (simp only [push_cast, seval]; rfl)); (focus (simp only [push_cast, seval]; rfl)); (focus rfl); (focus ((repeat' (first | (with_reducible first | apply r_shS))); done)); (focus rfl); (focus (intro _; rfl)); (focus (first | exact getI_lt (by assumption))); (focus decide); (focus (simp only [push_cast, seval]; rfl)))))); (try ((apply Imp.trans); (focus ((apply imp_closeG (id := 340020) (cid := 140030) (off := 3) (n' := 6) (row := rTapi_MessageReply) (ms := [.sh, .sh, .sh, .sl 78 [.sh, .sh, .sh, .sh, .sh, .sh], .sl 9 [.sh]]) (row' := rTapi_Flaw) (ms' := [.sh, .sh, .sh, .sh, .sh, .sh])); (focus (simp only [push_cast, seval]; rfl)); (focus (simp only [push_cast, seval]; rfl)); (focus rfl); (focus ((repeat' (first | ((with_reducible apply r_shG); (focus rfl); (focus (intro _; rfl))))); done)); (focus rfl); (focus (intro _; rfl)); (focus (first | exact getI_lt (by assumption))); (focus decide); (focus (simp only [push_cast, seval]; rfl)))))); (try ((apply Imp.trans); (focus ((apply imp_normS (id := 340020) (row := rTapi_MessageReply) (ms := [.sh, .sh, .sh, .sl 78 [.sh, .sh, .sh, .sh, .sh, .sh], .sl 9 [.sh]]) (x' := Tapi_MessageReply.mk _ _ _ _ _)); (focus (simp only [push_cast, seval]; rfl)); (focus ((repeat' (first | (with_reducible first | apply oT_Tapi_MessageReply) | ((with_reducible apply svle_eq); (focus (first | rfl)); (focus ((repeat' (first | rfl)); done))) | ((with_reducible apply cle_own); (focus rfl); (focus ((repeat' (first | rfl)); done))))); done)))))); (try ((apply Imp.trans); (focus ((apply imp_closeW (id := 1546) (cid := 340020) (off := 2) (n' := 5) (row := rTapi_GroupReply) (ms := [.sh, .sh, .sl 54 [.sh, .sh, .sh, .sl 78 [.sh, .sh, .sh, .sh, .sh, .sh], .sl 9 [.sh]]]) (row' := rTapi_MessageReply) (ms' := [.sh, .sh, .sh, .sl 78 [.sh, .sh, .sh, .sh, .sh, .sh], .sl 9 [.sh]]) (x' := Tapi_GroupReply.mk _ _ _)); (focus (simp only [push_cast, seval]; rfl)); (focus (simp only [push_cast, seval]; rfl)); rotate_left; (focus rfl); (focus ((repeat' (first | (with_reducible first | apply r_rflO))); done)); (focus rfl); (focus rfl); (focus (intro _; rfl)); (focus exact Nat.lt_of_sub_pos (Nat.zero_lt_succ _)); (focus (simp only [push_cast, seval]; rfl)); (focus decide); (first | (focus exact getI_get (by assumption))))))); (try ((apply Imp.trans); (focus ((apply imp_closeW (id := 101546) (cid := 40010) (off := 2) (n' := 5) (row := rTapi_GroupReply) (ms := [.sh, .sh, .sl 54 [.sh, .sh, .sh, .sl 78 [.sh, .sh, .sh, .sh, .sh, .sh], .sl 9 [.sh]]]) (row' := rTapi_MessageReply) (ms' := [.sh, .sh, .sh, .sl 78 [.sh, .sh, .sh, .sh, .sh, .sh], .sl 9 [.sh]]) (x' := Tapi_GroupReply.mk _ _ _)); (focus (simp only [push_cast, seval]; rfl)); (focus (simp only [push_cast, seval]; rfl)); rotate_left; (focus rfl); (focus ((repeat' (fail)); done)); (focus rfl); (focus rfl); (focus (intro _; rfl)); (focus exact Nat.lt_of_sub_pos (Nat.zero_lt_succ _)); (focus (simp only [push_cast, seval]; rfl)); (focus decide); (fail))))); (try ((apply Imp.trans); (focus ((apply imp_closeG (id := 340020) (cid := 40030) (off := 3) (n' := 6) (row := rTapi_MessageReply) (ms := [.sh, .sh, .sh, .sl 78 [.sh, .sh, .sh, .sh, .sh, .sh], .sl 9 [.sh]]) (row' := rTapi_Flaw) (ms' := [.sh, .sh, .sh, .sh, .sh, .sh])); (focus (simp only [push_cast, seval]; rfl)); (focus (simp only [push_cast, seval]; rfl)); (focus rfl); (focus ((repeat' (fail)); done)); (focus rfl); (focus (intro _; rfl)); (focus (fail)); (focus decide); (focus (simp only [push_cast, seval]; rfl)))))); (try ((apply Imp.trans); (focus ((apply imp_closeG (id := 340020) (cid := 40040) (off := 4) (n' := 1) (row := rTapi_MessageReply) (ms := [.sh, .sh, .sh, .sl 78 [.sh, .sh, .sh, .sh, .sh, .sh], .sl 9 [.sh]]) (row' := rowS) (ms' := [.sh])); (focus (simp only [push_cast, seval]; rfl)); (focus (simp only [push_cast, seval]; rfl)); (focus rfl); (focus ((repeat' (fail)); done)); (focus rfl); (focus (intro _; rfl)); (focus (fail)); (focus decide); (focus (simp only [push_cast, seval]; rfl)))))); (try ((apply Imp.trans); (focus ((apply imp_normS (id := 340020) (row := rTapi_MessageReply) (ms := [.sh, .sh, .sh, .sl 78 [.sh, .sh, .sh, .sh, .sh, .sh], .sl 9 [.sh]]) (x' := Tapi_MessageReply.mk _ _ _ _ _)); (focus (simp only [push_cast, seval]; rfl)); (focus ((repeat' (fail)); done)))))); (try ((apply Imp.trans); (focus ((apply imp_closeW (id := 101546) (cid := 340020) (off := 2) (n' := 5) (row := rTapi_GroupReply) (ms := [.sh, .sh, .sl 54 [.sh, .sh, .sh, .sl 78 [.sh, .sh, .sh, .sh, .sh, .sh], .sl 9 [.sh]]]) (row' := rTapi_MessageReply) (ms' := [.sh, .sh, .sh, .sl 78 [.sh, .sh, .sh, .sh, .sh, .sh], .sl 9 [.sh]]) (x' := Tapi_GroupReply.mk _ _ _)); (focus (simp only [push_cast, seval]; rfl)); (focus (simp only [push_cast, seval]; rfl)); rotate_left; (focus rfl); (focus ((repeat' (fail)); done)); (focus rfl); (focus rfl); (focus (intro _; rfl)); (focus exact Nat.lt_of_sub_pos (Nat.zero_lt_succ _)); (focus (simp only [push_cast, seval]; rfl)); (focus decide); (fail))))); (try ((apply Imp.trans); (focus ((apply imp_closeG (id := 40020) (cid := 340040) (off := 4) (n' := 1) (row := rTapi_MessageReply) (ms := [.sh, .sh, .sh, .sl 78 [.sh, .sh, .sh, .sh, .sh, .sh], .sl 9 [.sh]]) (row' := rowS) (ms' := [.sh])); (focus (simp only [push_cast, seval]; rfl)); (focus (simp only [push_cast, seval]; rfl)); (focus rfl); (focus ((repeat' (fail)); done)); (focus rfl); (focus (intro _; rfl)); (focus (fail)); (focus decide); (focus (simp only [push_cast, seval]; rfl)))))); (try ((apply Imp.trans); (focus ((apply imp_closeG (id := 40020) (cid := 340030) (off := 3) (n' := 6) (row := rTapi_MessageReply) (ms := [.sh, .sh, .sh, .sl 78 [.sh, .sh, .sh, .sh, .sh, .sh], .sl 9 [.sh]]) (row' := rTapi_Flaw) (ms' := [.sh, .sh, .sh, .sh, .sh, .sh])); (focus (simp only [push_cast, seval]; rfl)); (focus (simp only [push_cast, seval]; rfl)); (focus rfl); (focus ((repeat' (fail)); done)); (focus rfl); (focus (intro _; rfl)); (focus (fail)); (focus decide); (focus (simp only [push_cast, seval]; rfl)))))); (try ((apply Imp.trans); (focus ((apply imp_normS (id := 40020) (row := rTapi_MessageReply) (ms := [.sh, .sh, .sh, .sl 78 [.sh, .sh, .sh, .sh, .sh, .sh], .sl 9 [.sh]]) (x' := Tapi_MessageReply.mk _ _ _ _ _)); (focus (simp only [push_cast, seval]; rfl)); (focus ((repeat' (fail)); done)))))); (try ((apply Imp.trans); (focus ((apply imp_closeW (id := 101546) (cid := 40020) (off := 2) (n' := 5) (row := rTapi_GroupReply) (ms := [.sh, .sh, .sl 54 [.sh, .sh, .sh, .sl 78 [.sh, .sh, .sh, .sh, .sh, .sh], .sl 9 [.sh]]]) (row' := rTapi_MessageReply) (ms' := [.sh, .sh, .sh, .sl 78 [.sh, .sh, .sh, .sh, .sh, .sh], .sl 9 [.sh]]) (x' := Tapi_GroupReply.mk _ _ _)); (focus (simp only [push_cast, seval]; rfl)); (focus (simp only [push_cast, seval]; rfl)); rotate_left; (focus rfl); (focus ((repeat' (fail)); done)); (focus rfl); (focus rfl); (focus (intro _; rfl)); (focus exact Nat.lt_of_sub_pos (Nat.zero_lt_succ _)); (focus (simp only [push_cast, seval]; rfl)); (focus decide); (fail))))); (try ((apply Imp.trans); (focus ((apply imp_closeW (id := 101546) (cid := 340010) (off := 2) (n' := 5) (row := rTapi_GroupReply) (ms := [.sh, .sh, .sl 54 [.sh, .sh, .sh, .sl 78 [.sh, .sh, .sh, .sh, .sh, .sh], .sl 9 [.sh]]]) (row' := rTapi_MessageReply) (ms' := [.sh, .sh, .sh, .sl 78 [.sh, .sh, .sh, .sh, .sh, .sh], .sl 9 [.sh]]) (x' := Tapi_GroupReply.mk _ _ _)); (focus (simp only [push_cast, seval]; rfl)); (focus (simp only [push_cast, seval]; rfl)); rotate_left; (focus rfl); (focus ((repeat' (fail)); done)); (focus rfl); (focus rfl); (focus (intro _; rfl)); (focus exact Nat.lt_of_sub_pos (Nat.zero_lt_succ _)); (focus (simp only [push_cast, seval]; rfl)); (focus decide); (fail))))); (try ((apply Imp.trans); (focus ((apply imp_normO 1546 [.sh, .sh, .sl 54 [.sh, .sh, .sh, .sl 78 [.sh, .sh, .sh, .sh, .sh, .sh], .sl 9 [.sh]]] rTapi_GroupReply); (focus (simp only [push_cast, seval]; rfl)); (focus ((repeat' (fail)); done)))))); (try ((apply Imp.trans); (focus ((apply imp_norm1 1546 [.sh, .sh, .sl 54 [.sh, .sh, .sh, .sl 78 [.sh, .sh, .sh, .sh, .sh, .sh], .sl 9 [.sh]]] rTapi_GroupReply); (focus (simp only [push_cast, seval]; rfl)); (focus ((repeat' (fail)); done)))))); (try ((apply Imp.trans); (focus ((apply imp_normO 101546 [.sh, .sh, .sl 54 [.sh, .sh, .sh, .sl 78 [.sh, .sh, .sh, .sh, .sh, .sh], .sl 9 [.sh]]] rTapi_GroupReply); (focus (simp only [push_cast, seval]; rfl)); (focus ((repeat' (fail)); done)))))); (try ((apply Imp.trans); (focus ((apply imp_norm1 101546 [.sh, .sh, .sl 54 [.sh, .sh, .sh, .sl 78 [.sh, .sh, .sh, .sh, .sh, .sh], .sl 9 [.sh]]] rTapi_GroupReply); (focus (simp only [push_cast, seval]; rfl)); (focus ((repeat' (fail)); done)))))); (apply imp_stT; (repeat' (first | with_reducible exact keepT_nil | with_reducible exact keepC_nil | with_reducible apply keepT_cons | with_reducible apply keepC_cons | ((with_reducible apply svle_eq); (focus (first | (simp only [push_cast, seval]; rfl))); (focus ((repeat' (first | rfl)); done))) | ((with_reducible apply chle_eq); (focus (first | (simp only [push_cast, seval]; rfl))); (first | with_reducible exact chle_rfl rfl)))); done)))) | ((apply K_brk (s' := (_, _, _, _, _, _, _)) hm); (focus (first | (dsimp only; done))); (focus ((apply imp_stT; (repeat' (first | with_reducible exact keepT_nil | with_reducible exact keepC_nil | with_reducible apply keepT_cons | with_reducible apply keepC_cons | ((with_reducible apply svle_eq); (focus (first | (simp only [push_cast, seval]; rfl))); (focus ((repeat' (first | rfl)); done))) | ((with_reducible apply chle_eq); (focus (first | (simp only [push_cast, seval]; rfl))); (first | with_reducible exact chle_rfl rfl)))); done)))) | (((with_reducible apply K_brkR hm); intro r hm)) | (((with_reducible apply LoopB.of); (focus (first | (dsimp only; done))); (focus ((intro _; repeat' (first | with_reducible exact impC_end | with_reducible refine impC_seq ?_)))); (intro s o hm; first | unfold sc_reply_Read_L1); rotate_left; intro s hm)) | (((apply imp_stT; (repeat' (first | with_reducible exact keepT_nil | with_reducible exact keepC_nil | with_reducible apply keepT_cons | with_reducible apply keepC_cons | ((with_reducible apply svle_eq); (focus (first | (simp only [push_cast, seval]; rfl) | rfl)); (focus ((repeat' (first | rfl)); done))) | ((with_reducible apply svle_td); (focus (first | rfl)); (focus (first | (simp only [push_cast, seval]; rfl))); (focus ((repeat' (first | (with_reducible first | apply dv_slice | apply fold_nil))); done))) | ((with_reducible apply chle_eq); (focus (first | (simp only [push_cast, seval]; rfl))); (first | with_reducible exact chle_rfl rfl | with_reducible apply chle_vec | with_reducible apply chle_box)) | (with_reducible first | apply cT_Tapi_Reply | apply r_nilO))); done))))
noncomputable def m_reply_Read (x0 : List Tapi_Segment) : Option (Tapi_Reply × Int × Int) := (sims_GTW_3_0 x0).1
theorem spec_reply_Read (x0 : List Tapi_Segment) : ∀ r, m_reply_Read x0 = some r → PureSpec Tryz.prog 5 [.slice (List.map rTapi_Segment x0)] (.tup [.agg (rTapi_Reply r.1), .int .i64 r.2.1, .int .i64 r.2.2]) := (sims_GTW_3_0 x0).2

end Go.Proofs.YtcbdpjgejbcpgaaGreatDoor

/-
  Bodies of functions and what they compute, printed by programs of mine (wip/tool/gen.py, sc.py) out of the translation; the kernel holds each against the translation.
-/
namespace Go.Proofs.YtcbdpjgejbcpgaaGreatDoor
open Go.RowKit
set_option linter.unusedSimpArgs false
set_option linter.unusedVariables false
/-- interchange/interchangelaw7.ReplySegmentsComeBack -/
def sc_interchangelaw7_ReplySegmentsComeBack : SC :=
  (.seq (.reg [.r 2 (.boxI (.t 0)),
     .r 4 (.mv (.c (.d (.bool false))))])
  (.seq (.seq (.reg [.o 15 (.ldA 3 (.t 2)),
     .c 16 (.f 9) [.t 15],
     .r 14 (.mv (.t 16)),
     .r 17 (.ext (.t 14) 0),
     .r 18 (.ext (.t 14) 1),
     .r 5 (.mv (.t 17)),
     .r 6 (.mv (.t 18))])
  (.seq (.reg [.r 19 (.mv (.t 6)),
     .r 20 (.bin .eql (.t 19) (.c (.d (.int .i64 0))))])
  (.cond (.t 20)
    (.seq (.reg [.r 22 (.mv (.t 5)),
       .c 23 (.f 5) [.t 22],
       .r 21 (.mv (.t 23)),
       .r 24 (.ext (.t 21) 0),
       .r 25 (.ext (.t 21) 1),
       .r 26 (.ext (.t 21) 2),
       .w 7 (.boxM (.c (.agg [.d (.str []), .d (.int .i64 0), .nils]))),
       .w 0 (.st 3 (.t 7) (.t 24)),
       .r 8 (.mv (.t 25)),
       .r 9 (.mv (.t 26))])
    (.seq (.reg (.r 27 (.mv (.t 9)) :: .r 28 (.bin .neq (.t 27) (.c (.d (.int .i64 0)))) :: .r 29 (.mv (.t 28)) :: gapp [30, 31] 29 false (.r 30 (.mv (.t 8)) :: .r 31 (.bin .neq (.t 30) (.c (.d (.int .i64 0)))) :: []) (.r 32 (.pick (.t 29) (.c (.d (.bool true))) (.t 31)) :: .r 33 (.mv (.t 32)) :: gapp [34, 35, 36, 37] 33 false (.r 34 (.ldA 3 (.t 7)) :: .r 35 (.ldA 3 (.t 2)) :: .c 36 (.f 7) [.t 34, .t 35] :: .r 37 (.not (.t 36)) :: []) (.r 38 (.pick (.t 33) (.c (.d (.bool true))) (.t 37)) :: []))))
    (.cond (.t 38)
      (.seq (.reg [.r 4 (.mv (.c (.d (.bool false))))])
      .ret)
      .skip)))
    .skip)))
  (.seq (.reg [.r 40 (.mv (.t 1)),
     .c 41 (.f 5) [.t 40],
     .r 39 (.mv (.t 41)),
     .r 42 (.ext (.t 39) 0),
     .r 43 (.ext (.t 39) 1),
     .r 44 (.ext (.t 39) 2),
     .w 10 (.boxM (.c (.agg [.d (.str []), .d (.int .i64 0), .nils]))),
     .w 0 (.st 3 (.t 10) (.t 42)),
     .r 11 (.mv (.t 43)),
     .r 12 (.mv (.t 44))])
  (.seq (.seq (.reg [.r 45 (.mv (.t 12)),
     .r 46 (.bin .neq (.t 45) (.c (.d (.int .i64 0))))])
  (.cond (.t 46)
    (.seq (.reg (.r 47 (.fld 0 (.t 10)) :: .o 48 (.ld1 (.t 47)) :: .r 49 (.bin .eql (.t 48) (.c (.d (.str [])))) :: .r 50 (.mv (.t 49)) :: gapp [51] 50 true (.c 51 (.f 8) [] :: []) (.r 52 (.pick (.t 50) (.t 51) (.c (.d (.bool false)))) :: .r 4 (.mv (.t 52)) :: [])))
    .ret)
    .skip))
  (.seq (.reg [.o 54 (.ldA 3 (.t 10)),
     .c 55 (.f 9) [.t 54],
     .r 53 (.mv (.t 55)),
     .r 56 (.ext (.t 53) 0),
     .r 57 (.ext (.t 53) 1),
     .r 13 (.mv (.t 56)),
     .r 12 (.mv (.t 57))])
  (.seq (.reg (.r 58 (.mv (.t 12)) :: .r 59 (.bin .eql (.t 58) (.c (.d (.int .i64 0)))) :: .r 60 (.mv (.t 59)) :: gapp [61, 62, 63] 60 true (.r 61 (.mv (.t 13)) :: .r 62 (.mv (.t 1)) :: .c 63 (.f 10) [.t 61, .t 62] :: []) (.r 64 (.pick (.t 60) (.t 63) (.c (.d (.bool false)))) :: .r 65 (.mv (.t 64)) :: gapp [66] 65 true (.c 66 (.f 8) [] :: []) (.r 67 (.pick (.t 65) (.t 66) (.c (.d (.bool false)))) :: .r 4 (.mv (.t 67)) :: []))))
  .ret))))))
theorem fit_interchangelaw7_ReplySegmentsComeBack : fits Tryz.prog 4 Tryz.f4 sc_interchangelaw7_ReplySegmentsComeBack [.t 4] 2 = true := by kernel_rfl

set_option maxRecDepth 100000 in
set_option maxHeartbeats 40000000 in
noncomputable def sims_GM_0_0 : (∀ (x0 : Tapi_Reply) (x1 : List Tapi_Segment), {m : Option (Bool) // ∀ r, m = some r → PureSpec Tryz.prog 4 [.agg (rTapi_Reply x0), .slice (List.map rTapi_Segment x1)] (.bool r)}) := by
  (intro x0 x1; apply Subtype.mk; intro r hm; apply pure_walk Tryz.func4 fit_interchangelaw7_ReplySegmentsComeBack; unfold sc_interchangelaw7_ReplySegmentsComeBack)
  repeat' (first | with_reducible refine W_seq ?_ | with_reducible refine W_reg ?_ | with_reducible refine W_block ?_ | with_reducible refine W_skip ?_ | with_reducible refine W_ret ?_ | with_reducible refine W_exit ?_ | with_reducible refine O_nil ?_ | with_reducible refine K_seq ?_ | with_reducible refine K_seqE ?_ | with_reducible refine K_seqR ?_ | with_reducible refine K_block ?_ | with_reducible refine K_blockR ?_ | with_reducible refine K_blockE ?_ | ((with_reducible apply K_blockN); decide) | with_reducible refine O_o2r ?_ | ((with_reducible apply O_r); (simp only [push_cast, seval]; rfl); (first | exact trivial | omega)) | ((with_reducible apply O_andF); (focus (simp only [push_cast, seval]; done)); rfl; intro g) | ((with_reducible apply O_orT); (focus (simp only [push_cast, seval]; done)); rfl; intro g) | ((with_reducible apply O_and hm); (simp only [push_cast, seval]; rfl); rfl; intro v hm; rotate_left; intro v g hm) | ((with_reducible apply O_or hm); (simp only [push_cast, seval]; rfl); rfl; intro v hm; rotate_left; intro v g hm) | ((with_reducible apply W_condT); (focus (simp only [push_cast, seval]; done))) | ((with_reducible apply W_condF); (focus (simp only [push_cast, seval]; done))) | ((with_reducible apply O_cF hm); (simp only [push_cast, seval]; rfl); (first | apply spec_reply_Segments _ | apply spec_reply_Read _ | apply spec_interchangeref7_SameReply _ _ | apply spec_interchangelaw7_awake | apply spec_interchangeref2_SameSegments _ _); (any_goals ((repeat' (first | rfl | (with_reducible first | apply fT_Tapi_Element | apply fT_Tapi_Flaw | apply fT_Tapi_GroupReply | apply fT_Tapi_MessageReply | apply fT_Tapi_Reply | apply fT_Tapi_Segment | apply fT_Tapi_Spot | apply f_optN | apply f_optS | apply f_some | apply f_tup | apply f_agg | apply f_ptr | apply f_fn | apply dv_slice | apply sv_d | apply f_cons | apply fold_nil | apply fold_cons | apply fold_app | apply f_rowI | apply f_rowY | apply f_rowS | apply f_rowB | apply f_rowL) | (with_reducible apply f_byte; decide))); done)); intro x hm) | ((with_reducible apply O_w); (simp only [push_cast, seval]; rfl); (first | exact trivial | omega)) | ((with_reducible apply S_condB hm); (simp only [push_cast, seval]; rfl); intro hm; rotate_left; intro hm) | ((with_reducible apply K_endS hm); (focus (simp only [resOf, resL, RV.get, push_cast, seval]; rfl)); (focus ((repeat' (first | rfl | (with_reducible first | apply fT_Tapi_Element | apply fT_Tapi_Flaw | apply fT_Tapi_GroupReply | apply fT_Tapi_MessageReply | apply fT_Tapi_Reply | apply fT_Tapi_Segment | apply fT_Tapi_Spot | apply f_optN | apply f_optS | apply f_some | apply f_tup | apply f_agg | apply f_ptr | apply f_fn | apply dv_slice | apply sv_d | apply f_cons | apply fold_nil | apply fold_cons | apply fold_app | apply f_rowI | apply f_rowY | apply f_rowS | apply f_rowB | apply f_rowL) | (with_reducible apply f_byte; decide))); done))) | ((with_reducible apply K_bool hm); (simp only [push_cast, seval]; rfl)))
noncomputable def m_interchangelaw7_ReplySegmentsComeBack (x0 : Tapi_Reply) (x1 : List Tapi_Segment) : Option (Bool) := (sims_GM_0_0 x0 x1).1
theorem spec_interchangelaw7_ReplySegmentsComeBack (x0 : Tapi_Reply) (x1 : List Tapi_Segment) : ∀ r, m_interchangelaw7_ReplySegmentsComeBack x0 x1 = some r → PureSpec Tryz.prog 4 [.agg (rTapi_Reply x0), .slice (List.map rTapi_Segment x1)] (.bool r) := (sims_GM_0_0 x0 x1).2

end Go.Proofs.YtcbdpjgejbcpgaaGreatDoor

/-
  How the parameters of the laws of this seat read, and a world in which the listed tables lie (printed by wip/tool/row.py).
-/
namespace Go.Proofs.YtcbdpjgejbcpgaaGreatDoor
open Go.ChangeShapes Go.WideShapes Go.ChangeAt Go.RowKit
set_option linter.unusedSimpArgs false
set_option linter.unusedVariables false
theorem and_t {a b : Bool} (h1 : a = true) (h2 : b = true) : (a && b) = true := by rw [h1, h2]; rfl
/-- How a value of a type reads. -/
def Wt (P : Program) (n : Nat) (t : TypeId) {α : Type} (row : α → List DV) (ok : α → Prop) : Prop := ∀ m ds, WT P (m + n) t ds → ∃ x, ds = row x ∧ ok x
theorem Wt.up {P : Program} {n : Nat} {t : TypeId} {α : Type} {row : α → List DV} {ok : α → Prop} (h : Wt P n t row ok) (k : Nat) : Wt P (n + k) t row ok := fun m ds hd => h (m + k) ds (by rwa [show m + k + n = m + (n + k) by omega])
def okI (n : Int) : Prop := -9223372036854775808 ≤ n ∧ n ≤ 9223372036854775807
def okS (s : List UInt8) : Prop := s.length ≤ 9223372036854775807
def okB (_ : Bool) : Prop := True
def okL {α : Type} (ok : α → Prop) (l : List α) : Prop := l.length ≤ 9223372036854775807 ∧ ∀ a ∈ l, ok a
theorem WT_struct {P : Program} {n : Nat} {t : TypeId} {fs : Array Field} {ds : List DV} (hu : P.underlying t = some (.struct fs)) (h : WT P (n + 1) t ds) : WTS (WT P n) fs.toList ds := by
  simp only [WT, hu] at h; exact h
theorem wt_int {P : Program} {t : TypeId} (hu : P.underlying t = some (.int .i64)) : Wt P 1 t rowI okI := by
  intro m ds h
  simp only [WT, hu] at h
  obtain ⟨k, rfl, hw⟩ := h
  refine ⟨k, rfl, ?_⟩
  simp [Lit.wf] at hw
  have e : IntKind.i64.min = -9223372036854775808 := by decide
  unfold okI; omega
theorem wt_bool {P : Program} {t : TypeId} (hu : P.underlying t = some .bool) : Wt P 1 t rowB okB := by
  intro m ds h
  simp only [WT, hu] at h
  obtain ⟨b, rfl⟩ := h
  exact ⟨b, rfl, trivial⟩
theorem wt_str {P : Program} {t : TypeId} (hu : P.underlying t = some .string) : Wt P 1 t rowS okS := by
  intro m ds h
  simp only [WT, hu] at h
  obtain ⟨b, rfl, hl⟩ := h
  exact ⟨b, rfl, by unfold okS; unfold maxLen at hl; omega⟩
theorem wt_slice {P : Program} {n : Nat} {t e : TypeId} {α : Type} {row : α → List DV} {ok : α → Prop} (hu : P.underlying t = some (.slice e)) (he : Wt P n e row ok) : Wt P (n + 1) t (rowL row) (okL ok) := by
  intro m ds h
  rw [show m + (n + 1) = (m + n) + 1 by omega] at h
  simp only [WT, hu] at h
  obtain ⟨rows, rfl, hl, hr⟩ := h
  have : ∀ rows : List (List DV), (∀ r ∈ rows, WT P (m + n) e r) → ∃ l : List α, rows = l.map row ∧ ∀ a ∈ l, ok a := by
    intro rows
    induction rows with
    | nil => intro _; exact ⟨[], rfl, by simp⟩
    | cons r rows ih =>
      intro h
      obtain ⟨a, rfl, ha⟩ := he m r (h r (by simp))
      obtain ⟨l, rfl, hl⟩ := ih (fun r hr => h r (by simp [hr]))
      exact ⟨a :: l, rfl, by simpa using ⟨ha, hl⟩⟩
  obtain ⟨l, rfl, hok⟩ := this rows hr
  exact ⟨l, rfl, by unfold maxLen at hl; simp at hl; omega, hok⟩
theorem ownK : ownKnob Tryz.prog.godebug = none := by kernel_rfl
theorem laidOut : laidOutB Tryz.prog = true := by kernel_rfl
theorem wt9 : Wt Tryz.prog 1 9 rowS okS := wt_str Tryz.underlying9
theorem wt3 : Wt Tryz.prog 1 3 rowI okI := wt_int Tryz.underlying3
theorem wt4 : Wt Tryz.prog 1 4 rowB okB := wt_bool Tryz.underlying4
def okTapi_Spot (x : Tapi_Spot) : Prop := okI x.fElement ∧ okI x.fRepeat ∧ okI x.fPart
set_option maxRecDepth 100000 in
theorem wt76 : Wt Tryz.prog 2 76 rTapi_Spot okTapi_Spot := by
  intro m ds h
  have h := WT_struct Tryz.underlying76 h
  simp only [WTS] at h
  obtain ⟨a0, _, rfl, h0, a1, _, rfl, h1, a2, _, rfl, h2, rfl⟩ := h
  obtain ⟨x0, rfl, o0⟩ := (wt3.up 0) m _ h0
  obtain ⟨x1, rfl, o1⟩ := (wt3.up 0) m _ h1
  obtain ⟨x2, rfl, o2⟩ := (wt3.up 0) m _ h2
  refine ⟨⟨x0, x1, x2⟩, ?_, o0, o1, o2⟩
  simp only [rTapi_Spot, rowI, rowY, rowS, rowB, rowL, List.append_assoc, List.cons_append, List.nil_append, List.append_nil]
def okTapi_Flaw (x : Tapi_Flaw) : Prop := okI x.fKind ∧ okI x.fSegment ∧ okTapi_Spot x.fAt ∧ okS x.fName
set_option maxRecDepth 100000 in
theorem wt78 : Wt Tryz.prog 3 78 rTapi_Flaw okTapi_Flaw := by
  intro m ds h
  have h := WT_struct Tryz.underlying78 h
  simp only [WTS] at h
  obtain ⟨a0, _, rfl, h0, a1, _, rfl, h1, a2, _, rfl, h2, a3, _, rfl, h3, rfl⟩ := h
  obtain ⟨x0, rfl, o0⟩ := (wt3.up 1) m _ h0
  obtain ⟨x1, rfl, o1⟩ := (wt3.up 1) m _ h1
  obtain ⟨x2, rfl, o2⟩ := (wt76.up 0) m _ h2
  obtain ⟨x3, rfl, o3⟩ := (wt9.up 1) m _ h3
  refine ⟨⟨x0, x1, x2, x3⟩, ?_, o0, o1, o2, o3⟩
  simp only [rTapi_Flaw, rowI, rowY, rowS, rowB, rowL, List.append_assoc, List.cons_append, List.nil_append, List.append_nil]
theorem wt51 : Wt Tryz.prog 4 51 (rowL rTapi_Flaw) (okL okTapi_Flaw) := wt_slice Tryz.underlying51 wt78
theorem wt52 : Wt Tryz.prog 2 52 (rowL rowS) (okL okS) := wt_slice Tryz.underlying52 wt9
def okTapi_MessageReply (x : Tapi_MessageReply) : Prop := okS x.fRef ∧ okI x.fVerdict ∧ okB x.fUnknown ∧ (okL okTapi_Flaw) x.fFlaws ∧ (okL okS) x.fFailing
set_option maxRecDepth 100000 in
theorem wt54 : Wt Tryz.prog 5 54 rTapi_MessageReply okTapi_MessageReply := by
  intro m ds h
  have h := WT_struct Tryz.underlying54 h
  simp only [WTS] at h
  obtain ⟨a0, _, rfl, h0, a1, _, rfl, h1, a2, _, rfl, h2, a3, _, rfl, h3, a4, _, rfl, h4, rfl⟩ := h
  obtain ⟨x0, rfl, o0⟩ := (wt9.up 3) m _ h0
  obtain ⟨x1, rfl, o1⟩ := (wt3.up 3) m _ h1
  obtain ⟨x2, rfl, o2⟩ := (wt4.up 3) m _ h2
  obtain ⟨x3, rfl, o3⟩ := (wt51.up 0) m _ h3
  obtain ⟨x4, rfl, o4⟩ := (wt52.up 2) m _ h4
  refine ⟨⟨x0, x1, x2, x3, x4⟩, ?_, o0, o1, o2, o3, o4⟩
  simp only [rTapi_MessageReply, rowI, rowY, rowS, rowB, rowL, List.append_assoc, List.cons_append, List.nil_append, List.append_nil]
theorem wt47 : Wt Tryz.prog 6 47 (rowL rTapi_MessageReply) (okL okTapi_MessageReply) := wt_slice Tryz.underlying47 wt54
def okTapi_GroupReply (x : Tapi_GroupReply) : Prop := okS x.fRef ∧ okI x.fVerdict ∧ (okL okTapi_MessageReply) x.fMessages
set_option maxRecDepth 100000 in
theorem wt49 : Wt Tryz.prog 7 49 rTapi_GroupReply okTapi_GroupReply := by
  intro m ds h
  have h := WT_struct Tryz.underlying49 h
  simp only [WTS] at h
  obtain ⟨a0, _, rfl, h0, a1, _, rfl, h1, a2, _, rfl, h2, rfl⟩ := h
  obtain ⟨x0, rfl, o0⟩ := (wt9.up 5) m _ h0
  obtain ⟨x1, rfl, o1⟩ := (wt3.up 5) m _ h1
  obtain ⟨x2, rfl, o2⟩ := (wt47.up 0) m _ h2
  refine ⟨⟨x0, x1, x2⟩, ?_, o0, o1, o2⟩
  simp only [rTapi_GroupReply, rowI, rowY, rowS, rowB, rowL, List.append_assoc, List.cons_append, List.nil_append, List.append_nil]
theorem wt23 : Wt Tryz.prog 8 23 (rowL rTapi_GroupReply) (okL okTapi_GroupReply) := wt_slice Tryz.underlying23 wt49
def okTapi_Reply (x : Tapi_Reply) : Prop := okS x.fRef ∧ okI x.fVerdict ∧ (okL okTapi_GroupReply) x.fGroups
set_option maxRecDepth 100000 in
theorem wt25 : Wt Tryz.prog 9 25 rTapi_Reply okTapi_Reply := by
  intro m ds h
  have h := WT_struct Tryz.underlying25 h
  simp only [WTS] at h
  obtain ⟨a0, _, rfl, h0, a1, _, rfl, h1, a2, _, rfl, h2, rfl⟩ := h
  obtain ⟨x0, rfl, o0⟩ := (wt9.up 7) m _ h0
  obtain ⟨x1, rfl, o1⟩ := (wt3.up 7) m _ h1
  obtain ⟨x2, rfl, o2⟩ := (wt23.up 0) m _ h2
  refine ⟨⟨x0, x1, x2⟩, ?_, o0, o1, o2⟩
  simp only [rTapi_Reply, rowI, rowY, rowS, rowB, rowL, List.append_assoc, List.cons_append, List.nil_append, List.append_nil]
theorem wt65 : Wt Tryz.prog 3 65 (rowL (rowL rowS)) (okL (okL okS)) := wt_slice Tryz.underlying65 wt52
def okTapi_Element (x : Tapi_Element) : Prop := (okL (okL okS)) x.fRepeats
set_option maxRecDepth 100000 in
theorem wt67 : Wt Tryz.prog 4 67 rTapi_Element okTapi_Element := by
  intro m ds h
  have h := WT_struct Tryz.underlying67 h
  simp only [WTS] at h
  obtain ⟨a0, _, rfl, h0, rfl⟩ := h
  obtain ⟨x0, rfl, o0⟩ := (wt65.up 0) m _ h0
  refine ⟨⟨x0⟩, ?_, o0⟩
  simp only [rTapi_Element, rowI, rowY, rowS, rowB, rowL, List.append_assoc, List.cons_append, List.nil_append, List.append_nil]
theorem wt40 : Wt Tryz.prog 5 40 (rowL rTapi_Element) (okL okTapi_Element) := wt_slice Tryz.underlying40 wt67
def okTapi_Segment (x : Tapi_Segment) : Prop := okS x.fTag ∧ (okL okTapi_Element) x.fElements
set_option maxRecDepth 100000 in
theorem wt42 : Wt Tryz.prog 6 42 rTapi_Segment okTapi_Segment := by
  intro m ds h
  have h := WT_struct Tryz.underlying42 h
  simp only [WTS] at h
  obtain ⟨a0, _, rfl, h0, a1, _, rfl, h1, rfl⟩ := h
  obtain ⟨x0, rfl, o0⟩ := (wt9.up 4) m _ h0
  obtain ⟨x1, rfl, o1⟩ := (wt40.up 0) m _ h1
  refine ⟨⟨x0, x1⟩, ?_, o0, o1⟩
  simp only [rTapi_Segment, rowI, rowY, rowS, rowB, rowL, List.append_assoc, List.cons_append, List.nil_append, List.append_nil]
theorem wt22 : Wt Tryz.prog 7 22 (rowL rTapi_Segment) (okL okTapi_Segment) := wt_slice Tryz.underlying22 wt42
def layVals : Nat → DataW Unit → List Value
  | 0, _ => []
  | _ + 1, .lit (.int k n) => [.int k n]
  | n + 1, .agg ps => ps.flatMap (layVals n)
  | _ + 1, _ => []
/-- The settled world, with the listed tables in it. -/
def layCells (l : List Value) : Obj → Obj
  | .cells _ t frozen => .cells l.toArray t frozen
  | o => o
noncomputable def lowWorld : Nat := (World.holding Tryz.prog default ⟨#[], #[], []⟩).heap.size
noncomputable def laidWorld (os : Os) : World :=
  { World.holding Tryz.prog os ⟨#[], #[], []⟩ with
    heap := ((((((((World.holding Tryz.prog os ⟨#[.cells #[.string ⟨#[118, 97, 108, 117, 101, 32, 111, 117, 116, 32, 111, 102, 32, 114, 97, 110, 103, 101]⟩] 191, .cells #[.string ⟨#[105, 110, 118, 97, 108, 105, 100, 32, 115, 121, 110, 116, 97, 120]⟩] 191], #[], []⟩).heap.modify 6 (layCells (layVals 5 Rows.laid_math_bits_deBruijn32tab))).modify 7 (layCells (layVals 5 Rows.laid_math_bits_deBruijn64tab))).modify 1 (layCells (layVals 5 Rows.laid_internal_strconv_uint64pow10))).modify 5 (layCells (layVals 5 Rows.laid_unicode_utf8_acceptRanges))).modify 3 (layCells [.iface 189 (.pointer (some ⟨lowWorld + 0, 0, none⟩))])).modify 2 (layCells [.iface 189 (.pointer (some ⟨lowWorld + 1, 0, none⟩))])).modify 4 (layCells (layVals 5 Rows.laid_unicode_utf8_first))) }
end Go.Proofs.YtcbdpjgejbcpgaaGreatDoor







/-
  Plain laws: small computations, and loops whose rounds are known.
-/
namespace Go.Proofs.YtcbdpjgejbcpgaaGreatDoor
set_option linter.unusedSimpArgs false
set_option linter.unusedVariables false
open Go.RowKit

/-! ### Small computations that cannot fail -/
theorem andO_some (a b : Bool) : andO a (some b) = some (a && b) := by cases a <;> rfl
theorem orO_some (a b : Bool) : orO a (some b) = some (a || b) := by cases a <;> rfl
theorem getI_nat {α : Type} (l : List α) (i : Nat) : getI l (i : Int) = l[i]? := by simp [getI]
theorem thenO_some {R : Type} {c : Option Unit} {m : Option R} (h : c = some ()) : thenO c m = m := by rw [h]; rfl
theorem lenO_ok {n : Nat} (h : n ≤ 137438953472) : lenO n = some () := by simp [lenO, h]
theorem wrapN (i : Nat) (h : i < 9223372036854775807) : IntKind.i64.wrap ((i : Int) + 1) = ((i + 1 : Nat) : Int) := by rw [wrap64 _ (by omega) (by omega)]; simp


/-! ### Loops whose rounds are known -/
theorem loop_trace {S A : Type} {f : S → Option (S ⊕ A)} {a : A} (st : Nat → S) (n : Nat) (hs : ∀ i, i < n → f (st i) = some (.inl (st (i + 1)))) (he : f (st n) = some (.inr a)) : loopC f (st 0) = some a := by
  have : ∀ k, k ≤ n → loopC f (st (n - k)) = some a := by
    intro k
    induction k with
    | zero => intro _; rw [loopC_eq, Nat.sub_zero, he]
    | succ k ih =>
      intro hk
      rw [loopC_eq, hs (n - (k + 1)) (by omega), show n - (k + 1) + 1 = n - k by omega]
      exact ih (by omega)
  have := this n (Nat.le_refl n)
  rwa [Nat.sub_self] at this
theorem bind_loop {S A R : Type} {f : S → Option (S ⊕ A)} {s0 : S} {k : A → Option R} {a : A} {r : Option R} (h : loopC f s0 = some a) (hk : k a = r) : (loopC f s0).bind k = r := by rw [h]; exact hk
/-- The first that there is. -/
def firstS {A : Type} (g : Nat → Option A) : Nat → Nat → Option A
  | _, 0 => none
  | i, n + 1 => match g i with
    | some a => some a
    | none => firstS g (i + 1) n
theorem firstS_skip {A : Type} {g : Nat → Option A} : ∀ (i n k : Nat), k ≤ n → (∀ j, i ≤ j → j < i + k → g j = none) → firstS g i n = firstS g (i + k) (n - k)
  | i, n, 0, _, _ => by simp
  | i, 0, k + 1, h, _ => by omega
  | i, n + 1, k + 1, h, hz => by
    have h1 := hz i (by omega) (by omega)
    simp only [firstS, h1]
    rw [firstS_skip (i + 1) n k (by omega) (fun j hj hj' => hz j (by omega) (by omega))]
    congr 1 <;> omega
theorem firstS_none {A : Type} {g : Nat → Option A} {n : Nat} (h : ∀ j, j < n → g j = none) : firstS g 0 n = none := by
  rw [firstS_skip 0 n n (by omega) (fun j _ hj => h j (by omega)), Nat.sub_self]; rfl
theorem firstS_some {A : Type} {g : Nat → Option A} {n k : Nat} {a : A} (hk : k < n) (hb : ∀ j, j < k → g j = none) (ha : g k = some a) : firstS g 0 n = some a := by
  rw [firstS_skip 0 n k (by omega) (fun j _ hj => hb j (by omega))]
  obtain ⟨m, hm⟩ : ∃ m, n - k = m + 1 := ⟨n - k - 1, by omega⟩
  rw [hm, Nat.zero_add]
  simp only [firstS, ha]
theorem firstS_cases {A : Type} (g : Nat → Option A) (n : Nat) : (firstS g 0 n = none ∧ ∀ j, j < n → g j = none) ∨ ∃ k a, k < n ∧ (∀ j, j < k → g j = none) ∧ g k = some a ∧ firstS g 0 n = some a := by
  by_cases h : ∃ k, k < n ∧ (g k).isSome = true
  · have : ∃ k, (k < n ∧ (g k).isSome = true) ∧ ∀ j, j < k → ¬ (j < n ∧ (g j).isSome = true) := by
      obtain ⟨k, hk⟩ := h
      induction k using Nat.strongRecOn with
      | _ k ih =>
        by_cases hj : ∃ j, j < k ∧ (j < n ∧ (g j).isSome = true)
        · obtain ⟨j, h1, h2⟩ := hj; exact ih j h1 h2
        · exact ⟨k, hk, fun j h1 h2 => hj ⟨j, h1, h2⟩⟩
    obtain ⟨k, ⟨h1, h2⟩, h3⟩ := this
    obtain ⟨a, ha⟩ := Option.isSome_iff_exists.1 h2
    have hb : ∀ j, j < k → g j = none := fun j hj => by
      have := h3 j hj
      cases hg : g j with
      | none => rfl
      | some b => exact absurd ⟨by omega, by simp [hg]⟩ this
    exact .inr ⟨k, a, h1, hb, ha, firstS_some h1 hb ha⟩
  · have hn : ∀ j, j < n → g j = none := fun j hj => by
      cases hg : g j with
      | none => rfl
      | some b => exact absurd ⟨j, hj, by simp [hg]⟩ h
    exact .inl ⟨firstS_none hn, hn⟩
theorem loop_first {S A : Type} {f : S → Option (S ⊕ A)} {z : A} (st : Nat → S) (n : Nat) (g : Nat → Option A) (hs : ∀ i, i < n → g i = none → f (st i) = some (.inl (st (i + 1)))) (hx : ∀ i a, i < n → g i = some a → f (st i) = some (.inr a)) (he : f (st n) = some (.inr z)) : loopC f (st 0) = some ((firstS g 0 n).getD z) := by
  rcases firstS_cases g n with ⟨h1, h2⟩ | ⟨k, a, h1, h2, h3, h4⟩
  · rw [h1, Option.getD_none]
    exact loop_trace st n (fun i hi => hs i hi (h2 i hi)) he
  · rw [h4, Option.getD_some]
    exact loop_trace st k (fun i hi => hs i (by omega) (h2 i hi)) (hx k a h1 h3)
theorem take_snoc {α : Type} {l : List α} {i : Nat} {e : α} (h : l[i]? = some e) : l.take (i + 1) = l.take i ++ [e] := by rw [List.take_add_one, h]; rfl
theorem foldl_snoc {α β : Type} {g : β → α → β} {b : β} {l : List α} {i : Nat} {e : α} (h : l[i]? = some e) : (l.take (i + 1)).foldl g b = g ((l.take i).foldl g b) e := by
  rw [take_snoc h, List.foldl_append]; rfl
theorem get_lt {α : Type} {l : List α} {i : Nat} (h : i < l.length) : ∃ e, l[i]? = some e := ⟨_, List.getElem?_eq_getElem h⟩
theorem lt_dec {i n : Nat} (h : i < n) : decide ((i : Int) < (n : Int)) = true := by simpa using h
theorem lt_dec_self (n : Nat) : decide ((n : Int) < (n : Int)) = false := by simp
end Go.Proofs.YtcbdpjgejbcpgaaGreatDoor

/-
  Plain laws of the wire: marks.
-/
namespace Go.Proofs.YtcbdpjgejbcpgaaGreatDoor
set_option linter.unusedSimpArgs false
set_option linter.unusedVariables false
open Go.RowKit

/-- A loop over a list that ends at the first element of which h says something. -/
theorem loop_find {α R : Type} (l : List α) (h : α → Option R) {f : Int → Option (Int ⊕ (Int ⊕ R))} (hb : ∀ (i : Nat) (e : α), l[i]? = some e → f (i : Int) = (match h e with | some a => some (.inr (.inr a)) | none => some (.inl ((i + 1 : Nat) : Int))))
    (he : f (l.length : Int) = some (.inr (.inl (l.length : Int)))) : loopC f 0 = some (match l.findSome? h with | some a => .inr a | none => .inl (l.length : Int)) := by
  have : ∀ (t : List α) (i : Nat), l.drop i = t → i ≤ l.length → loopC f (i : Int) = some (match t.findSome? h with | some a => .inr a | none => .inl (l.length : Int)) := by
    intro t
    induction t with
    | nil =>
      intro i hd hi
      have : i = l.length := by have := congrArg List.length hd; simp at this; omega
      subst this
      rw [loopC_eq, he]
      rfl
    | cons e t ih =>
      intro i hd hi
      have h1 : l[i]? = some e := by
        have := congrArg (fun q => q[0]?) hd
        simpa using this
      have h2 : i < l.length := by
        rcases Nat.lt_or_ge i l.length with h | h
        · exact h
        · rw [List.drop_eq_nil_of_le h] at hd; cases hd
      have h3 : l.drop (i + 1) = t := by
        have := congrArg List.tail hd
        simpa using this
      rw [loopC_eq, hb i e h1, List.findSome?_cons]
      cases h e with
      | some a => rfl
      | none => exact ih (i + 1) h3 h2
  exact this l 0 rfl (Nat.zero_le _)
theorem inBytes_eq (l : List UInt8) (lo hi : UInt8) (hl : l.length < 9223372036854775807) : m_kit_InBytes l lo hi = some (match l.findSome? fun x => if (decide ((x.toNat : Int) < (lo.toNat : Int)) || decide ((hi.toNat : Int) < (x.toNat : Int))) = true then some false else none with | some b => b | none => true) := by
  unfold m_kit_InBytes sims_G1_0_0; dsimp only
  refine bind_loop (loop_find l (fun x => if (decide ((x.toNat : Int) < (lo.toNat : Int)) || decide ((hi.toNat : Int) < (x.toNat : Int))) = true then some false else none) (fun i e h => ?_) ?_) ?_
  · obtain ⟨hi', -⟩ := List.getElem?_eq_some_iff.1 h
    simp only [lt_dec hi', cond_true, getI_nat, h, Option.bind_some, orO_some, wrapN i (by omega)]
    cases (decide ((e.toNat : Int) < (lo.toNat : Int)) || decide ((hi.toNat : Int) < (e.toNat : Int))) <;> rfl
  · simp only [lt_dec_self, cond_false]; rfl
  · cases l.findSome? _ <;> rfl
end Go.Proofs.YtcbdpjgejbcpgaaGreatDoor

/-
  Plain laws of the wire: a byte that may be a mark.
-/
namespace Go.Proofs.YtcbdpjgejbcpgaaGreatDoor
set_option linter.unusedSimpArgs false
set_option linter.unusedVariables false
open Go.RowKit

def tagSet : List UInt8 := [65, 66, 67, 68, 69, 70, 71, 72, 73, 74, 75, 76, 77, 78, 79, 80, 81, 82, 83, 84, 85, 86, 87, 88, 89, 90, 48, 49, 50, 51, 52, 53, 54, 55, 56, 57]
theorem isTagPart_eq (l : List UInt8) (hl : l.length ≤ 9223372036854775807) : m_kit_IsTagPart l = some (decide (Lib.trimS l tagSet = [])) := by
  unfold m_kit_IsTagPart sims_G1_0_0; dsimp only
  have : m_strings_Trim l tagSet = some (Lib.trimS l tagSet) := by unfold m_strings_Trim; rw [if_pos ⟨hl, by decide, by decide⟩]
  simp only [tagSet] at this ⊢
  rw [this]
  rfl
end Go.Proofs.YtcbdpjgejbcpgaaGreatDoor

/-
  Plain laws of the wire: texts.
-/
namespace Go.Proofs.YtcbdpjgejbcpgaaGreatDoor
set_option linter.unusedSimpArgs false
set_option linter.unusedVariables false
open Go.RowKit

def badT (x : UInt8) : Bool := decide ((x.toNat : Int) < 32) || decide (126 < (x.toNat : Int))
def textF (t : List UInt8) : Int := if 1000 < t.length then 2 else match t.findSome? (fun x => if badT x = true then some (3 : Int) else none) with | some a => a | none => 0
theorem findSome_congr2 {α A B : Type} (p : α → Bool) (a : A) (b : B) : ∀ (l : List α), (l.findSome? (fun x => if p x = true then some a else none) = none ∧ l.findSome? (fun x => if p x = true then some b else none) = none) ∨ (l.findSome? (fun x => if p x = true then some a else none) = some a ∧ l.findSome? (fun x => if p x = true then some b else none) = some b)
  | [] => .inl ⟨rfl, rfl⟩
  | x :: l => by
    rw [List.findSome?_cons, List.findSome?_cons]
    cases h : p x with
    | true => exact .inr ⟨by simp, by simp⟩
    | false => simpa using findSome_congr2 p a b l
theorem w_text (t : List UInt8) : m_wire_textFault t = some (textF t) := by
  unfold m_wire_textFault sims_G1_2_0; dsimp only
  unfold textF
  by_cases h : 1000 < t.length
  · have : decide ((1000 : Int) < (t.length : Int)) = true := by simp; omega
    simp only [this, cond_true, h, if_true]
  · have h1 : decide ((1000 : Int) < (t.length : Int)) = false := by simp; omega
    have h2 : decide ((t.length : Int) ≤ 1000) = true := by simp; omega
    have hT : m_kit_IsText t = some (match t.findSome? fun x => if badT x = true then some false else none with | some b => b | none => true) := by
      unfold m_kit_IsText sims_G1_1_0; dsimp only
      simp only [h2, inBytes_eq t _ _ (by omega), andO_some, Option.bind_some, Bool.true_and]
      rfl
    simp only [h1, cond_false, h, if_false, hT, Option.bind_some]
    rcases findSome_congr2 badT (3 : Int) false t with ⟨e1, e2⟩ | ⟨e1, e2⟩ <;> rw [e1, e2] <;> rfl
end Go.Proofs.YtcbdpjgejbcpgaaGreatDoor

/-
  Plain laws: loops over lists with a state and an early end; folds over nested lists.
-/
namespace Go.Proofs.YtcbdpjgejbcpgaaGreatDoor
set_option linter.unusedSimpArgs false
set_option linter.unusedVariables false
open Go.RowKit

theorem drop_head {α : Type} {l t : List α} {e : α} {i : Nat} (hd : l.drop i = e :: t) : l[i]? = some e ∧ i < l.length ∧ l.drop (i + 1) = t := by
  refine ⟨?_, ?_, ?_⟩
  · have := congrArg (fun q => q[0]?) hd
    simpa using this
  · rcases Nat.lt_or_ge i l.length with h | h
    · exact h
    · rw [List.drop_eq_nil_of_le h] at hd; cases hd
  · have := congrArg List.tail hd
    simpa using this
theorem drop_nil_len {α : Type} {l : List α} {i : Nat} (hd : l.drop i = []) (hi : i ≤ l.length) : i = l.length := by
  have := congrArg List.length hd; simp at this; omega
/-- A loop over a list whose state before each round is known from what is before. -/
theorem loop_pre {α T A : Type} (l : List α) (st : Nat → List α → T) {f : T → Option (T ⊕ A)} {a : A}
    (hb : ∀ (i : Nat) (e : α), l[i]? = some e → f (st i (l.take i)) = some (.inl (st (i + 1) (l.take i ++ [e]))))
    (he : f (st l.length l) = some (.inr a)) : loopC f (st 0 []) = some a := by
  have := loop_trace (f := f) (a := a) (fun i => st i (l.take i)) l.length (fun i hi => by
    obtain ⟨e, h⟩ := get_lt hi
    show f (st i (l.take i)) = some (.inl (st (i + 1) (l.take (i + 1))))
    rw [hb i e h, take_snoc h]) (by
    show f (st l.length (l.take l.length)) = _
    rw [List.take_length]; exact he)
  simpa using this
theorem get_le {α : Type} {l : List α} {i : Nat} {e : α} (h : l[i]? = some e) : i < l.length := (List.getElem?_eq_some_iff.1 h).1
theorem thenO_ok {R : Type} {n : Nat} {m : Option R} (h : n ≤ 137438953472) : thenO (lenO n) m = m := thenO_some (lenO_ok h)
end Go.Proofs.YtcbdpjgejbcpgaaGreatDoor

/-
  Plain laws of the wire: tags, elements, segments.
-/
namespace Go.Proofs.YtcbdpjgejbcpgaaGreatDoor
set_option linter.unusedSimpArgs false
set_option linter.unusedVariables false
open Go.RowKit

/-- The first fault of a list. -/
def listF {α : Type} (h : α → Int) : List α → Int
  | [] => 0
  | e :: l => if h e = 0 then listF h l else h e
theorem loop_fault {α R : Type} (l : List α) (h : α → Int) (ret : Int → R) (k : Int → Option R) {f : Int → Option (Int ⊕ (Int ⊕ R))}
    (hb : ∀ (i : Nat) (e : α), l[i]? = some e → f (i : Int) = if h e = 0 then some (.inl ((i + 1 : Nat) : Int)) else some (.inr (.inr (ret (h e)))))
    (he : f (l.length : Int) = some (.inr (.inl (l.length : Int)))) : (loopC f 0).bind (outK k) = if listF h l = 0 then k (l.length : Int) else some (ret (listF h l)) := by
  have : ∀ (t : List α) (i : Nat), l.drop i = t → i ≤ l.length → loopC f (i : Int) = if listF h t = 0 then some (.inl (l.length : Int)) else some (.inr (ret (listF h t))) := by
    intro t
    induction t with
    | nil =>
      intro i hd hi
      have := drop_nil_len hd hi
      subst this
      rw [loopC_eq, he]
      rfl
    | cons e t ih =>
      intro i hd hi
      obtain ⟨h1, h2, h3⟩ := drop_head hd
      rw [loopC_eq, hb i e h1]
      by_cases h0 : h e = 0
      · simp only [listF, h0, if_true]; exact ih (i + 1) h3 h2
      · simp only [listF, h0, if_false]
  have e0 : loopC f 0 = if listF h l = 0 then some (.inl (l.length : Int)) else some (.inr (ret (listF h l))) := this l 0 rfl (Nat.zero_le _)
  rw [e0]
  by_cases h0 : listF h l = 0
  · rw [if_pos h0, if_pos h0]; rfl
  · rw [if_neg h0, if_neg h0]; rfl
theorem listF_zero {α : Type} {h : α → Int} : ∀ {l : List α}, listF h l = 0 → ∀ e ∈ l, h e = 0
  | [], _, e, he => by cases he
  | x :: l, hl, e, he => by
    simp only [listF] at hl
    split at hl
    · rename_i h0
      rcases List.mem_cons.1 he with rfl | he
      · exact h0
      · exact listF_zero hl e he
    · rename_i h0; exact absurd hl h0

/-! ### Elements -/
def repF (l : List (List UInt8)) : Int := if l.length = 0 then 9 else if 20 < l.length then 2 else listF textF l
def elemF (e : Tapi_Element) : Int := if e.fRepeats.length = 0 then 9 else if 20 < e.fRepeats.length then 2 else listF repF e.fRepeats
theorem w_elem (e : Tapi_Element) : m_wire_elementFault e = some (elemF e) := by
  unfold m_wire_elementFault sims_G1_3_0; dsimp only
  unfold elemF
  by_cases h0 : e.fRepeats.length = 0
  · have c : decide ((e.fRepeats.length : Int) = 0) = true := decide_eq_true (by omega)
    simp only [c, cond_true, if_pos h0]
  · have d0 : decide ((e.fRepeats.length : Int) = 0) = false := decide_eq_false (by omega)
    by_cases h1 : 20 < e.fRepeats.length
    · have d1 : decide ((20 : Int) < (e.fRepeats.length : Int)) = true := decide_eq_true (by omega)
      simp only [d0, d1, cond_true, cond_false, h0, h1, if_true, if_false]
    · have d1 : decide ((20 : Int) < (e.fRepeats.length : Int)) = false := decide_eq_false (by omega)
      simp only [d0, d1, cond_false, h0, h1, if_false]
      refine (loop_fault e.fRepeats repF (fun a => a) _ (fun i l he => ?_) ?_).trans ?_
      · have hi := get_le he
        simp only [lt_dec hi, cond_true, getI_nat, he, Option.bind_some, wrapN i (by omega), repF]
        by_cases g0 : l.length = 0
        · have c0 : decide ((l.length : Int) = 0) = true := decide_eq_true (by omega)
          simp only [c0, cond_true, if_pos g0]; rfl
        · have c0 : decide ((l.length : Int) = 0) = false := decide_eq_false (by omega)
          by_cases g1 : 20 < l.length
          · have c1 : decide ((20 : Int) < (l.length : Int)) = true := decide_eq_true (by omega)
            simp only [c0, c1, cond_true, cond_false, g0, g1, if_true, if_false]; rfl
          · have c1 : decide ((20 : Int) < (l.length : Int)) = false := decide_eq_false (by omega)
            simp only [c0, c1, cond_false, g0, g1, if_false]
            refine (loop_fault l textF (fun a => .inr (.inr a)) _ (fun j t ht => ?_) ?_).trans ?_
            · have hj := get_le ht
              simp only [lt_dec hj, cond_true, getI_nat, he, ht, Option.bind_some, wrapN j (by omega), w_text]
              by_cases hz : textF t = 0 <;> simp [hz, inrO]
            · simp only [getI_nat, he, Option.bind_some, lt_dec_self, cond_false]; rfl
            · split <;> rfl
      · simp only [lt_dec_self, cond_false]; rfl
      · split <;> simp_all
/-! ### Tags -/
theorem dropWhile_nil {p : UInt8 → Bool} : ∀ {l : List UInt8}, l.dropWhile p = [] ↔ ∀ x ∈ l, p x = true
  | [] => by simp
  | a :: l => by
    rw [List.dropWhile_cons]
    by_cases h : p a = true
    · simp [h, dropWhile_nil (l := l)]
    · simp [h]
theorem dropWhile_head {p : UInt8 → Bool} {a : UInt8} {r : List UInt8} : ∀ {l : List UInt8}, l.dropWhile p = a :: r → p a = false
  | [], h => by simp at h
  | b :: l, h => by
    rw [List.dropWhile_cons] at h
    by_cases hp : p b = true
    · simp only [hp, if_true] at h; exact dropWhile_head h
    · simp only [hp] at h
      simp at h; rw [← h.1]; simpa using hp
theorem trim_nil (l cs : List UInt8) : Lib.trimS l cs = [] ↔ ∀ x ∈ l, cs.contains x = true := by
  unfold Lib.trimS Lib.trimLeftS Lib.trimRightS
  constructor
  · intro h
    have h1 : List.dropWhile (fun x => cs.contains x) l.reverse = [] := by
      cases hr : List.dropWhile (fun x => cs.contains x) l.reverse with
      | nil => rfl
      | cons a r =>
        exfalso
        have h2 := dropWhile_head hr
        rw [hr, dropWhile_nil] at h
        have h3 := h a (by simp)
        rw [h2] at h3; cases h3
    rw [dropWhile_nil] at h1
    intro x hx
    exact h1 x (by simpa using hx)
  · intro h
    have h1 : List.dropWhile (fun x => cs.contains x) l.reverse = [] := dropWhile_nil.2 fun x hx => h x (by simpa using hx)
    rw [h1]; rfl
def letB (b : UInt8) : Bool := decide (65 ≤ (b.toNat : Int)) && decide ((b.toNat : Int) ≤ 90)
def tagB (b : UInt8) : Bool := letB b || !(decide ((b.toNat : Int) < 48) || decide (57 < (b.toNat : Int)))
theorem tagB_all : (List.range 256).all (fun n => tagSet.contains (UInt8.ofNat n) == tagB (UInt8.ofNat n)) = true := by kernel_rfl
theorem tagB_eq (b : UInt8) : tagSet.contains b = tagB b := by
  have := List.all_eq_true.1 tagB_all b.toNat (List.mem_range.2 b.toNat_lt)
  have hb : UInt8.ofNat b.toNat = b := by simp
  rw [hb] at this
  simpa using this
def upper : List UInt8 := [65, 66, 67, 68, 69, 70, 71, 72, 73, 74, 75, 76, 77, 78, 79, 80, 81, 82, 83, 84, 85, 86, 87, 88, 89, 90]
theorem letB_all : (List.range 256).all (fun n => decide (0 ≤ Lib.indexByte upper (UInt8.ofNat n)) == letB (UInt8.ofNat n)) = true := by kernel_rfl
theorem letB_eq (b : UInt8) : decide (0 ≤ Lib.indexByte upper b) = letB b := by
  have := List.all_eq_true.1 letB_all b.toNat (List.mem_range.2 b.toNat_lt)
  have hb : UInt8.ofNat b.toNat = b := by simp
  rw [hb] at this
  simpa using this
theorem trim_tag (l : List UInt8) : decide (Lib.trimS l tagSet = []) = l.all tagB := by
  rw [Bool.eq_iff_iff, decide_eq_true_eq, trim_nil, List.all_eq_true]
  simp only [tagB_eq]
/-- A tag. -/
def tagF : List UInt8 → Bool
  | [] => false
  | b :: l => decide (1 ≤ l.length) && decide (l.length ≤ 5) && letB b && l.all tagB
theorem w_tag (l : List UInt8) (hl : l.length ≤ 9223372036854775807) : m_kit_IsTag l = some (tagF l) := by
  unfold m_kit_IsTag sims_G1_1_0; dsimp only
  cases l with
  | nil => rfl
  | cons b l =>
    have hg : getI (b :: l) 0 = some b := rfl
    have hi : m_strings_IndexByte upper b = some (Lib.indexByte upper b) := rfl
    have hu : ([65, 66, 67, 68, 69, 70, 71, 72, 73, 74, 75, 76, 77, 78, 79, 80, 81, 82, 83, 84, 85, 86, 87, 88, 89, 90] : List UInt8) = upper := rfl
    simp only [isTagPart_eq (b :: l) hl, trim_tag, hg, hu, hi, Option.bind_some, andO_some, letB_eq, tagF]
    have h1 : decide ((2 : Int) ≤ ((b :: l).length : Int)) = decide (1 ≤ l.length) := by simp only [List.length_cons]; congr 1; apply propext; omega
    have h2 : decide (((b :: l).length : Int) ≤ 6) = decide (l.length ≤ 5) := by simp only [List.length_cons]; congr 1; apply propext; omega
    rw [h1, h2]
    cases hb : letB b with
    | false => simp
    | true => simp [tagB, hb]
/-! ### Segments -/
def segF (s : Tapi_Segment) : Int := if tagF s.fTag = false then 5 else if 50 < s.fElements.length then 2 else listF elemF s.fElements
def segsF (l : List Tapi_Segment) : Int := if 2000 < l.length then 2 else listF segF l
/-- The strings that any machine has. -/
def TagsShort (l : List Tapi_Segment) : Prop := ∀ s ∈ l, s.fTag.length ≤ 9223372036854775807
theorem w_segs (l : List Tapi_Segment) (hs : TagsShort l) : m_wire_CheckSegments l = some (segsF l) := by
  unfold m_wire_CheckSegments sims_G1_4_0; dsimp only
  unfold segsF
  by_cases h1 : 2000 < l.length
  · have d1 : decide ((2000 : Int) < (l.length : Int)) = true := decide_eq_true (by omega)
    simp only [d1, cond_true, h1, if_true]
  · have d1 : decide ((2000 : Int) < (l.length : Int)) = false := decide_eq_false (by omega)
    simp only [d1, cond_false, h1, if_false]
    refine (loop_fault l segF (fun a => a) _ (fun i s hes => ?_) ?_).trans ?_
    · have hi := get_le hes
      have hst := hs s (List.mem_of_getElem? hes)
      simp only [lt_dec hi, cond_true, getI_nat, hes, Option.bind_some, wrapN i (by omega), w_tag s.fTag (by omega), segF]
      by_cases ht : tagF s.fTag = false
      · simp [ht, inrO]
      · replace ht : tagF s.fTag = true := by simpa using ht
        simp only [ht, Bool.not_true, cond_false, Bool.true_eq_false, if_false]
        by_cases h1 : 50 < s.fElements.length
        · have d1 : decide ((50 : Int) < (s.fElements.length : Int)) = true := decide_eq_true (by omega)
          simp only [d1, cond_true, h1, if_true]; rfl
        · have d1 : decide ((50 : Int) < (s.fElements.length : Int)) = false := decide_eq_false (by omega)
          simp only [d1, cond_false, h1, if_false]
          refine (loop_fault s.fElements elemF (fun a => .inr (.inr a)) _ (fun i e he => ?_) ?_).trans ?_
          · have hi := get_le he
            simp only [lt_dec hi, cond_true, getI_nat, he, Option.bind_some, wrapN i (by omega), w_elem]
            by_cases hz : elemF e = 0 <;> simp [hz, inrO]
          · simp only [lt_dec_self, cond_false]; rfl
          · split <;> rfl
    · simp only [lt_dec_self, cond_false]; rfl
    · split <;> simp_all
end Go.Proofs.YtcbdpjgejbcpgaaGreatDoor

/-
  Plain laws: numbers, references, and the checks of a book.
-/
namespace Go.Proofs.YtcbdpjgejbcpgaaGreatDoor
set_option linter.unusedSimpArgs false
set_option linter.unusedVariables false
open Go.RowKit

def outside (n lo hi : Int) : Bool := decide (n < lo) || decide (hi < n)
theorem outside_eq (n lo hi : Int) : m_kit_Outside n lo hi = some (outside n lo hi) := by
  unfold m_kit_Outside sims_G5_0_0; dsimp only
  simp only [orO_some, Option.bind_some, outside]
def isVerdict (n : Int) : Bool := !outside n 1 3
theorem isVerdict_eq (n : Int) : m_reply_isVerdict n = some (isVerdict n) := by
  unfold m_reply_isVerdict sims_G5_1_0; dsimp only
  simp only [outside_eq, Option.bind_some, isVerdict]
/-! ### References -/
def refSet : List UInt8 := [65, 66, 67, 68, 69, 70, 71, 72, 73, 74, 75, 76, 77, 78, 79, 80, 81, 82, 83, 84, 85, 86, 87, 88, 89, 90, 48, 49, 50, 51, 52, 53, 54, 55, 56, 57, 45]
theorem dropWhile_nilP {p : UInt8 → Bool} : ∀ {l : List UInt8}, l.dropWhile p = [] ↔ ∀ x ∈ l, p x = true
  | [] => by simp
  | a :: l => by
    rw [List.dropWhile_cons]
    by_cases h : p a = true
    · simp [h, dropWhile_nilP (l := l)]
    · simp [h]
theorem dropWhile_headP {p : UInt8 → Bool} {a : UInt8} {r : List UInt8} : ∀ {l : List UInt8}, l.dropWhile p = a :: r → p a = false
  | [], h => by simp at h
  | b :: l, h => by
    rw [List.dropWhile_cons] at h
    by_cases hp : p b = true
    · simp only [hp, if_true] at h; exact dropWhile_headP h
    · simp only [hp] at h
      simp at h; rw [← h.1]; simpa using hp
theorem trim_nilP (l cs : List UInt8) : Lib.trimS l cs = [] ↔ ∀ x ∈ l, cs.contains x = true := by
  unfold Lib.trimS Lib.trimLeftS Lib.trimRightS
  constructor
  · intro h
    have h1 : List.dropWhile (fun x => cs.contains x) l.reverse = [] := by
      cases hr : List.dropWhile (fun x => cs.contains x) l.reverse with
      | nil => rfl
      | cons a r =>
        exfalso
        have h2 := dropWhile_headP hr
        rw [hr, dropWhile_nilP] at h
        have h3 := h a (by simp)
        rw [h2] at h3; cases h3
    rw [dropWhile_nilP] at h1
    intro x hx
    exact h1 x (by simpa using hx)
  · intro h
    have h1 : List.dropWhile (fun x => cs.contains x) l.reverse = [] := dropWhile_nilP.2 fun x hx => h x (by simpa using hx)
    rw [h1]; rfl
def refByte (b : UInt8) : Bool := refSet.contains b
def isRef (s : List UInt8) : Bool := decide (1 ≤ s.length ∧ s.length ≤ 14) && s.all refByte
theorem trim_all (s : List UInt8) : decide (Lib.trimS s refSet = []) = s.all refByte := by
  rw [Bool.eq_iff_iff, decide_eq_true_eq, trim_nilP, List.all_eq_true]; rfl
theorem trim_eq (s : List UInt8) (hs : s.length ≤ 9223372036854775807) : m_strings_Trim s refSet = some (Lib.trimS s refSet) := by
  unfold m_strings_Trim
  rw [if_pos ⟨hs, by decide, by decide⟩]
theorem isRef_eq (s : List UInt8) (hs : s.length ≤ 9223372036854775807) : m_kit_IsRef s = some (isRef s) := by
  have ht := trim_eq s hs
  have ha := trim_all s
  unfold refSet at ht ha
  unfold m_kit_IsRef sims_G5_0_0; dsimp only
  simp only [ht, Option.bind_some, ha, andO_some]
  congr 1; unfold isRef
  rw [Bool.eq_iff_iff]; simp; omega
end Go.Proofs.YtcbdpjgejbcpgaaGreatDoor

/-
  Plain laws: the checks of a book.
-/
namespace Go.Proofs.YtcbdpjgejbcpgaaGreatDoor
set_option linter.unusedSimpArgs false
set_option linter.unusedVariables false
open Go.RowKit

def firstF (f : Nat → Int) : Nat → Nat → Int
  | _, 0 => 0
  | i, n + 1 => if f i ≠ 0 then f i else firstF f (i + 1) n
theorem firstF_skip {f : Nat → Int} : ∀ (i n k : Nat), k ≤ n → (∀ j, i ≤ j → j < i + k → f j = 0) → firstF f i n = firstF f (i + k) (n - k)
  | i, n, 0, _, _ => by simp
  | i, 0, k + 1, h, _ => by omega
  | i, n + 1, k + 1, h, hz => by
    have h1 := hz i (by omega) (by omega)
    simp only [firstF, h1, ne_eq, not_true_eq_false, if_false]
    rw [firstF_skip (i + 1) n k (by omega) (fun j hj hj' => hz j (by omega) (by omega))]
    congr 1 <;> omega
theorem sliceI_take {α : Type} (l : List α) (n : Nat) (h : n ≤ l.length) : sliceI l 0 (n : Int) = some (l.take n) := by
  unfold sliceI
  rw [if_pos (by omega)]; simp
end Go.Proofs.YtcbdpjgejbcpgaaGreatDoor

/-
  Plain laws: names, and loops that end at the first fault.
-/
namespace Go.Proofs.YtcbdpjgejbcpgaaGreatDoor
set_option linter.unusedSimpArgs false
set_option linter.unusedVariables false
open Go.RowKit

abbrev MX : Nat := 9223372036854775807
/-! ### Loops that end at the first fault -/
theorem loop_fS {S : Type} (st : Nat → S) {n : Nat} {g : Nat → Int} {f : S → Option (S ⊕ (S ⊕ Int))} (hf : ∀ i, i < n → f (st i) = if g i = 0 then some (.inl (st (i + 1))) else some (.inr (.inr (g i))))
    (he : f (st n) = some (.inr (.inl (st n)))) (K : S → Option Int) : (loopC f (st 0)).bind (outK K) = if firstF g 0 n = 0 then K (st n) else some (firstF g 0 n) := by
  have h := loop_first (f := f) (z := .inl (st n)) st n (fun i => if g i = 0 then none else some (.inr (g i))) (fun i hi hg => by
    rw [hf i hi]
    by_cases hz : g i = 0
    · rw [if_pos hz]
    · simp only [hz, if_false] at hg; cases hg) (fun i a hi hg => by
    rw [hf i hi]
    by_cases hz : g i = 0
    · simp only [hz, if_true] at hg; cases hg
    · simp only [hz, if_false, Option.some.injEq] at hg; rw [if_neg hz, hg]) he
  rw [h]
  rcases firstS_cases (fun i => if g i = 0 then (none : Option (S ⊕ Int)) else some (.inr (g i))) n with ⟨h1, h2⟩ | ⟨k, a, h1, h2, h3, h4⟩
  · have : firstF g 0 n = 0 := by
      rw [firstF_skip 0 n n (by omega) (fun j _ hj => by
        have := h2 j (by omega)
        by_cases hz : g j = 0
        · exact hz
        · simp only [hz, if_false] at this; cases this)]
      simp [firstF]
    rw [h1, if_pos this]; rfl
  · have hz : g k ≠ 0 := by intro hz; simp only [hz, if_true] at h3; cases h3
    have : firstF g 0 n = g k := by
      rw [firstF_skip 0 n k (by omega) (fun j _ hj => by
        have := h2 j (by omega)
        by_cases hz : g j = 0
        · exact hz
        · simp only [hz, if_false] at this; cases this)]
      obtain ⟨m, hm⟩ : ∃ m, n - k = m + 1 := ⟨n - k - 1, by omega⟩
      rw [hm, Nat.zero_add]
      simp only [firstF, hz, ne_eq, not_false_eq_true, if_true]
    rw [h4, this, if_neg hz]
    simp only [hz, if_false, Option.some.injEq] at h3
    rw [← h3]; rfl
theorem prev_eq {α : Type} (l : List α) (i : Nat) {p : α} (hp : l[i - 1]? = some p) (hl : l.length ≤ MX) (hi : i < l.length) (c : α → Option Bool) {b : Bool} (hb : c p = some b) :
    andO (decide (0 < (i : Int))) ((getI l (IntKind.i64.wrap ((i : Int) - 1))).bind c) = some (decide (0 < i) && b) := by
  unfold MX at hl
  by_cases h0 : 0 < i
  · have : IntKind.i64.wrap ((i : Int) - 1) = ((i - 1 : Nat) : Int) := by rw [wrap64 _ (by omega) (by omega)]; omega
    rw [this, getI_nat, hp, Option.bind_some, hb, andO_some]; simp
  · simp [andO, h0]

/-! ### Names -/
def lowB (b : UInt8) : Bool := decide (97 ≤ (b.toNat : Int)) && decide ((b.toNat : Int) ≤ 122)
def nameB (b : UInt8) : Bool := lowB b || (decide ((b.toNat : Int) = 45) || (decide (48 ≤ (b.toNat : Int)) && decide ((b.toNat : Int) ≤ 57)))
def nameSet : List UInt8 := [97, 98, 99, 100, 101, 102, 103, 104, 105, 106, 107, 108, 109, 110, 111, 112, 113, 114, 115, 116, 117, 118, 119, 120, 121, 122, 48, 49, 50, 51, 52, 53, 54, 55, 56, 57, 45]
theorem nameB_all : (List.range 256).all (fun n => nameSet.contains (UInt8.ofNat n) == nameB (UInt8.ofNat n)) = true := by decide +kernel
theorem nameB_eq (b : UInt8) : nameSet.contains b = nameB b := by
  have := List.all_eq_true.1 nameB_all b.toNat (List.mem_range.2 b.toNat_lt)
  have hb : UInt8.ofNat b.toNat = b := by simp
  rw [hb] at this
  simpa using this
theorem trim_name (l : List UInt8) : decide (Lib.trimS l nameSet = []) = l.all nameB := by
  rw [Bool.eq_iff_iff, decide_eq_true_eq, trim_nil, List.all_eq_true]
  simp only [nameB_eq]
/-- A name. -/
def nameF : List UInt8 → Bool
  | [] => false
  | b :: l => decide (l.length ≤ 39) && lowB b && l.all nameB
theorem w_name (l : List UInt8) (hl : l.length ≤ MX) : m_kit_IsName l = some (nameF l) := by
  have ht : m_strings_Trim l nameSet = some (Lib.trimS l nameSet) := by
    unfold m_strings_Trim
    rw [if_pos ⟨hl, by decide, by decide⟩]
  have hu : ([97, 98, 99, 100, 101, 102, 103, 104, 105, 106, 107, 108, 109, 110, 111, 112, 113, 114, 115, 116, 117, 118, 119, 120, 121, 122, 48, 49, 50, 51, 52, 53, 54, 55, 56, 57, 45] : List UInt8) = nameSet := rfl
  unfold m_kit_IsName sims_G5_0_0; dsimp only
  rw [hu]
  cases l with
  | nil => rfl
  | cons b l =>
    have hg : getI (b :: l) 0 = some b := rfl
    simp only [hg, Option.bind_some, orO_some, ht, trim_name, nameF]
    have h1 : decide (((b :: l).length : Int) < 1) = false := by simp only [List.length_cons]; apply decide_eq_false; omega
    have h2 : decide (40 < ((b :: l).length : Int)) = !decide (l.length ≤ 39) := by simp only [List.length_cons]; rw [Bool.eq_iff_iff]; simp <;> omega
    have h3 : (decide ((b.toNat : Int) < 97) || decide (122 < (b.toNat : Int))) = !lowB b := by unfold lowB; rw [Bool.eq_iff_iff]; simp
    rw [h1, h2, Bool.false_or, Bool.or_assoc, h3]
    cases hb : lowB b with
    | false => simp
    | true => cases decide (l.length ≤ 39) <;> simp [nameB, hb]
end Go.Proofs.YtcbdpjgejbcpgaaGreatDoor

/-
  Plain laws of the replies: CheckReply on both sides.
-/
namespace Go.Proofs.YtcbdpjgejbcpgaaGreatDoor
set_option linter.unusedSimpArgs false
set_option linter.unusedVariables false
open Go.RowKit

abbrev Fl := Tapi_Flaw
abbrev Mr := Tapi_MessageReply
abbrev Gr := Tapi_GroupReply
abbrev Rp := Tapi_Reply
/-! ### What any machine has -/
structure MsgOk (m : Mr) : Prop where
  ref : m.fRef.length ≤ MX
  flaws : m.fFlaws.length ≤ MX
  names : ∀ f ∈ m.fFlaws, f.fName.length ≤ MX
  fails : m.fFailing.length ≤ MX
  fail : ∀ s ∈ m.fFailing, s.length ≤ MX
structure GrpOk (g : Gr) : Prop where
  ref : g.fRef.length ≤ MX
  len : g.fMessages.length ≤ 1048576
  msg : ∀ m ∈ g.fMessages, MsgOk m
structure RepOk (r : Rp) : Prop where
  ref : r.fRef.length ≤ MX
  len : r.fGroups.length ≤ MX
  grp : ∀ g ∈ r.fGroups, GrpOk g

/-! ### Is one in a list? -/
theorem anyG_eq (l : List Gr) (hl : l.length ≤ MX) (f1 : FuncId) (c1 : List DV) (p1 : Gr → Option Bool) (h1) (q : Gr → Bool) (hq : ∀ a, p1 a = some (q a)) :
    m_slices_ContainsFunc_interchange_api_GroupReply_interchange_api_GroupReply l f1 c1 p1 h1 = some (l.any q) := by
  unfold MX at hl
  unfold m_slices_ContainsFunc_interchange_api_GroupReply_interchange_api_GroupReply sims_G5_1_0; dsimp only
  unfold m_slices_IndexFunc_interchange_api_GroupReply_interchange_api_GroupReply sims_G5_0_0; dsimp only
  generalize hf : (fun s : Int => _) = f
  have key := loop_first (f := f) (z := .inl (l.length : Int)) (fun i : Nat => (i : Int)) l.length (fun i => match l[i]? with | some o => if q o = true then some (.inr (i : Int)) else none | none => none) (fun i hi hg => by
    subst hf
    obtain ⟨e, he⟩ := get_lt hi
    simp only [he] at hg
    cases hb : q e with
    | true => simp [hb] at hg
    | false => simp only [lt_dec hi, cond_true, getI_nat, he, Option.bind_some, hq, hb, cond_false, wrapN i (by omega)]) (fun i a hi hg => by
    subst hf
    obtain ⟨e, he⟩ := get_lt hi
    simp only [he] at hg
    cases hb : q e with
    | false => simp [hb] at hg
    | true =>
      simp only [hb, if_true, Option.some.injEq] at hg
      simp only [lt_dec hi, cond_true, getI_nat, he, Option.bind_some, hq, hb, ← hg]; rfl) (by
    subst hf
    simp only [lt_dec_self, cond_false]; rfl)
  rw [show ((0 : Nat) : Int) = 0 from rfl] at key
  rw [key]
  rcases firstS_cases (fun i => match l[i]? with | some o => if q o = true then some (.inr (i : Int)) else none | none => (none : Option (Int ⊕ Int))) l.length with ⟨h1, h2⟩ | ⟨k, a, h1, h2, h3, h4⟩
  · rw [h1]
    have : l.any q = false := by
      rw [List.any_eq_false]
      intro x hx
      obtain ⟨i, hi, rfl⟩ := List.mem_iff_getElem.1 hx
      have := h2 i hi
      simp only [List.getElem?_eq_getElem hi] at this
      intro hb; simp [hb] at this
    rw [this]; rfl
  · rw [h4]
    obtain ⟨e, he⟩ := get_lt h1
    simp only [he] at h3
    cases hb : q e with
    | false => simp [hb] at h3
    | true =>
      simp only [hb, if_true, Option.some.injEq] at h3
      have : l.any q = true := List.any_eq_true.2 ⟨e, List.mem_of_getElem? he, hb⟩
      rw [this, ← h3]
      simp [outK]
theorem anyM_eq (l : List Mr) (hl : l.length ≤ MX) (f1 : FuncId) (c1 : List DV) (p1 : Mr → Option Bool) (h1) (q : Mr → Bool) (hq : ∀ a, p1 a = some (q a)) :
    m_slices_ContainsFunc_interchange_api_MessageReply_interchange_api_MessageReply l f1 c1 p1 h1 = some (l.any q) := by
  unfold MX at hl
  unfold m_slices_ContainsFunc_interchange_api_MessageReply_interchange_api_MessageReply sims_G5_1_0; dsimp only
  unfold m_slices_IndexFunc_interchange_api_MessageReply_interchange_api_MessageReply sims_G5_0_0; dsimp only
  generalize hf : (fun s : Int => _) = f
  have key := loop_first (f := f) (z := .inl (l.length : Int)) (fun i : Nat => (i : Int)) l.length (fun i => match l[i]? with | some o => if q o = true then some (.inr (i : Int)) else none | none => none) (fun i hi hg => by
    subst hf
    obtain ⟨e, he⟩ := get_lt hi
    simp only [he] at hg
    cases hb : q e with
    | true => simp [hb] at hg
    | false => simp only [lt_dec hi, cond_true, getI_nat, he, Option.bind_some, hq, hb, cond_false, wrapN i (by omega)]) (fun i a hi hg => by
    subst hf
    obtain ⟨e, he⟩ := get_lt hi
    simp only [he] at hg
    cases hb : q e with
    | false => simp [hb] at hg
    | true =>
      simp only [hb, if_true, Option.some.injEq] at hg
      simp only [lt_dec hi, cond_true, getI_nat, he, Option.bind_some, hq, hb, ← hg]; rfl) (by
    subst hf
    simp only [lt_dec_self, cond_false]; rfl)
  rw [show ((0 : Nat) : Int) = 0 from rfl] at key
  rw [key]
  rcases firstS_cases (fun i => match l[i]? with | some o => if q o = true then some (.inr (i : Int)) else none | none => (none : Option (Int ⊕ Int))) l.length with ⟨h1, h2⟩ | ⟨k, a, h1, h2, h3, h4⟩
  · rw [h1]
    have : l.any q = false := by
      rw [List.any_eq_false]
      intro x hx
      obtain ⟨i, hi, rfl⟩ := List.mem_iff_getElem.1 hx
      have := h2 i hi
      simp only [List.getElem?_eq_getElem hi] at this
      intro hb; simp [hb] at this
    rw [this]; rfl
  · rw [h4]
    obtain ⟨e, he⟩ := get_lt h1
    simp only [he] at h3
    cases hb : q e with
    | false => simp [hb] at h3
    | true =>
      simp only [hb, if_true, Option.some.injEq] at h3
      have : l.any q = true := List.any_eq_true.2 ⟨e, List.mem_of_getElem? he, hb⟩
      rw [this, ← h3]
      simp [outK]
theorem anyI_eq (l : List Int) (hl : l.length ≤ MX) (f1 : FuncId) (c1 : List DV) (p1 : Int → Option Bool) (h1) (q : Int → Bool) (hq : ∀ a, p1 a = some (q a)) :
    m_slices_ContainsFunc_int_int l f1 c1 p1 h1 = some (l.any q) := by
  unfold MX at hl
  unfold m_slices_ContainsFunc_int_int sims_G5_1_0; dsimp only
  unfold m_slices_IndexFunc_int_int sims_G5_0_0; dsimp only
  generalize hf : (fun s : Int => _) = f
  have key := loop_first (f := f) (z := .inl (l.length : Int)) (fun i : Nat => (i : Int)) l.length (fun i => match l[i]? with | some o => if q o = true then some (.inr (i : Int)) else none | none => none) (fun i hi hg => by
    subst hf
    obtain ⟨e, he⟩ := get_lt hi
    simp only [he] at hg
    cases hb : q e with
    | true => simp [hb] at hg
    | false => simp only [lt_dec hi, cond_true, getI_nat, he, Option.bind_some, hq, hb, cond_false, wrapN i (by omega)]) (fun i a hi hg => by
    subst hf
    obtain ⟨e, he⟩ := get_lt hi
    simp only [he] at hg
    cases hb : q e with
    | false => simp [hb] at hg
    | true =>
      simp only [hb, if_true, Option.some.injEq] at hg
      simp only [lt_dec hi, cond_true, getI_nat, he, Option.bind_some, hq, hb, ← hg]; rfl) (by
    subst hf
    simp only [lt_dec_self, cond_false]; rfl)
  rw [show ((0 : Nat) : Int) = 0 from rfl] at key
  rw [key]
  rcases firstS_cases (fun i => match l[i]? with | some o => if q o = true then some (.inr (i : Int)) else none | none => (none : Option (Int ⊕ Int))) l.length with ⟨h1, h2⟩ | ⟨k, a, h1, h2, h3, h4⟩
  · rw [h1]
    have : l.any q = false := by
      rw [List.any_eq_false]
      intro x hx
      obtain ⟨i, hi, rfl⟩ := List.mem_iff_getElem.1 hx
      have := h2 i hi
      simp only [List.getElem?_eq_getElem hi] at this
      intro hb; simp [hb] at this
    rw [this]; rfl
  · rw [h4]
    obtain ⟨e, he⟩ := get_lt h1
    simp only [he] at h3
    cases hb : q e with
    | false => simp [hb] at h3
    | true =>
      simp only [hb, if_true, Option.some.injEq] at h3
      have : l.any q = true := List.any_eq_true.2 ⟨e, List.mem_of_getElem? he, hb⟩
      rw [this, ← h3]
      simp [outK]
/-! ### Together -/
def togF (l : List Int) : Int := if l.any (fun x => !decide (x = 1)) = false then 1 else if l.any (fun x => !decide (x = 3)) = false then 3 else 2
theorem tog_eq (l : List Int) (hl : l.length ≤ MX) : m_reply_together l = some (togF l) := by
  unfold m_reply_together sims_G5_2_0; dsimp only
  have h1 : ∀ v, m_reply_together_1 v = some v := fun v => by unfold m_reply_together_1 sims_G5_1_0; dsimp only
  have h2 : ∀ a v, m_reply_together_1_1 a v = some (!decide (a = v)) := fun a v => by unfold m_reply_together_1_1 sims_G5_0_0; dsimp only
  simp only [h1, Option.bind_some]
  rw [anyI_eq l hl _ _ _ _ (fun x => !decide (x = 1)) (fun a => h2 a 1), anyI_eq l hl _ _ _ _ (fun x => !decide (x = 3)) (fun a => h2 a 3)]
  unfold togF
  cases l.any (fun x => !decide (x = 1)) <;> cases l.any (fun x => !decide (x = 3)) <;> rfl
def vG (g : Gr) : Int := togF (g.fMessages.map (·.fVerdict))
def vR (r : Rp) : Int := togF (r.fGroups.map (·.fVerdict))
theorem vG_eq (x : Gr) (hl : x.fMessages.length ≤ 1048576) : m_reply_verdictOfGroup x = some (vG x) := by
  unfold m_reply_verdictOfGroup sims_G5_3_0; dsimp only
  refine bind_loop (loop_trace (a := .inl (x.fMessages.map (·.fVerdict), (x.fMessages.length : Int))) (fun i : Nat => ((x.fMessages.take i).map (·.fVerdict), (i : Int))) x.fMessages.length (fun i hi => ?_) ?_) ?_
  · obtain ⟨e, he⟩ := get_lt hi
    simp only [lt_dec hi, cond_true, getI_nat, he, Option.bind_some, wrapN i (by omega), take_snoc he, List.map_append, List.map_cons, List.map_nil]
    rw [thenO_some (lenO_ok (by simp only [List.length_map, List.length_take, List.length_cons, List.length_nil]; omega))]
  · simp only [lt_dec_self, cond_false, List.take_length]; rfl
  · simp only [outK, tog_eq (x.fMessages.map (·.fVerdict)) (by rw [List.length_map]; unfold MX; omega), Option.bind_some]; rfl
theorem vR_eq (x : Rp) (hl : x.fGroups.length ≤ 1048576) : m_reply_verdictOf x = some (vR x) := by
  unfold m_reply_verdictOf sims_G5_3_0; dsimp only
  refine bind_loop (loop_trace (a := .inl (x.fGroups.map (·.fVerdict), (x.fGroups.length : Int))) (fun i : Nat => ((x.fGroups.take i).map (·.fVerdict), (i : Int))) x.fGroups.length (fun i hi => ?_) ?_) ?_
  · obtain ⟨e, he⟩ := get_lt hi
    simp only [lt_dec hi, cond_true, getI_nat, he, Option.bind_some, wrapN i (by omega), take_snoc he, List.map_append, List.map_cons, List.map_nil]
    rw [thenO_some (lenO_ok (by simp only [List.length_map, List.length_take, List.length_cons, List.length_nil]; omega))]
  · simp only [lt_dec_self, cond_false, List.take_length]; rfl
  · simp only [outK, tog_eq (x.fGroups.map (·.fVerdict)) (by rw [List.length_map]; unfold MX; omega), Option.bind_some]; rfl
end Go.Proofs.YtcbdpjgejbcpgaaGreatDoor

/-
  Plain laws of the replies: the faults.
-/
namespace Go.Proofs.YtcbdpjgejbcpgaaGreatDoor
set_option linter.unusedSimpArgs false
set_option linter.unusedVariables false
open Go.RowKit

theorem isFlaw_eq (n : Int) : m_reply_isFlaw n = some (!outside n 1 12) := by
  unfold m_reply_isFlaw sims_G5_1_0; dsimp only
  simp only [outside_eq, Option.bind_some]
/-! ### Flaws -/
def flawN (a b c d : Bool) : Int := bif a then 4 else bif b then 1 else bif c then 3 else bif d then 8 else 0
def flawAt (l : List Fl) (i : Nat) : Int := match l[i]?, l[i - 1]? with
  | some e, some p => flawN (outside e.fKind 1 12) (outside e.fSegment 0 2000 || outside e.fAt.fElement 0 51 || outside e.fAt.fRepeat 0 21 || outside e.fAt.fPart 0 21)
    (!decide (e.fName = []) && !tagF e.fName && !nameF e.fName) (decide (0 < i) && decide (e.fSegment < p.fSegment))
  | _, _ => 0
def flawsF (l : List Fl) : Int := if 500 < l.length then 2 else firstF (flawAt l) 0 l.length
theorem big_dec (n k : Nat) : decide ((k : Int) < (n : Int)) = decide (k < n) := by congr 1; apply propext; omega
theorem flaws_eq (l : List Fl) (hl : l.length ≤ MX) (hn : ∀ f ∈ l, f.fName.length ≤ MX) : m_reply_flawsFault l = some (flawsF l) := by
  have hl' := hl
  unfold MX at hl'
  unfold m_reply_flawsFault sims_G5_2_0; dsimp only
  rw [show decide ((500 : Int) < (l.length : Int)) = decide (500 < l.length) from big_dec l.length 500]
  unfold flawsF
  by_cases hb : 500 < l.length
  · simp [hb]
  · simp only [hb, decide_false, cond_false, if_false]
    refine (loop_fS (fun i : Nat => (i : Int)) (n := l.length) (g := flawAt l) (fun i hi => ?_) (by simp only [lt_dec_self, cond_false]; rfl) _).trans ?_
    · obtain ⟨e, he⟩ := get_lt hi
      obtain ⟨p, hp⟩ := get_lt (l := l) (i := i - 1) (by omega)
      have hs := hn e (List.mem_of_getElem? he)
      simp only [lt_dec hi, cond_true, getI_nat, he, Option.bind_some, isFlaw_eq, outside_eq, orO_some, andO_some, w_tag _ hs, w_name _ hs, prev_eq l i hp hl hi (fun e_1 => some (decide (e.fSegment < e_1.fSegment))) rfl, wrapN i (by omega), flawAt, hp]
      generalize outside e.fKind 1 12 = a
      generalize (outside e.fSegment 0 2000 || outside e.fAt.fElement 0 51 || outside e.fAt.fRepeat 0 21 || outside e.fAt.fPart 0 21) = b
      generalize (!decide (e.fName = []) && !tagF e.fName && !nameF e.fName) = c
      generalize (decide (0 < i) && decide (e.fSegment < p.fSegment)) = d
      cases a <;> cases b <;> cases c <;> cases d <;> rfl
    · split
      · rename_i h; rw [h]
      · rfl
/-! ### Messages -/
def failN (a b : Bool) : Int := bif a then (bif b then 8 else 0) else 5
def failAt (l : List (List UInt8)) (i : Nat) : Int := match l[i]?, l[i - 1]? with
  | some e, some p => failN (nameF e) (decide (0 < i) && (Op.bytesLess e p || decide (e = p)))
  | _, _ => 0
def someM (m : Mr) : Bool := decide (0 < m.fFlaws.length) || decide (0 < m.fFailing.length)
def msgN (a b c d : Bool) (fl : Int) (g : Bool) (fr : Int) (e : Bool) : Int :=
  bif !a then 3 else bif !b then 4 else bif c then 7 else bif d then 12 else bif !decide (fl = 0) then fl else bif g then 2 else if fr = 0 then (bif e then 12 else 0) else fr
def msgF (m : Mr) (twice : Bool) : Int :=
  msgN (isRef m.fRef) (isVerdict m.fVerdict) twice (m.fUnknown && (!decide (m.fVerdict = 3) || someM m)) (flawsF m.fFlaws) (decide (200 < m.fFailing.length)) (firstF (failAt m.fFailing) 0 m.fFailing.length) (decide (m.fVerdict = 1) && someM m)
theorem pos_dec (n : Nat) : decide (0 < (n : Int)) = decide (0 < n) := by congr 1; apply propext; omega
theorem msg_eq (m : Mr) (h : MsgOk m) (l : List Mr) (hl : l.length ≤ MX) : m_reply_messageFault m l = some (msgF m (l.any fun o => decide (o.fRef = m.fRef))) := by
  have hf := h.fails
  unfold MX at hf
  have h1 : ∀ a, m_reply_messageFault_1 a m = some (decide (a.fRef = m.fRef)) := fun a => by unfold m_reply_messageFault_1 sims_G5_0_0; dsimp only
  unfold m_reply_messageFault sims_G5_3_0; dsimp only
  simp only [orO_some, andO_some, Option.bind_some, isRef_eq _ h.ref, isVerdict_eq, anyM_eq l hl _ _ _ _ _ h1, flaws_eq _ h.flaws h.names, pos_dec]
  rw [show decide ((200 : Int) < (m.fFailing.length : Int)) = decide (200 < m.fFailing.length) from big_dec m.fFailing.length 200]
  unfold msgF
  have hsm : (decide (0 < m.fFlaws.length) || decide (0 < m.fFailing.length)) = someM m := rfl
  rw [hsm]
  unfold msgN
  cases isRef m.fRef with
  | false => rfl
  | true =>
  cases isVerdict m.fVerdict with
  | false => rfl
  | true =>
  cases (l.any fun o => decide (o.fRef = m.fRef)) with
  | true => rfl
  | false =>
  cases (m.fUnknown && (!decide (m.fVerdict = 3) || someM m)) with
  | true => rfl
  | false =>
  cases hz : decide (flawsF m.fFlaws = 0) with
  | false => rfl
  | true =>
  cases hb : decide (200 < m.fFailing.length) with
  | true => rfl
  | false =>
  simp only [Bool.not_true, cond_false]
  refine (loop_fS (fun i : Nat => (i : Int)) (n := m.fFailing.length) (g := failAt m.fFailing) (fun i hi => ?_) (by simp only [lt_dec_self, cond_false]; rfl) _).trans ?_
  · obtain ⟨e, he⟩ := get_lt hi
    obtain ⟨p, hp⟩ := get_lt (l := m.fFailing) (i := i - 1) (by omega)
    have hs := h.fail e (List.mem_of_getElem? he)
    simp only [lt_dec hi, cond_true, getI_nat, he, Option.bind_some, w_name _ hs, prev_eq m.fFailing i hp h.fails hi (fun e_1 => some (Op.bytesLess e e_1 || decide (e = e_1))) rfl, wrapN i (by omega), failAt, hp]
    generalize nameF e = a
    generalize (decide (0 < i) && (Op.bytesLess e p || decide (e = p))) = b
    cases a <;> cases b <;> rfl
  · by_cases hq : firstF (failAt m.fFailing) 0 m.fFailing.length = 0
    · rw [if_pos hq, if_pos hq]; cases decide (m.fVerdict = 1) && someM m <;> rfl
    · rw [if_neg hq, if_neg hq]
end Go.Proofs.YtcbdpjgejbcpgaaGreatDoor

/-
  Plain laws of the replies: messages of the reference, groups, CheckReply.
-/
namespace Go.Proofs.YtcbdpjgejbcpgaaGreatDoor
set_option linter.unusedSimpArgs false
set_option linter.unusedVariables false
open Go.RowKit

/-! ### Groups -/
def msgAt (l : List Mr) (i : Nat) : Int := match l[i]? with
  | some m => msgF m ((l.take i).any fun o => decide (o.fRef = m.fRef))
  | none => 0
def grpN (a b c : Bool) (fm : Int) (e : Bool) : Int := bif !a then 3 else bif !b then 4 else bif c then 7 else if fm = 0 then (bif e then 12 else 0) else fm
def grpF (g : Gr) (twice : Bool) : Int := grpN (isRef g.fRef) (isVerdict g.fVerdict) twice (firstF (msgAt g.fMessages) 0 g.fMessages.length) (!decide (vG g = g.fVerdict))
theorem grp_eq (g : Gr) (h : GrpOk g) (l : List Gr) (hl : l.length ≤ MX) : m_reply_groupFault g l = some (grpF g (l.any fun o => decide (o.fRef = g.fRef))) := by
  have hlen := h.len
  have h1 : ∀ a, m_reply_groupFault_1 a g = some (decide (a.fRef = g.fRef)) := fun a => by unfold m_reply_groupFault_1 sims_G5_0_0; dsimp only
  unfold m_reply_groupFault sims_G5_4_0; dsimp only
  simp only [Option.bind_some, isRef_eq _ h.ref, isVerdict_eq, anyG_eq l hl _ _ _ _ _ h1, vG_eq g h.len]
  unfold grpF grpN
  cases isRef g.fRef with
  | false => rfl
  | true =>
  cases isVerdict g.fVerdict with
  | false => rfl
  | true =>
  cases (l.any fun o => decide (o.fRef = g.fRef)) with
  | true => rfl
  | false =>
  simp only [Bool.not_true, cond_false]
  refine (loop_fS (fun i : Nat => (i : Int)) (n := g.fMessages.length) (g := msgAt g.fMessages) (fun i hi => ?_) (by simp only [lt_dec_self, cond_false]; rfl) _).trans ?_
  · obtain ⟨e, he⟩ := get_lt hi
    have hs := h.msg e (List.mem_of_getElem? he)
    have hsl : sliceI g.fMessages ((none : Option Int).getD 0) ((some (i : Int)).getD (g.fMessages.length : Int)) = some (g.fMessages.take i) := sliceI_take g.fMessages i (by omega)
    simp only [lt_dec hi, cond_true, getI_nat, he, Option.bind_some, hsl, msg_eq e hs _ (show (g.fMessages.take i).length ≤ MX by rw [List.length_take]; unfold MX; omega), wrapN i (by omega), msgAt]
    generalize msgF e _ = a
    by_cases ha : a = 0 <;> simp [ha, inrO]
  · by_cases hq : firstF (msgAt g.fMessages) 0 g.fMessages.length = 0
    · rw [if_pos hq, if_pos hq]; cases decide (vG g = g.fVerdict) <;> rfl
    · rw [if_neg hq, if_neg hq]
/-! ### Replies -/
def grpAt (l : List Gr) (i : Nat) : Int := match l[i]? with
  | some g => grpF g ((l.take i).any fun o => decide (o.fRef = g.fRef))
  | none => 0
def manyF (l : List Gr) : Int := l.foldl (fun n g => IntKind.i64.wrap (n + (g.fMessages.length : Int))) 0
def rpN (a b c : Bool) (fg : Int) (d e : Bool) : Int := bif !a then 3 else bif !b then 4 else bif c then 2 else if fg = 0 then (bif d then 2 else bif e then 12 else 0) else fg
def rpF (r : Rp) : Int := rpN (isRef r.fRef) (isVerdict r.fVerdict) (decide (50 < r.fGroups.length)) (firstF (grpAt r.fGroups) 0 r.fGroups.length) (decide (200 < manyF r.fGroups)) (!decide (vR r = r.fVerdict))
theorem rep_eq (r : Rp) (h : RepOk r) : m_reply_CheckReply r = some (rpF r) := by
  have hlen := h.len
  unfold MX at hlen
  unfold m_reply_CheckReply sims_G5_5_0; dsimp only
  rw [show decide ((50 : Int) < (r.fGroups.length : Int)) = decide (50 < r.fGroups.length) from big_dec r.fGroups.length 50]
  simp only [Option.bind_some, isRef_eq _ h.ref, isVerdict_eq]
  unfold rpF rpN
  cases isRef r.fRef with
  | false => rfl
  | true =>
  cases isVerdict r.fVerdict with
  | false => rfl
  | true =>
  by_cases hb : 50 < r.fGroups.length
  · simp [hb]
  simp only [hb, decide_false, Bool.not_true, cond_false, vR_eq r (by omega), Option.bind_some]
  refine (loop_fS (fun i : Nat => (manyF (r.fGroups.take i), (i : Int))) (n := r.fGroups.length) (g := grpAt r.fGroups) (fun i hi => ?_) (by simp only [lt_dec_self, cond_false]; rfl) _).trans ?_
  · obtain ⟨e, he⟩ := get_lt hi
    have hs := h.grp e (List.mem_of_getElem? he)
    have hsl : sliceI r.fGroups ((none : Option Int).getD 0) ((some (i : Int)).getD (r.fGroups.length : Int)) = some (r.fGroups.take i) := sliceI_take r.fGroups i (by omega)
    have hm : manyF (r.fGroups.take (i + 1)) = IntKind.i64.wrap (manyF (r.fGroups.take i) + (e.fMessages.length : Int)) := foldl_snoc he
    simp only [lt_dec hi, cond_true, getI_nat, he, Option.bind_some, hsl, grp_eq e hs _ (show (r.fGroups.take i).length ≤ MX by rw [List.length_take]; unfold MX; omega), wrapN i (by omega), grpAt, hm]
    generalize grpF e _ = a
    by_cases ha : a = 0 <;> simp [ha, inrO]
  · by_cases hq : firstF (grpAt r.fGroups) 0 r.fGroups.length = 0
    · rw [if_pos hq, if_pos hq]
      simp only [List.take_length]
      cases decide (200 < manyF r.fGroups) <;> cases decide (vR r = r.fVerdict) <;> rfl
    · rw [if_neg hq, if_neg hq]
end Go.Proofs.YtcbdpjgejbcpgaaGreatDoor

/-
  Segments: when they are right; sameness.
-/
namespace Go.Proofs.YtcbdpjgejbcpgaaGreatDoor
set_option linter.unusedSimpArgs false
set_option linter.unusedVariables false
open Go.RowKit

theorem listF_all {α : Type} {h : α → Int} : ∀ {l : List α}, (∀ e ∈ l, h e = 0) → listF h l = 0
  | [], _ => rfl
  | e :: l, hl => by
    unfold listF
    rw [if_pos (hl e (by simp))]
    exact listF_all fun e he => hl e (by simp [he])
theorem repF_iff {l : List (List UInt8)} : repF l = 0 ↔ (1 ≤ l.length ∧ l.length ≤ 20 ∧ ∀ t ∈ l, textF t = 0) := by
  unfold repF
  by_cases h1 : l.length = 0
  · simp [h1]
  · by_cases h2 : 20 < l.length
    · simp [h1, h2]; omega
    · rw [if_neg h1, if_neg h2]
      exact ⟨fun h => ⟨by omega, by omega, listF_zero h⟩, fun h => listF_all h.2.2⟩
theorem elemF_iff {e : Tapi_Element} : elemF e = 0 ↔ (1 ≤ e.fRepeats.length ∧ e.fRepeats.length ≤ 20 ∧ ∀ t ∈ e.fRepeats, repF t = 0) := by
  unfold elemF
  by_cases h1 : e.fRepeats.length = 0
  · simp [h1]
  · by_cases h2 : 20 < e.fRepeats.length
    · simp [h1, h2]; omega
    · rw [if_neg h1, if_neg h2]
      exact ⟨fun h => ⟨by omega, by omega, listF_zero h⟩, fun h => listF_all h.2.2⟩
theorem segF_iff {s : Tapi_Segment} : segF s = 0 ↔ (tagF s.fTag = true ∧ s.fElements.length ≤ 50 ∧ ∀ e ∈ s.fElements, elemF e = 0) := by
  unfold segF
  by_cases h1 : tagF s.fTag = false
  · simp [h1]
  · by_cases h2 : 50 < s.fElements.length
    · simp [h1, h2]; intro h; omega
    · rw [if_neg h1, if_neg h2]
      exact ⟨fun h => ⟨by simpa using h1, by omega, listF_zero h⟩, fun h => listF_all h.2.2⟩
theorem seg_ok {s : Tapi_Segment} (h : segF s = 0) : cloneOk s := by
  obtain ⟨_, h2, h3⟩ := segF_iff.1 h
  refine ⟨by omega, fun e he => ?_⟩
  obtain ⟨_, h5, h6⟩ := elemF_iff.1 (h3 e he)
  refine ⟨by omega, fun p hp => ?_⟩
  obtain ⟨_, h8, _⟩ := repF_iff.1 (h6 p hp)
  omega
theorem sameTexts_refl (l : List (List UInt8)) (hl : l.length ≤ 137438953472) : m_interchangeref2_SameTexts l l = some true := by
  unfold m_interchangeref2_SameTexts sims_G5_0_1; dsimp only
  simp only [decide_true, Bool.not_true, cond_false]
  refine bind_loop (a := .inl (l.length : Int)) (loop_trace (fun i => (i : Int)) l.length (fun i hi => ?_) ?_) rfl
  · obtain ⟨e, he⟩ := get_lt hi
    simp only [lt_dec hi, cond_true, getI_nat, he, Option.bind_some, decide_true, Bool.not_true, cond_false, wrapN i (by omega)]
  · simp only [lt_dec_self, cond_false]; rfl
theorem sameSeg_refl (x : Tapi_Segment) (hx : cloneOk x) : m_interchangeref2_SameSegment x x = some true := by
  obtain ⟨h1, h2⟩ := hx
  unfold m_interchangeref2_SameSegment sims_G5_1_0; dsimp only
  simp only [decide_true, Bool.not_true, orO_some, Bool.or_self, Option.bind_some, cond_false]
  refine bind_loop (a := .inl (x.fElements.length : Int)) (loop_trace (fun i => (i : Int)) x.fElements.length (fun i hi => ?_) ?_) rfl
  · obtain ⟨e, he⟩ := get_lt hi
    obtain ⟨h3, h4⟩ := h2 e (List.mem_of_getElem? he)
    simp only [lt_dec hi, cond_true, getI_nat, he, Option.bind_some, decide_true, Bool.not_true, cond_false, wrapN i (by omega)]
    refine bind_loop (a := .inl (e.fRepeats.length : Int)) (loop_trace (fun i => (i : Int)) e.fRepeats.length (fun k hk => ?_) ?_) rfl
    · obtain ⟨p, hp⟩ := get_lt hk
      simp only [lt_dec hk, cond_true, getI_nat, hp, Option.bind_some, sameTexts_refl p (h4 p (List.mem_of_getElem? hp)), Bool.not_true, cond_false, wrapN k (by omega)]
    · simp only [lt_dec_self, cond_false]; rfl
  · simp only [lt_dec_self, cond_false]; rfl
theorem sameSegs_refl (l : List Tapi_Segment) (hl : l.length ≤ 137438953472) (hx : ∀ x ∈ l, cloneOk x) : m_interchangeref2_SameSegments l l = some true := by
  unfold m_interchangeref2_SameSegments sims_G5_2_0; dsimp only
  simp only [decide_true, Bool.not_true, cond_false]
  refine bind_loop (a := .inl (l.length : Int)) (loop_trace (fun i => (i : Int)) l.length (fun i hi => ?_) ?_) rfl
  · obtain ⟨e, he⟩ := get_lt hi
    simp only [lt_dec hi, cond_true, getI_nat, he, Option.bind_some, sameSeg_refl e (hx e (List.mem_of_getElem? he)), Bool.not_true, cond_false, wrapN i (by omega)]
  · simp only [lt_dec_self, cond_false]; rfl

theorem segs_in {l : List Tapi_Segment} (h : segsF l = 0) : l.length ≤ 2000 ∧ ∀ x ∈ l, segF x = 0 := by
  unfold segsF at h
  by_cases h1 : 2000 < l.length
  · simp [h1] at h
  · rw [if_neg h1] at h; exact ⟨by omega, listF_zero h⟩
end Go.Proofs.YtcbdpjgejbcpgaaGreatDoor

/-
  The simple thing that the package does (awake), reckoned.
-/
namespace Go.Proofs.YtcbdpjgejbcpgaaGreatDoor
set_option linter.unusedSimpArgs false
set_option linter.unusedVariables false
open Go.RowKit

def aE : Tapi_BookEvent := ⟨1, 0, 0, [65], 0⟩
theorem aw_cb : m_reply_CheckBook [aE] = some 0 := by
  unfold m_reply_CheckBook sims_GA_2_0; dsimp only
  exact bind_loop (a := .inl 1) (loopC_some.2 ⟨3, by kernel_rfl⟩) (by kernel_rfl)
theorem aw_bk : m_reply_book [aE] = some ([⟨[65], 0, 0, -1, 0⟩], []) := by
  unfold m_reply_book sims_GA_0_1; dsimp only
  exact bind_loop (a := .inl ([⟨[65], 0, 0, -1, 0⟩], [], [([65], [0])], 1)) (loopC_some.2 ⟨3, by kernel_rfl⟩) (by kernel_rfl)
theorem aw_at : m_reply_at [aE] 0 = some [⟨[65], 0, 0, -1, 0⟩] := by
  unfold m_reply_at sims_GA_1_0; dsimp only
  refine bind_loop (a := .inl 1) (loopC_some.2 ⟨3, by kernel_rfl⟩) ?_
  have h : sliceI [aE] ((none : Option Int).getD 0) ((some (1 : Int)).getD ([aE].length : Int)) = some [aE] := by kernel_rfl
  simp only [outK]
  refine (congrArg (fun q => Option.bind q _) h).trans ?_
  simp only [Option.bind_some, aw_bk]
theorem aw_st : m_reply_StandingAt [aE] 0 = some (⟨1, 0, 0, 0, 0, 0⟩, 0) := by
  unfold m_reply_StandingAt sims_GA_3_0; dsimp only
  have hm : m_kit_IsMoment 0 = some true := by kernel_rfl
  simp only [aw_cb, aw_at, hm, Option.bind_some, decide_true, Bool.not_true, cond_false]
  exact bind_loop (a := .inl (⟨1, 0, 0, 0, 0, 0⟩, 1)) (loopC_some.2 ⟨3, by kernel_rfl⟩) (by kernel_rfl)
theorem awake_eq : m_interchangelaw7_awake = some true := by
  unfold m_interchangelaw7_awake sims_GA_4_0; dsimp only
  have h := aw_st
  unfold aE at h
  rw [h]
  rfl
end Go.Proofs.YtcbdpjgejbcpgaaGreatDoor




/-
  Plain laws: loops that put something behind; segments of texts; numbers as texts.
-/
namespace Go.Proofs.YtcbdpjgejbcpgaaGreatDoor
set_option linter.unusedSimpArgs false
set_option linter.unusedVariables false
open Go.RowKit

/-! ### Loops that put something behind for each element -/
theorem app_loop {α β R : Type} (l : List α) (base : List β) (f : α → List β) (B : Nat) (hB : (base ++ l.flatMap f).length ≤ B) {F : List β × Int → Option ((List β × Int) ⊕ ((List β × Int) ⊕ R))} (K : List β × Int → Option R)
    (hb : ∀ (i : Nat) e (out : List β), l[i]? = some e → out.length + (f e).length ≤ B → F (out, (i : Int)) = some (.inl (out ++ f e, ((i + 1 : Nat) : Int)))) (he : ∀ out, F (out, (l.length : Int)) = some (.inr (.inl (out, (l.length : Int))))) :
    (loopC F (base, 0)).bind (outK K) = K (base ++ l.flatMap f, (l.length : Int)) := by
  refine bind_loop (a := .inl (base ++ l.flatMap f, (l.length : Int))) ?_ rfl
  have h := loop_pre (f := F) (a := .inl (base ++ l.flatMap f, (l.length : Int))) l (fun i q => (base ++ q.flatMap f, (i : Int))) (fun i e h => ?_) (he _)
  · simpa using h
  · have hlen : (base ++ (l.take i).flatMap f).length + (f e).length ≤ B := by
      have h1 : l.flatMap f = (l.take i).flatMap f ++ (f e ++ (l.drop (i + 1)).flatMap f) := by
        conv => lhs; rw [← List.take_append_drop i l]
        rw [List.flatMap_append, List.drop_eq_getElem_cons (get_le h)]
        rw [List.flatMap_cons]
        have : l[i]'(get_le h) = e := by
          have := List.getElem?_eq_getElem (get_le h)
          rw [h] at this; exact (Option.some.inj this).symm
        rw [this]
      rw [h1] at hB
      simp only [List.length_append] at hB ⊢
      omega
    rw [hb i e _ h hlen]
    simp [List.append_assoc]
theorem flat_len {α β : Type} {row : α → List DV} {f : α → List β} : ∀ {l : List α}, (∀ a ∈ l, (f a).length ≤ dvBL (row a)) → (l.flatMap f).length ≤ dvBR (l.map row)
  | [], _ => by simp
  | a :: l, h => by
    have h1 := h a (by simp)
    have h2 := flat_len (l := l) fun b hb => h b (by simp [hb])
    simp only [List.flatMap_cons, List.length_append, List.map_cons, dvBR]
    omega

/-! ### Segments of texts -/
def el1 (t : List UInt8) : Tapi_Element := ⟨[[t]]⟩
def elP (p : List (List UInt8)) : Tapi_Element := ⟨[p]⟩
theorem made_eq (tag : List UInt8) (ts : List (List UInt8)) (h : ts.length ≤ 1000) : m_wire_Made tag ts = some ⟨tag, ts.map el1⟩ := by
  unfold m_wire_Made sims_G6_0_1; dsimp only
  refine bind_loop (a := .inl (tag, ts.map el1, (ts.length : Int))) (loop_pre ts (fun i q => (tag, q.map el1, (i : Int))) (fun i e he => ?_) ?_) rfl
  · have hi := get_le he
    simp only [lt_dec hi, cond_true, getI_nat, he, Option.bind_some, wrapN i (by omega)]
    rw [thenO_ok (by simp; omega), List.map_append]
    rfl
  · simp only [lt_dec_self, cond_false]; rfl
abbrev i64 (n : Int) : Prop := -9223372036854775808 ≤ n ∧ n ≤ 9223372036854775807
theorem itoa_eq {n : Int} (h : i64 n) : m_strconv_Itoa n = some (Lib.itoa n) := by unfold m_strconv_Itoa; rw [if_pos h]
theorem map_flat {α β : Type} (f : α → β) : ∀ l : List α, l.flatMap (fun a => [f a]) = l.map f
  | [] => rfl
  | a :: l => by simp [map_flat f l]
end Go.Proofs.YtcbdpjgejbcpgaaGreatDoor

/-
  Plain laws: the segments of a reply on both sides; ReplyChecksMatchSpec.
-/
namespace Go.Proofs.YtcbdpjgejbcpgaaGreatDoor
set_option linter.unusedSimpArgs false
set_option linter.unusedVariables false
open Go.RowKit

structure FlawI (f : Tapi_Flaw) : Prop where
  k : i64 f.fKind
  s : i64 f.fSegment
  e : i64 f.fAt.fElement
  r : i64 f.fAt.fRepeat
  p : i64 f.fAt.fPart
def flawS (f : Tapi_Flaw) : Tapi_Segment :=
  ⟨[65, 75, 70], [el1 (Lib.itoa f.fKind), el1 (Lib.itoa f.fSegment)] ++
    (bif !(decide (f.fAt.fElement = 0) && (decide (f.fAt.fRepeat = 0) && decide (f.fAt.fPart = 0))) then [elP [Lib.itoa f.fAt.fElement, Lib.itoa f.fAt.fRepeat, Lib.itoa f.fAt.fPart]]
      else bif !decide (f.fName = []) then [el1 []] else []) ++ (bif !decide (f.fName = []) then [el1 f.fName] else [])⟩
theorem flaw_eq (f : Tapi_Flaw) (h : FlawI f) : m_reply_flawSegment f = some (flawS f) := by
  have he : ∀ p, m_reply_element p = some (elP p) := fun p => by unfold m_reply_element sims_G6_0_0; dsimp only; rfl
  unfold m_reply_flawSegment sims_G7_0_0; dsimp only
  simp only [itoa_eq h.k, itoa_eq h.s, itoa_eq h.e, itoa_eq h.r, itoa_eq h.p, Option.bind_some, made_eq [65, 75, 70] [Lib.itoa f.fKind, Lib.itoa f.fSegment] (by simp), he, List.map_cons, List.map_nil, List.length_cons, List.length_nil, List.length_append]
  unfold flawS
  cases (decide (f.fAt.fElement = 0) && (decide (f.fAt.fRepeat = 0) && decide (f.fAt.fPart = 0))) <;> cases decide (f.fName = []) <;> rfl
def failS (s : List UInt8) : Tapi_Segment := ⟨[65, 75, 82], [el1 s]⟩
def msgS (m : Tapi_MessageReply) : List Tapi_Segment :=
  ⟨[65, 75, 77], [el1 m.fRef, el1 (Lib.itoa m.fVerdict)] ++ (bif m.fUnknown then [el1 [49]] else [])⟩ :: (m.fFlaws.map flawS ++ m.fFailing.map failS)
def grpS (g : Tapi_GroupReply) : List Tapi_Segment := ⟨[65, 75, 71], [el1 g.fRef, el1 (Lib.itoa g.fVerdict)]⟩ :: g.fMessages.flatMap msgS
def repS_ (r : Tapi_Reply) : List Tapi_Segment := ⟨[65, 75, 73], [el1 r.fRef, el1 (Lib.itoa r.fVerdict)]⟩ :: r.fGroups.flatMap grpS
structure RepI (r : Tapi_Reply) : Prop where
  v : i64 r.fVerdict
  g : ∀ g ∈ r.fGroups, i64 g.fVerdict ∧ ∀ m ∈ g.fMessages, i64 m.fVerdict ∧ ∀ f ∈ m.fFlaws, FlawI f
theorem msgS_len (m : Tapi_MessageReply) : (msgS m).length ≤ dvBL (rTapi_MessageReply m) := by
  have h1 : m.fFlaws.length ≤ dvBR (m.fFlaws.map rTapi_Flaw) := by
    have := flat_len (l := m.fFlaws) (row := rTapi_Flaw) (f := fun a => [a]) (fun a _ => by simp [rTapi_Flaw, rTapi_Spot, dvBL, dvB])
    simpa using this
  have h2 : m.fFailing.length ≤ dvBR (m.fFailing.map rowS) := by
    have := flat_len (l := m.fFailing) (row := rowS) (f := fun a => [a]) (fun a _ => by simp [rowS, dvBL, dvB])
    simpa using this
  unfold msgS
  simp only [rTapi_MessageReply, dvBL, dvB, List.length_cons, List.length_append, List.length_map]
  omega
theorem grpS_len (g : Tapi_GroupReply) : (grpS g).length ≤ dvBL (rTapi_GroupReply g) := by
  have h1 := flat_len (l := g.fMessages) (row := rTapi_MessageReply) (f := msgS) (fun a _ => msgS_len a)
  unfold grpS
  simp only [rTapi_GroupReply, dvBL, dvB, List.length_cons]
  omega
theorem repS_len (r : Tapi_Reply) : (repS_ r).length ≤ dvBL (rTapi_Reply r) := by
  have h1 := flat_len (l := r.fGroups) (row := rTapi_GroupReply) (f := grpS) (fun a _ => grpS_len a)
  unfold repS_
  simp only [rTapi_Reply, dvBL, dvB, List.length_cons]
  omega
/-- The loops over the flaws and the failing rules of a message. -/
theorem msg_loops {R : Type} (m : Tapi_MessageReply) (out : List Tapi_Segment) (hd : Tapi_Segment) (hB : out.length + (1 + m.fFlaws.length + m.fFailing.length) ≤ 1048576)
    {F G : List Tapi_Segment × Int → Option ((List Tapi_Segment × Int) ⊕ ((List Tapi_Segment × Int) ⊕ R))} (K : List Tapi_Segment × Int → Option R)
    (hF : ∀ (i : Nat) e (o : List Tapi_Segment), m.fFlaws[i]? = some e → o.length + 1 ≤ 1048576 → F (o, (i : Int)) = some (.inl (o ++ [flawS e], ((i + 1 : Nat) : Int)))) (heF : ∀ o, F (o, (m.fFlaws.length : Int)) = some (.inr (.inl (o, (m.fFlaws.length : Int)))))
    (hG : ∀ (i : Nat) e (o : List Tapi_Segment), m.fFailing[i]? = some e → o.length + 1 ≤ 1048576 → G (o, (i : Int)) = some (.inl (o ++ [failS e], ((i + 1 : Nat) : Int)))) (heG : ∀ o, G (o, (m.fFailing.length : Int)) = some (.inr (.inl (o, (m.fFailing.length : Int))))) :
    (loopC F (out ++ [hd], 0)).bind (outK fun s => (loopC G (s.1, 0)).bind (outK K)) = K (out ++ hd :: (m.fFlaws.map flawS ++ m.fFailing.map failS), (m.fFailing.length : Int)) := by
  have h1 := app_loop m.fFlaws (out ++ [hd]) (fun e => [flawS e]) 1048576 (by rw [map_flat]; simp; omega) (F := F) (fun s => (loopC G (s.1, 0)).bind (outK K)) (fun i e o h hl => hF i e o h (by simpa using hl)) heF
  rw [h1, map_flat]
  have h2 := app_loop m.fFailing (out ++ [hd] ++ m.fFlaws.map flawS) (fun e => [failS e]) 1048576 (by rw [map_flat]; simp; omega) (F := G) K (fun i e o h hl => hG i e o h (by simpa using hl)) heG
  rw [h2, map_flat]
  simp [List.append_assoc]
theorem msgS_eq (m : Tapi_MessageReply) : (msgS m).length = 1 + m.fFlaws.length + m.fFailing.length := by unfold msgS; simp; omega
theorem repS_many (r : Tapi_Reply) : r.fGroups.length ≤ (repS_ r).length := by
  have : ∀ l : List Tapi_GroupReply, l.length ≤ (l.flatMap grpS).length := fun l => by
    induction l with
    | nil => simp
    | cons g l ih => simp only [List.flatMap_cons, List.length_append, List.length_cons, grpS]; omega
  have h := this r.fGroups
  unfold repS_
  simp only [List.length_cons]; omega
set_option maxHeartbeats 1000000 in
theorem segs_eqL (r : Tapi_Reply) (h : RepI r) (hlen : (repS_ r).length ≤ 1048576) : m_reply_segments r = some (repS_ r) := by
  have hg : r.fGroups.length ≤ 1048576 := by have := repS_many r; omega
  unfold m_reply_segments sims_G8_0_0; dsimp only
  simp only [itoa_eq h.v, Option.bind_some, made_eq [65, 75, 73] [r.fRef, Lib.itoa r.fVerdict] (by simp), List.map_cons, List.map_nil]
  refine (app_loop r.fGroups [⟨[65, 75, 73], [el1 r.fRef, el1 (Lib.itoa r.fVerdict)]⟩] grpS 1048576 (by unfold repS_ at hlen; simp only [List.cons_append, List.nil_append]; omega) _ ?_ ?_).trans rfl
  rotate_left
  · intro out; simp only [lt_dec_self, cond_false]; rfl
  intro i g out hi ho
  obtain ⟨hv, hm⟩ := h.g g (List.mem_of_getElem? hi)
  have hil := get_le hi
  have hgl : (grpS g).length = 1 + (g.fMessages.flatMap msgS).length := by unfold grpS; simp; omega
  have hml : g.fMessages.length ≤ (g.fMessages.flatMap msgS).length := by
    clear hm hgl hi ho
    induction g.fMessages with
    | nil => simp
    | cons m l ih => simp only [List.flatMap_cons, List.length_append, List.length_cons, msgS_eq]; omega
  simp only [lt_dec hil, cond_true, getI_nat, hi, Option.bind_some, itoa_eq hv, made_eq [65, 75, 71] [g.fRef, Lib.itoa g.fVerdict] (by simp), List.map_cons, List.map_nil, wrapN i (by omega)]
  rw [thenO_ok (by simp only [List.length_cons, List.length_nil]; omega)]
  refine (app_loop g.fMessages (out ++ [⟨[65, 75, 71], [el1 g.fRef, el1 (Lib.itoa g.fVerdict)]⟩]) msgS 1048576 (by simp only [List.length_append, List.length_singleton]; omega) _ ?_ ?_).trans ?_
  rotate_left
  · intro out; simp only [lt_dec_self, cond_false]; rfl
  · simp [grpS, List.append_assoc, outK]
  intro k m o hk hol
  obtain ⟨hmv, hf⟩ := hm m (List.mem_of_getElem? hk)
  have hkl := get_le hk
  rw [msgS_eq] at hol
  simp only [lt_dec hkl, cond_true, getI_nat, hk, Option.bind_some, itoa_eq hmv, wrapN k (by omega)]
  have F1 : ∀ (i : Nat) e, m.fFlaws[i]? = some e → i < m.fFlaws.length ∧ m_reply_flawSegment e = some (flawS e) := fun i e he => ⟨get_le he, flaw_eq e (hf e (List.mem_of_getElem? he))⟩
  have hS : ∀ (i : Nat) (o : List Tapi_Segment) x, o.length + 1 ≤ 1048576 → thenO (R := x) (lenO (o.length + 1)) = fun k => k := fun i o x h => by funext k; exact thenO_ok (by omega)
  cases hu : m.fUnknown with
  | true =>
    simp only [cond_true]
    rw [thenO_ok (by simp), made_eq [65, 75, 77] [m.fRef, Lib.itoa m.fVerdict, [49]] (by simp)]
    simp only [Option.bind_some]
    rw [thenO_ok (by simp only [List.length_cons, List.length_nil]; omega)]
    refine (msg_loops m o _ (by omega) _ (fun j e o' hj ho' => ?_) (fun o => by simp only [lt_dec_self, cond_false]; rfl) (fun j e o' hj ho' => ?_) (fun o => by simp only [lt_dec_self, cond_false]; rfl)).trans ?_
    · obtain ⟨hjl, hfe⟩ := F1 j e hj
      simp only [lt_dec hjl, cond_true, getI_nat, hj, Option.bind_some, hfe, wrapN j (by omega)]
      rw [thenO_ok (by simp only [List.length_cons, List.length_nil]; omega)]
    · have hjl := get_le hj
      simp only [lt_dec hjl, cond_true, getI_nat, hj, Option.bind_some, made_eq [65, 75, 82] [e] (by simp), wrapN j (by omega)]
      rw [thenO_ok (by simp only [List.length_cons, List.length_nil]; omega)]
      rfl
    · unfold msgS; rw [hu]; rfl
  | false =>
    simp only [cond_false]
    rw [made_eq [65, 75, 77] [m.fRef, Lib.itoa m.fVerdict] (by simp)]
    simp only [Option.bind_some]
    rw [thenO_ok (by simp only [List.length_cons, List.length_nil]; omega)]
    refine (msg_loops m o _ (by omega) _ (fun j e o' hj ho' => ?_) (fun o => by simp only [lt_dec_self, cond_false]; rfl) (fun j e o' hj ho' => ?_) (fun o => by simp only [lt_dec_self, cond_false]; rfl)).trans ?_
    · obtain ⟨hjl, hfe⟩ := F1 j e hj
      simp only [lt_dec hjl, cond_true, getI_nat, hj, Option.bind_some, hfe, wrapN j (by omega)]
      rw [thenO_ok (by simp only [List.length_cons, List.length_nil]; omega)]
    · have hjl := get_le hj
      simp only [lt_dec hjl, cond_true, getI_nat, hj, Option.bind_some, made_eq [65, 75, 82] [e] (by simp), wrapN j (by omega)]
      rw [thenO_ok (by simp only [List.length_cons, List.length_nil]; omega)]
      rfl
    · unfold msgS; rw [hu]; rfl
def repSegs (r : Tapi_Reply) : List Tapi_Segment × Int := bif !decide (rpF r = 0) then ([], rpF r) else bif decide (2000 < (repS_ r).length) then ([], 2) else (repS_ r, 0)
theorem psegs_eqL (r : Tapi_Reply) (h : RepI r) (hr : RepOk r) (hb : (repS_ r).length ≤ 1048576) : m_reply_Segments r = some (repSegs r) := by
  unfold m_reply_Segments sims_G8_1_0; dsimp only
  simp only [rep_eq r hr, segs_eqL r h hb, Option.bind_some]
  rw [show decide ((2000 : Int) < ((repS_ r).length : Int)) = decide (2000 < (repS_ r).length) from big_dec (repS_ r).length 2000]
  unfold repSegs
  cases decide (rpF r = 0) <;> cases decide (2000 < (repS_ r).length) <;> rfl
theorem psegs_eq (r : Tapi_Reply) (h : RepI r) (hr : RepOk r) (hb : dvBL (rTapi_Reply r) ≤ 1048576) : m_reply_Segments r = some (repSegs r) := psegs_eqL r h hr (Nat.le_trans (repS_len r) hb)
end Go.Proofs.YtcbdpjgejbcpgaaGreatDoor

/-
  Bulk bounds the messages of a reply; its numbers.
-/
namespace Go.Proofs.YtcbdpjgejbcpgaaGreatDoor
set_option linter.unusedSimpArgs false
set_option linter.unusedVariables false
open Go.RowKit

theorem dvBR_len {α : Type} {row : α → List DV} (h : ∀ a, 1 ≤ dvBL (row a)) : ∀ (l : List α), l.length ≤ dvBR (l.map row)
  | [] => by simp
  | x :: l => by
    have h1 := h x
    have h2 := dvBR_len h l
    simp only [List.map_cons, dvBR, List.length_cons]
    omega
theorem dvBR_mem {r : List DV} : ∀ {rows : List (List DV)}, r ∈ rows → dvBL r ≤ dvBR rows
  | [], h => by cases h
  | x :: rows, h => by
    simp only [dvBR]
    rcases List.mem_cons.1 h with rfl | h
    · omega
    · have := dvBR_mem h; omega
theorem rep_ok (r : Rp) (o : okTapi_Reply r) (hb : dvBL (rTapi_Reply r) ≤ 1048576) : RepOk r := by
  obtain ⟨o1, _, o3⟩ := o
  refine ⟨o1, o3.1, fun g hg => ?_⟩
  obtain ⟨g1, _, g3⟩ := o3.2 g hg
  have h1 : dvBL (rTapi_GroupReply g) ≤ dvBR (r.fGroups.map rTapi_GroupReply) := dvBR_mem (List.mem_map_of_mem hg)
  have h2 : g.fMessages.length ≤ dvBR (g.fMessages.map rTapi_MessageReply) := dvBR_len (fun m => by simp only [rTapi_MessageReply, dvBL, dvB]; omega) _
  simp only [rTapi_Reply, rTapi_GroupReply, dvBL, dvB] at hb h1
  refine ⟨g1, by omega, fun m hm => ?_⟩
  obtain ⟨m1, _, _, m4, m5⟩ := g3.2 m hm
  exact ⟨m1, m4.1, fun f hf => (m4.2 f hf).2.2.2, m5.1, m5.2⟩
theorem flaw_i (f : Tapi_Flaw) (o : okTapi_Flaw f) : FlawI f := ⟨o.1, o.2.1, o.2.2.1.1, o.2.2.1.2.1, o.2.2.1.2.2⟩
theorem rep_i (r : Tapi_Reply) (o : okTapi_Reply r) : RepI r :=
  ⟨o.2.1, fun g hg => ⟨(o.2.2.2 g hg).2.1, fun m hm => ⟨((o.2.2.2 g hg).2.2.2 m hm).2.1, fun f hf => flaw_i f (((o.2.2.2 g hg).2.2.2 m hm).2.2.2.1.2 f hf)⟩⟩⟩
end Go.Proofs.YtcbdpjgejbcpgaaGreatDoor

/-
  Plain laws: loops whose invariant says what comes out.
-/
namespace Go.Proofs.YtcbdpjgejbcpgaaGreatDoor
set_option linter.unusedSimpArgs false
set_option linter.unusedVariables false
open Go.RowKit

theorem loop_to {X S A R : Type} {f : S → Option (S ⊕ A)} {k : A → Option R} {c : Option R} (st : X → S) (μ : X → Nat) (P : X → Prop)
    (h : ∀ x, P x → (∃ y, P y ∧ μ y < μ x ∧ f (st x) = some (.inl (st y))) ∨ (∃ a, f (st x) = some (.inr a) ∧ k a = c)) (x : X) (hx : P x) : (loopC f (st x)).bind k = c := by
  have : ∀ n x, μ x ≤ n → P x → (loopC f (st x)).bind k = c := by
    intro n
    induction n with
    | zero =>
      intro x hn hx
      rcases h x hx with ⟨y, _, h2, _⟩ | ⟨a, h1, h2⟩
      · omega
      · rw [loopC_eq, h1]; exact h2
    | succ n ih =>
      intro x hn hx
      rcases h x hx with ⟨y, h1, h2, h3⟩ | ⟨a, h1, h2⟩
      · rw [loopC_eq, h3]; exact ih y (by omega) h1
      · rw [loopC_eq, h1]; exact h2
  exact this (μ x) x (Nat.le_refl _) hx
theorem loop_allV {α R : Type} (l : List α) (q : α → Bool) (a : R) {f : Int → Option (Int ⊕ (Int ⊕ R))} {K : Int → Option R}
    (hb : ∀ (i : Nat) (e : α), l[i]? = some e → f (i : Int) = if q e = true then some (.inl ((i + 1 : Nat) : Int)) else some (.inr (.inr a))) (he : f (l.length : Int) = some (.inr (.inl (l.length : Int)))) :
    (loopC f 0).bind (outK K) = if l.all q = true then K (l.length : Int) else some a := by
  refine loop_to (X := Nat) (fun i => ((i : Nat) : Int)) (fun i => l.length - i) (fun i => i ≤ l.length ∧ (l.take i).all q = true) ?_ 0 ⟨Nat.zero_le _, rfl⟩
  rintro i ⟨h1, h2⟩
  rcases Nat.lt_or_ge i l.length with hi | hi
  · obtain ⟨e, hx⟩ := get_lt hi
    cases hq : q e with
    | true =>
      refine .inl ⟨i + 1, ⟨hi, ?_⟩, by omega, by rw [hb i e hx, hq]; rfl⟩
      rw [take_snoc hx, List.all_append, h2]
      simp [hq]
    | false =>
      refine .inr ⟨_, by rw [hb i e hx, hq]; rfl, ?_⟩
      have : l.all q = false := by
        rw [List.all_eq_false]
        exact ⟨e, List.mem_of_getElem? hx, by rw [hq]; decide⟩
      rw [this]; rfl
  · have hl : i = l.length := by omega
    subst hl
    rw [List.take_length] at h2
    refine .inr ⟨_, he, ?_⟩
    rw [h2]; rfl
theorem getI_last {α : Type} (l : List α) (x : α) (h : l.length < 9223372036854775807) : getI (l ++ [x]) (IntKind.i64.wrap (((l ++ [x]).length : Int) - 1)) = some x ∧ (IntKind.i64.wrap (((l ++ [x]).length : Int) - 1)).toNat = l.length := by
  have e : IntKind.i64.wrap (((l ++ [x]).length : Int) - 1) = ((l.length : Nat) : Int) := by
    rw [List.length_append, List.length_singleton, wrap64 _ (by omega) (by omega)]; omega
  rw [e, getI_nat, List.getElem?_append_right (Nat.le_refl _), Nat.sub_self]
  exact ⟨rfl, by omega⟩
end Go.Proofs.YtcbdpjgejbcpgaaGreatDoor

/-
  Plain laws of replies: numbers of at most four digits.
-/
namespace Go.Proofs.YtcbdpjgejbcpgaaGreatDoor
set_option linter.unusedSimpArgs false
set_option linter.unusedVariables false
open Go.RowKit

def isD (b : UInt8) : Bool := !(decide ((b.toNat : Int) < 48) || decide (57 < (b.toNat : Int)))
theorem isD_iff (b : UInt8) : isD b = true ↔ 48 ≤ b.toNat ∧ b.toNat ≤ 57 := by
  unfold isD
  simp only [Bool.not_eq_true', Bool.or_eq_false_iff, decide_eq_false_iff_not]
  omega
def h48 : List UInt8 → Bool
  | b :: _ => decide ((b.toNat : Int) = 48)
  | [] => false
def numOk (l : List UInt8) : Bool := !decide (l = []) && !decide (4 < (l.length : Int)) && l.all isD && !(decide (1 < (l.length : Int)) && h48 l)
noncomputable def numV (l : List UInt8) : Int := (m_strconv_Atoi l).getD 0
theorem dec_some : ∀ (l : List UInt8) (a : Nat), l.all isD = true → ∃ n, Lib.decFrom a l = some n
  | [], a, _ => ⟨a, rfl⟩
  | b :: l, a, h => by
    simp only [List.all_cons, Bool.and_eq_true] at h
    obtain ⟨n, hn⟩ := dec_some l (a * 10 + (b.toNat - 48)) h.2
    refine ⟨n, ?_⟩
    unfold Lib.decFrom Lib.digitVal
    rw [if_pos ((isD_iff b).1 h.1)]
    exact hn
theorem atoi_ok {l : List UInt8} (h1 : l ≠ []) (h2 : l.length ≤ 18) (h3 : l.all isD = true) : m_strconv_Atoi l = some (numV l) := by
  have : ∃ n, m_strconv_Atoi l = some n := by
    unfold m_strconv_Atoi
    rw [if_pos h2]
    cases l with
    | nil => exact absurd rfl h1
    | cons b r =>
      have hb := (isD_iff b).1 (by simp only [List.all_cons, Bool.and_eq_true] at h3; exact h3.1)
      obtain ⟨n, hn⟩ := dec_some (b :: r) 0 h3
      refine ⟨(n : Int), ?_⟩
      have e1 : (b == 45) = false := by rw [beq_eq_false_iff_ne]; rintro rfl; revert hb; decide
      have e2 : (b == 43) = false := by rw [beq_eq_false_iff_ne]; rintro rfl; revert hb; decide
      have e3 : Lib.decNat (b :: r) = some n := by unfold Lib.decNat; rw [if_neg (by simp)]; exact hn
      simp only [Lib.atoi, e1, e2, e3]
      rfl
  obtain ⟨n, hn⟩ := this
  unfold numV
  rw [hn]; rfl
theorem inb_dig (l : List UInt8) (hl : l.length ≤ 1000) : m_kit_InBytes l (UInt8.ofNat (Int.toNat 48)) (UInt8.ofNat (Int.toNat 57)) = some (l.all isD) := by
  have a1 : ((UInt8.ofNat (Int.toNat 48)).toNat : Int) = 48 := by decide
  have a2 : ((UInt8.ofNat (Int.toNat 57)).toNat : Int) = 57 := by decide
  unfold m_kit_InBytes sims_G1_0_0; dsimp only
  refine (loop_allV l isD false (fun i e he => ?_) (by simp only [lt_dec_self, cond_false]; rfl)).trans ?_
  · have hi := get_le he
    simp only [lt_dec hi, cond_true, getI_nat, he, Option.bind_some, orO_some, wrapN i (by omega), a1, a2]
    unfold isD
    cases (decide ((e.toNat : Int) < 48) || decide (57 < (e.toNat : Int))) <;> rfl
  · cases l.all isD <;> rfl
theorem num_p (l : List UInt8) (hl : l.length ≤ 1000) : m_kit_Number l 4 = some (if numOk l = true then (numV l, true) else (0, false)) := by
  have hd : m_kit_IsDigits l = some (!decide (l = []) && l.all isD) := by
    unfold m_kit_IsDigits sims_GN_0_0; dsimp only
    rw [inb_dig l hl]
    simp only [Option.bind_some, andO_some]
  unfold m_kit_Number sims_GN_1_0; dsimp only
  rw [hd]
  unfold numOk
  cases l with
  | nil => rfl
  | cons b r =>
    have hg : getI (b :: r) 0 = some b := rfl
    simp only [hg, Option.bind_some, orO_some, andO_some, h48, show decide (b :: r = []) = false from rfl, Bool.not_false, Bool.true_and]
    cases h1 : decide (4 < ((b :: r).length : Int)) with
    | true => rfl
    | false =>
    cases h2 : (b :: r).all isD with
    | false => rfl
    | true =>
    cases h3 : (decide (1 < ((b :: r).length : Int)) && decide ((b.toNat : Int) = 48)) with
    | true => rfl
    | false =>
      simp only [Bool.not_true, Bool.or_self, Bool.not_false, Bool.and_self, cond_false, if_true]
      rw [atoi_ok (by simp) (by have := of_decide_eq_false h1; omega) h2]
      rfl
end Go.Proofs.YtcbdpjgejbcpgaaGreatDoor

/-
  Plain laws of replies: numbers of at most four digits, written and read.
-/
namespace Go.Proofs.YtcbdpjgejbcpgaaGreatDoor
set_option linter.unusedSimpArgs false
set_option linter.unusedVariables false
open Go.RowKit

/-! ### Decimal numerals -/
theorem decFrom_snoc (b : UInt8) : ∀ (l : List UInt8) (a : Nat), Lib.decFrom a (l ++ [b]) = (Lib.decFrom a l).bind fun n => (Lib.digitVal b).map fun d => n * 10 + d
  | [], a => by
    show Lib.decFrom a [b] = _
    unfold Lib.decFrom
    cases Lib.digitVal b <;> rfl
  | x :: l, a => by
    show Lib.decFrom a (x :: (l ++ [b])) = _
    unfold Lib.decFrom
    cases Lib.digitVal x with
    | none => rfl
    | some d => exact decFrom_snoc b l _
theorem digV {b : UInt8} (h : isD b = true) : Lib.digitVal b = some (b.toNat - 48) := by
  unfold Lib.digitVal
  rw [if_pos ((isD_iff b).1 h)]
theorem atoi_dig {l : List UInt8} (h1 : l ≠ []) (h2 : l.length ≤ 18) (h3 : l.all isD = true) : m_strconv_Atoi l = Option.map (fun n : Nat => (n : Int)) (Lib.decFrom 0 l) := by
  unfold m_strconv_Atoi
  rw [if_pos h2]
  cases l with
  | nil => exact absurd rfl h1
  | cons b r =>
    have hb := (isD_iff b).1 (by simp only [List.all_cons, Bool.and_eq_true] at h3; exact h3.1)
    have e1 : (b == 45) = false := by rw [beq_eq_false_iff_ne]; rintro rfl; revert hb; decide
    have e2 : (b == 43) = false := by rw [beq_eq_false_iff_ne]; rintro rfl; revert hb; decide
    have e3 : Lib.decNat (b :: r) = Lib.decFrom 0 (b :: r) := by unfold Lib.decNat; rw [if_neg (by simp)]
    simp only [Lib.atoi, e1, e2, e3]
    rfl
theorem snoc_of {α : Type} {l : List α} (h : l ≠ []) : ∃ p a, l = p ++ [a] := by
  rcases List.eq_nil_or_concat l with h1 | ⟨p, a, h1⟩
  · exact absurd h1 h
  · exact ⟨p, a, by rw [h1, List.concat_eq_append]⟩
theorem h48_app {l m : List UInt8} (h : l ≠ []) : h48 (l ++ m) = h48 l := by
  cases l with
  | nil => exact absurd rfl h
  | cons b l => rfl
theorem digit_of (d : Nat) (h : d < 10) : isD (UInt8.ofNat (48 + d)) = true ∧ (UInt8.ofNat (48 + d)).toNat = 48 + d := by
  have h2 : (UInt8.ofNat (48 + d)).toNat = 48 + d := by simp; omega
  exact ⟨(isD_iff _).2 (by omega), h2⟩
structure DD (u : Nat) (l : List UInt8) : Prop where
  val : Lib.decFrom 0 l = some u
  dig : l.all isD = true
  ne : l ≠ []
  lead : 1 ≤ u → h48 l = false
  zero : u = 0 → l.length = 1
theorem decDD (u : Nat) : DD u (Lib.decDigits u) := by
  induction u using Nat.strongRecOn with
  | _ u ih =>
    by_cases h : u < 10
    · obtain ⟨h1, h2⟩ := digit_of u h
      rw [Lib.decDigits, dif_pos h]
      refine ⟨?_, by rw [List.all_cons, h1]; rfl, by simp, fun h0 => ?_, fun _ => rfl⟩
      · unfold Lib.decFrom
        rw [digV h1, h2]
        show Lib.decFrom _ [] = _
        unfold Lib.decFrom
        congr 1; omega
      · show decide (((UInt8.ofNat (48 + u)).toNat : Int) = 48) = false
        rw [h2]; exact decide_eq_false (by omega)
    · obtain ⟨k1, k2, k3, k4, k5⟩ := ih (u / 10) (by omega)
      obtain ⟨h1, h2⟩ := digit_of (u % 10) (Nat.mod_lt _ (by decide))
      rw [Lib.decDigits, dif_neg h]
      refine ⟨?_, by rw [List.all_append, k2, List.all_cons, h1]; rfl, by simp, fun _ => ?_, fun h0 => by omega⟩
      · rw [decFrom_snoc, k1, digV h1, h2]
        simp only [Option.bind_some, Option.map_some]
        congr 1; omega
      · rw [h48_app k3]; exact k4 (by omega)
theorem decDigits_of : ∀ (k : Nat) (l : List UInt8) (n : Nat), l.length = k + 1 → l.all isD = true → (1 < l.length → h48 l = false) → Lib.decFrom 0 l = some n → Lib.decDigits n = l
  | 0, l, n, hl, hd, _, hv => by
    match l, hl with
    | [b], _ =>
      have hb : isD b = true := by simpa using hd
      have hi := (isD_iff b).1 hb
      unfold Lib.decFrom at hv
      rw [digV hb] at hv
      have hv : Lib.decFrom (0 * 10 + (b.toNat - 48)) [] = some n := hv
      unfold Lib.decFrom at hv
      cases hv
      rw [Lib.decDigits, dif_pos (by omega)]
      congr 1
      apply UInt8.toNat_inj.1
      simp; omega
  | k + 1, l, n, hl, hd, hh, hv => by
    obtain ⟨l', b, rfl⟩ := snoc_of (l := l) (by rintro rfl; simp at hl)
    have hl' : l'.length = k + 1 := by simpa using hl
    have hne : l' ≠ [] := by rintro rfl; simp at hl'
    simp only [List.all_append, List.all_cons, List.all_nil, Bool.and_true, Bool.and_eq_true] at hd
    have h8 : h48 l' = false := by rw [← h48_app (m := [b]) hne]; exact hh (by rw [hl]; omega)
    obtain ⟨n', hn'⟩ := dec_some l' 0 hd.1
    have ih := decDigits_of k l' n' hl' hd.1 (fun _ => h8) hn'
    have hi := (isD_iff b).1 hd.2
    rw [decFrom_snoc, hn', digV hd.2] at hv
    simp only [Option.bind_some, Option.map_some, Option.some.injEq] at hv
    have h1 : 1 ≤ n' := by
      rcases Nat.eq_zero_or_pos n' with rfl | h
      · rw [← ih, Lib.decDigits, dif_pos (by decide)] at h8
        exact absurd h8 (by decide)
      · exact h
    rw [Lib.decDigits, dif_neg (by omega), show n / 10 = n' by omega, ih]
    congr 1
    congr 1
    apply UInt8.toNat_inj.1
    simp; omega
theorem decDigits_len : ∀ (k u : Nat), u < 10 ^ (k + 1) → (Lib.decDigits u).length ≤ k + 1
  | 0, u, h => by
    rw [Lib.decDigits, dif_pos (by simpa using h)]; simp
  | k + 1, u, h => by
    by_cases h10 : u < 10
    · rw [Lib.decDigits, dif_pos h10]; simp
    · rw [Lib.decDigits, dif_neg h10, List.length_append]
      have := decDigits_len k (u / 10) (by rw [Nat.pow_succ] at h; omega)
      simp; omega
theorem num_itoa {t : Int} (h0 : 0 ≤ t) (h1 : t ≤ 9999) : numOk (Lib.itoa t) = true ∧ numV (Lib.itoa t) = t ∧ ∀ b ∈ Lib.itoa t, isD b = true := by
  obtain ⟨u, rfl⟩ : ∃ u : Nat, t = (u : Int) := ⟨t.toNat, by omega⟩
  rw [Lib.itoa_nonneg]
  obtain ⟨k1, k2, k3, k4, k5⟩ := decDD u
  have hl := decDigits_len 3 u (by have : (10 : Nat) ^ (3 + 1) = 10000 := by decide
                                   omega)
  refine ⟨?_, ?_, fun b hb => List.all_eq_true.1 k2 b hb⟩
  · unfold numOk
    rw [decide_eq_false k3, decide_eq_false (by omega), k2]
    rcases Nat.eq_zero_or_pos u with hu | hu
    · rw [decide_eq_false (by have := k5 hu; omega)]; rfl
    · rw [k4 hu]; simp
  · unfold numV
    rw [atoi_dig k3 (by omega) k2, k1]; rfl
theorem itoa_num {a : List UInt8} (h : numOk a = true) : Lib.itoa (numV a) = a := by
  have h' := h
  unfold numOk at h
  simp only [Bool.and_eq_true, Bool.not_eq_true', decide_eq_false_iff_not] at h
  obtain ⟨⟨⟨h1, h2⟩, h3⟩, h4⟩ := h
  obtain ⟨n, hn⟩ := dec_some a 0 h3
  have hv : numV a = (n : Int) := by unfold numV; rw [atoi_dig h1 (by omega) h3, hn]; rfl
  rw [hv, Lib.itoa_nonneg]
  refine decDigits_of (a.length - 1) a n (by have : a.length ≠ 0 := fun e => h1 (List.length_eq_zero_iff.1 e)
                                             omega) h3 (fun hl => ?_) hn
  simp only [Bool.and_eq_false_iff, decide_eq_false_iff_not] at h4
  rcases h4 with h4 | h4
  · omega
  · exact h4
end Go.Proofs.YtcbdpjgejbcpgaaGreatDoor

/-
  Plain laws of replies: the texts of segments.
-/
namespace Go.Proofs.YtcbdpjgejbcpgaaGreatDoor
set_option linter.unusedSimpArgs false
set_option linter.unusedVariables false
open Go.RowKit

abbrev Txt := List UInt8
/-- All of a list, if there is something of each. -/
def mapO {α β : Type} (g : α → Option β) : List α → Option (List β)
  | [] => some []
  | a :: l => match g a, mapO g l with
    | some b, some bs => some (b :: bs)
    | _, _ => none
theorem loop_coll {α β R : Type} (es : List α) (g : α → Option β) (bad : R) {f : List β × Int → Option ((List β × Int) ⊕ ((List β × Int) ⊕ R))} {K : List β × Int → Option R}
    (hb : ∀ (i : Nat) (e : α) (o : List β), es[i]? = some e → o.length = i → f (o, (i : Int)) = match g e with | some b => some (.inl (o ++ [b], ((i + 1 : Nat) : Int))) | none => some (.inr (.inr bad)))
    (he : ∀ o, f (o, (es.length : Int)) = some (.inr (.inl (o, (es.length : Int))))) :
    (loopC f ([], 0)).bind (outK K) = match mapO g es with | some l => K (l, (es.length : Int)) | none => some bad := by
  refine loop_to (X := Nat × List β) (fun x => (x.2, ((x.1 : Nat) : Int))) (fun x => es.length - x.1) (fun x => x.1 ≤ es.length ∧ x.2.length = x.1 ∧ mapO g es = match mapO g (es.drop x.1) with | some r => some (x.2 ++ r) | none => none) ?_ (0, []) ⟨Nat.zero_le _, rfl, ?_⟩
  · rintro ⟨i, o⟩ ⟨h1, h2, h3⟩
    simp only at h1 h2 h3 ⊢
    cases hd : es.drop i with
    | nil =>
      have hl := drop_nil_len hd h1
      rw [hd] at h3
      simp only [mapO, List.append_nil] at h3
      exact .inr ⟨_, by rw [hl]; exact he o, by rw [h3]; rfl⟩
    | cons e r =>
      obtain ⟨g1, g2, g3⟩ := drop_head hd
      rw [hd] at h3
      cases hg : g e with
      | none =>
        simp only [mapO, hg] at h3
        exact .inr ⟨_, by rw [hb i e o g1 h2, hg], by rw [h3]; rfl⟩
      | some b =>
        refine .inl ⟨(i + 1, o ++ [b]), ⟨g2, by simp [h2], ?_⟩, by simp only; omega, by rw [hb i e o g1 h2, hg]⟩
        simp only [mapO, hg] at h3
        rw [h3, g3]
        cases mapO g r with
        | none => rfl
        | some bs => simp
  · simp only [List.drop_zero]
    cases mapO g es <;> simp
/-- The parts of an element with one repeat. -/
def oneP (e : Tapi_Element) : Option (List Txt) := match e.fRepeats with
  | [p] => some p
  | _ => none
def tx1 (p : List Txt) : Option Txt := match p with
  | [t] => some t
  | _ => none
/-- The text of an element with one part. -/
def one1 (e : Tapi_Element) : Option Txt := (oneP e).bind tx1
def ElemsOk (es : List Tapi_Element) : Prop := es.length ≤ 50 ∧ ∀ e ∈ es, elemF e = 0
theorem ElemsOk.tail {e : Tapi_Element} {es : List Tapi_Element} (h : ElemsOk (e :: es)) : ElemsOk es := ⟨by have := h.1; simp at this; omega, fun x hx => h.2 x (List.mem_cons_of_mem _ hx)⟩
theorem elem_rep {e : Tapi_Element} (h : elemF e = 0) : e.fRepeats ≠ [] ∧ e.fRepeats.length ≤ 20 ∧ ∀ p ∈ e.fRepeats, p ≠ [] ∧ p.length ≤ 20 ∧ ∀ t ∈ p, t.length ≤ 1000 := by
  unfold elemF at h
  split at h
  · cases h
  · rename_i h0
    split at h
    · cases h
    · refine ⟨fun e => h0 (by rw [e]; rfl), by omega, fun p hp => ?_⟩
      have h1 := listF_zero h p hp
      unfold repF at h1
      split at h1
      · cases h1
      · rename_i h2
        split at h1
        · cases h1
        · refine ⟨fun e => h2 (by rw [e]; rfl), by omega, fun t ht => ?_⟩
          have h3 := listF_zero h1 t ht
          unfold textF at h3
          split at h3
          · cases h3
          · omega
theorem p_plain (s : Tapi_Segment) (hs : s.fElements.length ≤ 1000) (hok : ∀ e ∈ s.fElements, elemF e = 0) : m_reply_plain s = some (match mapO one1 s.fElements with | some l => (l, true) | none => ([], false)) := by
  unfold m_reply_plain sims_GN_0_0; dsimp only
  refine (loop_coll s.fElements one1 ([], false) (fun i e o he ho => ?_) (fun o => ?_)).trans ?_
  · have hi := get_le he
    obtain ⟨h1, _, h2⟩ := elem_rep (hok e (List.mem_of_getElem? he))
    simp only [lt_dec hi, cond_true, getI_nat, he, Option.bind_some, wrapN i (by omega)]
    unfold one1 oneP
    cases hr : e.fRepeats with
    | nil => exact absurd hr h1
    | cons p ps =>
      cases ps with
      | cons q qs =>
        have d : decide (((p :: q :: qs).length : Int) = 1) = false := decide_eq_false (by simp; omega)
        simp only [d, orO, Bool.not_false, cond_true, Option.bind_some, Option.bind_none]; rfl
      | nil =>
        have d : decide ((([p] : List (List Txt)).length : Int) = 1) = true := rfl
        have g0 : getI [p] 0 = some p := rfl
        simp only [d, g0, Bool.not_true, orO_some, Bool.false_or, Option.bind_some]
        unfold tx1
        cases p with
        | nil => exact absurd rfl (h2 [] (by rw [hr]; simp)).1
        | cons t ts =>
          cases ts with
          | cons u us =>
            have d2 : decide (((t :: u :: us).length : Int) = 1) = false := decide_eq_false (by simp; omega)
            simp only [d2, Bool.not_false, cond_true]; rfl
          | nil =>
            have d2 : decide ((([t] : List Txt).length : Int) = 1) = true := rfl
            have g1 : getI [t] 0 = some t := rfl
            simp only [d2, g1, Bool.not_true, cond_false, Option.bind_some]
            rw [thenO_ok (by simp only [List.length_singleton]; omega)]
  · simp only [lt_dec_self, cond_false]; rfl
  · cases mapO one1 s.fElements <;> rfl
theorem one1_mapO : ∀ (es : List Tapi_Element), mapO one1 es = (mapO oneP es).bind (mapO tx1)
  | [] => rfl
  | e :: es => by
    simp only [mapO, one1_mapO es]
    unfold one1
    cases oneP e with
    | none => rfl
    | some p =>
      simp only [Option.bind_some]
      cases mapO oneP es with
      | none => cases tx1 p <;> rfl
      | some l => simp only [Option.bind_some, mapO]
end Go.Proofs.YtcbdpjgejbcpgaaGreatDoor

/-
  Plain laws of replies: heads and flaws.
-/
namespace Go.Proofs.YtcbdpjgejbcpgaaGreatDoor
set_option linter.unusedSimpArgs false
set_option linter.unusedVariables false
open Go.RowKit

theorem mapO_ok {es : List Tapi_Element} (h : ∀ e ∈ es, elemF e = 0) : ∀ l, mapO oneP es = some l → ∀ p ∈ l, p ≠ [] ∧ p.length ≤ 20 ∧ ∀ t ∈ p, t.length ≤ 1000 := by
  induction es with
  | nil => intro l hl p hp; cases hl; cases hp
  | cons e es ih =>
    intro l hl p hp
    simp only [mapO] at hl
    split at hl
    · rename_i q qs hq hqs
      cases hl
      rcases List.mem_cons.1 hp with rfl | hp
      · obtain ⟨_, _, h2⟩ := elem_rep (h e (by simp))
        unfold oneP at hq
        split at hq
        · rename_i p' hr
          cases hq
          exact h2 p (by rw [hr]; simp)
        · cases hq
      · exact ih (fun x hx => h x (List.mem_cons_of_mem _ hx)) qs hqs p hp
    · cases hl
theorem tx1_mem {p : List Txt} {t : Txt} (h : tx1 p = some t) : p = [t] := by
  unfold tx1 at h
  split at h
  · cases h; rfl
  · cases h
theorem mapO_tx {l : List (List Txt)} : ∀ {ts : List Txt}, mapO tx1 l = some ts → l = ts.map fun t => [t] := by
  induction l with
  | nil => intro ts h; cases h; rfl
  | cons p l ih =>
    intro ts h
    simp only [mapO] at h
    split at h
    · rename_i t bs ht hb
      cases h
      rw [tx1_mem ht, ih hb]; rfl
    · cases h
theorem one1_short {es : List Tapi_Element} (h : ∀ e ∈ es, elemF e = 0) {ts : List Txt} (hts : mapO one1 es = some ts) : ∀ t ∈ ts, t.length ≤ 1000 := by
  rw [one1_mapO] at hts
  obtain ⟨l, hl, ht⟩ := Option.bind_eq_some_iff.1 hts
  have h1 := mapO_tx ht
  intro t htm
  have := (mapO_ok h l hl [t] (by rw [h1]; exact List.mem_map.2 ⟨t, htm, rfl⟩)).2.2 t (by simp)
  exact this
/-! ### Heads -/
noncomputable def headF (marked : Bool) (es : List Tapi_Element) : Option (Txt × Int × Bool) := match mapO one1 es with
  | some [a, b] => if numOk b = true then some (a, numV b, false) else none
  | some [a, b, c] => if marked = true ∧ c = [49] ∧ numOk b = true then some (a, numV b, true) else none
  | _ => none
theorem p_head (s : Tapi_Segment) (marked : Bool) (hs : s.fElements.length ≤ 1000) (hok : ∀ e ∈ s.fElements, elemF e = 0) :
    ∃ z, m_reply_head s marked = some z ∧ match headF marked s.fElements with | some h => z = (h.1, h.2.1, h.2.2, true) | none => z.2.2.2 = false := by
  unfold m_reply_head sims_GN_2_0; dsimp only
  rw [p_plain s hs hok]
  unfold headF
  cases hm : mapO one1 s.fElements with
  | none =>
    simp only [Option.bind_some, Bool.not_false, orO, cond_true]
    exact ⟨_, rfl, rfl⟩
  | some ts =>
    have hsh := one1_short hok hm
    have hg : ∀ (l : List Txt) (k : Nat), getI l (k : Int) = l[k]? := fun l k => getI_nat l k
    match ts, hsh with
    | [], _ => exact ⟨_, rfl, rfl⟩
    | [a], _ => exact ⟨_, rfl, rfl⟩
    | [a, b], hsh =>
      have hn := num_p b (hsh b (by simp))
      have g1 : getI [a, b] 1 = some b := rfl
      have g0 : getI [a, b] 0 = some a := rfl
      have d1 : decide ((([a, b] : List Txt).length : Int) < 2) = false := rfl
      have d2 : decide ((3 : Int) < (([a, b] : List Txt).length : Int)) = false := rfl
      have d3 : decide ((([a, b] : List Txt).length : Int) = 3) = false := rfl
      simp only [Option.bind_some, Bool.not_true, orO_some, d1, d2, d3, andO, cond_false, Bool.or_self, g1, g0, hn]
      cases numOk b with
      | true => exact ⟨_, rfl, rfl⟩
      | false => exact ⟨_, rfl, rfl⟩
    | [a, b, c], hsh =>
      have hn := num_p b (hsh b (by simp))
      have g2 : getI [a, b, c] 2 = some c := rfl
      have g1 : getI [a, b, c] 1 = some b := rfl
      have g0 : getI [a, b, c] 0 = some a := rfl
      have d1 : decide ((([a, b, c] : List Txt).length : Int) < 2) = false := rfl
      have d2 : decide ((3 : Int) < (([a, b, c] : List Txt).length : Int)) = false := rfl
      have d3 : decide ((([a, b, c] : List Txt).length : Int) = 3) = true := rfl
      simp only [Option.bind_some, Bool.not_true, orO_some, d1, d2, d3, andO, cond_true, Bool.or_self, Bool.false_or, g2, g1, g0, hn]
      cases marked with
      | false =>
        simp only [Bool.not_false, Bool.true_or, cond_true, Bool.false_eq_true, false_and, if_false]
        exact ⟨_, rfl, rfl⟩
      | true =>
        by_cases hc : c = [49]
        · simp only [hc, decide_true, Bool.not_true, Bool.or_self, cond_false, true_and]
          cases numOk b with
          | true => exact ⟨_, rfl, rfl⟩
          | false => exact ⟨_, rfl, rfl⟩
        · simp only [hc, decide_false, Bool.not_false, Bool.or_true, cond_true, false_and, and_false, if_false]
          exact ⟨_, rfl, rfl⟩
    | a :: b :: c :: d :: r, _ =>
      have d1 : decide (((a :: b :: c :: d :: r).length : Int) < 2) = false := decide_eq_false (by simp; omega)
      have d2 : decide ((3 : Int) < ((a :: b :: c :: d :: r).length : Int)) = true := decide_eq_true (by simp; omega)
      simp only [Option.bind_some, Bool.not_true, orO_some, d1, d2, Bool.false_or, orO, cond_true]
      exact ⟨_, rfl, rfl⟩
/-! ### Flaws -/
noncomputable def spotO (c : List Txt) : Option Tapi_Spot := match c with
  | [a, b, d] => if numOk a = true ∧ numOk b = true ∧ numOk d = true ∧ ¬ (numV a = 0 ∧ numV b = 0 ∧ numV d = 0) then some ⟨numV a, numV b, numV d⟩ else none
  | _ => none
noncomputable def flawR (kv gv : Int) (r : List (List Txt)) : Option Tapi_Flaw := match r with
  | [] => some ⟨kv, gv, ⟨0, 0, 0⟩, []⟩
  | [c] => (spotO c).map fun s => ⟨kv, gv, s, []⟩
  | [c, d] => (tx1 d).bind fun n => if n = [] then none else if c = [[]] then some ⟨kv, gv, ⟨0, 0, 0⟩, n⟩ else (spotO c).map fun s => ⟨kv, gv, s, n⟩
  | _ => none
noncomputable def flawL (l : List (List Txt)) : Option Tapi_Flaw := match l with
  | p :: q :: r => (tx1 p).bind fun k => (tx1 q).bind fun g => if numOk k = true ∧ numOk g = true then flawR (numV k) (numV g) r else none
  | _ => none
end Go.Proofs.YtcbdpjgejbcpgaaGreatDoor

/-
  Plain laws of replies: where a flaw is.
-/
namespace Go.Proofs.YtcbdpjgejbcpgaaGreatDoor
set_option linter.unusedSimpArgs false
set_option linter.unusedVariables false
open Go.RowKit

theorem elem_cases {e : Tapi_Element} (h : elemF e = 0) : (oneP e = none ∧ one1 e = none) ∨ ∃ p, e.fRepeats = [p] ∧ oneP e = some p ∧ one1 e = tx1 p ∧ p ≠ [] ∧ ∀ t ∈ p, t.length ≤ 1000 := by
  obtain ⟨h1, _, h2⟩ := elem_rep h
  unfold one1 oneP
  cases hr : e.fRepeats with
  | nil => exact absurd hr h1
  | cons p ps =>
    cases ps with
    | nil => exact .inr ⟨p, rfl, rfl, rfl, (h2 p (by rw [hr]; simp)).1, (h2 p (by rw [hr]; simp)).2.2⟩
    | cons q qs => exact .inl ⟨rfl, rfl⟩
theorem p_spotOf (e : Tapi_Element) (h : elemF e = 0) : ∃ z, m_reply_spotOf e = some z ∧ match (oneP e).bind spotO with | some s => z = (s, true) | none => z.2 = false := by
  unfold m_reply_spotOf sims_GN_2_0; dsimp only
  rcases elem_cases h with ⟨h1, _⟩ | ⟨p, h1, h2, _, h4, h5⟩
  · have : decide ((e.fRepeats.length : Int) = 1) = false := by
      unfold oneP at h1
      split at h1
      · cases h1
      · rename_i hne
        refine decide_eq_false fun hl => ?_
        match hr : e.fRepeats, hl with
        | [p], _ => exact hne p hr
    simp only [this, Bool.not_false, orO, cond_true, Option.bind_some, h1, Option.bind_none]
    exact ⟨_, rfl, rfl⟩
  · have d : decide ((e.fRepeats.length : Int) = 1) = true := by rw [h1]; rfl
    have g0 : getI e.fRepeats 0 = some p := by rw [h1]; rfl
    simp only [d, Bool.not_true, orO_some, Bool.false_or, g0, Option.bind_some, h2]
    by_cases hl : p.length = 3
    · match p, hl, h5 with
      | [a, b, c], _, h5 =>
        have na := num_p a (h5 a (by simp))
        have nb := num_p b (h5 b (by simp))
        have nc := num_p c (h5 c (by simp))
        have d3 : decide ((([a, b, c] : List Txt).length : Int) = 3) = true := rfl
        simp only [d3, Bool.not_true, cond_false, Option.bind_some]
        have e0 : decide ((0 : Int) < (([a, b, c] : List Txt).length : Int)) = true := rfl
        have e1 : decide ((1 : Int) < (([a, b, c] : List Txt).length : Int)) = true := rfl
        have e2 : decide ((2 : Int) < (([a, b, c] : List Txt).length : Int)) = true := rfl
        have e3 : decide ((3 : Int) < (([a, b, c] : List Txt).length : Int)) = false := rfl
        have i0 : inO 0 3 = some () := rfl
        have i1 : inO 1 3 = some () := rfl
        have i2 : inO 2 3 = some () := rfl
        have w0 : IntKind.i64.wrap (0 + 1) = 1 := by decide
        have w1 : IntKind.i64.wrap (1 + 1) = 2 := by decide
        have w2 : IntKind.i64.wrap (2 + 1) = 3 := by decide
        have f0 : getI [a, b, c] 0 = some a := rfl
        have f1 : getI [a, b, c] 1 = some b := rfl
        have f2 : getI [a, b, c] 2 = some c := rfl
        have j0 : Int.toNat 0 = 0 := rfl
        have j1 : Int.toNat 1 = 1 := rfl
        have j2 : Int.toNat 2 = 2 := rfl
        unfold spotO thenO
        rw [loopC_eq]
        simp only [e0, f0, na, i0, j0, w0, cond_true, Option.bind_some, List.getElem?_cons_zero, List.set_cons_zero]
        cases hna : numOk a with
        | false =>
          simp only [Bool.false_eq_true, if_false, Bool.not_false, cond_true, false_and]
          exact ⟨_, rfl, rfl⟩
        | true =>
        simp only [if_true, Bool.not_true, cond_false, true_and]
        rw [loopC_eq]
        simp only [e1, f1, nb, i1, j1, w1, cond_true, Option.bind_some, List.getElem?_cons_zero, List.getElem?_cons_succ, List.set_cons_zero, List.set_cons_succ]
        cases hnb : numOk b with
        | false =>
          simp only [Bool.false_eq_true, if_false, Bool.not_false, cond_true, false_and]
          exact ⟨_, rfl, rfl⟩
        | true =>
        simp only [if_true, Bool.not_true, cond_false, true_and]
        rw [loopC_eq]
        simp only [e2, f2, nc, i2, j2, w2, cond_true, Option.bind_some, List.getElem?_cons_zero, List.getElem?_cons_succ, List.set_cons_zero, List.set_cons_succ]
        cases hnc : numOk c with
        | false =>
          simp only [Bool.false_eq_true, if_false, Bool.not_false, cond_true, false_and]
          exact ⟨_, rfl, rfl⟩
        | true =>
        simp only [if_true, Bool.not_true, cond_false, true_and]
        rw [loopC_eq]
        simp only [e3, cond_false]
        show ∃ z, (thenO (inO 0 3) _) = some z ∧ _
        simp only [thenO, i0, i1, i2, Option.bind_some, List.getElem?_cons_zero, List.getElem?_cons_succ]
        refine ⟨_, rfl, ?_⟩
        by_cases hz : numV a = 0 ∧ numV b = 0 ∧ numV c = 0
        · simp only [hz, not_true_eq_false, and_self, if_false, decide_true, Bool.and_self, Bool.not_true]
        · rw [if_pos hz]
          have : (decide (numV a = 0) && (decide (numV b = 0) && decide (numV c = 0))) = false := by
            simpa using hz
          simp only [this, Bool.not_false]
    · have d3 : decide ((p.length : Int) = 3) = false := decide_eq_false (by omega)
      have hs : spotO p = none := by
        unfold spotO
        split
        · exact absurd rfl hl
        · rfl
      simp only [d3, Bool.not_false, cond_true, hs]
      exact ⟨_, rfl, rfl⟩
end Go.Proofs.YtcbdpjgejbcpgaaGreatDoor

/-
  Plain laws of replies: flaws, by both.
-/
namespace Go.Proofs.YtcbdpjgejbcpgaaGreatDoor
set_option linter.unusedSimpArgs false
set_option linter.unusedVariables false
open Go.RowKit

theorem plain1 (e : Tapi_Element) (h : elemF e = 0) : m_reply_plain ⟨[], [e]⟩ = some (match one1 e with | some t => ([t], true) | none => ([], false)) := by
  rw [p_plain ⟨[], [e]⟩ (by simp) (fun x hx => by rw [List.mem_singleton.1 hx]; exact h)]
  simp only [mapO]
  cases one1 e <;> rfl
theorem plain2 (a b : Tapi_Element) (ha : elemF a = 0) (hb : elemF b = 0) : m_reply_plain ⟨[], [a, b]⟩ = some (match one1 a, one1 b with | some k, some g => ([k, g], true) | _, _ => ([], false)) := by
  rw [p_plain ⟨[], [a, b]⟩ (by simp) (fun x hx => by rcases List.mem_cons.1 hx with rfl | hx; exact ha; rw [List.mem_singleton.1 hx]; exact hb)]
  simp only [mapO]
  cases one1 a <;> cases one1 b <;> rfl
theorem one_short {e : Tapi_Element} (h : elemF e = 0) {t : Txt} (ht : one1 e = some t) : t.length ≤ 1000 ∧ oneP e = some [t] := by
  rcases elem_cases h with ⟨_, h2⟩ | ⟨p, _, h2, h3, _, h5⟩
  · rw [h2] at ht; cases ht
  · rw [h3] at ht
    have := tx1_mem ht
    rw [this] at h5 h2
    exact ⟨h5 t (by simp), h2⟩
theorem flaw_bind (a b : Tapi_Element) (r : List Tapi_Element) : (mapO oneP (a :: b :: r)).bind flawL = (one1 a).bind fun k => (one1 b).bind fun g => if numOk k = true ∧ numOk g = true then (mapO oneP r).bind (flawR (numV k) (numV g)) else none := by
  unfold one1
  simp only [mapO]
  cases oneP a with
  | none => rfl
  | some p =>
  cases oneP b with
  | none => simp only [Option.bind_some, Option.bind_none]; cases tx1 p <;> rfl
  | some q =>
  cases mapO oneP r with
  | none =>
    simp only [Option.bind_some, Option.bind_none]
    cases tx1 p with
    | none => rfl
    | some k =>
    cases tx1 q with
    | none => rfl
    | some g =>
      simp only [Option.bind_some]
      split <;> rfl
  | some l => simp only [Option.bind_some, flawL]
def flawZ (o : Option Tapi_Flaw) (z : Tapi_Flaw × Bool) : Prop := match o with
  | some f => z = (f, true)
  | none => z.2 = false
theorem p_flawOf (s : Tapi_Segment) (hs : s.fElements.length ≤ 1000) (hok : ∀ e ∈ s.fElements, elemF e = 0) : ∃ z, m_reply_flawOf s = some z ∧ flawZ ((mapO oneP s.fElements).bind flawL) z := by
  unfold m_reply_flawOf sims_GN_3_0; dsimp only
  obtain ⟨tag, es⟩ := s
  simp only at hs hok ⊢
  match es, hok with
  | [], _ => exact ⟨_, rfl, rfl⟩
  | [a], _ =>
    refine ⟨_, rfl, ?_⟩
    simp only [mapO]
    cases oneP a <;> rfl
  | a :: b :: c :: d :: e :: r, _ =>
    have d1 : decide (((a :: b :: c :: d :: e :: r).length : Int) < 2) = false := decide_eq_false (by simp; omega)
    have d2 : decide ((4 : Int) < ((a :: b :: c :: d :: e :: r).length : Int)) = true := decide_eq_true (by simp; omega)
    simp only [d1, d2, orO_some, Bool.false_or, Option.bind_some, cond_true]
    refine ⟨_, rfl, ?_⟩
    rw [flaw_bind]
    have : ∀ kv gv, (mapO oneP (c :: d :: e :: r)).bind (flawR kv gv) = none := fun kv gv => by
      simp only [mapO]
      cases oneP c <;> cases oneP d <;> cases oneP e <;> cases mapO oneP r <;> rfl
    simp only [this]
    cases one1 a <;> cases one1 b <;> simp [flawZ]
  | [a, b], hok =>
    have ha := hok a (by simp)
    have hb := hok b (by simp)
    have d1 : decide ((([a, b] : List Tapi_Element).length : Int) < 2) = false := rfl
    have d2 : decide ((4 : Int) < (([a, b] : List Tapi_Element).length : Int)) = false := rfl
    have d3 : decide ((([a, b] : List Tapi_Element).length : Int) = 4) = false := rfl
    have d4 : decide ((2 : Int) < (([a, b] : List Tapi_Element).length : Int)) = false := rfl
    have s1 : sliceI [a, b] (none.getD 0) ((some 2).getD (([a, b] : List Tapi_Element).length : Int)) = some [a, b] := rfl
    simp only [d1, d2, d3, d4, s1, orO_some, Bool.false_or, Option.bind_some, cond_false, plain2 a b ha hb]
    rw [flaw_bind]
    cases h1 : one1 a with
    | none => exact ⟨_, rfl, rfl⟩
    | some k =>
    cases h2 : one1 b with
    | none => exact ⟨_, rfl, rfl⟩
    | some g =>
    have n1 := num_p k (one_short ha h1).1
    have n2 := num_p g (one_short hb h2).1
    have g0 : getI [k, g] 0 = some k := rfl
    have g1 : getI [k, g] 1 = some g := rfl
    simp only [Bool.not_true, cond_false, g0, g1, n1, n2, Option.bind_some, orO_some]
    cases hk : numOk k with
    | false => exact ⟨_, rfl, rfl⟩
    | true =>
    cases hg : numOk g with
    | false => exact ⟨_, rfl, rfl⟩
    | true => exact ⟨_, rfl, rfl⟩
  | [a, b, c], hok =>
    have ha := hok a (by simp)
    have hb := hok b (by simp)
    have hc := hok c (by simp)
    have d1 : decide ((([a, b, c] : List Tapi_Element).length : Int) < 2) = false := rfl
    have d2 : decide ((4 : Int) < (([a, b, c] : List Tapi_Element).length : Int)) = false := rfl
    have d3 : decide ((([a, b, c] : List Tapi_Element).length : Int) = 4) = false := rfl
    have d4 : decide ((2 : Int) < (([a, b, c] : List Tapi_Element).length : Int)) = true := rfl
    have s1 : sliceI [a, b, c] (none.getD 0) ((some 2).getD (([a, b, c] : List Tapi_Element).length : Int)) = some [a, b] := rfl
    have f2 : getI [a, b, c] 2 = some c := rfl
    simp only [d1, d2, d3, d4, s1, f2, orO_some, Bool.false_or, Option.bind_some, cond_false, cond_true, plain2 a b ha hb]
    rw [flaw_bind]
    cases h1 : one1 a with
    | none => exact ⟨_, rfl, rfl⟩
    | some k =>
    cases h2 : one1 b with
    | none => exact ⟨_, rfl, rfl⟩
    | some g =>
    have n1 := num_p k (one_short ha h1).1
    have n2 := num_p g (one_short hb h2).1
    have g0 : getI [k, g] 0 = some k := rfl
    have g1 : getI [k, g] 1 = some g := rfl
    simp only [Bool.not_true, cond_false, g0, g1, n1, n2, Option.bind_some, orO_some]
    cases hk : numOk k with
    | false => exact ⟨_, rfl, rfl⟩
    | true =>
    cases hg : numOk g with
    | false => exact ⟨_, rfl, rfl⟩
    | true =>
    obtain ⟨z, hz, hz2⟩ := p_spotOf c hc
    have : (mapO oneP [c]).bind (flawR (numV k) (numV g)) = ((oneP c).bind spotO).map fun s => ⟨numV k, numV g, s, []⟩ := by
      simp only [mapO]
      cases oneP c <;> rfl
    simp only [if_true, Bool.not_true, Bool.or_self, cond_false, hz, Option.bind_some, and_self, this]
    refine ⟨_, rfl, ?_⟩
    revert hz2
    cases (oneP c).bind spotO with
    | none => intro h; exact h
    | some s => intro h; rw [h]; rfl
  | [a, b, c, d], hok =>
    have ha := hok a (by simp)
    have hb := hok b (by simp)
    have hc := hok c (by simp)
    have hd := hok d (by simp)
    have d1 : decide ((([a, b, c, d] : List Tapi_Element).length : Int) < 2) = false := rfl
    have d2 : decide ((4 : Int) < (([a, b, c, d] : List Tapi_Element).length : Int)) = false := rfl
    have d3 : decide ((([a, b, c, d] : List Tapi_Element).length : Int) = 4) = true := rfl
    have d4 : decide ((2 : Int) < (([a, b, c, d] : List Tapi_Element).length : Int)) = true := rfl
    have s1 : sliceI [a, b, c, d] (none.getD 0) ((some 2).getD (([a, b, c, d] : List Tapi_Element).length : Int)) = some [a, b] := rfl
    have s2 : sliceI [a, b, c, d] ((some 3).getD 0) (none.getD (([a, b, c, d] : List Tapi_Element).length : Int)) = some [d] := rfl
    have s3 : sliceI [a, b, c, d] ((some 2).getD 0) ((some 3).getD (([a, b, c, d] : List Tapi_Element).length : Int)) = some [c] := rfl
    have f2 : getI [a, b, c, d] 2 = some c := rfl
    simp only [d1, d2, d3, d4, s1, s2, s3, f2, orO_some, Bool.false_or, Option.bind_some, cond_false, cond_true, plain2 a b ha hb, plain1 c hc, plain1 d hd]
    rw [flaw_bind]
    cases h1 : one1 a with
    | none => exact ⟨_, rfl, rfl⟩
    | some k =>
    cases h2 : one1 b with
    | none => exact ⟨_, rfl, rfl⟩
    | some g =>
    have n1 := num_p k (one_short ha h1).1
    have n2 := num_p g (one_short hb h2).1
    have g0 : getI [k, g] 0 = some k := rfl
    have g1 : getI [k, g] 1 = some g := rfl
    simp only [Bool.not_true, cond_false, g0, g1, n1, n2, Option.bind_some, orO_some]
    cases hk : numOk k with
    | false => exact ⟨_, rfl, rfl⟩
    | true =>
    cases hg : numOk g with
    | false => exact ⟨_, rfl, rfl⟩
    | true =>
    have hm : (mapO oneP [c, d]).bind (flawR (numV k) (numV g)) = (one1 d).bind fun n => if n = [] then none else if oneP c = some [[]] then some ⟨numV k, numV g, ⟨0, 0, 0⟩, n⟩ else ((oneP c).bind spotO).map fun s => ⟨numV k, numV g, s, n⟩ := by
      unfold one1
      simp only [mapO]
      cases oneP c with
      | none =>
        cases oneP d with
        | none => rfl
        | some q => simp only [Option.bind_some, Option.bind_none]; cases tx1 q <;> simp
      | some p =>
      cases oneP d with
      | none => rfl
      | some q =>
        simp only [Option.bind_some, flawR]
        cases tx1 q with
        | none => rfl
        | some n => simp only [Option.bind_some, Option.some.injEq]
    simp only [if_true, Bool.not_true, Bool.or_self, cond_false, Option.bind_some, and_self, hm]
    cases h3 : one1 d with
    | none => exact ⟨_, rfl, rfl⟩
    | some n =>
    have g3 : getI [n] 0 = some n := rfl
    simp only [g3, Bool.not_true, orO_some, Bool.false_or, Option.bind_some]
    by_cases hn : n = []
    · simp only [hn, decide_true, cond_true, if_true]
      exact ⟨_, rfl, rfl⟩
    simp only [hn, decide_false, cond_false, if_false]
    obtain ⟨z, hz, hz2⟩ := p_spotOf c hc
    by_cases hc0 : oneP c = some [[]]
    · have : one1 c = some [] := by unfold one1; rw [hc0]; rfl
      have g4 : getI [([] : Txt)] 0 = some [] := rfl
      simp only [hc0, this, if_true, g4, Option.bind_some, decide_true, andO_some, Bool.and_self, cond_true]
      exact ⟨_, rfl, rfl⟩
    · have : (andO (match one1 c with | some t => ([t], true) | none => ([], false)).snd ((getI (match one1 c with | some t => ([t], true) | none => ([], false)).fst 0).bind fun e => some (decide (e = [])))) = some false := by
        cases h4 : one1 c with
        | none => rfl
        | some t =>
          have g4 : getI [t] 0 = some t := rfl
          have : t ≠ [] := fun e => hc0 (by rw [(one_short hc h4).2, e])
          simp only [g4, Option.bind_some, decide_eq_false this, andO_some, Bool.true_and]
      simp only [this, hc0, if_false, Option.bind_some, cond_false, hz]
      refine ⟨_, rfl, ?_⟩
      revert hz2
      cases (oneP c).bind spotO with
      | none => intro h; exact h
      | some s => intro h; rw [h]; rfl
end Go.Proofs.YtcbdpjgejbcpgaaGreatDoor

/-
  Plain laws of replies: flaws, by the reference.
-/
namespace Go.Proofs.YtcbdpjgejbcpgaaGreatDoor
set_option linter.unusedSimpArgs false
set_option linter.unusedVariables false
open Go.RowKit

theorem spotO_good {a b d : Txt} (h1 : numOk a = true) (h2 : numOk b = true) (h3 : numOk d = true) (h4 : ¬ (numV a = 0 ∧ numV b = 0 ∧ numV d = 0)) : spotO [a, b, d] = some ⟨numV a, numV b, numV d⟩ := by
  unfold spotO
  dsimp only
  rw [if_pos ⟨h1, h2, h3, h4⟩]
end Go.Proofs.YtcbdpjgejbcpgaaGreatDoor

/-
  Plain laws of replies: what a list of segments is read as.
-/
namespace Go.Proofs.YtcbdpjgejbcpgaaGreatDoor
set_option linter.unusedSimpArgs false
set_option linter.unusedVariables false
open Go.RowKit

/-- The last of a list is changed. -/
def lastO {α : Type} (l : List α) (f : α → Option α) : Option (List α) := match l.getLast? with
  | some a => (f a).map fun b => l.dropLast ++ [b]
  | none => none
theorem lastO_nil {α : Type} (f : α → Option α) : lastO [] f = none := rfl
theorem lastO_snoc {α : Type} (l : List α) (a : α) (f : α → Option α) : lastO (l ++ [a]) f = (f a).map fun b => l ++ [b] := by
  unfold lastO
  simp
theorem snoc_cases {α : Type} (l : List α) : l = [] ∨ ∃ p a, l = p ++ [a] := by
  rcases List.eq_nil_or_concat l with h | ⟨p, a, h⟩
  · exact .inl h
  · exact .inr ⟨p, a, by rw [h, List.concat_eq_append]⟩
theorem set_snoc {α : Type} (l : List α) (a b : α) (h : l.length < 9223372036854775807) : (l ++ [a]).set (IntKind.i64.wrap (((l ++ [a]).length : Int) - 1)).toNat b = l ++ [b] := by
  rw [(getI_last l a h).2]
  simp
abbrev Sg := Tapi_Segment
def zR : Rp := ⟨[], 0, []⟩
noncomputable def rpPut (r : Rp) (f : Mr → Option Mr) : Option Rp := (lastO r.fGroups fun g => (lastO g.fMessages f).map fun ms => ⟨g.fRef, g.fVerdict, ms⟩).map fun gs => ⟨r.fRef, r.fVerdict, gs⟩
noncomputable def stepI (s : Sg) : Option Rp := if s.fTag = [65, 75, 73] then (headF false s.fElements).map fun h => ⟨h.1, h.2.1, []⟩ else none
noncomputable def stepG (r : Rp) (s : Sg) : Option Rp := (headF false s.fElements).map fun h => ⟨r.fRef, r.fVerdict, r.fGroups ++ [⟨h.1, h.2.1, []⟩]⟩
noncomputable def stepM (r : Rp) (s : Sg) : Option Rp := (headF true s.fElements).bind fun h => (lastO r.fGroups fun g => some ⟨g.fRef, g.fVerdict, g.fMessages ++ [⟨h.1, h.2.1, h.2.2, [], []⟩]⟩).map fun gs => ⟨r.fRef, r.fVerdict, gs⟩
noncomputable def stepF (r : Rp) (s : Sg) : Option Rp := ((mapO oneP s.fElements).bind flawL).bind fun f => rpPut r fun m => if m.fFailing = [] then some ⟨m.fRef, m.fVerdict, m.fUnknown, m.fFlaws ++ [f], m.fFailing⟩ else none
noncomputable def stepL (r : Rp) (s : Sg) : Option Rp := match mapO one1 s.fElements with
  | some [t] => rpPut r fun m => some ⟨m.fRef, m.fVerdict, m.fUnknown, m.fFlaws, m.fFailing ++ [t]⟩
  | _ => none
/-- One segment. -/
noncomputable def stepR (first : Bool) (r : Rp) (s : Sg) : Option Rp :=
  if first = true then stepI s
  else if s.fTag = [65, 75, 71] then stepG r s
  else if s.fTag = [65, 75, 77] then stepM r s
  else if s.fTag = [65, 75, 70] then stepF r s
  else if s.fTag = [65, 75, 82] then stepL r s
  else none
/-- All segments; or the number of the wrong one. -/
noncomputable def runR : List Sg → Bool → Rp → Nat → Rp ⊕ Nat
  | [], _, r, _ => .inl r
  | s :: l, b, r, i => match stepR b r s with
    | some r' => runR l false r' (i + 1)
    | none => .inr i
noncomputable def readF (l : List Sg) : Rp × Int × Int := if segsF l = 0 then (match runR l true zR 0 with
  | .inr i => (zR, (i : Int), 10)
  | .inl r => if l = [] then (zR, 0, 10) else if rpF r = 0 then (r, 0, 0) else (zR, 0, rpF r)) else (zR, 0, segsF l)
/-- How long the parts of a reply are. -/
def RpLe (n : Nat) (r : Rp) : Prop := r.fGroups.length ≤ n ∧ ∀ g ∈ r.fGroups, g.fMessages.length ≤ n ∧ ∀ m ∈ g.fMessages, m.fFlaws.length ≤ n ∧ m.fFailing.length ≤ n
theorem lastO_some {α : Type} {l : List α} {f : α → Option α} {l' : List α} (h : lastO l f = some l') : ∃ p a b, l = p ++ [a] ∧ f a = some b ∧ l' = p ++ [b] := by
  rcases snoc_cases l with rfl | ⟨p, a, rfl⟩
  · rw [lastO_nil] at h; cases h
  · rw [lastO_snoc] at h
    obtain ⟨b, hb, h⟩ := Option.map_eq_some_iff.1 h
    exact ⟨p, a, b, rfl, hb, h.symm⟩
theorem rpPut_some {r r' : Rp} {f : Mr → Option Mr} (h : rpPut r f = some r') : ∃ gp gR gV mp m m', r.fGroups = gp ++ [⟨gR, gV, mp ++ [m]⟩] ∧ f m = some m' ∧ r' = ⟨r.fRef, r.fVerdict, gp ++ [⟨gR, gV, mp ++ [m']⟩]⟩ := by
  unfold rpPut at h
  obtain ⟨gs, hgs, h⟩ := Option.map_eq_some_iff.1 h
  obtain ⟨gp, g, g', h1, h2, rfl⟩ := lastO_some hgs
  obtain ⟨ms, hms, h3⟩ := Option.map_eq_some_iff.1 h2
  obtain ⟨mp, m, m', h4, h5, rfl⟩ := lastO_some hms
  refine ⟨gp, g.fRef, g.fVerdict, mp, m, m', ?_, h5, ?_⟩
  · rw [h1, ← h4]
  · rw [← h, ← h3]
theorem rpPut_snoc (r : Rp) (gp : List Gr) (gR : Txt) (gV : Int) (mp : List Mr) (m : Mr) (f : Mr → Option Mr) (h : r.fGroups = gp ++ [⟨gR, gV, mp ++ [m]⟩]) : rpPut r f = (f m).map fun m' => ⟨r.fRef, r.fVerdict, gp ++ [⟨gR, gV, mp ++ [m']⟩]⟩ := by
  unfold rpPut
  rw [h, lastO_snoc]
  simp only [lastO_snoc]
  cases f m <;> rfl
theorem RpLe.put {n : Nat} {r r' : Rp} {f : Mr → Option Mr} (h : RpLe n r) (hp : rpPut r f = some r') (hf : ∀ m m', f m = some m' → m'.fFlaws.length ≤ m.fFlaws.length + 1 ∧ m'.fFailing.length ≤ m.fFailing.length + 1) : RpLe (n + 1) r' := by
  obtain ⟨gp, gR, gV, mp, m, m', h1, h2, rfl⟩ := rpPut_some hp
  have h3 := hf m m' h2
  obtain ⟨h4, h5⟩ := h
  rw [h1] at h4 h5
  refine ⟨by simp at h4 ⊢; omega, fun g hg => ?_⟩
  rcases List.mem_append.1 hg with hg | hg
  · obtain ⟨h6, h7⟩ := h5 g (List.mem_append_left _ hg)
    exact ⟨by omega, fun x hx => ⟨by have := (h7 x hx).1; omega, by have := (h7 x hx).2; omega⟩⟩
  · rw [List.mem_singleton] at hg
    subst hg
    obtain ⟨h6, h7⟩ := h5 ⟨gR, gV, mp ++ [m]⟩ (by simp)
    simp only [List.length_append, List.length_singleton] at h6 ⊢
    refine ⟨by omega, fun x hx => ?_⟩
    simp only at hx h7
    rcases List.mem_append.1 hx with hx | hx
    · have := h7 x (List.mem_append_left _ hx); omega
    · rw [List.mem_singleton] at hx
      subst hx
      have := h7 m (by simp); omega
theorem RpLe.step {n : Nat} {r r' : Rp} {s : Sg} {b : Bool} (h : RpLe n r) (hs : stepR b r s = some r') : RpLe (n + 1) r' := by
  unfold stepR at hs
  split at hs
  · unfold stepI at hs
    split at hs
    · obtain ⟨q, _, rfl⟩ := Option.map_eq_some_iff.1 hs
      exact ⟨by simp, by simp⟩
    · cases hs
  split at hs
  · unfold stepG at hs
    obtain ⟨q, _, rfl⟩ := Option.map_eq_some_iff.1 hs
    refine ⟨by have := h.1; simp; omega, fun g hg => ?_⟩
    rcases List.mem_append.1 hg with hg | hg
    · obtain ⟨h6, h7⟩ := h.2 g hg
      exact ⟨by omega, fun x hx => ⟨by have := (h7 x hx).1; omega, by have := (h7 x hx).2; omega⟩⟩
    · rw [List.mem_singleton] at hg
      subst hg
      exact ⟨by simp, by simp⟩
  split at hs
  · unfold stepM at hs
    obtain ⟨q, _, hs⟩ := Option.bind_eq_some_iff.1 hs
    obtain ⟨gs, hgs, rfl⟩ := Option.map_eq_some_iff.1 hs
    obtain ⟨gp, g0, g', h1, h2, rfl⟩ := lastO_some hgs
    cases h2
    obtain ⟨h4, h5⟩ := h
    rw [h1] at h4 h5
    refine ⟨by simp at h4 ⊢; omega, fun g hg => ?_⟩
    rcases List.mem_append.1 hg with hg | hg
    · obtain ⟨h6, h7⟩ := h5 g (List.mem_append_left _ hg)
      exact ⟨by omega, fun x hx => ⟨by have := (h7 x hx).1; omega, by have := (h7 x hx).2; omega⟩⟩
    · rw [List.mem_singleton] at hg
      subst hg
      obtain ⟨h6, h7⟩ := h5 g0 (by simp)
      refine ⟨by simp; omega, fun x hx => ?_⟩
      rcases List.mem_append.1 hx with hx | hx
      · have := h7 x hx; omega
      · rw [List.mem_singleton] at hx
        subst hx; simp
  split at hs
  · unfold stepF at hs
    obtain ⟨q, _, hs⟩ := Option.bind_eq_some_iff.1 hs
    refine h.put hs fun m m' hm => ?_
    split at hm
    · cases hm; simp
    · cases hm
  split at hs
  · unfold stepL at hs
    split at hs
    · refine h.put hs fun m m' hm => ?_
      cases hm; simp
    · cases hs
  · cases hs
/-- Whether the last message has a failing rule. -/
def FailsB (b : Bool) (r : Rp) : Prop := ∀ gp gR gV mp m, r.fGroups = gp ++ [⟨gR, gV, mp ++ [m]⟩] → b = !decide (m.fFailing = [])
theorem snoc_inj {α : Type} {p q : List α} {a b : α} (h : p ++ [a] = q ++ [b]) : p = q ∧ a = b := by
  have := List.append_inj' h rfl
  exact ⟨this.1, by simpa using this.2⟩
end Go.Proofs.YtcbdpjgejbcpgaaGreatDoor



