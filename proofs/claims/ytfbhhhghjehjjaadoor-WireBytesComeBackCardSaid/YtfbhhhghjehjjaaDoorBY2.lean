/-
  Texts of mine, one behind the other (SYG6, SYRow, SYGW, SYPL, SYQ1, SYQ2, SYQ3, SYPM, SYQ4, SYQ5, SYQ6, SYCU1, SYCU2, SYCU3, SYGC, SYCU4, SYCU5, SYCU6, SYCK, SYNX, SYGR, SYKS, SYQ7, SYQ8, SYCU7).
-/
import Derived.Test.YtfbhhhghjehjjaaDoorBY1
import Derived.Test.YtfbhhhghjehjjaaDoorSYEngZz
import Derived.Test.YtfbhhhghjehjjaaDoorProg
import Derived.KernelRfl
import Derived.Test.YtfbhhhghjehjjaaDoorSYEngRk
import Derived.Test.YtfbhhhghjehjjaaDoorSYEngRm
import Derived.Test.YtfbhhhghjehjjaaDoorSYEngRj
import Derived.Test.YtfbhhhghjehjjaaDoorCards
import Derived.Test.YtfbhhhghjehjjaaDoorTie
import Derived.Test.YtfbhhhghjehjjaaDoorSYEngRn
import Derived.Test.YtfbhhhghjehjjaaDoorSYEngR
import Derived.Test.YtfbhhhghjehjjaaDoorSYEngX
import Derived.Lib.IndexAny
/-
  Bodies of functions and what they compute, printed by programs of mine (wip/tool/gen.py, sc.py) out of the translation; the kernel holds each against the translation.
-/
namespace Go.Proofs.YtfbhhhghjehjjaaDoor
open Go.RowKit
set_option linter.unusedSimpArgs false
set_option linter.unusedVariables false
structure Tapi_Spot where
  fElement : Int
  fRepeat : Int
  fPart : Int
  deriving DecidableEq
def rTapi_Spot (x : Tapi_Spot) : List DV := [.int .i64 x.fElement, .int .i64 x.fRepeat, .int .i64 x.fPart]
attribute [push_cast] rTapi_Spot
theorem cT_Tapi_Spot {d0 d1 d2 : SV} {v0 : Int} {v1 : Int} {v2 : Int} (h0 : svle d0 (.d (.int .i64 v0))) (h1 : svle d1 (.d (.int .i64 v1))) (h2 : svle d2 (.d (.int .i64 v2))) : cellsle [d0, d1, d2] (dR (rTapi_Spot ⟨v0, v1, v2⟩)) := by have h := (cellsle.append (cellsle.consS h0 cellsle.nil) (cellsle.append (cellsle.consS h1 cellsle.nil) (cellsle.consS h2 cellsle.nil))); simpa only [rTapi_Spot, dR, List.map_append, List.map_cons, List.map_nil, List.cons_append, List.nil_append, List.append_assoc, List.append_nil] using h
structure Twire_place where
  fsegment : Int
  fat : Tapi_Spot
  ffrom : Int
  fto : Int
  deriving DecidableEq
def rTwire_place (x : Twire_place) : List DV := [.int .i64 x.fsegment] ++ rTapi_Spot x.fat ++ [.int .i64 x.ffrom, .int .i64 x.fto]
attribute [push_cast] rTwire_place
theorem cT_Twire_place {d0 d1 d2 d3 d4 d5 : SV} {v0 : Int} {v1 : Tapi_Spot} {v2 : Int} {v3 : Int} (h0 : svle d0 (.d (.int .i64 v0))) (h1 : cellsle [d1, d2, d3] (dR (rTapi_Spot v1))) (h2 : svle d4 (.d (.int .i64 v2))) (h3 : svle d5 (.d (.int .i64 v3))) : cellsle [d0, d1, d2, d3, d4, d5] (dR (rTwire_place ⟨v0, v1, v2, v3⟩)) := by have h := (cellsle.append (cellsle.consS h0 cellsle.nil) (cellsle.append h1 (cellsle.append (cellsle.consS h2 cellsle.nil) (cellsle.consS h3 cellsle.nil)))); simpa only [rTwire_place, dR, List.map_append, List.map_cons, List.map_nil, List.cons_append, List.nil_append, List.append_assoc, List.append_nil] using h

structure Twire_writer where
  fm : Tapi_Marks
  flines : Bool
  fb : List UInt8
  fplaces : List Twire_place
  fstarts : List Int
  fbad : Bool
  deriving DecidableEq
def rTwire_writer (x : Twire_writer) : List DV := rTapi_Marks x.fm ++ [.bool x.flines, .slice (List.map rowY x.fb), .slice (List.map rTwire_place x.fplaces), .slice (List.map rowI x.fstarts), .bool x.fbad]
attribute [push_cast] rTwire_writer
theorem fT_Twire_writer {d0 d1 d2 d3 d4 d5 d6 d7 d8 d9 : DV} {v0 : Tapi_Marks} {v1 : Bool} {v2 : List UInt8} {v3 : List Twire_place} {v4 : List Int} {v5 : Bool} (h0 : [d0, d1, d2, d3, d4] = rTapi_Marks v0) (h1 : d5 = .bool v1) (h2 : d6 = .slice (List.map rowY v2)) (h3 : d7 = .slice (List.map rTwire_place v3)) (h4 : d8 = .slice (List.map rowI v4)) (h5 : d9 = .bool v5) : [d0, d1, d2, d3, d4, d5, d6, d7, d8, d9] = rTwire_writer ⟨v0, v1, v2, v3, v4, v5⟩ := by unfold rTwire_writer; simp only [← h0, h1, h2, h3, h4, h5, List.cons_append, List.nil_append, List.append_assoc, List.append_nil]
theorem oT_Twire_writer {d0 d1 d2 d3 d4 d5 d6 d7 d8 d9 : SV} {v0 : Tapi_Marks} {v1 : Bool} {v2 : List UInt8} {v3 : List Twire_place} {v4 : List Int} {v5 : Bool} {m2 : List Mask} {m3 : List Mask} {m4 : List Mask} (h0 : cellsle [d0, d1, d2, d3, d4] (dR (rTapi_Marks v0))) (h1 : svle d5 (.d (.bool v1))) (h2 : cle d6 (.own (.sl 5 m2) (.slice (List.map rowY v2)))) (h3 : cle d7 (.own (.sl 86 m3) (.slice (List.map rTwire_place v3)))) (h4 : cle d8 (.own (.sl 3 m4) (.slice (List.map rowI v4)))) (h5 : svle d9 (.d (.bool v5))) : cellsle [d0, d1, d2, d3, d4, d5, d6, d7, d8, d9] (ownR [.sh, .sh, .sh, .sh, .sh, .sh, .sl 5 m2, .sl 86 m3, .sl 3 m4, .sh] (rTwire_writer ⟨v0, v1, v2, v3, v4, v5⟩)) := by have h := (cellsle.append h0 (cellsle.append (cellsle.consS h1 cellsle.nil) (cellsle.append (cellsle.cons h2 cellsle.nil) (cellsle.append (cellsle.cons h3 cellsle.nil) (cellsle.append (cellsle.cons h4 cellsle.nil) (cellsle.consS h5 cellsle.nil)))))); simp only [push_cast, seval, dR] at h ⊢; exact h
def bT_Twire_writer (p0 : Tapi_Marks) (p1 : Bool) (p2 : Nat) (p3 : Nat) (p4 : Nat) (p5 : Bool) : List SV := dR (rTapi_Marks p0) ++ ([.d (.bool p1)] ++ ([.vec p2] ++ ([.vec p3] ++ ([.vec p4] ++ ([.d (.bool p5)])))))
attribute [push_cast] bT_Twire_writer
def sc_interchangeref2_SameTexts_L1 : SC :=
  (.seq (.seq (.reg [.r 11 (.mv (.t 5)),
     .r 12 (.mv (.t 0)),
     .r 13 (.len (.t 12)),
     .r 14 (.bin .lss (.t 11) (.t 13))])
  (.cond (.t 14)
    .skip
    (.exit 0)))
  (.seq (.block 1 (.seq (.regD [.r 17 (.mv (.t 0)),
       .r 18 (.mv (.t 5)),
       .r 19 (.idx 1 (.t 17) (.t 18)),
       .r 20 (.ld1 (.t 19)),
       .r 21 (.mv (.t 1)),
       .r 22 (.mv (.t 5)),
       .r 23 (.idx 1 (.t 21) (.t 22)),
       .r 24 (.ld1 (.t 23)),
       .r 25 (.bin .neq (.t 20) (.t 24))])
    (.cond (.t 25)
      (.seq (.reg [.r 4 (.mv (.c (.d (.bool false))))])
      .ret)
      .skip)))
  (.reg [.r 15 (.mv (.t 5)),
     .r 16 (.bin .add (.t 15) (.c (.d (.int .i64 1)))),
     .r 5 (.mv (.t 16))])))
def sc_interchangeref2_SameTexts_B1 : SC := .block 0 (.loop sc_interchangeref2_SameTexts_L1)
/-- interchange/interchangeref2.SameTexts -/
def sc_interchangeref2_SameTexts : SC :=
  (.seq (.reg [.r 4 (.mv (.c (.d (.bool false))))])
  (.seq (.seq (.reg [.r 6 (.mv (.t 0)),
     .r 7 (.len (.t 6)),
     .r 8 (.mv (.t 1)),
     .r 9 (.len (.t 8)),
     .r 10 (.bin .neq (.t 7) (.t 9))])
  (.cond (.t 10)
    (.seq (.reg [.r 4 (.mv (.c (.d (.bool false))))])
    .ret)
    .skip))
  (.seq (.seq (.reg [.r 5 (.mv (.c (.d (.int .i64 0))))])
  sc_interchangeref2_SameTexts_B1)
  (.seq (.reg [.r 4 (.mv (.c (.d (.bool true))))])
  .ret))))
theorem fit_interchangeref2_SameTexts : fits Tryd.prog 26 Tryd.f26 sc_interchangeref2_SameTexts [.t 4] 2 = true := by kernel_rfl

/-- interchange/interchangelaw2.awake -/
def sc_interchangelaw2_awake : SC :=
  (.seq (.reg [.r 0 (.mv (.c (.d (.bool false))))])
  (.seq (.reg [.r 4 (.build [.d (.int .u8 0), .d (.int .u8 0), .d (.int .u8 0), .d (.int .u8 0), .d (.int .u8 0)] [(0, 1, .c (.d (.int .u8 42))), (1, 1, .c (.d (.int .u8 58))), (2, 1, .c (.d (.int .u8 94))), (3, 1, .c (.d (.int .u8 63))), (4, 1, .c (.d (.int .u8 126)))]),
     .c 5 (.f 16) [.t 4],
     .r 3 (.mv (.t 5)),
     .r 6 (.ext (.t 3) 0),
     .r 7 (.ext (.t 3) 1),
     .r 1 (.mv (.t 6)),
     .r 2 (.mv (.t 7))])
  (.seq (.reg (.r 8 (.mv (.t 2)) :: .r 9 (.bin .eql (.t 8) (.c (.d (.int .i64 0)))) :: .r 10 (.mv (.t 9)) :: gapp [11, 12, 13] 10 true (.r 11 (.mv (.t 1)) :: .r 12 (.cvbs (.t 11)) :: .r 13 (.bin .eql (.t 12) (.c (.d (.str [77, 82, 75, 42, 58, 94, 63, 126])))) :: []) (.r 14 (.pick (.t 10) (.t 13) (.c (.d (.bool false)))) :: .r 0 (.mv (.t 14)) :: [])))
  .ret)))
theorem fit_interchangelaw2_awake : fits Tryd.prog 8 Tryd.f8 sc_interchangelaw2_awake [.t 0] 0 = true := by kernel_rfl

/-- interchange/wire.checkBoth -/
def sc_wire_checkBoth : SC :=
  (.seq (.reg [.r 3 (.boxI (.t 1)),
     .r 4 (.mv (.c (.d (.int .i64 0))))])
  (.seq (.seq (.reg [.r 6 (.mv (.t 0)),
     .c 7 (.f 21) [.t 6],
     .r 5 (.mv (.t 7))])
  (.seq (.reg [.r 8 (.mv (.t 5)),
     .r 9 (.bin .neq (.t 8) (.c (.d (.int .i64 0))))])
  (.cond (.t 9)
    (.seq (.reg [.r 10 (.mv (.t 5)),
       .r 4 (.mv (.t 10))])
    .ret)
    .skip)))
  (.seq (.reg [.o 11 (.ldA 5 (.t 3)),
     .c 12 (.f 11) [.t 11],
     .r 4 (.mv (.t 12))])
  .ret)))
theorem fit_wire_checkBoth : fits Tryd.prog 27 Tryd.f27 sc_wire_checkBoth [.t 4] 2 = true := by kernel_rfl

def sc_wire_needed_L1 : SC :=
  (.seq (.reg [.r 10 (.bin .lss (.t 9) (.t 8))])
  (.seq (.cond (.t 10)
    .skip
    (.exit 0))
  (.seq (.block 1 (.seq (.reg [.r 11 (.mv (.t 9)),
       .r 6 (.mv (.t 11))])
    (.seq (.regD [.r 12 (.ldA 5 (.t 2)),
       .r 13 (.mv (.t 1)),
       .r 14 (.mv (.t 6)),
       .r 15 (.sidx (.t 13) (.t 14)),
       .c 16 (.f 45) [.t 12, .t 15]])
    (.cond (.t 16)
      (.reg [.r 17 (.mv (.t 5)),
         .r 18 (.bin .add (.t 17) (.c (.d (.int .i64 1)))),
         .r 5 (.mv (.t 18))])
      .skip))))
  (.reg [.r 19 (.bin .add (.t 9) (.c (.d (.int .i64 1)))),
     .r 9 (.mv (.t 19))]))))
def sc_wire_needed_B1 : SC := .block 0 (.loop sc_wire_needed_L1)
/-- interchange/wire.needed -/
def sc_wire_needed : SC :=
  (.seq (.reg [.r 2 (.boxI (.t 0)),
     .r 4 (.mv (.c (.d (.int .i64 0))))])
  (.seq (.reg [.r 5 (.mv (.c (.d (.int .i64 0))))])
  (.seq (.seq (.reg [.r 7 (.mv (.t 1)),
     .r 8 (.lenT (.t 7)),
     .r 9 (.mv (.c (.d (.int .i64 0))))])
  sc_wire_needed_B1)
  (.seq (.reg [.r 20 (.mv (.t 5)),
     .r 4 (.mv (.t 20))])
  .ret))))
theorem fit_wire_needed : fits Tryd.prog 31 Tryd.f31 sc_wire_needed [.t 4] 2 = true := by kernel_rfl

def sc_slices_IndexFunc_string_string_L1 : SC :=
  (.seq (.reg [.r 9 (.bin .lss (.t 8) (.t 7))])
  (.seq (.cond (.t 9)
    .skip
    (.exit 0))
  (.seq (.block 1 (.seq (.reg [.r 10 (.mv (.t 8)),
       .r 5 (.mv (.t 10))])
    (.seq (.reg [.r 11 (.mv (.t 1)),
       .r 12 (.mv (.t 0)),
       .r 13 (.mv (.t 5)),
       .r 14 (.idx 1 (.t 12) (.t 13)),
       .o 15 (.ld1 (.t 14)),
       .c 16 (.t 11) [.t 15]])
    (.cond (.t 16)
      (.seq (.reg [.r 17 (.mv (.t 5)),
         .r 4 (.mv (.t 17))])
      .ret)
      .skip))))
  (.reg [.r 18 (.bin .add (.t 8) (.c (.d (.int .i64 1)))),
     .r 8 (.mv (.t 18))]))))
def sc_slices_IndexFunc_string_string_B1 : SC := .block 0 (.loop sc_slices_IndexFunc_string_string_L1)
/-- slices.IndexFunc[[]string,string] -/
def sc_slices_IndexFunc_string_string : SC :=
  (.seq (.reg [.r 4 (.mv (.c (.d (.int .i64 0))))])
  (.seq (.seq (.reg [.r 6 (.mv (.t 0)),
     .r 7 (.len (.t 6)),
     .r 8 (.mv (.c (.d (.int .i64 0))))])
  sc_slices_IndexFunc_string_string_B1)
  (.seq (.reg [.r 4 (.mv (.c (.d (.int .i64 (-1)))))])
  .ret)))
theorem fit_slices_IndexFunc_string_string : fits Tryd.prog 44 Tryd.f44 sc_slices_IndexFunc_string_string [.t 4] 2 = true := by kernel_rfl

/-- bytes.Equal -/
def sc_bytes_Equal : SC :=
  (.seq (.reg [.r 4 (.mv (.c (.d (.bool false))))])
  (.seq (.reg [.r 5 (.mv (.t 0)),
     .r 6 (.cvbs (.t 5)),
     .r 7 (.mv (.t 1)),
     .r 8 (.cvbs (.t 7)),
     .r 9 (.bin .eql (.t 6) (.t 8)),
     .r 4 (.mv (.t 9))])
  .ret))
theorem fit_bytes_Equal : fits Tryd.prog 10 Tryd.f10 sc_bytes_Equal [.t 4] 2 = true := by kernel_rfl

set_option maxRecDepth 100000 in
set_option maxHeartbeats 40000000 in
noncomputable def sims_G6_0_0 : (∀ (x0 : List (List UInt8)) (x1 : List (List UInt8)), {m : Option (Bool) // ∀ r, m = some r → PureSpec Tryd.prog 26 [.slice (List.map rowS x0), .slice (List.map rowS x1)] (.bool r)}) × ({m : Option (Bool) // ∀ r, m = some r → PureSpec Tryd.prog 8 [] (.bool r)}) × (∀ (x0 : List Tapi_Segment) (x1 : Tapi_Marks), {m : Option (Int) // ∀ r, m = some r → PureSpec Tryd.prog 27 [.slice (List.map rTapi_Segment x0), .agg (rTapi_Marks x1)] (.int .i64 r)}) × (∀ (x0 : Tapi_Marks) (x1 : List UInt8), {m : Option (Int) // ∀ r, m = some r → PureSpec Tryd.prog 31 [.agg (rTapi_Marks x0), .str x1] (.int .i64 r)}) × (∀ (x0 : List (List UInt8)) (f1 : FuncId) (c1 : List DV) (p1 : (List UInt8) → Option (Bool)) (h1 : ∀ a0 r, p1 a0 = some r → PureSpec Tryd.prog f1 ([.str a0] ++ c1) (.bool r)), {m : Option (Int) // ∀ r, m = some r → PureSpec Tryd.prog 44 [.slice (List.map rowS x0), .fn f1 c1] (.int .i64 r)}) × (∀ (x0 : List UInt8) (x1 : List UInt8), {m : Option (Bool) // ∀ r, m = some r → PureSpec Tryd.prog 10 [.slice (List.map rowY x0), .slice (List.map rowY x1)] (.bool r)}) := by
  refine ⟨?g0, ?g1, ?g2, ?g3, ?g4, ?g5⟩
  case' g0 => (intro x0 x1; apply Subtype.mk; intro r hm; apply pure_walk Tryd.func26 fit_interchangeref2_SameTexts; unfold sc_interchangeref2_SameTexts)
  case' g1 => (apply Subtype.mk; intro r hm; apply pure_walk Tryd.func8 fit_interchangelaw2_awake; unfold sc_interchangelaw2_awake)
  case' g2 => (intro x0 x1; apply Subtype.mk; intro r hm; apply pure_walk Tryd.func27 fit_wire_checkBoth; unfold sc_wire_checkBoth)
  case' g3 => (intro x0 x1; apply Subtype.mk; intro r hm; apply pure_walk Tryd.func31 fit_wire_needed; unfold sc_wire_needed)
  case' g4 => (intro x0 f1 c1 p1 h1; apply Subtype.mk; intro r hm; apply pure_walk Tryd.func44 fit_slices_IndexFunc_string_string; unfold sc_slices_IndexFunc_string_string)
  case' g5 => (intro x0 x1; apply Subtype.mk; intro r hm; apply pure_walk Tryd.func10 fit_bytes_Equal; unfold sc_bytes_Equal)
  all_goals (repeat' (first | with_reducible refine W_seq ?_ | with_reducible refine W_reg ?_ | with_reducible refine W_regD ?_ | with_reducible refine W_block ?_ | with_reducible refine W_skip ?_ | with_reducible refine W_ret ?_ | with_reducible refine W_exit ?_ | with_reducible refine O_nil ?_ | with_reducible refine K_seq ?_ | with_reducible refine K_seqE ?_ | with_reducible refine K_seqR ?_ | with_reducible refine K_block ?_ | with_reducible refine K_blockR ?_ | with_reducible refine O_o2r ?_ | ((with_reducible apply O_idxr hm); (iterate 2 (simp only [push_cast, seval]; rfl)); (intro _; rfl); intro e hm) | ((with_reducible apply O_sidxr hm); (iterate 2 (simp only [push_cast, seval]; rfl)); intro e hm) | ((with_reducible apply O_cvbsD); (simp only [push_cast, seval]; rfl)) | ((with_reducible apply O_r); (simp only [push_cast, seval]; rfl); (first | exact trivial)) | ((with_reducible apply O_and hm); (simp only [push_cast, seval]; rfl); rfl; intro v hm; rotate_left; intro v g hm) | ((with_reducible apply O_cF hm); (simp only [push_cast, seval]; rfl); (first | apply spec_wire_Heading _ | apply spec_wire_CheckSegments _ | apply spec_wire_CheckMarks _ | apply spec_wire_isMark _ _); (any_goals ((repeat' (first | rfl | (with_reducible first | apply fT_Tapi_Marks | apply f_agg | apply f_cons) | (with_reducible apply f_byte; decide))); done)); intro x hm) | ((with_reducible apply O_cvS hm); (iterate 2 (simp only [push_cast, seval]; rfl)); (focus (first | exact h1 _)); intro x hm) | ((with_reducible apply S_condB hm); (simp only [push_cast, seval]; rfl); intro hm; rotate_left; intro hm) | ((with_reducible apply K_endS hm); (focus (simp only [resOf, resL, RV.get, push_cast, seval]; rfl)); (focus ((repeat' (first | rfl)); done))) | ((with_reducible apply K_bool hm); (simp only [push_cast, seval]; rfl)) | ((with_reducible apply K_leave hm); intro r hm) | ((with_reducible apply K_leaveR hm); intro r hm) | ((apply S_loopY (b := 0) (X := sc_interchangeref2_SameTexts_B1) (x := sc_interchangeref2_SameTexts_L1) rfl (fun (c : SV × SV) (s : Int) => st [(0, c.1), (1, c.2), (5, .d (.int .i64 s))] []) (c := (_, _)) (s0 := _) hm); (focus (first | (dsimp only; done))); (with_reducible refine Then.mk ?_ ?_)) | ((apply S_loopY (b := 0) (X := sc_wire_needed_B1) (x := sc_wire_needed_L1) rfl (fun (c : SV × SV × SV) (s : Int × Int) => st [(1, c.1), (2, c.2.1), (5, .d (.int .i64 s.1)), (8, c.2.2), (9, .d (.int .i64 s.2))] []) (c := (_, _, _)) (s0 := (_, _)) hm); (focus (first | (dsimp only; done))); (with_reducible refine Then.mk ?_ ?_)) | ((apply S_loopY (b := 0) (X := sc_slices_IndexFunc_string_string_B1) (x := sc_slices_IndexFunc_string_string_L1) rfl (fun (c : SV × SV × SV) (s : Int) => st [(0, c.1), (1, c.2.1), (7, c.2.2), (8, .d (.int .i64 s))] []) (c := (_, _, _)) (s0 := _) hm); (focus (first | (dsimp only; done))); (with_reducible refine Then.mk ?_ ?_)) | ((apply K_next (s' := (_, _)) hm); (focus (first | (dsimp only; done)))) | ((apply K_brk (s' := (_, _)) hm); (focus (first | (dsimp only; done)))) | ((apply K_next (s' := _) hm); (focus (first | (dsimp only; done)))) | ((apply K_brk (s' := _) hm); (focus (first | (dsimp only; done)))) | (((with_reducible apply K_brkR hm); intro r hm)) | (((with_reducible apply LoopB.of); (focus (first | (dsimp only; done))); (focus ((intro _; repeat' (first | with_reducible exact impC_end | with_reducible refine impC_seq ?_)))); (intro s o hm; first | unfold sc_interchangeref2_SameTexts_L1 | unfold sc_wire_needed_L1 | unfold sc_slices_IndexFunc_string_string_L1); rotate_left; intro s hm)) | (((apply imp_stT; (repeat' (first | with_reducible exact keepT_nil | with_reducible exact keepC_nil | with_reducible apply keepT_cons | ((with_reducible apply svle_eq); (focus (first | (simp only [push_cast, seval]; rfl))); (focus ((repeat' (first | rfl)); done))))); done)))))
noncomputable def m_interchangeref2_SameTexts (x0 : List (List UInt8)) (x1 : List (List UInt8)) : Option (Bool) := (sims_G6_0_0.1 x0 x1).1
theorem spec_interchangeref2_SameTexts (x0 : List (List UInt8)) (x1 : List (List UInt8)) : ∀ r, m_interchangeref2_SameTexts x0 x1 = some r → PureSpec Tryd.prog 26 [.slice (List.map rowS x0), .slice (List.map rowS x1)] (.bool r) := (sims_G6_0_0.1 x0 x1).2
noncomputable def m_interchangelaw2_awake : Option (Bool) := (sims_G6_0_0.2.1 ).1
theorem spec_interchangelaw2_awake : ∀ r, m_interchangelaw2_awake  = some r → PureSpec Tryd.prog 8 [] (.bool r) := (sims_G6_0_0.2.1 ).2
noncomputable def m_wire_checkBoth (x0 : List Tapi_Segment) (x1 : Tapi_Marks) : Option (Int) := (sims_G6_0_0.2.2.1 x0 x1).1
theorem spec_wire_checkBoth (x0 : List Tapi_Segment) (x1 : Tapi_Marks) : ∀ r, m_wire_checkBoth x0 x1 = some r → PureSpec Tryd.prog 27 [.slice (List.map rTapi_Segment x0), .agg (rTapi_Marks x1)] (.int .i64 r) := (sims_G6_0_0.2.2.1 x0 x1).2
noncomputable def m_wire_needed (x0 : Tapi_Marks) (x1 : List UInt8) : Option (Int) := (sims_G6_0_0.2.2.2.1 x0 x1).1
theorem spec_wire_needed (x0 : Tapi_Marks) (x1 : List UInt8) : ∀ r, m_wire_needed x0 x1 = some r → PureSpec Tryd.prog 31 [.agg (rTapi_Marks x0), .str x1] (.int .i64 r) := (sims_G6_0_0.2.2.2.1 x0 x1).2
noncomputable def m_slices_IndexFunc_string_string (x0 : List (List UInt8)) (f1 : FuncId) (c1 : List DV) (p1 : (List UInt8) → Option (Bool)) (h1 : ∀ a0 r, p1 a0 = some r → PureSpec Tryd.prog f1 ([.str a0] ++ c1) (.bool r)) : Option (Int) := (sims_G6_0_0.2.2.2.2.1 x0 f1 c1 p1 h1).1
theorem spec_slices_IndexFunc_string_string (x0 : List (List UInt8)) (f1 : FuncId) (c1 : List DV) (p1 : (List UInt8) → Option (Bool)) (h1 : ∀ a0 r, p1 a0 = some r → PureSpec Tryd.prog f1 ([.str a0] ++ c1) (.bool r)) : ∀ r, m_slices_IndexFunc_string_string x0 f1 c1 p1 h1 = some r → PureSpec Tryd.prog 44 [.slice (List.map rowS x0), .fn f1 c1] (.int .i64 r) := (sims_G6_0_0.2.2.2.2.1 x0 f1 c1 p1 h1).2
noncomputable def m_bytes_Equal (x0 : List UInt8) (x1 : List UInt8) : Option (Bool) := (sims_G6_0_0.2.2.2.2.2 x0 x1).1
theorem spec_bytes_Equal (x0 : List UInt8) (x1 : List UInt8) : ∀ r, m_bytes_Equal x0 x1 = some r → PureSpec Tryd.prog 10 [.slice (List.map rowY x0), .slice (List.map rowY x1)] (.bool r) := (sims_G6_0_0.2.2.2.2.2 x0 x1).2

def sc_wire_cut_L1 : SC :=
  (.seq (.seq (.reg [.r 13 (.mv (.t 7)),
     .r 14 (.nilc (.t 13)),
     .r 15 (.fld 6 (.t 14)),
     .o 16 (.ld1 (.t 15)),
     .r 17 (.mv (.t 0)),
     .r 18 (.len (.t 17)),
     .r 19 (.bin .lss (.t 16) (.t 18))])
  (.cond (.t 19)
    .skip
    (.exit 0)))
  (.block 1 (.seq (.reg [.r 20 (.mv (.t 7)),
       .p (some 21) (.f 20) [.t 20],
       .r 22 (.not (.t 21))])
    (.cond (.t 22)
      (.seq (.regD [.r 23 (.mv (.t 7)),
         .r 24 (.nilc (.t 23)),
         .r 25 (.fld 6 (.t 24)),
         .r 26 (.ld1 (.t 25)),
         .r 4 (.mv (.c (.d (.raw (.pointer none))))),
         .r 5 (.mv (.t 26)),
         .r 6 (.mv (.c (.d (.int .i64 10))))])
      .ret)
      .skip))))
def sc_wire_cut_B1 : SC := .block 0 (.loop sc_wire_cut_L1)
def sc_wire_cut_R5 : SC := (.reg [.r 27 (.mv (.t 7)),
     .r 28 (.nilc (.t 27)),
     .r 29 (.fld 7 (.t 28)),
     .o 30 (.ld1 (.t 29)),
     .c 31 (.f 21) [.t 30],
     .r 8 (.mv (.t 31))])
/-- interchange/wire.cut -/
def sc_wire_cut : SC :=
  (.seq (.reg [.r 3 (.boxI (.t 1)),
     .r 4 (.mv (.c (.d (.raw (.pointer none))))),
     .r 5 (.mv (.c (.d (.int .i64 0)))),
     .r 6 (.mv (.c (.d (.int .i64 0))))])
  (.seq (.reg [.o 9 (.ldA 5 (.t 3)),
     .r 10 (.mv (.t 0)),
     .r 11 (.build [.d (.int .u8 0), .d (.int .u8 0), .d (.int .u8 0), .d (.int .u8 0), .d (.int .u8 0), .nils, .d (.int .i64 0), .nils, .nils, .d (.bool false)] [(0, 5, .t 9), (5, 1, .t 10)]),
     .w 12 (.boxM (.t 11)),
     .r 7 (.mv (.t 12))])
  (.seq sc_wire_cut_B1
  (.seq (.seq sc_wire_cut_R5
  (.seq (.reg [.r 32 (.mv (.t 8)),
     .r 33 (.bin .neq (.t 32) (.c (.d (.int .i64 0))))])
  (.cond (.t 33)
    (.seq (.reg [.r 34 (.mv (.t 8)),
       .r 4 (.mv (.c (.d (.raw (.pointer none))))),
       .r 5 (.mv (.c (.d (.int .i64 0)))),
       .r 6 (.mv (.t 34))])
    .ret)
    .skip)))
  (.seq (.reg [.r 35 (.mv (.t 7)),
     .r 4 (.mv (.t 35)),
     .r 5 (.mv (.c (.d (.int .i64 0)))),
     .r 6 (.mv (.c (.d (.int .i64 0))))])
  .ret)))))
theorem fit_wire_cut : fits Tryd.prog 12 Tryd.f12 sc_wire_cut [.t 4, .t 5, .t 6] 2 = true := by kernel_rfl

set_option maxRecDepth 100000 in
set_option maxHeartbeats 40000000 in
noncomputable def sims_G6_0_1 : (∀ (x0 : List UInt8) (x1 : Tapi_Marks), {m : Option ((Option Twire_cutter) × Int × Int) // ∀ r, m = some r → PureSpec Tryd.prog 12 [.slice (List.map rowY x0), .agg (rTapi_Marks x1)] (.tup [(optP rTwire_cutter r.1), .int .i64 r.2.1, .int .i64 r.2.2])}) := by
  (intro x0 x1; apply Subtype.mk; intro r hm; apply pure_walk Tryd.func12 fit_wire_cut; unfold sc_wire_cut)
  repeat' (first | ((with_reducible apply W_openBs (id := 12) (cid := 1391) (off := 7) (n := 2) (e := 46)); (focus (simp only [push_cast, seval]; (try rfl); done)); (focus (simp only [push_cast, seval]; (try rfl); done)); (focus decide); (focus rfl); (focus (intro _; rfl)); (focus (simp only [push_cast, seval]; (try rfl); done))) | ((with_reducible apply W_nilB (id := 12) (cid := 1391) (off := 7) (n := 2) (e := 46)); (focus (simp only [push_cast, seval]; (try rfl); done)); (focus (simp only [push_cast, seval]; (try rfl); done)); (focus decide); (focus (simp only [push_cast, seval]; (try rfl); done))) | ((with_reducible apply W_openBs (id := 12) (cid := 1392) (off := 8) (n := 1) (e := 3)); (focus (simp only [push_cast, seval]; (try rfl); done)); (focus (simp only [push_cast, seval]; (try rfl); done)); (focus decide); (focus rfl); (focus (intro _; rfl)); (focus (simp only [push_cast, seval]; (try rfl); done))) | ((with_reducible apply W_nilB (id := 12) (cid := 1392) (off := 8) (n := 1) (e := 3)); (focus (simp only [push_cast, seval]; (try rfl); done)); (focus (simp only [push_cast, seval]; (try rfl); done)); (focus decide); (focus (simp only [push_cast, seval]; (try rfl); done))) | ((apply W_frz (x := sc_wire_cut_R5) (id := 1391)); (focus (simp only [push_cast, seval]; (try rfl); done)); (focus (simp only [push_cast, seval]; (try rfl); done)); unfold sc_wire_cut_R5) | with_reducible refine W_seq ?_ | with_reducible refine W_reg ?_ | with_reducible refine W_regD ?_ | with_reducible refine W_block ?_ | with_reducible refine W_skip ?_ | with_reducible refine W_ret ?_ | with_reducible refine W_exit ?_ | with_reducible refine O_nil ?_ | with_reducible refine K_seq ?_ | with_reducible refine K_seqE ?_ | with_reducible refine K_seqR ?_ | with_reducible refine K_block ?_ | with_reducible refine K_blockR ?_ | with_reducible refine O_o2r ?_ | ((with_reducible apply O_r); (simp only [push_cast, seval]; rfl); (first | exact trivial)) | ((with_reducible apply O_cF hm); (simp only [push_cast, seval]; rfl); (first | apply spec_wire_CheckSegments _); (any_goals ((repeat' (first | rfl)); done)); intro x hm) | ((with_reducible apply O_w); (simp only [push_cast, seval]; rfl); (first | exact trivial)) | ((with_reducible apply S_condB hm); (simp only [push_cast, seval]; rfl); intro hm; rotate_left; intro hm) | ((with_reducible apply K_end3 hm); (focus (simp only [resOf, resL, RV.get, push_cast, seval]; rfl)); (focus (first | (dsimp only; done))); (focus ((repeat' (first | rfl | (with_reducible first | apply fT_Twire_cutter | apply f_optN | apply f_optS | apply f_tup | apply f_cons))); done))) | ((with_reducible apply K_leave hm); intro r hm) | ((with_reducible apply K_leaveR hm); intro r hm) | ((apply S_loopY (b := 0) (X := sc_wire_cut_B1) (x := sc_wire_cut_L1) rfl (fun (c : SV) (s : Tapi_Marks × (List UInt8) × Int × (List Tapi_Segment) × (List Int) × Bool) => st [(0, c), (7, .ref 12 0)] [(1391, .vec 46 2 (vrow rTapi_Segment s.2.2.2.1)), (1392, .vec 3 1 (vrow rowI s.2.2.2.2.1)), (12, .box (bT_Twire_cutter s.1 s.2.1 s.2.2.1 1391 1392 s.2.2.2.2.2))]) (c := _) (s0 := (_, _, _, _, _, _)) hm); (focus (first | (dsimp only; done))); (with_reducible refine Then.mk ?_ ?_)) | ((apply K_next (s' := (_, _, _, _, _, _)) hm); (focus (first | (dsimp only; done)))) | ((apply K_brk (s' := (_, _, _, _, _, _)) hm); (focus (first | (dsimp only; done)))) | (((with_reducible apply K_brkR hm); intro r hm)) | (((with_reducible apply O_pM hm (id := 12) (ms := [.sh, .sh, .sh, .sh, .sh, .sh, .sh, .sl 46 (List.replicate 2 .sh), .sl 3 (List.replicate 1 .sh), .sh])); (focus ((try ((apply Imp.trans); (focus ((apply imp_closeBs (id := 12) (cid := 1391) (off := 7) (n := 2) (e := 46)); (focus (simp only [push_cast, seval]; (try rfl); done)); (focus (simp only [push_cast, seval]; (try rfl); done)); (focus decide); (focus (simp only [push_cast, seval]; (try rfl); done)); (focus ((repeat' (first | (with_reducible first | apply r_rfl))); done)); (focus (intro _; rfl)); (focus (simp only [push_cast, seval]; (try rfl); done)))))); (try ((apply Imp.trans); (focus ((apply imp_closeBs (id := 12) (cid := 1392) (off := 8) (n := 1) (e := 3)); (focus (simp only [push_cast, seval]; (try rfl); done)); (focus (simp only [push_cast, seval]; (try rfl); done)); (focus decide); (focus (simp only [push_cast, seval]; (try rfl); done)); (focus ((repeat' (first | (with_reducible first | apply r_rfl))); done)); (focus (intro _; rfl)); (focus (simp only [push_cast, seval]; (try rfl); done)))))); exact Imp.refl _)); (focus (simp only [push_cast, seval]; (try rfl); done)); (focus (simp only [push_cast, seval]; (try rfl); done)); (focus (simp only [push_cast, seval]; (try rfl); done)); (focus ((repeat' (first | (with_reducible first | apply oT_Twire_cutter | apply cT_Tapi_Marks) | ((with_reducible apply svle_eq); (focus (first | rfl)); (focus ((repeat' (first | rfl)); done))) | ((with_reducible apply cle_own); (focus rfl); (focus ((repeat' (first | rfl)); done))))); done)); (focus rfl); (first | apply spec_interchange_wire_cutter_segment _); (any_goals (focus ((repeat' (first | rfl)); done))); (focus (intro _; exact ⟨rfl, rfl, rfl⟩)); intro y hm)) | (((with_reducible apply LoopB.of); (focus (first | (dsimp only; done))); (focus ((intro _; repeat' (first | with_reducible exact impC_end | with_reducible refine impC_seq ?_)))); (intro s o hm; first | unfold sc_wire_cut_L1); rotate_left; intro s hm)) | (((apply imp_stT; (repeat' (first | with_reducible exact keepT_nil | with_reducible exact keepC_nil | with_reducible apply keepT_cons | with_reducible apply keepC_cons | ((with_reducible apply svle_eq); (focus (first | (simp only [push_cast, seval]; rfl))); (focus ((repeat' (first | rfl)); done))) | ((with_reducible apply chle_eq); (focus (first | (simp only [push_cast, seval]; rfl))); (first | with_reducible exact chle_rfl rfl | with_reducible apply chle_vec)) | (with_reducible first | apply r_nil))); done))))
noncomputable def m_wire_cut (x0 : List UInt8) (x1 : Tapi_Marks) : Option ((Option Twire_cutter) × Int × Int) := (sims_G6_0_1 x0 x1).1
theorem spec_wire_cut (x0 : List UInt8) (x1 : Tapi_Marks) : ∀ r, m_wire_cut x0 x1 = some r → PureSpec Tryd.prog 12 [.slice (List.map rowY x0), .agg (rTapi_Marks x1)] (.tup [(optP rTwire_cutter r.1), .int .i64 r.2.1, .int .i64 r.2.2]) := (sims_G6_0_1 x0 x1).2

def sc_interchangeref2_cut_L1 : SC :=
  (.seq (.seq (.reg (.r 16 (.mv (.t 8)) :: .r 17 (.nilc (.t 16)) :: .r 18 (.fld 7 (.t 17)) :: .o 19 (.ld1 (.t 18)) :: .r 20 (.bin .lss (.t 19) (.c (.d (.int .i64 0)))) :: .r 21 (.mv (.t 20)) :: gapp [22, 23, 24, 25, 26, 27, 28] 21 true (.r 22 (.mv (.t 8)) :: .r 23 (.nilc (.t 22)) :: .r 24 (.fld 6 (.t 23)) :: .r 25 (.ld1 (.t 24)) :: .r 26 (.mv (.t 0)) :: .r 27 (.len (.t 26)) :: .r 28 (.bin .lss (.t 25) (.t 27)) :: []) (.r 29 (.pick (.t 21) (.t 28) (.c (.d (.bool false)))) :: [])))
  (.cond (.t 29)
    .skip
    (.exit 0)))
  (.block 1 (.seq (.reg [.r 30 (.mv (.t 9)),
       .r 31 (.mv (.t 8)),
       .p (some 32) (.f 23) [.t 31],
       .r 33 (.bslice 2 [.t 32]),
       .w 34 (.app 46 2 (.t 30) (.t 33)),
       .r 9 (.mv (.t 34))])
    (.seq (.seq (.reg [.r 35 (.mv (.t 8)),
       .r 36 (.nilc (.t 35)),
       .r 37 (.fld 7 (.t 36)),
       .o 38 (.ld1 (.t 37)),
       .r 39 (.bin .geq (.t 38) (.c (.d (.int .i64 0))))])
    (.cond (.t 39)
      (.exit 0)
      .skip))
    (.seq (.reg (.r 40 (.mv (.t 8)) :: .r 41 (.nilc (.t 40)) :: .r 42 (.fld 6 (.t 41)) :: .o 43 (.ld1 (.t 42)) :: .r 44 (.mv (.t 0)) :: .r 45 (.len (.t 44)) :: .r 46 (.bin .lss (.t 43) (.t 45)) :: .r 47 (.mv (.t 46)) :: gapp [48, 49, 50, 51, 52, 53, 54, 55] 47 true (.r 48 (.mv (.t 0)) :: .r 49 (.mv (.t 8)) :: .r 50 (.nilc (.t 49)) :: .r 51 (.fld 6 (.t 50)) :: .r 52 (.ld1 (.t 51)) :: .r 53 (.idx 1 (.t 48) (.t 52)) :: .r 54 (.ld1 (.t 53)) :: .r 55 (.bin .eql (.t 54) (.c (.d (.int .u8 10)))) :: []) (.r 56 (.pick (.t 47) (.t 55) (.c (.d (.bool false)))) :: .r 10 (.mv (.t 56)) :: [])))
    (.seq (.seq (.reg [.r 57 (.mv (.t 9)),
       .r 58 (.len (.t 57)),
       .r 59 (.bin .eql (.t 58) (.c (.d (.int .i64 1))))])
    (.cond (.t 59)
      (.reg [.r 60 (.mv (.t 8)),
         .r 61 (.mv (.t 10)),
         .r 62 (.nilc (.t 60)),
         .r 63 (.fld 8 (.t 62)),
         .w 0 (.st 1 (.t 63) (.t 61))])
      (.seq (.reg [.r 64 (.mv (.t 8)),
         .r 65 (.nilc (.t 64)),
         .r 66 (.fld 8 (.t 65)),
         .o 67 (.ld1 (.t 66)),
         .r 68 (.mv (.t 10)),
         .r 69 (.binB .neq (.t 67) (.t 68))])
      (.cond (.t 69)
        (.seq (.reg [.r 70 (.mv (.t 8)),
           .r 71 (.mv (.t 8)),
           .r 72 (.nilc (.t 71)),
           .r 73 (.fld 6 (.t 72)),
           .o 74 (.ld1 (.t 73)),
           .p (some 75) (.f 24) [.t 70, .t 74]])
        (.exit 0))
        .skip))))
    (.seq (.reg [.r 76 (.mv (.t 10))])
    (.cond (.t 76)
      (.reg [.r 77 (.mv (.t 8)),
         .r 78 (.nilc (.t 77)),
         .r 79 (.fld 6 (.t 78)),
         .o 80 (.ld1 (.t 79)),
         .r 81 (.bin .add (.t 80) (.c (.d (.int .i64 1)))),
         .r 82 (.nilc (.t 77)),
         .r 83 (.fld 6 (.t 82)),
         .w 0 (.st 1 (.t 83) (.t 81))])
      .skip))))))))
def sc_interchangeref2_cut_B1 : SC := .block 0 (.loop sc_interchangeref2_cut_L1)
/-- interchange/interchangeref2.cut -/
def sc_interchangeref2_cut : SC :=
  (.seq (.reg [.r 3 (.boxI (.t 1)),
     .r 4 (.mv (.c (.nils))),
     .r 5 (.mv (.c (.d (.bool false)))),
     .r 6 (.mv (.c (.d (.int .i64 0)))),
     .r 7 (.mv (.c (.d (.int .i64 0))))])
  (.seq (.reg [.r 12 (.mv (.t 0)),
     .o 13 (.ldA 5 (.t 3)),
     .r 14 (.build [.nils, .d (.int .u8 0), .d (.int .u8 0), .d (.int .u8 0), .d (.int .u8 0), .d (.int .u8 0), .d (.int .i64 0), .d (.int .i64 0), .d (.bool false)] [(0, 1, .t 12), (1, 5, .t 13), (7, 1, .c (.d (.int .i64 (-1))))]),
     .w 15 (.boxM (.t 14)),
     .r 8 (.mv (.t 15))])
  (.seq (.reg [.r 9 (.mv (.c (.nils)))])
  (.seq sc_interchangeref2_cut_B1
  (.seq (.seq (.reg [.r 84 (.mv (.t 8)),
     .r 85 (.nilc (.t 84)),
     .r 86 (.fld 7 (.t 85)),
     .o 87 (.ld1 (.t 86)),
     .r 88 (.bin .geq (.t 87) (.c (.d (.int .i64 0))))])
  (.cond (.t 88)
    (.seq (.regD [.r 89 (.mv (.t 8)),
       .r 90 (.nilc (.t 89)),
       .r 91 (.fld 7 (.t 90)),
       .r 92 (.ld1 (.t 91)),
       .r 4 (.mv (.c (.nils))),
       .r 5 (.mv (.c (.d (.bool false)))),
       .r 6 (.mv (.t 92)),
       .r 7 (.mv (.c (.d (.int .i64 10))))])
    .ret)
    .skip))
  (.seq (.seq (.reg [.r 93 (.mv (.t 9)),
     .c 94 (.f 25) [.t 93],
     .r 11 (.mv (.t 94))])
  (.seq (.reg [.r 95 (.mv (.t 11)),
     .r 96 (.bin .neq (.t 95) (.c (.d (.int .i64 0))))])
  (.cond (.t 96)
    (.seq (.reg [.r 97 (.mv (.t 11)),
       .r 4 (.mv (.c (.nils))),
       .r 5 (.mv (.c (.d (.bool false)))),
       .r 6 (.mv (.c (.d (.int .i64 0)))),
       .r 7 (.mv (.t 97))])
    .ret)
    .skip)))
  (.seq (.regD [.r 98 (.mv (.t 9)),
     .r 99 (.mv (.t 8)),
     .r 100 (.nilc (.t 99)),
     .r 101 (.fld 8 (.t 100)),
     .r 102 (.ld1 (.t 101)),
     .r 4 (.mv (.t 98)),
     .r 5 (.mv (.t 102)),
     .r 6 (.mv (.c (.d (.int .i64 0)))),
     .r 7 (.mv (.c (.d (.int .i64 0))))])
  .ret)))))))
theorem fit_interchangeref2_cut : fits Tryd.prog 14 Tryd.f14 sc_interchangeref2_cut [.t 4, .t 5, .t 6, .t 7] 2 = true := by kernel_rfl

set_option maxRecDepth 100000 in
set_option maxHeartbeats 40000000 in
noncomputable def sims_G6_0_2 : (∀ (x0 : List UInt8) (x1 : Tapi_Marks), {m : Option ((List Tapi_Segment) × Bool × Int × Int) // ∀ r, m = some r → PureSpec Tryd.prog 14 [.slice (List.map rowY x0), .agg (rTapi_Marks x1)] (.tup [.slice (List.map rTapi_Segment r.1), .bool r.2.1, .int .i64 r.2.2.1, .int .i64 r.2.2.2])}) := by
  (intro x0 x1; apply Subtype.mk; intro r hm; apply pure_walk Tryd.func14 fit_interchangeref2_cut; unfold sc_interchangeref2_cut)
  repeat' (first | with_reducible refine W_seq ?_ | with_reducible refine W_reg ?_ | with_reducible refine W_regD ?_ | with_reducible refine W_block ?_ | with_reducible refine W_skip ?_ | with_reducible refine W_ret ?_ | with_reducible refine W_exit ?_ | with_reducible refine O_nil ?_ | with_reducible refine K_seq ?_ | with_reducible refine K_seqE ?_ | with_reducible refine K_seqR ?_ | with_reducible refine K_block ?_ | ((with_reducible apply K_blockN); decide) | with_reducible refine O_o2r ?_ | ((with_reducible apply O_idxr hm); (iterate 2 (simp only [push_cast, seval]; rfl)); (intro _; rfl); intro e hm) | ((with_reducible apply O_r); (simp only [push_cast, seval]; rfl); (first | exact trivial)) | ((with_reducible apply O_and hm); (simp only [push_cast, seval]; rfl); rfl; intro v hm; rotate_left; intro v g hm) | ((with_reducible apply O_clS hm); (simp only [push_cast, seval]; rfl); (focus (first | exact spec_interchangeref2_CheckSegments _)); (intro _; rfl); intro x hm) | ((with_reducible apply O_w); (simp only [push_cast, seval]; rfl); (first | exact trivial)) | ((with_reducible apply O_appV hm); (iterate 4 (simp only [push_cast, seval]; rfl)); (focus ((repeat' (first | rfl | (with_reducible first | apply dv_slice | apply fold_nil | apply fold_cons))); done)); decide; (intro _; rfl); intro hm) | ((with_reducible apply S_condB hm); (simp only [push_cast, seval]; rfl); intro hm; rotate_left; intro hm) | ((with_reducible apply K_end4 hm); (focus (simp only [resOf, resL, RV.get, push_cast, seval]; rfl)); (focus (first | (dsimp only; done))); (focus ((repeat' (first | rfl | (with_reducible first | apply f_tup | apply dv_slice | apply f_cons | apply fold_nil))); done))) | ((with_reducible apply K_bool hm); (simp only [push_cast, seval]; rfl)) | ((with_reducible apply K_leave hm); intro r hm) | ((apply S_loopY (b := 0) (X := sc_interchangeref2_cut_B1) (x := sc_interchangeref2_cut_L1) rfl (fun (c : SV) (s : (List UInt8) × Tapi_Marks × Int × Int × Bool × (List Tapi_Segment)) => st [(0, c), (8, .ref 15 0), (9, .vec 9)] [(15, .box (bT_Tinterchangeref2_cutter s.1 s.2.1 s.2.2.1 s.2.2.2.1 s.2.2.2.2.1)), (9, .vec 46 2 (vrow rTapi_Segment s.2.2.2.2.2))]) (c := _) (s0 := (_, _, _, _, _, _)) hm); (focus (first | (dsimp only; done))); (with_reducible refine Then.mk ?_ ?_); apply Imp.trans; (focus (apply imp_vecnil (slot := 9) (id := 9) (e := 46) (sz := 2); (focus (simp only [push_cast, seval]; done))))) | ((apply K_next (s' := (_, _, _, _, _, _)) hm); (focus (first | (dsimp only; done)))) | ((apply K_brk (s' := (_, _, _, _, _, _)) hm); (focus (first | (dsimp only; done)))) | (((with_reducible apply O_pM hm (id := 15) (ms := [.sh, .sh, .sh, .sh, .sh, .sh, .sh, .sh, .sh])); (focus (exact Imp.refl _)); (focus (simp only [push_cast, seval]; (try rfl); done)); (focus (simp only [push_cast, seval]; (try rfl); done)); (focus (simp only [push_cast, seval]; (try rfl); done)); (focus ((repeat' (first | (with_reducible first | apply oT_Tinterchangeref2_cutter | apply cT_Tapi_Marks) | ((with_reducible apply svle_eq); (focus (first | rfl)); (focus ((repeat' (first | rfl)); done))))); done)); (focus rfl); (first | apply spec_interchange_interchangeref2_cutter_segment _ | apply spec_interchange_interchangeref2_cutter_stop _ _); (any_goals (focus ((repeat' (first | rfl)); done))); (focus (intro _; exact ⟨rfl, rfl, rfl⟩)); intro y hm)) | (((with_reducible apply LoopB.of); (focus (first | (dsimp only; done))); (focus ((intro _; repeat' (first | with_reducible exact impC_end | with_reducible refine impC_seq ?_)))); (intro s o hm; first | unfold sc_interchangeref2_cut_L1); rotate_left; intro s hm)) | (((apply imp_stT; (repeat' (first | with_reducible exact keepT_nil | with_reducible exact keepC_nil | with_reducible apply keepT_cons | with_reducible apply keepC_cons | ((with_reducible apply svle_eq); (focus (first | (simp only [push_cast, seval]; rfl))); (focus ((repeat' (first | rfl)); done))) | ((with_reducible apply chle_eq); (focus (first | (simp only [push_cast, seval]; rfl))); (first | with_reducible exact chle_rfl rfl | with_reducible apply chle_vec)) | (with_reducible first | apply r_nil))); done))))
noncomputable def m_interchangeref2_cut (x0 : List UInt8) (x1 : Tapi_Marks) : Option ((List Tapi_Segment) × Bool × Int × Int) := (sims_G6_0_2 x0 x1).1
theorem spec_interchangeref2_cut (x0 : List UInt8) (x1 : Tapi_Marks) : ∀ r, m_interchangeref2_cut x0 x1 = some r → PureSpec Tryd.prog 14 [.slice (List.map rowY x0), .agg (rTapi_Marks x1)] (.tup [.slice (List.map rTapi_Segment r.1), .bool r.2.1, .int .i64 r.2.2.1, .int .i64 r.2.2.2]) := (sims_G6_0_2 x0 x1).2

def sc_interchange_wire_writer_text_L1 : SC :=
  (.seq (.reg [.r 8 (.bin .lss (.t 7) (.t 6))])
  (.seq (.cond (.t 8)
    .skip
    (.exit 0))
  (.seq (.block 1 (.seq (.reg [.r 9 (.mv (.t 7)),
       .r 4 (.mv (.t 9))])
    (.seq (.seq (.regD [.r 10 (.mv (.t 0)),
       .r 11 (.nilc (.t 10)),
       .r 12 (.fld 0 (.t 11)),
       .r 13 (.ldA 5 (.t 12)),
       .r 14 (.mv (.t 1)),
       .r 15 (.mv (.t 4)),
       .r 16 (.sidx (.t 14) (.t 15)),
       .c 17 (.f 45) [.t 13, .t 16]])
    (.cond (.t 17)
      (.seq (.reg (.r 18 (.mv (.t 0)) :: .r 19 (.mv (.t 0)) :: .r 20 (.nilc (.t 19)) :: .r 21 (.fld 9 (.t 20)) :: .o 22 (.ld1 (.t 21)) :: .r 23 (.mv (.t 22)) :: gapp [24, 25, 26, 27, 28, 29] 23 false (.r 24 (.mv (.t 0)) :: .r 25 (.nilc (.t 24)) :: .r 26 (.fld 0 (.t 25)) :: .r 27 (.fld 3 (.t 26)) :: .r 28 (.ld1 (.t 27)) :: .r 29 (.bin .eql (.t 28) (.c (.d (.int .u8 0)))) :: []) (.r 30 (.pick (.t 23) (.c (.d (.bool true))) (.t 29)) :: .r 31 (.nilc (.t 18)) :: .r 32 (.fld 9 (.t 31)) :: .w 0 (.st 1 (.t 32) (.t 30)) :: [])))
      (.regE [.r 33 (.mv (.t 0)),
         .r 34 (.mv (.t 0)),
         .r 35 (.nilc (.t 34)),
         .r 36 (.fld 6 (.t 35)),
         .r 37 (.ld1 (.t 36)),
         .r 38 (.mv (.t 0)),
         .r 39 (.nilc (.t 38)),
         .r 40 (.fld 0 (.t 39)),
         .r 41 (.fld 3 (.t 40)),
         .r 42 (.ld1 (.t 41)),
         .r 43 (.bslice 1 [.t 42]),
         .x 44 (.app 5 1 (.t 37) (.t 43)) [(0, 33, .mv (.t 0))],
         .r 45 (.nilc (.t 33)),
         .r 46 (.fld 6 (.t 45)),
         .x 0 (.st 1 (.t 46) (.t 44)) []]))
      .skip))
    (.regE [.r 47 (.mv (.t 0)),
       .r 48 (.mv (.t 0)),
       .r 49 (.nilc (.t 48)),
       .r 50 (.fld 6 (.t 49)),
       .r 51 (.ld1 (.t 50)),
       .r 52 (.mv (.t 1)),
       .r 53 (.mv (.t 4)),
       .r 54 (.sidx (.t 52) (.t 53)),
       .r 55 (.bslice 1 [.t 54]),
       .x 56 (.app 5 1 (.t 51) (.t 55)) [(0, 47, .mv (.t 0))],
       .r 57 (.nilc (.t 47)),
       .r 58 (.fld 6 (.t 57)),
       .x 0 (.st 1 (.t 58) (.t 56)) []]))))
  (.reg [.r 59 (.bin .add (.t 7) (.c (.d (.int .i64 1)))),
     .r 7 (.mv (.t 59))]))))
def sc_interchange_wire_writer_text_B1 : SC := .block 0 (.loop sc_interchange_wire_writer_text_L1)
/-- (*interchange/wire.writer).text -/
def sc_interchange_wire_writer_text : SC :=
  (.seq (.reg [.r 5 (.mv (.t 1)),
     .r 6 (.lenT (.t 5)),
     .r 7 (.mv (.c (.d (.int .i64 0))))])
  sc_interchange_wire_writer_text_B1)
theorem fit_interchange_wire_writer_text : fits Tryd.prog 43 Tryd.f43 sc_interchange_wire_writer_text [] 2 = true := by kernel_rfl

set_option maxRecDepth 100000 in
set_option maxHeartbeats 40000000 in
noncomputable def sims_G6_0_3 : (∀ (x0 : Twire_writer) (x1 : List UInt8), {m : Option ((Unit) × Twire_writer) // ∀ r, m = some r → FSpec Tryd.prog 43 (.own (.pt [.sh, .sh, .sh, .sh, .sh, .sh, .sl 5 (List.replicate 1 .sh), .sl 86 (List.replicate 6 .sh), .sl 3 (List.replicate 1 .sh), .sh]) (.ptr (rTwire_writer x0)) :: List.map SV.d ([.str x1] : List DV)) (.tup []) (.own (.pt [.sh, .sh, .sh, .sh, .sh, .sh, .sl 5 (List.replicate 1 .sh), .sl 86 (List.replicate 6 .sh), .sl 3 (List.replicate 1 .sh), .sh]) (.ptr (rTwire_writer r.2)) :: List.map SV.d ([.str x1] : List DV))}) := by
  (intro x0 x1; apply Subtype.mk; intro r hm; apply fspec_walk1 (N := 60) (k := 2) Tryd.func43 fit_interchange_wire_writer_text (by kernel_rfl) rfl rfl (by decide); unfold sc_interchange_wire_writer_text)
  repeat' (first | ((with_reducible apply W_openBs (id := 0) (cid := 1006) (off := 6) (n := 1) (e := 5)); (focus (simp only [push_cast, seval]; (try rfl); done)); (focus (simp only [push_cast, seval]; (try rfl); done)); (focus decide); (focus rfl); (focus (intro _; rfl)); (focus (simp only [push_cast, seval]; (try rfl); done))) | ((with_reducible apply W_openBs (id := 0) (cid := 1007) (off := 7) (n := 6) (e := 86)); (focus (simp only [push_cast, seval]; (try rfl); done)); (focus (simp only [push_cast, seval]; (try rfl); done)); (focus decide); (focus rfl); (focus (intro _; rfl)); (focus (simp only [push_cast, seval]; (try rfl); done))) | ((with_reducible apply W_openBs (id := 0) (cid := 1008) (off := 8) (n := 1) (e := 3)); (focus (simp only [push_cast, seval]; (try rfl); done)); (focus (simp only [push_cast, seval]; (try rfl); done)); (focus decide); (focus rfl); (focus (intro _; rfl)); (focus (simp only [push_cast, seval]; (try rfl); done))) | with_reducible refine W_seq ?_ | with_reducible refine W_reg ?_ | with_reducible refine W_regD ?_ | with_reducible refine W_regE ?_ | with_reducible refine W_block ?_ | with_reducible refine W_skip ?_ | with_reducible refine W_exit ?_ | with_reducible refine O_nil ?_ | with_reducible refine K_seq ?_ | with_reducible refine K_seqE ?_ | with_reducible refine K_block ?_ | with_reducible refine O_o2r ?_ | ((with_reducible apply O_sidxr hm); (iterate 2 (simp only [push_cast, seval]; rfl)); intro e hm) | ((with_reducible apply O_r); (simp only [push_cast, seval]; rfl); (first | exact trivial)) | ((with_reducible apply O_or hm); (simp only [push_cast, seval]; rfl); rfl; intro v hm; rotate_left; intro v g hm) | ((with_reducible apply O_cF hm); (simp only [push_cast, seval]; rfl); (first | apply spec_wire_isMark _ _); (any_goals ((repeat' (first | rfl)); done)); intro x hm) | ((with_reducible apply O_w); (simp only [push_cast, seval]; rfl); (first | exact trivial)) | ((with_reducible apply O_appVX hm); (iterate 2 (simp only [push_cast, seval]; rfl)); (focus ((repeat' (first | rfl)); done)); (simp only [push_cast, seval]; rfl); (focus ((repeat' (first | rfl | (with_reducible first | apply eR_nil | apply eR_cons))); done)); (intro _; rfl); (focus ((repeat' (first | exact Rer_nil | ((with_reducible apply Rer_cons); (focus (simp only [push_cast, seval]; rfl)); (focus (first | exact trivial)); (focus (simp only [push_cast, seval]))))); done)); intro hm) | ((with_reducible apply O_x); (simp only [push_cast, seval]; rfl); (first | exact trivial); (focus ((repeat' (first | exact Rer_nil)); done))) | ((with_reducible apply S_condB hm); (simp only [push_cast, seval]; rfl); intro hm; rotate_left; intro hm) | ((with_reducible apply K_bool hm); (simp only [push_cast, seval]; rfl)) | ((with_reducible apply K_leave hm); intro r hm) | ((apply S_loopY (b := 0) (X := sc_interchange_wire_writer_text_B1) (x := sc_interchange_wire_writer_text_L1) rfl (fun (c : SV × SV × SV) (s : Tapi_Marks × Bool × (List UInt8) × (List Twire_place) × (List Int) × Bool × Int) => st [(0, .ref 0 0), (1, c.1), (6, c.2.1), (7, .d (.int .i64 s.2.2.2.2.2.2)), (60, .ref 0 0), (61, c.2.2)] [(1006, .vec 5 1 (vrow rowY s.2.2.1)), (1007, .vec 86 6 (vrow rTwire_place s.2.2.2.1)), (1008, .vec 3 1 (vrow rowI s.2.2.2.2.1)), (0, .box (bT_Twire_writer s.1 s.2.1 1006 1007 1008 s.2.2.2.2.2.1))]) (c := (_, _, _)) (s0 := (_, _, _, _, _, _, _)) hm); (focus (first | (dsimp only; done))); (with_reducible refine Then.mk ?_ ?_)) | ((apply K_next (s' := (_, _, _, _, _, _, _)) hm); (focus (first | (dsimp only; done)))) | ((apply K_brk (s' := (_, _, _, _, _, _, _)) hm); (focus (first | (dsimp only; done)))) | (((with_reducible apply K_endPN (a := ()) hm (ms := [.sh, .sh, .sh, .sh, .sh, .sh, .sl 5 (List.replicate 1 .sh), .sl 86 (List.replicate 6 .sh), .sl 3 (List.replicate 1 .sh), .sh])); (focus ((try ((apply Imp.trans); (focus ((apply imp_closeBs (id := 0) (cid := 1006) (off := 6) (n := 1) (e := 5)); (focus (simp only [push_cast, seval]; (try rfl); done)); (focus (simp only [push_cast, seval]; (try rfl); done)); (focus decide); (focus (simp only [push_cast, seval]; (try rfl); done)); (focus ((repeat' (first | (with_reducible first | apply r_rfl))); done)); (focus (intro _; rfl)); (focus (simp only [push_cast, seval]; (try rfl); done)))))); (try ((apply Imp.trans); (focus ((apply imp_closeBs (id := 0) (cid := 1007) (off := 7) (n := 6) (e := 86)); (focus (simp only [push_cast, seval]; (try rfl); done)); (focus (simp only [push_cast, seval]; (try rfl); done)); (focus decide); (focus (simp only [push_cast, seval]; (try rfl); done)); (focus ((repeat' (first | (with_reducible first | apply r_rfl))); done)); (focus (intro _; rfl)); (focus (simp only [push_cast, seval]; (try rfl); done)))))); (try ((apply Imp.trans); (focus ((apply imp_closeBs (id := 0) (cid := 1008) (off := 8) (n := 1) (e := 3)); (focus (simp only [push_cast, seval]; (try rfl); done)); (focus (simp only [push_cast, seval]; (try rfl); done)); (focus decide); (focus (simp only [push_cast, seval]; (try rfl); done)); (focus ((repeat' (first | (with_reducible first | apply r_rfl))); done)); (focus (intro _; rfl)); (focus (simp only [push_cast, seval]; (try rfl); done)))))); exact Imp.refl _)); (focus (simp only [push_cast, seval]; (try rfl); done)); (focus ((repeat' (first | (with_reducible first | apply oT_Twire_writer | apply cT_Tapi_Marks) | ((with_reducible apply svle_eq); (focus (first | rfl)); (focus ((repeat' (first | rfl)); done))) | ((with_reducible apply cle_own); (focus rfl); (focus ((repeat' (first | rfl)); done))))); done)); (focus (intro _; rfl)); (focus (simp only [push_cast, seval]; (try rfl); done)); (focus (simp only [push_cast, seval]; (try rfl); done)); (focus (simp only [push_cast, seval]; (try rfl); done)); (focus (simp only [push_cast, seval]; (try rfl); done)); (focus (first | exact he_0)))) | (((with_reducible apply LoopB.of); (focus (first | (dsimp only; done))); (focus ((intro _; repeat' (first | with_reducible exact impC_endF)))); (intro s o hm; first | unfold sc_interchange_wire_writer_text_L1); rotate_left; intro s hm)) | (((apply imp_stT; (repeat' (first | with_reducible exact keepT_nil | with_reducible exact keepC_nil | with_reducible apply keepT_cons | with_reducible apply keepC_cons | ((with_reducible apply svle_eq); (focus (first | (simp only [push_cast, seval]; rfl))); (focus ((repeat' (first | rfl)); done))) | ((with_reducible apply chle_eq); (focus (first | (simp only [push_cast, seval]; rfl))); (first | with_reducible exact chle_rfl rfl)))); done))))
noncomputable def m_interchange_wire_writer_text (x0 : Twire_writer) (x1 : List UInt8) : Option ((Unit) × Twire_writer) := (sims_G6_0_3 x0 x1).1
theorem spec_interchange_wire_writer_text (x0 : Twire_writer) (x1 : List UInt8) : ∀ r, m_interchange_wire_writer_text x0 x1 = some r → FSpec Tryd.prog 43 (.own (.pt [.sh, .sh, .sh, .sh, .sh, .sh, .sl 5 (List.replicate 1 .sh), .sl 86 (List.replicate 6 .sh), .sl 3 (List.replicate 1 .sh), .sh]) (.ptr (rTwire_writer x0)) :: List.map SV.d ([.str x1] : List DV)) (.tup []) (.own (.pt [.sh, .sh, .sh, .sh, .sh, .sh, .sl 5 (List.replicate 1 .sh), .sl 86 (List.replicate 6 .sh), .sl 3 (List.replicate 1 .sh), .sh]) (.ptr (rTwire_writer r.2)) :: List.map SV.d ([.str x1] : List DV)) := (sims_G6_0_3 x0 x1).2

/-- interchange/wire.Cut -/
def sc_wire_Cut : SC :=
  (.seq (.reg [.r 3 (.boxI (.t 1)),
     .r 4 (.mv (.c (.nils))),
     .r 5 (.mv (.c (.d (.bool false)))),
     .r 6 (.mv (.c (.d (.int .i64 0)))),
     .r 7 (.mv (.c (.d (.int .i64 0))))])
  (.seq (.seq (.reg [.o 12 (.ldA 5 (.t 3)),
     .c 13 (.f 11) [.t 12],
     .r 8 (.mv (.t 13))])
  (.seq (.reg [.r 14 (.mv (.t 8)),
     .r 15 (.bin .neq (.t 14) (.c (.d (.int .i64 0))))])
  (.cond (.t 15)
    (.seq (.reg [.r 16 (.mv (.t 8)),
       .r 4 (.mv (.c (.nils))),
       .r 5 (.mv (.c (.d (.bool false)))),
       .r 6 (.mv (.c (.d (.int .i64 0)))),
       .r 7 (.mv (.t 16))])
    .ret)
    .skip)))
  (.seq (.seq (.reg [.r 17 (.mv (.t 0)),
     .r 18 (.len (.t 17)),
     .r 19 (.bin .gtr (.t 18) (.c (.d (.int .i64 500000))))])
  (.cond (.t 19)
    (.seq (.reg [.r 4 (.mv (.c (.nils))),
       .r 5 (.mv (.c (.d (.bool false)))),
       .r 6 (.mv (.c (.d (.int .i64 0)))),
       .r 7 (.mv (.c (.d (.int .i64 2))))])
    .ret)
    .skip))
  (.seq (.reg [.r 21 (.mv (.t 0)),
     .o 22 (.ldA 5 (.t 3)),
     .c 23 (.f 12) [.t 21, .t 22],
     .r 20 (.mv (.t 23)),
     .r 24 (.ext (.t 20) 0),
     .r 25 (.ext (.t 20) 1),
     .r 26 (.ext (.t 20) 2),
     .r 9 (.mv (.t 24)),
     .r 10 (.mv (.t 25)),
     .r 11 (.mv (.t 26))])
  (.seq (.seq (.reg [.r 27 (.mv (.t 11)),
     .r 28 (.bin .neq (.t 27) (.c (.d (.int .i64 0))))])
  (.cond (.t 28)
    (.seq (.reg [.r 29 (.mv (.t 10)),
       .r 30 (.mv (.t 11)),
       .r 4 (.mv (.c (.nils))),
       .r 5 (.mv (.c (.d (.bool false)))),
       .r 6 (.mv (.t 29)),
       .r 7 (.mv (.t 30))])
    .ret)
    .skip))
  (.seq (.regD [.r 31 (.mv (.t 9)),
     .r 32 (.nilc (.t 31)),
     .r 33 (.fld 7 (.t 32)),
     .r 34 (.ld1 (.t 33)),
     .r 35 (.mv (.t 9)),
     .r 36 (.nilc (.t 35)),
     .r 37 (.fld 9 (.t 36)),
     .r 38 (.ld1 (.t 37)),
     .r 4 (.mv (.t 34)),
     .r 5 (.mv (.t 38)),
     .r 6 (.mv (.c (.d (.int .i64 0)))),
     .r 7 (.mv (.c (.d (.int .i64 0))))])
  .ret))))))
theorem fit_wire_Cut : fits Tryd.prog 5 Tryd.f5 sc_wire_Cut [.t 4, .t 5, .t 6, .t 7] 2 = true := by kernel_rfl

/-- interchange/interchangeref2.Cut -/
def sc_interchangeref2_Cut : SC :=
  (.seq (.reg [.r 3 (.boxI (.t 1)),
     .r 4 (.mv (.c (.nils))),
     .r 5 (.mv (.c (.d (.bool false)))),
     .r 6 (.mv (.c (.d (.int .i64 0)))),
     .r 7 (.mv (.c (.d (.int .i64 0))))])
  (.seq (.seq (.reg [.o 9 (.ldA 5 (.t 3)),
     .c 10 (.f 13) [.t 9],
     .r 8 (.mv (.t 10))])
  (.seq (.reg [.r 11 (.mv (.t 8)),
     .r 12 (.bin .neq (.t 11) (.c (.d (.int .i64 0))))])
  (.cond (.t 12)
    (.seq (.reg [.r 13 (.mv (.t 8)),
       .r 4 (.mv (.c (.nils))),
       .r 5 (.mv (.c (.d (.bool false)))),
       .r 6 (.mv (.c (.d (.int .i64 0)))),
       .r 7 (.mv (.t 13))])
    .ret)
    .skip)))
  (.seq (.seq (.reg [.r 14 (.mv (.t 0)),
     .r 15 (.len (.t 14)),
     .r 16 (.bin .gtr (.t 15) (.c (.d (.int .i64 500000))))])
  (.cond (.t 16)
    (.seq (.reg [.r 4 (.mv (.c (.nils))),
       .r 5 (.mv (.c (.d (.bool false)))),
       .r 6 (.mv (.c (.d (.int .i64 0)))),
       .r 7 (.mv (.c (.d (.int .i64 2))))])
    .ret)
    .skip))
  (.seq (.reg [.r 17 (.mv (.t 0)),
     .o 18 (.ldA 5 (.t 3)),
     .c 19 (.f 14) [.t 17, .t 18],
     .r 20 (.ext (.t 19) 0),
     .r 21 (.ext (.t 19) 1),
     .r 22 (.ext (.t 19) 2),
     .r 23 (.ext (.t 19) 3),
     .r 4 (.mv (.t 20)),
     .r 5 (.mv (.t 21)),
     .r 6 (.mv (.t 22)),
     .r 7 (.mv (.t 23))])
  .ret))))
theorem fit_interchangeref2_Cut : fits Tryd.prog 6 Tryd.f6 sc_interchangeref2_Cut [.t 4, .t 5, .t 6, .t 7] 2 = true := by kernel_rfl

def sc_interchangeref2_SameSegment_L1 : SC :=
  (.seq (.seq (.reg [.r 47 (.mv (.t 8)),
     .r 48 (.mv (.t 6)),
     .r 49 (.len (.t 48)),
     .r 50 (.bin .lss (.t 47) (.t 49))])
  (.cond (.t 50)
    .skip
    (.exit 2)))
  (.seq (.block 3 (.seq (.regD [.r 53 (.mv (.t 6)),
       .r 54 (.mv (.t 8)),
       .r 55 (.idx 1 (.t 53) (.t 54)),
       .r 56 (.ld1 (.t 55)),
       .r 57 (.mv (.t 7)),
       .r 58 (.mv (.t 8)),
       .r 59 (.idx 1 (.t 57) (.t 58)),
       .r 60 (.ld1 (.t 59)),
       .c 61 (.f 26) [.t 56, .t 60],
       .r 62 (.not (.t 61))])
    (.cond (.t 62)
      (.seq (.reg [.r 4 (.mv (.c (.d (.bool false))))])
      .ret)
      .skip)))
  (.reg [.r 51 (.mv (.t 8)),
     .r 52 (.bin .add (.t 51) (.c (.d (.int .i64 1)))),
     .r 8 (.mv (.t 52))])))
def sc_interchangeref2_SameSegment_B1 : SC := .block 2 (.loop sc_interchangeref2_SameSegment_L1)
def sc_interchangeref2_SameSegment_L2 : SC :=
  (.seq (.seq (.reg [.r 23 (.mv (.t 5)),
     .r 24 (.fld 1 (.t 2)),
     .o 25 (.ld1 (.t 24)),
     .r 26 (.len (.t 25)),
     .r 27 (.bin .lss (.t 23) (.t 26))])
  (.cond (.t 27)
    .skip
    (.exit 0)))
  (.seq (.block 1 (.seq (.regD [.r 30 (.fld 1 (.t 2)),
       .r 31 (.ld1 (.t 30)),
       .r 32 (.mv (.t 5)),
       .r 33 (.idx 1 (.t 31) (.t 32)),
       .r 34 (.fld 0 (.t 33)),
       .r 35 (.ld1 (.t 34)),
       .r 36 (.fld 1 (.t 3)),
       .r 37 (.ld1 (.t 36)),
       .r 38 (.mv (.t 5)),
       .r 39 (.idx 1 (.t 37) (.t 38)),
       .r 40 (.fld 0 (.t 39)),
       .r 41 (.ld1 (.t 40)),
       .r 6 (.mv (.t 35)),
       .r 7 (.mv (.t 41))])
    (.seq (.seq (.reg [.r 42 (.mv (.t 6)),
       .r 43 (.len (.t 42)),
       .r 44 (.mv (.t 7)),
       .r 45 (.len (.t 44)),
       .r 46 (.bin .neq (.t 43) (.t 45))])
    (.cond (.t 46)
      (.seq (.reg [.r 4 (.mv (.c (.d (.bool false))))])
      .ret)
      .skip))
    (.seq (.reg [.r 8 (.mv (.c (.d (.int .i64 0))))])
    sc_interchangeref2_SameSegment_B1))))
  (.reg [.r 28 (.mv (.t 5)),
     .r 29 (.bin .add (.t 28) (.c (.d (.int .i64 1)))),
     .r 5 (.mv (.t 29))])))
def sc_interchangeref2_SameSegment_B2 : SC := .block 0 (.loop sc_interchangeref2_SameSegment_L2)
/-- interchange/interchangeref2.SameSegment -/
def sc_interchangeref2_SameSegment : SC :=
  (.seq (.reg [.r 2 (.boxI (.t 0)),
     .r 3 (.boxI (.t 1)),
     .r 4 (.mv (.c (.d (.bool false))))])
  (.seq (.seq (.reg (.r 9 (.fld 0 (.t 2)) :: .o 10 (.ld1 (.t 9)) :: .r 11 (.fld 0 (.t 3)) :: .o 12 (.ld1 (.t 11)) :: .r 13 (.bin .neq (.t 10) (.t 12)) :: .r 14 (.mv (.t 13)) :: gapp [15, 16, 17, 18, 19, 20, 21] 14 false (.r 15 (.fld 1 (.t 2)) :: .r 16 (.ld1 (.t 15)) :: .r 17 (.len (.t 16)) :: .r 18 (.fld 1 (.t 3)) :: .r 19 (.ld1 (.t 18)) :: .r 20 (.len (.t 19)) :: .r 21 (.bin .neq (.t 17) (.t 20)) :: []) (.r 22 (.pick (.t 14) (.c (.d (.bool true))) (.t 21)) :: [])))
  (.cond (.t 22)
    (.seq (.reg [.r 4 (.mv (.c (.d (.bool false))))])
    .ret)
    .skip))
  (.seq (.seq (.reg [.r 5 (.mv (.c (.d (.int .i64 0))))])
  sc_interchangeref2_SameSegment_B2)
  (.seq (.reg [.r 4 (.mv (.c (.d (.bool true))))])
  .ret))))
theorem fit_interchangeref2_SameSegment : fits Tryd.prog 15 Tryd.f15 sc_interchangeref2_SameSegment [.t 4] 2 = true := by kernel_rfl

/-- interchange/wire.written$1 -/
def sc_wire_written_1 : SC :=
  (.seq (.reg [.r 3 (.mv (.c (.d (.bool false))))])
  (.seq (.reg [.o 4 (.ldA 5 (.t 1)),
     .r 5 (.mv (.t 0)),
     .c 6 (.f 31) [.t 4, .t 5],
     .r 7 (.bin .gtr (.t 6) (.c (.d (.int .i64 0)))),
     .r 3 (.mv (.t 7))])
  .ret))
theorem fit_wire_written_1 : fits Tryd.prog 30 Tryd.f30 sc_wire_written_1 [.t 3] 2 = true := by kernel_rfl

/-- slices.ContainsFunc[[]string,string] -/
def sc_slices_ContainsFunc_string_string : SC :=
  (.seq (.reg [.r 4 (.mv (.c (.d (.bool false))))])
  (.seq (.reg [.r 5 (.mv (.t 0)),
     .r 6 (.mv (.t 1)),
     .c 7 (.f 44) [.t 5, .t 6],
     .r 8 (.bin .geq (.t 7) (.c (.d (.int .i64 0)))),
     .r 4 (.mv (.t 8))])
  .ret))
theorem fit_slices_ContainsFunc_string_string : fits Tryd.prog 29 Tryd.f29 sc_slices_ContainsFunc_string_string [.t 4] 2 = true := by kernel_rfl

set_option maxRecDepth 100000 in
set_option maxHeartbeats 40000000 in
noncomputable def sims_G6_1_0 : (∀ (x0 : List UInt8) (x1 : Tapi_Marks), {m : Option ((List Tapi_Segment) × Bool × Int × Int) // ∀ r, m = some r → PureSpec Tryd.prog 5 [.slice (List.map rowY x0), .agg (rTapi_Marks x1)] (.tup [.slice (List.map rTapi_Segment r.1), .bool r.2.1, .int .i64 r.2.2.1, .int .i64 r.2.2.2])}) × (∀ (x0 : List UInt8) (x1 : Tapi_Marks), {m : Option ((List Tapi_Segment) × Bool × Int × Int) // ∀ r, m = some r → PureSpec Tryd.prog 6 [.slice (List.map rowY x0), .agg (rTapi_Marks x1)] (.tup [.slice (List.map rTapi_Segment r.1), .bool r.2.1, .int .i64 r.2.2.1, .int .i64 r.2.2.2])}) × (∀ (x0 : Tapi_Segment) (x1 : Tapi_Segment), {m : Option (Bool) // ∀ r, m = some r → PureSpec Tryd.prog 15 [.agg (rTapi_Segment x0), .agg (rTapi_Segment x1)] (.bool r)}) × (∀ (x0 : List UInt8) (y0 : Tapi_Marks), {m : Option (Bool) // ∀ r, m = some r → PureSpec Tryd.prog 30 [.str x0, .ptr (rTapi_Marks y0)] (.bool r)}) × (∀ (x0 : List (List UInt8)) (f1 : FuncId) (c1 : List DV) (p1 : (List UInt8) → Option (Bool)) (h1 : ∀ a0 r, p1 a0 = some r → PureSpec Tryd.prog f1 ([.str a0] ++ c1) (.bool r)), {m : Option (Bool) // ∀ r, m = some r → PureSpec Tryd.prog 29 [.slice (List.map rowS x0), .fn f1 c1] (.bool r)}) := by
  refine ⟨?g0, ?g1, ?g2, ?g3, ?g4⟩
  case' g0 => (intro x0 x1; apply Subtype.mk; intro r hm; apply pure_walk Tryd.func5 fit_wire_Cut; unfold sc_wire_Cut)
  case' g1 => (intro x0 x1; apply Subtype.mk; intro r hm; apply pure_walk Tryd.func6 fit_interchangeref2_Cut; unfold sc_interchangeref2_Cut)
  case' g2 => (intro x0 x1; apply Subtype.mk; intro r hm; apply pure_walk Tryd.func15 fit_interchangeref2_SameSegment; unfold sc_interchangeref2_SameSegment)
  case' g3 => (intro x0 y0; apply Subtype.mk; intro r hm; apply pure_walk Tryd.func30 fit_wire_written_1; unfold sc_wire_written_1)
  case' g4 => (intro x0 f1 c1 p1 h1; apply Subtype.mk; intro r hm; apply pure_walk Tryd.func29 fit_slices_ContainsFunc_string_string; unfold sc_slices_ContainsFunc_string_string)
  all_goals (repeat' (first | with_reducible refine W_seq ?_ | with_reducible refine W_reg ?_ | with_reducible refine W_regD ?_ | with_reducible refine W_block ?_ | with_reducible refine W_skip ?_ | with_reducible refine W_ret ?_ | with_reducible refine W_exit ?_ | with_reducible refine O_nil ?_ | with_reducible refine K_seq ?_ | with_reducible refine K_seqE ?_ | with_reducible refine K_seqR ?_ | with_reducible refine K_block ?_ | with_reducible refine K_blockR ?_ | with_reducible refine O_o2r ?_ | ((with_reducible apply O_idxr hm); (iterate 2 (simp only [push_cast, seval]; rfl)); (intro _; rfl); intro e hm) | ((with_reducible apply O_nilcO hm); (simp only [push_cast, seval]; rfl); intro a hm) | ((with_reducible apply O_r); (simp only [push_cast, seval]; rfl); (first | exact trivial)) | ((with_reducible apply O_or hm); (simp only [push_cast, seval]; rfl); rfl; intro v hm; rotate_left; intro v g hm) | ((with_reducible apply O_cF hm); (simp only [push_cast, seval]; rfl); (first | apply spec_wire_CheckMarks _ | apply spec_wire_cut _ _ | apply spec_interchangeref2_CheckMarks _ | apply spec_interchangeref2_cut _ _ | apply spec_interchangeref2_SameTexts _ _ | apply spec_wire_needed _ _ | apply spec_slices_IndexFunc_string_string _ _ _ _ h1); (any_goals ((repeat' (first | rfl)); done)); intro x hm) | ((with_reducible apply S_condB hm); (simp only [push_cast, seval]; rfl); intro hm; rotate_left; intro hm) | ((with_reducible apply K_end4 hm); (focus (simp only [resOf, resL, RV.get, push_cast, seval]; rfl)); (focus (first | (dsimp only; done))); (focus ((repeat' (first | rfl | (with_reducible first | apply f_tup | apply dv_slice | apply f_cons | apply fold_nil))); done))) | ((with_reducible apply K_endS hm); (focus (simp only [resOf, resL, RV.get, push_cast, seval]; rfl)); (focus ((repeat' (first | rfl)); done))) | ((with_reducible apply K_bool hm); (simp only [push_cast, seval]; rfl)) | ((with_reducible apply K_leave hm); intro r hm) | ((with_reducible apply K_leaveR hm); intro r hm) | ((apply S_loopY (b := 2) (X := sc_interchangeref2_SameSegment_B1) (x := sc_interchangeref2_SameSegment_L1) rfl (fun (c : SV × SV × SV × SV × SV) (s : Int) => st [(2, c.1), (3, c.2.1), (5, c.2.2.1), (6, c.2.2.2.1), (7, c.2.2.2.2), (8, .d (.int .i64 s))] []) (c := (_, _, _, _, _)) (s0 := _) hm); (focus (first | (dsimp only; done))); (with_reducible refine Then.mk ?_ ?_)) | ((apply S_loopY (b := 0) (X := sc_interchangeref2_SameSegment_B2) (x := sc_interchangeref2_SameSegment_L2) rfl (fun (c : SV × SV) (s : Int) => st [(2, c.1), (3, c.2), (5, .d (.int .i64 s))] []) (c := (_, _)) (s0 := _) hm); (focus (first | (dsimp only; done))); (with_reducible refine Then.mk ?_ ?_)) | ((apply K_next (s' := _) hm); (focus (first | (dsimp only; done)))) | ((apply K_brk (s' := _) hm); (focus (first | (dsimp only; done)))) | (((with_reducible apply K_brkR hm); intro r hm)) | (((with_reducible apply LoopB.of); (focus (first | (dsimp only; done))); (focus ((intro _; repeat' (first | with_reducible exact impC_end | with_reducible refine impC_seq ?_ | with_reducible refine impC_block ?_ | ((with_reducible refine impC_rnd ?_); intro _) | ((with_reducible refine impC_brk ?_); intro _))))); (intro s o hm; first | unfold sc_interchangeref2_SameSegment_L1 | unfold sc_interchangeref2_SameSegment_L2); rotate_left; intro s hm)) | (((apply imp_stT; (repeat' (first | with_reducible exact keepT_nil | with_reducible exact keepC_nil | with_reducible apply keepT_cons | ((with_reducible apply svle_eq); (focus (first | (simp only [push_cast, seval]; rfl))); (focus ((repeat' (first | rfl)); done))))); done)))))
noncomputable def m_wire_Cut (x0 : List UInt8) (x1 : Tapi_Marks) : Option ((List Tapi_Segment) × Bool × Int × Int) := (sims_G6_1_0.1 x0 x1).1
theorem spec_wire_Cut (x0 : List UInt8) (x1 : Tapi_Marks) : ∀ r, m_wire_Cut x0 x1 = some r → PureSpec Tryd.prog 5 [.slice (List.map rowY x0), .agg (rTapi_Marks x1)] (.tup [.slice (List.map rTapi_Segment r.1), .bool r.2.1, .int .i64 r.2.2.1, .int .i64 r.2.2.2]) := (sims_G6_1_0.1 x0 x1).2
noncomputable def m_interchangeref2_Cut (x0 : List UInt8) (x1 : Tapi_Marks) : Option ((List Tapi_Segment) × Bool × Int × Int) := (sims_G6_1_0.2.1 x0 x1).1
theorem spec_interchangeref2_Cut (x0 : List UInt8) (x1 : Tapi_Marks) : ∀ r, m_interchangeref2_Cut x0 x1 = some r → PureSpec Tryd.prog 6 [.slice (List.map rowY x0), .agg (rTapi_Marks x1)] (.tup [.slice (List.map rTapi_Segment r.1), .bool r.2.1, .int .i64 r.2.2.1, .int .i64 r.2.2.2]) := (sims_G6_1_0.2.1 x0 x1).2
noncomputable def m_interchangeref2_SameSegment (x0 : Tapi_Segment) (x1 : Tapi_Segment) : Option (Bool) := (sims_G6_1_0.2.2.1 x0 x1).1
theorem spec_interchangeref2_SameSegment (x0 : Tapi_Segment) (x1 : Tapi_Segment) : ∀ r, m_interchangeref2_SameSegment x0 x1 = some r → PureSpec Tryd.prog 15 [.agg (rTapi_Segment x0), .agg (rTapi_Segment x1)] (.bool r) := (sims_G6_1_0.2.2.1 x0 x1).2
noncomputable def m_wire_written_1 (x0 : List UInt8) (y0 : Tapi_Marks) : Option (Bool) := (sims_G6_1_0.2.2.2.1 x0 y0).1
theorem spec_wire_written_1 (x0 : List UInt8) (y0 : Tapi_Marks) : ∀ r, m_wire_written_1 x0 y0 = some r → PureSpec Tryd.prog 30 [.str x0, .ptr (rTapi_Marks y0)] (.bool r) := (sims_G6_1_0.2.2.2.1 x0 y0).2
noncomputable def m_slices_ContainsFunc_string_string (x0 : List (List UInt8)) (f1 : FuncId) (c1 : List DV) (p1 : (List UInt8) → Option (Bool)) (h1 : ∀ a0 r, p1 a0 = some r → PureSpec Tryd.prog f1 ([.str a0] ++ c1) (.bool r)) : Option (Bool) := (sims_G6_1_0.2.2.2.2 x0 f1 c1 p1 h1).1
theorem spec_slices_ContainsFunc_string_string (x0 : List (List UInt8)) (f1 : FuncId) (c1 : List DV) (p1 : (List UInt8) → Option (Bool)) (h1 : ∀ a0 r, p1 a0 = some r → PureSpec Tryd.prog f1 ([.str a0] ++ c1) (.bool r)) : ∀ r, m_slices_ContainsFunc_string_string x0 f1 c1 p1 h1 = some r → PureSpec Tryd.prog 29 [.slice (List.map rowS x0), .fn f1 c1] (.bool r) := (sims_G6_1_0.2.2.2.2 x0 f1 c1 p1 h1).2

def sc_interchange_wire_writer_segment_L1 : SC :=
  (.seq (.reg [.r 62 (.bin .lss (.t 61) (.t 60))])
  (.seq (.cond (.t 62)
    .skip
    (.exit 4))
  (.seq (.block 5 (.seq (.reg [.r 63 (.mv (.t 61)),
       .r 64 (.idx 1 (.t 59) (.t 61)),
       .o 65 (.ld1 (.t 64)),
       .r 11 (.mv (.t 63)),
       .r 12 (.mv (.t 65))])
    (.seq (.reg [.r 66 (.mv (.t 0)),
       .r 67 (.mv (.t 0)),
       .r 68 (.nilc (.t 67)),
       .r 69 (.fld 6 (.t 68)),
       .o 70 (.ld1 (.t 69)),
       .r 71 (.mv (.t 8)),
       .r 72 (.bslice 1 [.t 71]),
       .w 73 (.app 5 1 (.t 70) (.t 72)),
       .r 74 (.nilc (.t 66)),
       .r 75 (.fld 6 (.t 74)),
       .w 0 (.st 1 (.t 75) (.t 73))])
    (.seq (.reg [.r 76 (.mv (.t 0)),
       .r 77 (.nilc (.t 76)),
       .r 78 (.fld 6 (.t 77)),
       .o 79 (.ld1 (.t 78)),
       .r 80 (.len (.t 79)),
       .r 13 (.mv (.t 80))])
    (.seq (.reg [.r 81 (.mv (.t 0)),
       .r 82 (.mv (.t 12)),
       .p (some 83) (.f 43) [.t 81, .t 82]])
    (.seq (.regE [.r 84 (.mv (.t 0)),
       .r 85 (.mv (.t 0)),
       .r 86 (.nilc (.t 85)),
       .r 87 (.fld 7 (.t 86)),
       .r 88 (.ld1 (.t 87)),
       .r 89 (.mv (.t 1)),
       .r 90 (.mv (.t 6)),
       .r 91 (.bin .add (.t 90) (.c (.d (.int .i64 1)))),
       .r 92 (.mv (.t 9)),
       .r 93 (.bin .add (.t 92) (.c (.d (.int .i64 1)))),
       .r 94 (.mv (.t 11)),
       .r 95 (.bin .add (.t 94) (.c (.d (.int .i64 1)))),
       .r 96 (.build [.d (.int .i64 0), .d (.int .i64 0), .d (.int .i64 0)] [(0, 1, .t 91), (1, 1, .t 93), (2, 1, .t 95)]),
       .r 97 (.mv (.t 13)),
       .r 98 (.mv (.t 0)),
       .r 99 (.nilc (.t 98)),
       .r 100 (.fld 6 (.t 99)),
       .r 101 (.ld1 (.t 100)),
       .r 102 (.len (.t 101)),
       .r 103 (.build [.d (.int .i64 0), .d (.int .i64 0), .d (.int .i64 0), .d (.int .i64 0), .d (.int .i64 0), .d (.int .i64 0)] [(0, 1, .t 89), (1, 3, .t 96), (4, 1, .t 97), (5, 1, .t 102)]),
       .r 104 (.bslice 6 [.t 103]),
       .x 105 (.app 86 6 (.t 88) (.t 104)) [(0, 84, .mv (.t 0))],
       .r 106 (.nilc (.t 84)),
       .r 107 (.fld 7 (.t 106)),
       .x 0 (.st 1 (.t 107) (.t 105)) []])
    (.reg [.r 108 (.mv (.t 0)),
       .r 109 (.nilc (.t 108)),
       .r 110 (.fld 0 (.t 109)),
       .r 111 (.fld 1 (.t 110)),
       .o 112 (.ld1 (.t 111)),
       .r 8 (.mv (.t 112))])))))))
  (.reg [.r 113 (.bin .add (.t 61) (.c (.d (.int .i64 1)))),
     .r 61 (.mv (.t 113))]))))
def sc_interchange_wire_writer_segment_B1 : SC := .block 4 (.loop sc_interchange_wire_writer_segment_L1)
def sc_interchange_wire_writer_segment_L2 : SC :=
  (.seq (.reg [.r 55 (.bin .lss (.t 54) (.t 53))])
  (.seq (.cond (.t 55)
    .skip
    (.exit 2))
  (.seq (.block 3 (.seq (.reg [.r 56 (.mv (.t 54)),
       .r 57 (.idx 1 (.t 52) (.t 54)),
       .o 58 (.ld1 (.t 57)),
       .r 9 (.mv (.t 56)),
       .r 10 (.mv (.t 58))])
    (.seq (.seq (.reg [.r 59 (.mv (.t 10)),
       .r 60 (.len (.t 59)),
       .r 61 (.mv (.c (.d (.int .i64 0))))])
    sc_interchange_wire_writer_segment_B1)
    (.reg [.r 114 (.mv (.t 0)),
       .r 115 (.nilc (.t 114)),
       .r 116 (.fld 0 (.t 115)),
       .r 117 (.fld 2 (.t 116)),
       .o 118 (.ld1 (.t 117)),
       .r 8 (.mv (.t 118))]))))
  (.reg [.r 119 (.bin .add (.t 54) (.c (.d (.int .i64 1)))),
     .r 54 (.mv (.t 119))]))))
def sc_interchange_wire_writer_segment_B2 : SC := .block 2 (.loop sc_interchange_wire_writer_segment_L2)
def sc_interchange_wire_writer_segment_L3 : SC :=
  (.seq (.reg [.r 42 (.bin .lss (.t 41) (.t 40))])
  (.seq (.cond (.t 42)
    .skip
    (.exit 0))
  (.seq (.block 1 (.seq (.reg [.r 43 (.mv (.t 41)),
       .r 44 (.idx 1 (.t 39) (.t 41)),
       .o 45 (.ldA 1 (.t 44)),
       .w 7 (.boxM (.c (.agg [.nils]))),
       .r 6 (.mv (.t 43)),
       .w 0 (.st 1 (.t 7) (.t 45))])
    (.seq (.reg [.r 46 (.mv (.t 0)),
       .r 47 (.nilc (.t 46)),
       .r 48 (.fld 0 (.t 47)),
       .r 49 (.fld 0 (.t 48)),
       .o 50 (.ld1 (.t 49)),
       .r 8 (.mv (.t 50))])
    (.seq (.reg [.r 51 (.fld 0 (.t 7)),
       .o 52 (.ld1 (.t 51)),
       .r 53 (.len (.t 52)),
       .r 54 (.mv (.c (.d (.int .i64 0))))])
    sc_interchange_wire_writer_segment_B2))))
  (.reg [.r 120 (.bin .add (.t 41) (.c (.d (.int .i64 1)))),
     .r 41 (.mv (.t 120))]))))
def sc_interchange_wire_writer_segment_B3 : SC := .block 0 (.loop sc_interchange_wire_writer_segment_L3)
/-- (*interchange/wire.writer).segment -/
def sc_interchange_wire_writer_segment : SC :=
  (.seq (.reg [.r 5 (.boxI (.t 2))])
  (.seq (.regE [.r 14 (.mv (.t 0)),
     .r 15 (.mv (.t 0)),
     .r 16 (.nilc (.t 15)),
     .r 17 (.fld 8 (.t 16)),
     .r 18 (.ld1 (.t 17)),
     .r 19 (.mv (.t 0)),
     .r 20 (.nilc (.t 19)),
     .r 21 (.fld 6 (.t 20)),
     .r 22 (.ld1 (.t 21)),
     .r 23 (.len (.t 22)),
     .r 24 (.bslice 1 [.t 23]),
     .x 25 (.app 3 1 (.t 18) (.t 24)) [(0, 14, .mv (.t 0))],
     .r 26 (.nilc (.t 14)),
     .r 27 (.fld 8 (.t 26)),
     .x 0 (.st 1 (.t 27) (.t 25)) []])
  (.seq (.regE [.r 28 (.mv (.t 0)),
     .r 29 (.mv (.t 0)),
     .r 30 (.nilc (.t 29)),
     .r 31 (.fld 6 (.t 30)),
     .r 32 (.ld1 (.t 31)),
     .r 33 (.fld 0 (.t 5)),
     .r 34 (.ld1 (.t 33)),
     .x 35 (.appS 5 (.t 32) (.t 34)) [(0, 28, .mv (.t 0))],
     .r 36 (.nilc (.t 28)),
     .r 37 (.fld 6 (.t 36)),
     .x 0 (.st 1 (.t 37) (.t 35)) []])
  (.seq (.seq (.reg [.r 38 (.fld 1 (.t 5)),
     .o 39 (.ld1 (.t 38)),
     .r 40 (.len (.t 39)),
     .r 41 (.mv (.c (.d (.int .i64 0))))])
  sc_interchange_wire_writer_segment_B3)
  (.seq (.regE [.r 121 (.mv (.t 0)),
     .r 122 (.mv (.t 0)),
     .r 123 (.nilc (.t 122)),
     .r 124 (.fld 6 (.t 123)),
     .r 125 (.ld1 (.t 124)),
     .r 126 (.mv (.t 0)),
     .r 127 (.nilc (.t 126)),
     .r 128 (.fld 0 (.t 127)),
     .r 129 (.fld 4 (.t 128)),
     .r 130 (.ld1 (.t 129)),
     .r 131 (.bslice 1 [.t 130]),
     .x 132 (.app 5 1 (.t 125) (.t 131)) [(0, 121, .mv (.t 0))],
     .r 133 (.nilc (.t 121)),
     .r 134 (.fld 6 (.t 133)),
     .x 0 (.st 1 (.t 134) (.t 132)) []])
  (.seq (.reg [.r 135 (.mv (.t 0)),
     .r 136 (.nilc (.t 135)),
     .r 137 (.fld 5 (.t 136)),
     .o 138 (.ld1 (.t 137))])
  (.cond (.t 138)
    (.reg [.r 139 (.mv (.t 0)),
       .r 140 (.mv (.t 0)),
       .r 141 (.nilc (.t 140)),
       .r 142 (.fld 6 (.t 141)),
       .o 143 (.ld1 (.t 142)),
       .r 144 (.bslice 1 [.c (.d (.int .u8 10))]),
       .w 145 (.app 5 1 (.t 143) (.t 144)),
       .r 146 (.nilc (.t 139)),
       .r 147 (.fld 6 (.t 146)),
       .w 0 (.st 1 (.t 147) (.t 145))])
    .skip)))))))
theorem fit_interchange_wire_writer_segment : fits Tryd.prog 28 Tryd.f28 sc_interchange_wire_writer_segment [] 3 = true := by kernel_rfl

set_option maxRecDepth 100000 in
set_option maxHeartbeats 40000000 in
noncomputable def sims_G6_1_1 : (∀ (x0 : Twire_writer) (x1 : Int) (x2 : Tapi_Segment), {m : Option ((Unit) × Twire_writer) // ∀ r, m = some r → FSpec Tryd.prog 28 (.own (.pt [.sh, .sh, .sh, .sh, .sh, .sh, .sl 5 (List.replicate 1 .sh), .sl 86 (List.replicate 6 .sh), .sl 3 (List.replicate 1 .sh), .sh]) (.ptr (rTwire_writer x0)) :: List.map SV.d ([.int .i64 x1, .agg (rTapi_Segment x2)] : List DV)) (.tup []) (.own (.pt [.sh, .sh, .sh, .sh, .sh, .sh, .sl 5 (List.replicate 1 .sh), .sl 86 (List.replicate 6 .sh), .sl 3 (List.replicate 1 .sh), .sh]) (.ptr (rTwire_writer r.2)) :: List.map SV.d ([.int .i64 x1, .agg (rTapi_Segment x2)] : List DV))}) := by
  (intro x0 x1 x2; apply Subtype.mk; intro r hm; apply fspec_walk1 (N := 148) (k := 3) Tryd.func28 fit_interchange_wire_writer_segment (by kernel_rfl) rfl rfl (by decide); unfold sc_interchange_wire_writer_segment)
  repeat' (first | ((with_reducible apply W_openBs (id := 0) (cid := 1006) (off := 6) (n := 1) (e := 5)); (focus (simp only [push_cast, seval]; (try rfl); done)); (focus (simp only [push_cast, seval]; (try rfl); done)); (focus decide); (focus rfl); (focus (intro _; rfl)); (focus (simp only [push_cast, seval]; (try rfl); done))) | ((with_reducible apply W_openBs (id := 0) (cid := 1007) (off := 7) (n := 6) (e := 86)); (focus (simp only [push_cast, seval]; (try rfl); done)); (focus (simp only [push_cast, seval]; (try rfl); done)); (focus decide); (focus rfl); (focus (intro _; rfl)); (focus (simp only [push_cast, seval]; (try rfl); done))) | ((with_reducible apply W_openBs (id := 0) (cid := 1008) (off := 8) (n := 1) (e := 3)); (focus (simp only [push_cast, seval]; (try rfl); done)); (focus (simp only [push_cast, seval]; (try rfl); done)); (focus decide); (focus rfl); (focus (intro _; rfl)); (focus (simp only [push_cast, seval]; (try rfl); done))) | with_reducible refine W_seq ?_ | with_reducible refine W_reg ?_ | with_reducible refine W_regE ?_ | with_reducible refine W_block ?_ | with_reducible refine W_skip ?_ | with_reducible refine W_exit ?_ | with_reducible refine O_nil ?_ | with_reducible refine K_seq ?_ | with_reducible refine K_seqE ?_ | with_reducible refine K_block ?_ | with_reducible refine O_o2r ?_ | ((with_reducible apply O_idxr hm); (iterate 2 (simp only [push_cast, seval]; rfl)); (intro _; rfl); intro e hm) | ((with_reducible apply O_r); (simp only [push_cast, seval]; rfl); (first | exact trivial)) | ((with_reducible apply O_w); (simp only [push_cast, seval]; rfl); (first | exact trivial)) | ((with_reducible apply O_appV hm); (iterate 4 (simp only [push_cast, seval]; rfl)); (focus ((repeat' (first | rfl | (with_reducible first | apply dv_slice | apply fold_nil | apply fold_cons | apply f_rowY) | (with_reducible apply f_byte; decide))); done)); decide; (intro _; rfl); intro hm) | ((with_reducible apply O_appSX hm); (iterate 3 (simp only [push_cast, seval]; rfl)); (focus ((repeat' (first | exact Rer_nil | ((with_reducible apply Rer_cons); (focus (simp only [push_cast, seval]; rfl)); (focus (first | exact trivial)); (focus (simp only [push_cast, seval]))))); done)); intro hm) | ((with_reducible apply O_appVX hm); (iterate 2 (simp only [push_cast, seval]; rfl)); (focus ((repeat' (first | rfl)); done)); (simp only [push_cast, seval]; rfl); (focus ((repeat' (first | rfl | (with_reducible first | apply eR_nil | apply eR_cons))); done)); (intro _; rfl); (focus ((repeat' (first | exact Rer_nil | ((with_reducible apply Rer_cons); (focus (simp only [push_cast, seval]; rfl)); (focus (first | exact trivial)); (focus (simp only [push_cast, seval]))))); done)); intro hm) | ((with_reducible apply O_appX2 hm); (iterate 4 (simp only [push_cast, seval]; rfl)); rfl; (focus ((repeat' (first | exact Rer_nil | ((with_reducible apply Rer_cons); (focus (simp only [push_cast, seval]; rfl)); (focus (first | exact trivial)); (focus (simp only [push_cast, seval]))))); done)); intro hm) | ((with_reducible apply O_x); (simp only [push_cast, seval]; rfl); (first | exact trivial); (focus ((repeat' (first | exact Rer_nil)); done))) | ((with_reducible apply S_condB hm); (simp only [push_cast, seval]; rfl); intro hm; rotate_left; intro hm) | ((with_reducible apply K_leave hm); intro r hm) | ((apply S_loopY (b := 4) (X := sc_interchange_wire_writer_segment_B1) (x := sc_interchange_wire_writer_segment_L1) rfl (fun (c : SV × SV × SV × SV × SV × SV × SV × SV × SV × SV × SV × SV × SV) (s : Tapi_Marks × Bool × (List UInt8) × (List Twire_place) × (List Int) × Bool × UInt8 × Int) => st [(0, .ref 0 0), (1, c.1), (6, c.2.1), (8, .d (.int .u8 (s.2.2.2.2.2.2.1).toNat)), (9, c.2.2.1), (39, c.2.2.2.1), (40, c.2.2.2.2.1), (41, c.2.2.2.2.2.1), (52, c.2.2.2.2.2.2.1), (53, c.2.2.2.2.2.2.2.1), (54, c.2.2.2.2.2.2.2.2.1), (59, c.2.2.2.2.2.2.2.2.2.1), (60, c.2.2.2.2.2.2.2.2.2.2.1), (61, .d (.int .i64 s.2.2.2.2.2.2.2)), (148, .ref 0 0), (149, c.2.2.2.2.2.2.2.2.2.2.2.1), (150, c.2.2.2.2.2.2.2.2.2.2.2.2)] [(1006, .vec 5 1 (vrow rowY s.2.2.1)), (1007, .vec 86 6 (vrow rTwire_place s.2.2.2.1)), (1008, .vec 3 1 (vrow rowI s.2.2.2.2.1)), (0, .box (bT_Twire_writer s.1 s.2.1 1006 1007 1008 s.2.2.2.2.2.1))]) (c := (_, _, _, _, _, _, _, _, _, _, _, _, _)) (s0 := (_, _, _, _, _, _, _, _)) hm); (focus (first | (dsimp only; done))); (with_reducible refine Then.mk ?_ ?_)) | ((apply S_loopY (b := 2) (X := sc_interchange_wire_writer_segment_B2) (x := sc_interchange_wire_writer_segment_L2) rfl (fun (c : SV × SV × SV × SV × SV × SV × SV × SV × SV) (s : Tapi_Marks × Bool × (List UInt8) × (List Twire_place) × (List Int) × Bool × UInt8 × Int) => st [(0, .ref 0 0), (1, c.1), (6, c.2.1), (8, .d (.int .u8 (s.2.2.2.2.2.2.1).toNat)), (39, c.2.2.1), (40, c.2.2.2.1), (41, c.2.2.2.2.1), (52, c.2.2.2.2.2.1), (53, c.2.2.2.2.2.2.1), (54, .d (.int .i64 s.2.2.2.2.2.2.2)), (148, .ref 0 0), (149, c.2.2.2.2.2.2.2.1), (150, c.2.2.2.2.2.2.2.2)] [(1006, .vec 5 1 (vrow rowY s.2.2.1)), (1007, .vec 86 6 (vrow rTwire_place s.2.2.2.1)), (1008, .vec 3 1 (vrow rowI s.2.2.2.2.1)), (0, .box (bT_Twire_writer s.1 s.2.1 1006 1007 1008 s.2.2.2.2.2.1))]) (c := (_, _, _, _, _, _, _, _, _)) (s0 := (_, _, _, _, _, _, _, _)) hm); (focus (first | (dsimp only; done))); (with_reducible refine Then.mk ?_ ?_)) | ((apply S_loopY (b := 0) (X := sc_interchange_wire_writer_segment_B3) (x := sc_interchange_wire_writer_segment_L3) rfl (fun (c : SV × SV × SV × SV × SV) (s : Tapi_Marks × Bool × (List UInt8) × (List Twire_place) × (List Int) × Bool × Int) => st [(0, .ref 0 0), (1, c.1), (39, c.2.1), (40, c.2.2.1), (41, .d (.int .i64 s.2.2.2.2.2.2)), (148, .ref 0 0), (149, c.2.2.2.1), (150, c.2.2.2.2)] [(1006, .vec 5 1 (vrow rowY s.2.2.1)), (1007, .vec 86 6 (vrow rTwire_place s.2.2.2.1)), (1008, .vec 3 1 (vrow rowI s.2.2.2.2.1)), (0, .box (bT_Twire_writer s.1 s.2.1 1006 1007 1008 s.2.2.2.2.2.1))]) (c := (_, _, _, _, _)) (s0 := (_, _, _, _, _, _, _)) hm); (focus (first | (dsimp only; done))); (with_reducible refine Then.mk ?_ ?_)) | ((apply K_next (s' := (_, _, _, _, _, _, _, _)) hm); (focus (first | (dsimp only; done)))) | ((apply K_brk (s' := (_, _, _, _, _, _, _, _)) hm); (focus (first | (dsimp only; done)))) | ((apply K_next (s' := (_, _, _, _, _, _, _)) hm); (focus (first | (dsimp only; done)))) | ((apply K_brk (s' := (_, _, _, _, _, _, _)) hm); (focus (first | (dsimp only; done)))) | (((with_reducible apply O_pM hm (id := 0) (ms := [.sh, .sh, .sh, .sh, .sh, .sh, .sl 5 (List.replicate 1 .sh), .sl 86 (List.replicate 6 .sh), .sl 3 (List.replicate 1 .sh), .sh])); (focus ((try ((apply Imp.trans); (focus ((apply imp_closeBs (id := 0) (cid := 1006) (off := 6) (n := 1) (e := 5)); (focus (simp only [push_cast, seval]; (try rfl); done)); (focus (simp only [push_cast, seval]; (try rfl); done)); (focus decide); (focus (simp only [push_cast, seval]; (try rfl); done)); (focus ((repeat' (first | (with_reducible first | apply r_rfl))); done)); (focus (intro _; rfl)); (focus (simp only [push_cast, seval]; (try rfl); done)))))); (try ((apply Imp.trans); (focus ((apply imp_closeBs (id := 0) (cid := 1007) (off := 7) (n := 6) (e := 86)); (focus (simp only [push_cast, seval]; (try rfl); done)); (focus (simp only [push_cast, seval]; (try rfl); done)); (focus decide); (focus (simp only [push_cast, seval]; (try rfl); done)); (focus ((repeat' (first | (with_reducible first | apply r_rfl))); done)); (focus (intro _; rfl)); (focus (simp only [push_cast, seval]; (try rfl); done)))))); (try ((apply Imp.trans); (focus ((apply imp_closeBs (id := 0) (cid := 1008) (off := 8) (n := 1) (e := 3)); (focus (simp only [push_cast, seval]; (try rfl); done)); (focus (simp only [push_cast, seval]; (try rfl); done)); (focus decide); (focus (simp only [push_cast, seval]; (try rfl); done)); (focus ((repeat' (first | (with_reducible first | apply r_rfl))); done)); (focus (intro _; rfl)); (focus (simp only [push_cast, seval]; (try rfl); done)))))); exact Imp.refl _)); (focus (simp only [push_cast, seval]; (try rfl); done)); (focus (simp only [push_cast, seval]; (try rfl); done)); (focus (simp only [push_cast, seval]; (try rfl); done)); (focus ((repeat' (first | (with_reducible first | apply oT_Twire_writer | apply cT_Tapi_Marks) | ((with_reducible apply svle_eq); (focus (first | rfl)); (focus ((repeat' (first | rfl)); done))) | ((with_reducible apply cle_own); (focus rfl); (focus ((repeat' (first | rfl)); done))))); done)); (focus rfl); (first | apply spec_interchange_wire_writer_text _ _); (any_goals (focus ((repeat' (first | rfl)); done))); (focus (intro _; exact ⟨rfl, rfl, rfl⟩)); intro y hm)) | (((with_reducible apply K_endPN (a := ()) hm (ms := [.sh, .sh, .sh, .sh, .sh, .sh, .sl 5 (List.replicate 1 .sh), .sl 86 (List.replicate 6 .sh), .sl 3 (List.replicate 1 .sh), .sh])); (focus ((try ((apply Imp.trans); (focus ((apply imp_closeBs (id := 0) (cid := 1006) (off := 6) (n := 1) (e := 5)); (focus (simp only [push_cast, seval]; (try rfl); done)); (focus (simp only [push_cast, seval]; (try rfl); done)); (focus decide); (focus (simp only [push_cast, seval]; (try rfl); done)); (focus ((repeat' (first | (with_reducible first | apply r_rfl))); done)); (focus (intro _; rfl)); (focus (simp only [push_cast, seval]; (try rfl); done)))))); (try ((apply Imp.trans); (focus ((apply imp_closeBs (id := 0) (cid := 1007) (off := 7) (n := 6) (e := 86)); (focus (simp only [push_cast, seval]; (try rfl); done)); (focus (simp only [push_cast, seval]; (try rfl); done)); (focus decide); (focus (simp only [push_cast, seval]; (try rfl); done)); (focus ((repeat' (first | (with_reducible first | apply r_rfl))); done)); (focus (intro _; rfl)); (focus (simp only [push_cast, seval]; (try rfl); done)))))); (try ((apply Imp.trans); (focus ((apply imp_closeBs (id := 0) (cid := 1008) (off := 8) (n := 1) (e := 3)); (focus (simp only [push_cast, seval]; (try rfl); done)); (focus (simp only [push_cast, seval]; (try rfl); done)); (focus decide); (focus (simp only [push_cast, seval]; (try rfl); done)); (focus ((repeat' (first | (with_reducible first | apply r_rfl))); done)); (focus (intro _; rfl)); (focus (simp only [push_cast, seval]; (try rfl); done)))))); exact Imp.refl _)); (focus (simp only [push_cast, seval]; (try rfl); done)); (focus ((repeat' (first | (with_reducible first | apply oT_Twire_writer | apply cT_Tapi_Marks) | ((with_reducible apply svle_eq); (focus (first | rfl)); (focus ((repeat' (first | rfl)); done))) | ((with_reducible apply cle_own); (focus rfl); (focus ((repeat' (first | rfl)); done))))); done)); (focus (intro _; rfl)); (focus (simp only [push_cast, seval]; (try rfl); done)); (focus (simp only [push_cast, seval]; (try rfl); done)); (focus (simp only [push_cast, seval]; (try rfl); done)); (focus (simp only [push_cast, seval]; (try rfl); done)); (focus (first | exact he_0)))) | (((with_reducible apply LoopB.of); (focus (first | (dsimp only; done))); (focus ((intro _; repeat' (first | with_reducible exact impC_endF | with_reducible refine impC_seq ?_ | with_reducible refine impC_block ?_ | ((with_reducible refine impC_rnd ?_); intro _) | ((with_reducible refine impC_brk ?_); intro _))))); (intro s o hm; first | unfold sc_interchange_wire_writer_segment_L1 | unfold sc_interchange_wire_writer_segment_L2 | unfold sc_interchange_wire_writer_segment_L3); rotate_left; intro s hm)) | (((apply imp_stT; (repeat' (first | with_reducible exact keepT_nil | with_reducible exact keepC_nil | with_reducible apply keepT_cons | with_reducible apply keepC_cons | ((with_reducible apply svle_eq); (focus (first | (simp only [push_cast, seval]; rfl) | rfl)); (focus ((repeat' (first | rfl)); done))) | ((with_reducible apply chle_eq); (focus (first | (simp only [push_cast, seval]; rfl))); (first | with_reducible exact chle_rfl rfl | with_reducible apply chle_vec)) | (with_reducible first | apply cT_Twire_place | apply cT_Tapi_Spot | apply r_rfl | apply r_nil | apply r_app | apply r_cons))); done))))
noncomputable def m_interchange_wire_writer_segment (x0 : Twire_writer) (x1 : Int) (x2 : Tapi_Segment) : Option ((Unit) × Twire_writer) := (sims_G6_1_1 x0 x1 x2).1
theorem spec_interchange_wire_writer_segment (x0 : Twire_writer) (x1 : Int) (x2 : Tapi_Segment) : ∀ r, m_interchange_wire_writer_segment x0 x1 x2 = some r → FSpec Tryd.prog 28 (.own (.pt [.sh, .sh, .sh, .sh, .sh, .sh, .sl 5 (List.replicate 1 .sh), .sl 86 (List.replicate 6 .sh), .sl 3 (List.replicate 1 .sh), .sh]) (.ptr (rTwire_writer x0)) :: List.map SV.d ([.int .i64 x1, .agg (rTapi_Segment x2)] : List DV)) (.tup []) (.own (.pt [.sh, .sh, .sh, .sh, .sh, .sh, .sl 5 (List.replicate 1 .sh), .sl 86 (List.replicate 6 .sh), .sl 3 (List.replicate 1 .sh), .sh]) (.ptr (rTwire_writer r.2)) :: List.map SV.d ([.int .i64 x1, .agg (rTapi_Segment x2)] : List DV)) := (sims_G6_1_1 x0 x1 x2).2

def sc_interchangeref2_SameSegments_L1 : SC :=
  (.seq (.seq (.reg [.r 11 (.mv (.t 5)),
     .r 12 (.mv (.t 0)),
     .r 13 (.len (.t 12)),
     .r 14 (.bin .lss (.t 11) (.t 13))])
  (.cond (.t 14)
    .skip
    (.exit 0)))
  (.seq (.block 1 (.seq (.regD [.r 17 (.mv (.t 0)),
       .r 18 (.mv (.t 5)),
       .r 19 (.idx 2 (.t 17) (.t 18)),
       .r 20 (.ldA 2 (.t 19)),
       .r 21 (.mv (.t 1)),
       .r 22 (.mv (.t 5)),
       .r 23 (.idx 2 (.t 21) (.t 22)),
       .r 24 (.ldA 2 (.t 23)),
       .c 25 (.f 15) [.t 20, .t 24],
       .r 26 (.not (.t 25))])
    (.cond (.t 26)
      (.seq (.reg [.r 4 (.mv (.c (.d (.bool false))))])
      .ret)
      .skip)))
  (.reg [.r 15 (.mv (.t 5)),
     .r 16 (.bin .add (.t 15) (.c (.d (.int .i64 1)))),
     .r 5 (.mv (.t 16))])))
def sc_interchangeref2_SameSegments_B1 : SC := .block 0 (.loop sc_interchangeref2_SameSegments_L1)
/-- interchange/interchangeref2.SameSegments -/
def sc_interchangeref2_SameSegments : SC :=
  (.seq (.reg [.r 4 (.mv (.c (.d (.bool false))))])
  (.seq (.seq (.reg [.r 6 (.mv (.t 0)),
     .r 7 (.len (.t 6)),
     .r 8 (.mv (.t 1)),
     .r 9 (.len (.t 8)),
     .r 10 (.bin .neq (.t 7) (.t 9))])
  (.cond (.t 10)
    (.seq (.reg [.r 4 (.mv (.c (.d (.bool false))))])
    .ret)
    .skip))
  (.seq (.seq (.reg [.r 5 (.mv (.c (.d (.int .i64 0))))])
  sc_interchangeref2_SameSegments_B1)
  (.seq (.reg [.r 4 (.mv (.c (.d (.bool true))))])
  .ret))))
theorem fit_interchangeref2_SameSegments : fits Tryd.prog 7 Tryd.f7 sc_interchangeref2_SameSegments [.t 4] 2 = true := by kernel_rfl

set_option maxRecDepth 100000 in
set_option maxHeartbeats 40000000 in
noncomputable def sims_G6_2_0 : (∀ (x0 : List Tapi_Segment) (x1 : List Tapi_Segment), {m : Option (Bool) // ∀ r, m = some r → PureSpec Tryd.prog 7 [.slice (List.map rTapi_Segment x0), .slice (List.map rTapi_Segment x1)] (.bool r)}) := by
  (intro x0 x1; apply Subtype.mk; intro r hm; apply pure_walk Tryd.func7 fit_interchangeref2_SameSegments; unfold sc_interchangeref2_SameSegments)
  repeat' (first | with_reducible refine W_seq ?_ | with_reducible refine W_reg ?_ | with_reducible refine W_regD ?_ | with_reducible refine W_block ?_ | with_reducible refine W_skip ?_ | with_reducible refine W_ret ?_ | with_reducible refine W_exit ?_ | with_reducible refine O_nil ?_ | with_reducible refine K_seq ?_ | with_reducible refine K_seqE ?_ | with_reducible refine K_seqR ?_ | with_reducible refine K_block ?_ | with_reducible refine K_blockR ?_ | ((with_reducible apply O_idxr hm); (iterate 2 (simp only [push_cast, seval]; rfl)); (intro _; rfl); intro e hm) | ((with_reducible apply O_r); (simp only [push_cast, seval]; rfl); (first | exact trivial)) | ((with_reducible apply O_cF hm); (simp only [push_cast, seval]; rfl); (first | apply spec_interchangeref2_SameSegment _ _); (any_goals ((repeat' (first | rfl)); done)); intro x hm) | ((with_reducible apply S_condB hm); (simp only [push_cast, seval]; rfl); intro hm; rotate_left; intro hm) | ((with_reducible apply K_endS hm); (focus (simp only [resOf, resL, RV.get, push_cast, seval]; rfl)); (focus ((repeat' (first | rfl)); done))) | ((with_reducible apply K_leave hm); intro r hm) | ((with_reducible apply K_leaveR hm); intro r hm) | ((apply S_loopY (b := 0) (X := sc_interchangeref2_SameSegments_B1) (x := sc_interchangeref2_SameSegments_L1) rfl (fun (c : SV × SV) (s : Int) => st [(0, c.1), (1, c.2), (5, .d (.int .i64 s))] []) (c := (_, _)) (s0 := _) hm); (focus (first | (dsimp only; done))); (with_reducible refine Then.mk ?_ ?_)) | ((apply K_next (s' := _) hm); (focus (first | (dsimp only; done)))) | ((apply K_brk (s' := _) hm); (focus (first | (dsimp only; done)))) | (((with_reducible apply K_brkR hm); intro r hm)) | (((with_reducible apply LoopB.of); (focus (first | (dsimp only; done))); (focus ((intro _; repeat' (first | with_reducible exact impC_end | with_reducible refine impC_seq ?_)))); (intro s o hm; first | unfold sc_interchangeref2_SameSegments_L1); rotate_left; intro s hm)) | (((apply imp_stT; (repeat' (first | with_reducible exact keepT_nil | with_reducible exact keepC_nil | with_reducible apply keepT_cons | ((with_reducible apply svle_eq); (focus (first | (simp only [push_cast, seval]; rfl))); (focus ((repeat' (first | rfl)); done))))); done))))
noncomputable def m_interchangeref2_SameSegments (x0 : List Tapi_Segment) (x1 : List Tapi_Segment) : Option (Bool) := (sims_G6_2_0 x0 x1).1
theorem spec_interchangeref2_SameSegments (x0 : List Tapi_Segment) (x1 : List Tapi_Segment) : ∀ r, m_interchangeref2_SameSegments x0 x1 = some r → PureSpec Tryd.prog 7 [.slice (List.map rTapi_Segment x0), .slice (List.map rTapi_Segment x1)] (.bool r) := (sims_G6_2_0 x0 x1).2

def sc_wire_written_L1 : SC :=
  (.seq (.reg [.r 57 (.bin .lss (.t 56) (.t 55))])
  (.seq (.cond (.t 57)
    .skip
    (.exit 4))
  (.seq (.block 5 (.seq (.reg [.r 58 (.idx 1 (.t 54) (.t 56)),
       .o 59 (.ld1 (.t 58)),
       .r 17 (.mv (.t 59))])
    (.reg (.r 60 (.mv (.t 11)) :: .r 61 (.mv (.t 11)) :: .r 62 (.nilc (.t 61)) :: .r 63 (.fld 9 (.t 62)) :: .o 64 (.ld1 (.t 63)) :: .r 65 (.mv (.t 64)) :: gapp [66, 67, 68, 69, 70, 71, 72, 73] 65 false (.r 66 (.fld 3 (.t 5)) :: .r 67 (.ld1 (.t 66)) :: .r 68 (.bin .eql (.t 67) (.c (.d (.int .u8 0)))) :: .r 69 (.mv (.t 68)) :: gapp [70, 71, 72] 69 true (.r 70 (.mv (.t 17)) :: .r 71 (.mkfn 30 [.t 5]) :: .c 72 (.f 29) [.t 70, .t 71] :: []) (.r 73 (.pick (.t 69) (.t 72) (.c (.d (.bool false)))) :: [])) (.r 74 (.pick (.t 65) (.c (.d (.bool true))) (.t 73)) :: .r 75 (.nilc (.t 60)) :: .r 76 (.fld 9 (.t 75)) :: .w 0 (.st 1 (.t 76) (.t 74)) :: [])))))
  (.reg [.r 77 (.bin .add (.t 56) (.c (.d (.int .i64 1)))),
     .r 56 (.mv (.t 77))]))))
def sc_wire_written_B1 : SC := .block 4 (.loop sc_wire_written_L1)
def sc_wire_written_L2 : SC :=
  (.seq (.reg [.r 50 (.bin .lss (.t 49) (.t 48))])
  (.seq (.cond (.t 50)
    .skip
    (.exit 2))
  (.seq (.block 3 (.seq (.reg [.r 51 (.idx 1 (.t 47) (.t 49)),
       .o 52 (.ldA 1 (.t 51)),
       .w 15 (.boxM (.c (.agg [.nils]))),
       .w 0 (.st 1 (.t 15) (.t 52))])
    (.seq (.reg [.r 53 (.fld 0 (.t 15)),
       .o 54 (.ld1 (.t 53)),
       .r 55 (.len (.t 54)),
       .r 56 (.mv (.c (.d (.int .i64 0))))])
    sc_wire_written_B1)))
  (.reg [.r 78 (.bin .add (.t 49) (.c (.d (.int .i64 1)))),
     .r 49 (.mv (.t 78))]))))
def sc_wire_written_B2 : SC := .block 2 (.loop sc_wire_written_L2)
def sc_wire_written_L3 : SC :=
  (.seq (.reg [.r 31 (.bin .lss (.t 30) (.t 29))])
  (.seq (.cond (.t 31)
    .skip
    (.exit 0))
  (.seq (.block 1 (.seq (.reg [.r 32 (.mv (.t 30)),
       .r 33 (.idx 2 (.t 28) (.t 30)),
       .o 34 (.ldA 2 (.t 33)),
       .w 13 (.boxM (.c (.agg [.d (.str []), .nils]))),
       .r 12 (.mv (.t 32)),
       .w 0 (.st 2 (.t 13) (.t 34))])
    (.seq (.seq (.reg [.r 35 (.mv (.t 11)),
       .r 36 (.nilc (.t 35)),
       .r 37 (.fld 6 (.t 36)),
       .o 38 (.ld1 (.t 37)),
       .r 39 (.len (.t 38)),
       .r 40 (.mv (.t 3)),
       .r 41 (.bin .leq (.t 39) (.t 40))])
    (.cond (.t 41)
      (.seq (.reg [.r 42 (.mv (.t 11)),
         .r 43 (.mv (.t 12)),
         .o 44 (.ldA 2 (.t 13)),
         .p (some 45) (.f 28) [.t 42, .t 43, .t 44]])
      (.exit 1))
      .skip))
    (.seq (.reg [.r 46 (.fld 1 (.t 13)),
       .o 47 (.ld1 (.t 46)),
       .r 48 (.len (.t 47)),
       .r 49 (.mv (.c (.d (.int .i64 0))))])
    sc_wire_written_B2))))
  (.reg [.r 79 (.bin .add (.t 30) (.c (.d (.int .i64 1)))),
     .r 30 (.mv (.t 79))]))))
def sc_wire_written_B3 : SC := .block 0 (.loop sc_wire_written_L3)
/-- interchange/wire.written -/
def sc_wire_written : SC :=
  (.seq (.reg [.r 5 (.boxI (.t 1)),
     .r 8 (.mv (.c (.d (.raw (.pointer none))))),
     .r 9 (.mv (.c (.d (.int .i64 0))))])
  (.seq (.seq (.reg [.r 18 (.mv (.t 0)),
     .o 19 (.ldA 5 (.t 5)),
     .c 20 (.f 27) [.t 18, .t 19],
     .r 10 (.mv (.t 20))])
  (.seq (.reg [.r 21 (.mv (.t 10)),
     .r 22 (.bin .neq (.t 21) (.c (.d (.int .i64 0))))])
  (.cond (.t 22)
    (.seq (.reg [.r 23 (.mv (.t 10)),
       .r 8 (.mv (.c (.d (.raw (.pointer none))))),
       .r 9 (.mv (.t 23))])
    .ret)
    .skip)))
  (.seq (.reg [.o 24 (.ldA 5 (.t 5)),
     .r 25 (.mv (.t 2)),
     .r 26 (.build [.d (.int .u8 0), .d (.int .u8 0), .d (.int .u8 0), .d (.int .u8 0), .d (.int .u8 0), .d (.bool false), .nils, .nils, .nils, .d (.bool false)] [(0, 5, .t 24), (5, 1, .t 25)]),
     .w 27 (.boxM (.t 26)),
     .r 11 (.mv (.t 27))])
  (.seq (.seq (.reg [.r 28 (.mv (.t 0)),
     .r 29 (.len (.t 28)),
     .r 30 (.mv (.c (.d (.int .i64 0))))])
  sc_wire_written_B3)
  (.seq (.seq (.reg [.r 80 (.mv (.t 11)),
     .r 81 (.nilc (.t 80)),
     .r 82 (.fld 9 (.t 81)),
     .o 83 (.ld1 (.t 82))])
  (.cond (.t 83)
    (.seq (.reg [.r 8 (.mv (.c (.d (.raw (.pointer none))))),
       .r 9 (.mv (.c (.d (.int .i64 3))))])
    .ret)
    .skip))
  (.seq (.seq (.reg [.r 84 (.mv (.t 11)),
     .r 85 (.nilc (.t 84)),
     .r 86 (.fld 6 (.t 85)),
     .o 87 (.ld1 (.t 86)),
     .r 88 (.len (.t 87)),
     .r 89 (.mv (.t 3)),
     .r 90 (.bin .gtr (.t 88) (.t 89))])
  (.cond (.t 90)
    (.seq (.reg [.r 8 (.mv (.c (.d (.raw (.pointer none))))),
       .r 9 (.mv (.c (.d (.int .i64 2))))])
    .ret)
    .skip))
  (.seq (.reg [.r 91 (.mv (.t 11)),
     .r 8 (.mv (.t 91)),
     .r 9 (.mv (.c (.d (.int .i64 0))))])
  .ret)))))))
theorem fit_wire_written : fits Tryd.prog 17 Tryd.f17 sc_wire_written [.t 8, .t 9] 4 = true := by kernel_rfl

set_option maxRecDepth 100000 in
set_option maxHeartbeats 40000000 in
noncomputable def sims_G6_2_1 : (∀ (x0 : List Tapi_Segment) (x1 : Tapi_Marks) (x2 : Bool) (x3 : Int), {m : Option ((Option Twire_writer) × Int) // ∀ r, m = some r → PureSpec Tryd.prog 17 [.slice (List.map rTapi_Segment x0), .agg (rTapi_Marks x1), .bool x2, .int .i64 x3] (.tup [(optP rTwire_writer r.1), .int .i64 r.2])}) := by
  (intro x0 x1 x2 x3; apply Subtype.mk; intro r hm; apply pure_walk Tryd.func17 fit_wire_written; unfold sc_wire_written)
  repeat' (first | ((with_reducible apply W_openBs (id := 27) (cid := 1870) (off := 6) (n := 1) (e := 5)); (focus (simp only [push_cast, seval]; (try rfl); done)); (focus (simp only [push_cast, seval]; (try rfl); done)); (focus decide); (focus rfl); (focus (intro _; rfl)); (focus (simp only [push_cast, seval]; (try rfl); done))) | ((with_reducible apply W_nilB (id := 27) (cid := 1870) (off := 6) (n := 1) (e := 5)); (focus (simp only [push_cast, seval]; (try rfl); done)); (focus (simp only [push_cast, seval]; (try rfl); done)); (focus decide); (focus (simp only [push_cast, seval]; (try rfl); done))) | ((with_reducible apply W_openBs (id := 27) (cid := 1871) (off := 7) (n := 6) (e := 86)); (focus (simp only [push_cast, seval]; (try rfl); done)); (focus (simp only [push_cast, seval]; (try rfl); done)); (focus decide); (focus rfl); (focus (intro _; rfl)); (focus (simp only [push_cast, seval]; (try rfl); done))) | ((with_reducible apply W_nilB (id := 27) (cid := 1871) (off := 7) (n := 6) (e := 86)); (focus (simp only [push_cast, seval]; (try rfl); done)); (focus (simp only [push_cast, seval]; (try rfl); done)); (focus decide); (focus (simp only [push_cast, seval]; (try rfl); done))) | ((with_reducible apply W_openBs (id := 27) (cid := 1872) (off := 8) (n := 1) (e := 3)); (focus (simp only [push_cast, seval]; (try rfl); done)); (focus (simp only [push_cast, seval]; (try rfl); done)); (focus decide); (focus rfl); (focus (intro _; rfl)); (focus (simp only [push_cast, seval]; (try rfl); done))) | ((with_reducible apply W_nilB (id := 27) (cid := 1872) (off := 8) (n := 1) (e := 3)); (focus (simp only [push_cast, seval]; (try rfl); done)); (focus (simp only [push_cast, seval]; (try rfl); done)); (focus decide); (focus (simp only [push_cast, seval]; (try rfl); done))) | with_reducible refine W_seq ?_ | with_reducible refine W_reg ?_ | with_reducible refine W_block ?_ | with_reducible refine W_skip ?_ | with_reducible refine W_ret ?_ | with_reducible refine W_exit ?_ | with_reducible refine O_nil ?_ | with_reducible refine K_seq ?_ | with_reducible refine K_seqE ?_ | with_reducible refine K_seqR ?_ | with_reducible refine K_block ?_ | with_reducible refine K_blockE ?_ | with_reducible refine O_o2r ?_ | ((with_reducible apply O_idxr hm); (iterate 2 (simp only [push_cast, seval]; rfl)); (intro _; rfl); intro e hm) | ((with_reducible apply O_r); (simp only [push_cast, seval]; rfl); (first | exact trivial)) | ((with_reducible apply O_and hm); (simp only [push_cast, seval]; rfl); rfl; intro v hm; rotate_left; intro v g hm) | ((with_reducible apply O_or hm); (simp only [push_cast, seval]; rfl); rfl; intro v hm; rotate_left; intro v g hm) | ((with_reducible apply O_cF hm); (simp only [push_cast, seval]; rfl); (first | apply spec_wire_checkBoth _ _ | apply spec_slices_ContainsFunc_string_string _ _ _ _ (fun a0 r h => spec_wire_written_1 a0 _ r h)); (any_goals ((repeat' (first | rfl)); done)); intro x hm) | ((with_reducible apply O_w); (simp only [push_cast, seval]; rfl); (first | exact trivial)) | ((with_reducible apply S_condB hm); (simp only [push_cast, seval]; rfl); intro hm; rotate_left; intro hm) | ((with_reducible apply K_end2 hm); (focus (simp only [resOf, resL, RV.get, push_cast, seval]; rfl)); (focus (first | (dsimp only; done))); (focus ((repeat' (first | rfl | (with_reducible first | apply fT_Twire_writer | apply f_optN | apply f_optS | apply f_tup | apply f_cons))); done))) | ((with_reducible apply K_bool hm); (simp only [push_cast, seval]; rfl)) | ((with_reducible apply K_leave hm); intro r hm) | ((apply S_loopY (b := 4) (X := sc_wire_written_B1) (x := sc_wire_written_L1) rfl (fun (c : SV × SV × SV × SV × SV × SV × SV × SV × SV × SV) (s : Tapi_Marks × Bool × (List UInt8) × (List Twire_place) × (List Int) × Bool × Int) => st [(3, c.1), (5, c.2.1), (11, .ref 27 0), (28, c.2.2.1), (29, c.2.2.2.1), (30, c.2.2.2.2.1), (47, c.2.2.2.2.2.1), (48, c.2.2.2.2.2.2.1), (49, c.2.2.2.2.2.2.2.1), (54, c.2.2.2.2.2.2.2.2.1), (55, c.2.2.2.2.2.2.2.2.2), (56, .d (.int .i64 s.2.2.2.2.2.2))] [(1870, .vec 5 1 (vrow rowY s.2.2.1)), (1871, .vec 86 6 (vrow rTwire_place s.2.2.2.1)), (1872, .vec 3 1 (vrow rowI s.2.2.2.2.1)), (27, .box (bT_Twire_writer s.1 s.2.1 1870 1871 1872 s.2.2.2.2.2.1))]) (c := (_, _, _, _, _, _, _, _, _, _)) (s0 := (_, _, _, _, _, _, _)) hm); (focus (first | (dsimp only; done))); (with_reducible refine Then.mk ?_ ?_)) | ((apply S_loopY (b := 2) (X := sc_wire_written_B2) (x := sc_wire_written_L2) rfl (fun (c : SV × SV × SV × SV × SV × SV × SV) (s : Tapi_Marks × Bool × (List UInt8) × (List Twire_place) × (List Int) × Bool × Int) => st [(3, c.1), (5, c.2.1), (11, .ref 27 0), (28, c.2.2.1), (29, c.2.2.2.1), (30, c.2.2.2.2.1), (47, c.2.2.2.2.2.1), (48, c.2.2.2.2.2.2), (49, .d (.int .i64 s.2.2.2.2.2.2))] [(1870, .vec 5 1 (vrow rowY s.2.2.1)), (1871, .vec 86 6 (vrow rTwire_place s.2.2.2.1)), (1872, .vec 3 1 (vrow rowI s.2.2.2.2.1)), (27, .box (bT_Twire_writer s.1 s.2.1 1870 1871 1872 s.2.2.2.2.2.1))]) (c := (_, _, _, _, _, _, _)) (s0 := (_, _, _, _, _, _, _)) hm); (focus (first | (dsimp only; done))); (with_reducible refine Then.mk ?_ ?_)) | ((apply S_loopY (b := 0) (X := sc_wire_written_B3) (x := sc_wire_written_L3) rfl (fun (c : SV × SV × SV × SV) (s : Tapi_Marks × Bool × (List UInt8) × (List Twire_place) × (List Int) × Bool × Int) => st [(3, c.1), (5, c.2.1), (11, .ref 27 0), (28, c.2.2.1), (29, c.2.2.2), (30, .d (.int .i64 s.2.2.2.2.2.2))] [(1870, .vec 5 1 (vrow rowY s.2.2.1)), (1871, .vec 86 6 (vrow rTwire_place s.2.2.2.1)), (1872, .vec 3 1 (vrow rowI s.2.2.2.2.1)), (27, .box (bT_Twire_writer s.1 s.2.1 1870 1871 1872 s.2.2.2.2.2.1))]) (c := (_, _, _, _)) (s0 := (_, _, _, _, _, _, _)) hm); (focus (first | (dsimp only; done))); (with_reducible refine Then.mk ?_ ?_)) | ((apply K_next (s' := (_, _, _, _, _, _, _)) hm); (focus (first | (dsimp only; done)))) | ((apply K_brk (s' := (_, _, _, _, _, _, _)) hm); (focus (first | (dsimp only; done)))) | (((with_reducible apply O_pM hm (id := 27) (ms := [.sh, .sh, .sh, .sh, .sh, .sh, .sl 5 (List.replicate 1 .sh), .sl 86 (List.replicate 6 .sh), .sl 3 (List.replicate 1 .sh), .sh])); (focus ((try ((apply Imp.trans); (focus ((apply imp_closeBs (id := 27) (cid := 1870) (off := 6) (n := 1) (e := 5)); (focus (simp only [push_cast, seval]; (try rfl); done)); (focus (simp only [push_cast, seval]; (try rfl); done)); (focus decide); (focus (simp only [push_cast, seval]; (try rfl); done)); (focus ((repeat' (first | (with_reducible first | apply r_rfl))); done)); (focus (intro _; rfl)); (focus (simp only [push_cast, seval]; (try rfl); done)))))); (try ((apply Imp.trans); (focus ((apply imp_closeBs (id := 27) (cid := 1871) (off := 7) (n := 6) (e := 86)); (focus (simp only [push_cast, seval]; (try rfl); done)); (focus (simp only [push_cast, seval]; (try rfl); done)); (focus decide); (focus (simp only [push_cast, seval]; (try rfl); done)); (focus ((repeat' (first | (with_reducible first | apply r_rfl))); done)); (focus (intro _; rfl)); (focus (simp only [push_cast, seval]; (try rfl); done)))))); (try ((apply Imp.trans); (focus ((apply imp_closeBs (id := 27) (cid := 1872) (off := 8) (n := 1) (e := 3)); (focus (simp only [push_cast, seval]; (try rfl); done)); (focus (simp only [push_cast, seval]; (try rfl); done)); (focus decide); (focus (simp only [push_cast, seval]; (try rfl); done)); (focus ((repeat' (first | (with_reducible first | apply r_rfl))); done)); (focus (intro _; rfl)); (focus (simp only [push_cast, seval]; (try rfl); done)))))); exact Imp.refl _)); (focus (simp only [push_cast, seval]; (try rfl); done)); (focus (simp only [push_cast, seval]; (try rfl); done)); (focus (simp only [push_cast, seval]; (try rfl); done)); (focus ((repeat' (first | (with_reducible first | apply oT_Twire_writer | apply cT_Tapi_Marks) | ((with_reducible apply svle_eq); (focus (first | rfl)); (focus ((repeat' (first | rfl)); done))) | ((with_reducible apply cle_own); (focus rfl); (focus ((repeat' (first | rfl)); done))))); done)); (focus rfl); (first | apply spec_interchange_wire_writer_segment _ _ _); (any_goals (focus ((repeat' (first | rfl)); done))); (focus (intro _; exact ⟨rfl, rfl, rfl⟩)); intro y hm)) | (((with_reducible apply LoopB.of); (focus (first | (dsimp only; done))); (focus ((intro _; repeat' (first | with_reducible exact impC_end | with_reducible refine impC_seq ?_ | with_reducible refine impC_block ?_ | ((with_reducible refine impC_rnd ?_); intro _) | ((with_reducible refine impC_brk ?_); intro _))))); (intro s o hm; first | unfold sc_wire_written_L1 | unfold sc_wire_written_L2 | unfold sc_wire_written_L3); rotate_left; intro s hm)) | (((apply imp_stT; (repeat' (first | with_reducible exact keepT_nil | with_reducible exact keepC_nil | with_reducible apply keepT_cons | with_reducible apply keepC_cons | ((with_reducible apply svle_eq); (focus (first | (simp only [push_cast, seval]; rfl))); (focus ((repeat' (first | rfl)); done))) | ((with_reducible apply chle_eq); (focus (first | (simp only [push_cast, seval]; rfl))); (first | with_reducible exact chle_rfl rfl | with_reducible apply chle_vec)) | (with_reducible first | apply r_nil))); done))))
noncomputable def m_wire_written (x0 : List Tapi_Segment) (x1 : Tapi_Marks) (x2 : Bool) (x3 : Int) : Option ((Option Twire_writer) × Int) := (sims_G6_2_1 x0 x1 x2 x3).1
theorem spec_wire_written (x0 : List Tapi_Segment) (x1 : Tapi_Marks) (x2 : Bool) (x3 : Int) : ∀ r, m_wire_written x0 x1 x2 x3 = some r → PureSpec Tryd.prog 17 [.slice (List.map rTapi_Segment x0), .agg (rTapi_Marks x1), .bool x2, .int .i64 x3] (.tup [(optP rTwire_writer r.1), .int .i64 r.2]) := (sims_G6_2_1 x0 x1 x2 x3).2

/-- interchange/interchangelaw2.WireCutsMatchSpec -/
def sc_interchangelaw2_WireCutsMatchSpec : SC :=
  (.seq (.reg [.r 3 (.boxI (.t 1)),
     .r 4 (.mv (.c (.d (.bool false))))])
  (.seq (.reg [.r 14 (.mv (.t 0)),
     .o 15 (.ldA 5 (.t 3)),
     .c 16 (.f 5) [.t 14, .t 15],
     .r 13 (.mv (.t 16)),
     .r 17 (.ext (.t 13) 0),
     .r 18 (.ext (.t 13) 1),
     .r 19 (.ext (.t 13) 2),
     .r 20 (.ext (.t 13) 3),
     .r 5 (.mv (.t 17)),
     .r 6 (.mv (.t 18)),
     .r 7 (.mv (.t 19)),
     .r 8 (.mv (.t 20))])
  (.seq (.reg [.r 22 (.mv (.t 0)),
     .o 23 (.ldA 5 (.t 3)),
     .c 24 (.f 6) [.t 22, .t 23],
     .r 21 (.mv (.t 24)),
     .r 25 (.ext (.t 21) 0),
     .r 26 (.ext (.t 21) 1),
     .r 27 (.ext (.t 21) 2),
     .r 28 (.ext (.t 21) 3),
     .r 9 (.mv (.t 25)),
     .r 10 (.mv (.t 26)),
     .r 11 (.mv (.t 27)),
     .r 12 (.mv (.t 28))])
  (.seq (.reg (.r 29 (.mv (.t 5)) :: .r 30 (.mv (.t 9)) :: .c 31 (.f 7) [.t 29, .t 30] :: .r 32 (.mv (.t 31)) :: gapp [33, 34, 35] 32 true (.r 33 (.mv (.t 6)) :: .r 34 (.mv (.t 10)) :: .r 35 (.binB .eql (.t 33) (.t 34)) :: []) (.r 36 (.pick (.t 32) (.t 35) (.c (.d (.bool false)))) :: .r 37 (.mv (.t 36)) :: gapp [38, 39, 40] 37 true (.r 38 (.mv (.t 7)) :: .r 39 (.mv (.t 11)) :: .r 40 (.bin .eql (.t 38) (.t 39)) :: []) (.r 41 (.pick (.t 37) (.t 40) (.c (.d (.bool false)))) :: .r 42 (.mv (.t 41)) :: gapp [43, 44, 45] 42 true (.r 43 (.mv (.t 8)) :: .r 44 (.mv (.t 12)) :: .r 45 (.bin .eql (.t 43) (.t 44)) :: []) (.r 46 (.pick (.t 42) (.t 45) (.c (.d (.bool false)))) :: .r 47 (.mv (.t 46)) :: gapp [48] 47 true (.c 48 (.f 8) [] :: []) (.r 49 (.pick (.t 47) (.t 48) (.c (.d (.bool false)))) :: .r 4 (.mv (.t 49)) :: []))))))
  .ret))))
theorem fit_interchangelaw2_WireCutsMatchSpec : fits Tryd.prog 3 Tryd.f3 sc_interchangelaw2_WireCutsMatchSpec [.t 4] 2 = true := by kernel_rfl

/-- interchange/wire.Join -/
def sc_wire_Join : SC :=
  (.seq (.reg [.r 4 (.boxI (.t 1)),
     .r 6 (.mv (.c (.nils))),
     .r 7 (.mv (.c (.d (.int .i64 0))))])
  (.seq (.reg [.r 11 (.mv (.t 0)),
     .o 12 (.ldA 5 (.t 4)),
     .r 13 (.mv (.t 2)),
     .c 14 (.f 17) [.t 11, .t 12, .t 13, .c (.d (.int .i64 500000))],
     .r 10 (.mv (.t 14)),
     .r 15 (.ext (.t 10) 0),
     .r 16 (.ext (.t 10) 1),
     .r 8 (.mv (.t 15)),
     .r 9 (.mv (.t 16))])
  (.seq (.seq (.reg [.r 17 (.mv (.t 9)),
     .r 18 (.bin .neq (.t 17) (.c (.d (.int .i64 0))))])
  (.cond (.t 18)
    (.seq (.reg [.r 19 (.mv (.t 9)),
       .r 6 (.mv (.c (.nils))),
       .r 7 (.mv (.t 19))])
    .ret)
    .skip))
  (.seq (.reg [.r 20 (.mv (.t 8)),
     .r 21 (.nilc (.t 20)),
     .r 22 (.fld 6 (.t 21)),
     .o 23 (.ld1 (.t 22)),
     .r 6 (.mv (.t 23)),
     .r 7 (.mv (.c (.d (.int .i64 0))))])
  .ret))))
theorem fit_wire_Join : fits Tryd.prog 9 Tryd.f9 sc_wire_Join [.t 6, .t 7] 3 = true := by kernel_rfl

set_option maxRecDepth 100000 in
set_option maxHeartbeats 40000000 in
noncomputable def sims_G6_3_0 : (∀ (x0 : List UInt8) (x1 : Tapi_Marks), {m : Option (Bool) // ∀ r, m = some r → PureSpec Tryd.prog 3 [.slice (List.map rowY x0), .agg (rTapi_Marks x1)] (.bool r)}) × (∀ (x0 : List Tapi_Segment) (x1 : Tapi_Marks) (x2 : Bool), {m : Option ((List UInt8) × Int) // ∀ r, m = some r → PureSpec Tryd.prog 9 [.slice (List.map rTapi_Segment x0), .agg (rTapi_Marks x1), .bool x2] (.tup [.slice (List.map rowY r.1), .int .i64 r.2])}) := by
  refine ⟨?g0, ?g1⟩
  case' g0 => (intro x0 x1; apply Subtype.mk; intro r hm; apply pure_walk Tryd.func3 fit_interchangelaw2_WireCutsMatchSpec; unfold sc_interchangelaw2_WireCutsMatchSpec)
  case' g1 => (intro x0 x1 x2; apply Subtype.mk; intro r hm; apply pure_walk Tryd.func9 fit_wire_Join; unfold sc_wire_Join)
  all_goals (repeat' (first | with_reducible refine W_seq ?_ | with_reducible refine W_reg ?_ | with_reducible refine W_skip ?_ | with_reducible refine W_ret ?_ | with_reducible refine O_nil ?_ | with_reducible refine K_seq ?_ | with_reducible refine K_seqR ?_ | with_reducible refine O_o2r ?_ | ((with_reducible apply O_nilcO hm); (simp only [push_cast, seval]; rfl); intro a hm) | ((with_reducible apply O_r); (simp only [push_cast, seval]; rfl); (first | exact trivial)) | ((with_reducible apply O_and hm); (simp only [push_cast, seval]; rfl); rfl; intro v hm; rotate_left; intro v g hm) | ((with_reducible apply O_cF hm); (simp only [push_cast, seval]; rfl); (first | apply spec_wire_Cut _ _ | apply spec_interchangeref2_Cut _ _ | apply spec_interchangeref2_SameSegments _ _ | apply spec_interchangelaw2_awake | apply spec_wire_written _ _ _ _); (any_goals ((repeat' (first | rfl)); done)); intro x hm) | ((with_reducible apply S_condB hm); (simp only [push_cast, seval]; rfl); intro hm; rotate_left; intro hm) | ((with_reducible apply K_end2 hm); (focus (simp only [resOf, resL, RV.get, push_cast, seval]; rfl)); (focus (first | (dsimp only; done))); (focus ((repeat' (first | rfl | (with_reducible first | apply f_tup | apply dv_slice | apply f_cons | apply fold_nil))); done))) | ((with_reducible apply K_endS hm); (focus (simp only [resOf, resL, RV.get, push_cast, seval]; rfl)); (focus ((repeat' (first | rfl)); done))) | ((with_reducible apply K_bool hm); (simp only [push_cast, seval]; rfl))))
noncomputable def m_wire_Join (x0 : List Tapi_Segment) (x1 : Tapi_Marks) (x2 : Bool) : Option ((List UInt8) × Int) := (sims_G6_3_0.2 x0 x1 x2).1
theorem spec_wire_Join (x0 : List Tapi_Segment) (x1 : Tapi_Marks) (x2 : Bool) : ∀ r, m_wire_Join x0 x1 x2 = some r → PureSpec Tryd.prog 9 [.slice (List.map rTapi_Segment x0), .agg (rTapi_Marks x1), .bool x2] (.tup [.slice (List.map rowY r.1), .int .i64 r.2]) := (sims_G6_3_0.2 x0 x1 x2).2

/-- interchange/interchangelaw2.WireBytesComeBack -/
def sc_interchangelaw2_WireBytesComeBack : SC :=
  (.seq (.reg [.r 6 (.boxI (.t 2)),
     .r 8 (.mv (.c (.d (.bool false))))])
  (.seq (.reg [.r 20 (.mv (.t 0)),
     .o 21 (.ldA 5 (.t 6)),
     .c 22 (.f 5) [.t 20, .t 21],
     .r 19 (.mv (.t 22)),
     .r 23 (.ext (.t 19) 0),
     .r 24 (.ext (.t 19) 1),
     .r 25 (.ext (.t 19) 2),
     .r 26 (.ext (.t 19) 3),
     .r 9 (.mv (.t 23)),
     .r 10 (.mv (.t 24)),
     .r 11 (.mv (.t 25)),
     .r 12 (.mv (.t 26))])
  (.seq (.seq (.reg [.r 27 (.mv (.t 12)),
     .r 28 (.bin .eql (.t 27) (.c (.d (.int .i64 0))))])
  (.cond (.t 28)
    (.seq (.reg [.r 30 (.mv (.t 9)),
       .o 31 (.ldA 5 (.t 6)),
       .r 32 (.mv (.t 10)),
       .c 33 (.f 9) [.t 30, .t 31, .t 32],
       .r 29 (.mv (.t 33)),
       .r 34 (.ext (.t 29) 0),
       .r 35 (.ext (.t 29) 1),
       .r 13 (.mv (.t 34)),
       .r 14 (.mv (.t 35))])
    (.seq (.reg (.r 36 (.mv (.t 14)) :: .r 37 (.bin .neq (.t 36) (.c (.d (.int .i64 0)))) :: .r 38 (.mv (.t 37)) :: gapp [39, 40, 41, 42] 38 false (.r 39 (.mv (.t 0)) :: .r 40 (.mv (.t 13)) :: .c 41 (.f 10) [.t 39, .t 40] :: .r 42 (.not (.t 41)) :: []) (.r 43 (.pick (.t 38) (.c (.d (.bool true))) (.t 42)) :: [])))
    (.cond (.t 43)
      (.seq (.reg [.r 8 (.mv (.c (.d (.bool false))))])
      .ret)
      .skip)))
    .skip))
  (.seq (.reg [.r 45 (.mv (.t 1)),
     .o 46 (.ldA 5 (.t 6)),
     .r 47 (.mv (.t 3)),
     .c 48 (.f 9) [.t 45, .t 46, .t 47],
     .r 44 (.mv (.t 48)),
     .r 49 (.ext (.t 44) 0),
     .r 50 (.ext (.t 44) 1),
     .r 15 (.mv (.t 49)),
     .r 12 (.mv (.t 50))])
  (.seq (.seq (.reg [.r 51 (.mv (.t 12)),
     .r 52 (.bin .neq (.t 51) (.c (.d (.int .i64 0))))])
  (.cond (.t 52)
    (.seq (.reg (.r 53 (.mv (.t 15)) :: .r 54 (.len (.t 53)) :: .r 55 (.bin .eql (.t 54) (.c (.d (.int .i64 0)))) :: .r 56 (.mv (.t 55)) :: gapp [57] 56 true (.c 57 (.f 8) [] :: []) (.r 58 (.pick (.t 56) (.t 57) (.c (.d (.bool false)))) :: .r 8 (.mv (.t 58)) :: [])))
    .ret)
    .skip))
  (.seq (.reg [.r 60 (.mv (.t 15)),
     .o 61 (.ldA 5 (.t 6)),
     .c 62 (.f 5) [.t 60, .t 61],
     .r 59 (.mv (.t 62)),
     .r 63 (.ext (.t 59) 0),
     .r 64 (.ext (.t 59) 1),
     .r 65 (.ext (.t 59) 2),
     .r 66 (.ext (.t 59) 3),
     .r 16 (.mv (.t 63)),
     .r 17 (.mv (.t 64)),
     .r 18 (.mv (.t 65)),
     .r 12 (.mv (.t 66))])
  (.seq (.reg (.r 67 (.mv (.t 12)) :: .r 68 (.bin .eql (.t 67) (.c (.d (.int .i64 0)))) :: .r 69 (.mv (.t 68)) :: gapp [70, 71] 69 true (.r 70 (.mv (.t 18)) :: .r 71 (.bin .eql (.t 70) (.c (.d (.int .i64 0)))) :: []) (.r 72 (.pick (.t 69) (.t 71) (.c (.d (.bool false)))) :: .r 73 (.mv (.t 72)) :: gapp [74, 75, 76, 77, 78, 79, 80, 81] 73 true (.r 74 (.mv (.t 17)) :: .r 75 (.mv (.t 3)) :: .r 76 (.mv (.t 75)) :: gapp [77, 78, 79] 76 true (.r 77 (.mv (.t 1)) :: .r 78 (.len (.t 77)) :: .r 79 (.bin .gtr (.t 78) (.c (.d (.int .i64 0)))) :: []) (.r 80 (.pick (.t 76) (.t 79) (.c (.d (.bool false)))) :: .r 81 (.binB .eql (.t 74) (.t 80)) :: [])) (.r 82 (.pick (.t 73) (.t 81) (.c (.d (.bool false)))) :: .r 83 (.mv (.t 82)) :: gapp [84, 85, 86] 83 true (.r 84 (.mv (.t 1)) :: .r 85 (.mv (.t 16)) :: .c 86 (.f 7) [.t 84, .t 85] :: []) (.r 87 (.pick (.t 83) (.t 86) (.c (.d (.bool false)))) :: .r 88 (.mv (.t 87)) :: gapp [89] 88 true (.c 89 (.f 8) [] :: []) (.r 90 (.pick (.t 88) (.t 89) (.c (.d (.bool false)))) :: .r 8 (.mv (.t 90)) :: []))))))
  .ret)))))))
theorem fit_interchangelaw2_WireBytesComeBack : fits Tryd.prog 4 Tryd.f4 sc_interchangelaw2_WireBytesComeBack [.t 8] 4 = true := by kernel_rfl

set_option maxRecDepth 100000 in
set_option maxHeartbeats 40000000 in
noncomputable def sims_G6_4_0 : (∀ (x0 : List UInt8) (x1 : List Tapi_Segment) (x2 : Tapi_Marks) (x3 : Bool), {m : Option (Bool) // ∀ r, m = some r → PureSpec Tryd.prog 4 [.slice (List.map rowY x0), .slice (List.map rTapi_Segment x1), .agg (rTapi_Marks x2), .bool x3] (.bool r)}) := by
  (intro x0 x1 x2 x3; apply Subtype.mk; intro r hm; apply pure_walk Tryd.func4 fit_interchangelaw2_WireBytesComeBack; unfold sc_interchangelaw2_WireBytesComeBack)
  repeat' (first | with_reducible refine W_seq ?_ | with_reducible refine W_reg ?_ | with_reducible refine W_skip ?_ | with_reducible refine W_ret ?_ | with_reducible refine O_nil ?_ | with_reducible refine K_seq ?_ | with_reducible refine K_seqR ?_ | with_reducible refine O_o2r ?_ | ((with_reducible apply O_r); (simp only [push_cast, seval]; rfl); (first | exact trivial)) | ((with_reducible apply O_and hm); (simp only [push_cast, seval]; rfl); rfl; intro v hm; rotate_left; intro v g hm) | ((with_reducible apply O_or hm); (simp only [push_cast, seval]; rfl); rfl; intro v hm; rotate_left; intro v g hm) | ((with_reducible apply O_cF hm); (simp only [push_cast, seval]; rfl); (first | apply spec_wire_Cut _ _ | apply spec_wire_Join _ _ _ | apply spec_bytes_Equal _ _ | apply spec_interchangelaw2_awake | apply spec_interchangeref2_SameSegments _ _); (any_goals ((repeat' (first | rfl)); done)); intro x hm) | ((with_reducible apply S_condB hm); (simp only [push_cast, seval]; rfl); intro hm; rotate_left; intro hm) | ((with_reducible apply K_endS hm); (focus (simp only [resOf, resL, RV.get, push_cast, seval]; rfl)); (focus ((repeat' (first | rfl)); done))) | ((with_reducible apply K_bool hm); (simp only [push_cast, seval]; rfl)))
noncomputable def m_interchangelaw2_WireBytesComeBack (x0 : List UInt8) (x1 : List Tapi_Segment) (x2 : Tapi_Marks) (x3 : Bool) : Option (Bool) := (sims_G6_4_0 x0 x1 x2 x3).1
theorem spec_interchangelaw2_WireBytesComeBack (x0 : List UInt8) (x1 : List Tapi_Segment) (x2 : Tapi_Marks) (x3 : Bool) : ∀ r, m_interchangelaw2_WireBytesComeBack x0 x1 x2 x3 = some r → PureSpec Tryd.prog 4 [.slice (List.map rowY x0), .slice (List.map rTapi_Segment x1), .agg (rTapi_Marks x2), .bool x3] (.bool r) := (sims_G6_4_0 x0 x1 x2 x3).2

end Go.Proofs.YtfbhhhghjehjjaaDoor

/-
  How the parameters of the laws of this seat read, and a world in which the listed tables lie (printed by wip/tool/row.py).
-/
namespace Go.Proofs.YtfbhhhghjehjjaaDoor
open Go.ChangeShapes Go.WideShapes Go.ChangeAt Go.RowKit
set_option linter.unusedSimpArgs false
set_option linter.unusedVariables false
theorem and_t {a b : Bool} (h1 : a = true) (h2 : b = true) : (a && b) = true := by rw [h1, h2]; rfl
/-- How a value of a type reads. -/
def Wt (P : Program) (n : Nat) (t : TypeId) {α : Type} (row : α → List DV) (ok : α → Prop) : Prop := ∀ m ds, WT P (m + n) t ds → ∃ x, ds = row x ∧ ok x
theorem Wt.up {P : Program} {n : Nat} {t : TypeId} {α : Type} {row : α → List DV} {ok : α → Prop} (h : Wt P n t row ok) (k : Nat) : Wt P (n + k) t row ok := fun m ds hd => h (m + k) ds (by rwa [show m + k + n = m + (n + k) by omega])
def okS (s : List UInt8) : Prop := s.length ≤ 9223372036854775807
def okB (_ : Bool) : Prop := True
def okY (_ : UInt8) : Prop := True
def okL {α : Type} (ok : α → Prop) (l : List α) : Prop := l.length ≤ 9223372036854775807 ∧ ∀ a ∈ l, ok a
theorem WT_struct {P : Program} {n : Nat} {t : TypeId} {fs : Array Field} {ds : List DV} (hu : P.underlying t = some (.struct fs)) (h : WT P (n + 1) t ds) : WTS (WT P n) fs.toList ds := by
  simp only [WT, hu] at h; exact h
theorem wt_byte {P : Program} {t : TypeId} (hu : P.underlying t = some (.int .u8)) : Wt P 1 t rowY okY := by
  intro m ds h
  simp only [WT, hu] at h
  obtain ⟨k, rfl, hw⟩ := h
  simp [Lit.wf] at hw
  have e : IntKind.u8.min = 0 := by decide
  have e2 : IntKind.u8.max = 255 := by decide
  refine ⟨UInt8.ofNat k.toNat, ?_, trivial⟩
  have hk : 0 ≤ k ∧ k ≤ 255 := by omega
  unfold rowY
  rw [UInt8.toNat_ofNat_of_lt' (by show k.toNat < 256; omega)]
  congr 2; omega
theorem wt_bool {P : Program} {t : TypeId} (hu : P.underlying t = some .bool) : Wt P 1 t rowB okB := by
  intro m ds h
  simp only [WT, hu] at h
  obtain ⟨b, rfl⟩ := h
  exact ⟨b, rfl, trivial⟩
theorem wt_str {P : Program} {t : TypeId} (hu : P.underlying t = some .string) : Wt P 1 t rowS okS := by
  intro m ds h
  simp only [WT, hu] at h
  obtain ⟨b, rfl, hl⟩ := h
  exact ⟨b, rfl, by unfold okS; unfold maxLen at hl; omega⟩
theorem wt_slice {P : Program} {n : Nat} {t e : TypeId} {α : Type} {row : α → List DV} {ok : α → Prop} (hu : P.underlying t = some (.slice e)) (he : Wt P n e row ok) : Wt P (n + 1) t (rowL row) (okL ok) := by
  intro m ds h
  rw [show m + (n + 1) = (m + n) + 1 by omega] at h
  simp only [WT, hu] at h
  obtain ⟨rows, rfl, hl, hr⟩ := h
  have : ∀ rows : List (List DV), (∀ r ∈ rows, WT P (m + n) e r) → ∃ l : List α, rows = l.map row ∧ ∀ a ∈ l, ok a := by
    intro rows
    induction rows with
    | nil => intro _; exact ⟨[], rfl, by simp⟩
    | cons r rows ih =>
      intro h
      obtain ⟨a, rfl, ha⟩ := he m r (h r (by simp))
      obtain ⟨l, rfl, hl⟩ := ih (fun r hr => h r (by simp [hr]))
      exact ⟨a :: l, rfl, by simpa using ⟨ha, hl⟩⟩
  obtain ⟨l, rfl, hok⟩ := this rows hr
  exact ⟨l, rfl, by unfold maxLen at hl; simp at hl; omega, hok⟩
theorem ownK : ownKnob Tryd.prog.godebug = none := by kernel_rfl
theorem laidOut : laidOutB Tryd.prog = true := by kernel_rfl
theorem wt5 : Wt Tryd.prog 1 5 rowY okY := wt_byte Tryd.underlying5
theorem wt22 : Wt Tryd.prog 2 22 (rowL rowY) (okL okY) := wt_slice Tryd.underlying22 wt5
def okTapi_Marks (x : Tapi_Marks) : Prop := okY x.fElement ∧ okY x.fPart ∧ okY x.fRepeat ∧ okY x.fEscape ∧ okY x.fEnd
set_option maxRecDepth 100000 in
theorem wt24 : Wt Tryd.prog 2 24 rTapi_Marks okTapi_Marks := by
  intro m ds h
  have h := WT_struct Tryd.underlying24 h
  simp only [WTS] at h
  obtain ⟨a0, _, rfl, h0, a1, _, rfl, h1, a2, _, rfl, h2, a3, _, rfl, h3, a4, _, rfl, h4, rfl⟩ := h
  obtain ⟨x0, rfl, o0⟩ := (wt5.up 0) m _ h0
  obtain ⟨x1, rfl, o1⟩ := (wt5.up 0) m _ h1
  obtain ⟨x2, rfl, o2⟩ := (wt5.up 0) m _ h2
  obtain ⟨x3, rfl, o3⟩ := (wt5.up 0) m _ h3
  obtain ⟨x4, rfl, o4⟩ := (wt5.up 0) m _ h4
  refine ⟨⟨x0, x1, x2, x3, x4⟩, ?_, o0, o1, o2, o3, o4⟩
  simp only [rTapi_Marks, rowI, rowY, rowS, rowB, rowL, List.append_assoc, List.cons_append, List.nil_append, List.append_nil]
theorem wt9 : Wt Tryd.prog 1 9 rowS okS := wt_str Tryd.underlying9
theorem wt66 : Wt Tryd.prog 2 66 (rowL rowS) (okL okS) := wt_slice Tryd.underlying66 wt9
theorem wt62 : Wt Tryd.prog 3 62 (rowL (rowL rowS)) (okL (okL okS)) := wt_slice Tryd.underlying62 wt66
def okTapi_Element (x : Tapi_Element) : Prop := (okL (okL okS)) x.fRepeats
set_option maxRecDepth 100000 in
theorem wt64 : Wt Tryd.prog 4 64 rTapi_Element okTapi_Element := by
  intro m ds h
  have h := WT_struct Tryd.underlying64 h
  simp only [WTS] at h
  obtain ⟨a0, _, rfl, h0, rfl⟩ := h
  obtain ⟨x0, rfl, o0⟩ := (wt62.up 0) m _ h0
  refine ⟨⟨x0⟩, ?_, o0⟩
  simp only [rTapi_Element, rowI, rowY, rowS, rowB, rowL, List.append_assoc, List.cons_append, List.nil_append, List.append_nil]
theorem wt44 : Wt Tryd.prog 5 44 (rowL rTapi_Element) (okL okTapi_Element) := wt_slice Tryd.underlying44 wt64
def okTapi_Segment (x : Tapi_Segment) : Prop := okS x.fTag ∧ (okL okTapi_Element) x.fElements
set_option maxRecDepth 100000 in
theorem wt46 : Wt Tryd.prog 6 46 rTapi_Segment okTapi_Segment := by
  intro m ds h
  have h := WT_struct Tryd.underlying46 h
  simp only [WTS] at h
  obtain ⟨a0, _, rfl, h0, a1, _, rfl, h1, rfl⟩ := h
  obtain ⟨x0, rfl, o0⟩ := (wt9.up 4) m _ h0
  obtain ⟨x1, rfl, o1⟩ := (wt44.up 0) m _ h1
  refine ⟨⟨x0, x1⟩, ?_, o0, o1⟩
  simp only [rTapi_Segment, rowI, rowY, rowS, rowB, rowL, List.append_assoc, List.cons_append, List.nil_append, List.append_nil]
theorem wt25 : Wt Tryd.prog 7 25 (rowL rTapi_Segment) (okL okTapi_Segment) := wt_slice Tryd.underlying25 wt46
theorem wt4 : Wt Tryd.prog 1 4 rowB okB := wt_bool Tryd.underlying4
def layVals : Nat → DataW Unit → List Value
  | 0, _ => []
  | _ + 1, .lit (.int k n) => [.int k n]
  | n + 1, .agg ps => ps.flatMap (layVals n)
  | _ + 1, _ => []
/-- The settled world, with the listed tables in it. -/
def layCells (l : List Value) : Obj → Obj
  | .cells _ t frozen => .cells l.toArray t frozen
  | o => o
noncomputable def laidWorld (os : Os) : World :=
  { World.holding Tryd.prog os ⟨#[], #[], []⟩ with
    heap := (((World.holding Tryd.prog os ⟨#[], #[], []⟩).heap.modify 2 (layCells (layVals 5 Rows.laid_unicode_utf8_acceptRanges))).modify 1 (layCells (layVals 5 Rows.laid_unicode_utf8_first))) }
end Go.Proofs.YtfbhhhghjehjjaaDoor

/-
  The functions of the wire.
-/


/-
  Plain laws: small computations, and loops whose rounds are known.
-/
namespace Go.Proofs.YtfbhhhghjehjjaaDoor
set_option linter.unusedSimpArgs false
set_option linter.unusedVariables false
open Go.RowKit

/-! ### Small computations that cannot fail -/
theorem andO_some (a b : Bool) : andO a (some b) = some (a && b) := by cases a <;> rfl
theorem orO_some (a b : Bool) : orO a (some b) = some (a || b) := by cases a <;> rfl
theorem getI_nat {α : Type} (l : List α) (i : Nat) : getI l (i : Int) = l[i]? := by simp [getI]
theorem thenO_some {R : Type} {c : Option Unit} {m : Option R} (h : c = some ()) : thenO c m = m := by rw [h]; rfl
theorem lenO_ok {n : Nat} (h : n ≤ 137438953472) : lenO n = some () := by simp [lenO, h]
theorem wrapN (i : Nat) (h : i < 9223372036854775807) : IntKind.i64.wrap ((i : Int) + 1) = ((i + 1 : Nat) : Int) := by rw [wrap64 _ (by omega) (by omega)]; simp


/-! ### Loops whose rounds are known -/
theorem loop_trace {S A : Type} {f : S → Option (S ⊕ A)} {a : A} (st : Nat → S) (n : Nat) (hs : ∀ i, i < n → f (st i) = some (.inl (st (i + 1)))) (he : f (st n) = some (.inr a)) : loopC f (st 0) = some a := by
  have : ∀ k, k ≤ n → loopC f (st (n - k)) = some a := by
    intro k
    induction k with
    | zero => intro _; rw [loopC_eq, Nat.sub_zero, he]
    | succ k ih =>
      intro hk
      rw [loopC_eq, hs (n - (k + 1)) (by omega), show n - (k + 1) + 1 = n - k by omega]
      exact ih (by omega)
  have := this n (Nat.le_refl n)
  rwa [Nat.sub_self] at this
theorem bind_loop {S A R : Type} {f : S → Option (S ⊕ A)} {s0 : S} {k : A → Option R} {a : A} {r : Option R} (h : loopC f s0 = some a) (hk : k a = r) : (loopC f s0).bind k = r := by rw [h]; exact hk
theorem take_snoc {α : Type} {l : List α} {i : Nat} {e : α} (h : l[i]? = some e) : l.take (i + 1) = l.take i ++ [e] := by rw [List.take_add_one, h]; rfl
theorem get_lt {α : Type} {l : List α} {i : Nat} (h : i < l.length) : ∃ e, l[i]? = some e := ⟨_, List.getElem?_eq_getElem h⟩
theorem lt_dec {i n : Nat} (h : i < n) : decide ((i : Int) < (n : Int)) = true := by simpa using h
theorem lt_dec_self (n : Nat) : decide ((n : Int) < (n : Int)) = false := by simp
end Go.Proofs.YtfbhhhghjehjjaaDoor

/-
  Plain laws of the wire: marks.
-/
namespace Go.Proofs.YtfbhhhghjehjjaaDoor
set_option linter.unusedSimpArgs false
set_option linter.unusedVariables false
open Go.RowKit

def markB (b : UInt8) : Bool := !(decide ((b.toNat : Int) < 33) || decide (126 < (b.toNat : Int)) || decide ((b.toNat : Int) = 46) || decide ((b.toNat : Int) = 45) || decide ((b.toNat : Int) = 43) || decide ((b.toNat : Int) = 95)) && !(decide (65 ≤ (b.toNat : Int)) && decide ((b.toNat : Int) ≤ 90) || decide (97 ≤ (b.toNat : Int)) && decide ((b.toNat : Int) ≤ 122) || decide (48 ≤ (b.toNat : Int)) && decide ((b.toNat : Int) ≤ 57))
theorem bif_not (c d : Bool) : (bif c then some false else some (!d)) = some (!c && !d) := by cases c <;> rfl
theorem r_mark (b : UInt8) : m_interchangeref2_mark b = some (markB b) := by
  unfold m_interchangeref2_mark sims_G1_0_0; dsimp only
  simp only [orO_some, andO_some, Option.bind_some, markB]
  exact bif_not _ _
/-- A loop over a list that ends at the first element of which h says something. -/
theorem loop_find {α R : Type} (l : List α) (h : α → Option R) {f : Int → Option (Int ⊕ (Int ⊕ R))} (hb : ∀ (i : Nat) (e : α), l[i]? = some e → f (i : Int) = (match h e with | some a => some (.inr (.inr a)) | none => some (.inl ((i + 1 : Nat) : Int))))
    (he : f (l.length : Int) = some (.inr (.inl (l.length : Int)))) : loopC f 0 = some (match l.findSome? h with | some a => .inr a | none => .inl (l.length : Int)) := by
  have : ∀ (t : List α) (i : Nat), l.drop i = t → i ≤ l.length → loopC f (i : Int) = some (match t.findSome? h with | some a => .inr a | none => .inl (l.length : Int)) := by
    intro t
    induction t with
    | nil =>
      intro i hd hi
      have : i = l.length := by have := congrArg List.length hd; simp at this; omega
      subst this
      rw [loopC_eq, he]
      rfl
    | cons e t ih =>
      intro i hd hi
      have h1 : l[i]? = some e := by
        have := congrArg (fun q => q[0]?) hd
        simpa using this
      have h2 : i < l.length := by
        rcases Nat.lt_or_ge i l.length with h | h
        · exact h
        · rw [List.drop_eq_nil_of_le h] at hd; cases hd
      have h3 : l.drop (i + 1) = t := by
        have := congrArg List.tail hd
        simpa using this
      rw [loopC_eq, hb i e h1, List.findSome?_cons]
      cases h e with
      | some a => rfl
      | none => exact ih (i + 1) h3 h2
  exact this l 0 rfl (Nat.zero_le _)
theorem inBytes_eq (l : List UInt8) (lo hi : UInt8) (hl : l.length < 9223372036854775807) : m_kit_InBytes l lo hi = some (match l.findSome? fun x => if (decide ((x.toNat : Int) < (lo.toNat : Int)) || decide ((hi.toNat : Int) < (x.toNat : Int))) = true then some false else none with | some b => b | none => true) := by
  unfold m_kit_InBytes sims_G1_0_0; dsimp only
  refine bind_loop (loop_find l (fun x => if (decide ((x.toNat : Int) < (lo.toNat : Int)) || decide ((hi.toNat : Int) < (x.toNat : Int))) = true then some false else none) (fun i e h => ?_) ?_) ?_
  · obtain ⟨hi', -⟩ := List.getElem?_eq_some_iff.1 h
    simp only [lt_dec hi', cond_true, getI_nat, h, Option.bind_some, orO_some, wrapN i (by omega)]
    cases (decide ((e.toNat : Int) < (lo.toNat : Int)) || decide ((hi.toNat : Int) < (e.toNat : Int))) <;> rfl
  · simp only [lt_dec_self, cond_false]; rfl
  · cases l.findSome? _ <;> rfl
theorem enc_ascii (b : UInt8) (h : b.toNat < 128) : (Utf8.encode (b.toNat : Int)).data.toList = [b] := by
  have : ∀ n : Fin 128, (Utf8.encode ((n.1 : Nat) : Int)).data.toList = [UInt8.ofNat n.1] := by decide
  have := this ⟨b.toNat, h⟩
  rw [this]
  simp
end Go.Proofs.YtfbhhhghjehjjaaDoor

/-
  Plain laws of the wire: a byte that may be a mark.
-/
namespace Go.Proofs.YtfbhhhghjehjjaaDoor
set_option linter.unusedSimpArgs false
set_option linter.unusedVariables false
open Go.RowKit

def tagSet : List UInt8 := [65, 66, 67, 68, 69, 70, 71, 72, 73, 74, 75, 76, 77, 78, 79, 80, 81, 82, 83, 84, 85, 86, 87, 88, 89, 90, 48, 49, 50, 51, 52, 53, 54, 55, 56, 57]
theorem isTagPart_eq (l : List UInt8) (hl : l.length ≤ 9223372036854775807) : m_kit_IsTagPart l = some (decide (Lib.trimS l tagSet = [])) := by
  unfold m_kit_IsTagPart sims_G1_0_0; dsimp only
  have : m_strings_Trim l tagSet = some (Lib.trimS l tagSet) := by unfold m_strings_Trim; rw [if_pos ⟨hl, by decide, by decide⟩]
  simp only [tagSet] at this ⊢
  rw [this]
  rfl
def wMark (b : UInt8) : Bool := !decide (Lib.trimS [b] tagSet = []) && !(match [b].findSome? fun x => if (decide ((x.toNat : Int) < 97) || decide ((122 : Int) < (x.toNat : Int))) = true then some false else none with | some b => b | none => true) && !Lib.containsAny [b] [46, 45, 43, 95]
theorem wMark_all : (List.range 256).all (fun n => decide (n < 33) || decide (126 < n) || (wMark (UInt8.ofNat n) == markB (UInt8.ofNat n))) = true := by kernel_rfl
theorem w_mark (b : UInt8) : m_wire_isMarkByte b = some (markB b) := by
  unfold m_wire_isMarkByte sims_G1_1_0; dsimp only
  by_cases h : 33 ≤ b.toNat ∧ b.toNat ≤ 126
  · have hc : m_strings_ContainsAny [b] [46, 45, 43, 95] = some (Lib.containsAny [b] [46, 45, 43, 95]) := by
      unfold m_strings_ContainsAny
      rw [if_pos ⟨by simp, by simp, by simp; omega, by decide⟩]
    have hw := List.all_eq_true.1 wMark_all b.toNat (List.mem_range.2 b.toNat_lt)
    have hb : UInt8.ofNat b.toNat = b := by simp
    rw [hb] at hw
    have d1 : decide ((33 : Int) ≤ (b.toNat : Int)) = true := by simp; omega
    have d2 : decide ((b.toNat : Int) ≤ 126) = true := by simp; omega
    have d3 : decide (b.toNat < 33) = false := by simp; omega
    have d4 : decide (126 < b.toNat) = false := by simp; omega
    simp only [d3, d4, Bool.false_or, beq_iff_eq] at hw
    rw [← hw]
    simp only [enc_ascii b (by omega), isTagPart_eq [b] (by simp), inBytes_eq [b] _ _ (by simp), hc, andO_some, Option.bind_some, d1, d2, Bool.true_and]
    rfl
  · have hm : markB b = false := by
      unfold markB
      have : (decide ((b.toNat : Int) < 33) || decide (126 < (b.toNat : Int))) = true := by simp; omega
      rw [this]
      simp
    have d : (decide ((33 : Int) ≤ (b.toNat : Int)) && decide ((b.toNat : Int) ≤ 126)) = false := by simp; omega
    rw [hm]
    simp only [andO_some, Option.bind_some, d]
    rfl
end Go.Proofs.YtfbhhhghjehjjaaDoor

/-
  Plain laws of the wire: texts.
-/
namespace Go.Proofs.YtfbhhhghjehjjaaDoor
set_option linter.unusedSimpArgs false
set_option linter.unusedVariables false
open Go.RowKit

def badT (x : UInt8) : Bool := decide ((x.toNat : Int) < 32) || decide (126 < (x.toNat : Int))
def textF (t : List UInt8) : Int := if 1000 < t.length then 2 else match t.findSome? (fun x => if badT x = true then some (3 : Int) else none) with | some a => a | none => 0
theorem findSome_congr2 {α A B : Type} (p : α → Bool) (a : A) (b : B) : ∀ (l : List α), (l.findSome? (fun x => if p x = true then some a else none) = none ∧ l.findSome? (fun x => if p x = true then some b else none) = none) ∨ (l.findSome? (fun x => if p x = true then some a else none) = some a ∧ l.findSome? (fun x => if p x = true then some b else none) = some b)
  | [] => .inl ⟨rfl, rfl⟩
  | x :: l => by
    rw [List.findSome?_cons, List.findSome?_cons]
    cases h : p x with
    | true => exact .inr ⟨by simp, by simp⟩
    | false => simpa using findSome_congr2 p a b l
theorem r_text (t : List UInt8) : m_interchangeref2_checkText t = some (textF t) := by
  unfold m_interchangeref2_checkText sims_G1_0_0; dsimp only
  unfold textF
  by_cases h : 1000 < t.length
  · have : decide ((1000 : Int) < (t.length : Int)) = true := by simp; omega
    simp only [this, cond_true, h, if_true]
  · have : decide ((1000 : Int) < (t.length : Int)) = false := by simp; omega
    simp only [this, cond_false, h, if_false]
    refine bind_loop (loop_find t (fun x => if badT x = true then some (3 : Int) else none) (fun i e he => ?_) ?_) ?_
    · obtain ⟨hi', -⟩ := List.getElem?_eq_some_iff.1 he
      simp only [lt_dec hi', cond_true, getI_nat, he, Option.bind_some, orO_some, wrapN i (by omega)]
      show (bif badT e then inrO (inrO (some 3)) else some (Sum.inl ((i + 1 : Nat) : Int))) = _
      cases badT e <;> rfl
    · simp only [lt_dec_self, cond_false]; rfl
    · cases t.findSome? _ <;> rfl
theorem w_text (t : List UInt8) : m_wire_textFault t = some (textF t) := by
  unfold m_wire_textFault sims_G1_2_0; dsimp only
  unfold textF
  by_cases h : 1000 < t.length
  · have : decide ((1000 : Int) < (t.length : Int)) = true := by simp; omega
    simp only [this, cond_true, h, if_true]
  · have h1 : decide ((1000 : Int) < (t.length : Int)) = false := by simp; omega
    have h2 : decide ((t.length : Int) ≤ 1000) = true := by simp; omega
    have hT : m_kit_IsText t = some (match t.findSome? fun x => if badT x = true then some false else none with | some b => b | none => true) := by
      unfold m_kit_IsText sims_G1_1_0; dsimp only
      simp only [h2, inBytes_eq t _ _ (by omega), andO_some, Option.bind_some, Bool.true_and]
      rfl
    simp only [h1, cond_false, h, if_false, hT, Option.bind_some]
    rcases findSome_congr2 badT (3 : Int) false t with ⟨e1, e2⟩ | ⟨e1, e2⟩ <;> rw [e1, e2] <;> rfl
end Go.Proofs.YtfbhhhghjehjjaaDoor

/-
  Plain laws: loops over lists with a state and an early end; folds over nested lists.
-/
namespace Go.Proofs.YtfbhhhghjehjjaaDoor
set_option linter.unusedSimpArgs false
set_option linter.unusedVariables false
open Go.RowKit

/-- A loop over a list: the number, the state and the element give the next state or the end. -/
def runI {α S A : Type} (g : Nat → S → α → Option (S ⊕ A)) (fin : S → Option A) : List α → Nat → S → Option A
  | [], _, s => fin s
  | e :: l, i, s => match g i s e with
    | some (.inl s') => runI g fin l (i + 1) s'
    | some (.inr a) => some a
    | none => none
theorem drop_head {α : Type} {l t : List α} {e : α} {i : Nat} (hd : l.drop i = e :: t) : l[i]? = some e ∧ i < l.length ∧ l.drop (i + 1) = t := by
  refine ⟨?_, ?_, ?_⟩
  · have := congrArg (fun q => q[0]?) hd
    simpa using this
  · rcases Nat.lt_or_ge i l.length with h | h
    · exact h
    · rw [List.drop_eq_nil_of_le h] at hd; cases hd
  · have := congrArg List.tail hd
    simpa using this
theorem drop_nil_len {α : Type} {l : List α} {i : Nat} (hd : l.drop i = []) (hi : i ≤ l.length) : i = l.length := by
  have := congrArg List.length hd; simp at this; omega
theorem loop_runI {α S T A : Type} (l : List α) (mk : Nat → S → T) (g : Nat → S → α → Option (S ⊕ A)) (fin : S → Option A) {f : T → Option (T ⊕ A)}
    (hb : ∀ (i : Nat) (e : α) (s : S), l[i]? = some e → f (mk i s) = (match g i s e with | some (.inl s') => some (.inl (mk (i + 1) s')) | some (.inr a) => some (.inr a) | none => none))
    (he : ∀ s, f (mk l.length s) = (fin s).map .inr) (s : S) : loopC f (mk 0 s) = runI g fin l 0 s := by
  have : ∀ (t : List α) (i : Nat) (s : S), l.drop i = t → i ≤ l.length → loopC f (mk i s) = runI g fin t i s := by
    intro t
    induction t with
    | nil =>
      intro i s hd hi
      have := drop_nil_len hd hi
      subst this
      rw [loopC_eq, he]
      simp only [runI]
      cases fin s <;> rfl
    | cons e t ih =>
      intro i s hd hi
      obtain ⟨h1, h2, h3⟩ := drop_head hd
      rw [loopC_eq, hb i e s h1]
      simp only [runI]
      cases g i s e with
      | none => rfl
      | some o =>
        cases o with
        | inr a => rfl
        | inl s' => exact ih (i + 1) s' h3 h2
  exact this l 0 s rfl (Nat.zero_le _)
/-- A loop over a list whose state before each round is known from what is before. -/
theorem loop_pre {α T A : Type} (l : List α) (st : Nat → List α → T) {f : T → Option (T ⊕ A)} {a : A}
    (hb : ∀ (i : Nat) (e : α), l[i]? = some e → f (st i (l.take i)) = some (.inl (st (i + 1) (l.take i ++ [e]))))
    (he : f (st l.length l) = some (.inr a)) : loopC f (st 0 []) = some a := by
  have := loop_trace (f := f) (a := a) (fun i => st i (l.take i)) l.length (fun i hi => by
    obtain ⟨e, h⟩ := get_lt hi
    show f (st i (l.take i)) = some (.inl (st (i + 1) (l.take (i + 1))))
    rw [hb i e h, take_snoc h]) (by
    show f (st l.length (l.take l.length)) = _
    rw [List.take_length]; exact he)
  simpa using this
/-- Each element with its number, and what becomes of them. -/
def ixMap {α β : Type} (f : Nat → α → List β) : Nat → List α → List β
  | _, [] => []
  | i, x :: l => f i x ++ ixMap f (i + 1) l
theorem ixMap_append {α β : Type} (f : Nat → α → List β) : ∀ (l l2 : List α) (i : Nat), ixMap f i (l ++ l2) = ixMap f i l ++ ixMap f (i + l.length) l2
  | [], l2, i => by simp [ixMap]
  | x :: l, l2, i => by
    simp only [List.cons_append, ixMap, ixMap_append f l l2 (i + 1), List.append_assoc, List.length_cons]
    rw [show i + 1 + l.length = i + (l.length + 1) by omega]
theorem ixMap_snoc {α β : Type} (f : Nat → α → List β) (l : List α) (e : α) : ixMap f 0 (l ++ [e]) = ixMap f 0 l ++ f l.length e := by
  rw [ixMap_append]; simp [ixMap]
theorem ixMap_mem {α β : Type} {f : Nat → α → List β} {y : β} : ∀ {l : List α} {i : Nat}, y ∈ ixMap f i l → ∃ k e, l[k]? = some e ∧ y ∈ f (i + k) e
  | [], i, h => by simp [ixMap] at h
  | x :: l, i, h => by
    simp only [ixMap, List.mem_append] at h
    rcases h with h | h
    · exact ⟨0, x, rfl, by simpa using h⟩
    · obtain ⟨k, e, h1, h2⟩ := ixMap_mem h
      exact ⟨k + 1, e, by simpa using h1, by rwa [show i + (k + 1) = i + 1 + k by omega]⟩
theorem ixMap_len {α β : Type} {f : Nat → α → List β} {b : Nat} : ∀ (l : List α) (i : Nat), (∀ i e, e ∈ l → (f i e).length ≤ b) → (ixMap f i l).length ≤ l.length * b
  | [], _, _ => by simp [ixMap]
  | x :: l, i, hf => by
    have h1 := hf i x (by simp)
    have h2 := ixMap_len l (i + 1) (fun i e he => hf i e (by simp [he]))
    simp only [ixMap, List.length_append, List.length_cons, Nat.add_mul, Nat.one_mul]
    omega
theorem take_len {α : Type} {l : List α} {i : Nat} {e : α} (h : l[i]? = some e) : (l.take i).length = i := by
  obtain ⟨hi, -⟩ := List.getElem?_eq_some_iff.1 h
  simp; omega
theorem get_le {α : Type} {l : List α} {i : Nat} {e : α} (h : l[i]? = some e) : i < l.length := (List.getElem?_eq_some_iff.1 h).1
theorem ixMap_all {α β : Type} {f : Nat → α → List β} {P : β → Prop} {l : List α} {i : Nat} (h : ∀ i e, e ∈ l → ∀ y ∈ f i e, P y) : ∀ y ∈ ixMap f i l, P y := fun y hy => by
  obtain ⟨k, e, h1, h2⟩ := ixMap_mem hy
  exact h _ e (List.mem_of_getElem? h1) y h2
theorem thenO_ok {R : Type} {n : Nat} {m : Option R} (h : n ≤ 137438953472) : thenO (lenO n) m = m := thenO_some (lenO_ok h)
theorem mem_take {α : Type} {l : List α} {i : Nat} {x : α} (h : x ∈ l.take i) : x ∈ l := List.mem_of_mem_take h
end Go.Proofs.YtfbhhhghjehjjaaDoor

/-
  Plain laws of the wire: tags, elements, segments.
-/
namespace Go.Proofs.YtfbhhhghjehjjaaDoor
set_option linter.unusedSimpArgs false
set_option linter.unusedVariables false
open Go.RowKit

/-- The first fault of a list. -/
def listF {α : Type} (h : α → Int) : List α → Int
  | [] => 0
  | e :: l => if h e = 0 then listF h l else h e
theorem loop_fault {α R : Type} (l : List α) (h : α → Int) (ret : Int → R) (k : Int → Option R) {f : Int → Option (Int ⊕ (Int ⊕ R))}
    (hb : ∀ (i : Nat) (e : α), l[i]? = some e → f (i : Int) = if h e = 0 then some (.inl ((i + 1 : Nat) : Int)) else some (.inr (.inr (ret (h e)))))
    (he : f (l.length : Int) = some (.inr (.inl (l.length : Int)))) : (loopC f 0).bind (outK k) = if listF h l = 0 then k (l.length : Int) else some (ret (listF h l)) := by
  have : ∀ (t : List α) (i : Nat), l.drop i = t → i ≤ l.length → loopC f (i : Int) = if listF h t = 0 then some (.inl (l.length : Int)) else some (.inr (ret (listF h t))) := by
    intro t
    induction t with
    | nil =>
      intro i hd hi
      have := drop_nil_len hd hi
      subst this
      rw [loopC_eq, he]
      rfl
    | cons e t ih =>
      intro i hd hi
      obtain ⟨h1, h2, h3⟩ := drop_head hd
      rw [loopC_eq, hb i e h1]
      by_cases h0 : h e = 0
      · simp only [listF, h0, if_true]; exact ih (i + 1) h3 h2
      · simp only [listF, h0, if_false]
  have e0 : loopC f 0 = if listF h l = 0 then some (.inl (l.length : Int)) else some (.inr (ret (listF h l))) := this l 0 rfl (Nat.zero_le _)
  rw [e0]
  by_cases h0 : listF h l = 0
  · rw [if_pos h0, if_pos h0]; rfl
  · rw [if_neg h0, if_neg h0]; rfl
theorem listF_zero {α : Type} {h : α → Int} : ∀ {l : List α}, listF h l = 0 → ∀ e ∈ l, h e = 0
  | [], _, e, he => by cases he
  | x :: l, hl, e, he => by
    simp only [listF] at hl
    split at hl
    · rename_i h0
      rcases List.mem_cons.1 he with rfl | he
      · exact h0
      · exact listF_zero hl e he
    · rename_i h0; exact absurd hl h0

/-! ### Elements -/
def repF (l : List (List UInt8)) : Int := if l.length = 0 then 9 else if 20 < l.length then 2 else listF textF l
def elemF (e : Tapi_Element) : Int := if e.fRepeats.length = 0 then 9 else if 20 < e.fRepeats.length then 2 else listF repF e.fRepeats
theorem w_elem (e : Tapi_Element) : m_wire_elementFault e = some (elemF e) := by
  unfold m_wire_elementFault sims_G1_3_0; dsimp only
  unfold elemF
  by_cases h0 : e.fRepeats.length = 0
  · have c : decide ((e.fRepeats.length : Int) = 0) = true := decide_eq_true (by omega)
    simp only [c, cond_true, if_pos h0]
  · have d0 : decide ((e.fRepeats.length : Int) = 0) = false := decide_eq_false (by omega)
    by_cases h1 : 20 < e.fRepeats.length
    · have d1 : decide ((20 : Int) < (e.fRepeats.length : Int)) = true := decide_eq_true (by omega)
      simp only [d0, d1, cond_true, cond_false, h0, h1, if_true, if_false]
    · have d1 : decide ((20 : Int) < (e.fRepeats.length : Int)) = false := decide_eq_false (by omega)
      simp only [d0, d1, cond_false, h0, h1, if_false]
      refine (loop_fault e.fRepeats repF (fun a => a) _ (fun i l he => ?_) ?_).trans ?_
      · have hi := get_le he
        simp only [lt_dec hi, cond_true, getI_nat, he, Option.bind_some, wrapN i (by omega), repF]
        by_cases g0 : l.length = 0
        · have c0 : decide ((l.length : Int) = 0) = true := decide_eq_true (by omega)
          simp only [c0, cond_true, if_pos g0]; rfl
        · have c0 : decide ((l.length : Int) = 0) = false := decide_eq_false (by omega)
          by_cases g1 : 20 < l.length
          · have c1 : decide ((20 : Int) < (l.length : Int)) = true := decide_eq_true (by omega)
            simp only [c0, c1, cond_true, cond_false, g0, g1, if_true, if_false]; rfl
          · have c1 : decide ((20 : Int) < (l.length : Int)) = false := decide_eq_false (by omega)
            simp only [c0, c1, cond_false, g0, g1, if_false]
            refine (loop_fault l textF (fun a => .inr (.inr a)) _ (fun j t ht => ?_) ?_).trans ?_
            · have hj := get_le ht
              simp only [lt_dec hj, cond_true, getI_nat, he, ht, Option.bind_some, wrapN j (by omega), w_text]
              by_cases hz : textF t = 0 <;> simp [hz, inrO]
            · simp only [getI_nat, he, Option.bind_some, lt_dec_self, cond_false]; rfl
            · split <;> rfl
      · simp only [lt_dec_self, cond_false]; rfl
      · split <;> simp_all
theorem r_elem (e : Tapi_Element) : m_interchangeref2_checkElement e = some (elemF e) := by
  unfold m_interchangeref2_checkElement sims_G1_1_0; dsimp only
  unfold elemF
  by_cases h0 : e.fRepeats.length = 0
  · have c : decide ((e.fRepeats.length : Int) = 0) = true := decide_eq_true (by omega)
    simp only [c, cond_true, if_pos h0]
  · have d0 : decide ((e.fRepeats.length : Int) = 0) = false := decide_eq_false (by omega)
    by_cases h1 : 20 < e.fRepeats.length
    · have d1 : decide ((20 : Int) < (e.fRepeats.length : Int)) = true := decide_eq_true (by omega)
      simp only [d0, d1, cond_true, cond_false, h0, h1, if_true, if_false]
    · have d1 : decide ((20 : Int) < (e.fRepeats.length : Int)) = false := decide_eq_false (by omega)
      simp only [d0, d1, cond_false, h0, h1, if_false]
      refine (loop_fault e.fRepeats repF (fun a => a) _ (fun i l he => ?_) ?_).trans ?_
      · have hi := get_le he
        simp only [lt_dec hi, cond_true, getI_nat, he, Option.bind_some, wrapN i (by omega), repF]
        by_cases g0 : l.length = 0
        · have c0 : decide ((l.length : Int) = 0) = true := decide_eq_true (by omega)
          simp only [c0, cond_true, if_pos g0]; rfl
        · have c0 : decide ((l.length : Int) = 0) = false := decide_eq_false (by omega)
          by_cases g1 : 20 < l.length
          · have c1 : decide ((20 : Int) < (l.length : Int)) = true := decide_eq_true (by omega)
            simp only [c0, c1, cond_true, cond_false, g0, g1, if_true, if_false]; rfl
          · have c1 : decide ((20 : Int) < (l.length : Int)) = false := decide_eq_false (by omega)
            simp only [c0, c1, cond_false, g0, g1, if_false]
            refine (loop_fault l textF (fun a => .inr (.inr a)) _ (fun j t ht => ?_) ?_).trans ?_
            · have hj := get_le ht
              simp only [lt_dec hj, cond_true, getI_nat, he, ht, Option.bind_some, wrapN j (by omega), r_text]
              by_cases hz : textF t = 0 <;> simp [hz, inrO]
            · simp only [getI_nat, he, Option.bind_some, lt_dec_self, cond_false]; rfl
            · split <;> rfl
      · simp only [lt_dec_self, cond_false]; rfl
      · split <;> simp_all
/-! ### Tags -/
theorem dropWhile_nil {p : UInt8 → Bool} : ∀ {l : List UInt8}, l.dropWhile p = [] ↔ ∀ x ∈ l, p x = true
  | [] => by simp
  | a :: l => by
    rw [List.dropWhile_cons]
    by_cases h : p a = true
    · simp [h, dropWhile_nil (l := l)]
    · simp [h]
theorem dropWhile_head {p : UInt8 → Bool} {a : UInt8} {r : List UInt8} : ∀ {l : List UInt8}, l.dropWhile p = a :: r → p a = false
  | [], h => by simp at h
  | b :: l, h => by
    rw [List.dropWhile_cons] at h
    by_cases hp : p b = true
    · simp only [hp, if_true] at h; exact dropWhile_head h
    · simp only [hp] at h
      simp at h; rw [← h.1]; simpa using hp
theorem trim_nil (l cs : List UInt8) : Lib.trimS l cs = [] ↔ ∀ x ∈ l, cs.contains x = true := by
  unfold Lib.trimS Lib.trimLeftS Lib.trimRightS
  constructor
  · intro h
    have h1 : List.dropWhile (fun x => cs.contains x) l.reverse = [] := by
      cases hr : List.dropWhile (fun x => cs.contains x) l.reverse with
      | nil => rfl
      | cons a r =>
        exfalso
        have h2 := dropWhile_head hr
        rw [hr, dropWhile_nil] at h
        have h3 := h a (by simp)
        rw [h2] at h3; cases h3
    rw [dropWhile_nil] at h1
    intro x hx
    exact h1 x (by simpa using hx)
  · intro h
    have h1 : List.dropWhile (fun x => cs.contains x) l.reverse = [] := dropWhile_nil.2 fun x hx => h x (by simpa using hx)
    rw [h1]; rfl
def letB (b : UInt8) : Bool := decide (65 ≤ (b.toNat : Int)) && decide ((b.toNat : Int) ≤ 90)
def tagB (b : UInt8) : Bool := letB b || !(decide ((b.toNat : Int) < 48) || decide (57 < (b.toNat : Int)))
theorem tagB_all : (List.range 256).all (fun n => tagSet.contains (UInt8.ofNat n) == tagB (UInt8.ofNat n)) = true := by kernel_rfl
theorem tagB_eq (b : UInt8) : tagSet.contains b = tagB b := by
  have := List.all_eq_true.1 tagB_all b.toNat (List.mem_range.2 b.toNat_lt)
  have hb : UInt8.ofNat b.toNat = b := by simp
  rw [hb] at this
  simpa using this
def upper : List UInt8 := [65, 66, 67, 68, 69, 70, 71, 72, 73, 74, 75, 76, 77, 78, 79, 80, 81, 82, 83, 84, 85, 86, 87, 88, 89, 90]
theorem letB_all : (List.range 256).all (fun n => decide (0 ≤ Lib.indexByte upper (UInt8.ofNat n)) == letB (UInt8.ofNat n)) = true := by kernel_rfl
theorem letB_eq (b : UInt8) : decide (0 ≤ Lib.indexByte upper b) = letB b := by
  have := List.all_eq_true.1 letB_all b.toNat (List.mem_range.2 b.toNat_lt)
  have hb : UInt8.ofNat b.toNat = b := by simp
  rw [hb] at this
  simpa using this
theorem trim_tag (l : List UInt8) : decide (Lib.trimS l tagSet = []) = l.all tagB := by
  rw [Bool.eq_iff_iff, decide_eq_true_eq, trim_nil, List.all_eq_true]
  simp only [tagB_eq]
/-- A tag. -/
def tagF : List UInt8 → Bool
  | [] => false
  | b :: l => decide (1 ≤ l.length) && decide (l.length ≤ 5) && letB b && l.all tagB
theorem w_tag (l : List UInt8) (hl : l.length ≤ 9223372036854775807) : m_kit_IsTag l = some (tagF l) := by
  unfold m_kit_IsTag sims_G1_1_0; dsimp only
  cases l with
  | nil => rfl
  | cons b l =>
    have hg : getI (b :: l) 0 = some b := rfl
    have hi : m_strings_IndexByte upper b = some (Lib.indexByte upper b) := rfl
    have hu : ([65, 66, 67, 68, 69, 70, 71, 72, 73, 74, 75, 76, 77, 78, 79, 80, 81, 82, 83, 84, 85, 86, 87, 88, 89, 90] : List UInt8) = upper := rfl
    simp only [isTagPart_eq (b :: l) hl, trim_tag, hg, hu, hi, Option.bind_some, andO_some, letB_eq, tagF]
    have h1 : decide ((2 : Int) ≤ ((b :: l).length : Int)) = decide (1 ≤ l.length) := by simp only [List.length_cons]; congr 1; apply propext; omega
    have h2 : decide (((b :: l).length : Int) ≤ 6) = decide (l.length ≤ 5) := by simp only [List.length_cons]; congr 1; apply propext; omega
    rw [h1, h2]
    cases hb : letB b with
    | false => simp
    | true => simp [tagB, hb]
def tagI (i : Nat) (b : UInt8) : Bool := letB b || (decide (i ≠ 0) && tagB b)
theorem r_begins (l : List UInt8) (hl : l.length ≤ 9223372036854775807) : m_interchangeref2_beginsTag l = some ((match l with | [] => true | b :: l => letB b && l.all tagB) && decide (l.length ≤ 6)) := by
  unfold m_interchangeref2_beginsTag sims_G1_0_0; dsimp only
  have key := loop_runI (f := fun s => bif decide (s < (l.length : Int)) then (getI l s).bind fun e => (andO (decide (65 ≤ (e.toNat : Int))) ((getI l s).bind fun e => some (decide ((e.toNat : Int) ≤ 90)))).bind fun v => (andO (!v) ((orO (decide (s = 0)) ((getI l s).bind fun e => some (decide ((e.toNat : Int) < 48)))).bind fun v => (orO v ((getI l s).bind fun e => some (decide (57 < (e.toNat : Int))))).bind fun v => some v)).bind fun v => bif v then inrO (inrO (some false)) else some (Sum.inl (IntKind.i64.wrap (s + 1))) else inrO (some (Sum.inl s)))
    l (fun i (_ : Unit) => (i : Int)) (fun i _ e => if tagI i e = true then some (.inl ()) else some (.inr (.inr false))) (fun _ => some (Sum.inl (l.length : Int))) (fun i e s he => ?_) (fun s => ?_) ()
  · rw [show ((0 : Nat) : Int) = 0 from rfl] at key
    rw [key]
    have h2 : ∀ (t : List UInt8) (i : Nat), 0 < i → runI (fun i (_ : Unit) e => if tagI i e = true then some (.inl ()) else some (.inr (.inr false))) (fun _ => some (Sum.inl (l.length : Int))) t i () = if t.all tagB = true then some (Sum.inl (l.length : Int)) else some (.inr false) := by
      intro t
      induction t with
      | nil => intro i _; rfl
      | cons b t ih =>
        intro i hi
        simp only [runI]
        have : tagI i b = tagB b := by
          unfold tagI
          rw [decide_eq_true (show i ≠ 0 by omega), Bool.true_and]
          unfold tagB
          cases letB b <;> simp
        rw [this]
        cases hb : tagB b with
        | true => simp only [if_true, ih (i + 1) (by omega), List.all_cons, hb, Bool.true_and]
        | false => simp [hb]
    cases l with
    | nil => rfl
    | cons b l =>
      simp only [runI]
      have h3 : tagI 0 b = letB b := by unfold tagI; cases letB b <;> simp
      have h4 : decide (((b :: l).length : Int) ≤ 6) = decide ((b :: l).length ≤ 6) := by congr 1; apply propext; omega
      rw [h3]
      cases hb : letB b with
      | false => simp [outK, hb]
      | true =>
        simp only [if_true]
        rw [h2 l 1 (by omega)]
        cases hl : l.all tagB with
        | true => simp [outK, hb, h4]; omega
        | false => simp [outK, hb]
  · have hi := get_le he
    simp only [lt_dec hi, cond_true, getI_nat, he, Option.bind_some, andO_some, orO_some, wrapN i (by omega)]
    have h0 : decide ((i : Int) = 0) = decide (i = 0) := by congr 1; apply propext; omega
    have h1 : (!(decide (65 ≤ (e.toNat : Int)) && decide ((e.toNat : Int) ≤ 90)) && (decide ((i : Int) = 0) || decide ((e.toNat : Int) < 48) || decide (57 < (e.toNat : Int)))) = !tagI i e := by
      rw [h0]
      unfold tagI tagB letB
      cases decide (65 ≤ (e.toNat : Int)) <;> cases decide ((e.toNat : Int) ≤ 90) <;> by_cases hi0 : i = 0 <;> simp [hi0]
    rw [h1]
    cases tagI i e <;> rfl
  · simp only [lt_dec_self, cond_false]; rfl
theorem r_tag (l : List UInt8) (hl : l.length ≤ 9223372036854775807) : m_interchangeref2_IsTag l = some (tagF l) := by
  unfold m_interchangeref2_IsTag sims_G1_1_0; dsimp only
  simp only [r_begins l hl, Option.bind_some, andO_some]
  cases l with
  | nil => rfl
  | cons b l =>
    have h1 : decide ((2 : Int) ≤ ((b :: l).length : Int)) = decide (1 ≤ l.length) := by simp only [List.length_cons]; congr 1; apply propext; omega
    have h2 : decide ((b :: l).length ≤ 6) = decide (l.length ≤ 5) := by simp only [List.length_cons]; congr 1; apply propext; omega
    rw [h1, h2]
    simp only [tagF]
    cases letB b <;> cases l.all tagB <;> simp
/-! ### Segments -/
def segF (s : Tapi_Segment) : Int := if tagF s.fTag = false then 5 else if 50 < s.fElements.length then 2 else listF elemF s.fElements
def segsF (l : List Tapi_Segment) : Int := if 2000 < l.length then 2 else listF segF l
/-- The strings that any machine has. -/
def TagsShort (l : List Tapi_Segment) : Prop := ∀ s ∈ l, s.fTag.length ≤ 9223372036854775807
theorem r_one (s : Tapi_Segment) (hs : s.fTag.length ≤ 9223372036854775807) : m_interchangeref2_CheckOne s = some (segF s) := by
  unfold m_interchangeref2_CheckOne sims_G1_2_0; dsimp only
  unfold segF
  rw [r_tag s.fTag hs]
  simp only [Option.bind_some]
  cases ht : tagF s.fTag with
  | false => simp
  | true =>
    simp only [Bool.not_true, cond_false, Bool.true_eq_false, if_false]
    by_cases h1 : 50 < s.fElements.length
    · have d1 : decide ((50 : Int) < (s.fElements.length : Int)) = true := decide_eq_true (by omega)
      simp only [d1, cond_true, h1, if_true]
    · have d1 : decide ((50 : Int) < (s.fElements.length : Int)) = false := decide_eq_false (by omega)
      simp only [d1, cond_false, h1, if_false]
      refine (loop_fault s.fElements elemF (fun a => a) _ (fun i e he => ?_) ?_).trans ?_
      · have hi := get_le he
        simp only [lt_dec hi, cond_true, getI_nat, he, Option.bind_some, wrapN i (by omega), r_elem]
        by_cases hz : elemF e = 0 <;> simp [hz, inrO]
      · simp only [lt_dec_self, cond_false]; rfl
      · split <;> simp_all
theorem r_segs (l : List Tapi_Segment) (hs : TagsShort l) : m_interchangeref2_CheckSegments l = some (segsF l) := by
  unfold m_interchangeref2_CheckSegments sims_G1_3_0; dsimp only
  unfold segsF
  by_cases h1 : 2000 < l.length
  · have d1 : decide ((2000 : Int) < (l.length : Int)) = true := decide_eq_true (by omega)
    simp only [d1, cond_true, h1, if_true]
  · have d1 : decide ((2000 : Int) < (l.length : Int)) = false := decide_eq_false (by omega)
    simp only [d1, cond_false, h1, if_false]
    refine (loop_fault l segF (fun a => a) _ (fun i e he => ?_) ?_).trans ?_
    · have hi := get_le he
      simp only [lt_dec hi, cond_true, getI_nat, he, Option.bind_some, wrapN i (by omega), r_one e (hs e (List.mem_of_getElem? he))]
      by_cases hz : segF e = 0 <;> simp [hz, inrO]
    · simp only [lt_dec_self, cond_false]; rfl
    · split <;> simp_all
theorem w_segs (l : List Tapi_Segment) (hs : TagsShort l) : m_wire_CheckSegments l = some (segsF l) := by
  unfold m_wire_CheckSegments sims_G1_4_0; dsimp only
  unfold segsF
  by_cases h1 : 2000 < l.length
  · have d1 : decide ((2000 : Int) < (l.length : Int)) = true := decide_eq_true (by omega)
    simp only [d1, cond_true, h1, if_true]
  · have d1 : decide ((2000 : Int) < (l.length : Int)) = false := decide_eq_false (by omega)
    simp only [d1, cond_false, h1, if_false]
    refine (loop_fault l segF (fun a => a) _ (fun i s hes => ?_) ?_).trans ?_
    · have hi := get_le hes
      have hst := hs s (List.mem_of_getElem? hes)
      simp only [lt_dec hi, cond_true, getI_nat, hes, Option.bind_some, wrapN i (by omega), w_tag s.fTag (by omega), segF]
      by_cases ht : tagF s.fTag = false
      · simp [ht, inrO]
      · replace ht : tagF s.fTag = true := by simpa using ht
        simp only [ht, Bool.not_true, cond_false, Bool.true_eq_false, if_false]
        by_cases h1 : 50 < s.fElements.length
        · have d1 : decide ((50 : Int) < (s.fElements.length : Int)) = true := decide_eq_true (by omega)
          simp only [d1, cond_true, h1, if_true]; rfl
        · have d1 : decide ((50 : Int) < (s.fElements.length : Int)) = false := decide_eq_false (by omega)
          simp only [d1, cond_false, h1, if_false]
          refine (loop_fault s.fElements elemF (fun a => .inr (.inr a)) _ (fun i e he => ?_) ?_).trans ?_
          · have hi := get_le he
            simp only [lt_dec hi, cond_true, getI_nat, he, Option.bind_some, wrapN i (by omega), w_elem]
            by_cases hz : elemF e = 0 <;> simp [hz, inrO]
          · simp only [lt_dec_self, cond_false]; rfl
          · split <;> rfl
    · simp only [lt_dec_self, cond_false]; rfl
    · split <;> simp_all
end Go.Proofs.YtfbhhhghjehjjaaDoor

/-
  Plain laws of the wire: marks.
-/
namespace Go.Proofs.YtfbhhhghjehjjaaDoor
set_option linter.unusedSimpArgs false
set_option linter.unusedVariables false
open Go.RowKit

/-- The first fault of a list, by its place. -/
def listFI {α : Type} (h : Nat → α → Int) : Nat → List α → Int
  | _, [] => 0
  | i, e :: l => if h i e = 0 then listFI h (i + 1) l else h i e
theorem loop_faultI {α R : Type} (l : List α) (h : Nat → α → Int) (ret : Int → R) (k : Int → Option R) {f : Int → Option (Int ⊕ (Int ⊕ R))}
    (hb : ∀ (i : Nat) (e : α), l[i]? = some e → f (i : Int) = if h i e = 0 then some (.inl ((i + 1 : Nat) : Int)) else some (.inr (.inr (ret (h i e)))))
    (he : f (l.length : Int) = some (.inr (.inl (l.length : Int)))) : (loopC f 0).bind (outK k) = if listFI h 0 l = 0 then k (l.length : Int) else some (ret (listFI h 0 l)) := by
  have : ∀ (t : List α) (i : Nat), l.drop i = t → i ≤ l.length → loopC f (i : Int) = if listFI h i t = 0 then some (.inl (l.length : Int)) else some (.inr (ret (listFI h i t))) := by
    intro t
    induction t with
    | nil =>
      intro i hd hi
      have := drop_nil_len hd hi
      subst this
      rw [loopC_eq, he]
      rfl
    | cons e t ih =>
      intro i hd hi
      obtain ⟨h1, h2, h3⟩ := drop_head hd
      rw [loopC_eq, hb i e h1]
      by_cases h0 : h i e = 0
      · simp only [listFI, h0, if_true]; exact ih (i + 1) h3 h2
      · simp only [listFI, h0, if_false]
  have e0 : loopC f 0 = if listFI h 0 l = 0 then some (.inl (l.length : Int)) else some (.inr (ret (listFI h 0 l))) := this l 0 rfl (Nat.zero_le _)
  rw [e0]
  by_cases h0 : listFI h 0 l = 0
  · rw [if_pos h0, if_pos h0]; rfl
  · rw [if_neg h0, if_neg h0]; rfl
def anyI {α : Type} (c : Nat → α → Bool) : Nat → List α → Bool
  | _, [] => false
  | i, e :: l => c i e || anyI c (i + 1) l
theorem listFI_any {α : Type} (c : Nat → α → Bool) (n : Int) (hn : n ≠ 0) : ∀ (l : List α) (i : Nat), listFI (fun i e => if c i e = true then n else 0) i l = if anyI c i l = true then n else 0
  | [], _ => rfl
  | e :: l, i => by
    simp only [listFI, anyI, listFI_any c n hn l (i + 1)]
    by_cases hc : c i e = true <;> simp [hc, hn]
def eqB (a b : UInt8) : Bool := decide ((a.toNat : Int) = (b.toNat : Int))
def bads (m : Tapi_Marks) : Bool := !markB m.fElement || !markB m.fPart || !markB m.fRepeat || !markB m.fEnd || (!decide ((m.fEscape.toNat : Int) = 0) && !markB m.fEscape)
def twice (m : Tapi_Marks) : Bool := eqB m.fPart m.fElement || eqB m.fRepeat m.fElement || eqB m.fRepeat m.fPart || eqB m.fEnd m.fElement || eqB m.fEnd m.fPart || eqB m.fEnd m.fRepeat || eqB m.fEscape m.fElement || eqB m.fEscape m.fPart || eqB m.fEscape m.fRepeat || eqB m.fEscape m.fEnd
def marksF (m : Tapi_Marks) : Int := if bads m = true then 3 else if twice m = true then 7 else 0
theorem any_fault (l : List UInt8) (e : UInt8) : listF (fun b => if eqB e b = true then (7 : Int) else 0) l = if l.any (eqB e) = true then 7 else 0 := by
  induction l with
  | nil => rfl
  | cons b l ih =>
    simp only [listF, ih, List.any_cons]
    by_cases hc : eqB e b = true <;> simp [hc]
theorem r_marks (m : Tapi_Marks) : m_interchangeref2_CheckMarks m = some (marksF m) := by
  unfold m_interchangeref2_CheckMarks sims_G1_1_0; dsimp only
  simp only [r_mark, Option.bind_some, orO_some, andO_some]
  unfold marksF
  have hb : (!markB m.fElement || !markB m.fPart || !markB m.fRepeat || !markB m.fEnd || !decide ((m.fEscape.toNat : Int) = 0) && !markB m.fEscape) = bads m := rfl
  rw [hb]
  by_cases h : bads m = true
  · simp only [h, cond_true, if_true]
  · rw [if_neg h]
    simp only [Bool.not_eq_true] at h
    simp only [h, cond_false]
    refine (loop_faultI [m.fElement, m.fPart, m.fRepeat, m.fEscape, m.fEnd] (fun i e => if ([m.fElement, m.fPart, m.fRepeat, m.fEscape, m.fEnd].take i).any (eqB e) = true then 7 else 0) (fun a => a) _ (fun i e he => ?_) ?_).trans ?_
    · have hi : i < 5 := get_le he
      have h5 : decide ((i : Int) < 5) = true := decide_eq_true (by omega)
      simp only [h5, cond_true, getI_nat, he, Option.bind_some, wrapN i (by omega)]
      have hlen : ([m.fElement, m.fPart, m.fRepeat, m.fEscape, m.fEnd].take i).length = i := by rw [List.length_take]; simp; omega
      refine (loop_fault ([m.fElement, m.fPart, m.fRepeat, m.fEscape, m.fEnd].take i) (fun b => if eqB e b = true then (7 : Int) else 0) (fun a => .inr (.inr a)) _ (fun j b hj => ?_) ?_).trans ?_
      · have hji := get_le hj
        rw [hlen] at hji
        rw [List.getElem?_take_of_lt hji] at hj
        have h6 : decide ((j : Int) < (i : Int)) = true := decide_eq_true (by omega)
        simp only [h6, cond_true, getI_nat, hj, Option.bind_some, wrapN j (by omega)]
        show (bif eqB e b then _ else _) = _
        cases eqB e b <;> rfl
      · rw [hlen]
        simp only [lt_dec_self, cond_false]
        first | done | rfl
      · rw [any_fault]
    · rfl
    · rw [listFI_any (fun i e => ([m.fElement, m.fPart, m.fRepeat, m.fEscape, m.fEnd].take i).any (eqB e)) 7 (by decide)]
      have : anyI (fun i e => ([m.fElement, m.fPart, m.fRepeat, m.fEscape, m.fEnd].take i).any (eqB e)) 0 [m.fElement, m.fPart, m.fRepeat, m.fEscape, m.fEnd] = twice m := by
        rw [Bool.eq_iff_iff]
        simp only [anyI, List.take, List.any_cons, List.any_nil, twice, eqB, Bool.or_eq_true, decide_eq_true_eq, Bool.or_false, Bool.false_or, Bool.false_eq_true]
        omega
      rw [this]
      cases twice m <;> rfl
theorem contains_eq (l : List UInt8) (b : UInt8) (hl : l.length < 9223372036854775807) : m_slices_Contains_byte_byte l b = some (l.any (eqB b)) := by
  unfold m_slices_Contains_byte_byte sims_G1_1_0; dsimp only
  have hI : m_slices_Index_byte_byte l b = some (match l.findIdx? (eqB b) with | some i => (i : Int) | none => -1) := by
    unfold m_slices_Index_byte_byte sims_G1_0_0; dsimp only
    have : ∀ (t : List UInt8) (i : Nat) (f : Int → Option (Int ⊕ (Int ⊕ Int))), l.drop i = t → i ≤ l.length → (∀ (i : Nat) (e : UInt8), l[i]? = some e → f (i : Int) = bif eqB b e then some (.inr (.inr (i : Int))) else some (.inl ((i + 1 : Nat) : Int))) → f (l.length : Int) = some (.inr (.inl (l.length : Int))) →
        loopC f (i : Int) = some (match t.findIdx? (eqB b) with | some j => .inr (((i + j : Nat)) : Int) | none => .inl (l.length : Int)) := by
      intro t
      induction t with
      | nil =>
        intro i f hd hi hb he
        have := drop_nil_len hd hi
        subst this
        rw [loopC_eq, he]
        rfl
      | cons e t ih =>
        intro i f hd hi hb he
        obtain ⟨h1, h2, h3⟩ := drop_head hd
        rw [loopC_eq, hb i e h1, List.findIdx?_cons]
        cases hq : eqB b e with
        | true => simp
        | false =>
          simp only [cond_false]
          rw [ih (i + 1) f h3 h2 hb he]
          cases t.findIdx? (eqB b) with
          | none => rfl
          | some j => simp; omega
    refine bind_loop (this l 0 _ rfl (Nat.zero_le _) (fun i e he => ?_) ?_) ?_
    · have hi := get_le he
      simp only [lt_dec hi, cond_true, getI_nat, he, Option.bind_some, wrapN i (by omega)]
      show (bif eqB b e then _ else _) = _
      cases eqB b e <;> rfl
    · simp only [lt_dec_self, cond_false]; rfl
    · cases l.findIdx? (eqB b) with
      | none => rfl
      | some j => simp [outK]
  rw [hI]
  simp only [Option.bind_some]
  congr 1
  cases h : l.findIdx? (eqB b) with
  | none =>
    rw [List.findIdx?_eq_none_iff] at h
    symm
    simp only [List.any_eq_false]
    simpa using h
  | some j =>
    have h2 := List.findIdx?_eq_some_iff_getElem.1 h
    obtain ⟨hj, h3, -⟩ := h2
    symm
    simp only [decide_eq_true_eq, Int.natCast_nonneg, decide_true]
    exact List.any_eq_true.2 ⟨l[j], List.getElem_mem hj, h3⟩
theorem w_marks (m : Tapi_Marks) : m_wire_CheckMarks m = some (marksF m) := by
  unfold m_wire_CheckMarks sims_G1_2_0; dsimp only
  simp only [w_mark, Option.bind_some, orO_some, andO_some]
  unfold marksF
  have hb : bads m = (listF (fun b => if markB b = true then (0 : Int) else 3) [m.fElement, m.fPart, m.fRepeat, m.fEnd] != 0 || (!decide ((m.fEscape.toNat : Int) = 0) && !markB m.fEscape)) := by
    unfold bads
    simp only [listF]
    by_cases h1 : markB m.fElement = true <;> by_cases h2 : markB m.fPart = true <;> by_cases h3 : markB m.fRepeat = true <;> by_cases h4 : markB m.fEnd = true <;> simp [h1, h2, h3, h4]
  rw [hb]
  refine (loop_fault [m.fElement, m.fPart, m.fRepeat, m.fEnd] (fun b => if markB b = true then (0 : Int) else 3) (fun _ => 3) _ (fun i e he => ?_) ?_).trans ?_
  · have hi : i < 4 := get_le he
    have h4 : decide ((i : Int) < 4) = true := decide_eq_true (by omega)
    simp only [h4, cond_true, getI_nat, he, Option.bind_some, wrapN i (by omega)]
    cases markB e <;> rfl
  · rfl
  · by_cases h0 : listF (fun b => if markB b = true then (0 : Int) else 3) [m.fElement, m.fPart, m.fRepeat, m.fEnd] = 0
    · rw [if_pos h0, h0]
      simp only [bne_self_eq_false, Bool.false_or]
      by_cases h1 : (!decide ((m.fEscape.toNat : Int) = 0) && !markB m.fEscape) = true
      · rw [if_pos h1]; simp only [h1, cond_true]
      · rw [if_neg h1]
        simp only [Bool.not_eq_true] at h1
        simp only [h1, cond_false]
        rw [thenO_some (lenO_ok (by simp))]
        refine (loop_faultI [m.fElement, m.fPart, m.fRepeat, m.fEnd, m.fEscape] (fun i e => if ([m.fElement, m.fPart, m.fRepeat, m.fEnd].take i).any (eqB e) = true then 7 else 0) (fun a => a) _ (fun i e he => ?_) ?_).trans ?_
        · have hi : i < 5 := get_le he
          have h5 : decide ((i : Int) < 5) = true := decide_eq_true (by omega)
          have hs : sliceI [m.fElement, m.fPart, m.fRepeat, m.fEnd] 0 (if 4 < (i : Int) then 4 else (i : Int)) = some ([m.fElement, m.fPart, m.fRepeat, m.fEnd].take i) := by
            have : ¬ (4 < (i : Int)) := by omega
            rw [if_neg this]
            unfold sliceI
            rw [if_pos ⟨by omega, by omega, by simp; omega⟩]
            simp
          have hn : [m.fElement, m.fPart, m.fRepeat, m.fEnd, m.fEscape][(i : Int).toNat]? = some e := by simpa using he
          simp only [h5, cond_true, getI_nat, he, hn, Option.bind_some, wrapN i (by omega)]
          have hs2 : sliceI [m.fElement, m.fPart, m.fRepeat, m.fEnd] ((none : Option Int).getD 0) ((some (if 4 < (i : Int) then 4 else (i : Int))).getD ((4 : Nat) : Int)) = some ([m.fElement, m.fPart, m.fRepeat, m.fEnd].take i) := hs
          rw [hs2]
          simp only [Option.bind_some]
          rw [contains_eq _ e (by rw [List.length_take]; simp; omega)]
          simp only [Option.bind_some]
          cases ([m.fElement, m.fPart, m.fRepeat, m.fEnd].take i).any (eqB e) <;> rfl
        · rfl
        · rw [listFI_any (fun i e => ([m.fElement, m.fPart, m.fRepeat, m.fEnd].take i).any (eqB e)) 7 (by decide)]
          have : anyI (fun i e => ([m.fElement, m.fPart, m.fRepeat, m.fEnd].take i).any (eqB e)) 0 [m.fElement, m.fPart, m.fRepeat, m.fEnd, m.fEscape] = twice m := by
            rw [Bool.eq_iff_iff]
            simp only [anyI, List.take, List.any_cons, List.any_nil, twice, eqB, Bool.or_eq_true, decide_eq_true_eq, Bool.or_false, Bool.false_or, Bool.false_eq_true]
            omega
          rw [this]
          cases twice m <;> rfl
    · rw [if_neg h0]
      have : (listF (fun b => if markB b = true then (0 : Int) else 3) [m.fElement, m.fPart, m.fRepeat, m.fEnd] != 0) = true := by simpa using h0
      rw [this]
      rfl
end Go.Proofs.YtfbhhhghjehjjaaDoor

/-
  Plain laws of the wire: how many bytes are marks.
-/
namespace Go.Proofs.YtfbhhhghjehjjaaDoor
set_option linter.unusedSimpArgs false
set_option linter.unusedVariables false
open Go.RowKit

/-- Segments, then marks. -/
def bothF (l : List Tapi_Segment) (m : Tapi_Marks) : Int := if segsF l = 0 then marksF m else segsF l
theorem w_both (l : List Tapi_Segment) (m : Tapi_Marks) (hs : TagsShort l) : m_wire_checkBoth l m = some (bothF l m) := by
  unfold m_wire_checkBoth sims_G6_0_0; dsimp only
  simp only [w_segs l hs, w_marks, Option.bind_some, bothF]
  by_cases h : segsF l = 0 <;> simp [h]
def isM (m : Tapi_Marks) (b : UInt8) : Bool := decide ((b.toNat : Int) = (m.fElement.toNat : Int)) || decide ((b.toNat : Int) = (m.fPart.toNat : Int)) || decide ((b.toNat : Int) = (m.fRepeat.toNat : Int)) || decide ((b.toNat : Int) = (m.fEnd.toNat : Int)) || (!decide ((m.fEscape.toNat : Int) = 0) && decide ((b.toNat : Int) = (m.fEscape.toNat : Int)))
theorem w_isM (m : Tapi_Marks) (b : UInt8) : m_wire_isMark m b = some (isM m b) := by
  unfold m_wire_isMark sims_G2_0_1; dsimp only
  simp only [orO_some, andO_some, Option.bind_some, isM]
theorem r_isM (m : Tapi_Marks) (b : UInt8) : m_interchangeref2_isMark m b = some (isM m b) := by
  unfold m_interchangeref2_isMark sims_G3_0_0; dsimp only
  simp only [orO_some, andO_some, Option.bind_some, isM]
/-! ### Counts -/
def cntT (m : Tapi_Marks) (t : List UInt8) : Nat := t.countP (isM m)
def cntR (m : Tapi_Marks) (l : List (List UInt8)) : Nat := (l.map (cntT m)).sum
def cntE (m : Tapi_Marks) (x : Tapi_Element) : Nat := (x.fRepeats.map (cntR m)).sum
def cntS (m : Tapi_Marks) (s : Tapi_Segment) : Nat := (s.fElements.map (cntE m)).sum
def cntL (m : Tapi_Marks) (l : List Tapi_Segment) : Nat := (l.map (cntS m)).sum
theorem sum_take {α : Type} {c : α → Nat} {l : List α} {i : Nat} {e : α} (h : l[i]? = some e) : ((l.take i ++ [e]).map c).sum = ((l.take i).map c).sum + c e := by simp
/-- What right segments have at most. -/
theorem text_len {t : List UInt8} (h : textF t = 0) : t.length ≤ 1000 := by
  unfold textF at h
  split at h
  · cases h
  · omega
theorem rep_len {l : List (List UInt8)} (h : repF l = 0) : l.length ≤ 20 ∧ 0 < l.length ∧ ∀ t ∈ l, textF t = 0 := by
  unfold repF at h
  split at h
  · cases h
  · split at h
    · cases h
    · exact ⟨by omega, by omega, listF_zero h⟩
theorem elem_len {x : Tapi_Element} (h : elemF x = 0) : x.fRepeats.length ≤ 20 ∧ 0 < x.fRepeats.length ∧ ∀ t ∈ x.fRepeats, repF t = 0 := by
  unfold elemF at h
  split at h
  · cases h
  · split at h
    · cases h
    · exact ⟨by omega, by omega, listF_zero h⟩
theorem tag_len {t : List UInt8} (h : tagF t = true) : t.length ≤ 6 ∧ 2 ≤ t.length := by
  cases t with
  | nil => cases h
  | cons b t =>
    simp only [tagF, Bool.and_eq_true, decide_eq_true_eq] at h
    simp only [List.length_cons]
    omega
theorem seg_len {s : Tapi_Segment} (h : segF s = 0) : tagF s.fTag = true ∧ s.fTag.length ≤ 6 ∧ 2 ≤ s.fTag.length ∧ s.fElements.length ≤ 50 ∧ ∀ e ∈ s.fElements, elemF e = 0 := by
  unfold segF at h
  split at h
  · cases h
  · rename_i h1
    have h1 : tagF s.fTag = true := by simpa using h1
    split at h
    · cases h
    · exact ⟨h1, (tag_len h1).1, (tag_len h1).2, by omega, listF_zero h⟩
theorem segs_len {l : List Tapi_Segment} (h : segsF l = 0) : l.length ≤ 2000 ∧ ∀ s ∈ l, segF s = 0 := by
  unfold segsF at h
  split at h
  · cases h
  · exact ⟨by omega, listF_zero h⟩
theorem cntT_le (m : Tapi_Marks) (t : List UInt8) : cntT m t ≤ t.length := List.countP_le_length
/-! ### The program's counts -/
theorem w_needed (m : Tapi_Marks) (t : List UInt8) (ht : t.length < 4611686018427387904) : m_wire_needed m t = some ((cntT m t : Nat) : Int) := by
  unfold m_wire_needed sims_G6_0_0; dsimp only
  refine bind_loop (loop_pre (a := .inl (((cntT m t : Nat) : Int), ((t.length : Nat) : Int))) t (fun i pre => (((cntT m pre : Nat) : Int), ((i : Nat) : Int))) (fun i e he => ?_) ?_) ?_
  · have hi := get_le he
    have hc : cntT m (t.take i) ≤ i := by have := cntT_le m (t.take i); rw [take_len he] at this; exact this
    have hs : cntT m (t.take i ++ [e]) = cntT m (t.take i) + (if isM m e = true then 1 else 0) := by simp [cntT, List.countP_append, List.countP_singleton]
    simp only [lt_dec hi, cond_true, getI_nat, he, Option.bind_some, w_isM, wrapN i (by omega), wrapN (cntT m (t.take i)) (by omega), hs]
    cases isM m e <;> rfl
  · simp only [lt_dec_self, cond_false]; rfl
  · rfl
end Go.Proofs.YtfbhhhghjehjjaaDoor

/-
  Plain laws of the wire: how bytes are divided at marks.
-/
namespace Go.Proofs.YtfbhhhghjehjjaaDoor
set_option linter.unusedSimpArgs false
set_option linter.unusedVariables false
open Go.RowKit

def escB (m : Tapi_Marks) (x : UInt8) : Bool := !decide ((m.fEscape.toNat : Int) = 0) && decide ((x.toNat : Int) = (m.fEscape.toNat : Int))
def outB (x : UInt8) : Bool := decide ((x.toNat : Int) < 32) || decide ((126 : Int) < (x.toNat : Int))
/-- A text up to a mark: where it cannot go on, or the text and what is left, from the mark on. -/
def partP (m : Tapi_Marks) : List UInt8 → List UInt8 ⊕ (List UInt8 × List UInt8)
  | [] => .inl []
  | x :: r =>
    if escB m x = true then
      match r with
      | [] => .inl []
      | y :: r => if isM m y = true then (match partP m r with | .inl q => .inl q | .inr (o, q) => .inr (y :: o, q)) else .inl (y :: r)
    else if isM m x = true then .inr ([], x :: r)
    else if outB x = true then .inl (x :: r)
    else match partP m r with | .inl q => .inl q | .inr (o, q) => .inr (x :: o, q)
theorem partP_inlA (m : Tapi_Marks) : ∀ (n : Nat) (r : List UInt8), r.length ≤ n → ∀ q, partP m r = .inl q → q.length ≤ r.length
  | n, [], _, q, h => by rw [partP] at h; cases h; exact Nat.le_refl _
  | 0, x :: r, h, _, _ => by simp at h
  | n + 1, x :: r, hn, q, h => by
    have hr : r.length ≤ n := by simpa using hn
    unfold partP at h
    split at h
    · cases r with
      | nil => cases h; simp
      | cons y r =>
        simp only at h
        split at h
        · cases hp : partP m r with
          | inl p =>
            rw [hp] at h
            have := partP_inlA m n r (by simp at hr; omega) p hp
            cases h
            simp only [List.length_cons]; omega
          | inr oq => rw [hp] at h; cases h
        · cases h; simp
    · split at h
      · cases h
      · split at h
        · cases h; exact Nat.le_refl _
        · cases hp : partP m r with
          | inl p =>
            rw [hp] at h
            have := partP_inlA m n r hr p hp
            cases h
            simp only [List.length_cons]; omega
          | inr oq => rw [hp] at h; cases h
theorem partP_inrA (m : Tapi_Marks) : ∀ (n : Nat) (r : List UInt8), r.length ≤ n → ∀ o q, partP m r = .inr (o, q) → q.length ≤ r.length ∧ o.length + q.length ≤ r.length ∧ ∃ x t, q = x :: t ∧ isM m x = true ∧ escB m x = false
  | n, [], _, _, q, h => by rw [partP] at h; cases h
  | 0, x :: r, h, _, _, _ => by simp at h
  | n + 1, x :: r, hn, o, q, h => by
    have hr : r.length ≤ n := by simpa using hn
    unfold partP at h
    split at h
    · cases r with
      | nil => cases h
      | cons y r =>
        simp only at h
        split at h
        · cases hp : partP m r with
          | inl p => rw [hp] at h; cases h
          | inr oq =>
            obtain ⟨o', p⟩ := oq
            rw [hp] at h
            obtain ⟨h1, h2, h3⟩ := partP_inrA m n r (by simp at hr; omega) o' p hp
            cases h
            simp only [List.length_cons]
            exact ⟨by omega, by omega, h3⟩
        · cases h
    · rename_i he
      split at h
      · rename_i hm
        cases h
        simp only [List.length_cons, List.length_nil]
        exact ⟨by omega, by omega, x, r, rfl, hm, by simpa using he⟩
      · split at h
        · cases h
        · cases hp : partP m r with
          | inl p => rw [hp] at h; cases h
          | inr oq =>
            obtain ⟨o', p⟩ := oq
            rw [hp] at h
            obtain ⟨h1, h2, h3⟩ := partP_inrA m n r hr o' p hp
            cases h
            simp only [List.length_cons]
            exact ⟨by omega, by omega, h3⟩
theorem partP_inl {m : Tapi_Marks} {r q : List UInt8} (h : partP m r = .inl q) : q.length ≤ r.length := partP_inlA m r.length r (Nat.le_refl _) q h
theorem partP_inr {m : Tapi_Marks} {r o q : List UInt8} (h : partP m r = .inr (o, q)) : q.length ≤ r.length ∧ o.length + q.length ≤ r.length ∧ ∃ x t, q = x :: t ∧ isM m x = true ∧ escB m x = false := partP_inrA m r.length r (Nat.le_refl _) o q h
end Go.Proofs.YtfbhhhghjehjjaaDoor

/-
  Plain laws of the wire: how elements and segments are divided, told twice.
-/
namespace Go.Proofs.YtfbhhhghjehjjaaDoor
set_option linter.unusedSimpArgs false
set_option linter.unusedVariables false
open Go.RowKit

abbrev Txt := List UInt8
/-- A text is put behind the last parts. -/
def putL (ys : List (List Txt)) (t : Txt) : List (List Txt) := ys.set (ys.length - 1) (ys[ys.length - 1]?.getD [] ++ [t])
theorem putL_snoc (ys : List (List Txt)) (p : List Txt) (t : Txt) : putL (ys ++ [p]) t = ys ++ [p ++ [t]] := by
  unfold putL
  simp only [List.length_append, List.length_cons, List.length_nil, Nat.zero_add, Nat.add_sub_cancel, List.getElem?_append_right (Nat.le_refl _), Nat.sub_self, List.getElem?_cons_zero, Option.getD_some, List.set_append_right _ _ (Nat.le_refl _), List.set_cons_zero]
theorem putL_len (ys : List (List Txt)) (t : Txt) : (putL ys t).length = ys.length := by unfold putL; simp
/-- A text with the mark ahead of it. -/
def addT (m : Tapi_Marks) (k : UInt8) (xs : List (List Txt)) (t : Txt) : List (List Txt) := if k = m.fRepeat then putL (xs ++ [[]]) t else putL xs t
theorem addT_ne {m : Tapi_Marks} {k : UInt8} {xs : List (List Txt)} {t : Txt} (h : k = m.fRepeat ∨ xs ≠ []) : addT m k xs t ≠ [] := by
  unfold addT
  intro h0
  split at h0
  · have := congrArg List.length h0
    rw [putL_len] at this; simp at this
  · rename_i hk
    have := congrArg List.length h0
    rw [putL_len] at this
    rcases h with h | h
    · exact hk h
    · exact h (List.length_eq_zero_iff.1 (by simpa using this))
/-- An element from behind a mark on: where it cannot go on, or the element and what is left. -/
inductive ElR (m : Tapi_Marks) : UInt8 → List (List Txt) → Txt → Txt ⊕ (List (List Txt) × Txt) → Prop
  | bad {k xs r q} : partP m r = .inl q → ElR m k xs r (.inl q)
  | fin {k xs r t y q} : partP m r = .inr (t, y :: q) → (y = m.fElement ∨ y = m.fEnd) → ElR m k xs r (.inr (addT m k xs t, y :: q))
  | more {k xs r t y q res} : partP m r = .inr (t, y :: q) → ¬ (y = m.fElement ∨ y = m.fEnd) → ElR m y (addT m k xs t) q res → ElR m k xs r res
theorem el_total (m : Tapi_Marks) : ∀ (n : Nat) (r : Txt), r.length ≤ n → ∀ k xs, ∃ res, ElR m k xs r res := by
  intro n
  induction n with
  | zero =>
    intro r hr k xs
    have : r = [] := List.length_eq_zero_iff.1 (by omega)
    subst this
    exact ⟨_, .bad (by rw [partP])⟩
  | succ n ih =>
    intro r hr k xs
    cases hp : partP m r with
    | inl q => exact ⟨_, .bad hp⟩
    | inr tq =>
      obtain ⟨t, q⟩ := tq
      obtain ⟨h1, _, y, q', rfl, _⟩ := partP_inr hp
      by_cases hy : y = m.fElement ∨ y = m.fEnd
      · exact ⟨_, .fin hp hy⟩
      · obtain ⟨res, hres⟩ := ih q' (by simp only [List.length_cons] at h1; omega) y (addT m k xs t)
        exact ⟨res, .more hp hy hres⟩
theorem el_inr {m : Tapi_Marks} {k : UInt8} {xs : List (List Txt)} {r : Txt} {res : Txt ⊕ (List (List Txt) × Txt)} (h : ElR m k xs r res) : ∀ xs' q', res = .inr (xs', q') → q'.length ≤ r.length ∧ ∃ y q, q' = y :: q ∧ (y = m.fElement ∨ y = m.fEnd) := by
  induction h with
  | bad => intro _ _ h; cases h
  | fin hp hy =>
    intro xs' q' h
    cases h
    exact ⟨(partP_inr hp).1, _, _, rfl, hy⟩
  | more hp hy _ ih =>
    intro xs' q' h
    obtain ⟨h1, h2⟩ := ih xs' q' h
    have := (partP_inr hp).1
    simp only [List.length_cons] at this
    exact ⟨by omega, h2⟩
theorem el_inl {m : Tapi_Marks} {k : UInt8} {xs : List (List Txt)} {r : Txt} {res : Txt ⊕ (List (List Txt) × Txt)} (h : ElR m k xs r res) : ∀ q', res = .inl q' → q'.length ≤ r.length := by
  induction h with
  | bad hp => intro _ h; cases h; exact partP_inl hp
  | fin hp hy => intro _ h; cases h
  | more hp hy _ ih =>
    intro q' h
    have h1 := ih q' h
    have := (partP_inr hp).1
    simp only [List.length_cons] at this
    omega
/-- Elements, one behind the other. -/
inductive ElsR (m : Tapi_Marks) : List Tapi_Element → Txt → Txt ⊕ (List Tapi_Element × Txt) → Prop
  | fin {acc y q} : y ≠ m.fElement → ElsR m acc (y :: q) (.inr (acc, y :: q))
  | bad {acc q p} : ElR m m.fRepeat [] q (.inl p) → ElsR m acc (m.fElement :: q) (.inl p)
  | more {acc q xs q' res} : ElR m m.fRepeat [] q (.inr (xs, q')) → ElsR m (acc ++ [⟨xs⟩]) q' res → ElsR m acc (m.fElement :: q) res
theorem els_total (m : Tapi_Marks) : ∀ (n : Nat) (r : Txt), r.length ≤ n → (∃ y q, r = y :: q) → ∀ acc, ∃ res, ElsR m acc r res := by
  intro n
  induction n with
  | zero => intro r hr h; obtain ⟨y, q, rfl⟩ := h; simp at hr
  | succ n ih =>
    intro r hr h acc
    obtain ⟨y, q, rfl⟩ := h
    by_cases hy : y = m.fElement
    · subst hy
      obtain ⟨res, hres⟩ := el_total m q.length q (Nat.le_refl _) m.fRepeat []
      cases res with
      | inl p => exact ⟨_, .bad hres⟩
      | inr xq =>
        obtain ⟨xs, q'⟩ := xq
        obtain ⟨h1, y, q2, h2, _⟩ := el_inr hres xs q' rfl
        obtain ⟨res, hr2⟩ := ih q' (by simp only [List.length_cons] at hr; omega) ⟨y, q2, h2⟩ (acc ++ [⟨xs⟩])
        exact ⟨res, .more hres hr2⟩
    · exact ⟨_, .fin hy⟩
theorem els_inr {m : Tapi_Marks} {acc : List Tapi_Element} {r : Txt} {res : Txt ⊕ (List Tapi_Element × Txt)} (h : ElsR m acc r res) : (∀ acc' q', res = .inr (acc', q') → q'.length ≤ r.length ∧ ∃ y q, q' = y :: q ∧ y ≠ m.fElement) ∧ ∀ q', res = .inl q' → q'.length ≤ r.length := by
  induction h with
  | fin hy => exact ⟨fun _ _ h => by cases h; exact ⟨Nat.le_refl _, _, _, rfl, hy⟩, fun _ h => by cases h⟩
  | bad he => exact ⟨fun _ _ h => (by cases h), fun q' h => by cases h; have := el_inl he _ rfl; simp only [List.length_cons]; omega⟩
  | more he _ ih =>
    have h1 := (el_inr he _ _ rfl).1
    exact ⟨fun acc' q' h => by have := ih.1 acc' q' h; simp only [List.length_cons]; exact ⟨by omega, this.2⟩, fun q' h => by have := ih.2 q' h; simp only [List.length_cons]; omega⟩
/-- The same, with the mark ahead of each text. -/
def updA (m : Tapi_Marks) (acc : List Tapi_Element) (k : UInt8) (t : Txt) : List Tapi_Element :=
  if k = m.fElement then acc ++ [⟨[[t]]⟩] else acc.set (acc.length - 1) ⟨if k = m.fRepeat then (acc[acc.length - 1]?.getD ⟨[]⟩).fRepeats ++ [[t]] else putL (acc[acc.length - 1]?.getD ⟨[]⟩).fRepeats t⟩
theorem updA_snoc {m : Tapi_Marks} {acc : List Tapi_Element} {xs : List (List Txt)} {k : UInt8} {t : Txt} (hk : k ≠ m.fElement) : updA m (acc ++ [⟨xs⟩]) k t = acc ++ [⟨addT m k xs t⟩] := by
  unfold updA addT
  rw [if_neg hk]
  simp only [List.length_append, List.length_cons, List.length_nil, Nat.zero_add, Nat.add_sub_cancel, List.getElem?_append_right (Nat.le_refl _), Nat.sub_self, List.getElem?_cons_zero, Option.getD_some, List.set_append_right _ _ (Nat.le_refl _), List.set_cons_zero, putL_snoc, List.nil_append]
inductive FlR (m : Tapi_Marks) : List Tapi_Element → Txt → Txt ⊕ (List Tapi_Element × Txt) → Prop
  | fin {acc q} : FlR m acc (m.fEnd :: q) (.inr (acc, m.fEnd :: q))
  | bad {acc y q p} : y ≠ m.fEnd → partP m q = .inl p → FlR m acc (y :: q) (.inl p)
  | more {acc y q t q' res} : y ≠ m.fEnd → partP m q = .inr (t, q') → FlR m (updA m acc y t) q' res → FlR m acc (y :: q) res
theorem el_fl {m : Tapi_Marks} {k : UInt8} {xs : List (List Txt)} {r : Txt} {res : Txt ⊕ (List (List Txt) × Txt)} (h : ElR m k xs r res) :
    ∀ (A acc : List Tapi_Element) (y : UInt8), y ≠ m.fEnd → (∀ t, updA m A y t = acc ++ [⟨addT m k xs t⟩]) →
      (∀ p, res = .inl p → FlR m A (y :: r) (.inl p)) ∧ ∀ xs' q', res = .inr (xs', q') → ∀ res', FlR m (acc ++ [⟨xs'⟩]) q' res' → FlR m A (y :: r) res' := by
  induction h with
  | bad hp => exact fun A acc y hy hu => ⟨fun p h => by cases h; exact .bad hy hp, fun _ _ h => by cases h⟩
  | fin hp hy' => exact fun A acc y hy hu => ⟨fun p h => (by cases h), fun xs' q' h res' hf => by cases h; rw [← hu] at hf; exact .more hy hp hf⟩
  | more hp hy' _ ih =>
    intro A acc y hy hu
    have := ih (acc ++ [⟨_⟩]) acc _ (fun h => hy' (.inr h)) (fun t => updA_snoc fun h => hy' (.inl h))
    refine ⟨fun p h => ?_, fun xs' q' h res' hf => ?_⟩
    · have h1 := this.1 p h
      rw [← hu] at h1
      exact .more hy hp h1
    · have h1 := this.2 xs' q' h res' hf
      rw [← hu] at h1
      exact .more hy hp h1
theorem els_fl {m : Tapi_Marks} (hE : m.fElement ≠ m.fEnd) {acc : List Tapi_Element} {r : Txt} {res : Txt ⊕ (List Tapi_Element × Txt)} (h : ElsR m acc r res) : (∀ y q, r = y :: q → y = m.fElement ∨ y = m.fEnd) → FlR m acc r res := by
  have hu : ∀ (A : List Tapi_Element) t, updA m A m.fElement t = A ++ [⟨addT m m.fRepeat [] t⟩] := fun A t => by
    unfold updA addT
    rw [if_pos rfl, if_pos rfl]
    have : putL ([] ++ [[]]) t = [[t]] := putL_snoc [] [] t
    rw [this]
  induction h with
  | fin hy =>
    intro h
    rcases h _ _ rfl with h1 | h1
    · exact absurd h1 hy
    · subst h1; exact .fin
  | bad he => exact fun _ => ((el_fl he) _ _ _ hE (hu _)).1 _ rfl
  | more he _ ih =>
    intro _
    refine ((el_fl he) _ _ _ hE (hu _)).2 _ _ rfl _ (ih ?_)
    obtain ⟨_, y', q2, h2, h3⟩ := el_inr he _ _ rfl
    intro y q h4
    rw [h2] at h4
    cases h4
    exact h3
/-! ### Tags -/
def stopB (m : Tapi_Marks) (b : UInt8) : Bool := eqB b m.fElement || eqB b m.fEnd
def beginsF (l : Txt) : Bool := (match l with | [] => true | b :: l => letB b && l.all tagB) && decide (l.length ≤ 6)
/-- A tag: where it cannot go on, or the tag and what is left, from the mark on. -/
def tagP (m : Tapi_Marks) (r : Txt) : Txt ⊕ (Txt × Txt) :=
  match r.dropWhile (fun b => !stopB m b) with
  | [] => .inl (if beginsF r = true then [] else r)
  | y :: q => if tagF (r.takeWhile fun b => !stopB m b) = true then .inr (r.takeWhile (fun b => !stopB m b), y :: q) else .inl r
theorem eqB_iff (a b : UInt8) : eqB a b = true ↔ a = b := by
  unfold eqB
  rw [decide_eq_true_eq]
  constructor
  · intro h; exact UInt8.toNat_inj.1 (by omega)
  · intro h; rw [h]
theorem tagP_inr {m : Tapi_Marks} {r s q : Txt} (h : tagP m r = .inr (s, q)) : r = s ++ q ∧ (∃ y q', q = y :: q' ∧ (y = m.fElement ∨ y = m.fEnd)) ∧ tagF s = true := by
  unfold tagP at h
  split at h
  · cases h
  · rename_i y q' hd
    split at h
    · rename_i ht
      cases h
      refine ⟨?_, ⟨y, q', rfl, ?_⟩, ht⟩
      · have := List.takeWhile_append_dropWhile (p := fun b => !stopB m b) (l := r)
        rw [hd] at this
        exact this.symm
      · have := dropWhile_head hd
        simp only [Bool.not_eq_false', stopB, Bool.or_eq_true, eqB_iff] at this
        exact this
    · cases h
theorem tagP_inl {m : Tapi_Marks} {r q : Txt} (h : tagP m r = .inl q) : q = [] ∨ q = r := by
  unfold tagP at h
  split at h
  · cases h; split
    · exact .inl rfl
    · exact .inr rfl
  · split at h
    · cases h
    · cases h; exact .inr rfl
/-! ### Segments -/
inductive SegR (m : Tapi_Marks) : Txt → Txt ⊕ (Tapi_Segment × Txt) → Prop
  | tag {r q} : tagP m r = .inl q → SegR m r (.inl q)
  | bad {r s q p} : tagP m r = .inr (s, q) → ElsR m [] q (.inl p) → SegR m r (.inl p)
  | ok {r s q els y q'} : tagP m r = .inr (s, q) → ElsR m [] q (.inr (els, y :: q')) → SegR m r (.inr (⟨s, els⟩, q'))
theorem seg_total (m : Tapi_Marks) (r : Txt) : ∃ res, SegR m r res := by
  cases ht : tagP m r with
  | inl q => exact ⟨_, .tag ht⟩
  | inr sq =>
    obtain ⟨s, q⟩ := sq
    obtain ⟨_, ⟨y, q', h1, _⟩, _⟩ := tagP_inr ht
    obtain ⟨res, hres⟩ := els_total m q.length q (Nat.le_refl _) ⟨y, q', h1⟩ []
    cases res with
    | inl p => exact ⟨_, .bad ht hres⟩
    | inr eq =>
      obtain ⟨els, q2⟩ := eq
      obtain ⟨_, y2, q3, rfl, _⟩ := (els_inr hres).1 _ _ rfl
      exact ⟨_, .ok ht hres⟩
theorem seg_le {m : Tapi_Marks} {r : Txt} {res : Txt ⊕ (Tapi_Segment × Txt)} (h : SegR m r res) : (∀ q, res = .inl q → q.length ≤ r.length) ∧ ∀ s q, res = .inr (s, q) → q.length < r.length := by
  cases h with
  | tag ht =>
    refine ⟨fun q h => ?_, fun _ _ h => by cases h⟩
    cases h
    rcases tagP_inl ht with rfl | rfl
    · simp
    · exact Nat.le_refl _
  | bad ht he =>
    refine ⟨fun q h => ?_, fun _ _ h => by cases h⟩
    cases h
    have h1 := (els_inr he).2 _ rfl
    have h2 := congrArg List.length (tagP_inr ht).1
    rw [List.length_append] at h2
    omega
  | ok ht he =>
    refine ⟨fun q h => (by cases h), fun s q h => ?_⟩
    cases h
    have h1 := ((els_inr he).1 _ _ rfl).1
    have h2 := congrArg List.length (tagP_inr ht).1
    rw [List.length_append] at h2
    simp only [List.length_cons] at h1
    omega
/-- All segments. -/
def feedB (q : Txt) : Bool := match q with | 10 :: _ => true | _ => false
inductive CutR (m : Tapi_Marks) : List Tapi_Segment → Bool → Txt → Txt ⊕ (List Tapi_Segment × Bool) → Prop
  | nil {out ln} : CutR m out ln [] (.inr (out, ln))
  | bad {out ln r q} : r ≠ [] → SegR m r (.inl q) → CutR m out ln r (.inl q)
  | stop {out ln r s q} : r ≠ [] → SegR m r (.inr (s, q)) → out ≠ [] → ln ≠ feedB q → CutR m out ln r (.inl q)
  | more {out ln r s q res} : r ≠ [] → SegR m r (.inr (s, q)) → (out = [] ∨ ln = feedB q) → CutR m (out ++ [s]) (feedB q) (if feedB q = true then q.tail else q) res → CutR m out ln r res
theorem cut_total (m : Tapi_Marks) : ∀ (n : Nat) (r : Txt), r.length ≤ n → ∀ out ln, ∃ res, CutR m out ln r res := by
  intro n
  induction n with
  | zero =>
    intro r hr out ln
    have : r = [] := List.length_eq_zero_iff.1 (by omega)
    subst this
    exact ⟨_, .nil⟩
  | succ n ih =>
    intro r hr out ln
    by_cases h0 : r = []
    · subst h0; exact ⟨_, .nil⟩
    · obtain ⟨res, hs⟩ := seg_total m r
      cases res with
      | inl q => exact ⟨_, .bad h0 hs⟩
      | inr sq =>
        obtain ⟨s, q⟩ := sq
        have hl := (seg_le hs).2 _ _ rfl
        by_cases hc : out = [] ∨ ln = feedB q
        · obtain ⟨res, hr2⟩ := ih (if feedB q = true then q.tail else q) (by split; (· simp only [List.length_tail]; omega); (· omega)) (out ++ [s]) (feedB q)
          exact ⟨_, .more h0 hs hc hr2⟩
        · exact ⟨_, .stop h0 hs (fun h => hc (.inl h)) (fun h => hc (.inr h))⟩
end Go.Proofs.YtfbhhhghjehjjaaDoor

/-
  Plain laws of the wire: what the program's cutter does, part by part.
-/
namespace Go.Proofs.YtfbhhhghjehjjaaDoor
set_option linter.unusedSimpArgs false
set_option linter.unusedVariables false
open Go.RowKit

theorem loop_to {X S A R : Type} {f : S → Option (S ⊕ A)} {k : A → Option R} {c : Option R} (st : X → S) (μ : X → Nat) (P : X → Prop)
    (h : ∀ x, P x → (∃ y, P y ∧ μ y < μ x ∧ f (st x) = some (.inl (st y))) ∨ (∃ a, f (st x) = some (.inr a) ∧ k a = c)) (x : X) (hx : P x) : (loopC f (st x)).bind k = c := by
  have : ∀ n x, μ x ≤ n → P x → (loopC f (st x)).bind k = c := by
    intro n
    induction n with
    | zero =>
      intro x hn hx
      rcases h x hx with ⟨y, _, h2, _⟩ | ⟨a, h1, h2⟩
      · omega
      · rw [loopC_eq, h1]; exact h2
    | succ n ih =>
      intro x hn hx
      rcases h x hx with ⟨y, h1, h2, h3⟩ | ⟨a, h1, h2⟩
      · rw [loopC_eq, h3]; exact ih y (by omega) h1
      · rw [loopC_eq, h1]; exact h2
  exact this (μ x) x (Nat.le_refl _) hx
theorem drop_len {b r : Txt} {i : Nat} (h : b.drop i = r) (hi : i ≤ b.length) : i + r.length = b.length := by
  have := congrArg List.length h
  rw [List.length_drop] at this; omega
theorem drop_more {b s r : Txt} {i : Nat} (h : b.drop i = s ++ r) : b.drop (i + s.length) = r := by
  rw [← List.drop_drop, h, List.drop_left]
theorem escB_some (m : Tapi_Marks) (x : UInt8) : andO (!decide ((m.fEscape.toNat : Int) = 0)) (some (decide ((x.toNat : Int) = (m.fEscape.toNat : Int)))) = some (escB m x) := by rw [andO_some]; rfl
theorem outB_some (x : UInt8) : orO (decide ((x.toNat : Int) < 32)) (some (decide ((126 : Int) < (x.toNat : Int)))) = some (outB x) := by rw [orO_some]; rfl
/-- What there is behind what was read. -/
def appP (o : Txt) : Txt ⊕ (Txt × Txt) → Txt ⊕ (Txt × Txt)
  | .inl q => .inl q
  | .inr (t, q) => .inr (o ++ t, q)
theorem appP_snoc (o : Txt) (x : UInt8) (z : Txt ⊕ (Txt × Txt)) : appP (o ++ [x]) z = appP o (match z with | .inl q => .inl q | .inr (t, q) => .inr (x :: t, q)) := by
  rcases z with q | ⟨t, q⟩
  · rfl
  · simp [appP]
def partC (m : Tapi_Marks) (b : Txt) (l : List Tapi_Segment) (st : List Int) (ln : Bool) : Txt ⊕ (Txt × Txt) → ((Txt × Bool) × Twire_cutter)
  | .inl q => (([], false), ⟨m, b, ((b.length - q.length : Nat) : Int), l, st, ln⟩)
  | .inr (t, q) => ((t, true), ⟨m, b, ((b.length - q.length : Nat) : Int), l, st, ln⟩)
theorem partP_cons (m : Tapi_Marks) (x : UInt8) (r : Txt) : partP m (x :: r) = if escB m x = true then
      match r with
      | [] => .inl []
      | y :: r => if isM m y = true then (match partP m r with | .inl q => .inl q | .inr (o, q) => .inr (y :: o, q)) else .inl (y :: r)
    else if isM m x = true then .inr ([], x :: r)
    else if outB x = true then .inl (x :: r)
    else match partP m r with | .inl q => .inl q | .inr (o, q) => .inr (x :: o, q) := by
  conv => lhs; unfold partP
  rfl
theorem part_tail {m : Tapi_Marks} {r t q : Txt} (h : partP m r = .inr (t, q)) : ∃ u, r = u ++ q := by
  have key : ∀ (n : Nat) (r : Txt), r.length ≤ n → ∀ t q, partP m r = .inr (t, q) → ∃ u, r = u ++ q := by
    intro n
    induction n with
    | zero =>
      intro r hr t q h
      have : r = [] := List.length_eq_zero_iff.1 (by omega)
      subst this
      rw [partP] at h; cases h
    | succ n ih =>
      intro r hr t q h
      cases r with
      | nil => rw [partP] at h; cases h
      | cons x r =>
        have hr : r.length ≤ n := by simpa using hr
        unfold partP at h
        split at h
        · cases r with
          | nil => cases h
          | cons y r =>
            simp only at h
            split at h
            · cases hp : partP m r with
              | inl p => rw [hp] at h; cases h
              | inr oq =>
                obtain ⟨o, p⟩ := oq
                obtain ⟨u, hu⟩ := ih r (by simp at hr; omega) o p hp
                rw [hp] at h
                cases h
                exact ⟨x :: y :: u, by rw [hu]; rfl⟩
            · cases h
        · split at h
          · cases h; exact ⟨[], rfl⟩
          · split at h
            · cases h
            · cases hp : partP m r with
              | inl p => rw [hp] at h; cases h
              | inr oq =>
                obtain ⟨o, p⟩ := oq
                obtain ⟨u, hu⟩ := ih r hr o p hp
                rw [hp] at h
                cases h
                exact ⟨x :: u, by rw [hu]; rfl⟩
  exact key r.length r (Nat.le_refl _) t q h
theorem drop_tail {b r u q : Txt} {i : Nat} (h : b.drop i = r) (hi : i ≤ b.length) (hr : r = u ++ q) : b.drop (b.length - q.length) = q := by
  have h1 := drop_len h hi
  rw [hr] at h h1
  rw [List.length_append] at h1
  have := drop_more h
  rwa [show i + u.length = b.length - q.length by omega] at this
theorem w_cpart (m : Tapi_Marks) (b r : Txt) (i : Nat) (l : List Tapi_Segment) (st : List Int) (ln : Bool) (hd : b.drop i = r) (hi : i ≤ b.length) (hb : b.length ≤ 1000000) :
    m_interchange_wire_cutter_part ⟨m, b, (i : Int), l, st, ln⟩ = some (partC m b l st ln (partP m r)) := by
  unfold m_interchange_wire_cutter_part sims_G2_1_1; dsimp only
  refine loop_to (X := Nat × Txt × Txt) (fun x => (m, b, ((x.1 : Nat) : Int), l, st, ln, x.2.2)) (fun x => x.2.1.length) (fun x => b.drop x.1 = x.2.1 ∧ x.1 ≤ b.length ∧ x.2.2.length ≤ x.1 ∧ partP m r = appP x.2.2 (partP m x.2.1)) ?_ (i, r, []) ⟨hd, hi, Nat.zero_le _, ?_⟩
  · rintro ⟨i, r', o⟩ ⟨h1, h2, h3, h4⟩
    simp only at h1 h2 h3 h4 ⊢
    rw [h4]
    cases r' with
    | nil =>
      have hl := drop_nil_len h1 h2
      refine .inr ⟨_, by subst hl; simp only [lt_dec_self, cond_false]; rfl, ?_⟩
      rw [partP]
      simp only [appP, partC, outK, List.length_nil, Nat.sub_zero, hl]
    | cons x r' =>
      obtain ⟨g1, g2, g3⟩ := drop_head h1
      have hlen := drop_len h1 h2
      have hlen3 := drop_len g3 (by omega)
      simp only [List.length_cons] at hlen
      have e1 : ((i : Nat) : Int) = ((b.length - (x :: r').length : Nat) : Int) := by simp only [List.length_cons]; omega
      simp only [lt_dec g2, cond_true, getI_nat, g1, Option.bind_some, escB_some, wrapN i (by omega)]
      rw [partP_cons]
      cases he : escB m x with
      | true =>
        simp only [cond_true, if_true]
        cases r' with
        | nil =>
          have hl := drop_nil_len g3 (by omega)
          have d : decide (((i + 1 : Nat) : Int) = (b.length : Int)) = true := decide_eq_true (by omega)
          refine .inr ⟨_, by simp only [d, orO, cond_true, Option.bind_some]; rfl, ?_⟩
          simp only [appP, partC, outK, List.length_nil, Nat.sub_zero, hl]
        | cons y r' =>
          obtain ⟨k1, k2, k3⟩ := drop_head g3
          have d : decide (((i + 1 : Nat) : Int) = (b.length : Int)) = false := decide_eq_false (by omega)
          simp only [d, getI_nat, k1, Option.bind_some, w_isM, orO_some, Bool.false_or]
          have hlen2 := drop_len k3 (by omega)
          cases hy : isM m y with
          | false =>
            refine .inr ⟨_, by simp only [Bool.not_false, cond_true]; rfl, ?_⟩
            simp only [appP, partC, outK, List.length_cons, Bool.false_eq_true, if_false]
            rw [show b.length - (r'.length + 1) = i + 1 by omega]
          | true =>
            refine .inl ⟨(i + 2, r', o ++ [y]), ⟨k3, by omega, by simp; omega, ?_⟩, by simp only [List.length_cons]; omega, ?_⟩
            · simp only [if_true]
              rw [appP_snoc]
              rcases partP m r' with q | ⟨t, q⟩ <;> rfl
            · simp only [Bool.not_true, cond_false]
              rw [thenO_ok (by simp; omega), wrapN (i + 1) (by omega)]
      | false =>
        simp only [cond_false, Bool.false_eq_true, if_false, w_isM, Option.bind_some]
        cases hm : isM m x with
        | true =>
          refine .inr ⟨_, by simp only [cond_true]; rfl, ?_⟩
          simp only [appP, partC, outK, if_true, List.append_nil]
          rw [← e1]
        | false =>
          simp only [cond_false, Bool.false_eq_true, if_false, outB_some, Option.bind_some]
          cases ho : outB x with
          | true =>
            refine .inr ⟨_, by simp only [cond_true]; rfl, ?_⟩
            simp only [appP, partC, outK, if_true]
            rw [← e1]
          | false =>
            refine .inl ⟨(i + 1, r', o ++ [x]), ⟨g3, by omega, by simp; omega, ?_⟩, by simp, ?_⟩
            · simp only [Bool.false_eq_true, if_false]
              rw [appP_snoc]
              rcases partP m r' with q | ⟨t, q⟩ <;> rfl
            · simp only [cond_false]
              rw [thenO_ok (by simp; omega)]
  · cases partP m r with
    | inl q => rfl
    | inr tq => obtain ⟨t, q⟩ := tq; rfl
/-! ### Elements -/
def elemC (m : Tapi_Marks) (b : Txt) (l : List Tapi_Segment) (st : List Int) (ln : Bool) (z : (Tapi_Element × Bool) × Twire_cutter) : Txt ⊕ (List (List Txt) × Txt) → Prop
  | .inl q => z.1.2 = false ∧ z.2 = ⟨m, b, ((b.length - q.length : Nat) : Int), l, st, ln⟩
  | .inr (xs, q) => z = ((⟨xs⟩, true), ⟨m, b, ((b.length - q.length : Nat) : Int), l, st, ln⟩)
theorem getI_last {α : Type} (l : List α) (x : α) (h : l.length < 9223372036854775807) : getI (l ++ [x]) (IntKind.i64.wrap (((l ++ [x]).length : Int) - 1)) = some x ∧ (IntKind.i64.wrap (((l ++ [x]).length : Int) - 1)).toNat = l.length := by
  have e : IntKind.i64.wrap (((l ++ [x]).length : Int) - 1) = ((l.length : Nat) : Int) := by
    rw [List.length_append, List.length_singleton, wrap64 _ (by omega) (by omega)]; omega
  rw [e, getI_nat, List.getElem?_append_right (Nat.le_refl _), Nat.sub_self]
  exact ⟨rfl, by omega⟩
theorem loop_to' {X S A R : Type} {f : S → Option (S ⊕ A)} {k : A → Option R} {C : R → Prop} (st : X → S) (μ : X → Nat) (P : X → Prop)
    (h : ∀ x, P x → (∃ y, P y ∧ μ y < μ x ∧ f (st x) = some (.inl (st y))) ∨ (∃ a c, f (st x) = some (.inr a) ∧ k a = some c ∧ C c)) (x : X) (hx : P x) : ∃ c, (loopC f (st x)).bind k = some c ∧ C c := by
  have : ∀ n x, μ x ≤ n → P x → ∃ c, (loopC f (st x)).bind k = some c ∧ C c := by
    intro n
    induction n with
    | zero =>
      intro x hn hx
      rcases h x hx with ⟨y, _, h2, _⟩ | ⟨a, c, h1, h2, h3⟩
      · omega
      · rw [loopC_eq, h1]; exact ⟨c, h2, h3⟩
    | succ n ih =>
      intro x hn hx
      rcases h x hx with ⟨y, h1, h2, h3⟩ | ⟨a, c, h1, h2, h3⟩
      · rw [loopC_eq, h3]; exact ih y (by omega) h1
      · rw [loopC_eq, h1]; exact ⟨c, h2, h3⟩
  exact this (μ x) x (Nat.le_refl _) hx
theorem eq_t {a b : UInt8} (h : a = b) : decide ((a.toNat : Int) = (b.toNat : Int)) = true := decide_eq_true (by rw [h])
theorem eq_f {a b : UInt8} (h : ¬ a = b) : decide ((a.toNat : Int) = (b.toNat : Int)) = false := decide_eq_false fun e => h (UInt8.toNat_inj.1 (by omega))
theorem w_celement (m : Tapi_Marks) (b r : Txt) (i : Nat) (l : List Tapi_Segment) (st : List Int) (ln : Bool) (hd : b.drop i = r) (hi : i ≤ b.length) (hb : b.length ≤ 1000000) {res : Txt ⊕ (List (List Txt) × Txt)} (hres : ElR m m.fRepeat [] r res) :
    ∃ z, m_interchange_wire_cutter_element ⟨m, b, (i : Int), l, st, ln⟩ = some z ∧ elemC m b l st ln z res := by
  unfold m_interchange_wire_cutter_element sims_G2_2_1; dsimp only
  refine loop_to' (X := Nat × Txt × List (List Txt) × UInt8) (fun x => (m, b, ((x.1 : Nat) : Int), l, st, ln, x.2.2.1, (⟨[]⟩ : Tapi_Element), x.2.2.2)) (fun x => x.2.1.length) (fun x => b.drop x.1 = x.2.1 ∧ x.1 ≤ b.length ∧ x.2.2.1.length + (x.2.2.1.map List.length).sum ≤ 2 * x.1 ∧ (x.2.2.2 = m.fRepeat ∨ x.2.2.1 ≠ []) ∧ ElR m x.2.2.2 x.2.2.1 x.2.1 res) ?_ (i, r, [], m.fRepeat) ⟨hd, hi, Nat.zero_le _, .inl rfl, hres⟩
  rintro ⟨i, r', xs, k⟩ ⟨h1, h2, h3, h4, h5⟩
  simp only at h1 h2 h3 h4 h5 ⊢
  have hw := w_cpart m b r' i l st ln h1 h2 (by omega)
  have hlen := drop_len h1 h2
  -- the parts as they are behind this text
  have hput : ∀ t, ∃ ys p, (if k = m.fRepeat then xs ++ [[]] else xs) = ys ++ [p] ∧ addT m k xs t = ys ++ [p ++ [t]] ∧ ys.length + 1 + (ys.map List.length).sum + p.length ≤ 2 * i + 1 := fun t => by
    unfold addT
    by_cases hk : k = m.fRepeat
    · refine ⟨xs, [], by rw [if_pos hk], by rw [if_pos hk, putL_snoc], by simp; omega⟩
    · have hne : xs ≠ [] := h4.resolve_left hk
      have e := List.dropLast_concat_getLast hne
      refine ⟨xs.dropLast, xs.getLast hne, by rw [if_neg hk, e], by rw [if_neg hk, ← putL_snoc, e], ?_⟩
      rw [← e] at h3
      simp only [List.length_append, List.length_singleton, List.map_append, List.map_cons, List.map_nil, List.sum_append, List.sum_cons, List.sum_nil] at h3
      omega
  cases h5 with
  | @bad _ _ _ q hp =>
    rw [hp] at hw
    unfold partC at hw
    exact .inr ⟨_, _, by simp only [hw, Option.bind_some, Bool.not_false, cond_true]; rfl, rfl, rfl, rfl⟩
  | @fin _ _ _ t y q hp hy =>
    obtain ⟨ys, p, e1, e2, e3⟩ := hput t
    obtain ⟨u, hu⟩ := part_tail hp
    have hdq := drop_tail h1 h2 hu
    obtain ⟨g1, g2, g3⟩ := drop_head hdq
    have hv : (decide ((y.toNat : Int) = (m.fElement.toNat : Int)) || decide ((y.toNat : Int) = (m.fEnd.toNat : Int))) = true := by
      rcases hy with h | h
      · rw [eq_t h, Bool.true_or]
      · rw [eq_t h, Bool.or_true]
    refine .inr ⟨.inr ((⟨addT m k xs t⟩, true), ⟨m, b, ((b.length - (y :: q).length : Nat) : Int), l, st, ln⟩), ((⟨addT m k xs t⟩, true), ⟨m, b, ((b.length - (y :: q).length : Nat) : Int), l, st, ln⟩), ?_, rfl, rfl⟩
    rw [hp] at hw
    unfold partC at hw
    simp only [hw, Option.bind_some]
    obtain ⟨j1, j2⟩ := getI_last ys p (by omega)
    by_cases hk : k = m.fRepeat
    · rw [if_pos hk] at e1
      simp only [Bool.not_true, cond_false, eq_t hk, cond_true, e1, j1, j2, Option.bind_some, getI_nat, g1, orO_some, hv]
      have hx : xs.length + 1 = ys.length + 1 := by have := congrArg List.length e1; simpa using this
      rw [thenO_ok (by simp only [List.length_singleton]; omega), thenO_ok (by simp only [List.length_singleton]; omega), e2, List.set_append_right _ _ (Nat.le_refl _), Nat.sub_self]
      rfl
    · rw [if_neg hk] at e1
      rw [e2]
      simp only [Bool.not_true, cond_false, eq_f hk, e1, j1, j2, Option.bind_some, getI_nat, g1, orO_some, hv, cond_true]
      rw [thenO_ok (by simp only [List.length_singleton]; omega), List.set_append_right _ _ (Nat.le_refl _), Nat.sub_self]
      rfl
  | @more _ _ _ t y q _ hp hy hr =>
    obtain ⟨ys, p, e1, e2, e3⟩ := hput t
    obtain ⟨u, hu⟩ := part_tail hp
    have hdq := drop_tail h1 h2 hu
    obtain ⟨g1, g2, g3⟩ := drop_head hdq
    have hv : (decide ((y.toNat : Int) = (m.fElement.toNat : Int)) || decide ((y.toNat : Int) = (m.fEnd.toNat : Int))) = false := by
      rw [eq_f (fun h => hy (.inl h)), eq_f (fun h => hy (.inr h))]; rfl
    have hql := (partP_inr hp).1
    have hql2 := (partP_inr hp).2.1
    simp only [List.length_cons] at hql hql2 hlen
    refine .inl ⟨(b.length - (y :: q).length + 1, q, addT m k xs t, y), ⟨g3, by omega, ?_, .inr (addT_ne h4), hr⟩, by simp only; omega, ?_⟩
    · simp only [e2, List.length_append, List.length_singleton, List.map_append, List.map_cons, List.map_nil, List.sum_append, List.sum_cons, List.sum_nil, List.length_cons, List.length_nil]
      omega
    rw [hp] at hw
    unfold partC at hw
    simp only [hw, Option.bind_some]
    obtain ⟨j1, j2⟩ := getI_last ys p (by omega)
    by_cases hk : k = m.fRepeat
    · rw [if_pos hk] at e1
      simp only [Bool.not_true, cond_false, eq_t hk, cond_true, e1, j1, j2, Option.bind_some, getI_nat, g1, orO_some, hv]
      have hx : xs.length + 1 = ys.length + 1 := by have := congrArg List.length e1; simpa using this
      rw [thenO_ok (by simp only [List.length_singleton]; omega), thenO_ok (by simp only [List.length_singleton]; omega), wrapN _ (by omega), e2, List.set_append_right _ _ (Nat.le_refl _), Nat.sub_self]
      rfl
    · rw [if_neg hk] at e1
      rw [e2]
      simp only [Bool.not_true, cond_false, eq_f hk, e1, j1, j2, Option.bind_some, getI_nat, g1, orO_some, hv]
      rw [thenO_ok (by simp only [List.length_singleton]; omega), wrapN _ (by omega), List.set_append_right _ _ (Nat.le_refl _), Nat.sub_self]
      rfl
end Go.Proofs.YtfbhhhghjehjjaaDoor

/-
  The functions of the cutter.
-/


/-
  Plain laws of the wire: what the program's cutter does with tags and segments.
-/
namespace Go.Proofs.YtfbhhhghjehjjaaDoor
set_option linter.unusedSimpArgs false
set_option linter.unusedVariables false
open Go.RowKit

theorem sliceI_from {α : Type} (l : List α) {i : Nat} (h : i ≤ l.length) : sliceI l (i : Int) (l.length : Int) = some (l.drop i) := by
  unfold sliceI
  rw [if_pos ⟨by omega, by omega, by omega⟩]
  simp
theorem sliceI_len {α : Type} (l : List α) {i n : Nat} (h : i + n ≤ l.length) : sliceI l (i : Int) (((i + n : Nat)) : Int) = some ((l.drop i).take n) := by
  unfold sliceI
  rw [if_pos ⟨by omega, by omega, by omega⟩]
  simp only [Int.toNat_natCast]
  rw [List.drop_take, show i + n - i = n by omega]
theorem stop_contains (m : Tapi_Marks) (b : UInt8) : ([m.fElement, m.fEnd] : Txt).contains b = stopB m b := by
  rw [Bool.eq_iff_iff]
  unfold stopB
  rw [Bool.or_eq_true, eqB_iff, eqB_iff]
  simp
theorem takeWhile_all {p : UInt8 → Bool} : ∀ {l : Txt} {x : UInt8}, x ∈ l.takeWhile p → p x = true
  | [], _, h => by cases h
  | a :: l, x, h => by
    rw [List.takeWhile_cons] at h
    split at h
    · rename_i ha
      rcases List.mem_cons.1 h with rfl | h
      · exact ha
      · exact takeWhile_all h
    · cases h
theorem indexAny_stop (m : Tapi_Marks) (r : Txt) : Lib.indexAny r [m.fElement, m.fEnd] = match r.dropWhile (fun b => !stopB m b) with
    | [] => -1
    | _ :: _ => (((r.takeWhile fun b => !stopB m b).length : Nat) : Int) := by
  cases hd : r.dropWhile (fun b => !stopB m b) with
  | nil =>
    have := dropWhile_nil.1 hd
    refine Lib.indexAny_none fun j b hj hb => ?_
    rw [stop_contains]
    simpa using this b (List.mem_of_getElem? hb)
  | cons y q =>
    have h1 := List.takeWhile_append_dropWhile (p := fun b => !stopB m b) (l := r)
    rw [hd] at h1
    have h2 := dropWhile_head hd
    refine Lib.indexAny_hit (x := y) (fun j b hj hb => ?_) ?_ ?_
    · rw [← h1, List.getElem?_append_left hj] at hb
      have := takeWhile_all (List.mem_of_getElem? hb)
      rw [stop_contains]
      simpa using this
    · have : ∀ (a : Txt), (a ++ y :: q)[a.length]? = some y := fun a => by rw [List.getElem?_append_right (Nat.le_refl _), Nat.sub_self]; rfl
      have := this (r.takeWhile fun b => !stopB m b)
      rwa [h1] at this
    · rw [stop_contains]; simpa using h2
theorem w_canBegin (b : UInt8) (l : Txt) (hl : l.length ≤ 1000000) : m_wire_canBegin (b :: l) = some (beginsF (b :: l)) := by
  unfold m_wire_canBegin sims_G2_1_0; dsimp only
  have hs : sliceI (b :: l) ((none : Option Int).getD 0) ((some (1 : Int)).getD ((b :: l).length : Int)) = some [b] := by
    have := sliceI_len (b :: l) (i := 0) (n := 1) (by simp)
    simpa using this
  have hdig : m_kit_IsDigits [b] = some (!(decide ((b.toNat : Int) < 48) || decide ((57 : Int) < (b.toNat : Int)))) := by
    unfold m_kit_IsDigits sims_G2_0_0; dsimp only
    rw [inBytes_eq _ _ _ (by simp)]
    have e1 : (((UInt8.ofNat (Int.toNat 48)).toNat : Nat) : Int) = 48 := rfl
    have e2 : (((UInt8.ofNat (Int.toNat 57)).toNat : Nat) : Int) = 57 := rfl
    have e3 : decide (([b] : Txt) = []) = false := decide_eq_false (by simp)
    simp only [e1, e2, e3, Bool.not_false, andO, cond_true, Option.bind_some, List.findSome?_cons, List.findSome?_nil]
    cases (decide ((b.toNat : Int) < 48) || decide ((57 : Int) < (b.toNat : Int))) <;> rfl
  have h1 : m_kit_IsTagPart (b :: l) = some ((b :: l).all tagB) := by rw [isTagPart_eq _ (by simp; omega), trim_tag]
  have h2 : m_kit_IsTagPart [b] = some ([b].all tagB) := by rw [isTagPart_eq _ (by simp), trim_tag]
  have hd : decide (((b :: l).length : Int) ≤ 6) = decide ((b :: l).length ≤ 6) := by congr 1; apply propext; omega
  simp only [hs, h1, h2, hdig, hd, Option.bind_some, andO_some]
  have hb : (tagB b && !!(decide ((b.toNat : Int) < 48) || decide ((57 : Int) < (b.toNat : Int)))) = letB b := by
    unfold tagB letB
    by_cases g1 : (b.toNat : Int) < 48 <;> by_cases g2 : (57 : Int) < (b.toNat : Int) <;> simp [g1, g2] <;> omega
  have hx : ∀ p q t d : Bool, (p && (t && q) && (t && true) && d) = (((t && d) && q) && p) := by decide
  unfold beginsF
  simp only [List.all_cons, List.all_nil, hx, Bool.not_not] at hb ⊢
  rw [hb]
theorem markB_lt {b : UInt8} (h : markB b = true) : b.toNat < 128 := by
  unfold markB at h
  simp only [Bool.and_eq_true, Bool.not_eq_true', Bool.or_eq_false_iff, decide_eq_false_iff_not] at h
  omega
def tagC (m : Tapi_Marks) (b : Txt) (l : List Tapi_Segment) (st : List Int) (ln : Bool) : Txt ⊕ (Txt × Txt) → ((Txt × Bool) × Twire_cutter)
  | .inl q => (([], false), ⟨m, b, ((b.length - q.length : Nat) : Int), l, st, ln⟩)
  | .inr (t, q) => ((t, true), ⟨m, b, ((b.length - q.length : Nat) : Int), l, st, ln⟩)
theorem w_ctag (m : Tapi_Marks) (hE : markB m.fElement = true) (hN : markB m.fEnd = true) (b r : Txt) (i : Nat) (l : List Tapi_Segment) (st : List Int) (ln : Bool) (hd : b.drop i = r) (hi : i ≤ b.length) (hr : r ≠ []) (hb : b.length ≤ 1000000) :
    m_interchange_wire_cutter_tag ⟨m, b, (i : Int), l, st, ln⟩ = some (tagC m b l st ln (tagP m r)) := by
  unfold m_interchange_wire_cutter_tag sims_G2_2_0; dsimp only
  have hlen := drop_len hd hi
  have hs : sliceI b ((some (i : Int)).getD 0) ((none : Option Int).getD (b.length : Int)) = some r := by
    have := sliceI_from b hi
    rw [hd] at this
    exact this
  have hx : m_bytes_IndexAny r [m.fElement, m.fEnd] = some (Lib.indexAny r [m.fElement, m.fEnd]) := by
    unfold m_bytes_IndexAny
    rw [if_pos]
    refine ⟨by omega, rfl, ?_⟩
    simp [markB_lt hE, markB_lt hN]
  simp only [hs, hx, Option.bind_some, indexAny_stop]
  unfold tagP
  cases hdw : r.dropWhile (fun b => !stopB m b) with
  | nil =>
    cases r with
    | nil => exact absurd rfl hr
    | cons x r =>
      have d : decide ((-1 : Int) < 0) = true := by decide
      simp only [d, cond_true, w_canBegin x r (by simp at hlen; omega), Option.bind_some]
      cases beginsF (x :: r) with
      | true => simp only [cond_true, if_true, tagC, List.length_nil, Nat.sub_zero]
      | false =>
        simp only [cond_false, Bool.false_eq_true, if_false, tagC]
        rw [show b.length - (x :: r).length = i by omega]
  | cons y q =>
    simp only
    have h1 := List.takeWhile_append_dropWhile (p := fun b => !stopB m b) (l := r)
    rw [hdw] at h1
    have h2 := congrArg List.length h1
    rw [List.length_append] at h2
    have d : decide ((((r.takeWhile fun b => !stopB m b).length : Nat) : Int) < 0) = false := decide_eq_false (by omega)
    have hw : IntKind.i64.wrap ((i : Int) + (((r.takeWhile fun b => !stopB m b).length : Nat) : Int)) = ((i + (r.takeWhile fun b => !stopB m b).length : Nat) : Int) := by rw [wrap64 _ (by omega) (by omega)]; omega
    have hs2 : sliceI b ((some (i : Int)).getD 0) ((some ((i + (r.takeWhile fun b => !stopB m b).length : Nat) : Int)).getD (b.length : Int)) = some (r.takeWhile fun b => !stopB m b) := by
      have := sliceI_len b (i := i) (n := (r.takeWhile fun b => !stopB m b).length) (by omega)
      rw [hd] at this
      simp only [Option.getD_some]
      rw [this]
      congr 1
      have h3 : ∀ (a : Txt), (a ++ y :: q).take a.length = a := fun a => List.take_left
      have := h3 (r.takeWhile fun b => !stopB m b)
      rwa [h1] at this
    simp only [d, cond_false, hw, hs2, Option.bind_some]
    rw [w_tag _ (by omega)]
    cases ht : tagF (r.takeWhile fun b => !stopB m b) with
    | true =>
      simp only [Option.bind_some, Bool.not_true, cond_false, if_true, tagC]
      rw [show b.length - (y :: q).length = i + (r.takeWhile fun b => !stopB m b).length by omega]
    | false =>
      simp only [Option.bind_some, Bool.not_false, cond_true, Bool.false_eq_true, if_false, tagC]
      rw [show b.length - r.length = i by omega]
/-! ### Segments -/
def lnOf (l : List Tapi_Segment) (ln : Bool) (q : Txt) : Bool := if l = [] then feedB q else ln
def segC (m : Tapi_Marks) (b : Txt) (l : List Tapi_Segment) (ln : Bool) (n : Nat) (z : Bool × Twire_cutter) : Txt ⊕ (Tapi_Segment × Txt) → Prop
  | .inl q => z.1 = false ∧ z.2.fi = ((b.length - q.length : Nat) : Int)
  | .inr (s, q) => if (lnOf l ln q && !feedB q) = true then z.1 = false ∧ z.2.fi = ((b.length - q.length : Nat) : Int)
    else ∃ st', st'.length ≤ n + 1 ∧ z = (true, ⟨m, b, ((b.length - (if lnOf l ln q = true then q.tail else q).length : Nat) : Int), l ++ [s], st', lnOf l ln q⟩)
theorem feed_at {b q : Txt} {i : Nat} (h : b.drop i = q) (hi : i ≤ b.length) : (andO (decide (((i : Nat) : Int) < (b.length : Int))) ((getI b ((i : Nat) : Int)).bind fun e => some (decide ((e.toNat : Int) = 10)))) = some (feedB q) := by
  cases q with
  | nil =>
    have := drop_nil_len h hi
    subst this
    rw [lt_dec_self]; rfl
  | cons x q =>
    obtain ⟨h1, h2, _⟩ := drop_head h
    rw [lt_dec h2, getI_nat, h1]
    simp only [Option.bind_some, andO_some, Bool.true_and]
    congr 1
    by_cases hx : x = 10
    · subst hx; rfl
    · have : feedB (x :: q) = false := by
        unfold feedB
        split
        · rename_i h; cases h; exact absurd rfl hx
        · rfl
      rw [this]
      refine decide_eq_false fun e => hx (UInt8.toNat_inj.1 ?_)
      have : (10 : UInt8).toNat = 10 := rfl
      omega
theorem feed_iff {q : Txt} (h : feedB q = true) : q = 10 :: q.tail := by
  unfold feedB at h
  split at h
  · rfl
  · cases h
theorem seg_cases {m : Tapi_Marks} {r : Txt} {res : Txt ⊕ (Tapi_Segment × Txt)} (h : SegR m r res) : (∃ q, tagP m r = .inl q ∧ res = .inl q) ∨
    ∃ s q eres, tagP m r = .inr (s, q) ∧ ElsR m [] q eres ∧ (∀ p, eres = .inl p → res = .inl p) ∧ ∀ els y q', eres = .inr (els, y :: q') → res = .inr (⟨s, els⟩, q') := by
  cases h with
  | tag ht => exact .inl ⟨_, ht, rfl⟩
  | bad ht he => exact .inr ⟨_, _, _, ht, he, (fun p h => by cases h; rfl), (fun _ _ _ h => by cases h)⟩
  | ok ht he => exact .inr ⟨_, _, _, ht, he, (fun p h => by cases h), (fun _ _ _ h => by cases h; rfl)⟩
theorem el_tail {m : Tapi_Marks} {k : UInt8} {xs : List (List Txt)} {r : Txt} {res : Txt ⊕ (List (List Txt) × Txt)} (h : ElR m k xs r res) : ∀ xs' q', res = .inr (xs', q') → ∃ u, r = u ++ q' := by
  induction h with
  | bad => intro _ _ h; cases h
  | fin hp hy => intro _ _ h; cases h; exact part_tail hp
  | @more k xs r t y q res hp hy _ ih =>
    intro xs' q' h
    obtain ⟨u, hu⟩ := ih xs' q' h
    obtain ⟨v, hv⟩ := part_tail hp
    exact ⟨v ++ y :: u, by rw [hv, hu]; simp⟩
theorem w_csegment (m : Tapi_Marks) (hE : markB m.fElement = true) (hN : markB m.fEnd = true) (b r : Txt) (i : Nat) (l : List Tapi_Segment) (st : List Int) (ln : Bool) (hd : b.drop i = r) (hi : i ≤ b.length) (hr : r ≠ []) (hb : b.length ≤ 1000000) (hst : st.length ≤ i) (hll : l.length ≤ i)
    {res : Txt ⊕ (Tapi_Segment × Txt)} (hres : SegR m r res) : ∃ z, m_interchange_wire_cutter_segment ⟨m, b, (i : Int), l, st, ln⟩ = some z ∧ segC m b l ln st.length z res := by
  unfold m_interchange_wire_cutter_segment sims_G4_0_0; dsimp only
  have ht := w_ctag m hE hN b r i l (st ++ [(i : Int)]) ln hd hi hr hb
  have hlen := drop_len hd hi
  rw [thenO_ok (by simp only [List.length_singleton]; omega)]
  rcases seg_cases hres with ⟨q, htag, rfl⟩ | ⟨s, q, eres, htag, he, hC1, hC2⟩
  · rw [htag] at ht
    unfold tagC at ht
    simp only [ht, Option.bind_some, Bool.not_false, cond_true]
    exact ⟨_, rfl, rfl, rfl⟩
  · rw [htag] at ht
    unfold tagC at ht
    obtain ⟨hsq, _, _⟩ := tagP_inr htag
    have hdq := drop_tail hd hi hsq
    have hql : q.length ≤ r.length := by have := congrArg List.length hsq; rw [List.length_append] at this; omega
    simp only [ht, Option.bind_some, Bool.not_true, cond_false]
    refine loop_to' (X := Nat × Txt × List Tapi_Element) (fun x => (m, b, ((x.1 : Nat) : Int), l, st ++ [(i : Int)], ln, s, x.2.2)) (fun x => x.2.1.length) (fun x => b.drop x.1 = x.2.1 ∧ x.1 ≤ b.length ∧ x.2.2.length ≤ x.1 ∧ ElsR m x.2.2 x.2.1 eres) ?_ (b.length - q.length, q, []) ⟨hdq, by omega, Nat.zero_le _, he⟩
    rintro ⟨j, r', acc⟩ ⟨h1, h2, h3, h4⟩
    simp only at h1 h2 h3 h4 ⊢
    cases h4 with
    | @bad _ q' p hel =>
      obtain ⟨g1, g2, g3⟩ := drop_head h1
      obtain ⟨z, hz, hc1, hc2⟩ := w_celement m b q' (j + 1) l (st ++ [(i : Int)]) ln g3 (by omega) hb hel
      obtain ⟨⟨z1, z2⟩, z3⟩ := z
      simp only at hc1 hc2
      subst hc1 hc2
      refine .inr ⟨_, _, by simp only [getI_nat, g1, Option.bind_some, decide_true, cond_true, wrapN j (by omega), hz, Bool.not_false]; rfl, rfl, ?_⟩
      rw [hC1 p rfl]
      exact ⟨rfl, rfl⟩
    | @more _ q' xs q2 _ hel hr2 =>
      obtain ⟨g1, g2, g3⟩ := drop_head h1
      obtain ⟨z, hz, hc⟩ := w_celement m b q' (j + 1) l (st ++ [(i : Int)]) ln g3 (by omega) hb hel
      unfold elemC at hc
      subst hc
      obtain ⟨k1, k2⟩ := el_tail hel _ _ rfl
      have hdq2 := drop_tail g3 (by omega) k2
      have hlen3 := drop_len g3 (by omega)
      refine .inl ⟨(b.length - q2.length, q2, acc ++ [⟨xs⟩]), ⟨hdq2, by omega, ?_, hr2⟩, ?_, ?_⟩
      · simp only [List.length_append, List.length_singleton]
        have := congrArg List.length k2
        rw [List.length_append] at this
        omega
      · simp only [List.length_cons]
        have := congrArg List.length k2
        rw [List.length_append] at this
        omega
      · simp only [getI_nat, g1, Option.bind_some, decide_true, cond_true, wrapN j (by omega), hz, Bool.not_true, cond_false]
        rw [thenO_ok (by simp only [List.length_singleton]; omega)]
    | @fin _ y q' hy =>
      obtain ⟨g1, g2, g3⟩ := drop_head h1
      have hlen3 := drop_len g3 (by omega)
      refine .inr ⟨.inl (m, b, ((j : Nat) : Int), l, st ++ [(i : Int)], ln, s, acc), ?_⟩
      have hb1 : ∀ A : Type, True := fun _ => trivial
      rw [hC2 acc y q' rfl]
      have hfeed := feed_at g3 (by omega)
      have ej : ((j + 1 : Nat) : Int) = ((b.length - q'.length : Nat) : Int) := by omega
      have hk : ∀ (c : Bool), decide ((l.length : Int) = 0) = c → (decide (l = []) = c) := fun c h => by
        rw [← h]; congr 1; apply propext; rw [← List.length_eq_zero_iff]; omega
      cases hl : decide ((l.length : Int) = 0) with
      | true =>
        have hl0 : l = [] := by have := hk _ hl; simpa using this
        have hlo : lnOf l ln q' = feedB q' := by unfold lnOf; rw [if_pos hl0]
        cases hf : feedB q' with
        | false =>
          refine ⟨(true, ⟨m, b, ((j + 1 : Nat) : Int), l ++ [⟨s, acc⟩], st ++ [(i : Int)], false⟩), ?_, ?_, ?_⟩
          · simp only [getI_nat, g1, Option.bind_some, eq_f hy, cond_false]; rfl
          · simp only [outK, wrapN j (by omega), hfeed, hf, Option.bind_some, hl, cond_true]; simp only [andO, Option.bind_some, cond_true, cond_false]
            rw [thenO_ok (by omega)]
          · unfold segC
            simp only [hlo, hf, Bool.false_and, Bool.false_eq_true, if_false]
            exact ⟨st ++ [(i : Int)], by simp, by rw [ej]⟩
        | true =>
          have hq := feed_iff hf
          have hq2 := congrArg List.length hq
          simp only [List.length_cons] at hq2
          refine ⟨(true, ⟨m, b, ((j + 1 + 1 : Nat) : Int), l ++ [⟨s, acc⟩], st ++ [(i : Int)], true⟩), ?_, ?_, ?_⟩
          · simp only [getI_nat, g1, Option.bind_some, eq_f hy, cond_false]; rfl
          · simp only [outK, wrapN j (by omega), wrapN (j + 1) (by omega), hfeed, hf, Option.bind_some, hl, cond_true]; simp only [andO, Option.bind_some, cond_true, Bool.not_true, cond_false]
            rw [thenO_ok (by omega)]
          · unfold segC
            simp only [hlo, hf, Bool.not_true, Bool.and_false, Bool.false_eq_true, if_false, if_true]
            refine ⟨st ++ [(i : Int)], by simp, ?_⟩
            rw [show b.length - q'.tail.length = j + 1 + 1 by omega]
      | false =>
        have hl0 : ¬ l = [] := by have := hk _ hl; simpa using this
        have hlo : lnOf l ln q' = ln := by unfold lnOf; rw [if_neg hl0]
        cases hln : ln with
        | false =>
          subst hln
          refine ⟨(true, ⟨m, b, ((j + 1 : Nat) : Int), l ++ [⟨s, acc⟩], st ++ [(i : Int)], false⟩), ?_, ?_, ?_⟩
          · simp only [getI_nat, g1, Option.bind_some, eq_f hy, cond_false]; rfl
          · simp only [outK, wrapN j (by omega), hfeed, Option.bind_some, hl, cond_false]; simp only [andO, Option.bind_some, cond_true, cond_false]
            rw [thenO_ok (by omega)]
          · unfold segC
            simp only [hlo, Bool.false_and, Bool.false_eq_true, if_false]
            exact ⟨st ++ [(i : Int)], by simp, by rw [ej]⟩
        | true =>
          subst hln
          cases hf : feedB q' with
          | false =>
            refine ⟨(false, ⟨m, b, ((j + 1 : Nat) : Int), l ++ [⟨s, acc⟩], st ++ [(i : Int)], true⟩), ?_, ?_, ?_⟩
            · simp only [getI_nat, g1, Option.bind_some, eq_f hy, cond_false]; rfl
            · simp only [outK, wrapN j (by omega), hfeed, hf, Option.bind_some, hl, cond_true]; simp only [andO, Option.bind_some, cond_true, Bool.not_false, cond_false]
              rw [thenO_ok (by omega)]
            · unfold segC
              simp only [hlo, hf, Bool.not_false, Bool.and_true, if_true]
              exact ⟨trivial, ej⟩
          | true =>
            have hq := feed_iff hf
            have hq2 := congrArg List.length hq
            simp only [List.length_cons] at hq2
            refine ⟨(true, ⟨m, b, ((j + 1 + 1 : Nat) : Int), l ++ [⟨s, acc⟩], st ++ [(i : Int)], true⟩), ?_, ?_, ?_⟩
            · simp only [getI_nat, g1, Option.bind_some, eq_f hy, cond_false]; rfl
            · simp only [outK, wrapN j (by omega), wrapN (j + 1) (by omega), hfeed, hf, Option.bind_some, hl, cond_true]; simp only [andO, Option.bind_some, cond_true, Bool.not_true, cond_false]
              rw [thenO_ok (by omega)]
            · unfold segC
              simp only [hlo, hf, Bool.not_true, Bool.and_false, Bool.false_eq_true, if_false, if_true]
              refine ⟨st ++ [(i : Int)], by simp, ?_⟩
              rw [show b.length - q'.tail.length = j + 1 + 1 by omega]
end Go.Proofs.YtfbhhhghjehjjaaDoor

/-
  Plain laws of the wire: what the reference's cutter does.
-/
namespace Go.Proofs.YtfbhhhghjehjjaaDoor
set_option linter.unusedSimpArgs false
set_option linter.unusedVariables false
open Go.RowKit

theorem r_stop (b : Txt) (m : Tapi_Marks) (a z : Int) (ln : Bool) (p : Int) : m_interchange_interchangeref2_cutter_stop ⟨b, m, a, z, ln⟩ p = some ((), ⟨b, m, a, if z < 0 then p else z, ln⟩) := by
  unfold m_interchange_interchangeref2_cutter_stop sims_G3_0_1; dsimp only
  by_cases h : z < 0
  · simp only [h, decide_true, cond_true, if_true]
  · simp only [h, decide_false, cond_false, if_false]
theorem r_stop0 (b : Txt) (m : Tapi_Marks) (a : Int) (ln : Bool) (p : Int) : m_interchange_interchangeref2_cutter_stop ⟨b, m, a, -1, ln⟩ p = some ((), ⟨b, m, a, p, ln⟩) := by
  rw [r_stop, if_pos (by decide)]
/-- Where the reference stands: a place, and whether it stopped. -/
def rtagC (b : Txt) (m : Tapi_Marks) (ln : Bool) (z : Txt × Tinterchangeref2_cutter) : Txt ⊕ (Txt × Txt) → Prop
  | .inl q => ∃ a : Nat, a ≤ b.length ∧ z.2 = ⟨b, m, (a : Int), ((b.length - q.length : Nat) : Int), ln⟩
  | .inr (s, q) => z = (s, ⟨b, m, ((b.length - q.length : Nat) : Int), -1, ln⟩)
theorem stop_iff {m : Tapi_Marks} {x : UInt8} : (!decide ((x.toNat : Int) = (m.fElement.toNat : Int)) && !decide ((x.toNat : Int) = (m.fEnd.toNat : Int))) = !stopB m x := by
  unfold stopB eqB
  cases decide ((x.toNat : Int) = (m.fElement.toNat : Int)) <;> rfl
theorem r_ctag (m : Tapi_Marks) (b r : Txt) (i : Nat) (ln : Bool) (hd : b.drop i = r) (hi : i ≤ b.length) (hb : b.length ≤ 1000000) :
    ∃ z, m_interchange_interchangeref2_cutter_tag ⟨b, m, (i : Int), -1, ln⟩ = some z ∧ rtagC b m ln z (tagP m r) := by
  unfold m_interchange_interchangeref2_cutter_tag sims_G3_1_0; dsimp only
  have hlen := drop_len hd hi
  refine loop_to' (X := Nat × Txt × Txt) (fun x => (b, m, ((x.1 : Nat) : Int), (-1 : Int), ln)) (fun x => x.2.1.length) (fun x => b.drop x.1 = x.2.1 ∧ x.1 ≤ b.length ∧ x.1 = i + x.2.2.length ∧ r.takeWhile (fun b => !stopB m b) = x.2.2 ++ x.2.1.takeWhile (fun b => !stopB m b) ∧ r.dropWhile (fun b => !stopB m b) = x.2.1.dropWhile (fun b => !stopB m b)) ?_ (i, r, []) ⟨hd, hi, rfl, rfl, rfl⟩
  rintro ⟨j, r', o⟩ ⟨h1, h2, h3, h4, h5⟩
  simp only at h1 h2 h3 h4 h5 ⊢
  -- what is left where the tag ends
  have hsl : sliceI b ((some (i : Int)).getD 0) ((some (j : Int)).getD (b.length : Int)) = some (r.take (j - i)) := by
    have := sliceI_len b (i := i) (n := j - i) (by omega)
    rw [show i + (j - i) = j by omega, hd] at this
    exact this
  cases r' with
  | nil =>
    have hj := drop_nil_len h1 h2
    have e1 : r.take (j - i) = r := List.take_of_length_le (by omega)
    rw [e1] at hsl
    have hbg : m_interchangeref2_beginsTag r = some (beginsF r) := by
      rw [r_begins r (by omega)]
      unfold beginsF
      cases r <;> rfl
    have ht : tagP m r = .inl (if beginsF r = true then [] else r) := by unfold tagP; rw [h5]; rfl
    have d : decide (((j : Nat) : Int) = (b.length : Int)) = true := decide_eq_true (by omega)
    have d2 : decide (((j : Nat) : Int) < (b.length : Int)) = false := decide_eq_false (by omega)
    rw [ht]
    cases hbe : beginsF r with
    | true =>
      refine .inr ⟨.inl (b, m, ((j : Nat) : Int), -1, ln), (r, ⟨b, m, ((j : Nat) : Int), (b.length : Int), ln⟩), ?_, ?_, j, h2, ?_⟩
      · simp only [d2, andO, cond_false, Option.bind_some]; rfl
      · simp only [outK, hsl, Option.bind_some, d, cond_true, hbg, hbe, r_stop0]
      · simp
    | false =>
      refine .inr ⟨.inl (b, m, ((j : Nat) : Int), -1, ln), (r, ⟨b, m, ((j : Nat) : Int), (i : Int), ln⟩), ?_, ?_, j, h2, ?_⟩
      · simp only [d2, andO, cond_false, Option.bind_some]; rfl
      · simp only [outK, hsl, Option.bind_some, d, cond_true, hbg, hbe, cond_false, r_stop0]
      · simp only [Bool.false_eq_true, if_false]
        rw [show b.length - r.length = i by omega]
  | cons x r' =>
    obtain ⟨g1, g2, g3⟩ := drop_head h1
    cases hst : stopB m x with
    | false =>
      refine .inl ⟨(j + 1, r', o ++ [x]), ⟨g3, by omega, by simp; omega, ?_, ?_⟩, by simp, ?_⟩
      · rw [h4]; simp [List.takeWhile_cons, hst]
      · rw [h5]; simp [List.dropWhile_cons, hst]
      · simp only [lt_dec g2, getI_nat, g1, Option.bind_some, andO_some, Bool.true_and, stop_iff, hst, Bool.not_false, cond_true, wrapN j (by omega)]
    | true =>
      have e0 : r.takeWhile (fun b => !stopB m b) = o := by rw [h4]; simp [List.takeWhile_cons, hst]
      have e5 : r.dropWhile (fun b => !stopB m b) = x :: r' := by rw [h5]; simp [List.dropWhile_cons, hst]
      have er : r = o ++ x :: r' := by
        have := List.takeWhile_append_dropWhile (p := fun b => !stopB m b) (l := r)
        rw [e0, e5] at this
        exact this.symm
      have e1 : r.take (j - i) = o := by
        rw [show j - i = o.length by omega, er, List.take_left]
      rw [e1] at hsl
      have ht : tagP m r = if tagF o = true then .inr (o, x :: r') else .inl r := by unfold tagP; rw [e5, e0]
      have hlr := congrArg List.length er
      rw [List.length_append] at hlr
      have d : decide (((j : Nat) : Int) = (b.length : Int)) = false := decide_eq_false (by omega)
      have htg := r_tag o (by omega)
      rw [ht]
      cases hbe : tagF o with
      | true =>
        refine .inr ⟨.inl (b, m, ((j : Nat) : Int), -1, ln), (o, ⟨b, m, ((j : Nat) : Int), -1, ln⟩), ?_, ?_, ?_⟩
        · simp only [lt_dec g2, getI_nat, g1, Option.bind_some, andO_some, Bool.true_and, stop_iff, hst, Bool.not_true, cond_false]; rfl
        · simp only [outK, hsl, Option.bind_some, d, cond_false, htg, hbe, Bool.not_true]
        · simp only [if_true, rtagC]
          rw [show b.length - (x :: r').length = j by omega]
      | false =>
        refine .inr ⟨.inl (b, m, ((j : Nat) : Int), -1, ln), (o, ⟨b, m, ((j : Nat) : Int), (i : Int), ln⟩), ?_, ?_, j, h2, ?_⟩
        · simp only [lt_dec g2, getI_nat, g1, Option.bind_some, andO_some, Bool.true_and, stop_iff, hst, Bool.not_true, cond_false]; rfl
        · simp only [outK, hsl, Option.bind_some, d, cond_false, htg, hbe, Bool.not_false, cond_true, r_stop0]
        · rw [show b.length - r.length = i by omega]
theorem r_cpart (m : Tapi_Marks) (b r : Txt) (i : Nat) (ln : Bool) (hd : b.drop i = r) (hi : i ≤ b.length) (hb : b.length ≤ 1000000) :
    ∃ z, m_interchange_interchangeref2_cutter_text ⟨b, m, (i : Int), -1, ln⟩ = some z ∧ rtagC b m ln z (partP m r) := by
  unfold m_interchange_interchangeref2_cutter_text sims_G3_1_1; dsimp only
  refine loop_to' (X := (Nat × Txt × Txt) ⊕ (Nat × Nat × Txt)) (fun x => match x with | .inl (i, _, o) => (b, m, ((i : Nat) : Int), (-1 : Int), ln, o) | .inr (a, z, o) => (b, m, (a : Int), ((z : Nat) : Int), ln, o)) (fun x => match x with | .inl (_, r, _) => r.length + 1 | .inr _ => 0)
    (fun x => match x with | .inl (i, r', o) => b.drop i = r' ∧ i ≤ b.length ∧ o.length ≤ i ∧ partP m r = appP o (partP m r') | .inr (a, z, _) => a ≤ b.length ∧ ∃ q, partP m r = .inl q ∧ z = b.length - q.length) ?_ (.inl (i, r, [])) ⟨hd, hi, Nat.zero_le _, ?_⟩
  · rintro (⟨j, r', o⟩ | ⟨a, z, o⟩) hP
    · obtain ⟨h1, h2, h3, h4⟩ := hP
      have hlen := drop_len h1 h2
      have dn : decide ((-1 : Int) < 0) = true := by decide
      cases r' with
      | nil =>
        have hj := drop_nil_len h1 h2
        have d : decide (((j : Nat) : Int) = (b.length : Int)) = true := decide_eq_true (by omega)
        rw [partP] at h4
        refine .inr ⟨.inl (b, m, ((j : Nat) : Int), (b.length : Int), ln, o), (o, ⟨b, m, ((j : Nat) : Int), (b.length : Int), ln⟩), ?_, rfl, ?_⟩
        · simp only [dn, d, cond_true, r_stop0, Option.bind_some]; rfl
        · rw [h4]
          exact ⟨j, h2, by simp⟩
      | cons x r' =>
        obtain ⟨g1, g2, g3⟩ := drop_head h1
        have hlen3 := drop_len g3 (by omega)
        have d : decide (((j : Nat) : Int) = (b.length : Int)) = false := decide_eq_false (by omega)
        rw [partP_cons] at h4
        cases he : escB m x with
        | true =>
          rw [if_pos he] at h4
          cases r' with
          | nil =>
            have hl := drop_nil_len g3 (by omega)
            have d2 : decide (((j + 1 : Nat) : Int) = (b.length : Int)) = true := decide_eq_true (by omega)
            refine .inl ⟨.inr (j, b.length, o), ⟨h2, [], h4, by simp⟩, by simp, ?_⟩
            simp only [dn, d, cond_true, cond_false, getI_nat, g1, Option.bind_some, escB_some, he, wrapN j (by omega), d2, r_stop0]
          | cons y r' =>
            obtain ⟨k1, k2, k3⟩ := drop_head g3
            have hlen2 := drop_len k3 (by omega)
            have d2 : decide (((j + 1 : Nat) : Int) = (b.length : Int)) = false := decide_eq_false (by omega)
            simp only at h4
            cases hy : isM m y with
            | false =>
              rw [if_neg (by rw [hy]; decide)] at h4
              refine .inl ⟨.inr (j, j + 1, o), ⟨h2, y :: r', h4, by omega⟩, by simp, ?_⟩
              simp only [dn, d, cond_true, cond_false, getI_nat, g1, k1, Option.bind_some, escB_some, he, wrapN j (by omega), d2, r_isM, hy, Bool.not_false, r_stop0]
            | true =>
              rw [if_pos hy] at h4
              have hw2 : IntKind.i64.wrap ((j : Int) + 2) = ((j + 2 : Nat) : Int) := by rw [wrap64 _ (by omega) (by omega)]; omega
              refine .inl ⟨.inl (j + 2, r', o ++ [y]), ⟨k3, by omega, by simp; omega, ?_⟩, by simp only [List.length_cons]; omega, ?_⟩
              · rw [h4, appP_snoc]
                rcases partP m r' with q | ⟨t, q⟩ <;> rfl
              · simp only [dn, d, cond_true, cond_false, getI_nat, g1, k1, Option.bind_some, escB_some, he, wrapN j (by omega), d2, r_isM, hy, Bool.not_true, hw2]
                rw [thenO_ok (by simp; omega)]
        | false =>
          rw [if_neg (by rw [he]; decide)] at h4
          cases hm : isM m x with
          | true =>
            rw [if_pos hm] at h4
            refine .inr ⟨.inl (b, m, ((j : Nat) : Int), -1, ln, o), (o, ⟨b, m, ((j : Nat) : Int), -1, ln⟩), ?_, rfl, ?_⟩
            · simp only [dn, d, cond_true, cond_false, getI_nat, g1, Option.bind_some, escB_some, he, r_isM, hm]; rfl
            · rw [h4]
              simp only [appP, rtagC, List.append_nil]
              rw [show b.length - (x :: r').length = j by omega]
          | false =>
            rw [if_neg (by rw [hm]; decide)] at h4
            cases ho : outB x with
            | true =>
              rw [if_pos ho] at h4
              refine .inl ⟨.inr (j + 1, j, o ++ [x]), ⟨by omega, x :: r', h4, by omega⟩, by simp, ?_⟩
              simp only [dn, d, cond_true, cond_false, getI_nat, g1, Option.bind_some, escB_some, he, r_isM, hm, outB_some, ho, r_stop0, wrapN j (by omega)]
              rw [thenO_ok (by simp; omega)]
            | false =>
              rw [if_neg (by rw [ho]; decide)] at h4
              refine .inl ⟨.inl (j + 1, r', o ++ [x]), ⟨g3, by omega, by simp; omega, ?_⟩, by simp, ?_⟩
              · rw [h4, appP_snoc]
                rcases partP m r' with q | ⟨t, q⟩ <;> rfl
              · simp only [dn, d, cond_true, cond_false, getI_nat, g1, Option.bind_some, escB_some, he, r_isM, hm, outB_some, ho, wrapN j (by omega)]
                rw [thenO_ok (by simp; omega)]
    · obtain ⟨h1, q, h2, h3⟩ := hP
      have dn : decide (((z : Nat) : Int) < 0) = false := decide_eq_false (by omega)
      refine .inr ⟨.inl (b, m, (a : Int), ((z : Nat) : Int), ln, o), (o, ⟨b, m, (a : Int), ((z : Nat) : Int), ln⟩), ?_, rfl, ?_⟩
      · simp only [dn, cond_false]; rfl
      · rw [h2]
        exact ⟨a, h1, by rw [h3]⟩
  · rcases partP m r with q | ⟨t, q⟩ <;> rfl
/-! ### Segments -/
/-- The last element has a last repeat. -/
def LastOk (acc : List Tapi_Element) (n : Nat) : Prop := acc = [] ∨ ∃ ys zs p, acc = ys ++ [⟨zs ++ [p]⟩] ∧ ys.length + 1 + (zs.length + 1) + p.length ≤ n
def rsegC (b : Txt) (m : Tapi_Marks) (ln : Bool) (z : Tapi_Segment × Tinterchangeref2_cutter) : Txt ⊕ (Tapi_Segment × Txt) → Prop
  | .inl q => ∃ a : Int, z.2 = ⟨b, m, a, ((b.length - q.length : Nat) : Int), ln⟩
  | .inr (s, q) => z = (s, ⟨b, m, ((b.length - q.length : Nat) : Int), -1, ln⟩)
theorem r_csegment (m : Tapi_Marks) (hm : m.fElement ≠ m.fEnd) (b r : Txt) (i : Nat) (ln : Bool) (hd : b.drop i = r) (hi : i ≤ b.length) (hb : b.length ≤ 1000000) {res : Txt ⊕ (Tapi_Segment × Txt)} (hres : SegR m r res) :
    ∃ z, m_interchange_interchangeref2_cutter_segment ⟨b, m, (i : Int), -1, ln⟩ = some z ∧ rsegC b m ln z res := by
  unfold m_interchange_interchangeref2_cutter_segment sims_G5_0_0; dsimp only
  have hlen := drop_len hd hi
  obtain ⟨⟨s0, c0⟩, ht, hC⟩ := r_ctag m b r i ln hd hi hb
  rcases seg_cases hres with ⟨q, htag, rfl⟩ | ⟨s, q, eres, htag, he, hC1, hC2⟩
  · rw [htag] at hC
    obtain ⟨a, ha, hc⟩ := hC
    simp only at hc
    subst hc
    simp only [ht, Option.bind_some]
    have dn : decide (((b.length - q.length : Nat) : Int) < 0) = false := decide_eq_false (by omega)
    refine ⟨(⟨s0, []⟩, ⟨b, m, IntKind.i64.wrap ((a : Int) + 1), ((b.length - q.length : Nat) : Int), ln⟩), ?_, _, rfl⟩
    rw [loopC_eq]
    simp only [dn, andO, cond_false, Option.bind_some]
    rfl
  · rw [htag] at hC
    unfold rtagC at hC
    simp only [Prod.mk.injEq] at hC
    rw [hC.1, hC.2] at ht
    obtain ⟨hsq, ⟨y0, q0, hq0, hy0⟩, _⟩ := tagP_inr htag
    have hdq := drop_tail hd hi hsq
    have hql : q.length ≤ r.length := by have := congrArg List.length hsq; rw [List.length_append] at this; omega
    have hfl := els_fl hm he (fun y q h => by rw [hq0] at h; cases h; exact hy0)
    simp only [ht, Option.bind_some]
    refine loop_to' (X := (Nat × Txt × List Tapi_Element) ⊕ (Nat × Nat × List Tapi_Element)) (fun x => match x with | .inl (i, _, o) => (b, m, ((i : Nat) : Int), (-1 : Int), ln, s, o) | .inr (a, z, o) => (b, m, (a : Int), ((z : Nat) : Int), ln, s, o)) (fun x => match x with | .inl (_, r, _) => r.length + 1 | .inr _ => 0)
      (fun x => match x with | .inl (i, r', o) => b.drop i = r' ∧ i ≤ b.length ∧ LastOk o (3 * i) ∧ (o = [] → ∃ y q, r' = y :: q ∧ (y = m.fElement ∨ y = m.fEnd)) ∧ FlR m o r' eres | .inr (a, z, _) => a ≤ b.length ∧ ∃ q, eres = .inl q ∧ z = b.length - q.length) ?_ (.inl (b.length - q.length, q, [])) ⟨hdq, by omega, .inl rfl, fun _ => ⟨y0, q0, hq0, hy0⟩, hfl⟩
    rintro (⟨j, r', acc⟩ | ⟨a, z, o⟩) hP
    · obtain ⟨h1, h2, h3, h4, h5⟩ := hP
      have dn : decide ((-1 : Int) < 0) = true := by decide
      cases h5 with
      | @fin _ q' =>
        obtain ⟨g1, g2, g3⟩ := drop_head h1
        have hlen3 := drop_len g3 (by omega)
        refine .inr ⟨.inl (b, m, ((j : Nat) : Int), -1, ln, s, acc), (⟨s, acc⟩, ⟨b, m, ((j + 1 : Nat) : Int), -1, ln⟩), ?_, ?_, ?_⟩
        · simp only [dn, getI_nat, g1, Option.bind_some, andO_some, decide_true, Bool.not_true, Bool.and_false, cond_false]; rfl
        · simp only [outK, wrapN j (by omega)]
        · rw [hC2 _ _ _ rfl]
          simp only [rsegC]
          rw [show b.length - q'.length = j + 1 by omega]
      | @bad _ y q' p hy hp =>
        obtain ⟨g1, g2, g3⟩ := drop_head h1
        obtain ⟨⟨t, c⟩, hz, hc⟩ := r_cpart m b q' (j + 1) ln g3 (by omega) hb
        rw [hp] at hc
        obtain ⟨a, ha, hc⟩ := hc
        simp only at hc
        subst hc
        have d0 : decide ((0 : Int) ≤ ((b.length - p.length : Nat) : Int)) = true := decide_eq_true (by omega)
        refine .inr ⟨.inl (b, m, (a : Int), ((b.length - p.length : Nat) : Int), ln, s, acc), (⟨s, acc⟩, ⟨b, m, IntKind.i64.wrap ((a : Int) + 1), ((b.length - p.length : Nat) : Int), ln⟩), ?_, ?_, ?_⟩
        · simp only [dn, getI_nat, g1, Option.bind_some, andO_some, eq_f hy, Bool.not_false, Bool.and_true, cond_true, wrapN j (by omega), hz, d0]; rfl
        · simp only [outK]
        · rw [hC1 p rfl]
          exact ⟨_, rfl⟩
      | @more _ y q' t q2 _ hy hp hr2 =>
        obtain ⟨g1, g2, g3⟩ := drop_head h1
        obtain ⟨⟨t', c⟩, hz, hc⟩ := r_cpart m b q' (j + 1) ln g3 (by omega) hb
        rw [hp] at hc
        unfold rtagC at hc
        simp only [Prod.mk.injEq] at hc
        rw [hc.1, hc.2] at hz
        obtain ⟨u, hu⟩ := part_tail hp
        have hdq2 := drop_tail g3 (by omega) hu
        have hlen3 := drop_len g3 (by omega)
        have hlu := congrArg List.length hu
        rw [List.length_append] at hlu
        have d0 : decide ((0 : Int) ≤ -1) = false := by decide
        by_cases hyE : y = m.fElement
        · have e1 : updA m acc y t = acc ++ [⟨[[t]]⟩] := by unfold updA; rw [if_pos hyE]
          rw [e1] at hr2
          have hacc : acc.length ≤ 3 * j := by
            rcases h3 with h | ⟨ys, zs, p, h, h6⟩
            · rw [h]; simp
            · rw [h]; simp only [List.length_append, List.length_singleton]; omega
          refine .inl ⟨.inl (b.length - q2.length, q2, acc ++ [⟨[[t]]⟩]), ⟨hdq2, by omega, .inr ⟨acc, [], [t], rfl, ?_⟩, fun h => by simp at h, hr2⟩, by simp only [List.length_cons]; omega, ?_⟩
          · rcases h3 with h | ⟨ys, zs, p, h, h6⟩
            · rw [h]; simp only [List.length_nil, List.length_singleton]; omega
            · rw [h]; simp only [List.length_append, List.length_singleton, List.length_nil]; omega
          · simp only [dn, getI_nat, g1, Option.bind_some, andO_some, eq_f hy, Bool.not_false, Bool.and_true, cond_true, wrapN j (by omega), hz, d0, cond_false, eq_t hyE]
            rw [thenO_ok (by simp only [List.length_singleton]; omega)]
        · have hne : acc ≠ [] := fun h => by
            obtain ⟨y', q3, h6, h7⟩ := h4 h
            cases h6
            rcases h7 with h7 | h7
            · exact hyE h7
            · exact hy h7
          obtain ⟨ys, zs, p, rfl, h6⟩ := h3.resolve_left hne
          rw [updA_snoc hyE] at hr2
          obtain ⟨j1, j2⟩ := getI_last ys (⟨zs ++ [p]⟩ : Tapi_Element) (by omega)
          obtain ⟨k1, k2⟩ := getI_last zs p (by omega)
          by_cases hyR : y = m.fRepeat
          · have e1 : addT m y (zs ++ [p]) t = zs ++ [p] ++ [[t]] := by unfold addT; rw [if_pos hyR, putL_snoc]; rfl
            rw [e1] at hr2
            refine .inl ⟨.inl (b.length - q2.length, q2, ys ++ [⟨zs ++ [p] ++ [[t]]⟩]), ⟨hdq2, by omega, .inr ⟨ys, zs ++ [p], [t], rfl, ?_⟩, fun h => by simp at h, hr2⟩, by simp only [List.length_cons]; omega, ?_⟩
            · simp only [List.length_append, List.length_singleton]; omega
            · simp only [dn, getI_nat, g1, Option.bind_some, andO_some, eq_f hy, Bool.not_false, Bool.and_true, cond_true, wrapN j (by omega), hz, d0, cond_false, eq_f hyE, j1, j2, eq_t hyR]
              rw [thenO_ok (by simp only [List.length_singleton, List.length_append]; omega), List.set_append_right _ _ (Nat.le_refl _), Nat.sub_self]
              rfl
          · have e1 : addT m y (zs ++ [p]) t = zs ++ [p ++ [t]] := by unfold addT; rw [if_neg hyR, putL_snoc]
            rw [e1] at hr2
            refine .inl ⟨.inl (b.length - q2.length, q2, ys ++ [⟨zs ++ [p ++ [t]]⟩]), ⟨hdq2, by omega, .inr ⟨ys, zs, p ++ [t], rfl, ?_⟩, fun h => by simp at h, hr2⟩, by simp only [List.length_cons]; omega, ?_⟩
            · simp only [List.length_append, List.length_singleton]; omega
            · simp only [dn, getI_nat, g1, Option.bind_some, andO_some, eq_f hy, Bool.not_false, Bool.and_true, cond_true, wrapN j (by omega), hz, d0, cond_false, eq_f hyE, j1, j2, eq_f hyR, k1, k2]
              rw [thenO_ok (by simp only [List.length_singleton]; omega), List.set_append_right _ _ (Nat.le_refl _), Nat.sub_self, List.set_append_right _ _ (Nat.le_refl _), Nat.sub_self]
              rfl
    · obtain ⟨h1, q, h2, h3⟩ := hP
      have dn : decide (((z : Nat) : Int) < 0) = false := decide_eq_false (by omega)
      refine .inr ⟨.inl (b, m, (a : Int), ((z : Nat) : Int), ln, s, o), (⟨s, o⟩, ⟨b, m, IntKind.i64.wrap ((a : Int) + 1), ((z : Nat) : Int), ln⟩), ?_, ?_, ?_⟩
      · simp only [dn, andO, cond_false, Option.bind_some]; rfl
      · simp only [outK]
      · rw [hC1 q h2]
        exact ⟨_, by rw [h3]⟩
end Go.Proofs.YtfbhhhghjehjjaaDoor

/-
  Plain laws of the wire: Cut of both.
-/
namespace Go.Proofs.YtfbhhhghjehjjaaDoor
set_option linter.unusedSimpArgs false
set_option linter.unusedVariables false
open Go.RowKit

/-- What Cut gives, of what the bytes are. -/
def cutA (b : Txt) : Txt ⊕ (List Tapi_Segment × Bool) → List Tapi_Segment × Bool × Int × Int
  | .inl q => ([], false, ((b.length - q.length : Nat) : Int), 10)
  | .inr (x, p) => if segsF x = 0 then (x, p, 0, 0) else ([], false, 0, segsF x)
def wcutC (b : Txt) (z : Option Twire_cutter × Int × Int) : Txt ⊕ (List Tapi_Segment × Bool) → Prop
  | .inl q => z = (none, ((b.length - q.length : Nat) : Int), 10)
  | .inr (x, p) => if segsF x = 0 then ∃ c, z = (some c, 0, 0) ∧ c.flist = x ∧ c.flines = p else z = (none, 0, segsF x)
def TagsOk (l : List Tapi_Segment) : Prop := ∀ s ∈ l, tagF s.fTag = true
theorem TagsOk.short {l : List Tapi_Segment} (h : TagsOk l) : TagsShort l := fun s hs => by have := (tag_len (h s hs)).1; omega
theorem TagsOk.snoc {l : List Tapi_Segment} (h : TagsOk l) {s : Tapi_Segment} (hs : tagF s.fTag = true) : TagsOk (l ++ [s]) := fun x hx => by
  rcases List.mem_append.1 hx with hx | hx
  · exact h x hx
  · rw [List.mem_singleton.1 hx]; exact hs
theorem seg_tag {m : Tapi_Marks} {r q : Txt} {s : Tapi_Segment} (h : SegR m r (.inr (s, q))) : tagF s.fTag = true := by
  cases h with
  | ok ht _ => exact (tagP_inr ht).2.2
theorem els_tail {m : Tapi_Marks} {acc : List Tapi_Element} {r : Txt} {res : Txt ⊕ (List Tapi_Element × Txt)} (h : ElsR m acc r res) : ∀ acc' q', res = .inr (acc', q') → ∃ u, r = u ++ q' := by
  induction h with
  | fin => intro _ _ h; cases h; exact ⟨[], rfl⟩
  | bad => intro _ _ h; cases h
  | @more acc q xs q' res he _ ih =>
    intro acc' q2 h
    obtain ⟨u, hu⟩ := ih acc' q2 h
    obtain ⟨v, hv⟩ := el_tail he _ _ rfl
    exact ⟨m.fElement :: (v ++ u), by rw [hv, hu]; simp⟩
theorem app_mid (a b : Txt) (y : UInt8) (c : Txt) : a ++ (b ++ y :: c) = (a ++ (b ++ [y])) ++ c := by simp
theorem seg_tail {m : Tapi_Marks} {r q : Txt} {s : Tapi_Segment} (h : SegR m r (.inr (s, q))) : ∃ u, r = u ++ q := by
  cases h with
  | ok ht he =>
    obtain ⟨u, hu⟩ := els_tail he _ _ rfl
    have h1 := (tagP_inr ht).1
    rw [hu] at h1
    exact ⟨_, h1.trans (app_mid _ _ _ _)⟩
theorem feed_seg {m : Tapi_Marks} (hE : markB m.fElement = true) (hN : markB m.fEnd = true) {r : Txt} (h : feedB r = true) : SegR m r (.inl r) := by
  refine .tag ?_
  have hr := feed_iff h
  have h10 : markB 10 = false := by decide
  have hst : stopB m 10 = false := by
    cases hs : stopB m 10 with
    | false => rfl
    | true =>
      unfold stopB at hs
      rw [Bool.or_eq_true, eqB_iff, eqB_iff] at hs
      rcases hs with hs | hs
      · rw [← hs, h10] at hE; cases hE
      · rw [← hs, h10] at hN; cases hN
  rw [hr]
  unfold tagP
  have e1 : ((10 : UInt8) :: r.tail).takeWhile (fun b => !stopB m b) = 10 :: r.tail.takeWhile (fun b => !stopB m b) := by simp [List.takeWhile_cons, hst]
  rw [e1]
  have e2 : tagF (10 :: r.tail.takeWhile (fun b => !stopB m b)) = false := by
    have : letB 10 = false := by decide
    simp [tagF, this]
  have e3 : beginsF ((10 : UInt8) :: r.tail) = false := by
    have : letB 10 = false := by decide
    simp [beginsF, this]
  rw [e2, e3]
  split <;> simp
theorem w_cut (m : Tapi_Marks) (hE : markB m.fElement = true) (hN : markB m.fEnd = true) (b : Txt) (hb : b.length ≤ 1000000) {res : Txt ⊕ (List Tapi_Segment × Bool)} (hres : CutR m [] false b res) : ∃ z, m_wire_cut b m = some z ∧ wcutC b z res := by
  unfold m_wire_cut sims_G6_0_1; dsimp only
  refine loop_to' (X := Nat × Txt × List Tapi_Segment × List Int × Bool) (fun x => (m, b, ((x.1 : Nat) : Int), x.2.2.1, x.2.2.2.1, x.2.2.2.2)) (fun x => x.2.1.length)
    (fun x => b.drop x.1 = x.2.1 ∧ x.1 ≤ b.length ∧ x.2.2.2.1.length ≤ x.1 ∧ x.2.2.1.length ≤ x.1 ∧ TagsOk x.2.2.1 ∧ (CutR m x.2.2.1 x.2.2.2.2 x.2.1 res ∨ (feedB x.2.1 = true ∧ res = .inl x.2.1))) ?_ (0, b, [], [], false) ⟨rfl, Nat.zero_le _, Nat.le_refl _, Nat.le_refl _, fun _ h => (by cases h), .inl hres⟩
  rintro ⟨i, r, l, st, ln⟩ ⟨h1, h2, h3, h4, h5, h6⟩
  simp only at h1 h2 h3 h4 h5 h6 ⊢
  have hlen := drop_len h1 h2
  have hbad : ∀ q, r ≠ [] → SegR m r (.inl q) → res = .inl q → ∃ a c, (bif decide (((i : Nat) : Int) < (b.length : Int)) then
      (m_interchange_wire_cutter_segment ⟨⟨m.fElement, m.fPart, m.fRepeat, m.fEscape, m.fEnd⟩, b, ((i : Nat) : Int), l, st, ln⟩).bind fun y =>
        bif !y.1 then (inrO (inrO (some ((none : Option Twire_cutter), y.2.fi, (10 : Int)))) : Option ((Tapi_Marks × Txt × Int × List Tapi_Segment × List Int × Bool) ⊕ ((Tapi_Marks × Txt × Int × List Tapi_Segment × List Int × Bool) ⊕ (Option Twire_cutter × Int × Int)))) else some (Sum.inl (y.2.fm, y.2.fb, y.2.fi, y.2.flist, y.2.fstarts, y.2.flines))
      else inrO (some (Sum.inl (m, b, ((i : Nat) : Int), l, st, ln)))) = some (.inr (.inr a)) ∧ a = c ∧ wcutC b c res := fun q hr hs hq => by
    obtain ⟨⟨z1, z2⟩, hz, hc1, hc2⟩ := w_csegment m hE hN b r i l st ln h1 h2 hr hb h3 h4 hs
    simp only at hc1 hc2
    subst hc1
    have hi : i < b.length := by
      have : 0 < r.length := List.length_pos_iff.2 hr
      omega
    refine ⟨(none, z2.fi, 10), _, ?_, rfl, ?_⟩
    · simp only [lt_dec hi, cond_true, hz, Option.bind_some, Bool.not_false]; rfl
    · rw [hq, hc2]; rfl
  rcases h6 with h6 | ⟨h6, h7⟩
  · cases h6 with
    | nil =>
      have hi := drop_nil_len h1 h2
      have d : decide (((i : Nat) : Int) < (b.length : Int)) = false := decide_eq_false (by omega)
      cases hsg : decide (segsF l = 0) with
      | true =>
        have hs0 : segsF l = 0 := by simpa using hsg
        refine .inr ⟨.inl (m, b, ((i : Nat) : Int), l, st, ln), (some ⟨m, b, ((i : Nat) : Int), l, st, ln⟩, 0, 0), ?_, ?_, ?_⟩
        · simp only [d, cond_false]; rfl
        · simp only [outK, w_segs l h5.short, Option.bind_some, hsg, Bool.not_true, cond_false]
        · simp only [wcutC, hs0, if_true]
          exact ⟨_, rfl, rfl, rfl⟩
      | false =>
        have hs0 : ¬ segsF l = 0 := by simpa using hsg
        refine .inr ⟨.inl (m, b, ((i : Nat) : Int), l, st, ln), (none, 0, segsF l), ?_, ?_, ?_⟩
        · simp only [d, cond_false]; rfl
        · simp only [outK, w_segs l h5.short, Option.bind_some, hsg, Bool.not_false, cond_true]
        · simp only [wcutC, hs0, if_false]
    | bad hr hs =>
      obtain ⟨a, c, e1, e2, e3⟩ := hbad _ hr hs rfl
      exact .inr ⟨.inr a, c, e1, by rw [← e2]; rfl, e3⟩
    | @stop _ _ _ s q hr hs ho hln =>
      obtain ⟨⟨z1, z2⟩, hz, hc⟩ := w_csegment m hE hN b r i l st ln h1 h2 hr hb h3 h4 hs
      obtain ⟨u, hu⟩ := seg_tail hs
      have hq := drop_tail h1 h2 hu
      have hql := (seg_le hs).2 _ _ rfl
      have hi : i < b.length := by omega
      have hlo : lnOf l ln q = ln := by unfold lnOf; rw [if_neg ho]
      simp only [segC, hlo] at hc
      cases hl : ln with
      | true =>
        subst hl
        have hf : feedB q = false := by
          cases hf : feedB q with
          | false => rfl
          | true => rw [hf] at hln; exact absurd rfl hln
        simp only [hf, Bool.not_false, Bool.and_self, if_true] at hc
        obtain ⟨hc1, hc2⟩ := hc
        subst hc1
        refine .inr ⟨.inr (none, z2.fi, 10), (none, z2.fi, 10), ?_, rfl, ?_⟩
        · simp only [lt_dec hi, cond_true, hz, Option.bind_some, Bool.not_false]; rfl
        · rw [hc2]; rfl
      | false =>
        subst hl
        have hf : feedB q = true := by
          cases hf : feedB q with
          | true => rfl
          | false => rw [hf] at hln; exact absurd rfl hln
        simp only [Bool.false_and, Bool.false_eq_true, if_false] at hc
        obtain ⟨st', hst', hc⟩ := hc
        rw [Prod.mk.injEq] at hc
        rw [hc.1, hc.2] at hz
        refine .inl ⟨(b.length - q.length, q, l ++ [s], st', false), ⟨hq, by omega, by simp only; omega, by simp; omega, h5.snoc (seg_tag hs), .inr ⟨hf, rfl⟩⟩, hql, ?_⟩
        simp only [lt_dec hi, cond_true, hz, Option.bind_some, Bool.not_true, cond_false]
    | @more _ _ _ s q _ hr hs ho hr2 =>
      obtain ⟨⟨z1, z2⟩, hz, hc⟩ := w_csegment m hE hN b r i l st ln h1 h2 hr hb h3 h4 hs
      obtain ⟨u, hu⟩ := seg_tail hs
      have hq := drop_tail h1 h2 hu
      have hql := (seg_le hs).2 _ _ rfl
      have hi : i < b.length := by omega
      have hlo : lnOf l ln q = feedB q := by
        unfold lnOf
        by_cases h0 : l = []
        · rw [if_pos h0]
        · rw [if_neg h0]; exact ho.resolve_left h0
      have hff : (feedB q && !feedB q) = false := by cases feedB q <;> rfl
      simp only [segC, hlo, hff, Bool.false_eq_true, if_false] at hc
      obtain ⟨st', hst', hc⟩ := hc
      rw [Prod.mk.injEq] at hc
      rw [hc.1, hc.2] at hz
      have hlen2 : (if feedB q = true then q.tail else q).length ≤ q.length := by split <;> simp
      refine .inl ⟨(b.length - (if feedB q = true then q.tail else q).length, (if feedB q = true then q.tail else q), l ++ [s], st', feedB q), ⟨?_, by omega, by simp only; omega, by simp; omega, h5.snoc (seg_tag hs), .inl hr2⟩, by simp only; omega, ?_⟩
      · cases hf : feedB q with
        | false => simpa using hq
        | true =>
          simp only [if_true]
          have h9 := feed_iff hf
          refine drop_tail (u := u ++ [10]) h1 h2 ?_
          rw [hu]
          conv => lhs; rw [h9]
          simp
      · simp only [lt_dec hi, cond_true, hz, Option.bind_some, Bool.not_true, cond_false]
  · have hr : r ≠ [] := fun h => by rw [h] at h6; cases h6
    obtain ⟨a, c, e1, e2, e3⟩ := hbad r hr (feed_seg hE hN h6) h7
    exact .inr ⟨.inr a, c, e1, by rw [← e2]; rfl, e3⟩
theorem r_cut (m : Tapi_Marks) (hm : m.fElement ≠ m.fEnd) (b : Txt) (hb : b.length ≤ 1000000) {res : Txt ⊕ (List Tapi_Segment × Bool)} (hres : CutR m [] false b res) : m_interchangeref2_cut b m = some (cutA b res) := by
  unfold m_interchangeref2_cut sims_G6_0_2; dsimp only
  refine loop_to (X := (Nat × Txt × List Tapi_Segment × Bool) ⊕ (Int × Nat × List Tapi_Segment × Bool)) (fun x => match x with | .inl (i, _, o, ln) => (b, m, ((i : Nat) : Int), (-1 : Int), ln, o) | .inr (a, z, o, ln) => (b, m, a, ((z : Nat) : Int), ln, o)) (fun x => match x with | .inl (_, r, _) => r.length + 1 | .inr _ => 0)
    (fun x => match x with | .inl (i, r', o, ln) => b.drop i = r' ∧ i ≤ b.length ∧ o.length ≤ i ∧ TagsOk o ∧ CutR m o ln r' res | .inr (a, z, _, _) => ∃ q, res = .inl q ∧ z = b.length - q.length) ?_ (.inl (0, b, [], false)) ⟨rfl, Nat.zero_le _, Nat.le_refl _, fun _ h => (by cases h), hres⟩
  rintro (⟨i, r, l, ln⟩ | ⟨a, z, l, ln⟩) hP
  · obtain ⟨h1, h2, h3, h4, h5⟩ := hP
    have hlen := drop_len h1 h2
    have dn : decide ((-1 : Int) < 0) = true := by decide
    have d0 : decide ((0 : Int) ≤ -1) = false := by decide
    cases h5 with
    | nil =>
      have hi := drop_nil_len h1 h2
      have d : decide (((i : Nat) : Int) < (b.length : Int)) = false := decide_eq_false (by omega)
      refine .inr ⟨.inl (b, m, ((i : Nat) : Int), -1, ln, l), ?_, ?_⟩
      · simp only [dn, d, andO_some, Option.bind_some, Bool.and_false, cond_false]; rfl
      · simp only [outK, d0, cond_false, r_segs l h4.short, Option.bind_some, cutA]
        by_cases hs0 : segsF l = 0
        · simp only [hs0, decide_true, Bool.not_true, cond_false, if_true]
        · simp only [hs0, decide_false, Bool.not_false, cond_true, if_false]
    | @bad _ _ _ q hr hs =>
      obtain ⟨⟨s, c⟩, hz, a, hc⟩ := r_csegment m hm b r i ln h1 h2 hb hs
      simp only at hc
      subst hc
      have hi : i < b.length := by
        have : 0 < r.length := List.length_pos_iff.2 hr
        omega
      have dq : decide ((0 : Int) ≤ ((b.length - q.length : Nat) : Int)) = true := decide_eq_true (by omega)
      refine .inr ⟨.inl (b, m, a, ((b.length - q.length : Nat) : Int), ln, l ++ [s]), ?_, ?_⟩
      · simp only [dn, lt_dec hi, andO_some, Option.bind_some, Bool.and_self, cond_true, hz, dq]
        rw [thenO_ok (by simp only [List.length_singleton]; omega)]
        rfl
      · simp only [outK, dq, cond_true, cutA]
    | @stop _ _ _ s q hr hs ho hln =>
      obtain ⟨⟨s', c⟩, hz, hc⟩ := r_csegment m hm b r i ln h1 h2 hb hs
      simp only [rsegC, Prod.mk.injEq] at hc
      rw [hc.1, hc.2] at hz
      obtain ⟨u, hu⟩ := seg_tail hs
      have hq := drop_tail h1 h2 hu
      have hql := (seg_le hs).2 _ _ rfl
      have hi : i < b.length := by omega
      have hfd := feed_at hq (by omega)
      have hl1 : decide (((l ++ [s]).length : Int) = 1) = false := decide_eq_false (by
        have : 0 < l.length := List.length_pos_iff.2 ho
        simp only [List.length_append, List.length_singleton]; omega)
      have hle : decide (ln = feedB q) = false := decide_eq_false hln
      have dq : decide ((0 : Int) ≤ ((b.length - q.length : Nat) : Int)) = true := decide_eq_true (by omega)
      refine .inr ⟨.inl (b, m, ((b.length - q.length : Nat) : Int), ((b.length - q.length : Nat) : Int), ln, l ++ [s]), ?_, ?_⟩
      · simp only [dn, lt_dec hi, andO_some, Option.bind_some, Bool.and_self, cond_true, hz, d0, cond_false]
        rw [thenO_ok (by simp only [List.length_singleton]; omega)]
        simp only [hfd, Option.bind_some, hl1, cond_false, hle, Bool.not_false, cond_true, r_stop0]
        rfl
      · simp only [outK, dq, cond_true, cutA]
    | @more _ _ _ s q _ hr hs ho hr2 =>
      obtain ⟨⟨s', c⟩, hz, hc⟩ := r_csegment m hm b r i ln h1 h2 hb hs
      simp only [rsegC, Prod.mk.injEq] at hc
      rw [hc.1, hc.2] at hz
      obtain ⟨u, hu⟩ := seg_tail hs
      have hq := drop_tail h1 h2 hu
      have hql := (seg_le hs).2 _ _ rfl
      have hi : i < b.length := by omega
      have hfd := feed_at hq (by omega)
      have hlen2 : (if feedB q = true then q.tail else q).length ≤ q.length := by split <;> simp
      have hdr : b.drop (b.length - (if feedB q = true then q.tail else q).length) = (if feedB q = true then q.tail else q) := by
        cases hf : feedB q with
        | false => simpa using hq
        | true =>
          simp only [if_true]
          have h9 := feed_iff hf
          refine drop_tail (u := u ++ [10]) h1 h2 ?_
          rw [hu]
          conv => lhs; rw [h9]
          simp
      refine .inl ⟨.inl (b.length - (if feedB q = true then q.tail else q).length, (if feedB q = true then q.tail else q), l ++ [s], feedB q), ⟨hdr, by omega, by simp; omega, h4.snoc (seg_tag hs), hr2⟩, by simp only; omega, ?_⟩
      simp only [dn, lt_dec hi, andO_some, Option.bind_some, Bool.and_self, cond_true, hz, d0, cond_false]
      rw [thenO_ok (by simp only [List.length_singleton]; omega)]
      simp only [hfd, Option.bind_some]
      have htl : feedB q = true → b.length - q.tail.length = b.length - q.length + 1 := fun hf => by
        have := congrArg List.length (feed_iff hf)
        simp only [List.length_cons] at this
        omega
      by_cases h0 : l = []
      · have hl1 : decide (((l ++ [s]).length : Int) = 1) = true := decide_eq_true (by rw [h0]; rfl)
        simp only [hl1, cond_true]
        cases hf : feedB q with
        | false => simp only [cond_false, Bool.false_eq_true, if_false]
        | true => simp only [cond_true, if_true, wrapN _ (show b.length - q.length < 9223372036854775807 by omega), htl hf]
      · have hl1 : decide (((l ++ [s]).length : Int) = 1) = false := decide_eq_false (by
          have : 0 < l.length := List.length_pos_iff.2 h0
          simp only [List.length_append, List.length_singleton]; omega)
        have hle : ln = feedB q := ho.resolve_left h0
        simp only [hl1, cond_false, hle, decide_true, Bool.not_true]
        cases hf : feedB q with
        | false => simp only [cond_false, Bool.false_eq_true, if_false]
        | true => simp only [cond_true, if_true, wrapN _ (show b.length - q.length < 9223372036854775807 by omega), htl hf]
  · obtain ⟨q, h1, h2⟩ := hP
    have dn : decide (((z : Nat) : Int) < 0) = false := decide_eq_false (by omega)
    have dq : decide ((0 : Int) ≤ ((z : Nat) : Int)) = true := decide_eq_true (by omega)
    refine .inr ⟨.inl (b, m, a, ((z : Nat) : Int), ln, l), ?_, ?_⟩
    · simp only [dn, andO, cond_false, Option.bind_some]; rfl
    · rw [h1]
      simp only [outK, dq, cond_true, cutA]
      rw [h2]
end Go.Proofs.YtfbhhhghjehjjaaDoor

/-
  What can be copied: lists that any machine has.
-/
namespace Go.Proofs.YtfbhhhghjehjjaaDoor
set_option linter.unusedSimpArgs false
set_option linter.unusedVariables false
def cloneOk (x : Tapi_Segment) : Prop := x.fElements.length ≤ 137438953472 ∧ ∀ e ∈ x.fElements, e.fRepeats.length ≤ 137438953472 ∧ ∀ p ∈ e.fRepeats, p.length ≤ 137438953472
end Go.Proofs.YtfbhhhghjehjjaaDoor

/-
  What can be copied.
-/


/-
  The functions of the reference.
-/


/-
  Segments: when they are right; sameness.
-/
namespace Go.Proofs.YtfbhhhghjehjjaaDoor
set_option linter.unusedSimpArgs false
set_option linter.unusedVariables false
open Go.RowKit

theorem listF_all {α : Type} {h : α → Int} : ∀ {l : List α}, (∀ e ∈ l, h e = 0) → listF h l = 0
  | [], _ => rfl
  | e :: l, hl => by
    unfold listF
    rw [if_pos (hl e (by simp))]
    exact listF_all fun e he => hl e (by simp [he])
theorem repF_iff {l : List (List UInt8)} : repF l = 0 ↔ (1 ≤ l.length ∧ l.length ≤ 20 ∧ ∀ t ∈ l, textF t = 0) := by
  unfold repF
  by_cases h1 : l.length = 0
  · simp [h1]
  · by_cases h2 : 20 < l.length
    · simp [h1, h2]; omega
    · rw [if_neg h1, if_neg h2]
      exact ⟨fun h => ⟨by omega, by omega, listF_zero h⟩, fun h => listF_all h.2.2⟩
theorem elemF_iff {e : Tapi_Element} : elemF e = 0 ↔ (1 ≤ e.fRepeats.length ∧ e.fRepeats.length ≤ 20 ∧ ∀ t ∈ e.fRepeats, repF t = 0) := by
  unfold elemF
  by_cases h1 : e.fRepeats.length = 0
  · simp [h1]
  · by_cases h2 : 20 < e.fRepeats.length
    · simp [h1, h2]; omega
    · rw [if_neg h1, if_neg h2]
      exact ⟨fun h => ⟨by omega, by omega, listF_zero h⟩, fun h => listF_all h.2.2⟩
theorem segF_iff {s : Tapi_Segment} : segF s = 0 ↔ (tagF s.fTag = true ∧ s.fElements.length ≤ 50 ∧ ∀ e ∈ s.fElements, elemF e = 0) := by
  unfold segF
  by_cases h1 : tagF s.fTag = false
  · simp [h1]
  · by_cases h2 : 50 < s.fElements.length
    · simp [h1, h2]; intro h; omega
    · rw [if_neg h1, if_neg h2]
      exact ⟨fun h => ⟨by simpa using h1, by omega, listF_zero h⟩, fun h => listF_all h.2.2⟩
theorem seg_ok {s : Tapi_Segment} (h : segF s = 0) : cloneOk s := by
  obtain ⟨_, h2, h3⟩ := segF_iff.1 h
  refine ⟨by omega, fun e he => ?_⟩
  obtain ⟨_, h5, h6⟩ := elemF_iff.1 (h3 e he)
  refine ⟨by omega, fun p hp => ?_⟩
  obtain ⟨_, h8, _⟩ := repF_iff.1 (h6 p hp)
  omega
theorem sameTexts_refl (l : List (List UInt8)) (hl : l.length ≤ 137438953472) : m_interchangeref2_SameTexts l l = some true := by
  unfold m_interchangeref2_SameTexts sims_G6_0_0; dsimp only
  simp only [decide_true, Bool.not_true, cond_false]
  refine bind_loop (a := .inl (l.length : Int)) (loop_trace (fun i => (i : Int)) l.length (fun i hi => ?_) ?_) rfl
  · obtain ⟨e, he⟩ := get_lt hi
    simp only [lt_dec hi, cond_true, getI_nat, he, Option.bind_some, decide_true, Bool.not_true, cond_false, wrapN i (by omega)]
  · simp only [lt_dec_self, cond_false]; rfl
theorem sameSeg_refl (x : Tapi_Segment) (hx : cloneOk x) : m_interchangeref2_SameSegment x x = some true := by
  obtain ⟨h1, h2⟩ := hx
  unfold m_interchangeref2_SameSegment sims_G6_1_0; dsimp only
  simp only [decide_true, Bool.not_true, orO_some, Bool.or_self, Option.bind_some, cond_false]
  refine bind_loop (a := .inl (x.fElements.length : Int)) (loop_trace (fun i => (i : Int)) x.fElements.length (fun i hi => ?_) ?_) rfl
  · obtain ⟨e, he⟩ := get_lt hi
    obtain ⟨h3, h4⟩ := h2 e (List.mem_of_getElem? he)
    simp only [lt_dec hi, cond_true, getI_nat, he, Option.bind_some, decide_true, Bool.not_true, cond_false, wrapN i (by omega)]
    refine bind_loop (a := .inl (e.fRepeats.length : Int)) (loop_trace (fun i => (i : Int)) e.fRepeats.length (fun k hk => ?_) ?_) rfl
    · obtain ⟨p, hp⟩ := get_lt hk
      simp only [lt_dec hk, cond_true, getI_nat, hp, Option.bind_some, sameTexts_refl p (h4 p (List.mem_of_getElem? hp)), Bool.not_true, cond_false, wrapN k (by omega)]
    · simp only [lt_dec_self, cond_false]; rfl
  · simp only [lt_dec_self, cond_false]; rfl
theorem sameSegs_refl (l : List Tapi_Segment) (hl : l.length ≤ 137438953472) (hx : ∀ x ∈ l, cloneOk x) : m_interchangeref2_SameSegments l l = some true := by
  unfold m_interchangeref2_SameSegments sims_G6_2_0; dsimp only
  simp only [decide_true, Bool.not_true, cond_false]
  refine bind_loop (a := .inl (l.length : Int)) (loop_trace (fun i => (i : Int)) l.length (fun i hi => ?_) ?_) rfl
  · obtain ⟨e, he⟩ := get_lt hi
    simp only [lt_dec hi, cond_true, getI_nat, he, Option.bind_some, sameSeg_refl e (hx e (List.mem_of_getElem? he)), Bool.not_true, cond_false, wrapN i (by omega)]
  · simp only [lt_dec_self, cond_false]; rfl

theorem segs_in {l : List Tapi_Segment} (h : segsF l = 0) : l.length ≤ 2000 ∧ ∀ x ∈ l, segF x = 0 := by
  unfold segsF at h
  by_cases h1 : 2000 < l.length
  · simp [h1] at h
  · rw [if_neg h1] at h; exact ⟨by omega, listF_zero h⟩
end Go.Proofs.YtfbhhhghjehjjaaDoor

/-
  Plain laws of the wire: what the reference writes.
-/
namespace Go.Proofs.YtfbhhhghjehjjaaDoor
set_option linter.unusedSimpArgs false
set_option linter.unusedVariables false
open Go.RowKit

/-- A part with its mark and its place. -/
structure Prt where
  sp : Tapi_Spot
  mark : UInt8
  t : List UInt8
def escR (m : Tapi_Marks) (t : List UInt8) : List UInt8 := t.flatMap fun b => if isM m b = true ∧ m.fEscape.toNat ≠ 0 then [m.fEscape, b] else [b]
theorem cntT_snoc (m : Tapi_Marks) (t : List UInt8) (b : UInt8) : cntT m (t ++ [b]) = cntT m t + (if isM m b = true then 1 else 0) := by simp [cntT, List.countP_append, List.countP_singleton]
/-! ### The parts of a segment, in order -/
def pmark (m : Tapi_Marks) (r p : Nat) : UInt8 := if 0 < p then m.fPart else if 0 < r then m.fRepeat else m.fElement
def spotOf (e r p : Nat) : Tapi_Spot := ⟨((e + 1 : Nat) : Int), ((r + 1 : Nat) : Int), ((p + 1 : Nat) : Int)⟩
def ptsP (m : Tapi_Marks) (e r : Nat) : Nat → List UInt8 → List Prt := fun p t => [⟨spotOf e r p, pmark m r p, t⟩]
def ptsR (m : Tapi_Marks) (e : Nat) : Nat → List (List UInt8) → List Prt := fun r l => ixMap (ptsP m e r) 0 l
def ptsE (m : Tapi_Marks) : Nat → Tapi_Element → List Prt := fun e x => ixMap (ptsR m e) 0 x.fRepeats
def ptsS (m : Tapi_Marks) (s : Tapi_Segment) : List Prt := ixMap (ptsE m) 0 s.fElements
def TextsOK (l : List Prt) : Prop := ∀ p ∈ l, p.t.length ≤ 1000
theorem tx_R {m : Tapi_Marks} {e r : Nat} {l : List (List UInt8)} (h : ∀ t ∈ l, textF t = 0) : TextsOK (ixMap (ptsP m e r) 0 l) := ixMap_all fun i t ht y hy => by
  simp only [ptsP, List.mem_singleton] at hy; subst hy; exact text_len (h t ht)
theorem tx_E {m : Tapi_Marks} {e : Nat} {l : List (List (List UInt8))} (h : ∀ t ∈ l, repF t = 0) : TextsOK (ixMap (ptsR m e) 0 l) := ixMap_all fun i t ht y hy => tx_R (rep_len (h t ht)).2.2 y hy
theorem tx_S {m : Tapi_Marks} {l : List Tapi_Element} (h : ∀ t ∈ l, elemF t = 0) : TextsOK (ixMap (ptsE m) 0 l) := ixMap_all fun i t ht y hy => tx_E (elem_len (h t ht)).2.2 y hy
theorem ln_R {m : Tapi_Marks} {e r : Nat} {l : List (List UInt8)} : (ixMap (ptsP m e r) 0 l).length ≤ l.length := by
  have := ixMap_len (f := ptsP m e r) (b := 1) l 0 (fun i t ht => by simp [ptsP])
  omega
theorem ln_E {m : Tapi_Marks} {e : Nat} {l : List (List (List UInt8))} (h : ∀ t ∈ l, repF t = 0) : (ixMap (ptsR m e) 0 l).length ≤ l.length * 20 := ixMap_len l 0 fun i t ht => Nat.le_trans ln_R (rep_len (h t ht)).1
theorem ln_S {m : Tapi_Marks} {l : List Tapi_Element} (h : ∀ t ∈ l, elemF t = 0) : (ixMap (ptsE m) 0 l).length ≤ l.length * 400 := ixMap_len l 0 fun i t ht => by
  have h1 := elem_len (h t ht)
  have h2 := ln_E (m := m) (e := i) h1.2.2
  unfold ptsE
  omega
/-! ### The reference's writer -/
def tailB (m : Tapi_Marks) (lines : Bool) : List UInt8 := bif lines then [m.fEnd, 10] else [m.fEnd]
end Go.Proofs.YtfbhhhghjehjjaaDoor

/-
  Plain laws of the wire: the law of the checks.
-/
namespace Go.Proofs.YtfbhhhghjehjjaaDoor
set_option linter.unusedSimpArgs false
set_option linter.unusedVariables false
open Go.RowKit

theorem ixMap_sum {α β : Type} {f : Nat → α → List β} {g : β → Nat} {c : α → Nat} (h : ∀ i e, ((f i e).map g).sum = c e) : ∀ (l : List α) (i : Nat), ((ixMap f i l).map g).sum = (l.map c).sum
  | [], _ => rfl
  | x :: l, i => by simp only [ixMap, List.map_append, List.sum_append, h, ixMap_sum h l, List.map_cons, List.sum_cons]
theorem ptsS_sum (m : Tapi_Marks) (s : Tapi_Segment) : ((ptsS m s).map fun p => cntT m p.t).sum = cntS m s := by
  unfold ptsS cntS
  refine ixMap_sum (fun e x => ?_) _ _
  unfold ptsE cntE
  refine ixMap_sum (fun r l => ?_) _ _
  unfold ptsR cntR
  refine ixMap_sum (fun p t => ?_) _ _
  simp [ptsP]
theorem both_segs {l : List Tapi_Segment} {m : Tapi_Marks} (h : bothF l m = 0) : segsF l = 0 ∧ marksF m = 0 := by
  unfold bothF at h
  split at h
  · rename_i h1; exact ⟨h1, h⟩
  · rename_i h1; exact absurd h h1
theorem awake_true : m_interchangelaw2_awake = some true := by
  unfold m_interchangelaw2_awake sims_G6_0_0; dsimp only
  have h : m_wire_Heading ⟨UInt8.ofNat (Int.toNat 42), UInt8.ofNat (Int.toNat 58), UInt8.ofNat (Int.toNat 94), UInt8.ofNat (Int.toNat 63), UInt8.ofNat (Int.toNat 126)⟩ = some ([77, 82, 75, 42, 58, 94, 63, 126], 0) := by
    unfold m_wire_Heading
    rw [w_marks]
    rfl
  rw [h]
  rfl
end Go.Proofs.YtfbhhhghjehjjaaDoor

/-
  Cut of the program is Cut of the reference (plain law).
-/
namespace Go.Proofs.YtfbhhhghjehjjaaDoor
set_option linter.unusedSimpArgs false
set_option linter.unusedVariables false
open Go.RowKit

theorem marks_two {m : Tapi_Marks} (h : marksF m = 0) : markB m.fElement = true ∧ markB m.fEnd = true ∧ m.fElement ≠ m.fEnd := by
  unfold marksF at h
  split at h
  · cases h
  · rename_i hb
    split at h
    · cases h
    · rename_i ht
      unfold bads at hb
      unfold twice at ht
      simp only [Bool.or_eq_true, not_or] at hb ht
      obtain ⟨⟨⟨⟨b1, b2⟩, b3⟩, b4⟩, b5⟩ := hb
      obtain ⟨⟨⟨⟨⟨⟨⟨⟨⟨t1, t2⟩, t3⟩, t4⟩, t5⟩, t6⟩, t7⟩, t8⟩, t9⟩, t10⟩ := ht
      exact ⟨by simpa using b1, by simpa using b4, fun e => t4 ((eqB_iff _ _).2 e.symm)⟩
/-- What both give. -/
theorem w_Cut (m : Tapi_Marks) (b : Txt) (hm : marksF m = 0) (hb : b.length ≤ 500000) {res : Txt ⊕ (List Tapi_Segment × Bool)} (hres : CutR m [] false b res) : m_wire_Cut b m = some (cutA b res) := by
  obtain ⟨h1, h2, h3⟩ := marks_two hm
  obtain ⟨z, hz, hc⟩ := w_cut m h1 h2 b (by omega) hres
  unfold m_wire_Cut sims_G6_1_0; dsimp only
  have d : decide ((500000 : Int) < (b.length : Int)) = false := decide_eq_false (by omega)
  have d0 : decide ((0 : Int) = 0) = true := rfl
  have d10 : decide ((10 : Int) = 0) = false := rfl
  simp only [w_marks, hm, Option.bind_some, d0, decide_true, decide_false, Bool.not_true, cond_false, d, hz]
  cases res with
  | inl q =>
    simp only [wcutC] at hc
    rw [hc]
    simp only [d10, decide_true, decide_false, Bool.not_false, cond_true, cutA]
  | inr xp =>
    obtain ⟨x, p⟩ := xp
    simp only [wcutC] at hc
    by_cases hs : segsF x = 0
    · rw [if_pos hs] at hc
      obtain ⟨c, hc, hx, hp⟩ := hc
      rw [hc]
      simp only [d0, decide_true, decide_false, Bool.not_true, cond_false, Option.bind_some, cutA, hs, if_true, hx, hp]
    · rw [if_neg hs] at hc
      have d1 : decide (segsF x = 0) = false := decide_eq_false hs
      rw [hc]
      simp only [d1, decide_true, decide_false, Bool.not_false, cond_true, cutA, hs, if_false]
theorem r_Cut (m : Tapi_Marks) (b : Txt) (hm : marksF m = 0) (hb : b.length ≤ 500000) {res : Txt ⊕ (List Tapi_Segment × Bool)} (hres : CutR m [] false b res) : m_interchangeref2_Cut b m = some (cutA b res) := by
  obtain ⟨h1, h2, h3⟩ := marks_two hm
  unfold m_interchangeref2_Cut sims_G6_1_0; dsimp only
  have d : decide ((500000 : Int) < (b.length : Int)) = false := decide_eq_false (by omega)
  have d0 : decide ((0 : Int) = 0) = true := rfl
  simp only [r_marks, hm, Option.bind_some, d0, decide_true, decide_false, Bool.not_true, cond_false, d, r_cut m h3 b (by omega) hres]
theorem w_Cut_bad (m : Tapi_Marks) (b : Txt) (hm : marksF m ≠ 0 ∨ 500000 < b.length) : m_wire_Cut b m = some ([], false, 0, if marksF m ≠ 0 then marksF m else 2) ∧ m_interchangeref2_Cut b m = some ([], false, 0, if marksF m ≠ 0 then marksF m else 2) := by
  unfold m_wire_Cut m_interchangeref2_Cut sims_G6_1_0; dsimp only
  by_cases h : marksF m = 0
  · have d : decide ((500000 : Int) < (b.length : Int)) = true := decide_eq_true (by
      rcases hm with hm | hm
      · exact absurd h hm
      · omega)
    have d0 : decide ((0 : Int) = 0) = true := rfl
    simp only [w_marks, r_marks, h, Option.bind_some, d0, decide_true, decide_false, Bool.not_true, cond_false, d, cond_true, ne_eq, not_true_eq_false, if_false, and_self]
  · have d0 : decide (marksF m = 0) = false := decide_eq_false h
    simp only [w_marks, r_marks, h, Option.bind_some, d0, decide_true, decide_false, Bool.not_false, cond_true, ne_eq, not_false_eq_true, if_true, and_self]
theorem both_Cut (m : Tapi_Marks) (b : Txt) : ∃ z, m_wire_Cut b m = some z ∧ m_interchangeref2_Cut b m = some z ∧ z.1.length ≤ 2000 ∧ ∀ s ∈ z.1, cloneOk s := by
  by_cases h : marksF m ≠ 0 ∨ 500000 < b.length
  · obtain ⟨h1, h2⟩ := w_Cut_bad m b h
    exact ⟨_, h1, h2, by simp, fun _ h => by cases h⟩
  · have hm : marksF m = 0 := by
      by_cases h0 : marksF m = 0
      · exact h0
      · exact absurd (.inl h0) h
    have hb : b.length ≤ 500000 := by
      by_cases h0 : 500000 < b.length
      · exact absurd (.inr h0) h
      · omega
    obtain ⟨res, hres⟩ := cut_total m b.length b (Nat.le_refl _) [] false
    refine ⟨_, w_Cut m b hm hb hres, r_Cut m b hm hb hres, ?_⟩
    cases res with
    | inl q => exact ⟨by simp [cutA], fun _ h => by cases h⟩
    | inr xp =>
      obtain ⟨x, p⟩ := xp
      simp only [cutA]
      split
      · rename_i hs
        obtain ⟨h1, h2⟩ := segs_in hs
        exact ⟨h1, fun s hx => seg_ok (h2 s hx)⟩
      · exact ⟨by simp, fun _ h => by cases h⟩
end Go.Proofs.YtfbhhhghjehjjaaDoor
